/- The code of the evaluator is that of the program (part 1). Printed by program. -/
import Derived.Test.YtcaejedfjobooaaAcRoad
import Derived.Test.YtcaejedfjobooaaEvComp
import Derived.Test.YtcaejedfjobooaaProg
import Derived.KernelRfl
import Derived.Test.YtcaejedfjobooaaEvEnter
namespace Go.Proofs.Ytcaejedfjobooaa
open Go Go.Proofs
namespace Ev
set_option maxRecDepth 1000000
theorem is17 : ∃ F, Try.prog.funcs[17]? = some F ∧ (F.name == "runtime.NumGoroutine") = false ∧ compFn Try.prog F = some af17.strip := ⟨_, Try.func17, by kernel_rfl, by kernel_rfl⟩
theorem is18 : ∃ F, Try.prog.funcs[18]? = some F ∧ (F.name == "runtime.NumGoroutine") = false ∧ compFn Try.prog F = some af18.strip := ⟨_, Try.func18, by kernel_rfl, by kernel_rfl⟩
theorem is19 : ∃ F, Try.prog.funcs[19]? = some F ∧ (F.name == "runtime.NumGoroutine") = false ∧ compFn Try.prog F = some af19.strip := ⟨_, Try.func19, by kernel_rfl, by kernel_rfl⟩
theorem is22 : ∃ F, Try.prog.funcs[22]? = some F ∧ (F.name == "runtime.NumGoroutine") = false ∧ compFn Try.prog F = some af22.strip := ⟨_, Try.func22, by kernel_rfl, by kernel_rfl⟩
theorem is25 : ∃ F, Try.prog.funcs[25]? = some F ∧ (F.name == "runtime.NumGoroutine") = false ∧ compFn Try.prog F = some af25.strip := ⟨_, Try.func25, by kernel_rfl, by kernel_rfl⟩
theorem is26 : ∃ F, Try.prog.funcs[26]? = some F ∧ (F.name == "runtime.NumGoroutine") = false ∧ compFn Try.prog F = some af26.strip := ⟨_, Try.func26, by kernel_rfl, by kernel_rfl⟩
theorem is68 : ∃ F, Try.prog.funcs[68]? = some F ∧ (F.name == "runtime.NumGoroutine") = false ∧ compFn Try.prog F = some af68.strip := ⟨_, Try.func68, by kernel_rfl, by kernel_rfl⟩
theorem is70 : ∃ F, Try.prog.funcs[70]? = some F ∧ (F.name == "runtime.NumGoroutine") = false ∧ compFn Try.prog F = some af70.strip := ⟨_, Try.func70, by kernel_rfl, by kernel_rfl⟩
theorem is73 : ∃ F, Try.prog.funcs[73]? = some F ∧ (F.name == "runtime.NumGoroutine") = false ∧ compFn Try.prog F = some af73.strip := ⟨_, Try.func73, by kernel_rfl, by kernel_rfl⟩
theorem is75 : ∃ F, Try.prog.funcs[75]? = some F ∧ (F.name == "runtime.NumGoroutine") = false ∧ compFn Try.prog F = some af75.strip := ⟨_, Try.func75, by kernel_rfl, by kernel_rfl⟩
theorem is76 : ∃ F, Try.prog.funcs[76]? = some F ∧ (F.name == "runtime.NumGoroutine") = false ∧ compFn Try.prog F = some af76.strip := ⟨_, Try.func76, by kernel_rfl, by kernel_rfl⟩
theorem is79 : ∃ F, Try.prog.funcs[79]? = some F ∧ (F.name == "runtime.NumGoroutine") = false ∧ compFn Try.prog F = some af79.strip := ⟨_, Try.func79, by kernel_rfl, by kernel_rfl⟩
theorem is80 : ∃ F, Try.prog.funcs[80]? = some F ∧ (F.name == "runtime.NumGoroutine") = false ∧ compFn Try.prog F = some af80.strip := ⟨_, Try.func80, by kernel_rfl, by kernel_rfl⟩
theorem is84 : ∃ F, Try.prog.funcs[84]? = some F ∧ (F.name == "runtime.NumGoroutine") = false ∧ compFn Try.prog F = some af84.strip := ⟨_, Try.func84, by kernel_rfl, by kernel_rfl⟩
theorem is88 : ∃ F, Try.prog.funcs[88]? = some F ∧ (F.name == "runtime.NumGoroutine") = false ∧ compFn Try.prog F = some af88.strip := ⟨_, Try.func88, by kernel_rfl, by kernel_rfl⟩
theorem is91 : ∃ F, Try.prog.funcs[91]? = some F ∧ (F.name == "runtime.NumGoroutine") = false ∧ compFn Try.prog F = some af91.strip := ⟨_, Try.func91, by kernel_rfl, by kernel_rfl⟩
theorem is93 : ∃ F, Try.prog.funcs[93]? = some F ∧ (F.name == "runtime.NumGoroutine") = false ∧ compFn Try.prog F = some af93.strip := ⟨_, Try.func93, by kernel_rfl, by kernel_rfl⟩
theorem is94 : ∃ F, Try.prog.funcs[94]? = some F ∧ (F.name == "runtime.NumGoroutine") = false ∧ compFn Try.prog F = some af94.strip := ⟨_, Try.func94, by kernel_rfl, by kernel_rfl⟩
theorem is100 : ∃ F, Try.prog.funcs[100]? = some F ∧ (F.name == "runtime.NumGoroutine") = false ∧ compFn Try.prog F = some af100.strip := ⟨_, Try.func100, by kernel_rfl, by kernel_rfl⟩
theorem is101 : ∃ F, Try.prog.funcs[101]? = some F ∧ (F.name == "runtime.NumGoroutine") = false ∧ compFn Try.prog F = some af101.strip := ⟨_, Try.func101, by kernel_rfl, by kernel_rfl⟩
theorem is102 : ∃ F, Try.prog.funcs[102]? = some F ∧ (F.name == "runtime.NumGoroutine") = false ∧ compFn Try.prog F = some af102.strip := ⟨_, Try.func102, by kernel_rfl, by kernel_rfl⟩
theorem is116 : ∃ F, Try.prog.funcs[116]? = some F ∧ (F.name == "runtime.NumGoroutine") = false ∧ compFn Try.prog F = some af116.strip := ⟨_, Try.func116, by kernel_rfl, by kernel_rfl⟩
theorem is119 : ∃ F, Try.prog.funcs[119]? = some F ∧ (F.name == "runtime.NumGoroutine") = false ∧ compFn Try.prog F = some af119.strip := ⟨_, Try.func119, by kernel_rfl, by kernel_rfl⟩
theorem is123 : ∃ F, Try.prog.funcs[123]? = some F ∧ (F.name == "runtime.NumGoroutine") = false ∧ compFn Try.prog F = some af123.strip := ⟨_, Try.func123, by kernel_rfl, by kernel_rfl⟩
theorem is125 : ∃ F, Try.prog.funcs[125]? = some F ∧ (F.name == "runtime.NumGoroutine") = false ∧ compFn Try.prog F = some af125.strip := ⟨_, Try.func125, by kernel_rfl, by kernel_rfl⟩
theorem is126 : ∃ F, Try.prog.funcs[126]? = some F ∧ (F.name == "runtime.NumGoroutine") = false ∧ compFn Try.prog F = some af126.strip := ⟨_, Try.func126, by kernel_rfl, by kernel_rfl⟩
theorem is128 : ∃ F, Try.prog.funcs[128]? = some F ∧ (F.name == "runtime.NumGoroutine") = false ∧ compFn Try.prog F = some af128.strip := ⟨_, Try.func128, by kernel_rfl, by kernel_rfl⟩
theorem is130 : ∃ F, Try.prog.funcs[130]? = some F ∧ (F.name == "runtime.NumGoroutine") = false ∧ compFn Try.prog F = some af130.strip := ⟨_, Try.func130, by kernel_rfl, by kernel_rfl⟩
theorem is131 : ∃ F, Try.prog.funcs[131]? = some F ∧ (F.name == "runtime.NumGoroutine") = false ∧ compFn Try.prog F = some af131.strip := ⟨_, Try.func131, by kernel_rfl, by kernel_rfl⟩
theorem is137 : ∃ F, Try.prog.funcs[137]? = some F ∧ (F.name == "runtime.NumGoroutine") = false ∧ compFn Try.prog F = some af137.strip := ⟨_, Try.func137, by kernel_rfl, by kernel_rfl⟩
theorem is138 : ∃ F, Try.prog.funcs[138]? = some F ∧ (F.name == "runtime.NumGoroutine") = false ∧ compFn Try.prog F = some af138.strip := ⟨_, Try.func138, by kernel_rfl, by kernel_rfl⟩
theorem is139 : ∃ F, Try.prog.funcs[139]? = some F ∧ (F.name == "runtime.NumGoroutine") = false ∧ compFn Try.prog F = some af139.strip := ⟨_, Try.func139, by kernel_rfl, by kernel_rfl⟩
theorem is141 : ∃ F, Try.prog.funcs[141]? = some F ∧ (F.name == "runtime.NumGoroutine") = false ∧ compFn Try.prog F = some af141.strip := ⟨_, Try.func141, by kernel_rfl, by kernel_rfl⟩
theorem is142 : ∃ F, Try.prog.funcs[142]? = some F ∧ (F.name == "runtime.NumGoroutine") = false ∧ compFn Try.prog F = some af142.strip := ⟨_, Try.func142, by kernel_rfl, by kernel_rfl⟩
theorem is143 : ∃ F, Try.prog.funcs[143]? = some F ∧ (F.name == "runtime.NumGoroutine") = false ∧ compFn Try.prog F = some af143.strip := ⟨_, Try.func143, by kernel_rfl, by kernel_rfl⟩
theorem is144 : ∃ F, Try.prog.funcs[144]? = some F ∧ (F.name == "runtime.NumGoroutine") = false ∧ compFn Try.prog F = some af144.strip := ⟨_, Try.func144, by kernel_rfl, by kernel_rfl⟩
theorem is148 : ∃ F, Try.prog.funcs[148]? = some F ∧ (F.name == "runtime.NumGoroutine") = false ∧ compFn Try.prog F = some af148.strip := ⟨_, Try.func148, by kernel_rfl, by kernel_rfl⟩
theorem is155 : ∃ F, Try.prog.funcs[155]? = some F ∧ (F.name == "runtime.NumGoroutine") = false ∧ compFn Try.prog F = some af155.strip := ⟨_, Try.func155, by kernel_rfl, by kernel_rfl⟩
theorem is172 : ∃ F, Try.prog.funcs[172]? = some F ∧ (F.name == "runtime.NumGoroutine") = false ∧ compFn Try.prog F = some af172.strip := ⟨_, Try.func172, by kernel_rfl, by kernel_rfl⟩
end Ev
end Go.Proofs.Ytcaejedfjobooaa

namespace Go.Proofs.Ytcaejedfjobooaa
open Go Go.Proofs
namespace Ev
set_option maxRecDepth 1000000
theorem is4 : ∃ F, Try.prog.funcs[4]? = some F ∧ (F.name == "runtime.NumGoroutine") = false ∧ compFn Try.prog F = some af4.strip := ⟨_, Try.func4, by kernel_rfl, by kernel_rfl⟩
theorem is16 : ∃ F, Try.prog.funcs[16]? = some F ∧ (F.name == "runtime.NumGoroutine") = false ∧ compFn Try.prog F = some af16.strip := ⟨_, Try.func16, by kernel_rfl, by kernel_rfl⟩
theorem is20 : ∃ F, Try.prog.funcs[20]? = some F ∧ (F.name == "runtime.NumGoroutine") = false ∧ compFn Try.prog F = some af20.strip := ⟨_, Try.func20, by kernel_rfl, by kernel_rfl⟩
theorem is21 : ∃ F, Try.prog.funcs[21]? = some F ∧ (F.name == "runtime.NumGoroutine") = false ∧ compFn Try.prog F = some af21.strip := ⟨_, Try.func21, by kernel_rfl, by kernel_rfl⟩
theorem is23 : ∃ F, Try.prog.funcs[23]? = some F ∧ (F.name == "runtime.NumGoroutine") = false ∧ compFn Try.prog F = some af23.strip := ⟨_, Try.func23, by kernel_rfl, by kernel_rfl⟩
theorem is24 : ∃ F, Try.prog.funcs[24]? = some F ∧ (F.name == "runtime.NumGoroutine") = false ∧ compFn Try.prog F = some af24.strip := ⟨_, Try.func24, by kernel_rfl, by kernel_rfl⟩
theorem is61 : ∃ F, Try.prog.funcs[61]? = some F ∧ (F.name == "runtime.NumGoroutine") = false ∧ compFn Try.prog F = some af61.strip := ⟨_, Try.func61, by kernel_rfl, by kernel_rfl⟩
theorem is62 : ∃ F, Try.prog.funcs[62]? = some F ∧ (F.name == "runtime.NumGoroutine") = false ∧ compFn Try.prog F = some af62.strip := ⟨_, Try.func62, by kernel_rfl, by kernel_rfl⟩
theorem is63 : ∃ F, Try.prog.funcs[63]? = some F ∧ (F.name == "runtime.NumGoroutine") = false ∧ compFn Try.prog F = some af63.strip := ⟨_, Try.func63, by kernel_rfl, by kernel_rfl⟩
theorem is66 : ∃ F, Try.prog.funcs[66]? = some F ∧ (F.name == "runtime.NumGoroutine") = false ∧ compFn Try.prog F = some af66.strip := ⟨_, Try.func66, by kernel_rfl, by kernel_rfl⟩
theorem is67 : ∃ F, Try.prog.funcs[67]? = some F ∧ (F.name == "runtime.NumGoroutine") = false ∧ compFn Try.prog F = some af67.strip := ⟨_, Try.func67, by kernel_rfl, by kernel_rfl⟩
theorem is69 : ∃ F, Try.prog.funcs[69]? = some F ∧ (F.name == "runtime.NumGoroutine") = false ∧ compFn Try.prog F = some af69.strip := ⟨_, Try.func69, by kernel_rfl, by kernel_rfl⟩
theorem is71 : ∃ F, Try.prog.funcs[71]? = some F ∧ (F.name == "runtime.NumGoroutine") = false ∧ compFn Try.prog F = some af71.strip := ⟨_, Try.func71, by kernel_rfl, by kernel_rfl⟩
theorem is74 : ∃ F, Try.prog.funcs[74]? = some F ∧ (F.name == "runtime.NumGoroutine") = false ∧ compFn Try.prog F = some af74.strip := ⟨_, Try.func74, by kernel_rfl, by kernel_rfl⟩
theorem is77 : ∃ F, Try.prog.funcs[77]? = some F ∧ (F.name == "runtime.NumGoroutine") = false ∧ compFn Try.prog F = some af77.strip := ⟨_, Try.func77, by kernel_rfl, by kernel_rfl⟩
theorem is81 : ∃ F, Try.prog.funcs[81]? = some F ∧ (F.name == "runtime.NumGoroutine") = false ∧ compFn Try.prog F = some af81.strip := ⟨_, Try.func81, by kernel_rfl, by kernel_rfl⟩
theorem is83 : ∃ F, Try.prog.funcs[83]? = some F ∧ (F.name == "runtime.NumGoroutine") = false ∧ compFn Try.prog F = some af83.strip := ⟨_, Try.func83, by kernel_rfl, by kernel_rfl⟩
theorem is85 : ∃ F, Try.prog.funcs[85]? = some F ∧ (F.name == "runtime.NumGoroutine") = false ∧ compFn Try.prog F = some af85.strip := ⟨_, Try.func85, by kernel_rfl, by kernel_rfl⟩
theorem is86 : ∃ F, Try.prog.funcs[86]? = some F ∧ (F.name == "runtime.NumGoroutine") = false ∧ compFn Try.prog F = some af86.strip := ⟨_, Try.func86, by kernel_rfl, by kernel_rfl⟩
theorem is89 : ∃ F, Try.prog.funcs[89]? = some F ∧ (F.name == "runtime.NumGoroutine") = false ∧ compFn Try.prog F = some af89.strip := ⟨_, Try.func89, by kernel_rfl, by kernel_rfl⟩
theorem is90 : ∃ F, Try.prog.funcs[90]? = some F ∧ (F.name == "runtime.NumGoroutine") = false ∧ compFn Try.prog F = some af90.strip := ⟨_, Try.func90, by kernel_rfl, by kernel_rfl⟩
theorem is92 : ∃ F, Try.prog.funcs[92]? = some F ∧ (F.name == "runtime.NumGoroutine") = false ∧ compFn Try.prog F = some af92.strip := ⟨_, Try.func92, by kernel_rfl, by kernel_rfl⟩
theorem is95 : ∃ F, Try.prog.funcs[95]? = some F ∧ (F.name == "runtime.NumGoroutine") = false ∧ compFn Try.prog F = some af95.strip := ⟨_, Try.func95, by kernel_rfl, by kernel_rfl⟩
theorem is96 : ∃ F, Try.prog.funcs[96]? = some F ∧ (F.name == "runtime.NumGoroutine") = false ∧ compFn Try.prog F = some af96.strip := ⟨_, Try.func96, by kernel_rfl, by kernel_rfl⟩
theorem is97 : ∃ F, Try.prog.funcs[97]? = some F ∧ (F.name == "runtime.NumGoroutine") = false ∧ compFn Try.prog F = some af97.strip := ⟨_, Try.func97, by kernel_rfl, by kernel_rfl⟩
theorem is98 : ∃ F, Try.prog.funcs[98]? = some F ∧ (F.name == "runtime.NumGoroutine") = false ∧ compFn Try.prog F = some af98.strip := ⟨_, Try.func98, by kernel_rfl, by kernel_rfl⟩
theorem is117 : ∃ F, Try.prog.funcs[117]? = some F ∧ (F.name == "runtime.NumGoroutine") = false ∧ compFn Try.prog F = some af117.strip := ⟨_, Try.func117, by kernel_rfl, by kernel_rfl⟩
theorem is118 : ∃ F, Try.prog.funcs[118]? = some F ∧ (F.name == "runtime.NumGoroutine") = false ∧ compFn Try.prog F = some af118.strip := ⟨_, Try.func118, by kernel_rfl, by kernel_rfl⟩
theorem is120 : ∃ F, Try.prog.funcs[120]? = some F ∧ (F.name == "runtime.NumGoroutine") = false ∧ compFn Try.prog F = some af120.strip := ⟨_, Try.func120, by kernel_rfl, by kernel_rfl⟩
theorem is121 : ∃ F, Try.prog.funcs[121]? = some F ∧ (F.name == "runtime.NumGoroutine") = false ∧ compFn Try.prog F = some af121.strip := ⟨_, Try.func121, by kernel_rfl, by kernel_rfl⟩
theorem is122 : ∃ F, Try.prog.funcs[122]? = some F ∧ (F.name == "runtime.NumGoroutine") = false ∧ compFn Try.prog F = some af122.strip := ⟨_, Try.func122, by kernel_rfl, by kernel_rfl⟩
theorem is124 : ∃ F, Try.prog.funcs[124]? = some F ∧ (F.name == "runtime.NumGoroutine") = false ∧ compFn Try.prog F = some af124.strip := ⟨_, Try.func124, by kernel_rfl, by kernel_rfl⟩
theorem is127 : ∃ F, Try.prog.funcs[127]? = some F ∧ (F.name == "runtime.NumGoroutine") = false ∧ compFn Try.prog F = some af127.strip := ⟨_, Try.func127, by kernel_rfl, by kernel_rfl⟩
theorem is140 : ∃ F, Try.prog.funcs[140]? = some F ∧ (F.name == "runtime.NumGoroutine") = false ∧ compFn Try.prog F = some af140.strip := ⟨_, Try.func140, by kernel_rfl, by kernel_rfl⟩
theorem is149 : ∃ F, Try.prog.funcs[149]? = some F ∧ (F.name == "runtime.NumGoroutine") = false ∧ compFn Try.prog F = some af149.strip := ⟨_, Try.func149, by kernel_rfl, by kernel_rfl⟩
theorem is150 : ∃ F, Try.prog.funcs[150]? = some F ∧ (F.name == "runtime.NumGoroutine") = false ∧ compFn Try.prog F = some af150.strip := ⟨_, Try.func150, by kernel_rfl, by kernel_rfl⟩
theorem is151 : ∃ F, Try.prog.funcs[151]? = some F ∧ (F.name == "runtime.NumGoroutine") = false ∧ compFn Try.prog F = some af151.strip := ⟨_, Try.func151, by kernel_rfl, by kernel_rfl⟩
theorem is173 : ∃ F, Try.prog.funcs[173]? = some F ∧ (F.name == "runtime.NumGoroutine") = false ∧ compFn Try.prog F = some af173.strip := ⟨_, Try.func173, by kernel_rfl, by kernel_rfl⟩
end Ev
end Go.Proofs.Ytcaejedfjobooaa

namespace Go.Proofs.Ytcaejedfjobooaa
open Go Go.Proofs
namespace Ev
/-- Of all entries. -/
def FT.All (p : Nat → AFunc → Prop) : FT → Prop
  | .leaf => True
  | .node k f l r => p k f ∧ (FT.All p l ∧ FT.All p r)
theorem FT.find_all {p : Nat → AFunc → Prop} : ∀ {t : FT} {n : Nat} {f : AFunc}, FT.All p t → FT.find t n = some f → p n f
  | .leaf, n, f, _, h => by cases h
  | .node k g l r, n, f, ha, h => by
    have e : FT.find (.node k g l r) n = (Bool.rec (Bool.rec (FT.find r n) (FT.find l n) (Nat.ble (Nat.succ n) k)) (some g) (Nat.beq n k) : Option AFunc) := rfl
    rw [e] at h
    cases hb : Nat.beq n k with
    | true => rw [hb] at h; cases h; rw [Nat.eq_of_beq_eq_true hb]; exact ha.1
    | false =>
      rw [hb] at h
      cases hc : Nat.ble (Nat.succ n) k with
      | true => rw [hc] at h; exact FT.find_all ha.2.1 h
      | false => rw [hc] at h; exact FT.find_all ha.2.2 h
theorem tree_is : FT.All (fun k af => ∃ F, Try.prog.funcs[k]? = some F ∧ (F.name == "runtime.NumGoroutine") = false ∧ compFn Try.prog F = some af.strip) fnTree :=
  ⟨is93, ⟨is70, ⟨is24, ⟨is19, ⟨is17, ⟨is16, ⟨is4, trivial, trivial⟩, trivial⟩, ⟨is18, trivial, trivial⟩⟩, ⟨is22, ⟨is21, ⟨is20, trivial, trivial⟩, trivial⟩, ⟨is23, trivial, trivial⟩⟩⟩, ⟨is63, ⟨is61, ⟨is26, ⟨is25, trivial, trivial⟩, trivial⟩, ⟨is62, trivial, trivial⟩⟩, ⟨is68, ⟨is67, ⟨is66, trivial, trivial⟩, trivial⟩, ⟨is69, trivial, trivial⟩⟩⟩⟩, ⟨is83, ⟨is76, ⟨is74, ⟨is73, ⟨is71, trivial, trivial⟩, trivial⟩, ⟨is75, trivial, trivial⟩⟩, ⟨is80, ⟨is79, ⟨is77, trivial, trivial⟩, trivial⟩, ⟨is81, trivial, trivial⟩⟩⟩, ⟨is89, ⟨is86, ⟨is85, ⟨is84, trivial, trivial⟩, trivial⟩, ⟨is88, trivial, trivial⟩⟩, ⟨is91, ⟨is90, trivial, trivial⟩, ⟨is92, trivial, trivial⟩⟩⟩⟩⟩, ⟨is127, ⟨is117, ⟨is98, ⟨is96, ⟨is95, ⟨is94, trivial, trivial⟩, trivial⟩, ⟨is97, trivial, trivial⟩⟩, ⟨is102, ⟨is101, ⟨is100, trivial, trivial⟩, trivial⟩, ⟨is116, trivial, trivial⟩⟩⟩, ⟨is122, ⟨is120, ⟨is119, ⟨is118, trivial, trivial⟩, trivial⟩, ⟨is121, trivial, trivial⟩⟩, ⟨is125, ⟨is124, ⟨is123, trivial, trivial⟩, trivial⟩, ⟨is126, trivial, trivial⟩⟩⟩⟩, ⟨is143, ⟨is138, ⟨is131, ⟨is130, ⟨is128, trivial, trivial⟩, trivial⟩, ⟨is137, trivial, trivial⟩⟩, ⟨is141, ⟨is140, ⟨is139, trivial, trivial⟩, trivial⟩, ⟨is142, trivial, trivial⟩⟩⟩, ⟨is151, ⟨is149, ⟨is148, ⟨is144, trivial, trivial⟩, trivial⟩, ⟨is150, trivial, trivial⟩⟩, ⟨is172, ⟨is155, trivial, trivial⟩, ⟨is173, trivial, trivial⟩⟩⟩⟩⟩⟩
end Ev
end Go.Proofs.Ytcaejedfjobooaa
