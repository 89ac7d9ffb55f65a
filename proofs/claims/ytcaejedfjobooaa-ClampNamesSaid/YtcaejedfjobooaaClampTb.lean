/- The table of the evaluator is that of the program. Printed by program. -/
import Derived.Test.YtcaejedfjobooaaClampTb1
import Derived.Test.YtcaejedfjobooaaClampTb2
import Derived.Test.YtcaejedfjobooaaEvEnter
namespace Go.Proofs.Ytcaejedfjobooaa
open Go Go.Proofs
namespace Ev
/-- Of all entries. -/
def FT.All (p : Nat → AFunc → Prop) : FT → Prop
  | .leaf => True
  | .node k f l r => p k f ∧ (FT.All p l ∧ FT.All p r)
theorem FT.find_all {p : Nat → AFunc → Prop} : ∀ {t : FT} {n : Nat} {f : AFunc}, FT.All p t → FT.find t n = some f → p n f
  | .leaf, n, f, _, h => by cases h
  | .node k g l r, n, f, ha, h => by
    have e : FT.find (.node k g l r) n = (Bool.rec (Bool.rec (FT.find r n) (FT.find l n) (Nat.ble (Nat.succ n) k)) (some g) (Nat.beq n k) : Option AFunc) := rfl
    rw [e] at h
    cases hb : Nat.beq n k with
    | true => rw [hb] at h; cases h; rw [Nat.eq_of_beq_eq_true hb]; exact ha.1
    | false =>
      rw [hb] at h
      cases hc : Nat.ble (Nat.succ n) k with
      | true => rw [hc] at h; exact FT.find_all ha.2.1 h
      | false => rw [hc] at h; exact FT.find_all ha.2.2 h
theorem tree_is : FT.All (fun k af => ∃ F, Try.prog.funcs[k]? = some F ∧ (F.name == "runtime.NumGoroutine") = false ∧ compFn Try.prog F = some af.strip) fnTree :=
  ⟨is58, ⟨is35, ⟨is13, ⟨is8, ⟨is6, ⟨is5, ⟨is3, trivial, trivial⟩, trivial⟩, ⟨is7, trivial, trivial⟩⟩, ⟨is11, ⟨is10, ⟨is9, trivial, trivial⟩, trivial⟩, ⟨is12, trivial, trivial⟩⟩⟩, ⟨is31, ⟨is29, ⟨is15, ⟨is14, trivial, trivial⟩, trivial⟩, ⟨is30, trivial, trivial⟩⟩, ⟨is33, ⟨is32, trivial, trivial⟩, ⟨is34, trivial, trivial⟩⟩⟩⟩, ⟨is47, ⟨is43, ⟨is40, ⟨is38, ⟨is36, trivial, trivial⟩, trivial⟩, ⟨is42, trivial, trivial⟩⟩, ⟨is45, ⟨is44, trivial, trivial⟩, ⟨is46, trivial, trivial⟩⟩⟩, ⟨is54, ⟨is51, ⟨is50, ⟨is49, trivial, trivial⟩, trivial⟩, ⟨is52, trivial, trivial⟩⟩, ⟨is56, ⟨is55, trivial, trivial⟩, ⟨is57, trivial, trivial⟩⟩⟩⟩⟩, ⟨is134, ⟨is107, ⟨is103, ⟨is93, ⟨is60, ⟨is59, trivial, trivial⟩, trivial⟩, ⟨is95, trivial, trivial⟩⟩, ⟨is105, ⟨is104, trivial, trivial⟩, ⟨is106, trivial, trivial⟩⟩⟩, ⟨is112, ⟨is110, ⟨is109, ⟨is108, trivial, trivial⟩, trivial⟩, ⟨is111, trivial, trivial⟩⟩, ⟨is128, ⟨is113, trivial, trivial⟩, ⟨is130, trivial, trivial⟩⟩⟩⟩, ⟨is152, ⟨is145, ⟨is143, ⟨is136, ⟨is135, trivial, trivial⟩, trivial⟩, ⟨is144, trivial, trivial⟩⟩, ⟨is147, ⟨is146, trivial, trivial⟩, ⟨is151, trivial, trivial⟩⟩⟩, ⟨is175, ⟨is155, ⟨is154, ⟨is153, trivial, trivial⟩, trivial⟩, ⟨is156, trivial, trivial⟩⟩, ⟨is177, ⟨is176, trivial, trivial⟩, ⟨is178, trivial, trivial⟩⟩⟩⟩⟩⟩
end Ev
end Go.Proofs.Ytcaejedfjobooaa
