/- The code of the evaluator is that of the program (part 1). Printed by program. -/
import Derived.Test.YtcaejedfjobooaaAcClamp
import Derived.Test.YtcaejedfjobooaaEvComp
import Derived.Test.YtcaejedfjobooaaProg
import Derived.KernelRfl
namespace Go.Proofs.Ytcaejedfjobooaa
open Go Go.Proofs
namespace Ev
set_option maxRecDepth 1000000
theorem is6 : ∃ F, Try.prog.funcs[6]? = some F ∧ (F.name == "runtime.NumGoroutine") = false ∧ compFn Try.prog F = some af6.strip := ⟨_, Try.func6, by kernel_rfl, by kernel_rfl⟩
theorem is8 : ∃ F, Try.prog.funcs[8]? = some F ∧ (F.name == "runtime.NumGoroutine") = false ∧ compFn Try.prog F = some af8.strip := ⟨_, Try.func8, by kernel_rfl, by kernel_rfl⟩
theorem is10 : ∃ F, Try.prog.funcs[10]? = some F ∧ (F.name == "runtime.NumGoroutine") = false ∧ compFn Try.prog F = some af10.strip := ⟨_, Try.func10, by kernel_rfl, by kernel_rfl⟩
theorem is12 : ∃ F, Try.prog.funcs[12]? = some F ∧ (F.name == "runtime.NumGoroutine") = false ∧ compFn Try.prog F = some af12.strip := ⟨_, Try.func12, by kernel_rfl, by kernel_rfl⟩
theorem is13 : ∃ F, Try.prog.funcs[13]? = some F ∧ (F.name == "runtime.NumGoroutine") = false ∧ compFn Try.prog F = some af13.strip := ⟨_, Try.func13, by kernel_rfl, by kernel_rfl⟩
theorem is29 : ∃ F, Try.prog.funcs[29]? = some F ∧ (F.name == "runtime.NumGoroutine") = false ∧ compFn Try.prog F = some af29.strip := ⟨_, Try.func29, by kernel_rfl, by kernel_rfl⟩
theorem is32 : ∃ F, Try.prog.funcs[32]? = some F ∧ (F.name == "runtime.NumGoroutine") = false ∧ compFn Try.prog F = some af32.strip := ⟨_, Try.func32, by kernel_rfl, by kernel_rfl⟩
theorem is34 : ∃ F, Try.prog.funcs[34]? = some F ∧ (F.name == "runtime.NumGoroutine") = false ∧ compFn Try.prog F = some af34.strip := ⟨_, Try.func34, by kernel_rfl, by kernel_rfl⟩
theorem is35 : ∃ F, Try.prog.funcs[35]? = some F ∧ (F.name == "runtime.NumGoroutine") = false ∧ compFn Try.prog F = some af35.strip := ⟨_, Try.func35, by kernel_rfl, by kernel_rfl⟩
theorem is36 : ∃ F, Try.prog.funcs[36]? = some F ∧ (F.name == "runtime.NumGoroutine") = false ∧ compFn Try.prog F = some af36.strip := ⟨_, Try.func36, by kernel_rfl, by kernel_rfl⟩
theorem is42 : ∃ F, Try.prog.funcs[42]? = some F ∧ (F.name == "runtime.NumGoroutine") = false ∧ compFn Try.prog F = some af42.strip := ⟨_, Try.func42, by kernel_rfl, by kernel_rfl⟩
theorem is44 : ∃ F, Try.prog.funcs[44]? = some F ∧ (F.name == "runtime.NumGoroutine") = false ∧ compFn Try.prog F = some af44.strip := ⟨_, Try.func44, by kernel_rfl, by kernel_rfl⟩
theorem is49 : ∃ F, Try.prog.funcs[49]? = some F ∧ (F.name == "runtime.NumGoroutine") = false ∧ compFn Try.prog F = some af49.strip := ⟨_, Try.func49, by kernel_rfl, by kernel_rfl⟩
theorem is50 : ∃ F, Try.prog.funcs[50]? = some F ∧ (F.name == "runtime.NumGoroutine") = false ∧ compFn Try.prog F = some af50.strip := ⟨_, Try.func50, by kernel_rfl, by kernel_rfl⟩
theorem is52 : ∃ F, Try.prog.funcs[52]? = some F ∧ (F.name == "runtime.NumGoroutine") = false ∧ compFn Try.prog F = some af52.strip := ⟨_, Try.func52, by kernel_rfl, by kernel_rfl⟩
theorem is57 : ∃ F, Try.prog.funcs[57]? = some F ∧ (F.name == "runtime.NumGoroutine") = false ∧ compFn Try.prog F = some af57.strip := ⟨_, Try.func57, by kernel_rfl, by kernel_rfl⟩
theorem is58 : ∃ F, Try.prog.funcs[58]? = some F ∧ (F.name == "runtime.NumGoroutine") = false ∧ compFn Try.prog F = some af58.strip := ⟨_, Try.func58, by kernel_rfl, by kernel_rfl⟩
theorem is59 : ∃ F, Try.prog.funcs[59]? = some F ∧ (F.name == "runtime.NumGoroutine") = false ∧ compFn Try.prog F = some af59.strip := ⟨_, Try.func59, by kernel_rfl, by kernel_rfl⟩
theorem is95 : ∃ F, Try.prog.funcs[95]? = some F ∧ (F.name == "runtime.NumGoroutine") = false ∧ compFn Try.prog F = some af95.strip := ⟨_, Try.func95, by kernel_rfl, by kernel_rfl⟩
theorem is103 : ∃ F, Try.prog.funcs[103]? = some F ∧ (F.name == "runtime.NumGoroutine") = false ∧ compFn Try.prog F = some af103.strip := ⟨_, Try.func103, by kernel_rfl, by kernel_rfl⟩
theorem is104 : ∃ F, Try.prog.funcs[104]? = some F ∧ (F.name == "runtime.NumGoroutine") = false ∧ compFn Try.prog F = some af104.strip := ⟨_, Try.func104, by kernel_rfl, by kernel_rfl⟩
theorem is110 : ∃ F, Try.prog.funcs[110]? = some F ∧ (F.name == "runtime.NumGoroutine") = false ∧ compFn Try.prog F = some af110.strip := ⟨_, Try.func110, by kernel_rfl, by kernel_rfl⟩
theorem is112 : ∃ F, Try.prog.funcs[112]? = some F ∧ (F.name == "runtime.NumGoroutine") = false ∧ compFn Try.prog F = some af112.strip := ⟨_, Try.func112, by kernel_rfl, by kernel_rfl⟩
theorem is113 : ∃ F, Try.prog.funcs[113]? = some F ∧ (F.name == "runtime.NumGoroutine") = false ∧ compFn Try.prog F = some af113.strip := ⟨_, Try.func113, by kernel_rfl, by kernel_rfl⟩
theorem is135 : ∃ F, Try.prog.funcs[135]? = some F ∧ (F.name == "runtime.NumGoroutine") = false ∧ compFn Try.prog F = some af135.strip := ⟨_, Try.func135, by kernel_rfl, by kernel_rfl⟩
theorem is136 : ∃ F, Try.prog.funcs[136]? = some F ∧ (F.name == "runtime.NumGoroutine") = false ∧ compFn Try.prog F = some af136.strip := ⟨_, Try.func136, by kernel_rfl, by kernel_rfl⟩
theorem is143 : ∃ F, Try.prog.funcs[143]? = some F ∧ (F.name == "runtime.NumGoroutine") = false ∧ compFn Try.prog F = some af143.strip := ⟨_, Try.func143, by kernel_rfl, by kernel_rfl⟩
theorem is144 : ∃ F, Try.prog.funcs[144]? = some F ∧ (F.name == "runtime.NumGoroutine") = false ∧ compFn Try.prog F = some af144.strip := ⟨_, Try.func144, by kernel_rfl, by kernel_rfl⟩
theorem is146 : ∃ F, Try.prog.funcs[146]? = some F ∧ (F.name == "runtime.NumGoroutine") = false ∧ compFn Try.prog F = some af146.strip := ⟨_, Try.func146, by kernel_rfl, by kernel_rfl⟩
theorem is147 : ∃ F, Try.prog.funcs[147]? = some F ∧ (F.name == "runtime.NumGoroutine") = false ∧ compFn Try.prog F = some af147.strip := ⟨_, Try.func147, by kernel_rfl, by kernel_rfl⟩
theorem is152 : ∃ F, Try.prog.funcs[152]? = some F ∧ (F.name == "runtime.NumGoroutine") = false ∧ compFn Try.prog F = some af152.strip := ⟨_, Try.func152, by kernel_rfl, by kernel_rfl⟩
theorem is154 : ∃ F, Try.prog.funcs[154]? = some F ∧ (F.name == "runtime.NumGoroutine") = false ∧ compFn Try.prog F = some af154.strip := ⟨_, Try.func154, by kernel_rfl, by kernel_rfl⟩
theorem is155 : ∃ F, Try.prog.funcs[155]? = some F ∧ (F.name == "runtime.NumGoroutine") = false ∧ compFn Try.prog F = some af155.strip := ⟨_, Try.func155, by kernel_rfl, by kernel_rfl⟩
theorem is175 : ∃ F, Try.prog.funcs[175]? = some F ∧ (F.name == "runtime.NumGoroutine") = false ∧ compFn Try.prog F = some af175.strip := ⟨_, Try.func175, by kernel_rfl, by kernel_rfl⟩
theorem is177 : ∃ F, Try.prog.funcs[177]? = some F ∧ (F.name == "runtime.NumGoroutine") = false ∧ compFn Try.prog F = some af177.strip := ⟨_, Try.func177, by kernel_rfl, by kernel_rfl⟩
end Ev
end Go.Proofs.Ytcaejedfjobooaa
