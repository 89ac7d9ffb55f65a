/- The code of the evaluator is that of the program (part 2). Printed by program. -/
import Derived.Test.YtcaejedfjobooaaAcClamp
import Derived.Test.YtcaejedfjobooaaEvComp
import Derived.Test.YtcaejedfjobooaaProg
import Derived.KernelRfl
namespace Go.Proofs.Ytcaejedfjobooaa
open Go Go.Proofs
namespace Ev
set_option maxRecDepth 1000000
theorem is3 : ∃ F, Try.prog.funcs[3]? = some F ∧ (F.name == "runtime.NumGoroutine") = false ∧ compFn Try.prog F = some af3.strip := ⟨_, Try.func3, by kernel_rfl, by kernel_rfl⟩
theorem is5 : ∃ F, Try.prog.funcs[5]? = some F ∧ (F.name == "runtime.NumGoroutine") = false ∧ compFn Try.prog F = some af5.strip := ⟨_, Try.func5, by kernel_rfl, by kernel_rfl⟩
theorem is7 : ∃ F, Try.prog.funcs[7]? = some F ∧ (F.name == "runtime.NumGoroutine") = false ∧ compFn Try.prog F = some af7.strip := ⟨_, Try.func7, by kernel_rfl, by kernel_rfl⟩
theorem is9 : ∃ F, Try.prog.funcs[9]? = some F ∧ (F.name == "runtime.NumGoroutine") = false ∧ compFn Try.prog F = some af9.strip := ⟨_, Try.func9, by kernel_rfl, by kernel_rfl⟩
theorem is11 : ∃ F, Try.prog.funcs[11]? = some F ∧ (F.name == "runtime.NumGoroutine") = false ∧ compFn Try.prog F = some af11.strip := ⟨_, Try.func11, by kernel_rfl, by kernel_rfl⟩
theorem is14 : ∃ F, Try.prog.funcs[14]? = some F ∧ (F.name == "runtime.NumGoroutine") = false ∧ compFn Try.prog F = some af14.strip := ⟨_, Try.func14, by kernel_rfl, by kernel_rfl⟩
theorem is15 : ∃ F, Try.prog.funcs[15]? = some F ∧ (F.name == "runtime.NumGoroutine") = false ∧ compFn Try.prog F = some af15.strip := ⟨_, Try.func15, by kernel_rfl, by kernel_rfl⟩
theorem is30 : ∃ F, Try.prog.funcs[30]? = some F ∧ (F.name == "runtime.NumGoroutine") = false ∧ compFn Try.prog F = some af30.strip := ⟨_, Try.func30, by kernel_rfl, by kernel_rfl⟩
theorem is31 : ∃ F, Try.prog.funcs[31]? = some F ∧ (F.name == "runtime.NumGoroutine") = false ∧ compFn Try.prog F = some af31.strip := ⟨_, Try.func31, by kernel_rfl, by kernel_rfl⟩
theorem is33 : ∃ F, Try.prog.funcs[33]? = some F ∧ (F.name == "runtime.NumGoroutine") = false ∧ compFn Try.prog F = some af33.strip := ⟨_, Try.func33, by kernel_rfl, by kernel_rfl⟩
theorem is38 : ∃ F, Try.prog.funcs[38]? = some F ∧ (F.name == "runtime.NumGoroutine") = false ∧ compFn Try.prog F = some af38.strip := ⟨_, Try.func38, by kernel_rfl, by kernel_rfl⟩
theorem is40 : ∃ F, Try.prog.funcs[40]? = some F ∧ (F.name == "runtime.NumGoroutine") = false ∧ compFn Try.prog F = some af40.strip := ⟨_, Try.func40, by kernel_rfl, by kernel_rfl⟩
theorem is43 : ∃ F, Try.prog.funcs[43]? = some F ∧ (F.name == "runtime.NumGoroutine") = false ∧ compFn Try.prog F = some af43.strip := ⟨_, Try.func43, by kernel_rfl, by kernel_rfl⟩
theorem is45 : ∃ F, Try.prog.funcs[45]? = some F ∧ (F.name == "runtime.NumGoroutine") = false ∧ compFn Try.prog F = some af45.strip := ⟨_, Try.func45, by kernel_rfl, by kernel_rfl⟩
theorem is46 : ∃ F, Try.prog.funcs[46]? = some F ∧ (F.name == "runtime.NumGoroutine") = false ∧ compFn Try.prog F = some af46.strip := ⟨_, Try.func46, by kernel_rfl, by kernel_rfl⟩
theorem is47 : ∃ F, Try.prog.funcs[47]? = some F ∧ (F.name == "runtime.NumGoroutine") = false ∧ compFn Try.prog F = some af47.strip := ⟨_, Try.func47, by kernel_rfl, by kernel_rfl⟩
theorem is51 : ∃ F, Try.prog.funcs[51]? = some F ∧ (F.name == "runtime.NumGoroutine") = false ∧ compFn Try.prog F = some af51.strip := ⟨_, Try.func51, by kernel_rfl, by kernel_rfl⟩
theorem is54 : ∃ F, Try.prog.funcs[54]? = some F ∧ (F.name == "runtime.NumGoroutine") = false ∧ compFn Try.prog F = some af54.strip := ⟨_, Try.func54, by kernel_rfl, by kernel_rfl⟩
theorem is55 : ∃ F, Try.prog.funcs[55]? = some F ∧ (F.name == "runtime.NumGoroutine") = false ∧ compFn Try.prog F = some af55.strip := ⟨_, Try.func55, by kernel_rfl, by kernel_rfl⟩
theorem is56 : ∃ F, Try.prog.funcs[56]? = some F ∧ (F.name == "runtime.NumGoroutine") = false ∧ compFn Try.prog F = some af56.strip := ⟨_, Try.func56, by kernel_rfl, by kernel_rfl⟩
theorem is60 : ∃ F, Try.prog.funcs[60]? = some F ∧ (F.name == "runtime.NumGoroutine") = false ∧ compFn Try.prog F = some af60.strip := ⟨_, Try.func60, by kernel_rfl, by kernel_rfl⟩
theorem is93 : ∃ F, Try.prog.funcs[93]? = some F ∧ (F.name == "runtime.NumGoroutine") = false ∧ compFn Try.prog F = some af93.strip := ⟨_, Try.func93, by kernel_rfl, by kernel_rfl⟩
theorem is105 : ∃ F, Try.prog.funcs[105]? = some F ∧ (F.name == "runtime.NumGoroutine") = false ∧ compFn Try.prog F = some af105.strip := ⟨_, Try.func105, by kernel_rfl, by kernel_rfl⟩
theorem is106 : ∃ F, Try.prog.funcs[106]? = some F ∧ (F.name == "runtime.NumGoroutine") = false ∧ compFn Try.prog F = some af106.strip := ⟨_, Try.func106, by kernel_rfl, by kernel_rfl⟩
theorem is107 : ∃ F, Try.prog.funcs[107]? = some F ∧ (F.name == "runtime.NumGoroutine") = false ∧ compFn Try.prog F = some af107.strip := ⟨_, Try.func107, by kernel_rfl, by kernel_rfl⟩
theorem is108 : ∃ F, Try.prog.funcs[108]? = some F ∧ (F.name == "runtime.NumGoroutine") = false ∧ compFn Try.prog F = some af108.strip := ⟨_, Try.func108, by kernel_rfl, by kernel_rfl⟩
theorem is109 : ∃ F, Try.prog.funcs[109]? = some F ∧ (F.name == "runtime.NumGoroutine") = false ∧ compFn Try.prog F = some af109.strip := ⟨_, Try.func109, by kernel_rfl, by kernel_rfl⟩
theorem is111 : ∃ F, Try.prog.funcs[111]? = some F ∧ (F.name == "runtime.NumGoroutine") = false ∧ compFn Try.prog F = some af111.strip := ⟨_, Try.func111, by kernel_rfl, by kernel_rfl⟩
theorem is128 : ∃ F, Try.prog.funcs[128]? = some F ∧ (F.name == "runtime.NumGoroutine") = false ∧ compFn Try.prog F = some af128.strip := ⟨_, Try.func128, by kernel_rfl, by kernel_rfl⟩
theorem is130 : ∃ F, Try.prog.funcs[130]? = some F ∧ (F.name == "runtime.NumGoroutine") = false ∧ compFn Try.prog F = some af130.strip := ⟨_, Try.func130, by kernel_rfl, by kernel_rfl⟩
theorem is134 : ∃ F, Try.prog.funcs[134]? = some F ∧ (F.name == "runtime.NumGoroutine") = false ∧ compFn Try.prog F = some af134.strip := ⟨_, Try.func134, by kernel_rfl, by kernel_rfl⟩
theorem is145 : ∃ F, Try.prog.funcs[145]? = some F ∧ (F.name == "runtime.NumGoroutine") = false ∧ compFn Try.prog F = some af145.strip := ⟨_, Try.func145, by kernel_rfl, by kernel_rfl⟩
theorem is151 : ∃ F, Try.prog.funcs[151]? = some F ∧ (F.name == "runtime.NumGoroutine") = false ∧ compFn Try.prog F = some af151.strip := ⟨_, Try.func151, by kernel_rfl, by kernel_rfl⟩
theorem is153 : ∃ F, Try.prog.funcs[153]? = some F ∧ (F.name == "runtime.NumGoroutine") = false ∧ compFn Try.prog F = some af153.strip := ⟨_, Try.func153, by kernel_rfl, by kernel_rfl⟩
theorem is156 : ∃ F, Try.prog.funcs[156]? = some F ∧ (F.name == "runtime.NumGoroutine") = false ∧ compFn Try.prog F = some af156.strip := ⟨_, Try.func156, by kernel_rfl, by kernel_rfl⟩
theorem is176 : ∃ F, Try.prog.funcs[176]? = some F ∧ (F.name == "runtime.NumGoroutine") = false ∧ compFn Try.prog F = some af176.strip := ⟨_, Try.func176, by kernel_rfl, by kernel_rfl⟩
theorem is178 : ∃ F, Try.prog.funcs[178]? = some F ∧ (F.name == "runtime.NumGoroutine") = false ∧ compFn Try.prog F = some af178.strip := ⟨_, Try.func178, by kernel_rfl, by kernel_rfl⟩
end Ev
end Go.Proofs.Ytcaejedfjobooaa
