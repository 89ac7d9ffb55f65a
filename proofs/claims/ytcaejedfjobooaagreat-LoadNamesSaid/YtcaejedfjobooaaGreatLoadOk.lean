/- The code of the evaluator is that of the program (part 1). Printed by program. -/
import Derived.Test.YtcaejedfjobooaaGreatAcLoad
import Derived.Test.YtcaejedfjobooaaGreatEvComp
import Derived.Test.YtcaejedfjobooaaGreatProg
import Derived.KernelRfl
import Derived.Test.YtcaejedfjobooaaGreatEvEnter
import Derived.Test.YtcaejedfjobooaaGreatRecCall
import Derived.WalkKit
import Derived.Test.YtcaejedfjobooaaGreatQTail
import Derived.BigQuiet
import Derived.RangeFuncRecord
import Derived.Below
import Derived.Test.YtcaejedfjobooaaGreatLoadPa
import Derived.Test.YtcaejedfjobooaaGreatLoadPb
import Derived.Test.YtcaejedfjobooaaGreatLoadDef
import Derived.Test.YtcaejedfjobooaaGreatEvTop
import Derived.Test.YtcaejedfjobooaaGreatLoadM
namespace Go.Proofs.YtcaejedfjobooaaGreat
open Go Go.Proofs
namespace Ev
set_option maxRecDepth 1000000
theorem is3 : ∃ F, Tryz.prog.funcs[3]? = some F ∧ (F.name == "runtime.NumGoroutine") = false ∧ compFn Tryz.prog F = some af3.strip := ⟨_, Tryz.func3, by kernel_rfl, by kernel_rfl⟩
theorem is4 : ∃ F, Tryz.prog.funcs[4]? = some F ∧ (F.name == "runtime.NumGoroutine") = false ∧ compFn Tryz.prog F = some af4.strip := ⟨_, Tryz.func4, by kernel_rfl, by kernel_rfl⟩
theorem is5 : ∃ F, Tryz.prog.funcs[5]? = some F ∧ (F.name == "runtime.NumGoroutine") = false ∧ compFn Tryz.prog F = some af5.strip := ⟨_, Tryz.func5, by kernel_rfl, by kernel_rfl⟩
theorem is6 : ∃ F, Tryz.prog.funcs[6]? = some F ∧ (F.name == "runtime.NumGoroutine") = false ∧ compFn Tryz.prog F = some af6.strip := ⟨_, Tryz.func6, by kernel_rfl, by kernel_rfl⟩
theorem is7 : ∃ F, Tryz.prog.funcs[7]? = some F ∧ (F.name == "runtime.NumGoroutine") = false ∧ compFn Tryz.prog F = some af7.strip := ⟨_, Tryz.func7, by kernel_rfl, by kernel_rfl⟩
theorem is9 : ∃ F, Tryz.prog.funcs[9]? = some F ∧ (F.name == "runtime.NumGoroutine") = false ∧ compFn Tryz.prog F = some af9.strip := ⟨_, Tryz.func9, by kernel_rfl, by kernel_rfl⟩
theorem is11 : ∃ F, Tryz.prog.funcs[11]? = some F ∧ (F.name == "runtime.NumGoroutine") = false ∧ compFn Tryz.prog F = some af11.strip := ⟨_, Tryz.func11, by kernel_rfl, by kernel_rfl⟩
theorem is15 : ∃ F, Tryz.prog.funcs[15]? = some F ∧ (F.name == "runtime.NumGoroutine") = false ∧ compFn Tryz.prog F = some af15.strip := ⟨_, Tryz.func15, by kernel_rfl, by kernel_rfl⟩
theorem is16 : ∃ F, Tryz.prog.funcs[16]? = some F ∧ (F.name == "runtime.NumGoroutine") = false ∧ compFn Tryz.prog F = some af16.strip := ⟨_, Tryz.func16, by kernel_rfl, by kernel_rfl⟩
theorem is18 : ∃ F, Tryz.prog.funcs[18]? = some F ∧ (F.name == "runtime.NumGoroutine") = false ∧ compFn Tryz.prog F = some af18.strip := ⟨_, Tryz.func18, by kernel_rfl, by kernel_rfl⟩
theorem is19 : ∃ F, Tryz.prog.funcs[19]? = some F ∧ (F.name == "runtime.NumGoroutine") = false ∧ compFn Tryz.prog F = some af19.strip := ⟨_, Tryz.func19, by kernel_rfl, by kernel_rfl⟩
theorem is20 : ∃ F, Tryz.prog.funcs[20]? = some F ∧ (F.name == "runtime.NumGoroutine") = false ∧ compFn Tryz.prog F = some af20.strip := ⟨_, Tryz.func20, by kernel_rfl, by kernel_rfl⟩
theorem is24 : ∃ F, Tryz.prog.funcs[24]? = some F ∧ (F.name == "runtime.NumGoroutine") = false ∧ compFn Tryz.prog F = some af24.strip := ⟨_, Tryz.func24, by kernel_rfl, by kernel_rfl⟩
theorem is26 : ∃ F, Tryz.prog.funcs[26]? = some F ∧ (F.name == "runtime.NumGoroutine") = false ∧ compFn Tryz.prog F = some af26.strip := ⟨_, Tryz.func26, by kernel_rfl, by kernel_rfl⟩
theorem is28 : ∃ F, Tryz.prog.funcs[28]? = some F ∧ (F.name == "runtime.NumGoroutine") = false ∧ compFn Tryz.prog F = some af28.strip := ⟨_, Tryz.func28, by kernel_rfl, by kernel_rfl⟩
theorem is29 : ∃ F, Tryz.prog.funcs[29]? = some F ∧ (F.name == "runtime.NumGoroutine") = false ∧ compFn Tryz.prog F = some af29.strip := ⟨_, Tryz.func29, by kernel_rfl, by kernel_rfl⟩
theorem is31 : ∃ F, Tryz.prog.funcs[31]? = some F ∧ (F.name == "runtime.NumGoroutine") = false ∧ compFn Tryz.prog F = some af31.strip := ⟨_, Tryz.func31, by kernel_rfl, by kernel_rfl⟩
theorem is33 : ∃ F, Tryz.prog.funcs[33]? = some F ∧ (F.name == "runtime.NumGoroutine") = false ∧ compFn Tryz.prog F = some af33.strip := ⟨_, Tryz.func33, by kernel_rfl, by kernel_rfl⟩
theorem is34 : ∃ F, Tryz.prog.funcs[34]? = some F ∧ (F.name == "runtime.NumGoroutine") = false ∧ compFn Tryz.prog F = some af34.strip := ⟨_, Tryz.func34, by kernel_rfl, by kernel_rfl⟩
theorem is35 : ∃ F, Tryz.prog.funcs[35]? = some F ∧ (F.name == "runtime.NumGoroutine") = false ∧ compFn Tryz.prog F = some af35.strip := ⟨_, Tryz.func35, by kernel_rfl, by kernel_rfl⟩
theorem is36 : ∃ F, Tryz.prog.funcs[36]? = some F ∧ (F.name == "runtime.NumGoroutine") = false ∧ compFn Tryz.prog F = some af36.strip := ⟨_, Tryz.func36, by kernel_rfl, by kernel_rfl⟩
theorem is37 : ∃ F, Tryz.prog.funcs[37]? = some F ∧ (F.name == "runtime.NumGoroutine") = false ∧ compFn Tryz.prog F = some af37.strip := ⟨_, Tryz.func37, by kernel_rfl, by kernel_rfl⟩
theorem is41 : ∃ F, Tryz.prog.funcs[41]? = some F ∧ (F.name == "runtime.NumGoroutine") = false ∧ compFn Tryz.prog F = some af41.strip := ⟨_, Tryz.func41, by kernel_rfl, by kernel_rfl⟩
theorem is42 : ∃ F, Tryz.prog.funcs[42]? = some F ∧ (F.name == "runtime.NumGoroutine") = false ∧ compFn Tryz.prog F = some af42.strip := ⟨_, Tryz.func42, by kernel_rfl, by kernel_rfl⟩
theorem is44 : ∃ F, Tryz.prog.funcs[44]? = some F ∧ (F.name == "runtime.NumGoroutine") = false ∧ compFn Tryz.prog F = some af44.strip := ⟨_, Tryz.func44, by kernel_rfl, by kernel_rfl⟩
theorem is45 : ∃ F, Tryz.prog.funcs[45]? = some F ∧ (F.name == "runtime.NumGoroutine") = false ∧ compFn Tryz.prog F = some af45.strip := ⟨_, Tryz.func45, by kernel_rfl, by kernel_rfl⟩
theorem is47 : ∃ F, Tryz.prog.funcs[47]? = some F ∧ (F.name == "runtime.NumGoroutine") = false ∧ compFn Tryz.prog F = some af47.strip := ⟨_, Tryz.func47, by kernel_rfl, by kernel_rfl⟩
theorem is49 : ∃ F, Tryz.prog.funcs[49]? = some F ∧ (F.name == "runtime.NumGoroutine") = false ∧ compFn Tryz.prog F = some af49.strip := ⟨_, Tryz.func49, by kernel_rfl, by kernel_rfl⟩
theorem is50 : ∃ F, Tryz.prog.funcs[50]? = some F ∧ (F.name == "runtime.NumGoroutine") = false ∧ compFn Tryz.prog F = some af50.strip := ⟨_, Tryz.func50, by kernel_rfl, by kernel_rfl⟩
theorem is51 : ∃ F, Tryz.prog.funcs[51]? = some F ∧ (F.name == "runtime.NumGoroutine") = false ∧ compFn Tryz.prog F = some af51.strip := ⟨_, Tryz.func51, by kernel_rfl, by kernel_rfl⟩
theorem is53 : ∃ F, Tryz.prog.funcs[53]? = some F ∧ (F.name == "runtime.NumGoroutine") = false ∧ compFn Tryz.prog F = some af53.strip := ⟨_, Tryz.func53, by kernel_rfl, by kernel_rfl⟩
theorem is54 : ∃ F, Tryz.prog.funcs[54]? = some F ∧ (F.name == "runtime.NumGoroutine") = false ∧ compFn Tryz.prog F = some af54.strip := ⟨_, Tryz.func54, by kernel_rfl, by kernel_rfl⟩
theorem is55 : ∃ F, Tryz.prog.funcs[55]? = some F ∧ (F.name == "runtime.NumGoroutine") = false ∧ compFn Tryz.prog F = some af55.strip := ⟨_, Tryz.func55, by kernel_rfl, by kernel_rfl⟩
theorem is58 : ∃ F, Tryz.prog.funcs[58]? = some F ∧ (F.name == "runtime.NumGoroutine") = false ∧ compFn Tryz.prog F = some af58.strip := ⟨_, Tryz.func58, by kernel_rfl, by kernel_rfl⟩
theorem is60 : ∃ F, Tryz.prog.funcs[60]? = some F ∧ (F.name == "runtime.NumGoroutine") = false ∧ compFn Tryz.prog F = some af60.strip := ⟨_, Tryz.func60, by kernel_rfl, by kernel_rfl⟩
theorem is62 : ∃ F, Tryz.prog.funcs[62]? = some F ∧ (F.name == "runtime.NumGoroutine") = false ∧ compFn Tryz.prog F = some af62.strip := ⟨_, Tryz.func62, by kernel_rfl, by kernel_rfl⟩
theorem is67 : ∃ F, Tryz.prog.funcs[67]? = some F ∧ (F.name == "runtime.NumGoroutine") = false ∧ compFn Tryz.prog F = some af67.strip := ⟨_, Tryz.func67, by kernel_rfl, by kernel_rfl⟩
theorem is70 : ∃ F, Tryz.prog.funcs[70]? = some F ∧ (F.name == "runtime.NumGoroutine") = false ∧ compFn Tryz.prog F = some af70.strip := ⟨_, Tryz.func70, by kernel_rfl, by kernel_rfl⟩
theorem is73 : ∃ F, Tryz.prog.funcs[73]? = some F ∧ (F.name == "runtime.NumGoroutine") = false ∧ compFn Tryz.prog F = some af73.strip := ⟨_, Tryz.func73, by kernel_rfl, by kernel_rfl⟩
theorem is78 : ∃ F, Tryz.prog.funcs[78]? = some F ∧ (F.name == "runtime.NumGoroutine") = false ∧ compFn Tryz.prog F = some af78.strip := ⟨_, Tryz.func78, by kernel_rfl, by kernel_rfl⟩
theorem is81 : ∃ F, Tryz.prog.funcs[81]? = some F ∧ (F.name == "runtime.NumGoroutine") = false ∧ compFn Tryz.prog F = some af81.strip := ⟨_, Tryz.func81, by kernel_rfl, by kernel_rfl⟩
theorem is83 : ∃ F, Tryz.prog.funcs[83]? = some F ∧ (F.name == "runtime.NumGoroutine") = false ∧ compFn Tryz.prog F = some af83.strip := ⟨_, Tryz.func83, by kernel_rfl, by kernel_rfl⟩
theorem is87 : ∃ F, Tryz.prog.funcs[87]? = some F ∧ (F.name == "runtime.NumGoroutine") = false ∧ compFn Tryz.prog F = some af87.strip := ⟨_, Tryz.func87, by kernel_rfl, by kernel_rfl⟩
theorem is88 : ∃ F, Tryz.prog.funcs[88]? = some F ∧ (F.name == "runtime.NumGoroutine") = false ∧ compFn Tryz.prog F = some af88.strip := ⟨_, Tryz.func88, by kernel_rfl, by kernel_rfl⟩
theorem is89 : ∃ F, Tryz.prog.funcs[89]? = some F ∧ (F.name == "runtime.NumGoroutine") = false ∧ compFn Tryz.prog F = some af89.strip := ⟨_, Tryz.func89, by kernel_rfl, by kernel_rfl⟩
theorem is90 : ∃ F, Tryz.prog.funcs[90]? = some F ∧ (F.name == "runtime.NumGoroutine") = false ∧ compFn Tryz.prog F = some af90.strip := ⟨_, Tryz.func90, by kernel_rfl, by kernel_rfl⟩
theorem is107 : ∃ F, Tryz.prog.funcs[107]? = some F ∧ (F.name == "runtime.NumGoroutine") = false ∧ compFn Tryz.prog F = some af107.strip := ⟨_, Tryz.func107, by kernel_rfl, by kernel_rfl⟩
theorem is108 : ∃ F, Tryz.prog.funcs[108]? = some F ∧ (F.name == "runtime.NumGoroutine") = false ∧ compFn Tryz.prog F = some af108.strip := ⟨_, Tryz.func108, by kernel_rfl, by kernel_rfl⟩
theorem is111 : ∃ F, Tryz.prog.funcs[111]? = some F ∧ (F.name == "runtime.NumGoroutine") = false ∧ compFn Tryz.prog F = some af111.strip := ⟨_, Tryz.func111, by kernel_rfl, by kernel_rfl⟩
theorem is114 : ∃ F, Tryz.prog.funcs[114]? = some F ∧ (F.name == "runtime.NumGoroutine") = false ∧ compFn Tryz.prog F = some af114.strip := ⟨_, Tryz.func114, by kernel_rfl, by kernel_rfl⟩
theorem is117 : ∃ F, Tryz.prog.funcs[117]? = some F ∧ (F.name == "runtime.NumGoroutine") = false ∧ compFn Tryz.prog F = some af117.strip := ⟨_, Tryz.func117, by kernel_rfl, by kernel_rfl⟩
theorem is120 : ∃ F, Tryz.prog.funcs[120]? = some F ∧ (F.name == "runtime.NumGoroutine") = false ∧ compFn Tryz.prog F = some af120.strip := ⟨_, Tryz.func120, by kernel_rfl, by kernel_rfl⟩
theorem is121 : ∃ F, Tryz.prog.funcs[121]? = some F ∧ (F.name == "runtime.NumGoroutine") = false ∧ compFn Tryz.prog F = some af121.strip := ⟨_, Tryz.func121, by kernel_rfl, by kernel_rfl⟩
theorem is125 : ∃ F, Tryz.prog.funcs[125]? = some F ∧ (F.name == "runtime.NumGoroutine") = false ∧ compFn Tryz.prog F = some af125.strip := ⟨_, Tryz.func125, by kernel_rfl, by kernel_rfl⟩
theorem is128 : ∃ F, Tryz.prog.funcs[128]? = some F ∧ (F.name == "runtime.NumGoroutine") = false ∧ compFn Tryz.prog F = some af128.strip := ⟨_, Tryz.func128, by kernel_rfl, by kernel_rfl⟩
theorem is129 : ∃ F, Tryz.prog.funcs[129]? = some F ∧ (F.name == "runtime.NumGoroutine") = false ∧ compFn Tryz.prog F = some af129.strip := ⟨_, Tryz.func129, by kernel_rfl, by kernel_rfl⟩
end Ev
end Go.Proofs.YtcaejedfjobooaaGreat

namespace Go.Proofs.YtcaejedfjobooaaGreat
open Go Go.Proofs
namespace Ev
set_option maxRecDepth 1000000
theorem is8 : ∃ F, Tryz.prog.funcs[8]? = some F ∧ (F.name == "runtime.NumGoroutine") = false ∧ compFn Tryz.prog F = some af8.strip := ⟨_, Tryz.func8, by kernel_rfl, by kernel_rfl⟩
theorem is10 : ∃ F, Tryz.prog.funcs[10]? = some F ∧ (F.name == "runtime.NumGoroutine") = false ∧ compFn Tryz.prog F = some af10.strip := ⟨_, Tryz.func10, by kernel_rfl, by kernel_rfl⟩
theorem is12 : ∃ F, Tryz.prog.funcs[12]? = some F ∧ (F.name == "runtime.NumGoroutine") = false ∧ compFn Tryz.prog F = some af12.strip := ⟨_, Tryz.func12, by kernel_rfl, by kernel_rfl⟩
theorem is13 : ∃ F, Tryz.prog.funcs[13]? = some F ∧ (F.name == "runtime.NumGoroutine") = false ∧ compFn Tryz.prog F = some af13.strip := ⟨_, Tryz.func13, by kernel_rfl, by kernel_rfl⟩
theorem is14 : ∃ F, Tryz.prog.funcs[14]? = some F ∧ (F.name == "runtime.NumGoroutine") = false ∧ compFn Tryz.prog F = some af14.strip := ⟨_, Tryz.func14, by kernel_rfl, by kernel_rfl⟩
theorem is21 : ∃ F, Tryz.prog.funcs[21]? = some F ∧ (F.name == "runtime.NumGoroutine") = false ∧ compFn Tryz.prog F = some af21.strip := ⟨_, Tryz.func21, by kernel_rfl, by kernel_rfl⟩
theorem is22 : ∃ F, Tryz.prog.funcs[22]? = some F ∧ (F.name == "runtime.NumGoroutine") = false ∧ compFn Tryz.prog F = some af22.strip := ⟨_, Tryz.func22, by kernel_rfl, by kernel_rfl⟩
theorem is23 : ∃ F, Tryz.prog.funcs[23]? = some F ∧ (F.name == "runtime.NumGoroutine") = false ∧ compFn Tryz.prog F = some af23.strip := ⟨_, Tryz.func23, by kernel_rfl, by kernel_rfl⟩
theorem is25 : ∃ F, Tryz.prog.funcs[25]? = some F ∧ (F.name == "runtime.NumGoroutine") = false ∧ compFn Tryz.prog F = some af25.strip := ⟨_, Tryz.func25, by kernel_rfl, by kernel_rfl⟩
theorem is27 : ∃ F, Tryz.prog.funcs[27]? = some F ∧ (F.name == "runtime.NumGoroutine") = false ∧ compFn Tryz.prog F = some af27.strip := ⟨_, Tryz.func27, by kernel_rfl, by kernel_rfl⟩
theorem is30 : ∃ F, Tryz.prog.funcs[30]? = some F ∧ (F.name == "runtime.NumGoroutine") = false ∧ compFn Tryz.prog F = some af30.strip := ⟨_, Tryz.func30, by kernel_rfl, by kernel_rfl⟩
theorem is32 : ∃ F, Tryz.prog.funcs[32]? = some F ∧ (F.name == "runtime.NumGoroutine") = false ∧ compFn Tryz.prog F = some af32.strip := ⟨_, Tryz.func32, by kernel_rfl, by kernel_rfl⟩
theorem is38 : ∃ F, Tryz.prog.funcs[38]? = some F ∧ (F.name == "runtime.NumGoroutine") = false ∧ compFn Tryz.prog F = some af38.strip := ⟨_, Tryz.func38, by kernel_rfl, by kernel_rfl⟩
theorem is39 : ∃ F, Tryz.prog.funcs[39]? = some F ∧ (F.name == "runtime.NumGoroutine") = false ∧ compFn Tryz.prog F = some af39.strip := ⟨_, Tryz.func39, by kernel_rfl, by kernel_rfl⟩
theorem is40 : ∃ F, Tryz.prog.funcs[40]? = some F ∧ (F.name == "runtime.NumGoroutine") = false ∧ compFn Tryz.prog F = some af40.strip := ⟨_, Tryz.func40, by kernel_rfl, by kernel_rfl⟩
theorem is43 : ∃ F, Tryz.prog.funcs[43]? = some F ∧ (F.name == "runtime.NumGoroutine") = false ∧ compFn Tryz.prog F = some af43.strip := ⟨_, Tryz.func43, by kernel_rfl, by kernel_rfl⟩
theorem is46 : ∃ F, Tryz.prog.funcs[46]? = some F ∧ (F.name == "runtime.NumGoroutine") = false ∧ compFn Tryz.prog F = some af46.strip := ⟨_, Tryz.func46, by kernel_rfl, by kernel_rfl⟩
theorem is48 : ∃ F, Tryz.prog.funcs[48]? = some F ∧ (F.name == "runtime.NumGoroutine") = false ∧ compFn Tryz.prog F = some af48.strip := ⟨_, Tryz.func48, by kernel_rfl, by kernel_rfl⟩
theorem is52 : ∃ F, Tryz.prog.funcs[52]? = some F ∧ (F.name == "runtime.NumGoroutine") = false ∧ compFn Tryz.prog F = some af52.strip := ⟨_, Tryz.func52, by kernel_rfl, by kernel_rfl⟩
theorem is56 : ∃ F, Tryz.prog.funcs[56]? = some F ∧ (F.name == "runtime.NumGoroutine") = false ∧ compFn Tryz.prog F = some af56.strip := ⟨_, Tryz.func56, by kernel_rfl, by kernel_rfl⟩
theorem is57 : ∃ F, Tryz.prog.funcs[57]? = some F ∧ (F.name == "runtime.NumGoroutine") = false ∧ compFn Tryz.prog F = some af57.strip := ⟨_, Tryz.func57, by kernel_rfl, by kernel_rfl⟩
theorem is59 : ∃ F, Tryz.prog.funcs[59]? = some F ∧ (F.name == "runtime.NumGoroutine") = false ∧ compFn Tryz.prog F = some af59.strip := ⟨_, Tryz.func59, by kernel_rfl, by kernel_rfl⟩
theorem is61 : ∃ F, Tryz.prog.funcs[61]? = some F ∧ (F.name == "runtime.NumGoroutine") = false ∧ compFn Tryz.prog F = some af61.strip := ⟨_, Tryz.func61, by kernel_rfl, by kernel_rfl⟩
theorem is64 : ∃ F, Tryz.prog.funcs[64]? = some F ∧ (F.name == "runtime.NumGoroutine") = false ∧ compFn Tryz.prog F = some af64.strip := ⟨_, Tryz.func64, by kernel_rfl, by kernel_rfl⟩
theorem is65 : ∃ F, Tryz.prog.funcs[65]? = some F ∧ (F.name == "runtime.NumGoroutine") = false ∧ compFn Tryz.prog F = some af65.strip := ⟨_, Tryz.func65, by kernel_rfl, by kernel_rfl⟩
theorem is66 : ∃ F, Tryz.prog.funcs[66]? = some F ∧ (F.name == "runtime.NumGoroutine") = false ∧ compFn Tryz.prog F = some af66.strip := ⟨_, Tryz.func66, by kernel_rfl, by kernel_rfl⟩
theorem is68 : ∃ F, Tryz.prog.funcs[68]? = some F ∧ (F.name == "runtime.NumGoroutine") = false ∧ compFn Tryz.prog F = some af68.strip := ⟨_, Tryz.func68, by kernel_rfl, by kernel_rfl⟩
theorem is69 : ∃ F, Tryz.prog.funcs[69]? = some F ∧ (F.name == "runtime.NumGoroutine") = false ∧ compFn Tryz.prog F = some af69.strip := ⟨_, Tryz.func69, by kernel_rfl, by kernel_rfl⟩
theorem is71 : ∃ F, Tryz.prog.funcs[71]? = some F ∧ (F.name == "runtime.NumGoroutine") = false ∧ compFn Tryz.prog F = some af71.strip := ⟨_, Tryz.func71, by kernel_rfl, by kernel_rfl⟩
theorem is72 : ∃ F, Tryz.prog.funcs[72]? = some F ∧ (F.name == "runtime.NumGoroutine") = false ∧ compFn Tryz.prog F = some af72.strip := ⟨_, Tryz.func72, by kernel_rfl, by kernel_rfl⟩
theorem is74 : ∃ F, Tryz.prog.funcs[74]? = some F ∧ (F.name == "runtime.NumGoroutine") = false ∧ compFn Tryz.prog F = some af74.strip := ⟨_, Tryz.func74, by kernel_rfl, by kernel_rfl⟩
theorem is75 : ∃ F, Tryz.prog.funcs[75]? = some F ∧ (F.name == "runtime.NumGoroutine") = false ∧ compFn Tryz.prog F = some af75.strip := ⟨_, Tryz.func75, by kernel_rfl, by kernel_rfl⟩
theorem is76 : ∃ F, Tryz.prog.funcs[76]? = some F ∧ (F.name == "runtime.NumGoroutine") = false ∧ compFn Tryz.prog F = some af76.strip := ⟨_, Tryz.func76, by kernel_rfl, by kernel_rfl⟩
theorem is77 : ∃ F, Tryz.prog.funcs[77]? = some F ∧ (F.name == "runtime.NumGoroutine") = false ∧ compFn Tryz.prog F = some af77.strip := ⟨_, Tryz.func77, by kernel_rfl, by kernel_rfl⟩
theorem is79 : ∃ F, Tryz.prog.funcs[79]? = some F ∧ (F.name == "runtime.NumGoroutine") = false ∧ compFn Tryz.prog F = some af79.strip := ⟨_, Tryz.func79, by kernel_rfl, by kernel_rfl⟩
theorem is80 : ∃ F, Tryz.prog.funcs[80]? = some F ∧ (F.name == "runtime.NumGoroutine") = false ∧ compFn Tryz.prog F = some af80.strip := ⟨_, Tryz.func80, by kernel_rfl, by kernel_rfl⟩
theorem is82 : ∃ F, Tryz.prog.funcs[82]? = some F ∧ (F.name == "runtime.NumGoroutine") = false ∧ compFn Tryz.prog F = some af82.strip := ⟨_, Tryz.func82, by kernel_rfl, by kernel_rfl⟩
theorem is84 : ∃ F, Tryz.prog.funcs[84]? = some F ∧ (F.name == "runtime.NumGoroutine") = false ∧ compFn Tryz.prog F = some af84.strip := ⟨_, Tryz.func84, by kernel_rfl, by kernel_rfl⟩
theorem is85 : ∃ F, Tryz.prog.funcs[85]? = some F ∧ (F.name == "runtime.NumGoroutine") = false ∧ compFn Tryz.prog F = some af85.strip := ⟨_, Tryz.func85, by kernel_rfl, by kernel_rfl⟩
theorem is86 : ∃ F, Tryz.prog.funcs[86]? = some F ∧ (F.name == "runtime.NumGoroutine") = false ∧ compFn Tryz.prog F = some af86.strip := ⟨_, Tryz.func86, by kernel_rfl, by kernel_rfl⟩
theorem is91 : ∃ F, Tryz.prog.funcs[91]? = some F ∧ (F.name == "runtime.NumGoroutine") = false ∧ compFn Tryz.prog F = some af91.strip := ⟨_, Tryz.func91, by kernel_rfl, by kernel_rfl⟩
theorem is109 : ∃ F, Tryz.prog.funcs[109]? = some F ∧ (F.name == "runtime.NumGoroutine") = false ∧ compFn Tryz.prog F = some af109.strip := ⟨_, Tryz.func109, by kernel_rfl, by kernel_rfl⟩
theorem is110 : ∃ F, Tryz.prog.funcs[110]? = some F ∧ (F.name == "runtime.NumGoroutine") = false ∧ compFn Tryz.prog F = some af110.strip := ⟨_, Tryz.func110, by kernel_rfl, by kernel_rfl⟩
theorem is112 : ∃ F, Tryz.prog.funcs[112]? = some F ∧ (F.name == "runtime.NumGoroutine") = false ∧ compFn Tryz.prog F = some af112.strip := ⟨_, Tryz.func112, by kernel_rfl, by kernel_rfl⟩
theorem is113 : ∃ F, Tryz.prog.funcs[113]? = some F ∧ (F.name == "runtime.NumGoroutine") = false ∧ compFn Tryz.prog F = some af113.strip := ⟨_, Tryz.func113, by kernel_rfl, by kernel_rfl⟩
theorem is115 : ∃ F, Tryz.prog.funcs[115]? = some F ∧ (F.name == "runtime.NumGoroutine") = false ∧ compFn Tryz.prog F = some af115.strip := ⟨_, Tryz.func115, by kernel_rfl, by kernel_rfl⟩
theorem is116 : ∃ F, Tryz.prog.funcs[116]? = some F ∧ (F.name == "runtime.NumGoroutine") = false ∧ compFn Tryz.prog F = some af116.strip := ⟨_, Tryz.func116, by kernel_rfl, by kernel_rfl⟩
theorem is118 : ∃ F, Tryz.prog.funcs[118]? = some F ∧ (F.name == "runtime.NumGoroutine") = false ∧ compFn Tryz.prog F = some af118.strip := ⟨_, Tryz.func118, by kernel_rfl, by kernel_rfl⟩
theorem is119 : ∃ F, Tryz.prog.funcs[119]? = some F ∧ (F.name == "runtime.NumGoroutine") = false ∧ compFn Tryz.prog F = some af119.strip := ⟨_, Tryz.func119, by kernel_rfl, by kernel_rfl⟩
theorem is122 : ∃ F, Tryz.prog.funcs[122]? = some F ∧ (F.name == "runtime.NumGoroutine") = false ∧ compFn Tryz.prog F = some af122.strip := ⟨_, Tryz.func122, by kernel_rfl, by kernel_rfl⟩
theorem is123 : ∃ F, Tryz.prog.funcs[123]? = some F ∧ (F.name == "runtime.NumGoroutine") = false ∧ compFn Tryz.prog F = some af123.strip := ⟨_, Tryz.func123, by kernel_rfl, by kernel_rfl⟩
theorem is124 : ∃ F, Tryz.prog.funcs[124]? = some F ∧ (F.name == "runtime.NumGoroutine") = false ∧ compFn Tryz.prog F = some af124.strip := ⟨_, Tryz.func124, by kernel_rfl, by kernel_rfl⟩
theorem is126 : ∃ F, Tryz.prog.funcs[126]? = some F ∧ (F.name == "runtime.NumGoroutine") = false ∧ compFn Tryz.prog F = some af126.strip := ⟨_, Tryz.func126, by kernel_rfl, by kernel_rfl⟩
theorem is127 : ∃ F, Tryz.prog.funcs[127]? = some F ∧ (F.name == "runtime.NumGoroutine") = false ∧ compFn Tryz.prog F = some af127.strip := ⟨_, Tryz.func127, by kernel_rfl, by kernel_rfl⟩
end Ev
end Go.Proofs.YtcaejedfjobooaaGreat

namespace Go.Proofs.YtcaejedfjobooaaGreat
open Go Go.Proofs
namespace Ev
/-- Of all entries. -/
def FT.All (p : Nat → AFunc → Prop) : FT → Prop
  | .leaf => True
  | .node k f l r => p k f ∧ (FT.All p l ∧ FT.All p r)
theorem FT.find_all {p : Nat → AFunc → Prop} : ∀ {t : FT} {n : Nat} {f : AFunc}, FT.All p t → FT.find t n = some f → p n f
  | .leaf, n, f, _, h => by cases h
  | .node k g l r, n, f, ha, h => by
    have e : FT.find (.node k g l r) n = (Bool.rec (Bool.rec (FT.find r n) (FT.find l n) (Nat.ble (Nat.succ n) k)) (some g) (Nat.beq n k) : Option AFunc) := rfl
    rw [e] at h
    cases hb : Nat.beq n k with
    | true => rw [hb] at h; cases h; rw [Nat.eq_of_beq_eq_true hb]; exact ha.1
    | false =>
      rw [hb] at h
      cases hc : Nat.ble (Nat.succ n) k with
      | true => rw [hc] at h; exact FT.find_all ha.2.1 h
      | false => rw [hc] at h; exact FT.find_all ha.2.2 h
theorem tree_is : FT.All (fun k af => ∃ F, Tryz.prog.funcs[k]? = some F ∧ (F.name == "runtime.NumGoroutine") = false ∧ compFn Tryz.prog F = some af.strip) fnTree :=
  ⟨is59, ⟨is31, ⟨is16, ⟨is9, ⟨is6, ⟨is4, ⟨is3, trivial, trivial⟩, ⟨is5, trivial, trivial⟩⟩, ⟨is8, ⟨is7, trivial, trivial⟩, trivial⟩⟩, ⟨is13, ⟨is11, ⟨is10, trivial, trivial⟩, ⟨is12, trivial, trivial⟩⟩, ⟨is15, ⟨is14, trivial, trivial⟩, trivial⟩⟩⟩, ⟨is24, ⟨is21, ⟨is19, ⟨is18, trivial, trivial⟩, ⟨is20, trivial, trivial⟩⟩, ⟨is23, ⟨is22, trivial, trivial⟩, trivial⟩⟩, ⟨is28, ⟨is26, ⟨is25, trivial, trivial⟩, ⟨is27, trivial, trivial⟩⟩, ⟨is30, ⟨is29, trivial, trivial⟩, trivial⟩⟩⟩⟩, ⟨is45, ⟨is38, ⟨is35, ⟨is33, ⟨is32, trivial, trivial⟩, ⟨is34, trivial, trivial⟩⟩, ⟨is37, ⟨is36, trivial, trivial⟩, trivial⟩⟩, ⟨is42, ⟨is40, ⟨is39, trivial, trivial⟩, ⟨is41, trivial, trivial⟩⟩, ⟨is44, ⟨is43, trivial, trivial⟩, trivial⟩⟩⟩, ⟨is52, ⟨is49, ⟨is47, ⟨is46, trivial, trivial⟩, ⟨is48, trivial, trivial⟩⟩, ⟨is51, ⟨is50, trivial, trivial⟩, trivial⟩⟩, ⟨is56, ⟨is54, ⟨is53, trivial, trivial⟩, ⟨is55, trivial, trivial⟩⟩, ⟨is58, ⟨is57, trivial, trivial⟩, trivial⟩⟩⟩⟩⟩, ⟨is88, ⟨is74, ⟨is67, ⟨is64, ⟨is61, ⟨is60, trivial, trivial⟩, ⟨is62, trivial, trivial⟩⟩, ⟨is66, ⟨is65, trivial, trivial⟩, trivial⟩⟩, ⟨is71, ⟨is69, ⟨is68, trivial, trivial⟩, ⟨is70, trivial, trivial⟩⟩, ⟨is73, ⟨is72, trivial, trivial⟩, trivial⟩⟩⟩, ⟨is81, ⟨is78, ⟨is76, ⟨is75, trivial, trivial⟩, ⟨is77, trivial, trivial⟩⟩, ⟨is80, ⟨is79, trivial, trivial⟩, trivial⟩⟩, ⟨is85, ⟨is83, ⟨is82, trivial, trivial⟩, ⟨is84, trivial, trivial⟩⟩, ⟨is87, ⟨is86, trivial, trivial⟩, trivial⟩⟩⟩⟩, ⟨is117, ⟨is110, ⟨is107, ⟨is90, ⟨is89, trivial, trivial⟩, ⟨is91, trivial, trivial⟩⟩, ⟨is109, ⟨is108, trivial, trivial⟩, trivial⟩⟩, ⟨is114, ⟨is112, ⟨is111, trivial, trivial⟩, ⟨is113, trivial, trivial⟩⟩, ⟨is116, ⟨is115, trivial, trivial⟩, trivial⟩⟩⟩, ⟨is124, ⟨is121, ⟨is119, ⟨is118, trivial, trivial⟩, ⟨is120, trivial, trivial⟩⟩, ⟨is123, ⟨is122, trivial, trivial⟩, trivial⟩⟩, ⟨is127, ⟨is126, ⟨is125, trivial, trivial⟩, trivial⟩, ⟨is129, ⟨is128, trivial, trivial⟩, trivial⟩⟩⟩⟩⟩⟩
end Ev
end Go.Proofs.YtcaejedfjobooaaGreat

namespace Go.Proofs.YtcaejedfjobooaaGreat
open Go Go.Proofs Go.RowKit
set_option maxHeartbeats 400000 in
set_option maxRecDepth 100000 in
theorem stopped_road (B off : Nat) (y : Value) (k : IntKind) (n : Int) (W : World) (hc : W.cell? ⟨B, off, none⟩ = some y) (hz : W.frozen? ⟨B, off, none⟩ = false) :
    Calls Tryz.prog 63 #[.iface 119 (.agg #[.int k n]), .pointer (some ⟨B, off, none⟩)] W fun e W' => e = .returned (.tuple #[]) ∧ Below W.heap.size (W.setCell ⟨B, off, none⟩ (.int k n)) W' := by
  have hta : ∀ w : World, (Instr.typeAssert (.iface 119 (.agg #[.int k n])) 20 119 true).run Tryz.prog w = .ok (.tuple #[.agg #[.int k n], .bool true]) w := fun _ => by kernel_rfl
  have hlt : B < W.heap.size := by
    unfold World.cell? at hc
    cases hb : W.heap[B]? with
    | none => simp [hb] at hc
    | some x => exact (Array.getElem?_eq_some_iff.1 hb).1
  have hca : ∀ o, (W.alloc o).cell? ⟨B, off, none⟩ = some y := fun o => (World.cell?_of_block (Below.heap_alloc W o B hlt)).trans hc
  have hza : ∀ o, (W.alloc o).frozen? ⟨B, off, none⟩ = false := fun o => (World.frozen?_of_block (Below.heap_alloc W o B hlt)).trans hz
  have hbel : ∀ o, Below W.heap.size (W.setCell ⟨B, off, none⟩ (.int k n)) ((W.alloc o).setCell ⟨B, off, none⟩ (.int k n)) := fun o => by
    refine ⟨rfl, rfl, rfl, by simp, fun i hi => ?_⟩
    simp only [World.setCell, Array.getElem?_modify]
    rw [Below.heap_alloc W o i hi]
  clear hc hz hlt
  go_enter Tryz.func63, Tryz.ntmps63
  go_wp2
  exact ⟨rfl, _, results_none rfl _ _ _, rfl, hbel _⟩
theorem stopped_idle (x : Value) (W : World) : Calls Tryz.prog 63 #[.nilIface, x] W fun e W' => e = .returned (.tuple #[]) ∧ Below W.heap.size W W' := by
  go_enter Tryz.func63, Tryz.ntmps63
  go_wp2
  exact ⟨rfl, _, results_none rfl _ _ _, rfl, Below.refl _ _⟩

/-- What a deferred closure does that hands what is recovered to stopped. -/
theorem closure_road {f : Nat} {fn : Func} {id : Nat} {ops : Array Oper} {o0 o1 : Oper} (hf : Tryz.prog.funcs[f]? = some fn) (hb : fn.body = some (.region id ops false)) (hn : fn.ntmps = 3) (hr : fn.results = #[]) (hnm : (fn.name == "runtime.NumGoroutine") = false)
    (ho : ops = #[o0, o1]) (h0 : o0.op = .call { callee := .builtin .recover, args := #[], argTypes := #[] }) (hd0 : o0.dst = some 1) (hg0 : o0.guard = none) (hd1 : o1.dst = some 2) (hg1 : o1.guard = none) {ts : Array TypeId} (h1 : o1.op = .call { callee := .value (.func 63), args := #[.tmp 1, .tmp 0], argTypes := ts }) :
    (∀ (x : Value) (W : World), CallsDIn Fence.wide 0 Tryz.prog f #[x] .returning W fun e u' W' => (∃ v, e = .returned v) ∧ u' = .returning ∧ Below W.heap.size W W') ∧
    (∀ (B off : Nat) (y x : Value) (k : IntKind) (n : Int) (W : World), W.cell? ⟨B, off, none⟩ = some y → W.frozen? ⟨B, off, none⟩ = false → x = .agg #[.int k n] →
      CallsDIn Fence.wide 0 Tryz.prog f #[.pointer (some ⟨B, off, none⟩)] (.panicking [{ v := .iface 119 x, recovered := false }]) W fun e u' W' =>
        (∃ v, e = .returned v) ∧ u' = .panicking [{ v := .iface 119 x, recovered := true }] ∧ Below W.heap.size (W.setCell ⟨B, off, none⟩ (.int k n)) W') := by
  have hwalk : ∀ (x rv : Value) (u u' : FrameMode) (W : World) (R : World → Prop), (∀ (c₀ : Frame) (cs : List Frame), c₀.mode = u → recoverD (c₀ :: cs) = some (rv, { c₀ with mode := u' } :: cs) ∨ (recoverD (c₀ :: cs) = none ∧ rv = .nilIface ∧ { c₀ with mode := u' } :: cs = c₀ :: cs)) →
      Calls Tryz.prog 63 #[rv, x] W (fun e W' => e = .returned (.tuple #[]) ∧ R W') → CallsDIn Fence.wide 0 Tryz.prog f #[x] u W fun e v' W' => (∃ v, e = .returned v) ∧ v' = u' ∧ R W' := by
    intro x rv u u' W R hrec hcall
    refine callsDIn_of_wpSIn hf hb trivial fun c₀ cs hu => ?_
    refine wpSIn_region_recover (o := o0) (rest := [1]) (v := rv) (cs' := { c₀ with mode := u' } :: cs) (by rw [ho]; rfl) (by rw [ho]; rfl) (by simp [Region.wanted, hg0]) (by simp [execOp, h0, resolve, go_sem]) (hrec c₀ cs hu) ?_
    have hev : ∀ _ : Nat, (#[x] ++ Array.replicate (fn.ntmps - 1) undef : Array Value) = #[x, undef, undef] := fun _ => by rw [hn]; rfl
    simp only [List.size_toArray, List.length_cons, List.length_nil, Nat.zero_add, hev 0, Act.put, hd0]
    unfold wpOpsIn
    rw [show ops[1]? = some o1 by rw [ho]; rfl]
    simp only [Region.wanted, hg1, if_true]
    refine ⟨fun _ _ => trivial, ?_⟩
    have hrun : (o1.semAt Fence.wide.round (Act.eval { tmps := (#[x, undef, undef] : Array Value).setIfInBounds 1 rv, defers := [] })).run Tryz.prog W = .ok (.enter 63 #[rv, x]) W := by
      rw [Oper.semAt_eq _ _ _ (by rw [h1]; intro c hc; cases hc)]
      simp [execOp, h1, resolve, go_sem, Deferred.ofValue, Act.eval]
    rw [hrun, Oper.uponIn_enter]
    refine ⟨fun h => by simp [Fence.wide] at h, ((callsIn_wide (n := 0)).2 hcall).mono ?_⟩
    rintro e W' ⟨rfl, hR⟩
    simp only [wpOpsIn, Act.put, hd1]
    refine ⟨rfl, u', rfl, .tuple #[], results_none hr _ _ _, ⟨_, rfl⟩, rfl, hR⟩
  refine ⟨fun x W => ?_, fun B off y x k n W hc hz hx => ?_⟩
  · refine (hwalk x .nilIface .returning .returning W (Below W.heap.size W) (fun c₀ cs hu => .inr ⟨by simp [recoverD, hu], rfl, by cases c₀; simp_all⟩) (stopped_idle x W))
  · subst hx
    refine hwalk _ _ _ _ W _ (fun c₀ cs hu => .inl ?_) (stopped_road B off y k n W hc hz)
    simp [recoverD, hu]
end Go.Proofs.YtcaejedfjobooaaGreat

namespace Go.Proofs.YtcaejedfjobooaaGreat
open Go Go.Proofs Go.RowKit
set_option maxHeartbeats 400000 in
set_option maxRecDepth 100000 in
theorem stopped_load (B off : Nat) (y : Value) (k : IntKind) (n : Int) (W : World) (hc : W.cell? ⟨B, off, none⟩ = some y) (hz : W.frozen? ⟨B, off, none⟩ = false) :
    Calls Tryz.prog 17 #[.iface 73 (.agg #[.int k n]), .pointer (some ⟨B, off, none⟩)] W fun e W' => e = .returned (.tuple #[]) ∧ Below W.heap.size (W.setCell ⟨B, off, none⟩ (.int k n)) W' := by
  have hta : ∀ w : World, (Instr.typeAssert (.iface 73 (.agg #[.int k n])) 20 73 true).run Tryz.prog w = .ok (.tuple #[.agg #[.int k n], .bool true]) w := fun _ => by kernel_rfl
  have hlt : B < W.heap.size := by
    unfold World.cell? at hc
    cases hb : W.heap[B]? with
    | none => simp [hb] at hc
    | some x => exact (Array.getElem?_eq_some_iff.1 hb).1
  have hca : ∀ o, (W.alloc o).cell? ⟨B, off, none⟩ = some y := fun o => (World.cell?_of_block (Below.heap_alloc W o B hlt)).trans hc
  have hza : ∀ o, (W.alloc o).frozen? ⟨B, off, none⟩ = false := fun o => (World.frozen?_of_block (Below.heap_alloc W o B hlt)).trans hz
  have hbel : ∀ o, Below W.heap.size (W.setCell ⟨B, off, none⟩ (.int k n)) ((W.alloc o).setCell ⟨B, off, none⟩ (.int k n)) := fun o => by
    refine ⟨rfl, rfl, rfl, by simp, fun i hi => ?_⟩
    simp only [World.setCell, Array.getElem?_modify]
    rw [Below.heap_alloc W o i hi]
  clear hc hz hlt
  go_enter Tryz.func17, Tryz.ntmps17
  go_wp2
  exact ⟨rfl, _, results_none rfl _ _ _, rfl, hbel _⟩
theorem idle_load (x : Value) (W : World) : Calls Tryz.prog 17 #[.nilIface, x] W fun e W' => e = .returned (.tuple #[]) ∧ Below W.heap.size W W' := by
  go_enter Tryz.func17, Tryz.ntmps17
  go_wp2
  exact ⟨rfl, _, results_none rfl _ _ _, rfl, Below.refl _ _⟩

/-- What a deferred closure does that hands what is recovered to stopped. -/
theorem closure_load {f : Nat} {fn : Func} {id : Nat} {ops : Array Oper} {o0 o1 : Oper} (hf : Tryz.prog.funcs[f]? = some fn) (hb : fn.body = some (.region id ops false)) (hn : fn.ntmps = 3) (hr : fn.results = #[]) (hnm : (fn.name == "runtime.NumGoroutine") = false)
    (ho : ops = #[o0, o1]) (h0 : o0.op = .call { callee := .builtin .recover, args := #[], argTypes := #[] }) (hd0 : o0.dst = some 1) (hg0 : o0.guard = none) (hd1 : o1.dst = some 2) (hg1 : o1.guard = none) {ts : Array TypeId} (h1 : o1.op = .call { callee := .value (.func 17), args := #[.tmp 1, .tmp 0], argTypes := ts }) :
    (∀ (x : Value) (W : World), CallsDIn Fence.wide 0 Tryz.prog f #[x] .returning W fun e u' W' => (∃ v, e = .returned v) ∧ u' = .returning ∧ Below W.heap.size W W') ∧
    (∀ (B off : Nat) (y x : Value) (k : IntKind) (n : Int) (W : World), W.cell? ⟨B, off, none⟩ = some y → W.frozen? ⟨B, off, none⟩ = false → x = .agg #[.int k n] →
      CallsDIn Fence.wide 0 Tryz.prog f #[.pointer (some ⟨B, off, none⟩)] (.panicking [{ v := .iface 73 x, recovered := false }]) W fun e u' W' =>
        (∃ v, e = .returned v) ∧ u' = .panicking [{ v := .iface 73 x, recovered := true }] ∧ Below W.heap.size (W.setCell ⟨B, off, none⟩ (.int k n)) W') := by
  have hwalk : ∀ (x rv : Value) (u u' : FrameMode) (W : World) (R : World → Prop), (∀ (c₀ : Frame) (cs : List Frame), c₀.mode = u → recoverD (c₀ :: cs) = some (rv, { c₀ with mode := u' } :: cs) ∨ (recoverD (c₀ :: cs) = none ∧ rv = .nilIface ∧ { c₀ with mode := u' } :: cs = c₀ :: cs)) →
      Calls Tryz.prog 17 #[rv, x] W (fun e W' => e = .returned (.tuple #[]) ∧ R W') → CallsDIn Fence.wide 0 Tryz.prog f #[x] u W fun e v' W' => (∃ v, e = .returned v) ∧ v' = u' ∧ R W' := by
    intro x rv u u' W R hrec hcall
    refine callsDIn_of_wpSIn hf hb trivial fun c₀ cs hu => ?_
    refine wpSIn_region_recover (o := o0) (rest := [1]) (v := rv) (cs' := { c₀ with mode := u' } :: cs) (by rw [ho]; rfl) (by rw [ho]; rfl) (by simp [Region.wanted, hg0]) (by simp [execOp, h0, resolve, go_sem]) (hrec c₀ cs hu) ?_
    have hev : ∀ _ : Nat, (#[x] ++ Array.replicate (fn.ntmps - 1) undef : Array Value) = #[x, undef, undef] := fun _ => by rw [hn]; rfl
    simp only [List.size_toArray, List.length_cons, List.length_nil, Nat.zero_add, hev 0, Act.put, hd0]
    unfold wpOpsIn
    rw [show ops[1]? = some o1 by rw [ho]; rfl]
    simp only [Region.wanted, hg1, if_true]
    refine ⟨fun _ _ => trivial, ?_⟩
    have hrun : (o1.semAt Fence.wide.round (Act.eval { tmps := (#[x, undef, undef] : Array Value).setIfInBounds 1 rv, defers := [] })).run Tryz.prog W = .ok (.enter 17 #[rv, x]) W := by
      rw [Oper.semAt_eq _ _ _ (by rw [h1]; intro c hc; cases hc)]
      simp [execOp, h1, resolve, go_sem, Deferred.ofValue, Act.eval]
    rw [hrun, Oper.uponIn_enter]
    refine ⟨fun h => by simp [Fence.wide] at h, ((callsIn_wide (n := 0)).2 hcall).mono ?_⟩
    rintro e W' ⟨rfl, hR⟩
    simp only [wpOpsIn, Act.put, hd1]
    refine ⟨rfl, u', rfl, .tuple #[], results_none hr _ _ _, ⟨_, rfl⟩, rfl, hR⟩
  refine ⟨fun x W => ?_, fun B off y x k n W hc hz hx => ?_⟩
  · refine (hwalk x .nilIface .returning .returning W (Below W.heap.size W) (fun c₀ cs hu => .inr ⟨by simp [recoverD, hu], rfl, by cases c₀; simp_all⟩) (idle_load x W))
  · subst hx
    refine hwalk _ _ _ _ W _ (fun c₀ cs hu => .inl ?_) (stopped_load B off y k n W hc hz)
    simp [recoverD, hu]
end Go.Proofs.YtcaejedfjobooaaGreat

namespace Go.Proofs.YtcaejedfjobooaaGreat
open Go Go.Proofs Go.RowKit
/-- One quiet operation, by its run. -/
theorem quietV {P : Program} {S : Type} [Nonempty S] {f : S → World} {ops : Array Oper} {Q : Act → Prop} {o : Oper} {rest : List Oper} {a : Act} {v : Value}
    (h : ∀ s : S, (execOp a.eval o).run P (f s) = .ok (.value v) (f s)) (hg : Region.wanted o (yielded ops a.tmps) = true) (hq : wpQuiet P ops (fun w' => ∃ s, w' = f s) Q rest (a.put o.dst v)) : wpQuiet P ops (fun w' => ∃ s, w' = f s) Q (o :: rest) a := by
  refine wpQuiet_step fun K hK => ?_
  rw [if_pos hg]
  refine ⟨v, ?_, hK _ hq⟩
  rintro w ⟨s, rfl⟩
  unfold Oper.quietAt
  rw [h s]
  exact ⟨rfl, rfl⟩
set_option maxHeartbeats 400000 in
set_option maxRecDepth 100000 in
theorem rested_any (s k f h d : Int) (W : World) : Calls Tryz.prog 125 #[.agg #[.int .i64 s, .int .i64 k, .int .i64 f], .int .i64 h, .int .i64 d] W fun e W' =>
    e = .returned (.int .i64 (min f (IntKind.i64.wrap (h + IntKind.i64.wrap (d * k))))) ∧ Below W.heap.size W W' := by
  go_enter Tryz.func125, Tryz.ntmps125
  go_wp2
  all_goals refine ⟨rfl, _, results_tmp rfl _ _ _, ?_, (Below.refl _ _).alloc (Nat.le_refl _) _⟩
  · rename_i hlt
    simp only [Array.getD_eq_getD_getElem?, List.getElem?_toArray, List.getElem?_cons_succ, List.getElem?_cons_zero, Option.getD_some, Ending.returned.injEq, Value.int.injEq, true_and]
    have hw : ∀ n, IntKind.i64.wrap n = wrap64 n := fun n => by rw [IntKind.wrap_i64]; unfold wrap64; first | rfl | omega
    simp only [hw]
    omega
  · rename_i hlt
    simp only [Array.getD_eq_getD_getElem?, List.getElem?_toArray, List.getElem?_cons_succ, List.getElem?_cons_zero, Option.getD_some, Ending.returned.injEq, Value.int.injEq, true_and]
    have hw : ∀ n, IntKind.i64.wrap n = wrap64 n := fun n => by rw [IntKind.wrap_i64]; unfold wrap64; first | rfl | omega
    simp only [hw]
    omega
set_option maxHeartbeats 400000 in
set_option maxRecDepth 100000 in
theorem look_any (p : Value) (h l : Int) (W : World) : Calls Tryz.prog 128 #[.agg #[], p, .int .i64 h, .int .i64 l] W fun e W' =>
    e = .returned (.int .i64 h) ∧ Below W.heap.size W W' := by
  go_enter Tryz.func128, Tryz.ntmps128
  go_wp2
  all_goals refine ⟨rfl, _, results_tmp rfl _ _ _, rfl, ((Below.refl _ _).alloc (Nat.le_refl _) _).alloc (by simp) _⟩
theorem look_at (days : Int) (B : Nat) (W : World) (hb : W.heap[B]? = some (.cells #[.int .i64 days] 129 (0, 0))) : (Instr.fieldAt 129 (.pointer (some ⟨B, 0, none⟩)) 0).run Tryz.prog W = .ok (.pointer (some ⟨B, 0, none⟩)) W := by
  have h1 : Tryz.prog.cellsOf 129 = 1 := by kernel_rfl
  have h2 : ∀ w, (sizeOf 127).run Tryz.prog w = .ok 0 w := fun w => by kernel_rfl
  have hsh : (shape B).run Tryz.prog W = .ok (some (129, 1)) W := by simp [shape, Sem.run, World.shape?, hb]
  have h3 : byteOfCell Tryz.prog Tryz.prog.depth 129 0 = some 0 := by kernel_rfl
  have hs' : W.shape? B = some (129, 1) := by simp [World.shape?, hb]
  have hva : (viewAt B).run Tryz.prog W = .ok none W := by simp [viewAt, hs']
  have hnv : (noView ⟨B, 0, none⟩).run Tryz.prog W = .ok () W := by simp [noView, hva, Result.andThen]
  simp [Instr.fieldAt, run_underlying Tryz.underlying129, Instr.sureAddr, fieldPlace, h2, partAt, byteOf, hnv, hs', h1, h3, Result.andThen]

set_option maxHeartbeats 1000000 in
set_option maxRecDepth 100000 in
theorem rest_any (days s k f h l : Int) (W : World) : Calls Tryz.prog 129 #[.agg #[.int .i64 days], .agg #[.int .i64 s, .int .i64 k, .int .i64 f], .int .i64 h, .int .i64 l] W fun e W' =>
    e = .returned (.int .i64 (min f (IntKind.i64.wrap (h + IntKind.i64.wrap (days * k))))) ∧ Below W.heap.size W W' := by
  have hld : ∀ (B : Nat) (w : World), (Instr.loadAt 127 (.pointer (some ⟨B, 0, none⟩))).run Tryz.prog w = .ok (.agg #[]) w := fun B w => by
    have h2 : (sizeOf 127).run Tryz.prog w = .ok 0 w := by kernel_rfl
    simp [Instr.loadAt, Instr.sureAddr, loadVar, isAgg, run_underlying Tryz.underlying127, h2, loadCells, loadCellsFrom]
  go_enter Tryz.func129, Tryz.ntmps129
  go_wp2
  obtain ⟨W2, hW2⟩ : ∃ W2, W2 = (W.alloc (Obj.cells #[Value.int IntKind.i64 days] 129)).alloc (Obj.cells #[Value.int IntKind.i64 s, Value.int IntKind.i64 k, Value.int IntKind.i64 f] 134) := ⟨_, rfl⟩
  have g4 : W2.heap[W.heap.size]? = some (.cells #[.int .i64 days] 129 (0, 0)) := by
    rw [hW2, Below.heap_alloc _ _ _ (by simp)]; exact World.alloc_heap_new W _
  have g5 : W2.heap[W.heap.size + 1]? = some (.cells #[.int .i64 s, .int .i64 k, .int .i64 f] 134 (0, 0)) := by
    rw [hW2]; have := World.alloc_heap_new (W.alloc (Obj.cells #[Value.int IntKind.i64 days] 129)) (Obj.cells #[Value.int IntKind.i64 s, Value.int IntKind.i64 k, Value.int IntKind.i64 f] 134); rwa [World.size_alloc] at this
  have hbel : Below W.heap.size W W2 := by rw [hW2]; exact ((Below.refl _ _).alloc (Nat.le_refl _) _).alloc (by simp) _
  rw [← hW2]
  clear hW2
  have l4 : W.heap.size < W2.heap.size := (Array.getElem?_eq_some_iff.1 g4).1
  have l5 : W.heap.size + 1 < W2.heap.size := (Array.getElem?_eq_some_iff.1 g5).1
  have q4 : W2.cell? ⟨W.heap.size, 0, none⟩ = some (.int .i64 days) := by simp [World.cell?, g4]
  have q50 : W2.cell? ⟨W.heap.size + 1, 0, none⟩ = some (.int .i64 s) := by simp [World.cell?, g5]
  have q51 : W2.cell? ⟨W.heap.size + 1, 1, none⟩ = some (.int .i64 k) := by simp [World.cell?, g5]
  have q52 : W2.cell? ⟨W.heap.size + 1, 2, none⟩ = some (.int .i64 f) := by simp [World.cell?, g5]
  have hb4 : ∀ st : Cls (Below W2.heap.size W2), st.W.heap[W.heap.size]? = some (.cells #[.int .i64 days] 129 (0, 0)) := fun st => (st.ok.block _ l4).trans g4
  generalize hp : W.heap.size = p4 at *
  have hcl : ∃ s : Cls (Below (W2.heap.size) (W2)), (W2).drew = s.W := ⟨⟨_, (Below.refl _ _).drew⟩, rfl⟩
  have hne : Nonempty (Cls (Below (W2.heap.size) (W2))) := ⟨⟨_, Below.refl _ _⟩⟩
  have hS : ∀ (s : Cls (Below (W2.heap.size) (W2))) (b o : Nat), b < W2.heap.size → s.W.cell? ⟨b, o, none⟩ = (W2).cell? ⟨b, o, none⟩ := fun s b o h => s.ok.cell (p := ⟨b, o, none⟩) h
  have hSf : ∀ (s : Cls (Below (W2.heap.size) (W2))) (b o : Nat), b < W2.heap.size → s.W.frozen? ⟨b, o, none⟩ = (W2).frozen? ⟨b, o, none⟩ := fun s b o h => s.ok.frozen (p := ⟨b, o, none⟩) h
  refine wp_region_quiet_all (S := Cls (Below W2.heap.size W2)) Cls.W (by kernel_rfl) (by kernel_rfl) hcl ?_
  clear hcl
  go_big_quiet_step (fail)
  refine quietV (v := .pointer (some ⟨p4, 0, none⟩)) (fun st => ?_) rfl ?_
  · have := look_at days p4 st.W (hb4 st)
    simp [execOp, Act.eval, this]
  simp only [Act.put, List.setIfInBounds_toArray, List.set_cons_succ, List.set_cons_zero]
  refine quietV (v := .agg #[]) (fun st => ?_) rfl ?_
  · have := hld p4 st.W
    simp [execOp, Act.eval, this]
  simp only [Act.put, List.setIfInBounds_toArray, List.set_cons_succ, List.set_cons_zero]
  repeat (go_big_quiet_step ((first | (go_at_call 128; refine (look_any _ _ _ _).mono ?_; rintro e w2 ⟨rfl, hb⟩; exact ⟨rfl, Cls.step _ (Nat.le_refl _) hb⟩) | (go_at_call 125; refine (rested_any _ _ _ _ _ _).mono ?_; rintro e w2 ⟨rfl, hb⟩; exact ⟨rfl, Cls.step _ (Nat.le_refl _) hb⟩))))
  refine wpQuiet_nil ?_
  intro st
  have hfin := hbel.trans (st.ok.mono (Nat.le_of_lt l4))
  clear hS hSf hne hb4 g4 g5 q4 q50 q51 q52 l4 l5
  generalize st.W = W3 at *
  clear st
  go_wp2
  exact ⟨rfl, _, results_tmp rfl _ _ _, rfl, by rw [hp]; exact hfin⟩
end Go.Proofs.YtcaejedfjobooaaGreat

namespace Go.Proofs.YtcaejedfjobooaaGreat
open Go Go.Proofs Go.RowKit
set_option maxHeartbeats 400000 in
set_option maxRecDepth 100000 in
theorem late_number (W : World) : Calls Tryz.prog 108 #[.agg #[]] W fun e W' => e = .returned (.int .i64 1) ∧ Below W.heap.size W W' := by
  go_enter Tryz.func108, Tryz.ntmps108
  go_wp2
  all_goals refine ⟨rfl, _, results_tmp rfl _ _ _, rfl, ?_⟩
  all_goals first | exact Below.refl _ _ | exact (Below.refl _ _).alloc (Nat.le_refl _) _
theorem sinks_at (B : Nat) (W : World) (hb : W.heap[B]? = some (.cells #[] 107 (0, 0))) : (partAt ⟨B, 0, none⟩ 0 0).run Tryz.prog W = .ok ⟨B, 0, none⟩ W := by
  have h1 : Tryz.prog.cellsOf 107 = 0 := by kernel_rfl
  have hs' : W.shape? B = some (107, 0) := by simp [World.shape?, hb]
  have hva : (viewAt B).run Tryz.prog W = .ok none W := by simp [viewAt, hs']
  have hnv : (noView ⟨B, 0, none⟩).run Tryz.prog W = .ok () W := by simp [noView, hva, Result.andThen]
  simp [partAt, byteOf, hnv, hs', h1, Result.andThen]
set_option maxHeartbeats 400000 in
set_option maxRecDepth 100000 in
theorem sinks_number (W : World) : Calls Tryz.prog 110 #[.agg #[]] W fun e W' => e = .returned (.int .i64 2) ∧ Below W.heap.size W W' := by
  have hld : ∀ (B : Nat) (w : World), (Instr.loadAt 105 (.pointer (some ⟨B, 0, none⟩))).run Tryz.prog w = .ok (.agg #[]) w := fun B w => by
    have h2 : (sizeOf 105).run Tryz.prog w = .ok 0 w := by kernel_rfl
    simp [Instr.loadAt, Instr.sureAddr, loadVar, isAgg, run_underlying Tryz.underlying105, h2, loadCells, loadCellsFrom]
  have hfa := sinks_at W.heap.size (W.alloc (Obj.cells #[] 107)) (World.alloc_heap_new W _)
  go_enter Tryz.func110, Tryz.ntmps110
  go_wp2_with (go_at_call 108; refine (late_number _).mono ?_; rintro e w1 ⟨rfl, hb1⟩)
  refine ⟨rfl, _, results_tmp rfl _ _ _, rfl, ?_⟩
  exact ((Below.refl _ _).alloc (Nat.le_refl _) _).trans (hb1.mono (by simp))
end Go.Proofs.YtcaejedfjobooaaGreat

namespace Go.Proofs.YtcaejedfjobooaaGreat
open Go
namespace Ev
theorem LoadP_bears_all (hQ : Q.Quick cfg0) : ∀ r ∈ LoadP_bears.flatMap (·.2), PRowOk cfg0 (Ev.call cfg0 29) 112 r ∧ flatV r.v = true := List.forall_mem_cons.2 ⟨Q.row_ok hQ LoadP_bears1_ok LoadP_bears1_well, List.forall_mem_cons.2 ⟨Q.row_ok hQ LoadP_bears3_ok LoadP_bears3_well, List.forall_mem_cons.2 ⟨Q.row_ok hQ LoadP_bears0_ok LoadP_bears0_well, List.forall_mem_cons.2 ⟨Q.row_ok hQ LoadP_bears2_ok LoadP_bears2_well, List.forall_mem_cons.2 ⟨Q.row_ok hQ LoadP_bears8_ok LoadP_bears8_well, List.forall_mem_cons.2 ⟨Q.row_ok hQ LoadP_bears9_ok LoadP_bears9_well, List.forall_mem_cons.2 ⟨Q.row_ok hQ LoadP_bears10_ok LoadP_bears10_well, List.forall_mem_cons.2 ⟨Q.row_ok hQ LoadP_bears13_ok LoadP_bears13_well, List.forall_mem_cons.2 ⟨Q.row_ok hQ LoadP_bears21_ok LoadP_bears21_well, List.forall_mem_cons.2 ⟨Q.row_ok hQ LoadP_bears22_ok LoadP_bears22_well, List.forall_mem_cons.2 ⟨Q.row_ok hQ LoadP_bears23_ok LoadP_bears23_well, List.forall_mem_cons.2 ⟨Q.row_ok hQ LoadP_bears82_ok LoadP_bears82_well, List.forall_mem_cons.2 ⟨Q.row_ok hQ LoadP_bears14_ok LoadP_bears14_well, List.forall_mem_cons.2 ⟨Q.row_ok hQ LoadP_bears15_ok LoadP_bears15_well, List.forall_mem_cons.2 ⟨Q.row_ok hQ LoadP_bears25_ok LoadP_bears25_well, List.forall_mem_cons.2 ⟨Q.row_ok hQ LoadP_bears26_ok LoadP_bears26_well, List.forall_mem_cons.2 ⟨Q.row_ok hQ LoadP_bears27_ok LoadP_bears27_well, List.forall_mem_cons.2 ⟨Q.row_ok hQ LoadP_bears29_ok LoadP_bears29_well, List.forall_mem_cons.2 ⟨Q.row_ok hQ LoadP_bears4_ok LoadP_bears4_well, List.forall_mem_cons.2 ⟨Q.row_ok hQ LoadP_bears5_ok LoadP_bears5_well, List.forall_mem_cons.2 ⟨Q.row_ok hQ LoadP_bears6_ok LoadP_bears6_well, List.forall_mem_cons.2 ⟨Q.row_ok hQ LoadP_bears7_ok LoadP_bears7_well, List.forall_mem_cons.2 ⟨Q.row_ok hQ LoadP_bears142_ok LoadP_bears142_well, List.forall_mem_cons.2 ⟨Q.row_ok hQ LoadP_bears17_ok LoadP_bears17_well, List.forall_mem_cons.2 ⟨Q.row_ok hQ LoadP_bears18_ok LoadP_bears18_well, List.forall_mem_cons.2 ⟨Q.row_ok hQ LoadP_bears19_ok LoadP_bears19_well, List.forall_mem_cons.2 ⟨Q.row_ok hQ LoadP_bears113_ok LoadP_bears113_well, List.forall_mem_cons.2 ⟨Q.row_ok hQ LoadP_bears12_ok LoadP_bears12_well, List.forall_mem_cons.2 ⟨Q.row_ok hQ LoadP_bears28_ok LoadP_bears28_well, List.forall_mem_cons.2 ⟨Q.row_ok hQ LoadP_bears86_ok LoadP_bears86_well, List.forall_mem_cons.2 ⟨Q.row_ok hQ LoadP_bears30_ok LoadP_bears30_well, List.forall_mem_cons.2 ⟨Q.row_ok hQ LoadP_bears31_ok LoadP_bears31_well, List.forall_mem_cons.2 ⟨Q.row_ok hQ LoadP_bears11_ok LoadP_bears11_well, List.forall_mem_cons.2 ⟨Q.row_ok hQ LoadP_bears146_ok LoadP_bears146_well, List.forall_mem_cons.2 ⟨Q.row_ok hQ LoadP_bears24_ok LoadP_bears24_well, List.forall_mem_cons.2 ⟨Q.row_ok hQ LoadP_bears80_ok LoadP_bears80_well, List.forall_mem_cons.2 ⟨Q.row_ok hQ LoadP_bears16_ok LoadP_bears16_well, List.forall_mem_cons.2 ⟨Q.row_ok hQ LoadP_bears20_ok LoadP_bears20_well, List.forall_mem_cons.2 ⟨Q.row_ok hQ LoadP_bears32_ok LoadP_bears32_well, List.forall_mem_cons.2 ⟨Q.row_ok hQ LoadP_bears33_ok LoadP_bears33_well, List.forall_mem_cons.2 ⟨Q.row_ok hQ LoadP_bears34_ok LoadP_bears34_well, List.forall_mem_cons.2 ⟨Q.row_ok hQ LoadP_bears35_ok LoadP_bears35_well, List.forall_mem_cons.2 ⟨Q.row_ok hQ LoadP_bears36_ok LoadP_bears36_well, List.forall_mem_cons.2 ⟨Q.row_ok hQ LoadP_bears37_ok LoadP_bears37_well, List.forall_mem_cons.2 ⟨Q.row_ok hQ LoadP_bears38_ok LoadP_bears38_well, List.forall_mem_cons.2 ⟨Q.row_ok hQ LoadP_bears39_ok LoadP_bears39_well, List.forall_mem_cons.2 ⟨Q.row_ok hQ LoadP_bears40_ok LoadP_bears40_well, List.forall_mem_cons.2 ⟨Q.row_ok hQ LoadP_bears41_ok LoadP_bears41_well, List.forall_mem_cons.2 ⟨Q.row_ok hQ LoadP_bears42_ok LoadP_bears42_well, List.forall_mem_cons.2 ⟨Q.row_ok hQ LoadP_bears43_ok LoadP_bears43_well, List.forall_mem_cons.2 ⟨Q.row_ok hQ LoadP_bears44_ok LoadP_bears44_well, List.forall_mem_cons.2 ⟨Q.row_ok hQ LoadP_bears45_ok LoadP_bears45_well, List.forall_mem_cons.2 ⟨Q.row_ok hQ LoadP_bears46_ok LoadP_bears46_well, List.forall_mem_cons.2 ⟨Q.row_ok hQ LoadP_bears47_ok LoadP_bears47_well, List.forall_mem_cons.2 ⟨Q.row_ok hQ LoadP_bears48_ok LoadP_bears48_well, List.forall_mem_cons.2 ⟨Q.row_ok hQ LoadP_bears49_ok LoadP_bears49_well, List.forall_mem_cons.2 ⟨Q.row_ok hQ LoadP_bears50_ok LoadP_bears50_well, List.forall_mem_cons.2 ⟨Q.row_ok hQ LoadP_bears51_ok LoadP_bears51_well, List.forall_mem_cons.2 ⟨Q.row_ok hQ LoadP_bears52_ok LoadP_bears52_well, List.forall_mem_cons.2 ⟨Q.row_ok hQ LoadP_bears53_ok LoadP_bears53_well, List.forall_mem_cons.2 ⟨Q.row_ok hQ LoadP_bears54_ok LoadP_bears54_well, List.forall_mem_cons.2 ⟨Q.row_ok hQ LoadP_bears55_ok LoadP_bears55_well, List.forall_mem_cons.2 ⟨Q.row_ok hQ LoadP_bears56_ok LoadP_bears56_well, List.forall_mem_cons.2 ⟨Q.row_ok hQ LoadP_bears57_ok LoadP_bears57_well, List.forall_mem_cons.2 ⟨Q.row_ok hQ LoadP_bears58_ok LoadP_bears58_well, List.forall_mem_cons.2 ⟨Q.row_ok hQ LoadP_bears59_ok LoadP_bears59_well, List.forall_mem_cons.2 ⟨Q.row_ok hQ LoadP_bears60_ok LoadP_bears60_well, List.forall_mem_cons.2 ⟨Q.row_ok hQ LoadP_bears61_ok LoadP_bears61_well, List.forall_mem_cons.2 ⟨Q.row_ok hQ LoadP_bears62_ok LoadP_bears62_well, List.forall_mem_cons.2 ⟨Q.row_ok hQ LoadP_bears63_ok LoadP_bears63_well, List.forall_mem_cons.2 ⟨Q.row_ok hQ LoadP_bears64_ok LoadP_bears64_well, List.forall_mem_cons.2 ⟨Q.row_ok hQ LoadP_bears65_ok LoadP_bears65_well, List.forall_mem_cons.2 ⟨Q.row_ok hQ LoadP_bears66_ok LoadP_bears66_well, List.forall_mem_cons.2 ⟨Q.row_ok hQ LoadP_bears67_ok LoadP_bears67_well, List.forall_mem_cons.2 ⟨Q.row_ok hQ LoadP_bears68_ok LoadP_bears68_well, List.forall_mem_cons.2 ⟨Q.row_ok hQ LoadP_bears69_ok LoadP_bears69_well, List.forall_mem_cons.2 ⟨Q.row_ok hQ LoadP_bears70_ok LoadP_bears70_well, List.forall_mem_cons.2 ⟨Q.row_ok hQ LoadP_bears71_ok LoadP_bears71_well, List.forall_mem_cons.2 ⟨Q.row_ok hQ LoadP_bears72_ok LoadP_bears72_well, List.forall_mem_cons.2 ⟨Q.row_ok hQ LoadP_bears73_ok LoadP_bears73_well, List.forall_mem_cons.2 ⟨Q.row_ok hQ LoadP_bears74_ok LoadP_bears74_well, List.forall_mem_cons.2 ⟨Q.row_ok hQ LoadP_bears75_ok LoadP_bears75_well, List.forall_mem_cons.2 ⟨Q.row_ok hQ LoadP_bears76_ok LoadP_bears76_well, List.forall_mem_cons.2 ⟨Q.row_ok hQ LoadP_bears77_ok LoadP_bears77_well, List.forall_mem_cons.2 ⟨Q.row_ok hQ LoadP_bears78_ok LoadP_bears78_well, List.forall_mem_cons.2 ⟨Q.row_ok hQ LoadP_bears79_ok LoadP_bears79_well, List.forall_mem_cons.2 ⟨Q.row_ok hQ LoadP_bears81_ok LoadP_bears81_well, List.forall_mem_cons.2 ⟨Q.row_ok hQ LoadP_bears83_ok LoadP_bears83_well, List.forall_mem_cons.2 ⟨Q.row_ok hQ LoadP_bears84_ok LoadP_bears84_well, List.forall_mem_cons.2 ⟨Q.row_ok hQ LoadP_bears85_ok LoadP_bears85_well, List.forall_mem_cons.2 ⟨Q.row_ok hQ LoadP_bears87_ok LoadP_bears87_well, List.forall_mem_cons.2 ⟨Q.row_ok hQ LoadP_bears88_ok LoadP_bears88_well, List.forall_mem_cons.2 ⟨Q.row_ok hQ LoadP_bears89_ok LoadP_bears89_well, List.forall_mem_cons.2 ⟨Q.row_ok hQ LoadP_bears90_ok LoadP_bears90_well, List.forall_mem_cons.2 ⟨Q.row_ok hQ LoadP_bears91_ok LoadP_bears91_well, List.forall_mem_cons.2 ⟨Q.row_ok hQ LoadP_bears92_ok LoadP_bears92_well, List.forall_mem_cons.2 ⟨Q.row_ok hQ LoadP_bears93_ok LoadP_bears93_well, List.forall_mem_cons.2 ⟨Q.row_ok hQ LoadP_bears94_ok LoadP_bears94_well, List.forall_mem_cons.2 ⟨Q.row_ok hQ LoadP_bears95_ok LoadP_bears95_well, List.forall_mem_cons.2 ⟨Q.row_ok hQ LoadP_bears96_ok LoadP_bears96_well, List.forall_mem_cons.2 ⟨Q.row_ok hQ LoadP_bears97_ok LoadP_bears97_well, List.forall_mem_cons.2 ⟨Q.row_ok hQ LoadP_bears98_ok LoadP_bears98_well, List.forall_mem_cons.2 ⟨Q.row_ok hQ LoadP_bears99_ok LoadP_bears99_well, List.forall_mem_cons.2 ⟨Q.row_ok hQ LoadP_bears100_ok LoadP_bears100_well, List.forall_mem_cons.2 ⟨Q.row_ok hQ LoadP_bears101_ok LoadP_bears101_well, List.forall_mem_cons.2 ⟨Q.row_ok hQ LoadP_bears102_ok LoadP_bears102_well, List.forall_mem_cons.2 ⟨Q.row_ok hQ LoadP_bears103_ok LoadP_bears103_well, List.forall_mem_cons.2 ⟨Q.row_ok hQ LoadP_bears104_ok LoadP_bears104_well, List.forall_mem_cons.2 ⟨Q.row_ok hQ LoadP_bears105_ok LoadP_bears105_well, List.forall_mem_cons.2 ⟨Q.row_ok hQ LoadP_bears106_ok LoadP_bears106_well, List.forall_mem_cons.2 ⟨Q.row_ok hQ LoadP_bears107_ok LoadP_bears107_well, List.forall_mem_cons.2 ⟨Q.row_ok hQ LoadP_bears108_ok LoadP_bears108_well, List.forall_mem_cons.2 ⟨Q.row_ok hQ LoadP_bears109_ok LoadP_bears109_well, List.forall_mem_cons.2 ⟨Q.row_ok hQ LoadP_bears110_ok LoadP_bears110_well, List.forall_mem_cons.2 ⟨Q.row_ok hQ LoadP_bears111_ok LoadP_bears111_well, List.forall_mem_cons.2 ⟨Q.row_ok hQ LoadP_bears112_ok LoadP_bears112_well, List.forall_mem_cons.2 ⟨Q.row_ok hQ LoadP_bears114_ok LoadP_bears114_well, List.forall_mem_cons.2 ⟨Q.row_ok hQ LoadP_bears115_ok LoadP_bears115_well, List.forall_mem_cons.2 ⟨Q.row_ok hQ LoadP_bears116_ok LoadP_bears116_well, List.forall_mem_cons.2 ⟨Q.row_ok hQ LoadP_bears117_ok LoadP_bears117_well, List.forall_mem_cons.2 ⟨Q.row_ok hQ LoadP_bears118_ok LoadP_bears118_well, List.forall_mem_cons.2 ⟨Q.row_ok hQ LoadP_bears119_ok LoadP_bears119_well, List.forall_mem_cons.2 ⟨Q.row_ok hQ LoadP_bears120_ok LoadP_bears120_well, List.forall_mem_cons.2 ⟨Q.row_ok hQ LoadP_bears121_ok LoadP_bears121_well, List.forall_mem_cons.2 ⟨Q.row_ok hQ LoadP_bears122_ok LoadP_bears122_well, List.forall_mem_cons.2 ⟨Q.row_ok hQ LoadP_bears123_ok LoadP_bears123_well, List.forall_mem_cons.2 ⟨Q.row_ok hQ LoadP_bears124_ok LoadP_bears124_well, List.forall_mem_cons.2 ⟨Q.row_ok hQ LoadP_bears125_ok LoadP_bears125_well, List.forall_mem_cons.2 ⟨Q.row_ok hQ LoadP_bears126_ok LoadP_bears126_well, List.forall_mem_cons.2 ⟨Q.row_ok hQ LoadP_bears127_ok LoadP_bears127_well, List.forall_mem_cons.2 ⟨Q.row_ok hQ LoadP_bears128_ok LoadP_bears128_well, List.forall_mem_cons.2 ⟨Q.row_ok hQ LoadP_bears129_ok LoadP_bears129_well, List.forall_mem_cons.2 ⟨Q.row_ok hQ LoadP_bears130_ok LoadP_bears130_well, List.forall_mem_cons.2 ⟨Q.row_ok hQ LoadP_bears131_ok LoadP_bears131_well, List.forall_mem_cons.2 ⟨Q.row_ok hQ LoadP_bears132_ok LoadP_bears132_well, List.forall_mem_cons.2 ⟨Q.row_ok hQ LoadP_bears133_ok LoadP_bears133_well, List.forall_mem_cons.2 ⟨Q.row_ok hQ LoadP_bears134_ok LoadP_bears134_well, List.forall_mem_cons.2 ⟨Q.row_ok hQ LoadP_bears135_ok LoadP_bears135_well, List.forall_mem_cons.2 ⟨Q.row_ok hQ LoadP_bears136_ok LoadP_bears136_well, List.forall_mem_cons.2 ⟨Q.row_ok hQ LoadP_bears137_ok LoadP_bears137_well, List.forall_mem_cons.2 ⟨Q.row_ok hQ LoadP_bears138_ok LoadP_bears138_well, List.forall_mem_cons.2 ⟨Q.row_ok hQ LoadP_bears139_ok LoadP_bears139_well, List.forall_mem_cons.2 ⟨Q.row_ok hQ LoadP_bears140_ok LoadP_bears140_well, List.forall_mem_cons.2 ⟨Q.row_ok hQ LoadP_bears141_ok LoadP_bears141_well, List.forall_mem_cons.2 ⟨Q.row_ok hQ LoadP_bears143_ok LoadP_bears143_well, List.forall_mem_cons.2 ⟨Q.row_ok hQ LoadP_bears144_ok LoadP_bears144_well, List.forall_mem_cons.2 ⟨Q.row_ok hQ LoadP_bears145_ok LoadP_bears145_well, fun _ h => by cases h⟩⟩⟩⟩⟩⟩⟩⟩⟩⟩⟩⟩⟩⟩⟩⟩⟩⟩⟩⟩⟩⟩⟩⟩⟩⟩⟩⟩⟩⟩⟩⟩⟩⟩⟩⟩⟩⟩⟩⟩⟩⟩⟩⟩⟩⟩⟩⟩⟩⟩⟩⟩⟩⟩⟩⟩⟩⟩⟩⟩⟩⟩⟩⟩⟩⟩⟩⟩⟩⟩⟩⟩⟩⟩⟩⟩⟩⟩⟩⟩⟩⟩⟩⟩⟩⟩⟩⟩⟩⟩⟩⟩⟩⟩⟩⟩⟩⟩⟩⟩⟩⟩⟩⟩⟩⟩⟩⟩⟩⟩⟩⟩⟩⟩⟩⟩⟩⟩⟩⟩⟩⟩⟩⟩⟩⟩⟩⟩⟩⟩⟩⟩⟩⟩⟩⟩⟩⟩⟩⟩⟩⟩⟩⟩⟩⟩⟩
theorem LoadP_weak_all (hQ : Q.Quick cfg0) : ∀ r ∈ LoadP_weak.flatMap (·.2), PRowOk cfg0 (Ev.call cfg0 29) 50 r ∧ flatV r.v = true := List.forall_mem_cons.2 ⟨Q.row_ok hQ LoadP_weak0_ok LoadP_weak0_well, fun _ h => by cases h⟩
end Ev
end Go.Proofs.YtcaejedfjobooaaGreat

namespace Go.Proofs.YtcaejedfjobooaaGreat
open Go Go.Proofs
namespace Ev
set_option maxRecDepth 100000
theorem dfRoadWeak : DfOk Tryz.prog 62 119 true := by
  obtain ⟨h1, h2⟩ := closure_road (f := 62) Tryz.func62 rfl rfl rfl (by kernel_rfl) rfl rfl rfl rfl rfl rfl rfl
  exact ⟨⟨_, Tryz.func62, by kernel_rfl, by kernel_rfl⟩, h1, fun B off y x k n W hc hz hx => h2 B off y x k n W hc hz (by simpa using hx)⟩
theorem dfRoadBears : DfOk Tryz.prog 114 119 true := by
  obtain ⟨h1, h2⟩ := closure_road (f := 114) Tryz.func114 rfl rfl rfl (by kernel_rfl) rfl rfl rfl rfl rfl rfl rfl
  exact ⟨⟨_, Tryz.func114, by kernel_rfl, by kernel_rfl⟩, h1, fun B off y x k n W hc hz hx => h2 B off y x k n W hc hz (by simpa using hx)⟩
theorem dfLoadCheck : DfOk Tryz.prog 16 73 true := by
  obtain ⟨h1, h2⟩ := closure_load (f := 16) Tryz.func16 rfl rfl rfl (by kernel_rfl) rfl rfl rfl rfl rfl rfl rfl
  exact ⟨⟨_, Tryz.func16, by kernel_rfl, by kernel_rfl⟩, h1, fun B off y x k n W hc hz hx => h2 B off y x k n W hc hz (by simpa using hx)⟩
theorem dfLoadPlan : DfOk Tryz.prog 24 73 true := by
  obtain ⟨h1, h2⟩ := closure_load (f := 24) Tryz.func24 rfl rfl rfl (by kernel_rfl) rfl rfl rfl rfl rfl rfl rfl
  exact ⟨⟨_, Tryz.func24, by kernel_rfl, by kernel_rfl⟩, h1, fun B off y x k n W hc hz hx => h2 B off y x k n W hc hz (by simpa using hx)⟩
theorem dfLoadAll : DfOk Tryz.prog 30 73 true := by
  obtain ⟨h1, h2⟩ := closure_load (f := 30) Tryz.func30 rfl rfl rfl (by kernel_rfl) rfl rfl rfl rfl rfl rfl rfl
  exact ⟨⟨_, Tryz.func30, by kernel_rfl, by kernel_rfl⟩, h1, fun B off y x k n W hc hz hx => h2 B off y x k n W hc hz (by simpa using hx)⟩
theorem dfLoadAlone : DfOk Tryz.prog 34 73 true := by
  obtain ⟨h1, h2⟩ := closure_load (f := 34) Tryz.func34 rfl rfl rfl (by kernel_rfl) rfl rfl rfl rfl rfl rfl rfl
  exact ⟨⟨_, Tryz.func34, by kernel_rfl, by kernel_rfl⟩, h1, fun B off y x k n W hc hz hx => h2 B off y x k n W hc hz (by simpa using hx)⟩
theorem dfLoadNever : DfOk Tryz.prog 39 73 true := by
  obtain ⟨h1, h2⟩ := closure_load (f := 39) Tryz.func39 rfl rfl rfl (by kernel_rfl) rfl rfl rfl rfl rfl rfl rfl
  exact ⟨⟨_, Tryz.func39, by kernel_rfl, by kernel_rfl⟩, h1, fun B off y x k n W hc hz hx => h2 B off y x k n W hc hz (by simpa using hx)⟩
theorem dfLoadWith : DfOk Tryz.prog 42 73 true := by
  obtain ⟨h1, h2⟩ := closure_load (f := 42) Tryz.func42 rfl rfl rfl (by kernel_rfl) rfl rfl rfl rfl rfl rfl rfl
  exact ⟨⟨_, Tryz.func42, by kernel_rfl, by kernel_rfl⟩, h1, fun B off y x k n W hc hz hx => h2 B off y x k n W hc hz (by simpa using hx)⟩
theorem dfLoadMore : DfOk Tryz.prog 46 73 true := by
  obtain ⟨h1, h2⟩ := closure_load (f := 46) Tryz.func46 rfl rfl rfl (by kernel_rfl) rfl rfl rfl rfl rfl rfl rfl
  exact ⟨⟨_, Tryz.func46, by kernel_rfl, by kernel_rfl⟩, h1, fun B off y x k n W hc hz hx => h2 B off y x k n W hc hz (by simpa using hx)⟩
theorem memN_mem : ∀ {l : List Nat} {n : Nat}, memN l n = true → n ∈ l
  | [], n, h => by cases h
  | x :: l, n, h => by
    have e : memN (x :: l) n = (Bool.rec (memN l n) true (Nat.beq n x) : Bool) := rfl
    rw [e] at h
    cases hb : Nat.beq n x with
    | true => rw [Nat.eq_of_beq_eq_true hb]; exact List.mem_cons_self ..
    | false => rw [hb] at h; exact List.mem_cons_of_mem _ (memN_mem h)
theorem dfk_ok : ∀ f t ag, dfkL f = some (t, ag) → DfOk Tryz.prog f t ag := by
  intro f t ag h
  unfold dfkL at h
  cases hb : memN closR f with
  | true =>
    rw [hb] at h
    cases h
    have hm := memN_mem hb
    simp only [closR, List.mem_cons, List.not_mem_nil, or_false] at hm
    rcases hm with rfl | rfl
    · exact dfRoadWeak
    · exact dfRoadBears
  | false =>
    rw [hb] at h
    cases hb2 : memN closL f with
    | false => rw [hb2] at h; cases h
    | true =>
      rw [hb2] at h
      cases h
      have hm := memN_mem hb2
      simp only [closL, List.mem_cons, List.not_mem_nil, or_false] at hm
      rcases hm with rfl | rfl | rfl | rfl | rfl | rfl | rfl
      · exact dfLoadCheck
      · exact dfLoadPlan
      · exact dfLoadAll
      · exact dfLoadAlone
      · exact dfLoadNever
      · exact dfLoadWith
      · exact dfLoadMore
theorem restV_ok {d k f h : Int} {v : AV} (hv : restV d k f h = some v) : v = .int .i64 (min f (IntKind.i64.wrap (h + IntKind.i64.wrap (d * k)))) := by
  unfold restV at hv
  cases hb : Q.andB (Q.fits .i64 (d * k)) (Q.fits .i64 (Q.addI h (d * k))) with
  | false => rw [hb] at hv; cases hv
  | true =>
    rw [hb] at hv
    rw [Q.andB_eq, Bool.and_eq_true] at hb
    rw [Q.fits_wrap hb.1, ← Q.addI_eq, Q.fits_wrap hb.2]
    cases hv
    rw [Q.leI_eq, Q.addI_eq]
    by_cases hle : f ≤ h + d * k
    · simp [hle, Int.min_eq_left hle]
    · simp [hle]; omega
theorem rest_ext (args : List AV) (v : AV) (rargs : Array Value) (W : World) (L : Nat → Prop) (μ : Mu) (hv : restG args = some v) (hr : VL W L μ args rargs.toList) :
    CallsIn Fence.wide 0 Tryz.prog 129 rargs W fun e W' => (∃ w, e = .returned w ∧ ∀ W L μ, VR W L μ v w) ∧ RowKit.Below W.heap.size W W' := by
  unfold restG at hv
  split at hv
  · rename_i d s k f h l
    obtain ⟨xs, hxs⟩ : ∃ xs, rargs.toList = xs := ⟨_, rfl⟩
    rw [hxs] at hr
    have hl := hr.1
    match xs, hl, hr with
    | [x0, x1, x2, x3], _, hr =>
      obtain ⟨a0, rfl, v0⟩ := vr_agg hr.head
      obtain ⟨a1, rfl, v1⟩ := vr_agg hr.tail.head
      have e2 := vr_int hr.tail.tail.head
      have e3 := vr_int hr.tail.tail.tail.head
      subst e2 e3
      have l0 := v0.1
      have l1 := v1.1
      match a0, l0, v0, a1, l1, v1 with
      | [y0], _, v0, [z0, z1, z2], _, v1 =>
        have f0 := vr_int v0.head
        have f1 := vr_int v1.head
        have f2 := vr_int v1.tail.head
        have f3 := vr_int v1.tail.tail.head
        subst f0 f1 f2 f3
        have : rargs = #[.agg #[.int .i64 d], .agg #[.int .i64 s, .int .i64 k, .int .i64 f], .int .i64 h, .int .i64 l] := Array.ext' (by rw [hxs])
        subst this
        refine (callsIn_wide.2 (rest_any d s k f h l W)).mono ?_
        rintro e W' ⟨rfl, hb⟩
        exact ⟨⟨_, rfl, fun _ _ _ => by rw [restV_ok hv]; exact .int⟩, hb⟩
  · cases hv
theorem rest_known : ∃ F, Tryz.prog.funcs[129]? = some F ∧ (F.name == "runtime.NumGoroutine") = false ∧ F.body.isNone = false := ⟨_, Tryz.func129, by kernel_rfl, by kernel_rfl⟩
theorem sinks_ext (args : List AV) (v : AV) (rargs : Array Value) (W : World) (L : Nat → Prop) (μ : Mu) (hv : sinksG args = some v) (hr : VL W L μ args rargs.toList) :
    CallsIn Fence.wide 0 Tryz.prog 110 rargs W fun e W' => (∃ w, e = .returned w ∧ ∀ W L μ, VR W L μ v w) ∧ RowKit.Below W.heap.size W W' := by
  unfold sinksG at hv
  split at hv
  · cases hv
    obtain ⟨xs, hxs⟩ : ∃ xs, rargs.toList = xs := ⟨_, rfl⟩
    rw [hxs] at hr
    have hl := hr.1
    match xs, hl, hr with
    | [x0], _, hr =>
      obtain ⟨a0, rfl, v0⟩ := vr_agg hr.head
      have l0 := v0.1
      match a0, l0 with
      | [], _ =>
        have : rargs = #[.agg #[]] := Array.ext' (by rw [hxs])
        subst this
        refine (callsIn_wide.2 (sinks_number W)).mono ?_
        rintro e W' ⟨rfl, hb⟩
        exact ⟨⟨_, rfl, fun _ _ _ => .int⟩, hb⟩
  · cases hv
theorem sinks_known : ∃ F, Tryz.prog.funcs[110]? = some F ∧ (F.name == "runtime.NumGoroutine") = false ∧ F.body.isNone = false := ⟨_, Tryz.func110, by kernel_rfl, by kernel_rfl⟩
theorem extL_ok : ∀ f g, extL f = some g → (∃ F, Tryz.prog.funcs[f]? = some F ∧ (F.name == "runtime.NumGoroutine") = false ∧ F.body.isNone = false) ∧
    ∀ (args : List AV) (v : AV) (rargs : Array Value) (W : World) (L : Nat → Prop) (μ : Mu), g args = some v → VL W L μ args rargs.toList →
      CallsIn Fence.wide 0 Tryz.prog f rargs W fun e W' => (∃ w, e = .returned w ∧ ∀ W L μ, VR W L μ v w) ∧ RowKit.Below W.heap.size W W' := by
  intro f g h
  unfold extL at h
  cases hb : Nat.beq f 129 with
  | true =>
    rw [hb] at h
    cases h
    obtain rfl := Nat.eq_of_beq_eq_true hb
    exact ⟨rest_known, rest_ext⟩
  | false =>
    rw [hb] at h
    cases hb2 : Nat.beq f 110 with
    | false => rw [hb2] at h; cases h
    | true =>
      rw [hb2] at h
      cases h
      obtain rfl := Nat.eq_of_beq_eq_true hb2
      exact ⟨sinks_known, sinks_ext⟩
theorem tbl0 : TblOk Tryz.prog cfg0 := ⟨fun f fn h => FT.find_all tree_is h, extL_ok, fun _ _ h => (by cases h), dfk_ok⟩
/-- Of all entries, as a bool. -/
noncomputable def FT.allB (p : AFunc → Bool) : FT → Bool := fun t => FT.rec true (fun _ f _ _ ihl ihr => Q.andB (p f) (Q.andB ihl ihr)) t
theorem FT.allB_all {p : AFunc → Bool} : ∀ {t : FT}, FT.allB p t = true → FT.All (fun _ f => p f = true) t
  | .leaf, _ => trivial
  | .node k f l r, h => by
    have e : FT.allB p (.node k f l r) = Q.andB (p f) (Q.andB (FT.allB p l) (FT.allB p r)) := rfl
    rw [e, Q.andB_eq, Q.andB_eq, Bool.and_eq_true, Bool.and_eq_true] at h
    exact ⟨h.1, FT.allB_all h.2.1, FT.allB_all h.2.2⟩
theorem all_ok : FT.allB Q.okF fnTree = true := by kernel_rfl
theorem quick0 : Q.Quick cfg0 := ⟨fun _ => rfl, fun _ _ h => FT.find_all (FT.allB_all all_ok) h⟩
theorem quickA : Q.Quick cfgA := ⟨fun _ => rfl, fun _ _ h => FT.find_all (FT.allB_all all_ok) h⟩
theorem known_of {f : Nat} {af : AFunc} (h : ∃ F, Tryz.prog.funcs[f]? = some F ∧ (F.name == "runtime.NumGoroutine") = false ∧ compFn Tryz.prog F = some af.strip) : ∃ F, Tryz.prog.funcs[f]? = some F ∧ (F.name == "runtime.NumGoroutine") = false ∧ F.body.isNone = false := by
  obtain ⟨F, f1, f2, f3⟩ := h
  obtain ⟨c, g1, _⟩ := compFn_ok f3
  exact ⟨F, f1, f2, by rw [g1]; rfl⟩
theorem exthL_ok : ∀ f g, exthL f = some g → (∃ F, Tryz.prog.funcs[f]? = some F ∧ (F.name == "runtime.NumGoroutine") = false ∧ F.body.isNone = false) ∧
    ∀ (args : List AV) (H : List AB) (v : AV) (rargs : Array Value) (W : World) (L : Nat → Prop) (μ : Mu), g args H = some v → VL W L μ args rargs.toList → Sim Tryz.prog W L μ H → Globs cfg0 W L →
      CallsIn Fence.wide 0 Tryz.prog f rargs W fun e W' => (∃ w, e = .returned w ∧ VR W' L nomu v w) ∧ RowKit.Below W.heap.size W W' := by
  intro f g h
  unfold exthL at h
  cases hb : Nat.beq f 112 with
  | true =>
    rw [hb] at h
    cases h
    obtain rfl := Nat.eq_of_beq_eq_true hb
    exact ⟨known_of is112, fun args H v rargs W L μ h hv hs hG => toldK_ok tbl0 (by kernel_rfl) rfl (show cfg0.fns 112 = some af112 by kernel_rfl) (by kernel_rfl) (LoadP_bears_all quick0) h hv hs hG⟩
  | false =>
    rw [hb] at h
    cases hb2 : Nat.beq f 50 with
    | false => rw [hb2] at h; cases h
    | true =>
      rw [hb2] at h
      cases h
      obtain rfl := Nat.eq_of_beq_eq_true hb2
      exact ⟨known_of is50, fun args H v rargs W L μ h hv hs hG => toldK_ok tbl0 (by kernel_rfl) rfl (show cfg0.fns 50 = some af50 by kernel_rfl) (by kernel_rfl) (LoadP_weak_all quick0) h hv hs hG⟩
theorem tblA : TblOk Tryz.prog cfgA := ⟨fun f fn h => FT.find_all tree_is h, extL_ok, exthL_ok, dfk_ok⟩
end Ev
end Go.Proofs.YtcaejedfjobooaaGreat

namespace Go.Proofs.YtcaejedfjobooaaGreat
open Go Go.Proofs
namespace Ev
set_option maxRecDepth 1000000
theorem LoadM_row2_ok : Q.okRow cfgA 29 13 LoadM_row2 = true := by kernel_rfl
theorem LoadM_row2_well : Q.wellRow LoadM_row2 = true := by kernel_rfl
theorem LoadM_all : ∀ r ∈ LoadM_tab, PRowOk cfgA (Ev.call cfgA 29) 13 r ∧ flatV r.v = true :=
  List.forall_mem_cons.2 ⟨LoadM0_ok quickA, List.forall_mem_cons.2 ⟨LoadM1_ok quickA, List.forall_mem_cons.2 ⟨Q.row_ok quickA LoadM_row2_ok LoadM_row2_well, fun _ h => by cases h⟩⟩⟩
theorem exthB_ok : ∀ f g, exthB f = some g → (∃ F, Tryz.prog.funcs[f]? = some F ∧ (F.name == "runtime.NumGoroutine") = false ∧ F.body.isNone = false) ∧
    ∀ (args : List AV) (H : List AB) (v : AV) (rargs : Array Value) (W : World) (L : Nat → Prop) (μ : Mu), g args H = some v → VL W L μ args rargs.toList → Sim Tryz.prog W L μ H → Globs cfg0 W L →
      CallsIn Fence.wide 0 Tryz.prog f rargs W fun e W' => (∃ w, e = .returned w ∧ VR W' L nomu v w) ∧ RowKit.Below W.heap.size W W' := by
  intro f g h
  unfold exthB at h
  cases hb : Nat.beq f 13 with
  | false => rw [hb] at h; exact exthL_ok f g h
  | true =>
    rw [hb] at h
    cases h
    obtain rfl := Nat.eq_of_beq_eq_true hb
    exact ⟨known_of is13, fun args H v rargs W L μ h hv hs hG => toldP_ok tblA (by kernel_rfl) (by kernel_rfl) (show cfgA.fns 13 = some af13 by kernel_rfl) (by kernel_rfl) LoadM_all h hv hs hG⟩
theorem quickB : Q.Quick cfgB := ⟨fun _ => rfl, fun _ _ h => FT.find_all (FT.allB_all all_ok) h⟩
theorem quickN : Q.Quick cfgN := ⟨fun _ => rfl, fun _ _ h => FT.find_all (FT.allB_all all_ok) h⟩
theorem tblB : TblOk Tryz.prog cfgB := ⟨fun f fn h => FT.find_all tree_is h, extL_ok, exthB_ok, dfk_ok⟩
/-- The table where 'alive' is told, once that it answers true is known. -/
theorem tblN (ha : ∀ W, CallsIn Fence.wide 0 Tryz.prog 14 #[] W fun e W' => e = .returned (.bool true) ∧ RowKit.Below W.heap.size W W') : TblOk Tryz.prog cfgN := by
  refine ⟨fun f fn h => FT.find_all tree_is h, fun f g h => ?_, exthB_ok, dfk_ok⟩
  have e : cfgN.ext f = (Bool.rec (extL f) (some fun args => List.rec (some (.bool true)) (fun _ _ _ => none) args) (Nat.beq f 14) : Option (List AV → Option AV)) := rfl
  rw [e] at h
  cases hb : Nat.beq f 14 with
  | false => rw [hb] at h; exact extL_ok f g h
  | true =>
    rw [hb] at h
    cases h
    obtain rfl := Nat.eq_of_beq_eq_true hb
    refine ⟨known_of is14, fun args v rargs W L μ hv hr => ?_⟩
    cases args with
    | cons a l => cases hv
    | nil =>
      cases hv
      have : rargs = #[] := Array.ext' (List.eq_nil_of_length_eq_zero (by have := hr.1; simpa using this.symm))
      subst this
      exact (ha W).mono fun en W' ⟨he, hb⟩ => ⟨⟨_, he, fun _ _ _ => .bool⟩, hb⟩
end Ev
end Go.Proofs.YtcaejedfjobooaaGreat
