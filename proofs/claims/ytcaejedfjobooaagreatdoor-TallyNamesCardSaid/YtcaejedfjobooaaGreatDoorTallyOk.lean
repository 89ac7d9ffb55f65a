/- The code of the evaluator is that of the program (part 1). Printed by program. -/
import Derived.Test.YtcaejedfjobooaaGreatDoorAcTally
import Derived.Test.YtcaejedfjobooaaGreatDoorEvComp
import Derived.Test.YtcaejedfjobooaaGreatDoorProg
import Derived.KernelRfl
import Derived.Test.YtcaejedfjobooaaGreatDoorEvEnter
import Derived.Test.YtcaejedfjobooaaGreatDoorRecCall
import Derived.WalkKit
import Derived.Below
import Derived.RangeFuncRecord
import Derived.Test.YtcaejedfjobooaaGreatDoorEvFin
import Derived.RecoverIn
import Derived.Test.YtcaejedfjobooaaGreatDoorTallyCfg
import Derived.Test.YtcaejedfjobooaaGreatDoorEvTop
namespace Go.Proofs.YtcaejedfjobooaaGreatDoor
open Go Go.Proofs
namespace Ev
set_option maxRecDepth 1000000
theorem is3 : ∃ F, Tryz.prog.funcs[3]? = some F ∧ (F.name == "runtime.NumGoroutine") = false ∧ compFn Tryz.prog F = some af3.strip := ⟨_, Tryz.func3, by kernel_rfl, by kernel_rfl⟩
theorem is4 : ∃ F, Tryz.prog.funcs[4]? = some F ∧ (F.name == "runtime.NumGoroutine") = false ∧ compFn Tryz.prog F = some af4.strip := ⟨_, Tryz.func4, by kernel_rfl, by kernel_rfl⟩
theorem is6 : ∃ F, Tryz.prog.funcs[6]? = some F ∧ (F.name == "runtime.NumGoroutine") = false ∧ compFn Tryz.prog F = some af6.strip := ⟨_, Tryz.func6, by kernel_rfl, by kernel_rfl⟩
theorem is7 : ∃ F, Tryz.prog.funcs[7]? = some F ∧ (F.name == "runtime.NumGoroutine") = false ∧ compFn Tryz.prog F = some af7.strip := ⟨_, Tryz.func7, by kernel_rfl, by kernel_rfl⟩
theorem is8 : ∃ F, Tryz.prog.funcs[8]? = some F ∧ (F.name == "runtime.NumGoroutine") = false ∧ compFn Tryz.prog F = some af8.strip := ⟨_, Tryz.func8, by kernel_rfl, by kernel_rfl⟩
theorem is10 : ∃ F, Tryz.prog.funcs[10]? = some F ∧ (F.name == "runtime.NumGoroutine") = false ∧ compFn Tryz.prog F = some af10.strip := ⟨_, Tryz.func10, by kernel_rfl, by kernel_rfl⟩
theorem is11 : ∃ F, Tryz.prog.funcs[11]? = some F ∧ (F.name == "runtime.NumGoroutine") = false ∧ compFn Tryz.prog F = some af11.strip := ⟨_, Tryz.func11, by kernel_rfl, by kernel_rfl⟩
theorem is14 : ∃ F, Tryz.prog.funcs[14]? = some F ∧ (F.name == "runtime.NumGoroutine") = false ∧ compFn Tryz.prog F = some af14.strip := ⟨_, Tryz.func14, by kernel_rfl, by kernel_rfl⟩
theorem is22 : ∃ F, Tryz.prog.funcs[22]? = some F ∧ (F.name == "runtime.NumGoroutine") = false ∧ compFn Tryz.prog F = some af22.strip := ⟨_, Tryz.func22, by kernel_rfl, by kernel_rfl⟩
theorem is23 : ∃ F, Tryz.prog.funcs[23]? = some F ∧ (F.name == "runtime.NumGoroutine") = false ∧ compFn Tryz.prog F = some af23.strip := ⟨_, Tryz.func23, by kernel_rfl, by kernel_rfl⟩
theorem is25 : ∃ F, Tryz.prog.funcs[25]? = some F ∧ (F.name == "runtime.NumGoroutine") = false ∧ compFn Tryz.prog F = some af25.strip := ⟨_, Tryz.func25, by kernel_rfl, by kernel_rfl⟩
theorem is26 : ∃ F, Tryz.prog.funcs[26]? = some F ∧ (F.name == "runtime.NumGoroutine") = false ∧ compFn Tryz.prog F = some af26.strip := ⟨_, Tryz.func26, by kernel_rfl, by kernel_rfl⟩
theorem is30 : ∃ F, Tryz.prog.funcs[30]? = some F ∧ (F.name == "runtime.NumGoroutine") = false ∧ compFn Tryz.prog F = some af30.strip := ⟨_, Tryz.func30, by kernel_rfl, by kernel_rfl⟩
theorem is33 : ∃ F, Tryz.prog.funcs[33]? = some F ∧ (F.name == "runtime.NumGoroutine") = false ∧ compFn Tryz.prog F = some af33.strip := ⟨_, Tryz.func33, by kernel_rfl, by kernel_rfl⟩
theorem is34 : ∃ F, Tryz.prog.funcs[34]? = some F ∧ (F.name == "runtime.NumGoroutine") = false ∧ compFn Tryz.prog F = some af34.strip := ⟨_, Tryz.func34, by kernel_rfl, by kernel_rfl⟩
theorem is37 : ∃ F, Tryz.prog.funcs[37]? = some F ∧ (F.name == "runtime.NumGoroutine") = false ∧ compFn Tryz.prog F = some af37.strip := ⟨_, Tryz.func37, by kernel_rfl, by kernel_rfl⟩
theorem is38 : ∃ F, Tryz.prog.funcs[38]? = some F ∧ (F.name == "runtime.NumGoroutine") = false ∧ compFn Tryz.prog F = some af38.strip := ⟨_, Tryz.func38, by kernel_rfl, by kernel_rfl⟩
theorem is41 : ∃ F, Tryz.prog.funcs[41]? = some F ∧ (F.name == "runtime.NumGoroutine") = false ∧ compFn Tryz.prog F = some af41.strip := ⟨_, Tryz.func41, by kernel_rfl, by kernel_rfl⟩
theorem is42 : ∃ F, Tryz.prog.funcs[42]? = some F ∧ (F.name == "runtime.NumGoroutine") = false ∧ compFn Tryz.prog F = some af42.strip := ⟨_, Tryz.func42, by kernel_rfl, by kernel_rfl⟩
theorem is45 : ∃ F, Tryz.prog.funcs[45]? = some F ∧ (F.name == "runtime.NumGoroutine") = false ∧ compFn Tryz.prog F = some af45.strip := ⟨_, Tryz.func45, by kernel_rfl, by kernel_rfl⟩
theorem is48 : ∃ F, Tryz.prog.funcs[48]? = some F ∧ (F.name == "runtime.NumGoroutine") = false ∧ compFn Tryz.prog F = some af48.strip := ⟨_, Tryz.func48, by kernel_rfl, by kernel_rfl⟩
theorem is49 : ∃ F, Tryz.prog.funcs[49]? = some F ∧ (F.name == "runtime.NumGoroutine") = false ∧ compFn Tryz.prog F = some af49.strip := ⟨_, Tryz.func49, by kernel_rfl, by kernel_rfl⟩
theorem is51 : ∃ F, Tryz.prog.funcs[51]? = some F ∧ (F.name == "runtime.NumGoroutine") = false ∧ compFn Tryz.prog F = some af51.strip := ⟨_, Tryz.func51, by kernel_rfl, by kernel_rfl⟩
theorem is52 : ∃ F, Tryz.prog.funcs[52]? = some F ∧ (F.name == "runtime.NumGoroutine") = false ∧ compFn Tryz.prog F = some af52.strip := ⟨_, Tryz.func52, by kernel_rfl, by kernel_rfl⟩
theorem is53 : ∃ F, Tryz.prog.funcs[53]? = some F ∧ (F.name == "runtime.NumGoroutine") = false ∧ compFn Tryz.prog F = some af53.strip := ⟨_, Tryz.func53, by kernel_rfl, by kernel_rfl⟩
theorem is56 : ∃ F, Tryz.prog.funcs[56]? = some F ∧ (F.name == "runtime.NumGoroutine") = false ∧ compFn Tryz.prog F = some af56.strip := ⟨_, Tryz.func56, by kernel_rfl, by kernel_rfl⟩
theorem is62 : ∃ F, Tryz.prog.funcs[62]? = some F ∧ (F.name == "runtime.NumGoroutine") = false ∧ compFn Tryz.prog F = some af62.strip := ⟨_, Tryz.func62, by kernel_rfl, by kernel_rfl⟩
theorem is63 : ∃ F, Tryz.prog.funcs[63]? = some F ∧ (F.name == "runtime.NumGoroutine") = false ∧ compFn Tryz.prog F = some af63.strip := ⟨_, Tryz.func63, by kernel_rfl, by kernel_rfl⟩
theorem is65 : ∃ F, Tryz.prog.funcs[65]? = some F ∧ (F.name == "runtime.NumGoroutine") = false ∧ compFn Tryz.prog F = some af65.strip := ⟨_, Tryz.func65, by kernel_rfl, by kernel_rfl⟩
theorem is68 : ∃ F, Tryz.prog.funcs[68]? = some F ∧ (F.name == "runtime.NumGoroutine") = false ∧ compFn Tryz.prog F = some af68.strip := ⟨_, Tryz.func68, by kernel_rfl, by kernel_rfl⟩
theorem is69 : ∃ F, Tryz.prog.funcs[69]? = some F ∧ (F.name == "runtime.NumGoroutine") = false ∧ compFn Tryz.prog F = some af69.strip := ⟨_, Tryz.func69, by kernel_rfl, by kernel_rfl⟩
theorem is70 : ∃ F, Tryz.prog.funcs[70]? = some F ∧ (F.name == "runtime.NumGoroutine") = false ∧ compFn Tryz.prog F = some af70.strip := ⟨_, Tryz.func70, by kernel_rfl, by kernel_rfl⟩
theorem is71 : ∃ F, Tryz.prog.funcs[71]? = some F ∧ (F.name == "runtime.NumGoroutine") = false ∧ compFn Tryz.prog F = some af71.strip := ⟨_, Tryz.func71, by kernel_rfl, by kernel_rfl⟩
theorem is72 : ∃ F, Tryz.prog.funcs[72]? = some F ∧ (F.name == "runtime.NumGoroutine") = false ∧ compFn Tryz.prog F = some af72.strip := ⟨_, Tryz.func72, by kernel_rfl, by kernel_rfl⟩
theorem is74 : ∃ F, Tryz.prog.funcs[74]? = some F ∧ (F.name == "runtime.NumGoroutine") = false ∧ compFn Tryz.prog F = some af74.strip := ⟨_, Tryz.func74, by kernel_rfl, by kernel_rfl⟩
theorem is78 : ∃ F, Tryz.prog.funcs[78]? = some F ∧ (F.name == "runtime.NumGoroutine") = false ∧ compFn Tryz.prog F = some af78.strip := ⟨_, Tryz.func78, by kernel_rfl, by kernel_rfl⟩
theorem is79 : ∃ F, Tryz.prog.funcs[79]? = some F ∧ (F.name == "runtime.NumGoroutine") = false ∧ compFn Tryz.prog F = some af79.strip := ⟨_, Tryz.func79, by kernel_rfl, by kernel_rfl⟩
theorem is80 : ∃ F, Tryz.prog.funcs[80]? = some F ∧ (F.name == "runtime.NumGoroutine") = false ∧ compFn Tryz.prog F = some af80.strip := ⟨_, Tryz.func80, by kernel_rfl, by kernel_rfl⟩
theorem is88 : ∃ F, Tryz.prog.funcs[88]? = some F ∧ (F.name == "runtime.NumGoroutine") = false ∧ compFn Tryz.prog F = some af88.strip := ⟨_, Tryz.func88, by kernel_rfl, by kernel_rfl⟩
theorem is89 : ∃ F, Tryz.prog.funcs[89]? = some F ∧ (F.name == "runtime.NumGoroutine") = false ∧ compFn Tryz.prog F = some af89.strip := ⟨_, Tryz.func89, by kernel_rfl, by kernel_rfl⟩
theorem is92 : ∃ F, Tryz.prog.funcs[92]? = some F ∧ (F.name == "runtime.NumGoroutine") = false ∧ compFn Tryz.prog F = some af92.strip := ⟨_, Tryz.func92, by kernel_rfl, by kernel_rfl⟩
theorem is95 : ∃ F, Tryz.prog.funcs[95]? = some F ∧ (F.name == "runtime.NumGoroutine") = false ∧ compFn Tryz.prog F = some af95.strip := ⟨_, Tryz.func95, by kernel_rfl, by kernel_rfl⟩
theorem is96 : ∃ F, Tryz.prog.funcs[96]? = some F ∧ (F.name == "runtime.NumGoroutine") = false ∧ compFn Tryz.prog F = some af96.strip := ⟨_, Tryz.func96, by kernel_rfl, by kernel_rfl⟩
theorem is98 : ∃ F, Tryz.prog.funcs[98]? = some F ∧ (F.name == "runtime.NumGoroutine") = false ∧ compFn Tryz.prog F = some af98.strip := ⟨_, Tryz.func98, by kernel_rfl, by kernel_rfl⟩
theorem is99 : ∃ F, Tryz.prog.funcs[99]? = some F ∧ (F.name == "runtime.NumGoroutine") = false ∧ compFn Tryz.prog F = some af99.strip := ⟨_, Tryz.func99, by kernel_rfl, by kernel_rfl⟩
theorem is101 : ∃ F, Tryz.prog.funcs[101]? = some F ∧ (F.name == "runtime.NumGoroutine") = false ∧ compFn Tryz.prog F = some af101.strip := ⟨_, Tryz.func101, by kernel_rfl, by kernel_rfl⟩
theorem is102 : ∃ F, Tryz.prog.funcs[102]? = some F ∧ (F.name == "runtime.NumGoroutine") = false ∧ compFn Tryz.prog F = some af102.strip := ⟨_, Tryz.func102, by kernel_rfl, by kernel_rfl⟩
theorem is104 : ∃ F, Tryz.prog.funcs[104]? = some F ∧ (F.name == "runtime.NumGoroutine") = false ∧ compFn Tryz.prog F = some af104.strip := ⟨_, Tryz.func104, by kernel_rfl, by kernel_rfl⟩
theorem is105 : ∃ F, Tryz.prog.funcs[105]? = some F ∧ (F.name == "runtime.NumGoroutine") = false ∧ compFn Tryz.prog F = some af105.strip := ⟨_, Tryz.func105, by kernel_rfl, by kernel_rfl⟩
theorem is106 : ∃ F, Tryz.prog.funcs[106]? = some F ∧ (F.name == "runtime.NumGoroutine") = false ∧ compFn Tryz.prog F = some af106.strip := ⟨_, Tryz.func106, by kernel_rfl, by kernel_rfl⟩
theorem is109 : ∃ F, Tryz.prog.funcs[109]? = some F ∧ (F.name == "runtime.NumGoroutine") = false ∧ compFn Tryz.prog F = some af109.strip := ⟨_, Tryz.func109, by kernel_rfl, by kernel_rfl⟩
theorem is110 : ∃ F, Tryz.prog.funcs[110]? = some F ∧ (F.name == "runtime.NumGoroutine") = false ∧ compFn Tryz.prog F = some af110.strip := ⟨_, Tryz.func110, by kernel_rfl, by kernel_rfl⟩
theorem is111 : ∃ F, Tryz.prog.funcs[111]? = some F ∧ (F.name == "runtime.NumGoroutine") = false ∧ compFn Tryz.prog F = some af111.strip := ⟨_, Tryz.func111, by kernel_rfl, by kernel_rfl⟩
theorem is113 : ∃ F, Tryz.prog.funcs[113]? = some F ∧ (F.name == "runtime.NumGoroutine") = false ∧ compFn Tryz.prog F = some af113.strip := ⟨_, Tryz.func113, by kernel_rfl, by kernel_rfl⟩
theorem is115 : ∃ F, Tryz.prog.funcs[115]? = some F ∧ (F.name == "runtime.NumGoroutine") = false ∧ compFn Tryz.prog F = some af115.strip := ⟨_, Tryz.func115, by kernel_rfl, by kernel_rfl⟩
theorem is116 : ∃ F, Tryz.prog.funcs[116]? = some F ∧ (F.name == "runtime.NumGoroutine") = false ∧ compFn Tryz.prog F = some af116.strip := ⟨_, Tryz.func116, by kernel_rfl, by kernel_rfl⟩
theorem is121 : ∃ F, Tryz.prog.funcs[121]? = some F ∧ (F.name == "runtime.NumGoroutine") = false ∧ compFn Tryz.prog F = some af121.strip := ⟨_, Tryz.func121, by kernel_rfl, by kernel_rfl⟩
theorem is124 : ∃ F, Tryz.prog.funcs[124]? = some F ∧ (F.name == "runtime.NumGoroutine") = false ∧ compFn Tryz.prog F = some af124.strip := ⟨_, Tryz.func124, by kernel_rfl, by kernel_rfl⟩
theorem is142 : ∃ F, Tryz.prog.funcs[142]? = some F ∧ (F.name == "runtime.NumGoroutine") = false ∧ compFn Tryz.prog F = some af142.strip := ⟨_, Tryz.func142, by kernel_rfl, by kernel_rfl⟩
theorem is145 : ∃ F, Tryz.prog.funcs[145]? = some F ∧ (F.name == "runtime.NumGoroutine") = false ∧ compFn Tryz.prog F = some af145.strip := ⟨_, Tryz.func145, by kernel_rfl, by kernel_rfl⟩
theorem is149 : ∃ F, Tryz.prog.funcs[149]? = some F ∧ (F.name == "runtime.NumGoroutine") = false ∧ compFn Tryz.prog F = some af149.strip := ⟨_, Tryz.func149, by kernel_rfl, by kernel_rfl⟩
theorem is150 : ∃ F, Tryz.prog.funcs[150]? = some F ∧ (F.name == "runtime.NumGoroutine") = false ∧ compFn Tryz.prog F = some af150.strip := ⟨_, Tryz.func150, by kernel_rfl, by kernel_rfl⟩
theorem is151 : ∃ F, Tryz.prog.funcs[151]? = some F ∧ (F.name == "runtime.NumGoroutine") = false ∧ compFn Tryz.prog F = some af151.strip := ⟨_, Tryz.func151, by kernel_rfl, by kernel_rfl⟩
theorem is152 : ∃ F, Tryz.prog.funcs[152]? = some F ∧ (F.name == "runtime.NumGoroutine") = false ∧ compFn Tryz.prog F = some af152.strip := ⟨_, Tryz.func152, by kernel_rfl, by kernel_rfl⟩
theorem is154 : ∃ F, Tryz.prog.funcs[154]? = some F ∧ (F.name == "runtime.NumGoroutine") = false ∧ compFn Tryz.prog F = some af154.strip := ⟨_, Tryz.func154, by kernel_rfl, by kernel_rfl⟩
theorem is155 : ∃ F, Tryz.prog.funcs[155]? = some F ∧ (F.name == "runtime.NumGoroutine") = false ∧ compFn Tryz.prog F = some af155.strip := ⟨_, Tryz.func155, by kernel_rfl, by kernel_rfl⟩
theorem is157 : ∃ F, Tryz.prog.funcs[157]? = some F ∧ (F.name == "runtime.NumGoroutine") = false ∧ compFn Tryz.prog F = some af157.strip := ⟨_, Tryz.func157, by kernel_rfl, by kernel_rfl⟩
end Ev
end Go.Proofs.YtcaejedfjobooaaGreatDoor

namespace Go.Proofs.YtcaejedfjobooaaGreatDoor
open Go Go.Proofs
namespace Ev
set_option maxRecDepth 1000000
theorem is5 : ∃ F, Tryz.prog.funcs[5]? = some F ∧ (F.name == "runtime.NumGoroutine") = false ∧ compFn Tryz.prog F = some af5.strip := ⟨_, Tryz.func5, by kernel_rfl, by kernel_rfl⟩
theorem is9 : ∃ F, Tryz.prog.funcs[9]? = some F ∧ (F.name == "runtime.NumGoroutine") = false ∧ compFn Tryz.prog F = some af9.strip := ⟨_, Tryz.func9, by kernel_rfl, by kernel_rfl⟩
theorem is12 : ∃ F, Tryz.prog.funcs[12]? = some F ∧ (F.name == "runtime.NumGoroutine") = false ∧ compFn Tryz.prog F = some af12.strip := ⟨_, Tryz.func12, by kernel_rfl, by kernel_rfl⟩
theorem is13 : ∃ F, Tryz.prog.funcs[13]? = some F ∧ (F.name == "runtime.NumGoroutine") = false ∧ compFn Tryz.prog F = some af13.strip := ⟨_, Tryz.func13, by kernel_rfl, by kernel_rfl⟩
theorem is15 : ∃ F, Tryz.prog.funcs[15]? = some F ∧ (F.name == "runtime.NumGoroutine") = false ∧ compFn Tryz.prog F = some af15.strip := ⟨_, Tryz.func15, by kernel_rfl, by kernel_rfl⟩
theorem is16 : ∃ F, Tryz.prog.funcs[16]? = some F ∧ (F.name == "runtime.NumGoroutine") = false ∧ compFn Tryz.prog F = some af16.strip := ⟨_, Tryz.func16, by kernel_rfl, by kernel_rfl⟩
theorem is18 : ∃ F, Tryz.prog.funcs[18]? = some F ∧ (F.name == "runtime.NumGoroutine") = false ∧ compFn Tryz.prog F = some af18.strip := ⟨_, Tryz.func18, by kernel_rfl, by kernel_rfl⟩
theorem is19 : ∃ F, Tryz.prog.funcs[19]? = some F ∧ (F.name == "runtime.NumGoroutine") = false ∧ compFn Tryz.prog F = some af19.strip := ⟨_, Tryz.func19, by kernel_rfl, by kernel_rfl⟩
theorem is20 : ∃ F, Tryz.prog.funcs[20]? = some F ∧ (F.name == "runtime.NumGoroutine") = false ∧ compFn Tryz.prog F = some af20.strip := ⟨_, Tryz.func20, by kernel_rfl, by kernel_rfl⟩
theorem is21 : ∃ F, Tryz.prog.funcs[21]? = some F ∧ (F.name == "runtime.NumGoroutine") = false ∧ compFn Tryz.prog F = some af21.strip := ⟨_, Tryz.func21, by kernel_rfl, by kernel_rfl⟩
theorem is24 : ∃ F, Tryz.prog.funcs[24]? = some F ∧ (F.name == "runtime.NumGoroutine") = false ∧ compFn Tryz.prog F = some af24.strip := ⟨_, Tryz.func24, by kernel_rfl, by kernel_rfl⟩
theorem is27 : ∃ F, Tryz.prog.funcs[27]? = some F ∧ (F.name == "runtime.NumGoroutine") = false ∧ compFn Tryz.prog F = some af27.strip := ⟨_, Tryz.func27, by kernel_rfl, by kernel_rfl⟩
theorem is28 : ∃ F, Tryz.prog.funcs[28]? = some F ∧ (F.name == "runtime.NumGoroutine") = false ∧ compFn Tryz.prog F = some af28.strip := ⟨_, Tryz.func28, by kernel_rfl, by kernel_rfl⟩
theorem is29 : ∃ F, Tryz.prog.funcs[29]? = some F ∧ (F.name == "runtime.NumGoroutine") = false ∧ compFn Tryz.prog F = some af29.strip := ⟨_, Tryz.func29, by kernel_rfl, by kernel_rfl⟩
theorem is31 : ∃ F, Tryz.prog.funcs[31]? = some F ∧ (F.name == "runtime.NumGoroutine") = false ∧ compFn Tryz.prog F = some af31.strip := ⟨_, Tryz.func31, by kernel_rfl, by kernel_rfl⟩
theorem is32 : ∃ F, Tryz.prog.funcs[32]? = some F ∧ (F.name == "runtime.NumGoroutine") = false ∧ compFn Tryz.prog F = some af32.strip := ⟨_, Tryz.func32, by kernel_rfl, by kernel_rfl⟩
theorem is35 : ∃ F, Tryz.prog.funcs[35]? = some F ∧ (F.name == "runtime.NumGoroutine") = false ∧ compFn Tryz.prog F = some af35.strip := ⟨_, Tryz.func35, by kernel_rfl, by kernel_rfl⟩
theorem is36 : ∃ F, Tryz.prog.funcs[36]? = some F ∧ (F.name == "runtime.NumGoroutine") = false ∧ compFn Tryz.prog F = some af36.strip := ⟨_, Tryz.func36, by kernel_rfl, by kernel_rfl⟩
theorem is39 : ∃ F, Tryz.prog.funcs[39]? = some F ∧ (F.name == "runtime.NumGoroutine") = false ∧ compFn Tryz.prog F = some af39.strip := ⟨_, Tryz.func39, by kernel_rfl, by kernel_rfl⟩
theorem is40 : ∃ F, Tryz.prog.funcs[40]? = some F ∧ (F.name == "runtime.NumGoroutine") = false ∧ compFn Tryz.prog F = some af40.strip := ⟨_, Tryz.func40, by kernel_rfl, by kernel_rfl⟩
theorem is43 : ∃ F, Tryz.prog.funcs[43]? = some F ∧ (F.name == "runtime.NumGoroutine") = false ∧ compFn Tryz.prog F = some af43.strip := ⟨_, Tryz.func43, by kernel_rfl, by kernel_rfl⟩
theorem is44 : ∃ F, Tryz.prog.funcs[44]? = some F ∧ (F.name == "runtime.NumGoroutine") = false ∧ compFn Tryz.prog F = some af44.strip := ⟨_, Tryz.func44, by kernel_rfl, by kernel_rfl⟩
theorem is46 : ∃ F, Tryz.prog.funcs[46]? = some F ∧ (F.name == "runtime.NumGoroutine") = false ∧ compFn Tryz.prog F = some af46.strip := ⟨_, Tryz.func46, by kernel_rfl, by kernel_rfl⟩
theorem is47 : ∃ F, Tryz.prog.funcs[47]? = some F ∧ (F.name == "runtime.NumGoroutine") = false ∧ compFn Tryz.prog F = some af47.strip := ⟨_, Tryz.func47, by kernel_rfl, by kernel_rfl⟩
theorem is50 : ∃ F, Tryz.prog.funcs[50]? = some F ∧ (F.name == "runtime.NumGoroutine") = false ∧ compFn Tryz.prog F = some af50.strip := ⟨_, Tryz.func50, by kernel_rfl, by kernel_rfl⟩
theorem is54 : ∃ F, Tryz.prog.funcs[54]? = some F ∧ (F.name == "runtime.NumGoroutine") = false ∧ compFn Tryz.prog F = some af54.strip := ⟨_, Tryz.func54, by kernel_rfl, by kernel_rfl⟩
theorem is55 : ∃ F, Tryz.prog.funcs[55]? = some F ∧ (F.name == "runtime.NumGoroutine") = false ∧ compFn Tryz.prog F = some af55.strip := ⟨_, Tryz.func55, by kernel_rfl, by kernel_rfl⟩
theorem is57 : ∃ F, Tryz.prog.funcs[57]? = some F ∧ (F.name == "runtime.NumGoroutine") = false ∧ compFn Tryz.prog F = some af57.strip := ⟨_, Tryz.func57, by kernel_rfl, by kernel_rfl⟩
theorem is58 : ∃ F, Tryz.prog.funcs[58]? = some F ∧ (F.name == "runtime.NumGoroutine") = false ∧ compFn Tryz.prog F = some af58.strip := ⟨_, Tryz.func58, by kernel_rfl, by kernel_rfl⟩
theorem is59 : ∃ F, Tryz.prog.funcs[59]? = some F ∧ (F.name == "runtime.NumGoroutine") = false ∧ compFn Tryz.prog F = some af59.strip := ⟨_, Tryz.func59, by kernel_rfl, by kernel_rfl⟩
theorem is61 : ∃ F, Tryz.prog.funcs[61]? = some F ∧ (F.name == "runtime.NumGoroutine") = false ∧ compFn Tryz.prog F = some af61.strip := ⟨_, Tryz.func61, by kernel_rfl, by kernel_rfl⟩
theorem is64 : ∃ F, Tryz.prog.funcs[64]? = some F ∧ (F.name == "runtime.NumGoroutine") = false ∧ compFn Tryz.prog F = some af64.strip := ⟨_, Tryz.func64, by kernel_rfl, by kernel_rfl⟩
theorem is66 : ∃ F, Tryz.prog.funcs[66]? = some F ∧ (F.name == "runtime.NumGoroutine") = false ∧ compFn Tryz.prog F = some af66.strip := ⟨_, Tryz.func66, by kernel_rfl, by kernel_rfl⟩
theorem is67 : ∃ F, Tryz.prog.funcs[67]? = some F ∧ (F.name == "runtime.NumGoroutine") = false ∧ compFn Tryz.prog F = some af67.strip := ⟨_, Tryz.func67, by kernel_rfl, by kernel_rfl⟩
theorem is73 : ∃ F, Tryz.prog.funcs[73]? = some F ∧ (F.name == "runtime.NumGoroutine") = false ∧ compFn Tryz.prog F = some af73.strip := ⟨_, Tryz.func73, by kernel_rfl, by kernel_rfl⟩
theorem is75 : ∃ F, Tryz.prog.funcs[75]? = some F ∧ (F.name == "runtime.NumGoroutine") = false ∧ compFn Tryz.prog F = some af75.strip := ⟨_, Tryz.func75, by kernel_rfl, by kernel_rfl⟩
theorem is76 : ∃ F, Tryz.prog.funcs[76]? = some F ∧ (F.name == "runtime.NumGoroutine") = false ∧ compFn Tryz.prog F = some af76.strip := ⟨_, Tryz.func76, by kernel_rfl, by kernel_rfl⟩
theorem is77 : ∃ F, Tryz.prog.funcs[77]? = some F ∧ (F.name == "runtime.NumGoroutine") = false ∧ compFn Tryz.prog F = some af77.strip := ⟨_, Tryz.func77, by kernel_rfl, by kernel_rfl⟩
theorem is81 : ∃ F, Tryz.prog.funcs[81]? = some F ∧ (F.name == "runtime.NumGoroutine") = false ∧ compFn Tryz.prog F = some af81.strip := ⟨_, Tryz.func81, by kernel_rfl, by kernel_rfl⟩
theorem is82 : ∃ F, Tryz.prog.funcs[82]? = some F ∧ (F.name == "runtime.NumGoroutine") = false ∧ compFn Tryz.prog F = some af82.strip := ⟨_, Tryz.func82, by kernel_rfl, by kernel_rfl⟩
theorem is83 : ∃ F, Tryz.prog.funcs[83]? = some F ∧ (F.name == "runtime.NumGoroutine") = false ∧ compFn Tryz.prog F = some af83.strip := ⟨_, Tryz.func83, by kernel_rfl, by kernel_rfl⟩
theorem is84 : ∃ F, Tryz.prog.funcs[84]? = some F ∧ (F.name == "runtime.NumGoroutine") = false ∧ compFn Tryz.prog F = some af84.strip := ⟨_, Tryz.func84, by kernel_rfl, by kernel_rfl⟩
theorem is85 : ∃ F, Tryz.prog.funcs[85]? = some F ∧ (F.name == "runtime.NumGoroutine") = false ∧ compFn Tryz.prog F = some af85.strip := ⟨_, Tryz.func85, by kernel_rfl, by kernel_rfl⟩
theorem is86 : ∃ F, Tryz.prog.funcs[86]? = some F ∧ (F.name == "runtime.NumGoroutine") = false ∧ compFn Tryz.prog F = some af86.strip := ⟨_, Tryz.func86, by kernel_rfl, by kernel_rfl⟩
theorem is87 : ∃ F, Tryz.prog.funcs[87]? = some F ∧ (F.name == "runtime.NumGoroutine") = false ∧ compFn Tryz.prog F = some af87.strip := ⟨_, Tryz.func87, by kernel_rfl, by kernel_rfl⟩
theorem is90 : ∃ F, Tryz.prog.funcs[90]? = some F ∧ (F.name == "runtime.NumGoroutine") = false ∧ compFn Tryz.prog F = some af90.strip := ⟨_, Tryz.func90, by kernel_rfl, by kernel_rfl⟩
theorem is91 : ∃ F, Tryz.prog.funcs[91]? = some F ∧ (F.name == "runtime.NumGoroutine") = false ∧ compFn Tryz.prog F = some af91.strip := ⟨_, Tryz.func91, by kernel_rfl, by kernel_rfl⟩
theorem is93 : ∃ F, Tryz.prog.funcs[93]? = some F ∧ (F.name == "runtime.NumGoroutine") = false ∧ compFn Tryz.prog F = some af93.strip := ⟨_, Tryz.func93, by kernel_rfl, by kernel_rfl⟩
theorem is94 : ∃ F, Tryz.prog.funcs[94]? = some F ∧ (F.name == "runtime.NumGoroutine") = false ∧ compFn Tryz.prog F = some af94.strip := ⟨_, Tryz.func94, by kernel_rfl, by kernel_rfl⟩
theorem is97 : ∃ F, Tryz.prog.funcs[97]? = some F ∧ (F.name == "runtime.NumGoroutine") = false ∧ compFn Tryz.prog F = some af97.strip := ⟨_, Tryz.func97, by kernel_rfl, by kernel_rfl⟩
theorem is100 : ∃ F, Tryz.prog.funcs[100]? = some F ∧ (F.name == "runtime.NumGoroutine") = false ∧ compFn Tryz.prog F = some af100.strip := ⟨_, Tryz.func100, by kernel_rfl, by kernel_rfl⟩
theorem is103 : ∃ F, Tryz.prog.funcs[103]? = some F ∧ (F.name == "runtime.NumGoroutine") = false ∧ compFn Tryz.prog F = some af103.strip := ⟨_, Tryz.func103, by kernel_rfl, by kernel_rfl⟩
theorem is107 : ∃ F, Tryz.prog.funcs[107]? = some F ∧ (F.name == "runtime.NumGoroutine") = false ∧ compFn Tryz.prog F = some af107.strip := ⟨_, Tryz.func107, by kernel_rfl, by kernel_rfl⟩
theorem is108 : ∃ F, Tryz.prog.funcs[108]? = some F ∧ (F.name == "runtime.NumGoroutine") = false ∧ compFn Tryz.prog F = some af108.strip := ⟨_, Tryz.func108, by kernel_rfl, by kernel_rfl⟩
theorem is112 : ∃ F, Tryz.prog.funcs[112]? = some F ∧ (F.name == "runtime.NumGoroutine") = false ∧ compFn Tryz.prog F = some af112.strip := ⟨_, Tryz.func112, by kernel_rfl, by kernel_rfl⟩
theorem is114 : ∃ F, Tryz.prog.funcs[114]? = some F ∧ (F.name == "runtime.NumGoroutine") = false ∧ compFn Tryz.prog F = some af114.strip := ⟨_, Tryz.func114, by kernel_rfl, by kernel_rfl⟩
theorem is117 : ∃ F, Tryz.prog.funcs[117]? = some F ∧ (F.name == "runtime.NumGoroutine") = false ∧ compFn Tryz.prog F = some af117.strip := ⟨_, Tryz.func117, by kernel_rfl, by kernel_rfl⟩
theorem is118 : ∃ F, Tryz.prog.funcs[118]? = some F ∧ (F.name == "runtime.NumGoroutine") = false ∧ compFn Tryz.prog F = some af118.strip := ⟨_, Tryz.func118, by kernel_rfl, by kernel_rfl⟩
theorem is119 : ∃ F, Tryz.prog.funcs[119]? = some F ∧ (F.name == "runtime.NumGoroutine") = false ∧ compFn Tryz.prog F = some af119.strip := ⟨_, Tryz.func119, by kernel_rfl, by kernel_rfl⟩
theorem is120 : ∃ F, Tryz.prog.funcs[120]? = some F ∧ (F.name == "runtime.NumGoroutine") = false ∧ compFn Tryz.prog F = some af120.strip := ⟨_, Tryz.func120, by kernel_rfl, by kernel_rfl⟩
theorem is122 : ∃ F, Tryz.prog.funcs[122]? = some F ∧ (F.name == "runtime.NumGoroutine") = false ∧ compFn Tryz.prog F = some af122.strip := ⟨_, Tryz.func122, by kernel_rfl, by kernel_rfl⟩
theorem is123 : ∃ F, Tryz.prog.funcs[123]? = some F ∧ (F.name == "runtime.NumGoroutine") = false ∧ compFn Tryz.prog F = some af123.strip := ⟨_, Tryz.func123, by kernel_rfl, by kernel_rfl⟩
theorem is141 : ∃ F, Tryz.prog.funcs[141]? = some F ∧ (F.name == "runtime.NumGoroutine") = false ∧ compFn Tryz.prog F = some af141.strip := ⟨_, Tryz.func141, by kernel_rfl, by kernel_rfl⟩
theorem is143 : ∃ F, Tryz.prog.funcs[143]? = some F ∧ (F.name == "runtime.NumGoroutine") = false ∧ compFn Tryz.prog F = some af143.strip := ⟨_, Tryz.func143, by kernel_rfl, by kernel_rfl⟩
theorem is144 : ∃ F, Tryz.prog.funcs[144]? = some F ∧ (F.name == "runtime.NumGoroutine") = false ∧ compFn Tryz.prog F = some af144.strip := ⟨_, Tryz.func144, by kernel_rfl, by kernel_rfl⟩
theorem is146 : ∃ F, Tryz.prog.funcs[146]? = some F ∧ (F.name == "runtime.NumGoroutine") = false ∧ compFn Tryz.prog F = some af146.strip := ⟨_, Tryz.func146, by kernel_rfl, by kernel_rfl⟩
theorem is147 : ∃ F, Tryz.prog.funcs[147]? = some F ∧ (F.name == "runtime.NumGoroutine") = false ∧ compFn Tryz.prog F = some af147.strip := ⟨_, Tryz.func147, by kernel_rfl, by kernel_rfl⟩
theorem is156 : ∃ F, Tryz.prog.funcs[156]? = some F ∧ (F.name == "runtime.NumGoroutine") = false ∧ compFn Tryz.prog F = some af156.strip := ⟨_, Tryz.func156, by kernel_rfl, by kernel_rfl⟩
end Ev
end Go.Proofs.YtcaejedfjobooaaGreatDoor

namespace Go.Proofs.YtcaejedfjobooaaGreatDoor
open Go Go.Proofs
namespace Ev
/-- Of all entries. -/
def FT.All (p : Nat → AFunc → Prop) : FT → Prop
  | .leaf => True
  | .node k f l r => p k f ∧ (FT.All p l ∧ FT.All p r)
theorem FT.find_all {p : Nat → AFunc → Prop} : ∀ {t : FT} {n : Nat} {f : AFunc}, FT.All p t → FT.find t n = some f → p n f
  | .leaf, n, f, _, h => by cases h
  | .node k g l r, n, f, ha, h => by
    have e : FT.find (.node k g l r) n = (Bool.rec (Bool.rec (FT.find r n) (FT.find l n) (Nat.ble (Nat.succ n) k)) (some g) (Nat.beq n k) : Option AFunc) := rfl
    rw [e] at h
    cases hb : Nat.beq n k with
    | true => rw [hb] at h; cases h; rw [Nat.eq_of_beq_eq_true hb]; exact ha.1
    | false =>
      rw [hb] at h
      cases hc : Nat.ble (Nat.succ n) k with
      | true => rw [hc] at h; exact FT.find_all ha.2.1 h
      | false => rw [hc] at h; exact FT.find_all ha.2.2 h
theorem tree_is : FT.All (fun k af => ∃ F, Tryz.prog.funcs[k]? = some F ∧ (F.name == "runtime.NumGoroutine") = false ∧ compFn Tryz.prog F = some af.strip) fnTree :=
  ⟨is72, ⟨is37, ⟨is20, ⟨is11, ⟨is7, ⟨is5, ⟨is4, ⟨is3, trivial, trivial⟩, trivial⟩, ⟨is6, trivial, trivial⟩⟩, ⟨is9, ⟨is8, trivial, trivial⟩, ⟨is10, trivial, trivial⟩⟩⟩, ⟨is15, ⟨is13, ⟨is12, trivial, trivial⟩, ⟨is14, trivial, trivial⟩⟩, ⟨is18, ⟨is16, trivial, trivial⟩, ⟨is19, trivial, trivial⟩⟩⟩⟩, ⟨is29, ⟨is25, ⟨is23, ⟨is22, ⟨is21, trivial, trivial⟩, trivial⟩, ⟨is24, trivial, trivial⟩⟩, ⟨is27, ⟨is26, trivial, trivial⟩, ⟨is28, trivial, trivial⟩⟩⟩, ⟨is33, ⟨is31, ⟨is30, trivial, trivial⟩, ⟨is32, trivial, trivial⟩⟩, ⟨is35, ⟨is34, trivial, trivial⟩, ⟨is36, trivial, trivial⟩⟩⟩⟩⟩, ⟨is54, ⟨is46, ⟨is42, ⟨is40, ⟨is39, ⟨is38, trivial, trivial⟩, trivial⟩, ⟨is41, trivial, trivial⟩⟩, ⟨is44, ⟨is43, trivial, trivial⟩, ⟨is45, trivial, trivial⟩⟩⟩, ⟨is50, ⟨is48, ⟨is47, trivial, trivial⟩, ⟨is49, trivial, trivial⟩⟩, ⟨is52, ⟨is51, trivial, trivial⟩, ⟨is53, trivial, trivial⟩⟩⟩⟩, ⟨is64, ⟨is59, ⟨is57, ⟨is56, ⟨is55, trivial, trivial⟩, trivial⟩, ⟨is58, trivial, trivial⟩⟩, ⟨is62, ⟨is61, trivial, trivial⟩, ⟨is63, trivial, trivial⟩⟩⟩, ⟨is68, ⟨is66, ⟨is65, trivial, trivial⟩, ⟨is67, trivial, trivial⟩⟩, ⟨is70, ⟨is69, trivial, trivial⟩, ⟨is71, trivial, trivial⟩⟩⟩⟩⟩⟩, ⟨is106, ⟨is89, ⟨is81, ⟨is77, ⟨is75, ⟨is74, ⟨is73, trivial, trivial⟩, trivial⟩, ⟨is76, trivial, trivial⟩⟩, ⟨is79, ⟨is78, trivial, trivial⟩, ⟨is80, trivial, trivial⟩⟩⟩, ⟨is85, ⟨is83, ⟨is82, trivial, trivial⟩, ⟨is84, trivial, trivial⟩⟩, ⟨is87, ⟨is86, trivial, trivial⟩, ⟨is88, trivial, trivial⟩⟩⟩⟩, ⟨is98, ⟨is94, ⟨is92, ⟨is91, ⟨is90, trivial, trivial⟩, trivial⟩, ⟨is93, trivial, trivial⟩⟩, ⟨is96, ⟨is95, trivial, trivial⟩, ⟨is97, trivial, trivial⟩⟩⟩, ⟨is102, ⟨is100, ⟨is99, trivial, trivial⟩, ⟨is101, trivial, trivial⟩⟩, ⟨is104, ⟨is103, trivial, trivial⟩, ⟨is105, trivial, trivial⟩⟩⟩⟩⟩, ⟨is123, ⟨is115, ⟨is111, ⟨is109, ⟨is108, ⟨is107, trivial, trivial⟩, trivial⟩, ⟨is110, trivial, trivial⟩⟩, ⟨is113, ⟨is112, trivial, trivial⟩, ⟨is114, trivial, trivial⟩⟩⟩, ⟨is119, ⟨is117, ⟨is116, trivial, trivial⟩, ⟨is118, trivial, trivial⟩⟩, ⟨is121, ⟨is120, trivial, trivial⟩, ⟨is122, trivial, trivial⟩⟩⟩⟩, ⟨is149, ⟨is144, ⟨is142, ⟨is141, ⟨is124, trivial, trivial⟩, trivial⟩, ⟨is143, trivial, trivial⟩⟩, ⟨is146, ⟨is145, trivial, trivial⟩, ⟨is147, trivial, trivial⟩⟩⟩, ⟨is154, ⟨is151, ⟨is150, trivial, trivial⟩, ⟨is152, trivial, trivial⟩⟩, ⟨is156, ⟨is155, trivial, trivial⟩, ⟨is157, trivial, trivial⟩⟩⟩⟩⟩⟩⟩
end Ev
end Go.Proofs.YtcaejedfjobooaaGreatDoor

namespace Go.Proofs.YtcaejedfjobooaaGreatDoor
open Go Go.Proofs Go.RowKit
set_option maxHeartbeats 400000 in
set_option maxRecDepth 100000 in
theorem stopped_clamp (B off : Nat) (y : Value) (k : IntKind) (n : Int) (W : World) (hc : W.cell? ⟨B, off, none⟩ = some y) (hz : W.frozen? ⟨B, off, none⟩ = false) :
    Calls Tryz.prog 60 #[.iface 137 (.agg #[.int k n]), .pointer (some ⟨B, off, none⟩)] W fun e W' => e = .returned (.tuple #[]) ∧ Below W.heap.size (W.setCell ⟨B, off, none⟩ (.int k n)) W' := by
  have hta : ∀ w : World, (Instr.typeAssert (.iface 137 (.agg #[.int k n])) 20 137 true).run Tryz.prog w = .ok (.tuple #[.agg #[.int k n], .bool true]) w := fun _ => by kernel_rfl
  have hlt : B < W.heap.size := by
    unfold World.cell? at hc
    cases hb : W.heap[B]? with
    | none => simp [hb] at hc
    | some x => exact (Array.getElem?_eq_some_iff.1 hb).1
  have hca : ∀ o, (W.alloc o).cell? ⟨B, off, none⟩ = some y := fun o => (World.cell?_of_block (Below.heap_alloc W o B hlt)).trans hc
  have hza : ∀ o, (W.alloc o).frozen? ⟨B, off, none⟩ = false := fun o => (World.frozen?_of_block (Below.heap_alloc W o B hlt)).trans hz
  have hbel : ∀ o, Below W.heap.size (W.setCell ⟨B, off, none⟩ (.int k n)) ((W.alloc o).setCell ⟨B, off, none⟩ (.int k n)) := fun o => by
    refine ⟨rfl, rfl, rfl, by simp, fun i hi => ?_⟩
    simp only [World.setCell, Array.getElem?_modify]
    rw [Below.heap_alloc W o i hi]
  clear hc hz hlt
  go_enter Tryz.func60, Tryz.ntmps60
  go_wp2
  exact ⟨rfl, _, results_none rfl _ _ _, rfl, hbel _⟩
theorem idle_clamp (x : Value) (W : World) : Calls Tryz.prog 60 #[.nilIface, x] W fun e W' => e = .returned (.tuple #[]) ∧ Below W.heap.size W W' := by
  go_enter Tryz.func60, Tryz.ntmps60
  go_wp2
  exact ⟨rfl, _, results_none rfl _ _ _, rfl, Below.refl _ _⟩

/-- What a deferred closure does that hands what is recovered to stopped. -/
theorem closure_clamp {f : Nat} {fn : Func} {id : Nat} {ops : Array Oper} {o0 o1 : Oper} (hf : Tryz.prog.funcs[f]? = some fn) (hb : fn.body = some (.region id ops false)) (hn : fn.ntmps = 3) (hr : fn.results = #[]) (hnm : (fn.name == "runtime.NumGoroutine") = false)
    (ho : ops = #[o0, o1]) (h0 : o0.op = .call { callee := .builtin .recover, args := #[], argTypes := #[] }) (hd0 : o0.dst = some 1) (hg0 : o0.guard = none) (hd1 : o1.dst = some 2) (hg1 : o1.guard = none) {ts : Array TypeId} (h1 : o1.op = .call { callee := .value (.func 60), args := #[.tmp 1, .tmp 0], argTypes := ts }) :
    (∀ (x : Value) (W : World), CallsDIn Fence.wide 0 Tryz.prog f #[x] .returning W fun e u' W' => (∃ v, e = .returned v) ∧ u' = .returning ∧ Below W.heap.size W W') ∧
    (∀ (B off : Nat) (y x : Value) (k : IntKind) (n : Int) (W : World), W.cell? ⟨B, off, none⟩ = some y → W.frozen? ⟨B, off, none⟩ = false → x = .agg #[.int k n] →
      CallsDIn Fence.wide 0 Tryz.prog f #[.pointer (some ⟨B, off, none⟩)] (.panicking [{ v := .iface 137 x, recovered := false }]) W fun e u' W' =>
        (∃ v, e = .returned v) ∧ u' = .panicking [{ v := .iface 137 x, recovered := true }] ∧ Below W.heap.size (W.setCell ⟨B, off, none⟩ (.int k n)) W') := by
  have hwalk : ∀ (x rv : Value) (u u' : FrameMode) (W : World) (R : World → Prop), (∀ (c₀ : Frame) (cs : List Frame), c₀.mode = u → recoverD (c₀ :: cs) = some (rv, { c₀ with mode := u' } :: cs) ∨ (recoverD (c₀ :: cs) = none ∧ rv = .nilIface ∧ { c₀ with mode := u' } :: cs = c₀ :: cs)) →
      Calls Tryz.prog 60 #[rv, x] W (fun e W' => e = .returned (.tuple #[]) ∧ R W') → CallsDIn Fence.wide 0 Tryz.prog f #[x] u W fun e v' W' => (∃ v, e = .returned v) ∧ v' = u' ∧ R W' := by
    intro x rv u u' W R hrec hcall
    refine callsDIn_of_wpSIn hf hb trivial fun c₀ cs hu => ?_
    refine wpSIn_region_recover (o := o0) (rest := [1]) (v := rv) (cs' := { c₀ with mode := u' } :: cs) (by rw [ho]; rfl) (by rw [ho]; rfl) (by simp [Region.wanted, hg0]) (by simp [execOp, h0, resolve, go_sem]) (hrec c₀ cs hu) ?_
    have hev : ∀ _ : Nat, (#[x] ++ Array.replicate (fn.ntmps - 1) undef : Array Value) = #[x, undef, undef] := fun _ => by rw [hn]; rfl
    simp only [List.size_toArray, List.length_cons, List.length_nil, Nat.zero_add, hev 0, Act.put, hd0]
    unfold wpOpsIn
    rw [show ops[1]? = some o1 by rw [ho]; rfl]
    simp only [Region.wanted, hg1, if_true]
    refine ⟨fun _ _ => trivial, ?_⟩
    have hrun : (o1.semAt Fence.wide.round (Act.eval { tmps := (#[x, undef, undef] : Array Value).setIfInBounds 1 rv, defers := [] })).run Tryz.prog W = .ok (.enter 60 #[rv, x]) W := by
      rw [Oper.semAt_eq _ _ _ (by rw [h1]; intro c hc; cases hc)]
      simp [execOp, h1, resolve, go_sem, Deferred.ofValue, Act.eval]
    rw [hrun, Oper.uponIn_enter]
    refine ⟨fun h => by simp [Fence.wide] at h, ((callsIn_wide (n := 0)).2 hcall).mono ?_⟩
    rintro e W' ⟨rfl, hR⟩
    simp only [wpOpsIn, Act.put, hd1]
    refine ⟨rfl, u', rfl, .tuple #[], results_none hr _ _ _, ⟨_, rfl⟩, rfl, hR⟩
  refine ⟨fun x W => ?_, fun B off y x k n W hc hz hx => ?_⟩
  · refine (hwalk x .nilIface .returning .returning W (Below W.heap.size W) (fun c₀ cs hu => .inr ⟨by simp [recoverD, hu], rfl, by cases c₀; simp_all⟩) (idle_clamp x W))
  · subst hx
    refine hwalk _ _ _ _ W _ (fun c₀ cs hu => .inl ?_) (stopped_clamp B off y k n W hc hz)
    simp [recoverD, hu]
end Go.Proofs.YtcaejedfjobooaaGreatDoor

namespace Go.Proofs.YtcaejedfjobooaaGreatDoor
open Go Go.Proofs Go.RowKit
set_option maxHeartbeats 400000 in
set_option maxRecDepth 100000 in
theorem stopped_tally (B off : Nat) (y : Value) (k : IntKind) (n : Int) (W : World) (hc : W.cell? ⟨B, off, none⟩ = some y) (hz : W.frozen? ⟨B, off, none⟩ = false) :
    Calls Tryz.prog 17 #[.iface 99 (.agg #[.int k n]), .pointer (some ⟨B, off, none⟩)] W fun e W' => e = .returned (.tuple #[]) ∧ Below W.heap.size (W.setCell ⟨B, off, none⟩ (.int k n)) W' := by
  have hta : ∀ w : World, (Instr.typeAssert (.iface 99 (.agg #[.int k n])) 20 99 true).run Tryz.prog w = .ok (.tuple #[.agg #[.int k n], .bool true]) w := fun _ => by kernel_rfl
  have hlt : B < W.heap.size := by
    unfold World.cell? at hc
    cases hb : W.heap[B]? with
    | none => simp [hb] at hc
    | some x => exact (Array.getElem?_eq_some_iff.1 hb).1
  have hca : ∀ o, (W.alloc o).cell? ⟨B, off, none⟩ = some y := fun o => (World.cell?_of_block (Below.heap_alloc W o B hlt)).trans hc
  have hza : ∀ o, (W.alloc o).frozen? ⟨B, off, none⟩ = false := fun o => (World.frozen?_of_block (Below.heap_alloc W o B hlt)).trans hz
  have hbel : ∀ o, Below W.heap.size (W.setCell ⟨B, off, none⟩ (.int k n)) ((W.alloc o).setCell ⟨B, off, none⟩ (.int k n)) := fun o => by
    refine ⟨rfl, rfl, rfl, by simp, fun i hi => ?_⟩
    simp only [World.setCell, Array.getElem?_modify]
    rw [Below.heap_alloc W o i hi]
  clear hc hz hlt
  go_enter Tryz.func17, Tryz.ntmps17
  go_wp2
  exact ⟨rfl, _, results_none rfl _ _ _, rfl, hbel _⟩
theorem idle_tally (x : Value) (W : World) : Calls Tryz.prog 17 #[.nilIface, x] W fun e W' => e = .returned (.tuple #[]) ∧ Below W.heap.size W W' := by
  go_enter Tryz.func17, Tryz.ntmps17
  go_wp2
  exact ⟨rfl, _, results_none rfl _ _ _, rfl, Below.refl _ _⟩

/-- What a deferred closure does that hands what is recovered to stopped. -/
theorem closure_tally {f : Nat} {fn : Func} {id : Nat} {ops : Array Oper} {o0 o1 : Oper} (hf : Tryz.prog.funcs[f]? = some fn) (hb : fn.body = some (.region id ops false)) (hn : fn.ntmps = 3) (hr : fn.results = #[]) (hnm : (fn.name == "runtime.NumGoroutine") = false)
    (ho : ops = #[o0, o1]) (h0 : o0.op = .call { callee := .builtin .recover, args := #[], argTypes := #[] }) (hd0 : o0.dst = some 1) (hg0 : o0.guard = none) (hd1 : o1.dst = some 2) (hg1 : o1.guard = none) {ts : Array TypeId} (h1 : o1.op = .call { callee := .value (.func 17), args := #[.tmp 1, .tmp 0], argTypes := ts }) :
    (∀ (x : Value) (W : World), CallsDIn Fence.wide 0 Tryz.prog f #[x] .returning W fun e u' W' => (∃ v, e = .returned v) ∧ u' = .returning ∧ Below W.heap.size W W') ∧
    (∀ (B off : Nat) (y x : Value) (k : IntKind) (n : Int) (W : World), W.cell? ⟨B, off, none⟩ = some y → W.frozen? ⟨B, off, none⟩ = false → x = .agg #[.int k n] →
      CallsDIn Fence.wide 0 Tryz.prog f #[.pointer (some ⟨B, off, none⟩)] (.panicking [{ v := .iface 99 x, recovered := false }]) W fun e u' W' =>
        (∃ v, e = .returned v) ∧ u' = .panicking [{ v := .iface 99 x, recovered := true }] ∧ Below W.heap.size (W.setCell ⟨B, off, none⟩ (.int k n)) W') := by
  have hwalk : ∀ (x rv : Value) (u u' : FrameMode) (W : World) (R : World → Prop), (∀ (c₀ : Frame) (cs : List Frame), c₀.mode = u → recoverD (c₀ :: cs) = some (rv, { c₀ with mode := u' } :: cs) ∨ (recoverD (c₀ :: cs) = none ∧ rv = .nilIface ∧ { c₀ with mode := u' } :: cs = c₀ :: cs)) →
      Calls Tryz.prog 17 #[rv, x] W (fun e W' => e = .returned (.tuple #[]) ∧ R W') → CallsDIn Fence.wide 0 Tryz.prog f #[x] u W fun e v' W' => (∃ v, e = .returned v) ∧ v' = u' ∧ R W' := by
    intro x rv u u' W R hrec hcall
    refine callsDIn_of_wpSIn hf hb trivial fun c₀ cs hu => ?_
    refine wpSIn_region_recover (o := o0) (rest := [1]) (v := rv) (cs' := { c₀ with mode := u' } :: cs) (by rw [ho]; rfl) (by rw [ho]; rfl) (by simp [Region.wanted, hg0]) (by simp [execOp, h0, resolve, go_sem]) (hrec c₀ cs hu) ?_
    have hev : ∀ _ : Nat, (#[x] ++ Array.replicate (fn.ntmps - 1) undef : Array Value) = #[x, undef, undef] := fun _ => by rw [hn]; rfl
    simp only [List.size_toArray, List.length_cons, List.length_nil, Nat.zero_add, hev 0, Act.put, hd0]
    unfold wpOpsIn
    rw [show ops[1]? = some o1 by rw [ho]; rfl]
    simp only [Region.wanted, hg1, if_true]
    refine ⟨fun _ _ => trivial, ?_⟩
    have hrun : (o1.semAt Fence.wide.round (Act.eval { tmps := (#[x, undef, undef] : Array Value).setIfInBounds 1 rv, defers := [] })).run Tryz.prog W = .ok (.enter 17 #[rv, x]) W := by
      rw [Oper.semAt_eq _ _ _ (by rw [h1]; intro c hc; cases hc)]
      simp [execOp, h1, resolve, go_sem, Deferred.ofValue, Act.eval]
    rw [hrun, Oper.uponIn_enter]
    refine ⟨fun h => by simp [Fence.wide] at h, ((callsIn_wide (n := 0)).2 hcall).mono ?_⟩
    rintro e W' ⟨rfl, hR⟩
    simp only [wpOpsIn, Act.put, hd1]
    refine ⟨rfl, u', rfl, .tuple #[], results_none hr _ _ _, ⟨_, rfl⟩, rfl, hR⟩
  refine ⟨fun x W => ?_, fun B off y x k n W hc hz hx => ?_⟩
  · refine (hwalk x .nilIface .returning .returning W (Below W.heap.size W) (fun c₀ cs hu => .inr ⟨by simp [recoverD, hu], rfl, by cases c₀; simp_all⟩) (idle_tally x W))
  · subst hx
    refine hwalk _ _ _ _ W _ (fun c₀ cs hu => .inl ?_) (stopped_tally B off y k n W hc hz)
    simp [recoverD, hu]
end Go.Proofs.YtcaejedfjobooaaGreatDoor

namespace Go.Proofs.YtcaejedfjobooaaGreatDoor
open Go Go.Proofs Go.RowKit
set_option maxHeartbeats 400000 in
set_option maxRecDepth 100000 in
theorem twice_number (W : World) : Calls Tryz.prog 142 #[.agg #[]] W fun e W' => e = .returned (.int .i64 1) ∧ Below W.heap.size W W' := by
  go_enter Tryz.func142, Tryz.ntmps142
  go_wp2
  all_goals refine ⟨rfl, _, results_tmp rfl _ _ _, rfl, ?_⟩
  all_goals first | exact Below.refl _ _ | exact (Below.refl _ _).alloc (Nat.le_refl _) _
theorem differs_at (B : Nat) (W : World) (hb : W.shape? B = some (135, 0)) : (partAt ⟨B, 0, none⟩ 0 0).run Tryz.prog W = .ok ⟨B, 0, none⟩ W := by
  have h1 : Tryz.prog.cellsOf 135 = 0 := by kernel_rfl
  have hva : (viewAt B).run Tryz.prog W = .ok none W := by simp [viewAt, hb]
  have hnv : (noView ⟨B, 0, none⟩).run Tryz.prog W = .ok () W := by simp [noView, hva, Result.andThen]
  simp [partAt, byteOf, hnv, hb, h1, Result.andThen]
set_option maxHeartbeats 400000 in
set_option maxRecDepth 100000 in
theorem differs_number (W : World) : Calls Tryz.prog 147 #[.agg #[]] W fun e W' => e = .returned (.int .i64 2) ∧ Below W.heap.size W W' := by
  have hld : ∀ (B : Nat) (w : World), (Instr.loadAt 133 (.pointer (some ⟨B, 0, none⟩))).run Tryz.prog w = .ok (.agg #[]) w := fun B w => by
    have h2 : (sizeOf 133).run Tryz.prog w = .ok 0 w := by kernel_rfl
    simp [Instr.loadAt, Instr.sureAddr, loadVar, isAgg, run_underlying Tryz.underlying133, h2, loadCells, loadCellsFrom]
  have hfa := differs_at W.heap.size (W.alloc (Obj.cells #[] 135)) (by have h := World.alloc_heap_new W (Obj.cells #[] 135); simp only [World.shape?, h]; rfl)
  go_enter Tryz.func147, Tryz.ntmps147
  go_wp2_with (go_at_call 142; refine (twice_number _).mono ?_; rintro e w1 ⟨rfl, hb1⟩)
  refine ⟨rfl, _, results_tmp rfl _ _ _, rfl, ?_⟩
  exact ((Below.refl _ _).alloc (Nat.le_refl _) _).trans (hb1.mono (by simp))
set_option maxHeartbeats 400000 in
set_option maxRecDepth 100000 in
theorem good_paid (l h : Int) (W : World) : Calls Tryz.prog 155 #[.agg #[], .agg #[.int .i64 l, .int .i64 h]] W fun e W' => e = .returned (.int .i64 h) ∧ Below W.heap.size W W' := by
  go_enter Tryz.func155, Tryz.ntmps155
  go_wp2
  all_goals refine ⟨rfl, _, results_tmp rfl _ _ _, rfl, ?_⟩
  all_goals exact (by (repeat' first | (with_reducible assumption) | (with_reducible exact Below.refl _ _) | (with_reducible refine Below.drew ?_) | (with_reducible refine Below.setCell ?_ ?_ _) | (with_reducible refine Below.alloc ?_ ?_ _) | (refine Below.trans ?_ (Below.mono (by assumption) ?_)) | omega | (simp only [World.size_alloc, World.size_setCell, World.size_drew] at *; omega)))
set_option maxHeartbeats 400000 in
set_option maxRecDepth 100000 in
theorem good_due (l h : Int) (W : World) : Calls Tryz.prog 154 #[.agg #[], .agg #[.int .i64 l, .int .i64 h]] W fun e W' => e = .returned (.int .i64 l) ∧ Below W.heap.size W W' := by
  go_enter Tryz.func154, Tryz.ntmps154
  go_wp2
  all_goals refine ⟨rfl, _, results_tmp rfl _ _ _, rfl, ?_⟩
  all_goals exact (by (repeat' first | (with_reducible assumption) | (with_reducible exact Below.refl _ _) | (with_reducible refine Below.drew ?_) | (with_reducible refine Below.setCell ?_ ?_ _) | (with_reducible refine Below.alloc ?_ ?_ _) | (refine Below.trans ?_ (Below.mono (by assumption) ?_)) | omega | (simp only [World.size_alloc, World.size_setCell, World.size_drew] at *; omega)))
theorem bad_at (B : Nat) (W : World) (hb : W.shape? B = some (240, 0)) : (partAt ⟨B, 0, none⟩ 0 0).run Tryz.prog W = .ok ⟨B, 0, none⟩ W := by
  have h1 : Tryz.prog.cellsOf 240 = 0 := by kernel_rfl
  have hva : (viewAt B).run Tryz.prog W = .ok none W := by simp [viewAt, hb]
  have hnv : (noView ⟨B, 0, none⟩).run Tryz.prog W = .ok () W := by simp [noView, hva, Result.andThen]
  simp [partAt, byteOf, hnv, hb, h1, Result.andThen]
set_option maxHeartbeats 400000 in
set_option maxRecDepth 100000 in
theorem bad_due (l h : Int) (W : World) : Calls Tryz.prog 156 #[.agg #[], .agg #[.int .i64 l, .int .i64 h]] W fun e W' => e = .returned (.int .i64 h) ∧ Below W.heap.size W W' := by
  have hld : ∀ (B : Nat) (w : World), (Instr.loadAt 238 (.pointer (some ⟨B, 0, none⟩))).run Tryz.prog w = .ok (.agg #[]) w := fun B w => by
    have h2 : (sizeOf 238).run Tryz.prog w = .ok 0 w := by kernel_rfl
    simp [Instr.loadAt, Instr.sureAddr, loadVar, isAgg, run_underlying Tryz.underlying238, h2, loadCells, loadCellsFrom]
  have hfa := bad_at W.heap.size ((W.alloc (Obj.cells #[] 240)).alloc (Obj.cells #[.int .i64 l, .int .i64 h] 27)) (by
    have : ((W.alloc (Obj.cells #[] 240)).alloc (Obj.cells #[.int .i64 l, .int .i64 h] 27)).heap[W.heap.size]? = some (.cells #[] 240 (0, 0)) := by
      rw [Below.heap_alloc _ _ _ (by simp)]; exact World.alloc_heap_new W _
    simp only [World.shape?, this]; rfl)
  have hbel : Below W.heap.size W ((W.alloc (Obj.cells #[] 240)).alloc (Obj.cells #[.int .i64 l, .int .i64 h] 27)) := ((Below.refl _ _).alloc (Nat.le_refl _) _).alloc (by simp) _
  go_enter Tryz.func156, Tryz.ntmps156
  go_wp2_with (go_at_call 155; refine (good_paid _ _ _).mono ?_; rintro e w1 ⟨rfl, hb1⟩)
  refine ⟨rfl, _, results_tmp rfl _ _ _, rfl, ?_⟩
  exact hbel.trans (hb1.mono (by simp; omega))
set_option maxHeartbeats 400000 in
set_option maxRecDepth 100000 in
theorem bad_paid (l h : Int) (W : World) : Calls Tryz.prog 157 #[.agg #[], .agg #[.int .i64 l, .int .i64 h]] W fun e W' => e = .returned (.int .i64 l) ∧ Below W.heap.size W W' := by
  have hld : ∀ (B : Nat) (w : World), (Instr.loadAt 238 (.pointer (some ⟨B, 0, none⟩))).run Tryz.prog w = .ok (.agg #[]) w := fun B w => by
    have h2 : (sizeOf 238).run Tryz.prog w = .ok 0 w := by kernel_rfl
    simp [Instr.loadAt, Instr.sureAddr, loadVar, isAgg, run_underlying Tryz.underlying238, h2, loadCells, loadCellsFrom]
  have hfa := bad_at W.heap.size ((W.alloc (Obj.cells #[] 240)).alloc (Obj.cells #[.int .i64 l, .int .i64 h] 27)) (by
    have : ((W.alloc (Obj.cells #[] 240)).alloc (Obj.cells #[.int .i64 l, .int .i64 h] 27)).heap[W.heap.size]? = some (.cells #[] 240 (0, 0)) := by
      rw [Below.heap_alloc _ _ _ (by simp)]; exact World.alloc_heap_new W _
    simp only [World.shape?, this]; rfl)
  have hbel : Below W.heap.size W ((W.alloc (Obj.cells #[] 240)).alloc (Obj.cells #[.int .i64 l, .int .i64 h] 27)) := ((Below.refl _ _).alloc (Nat.le_refl _) _).alloc (by simp) _
  go_enter Tryz.func157, Tryz.ntmps157
  go_wp2_with (go_at_call 154; refine (good_due _ _ _).mono ?_; rintro e w1 ⟨rfl, hb1⟩)
  refine ⟨rfl, _, results_tmp rfl _ _ _, rfl, ?_⟩
  exact hbel.trans (hb1.mono (by simp; omega))
end Go.Proofs.YtcaejedfjobooaaGreatDoor

namespace Go.Proofs.YtcaejedfjobooaaGreatDoor
open Go Go.Proofs Go.RowKit
set_option maxHeartbeats 400000 in
set_option maxRecDepth 100000 in
theorem answer_pan (B off : Nat) (y : Value) (k : IntKind) (n : Int) (W : World) (hc : W.cell? ⟨B, off, none⟩ = some y) (hz : W.frozen? ⟨B, off, none⟩ = false) :
    CallsDIn Fence.wide 0 Tryz.prog 64 #[.pointer (some ⟨B, off, none⟩)] (.panicking [{ v := .iface 153 (.int k n), recovered := false }]) W fun e u' W' =>
      (∃ v, e = .returned v) ∧ u' = .panicking [{ v := .iface 153 (.int k n), recovered := true }] ∧ Below W.heap.size (W.setCell ⟨B, off, none⟩ (.int k n)) W' := by
  refine callsDIn_of_wpSIn Tryz.func64 rfl trivial fun c₀ cs hu => ?_
  simp only [Tryz.ntmps64, List.size_toArray, List.length_cons, List.length_nil, Nat.reduceAdd, Nat.reduceSub, Array.replicate_succ, Array.replicate_zero, List.push_toArray, List.append_toArray, List.nil_append, List.cons_append]
  apply wpSIn_seq
  apply wpSIn_region
  simp [wpOpsSIn, go_sem, recoverD, hu, Exit.thenS, Fence.wide, Oper.about, resolve, Target.leads]
  refine wpSIn_of_wpIn rfl (wpIn_wide.2 ?_)
  clear hu
  have hta : ∀ w : World, (Instr.typeAssert (.iface 153 (.int k n)) 20 153 true).run Tryz.prog w = .ok (.tuple #[.int k n, .bool true]) w := fun _ => by kernel_rfl
  go_wp2
  exact ⟨rfl, _, rfl, _, results_none rfl _ _ _, ⟨_, rfl⟩, rfl, Below.refl _ _⟩
set_option maxHeartbeats 400000 in
set_option maxRecDepth 100000 in
theorem answer_idle (x : Value) (W : World) :
    CallsDIn Fence.wide 0 Tryz.prog 64 #[x] .returning W fun e u' W' => (∃ v, e = .returned v) ∧ u' = .returning ∧ Below W.heap.size W W' := by
  refine callsDIn_of_wpSIn Tryz.func64 rfl trivial fun c₀ cs hu => ?_
  simp only [Tryz.ntmps64, List.size_toArray, List.length_cons, List.length_nil, Nat.reduceAdd, Nat.reduceSub, Array.replicate_succ, Array.replicate_zero, List.push_toArray, List.append_toArray, List.nil_append, List.cons_append]
  apply wpSIn_seq
  apply wpSIn_region
  simp [wpOpsSIn, go_sem, recoverD, hu, Exit.thenS, Fence.wide, Oper.about, resolve, Target.leads]
  refine wpSIn_of_wpIn rfl (wpIn_wide.2 ?_)
  go_wp2
  cases c₀
  simp_all [bodyPostS, results, Tryz.results64]
  exact Below.refl _ _
theorem dfAnswer : Ev.DfOk Tryz.prog 64 153 false :=
  ⟨⟨_, Tryz.func64, by kernel_rfl, by kernel_rfl⟩, answer_idle, fun B off y x k n W hc hz hx => by
    simp at hx; subst hx; exact answer_pan B off y k n W hc hz⟩
end Go.Proofs.YtcaejedfjobooaaGreatDoor

namespace Go.Proofs.YtcaejedfjobooaaGreatDoor
open Go Go.Proofs
namespace Ev
set_option maxRecDepth 100000
theorem dfClampHas : DfOk Tryz.prog 59 137 true := by
  obtain ⟨h1, h2⟩ := closure_clamp (f := 59) Tryz.func59 rfl rfl rfl (by kernel_rfl) rfl rfl rfl rfl rfl rfl rfl
  exact ⟨⟨_, Tryz.func59, by kernel_rfl, by kernel_rfl⟩, h1, fun B off y x k n W hc hz hx => h2 B off y x k n W hc hz (by simpa using hx)⟩
theorem dfClampAll : DfOk Tryz.prog 70 137 true := by
  obtain ⟨h1, h2⟩ := closure_clamp (f := 70) Tryz.func70 rfl rfl rfl (by kernel_rfl) rfl rfl rfl rfl rfl rfl rfl
  exact ⟨⟨_, Tryz.func70, by kernel_rfl, by kernel_rfl⟩, h1, fun B off y x k n W hc hz hx => h2 B off y x k n W hc hz (by simpa using hx)⟩
theorem dfTallyCheck : DfOk Tryz.prog 16 99 true := by
  obtain ⟨h1, h2⟩ := closure_tally (f := 16) Tryz.func16 rfl rfl rfl (by kernel_rfl) rfl rfl rfl rfl rfl rfl rfl
  exact ⟨⟨_, Tryz.func16, by kernel_rfl, by kernel_rfl⟩, h1, fun B off y x k n W hc hz hx => h2 B off y x k n W hc hz (by simpa using hx)⟩
theorem dfTallyOpen : DfOk Tryz.prog 26 99 true := by
  obtain ⟨h1, h2⟩ := closure_tally (f := 26) Tryz.func26 rfl rfl rfl (by kernel_rfl) rfl rfl rfl rfl rfl rfl rfl
  exact ⟨⟨_, Tryz.func26, by kernel_rfl, by kernel_rfl⟩, h1, fun B off y x k n W hc hz hx => h2 B off y x k n W hc hz (by simpa using hx)⟩
theorem dfTallyMatch : DfOk Tryz.prog 29 99 true := by
  obtain ⟨h1, h2⟩ := closure_tally (f := 29) Tryz.func29 rfl rfl rfl (by kernel_rfl) rfl rfl rfl rfl rfl rfl rfl
  exact ⟨⟨_, Tryz.func29, by kernel_rfl, by kernel_rfl⟩, h1, fun B off y x k n W hc hz hx => h2 B off y x k n W hc hz (by simpa using hx)⟩
theorem dfTallyHas : DfOk Tryz.prog 34 99 true := by
  obtain ⟨h1, h2⟩ := closure_tally (f := 34) Tryz.func34 rfl rfl rfl (by kernel_rfl) rfl rfl rfl rfl rfl rfl rfl
  exact ⟨⟨_, Tryz.func34, by kernel_rfl, by kernel_rfl⟩, h1, fun B off y x k n W hc hz hx => h2 B off y x k n W hc hz (by simpa using hx)⟩
theorem dfTallyLeft : DfOk Tryz.prog 40 99 true := by
  obtain ⟨h1, h2⟩ := closure_tally (f := 40) Tryz.func40 rfl rfl rfl (by kernel_rfl) rfl rfl rfl rfl rfl rfl rfl
  exact ⟨⟨_, Tryz.func40, by kernel_rfl, by kernel_rfl⟩, h1, fun B off y x k n W hc hz hx => h2 B off y x k n W hc hz (by simpa using hx)⟩
theorem dfTallyEnough : DfOk Tryz.prog 45 99 true := by
  obtain ⟨h1, h2⟩ := closure_tally (f := 45) Tryz.func45 rfl rfl rfl (by kernel_rfl) rfl rfl rfl rfl rfl rfl rfl
  exact ⟨⟨_, Tryz.func45, by kernel_rfl, by kernel_rfl⟩, h1, fun B off y x k n W hc hz hx => h2 B off y x k n W hc hz (by simpa using hx)⟩
theorem dfTallyBoat : DfOk Tryz.prog 75 99 true := by
  obtain ⟨h1, h2⟩ := closure_tally (f := 75) Tryz.func75 rfl rfl rfl (by kernel_rfl) rfl rfl rfl rfl rfl rfl rfl
  exact ⟨⟨_, Tryz.func75, by kernel_rfl, by kernel_rfl⟩, h1, fun B off y x k n W hc hz hx => h2 B off y x k n W hc hz (by simpa using hx)⟩
theorem memN_mem : ∀ {l : List Nat} {n : Nat}, memN l n = true → n ∈ l
  | [], n, h => by cases h
  | x :: l, n, h => by
    have e : memN (x :: l) n = (Bool.rec (memN l n) true (Nat.beq n x) : Bool) := rfl
    rw [e] at h
    cases hb : Nat.beq n x with
    | true => rw [Nat.eq_of_beq_eq_true hb]; exact List.mem_cons_self ..
    | false => rw [hb] at h; exact List.mem_cons_of_mem _ (memN_mem h)
theorem dfk_ok : ∀ f t ag, dfkT f = some (t, ag) → DfOk Tryz.prog f t ag := by
  intro f t ag h
  unfold dfkT at h
  cases hb0 : Nat.beq f 64 with
  | true =>
    rw [hb0] at h
    cases h
    obtain rfl := Nat.eq_of_beq_eq_true hb0
    exact dfAnswer
  | false =>
  rw [hb0] at h
  cases hb : memN closC f with
  | true =>
    rw [hb] at h
    cases h
    have hm := memN_mem hb
    simp only [closC, List.mem_cons, List.not_mem_nil, or_false] at hm
    rcases hm with rfl | rfl
    · exact dfClampHas
    · exact dfClampAll
  | false =>
    rw [hb] at h
    cases hb2 : memN closT f with
    | false => rw [hb2] at h; cases h
    | true =>
      rw [hb2] at h
      cases h
      have hm := memN_mem hb2
      simp only [closT, List.mem_cons, List.not_mem_nil, or_false] at hm
      rcases hm with rfl | rfl | rfl | rfl | rfl | rfl | rfl
      · exact dfTallyCheck
      · exact dfTallyOpen
      · exact dfTallyMatch
      · exact dfTallyHas
      · exact dfTallyLeft
      · exact dfTallyEnough
      · exact dfTallyBoat
theorem num_ext (args : List AV) (v : AV) (rargs : Array Value) (W : World) (L : Nat → Prop) (μ : Mu) (hv : numG args = some v) (hr : VL W L μ args rargs.toList) :
    CallsIn Fence.wide 0 Tryz.prog 147 rargs W fun e W' => (∃ w, e = .returned w ∧ ∀ W L μ, VR W L μ v w) ∧ RowKit.Below W.heap.size W W' := by
  unfold numG at hv
  split at hv
  · cases hv
    obtain ⟨xs, hxs⟩ : ∃ xs, rargs.toList = xs := ⟨_, rfl⟩
    rw [hxs] at hr
    have hl := hr.1
    match xs, hl, hr with
    | [x0], _, hr =>
      obtain ⟨a0, rfl, v0⟩ := vr_agg hr.head
      have l0 := v0.1
      match a0, l0 with
      | [], _ =>
        have : rargs = #[.agg #[]] := Array.ext' (by rw [hxs])
        subst this
        refine (callsIn_wide.2 (differs_number W)).mono ?_
        rintro e W' ⟨rfl, hb⟩
        exact ⟨⟨_, rfl, fun _ _ _ => .int⟩, hb⟩
  · cases hv
theorem due_ext (args : List AV) (v : AV) (rargs : Array Value) (W : World) (L : Nat → Prop) (μ : Mu) (hv : dueG args = some v) (hr : VL W L μ args rargs.toList) :
    CallsIn Fence.wide 0 Tryz.prog 156 rargs W fun e W' => (∃ w, e = .returned w ∧ ∀ W L μ, VR W L μ v w) ∧ RowKit.Below W.heap.size W W' := by
  unfold dueG at hv
  split at hv
  · rename_i l h
    cases hv
    obtain ⟨xs, hxs⟩ : ∃ xs, rargs.toList = xs := ⟨_, rfl⟩
    rw [hxs] at hr
    have hl := hr.1
    match xs, hl, hr with
    | [x0, x1], _, hr =>
      obtain ⟨a0, rfl, v0⟩ := vr_agg hr.head
      obtain ⟨a1, rfl, v1⟩ := vr_agg hr.tail.head
      have l0 := v0.1
      have l1 := v1.1
      match a0, l0, a1, l1, v1 with
      | [], _, [z0, z1], _, v1 =>
        have f1 := vr_int v1.head
        have f2 := vr_int v1.tail.head
        subst f1 f2
        have : rargs = #[.agg #[], .agg #[.int .i64 l, .int .i64 h]] := Array.ext' (by rw [hxs])
        subst this
        refine (callsIn_wide.2 (bad_due l h W)).mono ?_
        rintro e W' ⟨rfl, hb⟩
        exact ⟨⟨_, rfl, fun _ _ _ => .int⟩, hb⟩
  · cases hv
theorem paid_ext (args : List AV) (v : AV) (rargs : Array Value) (W : World) (L : Nat → Prop) (μ : Mu) (hv : paidG args = some v) (hr : VL W L μ args rargs.toList) :
    CallsIn Fence.wide 0 Tryz.prog 157 rargs W fun e W' => (∃ w, e = .returned w ∧ ∀ W L μ, VR W L μ v w) ∧ RowKit.Below W.heap.size W W' := by
  unfold paidG at hv
  split at hv
  · rename_i l h
    cases hv
    obtain ⟨xs, hxs⟩ : ∃ xs, rargs.toList = xs := ⟨_, rfl⟩
    rw [hxs] at hr
    have hl := hr.1
    match xs, hl, hr with
    | [x0, x1], _, hr =>
      obtain ⟨a0, rfl, v0⟩ := vr_agg hr.head
      obtain ⟨a1, rfl, v1⟩ := vr_agg hr.tail.head
      have l0 := v0.1
      have l1 := v1.1
      match a0, l0, a1, l1, v1 with
      | [], _, [z0, z1], _, v1 =>
        have f1 := vr_int v1.head
        have f2 := vr_int v1.tail.head
        subst f1 f2
        have : rargs = #[.agg #[], .agg #[.int .i64 l, .int .i64 h]] := Array.ext' (by rw [hxs])
        subst this
        refine (callsIn_wide.2 (bad_paid l h W)).mono ?_
        rintro e W' ⟨rfl, hb⟩
        exact ⟨⟨_, rfl, fun _ _ _ => .int⟩, hb⟩
  · cases hv
theorem num_known : ∃ F, Tryz.prog.funcs[147]? = some F ∧ (F.name == "runtime.NumGoroutine") = false ∧ F.body.isNone = false := ⟨_, Tryz.func147, by kernel_rfl, by kernel_rfl⟩
theorem due_known : ∃ F, Tryz.prog.funcs[156]? = some F ∧ (F.name == "runtime.NumGoroutine") = false ∧ F.body.isNone = false := ⟨_, Tryz.func156, by kernel_rfl, by kernel_rfl⟩
theorem paid_known : ∃ F, Tryz.prog.funcs[157]? = some F ∧ (F.name == "runtime.NumGoroutine") = false ∧ F.body.isNone = false := ⟨_, Tryz.func157, by kernel_rfl, by kernel_rfl⟩
theorem extT_ok : ∀ f g, extT f = some g → (∃ F, Tryz.prog.funcs[f]? = some F ∧ (F.name == "runtime.NumGoroutine") = false ∧ F.body.isNone = false) ∧
    ∀ (args : List AV) (v : AV) (rargs : Array Value) (W : World) (L : Nat → Prop) (μ : Mu), g args = some v → VL W L μ args rargs.toList →
      CallsIn Fence.wide 0 Tryz.prog f rargs W fun e W' => (∃ w, e = .returned w ∧ ∀ W L μ, VR W L μ v w) ∧ RowKit.Below W.heap.size W W' := by
  intro f g h
  unfold extT at h
  cases hb : Nat.beq f 157 with
  | true =>
    rw [hb] at h; cases h
    obtain rfl := Nat.eq_of_beq_eq_true hb
    exact ⟨paid_known, paid_ext⟩
  | false =>
  rw [hb] at h
  cases hb2 : Nat.beq f 156 with
  | true =>
    rw [hb2] at h; cases h
    obtain rfl := Nat.eq_of_beq_eq_true hb2
    exact ⟨due_known, due_ext⟩
  | false =>
  rw [hb2] at h
  cases hb3 : Nat.beq f 147 with
  | false => rw [hb3] at h; cases h
  | true =>
    rw [hb3] at h; cases h
    obtain rfl := Nat.eq_of_beq_eq_true hb3
    exact ⟨num_known, num_ext⟩
theorem tblA : TblOk Tryz.prog cfgA := ⟨fun f fn h => FT.find_all tree_is h, extT_ok, fun _ _ h => (by cases h), dfk_ok⟩
/-- Of all entries, as a bool. -/
noncomputable def FT.allB (p : AFunc → Bool) : FT → Bool := fun t => FT.rec true (fun _ f _ _ ihl ihr => Q.andB (p f) (Q.andB ihl ihr)) t
theorem FT.allB_all {p : AFunc → Bool} : ∀ {t : FT}, FT.allB p t = true → FT.All (fun _ f => p f = true) t
  | .leaf, _ => trivial
  | .node k f l r, h => by
    have e : FT.allB p (.node k f l r) = Q.andB (p f) (Q.andB (FT.allB p l) (FT.allB p r)) := rfl
    rw [e, Q.andB_eq, Q.andB_eq, Bool.and_eq_true, Bool.and_eq_true] at h
    exact ⟨h.1, FT.allB_all h.2.1, FT.allB_all h.2.2⟩
theorem all_ok : FT.allB Q.okF fnTree = true := by kernel_rfl
theorem quickA : Q.Quick cfgA := ⟨fun _ => rfl, fun _ _ h => FT.find_all (FT.allB_all all_ok) h⟩
theorem quickN : Q.Quick cfgN := ⟨fun _ => rfl, fun _ _ h => FT.find_all (FT.allB_all all_ok) h⟩
theorem known_of {f : Nat} {af : AFunc} (h : ∃ F, Tryz.prog.funcs[f]? = some F ∧ (F.name == "runtime.NumGoroutine") = false ∧ compFn Tryz.prog F = some af.strip) : ∃ F, Tryz.prog.funcs[f]? = some F ∧ (F.name == "runtime.NumGoroutine") = false ∧ F.body.isNone = false := by
  obtain ⟨F, f1, f2, f3⟩ := h
  obtain ⟨c, g1, _⟩ := compFn_ok f3
  exact ⟨F, f1, f2, by rw [g1]; rfl⟩
/-- What the variable of package debt holds, where it is as the text lays it. -/
def Laid (W : World) : Prop := Globs cfgA W (fun _ => False)
end Ev
end Go.Proofs.YtcaejedfjobooaaGreatDoor
