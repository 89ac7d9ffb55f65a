/- Rows of the table, run by the kernel. Printed by program. -/
import Derived.Test.YtcaejedfjobooaaGreatLoadDef
import Derived.KernelRfl
namespace Go.Proofs.YtcaejedfjobooaaGreat
open Go
namespace Ev
set_option maxRecDepth 1000000
theorem LoadP_bears0_ok : Q.okRow cfg0 29 112 LoadP_bears0 = true := by kernel_rfl
theorem LoadP_bears0_well : Q.wellRow LoadP_bears0 = true := by kernel_rfl
theorem LoadP_bears10_ok : Q.okRow cfg0 29 112 LoadP_bears10 = true := by kernel_rfl
theorem LoadP_bears10_well : Q.wellRow LoadP_bears10 = true := by kernel_rfl
theorem LoadP_bears23_ok : Q.okRow cfg0 29 112 LoadP_bears23 = true := by kernel_rfl
theorem LoadP_bears23_well : Q.wellRow LoadP_bears23 = true := by kernel_rfl
theorem LoadP_bears25_ok : Q.okRow cfg0 29 112 LoadP_bears25 = true := by kernel_rfl
theorem LoadP_bears25_well : Q.wellRow LoadP_bears25 = true := by kernel_rfl
theorem LoadP_bears4_ok : Q.okRow cfg0 29 112 LoadP_bears4 = true := by kernel_rfl
theorem LoadP_bears4_well : Q.wellRow LoadP_bears4 = true := by kernel_rfl
theorem LoadP_bears142_ok : Q.okRow cfg0 29 112 LoadP_bears142 = true := by kernel_rfl
theorem LoadP_bears142_well : Q.wellRow LoadP_bears142 = true := by kernel_rfl
theorem LoadP_bears113_ok : Q.okRow cfg0 29 112 LoadP_bears113 = true := by kernel_rfl
theorem LoadP_bears113_well : Q.wellRow LoadP_bears113 = true := by kernel_rfl
theorem LoadP_bears30_ok : Q.okRow cfg0 29 112 LoadP_bears30 = true := by kernel_rfl
theorem LoadP_bears30_well : Q.wellRow LoadP_bears30 = true := by kernel_rfl
theorem LoadP_bears24_ok : Q.okRow cfg0 29 112 LoadP_bears24 = true := by kernel_rfl
theorem LoadP_bears24_well : Q.wellRow LoadP_bears24 = true := by kernel_rfl
theorem LoadP_bears32_ok : Q.okRow cfg0 29 112 LoadP_bears32 = true := by kernel_rfl
theorem LoadP_bears32_well : Q.wellRow LoadP_bears32 = true := by kernel_rfl
theorem LoadP_bears36_ok : Q.okRow cfg0 29 112 LoadP_bears36 = true := by kernel_rfl
theorem LoadP_bears36_well : Q.wellRow LoadP_bears36 = true := by kernel_rfl
theorem LoadP_bears40_ok : Q.okRow cfg0 29 112 LoadP_bears40 = true := by kernel_rfl
theorem LoadP_bears40_well : Q.wellRow LoadP_bears40 = true := by kernel_rfl
theorem LoadP_bears44_ok : Q.okRow cfg0 29 112 LoadP_bears44 = true := by kernel_rfl
theorem LoadP_bears44_well : Q.wellRow LoadP_bears44 = true := by kernel_rfl
theorem LoadP_bears48_ok : Q.okRow cfg0 29 112 LoadP_bears48 = true := by kernel_rfl
theorem LoadP_bears48_well : Q.wellRow LoadP_bears48 = true := by kernel_rfl
theorem LoadP_bears52_ok : Q.okRow cfg0 29 112 LoadP_bears52 = true := by kernel_rfl
theorem LoadP_bears52_well : Q.wellRow LoadP_bears52 = true := by kernel_rfl
theorem LoadP_bears56_ok : Q.okRow cfg0 29 112 LoadP_bears56 = true := by kernel_rfl
theorem LoadP_bears56_well : Q.wellRow LoadP_bears56 = true := by kernel_rfl
theorem LoadP_bears60_ok : Q.okRow cfg0 29 112 LoadP_bears60 = true := by kernel_rfl
theorem LoadP_bears60_well : Q.wellRow LoadP_bears60 = true := by kernel_rfl
theorem LoadP_bears64_ok : Q.okRow cfg0 29 112 LoadP_bears64 = true := by kernel_rfl
theorem LoadP_bears64_well : Q.wellRow LoadP_bears64 = true := by kernel_rfl
theorem LoadP_bears68_ok : Q.okRow cfg0 29 112 LoadP_bears68 = true := by kernel_rfl
theorem LoadP_bears68_well : Q.wellRow LoadP_bears68 = true := by kernel_rfl
theorem LoadP_bears72_ok : Q.okRow cfg0 29 112 LoadP_bears72 = true := by kernel_rfl
theorem LoadP_bears72_well : Q.wellRow LoadP_bears72 = true := by kernel_rfl
theorem LoadP_bears76_ok : Q.okRow cfg0 29 112 LoadP_bears76 = true := by kernel_rfl
theorem LoadP_bears76_well : Q.wellRow LoadP_bears76 = true := by kernel_rfl
theorem LoadP_bears81_ok : Q.okRow cfg0 29 112 LoadP_bears81 = true := by kernel_rfl
theorem LoadP_bears81_well : Q.wellRow LoadP_bears81 = true := by kernel_rfl
theorem LoadP_bears87_ok : Q.okRow cfg0 29 112 LoadP_bears87 = true := by kernel_rfl
theorem LoadP_bears87_well : Q.wellRow LoadP_bears87 = true := by kernel_rfl
theorem LoadP_bears91_ok : Q.okRow cfg0 29 112 LoadP_bears91 = true := by kernel_rfl
theorem LoadP_bears91_well : Q.wellRow LoadP_bears91 = true := by kernel_rfl
theorem LoadP_bears95_ok : Q.okRow cfg0 29 112 LoadP_bears95 = true := by kernel_rfl
theorem LoadP_bears95_well : Q.wellRow LoadP_bears95 = true := by kernel_rfl
theorem LoadP_bears99_ok : Q.okRow cfg0 29 112 LoadP_bears99 = true := by kernel_rfl
theorem LoadP_bears99_well : Q.wellRow LoadP_bears99 = true := by kernel_rfl
theorem LoadP_bears103_ok : Q.okRow cfg0 29 112 LoadP_bears103 = true := by kernel_rfl
theorem LoadP_bears103_well : Q.wellRow LoadP_bears103 = true := by kernel_rfl
theorem LoadP_bears107_ok : Q.okRow cfg0 29 112 LoadP_bears107 = true := by kernel_rfl
theorem LoadP_bears107_well : Q.wellRow LoadP_bears107 = true := by kernel_rfl
theorem LoadP_bears111_ok : Q.okRow cfg0 29 112 LoadP_bears111 = true := by kernel_rfl
theorem LoadP_bears111_well : Q.wellRow LoadP_bears111 = true := by kernel_rfl
theorem LoadP_bears116_ok : Q.okRow cfg0 29 112 LoadP_bears116 = true := by kernel_rfl
theorem LoadP_bears116_well : Q.wellRow LoadP_bears116 = true := by kernel_rfl
theorem LoadP_bears120_ok : Q.okRow cfg0 29 112 LoadP_bears120 = true := by kernel_rfl
theorem LoadP_bears120_well : Q.wellRow LoadP_bears120 = true := by kernel_rfl
theorem LoadP_bears124_ok : Q.okRow cfg0 29 112 LoadP_bears124 = true := by kernel_rfl
theorem LoadP_bears124_well : Q.wellRow LoadP_bears124 = true := by kernel_rfl
theorem LoadP_bears128_ok : Q.okRow cfg0 29 112 LoadP_bears128 = true := by kernel_rfl
theorem LoadP_bears128_well : Q.wellRow LoadP_bears128 = true := by kernel_rfl
theorem LoadP_bears132_ok : Q.okRow cfg0 29 112 LoadP_bears132 = true := by kernel_rfl
theorem LoadP_bears132_well : Q.wellRow LoadP_bears132 = true := by kernel_rfl
theorem LoadP_bears136_ok : Q.okRow cfg0 29 112 LoadP_bears136 = true := by kernel_rfl
theorem LoadP_bears136_well : Q.wellRow LoadP_bears136 = true := by kernel_rfl
theorem LoadP_bears140_ok : Q.okRow cfg0 29 112 LoadP_bears140 = true := by kernel_rfl
theorem LoadP_bears140_well : Q.wellRow LoadP_bears140 = true := by kernel_rfl
theorem LoadP_bears145_ok : Q.okRow cfg0 29 112 LoadP_bears145 = true := by kernel_rfl
theorem LoadP_bears145_well : Q.wellRow LoadP_bears145 = true := by kernel_rfl
end Ev
end Go.Proofs.YtcaejedfjobooaaGreat

namespace Go.Proofs.YtcaejedfjobooaaGreat
open Go
namespace Ev
set_option maxRecDepth 1000000
theorem LoadP_bears2_ok : Q.okRow cfg0 29 112 LoadP_bears2 = true := by kernel_rfl
theorem LoadP_bears2_well : Q.wellRow LoadP_bears2 = true := by kernel_rfl
theorem LoadP_bears13_ok : Q.okRow cfg0 29 112 LoadP_bears13 = true := by kernel_rfl
theorem LoadP_bears13_well : Q.wellRow LoadP_bears13 = true := by kernel_rfl
theorem LoadP_bears82_ok : Q.okRow cfg0 29 112 LoadP_bears82 = true := by kernel_rfl
theorem LoadP_bears82_well : Q.wellRow LoadP_bears82 = true := by kernel_rfl
theorem LoadP_bears26_ok : Q.okRow cfg0 29 112 LoadP_bears26 = true := by kernel_rfl
theorem LoadP_bears26_well : Q.wellRow LoadP_bears26 = true := by kernel_rfl
theorem LoadP_bears5_ok : Q.okRow cfg0 29 112 LoadP_bears5 = true := by kernel_rfl
theorem LoadP_bears5_well : Q.wellRow LoadP_bears5 = true := by kernel_rfl
theorem LoadP_bears17_ok : Q.okRow cfg0 29 112 LoadP_bears17 = true := by kernel_rfl
theorem LoadP_bears17_well : Q.wellRow LoadP_bears17 = true := by kernel_rfl
theorem LoadP_bears12_ok : Q.okRow cfg0 29 112 LoadP_bears12 = true := by kernel_rfl
theorem LoadP_bears12_well : Q.wellRow LoadP_bears12 = true := by kernel_rfl
theorem LoadP_bears31_ok : Q.okRow cfg0 29 112 LoadP_bears31 = true := by kernel_rfl
theorem LoadP_bears31_well : Q.wellRow LoadP_bears31 = true := by kernel_rfl
theorem LoadP_bears80_ok : Q.okRow cfg0 29 112 LoadP_bears80 = true := by kernel_rfl
theorem LoadP_bears80_well : Q.wellRow LoadP_bears80 = true := by kernel_rfl
theorem LoadP_bears33_ok : Q.okRow cfg0 29 112 LoadP_bears33 = true := by kernel_rfl
theorem LoadP_bears33_well : Q.wellRow LoadP_bears33 = true := by kernel_rfl
theorem LoadP_bears37_ok : Q.okRow cfg0 29 112 LoadP_bears37 = true := by kernel_rfl
theorem LoadP_bears37_well : Q.wellRow LoadP_bears37 = true := by kernel_rfl
theorem LoadP_bears41_ok : Q.okRow cfg0 29 112 LoadP_bears41 = true := by kernel_rfl
theorem LoadP_bears41_well : Q.wellRow LoadP_bears41 = true := by kernel_rfl
theorem LoadP_bears45_ok : Q.okRow cfg0 29 112 LoadP_bears45 = true := by kernel_rfl
theorem LoadP_bears45_well : Q.wellRow LoadP_bears45 = true := by kernel_rfl
theorem LoadP_bears49_ok : Q.okRow cfg0 29 112 LoadP_bears49 = true := by kernel_rfl
theorem LoadP_bears49_well : Q.wellRow LoadP_bears49 = true := by kernel_rfl
theorem LoadP_bears53_ok : Q.okRow cfg0 29 112 LoadP_bears53 = true := by kernel_rfl
theorem LoadP_bears53_well : Q.wellRow LoadP_bears53 = true := by kernel_rfl
theorem LoadP_bears57_ok : Q.okRow cfg0 29 112 LoadP_bears57 = true := by kernel_rfl
theorem LoadP_bears57_well : Q.wellRow LoadP_bears57 = true := by kernel_rfl
theorem LoadP_bears61_ok : Q.okRow cfg0 29 112 LoadP_bears61 = true := by kernel_rfl
theorem LoadP_bears61_well : Q.wellRow LoadP_bears61 = true := by kernel_rfl
theorem LoadP_bears65_ok : Q.okRow cfg0 29 112 LoadP_bears65 = true := by kernel_rfl
theorem LoadP_bears65_well : Q.wellRow LoadP_bears65 = true := by kernel_rfl
theorem LoadP_bears69_ok : Q.okRow cfg0 29 112 LoadP_bears69 = true := by kernel_rfl
theorem LoadP_bears69_well : Q.wellRow LoadP_bears69 = true := by kernel_rfl
theorem LoadP_bears73_ok : Q.okRow cfg0 29 112 LoadP_bears73 = true := by kernel_rfl
theorem LoadP_bears73_well : Q.wellRow LoadP_bears73 = true := by kernel_rfl
theorem LoadP_bears77_ok : Q.okRow cfg0 29 112 LoadP_bears77 = true := by kernel_rfl
theorem LoadP_bears77_well : Q.wellRow LoadP_bears77 = true := by kernel_rfl
theorem LoadP_bears83_ok : Q.okRow cfg0 29 112 LoadP_bears83 = true := by kernel_rfl
theorem LoadP_bears83_well : Q.wellRow LoadP_bears83 = true := by kernel_rfl
theorem LoadP_bears88_ok : Q.okRow cfg0 29 112 LoadP_bears88 = true := by kernel_rfl
theorem LoadP_bears88_well : Q.wellRow LoadP_bears88 = true := by kernel_rfl
theorem LoadP_bears92_ok : Q.okRow cfg0 29 112 LoadP_bears92 = true := by kernel_rfl
theorem LoadP_bears92_well : Q.wellRow LoadP_bears92 = true := by kernel_rfl
theorem LoadP_bears96_ok : Q.okRow cfg0 29 112 LoadP_bears96 = true := by kernel_rfl
theorem LoadP_bears96_well : Q.wellRow LoadP_bears96 = true := by kernel_rfl
theorem LoadP_bears100_ok : Q.okRow cfg0 29 112 LoadP_bears100 = true := by kernel_rfl
theorem LoadP_bears100_well : Q.wellRow LoadP_bears100 = true := by kernel_rfl
theorem LoadP_bears104_ok : Q.okRow cfg0 29 112 LoadP_bears104 = true := by kernel_rfl
theorem LoadP_bears104_well : Q.wellRow LoadP_bears104 = true := by kernel_rfl
theorem LoadP_bears108_ok : Q.okRow cfg0 29 112 LoadP_bears108 = true := by kernel_rfl
theorem LoadP_bears108_well : Q.wellRow LoadP_bears108 = true := by kernel_rfl
theorem LoadP_bears112_ok : Q.okRow cfg0 29 112 LoadP_bears112 = true := by kernel_rfl
theorem LoadP_bears112_well : Q.wellRow LoadP_bears112 = true := by kernel_rfl
theorem LoadP_bears117_ok : Q.okRow cfg0 29 112 LoadP_bears117 = true := by kernel_rfl
theorem LoadP_bears117_well : Q.wellRow LoadP_bears117 = true := by kernel_rfl
theorem LoadP_bears121_ok : Q.okRow cfg0 29 112 LoadP_bears121 = true := by kernel_rfl
theorem LoadP_bears121_well : Q.wellRow LoadP_bears121 = true := by kernel_rfl
theorem LoadP_bears125_ok : Q.okRow cfg0 29 112 LoadP_bears125 = true := by kernel_rfl
theorem LoadP_bears125_well : Q.wellRow LoadP_bears125 = true := by kernel_rfl
theorem LoadP_bears129_ok : Q.okRow cfg0 29 112 LoadP_bears129 = true := by kernel_rfl
theorem LoadP_bears129_well : Q.wellRow LoadP_bears129 = true := by kernel_rfl
theorem LoadP_bears133_ok : Q.okRow cfg0 29 112 LoadP_bears133 = true := by kernel_rfl
theorem LoadP_bears133_well : Q.wellRow LoadP_bears133 = true := by kernel_rfl
theorem LoadP_bears137_ok : Q.okRow cfg0 29 112 LoadP_bears137 = true := by kernel_rfl
theorem LoadP_bears137_well : Q.wellRow LoadP_bears137 = true := by kernel_rfl
theorem LoadP_bears141_ok : Q.okRow cfg0 29 112 LoadP_bears141 = true := by kernel_rfl
theorem LoadP_bears141_well : Q.wellRow LoadP_bears141 = true := by kernel_rfl
theorem LoadP_weak0_ok : Q.okRow cfg0 29 50 LoadP_weak0 = true := by kernel_rfl
theorem LoadP_weak0_well : Q.wellRow LoadP_weak0 = true := by kernel_rfl
end Ev
end Go.Proofs.YtcaejedfjobooaaGreat
