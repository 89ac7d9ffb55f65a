/- Rows of the table, run by the kernel. Printed by program. -/
import Derived.Test.YtcaejedfjobooaaGreatLoadDef
import Derived.KernelRfl
namespace Go.Proofs.YtcaejedfjobooaaGreat
open Go
namespace Ev
set_option maxRecDepth 1000000
theorem LoadP_bears1_ok : Q.okRow cfg0 29 112 LoadP_bears1 = true := by kernel_rfl
theorem LoadP_bears1_well : Q.wellRow LoadP_bears1 = true := by kernel_rfl
theorem LoadP_bears8_ok : Q.okRow cfg0 29 112 LoadP_bears8 = true := by kernel_rfl
theorem LoadP_bears8_well : Q.wellRow LoadP_bears8 = true := by kernel_rfl
theorem LoadP_bears21_ok : Q.okRow cfg0 29 112 LoadP_bears21 = true := by kernel_rfl
theorem LoadP_bears21_well : Q.wellRow LoadP_bears21 = true := by kernel_rfl
theorem LoadP_bears14_ok : Q.okRow cfg0 29 112 LoadP_bears14 = true := by kernel_rfl
theorem LoadP_bears14_well : Q.wellRow LoadP_bears14 = true := by kernel_rfl
theorem LoadP_bears27_ok : Q.okRow cfg0 29 112 LoadP_bears27 = true := by kernel_rfl
theorem LoadP_bears27_well : Q.wellRow LoadP_bears27 = true := by kernel_rfl
theorem LoadP_bears6_ok : Q.okRow cfg0 29 112 LoadP_bears6 = true := by kernel_rfl
theorem LoadP_bears6_well : Q.wellRow LoadP_bears6 = true := by kernel_rfl
theorem LoadP_bears18_ok : Q.okRow cfg0 29 112 LoadP_bears18 = true := by kernel_rfl
theorem LoadP_bears18_well : Q.wellRow LoadP_bears18 = true := by kernel_rfl
theorem LoadP_bears28_ok : Q.okRow cfg0 29 112 LoadP_bears28 = true := by kernel_rfl
theorem LoadP_bears28_well : Q.wellRow LoadP_bears28 = true := by kernel_rfl
theorem LoadP_bears11_ok : Q.okRow cfg0 29 112 LoadP_bears11 = true := by kernel_rfl
theorem LoadP_bears11_well : Q.wellRow LoadP_bears11 = true := by kernel_rfl
theorem LoadP_bears16_ok : Q.okRow cfg0 29 112 LoadP_bears16 = true := by kernel_rfl
theorem LoadP_bears16_well : Q.wellRow LoadP_bears16 = true := by kernel_rfl
theorem LoadP_bears34_ok : Q.okRow cfg0 29 112 LoadP_bears34 = true := by kernel_rfl
theorem LoadP_bears34_well : Q.wellRow LoadP_bears34 = true := by kernel_rfl
theorem LoadP_bears38_ok : Q.okRow cfg0 29 112 LoadP_bears38 = true := by kernel_rfl
theorem LoadP_bears38_well : Q.wellRow LoadP_bears38 = true := by kernel_rfl
theorem LoadP_bears42_ok : Q.okRow cfg0 29 112 LoadP_bears42 = true := by kernel_rfl
theorem LoadP_bears42_well : Q.wellRow LoadP_bears42 = true := by kernel_rfl
theorem LoadP_bears46_ok : Q.okRow cfg0 29 112 LoadP_bears46 = true := by kernel_rfl
theorem LoadP_bears46_well : Q.wellRow LoadP_bears46 = true := by kernel_rfl
theorem LoadP_bears50_ok : Q.okRow cfg0 29 112 LoadP_bears50 = true := by kernel_rfl
theorem LoadP_bears50_well : Q.wellRow LoadP_bears50 = true := by kernel_rfl
theorem LoadP_bears54_ok : Q.okRow cfg0 29 112 LoadP_bears54 = true := by kernel_rfl
theorem LoadP_bears54_well : Q.wellRow LoadP_bears54 = true := by kernel_rfl
theorem LoadP_bears58_ok : Q.okRow cfg0 29 112 LoadP_bears58 = true := by kernel_rfl
theorem LoadP_bears58_well : Q.wellRow LoadP_bears58 = true := by kernel_rfl
theorem LoadP_bears62_ok : Q.okRow cfg0 29 112 LoadP_bears62 = true := by kernel_rfl
theorem LoadP_bears62_well : Q.wellRow LoadP_bears62 = true := by kernel_rfl
theorem LoadP_bears66_ok : Q.okRow cfg0 29 112 LoadP_bears66 = true := by kernel_rfl
theorem LoadP_bears66_well : Q.wellRow LoadP_bears66 = true := by kernel_rfl
theorem LoadP_bears70_ok : Q.okRow cfg0 29 112 LoadP_bears70 = true := by kernel_rfl
theorem LoadP_bears70_well : Q.wellRow LoadP_bears70 = true := by kernel_rfl
theorem LoadP_bears74_ok : Q.okRow cfg0 29 112 LoadP_bears74 = true := by kernel_rfl
theorem LoadP_bears74_well : Q.wellRow LoadP_bears74 = true := by kernel_rfl
theorem LoadP_bears78_ok : Q.okRow cfg0 29 112 LoadP_bears78 = true := by kernel_rfl
theorem LoadP_bears78_well : Q.wellRow LoadP_bears78 = true := by kernel_rfl
theorem LoadP_bears84_ok : Q.okRow cfg0 29 112 LoadP_bears84 = true := by kernel_rfl
theorem LoadP_bears84_well : Q.wellRow LoadP_bears84 = true := by kernel_rfl
theorem LoadP_bears89_ok : Q.okRow cfg0 29 112 LoadP_bears89 = true := by kernel_rfl
theorem LoadP_bears89_well : Q.wellRow LoadP_bears89 = true := by kernel_rfl
theorem LoadP_bears93_ok : Q.okRow cfg0 29 112 LoadP_bears93 = true := by kernel_rfl
theorem LoadP_bears93_well : Q.wellRow LoadP_bears93 = true := by kernel_rfl
theorem LoadP_bears97_ok : Q.okRow cfg0 29 112 LoadP_bears97 = true := by kernel_rfl
theorem LoadP_bears97_well : Q.wellRow LoadP_bears97 = true := by kernel_rfl
theorem LoadP_bears101_ok : Q.okRow cfg0 29 112 LoadP_bears101 = true := by kernel_rfl
theorem LoadP_bears101_well : Q.wellRow LoadP_bears101 = true := by kernel_rfl
theorem LoadP_bears105_ok : Q.okRow cfg0 29 112 LoadP_bears105 = true := by kernel_rfl
theorem LoadP_bears105_well : Q.wellRow LoadP_bears105 = true := by kernel_rfl
theorem LoadP_bears109_ok : Q.okRow cfg0 29 112 LoadP_bears109 = true := by kernel_rfl
theorem LoadP_bears109_well : Q.wellRow LoadP_bears109 = true := by kernel_rfl
theorem LoadP_bears114_ok : Q.okRow cfg0 29 112 LoadP_bears114 = true := by kernel_rfl
theorem LoadP_bears114_well : Q.wellRow LoadP_bears114 = true := by kernel_rfl
theorem LoadP_bears118_ok : Q.okRow cfg0 29 112 LoadP_bears118 = true := by kernel_rfl
theorem LoadP_bears118_well : Q.wellRow LoadP_bears118 = true := by kernel_rfl
theorem LoadP_bears122_ok : Q.okRow cfg0 29 112 LoadP_bears122 = true := by kernel_rfl
theorem LoadP_bears122_well : Q.wellRow LoadP_bears122 = true := by kernel_rfl
theorem LoadP_bears126_ok : Q.okRow cfg0 29 112 LoadP_bears126 = true := by kernel_rfl
theorem LoadP_bears126_well : Q.wellRow LoadP_bears126 = true := by kernel_rfl
theorem LoadP_bears130_ok : Q.okRow cfg0 29 112 LoadP_bears130 = true := by kernel_rfl
theorem LoadP_bears130_well : Q.wellRow LoadP_bears130 = true := by kernel_rfl
theorem LoadP_bears134_ok : Q.okRow cfg0 29 112 LoadP_bears134 = true := by kernel_rfl
theorem LoadP_bears134_well : Q.wellRow LoadP_bears134 = true := by kernel_rfl
theorem LoadP_bears138_ok : Q.okRow cfg0 29 112 LoadP_bears138 = true := by kernel_rfl
theorem LoadP_bears138_well : Q.wellRow LoadP_bears138 = true := by kernel_rfl
theorem LoadP_bears143_ok : Q.okRow cfg0 29 112 LoadP_bears143 = true := by kernel_rfl
theorem LoadP_bears143_well : Q.wellRow LoadP_bears143 = true := by kernel_rfl
end Ev
end Go.Proofs.YtcaejedfjobooaaGreat

namespace Go.Proofs.YtcaejedfjobooaaGreat
open Go
namespace Ev
set_option maxRecDepth 1000000
theorem LoadP_bears3_ok : Q.okRow cfg0 29 112 LoadP_bears3 = true := by kernel_rfl
theorem LoadP_bears3_well : Q.wellRow LoadP_bears3 = true := by kernel_rfl
theorem LoadP_bears9_ok : Q.okRow cfg0 29 112 LoadP_bears9 = true := by kernel_rfl
theorem LoadP_bears9_well : Q.wellRow LoadP_bears9 = true := by kernel_rfl
theorem LoadP_bears22_ok : Q.okRow cfg0 29 112 LoadP_bears22 = true := by kernel_rfl
theorem LoadP_bears22_well : Q.wellRow LoadP_bears22 = true := by kernel_rfl
theorem LoadP_bears15_ok : Q.okRow cfg0 29 112 LoadP_bears15 = true := by kernel_rfl
theorem LoadP_bears15_well : Q.wellRow LoadP_bears15 = true := by kernel_rfl
theorem LoadP_bears29_ok : Q.okRow cfg0 29 112 LoadP_bears29 = true := by kernel_rfl
theorem LoadP_bears29_well : Q.wellRow LoadP_bears29 = true := by kernel_rfl
theorem LoadP_bears7_ok : Q.okRow cfg0 29 112 LoadP_bears7 = true := by kernel_rfl
theorem LoadP_bears7_well : Q.wellRow LoadP_bears7 = true := by kernel_rfl
theorem LoadP_bears19_ok : Q.okRow cfg0 29 112 LoadP_bears19 = true := by kernel_rfl
theorem LoadP_bears19_well : Q.wellRow LoadP_bears19 = true := by kernel_rfl
theorem LoadP_bears86_ok : Q.okRow cfg0 29 112 LoadP_bears86 = true := by kernel_rfl
theorem LoadP_bears86_well : Q.wellRow LoadP_bears86 = true := by kernel_rfl
theorem LoadP_bears146_ok : Q.okRow cfg0 29 112 LoadP_bears146 = true := by kernel_rfl
theorem LoadP_bears146_well : Q.wellRow LoadP_bears146 = true := by kernel_rfl
theorem LoadP_bears20_ok : Q.okRow cfg0 29 112 LoadP_bears20 = true := by kernel_rfl
theorem LoadP_bears20_well : Q.wellRow LoadP_bears20 = true := by kernel_rfl
theorem LoadP_bears35_ok : Q.okRow cfg0 29 112 LoadP_bears35 = true := by kernel_rfl
theorem LoadP_bears35_well : Q.wellRow LoadP_bears35 = true := by kernel_rfl
theorem LoadP_bears39_ok : Q.okRow cfg0 29 112 LoadP_bears39 = true := by kernel_rfl
theorem LoadP_bears39_well : Q.wellRow LoadP_bears39 = true := by kernel_rfl
theorem LoadP_bears43_ok : Q.okRow cfg0 29 112 LoadP_bears43 = true := by kernel_rfl
theorem LoadP_bears43_well : Q.wellRow LoadP_bears43 = true := by kernel_rfl
theorem LoadP_bears47_ok : Q.okRow cfg0 29 112 LoadP_bears47 = true := by kernel_rfl
theorem LoadP_bears47_well : Q.wellRow LoadP_bears47 = true := by kernel_rfl
theorem LoadP_bears51_ok : Q.okRow cfg0 29 112 LoadP_bears51 = true := by kernel_rfl
theorem LoadP_bears51_well : Q.wellRow LoadP_bears51 = true := by kernel_rfl
theorem LoadP_bears55_ok : Q.okRow cfg0 29 112 LoadP_bears55 = true := by kernel_rfl
theorem LoadP_bears55_well : Q.wellRow LoadP_bears55 = true := by kernel_rfl
theorem LoadP_bears59_ok : Q.okRow cfg0 29 112 LoadP_bears59 = true := by kernel_rfl
theorem LoadP_bears59_well : Q.wellRow LoadP_bears59 = true := by kernel_rfl
theorem LoadP_bears63_ok : Q.okRow cfg0 29 112 LoadP_bears63 = true := by kernel_rfl
theorem LoadP_bears63_well : Q.wellRow LoadP_bears63 = true := by kernel_rfl
theorem LoadP_bears67_ok : Q.okRow cfg0 29 112 LoadP_bears67 = true := by kernel_rfl
theorem LoadP_bears67_well : Q.wellRow LoadP_bears67 = true := by kernel_rfl
theorem LoadP_bears71_ok : Q.okRow cfg0 29 112 LoadP_bears71 = true := by kernel_rfl
theorem LoadP_bears71_well : Q.wellRow LoadP_bears71 = true := by kernel_rfl
theorem LoadP_bears75_ok : Q.okRow cfg0 29 112 LoadP_bears75 = true := by kernel_rfl
theorem LoadP_bears75_well : Q.wellRow LoadP_bears75 = true := by kernel_rfl
theorem LoadP_bears79_ok : Q.okRow cfg0 29 112 LoadP_bears79 = true := by kernel_rfl
theorem LoadP_bears79_well : Q.wellRow LoadP_bears79 = true := by kernel_rfl
theorem LoadP_bears85_ok : Q.okRow cfg0 29 112 LoadP_bears85 = true := by kernel_rfl
theorem LoadP_bears85_well : Q.wellRow LoadP_bears85 = true := by kernel_rfl
theorem LoadP_bears90_ok : Q.okRow cfg0 29 112 LoadP_bears90 = true := by kernel_rfl
theorem LoadP_bears90_well : Q.wellRow LoadP_bears90 = true := by kernel_rfl
theorem LoadP_bears94_ok : Q.okRow cfg0 29 112 LoadP_bears94 = true := by kernel_rfl
theorem LoadP_bears94_well : Q.wellRow LoadP_bears94 = true := by kernel_rfl
theorem LoadP_bears98_ok : Q.okRow cfg0 29 112 LoadP_bears98 = true := by kernel_rfl
theorem LoadP_bears98_well : Q.wellRow LoadP_bears98 = true := by kernel_rfl
theorem LoadP_bears102_ok : Q.okRow cfg0 29 112 LoadP_bears102 = true := by kernel_rfl
theorem LoadP_bears102_well : Q.wellRow LoadP_bears102 = true := by kernel_rfl
theorem LoadP_bears106_ok : Q.okRow cfg0 29 112 LoadP_bears106 = true := by kernel_rfl
theorem LoadP_bears106_well : Q.wellRow LoadP_bears106 = true := by kernel_rfl
theorem LoadP_bears110_ok : Q.okRow cfg0 29 112 LoadP_bears110 = true := by kernel_rfl
theorem LoadP_bears110_well : Q.wellRow LoadP_bears110 = true := by kernel_rfl
theorem LoadP_bears115_ok : Q.okRow cfg0 29 112 LoadP_bears115 = true := by kernel_rfl
theorem LoadP_bears115_well : Q.wellRow LoadP_bears115 = true := by kernel_rfl
theorem LoadP_bears119_ok : Q.okRow cfg0 29 112 LoadP_bears119 = true := by kernel_rfl
theorem LoadP_bears119_well : Q.wellRow LoadP_bears119 = true := by kernel_rfl
theorem LoadP_bears123_ok : Q.okRow cfg0 29 112 LoadP_bears123 = true := by kernel_rfl
theorem LoadP_bears123_well : Q.wellRow LoadP_bears123 = true := by kernel_rfl
theorem LoadP_bears127_ok : Q.okRow cfg0 29 112 LoadP_bears127 = true := by kernel_rfl
theorem LoadP_bears127_well : Q.wellRow LoadP_bears127 = true := by kernel_rfl
theorem LoadP_bears131_ok : Q.okRow cfg0 29 112 LoadP_bears131 = true := by kernel_rfl
theorem LoadP_bears131_well : Q.wellRow LoadP_bears131 = true := by kernel_rfl
theorem LoadP_bears135_ok : Q.okRow cfg0 29 112 LoadP_bears135 = true := by kernel_rfl
theorem LoadP_bears135_well : Q.wellRow LoadP_bears135 = true := by kernel_rfl
theorem LoadP_bears139_ok : Q.okRow cfg0 29 112 LoadP_bears139 = true := by kernel_rfl
theorem LoadP_bears139_well : Q.wellRow LoadP_bears139 = true := by kernel_rfl
theorem LoadP_bears144_ok : Q.okRow cfg0 29 112 LoadP_bears144 = true := by kernel_rfl
theorem LoadP_bears144_well : Q.wellRow LoadP_bears144 = true := by kernel_rfl
end Ev
end Go.Proofs.YtcaejedfjobooaaGreat
