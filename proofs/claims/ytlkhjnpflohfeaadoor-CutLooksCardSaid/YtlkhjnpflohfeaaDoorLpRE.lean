/- The Go function CutLooks returns true, for every argument, in every world in which cut.dry holds what the program's text lays; nothing that was there is turned. -/
import Derived.Test.YtlkhjnpflohfeaaDoorLpPA
import Derived.Test.YtlkhjnpflohfeaaDoorLpRD
import Derived.Test.YtlkhjnpflohfeaaDoorProg
import Derived.KernelRfl
import Derived.Test.YtlkhjnpflohfeaaDoorLpPD
import Derived.Test.YtlkhjnpflohfeaaDoorLpQC
import Derived.OpenShut
import Derived.Deep.Slices
import Derived.Deep.Fields
import Derived.ChangeSame
import Derived.Test.YtlkhjnpflohfeaaDoorRows
import Derived.LaidLaws
import Derived.ProofKit
import Derived.JoinedOf
import Derived.LaidHandle
import Derived.Stop.Joined
import Derived.Test.YtlkhjnpflohfeaaDoorCards
import Derived.Test.YtlkhjnpflohfeaaDoorTie
import Derived.SevenTiedAt
/- The code of the sort, for the evaluator. Printed by program. -/
namespace Go.Proofs.YtlkhjnpflohfeaaDoor
open Go
namespace Ev
def af92 : AFunc := ⟨63, [], (.seq (.ops [⟨0, (some 6), (.mov (.val (.int .i64 20))), none, 0⟩]) (.seq (.ops [⟨0, (some 10), (.mov (.tmp 6)), none, 0⟩, ⟨1, (some 7), (.mov (.val (.int .i64 0))), none, 0⟩, ⟨2, (some 8), (.mov (.tmp 10)), none, 0⟩]) (.seq (.block 0 (.loop [0, 1, 2, 6, 7, 8] (.seq (.seq (.ops [⟨0, (some 11), (.mov (.tmp 8)), none, 0⟩, ⟨1, (some 12), (.mov (.tmp 1)), none, 0⟩, ⟨2, (some 13), (.bin .leq (.tmp 11) (.tmp 12)), none, 0⟩]) (.cond (.tmp 13) .skip (.exit 0))) (.block 1 (.seq (.ops [⟨0, (some 14), (.mov (.tmp 0)), none, 0⟩, ⟨1, (some 15), (.mov (.tmp 7)), none, 0⟩, ⟨2, (some 16), (.mov (.tmp 8)), none, 0⟩, ⟨3, (some 17), (.mov (.tmp 2)), none, 0⟩, ⟨4, (some 18), (.call (.val (.fn (Fn.func 97) [] [])) [(.tmp 14), (.tmp 15), (.tmp 16), (.tmp 17)]), none, 0⟩]) (.seq (.ops [⟨0, (some 19), (.mov (.tmp 8)), none, 0⟩, ⟨1, (some 7), (.mov (.tmp 19)), none, 0⟩]) (.ops [⟨0, (some 20), (.mov (.tmp 8)), none, 0⟩, ⟨1, (some 21), (.mov (.tmp 6)), none, 0⟩, ⟨2, (some 22), (.bin .add (.tmp 20) (.tmp 21)), none, 0⟩, ⟨3, (some 8), (.mov (.tmp 22)), none, 0⟩]))))))) (.seq (.ops [⟨0, (some 23), (.mov (.tmp 0)), none, 0⟩, ⟨1, (some 24), (.mov (.tmp 7)), none, 0⟩, ⟨2, (some 25), (.mov (.tmp 1)), none, 0⟩, ⟨3, (some 26), (.mov (.tmp 2)), none, 0⟩, ⟨4, (some 27), (.call (.val (.fn (Fn.func 97) [] [])) [(.tmp 23), (.tmp 24), (.tmp 25), (.tmp 26)]), none, 0⟩]) (.block 2 (.loop [0, 1, 2, 6] (.seq (.seq (.ops [⟨0, (some 28), (.mov (.tmp 6)), none, 0⟩, ⟨1, (some 29), (.mov (.tmp 1)), none, 0⟩, ⟨2, (some 30), (.bin .lss (.tmp 28) (.tmp 29)), none, 0⟩]) (.cond (.tmp 30) .skip (.exit 2))) (.block 3 (.seq (.ops [⟨0, (some 31), (.mov (.tmp 6)), none, 0⟩, ⟨1, (some 32), (.bin .mul (.val (.int .i64 2)) (.tmp 31)), none, 0⟩, ⟨2, (some 7), (.mov (.val (.int .i64 0))), none, 0⟩, ⟨3, (some 8), (.mov (.tmp 32)), none, 0⟩]) (.seq (.block 4 (.loop [0, 1, 2, 6, 7, 8] (.seq (.seq (.ops [⟨0, (some 33), (.mov (.tmp 8)), none, 0⟩, ⟨1, (some 34), (.mov (.tmp 1)), none, 0⟩, ⟨2, (some 35), (.bin .leq (.tmp 33) (.tmp 34)), none, 0⟩]) (.cond (.tmp 35) .skip (.exit 4))) (.block 5 (.seq (.ops [⟨0, (some 36), (.mov (.tmp 0)), none, 0⟩, ⟨1, (some 37), (.mov (.tmp 7)), none, 0⟩, ⟨2, (some 38), (.mov (.tmp 7)), none, 0⟩, ⟨3, (some 39), (.mov (.tmp 6)), none, 0⟩, ⟨4, (some 40), (.bin .add (.tmp 38) (.tmp 39)), none, 0⟩, ⟨5, (some 41), (.mov (.tmp 8)), none, 0⟩, ⟨6, (some 42), (.mov (.tmp 2)), none, 0⟩, ⟨7, (some 43), (.call (.val (.fn (Fn.func 98) [] [])) [(.tmp 36), (.tmp 37), (.tmp 40), (.tmp 41), (.tmp 42)]), none, 0⟩]) (.seq (.ops [⟨0, (some 44), (.mov (.tmp 8)), none, 0⟩, ⟨1, (some 7), (.mov (.tmp 44)), none, 0⟩]) (.ops [⟨0, (some 45), (.mov (.tmp 8)), none, 0⟩, ⟨1, (some 46), (.mov (.tmp 6)), none, 0⟩, ⟨2, (some 47), (.bin .mul (.val (.int .i64 2)) (.tmp 46)), none, 0⟩, ⟨3, (some 48), (.bin .add (.tmp 45) (.tmp 47)), none, 0⟩, ⟨4, (some 8), (.mov (.tmp 48)), none, 0⟩]))))))) (.seq (.seq (.ops [⟨0, (some 49), (.mov (.tmp 7)), none, 0⟩, ⟨1, (some 50), (.mov (.tmp 6)), none, 0⟩, ⟨2, (some 51), (.bin .add (.tmp 49) (.tmp 50)), none, 0⟩, ⟨3, (some 9), (.mov (.tmp 51)), none, 0⟩]) (.seq (.ops [⟨0, (some 52), (.mov (.tmp 9)), none, 0⟩, ⟨1, (some 53), (.mov (.tmp 1)), none, 0⟩, ⟨2, (some 54), (.bin .lss (.tmp 52) (.tmp 53)), none, 0⟩]) (.cond (.tmp 54) (.ops [⟨0, (some 55), (.mov (.tmp 0)), none, 0⟩, ⟨1, (some 56), (.mov (.tmp 7)), none, 0⟩, ⟨2, (some 57), (.mov (.tmp 9)), none, 0⟩, ⟨3, (some 58), (.mov (.tmp 1)), none, 0⟩, ⟨4, (some 59), (.mov (.tmp 2)), none, 0⟩, ⟨5, (some 60), (.call (.val (.fn (Fn.func 98) [] [])) [(.tmp 55), (.tmp 56), (.tmp 57), (.tmp 58), (.tmp 59)]), none, 0⟩]) .skip))) (.ops [⟨0, (some 61), (.mov (.tmp 6)), none, 0⟩, ⟨1, (some 62), (.bin .mul (.tmp 61) (.val (.int .i64 2))), none, 0⟩, ⟨2, (some 6), (.mov (.tmp 62)), none, 0⟩]))))))))))))⟩
def af97 : AFunc := ⟨53, [], (.seq (.ops [⟨0, (some 10), (.mov (.tmp 1)), none, 0⟩, ⟨1, (some 11), (.bin .add (.tmp 10) (.val (.int .i64 1))), none, 0⟩, ⟨2, (some 8), (.mov (.tmp 11)), none, 0⟩]) (.block 0 (.loop [0, 1, 2, 3, 8] (.seq (.seq (.ops [⟨0, (some 12), (.mov (.tmp 8)), none, 0⟩, ⟨1, (some 13), (.mov (.tmp 2)), none, 0⟩, ⟨2, (some 14), (.bin .lss (.tmp 12) (.tmp 13)), none, 0⟩]) (.cond (.tmp 14) .skip (.exit 0))) (.seq (.block 1 (.seq (.ops [⟨0, (some 17), (.mov (.tmp 8)), none, 0⟩, ⟨1, (some 9), (.mov (.tmp 17)), none, 0⟩]) (.block 2 (.loop [0, 1, 2, 3, 8, 9] (.seq (.seq (.draw [⟨0, (some 18), (.mov (.tmp 9)), none, 0⟩, ⟨1, (some 19), (.mov (.tmp 1)), none, 0⟩, ⟨2, (some 20), (.bin .gtr (.tmp 18) (.tmp 19)), none, 3⟩, ⟨3, (some 21), (.mov (.tmp 20)), none, 7⟩, ⟨4, (some 22), (.mov (.tmp 3)), (some (21, true)), 15⟩, ⟨5, (some 23), (.mov (.tmp 0)), (some (21, true)), 15⟩, ⟨6, (some 24), (.mov (.tmp 9)), (some (21, true)), 15⟩, ⟨7, (some 25), (.indexA 1 none (.tmp 23) (.tmp 24)), (some (21, true)), 111⟩, ⟨8, (some 26), (.load none (.tmp 25)), (some (21, true)), 239⟩, ⟨9, (some 27), (.mov (.tmp 0)), (some (21, true)), 15⟩, ⟨10, (some 28), (.mov (.tmp 9)), (some (21, true)), 15⟩, ⟨11, (some 29), (.bin .sub (.tmp 28) (.val (.int .i64 1))), (some (21, true)), 1039⟩, ⟨12, (some 30), (.indexA 1 none (.tmp 27) (.tmp 29)), (some (21, true)), 3599⟩, ⟨13, (some 31), (.load none (.tmp 30)), (some (21, true)), 7695⟩, ⟨14, (some 32), (.call (.tmp 22) [(.tmp 26), (.tmp 31)]), (some (21, true)), 16383⟩, ⟨15, (some 33), (.bin .lss (.tmp 32) (.val (.int .i64 0))), (some (21, true)), 32767⟩, ⟨16, (some 34), (.pick (.tmp 21) (.tmp 33) (.val (.bool false))), none, 65535⟩]) (.cond (.tmp 34) .skip (.exit 2))) (.seq (.block 3 (.draw [⟨0, (some 37), (.mov (.tmp 0)), none, 0⟩, ⟨1, (some 38), (.mov (.tmp 9)), none, 0⟩, ⟨2, (some 39), (.mov (.tmp 0)), none, 0⟩, ⟨3, (some 40), (.mov (.tmp 9)), none, 0⟩, ⟨4, (some 41), (.bin .sub (.tmp 40) (.val (.int .i64 1))), none, 8⟩, ⟨5, (some 42), (.mov (.tmp 0)), none, 0⟩, ⟨6, (some 43), (.mov (.tmp 9)), none, 0⟩, ⟨7, (some 44), (.bin .sub (.tmp 43) (.val (.int .i64 1))), none, 64⟩, ⟨8, (some 45), (.indexA 1 none (.tmp 42) (.tmp 44)), none, 224⟩, ⟨9, (some 46), (.load none (.tmp 45)), none, 480⟩, ⟨10, (some 47), (.mov (.tmp 0)), none, 0⟩, ⟨11, (some 48), (.mov (.tmp 9)), none, 0⟩, ⟨12, (some 49), (.indexA 1 none (.tmp 47) (.tmp 48)), none, 3072⟩, ⟨13, (some 50), (.load none (.tmp 49)), none, 7168⟩, ⟨14, (some 51), (.indexA 1 none (.tmp 37) (.tmp 38)), none, 16355⟩, ⟨15, none, (.store 1 (.tmp 51) (.tmp 46)), none, 32739⟩, ⟨16, (some 52), (.indexA 1 none (.tmp 39) (.tmp 41)), none, 65535⟩, ⟨17, none, (.store 1 (.tmp 52) (.tmp 50)), none, 131071⟩])) (.ops [⟨0, (some 35), (.mov (.tmp 9)), none, 0⟩, ⟨1, (some 36), (.bin .sub (.tmp 35) (.val (.int .i64 1))), none, 0⟩, ⟨2, (some 9), (.mov (.tmp 36)), none, 0⟩]))))))) (.ops [⟨0, (some 15), (.mov (.tmp 8)), none, 0⟩, ⟨1, (some 16), (.bin .add (.tmp 15) (.val (.int .i64 1))), none, 0⟩, ⟨2, (some 8), (.mov (.tmp 16)), none, 0⟩]))))))⟩
def af98 : AFunc := ⟨220, [], (.seq (.seq (.ops [⟨0, (some 25), (.mov (.tmp 2)), none, 0⟩, ⟨1, (some 26), (.mov (.tmp 1)), none, 0⟩, ⟨2, (some 27), (.bin .sub (.tmp 25) (.tmp 26)), none, 0⟩, ⟨3, (some 28), (.bin .eql (.tmp 27) (.val (.int .i64 1))), none, 0⟩]) (.cond (.tmp 28) (.seq (.ops [⟨0, (some 29), (.mov (.tmp 2)), none, 0⟩, ⟨1, (some 10), (.mov (.tmp 29)), none, 0⟩]) (.seq (.ops [⟨0, (some 30), (.mov (.tmp 3)), none, 0⟩, ⟨1, (some 11), (.mov (.tmp 30)), none, 0⟩]) (.seq (.block 0 (.loop [0, 1, 4, 10, 11] (.seq (.seq (.ops [⟨0, (some 31), (.mov (.tmp 10)), none, 0⟩, ⟨1, (some 32), (.mov (.tmp 11)), none, 0⟩, ⟨2, (some 33), (.bin .lss (.tmp 31) (.tmp 32)), none, 0⟩]) (.cond (.tmp 33) .skip (.exit 0))) (.block 1 (.seq (.ops [⟨0, (some 34), (.mov (.tmp 10)), none, 0⟩, ⟨1, (some 35), (.mov (.tmp 11)), none, 0⟩, ⟨2, (some 36), (.bin .add (.tmp 34) (.tmp 35)), none, 0⟩, ⟨3, (some 37), (.conv .u64 (.tmp 36)), none, 0⟩, ⟨4, (some 38), (.bin .shr (.tmp 37) (.val (.int .u64 1))), none, 0⟩, ⟨5, (some 39), (.conv .i64 (.tmp 38)), none, 0⟩, ⟨6, (some 12), (.mov (.tmp 39)), none, 0⟩]) (.seq (.draw [⟨0, (some 40), (.mov (.tmp 4)), none, 0⟩, ⟨1, (some 41), (.mov (.tmp 0)), none, 0⟩, ⟨2, (some 42), (.mov (.tmp 12)), none, 0⟩, ⟨3, (some 43), (.indexA 1 none (.tmp 41) (.tmp 42)), none, 6⟩, ⟨4, (some 44), (.load none (.tmp 43)), none, 14⟩, ⟨5, (some 45), (.mov (.tmp 0)), none, 0⟩, ⟨6, (some 46), (.mov (.tmp 1)), none, 0⟩, ⟨7, (some 47), (.indexA 1 none (.tmp 45) (.tmp 46)), none, 96⟩, ⟨8, (some 48), (.load none (.tmp 47)), none, 224⟩, ⟨9, (some 49), (.call (.tmp 40) [(.tmp 44), (.tmp 48)]), none, 511⟩, ⟨10, (some 50), (.bin .lss (.tmp 49) (.val (.int .i64 0))), none, 1023⟩]) (.cond (.tmp 50) (.ops [⟨0, (some 51), (.mov (.tmp 12)), none, 0⟩, ⟨1, (some 52), (.bin .add (.tmp 51) (.val (.int .i64 1))), none, 0⟩, ⟨2, (some 10), (.mov (.tmp 52)), none, 0⟩]) (.ops [⟨0, (some 53), (.mov (.tmp 12)), none, 0⟩, ⟨1, (some 11), (.mov (.tmp 53)), none, 0⟩])))))))) (.seq (.seq (.ops [⟨0, (some 54), (.mov (.tmp 1)), none, 0⟩, ⟨1, (some 13), (.mov (.tmp 54)), none, 0⟩]) (.block 2 (.loop [0, 10, 13] (.seq (.seq (.ops [⟨0, (some 55), (.mov (.tmp 13)), none, 0⟩, ⟨1, (some 56), (.mov (.tmp 10)), none, 0⟩, ⟨2, (some 57), (.bin .sub (.tmp 56) (.val (.int .i64 1))), none, 0⟩, ⟨3, (some 58), (.bin .lss (.tmp 55) (.tmp 57)), none, 0⟩]) (.cond (.tmp 58) .skip (.exit 2))) (.seq (.block 3 (.draw [⟨0, (some 61), (.mov (.tmp 0)), none, 0⟩, ⟨1, (some 62), (.mov (.tmp 13)), none, 0⟩, ⟨2, (some 63), (.mov (.tmp 0)), none, 0⟩, ⟨3, (some 64), (.mov (.tmp 13)), none, 0⟩, ⟨4, (some 65), (.bin .add (.tmp 64) (.val (.int .i64 1))), none, 8⟩, ⟨5, (some 66), (.mov (.tmp 0)), none, 0⟩, ⟨6, (some 67), (.mov (.tmp 13)), none, 0⟩, ⟨7, (some 68), (.bin .add (.tmp 67) (.val (.int .i64 1))), none, 64⟩, ⟨8, (some 69), (.indexA 1 none (.tmp 66) (.tmp 68)), none, 224⟩, ⟨9, (some 70), (.load none (.tmp 69)), none, 480⟩, ⟨10, (some 71), (.mov (.tmp 0)), none, 0⟩, ⟨11, (some 72), (.mov (.tmp 13)), none, 0⟩, ⟨12, (some 73), (.indexA 1 none (.tmp 71) (.tmp 72)), none, 3072⟩, ⟨13, (some 74), (.load none (.tmp 73)), none, 7168⟩, ⟨14, (some 75), (.indexA 1 none (.tmp 61) (.tmp 62)), none, 16355⟩, ⟨15, none, (.store 1 (.tmp 75) (.tmp 70)), none, 32739⟩, ⟨16, (some 76), (.indexA 1 none (.tmp 63) (.tmp 65)), none, 65535⟩, ⟨17, none, (.store 1 (.tmp 76) (.tmp 74)), none, 131071⟩])) (.ops [⟨0, (some 59), (.mov (.tmp 13)), none, 0⟩, ⟨1, (some 60), (.bin .add (.tmp 59) (.val (.int .i64 1))), none, 0⟩, ⟨2, (some 13), (.mov (.tmp 60)), none, 0⟩])))))) .ret)))) .skip)) (.seq (.seq (.ops [⟨0, (some 77), (.mov (.tmp 3)), none, 0⟩, ⟨1, (some 78), (.mov (.tmp 2)), none, 0⟩, ⟨2, (some 79), (.bin .sub (.tmp 77) (.tmp 78)), none, 0⟩, ⟨3, (some 80), (.bin .eql (.tmp 79) (.val (.int .i64 1))), none, 0⟩]) (.cond (.tmp 80) (.seq (.ops [⟨0, (some 81), (.mov (.tmp 1)), none, 0⟩, ⟨1, (some 14), (.mov (.tmp 81)), none, 0⟩]) (.seq (.ops [⟨0, (some 82), (.mov (.tmp 2)), none, 0⟩, ⟨1, (some 15), (.mov (.tmp 82)), none, 0⟩]) (.seq (.block 4 (.loop [0, 2, 4, 14, 15] (.seq (.seq (.ops [⟨0, (some 83), (.mov (.tmp 14)), none, 0⟩, ⟨1, (some 84), (.mov (.tmp 15)), none, 0⟩, ⟨2, (some 85), (.bin .lss (.tmp 83) (.tmp 84)), none, 0⟩]) (.cond (.tmp 85) .skip (.exit 4))) (.block 5 (.seq (.ops [⟨0, (some 86), (.mov (.tmp 14)), none, 0⟩, ⟨1, (some 87), (.mov (.tmp 15)), none, 0⟩, ⟨2, (some 88), (.bin .add (.tmp 86) (.tmp 87)), none, 0⟩, ⟨3, (some 89), (.conv .u64 (.tmp 88)), none, 0⟩, ⟨4, (some 90), (.bin .shr (.tmp 89) (.val (.int .u64 1))), none, 0⟩, ⟨5, (some 91), (.conv .i64 (.tmp 90)), none, 0⟩, ⟨6, (some 16), (.mov (.tmp 91)), none, 0⟩]) (.seq (.draw [⟨0, (some 92), (.mov (.tmp 4)), none, 0⟩, ⟨1, (some 93), (.mov (.tmp 0)), none, 0⟩, ⟨2, (some 94), (.mov (.tmp 2)), none, 0⟩, ⟨3, (some 95), (.indexA 1 none (.tmp 93) (.tmp 94)), none, 6⟩, ⟨4, (some 96), (.load none (.tmp 95)), none, 14⟩, ⟨5, (some 97), (.mov (.tmp 0)), none, 0⟩, ⟨6, (some 98), (.mov (.tmp 16)), none, 0⟩, ⟨7, (some 99), (.indexA 1 none (.tmp 97) (.tmp 98)), none, 96⟩, ⟨8, (some 100), (.load none (.tmp 99)), none, 224⟩, ⟨9, (some 101), (.call (.tmp 92) [(.tmp 96), (.tmp 100)]), none, 511⟩, ⟨10, (some 102), (.bin .lss (.tmp 101) (.val (.int .i64 0))), none, 1023⟩, ⟨11, (some 103), (.not (.tmp 102)), none, 2047⟩]) (.cond (.tmp 103) (.ops [⟨0, (some 104), (.mov (.tmp 16)), none, 0⟩, ⟨1, (some 105), (.bin .add (.tmp 104) (.val (.int .i64 1))), none, 0⟩, ⟨2, (some 14), (.mov (.tmp 105)), none, 0⟩]) (.ops [⟨0, (some 106), (.mov (.tmp 16)), none, 0⟩, ⟨1, (some 15), (.mov (.tmp 106)), none, 0⟩])))))))) (.seq (.seq (.ops [⟨0, (some 107), (.mov (.tmp 2)), none, 0⟩, ⟨1, (some 17), (.mov (.tmp 107)), none, 0⟩]) (.block 6 (.loop [0, 14, 17] (.seq (.seq (.ops [⟨0, (some 108), (.mov (.tmp 17)), none, 0⟩, ⟨1, (some 109), (.mov (.tmp 14)), none, 0⟩, ⟨2, (some 110), (.bin .gtr (.tmp 108) (.tmp 109)), none, 0⟩]) (.cond (.tmp 110) .skip (.exit 6))) (.seq (.block 7 (.draw [⟨0, (some 113), (.mov (.tmp 0)), none, 0⟩, ⟨1, (some 114), (.mov (.tmp 17)), none, 0⟩, ⟨2, (some 115), (.mov (.tmp 0)), none, 0⟩, ⟨3, (some 116), (.mov (.tmp 17)), none, 0⟩, ⟨4, (some 117), (.bin .sub (.tmp 116) (.val (.int .i64 1))), none, 8⟩, ⟨5, (some 118), (.mov (.tmp 0)), none, 0⟩, ⟨6, (some 119), (.mov (.tmp 17)), none, 0⟩, ⟨7, (some 120), (.bin .sub (.tmp 119) (.val (.int .i64 1))), none, 64⟩, ⟨8, (some 121), (.indexA 1 none (.tmp 118) (.tmp 120)), none, 224⟩, ⟨9, (some 122), (.load none (.tmp 121)), none, 480⟩, ⟨10, (some 123), (.mov (.tmp 0)), none, 0⟩, ⟨11, (some 124), (.mov (.tmp 17)), none, 0⟩, ⟨12, (some 125), (.indexA 1 none (.tmp 123) (.tmp 124)), none, 3072⟩, ⟨13, (some 126), (.load none (.tmp 125)), none, 7168⟩, ⟨14, (some 127), (.indexA 1 none (.tmp 113) (.tmp 114)), none, 16355⟩, ⟨15, none, (.store 1 (.tmp 127) (.tmp 122)), none, 32739⟩, ⟨16, (some 128), (.indexA 1 none (.tmp 115) (.tmp 117)), none, 65535⟩, ⟨17, none, (.store 1 (.tmp 128) (.tmp 126)), none, 131071⟩])) (.ops [⟨0, (some 111), (.mov (.tmp 17)), none, 0⟩, ⟨1, (some 112), (.bin .sub (.tmp 111) (.val (.int .i64 1))), none, 0⟩, ⟨2, (some 17), (.mov (.tmp 112)), none, 0⟩])))))) .ret)))) .skip)) (.seq (.ops [⟨0, (some 129), (.mov (.tmp 1)), none, 0⟩, ⟨1, (some 130), (.mov (.tmp 3)), none, 0⟩, ⟨2, (some 131), (.bin .add (.tmp 129) (.tmp 130)), none, 0⟩, ⟨3, (some 132), (.conv .u64 (.tmp 131)), none, 0⟩, ⟨4, (some 133), (.bin .shr (.tmp 132) (.val (.int .u64 1))), none, 0⟩, ⟨5, (some 134), (.conv .i64 (.tmp 133)), none, 0⟩, ⟨6, (some 18), (.mov (.tmp 134)), none, 0⟩]) (.seq (.ops [⟨0, (some 135), (.mov (.tmp 18)), none, 0⟩, ⟨1, (some 136), (.mov (.tmp 2)), none, 0⟩, ⟨2, (some 137), (.bin .add (.tmp 135) (.tmp 136)), none, 0⟩, ⟨3, (some 19), (.mov (.tmp 137)), none, 0⟩]) (.seq (.ops [⟨0, (some 20), (.mov (.val (.int .i64 0))), none, 0⟩, ⟨1, (some 21), (.mov (.val (.int .i64 0))), none, 0⟩]) (.seq (.seq (.ops [⟨0, (some 138), (.mov (.tmp 2)), none, 0⟩, ⟨1, (some 139), (.mov (.tmp 18)), none, 0⟩, ⟨2, (some 140), (.bin .gtr (.tmp 138) (.tmp 139)), none, 0⟩]) (.cond (.tmp 140) (.seq (.ops [⟨0, (some 141), (.mov (.tmp 19)), none, 0⟩, ⟨1, (some 142), (.mov (.tmp 3)), none, 0⟩, ⟨2, (some 143), (.bin .sub (.tmp 141) (.tmp 142)), none, 0⟩, ⟨3, (some 20), (.mov (.tmp 143)), none, 0⟩]) (.ops [⟨0, (some 144), (.mov (.tmp 18)), none, 0⟩, ⟨1, (some 21), (.mov (.tmp 144)), none, 0⟩])) (.seq (.ops [⟨0, (some 145), (.mov (.tmp 1)), none, 0⟩, ⟨1, (some 20), (.mov (.tmp 145)), none, 0⟩]) (.ops [⟨0, (some 146), (.mov (.tmp 2)), none, 0⟩, ⟨1, (some 21), (.mov (.tmp 146)), none, 0⟩])))) (.seq (.ops [⟨0, (some 147), (.mov (.tmp 19)), none, 0⟩, ⟨1, (some 148), (.bin .sub (.tmp 147) (.val (.int .i64 1))), none, 0⟩, ⟨2, (some 22), (.mov (.tmp 148)), none, 0⟩]) (.seq (.block 8 (.loop [0, 1, 2, 3, 4, 18, 19, 20, 21, 22] (.seq (.seq (.ops [⟨0, (some 149), (.mov (.tmp 20)), none, 0⟩, ⟨1, (some 150), (.mov (.tmp 21)), none, 0⟩, ⟨2, (some 151), (.bin .lss (.tmp 149) (.tmp 150)), none, 0⟩]) (.cond (.tmp 151) .skip (.exit 8))) (.block 9 (.seq (.ops [⟨0, (some 152), (.mov (.tmp 20)), none, 0⟩, ⟨1, (some 153), (.mov (.tmp 21)), none, 0⟩, ⟨2, (some 154), (.bin .add (.tmp 152) (.tmp 153)), none, 0⟩, ⟨3, (some 155), (.conv .u64 (.tmp 154)), none, 0⟩, ⟨4, (some 156), (.bin .shr (.tmp 155) (.val (.int .u64 1))), none, 0⟩, ⟨5, (some 157), (.conv .i64 (.tmp 156)), none, 0⟩, ⟨6, (some 23), (.mov (.tmp 157)), none, 0⟩]) (.seq (.draw [⟨0, (some 158), (.mov (.tmp 4)), none, 0⟩, ⟨1, (some 159), (.mov (.tmp 0)), none, 0⟩, ⟨2, (some 160), (.mov (.tmp 22)), none, 0⟩, ⟨3, (some 161), (.mov (.tmp 23)), none, 0⟩, ⟨4, (some 162), (.bin .sub (.tmp 160) (.tmp 161)), none, 12⟩, ⟨5, (some 163), (.indexA 1 none (.tmp 159) (.tmp 162)), none, 30⟩, ⟨6, (some 164), (.load none (.tmp 163)), none, 62⟩, ⟨7, (some 165), (.mov (.tmp 0)), none, 0⟩, ⟨8, (some 166), (.mov (.tmp 23)), none, 0⟩, ⟨9, (some 167), (.indexA 1 none (.tmp 165) (.tmp 166)), none, 384⟩, ⟨10, (some 168), (.load none (.tmp 167)), none, 896⟩, ⟨11, (some 169), (.call (.tmp 158) [(.tmp 164), (.tmp 168)]), none, 2047⟩, ⟨12, (some 170), (.bin .lss (.tmp 169) (.val (.int .i64 0))), none, 4095⟩, ⟨13, (some 171), (.not (.tmp 170)), none, 8191⟩]) (.cond (.tmp 171) (.ops [⟨0, (some 172), (.mov (.tmp 23)), none, 0⟩, ⟨1, (some 173), (.bin .add (.tmp 172) (.val (.int .i64 1))), none, 0⟩, ⟨2, (some 20), (.mov (.tmp 173)), none, 0⟩]) (.ops [⟨0, (some 174), (.mov (.tmp 23)), none, 0⟩, ⟨1, (some 21), (.mov (.tmp 174)), none, 0⟩])))))))) (.seq (.ops [⟨0, (some 175), (.mov (.tmp 19)), none, 0⟩, ⟨1, (some 176), (.mov (.tmp 20)), none, 0⟩, ⟨2, (some 177), (.bin .sub (.tmp 175) (.tmp 176)), none, 0⟩, ⟨3, (some 24), (.mov (.tmp 177)), none, 0⟩]) (.seq (.seq (.ops [⟨0, (some 178), (.mov (.tmp 20)), none, 0⟩, ⟨1, (some 179), (.mov (.tmp 2)), none, 0⟩, ⟨2, (some 180), (.bin .lss (.tmp 178) (.tmp 179)), none, 0⟩, ⟨3, (some 181), (.mov (.tmp 180)), none, 0⟩, ⟨4, (some 182), (.mov (.tmp 2)), (some (181, true)), 0⟩, ⟨5, (some 183), (.mov (.tmp 24)), (some (181, true)), 0⟩, ⟨6, (some 184), (.bin .lss (.tmp 182) (.tmp 183)), (some (181, true)), 0⟩, ⟨7, (some 185), (.pick (.tmp 181) (.tmp 184) (.val (.bool false))), none, 0⟩]) (.cond (.tmp 185) (.ops [⟨0, (some 186), (.mov (.tmp 0)), none, 0⟩, ⟨1, (some 187), (.mov (.tmp 20)), none, 0⟩, ⟨2, (some 188), (.mov (.tmp 2)), none, 0⟩, ⟨3, (some 189), (.mov (.tmp 24)), none, 0⟩, ⟨4, (some 190), (.mov (.tmp 4)), none, 0⟩, ⟨5, (some 191), (.call (.val (.fn (Fn.func 101) [] [])) [(.tmp 186), (.tmp 187), (.tmp 188), (.tmp 189), (.tmp 190)]), none, 0⟩]) .skip)) (.seq (.seq (.ops [⟨0, (some 192), (.mov (.tmp 1)), none, 0⟩, ⟨1, (some 193), (.mov (.tmp 20)), none, 0⟩, ⟨2, (some 194), (.bin .lss (.tmp 192) (.tmp 193)), none, 0⟩, ⟨3, (some 195), (.mov (.tmp 194)), none, 0⟩, ⟨4, (some 196), (.mov (.tmp 20)), (some (195, true)), 0⟩, ⟨5, (some 197), (.mov (.tmp 18)), (some (195, true)), 0⟩, ⟨6, (some 198), (.bin .lss (.tmp 196) (.tmp 197)), (some (195, true)), 0⟩, ⟨7, (some 199), (.pick (.tmp 195) (.tmp 198) (.val (.bool false))), none, 0⟩]) (.cond (.tmp 199) (.ops [⟨0, (some 200), (.mov (.tmp 0)), none, 0⟩, ⟨1, (some 201), (.mov (.tmp 1)), none, 0⟩, ⟨2, (some 202), (.mov (.tmp 20)), none, 0⟩, ⟨3, (some 203), (.mov (.tmp 18)), none, 0⟩, ⟨4, (some 204), (.mov (.tmp 4)), none, 0⟩, ⟨5, (some 205), (.call (.val (.fn (Fn.func 98) [] [])) [(.tmp 200), (.tmp 201), (.tmp 202), (.tmp 203), (.tmp 204)]), none, 0⟩]) .skip)) (.seq (.ops [⟨0, (some 206), (.mov (.tmp 18)), none, 0⟩, ⟨1, (some 207), (.mov (.tmp 24)), none, 0⟩, ⟨2, (some 208), (.bin .lss (.tmp 206) (.tmp 207)), none, 0⟩, ⟨3, (some 209), (.mov (.tmp 208)), none, 0⟩, ⟨4, (some 210), (.mov (.tmp 24)), (some (209, true)), 0⟩, ⟨5, (some 211), (.mov (.tmp 3)), (some (209, true)), 0⟩, ⟨6, (some 212), (.bin .lss (.tmp 210) (.tmp 211)), (some (209, true)), 0⟩, ⟨7, (some 213), (.pick (.tmp 209) (.tmp 212) (.val (.bool false))), none, 0⟩]) (.cond (.tmp 213) (.ops [⟨0, (some 214), (.mov (.tmp 0)), none, 0⟩, ⟨1, (some 215), (.mov (.tmp 18)), none, 0⟩, ⟨2, (some 216), (.mov (.tmp 24)), none, 0⟩, ⟨3, (some 217), (.mov (.tmp 3)), none, 0⟩, ⟨4, (some 218), (.mov (.tmp 4)), none, 0⟩, ⟨5, (some 219), (.call (.val (.fn (Fn.func 98) [] [])) [(.tmp 214), (.tmp 215), (.tmp 216), (.tmp 217), (.tmp 218)]), none, 0⟩]) .skip)))))))))))))⟩
def af101 : AFunc := ⟨58, [], (.seq (.ops [⟨0, (some 12), (.mov (.tmp 2)), none, 0⟩, ⟨1, (some 13), (.mov (.tmp 1)), none, 0⟩, ⟨2, (some 14), (.bin .sub (.tmp 12) (.tmp 13)), none, 0⟩, ⟨3, (some 10), (.mov (.tmp 14)), none, 0⟩]) (.seq (.ops [⟨0, (some 15), (.mov (.tmp 3)), none, 0⟩, ⟨1, (some 16), (.mov (.tmp 2)), none, 0⟩, ⟨2, (some 17), (.bin .sub (.tmp 15) (.tmp 16)), none, 0⟩, ⟨3, (some 11), (.mov (.tmp 17)), none, 0⟩]) (.seq (.block 0 (.loop [0, 2, 4, 10, 11] (.seq (.seq (.ops [⟨0, (some 18), (.mov (.tmp 10)), none, 0⟩, ⟨1, (some 19), (.mov (.tmp 11)), none, 0⟩, ⟨2, (some 20), (.bin .neq (.tmp 18) (.tmp 19)), none, 0⟩]) (.cond (.tmp 20) .skip (.exit 0))) (.block 1 (.seq (.ops [⟨0, (some 21), (.mov (.tmp 10)), none, 0⟩, ⟨1, (some 22), (.mov (.tmp 11)), none, 0⟩, ⟨2, (some 23), (.bin .gtr (.tmp 21) (.tmp 22)), none, 0⟩]) (.cond (.tmp 23) (.seq (.ops [⟨0, (some 24), (.mov (.tmp 0)), none, 0⟩, ⟨1, (some 25), (.mov (.tmp 2)), none, 0⟩, ⟨2, (some 26), (.mov (.tmp 10)), none, 0⟩, ⟨3, (some 27), (.bin .sub (.tmp 25) (.tmp 26)), none, 0⟩, ⟨4, (some 28), (.mov (.tmp 2)), none, 0⟩, ⟨5, (some 29), (.mov (.tmp 11)), none, 0⟩, ⟨6, (some 30), (.mov (.tmp 4)), none, 0⟩, ⟨7, (some 31), (.call (.val (.fn (Fn.func 104) [] [])) [(.tmp 24), (.tmp 27), (.tmp 28), (.tmp 29), (.tmp 30)]), none, 0⟩]) (.ops [⟨0, (some 32), (.mov (.tmp 10)), none, 0⟩, ⟨1, (some 33), (.mov (.tmp 11)), none, 0⟩, ⟨2, (some 34), (.bin .sub (.tmp 32) (.tmp 33)), none, 0⟩, ⟨3, (some 10), (.mov (.tmp 34)), none, 0⟩])) (.seq (.ops [⟨0, (some 35), (.mov (.tmp 0)), none, 0⟩, ⟨1, (some 36), (.mov (.tmp 2)), none, 0⟩, ⟨2, (some 37), (.mov (.tmp 10)), none, 0⟩, ⟨3, (some 38), (.bin .sub (.tmp 36) (.tmp 37)), none, 0⟩, ⟨4, (some 39), (.mov (.tmp 2)), none, 0⟩, ⟨5, (some 40), (.mov (.tmp 11)), none, 0⟩, ⟨6, (some 41), (.bin .add (.tmp 39) (.tmp 40)), none, 0⟩, ⟨7, (some 42), (.mov (.tmp 10)), none, 0⟩, ⟨8, (some 43), (.bin .sub (.tmp 41) (.tmp 42)), none, 0⟩, ⟨9, (some 44), (.mov (.tmp 10)), none, 0⟩, ⟨10, (some 45), (.mov (.tmp 4)), none, 0⟩, ⟨11, (some 46), (.call (.val (.fn (Fn.func 104) [] [])) [(.tmp 35), (.tmp 38), (.tmp 43), (.tmp 44), (.tmp 45)]), none, 0⟩]) (.ops [⟨0, (some 47), (.mov (.tmp 11)), none, 0⟩, ⟨1, (some 48), (.mov (.tmp 10)), none, 0⟩, ⟨2, (some 49), (.bin .sub (.tmp 47) (.tmp 48)), none, 0⟩, ⟨3, (some 11), (.mov (.tmp 49)), none, 0⟩])))))))) (.ops [⟨0, (some 50), (.mov (.tmp 0)), none, 0⟩, ⟨1, (some 51), (.mov (.tmp 2)), none, 0⟩, ⟨2, (some 52), (.mov (.tmp 10)), none, 0⟩, ⟨3, (some 53), (.bin .sub (.tmp 51) (.tmp 52)), none, 0⟩, ⟨4, (some 54), (.mov (.tmp 2)), none, 0⟩, ⟨5, (some 55), (.mov (.tmp 10)), none, 0⟩, ⟨6, (some 56), (.mov (.tmp 4)), none, 0⟩, ⟨7, (some 57), (.call (.val (.fn (Fn.func 104) [] [])) [(.tmp 50), (.tmp 53), (.tmp 54), (.tmp 55), (.tmp 56)]), none, 0⟩]))))⟩
def af104 : AFunc := ⟨38, [], (.seq (.ops [⟨0, (some 10), (.mov (.val (.int .i64 0))), none, 0⟩]) (.block 0 (.loop [0, 1, 2, 3, 10] (.seq (.seq (.ops [⟨0, (some 11), (.mov (.tmp 10)), none, 0⟩, ⟨1, (some 12), (.mov (.tmp 3)), none, 0⟩, ⟨2, (some 13), (.bin .lss (.tmp 11) (.tmp 12)), none, 0⟩]) (.cond (.tmp 13) .skip (.exit 0))) (.seq (.block 1 (.draw [⟨0, (some 16), (.mov (.tmp 0)), none, 0⟩, ⟨1, (some 17), (.mov (.tmp 1)), none, 0⟩, ⟨2, (some 18), (.mov (.tmp 10)), none, 0⟩, ⟨3, (some 19), (.bin .add (.tmp 17) (.tmp 18)), none, 6⟩, ⟨4, (some 20), (.mov (.tmp 0)), none, 0⟩, ⟨5, (some 21), (.mov (.tmp 2)), none, 0⟩, ⟨6, (some 22), (.mov (.tmp 10)), none, 0⟩, ⟨7, (some 23), (.bin .add (.tmp 21) (.tmp 22)), none, 96⟩, ⟨8, (some 24), (.mov (.tmp 0)), none, 0⟩, ⟨9, (some 25), (.mov (.tmp 2)), none, 0⟩, ⟨10, (some 26), (.mov (.tmp 10)), none, 0⟩, ⟨11, (some 27), (.bin .add (.tmp 25) (.tmp 26)), none, 1536⟩, ⟨12, (some 28), (.indexA 1 none (.tmp 24) (.tmp 27)), none, 3840⟩, ⟨13, (some 29), (.load none (.tmp 28)), none, 7936⟩, ⟨14, (some 30), (.mov (.tmp 0)), none, 0⟩, ⟨15, (some 31), (.mov (.tmp 1)), none, 0⟩, ⟨16, (some 32), (.mov (.tmp 10)), none, 0⟩, ⟨17, (some 33), (.bin .add (.tmp 31) (.tmp 32)), none, 98304⟩, ⟨18, (some 34), (.indexA 1 none (.tmp 30) (.tmp 33)), none, 245760⟩, ⟨19, (some 35), (.load none (.tmp 34)), none, 507904⟩, ⟨20, (some 36), (.indexA 1 none (.tmp 16) (.tmp 19)), none, 1048335⟩, ⟨21, none, (.store 1 (.tmp 36) (.tmp 29)), none, 2096911⟩, ⟨22, (some 37), (.indexA 1 none (.tmp 20) (.tmp 23)), none, 4194303⟩, ⟨23, none, (.store 1 (.tmp 37) (.tmp 35)), none, 8388607⟩])) (.ops [⟨0, (some 14), (.mov (.tmp 10)), none, 0⟩, ⟨1, (some 15), (.bin .add (.tmp 14) (.val (.int .i64 1))), none, 0⟩, ⟨2, (some 10), (.mov (.tmp 15)), none, 0⟩]))))))⟩
end Ev
end Go.Proofs.YtlkhjnpflohfeaaDoor

/- The evaluator's code of the sort is that of the program. Printed by program. -/
namespace Go.Proofs.YtlkhjnpflohfeaaDoor
open Go Go.Proofs
namespace Ev
set_option maxRecDepth 1000000
def sortTree : FT := (.node 98 af98 (.node 97 af97 (.node 92 af92 .leaf .leaf) .leaf) (.node 104 af104 (.node 101 af101 .leaf .leaf) .leaf))
theorem srt92 : ∃ F, Tryd.prog.funcs[92]? = some F ∧ (F.name == "runtime.NumGoroutine") = false ∧ compFn Tryd.prog F = some af92.strip := ⟨_, Tryd.func92, by kernel_rfl, by kernel_rfl⟩
theorem srt97 : ∃ F, Tryd.prog.funcs[97]? = some F ∧ (F.name == "runtime.NumGoroutine") = false ∧ compFn Tryd.prog F = some af97.strip := ⟨_, Tryd.func97, by kernel_rfl, by kernel_rfl⟩
theorem srt98 : ∃ F, Tryd.prog.funcs[98]? = some F ∧ (F.name == "runtime.NumGoroutine") = false ∧ compFn Tryd.prog F = some af98.strip := ⟨_, Tryd.func98, by kernel_rfl, by kernel_rfl⟩
theorem srt101 : ∃ F, Tryd.prog.funcs[101]? = some F ∧ (F.name == "runtime.NumGoroutine") = false ∧ compFn Tryd.prog F = some af101.strip := ⟨_, Tryd.func101, by kernel_rfl, by kernel_rfl⟩
theorem srt104 : ∃ F, Tryd.prog.funcs[104]? = some F ∧ (F.name == "runtime.NumGoroutine") = false ∧ compFn Tryd.prog F = some af104.strip := ⟨_, Tryd.func104, by kernel_rfl, by kernel_rfl⟩
theorem sort_is : FT.All (fun k af => ∃ F, Tryd.prog.funcs[k]? = some F ∧ (F.name == "runtime.NumGoroutine") = false ∧ compFn Tryd.prog F = some af.strip) sortTree :=
  ⟨srt98, ⟨srt97, ⟨srt92, trivial, trivial⟩, trivial⟩, ⟨srt104, ⟨srt101, trivial, trivial⟩, trivial⟩⟩
end Ev
end Go.Proofs.YtlkhjnpflohfeaaDoor

/- The stable sort of Go's library, of 32 sets: found by the evaluator. -/
namespace Go.Proofs.YtlkhjnpflohfeaaDoor
open Go Go.Proofs Go.RowKit
namespace Ev
set_option maxRecDepth 100000
noncomputable def smallN (x : Int) : Option Nat := Int.rec (fun n => Bool.rec none (some n) (Nat.ble n 1023)) (fun _ => none) x
noncomputable def bySizeG (args : List AV) : Option AV := match args with
  | [.int .u64 a, .int .u64 b] => (match smallN a, smallN b with | some m, some n => some (.int .i64 (Srt.bySize m n)) | _, _ => none)
  | _ => none
noncomputable def cfgS : Cfg where
  fns := FT.find sortTree
  glob := fun _ => none
  dfk := fun _ => none
  ext := fun f => Bool.rec none (some bySizeG) (Nat.beq f 74)
  gcAt := 20
  whole := fun _ => true
theorem znb {x : Int} {n : Nat} (h : smallN x = some n) : x = n ∧ n < 1024 := by
  cases x with
  | ofNat m =>
    have e : smallN (Int.ofNat m) = (Bool.rec none (some m) (Nat.ble m 1023) : Option Nat) := rfl
    rw [e] at h
    cases hb : Nat.ble m 1023 with
    | false => rw [hb] at h; cases h
    | true => rw [hb] at h; cases h; exact ⟨rfl, by have := Nat.le_of_ble_eq_true hb; omega⟩
  | negSucc m => cases h
theorem extS_ok : ∀ f g, cfgS.ext f = some g → (∃ F, Tryd.prog.funcs[f]? = some F ∧ (F.name == "runtime.NumGoroutine") = false ∧ F.body.isNone = false) ∧
    ∀ (args : List AV) (v : AV) (rargs : Array Value) (W : World) (L : Nat → Prop) (μ : Mu), g args = some v → VL W L μ args rargs.toList →
      CallsIn Fence.wide 0 Tryd.prog f rargs W fun e W' => (∃ w, e = .returned w ∧ ∀ W L μ, VR W L μ v w) ∧ Below W.heap.size W W' := by
  intro f g h
  have e : cfgS.ext f = (Bool.rec none (some bySizeG) (Nat.beq f 74) : Option (List AV → Option AV)) := rfl
  rw [e] at h
  cases hb : Nat.beq f 74 with
  | false => rw [hb] at h; cases h
  | true =>
    rw [hb] at h
    cases h
    obtain rfl := Nat.eq_of_beq_eq_true hb
    refine ⟨⟨_, Tryd.func74, by kernel_rfl, by kernel_rfl⟩, fun args v rargs W L μ hg hv => ?_⟩
    unfold bySizeG at hg
    split at hg
    · rename_i a b
      split at hg
      · rename_i m n h1 h2
        cases hg
        obtain ⟨rfl, hm⟩ := znb h1
        obtain ⟨rfl, hn⟩ := znb h2
        obtain ⟨xs, hxs⟩ : ∃ xs, rargs.toList = xs := ⟨_, rfl⟩
        rw [hxs] at hv
        match xs, hv.1, hv with
        | [x0, x1], _, hv =>
          have e0 := vr_int hv.head
          have e1 := vr_int hv.tail.head
          subst e0 e1
          have e : rargs = #[.int .u64 m, .int .u64 n] := Array.ext' hxs
          subst e
          refine (callsIn_wide.2 (zld m n hm hn W)).mono ?_
          rintro e W' ⟨rfl, rfl⟩
          exact ⟨⟨_, rfl, fun _ _ _ => .int⟩, Below.refl _ _⟩
      · cases hg
    · cases hg
theorem tblS : TblOk Tryd.prog cfgS := ⟨fun f fn h => FT.find_all sort_is h, extS_ok, fun _ _ h => (by cases h), fun _ _ _ h => (by cases h)⟩
def setsA : List Nat → List AV := fun l => l.map fun (n : Nat) => .int .u64 (n : Int)
def L32 : List AV := [.int .u64 0, .int .u64 1, .int .u64 2, .int .u64 3, .int .u64 4, .int .u64 5, .int .u64 6, .int .u64 7, .int .u64 8, .int .u64 9, .int .u64 10, .int .u64 11, .int .u64 12, .int .u64 13, .int .u64 14, .int .u64 15, .int .u64 16, .int .u64 17, .int .u64 18, .int .u64 19, .int .u64 20, .int .u64 21, .int .u64 22, .int .u64 23, .int .u64 24, .int .u64 25, .int .u64 26, .int .u64 27, .int .u64 28, .int .u64 29, .int .u64 30, .int .u64 31]
def S32 : List AV := [.int .u64 0, .int .u64 1, .int .u64 2, .int .u64 4, .int .u64 8, .int .u64 16, .int .u64 3, .int .u64 5, .int .u64 6, .int .u64 9, .int .u64 10, .int .u64 12, .int .u64 17, .int .u64 18, .int .u64 20, .int .u64 24, .int .u64 7, .int .u64 11, .int .u64 13, .int .u64 14, .int .u64 19, .int .u64 21, .int .u64 22, .int .u64 25, .int .u64 26, .int .u64 28, .int .u64 15, .int .u64 23, .int .u64 27, .int .u64 29, .int .u64 30, .int .u64 31]
theorem L32_eq : L32 = setsA (List.range 32) := by kernel_rfl
theorem S32_eq : S32 = setsA (Srt.sizeSets 5) := by kernel_rfl
def eqCs : List AV → List AV → Bool
  | [], [] => true
  | .int .u64 a :: l, .int .u64 b :: m => (match a, b with | .ofNat x, .ofNat y => Nat.beq x y && eqCs l m | _, _ => false)
  | _, _ => false
theorem eqCs_of : ∀ {l m : List AV}, eqCs l m = true → l = m := by
  intro l
  induction l with
  | nil => intro m h; unfold eqCs at h; split at h <;> first | rfl | contradiction | (cases h; done)
  | cons v l ih =>
    intro m h
    unfold eqCs at h
    split at h
    · contradiction
    · rename_i a l' b m' e1
      cases e1
      split at h
      · simp only [Bool.and_eq_true] at h
        rw [Nat.eq_of_beq_eq_true h.1, ih h.2]
      · cases h
    · cases h
def argsS : List AV := [.sl 0 0 32 1, .int .i64 32, .fn (.func 74) [] []]
noncomputable def sortedB (o : Option (CRes × List AB × List Nat)) : Bool := match o with
  | some (.ret (.tup []), .cells cs :: _, _) => eqCs cs S32
  | _ => false
theorem zud : sortedB (Ev.call cfgS 12 (.fn (.func 92) [] []) argsS [.cells L32]) = true := by kernel_rfl
theorem sort_found : ∃ H' tc, Ev.call cfgS 12 (.fn (.func 92) [] []) argsS [.cells L32] = some (.ret (.tup []), H', tc) ∧ H'[0]? = some (.cells S32) := by
  have h := zud
  generalize Ev.call cfgS 12 (.fn (.func 92) [] []) argsS [.cells L32] = o at h
  unfold sortedB at h
  split at h
  · exact ⟨_, _, rfl, by rw [eqCs_of h]; rfl⟩
  · cases h
end Ev
theorem ztz : StableOk 32 (List.range 32) (Srt.sizeSets 5) := by
  intro tl A cp w hl hc1 hc2 hd hdA hbl
  obtain ⟨H', tc, hcall, hH'⟩ := Ev.sort_found
  have hok := Ev.call_ok Ev.tblS 12
  have hlen : (dCells tl (List.range 32)).length = 32 + tl.length := by simp [dCells, uCells]
  let μ : Ev.Mu := fun i => if i = 0 then .at A else .no
  have hμ0 : μ 0 = .at A := rfl
  have hμ : ∀ i B, μ i = .at B → i = 0 ∧ B = A := by
    intro i B h
    by_cases h0 : i = 0
    · subst h0; rw [hμ0] at h; cases h; exact ⟨rfl, rfl⟩
    · simp only [μ, if_neg h0] at h; cases h
  have hvals : ∀ (i : Nat) (x : Ev.AV), Ev.L32[i]? = some x → i < 32 ∧ ∃ m : Nat, x = .int .u64 m ∧ m = Srt.at' (List.range 32) i := by
    intro i x hx
    rw [Ev.L32_eq] at hx
    unfold Ev.setsA at hx
    rw [List.getElem?_map] at hx
    obtain ⟨m, h1, rfl⟩ := Option.map_eq_some_iff.1 hx
    have hi := (List.getElem?_eq_some_iff.1 h1).1
    rw [List.length_range] at hi
    exact ⟨hi, m, rfl, by unfold Srt.at'; rw [List.getD_eq_getElem?_getD, h1]; rfl⟩
  have hsim : Ev.Sim Tryd.prog w (fun b => b = A) μ [.cells Ev.L32] := {
    live := fun i B h => by
      obtain ⟨rfl, rfl⟩ := hμ i B h
      refine ⟨rfl, hbl.lt, _, _, rfl, hbl, .cells ?_ ?_⟩
      · rw [Ev.L32_eq]; simp [Ev.setsA, hlen]
      · intro i x r hx hr
        obtain ⟨hi, m, rfl, rfl⟩ := hvals i x hx
        have := zdw tl (List.range 32) i (by simpa using hi)
        rw [List.getElem?_toArray, this] at hr
        cases hr; exact .int
    dead := fun i b h => by
      by_cases h0 : i = 0
      · subst h0; rw [hμ0] at h; cases h
      · simp only [μ, if_neg h0] at h; cases h
    out := fun i h => by
      have : i ≠ 0 := by simp at h; omega
      simp only [μ, if_neg this]
    inj := fun i j B h1 h2 => by rw [(hμ i B h1).1, (hμ j B h2).1]
    lt := fun b h => by rw [h]; exact hbl.lt }
  have hG : Ev.Globs Ev.cfgS w (fun b => b = A) := by
    intro g cs hg
    unfold Ev.globA at hg
    cases hb : Nat.beq g 0 with
    | false => simp only [hb] at hg; cases hg
    | true =>
      simp only [hb] at hg
      cases hg
      obtain rfl := Nat.eq_of_beq_eq_true hb
      refine .rp (fun j => if j = 0 then .int .i64 1048576 else .int .i64 (-1048576)) (fun j x hx => ⟨hdA, ?_⟩) (fun j x hx => ?_)
      · match j, hx with
        | 0, hx => exact hd.c0
        | 1, hx => exact hd.c1
        | j + 2, hx => simp at hx
      · match j, hx with
        | 0, hx => cases hx; exact .int
        | 1, hx => cases hx; exact .int
        | j + 2, hx => simp at hx
  have hfv : ∀ f, Ev.VR w (fun b => b = A) μ (.fn (.func f) [] []) (.func (.func f) #[] #[]) := fun f => .fn (rf := []) (rc := []) (by intro l; simp) rfl (by intro i x r h; simp at h) rfl (by intro i x r h; simp at h)
  have hVL : Ev.VL w (fun b => b = A) μ Ev.argsS [.slice (some ⟨A, 0, none⟩) 32 cp, .int .i64 32, .func (.func 74) #[] #[]] :=
    Ev.VL.cons (.sl hμ0 hc1 hbl (by simp [hlen]; omega)) (Ev.VL.cons .int (Ev.VL.cons (hfv _) Ev.VL.nil))
  obtain ⟨r, W1, h1, h2⟩ := hok.sound (tc0 := []) hcall (Ev.Hp.start (P := Tryd.prog) hsim) hG
    (rf := .func (.func 92) #[] #[]) (rargs := #[.slice (some ⟨A, 0, none⟩) 32 cp, .int .i64 32, .func (.func 74) #[] #[]]) (hfv _) hVL
  have e : (do let d ← Deferred.ofValue (.func (.func 92) #[] #[]) #[.slice (some ⟨A, 0, none⟩) 32 cp, .int .i64 32, .func (.func 74) #[] #[]]; invoke d.target d.args : Sem Next).run Tryd.prog w = .ok (.enter 92 #[.slice (some ⟨A, 0, none⟩) 32 cp, .int .i64 32, .func (.func 74) #[] #[]]) w := by
    simp only [Deferred.ofValue, Sem.run_bind, Sem.run_pure, Result.andThen, invoke]
    exact hok.fn hcall _ _
  rw [e] at h1
  cases h1
  refine callsIn_wide.1 (CallsIn.mono h2 ?_)
  rintro en W' ⟨L', μ', c1, c2, c3, c4, _⟩
  cases en <;> simp only [Ev.CRel] at c1
  rename_i v
  have hv : v = .tuple #[] := by
    cases c1 with
    | dead h => simp [Ev.headRef] at h
    | @tup _ _ rs hl0 _ =>
      match rs, hl0 with
      | [], _ => rfl
  subst hv
  have hm : μ' 0 = .at A := by
    rcases c4 0 (by rw [hμ0]; simp) with h | h
    · rw [h, hμ0]
    · have := c2.sim.dead 0 _ h hH'
      cases this
  obtain ⟨_, _, blk, o, e1, e2, e3⟩ := c2.sim.live 0 A hm
  rw [hH'] at e1
  cases e1
  obtain ⟨o', e4, e5⟩ := c2.shape A _ hbl
  rw [e2] at e4
  cases e4
  obtain ⟨rs', e6, e7⟩ := e5.1 _ _ _ rfl
  subst e6
  cases e3 with
  | cells hsz hcs =>
    refine ⟨rfl, ⟨c2.env.1, c2.env.2.1, c2.env.2.2, c2.size, fun k hk hkA => c2.same k hk fun i _ hi => ?_⟩, rs'.toList.drop 32, ?_⟩
    · exact hkA (hμ i k hi).2
    · unfold Blk dCells
      rw [e2]
      have hS : Ev.S32.length = 32 := by rw [Ev.S32_eq]; kernel_rfl
      have htake : rs'.toList.take 32 = uCells (Srt.sizeSets 5) := by
        apply List.ext_getElem?
        intro i
        by_cases hi : i < 32
        · rw [List.getElem?_take, if_pos hi]
          obtain ⟨x, hx⟩ : ∃ x, Ev.S32[i]? = some x := ⟨_, List.getElem?_eq_getElem (by rw [hS]; exact hi)⟩
          obtain ⟨y, hy⟩ : ∃ y, rs'[i]? = some y := ⟨_, Array.getElem?_eq_getElem (by omega)⟩
          have := hcs i x y hx hy
          rw [Ev.S32_eq] at hx
          unfold Ev.setsA at hx
          rw [List.getElem?_map] at hx
          obtain ⟨m, q1, rfl⟩ := Option.map_eq_some_iff.1 hx
          rw [Ev.vr_int this] at hy
          rw [Array.getElem?_toList, hy]
          unfold uCells
          rw [List.getElem?_map, q1]; rfl
        · rw [List.getElem?_eq_none (by simp; omega), List.getElem?_eq_none (by rw [zcx, show (Srt.sizeSets 5).length = 32 by kernel_rfl]; omega)]
      rw [← htake, List.take_append_drop]
theorem ztj (k : Nat) (hk : k ≤ 5) : StableOk (2 ^ k) (List.range (2 ^ k)) (Srt.sizeSets k) := by
  by_cases h4 : k ≤ 4
  · exact zhu k h4
  · obtain rfl : k = 5 := by omega
    exact ztz
end Go.Proofs.YtlkhjnpflohfeaaDoor

/- The functions of package cut, told to the evaluator by their contracts. -/
namespace Go.Proofs.YtlkhjnpflohfeaaDoor
open Go Go.Proofs Go.RowKit
namespace Ev
set_option maxRecDepth 100000
def sDays (c : CutD) : List Int → Option AV | [b, n] => some (three (daysR c b n)) | _ => none
def sUntil (c : CutD) : List Int → Option AV | [b, n, d] => some (twoA (untilR c b n d)) | _ => none
def sTogether (c : CutD) : List Int → Option AV | [d] => some (twoA (togetherR c d)) | _ => none
def sClash (c : CutD) : List Int → Option AV | [] => some (twoA (clashR c)) | _ => none
def sFine (c : CutD) : List Int → Option AV | [] => some (.bool (fineD c)) | _ => none
def gInts (k : Nat) (args : List AV) (_ : List AB) : Option AV := (intsOf args).bind fun ns => if ns.length = k then some (.agg (ns.map (AV.int .i64))) else none
def gInside (args : List AV) (_ : List AB) : Option AV := match args with | [.int .i64 n, .agg [.int .i64 a, .int .i64 b]] => some (.bool (Cut.within n a b)) | _ => none
theorem days_ok (c : CutD) (ns : List Int) (v : AV) (h : sDays c ns = some v) (ra ba la : Option Addr) (rc bc lc : Nat) (W : World) (hin : CutIn W c ra ba la) :
    Calls Tryd.prog 22 (cutVal c ra ba la rc bc lc :: ns.map (Value.int .i64)).toArray W fun e W' => (∃ w, e = .returned w ∧ ∀ W L μ, VR W L μ v w) ∧ Below W.heap.size W W' := by
  unfold sDays at h
  split at h <;> cases h
  exact (zrm c _ _ ra ba la rc bc lc W hin).mono fun e W' ⟨h1, h2⟩ => ⟨⟨_, h1, zxr _⟩, h2⟩
theorem zxu (c : CutD) (ns : List Int) (v : AV) (h : sUntil c ns = some v) (ra ba la : Option Addr) (rc bc lc : Nat) (W : World) (hin : CutIn W c ra ba la) :
    Calls Tryd.prog 24 (cutVal c ra ba la rc bc lc :: ns.map (Value.int .i64)).toArray W fun e W' => (∃ w, e = .returned w ∧ ∀ W L μ, VR W L μ v w) ∧ Below W.heap.size W W' := by
  unfold sUntil at h
  split at h <;> cases h
  exact (zoo c _ _ _ ra ba la rc bc lc W hin).mono fun e W' ⟨h1, h2⟩ => ⟨⟨_, h1, zos _⟩, h2⟩
theorem zox (c : CutD) (ns : List Int) (v : AV) (h : sTogether c ns = some v) (ra ba la : Option Addr) (rc bc lc : Nat) (W : World) (hin : CutIn W c ra ba la) :
    Calls Tryd.prog 26 (cutVal c ra ba la rc bc lc :: ns.map (Value.int .i64)).toArray W fun e W' => (∃ w, e = .returned w ∧ ∀ W L μ, VR W L μ v w) ∧ Below W.heap.size W W' := by
  unfold sTogether at h
  split at h <;> cases h
  exact (zif c _ ra ba la rc bc lc W hin).mono fun e W' ⟨h1, h2⟩ => ⟨⟨_, h1, zos _⟩, h2⟩
theorem clash_ok (c : CutD) (ns : List Int) (v : AV) (h : sClash c ns = some v) (ra ba la : Option Addr) (rc bc lc : Nat) (W : World) (hin : CutIn W c ra ba la) :
    Calls Tryd.prog 28 (cutVal c ra ba la rc bc lc :: ns.map (Value.int .i64)).toArray W fun e W' => (∃ w, e = .returned w ∧ ∀ W L μ, VR W L μ v w) ∧ Below W.heap.size W W' := by
  unfold sClash at h
  split at h <;> cases h
  exact (zoq c ra ba la rc bc lc W hin fun hv => ztj _ (Cut.valid_of hv).k5).mono fun e W' ⟨h1, h2⟩ => ⟨⟨_, h1, zos _⟩, h2⟩
def exthC (f : Nat) : Option (List AV → List AB → Option AV) :=
  if f = 14 then some (gCut sDepth) else if f = 16 then some (gCut sLeak) else if f = 18 then some (gCut sFloats) else if f = 20 then some (gCut sLoads) else
  if f = 22 then some (gCut sDays) else if f = 24 then some (gCut sUntil) else if f = 26 then some (gCut sTogether) else if f = 28 then some (gCut sClash) else
  if f = 30 then some (gCut sFine) else if f = 34 then some (gCut sFar) else if f = 35 then some (gCut sValid) else if f = 13 then some gAwake else
  if f = 36 then some (gInts 2) else if f = 37 then some (gInts 3) else if f = 33 then some gInside else none
structure Told (C : Cfg) : Prop where
  ext : ∀ f, C.ext f = none
  exth : ∀ f, C.exth f = exthC f
theorem told_call {C : Cfg} (hT : Told C) {n f : Nat} {g : List AV → List AB → Option AV} (hg : exthC f = some g) (args : List AV) (H : List AB) (v : AV) (h : g args H = some v) : Ev.call C (n + 1) (.fn (.func f) [] []) args H = some (.ret v, H, []) := by
  show enter C (Ev.call C n) f ([] ++ args ++ []) H = _
  rw [List.nil_append, List.append_nil]
  have e1 := hT.ext f
  have e2 := (hT.exth f).trans hg
  simp only [enter, e1, e2, h, Option.map_some]
end Ev
end Go.Proofs.YtlkhjnpflohfeaaDoor

/- The reference of chapter 06, as the laws call it. -/
namespace Go.Proofs.YtlkhjnpflohfeaaDoor
open Go Go.Proofs Go.RowKit
namespace Ev
namespace R
set_option maxRecDepth 100000
def exthR (f : Nat) : Option (List AV → List AB → Option AV) :=
  if f = 22 then some (gCut sDays) else if f = 24 then some (gCut sUntil) else if f = 26 then some (gCut sTogether) else if f = 28 then some (gCut sClash) else
  if f = 34 then some (gCut sFar) else if f = 35 then some (gCut sValid) else if f = 13 then some gAwake else none
theorem exthR_ok (C : Cfg) : ∀ f g, exthR f = some g → Known f ∧
    ∀ (args : List AV) (H : List AB) (v : AV) (rargs : Array Value) (W : World) (L : Nat → Prop) (μ : Mu), g args H = some v → VL W L μ args rargs.toList → Sim Tryd.prog W L μ H → Globs C W L →
      CallsIn Fence.wide 0 Tryd.prog f rargs W fun e W' => (∃ w, e = .returned w ∧ VR W' L nomu v w) ∧ Below W.heap.size W W' := by
  intro f g h
  unfold exthR at h
  by_cases hf : f = 22
  · rw [if_pos hf] at h; subst hf; cases h; exact ⟨⟨_, Tryd.func22, by kernel_rfl, by kernel_rfl⟩, zhl days_ok⟩
  rw [if_neg hf] at h; clear hf
  by_cases hf : f = 24
  · rw [if_pos hf] at h; subst hf; cases h; exact ⟨⟨_, Tryd.func24, by kernel_rfl, by kernel_rfl⟩, zhl zxu⟩
  rw [if_neg hf] at h; clear hf
  by_cases hf : f = 26
  · rw [if_pos hf] at h; subst hf; cases h; exact ⟨⟨_, Tryd.func26, by kernel_rfl, by kernel_rfl⟩, zhl zox⟩
  rw [if_neg hf] at h; clear hf
  by_cases hf : f = 28
  · rw [if_pos hf] at h; subst hf; cases h; exact ⟨⟨_, Tryd.func28, by kernel_rfl, by kernel_rfl⟩, zhl clash_ok⟩
  rw [if_neg hf] at h; clear hf
  by_cases hf : f = 34
  · rw [if_pos hf] at h; subst hf; cases h; exact ⟨⟨_, Tryd.func34, by kernel_rfl, by kernel_rfl⟩, zhl far_ok⟩
  rw [if_neg hf] at h; clear hf
  by_cases hf : f = 35
  · rw [if_pos hf] at h; subst hf; cases h; exact ⟨⟨_, Tryd.func35, by kernel_rfl, by kernel_rfl⟩, zhl zxs⟩
  rw [if_neg hf] at h; clear hf
  by_cases hf : f = 13
  · rw [if_pos hf] at h; subst hf; cases h
    refine ⟨⟨_, Tryd.func13, by kernel_rfl, by kernel_rfl⟩, fun args H v rargs W L μ h hv hs hG => ?_⟩
    unfold gAwake at h
    split at h <;> cases h
    obtain rfl := zoy hv
    exact (callsIn_wide.2 (zxh W (zib hG))).mono fun e W' ⟨h1, h2⟩ => ⟨⟨_, h1, .bool⟩, h2⟩
  · rw [if_neg hf] at h; cases h
noncomputable def cfgR : Cfg where
  fns := FT.find fnTreeL
  glob := fun _ => none
  dfk := fun _ => none
  ext := fun _ => none
  exth := exthR
  calm := true
  whole := fun _ => true
theorem tblR : TblOk Tryd.prog cfgR := ⟨fun f fn h => FT.find_all zxw h, fun _ _ h => (by cases h), fun f g h => exthR_ok cfgR f g h, fun _ _ _ h => (by cases h)⟩
theorem zcm {n f : Nat} {g : List AV → List AB → Option AV} (hg : exthR f = some g) (args : List AV) (H : List AB) (v : AV) (h : g args H = some v) : Ev.call cfgR (n + 1) (.fn (.func f) [] []) args H = some (.ret v, H, []) := by
  show enter cfgR (Ev.call cfgR n) f ([] ++ args ++ []) H = _
  rw [List.nil_append, List.append_nil]
  have e1 : cfgR.ext f = none := rfl
  have e2 : cfgR.exth f = some g := hg
  simp only [enter, e1, e2, h, Option.map_some]
theorem apiR (n : Nat) : ApiL (Ev.call cfgR (n + 1)) specApi where
  days hc b n' := zcm rfl _ _ _ (by simp only [gCut, hc]; rfl)
  wait hc b n' d := zcm rfl _ _ _ (by simp only [gCut, hc]; rfl)
  together hc d := zcm rfl _ _ _ (by simp only [gCut, hc]; rfl)
  clash hc := zcm rfl _ _ _ (by simp only [gCut, hc]; rfl)
  awake := zcm rfl _ _ _ rfl
theorem farR (n : Nat) (H : List AB) (a b k l m : Int) (r : List (Int × Int)) (bs : List Boat) (ls : List Look) : Ev.call cfgR (n + 1) (.fn (.func 34) [] []) [.agg [.int .i64 a, .int .i64 b, .int .i64 k, .int .i64 l, .vs 2 (r.map spanE), .int .i64 m, .vs 4 (bs.map boatE), .vs 3 (ls.map lookE)]] H = some (.ret (.bool (farD ⟨(a, b), (k, l), r, m, bs, ls⟩)), H, []) :=
  zcm rfl _ _ _ (by simp only [gCut, zfe]; rfl)
theorem valR (n : Nat) (H : List AB) (a b k l m : Int) (r : List (Int × Int)) (bs : List Boat) (ls : List Look) : Ev.call cfgR (n + 1) (.fn (.func 35) [] []) [.agg [.int .i64 a, .int .i64 b, .int .i64 k, .int .i64 l, .vs 2 (r.map spanE), .int .i64 m, .vs 4 (bs.map boatE), .vs 3 (ls.map lookE)]] H = some (.ret (.bool (Cut.valid ⟨(a, b), (k, l), r, m, bs, ls⟩)), H, []) :=
  zcm rfl _ _ _ (by simp only [gCut, zfe]; rfl)
theorem inR (n : Nat) : InC (Ev.call cfgR (n + 1)) := fun H k a b => zbn rfl rfl rfl (by kernel_rfl) rfl rfl (show (3 : Nat) ≤ 15 by omega) rfl (in_fun cfgR _ k a b H)
theorem powR (n : Nat) : PowerC (Ev.call cfgR (n + 1)) := fun H k hk => zbn rfl rfl rfl (by kernel_rfl) rfl rfl (show (1 : Nat) ≤ 13 by omega) rfl (zun cfgR rfl _ k hk H)
theorem hasR (n : Nat) : HasC (Ev.call cfgR (n + 2)) := fun H s k hs hk => zbn rfl rfl rfl (by kernel_rfl) rfl rfl (show (2 : Nat) ≤ 11 by omega) rfl (has_fun cfgR _ (powR n) s k hs hk H)
theorem nextR (n : Nat) : NextC (Ev.call cfgR (n + 1)) := fun H a b k l m r bs ls u q lk h1 h2 h3 h4 h5 h6 => zbn rfl rfl rfl (by kernel_rfl) rfl rfl (show (4 : Nat) ≤ 18 by omega) rfl (zyq cfgR _ H a b k l m r bs ls u q lk h1 h2 h3 h4 h5 h6)
theorem goesR (n : Nat) : GoesC (Ev.call cfgR (n + 2)) := fun H a b k l m r bs ls V d hd u v lk u0 u1 k0 k1 => zbn rfl rfl rfl (by kernel_rfl) rfl rfl (show (5 : Nat) ≤ 35 by omega) rfl (goes_fun cfgR rfl _ (nextR n) H a b k l m r bs ls V d hd u v lk u0 u1 k0 k1)
theorem fitsR (n : Nat) : FitsC (Ev.call cfgR (n + 3)) := fun H a b k l m r bs ls k5 s d v hs => zbn rfl rfl rfl (by kernel_rfl) rfl rfl (show (4 : Nat) ≤ 43 by omega) rfl (fits_fun cfgR rfl _ (inR (n + 1)) (hasR n) H a b k l m r bs ls k5 s d v hs)
theorem depthsR (n : Nat) : DepthsC (Ev.call cfgR (n + 4)) := zpy rfl ⟨rfl, rfl, by kernel_rfl, rfl⟩ (goesR (n + 1)) (inR (n + 2)) (fitsR n)
theorem waysR (n : Nat) : WaysC (Ev.call cfgR (n + 5)) := zto rfl ⟨rfl, rfl, by kernel_rfl, rfl⟩ (depthsR n)
theorem everyR (n : Nat) : EveryC (Ev.call cfgR (n + 2)) := fun H a b k l m r bs ls h5 => zbn rfl rfl rfl (by kernel_rfl) rfl rfl (show (1 : Nat) ≤ 8 by omega) rfl (zwe cfgR _ (powR n) H a b k l m r bs ls h5)
theorem toldR (n : Nat) : ToldC (Ev.call cfgR (n + 6)) := told_call rfl ⟨rfl, rfl, by kernel_rfl, rfl⟩ ⟨rfl, rfl, by kernel_rfl, rfl⟩ (fun H a b k l m r bs ls => valR (n + 4) H a b k l m r bs ls) (everyR (n + 3)) (waysR n)
theorem dayR (n : Nat) : DayC (Ev.call cfgR (n + 2)) := fun H a b k l m r bs ls d => zbn rfl rfl rfl (by kernel_rfl) rfl rfl (show (2 : Nat) ≤ 10 by omega) rfl (day_fun cfgR _ (inR n) H a b k l m r bs ls d)
theorem boatR (n : Nat) : BoatC (Ev.call cfgR (n + 2)) := fun H a b k l m r bs ls d h => zbn rfl rfl rfl (by kernel_rfl) rfl rfl (show (2 : Nat) ≤ 11 by omega) rfl (boat_fun cfgR _ (inR n) H a b k l m r bs ls d h)
theorem isloR (n : Nat) : LoadsC (Ev.call cfgR (n + 3)) := fun H a b k l m r bs ls d q h => zbn rfl rfl rfl (by kernel_rfl) rfl rfl (show (3 : Nat) ≤ 20 by omega) rfl (zvn cfgR _ (inR (n + 1)) (boatR n) H a b k l m r bs ls d q h)
theorem floR (n : Nat) : FloatsC (Ev.call cfgR (n + 1)) := fun H b hb q lo hi h0 h1 => zbn rfl rfl rfl (by kernel_rfl) rfl rfl (show (3 : Nat) ≤ 29 by omega) rfl (zsr cfgR _ H b hb q lo hi h0 h1)
theorem mostR (n : Nat) : MostC (Ev.call cfgR (n + 2)) := fun H b hb lo hi sure hlh => zbn rfl rfl rfl (by kernel_rfl) rfl rfl (show (3 : Nat) ≤ 23 by omega) rfl (most_fun cfgR rfl _ (floR n) H b hb lo hi sure hlh)
theorem sizeR (n : Nat) : SizeC (Ev.call cfgR (n + 1)) := fun H s hs => zbn rfl rfl rfl (by kernel_rfl) rfl rfl (show (1 : Nat) ≤ 13 by omega) rfl (zyg cfgR rfl _ s hs H)
theorem refR (n : Nat) : RefOkL (Ev.call cfgR (n + 7)) specApi where
  days H a b k l m r bs ls h o q := zil rfl ⟨rfl, rfl, by kernel_rfl, rfl⟩ (show (3 : Nat) ≤ 59 by omega) rfl (days_fun cfgR rfl _ (toldR n) (isloR (n + 3)) (floR (n + 5)) (powR (n + 5)) H a b k l m r bs ls h o q)
  wait H a b k l m r bs ls h o q d := zil rfl ⟨rfl, rfl, by kernel_rfl, rfl⟩ (show (4 : Nat) ≤ 51 by omega) rfl (ztr cfgR rfl _ (toldR n) (dayR (n + 4)) (isloR (n + 3)) (floR (n + 5)) H a b k l m r bs ls h o q d)
  together H a b k l m r bs ls _ d := zil rfl ⟨rfl, rfl, by kernel_rfl, rfl⟩ (show (2 : Nat) ≤ 42 by omega) rfl (zmw cfgR rfl _ (toldR n) (dayR (n + 4)) (mostR (n + 4)) H a b k l m r bs ls d)
  clash H a b k l m r bs ls _ := zil rfl ⟨rfl, rfl, by kernel_rfl, rfl⟩ (show (1 : Nat) ≤ 37 by omega) rfl (zwq cfgR rfl _ a b k l m r bs ls (fun H => valR (n + 5) H a b k l m r bs ls) (everyR (n + 4)) (waysR (n + 1)) (sizeR (n + 5)) H)
theorem heavyR (n : Nat) : HeavyC (Ev.call cfgR (n + 2)) specApi := fun H a b k l m r bs ls q => zbn rfl rfl rfl (by kernel_rfl) rfl rfl (show (2 : Nat) ≤ 17 by omega) rfl (zvv cfgR _ specApi H a b k l m r bs ls q (fun H => farR n H a b k l m r bs ls) (fun H => valR n H a b k l m r bs ls))
theorem far_40 {a b k l m : Int} {r : List (Int × Int)} {bs : List Boat} {ls : List Look} (h : farD ⟨(a, b), (k, l), r, m, bs, ls⟩ = false) : bs.length ≤ 40 := by
  unfold farD at h
  rw [decide_eq_false_iff_not] at h
  simp only at h
  omega
end R
end Ev
end Go.Proofs.YtlkhjnpflohfeaaDoor

/- CutLooks answers true. -/
namespace Go.Proofs.YtlkhjnpflohfeaaDoor
open Go Go.Proofs Go.RowKit
open Ev
set_option maxRecDepth 100000 in
theorem zpm (c : CutD) (o n d : Int) : ∃ H' tc, Ev.call R.cfgR 8 (.fn (.func 4) [] []) [cutA c, .int .i64 o, .int .i64 n, .int .i64 d] [] = some (.ret (.bool true), H', tc) := by
  refine zxo (t := 8) (n := 7) (fn := R.af4) rfl rfl rfl (by kernel_rfl) rfl rfl (show (4 : Nat) ≤ 130 by omega) ?_
  obtain ⟨⟨a, b⟩, ⟨k, l⟩, r, m, bs, ls⟩ := c
  exact R.looks_main R.cfgR _ specApi (R.apiR 6) (R.heavyR 5) (R.refR 0) a b k l m r bs ls (fun h => R.far_40 h) o n d
theorem lawCutLooks (c : CutD) (ra ba la : Option Addr) (rc bc lc : Nat) {W : World} (hin : CutIn W c ra ba la) (h1 : c.rain.length ≤ rc) (h2 : c.boats.length ≤ bc) (h3 : c.looks.length ≤ lc) (x1 : Int) (_wf1 : (Lit.int .i64 x1).wf = true) (x2 : Int) (_wf2 : (Lit.int .i64 x2).wf = true) (x3 : Int) (_wf3 : (Lit.int .i64 x3).wf = true) :
    Calls Tryd.prog 4 #[cutVal c ra ba la rc bc lc, .int .i64 x1, .int .i64 x2, .int .i64 x3] W fun e W' => e = .returned (.bool true) ∧ Below W.heap.size W W' := by
  obtain ⟨H', tc, h⟩ := zpm c x1 x2 x3
  exact callsIn_wide.1 (zxx R.tblR h W (zob hin.dry) (VL.cons (cut_vr hin h1 h2 h3) (VL.cons .int (VL.cons .int (VL.cons .int VL.nil)))))
end Go.Proofs.YtlkhjnpflohfeaaDoor

/- An argument that is a cut: from its reading to its cells. -/
namespace Go.Proofs.YtlkhjnpflohfeaaDoor
open Go Go.Proofs Go.RowKit Go.ChangeShapes Go.WideShapes Go.Deep
section
variable {H : Type} {enc : TypeId × Value → H} {w : World} {base : Nat} {spare : Nat → Bool} {held : Bool} {fuel : Nat} {cs : List Value} {x : DataW H × List MemPlace}

theorem list2 {cs : List Value} (h : cs.length = 2) : ∃ a b, cs = [a, b] := by
  match cs, h with | [a, b], _ => exact ⟨a, b, rfl⟩
theorem list3 {cs : List Value} (h : cs.length = 3) : ∃ a b c, cs = [a, b, c] := by
  match cs, h with | [a, b, c], _ => exact ⟨a, b, c, rfl⟩
theorem list4 {cs : List Value} (h : cs.length = 4) : ∃ a b c d, cs = [a, b, c, d] := by
  match cs, h with | [a, b, c, d], _ => exact ⟨a, b, c, d, rfl⟩
theorem list8 {cs : List Value} (h : cs.length = 8) : ∃ a b c d e f g i, cs = [a, b, c, d, e, f, g, i] := by
  match cs, h with | [a, b, c, d, e, f, g, i], _ => exact ⟨a, b, c, d, e, f, g, i, rfl⟩
theorem zev : Tryd.prog.cellsOf 3 = 1 := by kernel_rfl
theorem zdf : Tryd.prog.cellsOf 23 = 2 := by kernel_rfl
theorem zlc : Tryd.prog.cellsOf 51 = 4 := by kernel_rfl
theorem zlb : Tryd.prog.cellsOf 55 = 3 := by kernel_rfl

theorem trod_i (h : ∃ y, DataW.trod enc Tryd.prog w base spare held fuel 3 cs = some y) : ∃ n, cs = [.int .i64 n] ∧ (Lit.int .i64 n).wf = true := by
  obtain ⟨y, h⟩ := h
  obtain ⟨n, h1, _, h2⟩ := DataW.trod_int Tryd.underlying3 h
  exact ⟨n, h1, h2⟩
theorem zek (h : ∃ y, DataW.trod enc Tryd.prog w base spare held fuel 23 cs = some y) : ∃ a b, cs = [.int .i64 a, .int .i64 b] := by
  obtain ⟨y, h⟩ := h
  obtain ⟨xs, n, rfl, _, hl, hx, hf⟩ := DataW.trod_struct Tryd.underlying23 h
  rw [zdf] at hl
  have hx : xs.length = 2 := hx
  obtain ⟨c0, c1, rfl⟩ := list2 hl
  clear hl
  obtain ⟨a, ha, _⟩ := trod_i ⟨_, (hf 0 _ rfl).trans (List.getElem?_eq_getElem (by omega))⟩
  obtain ⟨b, hb, _⟩ := trod_i ⟨_, (hf 1 _ rfl).trans (List.getElem?_eq_getElem (by omega))⟩
  simp [zev] at ha hb
  exact ⟨a, b, by rw [ha, hb]⟩
theorem ztv (h : ∃ y, DataW.trod enc Tryd.prog w base spare held fuel 51 cs = some y) : ∃ a b p r, cs = [.int .i64 a, .int .i64 b, .int .i64 p, .int .i64 r] := by
  obtain ⟨y, h⟩ := h
  obtain ⟨xs, n, rfl, _, hl, hx, hf⟩ := DataW.trod_struct Tryd.underlying51 h
  rw [zlc] at hl
  have hx : xs.length = 3 := hx
  obtain ⟨c0, c1, c2, c3, rfl⟩ := list4 hl
  clear hl
  obtain ⟨a, b, hab⟩ := zek ⟨_, (hf 0 _ rfl).trans (List.getElem?_eq_getElem (by omega))⟩
  obtain ⟨p, hp, _⟩ := trod_i ⟨_, (hf 1 _ rfl).trans (List.getElem?_eq_getElem (by omega))⟩
  obtain ⟨r, hr, _⟩ := trod_i ⟨_, (hf 2 _ rfl).trans (List.getElem?_eq_getElem (by omega))⟩
  simp [zev, zdf] at hab hp hr
  exact ⟨a, b, p, r, by rw [hab.1, hab.2, hp, hr]⟩
theorem ztu (h : ∃ y, DataW.trod enc Tryd.prog w base spare held fuel 55 cs = some y) : ∃ d a b, cs = [.int .i64 d, .int .i64 a, .int .i64 b] := by
  obtain ⟨y, h⟩ := h
  obtain ⟨xs, n, rfl, _, hl, hx, hf⟩ := DataW.trod_struct Tryd.underlying55 h
  rw [zlb] at hl
  have hx : xs.length = 2 := hx
  obtain ⟨c0, c1, c2, rfl⟩ := list3 hl
  clear hl
  obtain ⟨d, hd, _⟩ := trod_i ⟨_, (hf 0 _ rfl).trans (List.getElem?_eq_getElem (by omega))⟩
  obtain ⟨a, b, hab⟩ := zek ⟨_, (hf 1 _ rfl).trans (List.getElem?_eq_getElem (by omega))⟩
  simp [zev, zdf] at hab hd
  exact ⟨d, a, b, by rw [hab.1, hab.2, hd]⟩

theorem zrj {W : World} {a : Addr} {v : Value} (h : W.cell? a = some v) : a.block < W.heap.size := by
  apply Classical.byContradiction
  intro hn
  have : W.heap[a.block]? = none := by simp; omega
  simp [World.cell?, this] at h

theorem row_of {α : Type} {t e : TypeId} {k : Nat} (d : α) (g : α → List Value) (hk : 0 < k) (hg : ∀ y, (g y).length = k) (ht : Tryd.prog.underlying t = some (.slice e)) (hc : Tryd.prog.cellsOf e = k)
    (he : ∀ (fuel : Nat) (cs : List Value), (∃ y, DataW.trod enc Tryd.prog w base spare held fuel e cs = some y) → ∃ y, cs = g y)
    (h : ∃ y, DataW.trod enc Tryd.prog w base spare held fuel t cs = some y) :
    ∃ (ra : Option Addr) (l : List α) (rc : Nat), cs = [.slice ra l.length rc] ∧ l.length ≤ rc ∧ rc ≤ maxLen ∧ ElemsR w ra l.length k (fun i j => (g (l.getD i d)).getD j undef) := by
  obtain ⟨y, h⟩ := h
  rcases open_slice ht h with ⟨rfl, _⟩ | ⟨a, len, cap, m, n, D, Pl, rfl, hb, hl, hm, hmm, hx, hi⟩
  · exact ⟨none, [], 0, rfl, Nat.le_refl _, Nat.zero_le _, .inl rfl⟩
  · have hml : len ≤ m := by rw [hmm]; split <;> omega
    have : ∀ i, ∃ y : α, i < len → ∀ j, j < k → w.cell? (a.add (i * k + j)) = some ((g y).getD j undef) := by
      intro i
      by_cases hlt : i < len
      · obtain ⟨cs', h1, h2⟩ := hi i (by omega)
        obtain ⟨y, rfl⟩ := he n cs' ⟨_, h2⟩
        rw [hc] at h1
        obtain ⟨_, _, h3⟩ := World.cells?_some h1
        refine ⟨y, fun _ j hj => ?_⟩
        rw [← Go.Deep.add_add, h3 j hj, List.getElem?_eq_getElem (by rw [hg]; exact hj)]
        simp [hg, hj]
      · exact ⟨d, fun h => absurd h hlt⟩
    obtain ⟨f, hf⟩ := Classical.skolem.1 this
    refine ⟨some a, (List.range len).map f, cap, by simp, by simpa using hl, hm, ?_⟩
    by_cases h0 : len = 0
    · exact .inl (by simp [h0])
    · have h00 := hf 0 (by omega) 0 hk
      have hs := World.cell?_spot h00
      have hb := zrj h00
      obtain ⟨b, off, sp⟩ := a
      obtain rfl : sp = none := by simpa [Addr.add] using hs
      have hadd : ∀ u, Addr.add ⟨b, off, none⟩ u = ⟨b, off + u, none⟩ := fun u => by simp [Addr.add]
      rw [hadd] at hb
      refine .inr ⟨b, off, rfl, hb, fun i j hi hj => ?_⟩
      simp only [List.length_map, List.length_range] at hi
      have := hf i hi j hj
      rw [hadd, ← Nat.add_assoc] at this
      rw [this]
      simp [hi]

def spanC (s : Int × Int) : List Value := [.int .i64 s.1, .int .i64 s.2]
def boatC (b : Boat) : List Value := [.int .i64 b.draws.1, .int .i64 b.draws.2, .int .i64 b.per, .int .i64 b.room]
def lookC (l : Look) : List Value := [.int .i64 l.day, .int .i64 l.depth.1, .int .i64 l.depth.2]
theorem zmj {W : World} {ra : Option Addr} {n k : Nat} {f g : Nat → Nat → Value} (h : ElemsR W ra n k f) (he : ∀ i j, i < n → j < k → f i j = g i j) : ElemsR W ra n k g := by
  rcases h with h | ⟨b, off, h1, h2, h3⟩
  · exact .inl h
  · exact .inr ⟨b, off, h1, h2, fun i j hi hj => (h3 i j hi hj).trans (by rw [he i j hi hj])⟩
theorem ztt (h : ∃ y, DataW.trod enc Tryd.prog w base spare held fuel 24 cs = some y) : ∃ (ra : Option Addr) (l : List (Int × Int)) (rc : Nat), cs = [.slice ra l.length rc] ∧ l.length ≤ rc ∧ rc ≤ maxLen ∧ ElemsR w ra l.length 2 (spanCell l) := by
  obtain ⟨ra, l, rc, h1, h2, h3, h4⟩ := row_of (k := 2) (0, 0) spanC (by omega) (fun _ => rfl) Tryd.underlying24 zdf (fun _ _ h => by obtain ⟨a, b, h⟩ := zek h; exact ⟨(a, b), h⟩) h
  refine ⟨ra, l, rc, h1, h2, h3, zmj h4 fun i j _ hj => ?_⟩
  have : j = 0 ∨ j = 1 := by omega
  rcases this with rfl | rfl <;> rfl
theorem zru (h : ∃ y, DataW.trod enc Tryd.prog w base spare held fuel 25 cs = some y) : ∃ (ra : Option Addr) (l : List Boat) (rc : Nat), cs = [.slice ra l.length rc] ∧ l.length ≤ rc ∧ rc ≤ maxLen ∧ ElemsR w ra l.length 4 (boatCell l) := by
  obtain ⟨ra, l, rc, h1, h2, h3, h4⟩ := row_of (k := 4) Cut.nobody boatC (by omega) (fun _ => rfl) Tryd.underlying25 zlc (fun _ _ h => by obtain ⟨a, b, p, r, h⟩ := ztv h; exact ⟨⟨(a, b), p, r⟩, h⟩) h
  refine ⟨ra, l, rc, h1, h2, h3, zmj h4 fun i j _ hj => ?_⟩
  have : j = 0 ∨ j = 1 ∨ j = 2 ∨ j = 3 := by omega
  rcases this with rfl | rfl | rfl | rfl <;> rfl
theorem zrt (h : ∃ y, DataW.trod enc Tryd.prog w base spare held fuel 26 cs = some y) : ∃ (ra : Option Addr) (l : List Look) (rc : Nat), cs = [.slice ra l.length rc] ∧ l.length ≤ rc ∧ rc ≤ maxLen ∧ ElemsR w ra l.length 3 (lookCell l) := by
  obtain ⟨ra, l, rc, h1, h2, h3, h4⟩ := row_of (k := 3) Cut.noLook lookC (by omega) (fun _ => rfl) Tryd.underlying26 zlb (fun _ _ h => by obtain ⟨d, a, b, h⟩ := ztu h; exact ⟨⟨d, (a, b)⟩, h⟩) h
  refine ⟨ra, l, rc, h1, h2, h3, zmj h4 fun i j _ hj => ?_⟩
  have : j = 0 ∨ j = 1 ∨ j = 2 := by omega
  rcases this with rfl | rfl | rfl <;> rfl

theorem zwt : Tryd.prog.cellsOf 28 = 8 := by kernel_rfl
theorem ztd : Tryd.prog.cellsOf 24 = 1 := by kernel_rfl
theorem zqf : Tryd.prog.cellsOf 25 = 1 := by kernel_rfl
theorem zqe : Tryd.prog.cellsOf 26 = 1 := by kernel_rfl
theorem zxv (h : ∃ y, DataW.trod enc Tryd.prog w base spare held fuel 28 cs = some y) : ∃ (c : CutD) (ra ba la : Option Addr) (rc bc lc : Nat), cs = cutCells c ra ba la rc bc lc ∧ (c.rain.length ≤ rc ∧ c.boats.length ≤ bc ∧ c.looks.length ≤ lc) ∧
    ElemsR w ra c.rain.length 2 (spanCell c.rain) ∧ ElemsR w ba c.boats.length 4 (boatCell c.boats) ∧ ElemsR w la c.looks.length 3 (lookCell c.looks) := by
  obtain ⟨y, h⟩ := h
  obtain ⟨xs, n, rfl, _, hl, hx, hf⟩ := DataW.trod_struct Tryd.underlying28 h
  rw [zwt] at hl
  have hx : xs.length = 6 := hx
  obtain ⟨c0, c1, c2, c3, c4, c5, c6, c7, rfl⟩ := list8 hl
  clear hl
  obtain ⟨d1, d2, hd⟩ := zek ⟨_, (hf 0 _ rfl).trans (List.getElem?_eq_getElem (by omega))⟩
  obtain ⟨e1, e2, he⟩ := zek ⟨_, (hf 1 _ rfl).trans (List.getElem?_eq_getElem (by omega))⟩
  obtain ⟨ra, rain, rc, hr, kr, _, hra⟩ := ztt ⟨_, (hf 2 _ rfl).trans (List.getElem?_eq_getElem (by omega))⟩
  obtain ⟨m, hm, _⟩ := trod_i ⟨_, (hf 3 _ rfl).trans (List.getElem?_eq_getElem (by omega))⟩
  obtain ⟨ba, boats, bc, hb, kb, _, hba⟩ := zru ⟨_, (hf 4 _ rfl).trans (List.getElem?_eq_getElem (by omega))⟩
  obtain ⟨la, looks, lc, hlk, kl, _, hla⟩ := zrt ⟨_, (hf 5 _ rfl).trans (List.getElem?_eq_getElem (by omega))⟩
  simp [zev, zdf, ztd, zqf, zqe] at hd he hr hm hb hlk
  exact ⟨⟨(d1, d2), (e1, e2), rain, m, boats, looks⟩, ra, ba, la, rc, bc, lc, by rw [hd.1, hd.2, he.1, he.2, hr, hm, hb, hlk]; rfl, ⟨kr, kb, kl⟩, hra, hba, hla⟩
end
end Go.Proofs.YtlkhjnpflohfeaaDoor

/- The laid variable. -/
namespace Go.Proofs.YtlkhjnpflohfeaaDoor
open Go Go.Proofs Go.RowKit Go.ChangeShapes Go.WideShapes Go.Deep
theorem dry_named : Tryd.prog.globalNamed "bogworks/cut.dry" = some 0 := by kernel_rfl
theorem dry_type : (Tryd.prog.globals[0]?).map (·.type) = some 83 := by kernel_rfl
theorem zqd : Tryd.prog.cellsOf 83 = 2 := by kernel_rfl
#check @Tryd.underlying83
theorem zpx {W : World} (h : laidMet Tryd.prog [("bogworks/cut.dry", Rows.laid_bogworks_cut_dry)] W) : Dry W := by
  obtain ⟨ps, ⟨g, t, cs, fuel, p, q, e1, e2, e3, e4, _, _⟩, _, _⟩ := h
  obtain rfl := Option.some.inj (dry_named.symm.trans e1)
  obtain rfl := Option.some.inj (dry_type.symm.trans e2)
  obtain ⟨xs, n, rfl, hx, hl, hxs, hf⟩ := DataW.trod_struct Tryd.underlying83 e4
  rw [zqd] at hl
  have hxs : xs.length = 1 := hxs
  obtain ⟨c0, c1, hcs⟩ := list2 hl
  have h0 := (hf 0 _ rfl).trans (List.getElem?_eq_getElem (by omega))
  obtain ⟨ys, m, rfl, hy, _, hys, hg⟩ := DataW.trod_struct Tryd.underlying23 h0
  have hys : ys.length = 2 := hys
  have i0 := (hg 0 _ rfl).trans (List.getElem?_eq_getElem (by omega))
  have i1 := (hg 1 _ rfl).trans (List.getElem?_eq_getElem (by omega))
  obtain ⟨a, ha, hya, _⟩ := DataW.trod_int Tryd.underlying3 i0
  obtain ⟨b, hb, hyb, _⟩ := DataW.trod_int Tryd.underlying3 i1
  rw [hcs] at ha hb
  simp [zev, zdf] at ha hb
  have hd : Rows.laid_bogworks_cut_dry (H := Unit) = .agg [.agg [.lit (.int .i64 a), .lit (.int .i64 b)]] := by
    have h1 := congrArg Prod.fst hx
    have h2 := congrArg Prod.fst hy
    simp only at h1 h2
    rw [h1]
    obtain ⟨y0, rfl⟩ : ∃ y0, xs = [y0] := by
      match xs, hxs with | [y0], _ => exact ⟨y0, rfl⟩
    obtain ⟨z0, z1, rfl⟩ : ∃ z0 z1, ys = [z0, z1] := by
      match ys, hys with | [z0, z1], _ => exact ⟨z0, z1, rfl⟩
    simp at h2 hya hyb ⊢
    rw [h2, hya, hyb]
  unfold Rows.laid_bogworks_cut_dry at hd
  simp at hd
  obtain ⟨rfl, rfl⟩ := hd
  have g0 := World.var?_cell dry_named e3 0
  have g1 := World.var?_cell dry_named e3 1
  rw [← Array.getElem?_toList, hcs] at g0 g1
  simp at g0 g1
  rw [ha] at g0
  rw [hb] at g1
  exact ⟨zrj g0, g0, g1⟩
end Go.Proofs.YtlkhjnpflohfeaaDoor

/- What the rows of the laws have in common. -/
namespace Go.Proofs.YtlkhjnpflohfeaaDoor
open Go Go.Proofs Go.ChangeShapes Go.WideShapes Go.RowKit Go.Deep
theorem own' : ownKnob Tryd.prog.godebug = none := by kernel_rfl
theorem laidOut' : laidOutB Tryd.prog = true := by kernel_rfl
noncomputable def laidWorld (os : Os) : World :=
  { World.holding Tryd.prog os ⟨#[], #[], []⟩ with heap := (World.holding Tryd.prog os ⟨#[], #[], []⟩).heap.modify 0 fun
      | .cells _ t frozen => .cells #[.int .i64 1048576, .int .i64 (-1048576)] t frozen
      | o => o }
theorem laid_met (os : Os) (args : Array Value) : laidMetH Tryd.prog [("bogworks/cut.dry", Rows.laid_bogworks_cut_dry)] ((laidWorld os).forCall (fun _ _ => 0) ⟨#[], args, []⟩).memory :=
  laidMetH_of_parts (laidMet_of_run' 8 (by kernel_rfl) (by kernel_rfl)) (by kernel_rfl)
def noCut : Value := .agg #[.int .i64 0, .int .i64 0, .int .i64 0, .int .i64 0, .slice none 0 0, .int .i64 0, .slice none 0 0, .slice none 0 0]
set_option maxRecDepth 100000 in
theorem zyo {H : Type} {enc : TypeId × Value → H} {W : World} {v : Value} {d : DataW H} {p : List MemPlace} {base : Nat} (hd : Dry W)
    (hv : Value.okWide Tryd.prog W .any base 28 v) (h : DataW.Trod enc Tryd.prog W 0 (fun _ => true) true 28 v d p) :
    ∃ (c : CutD) (ra ba la : Option Addr) (rc bc lc : Nat), v = cutVal c ra ba la rc bc lc ∧ CutIn W c ra ba la ∧ c.rain.length ≤ rc ∧ c.boats.length ≤ bc ∧ c.looks.length ≤ lc := by
  obtain ⟨cs, rfl, _⟩ := okWide_struct Tryd.underlying28 hv
  obtain ⟨fuel, hf⟩ := h
  obtain ⟨c, ra, ba, la, rc, bc, lc, h1, ⟨k1, k2, k3⟩, h2, h3, h4⟩ := zxv ⟨_, hf⟩
  refine ⟨c, ra, ba, la, rc, bc, lc, ?_, ⟨h2, h3, h4, hd⟩, k1, k2, k3⟩
  have h1' : cs.toList = cutCells c ra ba la rc bc lc := h1
  unfold cutVal
  rw [show cs = (cutCells c ra ba la rc bc lc).toArray by rw [← h1']]
  rfl

end Go.Proofs.YtlkhjnpflohfeaaDoor

/- The Go function CutLooks returns true, for every argument, in every world in which cut.dry holds what the program's text lays; nothing that was there is turned. -/
namespace Go.Proofs.YtlkhjnpflohfeaaDoor
open Go Go.Proofs Go.ChangeShapes Go.WideShapes Go.RowKit Go.Deep
set_option maxRecDepth 100000 in
theorem zjm (os : Os) (started : os.Started) (H : Type) (enc : TypeId × Value → H) :
    ReturnsInHanded {} Tryd.checked os 4 .any (fun w args => (Rows.cutLooksSpec.pre enc Tryd.prog Tryd.f4 [] false w args ∧ laidMetH Tryd.prog [("bogworks/cut.dry", Rows.laid_bogworks_cut_dry)] w) ∧ sizedMet enc Tryd.prog Tryd.f4 (OpenSpec.ofChange Rows.cutLooksSpec) false w args)
      (Rows.cutLooksSpec.post enc Tryd.prog Tryd.f4 false true false false) := by
  refine returnsInHanded_of_change_and (C := Tryd.checked) (X := fun w _ => laidMetH Tryd.prog [("bogworks/cut.dry", Rows.laid_bogworks_cut_dry)] w) (fun _ _ _ hh h => h.of_heap hh) own' started (by kernel_rfl) Tryd.func4
    (ChangeSpec.witness_at (enc := enc) (C := Tryd.checked) (os := os) (X := fun w _ => laidMetH Tryd.prog [("bogworks/cut.dry", Rows.laid_bogworks_cut_dry)] w) false (laidWorld os) #[noCut, .int .i64 0, .int .i64 0, .int .i64 0] 8 rfl (by kernel_rfl) (by kernel_rfl) (by kernel_rfl) (by kernel_rfl) (by kernel_rfl) (laid_met os _)) ?_
  intro W base args ds gs before hval0 hW _ _ hL _
  have hval : ∀ (j : Nat) t v, Tryd.f4.params[j]? = some t → args[j]? = some v → Value.okWide Tryd.prog W .any base t v := hval0
  have hW' := hW
  obtain ⟨p, q, hA0, hV0, rfl, hfz, hnd⟩ := hW
  have hA : DataW.TrodAll enc Tryd.prog W 0 (fun _ => true) true Tryd.f4.params.toList args.toList ds p := hA0
  have hV : DataW.TrodVars enc Tryd.prog W (fun _ => true) [] gs q := hV0
  rw [Tryd.params4] at hA hval
  clear hA0 hval0 hV0
  obtain ⟨v0, vs0, d0, ds0, p0, q0, hargs0, rfl, rfl, h0, hA0⟩ := trodAll_cons hA
  obtain ⟨v1, vs1, d1, ds1, p1, q1, rfl, rfl, rfl, h1, hA1⟩ := trodAll_cons hA0
  obtain ⟨v2, vs2, d2, ds2, p2, q2, rfl, rfl, rfl, h2, hA2⟩ := trodAll_cons hA1
  obtain ⟨v3, vs3, d3, ds3, p3, q3, rfl, rfl, rfl, h3, hA3⟩ := trodAll_cons hA2
  obtain ⟨rfl, rfl, rfl⟩ := trodAll_nil hA3
  obtain rfl : args = #[v0, v1, v2, v3] := Array.ext' hargs0
  have hdry : Dry W := zpx hL
  obtain ⟨c, ra, ba, la, rc, bc, lc, rfl, hin, hc1, hc2, hc3⟩ := zyo hdry (hval 0 28 v0 rfl rfl) h0
  obtain ⟨x1, rfl, rfl, rfl, wf1⟩ := open_int Tryd.underlying3 (hval 1 3 v1 rfl rfl) h1
  obtain ⟨x2, rfl, rfl, rfl, wf2⟩ := open_int Tryd.underlying3 (hval 2 3 v2 rfl rfl) h2
  obtain ⟨x3, rfl, rfl, rfl, wf3⟩ := open_int Tryd.underlying3 (hval 3 3 v3 rfl rfl) h3
  obtain ⟨rfl, rfl⟩ : gs = [] ∧ q = [] := by
    cases gs with
    | nil => exact ⟨rfl, hV⟩
    | cons g r => exact absurd hV (by intro h; cases h)
  simp only [List.append_nil] at hW'
  have hlt : ∀ x ∈ (p0 ++ ([] ++ ([] ++ ([] ++ [])))), x.block < W.heap.size := fun x hx => by simpa using hW'.lt x (by simpa using hx)
  refine (lawCutLooks c ra ba la rc bc lc hin hc1 hc2 hc3 x1 wf1 x2 wf2 x3 wf3).mono fun e W' ⟨he, bel⟩ => ?_
  subst he
  refine ⟨_, rfl, _, _, _, [], (p0 ++ ([] ++ ([] ++ ([] ++ [])))), [], hW', ?_, ?_, rfl, bel.frame _, fun h => by cases h⟩
  · exact trodAll_mk1 (shut_bool Tryd.underlying4 true)
  · exact trodAll_cons_mk (Below.trod laidOut' (by kernel_rfl) (of_decide_eq_true (by kernel_rfl)) h0 bel (fun x hx => hlt x (by simp [hx]))) (trodAll_cons_mk (shut_int Tryd.underlying3 wf1) (trodAll_cons_mk (shut_int Tryd.underlying3 wf2) (trodAll_cons_mk (shut_int Tryd.underlying3 wf3) (trodAll_mk0))))

theorem zog : Rows.CutLooksSaid :=
  OpenClaim.holds_of_wide 4 Tryd.f4 rfl rfl rfl rfl rfl rfl rfl ⟨rfl, rfl, rfl, rfl, rfl⟩ rfl rfl rfl rfl rfl (by kernel_rfl) Tryd.func4 (by kernel_rfl)
    (of_decide_eq_true (by kernel_rfl)) (by unfold Func.isWrapper; rw [if_neg (of_decide_eq_false (by kernel_rfl))]; exact ⟨rfl, rfl⟩)
    (fun os started H enc _ => zjm os started H enc)

set_option maxRecDepth 100000 in
theorem cutLooks_holds : Rows.CutLooksCardSaid :=
  Claim7.holds_tied_plain_at .later [] [.data] true (true, "9723bbfeb16b6261ef9604731379b2640b68d1d36b45d3ac66265463b7b658c0") true
    zog (fun _ h => by cases h) (by kernel_rfl) (fun _ h => by cases h) cutLooks_row_tie rfl ⟨rfl, rfl⟩ (by kernel_rfl) rfl
    (fun f fn hf hfn => by
      obtain rfl : f = 4 := Option.some.inj ((show Tryd.prog.funcNamed "bogworks/bogworkslaw06.CutLooks" = some 4 by kernel_rfl).symm.trans hf) |>.symm
      obtain rfl : fn = Tryd.f4 := (Option.some.inj (Tryd.func4.symm.trans hfn)).symm
      exact ⟨by kernel_rfl, fun j t ht => by
        rw [Tryd.params4] at ht
        have h3 : t = 28 ∨ t = 3 := by
          rcases j with _ | _ | _ | _ | j
          · exact .inl (by simpa using ht.symm)
          · exact .inr (by simpa using ht.symm)
          · exact .inr (by simpa using ht.symm)
          · exact .inr (by simpa using ht.symm)
          · simp at ht
        rcases h3 with rfl | rfl
        · exact (show Tryd.prog.wantsStandIn 28 = false by kernel_rfl)
        · exact (show Tryd.prog.wantsStandIn 3 = false by kernel_rfl)⟩)
    (by kernel_rfl)
#print axioms cutLooks_holds
end Go.Proofs.YtlkhjnpflohfeaaDoor
