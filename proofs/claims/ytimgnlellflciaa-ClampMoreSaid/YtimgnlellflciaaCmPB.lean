/- Package clamp, gone through: what is kept; arrays of spans. -/
import Derived.Test.YtimgnlellflciaaCmEA
import Derived.Test.YtimgnlellflciaaCmPA
import Derived.CallsIn
/- The code of the functions, for the evaluator. Printed by program. -/
namespace Go.Proofs.Ytimgnlellflciaa
open Go
namespace Ev
def af93 : AFunc := ⟨102, [(.cell 4 (some 14))], (.seq (.ops [⟨0, (some 3), (.box (.tmp 1)), none, 0⟩, ⟨1, (some 4), (.alloc [(.int .i64 0), (.int .i64 0), (.int .i64 0), (.int .i64 0), (.int .i64 0), (.int .i64 0), (.int .i64 0), (.int .i64 0), (.int .i64 0), (.int .i64 0), (.int .i64 0), (.int .i64 0), (.int .i64 0), (.int .i64 0)]), none, 0⟩]) (.seq (.seq (.draw [⟨0, (some 16), (.mov (.tmp 0)), none, 0⟩, ⟨1, (some 17), (.nilck (.tmp 16)), none, 1⟩, ⟨2, (some 18), (.fieldA 4 (.tmp 17)), none, 3⟩, ⟨3, (some 19), (.load none (.tmp 18)), none, 7⟩, ⟨4, (some 20), (.load (some 6) (.tmp 3)), none, 0⟩, ⟨5, (some 21), (.lookup (.agg [true, true, true, true, true, true]) true (.agg [(.int .i64 0), (.int .i64 0), (.int .i64 0), (.int .i64 0), (.int .i64 0), (.int .i64 0), (.int .i64 0), (.int .i64 0), (.int .i64 0), (.int .i64 0), (.int .i64 0), (.int .i64 0), (.int .i64 0), (.int .i64 0)]) (.tmp 19) (.tmp 20)), none, 31⟩, ⟨6, (some 15), (.mov (.tmp 21)), none, 63⟩, ⟨7, (some 22), (.extract (.tmp 15) 0), none, 127⟩, ⟨8, (some 23), (.extract (.tmp 15) 1), none, 127⟩, ⟨9, (some 5), (.alloc [(.int .i64 0), (.int .i64 0), (.int .i64 0), (.int .i64 0), (.int .i64 0), (.int .i64 0), (.int .i64 0), (.int .i64 0), (.int .i64 0), (.int .i64 0), (.int .i64 0), (.int .i64 0), (.int .i64 0), (.int .i64 0)]), none, 0⟩, ⟨10, none, (.store 14 (.tmp 5) (.tmp 22)), none, 767⟩, ⟨11, (some 6), (.mov (.tmp 23)), none, 2047⟩]) (.seq (.ops [⟨0, (some 24), (.mov (.tmp 6)), none, 0⟩]) (.cond (.tmp 24) (.seq (.ops [⟨0, (some 25), (.load (some 14) (.tmp 5)), none, 0⟩, ⟨1, none, (.store 14 (.tmp 4) (.tmp 25)), none, 0⟩]) .ret) .skip))) (.seq (.ops [⟨0, (some 26), (.mov (.tmp 0)), none, 0⟩, ⟨1, (some 27), (.fieldA 0 (.tmp 3)), none, 0⟩, ⟨2, (some 28), (.fieldA 0 (.tmp 27)), none, 0⟩, ⟨3, (some 29), (.load none (.tmp 28)), none, 0⟩, ⟨4, (some 30), (.fieldA 5 (.tmp 3)), none, 0⟩, ⟨5, (some 31), (.load none (.tmp 30)), none, 0⟩, ⟨6, (some 32), (.call (.val (.fn (Fn.func 97) [] [])) [(.tmp 26), (.tmp 29), (.tmp 31)]), none, 0⟩, ⟨7, (some 7), (.mov (.tmp 32)), none, 0⟩]) (.seq (.ops [⟨0, (some 8), (.alloc [(.int .i64 0), (.int .i64 0), (.int .i64 0), (.int .i64 0), (.int .i64 0), (.int .i64 0), (.int .i64 0), (.int .i64 0), (.int .i64 0), (.int .i64 0), (.int .i64 0), (.int .i64 0), (.int .i64 0), (.int .i64 0)]), none, 0⟩]) (.seq (.ops [⟨0, (some 33), (.fieldA 0 (.tmp 3)), none, 0⟩, ⟨1, (some 34), (.load (some 5) (.tmp 33)), none, 0⟩, ⟨2, (some 35), (.call (.val (.fn (Fn.func 41) [] [])) [(.tmp 34)]), none, 0⟩, ⟨3, (some 9), (.mov (.tmp 35)), none, 0⟩]) (.seq (.ops [⟨0, (some 36), (.mov (.tmp 9)), none, 0⟩, ⟨1, (some 37), (.mov (.tmp 9)), none, 0⟩, ⟨2, (some 38), (.build [(.int .i64 0), (.int .i64 0)] [(0, (1, (.tmp 36))), (1, (1, (.tmp 37)))]), none, 0⟩, ⟨3, (some 39), (.build [(.int .i64 0), (.int .i64 0)] [(0, (2, (.tmp 38)))]), none, 0⟩, ⟨4, (some 40), (.indexA 2 (some 7) (.tmp 8) (.val (.int .i64 0))), none, 0⟩, ⟨5, none, (.store 2 (.tmp 40) (.tmp 39)), none, 0⟩]) (.seq (.seq (.ops [⟨0, (some 41), (.mov (.tmp 7)), none, 0⟩, ⟨1, (some 42), (.len (.tmp 41)), none, 0⟩, ⟨2, (some 43), (.mov (.val (.int .i64 0))), none, 0⟩]) (.block 0 (.loop [0, 3, 4, 7, 8, 41, 42, 43] (.seq (.ops [⟨0, (some 44), (.bin .lss (.tmp 43) (.tmp 42)), none, 0⟩]) (.seq (.cond (.tmp 44) .skip (.exit 0)) (.seq (.block 1 (.seq (.ops [⟨0, (some 45), (.mov (.tmp 43)), none, 0⟩, ⟨1, (some 46), (.indexA 1 none (.tmp 41) (.tmp 43)), none, 0⟩, ⟨2, (some 47), (.load none (.tmp 46)), none, 0⟩, ⟨3, (some 10), (.mov (.tmp 45)), none, 0⟩, ⟨4, (some 11), (.mov (.tmp 47)), none, 0⟩]) (.seq (.ops [⟨0, (some 48), (.mov (.tmp 10)), none, 0⟩, ⟨1, (some 49), (.bin .add (.tmp 48) (.val (.int .i64 1))), none, 0⟩, ⟨2, (some 50), (.mov (.tmp 10)), none, 0⟩, ⟨3, (some 51), (.indexA 2 (some 7) (.tmp 8) (.tmp 50)), none, 0⟩, ⟨4, (some 52), (.load (some 2) (.tmp 51)), none, 0⟩, ⟨5, (some 53), (.indexA 2 (some 7) (.tmp 8) (.tmp 49)), none, 0⟩, ⟨6, none, (.store 2 (.tmp 53) (.tmp 52)), none, 0⟩]) (.seq (.ops [⟨0, (some 54), (.mov (.tmp 11)), none, 0⟩, ⟨1, (some 55), (.eq .nilI true (.tmp 54) (.val .nilif)), none, 0⟩]) (.cond (.tmp 55) (.draw [⟨0, (some 56), (.mov (.tmp 10)), none, 0⟩, ⟨1, (some 57), (.bin .add (.tmp 56) (.val (.int .i64 1))), none, 1⟩, ⟨2, (some 58), (.mov (.tmp 11)), none, 0⟩, ⟨3, (some 59), (.mov (.tmp 10)), none, 0⟩, ⟨4, (some 60), (.indexA 2 (some 7) (.tmp 8) (.tmp 59)), none, 8⟩, ⟨5, (some 61), (.load (some 2) (.tmp 60)), none, 24⟩, ⟨6, (some 62), (.mkfn (Fn.method "bogworks/clamp.after") [(.tmp 58)] []), none, 4⟩, ⟨7, (some 63), (.nilckM "bogworks/clamp.after" [145, 143] (.tmp 62)), none, 68⟩, ⟨8, (some 64), (.mov (.tmp 58)), none, 196⟩, ⟨9, (some 65), (.invoke (.tmp 64) [(145, 119), (143, 117)] [(.tmp 61)]), none, 508⟩, ⟨10, (some 66), (.indexA 2 (some 7) (.tmp 8) (.tmp 57)), none, 1023⟩, ⟨11, none, (.store 2 (.tmp 66) (.tmp 65)), none, 2047⟩]) .skip))))) (.ops [⟨0, (some 67), (.bin .add (.tmp 43) (.val (.int .i64 1))), none, 0⟩, ⟨1, (some 43), (.mov (.tmp 67)), none, 0⟩]))))))) (.seq (.seq (.ops [⟨0, (some 68), (.mov (.tmp 7)), none, 0⟩, ⟨1, (some 69), (.len (.tmp 68)), none, 0⟩, ⟨2, (some 70), (.bin .sub (.tmp 69) (.val (.int .i64 1))), none, 0⟩, ⟨3, (some 12), (.mov (.tmp 70)), none, 0⟩]) (.block 2 (.loop [0, 3, 4, 7, 8, 12] (.seq (.seq (.ops [⟨0, (some 71), (.mov (.tmp 12)), none, 0⟩, ⟨1, (some 72), (.bin .geq (.tmp 71) (.val (.int .i64 0))), none, 0⟩]) (.cond (.tmp 72) .skip (.exit 2))) (.seq (.block 3 (.seq (.ops [⟨0, (some 75), (.mov (.tmp 12)), none, 0⟩, ⟨1, (some 76), (.bin .add (.tmp 75) (.val (.int .i64 1))), none, 0⟩, ⟨2, (some 77), (.indexA 2 (some 7) (.tmp 8) (.tmp 76)), none, 0⟩, ⟨3, (some 78), (.load (some 2) (.tmp 77)), none, 0⟩, ⟨4, (some 13), (.alloc [(.int .i64 0), (.int .i64 0)]), none, 0⟩, ⟨5, none, (.store 2 (.tmp 13) (.tmp 78)), none, 0⟩]) (.seq (.seq (.ops [⟨0, (some 79), (.mov (.tmp 7)), none, 0⟩, ⟨1, (some 80), (.mov (.tmp 12)), none, 0⟩, ⟨2, (some 81), (.indexA 1 none (.tmp 79) (.tmp 80)), none, 0⟩, ⟨3, (some 82), (.load none (.tmp 81)), none, 0⟩, ⟨4, (some 14), (.mov (.tmp 82)), none, 0⟩]) (.seq (.ops [⟨0, (some 83), (.mov (.tmp 14)), none, 0⟩, ⟨1, (some 84), (.eq .nilI true (.tmp 83) (.val .nilif)), none, 0⟩]) (.cond (.tmp 84) (.ops [⟨0, (some 85), (.mov (.tmp 14)), none, 0⟩, ⟨1, (some 86), (.load (some 2) (.tmp 13)), none, 0⟩, ⟨2, (some 87), (.invoke (.tmp 85) [(145, 120), (143, 118)] [(.tmp 86)]), none, 0⟩, ⟨3, none, (.store 2 (.tmp 13) (.tmp 87)), none, 0⟩]) .skip))) (.draw [⟨0, (some 88), (.mov (.tmp 12)), none, 0⟩, ⟨1, (some 89), (.mov (.tmp 12)), none, 0⟩, ⟨2, (some 90), (.indexA 2 (some 7) (.tmp 8) (.tmp 89)), none, 2⟩, ⟨3, (some 91), (.load (some 2) (.tmp 90)), none, 6⟩, ⟨4, (some 92), (.load (some 2) (.tmp 13)), none, 0⟩, ⟨5, (some 93), (.call (.val (.fn (Fn.func 98) [] [])) [(.tmp 91), (.tmp 92)]), none, 30⟩, ⟨6, (some 94), (.indexA 2 (some 7) (.tmp 8) (.tmp 88)), none, 63⟩, ⟨7, none, (.store 2 (.tmp 94) (.tmp 93)), none, 127⟩])))) (.ops [⟨0, (some 73), (.mov (.tmp 12)), none, 0⟩, ⟨1, (some 74), (.bin .sub (.tmp 73) (.val (.int .i64 1))), none, 0⟩, ⟨2, (some 12), (.mov (.tmp 74)), none, 0⟩])))))) (.seq (.draw [⟨0, (some 95), (.mov (.tmp 0)), none, 0⟩, ⟨1, (some 96), (.nilck (.tmp 95)), none, 1⟩, ⟨2, (some 97), (.fieldA 4 (.tmp 96)), none, 3⟩, ⟨3, (some 98), (.load none (.tmp 97)), none, 7⟩, ⟨4, (some 99), (.load (some 6) (.tmp 3)), none, 0⟩, ⟨5, (some 100), (.load (some 14) (.tmp 8)), none, 0⟩, ⟨6, none, (.mapupd (.agg [true, true, true, true, true, true]) (.tmp 98) (.tmp 99) (.tmp 100)), none, 63⟩]) (.seq (.ops [⟨0, (some 101), (.load (some 14) (.tmp 8)), none, 0⟩, ⟨1, none, (.store 14 (.tmp 4) (.tmp 101)), none, 0⟩]) .ret))))))))))⟩
def af94 : AFunc := ⟨53, [], (.seq (.ops [⟨0, (some 10), (.mov (.tmp 1)), none, 0⟩, ⟨1, (some 11), (.bin .add (.tmp 10) (.val (.int .i64 1))), none, 0⟩, ⟨2, (some 8), (.mov (.tmp 11)), none, 0⟩]) (.block 0 (.loop [0, 1, 2, 3, 8] (.seq (.seq (.ops [⟨0, (some 12), (.mov (.tmp 8)), none, 0⟩, ⟨1, (some 13), (.mov (.tmp 2)), none, 0⟩, ⟨2, (some 14), (.bin .lss (.tmp 12) (.tmp 13)), none, 0⟩]) (.cond (.tmp 14) .skip (.exit 0))) (.seq (.block 1 (.seq (.ops [⟨0, (some 17), (.mov (.tmp 8)), none, 0⟩, ⟨1, (some 9), (.mov (.tmp 17)), none, 0⟩]) (.block 2 (.loop [0, 1, 2, 3, 8, 9] (.seq (.seq (.draw [⟨0, (some 18), (.mov (.tmp 9)), none, 0⟩, ⟨1, (some 19), (.mov (.tmp 1)), none, 0⟩, ⟨2, (some 20), (.bin .gtr (.tmp 18) (.tmp 19)), none, 3⟩, ⟨3, (some 21), (.mov (.tmp 20)), none, 7⟩, ⟨4, (some 22), (.mov (.tmp 3)), (some (21, true)), 15⟩, ⟨5, (some 23), (.mov (.tmp 0)), (some (21, true)), 15⟩, ⟨6, (some 24), (.mov (.tmp 9)), (some (21, true)), 15⟩, ⟨7, (some 25), (.indexA 1 none (.tmp 23) (.tmp 24)), (some (21, true)), 111⟩, ⟨8, (some 26), (.load none (.tmp 25)), (some (21, true)), 239⟩, ⟨9, (some 27), (.mov (.tmp 0)), (some (21, true)), 15⟩, ⟨10, (some 28), (.mov (.tmp 9)), (some (21, true)), 15⟩, ⟨11, (some 29), (.bin .sub (.tmp 28) (.val (.int .i64 1))), (some (21, true)), 1039⟩, ⟨12, (some 30), (.indexA 1 none (.tmp 27) (.tmp 29)), (some (21, true)), 3599⟩, ⟨13, (some 31), (.load none (.tmp 30)), (some (21, true)), 7695⟩, ⟨14, (some 32), (.call (.tmp 22) [(.tmp 26), (.tmp 31)]), (some (21, true)), 16383⟩, ⟨15, (some 33), (.bin .lss (.tmp 32) (.val (.int .i64 0))), (some (21, true)), 32767⟩, ⟨16, (some 34), (.pick (.tmp 21) (.tmp 33) (.val (.bool false))), none, 65535⟩]) (.cond (.tmp 34) .skip (.exit 2))) (.seq (.block 3 (.draw [⟨0, (some 37), (.mov (.tmp 0)), none, 0⟩, ⟨1, (some 38), (.mov (.tmp 9)), none, 0⟩, ⟨2, (some 39), (.mov (.tmp 0)), none, 0⟩, ⟨3, (some 40), (.mov (.tmp 9)), none, 0⟩, ⟨4, (some 41), (.bin .sub (.tmp 40) (.val (.int .i64 1))), none, 8⟩, ⟨5, (some 42), (.mov (.tmp 0)), none, 0⟩, ⟨6, (some 43), (.mov (.tmp 9)), none, 0⟩, ⟨7, (some 44), (.bin .sub (.tmp 43) (.val (.int .i64 1))), none, 64⟩, ⟨8, (some 45), (.indexA 1 none (.tmp 42) (.tmp 44)), none, 224⟩, ⟨9, (some 46), (.load none (.tmp 45)), none, 480⟩, ⟨10, (some 47), (.mov (.tmp 0)), none, 0⟩, ⟨11, (some 48), (.mov (.tmp 9)), none, 0⟩, ⟨12, (some 49), (.indexA 1 none (.tmp 47) (.tmp 48)), none, 3072⟩, ⟨13, (some 50), (.load none (.tmp 49)), none, 7168⟩, ⟨14, (some 51), (.indexA 1 none (.tmp 37) (.tmp 38)), none, 16355⟩, ⟨15, none, (.store 1 (.tmp 51) (.tmp 46)), none, 32739⟩, ⟨16, (some 52), (.indexA 1 none (.tmp 39) (.tmp 41)), none, 65535⟩, ⟨17, none, (.store 1 (.tmp 52) (.tmp 50)), none, 131071⟩])) (.ops [⟨0, (some 35), (.mov (.tmp 9)), none, 0⟩, ⟨1, (some 36), (.bin .sub (.tmp 35) (.val (.int .i64 1))), none, 0⟩, ⟨2, (some 9), (.mov (.tmp 36)), none, 0⟩]))))))) (.ops [⟨0, (some 15), (.mov (.tmp 8)), none, 0⟩, ⟨1, (some 16), (.bin .add (.tmp 15) (.val (.int .i64 1))), none, 0⟩, ⟨2, (some 8), (.mov (.tmp 16)), none, 0⟩]))))))⟩
def af95 : AFunc := ⟨220, [], (.seq (.seq (.ops [⟨0, (some 25), (.mov (.tmp 2)), none, 0⟩, ⟨1, (some 26), (.mov (.tmp 1)), none, 0⟩, ⟨2, (some 27), (.bin .sub (.tmp 25) (.tmp 26)), none, 0⟩, ⟨3, (some 28), (.bin .eql (.tmp 27) (.val (.int .i64 1))), none, 0⟩]) (.cond (.tmp 28) (.seq (.ops [⟨0, (some 29), (.mov (.tmp 2)), none, 0⟩, ⟨1, (some 10), (.mov (.tmp 29)), none, 0⟩]) (.seq (.ops [⟨0, (some 30), (.mov (.tmp 3)), none, 0⟩, ⟨1, (some 11), (.mov (.tmp 30)), none, 0⟩]) (.seq (.block 0 (.loop [0, 1, 4, 10, 11] (.seq (.seq (.ops [⟨0, (some 31), (.mov (.tmp 10)), none, 0⟩, ⟨1, (some 32), (.mov (.tmp 11)), none, 0⟩, ⟨2, (some 33), (.bin .lss (.tmp 31) (.tmp 32)), none, 0⟩]) (.cond (.tmp 33) .skip (.exit 0))) (.block 1 (.seq (.ops [⟨0, (some 34), (.mov (.tmp 10)), none, 0⟩, ⟨1, (some 35), (.mov (.tmp 11)), none, 0⟩, ⟨2, (some 36), (.bin .add (.tmp 34) (.tmp 35)), none, 0⟩, ⟨3, (some 37), (.conv .u64 (.tmp 36)), none, 0⟩, ⟨4, (some 38), (.bin .shr (.tmp 37) (.val (.int .u64 1))), none, 0⟩, ⟨5, (some 39), (.conv .i64 (.tmp 38)), none, 0⟩, ⟨6, (some 12), (.mov (.tmp 39)), none, 0⟩]) (.seq (.draw [⟨0, (some 40), (.mov (.tmp 4)), none, 0⟩, ⟨1, (some 41), (.mov (.tmp 0)), none, 0⟩, ⟨2, (some 42), (.mov (.tmp 12)), none, 0⟩, ⟨3, (some 43), (.indexA 1 none (.tmp 41) (.tmp 42)), none, 6⟩, ⟨4, (some 44), (.load none (.tmp 43)), none, 14⟩, ⟨5, (some 45), (.mov (.tmp 0)), none, 0⟩, ⟨6, (some 46), (.mov (.tmp 1)), none, 0⟩, ⟨7, (some 47), (.indexA 1 none (.tmp 45) (.tmp 46)), none, 96⟩, ⟨8, (some 48), (.load none (.tmp 47)), none, 224⟩, ⟨9, (some 49), (.call (.tmp 40) [(.tmp 44), (.tmp 48)]), none, 511⟩, ⟨10, (some 50), (.bin .lss (.tmp 49) (.val (.int .i64 0))), none, 1023⟩]) (.cond (.tmp 50) (.ops [⟨0, (some 51), (.mov (.tmp 12)), none, 0⟩, ⟨1, (some 52), (.bin .add (.tmp 51) (.val (.int .i64 1))), none, 0⟩, ⟨2, (some 10), (.mov (.tmp 52)), none, 0⟩]) (.ops [⟨0, (some 53), (.mov (.tmp 12)), none, 0⟩, ⟨1, (some 11), (.mov (.tmp 53)), none, 0⟩])))))))) (.seq (.seq (.ops [⟨0, (some 54), (.mov (.tmp 1)), none, 0⟩, ⟨1, (some 13), (.mov (.tmp 54)), none, 0⟩]) (.block 2 (.loop [0, 10, 13] (.seq (.seq (.ops [⟨0, (some 55), (.mov (.tmp 13)), none, 0⟩, ⟨1, (some 56), (.mov (.tmp 10)), none, 0⟩, ⟨2, (some 57), (.bin .sub (.tmp 56) (.val (.int .i64 1))), none, 0⟩, ⟨3, (some 58), (.bin .lss (.tmp 55) (.tmp 57)), none, 0⟩]) (.cond (.tmp 58) .skip (.exit 2))) (.seq (.block 3 (.draw [⟨0, (some 61), (.mov (.tmp 0)), none, 0⟩, ⟨1, (some 62), (.mov (.tmp 13)), none, 0⟩, ⟨2, (some 63), (.mov (.tmp 0)), none, 0⟩, ⟨3, (some 64), (.mov (.tmp 13)), none, 0⟩, ⟨4, (some 65), (.bin .add (.tmp 64) (.val (.int .i64 1))), none, 8⟩, ⟨5, (some 66), (.mov (.tmp 0)), none, 0⟩, ⟨6, (some 67), (.mov (.tmp 13)), none, 0⟩, ⟨7, (some 68), (.bin .add (.tmp 67) (.val (.int .i64 1))), none, 64⟩, ⟨8, (some 69), (.indexA 1 none (.tmp 66) (.tmp 68)), none, 224⟩, ⟨9, (some 70), (.load none (.tmp 69)), none, 480⟩, ⟨10, (some 71), (.mov (.tmp 0)), none, 0⟩, ⟨11, (some 72), (.mov (.tmp 13)), none, 0⟩, ⟨12, (some 73), (.indexA 1 none (.tmp 71) (.tmp 72)), none, 3072⟩, ⟨13, (some 74), (.load none (.tmp 73)), none, 7168⟩, ⟨14, (some 75), (.indexA 1 none (.tmp 61) (.tmp 62)), none, 16355⟩, ⟨15, none, (.store 1 (.tmp 75) (.tmp 70)), none, 32739⟩, ⟨16, (some 76), (.indexA 1 none (.tmp 63) (.tmp 65)), none, 65535⟩, ⟨17, none, (.store 1 (.tmp 76) (.tmp 74)), none, 131071⟩])) (.ops [⟨0, (some 59), (.mov (.tmp 13)), none, 0⟩, ⟨1, (some 60), (.bin .add (.tmp 59) (.val (.int .i64 1))), none, 0⟩, ⟨2, (some 13), (.mov (.tmp 60)), none, 0⟩])))))) .ret)))) .skip)) (.seq (.seq (.ops [⟨0, (some 77), (.mov (.tmp 3)), none, 0⟩, ⟨1, (some 78), (.mov (.tmp 2)), none, 0⟩, ⟨2, (some 79), (.bin .sub (.tmp 77) (.tmp 78)), none, 0⟩, ⟨3, (some 80), (.bin .eql (.tmp 79) (.val (.int .i64 1))), none, 0⟩]) (.cond (.tmp 80) (.seq (.ops [⟨0, (some 81), (.mov (.tmp 1)), none, 0⟩, ⟨1, (some 14), (.mov (.tmp 81)), none, 0⟩]) (.seq (.ops [⟨0, (some 82), (.mov (.tmp 2)), none, 0⟩, ⟨1, (some 15), (.mov (.tmp 82)), none, 0⟩]) (.seq (.block 4 (.loop [0, 2, 4, 14, 15] (.seq (.seq (.ops [⟨0, (some 83), (.mov (.tmp 14)), none, 0⟩, ⟨1, (some 84), (.mov (.tmp 15)), none, 0⟩, ⟨2, (some 85), (.bin .lss (.tmp 83) (.tmp 84)), none, 0⟩]) (.cond (.tmp 85) .skip (.exit 4))) (.block 5 (.seq (.ops [⟨0, (some 86), (.mov (.tmp 14)), none, 0⟩, ⟨1, (some 87), (.mov (.tmp 15)), none, 0⟩, ⟨2, (some 88), (.bin .add (.tmp 86) (.tmp 87)), none, 0⟩, ⟨3, (some 89), (.conv .u64 (.tmp 88)), none, 0⟩, ⟨4, (some 90), (.bin .shr (.tmp 89) (.val (.int .u64 1))), none, 0⟩, ⟨5, (some 91), (.conv .i64 (.tmp 90)), none, 0⟩, ⟨6, (some 16), (.mov (.tmp 91)), none, 0⟩]) (.seq (.draw [⟨0, (some 92), (.mov (.tmp 4)), none, 0⟩, ⟨1, (some 93), (.mov (.tmp 0)), none, 0⟩, ⟨2, (some 94), (.mov (.tmp 2)), none, 0⟩, ⟨3, (some 95), (.indexA 1 none (.tmp 93) (.tmp 94)), none, 6⟩, ⟨4, (some 96), (.load none (.tmp 95)), none, 14⟩, ⟨5, (some 97), (.mov (.tmp 0)), none, 0⟩, ⟨6, (some 98), (.mov (.tmp 16)), none, 0⟩, ⟨7, (some 99), (.indexA 1 none (.tmp 97) (.tmp 98)), none, 96⟩, ⟨8, (some 100), (.load none (.tmp 99)), none, 224⟩, ⟨9, (some 101), (.call (.tmp 92) [(.tmp 96), (.tmp 100)]), none, 511⟩, ⟨10, (some 102), (.bin .lss (.tmp 101) (.val (.int .i64 0))), none, 1023⟩, ⟨11, (some 103), (.not (.tmp 102)), none, 2047⟩]) (.cond (.tmp 103) (.ops [⟨0, (some 104), (.mov (.tmp 16)), none, 0⟩, ⟨1, (some 105), (.bin .add (.tmp 104) (.val (.int .i64 1))), none, 0⟩, ⟨2, (some 14), (.mov (.tmp 105)), none, 0⟩]) (.ops [⟨0, (some 106), (.mov (.tmp 16)), none, 0⟩, ⟨1, (some 15), (.mov (.tmp 106)), none, 0⟩])))))))) (.seq (.seq (.ops [⟨0, (some 107), (.mov (.tmp 2)), none, 0⟩, ⟨1, (some 17), (.mov (.tmp 107)), none, 0⟩]) (.block 6 (.loop [0, 14, 17] (.seq (.seq (.ops [⟨0, (some 108), (.mov (.tmp 17)), none, 0⟩, ⟨1, (some 109), (.mov (.tmp 14)), none, 0⟩, ⟨2, (some 110), (.bin .gtr (.tmp 108) (.tmp 109)), none, 0⟩]) (.cond (.tmp 110) .skip (.exit 6))) (.seq (.block 7 (.draw [⟨0, (some 113), (.mov (.tmp 0)), none, 0⟩, ⟨1, (some 114), (.mov (.tmp 17)), none, 0⟩, ⟨2, (some 115), (.mov (.tmp 0)), none, 0⟩, ⟨3, (some 116), (.mov (.tmp 17)), none, 0⟩, ⟨4, (some 117), (.bin .sub (.tmp 116) (.val (.int .i64 1))), none, 8⟩, ⟨5, (some 118), (.mov (.tmp 0)), none, 0⟩, ⟨6, (some 119), (.mov (.tmp 17)), none, 0⟩, ⟨7, (some 120), (.bin .sub (.tmp 119) (.val (.int .i64 1))), none, 64⟩, ⟨8, (some 121), (.indexA 1 none (.tmp 118) (.tmp 120)), none, 224⟩, ⟨9, (some 122), (.load none (.tmp 121)), none, 480⟩, ⟨10, (some 123), (.mov (.tmp 0)), none, 0⟩, ⟨11, (some 124), (.mov (.tmp 17)), none, 0⟩, ⟨12, (some 125), (.indexA 1 none (.tmp 123) (.tmp 124)), none, 3072⟩, ⟨13, (some 126), (.load none (.tmp 125)), none, 7168⟩, ⟨14, (some 127), (.indexA 1 none (.tmp 113) (.tmp 114)), none, 16355⟩, ⟨15, none, (.store 1 (.tmp 127) (.tmp 122)), none, 32739⟩, ⟨16, (some 128), (.indexA 1 none (.tmp 115) (.tmp 117)), none, 65535⟩, ⟨17, none, (.store 1 (.tmp 128) (.tmp 126)), none, 131071⟩])) (.ops [⟨0, (some 111), (.mov (.tmp 17)), none, 0⟩, ⟨1, (some 112), (.bin .sub (.tmp 111) (.val (.int .i64 1))), none, 0⟩, ⟨2, (some 17), (.mov (.tmp 112)), none, 0⟩])))))) .ret)))) .skip)) (.seq (.ops [⟨0, (some 129), (.mov (.tmp 1)), none, 0⟩, ⟨1, (some 130), (.mov (.tmp 3)), none, 0⟩, ⟨2, (some 131), (.bin .add (.tmp 129) (.tmp 130)), none, 0⟩, ⟨3, (some 132), (.conv .u64 (.tmp 131)), none, 0⟩, ⟨4, (some 133), (.bin .shr (.tmp 132) (.val (.int .u64 1))), none, 0⟩, ⟨5, (some 134), (.conv .i64 (.tmp 133)), none, 0⟩, ⟨6, (some 18), (.mov (.tmp 134)), none, 0⟩]) (.seq (.ops [⟨0, (some 135), (.mov (.tmp 18)), none, 0⟩, ⟨1, (some 136), (.mov (.tmp 2)), none, 0⟩, ⟨2, (some 137), (.bin .add (.tmp 135) (.tmp 136)), none, 0⟩, ⟨3, (some 19), (.mov (.tmp 137)), none, 0⟩]) (.seq (.ops [⟨0, (some 20), (.mov (.val (.int .i64 0))), none, 0⟩, ⟨1, (some 21), (.mov (.val (.int .i64 0))), none, 0⟩]) (.seq (.seq (.ops [⟨0, (some 138), (.mov (.tmp 2)), none, 0⟩, ⟨1, (some 139), (.mov (.tmp 18)), none, 0⟩, ⟨2, (some 140), (.bin .gtr (.tmp 138) (.tmp 139)), none, 0⟩]) (.cond (.tmp 140) (.seq (.ops [⟨0, (some 141), (.mov (.tmp 19)), none, 0⟩, ⟨1, (some 142), (.mov (.tmp 3)), none, 0⟩, ⟨2, (some 143), (.bin .sub (.tmp 141) (.tmp 142)), none, 0⟩, ⟨3, (some 20), (.mov (.tmp 143)), none, 0⟩]) (.ops [⟨0, (some 144), (.mov (.tmp 18)), none, 0⟩, ⟨1, (some 21), (.mov (.tmp 144)), none, 0⟩])) (.seq (.ops [⟨0, (some 145), (.mov (.tmp 1)), none, 0⟩, ⟨1, (some 20), (.mov (.tmp 145)), none, 0⟩]) (.ops [⟨0, (some 146), (.mov (.tmp 2)), none, 0⟩, ⟨1, (some 21), (.mov (.tmp 146)), none, 0⟩])))) (.seq (.ops [⟨0, (some 147), (.mov (.tmp 19)), none, 0⟩, ⟨1, (some 148), (.bin .sub (.tmp 147) (.val (.int .i64 1))), none, 0⟩, ⟨2, (some 22), (.mov (.tmp 148)), none, 0⟩]) (.seq (.block 8 (.loop [0, 1, 2, 3, 4, 18, 19, 20, 21, 22] (.seq (.seq (.ops [⟨0, (some 149), (.mov (.tmp 20)), none, 0⟩, ⟨1, (some 150), (.mov (.tmp 21)), none, 0⟩, ⟨2, (some 151), (.bin .lss (.tmp 149) (.tmp 150)), none, 0⟩]) (.cond (.tmp 151) .skip (.exit 8))) (.block 9 (.seq (.ops [⟨0, (some 152), (.mov (.tmp 20)), none, 0⟩, ⟨1, (some 153), (.mov (.tmp 21)), none, 0⟩, ⟨2, (some 154), (.bin .add (.tmp 152) (.tmp 153)), none, 0⟩, ⟨3, (some 155), (.conv .u64 (.tmp 154)), none, 0⟩, ⟨4, (some 156), (.bin .shr (.tmp 155) (.val (.int .u64 1))), none, 0⟩, ⟨5, (some 157), (.conv .i64 (.tmp 156)), none, 0⟩, ⟨6, (some 23), (.mov (.tmp 157)), none, 0⟩]) (.seq (.draw [⟨0, (some 158), (.mov (.tmp 4)), none, 0⟩, ⟨1, (some 159), (.mov (.tmp 0)), none, 0⟩, ⟨2, (some 160), (.mov (.tmp 22)), none, 0⟩, ⟨3, (some 161), (.mov (.tmp 23)), none, 0⟩, ⟨4, (some 162), (.bin .sub (.tmp 160) (.tmp 161)), none, 12⟩, ⟨5, (some 163), (.indexA 1 none (.tmp 159) (.tmp 162)), none, 30⟩, ⟨6, (some 164), (.load none (.tmp 163)), none, 62⟩, ⟨7, (some 165), (.mov (.tmp 0)), none, 0⟩, ⟨8, (some 166), (.mov (.tmp 23)), none, 0⟩, ⟨9, (some 167), (.indexA 1 none (.tmp 165) (.tmp 166)), none, 384⟩, ⟨10, (some 168), (.load none (.tmp 167)), none, 896⟩, ⟨11, (some 169), (.call (.tmp 158) [(.tmp 164), (.tmp 168)]), none, 2047⟩, ⟨12, (some 170), (.bin .lss (.tmp 169) (.val (.int .i64 0))), none, 4095⟩, ⟨13, (some 171), (.not (.tmp 170)), none, 8191⟩]) (.cond (.tmp 171) (.ops [⟨0, (some 172), (.mov (.tmp 23)), none, 0⟩, ⟨1, (some 173), (.bin .add (.tmp 172) (.val (.int .i64 1))), none, 0⟩, ⟨2, (some 20), (.mov (.tmp 173)), none, 0⟩]) (.ops [⟨0, (some 174), (.mov (.tmp 23)), none, 0⟩, ⟨1, (some 21), (.mov (.tmp 174)), none, 0⟩])))))))) (.seq (.ops [⟨0, (some 175), (.mov (.tmp 19)), none, 0⟩, ⟨1, (some 176), (.mov (.tmp 20)), none, 0⟩, ⟨2, (some 177), (.bin .sub (.tmp 175) (.tmp 176)), none, 0⟩, ⟨3, (some 24), (.mov (.tmp 177)), none, 0⟩]) (.seq (.seq (.ops [⟨0, (some 178), (.mov (.tmp 20)), none, 0⟩, ⟨1, (some 179), (.mov (.tmp 2)), none, 0⟩, ⟨2, (some 180), (.bin .lss (.tmp 178) (.tmp 179)), none, 0⟩, ⟨3, (some 181), (.mov (.tmp 180)), none, 0⟩, ⟨4, (some 182), (.mov (.tmp 2)), (some (181, true)), 0⟩, ⟨5, (some 183), (.mov (.tmp 24)), (some (181, true)), 0⟩, ⟨6, (some 184), (.bin .lss (.tmp 182) (.tmp 183)), (some (181, true)), 0⟩, ⟨7, (some 185), (.pick (.tmp 181) (.tmp 184) (.val (.bool false))), none, 0⟩]) (.cond (.tmp 185) (.ops [⟨0, (some 186), (.mov (.tmp 0)), none, 0⟩, ⟨1, (some 187), (.mov (.tmp 20)), none, 0⟩, ⟨2, (some 188), (.mov (.tmp 2)), none, 0⟩, ⟨3, (some 189), (.mov (.tmp 24)), none, 0⟩, ⟨4, (some 190), (.mov (.tmp 4)), none, 0⟩, ⟨5, (some 191), (.call (.val (.fn (Fn.func 99) [] [])) [(.tmp 186), (.tmp 187), (.tmp 188), (.tmp 189), (.tmp 190)]), none, 0⟩]) .skip)) (.seq (.seq (.ops [⟨0, (some 192), (.mov (.tmp 1)), none, 0⟩, ⟨1, (some 193), (.mov (.tmp 20)), none, 0⟩, ⟨2, (some 194), (.bin .lss (.tmp 192) (.tmp 193)), none, 0⟩, ⟨3, (some 195), (.mov (.tmp 194)), none, 0⟩, ⟨4, (some 196), (.mov (.tmp 20)), (some (195, true)), 0⟩, ⟨5, (some 197), (.mov (.tmp 18)), (some (195, true)), 0⟩, ⟨6, (some 198), (.bin .lss (.tmp 196) (.tmp 197)), (some (195, true)), 0⟩, ⟨7, (some 199), (.pick (.tmp 195) (.tmp 198) (.val (.bool false))), none, 0⟩]) (.cond (.tmp 199) (.ops [⟨0, (some 200), (.mov (.tmp 0)), none, 0⟩, ⟨1, (some 201), (.mov (.tmp 1)), none, 0⟩, ⟨2, (some 202), (.mov (.tmp 20)), none, 0⟩, ⟨3, (some 203), (.mov (.tmp 18)), none, 0⟩, ⟨4, (some 204), (.mov (.tmp 4)), none, 0⟩, ⟨5, (some 205), (.call (.val (.fn (Fn.func 95) [] [])) [(.tmp 200), (.tmp 201), (.tmp 202), (.tmp 203), (.tmp 204)]), none, 0⟩]) .skip)) (.seq (.ops [⟨0, (some 206), (.mov (.tmp 18)), none, 0⟩, ⟨1, (some 207), (.mov (.tmp 24)), none, 0⟩, ⟨2, (some 208), (.bin .lss (.tmp 206) (.tmp 207)), none, 0⟩, ⟨3, (some 209), (.mov (.tmp 208)), none, 0⟩, ⟨4, (some 210), (.mov (.tmp 24)), (some (209, true)), 0⟩, ⟨5, (some 211), (.mov (.tmp 3)), (some (209, true)), 0⟩, ⟨6, (some 212), (.bin .lss (.tmp 210) (.tmp 211)), (some (209, true)), 0⟩, ⟨7, (some 213), (.pick (.tmp 209) (.tmp 212) (.val (.bool false))), none, 0⟩]) (.cond (.tmp 213) (.ops [⟨0, (some 214), (.mov (.tmp 0)), none, 0⟩, ⟨1, (some 215), (.mov (.tmp 18)), none, 0⟩, ⟨2, (some 216), (.mov (.tmp 24)), none, 0⟩, ⟨3, (some 217), (.mov (.tmp 3)), none, 0⟩, ⟨4, (some 218), (.mov (.tmp 4)), none, 0⟩, ⟨5, (some 219), (.call (.val (.fn (Fn.func 95) [] [])) [(.tmp 214), (.tmp 215), (.tmp 216), (.tmp 217), (.tmp 218)]), none, 0⟩]) .skip)))))))))))))⟩
def af96 : AFunc := ⟨56, [], (.seq (.draw [⟨0, (some 9), (.load none (.tmp 1)), none, 0⟩, ⟨1, (some 10), (.nilck (.tmp 9)), none, 1⟩, ⟨2, (some 11), (.fieldA 0 (.tmp 10)), none, 3⟩, ⟨3, (some 12), (.fieldA 0 (.tmp 11)), none, 7⟩, ⟨4, (some 13), (.load none (.tmp 12)), none, 15⟩, ⟨5, (some 14), (.load none (.tmp 2)), none, 0⟩, ⟨6, (some 15), (.indexA 6 none (.tmp 13) (.tmp 14)), none, 63⟩, ⟨7, (some 16), (.load (some 6) (.tmp 15)), none, 127⟩, ⟨8, (some 5), (.alloc [(.int .i64 0), (.int .i64 0), (.int .i64 0), (.int .i64 0), (.int .i64 0), (.int .i64 0)]), none, 0⟩, ⟨9, none, (.store 6 (.tmp 5) (.tmp 16)), none, 511⟩]) (.seq .skip (.seq (.ops [⟨0, (some 17), (.fieldA 0 (.tmp 5)), none, 0⟩, ⟨1, (some 18), (.fieldA 0 (.tmp 17)), none, 0⟩, ⟨2, (some 19), (.load none (.tmp 18)), none, 0⟩, ⟨3, (some 6), (.mov (.tmp 19)), none, 0⟩]) (.block 0 (.loop [0, 2, 3, 5, 6] (.seq (.seq (.ops [⟨0, (some 20), (.mov (.tmp 6)), none, 0⟩, ⟨1, (some 21), (.fieldA 0 (.tmp 5)), none, 0⟩, ⟨2, (some 22), (.fieldA 1 (.tmp 21)), none, 0⟩, ⟨3, (some 23), (.load none (.tmp 22)), none, 0⟩, ⟨4, (some 24), (.bin .leq (.tmp 20) (.tmp 23)), none, 0⟩]) (.cond (.tmp 24) .skip (.exit 0))) (.seq (.block 1 (.seq (.ops [⟨0, (some 27), (.fieldA 2 (.tmp 5)), none, 0⟩, ⟨1, (some 28), (.fieldA 0 (.tmp 27)), none, 0⟩, ⟨2, (some 29), (.load none (.tmp 28)), none, 0⟩, ⟨3, (some 7), (.mov (.tmp 29)), none, 0⟩]) (.block 2 (.loop [0, 2, 3, 5, 6, 7] (.seq (.seq (.ops [⟨0, (some 30), (.mov (.tmp 7)), none, 0⟩, ⟨1, (some 31), (.fieldA 2 (.tmp 5)), none, 0⟩, ⟨2, (some 32), (.fieldA 1 (.tmp 31)), none, 0⟩, ⟨3, (some 33), (.load none (.tmp 32)), none, 0⟩, ⟨4, (some 34), (.bin .leq (.tmp 30) (.tmp 33)), none, 0⟩]) (.cond (.tmp 34) .skip (.exit 2))) (.seq (.block 3 (.seq (.ops [⟨0, (some 37), (.fieldA 4 (.tmp 5)), none, 0⟩, ⟨1, (some 38), (.fieldA 0 (.tmp 37)), none, 0⟩, ⟨2, (some 39), (.load none (.tmp 38)), none, 0⟩, ⟨3, (some 8), (.mov (.tmp 39)), none, 0⟩]) (.block 4 (.loop [0, 2, 3, 5, 6, 7, 8] (.seq (.seq (.ops [⟨0, (some 40), (.mov (.tmp 8)), none, 0⟩, ⟨1, (some 41), (.fieldA 4 (.tmp 5)), none, 0⟩, ⟨2, (some 42), (.fieldA 1 (.tmp 41)), none, 0⟩, ⟨3, (some 43), (.load none (.tmp 42)), none, 0⟩, ⟨4, (some 44), (.bin .leq (.tmp 40) (.tmp 43)), none, 0⟩]) (.cond (.tmp 44) .skip (.exit 4))) (.seq (.block 5 (.seq (.ops [⟨0, (some 47), (.mov (.tmp 0)), none, 0⟩, ⟨1, (some 48), (.load none (.tmp 2)), none, 0⟩, ⟨2, (some 49), (.mov (.tmp 6)), none, 0⟩, ⟨3, (some 50), (.mov (.tmp 7)), none, 0⟩, ⟨4, (some 51), (.mov (.tmp 8)), none, 0⟩, ⟨5, (some 52), (.load none (.tmp 3)), none, 0⟩, ⟨6, (some 53), (.build [(.int .i64 0), (.int .i64 0), (.int .i64 0), (.int .i64 0), (.int .i64 0)] [(0, (1, (.tmp 48))), (1, (1, (.tmp 49))), (2, (1, (.tmp 50))), (3, (1, (.tmp 51))), (4, (1, (.tmp 52)))]), none, 0⟩, ⟨7, (some 54), (.call (.tmp 47) [(.tmp 53)]), none, 0⟩, ⟨8, (some 55), (.not (.tmp 54)), none, 0⟩]) (.cond (.tmp 55) (.exit 0) .skip))) (.ops [⟨0, (some 45), (.mov (.tmp 8)), none, 0⟩, ⟨1, (some 46), (.bin .add (.tmp 45) (.val (.int .i64 1))), none, 0⟩, ⟨2, (some 8), (.mov (.tmp 46)), none, 0⟩]))))))) (.ops [⟨0, (some 35), (.mov (.tmp 7)), none, 0⟩, ⟨1, (some 36), (.bin .add (.tmp 35) (.val (.int .i64 1))), none, 0⟩, ⟨2, (some 7), (.mov (.tmp 36)), none, 0⟩]))))))) (.ops [⟨0, (some 25), (.mov (.tmp 6)), none, 0⟩, ⟨1, (some 26), (.bin .add (.tmp 25) (.val (.int .i64 1))), none, 0⟩, ⟨2, (some 6), (.mov (.tmp 26)), none, 0⟩]))))))))⟩
def af97 : AFunc := ⟨60, [(.tmp 6)], (.seq (.ops [⟨0, (some 6), (.mov (.val .nils)), none, 0⟩]) (.seq (.ops [⟨0, (some 10), (.mov (.tmp 0)), none, 0⟩, ⟨1, (some 11), (.nilck (.tmp 10)), none, 0⟩, ⟨2, (some 12), (.fieldA 0 (.tmp 11)), none, 0⟩, ⟨3, (some 13), (.fieldA 3 (.tmp 12)), none, 0⟩, ⟨4, (some 14), (.load none (.tmp 13)), none, 0⟩, ⟨5, (some 15), (.len (.tmp 14)), none, 0⟩, ⟨6, (some 16), (.mksl 1 [.nilif] (.tmp 15) (.tmp 15)), none, 0⟩, ⟨7, (some 7), (.mov (.tmp 16)), none, 0⟩]) (.seq (.seq (.ops [⟨0, (some 17), (.mov (.tmp 0)), none, 0⟩, ⟨1, (some 18), (.nilck (.tmp 17)), none, 0⟩, ⟨2, (some 19), (.fieldA 0 (.tmp 18)), none, 0⟩, ⟨3, (some 20), (.fieldA 3 (.tmp 19)), none, 0⟩, ⟨4, (some 21), (.load none (.tmp 20)), none, 0⟩, ⟨5, (some 22), (.len (.tmp 21)), none, 0⟩, ⟨6, (some 23), (.mov (.val (.int .i64 0))), none, 0⟩]) (.block 0 (.loop [1, 2, 7, 21, 22, 23] (.seq (.ops [⟨0, (some 24), (.bin .lss (.tmp 23) (.tmp 22)), none, 0⟩]) (.seq (.cond (.tmp 24) .skip (.exit 0)) (.seq (.block 1 (.seq (.ops [⟨0, (some 25), (.mov (.tmp 23)), none, 0⟩, ⟨1, (some 26), (.indexA 4 none (.tmp 21) (.tmp 23)), none, 0⟩, ⟨2, (some 27), (.load (some 4) (.tmp 26)), none, 0⟩, ⟨3, (some 9), (.alloc [(.int .i64 0), (.int .i64 0), (.int .i64 0), (.int .i64 0)]), none, 0⟩, ⟨4, (some 8), (.mov (.tmp 25)), none, 0⟩, ⟨5, none, (.store 4 (.tmp 9) (.tmp 27)), none, 0⟩]) (.block 2 (.seq (.ops [⟨0, (some 29), (.fieldA 1 (.tmp 9)), none, 0⟩, ⟨1, (some 30), (.load none (.tmp 29)), none, 0⟩, ⟨2, (some 31), (.mov (.tmp 1)), none, 0⟩, ⟨3, (some 32), (.bin .neq (.tmp 30) (.tmp 31)), none, 0⟩, ⟨4, (some 28), (.mov (.tmp 32)), none, 0⟩]) (.cond (.tmp 28) .skip (.seq (.ops [⟨0, (some 34), (.fieldA 0 (.tmp 9)), none, 0⟩, ⟨1, (some 35), (.load none (.tmp 34)), none, 0⟩, ⟨2, (some 36), (.bin .eql (.tmp 35) (.val (.int .i64 0))), none, 0⟩, ⟨3, (some 33), (.mov (.tmp 36)), none, 0⟩]) (.cond (.tmp 33) (.ops [⟨0, (some 37), (.mov (.tmp 7)), none, 0⟩, ⟨1, (some 38), (.mov (.tmp 8)), none, 0⟩, ⟨2, (some 39), (.fieldA 2 (.tmp 9)), none, 0⟩, ⟨3, (some 40), (.load (some 2) (.tmp 39)), none, 0⟩, ⟨4, (some 41), (.build [(.int .i64 0), (.int .i64 0)] [(0, (2, (.tmp 40)))]), none, 0⟩, ⟨5, (some 42), (.iface 143 (.tmp 41)), none, 0⟩, ⟨6, (some 43), (.indexA 1 none (.tmp 37) (.tmp 38)), none, 0⟩, ⟨7, none, (.store 1 (.tmp 43) (.tmp 42)), none, 0⟩]) (.seq (.ops [⟨0, (some 45), (.mov (.tmp 2)), none, 0⟩, ⟨1, (some 46), (.mov (.tmp 8)), none, 0⟩, ⟨2, (some 47), (.bin .shr (.tmp 45) (.tmp 46)), none, 0⟩, ⟨3, (some 48), (.bin .and (.tmp 47) (.val (.int .u64 1))), none, 0⟩, ⟨4, (some 49), (.bin .eql (.tmp 48) (.val (.int .u64 1))), none, 0⟩, ⟨5, (some 44), (.mov (.tmp 49)), none, 0⟩]) (.cond (.tmp 44) (.ops [⟨0, (some 50), (.mov (.tmp 7)), none, 0⟩, ⟨1, (some 51), (.mov (.tmp 8)), none, 0⟩, ⟨2, (some 52), (.fieldA 2 (.tmp 9)), none, 0⟩, ⟨3, (some 53), (.load (some 2) (.tmp 52)), none, 0⟩, ⟨4, (some 54), (.build [(.int .i64 0), (.int .i64 0)] [(0, (2, (.tmp 53)))]), none, 0⟩, ⟨5, (some 55), (.build [(.int .i64 0), (.int .i64 0)] [(0, (2, (.tmp 54)))]), none, 0⟩, ⟨6, (some 56), (.iface 145 (.tmp 55)), none, 0⟩, ⟨7, (some 57), (.indexA 1 none (.tmp 50) (.tmp 51)), none, 0⟩, ⟨8, none, (.store 1 (.tmp 57) (.tmp 56)), none, 0⟩]) .skip))))))))) (.ops [⟨0, (some 58), (.bin .add (.tmp 23) (.val (.int .i64 1))), none, 0⟩, ⟨1, (some 23), (.mov (.tmp 58)), none, 0⟩]))))))) (.seq (.ops [⟨0, (some 59), (.mov (.tmp 7)), none, 0⟩, ⟨1, (some 6), (.mov (.tmp 59)), none, 0⟩]) .ret))))⟩
def af98 : AFunc := ⟨36, [(.cell 4 (some 2))], (.seq (.ops [⟨0, (some 2), (.box (.tmp 0)), none, 0⟩, ⟨1, (some 3), (.box (.tmp 1)), none, 0⟩, ⟨2, (some 4), (.alloc [(.int .i64 0), (.int .i64 0)]), none, 0⟩]) (.seq (.seq (.ops [⟨0, (some 5), (.fieldA 0 (.tmp 2)), none, 0⟩, ⟨1, (some 6), (.fieldA 0 (.tmp 5)), none, 0⟩, ⟨2, (some 7), (.load none (.tmp 6)), none, 0⟩, ⟨3, (some 8), (.fieldA 0 (.tmp 3)), none, 0⟩, ⟨4, (some 9), (.fieldA 0 (.tmp 8)), none, 0⟩, ⟨5, (some 10), (.load none (.tmp 9)), none, 0⟩, ⟨6, (some 11), (.max [(.tmp 7), (.tmp 10)]), none, 0⟩, ⟨7, (some 12), (.fieldA 0 (.tmp 2)), none, 0⟩, ⟨8, (some 13), (.fieldA 0 (.tmp 12)), none, 0⟩, ⟨9, none, (.store 1 (.tmp 13) (.tmp 11)), none, 0⟩]) (.seq (.ops [⟨0, (some 14), (.fieldA 0 (.tmp 2)), none, 0⟩, ⟨1, (some 15), (.fieldA 0 (.tmp 14)), none, 0⟩, ⟨2, (some 16), (.load none (.tmp 15)), none, 0⟩, ⟨3, (some 17), (.fieldA 0 (.tmp 2)), none, 0⟩, ⟨4, (some 18), (.fieldA 1 (.tmp 17)), none, 0⟩, ⟨5, (some 19), (.load none (.tmp 18)), none, 0⟩, ⟨6, (some 20), (.fieldA 0 (.tmp 3)), none, 0⟩, ⟨7, (some 21), (.fieldA 1 (.tmp 20)), none, 0⟩, ⟨8, (some 22), (.load none (.tmp 21)), none, 0⟩, ⟨9, (some 23), (.min [(.tmp 19), (.tmp 22)]), none, 0⟩, ⟨10, (some 24), (.bin .gtr (.tmp 16) (.tmp 23)), none, 0⟩]) (.cond (.tmp 24) (.seq (.ops [⟨0, (some 25), (.call (.val (.fn (Fn.func 100) [] [])) []), none, 0⟩, ⟨1, none, (.store 2 (.tmp 4) (.tmp 25)), none, 0⟩]) .ret) .skip))) (.seq (.ops [⟨0, (some 26), (.fieldA 0 (.tmp 2)), none, 0⟩, ⟨1, (some 27), (.fieldA 1 (.tmp 26)), none, 0⟩, ⟨2, (some 28), (.load none (.tmp 27)), none, 0⟩, ⟨3, (some 29), (.fieldA 0 (.tmp 3)), none, 0⟩, ⟨4, (some 30), (.fieldA 1 (.tmp 29)), none, 0⟩, ⟨5, (some 31), (.load none (.tmp 30)), none, 0⟩, ⟨6, (some 32), (.min [(.tmp 28), (.tmp 31)]), none, 0⟩, ⟨7, (some 33), (.fieldA 0 (.tmp 2)), none, 0⟩, ⟨8, (some 34), (.fieldA 1 (.tmp 33)), none, 0⟩, ⟨9, none, (.store 1 (.tmp 34) (.tmp 32)), none, 0⟩]) (.seq (.ops [⟨0, (some 35), (.load (some 2) (.tmp 2)), none, 0⟩, ⟨1, none, (.store 2 (.tmp 4) (.tmp 35)), none, 0⟩]) .ret))))⟩
def af99 : AFunc := ⟨58, [], (.seq (.ops [⟨0, (some 12), (.mov (.tmp 2)), none, 0⟩, ⟨1, (some 13), (.mov (.tmp 1)), none, 0⟩, ⟨2, (some 14), (.bin .sub (.tmp 12) (.tmp 13)), none, 0⟩, ⟨3, (some 10), (.mov (.tmp 14)), none, 0⟩]) (.seq (.ops [⟨0, (some 15), (.mov (.tmp 3)), none, 0⟩, ⟨1, (some 16), (.mov (.tmp 2)), none, 0⟩, ⟨2, (some 17), (.bin .sub (.tmp 15) (.tmp 16)), none, 0⟩, ⟨3, (some 11), (.mov (.tmp 17)), none, 0⟩]) (.seq (.block 0 (.loop [0, 2, 4, 10, 11] (.seq (.seq (.ops [⟨0, (some 18), (.mov (.tmp 10)), none, 0⟩, ⟨1, (some 19), (.mov (.tmp 11)), none, 0⟩, ⟨2, (some 20), (.bin .neq (.tmp 18) (.tmp 19)), none, 0⟩]) (.cond (.tmp 20) .skip (.exit 0))) (.block 1 (.seq (.ops [⟨0, (some 21), (.mov (.tmp 10)), none, 0⟩, ⟨1, (some 22), (.mov (.tmp 11)), none, 0⟩, ⟨2, (some 23), (.bin .gtr (.tmp 21) (.tmp 22)), none, 0⟩]) (.cond (.tmp 23) (.seq (.ops [⟨0, (some 24), (.mov (.tmp 0)), none, 0⟩, ⟨1, (some 25), (.mov (.tmp 2)), none, 0⟩, ⟨2, (some 26), (.mov (.tmp 10)), none, 0⟩, ⟨3, (some 27), (.bin .sub (.tmp 25) (.tmp 26)), none, 0⟩, ⟨4, (some 28), (.mov (.tmp 2)), none, 0⟩, ⟨5, (some 29), (.mov (.tmp 11)), none, 0⟩, ⟨6, (some 30), (.mov (.tmp 4)), none, 0⟩, ⟨7, (some 31), (.call (.val (.fn (Fn.func 101) [] [])) [(.tmp 24), (.tmp 27), (.tmp 28), (.tmp 29), (.tmp 30)]), none, 0⟩]) (.ops [⟨0, (some 32), (.mov (.tmp 10)), none, 0⟩, ⟨1, (some 33), (.mov (.tmp 11)), none, 0⟩, ⟨2, (some 34), (.bin .sub (.tmp 32) (.tmp 33)), none, 0⟩, ⟨3, (some 10), (.mov (.tmp 34)), none, 0⟩])) (.seq (.ops [⟨0, (some 35), (.mov (.tmp 0)), none, 0⟩, ⟨1, (some 36), (.mov (.tmp 2)), none, 0⟩, ⟨2, (some 37), (.mov (.tmp 10)), none, 0⟩, ⟨3, (some 38), (.bin .sub (.tmp 36) (.tmp 37)), none, 0⟩, ⟨4, (some 39), (.mov (.tmp 2)), none, 0⟩, ⟨5, (some 40), (.mov (.tmp 11)), none, 0⟩, ⟨6, (some 41), (.bin .add (.tmp 39) (.tmp 40)), none, 0⟩, ⟨7, (some 42), (.mov (.tmp 10)), none, 0⟩, ⟨8, (some 43), (.bin .sub (.tmp 41) (.tmp 42)), none, 0⟩, ⟨9, (some 44), (.mov (.tmp 10)), none, 0⟩, ⟨10, (some 45), (.mov (.tmp 4)), none, 0⟩, ⟨11, (some 46), (.call (.val (.fn (Fn.func 101) [] [])) [(.tmp 35), (.tmp 38), (.tmp 43), (.tmp 44), (.tmp 45)]), none, 0⟩]) (.ops [⟨0, (some 47), (.mov (.tmp 11)), none, 0⟩, ⟨1, (some 48), (.mov (.tmp 10)), none, 0⟩, ⟨2, (some 49), (.bin .sub (.tmp 47) (.tmp 48)), none, 0⟩, ⟨3, (some 11), (.mov (.tmp 49)), none, 0⟩])))))))) (.ops [⟨0, (some 50), (.mov (.tmp 0)), none, 0⟩, ⟨1, (some 51), (.mov (.tmp 2)), none, 0⟩, ⟨2, (some 52), (.mov (.tmp 10)), none, 0⟩, ⟨3, (some 53), (.bin .sub (.tmp 51) (.tmp 52)), none, 0⟩, ⟨4, (some 54), (.mov (.tmp 2)), none, 0⟩, ⟨5, (some 55), (.mov (.tmp 10)), none, 0⟩, ⟨6, (some 56), (.mov (.tmp 4)), none, 0⟩, ⟨7, (some 57), (.call (.val (.fn (Fn.func 101) [] [])) [(.tmp 50), (.tmp 53), (.tmp 54), (.tmp 55), (.tmp 56)]), none, 0⟩]))))⟩
def af100 : AFunc := ⟨3, [(.cell 0 (some 2))], (.seq (.ops [⟨0, (some 0), (.alloc [(.int .i64 0), (.int .i64 0)]), none, 0⟩]) (.seq (.ops [⟨0, (some 1), (.build [(.int .i64 0), (.int .i64 0)] [(0, (1, (.val (.int .i64 1))))]), none, 0⟩, ⟨1, (some 2), (.build [(.int .i64 0), (.int .i64 0)] [(0, (2, (.tmp 1)))]), none, 0⟩, ⟨2, none, (.store 2 (.tmp 0) (.tmp 2)), none, 0⟩]) .ret))⟩
def af101 : AFunc := ⟨38, [], (.seq (.ops [⟨0, (some 10), (.mov (.val (.int .i64 0))), none, 0⟩]) (.block 0 (.loop [0, 1, 2, 3, 10] (.seq (.seq (.ops [⟨0, (some 11), (.mov (.tmp 10)), none, 0⟩, ⟨1, (some 12), (.mov (.tmp 3)), none, 0⟩, ⟨2, (some 13), (.bin .lss (.tmp 11) (.tmp 12)), none, 0⟩]) (.cond (.tmp 13) .skip (.exit 0))) (.seq (.block 1 (.draw [⟨0, (some 16), (.mov (.tmp 0)), none, 0⟩, ⟨1, (some 17), (.mov (.tmp 1)), none, 0⟩, ⟨2, (some 18), (.mov (.tmp 10)), none, 0⟩, ⟨3, (some 19), (.bin .add (.tmp 17) (.tmp 18)), none, 6⟩, ⟨4, (some 20), (.mov (.tmp 0)), none, 0⟩, ⟨5, (some 21), (.mov (.tmp 2)), none, 0⟩, ⟨6, (some 22), (.mov (.tmp 10)), none, 0⟩, ⟨7, (some 23), (.bin .add (.tmp 21) (.tmp 22)), none, 96⟩, ⟨8, (some 24), (.mov (.tmp 0)), none, 0⟩, ⟨9, (some 25), (.mov (.tmp 2)), none, 0⟩, ⟨10, (some 26), (.mov (.tmp 10)), none, 0⟩, ⟨11, (some 27), (.bin .add (.tmp 25) (.tmp 26)), none, 1536⟩, ⟨12, (some 28), (.indexA 1 none (.tmp 24) (.tmp 27)), none, 3840⟩, ⟨13, (some 29), (.load none (.tmp 28)), none, 7936⟩, ⟨14, (some 30), (.mov (.tmp 0)), none, 0⟩, ⟨15, (some 31), (.mov (.tmp 1)), none, 0⟩, ⟨16, (some 32), (.mov (.tmp 10)), none, 0⟩, ⟨17, (some 33), (.bin .add (.tmp 31) (.tmp 32)), none, 98304⟩, ⟨18, (some 34), (.indexA 1 none (.tmp 30) (.tmp 33)), none, 245760⟩, ⟨19, (some 35), (.load none (.tmp 34)), none, 507904⟩, ⟨20, (some 36), (.indexA 1 none (.tmp 16) (.tmp 19)), none, 1048335⟩, ⟨21, none, (.store 1 (.tmp 36) (.tmp 29)), none, 2096911⟩, ⟨22, (some 37), (.indexA 1 none (.tmp 20) (.tmp 23)), none, 4194303⟩, ⟨23, none, (.store 1 (.tmp 37) (.tmp 35)), none, 8388607⟩])) (.ops [⟨0, (some 14), (.mov (.tmp 10)), none, 0⟩, ⟨1, (some 15), (.bin .add (.tmp 14) (.val (.int .i64 1))), none, 0⟩, ⟨2, (some 10), (.mov (.tmp 15)), none, 0⟩]))))))⟩
def af117 : AFunc := ⟨35, [(.cell 4 (some 2))], (.seq (.ops [⟨0, (some 2), (.box (.tmp 0)), none, 0⟩, ⟨1, (some 3), (.box (.tmp 1)), none, 0⟩, ⟨2, (some 4), (.alloc [(.int .i64 0), (.int .i64 0)]), none, 0⟩]) (.seq (.seq (.ops [⟨0, (some 5), (.load (some 2) (.tmp 3)), none, 0⟩, ⟨1, (some 6), (.call (.val (.fn (Fn.func 91) [] [])) [(.tmp 5)]), none, 0⟩, ⟨2, (some 7), (.not (.tmp 6)), none, 0⟩, ⟨3, (some 8), (.mov (.tmp 7)), none, 0⟩, ⟨4, (some 9), (.fieldA 0 (.tmp 3)), (some (8, false)), 0⟩, ⟨5, (some 10), (.fieldA 1 (.tmp 9)), (some (8, false)), 0⟩, ⟨6, (some 11), (.load none (.tmp 10)), (some (8, false)), 0⟩, ⟨7, (some 12), (.fieldA 0 (.tmp 2)), (some (8, false)), 0⟩, ⟨8, (some 13), (.fieldA 0 (.tmp 12)), (some (8, false)), 0⟩, ⟨9, (some 14), (.load none (.tmp 13)), (some (8, false)), 0⟩, ⟨10, (some 15), (.bin .lss (.tmp 11) (.tmp 14)), (some (8, false)), 0⟩, ⟨11, (some 16), (.pick (.tmp 8) (.val (.bool true)) (.tmp 15)), none, 0⟩]) (.cond (.tmp 16) (.seq (.ops [⟨0, (some 17), (.call (.val (.fn (Fn.func 100) [] [])) []), none, 0⟩, ⟨1, none, (.store 2 (.tmp 4) (.tmp 17)), none, 0⟩]) .ret) .skip)) (.seq (.ops [⟨0, (some 18), (.fieldA 0 (.tmp 3)), none, 0⟩, ⟨1, (some 19), (.fieldA 0 (.tmp 18)), none, 0⟩, ⟨2, (some 20), (.load none (.tmp 19)), none, 0⟩, ⟨3, (some 21), (.fieldA 0 (.tmp 2)), none, 0⟩, ⟨4, (some 22), (.fieldA 1 (.tmp 21)), none, 0⟩, ⟨5, (some 23), (.load none (.tmp 22)), none, 0⟩, ⟨6, (some 24), (.bin .sub (.tmp 20) (.tmp 23)), none, 0⟩, ⟨7, (some 25), (.max [(.val (.int .i64 0)), (.tmp 24)]), none, 0⟩, ⟨8, (some 26), (.fieldA 0 (.tmp 3)), none, 0⟩, ⟨9, (some 27), (.fieldA 1 (.tmp 26)), none, 0⟩, ⟨10, (some 28), (.load none (.tmp 27)), none, 0⟩, ⟨11, (some 29), (.fieldA 0 (.tmp 2)), none, 0⟩, ⟨12, (some 30), (.fieldA 0 (.tmp 29)), none, 0⟩, ⟨13, (some 31), (.load none (.tmp 30)), none, 0⟩, ⟨14, (some 32), (.bin .sub (.tmp 28) (.tmp 31)), none, 0⟩, ⟨15, (some 33), (.build [(.int .i64 0), (.int .i64 0)] [(0, (1, (.tmp 25))), (1, (1, (.tmp 32)))]), none, 0⟩, ⟨16, (some 34), (.build [(.int .i64 0), (.int .i64 0)] [(0, (2, (.tmp 33)))]), none, 0⟩, ⟨17, none, (.store 2 (.tmp 4) (.tmp 34)), none, 0⟩]) .ret)))⟩
def af118 : AFunc := ⟨25, [(.cell 4 (some 2))], (.seq (.ops [⟨0, (some 2), (.box (.tmp 0)), none, 0⟩, ⟨1, (some 3), (.box (.tmp 1)), none, 0⟩, ⟨2, (some 4), (.alloc [(.int .i64 0), (.int .i64 0)]), none, 0⟩]) (.seq (.seq (.ops [⟨0, (some 5), (.load (some 2) (.tmp 3)), none, 0⟩, ⟨1, (some 6), (.call (.val (.fn (Fn.func 91) [] [])) [(.tmp 5)]), none, 0⟩, ⟨2, (some 7), (.not (.tmp 6)), none, 0⟩]) (.cond (.tmp 7) (.seq (.ops [⟨0, (some 8), (.call (.val (.fn (Fn.func 100) [] [])) []), none, 0⟩, ⟨1, none, (.store 2 (.tmp 4) (.tmp 8)), none, 0⟩]) .ret) .skip)) (.seq (.ops [⟨0, (some 9), (.fieldA 0 (.tmp 3)), none, 0⟩, ⟨1, (some 10), (.fieldA 0 (.tmp 9)), none, 0⟩, ⟨2, (some 11), (.load none (.tmp 10)), none, 0⟩, ⟨3, (some 12), (.fieldA 0 (.tmp 2)), none, 0⟩, ⟨4, (some 13), (.fieldA 0 (.tmp 12)), none, 0⟩, ⟨5, (some 14), (.load none (.tmp 13)), none, 0⟩, ⟨6, (some 15), (.bin .add (.tmp 11) (.tmp 14)), none, 0⟩, ⟨7, (some 16), (.fieldA 0 (.tmp 3)), none, 0⟩, ⟨8, (some 17), (.fieldA 1 (.tmp 16)), none, 0⟩, ⟨9, (some 18), (.load none (.tmp 17)), none, 0⟩, ⟨10, (some 19), (.fieldA 0 (.tmp 2)), none, 0⟩, ⟨11, (some 20), (.fieldA 1 (.tmp 19)), none, 0⟩, ⟨12, (some 21), (.load none (.tmp 20)), none, 0⟩, ⟨13, (some 22), (.bin .add (.tmp 18) (.tmp 21)), none, 0⟩, ⟨14, (some 23), (.build [(.int .i64 0), (.int .i64 0)] [(0, (1, (.tmp 15))), (1, (1, (.tmp 22)))]), none, 0⟩, ⟨15, (some 24), (.build [(.int .i64 0), (.int .i64 0)] [(0, (2, (.tmp 23)))]), none, 0⟩, ⟨16, none, (.store 2 (.tmp 4) (.tmp 24)), none, 0⟩]) .ret)))⟩
def af119 : AFunc := ⟨9, [(.cell 4 (some 2))], (.seq (.ops [⟨0, (some 2), (.box (.tmp 0)), none, 0⟩, ⟨1, (some 3), (.box (.tmp 1)), none, 0⟩, ⟨2, (some 4), (.alloc [(.int .i64 0), (.int .i64 0)]), none, 0⟩]) (.seq (.ops [⟨0, (some 5), (.load (some 2) (.tmp 3)), none, 0⟩, ⟨1, (some 6), (.fieldA 0 (.tmp 2)), none, 0⟩, ⟨2, (some 7), (.load (some 2) (.tmp 6)), none, 0⟩, ⟨3, (some 8), (.call (.val (.fn (Fn.func 98) [] [])) [(.tmp 5), (.tmp 7)]), none, 0⟩, ⟨4, none, (.store 2 (.tmp 4) (.tmp 8)), none, 0⟩]) .ret))⟩
def af120 : AFunc := ⟨9, [(.cell 4 (some 2))], (.seq (.ops [⟨0, (some 2), (.box (.tmp 0)), none, 0⟩, ⟨1, (some 3), (.box (.tmp 1)), none, 0⟩, ⟨2, (some 4), (.alloc [(.int .i64 0), (.int .i64 0)]), none, 0⟩]) (.seq (.ops [⟨0, (some 5), (.load (some 2) (.tmp 3)), none, 0⟩, ⟨1, (some 6), (.fieldA 0 (.tmp 2)), none, 0⟩, ⟨2, (some 7), (.load (some 2) (.tmp 6)), none, 0⟩, ⟨3, (some 8), (.call (.val (.fn (Fn.func 98) [] [])) [(.tmp 5), (.tmp 7)]), none, 0⟩, ⟨4, none, (.store 2 (.tmp 4) (.tmp 8)), none, 0⟩]) .ret))⟩
end Ev
end Go.Proofs.Ytimgnlellflciaa

/- The code of package clamp and of the laws of chapter 09: the table. Printed by program. -/
namespace Go.Proofs.Ytimgnlellflciaa
open Go
namespace Ev
def fnTree : FT := (.node 62 af62 (.node 40 af40 (.node 20 af20 (.node 15 af15 (.node 12 af12 (.node 11 af11 (.node 10 af10 .leaf .leaf) .leaf) (.node 14 af14 (.node 13 af13 .leaf .leaf) .leaf)) (.node 18 af18 (.node 17 af17 (.node 16 af16 .leaf .leaf) .leaf) (.node 19 af19 .leaf .leaf))) (.node 34 af34 (.node 25 af25 (.node 22 af22 (.node 21 af21 .leaf .leaf) .leaf) (.node 29 af29 (.node 26 af26 .leaf .leaf) .leaf)) (.node 38 af38 (.node 37 af37 (.node 35 af35 .leaf .leaf) .leaf) (.node 39 af39 .leaf .leaf)))) (.node 51 af51 (.node 46 af46 (.node 43 af43 (.node 42 af42 (.node 41 af41 .leaf .leaf) .leaf) (.node 45 af45 (.node 44 af44 .leaf .leaf) .leaf)) (.node 49 af49 (.node 48 af48 (.node 47 af47 .leaf .leaf) .leaf) (.node 50 af50 .leaf .leaf))) (.node 57 af57 (.node 54 af54 (.node 53 af53 (.node 52 af52 .leaf .leaf) .leaf) (.node 56 af56 (.node 55 af55 .leaf .leaf) .leaf)) (.node 60 af60 (.node 59 af59 (.node 58 af58 .leaf .leaf) .leaf) (.node 61 af61 .leaf .leaf))))) (.node 85 af85 (.node 74 af74 (.node 69 af69 (.node 65 af65 (.node 64 af64 (.node 63 af63 .leaf .leaf) .leaf) (.node 67 af67 (.node 66 af66 .leaf .leaf) .leaf)) (.node 72 af72 (.node 71 af71 (.node 70 af70 .leaf .leaf) .leaf) (.node 73 af73 .leaf .leaf))) (.node 80 af80 (.node 77 af77 (.node 76 af76 (.node 75 af75 .leaf .leaf) .leaf) (.node 79 af79 (.node 78 af78 .leaf .leaf) .leaf)) (.node 83 af83 (.node 82 af82 (.node 81 af81 .leaf .leaf) .leaf) (.node 84 af84 .leaf .leaf)))) (.node 96 af96 (.node 91 af91 (.node 88 af88 (.node 87 af87 (.node 86 af86 .leaf .leaf) .leaf) (.node 90 af90 (.node 89 af89 .leaf .leaf) .leaf)) (.node 94 af94 (.node 93 af93 (.node 92 af92 .leaf .leaf) .leaf) (.node 95 af95 .leaf .leaf))) (.node 101 af101 (.node 99 af99 (.node 98 af98 (.node 97 af97 .leaf .leaf) .leaf) (.node 100 af100 .leaf .leaf)) (.node 119 af119 (.node 118 af118 (.node 117 af117 .leaf .leaf) .leaf) (.node 120 af120 .leaf .leaf))))))
end Ev
end Go.Proofs.Ytimgnlellflciaa

/- Clamps, plainly: what package clamp computes. No program in sight. -/
namespace Go.Proofs.Ytimgnlellflciaa
open Go
namespace Clm
structure Sp where
  lo : Int
  hi : Int
  deriving DecidableEq, Inhabited
structure Pl where
  long : Sp
  wide : Sp
  high : Sp
  deriving DecidableEq, Inhabited
structure Evt where
  kind : Int
  clamp : Int
  sods : Sp
  deriving DecidableEq, Inhabited
structure Cl where
  piles : List Pl
  pack : Sp
  events : List Evt
def Sp.no : Sp := ⟨1, 0⟩
def Sp.some (k : Sp) : Bool := decide (k.lo ≤ k.hi)
def Sp.both (k o : Sp) : Sp := if max k.lo o.lo > min k.hi o.hi then Sp.no else ⟨max k.lo o.lo, min k.hi o.hi⟩
def Sp.either (k o : Sp) : Sp := ⟨min k.lo o.lo, max k.hi o.hi⟩
inductive Bf where
  | nil
  | sale (s : Sp)
  | count (s : Sp)
def Bf.after : Bf → Sp → Sp
  | .nil, k => k
  | .sale s, k => if k.some = false ∨ k.hi < s.lo then Sp.no else ⟨max 0 (k.lo - s.hi), k.hi - s.lo⟩
  | .count s, k => k.both s
def Bf.before : Bf → Sp → Sp
  | .nil, k => k
  | .sale s, k => if k.some = false then Sp.no else ⟨k.lo + s.lo, k.hi + s.hi⟩
  | .count s, k => k.both s
def logs : List Bf → Sp → List Sp
  | [], k => [k]
  | e :: l, k => k.both (e.before ((logs l (e.after k)).headD Sp.no)) :: logs l (e.after k)
def Goes : List Bf → Int → Int → Prop
  | [], x, y => y = x
  | .nil :: l, x, y => Goes l x y
  | .sale s :: l, x, y => ∃ k, s.lo ≤ k ∧ k ≤ s.hi ∧ k ≤ x ∧ Goes l (x - k) y
  | .count s :: l, x, y => s.lo ≤ x ∧ x ≤ s.hi ∧ Goes l x y
def Sp.has (k : Sp) (x : Int) : Prop := k.lo ≤ x ∧ x ≤ k.hi
def Bf.fine : Bf → Prop
  | .sale s => 0 ≤ s.lo ∧ s.lo ≤ s.hi
  | _ => True
theorem has_no (x : Int) : ¬ Sp.no.has x := by simp only [Sp.has, Sp.no]; omega
theorem zfz (k : Sp) : k.some = true ↔ k.lo ≤ k.hi := by simp [Sp.some]
theorem zic (k : Sp) : k.some = true ↔ ∃ x, k.has x := by
  rw [zfz]; exact ⟨fun h => ⟨k.lo, by simp [Sp.has]; omega⟩, fun ⟨x, h⟩ => by simp only [Sp.has] at h; omega⟩
theorem zig (k o : Sp) (x : Int) : (k.both o).has x ↔ k.has x ∧ o.has x := by
  unfold Sp.both
  split
  · simp only [Sp.has, Sp.no]; omega
  · simp only [Sp.has]; omega
theorem zjd (e : Bf) (h : e.fine) (k : Sp) (_hk : 0 ≤ k.lo) (y : Int) : (e.after k).has y ↔ ∃ x, k.has x ∧ Goes [e] x y := by
  cases e with
  | nil => simp [Bf.after, Goes]
  | count s =>
    simp only [Bf.after, zig, Goes]
    simp only [Sp.has]
    exact ⟨fun h => ⟨y, h.1, h.2.1, h.2.2, rfl⟩, fun ⟨x, h1, h2, h3, h4⟩ => by subst h4; exact ⟨h1, h2, h3⟩⟩
  | sale s =>
    simp only [Bf.fine] at h
    simp only [Bf.after, Goes]
    by_cases hn : k.some = false ∨ k.hi < s.lo
    · rw [if_pos hn]
      simp only [Sp.some, decide_eq_false_iff_not] at hn
      simp only [Sp.has, Sp.no]
      constructor
      · omega
      · rintro ⟨x, h1, k', h2, h3, h4, rfl⟩; omega
    · rw [if_neg hn]
      simp only [Sp.some, decide_eq_false_iff_not] at hn
      simp only [Sp.has]
      constructor
      · intro hy
        by_cases hc : y + s.lo < k.lo
        · exact ⟨k.lo, by omega, k.lo - y, by omega, by omega, by omega, by omega⟩
        · exact ⟨y + s.lo, by omega, s.lo, by omega, by omega, by omega, by omega⟩
      · rintro ⟨x, h1, k', h2, h3, h4, rfl⟩; omega
theorem zfn (e : Bf) (k : Sp) (hk : 0 ≤ k.lo) : 0 ≤ (e.after k).lo := by
  cases e with
  | nil => exact hk
  | count s => unfold Bf.after Sp.both; simp only; split <;> simp only [Sp.no] <;> omega
  | sale s => unfold Bf.after; simp only; split <;> simp only [Sp.no] <;> omega
theorem zdd (e : Bf) (l : List Bf) (x y : Int) : Goes (e :: l) x y ↔ ∃ z, Goes [e] x z ∧ Goes l z y := by
  cases e with
  | nil => simp [Goes]
  | count s => simp only [Goes]; exact ⟨fun h => ⟨x, ⟨h.1, h.2.1, rfl⟩, h.2.2⟩, fun ⟨z, ⟨h1, h2, h3⟩, h4⟩ => by subst h3; exact ⟨h1, h2, h4⟩⟩
  | sale s =>
    simp only [Goes]
    exact ⟨fun ⟨k, h1, h2, h3, h4⟩ => ⟨x - k, ⟨k, h1, h2, h3, rfl⟩, h4⟩, fun ⟨z, ⟨k, h1, h2, h3, e⟩, h4⟩ => by subst e; exact ⟨k, h1, h2, h3, h4⟩⟩
theorem zsj (e : Bf) (h : e.fine) (o : Sp) (x : Int) (_ho : 0 ≤ o.lo) : (e.before o).has x ↔ (match e with | .sale s => o.some = true ∧ o.lo + s.lo ≤ x ∧ x ≤ o.hi + s.hi | .count s => o.has x ∧ s.has x | .nil => o.has x) := by
  cases e with
  | nil => rfl
  | count s => exact zig ..
  | sale s =>
    simp only [Bf.before]
    split
    · rename_i hn; simp only [hn, Bool.false_eq_true, false_and, iff_false]; exact has_no x
    · rename_i hn; rw [Bool.not_eq_false] at hn; simp only [hn, true_and, Sp.has]
theorem zmu : ∀ (l : List Bf) (k : Sp), (∀ e ∈ l, e.fine) → 0 ≤ k.lo →
    0 ≤ ((logs l k).headD Sp.no).lo ∧ (∀ x, ((logs l k).headD Sp.no).has x ↔ k.has x ∧ ∃ y, Goes l x y)
  | [], k, _, hk => by
    simp only [logs, List.headD_cons, Goes]
    exact ⟨hk, fun x => ⟨fun h => ⟨h, x, rfl⟩, fun h => h.1⟩⟩
  | e :: l, k, hf, hk => by
    have he := hf e (by simp)
    obtain ⟨ih0, ih⟩ := zmu l (e.after k) (fun e h => hf e (by simp [h])) (zfn e k hk)
    simp only [logs, List.headD_cons]
    generalize (logs l (e.after k)).headD Sp.no = o at ih0 ih ⊢
    refine ⟨?_, fun x => ?_⟩
    · unfold Sp.both; split <;> simp only [Sp.no] <;> omega
    · rw [zig, zsj e he o x ih0]
      refine and_congr_right fun hx => ?_
      cases e with
      | nil => simp only [ih, Bf.after, Goes]; exact ⟨fun h => h.2, fun h => ⟨hx, h⟩⟩
      | count s =>
        simp only [ih, Bf.after, zig, Goes]
        exact ⟨fun ⟨⟨_, y, h⟩, h2⟩ => ⟨y, h2.1, h2.2, h⟩, fun ⟨y, h1, h2, h3⟩ => ⟨⟨⟨hx, h1, h2⟩, y, h3⟩, h1, h2⟩⟩
      | sale s =>
        simp only
        constructor
        · rintro ⟨h1, h2, h3⟩
          rw [zfz] at h1
          simp only [Bf.fine] at he
          have hz : ∃ z, o.has z ∧ s.lo ≤ x - z ∧ x - z ≤ s.hi := by
            by_cases hc : x - s.lo ≤ o.hi
            · exact ⟨x - s.lo, ⟨by omega, by omega⟩, by omega, by omega⟩
            · exact ⟨o.hi, ⟨by omega, by omega⟩, by omega, by omega⟩
          obtain ⟨z, hz, h4, h5⟩ := hz
          obtain ⟨hz1, y, hy⟩ := (ih z).1 hz
          have hz0 : 0 ≤ z := by simp only [Sp.has] at hz; omega
          refine ⟨y, x - z, h4, h5, by omega, ?_⟩
          rw [show x - (x - z) = z by omega]; exact hy
        · rintro ⟨y, k', h1, h2, h3, h4⟩
          have := (ih (x - k')).2 ⟨(zjd _ he k hk _).2 ⟨x, hx, k', h1, h2, h3, rfl⟩, y, h4⟩
          simp only [Sp.has] at this
          exact ⟨(zfz _).2 (by omega), by omega, by omega⟩
theorem zqf : ∀ (l : List Bf) (k : Sp), (logs l k).length = l.length + 1
  | [], _ => rfl
  | e :: l, k => by simp [logs, zqf l]
def ends (l : List Bf) (k : Sp) : Sp := l.foldl (fun k e => e.after k) k
theorem zjb : ∀ (l : List Bf) (k : Sp), (logs l k)[l.length]? = some (ends l k)
  | [], _ => rfl
  | e :: l, k => by simp only [logs, List.length_cons, List.getElem?_cons_succ, ends, List.foldl_cons]; exact zjb l _
theorem zqw : ∀ (l : List Bf) (k : Sp), (∀ e ∈ l, e.fine) → 0 ≤ k.lo → ∀ y, (ends l k).has y ↔ ∃ x, k.has x ∧ Goes l x y
  | [], k, _, _, y => by simp [ends, Goes]
  | e :: l, k, hf, hk, y => by
    have he := hf e (by simp)
    have ih := zqw l (e.after k) (fun e h => hf e (by simp [h])) (zfn e k hk) y
    simp only [ends, List.foldl_cons] at ih ⊢
    rw [ih]
    constructor
    · rintro ⟨z, h1, h2⟩
      obtain ⟨x, h3, h4⟩ := (zjd e he k hk z).1 h1
      exact ⟨x, h3, (zdd ..).2 ⟨z, h4, h2⟩⟩
    · rintro ⟨x, h1, h2⟩
      obtain ⟨z, h3, h4⟩ := (zdd ..).1 h2
      exact ⟨z, (zjd e he k hk z).2 ⟨x, h1, h3⟩, h4⟩
theorem zwl : ∀ (l : List Bf) (k : Sp), 0 ≤ k.lo → 0 ≤ (ends l k).lo
  | [], _, h => h
  | e :: l, k, h => zwl l (e.after k) (zfn e k h)
theorem zmv (l : List Bf) (n : Int) (hf : ∀ e ∈ l, e.fine) (hn : 0 ≤ n) : ((logs l ⟨n, n⟩).headD Sp.no).some = true ↔ ∃ y, Goes l n y := by
  obtain ⟨_, h⟩ := zmu l ⟨n, n⟩ hf hn
  rw [zic]
  constructor
  · rintro ⟨x, hx⟩
    obtain ⟨h1, y, h2⟩ := (h x).1 hx
    simp only [Sp.has] at h1
    have e : x = n := by omega
    subst e; exact ⟨y, h2⟩
  · rintro ⟨y, hy⟩
    exact ⟨n, (h n).2 ⟨⟨Int.le_refl _, Int.le_refl _⟩, y, hy⟩⟩
theorem zgj (l : List Bf) (n y : Int) (hf : ∀ e ∈ l, e.fine) (hn : 0 ≤ n) : (ends l ⟨n, n⟩).has y ↔ Goes l n y := by
  rw [zqw l _ hf hn]
  constructor
  · rintro ⟨x, h1, h2⟩
    simp only [Sp.has] at h1
    have e : x = n := by omega
    subst e; exact h2
  · exact fun h => ⟨n, ⟨Int.le_refl _, Int.le_refl _⟩, h⟩

def bit (s : Nat) (i : Nat) : Bool := s.testBit i
def befell (c : Cl) (number : Int) (counts : Nat) : List Bf :=
  c.events.zipIdx.map fun p => if p.1.clamp ≠ number then .nil else if p.1.kind = 0 then .sale p.1.sods else if bit counts p.2 then .count p.1.sods else .nil
def spanL (s : Sp) : List Int := (List.range (s.hi + 1 - s.lo).toNat).map fun (i : Nat) => s.lo + (i : Int)
structure Size where
  l : Int
  w : Int
  h : Int
  deriving DecidableEq, Inhabited
def sizes (p : Pl) : List Size := (spanL p.long).flatMap fun l => (spanL p.wide).flatMap fun w => (spanL p.high).map fun h => ⟨l, w, h⟩
def Size.sods (s : Size) (pack : Int) : Int := s.l * s.w * s.h * pack
def logOf (c : Cl) (number : Nat) (pack : Int) (counts : Nat) (s : Size) : List Sp := logs (befell c number counts) ⟨s.sods pack, s.sods pack⟩
structure Way where
  size : Size
  log : List Sp
def ways (c : Cl) (number : Nat) (pack : Int) (counts : Nat) : List Way :=
  (sizes (c.piles.getD number default)).filterMap fun s => if ((logOf c number pack counts s).headD Sp.no).some then some ⟨s, logOf c number pack counts s⟩ else none
def packs (c : Cl) (counts : Nat) : List Int := (spanL c.pack).filter fun k => (List.range c.piles.length).all fun i => !(ways c i k counts).isEmpty
def can (c : Cl) (counts : Nat) : Bool := !(packs c counts).isEmpty
def hull : List Sp → Sp
  | [] => ⟨0, 0⟩
  | k :: l => l.foldl (fun k x => k.either x) k
def every (c : Cl) : Nat := 2 ^ c.events.length - 1
def spanOf (c : Cl) (number : Nat) (pack : Int) (f : Way → Sp) : Sp := hull ((ways c number pack (every c)).map f)
def ofAll (c : Cl) (number : Nat) (f : Int → Way → Sp) : Sp := hull ((packs c (every c)).map fun k => spanOf c number k (f k))
def leftW (c : Cl) (w : Way) : Sp := w.log.getD c.events.length ⟨0, 0⟩
def together (c : Cl) (set : Nat) : Sp := hull ((packs c (every c)).map fun k => (List.range c.piles.length).foldl (fun acc i => if bit set i then ⟨acc.lo + (spanOf c i k (leftW c)).lo, acc.hi + (spanOf c i k (leftW c)).hi⟩ else acc) ⟨0, 0⟩)
def isSpan (s : Sp) (low high wide : Int) : Bool := decide (low ≤ s.lo ∧ s.lo ≤ s.hi ∧ s.hi ≤ high ∧ s.hi - s.lo ≤ wide)
def valid (c : Cl) : Bool := decide (1 ≤ c.piles.length ∧ c.piles.length ≤ 4) && isSpan c.pack 1 5 2 && decide (c.events.length ≤ 6) &&
  c.piles.all (fun p => isSpan p.long 1 10 1 && isSpan p.wide 1 10 1 && isSpan p.high 1 10 1) &&
  c.events.all (fun v => decide (0 ≤ v.clamp ∧ v.clamp < c.piles.length) && decide (v.kind = 0 ∨ v.kind = 1) && isSpan v.sods 0 5000 (if v.kind = 0 then 3 else 5000))
end Clm
end Go.Proofs.Ytimgnlellflciaa

/- Spans as hulls of numbers that are possible. -/
namespace Go.Proofs.Ytimgnlellflciaa
open Go
namespace Clm
structure Hull (s : Sp) (P : Int → Prop) : Prop where
  lo : P s.lo
  hi : P s.hi
  all : ∀ x, P x → s.has x
theorem Hull.uniq {s t : Sp} {P : Int → Prop} (h : Hull s P) (g : Hull t P) : s = t := by
  obtain ⟨a, b⟩ := s
  obtain ⟨c, d⟩ := t
  have h1 := h.all _ g.lo; have h2 := h.all _ g.hi; have h3 := g.all _ h.lo; have h4 := g.all _ h.hi
  simp only [Sp.has] at h1 h2 h3 h4
  have e1 : a = c := by omega
  have e2 : b = d := by omega
  rw [e1, e2]
theorem Hull.congr {s : Sp} {P Q : Int → Prop} (h : Hull s P) (e : ∀ x, P x ↔ Q x) : Hull s Q := ⟨(e _).1 h.lo, (e _).1 h.hi, fun x hx => h.all x ((e x).2 hx)⟩
theorem Hull.le {s : Sp} {P : Int → Prop} (h : Hull s P) : s.lo ≤ s.hi := (h.all _ h.hi).1
theorem zna {s : Sp} (h : s.some = true) : Hull s s.has := by
  rw [zfz] at h; exact ⟨⟨Int.le_refl _, h⟩, ⟨h, Int.le_refl _⟩, fun _ h => h⟩
theorem Hull.either {s t : Sp} {P Q : Int → Prop} (h : Hull s P) (g : Hull t Q) : Hull (s.either t) fun x => P x ∨ Q x := by
  refine ⟨?_, ?_, ?_⟩
  · simp only [Sp.either]
    by_cases hc : s.lo ≤ t.lo
    · rw [show min s.lo t.lo = s.lo by omega]; exact .inl h.lo
    · rw [show min s.lo t.lo = t.lo by omega]; exact .inr g.lo
  · simp only [Sp.either]
    by_cases hc : t.hi ≤ s.hi
    · rw [show max s.hi t.hi = s.hi by omega]; exact .inl h.hi
    · rw [show max s.hi t.hi = t.hi by omega]; exact .inr g.hi
  · rintro x (hx | hx)
    · have := h.all x hx; simp only [Sp.has, Sp.either] at this ⊢; omega
    · have := g.all x hx; simp only [Sp.has, Sp.either] at this ⊢; omega
theorem znb {α : Type} (f : α → Sp) (P : α → Int → Prop) : ∀ (l : List α) (s : Sp) (Q : Int → Prop), Hull s Q → (∀ a ∈ l, Hull (f a) (P a)) → Hull ((l.map f).foldl (fun k x => k.either x) s) fun x => Q x ∨ ∃ a ∈ l, P a x
  | [], s, Q, h, _ => by simpa using h
  | a :: l, s, Q, h, hl => by
    simp only [List.map_cons, List.foldl_cons]
    refine (znb f P l _ _ (h.either (hl a (by simp))) fun b hb => hl b (by simp [hb])).congr fun x => ?_
    simp [or_assoc]
theorem zdc {α : Type} (f : α → Sp) (P : α → Int → Prop) (l : List α) (hne : l ≠ []) (h : ∀ a ∈ l, Hull (f a) (P a)) : Hull (hull (l.map f)) fun x => ∃ a ∈ l, P a x := by
  cases l with
  | nil => exact absurd rfl hne
  | cons a l =>
    simp only [List.map_cons, hull]
    refine (znb f P l _ _ (h a (by simp)) fun b hb => h b (by simp [hb])).congr fun x => ?_
    simp
theorem Hull.add {s t : Sp} {P Q : Int → Prop} (h : Hull s P) (g : Hull t Q) : Hull ⟨s.lo + t.lo, s.hi + t.hi⟩ fun x => ∃ y z, P y ∧ Q z ∧ x = y + z :=
  ⟨⟨_, _, h.lo, g.lo, rfl⟩, ⟨_, _, h.hi, g.hi, rfl⟩, fun x ⟨y, z, hy, hz, e⟩ => by
    have := h.all y hy; have := g.all z hz; simp only [Sp.has] at *; omega⟩
theorem either_comm (s t : Sp) : s.either t = t.either s := by simp only [Sp.either]; congr 1 <;> omega
end Clm
end Go.Proofs.Ytimgnlellflciaa

/- What the truths of clamps are, and what is returned of them. -/
namespace Go.Proofs.Ytimgnlellflciaa
open Go
namespace Clm
theorem mem_span (s : Sp) (x : Int) : x ∈ spanL s ↔ s.has x := by
  simp only [spanL, List.mem_map, List.mem_range, Sp.has]
  constructor
  · rintro ⟨i, h, rfl⟩; omega
  · intro h; exact ⟨(x - s.lo).toNat, by omega, by omega⟩
theorem mem_sizes (p : Pl) (s : Size) : s ∈ sizes p ↔ p.long.has s.l ∧ p.wide.has s.w ∧ p.high.has s.h := by
  simp only [sizes, List.mem_flatMap, List.mem_map, mem_span]
  constructor
  · rintro ⟨l, hl, w, hw, h, hh, rfl⟩; exact ⟨hl, hw, hh⟩
  · intro h; exact ⟨s.l, h.1, s.w, h.2.1, s.h, h.2.2, rfl⟩
def Poss (c : Cl) (number : Nat) (pack : Int) (counts : Nat) (n y : Int) : Prop := ∃ s ∈ sizes (c.piles.getD number default), s.sods pack = n ∧ Goes (befell c number counts) n y
theorem zse (s : Sp) (a b w : Int) : isSpan s a b w = true ↔ a ≤ s.lo ∧ s.lo ≤ s.hi ∧ s.hi ≤ b ∧ s.hi - s.lo ≤ w := by simp [isSpan]
structure Fine (c : Cl) : Prop where
  piles : 1 ≤ c.piles.length ∧ c.piles.length ≤ 4
  pack : 1 ≤ c.pack.lo ∧ c.pack.lo ≤ c.pack.hi ∧ c.pack.hi ≤ 5 ∧ c.pack.hi - c.pack.lo ≤ 2
  events : c.events.length ≤ 6
  pile : ∀ p ∈ c.piles, (1 ≤ p.long.lo ∧ p.long.lo ≤ p.long.hi ∧ p.long.hi ≤ 10 ∧ p.long.hi - p.long.lo ≤ 1) ∧ (1 ≤ p.wide.lo ∧ p.wide.lo ≤ p.wide.hi ∧ p.wide.hi ≤ 10 ∧ p.wide.hi - p.wide.lo ≤ 1) ∧ (1 ≤ p.high.lo ∧ p.high.lo ≤ p.high.hi ∧ p.high.hi ≤ 10 ∧ p.high.hi - p.high.lo ≤ 1)
  event : ∀ v ∈ c.events, (0 ≤ v.clamp ∧ v.clamp < c.piles.length) ∧ (v.kind = 0 ∨ v.kind = 1) ∧ 0 ≤ v.sods.lo ∧ v.sods.lo ≤ v.sods.hi ∧ v.sods.hi ≤ 5000 ∧ v.sods.hi - v.sods.lo ≤ (if v.kind = 0 then 3 else 5000)
theorem valid_iff (c : Cl) : valid c = true ↔ Fine c := by
  simp only [valid, Bool.and_eq_true, decide_eq_true_eq, zse, List.all_eq_true]
  exact ⟨fun h => ⟨h.1.1.1.1, h.1.1.1.2, h.1.1.2, fun p hp => ⟨(h.1.2 p hp).1.1, (h.1.2 p hp).1.2, (h.1.2 p hp).2⟩, fun v hv => ⟨(h.2 v hv).1.1, (h.2 v hv).1.2, (h.2 v hv).2⟩⟩,
    fun h => ⟨⟨⟨⟨h.piles, h.pack⟩, h.events⟩, fun p hp => ⟨⟨(h.pile p hp).1, (h.pile p hp).2.1⟩, (h.pile p hp).2.2⟩⟩, fun v hv => ⟨⟨(h.event v hv).1, (h.event v hv).2.1⟩, (h.event v hv).2.2⟩⟩⟩
theorem zde {c : Cl} (hc : Fine c) (number counts : Nat) : ∀ e ∈ befell c number counts, e.fine := by
  intro e he
  simp only [befell, List.mem_map] at he
  obtain ⟨⟨v, i⟩, hp, rfl⟩ := he
  have hv : v ∈ c.events := by
    have := List.mem_zipIdx hp
    obtain ⟨_, _, h⟩ := this
    simp only [h]; exact List.getElem_mem _
  have := hc.event v hv
  simp only
  split
  · trivial
  · split
    · exact ⟨this.2.2.1, this.2.2.2.1⟩
    · split <;> trivial
theorem befell_len (c : Cl) (number : Int) (counts : Nat) : (befell c number counts).length = c.events.length := by simp [befell]
theorem pile_mem {c : Cl} {i : Nat} (h : i < c.piles.length) : c.piles.getD i default ∈ c.piles := by
  rw [List.getD_eq_getElem?_getD, List.getElem?_eq_getElem h]; exact List.getElem_mem _
theorem zid {c : Cl} (hc : Fine c) {i : Nat} (hi : i < c.piles.length) {k : Int} (hk : 0 ≤ k) {s : Size} (hs : s ∈ sizes (c.piles.getD i default)) : 0 ≤ s.sods k := by
  have h1 := hc.pile _ (pile_mem hi)
  rw [mem_sizes] at hs
  simp only [Sp.has] at hs
  unfold Size.sods
  have a : 0 ≤ s.l := by omega
  have b : 0 ≤ s.w := by omega
  have d : 0 ≤ s.h := by omega
  exact Int.mul_nonneg (Int.mul_nonneg (Int.mul_nonneg a b) d) hk
theorem mem_ways {c : Cl} (hc : Fine c) {i : Nat} (hi : i < c.piles.length) {k : Int} (hk : 0 ≤ k) (counts : Nat) (w : Way) :
    w ∈ ways c i k counts ↔ w.size ∈ sizes (c.piles.getD i default) ∧ w.log = logOf c i k counts w.size ∧ ∃ y, Goes (befell c i counts) (w.size.sods k) y := by
  simp only [ways, List.mem_filterMap]
  constructor
  · rintro ⟨s, hs, h⟩
    split at h
    · rename_i hh
      cases h
      exact ⟨hs, rfl, (zmv _ _ (zde hc i counts) (zid hc hi hk hs)).1 hh⟩
    · cases h
  · rintro ⟨h1, h2, h3⟩
    refine ⟨w.size, h1, ?_⟩
    rw [show ((logOf c i k counts w.size).headD Sp.no).some = true from (zmv _ _ (zde hc i counts) (zid hc hi hk h1)).2 h3]
    obtain ⟨a, b⟩ := w
    simp only at h2; subst h2; rfl
theorem zns {c : Cl} (hc : Fine c) {i : Nat} (hi : i < c.piles.length) {k : Int} (hk : 0 ≤ k) (counts : Nat) : ways c i k counts ≠ [] ↔ ∃ n y, Poss c i k counts n y := by
  constructor
  · intro h
    obtain ⟨w, hw⟩ := List.exists_mem_of_ne_nil _ h
    obtain ⟨h1, _, y, h3⟩ := (mem_ways hc hi hk counts w).1 hw
    exact ⟨_, y, w.size, h1, rfl, h3⟩
  · rintro ⟨n, y, s, h1, rfl, h3⟩ e
    have := (mem_ways hc hi hk counts ⟨s, logOf c i k counts s⟩).2 ⟨h1, rfl, y, h3⟩
    rw [e] at this; cases this
theorem zon (c : Cl) (i : Nat) (k : Int) (counts : Nat) (s : Size) : leftW c ⟨s, logOf c i k counts s⟩ = ends (befell c i counts) ⟨s.sods k, s.sods k⟩ := by
  have := zjb (befell c i counts) ⟨s.sods k, s.sods k⟩
  rw [befell_len] at this
  simp only [leftW, logOf, List.getD_eq_getElem?_getD, this, Option.getD_some]
theorem zmx {c : Cl} (hc : Fine c) {i : Nat} (hi : i < c.piles.length) {k : Int} (hk : 0 ≤ k) (hne : ways c i k (every c) ≠ []) : Hull (spanOf c i k (leftW c)) fun y => ∃ n, Poss c i k (every c) n y := by
  refine (zdc (leftW c) (fun w y => Goes (befell c i (every c)) (w.size.sods k) y) _ hne fun w hw => ?_).congr fun y => ?_
  · obtain ⟨h1, h2, h3⟩ := (mem_ways hc hi hk _ w).1 hw
    have hf := zde hc i (every c)
    have hn := zid hc hi hk h1
    have e : leftW c w = ends (befell c i (every c)) ⟨w.size.sods k, w.size.sods k⟩ := by
      rw [← zon]; obtain ⟨a, b⟩ := w; simp only at h2; subst h2; rfl
    rw [e]
    refine (zna ?_).congr fun y => zgj _ _ y hf hn
    obtain ⟨y, hy⟩ := h3
    exact (zic _).2 ⟨y, (zgj _ _ y hf hn).2 hy⟩
  · constructor
    · rintro ⟨w, hw, h⟩
      exact ⟨_, w.size, ((mem_ways hc hi hk _ w).1 hw).1, rfl, h⟩
    · rintro ⟨n, s, h1, rfl, h3⟩
      exact ⟨⟨s, logOf c i k (every c) s⟩, (mem_ways hc hi hk _ _).2 ⟨h1, rfl, y, h3⟩, h3⟩
end Clm
end Go.Proofs.Ytimgnlellflciaa

/- Package clamp, gone through by the evaluator: what its walks share, and its functions of spans. -/
namespace Go.Proofs.Ytimgnlellflciaa
open Go
namespace Ev
namespace K
attribute [local simp] ev1 wantG spineK spine float xnew xval xeff zaa zaq zbc zav zaw addFl cellsOf pickC alive slLen slFt binI maxA maxK minA minK aeqK aeqS AV.cells fillA setAt bitsI nat_nn AV.plain apart
set_option maxRecDepth 100000
structure Hidden (p : Prop) : Prop where
  out : p
theorem hideP {p : Prop} (h : p) : Hidden p := ⟨h⟩
theorem zas {n : Int} (h1 : -9223372036854775808 ≤ n) (h2 : n ≤ 9223372036854775807) : IntKind.i64.wrap n = n := by
  simp [IntKind.wrap, IntKind.bits, IntKind.signed]
  split <;> omega
theorem st_eq {st : St} {tm : List AV} {df : List ADef} {hp : List AB} {tc : List Nat} (h1 : st.tm = tm) (h2 : st.df = df) (h3 : st.hp = hp) (h4 : st.tc = tc) : st = ⟨tm, df, hp, tc⟩ := by
  cases st; cases h1; cases h2; cases h3; cases h4; rfl
theorem zar (k : Nat) (H : List AB) (b off n k' : Nat) : slCells k H (.sl b off n k') = if k = k' then (match H[b]? with | some (.cells cs) => if off + n * k ≤ cs.length then some ((cs.drop off).take (n * k)) else none | _ => none) else none := rfl
structure Has (C : Cfg) (f : Nat) (fn : AFunc) : Prop where
  ext : C.ext f = none
  exth : C.exth f = none
  fns : C.fns f = some fn
  whole : C.whole f = true
def Gives (res : List ARes) (v : AV) (e : AExit) (st : St) : Prop := e = .ret ∧ st.df = [] ∧ st.tc = [] ∧ (resL st res).map resV = some v
theorem zbm {C : Cfg} {n f : Nat} {fn : AFunc} {args : List AV} {H : List AB} {v : AV} (hc : C.calm = true) (h0 : Has C f fn) (hlen : args.length ≤ fn.ntmps) (hv : refs v = [])
    (h : Does (ev C (Ev.call C n) H.length none fn.body { tm := tmA fn.ntmps (zipI 0 args []), df := [], hp := H, tc := [] }) (Gives fn.res v)) : Ev.call C (n + 1) (.fn (.func f) [] []) args H = some (.ret v, H, []) := by
  have := zwt (n := n) (first := []) (captured := []) (args := args) (H := H) (R := fun x H' tc => x = .ret v ∧ H' = H ∧ tc = []) hc h0.ext h0.exth h0.fns h0.whole (by simpa using hlen) (by
    rw [List.nil_append, List.append_nil]
    refine h.mono fun e st ⟨h1, h2, h3, h4⟩ => ?_
    subst h1
    refine ⟨.ret v, st, ?_, ?_⟩
    · have e1 : runDefs C H.length st.df none st = some (none, st) := by rw [h2]; rfl
      show (match runDefs C H.length st.df none st with
        | some (none, st) => (resL st fn.res).map fun vs => (CRes.ret (resV vs), st)
        | _ => none) = _
      rw [e1]
      show (resL st fn.res).map (fun vs => (CRes.ret (resV vs), st)) = _
      cases hr : resL st fn.res with
      | none => rw [hr] at h4; cases h4
      | some vs => rw [hr] at h4; cases h4; rfl
    · unfold Left
      rw [h3, if_pos (by unfold bareQ; simp [CRes.val, hv])]
      exact ⟨rfl, rfl, rfl⟩)
  obtain ⟨x, H', tc, h1, rfl, rfl, rfl⟩ := this
  exact h1
def spA (s : Clm.Sp) : AV := .agg [.int .i64 s.lo, .int .i64 s.hi]
def NoneC (call : CallF) : Prop := ∀ (H : List AB), call (.fn (.func 100) [] []) [] H = some (.ret (.agg [.int .i64 1, .int .i64 0]), H, [])
theorem zyf (C : Cfg) (call : CallF) (H : List AB) : Does (ev C call H.length none af100.body { tm := tmA af100.ntmps (zipI 0 [] []), df := [], hp := H, tc := [] }) (Gives af100.res (spA Clm.Sp.no)) := by
  unfold af100
  simp only [zipI, Clm.Sp.no]
  (repeat (first | (with_reducible apply zah; (focus ((conv => lhs; simp [spA, zar, Nat.testBit_eq_decide_div_mod_eq, *]) <;> exact rfl)); simp only [addFl]) | ((with_reducible first | apply zai | apply zak | apply zag | apply zae | apply zac | apply zaj | apply zaf | apply zam | (apply zad; · simp [zaa, *]) | (apply zab; · simp [zaa, *])); try simp only [Then, Ops])))
  (exact ⟨by first | trivial | rfl, by first | trivial | rfl, by first | trivial | rfl, by simp only [resL, resOf, zal]; simp [pickC, resV, spA, *]⟩)
theorem zxi (C : Cfg) (call : CallF) (H : List AB) (s : Clm.Sp) : Does (ev C call H.length none af91.body { tm := tmA af91.ntmps (zipI 0 [spA s] []), df := [], hp := H, tc := [] }) (Gives af91.res (.bool s.some)) := by
  unfold af91
  simp only [zipI, spA, Clm.Sp.some]
  (repeat (first | (with_reducible apply zah; (focus ((conv => lhs; simp [spA, zar, Nat.testBit_eq_decide_div_mod_eq, *]) <;> exact rfl)); simp only [addFl]) | ((with_reducible first | apply zai | apply zak | apply zag | apply zae | apply zac | apply zaj | apply zaf | apply zam | (apply zad; · simp [zaa, *]) | (apply zab; · simp [zaa, *])); try simp only [Then, Ops])))
  (exact ⟨by first | trivial | rfl, by first | trivial | rfl, by first | trivial | rfl, by simp only [resL, resOf, zal]; simp [resV, *]⟩)
theorem zst (C : Cfg) (call : CallF) (H : List AB) (s t : Clm.Sp) : Does (ev C call H.length none af85.body { tm := tmA af85.ntmps (zipI 0 [spA s, spA t] []), df := [], hp := H, tc := [] }) (Gives af85.res (spA (s.either t))) := by
  unfold af85
  simp only [zipI, spA, Clm.Sp.either]
  (repeat (first | (with_reducible apply zah; (focus ((conv => lhs; simp [spA, zar, Nat.testBit_eq_decide_div_mod_eq, *]) <;> exact rfl)); simp only [addFl]) | ((with_reducible first | apply zai | apply zak | apply zag | apply zae | apply zac | apply zaj | apply zaf | apply zam | (apply zad; · simp [zaa, *]) | (apply zab; · simp [zaa, *])); try simp only [Then, Ops])))
  (exact ⟨by first | trivial | rfl, by first | trivial | rfl, by first | trivial | rfl, by simp only [resL, resOf, zal]; simp [pickC, resV, *]⟩)
def SomeC (call : CallF) : Prop := ∀ (H : List AB) (s : Clm.Sp), call (.fn (.func 91) [] []) [.agg [.int .i64 s.lo, .int .i64 s.hi]] H = some (.ret (.bool s.some), H, [])
theorem zzf (C : Cfg) (call : CallF) (hN : NoneC call) (H : List AB) (s t : Clm.Sp) : Does (ev C call H.length none af98.body { tm := tmA af98.ntmps (zipI 0 [spA s, spA t] []), df := [], hp := H, tc := [] }) (Gives af98.res (spA (s.both t))) := by
  have hN' := fun H => hN H
  clear hN
  by_cases h : max s.lo t.lo > min s.hi t.hi
  · have e : s.both t = ⟨1, 0⟩ := by unfold Clm.Sp.both; rw [if_pos h]; rfl
    have h' : min s.hi t.hi < max s.lo t.lo := h
    rw [e]; clear e h
    unfold af98
    simp only [zipI, spA]
    (repeat (first | (with_reducible apply zah; (focus ((conv => lhs; simp [spA, zar, Nat.testBit_eq_decide_div_mod_eq, *]) <;> exact rfl)); simp only [addFl]) | ((with_reducible first | apply zai | apply zak | apply zag | apply zae | apply zac | apply zaj | apply zaf | apply zam | (apply zad; · simp [zaa, *]) | (apply zab; · simp [zaa, *])); try simp only [Then, Ops])))
    (exact ⟨by first | trivial | rfl, by first | trivial | rfl, by first | trivial | rfl, by simp only [resL, resOf, zal]; simp [pickC, resV, *]⟩)
  · have e : s.both t = ⟨max s.lo t.lo, min s.hi t.hi⟩ := by unfold Clm.Sp.both; rw [if_neg h]
    have h' : ¬ min s.hi t.hi < max s.lo t.lo := h
    rw [e]; clear e h
    unfold af98
    simp only [zipI, spA]
    (repeat (first | (with_reducible apply zah; (focus ((conv => lhs; simp [spA, zar, Nat.testBit_eq_decide_div_mod_eq, *]) <;> exact rfl)); simp only [addFl]) | ((with_reducible first | apply zai | apply zak | apply zag | apply zae | apply zac | apply zaj | apply zaf | apply zam | (apply zad; · simp [zaa, *]) | (apply zab; · simp [zaa, *])); try simp only [Then, Ops])))
    (exact ⟨by first | trivial | rfl, by first | trivial | rfl, by first | trivial | rfl, by simp only [resL, resOf, zal]; simp [pickC, resV, *]⟩)
end K
end Ev
end Go.Proofs.Ytimgnlellflciaa

/- Package clamp, gone through: what an event makes of what is known. -/
namespace Go.Proofs.Ytimgnlellflciaa
open Go
namespace Ev
namespace K
attribute [local simp] ev1 wantG spineK spine float xnew xval xeff zaa zaq zbc zav zaw addFl cellsOf pickC alive slLen slFt binI maxA maxK minA minK aeqK aeqS AV.cells spA zar fillA setAt bitsI nat_nn AV.plain apart
set_option maxRecDepth 100000
def BothC (call : CallF) : Prop := ∀ (H : List AB) (s t : Clm.Sp), call (.fn (.func 98) [] []) [.agg [.int .i64 s.lo, .int .i64 s.hi], .agg [.int .i64 t.lo, .int .i64 t.hi]] H = some (.ret (.agg [.int .i64 (s.both t).lo, .int .i64 (s.both t).hi]), H, [])
theorem zsw (C : Cfg) (call : CallF) (hB : BothC call) (H : List AB) (s k : Clm.Sp) : Does (ev C call H.length none af119.body { tm := tmA af119.ntmps (zipI 0 [spA s, spA k] []), df := [], hp := H, tc := [] }) (Gives af119.res (spA ((Clm.Bf.count s).after k))) := by
  have hB' := fun H => hB H k s
  clear hB
  unfold af119
  simp only [zipI, spA, Clm.Bf.after]
  (repeat (first | (with_reducible apply zah; (focus ((conv => lhs; simp [Nat.testBit_eq_decide_div_mod_eq, *]) <;> exact rfl)); simp only [addFl]) | ((with_reducible first | apply zai | apply zak | apply zag | apply zae | apply zac | apply zaj | apply zaf | apply zam | (apply zad; · simp [zaa, *]) | (apply zab; · simp [zaa, *])); try simp only [Then, Ops])))
  (exact ⟨by first | trivial | rfl, by first | trivial | rfl, by first | trivial | rfl, by simp only [resL, resOf, zal]; simp [pickC, resV, *]⟩)
theorem zsv (C : Cfg) (call : CallF) (hB : BothC call) (H : List AB) (s k : Clm.Sp) : Does (ev C call H.length none af120.body { tm := tmA af120.ntmps (zipI 0 [spA s, spA k] []), df := [], hp := H, tc := [] }) (Gives af120.res (spA ((Clm.Bf.count s).before k))) := by
  have hB' := fun H => hB H k s
  clear hB
  unfold af120
  simp only [zipI, spA, Clm.Bf.before]
  (repeat (first | (with_reducible apply zah; (focus ((conv => lhs; simp [Nat.testBit_eq_decide_div_mod_eq, *]) <;> exact rfl)); simp only [addFl]) | ((with_reducible first | apply zai | apply zak | apply zag | apply zae | apply zac | apply zaj | apply zaf | apply zam | (apply zad; · simp [zaa, *]) | (apply zab; · simp [zaa, *])); try simp only [Then, Ops])))
  (exact ⟨by first | trivial | rfl, by first | trivial | rfl, by first | trivial | rfl, by simp only [resL, resOf, zal]; simp [pickC, resV, *]⟩)
theorem zuc (C : Cfg) (call : CallF) (hN : NoneC call) (hS : SomeC call) (H : List AB) (s k : Clm.Sp) (h1 : -1000000000 ≤ k.lo) (h2 : k.lo ≤ 1000000000) (h3 : -1000000000 ≤ k.hi) (h4 : k.hi ≤ 1000000000) (h5 : 0 ≤ s.lo) (h6 : s.lo ≤ 10000) (h7 : 0 ≤ s.hi) (h8 : s.hi ≤ 10000) :
    Does (ev C call H.length none af118.body { tm := tmA af118.ntmps (zipI 0 [spA s, spA k] []), df := [], hp := H, tc := [] }) (Gives af118.res (spA ((Clm.Bf.sale s).before k))) := by
  have hN' := fun H => hN H
  have hS' := fun H => hS H k
  have w1 : IntKind.i64.wrap (k.lo + s.lo) = k.lo + s.lo := zas (by omega) (by omega)
  have w2 : IntKind.i64.wrap (k.hi + s.hi) = k.hi + s.hi := zas (by omega) (by omega)
  clear hN hS h1 h2 h3 h4 h5 h6 h7 h8
  cases h : k.some
  · have e : (Clm.Bf.sale s).before k = ⟨1, 0⟩ := by simp only [Clm.Bf.before, h, if_true]; rfl
    rw [e]; clear e
    unfold af118
    simp only [zipI, spA]
    (repeat (first | (with_reducible apply zah; (focus ((conv => lhs; simp [Nat.testBit_eq_decide_div_mod_eq, *]) <;> exact rfl)); simp only [addFl]) | ((with_reducible first | apply zai | apply zak | apply zag | apply zae | apply zac | apply zaj | apply zaf | apply zam | (apply zad; · simp [zaa, *]) | (apply zab; · simp [zaa, *])); try simp only [Then, Ops])))
    (exact ⟨by first | trivial | rfl, by first | trivial | rfl, by first | trivial | rfl, by simp only [resL, resOf, zal]; simp [pickC, resV, *]⟩)
  · have e : (Clm.Bf.sale s).before k = ⟨k.lo + s.lo, k.hi + s.hi⟩ := by simp [Clm.Bf.before, h]
    rw [e]; clear e
    unfold af118
    simp only [zipI, spA]
    (repeat (first | (with_reducible apply zah; (focus ((conv => lhs; simp [Nat.testBit_eq_decide_div_mod_eq, *]) <;> exact rfl)); simp only [addFl]) | ((with_reducible first | apply zai | apply zak | apply zag | apply zae | apply zac | apply zaj | apply zaf | apply zam | (apply zad; · simp [zaa, *]) | (apply zab; · simp [zaa, *])); try simp only [Then, Ops])))
    (exact ⟨by first | trivial | rfl, by first | trivial | rfl, by first | trivial | rfl, by simp only [resL, resOf, zal]; simp [pickC, resV, *]⟩)
theorem zud (C : Cfg) (call : CallF) (hN : NoneC call) (hS : SomeC call) (H : List AB) (s k : Clm.Sp) (h1 : -1000000000 ≤ k.lo) (h2 : k.lo ≤ 1000000000) (h3 : -1000000000 ≤ k.hi) (h4 : k.hi ≤ 1000000000) (h5 : 0 ≤ s.lo) (h6 : s.lo ≤ 10000) (h7 : 0 ≤ s.hi) (h8 : s.hi ≤ 10000) :
    Does (ev C call H.length none af117.body { tm := tmA af117.ntmps (zipI 0 [spA s, spA k] []), df := [], hp := H, tc := [] }) (Gives af117.res (spA ((Clm.Bf.sale s).after k))) := by
  have hN' := fun H => hN H
  have hS' := fun H => hS H k
  have w1 : IntKind.i64.wrap (k.lo - s.hi) = k.lo - s.hi := zas (by omega) (by omega)
  have w2 : IntKind.i64.wrap (k.hi - s.lo) = k.hi - s.lo := zas (by omega) (by omega)
  clear hN hS h1 h2 h3 h4 h5 h6 h7 h8
  cases h : k.some
  · have e : (Clm.Bf.sale s).after k = ⟨1, 0⟩ := by simp only [Clm.Bf.after, h, true_or, if_true]; rfl
    rw [e]; clear e
    unfold af117
    simp only [zipI, spA]
    (repeat (first | (with_reducible apply zah; (focus ((conv => lhs; simp [Nat.testBit_eq_decide_div_mod_eq, *]) <;> exact rfl)); simp only [addFl]) | ((with_reducible first | apply zai | apply zak | apply zag | apply zae | apply zac | apply zaj | apply zaf | apply zam | (apply zad; · simp [zaa, *]) | (apply zab; · simp [zaa, *])); try simp only [Then, Ops])))
    (exact ⟨by first | trivial | rfl, by first | trivial | rfl, by first | trivial | rfl, by simp only [resL, resOf, zal]; simp [pickC, resV, *]⟩)
  · by_cases h' : k.hi < s.lo
    · have e : (Clm.Bf.sale s).after k = ⟨1, 0⟩ := by simp only [Clm.Bf.after, h', or_true, if_true]; rfl
      rw [e]; clear e
      unfold af117
      simp only [zipI, spA]
      (repeat (first | (with_reducible apply zah; (focus ((conv => lhs; simp [Nat.testBit_eq_decide_div_mod_eq, *]) <;> exact rfl)); simp only [addFl]) | ((with_reducible first | apply zai | apply zak | apply zag | apply zae | apply zac | apply zaj | apply zaf | apply zam | (apply zad; · simp [zaa, *]) | (apply zab; · simp [zaa, *])); try simp only [Then, Ops])))
      (exact ⟨by first | trivial | rfl, by first | trivial | rfl, by first | trivial | rfl, by simp only [resL, resOf, zal]; simp [pickC, resV, *]⟩)
    · have e : (Clm.Bf.sale s).after k = ⟨max 0 (k.lo - s.hi), k.hi - s.lo⟩ := by simp [Clm.Bf.after, h, h']
      rw [e]; clear e
      unfold af117
      simp only [zipI, spA]
      (repeat (first | (with_reducible apply zah; (focus ((conv => lhs; simp [Nat.testBit_eq_decide_div_mod_eq, *]) <;> exact rfl)); simp only [addFl]) | ((with_reducible first | apply zai | apply zak | apply zag | apply zae | apply zac | apply zaj | apply zaf | apply zam | (apply zad; · simp [zaa, *]) | (apply zab; · simp [zaa, *])); try simp only [Then, Ops])))
      (exact ⟨by first | trivial | rfl, by first | trivial | rfl, by first | trivial | rfl, by simp only [resL, resOf, zal]; simp [pickC, resV, *]⟩)
end K
end Ev
end Go.Proofs.Ytimgnlellflciaa

/- Package clamp, gone through: its small functions. -/
namespace Go.Proofs.Ytimgnlellflciaa
open Go
namespace Ev
namespace K
attribute [local simp] ev1 wantG spineK spine float xnew xval xeff zaa zaq zbc zav zaw addFl cellsOf pickC alive slLen slFt binI maxA maxK minA minK aeqK aeqS AV.cells spA zar fillA setAt bitsI nat_nn AV.plain apart
set_option maxRecDepth 100000
theorem zrd (C : Cfg) (call : CallF) (H : List AB) (n a b : Int) : Does (ev C call H.length none af77.body { tm := tmA af77.ntmps (zipI 0 [.int .i64 n, .int .i64 a, .int .i64 b] []), df := [], hp := H, tc := [] }) (Gives af77.res (.bool (decide (a ≤ n ∧ n ≤ b)))) := by
  unfold af77
  simp only [zipI]
  by_cases h : a ≤ n
  · (repeat (first | (with_reducible apply zah; (focus ((conv => lhs; simp [Nat.testBit_eq_decide_div_mod_eq, *]) <;> exact rfl)); simp only [addFl]) | ((with_reducible first | apply zai | apply zak | apply zag | apply zae | apply zac | apply zaj | apply zaf | apply zam | (apply zad; · simp [zaa, *]) | (apply zab; · simp [zaa, *])); try simp only [Then, Ops])))
    (exact ⟨by first | trivial | rfl, by first | trivial | rfl, by first | trivial | rfl, by simp only [resL, resOf, zal]; simp [resV, *]⟩)
  · (repeat (first | (with_reducible apply zah; (focus ((conv => lhs; simp [Nat.testBit_eq_decide_div_mod_eq, *]) <;> exact rfl)); simp only [addFl]) | ((with_reducible first | apply zai | apply zak | apply zag | apply zae | apply zac | apply zaj | apply zaf | apply zam | (apply zad; · simp [zaa, *]) | (apply zab; · simp [zaa, *])); try simp only [Then, Ops])))
    (exact ⟨by first | trivial | rfl, by first | trivial | rfl, by first | trivial | rfl, by simp only [resL, resOf, zal]; simp [resV, *]⟩)
theorem at_fun (C : Cfg) (call : CallF) (H : List AB) (n : Int) : Does (ev C call H.length none af40.body { tm := tmA af40.ntmps (zipI 0 [.int .i64 n] []), df := [], hp := H, tc := [] }) (Gives af40.res (spA ⟨n, n⟩)) := by
  unfold af40
  simp only [zipI]
  (repeat (first | (with_reducible apply zah; (focus ((conv => lhs; simp [Nat.testBit_eq_decide_div_mod_eq, *]) <;> exact rfl)); simp only [addFl]) | ((with_reducible first | apply zai | apply zak | apply zag | apply zae | apply zac | apply zaj | apply zaf | apply zam | (apply zad; · simp [zaa, *]) | (apply zab; · simp [zaa, *])); try simp only [Then, Ops])))
  (exact ⟨by first | trivial | rfl, by first | trivial | rfl, by first | trivial | rfl, by simp only [resL, resOf, zal]; simp [pickC, resV, spA, *]⟩)
def WithinC (call : CallF) : Prop := ∀ (H : List AB) (n a b : Int), call (.fn (.func 77) [] []) [.int .i64 n, .int .i64 a, .int .i64 b] H = some (.ret (.bool (decide (a ≤ n ∧ n ≤ b))), H, [])
theorem zpg (C : Cfg) (call : CallF) (hW : WithinC call) (H : List AB) (n : Int) : Does (ev C call H.length none af51.body { tm := tmA af51.ntmps (zipI 0 [.int .i64 n] []), df := [], hp := H, tc := [] }) (Gives af51.res (.bool (decide (0 ≤ n ∧ n ≤ 20000)))) := by
  have hW' := fun H => hW H n 0 20000
  clear hW
  unfold af51
  simp only [zipI]
  (repeat (first | (with_reducible apply zah; (focus ((conv => lhs; simp [Nat.testBit_eq_decide_div_mod_eq, *]) <;> exact rfl)); simp only [addFl]) | ((with_reducible first | apply zai | apply zak | apply zag | apply zae | apply zac | apply zaj | apply zaf | apply zam | (apply zad; · simp [zaa, *]) | (apply zab; · simp [zaa, *])); try simp only [Then, Ops])))
  (exact ⟨by first | trivial | rfl, by first | trivial | rfl, by first | trivial | rfl, by simp only [resL, resOf, zal]; simp [resV, *]⟩)
theorem zsf (C : Cfg) (call : CallF) (H : List AB) (s : Clm.Sp) (a b w : Int) (h0 : a = 0 ∨ a = 1) (hb : b ≤ 5000) : Does (ev C call H.length none af76.body { tm := tmA af76.ntmps (zipI 0 [spA s, .int .i64 a, .int .i64 b, .int .i64 w] []), df := [], hp := H, tc := [] }) (Gives af76.res (.bool (Clm.isSpan s a b w))) := by
  by_cases h1 : a ≤ s.lo
  · by_cases h2 : s.lo ≤ s.hi
    · by_cases h3 : s.hi ≤ b
      · have w1 : IntKind.i64.wrap (s.hi - s.lo) = s.hi - s.lo := zas (by omega) (by omega)
        clear h0 hb
        have e : Clm.isSpan s a b w = decide (s.hi - s.lo ≤ w) := by simp [Clm.isSpan, h1, h2, h3]
        rw [e]; clear e
        unfold af76
        simp only [zipI, spA]
        (repeat (first | (with_reducible apply zah; (focus ((conv => lhs; simp [Nat.testBit_eq_decide_div_mod_eq, *]) <;> exact rfl)); simp only [addFl]) | ((with_reducible first | apply zai | apply zak | apply zag | apply zae | apply zac | apply zaj | apply zaf | apply zam | (apply zad; · simp [zaa, *]) | (apply zab; · simp [zaa, *])); try simp only [Then, Ops])))
        (exact ⟨by first | trivial | rfl, by first | trivial | rfl, by first | trivial | rfl, by simp only [resL, resOf, zal]; simp [resV, *]⟩)
      · clear h0 hb
        have e : Clm.isSpan s a b w = false := by simp [Clm.isSpan, h3]
        rw [e]; clear e
        unfold af76
        simp only [zipI, spA]
        (repeat (first | (with_reducible apply zah; (focus ((conv => lhs; simp [Nat.testBit_eq_decide_div_mod_eq, *]) <;> exact rfl)); simp only [addFl]) | ((with_reducible first | apply zai | apply zak | apply zag | apply zae | apply zac | apply zaj | apply zaf | apply zam | (apply zad; · simp [zaa, *]) | (apply zab; · simp [zaa, *])); try simp only [Then, Ops])))
        (exact ⟨by first | trivial | rfl, by first | trivial | rfl, by first | trivial | rfl, by simp only [resL, resOf, zal]; simp [resV, *]⟩)
    · clear h0 hb
      have e : Clm.isSpan s a b w = false := by simp [Clm.isSpan, h2]
      rw [e]; clear e
      unfold af76
      simp only [zipI, spA]
      (repeat (first | (with_reducible apply zah; (focus ((conv => lhs; simp [Nat.testBit_eq_decide_div_mod_eq, *]) <;> exact rfl)); simp only [addFl]) | ((with_reducible first | apply zai | apply zak | apply zag | apply zae | apply zac | apply zaj | apply zaf | apply zam | (apply zad; · simp [zaa, *]) | (apply zab; · simp [zaa, *])); try simp only [Then, Ops])))
      (exact ⟨by first | trivial | rfl, by first | trivial | rfl, by first | trivial | rfl, by simp only [resL, resOf, zal]; simp [resV, *]⟩)
  · clear h0 hb
    have e : Clm.isSpan s a b w = false := by simp [Clm.isSpan, h1]
    rw [e]; clear e
    unfold af76
    simp only [zipI, spA]
    (repeat (first | (with_reducible apply zah; (focus ((conv => lhs; simp [Nat.testBit_eq_decide_div_mod_eq, *]) <;> exact rfl)); simp only [addFl]) | ((with_reducible first | apply zai | apply zak | apply zag | apply zae | apply zac | apply zaj | apply zaf | apply zam | (apply zad; · simp [zaa, *]) | (apply zab; · simp [zaa, *])); try simp only [Then, Ops])))
    (exact ⟨by first | trivial | rfl, by first | trivial | rfl, by first | trivial | rfl, by simp only [resL, resOf, zal]; simp [resV, *]⟩)
end K
end Ev
end Go.Proofs.Ytimgnlellflciaa

/- Package clamp, gone through: products. -/
namespace Go.Proofs.Ytimgnlellflciaa
open Go
namespace Ev
namespace K
attribute [local simp] ev1 wantG spineK spine float xnew xval xeff zaa zaq zbc zav zaw addFl cellsOf pickC alive slLen slFt binI maxA maxK minA minK aeqK aeqS AV.cells spA zar fillA setAt bitsI nat_nn AV.plain apart
set_option maxRecDepth 100000
theorem mulB {x y A B : Int} (h1 : 0 ≤ x) (h2 : x ≤ A) (h3 : 0 ≤ y) (h4 : y ≤ B) : 0 ≤ x * y ∧ x * y ≤ A * B := ⟨Int.mul_nonneg h1 h3, Int.mul_le_mul h2 h4 h3 (by omega)⟩
set_option maxHeartbeats 2000000 in
theorem zoc (C : Cfg) (hC : C.calm = true) (call : CallF) (H : List AB) (l w h p : Int) (l0 : 0 ≤ l) (l1 : l ≤ 10) (w0 : 0 ≤ w) (w1 : w ≤ 10) (h0 : 0 ≤ h) (h1 : h ≤ 10) (p0 : 0 ≤ p) (p1 : p ≤ 10) (b : Nat) (hb : H[b]? = some (.cells [.int .i64 l, .int .i64 w, .int .i64 h, .int .i64 p])) :
    Does (ev C call H.length none af75.body { tm := tmA af75.ntmps (zipI 0 [.sl b 0 4 1] []), df := [], hp := H, tc := [] }) (Gives af75.res (.int .i64 (l * w * h * p))) := by
  obtain ⟨hbl, hbg⟩ := List.getElem?_eq_some_iff.1 hb
  obtain ⟨a0, a1⟩ := mulB l0 l1 w0 w1
  obtain ⟨b0, b1⟩ := mulB a0 a1 h0 h1
  obtain ⟨c0, c1⟩ := mulB b0 b1 p0 p1
  have x0 : IntKind.i64.wrap l = l := zas (by omega) (by omega)
  have x1 : IntKind.i64.wrap (l * w) = l * w := zas (by omega) (by omega)
  have x2 : IntKind.i64.wrap (l * w * h) = l * w * h := zas (by omega) (by omega)
  have x3 : IntKind.i64.wrap (l * w * h * p) = l * w * h * p := zas (by omega) (by omega)
  have k1 : IntKind.i64.wrap 1 = 1 := zas (by omega) (by omega)
  have k2 : IntKind.i64.wrap 2 = 2 := zas (by omega) (by omega)
  have k3 : IntKind.i64.wrap 3 = 3 := zas (by omega) (by omega)
  have k4 : IntKind.i64.wrap 4 = 4 := zas (by omega) (by omega)
  clear l0 l1 w0 w1 h0 h1 p0 p1 a0 a1 b0 b1 c0 c1
  unfold af75
  simp only [zipI]
  (repeat (first | (with_reducible apply zah; (focus ((conv => lhs; simp [Nat.testBit_eq_decide_div_mod_eq, *]) <;> exact rfl)); simp only [addFl]) | ((with_reducible first | apply zai | apply zak | apply zag | apply zae | apply zac | apply zaj | apply zaf | apply zam | (apply zad; · simp [zaa, *]) | (apply zab; · simp [zaa, *])); try simp only [Then, Ops])))
  refine znk (fun q st => ∃ (i : Int) (acc : Int), (q = 4 ∧ i = 0 ∧ acc = 1 ∨ q = 3 ∧ i = 1 ∧ acc = l ∨ q = 2 ∧ i = 2 ∧ acc = l * w ∨ q = 1 ∧ i = 3 ∧ acc = l * w * h ∨ q = 0 ∧ i = 4 ∧ acc = l * w * h * p) ∧
    st = { tm := tmA 17 [(8, .int .i64 i), (7, .int .i64 4), (6, .sl b 0 4 1), (3, .int .i64 acc)], df := [], hp := H, tc := [] }) 4 (by decide) ?_ ?_
  · refine ⟨0, 1, .inl ⟨rfl, rfl, rfl⟩, ?_⟩
    simp only [zeh hC]
    exact st_eq (by simp [zan, zap]) rfl rfl rfl
  · rintro q st ⟨i, acc, hq, rfl⟩
    rcases hq with ⟨rfl, rfl, rfl⟩ | ⟨rfl, rfl, rfl⟩ | ⟨rfl, rfl, rfl⟩ | ⟨rfl, rfl, rfl⟩ | ⟨rfl, rfl, rfl⟩
    · (repeat (first | (with_reducible apply zah; (focus ((conv => lhs; simp [Nat.testBit_eq_decide_div_mod_eq, *]) <;> exact rfl)); simp only [addFl]) | ((with_reducible first | apply zai | apply zak | apply zag | apply zae | apply zac | apply zaj | apply zaf | apply zam | (apply zad; · simp [zaa, *]) | (apply zab; · simp [zaa, *])); try simp only [Then, Ops, OutB])))
      refine ⟨3, rfl, 1, _, .inr (.inl ⟨rfl, rfl, rfl⟩), ?_⟩
      simp only [zeh hC]
      exact st_eq (by simp [zan, zap, *]) rfl rfl rfl
    · (repeat (first | (with_reducible apply zah; (focus ((conv => lhs; simp [Nat.testBit_eq_decide_div_mod_eq, *]) <;> exact rfl)); simp only [addFl]) | ((with_reducible first | apply zai | apply zak | apply zag | apply zae | apply zac | apply zaj | apply zaf | apply zam | (apply zad; · simp [zaa, *]) | (apply zab; · simp [zaa, *])); try simp only [Then, Ops, OutB])))
      refine ⟨2, rfl, 2, _, .inr (.inr (.inl ⟨rfl, rfl, rfl⟩)), ?_⟩
      simp only [zeh hC]
      exact st_eq (by simp [zan, zap, *]) rfl rfl rfl
    · (repeat (first | (with_reducible apply zah; (focus ((conv => lhs; simp [Nat.testBit_eq_decide_div_mod_eq, *]) <;> exact rfl)); simp only [addFl]) | ((with_reducible first | apply zai | apply zak | apply zag | apply zae | apply zac | apply zaj | apply zaf | apply zam | (apply zad; · simp [zaa, *]) | (apply zab; · simp [zaa, *])); try simp only [Then, Ops, OutB])))
      refine ⟨1, rfl, 3, _, .inr (.inr (.inr (.inl ⟨rfl, rfl, rfl⟩))), ?_⟩
      simp only [zeh hC]
      exact st_eq (by simp [zan, zap, *]) rfl rfl rfl
    · (repeat (first | (with_reducible apply zah; (focus ((conv => lhs; simp [Nat.testBit_eq_decide_div_mod_eq, *]) <;> exact rfl)); simp only [addFl]) | ((with_reducible first | apply zai | apply zak | apply zag | apply zae | apply zac | apply zaj | apply zaf | apply zam | (apply zad; · simp [zaa, *]) | (apply zab; · simp [zaa, *])); try simp only [Then, Ops, OutB])))
      refine ⟨0, rfl, 4, _, .inr (.inr (.inr (.inr ⟨rfl, rfl, rfl⟩))), ?_⟩
      simp only [zeh hC]
      exact st_eq (by simp [zan, zap, *]) rfl rfl rfl
    · (repeat (first | (with_reducible apply zah; (focus ((conv => lhs; simp [Nat.testBit_eq_decide_div_mod_eq, *]) <;> exact rfl)); simp only [addFl]) | ((with_reducible first | apply zai | apply zak | apply zag | apply zae | apply zac | apply zaj | apply zaf | apply zam | (apply zad; · simp [zaa, *]) | (apply zab; · simp [zaa, *])); try simp only [Then, Ops, OutB, reduceIte])))
      (exact ⟨by first | trivial | rfl, by first | trivial | rfl, by first | trivial | rfl, by simp only [resL, resOf, zal]; simp [resV, *]⟩)
def ProductC (call : CallF) : Prop := ∀ (H : List AB) (l w h p : Int), 0 ≤ l → l ≤ 10 → 0 ≤ w → w ≤ 10 → 0 ≤ h → h ≤ 10 → 0 ≤ p → p ≤ 10 → ∀ b, H[b]? = some (.cells [.int .i64 l, .int .i64 w, .int .i64 h, .int .i64 p]) →
  call (.fn (.func 75) [] []) [.sl b 0 4 1] H = some (.ret (.int .i64 (l * w * h * p)), H, [])
theorem zxj (C : Cfg) (call : CallF) (hP : ProductC call) (H : List AB) (i l w h p : Int) (l0 : 0 ≤ l) (l1 : l ≤ 10) (w0 : 0 ≤ w) (w1 : w ≤ 10) (h0 : 0 ≤ h) (h1 : h ≤ 10) (p0 : 0 ≤ p) (p1 : p ≤ 10) :
    Does (ev C call H.length none af41.body { tm := tmA af41.ntmps (zipI 0 [.agg [.int .i64 i, .int .i64 l, .int .i64 w, .int .i64 h, .int .i64 p]] []), df := [], hp := H, tc := [] }) (Gives af41.res (.int .i64 (l * w * h * p))) := by
  have hP' := fun H b hb => hP H l w h p l0 l1 w0 w1 h0 h1 p0 p1 b hb
  clear hP l0 l1 w0 w1 h0 h1 p0 p1
  unfold af41
  simp only [zipI]
  (repeat (first | (with_reducible apply zah; (focus ((conv => lhs; simp [Nat.testBit_eq_decide_div_mod_eq, *]) <;> exact rfl)); simp only [addFl]) | ((with_reducible first | apply zai | apply zak | apply zag | apply zae | apply zac | apply zaj | apply zaf | apply zam | (apply zad; · simp [zaa, *]) | (apply zab; · simp [zaa, *])); try simp only [Then, Ops])))
  (exact ⟨by first | trivial | rfl, by first | trivial | rfl, by first | trivial | rfl, by simp only [resL, resOf, zal]; simp [resV, *]⟩)
end K
end Ev
end Go.Proofs.Ytimgnlellflciaa

/- Package clamp, gone through: must, which panics. -/
namespace Go.Proofs.Ytimgnlellflciaa
open Go
namespace Ev
namespace K
set_option maxRecDepth 100000
end K
end Ev
end Go.Proofs.Ytimgnlellflciaa

/- Calls that turn memory, with values that are not known: what they leave. -/
namespace Go.Proofs.Ytimgnlellflciaa
open Go
namespace Ev
structure Kp (S : List Nat) (H H' : List AB) : Prop where
  len : H.length ≤ H'.length
  get : ∀ b, b < H.length → b ∉ S → H'[b]? = H[b]?
theorem Kp.refl (S : List Nat) (H : List AB) : Kp S H H := ⟨Nat.le_refl _, fun _ _ _ => rfl⟩
theorem Kp.trans {S : List Nat} {H G K : List AB} (h : Kp S H G) (g : Kp S G K) : Kp S H K :=
  ⟨Nat.le_trans h.len g.len, fun b hb hs => (g.get b (Nat.lt_of_lt_of_le hb h.len) hs).trans (h.get b hb hs)⟩
theorem Kp.mono {S T : List Nat} {H G : List AB} (h : Kp S H G) (hs : ∀ b, b < H.length → b ∈ S → b ∈ T) : Kp T H G := ⟨h.len, fun b hb hn => h.get b hb fun hh => hn (hs b hb hh)⟩
theorem Kp.trans2 {S T : List Nat} {H G K : List AB} (h : Kp S H G) (g : Kp T G K) : Kp (T.filter (· < H.length) ++ S) H K :=
  ⟨Nat.le_trans h.len g.len, fun b hb hs => by
    rw [List.mem_append, List.mem_filter, not_or] at hs
    exact (g.get b (Nat.lt_of_lt_of_le hb h.len) fun h' => hs.1 ⟨h', by simpa using hb⟩).trans (h.get b hb hs.2)⟩
theorem Kp.app {S : List Nat} (H K : List AB) : Kp S H (H ++ K) := ⟨by simp, fun b hb _ => List.getElem?_append_left hb⟩
theorem Kp.set {S : List Nat} {H G : List AB} (h : Kp S H G) (i : Nat) (v : AB) (hi : i < H.length → i ∈ S) : Kp S H (G.set i v) :=
  ⟨by simpa using h.len, fun b hb hs => by
    rw [List.getElem?_set_ne (fun e => by subst e; exact hs (hi hb))]; exact h.get b hb hs⟩
theorem Kp.pre {S : List Nat} {H K G : List AB} (h : Kp S (H ++ K) G) : Kp S H G := (Kp.app H K).trans h
theorem get_lt {H : List AB} {b : Nat} {x : AB} (h : H[b]? = some x) : b < H.length := (List.getElem?_eq_some_iff.1 h).1
theorem Kp.at {S : List Nat} {H G : List AB} (h : Kp S H G) {b : Nat} {x : AB} (hx : H[b]? = some x) (hb : b ∉ S) : G[b]? = some x := (h.get b (get_lt hx) hb).trans hx
theorem bk {H : List AB} {b : Nat} {x : AB} (h : H[b]? = some x) : b < H.length ∧ (∀ K, (H ++ K)[b]? = some x) ∧ (∀ n, b < H.length + n) ∧ (∀ K (h : b < (H ++ K).length), (H ++ K)[b]'h = x) ∧ (∀ h : b < H.length, H[b]'h = x) := by
  have hl := get_lt h
  have h1 : ∀ K, (H ++ K)[b]? = some x := fun K => (List.getElem?_append_left hl).trans h
  refine ⟨hl, h1, fun n => by omega, fun K hk => ?_, fun hh => ?_⟩
  · have := h1 K; rw [List.getElem?_eq_getElem hk] at this; exact Option.some.inj this
  · rw [List.getElem?_eq_getElem hh] at h; exact Option.some.inj h
structure Bk (H : List AB) (b : Nat) (x : AB) : Prop where
  lt : b < H.length
  get : H[b]? = some x
  app : ∀ K, (H ++ K)[b]? = some x
  lts : ∀ n, b < H.length + n
  ix : ∀ K (h : b < (H ++ K).length), (H ++ K)[b]'h = x
  i0 : ∀ h : b < H.length, H[b]'h = x
theorem bk' {H : List AB} {b : Nat} {x : AB} (h : H[b]? = some x) : Bk H b x := ⟨(bk h).1, h, (bk h).2.1, (bk h).2.2.1, (bk h).2.2.2.1, (bk h).2.2.2.2⟩
theorem ztz {H : List AB} {b : Nat} (hb : b < H.length) (K : List AB) (v : AB) : (H ++ K).set b v = H.set b v ++ K := by rw [List.set_append_left _ _ hb]
structure Lft (H hp : List AB) (tc : List Nat) (H' : List AB) : Prop where
  len : H.length ≤ H'.length
  old : ∀ j, j < H.length → j ∉ tc → H'[j]? = H[j]?
  got : ∀ j, j < H.length → j ∈ tc → H'[j]? = hp[j]?
theorem zie {H hp : List AB} {tc : List Nat} (hlen : H.length ≤ hp.length) (j : Nat) : (overH H hp tc ++ hp.drop H.length)[j]? = if j < H.length ∧ j ∉ tc then H[j]? else hp[j]? := by
  have main : ∀ tc j, (overH H hp tc)[j]? = if j < H.length then (if j ∈ tc then hp[j]? else H[j]?) else none := by
    intro tc
    induction tc with
    | nil =>
      intro j
      simp only [overH, List.not_mem_nil, if_false]
      split
      · rfl
      · rename_i h; rw [List.getElem?_eq_none (by omega)]
    | cons k tc ih =>
      intro j
      simp only [overH, List.getElem?_set, zca, List.mem_cons]
      by_cases hkj : k = j
      · subst hkj
        by_cases hk : k < H.length
        · simp only [hk, if_true, true_or]
          rw [List.getD_eq_getElem?_getD, List.getElem?_eq_getElem (by omega)]; rfl
        · simp only [hk, if_false, if_true]
      · have hjk : ¬j = k := fun e => hkj e.symm
        simp only [hkj, hjk, if_false, ih, false_or]
  rw [List.getElem?_append, zca]
  by_cases hj : j < H.length
  · rw [if_pos hj, main, if_pos hj]
    by_cases ht : j ∈ tc
    · simp [ht]
    · simp [ht, hj]
  · rw [if_neg hj, if_neg (by simp [hj]), List.getElem?_drop]
    congr 1; omega
theorem zyo {H hp : List AB} {tc : List Nat} (hlen : H.length ≤ hp.length) : Lft H hp tc (overH H hp tc ++ hp.drop H.length) :=
  ⟨by simp [zca], fun j h1 h2 => by rw [zie hlen, if_pos ⟨h1, h2⟩], fun j h1 h2 => by rw [zie hlen, if_neg (by simp [h2])]⟩
theorem Lft.kp {H hp : List AB} {tc : List Nat} {H' : List AB} (h : Lft H hp tc H') : Kp tc H H' := ⟨h.len, h.old⟩
theorem Lft.same {H hp : List AB} {tc : List Nat} {H' : List AB} (h : Lft H hp tc H') (k : Kp tc H hp) (j : Nat) (hj : j < H.length) : H'[j]? = hp[j]? := by
  by_cases ht : j ∈ tc
  · exact h.got j hj ht
  · rw [h.old j hj ht, k.get j hj ht]
theorem zqa {C : Cfg} {n f : Nat} {fn : AFunc} {first captured args : List AV} {H : List AB} {Q : CRes → List AB → List Nat → Prop} (hc : C.calm = true) (hx : C.ext f = none) (hxh : C.exth f = none) (hf : C.fns f = some fn) (hw : C.whole f = true)
    (hlen : (first ++ args ++ captured).length ≤ fn.ntmps)
    (h : Does (ev C (Ev.call C n) H.length none fn.body { tm := tmA fn.ntmps (zipI 0 (first ++ args ++ captured) []), df := [], hp := H, tc := [] }) fun e st => ∃ x st', finish C H.length fn e st = some (x, st') ∧ H.length ≤ st'.hp.length ∧ Q x st'.hp st'.tc) :
    ∃ x hp tc H', Ev.call C (n + 1) (.fn (.func f) first captured) args H = some (x, H', tc) ∧ Q x hp tc ∧ Lft H hp tc H' ∧ (refs x.val ≠ [] ∨ tc ≠ [] → H'.length = hp.length ∧ ∀ j, H.length ≤ j → H'[j]? = hp[j]?) ∧ (refs x.val = [] → tc = [] → H' = H) := by
  have := zwt (n := n) (R := fun x H' tc => ∃ hp, Q x hp tc ∧ Lft H hp tc H' ∧ (refs x.val ≠ [] ∨ tc ≠ [] → H'.length = hp.length ∧ ∀ j, H.length ≤ j → H'[j]? = hp[j]?) ∧ (refs x.val = [] → tc = [] → H' = H)) hc hx hxh hf hw hlen (by
    refine h.mono fun e st ⟨x, st', h1, h2, h3⟩ => ⟨x, st', h1, ?_⟩
    unfold Left
    split
    · rename_i hb
      simp only [bareQ, Bool.and_eq_true, List.isEmpty_iff] at hb
      rw [hb.1] at h3
      exact ⟨_, h3, ⟨Nat.le_refl _, fun _ _ _ => rfl, fun j _ hj => by cases hj⟩, fun hr => hr.elim (absurd hb.2) (absurd rfl), fun _ _ => rfl⟩
    · rename_i hb
      exact ⟨_, h3, zyo h2, fun _ => ⟨by simp [zca]; omega, fun j hj => by rw [zie h2, if_neg (by omega)]⟩, fun h1 h2 => absurd (by simp [bareQ, h1, h2]) hb⟩)
  obtain ⟨x, H', tc, h1, hp, h2, h3, h4⟩ := this
  exact ⟨x, hp, tc, H', h1, h2, h3, h4⟩
def Ends (C : Cfg) (pin : Nat) (res : List ARes) (Q : AV → List AB → List Nat → Prop) (e : AExit) (st : St) : Prop :=
  (e = .ret ∨ e = .normal) ∧ ∃ st', runDefs C pin st.df none st = some (none, st') ∧ pin ≤ st'.hp.length ∧ ∃ v, (resL st' res).map resV = some v ∧ Q v st'.hp st'.tc
theorem zjm {C : Cfg} {pin : Nat} {fn : AFunc} {Q : AV → List AB → List Nat → Prop} {e : AExit} {st : St} (h : Ends C pin fn.res Q e st) : ∃ x st', finish C pin fn e st = some (x, st') ∧ pin ≤ st'.hp.length ∧ (∃ v, x = .ret v ∧ Q v st'.hp st'.tc) := by
  obtain ⟨he, st', h1, h2, v, h3, h4⟩ := h
  refine ⟨.ret v, st', ?_, h2, v, rfl, h4⟩
  have : (match runDefs C pin st.df none st with
    | some (none, st) => (resL st fn.res).map fun vs => (CRes.ret (resV vs), st)
    | _ => none) = some (.ret v, st') := by
    rw [h1]
    simp only
    cases hr : resL st' fn.res with
    | none => rw [hr] at h3; cases h3
    | some vs => rw [hr] at h3; cases h3; rfl
  rcases he with rfl | rfl <;> exact this
theorem zao {C : Cfg} {pin : Nat} {res : List ARes} {Q : AV → List AB → List Nat → Prop} {e : AExit} {st : St} {v : AV} (he : e = .ret ∨ e = .normal) (hd : st.df = []) (hl : pin ≤ st.hp.length) (hr : (resL st res).map resV = some v) (hq : Q v st.hp st.tc) : Ends C pin res Q e st :=
  ⟨he, st, by rw [hd]; rfl, hl, v, hr, hq⟩
theorem zrt {C : Cfg} {pin : Nat} {fn : AFunc} {v : AV} {st : St} (hd : st.df = []) : finish C pin fn (.panic v) st = some (.pan v, st) := by
  show (match runDefs C pin st.df (some v) st with
    | some (none, st) => (resL st fn.res).map fun vs => (CRes.ret (resV vs), st)
    | some (some v, st) => some (.pan v, st)
    | none => none) = _
  rw [hd]; rfl
theorem zco {C : Cfg} {n f : Nat} {fn : AFunc} {first captured args : List AV} {H : List AB} {Q : AV → List AB → List Nat → Prop} (hc : C.calm = true) (hx : C.ext f = none) (hxh : C.exth f = none) (hf : C.fns f = some fn) (hw : C.whole f = true)
    (hlen : (first ++ args ++ captured).length ≤ fn.ntmps)
    (h : Does (ev C (Ev.call C n) H.length none fn.body { tm := tmA fn.ntmps (zipI 0 (first ++ args ++ captured) []), df := [], hp := H, tc := [] }) (Ends C H.length fn.res Q)) :
    ∃ v hp tc H', Ev.call C (n + 1) (.fn (.func f) first captured) args H = some (.ret v, H', tc) ∧ Q v hp tc ∧ Lft H hp tc H' ∧ (refs v ≠ [] ∨ tc ≠ [] → H'.length = hp.length ∧ ∀ j, H.length ≤ j → H'[j]? = hp[j]?) ∧ (refs v = [] → tc = [] → H' = H) := by
  obtain ⟨x, hp, tc, H', h1, ⟨v, rfl, h2⟩, h3, h4⟩ := zqa (Q := fun x hp tc => ∃ v, x = .ret v ∧ Q v hp tc) hc hx hxh hf hw hlen (h.mono fun e st he => zjm he)
  exact ⟨v, hp, tc, H', h1, h2, h3, h4⟩
structure Rnd (H hp : List AB) (tc : List Nat) (l : Nat) (r : ALoop) (H' : List AB) : Prop where
  len : H.length ≤ H'.length
  here : H'[l]? = some (.loop r)
  old : ∀ j, j < H.length → j ∉ tc → j ≠ l → H'[j]? = H[j]?
  got : ∀ j, j < H.length → j ∈ tc → j ≠ l → H'[j]? = hp[j]?
  new : ∀ j, H.length ≤ j → H'[j]? = hp[j]?
theorem zjx {C : Cfg} {n l : Nat} {args : List AV} {H : List AB} {r : ALoop} {Q : AExit → List AB → List Nat → Prop} (hc : C.calm = true) (hl : H[l]? = some (.loop r)) (hr : r.st = .ready) (hpd : r.pend = none) (hn : args.length = r.params.length)
    (h : Does (ev C (Ev.call C n) H.length (some l) r.assign { tm := setParams r.tm r.params args, df := [], hp := H, tc := [] }) fun e st => e = .normal ∧ st.hp[l]? = some (.loop r) ∧
      Does (ev C (Ev.call C n) H.length (some l) r.body { st with hp := st.hp.set l (.loop { r with st := .busy }), tc := l :: st.tc }) fun e st => (∀ v, e ≠ .panic v) ∧ st.hp[l]? = some (.loop { r with st := .busy }) ∧ H.length ≤ st.hp.length ∧ Q e st.hp st.tc) :
    ∃ b e hp tc H', Ev.call C (n + 1) (.yield l) args H = some (.ret (.bool b), H', l :: tc) ∧ (b = true ↔ e = .normal) ∧ Q e hp tc ∧ Rnd H hp tc l (if b then r else { r with st := .done, pend := some e }) H' := by
  have key : ∀ (st : St) (x : AB), H.length ≤ st.hp.length → ∀ j, (overH H (st.hp.set l x) (l :: st.tc) ++ (st.hp.set l x).drop H.length)[j]? = if j < H.length ∧ j ∉ l :: st.tc then H[j]? else (st.hp.set l x)[j]? := fun st x hl j => zie (by simpa using hl) j
  have hll := get_lt hl
  have fin : ∀ (st : St) (r' : ALoop), H.length ≤ st.hp.length → Rnd H st.hp st.tc l r' (overH H (st.hp.set l (.loop r')) (l :: st.tc) ++ (st.hp.set l (.loop r')).drop H.length) := fun st r' hlen => {
    len := by simp [zca]
    here := by rw [key _ _ hlen, if_neg (by simp), List.getElem?_set_self (by omega)]
    old := fun j h1 h2 h3 => by rw [key _ _ hlen, if_pos ⟨h1, by simp [h2, h3]⟩]
    got := fun j h1 h2 h3 => by rw [key _ _ hlen, if_neg (by simp [h2]), List.getElem?_set_ne (by omega)]
    new := fun j h1 => by rw [key _ _ hlen, if_neg (by omega), List.getElem?_set_ne (by omega)] }
  have := zxo (n := n) (R := fun x H' tc => ∃ b e hp tc', x = .ret (.bool b) ∧ tc = l :: tc' ∧ (b = true ↔ e = .normal) ∧ Q e hp tc' ∧ Rnd H hp tc' l (if b then r else { r with st := .done, pend := some e }) H') hc hl hr hn (h.mono fun e st ⟨h1, h2, h3⟩ => ⟨h1, r, h2, hr, h3.mono fun e st ⟨h4, h5, h6, h7⟩ => by
    have back : ({ { r with st := .busy } with st := .ready, pend := none } : ALoop) = r := by
      obtain ⟨a, b, c, d, e, f, g⟩ := r
      simp only at hr hpd; subst hr hpd; rfl
    cases e with
    | panic v => exact absurd rfl (h4 v)
    | normal =>
      refine ⟨_, h5, true, .normal, st.hp, st.tc, rfl, rfl, by simp, h7, ?_⟩
      rw [back]
      exact fin st r h6
    | exit i =>
      exact ⟨_, h5, false, .exit i, st.hp, st.tc, rfl, rfl, by simp, h7, fin st _ h6⟩
    | ret =>
      exact ⟨_, h5, false, .ret, st.hp, st.tc, rfl, rfl, by simp, h7, fin st _ h6⟩⟩)
  obtain ⟨x, H', tc, h1, b, e, hp, tc', rfl, rfl, h2, h3, h4⟩ := this
  exact ⟨b, e, hp, tc', H', h1, h2, h3, h4⟩
theorem zbg (d : Nat) : (0 ≤ (d : Int) + 1) = True := by simp; omega
theorem ge_of {α : Type} {l : List α} {i : Nat} {x : α} (h : l[i]? = some x) : ∀ h' : i < l.length, l[i]'h' = x := fun h' => by rw [List.getElem?_eq_getElem h'] at h; exact Option.some.inj h
theorem zaz {C : Cfg} (hC : C.calm = true) {call : CallF} {pin : Nat} {rd : Option Nat} {Q : AExit → St → Prop} {st : St} {c : AC} {live : List Nat} (n : Nat) (hn : n < fuelL) (P : Nat → St → Prop) (h0 : P 0 { st with tm := keepT live st.tm })
    (hround : ∀ i st, i < n → P i st → Does (ev C call pin rd c st) (fun e st' => match e with | .normal => P (i + 1) { st' with tm := keepT live st'.tm } | e => Q e st'))
    (hend : ∀ st, P n st → Does (ev C call pin rd c st) (fun e st' => match e with | .normal => False | e => Q e st')) : Does (ev C call pin rd (.loop live c) st) Q := by
  refine znk (fun q st => q ≤ n ∧ P (n - q) st) n hn ⟨Nat.le_refl _, by rw [zeh hC, Nat.sub_self]; exact h0⟩ ?_
  rintro q st ⟨hq, hP⟩
  by_cases h : q = 0
  · subst h
    refine (hend st hP).mono fun e st' h => ?_
    cases e with
    | normal => exact h.elim
    | exit i => exact h
    | ret => exact h
    | panic v => exact h
  · refine (hround (n - q) st (by omega) hP).mono fun e st' h' => ?_
    cases e with
    | normal =>
      refine ⟨q - 1, by omega, by omega, ?_⟩
      rw [zeh hC, show n - (q - 1) = n - q + 1 by omega]
      exact h'
    | exit i => exact h'
    | ret => exact h'
    | panic v => exact h'
theorem st_is {st : St} {tm : List AV} {df : List ADef} {hp : List AB} {tc : List Nat} (h1 : st.tm = tm) (h2 : st.df = df) (h3 : st.hp = hp) (h4 : st.tc = tc) : st = ⟨tm, df, hp, tc⟩ := by
  subst h1 h2 h3 h4; rfl
def Part {α : Type} (l : List α) (x : α) (i : Nat) (cs : List α) : Prop := cs = l.take i ++ List.replicate (l.length - i) x
theorem zuo {α : Type} (l : List α) (x : α) : Part l x 0 (List.replicate l.length x) := by simp [Part]
theorem zxu {α : Type} {l : List α} {x : α} {i : Nat} {cs : List α} (h : Part l x i cs) (hi : i ≤ l.length) : cs.length = l.length := by
  rw [h]; simp; omega
theorem zxv {α : Type} {l : List α} {x : α} {cs : List α} (h : Part l x l.length cs) : cs = l := by rw [h]; simp
theorem zml {α : Type} {l : List α} {x v : α} {i : Nat} {cs : List α} (h : Part l x i cs) (hv : l[i]? = some v) : Part l x (i + 1) (cs.take i ++ v :: cs.drop (i + 1)) := by
  have hi := (List.getElem?_eq_some_iff.1 hv).1
  have hl : (l.take i).length = i := by simp; omega
  unfold Part at h ⊢
  subst h
  rw [List.take_append_of_le_length (by omega), List.take_of_length_le (by omega), List.drop_append, List.drop_eq_nil_of_le (by omega), hl, List.drop_replicate, List.take_add_one, hv]
  simp only [Option.toList_some, List.nil_append, List.append_assoc, List.singleton_append]
  rw [show i + 1 - i = 1 by omega, show l.length - i - 1 = l.length - (i + 1) by omega]
theorem zmm {α : Type} {l : List α} {x : α} {i : Nat} {cs : List α} (h : Part l x i cs) (hv : l[i]? = some x) : Part l x (i + 1) cs := by
  have hi := (List.getElem?_eq_some_iff.1 hv).1
  unfold Part at h ⊢
  subst h
  rw [List.take_add_one, hv, show l.length - i = l.length - (i + 1) + 1 by omega, List.replicate_succ]
  simp
end Ev
end Go.Proofs.Ytimgnlellflciaa

/- Package clamp, gone through: the yard; what befell a clamp. -/
namespace Go.Proofs.Ytimgnlellflciaa
open Go
namespace Ev
namespace K
attribute [local simp] ev1 wantG spineK spine float xnew xval xeff zaa zaq zbc zav zaw addFl cellsOf pickC alive slLen slFt binI maxA maxK minA minK aeqK aeqS AV.cells spA zar fillA setAt bitsI nat_nn zbg AV.plain apart
set_option maxRecDepth 100000
set_option maxHeartbeats 4000000
def pileE (p : Clm.Pl) : AV := .agg [.int .i64 p.long.lo, .int .i64 p.long.hi, .int .i64 p.wide.lo, .int .i64 p.wide.hi, .int .i64 p.high.lo, .int .i64 p.high.hi]
def evtE (e : Clm.Evt) : AV := .agg [.int .i64 e.kind, .int .i64 e.clamp, .int .i64 e.sods.lo, .int .i64 e.sods.hi]
def clampCs (c : Clm.Cl) : List AV := [.vs 6 (c.piles.map pileE), .int .i64 c.pack.lo, .int .i64 c.pack.hi, .vs 4 (c.events.map evtE)]
def bfA : Clm.Bf → AV
  | .nil => .nilif
  | .sale s => .iface 143 (.agg [.int .i64 s.lo, .int .i64 s.hi])
  | .count s => .iface 145 (.agg [.int .i64 s.lo, .int .i64 s.hi])
theorem zjw (c : Clm.Cl) (number : Int) (counts i : Nat) (h : i < c.events.length) (h' : i < (Clm.befell c number counts).length) : (Clm.befell c number counts)[i] = if c.events[i].clamp ≠ number then .nil else if c.events[i].kind = 0 then .sale c.events[i].sods else if Clm.bit counts i then .count c.events[i].sods else .nil := by
  simp [Clm.befell]
theorem zwu {n d : Nat} (hd : d ≤ 64) : IntKind.u64.wrap ((BitVec.ofInt IntKind.u64.bits ((n : Int).fdiv (2 ^ (min ((d : Int).toNat) IntKind.u64.bits))) &&& BitVec.ofInt IntKind.u64.bits 1).toNat) = if n.testBit d then 1 else 0 := by
  have hb : IntKind.u64.bits = 64 := rfl
  have hf : ((n : Int).fdiv (2 ^ d)) = ((n / 2 ^ d : Nat) : Int) := by
    rw [Int.fdiv_eq_ediv_of_nonneg _ (Int.pow_nonneg (by decide))]; simp
  rw [show min ((d : Int).toNat) IntKind.u64.bits = d by rw [hb]; omega, hf, hb]
  have h1 : (BitVec.ofInt 64 ((n / 2 ^ d : Nat) : Int)).toNat = (n / 2 ^ d) % 2 ^ 64 := by
    rw [BitVec.toNat_ofInt]; omega
  have h2 : (BitVec.ofInt 64 1).toNat = 1 := by decide
  rw [BitVec.toNat_and, h1, h2, Nat.and_one_is_mod, Nat.testBit_eq_decide_div_mod_eq]
  generalize n / 2 ^ d = q at *
  have h3 : q % 2 ^ 64 % 2 = q % 2 := by omega
  rw [h3]
  by_cases hm : q % 2 = 1
  · rw [hm]; rfl
  · rw [show q % 2 = 0 by omega]; rfl
theorem zsq (C : Cfg) (hC : C.calm = true) (call : CallF) (H : List AB) (c : Clm.Cl) (hn : c.events.length ≤ 6) (yb : Nat) (w : AV) (hy : H[yb]? = some (.cells (clampCs c ++ [w]))) (number : Int) (counts : Nat) :
    Does (ev C call H.length none af97.body { tm := tmA af97.ntmps (zipI 0 [.ptr yb 0, .int .i64 number, .int .u64 counts] []), df := [], hp := H, tc := [] }) (Ends C H.length af97.res fun v hp tc => v = .sl H.length 0 c.events.length 1 ∧ tc = [] ∧ ∃ J, hp = H ++ .cells ((Clm.befell c number counts).map bfA) :: J) := by
  obtain ⟨y0, y1, y2, y3, y4⟩ := bk hy
  unfold af97
  simp only [zipI, clampCs, List.cons_append, List.nil_append] at *
  have b1 : c.events.length ≤ bound := by unfold bound; omega
  (repeat (first | (with_reducible apply zah; (focus ((conv => lhs; simp [Nat.testBit_eq_decide_div_mod_eq, *]) <;> exact rfl)); simp only [addFl]) | ((with_reducible first | apply zai | apply zak | apply zag | apply zae | apply zac | apply zaj | apply zaf | apply zam | (apply zad; · simp [zaa, *]) | (apply zab; · simp [zaa, *])); try simp only [Then, Ops])))
  have hbl := Clm.befell_len c number counts
  refine zaz hC c.events.length (by unfold fuelL; omega) (fun i st => ∃ cs J, Part ((Clm.befell c number counts).map bfA) .nilif i cs ∧ st = { tm := tmA 60 [(23, .int .i64 i), (22, .int .i64 c.events.length), (21, .vs 4 (c.events.map evtE)), (7, .sl H.length 0 c.events.length 1), (2, .int .u64 counts), (1, .int .i64 number)], df := [], hp := H ++ .cells cs :: J, tc := [] }) ?_ ?_ ?_
  · refine ⟨_, [], ?_, st_is (by simp [zan, zap]) rfl rfl rfl⟩
    have := zuo ((Clm.befell c number counts).map bfA) AV.nilif
    rwa [List.length_map, hbl] at this
  · rintro i st hi ⟨cs, J, hp, rfl⟩
    have hcl := zxu hp (by simp; omega)
    rw [List.length_map, hbl] at hcl
    have hv : ((Clm.befell c number counts).map bfA)[i]? = some (bfA (if c.events[i].clamp ≠ number then .nil else if c.events[i].kind = 0 then .sale c.events[i].sods else if Clm.bit counts i then .count c.events[i].sods else .nil)) := by
      rw [List.getElem?_map, List.getElem?_eq_getElem (by omega), zjw]; rfl
    have hbit := zwu (n := counts) (d := i) (by omega)
    have hwi : IntKind.i64.wrap (↑i + 1) = ↑i + 1 := zas (by omega) (by omega)
    have hP := hideP (And.intro hp hv)
    clear hp hv
    have hn1 : i + 1 ≤ c.events.length := hi
    by_cases e1 : c.events[i].clamp = number
    · by_cases e2 : c.events[i].kind = 0
      · have hv := hP.out.2
        rw [if_neg (show ¬ (c.events[i].clamp ≠ number) from fun h => h e1), if_pos e2] at hv
        have hQ := hideP (zml hP.out.1 hv)
        clear hP hv
        (repeat (first | (with_reducible apply zah; (focus ((conv => lhs; simp [evtE, Nat.testBit_eq_decide_div_mod_eq, *]) <;> exact rfl)); simp only [addFl]) | ((with_reducible first | apply zai | apply zak | apply zag | apply zae | apply zac | apply zaj | apply zaf | apply zam | (apply zad; · simp [zaa, *]) | (apply zab; · simp [zaa, *])); try simp only [Then, Ops, OutB]) | simp only [Nat.reduceEqDiff, reduceIte, OutB, Then]))
        with_reducible refine ⟨_, ?_, hQ.out, ?_⟩
        rotate_left
        refine st_is ?_ ?_ ?_ ?_
        · simp [zan, zap]
        · rfl
        · rfl
        · rfl
      · cases hb : counts.testBit i
        · have hv := hP.out.2
          rw [if_neg (show ¬ (c.events[i].clamp ≠ number) from fun h => h e1), if_neg e2, if_neg (show ¬ (Clm.bit counts i = true) by simp [Clm.bit, hb])] at hv
          have hQ := hideP (zmm hP.out.1 hv)
          clear hP hv
          rw [hb] at hbit
          simp at hbit
          (repeat (first | (with_reducible apply zah; (focus ((conv => lhs; simp [evtE, Nat.testBit_eq_decide_div_mod_eq, *]) <;> exact rfl)); simp only [addFl]) | ((with_reducible first | apply zai | apply zak | apply zag | apply zae | apply zac | apply zaj | apply zaf | apply zam | (apply zad; · simp [zaa, *]) | (apply zab; · simp [zaa, *])); try simp only [Then, Ops, OutB]) | simp only [Nat.reduceEqDiff, reduceIte, OutB, Then]))
          with_reducible refine ⟨_, ?_, hQ.out, ?_⟩
          rotate_left
          refine st_is ?_ ?_ ?_ ?_
          · simp [zan, zap]
          · rfl
          · rfl
          · rfl
        · have hv := hP.out.2
          rw [if_neg (show ¬ (c.events[i].clamp ≠ number) from fun h => h e1), if_neg e2, if_pos (show Clm.bit counts i = true by simp [Clm.bit, hb])] at hv
          have hQ := hideP (zml hP.out.1 hv)
          clear hP hv
          rw [hb] at hbit
          simp at hbit
          (repeat (first | (with_reducible apply zah; (focus ((conv => lhs; simp [evtE, Nat.testBit_eq_decide_div_mod_eq, *]) <;> exact rfl)); simp only [addFl]) | ((with_reducible first | apply zai | apply zak | apply zag | apply zae | apply zac | apply zaj | apply zaf | apply zam | (apply zad; · simp [zaa, *]) | (apply zab; · simp [zaa, *])); try simp only [Then, Ops, OutB]) | simp only [Nat.reduceEqDiff, reduceIte, OutB, Then]))
          with_reducible refine ⟨_, ?_, hQ.out, ?_⟩
          rotate_left
          refine st_is ?_ ?_ ?_ ?_
          · simp [zan, zap]
          · rfl
          · rfl
          · rfl
    · have hv := hP.out.2
      rw [if_pos e1] at hv
      have hQ := hideP (zmm hP.out.1 hv)
      clear hP hv
      (repeat (first | (with_reducible apply zah; (focus ((conv => lhs; simp [evtE, Nat.testBit_eq_decide_div_mod_eq, *]) <;> exact rfl)); simp only [addFl]) | ((with_reducible first | apply zai | apply zak | apply zag | apply zae | apply zac | apply zaj | apply zaf | apply zam | (apply zad; · simp [zaa, *]) | (apply zab; · simp [zaa, *])); try simp only [Then, Ops, OutB]) | simp only [Nat.reduceEqDiff, reduceIte, OutB, Then]))
      with_reducible refine ⟨_, ?_, hQ.out, ?_⟩
      rotate_left
      refine st_is ?_ ?_ ?_ ?_
      · simp [zan, zap]
      · rfl
      · rfl
      · rfl
  · rintro st ⟨cs, J, hp, rfl⟩
    rw [show c.events.length = ((Clm.befell c number counts).map bfA).length by simp [hbl]] at hp
    obtain rfl := zxv hp
    clear hp
    (repeat (first | (with_reducible apply zah; (focus ((conv => lhs; simp [Nat.testBit_eq_decide_div_mod_eq, *]) <;> exact rfl)); simp only [addFl]) | ((with_reducible first | apply zai | apply zak | apply zag | apply zae | apply zac | apply zaj | apply zaf | apply zam | (apply zad; · simp [zaa, *]) | (apply zab; · simp [zaa, *])); try simp only [Then, Ops, OutB, reduceIte])))
    exact zao (.inl rfl) rfl (by simp) (by simp only [resL, resOf, zal]; simp [resV]) ⟨rfl, rfl, J, rfl⟩
end K
end Ev
end Go.Proofs.Ytimgnlellflciaa

/- The log of a clamp, plainly: entry by entry. -/
namespace Go.Proofs.Ytimgnlellflciaa
open Go
namespace Clm
def fwd (l : List Bf) (k : Sp) (i : Nat) : Sp := (l.take i).foldl (fun k e => e.after k) k
theorem fwd_succ {l : List Bf} {k : Sp} {i : Nat} {e : Bf} (h : l[i]? = some e) : fwd l k (i + 1) = e.after (fwd l k i) := by
  unfold fwd
  rw [List.take_add_one, h]
  simp
def bwd (l : List Bf) (k : Sp) (i : Nat) : Sp := (logs l k).getD i ⟨0, 0⟩
theorem zvo (l : List Bf) (k : Sp) : ∃ x m, logs l k = x :: m := by
  cases l with
  | nil => exact ⟨_, _, rfl⟩
  | cons e l => exact ⟨_, _, rfl⟩
theorem bwd_last (l : List Bf) (k : Sp) : bwd l k l.length = fwd l k l.length := by
  unfold bwd fwd
  rw [List.getD_eq_getElem?_getD, zjb, List.take_of_length_le (Nat.le_refl _)]; rfl
theorem bwd_step : ∀ {l : List Bf} {k : Sp} {i : Nat} {e : Bf}, l[i]? = some e → bwd l k i = (fwd l k i).both (e.before (bwd l k (i + 1)))
  | [], k, i, e, h => by simp at h
  | e' :: l, k, 0, e, h => by
    simp only [List.getElem?_cons_zero, Option.some.injEq] at h
    subst h
    obtain ⟨x, m, hx⟩ := zvo l (e'.after k)
    simp [bwd, fwd, logs, hx]
  | e' :: l, k, i + 1, e, h => by
    have ih := bwd_step (k := e'.after k) (by simpa using h : l[i]? = some e)
    simp only [bwd, fwd, logs, List.getD_cons_succ, List.take_succ_cons, List.foldl_cons] at ih ⊢
    exact ih
theorem bwd_out {l : List Bf} {k : Sp} {i : Nat} (h : l.length < i) : bwd l k i = ⟨0, 0⟩ := by
  unfold bwd
  rw [List.getD_eq_getElem?_getD, List.getElem?_eq_none (by rw [zqf]; omega)]; rfl
theorem bwd_head (l : List Bf) (k : Sp) : bwd l k 0 = (logs l k).headD Sp.no := by
  obtain ⟨x, m, hx⟩ := zvo l k
  simp [bwd, hx]
structure Low (s : Sp) : Prop where
  l0 : 0 ≤ s.lo
  l1 : s.lo ≤ 10000
  h0 : 0 ≤ s.hi
  h1 : s.hi ≤ 10000
def Bf.low : Bf → Prop
  | .nil => True
  | .sale s => 0 ≤ s.lo ∧ s.lo ≤ s.hi ∧ s.hi ≤ 5000
  | .count s => 0 ≤ s.lo ∧ s.lo ≤ s.hi ∧ s.hi ≤ 5000
theorem zvl {e : Bf} (h : e.low) {k : Sp} (hk : Low k) : Low (e.after k) := by
  obtain ⟨a, b, c, d⟩ := hk
  cases e with
  | nil => exact ⟨a, b, c, d⟩
  | sale s =>
    simp only [Bf.low] at h
    unfold Bf.after
    simp only
    split
    · exact ⟨by decide, by decide, by decide, by decide⟩
    · rename_i hh
      simp only [not_or, Int.not_lt] at hh
      exact ⟨by simp only; omega, by simp only; omega, by simp only; omega, by simp only; omega⟩
  | count s =>
    simp only [Bf.low] at h
    unfold Bf.after Sp.both
    simp only
    split
    · exact ⟨by decide, by decide, by decide, by decide⟩
    · exact ⟨by simp only; omega, by simp only; omega, by simp only; omega, by simp only; omega⟩
theorem low_fwd {l : List Bf} {k : Sp} (hl : ∀ e ∈ l, e.low) (hk : Low k) : ∀ i, Low (fwd l k i)
  | 0 => hk
  | i + 1 => by
    cases h : l[i]? with
    | none =>
      have := List.getElem?_eq_none_iff.1 h
      have e : fwd l k (i + 1) = fwd l k i := by unfold fwd; rw [List.take_of_length_le (by omega), List.take_of_length_le (by omega)]
      rw [e]; exact low_fwd hl hk i
    | some e => rw [fwd_succ h]; exact zvl (hl e (List.mem_of_getElem? h)) (low_fwd hl hk i)
theorem zyl {k o : Sp} (hk : Low k) : Low (k.both o) := by
  obtain ⟨a, b, c, d⟩ := hk
  unfold Sp.both
  split
  · exact ⟨by decide, by decide, by decide, by decide⟩
  · exact ⟨by simp only; omega, by simp only; omega, by simp only; omega, by simp only; omega⟩
theorem low_bwd {l : List Bf} {k : Sp} (hl : ∀ e ∈ l, e.low) (hk : Low k) (i : Nat) : Low (bwd l k i) := by
  rcases Nat.lt_trichotomy i l.length with h | h | h
  · rw [bwd_step (List.getElem?_eq_getElem h)]; exact zyl (low_fwd hl hk i)
  · subst h; rw [bwd_last]; exact low_fwd hl hk _
  · rw [bwd_out h]; exact ⟨by decide, by decide, by decide, by decide⟩
theorem befell_low {c : Cl} (hc : Fine c) (number counts : Nat) : ∀ e ∈ befell c number counts, e.low := by
  intro e he
  simp only [befell, List.mem_map] at he
  obtain ⟨⟨v, i⟩, hp, rfl⟩ := he
  have hv : v ∈ c.events := by
    have := List.mem_zipIdx hp
    obtain ⟨_, _, h⟩ := this
    simp only [h]; exact List.getElem_mem _
  have := hc.event v hv
  simp only
  split
  · trivial
  · split
    · exact ⟨this.2.2.1, this.2.2.2.1, this.2.2.2.2.1⟩
    · split
      · exact ⟨this.2.2.1, this.2.2.2.1, this.2.2.2.2.1⟩
      · trivial
end Clm
end Go.Proofs.Ytimgnlellflciaa

/- Package clamp, gone through: what is kept; arrays of spans. -/
namespace Go.Proofs.Ytimgnlellflciaa
open Go
namespace Ev
namespace K
set_option maxRecDepth 100000
set_option maxHeartbeats 4000000
def arr7 (f : Nat → Clm.Sp) : List AV := [.int .i64 (f 0).lo, .int .i64 (f 0).hi, .int .i64 (f 1).lo, .int .i64 (f 1).hi, .int .i64 (f 2).lo, .int .i64 (f 2).hi, .int .i64 (f 3).lo, .int .i64 (f 3).hi, .int .i64 (f 4).lo, .int .i64 (f 4).hi, .int .i64 (f 5).lo, .int .i64 (f 5).hi, .int .i64 (f 6).lo, .int .i64 (f 6).hi]
theorem zdl (f : Nat → Clm.Sp) : (arr7 f).length = 14 := rfl
theorem zed (f : Nat → Clm.Sp) {i : Nat} (h : i < 7) : List.take 2 (List.drop (i * 2) (arr7 f)) = [.int .i64 (f i).lo, .int .i64 (f i).hi] := by
  match i, h with
  | 0, _ | 1, _ | 2, _ | 3, _ | 4, _ | 5, _ | 6, _ => rfl
def upd (f : Nat → Clm.Sp) (i : Nat) (s : Clm.Sp) : Nat → Clm.Sp := fun j => if j = i then s else f j
theorem zls (f : Nat → Clm.Sp) {i : Nat} (h : i < 7) (a b : Int) : List.take (i * 2) (arr7 f) ++ .int .i64 a :: .int .i64 b :: List.drop (i * 2 + 2) (arr7 f) = arr7 (upd f i ⟨a, b⟩) := by
  match i, h with
  | 0, _ | 1, _ | 2, _ | 3, _ | 4, _ | 5, _ | 6, _ => rfl
theorem zil (f : Nat → Clm.Sp) : List.take 14 (arr7 f) = arr7 f := rfl
theorem zhn (f : Nat → Clm.Sp) : (arr7 f).all AV.plain = true := rfl
theorem zzj {f g : Nat → Clm.Sp} (h : ∀ i, i < 7 → f i = g i) : arr7 f = arr7 g := by
  unfold arr7
  rw [h 0 (by decide), h 1 (by decide), h 2 (by decide), h 3 (by decide), h 4 (by decide), h 5 (by decide), h 6 (by decide)]
structure Qn where
  num : Nat
  size : Clm.Size
  pack : Int
  counts : Nat
def Qn.sods (q : Qn) : Int := q.size.sods q.pack
def qA (q : Qn) : AV := .agg [.int .i64 q.num, .int .i64 q.size.l, .int .i64 q.size.w, .int .i64 q.size.h, .int .i64 q.pack, .int .u64 q.counts]
def logF (c : Clm.Cl) (q : Qn) : Nat → Clm.Sp := Clm.bwd (Clm.befell c q.num q.counts) ⟨q.sods, q.sods⟩
def logA (c : Clm.Cl) (q : Qn) : AV := .agg (arr7 (logF c q))
def Memo (c : Clm.Cl) (es : List (AV × AV)) : Prop := ∀ p ∈ es, ∃ q, p = (qA q, logA c q)
theorem aeq_q (q r : Qn) : ∃ b, aeqK (.agg [true, true, true, true, true, true]) (qA q) (qA r) = some b ∧ (b = true → r = q) := by
  obtain ⟨n, ⟨l, w, h⟩, p, k⟩ := q
  obtain ⟨n', ⟨l', w', h'⟩, p', k'⟩ := r
  refine ⟨_, rfl, ?_⟩
  simp only [Bool.and_eq_true, beq_iff_eq, Bool.and_true, and_imp]
  intro h1 h2 h3 h4 h5 h6
  have e1 : n = n' := by omega
  have e2 : k = k' := by omega
  subst e1 h2 h3 h4 h5 e2
  rfl
theorem zmt {c : Clm.Cl} (q : Qn) : ∀ {es : List (AV × AV)}, Memo c es → findA (.agg [true, true, true, true, true, true]) (qA q) es = some none ∨ findA (.agg [true, true, true, true, true, true]) (qA q) es = some (some (logA c q))
  | [], _ => .inl rfl
  | (k, v) :: es, h => by
    obtain ⟨r, hr⟩ := h (k, v) (by simp)
    cases hr
    obtain ⟨b, hb, hq⟩ := aeq_q q r
    simp only [findA, hb]
    cases b with
    | true => rw [hq rfl]; exact .inr rfl
    | false => exact zmt q fun p hp => h p (by simp [hp])
theorem zpz {c : Clm.Cl} (q : Qn) : ∀ {es : List (AV × AV)}, Memo c es → ∃ es', putA (.agg [true, true, true, true, true, true]) (qA q) (logA c q) es = some es' ∧ Memo c es'
  | [], _ => ⟨_, rfl, fun p hp => ⟨q, by simpa using hp⟩⟩
  | (k, v) :: es, h => by
    obtain ⟨r, hr⟩ := h (k, v) (by simp)
    cases hr
    obtain ⟨b, hb, hq⟩ := aeq_q q r
    simp only [putA, hb]
    cases b with
    | true =>
      refine ⟨_, rfl, fun p hp => ?_⟩
      rcases List.mem_cons.1 hp with rfl | hp
      · exact ⟨q, rfl⟩
      · exact h p (by simp [hp])
    | false =>
      obtain ⟨es', h1, h2⟩ := zpz q (es := es) fun p hp => h p (by simp [hp])
      rw [h1]
      refine ⟨_, rfl, fun p hp => ?_⟩
      rcases List.mem_cons.1 hp with rfl | hp
      · exact ⟨r, rfl⟩
      · exact h2 p hp
structure Yd (c : Clm.Cl) (yb mb : Nat) (H : List AB) : Prop where
  ne : yb ≠ mb
  y : H[yb]? = some (.cells (clampCs c ++ [.map mb]))
  m : ∃ es, H[mb]? = some (.map es) ∧ Memo c es
theorem Yd.kp {c : Clm.Cl} {yb mb : Nat} {H G : List AB} {S : List Nat} (h : Yd c yb mb H) (k : Kp S H G) (h1 : yb ∉ S) (h2 : mb ∉ S) : Yd c yb mb G := by
  obtain ⟨es, m1, m2⟩ := h.m
  exact ⟨h.ne, k.at h.y h1, es, k.at m1 h2, m2⟩
theorem Yd.app {c : Clm.Cl} {yb mb : Nat} {H : List AB} (h : Yd c yb mb H) (K : List AB) : Yd c yb mb (H ++ K) := h.kp (Kp.app (S := []) H K) (by simp) (by simp)
structure QOk (q : Qn) : Prop where
  l0 : 0 ≤ q.size.l
  l1 : q.size.l ≤ 10
  w0 : 0 ≤ q.size.w
  w1 : q.size.w ≤ 10
  h0 : 0 ≤ q.size.h
  h1 : q.size.h ≤ 10
  p0 : 0 ≤ q.pack
  p1 : q.pack ≤ 5
theorem QOk.sods {q : Qn} (h : QOk q) : 0 ≤ q.sods ∧ q.sods ≤ 5000 := by
  obtain ⟨a0, a1⟩ := mulB h.l0 h.l1 h.w0 h.w1
  obtain ⟨b0, b1⟩ := mulB a0 a1 h.h0 h.h1
  obtain ⟨c0, c1⟩ := mulB b0 b1 h.p0 h.p1
  exact ⟨c0, by unfold Qn.sods Clm.Size.sods; omega⟩
end K
end Ev
end Go.Proofs.Ytimgnlellflciaa
