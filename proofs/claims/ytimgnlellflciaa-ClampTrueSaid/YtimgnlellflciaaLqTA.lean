/- ClampTrue, gone through: a round of its loop. -/
import Derived.Test.YtimgnlellflciaaCqEA
import Derived.Test.YtimgnlellflciaaCqPF
import Derived.Test.YtimgnlellflciaaCqPD
/- The code of functions of the laws, for the evaluator. Printed by program. -/
namespace Go.Proofs.Ytimgnlellflciaa
open Go
namespace Ev
def af27 : AFunc := ⟨15, [(.tmp 4)], (.seq (.ops [⟨0, (some 3), (.box (.tmp 1)), none, 0⟩, ⟨1, (some 4), (.mov (.val (.bool false))), none, 0⟩]) (.seq (.ops [⟨0, (some 5), (.fieldA 0 (.tmp 3)), none, 0⟩, ⟨1, (some 6), (.load none (.tmp 5)), none, 0⟩, ⟨2, (some 7), (.mov (.tmp 0)), none, 0⟩, ⟨3, (some 8), (.bin .leq (.tmp 6) (.tmp 7)), none, 0⟩, ⟨4, (some 9), (.mov (.tmp 8)), none, 0⟩, ⟨5, (some 10), (.mov (.tmp 0)), (some (9, true)), 0⟩, ⟨6, (some 11), (.fieldA 1 (.tmp 3)), (some (9, true)), 0⟩, ⟨7, (some 12), (.load none (.tmp 11)), (some (9, true)), 0⟩, ⟨8, (some 13), (.bin .leq (.tmp 10) (.tmp 12)), (some (9, true)), 0⟩, ⟨9, (some 14), (.pick (.tmp 9) (.tmp 13) (.val (.bool false))), none, 0⟩, ⟨10, (some 4), (.mov (.tmp 14)), none, 0⟩]) .ret))⟩
end Ev
end Go.Proofs.Ytimgnlellflciaa

/- The code of functions of the laws, for the evaluator. Printed by program. -/
namespace Go.Proofs.Ytimgnlellflciaa
open Go
namespace Ev
end Ev
end Go.Proofs.Ytimgnlellflciaa

/- Chapter 09, gone through: small functions of the laws. -/
namespace Go.Proofs.Ytimgnlellflciaa
open Go
namespace Ev
namespace K
attribute [local simp] ev1 wantG spineK spine float xnew xval xeff zaa zat zbf zay zaz addFl cellsOf pickC alive slLen slFt binI maxA maxK minA minK aeqK aeqS AV.cells spA zas fillA setAt bitsI nat_nn zbj AV.plain apart
set_option maxRecDepth 100000
set_option maxHeartbeats 4000000
theorem flall_nil' (fl : List (Nat × List Nat)) (d : Nat) : (fl.all fun p => d.testBit p.1 || apart p.2 []) = true := by simp [apart]
def atP : List Nat → AC → AC
  | 0 :: p, .seq a _ => atP p a
  | 1 :: p, .seq _ b => atP p b
  | _ :: p, .block _ c => atP p c
  | _ :: p, .loop _ c => atP p c
  | 0 :: p, .cond _ a _ => atP p a
  | 1 :: p, .cond _ _ b => atP p b
  | _, c => c
def InsideC (call : CallF) : Prop := ∀ (H : List AB) (n a b : Int), call (.fn (.func 27) [] []) [.int .i64 n, .agg [.int .i64 a, .int .i64 b]] H = some (.ret (.bool (decide (a ≤ n ∧ n ≤ b))), H, [])
theorem inside_fun (C : Cfg) (call : CallF) (H : List AB) (n a b : Int) : Does (ev C call H.length none af27.body { tm := tmA af27.ntmps (zipI 0 [.int .i64 n, .agg [.int .i64 a, .int .i64 b]] []), df := [], hp := H, tc := [] })
    (Ends C H.length af27.res fun v _hp tc => v = .bool (decide (a ≤ n ∧ n ≤ b)) ∧ tc = []) := by
  unfold af27
  simp only [zipI]
  by_cases h : a ≤ n
  · (repeat (first | (with_reducible apply zai; (focus ((conv => lhs; simp [Nat.testBit_eq_decide_div_mod_eq, *]) <;> exact rfl)); simp only [addFl]) | ((with_reducible first | refine zaj ?_ | refine zal ?_ | refine zag ?_ | refine zae ?_ | refine zac ?_ | refine zak ?_ | refine zaf ?_ | refine zam ?_ | (apply zad; (focus (simp [zaa, *]; done))) | (with_reducible apply zab; (focus (simp [zaa, *]; done)))); try simp only [Then, Ops]) | simp only [Nat.reduceEqDiff, reduceIte, OutB, Then]))
    exact zan (v := .bool (decide (n ≤ b))) (.inl rfl) rfl (by simp) (by simp only [resL, resOf, zah]; simp [resV, *]) ⟨by simp [h], rfl⟩
  · (repeat (first | (with_reducible apply zai; (focus ((conv => lhs; simp [Nat.testBit_eq_decide_div_mod_eq, *]) <;> exact rfl)); simp only [addFl]) | ((with_reducible first | refine zaj ?_ | refine zal ?_ | refine zag ?_ | refine zae ?_ | refine zac ?_ | refine zak ?_ | refine zaf ?_ | refine zam ?_ | (apply zad; (focus (simp [zaa, *]; done))) | (with_reducible apply zab; (focus (simp [zaa, *]; done)))); try simp only [Then, Ops]) | simp only [Nat.reduceEqDiff, reduceIte, OutB, Then]))
    exact zan (v := .bool false) (.inl rfl) rfl (by simp) (by simp only [resL, resOf, zah]; simp [resV, *]) ⟨by simp [h], rfl⟩
end K
end Ev
end Go.Proofs.Ytimgnlellflciaa

/- The code of functions of the laws, for the evaluator. Printed by program. -/
namespace Go.Proofs.Ytimgnlellflciaa
open Go
namespace Ev
def af4 : AFunc := ⟨279, [(.tmp 6)], (.seq (.ops [⟨0, (some 3), (.box (.tmp 0)), none, 0⟩, ⟨1, (some 6), (.mov (.val (.bool false))), none, 0⟩]) (.seq (.seq (.ops [⟨0, (some 34), (.load (some 4) (.tmp 3)), none, 0⟩, ⟨1, (some 35), (.call (.val (.fn (Fn.func 21) [] [])) [(.tmp 34)]), none, 0⟩, ⟨2, (some 36), (.mov (.tmp 35)), none, 0⟩, ⟨3, (some 37), (.load (some 4) (.tmp 3)), (some (36, false)), 0⟩, ⟨4, (some 38), (.call (.val (.fn (Fn.func 22) [] [])) [(.tmp 37)]), (some (36, false)), 0⟩, ⟨5, (some 39), (.not (.tmp 38)), (some (36, false)), 0⟩, ⟨6, (some 40), (.pick (.tmp 36) (.val (.bool true)) (.tmp 39)), none, 0⟩]) (.cond (.tmp 40) (.seq (.ops [⟨0, (some 41), (.call (.val (.fn (Fn.func 19) [] [])) []), none, 0⟩, ⟨1, (some 6), (.mov (.tmp 41)), none, 0⟩]) .ret) .skip)) (.seq (.draw [⟨0, (some 43), (.load (some 4) (.tmp 3)), none, 0⟩, ⟨1, (some 44), (.mov (.tmp 1)), none, 0⟩, ⟨9, (some 7), (.alloc [.nils, (.int .i64 0), (.int .i64 0), .nils]), none, 0⟩, ⟨2, (some 45), (.call (.val (.fn (Fn.func 24) [] [])) [(.tmp 44)]), none, 2⟩, ⟨3, (some 46), (.call (.val (.fn (Fn.func 23) [] [])) [(.tmp 43), (.tmp 45)]), none, 7⟩, ⟨4, (some 42), (.mov (.tmp 46)), none, 15⟩, ⟨5, (some 47), (.extract (.tmp 42) 0), none, 31⟩, ⟨6, (some 48), (.extract (.tmp 42) 1), none, 31⟩, ⟨7, (some 49), (.extract (.tmp 42) 2), none, 31⟩, ⟨8, (some 50), (.extract (.tmp 42) 3), none, 31⟩, ⟨10, none, (.store 4 (.tmp 7) (.tmp 47)), none, 575⟩, ⟨11, (some 8), (.mov (.tmp 48)), none, 1663⟩, ⟨12, (some 9), (.mov (.tmp 49)), none, 3839⟩, ⟨13, (some 10), (.mov (.tmp 50)), none, 8191⟩]) (.seq (.seq (.ops [⟨0, (some 51), (.mov (.tmp 10)), none, 0⟩, ⟨1, (some 52), (.not (.tmp 51)), none, 0⟩]) (.cond (.tmp 52) (.seq (.ops [⟨0, (some 53), (.call (.val (.fn (Fn.func 19) [] [])) []), none, 0⟩, ⟨1, (some 6), (.mov (.tmp 53)), none, 0⟩]) .ret) .skip)) (.seq (.ops [⟨0, (some 54), (.mov (.tmp 2)), none, 0⟩, ⟨1, (some 55), (.conv .i64 (.tmp 54)), none, 0⟩, ⟨2, (some 56), (.bin .rem (.tmp 55) (.val (.int .i64 20001))), none, 0⟩, ⟨3, (some 11), (.mov (.tmp 56)), none, 0⟩]) (.seq (.ops [⟨0, (some 58), (.load (some 4) (.tmp 7)), none, 0⟩, ⟨1, (some 59), (.call (.val (.fn (Fn.func 16) [] [])) [(.tmp 58)]), none, 0⟩, ⟨2, (some 57), (.mov (.tmp 59)), none, 0⟩, ⟨3, (some 60), (.extract (.tmp 57) 0), none, 0⟩, ⟨4, (some 61), (.extract (.tmp 57) 1), none, 0⟩, ⟨5, (some 12), (.mov (.tmp 60)), none, 0⟩, ⟨6, (some 13), (.mov (.tmp 61)), none, 0⟩]) (.seq (.ops [⟨0, (some 63), (.load (some 4) (.tmp 7)), none, 0⟩, ⟨1, (some 64), (.call (.val (.fn (Fn.func 25) [] [])) [(.tmp 63)]), none, 0⟩, ⟨2, (some 62), (.mov (.tmp 64)), none, 0⟩, ⟨3, (some 65), (.extract (.tmp 62) 0), none, 0⟩, ⟨4, (some 66), (.extract (.tmp 62) 1), none, 0⟩, ⟨5, (some 14), (.alloc [(.int .i64 0), (.int .i64 0)]), none, 0⟩, ⟨6, none, (.store 2 (.tmp 14) (.tmp 65)), none, 0⟩, ⟨7, (some 15), (.mov (.tmp 66)), none, 0⟩]) (.seq (.ops [⟨0, (some 68), (.load (some 4) (.tmp 7)), none, 0⟩, ⟨1, (some 69), (.call (.val (.fn (Fn.func 26) [] [])) [(.tmp 68)]), none, 0⟩, ⟨2, (some 67), (.mov (.tmp 69)), none, 0⟩, ⟨3, (some 70), (.extract (.tmp 67) 0), none, 0⟩, ⟨4, (some 71), (.extract (.tmp 67) 1), none, 0⟩, ⟨5, (some 72), (.extract (.tmp 67) 2), none, 0⟩, ⟨6, (some 16), (.mov (.tmp 70)), none, 0⟩, ⟨7, (some 17), (.mov (.tmp 71)), none, 0⟩, ⟨8, (some 18), (.mov (.tmp 72)), none, 0⟩]) (.seq (.ops [⟨0, (some 74), (.load (some 4) (.tmp 7)), none, 0⟩, ⟨1, (some 75), (.mov (.tmp 11)), none, 0⟩, ⟨2, (some 76), (.call (.val (.fn (Fn.func 15) [] [])) [(.tmp 74), (.tmp 75)]), none, 0⟩, ⟨3, (some 73), (.mov (.tmp 76)), none, 0⟩, ⟨4, (some 77), (.extract (.tmp 73) 0), none, 0⟩, ⟨5, (some 78), (.extract (.tmp 73) 1), none, 0⟩, ⟨6, (some 19), (.mov (.tmp 77)), none, 0⟩, ⟨7, (some 20), (.mov (.tmp 78)), none, 0⟩]) (.seq (.seq (.ops [⟨0, (some 79), (.mov (.tmp 13)), none, 0⟩, ⟨1, (some 80), (.bin .neq (.tmp 79) (.val (.int .i64 4))), none, 0⟩, ⟨2, (some 81), (.mov (.tmp 80)), none, 0⟩, ⟨3, (some 82), (.mov (.tmp 15)), (some (81, false)), 0⟩, ⟨4, (some 83), (.bin .neq (.tmp 82) (.val (.int .i64 0))), (some (81, false)), 0⟩, ⟨5, (some 84), (.pick (.tmp 81) (.val (.bool true)) (.tmp 83)), none, 0⟩, ⟨6, (some 85), (.mov (.tmp 84)), none, 0⟩, ⟨7, (some 86), (.mov (.tmp 18)), (some (85, false)), 0⟩, ⟨8, (some 87), (.bin .neq (.tmp 86) (.val (.int .i64 0))), (some (85, false)), 0⟩, ⟨9, (some 88), (.pick (.tmp 85) (.val (.bool true)) (.tmp 87)), none, 0⟩, ⟨10, (some 89), (.mov (.tmp 88)), none, 0⟩, ⟨11, (some 90), (.mov (.tmp 16)), (some (89, false)), 0⟩, ⟨12, (some 91), (.mov (.tmp 17)), (some (89, false)), 0⟩, ⟨13, (some 92), (.bin .andNot (.tmp 90) (.tmp 91)), (some (89, false)), 0⟩, ⟨14, (some 93), (.bin .neq (.tmp 92) (.val (.int .i64 0))), (some (89, false)), 0⟩, ⟨15, (some 94), (.pick (.tmp 89) (.val (.bool true)) (.tmp 93)), none, 0⟩, ⟨16, (some 95), (.mov (.tmp 94)), none, 0⟩, ⟨17, (some 96), (.mov (.tmp 17)), (some (95, false)), 0⟩, ⟨18, (some 97), (.mov (.tmp 8)), (some (95, false)), 0⟩, ⟨19, (some 98), (.len (.tmp 97)), (some (95, false)), 0⟩, ⟨20, (some 99), (.bin .shr (.tmp 96) (.tmp 98)), (some (95, false)), 0⟩, ⟨21, (some 100), (.bin .neq (.tmp 99) (.val (.int .i64 0))), (some (95, false)), 0⟩, ⟨22, (some 101), (.pick (.tmp 95) (.val (.bool true)) (.tmp 100)), none, 0⟩, ⟨23, (some 102), (.mov (.tmp 101)), none, 0⟩, ⟨24, (some 103), (.mov (.tmp 20)), (some (102, false)), 0⟩, ⟨25, (some 104), (.bin .neq (.tmp 103) (.val (.int .i64 0))), (some (102, false)), 0⟩, ⟨26, (some 105), (.mov (.tmp 104)), (some (102, false)), 0⟩, ⟨27, (some 106), (.mov (.tmp 20)), (some (105, true)), 0⟩, ⟨28, (some 107), (.bin .neq (.tmp 106) (.val (.int .i64 4))), (some (105, true)), 0⟩, ⟨29, (some 108), (.pick (.tmp 105) (.tmp 107) (.val (.bool false))), (some (102, false)), 0⟩, ⟨30, (some 109), (.pick (.tmp 102) (.val (.bool true)) (.tmp 108)), none, 0⟩, ⟨31, (some 110), (.mov (.tmp 109)), none, 0⟩, ⟨32, (some 111), (.mov (.tmp 19)), (some (110, false)), 0⟩, ⟨33, (some 112), (.bin .lss (.tmp 111) (.val (.int .i64 0))), (some (110, false)), 0⟩, ⟨34, (some 113), (.pick (.tmp 110) (.val (.bool true)) (.tmp 112)), none, 0⟩, ⟨35, (some 114), (.mov (.tmp 113)), none, 0⟩, ⟨36, (some 115), (.mov (.tmp 19)), (some (114, false)), 0⟩, ⟨37, (some 116), (.mov (.tmp 8)), (some (114, false)), 0⟩, ⟨38, (some 117), (.len (.tmp 116)), (some (114, false)), 0⟩, ⟨39, (some 118), (.bin .shr (.tmp 115) (.tmp 117)), (some (114, false)), 0⟩, ⟨40, (some 119), (.bin .neq (.tmp 118) (.val (.int .i64 0))), (some (114, false)), 0⟩, ⟨41, (some 120), (.pick (.tmp 114) (.val (.bool true)) (.tmp 119)), none, 0⟩]) (.cond (.tmp 120) (.seq (.ops [⟨0, (some 6), (.mov (.val (.bool false))), none, 0⟩]) .ret) .skip)) (.seq (.ops [⟨0, (some 21), (.mov (.val (.int .i64 0))), none, 0⟩, ⟨1, (some 22), (.mov (.val (.int .i64 0))), none, 0⟩]) (.seq (.seq (.ops [⟨0, (some 121), (.mov (.tmp 8)), none, 0⟩, ⟨1, (some 122), (.len (.tmp 121)), none, 0⟩, ⟨2, (some 123), (.mov (.val (.int .i64 0))), none, 0⟩]) (.block 0 (.loop [7, 9, 11, 14, 16, 17, 19, 20, 21, 22, 121, 122, 123] (.seq (.ops [⟨0, (some 124), (.bin .lss (.tmp 123) (.tmp 122)), none, 0⟩]) (.seq (.cond (.tmp 124) .skip (.exit 0)) (.seq (.block 1 (.seq (.ops [⟨0, (some 125), (.mov (.tmp 123)), none, 0⟩, ⟨1, (some 126), (.indexA 1 none (.tmp 121) (.tmp 123)), none, 0⟩, ⟨2, (some 127), (.load none (.tmp 126)), none, 0⟩, ⟨3, (some 23), (.mov (.tmp 125)), none, 0⟩, ⟨4, (some 24), (.mov (.tmp 127)), none, 0⟩]) (.seq (.ops [⟨0, (some 129), (.load (some 4) (.tmp 7)), none, 0⟩, ⟨1, (some 130), (.mov (.tmp 23)), none, 0⟩, ⟨2, (some 131), (.call (.val (.fn (Fn.func 10) [] [])) [(.tmp 129), (.tmp 130)]), none, 0⟩, ⟨3, (some 128), (.mov (.tmp 131)), none, 0⟩, ⟨4, (some 132), (.extract (.tmp 128) 0), none, 0⟩, ⟨5, (some 133), (.extract (.tmp 128) 1), none, 0⟩, ⟨6, (some 25), (.alloc [(.int .i64 0), (.int .i64 0)]), none, 0⟩, ⟨7, none, (.store 2 (.tmp 25) (.tmp 132)), none, 0⟩, ⟨8, (some 26), (.mov (.tmp 133)), none, 0⟩]) (.seq (.ops [⟨0, (some 135), (.load (some 4) (.tmp 7)), none, 0⟩, ⟨1, (some 136), (.mov (.tmp 23)), none, 0⟩, ⟨2, (some 137), (.call (.val (.fn (Fn.func 12) [] [])) [(.tmp 135), (.tmp 136)]), none, 0⟩, ⟨3, (some 134), (.mov (.tmp 137)), none, 0⟩, ⟨4, (some 138), (.extract (.tmp 134) 0), none, 0⟩, ⟨5, (some 139), (.extract (.tmp 134) 1), none, 0⟩, ⟨6, (some 27), (.alloc [(.int .i64 0), (.int .i64 0)]), none, 0⟩, ⟨7, none, (.store 2 (.tmp 27) (.tmp 138)), none, 0⟩, ⟨8, (some 28), (.mov (.tmp 139)), none, 0⟩]) (.seq (.ops [⟨0, (some 141), (.load (some 4) (.tmp 7)), none, 0⟩, ⟨1, (some 142), (.mov (.tmp 23)), none, 0⟩, ⟨2, (some 143), (.call (.val (.fn (Fn.func 13) [] [])) [(.tmp 141), (.tmp 142)]), none, 0⟩, ⟨3, (some 140), (.mov (.tmp 143)), none, 0⟩, ⟨4, (some 144), (.extract (.tmp 140) 0), none, 0⟩, ⟨5, (some 145), (.extract (.tmp 140) 1), none, 0⟩, ⟨6, (some 29), (.alloc [(.int .i64 0), (.int .i64 0)]), none, 0⟩, ⟨7, none, (.store 2 (.tmp 29) (.tmp 144)), none, 0⟩, ⟨8, (some 30), (.mov (.tmp 145)), none, 0⟩]) (.seq (.draw [⟨0, (some 147), (.load (some 4) (.tmp 7)), none, 0⟩, ⟨1, (some 148), (.mov (.tmp 23)), none, 0⟩, ⟨2, (some 149), (.mov (.tmp 11)), none, 0⟩, ⟨3, (some 150), (.mov (.tmp 24)), none, 0⟩, ⟨4, (some 151), (.bin .add (.tmp 150) (.val (.int .i64 2))), none, 8⟩, ⟨5, (some 152), (.bin .rem (.tmp 149) (.tmp 151)), none, 28⟩, ⟨6, (some 153), (.call (.val (.fn (Fn.func 14) [] [])) [(.tmp 147), (.tmp 148), (.tmp 152)]), none, 63⟩, ⟨7, (some 146), (.mov (.tmp 153)), none, 127⟩, ⟨8, (some 154), (.extract (.tmp 146) 0), none, 255⟩, ⟨9, (some 155), (.extract (.tmp 146) 1), none, 255⟩, ⟨10, (some 31), (.mov (.tmp 154)), none, 511⟩, ⟨11, (some 32), (.mov (.tmp 155)), none, 2047⟩]) (.seq (.seq (.draw [⟨0, (some 156), (.mov (.tmp 26)), none, 0⟩, ⟨1, (some 157), (.bin .neq (.tmp 156) (.val (.int .i64 0))), none, 1⟩, ⟨2, (some 158), (.mov (.tmp 157)), none, 3⟩, ⟨3, (some 159), (.mov (.tmp 28)), (some (158, false)), 7⟩, ⟨4, (some 160), (.bin .neq (.tmp 159) (.val (.int .i64 0))), (some (158, false)), 15⟩, ⟨5, (some 161), (.pick (.tmp 158) (.val (.bool true)) (.tmp 160)), none, 31⟩, ⟨6, (some 162), (.mov (.tmp 161)), none, 63⟩, ⟨7, (some 163), (.mov (.tmp 30)), (some (162, false)), 127⟩, ⟨8, (some 164), (.bin .neq (.tmp 163) (.val (.int .i64 0))), (some (162, false)), 255⟩, ⟨9, (some 165), (.pick (.tmp 162) (.val (.bool true)) (.tmp 164)), none, 511⟩, ⟨10, (some 166), (.mov (.tmp 165)), none, 1023⟩, ⟨11, (some 167), (.mov (.tmp 32)), (some (166, false)), 2047⟩, ⟨12, (some 168), (.bin .neq (.tmp 167) (.val (.int .i64 0))), (some (166, false)), 4095⟩, ⟨13, (some 169), (.pick (.tmp 166) (.val (.bool true)) (.tmp 168)), none, 8191⟩, ⟨14, (some 170), (.mov (.tmp 169)), none, 16383⟩, ⟨15, (some 171), (.mov (.tmp 24)), (some (170, false)), 32767⟩, ⟨16, (some 172), (.load (some 2) (.tmp 25)), (some (170, false)), 32767⟩, ⟨17, (some 173), (.call (.val (.fn (Fn.func 27) [] [])) [(.tmp 171), (.tmp 172)]), (some (170, false)), 131071⟩, ⟨18, (some 174), (.not (.tmp 173)), (some (170, false)), 262143⟩, ⟨19, (some 175), (.pick (.tmp 170) (.val (.bool true)) (.tmp 174)), none, 524287⟩, ⟨20, (some 176), (.mov (.tmp 175)), none, 1048575⟩, ⟨21, (some 177), (.mov (.tmp 9)), (some (176, false)), 2097151⟩, ⟨22, (some 178), (.mov (.tmp 23)), (some (176, false)), 2097151⟩, ⟨23, (some 179), (.indexA 1 none (.tmp 177) (.tmp 178)), (some (176, false)), 8388607⟩, ⟨24, (some 180), (.load none (.tmp 179)), (some (176, false)), 16777215⟩, ⟨25, (some 181), (.load (some 2) (.tmp 27)), (some (176, false)), 2097151⟩, ⟨26, (some 182), (.call (.val (.fn (Fn.func 27) [] [])) [(.tmp 180), (.tmp 181)]), (some (176, false)), 67108863⟩, ⟨27, (some 183), (.not (.tmp 182)), (some (176, false)), 134217727⟩, ⟨28, (some 184), (.pick (.tmp 176) (.val (.bool true)) (.tmp 183)), none, 268435455⟩, ⟨29, (some 185), (.mov (.tmp 184)), none, 536870911⟩, ⟨30, (some 186), (.mov (.tmp 24)), (some (185, false)), 1073741823⟩, ⟨31, (some 187), (.mov (.tmp 9)), (some (185, false)), 1073741823⟩, ⟨32, (some 188), (.mov (.tmp 23)), (some (185, false)), 1073741823⟩, ⟨33, (some 189), (.indexA 1 none (.tmp 187) (.tmp 188)), (some (185, false)), 7516192767⟩, ⟨34, (some 190), (.load none (.tmp 189)), (some (185, false)), 16106127359⟩, ⟨35, (some 191), (.bin .sub (.tmp 186) (.tmp 190)), (some (185, false)), 34359738367⟩, ⟨36, (some 192), (.load (some 2) (.tmp 29)), (some (185, false)), 1073741823⟩, ⟨37, (some 193), (.call (.val (.fn (Fn.func 27) [] [])) [(.tmp 191), (.tmp 192)]), (some (185, false)), 137438953471⟩, ⟨38, (some 194), (.not (.tmp 193)), (some (185, false)), 274877906943⟩, ⟨39, (some 195), (.pick (.tmp 185) (.val (.bool true)) (.tmp 194)), none, 549755813887⟩]) (.cond (.tmp 195) (.seq (.ops [⟨0, (some 6), (.mov (.val (.bool false))), none, 0⟩]) .ret) .skip)) (.seq (.draw [⟨0, (some 196), (.mov (.tmp 9)), none, 0⟩, ⟨1, (some 197), (.mov (.tmp 23)), none, 0⟩, ⟨2, (some 198), (.indexA 1 none (.tmp 196) (.tmp 197)), none, 3⟩, ⟨3, (some 199), (.load none (.tmp 198)), none, 7⟩, ⟨4, (some 200), (.mov (.tmp 11)), none, 0⟩, ⟨5, (some 201), (.mov (.tmp 24)), none, 0⟩, ⟨6, (some 202), (.bin .add (.tmp 201) (.val (.int .i64 2))), none, 32⟩, ⟨7, (some 203), (.bin .rem (.tmp 200) (.tmp 202)), none, 112⟩, ⟨8, (some 204), (.bin .geq (.tmp 199) (.tmp 203)), none, 255⟩, ⟨9, (some 33), (.mov (.tmp 204)), none, 511⟩]) (.seq (.seq (.ops [⟨0, (some 205), (.mov (.tmp 31)), none, 0⟩, ⟨1, (some 206), (.bin .eql (.tmp 205) (.val (.int .i64 2))), none, 0⟩, ⟨2, (some 207), (.mov (.tmp 206)), none, 0⟩, ⟨3, (some 208), (.mov (.tmp 33)), (some (207, true)), 0⟩, ⟨4, (some 209), (.not (.tmp 208)), (some (207, true)), 0⟩, ⟨5, (some 210), (.pick (.tmp 207) (.tmp 209) (.val (.bool false))), none, 0⟩, ⟨6, (some 211), (.mov (.tmp 210)), none, 0⟩, ⟨7, (some 212), (.mov (.tmp 31)), (some (211, false)), 0⟩, ⟨8, (some 213), (.bin .eql (.tmp 212) (.val (.int .i64 0))), (some (211, false)), 0⟩, ⟨9, (some 214), (.mov (.tmp 213)), (some (211, false)), 0⟩, ⟨10, (some 215), (.mov (.tmp 33)), (some (214, true)), 0⟩, ⟨11, (some 216), (.pick (.tmp 214) (.tmp 215) (.val (.bool false))), (some (211, false)), 0⟩, ⟨12, (some 217), (.pick (.tmp 211) (.val (.bool true)) (.tmp 216)), none, 0⟩, ⟨13, (some 218), (.mov (.tmp 217)), none, 0⟩, ⟨14, (some 219), (.mov (.tmp 9)), (some (218, false)), 0⟩, ⟨15, (some 220), (.mov (.tmp 23)), (some (218, false)), 0⟩, ⟨16, (some 221), (.indexA 1 none (.tmp 219) (.tmp 220)), (some (218, false)), 0⟩, ⟨17, (some 222), (.load none (.tmp 221)), (some (218, false)), 0⟩, ⟨18, (some 223), (.bin .eql (.tmp 222) (.val (.int .i64 0))), (some (218, false)), 0⟩, ⟨19, (some 224), (.mov (.tmp 223)), (some (218, false)), 0⟩, ⟨20, (some 225), (.mov (.tmp 17)), (some (224, true)), 0⟩, ⟨21, (some 226), (.mov (.tmp 23)), (some (224, true)), 0⟩, ⟨22, (some 227), (.bin .shr (.tmp 225) (.tmp 226)), (some (224, true)), 0⟩, ⟨23, (some 228), (.bin .and (.tmp 227) (.val (.int .i64 1))), (some (224, true)), 0⟩, ⟨24, (some 229), (.bin .eql (.tmp 228) (.val (.int .i64 0))), (some (224, true)), 0⟩, ⟨25, (some 230), (.pick (.tmp 224) (.tmp 229) (.val (.bool false))), (some (218, false)), 0⟩, ⟨26, (some 231), (.pick (.tmp 218) (.val (.bool true)) (.tmp 230)), none, 0⟩, ⟨27, (some 232), (.mov (.tmp 231)), none, 0⟩, ⟨28, (some 233), (.mov (.tmp 9)), (some (232, false)), 0⟩, ⟨29, (some 234), (.mov (.tmp 23)), (some (232, false)), 0⟩, ⟨30, (some 235), (.indexA 1 none (.tmp 233) (.tmp 234)), (some (232, false)), 0⟩, ⟨31, (some 236), (.load none (.tmp 235)), (some (232, false)), 0⟩, ⟨32, (some 237), (.bin .gtr (.tmp 236) (.val (.int .i64 0))), (some (232, false)), 0⟩, ⟨33, (some 238), (.mov (.tmp 237)), (some (232, false)), 0⟩, ⟨34, (some 239), (.mov (.tmp 16)), (some (238, true)), 0⟩, ⟨35, (some 240), (.mov (.tmp 23)), (some (238, true)), 0⟩, ⟨36, (some 241), (.bin .shr (.tmp 239) (.tmp 240)), (some (238, true)), 0⟩, ⟨37, (some 242), (.bin .and (.tmp 241) (.val (.int .i64 1))), (some (238, true)), 0⟩, ⟨38, (some 243), (.bin .eql (.tmp 242) (.val (.int .i64 1))), (some (238, true)), 0⟩, ⟨39, (some 244), (.pick (.tmp 238) (.tmp 243) (.val (.bool false))), (some (232, false)), 0⟩, ⟨40, (some 245), (.pick (.tmp 232) (.val (.bool true)) (.tmp 244)), none, 0⟩]) (.cond (.tmp 245) (.seq (.ops [⟨0, (some 6), (.mov (.val (.bool false))), none, 0⟩]) .ret) .skip)) (.seq (.ops [⟨0, (some 246), (.mov (.tmp 21)), none, 0⟩, ⟨1, (some 247), (.mov (.tmp 9)), none, 0⟩, ⟨2, (some 248), (.mov (.tmp 23)), none, 0⟩, ⟨3, (some 249), (.indexA 1 none (.tmp 247) (.tmp 248)), none, 0⟩, ⟨4, (some 250), (.load none (.tmp 249)), none, 0⟩, ⟨5, (some 251), (.bin .add (.tmp 246) (.tmp 250)), none, 0⟩, ⟨6, (some 21), (.mov (.tmp 251)), none, 0⟩]) (.seq (.ops [⟨0, (some 252), (.mov (.tmp 19)), none, 0⟩, ⟨1, (some 253), (.mov (.tmp 23)), none, 0⟩, ⟨2, (some 254), (.bin .shr (.tmp 252) (.tmp 253)), none, 0⟩, ⟨3, (some 255), (.bin .and (.tmp 254) (.val (.int .i64 1))), none, 0⟩, ⟨4, (some 256), (.bin .eql (.tmp 255) (.val (.int .i64 1))), none, 0⟩]) (.cond (.tmp 256) (.ops [⟨0, (some 257), (.mov (.tmp 22)), none, 0⟩, ⟨1, (some 258), (.mov (.tmp 9)), none, 0⟩, ⟨2, (some 259), (.mov (.tmp 23)), none, 0⟩, ⟨3, (some 260), (.indexA 1 none (.tmp 258) (.tmp 259)), none, 0⟩, ⟨4, (some 261), (.load none (.tmp 260)), none, 0⟩, ⟨5, (some 262), (.bin .add (.tmp 257) (.tmp 261)), none, 0⟩, ⟨6, (some 22), (.mov (.tmp 262)), none, 0⟩]) .skip)))))))))))) (.ops [⟨0, (some 263), (.bin .add (.tmp 123) (.val (.int .i64 1))), none, 0⟩, ⟨1, (some 123), (.mov (.tmp 263)), none, 0⟩]))))))) (.seq (.ops [⟨0, (some 264), (.mov (.tmp 21)), none, 0⟩, ⟨1, (some 265), (.load (some 2) (.tmp 14)), none, 0⟩, ⟨2, (some 266), (.call (.val (.fn (Fn.func 27) [] [])) [(.tmp 264), (.tmp 265)]), none, 0⟩, ⟨3, (some 267), (.mov (.tmp 266)), none, 0⟩, ⟨4, (some 268), (.mov (.tmp 20)), (some (267, true)), 0⟩, ⟨5, (some 269), (.bin .neq (.tmp 268) (.val (.int .i64 0))), (some (267, true)), 0⟩, ⟨6, (some 270), (.mov (.tmp 269)), (some (267, true)), 0⟩, ⟨7, (some 271), (.mov (.tmp 22)), (some (270, false)), 0⟩, ⟨8, (some 272), (.mov (.tmp 11)), (some (270, false)), 0⟩, ⟨9, (some 273), (.bin .geq (.tmp 271) (.tmp 272)), (some (270, false)), 0⟩, ⟨10, (some 274), (.pick (.tmp 270) (.val (.bool true)) (.tmp 273)), (some (267, true)), 0⟩, ⟨11, (some 275), (.pick (.tmp 267) (.tmp 274) (.val (.bool false))), none, 0⟩, ⟨12, (some 276), (.mov (.tmp 275)), none, 0⟩, ⟨13, (some 277), (.call (.val (.fn (Fn.func 19) [] [])) []), (some (276, true)), 0⟩, ⟨14, (some 278), (.pick (.tmp 276) (.tmp 277) (.val (.bool false))), none, 0⟩, ⟨15, (some 6), (.mov (.tmp 278)), none, 0⟩]) .ret)))))))))))))⟩
def af23 : AFunc := ⟨129, [(.cell 4 (some 4)), (.tmp 5), (.tmp 6), (.tmp 7)], (.seq (.ops [⟨0, (some 2), (.box (.tmp 0)), none, 0⟩, ⟨1, (some 4), (.alloc [.nils, (.int .i64 0), (.int .i64 0), .nils]), none, 0⟩, ⟨2, (some 5), (.mov (.val .nils)), none, 0⟩, ⟨3, (some 6), (.mov (.val .nils)), none, 0⟩, ⟨4, (some 7), (.mov (.val (.bool false))), none, 0⟩]) (.seq (.ops [⟨0, (some 15), (.mov (.tmp 1)), none, 0⟩, ⟨1, (some 16), (.fieldA 1 (.tmp 2)), none, 0⟩, ⟨2, (some 17), (.load (some 2) (.tmp 16)), none, 0⟩, ⟨3, (some 18), (.call (.tmp 15) [(.tmp 17)]), none, 0⟩, ⟨4, (some 8), (.mov (.tmp 18)), none, 0⟩]) (.seq (.seq (.ops [⟨0, (some 19), (.fieldA 0 (.tmp 2)), none, 0⟩, ⟨1, (some 20), (.load none (.tmp 19)), none, 0⟩, ⟨2, (some 21), (.len (.tmp 20)), none, 0⟩, ⟨3, (some 22), (.mov (.val (.int .i64 0))), none, 0⟩]) (.block 0 (.loop [1, 2, 4, 5, 6, 8, 20, 21, 22] (.seq (.ops [⟨0, (some 23), (.bin .lss (.tmp 22) (.tmp 21)), none, 0⟩]) (.seq (.cond (.tmp 23) .skip (.exit 0)) (.seq (.block 1 (.seq (.ops [⟨0, (some 24), (.indexA 6 none (.tmp 20) (.tmp 22)), none, 0⟩, ⟨1, (some 25), (.load (some 6) (.tmp 24)), none, 0⟩, ⟨2, (some 10), (.alloc [(.int .i64 0), (.int .i64 0), (.int .i64 0), (.int .i64 0), (.int .i64 0), (.int .i64 0)]), none, 0⟩, ⟨3, none, (.store 6 (.tmp 10) (.tmp 25)), none, 0⟩]) (.seq (.draw [⟨0, (some 26), (.mov (.tmp 1)), none, 0⟩, ⟨1, (some 27), (.fieldA 0 (.tmp 10)), none, 0⟩, ⟨2, (some 28), (.load (some 2) (.tmp 27)), none, 2⟩, ⟨4, (some 30), (.mov (.tmp 1)), none, 0⟩, ⟨5, (some 31), (.fieldA 2 (.tmp 10)), none, 0⟩, ⟨6, (some 32), (.load (some 2) (.tmp 31)), none, 32⟩, ⟨9, (some 35), (.mov (.tmp 1)), none, 0⟩, ⟨10, (some 36), (.fieldA 4 (.tmp 10)), none, 0⟩, ⟨11, (some 37), (.load (some 2) (.tmp 36)), none, 1024⟩, ⟨14, (some 40), (.mov (.tmp 8)), none, 0⟩, ⟨3, (some 29), (.call (.tmp 26) [(.tmp 28)]), none, 7⟩, ⟨7, (some 33), (.call (.tmp 30) [(.tmp 32)]), none, 127⟩, ⟨8, (some 34), (.bin .mul (.tmp 29) (.tmp 33)), none, 255⟩, ⟨12, (some 38), (.call (.tmp 35) [(.tmp 37)]), none, 3839⟩, ⟨13, (some 39), (.bin .mul (.tmp 34) (.tmp 38)), none, 8191⟩, ⟨15, (some 41), (.bin .mul (.tmp 39) (.tmp 40)), none, 32767⟩, ⟨16, (some 11), (.mov (.tmp 41)), none, 65535⟩]) (.ops [⟨0, (some 42), (.mov (.tmp 5)), none, 0⟩, ⟨1, (some 43), (.mov (.tmp 11)), none, 0⟩, ⟨2, (some 44), (.buildSl 1 1 [(.int .i64 0)] [(0, (.tmp 43))]), none, 0⟩, ⟨3, (some 45), (.append 1 (.tmp 42) (.tmp 44)), none, 0⟩, ⟨4, (some 46), (.mov (.tmp 6)), none, 0⟩, ⟨5, (some 47), (.mov (.tmp 11)), none, 0⟩, ⟨6, (some 48), (.buildSl 1 1 [(.int .i64 0)] [(0, (.tmp 47))]), none, 0⟩, ⟨7, (some 49), (.append 1 (.tmp 46) (.tmp 48)), none, 0⟩, ⟨8, (some 5), (.mov (.tmp 45)), none, 0⟩, ⟨9, (some 6), (.mov (.tmp 49)), none, 0⟩])))) (.ops [⟨0, (some 50), (.bin .add (.tmp 22) (.val (.int .i64 1))), none, 0⟩, ⟨1, (some 22), (.mov (.tmp 50)), none, 0⟩]))))))) (.seq (.ops [⟨0, (some 51), (.load (some 4) (.tmp 2)), none, 0⟩, ⟨1, none, (.store 4 (.tmp 4) (.tmp 51)), none, 0⟩]) (.seq (.ops [⟨0, (some 52), (.buildSl 4 0 [(.int .i64 0), (.int .i64 0), (.int .i64 0), (.int .i64 0)] []), none, 0⟩, ⟨1, (some 53), (.fieldA 3 (.tmp 2)), none, 0⟩, ⟨2, (some 54), (.load none (.tmp 53)), none, 0⟩, ⟨3, (some 55), (.append 4 (.tmp 52) (.tmp 54)), none, 0⟩, ⟨4, (some 56), (.fieldA 3 (.tmp 4)), none, 0⟩, ⟨5, none, (.store 1 (.tmp 56) (.tmp 55)), none, 0⟩]) (.seq (.seq (.ops [⟨0, (some 57), (.fieldA 3 (.tmp 2)), none, 0⟩, ⟨1, (some 58), (.load none (.tmp 57)), none, 0⟩, ⟨2, (some 59), (.len (.tmp 58)), none, 0⟩, ⟨3, (some 60), (.mov (.val (.int .i64 0))), none, 0⟩]) (.block 2 (.loop [1, 4, 5, 6, 58, 59, 60] (.seq (.ops [⟨0, (some 61), (.bin .lss (.tmp 60) (.tmp 59)), none, 0⟩]) (.seq (.cond (.tmp 61) .skip (.exit 2)) (.seq (.block 3 (.seq (.ops [⟨0, (some 62), (.mov (.tmp 60)), none, 0⟩, ⟨1, (some 63), (.indexA 4 none (.tmp 58) (.tmp 60)), none, 0⟩, ⟨2, (some 64), (.load (some 4) (.tmp 63)), none, 0⟩, ⟨3, (some 13), (.alloc [(.int .i64 0), (.int .i64 0), (.int .i64 0), (.int .i64 0)]), none, 0⟩, ⟨4, (some 12), (.mov (.tmp 62)), none, 0⟩, ⟨5, none, (.store 4 (.tmp 13) (.tmp 64)), none, 0⟩]) (.seq (.ops [⟨0, (some 65), (.mov (.tmp 6)), none, 0⟩, ⟨1, (some 66), (.fieldA 1 (.tmp 13)), none, 0⟩, ⟨2, (some 67), (.load none (.tmp 66)), none, 0⟩, ⟨3, (some 68), (.indexA 1 none (.tmp 65) (.tmp 67)), none, 0⟩, ⟨4, (some 14), (.mov (.tmp 68)), none, 0⟩]) (.seq (.seq (.ops [⟨0, (some 69), (.fieldA 0 (.tmp 13)), none, 0⟩, ⟨1, (some 70), (.load none (.tmp 69)), none, 0⟩, ⟨2, (some 71), (.bin .eql (.tmp 70) (.val (.int .i64 1))), none, 0⟩]) (.cond (.tmp 71) (.seq (.draw [⟨0, (some 72), (.fieldA 3 (.tmp 4)), none, 0⟩, ⟨1, (some 73), (.load none (.tmp 72)), none, 1⟩, ⟨2, (some 74), (.mov (.tmp 12)), none, 0⟩, ⟨3, (some 75), (.mov (.tmp 14)), none, 0⟩, ⟨4, (some 76), (.nilck (.tmp 75)), none, 8⟩, ⟨5, (some 77), (.load none (.tmp 76)), none, 24⟩, ⟨6, (some 78), (.mov (.tmp 1)), none, 0⟩, ⟨11, (some 83), (.mov (.tmp 14)), none, 0⟩, ⟨12, (some 84), (.nilck (.tmp 83)), none, 2048⟩, ⟨13, (some 85), (.load none (.tmp 84)), none, 6144⟩, ⟨14, (some 86), (.fieldA 2 (.tmp 13)), none, 0⟩, ⟨15, (some 87), (.fieldA 1 (.tmp 86)), none, 16384⟩, ⟨16, (some 88), (.load none (.tmp 87)), none, 49152⟩, ⟨17, (some 89), (.fieldA 2 (.tmp 13)), none, 0⟩, ⟨18, (some 90), (.fieldA 0 (.tmp 89)), none, 131072⟩, ⟨19, (some 91), (.load none (.tmp 90)), none, 393216⟩, ⟨20, (some 92), (.bin .sub (.tmp 88) (.tmp 91)), none, 1032192⟩, ⟨21, (some 93), (.min [(.val (.int .i64 20)), (.tmp 92)]), none, 2080768⟩, ⟨22, (some 94), (.bin .add (.tmp 85) (.tmp 93)), none, 4192256⟩, ⟨23, (some 95), (.min [(.val (.int .i64 5000)), (.tmp 94)]), none, 8386560⟩, ⟨7, (some 79), (.call (.val (.fn (Fn.func 20) [] [])) [(.val (.int .i64 0)), (.val (.int .i64 5))]), none, 0⟩, ⟨8, (some 80), (.call (.tmp 78) [(.tmp 79)]), none, 192⟩, ⟨9, (some 81), (.bin .sub (.tmp 77) (.tmp 80)), none, 504⟩, ⟨10, (some 82), (.max [(.val (.int .i64 0)), (.tmp 81)]), none, 1016⟩, ⟨24, (some 96), (.call (.val (.fn (Fn.func 20) [] [])) [(.tmp 82), (.tmp 95)]), none, 16777208⟩, ⟨25, (some 97), (.indexA 4 none (.tmp 73) (.tmp 74)), none, 33554431⟩, ⟨26, (some 98), (.fieldA 2 (.tmp 97)), none, 67108863⟩, ⟨27, none, (.store 2 (.tmp 98) (.tmp 96)), none, 134217727⟩]) (.exit 3)) .skip)) (.seq (.seq (.draw [⟨0, (some 99), (.mov (.tmp 14)), none, 0⟩, ⟨1, (some 100), (.nilck (.tmp 99)), none, 1⟩, ⟨2, (some 101), (.load none (.tmp 100)), none, 3⟩, ⟨3, (some 102), (.fieldA 2 (.tmp 13)), none, 0⟩, ⟨4, (some 103), (.fieldA 0 (.tmp 102)), none, 8⟩, ⟨5, (some 104), (.load none (.tmp 103)), none, 24⟩, ⟨6, (some 105), (.bin .lss (.tmp 101) (.tmp 104)), none, 63⟩]) (.cond (.tmp 105) (.seq (.ops [⟨0, (some 106), (.load (some 4) (.tmp 4)), none, 0⟩, ⟨1, none, (.store 4 (.tmp 4) (.tmp 106)), none, 0⟩, ⟨2, (some 5), (.mov (.val .nils)), none, 0⟩, ⟨3, (some 6), (.mov (.val .nils)), none, 0⟩, ⟨4, (some 7), (.mov (.val (.bool false))), none, 0⟩]) .ret) .skip)) (.draw [⟨0, (some 107), (.mov (.tmp 14)), none, 0⟩, ⟨1, (some 108), (.nilck (.tmp 107)), none, 1⟩, ⟨2, (some 109), (.load none (.tmp 108)), none, 3⟩, ⟨3, (some 110), (.mov (.tmp 1)), none, 0⟩, ⟨4, (some 111), (.fieldA 2 (.tmp 13)), none, 0⟩, ⟨5, (some 112), (.fieldA 0 (.tmp 111)), none, 16⟩, ⟨6, (some 113), (.load none (.tmp 112)), none, 48⟩, ⟨7, (some 114), (.fieldA 2 (.tmp 13)), none, 0⟩, ⟨8, (some 115), (.fieldA 1 (.tmp 114)), none, 128⟩, ⟨9, (some 116), (.load none (.tmp 115)), none, 384⟩, ⟨10, (some 117), (.mov (.tmp 14)), none, 0⟩, ⟨11, (some 118), (.nilck (.tmp 117)), none, 1024⟩, ⟨12, (some 119), (.load none (.tmp 118)), none, 3072⟩, ⟨13, (some 120), (.min [(.tmp 116), (.tmp 119)]), none, 8064⟩, ⟨14, (some 121), (.call (.val (.fn (Fn.func 20) [] [])) [(.tmp 113), (.tmp 120)]), none, 16368⟩, ⟨15, (some 122), (.call (.tmp 110) [(.tmp 121)]), none, 32760⟩, ⟨16, (some 123), (.bin .sub (.tmp 109) (.tmp 122)), none, 65535⟩, ⟨17, (some 124), (.nilck (.tmp 107)), none, 131071⟩, ⟨18, none, (.store 1 (.tmp 124) (.tmp 123)), none, 262143⟩])))))) (.ops [⟨0, (some 125), (.bin .add (.tmp 60) (.val (.int .i64 1))), none, 0⟩, ⟨1, (some 60), (.mov (.tmp 125)), none, 0⟩]))))))) (.seq (.ops [⟨0, (some 126), (.load (some 4) (.tmp 4)), none, 0⟩, ⟨1, (some 127), (.mov (.tmp 5)), none, 0⟩, ⟨2, (some 128), (.mov (.tmp 6)), none, 0⟩, ⟨3, none, (.store 4 (.tmp 4) (.tmp 126)), none, 0⟩, ⟨4, (some 5), (.mov (.tmp 127)), none, 0⟩, ⟨5, (some 6), (.mov (.tmp 128)), none, 0⟩, ⟨6, (some 7), (.mov (.val (.bool true))), none, 0⟩]) .ret)))))))⟩
def af24 : AFunc := ⟨5, [(.tmp 2)], (.seq (.ops [⟨0, (some 1), (.box (.tmp 0)), none, 0⟩, ⟨1, (some 2), (.mov (.val .nilfn)), none, 0⟩]) (.seq (.ops [⟨0, (some 3), (.alloc [(.int .i64 0)]), none, 0⟩, ⟨1, none, (.store 1 (.tmp 3) (.val (.int .i64 0))), none, 0⟩]) (.seq (.ops [⟨0, (some 4), (.mkfn (Fn.func 68) [] [(.tmp 3), (.tmp 1)]), none, 0⟩, ⟨1, (some 2), (.mov (.tmp 4)), none, 0⟩]) .ret)))⟩
def af68 : AFunc := ⟨33, [(.tmp 4)], (.seq (.ops [⟨0, (some 3), (.box (.tmp 0)), none, 0⟩, ⟨1, (some 4), (.mov (.val (.int .i64 0))), none, 0⟩]) (.seq (.ops [⟨0, (some 5), (.load none (.tmp 1)), none, 0⟩, ⟨1, (some 6), (.bin .add (.tmp 5) (.val (.int .i64 1))), none, 0⟩, ⟨2, none, (.store 1 (.tmp 1) (.tmp 6)), none, 0⟩]) (.seq (.seq (.ops [⟨0, (some 7), (.load none (.tmp 2)), none, 0⟩, ⟨1, (some 8), (.len (.tmp 7)), none, 0⟩, ⟨2, (some 9), (.bin .eql (.tmp 8) (.val (.int .i64 0))), none, 0⟩]) (.cond (.tmp 9) (.seq (.ops [⟨0, (some 10), (.fieldA 0 (.tmp 3)), none, 0⟩, ⟨1, (some 11), (.load none (.tmp 10)), none, 0⟩, ⟨2, (some 4), (.mov (.tmp 11)), none, 0⟩]) .ret) .skip)) (.seq (.draw [⟨0, (some 12), (.fieldA 0 (.tmp 3)), none, 0⟩, ⟨1, (some 13), (.load none (.tmp 12)), none, 1⟩, ⟨2, (some 14), (.load none (.tmp 2)), none, 0⟩, ⟨3, (some 15), (.load none (.tmp 1)), none, 0⟩, ⟨4, (some 16), (.load none (.tmp 2)), none, 0⟩, ⟨5, (some 17), (.len (.tmp 16)), none, 16⟩, ⟨6, (some 18), (.bin .rem (.tmp 15) (.tmp 17)), none, 56⟩, ⟨7, (some 19), (.indexA 1 none (.tmp 14) (.tmp 18)), none, 124⟩, ⟨8, (some 20), (.load none (.tmp 19)), none, 252⟩, ⟨9, (some 21), (.conv .i64 (.tmp 20)), none, 508⟩, ⟨10, (some 22), (.load none (.tmp 1)), none, 0⟩, ⟨11, (some 23), (.bin .mul (.val (.int .i64 53)) (.tmp 22)), none, 1024⟩, ⟨12, (some 24), (.bin .add (.tmp 21) (.tmp 23)), none, 4092⟩, ⟨13, (some 25), (.fieldA 1 (.tmp 3)), none, 0⟩, ⟨14, (some 26), (.load none (.tmp 25)), none, 8192⟩, ⟨15, (some 27), (.fieldA 0 (.tmp 3)), none, 0⟩, ⟨16, (some 28), (.load none (.tmp 27)), none, 32768⟩, ⟨17, (some 29), (.bin .sub (.tmp 26) (.tmp 28)), none, 122880⟩, ⟨18, (some 30), (.bin .add (.tmp 29) (.val (.int .i64 1))), none, 253952⟩, ⟨19, (some 31), (.bin .rem (.tmp 24) (.tmp 30)), none, 524284⟩, ⟨20, (some 32), (.bin .add (.tmp 13) (.tmp 31)), none, 1048575⟩, ⟨21, (some 4), (.mov (.tmp 32)), none, 2097151⟩]) .ret))))⟩
end Ev
end Go.Proofs.Ytimgnlellflciaa

/- ClampTrue, gone through: numbers by remainders. -/
namespace Go.Proofs.Ytimgnlellflciaa
open Go
namespace Ev
namespace K
attribute [local simp] ev1 wantG spineK spine float xnew xval xeff zaa zat zbf zay zaz addFl cellsOf pickC alive slLen slFt binI maxA maxK minA minK aeqK aeqS AV.cells spA zas fillA setAt bitsI nat_nn zbj AV.plain apart
set_option maxRecDepth 100000
set_option maxHeartbeats 4000000
structure HB (G : List AB) (q : Nat) (x : AB) : Prop where
  get : G[q]? = some x
  lt : q < G.length
  lts : ∀ n, q < G.length + n
theorem hb {G : List AB} {q : Nat} {x : AB} (h : G[q]? = some x) : HB G q x := ⟨h, get_lt h, fun n => by have := get_lt h; omega⟩
theorem HB.set {G : List AB} {q r : Nat} {x : AB} (h : HB G q x) (v : AB) (hne : r ≠ q) : HB (G.set r v) q x := hb (by rw [List.getElem?_set_ne hne]; exact h.get)
theorem HB.here {G : List AB} {q : Nat} {x : AB} (h : HB G q x) (v : AB) : HB (G.set q v) q v := hb (by rw [List.getElem?_set_self h.lt])
theorem HB.app {G : List AB} {q : Nat} {x : AB} (h : HB G q x) (K : List AB) : HB (G ++ K) q x := hb (by rw [List.getElem?_append_left h.lt]; exact h.get)
theorem ev1_spine {C : Cfg} {call : CallF} {pin : Nat} {nod : Bool} {fl : List (Nat × List Nat)} {o : AOp} {st : St} {v : AV} {hp : List AB} {tc : List Nat} (hg : o.guard = Option.none) (hk : spineK o.op = true)
    (hs : spine call (val C st.tm) st.hp o.op = some (.ret v, hp, tc)) (hd0 : Nat.beq o.deps (Nat.sub (Nat.pow 2 o.ix) 1) = true) (hf0 : (fl.all fun p => Nat.ble (p.1 + 1) o.ix) = true) :
    ev1 C call pin nod true fl o st = some (.next Option.none { st with hp := hp, tm := putT st.tm o.dst v, tc := tc.filter (· < pin) ++ st.tc }) := by
  have hd : o.deps = 2 ^ o.ix - 1 := Nat.eq_of_beq_eq_true hd0
  clear hd0
  obtain ⟨ix, dst, op, guard, deps⟩ := o
  dsimp only at hg hk hs hd hf0
  have hf : (fl.all fun p => deps.testBit p.1) = true := by
    rw [List.all_eq_true] at hf0 ⊢
    intro p hp
    have := Nat.le_of_ble_eq_true (hf0 p hp)
    rw [hd, Nat.testBit_two_pow_sub_one]
    exact decide_eq_true (by omega)
  subst hg
  have h1 : (fl.all fun p => deps.testBit p.1 || apart p.2 tc) = true := by
    rw [List.all_eq_true] at hf ⊢
    intro p hp
    rw [hf p hp, Bool.true_or]
  unfold ev1
  simp only [wantG]
  cases op <;> first | (simp only [spine] at hs; cases hs; done) | (simp only [spineK] at hk; cases hk; done) | (simp only [hs, h1, Bool.or_true, spineK, cond_true])
def drawV (ns : List Int) (k lo hi : Int) : Int := if ns = [] then lo else lo + (ns.getD ((k + 1) % (ns.length : Int)).toNat 0 + 53 * (k + 1)) % (hi - lo + 1)
theorem drawV_in (ns : List Int) (k : Int) {lo hi : Int} (h : lo ≤ hi) : lo ≤ drawV ns k lo hi ∧ drawV ns k lo hi ≤ hi := by
  unfold drawV
  split
  · omega
  · have h1 := Int.emod_nonneg (ns.getD ((k + 1) % (ns.length : Int)).toNat 0 + 53 * (k + 1)) (show hi - lo + 1 ≠ 0 by omega)
    have h2 := Int.emod_lt_of_pos (ns.getD ((k + 1) % (ns.length : Int)).toNat 0 + 53 * (k + 1)) (show 0 < hi - lo + 1 by omega)
    omega
def DrawC (call : CallF) (ns : List Int) (b u : Nat) : Prop := ∀ (H : List AB) (k lo hi : Int), H[b]? = some (.cells [.int .i64 k]) → H[u]? = some (.cells [.vs 1 (ns.map (AV.int .u16))]) → 0 ≤ k → k ≤ 1000 → 0 ≤ lo → lo ≤ hi → hi ≤ 10000 →
  call (.fn (.func 68) [] [.ptr b 0, .ptr u 0]) [.agg [.int .i64 lo, .int .i64 hi]] H = some (.ret (.int .i64 (drawV ns k lo hi)), H.set b (.cells [.int .i64 (k + 1)]) ++ [.cells [.int .i64 lo, .int .i64 hi]], [b])
theorem draw_fun (C : Cfg) (call : CallF) (ns : List Int) (hns : ∀ n ∈ ns, 0 ≤ n ∧ n ≤ 65535) (b u : Nat) (H : List AB) (k lo hi : Int) (hb0 : H[b]? = some (.cells [.int .i64 k])) (hu : H[u]? = some (.cells [.vs 1 (ns.map (AV.int .u16))])) (k0 : 0 ≤ k) (hk : k ≤ 1000) (h1 : 0 ≤ lo) (h2 : lo ≤ hi) (h3 : hi ≤ 10000) :
    Does (ev C call H.length none af68.body { tm := tmA af68.ntmps (zipI 0 [.agg [.int .i64 lo, .int .i64 hi], .ptr b 0, .ptr u 0] []), df := [], hp := H, tc := [] })
      (Ends C H.length af68.res fun v hp tc => v = .int .i64 (drawV ns k lo hi) ∧ hp = H.set b (.cells [.int .i64 (k + 1)]) ++ [.cells [.int .i64 lo, .int .i64 hi]] ∧ tc = [b]) := by
  have hw1 : IntKind.i64.wrap (k + 1) = k + 1 := zav (by omega) (by omega)
  have hbu : b ≠ u := fun e => by rw [e, hu] at hb0; cases hb0
  obtain ⟨B1, B2, B3⟩ := hb hb0
  obtain ⟨U1, U2, U3⟩ := hb hu
  clear hb0 hu
  unfold af68
  simp only [zipI]
  by_cases hn : ns = []
  · subst hn
    simp only [List.map_nil] at *
    clear h1 h2 h3 hk hns k0
    (repeat (first | (with_reducible apply zai; (focus ((conv => lhs; simp [List.getElem?_append_right, List.set_append_right, List.set_cons_zero, List.set_cons_succ, List.getElem?_cons_zero, List.getElem?_cons_succ, List.getElem?_append_left, List.getElem?_set_ne, List.getElem?_set_self, List.set_append_left, List.length_set, -getElem?_pos, Nat.testBit_eq_decide_div_mod_eq, *]) <;> exact rfl)); simp only [addFl]) | ((with_reducible first | refine zaj ?_ | refine zal ?_ | refine zag ?_ | refine zae ?_ | refine zac ?_ | refine zak ?_ | refine zaf ?_ | refine zam ?_ | (apply zad; (focus (simp [zaa, *]; done))) | (with_reducible apply zab; (focus (simp [zaa, *]; done)))); try simp only [Then, Ops, OutB, reduceIte]) | simp only [Nat.reduceEqDiff, reduceIte, OutB, Then]))
    refine zan (v := .int .i64 lo) (.inl rfl) rfl (by simp) (by simp only [resL, resOf, zah]; simp [pickC, resV, spA, *]) ⟨by simp [drawV], by simp, by simp⟩
  · have hpos : 0 < ns.length := List.length_pos_iff.2 hn
    have hn0 : ¬ ((ns.length : Int) = 0) := by omega
    have hm0 : 0 ≤ (k + 1) % (ns.length : Int) := Int.emod_nonneg _ (by omega)
    have hm1 : (k + 1) % (ns.length : Int) < ns.length := Int.emod_lt_of_pos _ (by omega)
    obtain ⟨i, hi0⟩ : ∃ i : Nat, (k + 1) % (ns.length : Int) = i := ⟨((k + 1) % (ns.length : Int)).toNat, by omega⟩
    have hlt : i < ns.length := by omega
    have t1 : (k + 1).tmod ns.length = (i : Int) := by rw [Int.tmod_eq_emod_of_nonneg (by omega)]; exact hi0
    have hv : drawV ns k lo hi = lo + (ns[i] + 53 * (k + 1)) % (hi - lo + 1) := by
      unfold drawV; rw [if_neg hn, hi0]; simp [hlt]
    have hbb := hns _ (List.getElem_mem hlt)
    have h4 := drawV_in ns k h2
    have hgi : ns[i]? = some ns[i] := List.getElem?_eq_getElem hlt
    rw [hv] at h4 ⊢
    generalize ns[i] = m at *
    have hgi' := ge_of hgi
    have hil : (i : Int) < ns.length := by omega
    have w3 : IntKind.i64.wrap m = m := zav (by omega) (by omega)
    have w4 : IntKind.i64.wrap (53 * (k + 1)) = 53 * (k + 1) := zav (by omega) (by omega)
    have w5 : IntKind.i64.wrap (m + 53 * (k + 1)) = m + 53 * (k + 1) := zav (by omega) (by omega)
    have w6 : IntKind.i64.wrap (hi - lo) = hi - lo := zav (by omega) (by omega)
    have w7 : IntKind.i64.wrap (hi - lo + 1) = hi - lo + 1 := zav (by omega) (by omega)
    have t2 : (m + 53 * (k + 1)).tmod (hi - lo + 1) = (m + 53 * (k + 1)) % (hi - lo + 1) := Int.tmod_eq_emod_of_nonneg (by omega)
    have n0 : ¬ (hi - lo + 1 = 0) := by omega
    have w9 : IntKind.i64.wrap (lo + (m + 53 * (k + 1)) % (hi - lo + 1)) = lo + (m + 53 * (k + 1)) % (hi - lo + 1) := zav (by omega) (by omega)
    clear h1 h2 h3 h4 hk hbb hv hpos hi0 hns k0 hm0 hm1
    generalize (m + 53 * (k + 1)) % (hi - lo + 1) = res at *
    (repeat (first | (with_reducible apply zai; (focus ((conv => lhs; simp [List.getElem?_append_right, List.set_append_right, List.set_cons_zero, List.set_cons_succ, List.getElem?_cons_zero, List.getElem?_cons_succ, List.getElem?_append_left, List.getElem?_set_ne, List.getElem?_set_self, List.set_append_left, List.length_set, -getElem?_pos, Nat.testBit_eq_decide_div_mod_eq, *]) <;> exact rfl)); simp only [addFl]) | ((with_reducible first | refine zaj ?_ | refine zal ?_ | refine zag ?_ | refine zae ?_ | refine zac ?_ | refine zak ?_ | refine zaf ?_ | refine zam ?_ | (apply zad; (focus (simp [zaa, *]; done))) | (with_reducible apply zab; (focus (simp [zaa, *]; done)))); try simp only [Then, Ops, OutB, reduceIte]) | simp only [Nat.reduceEqDiff, reduceIte, OutB, Then]))
    refine zan (v := .int .i64 (lo + res)) (.inl rfl) rfl (by simp) (by simp only [resL, resOf, zah]; simp [pickC, resV, spA, *]) ⟨rfl, by simp, by simp⟩
end K
end Ev
end Go.Proofs.Ytimgnlellflciaa

/- The plain law of ClampAll. -/
namespace Go.Proofs.Ytimgnlellflciaa
open Go
namespace Clm
theorem fold_in : ∀ (l : List Sp) (s : Sp), (l.foldl (fun k x => k.either x) s).lo ≤ s.lo ∧ s.hi ≤ (l.foldl (fun k x => k.either x) s).hi ∧ ∀ x ∈ l, (l.foldl (fun k x => k.either x) s).lo ≤ x.lo ∧ x.hi ≤ (l.foldl (fun k x => k.either x) s).hi
  | [], s => ⟨Int.le_refl _, Int.le_refl _, by simp⟩
  | a :: l, s => by
    obtain ⟨h1, h2, h3⟩ := fold_in l (s.either a)
    simp only [List.foldl_cons]
    simp only [Sp.either] at h1 h2
    refine ⟨by simp only [Sp.either] at *; omega, by simp only [Sp.either] at *; omega, fun x hx => ?_⟩
    rcases List.mem_cons.1 hx with rfl | hx
    · simp only [Sp.either] at *; omega
    · exact h3 x hx
theorem fold_at : ∀ (l : List Sp) (s : Sp), ((l.foldl (fun k x => k.either x) s).lo = s.lo ∨ ∃ x ∈ l, (l.foldl (fun k x => k.either x) s).lo = x.lo) ∧ ((l.foldl (fun k x => k.either x) s).hi = s.hi ∨ ∃ x ∈ l, (l.foldl (fun k x => k.either x) s).hi = x.hi)
  | [], s => ⟨.inl rfl, .inl rfl⟩
  | a :: l, s => by
    obtain ⟨h1, h2⟩ := fold_at l (s.either a)
    simp only [List.foldl_cons]
    constructor
    · rcases h1 with h | ⟨x, hx, h⟩
      · by_cases hc : s.lo ≤ a.lo
        · left; rw [h]; simp only [Sp.either]; omega
        · right; exact ⟨a, by simp, by rw [h]; simp only [Sp.either]; omega⟩
      · exact .inr ⟨x, by simp [hx], h⟩
    · rcases h2 with h | ⟨x, hx, h⟩
      · by_cases hc : a.hi ≤ s.hi
        · left; rw [h]; simp only [Sp.either]; omega
        · right; exact ⟨a, by simp, by rw [h]; simp only [Sp.either]; omega⟩
      · exact .inr ⟨x, by simp [hx], h⟩
theorem hull_in {l : List Sp} {x : Sp} (hx : x ∈ l) : (hull l).lo ≤ x.lo ∧ x.hi ≤ (hull l).hi := by
  cases l with
  | nil => cases hx
  | cons a l =>
    obtain ⟨h1, h2, h3⟩ := fold_in l a
    rcases List.mem_cons.1 hx with rfl | hx
    · exact ⟨h1, h2⟩
    · exact h3 x hx
theorem hull_at {l : List Sp} (hl : l ≠ []) : (∃ x ∈ l, (hull l).lo = x.lo) ∧ ∃ x ∈ l, (hull l).hi = x.hi := by
  cases l with
  | nil => exact absurd rfl hl
  | cons a l =>
    obtain ⟨h1, h2⟩ := fold_at l a
    constructor
    · rcases h1 with h | ⟨x, hx, h⟩
      · exact ⟨a, by simp, h⟩
      · exact ⟨x, by simp [hx], h⟩
    · rcases h2 with h | ⟨x, hx, h⟩
      · exact ⟨a, by simp, h⟩
      · exact ⟨x, by simp [hx], h⟩
def hasC (c : Cl) (i : Nat) : Sp := ofAll c i fun _ => leftW c
theorem packs_in {c : Cl} (hc : Fine c) {counts : Nat} {k : Int} (h : k ∈ packs c counts) : 0 ≤ k ∧ k ≤ 5 ∧ c.pack.lo ≤ k ∧ k ≤ c.pack.hi ∧ ∀ i, i < c.piles.length → ways c i k counts ≠ [] := by
  unfold packs at h
  rw [List.mem_filter, mem_span] at h
  have := hc.pack
  simp only [Sp.has] at h
  refine ⟨by omega, by omega, by omega, by omega, fun i hi => ?_⟩
  have h2 := List.all_eq_true.1 h.2 i (by simpa using hi)
  simpa using h2
theorem can_packs {c : Cl} {s : Nat} (h : can c s = true) : packs c s ≠ [] := by
  unfold can at h
  intro e
  rw [e] at h; cases h
def fullC (c : Cl) : Nat := 2 ^ c.piles.length - 1
theorem full_bit (c : Cl) {i : Nat} (h : i < c.piles.length) : bit (fullC c) i = true := by
  unfold bit fullC; rw [Nat.testBit_two_pow_sub_one]; simpa using h
theorem ends_le : ∀ (l : List Bf) (s : Sp), s.lo ≤ s.hi → (∀ e ∈ l, e.fine) → 0 ≤ s.lo → (ends l s).some = true → (ends l s).hi ≤ s.hi
  | [], s, _, _, _, _ => Int.le_refl _
  | e :: l, s, hs, hf, h0, hso => by
    simp only [ends, List.foldl_cons] at hso ⊢
    have he := hf e (by simp)
    by_cases hc : (e.after s).lo ≤ (e.after s).hi
    · have ih := ends_le l (e.after s) hc (fun e h => hf e (by simp [h])) (zkl e s h0) hso
      simp only [ends] at ih
      have : (e.after s).hi ≤ s.hi := by
        cases e with
        | nil => exact Int.le_refl _
        | sale t =>
          simp only [Bf.fine] at he
          unfold Bf.after at hc ⊢
          simp only at hc ⊢
          split
          · rename_i hh; rw [if_pos hh] at hc; simp only [Sp.no] at hc; omega
          · simp only; omega
        | count t =>
          unfold Bf.after Sp.both at hc ⊢
          simp only at hc ⊢
          split
          · rename_i hh; rw [if_pos hh] at hc; simp only [Sp.no] at hc; omega
          · simp only; omega
      omega
    · exfalso
      have hn : ∀ (l : List Bf) (t : Sp), (∀ e ∈ l, e.fine) → 0 ≤ t.lo → t.hi < t.lo → (ends l t).some = false := by
        intro l
        induction l with
        | nil => intro t _ _ h; show decide (t.lo ≤ t.hi) = false; exact decide_eq_false (by omega)
        | cons e l ih =>
          intro t hf h0 h
          simp only [ends, List.foldl_cons]
          refine ih (e.after t) (fun e h => hf e (by simp [h])) (zkl e t h0) ?_
          cases e with
          | nil => exact h
          | sale u =>
            unfold Bf.after
            simp only
            rw [if_pos (.inl (by unfold Sp.some; simp; omega))]
            decide
          | count u =>
            unfold Bf.after Sp.both
            simp only
            split
            · decide
            · rename_i hh; simp only; omega
      have := hn l (e.after s) (fun e h => hf e (by simp [h])) (zkl e s h0) (by omega)
      simp only [ends] at this
      rw [this] at hso; cases hso
end Clm
end Go.Proofs.Ytimgnlellflciaa

/- The plain law of ClampClash. -/
namespace Go.Proofs.Ytimgnlellflciaa
open Go
namespace Clm
def keepN {α : Type} (p : Nat → α → Bool) (l : List α) (i : Nat) : List α := ((l.take i).zipIdx.filter fun q => p q.2 q.1).map (·.1)
def isIn (s : Nat) (i : Nat) (v : Evt) : Bool := decide (v.kind ≠ 1) || s.testBit i
def only (c : Cl) (s : Nat) : Cl := { c with events := keepN (isIn s) c.events c.events.length }
def bfOf (n : Int) (v : Evt) : Bf := if v.clamp ≠ n then .nil else if v.kind = 0 then .sale v.sods else .count v.sods
theorem befell_every (c : Cl) (_hk : ∀ v ∈ c.events, v.kind = 0 ∨ v.kind = 1) (n : Int) : befell c n (every c) = c.events.map (bfOf n) := by
  have : befell c n (every c) = c.events.zipIdx.map fun p => bfOf n p.1 := by
    unfold befell
    refine List.map_congr_left fun p hp => ?_
    obtain ⟨v, i⟩ := p
    obtain ⟨_, h2, h3⟩ := List.mem_zipIdx hp
    simp only at h2 h3 ⊢
    unfold bfOf bit
    rw [zui, decide_eq_true (by omega), if_pos rfl]
  rw [this, ← Function.comp_def (bfOf n) Prod.fst, ← List.map_map]
  congr 1
  simp
end Clm
end Go.Proofs.Ytimgnlellflciaa

/- The plain law of ClampEnds: what a clamp has, and a count more. -/
namespace Go.Proofs.Ytimgnlellflciaa
open Go
namespace Clm
open Ev.K (builtG soldG)
theorem ofAll_at {c : Cl} (hc : Fine c) (hcan : can c (every c) = true) {i : Nat} (hi : i < c.piles.length) (f : Int → Way → Sp) :
    (∃ k ∈ packs c (every c), ∃ w ∈ ways c i k (every c), (ofAll c i f).lo = (f k w).lo) ∧ ∃ k ∈ packs c (every c), ∃ w ∈ ways c i k (every c), (ofAll c i f).hi = (f k w).hi := by
  have hne := can_packs hcan
  obtain ⟨⟨x, hx, h1⟩, ⟨y, hy, h2⟩⟩ := hull_at (l := (packs c (every c)).map fun k => spanOf c i k (f k)) (by simpa using hne)
  obtain ⟨k1, hk1, rfl⟩ := List.mem_map.1 hx
  obtain ⟨k2, hk2, rfl⟩ := List.mem_map.1 hy
  have e : ofAll c i f = hull ((packs c (every c)).map fun k => spanOf c i k (f k)) := rfl
  have g : ∀ k ∈ packs c (every c), ways c i k (every c) ≠ [] := fun k hk => (packs_in hc hk).2.2.2.2 i hi
  constructor
  · obtain ⟨⟨x, hx, h3⟩, _⟩ := hull_at (l := (ways c i k1 (every c)).map (f k1)) (by simpa using g k1 hk1)
    obtain ⟨w, hw, rfl⟩ := List.mem_map.1 hx
    exact ⟨k1, hk1, w, hw, by rw [e, h1]; exact h3⟩
  · obtain ⟨_, ⟨x, hx, h3⟩⟩ := hull_at (l := (ways c i k2 (every c)).map (f k2)) (by simpa using g k2 hk2)
    obtain ⟨w, hw, rfl⟩ := List.mem_map.1 hx
    exact ⟨k2, hk2, w, hw, by rw [e, h2]; exact h3⟩
theorem ofAll_in {c : Cl} {i : Nat} (f : Int → Way → Sp) {k : Int} (hk : k ∈ packs c (every c)) {w : Way} (hw : w ∈ ways c i k (every c)) : (ofAll c i f).lo ≤ (f k w).lo ∧ (f k w).hi ≤ (ofAll c i f).hi := by
  have h1 := hull_in (l := (packs c (every c)).map fun k => spanOf c i k (f k)) (List.mem_map.2 ⟨k, hk, rfl⟩)
  have h2 := hull_in (l := (ways c i k (every c)).map (f k)) (List.mem_map.2 ⟨w, hw, rfl⟩)
  have e1 : ofAll c i f = hull ((packs c (every c)).map fun k => spanOf c i k (f k)) := rfl
  have e2 : spanOf c i k (f k) = hull ((ways c i k (every c)).map (f k)) := rfl
  rw [e1]; rw [← e2] at h2; omega
theorem zoq {c : Cl} (hc : Fine c) {i : Nat} (hi : i < c.piles.length) {k : Int} (h0 : 0 ≤ k) (h5 : k ≤ 5) {w : Way} (hw : w ∈ ways c i k (every c)) : 0 ≤ (leftW c w).lo ∧ (leftW c w).lo ≤ (leftW c w).hi ∧ (leftW c w).hi ≤ w.size.sods k ∧ 0 ≤ w.size.sods k ∧ w.size.sods k ≤ 5000 := by
  obtain ⟨h1, h2, y, h3⟩ := (mem_ways hc hi h0 _ w).1 hw
  obtain ⟨s0, s1⟩ := zxi hc hi h0 h5 h1
  have hf := zfc hc i (every c)
  have e2 : leftW c w = ends (befell c i (every c)) ⟨w.size.sods k, w.size.sods k⟩ := by
    rw [← zyd]; obtain ⟨a, b⟩ := w; simp only at h2; subst h2; rfl
  have hh := (zpd _ _ y hf s0).2 h3
  have hs := (znz _).2 ⟨y, hh⟩
  have h4 := ends_le (befell c i (every c)) ⟨w.size.sods k, w.size.sods k⟩ (Int.le_refl _) hf s0 hs
  have h5 := zyi (befell c i (every c)) ⟨w.size.sods k, w.size.sods k⟩ s0
  rw [zha] at hs
  rw [e2]
  exact ⟨h5, hs, h4, s0, s1⟩
theorem has_hull {c : Cl} (hc : Fine c) (hcan : can c (every c) = true) {i : Nat} (hi : i < c.piles.length) : Hull (hasC c i) fun y => ∃ k ∈ packs c (every c), ∃ n, Poss c i k (every c) n y :=
  zlp (fun k => spanOf c i k (leftW c)) (fun k y => ∃ n, Poss c i k (every c) n y) _ (can_packs hcan) fun k hk => by
    obtain ⟨h0, _, _, _, hw⟩ := packs_in hc hk
    exact zyy hc hi h0 (hw i hi)
theorem sumTo_one (c : Cl) (i : Nat) (k : Int) : ∀ n, sumTo c (2 ^ i) k n = if i < n then spanOf c i k (leftW c) else ⟨0, 0⟩
  | 0 => by rw [if_neg (by omega)]; rfl
  | n + 1 => by
    rw [sumTo_succ, sumTo_one c i k n]
    unfold bit
    rw [Nat.testBit_two_pow]
    by_cases h : i = n
    · subst h
      rw [if_pos (by simp), if_neg (by omega), if_pos (by omega)]
      simp
    · rw [if_neg (by simpa using h)]
      by_cases h1 : i < n
      · rw [if_pos h1, if_pos (by omega)]
      · rw [if_neg h1, if_neg (by omega)]
theorem tog_one (c : Cl) {i : Nat} (hi : i < c.piles.length) : together c (2 ^ i) = hasC c i := by
  rw [together_eq]
  unfold hasC ofAll
  congr 1
  refine List.map_congr_left fun k _ => ?_
  rw [sumTo_one, if_pos hi]
theorem goes_append : ∀ (l : List Bf) (e : Bf) (x y : Int), Goes (l ++ [e]) x y ↔ ∃ z, Goes l x z ∧ Goes [e] z y
  | [], e, x, y => ⟨fun h => ⟨x, rfl, h⟩, fun ⟨z, h1, h2⟩ => by have h1 : z = x := h1; subst h1; exact h2⟩
  | a :: l, e, x, y => by
    rw [List.cons_append, zlr]
    constructor
    · rintro ⟨z, h1, h2⟩
      obtain ⟨u, h3, h4⟩ := (goes_append l e z y).1 h2
      exact ⟨u, (zlr ..).2 ⟨z, h1, h3⟩, h4⟩
    · rintro ⟨u, h1, h2⟩
      obtain ⟨z, h3, h4⟩ := (zlr ..).1 h1
      exact ⟨z, h3, (goes_append l e z y).2 ⟨u, h4, h2⟩⟩
theorem mem_packs {c : Cl} (hc : Fine c) (s : Nat) (k : Int) : k ∈ packs c s ↔ c.pack.has k ∧ ∀ i, i < c.piles.length → ∃ n y, Poss c i k s n y := by
  have hp := hc.pack
  constructor
  · intro hk
    obtain ⟨h0, _, h1, h2, h3⟩ := packs_in hc hk
    exact ⟨⟨h1, h2⟩, fun i hi => (zzi hc hi h0 s).1 (h3 i hi)⟩
  · rintro ⟨hk, h⟩
    simp only [Sp.has] at hk
    unfold packs
    rw [List.mem_filter, mem_span]
    refine ⟨hk, List.all_eq_true.2 fun i hi => ?_⟩
    have hi' : i < c.piles.length := by simpa using hi
    simpa using (zzi hc hi' (by omega) s).2 (h i hi')
structure EndsLaw (c : Cl) (i : Nat) : Prop where
  ord : (hasC c i).lo ≤ (hasC c i).hi
  nn : 0 ≤ (hasC c i).lo
  le : (hasC c i).hi ≤ 5000
  sold0 : 0 ≤ (ofAll c i (soldG c)).lo
  sold1 : (ofAll c i (soldG c)).lo ≤ 5000
  sold2 : 0 ≤ (ofAll c i (soldG c)).hi ∧ (ofAll c i (soldG c)).hi ≤ 5000
  built0 : 0 ≤ (ofAll c i builtG).lo ∧ (ofAll c i builtG).lo ≤ 5000
  built1 : 0 ≤ (ofAll c i builtG).hi ∧ (ofAll c i builtG).hi ≤ 5000
  low : (ofAll c i builtG).lo - (ofAll c i (soldG c)).hi ≤ (hasC c i).lo
  high : (hasC c i).hi ≤ (ofAll c i builtG).hi - (ofAll c i (soldG c)).lo
theorem ends_law {c : Cl} (hc : Fine c) (hcan : can c (every c) = true) {i : Nat} (hi : i < c.piles.length) : EndsLaw c i := by
  have hl : ∀ k ∈ packs c (every c), ∀ w ∈ ways c i k (every c), _ := fun k hk w hw => zoq hc hi (packs_in hc hk).1 (packs_in hc hk).2.1 hw
  obtain ⟨⟨a1, a2, a3, a4, a5⟩, ⟨b1, b2, b3, b4, b5⟩⟩ := ofAll_at hc hcan hi (fun _ => leftW c)
  obtain ⟨⟨c1, c2, c3, c4, c5⟩, ⟨d1, d2, d3, d4, d5⟩⟩ := ofAll_at hc hcan hi (soldG c)
  obtain ⟨⟨e1, e2, e3, e4, e5⟩, ⟨f1, f2, f3, f4, f5⟩⟩ := ofAll_at hc hcan hi builtG
  have e : hasC c i = ofAll c i fun _ => leftW c := rfl
  have A := hl a1 a2 a3 a4
  have B := hl b1 b2 b3 b4
  have C := hl c1 c2 c3 c4
  have D := hl d1 d2 d3 d4
  have E := hl e1 e2 e3 e4
  have F := hl f1 f2 f3 f4
  have ai := ofAll_in (fun _ => leftW c) a2 a4
  have ai1 := ofAll_in (soldG c) a2 a4
  have ai2 := ofAll_in builtG a2 a4
  have bi1 := ofAll_in (soldG c) b2 b4
  have bi2 := ofAll_in builtG b2 b4
  simp only [soldG, builtG] at *
  rw [← e] at a5 b5 ai
  refine ⟨by omega, by omega, by omega, by omega, by omega, ⟨by omega, by omega⟩, ⟨by omega, by omega⟩, ⟨by omega, by omega⟩, by omega, by omega⟩
end Clm
end Go.Proofs.Ytimgnlellflciaa

/- What is returned, as hulls of what truths have. -/
namespace Go.Proofs.Ytimgnlellflciaa
open Go
namespace Clm
open Ev.K (builtG soldG)
theorem Hull.le_of {s t : Sp} {P Q : Int → Prop} (h : Hull s P) (g : Hull t Q) (hi : ∀ x, P x → Q x) : t.lo ≤ s.lo ∧ s.hi ≤ t.hi := by
  have h1 := g.all _ (hi _ h.lo); have h2 := g.all _ (hi _ h.hi)
  simp only [Sp.has] at h1 h2; omega
theorem built_hull {c : Cl} (hc : Fine c) (hcan : can c (every c) = true) {i : Nat} (hi : i < c.piles.length) : Hull (ofAll c i builtG) fun x => ∃ k ∈ packs c (every c), ∃ y, Poss c i k (every c) x y :=
  zlp (fun k => spanOf c i k (builtG k)) (fun k x => ∃ y, Poss c i k (every c) x y) _ (can_packs hcan) fun k hk => by
    obtain ⟨h0, _, _, _, hw⟩ := packs_in hc hk
    refine (zlp (builtG k) (fun w x => x = w.size.sods k) _ (hw i hi) fun w _ => ?_).congr fun x => ?_
    · exact ⟨rfl, rfl, fun x e => by subst e; exact ⟨Int.le_refl _, Int.le_refl _⟩⟩
    · constructor
      · rintro ⟨w, hw, rfl⟩
        obtain ⟨h1, _, y, h3⟩ := (mem_ways hc hi h0 _ w).1 hw
        exact ⟨y, w.size, h1, rfl, h3⟩
      · rintro ⟨y, s, h1, rfl, h3⟩
        exact ⟨⟨s, logOf c i k (every c) s⟩, (mem_ways hc hi h0 _ _).2 ⟨h1, rfl, y, h3⟩, rfl⟩
theorem way_hull {c : Cl} (hc : Fine c) {i : Nat} (hi : i < c.piles.length) {k : Int} (h0 : 0 ≤ k) {w : Way} (hw : w ∈ ways c i k (every c)) : Hull (leftW c w) fun y => Goes (befell c i (every c)) (w.size.sods k) y := by
  obtain ⟨h1, h2, h3⟩ := (mem_ways hc hi h0 _ w).1 hw
  have hf := zfc hc i (every c)
  have hn := zjp hc hi h0 h1
  have e : leftW c w = ends (befell c i (every c)) ⟨w.size.sods k, w.size.sods k⟩ := by
    rw [← zyd]; obtain ⟨a, b⟩ := w; simp only at h2; subst h2; rfl
  rw [e]
  refine (zty ?_).congr fun y => zpd _ _ y hf hn
  obtain ⟨y, hy⟩ := h3
  exact (znz _).2 ⟨y, (zpd _ _ y hf hn).2 hy⟩
theorem sold_hull {c : Cl} (hc : Fine c) (hcan : can c (every c) = true) {i : Nat} (hi : i < c.piles.length) : Hull (ofAll c i (soldG c)) fun x => ∃ k ∈ packs c (every c), ∃ n y, Poss c i k (every c) n y ∧ x = n - y :=
  zlp (fun k => spanOf c i k (soldG c k)) (fun k x => ∃ n y, Poss c i k (every c) n y ∧ x = n - y) _ (can_packs hcan) fun k hk => by
    obtain ⟨h0, _, _, _, hw⟩ := packs_in hc hk
    refine (zlp (soldG c k) (fun w x => ∃ y, Goes (befell c i (every c)) (w.size.sods k) y ∧ x = w.size.sods k - y) _ (hw i hi) fun w hw => ?_).congr fun x => ?_
    · have hh := way_hull hc hi h0 hw
      exact ⟨⟨_, hh.hi, rfl⟩, ⟨_, hh.lo, rfl⟩, fun x ⟨y, hy, e⟩ => by
        have := hh.all y hy; simp only [Sp.has, soldG] at this ⊢; omega⟩
    · constructor
      · rintro ⟨w, hw, y, h3, rfl⟩
        obtain ⟨h1, _, _⟩ := (mem_ways hc hi h0 _ w).1 hw
        exact ⟨_, y, ⟨w.size, h1, rfl, h3⟩, rfl⟩
      · rintro ⟨n, y, ⟨s, h1, rfl, h3⟩, rfl⟩
        exact ⟨⟨s, logOf c i k (every c) s⟩, (mem_ways hc hi h0 _ _).2 ⟨h1, rfl, y, h3⟩, y, h3, rfl⟩
def sumF (set : Nat) (f : Nat → Int) : Nat → Int
  | 0 => 0
  | n + 1 => if bit set n then sumF set f n + f n else sumF set f n
theorem sumF_congr (set : Nat) {f g : Nat → Int} : ∀ n, (∀ j, j < n → f j = g j) → sumF set f n = sumF set g n
  | 0, _ => rfl
  | n + 1, h => by
    unfold sumF
    rw [sumF_congr set n fun j hj => h j (by omega), h n (by omega)]
theorem sum_hull {c : Cl} (hc : Fine c) {k : Int} (hk : k ∈ packs c (every c)) (set : Nat) : ∀ m, m ≤ c.piles.length → Hull (sumTo c set k m) fun x => ∃ f : Nat → Int, (∀ j, j < m → ∃ n, Poss c j k (every c) n (f j)) ∧ x = sumF set f m
  | 0, _ => ⟨⟨fun _ => 0, fun j h => absurd h (by omega), rfl⟩, ⟨fun _ => 0, fun j h => absurd h (by omega), rfl⟩, fun x ⟨f, _, e⟩ => by subst e; exact ⟨Int.le_refl _, Int.le_refl _⟩⟩
  | m + 1, h => by
    have ih := sum_hull hc hk set m (by omega)
    obtain ⟨h0, _, _, _, hw⟩ := packs_in hc hk
    have hl := zyy hc (i := m) (by omega) h0 (hw m (by omega))
    rw [sumTo_succ]
    by_cases hb : bit set m = true
    · rw [if_pos hb]
      refine (ih.add hl).congr fun x => ?_
      constructor
      · rintro ⟨y, z, ⟨f, h1, rfl⟩, h2, rfl⟩
        refine ⟨fun j => if j = m then z else f j, fun j hj => ?_, ?_⟩
        · by_cases hjm : j = m
          · subst hjm; simpa using h2
          · simp only [if_neg hjm]; exact h1 j (by omega)
        · have e := sumF_congr set (f := fun j => if j = m then z else f j) (g := f) m fun j hj => if_neg (by omega)
          show _ = if bit set m then sumF set (fun j => if j = m then z else f j) m + (if m = m then z else f m) else _
          rw [if_pos hb, if_pos rfl, e]
      · rintro ⟨f, h1, rfl⟩
        refine ⟨_, _, ⟨f, fun j hj => h1 j (by omega), rfl⟩, h1 m (by omega), ?_⟩
        rw [sumF, if_pos hb]
    · rw [if_neg hb]
      refine ih.congr fun x => ?_
      constructor
      · rintro ⟨f, h1, rfl⟩
        obtain ⟨n, z, hz⟩ := (zzi hc (i := m) (by omega) h0 _).1 (hw m (by omega))
        refine ⟨fun j => if j = m then z else f j, fun j hj => ?_, ?_⟩
        · by_cases hjm : j = m
          · subst hjm; exact ⟨n, by simpa using hz⟩
          · simp only [if_neg hjm]; exact h1 j (by omega)
        · have e := sumF_congr set (f := fun j => if j = m then z else f j) (g := f) m fun j hj => if_neg (by omega)
          show _ = if bit set m then _ else sumF set (fun j => if j = m then z else f j) m
          rw [if_neg hb, e]
      · rintro ⟨f, h1, rfl⟩
        refine ⟨f, fun j hj => h1 j (by omega), ?_⟩
        rw [sumF, if_neg hb]
theorem tog_hull {c : Cl} (hc : Fine c) (hcan : can c (every c) = true) (set : Nat) : Hull (together c set) fun x => ∃ k ∈ packs c (every c), ∃ f : Nat → Int, (∀ j, j < c.piles.length → ∃ n, Poss c j k (every c) n (f j)) ∧ x = sumF set f c.piles.length := by
  rw [together_eq]
  exact zlp (fun k => sumTo c set k c.piles.length) _ _ (can_packs hcan) fun k hk => sum_hull hc hk set _ (Nat.le_refl _)
structure Less (c d : Cl) : Prop where
  many : c.piles.length = d.piles.length
  pack : c.pack = d.pack
  poss : ∀ i, i < c.piles.length → ∀ k n y, Poss c i k (every c) n y → Poss d i k (every d) n y
theorem Less.packs {c d : Cl} (h : Less c d) (hc : Fine c) (hd : Fine d) {k : Int} (hk : k ∈ packs c (every c)) : k ∈ Clm.packs d (every d) := by
  obtain ⟨h1, h2⟩ := (mem_packs hc _ k).1 hk
  refine (mem_packs hd _ k).2 ⟨by rw [← h.pack]; exact h1, fun i hi => ?_⟩
  rw [← h.many] at hi
  obtain ⟨n, y, h3⟩ := h2 i hi
  exact ⟨n, y, h.poss i hi k n y h3⟩
theorem Less.can {c d : Cl} (h : Less c d) (hc : Fine c) (hd : Fine d) (hcan : can c (every c) = true) : Clm.can d (every d) = true := by
  obtain ⟨k, hk⟩ := List.exists_mem_of_ne_nil _ (can_packs hcan)
  have := h.packs hc hd hk
  unfold Clm.can
  cases h' : Clm.packs d (every d) with
  | nil => rw [h'] at this; cases this
  | cons a l => rfl
def In (a b : Sp) : Prop := b.lo ≤ a.lo ∧ a.hi ≤ b.hi
theorem Less.all {c d : Cl} (h : Less c d) (hc : Fine c) (hd : Fine d) (hcan : Clm.can c (every c) = true) : (∀ i, i < c.piles.length → In (ofAll c i builtG) (ofAll d i builtG) ∧ In (hasC c i) (hasC d i) ∧ In (ofAll c i (soldG c)) (ofAll d i (soldG d))) ∧ ∀ set, In (together c set) (together d set) := by
  have hcan' := h.can hc hd hcan
  constructor
  · intro i hi
    have hi' : i < d.piles.length := by rw [← h.many]; exact hi
    refine ⟨(built_hull hc hcan hi).le_of (built_hull hd hcan' hi') ?_, (has_hull hc hcan hi).le_of (has_hull hd hcan' hi') ?_, (sold_hull hc hcan hi).le_of (sold_hull hd hcan' hi') ?_⟩
    · rintro x ⟨k, hk, y, hp⟩; exact ⟨k, h.packs hc hd hk, y, h.poss i hi k x y hp⟩
    · rintro x ⟨k, hk, n, hp⟩; exact ⟨k, h.packs hc hd hk, n, h.poss i hi k n x hp⟩
    · rintro x ⟨k, hk, n, y, hp, e⟩; exact ⟨k, h.packs hc hd hk, n, y, h.poss i hi k n y hp, e⟩
  · intro set
    refine (tog_hull hc hcan set).le_of (tog_hull hd hcan' set) ?_
    rintro x ⟨k, hk, f, hf, rfl⟩
    refine ⟨k, h.packs hc hd hk, f, fun j hj => ?_, by rw [h.many]⟩
    rw [← h.many] at hj
    obtain ⟨n, hn⟩ := hf j hj
    exact ⟨n, h.poss j hj k n _ hn⟩
end Clm
end Go.Proofs.Ytimgnlellflciaa

/- The plain law of ClampTrue: what truly was is possible. -/
namespace Go.Proofs.Ytimgnlellflciaa
open Go
namespace Clm
def EvOk (c : Cl) (v : Evt) : Prop := (0 ≤ v.clamp ∧ v.clamp < c.piles.length) ∧ (v.kind = 0 ∨ v.kind = 1) ∧ 0 ≤ v.sods.lo ∧ v.sods.lo ≤ v.sods.hi ∧ v.sods.hi ≤ 5000 ∧ v.sods.hi - v.sods.lo ≤ (if v.kind = 0 then 3 else 5000)
def Sized (c : Cl) (k : Int) (p : Nat) (n : Int) : Prop := ∃ s ∈ sizes (c.piles.getD p default), s.sods k = n
structure Truth (c : Cl) (k : Int) (xs : List Evt) (B L : List Int) (i : Nat) : Prop where
  len : xs.length = c.events.length
  lb : B.length = c.piles.length
  ll : L.length = c.piles.length
  size : ∀ p, p < c.piles.length → Sized c k p (B.getD p 0)
  ok : ∀ (j : Nat) v, xs[j]? = some v → EvOk c v
  goes : ∀ p, p < c.piles.length → Goes ((xs.take i).map (bfOf p)) (B.getD p 0) (L.getD p 0)
  nn : ∀ p, p < c.piles.length → 0 ≤ L.getD p 0 ∧ L.getD p 0 ≤ B.getD p 0 ∧ B.getD p 0 ≤ 5000
  rest : ∀ j : Nat, i ≤ j → xs[j]? = c.events[j]?
theorem sized_in {c : Cl} (hc : Fine c) {k : Int} (hk : c.pack.has k) {p : Nat} (hp : p < c.piles.length) {n : Int} (h : Sized c k p n) : 0 ≤ n ∧ n ≤ 5000 := by
  obtain ⟨s, h1, rfl⟩ := h
  have := hc.pack
  simp only [Sp.has] at hk
  exact zxi hc hp (by omega) (by omega) h1
theorem truth_zero {c : Cl} (hc : Fine c) {k : Int} (hk : c.pack.has k) {B : List Int} (hb : B.length = c.piles.length) (hs : ∀ p, p < c.piles.length → Sized c k p (B.getD p 0)) : Truth c k c.events B B 0 :=
  ⟨rfl, hb, hb, hs, fun j v h => hc.event v (List.mem_of_getElem? h), fun p _ => rfl, fun p hp => by have := sized_in hc hk hp (hs p hp); omega, fun _ _ => rfl⟩
theorem truth_take {xs : List Evt} {i : Nat} {v w : Evt} (hi : xs[i]? = some v) : (xs.set i w).take (i + 1) = xs.take i ++ [w] := by
  have hl := (List.getElem?_eq_some_iff.1 hi).1
  rw [List.take_add_one, List.getElem?_set_self hl, List.take_set_of_le (Nat.le_refl _)]
  rfl
theorem truth_count {c : Cl} {k : Int} {xs : List Evt} {B L : List Int} {i : Nat} (h : Truth c k xs B L i) {v : Evt} (hv : xs[i]? = some v) {q : Nat} (hq : v.clamp = q) (hk : v.kind = 1) {lo hi : Int} (h0 : 0 ≤ lo) (h1 : lo ≤ L.getD q 0) (h2 : L.getD q 0 ≤ hi) (h5 : hi ≤ 5000) : Truth c k (xs.set i ⟨1, v.clamp, ⟨lo, hi⟩⟩) B L (i + 1) := by
  have hl := (List.getElem?_eq_some_iff.1 hv).1
  have hok := h.ok i v hv
  refine ⟨by rw [List.length_set]; exact h.len, h.lb, h.ll, h.size, fun j u hu => ?_, fun p hp => ?_, h.nn, fun j hj => ?_⟩
  · by_cases hji : i = j
    · subst hji
      rw [List.getElem?_set_self hl] at hu
      cases hu
      exact ⟨hok.1, .inr rfl, h0, by simp only; omega, h5, by simp only; rw [if_neg (by decide)]; omega⟩
    · rw [List.getElem?_set_ne hji] at hu
      exact h.ok j u hu
  · rw [truth_take hv, List.map_append, List.map_singleton, goes_append]
    refine ⟨_, h.goes p hp, ?_⟩
    unfold bfOf
    simp only
    by_cases hc : v.clamp = p
    · have hpq : p = q := by omega
      subst hpq
      rw [if_neg (by simpa using hc), if_neg (by decide)]
      exact ⟨h1, h2, rfl⟩
    · rw [if_pos (by simpa using hc)]; rfl
  · rw [List.getElem?_set_ne (by omega)]; exact h.rest j (by omega)
theorem truth_sale {c : Cl} {k : Int} {xs : List Evt} {B L : List Int} {i : Nat} (h : Truth c k xs B L i) {v : Evt} (hv : xs[i]? = some v) {q : Nat} (hq : v.clamp = q) (hk : v.kind = 0) {d : Int} (h1 : v.sods.lo ≤ d) (h2 : d ≤ v.sods.hi) (h3 : d ≤ L.getD q 0) : Truth c k xs B (L.set q (L.getD q 0 - d)) (i + 1) := by
  have hl := (List.getElem?_eq_some_iff.1 hv).1
  have hok := h.ok i v hv
  have hql : q < c.piles.length := by have := hok.1.2; omega
  have hqL : q < L.length := by rw [h.ll]; exact hql
  have hs : ∀ p, (L.set q (L.getD q 0 - d)).getD p 0 = if q = p then L.getD q 0 - d else L.getD p 0 := fun p => by
    rw [List.getD_eq_getElem?_getD, List.getElem?_set]
    by_cases hp : q = p
    · subst hp; rw [if_pos rfl, if_pos rfl, if_pos hqL]; rfl
    · rw [if_neg hp, if_neg hp, ← List.getD_eq_getElem?_getD]
  refine ⟨h.len, h.lb, by rw [List.length_set]; exact h.ll, h.size, h.ok, fun p hp => ?_, fun p hp => ?_, fun j hj => h.rest j (by omega)⟩
  · have ht : xs.take (i + 1) = xs.take i ++ [v] := by rw [List.take_add_one, hv]; rfl
    rw [ht, List.map_append, List.map_singleton, goes_append, hs]
    refine ⟨_, h.goes p hp, ?_⟩
    unfold bfOf
    by_cases hc : v.clamp = p
    · have hpq : q = p := by omega
      subst hpq
      rw [if_neg (by simpa using hc), if_pos hk, if_pos rfl]
      exact ⟨d, h1, h2, h3, rfl⟩
    · rw [if_pos (by simpa using hc), if_neg (by omega)]; rfl
  · rw [hs]
    have := h.nn p hp
    have h0 := hok.2.2.1
    split
    · rename_i hqp; subst hqp; omega
    · exact this
def withEv (c : Cl) (xs : List Evt) : Cl := { c with events := xs }
theorem truth_fine {c : Cl} (hc : Fine c) {k : Int} {xs : List Evt} {B L : List Int} {i : Nat} (h : Truth c k xs B L i) : Fine (withEv c xs) :=
  ⟨hc.piles, hc.pack, by show xs.length ≤ 6; rw [h.len]; exact hc.events, hc.pile, fun v hv => by
    obtain ⟨j, hj⟩ := List.getElem?_of_mem hv
    exact h.ok j v hj⟩
theorem truth_poss {c : Cl} (hc : Fine c) {k : Int} {xs : List Evt} {B L : List Int} (h : Truth c k xs B L c.events.length) {p : Nat} (hp : p < c.piles.length) : Poss (withEv c xs) p k (every (withEv c xs)) (B.getD p 0) (L.getD p 0) := by
  obtain ⟨s, h1, h2⟩ := h.size p hp
  refine ⟨s, h1, h2, ?_⟩
  rw [befell_every _ fun v hv => ((truth_fine hc h).event v hv).2.1]
  have := h.goes p hp
  rw [List.take_of_length_le (by rw [h.len]; omega)] at this
  exact this
structure TrueLaw (x : Cl) (B L : List Int) : Prop where
  can : can x (every x) = true
  built : ∀ p, p < x.piles.length → (ofAll x p Ev.K.builtG).has (B.getD p 0)
  has : ∀ p, p < x.piles.length → (hasC x p).has (L.getD p 0)
  sold : ∀ p, p < x.piles.length → (ofAll x p (Ev.K.soldG x)).has (B.getD p 0 - L.getD p 0)
  sum : ∀ set, (together x set).has (sumF set (fun j => L.getD j 0) x.piles.length)
theorem true_law {c : Cl} (hc : Fine c) {k : Int} (hk : c.pack.has k) {xs : List Evt} {B L : List Int} (h : Truth c k xs B L c.events.length) : TrueLaw (withEv c xs) B L := by
  have hf := truth_fine hc h
  have hp : ∀ p, p < c.piles.length → _ := fun p hp => truth_poss hc h hp
  have hmem : k ∈ packs (withEv c xs) (every (withEv c xs)) := (mem_packs hf _ k).2 ⟨hk, fun i hi => ⟨_, _, hp i hi⟩⟩
  have hcan : Clm.can (withEv c xs) (every (withEv c xs)) = true := by
    unfold Clm.can
    cases h' : packs (withEv c xs) (every (withEv c xs)) with
    | nil => rw [h'] at hmem; cases hmem
    | cons a l => rfl
  refine ⟨hcan, fun p hpl => ?_, fun p hpl => ?_, fun p hpl => ?_, fun set => ?_⟩
  · exact (built_hull hf hcan hpl).all _ ⟨k, hmem, _, hp p hpl⟩
  · exact (has_hull hf hcan hpl).all _ ⟨k, hmem, _, hp p hpl⟩
  · exact (sold_hull hf hcan hpl).all _ ⟨k, hmem, _, _, hp p hpl, rfl⟩
  · exact (tog_hull hf hcan set).all _ ⟨k, hmem, _, fun j hj => ⟨_, hp j hj⟩, rfl⟩
end Clm
end Go.Proofs.Ytimgnlellflciaa

/- ClampTrue, gone through: what truly was built. -/
namespace Go.Proofs.Ytimgnlellflciaa
open Go
namespace Ev
namespace K
attribute [local simp] ev1 wantG spineK spine float xnew xval xeff zaa zat zbf zay zaz addFl cellsOf pickC alive slLen slFt binI maxA maxK minA minK aeqK aeqS AV.cells spA zas fillA setAt bitsI nat_nn zbj AV.plain apart
set_option maxRecDepth 100000
set_option maxHeartbeats 4000000
theorem prod_in' {a b d k : Int} (h1 : 1 ≤ a ∧ a ≤ 10) (h2 : 1 ≤ b ∧ b ≤ 10) (h3 : 1 ≤ d ∧ d ≤ 10) (h4 : 1 ≤ k ∧ k ≤ 5) : IntKind.i64.wrap (a * b) = a * b ∧ IntKind.i64.wrap (a * b * d) = a * b * d ∧ IntKind.i64.wrap (a * b * d * k) = a * b * d * k := by
  obtain ⟨m1, m2⟩ := Clm.zhq (x := a) (y := b) (A := 10) (B := 10) (by omega) h1.2 (by omega) h2.2
  obtain ⟨m3, m4⟩ := Clm.zhq (x := a * b) (y := d) (A := 100) (B := 10) m1 (by omega) (by omega) h3.2
  obtain ⟨m5, m6⟩ := Clm.zhq (x := a * b * d) (y := k) (A := 1000) (B := 5) m3 (by omega) (by omega) h4.2
  exact ⟨zav (by omega) (by omega), zav (by omega) (by omega), zav (by omega) (by omega)⟩
def ints (l : List Int) : List AV := l.map (AV.int .i64)
theorem ints_plain : ∀ l, (ints l).all AV.plain = true
  | [] => rfl
  | a :: l => by simp only [ints, List.map_cons, List.all_cons]; exact ints_plain l
@[simp] theorem ints_len (l : List Int) : (ints l).length = l.length := by simp [ints]
theorem ints_app (l m : List Int) : ints (l ++ m) = ints l ++ ints m := by simp [ints]
inductive Two (lo : Nat) (G : List AB) (B : List Int) : AV → AV → Prop
  | none : B = [] → Two lo G B .nils .nils
  | some (q1 q2 : Nat) : lo ≤ q1 → lo ≤ q2 → q1 ≠ q2 → HB G q1 (.cells (ints B)) → HB G q2 (.cells (ints B)) → Two lo G B (.sl q1 0 B.length 1) (.sl q2 0 B.length 1)
structure T1 (H : List AB) (c : Clm.Cl) (ns : List Int) (b u : Nat) (pk : Int) (G : List AB) (i : Nat) (B : List Int) (k : Int) : Prop where
  b : HB G b (.cells [.int .i64 k])
  u : HB G u (.cells [.vs 1 (ns.map (AV.int .u16))])
  c0 : HB G H.length (.cells (clampCs c))
  c1 : HB G (H.length + 1) (.cells [.nils, .int .i64 0, .int .i64 0, .nils])
  k0 : 0 ≤ k
  k1 : k ≤ 10 + 3 * (i : Int)
  lb : B.length = i
  size : ∀ p, p < i → Clm.Sized c pk p (B.getD p 0)
theorem truly_round1 (C : Cfg) (call : CallF) (ns : List Int) (b u : Nat) (hD : DrawC call ns b u) (c : Clm.Cl) (hc : Clm.Fine c) (pk : Int) (hpk : 1 ≤ pk ∧ pk ≤ 5) (H : List AB) (hbu : b ≠ u) (hbH : b < H.length) (huH : u < H.length) (i : Nat) (hi : i < c.piles.length) (G : List AB) (B : List Int) (k : Int) (lv bv : AV) (tcs : List Nat) (htc : ∀ j ∈ tcs, j = b) (hI : T1 H c ns b u pk G i B k) (hT : Two (H.length + 2) G B bv lv) :
    Does (ev C call H.length none (atP [1, 1, 0, 1, 0, 0] af23.body) { tm := tmA 129 [(22, .int .i64 i), (21, .int .i64 c.piles.length), (20, .vs 6 (c.piles.map pileE)), (8, .int .i64 pk), (6, lv), (5, bv), (4, .ptr (H.length + 1) 0), (2, .ptr H.length 0), (1, .fn (.func 68) [] [.ptr b 0, .ptr u 0])], df := [], hp := G, tc := tcs })
      (fun e st => e = .normal ∧ ∃ G B k lv bv tcs, (∀ j ∈ tcs, j = b) ∧ T1 H c ns b u pk G (i + 1) B k ∧ Two (H.length + 2) G B bv lv ∧ { st with tm := keepT [1, 2, 4, 5, 6, 8, 20, 21, 22] st.tm } = ({ tm := tmA 129 [(22, .int .i64 (i + 1 : Nat)), (21, .int .i64 c.piles.length), (20, .vs 6 (c.piles.map pileE)), (8, .int .i64 pk), (6, lv), (5, bv), (4, .ptr (H.length + 1) 0), (2, .ptr H.length 0), (1, .fn (.func 68) [] [.ptr b 0, .ptr u 0])], df := [], hp := G, tc := tcs } : St)) := by
  have hgp : c.piles[i]? = some c.piles[i] := List.getElem?_eq_getElem hi
  have hpl := hc.pile c.piles[i] (List.getElem_mem hi)
  have hgd : c.piles.getD i default = c.piles[i] := by rw [List.getD_eq_getElem?_getD, hgp]; rfl
  generalize hP : c.piles[i] = p at hgp hpl hgd
  have hgp' := ge_of hgp
  have hp4 := hc.piles
  obtain ⟨⟨B1, B2, B3⟩, ⟨U1, U2, U3⟩, hc0, hc1, k0, k1, lb, hsz⟩ := hI
  obtain ⟨a1, ha1⟩ : ∃ a, drawV ns k p.long.lo p.long.hi = a := ⟨_, rfl⟩
  obtain ⟨a2, ha2⟩ : ∃ a, drawV ns (k + 1) p.wide.lo p.wide.hi = a := ⟨_, rfl⟩
  obtain ⟨a3, ha3⟩ : ∃ a, drawV ns (k + 1 + 1) p.high.lo p.high.hi = a := ⟨_, rfl⟩
  have i1 := drawV_in ns k (lo := p.long.lo) (hi := p.long.hi) (by omega)
  have i2 := drawV_in ns (k + 1) (lo := p.wide.lo) (hi := p.wide.hi) (by omega)
  have i3 := drawV_in ns (k + 1 + 1) (lo := p.high.lo) (hi := p.high.hi) (by omega)
  rw [ha1] at i1
  rw [ha2] at i2
  rw [ha3] at i3
  have hd1 : ∀ K, call (.fn (.func 68) [] [.ptr b 0, .ptr u 0]) [.agg [.int .i64 p.long.lo, .int .i64 p.long.hi]] (G ++ K) = some (.ret (.int .i64 a1), G.set b (.cells [.int .i64 (k + 1)]) ++ (K ++ [.cells [.int .i64 p.long.lo, .int .i64 p.long.hi]]), [b]) := fun K => by
    rw [hD (G ++ K) k _ _ (by rw [List.getElem?_append_left B2]; exact B1) (by rw [List.getElem?_append_left U2]; exact U1) k0 (by omega) (by omega) (by omega) (by omega), ha1, List.set_append_left _ _ B2, List.append_assoc]
  have hd2 : ∀ K, call (.fn (.func 68) [] [.ptr b 0, .ptr u 0]) [.agg [.int .i64 p.wide.lo, .int .i64 p.wide.hi]] (G.set b (.cells [.int .i64 (k + 1)]) ++ K) = some (.ret (.int .i64 a2), G.set b (.cells [.int .i64 (k + 1 + 1)]) ++ (K ++ [.cells [.int .i64 p.wide.lo, .int .i64 p.wide.hi]]), [b]) := fun K => by
    rw [hD (G.set b (.cells [.int .i64 (k + 1)]) ++ K) (k + 1) _ _ (by rw [List.getElem?_append_left (by simpa using B2), List.getElem?_set_self B2]) (by rw [List.getElem?_append_left (by simpa using U2), List.getElem?_set_ne hbu]; exact U1) (by omega) (by omega) (by omega) (by omega) (by omega), ha2, List.set_append_left _ _ (by simpa using B2), List.set_set, List.append_assoc]
  have hd3 : ∀ K, call (.fn (.func 68) [] [.ptr b 0, .ptr u 0]) [.agg [.int .i64 p.high.lo, .int .i64 p.high.hi]] (G.set b (.cells [.int .i64 (k + 1 + 1)]) ++ K) = some (.ret (.int .i64 a3), G.set b (.cells [.int .i64 (k + 1 + 1 + 1)]) ++ (K ++ [.cells [.int .i64 p.high.lo, .int .i64 p.high.hi]]), [b]) := fun K => by
    rw [hD (G.set b (.cells [.int .i64 (k + 1 + 1)]) ++ K) (k + 1 + 1) _ _ (by rw [List.getElem?_append_left (by simpa using B2), List.getElem?_set_self B2]) (by rw [List.getElem?_append_left (by simpa using U2), List.getElem?_set_ne hbu]; exact U1) (by omega) (by omega) (by omega) (by omega) (by omega), ha3, List.set_append_left _ _ (by simpa using B2), List.set_set, List.append_assoc]
  obtain ⟨w1, w2, w3⟩ := prod_in' (a := a1) (b := a2) (d := a3) (k := pk) (by omega) (by omega) (by omega) hpk
  have hwi : IntKind.i64.wrap (↑i + 1) = ↑i + 1 := zav (by omega) (by omega)
  have e5 : (i : Int) < c.piles.length := by omega
  have hnew : ∀ q, q < i + 1 → Clm.Sized c pk q ((B ++ [a1 * a2 * a3 * pk]).getD q 0) := fun q hq => by
    by_cases hqi : q < i
    · rw [List.getD_eq_getElem?_getD, List.getElem?_append_left (by omega), ← List.getD_eq_getElem?_getD]; exact hsz q hqi
    · have : q = i := by omega
      subst this
      rw [List.getD_eq_getElem?_getD, List.getElem?_append_right (by omega), lb, Nat.sub_self]
      refine ⟨⟨a1, a2, a3⟩, ?_, rfl⟩
      rw [hgd, Clm.mem_sizes]
      exact ⟨⟨i1.1, i1.2⟩, ⟨i2.1, i2.2⟩, ⟨i3.1, i3.2⟩⟩
  -- what is left behind
  have hend : ∀ (G0 : List AB) (K : List AB) (q1 q2 : Nat), (∀ q x, q ≠ b → q < H.length + 2 → HB G q x → HB G0 q x) → HB G0 b (.cells [.int .i64 (k + 1 + 1 + 1)]) → H.length + 2 ≤ q1 → H.length + 2 ≤ q2 → q1 ≠ q2 → (G0 ++ K)[q1]? = some (.cells (ints B ++ [.int .i64 (a1 * a2 * a3 * pk)])) → (G0 ++ K)[q2]? = some (.cells (ints B ++ [.int .i64 (a1 * a2 * a3 * pk)])) →
      T1 H c ns b u pk (G0 ++ K) (i + 1) (B ++ [a1 * a2 * a3 * pk]) (k + 1 + 1 + 1) ∧ Two (H.length + 2) (G0 ++ K) (B ++ [a1 * a2 * a3 * pk]) (.sl q1 0 (B.length + 1) 1) (.sl q2 0 (B.length + 1) 1) := fun G0 K q1 q2 h1 h2 h3 h4 h5 h6 h7 => by
    refine ⟨⟨h2.app K, (h1 u _ (Ne.symm hbu) (by omega) ⟨U1, U2, U3⟩).app K, (h1 _ _ (by omega) (by omega) hc0).app K, (h1 _ _ (by omega) (by omega) hc1).app K, by omega, by omega, by simp [lb], hnew⟩, ?_⟩
    have := Two.some (lo := H.length + 2) (G := G0 ++ K) (B := B ++ [a1 * a2 * a3 * pk]) q1 q2 h3 h4 h5 (hb (by rw [h6, ints_app]; rfl)) (hb (by rw [h7, ints_app]; rfl))
    rw [List.length_append] at this
    exact this
  have HX := hideP (And.intro hend (And.intro htc (And.intro hc0 (And.intro hc1 lb))))
  clear lb hend htc hnew hsz hD ha1 ha2 ha3 i1 i2 i3 hgd hpl hc hpk k0 k1 hc0 hc1 hP
  have hb1 : 1 ≤ bound := by decide
  have hgl := HX.out.2.2.2.1.lt
  have g1 : ¬ (G.length < H.length) := by omega
  have g2 : ∀ n, ¬ (G.length + n < H.length) := fun n => by omega
  have g3 : ¬ (b = G.length) := by omega
  have g4 : ¬ (G.length = b) := by omega
  clear hgl
  have hplr := ints_plain B
  have hfilt : decide (b < H.length) = true := decide_eq_true hbH
  unfold af23
  simp only [atP]
  cases hT with
  | none h0 =>
    subst h0
    (repeat (first | (with_reducible apply zai; (focus ((conv => lhs; simp [List.getElem?_append_right, List.set_append_right, List.set_cons_zero, List.set_cons_succ, List.getElem?_cons_zero, List.getElem?_cons_succ, List.getElem?_append_left, List.getElem?_set_ne, List.getElem?_set_self, List.set_append_left, List.length_set, -getElem?_pos, ↓flall_nil', pileE, ints, Nat.testBit_eq_decide_div_mod_eq, *]) <;> exact rfl)); simp only [addFl]) | ((with_reducible first | refine zaj ?_ | refine zal ?_ | refine zag ?_ | refine zae ?_ | refine zac ?_ | refine zak ?_ | refine zaf ?_ | refine zam ?_ | (apply zad; (focus (simp [zaa, *]; done))) | (with_reducible apply zab; (focus (simp [zaa, *]; done)))); try simp only [Then, Ops, OutB, reduceIte]) | simp only [Nat.reduceEqDiff, reduceIte, OutB, Then]))
    obtain ⟨hend, htc, hc0, hc1, lb⟩ := HX.out
    have hl := hc1.lt
    have h := hend (G.set b (.cells [.int .i64 (k + 1 + 1 + 1)])) [.cells [.int .i64 p.long.lo, .int .i64 p.long.hi, .int .i64 p.wide.lo, .int .i64 p.wide.hi, .int .i64 p.high.lo, .int .i64 p.high.hi], .cells [.int .i64 p.long.lo, .int .i64 p.long.hi], .cells [.int .i64 p.wide.lo, .int .i64 p.wide.hi], .cells [.int .i64 p.high.lo, .int .i64 p.high.hi], .cells [.int .i64 (a1 * a2 * a3 * pk)], .cells (ints [] ++ [.int .i64 (a1 * a2 * a3 * pk)]), .cells [.int .i64 (a1 * a2 * a3 * pk)], .cells (ints [] ++ [.int .i64 (a1 * a2 * a3 * pk)])] (G.length + 5) (G.length + 7) (fun q x hq _ h => h.set _ (Ne.symm hq)) (HB.here ⟨B1, B2, B3⟩ _) (by omega) (by omega) (by omega) (by rw [List.getElem?_append_right (by simp), List.length_set, Nat.add_sub_cancel_left]; rfl) (by rw [List.getElem?_append_right (by simp), List.length_set, Nat.add_sub_cancel_left]; rfl)
    refine ⟨by first | rfl | trivial, _, _, _, _, _, b :: b :: b :: tcs, fun j hj => by simp only [List.mem_cons] at hj; rcases hj with h | h | h | h <;> first | exact h | exact htc j h, h.1, h.2, ?_⟩
    simp only [ints, List.map_nil, List.nil_append]
    (refine st_is ?_ ?_ ?_ ?_; (focus (simp [zao, zar])); (focus rfl); (focus (first | rfl | (simp; done) | (simp [*]; done) | (simp; rfl) | (simp [*]; omega) | (simp; omega))); (focus (first | rfl | simp)))
  | some q1 q2 l1 l2 ne h1 h2 =>
    obtain ⟨Q1, Q2, Q3⟩ := h1
    obtain ⟨R1, R2, R3⟩ := h2
    have n1 : b ≠ q1 := by omega
    have n2 : b ≠ q2 := by omega
    have n3 : ¬ (q1 < H.length) := by omega
    have n4 : ¬ (q2 < H.length) := by omega
    have hbl : B.length + 1 ≤ bound := by have := HX.out.2.2.2.2; unfold bound; omega
    (repeat (first | (with_reducible apply zai; (focus ((conv => lhs; simp [List.getElem?_append_right, List.set_append_right, List.set_cons_zero, List.set_cons_succ, List.getElem?_cons_zero, List.getElem?_cons_succ, List.getElem?_append_left, List.getElem?_set_ne, List.getElem?_set_self, List.set_append_left, List.length_set, -getElem?_pos, ↓flall_nil', pileE, Nat.testBit_eq_decide_div_mod_eq, *]) <;> exact rfl)); simp only [addFl]) | ((with_reducible first | refine zaj ?_ | refine zal ?_ | refine zag ?_ | refine zae ?_ | refine zac ?_ | refine zak ?_ | refine zaf ?_ | refine zam ?_ | (apply zad; (focus (simp [zaa, *]; done))) | (with_reducible apply zab; (focus (simp [zaa, *]; done)))); try simp only [Then, Ops, OutB, reduceIte]) | simp only [Nat.reduceEqDiff, reduceIte, OutB, Then]))
    obtain ⟨hend, htc, hc0, hc1, lb⟩ := HX.out
    have hl := hc1.lt
    have h := hend (((G.set b (.cells [.int .i64 (k + 1 + 1 + 1)])).set q1 .dead).set q2 .dead) [.cells [.int .i64 p.long.lo, .int .i64 p.long.hi, .int .i64 p.wide.lo, .int .i64 p.wide.hi, .int .i64 p.high.lo, .int .i64 p.high.hi], .cells [.int .i64 p.long.lo, .int .i64 p.long.hi], .cells [.int .i64 p.wide.lo, .int .i64 p.wide.hi], .cells [.int .i64 p.high.lo, .int .i64 p.high.hi], .cells [.int .i64 (a1 * a2 * a3 * pk)], .cells (ints B ++ [.int .i64 (a1 * a2 * a3 * pk)]), .cells [.int .i64 (a1 * a2 * a3 * pk)], .cells (ints B ++ [.int .i64 (a1 * a2 * a3 * pk)])] (G.length + 5) (G.length + 7) (fun q x hq hlt h => ((h.set _ (Ne.symm hq)).set _ (by omega)).set _ (by omega)) (((HB.here ⟨B1, B2, B3⟩ _).set _ (Ne.symm n1)).set _ (Ne.symm n2)) (by omega) (by omega) (by omega) (by rw [List.getElem?_append_right (by simp)]; simp only [List.length_set, Nat.add_sub_cancel_left]; rfl) (by rw [List.getElem?_append_right (by simp)]; simp only [List.length_set, Nat.add_sub_cancel_left]; rfl)
    refine ⟨by first | rfl | trivial, _, _, _, _, _, b :: b :: b :: tcs, fun j hj => by simp only [List.mem_cons] at hj; rcases hj with h | h | h | h <;> first | exact h | exact htc j h, h.1, h.2, ?_⟩
    (refine st_is ?_ ?_ ?_ ?_; (focus (simp [zao, zar])); (focus rfl); (focus (first | rfl | (simp; done) | (simp [*]; done) | (simp; rfl) | (simp [*]; omega) | (simp; omega))); (focus (first | rfl | simp)))
end K
end Ev
end Go.Proofs.Ytimgnlellflciaa

/- ClampTrue, gone through: what truly was sold and counted. -/
namespace Go.Proofs.Ytimgnlellflciaa
open Go
namespace Ev
namespace K
attribute [local simp] ev1 wantG spineK spine float xnew xval xeff zaa zat zbf zay zaz addFl cellsOf pickC alive slLen slFt binI maxA maxK minA minK aeqK aeqS AV.cells spA zas fillA setAt bitsI nat_nn zbj AV.plain apart
set_option maxRecDepth 100000
set_option maxHeartbeats 4000000
theorem evtCs_set2 : ∀ (xs : List Clm.Evt) (i : Nat) (v : Clm.Evt) (a b : Int), xs[i]? = some v → (evtCs xs).take (i * 4 + 2) ++ .int .i64 a :: .int .i64 b :: (evtCs xs).drop (i * 4 + 4) = evtCs (xs.set i ⟨v.kind, v.clamp, ⟨a, b⟩⟩)
  | [], i, v, a, b, h => by simp at h
  | e :: l, 0, v, a, b, h => by
    simp only [List.getElem?_cons_zero, Option.some.injEq] at h
    subst h
    simp [evtCs]
  | e :: l, i + 1, v, a, b, h => by
    have ih := evtCs_set2 l i v a b (by simpa using h)
    rw [show (i + 1) * 4 + 2 = i * 4 + 2 + 1 + 1 + 1 + 1 by omega, show (i + 1) * 4 + 4 = i * 4 + 4 + 1 + 1 + 1 + 1 by omega]
    simpa [evtCs] using ih
theorem ints_set (L : List Int) (q : Nat) (n : Int) (h : q < L.length) : (ints L).take q ++ .int .i64 n :: (ints L).drop (q + 1) = ints (L.set q n) := by
  unfold ints
  rw [List.map_set, List.set_eq_take_append_cons_drop, if_pos (by simpa using h)]
theorem ints_get (L : List Int) (q : Nat) (h : q < L.length) : (ints L)[q]? = some (.int .i64 (L.getD q 0)) := by
  unfold ints
  rw [List.getElem?_map, List.getElem?_eq_getElem h, List.getD_eq_getElem?_getD, List.getElem?_eq_getElem h]; rfl
theorem flall_one (fl : List (Nat × List Nat)) (d b : Nat) (h : (fl.all fun p => apart p.2 [b]) = true) : (fl.all fun p => d.testBit p.1 || apart p.2 [b]) = true := by
  rw [List.all_eq_true] at h ⊢
  intro p hp
  rw [h p hp, Bool.or_true]
structure T2 (H : List AB) (c : Clm.Cl) (ns : List Int) (b u : Nat) (pk : Int) (qe qb ql : Nat) (G : List AB) (i : Nat) (xs : List Clm.Evt) (B L : List Int) (k : Int) : Prop where
  b : HB G b (.cells [.int .i64 k])
  u : HB G u (.cells [.vs 1 (ns.map (AV.int .u16))])
  c1 : HB G (H.length + 1) (.cells [.vs 6 (c.piles.map pileE), .int .i64 c.pack.lo, .int .i64 c.pack.hi, .sl qe 0 c.events.length 4])
  e : HB G qe (.cells (evtCs xs))
  bb : HB G qb (.cells (ints B))
  ll : HB G ql (.cells (ints L))
  le : H.length + 2 ≤ qe
  lb : H.length + 2 ≤ qb
  l2 : H.length + 2 ≤ ql
  n1 : qe ≠ qb
  n2 : qe ≠ ql
  n3 : qb ≠ ql
  k0 : 0 ≤ k
  k1 : k ≤ 30 + 3 * (i : Int)
  tr : Clm.Truth c pk xs B L i
def trSt (H : List AB) (c : Clm.Cl) (b u qb ql : Nat) (i : Nat) (G : List AB) (tcs : List Nat) : St := { tm := tmA 129 [(60, .int .i64 i), (59, .int .i64 c.events.length), (58, .vs 4 (c.events.map evtE)), (6, .sl ql 0 c.piles.length 1), (5, .sl qb 0 c.piles.length 1), (4, .ptr (H.length + 1) 0), (1, .fn (.func 68) [] [.ptr b 0, .ptr u 0])], df := [], hp := G, tc := tcs }
def TrNo (H : List AB) (c : Clm.Cl) (b : Nat) (e : AExit) (st : St) : Prop := e = .ret ∧ st.df = [] ∧ H.length ≤ st.hp.length ∧ (∀ j ∈ st.tc, j = b) ∧ ∃ qe, (resL st af23.res).map resV = some (.tup [.agg [.vs 6 (c.piles.map pileE), .int .i64 c.pack.lo, .int .i64 c.pack.hi, .sl qe 0 c.events.length 4], .nils, .nils, .bool false])
theorem truly_round2 (C : Cfg) (call : CallF) (ns : List Int) (b u : Nat) (hD : DrawC call ns b u) (hsp : ∀ H a b, call (.fn (.func 20) [] []) [.int .i64 a, .int .i64 b] H = some (.ret (.agg [.int .i64 a, .int .i64 b]), H, [])) (c : Clm.Cl) (hc : Clm.Fine c) (pk : Int) (H : List AB) (hbu : b ≠ u) (hbH : b < H.length) (huH : u < H.length) (qe qb ql i : Nat) (hi : i < c.events.length) (G : List AB) (xs : List Clm.Evt) (B L : List Int) (k : Int) (tcs : List Nat) (htc : ∀ j ∈ tcs, j = b) (hI : T2 H c ns b u pk qe qb ql G i xs B L k) :
    Does (ev C call H.length none (atP [1, 1, 1, 1, 1, 0, 1, 0, 0] af23.body) (trSt H c b u qb ql i G tcs))
      (fun e st => (e = .normal ∧ ∃ G xs L k tcs, (∀ j ∈ tcs, j = b) ∧ T2 H c ns b u pk qe qb ql G (i + 1) xs B L k ∧ { st with tm := keepT [1, 4, 5, 6, 58, 59, 60] st.tm } = trSt H c b u qb ql (i + 1) G tcs) ∨ TrNo H c b e st) := by
  obtain ⟨hB, hU, hC1, hE, hBB, hL, le, lb, l2, n1, n2, n3, k0, k1, tr⟩ := hI
  have hvx : xs[i]? = c.events[i]? := tr.rest i (Nat.le_refl _)
  have hgv : c.events[i]? = some c.events[i] := List.getElem?_eq_getElem hi
  rw [hgv] at hvx
  have hok := tr.ok i _ hvx
  have he6 := hc.events
  have hp4 := hc.piles
  generalize c.events[i] = v at hgv hvx hok
  obtain ⟨kd, cl, ⟨slo, shi⟩⟩ := v
  simp only [Clm.EvOk] at hok
  obtain ⟨⟨v1, v2⟩, v3, v4, v5, v6, v7⟩ := hok
  obtain ⟨q, rfl⟩ : ∃ q : Nat, cl = q := ⟨cl.toNat, by omega⟩
  have hql : q < c.piles.length := by omega
  have hgv' := ge_of hgv
  have hnn := tr.nn q hql
  have hLq := ints_get L q (by rw [tr.ll]; exact hql)
  have hls := tr.ll
  obtain ⟨n, hn⟩ : ∃ n, L.getD q 0 = n := ⟨_, rfl⟩
  rw [hn] at hLq hnn
  have hLq' := ge_of hLq
  have hwi : IntKind.i64.wrap (↑i + 1) = ↑i + 1 := zav (by omega) (by omega)
  have e5 : (i : Int) < c.events.length := by omega
  have hq5 : (q : Int) < c.piles.length := by omega
  obtain ⟨B1, B2, B3⟩ := hB
  obtain ⟨U1, U2, U3⟩ := hU
  have hdr : ∀ (lo hi : Int), 0 ≤ lo → lo ≤ hi → hi ≤ 10000 → ∀ K, call (.fn (.func 68) [] [.ptr b 0, .ptr u 0]) [.agg [.int .i64 lo, .int .i64 hi]] (G ++ K) = some (.ret (.int .i64 (drawV ns k lo hi)), G.set b (.cells [.int .i64 (k + 1)]) ++ (K ++ [.cells [.int .i64 lo, .int .i64 hi]]), [b]) := fun lo hi a1 a2 a3 K => by
    rw [hD (G ++ K) k _ _ (by rw [List.getElem?_append_left B2]; exact B1) (by rw [List.getElem?_append_left U2]; exact U1) k0 (by omega) a1 a2 a3, List.set_append_left _ _ B2, List.append_assoc]
  have hgl := hC1.lt
  have g1 : ¬ (G.length < H.length) := by omega
  have g2 : ∀ n, ¬ (G.length + n < H.length) := fun n => by omega
  have g3 : ¬ (b = G.length) := by omega
  have g4 : ¬ (G.length = b) := by omega
  have g5 : b ≠ H.length + 1 := by omega
  have g6 : b ≠ qe := by omega
  have g7 : b ≠ ql := by omega
  have g10 : ¬ (ql = b) := by omega
  have g11 : ¬ (H.length + 1 = b) := by omega
  have g12 : ¬ (qe = b) := by omega
  have g8 : ¬ (qe < H.length) := by omega
  have g9 : ¬ (ql < H.length) := by omega
  have hfilt : decide (b < H.length) = true := decide_eq_true hbH
  have hbs := (HB.mk (G := G) (q := b) B1 B2 B3).here (.cells [.int .i64 (k + 1)])
  have hus := (HB.mk (G := G) (q := u) U1 U2 U3).set (r := b) (.cells [.int .i64 (k + 1)]) hbu
  have hcs := hC1.set (r := b) (.cells [.int .i64 (k + 1)]) g5
  have hes := hE.set (r := b) (.cells [.int .i64 (k + 1)]) g6
  have hls' := hL.set (r := b) (.cells [.int .i64 (k + 1)]) g7
  have hbbs := hBB.set (r := b) (.cells [.int .i64 (k + 1)]) (by omega)
  obtain ⟨C1, C2, C3⟩ := hC1
  obtain ⟨E1, E2, E3⟩ := hE
  obtain ⟨L1, L2, L3⟩ := hL
  have HX := hideP (And.intro htc (And.intro hbs (And.intro hus (And.intro hcs (And.intro hes (And.intro hls' (And.intro hbbs (And.intro le (And.intro lb (And.intro l2 (And.intro n1 (And.intro n2 (And.intro n3 (And.intro k0 (And.intro k1 (And.intro tr (And.intro hvx hn)))))))))))))))))
  clear hD hc
  by_cases hk : kd = 1
  · subst hk
    obtain ⟨d, hd0⟩ : ∃ d, drawV ns k 0 5 = d := ⟨_, rfl⟩
    have hd1 := drawV_in ns k (lo := 0) (hi := 5) (by omega)
    have hdr1 := hdr 0 5 (by omega) (by omega) (by omega)
    rw [hd0] at hd1 hdr1
    have w1 : IntKind.i64.wrap (shi - slo) = shi - slo := zav (by omega) (by omega)
    have w2 : IntKind.i64.wrap (n + min 20 (shi - slo)) = n + min 20 (shi - slo) := zav (by omega) (by omega)
    have w3 : IntKind.i64.wrap (n - d) = n - d := zav (by omega) (by omega)
    have t1 : 0 ≤ max 0 (n - d) := by omega
    have t2 : max 0 (n - d) ≤ n := by omega
    have t3 : n ≤ min 5000 (n + min 20 (shi - slo)) := by omega
    have t4 : min 5000 (n + min 20 (shi - slo)) ≤ 5000 := by omega
    have hset := evtCs_set2 xs i _ (max 0 (n - d)) (min 5000 (n + min 20 (shi - slo))) hvx
    have hsp1 := fun H => hsp H 0 5
    have hsp2 := fun H => hsp H (max 0 (n - d)) (min 5000 (n + min 20 (shi - slo)))
    have hlen : (evtCs xs).length = c.events.length * 4 := by rw [zia, tr.len]
    have hlt : i * 4 + 2 + 2 ≤ c.events.length * 4 := by omega
    have HT := hideP (And.intro t1 (And.intro t2 (And.intro t3 t4)))
    clear t1 t2 t3 t4 hd0 hd1 v1 v2 v3 v4 v5 v6 v7 hnn tr hn hvx htc hbs hus hcs hes hls' hbbs hls he6 hp4 k0 k1 le lb l2 hdr hsp
    unfold af23 trSt
    simp only [atP]
    (repeat (first | ((with_reducible apply zai); (focus ((with_reducible apply ev1_spine); (focus rfl); (focus rfl); (focus ((conv => lhs; simp [List.getElem?_append_right, List.set_append_right, List.set_cons_zero, List.set_cons_succ, List.getElem?_cons_zero, List.getElem?_cons_succ, List.getElem?_append_left, List.getElem?_set_ne, List.getElem?_set_self, List.set_append_left, List.length_set, -getElem?_pos, ↓flall_nil', ↓flall_one, evtE, Nat.testBit_eq_decide_div_mod_eq, *]) <;> exact rfl)); (focus rfl); (focus rfl))); simp only [addFl]) | (with_reducible apply zai; (focus ((conv => lhs; simp [List.getElem?_append_right, List.set_append_right, List.set_cons_zero, List.set_cons_succ, List.getElem?_cons_zero, List.getElem?_cons_succ, List.getElem?_append_left, List.getElem?_set_ne, List.getElem?_set_self, List.set_append_left, List.length_set, -getElem?_pos, ↓flall_nil', ↓flall_one, evtE, Nat.testBit_eq_decide_div_mod_eq, *]) <;> exact rfl)); simp only [addFl]) | ((with_reducible first | refine zaj ?_ | refine zal ?_ | refine zag ?_ | refine zae ?_ | refine zac ?_ | refine zak ?_ | refine zaf ?_ | refine zam ?_ | (apply zad; (focus (simp [zaa, *]; done))) | (with_reducible apply zab; (focus (simp [zaa, *]; done)))); try simp only [Then, Ops, OutB, reduceIte]) | simp only [Nat.reduceEqDiff, reduceIte, OutB, Then]))
    obtain ⟨htc, hbs, hus, hcs, hes, hls', hbbs, le, lb, l2, n1, n2, n3, k0, k1, tr, hvx, hn⟩ := HX.out
    obtain ⟨t1, t2, t3, t4⟩ := HT.out
    refine .inl ⟨by first | rfl | trivial, (G.set b (.cells [.int .i64 (k + 1)])).set qe (.cells (evtCs (xs.set i ⟨1, q, ⟨max 0 (n - d), min 5000 (n + min 20 (shi - slo))⟩⟩))) ++ [.cells [.int .i64 1, .int .i64 q, .int .i64 slo, .int .i64 shi], .cells [.int .i64 0, .int .i64 5]], xs.set i ⟨1, q, ⟨max 0 (n - d), min 5000 (n + min 20 (shi - slo))⟩⟩, L, k + 1, b :: tcs, fun j hj => by simp only [List.mem_cons] at hj; rcases hj with h | h <;> first | exact h | exact htc j h, ⟨(hbs.set _ (by omega)).app _, (hus.set _ (by omega)).app _, (hcs.set _ (by omega)).app _, (hes.here _).app _, (hbbs.set _ n1).app _, (hls'.set _ n2).app _, le, lb, l2, n1, n2, n3, by omega, by omega, Clm.truth_count tr hvx rfl rfl t1 (by rw [hn]; exact t2) (by rw [hn]; exact t3) t4⟩, ?_⟩
    (refine st_is ?_ ?_ ?_ ?_; (focus (simp [zao, zar])); (focus rfl); (focus (first | rfl | (simp; done) | (simp [*]; done) | (simp; rfl) | (simp [*]; omega) | (simp; omega))); (focus (first | rfl | simp)))
  · have hk0 : kd = 0 := by omega
    subst hk0
    have hwn : ∀ d, 0 ≤ d → d ≤ 10000 → IntKind.i64.wrap (n - d) = n - d := fun d a1 a2 => zav (by omega) (by omega)
    by_cases hno : n < slo
    · clear v1 v2 v3 v4 v5 v6 v7 hnn tr hn hvx htc hbs hus hcs hes hls' hbbs hls he6 hp4 k0 k1 le lb l2 hdr hsp hwn
      unfold af23 trSt
      simp only [atP]
      (repeat (first | ((with_reducible apply zai); (focus ((with_reducible apply ev1_spine); (focus rfl); (focus rfl); (focus ((conv => lhs; simp [List.getElem?_append_right, List.set_append_right, List.set_cons_zero, List.set_cons_succ, List.getElem?_cons_zero, List.getElem?_cons_succ, List.getElem?_append_left, List.getElem?_set_ne, List.getElem?_set_self, List.set_append_left, List.length_set, -getElem?_pos, ↓flall_nil', ↓flall_one, evtE, Nat.testBit_eq_decide_div_mod_eq, *]) <;> exact rfl)); (focus rfl); (focus rfl))); simp only [addFl]) | (with_reducible apply zai; (focus ((conv => lhs; simp [List.getElem?_append_right, List.set_append_right, List.set_cons_zero, List.set_cons_succ, List.getElem?_cons_zero, List.getElem?_cons_succ, List.getElem?_append_left, List.getElem?_set_ne, List.getElem?_set_self, List.set_append_left, List.length_set, -getElem?_pos, ↓flall_nil', ↓flall_one, evtE, Nat.testBit_eq_decide_div_mod_eq, *]) <;> exact rfl)); simp only [addFl]) | ((with_reducible first | refine zaj ?_ | refine zal ?_ | refine zag ?_ | refine zae ?_ | refine zac ?_ | refine zak ?_ | refine zaf ?_ | refine zam ?_ | (apply zad; (focus (simp [zaa, *]; done))) | (with_reducible apply zab; (focus (simp [zaa, *]; done)))); try simp only [Then, Ops, OutB, reduceIte]) | simp only [Nat.reduceEqDiff, reduceIte, OutB, Then]))
      obtain ⟨htc, hbs, hus, hcs, hes, hls', hbbs, le, lb, l2, n1, n2, n3, k0, k1, tr, hvx, hn⟩ := HX.out
      refine .inr ⟨rfl, rfl, by simp only [List.length_append, List.length_set]; omega, htc, qe, ?_⟩
      unfold af23
      simp only [resL, resOf, zah]
      simp [List.getElem?_append_left, List.getElem?_set_self, List.length_set, C2, pickC, resV]
    · have hdr1 := hdr slo (min shi n) v4 (by omega) (by omega)
      have hd1 := drawV_in ns k (lo := slo) (hi := min shi n) (by omega)
      generalize drawV ns k slo (min shi n) = d at *
      have w3 := hwn d (by omega) (by omega)
      have hsp1 := fun H => hsp H slo (min shi n)
      have hset := ints_set L q (n - d) (by omega)
      have hq1 : q + 1 ≤ c.piles.length := by omega
      have HT := hideP (And.intro hd1 v4)
      clear v1 v2 v3 v4 v5 v6 v7 hnn tr hn hvx htc hbs hus hcs hes hls' hbbs he6 hp4 k0 k1 le lb l2 hdr hsp hwn hd1
      unfold af23 trSt
      simp only [atP]
      (repeat (first | ((with_reducible apply zai); (focus ((with_reducible apply ev1_spine); (focus rfl); (focus rfl); (focus ((conv => lhs; simp [List.getElem?_append_right, List.set_append_right, List.set_cons_zero, List.set_cons_succ, List.getElem?_cons_zero, List.getElem?_cons_succ, List.getElem?_append_left, List.getElem?_set_ne, List.getElem?_set_self, List.set_append_left, List.length_set, -getElem?_pos, ↓flall_nil', ↓flall_one, evtE, Nat.testBit_eq_decide_div_mod_eq, *]) <;> exact rfl)); (focus rfl); (focus rfl))); simp only [addFl]) | (with_reducible apply zai; (focus ((conv => lhs; simp [List.getElem?_append_right, List.set_append_right, List.set_cons_zero, List.set_cons_succ, List.getElem?_cons_zero, List.getElem?_cons_succ, List.getElem?_append_left, List.getElem?_set_ne, List.getElem?_set_self, List.set_append_left, List.length_set, -getElem?_pos, ↓flall_nil', ↓flall_one, evtE, Nat.testBit_eq_decide_div_mod_eq, *]) <;> exact rfl)); simp only [addFl]) | ((with_reducible first | refine zaj ?_ | refine zal ?_ | refine zag ?_ | refine zae ?_ | refine zac ?_ | refine zak ?_ | refine zaf ?_ | refine zam ?_ | (apply zad; (focus (simp [zaa, *]; done))) | (with_reducible apply zab; (focus (simp [zaa, *]; done)))); try simp only [Then, Ops, OutB, reduceIte]) | simp only [Nat.reduceEqDiff, reduceIte, OutB, Then]))
      obtain ⟨htc, hbs, hus, hcs, hes, hls', hbbs, le, lb, l2, n1, n2, n3, k0, k1, tr, hvx, hn⟩ := HX.out
      have htr := Clm.truth_sale tr hvx rfl rfl (d := d) HT.out.1.1 (by have := HT.out.1.2; simp only; omega) (by have := HT.out.1.2; rw [hn]; omega)
      rw [hn] at htr
      refine .inl ⟨by first | rfl | trivial, (G.set b (.cells [.int .i64 (k + 1)])).set ql (.cells (ints (L.set q (n - d)))) ++ [.cells [.int .i64 0, .int .i64 q, .int .i64 slo, .int .i64 shi], .cells [.int .i64 slo, .int .i64 (min shi n)]], xs, L.set q (n - d), k + 1, b :: tcs, fun j hj => by simp only [List.mem_cons] at hj; rcases hj with h | h <;> first | exact h | exact htc j h, ⟨(hbs.set _ (by omega)).app _, (hus.set _ (by omega)).app _, (hcs.set _ (by omega)).app _, (hes.set _ (Ne.symm n2)).app _, (hbbs.set _ (Ne.symm n3)).app _, (hls'.here _).app _, le, lb, l2, n1, n2, n3, by omega, by omega, htr⟩, ?_⟩
      (refine st_is ?_ ?_ ?_ ?_; (focus (simp [zao, zar])); (focus rfl); (focus (first | rfl | (simp; done) | (simp [*]; done) | (simp; rfl) | (simp [*]; omega) | (simp; omega))); (focus (first | rfl | simp)))
end K
end Ev
end Go.Proofs.Ytimgnlellflciaa

/- ClampTrue, gone through: clamps whose counts are right. -/
namespace Go.Proofs.Ytimgnlellflciaa
open Go
namespace Ev
namespace K
attribute [local simp] ev1 wantG spineK spine float xnew xval xeff zaa zat zbf zay zaz addFl cellsOf pickC alive slLen slFt binI maxA maxK minA minK aeqK aeqS AV.cells spA zas fillA setAt bitsI nat_nn zbj AV.plain apart
set_option maxRecDepth 100000
set_option maxHeartbeats 4000000
def TrulyR (H : List AB) (c : Clm.Cl) (b : Nat) (v : AV) (hp : List AB) (tc : List Nat) : Prop := (∀ j ∈ tc, j = b) ∧
  ((∃ qe, v = .tup [.agg [.vs 6 (c.piles.map pileE), .int .i64 c.pack.lo, .int .i64 c.pack.hi, .sl qe 0 c.events.length 4], .nils, .nils, .bool false]) ∨
   ∃ (pk : Int) (qe qb ql : Nat) (xs : List Clm.Evt) (B L : List Int), c.pack.has pk ∧ Clm.Truth c pk xs B L c.events.length ∧ H.length ≤ qe ∧ H.length ≤ qb ∧ H.length ≤ ql ∧ hp[qe]? = some (.cells (evtCs xs)) ∧ hp[qb]? = some (.cells (ints B)) ∧ hp[ql]? = some (.cells (ints L)) ∧
     v = .tup [.agg [.vs 6 (c.piles.map pileE), .int .i64 c.pack.lo, .int .i64 c.pack.hi, .sl qe 0 c.events.length 4], .sl qb 0 c.piles.length 1, .sl ql 0 c.piles.length 1, .bool true])
theorem truly_fun (C : Cfg) (hC : C.calm = true) (call : CallF) (ns : List Int) (b u : Nat) (hD : DrawC call ns b u) (hsp : ∀ H a b, call (.fn (.func 20) [] []) [.int .i64 a, .int .i64 b] H = some (.ret (.agg [.int .i64 a, .int .i64 b]), H, [])) (c : Clm.Cl) (hc : Clm.Fine c) (H : List AB) (hbu : b ≠ u) (hB : H[b]? = some (.cells [.int .i64 0])) (hU : H[u]? = some (.cells [.vs 1 (ns.map (AV.int .u16))])) :
    Does (ev C call H.length none af23.body { tm := tmA af23.ntmps (zipI 0 [.agg (clampCs c), .fn (.func 68) [] [.ptr b 0, .ptr u 0]] []), df := [], hp := H, tc := [] })
      (Ends C H.length af23.res (TrulyR H c b)) := by
  obtain ⟨B1, B2, B3⟩ := hb hB
  obtain ⟨U1, U2, U3⟩ := hb hU
  have hpk := hc.pack
  have hp4 := hc.piles
  have he6 := hc.events
  have hd0 := drawV_in ns 0 (lo := c.pack.lo) (hi := c.pack.hi) (by omega)
  have hdr : ∀ K, call (.fn (.func 68) [] [.ptr b 0, .ptr u 0]) [.agg [.int .i64 c.pack.lo, .int .i64 c.pack.hi]] (H ++ K) = some (.ret (.int .i64 (drawV ns 0 c.pack.lo c.pack.hi)), H.set b (.cells [.int .i64 (0 + 1)]) ++ (K ++ [.cells [.int .i64 c.pack.lo, .int .i64 c.pack.hi]]), [b]) := fun K => by
    rw [hD (H ++ K) 0 _ _ (by rw [List.getElem?_append_left B2]; exact B1) (by rw [List.getElem?_append_left U2]; exact U1) (by omega) (by omega) (by omega) (by omega) (by omega), List.set_append_left _ _ B2, List.append_assoc]
  generalize drawV ns 0 c.pack.lo c.pack.hi = pk at *
  have g3 : ¬ (b = H.length) := by omega
  have g4 : ¬ (H.length = b) := by omega
  have g5 : ∀ n, ¬ (H.length + n = b) := fun n => by omega
  have g6 : ¬ (H.length < H.length) := by omega
  have HX := hideP (And.intro hc (And.intro hD (And.intro hsp (And.intro hd0 (And.intro hpk hp4)))))
  clear hD hsp hd0 hpk hc
  unfold af23
  simp only [zipI, clampCs] at *
  (repeat (first | ((with_reducible apply zai); (focus ((with_reducible apply ev1_spine); (focus rfl); (focus rfl); (focus ((conv => lhs; simp [List.getElem?_append_right, List.set_append_right, List.set_cons_zero, List.set_cons_succ, List.getElem?_cons_zero, List.getElem?_cons_succ, List.getElem?_append_left, List.getElem?_set_ne, List.getElem?_set_self, List.set_append_left, List.length_set, -getElem?_pos, ↓flall_nil', ↓flall_one, Nat.testBit_eq_decide_div_mod_eq, *]) <;> exact rfl)); (focus rfl); (focus rfl))); simp only [addFl]) | (with_reducible apply zai; (focus ((conv => lhs; simp [List.getElem?_append_right, List.set_append_right, List.set_cons_zero, List.set_cons_succ, List.getElem?_cons_zero, List.getElem?_cons_succ, List.getElem?_append_left, List.getElem?_set_ne, List.getElem?_set_self, List.set_append_left, List.length_set, -getElem?_pos, ↓flall_nil', ↓flall_one, Nat.testBit_eq_decide_div_mod_eq, *]) <;> exact rfl)); simp only [addFl]) | ((with_reducible first | refine zaj ?_ | refine zal ?_ | refine zag ?_ | refine zae ?_ | refine zac ?_ | refine zak ?_ | refine zaf ?_ | refine zam ?_ | (apply zad; (focus (simp [zaa, *]; done))) | (with_reducible apply zab; (focus (simp [zaa, *]; done)))); try simp only [Then, Ops, OutB, reduceIte]) | simp only [Nat.reduceEqDiff, reduceIte, OutB, Then]))
  have hc1 : HB (H.set b (.cells [.int .i64 (0 + 1)]) ++ [.cells [.vs 6 (c.piles.map pileE), .int .i64 c.pack.lo, .int .i64 c.pack.hi, .vs 4 (c.events.map evtE)], .cells [.nils, .int .i64 0, .int .i64 0, .nils], .cells [.int .i64 c.pack.lo, .int .i64 c.pack.hi]]) (H.length + 1) (.cells [.nils, .int .i64 0, .int .i64 0, .nils]) := hb (by rw [List.getElem?_append_right (by simp)]; simp)
  with_reducible refine zbe hC c.piles.length (by unfold fuelL; omega) (fun i st => ∃ (G : List AB) (Bs : List Int) (k : Int) (lv bv : AV) (tcs : List Nat), (∀ j ∈ tcs, j = b) ∧ T1 H c ns b u pk G i Bs k ∧ Two (H.length + 2) G Bs bv lv ∧ st = ({ tm := tmA 129 [(22, .int .i64 i), (21, .int .i64 c.piles.length), (20, .vs 6 (c.piles.map pileE)), (8, .int .i64 pk), (6, lv), (5, bv), (4, .ptr (H.length + 1) 0), (2, .ptr H.length 0), (1, .fn (.func 68) [] [.ptr b 0, .ptr u 0])], df := [], hp := G, tc := tcs } : St)) ?_ ?_ ?_
  · refine ⟨_, [], 0 + 1, .nils, .nils, [b], by simp, ⟨((hb hB).here _).app _, ((hb hU).set _ hbu).app _, hb (by rw [List.getElem?_append_right (by simp)]; simp; rfl), hc1, by omega, by omega, rfl, fun p hp => absurd hp (by omega)⟩, .none rfl, ?_⟩
    (refine st_is ?_ ?_ ?_ ?_; (focus (simp [zao, zar])); (focus rfl); (focus (first | rfl | (simp; done) | (simp [*]; done) | (simp; rfl) | (simp [*]; omega) | (simp; omega))); (focus (first | rfl | simp)))
  · rintro i st hi ⟨G, Bs, k, lv, bv, tcs, htc, hI, hT, rfl⟩
    obtain ⟨hc, hD, hsp, hd0, hpk, _⟩ := HX.out
    refine (truly_round1 C call ns b u hD c hc pk (by omega) H hbu B2 U2 i hi G Bs k lv bv tcs htc hI hT).mono ?_
    rintro e st ⟨rfl, h⟩
    exact h
  · rintro st ⟨G0, Bs, k, lv, bv, tcs, htc, hI, hT, rfl⟩
    obtain ⟨hc, hD, hsp, hd0, hpk, _⟩ := HX.out
    obtain ⟨hb', hu', hc0', hc1', k0, k1, lb, hsz⟩ := hI
    cases hT with
    | none h0 => rw [h0] at lb; simp at lb; omega
    | some q1 q2 l1 l2 ne h1 h2 =>
    have hHG := hc1'.lt
    have i1 : (⟨(b : Nat), B2⟩ : {x : Nat // x < H.length}).1 < H.length := B2
    -- what is ahead of the second loop
    have hI2 : T2 H c ns b u pk (G0.length + 1) q1 q2 (G0.set (H.length + 1) (.cells [.vs 6 (c.piles.map pileE), .int .i64 c.pack.lo, .int .i64 c.pack.hi, .sl (G0.length + 1) 0 c.events.length 4]) ++ [.dead, .cells (evtCs c.events)]) 0 c.events Bs Bs k :=
      ⟨(hb'.set _ (by omega)).app _, (hu'.set _ (by omega)).app _, (hc1'.here _).app _, hb (by rw [List.getElem?_append_right (by simp)]; simp), (h1.set _ (by omega)).app _, (h2.set _ (by omega)).app _, by omega, l1, l2, by have := h1.lt; omega, by have := h2.lt; omega, ne, k0, by omega, Clm.truth_zero hc hd0 lb (fun p hp => hsz p hp)⟩
    obtain ⟨C1, C2, C3⟩ := hc0'
    obtain ⟨D1, D2, D3⟩ := hc1'
    have g1 : ¬ (G0.length < H.length) := by omega
    have g2 : ∀ n, ¬ (G0.length + n < H.length) := fun n => by omega
    have g7 : H.length ≠ H.length + 1 := by omega
    have g8 : ¬ (H.length + 1 < H.length) := by omega
    have g9 : ¬ (G0.length = H.length) := by omega
    have g10 : ¬ (G0.length = H.length + 1) := by omega
    have g11 : ¬ (H.length + 1 = G0.length) := by omega
    have hs : ∀ H, slCells 4 H (.vs 4 (c.events.map evtE)) = some (evtCs c.events) := fun H => zwn H c.events
    have hbd : c.events.length ≤ bound := by unfold bound; omega
    have HY := hideP (And.intro hI2 (And.intro htc (And.intro h1 (And.intro h2 lb))))
    clear hI2 h1 h2 hb' hu' hsz k0 k1 l1 l2 ne htc hdr i1
    rw [lb]
    clear lb
    simp only [clampCs] at *
    (repeat (first | ((with_reducible apply zai); (focus ((with_reducible apply ev1_spine); (focus rfl); (focus rfl); (focus ((conv => lhs; simp [List.getElem?_append_right, List.set_append_right, List.set_cons_zero, List.set_cons_succ, List.getElem?_cons_zero, List.getElem?_cons_succ, List.getElem?_append_left, List.getElem?_set_ne, List.getElem?_set_self, List.set_append_left, List.length_set, -getElem?_pos, ↓flall_nil', zna, zia, Nat.testBit_eq_decide_div_mod_eq, *]) <;> exact rfl)); (focus rfl); (focus rfl))); simp only [addFl]) | (with_reducible apply zai; (focus ((conv => lhs; simp [List.getElem?_append_right, List.set_append_right, List.set_cons_zero, List.set_cons_succ, List.getElem?_cons_zero, List.getElem?_cons_succ, List.getElem?_append_left, List.getElem?_set_ne, List.getElem?_set_self, List.set_append_left, List.length_set, -getElem?_pos, ↓flall_nil', zna, zia, Nat.testBit_eq_decide_div_mod_eq, *]) <;> exact rfl)); simp only [addFl]) | ((with_reducible first | refine zaj ?_ | refine zal ?_ | refine zag ?_ | refine zae ?_ | refine zac ?_ | refine zak ?_ | refine zaf ?_ | refine zam ?_ | (apply zad; (focus (simp [zaa, *]; done))) | (with_reducible apply zab; (focus (simp [zaa, *]; done)))); try simp only [Then, Ops, OutB, reduceIte]) | simp only [Nat.reduceEqDiff, reduceIte, OutB, Then]))
    with_reducible refine zbe hC c.events.length (by unfold fuelL; omega) (fun i st => ∃ (G : List AB) (xs : List Clm.Evt) (L : List Int) (k : Int) (tcs : List Nat), (∀ j ∈ tcs, j = b) ∧ T2 H c ns b u pk (G0.length + 1) q1 q2 G i xs Bs L k ∧ st = trSt H c b u q1 q2 i G tcs) ?_ ?_ ?_
    · obtain ⟨hI2, htc, _⟩ := HY.out
      refine ⟨_, c.events, Bs, k, tcs, htc, hI2, ?_⟩
      unfold trSt
      (refine st_is ?_ ?_ ?_ ?_; (focus (simp [zao, zar])); (focus rfl); (focus (first | rfl | (simp; done) | (simp [*]; done) | (simp; rfl) | (simp [*]; omega) | (simp; omega))); (focus (first | rfl | simp)))
    · rintro i st hi ⟨G, xs, L, k, tcs, htc, hI, rfl⟩
      refine (truly_round2 C call ns b u hD hsp c hc pk H hbu B2 U2 _ q1 q2 i hi G xs Bs L k tcs htc hI).mono ?_
      rintro e st (⟨rfl, h⟩ | ⟨rfl, h1, h2, h3, qe, h6⟩)
      · exact h
      · exact ⟨.inl rfl, st, by rw [h1]; rfl, h2, _, h6, h3, .inl ⟨qe, rfl⟩⟩
    · rintro st ⟨G, xs, L, k, tcs, htc, hI, rfl⟩
      obtain ⟨_, _, hc1, hE, hBB, hL, le, lb, l2, n1, n2, n3, _, _, tr⟩ := hI
      have hgl := hc1.lt
      obtain ⟨D1, D2, D3⟩ := hc1
      have HZ := hideP (And.intro htc (And.intro hE (And.intro hBB (And.intro hL (And.intro le (And.intro lb (And.intro l2 tr)))))))
      clear htc hE hBB hL le lb l2 tr n1 n2 n3 HY
      unfold trSt
      (repeat (first | ((with_reducible apply zai); (focus ((with_reducible apply ev1_spine); (focus rfl); (focus rfl); (focus ((conv => lhs; simp [List.getElem?_append_right, List.set_append_right, List.set_cons_zero, List.set_cons_succ, List.getElem?_cons_zero, List.getElem?_cons_succ, List.getElem?_append_left, List.getElem?_set_ne, List.getElem?_set_self, List.set_append_left, List.length_set, -getElem?_pos, ↓flall_nil', Nat.testBit_eq_decide_div_mod_eq, *]) <;> exact rfl)); (focus rfl); (focus rfl))); simp only [addFl]) | (with_reducible apply zai; (focus ((conv => lhs; simp [List.getElem?_append_right, List.set_append_right, List.set_cons_zero, List.set_cons_succ, List.getElem?_cons_zero, List.getElem?_cons_succ, List.getElem?_append_left, List.getElem?_set_ne, List.getElem?_set_self, List.set_append_left, List.length_set, -getElem?_pos, ↓flall_nil', Nat.testBit_eq_decide_div_mod_eq, *]) <;> exact rfl)); simp only [addFl]) | ((with_reducible first | refine zaj ?_ | refine zal ?_ | refine zag ?_ | refine zae ?_ | refine zac ?_ | refine zak ?_ | refine zaf ?_ | refine zam ?_ | (apply zad; (focus (simp [zaa, *]; done))) | (with_reducible apply zab; (focus (simp [zaa, *]; done)))); try simp only [Then, Ops, OutB, reduceIte]) | simp only [Nat.reduceEqDiff, reduceIte, OutB, Then]))
      obtain ⟨htc, hE, hBB, hL, le, lb, l2, tr⟩ := HZ.out
      refine zan (.inl rfl) rfl (by simp only [List.length_set]; omega) (by simp only [resL, resOf, zah]; simp [List.getElem?_set_self, List.length_set, D2, pickC, resV]) ⟨htc, .inr ⟨pk, _, q1, q2, xs, Bs, L, hd0, tr, by omega, by omega, by omega, (hE.set _ (by omega)).get, (hBB.set _ (by omega)).get, (hL.set _ (by omega)).get, rfl⟩⟩
def TrulyC (call : CallF) (c : Clm.Cl) (ns : List Int) : Prop := ∀ (H : List AB) (b u : Nat), b ≠ u → H[b]? = some (.cells [.int .i64 0]) → H[u]? = some (.cells [.vs 1 (ns.map (AV.int .u16))]) →
  ∃ v G tc, call (.fn (.func 23) [] []) [.agg (clampCs c), .fn (.func 68) [] [.ptr b 0, .ptr u 0]] H = some (.ret v, G, tc) ∧ TrulyR H c b v G tc ∧ Kp [b] H G
theorem truly_call {C : Cfg} {n : Nat} (hC : C.calm = true) (h0 : Has C 23 af23) {ns : List Int} (hD : ∀ b u, DrawC (Ev.call C n) ns b u) (hsp : ∀ H a b, Ev.call C n (.fn (.func 20) [] []) [.int .i64 a, .int .i64 b] H = some (.ret (.agg [.int .i64 a, .int .i64 b]), H, [])) {c : Clm.Cl} (hc : Clm.Fine c) : TrulyC (Ev.call C (n + 1)) c ns := by
  intro H b u hbu hb hu
  obtain ⟨v, hp, tc, G, c1, ⟨h1, h2⟩, c3, c4, c5⟩ := zcl (first := []) (captured := []) (args := [.agg (clampCs c), .fn (.func 68) [] [.ptr b 0, .ptr u 0]]) (H := H) hC h0.ext h0.exth h0.fns h0.whole (le' rfl) (truly_fun C hC _ ns b u (hD b u) hsp c hc H hbu hb hu)
  refine ⟨v, G, tc, c1, ⟨h1, ?_⟩, c3.kp.mono fun j _ hj => by simp [h1 j hj]⟩
  rcases h2 with ⟨qe, h⟩ | ⟨pk, qe, qb, ql, xs, B, L, k1, k2, k3, k4, k5, k6, k7, k8, rfl⟩
  · exact .inl ⟨qe, h⟩
  · obtain ⟨_, c6⟩ := c4 (.inl (by simp [refs, refsL]))
    exact .inr ⟨pk, qe, qb, ql, xs, B, L, k1, k2, k3, k4, k5, (c6 qe k3).trans k6, (c6 qb k4).trans k7, (c6 ql k5).trans k8, rfl⟩
theorem draw_call {C : Cfg} {n : Nat} (hC : C.calm = true) (h0 : Has C 68 af68) (ns : List Int) (hns : ∀ n ∈ ns, 0 ≤ n ∧ n ≤ 65535) (b u : Nat) : DrawC (Ev.call C (n + 1)) ns b u := by
  intro H k lo hi hb hu k0 k1 l0 l1 l2
  obtain ⟨v, hp, tc, G, c1, ⟨rfl, h2, rfl⟩, c3, c4, _⟩ := zcl (first := []) (captured := [.ptr b 0, .ptr u 0]) (args := [.agg [.int .i64 lo, .int .i64 hi]]) (H := H) hC h0.ext h0.exth h0.fns h0.whole (le' rfl) (draw_fun C _ ns hns b u H k lo hi hb hu k0 k1 l0 l1 l2)
  rw [c1]
  obtain ⟨e1, e2⟩ := c4 (.inr (by simp))
  have : G = hp := by
    apply List.ext_getElem?
    intro j
    by_cases hj : j < H.length
    · by_cases hjb : j = b
      · exact c3.got j hj (by simp [hjb])
      · rw [c3.old j hj (by simp [hjb]), h2, List.getElem?_append_left (by simpa using hj), List.getElem?_set_ne (Ne.symm hjb)]
    · exact e2 j (by omega)
  rw [this, h2]
theorem draws_fun (C : Cfg) (call : CallF) (ns : List Int) (H : List AB) : Does (ev C call H.length none af24.body { tm := tmA af24.ntmps (zipI 0 [.vs 1 (ns.map (AV.int .u16))] []), df := [], hp := H, tc := [] })
    (Ends C H.length af24.res fun v hp tc => v = .fn (.func 68) [] [.ptr (H.length + 1) 0, .ptr H.length 0] ∧ hp = H ++ [.cells [.vs 1 (ns.map (AV.int .u16))], .cells [.int .i64 0]] ∧ tc = []) := by
  unfold af24
  simp only [zipI]
  (repeat (first | (with_reducible apply zai; (focus ((conv => lhs; simp [Nat.testBit_eq_decide_div_mod_eq, *]) <;> exact rfl)); simp only [addFl]) | ((with_reducible first | refine zaj ?_ | refine zal ?_ | refine zag ?_ | refine zae ?_ | refine zac ?_ | refine zak ?_ | refine zaf ?_ | refine zam ?_ | (apply zad; (focus (simp [zaa, *]; done))) | (with_reducible apply zab; (focus (simp [zaa, *]; done)))); try simp only [Then, Ops, OutB, reduceIte]) | simp only [Nat.reduceEqDiff, reduceIte, OutB, Then]))
  exact zan (.inl rfl) rfl (by simp) (by simp only [resL, resOf, zah]; simp [pickC, resV, spA, *]) ⟨rfl, by simp, rfl⟩
end K
end Ev
end Go.Proofs.Ytimgnlellflciaa

/- Sizes of sets, one bit at a time. -/
namespace Go.Proofs.Ytimgnlellflciaa
namespace Clm
end Clm
end Go.Proofs.Ytimgnlellflciaa

/- The code of functions of the laws, for the evaluator. Printed by program. -/
namespace Go.Proofs.Ytimgnlellflciaa
open Go
namespace Ev
end Ev
end Go.Proofs.Ytimgnlellflciaa

/- Chapter 09, gone through: the reference's size of a set, and bits as the laws ask for them. -/
namespace Go.Proofs.Ytimgnlellflciaa
open Go
namespace Ev
namespace K
set_option maxRecDepth 100000
set_option maxHeartbeats 4000000
theorem fdiv_pow (n d : Nat) : ((n : Int).fdiv (2 ^ d)) = ((n / 2 ^ d : Nat) : Int) := by
  rw [Int.fdiv_eq_ediv_of_nonneg _ (by exact Int.le_of_lt (Int.pow_pos (by decide)))]
  have : ((2 : Int) ^ d) = ((2 ^ d : Nat) : Int) := by simp
  rw [this]; rfl
theorem bit_i64 {n d : Nat} (hd : d ≤ 64) : IntKind.i64.wrap ((BitVec.ofInt IntKind.i64.bits ((n : Int).fdiv (2 ^ (min ((d : Int).toNat) IntKind.i64.bits))) &&& BitVec.ofInt IntKind.i64.bits 1).toNat) = if n.testBit d then 1 else 0 := by
  have hb : IntKind.i64.bits = 64 := rfl
  rw [show min ((d : Int).toNat) IntKind.i64.bits = d by rw [hb]; omega, fdiv_pow, hb]
  have h1 : (BitVec.ofInt 64 ((n / 2 ^ d : Nat) : Int)).toNat = (n / 2 ^ d) % 2 ^ 64 := by
    rw [BitVec.toNat_ofInt]; omega
  have h2 : (BitVec.ofInt 64 1).toNat = 1 := by decide
  rw [BitVec.toNat_and, h1, h2, Nat.and_one_is_mod, Nat.testBit_eq_decide_div_mod_eq]
  generalize n / 2 ^ d = q at *
  have h3 : q % 2 ^ 64 % 2 = q % 2 := by omega
  rw [h3, zav (by omega) (by omega)]
  by_cases hm : q % 2 = 1
  · simp [hm]
  · simp [hm]; omega
theorem andnot_i : ∀ s, s < 64 → ∀ a, a < 64 → (IntKind.i64.wrap ((BitVec.ofInt IntKind.i64.bits ((s : Nat) : Int) &&& ~~~ BitVec.ofInt IntKind.i64.bits ((a : Nat) : Int)).toNat) != 0) = (s &&& a != s) := by decide +kernel
end K
end Ev
end Go.Proofs.Ytimgnlellflciaa

/- ClampTrue, gone through: its facts. -/
namespace Go.Proofs.Ytimgnlellflciaa
open Go
namespace Ev
namespace K
open Clm (setOf zcg zks)
set_option maxRecDepth 100000
set_option maxHeartbeats 4000000
structure TrFacts (call : CallF) (X : Clm.Cl) (B L : List Int) (sods : Int) (G : List AB) (xv : AV) : Prop where
  clash : ∀ K, call (.fn (.func 16) [] []) [xv] (G ++ K) = some (.ret (.tup [.int .i64 0, .int .i64 4]), G ++ K, [])
  all : ∃ lo hi : Int, (∀ K, call (.fn (.func 25) [] []) [xv] (G ++ K) = some (.ret (.tup [.agg [.int .i64 lo, .int .i64 hi], .int .i64 0]), G ++ K, [])) ∧ lo ≤ Clm.sumF (fullP X) (fun j => L.getD j 0) X.piles.length ∧ Clm.sumF (fullP X) (fun j => L.getD j 0) X.piles.length ≤ hi
  empty : ∃ S P : Nat, (∀ K, call (.fn (.func 26) [] []) [xv] (G ++ K) = some (.ret (.tup [.int .i64 S, .int .i64 P, .int .i64 0]), G ++ K, [])) ∧ S < 16 ∧ P < 2 ^ X.piles.length ∧ S &&& P = S ∧ ∀ p, p < X.piles.length → (L.getD p 0 = 0 → P.testBit p = true) ∧ (0 < L.getD p 0 → S.testBit p = false)
  share : ∃ (S : Nat) (h : Int), (∀ K, call (.fn (.func 15) [] []) [xv, .int .i64 sods] (G ++ K) = some (.ret (.tup [.int .i64 S, .int .i64 h]), G ++ K, [])) ∧ S < 2 ^ X.piles.length ∧ (h = 4 ∨ (h = 0 ∧ sods ≤ Clm.sumF S (fun j => L.getD j 0) X.piles.length))
  built : ∀ p, p < X.piles.length → ∃ lo hi : Int, (∀ K, call (.fn (.func 10) [] []) [xv, .int .i64 p] (G ++ K) = some (.ret (.tup [.agg [.int .i64 lo, .int .i64 hi], .int .i64 0]), G ++ K, [])) ∧ decide (lo ≤ B.getD p 0 ∧ B.getD p 0 ≤ hi) = true
  has : ∀ p, p < X.piles.length → ∃ lo hi : Int, (∀ K, call (.fn (.func 12) [] []) [xv, .int .i64 p] (G ++ K) = some (.ret (.tup [.agg [.int .i64 lo, .int .i64 hi], .int .i64 0]), G ++ K, [])) ∧ decide (lo ≤ L.getD p 0 ∧ L.getD p 0 ≤ hi) = true
  sold : ∀ p, p < X.piles.length → ∃ lo hi : Int, (∀ K, call (.fn (.func 13) [] []) [xv, .int .i64 p] (G ++ K) = some (.ret (.tup [.agg [.int .i64 lo, .int .i64 hi], .int .i64 0]), G ++ K, [])) ∧ decide (lo ≤ B.getD p 0 - L.getD p 0 ∧ B.getD p 0 - L.getD p 0 ≤ hi) = true
  enough : ∀ p, p < X.piles.length → ∀ m : Int, 0 ≤ m → m ≤ 20000 → ∃ n : Int, (∀ K, call (.fn (.func 14) [] []) [xv, .int .i64 p, .int .i64 m] (G ++ K) = some (.ret (.tup [.int .i64 n, .int .i64 0]), G ++ K, [])) ∧ ((n = 2 ∧ m ≤ L.getD p 0) ∨ (n = 0 ∧ L.getD p 0 < m) ∨ n = 1)
theorem tr_facts {call : CallF} (hA : LApi call) {X : Clm.Cl} (hX : Clm.Fine X) {B L : List Int} (hL : ∀ p, p < X.piles.length → 0 ≤ L.getD p 0) (h : Clm.TrueLaw X B L) {sods : Int} (h0 : 0 ≤ sods) (h2 : sods ≤ 20000) {G : List AB} {xv : AV} (hcl : ∀ K, clOf (G ++ K) xv = some X) : TrFacts call X B L sods G xv := by
  have hval := (Clm.valid_iff _).2 hX
  have he : errOf X true = 0 := by unfold errOf; rw [hval, h.can]; rfl
  have hp4 := hX.piles
  have hP : ∀ p : Nat, p < X.piles.length → isP X (p : Int) = true := fun p hp => decide_eq_true ⟨by omega, by omega⟩
  have hS : ∀ m : Int, 0 ≤ m → m ≤ 20000 → isS m = true := fun m a b => decide_eq_true ⟨a, b⟩
  have hpw : 2 ^ X.piles.length ≤ 2 ^ 4 := Nat.pow_le_pow_right (by decide) hp4.2
  refine ⟨fun K => ?_, ?_, ?_, ?_, fun p hp => ?_, fun p hp => ?_, fun p hp => ?_, fun p hp m m0 m1 => ?_⟩
  · rw [hA.clash (hcl K)]; unfold clashR clashV clashE; rw [hval, h.can]; rfl
  · have hs := h.sum (fullP X)
    exact ⟨_, _, fun K => by rw [hA.all (hcl K)]; unfold spanR; rw [he]; rfl, hs.1, hs.2⟩
  · refine ⟨emptyS X, emptyP X, fun K => by rw [hA.empty (hcl K)]; unfold emptyR; rw [he]; rfl, ?_, zcg _ _, ?_, fun p hp => ?_⟩
    · have := zcg (fun i => decide ((Clm.together X (2 ^ i)).hi = 0)) X.piles.length
      unfold emptyS; omega
    · apply Nat.eq_of_testBit_eq
      intro i
      rw [Nat.testBit_and]
      unfold emptyS emptyP
      rw [zks, zks]
      by_cases hi : i < X.piles.length
      · rw [decide_eq_true hi, Bool.true_and, Bool.true_and, Clm.tog_one X hi]
        have hh := h.has i hi
        simp only [Clm.Sp.has] at hh
        have := hL i hi
        have hle := (Clm.has_hull hX h.can hi).le
        have hnn := (Clm.ends_law hX h.can hi).nn
        by_cases hz : (Clm.hasC X i).hi = 0
        · rw [decide_eq_true hz, decide_eq_true (show (Clm.hasC X i).lo = 0 by omega)]; rfl
        · rw [decide_eq_false hz]; rfl
      · rw [decide_eq_false hi]; rfl
    · have hh := h.has p hp
      simp only [Clm.Sp.has] at hh
      have hnn := (Clm.ends_law hX h.can hp).nn
      unfold emptyS emptyP
      rw [zks, zks, decide_eq_true hp, Bool.true_and, Bool.true_and, Clm.tog_one X hp]
      exact ⟨fun hz => decide_eq_true (by omega), fun hz => decide_eq_false (by omega)⟩
  · have ez : errOf X (isS sods) = 0 := by rw [hS sods h0 h2]; exact he
    cases hF : shareF X sods with
    | none => exact ⟨0, 4, fun K => by rw [hA.share (hcl K)]; unfold shareR shareV shareE; rw [ez, hF]; rfl, Nat.two_pow_pos _, .inl rfl⟩
    | some S =>
      have hl := Clm.zyg (by omega) hF
      have := of_decide_eq_true hl.is
      exact ⟨S, 0, fun K => by rw [hA.share (hcl K)]; unfold shareR shareV shareE; rw [ez, hF]; rfl, hl.lt, .inr ⟨rfl, by have := (h.sum S).1; omega⟩⟩
  · exact ⟨_, _, fun K => by rw [hA.built (hcl K)]; unfold spanR; rw [hP p hp, he]; rfl, decide_eq_true (h.built p hp)⟩
  · exact ⟨_, _, fun K => by rw [hA.has (hcl K)]; unfold spanR; rw [hP p hp, he]; rfl, decide_eq_true (h.has p hp)⟩
  · exact ⟨_, _, fun K => by rw [hA.sold (hcl K)]; unfold spanR; rw [hP p hp, he]; rfl, decide_eq_true (h.sold p hp)⟩
  · have hh := h.has p hp
    simp only [Clm.Sp.has] at hh
    refine ⟨enoughN (Clm.hasC X p) m, fun K => by rw [hA.enough (hcl K)]; unfold numR; rw [hP p hp, hS m m0 m1, Bool.and_true, he, Int.toNat_natCast, Clm.tog_one X hp]; rfl, ?_⟩
    unfold enoughN
    by_cases g : (Clm.hasC X p).lo ≥ m
    · rw [if_pos g]; exact .inl ⟨rfl, by omega⟩
    · rw [if_neg g]
      by_cases g2 : (Clm.hasC X p).hi < m
      · rw [if_pos g2]; exact .inr (.inl ⟨rfl, by omega⟩)
      · rw [if_neg g2]; exact .inr (.inr rfl)
end K
end Ev
end Go.Proofs.Ytimgnlellflciaa

/- ClampTrue, gone through: a round of its loop. -/
namespace Go.Proofs.Ytimgnlellflciaa
open Go
namespace Ev
namespace K
attribute [local simp] ev1 wantG spineK spine float xnew xval xeff zaa zat zbf zay zaz addFl cellsOf pickC alive slLen slFt binI maxA maxK minA minK aeqK aeqS AV.cells spA zas fillA setAt bitsI nat_nn zbj AV.plain apart
set_option maxRecDepth 100000
set_option maxHeartbeats 4000000
def teSt (H : List AB) (a14 p : Nat) (qb ql : Nat) (sods h sum some : Int) (eS eP S : Nat) (i : Nat) (G : List AB) : St := { tm := tmA 279 [(123, .int .i64 i), (122, .int .i64 p), (121, .sl qb 0 p 1), (22, .int .i64 some), (21, .int .i64 sum), (20, .int .i64 h), (19, .int .i64 S), (17, .int .i64 eP), (16, .int .i64 eS), (14, .ptr a14 0), (11, .int .i64 sods), (9, .sl ql 0 p 1), (7, .ptr (H.length + 1) 0)], df := [], hp := G, tc := [] }
theorem ltrue_round (C : Cfg) (call : CallF) (hI : InsideC call) (X : Clm.Cl) (hp4 : X.piles.length ≤ 4) (B L : List Int) (sods h : Int) (G K : List AB) (cs : List AV) (hF : TrFacts call X B L sods G (.agg cs)) (hs0 : 0 ≤ sods) (hs2 : sods ≤ 20000) (H : List AB) (a14 qb ql : Nat) (hc4 : cs.length = 4) (h7 : HB G (H.length + 1) (.cells cs)) (hb : HB G qb (.cells (ints B))) (hl : HB G ql (.cells (ints L))) (lb : B.length = X.piles.length) (ll : L.length = X.piles.length)
    (hn : ∀ p, p < X.piles.length → 0 ≤ L.getD p 0 ∧ L.getD p 0 ≤ B.getD p 0 ∧ B.getD p 0 ≤ 5000) (eS eP S : Nat) (heS : ∀ p, p < X.piles.length → (L.getD p 0 = 0 → eP.testBit p = true) ∧ (0 < L.getD p 0 → eS.testBit p = false)) (i : Nat) (hi : i < X.piles.length) (sum some : Int) (hsum : 0 ≤ sum ∧ sum ≤ 100000) (hsome : 0 ≤ some ∧ some ≤ 100000) :
    Does (ev C call H.length none (atP [1, 1, 1, 1, 1, 1, 1, 1, 1, 1, 1, 0, 1, 0, 0] af4.body) (teSt H a14 X.piles.length qb ql sods h sum some eS eP S i (G ++ K)))
      (fun e st => e = .normal ∧ ∃ K, { st with tm := keepT [7, 9, 11, 14, 16, 17, 19, 20, 21, 22, 121, 122, 123] st.tm } = teSt H a14 X.piles.length qb ql sods h (sum + L.getD i 0) (if S.testBit i then some + L.getD i 0 else some) eS eP S (i + 1) (G ++ K)) := by
  obtain ⟨blo, bhi, c1, z1⟩ := hF.built i hi
  obtain ⟨hlo, hhi, c2, z2⟩ := hF.has i hi
  obtain ⟨slo, shi, c3, z3⟩ := hF.sold i hi
  obtain ⟨n0, n1, n2⟩ := hn i hi
  have hm0 := Int.emod_nonneg sods (show B.getD i 0 + 2 ≠ 0 by omega)
  have hm1 := Int.emod_lt_of_pos sods (show 0 < B.getD i 0 + 2 by omega)
  obtain ⟨en, c4, hen⟩ := hF.enough i hi (sods % (B.getD i 0 + 2)) hm0 (by omega)
  have hB := ints_get B i (by omega)
  have hL := ints_get L i (by omega)
  obtain ⟨e1, e2⟩ := heS i hi
  have i1 := fun H => hI H (B.getD i 0) blo bhi
  have i2 := fun H => hI H (L.getD i 0) hlo hhi
  have i3 := fun H => hI H (B.getD i 0 - L.getD i 0) slo shi
  rw [z1] at i1
  rw [z2] at i2
  rw [z3] at i3
  have hB' := ge_of hB
  have hL' := ge_of hL
  have t1 : sods.tmod (B.getD i 0 + 2) = sods % (B.getD i 0 + 2) := Int.tmod_eq_emod_of_nonneg hs0
  have w1 : IntKind.i64.wrap (B.getD i 0 + 2) = B.getD i 0 + 2 := zav (by omega) (by omega)
  have w2 : IntKind.i64.wrap (B.getD i 0 - L.getD i 0) = B.getD i 0 - L.getD i 0 := zav (by omega) (by omega)
  have w3 : IntKind.i64.wrap (sum + L.getD i 0) = sum + L.getD i 0 := zav (by omega) (by omega)
  have w4 : IntKind.i64.wrap (some + L.getD i 0) = some + L.getD i 0 := zav (by omega) (by omega)
  have nz : ¬ (B.getD i 0 + 2 = 0) := by omega
  have hwi : IntKind.i64.wrap (↑i + 1) = ↑i + 1 := zav (by omega) (by omega)
  have e5 : (i : Int) < X.piles.length := by omega
  have b1 := bit_i64 (n := eP) (d := i) (by omega)
  have b2 := bit_i64 (n := eS) (d := i) (by omega)
  have b3 := bit_i64 (n := S) (d := i) (by omega)
  obtain ⟨A1, A2, A3⟩ := h7
  obtain ⟨D1, D2, D3⟩ := hb
  obtain ⟨E1, E2, E3⟩ := hl
  have gl : ∀ K, ¬ ((G ++ K).length < (G ++ K).length) := fun K => by omega
  obtain ⟨x0, x1, x2, x3, rfl⟩ : ∃ a b c d, cs = [a, b, c, d] := by
    match cs, hc4 with | [a, b, c, d], _ => exact ⟨a, b, c, d, rfl⟩
  clear z1 z2 z3 hm0 hm1 hI hF hn heS lb ll hs0 hs2 n1 n2 hsum hsome hp4 hc4
  generalize sods % (B.getD i 0 + 2) = m at *
  generalize B.getD i 0 = bi at *
  generalize L.getD i 0 = li at *
  have glH : ∀ n, ¬ (G.length + n < H.length) := fun n => by have := A2; omega
  have glH0 : ¬ (G.length < H.length) := by have := A2; omega
  obtain ⟨bv, hbv, hcase⟩ : ∃ bv : Int, (if S.testBit i = true then (1 : Int) else 0) = bv ∧ ((S.testBit i = true ∧ bv = 1) ∨ (S.testBit i = false ∧ bv = 0)) := by
    cases S.testBit i
    · exact ⟨0, rfl, .inr ⟨rfl, rfl⟩⟩
    · exact ⟨1, rfl, .inl ⟨rfl, rfl⟩⟩
  rw [hbv] at b3
  have HC := hideP hcase
  clear hbv hcase
  generalize hSb : S.testBit i = sb at *
  clear hSb
  simp at b3
  unfold af4 teSt
  simp only [atP]
  have hz3 : (li = 0 ∧ IntKind.i64.wrap ((BitVec.ofInt IntKind.i64.bits ((eP : Int).fdiv (2 ^ (min ((i : Int).toNat) IntKind.i64.bits))) &&& BitVec.ofInt IntKind.i64.bits 1).toNat) = 1) ∨ (0 < li ∧ ¬ (li = 0) ∧ IntKind.i64.wrap ((BitVec.ofInt IntKind.i64.bits ((eS : Int).fdiv (2 ^ (min ((i : Int).toNat) IntKind.i64.bits))) &&& BitVec.ofInt IntKind.i64.bits 1).toNat) = 0) := by
    by_cases hz : li = 0
    · exact .inl ⟨hz, by rw [b1, e1 hz]; rfl⟩
    · exact .inr ⟨by omega, hz, by rw [b2, e2 (by omega)]; rfl⟩
  clear e1 e2 b1 b2
  rcases hz3 with ⟨rfl, b1⟩ | ⟨e0, hz, b1⟩
  all_goals
    try simp only [Int.sub_zero, Int.add_zero] at *
    try have hz' : (li == 0) = false := beq_false_of_ne hz
    simp at b1
    rcases hen with ⟨rfl, hm⟩ | ⟨rfl, hm⟩ | rfl
  all_goals
    try have hm' := Int.not_le.2 hm
    (repeat (first | ((with_reducible apply zai); (focus ((with_reducible apply ev1_spine); (focus rfl); (focus rfl); (focus ((conv => lhs; simp [List.getElem?_append_right, List.set_append_right, List.set_cons_zero, List.set_cons_succ, List.getElem?_cons_zero, List.getElem?_cons_succ, List.getElem?_append_left, List.getElem?_set_ne, List.getElem?_set_self, List.set_append_left, List.length_set, -getElem?_pos, ↓flall_nil', Nat.testBit_eq_decide_div_mod_eq, *]) <;> exact rfl)); (focus rfl); (focus rfl))); simp only [addFl]) | (with_reducible apply zai; (focus ((conv => lhs; simp [List.getElem?_append_right, List.set_append_right, List.set_cons_zero, List.set_cons_succ, List.getElem?_cons_zero, List.getElem?_cons_succ, List.getElem?_append_left, List.getElem?_set_ne, List.getElem?_set_self, List.set_append_left, List.length_set, -getElem?_pos, ↓flall_nil', Nat.testBit_eq_decide_div_mod_eq, *]) <;> exact rfl)); simp only [addFl]) | ((with_reducible first | refine zaj ?_ | refine zal ?_ | refine zag ?_ | refine zae ?_ | refine zac ?_ | refine zak ?_ | refine zaf ?_ | refine zam ?_ | (apply zad; (focus (simp [zaa, *]; done))) | (with_reducible apply zab; (focus (simp [zaa, *]; done)))); try simp only [Then, Ops, OutB, reduceIte]) | simp only [Nat.reduceEqDiff, reduceIte, OutB, Then]))
    rcases HC.out with ⟨rfl, rfl⟩ | ⟨rfl, rfl⟩
  all_goals
    (repeat (first | ((with_reducible apply zai); (focus ((with_reducible apply ev1_spine); (focus rfl); (focus rfl); (focus ((conv => lhs; simp [List.getElem?_append_right, List.set_append_right, List.set_cons_zero, List.set_cons_succ, List.getElem?_cons_zero, List.getElem?_cons_succ, List.getElem?_append_left, List.getElem?_set_ne, List.getElem?_set_self, List.set_append_left, List.length_set, -getElem?_pos, ↓flall_nil', Nat.testBit_eq_decide_div_mod_eq, *]) <;> exact rfl)); (focus rfl); (focus rfl))); simp only [addFl]) | (with_reducible apply zai; (focus ((conv => lhs; simp [List.getElem?_append_right, List.set_append_right, List.set_cons_zero, List.set_cons_succ, List.getElem?_cons_zero, List.getElem?_cons_succ, List.getElem?_append_left, List.getElem?_set_ne, List.getElem?_set_self, List.set_append_left, List.length_set, -getElem?_pos, ↓flall_nil', Nat.testBit_eq_decide_div_mod_eq, *]) <;> exact rfl)); simp only [addFl]) | ((with_reducible first | refine zaj ?_ | refine zal ?_ | refine zag ?_ | refine zae ?_ | refine zac ?_ | refine zak ?_ | refine zaf ?_ | refine zam ?_ | (apply zad; (focus (simp [zaa, *]; done))) | (with_reducible apply zab; (focus (simp [zaa, *]; done)))); try simp only [Then, Ops, OutB, reduceIte]) | simp only [Nat.reduceEqDiff, reduceIte, OutB, Then]))
    refine ⟨by first | rfl | trivial, K ++ [.cells [.int .i64 blo, .int .i64 bhi], .cells [.int .i64 hlo, .int .i64 hhi], .cells [.int .i64 slo, .int .i64 shi]], ?_⟩
    (refine st_is ?_ ?_ ?_ ?_; (focus (simp [zao, zar])); (focus rfl); (focus (first | rfl | (simp; done) | (simp [*]; done) | (simp; rfl) | (simp [*]; omega) | (simp; omega))); (focus (first | rfl | simp)))
end K
end Ev
end Go.Proofs.Ytimgnlellflciaa
