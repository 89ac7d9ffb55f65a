/- The Go function ClampEnds returns true, for every argument, in every world in which it is called; nothing that was there is turned. No condition. -/
import Derived.Test.YtimgnlellflciaaCoPE
import Derived.Test.YtimgnlellflciaaCoEA
import Derived.Test.YtimgnlellflciaaCoPF
import Derived.Test.YtimgnlellflciaaCoPD
import Derived.Test.YtimgnlellflciaaProg
import Derived.KernelRfl
/- Sizes of sets, one bit at a time. -/
namespace Go.Proofs.Ytimgnlellflciaa
namespace Clm
theorem bit_drop : ∀ i, i < 6 → ∀ S, S < 64 → S.testBit i = true → S - 2 ^ i < 64 ∧ sizeN (S - 2 ^ i) < sizeN S ∧ (S - 2 ^ i) &&& S = S - 2 ^ i := by decide +kernel
theorem sizeN_zero : sizeN 0 = 0 := by decide
theorem cntF_more : ∀ f n, n < 2 ^ f → ∀ g, f ≤ g → cntF g n = cntF f n
  | 0, n, h, g, _ => by
    have : n = 0 := by simpa using h
    subst this
    have z : ∀ f, cntF f 0 = 0 := by
      intro f
      induction f with
      | zero => rfl
      | succ f ih => unfold cntF; simp [ih]
    rw [z]; rfl
  | f + 1, n, h, 0, hg => by omega
  | f + 1, n, h, g + 1, hg => by
    unfold cntF
    rw [cntF_more f (n / 2) (by rw [Nat.pow_succ] at h; omega) g (by omega)]
theorem sizeN_step (n : Nat) (h : n < 65536) : sizeN n = n % 2 + sizeN (n / 2) := by
  have h1 := cntF_more 15 (n / 2) (by omega) 16 (by omega)
  unfold sizeN
  rw [h1]; rfl
theorem cntF_le : ∀ f n, cntF f n ≤ f
  | 0, _ => Nat.le_refl _
  | f + 1, n => by
    have := cntF_le f (n / 2)
    unfold cntF; omega
theorem sizeN_le (n : Nat) : sizeN n ≤ 16 := cntF_le 16 n
end Clm
end Go.Proofs.Ytimgnlellflciaa

/- The code of functions of the laws, for the evaluator. Printed by program. -/
namespace Go.Proofs.Ytimgnlellflciaa
open Go
namespace Ev
def af31 : AFunc := ⟨13, [(.tmp 2)], (.seq (.ops [⟨0, (some 2), (.mov (.val (.int .i64 0))), none, 0⟩]) (.seq (.ops [⟨0, (some 3), (.mov (.val (.int .i64 0))), none, 0⟩]) (.seq (.block 0 (.loop [0, 3] (.seq (.seq (.ops [⟨0, (some 4), (.mov (.tmp 0)), none, 0⟩, ⟨1, (some 5), (.bin .gtr (.tmp 4) (.val (.int .i64 0))), none, 0⟩]) (.cond (.tmp 5) .skip (.exit 0))) (.block 1 (.ops [⟨0, (some 6), (.mov (.tmp 3)), none, 0⟩, ⟨1, (some 7), (.mov (.tmp 0)), none, 0⟩, ⟨2, (some 8), (.bin .rem (.tmp 7) (.val (.int .i64 2))), none, 0⟩, ⟨3, (some 9), (.bin .add (.tmp 6) (.tmp 8)), none, 0⟩, ⟨4, (some 10), (.mov (.tmp 0)), none, 0⟩, ⟨5, (some 11), (.bin .quo (.tmp 10) (.val (.int .i64 2))), none, 0⟩, ⟨6, (some 3), (.mov (.tmp 9)), none, 0⟩, ⟨7, (some 0), (.mov (.tmp 11)), none, 0⟩]))))) (.seq (.ops [⟨0, (some 12), (.mov (.tmp 3)), none, 0⟩, ⟨1, (some 2), (.mov (.tmp 12)), none, 0⟩]) .ret))))⟩
end Ev
end Go.Proofs.Ytimgnlellflciaa

/- Chapter 09, gone through: the reference's size of a set, and bits as the laws ask for them. -/
namespace Go.Proofs.Ytimgnlellflciaa
open Go
namespace Ev
namespace K
set_option maxRecDepth 100000
set_option maxHeartbeats 4000000
def SizeC (call : CallF) : Prop := ∀ (H : List AB) (s : Nat), s < 65536 → call (.fn (.func 31) [] []) [.int .i64 s] H = some (.ret (.int .i64 ((Clm.sizeN s : Nat) : Int)), H, [])
theorem size_fun (C : Cfg) (hC : C.calm = true) (call : CallF) (s : Nat) (hs : s < 65536) (H : List AB) :
    Does (ev C call H.length none af31.body { tm := tmA af31.ntmps (zipI 0 [.int .i64 s] []), df := [], hp := H, tc := [] })
      (Ends C H.length af31.res fun v _hp tc => v = .int .i64 ((Clm.sizeN s : Nat) : Int) ∧ tc = []) := by
  unfold af31
  simp only [zipI]
  (repeat (first | (with_reducible apply zan; (focus ((conv => lhs; simp [ev1, wantG, spineK, spine, float, xnew, xval, xeff, zaa, zab, zal, zad, zae, addFl, cellsOf, pickC, alive, slLen, slFt, binI, maxA, maxK, minA, minK, aeqK, aeqS, AV.cells,  spA, zac, fillA, setAt, bitsI, nat_nn, zar, AV.plain, apart, Nat.testBit_eq_decide_div_mod_eq, *]) <;> exact rfl)); simp only [addFl]) | ((with_reducible first | refine zao ?_ | refine zaq ?_ | refine zak ?_ | refine zai ?_ | refine zag ?_ | refine zap ?_ | refine zaj ?_ | refine zas ?_ | (apply zah; (focus (simp [zaa, *]; done))) | (with_reducible apply zaf; (focus (simp [zaa, *]; done)))); try simp only [Then, Ops]) | simp only [Nat.reduceEqDiff, reduceIte, OutB, Then]))
  refine zly (fun q st => ∃ n acc : Nat, n ≤ q ∧ n < 65536 ∧ acc ≤ 16 ∧ acc + Clm.sizeN n = Clm.sizeN s ∧ st = { tm := tmA 13 [(3, .int .i64 acc), (0, .int .i64 n)], df := [], hp := H, tc := [] }) s (by unfold fuelL; omega) ?_ ?_
  · refine ⟨s, 0, Nat.le_refl _, hs, by omega, by omega, ?_⟩
    simp only [zds hC]
    (refine st_is ?_ ?_ ?_ ?_; (focus (simp [zau, zax])); (focus rfl); (focus (first | rfl | (simp; done) | (simp [*]; done) | (simp; rfl) | (simp [*]; omega) | (simp; omega))); (focus (first | rfl | simp)))
  · rintro q st ⟨n, acc, hq, hn, ha, he, rfl⟩
    by_cases h0 : 0 < n
    · have hst := Clm.sizeN_step n hn
      have hle := Clm.sizeN_le s
      have t1 : (n : Int).tmod 2 = ((n % 2 : Nat) : Int) := by rw [Int.tmod_eq_emod_of_nonneg (by omega)]; omega
      have t2 : (n : Int).tdiv 2 = ((n / 2 : Nat) : Int) := by rw [Int.tdiv_eq_ediv_of_nonneg (by omega)]; omega
      have hw1 : IntKind.i64.wrap ((acc : Int) + ((n % 2 : Nat) : Int)) = ((acc + n % 2 : Nat) : Int) := by rw [zaz (by omega) (by omega)]; omega
      have hw2 : IntKind.i64.wrap ((n : Int).tdiv 2) = ((n / 2 : Nat) : Int) := by rw [t2]; exact zaz (by omega) (by omega)
      have hw3 : IntKind.i64.wrap ((n / 2 : Nat) : Int) = ((n / 2 : Nat) : Int) := zaz (by omega) (by omega)
      have hw4 : IntKind.i64.wrap ((n % 2 : Nat) : Int) = ((n % 2 : Nat) : Int) := zaz (by omega) (by omega)
      have hlt : n / 2 < n := by omega
      have hlo : n % 2 ≤ 1 := by omega
      have HS := hideP (And.intro hlt (And.intro hlo (And.intro hst (And.intro hle (And.intro hq (And.intro hn (And.intro ha (And.intro he h0))))))))
      have h0i : (0 : Int) < (n : Int) := by omega
      generalize n % 2 = lo at *
      generalize n / 2 = hi at *
      clear hst hle hq hn ha he hlt hlo hs
      (repeat (first | (with_reducible apply zan; (focus ((conv => lhs; simp [ev1, wantG, spineK, spine, float, xnew, xval, xeff, zaa, zab, zal, zad, zae, addFl, cellsOf, pickC, alive, slLen, slFt, binI, maxA, maxK, minA, minK, aeqK, aeqS, AV.cells,  spA, zac, fillA, setAt, bitsI, nat_nn, zar, AV.plain, apart, Nat.testBit_eq_decide_div_mod_eq, *]) <;> exact rfl)); simp only [addFl]) | ((with_reducible first | refine zao ?_ | refine zaq ?_ | refine zak ?_ | refine zai ?_ | refine zag ?_ | refine zap ?_ | refine zaj ?_ | refine zas ?_ | (apply zah; (focus (simp [zaa, *]; done))) | (with_reducible apply zaf; (focus (simp [zaa, *]; done)))); try simp only [Then, Ops, OutB]) | simp only [Nat.reduceEqDiff, reduceIte, OutB, Then]))
      obtain ⟨g1, g2, g3, g4, g5, g6, g7, g8, g9⟩ := HS.out
      refine ⟨q - 1, by omega, hi, acc + lo, by omega, by omega, by omega, by omega, ?_⟩
      simp only [zds hC]
      (refine st_is ?_ ?_ ?_ ?_; (focus (simp [zau, zax])); (focus rfl); (focus (first | rfl | (simp; done) | (simp [*]; done) | (simp; rfl) | (simp [*]; omega) | (simp; omega))); (focus (first | rfl | simp)))
    · obtain rfl : n = 0 := by omega
      have : Clm.sizeN 0 = 0 := Clm.sizeN_zero
      obtain rfl : acc = Clm.sizeN s := by omega
      clear hq hn ha he this h0 hs
      (repeat (first | (with_reducible apply zan; (focus ((conv => lhs; simp [ev1, wantG, spineK, spine, float, xnew, xval, xeff, zaa, zab, zal, zad, zae, addFl, cellsOf, pickC, alive, slLen, slFt, binI, maxA, maxK, minA, minK, aeqK, aeqS, AV.cells,  spA, zac, fillA, setAt, bitsI, nat_nn, zar, AV.plain, apart, Nat.testBit_eq_decide_div_mod_eq, *]) <;> exact rfl)); simp only [addFl]) | ((with_reducible first | refine zao ?_ | refine zaq ?_ | refine zak ?_ | refine zai ?_ | refine zag ?_ | refine zap ?_ | refine zaj ?_ | refine zas ?_ | (apply zah; (focus (simp [zaa, *]; done))) | (with_reducible apply zaf; (focus (simp [zaa, *]; done)))); try simp only [Then, Ops, OutB, reduceIte]) | simp only [Nat.reduceEqDiff, reduceIte, OutB, Then]))
      exact zat (v := .int .i64 ((Clm.sizeN s : Nat) : Int)) (.inl rfl) rfl (by simp) (by simp only [resL, resOf, zam]; simp [resV, *]) ⟨rfl, rfl⟩
theorem fdiv_pow (n d : Nat) : ((n : Int).fdiv (2 ^ d)) = ((n / 2 ^ d : Nat) : Int) := by
  rw [Int.fdiv_eq_ediv_of_nonneg _ (by exact Int.le_of_lt (Int.pow_pos (by decide)))]
  have : ((2 : Int) ^ d) = ((2 ^ d : Nat) : Int) := by simp
  rw [this]; rfl
theorem bit_i64 {n d : Nat} (hd : d ≤ 64) : IntKind.i64.wrap ((BitVec.ofInt IntKind.i64.bits ((n : Int).fdiv (2 ^ (min ((d : Int).toNat) IntKind.i64.bits))) &&& BitVec.ofInt IntKind.i64.bits 1).toNat) = if n.testBit d then 1 else 0 := by
  have hb : IntKind.i64.bits = 64 := rfl
  rw [show min ((d : Int).toNat) IntKind.i64.bits = d by rw [hb]; omega, fdiv_pow, hb]
  have h1 : (BitVec.ofInt 64 ((n / 2 ^ d : Nat) : Int)).toNat = (n / 2 ^ d) % 2 ^ 64 := by
    rw [BitVec.toNat_ofInt]; omega
  have h2 : (BitVec.ofInt 64 1).toNat = 1 := by decide
  rw [BitVec.toNat_and, h1, h2, Nat.and_one_is_mod, Nat.testBit_eq_decide_div_mod_eq]
  generalize n / 2 ^ d = q at *
  have h3 : q % 2 ^ 64 % 2 = q % 2 := by omega
  rw [h3, zaz (by omega) (by omega)]
  by_cases hm : q % 2 = 1
  · simp [hm]
  · simp [hm]; omega
theorem and_own (w : Int) (A : Nat) (hA : A < 64) : ∃ o : Nat, o < 64 ∧ o &&& A = o ∧ IntKind.i64.wrap ((BitVec.ofInt IntKind.i64.bits w &&& BitVec.ofInt IntKind.i64.bits (A : Int)).toNat) = (o : Int) := by
  have hb : IntKind.i64.bits = 64 := rfl
  rw [hb]
  have h1 : (BitVec.ofInt 64 (A : Int)).toNat = A := by rw [BitVec.toNat_ofInt]; omega
  have h2 : (BitVec.ofInt 64 w &&& BitVec.ofInt 64 (A : Int)).toNat = (BitVec.ofInt 64 w).toNat &&& A := by
    rw [BitVec.toNat_and, h1]
  have h3 : (BitVec.ofInt 64 w).toNat &&& A ≤ A := Nat.and_le_right
  rw [h2]
  exact ⟨_, by omega, by rw [Nat.and_assoc, Nat.and_self], zaz (by omega) (by omega)⟩
theorem andnot_i : ∀ s, s < 64 → ∀ a, a < 64 → (IntKind.i64.wrap ((BitVec.ofInt IntKind.i64.bits ((s : Nat) : Int) &&& ~~~ BitVec.ofInt IntKind.i64.bits ((a : Nat) : Int)).toNat) != 0) = (s &&& a != s) := by decide +kernel
theorem andnot_bit : ∀ S, S < 64 → ∀ i, i < 6 → S.testBit i = true → IntKind.i64.wrap ((BitVec.ofInt IntKind.i64.bits ((S : Nat) : Int) &&& ~~~ BitVec.ofInt IntKind.i64.bits ((2 ^ i : Nat) : Int)).toNat) = ((S - 2 ^ i : Nat) : Int) := by decide +kernel
end K
end Ev
end Go.Proofs.Ytimgnlellflciaa

/- The code of functions of the laws, for the evaluator. Printed by program. -/
namespace Go.Proofs.Ytimgnlellflciaa
open Go
namespace Ev
def af27 : AFunc := ⟨15, [(.tmp 4)], (.seq (.ops [⟨0, (some 3), (.box (.tmp 1)), none, 0⟩, ⟨1, (some 4), (.mov (.val (.bool false))), none, 0⟩]) (.seq (.ops [⟨0, (some 5), (.fieldA 0 (.tmp 3)), none, 0⟩, ⟨1, (some 6), (.load none (.tmp 5)), none, 0⟩, ⟨2, (some 7), (.mov (.tmp 0)), none, 0⟩, ⟨3, (some 8), (.bin .leq (.tmp 6) (.tmp 7)), none, 0⟩, ⟨4, (some 9), (.mov (.tmp 8)), none, 0⟩, ⟨5, (some 10), (.mov (.tmp 0)), (some (9, true)), 0⟩, ⟨6, (some 11), (.fieldA 1 (.tmp 3)), (some (9, true)), 0⟩, ⟨7, (some 12), (.load none (.tmp 11)), (some (9, true)), 0⟩, ⟨8, (some 13), (.bin .leq (.tmp 10) (.tmp 12)), (some (9, true)), 0⟩, ⟨9, (some 14), (.pick (.tmp 9) (.tmp 13) (.val (.bool false))), none, 0⟩, ⟨10, (some 4), (.mov (.tmp 14)), none, 0⟩]) .ret))⟩
end Ev
end Go.Proofs.Ytimgnlellflciaa

/- The code of functions of the laws, for the evaluator. Printed by program. -/
namespace Go.Proofs.Ytimgnlellflciaa
open Go
namespace Ev
def af28 : AFunc := ⟨14, [(.cell 4 (some 4))], (.seq (.ops [⟨0, (some 2), (.box (.tmp 0)), none, 0⟩, ⟨1, (some 3), (.box (.tmp 1)), none, 0⟩, ⟨2, (some 4), (.alloc [.nils, (.int .i64 0), (.int .i64 0), .nils]), none, 0⟩]) (.seq (.draw [⟨0, (some 5), (.buildSl 4 0 [(.int .i64 0), (.int .i64 0), (.int .i64 0), (.int .i64 0)] []), none, 0⟩, ⟨1, (some 6), (.fieldA 3 (.tmp 2)), none, 0⟩, ⟨2, (some 7), (.load none (.tmp 6)), none, 2⟩, ⟨4, (some 9), (.load (some 4) (.tmp 3)), none, 0⟩, ⟨5, (some 10), (.buildSl 4 1 [(.int .i64 0), (.int .i64 0), (.int .i64 0), (.int .i64 0)] [(0, (.tmp 9))]), none, 16⟩, ⟨3, (some 8), (.append 4 (.tmp 5) (.tmp 7)), none, 7⟩, ⟨6, (some 11), (.append 4 (.tmp 8) (.tmp 10)), none, 63⟩, ⟨7, (some 12), (.fieldA 3 (.tmp 2)), none, 127⟩, ⟨8, none, (.store 1 (.tmp 12) (.tmp 11)), none, 255⟩]) (.seq (.ops [⟨0, (some 13), (.load (some 4) (.tmp 2)), none, 0⟩, ⟨1, none, (.store 4 (.tmp 4) (.tmp 13)), none, 0⟩]) .ret)))⟩
end Ev
end Go.Proofs.Ytimgnlellflciaa

/- Chapter 09, gone through: small functions of the laws. -/
namespace Go.Proofs.Ytimgnlellflciaa
open Go
namespace Ev
namespace K
set_option maxRecDepth 100000
set_option maxHeartbeats 4000000
theorem flall_nil' (fl : List (Nat × List Nat)) (d : Nat) : (fl.all fun p => d.testBit p.1 || apart p.2 []) = true := by simp [apart]
def atP : List Nat → AC → AC
  | 0 :: p, .seq a _ => atP p a
  | 1 :: p, .seq _ b => atP p b
  | _ :: p, .block _ c => atP p c
  | _ :: p, .loop _ c => atP p c
  | 0 :: p, .cond _ a _ => atP p a
  | 1 :: p, .cond _ _ b => atP p b
  | _, c => c
def InsideC (call : CallF) : Prop := ∀ (H : List AB) (n a b : Int), call (.fn (.func 27) [] []) [.int .i64 n, .agg [.int .i64 a, .int .i64 b]] H = some (.ret (.bool (decide (a ≤ n ∧ n ≤ b))), H, [])
theorem inside_fun (C : Cfg) (call : CallF) (H : List AB) (n a b : Int) : Does (ev C call H.length none af27.body { tm := tmA af27.ntmps (zipI 0 [.int .i64 n, .agg [.int .i64 a, .int .i64 b]] []), df := [], hp := H, tc := [] })
    (Ends C H.length af27.res fun v _hp tc => v = .bool (decide (a ≤ n ∧ n ≤ b)) ∧ tc = []) := by
  unfold af27
  simp only [zipI]
  by_cases h : a ≤ n
  · (repeat (first | (with_reducible apply zan; (focus ((conv => lhs; simp [ev1, wantG, spineK, spine, float, xnew, xval, xeff, zaa, zab, zal, zad, zae, addFl, cellsOf, pickC, alive, slLen, slFt, binI, maxA, maxK, minA, minK, aeqK, aeqS, AV.cells,  spA, zac, fillA, setAt, bitsI, nat_nn, zar, AV.plain, apart, Nat.testBit_eq_decide_div_mod_eq, *]) <;> exact rfl)); simp only [addFl]) | ((with_reducible first | refine zao ?_ | refine zaq ?_ | refine zak ?_ | refine zai ?_ | refine zag ?_ | refine zap ?_ | refine zaj ?_ | refine zas ?_ | (apply zah; (focus (simp [zaa, *]; done))) | (with_reducible apply zaf; (focus (simp [zaa, *]; done)))); try simp only [Then, Ops]) | simp only [Nat.reduceEqDiff, reduceIte, OutB, Then]))
    exact zat (v := .bool (decide (n ≤ b))) (.inl rfl) rfl (by simp) (by simp only [resL, resOf, zam]; simp [resV, *]) ⟨by simp [h], rfl⟩
  · (repeat (first | (with_reducible apply zan; (focus ((conv => lhs; simp [ev1, wantG, spineK, spine, float, xnew, xval, xeff, zaa, zab, zal, zad, zae, addFl, cellsOf, pickC, alive, slLen, slFt, binI, maxA, maxK, minA, minK, aeqK, aeqS, AV.cells,  spA, zac, fillA, setAt, bitsI, nat_nn, zar, AV.plain, apart, Nat.testBit_eq_decide_div_mod_eq, *]) <;> exact rfl)); simp only [addFl]) | ((with_reducible first | refine zao ?_ | refine zaq ?_ | refine zak ?_ | refine zai ?_ | refine zag ?_ | refine zap ?_ | refine zaj ?_ | refine zas ?_ | (apply zah; (focus (simp [zaa, *]; done))) | (with_reducible apply zaf; (focus (simp [zaa, *]; done)))); try simp only [Then, Ops]) | simp only [Nat.reduceEqDiff, reduceIte, OutB, Then]))
    exact zat (v := .bool false) (.inl rfl) rfl (by simp) (by simp only [resL, resOf, zam]; simp [resV, *]) ⟨by simp [h], rfl⟩
def CountC (call : CallF) : Prop := ∀ (H : List AB) (n a b : Int), call (.fn (.func 29) [] []) [.int .i64 n, .int .i64 a, .int .i64 b] H = some (.ret (.agg [.int .i64 1, .int .i64 n, .int .i64 a, .int .i64 b]), H, [])
theorem count_fun (C : Cfg) (call : CallF) (hA : LApi call) (H : List AB) (n a b : Int) : Does (ev C call H.length none af29.body { tm := tmA af29.ntmps (zipI 0 [.int .i64 n, .int .i64 a, .int .i64 b] []), df := [], hp := H, tc := [] })
    (Ends C H.length af29.res fun v _hp tc => v = .agg [.int .i64 1, .int .i64 n, .int .i64 a, .int .i64 b] ∧ tc = []) := by
  have hs := fun H a b => hA.span (H := H) a b
  clear hA
  unfold af29
  simp only [zipI]
  (repeat (first | (with_reducible apply zan; (focus ((conv => lhs; simp [ev1, wantG, spineK, spine, float, xnew, xval, xeff, zaa, zab, zal, zad, zae, addFl, cellsOf, pickC, alive, slLen, slFt, binI, maxA, maxK, minA, minK, aeqK, aeqS, AV.cells,  spA, zac, fillA, setAt, bitsI, nat_nn, zar, AV.plain, apart, Nat.testBit_eq_decide_div_mod_eq, *]) <;> exact rfl)); simp only [addFl]) | ((with_reducible first | refine zao ?_ | refine zaq ?_ | refine zak ?_ | refine zai ?_ | refine zag ?_ | refine zap ?_ | refine zaj ?_ | refine zas ?_ | (apply zah; (focus (simp [zaa, *]; done))) | (with_reducible apply zaf; (focus (simp [zaa, *]; done)))); try simp only [Then, Ops]) | simp only [Nat.reduceEqDiff, reduceIte, OutB, Then]))
  exact zat (v := .agg [.int .i64 1, .int .i64 n, .int .i64 a, .int .i64 b]) (.inl rfl) rfl (by simp) (by simp only [resL, resOf, zam]; simp [pickC, resV, *]) ⟨rfl, rfl⟩
def SaleC (call : CallF) : Prop := ∀ (H : List AB) (n a b : Int), call (.fn (.func 34) [] []) [.int .i64 n, .int .i64 a, .int .i64 b] H = some (.ret (.agg [.int .i64 0, .int .i64 n, .int .i64 a, .int .i64 b]), H, [])
theorem sale_fun (C : Cfg) (call : CallF) (hA : LApi call) (H : List AB) (n a b : Int) : Does (ev C call H.length none af34.body { tm := tmA af34.ntmps (zipI 0 [.int .i64 n, .int .i64 a, .int .i64 b] []), df := [], hp := H, tc := [] })
    (Ends C H.length af34.res fun v _hp tc => v = .agg [.int .i64 0, .int .i64 n, .int .i64 a, .int .i64 b] ∧ tc = []) := by
  have hs := fun H a b => hA.span (H := H) a b
  clear hA
  unfold af34
  simp only [zipI]
  (repeat (first | (with_reducible apply zan; (focus ((conv => lhs; simp [ev1, wantG, spineK, spine, float, xnew, xval, xeff, zaa, zab, zal, zad, zae, addFl, cellsOf, pickC, alive, slLen, slFt, binI, maxA, maxK, minA, minK, aeqK, aeqS, AV.cells,  spA, zac, fillA, setAt, bitsI, nat_nn, zar, AV.plain, apart, Nat.testBit_eq_decide_div_mod_eq, *]) <;> exact rfl)); simp only [addFl]) | ((with_reducible first | refine zao ?_ | refine zaq ?_ | refine zak ?_ | refine zai ?_ | refine zag ?_ | refine zap ?_ | refine zaj ?_ | refine zas ?_ | (apply zah; (focus (simp [zaa, *]; done))) | (with_reducible apply zaf; (focus (simp [zaa, *]; done)))); try simp only [Then, Ops]) | simp only [Nat.reduceEqDiff, reduceIte, OutB, Then]))
  exact zat (v := .agg [.int .i64 0, .int .i64 n, .int .i64 a, .int .i64 b]) (.inl rfl) rfl (by simp) (by simp only [resL, resOf, zam]; simp [pickC, resV, *]) ⟨rfl, rfl⟩
def withK (n : Nat) (pv : AV) (a b : Int) (cs : List AV) (m : Nat) (x0 x1 x2 x3 : Int) : List AB :=
  [.cells [pv, .int .i64 a, .int .i64 b, .sl (n + 6) 0 (m + 1) 4], .cells [.int .i64 x0, .int .i64 x1, .int .i64 x2, .int .i64 x3], .cells [pv, .int .i64 a, .int .i64 b, .sl (n + 6) 0 (m + 1) 4], .dead, .cells [.int .i64 x0, .int .i64 x1, .int .i64 x2, .int .i64 x3], .dead, .cells (cs ++ [.int .i64 x0, .int .i64 x1, .int .i64 x2, .int .i64 x3])]
def EvIn (H : List AB) (lv : AV) (es : List Clm.Evt) : Prop := lv = .vs 4 (es.map evtE) ∨ ∃ b, lv = .sl b 0 es.length 4 ∧ H[b]? = some (.cells (evtCs es))
theorem with_fun (C : Cfg) (call : CallF) (H : List AB) (ps : List Clm.Pl) (a b : Int) (lv : AV) (es : List Clm.Evt) (hev : EvIn H lv es) (hes : es.length ≤ 1000) (x0 x1 x2 x3 : Int) :
    Does (ev C call H.length none af28.body { tm := tmA af28.ntmps (zipI 0 [.agg [.vs 6 (ps.map pileE), .int .i64 a, .int .i64 b, lv], .agg [.int .i64 x0, .int .i64 x1, .int .i64 x2, .int .i64 x3]] []), df := [], hp := H, tc := [] })
    (Ends C H.length af28.res fun v hp tc => v = .agg [.vs 6 (ps.map pileE), .int .i64 a, .int .i64 b, .sl (H.length + 6) 0 (es.length + 1) 4] ∧ hp = H ++ withK H.length (.vs 6 (ps.map pileE)) a b (evtCs es) es.length x0 x1 x2 x3 ∧ tc = []) := by
  have hb2 : es.length + 1 ≤ bound := by unfold bound; omega
  have hb3 : es.length ≤ bound := by unfold bound; omega
  have hle := zia es
  have hpl := zna es
  clear hes
  unfold withK
  rcases hev with rfl | ⟨q, rfl, hq⟩
  · have hs : ∀ H, slCells 4 H (.vs 4 (es.map evtE)) = some (evtCs es) := fun H => evtsV_vs H es
    unfold af28
    simp only [zipI]
    (repeat (first | (with_reducible apply zan; (focus ((conv => lhs; simp [ev1, wantG, spineK, spine, float, xnew, xval, xeff, zaa, zab, zal, zad, zae, addFl, cellsOf, pickC, alive, slLen, slFt, binI, maxA, maxK, minA, minK, aeqK, aeqS, AV.cells, ↓flall_nil',  spA, zac, fillA, setAt, bitsI, nat_nn, zar, AV.plain, apart, Nat.testBit_eq_decide_div_mod_eq, *]) <;> exact rfl)); simp only [addFl]) | ((with_reducible first | refine zao ?_ | refine zaq ?_ | refine zak ?_ | refine zai ?_ | refine zag ?_ | refine zap ?_ | refine zaj ?_ | refine zas ?_ | (apply zah; (focus (simp [zaa, *]; done))) | (with_reducible apply zaf; (focus (simp [zaa, *]; done)))); try simp only [Then, Ops]) | simp only [Nat.reduceEqDiff, reduceIte, OutB, Then]))
    refine zat (.inl rfl) rfl (by simp) (by simp only [resL, resOf, zam]; simp [pickC, resV, *]) ⟨rfl, ?_, rfl⟩
    simp
  · obtain ⟨b0, b1, b2, b3, b4, b5⟩ := bk' hq
    have htk : List.take (es.length * 4) (evtCs es) = evtCs es := List.take_of_length_le (by rw [zia]; omega)
    clear hq
    unfold af28
    simp only [zipI]
    (repeat (first | (with_reducible apply zan; (focus ((conv => lhs; simp [ev1, wantG, spineK, spine, float, xnew, xval, xeff, zaa, zab, zal, zad, zae, addFl, cellsOf, pickC, alive, slLen, slFt, binI, maxA, maxK, minA, minK, aeqK, aeqS, AV.cells, ↓flall_nil',  spA, zac, fillA, setAt, bitsI, nat_nn, zar, AV.plain, apart, Nat.testBit_eq_decide_div_mod_eq, *]) <;> exact rfl)); simp only [addFl]) | ((with_reducible first | refine zao ?_ | refine zaq ?_ | refine zak ?_ | refine zai ?_ | refine zag ?_ | refine zap ?_ | refine zaj ?_ | refine zas ?_ | (apply zah; (focus (simp [zaa, *]; done))) | (with_reducible apply zaf; (focus (simp [zaa, *]; done)))); try simp only [Then, Ops]) | simp only [Nat.reduceEqDiff, reduceIte, OutB, Then]))
    refine zat (.inl rfl) rfl (by simp) (by simp only [resL, resOf, zam]; simp [pickC, resV, *]) ⟨rfl, ?_, rfl⟩
    simp
end K
end Ev
end Go.Proofs.Ytimgnlellflciaa

/- The plain law of ClampAll. -/
namespace Go.Proofs.Ytimgnlellflciaa
open Go
namespace Clm
theorem fold_in : ∀ (l : List Sp) (s : Sp), (l.foldl (fun k x => k.either x) s).lo ≤ s.lo ∧ s.hi ≤ (l.foldl (fun k x => k.either x) s).hi ∧ ∀ x ∈ l, (l.foldl (fun k x => k.either x) s).lo ≤ x.lo ∧ x.hi ≤ (l.foldl (fun k x => k.either x) s).hi
  | [], s => ⟨Int.le_refl _, Int.le_refl _, by simp⟩
  | a :: l, s => by
    obtain ⟨h1, h2, h3⟩ := fold_in l (s.either a)
    simp only [List.foldl_cons]
    simp only [Sp.either] at h1 h2
    refine ⟨by simp only [Sp.either] at *; omega, by simp only [Sp.either] at *; omega, fun x hx => ?_⟩
    rcases List.mem_cons.1 hx with rfl | hx
    · simp only [Sp.either] at *; omega
    · exact h3 x hx
theorem fold_at : ∀ (l : List Sp) (s : Sp), ((l.foldl (fun k x => k.either x) s).lo = s.lo ∨ ∃ x ∈ l, (l.foldl (fun k x => k.either x) s).lo = x.lo) ∧ ((l.foldl (fun k x => k.either x) s).hi = s.hi ∨ ∃ x ∈ l, (l.foldl (fun k x => k.either x) s).hi = x.hi)
  | [], s => ⟨.inl rfl, .inl rfl⟩
  | a :: l, s => by
    obtain ⟨h1, h2⟩ := fold_at l (s.either a)
    simp only [List.foldl_cons]
    constructor
    · rcases h1 with h | ⟨x, hx, h⟩
      · by_cases hc : s.lo ≤ a.lo
        · left; rw [h]; simp only [Sp.either]; omega
        · right; exact ⟨a, by simp, by rw [h]; simp only [Sp.either]; omega⟩
      · exact .inr ⟨x, by simp [hx], h⟩
    · rcases h2 with h | ⟨x, hx, h⟩
      · by_cases hc : a.hi ≤ s.hi
        · left; rw [h]; simp only [Sp.either]; omega
        · right; exact ⟨a, by simp, by rw [h]; simp only [Sp.either]; omega⟩
      · exact .inr ⟨x, by simp [hx], h⟩
theorem hull_in {l : List Sp} {x : Sp} (hx : x ∈ l) : (hull l).lo ≤ x.lo ∧ x.hi ≤ (hull l).hi := by
  cases l with
  | nil => cases hx
  | cons a l =>
    obtain ⟨h1, h2, h3⟩ := fold_in l a
    rcases List.mem_cons.1 hx with rfl | hx
    · exact ⟨h1, h2⟩
    · exact h3 x hx
theorem hull_at {l : List Sp} (hl : l ≠ []) : (∃ x ∈ l, (hull l).lo = x.lo) ∧ ∃ x ∈ l, (hull l).hi = x.hi := by
  cases l with
  | nil => exact absurd rfl hl
  | cons a l =>
    obtain ⟨h1, h2⟩ := fold_at l a
    constructor
    · rcases h1 with h | ⟨x, hx, h⟩
      · exact ⟨a, by simp, h⟩
      · exact ⟨x, by simp [hx], h⟩
    · rcases h2 with h | ⟨x, hx, h⟩
      · exact ⟨a, by simp, h⟩
      · exact ⟨x, by simp [hx], h⟩
def hasC (c : Cl) (i : Nat) : Sp := ofAll c i fun _ => leftW c
theorem packs_in {c : Cl} (hc : Fine c) {counts : Nat} {k : Int} (h : k ∈ packs c counts) : 0 ≤ k ∧ k ≤ 5 ∧ c.pack.lo ≤ k ∧ k ≤ c.pack.hi ∧ ∀ i, i < c.piles.length → ways c i k counts ≠ [] := by
  unfold packs at h
  rw [List.mem_filter, mem_span] at h
  have := hc.pack
  simp only [Sp.has] at h
  refine ⟨by omega, by omega, by omega, by omega, fun i hi => ?_⟩
  have h2 := List.all_eq_true.1 h.2 i (by simpa using hi)
  simpa using h2
theorem can_packs {c : Cl} {s : Nat} (h : can c s = true) : packs c s ≠ [] := by
  unfold can at h
  intro e
  rw [e] at h; cases h
theorem low_has {c : Cl} (hc : Fine c) {i : Nat} (hi : i < c.piles.length) : Low (hasC c i) := by
  refine low_hull _ fun x hx => ?_
  obtain ⟨k, hk, rfl⟩ := List.mem_map.1 hx
  obtain ⟨h0, h5, _⟩ := packs_in hc hk
  exact low_left hc hi h0 h5
def sumC (c : Cl) : Nat → Sp
  | 0 => ⟨0, 0⟩
  | n + 1 => ⟨(sumC c n).lo + (hasC c n).lo, (sumC c n).hi + (hasC c n).hi⟩
theorem sumC_low {c : Cl} (hc : Fine c) : ∀ n, n ≤ c.piles.length → 0 ≤ (sumC c n).lo ∧ (sumC c n).lo ≤ 10000 * n ∧ 0 ≤ (sumC c n).hi ∧ (sumC c n).hi ≤ 10000 * n
  | 0, _ => by simp [sumC]
  | n + 1, h => by
    have ih := sumC_low hc n (by omega)
    obtain ⟨a, b, d, e⟩ := low_has hc (i := n) (by omega)
    simp only [sumC]; omega
def fullC (c : Cl) : Nat := 2 ^ c.piles.length - 1
theorem full_bit (c : Cl) {i : Nat} (h : i < c.piles.length) : bit (fullC c) i = true := by
  unfold bit fullC; rw [Nat.testBit_two_pow_sub_one]; simpa using h
theorem sum_full {c : Cl} {k : Int} (hk : k ∈ packs c (every c)) : ∀ n, n ≤ c.piles.length → (sumC c n).lo ≤ (sumTo c (fullC c) k n).lo ∧ (sumTo c (fullC c) k n).hi ≤ (sumC c n).hi
  | 0, _ => ⟨Int.le_refl _, Int.le_refl _⟩
  | n + 1, h => by
    have ih := sum_full hk n (by omega)
    rw [sumTo_succ, if_pos (full_bit c (by omega))]
    have := hull_in (l := (packs c (every c)).map fun k => spanOf c n k (leftW c)) (List.mem_map.2 ⟨k, hk, rfl⟩)
    have e : hasC c n = hull ((packs c (every c)).map fun k => spanOf c n k (leftW c)) := rfl
    simp only [sumC]
    rw [e]
    omega
theorem sum_one {c : Cl} {k : Int} (hk : packs c (every c) = [k]) : ∀ n, n ≤ c.piles.length → sumTo c (fullC c) k n = sumC c n
  | 0, _ => rfl
  | n + 1, h => by
    have ih := sum_one hk n (by omega)
    rw [sumTo_succ, if_pos (full_bit c (by omega)), ih]
    have e : hasC c n = spanOf c n k (leftW c) := by
      show hull ((packs c (every c)).map fun k => spanOf c n k (leftW c)) = _
      rw [hk]; rfl
    simp only [sumC, e]
theorem sum_le {c : Cl} (hc : Fine c) {k : Int} (h0 : 0 ≤ k) (h5 : k ≤ 5) (o : Nat) : ∀ n, n ≤ c.piles.length → (sumTo c o k n).lo ≤ (sumTo c (fullC c) k n).lo
  | 0, _ => Int.le_refl _
  | n + 1, h => by
    have ih := sum_le hc h0 h5 o n (by omega)
    obtain ⟨a, b, d, e⟩ := low_left hc (i := n) (by omega) h0 h5
    rw [sumTo_succ, sumTo_succ, if_pos (full_bit c (by omega))]
    split
    · simp only; omega
    · simp only; omega
theorem sum_ord {c : Cl} (hc : Fine c) {k : Int} (hk : k ∈ packs c (every c)) (o : Nat) : ∀ n, n ≤ c.piles.length → (sumTo c o k n).lo ≤ (sumTo c o k n).hi
  | 0, _ => Int.le_refl _
  | n + 1, h => by
    have ih := sum_ord hc hk o n (by omega)
    obtain ⟨h0, h5, _, _, hw⟩ := packs_in hc hk
    have hl := (left_hull hc (i := n) (by omega) h0 (hw n (by omega))).le
    rw [sumTo_succ]
    split
    · simp only; omega
    · exact ih
structure AllLaw (c : Cl) : Prop where
  ord : (together c (fullC c)).lo ≤ (together c (fullC c)).hi
  lo : (sumC c c.piles.length).lo ≤ (together c (fullC c)).lo
  hi : (together c (fullC c)).hi ≤ (sumC c c.piles.length).hi
  one : c.pack.lo = c.pack.hi → together c (fullC c) = sumC c c.piles.length
  nn : 0 ≤ (together c (fullC c)).lo
  le : (together c (fullC c)).lo ≤ 20000
  most : ∀ o, (together c o).lo ≤ (together c (fullC c)).lo
theorem ends_le : ∀ (l : List Bf) (s : Sp), s.lo ≤ s.hi → (∀ e ∈ l, e.fine) → 0 ≤ s.lo → (ends l s).some = true → (ends l s).hi ≤ s.hi
  | [], s, _, _, _, _ => Int.le_refl _
  | e :: l, s, hs, hf, h0, hso => by
    simp only [ends, List.foldl_cons] at hso ⊢
    have he := hf e (by simp)
    by_cases hc : (e.after s).lo ≤ (e.after s).hi
    · have ih := ends_le l (e.after s) hc (fun e h => hf e (by simp [h])) (zkl e s h0) hso
      simp only [ends] at ih
      have : (e.after s).hi ≤ s.hi := by
        cases e with
        | nil => exact Int.le_refl _
        | sale t =>
          simp only [Bf.fine] at he
          unfold Bf.after at hc ⊢
          simp only at hc ⊢
          split
          · rename_i hh; rw [if_pos hh] at hc; simp only [Sp.no] at hc; omega
          · simp only; omega
        | count t =>
          unfold Bf.after Sp.both at hc ⊢
          simp only at hc ⊢
          split
          · rename_i hh; rw [if_pos hh] at hc; simp only [Sp.no] at hc; omega
          · simp only; omega
      omega
    · exfalso
      have hn : ∀ (l : List Bf) (t : Sp), (∀ e ∈ l, e.fine) → 0 ≤ t.lo → t.hi < t.lo → (ends l t).some = false := by
        intro l
        induction l with
        | nil => intro t _ _ h; show decide (t.lo ≤ t.hi) = false; exact decide_eq_false (by omega)
        | cons e l ih =>
          intro t hf h0 h
          simp only [ends, List.foldl_cons]
          refine ih (e.after t) (fun e h => hf e (by simp [h])) (zkl e t h0) ?_
          cases e with
          | nil => exact h
          | sale u =>
            unfold Bf.after
            simp only
            rw [if_pos (.inl (by unfold Sp.some; simp; omega))]
            decide
          | count u =>
            unfold Bf.after Sp.both
            simp only
            split
            · decide
            · rename_i hh; simp only; omega
      have := hn l (e.after s) (fun e h => hf e (by simp [h])) (zkl e s h0) (by omega)
      simp only [ends] at this
      rw [this] at hso; cases hso
theorem left_5000 {c : Cl} (hc : Fine c) {i : Nat} (hi : i < c.piles.length) {k : Int} (h0 : 0 ≤ k) (h5 : k ≤ 5) (hne : ways c i k (every c) ≠ []) : (spanOf c i k (leftW c)).hi ≤ 5000 := by
  obtain ⟨_, x, hx, hh⟩ := hull_at (l := (ways c i k (every c)).map (leftW c)) (by simpa using hne)
  have e : spanOf c i k (leftW c) = hull ((ways c i k (every c)).map (leftW c)) := rfl
  rw [e, hh]
  obtain ⟨w, hw, rfl⟩ := List.mem_map.1 hx
  obtain ⟨h1, h2, y, h3⟩ := (mem_ways hc hi h0 _ w).1 hw
  obtain ⟨s0, s1⟩ := sods_le hc hi h0 h5 h1
  have hf := zfc hc i (every c)
  have e2 : leftW c w = ends (befell c i (every c)) ⟨w.size.sods k, w.size.sods k⟩ := by
    rw [← left_eq]; obtain ⟨a, b⟩ := w; simp only at h2; subst h2; rfl
  rw [e2]
  have := ends_le (befell c i (every c)) ⟨w.size.sods k, w.size.sods k⟩ (Int.le_refl _) hf s0 ((some_has _).2 ⟨y, (ends_one _ _ y hf s0).2 h3⟩)
  simp only at this
  omega
theorem sum_5000 {c : Cl} (hc : Fine c) {k : Int} (hk : k ∈ packs c (every c)) (o : Nat) : ∀ n, n ≤ c.piles.length → (sumTo c o k n).hi ≤ 5000 * n
  | 0, _ => by simp [sumTo]
  | n + 1, h => by
    have ih := sum_5000 hc hk o n (by omega)
    obtain ⟨h0, h5, _, _, hw⟩ := packs_in hc hk
    have hl := left_5000 hc (i := n) (by omega) h0 h5 (hw n (by omega))
    rw [sumTo_succ]
    split
    · simp only; omega
    · omega
theorem all_law {c : Cl} (hc : Fine c) (hcan : can c (every c) = true) : AllLaw c := by
  have hne := can_packs hcan
  have hp := hc.piles
  obtain ⟨⟨x, hx, h1⟩, ⟨y, hy, h2⟩⟩ := hull_at (l := (packs c (every c)).map fun k => sumTo c (fullC c) k c.piles.length) (by simpa using hne)
  obtain ⟨k1, hk1, rfl⟩ := List.mem_map.1 hx
  obtain ⟨k2, hk2, rfl⟩ := List.mem_map.1 hy
  have e : together c (fullC c) = hull ((packs c (every c)).map fun k => sumTo c (fullC c) k c.piles.length) := rfl
  obtain ⟨q0, q5, _⟩ := packs_in hc hk1
  have hin := hull_in (l := (packs c (every c)).map fun k => sumTo c (fullC c) k c.piles.length) (List.mem_map.2 ⟨k1, hk1, rfl⟩)
  have ho := sum_ord hc hk1 (fullC c) c.piles.length (Nat.le_refl _)
  have hlow := sumTo_low hc (set := fullC c) q0 q5 c.piles.length (Nat.le_refl _)
  have h5 := sum_5000 hc hk1 (fullC c) c.piles.length (Nat.le_refl _)
  refine ⟨by rw [e]; omega, ?_, ?_, fun hpk => ?_, ?_, ?_, fun o => ?_⟩
  · rw [e, h1]; exact (sum_full hk1 _ (Nat.le_refl _)).1
  · rw [e, h2]; exact (sum_full hk2 _ (Nat.le_refl _)).2
  · have hall : ∀ k ∈ packs c (every c), k = c.pack.lo := fun k hk => by
      obtain ⟨_, _, a, b, _⟩ := packs_in hc hk; omega
    have hone : packs c (every c) = [c.pack.lo] := by
      have hsp : spanL c.pack = [c.pack.lo] := by
        unfold spanL
        rw [show (c.pack.hi + 1 - c.pack.lo).toNat = 1 by omega]
        simp
      unfold packs at hne ⊢
      rw [hsp] at hne ⊢
      rw [List.filter_cons] at hne ⊢
      split
      · rfl
      · rename_i hh; rw [if_neg hh] at hne; exact absurd rfl hne
    rw [e, hone]
    exact sum_one hone _ (Nat.le_refl _)
  · rw [e, h1]; omega
  · rw [e, h1]; omega
  · have hi2 := hull_in (l := (packs c (every c)).map fun k => sumTo c o k c.piles.length) (List.mem_map.2 ⟨k1, hk1, rfl⟩)
    have e2 : together c o = hull ((packs c (every c)).map fun k => sumTo c o k c.piles.length) := rfl
    have := sum_le hc q0 q5 o c.piles.length (Nat.le_refl _)
    rw [e2, e, h1]; omega
end Clm
end Go.Proofs.Ytimgnlellflciaa

/- The plain law of ClampClash. -/
namespace Go.Proofs.Ytimgnlellflciaa
open Go
namespace Clm
def keepN {α : Type} (p : Nat → α → Bool) (l : List α) (i : Nat) : List α := ((l.take i).zipIdx.filter fun q => p q.2 q.1).map (·.1)
theorem keepN_zero {α : Type} (p : Nat → α → Bool) (l : List α) : keepN p l 0 = [] := rfl
theorem keepN_succ {α : Type} {p : Nat → α → Bool} {l : List α} {i : Nat} {v : α} (h : l[i]? = some v) : keepN p l (i + 1) = keepN p l i ++ (if p i v then [v] else []) := by
  have hi := (List.getElem?_eq_some_iff.1 h).1
  have hl : (l.take i).length = i := by simp; omega
  unfold keepN
  rw [List.take_add_one, h]
  simp only [Option.toList_some, List.zipIdx_append, hl, Nat.zero_add, List.filter_append, List.map_append, List.zipIdx_cons, List.zipIdx_nil, List.filter_cons, List.filter_nil]
  split <;> simp
theorem keepN_len {α : Type} (p : Nat → α → Bool) (l : List α) (i : Nat) : (keepN p l i).length ≤ i := by
  unfold keepN
  rw [List.length_map]
  refine Nat.le_trans (List.length_filter_le _ _) ?_
  simp; omega
theorem keepN_mem {α : Type} {p : Nat → α → Bool} {l : List α} {i : Nat} {v : α} (h : v ∈ keepN p l i) : v ∈ l := by
  unfold keepN at h
  obtain ⟨q, hq, rfl⟩ := List.mem_map.1 h
  obtain ⟨h1, _⟩ := List.mem_filter.1 hq
  have := List.mem_zipIdx h1
  obtain ⟨_, _, h3⟩ := this
  rw [h3]
  exact List.mem_of_mem_take (List.getElem_mem _)
def isIn (s : Nat) (i : Nat) (v : Evt) : Bool := decide (v.kind ≠ 1) || s.testBit i
def only (c : Cl) (s : Nat) : Cl := { c with events := keepN (isIn s) c.events c.events.length }
theorem only_fine {c : Cl} (hc : Fine c) (s : Nat) : Fine (only c s) :=
  ⟨hc.piles, hc.pack, Nat.le_trans (keepN_len ..) hc.events, hc.pile, fun v hv => hc.event v (keepN_mem hv)⟩
theorem can_iff {c : Cl} (hc : Fine c) (s : Nat) : can c s = true ↔ ∃ k, c.pack.has k ∧ ∀ i, i < c.piles.length → ∃ n y, Poss c i k s n y := by
  have hp := hc.pack
  unfold can
  constructor
  · intro h
    have hne : packs c s ≠ [] := by intro e; rw [e] at h; cases h
    obtain ⟨k, hk⟩ := List.exists_mem_of_ne_nil _ hne
    obtain ⟨h0, _, h1, h2, h3⟩ := packs_in hc hk
    exact ⟨k, ⟨h1, h2⟩, fun i hi => (ways_ne hc hi h0 s).1 (h3 i hi)⟩
  · rintro ⟨k, hk, h⟩
    simp only [Sp.has] at hk
    have : k ∈ packs c s := by
      unfold packs
      rw [List.mem_filter, mem_span]
      refine ⟨hk, List.all_eq_true.2 fun i hi => ?_⟩
      have hi' : i < c.piles.length := by simpa using hi
      simpa using (ways_ne hc hi' (by omega) s).2 (h i hi')
    cases h' : packs c s with
    | nil => rw [h'] at this; cases this
    | cons a l => rfl
def bfOf (n : Int) (v : Evt) : Bf := if v.clamp ≠ n then .nil else if v.kind = 0 then .sale v.sods else .count v.sods
def bfIn (s : Nat) (n : Int) (p : Evt × Nat) : Bf := if p.1.clamp ≠ n then .nil else if p.1.kind = 0 then .sale p.1.sods else if bit s p.2 then .count p.1.sods else .nil
theorem goes_keep (s : Nat) (n : Int) : ∀ (l : List (Evt × Nat)) (x y : Int), (∀ q ∈ l, q.1.kind = 0 ∨ q.1.kind = 1) → (Goes (l.map (bfIn s n)) x y ↔ Goes (((l.filter fun q => isIn s q.2 q.1).map (·.1)).map (bfOf n)) x y)
  | [], x, y, _ => Iff.rfl
  | q :: l, x, y, h => by
    have ih := fun x => goes_keep s n l x y fun q hq => h q (by simp [hq])
    have hk := h q (by simp)
    rw [List.map_cons, zlr]
    simp only [ih]
    rw [← zlr (y := y)]
    rw [List.filter_cons]
    by_cases hq : isIn s q.2 q.1 = true
    · rw [if_pos hq, List.map_cons, List.map_cons]
      have e : bfIn s n q = bfOf n q.1 := by
        unfold bfIn bfOf bit
        unfold isIn at hq
        split
        · rfl
        · split
          · rfl
          · rename_i h0
            have h1 : q.1.kind = 1 := by omega
            rw [h1] at hq
            have hb : s.testBit q.2 = true := by simpa using hq
            rw [hb, if_pos rfl]
      rw [e]
    · rw [if_neg hq]
      have e : bfIn s n q = .nil := by
        unfold bfIn bit
        unfold isIn at hq
        split
        · rfl
        · split
          · rename_i h0; rw [h0] at hq; exact absurd rfl hq
          · have hb : s.testBit q.2 = false := by
              cases h' : s.testBit q.2
              · rfl
              · rw [h'] at hq; simp at hq
            rw [hb]; rfl
      rw [e]
      rfl
theorem befell_every (c : Cl) (_hk : ∀ v ∈ c.events, v.kind = 0 ∨ v.kind = 1) (n : Int) : befell c n (every c) = c.events.map (bfOf n) := by
  have : befell c n (every c) = c.events.zipIdx.map fun p => bfOf n p.1 := by
    unfold befell
    refine List.map_congr_left fun p hp => ?_
    obtain ⟨v, i⟩ := p
    obtain ⟨_, h2, h3⟩ := List.mem_zipIdx hp
    simp only at h2 h3 ⊢
    unfold bfOf bit
    rw [every_bit, decide_eq_true (by omega), if_pos rfl]
  rw [this, ← Function.comp_def (bfOf n) Prod.fst, ← List.map_map]
  congr 1
  simp
theorem poss_only {c : Cl} (hc : Fine c) (s : Nat) (i : Nat) (k n y : Int) : Poss (only c s) i k (every (only c s)) n y ↔ Poss c i k s n y := by
  unfold Poss
  rw [befell_every (only c s) (fun v hv => ((only_fine hc s).event v hv).2.1)]
  have : ∀ n, Goes (befell c i s) n y ↔ Goes ((only c s).events.map (bfOf i)) n y := by
    intro n
    have h := goes_keep s i c.events.zipIdx n y fun q hq => by
      have := List.mem_zipIdx hq
      obtain ⟨_, _, h3⟩ := this
      rw [h3]; exact (hc.event _ (List.getElem_mem _)).2.1
    have e : (only c s).events = (c.events.zipIdx.filter fun q => isIn s q.2 q.1).map (·.1) := by
      show keepN (isIn s) c.events c.events.length = _
      unfold keepN
      rw [List.take_length]
    rw [e]
    exact h
  simp only [this]
  rfl
theorem can_only {c : Cl} (hc : Fine c) (s : Nat) : can (only c s) (every (only c s)) = can c s := by
  rw [Bool.eq_iff_iff, can_iff (only_fine hc s), can_iff hc]
  simp only [poss_only hc]
  exact Iff.rfl
end Clm
end Go.Proofs.Ytimgnlellflciaa

/- The plain law of ClampEnds: what a clamp has, and a count more. -/
namespace Go.Proofs.Ytimgnlellflciaa
open Go
namespace Clm
open Ev.K (builtG soldG)
theorem ofAll_at {c : Cl} (hc : Fine c) (hcan : can c (every c) = true) {i : Nat} (hi : i < c.piles.length) (f : Int → Way → Sp) :
    (∃ k ∈ packs c (every c), ∃ w ∈ ways c i k (every c), (ofAll c i f).lo = (f k w).lo) ∧ ∃ k ∈ packs c (every c), ∃ w ∈ ways c i k (every c), (ofAll c i f).hi = (f k w).hi := by
  have hne := can_packs hcan
  obtain ⟨⟨x, hx, h1⟩, ⟨y, hy, h2⟩⟩ := hull_at (l := (packs c (every c)).map fun k => spanOf c i k (f k)) (by simpa using hne)
  obtain ⟨k1, hk1, rfl⟩ := List.mem_map.1 hx
  obtain ⟨k2, hk2, rfl⟩ := List.mem_map.1 hy
  have e : ofAll c i f = hull ((packs c (every c)).map fun k => spanOf c i k (f k)) := rfl
  have g : ∀ k ∈ packs c (every c), ways c i k (every c) ≠ [] := fun k hk => (packs_in hc hk).2.2.2.2 i hi
  constructor
  · obtain ⟨⟨x, hx, h3⟩, _⟩ := hull_at (l := (ways c i k1 (every c)).map (f k1)) (by simpa using g k1 hk1)
    obtain ⟨w, hw, rfl⟩ := List.mem_map.1 hx
    exact ⟨k1, hk1, w, hw, by rw [e, h1]; exact h3⟩
  · obtain ⟨_, ⟨x, hx, h3⟩⟩ := hull_at (l := (ways c i k2 (every c)).map (f k2)) (by simpa using g k2 hk2)
    obtain ⟨w, hw, rfl⟩ := List.mem_map.1 hx
    exact ⟨k2, hk2, w, hw, by rw [e, h2]; exact h3⟩
theorem ofAll_in {c : Cl} {i : Nat} (f : Int → Way → Sp) {k : Int} (hk : k ∈ packs c (every c)) {w : Way} (hw : w ∈ ways c i k (every c)) : (ofAll c i f).lo ≤ (f k w).lo ∧ (f k w).hi ≤ (ofAll c i f).hi := by
  have h1 := hull_in (l := (packs c (every c)).map fun k => spanOf c i k (f k)) (List.mem_map.2 ⟨k, hk, rfl⟩)
  have h2 := hull_in (l := (ways c i k (every c)).map (f k)) (List.mem_map.2 ⟨w, hw, rfl⟩)
  have e1 : ofAll c i f = hull ((packs c (every c)).map fun k => spanOf c i k (f k)) := rfl
  have e2 : spanOf c i k (f k) = hull ((ways c i k (every c)).map (f k)) := rfl
  rw [e1]; rw [← e2] at h2; omega
theorem left_way {c : Cl} (hc : Fine c) {i : Nat} (hi : i < c.piles.length) {k : Int} (h0 : 0 ≤ k) (h5 : k ≤ 5) {w : Way} (hw : w ∈ ways c i k (every c)) : 0 ≤ (leftW c w).lo ∧ (leftW c w).lo ≤ (leftW c w).hi ∧ (leftW c w).hi ≤ w.size.sods k ∧ 0 ≤ w.size.sods k ∧ w.size.sods k ≤ 5000 := by
  obtain ⟨h1, h2, y, h3⟩ := (mem_ways hc hi h0 _ w).1 hw
  obtain ⟨s0, s1⟩ := sods_le hc hi h0 h5 h1
  have hf := zfc hc i (every c)
  have e2 : leftW c w = ends (befell c i (every c)) ⟨w.size.sods k, w.size.sods k⟩ := by
    rw [← left_eq]; obtain ⟨a, b⟩ := w; simp only at h2; subst h2; rfl
  have hh := (ends_one _ _ y hf s0).2 h3
  have hs := (some_has _).2 ⟨y, hh⟩
  have h4 := ends_le (befell c i (every c)) ⟨w.size.sods k, w.size.sods k⟩ (Int.le_refl _) hf s0 hs
  have h5 := ends_lo (befell c i (every c)) ⟨w.size.sods k, w.size.sods k⟩ s0
  rw [zha] at hs
  rw [e2]
  exact ⟨h5, hs, h4, s0, s1⟩
theorem has_hull {c : Cl} (hc : Fine c) (hcan : can c (every c) = true) {i : Nat} (hi : i < c.piles.length) : Hull (hasC c i) fun y => ∃ k ∈ packs c (every c), ∃ n, Poss c i k (every c) n y :=
  zlp (fun k => spanOf c i k (leftW c)) (fun k y => ∃ n, Poss c i k (every c) n y) _ (can_packs hcan) fun k hk => by
    obtain ⟨h0, _, _, _, hw⟩ := packs_in hc hk
    exact left_hull hc hi h0 (hw i hi)
theorem sumTo_one (c : Cl) (i : Nat) (k : Int) : ∀ n, sumTo c (2 ^ i) k n = if i < n then spanOf c i k (leftW c) else ⟨0, 0⟩
  | 0 => by rw [if_neg (by omega)]; rfl
  | n + 1 => by
    rw [sumTo_succ, sumTo_one c i k n]
    unfold bit
    rw [Nat.testBit_two_pow]
    by_cases h : i = n
    · subst h
      rw [if_pos (by simp), if_neg (by omega), if_pos (by omega)]
      simp
    · rw [if_neg (by simpa using h)]
      by_cases h1 : i < n
      · rw [if_pos h1, if_pos (by omega)]
      · rw [if_neg h1, if_neg (by omega)]
theorem tog_one (c : Cl) {i : Nat} (hi : i < c.piles.length) : together c (2 ^ i) = hasC c i := by
  rw [together_eq]
  unfold hasC ofAll
  congr 1
  refine List.map_congr_left fun k _ => ?_
  rw [sumTo_one, if_pos hi]
def plus (c : Cl) (v : Evt) : Cl := { c with events := c.events ++ [v] }
theorem plus_fine {c : Cl} (hc : Fine c) (h6 : c.events.length < 6) {v : Evt} (hv : (0 ≤ v.clamp ∧ v.clamp < c.piles.length) ∧ (v.kind = 0 ∨ v.kind = 1) ∧ 0 ≤ v.sods.lo ∧ v.sods.lo ≤ v.sods.hi ∧ v.sods.hi ≤ 5000 ∧ v.sods.hi - v.sods.lo ≤ (if v.kind = 0 then 3 else 5000)) : Fine (plus c v) :=
  ⟨hc.piles, hc.pack, by simp [plus]; omega, hc.pile, fun u hu => by
    simp only [plus, List.mem_append, List.mem_singleton] at hu
    rcases hu with hu | rfl
    · exact hc.event u hu
    · exact hv⟩
theorem goes_append : ∀ (l : List Bf) (e : Bf) (x y : Int), Goes (l ++ [e]) x y ↔ ∃ z, Goes l x z ∧ Goes [e] z y
  | [], e, x, y => ⟨fun h => ⟨x, rfl, h⟩, fun ⟨z, h1, h2⟩ => by have h1 : z = x := h1; subst h1; exact h2⟩
  | a :: l, e, x, y => by
    rw [List.cons_append, zlr]
    constructor
    · rintro ⟨z, h1, h2⟩
      obtain ⟨u, h3, h4⟩ := (goes_append l e z y).1 h2
      exact ⟨u, (zlr ..).2 ⟨z, h1, h3⟩, h4⟩
    · rintro ⟨u, h1, h2⟩
      obtain ⟨z, h3, h4⟩ := (zlr ..).1 h1
      exact ⟨z, h3, (goes_append l e z y).2 ⟨u, h4, h2⟩⟩
theorem befell_plus {c : Cl} {v : Evt} (hk : ∀ u ∈ (plus c v).events, u.kind = 0 ∨ u.kind = 1) (n : Int) : befell (plus c v) n (every (plus c v)) = befell c n (every c) ++ [bfOf n v] := by
  rw [befell_every _ hk, befell_every c fun u hu => hk u (by simp [plus, hu])]
  simp [plus]
theorem mem_packs {c : Cl} (hc : Fine c) (s : Nat) (k : Int) : k ∈ packs c s ↔ c.pack.has k ∧ ∀ i, i < c.piles.length → ∃ n y, Poss c i k s n y := by
  have hp := hc.pack
  constructor
  · intro hk
    obtain ⟨h0, _, h1, h2, h3⟩ := packs_in hc hk
    exact ⟨⟨h1, h2⟩, fun i hi => (ways_ne hc hi h0 s).1 (h3 i hi)⟩
  · rintro ⟨hk, h⟩
    simp only [Sp.has] at hk
    unfold packs
    rw [List.mem_filter, mem_span]
    refine ⟨hk, List.all_eq_true.2 fun i hi => ?_⟩
    have hi' : i < c.piles.length := by simpa using hi
    simpa using (ways_ne hc hi' (by omega) s).2 (h i hi')
def cnt (i : Nat) (o : Int) : Evt := ⟨1, i, ⟨o, o⟩⟩
theorem cnt_fine {c : Cl} (hc : Fine c) (h6 : c.events.length < 6) {i : Nat} (hi : i < c.piles.length) {o : Int} (h0 : 0 ≤ o) (h5 : o ≤ 5000) : Fine (plus c (cnt i o)) :=
  plus_fine hc h6 ⟨⟨Int.natCast_nonneg _, by show (i : Int) < (c.piles.length : Int); omega⟩, .inr rfl, h0, Int.le_refl _, h5, by simp [cnt]⟩
theorem poss_plus {c : Cl} {i : Nat} {o : Int} (hf : Fine (plus c (cnt i o))) (j : Nat) (k n y : Int) : Poss (plus c (cnt i o)) j k (every (plus c (cnt i o))) n y ↔ Poss c j k (every c) n y ∧ (j = i → y = o) := by
  unfold Poss
  rw [befell_plus fun u hu => (hf.event u hu).2.1]
  have hg : Goes (befell c j (every c) ++ [bfOf j (cnt i o)]) n y ↔ Goes (befell c j (every c)) n y ∧ (j = i → y = o) := by
    rw [goes_append]
    unfold bfOf cnt
    simp only
    by_cases h : (i : Int) = (j : Int)
    · have h' : j = i := by omega
      rw [if_neg (by simpa using h), if_neg (by decide)]
      simp only [Goes, h', true_implies]
      exact ⟨fun ⟨z, h1, h2, h3, h4⟩ => ⟨by subst h4; exact h1, by omega⟩, fun ⟨h1, h2⟩ => ⟨y, h1, by omega, by omega, rfl⟩⟩
    · have h' : ¬ j = i := by omega
      rw [if_pos h]
      simp only [Goes, h', false_implies, and_true]
      exact ⟨fun ⟨z, h1, h2⟩ => by subst h2; exact h1, fun h1 => ⟨y, h1, rfl⟩⟩
  simp only [hg]
  constructor
  · rintro ⟨s, h1, h2, h3, h4⟩; exact ⟨⟨s, h1, h2, h3⟩, h4⟩
  · rintro ⟨⟨s, h1, h2, h3⟩, h4⟩; exact ⟨s, h1, h2, h3, h4⟩
theorem can_plus {c : Cl} (hc : Fine c) {i : Nat} (hi : i < c.piles.length) {o : Int} (hf : Fine (plus c (cnt i o))) : can (plus c (cnt i o)) (every (plus c (cnt i o))) = true ↔ ∃ k ∈ packs c (every c), ∃ n, Poss c i k (every c) n o := by
  rw [can_iff hf]
  constructor
  · rintro ⟨k, hk, h⟩
    refine ⟨k, (mem_packs hc _ k).2 ⟨hk, fun j hj => ?_⟩, ?_⟩
    · obtain ⟨n, y, h1⟩ := h j hj
      exact ⟨n, y, ((poss_plus hf j k n y).1 h1).1⟩
    · obtain ⟨n, y, h1⟩ := h i hi
      obtain ⟨h2, h3⟩ := (poss_plus hf i k n y).1 h1
      have := h3 rfl
      subst this
      exact ⟨n, h2⟩
  · rintro ⟨k, hk, n, h⟩
    obtain ⟨h1, h2⟩ := (mem_packs hc _ k).1 hk
    refine ⟨k, h1, fun j hj => ?_⟩
    by_cases hji : j = i
    · subst hji
      exact ⟨n, o, (poss_plus hf j k n o).2 ⟨h, fun _ => rfl⟩⟩
    · obtain ⟨n, y, h3⟩ := h2 j hj
      exact ⟨n, y, (poss_plus hf j k n y).2 ⟨h3, fun h => absurd h hji⟩⟩
structure EndsLaw (c : Cl) (i : Nat) : Prop where
  ord : (hasC c i).lo ≤ (hasC c i).hi
  nn : 0 ≤ (hasC c i).lo
  le : (hasC c i).hi ≤ 5000
  sold0 : 0 ≤ (ofAll c i (soldG c)).lo
  sold1 : (ofAll c i (soldG c)).lo ≤ 5000
  sold2 : 0 ≤ (ofAll c i (soldG c)).hi ∧ (ofAll c i (soldG c)).hi ≤ 5000
  built0 : 0 ≤ (ofAll c i builtG).lo ∧ (ofAll c i builtG).lo ≤ 5000
  built1 : 0 ≤ (ofAll c i builtG).hi ∧ (ofAll c i builtG).hi ≤ 5000
  low : (ofAll c i builtG).lo - (ofAll c i (soldG c)).hi ≤ (hasC c i).lo
  high : (hasC c i).hi ≤ (ofAll c i builtG).hi - (ofAll c i (soldG c)).lo
theorem ends_law {c : Cl} (hc : Fine c) (hcan : can c (every c) = true) {i : Nat} (hi : i < c.piles.length) : EndsLaw c i := by
  have hl : ∀ k ∈ packs c (every c), ∀ w ∈ ways c i k (every c), _ := fun k hk w hw => left_way hc hi (packs_in hc hk).1 (packs_in hc hk).2.1 hw
  obtain ⟨⟨a1, a2, a3, a4, a5⟩, ⟨b1, b2, b3, b4, b5⟩⟩ := ofAll_at hc hcan hi (fun _ => leftW c)
  obtain ⟨⟨c1, c2, c3, c4, c5⟩, ⟨d1, d2, d3, d4, d5⟩⟩ := ofAll_at hc hcan hi (soldG c)
  obtain ⟨⟨e1, e2, e3, e4, e5⟩, ⟨f1, f2, f3, f4, f5⟩⟩ := ofAll_at hc hcan hi builtG
  have e : hasC c i = ofAll c i fun _ => leftW c := rfl
  have A := hl a1 a2 a3 a4
  have B := hl b1 b2 b3 b4
  have C := hl c1 c2 c3 c4
  have D := hl d1 d2 d3 d4
  have E := hl e1 e2 e3 e4
  have F := hl f1 f2 f3 f4
  have ai := ofAll_in (fun _ => leftW c) a2 a4
  have ai1 := ofAll_in (soldG c) a2 a4
  have ai2 := ofAll_in builtG a2 a4
  have bi1 := ofAll_in (soldG c) b2 b4
  have bi2 := ofAll_in builtG b2 b4
  simp only [soldG, builtG] at *
  rw [← e] at a5 b5 ai
  refine ⟨by omega, by omega, by omega, by omega, by omega, ⟨by omega, by omega⟩, ⟨by omega, by omega⟩, ⟨by omega, by omega⟩, by omega, by omega⟩
theorem ends_cnt {c : Cl} (hc : Fine c) (hcan : can c (every c) = true) (h6 : c.events.length < 6) {i : Nat} (hi : i < c.piles.length) {o : Int} (h0 : 0 ≤ o) (h5 : o ≤ 5000) (ho : o = (hasC c i).lo ∨ o = (hasC c i).hi ∨ ¬ (hasC c i).has o) :
    (can (plus c (cnt i o)) (every (plus c (cnt i o))) = true ∧ (hasC c i).has o ∧ hasC (plus c (cnt i o)) i = ⟨o, o⟩) ∨ (can (plus c (cnt i o)) (every (plus c (cnt i o))) = false ∧ ¬ (hasC c i).has o) := by
  have hf := cnt_fine hc h6 hi h0 h5
  have hh := has_hull hc hcan hi
  cases h : can (plus c (cnt i o)) (every (plus c (cnt i o))) with
  | true =>
    have h1 := (can_plus hc hi hf).1 h
    refine .inl ⟨rfl, hh.all o h1, ?_⟩
    have h2 := has_hull hf h (i := i) hi
    have h3 : ∀ y, (∃ k ∈ packs (plus c (cnt i o)) (every (plus c (cnt i o))), ∃ n, Poss (plus c (cnt i o)) i k (every (plus c (cnt i o))) n y) → y = o := fun y ⟨k, _, n, hp⟩ => ((poss_plus hf i k n y).1 hp).2 rfl
    have e1 := h3 _ h2.lo
    have e2 := h3 _ h2.hi
    generalize hasC (plus c (cnt i o)) i = z at *
    obtain ⟨za, zb⟩ := z
    simp only at e1 e2
    rw [e1, e2]
  | false =>
    refine .inr ⟨rfl, fun hb => ?_⟩
    have hn : ¬ ∃ k ∈ packs c (every c), ∃ n, Poss c i k (every c) n o := fun h1 => by
      rw [(can_plus hc hi hf).2 h1] at h; cases h
    rcases ho with rfl | rfl | h1
    · exact hn hh.lo
    · exact hn hh.hi
    · exact h1 hb
end Clm
end Go.Proofs.Ytimgnlellflciaa

/- The plain law of ClampClash: the sets. -/
namespace Go.Proofs.Ytimgnlellflciaa
open Go
namespace Clm
open Ev.K (clashP clashF clashE clashV)
structure ClaLaw (c : Cl) (S : Nat) : Prop where
  lt : S < 2 ^ c.events.length
  sub : S &&& countsN c = S
  no : can c S = false
  drop : ∀ i, i < c.events.length → S.testBit i = true → can c (S - 2 ^ i) = true
  least : ∀ o, o < 2 ^ c.events.length → o &&& countsN c = o → can c o = false → sizeN S < sizeN o ∨ sizeN S = sizeN o ∧ S ≤ o
theorem clash_law {c : Cl} (hc : Fine c) (hcan : can c (every c) = false) : ∃ S, clashF c = some S ∧ ClaLaw c S := by
  have hcl : countsN c < 2 ^ c.events.length := zcg _ _
  have h6 := hc.events
  have hp1 : clashP c (countsN c) = true := by
    unfold clashP
    rw [can_counts hc, hcan]; simp
  obtain ⟨S, hS⟩ := first_some (by omega) hcl hp1
  have hl := first_least (by omega) hS
  have his := hl.is
  simp only [clashP, Bool.and_eq_true, beq_iff_eq, Bool.not_eq_true'] at his
  have hlt : ∀ o, o < 2 ^ c.events.length → o &&& countsN c = o → can c o = false → sizeN S < sizeN o ∨ sizeN S = sizeN o ∧ S ≤ o := fun o h1 h2 h3 => hl.least o h1 (by unfold clashP; rw [h2, h3]; simp)
  have hp2 : 2 ^ c.events.length ≤ 2 ^ 6 := Nat.pow_le_pow_right (by decide) h6
  have hSl := hl.lt
  refine ⟨S, hS, hl.lt, his.1, his.2, fun i hi hb => ?_, hlt⟩
  obtain ⟨d1, d2, d3⟩ := bit_drop i (by omega) S (by omega) hb
  cases hT : can c (S - 2 ^ i) with
  | true => rfl
  | false =>
    have h1 : (S - 2 ^ i) &&& countsN c = S - 2 ^ i := by
      rw [← d3, Nat.and_assoc, his.1]
    rcases hlt (S - 2 ^ i) (Nat.lt_of_le_of_lt (Nat.sub_le _ _) hl.lt) h1 hT with h | ⟨h, _⟩ <;> omega
end Clm
end Go.Proofs.Ytimgnlellflciaa

/- The code of functions of the laws, for the evaluator. Printed by program. -/
namespace Go.Proofs.Ytimgnlellflciaa
open Go
namespace Ev
def af5 : AFunc := ⟨338, [(.tmp 6)], (.seq (.ops [⟨0, (some 3), (.box (.tmp 0)), none, 0⟩, ⟨1, (some 6), (.mov (.val (.bool false))), none, 0⟩]) (.seq (.seq (.ops [⟨0, (some 36), (.load (some 4) (.tmp 3)), none, 0⟩, ⟨1, (some 37), (.call (.val (.fn (Fn.func 21) [] [])) [(.tmp 36)]), none, 0⟩]) (.cond (.tmp 37) (.seq (.ops [⟨0, (some 38), (.call (.val (.fn (Fn.func 19) [] [])) []), none, 0⟩, ⟨1, (some 6), (.mov (.tmp 38)), none, 0⟩]) .ret) .skip)) (.seq (.seq (.ops [⟨0, (some 39), (.load (some 4) (.tmp 3)), none, 0⟩, ⟨1, (some 40), (.call (.val (.fn (Fn.func 22) [] [])) [(.tmp 39)]), none, 0⟩, ⟨2, (some 41), (.not (.tmp 40)), none, 0⟩]) (.cond (.tmp 41) (.seq (.ops [⟨0, (some 43), (.load (some 4) (.tmp 3)), none, 0⟩, ⟨1, (some 44), (.call (.val (.fn (Fn.func 25) [] [])) [(.tmp 43)]), none, 0⟩, ⟨2, (some 42), (.mov (.tmp 44)), none, 0⟩, ⟨3, (some 45), (.extract (.tmp 42) 0), none, 0⟩, ⟨4, (some 46), (.extract (.tmp 42) 1), none, 0⟩, ⟨5, (some 7), (.alloc [(.int .i64 0), (.int .i64 0)]), none, 0⟩, ⟨6, none, (.store 2 (.tmp 7) (.tmp 45)), none, 0⟩, ⟨7, (some 8), (.mov (.tmp 46)), none, 0⟩]) (.seq (.ops [⟨0, (some 48), (.load (some 4) (.tmp 3)), none, 0⟩, ⟨1, (some 49), (.call (.val (.fn (Fn.func 15) [] [])) [(.tmp 48), (.val (.int .i64 0))]), none, 0⟩, ⟨2, (some 47), (.mov (.tmp 49)), none, 0⟩, ⟨3, (some 50), (.extract (.tmp 47) 0), none, 0⟩, ⟨4, (some 51), (.extract (.tmp 47) 1), none, 0⟩, ⟨5, (some 9), (.mov (.tmp 50)), none, 0⟩, ⟨6, (some 10), (.mov (.tmp 51)), none, 0⟩]) (.seq (.ops [⟨0, (some 52), (.mov (.tmp 8)), none, 0⟩, ⟨1, (some 53), (.bin .eql (.tmp 52) (.val (.int .i64 1))), none, 0⟩, ⟨2, (some 54), (.mov (.tmp 53)), none, 0⟩, ⟨3, (some 55), (.mov (.tmp 10)), (some (54, true)), 0⟩, ⟨4, (some 56), (.mov (.tmp 8)), (some (54, true)), 0⟩, ⟨5, (some 57), (.bin .eql (.tmp 55) (.tmp 56)), (some (54, true)), 0⟩, ⟨6, (some 58), (.pick (.tmp 54) (.tmp 57) (.val (.bool false))), none, 0⟩, ⟨7, (some 59), (.mov (.tmp 58)), none, 0⟩, ⟨8, (some 60), (.load (some 2) (.tmp 7)), (some (59, true)), 0⟩, ⟨9, (some 61), (.build [(.int .i64 0), (.int .i64 0)] []), (some (59, true)), 0⟩, ⟨10, (some 62), (.eq (.agg [true, true]) false (.tmp 60) (.tmp 61)), (some (59, true)), 0⟩, ⟨11, (some 63), (.pick (.tmp 59) (.tmp 62) (.val (.bool false))), none, 0⟩, ⟨12, (some 64), (.mov (.tmp 63)), none, 0⟩, ⟨13, (some 65), (.mov (.tmp 9)), (some (64, true)), 0⟩, ⟨14, (some 66), (.bin .eql (.tmp 65) (.val (.int .i64 0))), (some (64, true)), 0⟩, ⟨15, (some 67), (.pick (.tmp 64) (.tmp 66) (.val (.bool false))), none, 0⟩, ⟨16, (some 68), (.mov (.tmp 67)), none, 0⟩, ⟨17, (some 69), (.call (.val (.fn (Fn.func 19) [] [])) []), (some (68, true)), 0⟩, ⟨18, (some 70), (.pick (.tmp 68) (.tmp 69) (.val (.bool false))), none, 0⟩, ⟨19, (some 6), (.mov (.tmp 70)), none, 0⟩]) .ret))) .skip)) (.seq (.ops [⟨0, (some 71), (.mov (.tmp 1)), none, 0⟩, ⟨1, (some 72), (.conv .i64 (.tmp 71)), none, 0⟩, ⟨2, (some 73), (.fieldA 0 (.tmp 3)), none, 0⟩, ⟨3, (some 74), (.load none (.tmp 73)), none, 0⟩, ⟨4, (some 75), (.len (.tmp 74)), none, 0⟩, ⟨5, (some 76), (.bin .rem (.tmp 72) (.tmp 75)), none, 0⟩, ⟨6, (some 77), (.mov (.tmp 2)), none, 0⟩, ⟨7, (some 78), (.conv .i64 (.tmp 77)), none, 0⟩, ⟨8, (some 79), (.bin .rem (.tmp 78) (.val (.int .i64 5001))), none, 0⟩, ⟨9, (some 11), (.mov (.tmp 76)), none, 0⟩, ⟨10, (some 12), (.mov (.tmp 79)), none, 0⟩]) (.seq (.ops [⟨0, (some 81), (.load (some 4) (.tmp 3)), none, 0⟩, ⟨1, (some 82), (.mov (.tmp 11)), none, 0⟩, ⟨2, (some 83), (.call (.val (.fn (Fn.func 12) [] [])) [(.tmp 81), (.tmp 82)]), none, 0⟩, ⟨3, (some 80), (.mov (.tmp 83)), none, 0⟩, ⟨4, (some 84), (.extract (.tmp 80) 0), none, 0⟩, ⟨5, (some 85), (.extract (.tmp 80) 1), none, 0⟩, ⟨6, (some 13), (.alloc [(.int .i64 0), (.int .i64 0)]), none, 0⟩, ⟨7, none, (.store 2 (.tmp 13) (.tmp 84)), none, 0⟩, ⟨8, (some 14), (.mov (.tmp 85)), none, 0⟩]) (.seq (.ops [⟨0, (some 87), (.load (some 4) (.tmp 3)), none, 0⟩, ⟨1, (some 88), (.mov (.tmp 11)), none, 0⟩, ⟨2, (some 89), (.call (.val (.fn (Fn.func 10) [] [])) [(.tmp 87), (.tmp 88)]), none, 0⟩, ⟨3, (some 86), (.mov (.tmp 89)), none, 0⟩, ⟨4, (some 90), (.extract (.tmp 86) 0), none, 0⟩, ⟨5, (some 91), (.extract (.tmp 86) 1), none, 0⟩, ⟨6, (some 15), (.alloc [(.int .i64 0), (.int .i64 0)]), none, 0⟩, ⟨7, none, (.store 2 (.tmp 15) (.tmp 90)), none, 0⟩, ⟨8, (some 16), (.mov (.tmp 91)), none, 0⟩]) (.seq (.ops [⟨0, (some 93), (.load (some 4) (.tmp 3)), none, 0⟩, ⟨1, (some 94), (.mov (.tmp 11)), none, 0⟩, ⟨2, (some 95), (.call (.val (.fn (Fn.func 13) [] [])) [(.tmp 93), (.tmp 94)]), none, 0⟩, ⟨3, (some 92), (.mov (.tmp 95)), none, 0⟩, ⟨4, (some 96), (.extract (.tmp 92) 0), none, 0⟩, ⟨5, (some 97), (.extract (.tmp 92) 1), none, 0⟩, ⟨6, (some 17), (.alloc [(.int .i64 0), (.int .i64 0)]), none, 0⟩, ⟨7, none, (.store 2 (.tmp 17) (.tmp 96)), none, 0⟩, ⟨8, (some 18), (.mov (.tmp 97)), none, 0⟩]) (.seq (.ops [⟨0, (some 99), (.load (some 4) (.tmp 3)), none, 0⟩, ⟨1, (some 100), (.mov (.tmp 11)), none, 0⟩, ⟨2, (some 101), (.mov (.tmp 12)), none, 0⟩, ⟨3, (some 102), (.call (.val (.fn (Fn.func 14) [] [])) [(.tmp 99), (.tmp 100), (.tmp 101)]), none, 0⟩, ⟨4, (some 98), (.mov (.tmp 102)), none, 0⟩, ⟨5, (some 103), (.extract (.tmp 98) 0), none, 0⟩, ⟨6, (some 104), (.extract (.tmp 98) 1), none, 0⟩, ⟨7, (some 19), (.mov (.tmp 103)), none, 0⟩, ⟨8, (some 20), (.mov (.tmp 104)), none, 0⟩]) (.seq (.ops [⟨0, (some 106), (.load (some 4) (.tmp 3)), none, 0⟩, ⟨1, (some 107), (.call (.val (.fn (Fn.func 26) [] [])) [(.tmp 106)]), none, 0⟩, ⟨2, (some 105), (.mov (.tmp 107)), none, 0⟩, ⟨3, (some 108), (.extract (.tmp 105) 0), none, 0⟩, ⟨4, (some 109), (.extract (.tmp 105) 1), none, 0⟩, ⟨5, (some 110), (.extract (.tmp 105) 2), none, 0⟩, ⟨6, (some 21), (.mov (.tmp 108)), none, 0⟩, ⟨7, (some 22), (.mov (.tmp 109)), none, 0⟩, ⟨8, (some 23), (.mov (.tmp 110)), none, 0⟩]) (.seq (.ops [⟨0, (some 112), (.load (some 4) (.tmp 3)), none, 0⟩, ⟨1, (some 113), (.call (.val (.fn (Fn.func 16) [] [])) [(.tmp 112)]), none, 0⟩, ⟨2, (some 111), (.mov (.tmp 113)), none, 0⟩, ⟨3, (some 114), (.extract (.tmp 111) 0), none, 0⟩, ⟨4, (some 115), (.extract (.tmp 111) 1), none, 0⟩, ⟨5, (some 24), (.mov (.tmp 114)), none, 0⟩, ⟨6, (some 25), (.mov (.tmp 115)), none, 0⟩]) (.seq (.ops [⟨0, (some 117), (.load (some 4) (.tmp 3)), none, 0⟩, ⟨1, (some 118), (.fieldA 0 (.tmp 3)), none, 0⟩, ⟨2, (some 119), (.load none (.tmp 118)), none, 0⟩, ⟨3, (some 120), (.len (.tmp 119)), none, 0⟩, ⟨4, (some 121), (.call (.val (.fn (Fn.func 12) [] [])) [(.tmp 117), (.tmp 120)]), none, 0⟩, ⟨5, (some 116), (.mov (.tmp 121)), none, 0⟩, ⟨6, (some 122), (.extract (.tmp 116) 0), none, 0⟩, ⟨7, (some 123), (.extract (.tmp 116) 1), none, 0⟩, ⟨8, (some 26), (.alloc [(.int .i64 0), (.int .i64 0)]), none, 0⟩, ⟨9, none, (.store 2 (.tmp 26) (.tmp 122)), none, 0⟩, ⟨10, (some 27), (.mov (.tmp 123)), none, 0⟩]) (.seq (.ops [⟨0, (some 125), (.load (some 4) (.tmp 3)), none, 0⟩, ⟨1, (some 126), (.mov (.tmp 11)), none, 0⟩, ⟨2, (some 127), (.call (.val (.fn (Fn.func 14) [] [])) [(.tmp 125), (.tmp 126), (.val (.int .i64 (-1)))]), none, 0⟩, ⟨3, (some 124), (.mov (.tmp 127)), none, 0⟩, ⟨4, (some 128), (.extract (.tmp 124) 0), none, 0⟩, ⟨5, (some 129), (.extract (.tmp 124) 1), none, 0⟩, ⟨6, (some 28), (.mov (.tmp 128)), none, 0⟩, ⟨7, (some 29), (.mov (.tmp 129)), none, 0⟩]) (.seq (.ops [⟨0, (some 131), (.load (some 4) (.tmp 3)), none, 0⟩, ⟨1, (some 132), (.call (.val (.fn (Fn.func 15) [] [])) [(.tmp 131), (.val (.int .i64 20001))]), none, 0⟩, ⟨2, (some 130), (.mov (.tmp 132)), none, 0⟩, ⟨3, (some 133), (.extract (.tmp 130) 0), none, 0⟩, ⟨4, (some 134), (.extract (.tmp 130) 1), none, 0⟩, ⟨5, (some 30), (.mov (.tmp 133)), none, 0⟩, ⟨6, (some 31), (.mov (.tmp 134)), none, 0⟩]) (.seq (.seq (.ops [⟨0, (some 135), (.mov (.tmp 27)), none, 0⟩, ⟨1, (some 136), (.bin .neq (.tmp 135) (.val (.int .i64 2))), none, 0⟩, ⟨2, (some 137), (.mov (.tmp 136)), none, 0⟩, ⟨3, (some 138), (.mov (.tmp 29)), (some (137, false)), 0⟩, ⟨4, (some 139), (.mov (.tmp 27)), (some (137, false)), 0⟩, ⟨5, (some 140), (.bin .neq (.tmp 138) (.tmp 139)), (some (137, false)), 0⟩, ⟨6, (some 141), (.pick (.tmp 137) (.val (.bool true)) (.tmp 140)), none, 0⟩, ⟨7, (some 142), (.mov (.tmp 141)), none, 0⟩, ⟨8, (some 143), (.mov (.tmp 31)), (some (142, false)), 0⟩, ⟨9, (some 144), (.mov (.tmp 27)), (some (142, false)), 0⟩, ⟨10, (some 145), (.bin .neq (.tmp 143) (.tmp 144)), (some (142, false)), 0⟩, ⟨11, (some 146), (.pick (.tmp 142) (.val (.bool true)) (.tmp 145)), none, 0⟩, ⟨12, (some 147), (.mov (.tmp 146)), none, 0⟩, ⟨13, (some 148), (.mov (.tmp 16)), (some (147, false)), 0⟩, ⟨14, (some 149), (.mov (.tmp 14)), (some (147, false)), 0⟩, ⟨15, (some 150), (.bin .neq (.tmp 148) (.tmp 149)), (some (147, false)), 0⟩, ⟨16, (some 151), (.pick (.tmp 147) (.val (.bool true)) (.tmp 150)), none, 0⟩, ⟨17, (some 152), (.mov (.tmp 151)), none, 0⟩, ⟨18, (some 153), (.mov (.tmp 18)), (some (152, false)), 0⟩, ⟨19, (some 154), (.mov (.tmp 14)), (some (152, false)), 0⟩, ⟨20, (some 155), (.bin .neq (.tmp 153) (.tmp 154)), (some (152, false)), 0⟩, ⟨21, (some 156), (.pick (.tmp 152) (.val (.bool true)) (.tmp 155)), none, 0⟩, ⟨22, (some 157), (.mov (.tmp 156)), none, 0⟩, ⟨23, (some 158), (.mov (.tmp 20)), (some (157, false)), 0⟩, ⟨24, (some 159), (.mov (.tmp 14)), (some (157, false)), 0⟩, ⟨25, (some 160), (.bin .neq (.tmp 158) (.tmp 159)), (some (157, false)), 0⟩, ⟨26, (some 161), (.pick (.tmp 157) (.val (.bool true)) (.tmp 160)), none, 0⟩, ⟨27, (some 162), (.mov (.tmp 161)), none, 0⟩, ⟨28, (some 163), (.mov (.tmp 23)), (some (162, false)), 0⟩, ⟨29, (some 164), (.mov (.tmp 14)), (some (162, false)), 0⟩, ⟨30, (some 165), (.bin .neq (.tmp 163) (.tmp 164)), (some (162, false)), 0⟩, ⟨31, (some 166), (.pick (.tmp 162) (.val (.bool true)) (.tmp 165)), none, 0⟩, ⟨32, (some 167), (.mov (.tmp 166)), none, 0⟩, ⟨33, (some 168), (.mov (.tmp 14)), (some (167, false)), 0⟩, ⟨34, (some 169), (.bin .eql (.tmp 168) (.val (.int .i64 0))), (some (167, false)), 0⟩, ⟨35, (some 170), (.mov (.tmp 25)), (some (167, false)), 0⟩, ⟨36, (some 171), (.bin .eql (.tmp 170) (.val (.int .i64 4))), (some (167, false)), 0⟩, ⟨37, (some 172), (.eq .bool true (.tmp 169) (.tmp 171)), (some (167, false)), 0⟩, ⟨38, (some 173), (.pick (.tmp 167) (.val (.bool true)) (.tmp 172)), none, 0⟩]) (.cond (.tmp 173) (.seq (.ops [⟨0, (some 6), (.mov (.val (.bool false))), none, 0⟩]) .ret) .skip)) (.seq (.seq (.ops [⟨0, (some 174), (.mov (.tmp 14)), none, 0⟩, ⟨1, (some 175), (.bin .neq (.tmp 174) (.val (.int .i64 0))), none, 0⟩]) (.cond (.tmp 175) (.seq (.ops [⟨0, (some 176), (.mov (.tmp 14)), none, 0⟩, ⟨1, (some 177), (.bin .eql (.tmp 176) (.val (.int .i64 10))), none, 0⟩, ⟨2, (some 178), (.mov (.tmp 177)), none, 0⟩, ⟨3, (some 179), (.load (some 2) (.tmp 13)), (some (178, true)), 0⟩, ⟨4, (some 180), (.build [(.int .i64 0), (.int .i64 0)] []), (some (178, true)), 0⟩, ⟨5, (some 181), (.eq (.agg [true, true]) false (.tmp 179) (.tmp 180)), (some (178, true)), 0⟩, ⟨6, (some 182), (.pick (.tmp 178) (.tmp 181) (.val (.bool false))), none, 0⟩, ⟨7, (some 183), (.mov (.tmp 182)), none, 0⟩, ⟨8, (some 184), (.mov (.tmp 19)), (some (183, true)), 0⟩, ⟨9, (some 185), (.bin .eql (.tmp 184) (.val (.int .i64 0))), (some (183, true)), 0⟩, ⟨10, (some 186), (.pick (.tmp 183) (.tmp 185) (.val (.bool false))), none, 0⟩, ⟨11, (some 187), (.mov (.tmp 186)), none, 0⟩, ⟨12, (some 188), (.mov (.tmp 21)), (some (187, true)), 0⟩, ⟨13, (some 189), (.bin .eql (.tmp 188) (.val (.int .i64 0))), (some (187, true)), 0⟩, ⟨14, (some 190), (.pick (.tmp 187) (.tmp 189) (.val (.bool false))), none, 0⟩, ⟨15, (some 191), (.mov (.tmp 190)), none, 0⟩, ⟨16, (some 192), (.mov (.tmp 22)), (some (191, true)), 0⟩, ⟨17, (some 193), (.bin .eql (.tmp 192) (.val (.int .i64 0))), (some (191, true)), 0⟩, ⟨18, (some 194), (.pick (.tmp 191) (.tmp 193) (.val (.bool false))), none, 0⟩, ⟨19, (some 195), (.mov (.tmp 194)), none, 0⟩, ⟨20, (some 196), (.call (.val (.fn (Fn.func 19) [] [])) []), (some (195, true)), 0⟩, ⟨21, (some 197), (.pick (.tmp 195) (.tmp 196) (.val (.bool false))), none, 0⟩, ⟨22, (some 6), (.mov (.tmp 197)), none, 0⟩]) .ret) .skip)) (.seq (.seq (.draw [⟨0, (some 198), (.fieldA 0 (.tmp 13)), none, 0⟩, ⟨1, (some 199), (.load none (.tmp 198)), none, 1⟩, ⟨2, (some 200), (.fieldA 1 (.tmp 13)), none, 0⟩, ⟨3, (some 201), (.load none (.tmp 200)), none, 4⟩, ⟨4, (some 202), (.bin .gtr (.tmp 199) (.tmp 201)), none, 15⟩, ⟨5, (some 203), (.mov (.tmp 202)), none, 31⟩, ⟨6, (some 204), (.fieldA 0 (.tmp 13)), (some (203, false)), 63⟩, ⟨7, (some 205), (.load none (.tmp 204)), (some (203, false)), 127⟩, ⟨8, (some 206), (.bin .lss (.tmp 205) (.val (.int .i64 0))), (some (203, false)), 255⟩, ⟨9, (some 207), (.pick (.tmp 203) (.val (.bool true)) (.tmp 206)), none, 511⟩, ⟨10, (some 208), (.mov (.tmp 207)), none, 1023⟩, ⟨11, (some 209), (.fieldA 0 (.tmp 17)), (some (208, false)), 2047⟩, ⟨12, (some 210), (.load none (.tmp 209)), (some (208, false)), 4095⟩, ⟨13, (some 211), (.bin .lss (.tmp 210) (.val (.int .i64 0))), (some (208, false)), 8191⟩, ⟨14, (some 212), (.pick (.tmp 208) (.val (.bool true)) (.tmp 211)), none, 16383⟩, ⟨15, (some 213), (.mov (.tmp 212)), none, 32767⟩, ⟨16, (some 214), (.fieldA 0 (.tmp 13)), (some (213, false)), 65535⟩, ⟨17, (some 215), (.load none (.tmp 214)), (some (213, false)), 131071⟩, ⟨18, (some 216), (.fieldA 0 (.tmp 15)), (some (213, false)), 65535⟩, ⟨19, (some 217), (.load none (.tmp 216)), (some (213, false)), 327679⟩, ⟨20, (some 218), (.fieldA 1 (.tmp 17)), (some (213, false)), 65535⟩, ⟨21, (some 219), (.load none (.tmp 218)), (some (213, false)), 1114111⟩, ⟨22, (some 220), (.bin .sub (.tmp 217) (.tmp 219)), (some (213, false)), 3997695⟩, ⟨23, (some 221), (.bin .lss (.tmp 215) (.tmp 220)), (some (213, false)), 8388607⟩, ⟨24, (some 222), (.pick (.tmp 213) (.val (.bool true)) (.tmp 221)), none, 16777215⟩, ⟨25, (some 223), (.mov (.tmp 222)), none, 33554431⟩, ⟨26, (some 224), (.fieldA 1 (.tmp 13)), (some (223, false)), 67108863⟩, ⟨27, (some 225), (.load none (.tmp 224)), (some (223, false)), 134217727⟩, ⟨28, (some 226), (.fieldA 1 (.tmp 15)), (some (223, false)), 67108863⟩, ⟨29, (some 227), (.load none (.tmp 226)), (some (223, false)), 335544319⟩, ⟨30, (some 228), (.fieldA 0 (.tmp 17)), (some (223, false)), 67108863⟩, ⟨31, (some 229), (.load none (.tmp 228)), (some (223, false)), 1140850687⟩, ⟨32, (some 230), (.bin .sub (.tmp 227) (.tmp 229)), (some (223, false)), 4093640703⟩, ⟨33, (some 231), (.bin .gtr (.tmp 225) (.tmp 230)), (some (223, false)), 8589934591⟩, ⟨34, (some 232), (.pick (.tmp 223) (.val (.bool true)) (.tmp 231)), none, 17179869183⟩, ⟨35, (some 233), (.mov (.tmp 232)), none, 34359738367⟩, ⟨36, (some 234), (.mov (.tmp 19)), (some (233, false)), 68719476735⟩, ⟨37, (some 235), (.bin .eql (.tmp 234) (.val (.int .i64 2))), (some (233, false)), 137438953471⟩, ⟨38, (some 236), (.fieldA 0 (.tmp 13)), (some (233, false)), 68719476735⟩, ⟨39, (some 237), (.load none (.tmp 236)), (some (233, false)), 343597383679⟩, ⟨40, (some 238), (.mov (.tmp 12)), (some (233, false)), 68719476735⟩, ⟨41, (some 239), (.bin .geq (.tmp 237) (.tmp 238)), (some (233, false)), 1992864825343⟩, ⟨42, (some 240), (.eq .bool true (.tmp 235) (.tmp 239)), (some (233, false)), 4398046511103⟩, ⟨43, (some 241), (.pick (.tmp 233) (.val (.bool true)) (.tmp 240)), none, 8796093022207⟩, ⟨44, (some 242), (.mov (.tmp 241)), none, 17592186044415⟩, ⟨45, (some 243), (.mov (.tmp 19)), (some (242, false)), 35184372088831⟩, ⟨46, (some 244), (.bin .eql (.tmp 243) (.val (.int .i64 0))), (some (242, false)), 70368744177663⟩, ⟨47, (some 245), (.fieldA 1 (.tmp 13)), (some (242, false)), 35184372088831⟩, ⟨48, (some 246), (.load none (.tmp 245)), (some (242, false)), 175921860444159⟩, ⟨49, (some 247), (.mov (.tmp 12)), (some (242, false)), 35184372088831⟩, ⟨50, (some 248), (.bin .lss (.tmp 246) (.tmp 247)), (some (242, false)), 1020346790576127⟩, ⟨51, (some 249), (.eq .bool true (.tmp 244) (.tmp 248)), (some (242, false)), 2251799813685247⟩, ⟨52, (some 250), (.pick (.tmp 242) (.val (.bool true)) (.tmp 249)), none, 4503599627370495⟩, ⟨53, (some 251), (.mov (.tmp 250)), none, 9007199254740991⟩, ⟨54, (some 252), (.mov (.tmp 21)), (some (251, false)), 18014398509481983⟩, ⟨55, (some 253), (.mov (.tmp 11)), (some (251, false)), 18014398509481983⟩, ⟨56, (some 254), (.bin .shr (.tmp 252) (.tmp 253)), (some (251, false)), 72057594037927935⟩, ⟨57, (some 255), (.bin .and (.tmp 254) (.val (.int .i64 1))), (some (251, false)), 144115188075855871⟩, ⟨58, (some 256), (.bin .eql (.tmp 255) (.val (.int .i64 1))), (some (251, false)), 288230376151711743⟩, ⟨59, (some 257), (.fieldA 1 (.tmp 13)), (some (251, false)), 18014398509481983⟩, ⟨60, (some 258), (.load none (.tmp 257)), (some (251, false)), 594475150812905471⟩, ⟨61, (some 259), (.bin .eql (.tmp 258) (.val (.int .i64 0))), (some (251, false)), 1747396655419752447⟩, ⟨62, (some 260), (.eq .bool true (.tmp 256) (.tmp 259)), (some (251, false)), 4611686018427387903⟩, ⟨63, (some 261), (.pick (.tmp 251) (.val (.bool true)) (.tmp 260)), none, 9223372036854775807⟩, ⟨64, (some 262), (.mov (.tmp 261)), none, 18446744073709551615⟩, ⟨65, (some 263), (.mov (.tmp 22)), (some (262, false)), 36893488147419103231⟩, ⟨66, (some 264), (.mov (.tmp 11)), (some (262, false)), 36893488147419103231⟩, ⟨67, (some 265), (.bin .shr (.tmp 263) (.tmp 264)), (some (262, false)), 147573952589676412927⟩, ⟨68, (some 266), (.bin .and (.tmp 265) (.val (.int .i64 1))), (some (262, false)), 295147905179352825855⟩, ⟨69, (some 267), (.bin .eql (.tmp 266) (.val (.int .i64 1))), (some (262, false)), 590295810358705651711⟩, ⟨70, (some 268), (.fieldA 0 (.tmp 13)), (some (262, false)), 36893488147419103231⟩, ⟨71, (some 269), (.load none (.tmp 268)), (some (262, false)), 1217485108864830406655⟩, ⟨72, (some 270), (.bin .eql (.tmp 269) (.val (.int .i64 0))), (some (262, false)), 3578668350299653013503⟩, ⟨73, (some 271), (.eq .bool true (.tmp 267) (.tmp 270)), (some (262, false)), 9444732965739290427391⟩, ⟨74, (some 272), (.pick (.tmp 262) (.val (.bool true)) (.tmp 271)), none, 18889465931478580854783⟩]) (.cond (.tmp 272) (.seq (.ops [⟨0, (some 6), (.mov (.val (.bool false))), none, 0⟩]) .ret) .skip)) (.seq (.seq (.ops [⟨0, (some 273), (.fieldA 3 (.tmp 3)), none, 0⟩, ⟨1, (some 274), (.load none (.tmp 273)), none, 0⟩, ⟨2, (some 275), (.len (.tmp 274)), none, 0⟩, ⟨3, (some 276), (.bin .eql (.tmp 275) (.val (.int .i64 6))), none, 0⟩]) (.cond (.tmp 276) (.seq (.ops [⟨0, (some 277), (.call (.val (.fn (Fn.func 19) [] [])) []), none, 0⟩, ⟨1, (some 6), (.mov (.tmp 277)), none, 0⟩]) .ret) .skip)) (.seq (.seq (.ops [⟨0, (some 278), (.fieldA 0 (.tmp 13)), none, 0⟩, ⟨1, (some 279), (.load none (.tmp 278)), none, 0⟩, ⟨2, (some 280), (.bin .sub (.tmp 279) (.val (.int .i64 1))), none, 0⟩, ⟨3, (some 281), (.fieldA 0 (.tmp 13)), none, 0⟩, ⟨4, (some 282), (.load none (.tmp 281)), none, 0⟩, ⟨5, (some 283), (.fieldA 1 (.tmp 13)), none, 0⟩, ⟨6, (some 284), (.load none (.tmp 283)), none, 0⟩, ⟨7, (some 285), (.fieldA 1 (.tmp 13)), none, 0⟩, ⟨8, (some 286), (.load none (.tmp 285)), none, 0⟩, ⟨9, (some 287), (.bin .add (.tmp 286) (.val (.int .i64 1))), none, 0⟩, ⟨10, (some 288), (.buildSl 1 4 [(.int .i64 0)] [(0, (.tmp 280)), (1, (.tmp 282)), (2, (.tmp 284)), (3, (.tmp 287))]), none, 0⟩, ⟨11, (some 289), (.len (.tmp 288)), none, 0⟩, ⟨12, (some 290), (.mov (.val (.int .i64 0))), none, 0⟩]) (.block 0 (.loop [3, 11, 13, 288, 289, 290] (.seq (.ops [⟨0, (some 291), (.bin .lss (.tmp 290) (.tmp 289)), none, 0⟩]) (.seq (.cond (.tmp 291) .skip (.exit 0)) (.seq (.block 1 (.seq (.ops [⟨0, (some 292), (.indexA 1 none (.tmp 288) (.tmp 290)), none, 0⟩, ⟨1, (some 293), (.load none (.tmp 292)), none, 0⟩, ⟨2, (some 33), (.mov (.tmp 293)), none, 0⟩]) (.seq (.seq (.ops [⟨0, (some 294), (.mov (.tmp 33)), none, 0⟩, ⟨1, (some 295), (.bin .lss (.tmp 294) (.val (.int .i64 0))), none, 0⟩, ⟨2, (some 296), (.mov (.tmp 295)), none, 0⟩, ⟨3, (some 297), (.mov (.tmp 33)), (some (296, false)), 0⟩, ⟨4, (some 298), (.bin .gtr (.tmp 297) (.val (.int .i64 5000))), (some (296, false)), 0⟩, ⟨5, (some 299), (.pick (.tmp 296) (.val (.bool true)) (.tmp 298)), none, 0⟩]) (.cond (.tmp 299) (.exit 1) .skip)) (.seq (.draw [⟨0, (some 301), (.load (some 4) (.tmp 3)), none, 0⟩, ⟨1, (some 302), (.mov (.tmp 11)), none, 0⟩, ⟨2, (some 303), (.mov (.tmp 33)), none, 0⟩, ⟨3, (some 304), (.mov (.tmp 33)), none, 0⟩, ⟨6, (some 307), (.mov (.tmp 11)), none, 0⟩, ⟨11, (some 34), (.alloc [(.int .i64 0), (.int .i64 0)]), none, 0⟩, ⟨4, (some 305), (.call (.val (.fn (Fn.func 29) [] [])) [(.tmp 302), (.tmp 303), (.tmp 304)]), none, 14⟩, ⟨5, (some 306), (.call (.val (.fn (Fn.func 28) [] [])) [(.tmp 301), (.tmp 305)]), none, 31⟩, ⟨7, (some 308), (.call (.val (.fn (Fn.func 12) [] [])) [(.tmp 306), (.tmp 307)]), none, 127⟩, ⟨8, (some 300), (.mov (.tmp 308)), none, 255⟩, ⟨9, (some 309), (.extract (.tmp 300) 0), none, 511⟩, ⟨10, (some 310), (.extract (.tmp 300) 1), none, 511⟩, ⟨12, none, (.store 2 (.tmp 34) (.tmp 309)), none, 3071⟩, ⟨13, (some 35), (.mov (.tmp 310)), none, 8191⟩]) (.seq (.draw [⟨0, (some 311), (.mov (.tmp 35)), none, 0⟩, ⟨1, (some 312), (.bin .neq (.tmp 311) (.val (.int .i64 0))), none, 1⟩, ⟨2, (some 313), (.mov (.tmp 312)), none, 3⟩, ⟨3, (some 314), (.mov (.tmp 35)), (some (313, true)), 7⟩, ⟨4, (some 315), (.bin .neq (.tmp 314) (.val (.int .i64 10))), (some (313, true)), 15⟩, ⟨5, (some 316), (.pick (.tmp 313) (.tmp 315) (.val (.bool false))), none, 31⟩, ⟨6, (some 317), (.mov (.tmp 316)), none, 63⟩, ⟨7, (some 318), (.mov (.tmp 35)), (some (317, false)), 127⟩, ⟨8, (some 319), (.bin .eql (.tmp 318) (.val (.int .i64 0))), (some (317, false)), 255⟩, ⟨9, (some 320), (.mov (.tmp 33)), (some (317, false)), 127⟩, ⟨10, (some 321), (.load (some 2) (.tmp 13)), (some (317, false)), 127⟩, ⟨11, (some 322), (.call (.val (.fn (Fn.func 27) [] [])) [(.tmp 320), (.tmp 321)]), (some (317, false)), 1663⟩, ⟨12, (some 323), (.eq .bool true (.tmp 319) (.tmp 322)), (some (317, false)), 4095⟩, ⟨13, (some 324), (.pick (.tmp 317) (.val (.bool true)) (.tmp 323)), none, 8191⟩, ⟨14, (some 325), (.mov (.tmp 324)), none, 16383⟩, ⟨15, (some 326), (.mov (.tmp 35)), (some (325, false)), 32767⟩, ⟨16, (some 327), (.bin .eql (.tmp 326) (.val (.int .i64 0))), (some (325, false)), 65535⟩, ⟨17, (some 328), (.mov (.tmp 327)), (some (325, false)), 131071⟩, ⟨18, (some 329), (.load (some 2) (.tmp 34)), (some (328, true)), 262143⟩, ⟨19, (some 330), (.mov (.tmp 33)), (some (328, true)), 262143⟩, ⟨20, (some 331), (.mov (.tmp 33)), (some (328, true)), 262143⟩, ⟨21, (some 332), (.call (.val (.fn (Fn.func 20) [] [])) [(.tmp 330), (.tmp 331)]), (some (328, true)), 1835007⟩, ⟨22, (some 333), (.eq (.agg [true, true]) true (.tmp 329) (.tmp 332)), (some (328, true)), 4194303⟩, ⟨23, (some 334), (.pick (.tmp 328) (.tmp 333) (.val (.bool false))), (some (325, false)), 8388607⟩, ⟨24, (some 335), (.pick (.tmp 325) (.val (.bool true)) (.tmp 334)), none, 16777215⟩]) (.cond (.tmp 335) (.seq (.ops [⟨0, (some 6), (.mov (.val (.bool false))), none, 0⟩]) .ret) .skip)))))) (.ops [⟨0, (some 336), (.bin .add (.tmp 290) (.val (.int .i64 1))), none, 0⟩, ⟨1, (some 290), (.mov (.tmp 336)), none, 0⟩]))))))) (.seq (.ops [⟨0, (some 337), (.call (.val (.fn (Fn.func 19) [] [])) []), none, 0⟩, ⟨1, (some 6), (.mov (.tmp 337)), none, 0⟩]) .ret)))))))))))))))))))⟩
end Ev
end Go.Proofs.Ytimgnlellflciaa

/- ClampEnds, gone through: a round of its loop. -/
namespace Go.Proofs.Ytimgnlellflciaa
open Go
namespace Ev
namespace K
open Clm (setOf zcg zks)
set_option maxRecDepth 100000
set_option maxHeartbeats 4000000
theorem bit_eq {n d : Nat} (hd : d ≤ 64) : (IntKind.i64.wrap ((BitVec.ofInt IntKind.i64.bits ((n : Int).fdiv (2 ^ (min ((d : Int).toNat) IntKind.i64.bits))) &&& BitVec.ofInt IntKind.i64.bits 1).toNat) == 1) = n.testBit d := by
  rw [bit_i64 hd]; cases n.testBit d <;> rfl
def EndsNo (call : CallF) (c : Clm.Cl) (i : Nat) (s : Clm.Sp) (o : Int) : Prop :=
  ∃ (a b e : Int), (∀ (G : List AB) (q : Nat), G[q]? = some (.cells (evtCs c.events ++ [.int .i64 1, .int .i64 i, .int .i64 o, .int .i64 o])) → call (.fn (.func 12) [] []) [.agg [.vs 6 (c.piles.map pileE), .int .i64 c.pack.lo, .int .i64 c.pack.hi, .sl q 0 (c.events.length + 1) 4], .int .i64 i] G = some (.ret (.tup [.agg [.int .i64 a, .int .i64 b], .int .i64 e]), G, [])) ∧
        ((e = 0 ∧ a = o ∧ b = o ∧ decide (s.lo ≤ o ∧ o ≤ s.hi) = true) ∨ (e = 10 ∧ decide (s.lo ≤ o ∧ o ≤ s.hi) = false))
def WithC (call : CallF) (c : Clm.Cl) : Prop := ∀ (H : List AB) (x0 x1 x2 x3 : Int), c.events.length ≤ 1000 → call (.fn (.func 28) [] []) [.agg (clampCs c), .agg [.int .i64 x0, .int .i64 x1, .int .i64 x2, .int .i64 x3]] H = some (.ret (.agg [.vs 6 (c.piles.map pileE), .int .i64 c.pack.lo, .int .i64 c.pack.hi, .sl (H.length + 6) 0 (c.events.length + 1) 4]), H ++ withK H.length (.vs 6 (c.piles.map pileE)) c.pack.lo c.pack.hi (evtCs c.events) c.events.length x0 x1 x2 x3, [])
theorem lends_round (C : Cfg) (call : CallF) (c : Clm.Cl) (hl : c.events.length ≤ 1000) (hI : InsideC call) (hN : CountC call) (hW : WithC call c) (hsp : ∀ H a b, call (.fn (.func 20) [] []) [.int .i64 a, .int .i64 b] H = some (.ret (.agg [.int .i64 a, .int .i64 b]), H, [])) (i : Nat) (s bs ss : Clm.Sp)
    (hlast : ∀ o : Int, 0 ≤ o → o ≤ 5000 → o = s.lo ∨ o = s.hi ∨ o = s.lo - 1 ∨ o = s.hi + 1 → EndsNo call c i s o) (H J : List AB) (j : Nat) (hj : j < 4) :
    Does (ev C call H.length none (atP [1, 1, 1, 1, 1, 1, 1, 1, 1, 1, 1, 1, 1, 1, 1, 1, 1, 0, 1, 0, 0] af5.body) { tm := tmA 338 [(290, .int .i64 j), (289, .int .i64 4), (288, .sl (H.length + 5) 0 4 1), (13, .ptr (H.length + 1) 0), (11, .int .i64 i), (3, .ptr H.length 0)], df := [], hp := H ++ .cells [.vs 6 (c.piles.map pileE), .int .i64 c.pack.lo, .int .i64 c.pack.hi, .vs 4 (c.events.map evtE)] :: .cells [.int .i64 s.lo, .int .i64 s.hi] :: .cells [.int .i64 bs.lo, .int .i64 bs.hi] :: .cells [.int .i64 ss.lo, .int .i64 ss.hi] :: .cells [.int .i64 0, .int .i64 0] :: .cells [.int .i64 (s.lo - 1), .int .i64 s.lo, .int .i64 s.hi, .int .i64 (s.hi + 1)] :: J, tc := [] })
      (fun e st => e = .normal ∧ ∃ J, { st with tm := keepT [3, 11, 13, 288, 289, 290] st.tm } = ({ tm := tmA 338 [(290, .int .i64 (j + 1 : Nat)), (289, .int .i64 4), (288, .sl (H.length + 5) 0 4 1), (13, .ptr (H.length + 1) 0), (11, .int .i64 i), (3, .ptr H.length 0)], df := [], hp := H ++ .cells [.vs 6 (c.piles.map pileE), .int .i64 c.pack.lo, .int .i64 c.pack.hi, .vs 4 (c.events.map evtE)] :: .cells [.int .i64 s.lo, .int .i64 s.hi] :: .cells [.int .i64 bs.lo, .int .i64 bs.hi] :: .cells [.int .i64 ss.lo, .int .i64 ss.hi] :: .cells [.int .i64 0, .int .i64 0] :: .cells [.int .i64 (s.lo - 1), .int .i64 s.lo, .int .i64 s.hi, .int .i64 (s.hi + 1)] :: J, tc := [] } : St)) := by
  unfold af5
  simp only [atP]
  have hwj : IntKind.i64.wrap (↑j + 1) = ↑j + 1 := zaz (by omega) (by omega)
  have hjl : (j : Int) < 4 := by omega
  obtain ⟨o, hgo, ho⟩ : ∃ o, ([.int .i64 (s.lo - 1), .int .i64 s.lo, .int .i64 s.hi, .int .i64 (s.hi + 1)] : List AV)[j]? = some (.int .i64 o) ∧ (o = s.lo ∨ o = s.hi ∨ o = s.lo - 1 ∨ o = s.hi + 1) := by
    match j, hj with
    | 0, _ => exact ⟨_, rfl, by omega⟩
    | 1, _ => exact ⟨_, rfl, by omega⟩
    | 2, _ => exact ⟨_, rfl, by omega⟩
    | 3, _ => exact ⟨_, rfl, by omega⟩
  have hgo' := ge_of hgo
  by_cases o0 : o < 0
  · clear hlast hI hN hW hsp ho
    (repeat (first | (with_reducible apply zan; (focus ((conv => lhs; simp [ev1, wantG, spineK, spine, float, xnew, xval, xeff, zaa, zab, zal, zad, zae, addFl, cellsOf, pickC, alive, slLen, slFt, binI, maxA, maxK, minA, minK, aeqK, aeqS, AV.cells,  spA, zac, fillA, setAt, bitsI, nat_nn, zar, AV.plain, apart, Nat.testBit_eq_decide_div_mod_eq, *]) <;> exact rfl)); simp only [addFl]) | ((with_reducible first | refine zao ?_ | refine zaq ?_ | refine zak ?_ | refine zai ?_ | refine zag ?_ | refine zap ?_ | refine zaj ?_ | refine zas ?_ | (apply zah; (focus (simp [zaa, *]; done))) | (with_reducible apply zaf; (focus (simp [zaa, *]; done)))); try simp only [Then, Ops, OutB, reduceIte]) | simp only [Nat.reduceEqDiff, reduceIte, OutB, Then]))
    refine ⟨by first | rfl | trivial, ?_, ?_⟩
    rotate_left
    (refine st_is ?_ ?_ ?_ ?_; (focus (simp [zau, zax])); (focus rfl); (focus (first | rfl | (simp; done) | (simp [*]; done) | (simp; rfl) | (simp [*]; omega) | (simp; omega))); (focus (first | rfl | simp)))
  by_cases o5 : 5000 < o
  · clear hlast hI hN hW hsp ho
    (repeat (first | (with_reducible apply zan; (focus ((conv => lhs; simp [ev1, wantG, spineK, spine, float, xnew, xval, xeff, zaa, zab, zal, zad, zae, addFl, cellsOf, pickC, alive, slLen, slFt, binI, maxA, maxK, minA, minK, aeqK, aeqS, AV.cells,  spA, zac, fillA, setAt, bitsI, nat_nn, zar, AV.plain, apart, Nat.testBit_eq_decide_div_mod_eq, *]) <;> exact rfl)); simp only [addFl]) | ((with_reducible first | refine zao ?_ | refine zaq ?_ | refine zak ?_ | refine zai ?_ | refine zag ?_ | refine zap ?_ | refine zaj ?_ | refine zas ?_ | (apply zah; (focus (simp [zaa, *]; done))) | (with_reducible apply zaf; (focus (simp [zaa, *]; done)))); try simp only [Then, Ops, OutB, reduceIte]) | simp only [Nat.reduceEqDiff, reduceIte, OutB, Then]))
    refine ⟨by first | rfl | trivial, ?_, ?_⟩
    rotate_left
    (refine st_is ?_ ?_ ?_ ?_; (focus (simp [zau, zax])); (focus rfl); (focus (first | rfl | (simp; done) | (simp [*]; done) | (simp; rfl) | (simp [*]; omega) | (simp; omega))); (focus (first | rfl | simp)))
  obtain ⟨a, b, e, hcall, hcase⟩ := hlast o (by omega) (by omega) ho
  have hW' := fun (G : List AB) => hW G 1 i o o hl
  have hI' := fun H => hI H o s.lo s.hi
  have hN' := fun H => hN H i o o
  have hsp' := fun H => hsp H o o
  simp only [withK, clampCs] at hW'
  have hidx : H.length + (J.length + 1 + 1 + 1 + 1 + 1 + 1 + 1) + 6 = H.length + (J.length + 13) := by omega
  clear hlast hI hN hW hsp ho
  rcases hcase with ⟨rfl, rfl, rfl, hin⟩ | ⟨rfl, hin⟩
  · rw [hin] at hI'
    clear hin
    (repeat (first | (with_reducible apply zan; (focus ((conv => lhs; simp [ev1, wantG, spineK, spine, float, xnew, xval, xeff, zaa, zab, zal, zad, zae, addFl, cellsOf, pickC, alive, slLen, slFt, binI, maxA, maxK, minA, minK, aeqK, aeqS, AV.cells, ↓flall_nil',  spA, zac, fillA, setAt, bitsI, nat_nn, zar, AV.plain, apart, Nat.testBit_eq_decide_div_mod_eq, *]) <;> exact rfl)); simp only [addFl]) | ((with_reducible first | refine zao ?_ | refine zaq ?_ | refine zak ?_ | refine zai ?_ | refine zag ?_ | refine zap ?_ | refine zaj ?_ | refine zas ?_ | (apply zah; (focus (simp [zaa, *]; done))) | (with_reducible apply zaf; (focus (simp [zaa, *]; done)))); try simp only [Then, Ops, OutB]) | simp only [Nat.reduceEqDiff, reduceIte, OutB, Then]))
    refine ⟨by first | rfl | trivial, ?_, ?_⟩
    rotate_left
    (refine st_is ?_ ?_ ?_ ?_; (focus (simp [zau, zax])); (focus rfl); (focus (first | rfl | (simp; done) | (simp [*]; done) | (simp; rfl) | (simp [*]; omega) | (simp; omega))); (focus (first | rfl | simp)))
  · rw [hin] at hI'
    clear hin
    (repeat (first | (with_reducible apply zan; (focus ((conv => lhs; simp [ev1, wantG, spineK, spine, float, xnew, xval, xeff, zaa, zab, zal, zad, zae, addFl, cellsOf, pickC, alive, slLen, slFt, binI, maxA, maxK, minA, minK, aeqK, aeqS, AV.cells, ↓flall_nil',  spA, zac, fillA, setAt, bitsI, nat_nn, zar, AV.plain, apart, Nat.testBit_eq_decide_div_mod_eq, *]) <;> exact rfl)); simp only [addFl]) | ((with_reducible first | refine zao ?_ | refine zaq ?_ | refine zak ?_ | refine zai ?_ | refine zag ?_ | refine zap ?_ | refine zaj ?_ | refine zas ?_ | (apply zah; (focus (simp [zaa, *]; done))) | (with_reducible apply zaf; (focus (simp [zaa, *]; done)))); try simp only [Then, Ops, OutB]) | simp only [Nat.reduceEqDiff, reduceIte, OutB, Then]))
    refine ⟨by first | rfl | trivial, ?_, ?_⟩
    rotate_left
    (refine st_is ?_ ?_ ?_ ?_; (focus (simp [zau, zax])); (focus rfl); (focus (first | rfl | (simp; done) | (simp [*]; done) | (simp; rfl) | (simp [*]; omega) | (simp; omega))); (focus (first | rfl | simp)))
end K
end Ev
end Go.Proofs.Ytimgnlellflciaa

/- ClampEnds, gone through. -/
namespace Go.Proofs.Ytimgnlellflciaa
open Go
namespace Ev
namespace K
open Clm (setOf zcg zks)
set_option maxRecDepth 100000
set_option maxHeartbeats 4000000
theorem lends_walk (C : Cfg) (hC : C.calm = true) (call : CallF) (hA : LApi call) (hI : InsideC call) (hN : CountC call) (c : Clm.Cl) (hW : WithC call c) (w : Int) (hw0 : 0 ≤ w ∧ w ≤ 255) (w1 : Int) (hw1 : 0 ≤ w1 ∧ w1 ≤ 65535) (H : List AB) :
    Does (ev C call H.length none af5.body { tm := tmA af5.ntmps (zipI 0 [.agg (clampCs c), .int .u8 w, .int .u16 w1] []), df := [], hp := H, tc := [] })
      (Ends C H.length af5.res fun v _ _ => v = .bool true) := by
  have hl := fun H => hA.long (H := H) c
  have ha := fun H => hA.alive (H := H)
  by_cases hlen : max c.piles.length c.events.length > 40
  · rw [decide_eq_true hlen] at hl
    clear hA hlen hW hw0 hw1 hI hN
    unfold af5
    simp only [zipI, clampCs] at *
    (repeat (first | (with_reducible apply zan; (focus ((conv => lhs; simp [ev1, wantG, spineK, spine, float, xnew, xval, xeff, zaa, zab, zal, zad, zae, addFl, cellsOf, pickC, alive, slLen, slFt, binI, maxA, maxK, minA, minK, aeqK, aeqS, AV.cells,  spA, zac, fillA, setAt, bitsI, nat_nn, zar, AV.plain, apart, Nat.testBit_eq_decide_div_mod_eq, *]) <;> exact rfl)); simp only [addFl]) | ((with_reducible first | refine zao ?_ | refine zaq ?_ | refine zak ?_ | refine zai ?_ | refine zag ?_ | refine zap ?_ | refine zaj ?_ | refine zas ?_ | (apply zah; (focus (simp [zaa, *]; done))) | (with_reducible apply zaf; (focus (simp [zaa, *]; done)))); try simp only [Then, Ops]) | simp only [Nat.reduceEqDiff, reduceIte, OutB, Then]))
    exact zat (v := .bool true) (.inl rfl) rfl (by simp) (by simp only [resL, resOf, zam]; simp [resV, *]) rfl
  rw [decide_eq_false hlen] at hl
  have hcl := fun H => clOf_cl H c (by omega) (by omega)
  have hv := fun H => hA.valid (hcl H)
  cases hval : Clm.valid c with
  | false =>
    rw [hval] at hv
    have he : ∀ b, errOf c b = 1 := fun b => by unfold errOf; rw [hval]; rfl
    have hall : ∀ H, call (.fn (.func 25) [] []) [.agg (clampCs c)] H = some (.ret (.tup [.agg [.int .i64 0, .int .i64 0], .int .i64 1]), H, []) := fun H => by
      rw [hA.all (hcl H)]; unfold spanR; rw [he]; rfl
    have hsh : ∀ H, call (.fn (.func 15) [] []) [.agg (clampCs c), .int .i64 0] H = some (.ret (.tup [.int .i64 0, .int .i64 1]), H, []) := fun H => by
      rw [hA.share (hcl H)]; unfold shareR shareV shareE; rw [he]; rfl
    clear hA hlen hcl hval hW hw0 hw1 he hI hN
    unfold af5
    simp only [zipI, clampCs] at *
    (repeat (first | (with_reducible apply zan; (focus ((conv => lhs; simp [ev1, wantG, spineK, spine, float, xnew, xval, xeff, zaa, zab, zal, zad, zae, addFl, cellsOf, pickC, alive, slLen, slFt, binI, maxA, maxK, minA, minK, aeqK, aeqS, AV.cells,  spA, zac, fillA, setAt, bitsI, nat_nn, zar, AV.plain, apart, Nat.testBit_eq_decide_div_mod_eq, *]) <;> exact rfl)); simp only [addFl]) | ((with_reducible first | refine zao ?_ | refine zaq ?_ | refine zak ?_ | refine zai ?_ | refine zag ?_ | refine zap ?_ | refine zaj ?_ | refine zas ?_ | (apply zah; (focus (simp [zaa, *]; done))) | (with_reducible apply zaf; (focus (simp [zaa, *]; done)))); try simp only [Then, Ops]) | simp only [Nat.reduceEqDiff, reduceIte, OutB, Then]))
    exact zat (v := .bool true) (.inl rfl) rfl (by simp) (by simp only [resL, resOf, zam]; simp [resV, *]) rfl
  | true =>
  rw [hval] at hv
  have hc := (Clm.valid_iff c).1 hval
  have hp := hc.piles
  have hev := hc.events
  have hwa : IntKind.i64.wrap w = w := zaz (by omega) (by omega)
  have hwb : IntKind.i64.wrap w1 = w1 := zaz (by omega) (by omega)
  have hl0 : ¬ c.piles = [] := fun e => by rw [e] at hp; simp at hp
  obtain ⟨i, hi, hmi⟩ : ∃ i : Nat, i < c.piles.length ∧ w.tmod (c.piles.length : Int) = (i : Int) := by
    have h1 := Int.tmod_nonneg (c.piles.length : Int) hw0.1
    have h2 := Int.tmod_lt_of_pos w (show (0 : Int) < (c.piles.length : Int) by omega)
    exact ⟨(w.tmod (c.piles.length : Int)).toNat, by omega, by omega⟩
  obtain ⟨sods, hs0, hs1, hms⟩ : ∃ sods, 0 ≤ sods ∧ sods ≤ 5000 ∧ w1.tmod 5001 = sods := by
    have h1 := Int.tmod_nonneg 5001 hw1.1
    have h2 := Int.tmod_lt_of_pos w1 (show (0 : Int) < 5001 by omega)
    exact ⟨_, h1, by omega, rfl⟩
  have hP : isP c (i : Int) = true := decide_eq_true ⟨by omega, by omega⟩
  have hPn : isP c (c.piles.length : Int) = false := decide_eq_false (by omega)
  have eF : errOf c false = 2 := by unfold errOf; rw [hval]; rfl
  have hlr : ∀ H, call (.fn (.func 12) [] []) [.agg (clampCs c), .int .i64 c.piles.length] H = some (.ret (.tup [.agg [.int .i64 0, .int .i64 0], .int .i64 2]), H, []) := fun H => by
    rw [hA.has (hcl H)]; unfold spanR; rw [hPn, eF]; rfl
  have hmr : ∀ H, call (.fn (.func 14) [] []) [.agg (clampCs c), .int .i64 i, .int .i64 (-1)] H = some (.ret (.tup [.int .i64 0, .int .i64 2]), H, []) := fun H => by
    rw [hA.enough (hcl H)]; unfold numR; rw [hP, show isS (-1) = false from rfl, Bool.and_false, eF]; rfl
  have hnr : ∀ H, call (.fn (.func 15) [] []) [.agg (clampCs c), .int .i64 20001] H = some (.ret (.tup [.int .i64 0, .int .i64 2]), H, []) := fun H => by
    rw [hA.share (hcl H)]; unfold shareR shareV shareE; rw [show isS 20001 = false from rfl, eF]; rfl
  cases hcan : Clm.can c (Clm.every c) with
  | false =>
    have he : errOf c true = 10 := by unfold errOf; rw [hval, hcan]; rfl
    have h1 : ∀ H, call (.fn (.func 12) [] []) [.agg (clampCs c), .int .i64 i] H = some (.ret (.tup [.agg [.int .i64 0, .int .i64 0], .int .i64 10]), H, []) := fun H => by
      rw [hA.has (hcl H)]; unfold spanR; rw [hP, he]; rfl
    have h2 : ∀ H, call (.fn (.func 10) [] []) [.agg (clampCs c), .int .i64 i] H = some (.ret (.tup [.agg [.int .i64 0, .int .i64 0], .int .i64 10]), H, []) := fun H => by
      rw [hA.built (hcl H)]; unfold spanR; rw [hP, he]; rfl
    have h3 : ∀ H, call (.fn (.func 13) [] []) [.agg (clampCs c), .int .i64 i] H = some (.ret (.tup [.agg [.int .i64 0, .int .i64 0], .int .i64 10]), H, []) := fun H => by
      rw [hA.sold (hcl H)]; unfold spanR; rw [hP, he]; rfl
    have h4 : ∀ H, call (.fn (.func 14) [] []) [.agg (clampCs c), .int .i64 i, .int .i64 sods] H = some (.ret (.tup [.int .i64 0, .int .i64 10]), H, []) := fun H => by
      rw [hA.enough (hcl H)]; unfold numR; rw [hP, show isS sods = true from decide_eq_true ⟨hs0, by omega⟩, Bool.and_true, he]; rfl
    have h5 : ∀ H, call (.fn (.func 26) [] []) [.agg (clampCs c)] H = some (.ret (.tup [.int .i64 0, .int .i64 0, .int .i64 10]), H, []) := fun H => by
      rw [hA.empty (hcl H)]; unfold emptyR; rw [he]; rfl
    obtain ⟨S, hS, _⟩ := Clm.clash_law hc hcan
    have h6 : ∀ H, call (.fn (.func 16) [] []) [.agg (clampCs c)] H = some (.ret (.tup [.int .i64 S, .int .i64 0]), H, []) := fun H => by
      rw [hA.clash (hcl H)]; unfold clashR clashV clashE; rw [hval, hcan, hS]; rfl
    clear hA hlen hcl hval hW hw0 hw1 he hI hN hS hcan hP hPn eF hc hp
    unfold af5
    simp only [zipI, clampCs] at *
    (repeat (first | (with_reducible apply zan; (focus ((conv => lhs; simp [ev1, wantG, spineK, spine, float, xnew, xval, xeff, zaa, zab, zal, zad, zae, addFl, cellsOf, pickC, alive, slLen, slFt, binI, maxA, maxK, minA, minK, aeqK, aeqS, AV.cells,  spA, zac, fillA, setAt, bitsI, nat_nn, zar, AV.plain, apart, Nat.testBit_eq_decide_div_mod_eq, *]) <;> exact rfl)); simp only [addFl]) | ((with_reducible first | refine zao ?_ | refine zaq ?_ | refine zak ?_ | refine zai ?_ | refine zag ?_ | refine zap ?_ | refine zaj ?_ | refine zas ?_ | (apply zah; (focus (simp [zaa, *]; done))) | (with_reducible apply zaf; (focus (simp [zaa, *]; done)))); try simp only [Then, Ops]) | simp only [Nat.reduceEqDiff, reduceIte, OutB, Then]))
    exact zat (v := .bool true) (.inl rfl) rfl (by simp) (by simp only [resL, resOf, zam]; simp [resV, *]) rfl
  | true =>
  have he : errOf c true = 0 := by unfold errOf; rw [hval, hcan]; rfl
  have h1 : ∀ H, call (.fn (.func 12) [] []) [.agg (clampCs c), .int .i64 i] H = some (.ret (.tup [.agg [.int .i64 (Clm.hasC c i).lo, .int .i64 (Clm.hasC c i).hi], .int .i64 0]), H, []) := fun H => by
    rw [hA.has (hcl H)]; unfold spanR; rw [hP, he]; rfl
  have h2 : ∀ H, call (.fn (.func 10) [] []) [.agg (clampCs c), .int .i64 i] H = some (.ret (.tup [.agg [.int .i64 (Clm.ofAll c i builtG).lo, .int .i64 (Clm.ofAll c i builtG).hi], .int .i64 0]), H, []) := fun H => by
    rw [hA.built (hcl H)]; unfold spanR; rw [hP, he]; rfl
  have h3 : ∀ H, call (.fn (.func 13) [] []) [.agg (clampCs c), .int .i64 i] H = some (.ret (.tup [.agg [.int .i64 (Clm.ofAll c i (soldG c)).lo, .int .i64 (Clm.ofAll c i (soldG c)).hi], .int .i64 0]), H, []) := fun H => by
    rw [hA.sold (hcl H)]; unfold spanR; rw [hP, he]; rfl
  have htog := Clm.tog_one c hi
  have h4 : ∀ H, call (.fn (.func 14) [] []) [.agg (clampCs c), .int .i64 i, .int .i64 sods] H = some (.ret (.tup [.int .i64 (enoughN (Clm.hasC c i) sods), .int .i64 0]), H, []) := fun H => by
    rw [hA.enough (hcl H)]; unfold numR; rw [hP, show isS sods = true from decide_eq_true ⟨hs0, by omega⟩, Bool.and_true, he, Int.toNat_natCast, htog]; rfl
  have h5 : ∀ H, call (.fn (.func 26) [] []) [.agg (clampCs c)] H = some (.ret (.tup [.int .i64 ((emptyS c : Nat) : Int), .int .i64 ((emptyP c : Nat) : Int), .int .i64 0]), H, []) := fun H => by
    rw [hA.empty (hcl H)]; unfold emptyR; rw [he]; rfl
  have h6 : ∀ H, call (.fn (.func 16) [] []) [.agg (clampCs c)] H = some (.ret (.tup [.int .i64 0, .int .i64 4]), H, []) := fun H => by
    rw [hA.clash (hcl H)]; unfold clashR clashV clashE; rw [hval, hcan]; rfl
  obtain ⟨e1, e2, e3, e4, e5, e6, e7, e8, e9, e10⟩ := Clm.ends_law hc hcan hi
  have q1 : ∃ q, (enoughN (Clm.hasC c i) sods == 2) = q ∧ decide (sods ≤ (Clm.hasC c i).lo) = q := ⟨_, rfl, by
    unfold enoughN
    by_cases g : sods ≤ (Clm.hasC c i).lo
    · rw [if_pos g]; simp [g]
    · rw [if_neg g]
      by_cases g2 : (Clm.hasC c i).hi < sods
      · rw [if_pos g2]; simp [g]
      · rw [if_neg g2]; simp [g]⟩
  have q2 : ∃ q, (enoughN (Clm.hasC c i) sods == 0) = q ∧ decide ((Clm.hasC c i).hi < sods) = q := ⟨_, rfl, by
    unfold enoughN
    by_cases g : sods ≤ (Clm.hasC c i).lo
    · rw [if_pos g]; simp; omega
    · rw [if_neg g]
      by_cases g2 : (Clm.hasC c i).hi < sods
      · rw [if_pos g2]; simp [g2]
      · rw [if_neg g2]; simp [g2]⟩
  have b1 : (emptyS c).testBit i = ((Clm.hasC c i).hi == 0) := by
    unfold emptyS; rw [zks, htog, decide_eq_true hi, Bool.true_and]; rfl
  have b2 : (emptyP c).testBit i = ((Clm.hasC c i).lo == 0) := by
    unfold emptyP; rw [zks, htog, decide_eq_true hi, Bool.true_and]; rfl
  have q3 := bit_eq (n := emptyS c) (d := i) (by omega)
  have q4 := bit_eq (n := emptyP c) (d := i) (by omega)
  rw [b1] at q3
  rw [b2] at q4
  have hlast : ∀ (h6 : c.events.length < 6) (o : Int), 0 ≤ o → o ≤ 5000 → o = (Clm.hasC c i).lo ∨ o = (Clm.hasC c i).hi ∨ o = (Clm.hasC c i).lo - 1 ∨ o = (Clm.hasC c i).hi + 1 →
      EndsNo call c i (Clm.hasC c i) o := by
    intro h6 o o0 o5 ho
    have hf := Clm.cnt_fine hc h6 hi o0 o5
    have hcl' : ∀ (G : List AB) (q : Nat), G[q]? = some (.cells (evtCs c.events ++ [.int .i64 1, .int .i64 i, .int .i64 o, .int .i64 o])) → clOf G (.agg [.vs 6 (c.piles.map pileE), .int .i64 c.pack.lo, .int .i64 c.pack.hi, .sl q 0 (c.events.length + 1) 4]) = some (Clm.plus c (Clm.cnt i o)) := fun G q hq =>
      clOf_of (pilesV_vs G c.piles) (evtsV_sl (l := c.events ++ [Clm.cnt i o]) (by rw [hq, evtCs_app]; rfl) (by simp)) (a := c.pack.lo) (b := c.pack.hi) (by omega) (by simp; omega)
    have hP' : isP (Clm.plus c (Clm.cnt i o)) (i : Int) = true := hP
    have hval' := (Clm.valid_iff _).2 hf
    rcases Clm.ends_cnt hc hcan h6 hi o0 o5 (by simp only [Clm.Sp.has]; omega) with ⟨g1, g2, g3⟩ | ⟨g1, g2⟩
    · refine ⟨o, o, 0, fun G q hq => ?_, .inl ⟨rfl, rfl, rfl, decide_eq_true g2⟩⟩
      have he' : errOf (Clm.plus c (Clm.cnt i o)) true = 0 := by unfold errOf; rw [hval', g1]; rfl
      rw [hA.has (hcl' G q hq)]; unfold spanR; rw [hP', he']
      have e2 : hasG (Clm.plus c (Clm.cnt i o)) (i : Int) = Clm.hasC (Clm.plus c (Clm.cnt i o)) i := rfl
      rw [e2, g3]; rfl
    · refine ⟨0, 0, 10, fun G q hq => ?_, .inr ⟨rfl, decide_eq_false g2⟩⟩
      have he' : errOf (Clm.plus c (Clm.cnt i o)) true = 10 := by unfold errOf; rw [hval', g1]; rfl
      rw [hA.has (hcl' G q hq)]; unfold spanR; rw [hP', he']; rfl
  have hsp := fun H a b => hA.span (H := H) a b
  have HX := hideP (And.intro hlast (And.intro hI (And.intro hN (And.intro hW hsp))))
  clear hA hlen hcl hval hW hw0 hw1 he hI hN hcan hP hPn eF hc hp hlast htog b1 b2 hsp
  generalize Clm.hasC c i = s at *
  generalize Clm.ofAll c i builtG = bs at *
  generalize Clm.ofAll c i (soldG c) = ss at *
  obtain ⟨q1, q1a, q1b⟩ := q1
  obtain ⟨q2, q2a, q2b⟩ := q2
  generalize enoughN s sods = en at *
  generalize emptyS c = es at *
  generalize emptyP c = ep at *
  have n1 : ¬ (s.hi < s.lo) := by omega
  have n2 : ¬ (s.lo < 0) := by omega
  have n3 : ¬ (ss.lo < 0) := by omega
  have n4 : ¬ (s.lo < bs.lo - ss.hi) := by omega
  have n5 : ¬ (bs.hi - ss.lo < s.hi) := by omega
  have w4 : IntKind.i64.wrap (bs.lo - ss.hi) = bs.lo - ss.hi := zaz (by omega) (by omega)
  have w5 : IntKind.i64.wrap (bs.hi - ss.lo) = bs.hi - ss.lo := zaz (by omega) (by omega)
  have w6 : IntKind.i64.wrap (s.lo - 1) = s.lo - 1 := zaz (by omega) (by omega)
  have w7 : IntKind.i64.wrap (s.hi + 1) = s.hi + 1 := zaz (by omega) (by omega)
  have HE := hideP (And.intro e1 (And.intro e2 e3))
  clear e1 e2 e3 e4 e5 e6 e7 e8 e9 e10
  simp at q3 q4
  by_cases h6' : c.events.length = 6
  · unfold af5
    simp only [zipI, clampCs] at *
    (repeat (first | (with_reducible apply zan; (focus ((conv => lhs; simp [ev1, wantG, spineK, spine, float, xnew, xval, xeff, zaa, zab, zal, zad, zae, addFl, cellsOf, pickC, alive, slLen, slFt, binI, maxA, maxK, minA, minK, aeqK, aeqS, AV.cells, ↓flall_nil',  spA, zac, fillA, setAt, bitsI, nat_nn, zar, AV.plain, apart, Nat.testBit_eq_decide_div_mod_eq, *]) <;> exact rfl)); simp only [addFl]) | ((with_reducible first | refine zao ?_ | refine zaq ?_ | refine zak ?_ | refine zai ?_ | refine zag ?_ | refine zap ?_ | refine zaj ?_ | refine zas ?_ | (apply zah; (focus (simp [zaa, *]; done))) | (with_reducible apply zaf; (focus (simp [zaa, *]; done)))); try simp only [Then, Ops]) | simp only [Nat.reduceEqDiff, reduceIte, OutB, Then]))
    exact zat (v := .bool true) (.inl rfl) rfl (by simp) (by simp only [resL, resOf, zam]; simp [resV, *]) rfl
  have hb6 : ((c.events.length : Int) == 6) = false := beq_false_of_ne (by omega)
  unfold af5
  simp only [zipI, clampCs] at *
  (repeat (first | (with_reducible apply zan; (focus ((conv => lhs; simp [ev1, wantG, spineK, spine, float, xnew, xval, xeff, zaa, zab, zal, zad, zae, addFl, cellsOf, pickC, alive, slLen, slFt, binI, maxA, maxK, minA, minK, aeqK, aeqS, AV.cells, ↓flall_nil',  spA, zac, fillA, setAt, bitsI, nat_nn, zar, AV.plain, apart, Nat.testBit_eq_decide_div_mod_eq, *]) <;> exact rfl)); simp only [addFl]) | ((with_reducible first | refine zao ?_ | refine zaq ?_ | refine zak ?_ | refine zai ?_ | refine zag ?_ | refine zap ?_ | refine zaj ?_ | refine zas ?_ | (apply zah; (focus (simp [zaa, *]; done))) | (with_reducible apply zaf; (focus (simp [zaa, *]; done)))); try simp only [Then, Ops]) | simp only [Nat.reduceEqDiff, reduceIte, OutB, Then]))
  clear h1 h2 h3 h4 h5 h6 hlr hmr hnr q1a q1b q2a q2b q3 q4 n1 n2 n3 n4 n5 w4 w5 w6 w7 hv hl
  with_reducible refine zbg hC 4 (by unfold fuelL; omega) (fun j st => ∃ J, st = { tm := tmA 338 [(290, .int .i64 j), (289, .int .i64 4), (288, .sl (H.length + 5) 0 4 1), (13, .ptr (H.length + 1) 0), (11, .int .i64 i), (3, .ptr H.length 0)], df := [], hp := H ++ .cells [.vs 6 (c.piles.map pileE), .int .i64 c.pack.lo, .int .i64 c.pack.hi, .vs 4 (c.events.map evtE)] :: .cells [.int .i64 s.lo, .int .i64 s.hi] :: .cells [.int .i64 bs.lo, .int .i64 bs.hi] :: .cells [.int .i64 ss.lo, .int .i64 ss.hi] :: .cells [.int .i64 0, .int .i64 0] :: .cells [.int .i64 (s.lo - 1), .int .i64 s.lo, .int .i64 s.hi, .int .i64 (s.hi + 1)] :: J, tc := [] }) ?_ ?_ ?_
  · refine ⟨[], ?_⟩
    (refine st_is ?_ ?_ ?_ ?_; (focus (simp [zau, zax])); (focus rfl); (focus (first | rfl | (simp; done) | (simp [*]; done) | (simp; rfl) | (simp [*]; omega) | (simp; omega))); (focus (first | rfl | simp)))
  · rintro j st hj ⟨J, rfl⟩
    obtain ⟨hlast, hI, hN, hW, hsp⟩ := HX.out
    refine (lends_round C call c (by omega) hI hN hW hsp i s bs ss (fun o a b d => hlast (by omega) o a b d) H J j hj).mono ?_
    rintro e st ⟨rfl, J, h⟩
    exact ⟨J, h⟩
  · rintro st ⟨J, rfl⟩
    clear HX HE
    (repeat (first | (with_reducible apply zan; (focus ((conv => lhs; simp [ev1, wantG, spineK, spine, float, xnew, xval, xeff, zaa, zab, zal, zad, zae, addFl, cellsOf, pickC, alive, slLen, slFt, binI, maxA, maxK, minA, minK, aeqK, aeqS, AV.cells,  spA, zac, fillA, setAt, bitsI, nat_nn, zar, AV.plain, apart, Nat.testBit_eq_decide_div_mod_eq, *]) <;> exact rfl)); simp only [addFl]) | ((with_reducible first | refine zao ?_ | refine zaq ?_ | refine zak ?_ | refine zai ?_ | refine zag ?_ | refine zap ?_ | refine zaj ?_ | refine zas ?_ | (apply zah; (focus (simp [zaa, *]; done))) | (with_reducible apply zaf; (focus (simp [zaa, *]; done)))); try simp only [Then, Ops, OutB, reduceIte]) | simp only [Nat.reduceEqDiff, reduceIte, OutB, Then]))
    exact zat (v := .bool true) (.inl rfl) rfl (by simp) (by simp only [resL, resOf, zam]; simp [resV, *]) rfl
end K
end Ev
end Go.Proofs.Ytimgnlellflciaa

/- The code of functions of the laws is that of the program. Printed by program. -/
namespace Go.Proofs.Ytimgnlellflciaa
open Go Go.Proofs
namespace Ev
set_option maxRecDepth 1000000
theorem is5 : ∃ F, Try.prog.funcs[5]? = some F ∧ (F.name == "runtime.NumGoroutine") = false ∧ compFn Try.prog F = some af5.strip := ⟨_, Try.func5, by kernel_rfl, by kernel_rfl⟩
end Ev
end Go.Proofs.Ytimgnlellflciaa

/- The code of functions of the laws is that of the program. Printed by program. -/
namespace Go.Proofs.Ytimgnlellflciaa
open Go Go.Proofs
namespace Ev
set_option maxRecDepth 1000000
theorem is27 : ∃ F, Try.prog.funcs[27]? = some F ∧ (F.name == "runtime.NumGoroutine") = false ∧ compFn Try.prog F = some af27.strip := ⟨_, Try.func27, by kernel_rfl, by kernel_rfl⟩
end Ev
end Go.Proofs.Ytimgnlellflciaa

/- The code of functions of the laws is that of the program. Printed by program. -/
namespace Go.Proofs.Ytimgnlellflciaa
open Go Go.Proofs
namespace Ev
set_option maxRecDepth 1000000
theorem is28 : ∃ F, Try.prog.funcs[28]? = some F ∧ (F.name == "runtime.NumGoroutine") = false ∧ compFn Try.prog F = some af28.strip := ⟨_, Try.func28, by kernel_rfl, by kernel_rfl⟩
end Ev
end Go.Proofs.Ytimgnlellflciaa

/- The functions that the law ClampEnds goes through itself. Printed by program. -/
namespace Go.Proofs.Ytimgnlellflciaa
open Go Go.Proofs
namespace Ev
def treeClampEnds : FT := (.node 27 af27 (.node 20 af20 (.node 5 af5 .leaf .leaf) (.node 21 af21 .leaf .leaf)) (.node 29 af29 (.node 28 af28 .leaf .leaf) .leaf))
theorem treeClampEnds_is : FT.All (fun k af => ∃ F, Try.prog.funcs[k]? = some F ∧ (F.name == "runtime.NumGoroutine") = false ∧ compFn Try.prog F = some af.strip) treeClampEnds :=
  ⟨is27, ⟨is20, ⟨is5, trivial, trivial⟩, ⟨is21, trivial, trivial⟩⟩, ⟨is29, ⟨is28, trivial, trivial⟩, trivial⟩⟩
end Ev
end Go.Proofs.Ytimgnlellflciaa

/- The Go function ClampEnds returns true, for every argument, in every world in which it is called; nothing that was there is turned. No condition. -/
namespace Go.Proofs.Ytimgnlellflciaa
open Go Go.Proofs Go.ChangeShapes Go.WideShapes Go.ChangeAt Go.RowKit
namespace Ev
namespace K
theorem lawClampEnds (W : World) (c : Clm.Cl) {v0 : Value} (hv0 : VR W (fun _ => False) nomu (.agg (clampCs c)) v0) (x1 : Int) (b1 : (Lit.int .u8 x1).wf = true) {v1 : Value} (hv1 : VR W (fun _ => False) nomu (.int .u8 x1) v1) (x2 : Int) (b2 : (Lit.int .u16 x2).wf = true) {v2 : Value} (hv2 : VR W (fun _ => False) nomu (.int .u16 x2) v2) : CallsIn Fence.wide 0 Try.prog 5 #[v0, v1, v2] W fun e W' => e = .returned (.bool true) ∧ Below W.heap.size W W' := by
  have hz : ∀ {f : Nat} {af : AFunc}, (cfgL treeClampEnds).exth f = none → FT.find treeClampEnds f = some af → Has (cfgL treeClampEnds) f af := fun h1 h2 => has_of rfl h1 h2 rfl
  have la := fun n => lapi (t := treeClampEnds) (hz rfl (by kernel_rfl)) (hz rfl (by kernel_rfl)) n
  have k : Has (cfgL treeClampEnds) 5 af5 := hz rfl (by kernel_rfl)
  obtain ⟨v, hp, tc, H', h1, h2, _⟩ := zcl (C := cfgL treeClampEnds) (n := 4) (first := []) (captured := []) (args := [.agg (clampCs c), .int .u8 x1, .int .u16 x2]) (H := []) (Q := fun v _ _ => v = .bool true) rfl k.ext k.exth k.fns k.whole (le' rfl) (lends_walk (cfgL treeClampEnds) rfl _ (la 3) (fun H n a b => zbe rfl (hz rfl (by kernel_rfl)) (le' rfl) rfl (inside_fun (cfgL treeClampEnds) _ H n a b)) (fun H n a b => zbe rfl (hz rfl (by kernel_rfl)) (le' rfl) rfl (count_fun (cfgL treeClampEnds) _ (la 2) H n a b)) c (fun H a0 a1 a2 a3 he => new_call rfl (hz rfl (by kernel_rfl)) (le' rfl) (by simp [refs, refsL]) (with_fun (cfgL treeClampEnds) _ H c.piles c.pack.lo c.pack.hi (.vs 4 (c.events.map evtE)) c.events (.inl rfl) he a0 a1 a2 a3)) x1 (bounds_u8 b1) x2 (bounds_u16 b2) [])
  subst h2
  refine (told_bare (tblL treeClampEnds_is) h1 trivial (zeh _ _ _) (rargs := #[v0, v1, v2]) ⟨rfl, fun i y r hy hr => ?_⟩).mono ?_
  · match i, hy, hr with
    | 0, hy, hr => cases hy; cases hr; exact hv0
    | 1, hy, hr => cases hy; cases hr; exact hv1
    | 2, hy, hr => cases hy; cases hr; exact hv2
    | i + 3, hy, hr => simp at hy
  · rintro e W' ⟨⟨w, rfl, hw⟩, bel⟩
    exact ⟨by rw [bool_of hw W], bel⟩
end K
end Ev
set_option maxRecDepth 100000 in
theorem clampEnds_lifted (os : Os) (started : os.Started) (H : Type) (enc : TypeId × Value → H) :
    ReturnsInHanded {} Try.checked os 5 .any (Rows.clampEndsSpec.pre6 enc Try.prog Try.f5 Rows.clampEndsRow.domain false) (Rows.clampEndsSpec.post enc Try.prog Try.f5 false true false false) := by
  refine returnsInHanded_of_change (C := Try.checked) own_godebug started (by kernel_rfl) Try.func5
    (ChangeSpec.witness6 (enc := enc) (C := Try.checked) false ⟨#[], #[noClamp, .int .u8 0, .int .u16 0], []⟩ 8 (by kernel_rfl) (by kernel_rfl) (by kernel_rfl) (by kernel_rfl)) ?_
  intro W base args ds gs before hval0 hW hcnd _
  have hval : ∀ (j : Nat) t v, Try.f5.params[j]? = some t → args[j]? = some v → Value.okWide Try.prog W .any base t v := hval0
  have hW' := hW
  obtain ⟨p, q, hA0, hV, rfl, hfz, hnd⟩ := hW
  have hA : DataW.TrodAll enc Try.prog W 0 (fun _ => true) true Try.f5.params.toList args.toList ds p := hA0
  rw [Try.params5] at hA hval
  obtain ⟨v0, vs0, d0, ds0, p0, q0, hargs0, rfl, rfl, h0, hA1⟩ := trodAll_cons hA
  obtain ⟨v1, vs1, d1, ds1, p1, q1, rfl, rfl, rfl, h1, hA2⟩ := trodAll_cons hA1
  obtain ⟨v2, vs2, d2, ds2, p2, q2, rfl, rfl, rfl, h2, hA3⟩ := trodAll_cons hA2
  obtain ⟨rfl, rfl, rfl⟩ := trodAll_nil hA3
  obtain rfl : args = #[v0, v1, v2] := Array.ext' hargs0
  obtain ⟨rfl, rfl, rfl⟩ := trodVars_none hV
  clear hA0 hval0
  obtain ⟨c, hx0⟩ := open_clamp (hval 0 30 v0 rfl rfl) h0
  obtain ⟨x1, rfl, rfl, rfl, wf1⟩ := open_int Try.underlying5 (hval 1 5 v1 rfl rfl) h1
  obtain ⟨x2, rfl, rfl, rfl, wf2⟩ := open_int Try.underlying40 (hval 2 40 v2 rfl rfl) h2
  simp only [List.append_nil] at hW'
  have hlt : ∀ x ∈ (p0 ++ ([] ++ ([] ++ []))), x.block < W.heap.size := fun x hx => by simpa using hW'.lt x (by simpa using hx)
  refine (callsIn_wide.1 (Ev.K.lawClampEnds W c hx0 x1 wf1 .int x2 wf2 .int)).mono fun e W' ⟨he, bel⟩ => ?_
  subst he
  refine ⟨_, rfl, _, _, _, [], (p0 ++ ([] ++ ([] ++ []))), [], by simpa using hW', ?_, ?_, ?_, bel.frame _, fun h => by cases h⟩
  · exact trodAll_mk1 (shut_bool Try.underlying4 true)
  · exact trodAll_cons_mk (Below.trod laidOut' (by kernel_rfl) (of_decide_eq_true (by kernel_rfl)) h0 bel (fun x hx => hlt x (by simp [hx]))) (trodAll_cons_mk (shut_int Try.underlying5 wf1) (trodAll_cons_mk (shut_int Try.underlying40 wf2) (trodAll_mk0)))
  · exact rfl
theorem clampEnds_holds : Rows.ClampEndsSaid :=
  OpenClaim.holds_of_wide 5 Try.f5 rfl rfl rfl rfl rfl rfl rfl ⟨rfl, rfl, rfl, rfl, rfl⟩ rfl rfl rfl rfl rfl (by kernel_rfl) Try.func5 (by kernel_rfl)
    (of_decide_eq_true (by kernel_rfl)) (by unfold Func.isWrapper; first | (rw [if_pos (by decide +kernel)]; kernel_rfl) | (rw [if_neg (by decide +kernel)]; exact ⟨rfl, rfl⟩))
    (fun os started H enc _ => clampEnds_lifted os started H enc)
#print axioms clampEnds_holds
end Go.Proofs.Ytimgnlellflciaa
