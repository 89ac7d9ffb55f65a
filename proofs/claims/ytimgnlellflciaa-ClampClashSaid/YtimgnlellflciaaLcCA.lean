/- The Go function ClampClash returns true, for every argument, in every world in which it is called; nothing that was there is turned. No condition. -/
import Derived.Test.YtimgnlellflciaaCoPE
import Derived.Test.YtimgnlellflciaaCoEA
import Derived.Test.YtimgnlellflciaaCoPF
import Derived.Test.YtimgnlellflciaaCoPD
import Derived.Test.YtimgnlellflciaaProg
import Derived.KernelRfl
/- Sizes of sets, one bit at a time. -/
namespace Go.Proofs.Ytimgnlellflciaa
namespace Clm
theorem bit_drop : ∀ i, i < 6 → ∀ S, S < 64 → S.testBit i = true → S - 2 ^ i < 64 ∧ sizeN (S - 2 ^ i) < sizeN S ∧ (S - 2 ^ i) &&& S = S - 2 ^ i := by decide +kernel
theorem sizeN_zero : sizeN 0 = 0 := by decide
theorem cntF_more : ∀ f n, n < 2 ^ f → ∀ g, f ≤ g → cntF g n = cntF f n
  | 0, n, h, g, _ => by
    have : n = 0 := by simpa using h
    subst this
    have z : ∀ f, cntF f 0 = 0 := by
      intro f
      induction f with
      | zero => rfl
      | succ f ih => unfold cntF; simp [ih]
    rw [z]; rfl
  | f + 1, n, h, 0, hg => by omega
  | f + 1, n, h, g + 1, hg => by
    unfold cntF
    rw [cntF_more f (n / 2) (by rw [Nat.pow_succ] at h; omega) g (by omega)]
theorem sizeN_step (n : Nat) (h : n < 65536) : sizeN n = n % 2 + sizeN (n / 2) := by
  have h1 := cntF_more 15 (n / 2) (by omega) 16 (by omega)
  unfold sizeN
  rw [h1]; rfl
theorem cntF_le : ∀ f n, cntF f n ≤ f
  | 0, _ => Nat.le_refl _
  | f + 1, n => by
    have := cntF_le f (n / 2)
    unfold cntF; omega
theorem sizeN_le (n : Nat) : sizeN n ≤ 16 := cntF_le 16 n
end Clm
end Go.Proofs.Ytimgnlellflciaa

/- The code of functions of the laws, for the evaluator. Printed by program. -/
namespace Go.Proofs.Ytimgnlellflciaa
open Go
namespace Ev
def af31 : AFunc := ⟨13, [(.tmp 2)], (.seq (.ops [⟨0, (some 2), (.mov (.val (.int .i64 0))), none, 0⟩]) (.seq (.ops [⟨0, (some 3), (.mov (.val (.int .i64 0))), none, 0⟩]) (.seq (.block 0 (.loop [0, 3] (.seq (.seq (.ops [⟨0, (some 4), (.mov (.tmp 0)), none, 0⟩, ⟨1, (some 5), (.bin .gtr (.tmp 4) (.val (.int .i64 0))), none, 0⟩]) (.cond (.tmp 5) .skip (.exit 0))) (.block 1 (.ops [⟨0, (some 6), (.mov (.tmp 3)), none, 0⟩, ⟨1, (some 7), (.mov (.tmp 0)), none, 0⟩, ⟨2, (some 8), (.bin .rem (.tmp 7) (.val (.int .i64 2))), none, 0⟩, ⟨3, (some 9), (.bin .add (.tmp 6) (.tmp 8)), none, 0⟩, ⟨4, (some 10), (.mov (.tmp 0)), none, 0⟩, ⟨5, (some 11), (.bin .quo (.tmp 10) (.val (.int .i64 2))), none, 0⟩, ⟨6, (some 3), (.mov (.tmp 9)), none, 0⟩, ⟨7, (some 0), (.mov (.tmp 11)), none, 0⟩]))))) (.seq (.ops [⟨0, (some 12), (.mov (.tmp 3)), none, 0⟩, ⟨1, (some 2), (.mov (.tmp 12)), none, 0⟩]) .ret))))⟩
end Ev
end Go.Proofs.Ytimgnlellflciaa

/- Chapter 09, gone through: the reference's size of a set, and bits as the laws ask for them. -/
namespace Go.Proofs.Ytimgnlellflciaa
open Go
namespace Ev
namespace K
set_option maxRecDepth 100000
set_option maxHeartbeats 4000000
def SizeC (call : CallF) : Prop := ∀ (H : List AB) (s : Nat), s < 65536 → call (.fn (.func 31) [] []) [.int .i64 s] H = some (.ret (.int .i64 ((Clm.sizeN s : Nat) : Int)), H, [])
theorem size_fun (C : Cfg) (hC : C.calm = true) (call : CallF) (s : Nat) (hs : s < 65536) (H : List AB) :
    Does (ev C call H.length none af31.body { tm := tmA af31.ntmps (zipI 0 [.int .i64 s] []), df := [], hp := H, tc := [] })
      (Ends C H.length af31.res fun v _hp tc => v = .int .i64 ((Clm.sizeN s : Nat) : Int) ∧ tc = []) := by
  unfold af31
  simp only [zipI]
  (repeat (first | (with_reducible apply zan; (focus ((conv => lhs; simp [ev1, wantG, spineK, spine, float, xnew, xval, xeff, zaa, zab, zal, zad, zae, addFl, cellsOf, pickC, alive, slLen, slFt, binI, maxA, maxK, minA, minK, aeqK, aeqS, AV.cells,  spA, zac, fillA, setAt, bitsI, nat_nn, zar, AV.plain, apart, Nat.testBit_eq_decide_div_mod_eq, *]) <;> exact rfl)); simp only [addFl]) | ((with_reducible first | refine zao ?_ | refine zaq ?_ | refine zak ?_ | refine zai ?_ | refine zag ?_ | refine zap ?_ | refine zaj ?_ | refine zas ?_ | (apply zah; (focus (simp [zaa, *]; done))) | (with_reducible apply zaf; (focus (simp [zaa, *]; done)))); try simp only [Then, Ops]) | simp only [Nat.reduceEqDiff, reduceIte, OutB, Then]))
  refine zly (fun q st => ∃ n acc : Nat, n ≤ q ∧ n < 65536 ∧ acc ≤ 16 ∧ acc + Clm.sizeN n = Clm.sizeN s ∧ st = { tm := tmA 13 [(3, .int .i64 acc), (0, .int .i64 n)], df := [], hp := H, tc := [] }) s (by unfold fuelL; omega) ?_ ?_
  · refine ⟨s, 0, Nat.le_refl _, hs, by omega, by omega, ?_⟩
    simp only [zds hC]
    (refine st_is ?_ ?_ ?_ ?_; (focus (simp [zau, zax])); (focus rfl); (focus (first | rfl | (simp; done) | (simp [*]; done) | (simp; rfl) | (simp [*]; omega) | (simp; omega))); (focus (first | rfl | simp)))
  · rintro q st ⟨n, acc, hq, hn, ha, he, rfl⟩
    by_cases h0 : 0 < n
    · have hst := Clm.sizeN_step n hn
      have hle := Clm.sizeN_le s
      have t1 : (n : Int).tmod 2 = ((n % 2 : Nat) : Int) := by rw [Int.tmod_eq_emod_of_nonneg (by omega)]; omega
      have t2 : (n : Int).tdiv 2 = ((n / 2 : Nat) : Int) := by rw [Int.tdiv_eq_ediv_of_nonneg (by omega)]; omega
      have hw1 : IntKind.i64.wrap ((acc : Int) + ((n % 2 : Nat) : Int)) = ((acc + n % 2 : Nat) : Int) := by rw [zaz (by omega) (by omega)]; omega
      have hw2 : IntKind.i64.wrap ((n : Int).tdiv 2) = ((n / 2 : Nat) : Int) := by rw [t2]; exact zaz (by omega) (by omega)
      have hw3 : IntKind.i64.wrap ((n / 2 : Nat) : Int) = ((n / 2 : Nat) : Int) := zaz (by omega) (by omega)
      have hw4 : IntKind.i64.wrap ((n % 2 : Nat) : Int) = ((n % 2 : Nat) : Int) := zaz (by omega) (by omega)
      have hlt : n / 2 < n := by omega
      have hlo : n % 2 ≤ 1 := by omega
      have HS := hideP (And.intro hlt (And.intro hlo (And.intro hst (And.intro hle (And.intro hq (And.intro hn (And.intro ha (And.intro he h0))))))))
      have h0i : (0 : Int) < (n : Int) := by omega
      generalize n % 2 = lo at *
      generalize n / 2 = hi at *
      clear hst hle hq hn ha he hlt hlo hs
      (repeat (first | (with_reducible apply zan; (focus ((conv => lhs; simp [ev1, wantG, spineK, spine, float, xnew, xval, xeff, zaa, zab, zal, zad, zae, addFl, cellsOf, pickC, alive, slLen, slFt, binI, maxA, maxK, minA, minK, aeqK, aeqS, AV.cells,  spA, zac, fillA, setAt, bitsI, nat_nn, zar, AV.plain, apart, Nat.testBit_eq_decide_div_mod_eq, *]) <;> exact rfl)); simp only [addFl]) | ((with_reducible first | refine zao ?_ | refine zaq ?_ | refine zak ?_ | refine zai ?_ | refine zag ?_ | refine zap ?_ | refine zaj ?_ | refine zas ?_ | (apply zah; (focus (simp [zaa, *]; done))) | (with_reducible apply zaf; (focus (simp [zaa, *]; done)))); try simp only [Then, Ops, OutB]) | simp only [Nat.reduceEqDiff, reduceIte, OutB, Then]))
      obtain ⟨g1, g2, g3, g4, g5, g6, g7, g8, g9⟩ := HS.out
      refine ⟨q - 1, by omega, hi, acc + lo, by omega, by omega, by omega, by omega, ?_⟩
      simp only [zds hC]
      (refine st_is ?_ ?_ ?_ ?_; (focus (simp [zau, zax])); (focus rfl); (focus (first | rfl | (simp; done) | (simp [*]; done) | (simp; rfl) | (simp [*]; omega) | (simp; omega))); (focus (first | rfl | simp)))
    · obtain rfl : n = 0 := by omega
      have : Clm.sizeN 0 = 0 := Clm.sizeN_zero
      obtain rfl : acc = Clm.sizeN s := by omega
      clear hq hn ha he this h0 hs
      (repeat (first | (with_reducible apply zan; (focus ((conv => lhs; simp [ev1, wantG, spineK, spine, float, xnew, xval, xeff, zaa, zab, zal, zad, zae, addFl, cellsOf, pickC, alive, slLen, slFt, binI, maxA, maxK, minA, minK, aeqK, aeqS, AV.cells,  spA, zac, fillA, setAt, bitsI, nat_nn, zar, AV.plain, apart, Nat.testBit_eq_decide_div_mod_eq, *]) <;> exact rfl)); simp only [addFl]) | ((with_reducible first | refine zao ?_ | refine zaq ?_ | refine zak ?_ | refine zai ?_ | refine zag ?_ | refine zap ?_ | refine zaj ?_ | refine zas ?_ | (apply zah; (focus (simp [zaa, *]; done))) | (with_reducible apply zaf; (focus (simp [zaa, *]; done)))); try simp only [Then, Ops, OutB, reduceIte]) | simp only [Nat.reduceEqDiff, reduceIte, OutB, Then]))
      exact zat (v := .int .i64 ((Clm.sizeN s : Nat) : Int)) (.inl rfl) rfl (by simp) (by simp only [resL, resOf, zam]; simp [resV, *]) ⟨rfl, rfl⟩
theorem fdiv_pow (n d : Nat) : ((n : Int).fdiv (2 ^ d)) = ((n / 2 ^ d : Nat) : Int) := by
  rw [Int.fdiv_eq_ediv_of_nonneg _ (by exact Int.le_of_lt (Int.pow_pos (by decide)))]
  have : ((2 : Int) ^ d) = ((2 ^ d : Nat) : Int) := by simp
  rw [this]; rfl
theorem bit_i64 {n d : Nat} (hd : d ≤ 64) : IntKind.i64.wrap ((BitVec.ofInt IntKind.i64.bits ((n : Int).fdiv (2 ^ (min ((d : Int).toNat) IntKind.i64.bits))) &&& BitVec.ofInt IntKind.i64.bits 1).toNat) = if n.testBit d then 1 else 0 := by
  have hb : IntKind.i64.bits = 64 := rfl
  rw [show min ((d : Int).toNat) IntKind.i64.bits = d by rw [hb]; omega, fdiv_pow, hb]
  have h1 : (BitVec.ofInt 64 ((n / 2 ^ d : Nat) : Int)).toNat = (n / 2 ^ d) % 2 ^ 64 := by
    rw [BitVec.toNat_ofInt]; omega
  have h2 : (BitVec.ofInt 64 1).toNat = 1 := by decide
  rw [BitVec.toNat_and, h1, h2, Nat.and_one_is_mod, Nat.testBit_eq_decide_div_mod_eq]
  generalize n / 2 ^ d = q at *
  have h3 : q % 2 ^ 64 % 2 = q % 2 := by omega
  rw [h3, zaz (by omega) (by omega)]
  by_cases hm : q % 2 = 1
  · simp [hm]
  · simp [hm]; omega
theorem and_own (w : Int) (A : Nat) (hA : A < 64) : ∃ o : Nat, o < 64 ∧ o &&& A = o ∧ IntKind.i64.wrap ((BitVec.ofInt IntKind.i64.bits w &&& BitVec.ofInt IntKind.i64.bits (A : Int)).toNat) = (o : Int) := by
  have hb : IntKind.i64.bits = 64 := rfl
  rw [hb]
  have h1 : (BitVec.ofInt 64 (A : Int)).toNat = A := by rw [BitVec.toNat_ofInt]; omega
  have h2 : (BitVec.ofInt 64 w &&& BitVec.ofInt 64 (A : Int)).toNat = (BitVec.ofInt 64 w).toNat &&& A := by
    rw [BitVec.toNat_and, h1]
  have h3 : (BitVec.ofInt 64 w).toNat &&& A ≤ A := Nat.and_le_right
  rw [h2]
  exact ⟨_, by omega, by rw [Nat.and_assoc, Nat.and_self], zaz (by omega) (by omega)⟩
theorem andnot_i : ∀ s, s < 64 → ∀ a, a < 64 → (IntKind.i64.wrap ((BitVec.ofInt IntKind.i64.bits ((s : Nat) : Int) &&& ~~~ BitVec.ofInt IntKind.i64.bits ((a : Nat) : Int)).toNat) != 0) = (s &&& a != s) := by decide +kernel
theorem andnot_bit : ∀ S, S < 64 → ∀ i, i < 6 → S.testBit i = true → IntKind.i64.wrap ((BitVec.ofInt IntKind.i64.bits ((S : Nat) : Int) &&& ~~~ BitVec.ofInt IntKind.i64.bits ((2 ^ i : Nat) : Int)).toNat) = ((S - 2 ^ i : Nat) : Int) := by decide +kernel
end K
end Ev
end Go.Proofs.Ytimgnlellflciaa

/- The plain law of ClampAll. -/
namespace Go.Proofs.Ytimgnlellflciaa
open Go
namespace Clm
theorem fold_in : ∀ (l : List Sp) (s : Sp), (l.foldl (fun k x => k.either x) s).lo ≤ s.lo ∧ s.hi ≤ (l.foldl (fun k x => k.either x) s).hi ∧ ∀ x ∈ l, (l.foldl (fun k x => k.either x) s).lo ≤ x.lo ∧ x.hi ≤ (l.foldl (fun k x => k.either x) s).hi
  | [], s => ⟨Int.le_refl _, Int.le_refl _, by simp⟩
  | a :: l, s => by
    obtain ⟨h1, h2, h3⟩ := fold_in l (s.either a)
    simp only [List.foldl_cons]
    simp only [Sp.either] at h1 h2
    refine ⟨by simp only [Sp.either] at *; omega, by simp only [Sp.either] at *; omega, fun x hx => ?_⟩
    rcases List.mem_cons.1 hx with rfl | hx
    · simp only [Sp.either] at *; omega
    · exact h3 x hx
theorem fold_at : ∀ (l : List Sp) (s : Sp), ((l.foldl (fun k x => k.either x) s).lo = s.lo ∨ ∃ x ∈ l, (l.foldl (fun k x => k.either x) s).lo = x.lo) ∧ ((l.foldl (fun k x => k.either x) s).hi = s.hi ∨ ∃ x ∈ l, (l.foldl (fun k x => k.either x) s).hi = x.hi)
  | [], s => ⟨.inl rfl, .inl rfl⟩
  | a :: l, s => by
    obtain ⟨h1, h2⟩ := fold_at l (s.either a)
    simp only [List.foldl_cons]
    constructor
    · rcases h1 with h | ⟨x, hx, h⟩
      · by_cases hc : s.lo ≤ a.lo
        · left; rw [h]; simp only [Sp.either]; omega
        · right; exact ⟨a, by simp, by rw [h]; simp only [Sp.either]; omega⟩
      · exact .inr ⟨x, by simp [hx], h⟩
    · rcases h2 with h | ⟨x, hx, h⟩
      · by_cases hc : a.hi ≤ s.hi
        · left; rw [h]; simp only [Sp.either]; omega
        · right; exact ⟨a, by simp, by rw [h]; simp only [Sp.either]; omega⟩
      · exact .inr ⟨x, by simp [hx], h⟩
theorem hull_in {l : List Sp} {x : Sp} (hx : x ∈ l) : (hull l).lo ≤ x.lo ∧ x.hi ≤ (hull l).hi := by
  cases l with
  | nil => cases hx
  | cons a l =>
    obtain ⟨h1, h2, h3⟩ := fold_in l a
    rcases List.mem_cons.1 hx with rfl | hx
    · exact ⟨h1, h2⟩
    · exact h3 x hx
theorem hull_at {l : List Sp} (hl : l ≠ []) : (∃ x ∈ l, (hull l).lo = x.lo) ∧ ∃ x ∈ l, (hull l).hi = x.hi := by
  cases l with
  | nil => exact absurd rfl hl
  | cons a l =>
    obtain ⟨h1, h2⟩ := fold_at l a
    constructor
    · rcases h1 with h | ⟨x, hx, h⟩
      · exact ⟨a, by simp, h⟩
      · exact ⟨x, by simp [hx], h⟩
    · rcases h2 with h | ⟨x, hx, h⟩
      · exact ⟨a, by simp, h⟩
      · exact ⟨x, by simp [hx], h⟩
def hasC (c : Cl) (i : Nat) : Sp := ofAll c i fun _ => leftW c
theorem packs_in {c : Cl} (hc : Fine c) {counts : Nat} {k : Int} (h : k ∈ packs c counts) : 0 ≤ k ∧ k ≤ 5 ∧ c.pack.lo ≤ k ∧ k ≤ c.pack.hi ∧ ∀ i, i < c.piles.length → ways c i k counts ≠ [] := by
  unfold packs at h
  rw [List.mem_filter, mem_span] at h
  have := hc.pack
  simp only [Sp.has] at h
  refine ⟨by omega, by omega, by omega, by omega, fun i hi => ?_⟩
  have h2 := List.all_eq_true.1 h.2 i (by simpa using hi)
  simpa using h2
theorem can_packs {c : Cl} {s : Nat} (h : can c s = true) : packs c s ≠ [] := by
  unfold can at h
  intro e
  rw [e] at h; cases h
theorem low_has {c : Cl} (hc : Fine c) {i : Nat} (hi : i < c.piles.length) : Low (hasC c i) := by
  refine low_hull _ fun x hx => ?_
  obtain ⟨k, hk, rfl⟩ := List.mem_map.1 hx
  obtain ⟨h0, h5, _⟩ := packs_in hc hk
  exact low_left hc hi h0 h5
def sumC (c : Cl) : Nat → Sp
  | 0 => ⟨0, 0⟩
  | n + 1 => ⟨(sumC c n).lo + (hasC c n).lo, (sumC c n).hi + (hasC c n).hi⟩
theorem sumC_low {c : Cl} (hc : Fine c) : ∀ n, n ≤ c.piles.length → 0 ≤ (sumC c n).lo ∧ (sumC c n).lo ≤ 10000 * n ∧ 0 ≤ (sumC c n).hi ∧ (sumC c n).hi ≤ 10000 * n
  | 0, _ => by simp [sumC]
  | n + 1, h => by
    have ih := sumC_low hc n (by omega)
    obtain ⟨a, b, d, e⟩ := low_has hc (i := n) (by omega)
    simp only [sumC]; omega
def fullC (c : Cl) : Nat := 2 ^ c.piles.length - 1
theorem full_bit (c : Cl) {i : Nat} (h : i < c.piles.length) : bit (fullC c) i = true := by
  unfold bit fullC; rw [Nat.testBit_two_pow_sub_one]; simpa using h
theorem sum_full {c : Cl} {k : Int} (hk : k ∈ packs c (every c)) : ∀ n, n ≤ c.piles.length → (sumC c n).lo ≤ (sumTo c (fullC c) k n).lo ∧ (sumTo c (fullC c) k n).hi ≤ (sumC c n).hi
  | 0, _ => ⟨Int.le_refl _, Int.le_refl _⟩
  | n + 1, h => by
    have ih := sum_full hk n (by omega)
    rw [sumTo_succ, if_pos (full_bit c (by omega))]
    have := hull_in (l := (packs c (every c)).map fun k => spanOf c n k (leftW c)) (List.mem_map.2 ⟨k, hk, rfl⟩)
    have e : hasC c n = hull ((packs c (every c)).map fun k => spanOf c n k (leftW c)) := rfl
    simp only [sumC]
    rw [e]
    omega
theorem sum_one {c : Cl} {k : Int} (hk : packs c (every c) = [k]) : ∀ n, n ≤ c.piles.length → sumTo c (fullC c) k n = sumC c n
  | 0, _ => rfl
  | n + 1, h => by
    have ih := sum_one hk n (by omega)
    rw [sumTo_succ, if_pos (full_bit c (by omega)), ih]
    have e : hasC c n = spanOf c n k (leftW c) := by
      show hull ((packs c (every c)).map fun k => spanOf c n k (leftW c)) = _
      rw [hk]; rfl
    simp only [sumC, e]
theorem sum_le {c : Cl} (hc : Fine c) {k : Int} (h0 : 0 ≤ k) (h5 : k ≤ 5) (o : Nat) : ∀ n, n ≤ c.piles.length → (sumTo c o k n).lo ≤ (sumTo c (fullC c) k n).lo
  | 0, _ => Int.le_refl _
  | n + 1, h => by
    have ih := sum_le hc h0 h5 o n (by omega)
    obtain ⟨a, b, d, e⟩ := low_left hc (i := n) (by omega) h0 h5
    rw [sumTo_succ, sumTo_succ, if_pos (full_bit c (by omega))]
    split
    · simp only; omega
    · simp only; omega
theorem sum_ord {c : Cl} (hc : Fine c) {k : Int} (hk : k ∈ packs c (every c)) (o : Nat) : ∀ n, n ≤ c.piles.length → (sumTo c o k n).lo ≤ (sumTo c o k n).hi
  | 0, _ => Int.le_refl _
  | n + 1, h => by
    have ih := sum_ord hc hk o n (by omega)
    obtain ⟨h0, h5, _, _, hw⟩ := packs_in hc hk
    have hl := (left_hull hc (i := n) (by omega) h0 (hw n (by omega))).le
    rw [sumTo_succ]
    split
    · simp only; omega
    · exact ih
structure AllLaw (c : Cl) : Prop where
  ord : (together c (fullC c)).lo ≤ (together c (fullC c)).hi
  lo : (sumC c c.piles.length).lo ≤ (together c (fullC c)).lo
  hi : (together c (fullC c)).hi ≤ (sumC c c.piles.length).hi
  one : c.pack.lo = c.pack.hi → together c (fullC c) = sumC c c.piles.length
  nn : 0 ≤ (together c (fullC c)).lo
  le : (together c (fullC c)).lo ≤ 20000
  most : ∀ o, (together c o).lo ≤ (together c (fullC c)).lo
theorem ends_le : ∀ (l : List Bf) (s : Sp), s.lo ≤ s.hi → (∀ e ∈ l, e.fine) → 0 ≤ s.lo → (ends l s).some = true → (ends l s).hi ≤ s.hi
  | [], s, _, _, _, _ => Int.le_refl _
  | e :: l, s, hs, hf, h0, hso => by
    simp only [ends, List.foldl_cons] at hso ⊢
    have he := hf e (by simp)
    by_cases hc : (e.after s).lo ≤ (e.after s).hi
    · have ih := ends_le l (e.after s) hc (fun e h => hf e (by simp [h])) (zkl e s h0) hso
      simp only [ends] at ih
      have : (e.after s).hi ≤ s.hi := by
        cases e with
        | nil => exact Int.le_refl _
        | sale t =>
          simp only [Bf.fine] at he
          unfold Bf.after at hc ⊢
          simp only at hc ⊢
          split
          · rename_i hh; rw [if_pos hh] at hc; simp only [Sp.no] at hc; omega
          · simp only; omega
        | count t =>
          unfold Bf.after Sp.both at hc ⊢
          simp only at hc ⊢
          split
          · rename_i hh; rw [if_pos hh] at hc; simp only [Sp.no] at hc; omega
          · simp only; omega
      omega
    · exfalso
      have hn : ∀ (l : List Bf) (t : Sp), (∀ e ∈ l, e.fine) → 0 ≤ t.lo → t.hi < t.lo → (ends l t).some = false := by
        intro l
        induction l with
        | nil => intro t _ _ h; show decide (t.lo ≤ t.hi) = false; exact decide_eq_false (by omega)
        | cons e l ih =>
          intro t hf h0 h
          simp only [ends, List.foldl_cons]
          refine ih (e.after t) (fun e h => hf e (by simp [h])) (zkl e t h0) ?_
          cases e with
          | nil => exact h
          | sale u =>
            unfold Bf.after
            simp only
            rw [if_pos (.inl (by unfold Sp.some; simp; omega))]
            decide
          | count u =>
            unfold Bf.after Sp.both
            simp only
            split
            · decide
            · rename_i hh; simp only; omega
      have := hn l (e.after s) (fun e h => hf e (by simp [h])) (zkl e s h0) (by omega)
      simp only [ends] at this
      rw [this] at hso; cases hso
theorem left_5000 {c : Cl} (hc : Fine c) {i : Nat} (hi : i < c.piles.length) {k : Int} (h0 : 0 ≤ k) (h5 : k ≤ 5) (hne : ways c i k (every c) ≠ []) : (spanOf c i k (leftW c)).hi ≤ 5000 := by
  obtain ⟨_, x, hx, hh⟩ := hull_at (l := (ways c i k (every c)).map (leftW c)) (by simpa using hne)
  have e : spanOf c i k (leftW c) = hull ((ways c i k (every c)).map (leftW c)) := rfl
  rw [e, hh]
  obtain ⟨w, hw, rfl⟩ := List.mem_map.1 hx
  obtain ⟨h1, h2, y, h3⟩ := (mem_ways hc hi h0 _ w).1 hw
  obtain ⟨s0, s1⟩ := sods_le hc hi h0 h5 h1
  have hf := zfc hc i (every c)
  have e2 : leftW c w = ends (befell c i (every c)) ⟨w.size.sods k, w.size.sods k⟩ := by
    rw [← left_eq]; obtain ⟨a, b⟩ := w; simp only at h2; subst h2; rfl
  rw [e2]
  have := ends_le (befell c i (every c)) ⟨w.size.sods k, w.size.sods k⟩ (Int.le_refl _) hf s0 ((some_has _).2 ⟨y, (ends_one _ _ y hf s0).2 h3⟩)
  simp only at this
  omega
theorem sum_5000 {c : Cl} (hc : Fine c) {k : Int} (hk : k ∈ packs c (every c)) (o : Nat) : ∀ n, n ≤ c.piles.length → (sumTo c o k n).hi ≤ 5000 * n
  | 0, _ => by simp [sumTo]
  | n + 1, h => by
    have ih := sum_5000 hc hk o n (by omega)
    obtain ⟨h0, h5, _, _, hw⟩ := packs_in hc hk
    have hl := left_5000 hc (i := n) (by omega) h0 h5 (hw n (by omega))
    rw [sumTo_succ]
    split
    · simp only; omega
    · omega
theorem all_law {c : Cl} (hc : Fine c) (hcan : can c (every c) = true) : AllLaw c := by
  have hne := can_packs hcan
  have hp := hc.piles
  obtain ⟨⟨x, hx, h1⟩, ⟨y, hy, h2⟩⟩ := hull_at (l := (packs c (every c)).map fun k => sumTo c (fullC c) k c.piles.length) (by simpa using hne)
  obtain ⟨k1, hk1, rfl⟩ := List.mem_map.1 hx
  obtain ⟨k2, hk2, rfl⟩ := List.mem_map.1 hy
  have e : together c (fullC c) = hull ((packs c (every c)).map fun k => sumTo c (fullC c) k c.piles.length) := rfl
  obtain ⟨q0, q5, _⟩ := packs_in hc hk1
  have hin := hull_in (l := (packs c (every c)).map fun k => sumTo c (fullC c) k c.piles.length) (List.mem_map.2 ⟨k1, hk1, rfl⟩)
  have ho := sum_ord hc hk1 (fullC c) c.piles.length (Nat.le_refl _)
  have hlow := sumTo_low hc (set := fullC c) q0 q5 c.piles.length (Nat.le_refl _)
  have h5 := sum_5000 hc hk1 (fullC c) c.piles.length (Nat.le_refl _)
  refine ⟨by rw [e]; omega, ?_, ?_, fun hpk => ?_, ?_, ?_, fun o => ?_⟩
  · rw [e, h1]; exact (sum_full hk1 _ (Nat.le_refl _)).1
  · rw [e, h2]; exact (sum_full hk2 _ (Nat.le_refl _)).2
  · have hall : ∀ k ∈ packs c (every c), k = c.pack.lo := fun k hk => by
      obtain ⟨_, _, a, b, _⟩ := packs_in hc hk; omega
    have hone : packs c (every c) = [c.pack.lo] := by
      have hsp : spanL c.pack = [c.pack.lo] := by
        unfold spanL
        rw [show (c.pack.hi + 1 - c.pack.lo).toNat = 1 by omega]
        simp
      unfold packs at hne ⊢
      rw [hsp] at hne ⊢
      rw [List.filter_cons] at hne ⊢
      split
      · rfl
      · rename_i hh; rw [if_neg hh] at hne; exact absurd rfl hne
    rw [e, hone]
    exact sum_one hone _ (Nat.le_refl _)
  · rw [e, h1]; omega
  · rw [e, h1]; omega
  · have hi2 := hull_in (l := (packs c (every c)).map fun k => sumTo c o k c.piles.length) (List.mem_map.2 ⟨k1, hk1, rfl⟩)
    have e2 : together c o = hull ((packs c (every c)).map fun k => sumTo c o k c.piles.length) := rfl
    have := sum_le hc q0 q5 o c.piles.length (Nat.le_refl _)
    rw [e2, e, h1]; omega
end Clm
end Go.Proofs.Ytimgnlellflciaa

/- The plain law of ClampClash. -/
namespace Go.Proofs.Ytimgnlellflciaa
open Go
namespace Clm
def keepN {α : Type} (p : Nat → α → Bool) (l : List α) (i : Nat) : List α := ((l.take i).zipIdx.filter fun q => p q.2 q.1).map (·.1)
theorem keepN_zero {α : Type} (p : Nat → α → Bool) (l : List α) : keepN p l 0 = [] := rfl
theorem keepN_succ {α : Type} {p : Nat → α → Bool} {l : List α} {i : Nat} {v : α} (h : l[i]? = some v) : keepN p l (i + 1) = keepN p l i ++ (if p i v then [v] else []) := by
  have hi := (List.getElem?_eq_some_iff.1 h).1
  have hl : (l.take i).length = i := by simp; omega
  unfold keepN
  rw [List.take_add_one, h]
  simp only [Option.toList_some, List.zipIdx_append, hl, Nat.zero_add, List.filter_append, List.map_append, List.zipIdx_cons, List.zipIdx_nil, List.filter_cons, List.filter_nil]
  split <;> simp
theorem keepN_len {α : Type} (p : Nat → α → Bool) (l : List α) (i : Nat) : (keepN p l i).length ≤ i := by
  unfold keepN
  rw [List.length_map]
  refine Nat.le_trans (List.length_filter_le _ _) ?_
  simp; omega
theorem keepN_mem {α : Type} {p : Nat → α → Bool} {l : List α} {i : Nat} {v : α} (h : v ∈ keepN p l i) : v ∈ l := by
  unfold keepN at h
  obtain ⟨q, hq, rfl⟩ := List.mem_map.1 h
  obtain ⟨h1, _⟩ := List.mem_filter.1 hq
  have := List.mem_zipIdx h1
  obtain ⟨_, _, h3⟩ := this
  rw [h3]
  exact List.mem_of_mem_take (List.getElem_mem _)
def isIn (s : Nat) (i : Nat) (v : Evt) : Bool := decide (v.kind ≠ 1) || s.testBit i
def only (c : Cl) (s : Nat) : Cl := { c with events := keepN (isIn s) c.events c.events.length }
theorem only_fine {c : Cl} (hc : Fine c) (s : Nat) : Fine (only c s) :=
  ⟨hc.piles, hc.pack, Nat.le_trans (keepN_len ..) hc.events, hc.pile, fun v hv => hc.event v (keepN_mem hv)⟩
theorem can_iff {c : Cl} (hc : Fine c) (s : Nat) : can c s = true ↔ ∃ k, c.pack.has k ∧ ∀ i, i < c.piles.length → ∃ n y, Poss c i k s n y := by
  have hp := hc.pack
  unfold can
  constructor
  · intro h
    have hne : packs c s ≠ [] := by intro e; rw [e] at h; cases h
    obtain ⟨k, hk⟩ := List.exists_mem_of_ne_nil _ hne
    obtain ⟨h0, _, h1, h2, h3⟩ := packs_in hc hk
    exact ⟨k, ⟨h1, h2⟩, fun i hi => (ways_ne hc hi h0 s).1 (h3 i hi)⟩
  · rintro ⟨k, hk, h⟩
    simp only [Sp.has] at hk
    have : k ∈ packs c s := by
      unfold packs
      rw [List.mem_filter, mem_span]
      refine ⟨hk, List.all_eq_true.2 fun i hi => ?_⟩
      have hi' : i < c.piles.length := by simpa using hi
      simpa using (ways_ne hc hi' (by omega) s).2 (h i hi')
    cases h' : packs c s with
    | nil => rw [h'] at this; cases this
    | cons a l => rfl
def bfOf (n : Int) (v : Evt) : Bf := if v.clamp ≠ n then .nil else if v.kind = 0 then .sale v.sods else .count v.sods
def bfIn (s : Nat) (n : Int) (p : Evt × Nat) : Bf := if p.1.clamp ≠ n then .nil else if p.1.kind = 0 then .sale p.1.sods else if bit s p.2 then .count p.1.sods else .nil
theorem goes_keep (s : Nat) (n : Int) : ∀ (l : List (Evt × Nat)) (x y : Int), (∀ q ∈ l, q.1.kind = 0 ∨ q.1.kind = 1) → (Goes (l.map (bfIn s n)) x y ↔ Goes (((l.filter fun q => isIn s q.2 q.1).map (·.1)).map (bfOf n)) x y)
  | [], x, y, _ => Iff.rfl
  | q :: l, x, y, h => by
    have ih := fun x => goes_keep s n l x y fun q hq => h q (by simp [hq])
    have hk := h q (by simp)
    rw [List.map_cons, zlr]
    simp only [ih]
    rw [← zlr (y := y)]
    rw [List.filter_cons]
    by_cases hq : isIn s q.2 q.1 = true
    · rw [if_pos hq, List.map_cons, List.map_cons]
      have e : bfIn s n q = bfOf n q.1 := by
        unfold bfIn bfOf bit
        unfold isIn at hq
        split
        · rfl
        · split
          · rfl
          · rename_i h0
            have h1 : q.1.kind = 1 := by omega
            rw [h1] at hq
            have hb : s.testBit q.2 = true := by simpa using hq
            rw [hb, if_pos rfl]
      rw [e]
    · rw [if_neg hq]
      have e : bfIn s n q = .nil := by
        unfold bfIn bit
        unfold isIn at hq
        split
        · rfl
        · split
          · rename_i h0; rw [h0] at hq; exact absurd rfl hq
          · have hb : s.testBit q.2 = false := by
              cases h' : s.testBit q.2
              · rfl
              · rw [h'] at hq; simp at hq
            rw [hb]; rfl
      rw [e]
      rfl
theorem befell_every (c : Cl) (_hk : ∀ v ∈ c.events, v.kind = 0 ∨ v.kind = 1) (n : Int) : befell c n (every c) = c.events.map (bfOf n) := by
  have : befell c n (every c) = c.events.zipIdx.map fun p => bfOf n p.1 := by
    unfold befell
    refine List.map_congr_left fun p hp => ?_
    obtain ⟨v, i⟩ := p
    obtain ⟨_, h2, h3⟩ := List.mem_zipIdx hp
    simp only at h2 h3 ⊢
    unfold bfOf bit
    rw [every_bit, decide_eq_true (by omega), if_pos rfl]
  rw [this, ← Function.comp_def (bfOf n) Prod.fst, ← List.map_map]
  congr 1
  simp
theorem poss_only {c : Cl} (hc : Fine c) (s : Nat) (i : Nat) (k n y : Int) : Poss (only c s) i k (every (only c s)) n y ↔ Poss c i k s n y := by
  unfold Poss
  rw [befell_every (only c s) (fun v hv => ((only_fine hc s).event v hv).2.1)]
  have : ∀ n, Goes (befell c i s) n y ↔ Goes ((only c s).events.map (bfOf i)) n y := by
    intro n
    have h := goes_keep s i c.events.zipIdx n y fun q hq => by
      have := List.mem_zipIdx hq
      obtain ⟨_, _, h3⟩ := this
      rw [h3]; exact (hc.event _ (List.getElem_mem _)).2.1
    have e : (only c s).events = (c.events.zipIdx.filter fun q => isIn s q.2 q.1).map (·.1) := by
      show keepN (isIn s) c.events c.events.length = _
      unfold keepN
      rw [List.take_length]
    rw [e]
    exact h
  simp only [this]
  rfl
theorem can_only {c : Cl} (hc : Fine c) (s : Nat) : can (only c s) (every (only c s)) = can c s := by
  rw [Bool.eq_iff_iff, can_iff (only_fine hc s), can_iff hc]
  simp only [poss_only hc]
  exact Iff.rfl
end Clm
end Go.Proofs.Ytimgnlellflciaa

/- The plain law of ClampClash: the sets. -/
namespace Go.Proofs.Ytimgnlellflciaa
open Go
namespace Clm
open Ev.K (clashP clashF clashE clashV)
structure ClaLaw (c : Cl) (S : Nat) : Prop where
  lt : S < 2 ^ c.events.length
  sub : S &&& countsN c = S
  no : can c S = false
  drop : ∀ i, i < c.events.length → S.testBit i = true → can c (S - 2 ^ i) = true
  least : ∀ o, o < 2 ^ c.events.length → o &&& countsN c = o → can c o = false → sizeN S < sizeN o ∨ sizeN S = sizeN o ∧ S ≤ o
theorem clash_law {c : Cl} (hc : Fine c) (hcan : can c (every c) = false) : ∃ S, clashF c = some S ∧ ClaLaw c S := by
  have hcl : countsN c < 2 ^ c.events.length := zcg _ _
  have h6 := hc.events
  have hp1 : clashP c (countsN c) = true := by
    unfold clashP
    rw [can_counts hc, hcan]; simp
  obtain ⟨S, hS⟩ := first_some (by omega) hcl hp1
  have hl := first_least (by omega) hS
  have his := hl.is
  simp only [clashP, Bool.and_eq_true, beq_iff_eq, Bool.not_eq_true'] at his
  have hlt : ∀ o, o < 2 ^ c.events.length → o &&& countsN c = o → can c o = false → sizeN S < sizeN o ∨ sizeN S = sizeN o ∧ S ≤ o := fun o h1 h2 h3 => hl.least o h1 (by unfold clashP; rw [h2, h3]; simp)
  have hp2 : 2 ^ c.events.length ≤ 2 ^ 6 := Nat.pow_le_pow_right (by decide) h6
  have hSl := hl.lt
  refine ⟨S, hS, hl.lt, his.1, his.2, fun i hi hb => ?_, hlt⟩
  obtain ⟨d1, d2, d3⟩ := bit_drop i (by omega) S (by omega) hb
  cases hT : can c (S - 2 ^ i) with
  | true => rfl
  | false =>
    have h1 : (S - 2 ^ i) &&& countsN c = S - 2 ^ i := by
      rw [← d3, Nat.and_assoc, his.1]
    rcases hlt (S - 2 ^ i) (Nat.lt_of_le_of_lt (Nat.sub_le _ _) hl.lt) h1 hT with h | ⟨h, _⟩ <;> omega
end Clm
end Go.Proofs.Ytimgnlellflciaa

/- The code of functions of the laws, for the evaluator. Printed by program. -/
namespace Go.Proofs.Ytimgnlellflciaa
open Go
namespace Ev
def af8 : AFunc := ⟨133, [(.tmp 4)], (.seq (.ops [⟨0, (some 2), (.box (.tmp 0)), none, 0⟩, ⟨1, (some 4), (.mov (.val (.bool false))), none, 0⟩]) (.seq (.seq (.ops [⟨0, (some 14), (.load (some 4) (.tmp 2)), none, 0⟩, ⟨1, (some 15), (.call (.val (.fn (Fn.func 21) [] [])) [(.tmp 14)]), none, 0⟩, ⟨2, (some 16), (.mov (.tmp 15)), none, 0⟩, ⟨3, (some 17), (.load (some 4) (.tmp 2)), (some (16, false)), 0⟩, ⟨4, (some 18), (.call (.val (.fn (Fn.func 22) [] [])) [(.tmp 17)]), (some (16, false)), 0⟩, ⟨5, (some 19), (.not (.tmp 18)), (some (16, false)), 0⟩, ⟨6, (some 20), (.pick (.tmp 16) (.val (.bool true)) (.tmp 19)), none, 0⟩]) (.cond (.tmp 20) (.seq (.ops [⟨0, (some 21), (.call (.val (.fn (Fn.func 19) [] [])) []), none, 0⟩, ⟨1, (some 4), (.mov (.tmp 21)), none, 0⟩]) .ret) .skip)) (.seq (.ops [⟨0, (some 23), (.load (some 4) (.tmp 2)), none, 0⟩, ⟨1, (some 24), (.call (.val (.fn (Fn.func 16) [] [])) [(.tmp 23)]), none, 0⟩, ⟨2, (some 22), (.mov (.tmp 24)), none, 0⟩, ⟨3, (some 25), (.extract (.tmp 22) 0), none, 0⟩, ⟨4, (some 26), (.extract (.tmp 22) 1), none, 0⟩, ⟨5, (some 5), (.mov (.tmp 25)), none, 0⟩, ⟨6, (some 6), (.mov (.tmp 26)), none, 0⟩]) (.seq (.ops [⟨0, (some 7), (.mov (.val (.int .i64 0))), none, 0⟩]) (.seq (.seq (.ops [⟨0, (some 27), (.fieldA 3 (.tmp 2)), none, 0⟩, ⟨1, (some 28), (.load none (.tmp 27)), none, 0⟩, ⟨2, (some 29), (.len (.tmp 28)), none, 0⟩, ⟨3, (some 30), (.mov (.val (.int .i64 0))), none, 0⟩]) (.block 0 (.loop [1, 2, 5, 6, 7, 28, 29, 30] (.seq (.ops [⟨0, (some 31), (.bin .lss (.tmp 30) (.tmp 29)), none, 0⟩]) (.seq (.cond (.tmp 31) .skip (.exit 0)) (.seq (.block 1 (.seq (.ops [⟨0, (some 32), (.mov (.tmp 30)), none, 0⟩, ⟨1, (some 33), (.indexA 4 none (.tmp 28) (.tmp 30)), none, 0⟩, ⟨2, (some 34), (.load (some 4) (.tmp 33)), none, 0⟩, ⟨3, (some 9), (.alloc [(.int .i64 0), (.int .i64 0), (.int .i64 0), (.int .i64 0)]), none, 0⟩, ⟨4, (some 8), (.mov (.tmp 32)), none, 0⟩, ⟨5, none, (.store 4 (.tmp 9) (.tmp 34)), none, 0⟩]) (.seq (.ops [⟨0, (some 35), (.fieldA 0 (.tmp 9)), none, 0⟩, ⟨1, (some 36), (.load none (.tmp 35)), none, 0⟩, ⟨2, (some 37), (.bin .eql (.tmp 36) (.val (.int .i64 1))), none, 0⟩]) (.cond (.tmp 37) (.ops [⟨0, (some 38), (.mov (.tmp 7)), none, 0⟩, ⟨1, (some 39), (.mov (.tmp 8)), none, 0⟩, ⟨2, (some 40), (.bin .shl (.val (.int .i64 1)) (.tmp 39)), none, 0⟩, ⟨3, (some 41), (.bin .or (.tmp 38) (.tmp 40)), none, 0⟩, ⟨4, (some 7), (.mov (.tmp 41)), none, 0⟩]) .skip)))) (.ops [⟨0, (some 42), (.bin .add (.tmp 30) (.val (.int .i64 1))), none, 0⟩, ⟨1, (some 30), (.mov (.tmp 42)), none, 0⟩]))))))) (.seq (.ops [⟨0, (some 43), (.mkfn (Fn.func 32) [] [(.tmp 2)]), none, 0⟩, ⟨1, (some 10), (.mov (.tmp 43)), none, 0⟩]) (.seq (.seq (.ops [⟨0, (some 44), (.mov (.tmp 6)), none, 0⟩, ⟨1, (some 45), (.bin .eql (.tmp 44) (.val (.int .i64 0))), none, 0⟩, ⟨2, (some 46), (.mov (.tmp 10)), none, 0⟩, ⟨3, (some 47), (.mov (.tmp 7)), none, 0⟩, ⟨4, (some 48), (.call (.tmp 46) [(.tmp 47)]), none, 0⟩, ⟨5, (some 49), (.eq .bool true (.tmp 45) (.tmp 48)), none, 0⟩, ⟨6, (some 50), (.mov (.tmp 49)), none, 0⟩, ⟨7, (some 51), (.mov (.tmp 6)), (some (50, false)), 0⟩, ⟨8, (some 52), (.bin .neq (.tmp 51) (.val (.int .i64 0))), (some (50, false)), 0⟩, ⟨9, (some 53), (.mov (.tmp 52)), (some (50, false)), 0⟩, ⟨10, (some 54), (.mov (.tmp 6)), (some (53, true)), 0⟩, ⟨11, (some 55), (.bin .neq (.tmp 54) (.val (.int .i64 4))), (some (53, true)), 0⟩, ⟨12, (some 56), (.mov (.tmp 55)), (some (53, true)), 0⟩, ⟨13, (some 57), (.mov (.tmp 5)), (some (56, false)), 0⟩, ⟨14, (some 58), (.bin .neq (.tmp 57) (.val (.int .i64 0))), (some (56, false)), 0⟩, ⟨15, (some 59), (.pick (.tmp 56) (.val (.bool true)) (.tmp 58)), (some (53, true)), 0⟩, ⟨16, (some 60), (.pick (.tmp 53) (.tmp 59) (.val (.bool false))), (some (50, false)), 0⟩, ⟨17, (some 61), (.pick (.tmp 50) (.val (.bool true)) (.tmp 60)), none, 0⟩]) (.cond (.tmp 61) (.seq (.ops [⟨0, (some 4), (.mov (.val (.bool false))), none, 0⟩]) .ret) .skip)) (.seq (.seq (.ops [⟨0, (some 62), (.mov (.tmp 6)), none, 0⟩, ⟨1, (some 63), (.bin .neq (.tmp 62) (.val (.int .i64 0))), none, 0⟩]) (.cond (.tmp 63) (.seq (.ops [⟨0, (some 64), (.call (.val (.fn (Fn.func 19) [] [])) []), none, 0⟩, ⟨1, (some 4), (.mov (.tmp 64)), none, 0⟩]) .ret) .skip)) (.seq (.seq (.ops [⟨0, (some 65), (.mov (.tmp 5)), none, 0⟩, ⟨1, (some 66), (.bin .lss (.tmp 65) (.val (.int .i64 0))), none, 0⟩, ⟨2, (some 67), (.mov (.tmp 66)), none, 0⟩, ⟨3, (some 68), (.mov (.tmp 5)), (some (67, false)), 0⟩, ⟨4, (some 69), (.mov (.tmp 7)), (some (67, false)), 0⟩, ⟨5, (some 70), (.bin .andNot (.tmp 68) (.tmp 69)), (some (67, false)), 0⟩, ⟨6, (some 71), (.bin .neq (.tmp 70) (.val (.int .i64 0))), (some (67, false)), 0⟩, ⟨7, (some 72), (.pick (.tmp 67) (.val (.bool true)) (.tmp 71)), none, 0⟩, ⟨8, (some 73), (.mov (.tmp 72)), none, 0⟩, ⟨9, (some 74), (.mov (.tmp 10)), (some (73, false)), 0⟩, ⟨10, (some 75), (.mov (.tmp 5)), (some (73, false)), 0⟩, ⟨11, (some 76), (.call (.tmp 74) [(.tmp 75)]), (some (73, false)), 0⟩, ⟨12, (some 77), (.not (.tmp 76)), (some (73, false)), 0⟩, ⟨13, (some 78), (.pick (.tmp 73) (.val (.bool true)) (.tmp 77)), none, 0⟩]) (.cond (.tmp 78) (.seq (.ops [⟨0, (some 4), (.mov (.val (.bool false))), none, 0⟩]) .ret) .skip)) (.seq (.seq (.ops [⟨0, (some 79), (.fieldA 3 (.tmp 2)), none, 0⟩, ⟨1, (some 80), (.load none (.tmp 79)), none, 0⟩, ⟨2, (some 81), (.len (.tmp 80)), none, 0⟩, ⟨3, (some 82), (.mov (.val (.int .i64 0))), none, 0⟩]) (.block 2 (.loop [1, 5, 7, 10, 81, 82] (.seq (.ops [⟨0, (some 83), (.bin .lss (.tmp 82) (.tmp 81)), none, 0⟩]) (.seq (.cond (.tmp 83) .skip (.exit 2)) (.seq (.block 3 (.seq (.ops [⟨0, (some 84), (.mov (.tmp 82)), none, 0⟩, ⟨1, (some 11), (.mov (.tmp 84)), none, 0⟩]) (.seq (.ops [⟨0, (some 85), (.mov (.tmp 5)), none, 0⟩, ⟨1, (some 86), (.mov (.tmp 11)), none, 0⟩, ⟨2, (some 87), (.bin .shr (.tmp 85) (.tmp 86)), none, 0⟩, ⟨3, (some 88), (.bin .and (.tmp 87) (.val (.int .i64 1))), none, 0⟩, ⟨4, (some 89), (.bin .eql (.tmp 88) (.val (.int .i64 1))), none, 0⟩, ⟨5, (some 90), (.mov (.tmp 89)), none, 0⟩, ⟨6, (some 91), (.mov (.tmp 10)), (some (90, true)), 0⟩, ⟨7, (some 92), (.mov (.tmp 5)), (some (90, true)), 0⟩, ⟨8, (some 93), (.mov (.tmp 11)), (some (90, true)), 0⟩, ⟨9, (some 94), (.bin .shl (.val (.int .i64 1)) (.tmp 93)), (some (90, true)), 0⟩, ⟨10, (some 95), (.bin .andNot (.tmp 92) (.tmp 94)), (some (90, true)), 0⟩, ⟨11, (some 96), (.call (.tmp 91) [(.tmp 95)]), (some (90, true)), 0⟩, ⟨12, (some 97), (.pick (.tmp 90) (.tmp 96) (.val (.bool false))), none, 0⟩]) (.cond (.tmp 97) (.seq (.ops [⟨0, (some 4), (.mov (.val (.bool false))), none, 0⟩]) .ret) .skip)))) (.ops [⟨0, (some 98), (.bin .add (.tmp 82) (.val (.int .i64 1))), none, 0⟩, ⟨1, (some 82), (.mov (.tmp 98)), none, 0⟩]))))))) (.seq (.ops [⟨0, (some 99), (.mov (.tmp 1)), none, 0⟩, ⟨1, (some 100), (.conv .i64 (.tmp 99)), none, 0⟩, ⟨2, (some 101), (.mov (.tmp 7)), none, 0⟩, ⟨3, (some 102), (.bin .and (.tmp 100) (.tmp 101)), none, 0⟩, ⟨4, (some 12), (.mov (.tmp 102)), none, 0⟩, ⟨5, (some 13), (.mov (.val (.fn (Fn.func 31) [] []))), none, 0⟩]) (.seq (.ops [⟨0, (some 103), (.mov (.tmp 10)), none, 0⟩, ⟨1, (some 104), (.mov (.tmp 12)), none, 0⟩, ⟨2, (some 105), (.call (.tmp 103) [(.tmp 104)]), none, 0⟩, ⟨3, (some 106), (.not (.tmp 105)), none, 0⟩, ⟨4, (some 107), (.mov (.tmp 106)), none, 0⟩, ⟨5, (some 108), (.mov (.tmp 13)), (some (107, false)), 0⟩, ⟨6, (some 109), (.mov (.tmp 12)), (some (107, false)), 0⟩, ⟨7, (some 110), (.call (.tmp 108) [(.tmp 109)]), (some (107, false)), 0⟩, ⟨8, (some 111), (.mov (.tmp 13)), (some (107, false)), 0⟩, ⟨9, (some 112), (.mov (.tmp 5)), (some (107, false)), 0⟩, ⟨10, (some 113), (.call (.tmp 111) [(.tmp 112)]), (some (107, false)), 0⟩, ⟨11, (some 114), (.bin .gtr (.tmp 110) (.tmp 113)), (some (107, false)), 0⟩, ⟨12, (some 115), (.pick (.tmp 107) (.val (.bool true)) (.tmp 114)), none, 0⟩, ⟨13, (some 116), (.mov (.tmp 115)), none, 0⟩, ⟨14, (some 117), (.mov (.tmp 13)), (some (116, false)), 0⟩, ⟨15, (some 118), (.mov (.tmp 12)), (some (116, false)), 0⟩, ⟨16, (some 119), (.call (.tmp 117) [(.tmp 118)]), (some (116, false)), 0⟩, ⟨17, (some 120), (.mov (.tmp 13)), (some (116, false)), 0⟩, ⟨18, (some 121), (.mov (.tmp 5)), (some (116, false)), 0⟩, ⟨19, (some 122), (.call (.tmp 120) [(.tmp 121)]), (some (116, false)), 0⟩, ⟨20, (some 123), (.bin .eql (.tmp 119) (.tmp 122)), (some (116, false)), 0⟩, ⟨21, (some 124), (.mov (.tmp 123)), (some (116, false)), 0⟩, ⟨22, (some 125), (.mov (.tmp 12)), (some (124, true)), 0⟩, ⟨23, (some 126), (.mov (.tmp 5)), (some (124, true)), 0⟩, ⟨24, (some 127), (.bin .geq (.tmp 125) (.tmp 126)), (some (124, true)), 0⟩, ⟨25, (some 128), (.pick (.tmp 124) (.tmp 127) (.val (.bool false))), (some (116, false)), 0⟩, ⟨26, (some 129), (.pick (.tmp 116) (.val (.bool true)) (.tmp 128)), none, 0⟩, ⟨27, (some 130), (.mov (.tmp 129)), none, 0⟩, ⟨28, (some 131), (.call (.val (.fn (Fn.func 19) [] [])) []), (some (130, true)), 0⟩, ⟨29, (some 132), (.pick (.tmp 130) (.tmp 131) (.val (.bool false))), none, 0⟩, ⟨30, (some 4), (.mov (.tmp 132)), none, 0⟩]) .ret))))))))))))⟩
def af32 : AFunc := ⟨43, [(.tmp 3)], (.seq (.ops [⟨0, (some 3), (.mov (.val (.bool false))), none, 0⟩]) (.seq (.ops [⟨0, (some 9), (.load (some 4) (.tmp 1)), none, 0⟩, ⟨1, (some 4), (.alloc [.nils, (.int .i64 0), (.int .i64 0), .nils]), none, 0⟩, ⟨2, none, (.store 4 (.tmp 4) (.tmp 9)), none, 0⟩]) (.seq (.ops [⟨0, (some 10), (.fieldA 3 (.tmp 4)), none, 0⟩, ⟨1, none, (.store 1 (.tmp 10) (.val .nils)), none, 0⟩]) (.seq (.seq (.ops [⟨0, (some 11), (.fieldA 3 (.tmp 1)), none, 0⟩, ⟨1, (some 12), (.load none (.tmp 11)), none, 0⟩, ⟨2, (some 13), (.len (.tmp 12)), none, 0⟩, ⟨3, (some 14), (.mov (.val (.int .i64 0))), none, 0⟩]) (.block 0 (.loop [0, 4, 12, 13, 14] (.seq (.ops [⟨0, (some 15), (.bin .lss (.tmp 14) (.tmp 13)), none, 0⟩]) (.seq (.cond (.tmp 15) .skip (.exit 0)) (.seq (.block 1 (.seq (.ops [⟨0, (some 16), (.mov (.tmp 14)), none, 0⟩, ⟨1, (some 17), (.indexA 4 none (.tmp 12) (.tmp 14)), none, 0⟩, ⟨2, (some 18), (.load (some 4) (.tmp 17)), none, 0⟩, ⟨3, (some 6), (.alloc [(.int .i64 0), (.int .i64 0), (.int .i64 0), (.int .i64 0)]), none, 0⟩, ⟨4, (some 5), (.mov (.tmp 16)), none, 0⟩, ⟨5, none, (.store 4 (.tmp 6) (.tmp 18)), none, 0⟩]) (.seq (.ops [⟨0, (some 19), (.fieldA 0 (.tmp 6)), none, 0⟩, ⟨1, (some 20), (.load none (.tmp 19)), none, 0⟩, ⟨2, (some 21), (.bin .neq (.tmp 20) (.val (.int .i64 1))), none, 0⟩, ⟨3, (some 22), (.mov (.tmp 21)), none, 0⟩, ⟨4, (some 23), (.mov (.tmp 0)), (some (22, false)), 0⟩, ⟨5, (some 24), (.mov (.tmp 5)), (some (22, false)), 0⟩, ⟨6, (some 25), (.bin .shr (.tmp 23) (.tmp 24)), (some (22, false)), 0⟩, ⟨7, (some 26), (.bin .and (.tmp 25) (.val (.int .i64 1))), (some (22, false)), 0⟩, ⟨8, (some 27), (.bin .eql (.tmp 26) (.val (.int .i64 1))), (some (22, false)), 0⟩, ⟨9, (some 28), (.pick (.tmp 22) (.val (.bool true)) (.tmp 27)), none, 0⟩]) (.cond (.tmp 28) (.ops [⟨0, (some 29), (.fieldA 3 (.tmp 4)), none, 0⟩, ⟨1, (some 30), (.load none (.tmp 29)), none, 0⟩, ⟨2, (some 31), (.load (some 4) (.tmp 6)), none, 0⟩, ⟨3, (some 32), (.buildSl 4 1 [(.int .i64 0), (.int .i64 0), (.int .i64 0), (.int .i64 0)] [(0, (.tmp 31))]), none, 0⟩, ⟨4, (some 33), (.append 4 (.tmp 30) (.tmp 32)), none, 0⟩, ⟨5, (some 34), (.fieldA 3 (.tmp 4)), none, 0⟩, ⟨6, none, (.store 1 (.tmp 34) (.tmp 33)), none, 0⟩]) .skip)))) (.ops [⟨0, (some 35), (.bin .add (.tmp 14) (.val (.int .i64 1))), none, 0⟩, ⟨1, (some 14), (.mov (.tmp 35)), none, 0⟩]))))))) (.seq (.ops [⟨0, (some 37), (.load (some 4) (.tmp 4)), none, 0⟩, ⟨1, (some 38), (.call (.val (.fn (Fn.func 25) [] [])) [(.tmp 37)]), none, 0⟩, ⟨2, (some 36), (.mov (.tmp 38)), none, 0⟩, ⟨3, (some 39), (.extract (.tmp 36) 0), none, 0⟩, ⟨4, (some 40), (.extract (.tmp 36) 1), none, 0⟩, ⟨5, (some 7), (.alloc [(.int .i64 0), (.int .i64 0)]), none, 0⟩, ⟨6, none, (.store 2 (.tmp 7) (.tmp 39)), none, 0⟩, ⟨7, (some 8), (.mov (.tmp 40)), none, 0⟩]) (.seq (.ops [⟨0, (some 41), (.mov (.tmp 8)), none, 0⟩, ⟨1, (some 42), (.bin .eql (.tmp 41) (.val (.int .i64 10))), none, 0⟩, ⟨2, (some 3), (.mov (.tmp 42)), none, 0⟩]) .ret))))))⟩
end Ev
end Go.Proofs.Ytimgnlellflciaa

/- ClampClash, gone through: the closure. -/
namespace Go.Proofs.Ytimgnlellflciaa
open Go
namespace Ev
namespace K
set_option maxRecDepth 100000
set_option maxHeartbeats 4000000
inductive Sel (H J : List AB) (sel : List Clm.Evt) : AV → Prop
  | none : sel = [] → Sel H J sel .nils
  | at (j : Nat) : J[j]? = some (.cells (evtCs sel)) → Sel H J sel (.sl (H.length + 1 + j) 0 sel.length 4)
theorem sel_get {H J K : List AB} {j : Nat} {x : AB} (h : J[j]? = some x) (X : AB) : (H ++ X :: (J ++ K))[H.length + 1 + j]? = some x := by
  have hj := (List.getElem?_eq_some_iff.1 h).1
  rw [List.getElem?_append_right (by omega), show H.length + 1 + j - H.length = j + 1 by omega, List.getElem?_cons_succ, List.getElem?_append_left hj]
  exact h
theorem sel_set {H J K : List AB} {j : Nat} (hj : j < J.length) (X : AB) (v : AB) : (H ++ X :: (J ++ K)).set (H.length + 1 + j) v = H ++ X :: (J.set j v ++ K) := by
  rw [List.set_append_right _ _ (by omega), show H.length + 1 + j - H.length = j + 1 by omega, List.set_cons_succ, List.set_append_left _ _ hj]
def ClashC (call : CallF) (c : Clm.Cl) : Prop := ∀ (H : List AB) (b s : Nat), H[b]? = some (.cells (clampCs c)) → call (.fn (.func 32) [] [.ptr b 0]) [.int .i64 s] H = some (.ret (.bool (!Clm.can c s)), H, [])
theorem isin_bit {v : Clm.Evt} {s i : Nat} (hk : v.kind = 0 ∨ v.kind = 1) : Clm.isIn s i v = ((v.kind != 1) || s.testBit i) := by
  unfold Clm.isIn
  rcases hk with h | h <;> simp [h]
theorem clashc_fun (C : Cfg) (hC : C.calm = true) (call : CallF) (hA : LApi call) (c : Clm.Cl) (hc : Clm.Fine c) (H : List AB) (b s : Nat) (hb : H[b]? = some (.cells (clampCs c))) :
    Does (ev C call H.length none af32.body { tm := tmA af32.ntmps (zipI 0 [.int .i64 s, .ptr b 0] []), df := [], hp := H, tc := [] })
      (Ends C H.length af32.res fun v _hp tc => v = .bool (!Clm.can c s) ∧ tc = []) := by
  obtain ⟨b0, b1, b2, b3, b4, b5⟩ := bk' hb
  have hp := hc.piles
  have he := hc.events
  have hcl : ∀ (H : List AB) lv, evtsV H lv (Clm.only c s).events → call (.fn (.func 25) [] []) [.agg [.vs 6 (c.piles.map pileE), .int .i64 c.pack.lo, .int .i64 c.pack.hi, lv]] H = some (.ret (spanR (Clm.only c s) true (Clm.together (Clm.only c s) (fullP (Clm.only c s)))), H, []) := fun H lv h =>
    hA.all (clOf_of (pilesV_vs H c.piles) h (a := c.pack.lo) (b := c.pack.hi) (by omega) (Nat.le_trans (Clm.only_fine hc s).events (by decide)))
  have herr : errOf (Clm.only c s) true = if Clm.can c s then 0 else 10 := by
    unfold errOf
    rw [(Clm.valid_iff _).2 (Clm.only_fine hc s), Clm.can_only hc]
    cases Clm.can c s <;> rfl
  have hk : ∀ (i : Nat) (v : Clm.Evt), c.events[i]? = some v → v.kind = 0 ∨ v.kind = 1 := fun i v h => (hc.event v (List.mem_of_getElem? h)).2.1
  have HA := hideP (And.intro hcl (And.intro herr (And.intro hk he)))
  clear hcl herr hk hA hc hp
  unfold af32
  simp only [zipI, clampCs] at *
  (repeat (first | (with_reducible apply zan; (focus ((conv => lhs; simp [ev1, wantG, spineK, spine, float, xnew, xval, xeff, zaa, zab, zal, zad, zae, addFl, cellsOf, pickC, alive, slLen, slFt, binI, maxA, maxK, minA, minK, aeqK, aeqS, AV.cells,  spA, zac, fillA, setAt, bitsI, nat_nn, zar, AV.plain, apart, Nat.testBit_eq_decide_div_mod_eq, *]) <;> exact rfl)); simp only [addFl]) | ((with_reducible first | refine zao ?_ | refine zaq ?_ | refine zak ?_ | refine zai ?_ | refine zag ?_ | refine zap ?_ | refine zaj ?_ | refine zas ?_ | (apply zah; (focus (simp [zaa, *]; done))) | (with_reducible apply zaf; (focus (simp [zaa, *]; done)))); try simp only [Then, Ops]) | simp only [Nat.reduceEqDiff, reduceIte, OutB, Then]))
  with_reducible refine zbg hC c.events.length (by unfold fuelL; omega) (fun i st => ∃ (J : List AB) (lv : AV), Sel H J (Clm.keepN (Clm.isIn s) c.events i) lv ∧ st = { tm := tmA 43 [(14, .int .i64 i), (13, .int .i64 c.events.length), (12, .vs 4 (c.events.map evtE)), (4, .ptr H.length 0), (0, .int .i64 s)], df := [], hp := H ++ .cells [.vs 6 (c.piles.map pileE), .int .i64 c.pack.lo, .int .i64 c.pack.hi, lv] :: J, tc := [] }) ?_ ?_ ?_
  · refine ⟨[], .nils, .none rfl, ?_⟩
    (refine st_is ?_ ?_ ?_ ?_; (focus (simp [zau, zax])); (focus rfl); (focus (first | rfl | (simp; done) | (simp [*]; done) | (simp; rfl) | (simp [*]; omega) | (simp; omega))); (focus (first | rfl | simp)))
  · rintro i st hi ⟨J, lv, hsel, rfl⟩
    have hgv : c.events[i]? = some c.events[i] := List.getElem?_eq_getElem hi
    generalize c.events[i] = v at hgv
    have hpk := Clm.keepN_succ (p := Clm.isIn s) hgv
    have hlen := Clm.keepN_len (Clm.isIn s) c.events i
    obtain ⟨_, _, hk, he'⟩ := HA.out
    rw [isin_bit (hk i v hgv)] at hpk
    have hgv' := ge_of hgv
    have hbit := bit_i64 (n := s) (d := i) (by omega)
    have hwi : IntKind.i64.wrap (↑i + 1) = ↑i + 1 := zaz (by omega) (by omega)
    generalize Clm.keepN (Clm.isIn s) c.events i = sel at *
    clear hk
    by_cases hin : (v.kind != 1 || s.testBit i) = true
    · rw [if_pos hin] at hpk
      have HP := hideP hpk
      clear hpk
      have key : (v.kind ≠ 1) ∨ (v.kind = 1 ∧ s.testBit i = true) := by
        by_cases h1 : v.kind = 1
        · right; simp [h1] at hin; exact ⟨h1, hin⟩
        · exact .inl h1
      cases hsel with
      | none h0 =>
        subst h0
        have hb1 : 1 ≤ bound := by decide
        have fin : ∀ st : St, st = { tm := tmA 43 [(14, .int .i64 (i + 1 : Nat)), (13, .int .i64 c.events.length), (12, .vs 4 (c.events.map evtE)), (4, .ptr H.length 0), (0, .int .i64 s)], df := [], hp := H ++ .cells [.vs 6 (c.piles.map pileE), .int .i64 c.pack.lo, .int .i64 c.pack.hi, .sl (H.length + 1 + (J.length + 2)) 0 1 4] :: (J ++ [.cells [.int .i64 v.kind, .int .i64 v.clamp, .int .i64 v.sods.lo, .int .i64 v.sods.hi], .cells [.int .i64 v.kind, .int .i64 v.clamp, .int .i64 v.sods.lo, .int .i64 v.sods.hi], .cells [.int .i64 v.kind, .int .i64 v.clamp, .int .i64 v.sods.lo, .int .i64 v.sods.hi]]), tc := [] } → ∃ (J : List AB) (lv : AV), Sel H J (Clm.keepN (Clm.isIn s) c.events (i + 1)) lv ∧ st = { tm := tmA 43 [(14, .int .i64 (i + 1 : Nat)), (13, .int .i64 c.events.length), (12, .vs 4 (c.events.map evtE)), (4, .ptr H.length 0), (0, .int .i64 s)], df := [], hp := H ++ .cells [.vs 6 (c.piles.map pileE), .int .i64 c.pack.lo, .int .i64 c.pack.hi, lv] :: J, tc := [] } := fun st h => ⟨_, _, by
          rw [HP.out]
          exact .at (J.length + 2) (by simp [evtCs]), h⟩
        clear hin he' he hlen
        rcases key with h1 | ⟨h1, h2⟩
        · have h1' : (v.kind != 1) = true := by simp [h1]
          clear hbit
          (repeat (first | (with_reducible apply zan; (focus ((conv => lhs; simp [ev1, wantG, spineK, spine, float, xnew, xval, xeff, zaa, zab, zal, zad, zae, addFl, cellsOf, pickC, alive, slLen, slFt, binI, maxA, maxK, minA, minK, aeqK, aeqS, AV.cells, evtE,  spA, zac, fillA, setAt, bitsI, nat_nn, zar, AV.plain, apart, Nat.testBit_eq_decide_div_mod_eq, *]) <;> exact rfl)); simp only [addFl]) | ((with_reducible first | refine zao ?_ | refine zaq ?_ | refine zak ?_ | refine zai ?_ | refine zag ?_ | refine zap ?_ | refine zaj ?_ | refine zas ?_ | (apply zah; (focus (simp [zaa, *]; done))) | (with_reducible apply zaf; (focus (simp [zaa, *]; done)))); try simp only [Then, Ops, OutB]) | simp only [Nat.reduceEqDiff, reduceIte, OutB, Then]))
          refine fin _ ?_
          clear fin
          (refine st_is ?_ ?_ ?_ ?_; (focus (simp [zau, zax])); (focus rfl); (focus (first | rfl | (simp; done) | (simp [*]; done) | (simp; rfl) | (simp [*]; omega) | (simp; omega))); (focus (first | rfl | simp)))
        · rw [h2] at hbit
          simp at hbit
          clear h2
          (repeat (first | (with_reducible apply zan; (focus ((conv => lhs; simp [ev1, wantG, spineK, spine, float, xnew, xval, xeff, zaa, zab, zal, zad, zae, addFl, cellsOf, pickC, alive, slLen, slFt, binI, maxA, maxK, minA, minK, aeqK, aeqS, AV.cells, evtE,  spA, zac, fillA, setAt, bitsI, nat_nn, zar, AV.plain, apart, Nat.testBit_eq_decide_div_mod_eq, *]) <;> exact rfl)); simp only [addFl]) | ((with_reducible first | refine zao ?_ | refine zaq ?_ | refine zak ?_ | refine zai ?_ | refine zag ?_ | refine zap ?_ | refine zaj ?_ | refine zas ?_ | (apply zah; (focus (simp [zaa, *]; done))) | (with_reducible apply zaf; (focus (simp [zaa, *]; done)))); try simp only [Then, Ops, OutB]) | simp only [Nat.reduceEqDiff, reduceIte, OutB, Then]))
          refine fin _ ?_
          clear fin
          (refine st_is ?_ ?_ ?_ ?_; (focus (simp [zau, zax])); (focus rfl); (focus (first | rfl | (simp; done) | (simp [*]; done) | (simp; rfl) | (simp [*]; omega) | (simp; omega))); (focus (first | rfl | simp)))
      | «at» j hj =>
        have hjl := (List.getElem?_eq_some_iff.1 hj).1
        have hb1 : sel.length + 1 ≤ bound := by unfold bound; omega
        have g0 := fun X K => sel_get (H := H) (K := K) hj X
        have g1 := fun X => sel_get (H := H) (K := []) hj X
        simp only [List.append_nil] at g1
        have g2 := fun X K v => sel_set (H := H) (K := K) hjl X v
        have g3 : ¬ (H.length + 1 + j < H.length) := by omega
        have g4 : H.length ≠ H.length + 1 + j := by omega
        have fin : ∀ st : St, st = { tm := tmA 43 [(14, .int .i64 (i + 1 : Nat)), (13, .int .i64 c.events.length), (12, .vs 4 (c.events.map evtE)), (4, .ptr H.length 0), (0, .int .i64 s)], df := [], hp := H ++ .cells [.vs 6 (c.piles.map pileE), .int .i64 c.pack.lo, .int .i64 c.pack.hi, .sl (H.length + 1 + (J.length + 2)) 0 (sel.length + 1) 4] :: (J.set j .dead ++ [.cells [.int .i64 v.kind, .int .i64 v.clamp, .int .i64 v.sods.lo, .int .i64 v.sods.hi], .cells [.int .i64 v.kind, .int .i64 v.clamp, .int .i64 v.sods.lo, .int .i64 v.sods.hi], .cells (evtCs sel ++ [.int .i64 v.kind, .int .i64 v.clamp, .int .i64 v.sods.lo, .int .i64 v.sods.hi])]), tc := [] } → ∃ (J : List AB) (lv : AV), Sel H J (Clm.keepN (Clm.isIn s) c.events (i + 1)) lv ∧ st = { tm := tmA 43 [(14, .int .i64 (i + 1 : Nat)), (13, .int .i64 c.events.length), (12, .vs 4 (c.events.map evtE)), (4, .ptr H.length 0), (0, .int .i64 s)], df := [], hp := H ++ .cells [.vs 6 (c.piles.map pileE), .int .i64 c.pack.lo, .int .i64 c.pack.hi, lv] :: J, tc := [] } := fun st h => ⟨_, _, by
          rw [HP.out]
          have := Sel.at (H := H) (J := J.set j .dead ++ [.cells [.int .i64 v.kind, .int .i64 v.clamp, .int .i64 v.sods.lo, .int .i64 v.sods.hi], .cells [.int .i64 v.kind, .int .i64 v.clamp, .int .i64 v.sods.lo, .int .i64 v.sods.hi], .cells (evtCs sel ++ [.int .i64 v.kind, .int .i64 v.clamp, .int .i64 v.sods.lo, .int .i64 v.sods.hi])]) (sel := sel ++ [v]) (J.length + 2) (by rw [List.getElem?_append_right (by simp)]; simp [evtCs_app, evtCs])
          rw [List.length_append] at this
          exact this, h⟩
        clear hin he' he hlen hj hjl
        generalize hB : H.length + 1 + j = B at *
        rcases key with h1 | ⟨h1, h2⟩
        · have h1' : (v.kind != 1) = true := by simp [h1]
          clear hbit
          (repeat (first | (with_reducible apply zan; (focus ((conv => lhs; simp [ev1, wantG, spineK, spine, float, xnew, xval, xeff, zaa, zab, zal, zad, zae, addFl, cellsOf, pickC, alive, slLen, slFt, binI, maxA, maxK, minA, minK, aeqK, aeqS, AV.cells, evtE, zia, zna,  spA, zac, fillA, setAt, bitsI, nat_nn, zar, AV.plain, apart, Nat.testBit_eq_decide_div_mod_eq, *]) <;> exact rfl)); simp only [addFl]) | ((with_reducible first | refine zao ?_ | refine zaq ?_ | refine zak ?_ | refine zai ?_ | refine zag ?_ | refine zap ?_ | refine zaj ?_ | refine zas ?_ | (apply zah; (focus (simp [zaa, *]; done))) | (with_reducible apply zaf; (focus (simp [zaa, *]; done)))); try simp only [Then, Ops, OutB]) | simp only [Nat.reduceEqDiff, reduceIte, OutB, Then]))
          refine fin _ ?_
          clear fin
          (refine st_is ?_ ?_ ?_ ?_; (focus (simp [zau, zax])); (focus rfl); (focus (first | rfl | (simp; done) | (simp [*]; done) | (simp; rfl) | (simp [*]; omega) | (simp; omega))); (focus (first | rfl | simp)))
        · rw [h2] at hbit
          simp at hbit
          clear h2
          (repeat (first | (with_reducible apply zan; (focus ((conv => lhs; simp [ev1, wantG, spineK, spine, float, xnew, xval, xeff, zaa, zab, zal, zad, zae, addFl, cellsOf, pickC, alive, slLen, slFt, binI, maxA, maxK, minA, minK, aeqK, aeqS, AV.cells, evtE, zia, zna,  spA, zac, fillA, setAt, bitsI, nat_nn, zar, AV.plain, apart, Nat.testBit_eq_decide_div_mod_eq, *]) <;> exact rfl)); simp only [addFl]) | ((with_reducible first | refine zao ?_ | refine zaq ?_ | refine zak ?_ | refine zai ?_ | refine zag ?_ | refine zap ?_ | refine zaj ?_ | refine zas ?_ | (apply zah; (focus (simp [zaa, *]; done))) | (with_reducible apply zaf; (focus (simp [zaa, *]; done)))); try simp only [Then, Ops, OutB]) | simp only [Nat.reduceEqDiff, reduceIte, OutB, Then]))
          refine fin _ ?_
          clear fin
          (refine st_is ?_ ?_ ?_ ?_; (focus (simp [zau, zax])); (focus rfl); (focus (first | rfl | (simp; done) | (simp [*]; done) | (simp; rfl) | (simp [*]; omega) | (simp; omega))); (focus (first | rfl | simp)))
    · rw [if_neg hin, List.append_nil] at hpk
      have HP := hideP hpk
      clear hpk
      have h1 : v.kind = 1 := by
        by_cases h1 : v.kind = 1
        · exact h1
        · simp [h1] at hin
      have h2 : s.testBit i = false := by
        simp [h1] at hin; exact hin
      rw [h2] at hbit
      simp at hbit
      clear hin he' he hlen h2
      (repeat (first | (with_reducible apply zan; (focus ((conv => lhs; simp [ev1, wantG, spineK, spine, float, xnew, xval, xeff, zaa, zab, zal, zad, zae, addFl, cellsOf, pickC, alive, slLen, slFt, binI, maxA, maxK, minA, minK, aeqK, aeqS, AV.cells, evtE,  spA, zac, fillA, setAt, bitsI, nat_nn, zar, AV.plain, apart, Nat.testBit_eq_decide_div_mod_eq, *]) <;> exact rfl)); simp only [addFl]) | ((with_reducible first | refine zao ?_ | refine zaq ?_ | refine zak ?_ | refine zai ?_ | refine zag ?_ | refine zap ?_ | refine zaj ?_ | refine zas ?_ | (apply zah; (focus (simp [zaa, *]; done))) | (with_reducible apply zaf; (focus (simp [zaa, *]; done)))); try simp only [Then, Ops, OutB]) | simp only [Nat.reduceEqDiff, reduceIte, OutB, Then]))
      refine ⟨J ++ [.cells [.int .i64 1, .int .i64 v.clamp, .int .i64 v.sods.lo, .int .i64 v.sods.hi]], lv, ?_, ?_⟩
      · rw [HP.out]
        cases hsel with
        | none h => exact .none h
        | «at» j hj => exact .at j (by rw [List.getElem?_append_left (List.getElem?_eq_some_iff.1 hj).1]; exact hj)
      · (refine st_is ?_ ?_ ?_ ?_; (focus (simp [zau, zax])); (focus rfl); (focus (first | rfl | (simp; done) | (simp [*]; done) | (simp; rfl) | (simp [*]; omega) | (simp; omega))); (focus (first | rfl | simp)))
  · rintro st ⟨J, lv, hsel, rfl⟩
    obtain ⟨hcl, herr, _, _⟩ := HA.out
    have hlk : ∀ X, evtsV (H ++ X :: J) lv (Clm.only c s).events := by
      intro X
      have e : (Clm.only c s).events = Clm.keepN (Clm.isIn s) c.events c.events.length := rfl
      rw [e]
      cases hsel with
      | none h => rw [h]; exact evtsV_nil _
      | «at» j hj =>
        have := sel_get (H := H) (K := []) hj X
        rw [List.append_nil] at this
        exact evtsV_sl this rfl
    have hcall := hcl (H ++ .cells [.vs 6 (c.piles.map pileE), .int .i64 c.pack.lo, .int .i64 c.pack.hi, lv] :: J) lv (hlk _)
    unfold spanR at hcall
    rw [herr] at hcall
    generalize (Clm.together (Clm.only c s) (fullP (Clm.only c s))) = sp at *
    generalize Clm.can c s = cn at *
    clear hcl herr hlk hsel he HA
    cases cn with
    | true =>
      simp [spA] at hcall
      (repeat (first | (with_reducible apply zan; (focus ((conv => lhs; simp [ev1, wantG, spineK, spine, float, xnew, xval, xeff, zaa, zab, zal, zad, zae, addFl, cellsOf, pickC, alive, slLen, slFt, binI, maxA, maxK, minA, minK, aeqK, aeqS, AV.cells,  spA, zac, fillA, setAt, bitsI, nat_nn, zar, AV.plain, apart, Nat.testBit_eq_decide_div_mod_eq, *]) <;> exact rfl)); simp only [addFl]) | ((with_reducible first | refine zao ?_ | refine zaq ?_ | refine zak ?_ | refine zai ?_ | refine zag ?_ | refine zap ?_ | refine zaj ?_ | refine zas ?_ | (apply zah; (focus (simp [zaa, *]; done))) | (with_reducible apply zaf; (focus (simp [zaa, *]; done)))); try simp only [Then, Ops, OutB, reduceIte]) | simp only [Nat.reduceEqDiff, reduceIte, OutB, Then]))
      exact zat (v := .bool false) (.inl rfl) rfl (by simp) (by simp only [resL, resOf, zam]; simp [resV, *]) ⟨rfl, rfl⟩
    | false =>
      simp [spA] at hcall
      (repeat (first | (with_reducible apply zan; (focus ((conv => lhs; simp [ev1, wantG, spineK, spine, float, xnew, xval, xeff, zaa, zab, zal, zad, zae, addFl, cellsOf, pickC, alive, slLen, slFt, binI, maxA, maxK, minA, minK, aeqK, aeqS, AV.cells,  spA, zac, fillA, setAt, bitsI, nat_nn, zar, AV.plain, apart, Nat.testBit_eq_decide_div_mod_eq, *]) <;> exact rfl)); simp only [addFl]) | ((with_reducible first | refine zao ?_ | refine zaq ?_ | refine zak ?_ | refine zai ?_ | refine zag ?_ | refine zap ?_ | refine zaj ?_ | refine zas ?_ | (apply zah; (focus (simp [zaa, *]; done))) | (with_reducible apply zaf; (focus (simp [zaa, *]; done)))); try simp only [Then, Ops, OutB, reduceIte]) | simp only [Nat.reduceEqDiff, reduceIte, OutB, Then]))
      exact zat (v := .bool true) (.inl rfl) rfl (by simp) (by simp only [resL, resOf, zam]; simp [resV, *]) ⟨rfl, rfl⟩
end K
end Ev
end Go.Proofs.Ytimgnlellflciaa

/- ClampClash, gone through. -/
namespace Go.Proofs.Ytimgnlellflciaa
open Go
namespace Ev
namespace K
open Clm (setOf zcg countsN)
set_option maxRecDepth 100000
set_option maxHeartbeats 4000000
theorem lcla_walk (C : Cfg) (hC : C.calm = true) (call : CallF) (hA : LApi call) (hZ : SizeC call) (c : Clm.Cl) (hK : Clm.Fine c → ClashC call c) (w : Int) (hw0 : 0 ≤ w ∧ w ≤ 255) (H : List AB) :
    Does (ev C call H.length none af8.body { tm := tmA af8.ntmps (zipI 0 [.agg (clampCs c), .int .u8 w] []), df := [], hp := H, tc := [] })
      (Ends C H.length af8.res fun v _ _ => v = .bool true) := by
  have hl := fun H => hA.long (H := H) c
  have ha := fun H => hA.alive (H := H)
  by_cases hlen : max c.piles.length c.events.length > 40
  · rw [decide_eq_true hlen] at hl
    clear hA hlen hK hw0
    unfold af8
    simp only [zipI, clampCs] at *
    (repeat (first | (with_reducible apply zan; (focus ((conv => lhs; simp [ev1, wantG, spineK, spine, float, xnew, xval, xeff, zaa, zab, zal, zad, zae, addFl, cellsOf, pickC, alive, slLen, slFt, binI, maxA, maxK, minA, minK, aeqK, aeqS, AV.cells,  spA, zac, fillA, setAt, bitsI, nat_nn, zar, AV.plain, apart, Nat.testBit_eq_decide_div_mod_eq, *]) <;> exact rfl)); simp only [addFl]) | ((with_reducible first | refine zao ?_ | refine zaq ?_ | refine zak ?_ | refine zai ?_ | refine zag ?_ | refine zap ?_ | refine zaj ?_ | refine zas ?_ | (apply zah; (focus (simp [zaa, *]; done))) | (with_reducible apply zaf; (focus (simp [zaa, *]; done)))); try simp only [Then, Ops]) | simp only [Nat.reduceEqDiff, reduceIte, OutB, Then]))
    exact zat (v := .bool true) (.inl rfl) rfl (by simp) (by simp only [resL, resOf, zam]; simp [resV, *]) rfl
  rw [decide_eq_false hlen] at hl
  have hcl := fun H => clOf_cl H c (by omega) (by omega)
  have hv := fun H => hA.valid (hcl H)
  cases hval : Clm.valid c with
  | false =>
    rw [hval] at hv
    clear hA hlen hcl hval hK hw0
    unfold af8
    simp only [zipI, clampCs] at *
    (repeat (first | (with_reducible apply zan; (focus ((conv => lhs; simp [ev1, wantG, spineK, spine, float, xnew, xval, xeff, zaa, zab, zal, zad, zae, addFl, cellsOf, pickC, alive, slLen, slFt, binI, maxA, maxK, minA, minK, aeqK, aeqS, AV.cells,  spA, zac, fillA, setAt, bitsI, nat_nn, zar, AV.plain, apart, Nat.testBit_eq_decide_div_mod_eq, *]) <;> exact rfl)); simp only [addFl]) | ((with_reducible first | refine zao ?_ | refine zaq ?_ | refine zak ?_ | refine zai ?_ | refine zag ?_ | refine zap ?_ | refine zaj ?_ | refine zas ?_ | (apply zah; (focus (simp [zaa, *]; done))) | (with_reducible apply zaf; (focus (simp [zaa, *]; done)))); try simp only [Then, Ops]) | simp only [Nat.reduceEqDiff, reduceIte, OutB, Then]))
    exact zat (v := .bool true) (.inl rfl) rfl (by simp) (by simp only [resL, resOf, zam]; simp [resV, *]) rfl
  | true =>
  rw [hval] at hv
  have hc := (Clm.valid_iff c).1 hval
  have he := hc.events
  have hk := hK hc
  have hcla := fun H => hA.clash (hcl H)
  have hw : IntKind.i64.wrap w = w := zaz (by omega) (by omega)
  have hE : ∃ (E : Int), clashE c = E := ⟨_, rfl⟩
  have hV : ∃ (V : Int), clashV c = V := ⟨_, rfl⟩
  obtain ⟨E, hE⟩ := hE
  obtain ⟨V, hV⟩ := hV
  unfold clashR at hcla
  rw [hE, hV] at hcla
  have HX := hideP (And.intro hk (And.intro hc (And.intro hE (And.intro hV (And.intro hZ (And.intro hval he))))))
  clear hA hlen hcl hval hK hw0 hE hV hZ hk hc
  unfold af8
  simp only [zipI, clampCs] at *
  (repeat (first | (with_reducible apply zan; (focus ((conv => lhs; simp [ev1, wantG, spineK, spine, float, xnew, xval, xeff, zaa, zab, zal, zad, zae, addFl, cellsOf, pickC, alive, slLen, slFt, binI, maxA, maxK, minA, minK, aeqK, aeqS, AV.cells,  spA, zac, fillA, setAt, bitsI, nat_nn, zar, AV.plain, apart, Nat.testBit_eq_decide_div_mod_eq, *]) <;> exact rfl)); simp only [addFl]) | ((with_reducible first | refine zao ?_ | refine zaq ?_ | refine zak ?_ | refine zai ?_ | refine zag ?_ | refine zap ?_ | refine zaj ?_ | refine zas ?_ | (apply zah; (focus (simp [zaa, *]; done))) | (with_reducible apply zaf; (focus (simp [zaa, *]; done)))); try simp only [Then, Ops]) | simp only [Nat.reduceEqDiff, reduceIte, OutB, Then]))
  with_reducible refine zbg hC c.events.length (by unfold fuelL; omega) (fun i st => ∃ J, st = { tm := tmA 133 [(30, .int .i64 i), (29, .int .i64 c.events.length), (28, .vs 4 (c.events.map evtE)), (7, .int .i64 ((setOf (fun i => decide ((c.events.getD i default).kind = 1)) i : Nat) : Int)), (6, .int .i64 E), (5, .int .i64 V), (2, .ptr H.length 0), (1, .int .u8 w)], df := [], hp := H ++ .cells [.vs 6 (c.piles.map pileE), .int .i64 c.pack.lo, .int .i64 c.pack.hi, .vs 4 (c.events.map evtE)] :: J, tc := [] }) ?_ ?_ ?_
  · refine ⟨[], ?_⟩
    simp only [setOf]
    (refine st_is ?_ ?_ ?_ ?_; (focus (simp [zau, zax])); (focus rfl); (focus (first | rfl | (simp; done) | (simp [*]; done) | (simp; rfl) | (simp [*]; omega) | (simp; omega))); (focus (first | rfl | simp)))
  · rintro i st hi ⟨J, rfl⟩
    have hgv : c.events[i]? = some c.events[i] := List.getElem?_eq_getElem hi
    have hgd : c.events.getD i default = c.events[i] := by rw [List.getD_eq_getElem?_getD, hgv]; rfl
    have n1 : setOf (fun i => decide ((c.events.getD i default).kind = 1)) (i + 1) = if decide (c.events[i].kind = 1) = true then setOf (fun i => decide ((c.events.getD i default).kind = 1)) i + 2 ^ i else setOf (fun i => decide ((c.events.getD i default).kind = 1)) i := by
      rw [← hgd]; rfl
    rw [n1]
    clear n1 hgd
    generalize c.events[i] = v at hgv ⊢
    have hgv' := ge_of hgv
    have hwi : IntKind.i64.wrap (↑i + 1) = ↑i + 1 := zaz (by omega) (by omega)
    obtain ⟨s1, s2, s3⟩ := shl_i64 (d := i) (by omega)
    have o1 := or_bit_i i (by omega) _ (zcg (fun i => decide ((c.events.getD i default).kind = 1)) i)
    generalize setOf (fun i => decide ((c.events.getD i default).kind = 1)) i = A at *
    generalize 2 ^ i = P at s1 s2 s3 o1 ⊢
    simp at o1
    clear hl hv hcla ha
    by_cases q1 : v.kind = 1
    · simp only [q1, decide_true, if_true]
      (repeat (first | (with_reducible apply zan; (focus ((conv => lhs; simp [ev1, wantG, spineK, spine, float, xnew, xval, xeff, zaa, zab, zal, zad, zae, addFl, cellsOf, pickC, alive, slLen, slFt, binI, maxA, maxK, minA, minK, aeqK, aeqS, AV.cells, evtE,  spA, zac, fillA, setAt, bitsI, nat_nn, zar, AV.plain, apart, Nat.testBit_eq_decide_div_mod_eq, *]) <;> exact rfl)); simp only [addFl]) | ((with_reducible first | refine zao ?_ | refine zaq ?_ | refine zak ?_ | refine zai ?_ | refine zag ?_ | refine zap ?_ | refine zaj ?_ | refine zas ?_ | (apply zah; (focus (simp [zaa, *]; done))) | (with_reducible apply zaf; (focus (simp [zaa, *]; done)))); try simp only [Then, Ops, OutB]) | simp only [Nat.reduceEqDiff, reduceIte, OutB, Then]))
      refine ⟨?_, ?_⟩
      rotate_left
      (refine st_is ?_ ?_ ?_ ?_; (focus (simp [zau, zax])); (focus rfl); (focus (first | rfl | (simp; done) | (simp [*]; done) | (simp; rfl) | (simp [*]; omega) | (simp; omega))); (focus (first | rfl | simp)))
    · simp only [q1, decide_false, Bool.false_eq_true, if_false]
      have hb := beq_false_of_ne q1
      (repeat (first | (with_reducible apply zan; (focus ((conv => lhs; simp [ev1, wantG, spineK, spine, float, xnew, xval, xeff, zaa, zab, zal, zad, zae, addFl, cellsOf, pickC, alive, slLen, slFt, binI, maxA, maxK, minA, minK, aeqK, aeqS, AV.cells, evtE,  spA, zac, fillA, setAt, bitsI, nat_nn, zar, AV.plain, apart, Nat.testBit_eq_decide_div_mod_eq, *]) <;> exact rfl)); simp only [addFl]) | ((with_reducible first | refine zao ?_ | refine zaq ?_ | refine zak ?_ | refine zai ?_ | refine zag ?_ | refine zap ?_ | refine zaj ?_ | refine zas ?_ | (apply zah; (focus (simp [zaa, *]; done))) | (with_reducible apply zaf; (focus (simp [zaa, *]; done)))); try simp only [Then, Ops, OutB]) | simp only [Nat.reduceEqDiff, reduceIte, OutB, Then]))
      refine ⟨?_, ?_⟩
      rotate_left
      (refine st_is ?_ ?_ ?_ ?_; (focus (simp [zau, zax])); (focus rfl); (focus (first | rfl | (simp; done) | (simp [*]; done) | (simp; rfl) | (simp [*]; omega) | (simp; omega))); (focus (first | rfl | simp)))
  · rintro st ⟨J, rfl⟩
    have hcn : setOf (fun i => decide ((c.events.getD i default).kind = 1)) c.events.length = countsN c := rfl
    rw [hcn]
    obtain ⟨hk, hc, hE, hV, hZ, hval, _⟩ := HX.out
    have hk' := fun T s => hk (H ++ .cells [.vs 6 (c.piles.map pileE), .int .i64 c.pack.lo, .int .i64 c.pack.hi, .vs 4 (c.events.map evtE)] :: T) H.length s (by simp [clampCs])
    have hcA := Clm.can_counts hc
    have hAl : countsN c < 2 ^ c.events.length := zcg _ _
    have hp2 : 2 ^ c.events.length ≤ 2 ^ 6 := Nat.pow_le_pow_right (by decide) he
    cases hcan : Clm.can c (Clm.every c) with
    | true =>
      rw [hcan] at hcA
      have hE4 : E = 4 := by rw [← hE]; unfold clashE; rw [hval, hcan]; rfl
      have hV0 : V = 0 := by rw [← hV]; unfold clashV; rw [hval, hcan]; rfl
      subst hE4 hV0
      have hk1 := fun T => hk' T (countsN c)
      rw [hcA] at hk1
      clear hk hk' hc hE hV hZ hval hcn hcA hAl hp2 hcan HX hl hv hcla
      generalize countsN c = A at *
      (repeat (first | (with_reducible apply zan; (focus ((conv => lhs; simp [ev1, wantG, spineK, spine, float, xnew, xval, xeff, zaa, zab, zal, zad, zae, addFl, cellsOf, pickC, alive, slLen, slFt, binI, maxA, maxK, minA, minK, aeqK, aeqS, AV.cells,  spA, zac, fillA, setAt, bitsI, nat_nn, zar, AV.plain, apart, Nat.testBit_eq_decide_div_mod_eq, *]) <;> exact rfl)); simp only [addFl]) | ((with_reducible first | refine zao ?_ | refine zaq ?_ | refine zak ?_ | refine zai ?_ | refine zag ?_ | refine zap ?_ | refine zaj ?_ | refine zas ?_ | (apply zah; (focus (simp [zaa, *]; done))) | (with_reducible apply zaf; (focus (simp [zaa, *]; done)))); try simp only [Then, Ops, OutB, reduceIte]) | simp only [Nat.reduceEqDiff, reduceIte, OutB, Then]))
      exact zat (v := .bool true) (.inl rfl) rfl (by simp) (by simp only [resL, resOf, zam]; simp [resV, *]) rfl
    | false =>
      rw [hcan] at hcA
      obtain ⟨S, hS, hlaw⟩ := Clm.clash_law hc hcan
      have hE0 : E = 0 := by rw [← hE]; unfold clashE; rw [hval, hcan, hS]; rfl
      have hVS : V = (S : Int) := by rw [← hV]; unfold clashV; rw [hval, hcan, hS]; rfl
      subst hE0 hVS
      obtain ⟨l1, l2, l3, l4, l5⟩ := hlaw
      have hk1 := fun T => hk' T (countsN c)
      rw [hcA] at hk1
      have hk2 := fun T => hk' T S
      rw [l3] at hk2
      have an := andnot_i S (by omega) (countsN c) (by omega)
      rw [l2] at an
      obtain ⟨o, o1, o2, o3⟩ := and_own w (countsN c) (by omega)
      have oc := l5 o (by
        have : o ≤ countsN c := by rw [← o2]; exact Nat.and_le_right
        omega) o2
      have hz1 := fun H => hZ H S (by omega)
      have hz2 := fun H => hZ H o (by omega)
      have hS64 : S < 64 := by omega
      have HY := hideP (And.intro l4 (And.intro oc (And.intro hk' (And.intro hz1 (And.intro hz2 hS64)))))
      clear hk hk' hc hE hV hZ hval hcn hcA hAl hp2 hcan HX hl hv hcla hS l1 l2 l3 l4 l5 oc hz1 hz2 hS64 o2 o1
      generalize countsN c = A at *
      simp at o3 an
      (repeat (first | (with_reducible apply zan; (focus ((conv => lhs; simp [ev1, wantG, spineK, spine, float, xnew, xval, xeff, zaa, zab, zal, zad, zae, addFl, cellsOf, pickC, alive, slLen, slFt, binI, maxA, maxK, minA, minK, aeqK, aeqS, AV.cells,  spA, zac, fillA, setAt, bitsI, nat_nn, zar, AV.plain, apart, Nat.testBit_eq_decide_div_mod_eq, *]) <;> exact rfl)); simp only [addFl]) | ((with_reducible first | refine zao ?_ | refine zaq ?_ | refine zak ?_ | refine zai ?_ | refine zag ?_ | refine zap ?_ | refine zaj ?_ | refine zas ?_ | (apply zah; (focus (simp [zaa, *]; done))) | (with_reducible apply zaf; (focus (simp [zaa, *]; done)))); try simp only [Then, Ops, OutB, reduceIte]) | simp only [Nat.reduceEqDiff, reduceIte, OutB, Then]))
      with_reducible refine zbg hC c.events.length (by unfold fuelL; omega) (fun i st => st = { tm := tmA 133 [(82, .int .i64 i), (81, .int .i64 c.events.length), (10, .fn (.func 32) [] [.ptr H.length 0]), (7, .int .i64 A), (5, .int .i64 S), (1, .int .u8 w)], df := [], hp := H ++ .cells [.vs 6 (c.piles.map pileE), .int .i64 c.pack.lo, .int .i64 c.pack.hi, .vs 4 (c.events.map evtE)] :: J, tc := [] }) ?_ ?_ ?_
      · (refine st_is ?_ ?_ ?_ ?_; (focus (simp [zau, zax])); (focus rfl); (focus (first | rfl | (simp; done) | (simp [*]; done) | (simp; rfl) | (simp [*]; omega) | (simp; omega))); (focus (first | rfl | simp)))
      · rintro i st hi rfl
        obtain ⟨l4, oc, hk', hz1, hz2, hS64⟩ := HY.out
        have hwi : IntKind.i64.wrap (↑i + 1) = ↑i + 1 := zaz (by omega) (by omega)
        have hbit := bit_i64 (n := S) (d := i) (by omega)
        obtain ⟨s1, s2, s3⟩ := shl_i64 (d := i) (by omega)
        cases hb : S.testBit i with
        | true =>
          have han := andnot_bit S hS64 i (by omega) hb
          have hk3 := fun T => hk' T (S - 2 ^ i)
          rw [l4 i hi hb] at hk3
          rw [hb] at hbit
          generalize S - 2 ^ i = R at *
          generalize 2 ^ i = P at s1 s2 s3 han
          simp at hbit han
          clear l4 oc hk' hz1 hz2 hS64 hk1 hk2 an o3 ha hb HY
          (repeat (first | (with_reducible apply zan; (focus ((conv => lhs; simp [ev1, wantG, spineK, spine, float, xnew, xval, xeff, zaa, zab, zal, zad, zae, addFl, cellsOf, pickC, alive, slLen, slFt, binI, maxA, maxK, minA, minK, aeqK, aeqS, AV.cells,  spA, zac, fillA, setAt, bitsI, nat_nn, zar, AV.plain, apart, Nat.testBit_eq_decide_div_mod_eq, *]) <;> exact rfl)); simp only [addFl]) | ((with_reducible first | refine zao ?_ | refine zaq ?_ | refine zak ?_ | refine zai ?_ | refine zag ?_ | refine zap ?_ | refine zaj ?_ | refine zas ?_ | (apply zah; (focus (simp [zaa, *]; done))) | (with_reducible apply zaf; (focus (simp [zaa, *]; done)))); try simp only [Then, Ops, OutB]) | simp only [Nat.reduceEqDiff, reduceIte, OutB, Then]))
          (refine st_is ?_ ?_ ?_ ?_; (focus (simp [zau, zax])); (focus rfl); (focus (first | rfl | (simp; done) | (simp [*]; done) | (simp; rfl) | (simp [*]; omega) | (simp; omega))); (focus (first | rfl | simp)))
        | false =>
          rw [hb] at hbit
          simp at hbit
          clear l4 oc hk' hz1 hz2 hS64 hk1 hk2 an o3 ha hb HY s1 s2 s3
          (repeat (first | (with_reducible apply zan; (focus ((conv => lhs; simp [ev1, wantG, spineK, spine, float, xnew, xval, xeff, zaa, zab, zal, zad, zae, addFl, cellsOf, pickC, alive, slLen, slFt, binI, maxA, maxK, minA, minK, aeqK, aeqS, AV.cells,  spA, zac, fillA, setAt, bitsI, nat_nn, zar, AV.plain, apart, Nat.testBit_eq_decide_div_mod_eq, *]) <;> exact rfl)); simp only [addFl]) | ((with_reducible first | refine zao ?_ | refine zaq ?_ | refine zak ?_ | refine zai ?_ | refine zag ?_ | refine zap ?_ | refine zaj ?_ | refine zas ?_ | (apply zah; (focus (simp [zaa, *]; done))) | (with_reducible apply zaf; (focus (simp [zaa, *]; done)))); try simp only [Then, Ops, OutB]) | simp only [Nat.reduceEqDiff, reduceIte, OutB, Then]))
          (refine st_is ?_ ?_ ?_ ?_; (focus (simp [zau, zax])); (focus rfl); (focus (first | rfl | (simp; done) | (simp [*]; done) | (simp; rfl) | (simp [*]; omega) | (simp; omega))); (focus (first | rfl | simp)))
      · rintro st rfl
        obtain ⟨l4, oc, hk', hz1, hz2, hS64⟩ := HY.out
        have hk3 := fun T => hk' T o
        clear l4 hk' hS64 hk1 hk2 an HY
        cases hco : Clm.can c o with
        | true =>
          rw [hco] at hk3
          clear oc hz1 hz2
          (repeat (first | (with_reducible apply zan; (focus ((conv => lhs; simp [ev1, wantG, spineK, spine, float, xnew, xval, xeff, zaa, zab, zal, zad, zae, addFl, cellsOf, pickC, alive, slLen, slFt, binI, maxA, maxK, minA, minK, aeqK, aeqS, AV.cells,  spA, zac, fillA, setAt, bitsI, nat_nn, zar, AV.plain, apart, Nat.testBit_eq_decide_div_mod_eq, *]) <;> exact rfl)); simp only [addFl]) | ((with_reducible first | refine zao ?_ | refine zaq ?_ | refine zak ?_ | refine zai ?_ | refine zag ?_ | refine zap ?_ | refine zaj ?_ | refine zas ?_ | (apply zah; (focus (simp [zaa, *]; done))) | (with_reducible apply zaf; (focus (simp [zaa, *]; done)))); try simp only [Then, Ops, OutB, reduceIte]) | simp only [Nat.reduceEqDiff, reduceIte, OutB, Then]))
          exact zat (v := .bool true) (.inl rfl) rfl (by simp) (by simp only [resL, resOf, zam]; simp [resV, *]) rfl
        | false =>
          rw [hco] at hk3
          rcases oc hco with g1 | ⟨g1, g2⟩
          · clear oc
            (repeat (first | (with_reducible apply zan; (focus ((conv => lhs; simp [ev1, wantG, spineK, spine, float, xnew, xval, xeff, zaa, zab, zal, zad, zae, addFl, cellsOf, pickC, alive, slLen, slFt, binI, maxA, maxK, minA, minK, aeqK, aeqS, AV.cells,  spA, zac, fillA, setAt, bitsI, nat_nn, zar, AV.plain, apart, Nat.testBit_eq_decide_div_mod_eq, *]) <;> exact rfl)); simp only [addFl]) | ((with_reducible first | refine zao ?_ | refine zaq ?_ | refine zak ?_ | refine zai ?_ | refine zag ?_ | refine zap ?_ | refine zaj ?_ | refine zas ?_ | (apply zah; (focus (simp [zaa, *]; done))) | (with_reducible apply zaf; (focus (simp [zaa, *]; done)))); try simp only [Then, Ops, OutB, reduceIte]) | simp only [Nat.reduceEqDiff, reduceIte, OutB, Then]))
            exact zat (v := .bool true) (.inl rfl) rfl (by simp) (by simp only [resL, resOf, zam]; simp [resV, *]) rfl
          · clear oc
            (repeat (first | (with_reducible apply zan; (focus ((conv => lhs; simp [ev1, wantG, spineK, spine, float, xnew, xval, xeff, zaa, zab, zal, zad, zae, addFl, cellsOf, pickC, alive, slLen, slFt, binI, maxA, maxK, minA, minK, aeqK, aeqS, AV.cells,  spA, zac, fillA, setAt, bitsI, nat_nn, zar, AV.plain, apart, Nat.testBit_eq_decide_div_mod_eq, *]) <;> exact rfl)); simp only [addFl]) | ((with_reducible first | refine zao ?_ | refine zaq ?_ | refine zak ?_ | refine zai ?_ | refine zag ?_ | refine zap ?_ | refine zaj ?_ | refine zas ?_ | (apply zah; (focus (simp [zaa, *]; done))) | (with_reducible apply zaf; (focus (simp [zaa, *]; done)))); try simp only [Then, Ops, OutB, reduceIte]) | simp only [Nat.reduceEqDiff, reduceIte, OutB, Then]))
            exact zat (v := .bool true) (.inl rfl) rfl (by simp) (by simp only [resL, resOf, zam]; simp [resV, *]) rfl
end K
end Ev
end Go.Proofs.Ytimgnlellflciaa

/- The code of functions of the laws is that of the program. Printed by program. -/
namespace Go.Proofs.Ytimgnlellflciaa
open Go Go.Proofs
namespace Ev
set_option maxRecDepth 1000000
theorem is8 : ∃ F, Try.prog.funcs[8]? = some F ∧ (F.name == "runtime.NumGoroutine") = false ∧ compFn Try.prog F = some af8.strip := ⟨_, Try.func8, by kernel_rfl, by kernel_rfl⟩
theorem is32 : ∃ F, Try.prog.funcs[32]? = some F ∧ (F.name == "runtime.NumGoroutine") = false ∧ compFn Try.prog F = some af32.strip := ⟨_, Try.func32, by kernel_rfl, by kernel_rfl⟩
end Ev
end Go.Proofs.Ytimgnlellflciaa

/- The code of functions of the laws is that of the program. Printed by program. -/
namespace Go.Proofs.Ytimgnlellflciaa
open Go Go.Proofs
namespace Ev
set_option maxRecDepth 1000000
theorem is31 : ∃ F, Try.prog.funcs[31]? = some F ∧ (F.name == "runtime.NumGoroutine") = false ∧ compFn Try.prog F = some af31.strip := ⟨_, Try.func31, by kernel_rfl, by kernel_rfl⟩
end Ev
end Go.Proofs.Ytimgnlellflciaa

/- The functions that the law ClampClash goes through itself. Printed by program. -/
namespace Go.Proofs.Ytimgnlellflciaa
open Go Go.Proofs
namespace Ev
def treeClampClash : FT := (.node 21 af21 (.node 20 af20 (.node 8 af8 .leaf .leaf) .leaf) (.node 32 af32 (.node 31 af31 .leaf .leaf) .leaf))
theorem treeClampClash_is : FT.All (fun k af => ∃ F, Try.prog.funcs[k]? = some F ∧ (F.name == "runtime.NumGoroutine") = false ∧ compFn Try.prog F = some af.strip) treeClampClash :=
  ⟨is21, ⟨is20, ⟨is8, trivial, trivial⟩, trivial⟩, ⟨is32, ⟨is31, trivial, trivial⟩, trivial⟩⟩
end Ev
end Go.Proofs.Ytimgnlellflciaa

/- The Go function ClampClash returns true, for every argument, in every world in which it is called; nothing that was there is turned. No condition. -/
namespace Go.Proofs.Ytimgnlellflciaa
open Go Go.Proofs Go.ChangeShapes Go.WideShapes Go.ChangeAt Go.RowKit
namespace Ev
namespace K
theorem lawClampClash (W : World) (c : Clm.Cl) {v0 : Value} (hv0 : VR W (fun _ => False) nomu (.agg (clampCs c)) v0) (x1 : Int) (b1 : (Lit.int .u8 x1).wf = true) {v1 : Value} (hv1 : VR W (fun _ => False) nomu (.int .u8 x1) v1) : CallsIn Fence.wide 0 Try.prog 8 #[v0, v1] W fun e W' => e = .returned (.bool true) ∧ Below W.heap.size W W' := by
  have hz : ∀ {f : Nat} {af : AFunc}, (cfgL treeClampClash).exth f = none → FT.find treeClampClash f = some af → Has (cfgL treeClampClash) f af := fun h1 h2 => has_of rfl h1 h2 rfl
  have la := fun n => lapi (t := treeClampClash) (hz rfl (by kernel_rfl)) (hz rfl (by kernel_rfl)) n
  have k : Has (cfgL treeClampClash) 8 af8 := hz rfl (by kernel_rfl)
  obtain ⟨v, hp, tc, H', h1, h2, _⟩ := zcl (C := cfgL treeClampClash) (n := 4) (first := []) (captured := []) (args := [.agg (clampCs c), .int .u8 x1]) (H := []) (Q := fun v _ _ => v = .bool true) rfl k.ext k.exth k.fns k.whole (le' rfl) (lcla_walk (cfgL treeClampClash) rfl _ (la 3) (fun H s hs => zbe rfl (hz rfl (by kernel_rfl)) (le' rfl) rfl (size_fun (cfgL treeClampClash) rfl _ s hs H)) c (fun hc H b s hb => zbe (captured := [.ptr b 0]) rfl (hz rfl (by kernel_rfl)) (le' rfl) rfl (clashc_fun (cfgL treeClampClash) rfl _ (la 2) c hc H b s hb)) x1 (bounds_u8 b1) [])
  subst h2
  refine (told_bare (tblL treeClampClash_is) h1 trivial (zeh _ _ _) (rargs := #[v0, v1]) ⟨rfl, fun i y r hy hr => ?_⟩).mono ?_
  · match i, hy, hr with
    | 0, hy, hr => cases hy; cases hr; exact hv0
    | 1, hy, hr => cases hy; cases hr; exact hv1
    | i + 2, hy, hr => simp at hy
  · rintro e W' ⟨⟨w, rfl, hw⟩, bel⟩
    exact ⟨by rw [bool_of hw W], bel⟩
end K
end Ev
set_option maxRecDepth 100000 in
theorem clampClash_lifted (os : Os) (started : os.Started) (H : Type) (enc : TypeId × Value → H) :
    ReturnsInHanded {} Try.checked os 8 .any (Rows.clampClashSpec.pre6 enc Try.prog Try.f8 Rows.clampClashRow.domain false) (Rows.clampClashSpec.post enc Try.prog Try.f8 false true false false) := by
  refine returnsInHanded_of_change (C := Try.checked) own_godebug started (by kernel_rfl) Try.func8
    (ChangeSpec.witness6 (enc := enc) (C := Try.checked) false ⟨#[], #[noClamp, .int .u8 0], []⟩ 8 (by kernel_rfl) (by kernel_rfl) (by kernel_rfl) (by kernel_rfl)) ?_
  intro W base args ds gs before hval0 hW hcnd _
  have hval : ∀ (j : Nat) t v, Try.f8.params[j]? = some t → args[j]? = some v → Value.okWide Try.prog W .any base t v := hval0
  have hW' := hW
  obtain ⟨p, q, hA0, hV, rfl, hfz, hnd⟩ := hW
  have hA : DataW.TrodAll enc Try.prog W 0 (fun _ => true) true Try.f8.params.toList args.toList ds p := hA0
  rw [Try.params8] at hA hval
  obtain ⟨v0, vs0, d0, ds0, p0, q0, hargs0, rfl, rfl, h0, hA1⟩ := trodAll_cons hA
  obtain ⟨v1, vs1, d1, ds1, p1, q1, rfl, rfl, rfl, h1, hA2⟩ := trodAll_cons hA1
  obtain ⟨rfl, rfl, rfl⟩ := trodAll_nil hA2
  obtain rfl : args = #[v0, v1] := Array.ext' hargs0
  obtain ⟨rfl, rfl, rfl⟩ := trodVars_none hV
  clear hA0 hval0
  obtain ⟨c, hx0⟩ := open_clamp (hval 0 30 v0 rfl rfl) h0
  obtain ⟨x1, rfl, rfl, rfl, wf1⟩ := open_int Try.underlying5 (hval 1 5 v1 rfl rfl) h1
  simp only [List.append_nil] at hW'
  have hlt : ∀ x ∈ (p0 ++ ([] ++ [])), x.block < W.heap.size := fun x hx => by simpa using hW'.lt x (by simpa using hx)
  refine (callsIn_wide.1 (Ev.K.lawClampClash W c hx0 x1 wf1 .int)).mono fun e W' ⟨he, bel⟩ => ?_
  subst he
  refine ⟨_, rfl, _, _, _, [], (p0 ++ ([] ++ [])), [], by simpa using hW', ?_, ?_, ?_, bel.frame _, fun h => by cases h⟩
  · exact trodAll_mk1 (shut_bool Try.underlying4 true)
  · exact trodAll_cons_mk (Below.trod laidOut' (by kernel_rfl) (of_decide_eq_true (by kernel_rfl)) h0 bel (fun x hx => hlt x (by simp [hx]))) (trodAll_cons_mk (shut_int Try.underlying5 wf1) (trodAll_mk0))
  · exact rfl
theorem clampClash_holds : Rows.ClampClashSaid :=
  OpenClaim.holds_of_wide 8 Try.f8 rfl rfl rfl rfl rfl rfl rfl ⟨rfl, rfl, rfl, rfl, rfl⟩ rfl rfl rfl rfl rfl (by kernel_rfl) Try.func8 (by kernel_rfl)
    (of_decide_eq_true (by kernel_rfl)) (by unfold Func.isWrapper; first | (rw [if_pos (by decide +kernel)]; kernel_rfl) | (rw [if_neg (by decide +kernel)]; exact ⟨rfl, rfl⟩))
    (fun os started H enc _ => clampClash_lifted os started H enc)
#print axioms clampClash_holds
end Go.Proofs.Ytimgnlellflciaa
