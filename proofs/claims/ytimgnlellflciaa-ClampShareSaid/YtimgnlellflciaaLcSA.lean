/- The Go function ClampShare returns true, for every argument, in every world in which it is called; nothing that was there is turned. No condition. -/
import Derived.Test.YtimgnlellflciaaCoPE
import Derived.Test.YtimgnlellflciaaCoEA
import Derived.Test.YtimgnlellflciaaCoPF
import Derived.Test.YtimgnlellflciaaCoPD
import Derived.Test.YtimgnlellflciaaProg
import Derived.KernelRfl
/- Sizes of sets, one bit at a time. -/
namespace Go.Proofs.Ytimgnlellflciaa
namespace Clm
theorem bit_drop : ∀ i, i < 6 → ∀ S, S < 64 → S.testBit i = true → S - 2 ^ i < 64 ∧ sizeN (S - 2 ^ i) < sizeN S ∧ (S - 2 ^ i) &&& S = S - 2 ^ i := by decide +kernel
theorem sizeN_zero : sizeN 0 = 0 := by decide
theorem cntF_more : ∀ f n, n < 2 ^ f → ∀ g, f ≤ g → cntF g n = cntF f n
  | 0, n, h, g, _ => by
    have : n = 0 := by simpa using h
    subst this
    have z : ∀ f, cntF f 0 = 0 := by
      intro f
      induction f with
      | zero => rfl
      | succ f ih => unfold cntF; simp [ih]
    rw [z]; rfl
  | f + 1, n, h, 0, hg => by omega
  | f + 1, n, h, g + 1, hg => by
    unfold cntF
    rw [cntF_more f (n / 2) (by rw [Nat.pow_succ] at h; omega) g (by omega)]
theorem sizeN_step (n : Nat) (h : n < 65536) : sizeN n = n % 2 + sizeN (n / 2) := by
  have h1 := cntF_more 15 (n / 2) (by omega) 16 (by omega)
  unfold sizeN
  rw [h1]; rfl
theorem cntF_le : ∀ f n, cntF f n ≤ f
  | 0, _ => Nat.le_refl _
  | f + 1, n => by
    have := cntF_le f (n / 2)
    unfold cntF; omega
theorem sizeN_le (n : Nat) : sizeN n ≤ 16 := cntF_le 16 n
end Clm
end Go.Proofs.Ytimgnlellflciaa

/- The code of functions of the laws, for the evaluator. Printed by program. -/
namespace Go.Proofs.Ytimgnlellflciaa
open Go
namespace Ev
def af31 : AFunc := ⟨13, [(.tmp 2)], (.seq (.ops [⟨0, (some 2), (.mov (.val (.int .i64 0))), none, 0⟩]) (.seq (.ops [⟨0, (some 3), (.mov (.val (.int .i64 0))), none, 0⟩]) (.seq (.block 0 (.loop [0, 3] (.seq (.seq (.ops [⟨0, (some 4), (.mov (.tmp 0)), none, 0⟩, ⟨1, (some 5), (.bin .gtr (.tmp 4) (.val (.int .i64 0))), none, 0⟩]) (.cond (.tmp 5) .skip (.exit 0))) (.block 1 (.ops [⟨0, (some 6), (.mov (.tmp 3)), none, 0⟩, ⟨1, (some 7), (.mov (.tmp 0)), none, 0⟩, ⟨2, (some 8), (.bin .rem (.tmp 7) (.val (.int .i64 2))), none, 0⟩, ⟨3, (some 9), (.bin .add (.tmp 6) (.tmp 8)), none, 0⟩, ⟨4, (some 10), (.mov (.tmp 0)), none, 0⟩, ⟨5, (some 11), (.bin .quo (.tmp 10) (.val (.int .i64 2))), none, 0⟩, ⟨6, (some 3), (.mov (.tmp 9)), none, 0⟩, ⟨7, (some 0), (.mov (.tmp 11)), none, 0⟩]))))) (.seq (.ops [⟨0, (some 12), (.mov (.tmp 3)), none, 0⟩, ⟨1, (some 2), (.mov (.tmp 12)), none, 0⟩]) .ret))))⟩
end Ev
end Go.Proofs.Ytimgnlellflciaa

/- Chapter 09, gone through: the reference's size of a set, and bits as the laws ask for them. -/
namespace Go.Proofs.Ytimgnlellflciaa
open Go
namespace Ev
namespace K
set_option maxRecDepth 100000
set_option maxHeartbeats 4000000
def SizeC (call : CallF) : Prop := ∀ (H : List AB) (s : Nat), s < 65536 → call (.fn (.func 31) [] []) [.int .i64 s] H = some (.ret (.int .i64 ((Clm.sizeN s : Nat) : Int)), H, [])
theorem size_fun (C : Cfg) (hC : C.calm = true) (call : CallF) (s : Nat) (hs : s < 65536) (H : List AB) :
    Does (ev C call H.length none af31.body { tm := tmA af31.ntmps (zipI 0 [.int .i64 s] []), df := [], hp := H, tc := [] })
      (Ends C H.length af31.res fun v _hp tc => v = .int .i64 ((Clm.sizeN s : Nat) : Int) ∧ tc = []) := by
  unfold af31
  simp only [zipI]
  (repeat (first | (with_reducible apply zan; (focus ((conv => lhs; simp [ev1, wantG, spineK, spine, float, xnew, xval, xeff, zaa, zab, zal, zad, zae, addFl, cellsOf, pickC, alive, slLen, slFt, binI, maxA, maxK, minA, minK, aeqK, aeqS, AV.cells,  spA, zac, fillA, setAt, bitsI, nat_nn, zar, AV.plain, apart, Nat.testBit_eq_decide_div_mod_eq, *]) <;> exact rfl)); simp only [addFl]) | ((with_reducible first | refine zao ?_ | refine zaq ?_ | refine zak ?_ | refine zai ?_ | refine zag ?_ | refine zap ?_ | refine zaj ?_ | refine zas ?_ | (apply zah; (focus (simp [zaa, *]; done))) | (with_reducible apply zaf; (focus (simp [zaa, *]; done)))); try simp only [Then, Ops]) | simp only [Nat.reduceEqDiff, reduceIte, OutB, Then]))
  refine zly (fun q st => ∃ n acc : Nat, n ≤ q ∧ n < 65536 ∧ acc ≤ 16 ∧ acc + Clm.sizeN n = Clm.sizeN s ∧ st = { tm := tmA 13 [(3, .int .i64 acc), (0, .int .i64 n)], df := [], hp := H, tc := [] }) s (by unfold fuelL; omega) ?_ ?_
  · refine ⟨s, 0, Nat.le_refl _, hs, by omega, by omega, ?_⟩
    simp only [zds hC]
    (refine st_is ?_ ?_ ?_ ?_; (focus (simp [zau, zax])); (focus rfl); (focus (first | rfl | (simp; done) | (simp [*]; done) | (simp; rfl) | (simp [*]; omega) | (simp; omega))); (focus (first | rfl | simp)))
  · rintro q st ⟨n, acc, hq, hn, ha, he, rfl⟩
    by_cases h0 : 0 < n
    · have hst := Clm.sizeN_step n hn
      have hle := Clm.sizeN_le s
      have t1 : (n : Int).tmod 2 = ((n % 2 : Nat) : Int) := by rw [Int.tmod_eq_emod_of_nonneg (by omega)]; omega
      have t2 : (n : Int).tdiv 2 = ((n / 2 : Nat) : Int) := by rw [Int.tdiv_eq_ediv_of_nonneg (by omega)]; omega
      have hw1 : IntKind.i64.wrap ((acc : Int) + ((n % 2 : Nat) : Int)) = ((acc + n % 2 : Nat) : Int) := by rw [zaz (by omega) (by omega)]; omega
      have hw2 : IntKind.i64.wrap ((n : Int).tdiv 2) = ((n / 2 : Nat) : Int) := by rw [t2]; exact zaz (by omega) (by omega)
      have hw3 : IntKind.i64.wrap ((n / 2 : Nat) : Int) = ((n / 2 : Nat) : Int) := zaz (by omega) (by omega)
      have hw4 : IntKind.i64.wrap ((n % 2 : Nat) : Int) = ((n % 2 : Nat) : Int) := zaz (by omega) (by omega)
      have hlt : n / 2 < n := by omega
      have hlo : n % 2 ≤ 1 := by omega
      have HS := hideP (And.intro hlt (And.intro hlo (And.intro hst (And.intro hle (And.intro hq (And.intro hn (And.intro ha (And.intro he h0))))))))
      have h0i : (0 : Int) < (n : Int) := by omega
      generalize n % 2 = lo at *
      generalize n / 2 = hi at *
      clear hst hle hq hn ha he hlt hlo hs
      (repeat (first | (with_reducible apply zan; (focus ((conv => lhs; simp [ev1, wantG, spineK, spine, float, xnew, xval, xeff, zaa, zab, zal, zad, zae, addFl, cellsOf, pickC, alive, slLen, slFt, binI, maxA, maxK, minA, minK, aeqK, aeqS, AV.cells,  spA, zac, fillA, setAt, bitsI, nat_nn, zar, AV.plain, apart, Nat.testBit_eq_decide_div_mod_eq, *]) <;> exact rfl)); simp only [addFl]) | ((with_reducible first | refine zao ?_ | refine zaq ?_ | refine zak ?_ | refine zai ?_ | refine zag ?_ | refine zap ?_ | refine zaj ?_ | refine zas ?_ | (apply zah; (focus (simp [zaa, *]; done))) | (with_reducible apply zaf; (focus (simp [zaa, *]; done)))); try simp only [Then, Ops, OutB]) | simp only [Nat.reduceEqDiff, reduceIte, OutB, Then]))
      obtain ⟨g1, g2, g3, g4, g5, g6, g7, g8, g9⟩ := HS.out
      refine ⟨q - 1, by omega, hi, acc + lo, by omega, by omega, by omega, by omega, ?_⟩
      simp only [zds hC]
      (refine st_is ?_ ?_ ?_ ?_; (focus (simp [zau, zax])); (focus rfl); (focus (first | rfl | (simp; done) | (simp [*]; done) | (simp; rfl) | (simp [*]; omega) | (simp; omega))); (focus (first | rfl | simp)))
    · obtain rfl : n = 0 := by omega
      have : Clm.sizeN 0 = 0 := Clm.sizeN_zero
      obtain rfl : acc = Clm.sizeN s := by omega
      clear hq hn ha he this h0 hs
      (repeat (first | (with_reducible apply zan; (focus ((conv => lhs; simp [ev1, wantG, spineK, spine, float, xnew, xval, xeff, zaa, zab, zal, zad, zae, addFl, cellsOf, pickC, alive, slLen, slFt, binI, maxA, maxK, minA, minK, aeqK, aeqS, AV.cells,  spA, zac, fillA, setAt, bitsI, nat_nn, zar, AV.plain, apart, Nat.testBit_eq_decide_div_mod_eq, *]) <;> exact rfl)); simp only [addFl]) | ((with_reducible first | refine zao ?_ | refine zaq ?_ | refine zak ?_ | refine zai ?_ | refine zag ?_ | refine zap ?_ | refine zaj ?_ | refine zas ?_ | (apply zah; (focus (simp [zaa, *]; done))) | (with_reducible apply zaf; (focus (simp [zaa, *]; done)))); try simp only [Then, Ops, OutB, reduceIte]) | simp only [Nat.reduceEqDiff, reduceIte, OutB, Then]))
      exact zat (v := .int .i64 ((Clm.sizeN s : Nat) : Int)) (.inl rfl) rfl (by simp) (by simp only [resL, resOf, zam]; simp [resV, *]) ⟨rfl, rfl⟩
theorem fdiv_pow (n d : Nat) : ((n : Int).fdiv (2 ^ d)) = ((n / 2 ^ d : Nat) : Int) := by
  rw [Int.fdiv_eq_ediv_of_nonneg _ (by exact Int.le_of_lt (Int.pow_pos (by decide)))]
  have : ((2 : Int) ^ d) = ((2 ^ d : Nat) : Int) := by simp
  rw [this]; rfl
theorem bit_i64 {n d : Nat} (hd : d ≤ 64) : IntKind.i64.wrap ((BitVec.ofInt IntKind.i64.bits ((n : Int).fdiv (2 ^ (min ((d : Int).toNat) IntKind.i64.bits))) &&& BitVec.ofInt IntKind.i64.bits 1).toNat) = if n.testBit d then 1 else 0 := by
  have hb : IntKind.i64.bits = 64 := rfl
  rw [show min ((d : Int).toNat) IntKind.i64.bits = d by rw [hb]; omega, fdiv_pow, hb]
  have h1 : (BitVec.ofInt 64 ((n / 2 ^ d : Nat) : Int)).toNat = (n / 2 ^ d) % 2 ^ 64 := by
    rw [BitVec.toNat_ofInt]; omega
  have h2 : (BitVec.ofInt 64 1).toNat = 1 := by decide
  rw [BitVec.toNat_and, h1, h2, Nat.and_one_is_mod, Nat.testBit_eq_decide_div_mod_eq]
  generalize n / 2 ^ d = q at *
  have h3 : q % 2 ^ 64 % 2 = q % 2 := by omega
  rw [h3, zaz (by omega) (by omega)]
  by_cases hm : q % 2 = 1
  · simp [hm]
  · simp [hm]; omega
theorem and_own (w : Int) (A : Nat) (hA : A < 64) : ∃ o : Nat, o < 64 ∧ o &&& A = o ∧ IntKind.i64.wrap ((BitVec.ofInt IntKind.i64.bits w &&& BitVec.ofInt IntKind.i64.bits (A : Int)).toNat) = (o : Int) := by
  have hb : IntKind.i64.bits = 64 := rfl
  rw [hb]
  have h1 : (BitVec.ofInt 64 (A : Int)).toNat = A := by rw [BitVec.toNat_ofInt]; omega
  have h2 : (BitVec.ofInt 64 w &&& BitVec.ofInt 64 (A : Int)).toNat = (BitVec.ofInt 64 w).toNat &&& A := by
    rw [BitVec.toNat_and, h1]
  have h3 : (BitVec.ofInt 64 w).toNat &&& A ≤ A := Nat.and_le_right
  rw [h2]
  exact ⟨_, by omega, by rw [Nat.and_assoc, Nat.and_self], zaz (by omega) (by omega)⟩
theorem andnot_i : ∀ s, s < 64 → ∀ a, a < 64 → (IntKind.i64.wrap ((BitVec.ofInt IntKind.i64.bits ((s : Nat) : Int) &&& ~~~ BitVec.ofInt IntKind.i64.bits ((a : Nat) : Int)).toNat) != 0) = (s &&& a != s) := by decide +kernel
theorem andnot_bit : ∀ S, S < 64 → ∀ i, i < 6 → S.testBit i = true → IntKind.i64.wrap ((BitVec.ofInt IntKind.i64.bits ((S : Nat) : Int) &&& ~~~ BitVec.ofInt IntKind.i64.bits ((2 ^ i : Nat) : Int)).toNat) = ((S - 2 ^ i : Nat) : Int) := by decide +kernel
end K
end Ev
end Go.Proofs.Ytimgnlellflciaa

/- The plain law of ClampAll. -/
namespace Go.Proofs.Ytimgnlellflciaa
open Go
namespace Clm
theorem fold_in : ∀ (l : List Sp) (s : Sp), (l.foldl (fun k x => k.either x) s).lo ≤ s.lo ∧ s.hi ≤ (l.foldl (fun k x => k.either x) s).hi ∧ ∀ x ∈ l, (l.foldl (fun k x => k.either x) s).lo ≤ x.lo ∧ x.hi ≤ (l.foldl (fun k x => k.either x) s).hi
  | [], s => ⟨Int.le_refl _, Int.le_refl _, by simp⟩
  | a :: l, s => by
    obtain ⟨h1, h2, h3⟩ := fold_in l (s.either a)
    simp only [List.foldl_cons]
    simp only [Sp.either] at h1 h2
    refine ⟨by simp only [Sp.either] at *; omega, by simp only [Sp.either] at *; omega, fun x hx => ?_⟩
    rcases List.mem_cons.1 hx with rfl | hx
    · simp only [Sp.either] at *; omega
    · exact h3 x hx
theorem fold_at : ∀ (l : List Sp) (s : Sp), ((l.foldl (fun k x => k.either x) s).lo = s.lo ∨ ∃ x ∈ l, (l.foldl (fun k x => k.either x) s).lo = x.lo) ∧ ((l.foldl (fun k x => k.either x) s).hi = s.hi ∨ ∃ x ∈ l, (l.foldl (fun k x => k.either x) s).hi = x.hi)
  | [], s => ⟨.inl rfl, .inl rfl⟩
  | a :: l, s => by
    obtain ⟨h1, h2⟩ := fold_at l (s.either a)
    simp only [List.foldl_cons]
    constructor
    · rcases h1 with h | ⟨x, hx, h⟩
      · by_cases hc : s.lo ≤ a.lo
        · left; rw [h]; simp only [Sp.either]; omega
        · right; exact ⟨a, by simp, by rw [h]; simp only [Sp.either]; omega⟩
      · exact .inr ⟨x, by simp [hx], h⟩
    · rcases h2 with h | ⟨x, hx, h⟩
      · by_cases hc : a.hi ≤ s.hi
        · left; rw [h]; simp only [Sp.either]; omega
        · right; exact ⟨a, by simp, by rw [h]; simp only [Sp.either]; omega⟩
      · exact .inr ⟨x, by simp [hx], h⟩
theorem hull_in {l : List Sp} {x : Sp} (hx : x ∈ l) : (hull l).lo ≤ x.lo ∧ x.hi ≤ (hull l).hi := by
  cases l with
  | nil => cases hx
  | cons a l =>
    obtain ⟨h1, h2, h3⟩ := fold_in l a
    rcases List.mem_cons.1 hx with rfl | hx
    · exact ⟨h1, h2⟩
    · exact h3 x hx
theorem hull_at {l : List Sp} (hl : l ≠ []) : (∃ x ∈ l, (hull l).lo = x.lo) ∧ ∃ x ∈ l, (hull l).hi = x.hi := by
  cases l with
  | nil => exact absurd rfl hl
  | cons a l =>
    obtain ⟨h1, h2⟩ := fold_at l a
    constructor
    · rcases h1 with h | ⟨x, hx, h⟩
      · exact ⟨a, by simp, h⟩
      · exact ⟨x, by simp [hx], h⟩
    · rcases h2 with h | ⟨x, hx, h⟩
      · exact ⟨a, by simp, h⟩
      · exact ⟨x, by simp [hx], h⟩
def hasC (c : Cl) (i : Nat) : Sp := ofAll c i fun _ => leftW c
theorem packs_in {c : Cl} (hc : Fine c) {counts : Nat} {k : Int} (h : k ∈ packs c counts) : 0 ≤ k ∧ k ≤ 5 ∧ c.pack.lo ≤ k ∧ k ≤ c.pack.hi ∧ ∀ i, i < c.piles.length → ways c i k counts ≠ [] := by
  unfold packs at h
  rw [List.mem_filter, mem_span] at h
  have := hc.pack
  simp only [Sp.has] at h
  refine ⟨by omega, by omega, by omega, by omega, fun i hi => ?_⟩
  have h2 := List.all_eq_true.1 h.2 i (by simpa using hi)
  simpa using h2
theorem can_packs {c : Cl} {s : Nat} (h : can c s = true) : packs c s ≠ [] := by
  unfold can at h
  intro e
  rw [e] at h; cases h
theorem low_has {c : Cl} (hc : Fine c) {i : Nat} (hi : i < c.piles.length) : Low (hasC c i) := by
  refine low_hull _ fun x hx => ?_
  obtain ⟨k, hk, rfl⟩ := List.mem_map.1 hx
  obtain ⟨h0, h5, _⟩ := packs_in hc hk
  exact low_left hc hi h0 h5
def sumC (c : Cl) : Nat → Sp
  | 0 => ⟨0, 0⟩
  | n + 1 => ⟨(sumC c n).lo + (hasC c n).lo, (sumC c n).hi + (hasC c n).hi⟩
theorem sumC_low {c : Cl} (hc : Fine c) : ∀ n, n ≤ c.piles.length → 0 ≤ (sumC c n).lo ∧ (sumC c n).lo ≤ 10000 * n ∧ 0 ≤ (sumC c n).hi ∧ (sumC c n).hi ≤ 10000 * n
  | 0, _ => by simp [sumC]
  | n + 1, h => by
    have ih := sumC_low hc n (by omega)
    obtain ⟨a, b, d, e⟩ := low_has hc (i := n) (by omega)
    simp only [sumC]; omega
def fullC (c : Cl) : Nat := 2 ^ c.piles.length - 1
theorem full_bit (c : Cl) {i : Nat} (h : i < c.piles.length) : bit (fullC c) i = true := by
  unfold bit fullC; rw [Nat.testBit_two_pow_sub_one]; simpa using h
theorem sum_full {c : Cl} {k : Int} (hk : k ∈ packs c (every c)) : ∀ n, n ≤ c.piles.length → (sumC c n).lo ≤ (sumTo c (fullC c) k n).lo ∧ (sumTo c (fullC c) k n).hi ≤ (sumC c n).hi
  | 0, _ => ⟨Int.le_refl _, Int.le_refl _⟩
  | n + 1, h => by
    have ih := sum_full hk n (by omega)
    rw [sumTo_succ, if_pos (full_bit c (by omega))]
    have := hull_in (l := (packs c (every c)).map fun k => spanOf c n k (leftW c)) (List.mem_map.2 ⟨k, hk, rfl⟩)
    have e : hasC c n = hull ((packs c (every c)).map fun k => spanOf c n k (leftW c)) := rfl
    simp only [sumC]
    rw [e]
    omega
theorem sum_one {c : Cl} {k : Int} (hk : packs c (every c) = [k]) : ∀ n, n ≤ c.piles.length → sumTo c (fullC c) k n = sumC c n
  | 0, _ => rfl
  | n + 1, h => by
    have ih := sum_one hk n (by omega)
    rw [sumTo_succ, if_pos (full_bit c (by omega)), ih]
    have e : hasC c n = spanOf c n k (leftW c) := by
      show hull ((packs c (every c)).map fun k => spanOf c n k (leftW c)) = _
      rw [hk]; rfl
    simp only [sumC, e]
theorem sum_le {c : Cl} (hc : Fine c) {k : Int} (h0 : 0 ≤ k) (h5 : k ≤ 5) (o : Nat) : ∀ n, n ≤ c.piles.length → (sumTo c o k n).lo ≤ (sumTo c (fullC c) k n).lo
  | 0, _ => Int.le_refl _
  | n + 1, h => by
    have ih := sum_le hc h0 h5 o n (by omega)
    obtain ⟨a, b, d, e⟩ := low_left hc (i := n) (by omega) h0 h5
    rw [sumTo_succ, sumTo_succ, if_pos (full_bit c (by omega))]
    split
    · simp only; omega
    · simp only; omega
theorem sum_ord {c : Cl} (hc : Fine c) {k : Int} (hk : k ∈ packs c (every c)) (o : Nat) : ∀ n, n ≤ c.piles.length → (sumTo c o k n).lo ≤ (sumTo c o k n).hi
  | 0, _ => Int.le_refl _
  | n + 1, h => by
    have ih := sum_ord hc hk o n (by omega)
    obtain ⟨h0, h5, _, _, hw⟩ := packs_in hc hk
    have hl := (left_hull hc (i := n) (by omega) h0 (hw n (by omega))).le
    rw [sumTo_succ]
    split
    · simp only; omega
    · exact ih
structure AllLaw (c : Cl) : Prop where
  ord : (together c (fullC c)).lo ≤ (together c (fullC c)).hi
  lo : (sumC c c.piles.length).lo ≤ (together c (fullC c)).lo
  hi : (together c (fullC c)).hi ≤ (sumC c c.piles.length).hi
  one : c.pack.lo = c.pack.hi → together c (fullC c) = sumC c c.piles.length
  nn : 0 ≤ (together c (fullC c)).lo
  le : (together c (fullC c)).lo ≤ 20000
  most : ∀ o, (together c o).lo ≤ (together c (fullC c)).lo
theorem ends_le : ∀ (l : List Bf) (s : Sp), s.lo ≤ s.hi → (∀ e ∈ l, e.fine) → 0 ≤ s.lo → (ends l s).some = true → (ends l s).hi ≤ s.hi
  | [], s, _, _, _, _ => Int.le_refl _
  | e :: l, s, hs, hf, h0, hso => by
    simp only [ends, List.foldl_cons] at hso ⊢
    have he := hf e (by simp)
    by_cases hc : (e.after s).lo ≤ (e.after s).hi
    · have ih := ends_le l (e.after s) hc (fun e h => hf e (by simp [h])) (zkl e s h0) hso
      simp only [ends] at ih
      have : (e.after s).hi ≤ s.hi := by
        cases e with
        | nil => exact Int.le_refl _
        | sale t =>
          simp only [Bf.fine] at he
          unfold Bf.after at hc ⊢
          simp only at hc ⊢
          split
          · rename_i hh; rw [if_pos hh] at hc; simp only [Sp.no] at hc; omega
          · simp only; omega
        | count t =>
          unfold Bf.after Sp.both at hc ⊢
          simp only at hc ⊢
          split
          · rename_i hh; rw [if_pos hh] at hc; simp only [Sp.no] at hc; omega
          · simp only; omega
      omega
    · exfalso
      have hn : ∀ (l : List Bf) (t : Sp), (∀ e ∈ l, e.fine) → 0 ≤ t.lo → t.hi < t.lo → (ends l t).some = false := by
        intro l
        induction l with
        | nil => intro t _ _ h; show decide (t.lo ≤ t.hi) = false; exact decide_eq_false (by omega)
        | cons e l ih =>
          intro t hf h0 h
          simp only [ends, List.foldl_cons]
          refine ih (e.after t) (fun e h => hf e (by simp [h])) (zkl e t h0) ?_
          cases e with
          | nil => exact h
          | sale u =>
            unfold Bf.after
            simp only
            rw [if_pos (.inl (by unfold Sp.some; simp; omega))]
            decide
          | count u =>
            unfold Bf.after Sp.both
            simp only
            split
            · decide
            · rename_i hh; simp only; omega
      have := hn l (e.after s) (fun e h => hf e (by simp [h])) (zkl e s h0) (by omega)
      simp only [ends] at this
      rw [this] at hso; cases hso
theorem left_5000 {c : Cl} (hc : Fine c) {i : Nat} (hi : i < c.piles.length) {k : Int} (h0 : 0 ≤ k) (h5 : k ≤ 5) (hne : ways c i k (every c) ≠ []) : (spanOf c i k (leftW c)).hi ≤ 5000 := by
  obtain ⟨_, x, hx, hh⟩ := hull_at (l := (ways c i k (every c)).map (leftW c)) (by simpa using hne)
  have e : spanOf c i k (leftW c) = hull ((ways c i k (every c)).map (leftW c)) := rfl
  rw [e, hh]
  obtain ⟨w, hw, rfl⟩ := List.mem_map.1 hx
  obtain ⟨h1, h2, y, h3⟩ := (mem_ways hc hi h0 _ w).1 hw
  obtain ⟨s0, s1⟩ := sods_le hc hi h0 h5 h1
  have hf := zfc hc i (every c)
  have e2 : leftW c w = ends (befell c i (every c)) ⟨w.size.sods k, w.size.sods k⟩ := by
    rw [← left_eq]; obtain ⟨a, b⟩ := w; simp only at h2; subst h2; rfl
  rw [e2]
  have := ends_le (befell c i (every c)) ⟨w.size.sods k, w.size.sods k⟩ (Int.le_refl _) hf s0 ((some_has _).2 ⟨y, (ends_one _ _ y hf s0).2 h3⟩)
  simp only at this
  omega
theorem sum_5000 {c : Cl} (hc : Fine c) {k : Int} (hk : k ∈ packs c (every c)) (o : Nat) : ∀ n, n ≤ c.piles.length → (sumTo c o k n).hi ≤ 5000 * n
  | 0, _ => by simp [sumTo]
  | n + 1, h => by
    have ih := sum_5000 hc hk o n (by omega)
    obtain ⟨h0, h5, _, _, hw⟩ := packs_in hc hk
    have hl := left_5000 hc (i := n) (by omega) h0 h5 (hw n (by omega))
    rw [sumTo_succ]
    split
    · simp only; omega
    · omega
theorem all_law {c : Cl} (hc : Fine c) (hcan : can c (every c) = true) : AllLaw c := by
  have hne := can_packs hcan
  have hp := hc.piles
  obtain ⟨⟨x, hx, h1⟩, ⟨y, hy, h2⟩⟩ := hull_at (l := (packs c (every c)).map fun k => sumTo c (fullC c) k c.piles.length) (by simpa using hne)
  obtain ⟨k1, hk1, rfl⟩ := List.mem_map.1 hx
  obtain ⟨k2, hk2, rfl⟩ := List.mem_map.1 hy
  have e : together c (fullC c) = hull ((packs c (every c)).map fun k => sumTo c (fullC c) k c.piles.length) := rfl
  obtain ⟨q0, q5, _⟩ := packs_in hc hk1
  have hin := hull_in (l := (packs c (every c)).map fun k => sumTo c (fullC c) k c.piles.length) (List.mem_map.2 ⟨k1, hk1, rfl⟩)
  have ho := sum_ord hc hk1 (fullC c) c.piles.length (Nat.le_refl _)
  have hlow := sumTo_low hc (set := fullC c) q0 q5 c.piles.length (Nat.le_refl _)
  have h5 := sum_5000 hc hk1 (fullC c) c.piles.length (Nat.le_refl _)
  refine ⟨by rw [e]; omega, ?_, ?_, fun hpk => ?_, ?_, ?_, fun o => ?_⟩
  · rw [e, h1]; exact (sum_full hk1 _ (Nat.le_refl _)).1
  · rw [e, h2]; exact (sum_full hk2 _ (Nat.le_refl _)).2
  · have hall : ∀ k ∈ packs c (every c), k = c.pack.lo := fun k hk => by
      obtain ⟨_, _, a, b, _⟩ := packs_in hc hk; omega
    have hone : packs c (every c) = [c.pack.lo] := by
      have hsp : spanL c.pack = [c.pack.lo] := by
        unfold spanL
        rw [show (c.pack.hi + 1 - c.pack.lo).toNat = 1 by omega]
        simp
      unfold packs at hne ⊢
      rw [hsp] at hne ⊢
      rw [List.filter_cons] at hne ⊢
      split
      · rfl
      · rename_i hh; rw [if_neg hh] at hne; exact absurd rfl hne
    rw [e, hone]
    exact sum_one hone _ (Nat.le_refl _)
  · rw [e, h1]; omega
  · rw [e, h1]; omega
  · have hi2 := hull_in (l := (packs c (every c)).map fun k => sumTo c o k c.piles.length) (List.mem_map.2 ⟨k1, hk1, rfl⟩)
    have e2 : together c o = hull ((packs c (every c)).map fun k => sumTo c o k c.piles.length) := rfl
    have := sum_le hc q0 q5 o c.piles.length (Nat.le_refl _)
    rw [e2, e, h1]; omega
end Clm
end Go.Proofs.Ytimgnlellflciaa

/- The plain law of ClampShare. -/
namespace Go.Proofs.Ytimgnlellflciaa
open Go
namespace Clm
open Ev.K (shareP shareF shareE shareV)
def onePack (c : Cl) (k : Int) : Cl := { c with pack := ⟨k, k⟩ }
theorem onePack_fine {c : Cl} (hc : Fine c) {k : Int} (hk : c.pack.has k) : Fine (onePack c k) :=
  ⟨hc.piles, by have := hc.pack; simp only [Sp.has] at hk; simp only [onePack]; omega, hc.events, hc.pile, hc.event⟩
def okP (c : Cl) (k : Int) : Bool := (List.range c.piles.length).all fun i => !(ways c i k (every c)).isEmpty
theorem packs_okP (c : Cl) (k : Int) : k ∈ packs c (every c) ↔ c.pack.has k ∧ okP c k = true := by
  unfold packs okP
  rw [List.mem_filter, mem_span]
theorem packs_one (c : Cl) (k : Int) : packs (onePack c k) (every (onePack c k)) = if okP c k then [k] else [] := by
  have hsp : spanL (onePack c k).pack = [k] := by
    unfold spanL onePack
    simp only
    rw [show (k + 1 - k).toNat = 1 by omega]
    simp
  unfold packs
  rw [hsp]
  show List.filter (fun k => okP c k) [k] = _
  rw [List.filter_cons]
  rfl
theorem can_one (c : Cl) (k : Int) : can (onePack c k) (every (onePack c k)) = okP c k := by
  unfold can
  rw [packs_one]
  cases okP c k <;> rfl
theorem has_one (c : Cl) {k : Int} (h : okP c k = true) (i : Nat) : hasC (onePack c k) i = spanOf c i k (leftW c) := by
  show hull ((packs (onePack c k) (every (onePack c k))).map fun k' => spanOf c i k' (leftW c)) = _
  rw [packs_one, h]; rfl
def leastTo (c : Cl) (set : Nat) : Nat → Int
  | 0 => -1
  | i + 1 => if okP c (c.pack.lo + i) = true ∧ (leastTo c set i < 0 ∨ (sumTo c set (c.pack.lo + i) c.piles.length).lo < leastTo c set i) then (sumTo c set (c.pack.lo + i) c.piles.length).lo else leastTo c set i
def manyP (c : Cl) : Nat := (c.pack.hi + 1 - c.pack.lo).toNat
theorem leastTo_spec {c : Cl} (hc : Fine c) (set : Nat) : ∀ i, i ≤ manyP c → -1 ≤ leastTo c set i ∧ leastTo c set i ≤ 40000 ∧ ((leastTo c set i = -1 ∧ ∀ j : Nat, j < i → okP c (c.pack.lo + j) = false) ∨ (0 ≤ leastTo c set i ∧ (∃ j : Nat, j < i ∧ okP c (c.pack.lo + j) = true ∧ leastTo c set i = (sumTo c set (c.pack.lo + j) c.piles.length).lo) ∧ ∀ j : Nat, j < i → okP c (c.pack.lo + j) = true → leastTo c set i ≤ (sumTo c set (c.pack.lo + j) c.piles.length).lo))
  | 0, _ => ⟨by simp [leastTo], by simp [leastTo], .inl ⟨rfl, fun j h => absurd h (by omega)⟩⟩
  | i + 1, h => by
    obtain ⟨h0, h1, ih⟩ := leastTo_spec hc set i (by omega)
    have hp := hc.pack
    unfold manyP at h
    have hpl := hc.piles
    obtain ⟨a, b, _, _⟩ := sumTo_low hc (set := set) (k := c.pack.lo + i) (by omega) (by omega) c.piles.length (Nat.le_refl _)
    have hs : ∀ j : Nat, j < i + 1 → j < i ∨ j = i := fun j h => by omega
    have e : leastTo c set (i + 1) = if okP c (c.pack.lo + i) = true ∧ (leastTo c set i < 0 ∨ (sumTo c set (c.pack.lo + i) c.piles.length).lo < leastTo c set i) then (sumTo c set (c.pack.lo + i) c.piles.length).lo else leastTo c set i := rfl
    rw [e]
    split
    · rename_i hh
      refine ⟨by omega, by omega, .inr ⟨a, ⟨i, by omega, hh.1, rfl⟩, fun j hj ho => ?_⟩⟩
      rcases hs j hj with hj | rfl
      · rcases ih with ⟨i1, i2⟩ | ⟨i1, i2, i3⟩
        · rw [i2 j hj] at ho; cases ho
        · have := i3 j hj ho; omega
      · exact Int.le_refl _
    · rename_i hh
      refine ⟨h0, h1, ?_⟩
      rcases ih with ⟨i1, i2⟩ | ⟨i1, ⟨q, q1, q2, q3⟩, i3⟩
      · refine .inl ⟨i1, fun j hj => ?_⟩
        rcases hs j hj with hj | rfl
        · exact i2 j hj
        · cases ho : okP c (c.pack.lo + j) with
          | false => rfl
          | true => exact absurd ⟨ho, .inl (by omega)⟩ hh
      · refine .inr ⟨i1, ⟨q, by omega, q2, q3⟩, fun j hj ho => ?_⟩
        rcases hs j hj with hj | rfl
        · exact i3 j hj ho
        · have : ¬ ((sumTo c set (c.pack.lo + j) c.piles.length).lo < leastTo c set j) := fun hl => hh ⟨ho, .inr hl⟩
          omega
theorem least_tog {c : Cl} (hc : Fine c) (hcan : can c (every c) = true) (set : Nat) : leastTo c set (manyP c) = (together c set).lo := by
  have hne := can_packs hcan
  obtain ⟨⟨x, hx, h1⟩, _⟩ := hull_at (l := (packs c (every c)).map fun k => sumTo c set k c.piles.length) (by simpa using hne)
  obtain ⟨k1, hk1, rfl⟩ := List.mem_map.1 hx
  have e : together c set = hull ((packs c (every c)).map fun k => sumTo c set k c.piles.length) := rfl
  obtain ⟨_, _, hsp⟩ := leastTo_spec hc set (manyP c) (Nat.le_refl _)
  have hp := hc.pack
  have hat : ∀ k, k ∈ packs c (every c) → ∃ j : Nat, j < manyP c ∧ c.pack.lo + j = k ∧ okP c k = true := fun k hk => by
    obtain ⟨h2, h3⟩ := (packs_okP c k).1 hk
    simp only [Sp.has] at h2
    exact ⟨(k - c.pack.lo).toNat, by unfold manyP; omega, by omega, h3⟩
  obtain ⟨j, j1, j2, j3⟩ := hat k1 hk1
  rcases hsp with ⟨_, hall⟩ | ⟨_, ⟨q, q1, q2, q3⟩, hmin⟩
  · have := hall j j1
    rw [j2, j3] at this; cases this
  · have m1 := hmin j j1 (by rw [j2]; exact j3)
    rw [j2] at m1
    have hq : c.pack.lo + q ∈ packs c (every c) := (packs_okP c _).2 ⟨by simp only [Sp.has]; unfold manyP at q1; omega, q2⟩
    have m2 := hull_in (l := (packs c (every c)).map fun k => sumTo c set k c.piles.length) (List.mem_map.2 ⟨_, hq, rfl⟩)
    rw [e]
    omega
structure ShrLaw (c : Cl) (n : Int) (S : Nat) : Prop where
  lt : S < 2 ^ c.piles.length
  is : n ≤ (together c S).lo
  drop : ∀ i, i < c.piles.length → S.testBit i = true → (together c (S - 2 ^ i)).lo < n
  least : ∀ o, o < 2 ^ c.piles.length → n ≤ (together c o).lo → sizeN S < sizeN o ∨ sizeN S = sizeN o ∧ S ≤ o
theorem share_law {c : Cl} (hc : Fine c) {n : Int} {S : Nat} (hS : shareF c n = some S) : ShrLaw c n S := by
  have h4 := hc.piles
  have hl := first_least (by omega) hS
  have his : n ≤ (together c S).lo := of_decide_eq_true hl.is
  have hlt : ∀ o, o < 2 ^ c.piles.length → n ≤ (together c o).lo → sizeN S < sizeN o ∨ sizeN S = sizeN o ∧ S ≤ o := fun o h1 h2 => hl.least o h1 (decide_eq_true h2)
  have hp2 : 2 ^ c.piles.length ≤ 2 ^ 4 := Nat.pow_le_pow_right (by decide) h4.2
  have hSl := hl.lt
  refine ⟨hl.lt, his, fun i hi hb => ?_, hlt⟩
  obtain ⟨d1, d2, d3⟩ := bit_drop i (by omega) S (by omega) hb
  by_cases hT : n ≤ (together c (S - 2 ^ i)).lo
  · rcases hlt (S - 2 ^ i) (Nat.lt_of_le_of_lt (Nat.sub_le _ _) hl.lt) hT with h | ⟨h, _⟩ <;> omega
  · omega
theorem share_none {c : Cl} (hc : Fine c) {n : Int} (hS : shareF c n = none) : (together c (2 ^ c.piles.length - 1)).lo < n := by
  have h4 := hc.piles
  have h := first_none (by omega) hS (2 ^ c.piles.length - 1) (by have := Nat.two_pow_pos c.piles.length; omega)
  have h' := of_decide_eq_false h
  omega
end Clm
end Go.Proofs.Ytimgnlellflciaa

/- The code of functions of the laws, for the evaluator. Printed by program. -/
namespace Go.Proofs.Ytimgnlellflciaa
open Go
namespace Ev
def af7 : AFunc := ⟨162, [(.tmp 6)], (.seq (.ops [⟨0, (some 3), (.box (.tmp 0)), none, 0⟩, ⟨1, (some 6), (.mov (.val (.bool false))), none, 0⟩]) (.seq (.seq (.ops [⟨0, (some 17), (.load (some 4) (.tmp 3)), none, 0⟩, ⟨1, (some 18), (.call (.val (.fn (Fn.func 21) [] [])) [(.tmp 17)]), none, 0⟩, ⟨2, (some 19), (.mov (.tmp 18)), none, 0⟩, ⟨3, (some 20), (.load (some 4) (.tmp 3)), (some (19, false)), 0⟩, ⟨4, (some 21), (.call (.val (.fn (Fn.func 22) [] [])) [(.tmp 20)]), (some (19, false)), 0⟩, ⟨5, (some 22), (.not (.tmp 21)), (some (19, false)), 0⟩, ⟨6, (some 23), (.pick (.tmp 19) (.val (.bool true)) (.tmp 22)), none, 0⟩]) (.cond (.tmp 23) (.seq (.ops [⟨0, (some 24), (.call (.val (.fn (Fn.func 19) [] [])) []), none, 0⟩, ⟨1, (some 6), (.mov (.tmp 24)), none, 0⟩]) .ret) .skip)) (.seq (.ops [⟨0, (some 26), (.load (some 4) (.tmp 3)), none, 0⟩, ⟨1, (some 27), (.call (.val (.fn (Fn.func 25) [] [])) [(.tmp 26)]), none, 0⟩, ⟨2, (some 25), (.mov (.tmp 27)), none, 0⟩, ⟨3, (some 28), (.extract (.tmp 25) 0), none, 0⟩, ⟨4, (some 29), (.extract (.tmp 25) 1), none, 0⟩, ⟨5, (some 7), (.alloc [(.int .i64 0), (.int .i64 0)]), none, 0⟩, ⟨6, none, (.store 2 (.tmp 7) (.tmp 28)), none, 0⟩, ⟨7, (some 8), (.mov (.tmp 29)), none, 0⟩]) (.seq (.ops [⟨0, (some 30), (.mov (.tmp 1)), none, 0⟩, ⟨1, (some 31), (.conv .i64 (.tmp 30)), none, 0⟩, ⟨2, (some 32), (.fieldA 1 (.tmp 7)), none, 0⟩, ⟨3, (some 33), (.load none (.tmp 32)), none, 0⟩, ⟨4, (some 34), (.max [(.val (.int .i64 0)), (.tmp 33)]), none, 0⟩, ⟨5, (some 35), (.bin .add (.tmp 34) (.val (.int .i64 2))), none, 0⟩, ⟨6, (some 36), (.bin .rem (.tmp 31) (.tmp 35)), none, 0⟩, ⟨7, (some 9), (.mov (.tmp 36)), none, 0⟩]) (.seq (.seq (.ops [⟨0, (some 37), (.mov (.tmp 9)), none, 0⟩, ⟨1, (some 38), (.bin .gtr (.tmp 37) (.val (.int .i64 20000))), none, 0⟩]) (.cond (.tmp 38) (.seq (.ops [⟨0, (some 39), (.call (.val (.fn (Fn.func 19) [] [])) []), none, 0⟩, ⟨1, (some 6), (.mov (.tmp 39)), none, 0⟩]) .ret) .skip)) (.seq (.ops [⟨0, (some 41), (.load (some 4) (.tmp 3)), none, 0⟩, ⟨1, (some 42), (.mov (.tmp 9)), none, 0⟩, ⟨2, (some 43), (.call (.val (.fn (Fn.func 15) [] [])) [(.tmp 41), (.tmp 42)]), none, 0⟩, ⟨3, (some 40), (.mov (.tmp 43)), none, 0⟩, ⟨4, (some 44), (.extract (.tmp 40) 0), none, 0⟩, ⟨5, (some 45), (.extract (.tmp 40) 1), none, 0⟩, ⟨6, (some 10), (.mov (.tmp 44)), none, 0⟩, ⟨7, (some 11), (.mov (.tmp 45)), none, 0⟩]) (.seq (.seq (.ops [⟨0, (some 46), (.mov (.tmp 8)), none, 0⟩, ⟨1, (some 47), (.bin .neq (.tmp 46) (.val (.int .i64 0))), none, 0⟩]) (.cond (.tmp 47) (.seq (.ops [⟨0, (some 48), (.mov (.tmp 8)), none, 0⟩, ⟨1, (some 49), (.bin .eql (.tmp 48) (.val (.int .i64 10))), none, 0⟩, ⟨2, (some 50), (.mov (.tmp 49)), none, 0⟩, ⟨3, (some 51), (.mov (.tmp 11)), (some (50, true)), 0⟩, ⟨4, (some 52), (.mov (.tmp 8)), (some (50, true)), 0⟩, ⟨5, (some 53), (.bin .eql (.tmp 51) (.tmp 52)), (some (50, true)), 0⟩, ⟨6, (some 54), (.pick (.tmp 50) (.tmp 53) (.val (.bool false))), none, 0⟩, ⟨7, (some 55), (.mov (.tmp 54)), none, 0⟩, ⟨8, (some 56), (.mov (.tmp 10)), (some (55, true)), 0⟩, ⟨9, (some 57), (.bin .eql (.tmp 56) (.val (.int .i64 0))), (some (55, true)), 0⟩, ⟨10, (some 58), (.pick (.tmp 55) (.tmp 57) (.val (.bool false))), none, 0⟩, ⟨11, (some 59), (.mov (.tmp 58)), none, 0⟩, ⟨12, (some 60), (.call (.val (.fn (Fn.func 19) [] [])) []), (some (59, true)), 0⟩, ⟨13, (some 61), (.pick (.tmp 59) (.tmp 60) (.val (.bool false))), none, 0⟩, ⟨14, (some 6), (.mov (.tmp 61)), none, 0⟩]) .ret) .skip)) (.seq (.ops [⟨0, (some 62), (.mkfn (Fn.func 30) [] [(.tmp 3)]), none, 0⟩, ⟨1, (some 12), (.mov (.tmp 62)), none, 0⟩]) (.seq (.ops [⟨0, (some 63), (.fieldA 0 (.tmp 3)), none, 0⟩, ⟨1, (some 64), (.load none (.tmp 63)), none, 0⟩, ⟨2, (some 65), (.len (.tmp 64)), none, 0⟩, ⟨3, (some 66), (.bin .shl (.val (.int .i64 1)) (.tmp 65)), none, 0⟩, ⟨4, (some 67), (.bin .sub (.tmp 66) (.val (.int .i64 1))), none, 0⟩, ⟨5, (some 13), (.mov (.tmp 67)), none, 0⟩, ⟨6, (some 14), (.mov (.val (.fn (Fn.func 31) [] []))), none, 0⟩]) (.seq (.seq (.ops [⟨0, (some 68), (.mov (.tmp 11)), none, 0⟩, ⟨1, (some 69), (.bin .eql (.tmp 68) (.val (.int .i64 0))), none, 0⟩, ⟨2, (some 70), (.mov (.tmp 12)), none, 0⟩, ⟨3, (some 71), (.mov (.tmp 13)), none, 0⟩, ⟨4, (some 72), (.call (.tmp 70) [(.tmp 71)]), none, 0⟩, ⟨5, (some 73), (.mov (.tmp 9)), none, 0⟩, ⟨6, (some 74), (.bin .geq (.tmp 72) (.tmp 73)), none, 0⟩, ⟨7, (some 75), (.eq .bool true (.tmp 69) (.tmp 74)), none, 0⟩, ⟨8, (some 76), (.mov (.tmp 75)), none, 0⟩, ⟨9, (some 77), (.mov (.tmp 11)), (some (76, false)), 0⟩, ⟨10, (some 78), (.bin .neq (.tmp 77) (.val (.int .i64 0))), (some (76, false)), 0⟩, ⟨11, (some 79), (.mov (.tmp 78)), (some (76, false)), 0⟩, ⟨12, (some 80), (.mov (.tmp 11)), (some (79, true)), 0⟩, ⟨13, (some 81), (.bin .neq (.tmp 80) (.val (.int .i64 4))), (some (79, true)), 0⟩, ⟨14, (some 82), (.mov (.tmp 81)), (some (79, true)), 0⟩, ⟨15, (some 83), (.mov (.tmp 10)), (some (82, false)), 0⟩, ⟨16, (some 84), (.bin .neq (.tmp 83) (.val (.int .i64 0))), (some (82, false)), 0⟩, ⟨17, (some 85), (.pick (.tmp 82) (.val (.bool true)) (.tmp 84)), (some (79, true)), 0⟩, ⟨18, (some 86), (.pick (.tmp 79) (.tmp 85) (.val (.bool false))), (some (76, false)), 0⟩, ⟨19, (some 87), (.pick (.tmp 76) (.val (.bool true)) (.tmp 86)), none, 0⟩]) (.cond (.tmp 87) (.seq (.ops [⟨0, (some 6), (.mov (.val (.bool false))), none, 0⟩]) .ret) .skip)) (.seq (.seq (.ops [⟨0, (some 88), (.mov (.tmp 11)), none, 0⟩, ⟨1, (some 89), (.bin .neq (.tmp 88) (.val (.int .i64 0))), none, 0⟩]) (.cond (.tmp 89) (.seq (.ops [⟨0, (some 90), (.call (.val (.fn (Fn.func 19) [] [])) []), none, 0⟩, ⟨1, (some 6), (.mov (.tmp 90)), none, 0⟩]) .ret) .skip)) (.seq (.seq (.ops [⟨0, (some 91), (.mov (.tmp 10)), none, 0⟩, ⟨1, (some 92), (.bin .lss (.tmp 91) (.val (.int .i64 0))), none, 0⟩, ⟨2, (some 93), (.mov (.tmp 92)), none, 0⟩, ⟨3, (some 94), (.mov (.tmp 10)), (some (93, false)), 0⟩, ⟨4, (some 95), (.mov (.tmp 13)), (some (93, false)), 0⟩, ⟨5, (some 96), (.bin .gtr (.tmp 94) (.tmp 95)), (some (93, false)), 0⟩, ⟨6, (some 97), (.pick (.tmp 93) (.val (.bool true)) (.tmp 96)), none, 0⟩, ⟨7, (some 98), (.mov (.tmp 97)), none, 0⟩, ⟨8, (some 99), (.mov (.tmp 12)), (some (98, false)), 0⟩, ⟨9, (some 100), (.mov (.tmp 10)), (some (98, false)), 0⟩, ⟨10, (some 101), (.call (.tmp 99) [(.tmp 100)]), (some (98, false)), 0⟩, ⟨11, (some 102), (.mov (.tmp 9)), (some (98, false)), 0⟩, ⟨12, (some 103), (.bin .lss (.tmp 101) (.tmp 102)), (some (98, false)), 0⟩, ⟨13, (some 104), (.pick (.tmp 98) (.val (.bool true)) (.tmp 103)), none, 0⟩]) (.cond (.tmp 104) (.seq (.ops [⟨0, (some 6), (.mov (.val (.bool false))), none, 0⟩]) .ret) .skip)) (.seq (.seq (.ops [⟨0, (some 105), (.fieldA 0 (.tmp 3)), none, 0⟩, ⟨1, (some 106), (.load none (.tmp 105)), none, 0⟩, ⟨2, (some 107), (.len (.tmp 106)), none, 0⟩, ⟨3, (some 108), (.mov (.val (.int .i64 0))), none, 0⟩]) (.block 0 (.loop [2, 9, 10, 12, 13, 14, 107, 108] (.seq (.ops [⟨0, (some 109), (.bin .lss (.tmp 108) (.tmp 107)), none, 0⟩]) (.seq (.cond (.tmp 109) .skip (.exit 0)) (.seq (.block 1 (.seq (.ops [⟨0, (some 110), (.mov (.tmp 108)), none, 0⟩, ⟨1, (some 15), (.mov (.tmp 110)), none, 0⟩]) (.seq (.ops [⟨0, (some 111), (.mov (.tmp 10)), none, 0⟩, ⟨1, (some 112), (.mov (.tmp 15)), none, 0⟩, ⟨2, (some 113), (.bin .shr (.tmp 111) (.tmp 112)), none, 0⟩, ⟨3, (some 114), (.bin .and (.tmp 113) (.val (.int .i64 1))), none, 0⟩, ⟨4, (some 115), (.bin .eql (.tmp 114) (.val (.int .i64 1))), none, 0⟩, ⟨5, (some 116), (.mov (.tmp 115)), none, 0⟩, ⟨6, (some 117), (.mov (.tmp 12)), (some (116, true)), 0⟩, ⟨7, (some 118), (.mov (.tmp 10)), (some (116, true)), 0⟩, ⟨8, (some 119), (.mov (.tmp 15)), (some (116, true)), 0⟩, ⟨9, (some 120), (.bin .shl (.val (.int .i64 1)) (.tmp 119)), (some (116, true)), 0⟩, ⟨10, (some 121), (.bin .andNot (.tmp 118) (.tmp 120)), (some (116, true)), 0⟩, ⟨11, (some 122), (.call (.tmp 117) [(.tmp 121)]), (some (116, true)), 0⟩, ⟨12, (some 123), (.mov (.tmp 9)), (some (116, true)), 0⟩, ⟨13, (some 124), (.bin .geq (.tmp 122) (.tmp 123)), (some (116, true)), 0⟩, ⟨14, (some 125), (.pick (.tmp 116) (.tmp 124) (.val (.bool false))), none, 0⟩]) (.cond (.tmp 125) (.seq (.ops [⟨0, (some 6), (.mov (.val (.bool false))), none, 0⟩]) .ret) .skip)))) (.ops [⟨0, (some 126), (.bin .add (.tmp 108) (.val (.int .i64 1))), none, 0⟩, ⟨1, (some 108), (.mov (.tmp 126)), none, 0⟩]))))))) (.seq (.ops [⟨0, (some 127), (.mov (.tmp 2)), none, 0⟩, ⟨1, (some 128), (.conv .i64 (.tmp 127)), none, 0⟩, ⟨2, (some 129), (.mov (.tmp 13)), none, 0⟩, ⟨3, (some 130), (.bin .and (.tmp 128) (.tmp 129)), none, 0⟩, ⟨4, (some 16), (.mov (.tmp 130)), none, 0⟩]) (.seq (.ops [⟨0, (some 131), (.mov (.tmp 12)), none, 0⟩, ⟨1, (some 132), (.mov (.tmp 16)), none, 0⟩, ⟨2, (some 133), (.call (.tmp 131) [(.tmp 132)]), none, 0⟩, ⟨3, (some 134), (.mov (.tmp 9)), none, 0⟩, ⟨4, (some 135), (.bin .lss (.tmp 133) (.tmp 134)), none, 0⟩, ⟨5, (some 136), (.mov (.tmp 135)), none, 0⟩, ⟨6, (some 137), (.mov (.tmp 14)), (some (136, false)), 0⟩, ⟨7, (some 138), (.mov (.tmp 16)), (some (136, false)), 0⟩, ⟨8, (some 139), (.call (.tmp 137) [(.tmp 138)]), (some (136, false)), 0⟩, ⟨9, (some 140), (.mov (.tmp 14)), (some (136, false)), 0⟩, ⟨10, (some 141), (.mov (.tmp 10)), (some (136, false)), 0⟩, ⟨11, (some 142), (.call (.tmp 140) [(.tmp 141)]), (some (136, false)), 0⟩, ⟨12, (some 143), (.bin .gtr (.tmp 139) (.tmp 142)), (some (136, false)), 0⟩, ⟨13, (some 144), (.pick (.tmp 136) (.val (.bool true)) (.tmp 143)), none, 0⟩, ⟨14, (some 145), (.mov (.tmp 144)), none, 0⟩, ⟨15, (some 146), (.mov (.tmp 14)), (some (145, false)), 0⟩, ⟨16, (some 147), (.mov (.tmp 16)), (some (145, false)), 0⟩, ⟨17, (some 148), (.call (.tmp 146) [(.tmp 147)]), (some (145, false)), 0⟩, ⟨18, (some 149), (.mov (.tmp 14)), (some (145, false)), 0⟩, ⟨19, (some 150), (.mov (.tmp 10)), (some (145, false)), 0⟩, ⟨20, (some 151), (.call (.tmp 149) [(.tmp 150)]), (some (145, false)), 0⟩, ⟨21, (some 152), (.bin .eql (.tmp 148) (.tmp 151)), (some (145, false)), 0⟩, ⟨22, (some 153), (.mov (.tmp 152)), (some (145, false)), 0⟩, ⟨23, (some 154), (.mov (.tmp 16)), (some (153, true)), 0⟩, ⟨24, (some 155), (.mov (.tmp 10)), (some (153, true)), 0⟩, ⟨25, (some 156), (.bin .geq (.tmp 154) (.tmp 155)), (some (153, true)), 0⟩, ⟨26, (some 157), (.pick (.tmp 153) (.tmp 156) (.val (.bool false))), (some (145, false)), 0⟩, ⟨27, (some 158), (.pick (.tmp 145) (.val (.bool true)) (.tmp 157)), none, 0⟩, ⟨28, (some 159), (.mov (.tmp 158)), none, 0⟩, ⟨29, (some 160), (.call (.val (.fn (Fn.func 19) [] [])) []), (some (159, true)), 0⟩, ⟨30, (some 161), (.pick (.tmp 159) (.tmp 160) (.val (.bool false))), none, 0⟩, ⟨31, (some 6), (.mov (.tmp 161)), none, 0⟩]) .ret)))))))))))))))⟩
def af30 : AFunc := ⟨66, [(.tmp 3)], (.seq (.ops [⟨0, (some 3), (.mov (.val (.int .i64 0))), none, 0⟩]) (.seq (.ops [⟨0, (some 4), (.mov (.val (.int .i64 (-1)))), none, 0⟩]) (.seq (.seq (.ops [⟨0, (some 12), (.fieldA 1 (.tmp 1)), none, 0⟩, ⟨1, (some 13), (.fieldA 0 (.tmp 12)), none, 0⟩, ⟨2, (some 14), (.load none (.tmp 13)), none, 0⟩, ⟨3, (some 5), (.mov (.tmp 14)), none, 0⟩]) (.block 0 (.loop [0, 1, 4, 5] (.seq (.seq (.ops [⟨0, (some 15), (.mov (.tmp 5)), none, 0⟩, ⟨1, (some 16), (.fieldA 1 (.tmp 1)), none, 0⟩, ⟨2, (some 17), (.fieldA 1 (.tmp 16)), none, 0⟩, ⟨3, (some 18), (.load none (.tmp 17)), none, 0⟩, ⟨4, (some 19), (.bin .leq (.tmp 15) (.tmp 18)), none, 0⟩]) (.cond (.tmp 19) .skip (.exit 0))) (.seq (.block 1 (.seq (.ops [⟨0, (some 22), (.load (some 4) (.tmp 1)), none, 0⟩, ⟨1, (some 6), (.alloc [.nils, (.int .i64 0), (.int .i64 0), .nils]), none, 0⟩, ⟨2, none, (.store 4 (.tmp 6) (.tmp 22)), none, 0⟩]) (.seq (.ops [⟨0, (some 23), (.mov (.tmp 5)), none, 0⟩, ⟨1, (some 24), (.mov (.tmp 5)), none, 0⟩, ⟨2, (some 25), (.call (.val (.fn (Fn.func 20) [] [])) [(.tmp 23), (.tmp 24)]), none, 0⟩, ⟨3, (some 26), (.fieldA 1 (.tmp 6)), none, 0⟩, ⟨4, none, (.store 2 (.tmp 26) (.tmp 25)), none, 0⟩]) (.seq (.ops [⟨0, (some 7), (.mov (.val (.int .i64 0))), none, 0⟩, ⟨1, (some 8), (.mov (.val (.bool true))), none, 0⟩]) (.seq (.seq (.ops [⟨0, (some 27), (.fieldA 0 (.tmp 1)), none, 0⟩, ⟨1, (some 28), (.load none (.tmp 27)), none, 0⟩, ⟨2, (some 29), (.len (.tmp 28)), none, 0⟩, ⟨3, (some 30), (.mov (.val (.int .i64 0))), none, 0⟩]) (.block 2 (.loop [0, 1, 4, 5, 6, 7, 8, 29, 30] (.seq (.ops [⟨0, (some 31), (.bin .lss (.tmp 30) (.tmp 29)), none, 0⟩]) (.seq (.cond (.tmp 31) .skip (.exit 2)) (.seq (.block 3 (.seq (.ops [⟨0, (some 32), (.mov (.tmp 30)), none, 0⟩, ⟨1, (some 9), (.mov (.tmp 32)), none, 0⟩]) (.seq (.ops [⟨0, (some 34), (.load (some 4) (.tmp 6)), none, 0⟩, ⟨1, (some 35), (.mov (.tmp 9)), none, 0⟩, ⟨2, (some 36), (.call (.val (.fn (Fn.func 12) [] [])) [(.tmp 34), (.tmp 35)]), none, 0⟩, ⟨3, (some 33), (.mov (.tmp 36)), none, 0⟩, ⟨4, (some 37), (.extract (.tmp 33) 0), none, 0⟩, ⟨5, (some 38), (.extract (.tmp 33) 1), none, 0⟩, ⟨6, (some 10), (.alloc [(.int .i64 0), (.int .i64 0)]), none, 0⟩, ⟨7, none, (.store 2 (.tmp 10) (.tmp 37)), none, 0⟩, ⟨8, (some 11), (.mov (.tmp 38)), none, 0⟩]) (.seq (.ops [⟨0, (some 39), (.mov (.tmp 8)), none, 0⟩, ⟨1, (some 40), (.mov (.tmp 39)), none, 0⟩, ⟨2, (some 41), (.mov (.tmp 11)), (some (40, true)), 0⟩, ⟨3, (some 42), (.bin .eql (.tmp 41) (.val (.int .i64 0))), (some (40, true)), 0⟩, ⟨4, (some 43), (.pick (.tmp 40) (.tmp 42) (.val (.bool false))), none, 0⟩, ⟨5, (some 8), (.mov (.tmp 43)), none, 0⟩]) (.seq (.ops [⟨0, (some 44), (.mov (.tmp 0)), none, 0⟩, ⟨1, (some 45), (.mov (.tmp 9)), none, 0⟩, ⟨2, (some 46), (.bin .shr (.tmp 44) (.tmp 45)), none, 0⟩, ⟨3, (some 47), (.bin .and (.tmp 46) (.val (.int .i64 1))), none, 0⟩, ⟨4, (some 48), (.bin .eql (.tmp 47) (.val (.int .i64 1))), none, 0⟩]) (.cond (.tmp 48) (.ops [⟨0, (some 49), (.mov (.tmp 7)), none, 0⟩, ⟨1, (some 50), (.fieldA 0 (.tmp 10)), none, 0⟩, ⟨2, (some 51), (.load none (.tmp 50)), none, 0⟩, ⟨3, (some 52), (.bin .add (.tmp 49) (.tmp 51)), none, 0⟩, ⟨4, (some 7), (.mov (.tmp 52)), none, 0⟩]) .skip)))))) (.ops [⟨0, (some 53), (.bin .add (.tmp 30) (.val (.int .i64 1))), none, 0⟩, ⟨1, (some 30), (.mov (.tmp 53)), none, 0⟩]))))))) (.seq (.ops [⟨0, (some 54), (.mov (.tmp 8)), none, 0⟩, ⟨1, (some 55), (.mov (.tmp 54)), none, 0⟩, ⟨2, (some 56), (.mov (.tmp 4)), (some (55, true)), 0⟩, ⟨3, (some 57), (.bin .lss (.tmp 56) (.val (.int .i64 0))), (some (55, true)), 0⟩, ⟨4, (some 58), (.mov (.tmp 57)), (some (55, true)), 0⟩, ⟨5, (some 59), (.mov (.tmp 7)), (some (58, false)), 0⟩, ⟨6, (some 60), (.mov (.tmp 4)), (some (58, false)), 0⟩, ⟨7, (some 61), (.bin .lss (.tmp 59) (.tmp 60)), (some (58, false)), 0⟩, ⟨8, (some 62), (.pick (.tmp 58) (.val (.bool true)) (.tmp 61)), (some (55, true)), 0⟩, ⟨9, (some 63), (.pick (.tmp 55) (.tmp 62) (.val (.bool false))), none, 0⟩]) (.cond (.tmp 63) (.ops [⟨0, (some 64), (.mov (.tmp 7)), none, 0⟩, ⟨1, (some 4), (.mov (.tmp 64)), none, 0⟩]) .skip))))))) (.ops [⟨0, (some 20), (.mov (.tmp 5)), none, 0⟩, ⟨1, (some 21), (.bin .add (.tmp 20) (.val (.int .i64 1))), none, 0⟩, ⟨2, (some 5), (.mov (.tmp 21)), none, 0⟩])))))) (.seq (.ops [⟨0, (some 65), (.mov (.tmp 4)), none, 0⟩, ⟨1, (some 3), (.mov (.tmp 65)), none, 0⟩]) .ret))))⟩
end Ev
end Go.Proofs.Ytimgnlellflciaa

/- ClampShare, gone through: the closure. -/
namespace Go.Proofs.Ytimgnlellflciaa
open Go
namespace Ev
namespace K
set_option maxRecDepth 100000
set_option maxHeartbeats 4000000
def LeastC (call : CallF) (c : Clm.Cl) : Prop := ∀ (H : List AB) (b s : Nat), H[b]? = some (.cells (clampCs c)) → call (.fn (.func 30) [] [.ptr b 0]) [.int .i64 s] H = some (.ret (.int .i64 (Clm.leastTo c s (Clm.manyP c))), H, [])
theorem least_fun (C : Cfg) (hC : C.calm = true) (call : CallF) (hA : LApi call) (c : Clm.Cl) (hc : Clm.Fine c) (H : List AB) (b s : Nat) (hb : H[b]? = some (.cells (clampCs c))) :
    Does (ev C call H.length none af30.body { tm := tmA af30.ntmps (zipI 0 [.int .i64 s, .ptr b 0] []), df := [], hp := H, tc := [] })
      (Ends C H.length af30.res fun v _hp tc => v = .int .i64 (Clm.leastTo c s (Clm.manyP c)) ∧ tc = []) := by
  obtain ⟨b0, b1, b2, b3, b4, b5⟩ := bk' hb
  have hp := hc.piles
  have he := hc.events
  have hpk := hc.pack
  have hsp := fun H a b => hA.span (H := H) a b
  have hone : ∀ (k : Int) (H : List AB), clOf H (.agg [.vs 6 (c.piles.map pileE), .int .i64 k, .int .i64 k, .vs 4 (c.events.map evtE)]) = some (Clm.onePack c k) := fun k H => clOf_of (pilesV_vs H c.piles) (evtsV_vs H c.events) (a := k) (b := k) (by omega) (by omega)
  have hhas : ∀ (k : Int), c.pack.has k → ∀ (H : List AB) (i : Nat), i < c.piles.length → call (.fn (.func 12) [] []) [.agg [.vs 6 (c.piles.map pileE), .int .i64 k, .int .i64 k, .vs 4 (c.events.map evtE)], .int .i64 i] H = some (.ret (if Clm.okP c k then .tup [.agg [.int .i64 (Clm.spanOf c i k (Clm.leftW c)).lo, .int .i64 (Clm.spanOf c i k (Clm.leftW c)).hi], .int .i64 0] else .tup [.agg [.int .i64 0, .int .i64 0], .int .i64 10]), H, []) := by
    intro k hk H i hi
    have h := hA.has (hone k H) (i : Int)
    have e1 : isP (Clm.onePack c k) (i : Int) = true := decide_eq_true ⟨by omega, by show (i : Int) < (c.piles.length : Int); omega⟩
    have e2 : hasG (Clm.onePack c k) (i : Int) = Clm.hasC (Clm.onePack c k) i := rfl
    rw [e1, e2] at h
    rw [h]
    have ef : errOf (Clm.onePack c k) true = if Clm.okP c k then 0 else 10 := by
      unfold errOf; rw [(Clm.valid_iff _).2 (Clm.onePack_fine hc hk), Clm.can_one]
      cases Clm.okP c k <;> rfl
    unfold spanR
    rw [ef]
    cases ho : Clm.okP c k with
    | true => rw [Clm.has_one c ho]; rfl
    | false => rfl
  have hlow : ∀ k, c.pack.has k → ∀ n, n ≤ c.piles.length → 0 ≤ (Clm.sumTo c s k n).lo ∧ (Clm.sumTo c s k n).lo ≤ 10000 * n := fun k hk n hn => by
    simp only [Clm.Sp.has] at hk
    have := Clm.sumTo_low hc (set := s) (k := k) (by omega) (by omega) n hn
    omega
  have hmp : Clm.manyP c ≤ 5 ∧ ∀ i : Nat, i < Clm.manyP c → c.pack.has (c.pack.lo + i) ∧ c.pack.lo + i ≤ c.pack.hi := by
    unfold Clm.manyP
    exact ⟨by omega, fun i hi => ⟨by simp only [Clm.Sp.has]; omega, by omega⟩⟩
  have hme : ¬ (c.pack.lo + (Clm.manyP c : Int) ≤ c.pack.hi) := by unfold Clm.manyP; omega
  have hlt := Clm.leastTo_spec hc s
  have HA := hideP (And.intro hhas (And.intro hlow (And.intro hmp (And.intro hpk (And.intro hp hlt)))))
  clear hhas hlow hone hA hc he hp hlt
  unfold af30
  simp only [zipI, clampCs] at *
  (repeat (first | (with_reducible apply zan; (focus ((conv => lhs; simp [ev1, wantG, spineK, spine, float, xnew, xval, xeff, zaa, zab, zal, zad, zae, addFl, cellsOf, pickC, alive, slLen, slFt, binI, maxA, maxK, minA, minK, aeqK, aeqS, AV.cells,  spA, zac, fillA, setAt, bitsI, nat_nn, zar, AV.plain, apart, Nat.testBit_eq_decide_div_mod_eq, *]) <;> exact rfl)); simp only [addFl]) | ((with_reducible first | refine zao ?_ | refine zaq ?_ | refine zak ?_ | refine zai ?_ | refine zag ?_ | refine zap ?_ | refine zaj ?_ | refine zas ?_ | (apply zah; (focus (simp [zaa, *]; done))) | (with_reducible apply zaf; (focus (simp [zaa, *]; done)))); try simp only [Then, Ops]) | simp only [Nat.reduceEqDiff, reduceIte, OutB, Then]))
  with_reducible refine zbg hC (Clm.manyP c) (by have := HA.out.2.2.1.1; unfold fuelL; omega) (fun i st => ∃ J, st = { tm := tmA 66 [(5, .int .i64 (c.pack.lo + i)), (4, .int .i64 (Clm.leastTo c s i)), (1, .ptr b 0), (0, .int .i64 s)], df := [], hp := H ++ J, tc := [] }) ?_ ?_ ?_
  · refine ⟨[], ?_⟩
    simp only [Clm.leastTo]
    (refine st_is ?_ ?_ ?_ ?_; (focus (simp [zau, zax])); (focus rfl); (focus (first | rfl | (simp; done) | (simp [*]; done) | (simp; rfl) | (simp [*]; omega) | (simp; omega))); (focus (first | rfl | simp)))
  · rintro i st hi ⟨J, rfl⟩
    obtain ⟨hhas, hlow, ⟨hm5, hmp⟩, hpk, hp, hlt⟩ := HA.out
    obtain ⟨hk, hkle⟩ := hmp i hi
    have hh := hhas _ hk
    have hl := hlow _ hk
    obtain ⟨t1, t2, _⟩ := hlt i (by omega)
    have hnx : Clm.leastTo c s (i + 1) = if Clm.okP c (c.pack.lo + i) = true ∧ (Clm.leastTo c s i < 0 ∨ (Clm.sumTo c s (c.pack.lo + i) c.piles.length).lo < Clm.leastTo c s i) then (Clm.sumTo c s (c.pack.lo + i) c.piles.length).lo else Clm.leastTo c s i := rfl
    have hwk : IntKind.i64.wrap (c.pack.lo + ↑i + 1) = c.pack.lo + ((i + 1 : Nat) : Int) := by rw [zaz (by omega) (by omega)]; omega
    have hst : ∀ n, (Clm.sumTo c s (c.pack.lo + i) (n + 1)).lo = if s.testBit n then (Clm.sumTo c s (c.pack.lo + i) n).lo + (Clm.spanOf c n (c.pack.lo + i) (Clm.leftW c)).lo else (Clm.sumTo c s (c.pack.lo + i) n).lo := fun n => by
      rw [Clm.sumTo_succ]; unfold Clm.bit
      cases s.testBit n <;> rfl
    have hs0 : (Clm.sumTo c s (c.pack.lo + i) 0).lo = 0 := rfl
    generalize Clm.leastTo c s i = out at *
    rw [hnx]
    clear hhas hlow hmp hlt hnx hk HA hme
    generalize hK : c.pack.lo + (i : Int) = k at *
    cases hok : Clm.okP c k with
    | true =>
      simp only [hok, if_true, true_and] at hh ⊢
      have HB := hideP (And.intro hh (And.intro hl (And.intro hst (And.intro hp hs0))))
      clear hh hl hst hpk
      (repeat (first | (with_reducible apply zan; (focus ((conv => lhs; simp [ev1, wantG, spineK, spine, float, xnew, xval, xeff, zaa, zab, zal, zad, zae, addFl, cellsOf, pickC, alive, slLen, slFt, binI, maxA, maxK, minA, minK, aeqK, aeqS, AV.cells,  spA, zac, fillA, setAt, bitsI, nat_nn, zar, AV.plain, apart, Nat.testBit_eq_decide_div_mod_eq, *]) <;> exact rfl)); simp only [addFl]) | ((with_reducible first | refine zao ?_ | refine zaq ?_ | refine zak ?_ | refine zai ?_ | refine zag ?_ | refine zap ?_ | refine zaj ?_ | refine zas ?_ | (apply zah; (focus (simp [zaa, *]; done))) | (with_reducible apply zaf; (focus (simp [zaa, *]; done)))); try simp only [Then, Ops, OutB]) | simp only [Nat.reduceEqDiff, reduceIte, OutB, Then]))
      with_reducible refine zbg hC c.piles.length (by have := HB.out.2.2.2.1; unfold fuelL; omega) (fun i st => ∃ K, st = { tm := tmA 66 [(30, .int .i64 i), (29, .int .i64 c.piles.length), (8, .bool true), (7, .int .i64 (Clm.sumTo c s k i).lo), (6, .ptr (H.length + J.length) 0), (5, .int .i64 k), (4, .int .i64 out), (1, .ptr b 0), (0, .int .i64 s)], df := [], hp := H ++ (J ++ .cells [.vs 6 (c.piles.map pileE), .int .i64 k, .int .i64 k, .vs 4 (c.events.map evtE)] :: K), tc := [] }) ?_ ?_ ?_
      · refine ⟨[], ?_⟩
        rw [hs0]
        (refine st_is ?_ ?_ ?_ ?_; (focus (simp [zau, zax])); (focus rfl); (focus (first | rfl | (simp; done) | (simp [*]; done) | (simp; rfl) | (simp [*]; omega) | (simp; omega))); (focus (first | rfl | simp)))
      · rintro i st hi ⟨K, rfl⟩
        obtain ⟨hh, hl, hst, hp, hs0⟩ := HB.out
        have hh1 := fun H => hh H i hi
        have hbit := bit_i64 (n := s) (d := i) (by omega)
        have hwi : IntKind.i64.wrap (↑i + 1) = ↑i + 1 := zaz (by omega) (by omega)
        obtain ⟨q1, q2⟩ := hl (i + 1) (by omega)
        rw [hst i] at q1 q2 ⊢
        clear hh hl hst hp hs0 HB
        cases hb : s.testBit i with
        | true =>
          simp only [hb, if_true] at q1 q2 hbit ⊢
          have w1 : IntKind.i64.wrap ((Clm.sumTo c s k i).lo + (Clm.spanOf c i k (Clm.leftW c)).lo) = (Clm.sumTo c s k i).lo + (Clm.spanOf c i k (Clm.leftW c)).lo := zaz (by omega) (by omega)
          clear q1 q2
          generalize (Clm.spanOf c i k (Clm.leftW c)).lo = xlo at *
          generalize (Clm.spanOf c i k (Clm.leftW c)).hi = xhi at *
          generalize (Clm.sumTo c s k i).lo = nn at *
          simp at hbit
          (repeat (first | (with_reducible apply zan; (focus ((conv => lhs; simp [ev1, wantG, spineK, spine, float, xnew, xval, xeff, zaa, zab, zal, zad, zae, addFl, cellsOf, pickC, alive, slLen, slFt, binI, maxA, maxK, minA, minK, aeqK, aeqS, AV.cells,  spA, zac, fillA, setAt, bitsI, nat_nn, zar, AV.plain, apart, Nat.testBit_eq_decide_div_mod_eq, *]) <;> exact rfl)); simp only [addFl]) | ((with_reducible first | refine zao ?_ | refine zaq ?_ | refine zak ?_ | refine zai ?_ | refine zag ?_ | refine zap ?_ | refine zaj ?_ | refine zas ?_ | (apply zah; (focus (simp [zaa, *]; done))) | (with_reducible apply zaf; (focus (simp [zaa, *]; done)))); try simp only [Then, Ops, OutB]) | simp only [Nat.reduceEqDiff, reduceIte, OutB, Then]))
          refine ⟨K ++ [.cells [.int .i64 xlo, .int .i64 xhi]], ?_⟩
          (refine st_is ?_ ?_ ?_ ?_; (focus (simp [zau, zax])); (focus rfl); (focus (first | rfl | (simp; done) | (simp [*]; done) | (simp; rfl) | (simp [*]; omega) | (simp; omega))); (focus (first | rfl | simp)))
        | false =>
          simp only [hb, Bool.false_eq_true, if_false] at q1 q2 hbit ⊢
          clear q1 q2
          generalize (Clm.spanOf c i k (Clm.leftW c)).lo = xlo at *
          generalize (Clm.spanOf c i k (Clm.leftW c)).hi = xhi at *
          generalize (Clm.sumTo c s k i).lo = nn at *
          simp at hbit
          (repeat (first | (with_reducible apply zan; (focus ((conv => lhs; simp [ev1, wantG, spineK, spine, float, xnew, xval, xeff, zaa, zab, zal, zad, zae, addFl, cellsOf, pickC, alive, slLen, slFt, binI, maxA, maxK, minA, minK, aeqK, aeqS, AV.cells,  spA, zac, fillA, setAt, bitsI, nat_nn, zar, AV.plain, apart, Nat.testBit_eq_decide_div_mod_eq, *]) <;> exact rfl)); simp only [addFl]) | ((with_reducible first | refine zao ?_ | refine zaq ?_ | refine zak ?_ | refine zai ?_ | refine zag ?_ | refine zap ?_ | refine zaj ?_ | refine zas ?_ | (apply zah; (focus (simp [zaa, *]; done))) | (with_reducible apply zaf; (focus (simp [zaa, *]; done)))); try simp only [Then, Ops, OutB]) | simp only [Nat.reduceEqDiff, reduceIte, OutB, Then]))
          refine ⟨K ++ [.cells [.int .i64 xlo, .int .i64 xhi]], ?_⟩
          (refine st_is ?_ ?_ ?_ ?_; (focus (simp [zau, zax])); (focus rfl); (focus (first | rfl | (simp; done) | (simp [*]; done) | (simp; rfl) | (simp [*]; omega) | (simp; omega))); (focus (first | rfl | simp)))
      · rintro st ⟨K, rfl⟩
        clear HB hs0
        generalize (Clm.sumTo c s k c.piles.length).lo = nn at *
        by_cases h1 : out < 0
        · rw [if_pos (.inl h1)]
          (repeat (first | (with_reducible apply zan; (focus ((conv => lhs; simp [ev1, wantG, spineK, spine, float, xnew, xval, xeff, zaa, zab, zal, zad, zae, addFl, cellsOf, pickC, alive, slLen, slFt, binI, maxA, maxK, minA, minK, aeqK, aeqS, AV.cells,  spA, zac, fillA, setAt, bitsI, nat_nn, zar, AV.plain, apart, Nat.testBit_eq_decide_div_mod_eq, *]) <;> exact rfl)); simp only [addFl]) | ((with_reducible first | refine zao ?_ | refine zaq ?_ | refine zak ?_ | refine zai ?_ | refine zag ?_ | refine zap ?_ | refine zaj ?_ | refine zas ?_ | (apply zah; (focus (simp [zaa, *]; done))) | (with_reducible apply zaf; (focus (simp [zaa, *]; done)))); try simp only [Then, Ops, OutB, reduceIte]) | simp only [Nat.reduceEqDiff, reduceIte, OutB, Then]))
          refine ⟨?_, ?_⟩
          rotate_left
          (refine st_is ?_ ?_ ?_ ?_; (focus (simp [zau, zax])); (focus rfl); (focus (first | rfl | (simp; done) | (simp [*]; done) | (simp; rfl) | (simp [*]; omega) | (simp; omega))); (focus (first | rfl | simp)))
        · by_cases h2 : nn < out
          · rw [if_pos (.inr h2)]
            (repeat (first | (with_reducible apply zan; (focus ((conv => lhs; simp [ev1, wantG, spineK, spine, float, xnew, xval, xeff, zaa, zab, zal, zad, zae, addFl, cellsOf, pickC, alive, slLen, slFt, binI, maxA, maxK, minA, minK, aeqK, aeqS, AV.cells,  spA, zac, fillA, setAt, bitsI, nat_nn, zar, AV.plain, apart, Nat.testBit_eq_decide_div_mod_eq, *]) <;> exact rfl)); simp only [addFl]) | ((with_reducible first | refine zao ?_ | refine zaq ?_ | refine zak ?_ | refine zai ?_ | refine zag ?_ | refine zap ?_ | refine zaj ?_ | refine zas ?_ | (apply zah; (focus (simp [zaa, *]; done))) | (with_reducible apply zaf; (focus (simp [zaa, *]; done)))); try simp only [Then, Ops, OutB, reduceIte]) | simp only [Nat.reduceEqDiff, reduceIte, OutB, Then]))
            refine ⟨?_, ?_⟩
            rotate_left
            (refine st_is ?_ ?_ ?_ ?_; (focus (simp [zau, zax])); (focus rfl); (focus (first | rfl | (simp; done) | (simp [*]; done) | (simp; rfl) | (simp [*]; omega) | (simp; omega))); (focus (first | rfl | simp)))
          · rw [if_neg (by omega)]
            (repeat (first | (with_reducible apply zan; (focus ((conv => lhs; simp [ev1, wantG, spineK, spine, float, xnew, xval, xeff, zaa, zab, zal, zad, zae, addFl, cellsOf, pickC, alive, slLen, slFt, binI, maxA, maxK, minA, minK, aeqK, aeqS, AV.cells,  spA, zac, fillA, setAt, bitsI, nat_nn, zar, AV.plain, apart, Nat.testBit_eq_decide_div_mod_eq, *]) <;> exact rfl)); simp only [addFl]) | ((with_reducible first | refine zao ?_ | refine zaq ?_ | refine zak ?_ | refine zai ?_ | refine zag ?_ | refine zap ?_ | refine zaj ?_ | refine zas ?_ | (apply zah; (focus (simp [zaa, *]; done))) | (with_reducible apply zaf; (focus (simp [zaa, *]; done)))); try simp only [Then, Ops, OutB, reduceIte]) | simp only [Nat.reduceEqDiff, reduceIte, OutB, Then]))
            refine ⟨?_, ?_⟩
            rotate_left
            (refine st_is ?_ ?_ ?_ ?_; (focus (simp [zau, zax])); (focus rfl); (focus (first | rfl | (simp; done) | (simp [*]; done) | (simp; rfl) | (simp [*]; omega) | (simp; omega))); (focus (first | rfl | simp)))
    | false =>
      simp only [hok, Bool.false_eq_true, if_false, false_and] at hh ⊢
      have HB := hideP (And.intro hh hp)
      clear hh hl hst hpk hs0
      have w0 : IntKind.i64.wrap 0 = 0 := by decide
      (repeat (first | (with_reducible apply zan; (focus ((conv => lhs; simp [ev1, wantG, spineK, spine, float, xnew, xval, xeff, zaa, zab, zal, zad, zae, addFl, cellsOf, pickC, alive, slLen, slFt, binI, maxA, maxK, minA, minK, aeqK, aeqS, AV.cells,  spA, zac, fillA, setAt, bitsI, nat_nn, zar, AV.plain, apart, Nat.testBit_eq_decide_div_mod_eq, *]) <;> exact rfl)); simp only [addFl]) | ((with_reducible first | refine zao ?_ | refine zaq ?_ | refine zak ?_ | refine zai ?_ | refine zag ?_ | refine zap ?_ | refine zaj ?_ | refine zas ?_ | (apply zah; (focus (simp [zaa, *]; done))) | (with_reducible apply zaf; (focus (simp [zaa, *]; done)))); try simp only [Then, Ops, OutB]) | simp only [Nat.reduceEqDiff, reduceIte, OutB, Then]))
      with_reducible refine zbg hC c.piles.length (by have := HB.out.2; unfold fuelL; omega) (fun i st => ∃ K, st = { tm := tmA 66 [(30, .int .i64 i), (29, .int .i64 c.piles.length), (8, .bool (decide (i = 0))), (7, .int .i64 0), (6, .ptr (H.length + J.length) 0), (5, .int .i64 k), (4, .int .i64 out), (1, .ptr b 0), (0, .int .i64 s)], df := [], hp := H ++ (J ++ .cells [.vs 6 (c.piles.map pileE), .int .i64 k, .int .i64 k, .vs 4 (c.events.map evtE)] :: K), tc := [] }) ?_ ?_ ?_
      · refine ⟨[], ?_⟩
        (refine st_is ?_ ?_ ?_ ?_; (focus (simp [zau, zax])); (focus rfl); (focus (first | rfl | (simp; done) | (simp [*]; done) | (simp; rfl) | (simp [*]; omega) | (simp; omega))); (focus (first | rfl | simp)))
      · rintro i st hi ⟨K, rfl⟩
        obtain ⟨hh, hp⟩ := HB.out
        have hh1 := fun H => hh H i hi
        have hbit := bit_i64 (n := s) (d := i) (by omega)
        have hwi : IntKind.i64.wrap (↑i + 1) = ↑i + 1 := zaz (by omega) (by omega)
        clear hh hp HB
        generalize hd : decide (i = 0) = d
        have hd1 : decide (i + 1 = 0) = false := by simp
        rw [hd1]
        clear hd hd1
        cases hb : s.testBit i with
        | true =>
          simp only [hb, if_true] at hbit
          simp at hbit
          cases d with
          | true =>
            (repeat (first | (with_reducible apply zan; (focus ((conv => lhs; simp [ev1, wantG, spineK, spine, float, xnew, xval, xeff, zaa, zab, zal, zad, zae, addFl, cellsOf, pickC, alive, slLen, slFt, binI, maxA, maxK, minA, minK, aeqK, aeqS, AV.cells,  spA, zac, fillA, setAt, bitsI, nat_nn, zar, AV.plain, apart, Nat.testBit_eq_decide_div_mod_eq, *]) <;> exact rfl)); simp only [addFl]) | ((with_reducible first | refine zao ?_ | refine zaq ?_ | refine zak ?_ | refine zai ?_ | refine zag ?_ | refine zap ?_ | refine zaj ?_ | refine zas ?_ | (apply zah; (focus (simp [zaa, *]; done))) | (with_reducible apply zaf; (focus (simp [zaa, *]; done)))); try simp only [Then, Ops, OutB]) | simp only [Nat.reduceEqDiff, reduceIte, OutB, Then]))
            refine ⟨K ++ [.cells [.int .i64 0, .int .i64 0]], ?_⟩
            (refine st_is ?_ ?_ ?_ ?_; (focus (simp [zau, zax])); (focus rfl); (focus (first | rfl | (simp; done) | (simp [*]; done) | (simp; rfl) | (simp [*]; omega) | (simp; omega))); (focus (first | rfl | simp)))
          | false =>
            (repeat (first | (with_reducible apply zan; (focus ((conv => lhs; simp [ev1, wantG, spineK, spine, float, xnew, xval, xeff, zaa, zab, zal, zad, zae, addFl, cellsOf, pickC, alive, slLen, slFt, binI, maxA, maxK, minA, minK, aeqK, aeqS, AV.cells,  spA, zac, fillA, setAt, bitsI, nat_nn, zar, AV.plain, apart, Nat.testBit_eq_decide_div_mod_eq, *]) <;> exact rfl)); simp only [addFl]) | ((with_reducible first | refine zao ?_ | refine zaq ?_ | refine zak ?_ | refine zai ?_ | refine zag ?_ | refine zap ?_ | refine zaj ?_ | refine zas ?_ | (apply zah; (focus (simp [zaa, *]; done))) | (with_reducible apply zaf; (focus (simp [zaa, *]; done)))); try simp only [Then, Ops, OutB]) | simp only [Nat.reduceEqDiff, reduceIte, OutB, Then]))
            refine ⟨K ++ [.cells [.int .i64 0, .int .i64 0]], ?_⟩
            (refine st_is ?_ ?_ ?_ ?_; (focus (simp [zau, zax])); (focus rfl); (focus (first | rfl | (simp; done) | (simp [*]; done) | (simp; rfl) | (simp [*]; omega) | (simp; omega))); (focus (first | rfl | simp)))
        | false =>
          simp only [hb, Bool.false_eq_true, if_false] at hbit
          simp at hbit
          cases d with
          | true =>
            (repeat (first | (with_reducible apply zan; (focus ((conv => lhs; simp [ev1, wantG, spineK, spine, float, xnew, xval, xeff, zaa, zab, zal, zad, zae, addFl, cellsOf, pickC, alive, slLen, slFt, binI, maxA, maxK, minA, minK, aeqK, aeqS, AV.cells,  spA, zac, fillA, setAt, bitsI, nat_nn, zar, AV.plain, apart, Nat.testBit_eq_decide_div_mod_eq, *]) <;> exact rfl)); simp only [addFl]) | ((with_reducible first | refine zao ?_ | refine zaq ?_ | refine zak ?_ | refine zai ?_ | refine zag ?_ | refine zap ?_ | refine zaj ?_ | refine zas ?_ | (apply zah; (focus (simp [zaa, *]; done))) | (with_reducible apply zaf; (focus (simp [zaa, *]; done)))); try simp only [Then, Ops, OutB]) | simp only [Nat.reduceEqDiff, reduceIte, OutB, Then]))
            refine ⟨K ++ [.cells [.int .i64 0, .int .i64 0]], ?_⟩
            (refine st_is ?_ ?_ ?_ ?_; (focus (simp [zau, zax])); (focus rfl); (focus (first | rfl | (simp; done) | (simp [*]; done) | (simp; rfl) | (simp [*]; omega) | (simp; omega))); (focus (first | rfl | simp)))
          | false =>
            (repeat (first | (with_reducible apply zan; (focus ((conv => lhs; simp [ev1, wantG, spineK, spine, float, xnew, xval, xeff, zaa, zab, zal, zad, zae, addFl, cellsOf, pickC, alive, slLen, slFt, binI, maxA, maxK, minA, minK, aeqK, aeqS, AV.cells,  spA, zac, fillA, setAt, bitsI, nat_nn, zar, AV.plain, apart, Nat.testBit_eq_decide_div_mod_eq, *]) <;> exact rfl)); simp only [addFl]) | ((with_reducible first | refine zao ?_ | refine zaq ?_ | refine zak ?_ | refine zai ?_ | refine zag ?_ | refine zap ?_ | refine zaj ?_ | refine zas ?_ | (apply zah; (focus (simp [zaa, *]; done))) | (with_reducible apply zaf; (focus (simp [zaa, *]; done)))); try simp only [Then, Ops, OutB]) | simp only [Nat.reduceEqDiff, reduceIte, OutB, Then]))
            refine ⟨K ++ [.cells [.int .i64 0, .int .i64 0]], ?_⟩
            (refine st_is ?_ ?_ ?_ ?_; (focus (simp [zau, zax])); (focus rfl); (focus (first | rfl | (simp; done) | (simp [*]; done) | (simp; rfl) | (simp [*]; omega) | (simp; omega))); (focus (first | rfl | simp)))
      · rintro st ⟨K, rfl⟩
        have hp0 : decide (c.piles.length = 0) = false := decide_eq_false (by have := HB.out.2; omega)
        rw [hp0]
        clear HB hp0
        (repeat (first | (with_reducible apply zan; (focus ((conv => lhs; simp [ev1, wantG, spineK, spine, float, xnew, xval, xeff, zaa, zab, zal, zad, zae, addFl, cellsOf, pickC, alive, slLen, slFt, binI, maxA, maxK, minA, minK, aeqK, aeqS, AV.cells,  spA, zac, fillA, setAt, bitsI, nat_nn, zar, AV.plain, apart, Nat.testBit_eq_decide_div_mod_eq, *]) <;> exact rfl)); simp only [addFl]) | ((with_reducible first | refine zao ?_ | refine zaq ?_ | refine zak ?_ | refine zai ?_ | refine zag ?_ | refine zap ?_ | refine zaj ?_ | refine zas ?_ | (apply zah; (focus (simp [zaa, *]; done))) | (with_reducible apply zaf; (focus (simp [zaa, *]; done)))); try simp only [Then, Ops, OutB, reduceIte]) | simp only [Nat.reduceEqDiff, reduceIte, OutB, Then]))
        refine ⟨?_, ?_⟩
        rotate_left
        (refine st_is ?_ ?_ ?_ ?_; (focus (simp [zau, zax])); (focus rfl); (focus (first | rfl | (simp; done) | (simp [*]; done) | (simp; rfl) | (simp [*]; omega) | (simp; omega))); (focus (first | rfl | simp)))
  · rintro st ⟨J, rfl⟩
    clear HA hpk hmp
    generalize Clm.leastTo c s (Clm.manyP c) = z at *
    (repeat (first | (with_reducible apply zan; (focus ((conv => lhs; simp [ev1, wantG, spineK, spine, float, xnew, xval, xeff, zaa, zab, zal, zad, zae, addFl, cellsOf, pickC, alive, slLen, slFt, binI, maxA, maxK, minA, minK, aeqK, aeqS, AV.cells,  spA, zac, fillA, setAt, bitsI, nat_nn, zar, AV.plain, apart, Nat.testBit_eq_decide_div_mod_eq, *]) <;> exact rfl)); simp only [addFl]) | ((with_reducible first | refine zao ?_ | refine zaq ?_ | refine zak ?_ | refine zai ?_ | refine zag ?_ | refine zap ?_ | refine zaj ?_ | refine zas ?_ | (apply zah; (focus (simp [zaa, *]; done))) | (with_reducible apply zaf; (focus (simp [zaa, *]; done)))); try simp only [Then, Ops, OutB, reduceIte]) | simp only [Nat.reduceEqDiff, reduceIte, OutB, Then]))
    exact zat (v := .int .i64 z) (.inl rfl) rfl (by simp) (by simp only [resL, resOf, zam]; simp [resV, *]) ⟨rfl, rfl⟩
end K
end Ev
end Go.Proofs.Ytimgnlellflciaa

/- ClampShare, gone through. -/
namespace Go.Proofs.Ytimgnlellflciaa
open Go
namespace Ev
namespace K
set_option maxRecDepth 100000
set_option maxHeartbeats 4000000
theorem tog_low {c : Clm.Cl} (hc : Clm.Fine c) (hcan : Clm.can c (Clm.every c) = true) (s : Nat) : 0 ≤ (Clm.together c s).lo ∧ (Clm.together c s).lo ≤ 40000 ∧ 0 ≤ (Clm.together c s).hi ∧ (Clm.together c s).hi ≤ 40000 := by
  have hne := Clm.can_packs hcan
  obtain ⟨⟨x, hx, h1⟩, ⟨y, hy, h2⟩⟩ := Clm.hull_at (l := (Clm.packs c (Clm.every c)).map fun k => Clm.sumTo c s k c.piles.length) (by simpa using hne)
  obtain ⟨k1, hk1, rfl⟩ := List.mem_map.1 hx
  obtain ⟨k2, hk2, rfl⟩ := List.mem_map.1 hy
  have e : Clm.together c s = Clm.hull ((Clm.packs c (Clm.every c)).map fun k => Clm.sumTo c s k c.piles.length) := rfl
  have hp := hc.piles
  obtain ⟨q0, q5, _⟩ := Clm.packs_in hc hk1
  obtain ⟨r0, r5, _⟩ := Clm.packs_in hc hk2
  have a := Clm.sumTo_low hc (set := s) q0 q5 c.piles.length (Nat.le_refl _)
  have b := Clm.sumTo_low hc (set := s) r0 r5 c.piles.length (Nat.le_refl _)
  rw [e, h1, h2]
  omega
theorem lshr_walk (C : Cfg) (hC : C.calm = true) (call : CallF) (hA : LApi call) (hZ : SizeC call) (c : Clm.Cl) (hK : Clm.Fine c → LeastC call c) (w1 : Int) (hw1 : 0 ≤ w1 ∧ w1 ≤ 65535) (w : Int) (hw0 : 0 ≤ w ∧ w ≤ 255) (H : List AB) :
    Does (ev C call H.length none af7.body { tm := tmA af7.ntmps (zipI 0 [.agg (clampCs c), .int .u16 w1, .int .u8 w] []), df := [], hp := H, tc := [] })
      (Ends C H.length af7.res fun v _ _ => v = .bool true) := by
  have hl := fun H => hA.long (H := H) c
  have ha := fun H => hA.alive (H := H)
  by_cases hlen : max c.piles.length c.events.length > 40
  · rw [decide_eq_true hlen] at hl
    clear hA hlen hK hw0
    unfold af7
    simp only [zipI, clampCs] at *
    (repeat (first | (with_reducible apply zan; (focus ((conv => lhs; simp [ev1, wantG, spineK, spine, float, xnew, xval, xeff, zaa, zab, zal, zad, zae, addFl, cellsOf, pickC, alive, slLen, slFt, binI, maxA, maxK, minA, minK, aeqK, aeqS, AV.cells,  spA, zac, fillA, setAt, bitsI, nat_nn, zar, AV.plain, apart, Nat.testBit_eq_decide_div_mod_eq, *]) <;> exact rfl)); simp only [addFl]) | ((with_reducible first | refine zao ?_ | refine zaq ?_ | refine zak ?_ | refine zai ?_ | refine zag ?_ | refine zap ?_ | refine zaj ?_ | refine zas ?_ | (apply zah; (focus (simp [zaa, *]; done))) | (with_reducible apply zaf; (focus (simp [zaa, *]; done)))); try simp only [Then, Ops]) | simp only [Nat.reduceEqDiff, reduceIte, OutB, Then]))
    exact zat (v := .bool true) (.inl rfl) rfl (by simp) (by simp only [resL, resOf, zam]; simp [resV, *]) rfl
  rw [decide_eq_false hlen] at hl
  have hcl := fun H => clOf_cl H c (by omega) (by omega)
  have hv := fun H => hA.valid (hcl H)
  cases hval : Clm.valid c with
  | false =>
    rw [hval] at hv
    clear hA hlen hcl hval hK hw0
    unfold af7
    simp only [zipI, clampCs] at *
    (repeat (first | (with_reducible apply zan; (focus ((conv => lhs; simp [ev1, wantG, spineK, spine, float, xnew, xval, xeff, zaa, zab, zal, zad, zae, addFl, cellsOf, pickC, alive, slLen, slFt, binI, maxA, maxK, minA, minK, aeqK, aeqS, AV.cells,  spA, zac, fillA, setAt, bitsI, nat_nn, zar, AV.plain, apart, Nat.testBit_eq_decide_div_mod_eq, *]) <;> exact rfl)); simp only [addFl]) | ((with_reducible first | refine zao ?_ | refine zaq ?_ | refine zak ?_ | refine zai ?_ | refine zag ?_ | refine zap ?_ | refine zaj ?_ | refine zas ?_ | (apply zah; (focus (simp [zaa, *]; done))) | (with_reducible apply zaf; (focus (simp [zaa, *]; done)))); try simp only [Then, Ops]) | simp only [Nat.reduceEqDiff, reduceIte, OutB, Then]))
    exact zat (v := .bool true) (.inl rfl) rfl (by simp) (by simp only [resL, resOf, zam]; simp [resV, *]) rfl
  | true =>
  rw [hval] at hv
  have hc := (Clm.valid_iff c).1 hval
  have hp := hc.piles
  have hk := hK hc
  have hw : IntKind.i64.wrap w = w := zaz (by omega) (by omega)
  have hww : IntKind.i64.wrap w1 = w1 := zaz (by omega) (by omega)
  -- what All tells
  obtain ⟨lo, hi, e, hi0, hi4, hall, hes⟩ : ∃ lo hi e : Int, 0 ≤ hi ∧ hi ≤ 40000 ∧ (∀ H, call (.fn (.func 25) [] []) [.agg (clampCs c)] H = some (.ret (.tup [.agg [.int .i64 lo, .int .i64 hi], .int .i64 e]), H, [])) ∧ ((e = 10 ∧ Clm.can c (Clm.every c) = false) ∨ (e = 0 ∧ Clm.can c (Clm.every c) = true)) := by
    cases hcan : Clm.can c (Clm.every c) with
    | false =>
      have he : errOf c true = 10 := by unfold errOf; rw [hval, hcan]; rfl
      exact ⟨0, 0, 10, by omega, by omega, fun H => by rw [hA.all (hcl H)]; unfold spanR; rw [he]; rfl, .inl ⟨rfl, rfl⟩⟩
    | true =>
      have he : errOf c true = 0 := by unfold errOf; rw [hval, hcan]; rfl
      have hb := tog_low hc hcan (fullP c)
      exact ⟨_, _, 0, hb.2.2.1, hb.2.2.2, fun H => by rw [hA.all (hcl H)]; unfold spanR; rw [he]; rfl, .inr ⟨rfl, rfl⟩⟩
  have hmx : max 0 hi = hi := by omega
  have hwh : IntKind.i64.wrap (hi + 2) = hi + 2 := zaz (by omega) (by omega)
  have hz0 : ¬ (hi + 2 = 0) := by omega
  obtain ⟨sods, hsods, hs0, hs1⟩ : ∃ sods, w1.tmod (hi + 2) = sods ∧ 0 ≤ sods ∧ sods ≤ 50000 := by
    refine ⟨_, rfl, Int.tmod_nonneg _ hw1.1, ?_⟩
    have := Int.tmod_lt_of_pos w1 (show 0 < hi + 2 by omega)
    omega
  by_cases hbig : 20000 < sods
  · clear hA hlen hcl hval hK hw0 hes hw1 hk hp hc
    unfold af7
    simp only [zipI, clampCs] at *
    (repeat (first | (with_reducible apply zan; (focus ((conv => lhs; simp [ev1, wantG, spineK, spine, float, xnew, xval, xeff, zaa, zab, zal, zad, zae, addFl, cellsOf, pickC, alive, slLen, slFt, binI, maxA, maxK, minA, minK, aeqK, aeqS, AV.cells,  spA, zac, fillA, setAt, bitsI, nat_nn, zar, AV.plain, apart, Nat.testBit_eq_decide_div_mod_eq, *]) <;> exact rfl)); simp only [addFl]) | ((with_reducible first | refine zao ?_ | refine zaq ?_ | refine zak ?_ | refine zai ?_ | refine zag ?_ | refine zap ?_ | refine zaj ?_ | refine zas ?_ | (apply zah; (focus (simp [zaa, *]; done))) | (with_reducible apply zaf; (focus (simp [zaa, *]; done)))); try simp only [Then, Ops]) | simp only [Nat.reduceEqDiff, reduceIte, OutB, Then]))
    exact zat (v := .bool true) (.inl rfl) rfl (by simp) (by simp only [resL, resOf, zam]; simp [resV, *]) rfl
  have hsh : ∀ H, call (.fn (.func 15) [] []) [.agg (clampCs c), .int .i64 sods] H = some (.ret (shareR c sods), H, []) := fun H => hA.share (hcl H) sods
  have hS : isS sods = true := decide_eq_true ⟨hs0, by omega⟩
  rcases hes with ⟨rfl, hcan⟩ | ⟨rfl, hcan⟩
  · have he : errOf c (isS sods) = 10 := by rw [hS]; unfold errOf; rw [hval, hcan]; rfl
    have hsh' : ∀ H, call (.fn (.func 15) [] []) [.agg (clampCs c), .int .i64 sods] H = some (.ret (.tup [.int .i64 0, .int .i64 10]), H, []) := fun H => by
      rw [hsh H]; unfold shareR shareV shareE; rw [he]; rfl
    clear hA hlen hcl hval hK hw0 hw1 hk hp hc hsh hS hcan he
    unfold af7
    simp only [zipI, clampCs] at *
    (repeat (first | (with_reducible apply zan; (focus ((conv => lhs; simp [ev1, wantG, spineK, spine, float, xnew, xval, xeff, zaa, zab, zal, zad, zae, addFl, cellsOf, pickC, alive, slLen, slFt, binI, maxA, maxK, minA, minK, aeqK, aeqS, AV.cells,  spA, zac, fillA, setAt, bitsI, nat_nn, zar, AV.plain, apart, Nat.testBit_eq_decide_div_mod_eq, *]) <;> exact rfl)); simp only [addFl]) | ((with_reducible first | refine zao ?_ | refine zaq ?_ | refine zak ?_ | refine zai ?_ | refine zag ?_ | refine zap ?_ | refine zaj ?_ | refine zas ?_ | (apply zah; (focus (simp [zaa, *]; done))) | (with_reducible apply zaf; (focus (simp [zaa, *]; done)))); try simp only [Then, Ops]) | simp only [Nat.reduceEqDiff, reduceIte, OutB, Then]))
    exact zat (v := .bool true) (.inl rfl) rfl (by simp) (by simp only [resL, resOf, zam]; simp [resV, *]) rfl
  have he : errOf c (isS sods) = 0 := by rw [hS]; unfold errOf; rw [hval, hcan]; rfl
  have hk' : ∀ (T : List AB) (s : Nat), call (.fn (.func 30) [] [.ptr H.length 0]) [.int .i64 s] (H ++ .cells [.vs 6 (c.piles.map pileE), .int .i64 c.pack.lo, .int .i64 c.pack.hi, .vs 4 (c.events.map evtE)] :: T) = some (.ret (.int .i64 (Clm.together c s).lo), H ++ .cells [.vs 6 (c.piles.map pileE), .int .i64 c.pack.lo, .int .i64 c.pack.hi, .vs 4 (c.events.map evtE)] :: T, []) := fun T s => by
    rw [hk (H ++ .cells [.vs 6 (c.piles.map pileE), .int .i64 c.pack.lo, .int .i64 c.pack.hi, .vs 4 (c.events.map evtE)] :: T) H.length s (by simp [clampCs]), Clm.least_tog hc hcan]
  obtain ⟨s1, s2, s3⟩ := shl_i64 (d := c.piles.length) (by omega)
  have hP : 0 < 2 ^ c.piles.length := Nat.pow_pos (by decide)
  have hP2 : 2 ^ c.piles.length ≤ 2 ^ 4 := Nat.pow_le_pow_right (by decide) hp.2
  have hk1 : ∀ T, call (.fn (.func 30) [] [.ptr H.length 0]) [.int .i64 (((2 ^ c.piles.length : Nat) : Int) - 1)] (H ++ .cells [.vs 6 (c.piles.map pileE), .int .i64 c.pack.lo, .int .i64 c.pack.hi, .vs 4 (c.events.map evtE)] :: T) = some (.ret (.int .i64 (Clm.together c (2 ^ c.piles.length - 1)).lo), H ++ .cells [.vs 6 (c.piles.map pileE), .int .i64 c.pack.lo, .int .i64 c.pack.hi, .vs 4 (c.events.map evtE)] :: T, []) := fun T => by
    rw [← hk' T (2 ^ c.piles.length - 1), show ((2 ^ c.piles.length - 1 : Nat) : Int) = ((2 ^ c.piles.length : Nat) : Int) - 1 by omega]
  have hwP : IntKind.i64.wrap (((2 ^ c.piles.length : Nat) : Int) - 1) = ((2 ^ c.piles.length : Nat) : Int) - 1 := zaz (by omega) (by omega)
  cases hF : shareF c sods with
  | none =>
    have hsh' : ∀ H, call (.fn (.func 15) [] []) [.agg (clampCs c), .int .i64 sods] H = some (.ret (.tup [.int .i64 0, .int .i64 4]), H, []) := fun H => by
      rw [hsh H]; unfold shareR shareV shareE; rw [he, hF]; rfl
    have hno : ¬ (sods ≤ (Clm.together c (2 ^ c.piles.length - 1)).lo) := by have := Clm.share_none hc hF; omega
    clear hA hlen hcl hval hK hw0 hw1 hk hp hc hsh hS hcan he hk' hF hP hP2
    generalize (Clm.together c (2 ^ c.piles.length - 1)).lo = tl at *
    generalize 2 ^ c.piles.length = P at *
    unfold af7
    simp only [zipI, clampCs] at *
    (repeat (first | (with_reducible apply zan; (focus ((conv => lhs; simp [ev1, wantG, spineK, spine, float, xnew, xval, xeff, zaa, zab, zal, zad, zae, addFl, cellsOf, pickC, alive, slLen, slFt, binI, maxA, maxK, minA, minK, aeqK, aeqS, AV.cells,  spA, zac, fillA, setAt, bitsI, nat_nn, zar, AV.plain, apart, Nat.testBit_eq_decide_div_mod_eq, *]) <;> exact rfl)); simp only [addFl]) | ((with_reducible first | refine zao ?_ | refine zaq ?_ | refine zak ?_ | refine zai ?_ | refine zag ?_ | refine zap ?_ | refine zaj ?_ | refine zas ?_ | (apply zah; (focus (simp [zaa, *]; done))) | (with_reducible apply zaf; (focus (simp [zaa, *]; done)))); try simp only [Then, Ops]) | simp only [Nat.reduceEqDiff, reduceIte, OutB, Then]))
    exact zat (v := .bool true) (.inl rfl) rfl (by simp) (by simp only [resL, resOf, zam]; simp [resV, *]) rfl
  | some S =>
    have hsh' : ∀ H, call (.fn (.func 15) [] []) [.agg (clampCs c), .int .i64 sods] H = some (.ret (.tup [.int .i64 S, .int .i64 0]), H, []) := fun H => by
      rw [hsh H]; unfold shareR shareV shareE; rw [he, hF]; rfl
    obtain ⟨l1, l2, l3, l4⟩ := Clm.share_law hc hF
    have hyes : sods ≤ (Clm.together c (2 ^ c.piles.length - 1)).lo := by
      have := (Clm.all_law hc hcan).most S
      unfold Clm.fullC at this; omega
    have hk2 := fun T => hk' T S
    have n1 : ¬ (((2 ^ c.piles.length : Nat) : Int) - 1 < (S : Int)) := by omega
    have n2 : ¬ ((Clm.together c S).lo < sods) := by omega
    obtain ⟨o, o1, o2, o3⟩ := and_own w (2 ^ c.piles.length - 1) (by omega)
    rw [show ((2 ^ c.piles.length - 1 : Nat) : Int) = ((2 ^ c.piles.length : Nat) : Int) - 1 by omega] at o3
    have ol : o < 2 ^ c.piles.length := by
      have : o ≤ 2 ^ c.piles.length - 1 := by rw [← o2]; exact Nat.and_le_right
      omega
    have oc := l4 o ol
    have hz1 := fun H => hZ H S (by omega)
    have hz2 := fun H => hZ H o (by omega)
    have HY := hideP (And.intro l3 (And.intro oc (And.intro hk' (And.intro hz1 (And.intro hz2 (And.intro (show S < 64 by omega) hp))))))
    clear hA hlen hcl hval hK hw0 hw1 hk hp hc hsh hS hcan he hk' hF hP hP2 l1 l2 l3 l4 oc hz1 hz2 o1 o2 ol hZ
    generalize (Clm.together c (2 ^ c.piles.length - 1)).lo = tl at *
    generalize 2 ^ c.piles.length = P at *
    simp at o3
    unfold af7
    simp only [zipI, clampCs] at *
    (repeat (first | (with_reducible apply zan; (focus ((conv => lhs; simp [ev1, wantG, spineK, spine, float, xnew, xval, xeff, zaa, zab, zal, zad, zae, addFl, cellsOf, pickC, alive, slLen, slFt, binI, maxA, maxK, minA, minK, aeqK, aeqS, AV.cells,  spA, zac, fillA, setAt, bitsI, nat_nn, zar, AV.plain, apart, Nat.testBit_eq_decide_div_mod_eq, *]) <;> exact rfl)); simp only [addFl]) | ((with_reducible first | refine zao ?_ | refine zaq ?_ | refine zak ?_ | refine zai ?_ | refine zag ?_ | refine zap ?_ | refine zaj ?_ | refine zas ?_ | (apply zah; (focus (simp [zaa, *]; done))) | (with_reducible apply zaf; (focus (simp [zaa, *]; done)))); try simp only [Then, Ops]) | simp only [Nat.reduceEqDiff, reduceIte, OutB, Then]))
    with_reducible refine zbg hC c.piles.length (by have := HY.out.2.2.2.2.2.2; unfold fuelL; omega) (fun i st => st = { tm := tmA 162 [(108, .int .i64 i), (107, .int .i64 c.piles.length), (14, .fn (.func 31) [] []), (13, .int .i64 (P - 1)), (12, .fn (.func 30) [] [.ptr H.length 0]), (10, .int .i64 S), (9, .int .i64 sods), (2, .int .u8 w)], df := [], hp := H ++ [.cells [.vs 6 (c.piles.map pileE), .int .i64 c.pack.lo, .int .i64 c.pack.hi, .vs 4 (c.events.map evtE)], .cells [.int .i64 lo, .int .i64 hi]], tc := [] }) ?_ ?_ ?_
    · (refine st_is ?_ ?_ ?_ ?_; (focus (simp [zau, zax])); (focus rfl); (focus (first | rfl | (simp; done) | (simp [*]; done) | (simp; rfl) | (simp [*]; omega) | (simp; omega))); (focus (first | rfl | simp)))
    · rintro i st hi rfl
      obtain ⟨l3, oc, hk', hz1, hz2, hS64, hp⟩ := HY.out
      have hwi : IntKind.i64.wrap (↑i + 1) = ↑i + 1 := zaz (by omega) (by omega)
      have hbit := bit_i64 (n := S) (d := i) (by omega)
      obtain ⟨s1, s2, s3⟩ := shl_i64 (d := i) (by omega)
      clear hall hsh' hk1 hk2 o3 hl hv ha
      cases hb : S.testBit i with
      | true =>
        have han := andnot_bit S hS64 i (by omega) hb
        have hk3 := fun T => hk' T (S - 2 ^ i)
        have hd := l3 i hi hb
        have hd' : ¬ (sods ≤ (Clm.together c (S - 2 ^ i)).lo) := by omega
        rw [hb] at hbit
        generalize S - 2 ^ i = R at *
        generalize 2 ^ i = P at s1 s2 s3 han
        simp at hbit han
        clear l3 oc hk' hz1 hz2 hS64 hb HY hd hp
        (repeat (first | (with_reducible apply zan; (focus ((conv => lhs; simp [ev1, wantG, spineK, spine, float, xnew, xval, xeff, zaa, zab, zal, zad, zae, addFl, cellsOf, pickC, alive, slLen, slFt, binI, maxA, maxK, minA, minK, aeqK, aeqS, AV.cells,  spA, zac, fillA, setAt, bitsI, nat_nn, zar, AV.plain, apart, Nat.testBit_eq_decide_div_mod_eq, *]) <;> exact rfl)); simp only [addFl]) | ((with_reducible first | refine zao ?_ | refine zaq ?_ | refine zak ?_ | refine zai ?_ | refine zag ?_ | refine zap ?_ | refine zaj ?_ | refine zas ?_ | (apply zah; (focus (simp [zaa, *]; done))) | (with_reducible apply zaf; (focus (simp [zaa, *]; done)))); try simp only [Then, Ops, OutB]) | simp only [Nat.reduceEqDiff, reduceIte, OutB, Then]))
        (refine st_is ?_ ?_ ?_ ?_; (focus (simp [zau, zax])); (focus rfl); (focus (first | rfl | (simp; done) | (simp [*]; done) | (simp; rfl) | (simp [*]; omega) | (simp; omega))); (focus (first | rfl | simp)))
      | false =>
        rw [hb] at hbit
        simp at hbit
        clear l3 oc hk' hz1 hz2 hS64 hb HY s1 s2 s3 hp
        (repeat (first | (with_reducible apply zan; (focus ((conv => lhs; simp [ev1, wantG, spineK, spine, float, xnew, xval, xeff, zaa, zab, zal, zad, zae, addFl, cellsOf, pickC, alive, slLen, slFt, binI, maxA, maxK, minA, minK, aeqK, aeqS, AV.cells,  spA, zac, fillA, setAt, bitsI, nat_nn, zar, AV.plain, apart, Nat.testBit_eq_decide_div_mod_eq, *]) <;> exact rfl)); simp only [addFl]) | ((with_reducible first | refine zao ?_ | refine zaq ?_ | refine zak ?_ | refine zai ?_ | refine zag ?_ | refine zap ?_ | refine zaj ?_ | refine zas ?_ | (apply zah; (focus (simp [zaa, *]; done))) | (with_reducible apply zaf; (focus (simp [zaa, *]; done)))); try simp only [Then, Ops, OutB]) | simp only [Nat.reduceEqDiff, reduceIte, OutB, Then]))
        (refine st_is ?_ ?_ ?_ ?_; (focus (simp [zau, zax])); (focus rfl); (focus (first | rfl | (simp; done) | (simp [*]; done) | (simp; rfl) | (simp [*]; omega) | (simp; omega))); (focus (first | rfl | simp)))
    · rintro st rfl
      obtain ⟨l3, oc, hk', hz1, hz2, hS64, hp⟩ := HY.out
      have hk3 := fun T => hk' T o
      clear l3 hk' hS64 hk1 hk2 HY hall hsh' hl hv hp
      by_cases hco : (Clm.together c o).lo < sods
      · clear oc hz1 hz2
        (repeat (first | (with_reducible apply zan; (focus ((conv => lhs; simp [ev1, wantG, spineK, spine, float, xnew, xval, xeff, zaa, zab, zal, zad, zae, addFl, cellsOf, pickC, alive, slLen, slFt, binI, maxA, maxK, minA, minK, aeqK, aeqS, AV.cells,  spA, zac, fillA, setAt, bitsI, nat_nn, zar, AV.plain, apart, Nat.testBit_eq_decide_div_mod_eq, *]) <;> exact rfl)); simp only [addFl]) | ((with_reducible first | refine zao ?_ | refine zaq ?_ | refine zak ?_ | refine zai ?_ | refine zag ?_ | refine zap ?_ | refine zaj ?_ | refine zas ?_ | (apply zah; (focus (simp [zaa, *]; done))) | (with_reducible apply zaf; (focus (simp [zaa, *]; done)))); try simp only [Then, Ops, OutB, reduceIte]) | simp only [Nat.reduceEqDiff, reduceIte, OutB, Then]))
        exact zat (v := .bool true) (.inl rfl) rfl (by simp) (by simp only [resL, resOf, zam]; simp [resV, *]) rfl
      · rcases oc (by omega) with g1 | ⟨g1, g2⟩
        · clear oc
          (repeat (first | (with_reducible apply zan; (focus ((conv => lhs; simp [ev1, wantG, spineK, spine, float, xnew, xval, xeff, zaa, zab, zal, zad, zae, addFl, cellsOf, pickC, alive, slLen, slFt, binI, maxA, maxK, minA, minK, aeqK, aeqS, AV.cells,  spA, zac, fillA, setAt, bitsI, nat_nn, zar, AV.plain, apart, Nat.testBit_eq_decide_div_mod_eq, *]) <;> exact rfl)); simp only [addFl]) | ((with_reducible first | refine zao ?_ | refine zaq ?_ | refine zak ?_ | refine zai ?_ | refine zag ?_ | refine zap ?_ | refine zaj ?_ | refine zas ?_ | (apply zah; (focus (simp [zaa, *]; done))) | (with_reducible apply zaf; (focus (simp [zaa, *]; done)))); try simp only [Then, Ops, OutB, reduceIte]) | simp only [Nat.reduceEqDiff, reduceIte, OutB, Then]))
          exact zat (v := .bool true) (.inl rfl) rfl (by simp) (by simp only [resL, resOf, zam]; simp [resV, *]) rfl
        · clear oc
          (repeat (first | (with_reducible apply zan; (focus ((conv => lhs; simp [ev1, wantG, spineK, spine, float, xnew, xval, xeff, zaa, zab, zal, zad, zae, addFl, cellsOf, pickC, alive, slLen, slFt, binI, maxA, maxK, minA, minK, aeqK, aeqS, AV.cells,  spA, zac, fillA, setAt, bitsI, nat_nn, zar, AV.plain, apart, Nat.testBit_eq_decide_div_mod_eq, *]) <;> exact rfl)); simp only [addFl]) | ((with_reducible first | refine zao ?_ | refine zaq ?_ | refine zak ?_ | refine zai ?_ | refine zag ?_ | refine zap ?_ | refine zaj ?_ | refine zas ?_ | (apply zah; (focus (simp [zaa, *]; done))) | (with_reducible apply zaf; (focus (simp [zaa, *]; done)))); try simp only [Then, Ops, OutB, reduceIte]) | simp only [Nat.reduceEqDiff, reduceIte, OutB, Then]))
          exact zat (v := .bool true) (.inl rfl) rfl (by simp) (by simp only [resL, resOf, zam]; simp [resV, *]) rfl
end K
end Ev
end Go.Proofs.Ytimgnlellflciaa

/- The code of functions of the laws is that of the program. Printed by program. -/
namespace Go.Proofs.Ytimgnlellflciaa
open Go Go.Proofs
namespace Ev
set_option maxRecDepth 1000000
theorem is7 : ∃ F, Try.prog.funcs[7]? = some F ∧ (F.name == "runtime.NumGoroutine") = false ∧ compFn Try.prog F = some af7.strip := ⟨_, Try.func7, by kernel_rfl, by kernel_rfl⟩
theorem is30 : ∃ F, Try.prog.funcs[30]? = some F ∧ (F.name == "runtime.NumGoroutine") = false ∧ compFn Try.prog F = some af30.strip := ⟨_, Try.func30, by kernel_rfl, by kernel_rfl⟩
end Ev
end Go.Proofs.Ytimgnlellflciaa

/- The code of functions of the laws is that of the program. Printed by program. -/
namespace Go.Proofs.Ytimgnlellflciaa
open Go Go.Proofs
namespace Ev
set_option maxRecDepth 1000000
theorem is31 : ∃ F, Try.prog.funcs[31]? = some F ∧ (F.name == "runtime.NumGoroutine") = false ∧ compFn Try.prog F = some af31.strip := ⟨_, Try.func31, by kernel_rfl, by kernel_rfl⟩
end Ev
end Go.Proofs.Ytimgnlellflciaa

/- The functions that the law ClampShare goes through itself. Printed by program. -/
namespace Go.Proofs.Ytimgnlellflciaa
open Go Go.Proofs
namespace Ev
def treeClampShare : FT := (.node 21 af21 (.node 20 af20 (.node 7 af7 .leaf .leaf) .leaf) (.node 31 af31 (.node 30 af30 .leaf .leaf) .leaf))
theorem treeClampShare_is : FT.All (fun k af => ∃ F, Try.prog.funcs[k]? = some F ∧ (F.name == "runtime.NumGoroutine") = false ∧ compFn Try.prog F = some af.strip) treeClampShare :=
  ⟨is21, ⟨is20, ⟨is7, trivial, trivial⟩, trivial⟩, ⟨is31, ⟨is30, trivial, trivial⟩, trivial⟩⟩
end Ev
end Go.Proofs.Ytimgnlellflciaa

/- The Go function ClampShare returns true, for every argument, in every world in which it is called; nothing that was there is turned. No condition. -/
namespace Go.Proofs.Ytimgnlellflciaa
open Go Go.Proofs Go.ChangeShapes Go.WideShapes Go.ChangeAt Go.RowKit
namespace Ev
namespace K
theorem lawClampShare (W : World) (c : Clm.Cl) {v0 : Value} (hv0 : VR W (fun _ => False) nomu (.agg (clampCs c)) v0) (x1 : Int) (b1 : (Lit.int .u16 x1).wf = true) {v1 : Value} (hv1 : VR W (fun _ => False) nomu (.int .u16 x1) v1) (x2 : Int) (b2 : (Lit.int .u8 x2).wf = true) {v2 : Value} (hv2 : VR W (fun _ => False) nomu (.int .u8 x2) v2) : CallsIn Fence.wide 0 Try.prog 7 #[v0, v1, v2] W fun e W' => e = .returned (.bool true) ∧ Below W.heap.size W W' := by
  have hz : ∀ {f : Nat} {af : AFunc}, (cfgL treeClampShare).exth f = none → FT.find treeClampShare f = some af → Has (cfgL treeClampShare) f af := fun h1 h2 => has_of rfl h1 h2 rfl
  have la := fun n => lapi (t := treeClampShare) (hz rfl (by kernel_rfl)) (hz rfl (by kernel_rfl)) n
  have k : Has (cfgL treeClampShare) 7 af7 := hz rfl (by kernel_rfl)
  obtain ⟨v, hp, tc, H', h1, h2, _⟩ := zcl (C := cfgL treeClampShare) (n := 4) (first := []) (captured := []) (args := [.agg (clampCs c), .int .u16 x1, .int .u8 x2]) (H := []) (Q := fun v _ _ => v = .bool true) rfl k.ext k.exth k.fns k.whole (le' rfl) (lshr_walk (cfgL treeClampShare) rfl _ (la 3) (fun H s hs => zbe rfl (hz rfl (by kernel_rfl)) (le' rfl) rfl (size_fun (cfgL treeClampShare) rfl _ s hs H)) c (fun hc H b s hb => zbe (captured := [.ptr b 0]) rfl (hz rfl (by kernel_rfl)) (le' rfl) rfl (least_fun (cfgL treeClampShare) rfl _ (la 2) c hc H b s hb)) x1 (bounds_u16 b1) x2 (bounds_u8 b2) [])
  subst h2
  refine (told_bare (tblL treeClampShare_is) h1 trivial (zeh _ _ _) (rargs := #[v0, v1, v2]) ⟨rfl, fun i y r hy hr => ?_⟩).mono ?_
  · match i, hy, hr with
    | 0, hy, hr => cases hy; cases hr; exact hv0
    | 1, hy, hr => cases hy; cases hr; exact hv1
    | 2, hy, hr => cases hy; cases hr; exact hv2
    | i + 3, hy, hr => simp at hy
  · rintro e W' ⟨⟨w, rfl, hw⟩, bel⟩
    exact ⟨by rw [bool_of hw W], bel⟩
end K
end Ev
set_option maxRecDepth 100000 in
theorem clampShare_lifted (os : Os) (started : os.Started) (H : Type) (enc : TypeId × Value → H) :
    ReturnsInHanded {} Try.checked os 7 .any (Rows.clampShareSpec.pre6 enc Try.prog Try.f7 Rows.clampShareRow.domain false) (Rows.clampShareSpec.post enc Try.prog Try.f7 false true false false) := by
  refine returnsInHanded_of_change (C := Try.checked) own_godebug started (by kernel_rfl) Try.func7
    (ChangeSpec.witness6 (enc := enc) (C := Try.checked) false ⟨#[], #[noClamp, .int .u16 0, .int .u8 0], []⟩ 8 (by kernel_rfl) (by kernel_rfl) (by kernel_rfl) (by kernel_rfl)) ?_
  intro W base args ds gs before hval0 hW hcnd _
  have hval : ∀ (j : Nat) t v, Try.f7.params[j]? = some t → args[j]? = some v → Value.okWide Try.prog W .any base t v := hval0
  have hW' := hW
  obtain ⟨p, q, hA0, hV, rfl, hfz, hnd⟩ := hW
  have hA : DataW.TrodAll enc Try.prog W 0 (fun _ => true) true Try.f7.params.toList args.toList ds p := hA0
  rw [Try.params7] at hA hval
  obtain ⟨v0, vs0, d0, ds0, p0, q0, hargs0, rfl, rfl, h0, hA1⟩ := trodAll_cons hA
  obtain ⟨v1, vs1, d1, ds1, p1, q1, rfl, rfl, rfl, h1, hA2⟩ := trodAll_cons hA1
  obtain ⟨v2, vs2, d2, ds2, p2, q2, rfl, rfl, rfl, h2, hA3⟩ := trodAll_cons hA2
  obtain ⟨rfl, rfl, rfl⟩ := trodAll_nil hA3
  obtain rfl : args = #[v0, v1, v2] := Array.ext' hargs0
  obtain ⟨rfl, rfl, rfl⟩ := trodVars_none hV
  clear hA0 hval0
  obtain ⟨c, hx0⟩ := open_clamp (hval 0 30 v0 rfl rfl) h0
  obtain ⟨x1, rfl, rfl, rfl, wf1⟩ := open_int Try.underlying40 (hval 1 40 v1 rfl rfl) h1
  obtain ⟨x2, rfl, rfl, rfl, wf2⟩ := open_int Try.underlying5 (hval 2 5 v2 rfl rfl) h2
  simp only [List.append_nil] at hW'
  have hlt : ∀ x ∈ (p0 ++ ([] ++ ([] ++ []))), x.block < W.heap.size := fun x hx => by simpa using hW'.lt x (by simpa using hx)
  refine (callsIn_wide.1 (Ev.K.lawClampShare W c hx0 x1 wf1 .int x2 wf2 .int)).mono fun e W' ⟨he, bel⟩ => ?_
  subst he
  refine ⟨_, rfl, _, _, _, [], (p0 ++ ([] ++ ([] ++ []))), [], by simpa using hW', ?_, ?_, ?_, bel.frame _, fun h => by cases h⟩
  · exact trodAll_mk1 (shut_bool Try.underlying4 true)
  · exact trodAll_cons_mk (Below.trod laidOut' (by kernel_rfl) (of_decide_eq_true (by kernel_rfl)) h0 bel (fun x hx => hlt x (by simp [hx]))) (trodAll_cons_mk (shut_int Try.underlying40 wf1) (trodAll_cons_mk (shut_int Try.underlying5 wf2) (trodAll_mk0)))
  · exact rfl
theorem clampShare_holds : Rows.ClampShareSaid :=
  OpenClaim.holds_of_wide 7 Try.f7 rfl rfl rfl rfl rfl rfl rfl ⟨rfl, rfl, rfl, rfl, rfl⟩ rfl rfl rfl rfl rfl (by kernel_rfl) Try.func7 (by kernel_rfl)
    (of_decide_eq_true (by kernel_rfl)) (by unfold Func.isWrapper; first | (rw [if_pos (by decide +kernel)]; kernel_rfl) | (rw [if_neg (by decide +kernel)]; exact ⟨rfl, rfl⟩))
    (fun os started H enc _ => clampShare_lifted os started H enc)
#print axioms clampShare_holds
end Go.Proofs.Ytimgnlellflciaa
