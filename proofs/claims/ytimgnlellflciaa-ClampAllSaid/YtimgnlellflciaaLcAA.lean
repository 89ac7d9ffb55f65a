/- The Go function ClampAll returns true, for every argument, in every world in which it is called; nothing that was there is turned. No condition. -/
import Derived.Test.YtimgnlellflciaaCoPD
import Derived.Test.YtimgnlellflciaaCoPE
import Derived.Test.YtimgnlellflciaaCoEA
import Derived.Test.YtimgnlellflciaaCoPF
import Derived.Test.YtimgnlellflciaaProg
import Derived.KernelRfl
/- The plain law of ClampAll. -/
namespace Go.Proofs.Ytimgnlellflciaa
open Go
namespace Clm
theorem fold_in : ∀ (l : List Sp) (s : Sp), (l.foldl (fun k x => k.either x) s).lo ≤ s.lo ∧ s.hi ≤ (l.foldl (fun k x => k.either x) s).hi ∧ ∀ x ∈ l, (l.foldl (fun k x => k.either x) s).lo ≤ x.lo ∧ x.hi ≤ (l.foldl (fun k x => k.either x) s).hi
  | [], s => ⟨Int.le_refl _, Int.le_refl _, by simp⟩
  | a :: l, s => by
    obtain ⟨h1, h2, h3⟩ := fold_in l (s.either a)
    simp only [List.foldl_cons]
    simp only [Sp.either] at h1 h2
    refine ⟨by simp only [Sp.either] at *; omega, by simp only [Sp.either] at *; omega, fun x hx => ?_⟩
    rcases List.mem_cons.1 hx with rfl | hx
    · simp only [Sp.either] at *; omega
    · exact h3 x hx
theorem fold_at : ∀ (l : List Sp) (s : Sp), ((l.foldl (fun k x => k.either x) s).lo = s.lo ∨ ∃ x ∈ l, (l.foldl (fun k x => k.either x) s).lo = x.lo) ∧ ((l.foldl (fun k x => k.either x) s).hi = s.hi ∨ ∃ x ∈ l, (l.foldl (fun k x => k.either x) s).hi = x.hi)
  | [], s => ⟨.inl rfl, .inl rfl⟩
  | a :: l, s => by
    obtain ⟨h1, h2⟩ := fold_at l (s.either a)
    simp only [List.foldl_cons]
    constructor
    · rcases h1 with h | ⟨x, hx, h⟩
      · by_cases hc : s.lo ≤ a.lo
        · left; rw [h]; simp only [Sp.either]; omega
        · right; exact ⟨a, by simp, by rw [h]; simp only [Sp.either]; omega⟩
      · exact .inr ⟨x, by simp [hx], h⟩
    · rcases h2 with h | ⟨x, hx, h⟩
      · by_cases hc : a.hi ≤ s.hi
        · left; rw [h]; simp only [Sp.either]; omega
        · right; exact ⟨a, by simp, by rw [h]; simp only [Sp.either]; omega⟩
      · exact .inr ⟨x, by simp [hx], h⟩
theorem hull_in {l : List Sp} {x : Sp} (hx : x ∈ l) : (hull l).lo ≤ x.lo ∧ x.hi ≤ (hull l).hi := by
  cases l with
  | nil => cases hx
  | cons a l =>
    obtain ⟨h1, h2, h3⟩ := fold_in l a
    rcases List.mem_cons.1 hx with rfl | hx
    · exact ⟨h1, h2⟩
    · exact h3 x hx
theorem hull_at {l : List Sp} (hl : l ≠ []) : (∃ x ∈ l, (hull l).lo = x.lo) ∧ ∃ x ∈ l, (hull l).hi = x.hi := by
  cases l with
  | nil => exact absurd rfl hl
  | cons a l =>
    obtain ⟨h1, h2⟩ := fold_at l a
    constructor
    · rcases h1 with h | ⟨x, hx, h⟩
      · exact ⟨a, by simp, h⟩
      · exact ⟨x, by simp [hx], h⟩
    · rcases h2 with h | ⟨x, hx, h⟩
      · exact ⟨a, by simp, h⟩
      · exact ⟨x, by simp [hx], h⟩
def hasC (c : Cl) (i : Nat) : Sp := ofAll c i fun _ => leftW c
theorem packs_in {c : Cl} (hc : Fine c) {counts : Nat} {k : Int} (h : k ∈ packs c counts) : 0 ≤ k ∧ k ≤ 5 ∧ c.pack.lo ≤ k ∧ k ≤ c.pack.hi ∧ ∀ i, i < c.piles.length → ways c i k counts ≠ [] := by
  unfold packs at h
  rw [List.mem_filter, mem_span] at h
  have := hc.pack
  simp only [Sp.has] at h
  refine ⟨by omega, by omega, by omega, by omega, fun i hi => ?_⟩
  have h2 := List.all_eq_true.1 h.2 i (by simpa using hi)
  simpa using h2
theorem can_packs {c : Cl} {s : Nat} (h : can c s = true) : packs c s ≠ [] := by
  unfold can at h
  intro e
  rw [e] at h; cases h
theorem low_has {c : Cl} (hc : Fine c) {i : Nat} (hi : i < c.piles.length) : Low (hasC c i) := by
  refine low_hull _ fun x hx => ?_
  obtain ⟨k, hk, rfl⟩ := List.mem_map.1 hx
  obtain ⟨h0, h5, _⟩ := packs_in hc hk
  exact low_left hc hi h0 h5
def sumC (c : Cl) : Nat → Sp
  | 0 => ⟨0, 0⟩
  | n + 1 => ⟨(sumC c n).lo + (hasC c n).lo, (sumC c n).hi + (hasC c n).hi⟩
theorem sumC_low {c : Cl} (hc : Fine c) : ∀ n, n ≤ c.piles.length → 0 ≤ (sumC c n).lo ∧ (sumC c n).lo ≤ 10000 * n ∧ 0 ≤ (sumC c n).hi ∧ (sumC c n).hi ≤ 10000 * n
  | 0, _ => by simp [sumC]
  | n + 1, h => by
    have ih := sumC_low hc n (by omega)
    obtain ⟨a, b, d, e⟩ := low_has hc (i := n) (by omega)
    simp only [sumC]; omega
def fullC (c : Cl) : Nat := 2 ^ c.piles.length - 1
theorem full_bit (c : Cl) {i : Nat} (h : i < c.piles.length) : bit (fullC c) i = true := by
  unfold bit fullC; rw [Nat.testBit_two_pow_sub_one]; simpa using h
theorem sum_full {c : Cl} {k : Int} (hk : k ∈ packs c (every c)) : ∀ n, n ≤ c.piles.length → (sumC c n).lo ≤ (sumTo c (fullC c) k n).lo ∧ (sumTo c (fullC c) k n).hi ≤ (sumC c n).hi
  | 0, _ => ⟨Int.le_refl _, Int.le_refl _⟩
  | n + 1, h => by
    have ih := sum_full hk n (by omega)
    rw [sumTo_succ, if_pos (full_bit c (by omega))]
    have := hull_in (l := (packs c (every c)).map fun k => spanOf c n k (leftW c)) (List.mem_map.2 ⟨k, hk, rfl⟩)
    have e : hasC c n = hull ((packs c (every c)).map fun k => spanOf c n k (leftW c)) := rfl
    simp only [sumC]
    rw [e]
    omega
theorem sum_one {c : Cl} {k : Int} (hk : packs c (every c) = [k]) : ∀ n, n ≤ c.piles.length → sumTo c (fullC c) k n = sumC c n
  | 0, _ => rfl
  | n + 1, h => by
    have ih := sum_one hk n (by omega)
    rw [sumTo_succ, if_pos (full_bit c (by omega)), ih]
    have e : hasC c n = spanOf c n k (leftW c) := by
      show hull ((packs c (every c)).map fun k => spanOf c n k (leftW c)) = _
      rw [hk]; rfl
    simp only [sumC, e]
theorem sum_le {c : Cl} (hc : Fine c) {k : Int} (h0 : 0 ≤ k) (h5 : k ≤ 5) (o : Nat) : ∀ n, n ≤ c.piles.length → (sumTo c o k n).lo ≤ (sumTo c (fullC c) k n).lo
  | 0, _ => Int.le_refl _
  | n + 1, h => by
    have ih := sum_le hc h0 h5 o n (by omega)
    obtain ⟨a, b, d, e⟩ := low_left hc (i := n) (by omega) h0 h5
    rw [sumTo_succ, sumTo_succ, if_pos (full_bit c (by omega))]
    split
    · simp only; omega
    · simp only; omega
theorem sum_ord {c : Cl} (hc : Fine c) {k : Int} (hk : k ∈ packs c (every c)) (o : Nat) : ∀ n, n ≤ c.piles.length → (sumTo c o k n).lo ≤ (sumTo c o k n).hi
  | 0, _ => Int.le_refl _
  | n + 1, h => by
    have ih := sum_ord hc hk o n (by omega)
    obtain ⟨h0, h5, _, _, hw⟩ := packs_in hc hk
    have hl := (left_hull hc (i := n) (by omega) h0 (hw n (by omega))).le
    rw [sumTo_succ]
    split
    · simp only; omega
    · exact ih
structure AllLaw (c : Cl) : Prop where
  ord : (together c (fullC c)).lo ≤ (together c (fullC c)).hi
  lo : (sumC c c.piles.length).lo ≤ (together c (fullC c)).lo
  hi : (together c (fullC c)).hi ≤ (sumC c c.piles.length).hi
  one : c.pack.lo = c.pack.hi → together c (fullC c) = sumC c c.piles.length
  nn : 0 ≤ (together c (fullC c)).lo
  le : (together c (fullC c)).lo ≤ 20000
  most : ∀ o, (together c o).lo ≤ (together c (fullC c)).lo
theorem ends_le : ∀ (l : List Bf) (s : Sp), s.lo ≤ s.hi → (∀ e ∈ l, e.fine) → 0 ≤ s.lo → (ends l s).some = true → (ends l s).hi ≤ s.hi
  | [], s, _, _, _, _ => Int.le_refl _
  | e :: l, s, hs, hf, h0, hso => by
    simp only [ends, List.foldl_cons] at hso ⊢
    have he := hf e (by simp)
    by_cases hc : (e.after s).lo ≤ (e.after s).hi
    · have ih := ends_le l (e.after s) hc (fun e h => hf e (by simp [h])) (zkl e s h0) hso
      simp only [ends] at ih
      have : (e.after s).hi ≤ s.hi := by
        cases e with
        | nil => exact Int.le_refl _
        | sale t =>
          simp only [Bf.fine] at he
          unfold Bf.after at hc ⊢
          simp only at hc ⊢
          split
          · rename_i hh; rw [if_pos hh] at hc; simp only [Sp.no] at hc; omega
          · simp only; omega
        | count t =>
          unfold Bf.after Sp.both at hc ⊢
          simp only at hc ⊢
          split
          · rename_i hh; rw [if_pos hh] at hc; simp only [Sp.no] at hc; omega
          · simp only; omega
      omega
    · exfalso
      have hn : ∀ (l : List Bf) (t : Sp), (∀ e ∈ l, e.fine) → 0 ≤ t.lo → t.hi < t.lo → (ends l t).some = false := by
        intro l
        induction l with
        | nil => intro t _ _ h; show decide (t.lo ≤ t.hi) = false; exact decide_eq_false (by omega)
        | cons e l ih =>
          intro t hf h0 h
          simp only [ends, List.foldl_cons]
          refine ih (e.after t) (fun e h => hf e (by simp [h])) (zkl e t h0) ?_
          cases e with
          | nil => exact h
          | sale u =>
            unfold Bf.after
            simp only
            rw [if_pos (.inl (by unfold Sp.some; simp; omega))]
            decide
          | count u =>
            unfold Bf.after Sp.both
            simp only
            split
            · decide
            · rename_i hh; simp only; omega
      have := hn l (e.after s) (fun e h => hf e (by simp [h])) (zkl e s h0) (by omega)
      simp only [ends] at this
      rw [this] at hso; cases hso
theorem left_5000 {c : Cl} (hc : Fine c) {i : Nat} (hi : i < c.piles.length) {k : Int} (h0 : 0 ≤ k) (h5 : k ≤ 5) (hne : ways c i k (every c) ≠ []) : (spanOf c i k (leftW c)).hi ≤ 5000 := by
  obtain ⟨_, x, hx, hh⟩ := hull_at (l := (ways c i k (every c)).map (leftW c)) (by simpa using hne)
  have e : spanOf c i k (leftW c) = hull ((ways c i k (every c)).map (leftW c)) := rfl
  rw [e, hh]
  obtain ⟨w, hw, rfl⟩ := List.mem_map.1 hx
  obtain ⟨h1, h2, y, h3⟩ := (mem_ways hc hi h0 _ w).1 hw
  obtain ⟨s0, s1⟩ := sods_le hc hi h0 h5 h1
  have hf := zfc hc i (every c)
  have e2 : leftW c w = ends (befell c i (every c)) ⟨w.size.sods k, w.size.sods k⟩ := by
    rw [← left_eq]; obtain ⟨a, b⟩ := w; simp only at h2; subst h2; rfl
  rw [e2]
  have := ends_le (befell c i (every c)) ⟨w.size.sods k, w.size.sods k⟩ (Int.le_refl _) hf s0 ((some_has _).2 ⟨y, (ends_one _ _ y hf s0).2 h3⟩)
  simp only at this
  omega
theorem sum_5000 {c : Cl} (hc : Fine c) {k : Int} (hk : k ∈ packs c (every c)) (o : Nat) : ∀ n, n ≤ c.piles.length → (sumTo c o k n).hi ≤ 5000 * n
  | 0, _ => by simp [sumTo]
  | n + 1, h => by
    have ih := sum_5000 hc hk o n (by omega)
    obtain ⟨h0, h5, _, _, hw⟩ := packs_in hc hk
    have hl := left_5000 hc (i := n) (by omega) h0 h5 (hw n (by omega))
    rw [sumTo_succ]
    split
    · simp only; omega
    · omega
theorem all_law {c : Cl} (hc : Fine c) (hcan : can c (every c) = true) : AllLaw c := by
  have hne := can_packs hcan
  have hp := hc.piles
  obtain ⟨⟨x, hx, h1⟩, ⟨y, hy, h2⟩⟩ := hull_at (l := (packs c (every c)).map fun k => sumTo c (fullC c) k c.piles.length) (by simpa using hne)
  obtain ⟨k1, hk1, rfl⟩ := List.mem_map.1 hx
  obtain ⟨k2, hk2, rfl⟩ := List.mem_map.1 hy
  have e : together c (fullC c) = hull ((packs c (every c)).map fun k => sumTo c (fullC c) k c.piles.length) := rfl
  obtain ⟨q0, q5, _⟩ := packs_in hc hk1
  have hin := hull_in (l := (packs c (every c)).map fun k => sumTo c (fullC c) k c.piles.length) (List.mem_map.2 ⟨k1, hk1, rfl⟩)
  have ho := sum_ord hc hk1 (fullC c) c.piles.length (Nat.le_refl _)
  have hlow := sumTo_low hc (set := fullC c) q0 q5 c.piles.length (Nat.le_refl _)
  have h5 := sum_5000 hc hk1 (fullC c) c.piles.length (Nat.le_refl _)
  refine ⟨by rw [e]; omega, ?_, ?_, fun hpk => ?_, ?_, ?_, fun o => ?_⟩
  · rw [e, h1]; exact (sum_full hk1 _ (Nat.le_refl _)).1
  · rw [e, h2]; exact (sum_full hk2 _ (Nat.le_refl _)).2
  · have hall : ∀ k ∈ packs c (every c), k = c.pack.lo := fun k hk => by
      obtain ⟨_, _, a, b, _⟩ := packs_in hc hk; omega
    have hone : packs c (every c) = [c.pack.lo] := by
      have hsp : spanL c.pack = [c.pack.lo] := by
        unfold spanL
        rw [show (c.pack.hi + 1 - c.pack.lo).toNat = 1 by omega]
        simp
      unfold packs at hne ⊢
      rw [hsp] at hne ⊢
      rw [List.filter_cons] at hne ⊢
      split
      · rfl
      · rename_i hh; rw [if_neg hh] at hne; exact absurd rfl hne
    rw [e, hone]
    exact sum_one hone _ (Nat.le_refl _)
  · rw [e, h1]; omega
  · rw [e, h1]; omega
  · have hi2 := hull_in (l := (packs c (every c)).map fun k => sumTo c o k c.piles.length) (List.mem_map.2 ⟨k1, hk1, rfl⟩)
    have e2 : together c o = hull ((packs c (every c)).map fun k => sumTo c o k c.piles.length) := rfl
    have := sum_le hc q0 q5 o c.piles.length (Nat.le_refl _)
    rw [e2, e, h1]; omega
end Clm
end Go.Proofs.Ytimgnlellflciaa

/- The plain law of ClampAll: without events each has what it had. -/
namespace Go.Proofs.Ytimgnlellflciaa
open Go
namespace Clm
def bare (c : Cl) : Cl := { c with events := [] }
theorem bare_fine {c : Cl} (hc : Fine c) : Fine (bare c) := ⟨hc.piles, hc.pack, Nat.zero_le _, hc.pile, fun v hv => (by cases hv)⟩
theorem mono4 {a b d e a' b' d' e' : Int} (h1 : 0 ≤ a) (h2 : a ≤ a') (h3 : 0 ≤ b) (h4 : b ≤ b') (h5 : 0 ≤ d) (h6 : d ≤ d') (h7 : 0 ≤ e) (h8 : e ≤ e') : a * b * d * e ≤ a' * b' * d' * e' := by
  have m1 := Int.mul_le_mul h2 h4 h3 (by omega)
  have n1 := Int.mul_nonneg h1 h3
  have m2 := Int.mul_le_mul m1 h6 h5 (by omega)
  have n2 := Int.mul_nonneg n1 h5
  exact Int.mul_le_mul m2 h8 h7 (by omega)
def prodLo (c : Cl) (i : Nat) : Int := (c.piles.getD i default).long.lo * (c.piles.getD i default).wide.lo * (c.piles.getD i default).high.lo * c.pack.lo
def prodHi (c : Cl) (i : Nat) : Int := (c.piles.getD i default).long.hi * (c.piles.getD i default).wide.hi * (c.piles.getD i default).high.hi * c.pack.hi
theorem bare_befell (c : Cl) (n : Int) (s : Nat) : befell (bare c) n s = [] := rfl
theorem bare_ways {c : Cl} (hc : Fine c) {i : Nat} (hi : i < c.piles.length) {k : Int} (hk : 0 ≤ k) (s : Nat) : ways (bare c) i k s ≠ [] := by
  refine (ways_ne (bare_fine hc) hi hk s).2 ?_
  have h1 := hc.pile _ (pile_mem hi)
  refine ⟨_, _, ⟨(c.piles.getD i default).long.lo, (c.piles.getD i default).wide.lo, (c.piles.getD i default).high.lo⟩, (mem_sizes _ _).2 ?_, rfl, rfl⟩
  simp only [bare, Sp.has]; omega
theorem bare_packs {c : Cl} (hc : Fine c) (s : Nat) (k : Int) : k ∈ packs (bare c) s ↔ c.pack.has k := by
  unfold packs
  rw [List.mem_filter, mem_span]
  constructor
  · exact fun h => h.1
  · intro h
    refine ⟨h, List.all_eq_true.2 fun i hi => ?_⟩
    have hp := hc.pack
    simp only [Sp.has] at h
    simpa using bare_ways hc (i := i) (by simpa [bare] using hi) (k := k) (by omega) s
theorem bare_can {c : Cl} (hc : Fine c) (s : Nat) : can (bare c) s = true := by
  unfold can
  have : c.pack.lo ∈ packs (bare c) s := (bare_packs hc s _).2 (by have := hc.pack; simp only [Sp.has]; omega)
  cases h : packs (bare c) s with
  | nil => rw [h] at this; cases this
  | cons a l => rfl
theorem bare_has {c : Cl} (hc : Fine c) {i : Nat} (hi : i < c.piles.length) : hasC (bare c) i = ⟨prodLo c i, prodHi c i⟩ := by
  have hp := hc.pack
  have hb := bare_fine hc
  have h1 := hc.pile _ (pile_mem hi)
  have hl := zlp (fun k => spanOf (bare c) i k (leftW (bare c))) (fun k y => ∃ n, Poss (bare c) i k (every (bare c)) n y) (packs (bare c) (every (bare c))) (by
    have := bare_can hc (every (bare c)); exact can_packs this) fun k hk => left_hull hb hi (by have := (bare_packs hc _ _).1 hk; simp only [Sp.has] at this; omega) (bare_ways hc hi (by have := (bare_packs hc _ _).1 hk; simp only [Sp.has] at this; omega) _)
  refine hl.uniq ⟨?_, ?_, ?_⟩
  · refine ⟨c.pack.lo, (bare_packs hc _ _).2 (by simp only [Sp.has]; omega), _, ⟨(c.piles.getD i default).long.lo, (c.piles.getD i default).wide.lo, (c.piles.getD i default).high.lo⟩, (mem_sizes _ _).2 ?_, rfl, rfl⟩
    simp only [bare, Sp.has]; omega
  · refine ⟨c.pack.hi, (bare_packs hc _ _).2 (by simp only [Sp.has]; omega), _, ⟨(c.piles.getD i default).long.hi, (c.piles.getD i default).wide.hi, (c.piles.getD i default).high.hi⟩, (mem_sizes _ _).2 ?_, rfl, rfl⟩
    simp only [bare, Sp.has]; omega
  · rintro y ⟨k, hk, n, s, hs, rfl, hg⟩
    have hk := (bare_packs hc _ _).1 hk
    have hs := (mem_sizes _ _).1 hs
    have hg : y = s.sods k := hg
    subst hg
    simp only [bare, Sp.has] at hs hk
    exact ⟨mono4 (by omega) hs.1.1 (by omega) hs.2.1.1 (by omega) hs.2.2.1 (by omega) hk.1, mono4 (by omega) hs.1.2 (by omega) hs.2.1.2 (by omega) hs.2.2.2 (by omega) hk.2⟩
theorem bare_built {c : Cl} (hc : Fine c) {i : Nat} (hi : i < c.piles.length) : ofAll (bare c) i Ev.K.builtG = hasC (bare c) i := by
  have hp := hc.pack
  have e : ∀ k ∈ packs (bare c) (every (bare c)), spanOf (bare c) i k (Ev.K.builtG k) = spanOf (bare c) i k (leftW (bare c)) := by
    intro k hk
    have hk := (bare_packs hc _ _).1 hk
    simp only [Sp.has] at hk
    unfold spanOf
    congr 1
    refine List.map_congr_left fun w hw => ?_
    obtain ⟨h1, h2, _⟩ := (mem_ways (bare_fine hc) (by exact hi) (by omega) _ w).1 hw
    have e2 : leftW (bare c) w = ends (befell (bare c) i (every (bare c))) ⟨w.size.sods k, w.size.sods k⟩ := by
      rw [← left_eq]; obtain ⟨a, b⟩ := w; simp only at h2; subst h2; rfl
    rw [e2]; rfl
  unfold hasC ofAll
  congr 1
  exact List.map_congr_left e
end Clm
end Go.Proofs.Ytimgnlellflciaa

/- The code of functions of the laws, for the evaluator. Printed by program. -/
namespace Go.Proofs.Ytimgnlellflciaa
open Go
namespace Ev
def af6 : AFunc := ⟨214, [(.tmp 2)], (.seq (.ops [⟨0, (some 1), (.box (.tmp 0)), none, 0⟩, ⟨1, (some 2), (.mov (.val (.bool false))), none, 0⟩]) (.seq (.seq (.ops [⟨0, (some 21), (.load (some 4) (.tmp 1)), none, 0⟩, ⟨1, (some 22), (.call (.val (.fn (Fn.func 21) [] [])) [(.tmp 21)]), none, 0⟩, ⟨2, (some 23), (.mov (.tmp 22)), none, 0⟩, ⟨3, (some 24), (.load (some 4) (.tmp 1)), (some (23, false)), 0⟩, ⟨4, (some 25), (.call (.val (.fn (Fn.func 22) [] [])) [(.tmp 24)]), (some (23, false)), 0⟩, ⟨5, (some 26), (.not (.tmp 25)), (some (23, false)), 0⟩, ⟨6, (some 27), (.pick (.tmp 23) (.val (.bool true)) (.tmp 26)), none, 0⟩]) (.cond (.tmp 27) (.seq (.ops [⟨0, (some 28), (.call (.val (.fn (Fn.func 19) [] [])) []), none, 0⟩, ⟨1, (some 2), (.mov (.tmp 28)), none, 0⟩]) .ret) .skip)) (.seq (.ops [⟨0, (some 30), (.load (some 4) (.tmp 1)), none, 0⟩, ⟨1, (some 31), (.call (.val (.fn (Fn.func 25) [] [])) [(.tmp 30)]), none, 0⟩, ⟨2, (some 29), (.mov (.tmp 31)), none, 0⟩, ⟨3, (some 32), (.extract (.tmp 29) 0), none, 0⟩, ⟨4, (some 33), (.extract (.tmp 29) 1), none, 0⟩, ⟨5, (some 3), (.alloc [(.int .i64 0), (.int .i64 0)]), none, 0⟩, ⟨6, none, (.store 2 (.tmp 3) (.tmp 32)), none, 0⟩, ⟨7, (some 4), (.mov (.tmp 33)), none, 0⟩]) (.seq (.ops [⟨0, (some 5), (.mov (.val (.int .i64 0))), none, 0⟩, ⟨1, (some 6), (.mov (.val (.int .i64 0))), none, 0⟩]) (.seq (.seq (.ops [⟨0, (some 34), (.fieldA 0 (.tmp 1)), none, 0⟩, ⟨1, (some 35), (.load none (.tmp 34)), none, 0⟩, ⟨2, (some 36), (.len (.tmp 35)), none, 0⟩, ⟨3, (some 37), (.mov (.val (.int .i64 0))), none, 0⟩]) (.block 0 (.loop [1, 3, 4, 5, 6, 36, 37] (.seq (.ops [⟨0, (some 38), (.bin .lss (.tmp 37) (.tmp 36)), none, 0⟩]) (.seq (.cond (.tmp 38) .skip (.exit 0)) (.seq (.block 1 (.seq (.ops [⟨0, (some 39), (.mov (.tmp 37)), none, 0⟩, ⟨1, (some 7), (.mov (.tmp 39)), none, 0⟩]) (.seq (.ops [⟨0, (some 41), (.load (some 4) (.tmp 1)), none, 0⟩, ⟨1, (some 42), (.mov (.tmp 7)), none, 0⟩, ⟨2, (some 43), (.call (.val (.fn (Fn.func 12) [] [])) [(.tmp 41), (.tmp 42)]), none, 0⟩, ⟨3, (some 40), (.mov (.tmp 43)), none, 0⟩, ⟨4, (some 44), (.extract (.tmp 40) 0), none, 0⟩, ⟨5, (some 45), (.extract (.tmp 40) 1), none, 0⟩, ⟨6, (some 8), (.alloc [(.int .i64 0), (.int .i64 0)]), none, 0⟩, ⟨7, none, (.store 2 (.tmp 8) (.tmp 44)), none, 0⟩, ⟨8, (some 9), (.mov (.tmp 45)), none, 0⟩]) (.seq (.seq (.ops [⟨0, (some 46), (.mov (.tmp 9)), none, 0⟩, ⟨1, (some 47), (.mov (.tmp 4)), none, 0⟩, ⟨2, (some 48), (.bin .neq (.tmp 46) (.tmp 47)), none, 0⟩]) (.cond (.tmp 48) (.seq (.ops [⟨0, (some 2), (.mov (.val (.bool false))), none, 0⟩]) .ret) .skip)) (.draw [⟨0, (some 49), (.mov (.tmp 5)), none, 0⟩, ⟨1, (some 50), (.fieldA 0 (.tmp 8)), none, 0⟩, ⟨2, (some 51), (.load none (.tmp 50)), none, 2⟩, ⟨3, (some 52), (.bin .add (.tmp 49) (.tmp 51)), none, 7⟩, ⟨4, (some 53), (.mov (.tmp 6)), none, 0⟩, ⟨5, (some 54), (.fieldA 1 (.tmp 8)), none, 0⟩, ⟨6, (some 55), (.load none (.tmp 54)), none, 32⟩, ⟨7, (some 56), (.bin .add (.tmp 53) (.tmp 55)), none, 112⟩, ⟨8, (some 5), (.mov (.tmp 52)), none, 15⟩, ⟨9, (some 6), (.mov (.tmp 56)), none, 511⟩]))))) (.ops [⟨0, (some 57), (.bin .add (.tmp 37) (.val (.int .i64 1))), none, 0⟩, ⟨1, (some 37), (.mov (.tmp 57)), none, 0⟩]))))))) (.seq (.seq (.ops [⟨0, (some 58), (.mov (.tmp 4)), none, 0⟩, ⟨1, (some 59), (.bin .neq (.tmp 58) (.val (.int .i64 0))), none, 0⟩]) (.cond (.tmp 59) (.seq (.ops [⟨0, (some 60), (.mov (.tmp 4)), none, 0⟩, ⟨1, (some 61), (.bin .eql (.tmp 60) (.val (.int .i64 10))), none, 0⟩, ⟨2, (some 62), (.mov (.tmp 61)), none, 0⟩, ⟨3, (some 63), (.load (some 2) (.tmp 3)), (some (62, true)), 0⟩, ⟨4, (some 64), (.build [(.int .i64 0), (.int .i64 0)] []), (some (62, true)), 0⟩, ⟨5, (some 65), (.eq (.agg [true, true]) false (.tmp 63) (.tmp 64)), (some (62, true)), 0⟩, ⟨6, (some 66), (.pick (.tmp 62) (.tmp 65) (.val (.bool false))), none, 0⟩, ⟨7, (some 67), (.mov (.tmp 66)), none, 0⟩, ⟨8, (some 68), (.call (.val (.fn (Fn.func 19) [] [])) []), (some (67, true)), 0⟩, ⟨9, (some 69), (.pick (.tmp 67) (.tmp 68) (.val (.bool false))), none, 0⟩, ⟨10, (some 2), (.mov (.tmp 69)), none, 0⟩]) .ret) .skip)) (.seq (.seq (.draw [⟨0, (some 70), (.fieldA 0 (.tmp 3)), none, 0⟩, ⟨1, (some 71), (.load none (.tmp 70)), none, 1⟩, ⟨2, (some 72), (.fieldA 1 (.tmp 3)), none, 0⟩, ⟨3, (some 73), (.load none (.tmp 72)), none, 4⟩, ⟨4, (some 74), (.bin .gtr (.tmp 71) (.tmp 73)), none, 15⟩, ⟨5, (some 75), (.mov (.tmp 74)), none, 31⟩, ⟨6, (some 76), (.fieldA 0 (.tmp 3)), (some (75, false)), 63⟩, ⟨7, (some 77), (.load none (.tmp 76)), (some (75, false)), 127⟩, ⟨8, (some 78), (.mov (.tmp 5)), (some (75, false)), 63⟩, ⟨9, (some 79), (.bin .lss (.tmp 77) (.tmp 78)), (some (75, false)), 511⟩, ⟨10, (some 80), (.pick (.tmp 75) (.val (.bool true)) (.tmp 79)), none, 1023⟩, ⟨11, (some 81), (.mov (.tmp 80)), none, 2047⟩, ⟨12, (some 82), (.fieldA 1 (.tmp 3)), (some (81, false)), 4095⟩, ⟨13, (some 83), (.load none (.tmp 82)), (some (81, false)), 8191⟩, ⟨14, (some 84), (.mov (.tmp 6)), (some (81, false)), 4095⟩, ⟨15, (some 85), (.bin .gtr (.tmp 83) (.tmp 84)), (some (81, false)), 32767⟩, ⟨16, (some 86), (.pick (.tmp 81) (.val (.bool true)) (.tmp 85)), none, 65535⟩, ⟨17, (some 87), (.mov (.tmp 86)), none, 131071⟩, ⟨18, (some 88), (.fieldA 1 (.tmp 1)), (some (87, false)), 262143⟩, ⟨19, (some 89), (.fieldA 0 (.tmp 88)), (some (87, false)), 524287⟩, ⟨20, (some 90), (.load none (.tmp 89)), (some (87, false)), 1048575⟩, ⟨21, (some 91), (.fieldA 1 (.tmp 1)), (some (87, false)), 262143⟩, ⟨22, (some 92), (.fieldA 1 (.tmp 91)), (some (87, false)), 2359295⟩, ⟨23, (some 93), (.load none (.tmp 92)), (some (87, false)), 6553599⟩, ⟨24, (some 94), (.bin .eql (.tmp 90) (.tmp 93)), (some (87, false)), 16777215⟩, ⟨25, (some 95), (.mov (.tmp 94)), (some (87, false)), 33554431⟩, ⟨26, (some 96), (.load (some 2) (.tmp 3)), (some (95, true)), 67108863⟩, ⟨27, (some 97), (.mov (.tmp 5)), (some (95, true)), 67108863⟩, ⟨28, (some 98), (.mov (.tmp 6)), (some (95, true)), 67108863⟩, ⟨29, (some 99), (.call (.val (.fn (Fn.func 20) [] [])) [(.tmp 97), (.tmp 98)]), (some (95, true)), 469762047⟩, ⟨30, (some 100), (.eq (.agg [true, true]) true (.tmp 96) (.tmp 99)), (some (95, true)), 1073741823⟩, ⟨31, (some 101), (.pick (.tmp 95) (.tmp 100) (.val (.bool false))), (some (87, false)), 2147483647⟩, ⟨32, (some 102), (.pick (.tmp 87) (.val (.bool true)) (.tmp 101)), none, 4294967295⟩]) (.cond (.tmp 102) (.seq (.ops [⟨0, (some 2), (.mov (.val (.bool false))), none, 0⟩]) .ret) .skip)) (.seq (.ops [⟨0, (some 104), (.load (some 4) (.tmp 1)), none, 0⟩, ⟨1, (some 105), (.fieldA 0 (.tmp 3)), none, 0⟩, ⟨2, (some 106), (.load none (.tmp 105)), none, 0⟩, ⟨3, (some 107), (.call (.val (.fn (Fn.func 15) [] [])) [(.tmp 104), (.tmp 106)]), none, 0⟩, ⟨4, (some 103), (.mov (.tmp 107)), none, 0⟩, ⟨5, (some 108), (.extract (.tmp 103) 0), none, 0⟩, ⟨6, (some 109), (.extract (.tmp 103) 1), none, 0⟩, ⟨7, (some 10), (.mov (.tmp 108)), none, 0⟩, ⟨8, (some 11), (.mov (.tmp 109)), none, 0⟩]) (.seq (.ops [⟨0, (some 111), (.load (some 4) (.tmp 1)), none, 0⟩, ⟨1, (some 112), (.fieldA 0 (.tmp 3)), none, 0⟩, ⟨2, (some 113), (.load none (.tmp 112)), none, 0⟩, ⟨3, (some 114), (.bin .add (.tmp 113) (.val (.int .i64 1))), none, 0⟩, ⟨4, (some 115), (.call (.val (.fn (Fn.func 15) [] [])) [(.tmp 111), (.tmp 114)]), none, 0⟩, ⟨5, (some 110), (.mov (.tmp 115)), none, 0⟩, ⟨6, (some 116), (.extract (.tmp 110) 0), none, 0⟩, ⟨7, (some 117), (.extract (.tmp 110) 1), none, 0⟩, ⟨8, (some 12), (.mov (.tmp 116)), none, 0⟩, ⟨9, (some 13), (.mov (.tmp 117)), none, 0⟩]) (.seq (.seq (.ops [⟨0, (some 118), (.mov (.tmp 11)), none, 0⟩, ⟨1, (some 119), (.bin .neq (.tmp 118) (.val (.int .i64 0))), none, 0⟩, ⟨2, (some 120), (.mov (.tmp 119)), none, 0⟩, ⟨3, (some 121), (.mov (.tmp 10)), (some (120, false)), 0⟩, ⟨4, (some 122), (.bin .lss (.tmp 121) (.val (.int .i64 0))), (some (120, false)), 0⟩, ⟨5, (some 123), (.pick (.tmp 120) (.val (.bool true)) (.tmp 122)), none, 0⟩, ⟨6, (some 124), (.mov (.tmp 123)), none, 0⟩, ⟨7, (some 125), (.mov (.tmp 10)), (some (124, false)), 0⟩, ⟨8, (some 126), (.fieldA 0 (.tmp 1)), (some (124, false)), 0⟩, ⟨9, (some 127), (.load none (.tmp 126)), (some (124, false)), 0⟩, ⟨10, (some 128), (.len (.tmp 127)), (some (124, false)), 0⟩, ⟨11, (some 129), (.bin .shr (.tmp 125) (.tmp 128)), (some (124, false)), 0⟩, ⟨12, (some 130), (.bin .neq (.tmp 129) (.val (.int .i64 0))), (some (124, false)), 0⟩, ⟨13, (some 131), (.pick (.tmp 124) (.val (.bool true)) (.tmp 130)), none, 0⟩, ⟨14, (some 132), (.mov (.tmp 131)), none, 0⟩, ⟨15, (some 133), (.fieldA 0 (.tmp 3)), (some (132, false)), 0⟩, ⟨16, (some 134), (.load none (.tmp 133)), (some (132, false)), 0⟩, ⟨17, (some 135), (.bin .lss (.tmp 134) (.val (.int .i64 20000))), (some (132, false)), 0⟩, ⟨18, (some 136), (.mov (.tmp 135)), (some (132, false)), 0⟩, ⟨19, (some 137), (.mov (.tmp 13)), (some (136, true)), 0⟩, ⟨20, (some 138), (.bin .neq (.tmp 137) (.val (.int .i64 4))), (some (136, true)), 0⟩, ⟨21, (some 139), (.pick (.tmp 136) (.tmp 138) (.val (.bool false))), (some (132, false)), 0⟩, ⟨22, (some 140), (.pick (.tmp 132) (.val (.bool true)) (.tmp 139)), none, 0⟩]) (.cond (.tmp 140) (.seq (.ops [⟨0, (some 2), (.mov (.val (.bool false))), none, 0⟩]) .ret) .skip)) (.seq (.ops [⟨0, (some 141), (.load (some 4) (.tmp 1)), none, 0⟩, ⟨1, (some 14), (.alloc [.nils, (.int .i64 0), (.int .i64 0), .nils]), none, 0⟩, ⟨2, none, (.store 4 (.tmp 14) (.tmp 141)), none, 0⟩]) (.seq (.ops [⟨0, (some 142), (.fieldA 3 (.tmp 14)), none, 0⟩, ⟨1, none, (.store 1 (.tmp 142) (.val .nils)), none, 0⟩]) (.seq (.seq (.ops [⟨0, (some 143), (.fieldA 0 (.tmp 1)), none, 0⟩, ⟨1, (some 144), (.load none (.tmp 143)), none, 0⟩, ⟨2, (some 145), (.len (.tmp 144)), none, 0⟩, ⟨3, (some 146), (.mov (.val (.int .i64 0))), none, 0⟩]) (.block 2 (.loop [1, 14, 145, 146] (.seq (.ops [⟨0, (some 147), (.bin .lss (.tmp 146) (.tmp 145)), none, 0⟩]) (.seq (.cond (.tmp 147) .skip (.exit 2)) (.seq (.block 3 (.seq (.ops [⟨0, (some 148), (.mov (.tmp 146)), none, 0⟩, ⟨1, (some 15), (.mov (.tmp 148)), none, 0⟩]) (.seq (.ops [⟨0, (some 150), (.load (some 4) (.tmp 14)), none, 0⟩, ⟨1, (some 151), (.mov (.tmp 15)), none, 0⟩, ⟨2, (some 152), (.call (.val (.fn (Fn.func 10) [] [])) [(.tmp 150), (.tmp 151)]), none, 0⟩, ⟨3, (some 149), (.mov (.tmp 152)), none, 0⟩, ⟨4, (some 153), (.extract (.tmp 149) 0), none, 0⟩, ⟨5, (some 154), (.extract (.tmp 149) 1), none, 0⟩, ⟨6, (some 16), (.alloc [(.int .i64 0), (.int .i64 0)]), none, 0⟩, ⟨7, none, (.store 2 (.tmp 16) (.tmp 153)), none, 0⟩, ⟨8, (some 17), (.mov (.tmp 154)), none, 0⟩]) (.seq (.ops [⟨0, (some 156), (.load (some 4) (.tmp 14)), none, 0⟩, ⟨1, (some 157), (.mov (.tmp 15)), none, 0⟩, ⟨2, (some 158), (.call (.val (.fn (Fn.func 12) [] [])) [(.tmp 156), (.tmp 157)]), none, 0⟩, ⟨3, (some 155), (.mov (.tmp 158)), none, 0⟩, ⟨4, (some 159), (.extract (.tmp 155) 0), none, 0⟩, ⟨5, (some 160), (.extract (.tmp 155) 1), none, 0⟩, ⟨6, (some 18), (.alloc [(.int .i64 0), (.int .i64 0)]), none, 0⟩, ⟨7, none, (.store 2 (.tmp 18) (.tmp 159)), none, 0⟩, ⟨8, (some 19), (.mov (.tmp 160)), none, 0⟩]) (.seq (.ops [⟨0, (some 161), (.fieldA 0 (.tmp 1)), none, 0⟩, ⟨1, (some 162), (.load none (.tmp 161)), none, 0⟩, ⟨2, (some 163), (.mov (.tmp 15)), none, 0⟩, ⟨3, (some 164), (.indexA 6 none (.tmp 162) (.tmp 163)), none, 0⟩, ⟨4, (some 165), (.load (some 6) (.tmp 164)), none, 0⟩, ⟨5, (some 20), (.alloc [(.int .i64 0), (.int .i64 0), (.int .i64 0), (.int .i64 0), (.int .i64 0), (.int .i64 0)]), none, 0⟩, ⟨6, none, (.store 6 (.tmp 20) (.tmp 165)), none, 0⟩]) (.seq (.draw [⟨0, (some 166), (.mov (.tmp 17)), none, 0⟩, ⟨1, (some 167), (.bin .neq (.tmp 166) (.val (.int .i64 0))), none, 1⟩, ⟨2, (some 168), (.mov (.tmp 167)), none, 3⟩, ⟨3, (some 169), (.mov (.tmp 19)), (some (168, false)), 7⟩, ⟨4, (some 170), (.bin .neq (.tmp 169) (.val (.int .i64 0))), (some (168, false)), 15⟩, ⟨5, (some 171), (.pick (.tmp 168) (.val (.bool true)) (.tmp 170)), none, 31⟩, ⟨6, (some 172), (.mov (.tmp 171)), none, 63⟩, ⟨7, (some 173), (.load (some 2) (.tmp 16)), (some (172, false)), 127⟩, ⟨8, (some 174), (.load (some 2) (.tmp 18)), (some (172, false)), 127⟩, ⟨9, (some 175), (.eq (.agg [true, true]) true (.tmp 173) (.tmp 174)), (some (172, false)), 511⟩, ⟨10, (some 176), (.pick (.tmp 172) (.val (.bool true)) (.tmp 175)), none, 1023⟩, ⟨11, (some 177), (.mov (.tmp 176)), none, 2047⟩, ⟨12, (some 178), (.load (some 2) (.tmp 16)), (some (177, false)), 4095⟩, ⟨13, (some 179), (.fieldA 0 (.tmp 20)), (some (177, false)), 4095⟩, ⟨14, (some 180), (.fieldA 0 (.tmp 179)), (some (177, false)), 12287⟩, ⟨15, (some 181), (.load none (.tmp 180)), (some (177, false)), 28671⟩, ⟨16, (some 182), (.fieldA 2 (.tmp 20)), (some (177, false)), 4095⟩, ⟨17, (some 183), (.fieldA 0 (.tmp 182)), (some (177, false)), 69631⟩, ⟨18, (some 184), (.load none (.tmp 183)), (some (177, false)), 200703⟩, ⟨19, (some 185), (.bin .mul (.tmp 181) (.tmp 184)), (some (177, false)), 520191⟩, ⟨20, (some 186), (.fieldA 4 (.tmp 20)), (some (177, false)), 4095⟩, ⟨21, (some 187), (.fieldA 0 (.tmp 186)), (some (177, false)), 1052671⟩, ⟨22, (some 188), (.load none (.tmp 187)), (some (177, false)), 3149823⟩, ⟨23, (some 189), (.bin .mul (.tmp 185) (.tmp 188)), (some (177, false)), 8384511⟩, ⟨24, (some 190), (.fieldA 1 (.tmp 1)), (some (177, false)), 4095⟩, ⟨25, (some 191), (.fieldA 0 (.tmp 190)), (some (177, false)), 16781311⟩, ⟨26, (some 192), (.load none (.tmp 191)), (some (177, false)), 50335743⟩, ⟨27, (some 193), (.bin .mul (.tmp 189) (.tmp 192)), (some (177, false)), 134213631⟩, ⟨28, (some 194), (.fieldA 0 (.tmp 20)), (some (177, false)), 4095⟩, ⟨29, (some 195), (.fieldA 1 (.tmp 194)), (some (177, false)), 268439551⟩, ⟨30, (some 196), (.load none (.tmp 195)), (some (177, false)), 805310463⟩, ⟨31, (some 197), (.fieldA 2 (.tmp 20)), (some (177, false)), 4095⟩, ⟨32, (some 198), (.fieldA 1 (.tmp 197)), (some (177, false)), 2147487743⟩, ⟨33, (some 199), (.load none (.tmp 198)), (some (177, false)), 6442455039⟩, ⟨34, (some 200), (.bin .mul (.tmp 196) (.tmp 199)), (some (177, false)), 16911437823⟩, ⟨35, (some 201), (.fieldA 4 (.tmp 20)), (some (177, false)), 4095⟩, ⟨36, (some 202), (.fieldA 1 (.tmp 201)), (some (177, false)), 34359742463⟩, ⟨37, (some 203), (.load none (.tmp 202)), (some (177, false)), 103079219199⟩, ⟨38, (some 204), (.bin .mul (.tmp 200) (.tmp 203)), (some (177, false)), 274609475583⟩, ⟨39, (some 205), (.fieldA 1 (.tmp 1)), (some (177, false)), 4095⟩, ⟨40, (some 206), (.fieldA 1 (.tmp 205)), (some (177, false)), 549755817983⟩, ⟨41, (some 207), (.load none (.tmp 206)), (some (177, false)), 1649267445759⟩, ⟨42, (some 208), (.bin .mul (.tmp 204) (.tmp 207)), (some (177, false)), 4397778079743⟩, ⟨43, (some 209), (.call (.val (.fn (Fn.func 20) [] [])) [(.tmp 193), (.tmp 208)]), (some (177, false)), 8796093018111⟩, ⟨44, (some 210), (.eq (.agg [true, true]) true (.tmp 178) (.tmp 209)), (some (177, false)), 17592186044415⟩, ⟨45, (some 211), (.pick (.tmp 177) (.val (.bool true)) (.tmp 210)), none, 35184372088831⟩]) (.cond (.tmp 211) (.seq (.ops [⟨0, (some 2), (.mov (.val (.bool false))), none, 0⟩]) .ret) .skip))))))) (.ops [⟨0, (some 212), (.bin .add (.tmp 146) (.val (.int .i64 1))), none, 0⟩, ⟨1, (some 146), (.mov (.tmp 212)), none, 0⟩]))))))) (.seq (.ops [⟨0, (some 213), (.call (.val (.fn (Fn.func 19) [] [])) []), none, 0⟩, ⟨1, (some 2), (.mov (.tmp 213)), none, 0⟩]) .ret))))))))))))))⟩
end Ev
end Go.Proofs.Ytimgnlellflciaa

/- ClampAll, gone through. -/
namespace Go.Proofs.Ytimgnlellflciaa
open Go
namespace Ev
namespace K
set_option maxRecDepth 100000
set_option maxHeartbeats 4000000
theorem flall_nil (fl : List (Nat × List Nat)) (d : Nat) : (fl.all fun p => d.testBit p.1 || apart p.2 []) = true := by simp [apart]
theorem prod_in {a b d k : Int} (h1 : 1 ≤ a ∧ a ≤ 10) (h2 : 1 ≤ b ∧ b ≤ 10) (h3 : 1 ≤ d ∧ d ≤ 10) (h4 : 1 ≤ k ∧ k ≤ 5) : IntKind.i64.wrap (a * b) = a * b ∧ IntKind.i64.wrap (a * b * d) = a * b * d ∧ IntKind.i64.wrap (a * b * d * k) = a * b * d * k := by
  obtain ⟨m1, m2⟩ := Clm.zhq (x := a) (y := b) (A := 10) (B := 10) (by omega) h1.2 (by omega) h2.2
  obtain ⟨m3, m4⟩ := Clm.zhq (x := a * b) (y := d) (A := 100) (B := 10) m1 (by omega) (by omega) h3.2
  obtain ⟨m5, m6⟩ := Clm.zhq (x := a * b * d) (y := k) (A := 1000) (B := 5) m3 (by omega) (by omega) h4.2
  exact ⟨zaz (by omega) (by omega), zaz (by omega) (by omega), zaz (by omega) (by omega)⟩
theorem lall_walk (C : Cfg) (hC : C.calm = true) (call : CallF) (hA : LApi call) (c : Clm.Cl) (H : List AB) :
    Does (ev C call H.length none af6.body { tm := tmA af6.ntmps (zipI 0 [.agg (clampCs c)] []), df := [], hp := H, tc := [] })
      (Ends C H.length af6.res fun v _ _ => v = .bool true) := by
  have hl := fun H => hA.long (H := H) c
  have ha := fun H => hA.alive (H := H)
  by_cases hlen : max c.piles.length c.events.length > 40
  · rw [decide_eq_true hlen] at hl
    clear hA hlen
    unfold af6
    simp only [zipI, clampCs] at *
    (repeat (first | (with_reducible apply zan; (focus ((conv => lhs; simp [ev1, wantG, spineK, spine, float, xnew, xval, xeff, zaa, zab, zal, zad, zae, addFl, cellsOf, pickC, alive, slLen, slFt, binI, maxA, maxK, minA, minK, aeqK, aeqS, AV.cells,  spA, zac, fillA, setAt, bitsI, nat_nn, zar, AV.plain, apart, Nat.testBit_eq_decide_div_mod_eq, *]) <;> exact rfl)); simp only [addFl]) | ((with_reducible first | refine zao ?_ | refine zaq ?_ | refine zak ?_ | refine zai ?_ | refine zag ?_ | refine zap ?_ | refine zaj ?_ | refine zas ?_ | (apply zah; (focus (simp [zaa, *]; done))) | (with_reducible apply zaf; (focus (simp [zaa, *]; done)))); try simp only [Then, Ops]) | simp only [Nat.reduceEqDiff, reduceIte, OutB, Then]))
    exact zat (v := .bool true) (.inl rfl) rfl (by simp) (by simp only [resL, resOf, zam]; simp [resV, *]) rfl
  rw [decide_eq_false hlen] at hl
  have hcl := fun H => clOf_cl H c (by omega) (by omega)
  have hv := fun H => hA.valid (hcl H)
  cases hval : Clm.valid c with
  | false =>
    rw [hval] at hv
    clear hA hlen hcl hval
    unfold af6
    simp only [zipI, clampCs] at *
    (repeat (first | (with_reducible apply zan; (focus ((conv => lhs; simp [ev1, wantG, spineK, spine, float, xnew, xval, xeff, zaa, zab, zal, zad, zae, addFl, cellsOf, pickC, alive, slLen, slFt, binI, maxA, maxK, minA, minK, aeqK, aeqS, AV.cells,  spA, zac, fillA, setAt, bitsI, nat_nn, zar, AV.plain, apart, Nat.testBit_eq_decide_div_mod_eq, *]) <;> exact rfl)); simp only [addFl]) | ((with_reducible first | refine zao ?_ | refine zaq ?_ | refine zak ?_ | refine zai ?_ | refine zag ?_ | refine zap ?_ | refine zaj ?_ | refine zas ?_ | (apply zah; (focus (simp [zaa, *]; done))) | (with_reducible apply zaf; (focus (simp [zaa, *]; done)))); try simp only [Then, Ops]) | simp only [Nat.reduceEqDiff, reduceIte, OutB, Then]))
    exact zat (v := .bool true) (.inl rfl) rfl (by simp) (by simp only [resL, resOf, zam]; simp [resV, *]) rfl
  | true =>
  rw [hval] at hv
  have hc := (Clm.valid_iff c).1 hval
  have hp := hc.piles
  have hall := fun H => hA.all (hcl H)
  have hhas : ∀ (H : List AB) (i : Nat), i < c.piles.length → call (.fn (.func 12) [] []) [.agg (clampCs c), .int .i64 i] H = some (.ret (spanR c true (Clm.hasC c i)), H, []) := by
    intro H i hi
    have h := hA.has (hcl H) (i : Int)
    have e1 : isP c (i : Int) = true := by unfold isP; simp; omega
    rw [e1] at h
    exact h
  have hshare := fun H s => hA.share (hcl H) s
  cases hcan : Clm.can c (Clm.every c) with
  | false =>
    have he : errOf c true = 10 := by unfold errOf; rw [hval, hcan]; rfl
    have hall' : ∀ H, call (.fn (.func 25) [] []) [.agg (clampCs c)] H = some (.ret (.tup [.agg [.int .i64 0, .int .i64 0], .int .i64 10]), H, []) := fun H => by
      rw [hall H]; unfold spanR; rw [he]; rfl
    have hhas' : ∀ (H : List AB) (i : Nat), i < c.piles.length → call (.fn (.func 12) [] []) [.agg (clampCs c), .int .i64 i] H = some (.ret (.tup [.agg [.int .i64 0, .int .i64 0], .int .i64 10]), H, []) := fun H i hi => by
      rw [hhas H i hi]; unfold spanR; rw [he]; rfl
    clear hA hlen hcl hval hcan hall hhas hshare he hc
    unfold af6
    simp only [zipI, clampCs] at *
    (repeat (first | (with_reducible apply zan; (focus ((conv => lhs; simp [ev1, wantG, spineK, spine, float, xnew, xval, xeff, zaa, zab, zal, zad, zae, addFl, cellsOf, pickC, alive, slLen, slFt, binI, maxA, maxK, minA, minK, aeqK, aeqS, AV.cells,  spA, zac, fillA, setAt, bitsI, nat_nn, zar, AV.plain, apart, Nat.testBit_eq_decide_div_mod_eq, *]) <;> exact rfl)); simp only [addFl]) | ((with_reducible first | refine zao ?_ | refine zaq ?_ | refine zak ?_ | refine zai ?_ | refine zag ?_ | refine zap ?_ | refine zaj ?_ | refine zas ?_ | (apply zah; (focus (simp [zaa, *]; done))) | (with_reducible apply zaf; (focus (simp [zaa, *]; done)))); try simp only [Then, Ops]) | simp only [Nat.reduceEqDiff, reduceIte, OutB, Then]))
    with_reducible refine zbg hC c.piles.length (by unfold fuelL; omega) (fun i st => ∃ J, st = { tm := tmA 214 [(37, .int .i64 i), (36, .int .i64 c.piles.length), (6, .int .i64 0), (5, .int .i64 0), (4, .int .i64 10), (3, .ptr (H.length + 1) 0), (1, .ptr H.length 0)], df := [], hp := H ++ .cells [.vs 6 (c.piles.map pileE), .int .i64 c.pack.lo, .int .i64 c.pack.hi, .vs 4 (c.events.map evtE)] :: .cells [.int .i64 0, .int .i64 0] :: J, tc := [] }) ?_ ?_ ?_
    · refine ⟨[], ?_⟩
      (refine st_is ?_ ?_ ?_ ?_; (focus (simp [zau, zax])); (focus rfl); (focus (first | rfl | (simp; done) | (simp [*]; done) | (simp; rfl) | (simp [*]; omega) | (simp; omega))); (focus (first | rfl | simp)))
    · rintro i st hi ⟨J, rfl⟩
      have hh := fun H => hhas' H i hi
      have e5 : (i : Int) < c.piles.length := by omega
      have hwi : IntKind.i64.wrap (↑i + 1) = ↑i + 1 := zaz (by omega) (by omega)
      have hw0 : IntKind.i64.wrap 0 = 0 := zaz (by decide) (by decide)
      clear hhas' hall' hl hv ha
      (repeat (first | (with_reducible apply zan; (focus ((conv => lhs; simp [ev1, wantG, spineK, spine, float, xnew, xval, xeff, zaa, zab, zal, zad, zae, addFl, cellsOf, pickC, alive, slLen, slFt, binI, maxA, maxK, minA, minK, aeqK, aeqS, AV.cells,  spA, zac, fillA, setAt, bitsI, nat_nn, zar, AV.plain, apart, Nat.testBit_eq_decide_div_mod_eq, *]) <;> exact rfl)); simp only [addFl]) | ((with_reducible first | refine zao ?_ | refine zaq ?_ | refine zak ?_ | refine zai ?_ | refine zag ?_ | refine zap ?_ | refine zaj ?_ | refine zas ?_ | (apply zah; (focus (simp [zaa, *]; done))) | (with_reducible apply zaf; (focus (simp [zaa, *]; done)))); try simp only [Then, Ops, OutB]) | simp only [Nat.reduceEqDiff, reduceIte, OutB, Then]))
      refine ⟨J ++ [.cells [.int .i64 0, .int .i64 0]], ?_⟩
      (refine st_is ?_ ?_ ?_ ?_; (focus (simp [zau, zax])); (focus rfl); (focus (first | rfl | (simp; done) | (simp [*]; done) | (simp; rfl) | (simp [*]; omega) | (simp; omega))); (focus (first | rfl | simp)))
    · rintro st ⟨J, rfl⟩
      have e5 : ¬ ((c.piles.length : Int) < c.piles.length) := by omega
      clear hhas' hall' hl hv
      (repeat (first | (with_reducible apply zan; (focus ((conv => lhs; simp [ev1, wantG, spineK, spine, float, xnew, xval, xeff, zaa, zab, zal, zad, zae, addFl, cellsOf, pickC, alive, slLen, slFt, binI, maxA, maxK, minA, minK, aeqK, aeqS, AV.cells,  spA, zac, fillA, setAt, bitsI, nat_nn, zar, AV.plain, apart, Nat.testBit_eq_decide_div_mod_eq, *]) <;> exact rfl)); simp only [addFl]) | ((with_reducible first | refine zao ?_ | refine zaq ?_ | refine zak ?_ | refine zai ?_ | refine zag ?_ | refine zap ?_ | refine zaj ?_ | refine zas ?_ | (apply zah; (focus (simp [zaa, *]; done))) | (with_reducible apply zaf; (focus (simp [zaa, *]; done)))); try simp only [Then, Ops, OutB, reduceIte]) | simp only [Nat.reduceEqDiff, reduceIte, OutB, Then]))
      exact zat (v := .bool true) (.inl rfl) rfl (by simp) (by simp only [resL, resOf, zam]; simp [resV, *]) rfl
  | true =>
    have he : errOf c true = 0 := by unfold errOf; rw [hval, hcan]; rfl
    have hall' : ∀ H, call (.fn (.func 25) [] []) [.agg (clampCs c)] H = some (.ret (.tup [.agg [.int .i64 (Clm.together c (Clm.fullC c)).lo, .int .i64 (Clm.together c (Clm.fullC c)).hi], .int .i64 0]), H, []) := fun H => by
      rw [hall H]; unfold spanR; rw [he]; rfl
    have hhas' : ∀ (H : List AB) (i : Nat), i < c.piles.length → call (.fn (.func 12) [] []) [.agg (clampCs c), .int .i64 i] H = some (.ret (.tup [.agg [.int .i64 (Clm.hasC c i).lo, .int .i64 (Clm.hasC c i).hi], .int .i64 0]), H, []) := fun H i hi => by
      rw [hhas H i hi]; unfold spanR; rw [he]; rfl
    have hlaw := Clm.all_law hc hcan
    have hlow : ∀ n, n ≤ c.piles.length → _ := fun n h => Clm.sumC_low hc n h
    have hlh : ∀ n, n < c.piles.length → _ := fun n h => Clm.low_has hc (i := n) h
    have hb : ∀ H, clOf H (.agg [.vs 6 (c.piles.map pileE), .int .i64 c.pack.lo, .int .i64 c.pack.hi, .nils]) = some (Clm.bare c) := fun H => clOf_of (pilesV_vs H c.piles) (evtsV_nil H) (a := c.pack.lo) (b := c.pack.hi) (by omega) (by simp)
    have hsp := fun H a b => hA.span (H := H) a b
    -- sods that all have, and one more
    have hfl : Clm.fullC c < 2 ^ c.piles.length := by
      unfold Clm.fullC
      have := Nat.two_pow_pos c.piles.length
      omega
    obtain ⟨set, hset, hs1⟩ : ∃ set : Nat, set < 2 ^ c.piles.length ∧ ∀ H, call (.fn (.func 15) [] []) [.agg (clampCs c), .int .i64 (Clm.together c (Clm.fullC c)).lo] H = some (.ret (.tup [.int .i64 set, .int .i64 0]), H, []) := by
      obtain ⟨S, hS⟩ := Clm.first_some (k := c.piles.length) (p := shareP c (Clm.together c (Clm.fullC c)).lo) (by omega) hfl (decide_eq_true (Int.le_refl _))
      refine ⟨S, (Clm.first_least (by omega) hS).lt, fun H => ?_⟩
      rw [hshare H]
      have hF : shareF c (Clm.together c (Clm.fullC c)).lo = some S := hS
      have hz : errOf c (isS (Clm.together c (Clm.fullC c)).lo) = 0 := by
        rw [show isS (Clm.together c (Clm.fullC c)).lo = true from decide_eq_true ⟨hlaw.nn, hlaw.le⟩]; exact he
      unfold shareR shareV shareE
      rw [hz, hF]; rfl
    obtain ⟨er, her, hs2⟩ : ∃ er : Int, ((Clm.together c (Clm.fullC c)).lo < 20000 → er = 4) ∧ ∀ H, call (.fn (.func 15) [] []) [.agg (clampCs c), .int .i64 ((Clm.together c (Clm.fullC c)).lo + 1)] H = some (.ret (.tup [.int .i64 0, .int .i64 er]), H, []) := by
      by_cases hlt : (Clm.together c (Clm.fullC c)).lo < 20000
      · refine ⟨4, fun _ => rfl, fun H => ?_⟩
        rw [hshare H]
        have hF : shareF c ((Clm.together c (Clm.fullC c)).lo + 1) = none := by
          cases hS : shareF c ((Clm.together c (Clm.fullC c)).lo + 1) with
          | none => rfl
          | some S =>
            have h1 := of_decide_eq_true (Clm.first_least (k := c.piles.length) (by omega) hS).is
            have h2 := hlaw.most S
            exfalso; omega
        have hz : errOf c (isS ((Clm.together c (Clm.fullC c)).lo + 1)) = 0 := by
          rw [show isS ((Clm.together c (Clm.fullC c)).lo + 1) = true from decide_eq_true ⟨by have := hlaw.nn; omega, by omega⟩]; exact he
        unfold shareR shareV shareE
        rw [hz, hF]; rfl
      · refine ⟨2, fun h => absurd h hlt, fun H => ?_⟩
        rw [hshare H]
        have hz : errOf c (isS ((Clm.together c (Clm.fullC c)).lo + 1)) = 2 := by
          rw [show isS ((Clm.together c (Clm.fullC c)).lo + 1) = false from decide_eq_false (by omega)]; unfold errOf; rw [hval]; rfl
        unfold shareR shareV shareE
        rw [hz]; rfl
    have heb : errOf (Clm.bare c) true = 0 := by
      unfold errOf; rw [(Clm.valid_iff _).2 (Clm.bare_fine hc), Clm.bare_can hc]; rfl
    have hbuilt : ∀ (H : List AB) (i : Nat), i < c.piles.length → call (.fn (.func 10) [] []) [.agg [.vs 6 (c.piles.map pileE), .int .i64 c.pack.lo, .int .i64 c.pack.hi, .nils], .int .i64 i] H = some (.ret (.tup [.agg [.int .i64 (Clm.prodLo c i), .int .i64 (Clm.prodHi c i)], .int .i64 0]), H, []) := by
      intro H i hi
      have h := hA.built (hb H) (i : Int)
      have e1 : isP (Clm.bare c) (i : Int) = true := decide_eq_true ⟨by omega, by show (i : Int) < (c.piles.length : Int); omega⟩
      rw [e1] at h
      rw [h]; unfold spanR; rw [heb, Int.toNat_natCast, Clm.bare_built hc hi, Clm.bare_has hc hi]; rfl
    have hhas0 : ∀ (H : List AB) (i : Nat), i < c.piles.length → call (.fn (.func 12) [] []) [.agg [.vs 6 (c.piles.map pileE), .int .i64 c.pack.lo, .int .i64 c.pack.hi, .nils], .int .i64 i] H = some (.ret (.tup [.agg [.int .i64 (Clm.prodLo c i), .int .i64 (Clm.prodHi c i)], .int .i64 0]), H, []) := by
      intro H i hi
      have h := hA.has (hb H) (i : Int)
      have e1 : isP (Clm.bare c) (i : Int) = true := decide_eq_true ⟨by omega, by show (i : Int) < (c.piles.length : Int); omega⟩
      rw [e1] at h
      have e2 : hasG (Clm.bare c) (i : Int) = Clm.hasC (Clm.bare c) i := rfl
      rw [h, e2, Clm.bare_has hc hi]; unfold spanR; rw [heb]; rfl
    have hpile : ∀ (i : Nat) (p : Clm.Pl), c.piles[i]? = some p → (1 ≤ p.long.lo ∧ p.long.lo ≤ p.long.hi ∧ p.long.hi ≤ 10 ∧ p.long.hi - p.long.lo ≤ 1) ∧ (1 ≤ p.wide.lo ∧ p.wide.lo ≤ p.wide.hi ∧ p.wide.hi ≤ 10 ∧ p.wide.hi - p.wide.lo ≤ 1) ∧ (1 ≤ p.high.lo ∧ p.high.lo ≤ p.high.hi ∧ p.high.hi ≤ 10 ∧ p.high.hi - p.high.lo ≤ 1) := fun i p h => hc.pile p (List.mem_of_getElem? h)
    have hprod : ∀ (i : Nat) (p : Clm.Pl), c.piles[i]? = some p → Clm.prodLo c i = p.long.lo * p.wide.lo * p.high.lo * c.pack.lo ∧ Clm.prodHi c i = p.long.hi * p.wide.hi * p.high.hi * c.pack.hi := fun i p h => by
      unfold Clm.prodLo Clm.prodHi; rw [List.getD_eq_getElem?_getD, h]; exact ⟨rfl, rfl⟩
    have hpack := hc.pack
    have hone : c.pack.lo = c.pack.hi → (Clm.together c (Clm.fullC c)).lo = (Clm.sumC c c.piles.length).lo ∧ (Clm.together c (Clm.fullC c)).hi = (Clm.sumC c c.piles.length).hi := fun h => by rw [hlaw.one h]; exact ⟨rfl, rfl⟩
    obtain ⟨l1, l2, l3, l4, l5, l6, _⟩ := hlaw
    generalize (Clm.together c (Clm.fullC c)).lo = alo at *
    generalize (Clm.together c (Clm.fullC c)).hi = ahi at *
    have hs0 : (Clm.sumC c 0).lo = 0 ∧ (Clm.sumC c 0).hi = 0 := ⟨rfl, rfl⟩
    have hs' : ∀ n, (Clm.sumC c (n + 1)).lo = (Clm.sumC c n).lo + (Clm.hasC c n).lo ∧ (Clm.sumC c (n + 1)).hi = (Clm.sumC c n).hi + (Clm.hasC c n).hi := fun n => ⟨rfl, rfl⟩
    have hnum : ∀ n, n ≤ c.piles.length → 0 ≤ (Clm.sumC c n).lo ∧ (Clm.sumC c n).lo ≤ 10000 * n ∧ 0 ≤ (Clm.sumC c n).hi ∧ (Clm.sumC c n).hi ≤ 10000 * n := hlow
    have H2 := hideP (And.intro hs1 (And.intro hs2 (And.intro hbuilt (And.intro hhas0 (And.intro hsp (And.intro hpile hprod))))))
    clear hA hlen hcl hval hcan hall hhas hshare he hc hlow hb hs1 hs2 hbuilt hhas0 hsp hpile hprod l4
    unfold af6
    simp only [zipI, clampCs] at *
    (repeat (first | (with_reducible apply zan; (focus ((conv => lhs; simp [ev1, wantG, spineK, spine, float, xnew, xval, xeff, zaa, zab, zal, zad, zae, addFl, cellsOf, pickC, alive, slLen, slFt, binI, maxA, maxK, minA, minK, aeqK, aeqS, AV.cells,  spA, zac, fillA, setAt, bitsI, nat_nn, zar, AV.plain, apart, Nat.testBit_eq_decide_div_mod_eq, *]) <;> exact rfl)); simp only [addFl]) | ((with_reducible first | refine zao ?_ | refine zaq ?_ | refine zak ?_ | refine zai ?_ | refine zag ?_ | refine zap ?_ | refine zaj ?_ | refine zas ?_ | (apply zah; (focus (simp [zaa, *]; done))) | (with_reducible apply zaf; (focus (simp [zaa, *]; done)))); try simp only [Then, Ops]) | simp only [Nat.reduceEqDiff, reduceIte, OutB, Then]))
    with_reducible refine zbg hC c.piles.length (by unfold fuelL; omega) (fun i st => ∃ J, st = { tm := tmA 214 [(37, .int .i64 i), (36, .int .i64 c.piles.length), (6, .int .i64 (Clm.sumC c i).hi), (5, .int .i64 (Clm.sumC c i).lo), (4, .int .i64 0), (3, .ptr (H.length + 1) 0), (1, .ptr H.length 0)], df := [], hp := H ++ .cells [.vs 6 (c.piles.map pileE), .int .i64 c.pack.lo, .int .i64 c.pack.hi, .vs 4 (c.events.map evtE)] :: .cells [.int .i64 alo, .int .i64 ahi] :: J, tc := [] }) ?_ ?_ ?_
    · refine ⟨[], ?_⟩
      rw [hs0.1, hs0.2]
      (refine st_is ?_ ?_ ?_ ?_; (focus (simp [zau, zax])); (focus rfl); (focus (first | rfl | (simp; done) | (simp [*]; done) | (simp; rfl) | (simp [*]; omega) | (simp; omega))); (focus (first | rfl | simp)))
    · rintro i st hi ⟨J, rfl⟩
      have hh := fun H => hhas' H i hi
      have e5 : (i : Int) < c.piles.length := by omega
      have hwi : IntKind.i64.wrap (↑i + 1) = ↑i + 1 := zaz (by omega) (by omega)
      obtain ⟨q1, q2, q3, q4⟩ := hnum (i + 1) (by omega)
      rw [(hs' i).1] at q1 q2
      rw [(hs' i).2] at q3 q4
      have w1 : IntKind.i64.wrap ((Clm.sumC c i).lo + (Clm.hasC c i).lo) = (Clm.sumC c (i + 1)).lo := by rw [(hs' i).1]; exact zaz (by omega) (by omega)
      have w2 : IntKind.i64.wrap ((Clm.sumC c i).hi + (Clm.hasC c i).hi) = (Clm.sumC c (i + 1)).hi := by rw [(hs' i).2]; exact zaz (by omega) (by omega)
      clear hhas' hall' hl hv ha hnum hs' hs0 H2 hlh hone l1 l2 l3 l5 l6 q1 q2 q3 q4
      generalize (Clm.sumC c (i + 1)).lo = tlo at *
      generalize (Clm.sumC c (i + 1)).hi = thi at *
      generalize (Clm.sumC c i).lo = slo at *
      generalize (Clm.sumC c i).hi = shi at *
      generalize (Clm.hasC c i).lo = xlo at *
      generalize (Clm.hasC c i).hi = xhi at *
      (repeat (first | (with_reducible apply zan; (focus ((conv => lhs; simp [ev1, wantG, spineK, spine, float, xnew, xval, xeff, zaa, zab, zal, zad, zae, addFl, cellsOf, pickC, alive, slLen, slFt, binI, maxA, maxK, minA, minK, aeqK, aeqS, AV.cells,  spA, zac, fillA, setAt, bitsI, nat_nn, zar, AV.plain, apart, Nat.testBit_eq_decide_div_mod_eq, *]) <;> exact rfl)); simp only [addFl]) | ((with_reducible first | refine zao ?_ | refine zaq ?_ | refine zak ?_ | refine zai ?_ | refine zag ?_ | refine zap ?_ | refine zaj ?_ | refine zas ?_ | (apply zah; (focus (simp [zaa, *]; done))) | (with_reducible apply zaf; (focus (simp [zaa, *]; done)))); try simp only [Then, Ops, OutB]) | simp only [Nat.reduceEqDiff, reduceIte, OutB, Then]))
      refine ⟨J ++ [.cells [.int .i64 xlo, .int .i64 xhi]], ?_⟩
      (refine st_is ?_ ?_ ?_ ?_; (focus (simp [zau, zax])); (focus rfl); (focus (first | rfl | (simp; done) | (simp [*]; done) | (simp; rfl) | (simp [*]; omega) | (simp; omega))); (focus (first | rfl | simp)))
    · rintro st ⟨J, rfl⟩
      have e5 : ¬ ((c.piles.length : Int) < c.piles.length) := by omega
      obtain ⟨hs1, hs2, hbuilt, hhas0, hsp, hpile, hprod⟩ := H2.out
      clear hhas' hall' hl hv hnum hs' hs0 H2 hlh
      have hno : ¬ ahi < alo := by omega
      have hn1 : ¬ alo < (Clm.sumC c c.piles.length).lo := by omega
      have hn2 : ¬ (Clm.sumC c c.piles.length).hi < ahi := by omega
      clear l1 l2 l3
      have hz : IntKind.i64.wrap (alo + 1) = alo + 1 := zaz (by omega) (by omega)
      have hsh : (set : Int).fdiv (2 ^ min c.piles.length IntKind.i64.bits) = 0 := by
        have h64 : IntKind.i64.bits = 64 := rfl
        rw [h64, Nat.min_eq_left (by omega), Int.fdiv_eq_ediv_of_nonneg _ (by exact Int.le_of_lt (Int.pow_pos (by decide)))]
        refine Int.ediv_eq_zero_of_lt (by omega) ?_
        have : ((2 ^ c.piles.length : Nat) : Int) = 2 ^ c.piles.length := by simp
        rw [← this]; omega
      have hlt4 : alo < 20000 → er = 4 := her
      clear her hset l5 l6
      have H3 := hideP (And.intro hbuilt (And.intro hhas0 (And.intro hpile (And.intro hprod (And.intro hpack hp)))))
      clear hbuilt hhas0 hpile hprod
      generalize c.pack.lo = plo at *
      generalize c.pack.hi = phi at *
      generalize (Clm.sumC c c.piles.length).lo = slo at *
      generalize (Clm.sumC c c.piles.length).hi = shi at *
      by_cases hpk : plo = phi
      · obtain ⟨o1, o2⟩ := hone hpk
        subst hpk o1 o2
        by_cases h2 : alo < 20000
        · have her := hlt4 h2
          subst her
          clear hlt4 hone hn1 hn2 hpack hp hfl heb
          (repeat (first | (with_reducible apply zan; (focus ((conv => lhs; simp [ev1, wantG, spineK, spine, float, xnew, xval, xeff, zaa, zab, zal, zad, zae, addFl, cellsOf, pickC, alive, slLen, slFt, binI, maxA, maxK, minA, minK, aeqK, aeqS, AV.cells, ↓flall_nil,  spA, zac, fillA, setAt, bitsI, nat_nn, zar, AV.plain, apart, Nat.testBit_eq_decide_div_mod_eq, *]) <;> exact rfl)); simp only [addFl]) | ((with_reducible first | refine zao ?_ | refine zaq ?_ | refine zak ?_ | refine zai ?_ | refine zag ?_ | refine zap ?_ | refine zaj ?_ | refine zas ?_ | (apply zah; (focus (simp [zaa, *]; done))) | (with_reducible apply zaf; (focus (simp [zaa, *]; done)))); try simp only [Then, Ops, OutB, reduceIte]) | simp only [Nat.reduceEqDiff, reduceIte, OutB, Then]))
          with_reducible refine zbg hC c.piles.length (by have := H3.out.2.2.2.2.2.2; unfold fuelL; omega) (fun i st => ∃ K, st = { tm := tmA 214 [(146, .int .i64 i), (145, .int .i64 c.piles.length), (14, .ptr (H.length + (J.length + 1 + 1)) 0), (1, .ptr H.length 0)], df := [], hp := H ++ .cells [.vs 6 (c.piles.map pileE), .int .i64 plo, .int .i64 plo, .vs 4 (c.events.map evtE)] :: .cells [.int .i64 alo, .int .i64 ahi] :: (J ++ .cells [.vs 6 (c.piles.map pileE), .int .i64 plo, .int .i64 plo, .nils] :: K), tc := [] }) ?_ ?_ ?_
          · refine ⟨[], ?_⟩
            (refine st_is ?_ ?_ ?_ ?_; (focus (simp [zau, zax])); (focus rfl); (focus (first | rfl | (simp; done) | (simp [*]; done) | (simp; rfl) | (simp [*]; omega) | (simp; omega))); (focus (first | rfl | simp)))
          · rintro i st hi ⟨K, rfl⟩
            obtain ⟨hbuilt, hhas0, hpile, hprod, hpack, hp⟩ := H3.out
            have hgp : c.piles[i]? = some c.piles[i] := List.getElem?_eq_getElem hi
            generalize c.piles[i] = p at hgp
            have hgp' := ge_of hgp
            have e5 : (i : Int) < c.piles.length := by omega
            have hwi : IntKind.i64.wrap (↑i + 1) = ↑i + 1 := zaz (by omega) (by omega)
            obtain ⟨g1, g2, g3⟩ := hpile i p hgp
            obtain ⟨w1, w2, w3⟩ := prod_in (a := p.long.lo) (b := p.wide.lo) (d := p.high.lo) (k := plo) (by omega) (by omega) (by omega) (by omega)
            obtain ⟨x1, x2, x3⟩ := prod_in (a := p.long.hi) (b := p.wide.hi) (d := p.high.hi) (k := plo) (by omega) (by omega) (by omega) (by omega)
            have hb1 := fun H => hbuilt H i hi
            have hb2 := fun H => hhas0 H i hi
            obtain ⟨y1, y2⟩ := hprod i p hgp
            rw [y1, y2] at hb1 hb2
            clear y1 y2 hbuilt hhas0 hpile hprod hpack hp g1 g2 g3 H3 hgp hs1 hs2 ha hsh hz
            have W : IntKind.i64.wrap (IntKind.i64.wrap (IntKind.i64.wrap (p.long.lo * p.wide.lo) * p.high.lo) * plo) = p.long.lo * p.wide.lo * p.high.lo * plo := by rw [w1, w2, w3]
            have X : IntKind.i64.wrap (IntKind.i64.wrap (IntKind.i64.wrap (p.long.hi * p.wide.hi) * p.high.hi) * plo) = p.long.hi * p.wide.hi * p.high.hi * plo := by rw [x1, x2, x3]
            clear w1 w2 w3 x1 x2 x3
            generalize p.long.lo * p.wide.lo * p.high.lo * plo = u3 at *
            generalize p.long.hi * p.wide.hi * p.high.hi * plo = v3 at *
            (repeat (first | (with_reducible apply zan; (focus ((conv => lhs; simp [ev1, wantG, spineK, spine, float, xnew, xval, xeff, zaa, zab, zal, zad, zae, addFl, cellsOf, pickC, alive, slLen, slFt, binI, maxA, maxK, minA, minK, aeqK, aeqS, AV.cells, pileE, ↓flall_nil,  spA, zac, fillA, setAt, bitsI, nat_nn, zar, AV.plain, apart, Nat.testBit_eq_decide_div_mod_eq, *]) <;> exact rfl)); simp only [addFl]) | ((with_reducible first | refine zao ?_ | refine zaq ?_ | refine zak ?_ | refine zai ?_ | refine zag ?_ | refine zap ?_ | refine zaj ?_ | refine zas ?_ | (apply zah; (focus (simp [zaa, *]; done))) | (with_reducible apply zaf; (focus (simp [zaa, *]; done)))); try simp only [Then, Ops, OutB]) | simp only [Nat.reduceEqDiff, reduceIte, OutB, Then]))
            refine ⟨K ++ [.cells [.int .i64 u3, .int .i64 v3], .cells [.int .i64 u3, .int .i64 v3], .cells [.int .i64 p.long.lo, .int .i64 p.long.hi, .int .i64 p.wide.lo, .int .i64 p.wide.hi, .int .i64 p.high.lo, .int .i64 p.high.hi]], ?_⟩
            (refine st_is ?_ ?_ ?_ ?_; (focus (simp [zau, zax])); (focus rfl); (focus (first | rfl | (simp; done) | (simp [*]; done) | (simp; rfl) | (simp [*]; omega) | (simp; omega))); (focus (first | rfl | simp)))
          · rintro st ⟨K, rfl⟩
            clear hs1 hs2 hsh hz
            (repeat (first | (with_reducible apply zan; (focus ((conv => lhs; simp [ev1, wantG, spineK, spine, float, xnew, xval, xeff, zaa, zab, zal, zad, zae, addFl, cellsOf, pickC, alive, slLen, slFt, binI, maxA, maxK, minA, minK, aeqK, aeqS, AV.cells,  spA, zac, fillA, setAt, bitsI, nat_nn, zar, AV.plain, apart, Nat.testBit_eq_decide_div_mod_eq, *]) <;> exact rfl)); simp only [addFl]) | ((with_reducible first | refine zao ?_ | refine zaq ?_ | refine zak ?_ | refine zai ?_ | refine zag ?_ | refine zap ?_ | refine zaj ?_ | refine zas ?_ | (apply zah; (focus (simp [zaa, *]; done))) | (with_reducible apply zaf; (focus (simp [zaa, *]; done)))); try simp only [Then, Ops, OutB, reduceIte]) | simp only [Nat.reduceEqDiff, reduceIte, OutB, Then]))
            exact zat (v := .bool true) (.inl rfl) rfl (by simp) (by simp only [resL, resOf, zam]; simp [resV, *]) rfl
        · clear hlt4 hone hn1 hn2 hpack hp hfl heb
          (repeat (first | (with_reducible apply zan; (focus ((conv => lhs; simp [ev1, wantG, spineK, spine, float, xnew, xval, xeff, zaa, zab, zal, zad, zae, addFl, cellsOf, pickC, alive, slLen, slFt, binI, maxA, maxK, minA, minK, aeqK, aeqS, AV.cells, ↓flall_nil,  spA, zac, fillA, setAt, bitsI, nat_nn, zar, AV.plain, apart, Nat.testBit_eq_decide_div_mod_eq, *]) <;> exact rfl)); simp only [addFl]) | ((with_reducible first | refine zao ?_ | refine zaq ?_ | refine zak ?_ | refine zai ?_ | refine zag ?_ | refine zap ?_ | refine zaj ?_ | refine zas ?_ | (apply zah; (focus (simp [zaa, *]; done))) | (with_reducible apply zaf; (focus (simp [zaa, *]; done)))); try simp only [Then, Ops, OutB, reduceIte]) | simp only [Nat.reduceEqDiff, reduceIte, OutB, Then]))
          with_reducible refine zbg hC c.piles.length (by have := H3.out.2.2.2.2.2.2; unfold fuelL; omega) (fun i st => ∃ K, st = { tm := tmA 214 [(146, .int .i64 i), (145, .int .i64 c.piles.length), (14, .ptr (H.length + (J.length + 1 + 1)) 0), (1, .ptr H.length 0)], df := [], hp := H ++ .cells [.vs 6 (c.piles.map pileE), .int .i64 plo, .int .i64 plo, .vs 4 (c.events.map evtE)] :: .cells [.int .i64 alo, .int .i64 ahi] :: (J ++ .cells [.vs 6 (c.piles.map pileE), .int .i64 plo, .int .i64 plo, .nils] :: K), tc := [] }) ?_ ?_ ?_
          · refine ⟨[], ?_⟩
            (refine st_is ?_ ?_ ?_ ?_; (focus (simp [zau, zax])); (focus rfl); (focus (first | rfl | (simp; done) | (simp [*]; done) | (simp; rfl) | (simp [*]; omega) | (simp; omega))); (focus (first | rfl | simp)))
          · rintro i st hi ⟨K, rfl⟩
            obtain ⟨hbuilt, hhas0, hpile, hprod, hpack, hp⟩ := H3.out
            have hgp : c.piles[i]? = some c.piles[i] := List.getElem?_eq_getElem hi
            generalize c.piles[i] = p at hgp
            have hgp' := ge_of hgp
            have e5 : (i : Int) < c.piles.length := by omega
            have hwi : IntKind.i64.wrap (↑i + 1) = ↑i + 1 := zaz (by omega) (by omega)
            obtain ⟨g1, g2, g3⟩ := hpile i p hgp
            obtain ⟨w1, w2, w3⟩ := prod_in (a := p.long.lo) (b := p.wide.lo) (d := p.high.lo) (k := plo) (by omega) (by omega) (by omega) (by omega)
            obtain ⟨x1, x2, x3⟩ := prod_in (a := p.long.hi) (b := p.wide.hi) (d := p.high.hi) (k := plo) (by omega) (by omega) (by omega) (by omega)
            have hb1 := fun H => hbuilt H i hi
            have hb2 := fun H => hhas0 H i hi
            obtain ⟨y1, y2⟩ := hprod i p hgp
            rw [y1, y2] at hb1 hb2
            clear y1 y2 hbuilt hhas0 hpile hprod hpack hp g1 g2 g3 H3 hgp hs1 hs2 ha hsh hz
            have W : IntKind.i64.wrap (IntKind.i64.wrap (IntKind.i64.wrap (p.long.lo * p.wide.lo) * p.high.lo) * plo) = p.long.lo * p.wide.lo * p.high.lo * plo := by rw [w1, w2, w3]
            have X : IntKind.i64.wrap (IntKind.i64.wrap (IntKind.i64.wrap (p.long.hi * p.wide.hi) * p.high.hi) * plo) = p.long.hi * p.wide.hi * p.high.hi * plo := by rw [x1, x2, x3]
            clear w1 w2 w3 x1 x2 x3
            generalize p.long.lo * p.wide.lo * p.high.lo * plo = u3 at *
            generalize p.long.hi * p.wide.hi * p.high.hi * plo = v3 at *
            (repeat (first | (with_reducible apply zan; (focus ((conv => lhs; simp [ev1, wantG, spineK, spine, float, xnew, xval, xeff, zaa, zab, zal, zad, zae, addFl, cellsOf, pickC, alive, slLen, slFt, binI, maxA, maxK, minA, minK, aeqK, aeqS, AV.cells, pileE, ↓flall_nil,  spA, zac, fillA, setAt, bitsI, nat_nn, zar, AV.plain, apart, Nat.testBit_eq_decide_div_mod_eq, *]) <;> exact rfl)); simp only [addFl]) | ((with_reducible first | refine zao ?_ | refine zaq ?_ | refine zak ?_ | refine zai ?_ | refine zag ?_ | refine zap ?_ | refine zaj ?_ | refine zas ?_ | (apply zah; (focus (simp [zaa, *]; done))) | (with_reducible apply zaf; (focus (simp [zaa, *]; done)))); try simp only [Then, Ops, OutB]) | simp only [Nat.reduceEqDiff, reduceIte, OutB, Then]))
            refine ⟨K ++ [.cells [.int .i64 u3, .int .i64 v3], .cells [.int .i64 u3, .int .i64 v3], .cells [.int .i64 p.long.lo, .int .i64 p.long.hi, .int .i64 p.wide.lo, .int .i64 p.wide.hi, .int .i64 p.high.lo, .int .i64 p.high.hi]], ?_⟩
            (refine st_is ?_ ?_ ?_ ?_; (focus (simp [zau, zax])); (focus rfl); (focus (first | rfl | (simp; done) | (simp [*]; done) | (simp; rfl) | (simp [*]; omega) | (simp; omega))); (focus (first | rfl | simp)))
          · rintro st ⟨K, rfl⟩
            clear hs1 hs2 hsh hz
            (repeat (first | (with_reducible apply zan; (focus ((conv => lhs; simp [ev1, wantG, spineK, spine, float, xnew, xval, xeff, zaa, zab, zal, zad, zae, addFl, cellsOf, pickC, alive, slLen, slFt, binI, maxA, maxK, minA, minK, aeqK, aeqS, AV.cells,  spA, zac, fillA, setAt, bitsI, nat_nn, zar, AV.plain, apart, Nat.testBit_eq_decide_div_mod_eq, *]) <;> exact rfl)); simp only [addFl]) | ((with_reducible first | refine zao ?_ | refine zaq ?_ | refine zak ?_ | refine zai ?_ | refine zag ?_ | refine zap ?_ | refine zaj ?_ | refine zas ?_ | (apply zah; (focus (simp [zaa, *]; done))) | (with_reducible apply zaf; (focus (simp [zaa, *]; done)))); try simp only [Then, Ops, OutB, reduceIte]) | simp only [Nat.reduceEqDiff, reduceIte, OutB, Then]))
            exact zat (v := .bool true) (.inl rfl) rfl (by simp) (by simp only [resL, resOf, zam]; simp [resV, *]) rfl
      · have hpb : (plo == phi) = false := beq_false_of_ne hpk
        by_cases h2 : alo < 20000
        · have her := hlt4 h2
          subst her
          clear hlt4 hone hpack hp hfl heb
          (repeat (first | (with_reducible apply zan; (focus ((conv => lhs; simp [ev1, wantG, spineK, spine, float, xnew, xval, xeff, zaa, zab, zal, zad, zae, addFl, cellsOf, pickC, alive, slLen, slFt, binI, maxA, maxK, minA, minK, aeqK, aeqS, AV.cells, ↓flall_nil,  spA, zac, fillA, setAt, bitsI, nat_nn, zar, AV.plain, apart, Nat.testBit_eq_decide_div_mod_eq, *]) <;> exact rfl)); simp only [addFl]) | ((with_reducible first | refine zao ?_ | refine zaq ?_ | refine zak ?_ | refine zai ?_ | refine zag ?_ | refine zap ?_ | refine zaj ?_ | refine zas ?_ | (apply zah; (focus (simp [zaa, *]; done))) | (with_reducible apply zaf; (focus (simp [zaa, *]; done)))); try simp only [Then, Ops, OutB, reduceIte]) | simp only [Nat.reduceEqDiff, reduceIte, OutB, Then]))
          with_reducible refine zbg hC c.piles.length (by have := H3.out.2.2.2.2.2.2; unfold fuelL; omega) (fun i st => ∃ K, st = { tm := tmA 214 [(146, .int .i64 i), (145, .int .i64 c.piles.length), (14, .ptr (H.length + (J.length + 1 + 1)) 0), (1, .ptr H.length 0)], df := [], hp := H ++ .cells [.vs 6 (c.piles.map pileE), .int .i64 plo, .int .i64 phi, .vs 4 (c.events.map evtE)] :: .cells [.int .i64 alo, .int .i64 ahi] :: (J ++ .cells [.vs 6 (c.piles.map pileE), .int .i64 plo, .int .i64 phi, .nils] :: K), tc := [] }) ?_ ?_ ?_
          · refine ⟨[], ?_⟩
            (refine st_is ?_ ?_ ?_ ?_; (focus (simp [zau, zax])); (focus rfl); (focus (first | rfl | (simp; done) | (simp [*]; done) | (simp; rfl) | (simp [*]; omega) | (simp; omega))); (focus (first | rfl | simp)))
          · rintro i st hi ⟨K, rfl⟩
            obtain ⟨hbuilt, hhas0, hpile, hprod, hpack, hp⟩ := H3.out
            have hgp : c.piles[i]? = some c.piles[i] := List.getElem?_eq_getElem hi
            generalize c.piles[i] = p at hgp
            have hgp' := ge_of hgp
            have e5 : (i : Int) < c.piles.length := by omega
            have hwi : IntKind.i64.wrap (↑i + 1) = ↑i + 1 := zaz (by omega) (by omega)
            obtain ⟨g1, g2, g3⟩ := hpile i p hgp
            obtain ⟨w1, w2, w3⟩ := prod_in (a := p.long.lo) (b := p.wide.lo) (d := p.high.lo) (k := plo) (by omega) (by omega) (by omega) (by omega)
            obtain ⟨x1, x2, x3⟩ := prod_in (a := p.long.hi) (b := p.wide.hi) (d := p.high.hi) (k := phi) (by omega) (by omega) (by omega) (by omega)
            have hb1 := fun H => hbuilt H i hi
            have hb2 := fun H => hhas0 H i hi
            obtain ⟨y1, y2⟩ := hprod i p hgp
            rw [y1, y2] at hb1 hb2
            clear y1 y2 hbuilt hhas0 hpile hprod hpack hp g1 g2 g3 H3 hgp hs1 hs2 ha hsh hz
            have W : IntKind.i64.wrap (IntKind.i64.wrap (IntKind.i64.wrap (p.long.lo * p.wide.lo) * p.high.lo) * plo) = p.long.lo * p.wide.lo * p.high.lo * plo := by rw [w1, w2, w3]
            have X : IntKind.i64.wrap (IntKind.i64.wrap (IntKind.i64.wrap (p.long.hi * p.wide.hi) * p.high.hi) * phi) = p.long.hi * p.wide.hi * p.high.hi * phi := by rw [x1, x2, x3]
            clear w1 w2 w3 x1 x2 x3
            generalize p.long.lo * p.wide.lo * p.high.lo * plo = u3 at *
            generalize p.long.hi * p.wide.hi * p.high.hi * phi = v3 at *
            (repeat (first | (with_reducible apply zan; (focus ((conv => lhs; simp [ev1, wantG, spineK, spine, float, xnew, xval, xeff, zaa, zab, zal, zad, zae, addFl, cellsOf, pickC, alive, slLen, slFt, binI, maxA, maxK, minA, minK, aeqK, aeqS, AV.cells, pileE, ↓flall_nil,  spA, zac, fillA, setAt, bitsI, nat_nn, zar, AV.plain, apart, Nat.testBit_eq_decide_div_mod_eq, *]) <;> exact rfl)); simp only [addFl]) | ((with_reducible first | refine zao ?_ | refine zaq ?_ | refine zak ?_ | refine zai ?_ | refine zag ?_ | refine zap ?_ | refine zaj ?_ | refine zas ?_ | (apply zah; (focus (simp [zaa, *]; done))) | (with_reducible apply zaf; (focus (simp [zaa, *]; done)))); try simp only [Then, Ops, OutB]) | simp only [Nat.reduceEqDiff, reduceIte, OutB, Then]))
            refine ⟨K ++ [.cells [.int .i64 u3, .int .i64 v3], .cells [.int .i64 u3, .int .i64 v3], .cells [.int .i64 p.long.lo, .int .i64 p.long.hi, .int .i64 p.wide.lo, .int .i64 p.wide.hi, .int .i64 p.high.lo, .int .i64 p.high.hi]], ?_⟩
            (refine st_is ?_ ?_ ?_ ?_; (focus (simp [zau, zax])); (focus rfl); (focus (first | rfl | (simp; done) | (simp [*]; done) | (simp; rfl) | (simp [*]; omega) | (simp; omega))); (focus (first | rfl | simp)))
          · rintro st ⟨K, rfl⟩
            clear hs1 hs2 hsh hz
            (repeat (first | (with_reducible apply zan; (focus ((conv => lhs; simp [ev1, wantG, spineK, spine, float, xnew, xval, xeff, zaa, zab, zal, zad, zae, addFl, cellsOf, pickC, alive, slLen, slFt, binI, maxA, maxK, minA, minK, aeqK, aeqS, AV.cells,  spA, zac, fillA, setAt, bitsI, nat_nn, zar, AV.plain, apart, Nat.testBit_eq_decide_div_mod_eq, *]) <;> exact rfl)); simp only [addFl]) | ((with_reducible first | refine zao ?_ | refine zaq ?_ | refine zak ?_ | refine zai ?_ | refine zag ?_ | refine zap ?_ | refine zaj ?_ | refine zas ?_ | (apply zah; (focus (simp [zaa, *]; done))) | (with_reducible apply zaf; (focus (simp [zaa, *]; done)))); try simp only [Then, Ops, OutB, reduceIte]) | simp only [Nat.reduceEqDiff, reduceIte, OutB, Then]))
            exact zat (v := .bool true) (.inl rfl) rfl (by simp) (by simp only [resL, resOf, zam]; simp [resV, *]) rfl
        · clear hlt4 hone hpack hp hfl heb
          (repeat (first | (with_reducible apply zan; (focus ((conv => lhs; simp [ev1, wantG, spineK, spine, float, xnew, xval, xeff, zaa, zab, zal, zad, zae, addFl, cellsOf, pickC, alive, slLen, slFt, binI, maxA, maxK, minA, minK, aeqK, aeqS, AV.cells, ↓flall_nil,  spA, zac, fillA, setAt, bitsI, nat_nn, zar, AV.plain, apart, Nat.testBit_eq_decide_div_mod_eq, *]) <;> exact rfl)); simp only [addFl]) | ((with_reducible first | refine zao ?_ | refine zaq ?_ | refine zak ?_ | refine zai ?_ | refine zag ?_ | refine zap ?_ | refine zaj ?_ | refine zas ?_ | (apply zah; (focus (simp [zaa, *]; done))) | (with_reducible apply zaf; (focus (simp [zaa, *]; done)))); try simp only [Then, Ops, OutB, reduceIte]) | simp only [Nat.reduceEqDiff, reduceIte, OutB, Then]))
          with_reducible refine zbg hC c.piles.length (by have := H3.out.2.2.2.2.2.2; unfold fuelL; omega) (fun i st => ∃ K, st = { tm := tmA 214 [(146, .int .i64 i), (145, .int .i64 c.piles.length), (14, .ptr (H.length + (J.length + 1 + 1)) 0), (1, .ptr H.length 0)], df := [], hp := H ++ .cells [.vs 6 (c.piles.map pileE), .int .i64 plo, .int .i64 phi, .vs 4 (c.events.map evtE)] :: .cells [.int .i64 alo, .int .i64 ahi] :: (J ++ .cells [.vs 6 (c.piles.map pileE), .int .i64 plo, .int .i64 phi, .nils] :: K), tc := [] }) ?_ ?_ ?_
          · refine ⟨[], ?_⟩
            (refine st_is ?_ ?_ ?_ ?_; (focus (simp [zau, zax])); (focus rfl); (focus (first | rfl | (simp; done) | (simp [*]; done) | (simp; rfl) | (simp [*]; omega) | (simp; omega))); (focus (first | rfl | simp)))
          · rintro i st hi ⟨K, rfl⟩
            obtain ⟨hbuilt, hhas0, hpile, hprod, hpack, hp⟩ := H3.out
            have hgp : c.piles[i]? = some c.piles[i] := List.getElem?_eq_getElem hi
            generalize c.piles[i] = p at hgp
            have hgp' := ge_of hgp
            have e5 : (i : Int) < c.piles.length := by omega
            have hwi : IntKind.i64.wrap (↑i + 1) = ↑i + 1 := zaz (by omega) (by omega)
            obtain ⟨g1, g2, g3⟩ := hpile i p hgp
            obtain ⟨w1, w2, w3⟩ := prod_in (a := p.long.lo) (b := p.wide.lo) (d := p.high.lo) (k := plo) (by omega) (by omega) (by omega) (by omega)
            obtain ⟨x1, x2, x3⟩ := prod_in (a := p.long.hi) (b := p.wide.hi) (d := p.high.hi) (k := phi) (by omega) (by omega) (by omega) (by omega)
            have hb1 := fun H => hbuilt H i hi
            have hb2 := fun H => hhas0 H i hi
            obtain ⟨y1, y2⟩ := hprod i p hgp
            rw [y1, y2] at hb1 hb2
            clear y1 y2 hbuilt hhas0 hpile hprod hpack hp g1 g2 g3 H3 hgp hs1 hs2 ha hsh hz
            have W : IntKind.i64.wrap (IntKind.i64.wrap (IntKind.i64.wrap (p.long.lo * p.wide.lo) * p.high.lo) * plo) = p.long.lo * p.wide.lo * p.high.lo * plo := by rw [w1, w2, w3]
            have X : IntKind.i64.wrap (IntKind.i64.wrap (IntKind.i64.wrap (p.long.hi * p.wide.hi) * p.high.hi) * phi) = p.long.hi * p.wide.hi * p.high.hi * phi := by rw [x1, x2, x3]
            clear w1 w2 w3 x1 x2 x3
            generalize p.long.lo * p.wide.lo * p.high.lo * plo = u3 at *
            generalize p.long.hi * p.wide.hi * p.high.hi * phi = v3 at *
            (repeat (first | (with_reducible apply zan; (focus ((conv => lhs; simp [ev1, wantG, spineK, spine, float, xnew, xval, xeff, zaa, zab, zal, zad, zae, addFl, cellsOf, pickC, alive, slLen, slFt, binI, maxA, maxK, minA, minK, aeqK, aeqS, AV.cells, pileE, ↓flall_nil,  spA, zac, fillA, setAt, bitsI, nat_nn, zar, AV.plain, apart, Nat.testBit_eq_decide_div_mod_eq, *]) <;> exact rfl)); simp only [addFl]) | ((with_reducible first | refine zao ?_ | refine zaq ?_ | refine zak ?_ | refine zai ?_ | refine zag ?_ | refine zap ?_ | refine zaj ?_ | refine zas ?_ | (apply zah; (focus (simp [zaa, *]; done))) | (with_reducible apply zaf; (focus (simp [zaa, *]; done)))); try simp only [Then, Ops, OutB]) | simp only [Nat.reduceEqDiff, reduceIte, OutB, Then]))
            refine ⟨K ++ [.cells [.int .i64 u3, .int .i64 v3], .cells [.int .i64 u3, .int .i64 v3], .cells [.int .i64 p.long.lo, .int .i64 p.long.hi, .int .i64 p.wide.lo, .int .i64 p.wide.hi, .int .i64 p.high.lo, .int .i64 p.high.hi]], ?_⟩
            (refine st_is ?_ ?_ ?_ ?_; (focus (simp [zau, zax])); (focus rfl); (focus (first | rfl | (simp; done) | (simp [*]; done) | (simp; rfl) | (simp [*]; omega) | (simp; omega))); (focus (first | rfl | simp)))
          · rintro st ⟨K, rfl⟩
            clear hs1 hs2 hsh hz
            (repeat (first | (with_reducible apply zan; (focus ((conv => lhs; simp [ev1, wantG, spineK, spine, float, xnew, xval, xeff, zaa, zab, zal, zad, zae, addFl, cellsOf, pickC, alive, slLen, slFt, binI, maxA, maxK, minA, minK, aeqK, aeqS, AV.cells,  spA, zac, fillA, setAt, bitsI, nat_nn, zar, AV.plain, apart, Nat.testBit_eq_decide_div_mod_eq, *]) <;> exact rfl)); simp only [addFl]) | ((with_reducible first | refine zao ?_ | refine zaq ?_ | refine zak ?_ | refine zai ?_ | refine zag ?_ | refine zap ?_ | refine zaj ?_ | refine zas ?_ | (apply zah; (focus (simp [zaa, *]; done))) | (with_reducible apply zaf; (focus (simp [zaa, *]; done)))); try simp only [Then, Ops, OutB, reduceIte]) | simp only [Nat.reduceEqDiff, reduceIte, OutB, Then]))
            exact zat (v := .bool true) (.inl rfl) rfl (by simp) (by simp only [resL, resOf, zam]; simp [resV, *]) rfl
end K
end Ev
end Go.Proofs.Ytimgnlellflciaa

/- The code of functions of the laws is that of the program. Printed by program. -/
namespace Go.Proofs.Ytimgnlellflciaa
open Go Go.Proofs
namespace Ev
set_option maxRecDepth 1000000
theorem is6 : ∃ F, Try.prog.funcs[6]? = some F ∧ (F.name == "runtime.NumGoroutine") = false ∧ compFn Try.prog F = some af6.strip := ⟨_, Try.func6, by kernel_rfl, by kernel_rfl⟩
end Ev
end Go.Proofs.Ytimgnlellflciaa

/- The functions that the law ClampAll goes through itself. Printed by program. -/
namespace Go.Proofs.Ytimgnlellflciaa
open Go Go.Proofs
namespace Ev
def treeClampAll : FT := (.node 20 af20 (.node 6 af6 .leaf .leaf) (.node 21 af21 .leaf .leaf))
theorem treeClampAll_is : FT.All (fun k af => ∃ F, Try.prog.funcs[k]? = some F ∧ (F.name == "runtime.NumGoroutine") = false ∧ compFn Try.prog F = some af.strip) treeClampAll :=
  ⟨is20, ⟨is6, trivial, trivial⟩, ⟨is21, trivial, trivial⟩⟩
end Ev
end Go.Proofs.Ytimgnlellflciaa

/- The Go function ClampAll returns true, for every argument, in every world in which it is called; nothing that was there is turned. No condition. -/
namespace Go.Proofs.Ytimgnlellflciaa
open Go Go.Proofs Go.ChangeShapes Go.WideShapes Go.ChangeAt Go.RowKit
namespace Ev
namespace K
theorem lawClampAll (W : World) (c : Clm.Cl) {v0 : Value} (hv0 : VR W (fun _ => False) nomu (.agg (clampCs c)) v0) : CallsIn Fence.wide 0 Try.prog 6 #[v0] W fun e W' => e = .returned (.bool true) ∧ Below W.heap.size W W' := by
  have hz : ∀ {f : Nat} {af : AFunc}, (cfgL treeClampAll).exth f = none → FT.find treeClampAll f = some af → Has (cfgL treeClampAll) f af := fun h1 h2 => has_of rfl h1 h2 rfl
  have la := fun n => lapi (t := treeClampAll) (hz rfl (by kernel_rfl)) (hz rfl (by kernel_rfl)) n
  have k : Has (cfgL treeClampAll) 6 af6 := hz rfl (by kernel_rfl)
  obtain ⟨v, hp, tc, H', h1, h2, _⟩ := zcl (C := cfgL treeClampAll) (n := 4) (first := []) (captured := []) (args := [.agg (clampCs c)]) (H := []) (Q := fun v _ _ => v = .bool true) rfl k.ext k.exth k.fns k.whole (le' rfl) (lall_walk (cfgL treeClampAll) rfl _ (la 3) c [])
  subst h2
  refine (told_bare (tblL treeClampAll_is) h1 trivial (zeh _ _ _) (rargs := #[v0]) ⟨rfl, fun i y r hy hr => ?_⟩).mono ?_
  · match i, hy, hr with
    | 0, hy, hr => cases hy; cases hr; exact hv0
    | i + 1, hy, hr => simp at hy
  · rintro e W' ⟨⟨w, rfl, hw⟩, bel⟩
    exact ⟨by rw [bool_of hw W], bel⟩
end K
end Ev
set_option maxRecDepth 100000 in
theorem clampAll_lifted (os : Os) (started : os.Started) (H : Type) (enc : TypeId × Value → H) :
    ReturnsInHanded {} Try.checked os 6 .any (Rows.clampAllSpec.pre6 enc Try.prog Try.f6 Rows.clampAllRow.domain false) (Rows.clampAllSpec.post enc Try.prog Try.f6 false true false false) := by
  refine returnsInHanded_of_change (C := Try.checked) own_godebug started (by kernel_rfl) Try.func6
    (ChangeSpec.witness6 (enc := enc) (C := Try.checked) false ⟨#[], #[noClamp], []⟩ 8 (by kernel_rfl) (by kernel_rfl) (by kernel_rfl) (by kernel_rfl)) ?_
  intro W base args ds gs before hval0 hW hcnd _
  have hval : ∀ (j : Nat) t v, Try.f6.params[j]? = some t → args[j]? = some v → Value.okWide Try.prog W .any base t v := hval0
  have hW' := hW
  obtain ⟨p, q, hA0, hV, rfl, hfz, hnd⟩ := hW
  have hA : DataW.TrodAll enc Try.prog W 0 (fun _ => true) true Try.f6.params.toList args.toList ds p := hA0
  rw [Try.params6] at hA hval
  obtain ⟨v0, vs0, d0, ds0, p0, q0, hargs0, rfl, rfl, h0, hA1⟩ := trodAll_cons hA
  obtain ⟨rfl, rfl, rfl⟩ := trodAll_nil hA1
  obtain rfl : args = #[v0] := Array.ext' hargs0
  obtain ⟨rfl, rfl, rfl⟩ := trodVars_none hV
  clear hA0 hval0
  obtain ⟨c, hx0⟩ := open_clamp (hval 0 30 v0 rfl rfl) h0
  simp only [List.append_nil] at hW'
  have hlt : ∀ x ∈ (p0 ++ []), x.block < W.heap.size := fun x hx => by simpa using hW'.lt x (by simpa using hx)
  refine (callsIn_wide.1 (Ev.K.lawClampAll W c hx0)).mono fun e W' ⟨he, bel⟩ => ?_
  subst he
  refine ⟨_, rfl, _, _, _, [], (p0 ++ []), [], by simpa using hW', ?_, ?_, ?_, bel.frame _, fun h => by cases h⟩
  · exact trodAll_mk1 (shut_bool Try.underlying4 true)
  · exact trodAll_cons_mk (Below.trod laidOut' (by kernel_rfl) (of_decide_eq_true (by kernel_rfl)) h0 bel (fun x hx => hlt x (by simp [hx]))) (trodAll_mk0)
  · exact rfl
theorem clampAll_holds : Rows.ClampAllSaid :=
  OpenClaim.holds_of_wide 6 Try.f6 rfl rfl rfl rfl rfl rfl rfl ⟨rfl, rfl, rfl, rfl, rfl⟩ rfl rfl rfl rfl rfl (by kernel_rfl) Try.func6 (by kernel_rfl)
    (of_decide_eq_true (by kernel_rfl)) (by unfold Func.isWrapper; first | (rw [if_pos (by decide +kernel)]; kernel_rfl) | (rw [if_neg (by decide +kernel)]; exact ⟨rfl, rfl⟩))
    (fun os started H enc _ => clampAll_lifted os started H enc)
#print axioms clampAll_holds
end Go.Proofs.Ytimgnlellflciaa
