/- The reference of chapter 06, gone through: the depths of all days, forwards. -/
import Derived.Test.YtlkhjnpflohfeaaDoorLpPD
import Derived.Test.YtlkhjnpflohfeaaDoorLpPA
/- Cuts with other lists. -/
namespace Go.Proofs.YtlkhjnpflohfeaaDoor
open Go
namespace Ev
@[simp] theorem zyd (H : List AB) (r : List (Int × Int)) : slCells 2 H (.vs 2 (r.map spanE)) = some (spanCs r) := by simp [slCells]
@[simp] theorem zye (H : List AB) (r : List Look) : slCells 3 H (.vs 3 (r.map lookE)) = some (lookCs r) := by simp [slCells]
@[simp] theorem zyf (H : List AB) (r : List Boat) : slCells 4 H (.vs 4 (r.map boatE)) = some (boatCs r) := by simp [slCells]
theorem zac (k : Nat) (H : List AB) (b off n k' : Nat) : slCells k H (.sl b off n k') = if k = k' then (match H[b]? with | some (.cells cs) => if off + n * k ≤ cs.length then some ((cs.drop off).take (n * k)) else none | _ => none) else none := rfl
@[simp] theorem zna : ∀ r, (spanCs r).all AV.plain = true
  | [] => rfl
  | s :: l => by simp only [spanCs, List.all_cons, zna l]; rfl
@[simp] theorem zom : ∀ r, (boatCs r).all AV.plain = true
  | [] => rfl
  | s :: l => by simp only [boatCs, List.all_cons, zom l]; rfl
@[simp] theorem znu : ∀ r, (lookCs r).all AV.plain = true
  | [] => rfl
  | s :: l => by simp only [lookCs, List.all_cons, znu l]; rfl
@[simp] theorem app_get0 {α : Type} (j l : List α) : (j ++ l)[j.length]? = l[0]? := by rw [List.getElem?_append_right (Nat.le_refl _), Nat.sub_self]
@[simp] theorem app_get {α : Type} (j l : List α) (k : Nat) : (j ++ l)[j.length + k]? = l[k]? := by simp [List.getElem?_append_right]
@[simp] theorem app_set0 {α : Type} (j l : List α) (v : α) : (j ++ l).set j.length v = j ++ l.set 0 v := by simp
@[simp] theorem app_set {α : Type} (j l : List α) (k : Nat) (v : α) : (j ++ l).set (j.length + k) v = j ++ l.set k v := by simp
theorem st_eq {st : St} {tm : List AV} {df : List ADef} {hp : List AB} {tc : List Nat} (h1 : st.tm = tm) (h2 : st.df = df) (h3 : st.hp = hp) (h4 : st.tc = tc) : st = ⟨tm, df, hp, tc⟩ := by
  subst h1 h2 h3 h4; rfl
end Ev
end Go.Proofs.YtlkhjnpflohfeaaDoor

/- Truths of a cut: what the spans of package cut mean. No program in sight. -/
namespace Go.Proofs.YtlkhjnpflohfeaaDoor
namespace Cut
def inS (w : Int × Int) (v : Int) : Prop := w.1 ≤ v ∧ v ≤ w.2
theorem zpj (v : Int) : ¬ inS dry v := by unfold inS dry; simp only; omega
theorem zjo (a b : Int × Int) (v : Int) : inS (common a b) v ↔ inS a v ∧ inS b v := by
  unfold common
  split
  · unfold inS; simp only; omega
  · constructor
    · intro h; exact absurd h (zpj v)
    · rintro ⟨h1, h2⟩; unfold inS at *; omega
theorem zez (w : Int × Int) : some w = true ↔ ∃ v, inS w v := by
  unfold some inS
  simp only [decide_eq_true_eq]
  exact ⟨fun h => ⟨w.1, by omega, h⟩, fun ⟨v, h1, h2⟩ => by omega⟩
def Looks (l : List Look) (set : Nat) (d : Nat) (v : Int) : Prop := ∀ i, i < l.length → set.testBit i = true → (lookAt l i).day = d → inS (lookAt l i).depth v
theorem ziy (l : List Look) (d : Int) (set : Nat) (w : Int × Int) (v : Int) : ∀ k, inS (lookedTo l d set w k) v ↔ inS w v ∧ ∀ i, i < k → set.testBit i = true → (lookAt l i).day = d → inS (lookAt l i).depth v
  | 0 => by simp [lookedTo]
  | k + 1 => by
    have ih := ziy l d set w v k
    unfold lookedTo
    by_cases h : (set.testBit k && decide ((lookAt l k).day = d)) = true
    · rw [if_pos h, zjo, ih]
      rw [Bool.and_eq_true, decide_eq_true_eq] at h
      constructor
      · rintro ⟨⟨h1, h2⟩, h3⟩
        refine ⟨h1, fun i hi => ?_⟩
        by_cases hik : i = k
        · subst hik; exact fun _ _ => h3
        · exact h2 i (by omega)
      · rintro ⟨h1, h2⟩
        exact ⟨⟨h1, fun i hi => h2 i (by omega)⟩, h2 k (by omega) h.1 h.2⟩
    · rw [if_neg h, ih]
      constructor
      · rintro ⟨h1, h2⟩
        refine ⟨h1, fun i hi a b => ?_⟩
        by_cases hik : i = k
        · subst hik; exact absurd (by rw [a, b]; simp) h
        · exact h2 i (by omega) a b
      · rintro ⟨h1, h2⟩
        exact ⟨h1, fun i hi => h2 i (by omega)⟩
theorem zns (l : List Look) (d : Nat) (set : Nat) (w : Int × Int) (v : Int) : inS (looked l d set w) v ↔ inS w v ∧ Looks l set d v := ziy l d set w v _
def Step (x : CutD) (leak : Int) (d : Nat) (u v : Int) : Prop := ∃ r, inS (spanAt x.rain d) r ∧ v = held x.most (u + r - leak)
theorem after_in {x : CutD} (h : Valid x) (leak : Int) (d : Nat) (hd : d < x.rain.length) (w : Int × Int) (v : Int) : inS (after (stepBy x leak d) x.most w) v ↔ ∃ u, inS w u ∧ Step x leak d u v := by
  have hr := h.rain d hd
  have hm := h.m1
  unfold after Step
  by_cases hw : w.1 ≤ w.2
  · rw [if_pos hw]
    unfold stepBy held inS
    simp only
    generalize spanAt x.rain d = s at *
    constructor
    · rintro ⟨h1, h2⟩
      have key : ∃ z, w.1 + s.1 ≤ z ∧ z ≤ w.2 + s.2 ∧ v = max 0 (min x.most (z - leak)) := by
        by_cases c1 : w.1 + s.1 - leak ≤ v
        · by_cases c2 : v ≤ w.2 + s.2 - leak
          · exact ⟨v + leak, by omega, by omega, by omega⟩
          · exact ⟨w.2 + s.2, by omega, by omega, by omega⟩
        · exact ⟨w.1 + s.1, by omega, by omega, by omega⟩
      obtain ⟨z, z1, z2, z3⟩ := key
      by_cases c : z - s.1 ≤ w.2
      · exact ⟨z - s.1, by omega, s.1, by omega, by rw [z3]; congr 2; omega⟩
      · exact ⟨w.2, by omega, z - w.2, by omega, by rw [z3]; congr 2; omega⟩
    · rintro ⟨u, h1, r, h2, rfl⟩
      omega
  · rw [if_neg hw]
    constructor
    · intro hx; exact absurd hx (zpj v)
    · rintro ⟨u, h1, _⟩; unfold inS at h1; omega
theorem zxb {x : CutD} (h : Valid x) (leak : Int) (hl0 : 0 ≤ leak) (hl1 : leak ≤ 10) (d : Nat) (hd : d < x.rain.length) (w : Int × Int) (hw : ∀ v, inS w v → 0 ≤ v ∧ v ≤ x.most) (u : Int) : inS (before (stepBy x leak d) x.most w) u ↔ (0 ≤ u ∧ u ≤ x.most) ∧ ∃ v, Step x leak d u v ∧ inS w v := by
  have hr := h.rain d hd
  have hm := h.m1
  have hm1 := h.m100
  unfold before Step
  by_cases hn : w.1 ≤ w.2
  · rw [if_pos hn, zjo]
    have w1 := hw w.1 ⟨by omega, hn⟩
    have w2 := hw w.2 ⟨hn, by omega⟩
    clear hw
    unfold stepBy held inS
    simp only
    generalize spanAt x.rain d = s at *
    constructor
    · rintro ⟨h1, h2, h3⟩
      refine ⟨h1, ?_⟩
      have a1 : w.1 ≤ max 0 (min x.most (u + s.2 - leak)) := by split at h2 <;> omega
      have a2 : max 0 (min x.most (u + s.1 - leak)) ≤ w.2 := by split at h3 <;> omega
      by_cases c1 : w.1 ≤ max 0 (min x.most (u + s.1 - leak))
      · exact ⟨_, ⟨s.1, by omega, rfl⟩, c1, a2⟩
      · exact ⟨w.1, ⟨w.1 - u + leak, by omega, by omega⟩, by omega, hn⟩
    · rintro ⟨h1, v, ⟨r, h2, rfl⟩, h3⟩
      refine ⟨h1, ?_, ?_⟩
      · split <;> omega
      · split <;> omega
  · rw [if_neg hn]
    constructor
    · intro hx; exact absurd hx (zpj u)
    · rintro ⟨_, v, _, h1⟩; unfold inS at h1; omega
def FR (x : CutD) (leak : Int) (set : Nat) : Nat → Int → Prop
  | 0, v => inS x.depth v ∧ Looks x.looks set 0 v
  | d + 1, v => (∃ u, FR x leak set d u ∧ Step x leak d u v) ∧ Looks x.looks set (d + 1) v
def BR (x : CutD) (leak : Int) (set n : Nat) : Nat → Int → Prop
  | 0, _ => True
  | k + 1, v => ∃ u, Step x leak (n - (k + 1)) v u ∧ Looks x.looks set (n - k) u ∧ BR x leak set n k u
theorem zme {x : CutD} (h : Valid x) (leak : Int) (set : Nat) : ∀ d, d ≤ x.rain.length → ∀ v, inS (forth x leak set d) v ↔ FR x leak set d v
  | 0, _, v => by
    unfold forth FR
    exact zns x.looks 0 set x.depth v
  | d + 1, hd, v => by
    unfold forth FR
    rw [zns, after_in h leak d (by omega)]
    simp only [zme h leak set d (by omega)]
theorem FR_in {x : CutD} (h : Valid x) {leak : Int} {set : Nat} : ∀ {d : Nat} {v : Int}, FR x leak set d v → 0 ≤ v ∧ v ≤ x.most
  | 0, v, hv => by
    have := h.d0; have := h.d2
    have := hv.1; unfold inS at this; omega
  | d + 1, v, hv => by
    obtain ⟨⟨u, _, r, _, rfl⟩, _⟩ := hv
    have := h.m1
    unfold held; omega
theorem zxf {x : CutD} (h : Valid x) (leak : Int) (hl0 : 0 ≤ leak) (hl1 : leak ≤ 10) (set n : Nat) (hn : n = x.rain.length) : ∀ k, k ≤ n → ∀ v, inS (back x leak set n k) v ↔ FR x leak set (n - k) v ∧ BR x leak set n k v
  | 0, _, v => by
    unfold back BR
    rw [zme h leak set n (by omega)]
    simp
  | k + 1, hk, v => by
    have ih := zxf h leak hl0 hl1 set n hn k (by omega)
    unfold back
    rw [zjo, zme h leak set _ (by omega), zxb h leak hl0 hl1 _ (by omega) _ (fun v hv => FR_in h ((ih v).1 hv).1)]
    constructor
    · rintro ⟨h1, _, u, h2, h3⟩
      have h4 := (ih u).1 h3
      refine ⟨h1, ?_⟩
      unfold BR
      refine ⟨u, h2, ?_, h4.2⟩
      have h5 := h4.1
      have e : n - k = (n - (k + 1)) + 1 := by omega
      rw [e] at h5 ⊢
      exact h5.2
    · rintro ⟨h1, h2⟩
      unfold BR at h2
      obtain ⟨u, h3, h4, h5⟩ := h2
      refine ⟨h1, FR_in h h1, u, h3, (ih u).2 ⟨?_, h5⟩⟩
      have e : n - k = (n - (k + 1)) + 1 := by omega
      rw [e] at h4 ⊢
      exact ⟨⟨v, h1, h3⟩, h4⟩
structure Truth (x : CutD) (leak : Int) (set : Nat) (t : Nat → Int) : Prop where
  start : inS x.depth (t 0)
  step : ∀ d, d < x.rain.length → Step x leak d (t d) (t (d + 1))
  looks : ∀ d, d ≤ x.rain.length → Looks x.looks set d (t d)
theorem Truth.fr {x : CutD} {leak : Int} {set : Nat} {t : Nat → Int} (h : Truth x leak set t) : ∀ d, d ≤ x.rain.length → FR x leak set d (t d)
  | 0, _ => ⟨h.start, h.looks 0 (by omega)⟩
  | d + 1, hd => ⟨⟨t d, h.fr d (by omega), h.step d (by omega)⟩, h.looks (d + 1) hd⟩
theorem Truth.br {x : CutD} {leak : Int} {set : Nat} {t : Nat → Int} (h : Truth x leak set t) : ∀ k, k ≤ x.rain.length → BR x leak set x.rain.length k (t (x.rain.length - k))
  | 0, _ => trivial
  | k + 1, hk => by
    unfold BR
    refine ⟨t (x.rain.length - k), ?_, h.looks _ (by omega), h.br k (by omega)⟩
    have e : x.rain.length - k = (x.rain.length - (k + 1)) + 1 := by omega
    rw [e]
    exact h.step _ (by omega)
theorem zvx {x : CutD} {leak : Int} {set : Nat} : ∀ (d : Nat) (v : Int), FR x leak set d v → ∃ t : Nat → Int, t d = v ∧ inS x.depth (t 0) ∧ (∀ i, i < d → Step x leak i (t i) (t (i + 1))) ∧ ∀ i, i ≤ d → Looks x.looks set i (t i)
  | 0, v, h => ⟨fun _ => v, rfl, h.1, fun i hi => by omega, fun i hi => by
      have : i = 0 := by omega
      subst this; exact h.2⟩
  | d + 1, v, h => by
    obtain ⟨⟨u, h1, h2⟩, h3⟩ := h
    obtain ⟨t, t1, t2, t3, t4⟩ := zvx d u h1
    refine ⟨fun i => if i ≤ d then t i else v, if_neg (by omega), by simpa using t2, fun i hi => ?_, fun i hi => ?_⟩
    · by_cases c : i = d
      · subst c
        simp only [Nat.le_refl, if_true]
        rw [if_neg (by omega), t1]; exact h2
      · simp only
        rw [if_pos (by omega), if_pos (by omega)]; exact t3 i (by omega)
    · by_cases c : i ≤ d
      · simp only [c, if_true]; exact t4 i c
      · have : i = d + 1 := by omega
        subst this
        simp only [c, if_false]; exact h3
theorem zwx {x : CutD} {leak : Int} {set n : Nat} : ∀ (k : Nat) (v : Int), k ≤ n → BR x leak set n k v → ∃ t : Nat → Int, t (n - k) = v ∧ (∀ i, n - k ≤ i → i < n → Step x leak i (t i) (t (i + 1))) ∧ ∀ i, n - k < i → i ≤ n → Looks x.looks set i (t i)
  | 0, v, _, _ => ⟨fun _ => v, rfl, fun i h1 h2 => by omega, fun i h1 h2 => by omega⟩
  | k + 1, v, hk, h => by
    unfold BR at h
    obtain ⟨u, h1, h2, h3⟩ := h
    obtain ⟨t, t1, t2, t3⟩ := zwx k u (by omega) h3
    refine ⟨fun i => if i = n - (k + 1) then v else t i, by simp, fun i a b => ?_, fun i a b => ?_⟩
    · simp only
      rw [if_neg (show ¬ i + 1 = n - (k + 1) by omega)]
      by_cases c : i = n - (k + 1)
      · rw [if_pos c]
        have e : i + 1 = n - k := by omega
        rw [e, t1, c]; exact h1
      · rw [if_neg c]; exact t2 i (by omega) b
    · simp only
      rw [if_neg (by omega)]
      by_cases c : i = n - k
      · subst c; rw [t1]; exact h2
      · exact t3 i (by omega) b
theorem truth_of {x : CutD} {leak : Int} {set d : Nat} {v : Int} (hd : d ≤ x.rain.length) (h1 : FR x leak set d v) (h2 : BR x leak set x.rain.length (x.rain.length - d) v) : ∃ t, Truth x leak set t ∧ t d = v := by
  obtain ⟨t, t1, t2, t3, t4⟩ := zvx d v h1
  obtain ⟨s, s1, s2, s3⟩ := zwx _ v (by omega) h2
  have e : x.rain.length - (x.rain.length - d) = d := by omega
  rw [e] at s1 s2 s3
  refine ⟨fun i => if i ≤ d then t i else s i, ⟨?_, ?_, ?_⟩, by simp [t1]⟩
  · simpa using t2
  · intro i hi
    show Step x leak i (if i ≤ d then t i else s i) (if i + 1 ≤ d then t (i + 1) else s (i + 1))
    by_cases c : i < d
    · rw [if_pos (by omega), if_pos (by omega)]; exact t3 i c
    · rw [if_neg (show ¬ i + 1 ≤ d by omega)]
      by_cases c' : i = d
      · subst c'
        rw [if_pos (Nat.le_refl _), t1, ← s1]; exact s2 i (by omega) hi
      · rw [if_neg (by omega)]; exact s2 i (by omega) hi
  · intro i hi
    by_cases c : i ≤ d
    · simp only [c, if_true]; exact t4 i c
    · simp only [c, if_false]; exact s3 i (by omega) hi
theorem zcs {x : CutD} (h : Valid x) (leak : Int) (hl0 : 0 ≤ leak) (hl1 : leak ≤ 10) (set d : Nat) (hd : d ≤ x.rain.length) (v : Int) : inS (seasonAt x leak set d) v ↔ ∃ t, Truth x leak set t ∧ t d = v := by
  unfold seasonAt
  rw [if_pos hd, zxf h leak hl0 hl1 set _ rfl _ (by omega)]
  have e : x.rain.length - (x.rain.length - d) = d := by omega
  rw [e]
  constructor
  · rintro ⟨h1, h2⟩; exact truth_of hd h1 h2
  · rintro ⟨t, ht, rfl⟩
    refine ⟨ht.fr d hd, ?_⟩
    have := ht.br (x.rain.length - d) (by omega)
    rw [e] at this; exact this
theorem can_iff {x : CutD} (h : Valid x) (set : Nat) : can x set = true ↔ ∃ leak, inS x.leak leak ∧ ∃ t, Truth x leak set t := by
  unfold can
  rw [List.any_eq_true]
  have hl : ∀ leak, leak ∈ leaks x ↔ inS x.leak leak := by
    intro leak
    unfold leaks inS
    rw [List.mem_map]
    constructor
    · rintro ⟨i, hi, rfl⟩
      rw [List.mem_range] at hi
      omega
    · rintro ⟨h1, h2⟩
      exact ⟨(leak - x.leak.1).toNat, by rw [List.mem_range]; omega, by omega⟩
  have := h.l0; have := h.l2
  constructor
  · rintro ⟨leak, h1, h2⟩
    have h3 := (hl leak).1 h1
    refine ⟨leak, h3, ?_⟩
    obtain ⟨v, hv⟩ := (zez _).1 h2
    unfold inS at h3
    obtain ⟨t, ht, _⟩ := (zcs h leak (by omega) (by omega) set 0 (by omega) v).1 hv
    exact ⟨t, ht⟩
  · rintro ⟨leak, h3, t, ht⟩
    refine ⟨leak, (hl leak).2 h3, (zez _).2 ⟨t 0, ?_⟩⟩
    unfold inS at h3
    exact (zcs h leak (by omega) (by omega) set 0 (by omega) _).2 ⟨t, ht, rfl⟩
end Cut
end Go.Proofs.YtlkhjnpflohfeaaDoor

/- The code of the reference of chapter 06 and of the laws that compare with it, for the evaluator. Printed by program. -/
namespace Go.Proofs.YtlkhjnpflohfeaaDoor
open Go
namespace Ev
namespace R
set_option maxRecDepth 100000
def af4 : AFunc := ⟨130, [(.tmp 8)], (.seq (.ops [⟨0, (some 4), (.box (.tmp 0)), none, 0⟩, ⟨1, (some 8), (.mov (.val (.bool false))), none, 0⟩]) (.seq (.seq (.ops [⟨0, (some 27), (.load (some 8) (.tmp 4)), none, 0⟩, ⟨1, (some 28), (.call (.val (.fn (Fn.func 12) [] [])) [(.tmp 27), (.val (.int .i64 20))]), none, 0⟩]) (.cond (.tmp 28) (.seq (.ops [⟨0, (some 29), (.call (.val (.fn (Fn.func 13) [] [])) []), none, 0⟩, ⟨1, (some 8), (.mov (.tmp 29)), none, 0⟩]) .ret) .skip)) (.seq (.ops [⟨0, (some 31), (.load (some 8) (.tmp 4)), none, 0⟩, ⟨1, (some 32), (.mov (.tmp 1)), none, 0⟩, ⟨2, (some 33), (.mov (.tmp 2)), none, 0⟩, ⟨3, (some 34), (.call (.val (.fn (Fn.func 22) [] [])) [(.tmp 31), (.tmp 32), (.tmp 33)]), none, 0⟩, ⟨4, (some 30), (.mov (.tmp 34)), none, 0⟩, ⟨5, (some 35), (.extract (.tmp 30) 0), none, 0⟩, ⟨6, (some 36), (.extract (.tmp 30) 1), none, 0⟩, ⟨7, (some 37), (.extract (.tmp 30) 2), none, 0⟩, ⟨8, (some 9), (.mov (.tmp 35)), none, 0⟩, ⟨9, (some 10), (.mov (.tmp 36)), none, 0⟩, ⟨10, (some 11), (.mov (.tmp 37)), none, 0⟩]) (.seq (.ops [⟨0, (some 39), (.load (some 8) (.tmp 4)), none, 0⟩, ⟨1, (some 40), (.mov (.tmp 1)), none, 0⟩, ⟨2, (some 41), (.mov (.tmp 2)), none, 0⟩, ⟨3, (some 42), (.call (.val (.fn (Fn.func 23) [] [])) [(.tmp 39), (.tmp 40), (.tmp 41)]), none, 0⟩, ⟨4, (some 38), (.mov (.tmp 42)), none, 0⟩, ⟨5, (some 43), (.extract (.tmp 38) 0), none, 0⟩, ⟨6, (some 44), (.extract (.tmp 38) 1), none, 0⟩, ⟨7, (some 45), (.extract (.tmp 38) 2), none, 0⟩, ⟨8, (some 12), (.mov (.tmp 43)), none, 0⟩, ⟨9, (some 13), (.mov (.tmp 44)), none, 0⟩, ⟨10, (some 14), (.mov (.tmp 45)), none, 0⟩]) (.seq (.ops [⟨0, (some 47), (.load (some 8) (.tmp 4)), none, 0⟩, ⟨1, (some 48), (.mov (.tmp 1)), none, 0⟩, ⟨2, (some 49), (.mov (.tmp 2)), none, 0⟩, ⟨3, (some 50), (.mov (.tmp 3)), none, 0⟩, ⟨4, (some 51), (.call (.val (.fn (Fn.func 24) [] [])) [(.tmp 47), (.tmp 48), (.tmp 49), (.tmp 50)]), none, 0⟩, ⟨5, (some 46), (.mov (.tmp 51)), none, 0⟩, ⟨6, (some 52), (.extract (.tmp 46) 0), none, 0⟩, ⟨7, (some 53), (.extract (.tmp 46) 1), none, 0⟩, ⟨8, (some 15), (.mov (.tmp 52)), none, 0⟩, ⟨9, (some 16), (.mov (.tmp 53)), none, 0⟩]) (.seq (.ops [⟨0, (some 55), (.load (some 8) (.tmp 4)), none, 0⟩, ⟨1, (some 56), (.mov (.tmp 1)), none, 0⟩, ⟨2, (some 57), (.mov (.tmp 2)), none, 0⟩, ⟨3, (some 58), (.mov (.tmp 3)), none, 0⟩, ⟨4, (some 59), (.call (.val (.fn (Fn.func 25) [] [])) [(.tmp 55), (.tmp 56), (.tmp 57), (.tmp 58)]), none, 0⟩, ⟨5, (some 54), (.mov (.tmp 59)), none, 0⟩, ⟨6, (some 60), (.extract (.tmp 54) 0), none, 0⟩, ⟨7, (some 61), (.extract (.tmp 54) 1), none, 0⟩, ⟨8, (some 17), (.mov (.tmp 60)), none, 0⟩, ⟨9, (some 18), (.mov (.tmp 61)), none, 0⟩]) (.seq (.ops [⟨0, (some 63), (.load (some 8) (.tmp 4)), none, 0⟩, ⟨1, (some 64), (.mov (.tmp 3)), none, 0⟩, ⟨2, (some 65), (.call (.val (.fn (Fn.func 26) [] [])) [(.tmp 63), (.tmp 64)]), none, 0⟩, ⟨3, (some 62), (.mov (.tmp 65)), none, 0⟩, ⟨4, (some 66), (.extract (.tmp 62) 0), none, 0⟩, ⟨5, (some 67), (.extract (.tmp 62) 1), none, 0⟩, ⟨6, (some 19), (.mov (.tmp 66)), none, 0⟩, ⟨7, (some 20), (.mov (.tmp 67)), none, 0⟩]) (.seq (.ops [⟨0, (some 69), (.load (some 8) (.tmp 4)), none, 0⟩, ⟨1, (some 70), (.mov (.tmp 3)), none, 0⟩, ⟨2, (some 71), (.call (.val (.fn (Fn.func 27) [] [])) [(.tmp 69), (.tmp 70)]), none, 0⟩, ⟨3, (some 68), (.mov (.tmp 71)), none, 0⟩, ⟨4, (some 72), (.extract (.tmp 68) 0), none, 0⟩, ⟨5, (some 73), (.extract (.tmp 68) 1), none, 0⟩, ⟨6, (some 21), (.mov (.tmp 72)), none, 0⟩, ⟨7, (some 22), (.mov (.tmp 73)), none, 0⟩]) (.seq (.ops [⟨0, (some 75), (.load (some 8) (.tmp 4)), none, 0⟩, ⟨1, (some 76), (.call (.val (.fn (Fn.func 28) [] [])) [(.tmp 75)]), none, 0⟩, ⟨2, (some 74), (.mov (.tmp 76)), none, 0⟩, ⟨3, (some 77), (.extract (.tmp 74) 0), none, 0⟩, ⟨4, (some 78), (.extract (.tmp 74) 1), none, 0⟩, ⟨5, (some 23), (.mov (.tmp 77)), none, 0⟩, ⟨6, (some 24), (.mov (.tmp 78)), none, 0⟩]) (.seq (.ops [⟨0, (some 80), (.load (some 8) (.tmp 4)), none, 0⟩, ⟨1, (some 81), (.call (.val (.fn (Fn.func 29) [] [])) [(.tmp 80)]), none, 0⟩, ⟨2, (some 79), (.mov (.tmp 81)), none, 0⟩, ⟨3, (some 82), (.extract (.tmp 79) 0), none, 0⟩, ⟨4, (some 83), (.extract (.tmp 79) 1), none, 0⟩, ⟨5, (some 25), (.mov (.tmp 82)), none, 0⟩, ⟨6, (some 26), (.mov (.tmp 83)), none, 0⟩]) (.seq (.ops [⟨0, (some 84), (.mov (.tmp 9)), none, 0⟩, ⟨1, (some 85), (.mov (.tmp 12)), none, 0⟩, ⟨2, (some 86), (.bin .eql (.tmp 84) (.tmp 85)), none, 0⟩, ⟨3, (some 87), (.mov (.tmp 86)), none, 0⟩, ⟨4, (some 88), (.mov (.tmp 10)), (some (87, true)), 0⟩, ⟨5, (some 89), (.mov (.tmp 13)), (some (87, true)), 0⟩, ⟨6, (some 90), (.bin .eql (.tmp 88) (.tmp 89)), (some (87, true)), 0⟩, ⟨7, (some 91), (.pick (.tmp 87) (.tmp 90) (.val (.bool false))), none, 0⟩, ⟨8, (some 92), (.mov (.tmp 91)), none, 0⟩, ⟨9, (some 93), (.mov (.tmp 11)), (some (92, true)), 0⟩, ⟨10, (some 94), (.mov (.tmp 14)), (some (92, true)), 0⟩, ⟨11, (some 95), (.bin .eql (.tmp 93) (.tmp 94)), (some (92, true)), 0⟩, ⟨12, (some 96), (.pick (.tmp 92) (.tmp 95) (.val (.bool false))), none, 0⟩, ⟨13, (some 97), (.mov (.tmp 96)), none, 0⟩, ⟨14, (some 98), (.mov (.tmp 15)), (some (97, true)), 0⟩, ⟨15, (some 99), (.mov (.tmp 17)), (some (97, true)), 0⟩, ⟨16, (some 100), (.bin .eql (.tmp 98) (.tmp 99)), (some (97, true)), 0⟩, ⟨17, (some 101), (.pick (.tmp 97) (.tmp 100) (.val (.bool false))), none, 0⟩, ⟨18, (some 102), (.mov (.tmp 101)), none, 0⟩, ⟨19, (some 103), (.mov (.tmp 16)), (some (102, true)), 0⟩, ⟨20, (some 104), (.mov (.tmp 18)), (some (102, true)), 0⟩, ⟨21, (some 105), (.bin .eql (.tmp 103) (.tmp 104)), (some (102, true)), 0⟩, ⟨22, (some 106), (.pick (.tmp 102) (.tmp 105) (.val (.bool false))), none, 0⟩, ⟨23, (some 107), (.mov (.tmp 106)), none, 0⟩, ⟨24, (some 108), (.mov (.tmp 19)), (some (107, true)), 0⟩, ⟨25, (some 109), (.mov (.tmp 21)), (some (107, true)), 0⟩, ⟨26, (some 110), (.bin .eql (.tmp 108) (.tmp 109)), (some (107, true)), 0⟩, ⟨27, (some 111), (.pick (.tmp 107) (.tmp 110) (.val (.bool false))), none, 0⟩, ⟨28, (some 112), (.mov (.tmp 111)), none, 0⟩, ⟨29, (some 113), (.mov (.tmp 20)), (some (112, true)), 0⟩, ⟨30, (some 114), (.mov (.tmp 22)), (some (112, true)), 0⟩, ⟨31, (some 115), (.bin .eql (.tmp 113) (.tmp 114)), (some (112, true)), 0⟩, ⟨32, (some 116), (.pick (.tmp 112) (.tmp 115) (.val (.bool false))), none, 0⟩, ⟨33, (some 117), (.mov (.tmp 116)), none, 0⟩, ⟨34, (some 118), (.mov (.tmp 23)), (some (117, true)), 0⟩, ⟨35, (some 119), (.mov (.tmp 25)), (some (117, true)), 0⟩, ⟨36, (some 120), (.bin .eql (.tmp 118) (.tmp 119)), (some (117, true)), 0⟩, ⟨37, (some 121), (.pick (.tmp 117) (.tmp 120) (.val (.bool false))), none, 0⟩, ⟨38, (some 122), (.mov (.tmp 121)), none, 0⟩, ⟨39, (some 123), (.mov (.tmp 24)), (some (122, true)), 0⟩, ⟨40, (some 124), (.mov (.tmp 26)), (some (122, true)), 0⟩, ⟨41, (some 125), (.bin .eql (.tmp 123) (.tmp 124)), (some (122, true)), 0⟩, ⟨42, (some 126), (.pick (.tmp 122) (.tmp 125) (.val (.bool false))), none, 0⟩, ⟨43, (some 127), (.mov (.tmp 126)), none, 0⟩, ⟨44, (some 128), (.call (.val (.fn (Fn.func 13) [] [])) []), (some (127, true)), 0⟩, ⟨45, (some 129), (.pick (.tmp 127) (.tmp 128) (.val (.bool false))), none, 0⟩, ⟨46, (some 8), (.mov (.tmp 129)), none, 0⟩]) .ret)))))))))))⟩
def af12 : AFunc := ⟨17, [(.tmp 4)], (.seq (.ops [⟨0, (some 2), (.box (.tmp 0)), none, 0⟩, ⟨1, (some 4), (.mov (.val (.bool false))), none, 0⟩]) (.seq (.ops [⟨0, (some 5), (.load (some 8) (.tmp 2)), none, 0⟩, ⟨1, (some 6), (.call (.val (.fn (Fn.func 34) [] [])) [(.tmp 5)]), none, 0⟩, ⟨2, (some 7), (.mov (.tmp 6)), none, 0⟩, ⟨3, (some 8), (.load (some 8) (.tmp 2)), (some (7, false)), 0⟩, ⟨4, (some 9), (.call (.val (.fn (Fn.func 35) [] [])) [(.tmp 8)]), (some (7, false)), 0⟩, ⟨5, (some 10), (.mov (.tmp 9)), (some (7, false)), 0⟩, ⟨6, (some 11), (.fieldA 5 (.tmp 2)), (some (10, true)), 0⟩, ⟨7, (some 12), (.load none (.tmp 11)), (some (10, true)), 0⟩, ⟨8, (some 13), (.mov (.tmp 1)), (some (10, true)), 0⟩, ⟨9, (some 14), (.bin .gtr (.tmp 12) (.tmp 13)), (some (10, true)), 0⟩, ⟨10, (some 15), (.pick (.tmp 10) (.tmp 14) (.val (.bool false))), (some (7, false)), 0⟩, ⟨11, (some 16), (.pick (.tmp 7) (.val (.bool true)) (.tmp 15)), none, 0⟩, ⟨12, (some 4), (.mov (.tmp 16)), none, 0⟩]) .ret))⟩
def af23 : AFunc := ⟨59, [(.tmp 6), (.tmp 7), (.tmp 8)], (.seq (.ops [⟨0, (some 3), (.box (.tmp 0)), none, 0⟩, ⟨1, (some 6), (.mov (.val (.int .i64 0))), none, 0⟩, ⟨2, (some 7), (.mov (.val (.int .i64 0))), none, 0⟩, ⟨3, (some 8), (.mov (.val (.int .i64 0))), none, 0⟩]) (.seq (.draw [⟨0, (some 16), (.load (some 8) (.tmp 3)), none, 0⟩, ⟨1, (some 17), (.load (some 8) (.tmp 3)), none, 0⟩, ⟨2, (some 18), (.mov (.tmp 1)), none, 0⟩, ⟨3, (some 19), (.mov (.tmp 2)), none, 0⟩, ⟨4, (some 20), (.call (.val (.fn (Fn.func 60) [] [])) [(.tmp 17), (.tmp 18), (.tmp 19)]), none, 14⟩, ⟨5, (some 21), (.call (.val (.fn (Fn.func 48) [] [])) [(.tmp 16), (.tmp 20)]), none, 31⟩, ⟨6, (some 15), (.mov (.tmp 21)), none, 63⟩, ⟨7, (some 22), (.extract (.tmp 15) 0), none, 127⟩, ⟨8, (some 23), (.extract (.tmp 15) 1), none, 127⟩, ⟨9, (some 9), (.mov (.tmp 22)), none, 255⟩, ⟨10, (some 10), (.mov (.tmp 23)), none, 1023⟩]) (.seq (.seq (.ops [⟨0, (some 24), (.mov (.tmp 10)), none, 0⟩, ⟨1, (some 25), (.bin .neq (.tmp 24) (.val (.int .i64 0))), none, 0⟩]) (.cond (.tmp 25) (.seq (.ops [⟨0, (some 26), (.mov (.tmp 10)), none, 0⟩, ⟨1, (some 6), (.mov (.val (.int .i64 0))), none, 0⟩, ⟨2, (some 7), (.mov (.val (.int .i64 0))), none, 0⟩, ⟨3, (some 8), (.mov (.tmp 26)), none, 0⟩]) .ret) .skip)) (.seq (.ops [⟨0, (some 11), (.mov (.val (.int .i64 0))), none, 0⟩, ⟨1, (some 12), (.mov (.val (.int .i64 0))), none, 0⟩]) (.seq (.seq (.ops [⟨0, (some 13), (.mov (.val (.int .i64 0))), none, 0⟩]) (.block 0 (.loop [1, 2, 3, 9, 11, 12, 13] (.seq (.seq (.ops [⟨0, (some 27), (.mov (.tmp 13)), none, 0⟩, ⟨1, (some 28), (.fieldA 4 (.tmp 3)), none, 0⟩, ⟨2, (some 29), (.load none (.tmp 28)), none, 0⟩, ⟨3, (some 30), (.len (.tmp 29)), none, 0⟩, ⟨4, (some 31), (.bin .leq (.tmp 27) (.tmp 30)), none, 0⟩]) (.cond (.tmp 31) .skip (.exit 0))) (.seq (.block 1 (.seq (.draw [⟨0, (some 34), (.fieldA 6 (.tmp 3)), none, 0⟩, ⟨1, (some 35), (.load none (.tmp 34)), none, 1⟩, ⟨2, (some 36), (.mov (.tmp 1)), none, 0⟩, ⟨3, (some 37), (.indexA 4 none (.tmp 35) (.tmp 36)), none, 7⟩, ⟨4, (some 38), (.load (some 4) (.tmp 37)), none, 15⟩, ⟨5, (some 39), (.mov (.tmp 2)), none, 0⟩, ⟨6, (some 40), (.load (some 8) (.tmp 3)), none, 0⟩, ⟨7, (some 41), (.mov (.tmp 9)), none, 0⟩, ⟨8, (some 42), (.mov (.tmp 13)), none, 0⟩, ⟨9, (some 43), (.call (.val (.fn (Fn.func 50) [] [])) [(.tmp 40), (.tmp 41), (.tmp 42)]), none, 448⟩, ⟨10, (some 44), (.call (.val (.fn (Fn.func 61) [] [])) [(.tmp 38), (.tmp 39), (.tmp 43)]), none, 1023⟩, ⟨11, (some 14), (.mov (.tmp 44)), none, 2047⟩]) (.seq (.seq (.ops [⟨0, (some 45), (.mov (.tmp 14)), none, 0⟩, ⟨1, (some 46), (.bin .eql (.tmp 45) (.val (.int .i64 2))), none, 0⟩]) (.cond (.tmp 46) (.ops [⟨0, (some 47), (.mov (.tmp 11)), none, 0⟩, ⟨1, (some 48), (.mov (.tmp 13)), none, 0⟩, ⟨2, (some 49), (.call (.val (.fn (Fn.func 68) [] [])) [(.tmp 48)]), none, 0⟩, ⟨3, (some 50), (.bin .add (.tmp 47) (.tmp 49)), none, 0⟩, ⟨4, (some 11), (.mov (.tmp 50)), none, 0⟩]) .skip)) (.seq (.ops [⟨0, (some 51), (.mov (.tmp 14)), none, 0⟩, ⟨1, (some 52), (.bin .neq (.tmp 51) (.val (.int .i64 0))), none, 0⟩]) (.cond (.tmp 52) (.ops [⟨0, (some 53), (.mov (.tmp 12)), none, 0⟩, ⟨1, (some 54), (.mov (.tmp 13)), none, 0⟩, ⟨2, (some 55), (.call (.val (.fn (Fn.func 68) [] [])) [(.tmp 54)]), none, 0⟩, ⟨3, (some 56), (.bin .add (.tmp 53) (.tmp 55)), none, 0⟩, ⟨4, (some 12), (.mov (.tmp 56)), none, 0⟩]) .skip))))) (.ops [⟨0, (some 32), (.mov (.tmp 13)), none, 0⟩, ⟨1, (some 33), (.bin .add (.tmp 32) (.val (.int .i64 1))), none, 0⟩, ⟨2, (some 13), (.mov (.tmp 33)), none, 0⟩])))))) (.seq (.ops [⟨0, (some 57), (.mov (.tmp 11)), none, 0⟩, ⟨1, (some 58), (.mov (.tmp 12)), none, 0⟩, ⟨2, (some 6), (.mov (.tmp 57)), none, 0⟩, ⟨3, (some 7), (.mov (.tmp 58)), none, 0⟩, ⟨4, (some 8), (.mov (.val (.int .i64 0))), none, 0⟩]) .ret))))))⟩
def af25 : AFunc := ⟨51, [(.tmp 8), (.tmp 9)], (.seq (.ops [⟨0, (some 4), (.box (.tmp 0)), none, 0⟩, ⟨1, (some 8), (.mov (.val (.int .i64 0))), none, 0⟩, ⟨2, (some 9), (.mov (.val (.int .i64 0))), none, 0⟩]) (.seq (.draw [⟨0, (some 14), (.load (some 8) (.tmp 4)), none, 0⟩, ⟨1, (some 15), (.load (some 8) (.tmp 4)), none, 0⟩, ⟨2, (some 16), (.mov (.tmp 1)), none, 0⟩, ⟨3, (some 17), (.mov (.tmp 2)), none, 0⟩, ⟨4, (some 18), (.call (.val (.fn (Fn.func 60) [] [])) [(.tmp 15), (.tmp 16), (.tmp 17)]), none, 14⟩, ⟨5, (some 19), (.mov (.tmp 18)), none, 30⟩, ⟨6, (some 20), (.load (some 8) (.tmp 4)), (some (19, true)), 62⟩, ⟨7, (some 21), (.mov (.tmp 3)), (some (19, true)), 62⟩, ⟨8, (some 22), (.call (.val (.fn (Fn.func 49) [] [])) [(.tmp 20), (.tmp 21)]), (some (19, true)), 254⟩, ⟨9, (some 23), (.pick (.tmp 19) (.tmp 22) (.val (.bool false))), none, 510⟩, ⟨10, (some 24), (.call (.val (.fn (Fn.func 48) [] [])) [(.tmp 14), (.tmp 23)]), none, 1023⟩, ⟨11, (some 13), (.mov (.tmp 24)), none, 2047⟩, ⟨12, (some 25), (.extract (.tmp 13) 0), none, 4095⟩, ⟨13, (some 26), (.extract (.tmp 13) 1), none, 4095⟩, ⟨14, (some 10), (.mov (.tmp 25)), none, 8191⟩, ⟨15, (some 11), (.mov (.tmp 26)), none, 32767⟩]) (.seq (.seq (.ops [⟨0, (some 27), (.mov (.tmp 11)), none, 0⟩, ⟨1, (some 28), (.bin .neq (.tmp 27) (.val (.int .i64 0))), none, 0⟩]) (.cond (.tmp 28) (.seq (.ops [⟨0, (some 29), (.mov (.tmp 11)), none, 0⟩, ⟨1, (some 8), (.mov (.val (.int .i64 0))), none, 0⟩, ⟨2, (some 9), (.mov (.tmp 29)), none, 0⟩]) .ret) .skip)) (.seq (.seq (.ops [⟨0, (some 30), (.mov (.tmp 3)), none, 0⟩, ⟨1, (some 12), (.mov (.tmp 30)), none, 0⟩]) (.block 0 (.loop [1, 2, 4, 10, 12] (.seq (.seq (.ops [⟨0, (some 31), (.mov (.tmp 12)), none, 0⟩, ⟨1, (some 32), (.fieldA 4 (.tmp 4)), none, 0⟩, ⟨2, (some 33), (.load none (.tmp 32)), none, 0⟩, ⟨3, (some 34), (.len (.tmp 33)), none, 0⟩, ⟨4, (some 35), (.bin .leq (.tmp 31) (.tmp 34)), none, 0⟩]) (.cond (.tmp 35) .skip (.exit 0))) (.seq (.block 1 (.seq (.draw [⟨0, (some 38), (.fieldA 6 (.tmp 4)), none, 0⟩, ⟨1, (some 39), (.load none (.tmp 38)), none, 1⟩, ⟨2, (some 40), (.mov (.tmp 1)), none, 0⟩, ⟨3, (some 41), (.indexA 4 none (.tmp 39) (.tmp 40)), none, 7⟩, ⟨4, (some 42), (.load (some 4) (.tmp 41)), none, 15⟩, ⟨5, (some 43), (.mov (.tmp 2)), none, 0⟩, ⟨6, (some 44), (.load (some 8) (.tmp 4)), none, 0⟩, ⟨7, (some 45), (.mov (.tmp 10)), none, 0⟩, ⟨8, (some 46), (.mov (.tmp 12)), none, 0⟩, ⟨9, (some 47), (.call (.val (.fn (Fn.func 50) [] [])) [(.tmp 44), (.tmp 45), (.tmp 46)]), none, 448⟩, ⟨10, (some 48), (.call (.val (.fn (Fn.func 61) [] [])) [(.tmp 42), (.tmp 43), (.tmp 47)]), none, 1023⟩, ⟨11, (some 49), (.bin .eql (.tmp 48) (.val (.int .i64 2))), none, 2047⟩]) (.cond (.tmp 49) (.seq (.ops [⟨0, (some 50), (.mov (.tmp 12)), none, 0⟩, ⟨1, (some 8), (.mov (.tmp 50)), none, 0⟩, ⟨2, (some 9), (.mov (.val (.int .i64 0))), none, 0⟩]) .ret) .skip))) (.ops [⟨0, (some 36), (.mov (.tmp 12)), none, 0⟩, ⟨1, (some 37), (.bin .add (.tmp 36) (.val (.int .i64 1))), none, 0⟩, ⟨2, (some 12), (.mov (.tmp 37)), none, 0⟩])))))) (.seq (.ops [⟨0, (some 8), (.mov (.val (.int .i64 0))), none, 0⟩, ⟨1, (some 9), (.mov (.val (.int .i64 4))), none, 0⟩]) .ret)))))⟩
def af27 : AFunc := ⟨42, [(.tmp 4), (.tmp 5)], (.seq (.ops [⟨0, (some 2), (.box (.tmp 0)), none, 0⟩, ⟨1, (some 4), (.mov (.val (.int .i64 0))), none, 0⟩, ⟨2, (some 5), (.mov (.val (.int .i64 0))), none, 0⟩]) (.seq (.draw [⟨0, (some 11), (.load (some 8) (.tmp 2)), none, 0⟩, ⟨1, (some 12), (.load (some 8) (.tmp 2)), none, 0⟩, ⟨2, (some 13), (.mov (.tmp 1)), none, 0⟩, ⟨3, (some 14), (.call (.val (.fn (Fn.func 49) [] [])) [(.tmp 12), (.tmp 13)]), none, 6⟩, ⟨4, (some 15), (.call (.val (.fn (Fn.func 48) [] [])) [(.tmp 11), (.tmp 14)]), none, 15⟩, ⟨5, (some 10), (.mov (.tmp 15)), none, 31⟩, ⟨6, (some 16), (.extract (.tmp 10) 0), none, 63⟩, ⟨7, (some 17), (.extract (.tmp 10) 1), none, 63⟩, ⟨8, (some 6), (.mov (.tmp 16)), none, 127⟩, ⟨9, (some 7), (.mov (.tmp 17)), none, 511⟩]) (.seq (.seq (.ops [⟨0, (some 18), (.mov (.tmp 7)), none, 0⟩, ⟨1, (some 19), (.bin .neq (.tmp 18) (.val (.int .i64 0))), none, 0⟩]) (.cond (.tmp 19) (.seq (.ops [⟨0, (some 20), (.mov (.tmp 7)), none, 0⟩, ⟨1, (some 4), (.mov (.val (.int .i64 0))), none, 0⟩, ⟨2, (some 5), (.mov (.tmp 20)), none, 0⟩]) .ret) .skip)) (.seq (.ops [⟨0, (some 8), (.mov (.val (.int .i64 0))), none, 0⟩]) (.seq (.seq (.ops [⟨0, (some 9), (.mov (.val (.int .i64 0))), none, 0⟩]) (.block 0 (.loop [1, 2, 6, 8, 9] (.seq (.seq (.ops [⟨0, (some 21), (.mov (.tmp 9)), none, 0⟩, ⟨1, (some 22), (.fieldA 6 (.tmp 2)), none, 0⟩, ⟨2, (some 23), (.load none (.tmp 22)), none, 0⟩, ⟨3, (some 24), (.len (.tmp 23)), none, 0⟩, ⟨4, (some 25), (.bin .lss (.tmp 21) (.tmp 24)), none, 0⟩]) (.cond (.tmp 25) .skip (.exit 0))) (.seq (.block 1 (.draw [⟨0, (some 28), (.mov (.tmp 8)), none, 0⟩, ⟨1, (some 29), (.fieldA 6 (.tmp 2)), none, 0⟩, ⟨2, (some 30), (.load none (.tmp 29)), none, 2⟩, ⟨3, (some 31), (.mov (.tmp 9)), none, 0⟩, ⟨4, (some 32), (.indexA 4 none (.tmp 30) (.tmp 31)), none, 14⟩, ⟨5, (some 33), (.load (some 4) (.tmp 32)), none, 30⟩, ⟨6, (some 34), (.load (some 8) (.tmp 2)), none, 0⟩, ⟨7, (some 35), (.mov (.tmp 6)), none, 0⟩, ⟨8, (some 36), (.mov (.tmp 1)), none, 0⟩, ⟨9, (some 37), (.call (.val (.fn (Fn.func 50) [] [])) [(.tmp 34), (.tmp 35), (.tmp 36)]), none, 448⟩, ⟨10, (some 38), (.call (.val (.fn (Fn.func 66) [] [])) [(.tmp 33), (.tmp 37), (.val (.int .i64 2))]), none, 1022⟩, ⟨11, (some 39), (.max [(.val (.int .i64 0)), (.tmp 38)]), none, 2046⟩, ⟨12, (some 40), (.bin .add (.tmp 28) (.tmp 39)), none, 4095⟩, ⟨13, (some 8), (.mov (.tmp 40)), none, 8191⟩])) (.ops [⟨0, (some 26), (.mov (.tmp 9)), none, 0⟩, ⟨1, (some 27), (.bin .add (.tmp 26) (.val (.int .i64 1))), none, 0⟩, ⟨2, (some 9), (.mov (.tmp 27)), none, 0⟩])))))) (.seq (.ops [⟨0, (some 41), (.mov (.tmp 8)), none, 0⟩, ⟨1, (some 4), (.mov (.tmp 41)), none, 0⟩, ⟨2, (some 5), (.mov (.val (.int .i64 0))), none, 0⟩]) .ret))))))⟩
def af29 : AFunc := ⟨37, [(.tmp 2), (.tmp 3)], (.seq (.ops [⟨0, (some 1), (.box (.tmp 0)), none, 0⟩, ⟨1, (some 2), (.mov (.val (.int .i64 0))), none, 0⟩, ⟨2, (some 3), (.mov (.val (.int .i64 0))), none, 0⟩]) (.seq (.seq (.ops [⟨0, (some 6), (.load (some 8) (.tmp 1)), none, 0⟩, ⟨1, (some 7), (.call (.val (.fn (Fn.func 35) [] [])) [(.tmp 6)]), none, 0⟩, ⟨2, (some 8), (.not (.tmp 7)), none, 0⟩]) (.cond (.tmp 8) (.seq (.ops [⟨0, (some 2), (.mov (.val (.int .i64 0))), none, 0⟩, ⟨1, (some 3), (.mov (.val (.int .i64 1))), none, 0⟩]) .ret) .skip)) (.seq (.seq (.draw [⟨0, (some 9), (.load (some 8) (.tmp 1)), none, 0⟩, ⟨1, (some 10), (.load (some 8) (.tmp 1)), none, 0⟩, ⟨2, (some 11), (.call (.val (.fn (Fn.func 78) [] [])) [(.tmp 10)]), none, 2⟩, ⟨3, (some 12), (.call (.val (.fn (Fn.func 77) [] [])) [(.tmp 9), (.tmp 11)]), none, 7⟩, ⟨4, (some 13), (.len (.tmp 12)), none, 15⟩, ⟨5, (some 14), (.bin .gtr (.tmp 13) (.val (.int .i64 0))), none, 31⟩]) (.cond (.tmp 14) (.seq (.ops [⟨0, (some 2), (.mov (.val (.int .i64 0))), none, 0⟩, ⟨1, (some 3), (.mov (.val (.int .i64 4))), none, 0⟩]) .ret) .skip)) (.seq (.ops [⟨0, (some 15), (.load (some 8) (.tmp 1)), none, 0⟩, ⟨1, (some 16), (.call (.val (.fn (Fn.func 78) [] [])) [(.tmp 15)]), none, 0⟩, ⟨2, (some 4), (.mov (.tmp 16)), none, 0⟩]) (.seq (.seq (.ops [⟨0, (some 5), (.mov (.val (.int .i64 0))), none, 0⟩]) (.block 0 (.loop [1, 4, 5] (.seq (.seq (.ops [⟨0, (some 17), (.mov (.tmp 5)), none, 0⟩, ⟨1, (some 18), (.load (some 8) (.tmp 1)), none, 0⟩, ⟨2, (some 19), (.call (.val (.fn (Fn.func 78) [] [])) [(.tmp 18)]), none, 0⟩, ⟨3, (some 20), (.bin .leq (.tmp 17) (.tmp 19)), none, 0⟩]) (.cond (.tmp 20) .skip (.exit 0))) (.seq (.block 1 (.seq (.ops [⟨0, (some 23), (.mov (.tmp 5)), none, 0⟩, ⟨1, (some 24), (.call (.val (.fn (Fn.func 39) [] [])) [(.tmp 23)]), none, 0⟩, ⟨2, (some 25), (.mov (.tmp 4)), none, 0⟩, ⟨3, (some 26), (.call (.val (.fn (Fn.func 39) [] [])) [(.tmp 25)]), none, 0⟩, ⟨4, (some 27), (.bin .lss (.tmp 24) (.tmp 26)), none, 0⟩, ⟨5, (some 28), (.mov (.tmp 27)), none, 0⟩, ⟨6, (some 29), (.load (some 8) (.tmp 1)), (some (28, true)), 0⟩, ⟨7, (some 30), (.mov (.tmp 5)), (some (28, true)), 0⟩, ⟨8, (some 31), (.call (.val (.fn (Fn.func 77) [] [])) [(.tmp 29), (.tmp 30)]), (some (28, true)), 0⟩, ⟨9, (some 32), (.len (.tmp 31)), (some (28, true)), 0⟩, ⟨10, (some 33), (.bin .eql (.tmp 32) (.val (.int .i64 0))), (some (28, true)), 0⟩, ⟨11, (some 34), (.pick (.tmp 28) (.tmp 33) (.val (.bool false))), none, 0⟩]) (.cond (.tmp 34) (.ops [⟨0, (some 35), (.mov (.tmp 5)), none, 0⟩, ⟨1, (some 4), (.mov (.tmp 35)), none, 0⟩]) .skip))) (.ops [⟨0, (some 21), (.mov (.tmp 5)), none, 0⟩, ⟨1, (some 22), (.bin .add (.tmp 21) (.val (.int .i64 1))), none, 0⟩, ⟨2, (some 5), (.mov (.tmp 22)), none, 0⟩])))))) (.seq (.ops [⟨0, (some 36), (.mov (.tmp 4)), none, 0⟩, ⟨1, (some 2), (.mov (.tmp 36)), none, 0⟩, ⟨2, (some 3), (.mov (.val (.int .i64 0))), none, 0⟩]) .ret))))))⟩
def af39 : AFunc := ⟨13, [(.tmp 2)], (.seq (.ops [⟨0, (some 2), (.mov (.val (.int .i64 0))), none, 0⟩]) (.seq (.ops [⟨0, (some 3), (.mov (.val (.int .i64 0))), none, 0⟩]) (.seq (.block 0 (.loop [0, 3] (.seq (.seq (.ops [⟨0, (some 4), (.mov (.tmp 0)), none, 0⟩, ⟨1, (some 5), (.bin .gtr (.tmp 4) (.val (.int .i64 0))), none, 0⟩]) (.cond (.tmp 5) .skip (.exit 0))) (.block 1 (.ops [⟨0, (some 6), (.mov (.tmp 3)), none, 0⟩, ⟨1, (some 7), (.mov (.tmp 0)), none, 0⟩, ⟨2, (some 8), (.bin .rem (.tmp 7) (.val (.int .i64 2))), none, 0⟩, ⟨3, (some 9), (.bin .add (.tmp 6) (.tmp 8)), none, 0⟩, ⟨4, (some 10), (.mov (.tmp 0)), none, 0⟩, ⟨5, (some 11), (.bin .quo (.tmp 10) (.val (.int .i64 2))), none, 0⟩, ⟨6, (some 3), (.mov (.tmp 9)), none, 0⟩, ⟨7, (some 0), (.mov (.tmp 11)), none, 0⟩]))))) (.seq (.ops [⟨0, (some 12), (.mov (.tmp 3)), none, 0⟩, ⟨1, (some 2), (.mov (.tmp 12)), none, 0⟩]) .ret))))⟩
def af48 : AFunc := ⟨20, [(.tmp 4), (.tmp 5)], (.seq (.ops [⟨0, (some 2), (.box (.tmp 0)), none, 0⟩, ⟨1, (some 4), (.mov (.val .nils)), none, 0⟩, ⟨2, (some 5), (.mov (.val (.int .i64 0))), none, 0⟩]) (.seq (.seq (.ops [⟨0, (some 7), (.load (some 8) (.tmp 2)), none, 0⟩, ⟨1, (some 8), (.call (.val (.fn (Fn.func 35) [] [])) [(.tmp 7)]), none, 0⟩, ⟨2, (some 9), (.not (.tmp 8)), none, 0⟩]) (.cond (.tmp 9) (.seq (.ops [⟨0, (some 4), (.mov (.val .nils)), none, 0⟩, ⟨1, (some 5), (.mov (.val (.int .i64 1))), none, 0⟩]) .ret) .skip)) (.seq (.seq (.ops [⟨0, (some 10), (.mov (.tmp 1)), none, 0⟩, ⟨1, (some 11), (.not (.tmp 10)), none, 0⟩]) (.cond (.tmp 11) (.seq (.ops [⟨0, (some 4), (.mov (.val .nils)), none, 0⟩, ⟨1, (some 5), (.mov (.val (.int .i64 2))), none, 0⟩]) .ret) .skip)) (.seq (.draw [⟨0, (some 12), (.load (some 8) (.tmp 2)), none, 0⟩, ⟨1, (some 13), (.load (some 8) (.tmp 2)), none, 0⟩, ⟨2, (some 14), (.call (.val (.fn (Fn.func 78) [] [])) [(.tmp 13)]), none, 2⟩, ⟨3, (some 15), (.call (.val (.fn (Fn.func 77) [] [])) [(.tmp 12), (.tmp 14)]), none, 7⟩, ⟨4, (some 6), (.mov (.tmp 15)), none, 15⟩]) (.seq (.seq (.ops [⟨0, (some 16), (.mov (.tmp 6)), none, 0⟩, ⟨1, (some 17), (.len (.tmp 16)), none, 0⟩, ⟨2, (some 18), (.bin .eql (.tmp 17) (.val (.int .i64 0))), none, 0⟩]) (.cond (.tmp 18) (.seq (.ops [⟨0, (some 4), (.mov (.val .nils)), none, 0⟩, ⟨1, (some 5), (.mov (.val (.int .i64 10))), none, 0⟩]) .ret) .skip)) (.seq (.ops [⟨0, (some 19), (.mov (.tmp 6)), none, 0⟩, ⟨1, (some 4), (.mov (.tmp 19)), none, 0⟩, ⟨2, (some 5), (.mov (.val (.int .i64 0))), none, 0⟩]) .ret))))))⟩
def af49 : AFunc := ⟨10, [(.tmp 4)], (.seq (.ops [⟨0, (some 2), (.box (.tmp 0)), none, 0⟩, ⟨1, (some 4), (.mov (.val (.bool false))), none, 0⟩]) (.seq (.ops [⟨0, (some 5), (.mov (.tmp 1)), none, 0⟩, ⟨1, (some 6), (.fieldA 4 (.tmp 2)), none, 0⟩, ⟨2, (some 7), (.load none (.tmp 6)), none, 0⟩, ⟨3, (some 8), (.len (.tmp 7)), none, 0⟩, ⟨4, (some 9), (.call (.val (.fn (Fn.func 80) [] [])) [(.tmp 5), (.val (.int .i64 0)), (.tmp 8)]), none, 0⟩, ⟨5, (some 4), (.mov (.tmp 9)), none, 0⟩]) .ret))⟩
def af50 : AFunc := ⟨46, [(.cell 6 (some 2))], (.seq (.ops [⟨0, (some 3), (.box (.tmp 0)), none, 0⟩, ⟨1, (some 6), (.alloc [(.int .i64 0), (.int .i64 0)]), none, 0⟩]) (.seq (.ops [⟨0, (some 10), (.fieldA 5 (.tmp 3)), none, 0⟩, ⟨1, (some 11), (.load none (.tmp 10)), none, 0⟩, ⟨2, (some 12), (.build [(.int .i64 0), (.int .i64 0)] [(0, (1, (.tmp 11))), (1, (1, (.val (.int .i64 0))))]), none, 0⟩, ⟨3, (some 7), (.alloc [(.int .i64 0), (.int .i64 0)]), none, 0⟩, ⟨4, none, (.store 2 (.tmp 7) (.tmp 12)), none, 0⟩]) (.seq (.seq (.ops [⟨0, (some 8), (.mov (.val (.int .i64 0))), none, 0⟩]) (.block 0 (.loop [1, 2, 3, 6, 7, 8] (.seq (.seq (.ops [⟨0, (some 13), (.mov (.tmp 8)), none, 0⟩, ⟨1, (some 14), (.mov (.tmp 1)), none, 0⟩, ⟨2, (some 15), (.len (.tmp 14)), none, 0⟩, ⟨3, (some 16), (.bin .lss (.tmp 13) (.tmp 15)), none, 0⟩]) (.cond (.tmp 16) .skip (.exit 0))) (.seq (.block 1 (.seq (.ops [⟨0, (some 9), (.mov (.val (.int .i64 0))), none, 0⟩]) (.block 2 (.loop [1, 2, 3, 6, 7, 8, 9] (.seq (.seq (.ops [⟨0, (some 19), (.mov (.tmp 9)), none, 0⟩, ⟨1, (some 20), (.fieldA 5 (.tmp 3)), none, 0⟩, ⟨2, (some 21), (.load none (.tmp 20)), none, 0⟩, ⟨3, (some 22), (.bin .leq (.tmp 19) (.tmp 21)), none, 0⟩]) (.cond (.tmp 22) .skip (.exit 2))) (.seq (.block 3 (.seq (.ops [⟨0, (some 25), (.mov (.tmp 1)), none, 0⟩, ⟨1, (some 26), (.mov (.tmp 8)), none, 0⟩, ⟨2, (some 27), (.indexA 2 none (.tmp 25) (.tmp 26)), none, 0⟩, ⟨3, (some 28), (.fieldA 1 (.tmp 27)), none, 0⟩, ⟨4, (some 29), (.load none (.tmp 28)), none, 0⟩, ⟨5, (some 30), (.mov (.tmp 2)), none, 0⟩, ⟨6, (some 31), (.indexA 1 none (.tmp 29) (.tmp 30)), none, 0⟩, ⟨7, (some 32), (.load none (.tmp 31)), none, 0⟩, ⟨8, (some 33), (.mov (.tmp 9)), none, 0⟩, ⟨9, (some 34), (.indexA 1 none (.tmp 32) (.tmp 33)), none, 0⟩, ⟨10, (some 35), (.load none (.tmp 34)), none, 0⟩]) (.cond (.tmp 35) (.ops [⟨0, (some 36), (.fieldA 0 (.tmp 7)), none, 0⟩, ⟨1, (some 37), (.load none (.tmp 36)), none, 0⟩, ⟨2, (some 38), (.mov (.tmp 9)), none, 0⟩, ⟨3, (some 39), (.min [(.tmp 37), (.tmp 38)]), none, 0⟩, ⟨4, (some 40), (.fieldA 1 (.tmp 7)), none, 0⟩, ⟨5, (some 41), (.load none (.tmp 40)), none, 0⟩, ⟨6, (some 42), (.mov (.tmp 9)), none, 0⟩, ⟨7, (some 43), (.max [(.tmp 41), (.tmp 42)]), none, 0⟩, ⟨8, (some 44), (.build [(.int .i64 0), (.int .i64 0)] [(0, (1, (.tmp 39))), (1, (1, (.tmp 43)))]), none, 0⟩, ⟨9, none, (.store 2 (.tmp 7) (.tmp 44)), none, 0⟩]) .skip))) (.ops [⟨0, (some 23), (.mov (.tmp 9)), none, 0⟩, ⟨1, (some 24), (.bin .add (.tmp 23) (.val (.int .i64 1))), none, 0⟩, ⟨2, (some 9), (.mov (.tmp 24)), none, 0⟩]))))))) (.ops [⟨0, (some 17), (.mov (.tmp 8)), none, 0⟩, ⟨1, (some 18), (.bin .add (.tmp 17) (.val (.int .i64 1))), none, 0⟩, ⟨2, (some 8), (.mov (.tmp 18)), none, 0⟩])))))) (.seq (.ops [⟨0, (some 45), (.load (some 2) (.tmp 7)), none, 0⟩, ⟨1, none, (.store 2 (.tmp 6) (.tmp 45)), none, 0⟩]) .ret))))⟩
def af60 : AFunc := ⟨20, [(.tmp 6)], (.seq (.ops [⟨0, (some 3), (.box (.tmp 0)), none, 0⟩, ⟨1, (some 6), (.mov (.val (.bool false))), none, 0⟩]) (.seq (.ops [⟨0, (some 7), (.load (some 8) (.tmp 3)), none, 0⟩, ⟨1, (some 8), (.mov (.tmp 1)), none, 0⟩, ⟨2, (some 9), (.call (.val (.fn (Fn.func 65) [] [])) [(.tmp 7), (.tmp 8)]), none, 0⟩, ⟨3, (some 10), (.mov (.tmp 9)), none, 0⟩, ⟨4, (some 11), (.mov (.tmp 2)), (some (10, true)), 0⟩, ⟨5, (some 12), (.fieldA 6 (.tmp 3)), (some (10, true)), 0⟩, ⟨6, (some 13), (.load none (.tmp 12)), (some (10, true)), 0⟩, ⟨7, (some 14), (.mov (.tmp 1)), (some (10, true)), 0⟩, ⟨8, (some 15), (.indexA 4 none (.tmp 13) (.tmp 14)), (some (10, true)), 0⟩, ⟨9, (some 16), (.fieldA 3 (.tmp 15)), (some (10, true)), 0⟩, ⟨10, (some 17), (.load none (.tmp 16)), (some (10, true)), 0⟩, ⟨11, (some 18), (.call (.val (.fn (Fn.func 80) [] [])) [(.tmp 11), (.val (.int .i64 0)), (.tmp 17)]), (some (10, true)), 0⟩, ⟨12, (some 19), (.pick (.tmp 10) (.tmp 18) (.val (.bool false))), none, 0⟩, ⟨13, (some 6), (.mov (.tmp 19)), none, 0⟩]) .ret))⟩
def af61 : AFunc := ⟨29, [(.tmp 6)], (.seq (.ops [⟨0, (some 3), (.box (.tmp 0)), none, 0⟩, ⟨1, (some 5), (.box (.tmp 2)), none, 0⟩, ⟨2, (some 6), (.mov (.val (.int .i64 0))), none, 0⟩]) (.seq (.seq (.ops [⟨0, (some 7), (.fieldA 0 (.tmp 5)), none, 0⟩, ⟨1, (some 8), (.load none (.tmp 7)), none, 0⟩, ⟨2, (some 9), (.fieldA 0 (.tmp 3)), none, 0⟩, ⟨3, (some 10), (.fieldA 1 (.tmp 9)), none, 0⟩, ⟨4, (some 11), (.load none (.tmp 10)), none, 0⟩, ⟨5, (some 12), (.fieldA 2 (.tmp 3)), none, 0⟩, ⟨6, (some 13), (.load none (.tmp 12)), none, 0⟩, ⟨7, (some 14), (.mov (.tmp 1)), none, 0⟩, ⟨8, (some 15), (.bin .mul (.tmp 13) (.tmp 14)), none, 0⟩, ⟨9, (some 16), (.bin .add (.tmp 11) (.tmp 15)), none, 0⟩, ⟨10, (some 17), (.bin .geq (.tmp 8) (.tmp 16)), none, 0⟩]) (.cond (.tmp 17) (.seq (.ops [⟨0, (some 6), (.mov (.val (.int .i64 2))), none, 0⟩]) .ret) .skip)) (.seq (.seq (.ops [⟨0, (some 18), (.fieldA 1 (.tmp 5)), none, 0⟩, ⟨1, (some 19), (.load none (.tmp 18)), none, 0⟩, ⟨2, (some 20), (.fieldA 0 (.tmp 3)), none, 0⟩, ⟨3, (some 21), (.fieldA 0 (.tmp 20)), none, 0⟩, ⟨4, (some 22), (.load none (.tmp 21)), none, 0⟩, ⟨5, (some 23), (.fieldA 2 (.tmp 3)), none, 0⟩, ⟨6, (some 24), (.load none (.tmp 23)), none, 0⟩, ⟨7, (some 25), (.mov (.tmp 1)), none, 0⟩, ⟨8, (some 26), (.bin .mul (.tmp 24) (.tmp 25)), none, 0⟩, ⟨9, (some 27), (.bin .add (.tmp 22) (.tmp 26)), none, 0⟩, ⟨10, (some 28), (.bin .lss (.tmp 19) (.tmp 27)), none, 0⟩]) (.cond (.tmp 28) (.seq (.ops [⟨0, (some 6), (.mov (.val (.int .i64 0))), none, 0⟩]) .ret) .skip)) (.seq (.ops [⟨0, (some 6), (.mov (.val (.int .i64 1))), none, 0⟩]) .ret))))⟩
def af65 : AFunc := ⟨11, [(.tmp 4)], (.seq (.ops [⟨0, (some 2), (.box (.tmp 0)), none, 0⟩, ⟨1, (some 4), (.mov (.val (.bool false))), none, 0⟩]) (.seq (.ops [⟨0, (some 5), (.mov (.tmp 1)), none, 0⟩, ⟨1, (some 6), (.fieldA 6 (.tmp 2)), none, 0⟩, ⟨2, (some 7), (.load none (.tmp 6)), none, 0⟩, ⟨3, (some 8), (.len (.tmp 7)), none, 0⟩, ⟨4, (some 9), (.bin .sub (.tmp 8) (.val (.int .i64 1))), none, 0⟩, ⟨5, (some 10), (.call (.val (.fn (Fn.func 80) [] [])) [(.tmp 5), (.val (.int .i64 0)), (.tmp 9)]), none, 0⟩, ⟨6, (some 4), (.mov (.tmp 10)), none, 0⟩]) .ret))⟩
def af66 : AFunc := ⟨23, [(.tmp 6)], (.seq (.ops [⟨0, (some 3), (.box (.tmp 0)), none, 0⟩, ⟨1, (some 4), (.box (.tmp 1)), none, 0⟩, ⟨2, (some 6), (.mov (.val (.int .i64 0))), none, 0⟩]) (.seq (.ops [⟨0, (some 7), (.mov (.val (.int .i64 (-1)))), none, 0⟩]) (.seq (.seq (.ops [⟨0, (some 8), (.mov (.val (.int .i64 0))), none, 0⟩]) (.block 0 (.loop [2, 3, 4, 7, 8] (.seq (.seq (.ops [⟨0, (some 9), (.mov (.tmp 8)), none, 0⟩, ⟨1, (some 10), (.fieldA 3 (.tmp 3)), none, 0⟩, ⟨2, (some 11), (.load none (.tmp 10)), none, 0⟩, ⟨3, (some 12), (.bin .leq (.tmp 9) (.tmp 11)), none, 0⟩]) (.cond (.tmp 12) .skip (.exit 0))) (.seq (.block 1 (.seq (.ops [⟨0, (some 15), (.load (some 4) (.tmp 3)), none, 0⟩, ⟨1, (some 16), (.mov (.tmp 8)), none, 0⟩, ⟨2, (some 17), (.load (some 2) (.tmp 4)), none, 0⟩, ⟨3, (some 18), (.call (.val (.fn (Fn.func 61) [] [])) [(.tmp 15), (.tmp 16), (.tmp 17)]), none, 0⟩, ⟨4, (some 19), (.mov (.tmp 2)), none, 0⟩, ⟨5, (some 20), (.bin .geq (.tmp 18) (.tmp 19)), none, 0⟩]) (.cond (.tmp 20) (.ops [⟨0, (some 21), (.mov (.tmp 8)), none, 0⟩, ⟨1, (some 7), (.mov (.tmp 21)), none, 0⟩]) .skip))) (.ops [⟨0, (some 13), (.mov (.tmp 8)), none, 0⟩, ⟨1, (some 14), (.bin .add (.tmp 13) (.val (.int .i64 1))), none, 0⟩, ⟨2, (some 8), (.mov (.tmp 14)), none, 0⟩])))))) (.seq (.ops [⟨0, (some 22), (.mov (.tmp 7)), none, 0⟩, ⟨1, (some 6), (.mov (.tmp 22)), none, 0⟩]) .ret))))⟩
def af68 : AFunc := ⟨13, [(.tmp 2)], (.seq (.ops [⟨0, (some 2), (.mov (.val (.int .i64 0))), none, 0⟩]) (.seq (.ops [⟨0, (some 3), (.mov (.val (.int .i64 1))), none, 0⟩]) (.seq (.seq (.ops [⟨0, (some 4), (.mov (.val (.int .i64 0))), none, 0⟩]) (.block 0 (.loop [0, 3, 4] (.seq (.seq (.ops [⟨0, (some 5), (.mov (.tmp 4)), none, 0⟩, ⟨1, (some 6), (.mov (.tmp 0)), none, 0⟩, ⟨2, (some 7), (.bin .lss (.tmp 5) (.tmp 6)), none, 0⟩]) (.cond (.tmp 7) .skip (.exit 0))) (.seq (.block 1 (.ops [⟨0, (some 10), (.mov (.tmp 3)), none, 0⟩, ⟨1, (some 11), (.bin .mul (.val (.int .i64 2)) (.tmp 10)), none, 0⟩, ⟨2, (some 3), (.mov (.tmp 11)), none, 0⟩])) (.ops [⟨0, (some 8), (.mov (.tmp 4)), none, 0⟩, ⟨1, (some 9), (.bin .add (.tmp 8) (.val (.int .i64 1))), none, 0⟩, ⟨2, (some 4), (.mov (.tmp 9)), none, 0⟩])))))) (.seq (.ops [⟨0, (some 12), (.mov (.tmp 3)), none, 0⟩, ⟨1, (some 2), (.mov (.tmp 12)), none, 0⟩]) .ret))))⟩
def af77 : AFunc := ⟨32, [(.tmp 4)], (.seq (.ops [⟨0, (some 2), (.box (.tmp 0)), none, 0⟩, ⟨1, (some 4), (.mov (.val .nils)), none, 0⟩]) (.seq (.ops [⟨0, (some 5), (.mov (.val .nils)), none, 0⟩]) (.seq (.seq (.ops [⟨0, (some 8), (.fieldA 2 (.tmp 2)), none, 0⟩, ⟨1, (some 9), (.fieldA 0 (.tmp 8)), none, 0⟩, ⟨2, (some 10), (.load none (.tmp 9)), none, 0⟩, ⟨3, (some 6), (.mov (.tmp 10)), none, 0⟩]) (.block 0 (.loop [1, 2, 5, 6] (.seq (.seq (.ops [⟨0, (some 11), (.mov (.tmp 6)), none, 0⟩, ⟨1, (some 12), (.fieldA 2 (.tmp 2)), none, 0⟩, ⟨2, (some 13), (.fieldA 1 (.tmp 12)), none, 0⟩, ⟨3, (some 14), (.load none (.tmp 13)), none, 0⟩, ⟨4, (some 15), (.bin .leq (.tmp 11) (.tmp 14)), none, 0⟩]) (.cond (.tmp 15) .skip (.exit 0))) (.seq (.block 1 (.seq (.ops [⟨0, (some 18), (.load (some 8) (.tmp 2)), none, 0⟩, ⟨1, (some 19), (.mov (.tmp 1)), none, 0⟩, ⟨2, (some 20), (.mov (.tmp 6)), none, 0⟩, ⟨3, (some 21), (.call (.val (.fn (Fn.func 95) [] [])) [(.tmp 18), (.tmp 19), (.tmp 20)]), none, 0⟩, ⟨4, (some 7), (.mov (.tmp 21)), none, 0⟩]) (.seq (.ops [⟨0, (some 22), (.mov (.tmp 7)), none, 0⟩, ⟨1, (some 23), (.len (.tmp 22)), none, 0⟩, ⟨2, (some 24), (.bin .gtr (.tmp 23) (.val (.int .i64 0))), none, 0⟩]) (.cond (.tmp 24) (.ops [⟨0, (some 25), (.mov (.tmp 5)), none, 0⟩, ⟨1, (some 26), (.mov (.tmp 6)), none, 0⟩, ⟨2, (some 27), (.mov (.tmp 7)), none, 0⟩, ⟨3, (some 28), (.build [(.int .i64 0), .nils] [(0, (1, (.tmp 26))), (1, (1, (.tmp 27)))]), none, 0⟩, ⟨4, (some 29), (.buildSl 2 1 [(.int .i64 0), .nils] [(0, (.tmp 28))]), none, 0⟩, ⟨5, (some 30), (.append 2 (.tmp 25) (.tmp 29)), none, 0⟩, ⟨6, (some 5), (.mov (.tmp 30)), none, 0⟩]) .skip)))) (.ops [⟨0, (some 16), (.mov (.tmp 6)), none, 0⟩, ⟨1, (some 17), (.bin .add (.tmp 16) (.val (.int .i64 1))), none, 0⟩, ⟨2, (some 6), (.mov (.tmp 17)), none, 0⟩])))))) (.seq (.ops [⟨0, (some 31), (.mov (.tmp 5)), none, 0⟩, ⟨1, (some 4), (.mov (.tmp 31)), none, 0⟩]) .ret))))⟩
def af78 : AFunc := ⟨8, [(.tmp 2)], (.seq (.ops [⟨0, (some 1), (.box (.tmp 0)), none, 0⟩, ⟨1, (some 2), (.mov (.val (.int .i64 0))), none, 0⟩]) (.seq (.ops [⟨0, (some 3), (.fieldA 7 (.tmp 1)), none, 0⟩, ⟨1, (some 4), (.load none (.tmp 3)), none, 0⟩, ⟨2, (some 5), (.len (.tmp 4)), none, 0⟩, ⟨3, (some 6), (.call (.val (.fn (Fn.func 68) [] [])) [(.tmp 5)]), none, 0⟩, ⟨4, (some 7), (.bin .sub (.tmp 6) (.val (.int .i64 1))), none, 0⟩, ⟨5, (some 2), (.mov (.tmp 7)), none, 0⟩]) .ret))⟩
def af80 : AFunc := ⟨15, [(.tmp 6)], (.seq (.ops [⟨0, (some 6), (.mov (.val (.bool false))), none, 0⟩]) (.seq (.ops [⟨0, (some 7), (.mov (.tmp 1)), none, 0⟩, ⟨1, (some 8), (.mov (.tmp 0)), none, 0⟩, ⟨2, (some 9), (.bin .leq (.tmp 7) (.tmp 8)), none, 0⟩, ⟨3, (some 10), (.mov (.tmp 9)), none, 0⟩, ⟨4, (some 11), (.mov (.tmp 0)), (some (10, true)), 0⟩, ⟨5, (some 12), (.mov (.tmp 2)), (some (10, true)), 0⟩, ⟨6, (some 13), (.bin .leq (.tmp 11) (.tmp 12)), (some (10, true)), 0⟩, ⟨7, (some 14), (.pick (.tmp 10) (.tmp 13) (.val (.bool false))), none, 0⟩, ⟨8, (some 6), (.mov (.tmp 14)), none, 0⟩]) .ret))⟩
def af95 : AFunc := ⟨162, [(.tmp 6)], (.seq (.ops [⟨0, (some 3), (.box (.tmp 0)), none, 0⟩, ⟨1, (some 6), (.mov (.val .nils)), none, 0⟩]) (.seq (.ops [⟨0, (some 7), (.mov (.val .nils)), none, 0⟩]) (.seq (.seq (.ops [⟨0, (some 8), (.mov (.val (.int .i64 0))), none, 0⟩]) (.block 0 (.loop [1, 2, 3, 7, 8] (.seq (.seq (.ops [⟨0, (some 18), (.mov (.tmp 8)), none, 0⟩, ⟨1, (some 19), (.fieldA 4 (.tmp 3)), none, 0⟩, ⟨2, (some 20), (.load none (.tmp 19)), none, 0⟩, ⟨3, (some 21), (.len (.tmp 20)), none, 0⟩, ⟨4, (some 22), (.bin .leq (.tmp 18) (.tmp 21)), none, 0⟩]) (.cond (.tmp 22) .skip (.exit 0))) (.seq (.block 1 (.seq (.ops [⟨0, (some 25), (.fieldA 5 (.tmp 3)), none, 0⟩, ⟨1, (some 26), (.load none (.tmp 25)), none, 0⟩, ⟨2, (some 27), (.bin .add (.tmp 26) (.val (.int .i64 1))), none, 0⟩, ⟨3, (some 28), (.mksl 1 [(.bool false)] (.tmp 27) (.tmp 27)), none, 0⟩, ⟨4, (some 9), (.mov (.tmp 28)), none, 0⟩]) (.seq (.seq (.ops [⟨0, (some 10), (.mov (.val (.int .i64 0))), none, 0⟩]) (.block 2 (.loop [1, 2, 3, 7, 8, 9, 10] (.seq (.seq (.ops [⟨0, (some 29), (.mov (.tmp 10)), none, 0⟩, ⟨1, (some 30), (.fieldA 5 (.tmp 3)), none, 0⟩, ⟨2, (some 31), (.load none (.tmp 30)), none, 0⟩, ⟨3, (some 32), (.bin .leq (.tmp 29) (.tmp 31)), none, 0⟩]) (.cond (.tmp 32) .skip (.exit 2))) (.seq (.block 3 (.seq (.ops [⟨0, (some 35), (.mov (.tmp 8)), none, 0⟩, ⟨1, (some 36), (.bin .eql (.tmp 35) (.val (.int .i64 0))), none, 0⟩, ⟨2, (some 37), (.mov (.tmp 36)), none, 0⟩, ⟨3, (some 38), (.mov (.tmp 10)), (some (37, true)), 0⟩, ⟨4, (some 39), (.fieldA 0 (.tmp 3)), (some (37, true)), 0⟩, ⟨5, (some 40), (.fieldA 0 (.tmp 39)), (some (37, true)), 0⟩, ⟨6, (some 41), (.load none (.tmp 40)), (some (37, true)), 0⟩, ⟨7, (some 42), (.fieldA 0 (.tmp 3)), (some (37, true)), 0⟩, ⟨8, (some 43), (.fieldA 1 (.tmp 42)), (some (37, true)), 0⟩, ⟨9, (some 44), (.load none (.tmp 43)), (some (37, true)), 0⟩, ⟨10, (some 45), (.call (.val (.fn (Fn.func 80) [] [])) [(.tmp 38), (.tmp 41), (.tmp 44)]), (some (37, true)), 0⟩, ⟨11, (some 46), (.pick (.tmp 37) (.tmp 45) (.val (.bool false))), none, 0⟩, ⟨12, (some 11), (.mov (.tmp 46)), none, 0⟩]) (.seq (.seq (.ops [⟨0, (some 12), (.mov (.val (.int .i64 0))), none, 0⟩]) (.block 4 (.loop [1, 2, 3, 7, 8, 9, 10, 11, 12] (.seq (.seq (.ops [⟨0, (some 47), (.mov (.tmp 12)), none, 0⟩, ⟨1, (some 48), (.fieldA 5 (.tmp 3)), none, 0⟩, ⟨2, (some 49), (.load none (.tmp 48)), none, 0⟩, ⟨3, (some 50), (.bin .leq (.tmp 47) (.tmp 49)), none, 0⟩, ⟨4, (some 51), (.mov (.tmp 50)), none, 0⟩, ⟨5, (some 52), (.mov (.tmp 8)), (some (51, true)), 0⟩, ⟨6, (some 53), (.bin .gtr (.tmp 52) (.val (.int .i64 0))), (some (51, true)), 0⟩, ⟨7, (some 54), (.pick (.tmp 51) (.tmp 53) (.val (.bool false))), none, 0⟩, ⟨8, (some 55), (.mov (.tmp 54)), none, 0⟩, ⟨9, (some 56), (.mov (.tmp 11)), (some (55, true)), 0⟩, ⟨10, (some 57), (.not (.tmp 56)), (some (55, true)), 0⟩, ⟨11, (some 58), (.pick (.tmp 55) (.tmp 57) (.val (.bool false))), none, 0⟩]) (.cond (.tmp 58) .skip (.exit 4))) (.seq (.block 5 (.ops [⟨0, (some 61), (.mov (.tmp 7)), none, 0⟩, ⟨1, (some 62), (.mov (.tmp 8)), none, 0⟩, ⟨2, (some 63), (.bin .sub (.tmp 62) (.val (.int .i64 1))), none, 0⟩, ⟨3, (some 64), (.indexA 1 none (.tmp 61) (.tmp 63)), none, 0⟩, ⟨4, (some 65), (.load none (.tmp 64)), none, 0⟩, ⟨5, (some 66), (.mov (.tmp 12)), none, 0⟩, ⟨6, (some 67), (.indexA 1 none (.tmp 65) (.tmp 66)), none, 0⟩, ⟨7, (some 68), (.load none (.tmp 67)), none, 0⟩, ⟨8, (some 69), (.mov (.tmp 68)), none, 0⟩, ⟨9, (some 70), (.load (some 8) (.tmp 3)), (some (69, true)), 0⟩, ⟨10, (some 71), (.mov (.tmp 8)), (some (69, true)), 0⟩, ⟨11, (some 72), (.bin .sub (.tmp 71) (.val (.int .i64 1))), (some (69, true)), 0⟩, ⟨12, (some 73), (.mov (.tmp 12)), (some (69, true)), 0⟩, ⟨13, (some 74), (.mov (.tmp 10)), (some (69, true)), 0⟩, ⟨14, (some 75), (.mov (.tmp 2)), (some (69, true)), 0⟩, ⟨15, (some 76), (.call (.val (.fn (Fn.func 99) [] [])) [(.tmp 70), (.tmp 72), (.tmp 73), (.tmp 74), (.tmp 75)]), (some (69, true)), 0⟩, ⟨16, (some 77), (.pick (.tmp 69) (.tmp 76) (.val (.bool false))), none, 0⟩, ⟨17, (some 11), (.mov (.tmp 77)), none, 0⟩])) (.ops [⟨0, (some 59), (.mov (.tmp 12)), none, 0⟩, ⟨1, (some 60), (.bin .add (.tmp 59) (.val (.int .i64 1))), none, 0⟩, ⟨2, (some 12), (.mov (.tmp 60)), none, 0⟩])))))) (.ops [⟨0, (some 78), (.mov (.tmp 9)), none, 0⟩, ⟨1, (some 79), (.mov (.tmp 10)), none, 0⟩, ⟨2, (some 80), (.mov (.tmp 11)), none, 0⟩, ⟨3, (some 81), (.mov (.tmp 80)), none, 0⟩, ⟨4, (some 82), (.load (some 8) (.tmp 3)), (some (81, true)), 0⟩, ⟨5, (some 83), (.mov (.tmp 1)), (some (81, true)), 0⟩, ⟨6, (some 84), (.mov (.tmp 8)), (some (81, true)), 0⟩, ⟨7, (some 85), (.mov (.tmp 10)), (some (81, true)), 0⟩, ⟨8, (some 86), (.call (.val (.fn (Fn.func 100) [] [])) [(.tmp 82), (.tmp 83), (.tmp 84), (.tmp 85)]), (some (81, true)), 0⟩, ⟨9, (some 87), (.pick (.tmp 81) (.tmp 86) (.val (.bool false))), none, 0⟩, ⟨10, (some 88), (.indexA 1 none (.tmp 78) (.tmp 79)), none, 0⟩, ⟨11, none, (.store 1 (.tmp 88) (.tmp 87)), none, 0⟩])))) (.ops [⟨0, (some 33), (.mov (.tmp 10)), none, 0⟩, ⟨1, (some 34), (.bin .add (.tmp 33) (.val (.int .i64 1))), none, 0⟩, ⟨2, (some 10), (.mov (.tmp 34)), none, 0⟩])))))) (.ops [⟨0, (some 89), (.mov (.tmp 7)), none, 0⟩, ⟨1, (some 90), (.mov (.tmp 9)), none, 0⟩, ⟨2, (some 91), (.buildSl 1 1 [.nils] [(0, (.tmp 90))]), none, 0⟩, ⟨3, (some 92), (.append 1 (.tmp 89) (.tmp 91)), none, 0⟩, ⟨4, (some 7), (.mov (.tmp 92)), none, 0⟩])))) (.ops [⟨0, (some 23), (.mov (.tmp 8)), none, 0⟩, ⟨1, (some 24), (.bin .add (.tmp 23) (.val (.int .i64 1))), none, 0⟩, ⟨2, (some 8), (.mov (.tmp 24)), none, 0⟩])))))) (.seq (.seq (.ops [⟨0, (some 93), (.fieldA 4 (.tmp 3)), none, 0⟩, ⟨1, (some 94), (.load none (.tmp 93)), none, 0⟩, ⟨2, (some 95), (.len (.tmp 94)), none, 0⟩, ⟨3, (some 96), (.bin .sub (.tmp 95) (.val (.int .i64 1))), none, 0⟩, ⟨4, (some 13), (.mov (.tmp 96)), none, 0⟩]) (.block 6 (.loop [2, 3, 7, 13] (.seq (.seq (.ops [⟨0, (some 97), (.mov (.tmp 13)), none, 0⟩, ⟨1, (some 98), (.bin .geq (.tmp 97) (.val (.int .i64 0))), none, 0⟩]) (.cond (.tmp 98) .skip (.exit 6))) (.seq (.block 7 (.seq (.ops [⟨0, (some 14), (.mov (.val (.int .i64 0))), none, 0⟩]) (.block 8 (.loop [2, 3, 7, 13, 14] (.seq (.seq (.ops [⟨0, (some 101), (.mov (.tmp 14)), none, 0⟩, ⟨1, (some 102), (.fieldA 5 (.tmp 3)), none, 0⟩, ⟨2, (some 103), (.load none (.tmp 102)), none, 0⟩, ⟨3, (some 104), (.bin .leq (.tmp 101) (.tmp 103)), none, 0⟩]) (.cond (.tmp 104) .skip (.exit 8))) (.seq (.block 9 (.seq (.ops [⟨0, (some 15), (.mov (.val (.bool false))), none, 0⟩]) (.seq (.seq (.ops [⟨0, (some 16), (.mov (.val (.int .i64 0))), none, 0⟩]) (.block 10 (.loop [2, 3, 7, 13, 14, 15, 16] (.seq (.seq (.ops [⟨0, (some 107), (.mov (.tmp 16)), none, 0⟩, ⟨1, (some 108), (.fieldA 5 (.tmp 3)), none, 0⟩, ⟨2, (some 109), (.load none (.tmp 108)), none, 0⟩, ⟨3, (some 110), (.bin .leq (.tmp 107) (.tmp 109)), none, 0⟩, ⟨4, (some 111), (.mov (.tmp 110)), none, 0⟩, ⟨5, (some 112), (.mov (.tmp 7)), (some (111, true)), 0⟩, ⟨6, (some 113), (.mov (.tmp 13)), (some (111, true)), 0⟩, ⟨7, (some 114), (.indexA 1 none (.tmp 112) (.tmp 113)), (some (111, true)), 0⟩, ⟨8, (some 115), (.load none (.tmp 114)), (some (111, true)), 0⟩, ⟨9, (some 116), (.mov (.tmp 14)), (some (111, true)), 0⟩, ⟨10, (some 117), (.indexA 1 none (.tmp 115) (.tmp 116)), (some (111, true)), 0⟩, ⟨11, (some 118), (.load none (.tmp 117)), (some (111, true)), 0⟩, ⟨12, (some 119), (.pick (.tmp 111) (.tmp 118) (.val (.bool false))), none, 0⟩, ⟨13, (some 120), (.mov (.tmp 119)), none, 0⟩, ⟨14, (some 121), (.mov (.tmp 15)), (some (120, true)), 0⟩, ⟨15, (some 122), (.not (.tmp 121)), (some (120, true)), 0⟩, ⟨16, (some 123), (.pick (.tmp 120) (.tmp 122) (.val (.bool false))), none, 0⟩]) (.cond (.tmp 123) .skip (.exit 10))) (.seq (.block 11 (.ops [⟨0, (some 126), (.mov (.tmp 7)), none, 0⟩, ⟨1, (some 127), (.mov (.tmp 13)), none, 0⟩, ⟨2, (some 128), (.bin .add (.tmp 127) (.val (.int .i64 1))), none, 0⟩, ⟨3, (some 129), (.indexA 1 none (.tmp 126) (.tmp 128)), none, 0⟩, ⟨4, (some 130), (.load none (.tmp 129)), none, 0⟩, ⟨5, (some 131), (.mov (.tmp 16)), none, 0⟩, ⟨6, (some 132), (.indexA 1 none (.tmp 130) (.tmp 131)), none, 0⟩, ⟨7, (some 133), (.load none (.tmp 132)), none, 0⟩, ⟨8, (some 134), (.mov (.tmp 133)), none, 0⟩, ⟨9, (some 135), (.load (some 8) (.tmp 3)), (some (134, true)), 0⟩, ⟨10, (some 136), (.mov (.tmp 13)), (some (134, true)), 0⟩, ⟨11, (some 137), (.mov (.tmp 14)), (some (134, true)), 0⟩, ⟨12, (some 138), (.mov (.tmp 16)), (some (134, true)), 0⟩, ⟨13, (some 139), (.mov (.tmp 2)), (some (134, true)), 0⟩, ⟨14, (some 140), (.call (.val (.fn (Fn.func 99) [] [])) [(.tmp 135), (.tmp 136), (.tmp 137), (.tmp 138), (.tmp 139)]), (some (134, true)), 0⟩, ⟨15, (some 141), (.pick (.tmp 134) (.tmp 140) (.val (.bool false))), none, 0⟩, ⟨16, (some 15), (.mov (.tmp 141)), none, 0⟩])) (.ops [⟨0, (some 124), (.mov (.tmp 16)), none, 0⟩, ⟨1, (some 125), (.bin .add (.tmp 124) (.val (.int .i64 1))), none, 0⟩, ⟨2, (some 16), (.mov (.tmp 125)), none, 0⟩])))))) (.ops [⟨0, (some 142), (.mov (.tmp 7)), none, 0⟩, ⟨1, (some 143), (.mov (.tmp 13)), none, 0⟩, ⟨2, (some 144), (.indexA 1 none (.tmp 142) (.tmp 143)), none, 0⟩, ⟨3, (some 145), (.load none (.tmp 144)), none, 0⟩, ⟨4, (some 146), (.mov (.tmp 14)), none, 0⟩, ⟨5, (some 147), (.mov (.tmp 15)), none, 0⟩, ⟨6, (some 148), (.indexA 1 none (.tmp 145) (.tmp 146)), none, 0⟩, ⟨7, none, (.store 1 (.tmp 148) (.tmp 147)), none, 0⟩])))) (.ops [⟨0, (some 105), (.mov (.tmp 14)), none, 0⟩, ⟨1, (some 106), (.bin .add (.tmp 105) (.val (.int .i64 1))), none, 0⟩, ⟨2, (some 14), (.mov (.tmp 106)), none, 0⟩]))))))) (.ops [⟨0, (some 99), (.mov (.tmp 13)), none, 0⟩, ⟨1, (some 100), (.bin .sub (.tmp 99) (.val (.int .i64 1))), none, 0⟩, ⟨2, (some 13), (.mov (.tmp 100)), none, 0⟩])))))) (.seq (.seq (.ops [⟨0, (some 17), (.mov (.val (.int .i64 0))), none, 0⟩]) (.block 12 (.loop [3, 7, 17] (.seq (.seq (.ops [⟨0, (some 149), (.mov (.tmp 17)), none, 0⟩, ⟨1, (some 150), (.fieldA 5 (.tmp 3)), none, 0⟩, ⟨2, (some 151), (.load none (.tmp 150)), none, 0⟩, ⟨3, (some 152), (.bin .leq (.tmp 149) (.tmp 151)), none, 0⟩]) (.cond (.tmp 152) .skip (.exit 12))) (.seq (.block 13 (.seq (.ops [⟨0, (some 155), (.mov (.tmp 7)), none, 0⟩, ⟨1, (some 156), (.indexA 1 none (.tmp 155) (.val (.int .i64 0))), none, 0⟩, ⟨2, (some 157), (.load none (.tmp 156)), none, 0⟩, ⟨3, (some 158), (.mov (.tmp 17)), none, 0⟩, ⟨4, (some 159), (.indexA 1 none (.tmp 157) (.tmp 158)), none, 0⟩, ⟨5, (some 160), (.load none (.tmp 159)), none, 0⟩]) (.cond (.tmp 160) (.seq (.ops [⟨0, (some 161), (.mov (.tmp 7)), none, 0⟩, ⟨1, (some 6), (.mov (.tmp 161)), none, 0⟩]) .ret) .skip))) (.ops [⟨0, (some 153), (.mov (.tmp 17)), none, 0⟩, ⟨1, (some 154), (.bin .add (.tmp 153) (.val (.int .i64 1))), none, 0⟩, ⟨2, (some 17), (.mov (.tmp 154)), none, 0⟩])))))) (.seq (.ops [⟨0, (some 6), (.mov (.val .nils)), none, 0⟩]) .ret))))))⟩
def af99 : AFunc := ⟨35, [(.tmp 10)], (.seq (.ops [⟨0, (some 5), (.box (.tmp 0)), none, 0⟩, ⟨1, (some 10), (.mov (.val (.bool false))), none, 0⟩]) (.seq (.seq (.ops [⟨0, (some 12), (.fieldA 4 (.tmp 5)), none, 0⟩, ⟨1, (some 13), (.load none (.tmp 12)), none, 0⟩, ⟨2, (some 14), (.mov (.tmp 1)), none, 0⟩, ⟨3, (some 15), (.indexA 2 none (.tmp 13) (.tmp 14)), none, 0⟩, ⟨4, (some 16), (.fieldA 0 (.tmp 15)), none, 0⟩, ⟨5, (some 17), (.load none (.tmp 16)), none, 0⟩, ⟨6, (some 11), (.mov (.tmp 17)), none, 0⟩]) (.block 0 (.loop [1, 2, 3, 4, 5, 11] (.seq (.seq (.ops [⟨0, (some 18), (.mov (.tmp 11)), none, 0⟩, ⟨1, (some 19), (.fieldA 4 (.tmp 5)), none, 0⟩, ⟨2, (some 20), (.load none (.tmp 19)), none, 0⟩, ⟨3, (some 21), (.mov (.tmp 1)), none, 0⟩, ⟨4, (some 22), (.indexA 2 none (.tmp 20) (.tmp 21)), none, 0⟩, ⟨5, (some 23), (.fieldA 1 (.tmp 22)), none, 0⟩, ⟨6, (some 24), (.load none (.tmp 23)), none, 0⟩, ⟨7, (some 25), (.bin .leq (.tmp 18) (.tmp 24)), none, 0⟩]) (.cond (.tmp 25) .skip (.exit 0))) (.seq (.block 1 (.seq (.ops [⟨0, (some 28), (.load (some 8) (.tmp 5)), none, 0⟩, ⟨1, (some 29), (.mov (.tmp 2)), none, 0⟩, ⟨2, (some 30), (.mov (.tmp 11)), none, 0⟩, ⟨3, (some 31), (.mov (.tmp 4)), none, 0⟩, ⟨4, (some 32), (.call (.val (.fn (Fn.func 102) [] [])) [(.tmp 28), (.tmp 29), (.tmp 30), (.tmp 31)]), none, 0⟩, ⟨5, (some 33), (.mov (.tmp 3)), none, 0⟩, ⟨6, (some 34), (.bin .eql (.tmp 32) (.tmp 33)), none, 0⟩]) (.cond (.tmp 34) (.seq (.ops [⟨0, (some 10), (.mov (.val (.bool true))), none, 0⟩]) .ret) .skip))) (.ops [⟨0, (some 26), (.mov (.tmp 11)), none, 0⟩, ⟨1, (some 27), (.bin .add (.tmp 26) (.val (.int .i64 1))), none, 0⟩, ⟨2, (some 11), (.mov (.tmp 27)), none, 0⟩])))))) (.seq (.ops [⟨0, (some 10), (.mov (.val (.bool false))), none, 0⟩]) .ret)))⟩
def af100 : AFunc := ⟨43, [(.tmp 8)], (.seq (.ops [⟨0, (some 4), (.box (.tmp 0)), none, 0⟩, ⟨1, (some 8), (.mov (.val (.bool false))), none, 0⟩]) (.seq (.seq (.ops [⟨0, (some 9), (.mov (.val (.int .i64 0))), none, 0⟩]) (.block 0 (.loop [1, 2, 3, 4, 9] (.seq (.seq (.ops [⟨0, (some 11), (.mov (.tmp 9)), none, 0⟩, ⟨1, (some 12), (.fieldA 7 (.tmp 4)), none, 0⟩, ⟨2, (some 13), (.load none (.tmp 12)), none, 0⟩, ⟨3, (some 14), (.len (.tmp 13)), none, 0⟩, ⟨4, (some 15), (.bin .lss (.tmp 11) (.tmp 14)), none, 0⟩]) (.cond (.tmp 15) .skip (.exit 0))) (.seq (.block 1 (.seq (.ops [⟨0, (some 18), (.fieldA 7 (.tmp 4)), none, 0⟩, ⟨1, (some 19), (.load none (.tmp 18)), none, 0⟩, ⟨2, (some 20), (.mov (.tmp 9)), none, 0⟩, ⟨3, (some 21), (.indexA 3 none (.tmp 19) (.tmp 20)), none, 0⟩, ⟨4, (some 22), (.load (some 3) (.tmp 21)), none, 0⟩, ⟨5, (some 10), (.alloc [(.int .i64 0), (.int .i64 0), (.int .i64 0)]), none, 0⟩, ⟨6, none, (.store 3 (.tmp 10) (.tmp 22)), none, 0⟩]) (.seq (.ops [⟨0, (some 23), (.mov (.tmp 1)), none, 0⟩, ⟨1, (some 24), (.mov (.tmp 9)), none, 0⟩, ⟨2, (some 25), (.call (.val (.fn (Fn.func 103) [] [])) [(.tmp 23), (.tmp 24)]), none, 0⟩, ⟨3, (some 26), (.mov (.tmp 25)), none, 0⟩, ⟨4, (some 27), (.fieldA 0 (.tmp 10)), (some (26, true)), 0⟩, ⟨5, (some 28), (.load none (.tmp 27)), (some (26, true)), 0⟩, ⟨6, (some 29), (.mov (.tmp 2)), (some (26, true)), 0⟩, ⟨7, (some 30), (.bin .eql (.tmp 28) (.tmp 29)), (some (26, true)), 0⟩, ⟨8, (some 31), (.pick (.tmp 26) (.tmp 30) (.val (.bool false))), none, 0⟩, ⟨9, (some 32), (.mov (.tmp 31)), none, 0⟩, ⟨10, (some 33), (.mov (.tmp 3)), (some (32, true)), 0⟩, ⟨11, (some 34), (.fieldA 1 (.tmp 10)), (some (32, true)), 0⟩, ⟨12, (some 35), (.fieldA 0 (.tmp 34)), (some (32, true)), 0⟩, ⟨13, (some 36), (.load none (.tmp 35)), (some (32, true)), 0⟩, ⟨14, (some 37), (.fieldA 1 (.tmp 10)), (some (32, true)), 0⟩, ⟨15, (some 38), (.fieldA 1 (.tmp 37)), (some (32, true)), 0⟩, ⟨16, (some 39), (.load none (.tmp 38)), (some (32, true)), 0⟩, ⟨17, (some 40), (.call (.val (.fn (Fn.func 80) [] [])) [(.tmp 33), (.tmp 36), (.tmp 39)]), (some (32, true)), 0⟩, ⟨18, (some 41), (.not (.tmp 40)), (some (32, true)), 0⟩, ⟨19, (some 42), (.pick (.tmp 32) (.tmp 41) (.val (.bool false))), none, 0⟩]) (.cond (.tmp 42) (.seq (.ops [⟨0, (some 8), (.mov (.val (.bool false))), none, 0⟩]) .ret) .skip)))) (.ops [⟨0, (some 16), (.mov (.tmp 9)), none, 0⟩, ⟨1, (some 17), (.bin .add (.tmp 16) (.val (.int .i64 1))), none, 0⟩, ⟨2, (some 9), (.mov (.tmp 17)), none, 0⟩])))))) (.seq (.ops [⟨0, (some 8), (.mov (.val (.bool true))), none, 0⟩]) .ret)))⟩
def af102 : AFunc := ⟨18, [(.tmp 8)], (.seq (.ops [⟨0, (some 4), (.box (.tmp 0)), none, 0⟩, ⟨1, (some 8), (.mov (.val (.int .i64 0))), none, 0⟩]) (.seq (.ops [⟨0, (some 9), (.fieldA 5 (.tmp 4)), none, 0⟩, ⟨1, (some 10), (.load none (.tmp 9)), none, 0⟩, ⟨2, (some 11), (.mov (.tmp 1)), none, 0⟩, ⟨3, (some 12), (.mov (.tmp 2)), none, 0⟩, ⟨4, (some 13), (.bin .add (.tmp 11) (.tmp 12)), none, 0⟩, ⟨5, (some 14), (.mov (.tmp 3)), none, 0⟩, ⟨6, (some 15), (.bin .sub (.tmp 13) (.tmp 14)), none, 0⟩, ⟨7, (some 16), (.min [(.tmp 10), (.tmp 15)]), none, 0⟩, ⟨8, (some 17), (.max [(.val (.int .i64 0)), (.tmp 16)]), none, 0⟩, ⟨9, (some 8), (.mov (.tmp 17)), none, 0⟩]) .ret))⟩
def af103 : AFunc := ⟨11, [(.tmp 4)], (.seq (.ops [⟨0, (some 4), (.mov (.val (.bool false))), none, 0⟩]) (.seq (.ops [⟨0, (some 5), (.mov (.tmp 0)), none, 0⟩, ⟨1, (some 6), (.mov (.tmp 1)), none, 0⟩, ⟨2, (some 7), (.call (.val (.fn (Fn.func 68) [] [])) [(.tmp 6)]), none, 0⟩, ⟨3, (some 8), (.bin .quo (.tmp 5) (.tmp 7)), none, 0⟩, ⟨4, (some 9), (.bin .rem (.tmp 8) (.val (.int .i64 2))), none, 0⟩, ⟨5, (some 10), (.bin .eql (.tmp 9) (.val (.int .i64 1))), none, 0⟩, ⟨6, (some 4), (.mov (.tmp 10)), none, 0⟩]) .ret))⟩
end R
end Ev
end Go.Proofs.YtlkhjnpflohfeaaDoor

/- The reference of chapter 06, gone through: its small functions. -/
namespace Go.Proofs.YtlkhjnpflohfeaaDoor
open Go
namespace Ev
namespace R
set_option maxRecDepth 100000
def atP : List Nat → AC → AC
  | 0 :: p, .seq a _ => atP p a
  | 1 :: p, .seq _ b => atP p b
  | _ :: p, .block _ c => atP p c
  | _ :: p, .loop _ c => atP p c
  | 0 :: p, .cond _ a _ => atP p a
  | 1 :: p, .cond _ _ b => atP p b
  | _, c => c
theorem zbn {C : Cfg} {n f t : Nat} {fn : AFunc} {args : List AV} {H : List AB} {v : AV} (hc : C.calm = true) (hx : C.ext f = none) (hxh : C.exth f = none) (hf : C.fns f = some fn) (hw : C.whole f = true) (hres : fn.res = [.tmp t]) (hlen : args.length ≤ fn.ntmps) (hv : refs v = [])
    (h : Does (ev C (Ev.call C n) H.length none fn.body { tm := tmA fn.ntmps (zipI 0 args []), df := [], hp := H, tc := [] }) (Gives t v)) : Ev.call C (n + 1) (.fn (.func f) [] []) args H = some (.ret v, H, []) := by
  have := zfq (n := n) (first := []) (captured := []) (args := args) (H := H) (R := fun x H' tc => x = .ret v ∧ H' = H ∧ tc = []) hc hx hxh hf hw (by simpa using hlen) (by
    rw [List.nil_append, List.append_nil]
    refine h.mono fun e st ⟨h1, h2, h3, h4⟩ => ?_
    subst h1
    refine ⟨.ret v, st, ?_, ?_⟩
    · have e1 : runDefs C H.length st.df none st = some (none, st) := by rw [h2]; rfl
      show (match runDefs C H.length st.df none st with
        | some (none, st) => (resL st fn.res).map fun vs => (CRes.ret (resV vs), st)
        | _ => none) = _
      rw [e1, hres]
      show (resL st [.tmp t]).map (fun vs => (CRes.ret (resV vs), st)) = _
      simp only [resL, resOf, h4]
      rfl
    · unfold Left
      rw [h3, if_pos (by unfold bareQ; simp [CRes.val, hv])]
      exact ⟨rfl, rfl, rfl⟩)
  obtain ⟨x, H', tc, h1, rfl, rfl, rfl⟩ := this
  exact h1
structure Has (C : Cfg) (f : Nat) (fn : AFunc) : Prop where
  ext : C.ext f = none
  exth : C.exth f = none
  fns : C.fns f = some fn
  whole : C.whole f = true
theorem in_fun (C : Cfg) (call : CallF) (n a b : Int) (H : List AB) : Does (ev C call H.length none af80.body { tm := tmA 15 (zipI 0 [.int .i64 n, .int .i64 a, .int .i64 b] []), df := [], hp := H, tc := [] }) (Gives 6 (.bool (Cut.within n a b))) := by
  unfold af80
  simp only [zipI]
  by_cases h : a ≤ n
  · (repeat (first | (with_reducible apply zal; (focus ((conv => lhs; simp [ev1, wantG, spineK, spine, float, xnew, xval, xeff, zaa, zab, zaq, zaf, zag, addFl, cellsOf, pickC, alive, slLen, slFt, binI, maxA, maxK, minA, minK, aeqK, aeqS, AV.cells, zac, boatE, spanE, lookE, fillA, setAt, bitsI, nat_nn, AV.plain, apart, Nat.testBit_eq_decide_div_mod_eq, *]) <;> exact rfl)); simp only [addFl]) | ((with_reducible first | refine zam ?_ | refine zao ?_ | refine zak ?_ | refine zai ?_ | refine zae ?_ | refine zan ?_ | refine zaj ?_ | refine zar ?_ | (apply zah; (focus (simp [zaa, *]; done))) | (with_reducible apply zad; (focus (simp [zaa, *]; done)))); try simp only [Then, Ops])))
    exact ⟨by first | trivial | rfl, by first | trivial | rfl, by first | trivial | rfl, by simp only [zap]; simp [Cut.within, h]⟩
  · (repeat (first | (with_reducible apply zal; (focus ((conv => lhs; simp [ev1, wantG, spineK, spine, float, xnew, xval, xeff, zaa, zab, zaq, zaf, zag, addFl, cellsOf, pickC, alive, slLen, slFt, binI, maxA, maxK, minA, minK, aeqK, aeqS, AV.cells, zac, boatE, spanE, lookE, fillA, setAt, bitsI, nat_nn, AV.plain, apart, Nat.testBit_eq_decide_div_mod_eq, *]) <;> exact rfl)); simp only [addFl]) | ((with_reducible first | refine zam ?_ | refine zao ?_ | refine zak ?_ | refine zai ?_ | refine zae ?_ | refine zan ?_ | refine zaj ?_ | refine zar ?_ | (apply zah; (focus (simp [zaa, *]; done))) | (with_reducible apply zad; (focus (simp [zaa, *]; done)))); try simp only [Then, Ops])))
    exact ⟨by first | trivial | rfl, by first | trivial | rfl, by first | trivial | rfl, by simp only [zap]; simp [Cut.within, h]⟩
theorem zun (C : Cfg) (hC : C.calm = true) (call : CallF) (n : Nat) (hn : n ≤ 20) (H : List AB) : Does (ev C call H.length none af68.body { tm := tmA 13 (zipI 0 [.int .i64 n] []), df := [], hp := H, tc := [] }) (Gives 2 (.int .i64 (2 ^ n : Nat))) := by
  unfold af68
  simp only [zipI]
  (repeat (first | (with_reducible apply zal; (focus ((conv => lhs; simp [ev1, wantG, spineK, spine, float, xnew, xval, xeff, zaa, zab, zaq, zaf, zag, addFl, cellsOf, pickC, alive, slLen, slFt, binI, maxA, maxK, minA, minK, aeqK, aeqS, AV.cells, zac, boatE, spanE, lookE, fillA, setAt, bitsI, nat_nn, AV.plain, apart, Nat.testBit_eq_decide_div_mod_eq, *]) <;> exact rfl)); simp only [addFl]) | ((with_reducible first | refine zam ?_ | refine zao ?_ | refine zak ?_ | refine zai ?_ | refine zae ?_ | refine zan ?_ | refine zaj ?_ | refine zar ?_ | (apply zah; (focus (simp [zaa, *]; done))) | (with_reducible apply zad; (focus (simp [zaa, *]; done)))); try simp only [Then, Ops])))
  refine zbf (fun q st => ∃ i : Nat, i + q = n ∧ st = { tm := tmA 13 [(4, .int .i64 i), (3, .int .i64 (2 ^ i : Nat)), (0, .int .i64 n)], df := [], hp := H, tc := [] }) n (by unfold fuelL; omega) ?_ ?_
  · refine ⟨0, by omega, ?_⟩
    simp only [zat hC]
    exact st_eq (by simp [zas, zau]) rfl rfl rfl
  · rintro q st ⟨i, hq, rfl⟩
    by_cases hi : i < n
    · have hw : IntKind.i64.wrap ((i : Int) + 1) = (i : Int) + 1 := zbb (by omega) (by omega)
      have hp : (2 : Nat) ^ i ≤ 2 ^ 20 := Nat.pow_le_pow_right (by decide) (by omega)
      have hy2 : (2 : Nat) ^ (i + 1) = 2 ^ i * 2 := Nat.pow_succ ..
      generalize hx : (2 ^ i : Nat) = x at *
      generalize hy : (2 ^ (i + 1) : Nat) = y at *
      have hm : IntKind.i64.wrap (2 * (x : Int)) = (y : Int) := by
        rw [zbb (by omega) (by omega)]; omega
      clear hy2
      clear hp hx
      (repeat (first | (with_reducible apply zal; (focus ((conv => lhs; simp [ev1, wantG, spineK, spine, float, xnew, xval, xeff, zaa, zab, zaq, zaf, zag, addFl, cellsOf, pickC, alive, slLen, slFt, binI, maxA, maxK, minA, minK, aeqK, aeqS, AV.cells, zac, boatE, spanE, lookE, fillA, setAt, bitsI, nat_nn, AV.plain, apart, Nat.testBit_eq_decide_div_mod_eq, *]) <;> exact rfl)); simp only [addFl]) | ((with_reducible first | refine zam ?_ | refine zao ?_ | refine zak ?_ | refine zai ?_ | refine zae ?_ | refine zan ?_ | refine zaj ?_ | refine zar ?_ | (apply zah; (focus (simp [zaa, *]; done))) | (with_reducible apply zad; (focus (simp [zaa, *]; done)))); try simp only [Then, Ops, OutB])))
      refine ⟨q - 1, by omega, i + 1, by omega, ?_⟩
      simp only [zat hC]
      rw [hy]
      exact st_eq (by simp [zas, zau]) rfl rfl rfl
    · obtain rfl : i = n := by omega
      generalize (2 ^ i : Nat) = x at *
      (repeat (first | (with_reducible apply zal; (focus ((conv => lhs; simp [ev1, wantG, spineK, spine, float, xnew, xval, xeff, zaa, zab, zaq, zaf, zag, addFl, cellsOf, pickC, alive, slLen, slFt, binI, maxA, maxK, minA, minK, aeqK, aeqS, AV.cells, zac, boatE, spanE, lookE, fillA, setAt, bitsI, nat_nn, AV.plain, apart, Nat.testBit_eq_decide_div_mod_eq, *]) <;> exact rfl)); simp only [addFl]) | ((with_reducible first | refine zam ?_ | refine zao ?_ | refine zak ?_ | refine zai ?_ | refine zae ?_ | refine zan ?_ | refine zaj ?_ | refine zar ?_ | (apply zah; (focus (simp [zaa, *]; done))) | (with_reducible apply zad; (focus (simp [zaa, *]; done)))); try simp only [Then, Ops, OutB, reduceIte])))
      exact ⟨by first | trivial | rfl, by first | trivial | rfl, by first | trivial | rfl, by simp only [zap]; simp⟩
def PowerC (call : CallF) : Prop := ∀ (H : List AB) (n : Nat), n ≤ 20 → call (.fn (.func 68) [] []) [.int .i64 n] H = some (.ret (.int .i64 (2 ^ n : Nat)), H, [])
theorem has_fun (C : Cfg) (call : CallF) (hP : PowerC call) (s n : Nat) (hs : s < 1048576) (hn : n ≤ 20) (H : List AB) : Does (ev C call H.length none af103.body { tm := tmA 11 (zipI 0 [.int .i64 s, .int .i64 n] []), df := [], hp := H, tc := [] }) (Gives 4 (.bool (s.testBit n))) := by
  have h1 := hP H n hn
  have hp0 : (2 : Nat) ^ n ≠ 0 := Nat.ne_of_gt (Nat.pow_pos (by decide))
  have e0 : s.testBit n = decide (s / 2 ^ n % 2 = 1) := Nat.testBit_eq_decide_div_mod_eq
  have hle := Nat.div_le_self s (2 ^ n)
  rw [e0]
  generalize (2 ^ n : Nat) = x at *
  have h2 : ¬ ((x : Int) = 0) := by omega
  have h2' : ¬ x = 0 := hp0
  have h3 : (s : Int).tdiv x = ((s / x : Nat) : Int) := by rw [Int.tdiv_eq_ediv_of_nonneg (by omega)]; rfl
  generalize s / x = q at *
  have h4 : IntKind.i64.wrap (q : Int) = q := zbb (by omega) (by omega)
  have h5 : (q : Int).tmod 2 = ((q % 2 : Nat) : Int) := by rw [Int.tmod_eq_emod_of_nonneg (by omega)]; rfl
  have h6 : IntKind.i64.wrap ((q % 2 : Nat) : Int) = ((q % 2 : Nat) : Int) := zbb (by omega) (by omega)
  have h7 : (((q % 2 : Nat) : Int) == 1) = decide (q % 2 = 1) := by
    rcases Nat.mod_two_eq_zero_or_one q with h | h <;> rw [h] <;> rfl
  generalize (q % 2 : Nat) = y at *
  clear hle e0 hp0 hP hs hn
  unfold af103
  simp only [zipI]
  (repeat (first | (with_reducible apply zal; (focus ((conv => lhs; simp [ev1, wantG, spineK, spine, float, xnew, xval, xeff, zaa, zab, zaq, zaf, zag, addFl, cellsOf, pickC, alive, slLen, slFt, binI, maxA, maxK, minA, minK, aeqK, aeqS, AV.cells, zac, boatE, spanE, lookE, fillA, setAt, bitsI, nat_nn, AV.plain, apart, Nat.testBit_eq_decide_div_mod_eq, *]) <;> exact rfl)); simp only [addFl]) | ((with_reducible first | refine zam ?_ | refine zao ?_ | refine zak ?_ | refine zai ?_ | refine zae ?_ | refine zan ?_ | refine zaj ?_ | refine zar ?_ | (apply zah; (focus (simp [zaa, *]; done))) | (with_reducible apply zad; (focus (simp [zaa, *]; done)))); try simp only [Then, Ops])))
  exact ⟨by first | trivial | rfl, by first | trivial | rfl, by first | trivial | rfl, by simp only [zap]; simp⟩
end R
end Ev
end Go.Proofs.YtlkhjnpflohfeaaDoor

/- The reference of chapter 06, gone through: its functions of a cut that answer a bare value. -/
namespace Go.Proofs.YtlkhjnpflohfeaaDoor
open Go
namespace Ev
namespace R
set_option maxRecDepth 100000
open Classical in
noncomputable def stepB (x : CutD) (leak : Int) (d : Nat) (u v : Int) : Bool := decide (Cut.Step x leak d u v)
open Classical in
noncomputable def looksB (x : CutD) (s d : Nat) (v : Int) : Bool := decide (Cut.Looks x.looks s d v)
def InC (call : CallF) : Prop := ∀ (H : List AB) (n a b : Int), call (.fn (.func 80) [] []) [.int .i64 n, .int .i64 a, .int .i64 b] H = some (.ret (.bool (Cut.within n a b)), H, [])
def HasC (call : CallF) : Prop := ∀ (H : List AB) (s n : Nat), s < 1048576 → n ≤ 20 → call (.fn (.func 103) [] []) [.int .i64 s, .int .i64 n] H = some (.ret (.bool (s.testBit n)), H, [])
def NextC (call : CallF) : Prop := ∀ (H : List AB) (a b k l m : Int) (r : List (Int × Int)) (bs : List Boat) (ls : List Look) (n q lk : Int), -1000 ≤ n → n ≤ 1000 → -1000 ≤ q → q ≤ 1000 → -1000 ≤ lk → lk ≤ 1000 →
  call (.fn (.func 102) [] []) [.agg [.int .i64 a, .int .i64 b, .int .i64 k, .int .i64 l, .vs 2 (r.map spanE), .int .i64 m, .vs 4 (bs.map boatE), .vs 3 (ls.map lookE)], .int .i64 n, .int .i64 q, .int .i64 lk] H = some (.ret (.int .i64 (max 0 (min m (n + q - lk)))), H, [])
def GoesC (call : CallF) : Prop := ∀ (H : List AB) (a b k l m : Int) (r : List (Int × Int)) (bs : List Boat) (ls : List Look), Cut.Valid ⟨(a, b), (k, l), r, m, bs, ls⟩ → ∀ (d : Nat), d < r.length → ∀ (u v lk : Int), 0 ≤ u → u ≤ 100 → 0 ≤ lk → lk ≤ 10 →
  call (.fn (.func 99) [] []) [.agg [.int .i64 a, .int .i64 b, .int .i64 k, .int .i64 l, .vs 2 (r.map spanE), .int .i64 m, .vs 4 (bs.map boatE), .vs 3 (ls.map lookE)], .int .i64 d, .int .i64 u, .int .i64 v, .int .i64 lk] H = some (.ret (.bool (stepB ⟨(a, b), (k, l), r, m, bs, ls⟩ lk d u v)), H, [])
def FitsC (call : CallF) : Prop := ∀ (H : List AB) (a b k l m : Int) (r : List (Int × Int)) (bs : List Boat) (ls : List Look), ls.length ≤ 5 → ∀ (s d : Nat) (v : Int), s < 1048576 →
  call (.fn (.func 100) [] []) [.agg [.int .i64 a, .int .i64 b, .int .i64 k, .int .i64 l, .vs 2 (r.map spanE), .int .i64 m, .vs 4 (bs.map boatE), .vs 3 (ls.map lookE)], .int .i64 s, .int .i64 d, .int .i64 v] H = some (.ret (.bool (looksB ⟨(a, b), (k, l), r, m, bs, ls⟩ s d v)), H, [])
theorem zyq (C : Cfg) (call : CallF) (H : List AB) (a b k l m : Int) (r : List (Int × Int)) (bs : List Boat) (ls : List Look) (n q lk : Int) (h1 : -1000 ≤ n) (h2 : n ≤ 1000) (h3 : -1000 ≤ q) (h4 : q ≤ 1000) (h5 : -1000 ≤ lk) (h6 : lk ≤ 1000) :
    Does (ev C call H.length none af102.body { tm := tmA 18 (zipI 0 [.agg [.int .i64 a, .int .i64 b, .int .i64 k, .int .i64 l, .vs 2 (r.map spanE), .int .i64 m, .vs 4 (bs.map boatE), .vs 3 (ls.map lookE)], .int .i64 n, .int .i64 q, .int .i64 lk] []), df := [], hp := H, tc := [] }) (Gives 8 (.int .i64 (max 0 (min m (n + q - lk))))) := by
  have w1 : IntKind.i64.wrap (n + q) = n + q := zbb (by omega) (by omega)
  have w2 : IntKind.i64.wrap (n + q - lk) = n + q - lk := zbb (by omega) (by omega)
  clear h1 h2 h3 h4 h5 h6
  unfold af102
  simp only [zipI]
  (repeat (first | (with_reducible apply zal; (focus ((conv => lhs; simp [ev1, wantG, spineK, spine, float, xnew, xval, xeff, zaa, zab, zaq, zaf, zag, addFl, cellsOf, pickC, alive, slLen, slFt, binI, maxA, maxK, minA, minK, aeqK, aeqS, AV.cells, zac, boatE, spanE, lookE, fillA, setAt, bitsI, nat_nn, AV.plain, apart, Nat.testBit_eq_decide_div_mod_eq, *]) <;> exact rfl)); simp only [addFl]) | ((with_reducible first | refine zam ?_ | refine zao ?_ | refine zak ?_ | refine zai ?_ | refine zae ?_ | refine zan ?_ | refine zaj ?_ | refine zar ?_ | (apply zah; (focus (simp [zaa, *]; done))) | (with_reducible apply zad; (focus (simp [zaa, *]; done)))); try simp only [Then, Ops])))
  exact ⟨by first | trivial | rfl, by first | trivial | rfl, by first | trivial | rfl, by simp only [zap]; simp⟩
set_option maxHeartbeats 8000000 in
theorem goes_fun (C : Cfg) (hC : C.calm = true) (call : CallF) (hN : NextC call) (H : List AB) (a b k l m : Int) (r : List (Int × Int)) (bs : List Boat) (ls : List Look) (V : Cut.Valid ⟨(a, b), (k, l), r, m, bs, ls⟩) (d : Nat) (hd : d < r.length) (u v lk : Int) (u0 : 0 ≤ u) (u1 : u ≤ 100) (k0 : 0 ≤ lk) (k1 : lk ≤ 10) :
    Does (ev C call H.length none af99.body { tm := tmA 35 (zipI 0 [.agg [.int .i64 a, .int .i64 b, .int .i64 k, .int .i64 l, .vs 2 (r.map spanE), .int .i64 m, .vs 4 (bs.map boatE), .vs 3 (ls.map lookE)], .int .i64 d, .int .i64 u, .int .i64 v, .int .i64 lk] []), df := [], hp := H, tc := [] }) (Gives 10 (.bool (stepB ⟨(a, b), (k, l), r, m, bs, ls⟩ lk d u v))) := by
  have hr : 0 ≤ (Cut.spanAt r d).1 ∧ (Cut.spanAt r d).1 ≤ (Cut.spanAt r d).2 ∧ (Cut.spanAt r d).2 ≤ 30 := V.rain d hd
  have hs : ∀ b', stepB ⟨(a, b), (k, l), r, m, bs, ls⟩ lk d u v = b' ↔ (b' = true ↔ ∃ q, (r[d].1 ≤ q ∧ q ≤ r[d].2) ∧ v = max 0 (min m (u + q - lk))) := by
    intro b'
    have e : Cut.spanAt r d = r[d] := by simp [Cut.spanAt, hd]
    unfold stepB Cut.Step Cut.inS Cut.held
    cases b' <;> simp [e]
  have e : Cut.spanAt r d = r[d] := by simp [Cut.spanAt, hd]
  rw [e] at hr
  generalize stepB ⟨(a, b), (k, l), r, m, bs, ls⟩ lk d u v = sb at *
  have hN' := fun H q (h1 : 0 ≤ q) (h2 : q ≤ 31) => hN H a b k l m r bs ls u q lk (by omega) (by omega) (by omega) (by omega) (by omega) (by omega)
  have HR := hideP hr
  have HN := hideP hN'
  clear V hN hN' hr e u0 u1 k0 k1
  have HS := hideP hs
  clear hs
  unfold af99
  simp only [zipI]
  (repeat (first | (with_reducible apply zal; (focus ((conv => lhs; simp [ev1, wantG, spineK, spine, float, xnew, xval, xeff, zaa, zab, zaq, zaf, zag, addFl, cellsOf, pickC, alive, slLen, slFt, binI, maxA, maxK, minA, minK, aeqK, aeqS, AV.cells, zac, boatE, spanE, lookE, fillA, setAt, bitsI, nat_nn, AV.plain, apart, Nat.testBit_eq_decide_div_mod_eq, *]) <;> exact rfl)); simp only [addFl]) | ((with_reducible first | refine zam ?_ | refine zao ?_ | refine zak ?_ | refine zai ?_ | refine zae ?_ | refine zan ?_ | refine zaj ?_ | refine zar ?_ | (apply zah; (focus (simp [zaa, *]; done))) | (with_reducible apply zad; (focus (simp [zaa, *]; done)))); try simp only [Then, Ops])))
  obtain ⟨r0, r1, r2⟩ := HR.out
  refine zbf (fun q st => ∃ i : Int, (q : Int) = r[d].2 + 1 - i ∧ r[d].1 ≤ i ∧ i ≤ r[d].2 + 1 ∧ (∀ j, r[d].1 ≤ j → j < i → v ≠ max 0 (min m (u + j - lk))) ∧ st = { tm := tmA 35 [(11, .int .i64 i), (5, .ptr H.length 0), (4, .int .i64 lk), (3, .int .i64 v), (2, .int .i64 u), (1, .int .i64 d)], df := [], hp := H ++ [.cells [.int .i64 a, .int .i64 b, .int .i64 k, .int .i64 l, .vs 2 (r.map spanE), .int .i64 m, .vs 4 (bs.map boatE), .vs 3 (ls.map lookE)]], tc := [] }) (r[d].2 + 1 - r[d].1).toNat (by unfold fuelL; omega) ?_ ?_
  · refine ⟨r[d].1, by omega, by omega, by omega, fun j h1 h2 => by omega, ?_⟩
    simp only [zat hC]
    exact st_eq (by simp [zas, zau]) rfl rfl rfl
  · rintro q st ⟨i, hq, h1, h2, h3, rfl⟩
    by_cases hi : i ≤ r[d].2
    · have hw : IntKind.i64.wrap (i + 1) = i + 1 := zbb (by omega) (by omega)
      have hn := fun H => HN.out H i (by omega) (by omega)
      have HQ := hideP (And.intro hq (And.intro h1 (And.intro h2 h3)))
      clear hq h1 h2 h3 r0 r1 r2
      by_cases hv : max 0 (min m (u + i - lk)) = v
      · have he : sb = true := (HS.out true).2 ⟨fun _ => ⟨i, ⟨HQ.out.2.1, hi⟩, hv.symm⟩, fun _ => rfl⟩
        (repeat (first | (with_reducible apply zal; (focus ((conv => lhs; simp [ev1, wantG, spineK, spine, float, xnew, xval, xeff, zaa, zab, zaq, zaf, zag, addFl, cellsOf, pickC, alive, slLen, slFt, binI, maxA, maxK, minA, minK, aeqK, aeqS, AV.cells, zac, boatE, spanE, lookE, fillA, setAt, bitsI, nat_nn, AV.plain, apart, Nat.testBit_eq_decide_div_mod_eq, *]) <;> exact rfl)); simp only [addFl]) | ((with_reducible first | refine zam ?_ | refine zao ?_ | refine zak ?_ | refine zai ?_ | refine zae ?_ | refine zan ?_ | refine zaj ?_ | refine zar ?_ | (apply zah; (focus (simp [zaa, *]; done))) | (with_reducible apply zad; (focus (simp [zaa, *]; done)))); try simp only [Then, Ops, OutB])))
        exact ⟨by first | trivial | rfl, by first | trivial | rfl, by first | trivial | rfl, by simp only [zap]; simp [he]⟩
      · have hv' : (max 0 (min m (u + i - lk)) == v) = false := beq_eq_false_iff_ne.2 hv
        generalize hmx : max 0 (min m (u + i - lk)) = w at *
        (repeat (first | (with_reducible apply zal; (focus ((conv => lhs; simp [ev1, wantG, spineK, spine, float, xnew, xval, xeff, zaa, zab, zaq, zaf, zag, addFl, cellsOf, pickC, alive, slLen, slFt, binI, maxA, maxK, minA, minK, aeqK, aeqS, AV.cells, zac, boatE, spanE, lookE, fillA, setAt, bitsI, nat_nn, AV.plain, apart, Nat.testBit_eq_decide_div_mod_eq, *]) <;> exact rfl)); simp only [addFl]) | ((with_reducible first | refine zam ?_ | refine zao ?_ | refine zak ?_ | refine zai ?_ | refine zae ?_ | refine zan ?_ | refine zaj ?_ | refine zar ?_ | (apply zah; (focus (simp [zaa, *]; done))) | (with_reducible apply zad; (focus (simp [zaa, *]; done)))); try simp only [Then, Ops, OutB])))
        obtain ⟨hq, h1, h2, h3⟩ := HQ.out
        refine ⟨q - 1, by omega, i + 1, by omega, by omega, by omega, fun j j1 j2 => ?_, ?_⟩
        · rcases (show j < i ∨ j = i by omega) with h | rfl
          · exact h3 j j1 h
          · rw [hmx]; exact fun h => hv h.symm
        · simp only [zat hC]
          exact st_eq (by simp [zas, zau]) rfl rfl rfl
    · have he : sb = false := (HS.out false).2 (by
        simp only [Bool.false_eq_true, false_iff]
        rintro ⟨j, ⟨j1, j2⟩, j3⟩
        exact h3 j j1 (by omega) j3)
      clear hq h1 h2 h3
      (repeat (first | (with_reducible apply zal; (focus ((conv => lhs; simp [ev1, wantG, spineK, spine, float, xnew, xval, xeff, zaa, zab, zaq, zaf, zag, addFl, cellsOf, pickC, alive, slLen, slFt, binI, maxA, maxK, minA, minK, aeqK, aeqS, AV.cells, zac, boatE, spanE, lookE, fillA, setAt, bitsI, nat_nn, AV.plain, apart, Nat.testBit_eq_decide_div_mod_eq, *]) <;> exact rfl)); simp only [addFl]) | ((with_reducible first | refine zam ?_ | refine zao ?_ | refine zak ?_ | refine zai ?_ | refine zae ?_ | refine zan ?_ | refine zaj ?_ | refine zar ?_ | (apply zah; (focus (simp [zaa, *]; done))) | (with_reducible apply zad; (focus (simp [zaa, *]; done)))); try simp only [Then, Ops, OutB, reduceIte])))
      exact ⟨by first | trivial | rfl, by first | trivial | rfl, by first | trivial | rfl, by simp only [zap]; simp [he]⟩
end R
end Ev
end Go.Proofs.YtlkhjnpflohfeaaDoor

/- fits -/
namespace Go.Proofs.YtlkhjnpflohfeaaDoor
open Go
namespace Ev
namespace R
set_option maxRecDepth 100000
set_option maxHeartbeats 8000000 in
theorem fits_fun (C : Cfg) (hC : C.calm = true) (call : CallF) (hI : InC call) (hH : HasC call) (H : List AB) (a b k l m : Int) (r : List (Int × Int)) (bs : List Boat) (ls : List Look) (k5 : ls.length ≤ 5) (s d : Nat) (v : Int) (hs : s < 1048576) :
    Does (ev C call H.length none af100.body { tm := tmA 43 (zipI 0 [.agg [.int .i64 a, .int .i64 b, .int .i64 k, .int .i64 l, .vs 2 (r.map spanE), .int .i64 m, .vs 4 (bs.map boatE), .vs 3 (ls.map lookE)], .int .i64 s, .int .i64 d, .int .i64 v] []), df := [], hp := H, tc := [] }) (Gives 8 (.bool (looksB ⟨(a, b), (k, l), r, m, bs, ls⟩ s d v))) := by
  have hb : ∀ b', looksB ⟨(a, b), (k, l), r, m, bs, ls⟩ s d v = b' ↔ (b' = true ↔ ∀ i (h : i < ls.length), s.testBit i = true → ls[i].day = d → ls[i].depth.1 ≤ v ∧ v ≤ ls[i].depth.2) := by
    intro b'
    have e : (∀ i, i < ls.length → s.testBit i = true → (Cut.lookAt ls i).day = d → Cut.inS (Cut.lookAt ls i).depth v) ↔ ∀ i (h : i < ls.length), s.testBit i = true → ls[i].day = d → ls[i].depth.1 ≤ v ∧ v ≤ ls[i].depth.2 := by
      have e1 : ∀ i (h : i < ls.length), Cut.lookAt ls i = ls[i] := fun i h => by simp [Cut.lookAt, h]
      constructor
      · intro h i hi; have := h i hi; rw [e1 i hi] at this; exact this
      · intro h i hi; rw [e1 i hi]; exact h i hi
    rw [← e]
    unfold looksB Cut.Looks
    cases b' <;> simp
  generalize looksB ⟨(a, b), (k, l), r, m, bs, ls⟩ s d v = sb at *
  have HS := hideP hb
  have h1 := fun H i (h : i < ls.length) => hH H s i hs (by omega)
  have HH := hideP h1
  unfold InC at hI
  clear hb h1 hH hs
  unfold af100
  simp only [zipI]
  (repeat (first | (with_reducible apply zal; (focus ((conv => lhs; simp [ev1, wantG, spineK, spine, float, xnew, xval, xeff, zaa, zab, zaq, zaf, zag, addFl, cellsOf, pickC, alive, slLen, slFt, binI, maxA, maxK, minA, minK, aeqK, aeqS, AV.cells, zac, boatE, spanE, lookE, fillA, setAt, bitsI, nat_nn, AV.plain, apart, Nat.testBit_eq_decide_div_mod_eq, *]) <;> exact rfl)); simp only [addFl]) | ((with_reducible first | refine zam ?_ | refine zao ?_ | refine zak ?_ | refine zai ?_ | refine zae ?_ | refine zan ?_ | refine zaj ?_ | refine zar ?_ | (apply zah; (focus (simp [zaa, *]; done))) | (with_reducible apply zad; (focus (simp [zaa, *]; done)))); try simp only [Then, Ops])))
  refine zbf (fun q st => ∃ (i : Nat) (J : List AB), i + q = ls.length ∧ (∀ j (h : j < ls.length), j < i → s.testBit j = true → ls[j].day = d → ls[j].depth.1 ≤ v ∧ v ≤ ls[j].depth.2) ∧ st = { tm := tmA 43 [(9, .int .i64 i), (4, .ptr H.length 0), (3, .int .i64 v), (2, .int .i64 d), (1, .int .i64 s)], df := [], hp := H ++ .cells [.int .i64 a, .int .i64 b, .int .i64 k, .int .i64 l, .vs 2 (r.map spanE), .int .i64 m, .vs 4 (bs.map boatE), .vs 3 (ls.map lookE)] :: J, tc := [] }) ls.length (by unfold fuelL; omega) ?_ ?_
  · refine ⟨0, [], by omega, fun j _ h => by omega, ?_⟩
    simp only [zat hC]
    exact st_eq (by simp [zas, zau]) rfl rfl rfl
  · rintro q st ⟨i, J, hq, h3, rfl⟩
    by_cases hi : i < ls.length
    · have hw : IntKind.i64.wrap ((i : Int) + 1) = (i : Int) + 1 := zbb (by omega) (by omega)
      have hh := fun H => HH.out H i hi
      have HQ := hideP (And.intro hq h3)
      clear hq h3 k5
      have hcase : (s.testBit i = false) ∨ (s.testBit i = true ∧ ¬ ls[i].day = d) ∨ (s.testBit i = true ∧ ls[i].day = d ∧ Cut.within v ls[i].depth.1 ls[i].depth.2 = true) ∨ (s.testBit i = true ∧ ls[i].day = d ∧ Cut.within v ls[i].depth.1 ls[i].depth.2 = false) := by
        cases s.testBit i <;> simp
        by_cases hd : ls[i].day = d <;> simp [hd]
      have next : (s.testBit i = true → ls[i].day = d → ls[i].depth.1 ≤ v ∧ v ≤ ls[i].depth.2) → ∀ j (h : j < ls.length), j < i + 1 → s.testBit j = true → ls[j].day = d → ls[j].depth.1 ≤ v ∧ v ≤ ls[j].depth.2 := by
        intro hx j hj hji
        rcases (show j < i ∨ j = i by omega) with h | rfl
        · exact HQ.out.2 j hj h
        · exact hx
      generalize hbt : s.testBit i = tb at hh hcase next
      have HNX := hideP next
      have HBT := hideP hbt
      clear next hbt
      rcases hcase with c1 | ⟨c1, c2⟩ | ⟨c1, c2, c3⟩ | ⟨c1, c2, c3⟩
      · (repeat (first | (with_reducible apply zal; (focus ((conv => lhs; simp [ev1, wantG, spineK, spine, float, xnew, xval, xeff, zaa, zab, zaq, zaf, zag, addFl, cellsOf, pickC, alive, slLen, slFt, binI, maxA, maxK, minA, minK, aeqK, aeqS, AV.cells, zac, boatE, spanE, lookE, fillA, setAt, bitsI, nat_nn, AV.plain, apart, Nat.testBit_eq_decide_div_mod_eq, *]) <;> exact rfl)); simp only [addFl]) | ((with_reducible first | refine zam ?_ | refine zao ?_ | refine zak ?_ | refine zai ?_ | refine zae ?_ | refine zan ?_ | refine zaj ?_ | refine zar ?_ | (apply zah; (focus (simp [zaa, *]; done))) | (with_reducible apply zad; (focus (simp [zaa, *]; done)))); try simp only [Then, Ops, OutB])))
        have hq := HQ.out.1
        refine ⟨q - 1, by omega, i + 1, ?_⟩
        apply Exists.intro
        refine ⟨by omega, HNX.out (fun h => absurd h (by rw [c1]; decide)), ?_⟩
        simp only [zat hC]
        exact st_eq (by simp [zas, zau]) rfl rfl rfl
      · have c2' : (ls[i].day == (d : Int)) = false := beq_eq_false_iff_ne.2 c2
        (repeat (first | (with_reducible apply zal; (focus ((conv => lhs; simp [ev1, wantG, spineK, spine, float, xnew, xval, xeff, zaa, zab, zaq, zaf, zag, addFl, cellsOf, pickC, alive, slLen, slFt, binI, maxA, maxK, minA, minK, aeqK, aeqS, AV.cells, zac, boatE, spanE, lookE, fillA, setAt, bitsI, nat_nn, AV.plain, apart, Nat.testBit_eq_decide_div_mod_eq, *]) <;> exact rfl)); simp only [addFl]) | ((with_reducible first | refine zam ?_ | refine zao ?_ | refine zak ?_ | refine zai ?_ | refine zae ?_ | refine zan ?_ | refine zaj ?_ | refine zar ?_ | (apply zah; (focus (simp [zaa, *]; done))) | (with_reducible apply zad; (focus (simp [zaa, *]; done)))); try simp only [Then, Ops, OutB])))
        have hq := HQ.out.1
        refine ⟨q - 1, by omega, i + 1, ?_⟩
        apply Exists.intro
        refine ⟨by omega, HNX.out (fun _ h => absurd h c2), ?_⟩
        simp only [zat hC]
        exact st_eq (by simp [zas, zau]) rfl rfl rfl
      · have c2' : (ls[i].day == (d : Int)) = true := beq_iff_eq.2 c2
        have HC := hideP c2
        clear c2
        (repeat (first | (with_reducible apply zal; (focus ((conv => lhs; simp [ev1, wantG, spineK, spine, float, xnew, xval, xeff, zaa, zab, zaq, zaf, zag, addFl, cellsOf, pickC, alive, slLen, slFt, binI, maxA, maxK, minA, minK, aeqK, aeqS, AV.cells, zac, boatE, spanE, lookE, fillA, setAt, bitsI, nat_nn, AV.plain, apart, Nat.testBit_eq_decide_div_mod_eq, *]) <;> exact rfl)); simp only [addFl]) | ((with_reducible first | refine zam ?_ | refine zao ?_ | refine zak ?_ | refine zai ?_ | refine zae ?_ | refine zan ?_ | refine zaj ?_ | refine zar ?_ | (apply zah; (focus (simp [zaa, *]; done))) | (with_reducible apply zad; (focus (simp [zaa, *]; done)))); try simp only [Then, Ops, OutB])))
        have hq := HQ.out.1
        refine ⟨q - 1, by omega, i + 1, ?_⟩
        apply Exists.intro
        refine ⟨by omega, HNX.out (fun _ _ => by simpa [Cut.within] using c3), ?_⟩
        simp only [zat hC]
        exact st_eq (by simp [zas, zau]) rfl rfl rfl
      · have c2' : (ls[i].day == (d : Int)) = true := beq_iff_eq.2 c2
        have he : sb = false := (HS.out false).2 (by
          simp only [Bool.false_eq_true, false_iff]
          intro h
          have := h i hi (HBT.out.trans c1) c2
          rw [show Cut.within v ls[i].depth.1 ls[i].depth.2 = true by simpa [Cut.within] using this] at c3
          cases c3)
        clear c2
        (repeat (first | (with_reducible apply zal; (focus ((conv => lhs; simp [ev1, wantG, spineK, spine, float, xnew, xval, xeff, zaa, zab, zaq, zaf, zag, addFl, cellsOf, pickC, alive, slLen, slFt, binI, maxA, maxK, minA, minK, aeqK, aeqS, AV.cells, zac, boatE, spanE, lookE, fillA, setAt, bitsI, nat_nn, AV.plain, apart, Nat.testBit_eq_decide_div_mod_eq, *]) <;> exact rfl)); simp only [addFl]) | ((with_reducible first | refine zam ?_ | refine zao ?_ | refine zak ?_ | refine zai ?_ | refine zae ?_ | refine zan ?_ | refine zaj ?_ | refine zar ?_ | (apply zah; (focus (simp [zaa, *]; done))) | (with_reducible apply zad; (focus (simp [zaa, *]; done)))); try simp only [Then, Ops, OutB])))
        exact ⟨by first | trivial | rfl, by first | trivial | rfl, by first | trivial | rfl, by simp only [zap]; simp [he]⟩
    · have he : sb = true := (HS.out true).2 ⟨fun _ j hj => h3 j hj (by omega), fun _ => rfl⟩
      clear h3
      (repeat (first | (with_reducible apply zal; (focus ((conv => lhs; simp [ev1, wantG, spineK, spine, float, xnew, xval, xeff, zaa, zab, zaq, zaf, zag, addFl, cellsOf, pickC, alive, slLen, slFt, binI, maxA, maxK, minA, minK, aeqK, aeqS, AV.cells, zac, boatE, spanE, lookE, fillA, setAt, bitsI, nat_nn, AV.plain, apart, Nat.testBit_eq_decide_div_mod_eq, *]) <;> exact rfl)); simp only [addFl]) | ((with_reducible first | refine zam ?_ | refine zao ?_ | refine zak ?_ | refine zai ?_ | refine zae ?_ | refine zan ?_ | refine zaj ?_ | refine zar ?_ | (apply zah; (focus (simp [zaa, *]; done))) | (with_reducible apply zad; (focus (simp [zaa, *]; done)))); try simp only [Then, Ops, OutB, reduceIte])))
      exact ⟨by first | trivial | rfl, by first | trivial | rfl, by first | trivial | rfl, by simp only [zap]; simp [he]⟩
end R
end Ev
end Go.Proofs.YtlkhjnpflohfeaaDoor

/- The reference of chapter 06, gone through: whether a depth comes from one of the day before, or goes on. -/
namespace Go.Proofs.YtlkhjnpflohfeaaDoor
open Go
namespace Ev
namespace R
set_option maxRecDepth 100000
theorem lk_val (C : Cfg) (N : Nat) (L : List (Nat × AV)) (t : Nat) : val C (tmA N L) (.tmp t) = lk N L t := rfl
noncomputable def fromB (x : CutD) (lk : Int) (d n : Nat) (fp : Nat → Bool) (i : Nat) : Bool := (List.range i).any fun u => fp u && stepB x lk d u n
noncomputable def ontoB (x : CutD) (lk : Int) (d n : Nat) (fn : Nat → Bool) (i : Nat) : Bool := (List.range i).any fun v => fn v && stepB x lk d n v
theorem zmp (p : Nat → Bool) (i : Nat) : (List.range (i + 1)).any p = ((List.range i).any p || p i) := by
  rw [List.range_succ, List.any_append]; simp
theorem zmo {p : Nat → Bool} {i j : Nat} (h : (List.range i).any p = true) (hij : i ≤ j) : (List.range j).any p = true := by
  rw [List.any_eq_true] at h ⊢
  obtain ⟨x, h1, h2⟩ := h
  exact ⟨x, by rw [List.mem_range] at *; omega, h2⟩
set_option maxHeartbeats 8000000 in
theorem d4 (C : Cfg) (hC : C.calm = true) (call : CallF) (hG : GoesC call) (a b k l : Int) (mn : Nat) (r : List (Int × Int)) (bs : List Boat) (ls : List Look) (V : Cut.Valid ⟨(a, b), (k, l), r, mn, bs, ls⟩) (lkv : Int) (lk0 : 0 ≤ lkv) (lk1 : lkv ≤ 10)
    (G : List AB) (B : Nat) (gB : G[B]? = some (.cells [.int .i64 a, .int .i64 b, .int .i64 k, .int .i64 l, .vs 2 (r.map spanE), .int .i64 mn, .vs 4 (bs.map boatE), .vs 3 (ls.map lookE)])) (L : List (Nat × AV)) (tc : List Nat) (pin : Nat)
    (d n : Nat) (hd : d ≤ r.length) (f0 : Bool) (fp : Nat → Bool) (x1 x7 x9 : AV)
    (hrow : 0 < d → ∃ ob oc rb rc, x7 = .sl ob 0 d 1 ∧ G[ob]? = some (.cells oc) ∧ oc[d - 1]? = some (.sl rb 0 (mn + 1) 1) ∧ G[rb]? = some (.cells rc) ∧ ∀ i, i ≤ mn → rc[i]? = some (.bool (fp i)))
    (l1 : lk 162 L 1 = x1) (l2 : lk 162 L 2 = .int .i64 lkv) (l3 : lk 162 L 3 = .ptr B 0) (l7 : lk 162 L 7 = x7) (l8 : lk 162 L 8 = .int .i64 d) (l9 : lk 162 L 9 = x9) (l10 : lk 162 L 10 = .int .i64 n) (l11 : lk 162 L 11 = .bool f0) (l12 : lk 162 L 12 = .int .i64 0) :
    Does (ev C call pin none (atP [1, 1, 0, 1, 0, 0, 1, 0, 0, 1, 0, 1, 0, 0, 1, 0, 0, 1, 0, 1, 0] af95.body) { tm := tmA 162 L, df := [], hp := G, tc := tc })
      (fun e st => e = .exit 4 ∧ ∃ L', lk 162 L' 1 = x1 ∧ lk 162 L' 2 = .int .i64 lkv ∧ lk 162 L' 3 = .ptr B 0 ∧ lk 162 L' 7 = x7 ∧ lk 162 L' 8 = .int .i64 d ∧ lk 162 L' 9 = x9 ∧ lk 162 L' 10 = .int .i64 n ∧
        lk 162 L' 11 = .bool (f0 || (decide (0 < d) && fromB ⟨(a, b), (k, l), r, mn, bs, ls⟩ lkv (d - 1) n fp (mn + 1))) ∧ st = { tm := tmA 162 L', df := [], hp := G, tc := tc }) := by
  have m100 : (mn : Int) ≤ 100 := V.m100
  have n8 : r.length ≤ 8 := V.n8
  have hgo := fun H d' (h : d' < r.length) (u : Nat) (hu : u ≤ mn) => hG H a b k l mn r bs ls V d' h u n lkv (by omega) (by omega) lk0 lk1
  generalize hcd : (⟨(a, b), (k, l), r, mn, bs, ls⟩ : CutD) = c at *
  obtain ⟨nB, eB⟩ := List.getElem?_eq_some_iff.1 gB
  simp only [af95, atP]
  refine zbf (fun q st => ∃ (i : Nat), i + q = mn + 1 ∧ st = { tm := tmA 162 [(12, .int .i64 i), (11, .bool (f0 || (decide (0 < d) && fromB c lkv (d - 1) n fp i))), (10, .int .i64 n), (9, x9), (8, .int .i64 d), (7, x7), (3, .ptr B 0), (2, .int .i64 lkv), (1, x1)], df := [], hp := G, tc := tc }) (mn + 1) (by unfold fuelL; omega) ?_ ?_
  · refine ⟨0, by omega, ?_⟩
    simp only [zat hC]
    exact st_eq (by simp [zas, fromB, *]) rfl rfl rfl
  · rintro q st ⟨i, hq, rfl⟩
    clear l1 l2 l3 l7 l8 l9 l10 l11 l12
    have fin : ∀ (v : Bool), (f0 || (decide (0 < d) && fromB c lkv (d - 1) n fp i)) = v → (f0 || (decide (0 < d) && fromB c lkv (d - 1) n fp (mn + 1))) = v → (f0 || (decide (0 < d) && fromB c lkv (d - 1) n fp i)) = (f0 || (decide (0 < d) && fromB c lkv (d - 1) n fp (mn + 1))) := fun v h1 h2 => h1.trans h2.symm
    by_cases hi : i ≤ mn
    · by_cases hd0 : 0 < d
      · obtain ⟨ob, oc, rb, rc, rfl, gO, hoc, gR, hrc⟩ := hrow hd0
        obtain ⟨nO, eO⟩ := List.getElem?_eq_some_iff.1 gO
        obtain ⟨nR, eR⟩ := List.getElem?_eq_some_iff.1 gR
        cases hb : (f0 || (decide (0 < d) && fromB c lkv (d - 1) n fp i)) with
        | true =>
          have hb2 : (f0 || (decide (0 < d) && fromB c lkv (d - 1) n fp (mn + 1))) = true := by
            cases f0 with
            | true => rfl
            | false =>
              rw [decide_eq_true hd0] at hb ⊢
              simp only [Bool.false_or, Bool.true_and] at hb ⊢
              exact zmo hb (by omega)
          clear hrow fin hgo hrc hoc hq hb
          (repeat (first | (with_reducible apply zal; (focus ((conv => lhs; simp [ev1, wantG, spineK, spine, float, xnew, xval, xeff, zaa, zab, zaq, zaf, zag, addFl, cellsOf, pickC, alive, slLen, slFt, binI, maxA, maxK, minA, minK, aeqK, aeqS, AV.cells, zac, boatE, spanE, lookE, fillA, setAt, bitsI, nat_nn, AV.plain, apart, Nat.testBit_eq_decide_div_mod_eq, *]) <;> exact rfl)); simp only [addFl]) | ((with_reducible first | refine zam ?_ | refine zao ?_ | refine zak ?_ | refine zai ?_ | refine zae ?_ | refine zan ?_ | refine zaj ?_ | refine zar ?_ | (apply zah; (focus (simp [zaa, *]; done))) | (with_reducible apply zad; (focus (simp [zaa, *]; done)))); try simp only [Then, Ops])))
          refine ⟨by first | trivial | rfl, ?_⟩
          apply Exists.intro
          refine ⟨?_, ?_, ?_, ?_, ?_, ?_, ?_, ?_, rfl⟩ <;> simp [zau, hb2]
        | false =>
          have h1 := hrc i hi
          have h2 := fun H => hgo H (d - 1) (by omega) i hi
          have hw : IntKind.i64.wrap ((i : Int) + 1) = (i : Int) + 1 := zbb (by omega) (by omega)
          have hw1 : IntKind.i64.wrap ((d : Int) - 1) = ((d - 1 : Nat) : Int) := by rw [zbb (by omega) (by omega)]; omega
          have hed : d - 1 < d := by omega
          have hi' : i < mn + 1 := by omega
          have hi'' : (i : Int) < (mn : Int) + 1 := by omega
          have hnext : (f0 || (decide (0 < d) && fromB c lkv (d - 1) n fp (i + 1))) = (fp i && stepB c lkv (d - 1) i n) := by
            have hb' := hb
            rw [decide_eq_true hd0] at hb' ⊢
            simp only [Bool.or_eq_false_iff, Bool.true_and] at hb'
            unfold fromB at hb' ⊢
            rw [zmp, hb'.1, hb'.2]; simp
          have HN := hideP hnext
          have HQ := hideP hq
          generalize d - 1 = e at *
          clear hrow fin hgo hrc hnext hq hcd V hG m100
          cases hfp : fp i with
          | false =>
            rw [hfp] at h1
            (repeat (first | (with_reducible apply zal; (focus ((conv => lhs; simp [ev1, wantG, spineK, spine, float, xnew, xval, xeff, zaa, zab, zaq, zaf, zag, addFl, cellsOf, pickC, alive, slLen, slFt, binI, maxA, maxK, minA, minK, aeqK, aeqS, AV.cells, zac, boatE, spanE, lookE, fillA, setAt, bitsI, nat_nn, AV.plain, apart, Nat.testBit_eq_decide_div_mod_eq, *]) <;> exact rfl)); simp only [addFl]) | ((with_reducible first | refine zam ?_ | refine zao ?_ | refine zak ?_ | refine zai ?_ | refine zae ?_ | refine zan ?_ | refine zaj ?_ | refine zar ?_ | (apply zah; (focus (simp [zaa, *]; done))) | (with_reducible apply zad; (focus (simp [zaa, *]; done)))); try simp only [Then, Ops, OutB])))
            have hq := HQ.out
            refine ⟨q - 1, by omega, i + 1, by omega, ?_⟩
            simp only [zat hC]
            rw [HN.out, hfp]
            exact st_eq (by simp [zas, zau]) rfl rfl rfl
          | true =>
            rw [hfp] at h1
            (repeat (first | (with_reducible apply zal; (focus ((conv => lhs; simp [ev1, wantG, spineK, spine, float, xnew, xval, xeff, zaa, zab, zaq, zaf, zag, addFl, cellsOf, pickC, alive, slLen, slFt, binI, maxA, maxK, minA, minK, aeqK, aeqS, AV.cells, zac, boatE, spanE, lookE, fillA, setAt, bitsI, nat_nn, AV.plain, apart, Nat.testBit_eq_decide_div_mod_eq, *]) <;> exact rfl)); simp only [addFl]) | ((with_reducible first | refine zam ?_ | refine zao ?_ | refine zak ?_ | refine zai ?_ | refine zae ?_ | refine zan ?_ | refine zaj ?_ | refine zar ?_ | (apply zah; (focus (simp [zaa, *]; done))) | (with_reducible apply zad; (focus (simp [zaa, *]; done)))); try simp only [Then, Ops, OutB])))
            have hq := HQ.out
            refine ⟨q - 1, by omega, i + 1, by omega, ?_⟩
            simp only [zat hC]
            rw [HN.out, hfp]
            exact st_eq (by simp [zas, zau]) rfl rfl rfl
      · have hd0' : d = 0 := by omega
        subst hd0'
        clear hrow fin hgo hq
        (repeat (first | (with_reducible apply zal; (focus ((conv => lhs; simp [ev1, wantG, spineK, spine, float, xnew, xval, xeff, zaa, zab, zaq, zaf, zag, addFl, cellsOf, pickC, alive, slLen, slFt, binI, maxA, maxK, minA, minK, aeqK, aeqS, AV.cells, zac, boatE, spanE, lookE, fillA, setAt, bitsI, nat_nn, AV.plain, apart, Nat.testBit_eq_decide_div_mod_eq, *]) <;> exact rfl)); simp only [addFl]) | ((with_reducible first | refine zam ?_ | refine zao ?_ | refine zak ?_ | refine zai ?_ | refine zae ?_ | refine zan ?_ | refine zaj ?_ | refine zar ?_ | (apply zah; (focus (simp [zaa, *]; done))) | (with_reducible apply zad; (focus (simp [zaa, *]; done)))); try simp only [Then, Ops])))
        refine ⟨by first | trivial | rfl, ?_⟩
        apply Exists.intro
        refine ⟨?_, ?_, ?_, ?_, ?_, ?_, ?_, ?_, rfl⟩ <;> simp [zau]
    · obtain rfl : i = mn + 1 := by omega
      clear hrow fin hgo hq
      generalize (f0 || (decide (0 < d) && fromB c lkv (d - 1) n fp (mn + 1))) = v at *
      have hx : ¬ ((mn : Int) + 1 ≤ mn) := by omega
      (repeat (first | (with_reducible apply zal; (focus ((conv => lhs; simp [ev1, wantG, spineK, spine, float, xnew, xval, xeff, zaa, zab, zaq, zaf, zag, addFl, cellsOf, pickC, alive, slLen, slFt, binI, maxA, maxK, minA, minK, aeqK, aeqS, AV.cells, zac, boatE, spanE, lookE, fillA, setAt, bitsI, nat_nn, AV.plain, apart, Nat.testBit_eq_decide_div_mod_eq, *]) <;> exact rfl)); simp only [addFl]) | ((with_reducible first | refine zam ?_ | refine zao ?_ | refine zak ?_ | refine zai ?_ | refine zae ?_ | refine zan ?_ | refine zaj ?_ | refine zar ?_ | (apply zah; (focus (simp [zaa, *]; done))) | (with_reducible apply zad; (focus (simp [zaa, *]; done)))); try simp only [Then, Ops])))
      refine ⟨by first | trivial | rfl, ?_⟩
      apply Exists.intro
      refine ⟨?_, ?_, ?_, ?_, ?_, ?_, ?_, ?_, rfl⟩ <;> simp [zau]
end R
end Ev
end Go.Proofs.YtlkhjnpflohfeaaDoor

/- The reference of chapter 06, gone through: whether a depth goes on to one of the day after. -/
namespace Go.Proofs.YtlkhjnpflohfeaaDoor
open Go
namespace Ev
namespace R
set_option maxRecDepth 100000
set_option maxHeartbeats 8000000 in
theorem d10 (C : Cfg) (hC : C.calm = true) (call : CallF) (hG : GoesC call) (a b k l : Int) (mn : Nat) (r : List (Int × Int)) (bs : List Boat) (ls : List Look) (V : Cut.Valid ⟨(a, b), (k, l), r, mn, bs, ls⟩) (lkv : Int) (lk0 : 0 ≤ lkv) (lk1 : lkv ≤ 10)
    (G : List AB) (B : Nat) (gB : G[B]? = some (.cells [.int .i64 a, .int .i64 b, .int .i64 k, .int .i64 l, .vs 2 (r.map spanE), .int .i64 mn, .vs 4 (bs.map boatE), .vs 3 (ls.map lookE)])) (L : List (Nat × AV)) (tc : List Nat) (pin : Nat)
    (d u : Nat) (hd : d < r.length) (hu : u ≤ mn) (fa : Bool) (fn : Nat → Bool) (ob ra rb : Nat) (oc ac bc : List AV)
    (gO : G[ob]? = some (.cells oc)) (ho1 : oc[d]? = some (.sl ra 0 (mn + 1) 1)) (ho2 : oc[d + 1]? = some (.sl rb 0 (mn + 1) 1)) (gR : G[ra]? = some (.cells ac)) (hac : ac[u]? = some (.bool fa)) (gS : G[rb]? = some (.cells bc)) (hbc : ∀ i, i ≤ mn → bc[i]? = some (.bool (fn i)))
    (l2 : lk 162 L 2 = .int .i64 lkv) (l3 : lk 162 L 3 = .ptr B 0) (l7 : lk 162 L 7 = .sl ob 0 (r.length + 1) 1) (l13 : lk 162 L 13 = .int .i64 d) (l14 : lk 162 L 14 = .int .i64 u) (l15 : lk 162 L 15 = .bool false) (l16 : lk 162 L 16 = .int .i64 0) :
    Does (ev C call pin none (atP [1, 1, 1, 0, 1, 0, 0, 1, 0, 0, 1, 0, 0, 1, 0, 0, 1, 0, 1, 0] af95.body) { tm := tmA 162 L, df := [], hp := G, tc := tc })
      (fun e st => e = .exit 10 ∧ ∃ L', lk 162 L' 2 = .int .i64 lkv ∧ lk 162 L' 3 = .ptr B 0 ∧ lk 162 L' 7 = .sl ob 0 (r.length + 1) 1 ∧ lk 162 L' 13 = .int .i64 d ∧ lk 162 L' 14 = .int .i64 u ∧
        lk 162 L' 15 = .bool (fa && ontoB ⟨(a, b), (k, l), r, mn, bs, ls⟩ lkv d u fn (mn + 1)) ∧ st = { tm := tmA 162 L', df := [], hp := G, tc := tc }) := by
  have m100 : (mn : Int) ≤ 100 := V.m100
  have n8 : r.length ≤ 8 := V.n8
  have hgo := fun H (v : Int) => hG H a b k l mn r bs ls V d hd u v lkv (by omega) (by omega) lk0 lk1
  generalize hcd : (⟨(a, b), (k, l), r, mn, bs, ls⟩ : CutD) = c at *
  obtain ⟨nB, eB⟩ := List.getElem?_eq_some_iff.1 gB
  obtain ⟨nO, eO⟩ := List.getElem?_eq_some_iff.1 gO
  obtain ⟨nR, eR⟩ := List.getElem?_eq_some_iff.1 gR
  obtain ⟨nS, eS⟩ := List.getElem?_eq_some_iff.1 gS
  simp only [af95, atP]
  refine zbf (fun q st => ∃ (i : Nat), i + q = mn + 1 ∧ st = { tm := tmA 162 [(16, .int .i64 i), (15, .bool (fa && ontoB c lkv d u fn i)), (14, .int .i64 u), (13, .int .i64 d), (7, .sl ob 0 (r.length + 1) 1), (3, .ptr B 0), (2, .int .i64 lkv)], df := [], hp := G, tc := tc }) (mn + 1) (by unfold fuelL; omega) ?_ ?_
  · refine ⟨0, by omega, ?_⟩
    simp only [zat hC]
    exact st_eq (by simp [zas, ontoB, *]) rfl rfl rfl
  · rintro q st ⟨i, hq, rfl⟩
    clear l2 l3 l7 l13 l14 l15 l16
    have hdd : (d : Int) < (r.length : Int) + 1 := by omega
    have hdr : d < r.length + 1 := by omega
    have hd0 : 0 ≤ (d : Int) + 1 := by omega
    have huu : (u : Int) < (mn : Int) + 1 := by omega
    have hwd : IntKind.i64.wrap ((d : Int) + 1) = (d : Int) + 1 := zbb (by omega) (by omega)
    have hw : IntKind.i64.wrap ((i : Int) + 1) = (i : Int) + 1 := zbb (by omega) (by omega)
    by_cases hi : i ≤ mn
    · cases fa with
      | false =>
        clear hgo hbc hq V hG
        simp only [Bool.false_and]
        (repeat (first | (with_reducible apply zal; (focus ((conv => lhs; simp [ev1, wantG, spineK, spine, float, xnew, xval, xeff, zaa, zab, zaq, zaf, zag, addFl, cellsOf, pickC, alive, slLen, slFt, binI, maxA, maxK, minA, minK, aeqK, aeqS, AV.cells, zac, boatE, spanE, lookE, fillA, setAt, bitsI, nat_nn, AV.plain, apart, Nat.testBit_eq_decide_div_mod_eq, *]) <;> exact rfl)); simp only [addFl]) | ((with_reducible first | refine zam ?_ | refine zao ?_ | refine zak ?_ | refine zai ?_ | refine zae ?_ | refine zan ?_ | refine zaj ?_ | refine zar ?_ | (apply zah; (focus (simp [zaa, *]; done))) | (with_reducible apply zad; (focus (simp [zaa, *]; done)))); try simp only [Then, Ops])))
        refine ⟨by first | trivial | rfl, ?_⟩
        apply Exists.intro
        refine ⟨?_, ?_, ?_, ?_, ?_, ?_, rfl⟩ <;> simp [zau]
      | true =>
        simp only [Bool.true_and]
        cases hb : ontoB c lkv d u fn i with
        | true =>
          have hb2 : ontoB c lkv d u fn (mn + 1) = true := zmo hb (by omega)
          clear hgo hbc hq hb V hG
          (repeat (first | (with_reducible apply zal; (focus ((conv => lhs; simp [ev1, wantG, spineK, spine, float, xnew, xval, xeff, zaa, zab, zaq, zaf, zag, addFl, cellsOf, pickC, alive, slLen, slFt, binI, maxA, maxK, minA, minK, aeqK, aeqS, AV.cells, zac, boatE, spanE, lookE, fillA, setAt, bitsI, nat_nn, AV.plain, apart, Nat.testBit_eq_decide_div_mod_eq, *]) <;> exact rfl)); simp only [addFl]) | ((with_reducible first | refine zam ?_ | refine zao ?_ | refine zak ?_ | refine zai ?_ | refine zae ?_ | refine zan ?_ | refine zaj ?_ | refine zar ?_ | (apply zah; (focus (simp [zaa, *]; done))) | (with_reducible apply zad; (focus (simp [zaa, *]; done)))); try simp only [Then, Ops])))
          refine ⟨by first | trivial | rfl, ?_⟩
          apply Exists.intro
          refine ⟨?_, ?_, ?_, ?_, ?_, ?_, rfl⟩ <;> simp [zau, hb2]
        | false =>
          have h1 := hbc i hi
          have h2 := fun H => hgo H i
          have hi'' : (i : Int) < (mn : Int) + 1 := by omega
          have hnext : ontoB c lkv d u fn (i + 1) = (fn i && stepB c lkv d u i) := by
            unfold ontoB at hb ⊢
            rw [zmp, hb]; simp
          have HN := hideP hnext
          have HQ := hideP hq
          clear hgo hbc hnext hq hcd V hG m100
          cases hfp : fn i with
          | false =>
            rw [hfp] at h1
            (repeat (first | (with_reducible apply zal; (focus ((conv => lhs; simp [ev1, wantG, spineK, spine, float, xnew, xval, xeff, zaa, zab, zaq, zaf, zag, addFl, cellsOf, pickC, alive, slLen, slFt, binI, maxA, maxK, minA, minK, aeqK, aeqS, AV.cells, zac, boatE, spanE, lookE, fillA, setAt, bitsI, nat_nn, AV.plain, apart, Nat.testBit_eq_decide_div_mod_eq, *]) <;> exact rfl)); simp only [addFl]) | ((with_reducible first | refine zam ?_ | refine zao ?_ | refine zak ?_ | refine zai ?_ | refine zae ?_ | refine zan ?_ | refine zaj ?_ | refine zar ?_ | (apply zah; (focus (simp [zaa, *]; done))) | (with_reducible apply zad; (focus (simp [zaa, *]; done)))); try simp only [Then, Ops, OutB])))
            have hq := HQ.out
            refine ⟨q - 1, by omega, i + 1, by omega, ?_⟩
            simp only [zat hC]
            rw [HN.out, hfp]
            exact st_eq (by simp [zas, zau]) rfl rfl rfl
          | true =>
            rw [hfp] at h1
            (repeat (first | (with_reducible apply zal; (focus ((conv => lhs; simp [ev1, wantG, spineK, spine, float, xnew, xval, xeff, zaa, zab, zaq, zaf, zag, addFl, cellsOf, pickC, alive, slLen, slFt, binI, maxA, maxK, minA, minK, aeqK, aeqS, AV.cells, zac, boatE, spanE, lookE, fillA, setAt, bitsI, nat_nn, AV.plain, apart, Nat.testBit_eq_decide_div_mod_eq, *]) <;> exact rfl)); simp only [addFl]) | ((with_reducible first | refine zam ?_ | refine zao ?_ | refine zak ?_ | refine zai ?_ | refine zae ?_ | refine zan ?_ | refine zaj ?_ | refine zar ?_ | (apply zah; (focus (simp [zaa, *]; done))) | (with_reducible apply zad; (focus (simp [zaa, *]; done)))); try simp only [Then, Ops, OutB])))
            have hq := HQ.out
            refine ⟨q - 1, by omega, i + 1, by omega, ?_⟩
            simp only [zat hC]
            rw [HN.out, hfp]
            exact st_eq (by simp [zas, zau]) rfl rfl rfl
    · obtain rfl : i = mn + 1 := by omega
      have hx : ¬ ((mn : Int) + 1 ≤ mn) := by omega
      clear hgo hbc hq V hG
      generalize (fa && ontoB c lkv d u fn (mn + 1)) = v at *
      (repeat (first | (with_reducible apply zal; (focus ((conv => lhs; simp [ev1, wantG, spineK, spine, float, xnew, xval, xeff, zaa, zab, zaq, zaf, zag, addFl, cellsOf, pickC, alive, slLen, slFt, binI, maxA, maxK, minA, minK, aeqK, aeqS, AV.cells, zac, boatE, spanE, lookE, fillA, setAt, bitsI, nat_nn, AV.plain, apart, Nat.testBit_eq_decide_div_mod_eq, *]) <;> exact rfl)); simp only [addFl]) | ((with_reducible first | refine zam ?_ | refine zao ?_ | refine zak ?_ | refine zai ?_ | refine zae ?_ | refine zan ?_ | refine zaj ?_ | refine zar ?_ | (apply zah; (focus (simp [zaa, *]; done))) | (with_reducible apply zad; (focus (simp [zaa, *]; done)))); try simp only [Then, Ops])))
      refine ⟨by first | trivial | rfl, ?_⟩
      apply Exists.intro
      refine ⟨?_, ?_, ?_, ?_, ?_, ?_, rfl⟩ <;> simp [zau]
end R
end Ev
end Go.Proofs.YtlkhjnpflohfeaaDoor

/- The reference of chapter 06, gone through: the depths of a day, by those of the day before. -/
namespace Go.Proofs.YtlkhjnpflohfeaaDoor
open Go
namespace Ev
namespace R
set_option maxRecDepth 100000
def rowC (mn : Nat) (F : Nat → Bool) (n : Nat) : List AV := (List.range (mn + 1)).map fun i => .bool (if i < n then F i else false)
theorem zfb (mn : Nat) (F : Nat → Bool) (n : Nat) : (rowC mn F n).length = mn + 1 := by simp [rowC]
theorem zlq (mn : Nat) (F : Nat → Bool) (n i : Nat) (h : i ≤ mn) : (rowC mn F n)[i]? = some (.bool (if i < n then F i else false)) := by
  unfold rowC
  rw [List.getElem?_map, List.getElem?_range (by omega)]; rfl
theorem zyi (mn : Nat) (F : Nat → Bool) (n : Nat) (h : n ≤ mn) : (rowC mn F n).take n ++ .bool (F n) :: (rowC mn F n).drop (n + 1) = rowC mn F (n + 1) := by
  have e : (rowC mn F n).take n ++ .bool (F n) :: (rowC mn F n).drop (n + 1) = (rowC mn F n).set n (.bool (F n)) := by
    rw [List.set_eq_take_append_cons_drop, if_pos (by rw [zfb]; omega)]
  rw [e]
  apply List.ext_getElem?
  intro i
  by_cases hi : i ≤ mn
  · rw [zlq mn F (n + 1) i hi]
    by_cases hin : n = i
    · subst hin
      rw [List.getElem?_set_self (by rw [zfb]; omega), if_pos (by omega)]
    · rw [List.getElem?_set_ne hin, zlq mn F n i hi]
      by_cases h1 : i < n
      · rw [if_pos h1, if_pos (by omega)]
      · rw [if_neg h1, if_neg (by omega)]
  · rw [List.getElem?_eq_none (by simp [zfb]; omega), List.getElem?_eq_none (by simp [zfb]; omega)]
theorem zuk (mn : Nat) (F : Nat → Bool) : rowC mn F (mn + 1) = (List.range (mn + 1)).map fun i => .bool (F i) := by
  unfold rowC
  apply List.map_congr_left
  intro i hi
  rw [List.mem_range] at hi
  rw [if_pos hi]
theorem zuj (mn : Nat) (F : Nat → Bool) : rowC mn F 0 = List.replicate (mn + 1) (.bool false) := by
  apply List.ext_getElem?
  intro i
  by_cases hi : i ≤ mn
  · rw [zlq mn F 0 i hi, if_neg (by omega), List.getElem?_replicate, if_pos (by omega)]
  · rw [List.getElem?_eq_none (by simp [zfb]; omega), List.getElem?_eq_none (by simp; omega)]
theorem zqt {α : Type} {l : List α} {i : Nat} {v : α} (h : l[i]? = some v) : l.set i v = l := by
  obtain ⟨h1, h2⟩ := List.getElem?_eq_some_iff.1 h
  rw [← h2]; exact List.set_getElem_self h1
noncomputable def forB (x : CutD) (lk : Int) (s : Nat) (mn d : Nat) (fp : Nat → Bool) (n : Nat) : Bool :=
  (((d == 0) && Cut.within n x.depth.1 x.depth.2) || (decide (0 < d) && fromB x lk (d - 1) n fp (mn + 1))) && looksB x s d n
set_option maxHeartbeats 8000000 in
theorem d2 (C : Cfg) (hC : C.calm = true) (call : CallF) (hG : GoesC call) (hI : InC call) (hF : FitsC call) (a b k l : Int) (mn : Nat) (r : List (Int × Int)) (bs : List Boat) (ls : List Look) (V : Cut.Valid ⟨(a, b), (k, l), r, mn, bs, ls⟩) (lkv : Int) (lk0 : 0 ≤ lkv) (lk1 : lkv ≤ 10) (s : Nat) (hs : s < 1048576)
    (G : List AB) (B rr : Nat) (gB : G[B]? = some (.cells [.int .i64 a, .int .i64 b, .int .i64 k, .int .i64 l, .vs 2 (r.map spanE), .int .i64 mn, .vs 4 (bs.map boatE), .vs 3 (ls.map lookE)])) (L : List (Nat × AV)) (tc : List Nat) (pin : Nat) (hpin : pin ≤ rr) (hBr : B ≠ rr)
    (gR : G[rr]? = some (.cells (List.replicate (mn + 1) (.bool false))))
    (d : Nat) (hd : d ≤ r.length) (fp : Nat → Bool) (x7 : AV)
    (hrow : 0 < d → ∃ ob oc rb rc, x7 = .sl ob 0 d 1 ∧ ob ≠ rr ∧ rb ≠ rr ∧ G[ob]? = some (.cells oc) ∧ oc[d - 1]? = some (.sl rb 0 (mn + 1) 1) ∧ G[rb]? = some (.cells rc) ∧ ∀ i, i ≤ mn → rc[i]? = some (.bool (fp i)))
    (l1 : lk 162 L 1 = .int .i64 s) (l2 : lk 162 L 2 = .int .i64 lkv) (l3 : lk 162 L 3 = .ptr B 0) (l7 : lk 162 L 7 = x7) (l8 : lk 162 L 8 = .int .i64 d) (l9 : lk 162 L 9 = .sl rr 0 (mn + 1) 1) (l10 : lk 162 L 10 = .int .i64 0) :
    Does (ev C call pin none (atP [1, 1, 0, 1, 0, 0, 1, 0, 0, 1, 0, 1, 0] af95.body) { tm := tmA 162 L, df := [], hp := G, tc := tc })
      (fun e st => e = .exit 2 ∧ ∃ L', lk 162 L' 1 = .int .i64 s ∧ lk 162 L' 2 = .int .i64 lkv ∧ lk 162 L' 3 = .ptr B 0 ∧ lk 162 L' 7 = x7 ∧ lk 162 L' 8 = .int .i64 d ∧ lk 162 L' 9 = .sl rr 0 (mn + 1) 1 ∧
        st = { tm := tmA 162 L', df := [], hp := G.set rr (.cells (rowC mn (forB ⟨(a, b), (k, l), r, mn, bs, ls⟩ lkv s mn d fp) (mn + 1))), tc := tc }) := by
  have m100 : (mn : Int) ≤ 100 := V.m100
  have n8 : r.length ≤ 8 := V.n8
  have hfit := fun H (n : Int) => hF H a b k l mn r bs ls V.k5 s d n hs
  have hd4 := fun (n : Nat) (f0 : Bool) (v : AB) L => d4 C hC call hG a b k l mn r bs ls V lkv lk0 lk1 (G.set rr v) B (by rw [List.getElem?_set_ne (Ne.symm hBr)]; exact gB) L tc pin d n hd f0 fp (.int .i64 s) x7 (.sl rr 0 (mn + 1) 1) (fun h0 => by
    obtain ⟨ob, oc, rb, rc, h1, h2, h3, h4, h5, h6, h7⟩ := hrow h0
    exact ⟨ob, oc, rb, rc, h1, by rw [List.getElem?_set_ne (Ne.symm h2)]; exact h4, h5, by rw [List.getElem?_set_ne (Ne.symm h3)]; exact h6, h7⟩)
  simp only [af95, atP] at hd4
  have hFn : ∀ n : Nat, forB ⟨(a, b), (k, l), r, mn, bs, ls⟩ lkv s mn d fp n = ((((d == 0) && Cut.within n a b) || (decide (0 < d) && fromB ⟨(a, b), (k, l), r, mn, bs, ls⟩ lkv (d - 1) n fp (mn + 1))) && looksB ⟨(a, b), (k, l), r, mn, bs, ls⟩ s d n) := fun n => rfl
  generalize hcd : (⟨(a, b), (k, l), r, mn, bs, ls⟩ : CutD) = c at *
  obtain ⟨nB, eB⟩ := List.getElem?_eq_some_iff.1 gB
  obtain ⟨nR, -⟩ := List.getElem?_eq_some_iff.1 gR
  have hBr' : ¬ rr = B := Ne.symm hBr
  have hBr'' : ¬ B = rr := hBr
  generalize forB c lkv s mn d fp = F at *
  simp only [af95, atP]
  refine zbf (fun q st => ∃ (n : Nat), n + q = mn + 1 ∧ st = { tm := tmA 162 [(10, .int .i64 n), (9, .sl rr 0 (mn + 1) 1), (8, .int .i64 d), (7, x7), (3, .ptr B 0), (2, .int .i64 lkv), (1, .int .i64 s)], df := [], hp := G.set rr (.cells (rowC mn F n)), tc := tc }) (mn + 1) (by unfold fuelL; omega) ?_ ?_
  · refine ⟨0, by omega, ?_⟩
    simp only [zat hC]
    exact st_eq (by simp [zas, *]) rfl (by rw [zuj]; exact (zqt gR).symm) rfl
  · rintro q st ⟨n, hq, rfl⟩
    clear l1 l2 l3 l7 l8 l9 l10 hrow gR
    by_cases hn : n ≤ mn
    · have hw : IntKind.i64.wrap ((n : Int) + 1) = (n : Int) + 1 := zbb (by omega) (by omega)
      have hset := zyi mn F n hn
      have hlen := zfb mn F n
      have hn1 : n + 1 ≤ mn + 1 := by omega
      have hn2 : (n : Int) < (mn : Int) + 1 := by omega
      have hn3 : n < mn + 1 := by omega
      have hpin' : ¬ rr < pin := by omega
      have hFn' := hFn n
      have HQ := hideP hq
      have HF := hideP hfit
      have HD := hideP hd4
      unfold InC at hI
      generalize hf0 : ((d == 0) && Cut.within n a b) = f0 at hFn'
      generalize hfr : (f0 || (decide (0 < d) && fromB c lkv (d - 1) n fp (mn + 1))) = fr at hFn'
      generalize rowC mn F n = rw0 at *
      have HFR := hideP hfr
      clear hfit hd4 hF hG V hcd hFn hq m100 hfr
      by_cases hd0 : d = 0
      · have hdi : ((d : Int) == 0) = true := beq_iff_eq.2 (by omega)
        have hw0 : Cut.within n a b = f0 := by rw [← hf0, hd0]; rfl
        clear hf0 hd0
        (repeat (first | (with_reducible apply zal; (focus ((conv => lhs; simp [ev1, wantG, spineK, spine, float, xnew, xval, xeff, zaa, zab, zaq, zaf, zag, addFl, cellsOf, pickC, alive, slLen, slFt, binI, maxA, maxK, minA, minK, aeqK, aeqS, AV.cells, zac, boatE, spanE, lookE, fillA, setAt, bitsI, nat_nn, AV.plain, apart, Nat.testBit_eq_decide_div_mod_eq, *]) <;> exact rfl)); simp only [addFl]) | ((with_reducible first | refine zam ?_ | refine zao ?_ | refine zak ?_ | refine zai ?_ | refine zae ?_ | refine zan ?_ | refine zaj ?_ | refine zar ?_ | (apply zah; (focus (simp [zaa, *]; done))) | (with_reducible apply zad; (focus (simp [zaa, *]; done)))); try simp only [Then, Ops])))
        refine Does.mono (HD.out n f0 _ _ ?_ ?_ ?_ ?_ ?_ ?_ ?_ ?_ ?_) ?_
        iterate 9 (focus (simp [zau]; done))
        rintro e1 st ⟨rfl, L', k1, k2, k3, k7, k8, k9, k10, k11, rfl⟩
        rw [HFR.out] at k11
        have u1 := fun C => (lk_val C 162 L' 1).trans k1
        have u3 := fun C => (lk_val C 162 L' 3).trans k3
        have u8 := fun C => (lk_val C 162 L' 8).trans k8
        have u9 := fun C => (lk_val C 162 L' 9).trans k9
        have u10 := fun C => (lk_val C 162 L' 10).trans k10
        have u11 := fun C => (lk_val C 162 L' 11).trans k11
        have h1 := fun H => HF.out H n
        simp only [OutB, Then, reduceIte]
        cases fr with
        | false =>
          rw [show F n = false from hFn'] at hset
          (repeat (first | (with_reducible apply zal; (focus ((conv => lhs; simp [ev1, wantG, spineK, spine, float, xnew, xval, xeff, zaa, zab, zaq, zaf, zag, addFl, cellsOf, pickC, alive, slLen, slFt, binI, maxA, maxK, minA, minK, aeqK, aeqS, AV.cells, zac, boatE, spanE, lookE, fillA, setAt, bitsI, nat_nn, AV.plain, apart, Nat.testBit_eq_decide_div_mod_eq, *]) <;> exact rfl)); simp only [addFl]) | ((with_reducible first | refine zam ?_ | refine zao ?_ | refine zak ?_ | refine zai ?_ | refine zae ?_ | refine zan ?_ | refine zaj ?_ | refine zar ?_ | (apply zah; (focus (simp [zaa, *]; done))) | (with_reducible apply zad; (focus (simp [zaa, *]; done)))); try simp only [Then, Ops, OutB])))
          have hq := HQ.out
          refine ⟨q - 1, by omega, n + 1, by omega, ?_⟩
          simp only [zat hC]
          exact st_eq (by simp [zas, zau, *]) rfl rfl (by simp)
        | true =>
          have hFl : looksB c s d n = F n := by rw [hFn']; rfl
          clear hFn'
          (repeat (first | (with_reducible apply zal; (focus ((conv => lhs; simp [ev1, wantG, spineK, spine, float, xnew, xval, xeff, zaa, zab, zaq, zaf, zag, addFl, cellsOf, pickC, alive, slLen, slFt, binI, maxA, maxK, minA, minK, aeqK, aeqS, AV.cells, zac, boatE, spanE, lookE, fillA, setAt, bitsI, nat_nn, AV.plain, apart, Nat.testBit_eq_decide_div_mod_eq, *]) <;> exact rfl)); simp only [addFl]) | ((with_reducible first | refine zam ?_ | refine zao ?_ | refine zak ?_ | refine zai ?_ | refine zae ?_ | refine zan ?_ | refine zaj ?_ | refine zar ?_ | (apply zah; (focus (simp [zaa, *]; done))) | (with_reducible apply zad; (focus (simp [zaa, *]; done)))); try simp only [Then, Ops, OutB])))
          have hq := HQ.out
          refine ⟨q - 1, by omega, n + 1, by omega, ?_⟩
          simp only [zat hC]
          exact st_eq (by simp [zas, zau, *]) rfl rfl (by simp)
      · have hdi : ((d : Int) == 0) = false := beq_eq_false_iff_ne.2 (by omega)
        obtain rfl : f0 = false := by rw [← hf0, beq_eq_false_iff_ne.2 hd0]; rfl
        clear hf0
        (repeat (first | (with_reducible apply zal; (focus ((conv => lhs; simp [ev1, wantG, spineK, spine, float, xnew, xval, xeff, zaa, zab, zaq, zaf, zag, addFl, cellsOf, pickC, alive, slLen, slFt, binI, maxA, maxK, minA, minK, aeqK, aeqS, AV.cells, zac, boatE, spanE, lookE, fillA, setAt, bitsI, nat_nn, AV.plain, apart, Nat.testBit_eq_decide_div_mod_eq, *]) <;> exact rfl)); simp only [addFl]) | ((with_reducible first | refine zam ?_ | refine zao ?_ | refine zak ?_ | refine zai ?_ | refine zae ?_ | refine zan ?_ | refine zaj ?_ | refine zar ?_ | (apply zah; (focus (simp [zaa, *]; done))) | (with_reducible apply zad; (focus (simp [zaa, *]; done)))); try simp only [Then, Ops])))
        refine Does.mono (HD.out n false _ _ ?_ ?_ ?_ ?_ ?_ ?_ ?_ ?_ ?_) ?_
        iterate 9 (focus (simp [zau]; done))
        rintro e1 st ⟨rfl, L', k1, k2, k3, k7, k8, k9, k10, k11, rfl⟩
        rw [HFR.out] at k11
        have u1 := fun C => (lk_val C 162 L' 1).trans k1
        have u3 := fun C => (lk_val C 162 L' 3).trans k3
        have u8 := fun C => (lk_val C 162 L' 8).trans k8
        have u9 := fun C => (lk_val C 162 L' 9).trans k9
        have u10 := fun C => (lk_val C 162 L' 10).trans k10
        have u11 := fun C => (lk_val C 162 L' 11).trans k11
        have h1 := fun H => HF.out H n
        simp only [OutB, Then, reduceIte]
        cases fr with
        | false =>
          rw [show F n = false from hFn'] at hset
          (repeat (first | (with_reducible apply zal; (focus ((conv => lhs; simp [ev1, wantG, spineK, spine, float, xnew, xval, xeff, zaa, zab, zaq, zaf, zag, addFl, cellsOf, pickC, alive, slLen, slFt, binI, maxA, maxK, minA, minK, aeqK, aeqS, AV.cells, zac, boatE, spanE, lookE, fillA, setAt, bitsI, nat_nn, AV.plain, apart, Nat.testBit_eq_decide_div_mod_eq, *]) <;> exact rfl)); simp only [addFl]) | ((with_reducible first | refine zam ?_ | refine zao ?_ | refine zak ?_ | refine zai ?_ | refine zae ?_ | refine zan ?_ | refine zaj ?_ | refine zar ?_ | (apply zah; (focus (simp [zaa, *]; done))) | (with_reducible apply zad; (focus (simp [zaa, *]; done)))); try simp only [Then, Ops, OutB])))
          have hq := HQ.out
          refine ⟨q - 1, by omega, n + 1, by omega, ?_⟩
          simp only [zat hC]
          exact st_eq (by simp [zas, zau, *]) rfl rfl (by simp)
        | true =>
          have hFl : looksB c s d n = F n := by rw [hFn']; rfl
          clear hFn'
          (repeat (first | (with_reducible apply zal; (focus ((conv => lhs; simp [ev1, wantG, spineK, spine, float, xnew, xval, xeff, zaa, zab, zaq, zaf, zag, addFl, cellsOf, pickC, alive, slLen, slFt, binI, maxA, maxK, minA, minK, aeqK, aeqS, AV.cells, zac, boatE, spanE, lookE, fillA, setAt, bitsI, nat_nn, AV.plain, apart, Nat.testBit_eq_decide_div_mod_eq, *]) <;> exact rfl)); simp only [addFl]) | ((with_reducible first | refine zam ?_ | refine zao ?_ | refine zak ?_ | refine zai ?_ | refine zae ?_ | refine zan ?_ | refine zaj ?_ | refine zar ?_ | (apply zah; (focus (simp [zaa, *]; done))) | (with_reducible apply zad; (focus (simp [zaa, *]; done)))); try simp only [Then, Ops, OutB])))
          have hq := HQ.out
          refine ⟨q - 1, by omega, n + 1, by omega, ?_⟩
          simp only [zat hC]
          exact st_eq (by simp [zas, zau, *]) rfl rfl (by simp)
    · obtain rfl : n = mn + 1 := by omega
      have hx : ¬ ((mn : Int) + 1 ≤ mn) := by omega
      clear hfit hd4 hFn hq hI hF hG V
      (repeat (first | (with_reducible apply zal; (focus ((conv => lhs; simp [ev1, wantG, spineK, spine, float, xnew, xval, xeff, zaa, zab, zaq, zaf, zag, addFl, cellsOf, pickC, alive, slLen, slFt, binI, maxA, maxK, minA, minK, aeqK, aeqS, AV.cells, zac, boatE, spanE, lookE, fillA, setAt, bitsI, nat_nn, AV.plain, apart, Nat.testBit_eq_decide_div_mod_eq, *]) <;> exact rfl)); simp only [addFl]) | ((with_reducible first | refine zam ?_ | refine zao ?_ | refine zak ?_ | refine zai ?_ | refine zae ?_ | refine zan ?_ | refine zaj ?_ | refine zar ?_ | (apply zah; (focus (simp [zaa, *]; done))) | (with_reducible apply zad; (focus (simp [zaa, *]; done)))); try simp only [Then, Ops])))
      refine ⟨by first | trivial | rfl, ?_⟩
      apply Exists.intro
      refine ⟨?_, ?_, ?_, ?_, ?_, ?_, rfl⟩ <;> simp [zau]
end R
end Ev
end Go.Proofs.YtlkhjnpflohfeaaDoor

/- The reference of chapter 06, gone through: the depths of all days, forwards. -/
namespace Go.Proofs.YtlkhjnpflohfeaaDoor
open Go
namespace Ev
namespace R
set_option maxRecDepth 100000
theorem zcf {H K : List AB} {i : Nat} {x : AB} (h : H[i]? = some x) : (H ++ K)[i]? = some x := by
  rw [List.getElem?_append_left (List.getElem?_eq_some_iff.1 h).1]; exact h
structure Rows (G : List AB) (W ob n mn : Nat) (rb : Nat → Nat) (f : Nat → Nat → Bool) : Prop where
  out : G[ob]? = some (.cells ((List.range n).map fun d => .sl (rb d) 0 (mn + 1) 1))
  row : ∀ d, d < n → G[rb d]? = some (.cells ((List.range (mn + 1)).map fun i => .bool (f d i)))
  inj : ∀ d e, d < n → e < n → rb d = rb e → d = e
  ne : ∀ d, d < n → rb d ≠ ob ∧ W ≤ rb d
  low : W ≤ ob
def Pre (Hp G : List AB) : Prop := ∃ T, G = Hp ++ T
theorem Pre.app {Hp G : List AB} (h : Pre Hp G) (K : List AB) : Pre Hp (G ++ K) := by
  obtain ⟨T, rfl⟩ := h; exact ⟨T ++ K, by simp⟩
theorem Pre.set {Hp G : List AB} (h : Pre Hp G) {i : Nat} (hi : Hp.length ≤ i) (v : AB) : Pre Hp (G.set i v) := by
  obtain ⟨T, rfl⟩ := h
  exact ⟨T.set (i - Hp.length) v, by rw [List.set_append_right _ _ hi]⟩
theorem Pre.len {Hp G : List AB} (h : Pre Hp G) : Hp.length ≤ G.length := by
  obtain ⟨T, rfl⟩ := h; simp
theorem Pre.get {Hp G : List AB} (h : Pre Hp G) {i : Nat} {x : AB} (hi : Hp[i]? = some x) : G[i]? = some x := by
  obtain ⟨T, rfl⟩ := h
  rw [List.getElem?_append_left (List.getElem?_eq_some_iff.1 hi).1]; exact hi
noncomputable def fwd (x : CutD) (lk : Int) (s mn : Nat) : Nat → Nat → Bool
  | 0 => forB x lk s mn 0 fun _ => false
  | d + 1 => forB x lk s mn (d + 1) (fwd x lk s mn d)
theorem fwd_eq (x : CutD) (lk : Int) (s mn d : Nat) : forB x lk s mn d (fwd x lk s mn (d - 1)) = fwd x lk s mn d := by
  cases d with
  | zero => funext i; unfold fwd forB; simp
  | succ d => rfl
theorem zui {G Hp : List AB} {ob d mn : Nat} {rb : Nat → Nat} {f : Nat → Nat → Bool} {row : List AV} {X : AB} (hP : Pre Hp G) (hf : row = (List.range (mn + 1)).map fun i => .bool (f d i)) (h : 0 < d → Rows G Hp.length ob d mn rb f) :
    Rows ((if d = 0 then G else G.set ob .dead) ++ [.cells row, X, .cells ((List.range d).map (fun e => AV.sl (rb e) 0 (mn + 1) 1) ++ [.sl G.length 0 (mn + 1) 1])]) Hp.length (G.length + 2) (d + 1) mn (fun e => if e = d then G.length else rb e) f := by
  have hl : (if d = 0 then G else G.set ob .dead).length = G.length := by split <;> simp
  have hlow := hP.len
  have hrb : ∀ e, e < d → rb e < G.length := fun e he => (List.getElem?_eq_some_iff.1 ((h (by omega)).row e he)).1
  refine ⟨?_, ?_, ?_, ?_, by omega⟩
  · rw [List.getElem?_append_right (by rw [hl]; omega), hl, show G.length + 2 - G.length = 2 by omega]
    simp only [List.getElem?_cons_succ, List.getElem?_cons_zero, List.range_succ, List.map_append, List.map_cons, List.map_nil, if_true]
    congr 3
    apply List.map_congr_left
    intro e he
    rw [List.mem_range] at he
    rw [if_neg (by omega)]
  · intro e he
    by_cases hed : e = d
    · subst hed
      simp only [if_true]
      rw [List.getElem?_append_right (by rw [hl]; omega), hl, Nat.sub_self, hf]; rfl
    · simp only [if_neg hed]
      have hr := (h (by omega)).row e (by omega)
      have hn := ((h (by omega)).ne e (by omega)).1
      rw [List.getElem?_append_left (by rw [hl]; exact hrb e (by omega)), if_neg (by omega), List.getElem?_set_ne (Ne.symm hn)]
      exact hr
  · intro e e' he he' hee
    by_cases h1 : e = d <;> by_cases h2 : e' = d
    · omega
    · simp only [if_pos h1, if_neg h2] at hee
      have := hrb e' (by omega); omega
    · simp only [if_pos h2, if_neg h1] at hee
      have := hrb e (by omega); omega
    · simp only [if_neg h1, if_neg h2] at hee
      exact (h (by omega)).inj e e' (by omega) (by omega) hee
  · intro e he
    by_cases hed : e = d
    · simp only [if_pos hed]; omega
    · simp only [if_neg hed]
      have := hrb e (by omega)
      have := (h (by omega)).ne e (by omega)
      omega
set_option maxHeartbeats 8000000 in
theorem d0 (C : Cfg) (hC : C.calm = true) (call : CallF) (hG : GoesC call) (hI : InC call) (hF : FitsC call) (a b k l : Int) (mn : Nat) (r : List (Int × Int)) (bs : List Boat) (ls : List Look) (V : Cut.Valid ⟨(a, b), (k, l), r, mn, bs, ls⟩) (lkv : Int) (lk0 : 0 ≤ lkv) (lk1 : lkv ≤ 10) (s : Nat) (hs : s < 1048576)
    (Hp G0 : List AB) (B : Nat) (hW : Hp.length = B + 1) (hB : Hp[B]? = some (.cells [.int .i64 a, .int .i64 b, .int .i64 k, .int .i64 l, .vs 2 (r.map spanE), .int .i64 mn, .vs 4 (bs.map boatE), .vs 3 (ls.map lookE)])) (hP : Pre Hp G0) (L : List (Nat × AV)) (tc : List Nat) (pin : Nat) (hpin : pin ≤ B)
    (l1 : lk 162 L 1 = .int .i64 s) (l2 : lk 162 L 2 = .int .i64 lkv) (l3 : lk 162 L 3 = .ptr B 0) (l7 : lk 162 L 7 = .nils) (l8 : lk 162 L 8 = .int .i64 0) :
    Does (ev C call pin none (atP [1, 1, 0, 1, 0] af95.body) { tm := tmA 162 L, df := [], hp := G0, tc := tc })
      (fun e st => e = .exit 0 ∧ ∃ L' G ob rb, lk 162 L' 2 = .int .i64 lkv ∧ lk 162 L' 3 = .ptr B 0 ∧ lk 162 L' 7 = .sl ob 0 (r.length + 1) 1 ∧ Pre Hp G ∧ Rows G Hp.length ob (r.length + 1) mn rb (fwd ⟨(a, b), (k, l), r, mn, bs, ls⟩ lkv s mn) ∧
        st = { tm := tmA 162 L', df := [], hp := G, tc := tc }) := by
  have m100 : (mn : Int) ≤ 100 := V.m100
  have n8 : r.length ≤ 8 := V.n8
  have hd2 := fun (G : List AB) (gB : G[B]? = some (.cells [.int .i64 a, .int .i64 b, .int .i64 k, .int .i64 l, .vs 2 (r.map spanE), .int .i64 mn, .vs 4 (bs.map boatE), .vs 3 (ls.map lookE)])) (rr : Nat) (h1 : B < rr) L (gR : G[rr]? = some (.cells (List.replicate (mn + 1) (.bool false)))) d hd fp x7 hrow =>
    d2 C hC call hG hI hF a b k l mn r bs ls V lkv lk0 lk1 s hs G B rr gB L tc pin (by omega) (by omega) gR d hd fp x7 hrow
  simp only [af95, atP] at hd2
  simp only [af95, atP]
  generalize hcd : (⟨(a, b), (k, l), r, mn, bs, ls⟩ : CutD) = c at *
  refine zbf (fun q st => ∃ (d : Nat) (G : List AB) (ob : Nat) (rb : Nat → Nat) (x7 : AV), d + q = r.length + 1 ∧ Pre Hp G ∧ x7 = (if d = 0 then .nils else .sl ob 0 d 1) ∧ (0 < d → Rows G Hp.length ob d mn rb (fwd c lkv s mn)) ∧ st = { tm := tmA 162 [(8, .int .i64 d), (7, x7), (3, .ptr B 0), (2, .int .i64 lkv), (1, .int .i64 s)], df := [], hp := G, tc := tc }) (r.length + 1) (by unfold fuelL; omega) ?_ ?_
  · refine ⟨0, G0, 0, fun _ => 0, .nils, by omega, hP, rfl, fun h => by omega, ?_⟩
    simp only [zat hC]
    exact st_eq (by simp [zas, *]) rfl rfl rfl
  · rintro q st ⟨d, G, ob, rb, x7, hq, hPG, hx7, hR, rfl⟩
    clear l1 l2 l3 l7 l8 hP
    have gB := hPG.get hB
    have hlen := hPG.len
    obtain ⟨nB, eB⟩ := List.getElem?_eq_some_iff.1 gB
    by_cases hd : d ≤ r.length
    · have gB' : ∀ K, (G ++ K)[B]? = some (.cells [.int .i64 a, .int .i64 b, .int .i64 k, .int .i64 l, .vs 2 (r.map spanE), .int .i64 mn, .vs 4 (bs.map boatE), .vs 3 (ls.map lookE)]) := fun K => by rw [List.getElem?_append_left nB]; exact gB
      have nB' : ∀ n, B < G.length + n := fun n => by omega
      have hw : IntKind.i64.wrap ((d : Int) + 1) = (d : Int) + 1 := zbb (by omega) (by omega)
      have hwm : IntKind.i64.wrap ((mn : Int) + 1) = (mn : Int) + 1 := zbb (by omega) (by omega)
      have hbm : (mn : Int) + 1 ≤ bound := by unfold bound; omega
      have hm0 : 0 ≤ (mn : Int) + 1 := by omega
      have HQ := hideP hq
      have HR := hideP hR
      have HP := hideP hPG
      have HX := hideP hx7
      have HD := hideP (hd2 (G ++ [.cells (List.replicate (mn + 1) (.bool false))]) (gB' _) G.length (by omega))
      have HL := hideP hlen
      clear hq hR hPG hx7 hd2 hlen V hcd hG hI hF m100
      (repeat (first | (with_reducible apply zal; (focus ((conv => lhs; simp [ev1, wantG, spineK, spine, float, xnew, xval, xeff, zaa, zab, zaq, zaf, zag, addFl, cellsOf, pickC, alive, slLen, slFt, binI, maxA, maxK, minA, minK, aeqK, aeqS, AV.cells, zac, boatE, spanE, lookE, fillA, setAt, bitsI, nat_nn, AV.plain, apart, Nat.testBit_eq_decide_div_mod_eq, *]) <;> exact rfl)); simp only [addFl]) | ((with_reducible first | refine zam ?_ | refine zao ?_ | refine zak ?_ | refine zai ?_ | refine zae ?_ | refine zan ?_ | refine zaj ?_ | refine zar ?_ | (apply zah; (focus (simp [zaa, *]; done))) | (with_reducible apply zad; (focus (simp [zaa, *]; done)))); try simp only [Then, Ops])))
      refine Does.mono (HD.out _ (by simp) d hd (fwd c lkv s mn (d - 1)) x7 (fun h0 => ?_) ?_ ?_ ?_ ?_ ?_ ?_ ?_) ?_
      · have h := HR.out h0
        refine ⟨ob, ((List.range d).map fun d => .sl (rb d) 0 (mn + 1) 1), rb (d - 1), ((List.range (mn + 1)).map fun i => .bool (fwd c lkv s mn (d - 1) i)), by rw [HX.out, if_neg (by omega)], ?_, ?_, ?_, ?_, ?_, ?_⟩
        · have := (List.getElem?_eq_some_iff.1 h.out).1; omega
        · have := (List.getElem?_eq_some_iff.1 (h.row (d - 1) (by omega))).1; omega
        · exact zcf h.out
        · rw [List.getElem?_map, List.getElem?_range (by omega)]; rfl
        · exact zcf (h.row (d - 1) (by omega))
        · intro i hi
          rw [List.getElem?_map, List.getElem?_range (by omega)]; rfl
      iterate 7 (focus (simp [zau]; done))
      rintro e1 st ⟨rfl, L', k1, k2, k3, k7, k8, k9, rfl⟩
      rw [fwd_eq, zuk]
      have hn := zui (X := .cells [.sl G.length 0 (mn + 1) 1]) (f := fwd c lkv s mn) HP.out rfl HR.out
      have u1 := fun C => (lk_val C 162 L' 1).trans k1
      have u3 := fun C => (lk_val C 162 L' 3).trans k3
      have u7 := fun C => (lk_val C 162 L' 7).trans k7
      have u8 := fun C => (lk_val C 162 L' 8).trans k8
      have u9 := fun C => (lk_val C 162 L' 9).trans k9
      simp only [app_set0, List.set_cons_zero, OutB, Then, reduceIte]
      generalize ((List.range (mn + 1)).map fun i => AV.bool (fwd c lkv s mn d i)) = row at *
      have HN := hideP hn
      clear hn gB gB' nB' eB nB
      have hb1 : 1 ≤ bound := by decide
      have hx7 := HX.out
      by_cases hd0 : d = 0
      · rw [if_pos hd0] at hx7
        subst hx7
        have hw0 : IntKind.i64.wrap 1 = 1 := by decide
        (repeat (first | (with_reducible apply zal; (focus ((conv => lhs; simp [ev1, wantG, spineK, spine, float, xnew, xval, xeff, zaa, zab, zaq, zaf, zag, addFl, cellsOf, pickC, alive, slLen, slFt, binI, maxA, maxK, minA, minK, aeqK, aeqS, AV.cells, zac, boatE, spanE, lookE, fillA, setAt, bitsI, nat_nn, AV.plain, apart, Nat.testBit_eq_decide_div_mod_eq, *]) <;> exact rfl)); simp only [addFl]) | ((with_reducible first | refine zam ?_ | refine zao ?_ | refine zak ?_ | refine zai ?_ | refine zae ?_ | refine zan ?_ | refine zaj ?_ | refine zar ?_ | (apply zah; (focus (simp [zaa, *]; done))) | (with_reducible apply zad; (focus (simp [zaa, *]; done)))); try simp only [Then, Ops, OutB])))
        have hq := HQ.out
        refine ⟨q - 1, by omega, d + 1, G ++ [.cells row, .cells [.sl G.length 0 (mn + 1) 1], .cells [.sl G.length 0 (mn + 1) 1]], G.length + 2, fun e => if e = d then G.length else rb e, .sl (G.length + 2) 0 (d + 1) 1, by omega, HP.out.app _, by rw [if_neg (by omega)], fun _ => ?_, ?_⟩
        · have := HN.out
          rw [if_pos hd0] at this
          subst hd0
          exact this
        · simp only [zat hC]
          subst hd0
          exact st_eq (by simp [zas, zau, *]) rfl rfl rfl
      · rw [if_neg hd0] at hx7
        subst hx7
        have hR := HR.out (by omega)
        have gO := hR.out
        have hol : ((List.range d).map fun e => AV.sl (rb e) 0 (mn + 1) 1).length = d := by simp
        obtain ⟨nO, -⟩ := List.getElem?_eq_some_iff.1 gO
        have hlow := hR.low
        have hpo : ¬ ob < pin := by omega
        clear hR
        generalize hoc : ((List.range d).map fun e => AV.sl (rb e) 0 (mn + 1) 1) = oc at gO hol
        have gO' := fun K => zcf (K := K) gO
        have nO' : ∀ n, ob < G.length + n := fun n => by omega
        have eO' : ∀ K (h : ob < (G ++ K).length), (G ++ K)[ob]'h = .cells oc := fun K h => by
          have := gO' K
          rw [List.getElem?_eq_getElem h] at this; exact Option.some.inj this
        have sO : ∀ K v, (G ++ K).set ob v = G.set ob v ++ K := fun K v => List.set_append_left _ _ nO
        have hbd : d + 1 ≤ bound := by unfold bound; omega
        have HO := hideP (And.intro hoc hlow)
        clear hoc hlow gO nO
        (repeat (first | (with_reducible apply zal; (focus ((conv => lhs; simp [ev1, wantG, spineK, spine, float, xnew, xval, xeff, zaa, zab, zaq, zaf, zag, addFl, cellsOf, pickC, alive, slLen, slFt, binI, maxA, maxK, minA, minK, aeqK, aeqS, AV.cells, zac, boatE, spanE, lookE, fillA, setAt, bitsI, nat_nn, AV.plain, apart, Nat.testBit_eq_decide_div_mod_eq, *]) <;> exact rfl)); simp only [addFl]) | ((with_reducible first | refine zam ?_ | refine zao ?_ | refine zak ?_ | refine zai ?_ | refine zae ?_ | refine zan ?_ | refine zaj ?_ | refine zar ?_ | (apply zah; (focus (simp [zaa, *]; done))) | (with_reducible apply zad; (focus (simp [zaa, *]; done)))); try simp only [Then, Ops, OutB])))
        have hq := HQ.out
        refine ⟨q - 1, by omega, d + 1, G.set ob .dead ++ [.cells row, .cells [.sl G.length 0 (mn + 1) 1], .cells (oc ++ [.sl G.length 0 (mn + 1) 1])], G.length + 2, fun e => if e = d then G.length else rb e, .sl (G.length + 2) 0 (d + 1) 1, by omega, (HP.out.set (by have := HO.out.2; omega) _).app _, by rw [if_neg (by omega)], fun _ => ?_, ?_⟩
        · have := HN.out
          rw [if_neg hd0, HO.out.1] at this
          exact this
        · simp only [zat hC]
          exact st_eq (by simp [zas, zau, *]) rfl (by simp) rfl
    · obtain rfl : d = r.length + 1 := by omega
      have hx : ¬ ((r.length : Int) + 1 ≤ r.length) := by omega
      rw [if_neg (by omega)] at hx7
      subst hx7
      have hR' := hR (by omega)
      have HR := hideP hR'
      clear hR hR' hd2 V hcd hG hI hF hq hd
      (repeat (first | (with_reducible apply zal; (focus ((conv => lhs; simp [ev1, wantG, spineK, spine, float, xnew, xval, xeff, zaa, zab, zaq, zaf, zag, addFl, cellsOf, pickC, alive, slLen, slFt, binI, maxA, maxK, minA, minK, aeqK, aeqS, AV.cells, zac, boatE, spanE, lookE, fillA, setAt, bitsI, nat_nn, AV.plain, apart, Nat.testBit_eq_decide_div_mod_eq, *]) <;> exact rfl)); simp only [addFl]) | ((with_reducible first | refine zam ?_ | refine zao ?_ | refine zak ?_ | refine zai ?_ | refine zae ?_ | refine zan ?_ | refine zaj ?_ | refine zar ?_ | (apply zah; (focus (simp [zaa, *]; done))) | (with_reducible apply zad; (focus (simp [zaa, *]; done)))); try simp only [Then, Ops])))
      refine ⟨by first | trivial | rfl, ?_⟩
      apply Exists.intro
      refine ⟨G, ob, rb, ?_, ?_, ?_, hPG, HR.out, rfl⟩ <;> simp [zau]
end R
end Ev
end Go.Proofs.YtlkhjnpflohfeaaDoor
