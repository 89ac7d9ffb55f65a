/- Plain law of CutMore. -/
import Derived.Test.YtlkhjnpflohfeaaDoorCoreD
import Derived.Test.YtlkhjnpflohfeaaDoorSkMA
import Derived.Test.YtlkhjnpflohfeaaDoorCoreC
/- Cuts with other lists. -/
namespace Go.Proofs.YtlkhjnpflohfeaaDoor
open Go
namespace Ev
def looksV (H : List AB) (v : AV) (ls : List Look) : Prop := (slCells 3 H v).bind looksC = some ls
def spansV (H : List AB) (v : AV) (r : List (Int × Int)) : Prop := (slCells 2 H v).bind spansC = some r
theorem cutOf_of {H : List AB} {rv lv : AV} {a b k l m : Int} {r : List (Int × Int)} {bs : List Boat} {ls : List Look} (hr : spansV H rv r) (hl : looksV H lv ls) :
    cutOf H (.agg [.int .i64 a, .int .i64 b, .int .i64 k, .int .i64 l, rv, .int .i64 m, .vs 4 (bs.map boatE), lv]) = some ⟨(a, b), (k, l), r, m, bs, ls⟩ := by
  unfold spansV at hr
  unfold looksV at hl
  have hb : (slCells 4 H (.vs 4 (bs.map boatE))).bind boatsC = some bs := by simp [slCells]
  simp only [cutOf, hr, hl, hb]
theorem spansV_vs (H : List AB) (r : List (Int × Int)) : spansV H (.vs 2 (r.map spanE)) r := by simp [spansV, slCells]
theorem looksV_vs (H : List AB) (r : List Look) : looksV H (.vs 3 (r.map lookE)) r := by simp [looksV, slCells]
theorem looksV_nil (H : List AB) : looksV H .nils [] := by simp [looksV, slCells, looksC]
theorem spansV_sl {H : List AB} {b n : Nat} {r : List (Int × Int)} (h : H[b]? = some (.cells (spanCs r))) (hn : n = r.length) : spansV H (.sl b 0 n 2) r := by
  subst hn
  simp only [spansV, slCells, h, if_true, Nat.zero_add, spanCs_len, Nat.le_refl, List.drop_zero]
  rw [List.take_of_length_le (by simp)]
  simp
theorem looksV_sl {H : List AB} {b n : Nat} {r : List Look} (h : H[b]? = some (.cells (lookCs r))) (hn : n = r.length) : looksV H (.sl b 0 n 3) r := by
  subst hn
  simp only [looksV, slCells, h, if_true, Nat.zero_add, lookCs_len, Nat.le_refl, List.drop_zero]
  rw [List.take_of_length_le (by simp)]
  simp
@[simp] theorem slCells_spans (H : List AB) (r : List (Int × Int)) : slCells 2 H (.vs 2 (r.map spanE)) = some (spanCs r) := by simp [slCells]
@[simp] theorem slCells_looks (H : List AB) (r : List Look) : slCells 3 H (.vs 3 (r.map lookE)) = some (lookCs r) := by simp [slCells]
@[simp] theorem slCells_boats (H : List AB) (r : List Boat) : slCells 4 H (.vs 4 (r.map boatE)) = some (boatCs r) := by simp [slCells]
theorem slCells_sl (k : Nat) (H : List AB) (b off n k' : Nat) : slCells k H (.sl b off n k') = if k = k' then (match H[b]? with | some (.cells cs) => if off + n * k ≤ cs.length then some ((cs.drop off).take (n * k)) else none | _ => none) else none := rfl
@[simp] theorem spanCs_plain : ∀ r, (spanCs r).all AV.plain = true
  | [] => rfl
  | s :: l => by simp only [spanCs, List.all_cons, spanCs_plain l]; rfl
@[simp] theorem boatCs_plain : ∀ r, (boatCs r).all AV.plain = true
  | [] => rfl
  | s :: l => by simp only [boatCs, List.all_cons, boatCs_plain l]; rfl
@[simp] theorem lookCs_plain : ∀ r, (lookCs r).all AV.plain = true
  | [] => rfl
  | s :: l => by simp only [lookCs, List.all_cons, lookCs_plain l]; rfl
/-! Cells of spans. -/
theorem spanCs_0 : ∀ (r : List (Int × Int)) (i : Nat) (h : i < r.length), (spanCs r)[i * 2]? = some (.int .i64 r[i].1) ∧ (spanCs r)[i * 2 + 1]? = some (.int .i64 r[i].2)
  | [], i, h => by simp at h
  | s :: l, 0, h => by simp [spanCs]
  | s :: l, i + 1, h => by
    have ih := spanCs_0 l i (by simpa using h)
    rw [show (i + 1) * 2 = i * 2 + 1 + 1 by omega]
    simpa [spanCs] using ih
theorem spanCs_set0 : ∀ (r : List (Int × Int)) (i : Nat) (v : Int) (h : i < r.length), (spanCs r).take (i * 2) ++ .int .i64 v :: (spanCs r).drop (i * 2 + 1) = spanCs (r.set i (v, r[i].2))
  | [], i, v, h => by simp at h
  | s :: l, 0, v, h => by simp [spanCs]
  | s :: l, i + 1, v, h => by
    have ih := spanCs_set0 l i v (by simpa using h)
    rw [show (i + 1) * 2 = i * 2 + 1 + 1 by omega]
    simpa [spanCs] using ih
theorem spanCs_set1 : ∀ (r : List (Int × Int)) (i : Nat) (v : Int) (h : i < r.length), (spanCs r).take (i * 2 + 1) ++ .int .i64 v :: (spanCs r).drop (i * 2 + 2) = spanCs (r.set i (r[i].1, v))
  | [], i, v, h => by simp at h
  | s :: l, 0, v, h => by simp [spanCs]
  | s :: l, i + 1, v, h => by
    have ih := spanCs_set1 l i v (by simpa using h)
    rw [show (i + 1) * 2 = i * 2 + 1 + 1 by omega]
    simpa [spanCs] using ih
/-! Blocks behind others. -/
@[simp] theorem app_get0 {α : Type} (j l : List α) : (j ++ l)[j.length]? = l[0]? := by rw [List.getElem?_append_right (Nat.le_refl _), Nat.sub_self]
@[simp] theorem app_get {α : Type} (j l : List α) (k : Nat) : (j ++ l)[j.length + k]? = l[k]? := by simp [List.getElem?_append_right]
@[simp] theorem app_set0 {α : Type} (j l : List α) (v : α) : (j ++ l).set j.length v = j ++ l.set 0 v := by simp
@[simp] theorem app_set {α : Type} (j l : List α) (k : Nat) (v : α) : (j ++ l).set (j.length + k) v = j ++ l.set k v := by simp
theorem st_eq {st : St} {tm : List AV} {df : List ADef} {hp : List AB} {tc : List Nat} (h1 : st.tm = tm) (h2 : st.df = df) (h3 : st.hp = hp) (h4 : st.tc = tc) : st = ⟨tm, df, hp, tc⟩ := by
  subst h1 h2 h3 h4; rfl
theorem andnot_zero {a m : Nat} (_ha : a < 1048576) (_hm : m < 1048576) (h : ∀ j, a.testBit j = true → m.testBit j = true) :
    IntKind.i64.wrap ((BitVec.ofInt IntKind.i64.bits (a : Int) &&& ~~~ BitVec.ofInt IntKind.i64.bits (m : Int)).toNat) = 0 := by
  have hb : IntKind.i64.bits = 64 := rfl
  rw [hb]
  have e : (BitVec.ofInt 64 (a : Int) &&& ~~~ BitVec.ofInt 64 (m : Int)) = 0#64 := by
    apply BitVec.eq_of_getLsbD_eq
    intro i hi
    have e1 : BitVec.ofInt 64 (a : Int) = BitVec.ofNat 64 a := by simp
    have e2 : BitVec.ofInt 64 (m : Int) = BitVec.ofNat 64 m := by simp
    rw [e1, e2]
    simp only [BitVec.getLsbD_and, BitVec.getLsbD_not, BitVec.getLsbD_ofNat, hi, decide_true, Bool.true_and]
    cases h1 : a.testBit i with
    | false => simp
    | true => rw [h i h1]; simp
  rw [e]
  rfl
end Ev
end Go.Proofs.YtlkhjnpflohfeaaDoor

/- What CutFloats comes to. -/
namespace Go.Proofs.YtlkhjnpflohfeaaDoor
open Go
namespace Ev
def wantF (w : Int × Int) (b : Boat) (n : Nat) : Int := if b.draws.2 + b.per * n ≤ w.1 then 2 else if w.2 < b.draws.1 + b.per * n then 0 else 1
def lastF (w : Int × Int) (b : Boat) : Nat → Int
  | 0 => 2
  | n + 1 => wantF w b n
structure FloatsN (A : Api) (c : CutD) (b : Boat) (bi dn n : Nat) : Prop where
  fl : A.floats c bi n dn = (wantF (A.depth c dn).1 b n, 0)
  less : wantF (A.depth c dn).1 b n ≤ lastF (A.depth c dn).1 b n
  sure : wantF (A.depth c dn).1 b n = 2 ↔ (n : Int) ≤ (A.loads c bi dn).1.1
  may : wantF (A.depth c dn).1 b n ≠ 0 ↔ (n : Int) ≤ (A.loads c bi dn).1.2
  days : ∃ D S : Nat, A.days c bi n = (((D : Int), (S : Int)), 0) ∧ D < 1048576 ∧ S < 2 ^ (c.rain.length + 1) ∧ (D.testBit dn = true ↔ wantF (A.depth c dn).1 b n = 2) ∧ (S.testBit dn = true ↔ wantF (A.depth c dn).1 b n ≠ 0)
structure Floats (A : Api) (c : CutD) (b : Boat) (bi dn : Nat) : Prop where
  rain : c.rain.length ≤ 8
  day : dn ≤ c.rain.length
  err : (A.loads c bi dn).2 = (A.depth c dn).2
  bad : (A.depth c dn).2 = 0 ∨ (A.depth c dn).2 = 10 ∧ (A.loads c bi dn).1 = (0, 0)
  draw : 0 ≤ b.draws.1 ∧ b.draws.1 ≤ 100 ∧ 0 ≤ b.draws.2 ∧ b.draws.2 ≤ 100 ∧ 0 ≤ b.per ∧ b.per ≤ 10
  room : ∃ rm : Nat, b.room = rm ∧ rm ≤ 10 ∧ ((A.depth c dn).2 = 0 → -1 ≤ (A.loads c bi dn).1.1 ∧ (A.loads c bi dn).1.1 ≤ (A.loads c bi dn).1.2 ∧ (A.loads c bi dn).1.2 ≤ rm ∧ ∀ n : Nat, n ≤ rm → FloatsN A c b bi dn n)
end Ev
end Go.Proofs.YtlkhjnpflohfeaaDoor

/- The plain law of CutFloats. -/
namespace Go.Proofs.YtlkhjnpflohfeaaDoor
open Go
namespace Cut
theorem lead_iff (p : Nat → Bool) (h : ∀ i j, i ≤ j → p j = true → p i = true) : ∀ m n, n < m → (n < lead p m ↔ p n = true)
  | 0, n, hn => by omega
  | m + 1, n, hn => by
    have hle := lead_le p m
    unfold lead
    by_cases hc : lead p m = m ∧ p m = true
    · rw [if_pos hc]
      exact ⟨fun _ => h n m (by omega) hc.2, fun _ => by omega⟩
    · rw [if_neg hc]
      by_cases hnm : n < m
      · exact lead_iff p h m n hnm
      · have : n = m := by omega
        subst this
        refine ⟨fun hx => by omega, fun hp => ?_⟩
        have hall : lead p n = n := by
          have hx : ∀ k, k ≤ n → lead p k = k := by
            intro k
            induction k with
            | zero => intro _; rfl
            | succ k ih =>
              intro hk
              unfold lead
              rw [if_pos ⟨ih (by omega), h k n (by omega) hp⟩]
          exact hx n (Nat.le_refl _)
        exact absurd ⟨hall, hp⟩ hc
theorem lead_mono (p q : Nat → Bool) (h : ∀ i, p i = true → q i = true) (hq : ∀ i j, i ≤ j → q j = true → q i = true) (hp : ∀ i j, i ≤ j → p j = true → p i = true) (m : Nat) : lead p m ≤ lead q m := by
  rcases Nat.eq_zero_or_pos (lead p m) with h0 | h0
  · omega
  · have hle := lead_le p m
    have h1 := (lead_iff p hp m (lead p m - 1) (by omega)).1 (by omega)
    have h2 := (lead_iff q hq m (lead p m - 1) (by omega)).2 (h _ h1)
    omega
theorem floats_less (b : Boat) (w : Int × Int) (hb : 0 ≤ b.per) {i j : Nat} (h : i ≤ j) : floats b j w ≤ floats b i w := by
  have hm : b.per * (i : Int) ≤ b.per * (j : Int) := Int.mul_le_mul_of_nonneg_left (by omega) hb
  unfold floats
  split
  · rw [if_pos (by omega)]; decide
  · split
    · split
      · decide
      · rw [if_pos (by omega)]; decide
    · split
      · decide
      · split <;> decide
theorem suits_mono (x : CutD) (k d : Nat) (s : Int) (hb : 0 ≤ (boatAt x.boats k).per) (i j : Nat) (h : i ≤ j) (hp : suits x k d s j = true) : suits x k d s i = true := by
  unfold suits at *
  simp only [decide_eq_true_eq] at *
  have := floats_less (boatAt x.boats k) (water x d) hb h
  omega
end Cut
end Go.Proofs.YtlkhjnpflohfeaaDoor

/- What CutRain comes to. -/
namespace Go.Proofs.YtlkhjnpflohfeaaDoor
open Go
namespace Ev
def lowN (x : CutD) : Nat → Int
  | 0 => x.depth.1
  | d + 1 => max 0 (min x.most (lowN x d + (Cut.spanAt x.rain d).1 - x.leak.2))
def highN (x : CutD) : Nat → Int
  | 0 => x.depth.2
  | d + 1 => max 0 (min x.most (highN x d + (Cut.spanAt x.rain d).2 - x.leak.1))
def bare (c : CutD) : CutD := { c with looks := [] }
def wetter (c : CutD) (wi : Nat) (mr : Int) : CutD := { c with looks := [], rain := c.rain.set wi (min 30 ((Cut.spanAt c.rain wi).1 + mr), min 30 ((Cut.spanAt c.rain wi).2 + mr)) }
structure Rain (A : Api) (c : CutD) (wi : Nat) (mr w : Int) : Prop where
  len : c.rain.length ≤ 8
  rain : ∀ i, i < c.rain.length → 0 ≤ (Cut.spanAt c.rain i).1 ∧ (Cut.spanAt c.rain i).1 ≤ 30 ∧ 0 ≤ (Cut.spanAt c.rain i).2 ∧ (Cut.spanAt c.rain i).2 ≤ 30
  leak : 0 ≤ c.leak.1 ∧ c.leak.1 ≤ 10 ∧ 0 ≤ c.leak.2 ∧ c.leak.2 ≤ 10
  most : 0 ≤ c.most ∧ c.most ≤ 100
  depth : 0 ≤ c.depth.1 ∧ c.depth.1 ≤ 100 ∧ 0 ≤ c.depth.2 ∧ c.depth.2 ≤ 100
  boats : c.boats.length ≤ 4
  day : ∀ d : Nat, d ≤ c.rain.length → A.depth (bare c) d = ((lowN c d, highN c d), 0) ∧ (A.depth (wetter c wi mr) d).2 = 0 ∧ lowN c d ≤ (A.depth (wetter c wi mr) d).1.1 ∧ highN c d ≤ (A.depth (wetter c wi mr) d).1.2
  boat : ∀ (i : Nat) (h : i < c.boats.length), 0 ≤ c.boats[i].room ∧ c.boats[i].room ≤ 10 ∧ ∃ a s p q : Nat, A.days (bare c) i (w % (c.boats[i].room + 1)) = (((a : Int), (s : Int)), 0) ∧ A.days (wetter c wi mr) i (w % (c.boats[i].room + 1)) = (((p : Int), (q : Int)), 0) ∧ a < 1048576 ∧ s < 1048576 ∧ p < 1048576 ∧ q < 1048576 ∧ (∀ j, a.testBit j = true → p.testBit j = true) ∧ ∀ j, s.testBit j = true → q.testBit j = true
end Ev
end Go.Proofs.YtlkhjnpflohfeaaDoor

/- Truths of a cut: what the spans of package cut mean. No program in sight. -/
namespace Go.Proofs.YtlkhjnpflohfeaaDoor
namespace Cut
def inS (w : Int × Int) (v : Int) : Prop := w.1 ≤ v ∧ v ≤ w.2
theorem not_dry (v : Int) : ¬ inS dry v := by unfold inS dry; simp only; omega
theorem common_in (a b : Int × Int) (v : Int) : inS (common a b) v ↔ inS a v ∧ inS b v := by
  unfold common
  split
  · unfold inS; simp only; omega
  · constructor
    · intro h; exact absurd h (not_dry v)
    · rintro ⟨h1, h2⟩; unfold inS at *; omega
theorem some_iff (w : Int × Int) : some w = true ↔ ∃ v, inS w v := by
  unfold some inS
  simp only [decide_eq_true_eq]
  exact ⟨fun h => ⟨w.1, by omega, h⟩, fun ⟨v, h1, h2⟩ => by omega⟩
def Looks (l : List Look) (set : Nat) (d : Nat) (v : Int) : Prop := ∀ i, i < l.length → set.testBit i = true → (lookAt l i).day = d → inS (lookAt l i).depth v
theorem lookedTo_in (l : List Look) (d : Int) (set : Nat) (w : Int × Int) (v : Int) : ∀ k, inS (lookedTo l d set w k) v ↔ inS w v ∧ ∀ i, i < k → set.testBit i = true → (lookAt l i).day = d → inS (lookAt l i).depth v
  | 0 => by simp [lookedTo]
  | k + 1 => by
    have ih := lookedTo_in l d set w v k
    unfold lookedTo
    by_cases h : (set.testBit k && decide ((lookAt l k).day = d)) = true
    · rw [if_pos h, common_in, ih]
      rw [Bool.and_eq_true, decide_eq_true_eq] at h
      constructor
      · rintro ⟨⟨h1, h2⟩, h3⟩
        refine ⟨h1, fun i hi => ?_⟩
        by_cases hik : i = k
        · subst hik; exact fun _ _ => h3
        · exact h2 i (by omega)
      · rintro ⟨h1, h2⟩
        exact ⟨⟨h1, fun i hi => h2 i (by omega)⟩, h2 k (by omega) h.1 h.2⟩
    · rw [if_neg h, ih]
      constructor
      · rintro ⟨h1, h2⟩
        refine ⟨h1, fun i hi a b => ?_⟩
        by_cases hik : i = k
        · subst hik; exact absurd (by rw [a, b]; simp) h
        · exact h2 i (by omega) a b
      · rintro ⟨h1, h2⟩
        exact ⟨h1, fun i hi => h2 i (by omega)⟩
theorem looked_in (l : List Look) (d : Nat) (set : Nat) (w : Int × Int) (v : Int) : inS (looked l d set w) v ↔ inS w v ∧ Looks l set d v := lookedTo_in l d set w v _
def Step (x : CutD) (leak : Int) (d : Nat) (u v : Int) : Prop := ∃ r, inS (spanAt x.rain d) r ∧ v = held x.most (u + r - leak)
theorem after_in {x : CutD} (h : Valid x) (leak : Int) (d : Nat) (hd : d < x.rain.length) (w : Int × Int) (v : Int) : inS (after (stepBy x leak d) x.most w) v ↔ ∃ u, inS w u ∧ Step x leak d u v := by
  have hr := h.rain d hd
  have hm := h.m1
  unfold after Step
  by_cases hw : w.1 ≤ w.2
  · rw [if_pos hw]
    unfold stepBy held inS
    simp only
    generalize spanAt x.rain d = s at *
    constructor
    · rintro ⟨h1, h2⟩
      have key : ∃ z, w.1 + s.1 ≤ z ∧ z ≤ w.2 + s.2 ∧ v = max 0 (min x.most (z - leak)) := by
        by_cases c1 : w.1 + s.1 - leak ≤ v
        · by_cases c2 : v ≤ w.2 + s.2 - leak
          · exact ⟨v + leak, by omega, by omega, by omega⟩
          · exact ⟨w.2 + s.2, by omega, by omega, by omega⟩
        · exact ⟨w.1 + s.1, by omega, by omega, by omega⟩
      obtain ⟨z, z1, z2, z3⟩ := key
      by_cases c : z - s.1 ≤ w.2
      · exact ⟨z - s.1, by omega, s.1, by omega, by rw [z3]; congr 2; omega⟩
      · exact ⟨w.2, by omega, z - w.2, by omega, by rw [z3]; congr 2; omega⟩
    · rintro ⟨u, h1, r, h2, rfl⟩
      omega
  · rw [if_neg hw]
    constructor
    · intro hx; exact absurd hx (not_dry v)
    · rintro ⟨u, h1, _⟩; unfold inS at h1; omega
theorem before_in {x : CutD} (h : Valid x) (leak : Int) (hl0 : 0 ≤ leak) (hl1 : leak ≤ 10) (d : Nat) (hd : d < x.rain.length) (w : Int × Int) (hw : ∀ v, inS w v → 0 ≤ v ∧ v ≤ x.most) (u : Int) : inS (before (stepBy x leak d) x.most w) u ↔ (0 ≤ u ∧ u ≤ x.most) ∧ ∃ v, Step x leak d u v ∧ inS w v := by
  have hr := h.rain d hd
  have hm := h.m1
  have hm1 := h.m100
  unfold before Step
  by_cases hn : w.1 ≤ w.2
  · rw [if_pos hn, common_in]
    have w1 := hw w.1 ⟨by omega, hn⟩
    have w2 := hw w.2 ⟨hn, by omega⟩
    clear hw
    unfold stepBy held inS
    simp only
    generalize spanAt x.rain d = s at *
    constructor
    · rintro ⟨h1, h2, h3⟩
      refine ⟨h1, ?_⟩
      have a1 : w.1 ≤ max 0 (min x.most (u + s.2 - leak)) := by split at h2 <;> omega
      have a2 : max 0 (min x.most (u + s.1 - leak)) ≤ w.2 := by split at h3 <;> omega
      by_cases c1 : w.1 ≤ max 0 (min x.most (u + s.1 - leak))
      · exact ⟨_, ⟨s.1, by omega, rfl⟩, c1, a2⟩
      · exact ⟨w.1, ⟨w.1 - u + leak, by omega, by omega⟩, by omega, hn⟩
    · rintro ⟨h1, v, ⟨r, h2, rfl⟩, h3⟩
      refine ⟨h1, ?_, ?_⟩
      · split <;> omega
      · split <;> omega
  · rw [if_neg hn]
    constructor
    · intro hx; exact absurd hx (not_dry u)
    · rintro ⟨_, v, _, h1⟩; unfold inS at h1; omega
def FR (x : CutD) (leak : Int) (set : Nat) : Nat → Int → Prop
  | 0, v => inS x.depth v ∧ Looks x.looks set 0 v
  | d + 1, v => (∃ u, FR x leak set d u ∧ Step x leak d u v) ∧ Looks x.looks set (d + 1) v
def BR (x : CutD) (leak : Int) (set n : Nat) : Nat → Int → Prop
  | 0, _ => True
  | k + 1, v => ∃ u, Step x leak (n - (k + 1)) v u ∧ Looks x.looks set (n - k) u ∧ BR x leak set n k u
theorem forth_in {x : CutD} (h : Valid x) (leak : Int) (set : Nat) : ∀ d, d ≤ x.rain.length → ∀ v, inS (forth x leak set d) v ↔ FR x leak set d v
  | 0, _, v => by
    unfold forth FR
    exact looked_in x.looks 0 set x.depth v
  | d + 1, hd, v => by
    unfold forth FR
    rw [looked_in, after_in h leak d (by omega)]
    simp only [forth_in h leak set d (by omega)]
theorem FR_in {x : CutD} (h : Valid x) {leak : Int} {set : Nat} : ∀ {d : Nat} {v : Int}, FR x leak set d v → 0 ≤ v ∧ v ≤ x.most
  | 0, v, hv => by
    have := h.d0; have := h.d2
    have := hv.1; unfold inS at this; omega
  | d + 1, v, hv => by
    obtain ⟨⟨u, _, r, _, rfl⟩, _⟩ := hv
    have := h.m1
    unfold held; omega
theorem back_in {x : CutD} (h : Valid x) (leak : Int) (hl0 : 0 ≤ leak) (hl1 : leak ≤ 10) (set n : Nat) (hn : n = x.rain.length) : ∀ k, k ≤ n → ∀ v, inS (back x leak set n k) v ↔ FR x leak set (n - k) v ∧ BR x leak set n k v
  | 0, _, v => by
    unfold back BR
    rw [forth_in h leak set n (by omega)]
    simp
  | k + 1, hk, v => by
    have ih := back_in h leak hl0 hl1 set n hn k (by omega)
    unfold back
    rw [common_in, forth_in h leak set _ (by omega), before_in h leak hl0 hl1 _ (by omega) _ (fun v hv => FR_in h ((ih v).1 hv).1)]
    constructor
    · rintro ⟨h1, _, u, h2, h3⟩
      have h4 := (ih u).1 h3
      refine ⟨h1, ?_⟩
      unfold BR
      refine ⟨u, h2, ?_, h4.2⟩
      have h5 := h4.1
      have e : n - k = (n - (k + 1)) + 1 := by omega
      rw [e] at h5 ⊢
      exact h5.2
    · rintro ⟨h1, h2⟩
      unfold BR at h2
      obtain ⟨u, h3, h4, h5⟩ := h2
      refine ⟨h1, FR_in h h1, u, h3, (ih u).2 ⟨?_, h5⟩⟩
      have e : n - k = (n - (k + 1)) + 1 := by omega
      rw [e] at h4 ⊢
      exact ⟨⟨v, h1, h3⟩, h4⟩
structure Truth (x : CutD) (leak : Int) (set : Nat) (t : Nat → Int) : Prop where
  start : inS x.depth (t 0)
  step : ∀ d, d < x.rain.length → Step x leak d (t d) (t (d + 1))
  looks : ∀ d, d ≤ x.rain.length → Looks x.looks set d (t d)
theorem Truth.fr {x : CutD} {leak : Int} {set : Nat} {t : Nat → Int} (h : Truth x leak set t) : ∀ d, d ≤ x.rain.length → FR x leak set d (t d)
  | 0, _ => ⟨h.start, h.looks 0 (by omega)⟩
  | d + 1, hd => ⟨⟨t d, h.fr d (by omega), h.step d (by omega)⟩, h.looks (d + 1) hd⟩
theorem Truth.br {x : CutD} {leak : Int} {set : Nat} {t : Nat → Int} (h : Truth x leak set t) : ∀ k, k ≤ x.rain.length → BR x leak set x.rain.length k (t (x.rain.length - k))
  | 0, _ => trivial
  | k + 1, hk => by
    unfold BR
    refine ⟨t (x.rain.length - k), ?_, h.looks _ (by omega), h.br k (by omega)⟩
    have e : x.rain.length - k = (x.rain.length - (k + 1)) + 1 := by omega
    rw [e]
    exact h.step _ (by omega)
theorem fr_path {x : CutD} {leak : Int} {set : Nat} : ∀ (d : Nat) (v : Int), FR x leak set d v → ∃ t : Nat → Int, t d = v ∧ inS x.depth (t 0) ∧ (∀ i, i < d → Step x leak i (t i) (t (i + 1))) ∧ ∀ i, i ≤ d → Looks x.looks set i (t i)
  | 0, v, h => ⟨fun _ => v, rfl, h.1, fun i hi => by omega, fun i hi => by
      have : i = 0 := by omega
      subst this; exact h.2⟩
  | d + 1, v, h => by
    obtain ⟨⟨u, h1, h2⟩, h3⟩ := h
    obtain ⟨t, t1, t2, t3, t4⟩ := fr_path d u h1
    refine ⟨fun i => if i ≤ d then t i else v, if_neg (by omega), by simpa using t2, fun i hi => ?_, fun i hi => ?_⟩
    · by_cases c : i = d
      · subst c
        simp only [Nat.le_refl, if_true]
        rw [if_neg (by omega), t1]; exact h2
      · simp only
        rw [if_pos (by omega), if_pos (by omega)]; exact t3 i (by omega)
    · by_cases c : i ≤ d
      · simp only [c, if_true]; exact t4 i c
      · have : i = d + 1 := by omega
        subst this
        simp only [c, if_false]; exact h3
theorem br_path {x : CutD} {leak : Int} {set n : Nat} : ∀ (k : Nat) (v : Int), k ≤ n → BR x leak set n k v → ∃ t : Nat → Int, t (n - k) = v ∧ (∀ i, n - k ≤ i → i < n → Step x leak i (t i) (t (i + 1))) ∧ ∀ i, n - k < i → i ≤ n → Looks x.looks set i (t i)
  | 0, v, _, _ => ⟨fun _ => v, rfl, fun i h1 h2 => by omega, fun i h1 h2 => by omega⟩
  | k + 1, v, hk, h => by
    unfold BR at h
    obtain ⟨u, h1, h2, h3⟩ := h
    obtain ⟨t, t1, t2, t3⟩ := br_path k u (by omega) h3
    refine ⟨fun i => if i = n - (k + 1) then v else t i, by simp, fun i a b => ?_, fun i a b => ?_⟩
    · simp only
      rw [if_neg (show ¬ i + 1 = n - (k + 1) by omega)]
      by_cases c : i = n - (k + 1)
      · rw [if_pos c]
        have e : i + 1 = n - k := by omega
        rw [e, t1, c]; exact h1
      · rw [if_neg c]; exact t2 i (by omega) b
    · simp only
      rw [if_neg (by omega)]
      by_cases c : i = n - k
      · subst c; rw [t1]; exact h2
      · exact t3 i (by omega) b
theorem truth_of {x : CutD} {leak : Int} {set d : Nat} {v : Int} (hd : d ≤ x.rain.length) (h1 : FR x leak set d v) (h2 : BR x leak set x.rain.length (x.rain.length - d) v) : ∃ t, Truth x leak set t ∧ t d = v := by
  obtain ⟨t, t1, t2, t3, t4⟩ := fr_path d v h1
  obtain ⟨s, s1, s2, s3⟩ := br_path _ v (by omega) h2
  have e : x.rain.length - (x.rain.length - d) = d := by omega
  rw [e] at s1 s2 s3
  refine ⟨fun i => if i ≤ d then t i else s i, ⟨?_, ?_, ?_⟩, by simp [t1]⟩
  · simpa using t2
  · intro i hi
    show Step x leak i (if i ≤ d then t i else s i) (if i + 1 ≤ d then t (i + 1) else s (i + 1))
    by_cases c : i < d
    · rw [if_pos (by omega), if_pos (by omega)]; exact t3 i c
    · rw [if_neg (show ¬ i + 1 ≤ d by omega)]
      by_cases c' : i = d
      · subst c'
        rw [if_pos (Nat.le_refl _), t1, ← s1]; exact s2 i (by omega) hi
      · rw [if_neg (by omega)]; exact s2 i (by omega) hi
  · intro i hi
    by_cases c : i ≤ d
    · simp only [c, if_true]; exact t4 i c
    · simp only [c, if_false]; exact s3 i (by omega) hi
theorem season_in {x : CutD} (h : Valid x) (leak : Int) (hl0 : 0 ≤ leak) (hl1 : leak ≤ 10) (set d : Nat) (hd : d ≤ x.rain.length) (v : Int) : inS (seasonAt x leak set d) v ↔ ∃ t, Truth x leak set t ∧ t d = v := by
  unfold seasonAt
  rw [if_pos hd, back_in h leak hl0 hl1 set _ rfl _ (by omega)]
  have e : x.rain.length - (x.rain.length - d) = d := by omega
  rw [e]
  constructor
  · rintro ⟨h1, h2⟩; exact truth_of hd h1 h2
  · rintro ⟨t, ht, rfl⟩
    refine ⟨ht.fr d hd, ?_⟩
    have := ht.br (x.rain.length - d) (by omega)
    rw [e] at this; exact this
theorem can_iff {x : CutD} (h : Valid x) (set : Nat) : can x set = true ↔ ∃ leak, inS x.leak leak ∧ ∃ t, Truth x leak set t := by
  unfold can
  rw [List.any_eq_true]
  have hl : ∀ leak, leak ∈ leaks x ↔ inS x.leak leak := by
    intro leak
    unfold leaks inS
    rw [List.mem_map]
    constructor
    · rintro ⟨i, hi, rfl⟩
      rw [List.mem_range] at hi
      omega
    · rintro ⟨h1, h2⟩
      exact ⟨(leak - x.leak.1).toNat, by rw [List.mem_range]; omega, by omega⟩
  have := h.l0; have := h.l2
  constructor
  · rintro ⟨leak, h1, h2⟩
    have h3 := (hl leak).1 h1
    refine ⟨leak, h3, ?_⟩
    obtain ⟨v, hv⟩ := (some_iff _).1 h2
    unfold inS at h3
    obtain ⟨t, ht, _⟩ := (season_in h leak (by omega) (by omega) set 0 (by omega) v).1 hv
    exact ⟨t, ht⟩
  · rintro ⟨leak, h3, t, ht⟩
    refine ⟨leak, (hl leak).2 h3, (some_iff _).2 ⟨t 0, ?_⟩⟩
    unfold inS at h3
    exact (season_in h leak (by omega) (by omega) set 0 (by omega) _).2 ⟨t, ht, rfl⟩
end Cut
end Go.Proofs.YtlkhjnpflohfeaaDoor

/- What the exported functions' spans mean, by truths. -/
namespace Go.Proofs.YtlkhjnpflohfeaaDoor
namespace Cut
theorem fold_spec : ∀ (l : List (Int × Int)) (x : Int × Int),
    let j := l.foldl (fun s y => (min s.1 y.1, max s.2 y.2)) x
    (j.1 ≤ x.1 ∧ x.2 ≤ j.2 ∧ (∀ s ∈ l, j.1 ≤ s.1 ∧ s.2 ≤ j.2)) ∧ (j.1 = x.1 ∨ ∃ s ∈ l, j.1 = s.1) ∧ (j.2 = x.2 ∨ ∃ s ∈ l, j.2 = s.2)
  | [], x => by simp
  | y :: l, x => by
    have ih := fold_spec l (min x.1 y.1, max x.2 y.2)
    simp only [List.foldl_cons, List.mem_cons] at ih ⊢
    generalize List.foldl _ _ l = j at ih ⊢
    obtain ⟨⟨h1, h2, h3⟩, h4, h5⟩ := ih
    refine ⟨⟨by clear h4 h5; omega, by clear h4 h5; omega, ?_⟩, ?_, ?_⟩
    · clear h4 h5
      rintro s (rfl | hs)
      · omega
      · exact h3 s hs
    · clear h5
      rcases h4 with h4 | ⟨s, hs, h4⟩
      · by_cases c : x.1 ≤ y.1
        · exact .inl (by omega)
        · exact .inr ⟨y, .inl rfl, by omega⟩
      · exact .inr ⟨s, .inr hs, h4⟩
    · clear h4
      rcases h5 with h5 | ⟨s, hs, h5⟩
      · by_cases c : y.2 ≤ x.2
        · exact .inl (by omega)
        · exact .inr ⟨y, .inl rfl, by omega⟩
      · exact .inr ⟨s, .inr hs, h5⟩
theorem joined_spec {l : List (Int × Int)} (hl : 0 < l.length) : (∀ s ∈ l, (joined l).1 ≤ s.1 ∧ s.2 ≤ (joined l).2) ∧ (∃ s ∈ l, (joined l).1 = s.1) ∧ (∃ s ∈ l, (joined l).2 = s.2) := by
  cases l with
  | nil => simp at hl
  | cons x l =>
    have h := fold_spec l x
    simp only at h
    rw [show joined (x :: l) = l.foldl (fun s y => (min s.1 y.1, max s.2 y.2)) x from rfl]
    generalize List.foldl _ _ l = j at h ⊢
    obtain ⟨⟨h1, h2, h3⟩, h4, h5⟩ := h
    refine ⟨?_, ?_, ?_⟩
    · clear h4 h5
      intro s hs
      rcases List.mem_cons.1 hs with rfl | hs
      · omega
      · exact h3 s hs
    · rcases h4 with h4 | ⟨s, hs, h4⟩
      · exact ⟨x, List.mem_cons_self, h4⟩
      · exact ⟨s, List.mem_cons_of_mem _ hs, h4⟩
    · rcases h5 with h5 | ⟨s, hs, h5⟩
      · exact ⟨x, List.mem_cons_self, h5⟩
      · exact ⟨s, List.mem_cons_of_mem _ hs, h5⟩
theorem mem_leaks (x : CutD) (leak : Int) : leak ∈ leaks x ↔ inS x.leak leak := by
  unfold leaks inS
  rw [List.mem_map]
  constructor
  · rintro ⟨i, hi, rfl⟩
    rw [List.mem_range] at hi
    omega
  · rintro ⟨h1, h2⟩
    exact ⟨(leak - x.leak.1).toNat, by rw [List.mem_range]; omega, by omega⟩
theorem water_spec {x : CutD} (h : Valid x) (hc : can x (every x) = true) (d : Nat) (hd : d ≤ x.rain.length) :
    (∀ leak t, inS x.leak leak → Truth x leak (every x) t → inS (water x d) (t d)) ∧
    (∃ leak t, inS x.leak leak ∧ Truth x leak (every x) t ∧ t d = (water x d).1) ∧ ∃ leak t, inS x.leak leak ∧ Truth x leak (every x) t ∧ t d = (water x d).2 := by
  have hpos : 0 < (((leaks x).map fun k => seasonAt x k (every x) d).filter some).length := by
    obtain ⟨leak, h1, t, ht⟩ := (can_iff h _).1 hc
    refine List.length_pos_of_mem (a := seasonAt x leak (every x) d) (List.mem_filter.2 ⟨List.mem_map.2 ⟨leak, (mem_leaks x leak).2 h1, rfl⟩, ?_⟩)
    have := h.l0; have := h.l2; unfold inS at h1
    exact (some_iff _).2 ⟨t d, (season_in h leak (by omega) (by omega) _ d hd _).2 ⟨t, ht, rfl⟩⟩
  obtain ⟨j1, j2, j3⟩ := joined_spec hpos
  have l0 := h.l0
  have l2 := h.l2
  have key : ∀ s, s ∈ (((leaks x).map fun k => seasonAt x k (every x) d).filter some) → ∃ leak, inS x.leak leak ∧ s = seasonAt x leak (every x) d ∧ s.1 ≤ s.2 := by
    intro s hs
    obtain ⟨h1, h2⟩ := List.mem_filter.1 hs
    obtain ⟨leak, h3, rfl⟩ := List.mem_map.1 h1
    exact ⟨leak, (mem_leaks x leak).1 h3, rfl, by simpa [some] using h2⟩
  refine ⟨?_, ?_, ?_⟩
  · intro leak t hl ht
    have hin : inS (seasonAt x leak (every x) d) (t d) := by
      unfold inS at hl
      exact (season_in h leak (by omega) (by omega) _ d hd _).2 ⟨t, ht, rfl⟩
    have := j1 (seasonAt x leak (every x) d) (List.mem_filter.2 ⟨List.mem_map.2 ⟨leak, (mem_leaks x leak).2 hl, rfl⟩, (some_iff _).2 ⟨_, hin⟩⟩)
    unfold water inS at *
    omega
  · obtain ⟨s, hs, e⟩ := j2
    obtain ⟨leak, hl, rfl, hle⟩ := key s hs
    have hl' := hl
    unfold inS at hl'
    obtain ⟨t, ht, et⟩ := (season_in h leak (by omega) (by omega) (every x) d hd (seasonAt x leak (every x) d).1).1 ⟨by omega, hle⟩
    exact ⟨leak, t, hl, ht, et.trans e.symm⟩
  · obtain ⟨s, hs, e⟩ := j3
    obtain ⟨leak, hl, rfl, hle⟩ := key s hs
    have hl' := hl
    unfold inS at hl'
    obtain ⟨t, ht, et⟩ := (season_in h leak (by omega) (by omega) (every x) d hd (seasonAt x leak (every x) d).2).1 ⟨hle, by omega⟩
    exact ⟨leak, t, hl, ht, et.trans e.symm⟩
theorem leak_spec {x : CutD} (h : Valid x) (hc : can x (every x) = true) :
    (∀ leak t, inS x.leak leak → Truth x leak (every x) t → inS (leakSpan x) leak) ∧
    (inS x.leak (leakSpan x).1 ∧ ∃ t, Truth x (leakSpan x).1 (every x) t) ∧ inS x.leak (leakSpan x).2 ∧ ∃ t, Truth x (leakSpan x).2 (every x) t := by
  obtain ⟨j1, j2, j3⟩ := joined_spec (leakSpans_pos x hc)
  have l0 := h.l0
  have l2 := h.l2
  have key : ∀ s, s ∈ leakSpans x ↔ ∃ leak, inS x.leak leak ∧ s = (leak, leak) ∧ ∃ t, Truth x leak (every x) t := by
    intro s
    unfold leakSpans
    rw [List.mem_map]
    constructor
    · rintro ⟨leak, hl, rfl⟩
      obtain ⟨h1, h2⟩ := List.mem_filter.1 hl
      have h3 := (mem_leaks x leak).1 h1
      obtain ⟨v, hv⟩ := (some_iff _).1 h2
      have h4 := h3
      unfold inS at h4
      obtain ⟨t, ht, _⟩ := (season_in h leak (by omega) (by omega) _ 0 (by omega) v).1 hv
      exact ⟨leak, h3, rfl, t, ht⟩
    · rintro ⟨leak, h3, rfl, t, ht⟩
      have h4 := h3
      unfold inS at h4
      exact ⟨leak, List.mem_filter.2 ⟨(mem_leaks x leak).2 h3, (some_iff _).2 ⟨t 0, (season_in h leak (by omega) (by omega) _ 0 (by omega) _).2 ⟨t, ht, rfl⟩⟩⟩, rfl⟩
  refine ⟨?_, ?_, ?_⟩
  · intro leak t hl ht
    have := j1 (leak, leak) ((key _).2 ⟨leak, hl, rfl, t, ht⟩)
    unfold leakSpan inS
    simpa using this
  · obtain ⟨s, hs, e⟩ := j2
    obtain ⟨leak, hl, rfl, ht⟩ := (key _).1 hs
    unfold leakSpan
    rw [e]; exact ⟨hl, ht⟩
  · obtain ⟨s, hs, e⟩ := j3
    obtain ⟨leak, hl, rfl, ht⟩ := (key _).1 hs
    unfold leakSpan
    rw [e]; exact ⟨hl, ht⟩
theorem mem_getD {α : Type} {l : List α} {a d : α} (h : a ∈ l) : ∃ i, i < l.length ∧ l.getD i d = a := by
  obtain ⟨i, hi, rfl⟩ := List.mem_iff_getElem.1 h
  exact ⟨i, hi, by simp [hi]⟩
theorem of_valid {x : CutD} (h : Valid x) : valid x = true := by
  obtain ⟨a1, a2, a3, a4, a5, a6, a7, a8, a9, a10, a11, a12, a13, a14, a15⟩ := h
  simp only [valid, within, isSpan, Bool.and_eq_true, decide_eq_true_eq, List.all_eq_true]
  refine ⟨⟨⟨⟨⟨⟨⟨⟨⟨by omega, by omega⟩, by omega, a4⟩, ⟨a5, a6⟩, a7⟩, ⟨a8, a9⟩, a10⟩, by omega⟩, by omega⟩, ?_⟩, ?_⟩, ?_⟩
  · intro s hs
    obtain ⟨i, hi, e⟩ := mem_getD (d := (0, 0)) hs
    have := a13 i hi
    unfold spanAt at this
    rw [e] at this; omega
  · intro s hs
    obtain ⟨i, hi, e⟩ := mem_getD (d := nobody) hs
    have := a14 i hi
    unfold boatAt at this
    rw [e] at this; omega
  · intro s hs
    obtain ⟨i, hi, e⟩ := mem_getD (d := noLook) hs
    have := a15 i hi
    unfold lookAt at this
    rw [e] at this; omega
end Cut
end Go.Proofs.YtlkhjnpflohfeaaDoor

/- The plain law of CutRain. -/
namespace Go.Proofs.YtlkhjnpflohfeaaDoor
open Go
namespace Cut
open Ev (lowN highN bare wetter)
end Cut
end Go.Proofs.YtlkhjnpflohfeaaDoor

/- What CutEnds comes to. -/
namespace Go.Proofs.YtlkhjnpflohfeaaDoor
open Go
namespace Ev
def leaking (c : CutD) (n : Int) : CutD := { c with leak := (n, n) }
def showing (c : CutD) (n : Int) (day : Nat) (v : Int) : CutD := { c with leak := (n, n), looks := c.looks ++ [⟨day, (v, v)⟩] }
structure Ends (A : Api) (c : CutD) (day : Nat) : Prop where
  len : c.rain.length ≤ 8
  leak : 0 ≤ c.leak.1 ∧ c.leak.2 ≤ 10
  most : 0 ≤ c.most ∧ c.most ≤ 100
  dayErr : (A.depth c (c.rain.length + 1)).2 = 2
  boatErr : (A.floats c c.boats.length 0 0).2 = 2
  daysErr : (A.days c (-1) 0).2 = 2
  sumErr : (A.together c (-1)).2 = 2
  err : (A.depth c 0).2 = 0 ∧ (A.clash c).2 = 4 ∧ (A.leak c).2 = 0 ∨ A.depth c 0 = ((0, 0), 10) ∧ (A.clash c).2 ≠ 4 ∧ A.leak c = ((0, 0), 10)
  round : (A.depth c 0).2 = 0 → c.looks.length < 5 → ∀ n, c.leak.1 ≤ n → n ≤ c.leak.2 →
    ((A.depth (leaking c n) day).2 = 0 ∧ (A.leak c).1.1 ≤ n ∧ n ≤ (A.leak c).1.2 ∧ (-1000 ≤ (A.depth (leaking c n) day).1.1 ∧ (A.depth (leaking c n) day).1.1 ≤ 1000 ∧ -1000 ≤ (A.depth (leaking c n) day).1.2 ∧ (A.depth (leaking c n) day).1.2 ≤ 1000) ∧
      ∀ v, max 0 ((A.depth (leaking c n) day).1.1 - 2) ≤ v → v ≤ min c.most ((A.depth (leaking c n) day).1.2 + 2) → ((A.clash (showing c n day v)).2 = 4 ↔ (A.depth (leaking c n) day).1.1 ≤ v ∧ v ≤ (A.depth (leaking c n) day).1.2)) ∨
    ((A.depth (leaking c n) day).2 = 10 ∧ n ≠ (A.leak c).1.1 ∧ n ≠ (A.leak c).1.2)
end Ev
end Go.Proofs.YtlkhjnpflohfeaaDoor

/- The plain law of CutEnds. -/
namespace Go.Proofs.YtlkhjnpflohfeaaDoor
open Go
namespace Cut
open Ev (leaking showing)
theorem every_bit (x : CutD) (i : Nat) : (every x).testBit i = decide (i < x.looks.length) := by
  unfold every
  exact Nat.testBit_two_pow_sub_one ..
end Cut
end Go.Proofs.YtlkhjnpflohfeaaDoor

/- The plain law of CutTrue: what is returned of a cut holds of each truth. -/
namespace Go.Proofs.YtlkhjnpflohfeaaDoor
open Go
def nearLook (l : Look) (k : Int) : Look :=
  let wide := min 20 (l.depth.2 - l.depth.1)
  ⟨l.day, (max 0 (k - wide / 2), min 100 (k + wide - wide / 2))⟩
def truly (c : CutD) (t : Nat → Int) : CutD := { c with looks := c.looks.map fun l => nearLook l (t l.day.toNat) }
end Go.Proofs.YtlkhjnpflohfeaaDoor

/- What more is known of a cut: plain laws for CutMore. -/
namespace Go.Proofs.YtlkhjnpflohfeaaDoor
open Go
namespace Cut
structure Sub (x y : CutD) : Prop where
  can : can x (every x) = true
  water : ∀ d, d ≤ x.rain.length → (water x d).1 ≤ (water y d).1 ∧ (water y d).2 ≤ (water x d).2 ∧ (water y d).1 ≤ (water y d).2
  leak : (leakSpan x).1 ≤ (leakSpan y).1 ∧ (leakSpan y).2 ≤ (leakSpan x).2
  sum : ∀ d, d ≤ x.rain.length → togetherOn x d ≤ togetherOn y d
  all : ∀ b n, b < x.boats.length → ∀ j, (daysAll x b n).testBit j = true → (daysAll y b n).testBit j = true
  some : ∀ b n, b < x.boats.length → ∀ j, (daysSome y b n).testBit j = true → (daysSome x b n).testBit j = true
theorem sub_of {x y : CutD} (VX : Valid x) (VY : Valid y) (hr : y.rain.length = x.rain.length) (hb : y.boats = x.boats) (hcy : Cut.can y (every y) = true)
    (hsub : ∀ leak t, inS y.leak leak → Truth y leak (every y) t → inS x.leak leak ∧ Truth x leak (every x) t) : Sub x y := by
  have hcx : Cut.can x (every x) = true := by
    obtain ⟨leak, h1, t, h2⟩ := (can_iff VY _).1 hcy
    obtain ⟨h3, h4⟩ := hsub leak t h1 h2
    exact (can_iff VX _).2 ⟨leak, h3, t, h4⟩
  have hw : ∀ d, d ≤ x.rain.length → (Cut.water x d).1 ≤ (Cut.water y d).1 ∧ (Cut.water y d).2 ≤ (Cut.water x d).2 ∧ (Cut.water y d).1 ≤ (Cut.water y d).2 := by
    intro d hd
    obtain ⟨_, ⟨k1, t1, a1, a2, a3⟩, ⟨k2, t2, b1, b2, b3⟩⟩ := water_spec VY hcy d (by omega)
    obtain ⟨c1, _, _⟩ := water_spec VX hcx d hd
    obtain ⟨c2, _, _⟩ := water_spec VY hcy d (by omega)
    have e1 := hsub _ _ a1 a2
    have e2 := hsub _ _ b1 b2
    have f1 := c1 _ _ e1.1 e1.2
    have f2 := c1 _ _ e2.1 e2.2
    have f3 := c2 _ _ a1 a2
    unfold inS at f1 f2 f3
    omega
  have hfl : ∀ d, d ≤ x.rain.length → ∀ (b : Boat) (n : Int), b.draws.1 ≤ b.draws.2 → (floats b n (Cut.water x d) = 2 → floats b n (Cut.water y d) = 2) ∧ (floats b n (Cut.water y d) ≠ 0 → floats b n (Cut.water x d) ≠ 0) := by
    intro d hd b n hbd
    have h := hw d hd
    generalize Cut.water x d = u at *
    generalize Cut.water y d = v at *
    unfold floats
    constructor
    · intro h2
      split at h2
      · rw [if_pos (by omega)]
      · split at h2 <;> cases h2
    · intro h2
      split at h2
      · split
        · decide
        · rw [if_pos (by omega)]; decide
      · split at h2
        · split
          · decide
          · rw [if_pos (by omega)]; decide
        · exact absurd rfl h2
  have hB : ∀ b, b < x.boats.length → boatAt y.boats b = boatAt x.boats b := fun b _ => by rw [hb]
  refine ⟨hcx, hw, ?_, ?_, ?_, ?_⟩
  · obtain ⟨c1, _⟩ := leak_spec VX hcx
    obtain ⟨_, ⟨k1, t1, k2⟩, k3, t2, k4⟩ := leak_spec VY hcy
    have e1 := hsub _ _ k1 k2
    have e2 := hsub _ _ k3 k4
    have f1 := c1 _ _ e1.1 e1.2
    have f2 := c1 _ _ e2.1 e2.2
    unfold inS at f1 f2
    omega
  · intro d hd
    unfold togetherOn
    rw [hb]
    have key : ∀ k, k ≤ x.boats.length → sumTo x d k ≤ sumTo y d k := by
      intro k
      induction k with
      | zero => intro _; exact Int.le_refl _
      | succ k ih =>
        intro hk
        have ih := ih (by omega)
        have hbt := VX.boat k (by omega)
        have hbt' := VY.boat k (by rw [hb]; omega)
        have hm := lead_mono (suits x k d 2) (suits y k d 2) (fun i hi => by
          unfold suits at *
          simp only [decide_eq_true_eq] at *
          rw [hB k (by omega)]
          have hor := floats_or (boatAt x.boats k) i (Cut.water x d)
          have := (hfl d hd (boatAt x.boats k) i hbt.2.1).1 (by omega)
          omega) (suits_mono y k d 2 hbt'.2.2.2.1) (suits_mono x k d 2 hbt.2.2.2.1) ((boatAt x.boats k).room.toNat + 1)
        have hl : loads x k d 2 ≤ loads y k d 2 := by
          unfold loads
          rw [hB k (by omega)]
          omega
        unfold sumTo
        omega
    exact key _ (Nat.le_refl _)
  · intro b n hbl j
    unfold daysAll
    rw [setTo_bit, setTo_bit, hr]
    simp only [Bool.and_eq_true, decide_eq_true_eq, beq_iff_eq]
    rintro ⟨hj, h2⟩
    refine ⟨hj, ?_⟩
    unfold floatsOn at *
    rw [hB b hbl]
    exact (hfl j (by omega) _ n (VX.boat b hbl).2.1).1 h2
  · intro b n hbl j
    unfold daysSome
    rw [setTo_bit, setTo_bit, hr]
    simp only [Bool.and_eq_true, decide_eq_true_eq, bne_iff_ne]
    rintro ⟨hj, h2⟩
    refine ⟨hj, ?_⟩
    unfold floatsOn at *
    rw [hB b hbl] at h2
    exact (hfl j (by omega) _ n (VX.boat b hbl).2.1).2 h2
theorem sub_same {x y : CutD} (h : Sub x y) (k : Sub y x) (hr : y.rain.length = x.rain.length) : (∀ d, d ≤ x.rain.length → water x d = water y d ∧ togetherOn x d = togetherOn y d) ∧ leakSpan x = leakSpan y := by
  refine ⟨fun d hd => ⟨?_, ?_⟩, ?_⟩
  · have a := h.water d hd
    have b := k.water d (by omega)
    exact Prod.ext (by omega) (by omega)
  · have a := h.sum d hd
    have b := k.sum d (by omega)
    omega
  · have a := h.leak
    have b := k.leak
    exact Prod.ext (by omega) (by omega)
/-! Looks: which truths they leave. -/
theorem truth_looks {x : CutD} {leak : Int} {t : Nat → Int} : Truth x leak (every x) t ↔ (inS x.depth (t 0) ∧ (∀ d, d < x.rain.length → Step x leak d (t d) (t (d + 1)))) ∧ ∀ l ∈ x.looks, ∀ d : Nat, d ≤ x.rain.length → l.day = d → inS l.depth (t d) := by
  constructor
  · intro h
    refine ⟨⟨h.start, h.step⟩, fun l hl d hd hday => ?_⟩
    obtain ⟨i, hi, e⟩ := mem_getD (d := noLook) hl
    have := h.looks d hd i hi (by rw [every_bit]; simpa using hi)
    unfold lookAt at this
    rw [e] at this
    exact this hday
  · rintro ⟨⟨h1, h2⟩, h3⟩
    refine ⟨h1, h2, fun d hd i hi _ hday => ?_⟩
    exact h3 (lookAt x.looks i) (getD_mem x.looks i noLook hi) d hd hday
theorem truth_more {x y : CutD} (hd : y.depth = x.depth) (hm : y.most = x.most) (hr : y.rain = x.rain) (hl : ∀ l ∈ x.looks, ∃ l' ∈ y.looks, l'.day = l.day ∧ l.depth.1 ≤ l'.depth.1 ∧ l'.depth.2 ≤ l.depth.2) {leak : Int} {t : Nat → Int} (h : Truth y leak (every y) t) : Truth x leak (every x) t := by
  rw [truth_looks] at h ⊢
  obtain ⟨⟨h1, h2⟩, h3⟩ := h
  refine ⟨⟨by rw [← hd]; exact h1, fun d hdd => ?_⟩, fun l hl' d hdd hday => ?_⟩
  · have := h2 d (by rw [hr]; exact hdd)
    unfold Step at *
    rw [hr, hm] at this
    exact this
  · obtain ⟨l', k1, k2, k3, k4⟩ := hl l hl'
    have := h3 l' k1 d (by rw [hr]; exact hdd) (k2.trans hday)
    unfold inS at *
    omega
theorem truth_rain {x y : CutD} (hd : y.depth = x.depth) (hm : y.most = x.most) (hn : y.rain.length = x.rain.length) (hr : ∀ i, i < x.rain.length → (spanAt x.rain i).1 ≤ (spanAt y.rain i).1 ∧ (spanAt y.rain i).2 ≤ (spanAt x.rain i).2) (hl : y.looks = x.looks) {leak : Int} {t : Nat → Int} (h : Truth y leak (every y) t) : Truth x leak (every x) t := by
  rw [truth_looks] at h ⊢
  obtain ⟨⟨h1, h2⟩, h3⟩ := h
  refine ⟨⟨by rw [← hd]; exact h1, fun d hdd => ?_⟩, fun l hl' d hdd hday => ?_⟩
  · obtain ⟨r, k1, k2⟩ := h2 d (by omega)
    have := hr d hdd
    refine ⟨r, by unfold inS at *; omega, by rw [← hm]; exact k2⟩
  · exact h3 l (by rw [hl]; exact hl') d (by omega) hday
end Cut
end Go.Proofs.YtlkhjnpflohfeaaDoor

/- The plain law of CutClash. -/
namespace Go.Proofs.YtlkhjnpflohfeaaDoor
open Go
namespace Cut
def pickTo (ls : List Look) (s : Nat) : Nat → List Look
  | 0 => []
  | k + 1 => if s.testBit k then pickTo ls s k ++ [lookAt ls k] else pickTo ls s k
def picked (c : CutD) (s : Nat) : CutD := { c with looks := pickTo c.looks s c.looks.length }
end Cut
end Go.Proofs.YtlkhjnpflohfeaaDoor

/- The closure of CutClash, and the reference's size of a set, gone through. -/
namespace Go.Proofs.YtlkhjnpflohfeaaDoor
open Go
namespace Ev
set_option maxRecDepth 100000
def Gives (t : Nat) (v : AV) (e : AExit) (st : St) : Prop := e = .ret ∧ st.df = [] ∧ st.tc = [] ∧ st.tm.getD t .unk = v
inductive Sel (T J : List AB) (sel : List Look) : AV → Prop
  | none : sel = [] → Sel T J sel .nils
  | at (j : Nat) : J[j]? = some (.cells (lookCs sel)) → Sel T J sel (.sl (T.length + 2 + j) 0 sel.length 3)
end Ev
end Go.Proofs.YtlkhjnpflohfeaaDoor

/- The closures of CutTrue, gone through: numbers by remainders; a cut whose looks are right. -/
namespace Go.Proofs.YtlkhjnpflohfeaaDoor
open Go
namespace Ev
set_option maxRecDepth 100000
def drawV (ns : List Int) (k : Nat) (lo hi : Int) : Int := if ns = [] then lo else lo + (ns.getD ((k + 1) % ns.length) 0 + 59 * ((k : Int) + 1)) % (hi - lo + 1)
def Drew (v : AV) (hp : List AB) (e : AExit) (st : St) : Prop := e = .ret ∧ st.df = [] ∧ st.tm.getD 4 .unk = v ∧ st.hp = hp ∧ st.tc = [2]
def Draws (call : CallF) (ns : List Int) : Prop := ∀ (k : Nat), k ≤ 1000 → ∀ (lo hi : Int), -1000 ≤ lo → lo ≤ hi → hi ≤ 1000 → ∀ (c0 : AB) (T : List AB),
  call (.fn (.func 79) [] [.ptr 2 0, .ptr 1 0]) [.agg [.int .i64 lo, .int .i64 hi]] (c0 :: .cells [.vs 1 (ns.map (AV.int .u16))] :: .cells [.int .i64 k] :: T) =
    some (.ret (.int .i64 (drawV ns k lo hi)), c0 :: .cells [.vs 1 (ns.map (AV.int .u16))] :: .cells [.int .i64 ((k : Int) + 1)] :: (T ++ [.cells [.int .i64 lo, .int .i64 hi]]), [2])
def truL (c : CutD) (ns : List Int) : Int := drawV ns 0 c.leak.1 c.leak.2
def truD (c : CutD) (ns : List Int) : Nat → Int
  | 0 => drawV ns 1 c.depth.1 c.depth.2
  | d + 1 => max 0 (min c.most (truD c ns d + (drawV ns (2 + d) (Cut.spanAt c.rain d).1 (Cut.spanAt c.rain d).2 - truL c ns)))
inductive Sel5 (J : List AB) (q : Nat) (sel : List Look) : AV → Prop
  | none : sel = [] → Sel5 J q sel .nils
  | at (j : Nat) : j ≠ q → J[j]? = some (.cells (lookCs sel)) → Sel5 J q sel (.sl (5 + j) 0 sel.length 3)
theorem ev1_spine {C : Cfg} {call : CallF} {pin : Nat} {nod : Bool} {fl : List (Nat × List Nat)} {o : AOp} {st : St} {v : AV} {hp : List AB} {tc : List Nat} (hg : o.guard = Option.none) (hk : spineK o.op = true)
    (hs : spine call (val C st.tm) st.hp o.op = some (.ret v, hp, tc)) (hd : o.deps = 2 ^ o.ix - 1) (hf0 : (fl.all fun p => Nat.ble (p.1 + 1) o.ix) = true) :
    ev1 C call pin nod true fl o st = some (.next Option.none { st with hp := hp, tm := putT st.tm o.dst v, tc := tc.filter (· < pin) ++ st.tc }) := by
  obtain ⟨ix, dst, op, guard, deps⟩ := o
  dsimp only at hg hk hs hd hf0
  have hf : (fl.all fun p => deps.testBit p.1) = true := by
    rw [List.all_eq_true] at hf0 ⊢
    intro p hp
    have := Nat.le_of_ble_eq_true (hf0 p hp)
    rw [hd, Nat.testBit_two_pow_sub_one]
    exact decide_eq_true (by omega)
  subst hg
  have h1 : (fl.all fun p => deps.testBit p.1 || apart p.2 tc) = true := by
    rw [List.all_eq_true] at hf ⊢
    intro p hp
    rw [hf p hp, Bool.true_or]
  unfold ev1
  simp only [wantG]
  cases op <;> first | (simp only [spine] at hs; cases hs; done) | (simp only [spineK] at hk; cases hk; done) | (simp only [hs, h1, Bool.or_true, spineK, cond_true])
theorem lookCs_app (s : List Look) (x : Look) : lookCs (s ++ [x]) = lookCs s ++ [.int .i64 x.day, .int .i64 x.depth.1, .int .i64 x.depth.2] := by
  induction s with
  | nil => rfl
  | cons y l ih => simp [lookCs, ih]
def TrulyEnd (c : CutD) (ns : List Int) (tf : Nat → Int) (lk : Int) (c0 : AB) (e : AExit) (st : St) : Prop :=
  e = .ret ∧ st.df = [] ∧ st.tc = List.replicate (c.rain.length + 2) 2 ∧ ∃ (J : List AB) (jd : Nat) (lv : AV), J[jd]? = some (.cells ((List.range (c.rain.length + 1)).map fun i => .int .i64 (tf i))) ∧ Sel5 J jd (c.looks.map fun l => nearLook l (tf l.day.toNat)) lv ∧
    st.tm.getD 4 .unk = .ptr 4 0 ∧ st.tm.getD 5 .unk = .int .i64 lk ∧ st.tm.getD 6 .unk = .sl (5 + jd) 0 (c.rain.length + 1) 1 ∧
    st.hp = c0 :: .cells [.vs 1 (ns.map (AV.int .u16))] :: .cells [.int .i64 (2 + (c.rain.length : Int))] :: .cells [.int .i64 c.depth.1, .int .i64 c.depth.2, .int .i64 c.leak.1, .int .i64 c.leak.2, .vs 2 (c.rain.map spanE), .int .i64 c.most, .vs 4 (c.boats.map boatE), .vs 3 (c.looks.map lookE)] :: .cells [.int .i64 c.depth.1, .int .i64 c.depth.2, .int .i64 c.leak.1, .int .i64 c.leak.2, .vs 2 (c.rain.map spanE), .int .i64 c.most, .vs 4 (c.boats.map boatE), lv] :: J
def depthsA (c : CutD) (ns : List Int) (n : Nat) : List AV := (List.range n).map fun d => .int .i64 (truD c ns d)
end Ev
end Go.Proofs.YtlkhjnpflohfeaaDoor

/- The law CutMore: what is asked of a cut that is known better; its code behind the first statements; cells of lists. -/
namespace Go.Proofs.YtlkhjnpflohfeaaDoor
open Go
namespace Ev
def dropS : Nat → AC → AC
  | k + 1, .seq _ b => dropS k b
  | _, c => c
theorem spanCs_at : ∀ (r : List (Int × Int)) (i : Nat) (h : i < r.length), ((spanCs r).drop (i * 2)).take 2 = [.int .i64 r[i].1, .int .i64 r[i].2]
  | [], i, h => by simp at h
  | s :: l, 0, h => by simp [spanCs]
  | s :: l, i + 1, h => by
    have ih := spanCs_at l i (by simpa using h)
    rw [show (i + 1) * 2 = i * 2 + 1 + 1 by omega]
    simpa [spanCs] using ih
theorem boatCs_at : ∀ (r : List Boat) (i : Nat) (h : i < r.length), ((boatCs r).drop (i * 4)).take 4 = [.int .i64 r[i].draws.1, .int .i64 r[i].draws.2, .int .i64 r[i].per, .int .i64 r[i].room]
  | [], i, h => by simp at h
  | s :: l, 0, h => by simp [boatCs]
  | s :: l, i + 1, h => by
    have ih := boatCs_at l i (by simpa using h)
    rw [show (i + 1) * 4 = i * 4 + 1 + 1 + 1 + 1 by omega]
    simpa [boatCs] using ih
theorem lookCs_at : ∀ (r : List Look) (i : Nat) (h : i < r.length), ((lookCs r).drop (i * 3)).take 3 = [.int .i64 r[i].day, .int .i64 r[i].depth.1, .int .i64 r[i].depth.2]
  | [], i, h => by simp at h
  | s :: l, 0, h => by simp [lookCs]
  | s :: l, i + 1, h => by
    have ih := lookCs_at l i (by simpa using h)
    rw [show (i + 1) * 3 = i * 3 + 1 + 1 + 1 by omega]
    simpa [lookCs] using ih
theorem lk_val (C : Cfg) (N : Nat) (L : List (Nat × AV)) (t : Nat) : val C (tmA N L) (.tmp t) = lk N L t := rfl
theorem get_app {H K : List AB} {i : Nat} {x : AB} (h : H[i]? = some x) : (H ++ K)[i]? = some x := by
  rw [List.getElem?_append_left (List.getElem?_eq_some_iff.1 h).1]; exact h
end Ev
end Go.Proofs.YtlkhjnpflohfeaaDoor

/- The law CutMore, gone through: one span in another one; the boats of a cut that is known better. -/
namespace Go.Proofs.YtlkhjnpflohfeaaDoor
open Go
namespace Ev
set_option maxRecDepth 100000
theorem in_fun (C : Cfg) (call : CallF) (x1 x2 y1 y2 : Int) (H : List AB) :
    Does (ev C call H.length none af40.body { tm := tmA 17 (zipI 0 [.agg [.int .i64 x1, .int .i64 x2], .agg [.int .i64 y1, .int .i64 y2]] []), df := [], hp := H, tc := [] })
      (fun e st => e = .ret ∧ st.df = [] ∧ st.tm.getD 4 .unk = .bool (decide (y1 ≤ x1) && decide (x2 ≤ y2)) ∧ st.tc = []) := by
  unfold af40
  simp only [zipI]
  by_cases h : y1 ≤ x1
  · (repeat (first | (with_reducible apply ops_cons; (focus ((conv => lhs; simp [ev1, wantG, spineK, spine, float, xnew, xval, xeff, val_tmA_cons, val_tmA_nil, val_val, putT_some, putT_none, addFl, cellsOf, pickC, alive, slLen, slFt, binI, maxA, maxK, minA, minK, aeqK, aeqS, AV.cells, slCells_sl, boatE, spanE, lookE, fillA, setAt, bitsI, nat_nn, AV.plain, apart, Nat.testBit_eq_decide_div_mod_eq, *]) <;> exact rfl)); simp only [addFl]) | ((with_reducible first | refine does_seq ?_ | refine does_ops ?_ | refine does_draw ?_ | refine does_skip ?_ | refine does_block ?_ | refine does_ret ?_ | refine does_exit ?_ | refine ops_nil ?_ | (apply does_true; (focus (simp [val_tmA_cons, *]; done))) | (with_reducible apply does_false; (focus (simp [val_tmA_cons, *]; done)))); try simp only [Then, Ops])))
    exact ⟨by first | trivial | rfl, by first | trivial | rfl, by simp only [tmA_getD_cons]; simp [h], by simp⟩
  · (repeat (first | (with_reducible apply ops_cons; (focus ((conv => lhs; simp [ev1, wantG, spineK, spine, float, xnew, xval, xeff, val_tmA_cons, val_tmA_nil, val_val, putT_some, putT_none, addFl, cellsOf, pickC, alive, slLen, slFt, binI, maxA, maxK, minA, minK, aeqK, aeqS, AV.cells, slCells_sl, boatE, spanE, lookE, fillA, setAt, bitsI, nat_nn, AV.plain, apart, Nat.testBit_eq_decide_div_mod_eq, *]) <;> exact rfl)); simp only [addFl]) | ((with_reducible first | refine does_seq ?_ | refine does_ops ?_ | refine does_draw ?_ | refine does_skip ?_ | refine does_block ?_ | refine does_ret ?_ | refine does_exit ?_ | refine ops_nil ?_ | (apply does_true; (focus (simp [val_tmA_cons, *]; done))) | (with_reducible apply does_false; (focus (simp [val_tmA_cons, *]; done)))); try simp only [Then, Ops])))
    exact ⟨by first | trivial | rfl, by first | trivial | rfl, by simp only [tmA_getD_cons]; simp [h], by simp⟩
def InCall (call : CallF) : Prop := ∀ (H : List AB) (x1 x2 y1 y2 : Int), call (.fn (.func 40) [] []) [.agg [.int .i64 x1, .int .i64 x2], .agg [.int .i64 y1, .int .i64 y2]] H = some (.ret (.bool (decide (y1 ≤ x1) && decide (x2 ≤ y2))), H, [])
theorem in_call {C : Cfg} {n : Nat} (hc : C.calm = true) (hx : C.ext 40 = none) (hxh : C.exth 40 = none) (hf : C.fns 40 = some af40) (hw : C.whole 40 = true) : InCall (Ev.call C (n + 1)) := by
  intro H x1 x2 y1 y2
  have := call_fn (n := n) (first := []) (captured := []) (args := [.agg [.int .i64 x1, .int .i64 x2], .agg [.int .i64 y1, .int .i64 y2]]) (H := H)
    (R := fun x H' tc => x = .ret (.bool (decide (y1 ≤ x1) && decide (x2 ≤ y2))) ∧ H' = H ∧ tc = []) hc hx hxh hf hw (show (2 : Nat) ≤ 17 by omega) (by
    refine (in_fun C (Ev.call C n) x1 x2 y1 y2 H).mono fun e st ⟨h1, h2, h3, h4⟩ => ?_
    subst h1
    refine ⟨.ret (.bool (decide (y1 ≤ x1) && decide (x2 ≤ y2))), st, ?_, ?_⟩
    · have e1 : runDefs C H.length st.df none st = some (none, st) := by rw [h2]; rfl
      show (match runDefs C H.length st.df none st with
        | some (none, st) => (resL st [.tmp 4]).map fun vs => (CRes.ret (resV vs), st)
        | _ => none) = _
      rw [e1]
      show (resL st [.tmp 4]).map (fun vs => (CRes.ret (resV vs), st)) = _
      simp only [resL, resOf, h3]
      rfl
    · unfold Left
      rw [h4]
      rw [if_pos (by unfold bareQ; simp [CRes.val, refs])]
      exact ⟨rfl, rfl, rfl⟩)
  obtain ⟨x, H', tc, h1, rfl, rfl, rfl⟩ := this
  exact h1
def DaysM (A : Api) (c v : CutD) (w3 e E : Int) : Prop := ∀ (i : Nat) (h : i < c.boats.length), ∃ D S D' S' : Nat, A.days c i (w3 % (c.boats[i].room + 1)) = (((D : Int), (S : Int)), e) ∧ A.days v i (w3 % (c.boats[i].room + 1)) = (((D' : Int), (S' : Int)), E) ∧
  (D < 1048576 ∧ S < 1048576 ∧ D' < 1048576 ∧ S' < 1048576) ∧ (E = 0 → (∀ j, D.testBit j = true → D'.testBit j = true) ∧ ∀ j, S'.testBit j = true → S.testBit j = true)
def atP : List Nat → AC → AC
  | 0 :: p, .seq a _ => atP p a
  | 1 :: p, .seq _ b => atP p b
  | _ :: p, .block _ c => atP p c
  | _ :: p, .loop _ c => atP p c
  | 0 :: p, .cond _ a _ => atP p a
  | 1 :: p, .cond _ _ b => atP p b
  | _, c => c
set_option maxHeartbeats 8000000 in
theorem more_boats (C : Cfg) (hC : C.calm = true) (call : CallF) (A : Api) (hA : ApiOk call A) (a b k l m : Int) (r : List (Int × Int)) (bs : List Boat) (ls : List Look) (v : CutD) (rv lv : AV) (w3 e E : Int) (u3 : 0 ≤ w3 ∧ w3 ≤ 255) (b2 : bs.length ≤ 4) (hE : E = 0 ∨ E = 10)
    (hroom : ∀ i (h : i < bs.length), 0 ≤ bs[i].room ∧ bs[i].room ≤ 10) (hD : DaysM A ⟨(a, b), (k, l), r, m, bs, ls⟩ v w3 e E) (G K K2 : List AB) (four : List AV) (L : List (Nat × AV)) (tc : List Nat)
    (hv : ∀ K', cutOf (G ++ K') (.agg [.int .i64 a, .int .i64 b, .int .i64 k, .int .i64 l, rv, .int .i64 m, .vs 4 (bs.map boatE), lv]) = some v)
    (g0 : G[0]? = some (.cells [.int .i64 a, .int .i64 b, .int .i64 k, .int .i64 l, .vs 2 (r.map spanE), .int .i64 m, .vs 4 (bs.map boatE), .vs 3 (ls.map lookE)]))
    (x12 x20 x21 x22 x23 x24 x26 x28 x208 x209 x210 : AV)
    (l4 : lk 411 L 4 = .int .u8 w3) (l5 : lk 411 L 5 = .ptr 0 0) (l12 : lk 411 L 12 = x12) (l20 : lk 411 L 20 = x20) (l21 : lk 411 L 21 = x21) (l22 : lk 411 L 22 = x22) (l23 : lk 411 L 23 = x23) (l24 : lk 411 L 24 = x24) (l25 : lk 411 L 25 = .int .i64 e)
    (l303 : lk 411 L 303 = .vs 4 (bs.map boatE)) (l304 : lk 411 L 304 = .int .i64 bs.length) (l305 : lk 411 L 305 = .int .i64 0)
    (l26 : lk 411 L 26 = x26) (l28 : lk 411 L 28 = x28) (l31 : lk 411 L 31 = .ptr (G.length + (K.length + 1)) 0) (l33 : lk 411 L 33 = .int .i64 E) (l208 : lk 411 L 208 = x208) (l209 : lk 411 L 209 = x209) (l210 : lk 411 L 210 = x210) :
    Does (ev C call 0 none (atP [1, 1, 1, 1, 1, 1, 1, 1, 1, 1, 1, 1, 1, 1, 1, 1, 0, 1, 0, 0, 1, 1, 0, 0, 1, 1, 1, 1, 1, 1, 1, 0] af11.body)
        { tm := tmA 411 L, df := [], hp := G ++ .cells four :: (K ++ .cells [.int .i64 a, .int .i64 b, .int .i64 k, .int .i64 l, rv, .int .i64 m, .vs 4 (bs.map boatE), lv] :: K2), tc := tc })
      (fun e' st => e' = .exit 4 ∧ ∃ (L' : List (Nat × AV)) (K3 : List AB), lk 411 L' 4 = .int .u8 w3 ∧ lk 411 L' 5 = .ptr 0 0 ∧ lk 411 L' 12 = x12 ∧ lk 411 L' 20 = x20 ∧ lk 411 L' 21 = x21 ∧ lk 411 L' 22 = x22 ∧ lk 411 L' 23 = x23 ∧ lk 411 L' 24 = x24 ∧ lk 411 L' 25 = .int .i64 e ∧
        lk 411 L' 26 = x26 ∧ lk 411 L' 28 = x28 ∧ lk 411 L' 208 = x208 ∧ lk 411 L' 209 = x209 ∧ lk 411 L' 210 = x210 ∧
        st = { tm := tmA 411 L', df := [], hp := G ++ .cells four :: (K ++ .cells [.int .i64 a, .int .i64 b, .int .i64 k, .int .i64 l, rv, .int .i64 m, .vs 4 (bs.map boatE), lv] :: K3), tc := tc }) := by
  have v4 := fun C => (lk_val C 411 L 4).trans l4
  have v5 := fun C => (lk_val C 411 L 5).trans l5
  obtain ⟨n0, e0⟩ := List.getElem?_eq_some_iff.1 g0
  have g0' := fun K => get_app (K := K) g0
  have n0' : ∀ n, 0 < G.length + n := fun n => by omega
  have e0' : ∀ K (h : 0 < (G ++ K).length), (G ++ K)[0]'h = .cells [.int .i64 a, .int .i64 b, .int .i64 k, .int .i64 l, .vs 2 (r.map spanE), .int .i64 m, .vs 4 (bs.map boatE), .vs 3 (ls.map lookE)] := fun K h => by
    have := g0' K
    rw [List.getElem?_eq_getElem h] at this; exact Option.some.inj this
  clear g0
  have c1 := fun H b' n => hA.days (cutOf_mk H a b k l m r bs ls) b' n
  have c2 := fun K' b' n => hA.days (hv K') b' n
  unfold three at c1 c2
  unfold DaysM at hD
  simp only at hD
  have hcn : (⟨(a, b), (k, l), r, m, bs, ls⟩ : CutD).boats = bs := rfl
  generalize (⟨(a, b), (k, l), r, m, bs, ls⟩ : CutD) = c at *
  clear hv hA hcn
  have HD := hideP hD
  have HR := hideP hroom
  have HE := hideP hE
  have hw3 : IntKind.i64.wrap w3 = w3 := wrap_in (by omega) (by omega)
  have HU := hideP u3
  clear hD hroom hE u3
  simp only [af11, atP]
  refine does_loop (fun q st => ∃ (i : Nat) (K3 : List AB), i + q = bs.length ∧ st = { tm := tmA 411 [(305, .int .i64 i), (304, .int .i64 bs.length), (303, .vs 4 (bs.map boatE)), (210, x210), (209, x209), (208, x208), (33, .int .i64 E), (31, .ptr (G.length + (K.length + 1)) 0), (28, x28), (26, x26), (25, .int .i64 e), (24, x24), (23, x23), (22, x22), (21, x21), (20, x20), (12, x12), (5, .ptr 0 0), (4, .int .u8 w3)], df := [], hp := G ++ .cells four :: (K ++ .cells [.int .i64 a, .int .i64 b, .int .i64 k, .int .i64 l, rv, .int .i64 m, .vs 4 (bs.map boatE), lv] :: K3), tc := tc }) bs.length (by unfold fuelL; omega) ?_ ?_
  · refine ⟨0, K2, by omega, ?_⟩
    simp only [gcC_calm hC]
    exact st_eq (by simp [keepT_tmA, *]) rfl rfl (by simp)
  · rintro q st ⟨i, K3, hq, rfl⟩
    clear l303 l304 l305 l4 l5 l12 l20 l21 l22 l23 l24 l25 l26 l28 l31 l33 l208 l209 l210 v4 v5
    by_cases hi : i < bs.length
    · have hw : IntKind.i64.wrap ((i : Int) + 1) = (i : Int) + 1 := wrap_in (by omega) (by omega)
      obtain ⟨r0, r1⟩ := HR.out i hi
      have hwm : IntKind.i64.wrap (bs[i].room + 1) = bs[i].room + 1 := wrap_in (by omega) (by omega)
      have hm0 : ¬ (bs[i].room + 1 = 0) := by omega
      have ht : w3.tmod (bs[i].room + 1) = w3 % (bs[i].room + 1) := Int.tmod_eq_emod_of_nonneg HU.out.1
      obtain ⟨D, S, D', S', q1, q2, ⟨y1, y2, y3, y4⟩, q3⟩ := HD.out i hi
      clear r0 r1
      have HQ := hideP hq
      clear hq b2
      rcases HE.out with rfl | rfl
      · obtain ⟨z1, z2⟩ := q3 rfl
        have n1 := andnot_zero y1 y3 z1
        have n2 := andnot_zero y4 y2 z2
        simp at n1 n2
        clear q3 y1 y2 y3 y4 z1 z2
        (repeat (first | (with_reducible apply ops_cons; (focus ((conv => lhs; simp [ev1, wantG, spineK, spine, float, xnew, xval, xeff, val_tmA_cons, val_tmA_nil, val_val, putT_some, putT_none, addFl, cellsOf, pickC, alive, slLen, slFt, binI, maxA, maxK, minA, minK, aeqK, aeqS, AV.cells, slCells_sl, boatE, spanE, lookE, fillA, setAt, bitsI, nat_nn, AV.plain, apart, Nat.testBit_eq_decide_div_mod_eq, *]) <;> exact rfl)); simp only [addFl]) | ((with_reducible first | refine does_seq ?_ | refine does_ops ?_ | refine does_draw ?_ | refine does_skip ?_ | refine does_block ?_ | refine does_ret ?_ | refine does_exit ?_ | refine ops_nil ?_ | (apply does_true; (focus (simp [val_tmA_cons, *]; done))) | (with_reducible apply does_false; (focus (simp [val_tmA_cons, *]; done)))); try simp only [Then, Ops, OutB])))
        have hq := HQ.out
        refine ⟨q - 1, by omega, i + 1, ?_⟩
        apply Exists.intro
        refine ⟨by omega, ?_⟩
        simp only [gcC_calm hC]
        exact st_eq (by simp [keepT_tmA, lk_cons]) rfl rfl (by simp)
      · clear q3 y1 y2 y3 y4
        (repeat (first | (with_reducible apply ops_cons; (focus ((conv => lhs; simp [ev1, wantG, spineK, spine, float, xnew, xval, xeff, val_tmA_cons, val_tmA_nil, val_val, putT_some, putT_none, addFl, cellsOf, pickC, alive, slLen, slFt, binI, maxA, maxK, minA, minK, aeqK, aeqS, AV.cells, slCells_sl, boatE, spanE, lookE, fillA, setAt, bitsI, nat_nn, AV.plain, apart, Nat.testBit_eq_decide_div_mod_eq, *]) <;> exact rfl)); simp only [addFl]) | ((with_reducible first | refine does_seq ?_ | refine does_ops ?_ | refine does_draw ?_ | refine does_skip ?_ | refine does_block ?_ | refine does_ret ?_ | refine does_exit ?_ | refine ops_nil ?_ | (apply does_true; (focus (simp [val_tmA_cons, *]; done))) | (with_reducible apply does_false; (focus (simp [val_tmA_cons, *]; done)))); try simp only [Then, Ops, OutB])))
        have hq := HQ.out
        refine ⟨q - 1, by omega, i + 1, ?_⟩
        apply Exists.intro
        refine ⟨by omega, ?_⟩
        simp only [gcC_calm hC]
        exact st_eq (by simp [keepT_tmA, lk_cons]) rfl rfl (by simp)
    · obtain rfl : i = bs.length := by omega
      clear hi hq
      (repeat (first | (with_reducible apply ops_cons; (focus ((conv => lhs; simp [ev1, wantG, spineK, spine, float, xnew, xval, xeff, val_tmA_cons, val_tmA_nil, val_val, putT_some, putT_none, addFl, cellsOf, pickC, alive, slLen, slFt, binI, maxA, maxK, minA, minK, aeqK, aeqS, AV.cells, slCells_sl, boatE, spanE, lookE, fillA, setAt, bitsI, nat_nn, AV.plain, apart, Nat.testBit_eq_decide_div_mod_eq, *]) <;> exact rfl)); simp only [addFl]) | ((with_reducible first | refine does_seq ?_ | refine does_ops ?_ | refine does_draw ?_ | refine does_skip ?_ | refine does_block ?_ | refine does_ret ?_ | refine does_exit ?_ | refine ops_nil ?_ | (apply does_true; (focus (simp [val_tmA_cons, *]; done))) | (with_reducible apply does_false; (focus (simp [val_tmA_cons, *]; done)))); try simp only [Then, Ops])))
      refine ⟨by first | trivial | rfl, ?_⟩
      apply Exists.intro
      refine ⟨K3, ?_, ?_, ?_, ?_, ?_, ?_, ?_, ?_, ?_, ?_, ?_, ?_, ?_, ?_, rfl⟩ <;> simp [lk_cons]
end Ev
end Go.Proofs.YtlkhjnpflohfeaaDoor

/- The law CutMore, gone through: no argument is changed. -/
namespace Go.Proofs.YtlkhjnpflohfeaaDoor
open Go
namespace Ev
set_option maxRecDepth 100000
set_option maxHeartbeats 8000000 in
theorem more_d (C : Cfg) (hC : C.calm = true) (call : CallF) (h2 : ∀ H, call (.fn (.func 13) [] []) [] H = some (.ret (.bool true), H, [])) (a b k l m : Int) (r : List (Int × Int)) (bs : List Boat) (ls : List Look)
    (b1 : r.length ≤ 8) (b2 : bs.length ≤ 4) (b3 : ls.length ≤ 5) (G : List AB) (L : List (Nat × AV)) (p20 p21 p22 : Nat)
    (g0 : G[0]? = some (.cells [.int .i64 a, .int .i64 b, .int .i64 k, .int .i64 l, .vs 2 (r.map spanE), .int .i64 m, .vs 4 (bs.map boatE), .vs 3 (ls.map lookE)]))
    (g20 : G[p20]? = some (.cells (spanCs r))) (g21 : G[p21]? = some (.cells (boatCs bs))) (g22 : G[p22]? = some (.cells (lookCs ls)))
    (l5 : lk 411 L 5 = .ptr 0 0) (l20 : lk 411 L 20 = .sl p20 0 r.length 2) (l21 : lk 411 L 21 = .sl p21 0 bs.length 4) (l22 : lk 411 L 22 = .sl p22 0 ls.length 3) (tc : List Nat) :
    Does (ev C call 0 none (dropS 17 af11.body) { tm := tmA 411 L, df := [], hp := G, tc := tc }) (Yes 10) := by
  have v5 := fun C => (lk_val C 411 L 5).trans l5
  have v20 := fun C => (lk_val C 411 L 20).trans l20
  have v21 := fun C => (lk_val C 411 L 21).trans l21
  have v22 := fun C => (lk_val C 411 L 22).trans l22
  obtain ⟨n0, e0⟩ := List.getElem?_eq_some_iff.1 g0
  obtain ⟨n20, e20⟩ := List.getElem?_eq_some_iff.1 g20
  obtain ⟨n21, e21⟩ := List.getElem?_eq_some_iff.1 g21
  obtain ⟨n22, e22⟩ := List.getElem?_eq_some_iff.1 g22
  simp only [af11, dropS]
  (repeat (first | (with_reducible apply ops_cons; (focus ((conv => lhs; simp [ev1, wantG, spineK, spine, float, xnew, xval, xeff, val_tmA_cons, val_tmA_nil, val_val, putT_some, putT_none, addFl, cellsOf, pickC, alive, slLen, slFt, binI, maxA, maxK, minA, minK, aeqK, aeqS, AV.cells, slCells_sl, boatE, spanE, lookE, fillA, setAt, bitsI, nat_nn, AV.plain, apart, Nat.testBit_eq_decide_div_mod_eq, *]) <;> exact rfl)); simp only [addFl]) | ((with_reducible first | refine does_seq ?_ | refine does_ops ?_ | refine does_draw ?_ | refine does_skip ?_ | refine does_block ?_ | refine does_ret ?_ | refine does_exit ?_ | refine ops_nil ?_ | (apply does_true; (focus (simp [val_tmA_cons, *]; done))) | (with_reducible apply does_false; (focus (simp [val_tmA_cons, *]; done)))); try simp only [Then, Ops])))
  refine does_loop (fun q st => ∃ i : Nat, i + q = r.length ∧ st = { tm := tmA 411 [(364, .int .i64 i), (363, .int .i64 r.length), (22, .sl p22 0 ls.length 3), (21, .sl p21 0 bs.length 4), (20, .sl p20 0 r.length 2), (5, .ptr 0 0)], df := [], hp := G, tc := tc }) r.length (by unfold fuelL; omega) ?_ ?_
  · refine ⟨0, by omega, ?_⟩
    simp only [gcC_calm hC]
    exact st_eq (by simp [keepT_tmA, lk_cons, *]) rfl rfl (by simp)
  · rintro q st ⟨i, hq, rfl⟩
    clear l5 l20 l21 l22 v5 v20 v21 v22
    by_cases hi : i < r.length
    · have hw : IntKind.i64.wrap ((i : Int) + 1) = (i : Int) + 1 := wrap_in (by omega) (by omega)
      have hat := spanCs_at r i hi
      have hle : i * 2 + 2 ≤ r.length * 2 := by omega
      clear b1 b2 b3
      have HQ := hideP hq
      clear hq
      (repeat (first | (with_reducible apply ops_cons; (focus ((conv => lhs; simp [ev1, wantG, spineK, spine, float, xnew, xval, xeff, val_tmA_cons, val_tmA_nil, val_val, putT_some, putT_none, addFl, cellsOf, pickC, alive, slLen, slFt, binI, maxA, maxK, minA, minK, aeqK, aeqS, AV.cells, slCells_sl, boatE, spanE, lookE, fillA, setAt, bitsI, nat_nn, AV.plain, apart, Nat.testBit_eq_decide_div_mod_eq, *]) <;> exact rfl)); simp only [addFl]) | ((with_reducible first | refine does_seq ?_ | refine does_ops ?_ | refine does_draw ?_ | refine does_skip ?_ | refine does_block ?_ | refine does_ret ?_ | refine does_exit ?_ | refine ops_nil ?_ | (apply does_true; (focus (simp [val_tmA_cons, *]; done))) | (with_reducible apply does_false; (focus (simp [val_tmA_cons, *]; done)))); try simp only [Then, Ops, OutB])))
      have hq := HQ.out
      refine ⟨q - 1, by omega, i + 1, by omega, ?_⟩
      simp only [gcC_calm hC]
      exact st_eq (by simp [keepT_tmA, lk_cons]) rfl rfl (by simp)
    · obtain rfl : i = r.length := by omega
      clear hi hq
      (repeat (first | (with_reducible apply ops_cons; (focus ((conv => lhs; simp [ev1, wantG, spineK, spine, float, xnew, xval, xeff, val_tmA_cons, val_tmA_nil, val_val, putT_some, putT_none, addFl, cellsOf, pickC, alive, slLen, slFt, binI, maxA, maxK, minA, minK, aeqK, aeqS, AV.cells, slCells_sl, boatE, spanE, lookE, fillA, setAt, bitsI, nat_nn, AV.plain, apart, Nat.testBit_eq_decide_div_mod_eq, *]) <;> exact rfl)); simp only [addFl]) | ((with_reducible first | refine does_seq ?_ | refine does_ops ?_ | refine does_draw ?_ | refine does_skip ?_ | refine does_block ?_ | refine does_ret ?_ | refine does_exit ?_ | refine ops_nil ?_ | (apply does_true; (focus (simp [val_tmA_cons, *]; done))) | (with_reducible apply does_false; (focus (simp [val_tmA_cons, *]; done)))); try simp only [Then, Ops, OutB, reduceIte])))
      refine does_loop (fun q st => ∃ i : Nat, i + q = bs.length ∧ st = { tm := tmA 411 [(380, .int .i64 i), (379, .int .i64 bs.length), (22, .sl p22 0 ls.length 3), (21, .sl p21 0 bs.length 4), (5, .ptr 0 0)], df := [], hp := G, tc := tc }) bs.length (by unfold fuelL; omega) ?_ ?_
      · refine ⟨0, by omega, ?_⟩
        simp only [gcC_calm hC]
        exact st_eq (by simp [keepT_tmA, lk_cons]) rfl rfl (by simp)
      · rintro q st ⟨i, hq, rfl⟩
        by_cases hi : i < bs.length
        · have hw : IntKind.i64.wrap ((i : Int) + 1) = (i : Int) + 1 := wrap_in (by omega) (by omega)
          have hat := boatCs_at bs i hi
          have hle : i * 4 + 4 ≤ bs.length * 4 := by omega
          clear b1 b2 b3
          have HQ := hideP hq
          clear hq
          (repeat (first | (with_reducible apply ops_cons; (focus ((conv => lhs; simp [ev1, wantG, spineK, spine, float, xnew, xval, xeff, val_tmA_cons, val_tmA_nil, val_val, putT_some, putT_none, addFl, cellsOf, pickC, alive, slLen, slFt, binI, maxA, maxK, minA, minK, aeqK, aeqS, AV.cells, slCells_sl, boatE, spanE, lookE, fillA, setAt, bitsI, nat_nn, AV.plain, apart, Nat.testBit_eq_decide_div_mod_eq, *]) <;> exact rfl)); simp only [addFl]) | ((with_reducible first | refine does_seq ?_ | refine does_ops ?_ | refine does_draw ?_ | refine does_skip ?_ | refine does_block ?_ | refine does_ret ?_ | refine does_exit ?_ | refine ops_nil ?_ | (apply does_true; (focus (simp [val_tmA_cons, *]; done))) | (with_reducible apply does_false; (focus (simp [val_tmA_cons, *]; done)))); try simp only [Then, Ops, OutB])))
          have hq := HQ.out
          refine ⟨q - 1, by omega, i + 1, by omega, ?_⟩
          simp only [gcC_calm hC]
          exact st_eq (by simp [keepT_tmA, lk_cons]) rfl rfl (by simp)
        · obtain rfl : i = bs.length := by omega
          clear hi hq
          (repeat (first | (with_reducible apply ops_cons; (focus ((conv => lhs; simp [ev1, wantG, spineK, spine, float, xnew, xval, xeff, val_tmA_cons, val_tmA_nil, val_val, putT_some, putT_none, addFl, cellsOf, pickC, alive, slLen, slFt, binI, maxA, maxK, minA, minK, aeqK, aeqS, AV.cells, slCells_sl, boatE, spanE, lookE, fillA, setAt, bitsI, nat_nn, AV.plain, apart, Nat.testBit_eq_decide_div_mod_eq, *]) <;> exact rfl)); simp only [addFl]) | ((with_reducible first | refine does_seq ?_ | refine does_ops ?_ | refine does_draw ?_ | refine does_skip ?_ | refine does_block ?_ | refine does_ret ?_ | refine does_exit ?_ | refine ops_nil ?_ | (apply does_true; (focus (simp [val_tmA_cons, *]; done))) | (with_reducible apply does_false; (focus (simp [val_tmA_cons, *]; done)))); try simp only [Then, Ops, OutB, reduceIte])))
          refine does_loop (fun q st => ∃ i : Nat, i + q = ls.length ∧ st = { tm := tmA 411 [(396, .int .i64 i), (395, .int .i64 ls.length), (22, .sl p22 0 ls.length 3), (5, .ptr 0 0)], df := [], hp := G, tc := tc }) ls.length (by unfold fuelL; omega) ?_ ?_
          · refine ⟨0, by omega, ?_⟩
            simp only [gcC_calm hC]
            exact st_eq (by simp [keepT_tmA, lk_cons]) rfl rfl (by simp)
          · rintro q st ⟨i, hq, rfl⟩
            by_cases hi : i < ls.length
            · have hw : IntKind.i64.wrap ((i : Int) + 1) = (i : Int) + 1 := wrap_in (by omega) (by omega)
              have hat := lookCs_at ls i hi
              have hle : i * 3 + 3 ≤ ls.length * 3 := by omega
              clear b1 b2 b3
              have HQ := hideP hq
              clear hq
              (repeat (first | (with_reducible apply ops_cons; (focus ((conv => lhs; simp [ev1, wantG, spineK, spine, float, xnew, xval, xeff, val_tmA_cons, val_tmA_nil, val_val, putT_some, putT_none, addFl, cellsOf, pickC, alive, slLen, slFt, binI, maxA, maxK, minA, minK, aeqK, aeqS, AV.cells, slCells_sl, boatE, spanE, lookE, fillA, setAt, bitsI, nat_nn, AV.plain, apart, Nat.testBit_eq_decide_div_mod_eq, *]) <;> exact rfl)); simp only [addFl]) | ((with_reducible first | refine does_seq ?_ | refine does_ops ?_ | refine does_draw ?_ | refine does_skip ?_ | refine does_block ?_ | refine does_ret ?_ | refine does_exit ?_ | refine ops_nil ?_ | (apply does_true; (focus (simp [val_tmA_cons, *]; done))) | (with_reducible apply does_false; (focus (simp [val_tmA_cons, *]; done)))); try simp only [Then, Ops, OutB])))
              have hq := HQ.out
              refine ⟨q - 1, by omega, i + 1, by omega, ?_⟩
              simp only [gcC_calm hC]
              exact st_eq (by simp [keepT_tmA, lk_cons]) rfl rfl (by simp)
            · obtain rfl : i = ls.length := by omega
              clear hi hq
              (repeat (first | (with_reducible apply ops_cons; (focus ((conv => lhs; simp [ev1, wantG, spineK, spine, float, xnew, xval, xeff, val_tmA_cons, val_tmA_nil, val_val, putT_some, putT_none, addFl, cellsOf, pickC, alive, slLen, slFt, binI, maxA, maxK, minA, minK, aeqK, aeqS, AV.cells, slCells_sl, boatE, spanE, lookE, fillA, setAt, bitsI, nat_nn, AV.plain, apart, Nat.testBit_eq_decide_div_mod_eq, *]) <;> exact rfl)); simp only [addFl]) | ((with_reducible first | refine does_seq ?_ | refine does_ops ?_ | refine does_draw ?_ | refine does_skip ?_ | refine does_block ?_ | refine does_ret ?_ | refine does_exit ?_ | refine ops_nil ?_ | (apply does_true; (focus (simp [val_tmA_cons, *]; done))) | (with_reducible apply does_false; (focus (simp [val_tmA_cons, *]; done)))); try simp only [Then, Ops, OutB, reduceIte])))
              exact ⟨rfl, rfl, by simp only [tmA_getD_cons]; simp⟩
end Ev
end Go.Proofs.YtlkhjnpflohfeaaDoor

/- The law CutMore, gone through: cuts that are known better, one after the other. -/
namespace Go.Proofs.YtlkhjnpflohfeaaDoor
open Go
namespace Ev
set_option maxRecDepth 100000
def Better (A : Api) (c v : CutD) (dn : Nat) (w3 d1 d2 l1 l2 s e : Int) (same : Prop) : Prop :=
  ∃ D1 D2 L1 L2 S E : Int, A.depth v dn = ((D1, D2), E) ∧ A.leak v = ((L1, L2), E) ∧ A.together v dn = (S, E) ∧ (E = 0 ∨ E = 10) ∧
    (E = 0 → e = 0 ∧ d1 ≤ D1 ∧ D2 ≤ d2 ∧ l1 ≤ L1 ∧ L2 ≤ l2 ∧ s ≤ S) ∧ (same → D1 = d1 ∧ D2 = d2 ∧ L1 = l1 ∧ L2 = l2 ∧ S = s ∧ E = e) ∧ DaysM A c v w3 e E
def eightC (a b k l m : Int) (bs : List Boat) (p : AV × AV) : List AV := [.int .i64 a, .int .i64 b, .int .i64 k, .int .i64 l, p.1, .int .i64 m, .vs 4 (bs.map boatE), p.2]
def fourC (a b k l m : Int) (bs : List Boat) (ps : Nat → AV × AV) : List AV := eightC a b k l m bs (ps 0) ++ (eightC a b k l m bs (ps 1) ++ (eightC a b k l m bs (ps 2) ++ eightC a b k l m bs (ps 3)))
theorem fourC_at (a b k l m : Int) (bs : List Boat) (ps : Nat → AV × AV) {i : Nat} (h : i < 4) : ((fourC a b k l m bs ps).drop (i * 8)).take 8 = [.int .i64 a, .int .i64 b, .int .i64 k, .int .i64 l, (ps i).1, .int .i64 m, .vs 4 (bs.map boatE), (ps i).2] := by
  rcases (show i = 0 ∨ i = 1 ∨ i = 2 ∨ i = 3 by omega) with rfl | rfl | rfl | rfl <;> rfl
theorem fourC_len (a b k l m : Int) (bs : List Boat) (ps : Nat → AV × AV) : (fourC a b k l m bs ps).length = 32 := rfl
set_option maxHeartbeats 16000000 in
theorem more_c (C : Cfg) (hC : C.calm = true) (call : CallF) (A : Api) (hA : ApiOk call A) (hN : InCall call) (a b k l m : Int) (r : List (Int × Int)) (bs : List Boat) (ls : List Look) (V : Cut.Valid ⟨(a, b), (k, l), r, m, bs, ls⟩) (w3 : Int) (u3 : 0 ≤ w3 ∧ w3 ≤ 255)
    (dn : Nat) (d1 d2 l1 l2 s e : Int) (ps : Nat → AV × AV)
    (hps : ∀ i, i < 4 → (ps i).1.plain = true ∧ (ps i).2.plain = true) (G : List AB)
    (hvs : ∀ i, i < 4 → ∃ rr ll, (∀ K, spansV (G ++ K) (ps i).1 rr ∧ looksV (G ++ K) (ps i).2 ll) ∧ (A.valid ⟨(a, b), (k, l), rr, m, bs, ll⟩ = true → Better A ⟨(a, b), (k, l), r, m, bs, ls⟩ ⟨(a, b), (k, l), rr, m, bs, ll⟩ dn w3 d1 d2 l1 l2 s e (i = 3)))
    (L : List (Nat × AV)) (p20 p21 p22 p24 p26 : Nat)
    (g0 : G[0]? = some (.cells [.int .i64 a, .int .i64 b, .int .i64 k, .int .i64 l, .vs 2 (r.map spanE), .int .i64 m, .vs 4 (bs.map boatE), .vs 3 (ls.map lookE)]))
    (g2 : G[2]? = some (.cells (eightC a b k l m bs (ps 0)))) (g3 : G[3]? = some (.cells (eightC a b k l m bs (ps 1)))) (g4 : G[4]? = some (.cells (eightC a b k l m bs (ps 2)))) (g5 : G[5]? = some (.cells (eightC a b k l m bs (ps 3))))
    (g20 : G[p20]? = some (.cells (spanCs r))) (g21 : G[p21]? = some (.cells (boatCs bs))) (g22 : G[p22]? = some (.cells (lookCs ls)))
    (g24 : G[p24]? = some (.cells [.int .i64 d1, .int .i64 d2])) (g26 : G[p26]? = some (.cells [.int .i64 l1, .int .i64 l2]))
    (l4 : lk 411 L 4 = .int .u8 w3) (l5 : lk 411 L 5 = .ptr 0 0) (l12 : lk 411 L 12 = .int .i64 dn) (l13 : lk 411 L 13 = .ptr 2 0) (l14 : lk 411 L 14 = .ptr 3 0) (l15 : lk 411 L 15 = .ptr 4 0) (l16 : lk 411 L 16 = .ptr 5 0)
    (l20 : lk 411 L 20 = .sl p20 0 r.length 2) (l21 : lk 411 L 21 = .sl p21 0 bs.length 4) (l22 : lk 411 L 22 = .sl p22 0 ls.length 3) (l23 : lk 411 L 23 = .fn (.func 40) [] []) (l24 : lk 411 L 24 = .ptr p24 0) (l25 : lk 411 L 25 = .int .i64 e)
    (l26 : lk 411 L 26 = .ptr p26 0) (l28 : lk 411 L 28 = .int .i64 s) (tc : List Nat) :
    Does (ev C call 0 none (dropS 16 af11.body) { tm := tmA 411 L, df := [], hp := G, tc := tc }) (Yes 10) := by
  have b1 : r.length ≤ 8 := V.n8
  have b2 : bs.length ≤ 4 := V.b4
  have b3 : ls.length ≤ 5 := V.k5
  have hroom : ∀ i (h : i < bs.length), 0 ≤ bs[i].room ∧ bs[i].room ≤ 10 := fun i h => by
    have := V.boat i h
    have e : Cut.boatAt bs i = bs[i] := by simp [Cut.boatAt, h]
    rw [show (⟨(a, b), (k, l), r, m, bs, ls⟩ : CutD).boats = bs from rfl, e] at this
    omega
  have h2 := fun H => hA.awake (H := H)
  have v4 := fun C => (lk_val C 411 L 4).trans l4
  have v5 := fun C => (lk_val C 411 L 5).trans l5
  have v13 := fun C => (lk_val C 411 L 13).trans l13
  have v14 := fun C => (lk_val C 411 L 14).trans l14
  have v15 := fun C => (lk_val C 411 L 15).trans l15
  have v16 := fun C => (lk_val C 411 L 16).trans l16
  obtain ⟨n0, e0⟩ := List.getElem?_eq_some_iff.1 g0
  obtain ⟨n2, e2⟩ := List.getElem?_eq_some_iff.1 g2
  obtain ⟨n3, e3⟩ := List.getElem?_eq_some_iff.1 g3
  obtain ⟨n4, e4⟩ := List.getElem?_eq_some_iff.1 g4
  obtain ⟨n5, e5⟩ := List.getElem?_eq_some_iff.1 g5
  obtain ⟨n24, e24⟩ := List.getElem?_eq_some_iff.1 g24
  obtain ⟨n26, e26⟩ := List.getElem?_eq_some_iff.1 g26
  unfold eightC at g2 g3 g4 g5 e2 e3 e4 e5
  have HV := hideP V
  have HP := hideP hps
  have HR := hideP hroom
  have HS := hideP hvs
  have HA := hideP hA
  have HN := hideP hN
  clear V hps hroom hvs hA hN
  simp only [af11, dropS]
  (repeat (first | (with_reducible apply ops_cons; (focus ((conv => lhs; simp [ev1, wantG, spineK, spine, float, xnew, xval, xeff, val_tmA_cons, val_tmA_nil, val_val, putT_some, putT_none, addFl, cellsOf, pickC, alive, slLen, slFt, binI, maxA, maxK, minA, minK, aeqK, aeqS, AV.cells, slCells_sl, boatE, spanE, lookE, fillA, setAt, bitsI, nat_nn, AV.plain, apart, Nat.testBit_eq_decide_div_mod_eq, *]) <;> exact rfl)); simp only [addFl]) | ((with_reducible first | refine does_seq ?_ | refine does_ops ?_ | refine does_draw ?_ | refine does_skip ?_ | refine does_block ?_ | refine does_ret ?_ | refine does_exit ?_ | refine ops_nil ?_ | (apply does_true; (focus (simp [val_tmA_cons, *]; done))) | (with_reducible apply does_false; (focus (simp [val_tmA_cons, *]; done)))); try simp only [Then, Ops])))
  refine does_loop (fun q st => ∃ (i : Nat) (K : List AB), i + q = 4 ∧ st = { tm := tmA 411 [(210, .int .i64 i), (209, .int .i64 4), (208, .sl G.length 0 4 8), (28, .int .i64 s), (26, .ptr p26 0), (25, .int .i64 e), (24, .ptr p24 0), (23, .fn (.func 40) [] []), (22, .sl p22 0 ls.length 3), (21, .sl p21 0 bs.length 4), (20, .sl p20 0 r.length 2), (12, .int .i64 dn), (5, .ptr 0 0), (4, .int .u8 w3)], df := [], hp := G ++ .cells (fourC a b k l m bs ps) :: K, tc := tc }) 4 (by unfold fuelL; omega) ?_ ?_
  · refine ⟨0, [], by omega, ?_⟩
    simp only [gcC_calm hC]
    exact st_eq (by simp [keepT_tmA, lk_cons, *]) rfl rfl (by simp)
  · rintro q st ⟨i, K, hq, rfl⟩
    clear l4 l5 l12 l13 l14 l15 l16 l20 l21 l22 l23 l24 l25 l26 l28 v4 v5 v13 v14 v15 v16
    by_cases hi : i < 4
    · have hw : IntKind.i64.wrap ((i : Int) + 1) = (i : Int) + 1 := wrap_in (by omega) (by omega)
      have hi' : (i : Int) < 4 := by omega
      have hle8 : i * 8 + 8 ≤ 32 := by omega
      have hle8' : i * 8 ≤ 24 := by omega
      have hcell := fourC_at a b k l m bs ps hi
      have hlen := fourC_len a b k l m bs ps
      obtain ⟨y1, y2⟩ := HP.out i hi
      obtain ⟨rr, ll, hsp, hB⟩ := HS.out i hi
      generalize (ps i).1 = rv at *
      generalize (ps i).2 = lv at *
      simp only [AV.plain] at y1 y2
      have hK := fun K => cutOf_of (a := a) (b := b) (k := k) (l := l) (m := m) (bs := bs) (hsp K).1 (hsp K).2
      have c35 := fun K => HA.out.valid (hK K)
      have c14 := fun K d => HA.out.depth (hK K) d
      have c16 := fun K => HA.out.leak (hK K)
      have c26 := fun K d => HA.out.together (hK K) d
      unfold twoA at c26
      unfold twoS at c14 c16
      generalize hvd : (⟨(a, b), (k, l), rr, m, bs, ll⟩ : CutD) = v at *
      have HQ := hideP hq
      clear hq hvd hsp
      have m24 := fun K => get_app (K := K) g24
      have m26 := fun K => get_app (K := K) g26
      have n24' : ∀ n, p24 < G.length + n := fun n => by omega
      have n26' : ∀ n, p26 < G.length + n := fun n => by omega
      have n0' : ∀ n, 0 < G.length + n := fun n => by omega
      have m0 := fun K => get_app (K := K) g0
      cases hval : A.valid v with
      | false =>
        rw [hval] at c35
        clear hB c14 c16 c26 g24 g26 m24 m26 n24 n26 n24' n26' e24 e26 e0 g0 m0
        (repeat (first | (with_reducible apply ops_cons; (focus ((conv => lhs; simp [ev1, wantG, spineK, spine, float, xnew, xval, xeff, val_tmA_cons, val_tmA_nil, val_val, putT_some, putT_none, addFl, cellsOf, pickC, alive, slLen, slFt, binI, maxA, maxK, minA, minK, aeqK, aeqS, AV.cells, slCells_sl, boatE, spanE, lookE, fillA, setAt, bitsI, nat_nn, AV.plain, apart, Nat.testBit_eq_decide_div_mod_eq, *]) <;> exact rfl)); simp only [addFl]) | ((with_reducible first | refine does_seq ?_ | refine does_ops ?_ | refine does_draw ?_ | refine does_skip ?_ | refine does_block ?_ | refine does_ret ?_ | refine does_exit ?_ | refine ops_nil ?_ | (apply does_true; (focus (simp [val_tmA_cons, *]; done))) | (with_reducible apply does_false; (focus (simp [val_tmA_cons, *]; done)))); try simp only [Then, Ops, OutB, reduceIte])))
        have hq := HQ.out
        refine ⟨q - 1, by omega, i + 1, ?_⟩
        apply Exists.intro
        refine ⟨by omega, ?_⟩
        simp only [gcC_calm hC]
        exact st_eq (by simp [keepT_tmA, lk_cons]) rfl rfl (by simp)
      | true =>
        obtain ⟨D1, D2, L1, L2, S, E, q1, q2, q3, hE, q4, q5, hD⟩ := hB hval
        rw [hval] at c35
        have hb := fun K K2 L tc => more_boats C hC call A HA.out a b k l m r bs ls v rv lv w3 e E u3 b2 hE HR.out hD G K K2 (fourC a b k l m bs ps) L tc hK g0 (.int .i64 dn) (.sl p20 0 r.length 2) (.sl p21 0 bs.length 4) (.sl p22 0 ls.length 3) (.fn (.func 40) [] []) (.ptr p24 0) (.ptr p26 0) (.int .i64 s) (.sl G.length 0 4 8) (.int .i64 4) (.int .i64 i)
        simp only [af11, atP] at hb
        have HB := hideP hb
        have HD := hideP hD
        have H4 := hideP (And.intro q4 q5)
        have hN := HN.out
        unfold InCall at hN
        clear hB hD hb q4 q5
        have HE := hideP hE
        clear hE hval
        (repeat (first | (with_reducible apply ops_cons; (focus ((conv => lhs; simp [ev1, wantG, spineK, spine, float, xnew, xval, xeff, val_tmA_cons, val_tmA_nil, val_val, putT_some, putT_none, addFl, cellsOf, pickC, alive, slLen, slFt, binI, maxA, maxK, minA, minK, aeqK, aeqS, AV.cells, slCells_sl, boatE, spanE, lookE, fillA, setAt, bitsI, nat_nn, AV.plain, apart, Nat.testBit_eq_decide_div_mod_eq, *]) <;> exact rfl)); simp only [addFl]) | ((with_reducible first | refine does_seq ?_ | refine does_ops ?_ | refine does_draw ?_ | refine does_skip ?_ | refine does_block ?_ | refine does_ret ?_ | refine does_exit ?_ | refine ops_nil ?_ | (apply does_true; (focus (simp [val_tmA_cons, *]; done))) | (with_reducible apply does_false; (focus (simp [val_tmA_cons, *]; done)))); try simp only [Then, Ops, OutB])))
        clear c35 c14 c16 c26 hcell hlen y1 y2 hK hle8 hle8'
        have hb := HB.out
        obtain ⟨q4, q5⟩ := H4.out
        clear H4 HB HD
        rcases HE.out with rfl | rfl
        · obtain ⟨rfl, z1, z2, z3, z4, z5⟩ := q4 rfl
          by_cases h3 : i = 3
          · subst h3
            obtain ⟨rfl, rfl, rfl, rfl, rfl, -⟩ := q5 rfl
            have hw4 : IntKind.i64.wrap 4 = 4 := by decide
            clear q4 q5 z1 z2 z3 z4 z5
            (repeat (first | (with_reducible apply ops_cons; (focus ((conv => lhs; simp [ev1, wantG, spineK, spine, float, xnew, xval, xeff, val_tmA_cons, val_tmA_nil, val_val, putT_some, putT_none, addFl, cellsOf, pickC, alive, slLen, slFt, binI, maxA, maxK, minA, minK, aeqK, aeqS, AV.cells, slCells_sl, boatE, spanE, lookE, fillA, setAt, bitsI, nat_nn, AV.plain, apart, Nat.testBit_eq_decide_div_mod_eq, *]) <;> exact rfl)); simp only [addFl]) | ((with_reducible first | refine does_seq ?_ | refine does_ops ?_ | refine does_draw ?_ | refine does_skip ?_ | refine does_block ?_ | refine does_ret ?_ | refine does_exit ?_ | refine ops_nil ?_ | (apply does_true; (focus (simp [val_tmA_cons, *]; done))) | (with_reducible apply does_false; (focus (simp [val_tmA_cons, *]; done)))); try simp only [Then, Ops])))
            refine Does.mono (hb K _ _ _ ?_ ?_ ?_ ?_ ?_ ?_ ?_ ?_ ?_ ?_ ?_ ?_ ?_ ?_ ?_ ?_ ?_ ?_ ?_) ?_
            iterate 19 (focus (simp [lk_cons, *]; done))
            rintro e1' st ⟨rfl, L', K3, k4, k5, k12, k20, k21, k22, k23, k24, k25, k26, k28, k208, k209, k210, rfl⟩
            have u210 := fun C => (lk_val C 411 L' 210).trans k210
            clear hb
            simp only [OutB, Then, reduceIte]
            (repeat (first | (with_reducible apply ops_cons; (focus ((conv => lhs; simp [ev1, wantG, spineK, spine, float, xnew, xval, xeff, val_tmA_cons, val_tmA_nil, val_val, putT_some, putT_none, addFl, cellsOf, pickC, alive, slLen, slFt, binI, maxA, maxK, minA, minK, aeqK, aeqS, AV.cells, slCells_sl, boatE, spanE, lookE, fillA, setAt, bitsI, nat_nn, AV.plain, apart, Nat.testBit_eq_decide_div_mod_eq, *]) <;> exact rfl)); simp only [addFl]) | ((with_reducible first | refine does_seq ?_ | refine does_ops ?_ | refine does_draw ?_ | refine does_skip ?_ | refine does_block ?_ | refine does_ret ?_ | refine does_exit ?_ | refine ops_nil ?_ | (apply does_true; (focus (simp [val_tmA_cons, *]; done))) | (with_reducible apply does_false; (focus (simp [val_tmA_cons, *]; done)))); try simp only [Ops])))
            have hq := HQ.out
            refine ⟨q - 1, by omega, 4, ?_⟩
            apply Exists.intro
            refine ⟨by omega, ?_⟩
            simp only [gcC_calm hC]
            exact st_eq (by simp [keepT_tmA, lk_cons, *]) rfl rfl (by simp)
          · have h3' : ((i : Int) == 3) = false := beq_eq_false_iff_ne.2 (by omega)
            have z6 : ¬ S < s := by omega
            clear q4 q5 h3 z5
            (repeat (first | (with_reducible apply ops_cons; (focus ((conv => lhs; simp [ev1, wantG, spineK, spine, float, xnew, xval, xeff, val_tmA_cons, val_tmA_nil, val_val, putT_some, putT_none, addFl, cellsOf, pickC, alive, slLen, slFt, binI, maxA, maxK, minA, minK, aeqK, aeqS, AV.cells, slCells_sl, boatE, spanE, lookE, fillA, setAt, bitsI, nat_nn, AV.plain, apart, Nat.testBit_eq_decide_div_mod_eq, *]) <;> exact rfl)); simp only [addFl]) | ((with_reducible first | refine does_seq ?_ | refine does_ops ?_ | refine does_draw ?_ | refine does_skip ?_ | refine does_block ?_ | refine does_ret ?_ | refine does_exit ?_ | refine ops_nil ?_ | (apply does_true; (focus (simp [val_tmA_cons, *]; done))) | (with_reducible apply does_false; (focus (simp [val_tmA_cons, *]; done)))); try simp only [Then, Ops])))
            refine Does.mono (hb K _ _ _ ?_ ?_ ?_ ?_ ?_ ?_ ?_ ?_ ?_ ?_ ?_ ?_ ?_ ?_ ?_ ?_ ?_ ?_ ?_) ?_
            iterate 19 (focus (simp [lk_cons, *]; done))
            rintro e1' st ⟨rfl, L', K3, k4, k5, k12, k20, k21, k22, k23, k24, k25, k26, k28, k208, k209, k210, rfl⟩
            have u210 := fun C => (lk_val C 411 L' 210).trans k210
            clear hb
            simp only [OutB, Then, reduceIte]
            (repeat (first | (with_reducible apply ops_cons; (focus ((conv => lhs; simp [ev1, wantG, spineK, spine, float, xnew, xval, xeff, val_tmA_cons, val_tmA_nil, val_val, putT_some, putT_none, addFl, cellsOf, pickC, alive, slLen, slFt, binI, maxA, maxK, minA, minK, aeqK, aeqS, AV.cells, slCells_sl, boatE, spanE, lookE, fillA, setAt, bitsI, nat_nn, AV.plain, apart, Nat.testBit_eq_decide_div_mod_eq, *]) <;> exact rfl)); simp only [addFl]) | ((with_reducible first | refine does_seq ?_ | refine does_ops ?_ | refine does_draw ?_ | refine does_skip ?_ | refine does_block ?_ | refine does_ret ?_ | refine does_exit ?_ | refine ops_nil ?_ | (apply does_true; (focus (simp [val_tmA_cons, *]; done))) | (with_reducible apply does_false; (focus (simp [val_tmA_cons, *]; done)))); try simp only [Ops])))
            have hq := HQ.out
            refine ⟨q - 1, by omega, i + 1, ?_⟩
            apply Exists.intro
            refine ⟨by omega, ?_⟩
            simp only [gcC_calm hC]
            exact st_eq (by simp [keepT_tmA, lk_cons, *]) rfl rfl (by simp)
        · clear q4
          by_cases h3 : i = 3
          · subst h3
            obtain ⟨rfl, rfl, rfl, rfl, rfl, rfl⟩ := q5 rfl
            have hw4 : IntKind.i64.wrap 4 = 4 := by decide
            clear q5
            (repeat (first | (with_reducible apply ops_cons; (focus ((conv => lhs; simp [ev1, wantG, spineK, spine, float, xnew, xval, xeff, val_tmA_cons, val_tmA_nil, val_val, putT_some, putT_none, addFl, cellsOf, pickC, alive, slLen, slFt, binI, maxA, maxK, minA, minK, aeqK, aeqS, AV.cells, slCells_sl, boatE, spanE, lookE, fillA, setAt, bitsI, nat_nn, AV.plain, apart, Nat.testBit_eq_decide_div_mod_eq, *]) <;> exact rfl)); simp only [addFl]) | ((with_reducible first | refine does_seq ?_ | refine does_ops ?_ | refine does_draw ?_ | refine does_skip ?_ | refine does_block ?_ | refine does_ret ?_ | refine does_exit ?_ | refine ops_nil ?_ | (apply does_true; (focus (simp [val_tmA_cons, *]; done))) | (with_reducible apply does_false; (focus (simp [val_tmA_cons, *]; done)))); try simp only [Then, Ops])))
            refine Does.mono (hb K _ _ _ ?_ ?_ ?_ ?_ ?_ ?_ ?_ ?_ ?_ ?_ ?_ ?_ ?_ ?_ ?_ ?_ ?_ ?_ ?_) ?_
            iterate 19 (focus (simp [lk_cons, *]; done))
            rintro e1' st ⟨rfl, L', K3, k4, k5, k12, k20, k21, k22, k23, k24, k25, k26, k28, k208, k209, k210, rfl⟩
            have u210 := fun C => (lk_val C 411 L' 210).trans k210
            clear hb
            simp only [OutB, Then, reduceIte]
            (repeat (first | (with_reducible apply ops_cons; (focus ((conv => lhs; simp [ev1, wantG, spineK, spine, float, xnew, xval, xeff, val_tmA_cons, val_tmA_nil, val_val, putT_some, putT_none, addFl, cellsOf, pickC, alive, slLen, slFt, binI, maxA, maxK, minA, minK, aeqK, aeqS, AV.cells, slCells_sl, boatE, spanE, lookE, fillA, setAt, bitsI, nat_nn, AV.plain, apart, Nat.testBit_eq_decide_div_mod_eq, *]) <;> exact rfl)); simp only [addFl]) | ((with_reducible first | refine does_seq ?_ | refine does_ops ?_ | refine does_draw ?_ | refine does_skip ?_ | refine does_block ?_ | refine does_ret ?_ | refine does_exit ?_ | refine ops_nil ?_ | (apply does_true; (focus (simp [val_tmA_cons, *]; done))) | (with_reducible apply does_false; (focus (simp [val_tmA_cons, *]; done)))); try simp only [Ops])))
            have hq := HQ.out
            refine ⟨q - 1, by omega, 4, ?_⟩
            apply Exists.intro
            refine ⟨by omega, ?_⟩
            simp only [gcC_calm hC]
            exact st_eq (by simp [keepT_tmA, lk_cons, *]) rfl rfl (by simp)
          · have h3' : ((i : Int) == 3) = false := beq_eq_false_iff_ne.2 (by omega)
            clear q5 h3
            (repeat (first | (with_reducible apply ops_cons; (focus ((conv => lhs; simp [ev1, wantG, spineK, spine, float, xnew, xval, xeff, val_tmA_cons, val_tmA_nil, val_val, putT_some, putT_none, addFl, cellsOf, pickC, alive, slLen, slFt, binI, maxA, maxK, minA, minK, aeqK, aeqS, AV.cells, slCells_sl, boatE, spanE, lookE, fillA, setAt, bitsI, nat_nn, AV.plain, apart, Nat.testBit_eq_decide_div_mod_eq, *]) <;> exact rfl)); simp only [addFl]) | ((with_reducible first | refine does_seq ?_ | refine does_ops ?_ | refine does_draw ?_ | refine does_skip ?_ | refine does_block ?_ | refine does_ret ?_ | refine does_exit ?_ | refine ops_nil ?_ | (apply does_true; (focus (simp [val_tmA_cons, *]; done))) | (with_reducible apply does_false; (focus (simp [val_tmA_cons, *]; done)))); try simp only [Then, Ops])))
            refine Does.mono (hb K _ _ _ ?_ ?_ ?_ ?_ ?_ ?_ ?_ ?_ ?_ ?_ ?_ ?_ ?_ ?_ ?_ ?_ ?_ ?_ ?_) ?_
            iterate 19 (focus (simp [lk_cons, *]; done))
            rintro e1' st ⟨rfl, L', K3, k4, k5, k12, k20, k21, k22, k23, k24, k25, k26, k28, k208, k209, k210, rfl⟩
            have u210 := fun C => (lk_val C 411 L' 210).trans k210
            clear hb
            simp only [OutB, Then, reduceIte]
            (repeat (first | (with_reducible apply ops_cons; (focus ((conv => lhs; simp [ev1, wantG, spineK, spine, float, xnew, xval, xeff, val_tmA_cons, val_tmA_nil, val_val, putT_some, putT_none, addFl, cellsOf, pickC, alive, slLen, slFt, binI, maxA, maxK, minA, minK, aeqK, aeqS, AV.cells, slCells_sl, boatE, spanE, lookE, fillA, setAt, bitsI, nat_nn, AV.plain, apart, Nat.testBit_eq_decide_div_mod_eq, *]) <;> exact rfl)); simp only [addFl]) | ((with_reducible first | refine does_seq ?_ | refine does_ops ?_ | refine does_draw ?_ | refine does_skip ?_ | refine does_block ?_ | refine does_ret ?_ | refine does_exit ?_ | refine ops_nil ?_ | (apply does_true; (focus (simp [val_tmA_cons, *]; done))) | (with_reducible apply does_false; (focus (simp [val_tmA_cons, *]; done)))); try simp only [Ops])))
            have hq := HQ.out
            refine ⟨q - 1, by omega, i + 1, ?_⟩
            apply Exists.intro
            refine ⟨by omega, ?_⟩
            simp only [gcC_calm hC]
            exact st_eq (by simp [keepT_tmA, lk_cons, *]) rfl rfl (by simp)
    · obtain rfl : i = 4 := by omega
      have HU := hideP u3
      have hd := fun L => more_d C hC call h2 a b k l m r bs ls b1 b2 b3 (G ++ .cells (fourC a b k l m bs ps) :: K) L p20 p21 p22 (get_app g0) (get_app g20) (get_app g21) (get_app g22)
      simp only [af11, dropS] at hd
      clear hi hq u3 e0 e2 e3 e4 e5 e24 e26 g2 g3 g4 g5 g24 g26 n2 n3 n4 n5 n24 n26
      repeat (first | (with_reducible apply hd) | (with_reducible apply ops_cons; (focus ((conv => lhs; simp [ev1, wantG, spineK, spine, float, xnew, xval, xeff, val_tmA_cons, val_tmA_nil, val_val, putT_some, putT_none, addFl, cellsOf, pickC, alive, slLen, slFt, binI, maxA, maxK, minA, minK, aeqK, aeqS, AV.cells, slCells_sl, boatE, spanE, lookE, fillA, setAt, bitsI, nat_nn, AV.plain, apart, Nat.testBit_eq_decide_div_mod_eq, *]) <;> exact rfl)); simp only [addFl]) | ((with_reducible first | refine does_seq ?_ | refine does_ops ?_ | refine does_draw ?_ | refine does_skip ?_ | refine does_block ?_ | refine does_ret ?_ | refine does_exit ?_ | refine ops_nil ?_ | (apply does_true; (focus (simp [val_tmA_cons, *]; done))) | (with_reducible apply does_false; (focus (simp [val_tmA_cons, *]; done)))); try simp only [Then, Ops, OutB, reduceIte]))
      all_goals simp [lk_cons]
end Ev
end Go.Proofs.YtlkhjnpflohfeaaDoor

/- The law CutMore, gone through: the looks turned round, copies, and what is returned of the cut itself. -/
namespace Go.Proofs.YtlkhjnpflohfeaaDoor
open Go
namespace Ev
set_option maxRecDepth 100000
theorem get14 {J K : List AB} {j : Nat} {x : AB} (h : J[j]? = some x) (a b c d e f g i k l m n o p : AB) : (a :: b :: c :: d :: e :: f :: g :: i :: k :: l :: m :: n :: o :: p :: (J ++ K))[14 + j]? = some x := by
  rw [show 14 + j = j + 1 + 1 + 1 + 1 + 1 + 1 + 1 + 1 + 1 + 1 + 1 + 1 + 1 + 1 by omega]
  simp only [List.getElem?_cons_succ]
  rw [List.getElem?_append_left (List.getElem?_eq_some_iff.1 h).1]; exact h
theorem set14 {J K : List AB} {j : Nat} (h : j < J.length) (a b c d e f g i k l m n o p v : AB) : (a :: b :: c :: d :: e :: f :: g :: i :: k :: l :: m :: n :: o :: p :: (J ++ K)).set (14 + j) v = a :: b :: c :: d :: e :: f :: g :: i :: k :: l :: m :: n :: o :: p :: (J.set j v ++ K) := by
  rw [show 14 + j = j + 1 + 1 + 1 + 1 + 1 + 1 + 1 + 1 + 1 + 1 + 1 + 1 + 1 + 1 by omega]
  simp only [List.set_cons_succ]
  rw [List.set_append_left _ _ h]
inductive Sel14 (J : List AB) (sel : List Look) : AV → Prop
  | none : sel = [] → Sel14 J sel .nils
  | at (j : Nat) : J[j]? = some (.cells (lookCs sel)) → Sel14 J sel (.sl (14 + j) 0 sel.length 3)
set_option maxHeartbeats 16000000 in
theorem more_b (C : Cfg) (hC : C.calm = true) (call : CallF) (A : Api) (hA : ApiOk call A) (hN : InCall call) (a b k l m : Int) (r : List (Int × Int)) (bs : List Boat) (ls : List Look) (V : Cut.Valid ⟨(a, b), (k, l), r, m, bs, ls⟩) (w3 : Int) (u3 : 0 ≤ w3 ∧ w3 ≤ 255)
    (dn : Nat) (d1 d2 l1 l2 s e : Int) (hd : A.depth ⟨(a, b), (k, l), r, m, bs, ls⟩ dn = ((d1, d2), e)) (hl : A.leak ⟨(a, b), (k, l), r, m, bs, ls⟩ = ((l1, l2), e)) (hs : A.together ⟨(a, b), (k, l), r, m, bs, ls⟩ dn = (s, e))
    (ex : Look) (ls' : List Look) (r' : List (Int × Int)) (hls : ls'.length = ls.length) (hrr : r'.length = r.length)
    (B1 B6 B7 B8 B9 B12 : AB)
    (hx : A.valid ⟨(a, b), (k, l), r, m, bs, ls ++ [ex]⟩ = true → Better A ⟨(a, b), (k, l), r, m, bs, ls⟩ ⟨(a, b), (k, l), r, m, bs, ls ++ [ex]⟩ dn w3 d1 d2 l1 l2 s e ((0 : Nat) = 3))
    (hy : A.valid ⟨(a, b), (k, l), r, m, bs, ls'⟩ = true → Better A ⟨(a, b), (k, l), r, m, bs, ls⟩ ⟨(a, b), (k, l), r, m, bs, ls'⟩ dn w3 d1 d2 l1 l2 s e ((1 : Nat) = 3))
    (hz : A.valid ⟨(a, b), (k, l), r', m, bs, ls⟩ = true → Better A ⟨(a, b), (k, l), r, m, bs, ls⟩ ⟨(a, b), (k, l), r', m, bs, ls⟩ dn w3 d1 d2 l1 l2 s e ((2 : Nat) = 3))
    (ht : A.valid ⟨(a, b), (k, l), r, m, bs, ls.reverse⟩ = true → Better A ⟨(a, b), (k, l), r, m, bs, ls⟩ ⟨(a, b), (k, l), r, m, bs, ls.reverse⟩ dn w3 d1 d2 l1 l2 s e ((3 : Nat) = 3))
    (L : List (Nat × AV))
    (l4 : lk 411 L 4 = .int .u8 w3) (l5 : lk 411 L 5 = .ptr 0 0) (l11 : lk 411 L 11 = .int .i64 ls.length) (l12 : lk 411 L 12 = .int .i64 dn) (l13 : lk 411 L 13 = .ptr 2 0) (l14 : lk 411 L 14 = .ptr 3 0) (l15 : lk 411 L 15 = .ptr 4 0) (l16 : lk 411 L 16 = .ptr 5 0) (tc : List Nat) :
    Does (ev C call 0 none (dropS 9 af11.body) { tm := tmA 411 L, df := [], hp := [.cells [.int .i64 a, .int .i64 b, .int .i64 k, .int .i64 l, .vs 2 (r.map spanE), .int .i64 m, .vs 4 (bs.map boatE), .vs 3 (ls.map lookE)], B1, .cells [.int .i64 a, .int .i64 b, .int .i64 k, .int .i64 l, .vs 2 (r.map spanE), .int .i64 m, .vs 4 (bs.map boatE), .sl 10 0 (ls.length + 1) 3], .cells [.int .i64 a, .int .i64 b, .int .i64 k, .int .i64 l, .vs 2 (r.map spanE), .int .i64 m, .vs 4 (bs.map boatE), .sl 11 0 ls.length 3], .cells [.int .i64 a, .int .i64 b, .int .i64 k, .int .i64 l, .sl 13 0 r.length 2, .int .i64 m, .vs 4 (bs.map boatE), .vs 3 (ls.map lookE)], .cells [.int .i64 a, .int .i64 b, .int .i64 k, .int .i64 l, .vs 2 (r.map spanE), .int .i64 m, .vs 4 (bs.map boatE), .nils], B6, B7, B8, B9, .cells (lookCs (ls ++ [ex])), .cells (lookCs ls'), B12, .cells (spanCs r')], tc := tc }) (Yes 10) := by
  have k5 : ls.length ≤ 5 := V.k5
  have v4 := fun C => (lk_val C 411 L 4).trans l4
  have v5 := fun C => (lk_val C 411 L 5).trans l5
  have c14 := fun H d => hA.depth (cutOf_mk H a b k l m r bs ls) d
  have c16 := fun H => hA.leak (cutOf_mk H a b k l m r bs ls)
  have c26 := fun H d => hA.together (cutOf_mk H a b k l m r bs ls) d
  unfold twoA at c26
  unfold twoS at c14 c16
  have HX := hideP (And.intro hx (And.intro hy (And.intro hz ht)))
  have HV := hideP V
  have HA := hideP hA
  have HN := hideP hN
  have hrl : (⟨(a, b), (k, l), r, m, bs, ls⟩ : CutD) = ⟨(a, b), (k, l), r, m, bs, ls⟩ := rfl
  clear hx hy hz ht V hA hN
  generalize hcd : (⟨(a, b), (k, l), r, m, bs, ls⟩ : CutD) = c at hd hl hs c14 c16 c26
  simp only [af11, dropS]
  clear hrl
  (repeat (first | (with_reducible apply ops_cons; (focus ((conv => lhs; simp [ev1, wantG, spineK, spine, float, xnew, xval, xeff, val_tmA_cons, val_tmA_nil, val_val, putT_some, putT_none, addFl, cellsOf, pickC, alive, slLen, slFt, binI, maxA, maxK, minA, minK, aeqK, aeqS, AV.cells, slCells_sl, boatE, spanE, lookE, fillA, setAt, bitsI, nat_nn, AV.plain, apart, Nat.testBit_eq_decide_div_mod_eq, *]) <;> exact rfl)); simp only [addFl]) | ((with_reducible first | refine does_seq ?_ | refine does_ops ?_ | refine does_draw ?_ | refine does_skip ?_ | refine does_block ?_ | refine does_ret ?_ | refine does_exit ?_ | refine ops_nil ?_ | (apply does_true; (focus (simp [val_tmA_cons, *]; done))) | (with_reducible apply does_false; (focus (simp [val_tmA_cons, *]; done)))); try simp only [Then, Ops])))
  refine does_loop (fun q st => ∃ (i : Nat) (J : List AB) (lv : AV), i + q = ls.length ∧ Sel14 J (ls.reverse.take i) lv ∧ st = { tm := tmA 411 [(150, .int .i64 i), (149, .int .i64 ls.length), (16, .ptr 5 0), (15, .ptr 4 0), (14, .ptr 3 0), (13, .ptr 2 0), (12, .int .i64 dn), (11, .int .i64 ls.length), (5, .ptr 0 0), (4, .int .u8 w3)], df := [], hp := .cells [.int .i64 a, .int .i64 b, .int .i64 k, .int .i64 l, .vs 2 (r.map spanE), .int .i64 m, .vs 4 (bs.map boatE), .vs 3 (ls.map lookE)] :: B1 :: .cells [.int .i64 a, .int .i64 b, .int .i64 k, .int .i64 l, .vs 2 (r.map spanE), .int .i64 m, .vs 4 (bs.map boatE), .sl 10 0 (ls.length + 1) 3] :: .cells [.int .i64 a, .int .i64 b, .int .i64 k, .int .i64 l, .vs 2 (r.map spanE), .int .i64 m, .vs 4 (bs.map boatE), .sl 11 0 ls.length 3] :: .cells [.int .i64 a, .int .i64 b, .int .i64 k, .int .i64 l, .sl 13 0 r.length 2, .int .i64 m, .vs 4 (bs.map boatE), .vs 3 (ls.map lookE)] :: .cells [.int .i64 a, .int .i64 b, .int .i64 k, .int .i64 l, .vs 2 (r.map spanE), .int .i64 m, .vs 4 (bs.map boatE), lv] :: B6 :: B7 :: B8 :: B9 :: .cells (lookCs (ls ++ [ex])) :: .cells (lookCs ls') :: B12 :: .cells (spanCs r') :: J, tc := tc }) ls.length (by unfold fuelL; omega) ?_ ?_
  · refine ⟨0, [], .nils, by omega, .none rfl, ?_⟩
    simp only [gcC_calm hC]
    exact st_eq (by simp [keepT_tmA, lk_cons, *]) rfl rfl (by simp)
  · rintro q st ⟨i, J, lv, hq, hsel, rfl⟩
    clear l4 l5 l11 l12 l13 l14 l15 l16 v4 v5
    by_cases hi : i < ls.length
    · have hw : IntKind.i64.wrap ((i : Int) + 1) = (i : Int) + 1 := wrap_in (by omega) (by omega)
      have hw1 : IntKind.i64.wrap ((ls.length : Int) - 1) = (ls.length : Int) - 1 := wrap_in (by omega) (by omega)
      have hw2 : IntKind.i64.wrap ((ls.length : Int) - 1 - i) = ((ls.length - 1 - i : Nat) : Int) := by
        rw [wrap_in (by omega) (by omega)]; omega
      have hix : ls.length - 1 - i < ls.length := by omega
      have htk : ls.reverse.take (i + 1) = ls.reverse.take i ++ [ls[ls.length - 1 - i]] := by
        rw [List.take_add_one, List.getElem?_eq_getElem (by simpa using hi)]
        simp
      have hsl : (ls.reverse.take i).length = i := by simp; omega
      have hb1 : i + 1 ≤ bound := by unfold bound; omega
      have HQ := hideP (And.intro hq htk)
      generalize hix' : ls.length - 1 - i = x at *
      clear hq htk hix' k5 c14 c16 c26 hcd hd hl hs
      cases hsel with
      | none h0 =>
        rw [h0] at HQ
        clear h0 hsl
        have hb2 : 1 ≤ bound := by decide
        iterate 26 (first | (with_reducible apply ops_cons; (focus ((conv => lhs; simp [ev1, wantG, spineK, spine, float, xnew, xval, xeff, val_tmA_cons, val_tmA_nil, val_val, putT_some, putT_none, addFl, cellsOf, pickC, alive, slLen, slFt, binI, maxA, maxK, minA, minK, aeqK, aeqS, AV.cells, slCells_sl, boatE, spanE, lookE, fillA, setAt, bitsI, nat_nn, AV.plain, apart, Nat.testBit_eq_decide_div_mod_eq, *]) <;> exact rfl)); simp only [addFl]) | ((with_reducible first | refine does_seq ?_ | refine does_ops ?_ | refine does_draw ?_ | refine does_skip ?_ | refine does_block ?_ | refine does_ret ?_ | refine does_exit ?_ | refine ops_nil ?_ | (apply does_true; (focus (simp [val_tmA_cons, *]; done))) | (with_reducible apply does_false; (focus (simp [val_tmA_cons, *]; done)))); try simp only [Then, Ops, OutB]))
        ((with_reducible apply ops_cons); (focus (apply ev1_spine; (focus rfl); (focus rfl); (focus ((conv => lhs; simp [spine, xeff, val_tmA_cons, cellsOf, setAt, AV.plain, AV.cells, slCells_sl, slLen, alive, *]) <;> exact rfl)); (focus rfl); (focus rfl))); simp only [addFl])
        (with_reducible apply ops_cons; (focus ((conv => lhs; simp [ev1, wantG, spineK, spine, float, xnew, xval, xeff, val_tmA_cons, val_tmA_nil, val_val, putT_some, putT_none, addFl, cellsOf, pickC, alive, slLen, slFt, binI, maxA, maxK, minA, minK, aeqK, aeqS, AV.cells, slCells_sl, boatE, spanE, lookE, fillA, setAt, bitsI, nat_nn, AV.plain, apart, Nat.testBit_eq_decide_div_mod_eq, *]) <;> exact rfl)); simp only [addFl])
        ((with_reducible apply ops_cons); (focus (apply ev1_spine; (focus rfl); (focus rfl); (focus ((conv => lhs; simp [spine, xeff, val_tmA_cons, cellsOf, setAt, AV.plain, AV.cells]) <;> exact rfl)); (focus rfl); (focus rfl))); simp only [addFl])
        (repeat (first | (with_reducible apply ops_cons; (focus ((conv => lhs; simp [ev1, wantG, spineK, spine, float, xnew, xval, xeff, val_tmA_cons, val_tmA_nil, val_val, putT_some, putT_none, addFl, cellsOf, pickC, alive, slLen, slFt, binI, maxA, maxK, minA, minK, aeqK, aeqS, AV.cells, slCells_sl, boatE, spanE, lookE, fillA, setAt, bitsI, nat_nn, AV.plain, apart, Nat.testBit_eq_decide_div_mod_eq, *]) <;> exact rfl)); simp only [addFl]) | ((with_reducible first | refine does_seq ?_ | refine does_ops ?_ | refine does_draw ?_ | refine does_skip ?_ | refine does_block ?_ | refine does_ret ?_ | refine does_exit ?_ | refine ops_nil ?_ | (apply does_true; (focus (simp [val_tmA_cons, *]; done))) | (with_reducible apply does_false; (focus (simp [val_tmA_cons, *]; done)))); try simp only [Ops])))
        obtain ⟨hq, htk⟩ := HQ.out
        refine ⟨q - 1, by omega, i + 1, J ++ [.cells (lookCs [ls[x]]), .cells (lookCs [ls[x]])], .sl (14 + (J.length + 1)) 0 1 3, by omega, ?_, ?_⟩
        · rw [htk]
          exact .at (J.length + 1) (by rw [List.getElem?_append_right (by omega)]; simp)
        · simp only [gcC_calm hC]
          rw [show J.length + 1 + 1 + 1 + 1 + 1 + 1 + 1 + 1 + 1 + 1 + 1 + 1 + 1 + 1 + 1 = 14 + (J.length + 1) by omega]
          exact st_eq (by simp [keepT_tmA, lk_cons]) rfl rfl rfl
      | «at» j' hj =>
        generalize ls.reverse.take i = sel at *
        subst hsl
        have hjl' := (List.getElem?_eq_some_iff.1 hj).1
        have g0 := fun a b c d e f g i k l m n o p K => get14 (K := K) hj a b c d e f g i k l m n o p
        have g1 := fun a b c d e f g i k l m n o p => get14 (K := []) hj a b c d e f g i k l m n o p
        simp only [List.append_nil] at g1
        have g2 := fun a b c d e f g i k l m n o p K v => set14 (K := K) hjl' a b c d e f g i k l m n o p v
        have HQ2 := hideP (And.intro hj hjl')
        clear hj hjl'
        generalize 14 + j' = B at *
        iterate 26 (first | (with_reducible apply ops_cons; (focus ((conv => lhs; simp [ev1, wantG, spineK, spine, float, xnew, xval, xeff, val_tmA_cons, val_tmA_nil, val_val, putT_some, putT_none, addFl, cellsOf, pickC, alive, slLen, slFt, binI, maxA, maxK, minA, minK, aeqK, aeqS, AV.cells, slCells_sl, boatE, spanE, lookE, fillA, setAt, bitsI, nat_nn, AV.plain, apart, Nat.testBit_eq_decide_div_mod_eq, *]) <;> exact rfl)); simp only [addFl]) | ((with_reducible first | refine does_seq ?_ | refine does_ops ?_ | refine does_draw ?_ | refine does_skip ?_ | refine does_block ?_ | refine does_ret ?_ | refine does_exit ?_ | refine ops_nil ?_ | (apply does_true; (focus (simp [val_tmA_cons, *]; done))) | (with_reducible apply does_false; (focus (simp [val_tmA_cons, *]; done)))); try simp only [Then, Ops, OutB]))
        ((with_reducible apply ops_cons); (focus (apply ev1_spine; (focus rfl); (focus rfl); (focus ((conv => lhs; simp [spine, xeff, val_tmA_cons, cellsOf, setAt, AV.plain, AV.cells, slCells_sl, slLen, alive, *]) <;> exact rfl)); (focus rfl); (focus rfl))); simp only [addFl])
        (with_reducible apply ops_cons; (focus ((conv => lhs; simp [ev1, wantG, spineK, spine, float, xnew, xval, xeff, val_tmA_cons, val_tmA_nil, val_val, putT_some, putT_none, addFl, cellsOf, pickC, alive, slLen, slFt, binI, maxA, maxK, minA, minK, aeqK, aeqS, AV.cells, slCells_sl, boatE, spanE, lookE, fillA, setAt, bitsI, nat_nn, AV.plain, apart, Nat.testBit_eq_decide_div_mod_eq, *]) <;> exact rfl)); simp only [addFl])
        ((with_reducible apply ops_cons); (focus (apply ev1_spine; (focus rfl); (focus rfl); (focus ((conv => lhs; simp [spine, xeff, val_tmA_cons, cellsOf, setAt, AV.plain, AV.cells]) <;> exact rfl)); (focus rfl); (focus rfl))); simp only [addFl])
        clear g0 g1 g2
        (repeat (first | (with_reducible apply ops_cons; (focus ((conv => lhs; simp [ev1, wantG, spineK, spine, float, xnew, xval, xeff, val_tmA_cons, val_tmA_nil, val_val, putT_some, putT_none, addFl, cellsOf, pickC, alive, slLen, slFt, binI, maxA, maxK, minA, minK, aeqK, aeqS, AV.cells, slCells_sl, boatE, spanE, lookE, fillA, setAt, bitsI, nat_nn, AV.plain, apart, Nat.testBit_eq_decide_div_mod_eq, *]) <;> exact rfl)); simp only [addFl]) | ((with_reducible first | refine does_seq ?_ | refine does_ops ?_ | refine does_draw ?_ | refine does_skip ?_ | refine does_block ?_ | refine does_ret ?_ | refine does_exit ?_ | refine ops_nil ?_ | (apply does_true; (focus (simp [val_tmA_cons, *]; done))) | (with_reducible apply does_false; (focus (simp [val_tmA_cons, *]; done)))); try simp only [Ops])))
        obtain ⟨hq, htk⟩ := HQ.out
        obtain ⟨hj, hjl'⟩ := HQ2.out
        refine ⟨q - 1, by omega, sel.length + 1, J.set j' .dead ++ [.cells (lookCs [ls[x]]), .cells (lookCs (sel ++ [ls[x]]))], .sl (14 + (J.length + 1)) 0 (sel.length + 1) 3, by omega, ?_, ?_⟩
        · rw [htk, show sel.length + 1 = (sel ++ [ls[x]]).length by simp]
          exact .at (J.length + 1) (by rw [List.getElem?_append_right (by simp)]; simp)
        · simp only [gcC_calm hC]
          rw [show J.length + 1 + 1 + 1 + 1 + 1 + 1 + 1 + 1 + 1 + 1 + 1 + 1 + 1 + 1 + 1 = 14 + (J.length + 1) by omega, lookCs_app sel]
          exact st_eq (by simp [keepT_tmA, lk_cons]) rfl rfl rfl
    · obtain rfl : i = ls.length := by omega
      have hlv : lv.plain = true := by cases hsel <;> rfl
      rw [List.take_of_length_le (by simp)] at hsel
      have HS := hideP hsel
      have HC := hideP hcd
      have hb1 : r.length ≤ bound := by have := HV.out.n8; simp only at this; unfold bound; omega
      have hb2 : bs.length ≤ bound := by have := HV.out.b4; simp only at this; unfold bound; omega
      have hb3 : ls.length ≤ bound := by unfold bound; omega
      have hc := fun G hps hvs L p20 p21 p22 p24 p26 => more_c C hC call A HA.out HN.out a b k l m r bs ls HV.out w3 u3 dn d1 d2 l1 l2 s e (fun i => if i = 0 then (.vs 2 (r.map spanE), .sl 10 0 (ls.length + 1) 3) else if i = 1 then (.vs 2 (r.map spanE), .sl 11 0 ls.length 3) else if i = 2 then (.sl 13 0 r.length 2, .vs 3 (ls.map lookE)) else (.vs 2 (r.map spanE), lv)) hps G hvs L p20 p21 p22 p24 p26
      simp only [af11, dropS] at hc
      clear hi hq hsel hcd k5
      simp only [AV.plain] at hlv
      repeat (first | (with_reducible apply hc) | (with_reducible apply ops_cons; (focus ((conv => lhs; simp [ev1, wantG, spineK, spine, float, xnew, xval, xeff, val_tmA_cons, val_tmA_nil, val_val, putT_some, putT_none, addFl, cellsOf, pickC, alive, slLen, slFt, binI, maxA, maxK, minA, minK, aeqK, aeqS, AV.cells, slCells_sl, boatE, spanE, lookE, fillA, setAt, bitsI, nat_nn, AV.plain, apart, Nat.testBit_eq_decide_div_mod_eq, *]) <;> exact rfl)); simp only [addFl]) | ((with_reducible first | refine does_seq ?_ | refine does_ops ?_ | refine does_draw ?_ | refine does_skip ?_ | refine does_block ?_ | refine does_ret ?_ | refine does_exit ?_ | refine ops_nil ?_ | (apply does_true; (focus (simp [val_tmA_cons, *]; done))) | (with_reducible apply does_false; (focus (simp [val_tmA_cons, *]; done)))); try simp only [Then, Ops, OutB, reduceIte]))
      all_goals try (solve | ((conv => lhs; simp [lk_cons]) <;> exact rfl))
      · intro i hi
        have hlv : lv.plain = true := by cases HS.out <;> rfl
        rcases (show i = 0 ∨ i = 1 ∨ i = 2 ∨ i = 3 by omega) with rfl | rfl | rfl | rfl
        · exact ⟨rfl, rfl⟩
        · exact ⟨rfl, rfl⟩
        · exact ⟨rfl, rfl⟩
        · exact ⟨rfl, hlv⟩
      · intro i hi
        obtain ⟨hx, hy, hz, ht⟩ := HX.out
        rcases (show i = 0 ∨ i = 1 ∨ i = 2 ∨ i = 3 by omega) with rfl | rfl | rfl | rfl
        · exact ⟨r, ls ++ [ex], fun K => ⟨spansV_vs _ _, looksV_sl rfl (by simp)⟩, hx⟩
        · exact ⟨r, ls', fun K => ⟨spansV_vs _ _, looksV_sl rfl hls.symm⟩, hy⟩
        · exact ⟨r', ls, fun K => ⟨spansV_sl rfl hrr.symm, looksV_vs _ _⟩, hz⟩
        · refine ⟨r, ls.reverse, fun K => ⟨spansV_vs _ _, ?_⟩, ht⟩
          show looksV _ lv _
          cases HS.out with
          | none h0 => rw [h0]; exact looksV_nil _
          | «at» j hj =>
            have h14 := fun a b c d e f g i k l m n o p K' => get14 (K := K') hj a b c d e f g i k l m n o p
            refine looksV_sl ?_ rfl
            simp only [List.cons_append, List.append_assoc]
            exact h14 _ _ _ _ _ _ _ _ _ _ _ _ _ _ _
      all_goals simp
end Ev
end Go.Proofs.YtlkhjnpflohfeaaDoor

/- The law CutMore, gone through: what it comes to, by what the functions of package cut answer. -/
namespace Go.Proofs.YtlkhjnpflohfeaaDoor
open Go
namespace Ev
set_option maxRecDepth 100000
def narrowL (ls : List Look) (j : Nat) : List Look := match ls[j]? with
  | some x => ls.set j ⟨x.day, (x.depth.1, max x.depth.1 (x.depth.2 - 1))⟩
  | none => ls
def narrowR (r : List (Int × Int)) (j : Nat) (w2 : Int) : List (Int × Int) := match r[j]? with
  | some s => r.set j (if w2 % 2 = 0 then (min s.2 (s.1 + 1), s.2) else (s.1, max s.1 (s.2 - 1)))
  | none => r
theorem narrowL_len (ls : List Look) (j : Nat) : (narrowL ls j).length = ls.length := by
  unfold narrowL; split <;> simp
theorem narrowR_len (r : List (Int × Int)) (j : Nat) (w2 : Int) : (narrowR r j w2).length = r.length := by
  unfold narrowR; split <;> simp
def MoreP (A : Api) (c : CutD) (ex : Look) (w1 w2 w3 : Int) : Prop :=
  ∃ d1 d2 l1 l2 s e : Int, A.depth c (w1 % (c.rain.length + 1)).toNat = ((d1, d2), e) ∧ A.leak c = ((l1, l2), e) ∧ A.together c (w1 % (c.rain.length + 1)).toNat = (s, e) ∧
    (A.valid { c with looks := c.looks ++ [ex] } = true → Better A c { c with looks := c.looks ++ [ex] } (w1 % (c.rain.length + 1)).toNat w3 d1 d2 l1 l2 s e ((0 : Nat) = 3)) ∧
    (A.valid { c with looks := narrowL c.looks (w1 % c.looks.length).toNat } = true → Better A c { c with looks := narrowL c.looks (w1 % c.looks.length).toNat } (w1 % (c.rain.length + 1)).toNat w3 d1 d2 l1 l2 s e ((1 : Nat) = 3)) ∧
    (A.valid { c with rain := narrowR c.rain (w1 % c.rain.length).toNat w2 } = true → Better A c { c with rain := narrowR c.rain (w1 % c.rain.length).toNat w2 } (w1 % (c.rain.length + 1)).toNat w3 d1 d2 l1 l2 s e ((2 : Nat) = 3)) ∧
    (A.valid { c with looks := c.looks.reverse } = true → Better A c { c with looks := c.looks.reverse } (w1 % (c.rain.length + 1)).toNat w3 d1 d2 l1 l2 s e ((3 : Nat) = 3))
theorem lookCs_1 : ∀ (r : List Look) (i : Nat) (h : i < r.length), (lookCs r)[i * 3 + 1]? = some (.int .i64 r[i].depth.1) ∧ (lookCs r)[i * 3 + 1 + 1]? = some (.int .i64 r[i].depth.2)
  | [], i, h => by simp at h
  | s :: l, 0, h => by simp [lookCs]
  | s :: l, i + 1, h => by
    have ih := lookCs_1 l i (by simpa using h)
    rw [show (i + 1) * 3 = i * 3 + 1 + 1 + 1 by omega]
    simpa [lookCs] using ih
theorem lookCs_set2 : ∀ (r : List Look) (i : Nat) (v : Int) (h : i < r.length), (lookCs r).take (i * 3 + 1 + 1) ++ .int .i64 v :: (lookCs r).drop (i * 3 + 1 + 1 + 1) = lookCs (r.set i ⟨r[i].day, (r[i].depth.1, v)⟩)
  | [], i, v, h => by simp at h
  | s :: l, 0, v, h => by simp [lookCs]
  | s :: l, i + 1, v, h => by
    have ih := lookCs_set2 l i v (by simpa using h)
    rw [show (i + 1) * 3 = i * 3 + 1 + 1 + 1 by omega]
    simpa [lookCs] using ih
set_option maxHeartbeats 8000000 in
theorem more_not (C : Cfg) (call : CallF) (A : Api) (hA : ApiOk call A) (a b k l m : Int) (r : List (Int × Int)) (bs : List Boat) (ls : List Look) (ex : Look) (w1 w2 w3 : Int)
    (hf : A.fine ⟨(a, b), (k, l), r, m, bs, ls⟩ = false) :
    Does (ev C call 0 none af11.body { tm := tmA 411 (zipI 0 [.agg [.int .i64 a, .int .i64 b, .int .i64 k, .int .i64 l, .vs 2 (r.map spanE), .int .i64 m, .vs 4 (bs.map boatE), .vs 3 (ls.map lookE)], .agg [.int .i64 ex.day, .int .i64 ex.depth.1, .int .i64 ex.depth.2], .int .u8 w1, .int .u8 w2, .int .u8 w3] []), df := [], hp := [], tc := [] }) (Yes 10) := by
  have h1 := fun H => hA.fine (cutOf_mk H a b k l m r bs ls)
  have h2 := fun H => hA.awake (H := H)
  rw [hf] at h1
  clear hf hA
  unfold af11
  simp only [zipI]
  (repeat (first | (with_reducible apply ops_cons; (focus ((conv => lhs; simp [ev1, wantG, spineK, spine, float, xnew, xval, xeff, val_tmA_cons, val_tmA_nil, val_val, putT_some, putT_none, addFl, cellsOf, pickC, alive, slLen, slFt, binI, maxA, maxK, minA, minK, aeqK, aeqS, AV.cells, boatE, spanE, lookE, fillA, setAt, bitsI, nat_nn, AV.plain, apart, Nat.testBit_eq_decide_div_mod_eq, *]) <;> exact rfl)); simp only [addFl]) | ((with_reducible first | refine does_seq ?_ | refine does_ops ?_ | refine does_draw ?_ | refine does_skip ?_ | refine does_block ?_ | refine does_ret ?_ | refine does_exit ?_ | refine ops_nil ?_ | (apply does_true; (focus (simp [val_tmA_cons, *]; done))) | (with_reducible apply does_false; (focus (simp [val_tmA_cons, *]; done)))); try simp only [Then, Ops])))
  exact ⟨rfl, rfl, by simp only [tmA_getD_cons]; simp⟩
set_option maxHeartbeats 16000000 in
theorem more_main (C : Cfg) (hC : C.calm = true) (call : CallF) (A : Api) (hA : ApiOk call A) (hN : InCall call) (a b k l m : Int) (r : List (Int × Int)) (bs : List Boat) (ls : List Look) (ex : Look) (w1 w2 w3 : Int) (u1 : 0 ≤ w1 ∧ w1 ≤ 255) (u2 : 0 ≤ w2 ∧ w2 ≤ 255) (u3 : 0 ≤ w3 ∧ w3 ≤ 255)
    (hf : A.fine ⟨(a, b), (k, l), r, m, bs, ls⟩ = true) (V : Cut.Valid ⟨(a, b), (k, l), r, m, bs, ls⟩) (hM : MoreP A ⟨(a, b), (k, l), r, m, bs, ls⟩ ex w1 w2 w3) :
    Does (ev C call 0 none af11.body { tm := tmA 411 (zipI 0 [.agg [.int .i64 a, .int .i64 b, .int .i64 k, .int .i64 l, .vs 2 (r.map spanE), .int .i64 m, .vs 4 (bs.map boatE), .vs 3 (ls.map lookE)], .agg [.int .i64 ex.day, .int .i64 ex.depth.1, .int .i64 ex.depth.2], .int .u8 w1, .int .u8 w2, .int .u8 w3] []), df := [], hp := [], tc := [] }) (Yes 10) := by
  have h1 := fun H => hA.fine (cutOf_mk H a b k l m r bs ls)
  rw [hf] at h1
  have n1 : 0 < r.length := V.n1
  have n8 : r.length ≤ 8 := V.n8
  have k5 : ls.length ≤ 5 := V.k5
  obtain ⟨d1, d2, l1, l2, s, e, hd, hl, hs, hx, hy, hz, ht⟩ := hM
  dsimp only at hd hl hs hx hy hz ht
  obtain ⟨dn, hdn⟩ := Int.eq_ofNat_of_zero_le (Int.emod_nonneg w1 (show ((r.length : Int) + 1) ≠ 0 by omega))
  obtain ⟨qn, hqn⟩ := Int.eq_ofNat_of_zero_le (Int.emod_nonneg w1 (show (r.length : Int) ≠ 0 by omega))
  have hql : qn < r.length := by have := Int.emod_lt_of_pos w1 (show (0 : Int) < r.length by omega); omega
  rw [hdn, Int.toNat_natCast] at hd hs hx hy hz ht
  rw [hqn, Int.toNat_natCast] at hz
  have hw1 : IntKind.i64.wrap w1 = w1 := wrap_in (by omega) (by omega)
  have hwr : IntKind.i64.wrap (↑r.length + 1) = ↑r.length + 1 := wrap_in (by omega) (by omega)
  have h0 : ¬ ((r.length : Int) = 0) := by omega
  have h01 : ¬ ((r.length : Int) + 1 = 0) := by omega
  have h00 : ¬ r = [] := by rintro rfl; simp at n1
  have ht1 : w1.tmod (↑r.length + 1) = ↑dn := (Int.tmod_eq_emod_of_nonneg (by omega)).trans hdn
  have ht2 : w1.tmod ↑r.length = ↑qn := (Int.tmod_eq_emod_of_nonneg (by omega)).trans hqn
  have b1 : r.length ≤ bound := by unfold bound; omega
  have b3 : ls.length ≤ bound := by unfold bound; omega
  have b4 : ls.length + 1 ≤ bound := by unfold bound; omega
  have HB := hideP fun B1 B6 B7 B8 B9 B12 => more_b C hC call A hA hN a b k l m r bs ls V w3 u3 dn d1 d2 l1 l2 s e hd hl hs ex (narrowL ls (w1 % ls.length).toNat) (narrowR r qn w2) (narrowL_len _ _) (narrowR_len _ _ _) B1 B6 B7 B8 B9 B12 hx hy hz ht
  have HV := hideP V
  have HU := hideP (And.intro u1 (And.intro u2 u3))
  have HK := hideP (And.intro n1 (And.intro n8 k5))
  clear hd hl hs hx hy hz ht hA hN V hf u1 u2 u3 n1 n8 k5 hdn hqn
  unfold af11
  simp only [zipI]
  (repeat (first | (with_reducible apply ops_cons; (focus ((conv => lhs; simp [ev1, wantG, spineK, spine, float, xnew, xval, xeff, val_tmA_cons, val_tmA_nil, val_val, putT_some, putT_none, addFl, cellsOf, pickC, alive, slLen, slFt, binI, maxA, maxK, minA, minK, aeqK, aeqS, AV.cells, slCells_sl, boatE, spanE, lookE, fillA, setAt, bitsI, nat_nn, AV.plain, apart, Nat.testBit_eq_decide_div_mod_eq, *]) <;> exact rfl)); simp only [addFl]) | ((with_reducible first | refine does_seq ?_ | refine does_ops ?_ | refine does_draw ?_ | refine does_skip ?_ | refine does_block ?_ | refine does_ret ?_ | refine does_exit ?_ | refine ops_nil ?_ | (apply does_true; (focus (simp [val_tmA_cons, *]; done))) | (with_reducible apply does_false; (focus (simp [val_tmA_cons, *]; done)))); try simp only [Then, Ops])))
  by_cases hn : ls = []
  · have hnl : ∀ j, narrowL ls j = ls := fun _ => by subst hn; rfl
    have hlt : ¬ 0 < ls.length := by subst hn; simp
    clear hn
    clear h1 b1 b3 b4 h01 ht1
    have hpar : w2 % 2 = 0 ∨ w2 % 2 = 1 := by omega
    have hsp : (spanCs r).length = r.length * 2 := by simp
    have gq0 : qn * 2 < r.length * 2 := by omega
    have gq1 : qn * 2 + 1 < r.length * 2 := by omega
    have gq2 : qn * 2 + 1 ≤ r.length * 2 := by omega
    have gq3 : qn * 2 + 1 + 1 ≤ r.length * 2 := by omega
    have e0 : ∀ h, (spanCs r)[qn * 2]'h = .int .i64 r[qn].1 := fun h => by
      have := (spanCs_0 r qn hql).1
      rw [List.getElem?_eq_getElem h] at this; exact Option.some.inj this
    have e1 : ∀ h, (spanCs r)[qn * 2 + 1]'h = .int .i64 r[qn].2 := fun h => by
      have := (spanCs_0 r qn hql).2
      rw [List.getElem?_eq_getElem h] at this; exact Option.some.inj this
    have s0 := fun v => spanCs_set0 r qn v hql
    have s1 := fun v => spanCs_set1 r qn v hql
    have hsr : 0 ≤ (Cut.spanAt r qn).1 ∧ (Cut.spanAt r qn).1 ≤ (Cut.spanAt r qn).2 ∧ (Cut.spanAt r qn).2 ≤ 30 := HV.out.rain qn hql
    have esr : Cut.spanAt r qn = r[qn] := by simp [Cut.spanAt, hql]
    rw [esr] at hsr
    have wq0 : IntKind.i64.wrap (r[qn].1 + 1) = r[qn].1 + 1 := wrap_in (by omega) (by omega)
    have wq1 : IntKind.i64.wrap (r[qn].2 - 1) = r[qn].2 - 1 := wrap_in (by omega) (by omega)
    have wu0 : IntKind.u8.wrap 0 = 0 := by decide
    have wu1 : IntKind.u8.wrap 1 = 1 := by decide
    have ht2' : w2.tmod 2 = w2 % 2 := Int.tmod_eq_emod_of_nonneg HU.out.2.1.1
    have hr0 : r[qn]? = some r[qn] := List.getElem?_eq_getElem hql
    have hnr : narrowR r qn w2 = r.set qn (if w2 % 2 = 0 then (min r[qn].2 (r[qn].1 + 1), r[qn].2) else (r[qn].1, max r[qn].1 (r[qn].2 - 1))) := by unfold narrowR; rw [hr0]
    have hb := HB.out
    simp only [af11, dropS, lookCs_app, hnr, hnl] at hb
    clear HB hsr esr hr0 hnr
    rcases hpar with hp | hp
    · rw [hp] at ht2' hb
      simp only [reduceIte] at hb
      clear hp
      repeat (first | (with_reducible apply hb) | (with_reducible apply ops_cons; (focus ((conv => lhs; simp [ev1, wantG, spineK, spine, float, xnew, xval, xeff, val_tmA_cons, val_tmA_nil, val_val, putT_some, putT_none, addFl, cellsOf, pickC, alive, slLen, slFt, binI, maxA, maxK, minA, minK, aeqK, aeqS, AV.cells, slCells_sl, boatE, spanE, lookE, fillA, setAt, bitsI, nat_nn, AV.plain, apart, Nat.testBit_eq_decide_div_mod_eq, *]) <;> exact rfl)); simp only [addFl]) | ((with_reducible first | refine does_seq ?_ | refine does_ops ?_ | refine does_draw ?_ | refine does_skip ?_ | refine does_block ?_ | refine does_ret ?_ | refine does_exit ?_ | refine ops_nil ?_ | (apply does_true; (focus (simp [val_tmA_cons, *]; done))) | (with_reducible apply does_false; (focus (simp [val_tmA_cons, *]; done)))); try simp only [Then, Ops]))
      all_goals simp [lk_cons]
    · rw [hp] at ht2' hb
      simp only [show ¬ ((1 : Int) = 0) by decide, reduceIte] at hb
      clear hp
      repeat (first | (with_reducible apply hb) | (with_reducible apply ops_cons; (focus ((conv => lhs; simp [ev1, wantG, spineK, spine, float, xnew, xval, xeff, val_tmA_cons, val_tmA_nil, val_val, putT_some, putT_none, addFl, cellsOf, pickC, alive, slLen, slFt, binI, maxA, maxK, minA, minK, aeqK, aeqS, AV.cells, slCells_sl, boatE, spanE, lookE, fillA, setAt, bitsI, nat_nn, AV.plain, apart, Nat.testBit_eq_decide_div_mod_eq, *]) <;> exact rfl)); simp only [addFl]) | ((with_reducible first | refine does_seq ?_ | refine does_ops ?_ | refine does_draw ?_ | refine does_skip ?_ | refine does_block ?_ | refine does_ret ?_ | refine does_exit ?_ | refine ops_nil ?_ | (apply does_true; (focus (simp [val_tmA_cons, *]; done))) | (with_reducible apply does_false; (focus (simp [val_tmA_cons, *]; done)))); try simp only [Then, Ops]))
      all_goals simp [lk_cons]
  · have hnp : 0 < ls.length := List.length_pos_iff.2 hn
    have hn0 : ¬ ((ls.length : Int) = 0) := by omega
    obtain ⟨jn, hjn⟩ := Int.eq_ofNat_of_zero_le (Int.emod_nonneg w1 hn0)
    have hjl : jn < ls.length := by have := Int.emod_lt_of_pos w1 (show (0 : Int) < ls.length by omega); omega
    have htj : w1.tmod ↑ls.length = ↑jn := (Int.tmod_eq_emod_of_nonneg HU.out.1.1).trans hjn
    have hls : (lookCs ls).length = ls.length * 3 := by simp
    have gj1 : jn * 3 + 1 < ls.length * 3 := by omega
    have gj2 : jn * 3 + 1 + 1 < ls.length * 3 := by omega
    have gj3 : jn * 3 + 1 + 1 + 1 ≤ ls.length * 3 := by omega
    have f0 : ∀ h, (lookCs ls)[jn * 3 + 1]'h = .int .i64 ls[jn].depth.1 := fun h => by
      have := (lookCs_1 ls jn hjl).1
      rw [List.getElem?_eq_getElem h] at this; exact Option.some.inj this
    have f1 : ∀ h, (lookCs ls)[jn * 3 + 1 + 1]'h = .int .i64 ls[jn].depth.2 := fun h => by
      have := (lookCs_1 ls jn hjl).2
      rw [List.getElem?_eq_getElem h] at this; exact Option.some.inj this
    have t2 := fun v => lookCs_set2 ls jn v hjl
    have hlk := HV.out.look jn hjl
    have elk : Cut.lookAt ls jn = ls[jn] := by simp [Cut.lookAt, hjl]
    rw [show (⟨(a, b), (k, l), r, m, bs, ls⟩ : CutD).looks = ls from rfl, elk] at hlk
    have wj : IntKind.i64.wrap (ls[jn].depth.2 - 1) = ls[jn].depth.2 - 1 := wrap_in (by omega) (by omega)
    have hl0 : ls[jn]? = some ls[jn] := List.getElem?_eq_getElem hjl
    have hnl : narrowL ls (w1 % ls.length).toNat = ls.set jn ⟨ls[jn].day, (ls[jn].depth.1, max ls[jn].depth.1 (ls[jn].depth.2 - 1))⟩ := by
      rw [hjn, Int.toNat_natCast]; unfold narrowL; rw [hl0]
    clear h1 b1 b3 b4 h01 ht1 hlk elk hl0 hjn
    have hpar : w2 % 2 = 0 ∨ w2 % 2 = 1 := by omega
    have hsp : (spanCs r).length = r.length * 2 := by simp
    have gq0 : qn * 2 < r.length * 2 := by omega
    have gq1 : qn * 2 + 1 < r.length * 2 := by omega
    have gq2 : qn * 2 + 1 ≤ r.length * 2 := by omega
    have gq3 : qn * 2 + 1 + 1 ≤ r.length * 2 := by omega
    have e0 : ∀ h, (spanCs r)[qn * 2]'h = .int .i64 r[qn].1 := fun h => by
      have := (spanCs_0 r qn hql).1
      rw [List.getElem?_eq_getElem h] at this; exact Option.some.inj this
    have e1 : ∀ h, (spanCs r)[qn * 2 + 1]'h = .int .i64 r[qn].2 := fun h => by
      have := (spanCs_0 r qn hql).2
      rw [List.getElem?_eq_getElem h] at this; exact Option.some.inj this
    have s0 := fun v => spanCs_set0 r qn v hql
    have s1 := fun v => spanCs_set1 r qn v hql
    have hsr : 0 ≤ (Cut.spanAt r qn).1 ∧ (Cut.spanAt r qn).1 ≤ (Cut.spanAt r qn).2 ∧ (Cut.spanAt r qn).2 ≤ 30 := HV.out.rain qn hql
    have esr : Cut.spanAt r qn = r[qn] := by simp [Cut.spanAt, hql]
    rw [esr] at hsr
    have wq0 : IntKind.i64.wrap (r[qn].1 + 1) = r[qn].1 + 1 := wrap_in (by omega) (by omega)
    have wq1 : IntKind.i64.wrap (r[qn].2 - 1) = r[qn].2 - 1 := wrap_in (by omega) (by omega)
    have wu0 : IntKind.u8.wrap 0 = 0 := by decide
    have wu1 : IntKind.u8.wrap 1 = 1 := by decide
    have ht2' : w2.tmod 2 = w2 % 2 := Int.tmod_eq_emod_of_nonneg HU.out.2.1.1
    have hr0 : r[qn]? = some r[qn] := List.getElem?_eq_getElem hql
    have hnr : narrowR r qn w2 = r.set qn (if w2 % 2 = 0 then (min r[qn].2 (r[qn].1 + 1), r[qn].2) else (r[qn].1, max r[qn].1 (r[qn].2 - 1))) := by unfold narrowR; rw [hr0]
    have hb := HB.out
    simp only [af11, dropS, lookCs_app, hnr, hnl] at hb
    clear HB hsr esr hr0 hnr
    rcases hpar with hp | hp
    · rw [hp] at ht2' hb
      simp only [reduceIte] at hb
      clear hp
      repeat (first | (with_reducible apply hb) | (with_reducible apply ops_cons; (focus ((conv => lhs; simp [ev1, wantG, spineK, spine, float, xnew, xval, xeff, val_tmA_cons, val_tmA_nil, val_val, putT_some, putT_none, addFl, cellsOf, pickC, alive, slLen, slFt, binI, maxA, maxK, minA, minK, aeqK, aeqS, AV.cells, slCells_sl, boatE, spanE, lookE, fillA, setAt, bitsI, nat_nn, AV.plain, apart, Nat.testBit_eq_decide_div_mod_eq, *]) <;> exact rfl)); simp only [addFl]) | ((with_reducible first | refine does_seq ?_ | refine does_ops ?_ | refine does_draw ?_ | refine does_skip ?_ | refine does_block ?_ | refine does_ret ?_ | refine does_exit ?_ | refine ops_nil ?_ | (apply does_true; (focus (simp [val_tmA_cons, *]; done))) | (with_reducible apply does_false; (focus (simp [val_tmA_cons, *]; done)))); try simp only [Then, Ops]))
      all_goals simp [lk_cons]
    · rw [hp] at ht2' hb
      simp only [show ¬ ((1 : Int) = 0) by decide, reduceIte] at hb
      clear hp
      repeat (first | (with_reducible apply hb) | (with_reducible apply ops_cons; (focus ((conv => lhs; simp [ev1, wantG, spineK, spine, float, xnew, xval, xeff, val_tmA_cons, val_tmA_nil, val_val, putT_some, putT_none, addFl, cellsOf, pickC, alive, slLen, slFt, binI, maxA, maxK, minA, minK, aeqK, aeqS, AV.cells, slCells_sl, boatE, spanE, lookE, fillA, setAt, bitsI, nat_nn, AV.plain, apart, Nat.testBit_eq_decide_div_mod_eq, *]) <;> exact rfl)); simp only [addFl]) | ((with_reducible first | refine does_seq ?_ | refine does_ops ?_ | refine does_draw ?_ | refine does_skip ?_ | refine does_block ?_ | refine does_ret ?_ | refine does_exit ?_ | refine ops_nil ?_ | (apply does_true; (focus (simp [val_tmA_cons, *]; done))) | (with_reducible apply does_false; (focus (simp [val_tmA_cons, *]; done)))); try simp only [Then, Ops]))
      all_goals simp [lk_cons]
end Ev
end Go.Proofs.YtlkhjnpflohfeaaDoor

/- Plain law of CutMore. -/
namespace Go.Proofs.YtlkhjnpflohfeaaDoor
open Go
open Ev
theorem days_lt (c : CutD) (V : Cut.Valid c) (b : Nat) (n : Int) : Cut.daysAll c b n < 1048576 ∧ Cut.daysSome c b n < 1048576 := by
  have h : 2 ^ (c.rain.length + 1) ≤ 2 ^ 20 := Nat.pow_le_pow_right (by decide) (by have := V.n8; omega)
  have h1 := Cut.setTo_lt (fun d => Cut.floatsOn c b n d == 2) (c.rain.length + 1)
  have h2 := Cut.setTo_lt (fun d => Cut.floatsOn c b n d != 0) (c.rain.length + 1)
  unfold Cut.daysAll Cut.daysSome
  omega
theorem days_told {c : CutD} (V : Cut.Valid c) {i : Nat} (hi : i < c.boats.length) {n : Int} (h0 : 0 ≤ n) (h1 : n ≤ c.boats[i].room) :
    ∃ D S : Nat, daysR c i n = (((D : Int), (S : Int)), toldErr c true) ∧ D < 1048576 ∧ S < 1048576 ∧ (toldErr c true = 0 → D = Cut.daysAll c i n ∧ S = Cut.daysSome c i n) := by
  have hl : Cut.isLoads c i n = true := isLoads_nat hi h0 (by rw [boatAt_get hi]; exact h1)
  have hb := days_lt c V i n
  unfold daysR
  rw [hl, Int.toNat_natCast]
  by_cases ht : toldErr c true = 0
  · rw [if_pos ht, ht]
    exact ⟨_, _, rfl, hb.1, hb.2, fun _ => ⟨rfl, rfl⟩⟩
  · rw [if_neg ht]
    exact ⟨0, 0, rfl, by omega, by omega, fun h => absurd h ht⟩
theorem toldC_or {c : CutD} (V : Cut.Valid c) : (toldErr c true = 0 ∧ Cut.can c (Cut.every c) = true) ∨ (toldErr c true = 10 ∧ Cut.can c (Cut.every c) = false) := by
  have hv := Cut.of_valid V
  cases h : Cut.can c (Cut.every c) with
  | true => exact .inl ⟨toldErr_ok hv h, rfl⟩
  | false => exact .inr ⟨toldErr_clash hv h, rfl⟩
theorem told_all {c : CutD} {d : Nat} (hd : d ≤ c.rain.length) : ∃ d1 d2 l1 l2 s : Int, depthR c d = ((d1, d2), toldErr c true) ∧ leakR c = ((l1, l2), toldErr c true) ∧ togetherR c d = (s, toldErr c true) ∧
    (toldErr c true = 0 → (d1, d2) = Cut.water c d ∧ (l1, l2) = Cut.leakSpan c ∧ s = Cut.togetherOn c d) ∧ (toldErr c true ≠ 0 → d1 = 0 ∧ d2 = 0 ∧ l1 = 0 ∧ l2 = 0 ∧ s = 0) := by
  unfold depthR leakR togetherR
  rw [isDay_nat hd, Int.toNat_natCast]
  by_cases ht : toldErr c true = 0
  · simp only [if_pos ht]
    rw [ht]
    exact ⟨_, _, _, _, _, rfl, rfl, rfl, fun _ => ⟨rfl, rfl, rfl⟩, fun h => absurd rfl h⟩
  · simp only [if_neg ht]
    exact ⟨0, 0, 0, 0, 0, rfl, rfl, rfl, fun h => absurd h ht, fun _ => ⟨rfl, rfl, rfl, rfl, rfl⟩⟩
theorem better_of {c v : CutD} (V : Cut.Valid c) (VV : Cut.Valid v) (hr : v.rain.length = c.rain.length) (hb : v.boats = c.boats)
    (hsub : ∀ leak t, Cut.inS v.leak leak → Cut.Truth v leak (Cut.every v) t → Cut.inS c.leak leak ∧ Cut.Truth c leak (Cut.every c) t) {same : Prop}
    (hsame : same → ∀ leak t, Cut.inS c.leak leak → Cut.Truth c leak (Cut.every c) t → Cut.inS v.leak leak ∧ Cut.Truth v leak (Cut.every v) t)
    {dn : Nat} (hd : dn ≤ c.rain.length) {w3 d1 d2 l1 l2 s : Int} (_h1 : depthR c dn = ((d1, d2), toldErr c true)) (_h2 : leakR c = ((l1, l2), toldErr c true)) (_h3 : togetherR c dn = (s, toldErr c true))
    (h4 : toldErr c true = 0 → (d1, d2) = Cut.water c dn ∧ (l1, l2) = Cut.leakSpan c ∧ s = Cut.togetherOn c dn) (h5 : toldErr c true ≠ 0 → d1 = 0 ∧ d2 = 0 ∧ l1 = 0 ∧ l2 = 0 ∧ s = 0) : Better specApi c v dn w3 d1 d2 l1 l2 s (toldErr c true) same := by
  obtain ⟨D1, D2, L1, L2, S, k1, k2, k3, k4, k5⟩ := told_all (c := v) (d := dn) (by omega)
  have hsubs : toldErr v true = 0 → Cut.Sub c v := fun h => by
    rcases toldC_or VV with ⟨_, hc⟩ | ⟨h', _⟩
    · exact Cut.sub_of V VV hr hb hc hsub
    · omega
  have hc0 : toldErr v true = 0 → toldErr c true = 0 := fun h => toldErr_ok (Cut.of_valid V) (hsubs h).can
  refine ⟨D1, D2, L1, L2, S, toldErr v true, k1, k2, k3, ?_, ?_, ?_, ?_⟩
  · rcases toldC_or VV with h | h
    · exact .inl h.1
    · exact .inr h.1
  · intro h
    obtain ⟨a1, a2, a3⟩ := k4 h
    obtain ⟨b1, b2, b3⟩ := h4 (hc0 h)
    have hs := hsubs h
    have w1 := hs.water dn hd
    have w2 := hs.leak
    have w3 := hs.sum dn hd
    rw [← a1, ← b1] at w1
    rw [← a2, ← b2] at w2
    rw [← a3, ← b3] at w3
    exact ⟨hc0 h, w1.1, w1.2.1, w2.1, w2.2, w3⟩
  · intro hsm
    by_cases h : toldErr v true = 0
    · obtain ⟨a1, a2, a3⟩ := k4 h
      obtain ⟨b1, b2, b3⟩ := h4 (hc0 h)
      have hs := hsubs h
      have hs' : Cut.Sub v c := Cut.sub_of VV V hr.symm hb.symm hs.can (hsame hsm)
      obtain ⟨e1, e2⟩ := Cut.sub_same hs hs' hr
      obtain ⟨e3, e4⟩ := e1 dn hd
      rw [← a1, ← b1] at e3
      rw [← a2, ← b2] at e2
      rw [← a3, ← b3] at e4
      have := Prod.mk.inj e3
      have := Prod.mk.inj e2
      exact ⟨by omega, by omega, by omega, by omega, by omega, by rw [h, hc0 h]⟩
    · have hne : toldErr c true ≠ 0 := by
        intro h'
        rcases toldC_or V with ⟨_, hc⟩ | ⟨h'', _⟩
        · have hs' : Cut.Sub v c := Cut.sub_of VV V hr.symm hb.symm hc (hsame hsm)
          exact h (toldErr_ok (Cut.of_valid VV) hs'.can)
        · omega
      have a := k5 h
      have b := h5 hne
      refine ⟨by omega, by omega, by omega, by omega, by omega, ?_⟩
      rcases toldC_or V with h' | h' <;> rcases toldC_or VV with h'' | h'' <;> omega
  · intro i hi
    have hrm := V.boat i hi
    rw [boatAt_get hi] at hrm
    have m0 := Int.emod_nonneg w3 (show c.boats[i].room + 1 ≠ 0 by omega)
    have m1 := Int.emod_lt_of_pos w3 (show 0 < c.boats[i].room + 1 by omega)
    obtain ⟨D, S', q1, q2, q3, q4⟩ := days_told V hi m0 (by omega)
    have hi' : i < v.boats.length := by rw [hb]; exact hi
    obtain ⟨D', S'', p1, p2, p3, p4⟩ := days_told VV (i := i) hi' (n := w3 % (c.boats[i].room + 1)) m0 (by simp only [hb]; omega)
    refine ⟨D, S', D', S'', q1, p1, ⟨q2, q3, p2, p3⟩, fun h => ?_⟩
    obtain ⟨a1, a2⟩ := q4 (hc0 h)
    obtain ⟨b1, b2⟩ := p4 h
    have hs := hsubs h
    rw [a1, a2, b1, b2]
    exact ⟨hs.all i _ hi, hs.some i _ hi⟩
/-! The four cuts. -/
theorem narrowL_mem {ls : List Look} {j : Nat} (hv : ∀ i, i < ls.length → (Cut.lookAt ls i).depth.1 ≤ (Cut.lookAt ls i).depth.2) : ∀ x ∈ ls, ∃ y ∈ narrowL ls j, y.day = x.day ∧ x.depth.1 ≤ y.depth.1 ∧ y.depth.2 ≤ x.depth.2 := by
  intro x hx
  unfold narrowL
  cases h : ls[j]? with
  | none => exact ⟨x, hx, rfl, Int.le_refl _, Int.le_refl _⟩
  | some y =>
    obtain ⟨hj, hy⟩ := List.getElem?_eq_some_iff.1 h
    obtain ⟨i, hi, hix⟩ := List.getElem_of_mem hx
    by_cases hij : i = j
    · subst hij
      rw [hy] at hix
      subst hix
      have := hv i hi
      rw [show Cut.lookAt ls i = y by simp [Cut.lookAt, hi, hy]] at this
      refine ⟨_, List.mem_iff_getElem.2 ⟨i, by simpa using hi, List.getElem_set_self _⟩, rfl, Int.le_refl _, ?_⟩
      simp only; omega
    · refine ⟨x, List.mem_iff_getElem.2 ⟨i, by simpa using hi, ?_⟩, rfl, Int.le_refl _, Int.le_refl _⟩
      rw [List.getElem_set_ne (by omega)]; exact hix
theorem narrowR_in {r : List (Int × Int)} {j : Nat} {w2 : Int} (hv : ∀ i, i < r.length → (Cut.spanAt r i).1 ≤ (Cut.spanAt r i).2) : ∀ i, i < r.length → (Cut.spanAt r i).1 ≤ (Cut.spanAt (narrowR r j w2) i).1 ∧ (Cut.spanAt (narrowR r j w2) i).2 ≤ (Cut.spanAt r i).2 := by
  intro i hi
  have h0 := hv i hi
  unfold narrowR
  cases h : r[j]? with
  | none => exact ⟨Int.le_refl _, Int.le_refl _⟩
  | some y =>
    obtain ⟨hj, hy⟩ := List.getElem?_eq_some_iff.1 h
    have e1 : Cut.spanAt r i = r[i] := by simp [Cut.spanAt, hi]
    rw [e1] at h0 ⊢
    by_cases hij : i = j
    · subst hij
      have e2 : ∀ x, Cut.spanAt (r.set i x) i = x := fun x => by simp [Cut.spanAt, hi]
      simp only [e2]
      rw [hy] at h0 ⊢
      split <;> constructor <;> simp only <;> omega
    · have e2 : ∀ x, Cut.spanAt (r.set j x) i = r[i] := fun x => by unfold Cut.spanAt; rw [List.getD_eq_getElem?_getD, List.getElem?_set_ne (show j ≠ i by omega)]; simp [hi]
      simp only [e2]
      exact ⟨Int.le_refl _, Int.le_refl _⟩
theorem more_plain {c : CutD} (V : Cut.Valid c) (ex : Look) (w1 w2 w3 : Int) : MoreP specApi c ex w1 w2 w3 := by
  have hdn : (w1 % (c.rain.length + 1)).toNat ≤ c.rain.length := by
    have h1 := Int.emod_nonneg w1 (show ((c.rain.length : Int) + 1) ≠ 0 by omega)
    have h2 := Int.emod_lt_of_pos w1 (show (0 : Int) < (c.rain.length : Int) + 1 by omega)
    omega
  obtain ⟨d1, d2, l1, l2, s, h1, h2, h3, h4, h5⟩ := told_all (c := c) hdn
  have hlook : ∀ i, i < c.looks.length → (Cut.lookAt c.looks i).depth.1 ≤ (Cut.lookAt c.looks i).depth.2 := fun i hi => (V.look i hi).2.2.2.1
  have hrain : ∀ i, i < c.rain.length → (Cut.spanAt c.rain i).1 ≤ (Cut.spanAt c.rain i).2 := fun i hi => (V.rain i hi).2.1
  refine ⟨d1, d2, l1, l2, s, toldErr c true, h1, h2, h3, fun hv => ?_, fun hv => ?_, fun hv => ?_, fun hv => ?_⟩
  · exact better_of V (Cut.valid_of hv) rfl rfl (fun leak t a b => ⟨a, Cut.truth_more (x := c) (y := { c with looks := c.looks ++ [ex] }) rfl rfl rfl (fun x hx => ⟨x, List.mem_append_left _ hx, rfl, Int.le_refl _, Int.le_refl _⟩) b⟩) (fun h => absurd h (by decide)) hdn h1 h2 h3 h4 h5
  · exact better_of V (Cut.valid_of hv) rfl rfl (fun leak t a b => ⟨a, Cut.truth_more (x := c) (y := { c with looks := narrowL c.looks (w1 % c.looks.length).toNat }) rfl rfl rfl (narrowL_mem hlook) b⟩) (fun h => absurd h (by decide)) hdn h1 h2 h3 h4 h5
  · exact better_of V (Cut.valid_of hv) (narrowR_len _ _ _) rfl (fun leak t a b => ⟨a, Cut.truth_rain (x := c) (y := { c with rain := narrowR c.rain (w1 % c.rain.length).toNat w2 }) rfl rfl (narrowR_len _ _ _) (narrowR_in hrain) rfl b⟩) (fun h => absurd h (by decide)) hdn h1 h2 h3 h4 h5
  · exact better_of V (Cut.valid_of hv) rfl rfl (fun leak t a b => ⟨a, Cut.truth_more (x := c) (y := { c with looks := c.looks.reverse }) rfl rfl rfl (fun x hx => ⟨x, List.mem_reverse.2 hx, rfl, Int.le_refl _, Int.le_refl _⟩) b⟩)
      (fun _ leak t a b => ⟨a, Cut.truth_more (x := { c with looks := c.looks.reverse }) (y := c) rfl rfl rfl (fun x hx => ⟨x, List.mem_reverse.1 hx, rfl, Int.le_refl _, Int.le_refl _⟩) b⟩) hdn h1 h2 h3 h4 h5
end Go.Proofs.YtlkhjnpflohfeaaDoor
