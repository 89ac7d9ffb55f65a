/- The Go function CutTrue returns true, for every argument, in every world in which cut.dry holds what the program's text lays; nothing that was there is turned. -/
import Derived.Test.YtlkhjnpflohfeaaDoorCoreD
import Derived.Test.YtlkhjnpflohfeaaDoorCoreF
import Derived.Test.YtlkhjnpflohfeaaDoorCoreC
import Derived.Test.YtlkhjnpflohfeaaDoorCoreL
import Derived.Deep.Slices
import Derived.Deep.Fields
import Derived.ChangeSame
import Derived.Test.YtlkhjnpflohfeaaDoorRows
import Derived.LaidLaws
import Derived.ProofKit
import Derived.JoinedOf
import Derived.LaidHandle
import Derived.Stop.Joined
import Derived.OpenShut
import Derived.Test.YtlkhjnpflohfeaaDoorCards
import Derived.Test.YtlkhjnpflohfeaaDoorTie
import Derived.SevenTiedAt
/- Cuts with other lists. -/
namespace Go.Proofs.YtlkhjnpflohfeaaDoor
open Go
namespace Ev
/-- A list of looks as a value. -/
def looksV (H : List AB) (v : AV) (ls : List Look) : Prop := (slCells 3 H v).bind looksC = some ls
def spansV (H : List AB) (v : AV) (r : List (Int × Int)) : Prop := (slCells 2 H v).bind spansC = some r
theorem cutOf_of {H : List AB} {rv lv : AV} {a b k l m : Int} {r : List (Int × Int)} {bs : List Boat} {ls : List Look} (hr : spansV H rv r) (hl : looksV H lv ls) :
    cutOf H (.agg [.int .i64 a, .int .i64 b, .int .i64 k, .int .i64 l, rv, .int .i64 m, .vs 4 (bs.map boatE), lv]) = some ⟨(a, b), (k, l), r, m, bs, ls⟩ := by
  unfold spansV at hr
  unfold looksV at hl
  have hb : (slCells 4 H (.vs 4 (bs.map boatE))).bind boatsC = some bs := by simp [slCells]
  simp only [cutOf, hr, hl, hb]
theorem spansV_vs (H : List AB) (r : List (Int × Int)) : spansV H (.vs 2 (r.map spanE)) r := by simp [spansV, slCells]
theorem looksV_nil (H : List AB) : looksV H .nils [] := by simp [looksV, slCells, looksC]
theorem looksV_sl {H : List AB} {b n : Nat} {r : List Look} (h : H[b]? = some (.cells (lookCs r))) (hn : n = r.length) : looksV H (.sl b 0 n 3) r := by
  subst hn
  simp only [looksV, slCells, h, if_true, Nat.zero_add, lookCs_len, Nat.le_refl, List.drop_zero]
  rw [List.take_of_length_le (by simp)]
  simp
@[simp] theorem slCells_spans (H : List AB) (r : List (Int × Int)) : slCells 2 H (.vs 2 (r.map spanE)) = some (spanCs r) := by simp [slCells]
@[simp] theorem slCells_looks (H : List AB) (r : List Look) : slCells 3 H (.vs 3 (r.map lookE)) = some (lookCs r) := by simp [slCells]
@[simp] theorem slCells_boats (H : List AB) (r : List Boat) : slCells 4 H (.vs 4 (r.map boatE)) = some (boatCs r) := by simp [slCells]
theorem slCells_sl (k : Nat) (H : List AB) (b off n k' : Nat) : slCells k H (.sl b off n k') = if k = k' then (match H[b]? with | some (.cells cs) => if off + n * k ≤ cs.length then some ((cs.drop off).take (n * k)) else none | _ => none) else none := rfl
@[simp] theorem spanCs_plain : ∀ r, (spanCs r).all AV.plain = true
  | [] => rfl
  | s :: l => by simp only [spanCs, List.all_cons, spanCs_plain l]; rfl
@[simp] theorem boatCs_plain : ∀ r, (boatCs r).all AV.plain = true
  | [] => rfl
  | s :: l => by simp only [boatCs, List.all_cons, boatCs_plain l]; rfl
@[simp] theorem lookCs_plain : ∀ r, (lookCs r).all AV.plain = true
  | [] => rfl
  | s :: l => by simp only [lookCs, List.all_cons, lookCs_plain l]; rfl
/-! Cells of spans. -/
/-! Blocks behind others. -/
@[simp] theorem app_get0 {α : Type} (j l : List α) : (j ++ l)[j.length]? = l[0]? := by rw [List.getElem?_append_right (Nat.le_refl _), Nat.sub_self]
@[simp] theorem app_get {α : Type} (j l : List α) (k : Nat) : (j ++ l)[j.length + k]? = l[k]? := by simp [List.getElem?_append_right]
@[simp] theorem app_set0 {α : Type} (j l : List α) (v : α) : (j ++ l).set j.length v = j ++ l.set 0 v := by simp
@[simp] theorem app_set {α : Type} (j l : List α) (k : Nat) (v : α) : (j ++ l).set (j.length + k) v = j ++ l.set k v := by simp
theorem st_eq {st : St} {tm : List AV} {df : List ADef} {hp : List AB} {tc : List Nat} (h1 : st.tm = tm) (h2 : st.df = df) (h3 : st.hp = hp) (h4 : st.tc = tc) : st = ⟨tm, df, hp, tc⟩ := by
  subst h1 h2 h3 h4; rfl
theorem andnot_zero {a m : Nat} (_ha : a < 1048576) (_hm : m < 1048576) (h : ∀ j, a.testBit j = true → m.testBit j = true) :
    IntKind.i64.wrap ((BitVec.ofInt IntKind.i64.bits (a : Int) &&& ~~~ BitVec.ofInt IntKind.i64.bits (m : Int)).toNat) = 0 := by
  have hb : IntKind.i64.bits = 64 := rfl
  rw [hb]
  have e : (BitVec.ofInt 64 (a : Int) &&& ~~~ BitVec.ofInt 64 (m : Int)) = 0#64 := by
    apply BitVec.eq_of_getLsbD_eq
    intro i hi
    have e1 : BitVec.ofInt 64 (a : Int) = BitVec.ofNat 64 a := by simp
    have e2 : BitVec.ofInt 64 (m : Int) = BitVec.ofNat 64 m := by simp
    rw [e1, e2]
    simp only [BitVec.getLsbD_and, BitVec.getLsbD_not, BitVec.getLsbD_ofNat, hi, decide_true, Bool.true_and]
    cases h1 : a.testBit i with
    | false => simp
    | true => rw [h i h1]; simp
  rw [e]
  rfl
end Ev
end Go.Proofs.YtlkhjnpflohfeaaDoor

/- What CutFloats comes to. -/
namespace Go.Proofs.YtlkhjnpflohfeaaDoor
open Go
namespace Ev
/-- How a boat floats, by a depth. -/
def wantF (w : Int × Int) (b : Boat) (n : Nat) : Int := if b.draws.2 + b.per * n ≤ w.1 then 2 else if w.2 < b.draws.1 + b.per * n then 0 else 1
def lastF (w : Int × Int) (b : Boat) : Nat → Int
  | 0 => 2
  | n + 1 => wantF w b n
/-- The plain law, with some loads. -/
structure FloatsN (A : Api) (c : CutD) (b : Boat) (bi dn n : Nat) : Prop where
  fl : A.floats c bi n dn = (wantF (A.depth c dn).1 b n, 0)
  less : wantF (A.depth c dn).1 b n ≤ lastF (A.depth c dn).1 b n
  sure : wantF (A.depth c dn).1 b n = 2 ↔ (n : Int) ≤ (A.loads c bi dn).1.1
  may : wantF (A.depth c dn).1 b n ≠ 0 ↔ (n : Int) ≤ (A.loads c bi dn).1.2
  days : ∃ D S : Nat, A.days c bi n = (((D : Int), (S : Int)), 0) ∧ D < 1048576 ∧ S < 2 ^ (c.rain.length + 1) ∧ (D.testBit dn = true ↔ wantF (A.depth c dn).1 b n = 2) ∧ (S.testBit dn = true ↔ wantF (A.depth c dn).1 b n ≠ 0)
/-- The plain law. -/
structure Floats (A : Api) (c : CutD) (b : Boat) (bi dn : Nat) : Prop where
  rain : c.rain.length ≤ 8
  day : dn ≤ c.rain.length
  err : (A.loads c bi dn).2 = (A.depth c dn).2
  bad : (A.depth c dn).2 = 0 ∨ (A.depth c dn).2 = 10 ∧ (A.loads c bi dn).1 = (0, 0)
  draw : 0 ≤ b.draws.1 ∧ b.draws.1 ≤ 100 ∧ 0 ≤ b.draws.2 ∧ b.draws.2 ≤ 100 ∧ 0 ≤ b.per ∧ b.per ≤ 10
  room : ∃ rm : Nat, b.room = rm ∧ rm ≤ 10 ∧ ((A.depth c dn).2 = 0 → -1 ≤ (A.loads c bi dn).1.1 ∧ (A.loads c bi dn).1.1 ≤ (A.loads c bi dn).1.2 ∧ (A.loads c bi dn).1.2 ≤ rm ∧ ∀ n : Nat, n ≤ rm → FloatsN A c b bi dn n)
end Ev
end Go.Proofs.YtlkhjnpflohfeaaDoor

/- The plain law of CutFloats. -/
namespace Go.Proofs.YtlkhjnpflohfeaaDoor
open Go
namespace Cut
end Cut
end Go.Proofs.YtlkhjnpflohfeaaDoor

/- What CutRain comes to. -/
namespace Go.Proofs.YtlkhjnpflohfeaaDoor
open Go
namespace Ev
/-- The truth in which least is there, and that in which most is. -/
def lowN (x : CutD) : Nat → Int
  | 0 => x.depth.1
  | d + 1 => max 0 (min x.most (lowN x d + (Cut.spanAt x.rain d).1 - x.leak.2))
def highN (x : CutD) : Nat → Int
  | 0 => x.depth.2
  | d + 1 => max 0 (min x.most (highN x d + (Cut.spanAt x.rain d).2 - x.leak.1))
def bare (c : CutD) : CutD := { c with looks := [] }
def wetter (c : CutD) (wi : Nat) (mr : Int) : CutD := { c with looks := [], rain := c.rain.set wi (min 30 ((Cut.spanAt c.rain wi).1 + mr), min 30 ((Cut.spanAt c.rain wi).2 + mr)) }
/-- The plain law. -/
structure Rain (A : Api) (c : CutD) (wi : Nat) (mr w : Int) : Prop where
  len : c.rain.length ≤ 8
  rain : ∀ i, i < c.rain.length → 0 ≤ (Cut.spanAt c.rain i).1 ∧ (Cut.spanAt c.rain i).1 ≤ 30 ∧ 0 ≤ (Cut.spanAt c.rain i).2 ∧ (Cut.spanAt c.rain i).2 ≤ 30
  leak : 0 ≤ c.leak.1 ∧ c.leak.1 ≤ 10 ∧ 0 ≤ c.leak.2 ∧ c.leak.2 ≤ 10
  most : 0 ≤ c.most ∧ c.most ≤ 100
  depth : 0 ≤ c.depth.1 ∧ c.depth.1 ≤ 100 ∧ 0 ≤ c.depth.2 ∧ c.depth.2 ≤ 100
  boats : c.boats.length ≤ 4
  day : ∀ d : Nat, d ≤ c.rain.length → A.depth (bare c) d = ((lowN c d, highN c d), 0) ∧ (A.depth (wetter c wi mr) d).2 = 0 ∧ lowN c d ≤ (A.depth (wetter c wi mr) d).1.1 ∧ highN c d ≤ (A.depth (wetter c wi mr) d).1.2
  boat : ∀ (i : Nat) (h : i < c.boats.length), 0 ≤ c.boats[i].room ∧ c.boats[i].room ≤ 10 ∧ ∃ a s p q : Nat, A.days (bare c) i (w % (c.boats[i].room + 1)) = (((a : Int), (s : Int)), 0) ∧ A.days (wetter c wi mr) i (w % (c.boats[i].room + 1)) = (((p : Int), (q : Int)), 0) ∧ a < 1048576 ∧ s < 1048576 ∧ p < 1048576 ∧ q < 1048576 ∧ (∀ j, a.testBit j = true → p.testBit j = true) ∧ ∀ j, s.testBit j = true → q.testBit j = true
end Ev
end Go.Proofs.YtlkhjnpflohfeaaDoor

/- Truths of a cut: what the spans of package cut mean. No program in sight. -/
namespace Go.Proofs.YtlkhjnpflohfeaaDoor
namespace Cut
def inS (w : Int × Int) (v : Int) : Prop := w.1 ≤ v ∧ v ≤ w.2
theorem not_dry (v : Int) : ¬ inS dry v := by unfold inS dry; simp only; omega
theorem common_in (a b : Int × Int) (v : Int) : inS (common a b) v ↔ inS a v ∧ inS b v := by
  unfold common
  split
  · unfold inS; simp only; omega
  · constructor
    · intro h; exact absurd h (not_dry v)
    · rintro ⟨h1, h2⟩; unfold inS at *; omega
theorem some_iff (w : Int × Int) : some w = true ↔ ∃ v, inS w v := by
  unfold some inS
  simp only [decide_eq_true_eq]
  exact ⟨fun h => ⟨w.1, by omega, h⟩, fun ⟨v, h1, h2⟩ => by omega⟩
/-- The looks of a day that are in a set hold. -/
def Looks (l : List Look) (set : Nat) (d : Nat) (v : Int) : Prop := ∀ i, i < l.length → set.testBit i = true → (lookAt l i).day = d → inS (lookAt l i).depth v
theorem lookedTo_in (l : List Look) (d : Int) (set : Nat) (w : Int × Int) (v : Int) : ∀ k, inS (lookedTo l d set w k) v ↔ inS w v ∧ ∀ i, i < k → set.testBit i = true → (lookAt l i).day = d → inS (lookAt l i).depth v
  | 0 => by simp [lookedTo]
  | k + 1 => by
    have ih := lookedTo_in l d set w v k
    unfold lookedTo
    by_cases h : (set.testBit k && decide ((lookAt l k).day = d)) = true
    · rw [if_pos h, common_in, ih]
      rw [Bool.and_eq_true, decide_eq_true_eq] at h
      constructor
      · rintro ⟨⟨h1, h2⟩, h3⟩
        refine ⟨h1, fun i hi => ?_⟩
        by_cases hik : i = k
        · subst hik; exact fun _ _ => h3
        · exact h2 i (by omega)
      · rintro ⟨h1, h2⟩
        exact ⟨⟨h1, fun i hi => h2 i (by omega)⟩, h2 k (by omega) h.1 h.2⟩
    · rw [if_neg h, ih]
      constructor
      · rintro ⟨h1, h2⟩
        refine ⟨h1, fun i hi a b => ?_⟩
        by_cases hik : i = k
        · subst hik; exact absurd (by rw [a, b]; simp) h
        · exact h2 i (by omega) a b
      · rintro ⟨h1, h2⟩
        exact ⟨h1, fun i hi => h2 i (by omega)⟩
theorem looked_in (l : List Look) (d : Nat) (set : Nat) (w : Int × Int) (v : Int) : inS (looked l d set w) v ↔ inS w v ∧ Looks l set d v := lookedTo_in l d set w v _
/-- From a depth to that of the next day. -/
def Step (x : CutD) (leak : Int) (d : Nat) (u v : Int) : Prop := ∃ r, inS (spanAt x.rain d) r ∧ v = held x.most (u + r - leak)
theorem after_in {x : CutD} (h : Valid x) (leak : Int) (d : Nat) (hd : d < x.rain.length) (w : Int × Int) (v : Int) : inS (after (stepBy x leak d) x.most w) v ↔ ∃ u, inS w u ∧ Step x leak d u v := by
  have hr := h.rain d hd
  have hm := h.m1
  unfold after Step
  by_cases hw : w.1 ≤ w.2
  · rw [if_pos hw]
    unfold stepBy held inS
    simp only
    generalize spanAt x.rain d = s at *
    constructor
    · rintro ⟨h1, h2⟩
      have key : ∃ z, w.1 + s.1 ≤ z ∧ z ≤ w.2 + s.2 ∧ v = max 0 (min x.most (z - leak)) := by
        by_cases c1 : w.1 + s.1 - leak ≤ v
        · by_cases c2 : v ≤ w.2 + s.2 - leak
          · exact ⟨v + leak, by omega, by omega, by omega⟩
          · exact ⟨w.2 + s.2, by omega, by omega, by omega⟩
        · exact ⟨w.1 + s.1, by omega, by omega, by omega⟩
      obtain ⟨z, z1, z2, z3⟩ := key
      by_cases c : z - s.1 ≤ w.2
      · exact ⟨z - s.1, by omega, s.1, by omega, by rw [z3]; congr 2; omega⟩
      · exact ⟨w.2, by omega, z - w.2, by omega, by rw [z3]; congr 2; omega⟩
    · rintro ⟨u, h1, r, h2, rfl⟩
      omega
  · rw [if_neg hw]
    constructor
    · intro hx; exact absurd hx (not_dry v)
    · rintro ⟨u, h1, _⟩; unfold inS at h1; omega
theorem before_in {x : CutD} (h : Valid x) (leak : Int) (hl0 : 0 ≤ leak) (hl1 : leak ≤ 10) (d : Nat) (hd : d < x.rain.length) (w : Int × Int) (hw : ∀ v, inS w v → 0 ≤ v ∧ v ≤ x.most) (u : Int) : inS (before (stepBy x leak d) x.most w) u ↔ (0 ≤ u ∧ u ≤ x.most) ∧ ∃ v, Step x leak d u v ∧ inS w v := by
  have hr := h.rain d hd
  have hm := h.m1
  have hm1 := h.m100
  unfold before Step
  by_cases hn : w.1 ≤ w.2
  · rw [if_pos hn, common_in]
    have w1 := hw w.1 ⟨by omega, hn⟩
    have w2 := hw w.2 ⟨hn, by omega⟩
    clear hw
    unfold stepBy held inS
    simp only
    generalize spanAt x.rain d = s at *
    constructor
    · rintro ⟨h1, h2, h3⟩
      refine ⟨h1, ?_⟩
      have a1 : w.1 ≤ max 0 (min x.most (u + s.2 - leak)) := by split at h2 <;> omega
      have a2 : max 0 (min x.most (u + s.1 - leak)) ≤ w.2 := by split at h3 <;> omega
      by_cases c1 : w.1 ≤ max 0 (min x.most (u + s.1 - leak))
      · exact ⟨_, ⟨s.1, by omega, rfl⟩, c1, a2⟩
      · exact ⟨w.1, ⟨w.1 - u + leak, by omega, by omega⟩, by omega, hn⟩
    · rintro ⟨h1, v, ⟨r, h2, rfl⟩, h3⟩
      refine ⟨h1, ?_, ?_⟩
      · split <;> omega
      · split <;> omega
  · rw [if_neg hn]
    constructor
    · intro hx; exact absurd hx (not_dry u)
    · rintro ⟨_, v, _, h1⟩; unfold inS at h1; omega
/-- The depth of a day that some truth of the days before has. -/
def FR (x : CutD) (leak : Int) (set : Nat) : Nat → Int → Prop
  | 0, v => inS x.depth v ∧ Looks x.looks set 0 v
  | d + 1, v => (∃ u, FR x leak set d u ∧ Step x leak d u v) ∧ Looks x.looks set (d + 1) v
/-- The depth, so many days from the end n, from which some truth goes on. -/
def BR (x : CutD) (leak : Int) (set n : Nat) : Nat → Int → Prop
  | 0, _ => True
  | k + 1, v => ∃ u, Step x leak (n - (k + 1)) v u ∧ Looks x.looks set (n - k) u ∧ BR x leak set n k u
theorem forth_in {x : CutD} (h : Valid x) (leak : Int) (set : Nat) : ∀ d, d ≤ x.rain.length → ∀ v, inS (forth x leak set d) v ↔ FR x leak set d v
  | 0, _, v => by
    unfold forth FR
    exact looked_in x.looks 0 set x.depth v
  | d + 1, hd, v => by
    unfold forth FR
    rw [looked_in, after_in h leak d (by omega)]
    simp only [forth_in h leak set d (by omega)]
theorem FR_in {x : CutD} (h : Valid x) {leak : Int} {set : Nat} : ∀ {d : Nat} {v : Int}, FR x leak set d v → 0 ≤ v ∧ v ≤ x.most
  | 0, v, hv => by
    have := h.d0; have := h.d2
    have := hv.1; unfold inS at this; omega
  | d + 1, v, hv => by
    obtain ⟨⟨u, _, r, _, rfl⟩, _⟩ := hv
    have := h.m1
    unfold held; omega
theorem back_in {x : CutD} (h : Valid x) (leak : Int) (hl0 : 0 ≤ leak) (hl1 : leak ≤ 10) (set n : Nat) (hn : n = x.rain.length) : ∀ k, k ≤ n → ∀ v, inS (back x leak set n k) v ↔ FR x leak set (n - k) v ∧ BR x leak set n k v
  | 0, _, v => by
    unfold back BR
    rw [forth_in h leak set n (by omega)]
    simp
  | k + 1, hk, v => by
    have ih := back_in h leak hl0 hl1 set n hn k (by omega)
    unfold back
    rw [common_in, forth_in h leak set _ (by omega), before_in h leak hl0 hl1 _ (by omega) _ (fun v hv => FR_in h ((ih v).1 hv).1)]
    constructor
    · rintro ⟨h1, _, u, h2, h3⟩
      have h4 := (ih u).1 h3
      refine ⟨h1, ?_⟩
      unfold BR
      refine ⟨u, h2, ?_, h4.2⟩
      have h5 := h4.1
      have e : n - k = (n - (k + 1)) + 1 := by omega
      rw [e] at h5 ⊢
      exact h5.2
    · rintro ⟨h1, h2⟩
      unfold BR at h2
      obtain ⟨u, h3, h4, h5⟩ := h2
      refine ⟨h1, FR_in h h1, u, h3, (ih u).2 ⟨?_, h5⟩⟩
      have e : n - k = (n - (k + 1)) + 1 := by omega
      rw [e] at h4 ⊢
      exact ⟨⟨v, h1, h3⟩, h4⟩
/-- How deep the water is each day. -/
structure Truth (x : CutD) (leak : Int) (set : Nat) (t : Nat → Int) : Prop where
  start : inS x.depth (t 0)
  step : ∀ d, d < x.rain.length → Step x leak d (t d) (t (d + 1))
  looks : ∀ d, d ≤ x.rain.length → Looks x.looks set d (t d)
theorem Truth.fr {x : CutD} {leak : Int} {set : Nat} {t : Nat → Int} (h : Truth x leak set t) : ∀ d, d ≤ x.rain.length → FR x leak set d (t d)
  | 0, _ => ⟨h.start, h.looks 0 (by omega)⟩
  | d + 1, hd => ⟨⟨t d, h.fr d (by omega), h.step d (by omega)⟩, h.looks (d + 1) hd⟩
theorem Truth.br {x : CutD} {leak : Int} {set : Nat} {t : Nat → Int} (h : Truth x leak set t) : ∀ k, k ≤ x.rain.length → BR x leak set x.rain.length k (t (x.rain.length - k))
  | 0, _ => trivial
  | k + 1, hk => by
    unfold BR
    refine ⟨t (x.rain.length - k), ?_, h.looks _ (by omega), h.br k (by omega)⟩
    have e : x.rain.length - k = (x.rain.length - (k + 1)) + 1 := by omega
    rw [e]
    exact h.step _ (by omega)
theorem fr_path {x : CutD} {leak : Int} {set : Nat} : ∀ (d : Nat) (v : Int), FR x leak set d v → ∃ t : Nat → Int, t d = v ∧ inS x.depth (t 0) ∧ (∀ i, i < d → Step x leak i (t i) (t (i + 1))) ∧ ∀ i, i ≤ d → Looks x.looks set i (t i)
  | 0, v, h => ⟨fun _ => v, rfl, h.1, fun i hi => by omega, fun i hi => by
      have : i = 0 := by omega
      subst this; exact h.2⟩
  | d + 1, v, h => by
    obtain ⟨⟨u, h1, h2⟩, h3⟩ := h
    obtain ⟨t, t1, t2, t3, t4⟩ := fr_path d u h1
    refine ⟨fun i => if i ≤ d then t i else v, if_neg (by omega), by simpa using t2, fun i hi => ?_, fun i hi => ?_⟩
    · by_cases c : i = d
      · subst c
        simp only [Nat.le_refl, if_true]
        rw [if_neg (by omega), t1]; exact h2
      · simp only
        rw [if_pos (by omega), if_pos (by omega)]; exact t3 i (by omega)
    · by_cases c : i ≤ d
      · simp only [c, if_true]; exact t4 i c
      · have : i = d + 1 := by omega
        subst this
        simp only [c, if_false]; exact h3
theorem br_path {x : CutD} {leak : Int} {set n : Nat} : ∀ (k : Nat) (v : Int), k ≤ n → BR x leak set n k v → ∃ t : Nat → Int, t (n - k) = v ∧ (∀ i, n - k ≤ i → i < n → Step x leak i (t i) (t (i + 1))) ∧ ∀ i, n - k < i → i ≤ n → Looks x.looks set i (t i)
  | 0, v, _, _ => ⟨fun _ => v, rfl, fun i h1 h2 => by omega, fun i h1 h2 => by omega⟩
  | k + 1, v, hk, h => by
    unfold BR at h
    obtain ⟨u, h1, h2, h3⟩ := h
    obtain ⟨t, t1, t2, t3⟩ := br_path k u (by omega) h3
    refine ⟨fun i => if i = n - (k + 1) then v else t i, by simp, fun i a b => ?_, fun i a b => ?_⟩
    · simp only
      rw [if_neg (show ¬ i + 1 = n - (k + 1) by omega)]
      by_cases c : i = n - (k + 1)
      · rw [if_pos c]
        have e : i + 1 = n - k := by omega
        rw [e, t1, c]; exact h1
      · rw [if_neg c]; exact t2 i (by omega) b
    · simp only
      rw [if_neg (by omega)]
      by_cases c : i = n - k
      · subst c; rw [t1]; exact h2
      · exact t3 i (by omega) b
theorem truth_of {x : CutD} {leak : Int} {set d : Nat} {v : Int} (hd : d ≤ x.rain.length) (h1 : FR x leak set d v) (h2 : BR x leak set x.rain.length (x.rain.length - d) v) : ∃ t, Truth x leak set t ∧ t d = v := by
  obtain ⟨t, t1, t2, t3, t4⟩ := fr_path d v h1
  obtain ⟨s, s1, s2, s3⟩ := br_path _ v (by omega) h2
  have e : x.rain.length - (x.rain.length - d) = d := by omega
  rw [e] at s1 s2 s3
  refine ⟨fun i => if i ≤ d then t i else s i, ⟨?_, ?_, ?_⟩, by simp [t1]⟩
  · simpa using t2
  · intro i hi
    show Step x leak i (if i ≤ d then t i else s i) (if i + 1 ≤ d then t (i + 1) else s (i + 1))
    by_cases c : i < d
    · rw [if_pos (by omega), if_pos (by omega)]; exact t3 i c
    · rw [if_neg (show ¬ i + 1 ≤ d by omega)]
      by_cases c' : i = d
      · subst c'
        rw [if_pos (Nat.le_refl _), t1, ← s1]; exact s2 i (by omega) hi
      · rw [if_neg (by omega)]; exact s2 i (by omega) hi
  · intro i hi
    by_cases c : i ≤ d
    · simp only [c, if_true]; exact t4 i c
    · simp only [c, if_false]; exact s3 i (by omega) hi
/-- What a season's span means. -/
theorem season_in {x : CutD} (h : Valid x) (leak : Int) (hl0 : 0 ≤ leak) (hl1 : leak ≤ 10) (set d : Nat) (hd : d ≤ x.rain.length) (v : Int) : inS (seasonAt x leak set d) v ↔ ∃ t, Truth x leak set t ∧ t d = v := by
  unfold seasonAt
  rw [if_pos hd, back_in h leak hl0 hl1 set _ rfl _ (by omega)]
  have e : x.rain.length - (x.rain.length - d) = d := by omega
  rw [e]
  constructor
  · rintro ⟨h1, h2⟩; exact truth_of hd h1 h2
  · rintro ⟨t, ht, rfl⟩
    refine ⟨ht.fr d hd, ?_⟩
    have := ht.br (x.rain.length - d) (by omega)
    rw [e] at this; exact this
theorem can_iff {x : CutD} (h : Valid x) (set : Nat) : can x set = true ↔ ∃ leak, inS x.leak leak ∧ ∃ t, Truth x leak set t := by
  unfold can
  rw [List.any_eq_true]
  have hl : ∀ leak, leak ∈ leaks x ↔ inS x.leak leak := by
    intro leak
    unfold leaks inS
    rw [List.mem_map]
    constructor
    · rintro ⟨i, hi, rfl⟩
      rw [List.mem_range] at hi
      omega
    · rintro ⟨h1, h2⟩
      exact ⟨(leak - x.leak.1).toNat, by rw [List.mem_range]; omega, by omega⟩
  have := h.l0; have := h.l2
  constructor
  · rintro ⟨leak, h1, h2⟩
    have h3 := (hl leak).1 h1
    refine ⟨leak, h3, ?_⟩
    obtain ⟨v, hv⟩ := (some_iff _).1 h2
    unfold inS at h3
    obtain ⟨t, ht, _⟩ := (season_in h leak (by omega) (by omega) set 0 (by omega) v).1 hv
    exact ⟨t, ht⟩
  · rintro ⟨leak, h3, t, ht⟩
    refine ⟨leak, (hl leak).2 h3, (some_iff _).2 ⟨t 0, ?_⟩⟩
    unfold inS at h3
    exact (season_in h leak (by omega) (by omega) set 0 (by omega) _).2 ⟨t, ht, rfl⟩
end Cut
end Go.Proofs.YtlkhjnpflohfeaaDoor

/- What the exported functions' spans mean, by truths. -/
namespace Go.Proofs.YtlkhjnpflohfeaaDoor
namespace Cut
theorem fold_spec : ∀ (l : List (Int × Int)) (x : Int × Int),
    let j := l.foldl (fun s y => (min s.1 y.1, max s.2 y.2)) x
    (j.1 ≤ x.1 ∧ x.2 ≤ j.2 ∧ (∀ s ∈ l, j.1 ≤ s.1 ∧ s.2 ≤ j.2)) ∧ (j.1 = x.1 ∨ ∃ s ∈ l, j.1 = s.1) ∧ (j.2 = x.2 ∨ ∃ s ∈ l, j.2 = s.2)
  | [], x => by simp
  | y :: l, x => by
    have ih := fold_spec l (min x.1 y.1, max x.2 y.2)
    simp only [List.foldl_cons, List.mem_cons] at ih ⊢
    generalize List.foldl _ _ l = j at ih ⊢
    obtain ⟨⟨h1, h2, h3⟩, h4, h5⟩ := ih
    refine ⟨⟨by clear h4 h5; omega, by clear h4 h5; omega, ?_⟩, ?_, ?_⟩
    · clear h4 h5
      rintro s (rfl | hs)
      · omega
      · exact h3 s hs
    · clear h5
      rcases h4 with h4 | ⟨s, hs, h4⟩
      · by_cases c : x.1 ≤ y.1
        · exact .inl (by omega)
        · exact .inr ⟨y, .inl rfl, by omega⟩
      · exact .inr ⟨s, .inr hs, h4⟩
    · clear h4
      rcases h5 with h5 | ⟨s, hs, h5⟩
      · by_cases c : y.2 ≤ x.2
        · exact .inl (by omega)
        · exact .inr ⟨y, .inl rfl, by omega⟩
      · exact .inr ⟨s, .inr hs, h5⟩
theorem joined_spec {l : List (Int × Int)} (hl : 0 < l.length) : (∀ s ∈ l, (joined l).1 ≤ s.1 ∧ s.2 ≤ (joined l).2) ∧ (∃ s ∈ l, (joined l).1 = s.1) ∧ (∃ s ∈ l, (joined l).2 = s.2) := by
  cases l with
  | nil => simp at hl
  | cons x l =>
    have h := fold_spec l x
    simp only at h
    rw [show joined (x :: l) = l.foldl (fun s y => (min s.1 y.1, max s.2 y.2)) x from rfl]
    generalize List.foldl _ _ l = j at h ⊢
    obtain ⟨⟨h1, h2, h3⟩, h4, h5⟩ := h
    refine ⟨?_, ?_, ?_⟩
    · clear h4 h5
      intro s hs
      rcases List.mem_cons.1 hs with rfl | hs
      · omega
      · exact h3 s hs
    · rcases h4 with h4 | ⟨s, hs, h4⟩
      · exact ⟨x, List.mem_cons_self, h4⟩
      · exact ⟨s, List.mem_cons_of_mem _ hs, h4⟩
    · rcases h5 with h5 | ⟨s, hs, h5⟩
      · exact ⟨x, List.mem_cons_self, h5⟩
      · exact ⟨s, List.mem_cons_of_mem _ hs, h5⟩
theorem mem_leaks (x : CutD) (leak : Int) : leak ∈ leaks x ↔ inS x.leak leak := by
  unfold leaks inS
  rw [List.mem_map]
  constructor
  · rintro ⟨i, hi, rfl⟩
    rw [List.mem_range] at hi
    omega
  · rintro ⟨h1, h2⟩
    exact ⟨(leak - x.leak.1).toNat, by rw [List.mem_range]; omega, by omega⟩
/-- A day's depths: all truths are within, both ends are those of one. -/
theorem water_spec {x : CutD} (h : Valid x) (hc : can x (every x) = true) (d : Nat) (hd : d ≤ x.rain.length) :
    (∀ leak t, inS x.leak leak → Truth x leak (every x) t → inS (water x d) (t d)) ∧
    (∃ leak t, inS x.leak leak ∧ Truth x leak (every x) t ∧ t d = (water x d).1) ∧ ∃ leak t, inS x.leak leak ∧ Truth x leak (every x) t ∧ t d = (water x d).2 := by
  have hpos : 0 < (((leaks x).map fun k => seasonAt x k (every x) d).filter some).length := by
    obtain ⟨leak, h1, t, ht⟩ := (can_iff h _).1 hc
    refine List.length_pos_of_mem (a := seasonAt x leak (every x) d) (List.mem_filter.2 ⟨List.mem_map.2 ⟨leak, (mem_leaks x leak).2 h1, rfl⟩, ?_⟩)
    have := h.l0; have := h.l2; unfold inS at h1
    exact (some_iff _).2 ⟨t d, (season_in h leak (by omega) (by omega) _ d hd _).2 ⟨t, ht, rfl⟩⟩
  obtain ⟨j1, j2, j3⟩ := joined_spec hpos
  have l0 := h.l0
  have l2 := h.l2
  have key : ∀ s, s ∈ (((leaks x).map fun k => seasonAt x k (every x) d).filter some) → ∃ leak, inS x.leak leak ∧ s = seasonAt x leak (every x) d ∧ s.1 ≤ s.2 := by
    intro s hs
    obtain ⟨h1, h2⟩ := List.mem_filter.1 hs
    obtain ⟨leak, h3, rfl⟩ := List.mem_map.1 h1
    exact ⟨leak, (mem_leaks x leak).1 h3, rfl, by simpa [some] using h2⟩
  refine ⟨?_, ?_, ?_⟩
  · intro leak t hl ht
    have hin : inS (seasonAt x leak (every x) d) (t d) := by
      unfold inS at hl
      exact (season_in h leak (by omega) (by omega) _ d hd _).2 ⟨t, ht, rfl⟩
    have := j1 (seasonAt x leak (every x) d) (List.mem_filter.2 ⟨List.mem_map.2 ⟨leak, (mem_leaks x leak).2 hl, rfl⟩, (some_iff _).2 ⟨_, hin⟩⟩)
    unfold water inS at *
    omega
  · obtain ⟨s, hs, e⟩ := j2
    obtain ⟨leak, hl, rfl, hle⟩ := key s hs
    have hl' := hl
    unfold inS at hl'
    obtain ⟨t, ht, et⟩ := (season_in h leak (by omega) (by omega) (every x) d hd (seasonAt x leak (every x) d).1).1 ⟨by omega, hle⟩
    exact ⟨leak, t, hl, ht, et.trans e.symm⟩
  · obtain ⟨s, hs, e⟩ := j3
    obtain ⟨leak, hl, rfl, hle⟩ := key s hs
    have hl' := hl
    unfold inS at hl'
    obtain ⟨t, ht, et⟩ := (season_in h leak (by omega) (by omega) (every x) d hd (seasonAt x leak (every x) d).2).1 ⟨hle, by omega⟩
    exact ⟨leak, t, hl, ht, et.trans e.symm⟩
/-- What leaks: all truths are within, both ends are those of one. -/
theorem leak_spec {x : CutD} (h : Valid x) (hc : can x (every x) = true) :
    (∀ leak t, inS x.leak leak → Truth x leak (every x) t → inS (leakSpan x) leak) ∧
    (inS x.leak (leakSpan x).1 ∧ ∃ t, Truth x (leakSpan x).1 (every x) t) ∧ inS x.leak (leakSpan x).2 ∧ ∃ t, Truth x (leakSpan x).2 (every x) t := by
  obtain ⟨j1, j2, j3⟩ := joined_spec (leakSpans_pos x hc)
  have l0 := h.l0
  have l2 := h.l2
  have key : ∀ s, s ∈ leakSpans x ↔ ∃ leak, inS x.leak leak ∧ s = (leak, leak) ∧ ∃ t, Truth x leak (every x) t := by
    intro s
    unfold leakSpans
    rw [List.mem_map]
    constructor
    · rintro ⟨leak, hl, rfl⟩
      obtain ⟨h1, h2⟩ := List.mem_filter.1 hl
      have h3 := (mem_leaks x leak).1 h1
      obtain ⟨v, hv⟩ := (some_iff _).1 h2
      have h4 := h3
      unfold inS at h4
      obtain ⟨t, ht, _⟩ := (season_in h leak (by omega) (by omega) _ 0 (by omega) v).1 hv
      exact ⟨leak, h3, rfl, t, ht⟩
    · rintro ⟨leak, h3, rfl, t, ht⟩
      have h4 := h3
      unfold inS at h4
      exact ⟨leak, List.mem_filter.2 ⟨(mem_leaks x leak).2 h3, (some_iff _).2 ⟨t 0, (season_in h leak (by omega) (by omega) _ 0 (by omega) _).2 ⟨t, ht, rfl⟩⟩⟩, rfl⟩
  refine ⟨?_, ?_, ?_⟩
  · intro leak t hl ht
    have := j1 (leak, leak) ((key _).2 ⟨leak, hl, rfl, t, ht⟩)
    unfold leakSpan inS
    simpa using this
  · obtain ⟨s, hs, e⟩ := j2
    obtain ⟨leak, hl, rfl, ht⟩ := (key _).1 hs
    unfold leakSpan
    rw [e]; exact ⟨hl, ht⟩
  · obtain ⟨s, hs, e⟩ := j3
    obtain ⟨leak, hl, rfl, ht⟩ := (key _).1 hs
    unfold leakSpan
    rw [e]; exact ⟨hl, ht⟩
theorem mem_getD {α : Type} {l : List α} {a d : α} (h : a ∈ l) : ∃ i, i < l.length ∧ l.getD i d = a := by
  obtain ⟨i, hi, rfl⟩ := List.mem_iff_getElem.1 h
  exact ⟨i, hi, by simp [hi]⟩
theorem of_valid {x : CutD} (h : Valid x) : valid x = true := by
  obtain ⟨a1, a2, a3, a4, a5, a6, a7, a8, a9, a10, a11, a12, a13, a14, a15⟩ := h
  simp only [valid, within, isSpan, Bool.and_eq_true, decide_eq_true_eq, List.all_eq_true]
  refine ⟨⟨⟨⟨⟨⟨⟨⟨⟨by omega, by omega⟩, by omega, a4⟩, ⟨a5, a6⟩, a7⟩, ⟨a8, a9⟩, a10⟩, by omega⟩, by omega⟩, ?_⟩, ?_⟩, ?_⟩
  · intro s hs
    obtain ⟨i, hi, e⟩ := mem_getD (d := (0, 0)) hs
    have := a13 i hi
    unfold spanAt at this
    rw [e] at this; omega
  · intro s hs
    obtain ⟨i, hi, e⟩ := mem_getD (d := nobody) hs
    have := a14 i hi
    unfold boatAt at this
    rw [e] at this; omega
  · intro s hs
    obtain ⟨i, hi, e⟩ := mem_getD (d := noLook) hs
    have := a15 i hi
    unfold lookAt at this
    rw [e] at this; omega
end Cut
end Go.Proofs.YtlkhjnpflohfeaaDoor

/- The plain law of CutRain. -/
namespace Go.Proofs.YtlkhjnpflohfeaaDoor
open Go
namespace Cut
open Ev (lowN highN bare wetter)
end Cut
end Go.Proofs.YtlkhjnpflohfeaaDoor

/- What CutEnds comes to. -/
namespace Go.Proofs.YtlkhjnpflohfeaaDoor
open Go
namespace Ev
def leaking (c : CutD) (n : Int) : CutD := { c with leak := (n, n) }
def showing (c : CutD) (n : Int) (day : Nat) (v : Int) : CutD := { c with leak := (n, n), looks := c.looks ++ [⟨day, (v, v)⟩] }
/-- The plain law. -/
structure Ends (A : Api) (c : CutD) (day : Nat) : Prop where
  len : c.rain.length ≤ 8
  leak : 0 ≤ c.leak.1 ∧ c.leak.2 ≤ 10
  most : 0 ≤ c.most ∧ c.most ≤ 100
  dayErr : (A.depth c (c.rain.length + 1)).2 = 2
  boatErr : (A.floats c c.boats.length 0 0).2 = 2
  daysErr : (A.days c (-1) 0).2 = 2
  sumErr : (A.together c (-1)).2 = 2
  err : (A.depth c 0).2 = 0 ∧ (A.clash c).2 = 4 ∧ (A.leak c).2 = 0 ∨ A.depth c 0 = ((0, 0), 10) ∧ (A.clash c).2 ≠ 4 ∧ A.leak c = ((0, 0), 10)
  round : (A.depth c 0).2 = 0 → c.looks.length < 5 → ∀ n, c.leak.1 ≤ n → n ≤ c.leak.2 →
    ((A.depth (leaking c n) day).2 = 0 ∧ (A.leak c).1.1 ≤ n ∧ n ≤ (A.leak c).1.2 ∧ (-1000 ≤ (A.depth (leaking c n) day).1.1 ∧ (A.depth (leaking c n) day).1.1 ≤ 1000 ∧ -1000 ≤ (A.depth (leaking c n) day).1.2 ∧ (A.depth (leaking c n) day).1.2 ≤ 1000) ∧
      ∀ v, max 0 ((A.depth (leaking c n) day).1.1 - 2) ≤ v → v ≤ min c.most ((A.depth (leaking c n) day).1.2 + 2) → ((A.clash (showing c n day v)).2 = 4 ↔ (A.depth (leaking c n) day).1.1 ≤ v ∧ v ≤ (A.depth (leaking c n) day).1.2)) ∨
    ((A.depth (leaking c n) day).2 = 10 ∧ n ≠ (A.leak c).1.1 ∧ n ≠ (A.leak c).1.2)
end Ev
end Go.Proofs.YtlkhjnpflohfeaaDoor

/- The plain law of CutEnds. -/
namespace Go.Proofs.YtlkhjnpflohfeaaDoor
open Go
namespace Cut
open Ev (leaking showing)
end Cut
theorem clash_four {x : CutD} (hv : Cut.valid x = true) : (clashR x).2 = 4 ↔ Cut.can x (Cut.every x) = true := by
  unfold clashR
  rw [if_neg (by simp [hv])]
  cases Cut.can x (Cut.every x) <;> simp
end Go.Proofs.YtlkhjnpflohfeaaDoor

/- The plain law of CutTrue: what is returned of a cut holds of each truth. -/
namespace Go.Proofs.YtlkhjnpflohfeaaDoor
open Go
theorem true_plain {x : CutD} (V : Cut.Valid x) {leak : Int} (hl : Cut.inS x.leak leak) {t : Nat → Int} (ht : Cut.Truth x leak (Cut.every x) t) :
    (clashR x).2 = 4 ∧ (leakR x).2 = 0 ∧ Cut.inS (leakR x).1 leak ∧ (∀ d : Nat, d ≤ x.rain.length → (depthR x d).2 = 0 ∧ Cut.inS (depthR x d).1 (t d)) ∧
    ∀ (bi : Nat) (h : bi < x.boats.length) (ld : Int), 0 ≤ ld → ld ≤ x.boats[bi].room → ∀ dr, Cut.inS x.boats[bi].draws dr →
      ∃ D S : Nat, daysR x bi ld = (((D : Int), (S : Int)), 0) ∧ D < 1048576 ∧ S < 1048576 ∧ (∀ j, D.testBit j = true → S.testBit j = true) ∧
        (∀ d, d ≤ x.rain.length → (D.testBit d = true → dr + x.boats[bi].per * ld ≤ t d) ∧ (S.testBit d = false → t d < dr + x.boats[bi].per * ld)) ∧
        ∀ d0 : Nat, d0 ≤ x.rain.length → (∃ u : Nat, untilR x bi ld d0 = ((u : Int), 0) ∧ d0 ≤ u ∧ u ≤ x.rain.length ∧ dr + x.boats[bi].per * ld ≤ t u) ∨ untilR x bi ld d0 = (0, 4) := by
  have hv := Cut.of_valid V
  have hc : Cut.can x (Cut.every x) = true := (Cut.can_iff V _).2 ⟨leak, hl, t, ht⟩
  have hz := toldErr_ok hv hc
  have hw : ∀ d, d ≤ x.rain.length → Cut.inS (Cut.water x d) (t d) := fun d hd => (Cut.water_spec V hc d hd).1 leak t hl ht
  refine ⟨(clash_four hv).2 hc, by unfold leakR; rw [if_pos hz], ?_, ?_, ?_⟩
  · unfold leakR; rw [if_pos hz]
    exact (Cut.leak_spec V hc).1 leak t hl ht
  · intro d hd
    unfold depthR
    rw [isDay_nat hd, if_pos hz, Int.toNat_natCast]
    exact ⟨rfl, hw d hd⟩
  · intro bi hbi ld l0 l1 dr hdr
    have hbt := boatAt_get hbi
    have hld : Cut.isLoads x bi ld = true := isLoads_nat hbi l0 (by rw [hbt]; exact l1)
    have lt : ∀ p, Cut.setTo p (x.rain.length + 1) < 1048576 := by
      intro p
      have h1 := Cut.setTo_lt p (x.rain.length + 1)
      have h2 : 2 ^ (x.rain.length + 1) ≤ 2 ^ 9 := Nat.pow_le_pow_right (by decide) (by have := V.n8; omega)
      omega
    have hfo : ∀ d, Cut.floatsOn x bi ld d = Cut.floats x.boats[bi] ld (Cut.water x d) := fun d => by unfold Cut.floatsOn; rw [hbt]
    unfold Cut.inS at hdr
    have two : ∀ d, d ≤ x.rain.length → Cut.floatsOn x bi ld d = 2 → dr + x.boats[bi].per * ld ≤ t d := by
      intro d hd h2
      have h3 := hw d hd
      unfold Cut.inS at h3
      rw [hfo] at h2
      unfold Cut.floats at h2
      split at h2
      · omega
      · split at h2 <;> cases h2
    have zero : ∀ d, d ≤ x.rain.length → Cut.floatsOn x bi ld d = 0 → t d < dr + x.boats[bi].per * ld := by
      intro d hd h2
      have h3 := hw d hd
      unfold Cut.inS at h3
      rw [hfo] at h2
      unfold Cut.floats at h2
      split at h2
      · cases h2
      · split at h2
        · cases h2
        · omega
    refine ⟨Cut.daysAll x bi ld, Cut.daysSome x bi ld, ?_, lt _, lt _, ?_, ?_, ?_⟩
    · unfold daysR; rw [hld, if_pos hz]; rfl
    · intro j
      unfold Cut.daysAll Cut.daysSome
      rw [Cut.setTo_bit, Cut.setTo_bit]
      simp only [Bool.and_eq_true, decide_eq_true_eq, beq_iff_eq, bne_iff_ne]
      rintro ⟨hj, h2⟩
      exact ⟨hj, by omega⟩
    · intro d hd
      constructor
      · intro hD
        unfold Cut.daysAll at hD
        rw [Cut.setTo_bit] at hD
        simp only [Bool.and_eq_true, decide_eq_true_eq, beq_iff_eq] at hD
        exact two d hd hD.2
      · intro hS
        unfold Cut.daysSome at hS
        rw [Cut.setTo_bit] at hS
        have hd' : d < x.rain.length + 1 := by omega
        simp only [hd', decide_true, Bool.true_and, bne_eq_false_iff_eq] at hS
        exact zero d hd hS
    · intro d0 hd0
      have eU : untilR x bi ld d0 = untilV (Cut.untilOn x bi ld d0) := by
        unfold untilR isB; rw [hld, isDay_nat hd0]; simp only [Bool.and_self]; rw [if_pos hz]; rfl
      rw [eU]
      unfold Cut.untilOn
      cases h1 : Cut.findFrom (fun i => Cut.floatsOn x bi ld i == 2) d0 (x.rain.length + 1 - d0) with
      | none => exact .inr rfl
      | some u =>
        obtain ⟨a1, a2, a3, _⟩ := Cut.findFrom_some _ _ _ h1
        exact .inl ⟨u, rfl, a1, by omega, two u (by omega) (by simpa using a3)⟩
/-- A look that shows what truly was. -/
def nearLook (l : Look) (k : Int) : Look :=
  let wide := min 20 (l.depth.2 - l.depth.1)
  ⟨l.day, (max 0 (k - wide / 2), min 100 (k + wide - wide / 2))⟩
/-- The cut whose looks are right. -/
def truly (c : CutD) (t : Nat → Int) : CutD := { c with looks := c.looks.map fun l => nearLook l (t l.day.toNat) }
theorem lookAt_map (l : List Look) (f : Look → Look) (i : Nat) (h : i < l.length) : Cut.lookAt (l.map f) i = f (Cut.lookAt l i) := by
  unfold Cut.lookAt
  simp [h]
theorem near_in {l : Look} {k : Int} (h0 : 0 ≤ k) (h1 : k ≤ 100) (h2 : l.depth.1 ≤ l.depth.2) : Cut.inS (nearLook l k).depth k ∧ 0 ≤ (nearLook l k).depth.1 ∧ (nearLook l k).depth.2 ≤ 100 := by
  unfold nearLook Cut.inS
  simp only
  omega
theorem truly_valid {c : CutD} (V : Cut.Valid c) {t : Nat → Int} (h : ∀ d, d ≤ c.rain.length → 0 ≤ t d ∧ t d ≤ c.most) : Cut.Valid (truly c t) := by
  have m100 := V.m100
  have hlook := V.look
  obtain ⟨a1, a2, a3, a4, a5, a6, a7, a8, a9, a10, a11, a12, a13, a14, a15⟩ := V
  refine ⟨a1, a2, a3, a4, a5, a6, a7, a8, a9, a10, a11, by simpa [truly] using a12, a13, a14, fun i hi => ?_⟩
  have hi' : i < c.looks.length := by simpa [truly] using hi
  have e : Cut.lookAt (truly c t).looks i = nearLook (Cut.lookAt c.looks i) (t (Cut.lookAt c.looks i).day.toNat) := lookAt_map _ _ _ hi'
  have hb := hlook i hi'
  have ht := h (Cut.lookAt c.looks i).day.toNat (by omega)
  rw [e]
  have hn := near_in (l := Cut.lookAt c.looks i) ht.1 (by omega) (by omega)
  unfold Cut.inS at hn
  have hday : (nearLook (Cut.lookAt c.looks i) (t (Cut.lookAt c.looks i).day.toNat)).day = (Cut.lookAt c.looks i).day := rfl
  rw [hday]
  have hr : (truly c t).rain.length = c.rain.length := rfl
  rw [hr]
  omega
theorem truly_truth {c : CutD} (V : Cut.Valid c) {leak : Int} {t : Nat → Int} (h0 : Cut.inS c.depth (t 0)) (hs : ∀ d, d < c.rain.length → Cut.Step c leak d (t d) (t (d + 1))) (hb : ∀ d, d ≤ c.rain.length → 0 ≤ t d ∧ t d ≤ c.most) :
    Cut.Truth (truly c t) leak (Cut.every (truly c t)) t := by
  refine ⟨h0, hs, fun d hd i hi _ hday => ?_⟩
  have hi' : i < c.looks.length := by simpa [truly] using hi
  have e : Cut.lookAt (truly c t).looks i = nearLook (Cut.lookAt c.looks i) (t (Cut.lookAt c.looks i).day.toNat) := lookAt_map _ _ _ hi'
  rw [e] at hday ⊢
  have hday : (Cut.lookAt c.looks i).day = d := hday
  have m100 := V.m100
  have hlk := V.look i hi'
  have hd' : d ≤ c.rain.length := hd
  rw [hday, Int.toNat_natCast]
  have := hb d hd'
  exact (near_in this.1 (by omega) (by omega)).1
end Go.Proofs.YtlkhjnpflohfeaaDoor

/- What more is known of a cut: plain laws for CutMore. -/
namespace Go.Proofs.YtlkhjnpflohfeaaDoor
open Go
namespace Cut
/-- What a cut of which more is known returns, against what the other does. -/
structure Sub (x y : CutD) : Prop where
  can : can x (every x) = true
  water : ∀ d, d ≤ x.rain.length → (water x d).1 ≤ (water y d).1 ∧ (water y d).2 ≤ (water x d).2 ∧ (water y d).1 ≤ (water y d).2
  leak : (leakSpan x).1 ≤ (leakSpan y).1 ∧ (leakSpan y).2 ≤ (leakSpan x).2
  sum : ∀ d, d ≤ x.rain.length → togetherOn x d ≤ togetherOn y d
  all : ∀ b n, b < x.boats.length → ∀ j, (daysAll x b n).testBit j = true → (daysAll y b n).testBit j = true
  some : ∀ b n, b < x.boats.length → ∀ j, (daysSome y b n).testBit j = true → (daysSome x b n).testBit j = true
/-! Looks: which truths they leave. -/
end Cut
end Go.Proofs.YtlkhjnpflohfeaaDoor

/- The plain law of CutClash. -/
namespace Go.Proofs.YtlkhjnpflohfeaaDoor
open Go
namespace Cut
/-- The looks of a set, of the first so many. -/
def pickTo (ls : List Look) (s : Nat) : Nat → List Look
  | 0 => []
  | k + 1 => if s.testBit k then pickTo ls s k ++ [lookAt ls k] else pickTo ls s k
def picked (c : CutD) (s : Nat) : CutD := { c with looks := pickTo c.looks s c.looks.length }
end Cut
end Go.Proofs.YtlkhjnpflohfeaaDoor

/- The closure of CutClash, and the reference's size of a set, gone through. -/
namespace Go.Proofs.YtlkhjnpflohfeaaDoor
open Go
namespace Ev
set_option maxRecDepth 100000
/-- A function's end: it answers v, and turned nothing. -/
def Gives (t : Nat) (v : AV) (e : AExit) (st : St) : Prop := e = .ret ∧ st.df = [] ∧ st.tc = [] ∧ st.tm.getD t .unk = v
/-- What has been picked so far, and where it lies. -/
inductive Sel (T J : List AB) (sel : List Look) : AV → Prop
  | none : sel = [] → Sel T J sel .nils
  | at (j : Nat) : J[j]? = some (.cells (lookCs sel)) → Sel T J sel (.sl (T.length + 2 + j) 0 sel.length 3)
end Ev
end Go.Proofs.YtlkhjnpflohfeaaDoor

/- The closures of CutTrue, gone through: numbers by remainders; a cut whose looks are right. -/
namespace Go.Proofs.YtlkhjnpflohfeaaDoor
open Go
namespace Ev
set_option maxRecDepth 100000
/-- A number of a span, by remainders. -/
def drawV (ns : List Int) (k : Nat) (lo hi : Int) : Int := if ns = [] then lo else lo + (ns.getD ((k + 1) % ns.length) 0 + 59 * ((k : Int) + 1)) % (hi - lo + 1)
theorem drawV_in (ns : List Int) (k : Nat) {lo hi : Int} (h : lo ≤ hi) : lo ≤ drawV ns k lo hi ∧ drawV ns k lo hi ≤ hi := by
  unfold drawV
  split
  · omega
  · have h1 := Int.emod_nonneg (ns.getD ((k + 1) % ns.length) 0 + 59 * ((k : Int) + 1)) (show hi - lo + 1 ≠ 0 by omega)
    have h2 := Int.emod_lt_of_pos (ns.getD ((k + 1) % ns.length) 0 + 59 * ((k : Int) + 1)) (show 0 < hi - lo + 1 by omega)
    omega
/-- A draw's end. -/
def Drew (v : AV) (hp : List AB) (e : AExit) (st : St) : Prop := e = .ret ∧ st.df = [] ∧ st.tm.getD 4 .unk = v ∧ st.hp = hp ∧ st.tc = [2]
set_option maxHeartbeats 8000000 in
theorem draw_fun (C : Cfg) (call : CallF) (c0 : AB) (ns : List Int) (hns : ∀ n ∈ ns, 0 ≤ n ∧ n ≤ 65535) (hlen : ns.length ≤ 9223372036854775807) (k : Nat) (hk : k ≤ 1000) (lo hi : Int) (h1 : -1000 ≤ lo) (h2 : lo ≤ hi) (h3 : hi ≤ 1000) (T : List AB) :
    Does (ev C call (T.length + 3) none af79.body { tm := tmA 33 (zipI 0 [.agg [.int .i64 lo, .int .i64 hi], .ptr 2 0, .ptr 1 0] []), df := [], hp := c0 :: .cells [.vs 1 (ns.map (AV.int .u16))] :: .cells [.int .i64 k] :: T, tc := [] })
      (Drew (.int .i64 (drawV ns k lo hi)) (c0 :: .cells [.vs 1 (ns.map (AV.int .u16))] :: .cells [.int .i64 ((k : Int) + 1)] :: (T ++ [.cells [.int .i64 lo, .int .i64 hi]]))) := by
  have hw1 : IntKind.i64.wrap ((k : Int) + 1) = (k : Int) + 1 := wrap_in (by omega) (by omega)
  unfold af79
  simp only [zipI]
  by_cases hn : ns = []
  · subst hn
    simp only [List.map_nil]
    clear h1 h2 h3 hk hns hlen
    (repeat (first | (with_reducible apply ops_cons; (focus ((conv => lhs; simp [ev1, wantG, spineK, spine, float, xnew, xval, xeff, val_tmA_cons, val_tmA_nil, val_val, putT_some, putT_none, addFl, cellsOf, pickC, alive, slLen, slFt, binI, maxA, maxK, minA, minK, aeqK, aeqS, AV.cells, boatE, spanE, lookE, fillA, setAt, bitsI, nat_nn, AV.plain, apart, Nat.testBit_eq_decide_div_mod_eq, *]) <;> exact rfl)); simp only [addFl]) | ((first | with_reducible refine does_seq ?_ | with_reducible refine does_ops ?_ | with_reducible refine does_draw ?_ | with_reducible refine does_skip ?_ | with_reducible refine does_block ?_ | with_reducible refine does_ret ?_ | with_reducible refine does_exit ?_ | with_reducible refine ops_nil ?_ | (with_reducible apply does_true; (focus (simp [val_tmA_cons, *]; done))) | (with_reducible apply does_false; (focus (simp [val_tmA_cons, *]; done)))); try simp only [Then, Ops, OutB, reduceIte])))
    exact ⟨rfl, rfl, by simp only [tmA_getD_cons]; simp [drawV], by simp, rfl⟩
  · have hpos : 0 < ns.length := List.length_pos_iff.2 hn
    have hn0 : ¬ ((ns.length : Int) = 0) := by omega
    have hlt : (k + 1) % ns.length < ns.length := Nat.mod_lt _ hpos
    have t1 : ((k : Int) + 1).tmod ns.length = (((k + 1) % ns.length : Nat) : Int) := by rw [Int.tmod_eq_emod_of_nonneg (by omega)]; simp
    have hv : drawV ns k lo hi = lo + (ns[(k + 1) % ns.length] + 59 * ((k : Int) + 1)) % (hi - lo + 1) := by
      unfold drawV; rw [if_neg hn]; simp [hlt]
    have hb := hns _ (List.getElem_mem hlt)
    have h4 := drawV_in ns k h2
    rw [hv] at h4
    generalize hi0 : (k + 1) % ns.length = i at *
    have w2 : IntKind.i64.wrap (i : Int) = i := wrap_in (by omega) (by omega)
    have w3 : IntKind.i64.wrap ns[i] = ns[i] := wrap_in (by omega) (by omega)
    have w4 : IntKind.i64.wrap (59 * ((k : Int) + 1)) = 59 * ((k : Int) + 1) := wrap_in (by omega) (by omega)
    have w5 : IntKind.i64.wrap (ns[i] + 59 * ((k : Int) + 1)) = ns[i] + 59 * ((k : Int) + 1) := wrap_in (by omega) (by omega)
    have w6 : IntKind.i64.wrap (hi - lo) = hi - lo := wrap_in (by omega) (by omega)
    have w7 : IntKind.i64.wrap (hi - lo + 1) = hi - lo + 1 := wrap_in (by omega) (by omega)
    have t2 : (ns[i] + 59 * ((k : Int) + 1)).tmod (hi - lo + 1) = (ns[i] + 59 * ((k : Int) + 1)) % (hi - lo + 1) := Int.tmod_eq_emod_of_nonneg (by omega)
    have n0 : ¬ (hi - lo + 1 = 0) := by omega
    have w8 : IntKind.i64.wrap ((ns[i] + 59 * ((k : Int) + 1)) % (hi - lo + 1)) = (ns[i] + 59 * ((k : Int) + 1)) % (hi - lo + 1) := by
      have a1 := Int.emod_nonneg (ns[i] + 59 * ((k : Int) + 1)) n0
      have a2 := Int.emod_lt_of_pos (ns[i] + 59 * ((k : Int) + 1)) (show 0 < hi - lo + 1 by omega)
      exact wrap_in (by omega) (by omega)
    have w9 : IntKind.i64.wrap (lo + (ns[i] + 59 * ((k : Int) + 1)) % (hi - lo + 1)) = lo + (ns[i] + 59 * ((k : Int) + 1)) % (hi - lo + 1) := wrap_in (by omega) (by omega)
    rw [hv]
    clear h1 h2 h3 h4 hk hb hv hlen hpos hi0
    clear hns
    generalize (ns[i] + 59 * ((k : Int) + 1)) % (hi - lo + 1) = res at *
    (repeat (first | (with_reducible apply ops_cons; (focus ((conv => lhs; simp [ev1, wantG, spineK, spine, float, xnew, xval, xeff, val_tmA_cons, val_tmA_nil, val_val, putT_some, putT_none, addFl, cellsOf, pickC, alive, slLen, slFt, binI, maxA, maxK, minA, minK, aeqK, aeqS, AV.cells, boatE, spanE, lookE, fillA, setAt, bitsI, nat_nn, AV.plain, apart, Nat.testBit_eq_decide_div_mod_eq, *]) <;> exact rfl)); simp only [addFl]) | ((first | with_reducible refine does_seq ?_ | with_reducible refine does_ops ?_ | with_reducible refine does_draw ?_ | with_reducible refine does_skip ?_ | with_reducible refine does_block ?_ | with_reducible refine does_ret ?_ | with_reducible refine does_exit ?_ | with_reducible refine ops_nil ?_ | (with_reducible apply does_true; (focus (simp [val_tmA_cons, *]; done))) | (with_reducible apply does_false; (focus (simp [val_tmA_cons, *]; done)))); try simp only [Then, Ops, OutB, reduceIte])))
    exact ⟨rfl, rfl, by simp only [tmA_getD_cons]; simp, by simp, rfl⟩
/-- How a draw is called. -/
def Draws (call : CallF) (ns : List Int) : Prop := ∀ (k : Nat), k ≤ 1000 → ∀ (lo hi : Int), -1000 ≤ lo → lo ≤ hi → hi ≤ 1000 → ∀ (c0 : AB) (T : List AB),
  call (.fn (.func 79) [] [.ptr 2 0, .ptr 1 0]) [.agg [.int .i64 lo, .int .i64 hi]] (c0 :: .cells [.vs 1 (ns.map (AV.int .u16))] :: .cells [.int .i64 k] :: T) =
    some (.ret (.int .i64 (drawV ns k lo hi)), c0 :: .cells [.vs 1 (ns.map (AV.int .u16))] :: .cells [.int .i64 ((k : Int) + 1)] :: (T ++ [.cells [.int .i64 lo, .int .i64 hi]]), [2])
theorem draws_call {C : Cfg} {n : Nat} (hc : C.calm = true) (hx : C.ext 79 = none) (hxh : C.exth 79 = none) (hf : C.fns 79 = some af79) (hw : C.whole 79 = true) (ns : List Int) (hns : ∀ n ∈ ns, 0 ≤ n ∧ n ≤ 65535) (hlen : ns.length ≤ 9223372036854775807) : Draws (Ev.call C (n + 1)) ns := by
  intro k hk lo hi h1 h2 h3 c0 T
  have := call_fn (n := n) (first := []) (captured := [.ptr 2 0, .ptr 1 0]) (args := [.agg [.int .i64 lo, .int .i64 hi]]) (H := c0 :: .cells [.vs 1 (ns.map (AV.int .u16))] :: .cells [.int .i64 k] :: T)
    (R := fun x H' tc => x = .ret (.int .i64 (drawV ns k lo hi)) ∧ H' = c0 :: .cells [.vs 1 (ns.map (AV.int .u16))] :: .cells [.int .i64 ((k : Int) + 1)] :: (T ++ [.cells [.int .i64 lo, .int .i64 hi]]) ∧ tc = [2]) hc hx hxh hf hw (show (3 : Nat) ≤ 33 by omega) (by
    refine (draw_fun C (Ev.call C n) c0 ns hns hlen k hk lo hi h1 h2 h3 T).mono fun e st ⟨h1, h2, h3, h4, h5⟩ => ?_
    subst h1
    refine ⟨.ret (.int .i64 (drawV ns k lo hi)), st, ?_, ?_⟩
    · have e1 : runDefs C (c0 :: AB.cells [.vs 1 (ns.map (AV.int .u16))] :: .cells [.int .i64 k] :: T).length st.df none st = some (none, st) := by rw [h2]; rfl
      show (match runDefs C (c0 :: AB.cells [.vs 1 (ns.map (AV.int .u16))] :: .cells [.int .i64 k] :: T).length st.df none st with
        | some (none, st) => (resL st [.tmp 4]).map fun vs => (CRes.ret (resV vs), st)
        | _ => none) = _
      rw [e1]
      show (resL st [.tmp 4]).map (fun vs => (CRes.ret (resV vs), st)) = _
      simp only [resL, resOf, h3]
      rfl
    · unfold Left
      rw [h5, h4]
      rw [if_neg (by unfold bareQ; simp)]
      refine ⟨rfl, ?_, rfl⟩
      simp [overH])
  obtain ⟨x, H', tc, h1, rfl, rfl, rfl⟩ := this
  exact h1
/-- How deep the water truly is. -/
def truL (c : CutD) (ns : List Int) : Int := drawV ns 0 c.leak.1 c.leak.2
def truD (c : CutD) (ns : List Int) : Nat → Int
  | 0 => drawV ns 1 c.depth.1 c.depth.2
  | d + 1 => max 0 (min c.most (truD c ns d + (drawV ns (2 + d) (Cut.spanAt c.rain d).1 (Cut.spanAt c.rain d).2 - truL c ns)))
theorem truD_in {c : CutD} (V : Cut.Valid c) (ns : List Int) : ∀ d, 0 ≤ truD c ns d ∧ truD c ns d ≤ c.most
  | 0 => by
    have h0 := V.d0
    have h1 := V.d1
    have h2 := V.d2
    have := drawV_in ns 1 h1
    unfold truD; omega
  | d + 1 => by
    have h1 := V.m1
    unfold truD; omega
theorem get5 {J K : List AB} {j : Nat} {x : AB} (h : J[j]? = some x) (a b c d e : AB) : (a :: b :: c :: d :: e :: (J ++ K))[5 + j]? = some x := by
  rw [show 5 + j = j + 1 + 1 + 1 + 1 + 1 by omega]
  simp only [List.getElem?_cons_succ]
  rw [List.getElem?_append_left (List.getElem?_eq_some_iff.1 h).1]; exact h
theorem set5 {J K : List AB} {j : Nat} (h : j < J.length) (a b c d e v : AB) : (a :: b :: c :: d :: e :: (J ++ K)).set (5 + j) v = a :: b :: c :: d :: e :: (J.set j v ++ K) := by
  rw [show 5 + j = j + 1 + 1 + 1 + 1 + 1 by omega]
  simp only [List.set_cons_succ]
  rw [List.set_append_left _ _ h]
/-- Looks, and where they lie. -/
inductive Sel5 (J : List AB) (q : Nat) (sel : List Look) : AV → Prop
  | none : sel = [] → Sel5 J q sel .nils
  | at (j : Nat) : j ≠ q → J[j]? = some (.cells (lookCs sel)) → Sel5 J q sel (.sl (5 + j) 0 sel.length 3)
/-- An operation of the spine, where the order is drawn. -/
theorem ev1_spine {C : Cfg} {call : CallF} {pin : Nat} {nod : Bool} {fl : List (Nat × List Nat)} {o : AOp} {st : St} {v : AV} {hp : List AB} {tc : List Nat} (hg : o.guard = Option.none) (hk : spineK o.op = true)
    (hs : spine call (val C st.tm) st.hp o.op = some (.ret v, hp, tc)) (hd : o.deps = 2 ^ o.ix - 1) (hf0 : (fl.all fun p => Nat.ble (p.1 + 1) o.ix) = true) :
    ev1 C call pin nod true fl o st = some (.next Option.none { st with hp := hp, tm := putT st.tm o.dst v, tc := tc.filter (· < pin) ++ st.tc }) := by
  obtain ⟨ix, dst, op, guard, deps⟩ := o
  dsimp only at hg hk hs hd hf0
  have hf : (fl.all fun p => deps.testBit p.1) = true := by
    rw [List.all_eq_true] at hf0 ⊢
    intro p hp
    have := Nat.le_of_ble_eq_true (hf0 p hp)
    rw [hd, Nat.testBit_two_pow_sub_one]
    exact decide_eq_true (by omega)
  subst hg
  have h1 : (fl.all fun p => deps.testBit p.1 || apart p.2 tc) = true := by
    rw [List.all_eq_true] at hf ⊢
    intro p hp
    rw [hf p hp, Bool.true_or]
  unfold ev1
  simp only [wantG]
  cases op <;> first | (simp only [spine] at hs; cases hs; done) | (simp only [spineK] at hk; cases hk; done) | (simp only [hs, h1, Bool.or_true, spineK, cond_true])
theorem lookCs_app (s : List Look) (x : Look) : lookCs (s ++ [x]) = lookCs s ++ [.int .i64 x.day, .int .i64 x.depth.1, .int .i64 x.depth.2] := by
  induction s with
  | nil => rfl
  | cons y l ih => simp [lookCs, ih]
/-- How 'truly' ends. -/
def TrulyEnd (c : CutD) (ns : List Int) (tf : Nat → Int) (lk : Int) (c0 : AB) (e : AExit) (st : St) : Prop :=
  e = .ret ∧ st.df = [] ∧ st.tc = List.replicate (c.rain.length + 2) 2 ∧ ∃ (J : List AB) (jd : Nat) (lv : AV), J[jd]? = some (.cells ((List.range (c.rain.length + 1)).map fun i => .int .i64 (tf i))) ∧ Sel5 J jd (c.looks.map fun l => nearLook l (tf l.day.toNat)) lv ∧
    st.tm.getD 4 .unk = .ptr 4 0 ∧ st.tm.getD 5 .unk = .int .i64 lk ∧ st.tm.getD 6 .unk = .sl (5 + jd) 0 (c.rain.length + 1) 1 ∧
    st.hp = c0 :: .cells [.vs 1 (ns.map (AV.int .u16))] :: .cells [.int .i64 (2 + (c.rain.length : Int))] :: .cells [.int .i64 c.depth.1, .int .i64 c.depth.2, .int .i64 c.leak.1, .int .i64 c.leak.2, .vs 2 (c.rain.map spanE), .int .i64 c.most, .vs 4 (c.boats.map boatE), .vs 3 (c.looks.map lookE)] :: .cells [.int .i64 c.depth.1, .int .i64 c.depth.2, .int .i64 c.leak.1, .int .i64 c.leak.2, .vs 2 (c.rain.map spanE), .int .i64 c.most, .vs 4 (c.boats.map boatE), lv] :: J
def depthsA (c : CutD) (ns : List Int) (n : Nat) : List AV := (List.range n).map fun d => .int .i64 (truD c ns d)
set_option maxHeartbeats 8000000 in
theorem truly_fun (C : Cfg) (hC : C.calm = true) (call : CallF) (A : Api) (hA : ApiOk call A) (a b k l m : Int) (r : List (Int × Int)) (bs : List Boat) (ls : List Look) (ns : List Int) (hD : Draws call ns) (V : Cut.Valid ⟨(a, b), (k, l), r, m, bs, ls⟩) (c0 : AB) :
    Does (ev C call 3 none af32.body { tm := tmA 94 (zipI 0 [.agg [.int .i64 a, .int .i64 b, .int .i64 k, .int .i64 l, .vs 2 (r.map spanE), .int .i64 m, .vs 4 (bs.map boatE), .vs 3 (ls.map lookE)], .fn (.func 79) [] [.ptr 2 0, .ptr 1 0]] []), df := [], hp := [c0, .cells [.vs 1 (ns.map (AV.int .u16))], .cells [.int .i64 0]], tc := [] })
      (TrulyEnd ⟨(a, b), (k, l), r, m, bs, ls⟩ ns (truD ⟨(a, b), (k, l), r, m, bs, ls⟩ ns) (truL ⟨(a, b), (k, l), r, m, bs, ls⟩ ns) c0) := by
  have v1 := V.d0
  have v2 := V.d1
  have v3 := V.d2
  have v4 := V.l0
  have v5 := V.l1
  have v6 := V.l2
  have v7 := V.m1
  have v8 := V.m100
  simp only at v1 v2 v3 v4 v5 v6 v7 v8
  have d0 := hD 0 (by omega) k l (by omega) (by omega) (by omega)
  have d1 := hD 1 (by omega) a b (by omega) (by omega) (by omega)
  have HV := hideP (And.intro v1 (And.intro v2 (And.intro v3 (And.intro v4 (And.intro v5 (And.intro v6 (And.intro v7 v8)))))))
  have HH := hideP V
  have HD := hideP hD
  clear v1 v2 v3 v4 v5 v6 v7 v8 V hD
  simp at d0 d1
  have hlk0 : truL ⟨(a, b), (k, l), r, m, bs, ls⟩ ns = drawV ns 0 k l := rfl
  rw [hlk0]
  clear hlk0
  unfold TrulyEnd
  unfold af32
  simp only [zipI]
  (repeat (first | (with_reducible apply ops_cons; (focus ((conv => lhs; simp [ev1, wantG, spineK, spine, float, xnew, xval, xeff, val_tmA_cons, val_tmA_nil, val_val, putT_some, putT_none, addFl, cellsOf, pickC, alive, slLen, slFt, binI, maxA, maxK, minA, minK, aeqK, aeqS, AV.cells, slCells_sl, boatE, spanE, lookE, fillA, setAt, bitsI, nat_nn, AV.plain, apart, Nat.testBit_eq_decide_div_mod_eq, *]) <;> exact rfl)); simp only [addFl]) | ((first | with_reducible refine does_seq ?_ | with_reducible refine does_ops ?_ | with_reducible refine does_draw ?_ | with_reducible refine does_skip ?_ | with_reducible refine does_block ?_ | with_reducible refine does_ret ?_ | with_reducible refine does_exit ?_ | with_reducible refine ops_nil ?_ | (with_reducible apply does_true; (focus (simp [val_tmA_cons, *]; done))) | (with_reducible apply does_false; (focus (simp [val_tmA_cons, *]; done)))); try simp only [Then, Ops, OutB, reduceIte])))
  obtain ⟨v1, v2, v3, v4, v5, v6, v7, v8⟩ := HV.out
  have V := HH.out
  have hr8 : r.length ≤ 8 := V.n8
  have hrain : ∀ i (h : i < r.length), 0 ≤ r[i].1 ∧ r[i].1 ≤ r[i].2 ∧ r[i].2 ≤ 30 := fun i h => by
    have := V.rain i h
    have e : Cut.spanAt r i = r[i] := by simp [Cut.spanAt, h]
    rw [show (⟨(a, b), (k, l), r, m, bs, ls⟩ : CutD).rain = r from rfl, e] at this
    exact this
  have htd : ∀ d (h : d < r.length), truD ⟨(a, b), (k, l), r, m, bs, ls⟩ ns (d + 1) = max 0 (min m (truD ⟨(a, b), (k, l), r, m, bs, ls⟩ ns d + (drawV ns (2 + d) r[d].1 r[d].2 - drawV ns 0 k l))) := fun d h => by
    have e : Cut.spanAt r d = r[d] := by simp [Cut.spanAt, h]
    show max 0 (min m (truD _ ns d + (drawV ns (2 + d) (Cut.spanAt r d).1 (Cut.spanAt r d).2 - drawV ns 0 k l))) = _
    rw [e]
  have ht0 : drawV ns 1 a b = truD ⟨(a, b), (k, l), r, m, bs, ls⟩ ns 0 := rfl
  have htb : ∀ d, 0 ≤ truD ⟨(a, b), (k, l), r, m, bs, ls⟩ ns d ∧ truD ⟨(a, b), (k, l), r, m, bs, ls⟩ ns d ≤ m := truD_in V ns
  have hlk := drawV_in ns 0 v5
  rw [ht0]
  generalize truD ⟨(a, b), (k, l), r, m, bs, ls⟩ ns = tf at *
  generalize drawV ns 0 k l = lk' at *
  refine does_loop (fun q st => ∃ (d : Nat) (J : List AB) (j : Nat), d + q = r.length ∧ J[j]? = some (.cells ((List.range (d + 1)).map fun i => .int .i64 (tf i))) ∧ st = { tm := tmA 94 [(27, .int .i64 d), (26, .int .i64 r.length), (25, .vs 2 (r.map spanE)), (7, .int .i64 (tf d)), (6, .sl (5 + j) 0 (d + 1) 1), (5, .int .i64 lk'), (4, .ptr 4 0), (2, .ptr 3 0), (1, .fn (.func 79) [] [.ptr 2 0, .ptr 1 0])], df := [], hp := c0 :: .cells [.vs 1 (ns.map (AV.int .u16))] :: .cells [.int .i64 (2 + (d : Int))] :: .cells [.int .i64 a, .int .i64 b, .int .i64 k, .int .i64 l, .vs 2 (r.map spanE), .int .i64 m, .vs 4 (bs.map boatE), .vs 3 (ls.map lookE)] :: .cells [.int .i64 0, .int .i64 0, .int .i64 0, .int .i64 0, .nils, .int .i64 0, .nils, .nils] :: J, tc := List.replicate (d + 2) 2 }) r.length (by unfold fuelL; omega) ?_ ?_
  · refine ⟨0, [.cells [.int .i64 k, .int .i64 l], .cells [.int .i64 a, .int .i64 b], .cells [.int .i64 (tf 0)]], 2, by omega, rfl, ?_⟩
    simp only [gcC_calm hC]
    exact st_eq (by simp [keepT_tmA, lk_cons]) rfl rfl rfl
  · rintro q st ⟨d, J, j, hq, hj, rfl⟩
    by_cases hd : d < r.length
    · have hr := hrain d hd
      have dk := HD.out (2 + d) (by omega) r[d].1 r[d].2 (by omega) (by omega) (by omega)
      have hv := drawV_in ns (2 + d) hr.2.1
      have e1 := htd d hd
      have e2 := htb d
      generalize drawV ns (2 + d) r[d].1 r[d].2 = vd at *
      have w1 : IntKind.i64.wrap (vd - lk') = vd - lk' := wrap_in (by omega) (by omega)
      have w2 : IntKind.i64.wrap (tf d + (vd - lk')) = tf d + (vd - lk') := wrap_in (by omega) (by omega)
      have w3 : IntKind.i64.wrap ((d : Int) + 1) = (d : Int) + 1 := wrap_in (by omega) (by omega)
      have hjl := (List.getElem?_eq_some_iff.1 hj).1
      have hb1 : d + 1 + 1 ≤ bound := by unfold bound; omega
      have g0 := fun a b c d e K => get5 (K := K) hj a b c d e
      have g1 := fun a b c d e => get5 (K := []) hj a b c d e
      simp only [List.append_nil] at g1
      have g2 := fun a b c d e K v => set5 (K := K) hjl a b c d e v
      have g3 : ¬ (5 + j < 3) := by omega
      simp at dk
      have HE := hideP (And.intro e1 hq)
      clear e1 e2 hv hr hq hj hjl htd htb hrain hlk v1 v2 v3 v4 v5 v6 v7 v8 V hr8 ht0 d0 d1 hA
      generalize 5 + j = B at *
      (repeat (first | (with_reducible apply ops_cons; (focus ((conv => lhs; simp [ev1, wantG, spineK, spine, float, xnew, xval, xeff, val_tmA_cons, val_tmA_nil, val_val, putT_some, putT_none, addFl, cellsOf, pickC, alive, slLen, slFt, binI, maxA, maxK, minA, minK, aeqK, aeqS, AV.cells, slCells_sl, boatE, spanE, lookE, fillA, setAt, bitsI, nat_nn, AV.plain, apart, Nat.testBit_eq_decide_div_mod_eq, *]) <;> exact rfl)); simp only [addFl]) | ((first | with_reducible refine does_seq ?_ | with_reducible refine does_ops ?_ | with_reducible refine does_draw ?_ | with_reducible refine does_skip ?_ | with_reducible refine does_block ?_ | with_reducible refine does_ret ?_ | with_reducible refine does_exit ?_ | with_reducible refine ops_nil ?_ | (with_reducible apply does_true; (focus (simp [val_tmA_cons, *]; done))) | (with_reducible apply does_false; (focus (simp [val_tmA_cons, *]; done)))); try simp only [Then, Ops, OutB, reduceIte])))
      obtain ⟨e1, hq⟩ := HE.out
      refine ⟨q - 1, by omega, d + 1, J.set j .dead ++ [.cells [.int .i64 r[d].1, .int .i64 r[d].2], .cells [.int .i64 r[d].1, .int .i64 r[d].2], .cells [.int .i64 (tf (d + 1))], .cells ((List.range (d + 1 + 1)).map fun i => .int .i64 (tf i))], J.length + 3, by omega, ?_, ?_⟩
      · rw [List.getElem?_append_right (by simp)]; simp
      · simp only [gcC_calm hC]
        rw [← e1, show J.length + 3 + 1 + 1 + 1 + 1 + 1 = 5 + (J.length + 3) by omega]
        refine st_eq (by simp [keepT_tmA, lk_cons]) rfl ?_ rfl
        rw [List.range_succ (n := d + 1), List.map_append]
        simp [Int.add_assoc]
    · obtain rfl : d = r.length := by omega
      have HT := hideP (And.intro htb hj)
      have HL := hideP V.look
      have h7 := fun H (d a b : Int) => hA.look (H := H) (d := d) (a := a) (b := b)
      have hl5 : ls.length ≤ 5 := V.k5
      clear hq hd htd htb hrain v1 v2 v3 v4 v5 v6 v7 V hr8 ht0 d0 d1 hA hlk hj
      (repeat (first | (with_reducible apply ops_cons; (focus ((conv => lhs; simp [ev1, wantG, spineK, spine, float, xnew, xval, xeff, val_tmA_cons, val_tmA_nil, val_val, putT_some, putT_none, addFl, cellsOf, pickC, alive, slLen, slFt, binI, maxA, maxK, minA, minK, aeqK, aeqS, AV.cells, slCells_sl, boatE, spanE, lookE, fillA, setAt, bitsI, nat_nn, AV.plain, apart, Nat.testBit_eq_decide_div_mod_eq, *]) <;> exact rfl)); simp only [addFl]) | ((first | with_reducible refine does_seq ?_ | with_reducible refine does_ops ?_ | with_reducible refine does_draw ?_ | with_reducible refine does_skip ?_ | with_reducible refine does_block ?_ | with_reducible refine does_ret ?_ | with_reducible refine does_exit ?_ | with_reducible refine ops_nil ?_ | (with_reducible apply does_true; (focus (simp [val_tmA_cons, *]; done))) | (with_reducible apply does_false; (focus (simp [val_tmA_cons, *]; done)))); try simp only [Then, Ops, OutB, reduceIte])))
      refine does_loop (fun q st => ∃ (i : Nat) (J : List AB) (lv : AV), i + q = ls.length ∧ J[j]? = some (.cells ((List.range (r.length + 1)).map fun i => .int .i64 (tf i))) ∧ Sel5 J j ((ls.take i).map fun l => nearLook l (tf l.day.toNat)) lv ∧ st = { tm := tmA 94 [(53, .int .i64 i), (52, .int .i64 ls.length), (51, .vs 3 (ls.map lookE)), (6, .sl (5 + j) 0 (r.length + 1) 1), (5, .int .i64 lk'), (4, .ptr 4 0)], df := [], hp := c0 :: .cells [.vs 1 (ns.map (AV.int .u16))] :: .cells [.int .i64 (2 + (r.length : Int))] :: .cells [.int .i64 a, .int .i64 b, .int .i64 k, .int .i64 l, .vs 2 (r.map spanE), .int .i64 m, .vs 4 (bs.map boatE), .vs 3 (ls.map lookE)] :: .cells [.int .i64 a, .int .i64 b, .int .i64 k, .int .i64 l, .vs 2 (r.map spanE), .int .i64 m, .vs 4 (bs.map boatE), lv] :: J, tc := List.replicate (r.length + 2) 2 }) ls.length (by unfold fuelL; omega) ?_ ?_
      · refine ⟨0, J, .nils, by omega, HT.out.2, .none rfl, ?_⟩
        simp only [gcC_calm hC]
        exact st_eq (by simp [keepT_tmA, lk_cons]) rfl rfl rfl
      · have HB := hideP HT.out.1
        clear HT
        clear J
        rintro q st ⟨i, J, lv, hq, hdj, hsel, rfl⟩
        by_cases hi : i < ls.length
        · have hlook := HL.out i hi
          have e : Cut.lookAt ls i = ls[i] := by simp [Cut.lookAt, hi]
          simp only [e] at hlook
          obtain ⟨l1, l2, l3, l4, l5⟩ := hlook
          obtain ⟨dn, hday⟩ := Int.eq_ofNat_of_zero_le l1
          have hnl : nearLook ls[i] (tf ls[i].day.toNat) = ⟨dn, (max 0 (tf dn - min 20 (ls[i].depth.2 - ls[i].depth.1) / 2), min 100 (tf dn + min 20 (ls[i].depth.2 - ls[i].depth.1) - min 20 (ls[i].depth.2 - ls[i].depth.1) / 2))⟩ := by
            unfold nearLook
            rw [hday]; rfl
          have htk : (ls.take (i + 1)).map (fun l => nearLook l (tf l.day.toNat)) = (ls.take i).map (fun l => nearLook l (tf l.day.toNat)) ++ [nearLook ls[i] (tf ls[i].day.toNat)] := by
            rw [List.take_add_one, List.map_append]; simp [hi]
          have hb0 := HB.out dn
          have hdn : dn < r.length + 1 := by omega
          have hw : IntKind.i64.wrap (ls[i].depth.2 - ls[i].depth.1) = ls[i].depth.2 - ls[i].depth.1 := wrap_in (by omega) (by omega)
          have hwl : 0 ≤ min 20 (ls[i].depth.2 - ls[i].depth.1) ∧ min 20 (ls[i].depth.2 - ls[i].depth.1) ≤ 20 := by omega
          rw [hnl] at htk
          clear hnl
          generalize hwd : min 20 (ls[i].depth.2 - ls[i].depth.1) = wd at *
          have t1 : wd.tdiv 2 = wd / 2 := Int.tdiv_eq_ediv_of_nonneg hwl.1
          have w0 : IntKind.i64.wrap (wd / 2) = wd / 2 := wrap_in (by omega) (by omega)
          have w1 : IntKind.i64.wrap (tf dn - wd / 2) = tf dn - wd / 2 := wrap_in (by omega) (by omega)
          have w2 : IntKind.i64.wrap (tf dn + wd) = tf dn + wd := wrap_in (by omega) (by omega)
          have w3 : IntKind.i64.wrap (tf dn + wd - wd / 2) = tf dn + wd - wd / 2 := wrap_in (by omega) (by omega)
          have w4 : IntKind.i64.wrap ((i : Int) + 1) = (i : Int) + 1 := wrap_in (by omega) (by omega)
          have hdi : (dn : Int) < (r.length : Int) + 1 := by omega
          have hDl : 5 + j < J.length + 1 + 1 + 1 + 1 + 1 + 1 := by have := (List.getElem?_eq_some_iff.1 hdj).1; omega
          have gd0 := fun a b c d e K => get5 (K := K) hdj a b c d e
          have gd1 := fun a b c d e => get5 (K := []) hdj a b c d e
          simp only [List.append_nil] at gd1
          have gd2 : ∀ (a b c d e : AB) (K : List AB) (h : 5 + j < (a :: b :: c :: d :: e :: (J ++ K)).length), (a :: b :: c :: d :: e :: (J ++ K))[5 + j]'h = .cells ((List.range (r.length + 1)).map fun i => .int .i64 (tf i)) := fun a b c d e K h => by
            have := gd0 a b c d e K
            rw [List.getElem?_eq_getElem h] at this; exact Option.some.inj this
          have hsl : ((ls.take i).map fun l => nearLook l (tf l.day.toNat)).length ≤ 5 := by simp; omega
          have HQ := hideP (And.intro hq (And.intro hdj htk))
          generalize hds : ((List.range (r.length + 1)).map fun i => AV.int .i64 (tf i)) = ds at *
          have gl0 : dn < ds.length := by rw [← hds]; simpa using hdn
          have gl1 : ds[dn]'gl0 = .int .i64 (tf dn) := by simp [← hds]
          have gl2 : r.length + 1 ≤ ds.length := by rw [← hds]; simp
          clear hds hdn l1 l2 l3 l4 l5 hb0 hwl hq hdj htk e hl5
          clear gd0 gd1
          cases hsel with
          | none h0 =>
            have hb1 : 1 ≤ bound := by decide
            simp only [h0] at HQ
            clear h0 hsl
            generalize 5 + j = D at *
            iterate 58 (first | (with_reducible apply ops_cons; (focus ((conv => lhs; simp [ev1, wantG, spineK, spine, float, xnew, xval, xeff, val_tmA_cons, val_tmA_nil, val_val, putT_some, putT_none, addFl, cellsOf, pickC, alive, slLen, slFt, binI, maxA, maxK, minA, minK, aeqK, aeqS, AV.cells, slCells_sl, boatE, spanE, lookE, fillA, setAt, bitsI, nat_nn, AV.plain, apart, Nat.testBit_eq_decide_div_mod_eq, *]) <;> exact rfl)); simp only [addFl]) | ((first | with_reducible refine does_seq ?_ | with_reducible refine does_ops ?_ | with_reducible refine does_draw ?_ | with_reducible refine does_skip ?_ | with_reducible refine does_block ?_ | with_reducible refine does_ret ?_ | with_reducible refine does_exit ?_ | with_reducible refine ops_nil ?_ | (with_reducible apply does_true; (focus (simp [val_tmA_cons, *]; done))) | (with_reducible apply does_false; (focus (simp [val_tmA_cons, *]; done)))); try simp only [Then, Ops, OutB, reduceIte]))
            clear gd2 hDl gl1 gl2 hwd t1 w0 w1 w2 w3 hw hday hdi h7
            ((with_reducible apply ops_cons); (focus (apply ev1_spine; (focus rfl); (focus rfl); (focus ((conv => lhs; simp [spine, xeff, val_tmA_cons, cellsOf, setAt, AV.plain, AV.cells]) <;> exact rfl)); (focus rfl); (focus rfl))); simp only [addFl])
            (repeat (first | (with_reducible apply ops_cons; (focus ((conv => lhs; simp [ev1, wantG, spineK, spine, float, xnew, xval, xeff, val_tmA_cons, val_tmA_nil, val_val, putT_some, putT_none, addFl, cellsOf, pickC, alive, slLen, slFt, binI, maxA, maxK, minA, minK, aeqK, aeqS, AV.cells, slCells_sl, boatE, spanE, lookE, fillA, setAt, bitsI, nat_nn, AV.plain, apart, Nat.testBit_eq_decide_div_mod_eq, *]) <;> exact rfl)); simp only [addFl]) | ((first | with_reducible refine does_seq ?_ | with_reducible refine does_ops ?_ | with_reducible refine does_draw ?_ | with_reducible refine does_skip ?_ | with_reducible refine does_block ?_ | with_reducible refine does_ret ?_ | with_reducible refine does_exit ?_ | with_reducible refine ops_nil ?_ | (with_reducible apply does_true; (focus (simp [val_tmA_cons, *]; done))) | (with_reducible apply does_false; (focus (simp [val_tmA_cons, *]; done)))); try simp only [Then, Ops, OutB, reduceIte])))
            obtain ⟨hq, hdj, htk⟩ := HQ.out
            refine ⟨q - 1, by omega, i + 1, J ++ [.cells [.int .i64 dn, .int .i64 ls[i].depth.1, .int .i64 ls[i].depth.2], .cells [.int .i64 dn, .int .i64 (max 0 (tf dn - wd / 2)), .int .i64 (min 100 (tf dn + wd - wd / 2))], .cells [.int .i64 dn, .int .i64 (max 0 (tf dn - wd / 2)), .int .i64 (min 100 (tf dn + wd - wd / 2))]], .sl (5 + (J.length + 2)) 0 1 3, by omega, ?_, ?_, ?_⟩
            · rw [List.getElem?_append_left (List.getElem?_eq_some_iff.1 hdj).1]; exact hdj
            · rw [htk]
              refine .at (J.length + 2) ?_ ?_
              · have := (List.getElem?_eq_some_iff.1 hdj).1; omega
              · rw [List.getElem?_append_right (by omega)]; simp [lookCs]
            · simp only [gcC_calm hC]
              rw [show J.length + 2 + 1 + 1 + 1 + 1 + 1 = 5 + (J.length + 2) by omega]
              exact st_eq (by simp [keepT_tmA, lk_cons]) rfl rfl rfl
          | «at» j' hjq hj =>
            generalize ((ls.take i).map fun l => nearLook l (tf l.day.toNat)) = sel at *
            have hjl' := (List.getElem?_eq_some_iff.1 hj).1
            have g0 := fun a b c d e K => get5 (K := K) hj a b c d e
            have g1 := fun a b c d e => get5 (K := []) hj a b c d e
            simp only [List.append_nil] at g1
            have g2 := fun a b c d e K v => set5 (K := K) hjl' a b c d e v
            have g3 : ¬ (5 + j' < 3) := by omega
            have g4 : ¬ (5 + j = 5 + j') := by omega
            have g5 : ¬ (5 + j' = 5 + j) := by omega
            have hb1 : sel.length + 1 ≤ bound := by unfold bound; omega
            have HQ2 := hideP (And.intro hjq (And.intro hj hjl'))
            clear hsl hjq hj hjl'
            generalize 5 + j = D at *
            generalize 5 + j' = B at *
            iterate 56 (first | (with_reducible apply ops_cons; (focus ((conv => lhs; simp [ev1, wantG, spineK, spine, float, xnew, xval, xeff, val_tmA_cons, val_tmA_nil, val_val, putT_some, putT_none, addFl, cellsOf, pickC, alive, slLen, slFt, binI, maxA, maxK, minA, minK, aeqK, aeqS, AV.cells, slCells_sl, boatE, spanE, lookE, fillA, setAt, bitsI, nat_nn, AV.plain, apart, Nat.testBit_eq_decide_div_mod_eq, *]) <;> exact rfl)); simp only [addFl]) | ((first | with_reducible refine does_seq ?_ | with_reducible refine does_ops ?_ | with_reducible refine does_draw ?_ | with_reducible refine does_skip ?_ | with_reducible refine does_block ?_ | with_reducible refine does_ret ?_ | with_reducible refine does_exit ?_ | with_reducible refine ops_nil ?_ | (with_reducible apply does_true; (focus (simp [val_tmA_cons, *]; done))) | (with_reducible apply does_false; (focus (simp [val_tmA_cons, *]; done)))); try simp only [Then, Ops, OutB, reduceIte]))
            clear gd2 hDl gl1 gl2 hwd t1 w0 w1 w2 w3 hw hday hdi h7
            ((with_reducible apply ops_cons); (focus (apply ev1_spine; (focus rfl); (focus rfl); (focus ((conv => lhs; simp [spine, xeff, val_tmA_cons, cellsOf, setAt, AV.plain, AV.cells, slCells_sl, slLen, alive, *]) <;> exact rfl)); (focus rfl); (focus rfl))); simp only [addFl])
            (with_reducible apply ops_cons; (focus ((conv => lhs; simp [ev1, wantG, spineK, spine, float, xnew, xval, xeff, val_tmA_cons, val_tmA_nil, val_val, putT_some, putT_none, addFl, cellsOf, pickC, alive, slLen, slFt, binI, maxA, maxK, minA, minK, aeqK, aeqS, AV.cells, slCells_sl, boatE, spanE, lookE, fillA, setAt, bitsI, nat_nn, AV.plain, apart, Nat.testBit_eq_decide_div_mod_eq, *]) <;> exact rfl)); simp only [addFl])
            ((with_reducible apply ops_cons); (focus (apply ev1_spine; (focus rfl); (focus rfl); (focus ((conv => lhs; simp [spine, xeff, val_tmA_cons, cellsOf, setAt, AV.plain, AV.cells]) <;> exact rfl)); (focus rfl); (focus rfl))); simp only [addFl])
            clear g0 g1 g2
            (repeat (first | (with_reducible apply ops_cons; (focus ((conv => lhs; simp [ev1, wantG, spineK, spine, float, xnew, xval, xeff, val_tmA_cons, val_tmA_nil, val_val, putT_some, putT_none, addFl, cellsOf, pickC, alive, slLen, slFt, binI, maxA, maxK, minA, minK, aeqK, aeqS, AV.cells, slCells_sl, boatE, spanE, lookE, fillA, setAt, bitsI, nat_nn, AV.plain, apart, Nat.testBit_eq_decide_div_mod_eq, *]) <;> exact rfl)); simp only [addFl]) | ((first | with_reducible refine does_seq ?_ | with_reducible refine does_ops ?_ | with_reducible refine does_draw ?_ | with_reducible refine does_skip ?_ | with_reducible refine does_block ?_ | with_reducible refine does_ret ?_ | with_reducible refine does_exit ?_ | with_reducible refine ops_nil ?_ | (with_reducible apply does_true; (focus (simp [val_tmA_cons, *]; done))) | (with_reducible apply does_false; (focus (simp [val_tmA_cons, *]; done)))); try simp only [Then, Ops, OutB, reduceIte])))
            obtain ⟨hq, hdj, htk⟩ := HQ.out
            obtain ⟨hjq, hj, hjl'⟩ := HQ2.out
            refine ⟨q - 1, by omega, i + 1, J.set j' .dead ++ [.cells [.int .i64 dn, .int .i64 ls[i].depth.1, .int .i64 ls[i].depth.2], .cells [.int .i64 dn, .int .i64 (max 0 (tf dn - wd / 2)), .int .i64 (min 100 (tf dn + wd - wd / 2))], .cells (lookCs (sel ++ [⟨dn, (max 0 (tf dn - wd / 2), min 100 (tf dn + wd - wd / 2))⟩]))], .sl (5 + (J.length + 2)) 0 (sel.length + 1) 3, by omega, ?_, ?_, ?_⟩
            · rw [List.getElem?_append_left (by simpa using (List.getElem?_eq_some_iff.1 hdj).1), List.getElem?_set_ne hjq]; exact hdj
            · rw [htk, show sel.length + 1 = (sel ++ [(⟨dn, (max 0 (tf dn - wd / 2), min 100 (tf dn + wd - wd / 2))⟩ : Look)]).length by simp]
              refine .at (J.length + 2) ?_ ?_
              · have := (List.getElem?_eq_some_iff.1 hdj).1; omega
              · rw [List.getElem?_append_right (by simp)]; simp
            · simp only [gcC_calm hC]
              rw [show J.length + 2 + 1 + 1 + 1 + 1 + 1 = 5 + (J.length + 2) by omega, lookCs_app]
              exact st_eq (by simp [keepT_tmA, lk_cons]) rfl rfl rfl
        · obtain rfl : i = ls.length := by omega
          rw [List.take_length] at hsel
          have HF := hideP (And.intro hdj hsel)
          cases hsel with
          | none h0 =>
            clear hq hi hdj hl5 h7 h0
            (repeat (first | (with_reducible apply ops_cons; (focus ((conv => lhs; simp [ev1, wantG, spineK, spine, float, xnew, xval, xeff, val_tmA_cons, val_tmA_nil, val_val, putT_some, putT_none, addFl, cellsOf, pickC, alive, slLen, slFt, binI, maxA, maxK, minA, minK, aeqK, aeqS, AV.cells, slCells_sl, boatE, spanE, lookE, fillA, setAt, bitsI, nat_nn, AV.plain, apart, Nat.testBit_eq_decide_div_mod_eq, *]) <;> exact rfl)); simp only [addFl]) | ((first | with_reducible refine does_seq ?_ | with_reducible refine does_ops ?_ | with_reducible refine does_draw ?_ | with_reducible refine does_skip ?_ | with_reducible refine does_block ?_ | with_reducible refine does_ret ?_ | with_reducible refine does_exit ?_ | with_reducible refine ops_nil ?_ | (with_reducible apply does_true; (focus (simp [val_tmA_cons, *]; done))) | (with_reducible apply does_false; (focus (simp [val_tmA_cons, *]; done)))); try simp only [Then, Ops, OutB, reduceIte])))
            obtain ⟨hdj, hfin⟩ := HF.out
            refine ⟨trivial, trivial, trivial, J, j, _, hdj, hfin, by simp only [tmA_getD_cons]; simp, by simp only [tmA_getD_cons]; simp, by simp only [tmA_getD_cons]; simp, ?_⟩
            simp
          | «at» j' hjq hj =>
            clear hq hi hdj hl5 h7 hj hjq
            (repeat (first | (with_reducible apply ops_cons; (focus ((conv => lhs; simp [ev1, wantG, spineK, spine, float, xnew, xval, xeff, val_tmA_cons, val_tmA_nil, val_val, putT_some, putT_none, addFl, cellsOf, pickC, alive, slLen, slFt, binI, maxA, maxK, minA, minK, aeqK, aeqS, AV.cells, slCells_sl, boatE, spanE, lookE, fillA, setAt, bitsI, nat_nn, AV.plain, apart, Nat.testBit_eq_decide_div_mod_eq, *]) <;> exact rfl)); simp only [addFl]) | ((first | with_reducible refine does_seq ?_ | with_reducible refine does_ops ?_ | with_reducible refine does_draw ?_ | with_reducible refine does_skip ?_ | with_reducible refine does_block ?_ | with_reducible refine does_ret ?_ | with_reducible refine does_exit ?_ | with_reducible refine ops_nil ?_ | (with_reducible apply does_true; (focus (simp [val_tmA_cons, *]; done))) | (with_reducible apply does_false; (focus (simp [val_tmA_cons, *]; done)))); try simp only [Then, Ops, OutB, reduceIte])))
            obtain ⟨hdj, hfin⟩ := HF.out
            refine ⟨trivial, trivial, trivial, J, j, _, hdj, hfin, by simp only [tmA_getD_cons]; simp, by simp only [tmA_getD_cons]; simp, by simp only [tmA_getD_cons]; simp, ?_⟩
            simp
end Ev
end Go.Proofs.YtlkhjnpflohfeaaDoor

/- The law CutTrue, gone through: what it comes to, by what the functions of package cut answer. -/
namespace Go.Proofs.YtlkhjnpflohfeaaDoor
open Go
namespace Ev
set_option maxRecDepth 100000
/-- What is returned holds of a truth. -/
structure Truths (A : Api) (x : CutD) (leak : Int) (t : Nat → Int) : Prop where
  clash : (A.clash x).2 = 4
  leak0 : (A.leak x).2 = 0
  leakIn : Cut.within leak (A.leak x).1.1 (A.leak x).1.2 = true
  depth0 : ∀ d : Nat, d ≤ x.rain.length → (A.depth x d).2 = 0
  depthIn : ∀ d : Nat, d ≤ x.rain.length → Cut.within (t d) (A.depth x d).1.1 (A.depth x d).1.2 = true
  boat : ∀ (bi : Nat) (h : bi < x.boats.length) (ld : Int), 0 ≤ ld → ld ≤ x.boats[bi].room → ∀ dr, x.boats[bi].draws.1 ≤ dr → dr ≤ x.boats[bi].draws.2 →
    ∃ D S : Nat, A.days x bi ld = (((D : Int), (S : Int)), 0) ∧ D < 1048576 ∧ S < 1048576 ∧ (∀ j, D.testBit j = true → S.testBit j = true) ∧
      (∀ d, d ≤ x.rain.length → (D.testBit d = true → dr + x.boats[bi].per * ld ≤ t d) ∧ (S.testBit d = false → t d < dr + x.boats[bi].per * ld)) ∧
      ∀ d0 : Nat, d0 ≤ x.rain.length → (∃ u : Nat, A.wait x bi ld d0 = ((u : Int), 0) ∧ d0 ≤ u ∧ u ≤ x.rain.length ∧ dr + x.boats[bi].per * ld ≤ t u) ∨ A.wait x bi ld d0 = (0, 4)
theorem looks5 {J : List AB} {q : Nat} {sel : List Look} {lv : AV} (h : Sel5 J q sel lv) (a b c d e : AB) (K : List AB) : looksV (a :: b :: c :: d :: e :: (J ++ K)) lv sel := by
  cases h with
  | none h => rw [h]; exact looksV_nil _
  | «at» j _ hj => exact looksV_sl (get5 hj a b c d e) rfl
set_option maxHeartbeats 8000000 in
theorem true_not (C : Cfg) (call : CallF) (A : Api) (hA : ApiOk call A) (a b k l m : Int) (r : List (Int × Int)) (bs : List Boat) (ls : List Look) (w1 w2 : Int) (ns : List AV)
    (hf : A.fine ⟨(a, b), (k, l), r, m, bs, ls⟩ = false) :
    Does (ev C call 0 none af5.body { tm := tmA 211 (zipI 0 [.agg [.int .i64 a, .int .i64 b, .int .i64 k, .int .i64 l, .vs 2 (r.map spanE), .int .i64 m, .vs 4 (bs.map boatE), .vs 3 (ls.map lookE)], .int .u8 w1, .int .u8 w2, .vs 1 ns] []), df := [], hp := [], tc := [] }) (Yes 8) := by
  have h1 := fun H => hA.fine (cutOf_mk H a b k l m r bs ls)
  have h2 := fun H => hA.awake (H := H)
  rw [hf] at h1
  clear hf hA
  unfold af5
  simp only [zipI]
  (repeat (first | (with_reducible apply ops_cons; (focus ((conv => lhs; simp [ev1, wantG, spineK, spine, float, xnew, xval, xeff, val_tmA_cons, val_tmA_nil, val_val, putT_some, putT_none, addFl, cellsOf, pickC, alive, slLen, slFt, binI, maxA, maxK, minA, minK, aeqK, aeqS, AV.cells, boatE, spanE, lookE, fillA, setAt, bitsI, nat_nn, AV.plain, apart, Nat.testBit_eq_decide_div_mod_eq, *]) <;> exact rfl)); simp only [addFl]) | ((first | with_reducible refine does_seq ?_ | with_reducible refine does_ops ?_ | with_reducible refine does_draw ?_ | with_reducible refine does_skip ?_ | with_reducible refine does_block ?_ | with_reducible refine does_ret ?_ | with_reducible refine does_exit ?_ | with_reducible refine ops_nil ?_ | (with_reducible apply does_true; (focus (simp [val_tmA_cons, *]; done))) | (with_reducible apply does_false; (focus (simp [val_tmA_cons, *]; done)))); try simp only [Then, Ops, OutB, reduceIte])))
  exact ⟨rfl, rfl, by simp only [tmA_getD_cons]; simp⟩
set_option maxHeartbeats 8000000 in
theorem true_main (C : Cfg) (hC : C.calm = true) (call : CallF) (A : Api) (hA : ApiOk call A) (a b k l m : Int) (r : List (Int × Int)) (bs : List Boat) (ls : List Look) (w1 w2 : Int) (u1 : 0 ≤ w1 ∧ w1 ≤ 255) (u2 : 0 ≤ w2 ∧ w2 ≤ 255) (ns : List Int)
    (hf : A.fine ⟨(a, b), (k, l), r, m, bs, ls⟩ = true) (V : Cut.Valid ⟨(a, b), (k, l), r, m, bs, ls⟩) (hD : Draws call ns) (tf : Nat → Int) (lk' : Int) (tc : List Nat)
    (hdraws : ∀ c0, call (.fn (.func 31) [] []) [.vs 1 (ns.map (AV.int .u16))] [c0] = some (.ret (.fn (.func 79) [] [.ptr 2 0, .ptr 1 0]), [c0, .cells [.vs 1 (ns.map (AV.int .u16))], .cells [.int .i64 0]], []))
    (htruly : ∀ c0, ∃ (B3 B4 : AB) (J : List AB) (jd : Nat) (lv : AV), J[jd]? = some (.cells ((List.range (r.length + 1)).map fun i => .int .i64 (tf i))) ∧ Sel5 J jd (ls.map fun l => nearLook l (tf l.day.toNat)) lv ∧
      call (.fn (.func 32) [] []) [.agg [.int .i64 a, .int .i64 b, .int .i64 k, .int .i64 l, .vs 2 (r.map spanE), .int .i64 m, .vs 4 (bs.map boatE), .vs 3 (ls.map lookE)], .fn (.func 79) [] [.ptr 2 0, .ptr 1 0]] [c0, .cells [.vs 1 (ns.map (AV.int .u16))], .cells [.int .i64 0]] =
        some (.ret (.tup [.agg [.int .i64 a, .int .i64 b, .int .i64 k, .int .i64 l, .vs 2 (r.map spanE), .int .i64 m, .vs 4 (bs.map boatE), lv], .int .i64 lk', .sl (5 + jd) 0 (r.length + 1) 1]), c0 :: .cells [.vs 1 (ns.map (AV.int .u16))] :: .cells [.int .i64 (2 + (r.length : Int))] :: B3 :: B4 :: J, tc))
    (hl : Truths A ⟨(a, b), (k, l), r, m, bs, ls.map fun l => nearLook l (tf l.day.toNat)⟩ lk' tf) :
    Does (ev C call 0 none af5.body { tm := tmA 211 (zipI 0 [.agg [.int .i64 a, .int .i64 b, .int .i64 k, .int .i64 l, .vs 2 (r.map spanE), .int .i64 m, .vs 4 (bs.map boatE), .vs 3 (ls.map lookE)], .int .u8 w1, .int .u8 w2, .vs 1 (ns.map (AV.int .u16))] []), df := [], hp := [], tc := [] }) (Yes 8) := by
  have h1 := fun H => hA.fine (cutOf_mk H a b k l m r bs ls)
  have h2 := fun H => hA.awake (H := H)
  have h3 := fun H (n a b : Int) => hA.inside (H := H) (n := n) (a := a) (b := b)
  rw [hf] at h1
  obtain ⟨B3, B4, J, jd, lv, hj, hsel, htr⟩ := htruly (.cells [.int .i64 a, .int .i64 b, .int .i64 k, .int .i64 l, .vs 2 (r.map spanE), .int .i64 m, .vs 4 (bs.map boatE), .vs 3 (ls.map lookE)])
  have hdr := hdraws (.cells [.int .i64 a, .int .i64 b, .int .i64 k, .int .i64 l, .vs 2 (r.map spanE), .int .i64 m, .vs 4 (bs.map boatE), .vs 3 (ls.map lookE)])
  have hlk := looks5 hsel
  have hlp : lv.plain = true := by cases hsel <;> rfl
  simp only [AV.plain] at hlp
  have c1 := fun a0 a1 a2 a3 a4 K => hA.clash (cutOf_of (a := a) (b := b) (k := k) (l := l) (m := m) (bs := bs) (spansV_vs (a0 :: a1 :: a2 :: a3 :: a4 :: (J ++ K)) r) (hlk a0 a1 a2 a3 a4 K))
  have c2 := fun a0 a1 a2 a3 a4 K => hA.leak (cutOf_of (a := a) (b := b) (k := k) (l := l) (m := m) (bs := bs) (spansV_vs (a0 :: a1 :: a2 :: a3 :: a4 :: (J ++ K)) r) (hlk a0 a1 a2 a3 a4 K))
  have c3 := fun a0 a1 a2 a3 a4 K d => hA.depth (cutOf_of (a := a) (b := b) (k := k) (l := l) (m := m) (bs := bs) (spansV_vs (a0 :: a1 :: a2 :: a3 :: a4 :: (J ++ K)) r) (hlk a0 a1 a2 a3 a4 K)) d
  have c4 := fun a0 a1 a2 a3 a4 K b' n => hA.days (cutOf_of (a := a) (b := b) (k := k) (l := l) (m := m) (bs := bs) (spansV_vs (a0 :: a1 :: a2 :: a3 :: a4 :: (J ++ K)) r) (hlk a0 a1 a2 a3 a4 K)) b' n
  have c5 := fun a0 a1 a2 a3 a4 K b' n d => hA.wait (cutOf_of (a := a) (b := b) (k := k) (l := l) (m := m) (bs := bs) (spansV_vs (a0 :: a1 :: a2 :: a3 :: a4 :: (J ++ K)) r) (hlk a0 a1 a2 a3 a4 K)) b' n d
  unfold twoA at c1 c5
  unfold twoS at c2 c3
  unfold three at c4
  obtain ⟨z1, z2, z3, z4, z5, z6⟩ := hl
  simp only at z1 z2 z3 z4 z5 z6
  have hr8 : r.length ≤ 8 := V.n8
  have hboat : ∀ i (h : i < bs.length), 0 ≤ bs[i].draws.1 ∧ bs[i].draws.1 ≤ bs[i].draws.2 ∧ bs[i].draws.2 ≤ 100 ∧ 0 ≤ bs[i].per ∧ bs[i].per ≤ 10 ∧ 0 ≤ bs[i].room ∧ bs[i].room ≤ 10 := fun i h => by
    have := V.boat i h
    have e : Cut.boatAt bs i = bs[i] := by simp [Cut.boatAt, h]
    rw [show (⟨(a, b), (k, l), r, m, bs, ls⟩ : CutD).boats = bs from rfl, e] at this
    exact this
  have hDl : ∀ n, 5 + jd < J.length + (n + 1) + 1 + 1 + 1 + 1 + 1 := fun n => by have := (List.getElem?_eq_some_iff.1 hj).1; omega
  have gd0 := fun a b c d e K => get5 (K := K) hj a b c d e
  have gd2 : ∀ (a b c d e : AB) (K : List AB) (h : 5 + jd < (a :: b :: c :: d :: e :: (J ++ K)).length), (a :: b :: c :: d :: e :: (J ++ K))[5 + jd]'h = .cells ((List.range (r.length + 1)).map fun i => .int .i64 (tf i)) := fun a b c d e K h => by
    have := gd0 a b c d e K
    rw [List.getElem?_eq_getElem h] at this; exact Option.some.inj this
  have HR := hideP (And.intro z4 (And.intro z5 (And.intro z6 (And.intro hr8 (And.intro hboat (And.intro u1 u2))))))
  have HD := hideP hD
  clear hf hA hD hdraws htruly hj hsel hlk gd0 z4 z5 z6 hr8 hboat u1 u2 V
  generalize (⟨(a, b), (k, l), r, m, bs, ls.map fun l => nearLook l (tf l.day.toNat)⟩ : CutD) = x at *
  generalize hds : ((List.range (r.length + 1)).map fun i => AV.int .i64 (tf i)) = ds at *
  have gl0 : ∀ d : Nat, d < r.length + 1 → ∃ h : d < ds.length, ds[d]'h = .int .i64 (tf d) := fun d hd => by
    subst hds
    exact ⟨by simpa using hd, by simp⟩
  have gl2 : r.length + 1 ≤ ds.length := by rw [← hds]; simp
  have HG := hideP gl0
  clear hds gl0
  generalize 5 + jd = D at *
  unfold af5
  simp only [zipI]
  (repeat (first | (with_reducible apply ops_cons; (focus ((conv => lhs; simp [ev1, wantG, spineK, spine, float, xnew, xval, xeff, val_tmA_cons, val_tmA_nil, val_val, putT_some, putT_none, addFl, cellsOf, pickC, alive, slLen, slFt, binI, maxA, maxK, minA, minK, aeqK, aeqS, AV.cells, slCells_sl, boatE, spanE, lookE, fillA, setAt, bitsI, nat_nn, AV.plain, apart, Nat.testBit_eq_decide_div_mod_eq, *]) <;> exact rfl)); simp only [addFl]) | ((first | with_reducible refine does_seq ?_ | with_reducible refine does_ops ?_ | with_reducible refine does_draw ?_ | with_reducible refine does_skip ?_ | with_reducible refine does_block ?_ | with_reducible refine does_ret ?_ | with_reducible refine does_exit ?_ | with_reducible refine ops_nil ?_ | (with_reducible apply does_true; (focus (simp [val_tmA_cons, *]; done))) | (with_reducible apply does_false; (focus (simp [val_tmA_cons, *]; done)))); try simp only [Then, Ops, OutB, reduceIte])))
  obtain ⟨z4, z5, z6, hr8, hboat, u1, u2⟩ := HR.out
  have gl0 := HG.out
  refine does_loop (fun q st => ∃ (d : Nat) (K : List AB), d + q = r.length + 1 ∧ st = { tm := tmA 211 [(69, .int .i64 d), (68, .int .i64 ((r.length : Int) + 1)), (67, .sl D 0 (r.length + 1) 1), (12, .sl D 0 (r.length + 1) 1), (10, .ptr (J.length + 1 + 1 + 1 + 1 + 1) 0), (9, .fn (.func 79) [] [.ptr 2 0, .ptr 1 0]), (4, .ptr 0 0), (2, .int .u8 w2), (1, .int .u8 w1)], df := [], hp := .cells [.int .i64 a, .int .i64 b, .int .i64 k, .int .i64 l, .vs 2 (r.map spanE), .int .i64 m, .vs 4 (bs.map boatE), .vs 3 (ls.map lookE)] :: .cells [.vs 1 (ns.map (AV.int .u16))] :: .cells [.int .i64 (2 + (r.length : Int))] :: B3 :: B4 :: (J ++ .cells [.int .i64 a, .int .i64 b, .int .i64 k, .int .i64 l, .vs 2 (r.map spanE), .int .i64 m, .vs 4 (bs.map boatE), lv] :: K), tc := [] }) (r.length + 1) (by unfold fuelL; omega) ?_ ?_
  · refine ⟨0, ?_⟩
    apply Exists.intro
    refine ⟨by omega, ?_⟩
    simp only [gcC_calm hC]
    exact st_eq (by simp [keepT_tmA, lk_cons]) rfl rfl (by simp)
  · rintro q st ⟨d, K, hq, rfl⟩
    have hDK := hDl K.length
    by_cases hd : d < r.length + 1
    · have y1 := z4 d (by omega)
      have y2 := z5 d (by omega)
      obtain ⟨g1, g2⟩ := gl0 d hd
      have hw : IntKind.i64.wrap ((d : Int) + 1) = (d : Int) + 1 := wrap_in (by omega) (by omega)
      have hdi : (d : Int) < (r.length : Int) + 1 := by omega
      clear z4 z5 z6 hr8 hboat u1 u2 gl0 c1 c2 c4 c5 hDl
      have HQ := hideP hq
      clear hq
      (repeat (first | (with_reducible apply ops_cons; (focus ((conv => lhs; simp [ev1, wantG, spineK, spine, float, xnew, xval, xeff, val_tmA_cons, val_tmA_nil, val_val, putT_some, putT_none, addFl, cellsOf, pickC, alive, slLen, slFt, binI, maxA, maxK, minA, minK, aeqK, aeqS, AV.cells, slCells_sl, boatE, spanE, lookE, fillA, setAt, bitsI, nat_nn, AV.plain, apart, Nat.testBit_eq_decide_div_mod_eq, *]) <;> exact rfl)); simp only [addFl]) | ((first | with_reducible refine does_seq ?_ | with_reducible refine does_ops ?_ | with_reducible refine does_draw ?_ | with_reducible refine does_skip ?_ | with_reducible refine does_block ?_ | with_reducible refine does_ret ?_ | with_reducible refine does_exit ?_ | with_reducible refine ops_nil ?_ | (with_reducible apply does_true; (focus (simp [val_tmA_cons, *]; done))) | (with_reducible apply does_false; (focus (simp [val_tmA_cons, *]; done)))); try simp only [Then, Ops, OutB, reduceIte])))
      have hq := HQ.out
      refine ⟨q - 1, by omega, d + 1, ?_⟩
      apply Exists.intro
      refine ⟨by omega, ?_⟩
      simp only [gcC_calm hC]
      exact st_eq (by simp [keepT_tmA, lk_cons]) rfl rfl rfl
    · obtain rfl : d = r.length + 1 := by omega
      clear z4 z5 hd hq c1 c2 c3
      by_cases hb0 : bs = []
      · subst hb0
        clear z6 hboat c4 c5 hDl hDK gl0 gd2
        (repeat (first | (with_reducible apply ops_cons; (focus ((conv => lhs; simp [ev1, wantG, spineK, spine, float, xnew, xval, xeff, val_tmA_cons, val_tmA_nil, val_val, putT_some, putT_none, addFl, cellsOf, pickC, alive, slLen, slFt, binI, maxA, maxK, minA, minK, aeqK, aeqS, AV.cells, slCells_sl, boatE, spanE, lookE, fillA, setAt, bitsI, nat_nn, AV.plain, apart, Nat.testBit_eq_decide_div_mod_eq, *]) <;> exact rfl)); simp only [addFl]) | ((first | with_reducible refine does_seq ?_ | with_reducible refine does_ops ?_ | with_reducible refine does_draw ?_ | with_reducible refine does_skip ?_ | with_reducible refine does_block ?_ | with_reducible refine does_ret ?_ | with_reducible refine does_exit ?_ | with_reducible refine ops_nil ?_ | (with_reducible apply does_true; (focus (simp [val_tmA_cons, *]; done))) | (with_reducible apply does_false; (focus (simp [val_tmA_cons, *]; done)))); try simp only [Then, Ops, OutB, reduceIte])))
        exact ⟨rfl, rfl, by simp only [tmA_getD_cons]; simp⟩
      · have hbpos : 0 < bs.length := List.length_pos_iff.2 hb0
        have hbne : ¬ ((bs.length : Int) = 0) := by omega
        have hw1 : IntKind.i64.wrap w1 = w1 := wrap_in (by omega) (by omega)
        have hw2 : IntKind.i64.wrap w2 = w2 := wrap_in (by omega) (by omega)
        obtain ⟨bi, hbi⟩ := Int.eq_ofNat_of_zero_le (Int.emod_nonneg w1 hbne)
        have hbl : bi < bs.length := by have := Int.emod_lt_of_pos w1 (show (0 : Int) < bs.length by omega); omega
        have hB := hboat bi hbl
        have ht1 : w1.tmod ↑bs.length = ↑bi := (Int.tmod_eq_emod_of_nonneg (by omega)).trans hbi
        have hwm : IntKind.i64.wrap (bs[bi].room + 1) = bs[bi].room + 1 := wrap_in (by omega) (by omega)
        have hm0 : ¬ (bs[bi].room + 1 = 0) := by omega
        have ht2 : w2.tmod (bs[bi].room + 1) = w2 % (bs[bi].room + 1) := Int.tmod_eq_emod_of_nonneg (by omega)
        have hl1 := Int.emod_nonneg w2 hm0
        have hl2 := Int.emod_lt_of_pos w2 (show 0 < bs[bi].room + 1 by omega)
        have hwl : IntKind.i64.wrap (w2 % (bs[bi].room + 1)) = w2 % (bs[bi].room + 1) := wrap_in (by omega) (by omega)
        generalize w2 % (bs[bi].room + 1) = ld at *
        have dk := HD.out (2 + r.length) (by omega) bs[bi].draws.1 bs[bi].draws.2 (by omega) (by omega) (by omega)
        simp at dk
        have hv := drawV_in ns (2 + r.length) hB.2.1
        have hz := z6 bi hbl ld hl1 (by omega) _ hv.1 hv.2
        generalize drawV ns (2 + r.length) bs[bi].draws.1 bs[bi].draws.2 = dr at *
        have hpl : 0 ≤ bs[bi].per * ld ∧ bs[bi].per * ld ≤ 100 := by
          refine ⟨Int.mul_nonneg hB.2.2.2.1 hl1, ?_⟩
          have := Int.mul_le_mul hB.2.2.2.2.1 (show ld ≤ 10 by omega) hl1 (by decide)
          omega
        have hwp : IntKind.i64.wrap (bs[bi].per * ld) = bs[bi].per * ld := wrap_in (by omega) (by omega)
        have hwn : IntKind.i64.wrap (dr + bs[bi].per * ld) = dr + bs[bi].per * ld := wrap_in (by omega) (by omega)
        obtain ⟨d0, hd0⟩ := Int.eq_ofNat_of_zero_le (Int.emod_nonneg w2 (show ((r.length : Int) + 1) ≠ 0 by omega))
        have hd0l : d0 ≤ r.length := by have := Int.emod_lt_of_pos w2 (show (0 : Int) < (r.length : Int) + 1 by omega); omega
        have ht3 : w2.tmod (↑r.length + 1) = ↑d0 := (Int.tmod_eq_emod_of_nonneg (by omega)).trans hd0
        have hr0 : ¬ ((r.length : Int) + 1 = 0) := by omega
        obtain ⟨Dd, Ss, e1, e2, e3, e4, e5, e6⟩ := hz
        have e7 := e6 d0 hd0l
        have hand := andnot_zero e2 e3 e4
        simp at hand
        have HE := hideP (And.intro e2 (And.intro e3 (And.intro e4 (And.intro e5 hr8))))
        have HW := hideP e7
        clear z6 hboat u1 u2 hB hv hpl hl1 hl2 hd0 hd0l hbi hbpos e2 e3 e4 e5 e6 e7 gl0 hr8 hDK
        have e8 : ∃ u v : Int, A.wait x ↑bi ld ↑d0 = (u, v) := ⟨_, _, rfl⟩
        obtain ⟨wu, wv, e8⟩ := e8
        rw [e8] at HW
        (repeat (first | (with_reducible apply ops_cons; (focus ((conv => lhs; simp [ev1, wantG, spineK, spine, float, xnew, xval, xeff, val_tmA_cons, val_tmA_nil, val_val, putT_some, putT_none, addFl, cellsOf, pickC, alive, slLen, slFt, binI, maxA, maxK, minA, minK, aeqK, aeqS, AV.cells, slCells_sl, boatE, spanE, lookE, fillA, setAt, bitsI, nat_nn, AV.plain, apart, Nat.testBit_eq_decide_div_mod_eq, *]) <;> exact rfl)); simp only [addFl]) | ((first | with_reducible refine does_seq ?_ | with_reducible refine does_ops ?_ | with_reducible refine does_draw ?_ | with_reducible refine does_skip ?_ | with_reducible refine does_block ?_ | with_reducible refine does_ret ?_ | with_reducible refine does_exit ?_ | with_reducible refine ops_nil ?_ | (with_reducible apply does_true; (focus (simp [val_tmA_cons, *]; done))) | (with_reducible apply does_false; (focus (simp [val_tmA_cons, *]; done)))); try simp only [Then, Ops, OutB, reduceIte])))
        obtain ⟨e2, e3, e4, e5, hr8⟩ := HE.out
        have gl0 := HG.out
        generalize dr + bs[bi].per * ld = nd at *
        refine does_loop (fun q st => ∃ (d : Nat), d + q = r.length + 1 ∧ st = { tm := tmA 211 [(150, .int .i64 d), (149, .int .i64 ((r.length : Int) + 1)), (148, .sl D 0 (r.length + 1) 1), (29, .int .i64 wv), (28, .int .i64 wu), (26, .int .i64 Ss), (25, .int .i64 Dd), (24, .int .i64 nd), (12, .sl D 0 (r.length + 1) 1)], df := [], hp := .cells [.int .i64 a, .int .i64 b, .int .i64 k, .int .i64 l, .vs 2 (r.map spanE), .int .i64 m, .vs 4 (bs.map boatE), .vs 3 (ls.map lookE)] :: .cells [.vs 1 (ns.map (AV.int .u16))] :: .cells [.int .i64 (2 + (r.length : Int) + 1)] :: B3 :: B4 :: (J ++ .cells [.int .i64 a, .int .i64 b, .int .i64 k, .int .i64 l, .vs 2 (r.map spanE), .int .i64 m, .vs 4 (bs.map boatE), lv] :: (K ++ [.cells [.int .i64 bs[bi].draws.1, .int .i64 bs[bi].draws.2, .int .i64 bs[bi].per, .int .i64 bs[bi].room], .cells [.int .i64 bs[bi].draws.1, .int .i64 bs[bi].draws.2]])), tc := [] }) (r.length + 1) (by unfold fuelL; omega) ?_ ?_
        · refine ⟨0, by omega, ?_⟩
          simp only [gcC_calm hC]
          exact st_eq (by simp [keepT_tmA, lk_cons]) rfl rfl (by simp)
        · rintro q st ⟨d, hq, rfl⟩
          by_cases hd : d < r.length + 1
          · obtain ⟨k1, k2⟩ := e5 d (by omega)
            have hbD := bit_and (n := Dd) (d := d) (by omega) (by omega)
            have hbS := bit_and (n := Ss) (d := d) (by omega) (by omega)
            have hcase : (tf d < nd ∧ Dd.testBit d = false) ∨ (¬ tf d < nd ∧ Ss.testBit d = true) := by
              by_cases h : tf d < nd
              · left; refine ⟨h, ?_⟩
                cases hx : Dd.testBit d with
                | false => rfl
                | true => have := k1 hx; omega
              · right; refine ⟨h, ?_⟩
                cases hx : Ss.testBit d with
                | true => rfl
                | false => have := k2 hx; omega
            obtain ⟨g1, g2⟩ := gl0 d hd
            have hw : IntKind.i64.wrap ((d : Int) + 1) = (d : Int) + 1 := wrap_in (by omega) (by omega)
            have hdi : (d : Int) < (r.length : Int) + 1 := by omega
            have HQ := hideP hq
            clear hq k1 k2 e2 e3 e4 e5 hr8 gl0 hand
            rcases hcase with ⟨c6, c7⟩ | ⟨c6, c7⟩
            · rw [c7] at hbD
              simp at hbD
              have c8 : ¬ nd ≤ tf d := by omega
              clear c7
              cases hx : Ss.testBit d <;> rw [hx] at hbS <;> simp at hbS <;> clear hx
              · (repeat (first | (with_reducible apply ops_cons; (focus ((conv => lhs; simp [ev1, wantG, spineK, spine, float, xnew, xval, xeff, val_tmA_cons, val_tmA_nil, val_val, putT_some, putT_none, addFl, cellsOf, pickC, alive, slLen, slFt, binI, maxA, maxK, minA, minK, aeqK, aeqS, AV.cells, slCells_sl, boatE, spanE, lookE, fillA, setAt, bitsI, nat_nn, AV.plain, apart, Nat.testBit_eq_decide_div_mod_eq, *]) <;> exact rfl)); simp only [addFl]) | ((first | with_reducible refine does_seq ?_ | with_reducible refine does_ops ?_ | with_reducible refine does_draw ?_ | with_reducible refine does_skip ?_ | with_reducible refine does_block ?_ | with_reducible refine does_ret ?_ | with_reducible refine does_exit ?_ | with_reducible refine ops_nil ?_ | (with_reducible apply does_true; (focus (simp [val_tmA_cons, *]; done))) | (with_reducible apply does_false; (focus (simp [val_tmA_cons, *]; done)))); try simp only [Then, Ops, OutB, reduceIte])))
                have hq := HQ.out
                refine ⟨q - 1, by omega, d + 1, by omega, ?_⟩
                simp only [gcC_calm hC]
                exact st_eq (by simp [keepT_tmA, lk_cons]) rfl rfl (by simp)
              · (repeat (first | (with_reducible apply ops_cons; (focus ((conv => lhs; simp [ev1, wantG, spineK, spine, float, xnew, xval, xeff, val_tmA_cons, val_tmA_nil, val_val, putT_some, putT_none, addFl, cellsOf, pickC, alive, slLen, slFt, binI, maxA, maxK, minA, minK, aeqK, aeqS, AV.cells, slCells_sl, boatE, spanE, lookE, fillA, setAt, bitsI, nat_nn, AV.plain, apart, Nat.testBit_eq_decide_div_mod_eq, *]) <;> exact rfl)); simp only [addFl]) | ((first | with_reducible refine does_seq ?_ | with_reducible refine does_ops ?_ | with_reducible refine does_draw ?_ | with_reducible refine does_skip ?_ | with_reducible refine does_block ?_ | with_reducible refine does_ret ?_ | with_reducible refine does_exit ?_ | with_reducible refine ops_nil ?_ | (with_reducible apply does_true; (focus (simp [val_tmA_cons, *]; done))) | (with_reducible apply does_false; (focus (simp [val_tmA_cons, *]; done)))); try simp only [Then, Ops, OutB, reduceIte])))
                have hq := HQ.out
                refine ⟨q - 1, by omega, d + 1, by omega, ?_⟩
                simp only [gcC_calm hC]
                exact st_eq (by simp [keepT_tmA, lk_cons]) rfl rfl (by simp)
            · rw [c7] at hbS
              simp at hbS
              have c8 : nd ≤ tf d := by omega
              clear c7
              cases hx : Dd.testBit d <;> rw [hx] at hbD <;> simp at hbD <;> clear hx
              · (repeat (first | (with_reducible apply ops_cons; (focus ((conv => lhs; simp [ev1, wantG, spineK, spine, float, xnew, xval, xeff, val_tmA_cons, val_tmA_nil, val_val, putT_some, putT_none, addFl, cellsOf, pickC, alive, slLen, slFt, binI, maxA, maxK, minA, minK, aeqK, aeqS, AV.cells, slCells_sl, boatE, spanE, lookE, fillA, setAt, bitsI, nat_nn, AV.plain, apart, Nat.testBit_eq_decide_div_mod_eq, *]) <;> exact rfl)); simp only [addFl]) | ((first | with_reducible refine does_seq ?_ | with_reducible refine does_ops ?_ | with_reducible refine does_draw ?_ | with_reducible refine does_skip ?_ | with_reducible refine does_block ?_ | with_reducible refine does_ret ?_ | with_reducible refine does_exit ?_ | with_reducible refine ops_nil ?_ | (with_reducible apply does_true; (focus (simp [val_tmA_cons, *]; done))) | (with_reducible apply does_false; (focus (simp [val_tmA_cons, *]; done)))); try simp only [Then, Ops, OutB, reduceIte])))
                have hq := HQ.out
                refine ⟨q - 1, by omega, d + 1, by omega, ?_⟩
                simp only [gcC_calm hC]
                exact st_eq (by simp [keepT_tmA, lk_cons]) rfl rfl (by simp)
              · (repeat (first | (with_reducible apply ops_cons; (focus ((conv => lhs; simp [ev1, wantG, spineK, spine, float, xnew, xval, xeff, val_tmA_cons, val_tmA_nil, val_val, putT_some, putT_none, addFl, cellsOf, pickC, alive, slLen, slFt, binI, maxA, maxK, minA, minK, aeqK, aeqS, AV.cells, slCells_sl, boatE, spanE, lookE, fillA, setAt, bitsI, nat_nn, AV.plain, apart, Nat.testBit_eq_decide_div_mod_eq, *]) <;> exact rfl)); simp only [addFl]) | ((first | with_reducible refine does_seq ?_ | with_reducible refine does_ops ?_ | with_reducible refine does_draw ?_ | with_reducible refine does_skip ?_ | with_reducible refine does_block ?_ | with_reducible refine does_ret ?_ | with_reducible refine does_exit ?_ | with_reducible refine ops_nil ?_ | (with_reducible apply does_true; (focus (simp [val_tmA_cons, *]; done))) | (with_reducible apply does_false; (focus (simp [val_tmA_cons, *]; done)))); try simp only [Then, Ops, OutB, reduceIte])))
                have hq := HQ.out
                refine ⟨q - 1, by omega, d + 1, by omega, ?_⟩
                simp only [gcC_calm hC]
                exact st_eq (by simp [keepT_tmA, lk_cons]) rfl rfl (by simp)
          · obtain rfl : d = r.length + 1 := by omega
            rcases HW.out with ⟨u, hu, hu1, hu2, hu3⟩ | hu
            · obtain ⟨rfl, rfl⟩ := Prod.mk.inj hu
              obtain ⟨g1, g2⟩ := gl0 u (by omega)
              have hui : (u : Int) < (r.length : Int) + 1 := by omega
              have huj : ¬ ((r.length : Int) + 1 ≤ (u : Int)) := by omega
              have huk : ¬ (tf u < nd) := by omega
              clear e2 e3 e4 e5 hr8 gl0 hand hd hq hu1 hu2 hu3
              (repeat (first | (with_reducible apply ops_cons; (focus ((conv => lhs; simp [ev1, wantG, spineK, spine, float, xnew, xval, xeff, val_tmA_cons, val_tmA_nil, val_val, putT_some, putT_none, addFl, cellsOf, pickC, alive, slLen, slFt, binI, maxA, maxK, minA, minK, aeqK, aeqS, AV.cells, slCells_sl, boatE, spanE, lookE, fillA, setAt, bitsI, nat_nn, AV.plain, apart, Nat.testBit_eq_decide_div_mod_eq, *]) <;> exact rfl)); simp only [addFl]) | ((first | with_reducible refine does_seq ?_ | with_reducible refine does_ops ?_ | with_reducible refine does_draw ?_ | with_reducible refine does_skip ?_ | with_reducible refine does_block ?_ | with_reducible refine does_ret ?_ | with_reducible refine does_exit ?_ | with_reducible refine ops_nil ?_ | (with_reducible apply does_true; (focus (simp [val_tmA_cons, *]; done))) | (with_reducible apply does_false; (focus (simp [val_tmA_cons, *]; done)))); try simp only [Then, Ops, OutB, reduceIte])))
              exact ⟨rfl, rfl, by simp only [tmA_getD_cons]; simp⟩
            · obtain ⟨rfl, rfl⟩ := Prod.mk.inj hu
              clear e2 e3 e4 e5 hr8 gl0 hand hd hq
              (repeat (first | (with_reducible apply ops_cons; (focus ((conv => lhs; simp [ev1, wantG, spineK, spine, float, xnew, xval, xeff, val_tmA_cons, val_tmA_nil, val_val, putT_some, putT_none, addFl, cellsOf, pickC, alive, slLen, slFt, binI, maxA, maxK, minA, minK, aeqK, aeqS, AV.cells, slCells_sl, boatE, spanE, lookE, fillA, setAt, bitsI, nat_nn, AV.plain, apart, Nat.testBit_eq_decide_div_mod_eq, *]) <;> exact rfl)); simp only [addFl]) | ((first | with_reducible refine does_seq ?_ | with_reducible refine does_ops ?_ | with_reducible refine does_draw ?_ | with_reducible refine does_skip ?_ | with_reducible refine does_block ?_ | with_reducible refine does_ret ?_ | with_reducible refine does_exit ?_ | with_reducible refine ops_nil ?_ | (with_reducible apply does_true; (focus (simp [val_tmA_cons, *]; done))) | (with_reducible apply does_false; (focus (simp [val_tmA_cons, *]; done)))); try simp only [Then, Ops, OutB, reduceIte])))
              exact ⟨rfl, rfl, by simp only [tmA_getD_cons]; simp⟩
end Ev
end Go.Proofs.YtlkhjnpflohfeaaDoor

/- An argument that is a cut: from its reading to its cells. -/
namespace Go.Proofs.YtlkhjnpflohfeaaDoor
open Go Go.Proofs Go.RowKit Go.ChangeShapes Go.WideShapes Go.Deep
section
variable {H : Type} {enc : TypeId × Value → H} {w : World} {base : Nat} {spare : Nat → Bool} {held : Bool} {fuel : Nat} {cs : List Value} {x : DataW H × List MemPlace}

theorem list2 {cs : List Value} (h : cs.length = 2) : ∃ a b, cs = [a, b] := by
  match cs, h with | [a, b], _ => exact ⟨a, b, rfl⟩
theorem list3 {cs : List Value} (h : cs.length = 3) : ∃ a b c, cs = [a, b, c] := by
  match cs, h with | [a, b, c], _ => exact ⟨a, b, c, rfl⟩
theorem list4 {cs : List Value} (h : cs.length = 4) : ∃ a b c d, cs = [a, b, c, d] := by
  match cs, h with | [a, b, c, d], _ => exact ⟨a, b, c, d, rfl⟩
theorem list8 {cs : List Value} (h : cs.length = 8) : ∃ a b c d e f g i, cs = [a, b, c, d, e, f, g, i] := by
  match cs, h with | [a, b, c, d, e, f, g, i], _ => exact ⟨a, b, c, d, e, f, g, i, rfl⟩
theorem cells_int : Tryd.prog.cellsOf 3 = 1 := by kernel_rfl
theorem cells_span : Tryd.prog.cellsOf 23 = 2 := by kernel_rfl
theorem cells_boat : Tryd.prog.cellsOf 51 = 4 := by kernel_rfl
theorem cells_look : Tryd.prog.cellsOf 55 = 3 := by kernel_rfl

theorem trod_i (h : ∃ y, DataW.trod enc Tryd.prog w base spare held fuel 3 cs = some y) : ∃ n, cs = [.int .i64 n] ∧ (Lit.int .i64 n).wf = true := by
  obtain ⟨y, h⟩ := h
  obtain ⟨n, h1, _, h2⟩ := DataW.trod_int Tryd.underlying3 h
  exact ⟨n, h1, h2⟩
theorem trod_span (h : ∃ y, DataW.trod enc Tryd.prog w base spare held fuel 23 cs = some y) : ∃ a b, cs = [.int .i64 a, .int .i64 b] := by
  obtain ⟨y, h⟩ := h
  obtain ⟨xs, n, rfl, _, hl, hx, hf⟩ := DataW.trod_struct Tryd.underlying23 h
  rw [cells_span] at hl
  have hx : xs.length = 2 := hx
  obtain ⟨c0, c1, rfl⟩ := list2 hl
  clear hl
  obtain ⟨a, ha, _⟩ := trod_i ⟨_, (hf 0 _ rfl).trans (List.getElem?_eq_getElem (by omega))⟩
  obtain ⟨b, hb, _⟩ := trod_i ⟨_, (hf 1 _ rfl).trans (List.getElem?_eq_getElem (by omega))⟩
  simp [cells_int] at ha hb
  exact ⟨a, b, by rw [ha, hb]⟩
theorem trod_boat (h : ∃ y, DataW.trod enc Tryd.prog w base spare held fuel 51 cs = some y) : ∃ a b p r, cs = [.int .i64 a, .int .i64 b, .int .i64 p, .int .i64 r] := by
  obtain ⟨y, h⟩ := h
  obtain ⟨xs, n, rfl, _, hl, hx, hf⟩ := DataW.trod_struct Tryd.underlying51 h
  rw [cells_boat] at hl
  have hx : xs.length = 3 := hx
  obtain ⟨c0, c1, c2, c3, rfl⟩ := list4 hl
  clear hl
  obtain ⟨a, b, hab⟩ := trod_span ⟨_, (hf 0 _ rfl).trans (List.getElem?_eq_getElem (by omega))⟩
  obtain ⟨p, hp, _⟩ := trod_i ⟨_, (hf 1 _ rfl).trans (List.getElem?_eq_getElem (by omega))⟩
  obtain ⟨r, hr, _⟩ := trod_i ⟨_, (hf 2 _ rfl).trans (List.getElem?_eq_getElem (by omega))⟩
  simp [cells_int, cells_span] at hab hp hr
  exact ⟨a, b, p, r, by rw [hab.1, hab.2, hp, hr]⟩
theorem trod_look (h : ∃ y, DataW.trod enc Tryd.prog w base spare held fuel 55 cs = some y) : ∃ d a b, cs = [.int .i64 d, .int .i64 a, .int .i64 b] := by
  obtain ⟨y, h⟩ := h
  obtain ⟨xs, n, rfl, _, hl, hx, hf⟩ := DataW.trod_struct Tryd.underlying55 h
  rw [cells_look] at hl
  have hx : xs.length = 2 := hx
  obtain ⟨c0, c1, c2, rfl⟩ := list3 hl
  clear hl
  obtain ⟨d, hd, _⟩ := trod_i ⟨_, (hf 0 _ rfl).trans (List.getElem?_eq_getElem (by omega))⟩
  obtain ⟨a, b, hab⟩ := trod_span ⟨_, (hf 1 _ rfl).trans (List.getElem?_eq_getElem (by omega))⟩
  simp [cells_int, cells_span] at hab hd
  exact ⟨d, a, b, by rw [hab.1, hab.2, hd]⟩

theorem block_lt {W : World} {a : Addr} {v : Value} (h : W.cell? a = some v) : a.block < W.heap.size := by
  apply Classical.byContradiction
  intro hn
  have : W.heap[a.block]? = none := by simp; omega
  simp [World.cell?, this] at h

/-- A slice of elements of k cells each, as a list of what they are. -/
theorem row_of {α : Type} {t e : TypeId} {k : Nat} (d : α) (g : α → List Value) (hk : 0 < k) (hg : ∀ y, (g y).length = k) (ht : Tryd.prog.underlying t = some (.slice e)) (hc : Tryd.prog.cellsOf e = k)
    (he : ∀ (fuel : Nat) (cs : List Value), (∃ y, DataW.trod enc Tryd.prog w base spare held fuel e cs = some y) → ∃ y, cs = g y)
    (h : ∃ y, DataW.trod enc Tryd.prog w base spare held fuel t cs = some y) :
    ∃ (ra : Option Addr) (l : List α) (rc : Nat), cs = [.slice ra l.length rc] ∧ l.length ≤ rc ∧ rc ≤ maxLen ∧ ElemsR w ra l.length k (fun i j => (g (l.getD i d)).getD j undef) := by
  obtain ⟨y, h⟩ := h
  rcases open_slice ht h with ⟨rfl, _⟩ | ⟨a, len, cap, m, n, D, Pl, rfl, hb, hl, hm, hmm, hx, hi⟩
  · exact ⟨none, [], 0, rfl, Nat.le_refl _, Nat.zero_le _, .inl rfl⟩
  · have hml : len ≤ m := by rw [hmm]; split <;> omega
    have : ∀ i, ∃ y : α, i < len → ∀ j, j < k → w.cell? (a.add (i * k + j)) = some ((g y).getD j undef) := by
      intro i
      by_cases hlt : i < len
      · obtain ⟨cs', h1, h2⟩ := hi i (by omega)
        obtain ⟨y, rfl⟩ := he n cs' ⟨_, h2⟩
        rw [hc] at h1
        obtain ⟨_, _, h3⟩ := World.cells?_some h1
        refine ⟨y, fun _ j hj => ?_⟩
        rw [← Go.Deep.add_add, h3 j hj, List.getElem?_eq_getElem (by rw [hg]; exact hj)]
        simp [hg, hj]
      · exact ⟨d, fun h => absurd h hlt⟩
    obtain ⟨f, hf⟩ := Classical.skolem.1 this
    refine ⟨some a, (List.range len).map f, cap, by simp, by simpa using hl, hm, ?_⟩
    by_cases h0 : len = 0
    · exact .inl (by simp [h0])
    · have h00 := hf 0 (by omega) 0 hk
      have hs := World.cell?_spot h00
      have hb := block_lt h00
      obtain ⟨b, off, sp⟩ := a
      obtain rfl : sp = none := by simpa [Addr.add] using hs
      have hadd : ∀ u, Addr.add ⟨b, off, none⟩ u = ⟨b, off + u, none⟩ := fun u => by simp [Addr.add]
      rw [hadd] at hb
      refine .inr ⟨b, off, rfl, hb, fun i j hi hj => ?_⟩
      simp only [List.length_map, List.length_range] at hi
      have := hf i hi j hj
      rw [hadd, ← Nat.add_assoc] at this
      rw [this]
      simp [hi]

def spanC (s : Int × Int) : List Value := [.int .i64 s.1, .int .i64 s.2]
def boatC (b : Boat) : List Value := [.int .i64 b.draws.1, .int .i64 b.draws.2, .int .i64 b.per, .int .i64 b.room]
def lookC (l : Look) : List Value := [.int .i64 l.day, .int .i64 l.depth.1, .int .i64 l.depth.2]
theorem elems_to {W : World} {ra : Option Addr} {n k : Nat} {f g : Nat → Nat → Value} (h : ElemsR W ra n k f) (he : ∀ i j, i < n → j < k → f i j = g i j) : ElemsR W ra n k g := by
  rcases h with h | ⟨b, off, h1, h2, h3⟩
  · exact .inl h
  · exact .inr ⟨b, off, h1, h2, fun i j hi hj => (h3 i j hi hj).trans (by rw [he i j hi hj])⟩
theorem trod_rain (h : ∃ y, DataW.trod enc Tryd.prog w base spare held fuel 24 cs = some y) : ∃ (ra : Option Addr) (l : List (Int × Int)) (rc : Nat), cs = [.slice ra l.length rc] ∧ l.length ≤ rc ∧ rc ≤ maxLen ∧ ElemsR w ra l.length 2 (spanCell l) := by
  obtain ⟨ra, l, rc, h1, h2, h3, h4⟩ := row_of (k := 2) (0, 0) spanC (by omega) (fun _ => rfl) Tryd.underlying24 cells_span (fun _ _ h => by obtain ⟨a, b, h⟩ := trod_span h; exact ⟨(a, b), h⟩) h
  refine ⟨ra, l, rc, h1, h2, h3, elems_to h4 fun i j _ hj => ?_⟩
  have : j = 0 ∨ j = 1 := by omega
  rcases this with rfl | rfl <;> rfl
theorem trod_boats (h : ∃ y, DataW.trod enc Tryd.prog w base spare held fuel 25 cs = some y) : ∃ (ra : Option Addr) (l : List Boat) (rc : Nat), cs = [.slice ra l.length rc] ∧ l.length ≤ rc ∧ rc ≤ maxLen ∧ ElemsR w ra l.length 4 (boatCell l) := by
  obtain ⟨ra, l, rc, h1, h2, h3, h4⟩ := row_of (k := 4) Cut.nobody boatC (by omega) (fun _ => rfl) Tryd.underlying25 cells_boat (fun _ _ h => by obtain ⟨a, b, p, r, h⟩ := trod_boat h; exact ⟨⟨(a, b), p, r⟩, h⟩) h
  refine ⟨ra, l, rc, h1, h2, h3, elems_to h4 fun i j _ hj => ?_⟩
  have : j = 0 ∨ j = 1 ∨ j = 2 ∨ j = 3 := by omega
  rcases this with rfl | rfl | rfl | rfl <;> rfl
theorem trod_looks (h : ∃ y, DataW.trod enc Tryd.prog w base spare held fuel 26 cs = some y) : ∃ (ra : Option Addr) (l : List Look) (rc : Nat), cs = [.slice ra l.length rc] ∧ l.length ≤ rc ∧ rc ≤ maxLen ∧ ElemsR w ra l.length 3 (lookCell l) := by
  obtain ⟨ra, l, rc, h1, h2, h3, h4⟩ := row_of (k := 3) Cut.noLook lookC (by omega) (fun _ => rfl) Tryd.underlying26 cells_look (fun _ _ h => by obtain ⟨d, a, b, h⟩ := trod_look h; exact ⟨⟨d, (a, b)⟩, h⟩) h
  refine ⟨ra, l, rc, h1, h2, h3, elems_to h4 fun i j _ hj => ?_⟩
  have : j = 0 ∨ j = 1 ∨ j = 2 := by omega
  rcases this with rfl | rfl | rfl <;> rfl

theorem cells_cut : Tryd.prog.cellsOf 28 = 8 := by kernel_rfl
theorem cells_rain : Tryd.prog.cellsOf 24 = 1 := by kernel_rfl
theorem cells_boats : Tryd.prog.cellsOf 25 = 1 := by kernel_rfl
theorem cells_looks : Tryd.prog.cellsOf 26 = 1 := by kernel_rfl
theorem trod_cut (h : ∃ y, DataW.trod enc Tryd.prog w base spare held fuel 28 cs = some y) : ∃ (c : CutD) (ra ba la : Option Addr) (rc bc lc : Nat), cs = cutCells c ra ba la rc bc lc ∧ (c.rain.length ≤ rc ∧ c.boats.length ≤ bc ∧ c.looks.length ≤ lc) ∧
    ElemsR w ra c.rain.length 2 (spanCell c.rain) ∧ ElemsR w ba c.boats.length 4 (boatCell c.boats) ∧ ElemsR w la c.looks.length 3 (lookCell c.looks) := by
  obtain ⟨y, h⟩ := h
  obtain ⟨xs, n, rfl, _, hl, hx, hf⟩ := DataW.trod_struct Tryd.underlying28 h
  rw [cells_cut] at hl
  have hx : xs.length = 6 := hx
  obtain ⟨c0, c1, c2, c3, c4, c5, c6, c7, rfl⟩ := list8 hl
  clear hl
  obtain ⟨d1, d2, hd⟩ := trod_span ⟨_, (hf 0 _ rfl).trans (List.getElem?_eq_getElem (by omega))⟩
  obtain ⟨e1, e2, he⟩ := trod_span ⟨_, (hf 1 _ rfl).trans (List.getElem?_eq_getElem (by omega))⟩
  obtain ⟨ra, rain, rc, hr, kr, _, hra⟩ := trod_rain ⟨_, (hf 2 _ rfl).trans (List.getElem?_eq_getElem (by omega))⟩
  obtain ⟨m, hm, _⟩ := trod_i ⟨_, (hf 3 _ rfl).trans (List.getElem?_eq_getElem (by omega))⟩
  obtain ⟨ba, boats, bc, hb, kb, _, hba⟩ := trod_boats ⟨_, (hf 4 _ rfl).trans (List.getElem?_eq_getElem (by omega))⟩
  obtain ⟨la, looks, lc, hlk, kl, _, hla⟩ := trod_looks ⟨_, (hf 5 _ rfl).trans (List.getElem?_eq_getElem (by omega))⟩
  simp [cells_int, cells_span, cells_rain, cells_boats, cells_looks] at hd he hr hm hb hlk
  exact ⟨⟨(d1, d2), (e1, e2), rain, m, boats, looks⟩, ra, ba, la, rc, bc, lc, by rw [hd.1, hd.2, he.1, he.2, hr, hm, hb, hlk]; rfl, ⟨kr, kb, kl⟩, hra, hba, hla⟩
end
end Go.Proofs.YtlkhjnpflohfeaaDoor

/- The laid variable. -/
namespace Go.Proofs.YtlkhjnpflohfeaaDoor
open Go Go.Proofs Go.RowKit Go.ChangeShapes Go.WideShapes Go.Deep
theorem dry_named : Tryd.prog.globalNamed "bogworks/cut.dry" = some 0 := by kernel_rfl
theorem dry_type : (Tryd.prog.globals[0]?).map (·.type) = some 83 := by kernel_rfl
theorem cells_water : Tryd.prog.cellsOf 83 = 2 := by kernel_rfl
#check @Tryd.underlying83
theorem dry_of_laid {W : World} (h : laidMet Tryd.prog [("bogworks/cut.dry", Rows.laid_bogworks_cut_dry)] W) : Dry W := by
  obtain ⟨ps, ⟨g, t, cs, fuel, p, q, e1, e2, e3, e4, _, _⟩, _, _⟩ := h
  obtain rfl := Option.some.inj (dry_named.symm.trans e1)
  obtain rfl := Option.some.inj (dry_type.symm.trans e2)
  obtain ⟨xs, n, rfl, hx, hl, hxs, hf⟩ := DataW.trod_struct Tryd.underlying83 e4
  rw [cells_water] at hl
  have hxs : xs.length = 1 := hxs
  obtain ⟨c0, c1, hcs⟩ := list2 hl
  have h0 := (hf 0 _ rfl).trans (List.getElem?_eq_getElem (by omega))
  obtain ⟨ys, m, rfl, hy, _, hys, hg⟩ := DataW.trod_struct Tryd.underlying23 h0
  have hys : ys.length = 2 := hys
  have i0 := (hg 0 _ rfl).trans (List.getElem?_eq_getElem (by omega))
  have i1 := (hg 1 _ rfl).trans (List.getElem?_eq_getElem (by omega))
  obtain ⟨a, ha, hya, _⟩ := DataW.trod_int Tryd.underlying3 i0
  obtain ⟨b, hb, hyb, _⟩ := DataW.trod_int Tryd.underlying3 i1
  rw [hcs] at ha hb
  simp [cells_int, cells_span] at ha hb
  have hd : Rows.laid_bogworks_cut_dry (H := Unit) = .agg [.agg [.lit (.int .i64 a), .lit (.int .i64 b)]] := by
    have h1 := congrArg Prod.fst hx
    have h2 := congrArg Prod.fst hy
    simp only at h1 h2
    rw [h1]
    obtain ⟨y0, rfl⟩ : ∃ y0, xs = [y0] := by
      match xs, hxs with | [y0], _ => exact ⟨y0, rfl⟩
    obtain ⟨z0, z1, rfl⟩ : ∃ z0 z1, ys = [z0, z1] := by
      match ys, hys with | [z0, z1], _ => exact ⟨z0, z1, rfl⟩
    simp at h2 hya hyb ⊢
    rw [h2, hya, hyb]
  unfold Rows.laid_bogworks_cut_dry at hd
  simp at hd
  obtain ⟨rfl, rfl⟩ := hd
  have g0 := World.var?_cell dry_named e3 0
  have g1 := World.var?_cell dry_named e3 1
  rw [← Array.getElem?_toList, hcs] at g0 g1
  simp at g0 g1
  rw [ha] at g0
  rw [hb] at g1
  exact ⟨block_lt g0, g0, g1⟩
end Go.Proofs.YtlkhjnpflohfeaaDoor

/- What the rows of the laws have in common. -/
namespace Go.Proofs.YtlkhjnpflohfeaaDoor
open Go Go.Proofs Go.ChangeShapes Go.WideShapes Go.RowKit Go.Deep
theorem own' : ownKnob Tryd.prog.godebug = none := by kernel_rfl
theorem laidOut' : laidOutB Tryd.prog = true := by kernel_rfl
noncomputable def laidWorld (os : Os) : World :=
  { World.holding Tryd.prog os ⟨#[], #[], []⟩ with heap := (World.holding Tryd.prog os ⟨#[], #[], []⟩).heap.modify 0 fun
      | .cells _ t frozen => .cells #[.int .i64 1048576, .int .i64 (-1048576)] t frozen
      | o => o }
theorem laid_met (os : Os) (args : Array Value) : laidMetH Tryd.prog [("bogworks/cut.dry", Rows.laid_bogworks_cut_dry)] ((laidWorld os).forCall (fun _ _ => 0) ⟨#[], args, []⟩).memory :=
  laidMetH_of_parts (laidMet_of_run' 8 (by kernel_rfl) (by kernel_rfl)) (by kernel_rfl)
def noCut : Value := .agg #[.int .i64 0, .int .i64 0, .int .i64 0, .int .i64 0, .slice none 0 0, .int .i64 0, .slice none 0 0, .slice none 0 0]
set_option maxRecDepth 100000 in
theorem open_cut {H : Type} {enc : TypeId × Value → H} {W : World} {v : Value} {d : DataW H} {p : List MemPlace} {base : Nat} (hd : Dry W)
    (hv : Value.okWide Tryd.prog W .any base 28 v) (h : DataW.Trod enc Tryd.prog W 0 (fun _ => true) true 28 v d p) :
    ∃ (c : CutD) (ra ba la : Option Addr) (rc bc lc : Nat), v = cutVal c ra ba la rc bc lc ∧ CutIn W c ra ba la ∧ c.rain.length ≤ rc ∧ c.boats.length ≤ bc ∧ c.looks.length ≤ lc := by
  obtain ⟨cs, rfl, _⟩ := okWide_struct Tryd.underlying28 hv
  obtain ⟨fuel, hf⟩ := h
  obtain ⟨c, ra, ba, la, rc, bc, lc, h1, ⟨k1, k2, k3⟩, h2, h3, h4⟩ := trod_cut ⟨_, hf⟩
  refine ⟨c, ra, ba, la, rc, bc, lc, ?_, ⟨h2, h3, h4, hd⟩, k1, k2, k3⟩
  have h1' : cs.toList = cutCells c ra ba la rc bc lc := h1
  unfold cutVal
  rw [show cs = (cutCells c ra ba la rc bc lc).toArray by rw [← h1']]
  rfl

end Go.Proofs.YtlkhjnpflohfeaaDoor

/- What the rows of the laws have in common: a look, a list of numbers. -/
namespace Go.Proofs.YtlkhjnpflohfeaaDoor
open Go Go.Proofs Go.ChangeShapes Go.WideShapes Go.RowKit Go.Deep
def lookVal (l : Look) : Value := .agg #[.int .i64 l.day, .int .i64 l.depth.1, .int .i64 l.depth.2]
theorem cells_u16 : Tryd.prog.cellsOf 111 = 1 := by kernel_rfl
theorem bounds_u16 {n : Int} (h : (Lit.int .u16 n).wf = true) : 0 ≤ n ∧ n ≤ 65535 := by
  simp [Lit.wf, IntKind.min, IntKind.max, IntKind.signed, IntKind.bits] at h
  omega
theorem getD_at {α : Type} {l : List α} {i : Nat} {d : α} (h : i < l.length) : l.getD i d = l[i] := by simp [h]
def U16 : Type := { n : Int // (Lit.int .u16 n).wf = true }
set_option maxRecDepth 100000 in
theorem open_u16s {H : Type} {enc : TypeId × Value → H} {W : World} {v : Value} {d : DataW H} {p : List MemPlace} {base : Nat}
    (hv : Value.okWide Tryd.prog W .any base 42 v) (h : DataW.Trod enc Tryd.prog W 0 (fun _ => true) true 42 v d p) :
    ∃ (ua : Option Addr) (u : List Int) (uc : Nat), v = .slice ua u.length uc ∧ u.length ≤ uc ∧ ElemsR W ua u.length 1 (fun i _ => .int .u16 (u.getD i 0)) ∧ (∀ n ∈ u, 0 ≤ n ∧ n ≤ 65535) ∧ u.length ≤ 9223372036854775807 := by
  obtain ⟨a, len, cap, rfl⟩ := okWide_slice Tryd.underlying42 hv
  obtain ⟨fuel, hf⟩ := h
  obtain ⟨ra, l, rc, h1, h2, h3, h4⟩ := row_of (α := U16) (k := 1) ⟨0, by decide⟩ (fun n => [.int .u16 n.1]) (by omega) (fun _ => rfl) Tryd.underlying42 cells_u16
    (fun _ _ h => by
      obtain ⟨y, h⟩ := h
      obtain ⟨n, h1, _, h2⟩ := DataW.trod_int Tryd.underlying111 h
      exact ⟨⟨n, h2⟩, h1⟩) ⟨_, hf⟩
  have h1' : ([.slice a len cap] : List Value) = [.slice ra l.length rc] := h1
  simp only [List.cons.injEq, and_true] at h1'
  refine ⟨ra, l.map (·.1), rc, by rw [List.length_map]; exact h1', by rw [List.length_map]; exact h2, ?_, ?_, ?_⟩
  · rw [List.length_map]
    refine elems_to h4 fun i j hi hj => ?_
    obtain rfl : j = 0 := by omega
    simp [hi]
    exact congrArg Subtype.val (getD_at hi)
  · intro n hn
    obtain ⟨x, _, rfl⟩ := List.mem_map.1 hn
    exact bounds_u16 x.2
  · rw [List.length_map]; unfold maxLen at h3; omega
namespace Ev
theorem u16s_vr {W : World} {μ : Mu} {ua : Option Addr} {u : List Int} {uc : Nat} (h1 : u.length ≤ uc) (h2 : ElemsR W ua u.length 1 (fun i _ => .int .u16 (u.getD i 0))) :
    VR W (fun _ => False) μ (.vs 1 (u.map (AV.int .u16))) (.slice ua u.length uc) := by
  by_cases h0 : u = []
  · subst h0; exact .vs0
  · rcases h2 with h2 | ⟨b, off, rfl, _, hcell⟩
    · exact absurd (List.eq_nil_of_length_eq_zero h2) h0
    · have key : VR W (fun _ => False) μ (.vs 1 (u.map (AV.int .u16))) (.slice (some ⟨b, off, none⟩) (u.map (AV.int .u16)).length uc) := by
        refine .vs (fun i _ => .int .u16 (u.getD i 0)) (by simpa using h1) (fun i e h => ?_) (fun i e j x h hx => ?_) (fun i e j x h hx => ?_)
        · obtain ⟨a, _, rfl⟩ := map_get h; rfl
        · obtain ⟨a, ha, rfl⟩ := map_get h
          have hj := (List.getElem?_eq_some_iff.1 hx).1
          have hj1 : j < 1 := hj
          exact ⟨id, hcell i j (List.getElem?_eq_some_iff.1 ha).1 hj1⟩
        · obtain ⟨a, ha, rfl⟩ := map_get h
          match j, hx with
          | 0, hx =>
            cases hx
            have e : u.getD i 0 = a := by simp [ha]
            rw [e]; exact .int
          | j + 1, hx => simp [AV.cells] at hx
      rw [List.length_map] at key
      exact key
end Ev
end Go.Proofs.YtlkhjnpflohfeaaDoor

/- CutTrue answers true. -/
namespace Go.Proofs.YtlkhjnpflohfeaaDoor
open Go Go.Proofs Go.RowKit
open Ev
namespace Ev
set_option maxRecDepth 100000
/-- A draw's maker, gone through. -/
theorem draws_fun (C : Cfg) (call : CallF) (c0 : AB) (ns : List AV) :
    Does (ev C call 1 none af31.body { tm := tmA 5 (zipI 0 [.vs 1 ns] []), df := [], hp := [c0], tc := [] })
      (fun e st => e = .ret ∧ st.df = [] ∧ st.tm.getD 2 .unk = .fn (.func 79) [] [.ptr 2 0, .ptr 1 0] ∧ st.hp = [c0, .cells [.vs 1 ns], .cells [.int .i64 0]] ∧ st.tc = []) := by
  unfold af31
  simp only [zipI]
  (repeat (first | (with_reducible apply ops_cons; (focus ((conv => lhs; simp [ev1, wantG, spineK, spine, float, xnew, xval, xeff, val_tmA_cons, val_tmA_nil, val_val, putT_some, putT_none, addFl, cellsOf, pickC, alive, slLen, slFt, binI, maxA, maxK, minA, minK, aeqK, aeqS, AV.cells, slCells_sl, boatE, spanE, lookE, fillA, setAt, bitsI, nat_nn, AV.plain, apart, Nat.testBit_eq_decide_div_mod_eq, *]) <;> exact rfl)); simp only [addFl]) | ((first | with_reducible refine does_seq ?_ | with_reducible refine does_ops ?_ | with_reducible refine does_draw ?_ | with_reducible refine does_skip ?_ | with_reducible refine does_block ?_ | with_reducible refine does_ret ?_ | with_reducible refine does_exit ?_ | with_reducible refine ops_nil ?_ | (with_reducible apply does_true; (focus (simp [val_tmA_cons, *]; done))) | (with_reducible apply does_false; (focus (simp [val_tmA_cons, *]; done)))); try simp only [Then, Ops, OutB, reduceIte])))
  exact ⟨by first | trivial | rfl, by first | trivial | rfl, by simp only [tmA_getD_cons]; simp, by simp, by first | trivial | rfl⟩
theorem draws_made {C : Cfg} {n : Nat} (hc : C.calm = true) (hx : C.ext 31 = none) (hxh : C.exth 31 = none) (hf : C.fns 31 = some af31) (hw : C.whole 31 = true) (ns : List AV) (c0 : AB) :
    Ev.call C (n + 1) (.fn (.func 31) [] []) [.vs 1 ns] [c0] = some (.ret (.fn (.func 79) [] [.ptr 2 0, .ptr 1 0]), [c0, .cells [.vs 1 ns], .cells [.int .i64 0]], []) := by
  have := call_fn (n := n) (first := []) (captured := []) (args := [.vs 1 ns]) (H := [c0])
    (R := fun x H' tc => x = .ret (.fn (.func 79) [] [.ptr 2 0, .ptr 1 0]) ∧ H' = [c0, .cells [.vs 1 ns], .cells [.int .i64 0]] ∧ tc = []) hc hx hxh hf hw (show (1 : Nat) ≤ 5 by omega) (by
    refine (draws_fun C (Ev.call C n) c0 ns).mono fun e st ⟨h1, h2, h3, h4, h5⟩ => ?_
    subst h1
    refine ⟨.ret (.fn (.func 79) [] [.ptr 2 0, .ptr 1 0]), st, ?_, ?_⟩
    · have e1 : runDefs C [c0].length st.df none st = some (none, st) := by rw [h2]; rfl
      show (match runDefs C [c0].length st.df none st with
        | some (none, st) => (resL st [.tmp 2]).map fun vs => (CRes.ret (resV vs), st)
        | _ => none) = _
      rw [e1]
      show (resL st [.tmp 2]).map (fun vs => (CRes.ret (resV vs), st)) = _
      simp only [resL, resOf, h3]
      rfl
    · unfold Left
      rw [h5, h4]
      rw [if_neg (by unfold bareQ; simp [CRes.val, refs, refsL])]
      exact ⟨rfl, rfl, rfl⟩)
  obtain ⟨x, H', tc, h1, rfl, rfl, rfl⟩ := this
  exact h1
theorem overH_two (c0 x y z : AB) (T : List AB) : ∀ n, overH [c0, x, y] (c0 :: x :: z :: T) (List.replicate (n + 1) 2) = [c0, x, z]
  | 0 => rfl
  | n + 1 => by
    rw [List.replicate_succ]
    show (overH [c0, x, y] (c0 :: x :: z :: T) (List.replicate (n + 1) 2)).set 2 z = _
    rw [overH_two c0 x y z T n]; rfl
theorem truly_call {C : Cfg} {n : Nat} (hc : C.calm = true) (hx : C.ext 32 = none) (hxh : C.exth 32 = none) (hf : C.fns 32 = some af32) (hw : C.whole 32 = true)
    (A : Api) (hA : ApiOk (Ev.call C n) A) (a b k l m : Int) (r : List (Int × Int)) (bs : List Boat) (ls : List Look) (ns : List Int) (hD : Draws (Ev.call C n) ns) (V : Cut.Valid ⟨(a, b), (k, l), r, m, bs, ls⟩) (c0 : AB) :
    ∃ (B3 B4 : AB) (J : List AB) (jd : Nat) (lv : AV), J[jd]? = some (.cells ((List.range (r.length + 1)).map fun i => .int .i64 (truD ⟨(a, b), (k, l), r, m, bs, ls⟩ ns i))) ∧ Sel5 J jd (ls.map fun l' => nearLook l' (truD ⟨(a, b), (k, l), r, m, bs, ls⟩ ns l'.day.toNat)) lv ∧
      Ev.call C (n + 1) (.fn (.func 32) [] []) [.agg [.int .i64 a, .int .i64 b, .int .i64 k, .int .i64 l, .vs 2 (r.map spanE), .int .i64 m, .vs 4 (bs.map boatE), .vs 3 (ls.map lookE)], .fn (.func 79) [] [.ptr 2 0, .ptr 1 0]] [c0, .cells [.vs 1 (ns.map (AV.int .u16))], .cells [.int .i64 0]] =
        some (.ret (.tup [.agg [.int .i64 a, .int .i64 b, .int .i64 k, .int .i64 l, .vs 2 (r.map spanE), .int .i64 m, .vs 4 (bs.map boatE), lv], .int .i64 (truL ⟨(a, b), (k, l), r, m, bs, ls⟩ ns), .sl (5 + jd) 0 (r.length + 1) 1]), c0 :: .cells [.vs 1 (ns.map (AV.int .u16))] :: .cells [.int .i64 (2 + (r.length : Int))] :: B3 :: B4 :: J, List.replicate (r.length + 2) 2) := by
  have := call_fn (n := n) (first := []) (captured := []) (args := [.agg [.int .i64 a, .int .i64 b, .int .i64 k, .int .i64 l, .vs 2 (r.map spanE), .int .i64 m, .vs 4 (bs.map boatE), .vs 3 (ls.map lookE)], .fn (.func 79) [] [.ptr 2 0, .ptr 1 0]]) (H := [c0, .cells [.vs 1 (ns.map (AV.int .u16))], .cells [.int .i64 0]])
    (R := fun x H' tc => ∃ (B3 B4 : AB) (J : List AB) (jd : Nat) (lv : AV), J[jd]? = some (.cells ((List.range (r.length + 1)).map fun i => .int .i64 (truD ⟨(a, b), (k, l), r, m, bs, ls⟩ ns i))) ∧ Sel5 J jd (ls.map fun l' => nearLook l' (truD ⟨(a, b), (k, l), r, m, bs, ls⟩ ns l'.day.toNat)) lv ∧
      x = .ret (.tup [.agg [.int .i64 a, .int .i64 b, .int .i64 k, .int .i64 l, .vs 2 (r.map spanE), .int .i64 m, .vs 4 (bs.map boatE), lv], .int .i64 (truL ⟨(a, b), (k, l), r, m, bs, ls⟩ ns), .sl (5 + jd) 0 (r.length + 1) 1]) ∧ H' = c0 :: .cells [.vs 1 (ns.map (AV.int .u16))] :: .cells [.int .i64 (2 + (r.length : Int))] :: B3 :: B4 :: J ∧ tc = List.replicate (r.length + 2) 2) hc hx hxh hf hw (show (2 : Nat) ≤ 94 by omega) (by
    refine (truly_fun C hc (Ev.call C n) A hA a b k l m r bs ls ns hD V c0).mono fun e st ⟨h1, h2, h3, J, jd, lv, hj, hs, k4, k5, k6, hh⟩ => ?_
    subst h1
    simp only at h3 hh hj hs k6
    refine ⟨.ret (.tup [.agg [.int .i64 a, .int .i64 b, .int .i64 k, .int .i64 l, .vs 2 (r.map spanE), .int .i64 m, .vs 4 (bs.map boatE), lv], .int .i64 (truL ⟨(a, b), (k, l), r, m, bs, ls⟩ ns), .sl (5 + jd) 0 (r.length + 1) 1]), st, ?_, ?_⟩
    · have e1 : ∀ p, runDefs C p st.df none st = some (none, st) := fun p => by rw [h2]; rfl
      show (match runDefs C 3 st.df none st with
        | some (none, st) => (resL st [.cell 4 (some 8), .tmp 5, .tmp 6]).map fun vs => (CRes.ret (resV vs), st)
        | _ => none) = _
      rw [e1]
      show (resL st [.cell 4 (some 8), .tmp 5, .tmp 6]).map (fun vs => (CRes.ret (resV vs), st)) = _
      have e2 : resOf st (.cell 4 (some 8)) = some (.agg [.int .i64 a, .int .i64 b, .int .i64 k, .int .i64 l, .vs 2 (r.map spanE), .int .i64 m, .vs 4 (bs.map boatE), lv]) := by
        simp only [resOf, k4, hh]; rfl
      simp only [resL, e2]
      simp only [resOf, k5, k6]
      rfl
    · unfold Left
      rw [h3, hh]
      rw [if_neg (by unfold bareQ; simp [List.replicate_succ])]
      apply Exists.intro; apply Exists.intro
      refine ⟨J, jd, lv, hj, hs, rfl, ?_, rfl⟩
      rw [overH_two]; rfl)
  obtain ⟨x, H', tc, h1, B3, B4, J, jd, lv, hj, hs, rfl, rfl, rfl⟩ := this
  exact ⟨B3, B4, J, jd, lv, hj, hs, h1⟩
end Ev
theorem truD_succ (c : CutD) (ns : List Int) (d : Nat) : truD c ns (d + 1) = max 0 (min c.most (truD c ns d + (drawV ns (2 + d) (Cut.spanAt c.rain d).1 (Cut.spanAt c.rain d).2 - truL c ns))) := rfl
theorem truths_of {c : CutD} (V : Cut.Valid c) (ns : List Int) : Truths specApi (truly c (truD c ns)) (truL c ns) (truD c ns) := by
  have hb : ∀ d, d ≤ c.rain.length → 0 ≤ truD c ns d ∧ truD c ns d ≤ c.most := fun d _ => truD_in V ns d
  have ht := truly_truth V (leak := truL c ns) (t := truD c ns) (drawV_in ns 1 V.d1) (fun d hd => ⟨_, drawV_in ns (2 + d) (V.rain d hd).2.1, by rw [truD_succ]; unfold Cut.held; rw [Int.add_sub_assoc]⟩) hb
  obtain ⟨p1, p2, p3, p4, p5⟩ := true_plain (truly_valid V hb) (leak := truL c ns) (drawV_in ns 0 V.l1) ht
  unfold Cut.inS at p3 p4
  refine ⟨p1, p2, ?_, fun d hd => (p4 d hd).1, fun d hd => ?_, fun bi h ld l0 l1 dr h1 h2 => p5 bi h ld l0 l1 dr ⟨h1, h2⟩⟩
  · show Cut.within _ (leakR _).1.1 (leakR _).1.2 = true
    simp [Cut.within]; exact p3
  · show Cut.within _ (depthR _ _).1.1 (depthR _ _).1.2 = true
    have := (p4 d hd).2
    simp [Cut.within]; exact this
set_option maxRecDepth 100000 in
theorem true_found (c : CutD) (w1 w2 : Int) (u1 : 0 ≤ w1 ∧ w1 ≤ 255) (u2 : 0 ≤ w2 ∧ w2 ≤ 255) (ns : List Int) (hns : ∀ n ∈ ns, 0 ≤ n ∧ n ≤ 65535) (hlen : ns.length ≤ 9223372036854775807) : ∃ H' tc, Ev.call cfgC 4 (.fn (.func 5) [] []) [cutA c, .int .u8 w1, .int .u8 w2, .vs 1 (ns.map (AV.int .u16))] [] = some (.ret (.bool true), H', tc) := by
  refine yes_call (t := 8) (n := 3) (fn := af5) rfl rfl rfl (by kernel_rfl) rfl rfl (show (4 : Nat) ≤ 211 by omega) ?_
  cases hf : fineD c with
  | false =>
    obtain ⟨⟨a, b⟩, ⟨k, l⟩, r, m, bs, ls⟩ := c
    exact true_not cfgC _ specApi (apiC 2) a b k l m r bs ls w1 w2 _ hf
  | true =>
    have V := Cut.valid_of (fine_valid hf)
    have hl := truths_of V ns
    obtain ⟨⟨a, b⟩, ⟨k, l⟩, r, m, bs, ls⟩ := c
    exact true_main cfgC rfl _ specApi (apiC 2) a b k l m r bs ls w1 w2 u1 u2 ns hf V (draws_call (n := 2) rfl rfl rfl (by kernel_rfl) rfl ns hns hlen) _ _ _ (fun c0 => draws_made (n := 2) rfl rfl rfl (by kernel_rfl) rfl _ c0)
      (fun c0 => truly_call (n := 2) rfl rfl rfl (by kernel_rfl) rfl specApi (apiC 1) a b k l m r bs ls ns (draws_call (n := 1) rfl rfl rfl (by kernel_rfl) rfl ns hns hlen) V c0) hl
theorem lawCutTrue (c : CutD) (ra ba la : Option Addr) (rc bc lc : Nat) {W : World} (hin : CutIn W c ra ba la) (h1 : c.rain.length ≤ rc) (h2 : c.boats.length ≤ bc) (h3 : c.looks.length ≤ lc) (x1 : Int) (wf1 : (Lit.int .u8 x1).wf = true) (x2 : Int) (wf2 : (Lit.int .u8 x2).wf = true)
    (ua : Option Addr) (u : List Int) (uc : Nat) (uk : u.length ≤ uc) (ue : ElemsR W ua u.length 1 (fun i _ => .int .u16 (u.getD i 0))) (uw : (∀ n ∈ u, 0 ≤ n ∧ n ≤ 65535) ∧ u.length ≤ 9223372036854775807) :
    Calls Tryd.prog 5 #[cutVal c ra ba la rc bc lc, .int .u8 x1, .int .u8 x2, .slice ua u.length uc] W fun e W' => e = .returned (.bool true) ∧ Below W.heap.size W W' := by
  obtain ⟨H', tc, h⟩ := true_found c x1 x2 (bounds_u8 wf1) (bounds_u8 wf2) u uw.1 uw.2
  exact callsIn_wide.1 (top_args tblC h W (globs_of_dry hin.dry) (VL.cons (cut_vr hin h1 h2 h3) (VL.cons .int (VL.cons .int (VL.cons (u16s_vr uk ue) VL.nil)))))
end Go.Proofs.YtlkhjnpflohfeaaDoor

/- The Go function CutTrue returns true, for every argument, in every world in which cut.dry holds what the program's text lays; nothing that was there is turned. -/
namespace Go.Proofs.YtlkhjnpflohfeaaDoor
open Go Go.Proofs Go.ChangeShapes Go.WideShapes Go.RowKit Go.Deep
set_option maxRecDepth 100000 in
theorem cutTrue_lifted (os : Os) (started : os.Started) (H : Type) (enc : TypeId × Value → H) :
    ReturnsInHanded {} Tryd.checked os 5 .any (fun w args => (Rows.cutTrueSpec.pre enc Tryd.prog Tryd.f5 [] false w args ∧ laidMetH Tryd.prog [("bogworks/cut.dry", Rows.laid_bogworks_cut_dry)] w) ∧ sizedMet enc Tryd.prog Tryd.f5 (OpenSpec.ofChange Rows.cutTrueSpec) false w args)
      (Rows.cutTrueSpec.post enc Tryd.prog Tryd.f5 false true false false) := by
  refine returnsInHanded_of_change_and (C := Tryd.checked) (X := fun w _ => laidMetH Tryd.prog [("bogworks/cut.dry", Rows.laid_bogworks_cut_dry)] w) (fun _ _ _ hh h => h.of_heap hh) own' started (by kernel_rfl) Tryd.func5
    (ChangeSpec.witness_at (enc := enc) (C := Tryd.checked) (os := os) (X := fun w _ => laidMetH Tryd.prog [("bogworks/cut.dry", Rows.laid_bogworks_cut_dry)] w) false (laidWorld os) #[noCut, .int .u8 0, .int .u8 0, .slice none 0 0] 8 rfl (by kernel_rfl) (by kernel_rfl) (by kernel_rfl) (by kernel_rfl) (by kernel_rfl) (laid_met os _)) ?_
  intro W base args ds gs before hval0 hW _ _ hL _
  have hval : ∀ (j : Nat) t v, Tryd.f5.params[j]? = some t → args[j]? = some v → Value.okWide Tryd.prog W .any base t v := hval0
  have hW' := hW
  obtain ⟨p, q, hA0, hV0, rfl, hfz, hnd⟩ := hW
  have hA : DataW.TrodAll enc Tryd.prog W 0 (fun _ => true) true Tryd.f5.params.toList args.toList ds p := hA0
  have hV : DataW.TrodVars enc Tryd.prog W (fun _ => true) [] gs q := hV0
  rw [Tryd.params5] at hA hval
  clear hA0 hval0 hV0
  obtain ⟨v0, vs0, d0, ds0, p0, q0, hargs0, rfl, rfl, h0, hA0⟩ := trodAll_cons hA
  obtain ⟨v1, vs1, d1, ds1, p1, q1, rfl, rfl, rfl, h1, hA1⟩ := trodAll_cons hA0
  obtain ⟨v2, vs2, d2, ds2, p2, q2, rfl, rfl, rfl, h2, hA2⟩ := trodAll_cons hA1
  obtain ⟨v3, vs3, d3, ds3, p3, q3, rfl, rfl, rfl, h3, hA3⟩ := trodAll_cons hA2
  obtain ⟨rfl, rfl, rfl⟩ := trodAll_nil hA3
  obtain rfl : args = #[v0, v1, v2, v3] := Array.ext' hargs0
  have hdry : Dry W := dry_of_laid hL
  obtain ⟨c, ra, ba, la, rc, bc, lc, rfl, hin, hc1, hc2, hc3⟩ := open_cut hdry (hval 0 28 v0 rfl rfl) h0
  obtain ⟨x1, rfl, rfl, rfl, wf1⟩ := open_int Tryd.underlying5 (hval 1 5 v1 rfl rfl) h1
  obtain ⟨x2, rfl, rfl, rfl, wf2⟩ := open_int Tryd.underlying5 (hval 2 5 v2 rfl rfl) h2
  obtain ⟨ua3, u3, uc3, rfl, uk3, ue3, uw3⟩ := open_u16s (hval 3 42 v3 rfl rfl) h3
  obtain ⟨rfl, rfl⟩ : gs = [] ∧ q = [] := by
    cases gs with
    | nil => exact ⟨rfl, hV⟩
    | cons g r => exact absurd hV (by intro h; cases h)
  simp only [List.append_nil] at hW'
  have hlt : ∀ x ∈ (p0 ++ ([] ++ ([] ++ (p3 ++ [])))), x.block < W.heap.size := fun x hx => by simpa using hW'.lt x (by simpa using hx)
  refine (lawCutTrue c ra ba la rc bc lc hin hc1 hc2 hc3 x1 wf1 x2 wf2 ua3 u3 uc3 uk3 ue3 uw3).mono fun e W' ⟨he, bel⟩ => ?_
  subst he
  refine ⟨_, rfl, _, _, _, [], (p0 ++ ([] ++ ([] ++ (p3 ++ [])))), [], hW', ?_, ?_, rfl, bel.frame _, fun h => by cases h⟩
  · exact trodAll_mk1 (shut_bool Tryd.underlying4 true)
  · exact trodAll_cons_mk (Below.trod laidOut' (by kernel_rfl) (of_decide_eq_true (by kernel_rfl)) h0 bel (fun x hx => hlt x (by simp [hx]))) (trodAll_cons_mk (shut_int Tryd.underlying5 wf1) (trodAll_cons_mk (shut_int Tryd.underlying5 wf2) (trodAll_cons_mk (Below.trod laidOut' (by kernel_rfl) (of_decide_eq_true (by kernel_rfl)) h3 bel (fun x hx => hlt x (by simp [hx]))) (trodAll_mk0))))

theorem cutTrue_row : Rows.CutTrueSaid :=
  OpenClaim.holds_of_wide 5 Tryd.f5 rfl rfl rfl rfl rfl rfl rfl ⟨rfl, rfl, rfl, rfl, rfl⟩ rfl rfl rfl rfl rfl (by kernel_rfl) Tryd.func5 (by kernel_rfl)
    (of_decide_eq_true (by kernel_rfl)) (by unfold Func.isWrapper; rw [if_neg (of_decide_eq_false (by kernel_rfl))]; exact ⟨rfl, rfl⟩)
    (fun os started H enc _ => cutTrue_lifted os started H enc)

set_option maxRecDepth 100000 in
/-- The statement. -/
theorem cutTrue_holds : Rows.CutTrueCardSaid :=
  Claim7.holds_tied_plain_at .later [] [.data] true (true, "9723bbfeb16b6261ef9604731379b2640b68d1d36b45d3ac66265463b7b658c0") true
    cutTrue_row (fun _ h => by cases h) (by kernel_rfl) (fun _ h => by cases h) cutTrue_row_tie rfl ⟨rfl, rfl⟩ (by kernel_rfl) rfl
    (fun f fn hf hfn => by
      obtain rfl : f = 5 := Option.some.inj ((show Tryd.prog.funcNamed "bogworks/bogworkslaw06.CutTrue" = some 5 by kernel_rfl).symm.trans hf) |>.symm
      obtain rfl : fn = Tryd.f5 := (Option.some.inj (Tryd.func5.symm.trans hfn)).symm
      exact ⟨by kernel_rfl, fun j t ht => by
        rw [Tryd.params5] at ht
        have h3 : t = 28 ∨ t = 5 ∨ t = 42 := by
          rcases j with _ | _ | _ | _ | j
          · exact .inl (by simpa using ht.symm)
          · exact .inr (.inl (by simpa using ht.symm))
          · exact .inr (.inl (by simpa using ht.symm))
          · exact .inr (.inr (by simpa using ht.symm))
          · simp at ht
        rcases h3 with rfl | rfl | rfl
        · exact (show Tryd.prog.wantsStandIn 28 = false by kernel_rfl)
        · exact (show Tryd.prog.wantsStandIn 5 = false by kernel_rfl)
        · exact (show Tryd.prog.wantsStandIn 42 = false by kernel_rfl)⟩)
    (by kernel_rfl)
#print axioms cutTrue_holds
end Go.Proofs.YtlkhjnpflohfeaaDoor
