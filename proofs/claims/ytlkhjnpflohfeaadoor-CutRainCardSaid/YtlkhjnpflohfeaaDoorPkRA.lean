/- The Go function CutRain returns true, for every argument, in every world in which cut.dry holds what the program's text lays; nothing that was there is turned. -/
import Derived.Test.YtlkhjnpflohfeaaDoorCoreD
import Derived.Test.YtlkhjnpflohfeaaDoorCoreF
import Derived.Test.YtlkhjnpflohfeaaDoorCoreL
import Derived.OpenShut
import Derived.Deep.Slices
import Derived.Deep.Fields
import Derived.ChangeSame
import Derived.Test.YtlkhjnpflohfeaaDoorRows
import Derived.LaidLaws
import Derived.ProofKit
import Derived.JoinedOf
import Derived.LaidHandle
import Derived.Stop.Joined
import Derived.Test.YtlkhjnpflohfeaaDoorCards
import Derived.Test.YtlkhjnpflohfeaaDoorTie
import Derived.SevenTiedAt
/- What CutFloats comes to. -/
namespace Go.Proofs.YtlkhjnpflohfeaaDoor
open Go
namespace Ev
/-- How a boat floats, by a depth. -/
def wantF (w : Int × Int) (b : Boat) (n : Nat) : Int := if b.draws.2 + b.per * n ≤ w.1 then 2 else if w.2 < b.draws.1 + b.per * n then 0 else 1
def lastF (w : Int × Int) (b : Boat) : Nat → Int
  | 0 => 2
  | n + 1 => wantF w b n
/-- The plain law, with some loads. -/
structure FloatsN (A : Api) (c : CutD) (b : Boat) (bi dn n : Nat) : Prop where
  fl : A.floats c bi n dn = (wantF (A.depth c dn).1 b n, 0)
  less : wantF (A.depth c dn).1 b n ≤ lastF (A.depth c dn).1 b n
  sure : wantF (A.depth c dn).1 b n = 2 ↔ (n : Int) ≤ (A.loads c bi dn).1.1
  may : wantF (A.depth c dn).1 b n ≠ 0 ↔ (n : Int) ≤ (A.loads c bi dn).1.2
  days : ∃ D S : Nat, A.days c bi n = (((D : Int), (S : Int)), 0) ∧ D < 1048576 ∧ S < 2 ^ (c.rain.length + 1) ∧ (D.testBit dn = true ↔ wantF (A.depth c dn).1 b n = 2) ∧ (S.testBit dn = true ↔ wantF (A.depth c dn).1 b n ≠ 0)
/-- The plain law. -/
structure Floats (A : Api) (c : CutD) (b : Boat) (bi dn : Nat) : Prop where
  rain : c.rain.length ≤ 8
  day : dn ≤ c.rain.length
  err : (A.loads c bi dn).2 = (A.depth c dn).2
  bad : (A.depth c dn).2 = 0 ∨ (A.depth c dn).2 = 10 ∧ (A.loads c bi dn).1 = (0, 0)
  draw : 0 ≤ b.draws.1 ∧ b.draws.1 ≤ 100 ∧ 0 ≤ b.draws.2 ∧ b.draws.2 ≤ 100 ∧ 0 ≤ b.per ∧ b.per ≤ 10
  room : ∃ rm : Nat, b.room = rm ∧ rm ≤ 10 ∧ ((A.depth c dn).2 = 0 → -1 ≤ (A.loads c bi dn).1.1 ∧ (A.loads c bi dn).1.1 ≤ (A.loads c bi dn).1.2 ∧ (A.loads c bi dn).1.2 ≤ rm ∧ ∀ n : Nat, n ≤ rm → FloatsN A c b bi dn n)
end Ev
end Go.Proofs.YtlkhjnpflohfeaaDoor

/- The plain law of CutFloats. -/
namespace Go.Proofs.YtlkhjnpflohfeaaDoor
open Go
namespace Cut
theorem lead_iff (p : Nat → Bool) (h : ∀ i j, i ≤ j → p j = true → p i = true) : ∀ m n, n < m → (n < lead p m ↔ p n = true)
  | 0, n, hn => by omega
  | m + 1, n, hn => by
    have hle := lead_le p m
    unfold lead
    by_cases hc : lead p m = m ∧ p m = true
    · rw [if_pos hc]
      exact ⟨fun _ => h n m (by omega) hc.2, fun _ => by omega⟩
    · rw [if_neg hc]
      by_cases hnm : n < m
      · exact lead_iff p h m n hnm
      · have : n = m := by omega
        subst this
        refine ⟨fun hx => by omega, fun hp => ?_⟩
        have hall : lead p n = n := by
          have hx : ∀ k, k ≤ n → lead p k = k := by
            intro k
            induction k with
            | zero => intro _; rfl
            | succ k ih =>
              intro hk
              unfold lead
              rw [if_pos ⟨ih (by omega), h k n (by omega) hp⟩]
          exact hx n (Nat.le_refl _)
        exact absurd ⟨hall, hp⟩ hc
theorem lead_mono (p q : Nat → Bool) (h : ∀ i, p i = true → q i = true) (hq : ∀ i j, i ≤ j → q j = true → q i = true) (hp : ∀ i j, i ≤ j → p j = true → p i = true) (m : Nat) : lead p m ≤ lead q m := by
  rcases Nat.eq_zero_or_pos (lead p m) with h0 | h0
  · omega
  · have hle := lead_le p m
    have h1 := (lead_iff p hp m (lead p m - 1) (by omega)).1 (by omega)
    have h2 := (lead_iff q hq m (lead p m - 1) (by omega)).2 (h _ h1)
    omega
theorem floats_less (b : Boat) (w : Int × Int) (hb : 0 ≤ b.per) {i j : Nat} (h : i ≤ j) : floats b j w ≤ floats b i w := by
  have hm : b.per * (i : Int) ≤ b.per * (j : Int) := Int.mul_le_mul_of_nonneg_left (by omega) hb
  unfold floats
  split
  · rw [if_pos (by omega)]; decide
  · split
    · split
      · decide
      · rw [if_pos (by omega)]; decide
    · split
      · decide
      · split <;> decide
theorem suits_mono (x : CutD) (k d : Nat) (s : Int) (hb : 0 ≤ (boatAt x.boats k).per) (i j : Nat) (h : i ≤ j) (hp : suits x k d s j = true) : suits x k d s i = true := by
  unfold suits at *
  simp only [decide_eq_true_eq] at *
  have := floats_less (boatAt x.boats k) (water x d) hb h
  omega
end Cut
theorem want_floats (b : Boat) (w : Int × Int) (n : Nat) : Ev.wantF w b n = Cut.floats b n w := by
  unfold Ev.wantF Cut.floats
  split
  · rfl
  · split
    · rw [if_neg (by omega)]
    · rw [if_pos (by omega)]
theorem floats_plain {c : CutD} (hf : fineD c = true) (bi dn : Nat) (hbi : bi < c.boats.length) (hdn : dn ≤ c.rain.length) : Ev.Floats specApi c c.boats[bi] bi dn := by
  have hv := fine_valid hf
  have V := Cut.valid_of hv
  have eL : loadsR c bi dn = if toldErr c true = 0 then ((Cut.loads c bi dn 2, Cut.loads c bi dn 1), 0) else ((0, 0), toldErr c true) := by
    unfold loadsR; rw [isBoat_nat hbi, isDay_nat hdn]; simp
  have eD : depthR c dn = if toldErr c true = 0 then (Cut.water c dn, 0) else ((0, 0), toldErr c true) := by
    unfold depthR; rw [isDay_nat hdn]; simp
  have hT := told_or hv
  have hB := V.boat bi hbi
  have hbt := boatAt_get hbi
  rw [hbt] at hB
  obtain ⟨b1, b2, b3, b4, b5, b6, b7⟩ := hB
  refine ⟨V.n8, hdn, ?_, ?_, ⟨b1, by omega, by omega, b3, b4, b5⟩, c.boats[bi].room.toNat, by omega, by omega, ?_⟩
  · show (loadsR c bi dn).2 = (depthR c dn).2
    rw [eL, eD]; split <;> rfl
  · show (depthR c dn).2 = 0 ∨ (depthR c dn).2 = 10 ∧ (loadsR c bi dn).1 = (0, 0)
    rw [eL, eD]
    rcases hT with h | h
    · rw [if_pos h]; exact .inl rfl
    · rw [if_neg (by omega), if_neg (by omega)]; exact .inr ⟨h, rfl⟩
  · intro h0
    have h0 : (depthR c dn).2 = 0 := h0
    have hz : toldErr c true = 0 := by
      rcases hT with h | h
      · exact h
      · rw [eD, if_neg (by omega)] at h0; rw [h] at h0; exact absurd h0 (by decide)
    rw [if_pos hz] at eL eD
    have m1 := Cut.suits_mono c bi dn 1 (by rw [hbt]; exact b4)
    have m2 := Cut.suits_mono c bi dn 2 (by rw [hbt]; exact b4)
    have hle1 := Cut.lead_le (Cut.suits c bi dn 1) ((Cut.boatAt c.boats bi).room.toNat + 1)
    have hmo := Cut.lead_mono (Cut.suits c bi dn 2) (Cut.suits c bi dn 1) (fun i h => by unfold Cut.suits at *; simp only [decide_eq_true_eq] at *; omega) m1 m2 ((Cut.boatAt c.boats bi).room.toNat + 1)
    show -1 ≤ (loadsR c bi dn).1.1 ∧ (loadsR c bi dn).1.1 ≤ (loadsR c bi dn).1.2 ∧ (loadsR c bi dn).1.2 ≤ ((c.boats[bi].room.toNat : Nat) : Int) ∧ ∀ n : Nat, n ≤ c.boats[bi].room.toNat → Ev.FloatsN specApi c c.boats[bi] bi dn n
    rw [eL]
    refine ⟨by simp only [Cut.loads]; omega, by simp only [Cut.loads]; omega, by simp only [Cut.loads]; rw [hbt] at *; omega, ?_⟩
    intro n hn
    have hwant : Ev.wantF (depthR c dn).1 c.boats[bi] n = Cut.floatsOn c bi n dn := by
      rw [want_floats, eD]; unfold Cut.floatsOn; rw [hbt]
    have hlast : ∀ k, k ≤ n → Ev.wantF (depthR c dn).1 c.boats[bi] k = Cut.floats c.boats[bi] k (Cut.water c dn) := fun k _ => by rw [want_floats, eD]
    have hor := Cut.floats_or c.boats[bi] n (Cut.water c dn)
    have hld : Cut.isLoads c bi n = true := isLoads_nat hbi (by omega) (by rw [hbt]; omega)
    have eF : floatsR c bi n dn = (Cut.floatsOn c bi n dn, 0) := by
      unfold floatsR isB
      rw [hld, isDay_nat hdn]
      simp only [Bool.and_self]
      rw [if_pos hz]; rfl
    have hs : ∀ s : Int, (n : Int) ≤ Cut.loads c bi dn s ↔ Cut.suits c bi dn s n = true := by
      intro s
      have := Cut.lead_iff (Cut.suits c bi dn s) (Cut.suits_mono c bi dn s (by rw [hbt]; exact b4)) ((Cut.boatAt c.boats bi).room.toNat + 1) n (by rw [hbt]; omega)
      rw [← this]
      unfold Cut.loads
      omega
    have hfo : Cut.floatsOn c bi n dn = Cut.floats c.boats[bi] n (Cut.water c dn) := by unfold Cut.floatsOn; rw [hbt]
    constructor
    · show floatsR c bi n dn = (Ev.wantF (depthR c dn).1 c.boats[bi] n, 0)
      rw [eF, hwant]
    · show Ev.wantF (depthR c dn).1 c.boats[bi] n ≤ Ev.lastF (depthR c dn).1 c.boats[bi] n
      cases n with
      | zero =>
        show _ ≤ (2 : Int)
        rw [hwant, hfo]; omega
      | succ k =>
        show _ ≤ Ev.wantF (depthR c dn).1 c.boats[bi] k
        rw [hlast (k + 1) (Nat.le_refl _), hlast k (by omega)]
        exact Cut.floats_less _ _ b4 (by omega)
    · show Ev.wantF (depthR c dn).1 c.boats[bi] n = 2 ↔ (n : Int) ≤ (loadsR c bi dn).1.1
      rw [hwant, eL]
      simp only
      rw [hs 2, hfo]
      unfold Cut.suits
      rw [hbt]
      simp only [decide_eq_true_eq]
      omega
    · show Ev.wantF (depthR c dn).1 c.boats[bi] n ≠ 0 ↔ (n : Int) ≤ (loadsR c bi dn).1.2
      rw [hwant, eL]
      simp only
      rw [hs 1, hfo]
      unfold Cut.suits
      rw [hbt]
      simp only [decide_eq_true_eq]
      omega
    · show ∃ D S : Nat, daysR c bi n = (((D : Int), (S : Int)), 0) ∧ D < 1048576 ∧ S < 2 ^ (c.rain.length + 1) ∧ (D.testBit dn = true ↔ Ev.wantF (depthR c dn).1 c.boats[bi] n = 2) ∧ (S.testBit dn = true ↔ Ev.wantF (depthR c dn).1 c.boats[bi] n ≠ 0)
      refine ⟨Cut.daysAll c bi n, Cut.daysSome c bi n, ?_, ?_, Cut.setTo_lt _ _, ?_, ?_⟩
      · unfold daysR; rw [hld, if_pos hz]; rfl
      · have h1 : Cut.daysAll c bi n < 2 ^ (c.rain.length + 1) := Cut.setTo_lt _ _
        have h2 : 2 ^ (c.rain.length + 1) ≤ 2 ^ 9 := Nat.pow_le_pow_right (by decide) (by have := V.n8; omega)
        omega
      · rw [hwant]
        unfold Cut.daysAll
        rw [Cut.setTo_bit]
        simp
        omega
      · rw [hwant]
        unfold Cut.daysSome
        rw [Cut.setTo_bit]
        simp
        omega
end Go.Proofs.YtlkhjnpflohfeaaDoor

/- What CutRain comes to. -/
namespace Go.Proofs.YtlkhjnpflohfeaaDoor
open Go
namespace Ev
/-- The truth in which least is there, and that in which most is. -/
def lowN (x : CutD) : Nat → Int
  | 0 => x.depth.1
  | d + 1 => max 0 (min x.most (lowN x d + (Cut.spanAt x.rain d).1 - x.leak.2))
def highN (x : CutD) : Nat → Int
  | 0 => x.depth.2
  | d + 1 => max 0 (min x.most (highN x d + (Cut.spanAt x.rain d).2 - x.leak.1))
def bare (c : CutD) : CutD := { c with looks := [] }
def wetter (c : CutD) (wi : Nat) (mr : Int) : CutD := { c with looks := [], rain := c.rain.set wi (min 30 ((Cut.spanAt c.rain wi).1 + mr), min 30 ((Cut.spanAt c.rain wi).2 + mr)) }
/-- The plain law. -/
structure Rain (A : Api) (c : CutD) (wi : Nat) (mr w : Int) : Prop where
  len : c.rain.length ≤ 8
  rain : ∀ i, i < c.rain.length → 0 ≤ (Cut.spanAt c.rain i).1 ∧ (Cut.spanAt c.rain i).1 ≤ 30 ∧ 0 ≤ (Cut.spanAt c.rain i).2 ∧ (Cut.spanAt c.rain i).2 ≤ 30
  leak : 0 ≤ c.leak.1 ∧ c.leak.1 ≤ 10 ∧ 0 ≤ c.leak.2 ∧ c.leak.2 ≤ 10
  most : 0 ≤ c.most ∧ c.most ≤ 100
  depth : 0 ≤ c.depth.1 ∧ c.depth.1 ≤ 100 ∧ 0 ≤ c.depth.2 ∧ c.depth.2 ≤ 100
  boats : c.boats.length ≤ 4
  day : ∀ d : Nat, d ≤ c.rain.length → A.depth (bare c) d = ((lowN c d, highN c d), 0) ∧ (A.depth (wetter c wi mr) d).2 = 0 ∧ lowN c d ≤ (A.depth (wetter c wi mr) d).1.1 ∧ highN c d ≤ (A.depth (wetter c wi mr) d).1.2
  boat : ∀ (i : Nat) (h : i < c.boats.length), 0 ≤ c.boats[i].room ∧ c.boats[i].room ≤ 10 ∧ ∃ a s p q : Nat, A.days (bare c) i (w % (c.boats[i].room + 1)) = (((a : Int), (s : Int)), 0) ∧ A.days (wetter c wi mr) i (w % (c.boats[i].room + 1)) = (((p : Int), (q : Int)), 0) ∧ a < 1048576 ∧ s < 1048576 ∧ p < 1048576 ∧ q < 1048576 ∧ (∀ j, a.testBit j = true → p.testBit j = true) ∧ ∀ j, s.testBit j = true → q.testBit j = true
end Ev
end Go.Proofs.YtlkhjnpflohfeaaDoor

/- Cuts with other lists. -/
namespace Go.Proofs.YtlkhjnpflohfeaaDoor
open Go
namespace Ev
/-- A list of looks as a value. -/
def looksV (H : List AB) (v : AV) (ls : List Look) : Prop := (slCells 3 H v).bind looksC = some ls
def spansV (H : List AB) (v : AV) (r : List (Int × Int)) : Prop := (slCells 2 H v).bind spansC = some r
theorem cutOf_of {H : List AB} {rv lv : AV} {a b k l m : Int} {r : List (Int × Int)} {bs : List Boat} {ls : List Look} (hr : spansV H rv r) (hl : looksV H lv ls) :
    cutOf H (.agg [.int .i64 a, .int .i64 b, .int .i64 k, .int .i64 l, rv, .int .i64 m, .vs 4 (bs.map boatE), lv]) = some ⟨(a, b), (k, l), r, m, bs, ls⟩ := by
  unfold spansV at hr
  unfold looksV at hl
  have hb : (slCells 4 H (.vs 4 (bs.map boatE))).bind boatsC = some bs := by simp [slCells]
  simp only [cutOf, hr, hl, hb]
theorem spansV_vs (H : List AB) (r : List (Int × Int)) : spansV H (.vs 2 (r.map spanE)) r := by simp [spansV, slCells]
theorem looksV_vs (H : List AB) (r : List Look) : looksV H (.vs 3 (r.map lookE)) r := by simp [looksV, slCells]
theorem looksV_nil (H : List AB) : looksV H .nils [] := by simp [looksV, slCells, looksC]
theorem spansV_sl {H : List AB} {b n : Nat} {r : List (Int × Int)} (h : H[b]? = some (.cells (spanCs r))) (hn : n = r.length) : spansV H (.sl b 0 n 2) r := by
  subst hn
  simp only [spansV, slCells, h, if_true, Nat.zero_add, spanCs_len, Nat.le_refl, List.drop_zero]
  rw [List.take_of_length_le (by simp)]
  simp
theorem looksV_sl {H : List AB} {b n : Nat} {r : List Look} (h : H[b]? = some (.cells (lookCs r))) (hn : n = r.length) : looksV H (.sl b 0 n 3) r := by
  subst hn
  simp only [looksV, slCells, h, if_true, Nat.zero_add, lookCs_len, Nat.le_refl, List.drop_zero]
  rw [List.take_of_length_le (by simp)]
  simp
@[simp] theorem slCells_spans (H : List AB) (r : List (Int × Int)) : slCells 2 H (.vs 2 (r.map spanE)) = some (spanCs r) := by simp [slCells]
@[simp] theorem slCells_looks (H : List AB) (r : List Look) : slCells 3 H (.vs 3 (r.map lookE)) = some (lookCs r) := by simp [slCells]
@[simp] theorem slCells_boats (H : List AB) (r : List Boat) : slCells 4 H (.vs 4 (r.map boatE)) = some (boatCs r) := by simp [slCells]
theorem slCells_sl (k : Nat) (H : List AB) (b off n k' : Nat) : slCells k H (.sl b off n k') = if k = k' then (match H[b]? with | some (.cells cs) => if off + n * k ≤ cs.length then some ((cs.drop off).take (n * k)) else none | _ => none) else none := rfl
@[simp] theorem spanCs_plain : ∀ r, (spanCs r).all AV.plain = true
  | [] => rfl
  | s :: l => by simp only [spanCs, List.all_cons, spanCs_plain l]; rfl
@[simp] theorem boatCs_plain : ∀ r, (boatCs r).all AV.plain = true
  | [] => rfl
  | s :: l => by simp only [boatCs, List.all_cons, boatCs_plain l]; rfl
@[simp] theorem lookCs_plain : ∀ r, (lookCs r).all AV.plain = true
  | [] => rfl
  | s :: l => by simp only [lookCs, List.all_cons, lookCs_plain l]; rfl
/-! Cells of spans. -/
theorem spanCs_0 : ∀ (r : List (Int × Int)) (i : Nat) (h : i < r.length), (spanCs r)[i * 2]? = some (.int .i64 r[i].1) ∧ (spanCs r)[i * 2 + 1]? = some (.int .i64 r[i].2)
  | [], i, h => by simp at h
  | s :: l, 0, h => by simp [spanCs]
  | s :: l, i + 1, h => by
    have ih := spanCs_0 l i (by simpa using h)
    rw [show (i + 1) * 2 = i * 2 + 1 + 1 by omega]
    simpa [spanCs] using ih
theorem spanCs_set0 : ∀ (r : List (Int × Int)) (i : Nat) (v : Int) (h : i < r.length), (spanCs r).take (i * 2) ++ .int .i64 v :: (spanCs r).drop (i * 2 + 1) = spanCs (r.set i (v, r[i].2))
  | [], i, v, h => by simp at h
  | s :: l, 0, v, h => by simp [spanCs]
  | s :: l, i + 1, v, h => by
    have ih := spanCs_set0 l i v (by simpa using h)
    rw [show (i + 1) * 2 = i * 2 + 1 + 1 by omega]
    simpa [spanCs] using ih
theorem spanCs_set1 : ∀ (r : List (Int × Int)) (i : Nat) (v : Int) (h : i < r.length), (spanCs r).take (i * 2 + 1) ++ .int .i64 v :: (spanCs r).drop (i * 2 + 2) = spanCs (r.set i (r[i].1, v))
  | [], i, v, h => by simp at h
  | s :: l, 0, v, h => by simp [spanCs]
  | s :: l, i + 1, v, h => by
    have ih := spanCs_set1 l i v (by simpa using h)
    rw [show (i + 1) * 2 = i * 2 + 1 + 1 by omega]
    simpa [spanCs] using ih
/-! Blocks behind others. -/
@[simp] theorem app_get0 {α : Type} (j l : List α) : (j ++ l)[j.length]? = l[0]? := by rw [List.getElem?_append_right (Nat.le_refl _), Nat.sub_self]
@[simp] theorem app_get {α : Type} (j l : List α) (k : Nat) : (j ++ l)[j.length + k]? = l[k]? := by simp [List.getElem?_append_right]
@[simp] theorem app_set0 {α : Type} (j l : List α) (v : α) : (j ++ l).set j.length v = j ++ l.set 0 v := by simp
@[simp] theorem app_set {α : Type} (j l : List α) (k : Nat) (v : α) : (j ++ l).set (j.length + k) v = j ++ l.set k v := by simp
theorem st_eq {st : St} {tm : List AV} {df : List ADef} {hp : List AB} {tc : List Nat} (h1 : st.tm = tm) (h2 : st.df = df) (h3 : st.hp = hp) (h4 : st.tc = tc) : st = ⟨tm, df, hp, tc⟩ := by
  subst h1 h2 h3 h4; rfl
theorem andnot_zero {a m : Nat} (_ha : a < 1048576) (_hm : m < 1048576) (h : ∀ j, a.testBit j = true → m.testBit j = true) :
    IntKind.i64.wrap ((BitVec.ofInt IntKind.i64.bits (a : Int) &&& ~~~ BitVec.ofInt IntKind.i64.bits (m : Int)).toNat) = 0 := by
  have hb : IntKind.i64.bits = 64 := rfl
  rw [hb]
  have e : (BitVec.ofInt 64 (a : Int) &&& ~~~ BitVec.ofInt 64 (m : Int)) = 0#64 := by
    apply BitVec.eq_of_getLsbD_eq
    intro i hi
    have e1 : BitVec.ofInt 64 (a : Int) = BitVec.ofNat 64 a := by simp
    have e2 : BitVec.ofInt 64 (m : Int) = BitVec.ofNat 64 m := by simp
    rw [e1, e2]
    simp only [BitVec.getLsbD_and, BitVec.getLsbD_not, BitVec.getLsbD_ofNat, hi, decide_true, Bool.true_and]
    cases h1 : a.testBit i with
    | false => simp
    | true => rw [h i h1]; simp
  rw [e]
  rfl
end Ev
end Go.Proofs.YtlkhjnpflohfeaaDoor

/- Truths of a cut: what the spans of package cut mean. No program in sight. -/
namespace Go.Proofs.YtlkhjnpflohfeaaDoor
namespace Cut
def inS (w : Int × Int) (v : Int) : Prop := w.1 ≤ v ∧ v ≤ w.2
theorem not_dry (v : Int) : ¬ inS dry v := by unfold inS dry; simp only; omega
theorem common_in (a b : Int × Int) (v : Int) : inS (common a b) v ↔ inS a v ∧ inS b v := by
  unfold common
  split
  · unfold inS; simp only; omega
  · constructor
    · intro h; exact absurd h (not_dry v)
    · rintro ⟨h1, h2⟩; unfold inS at *; omega
theorem some_iff (w : Int × Int) : some w = true ↔ ∃ v, inS w v := by
  unfold some inS
  simp only [decide_eq_true_eq]
  exact ⟨fun h => ⟨w.1, by omega, h⟩, fun ⟨v, h1, h2⟩ => by omega⟩
/-- The looks of a day that are in a set hold. -/
def Looks (l : List Look) (set : Nat) (d : Nat) (v : Int) : Prop := ∀ i, i < l.length → set.testBit i = true → (lookAt l i).day = d → inS (lookAt l i).depth v
theorem lookedTo_in (l : List Look) (d : Int) (set : Nat) (w : Int × Int) (v : Int) : ∀ k, inS (lookedTo l d set w k) v ↔ inS w v ∧ ∀ i, i < k → set.testBit i = true → (lookAt l i).day = d → inS (lookAt l i).depth v
  | 0 => by simp [lookedTo]
  | k + 1 => by
    have ih := lookedTo_in l d set w v k
    unfold lookedTo
    by_cases h : (set.testBit k && decide ((lookAt l k).day = d)) = true
    · rw [if_pos h, common_in, ih]
      rw [Bool.and_eq_true, decide_eq_true_eq] at h
      constructor
      · rintro ⟨⟨h1, h2⟩, h3⟩
        refine ⟨h1, fun i hi => ?_⟩
        by_cases hik : i = k
        · subst hik; exact fun _ _ => h3
        · exact h2 i (by omega)
      · rintro ⟨h1, h2⟩
        exact ⟨⟨h1, fun i hi => h2 i (by omega)⟩, h2 k (by omega) h.1 h.2⟩
    · rw [if_neg h, ih]
      constructor
      · rintro ⟨h1, h2⟩
        refine ⟨h1, fun i hi a b => ?_⟩
        by_cases hik : i = k
        · subst hik; exact absurd (by rw [a, b]; simp) h
        · exact h2 i (by omega) a b
      · rintro ⟨h1, h2⟩
        exact ⟨h1, fun i hi => h2 i (by omega)⟩
theorem looked_in (l : List Look) (d : Nat) (set : Nat) (w : Int × Int) (v : Int) : inS (looked l d set w) v ↔ inS w v ∧ Looks l set d v := lookedTo_in l d set w v _
/-- From a depth to that of the next day. -/
def Step (x : CutD) (leak : Int) (d : Nat) (u v : Int) : Prop := ∃ r, inS (spanAt x.rain d) r ∧ v = held x.most (u + r - leak)
theorem after_in {x : CutD} (h : Valid x) (leak : Int) (d : Nat) (hd : d < x.rain.length) (w : Int × Int) (v : Int) : inS (after (stepBy x leak d) x.most w) v ↔ ∃ u, inS w u ∧ Step x leak d u v := by
  have hr := h.rain d hd
  have hm := h.m1
  unfold after Step
  by_cases hw : w.1 ≤ w.2
  · rw [if_pos hw]
    unfold stepBy held inS
    simp only
    generalize spanAt x.rain d = s at *
    constructor
    · rintro ⟨h1, h2⟩
      have key : ∃ z, w.1 + s.1 ≤ z ∧ z ≤ w.2 + s.2 ∧ v = max 0 (min x.most (z - leak)) := by
        by_cases c1 : w.1 + s.1 - leak ≤ v
        · by_cases c2 : v ≤ w.2 + s.2 - leak
          · exact ⟨v + leak, by omega, by omega, by omega⟩
          · exact ⟨w.2 + s.2, by omega, by omega, by omega⟩
        · exact ⟨w.1 + s.1, by omega, by omega, by omega⟩
      obtain ⟨z, z1, z2, z3⟩ := key
      by_cases c : z - s.1 ≤ w.2
      · exact ⟨z - s.1, by omega, s.1, by omega, by rw [z3]; congr 2; omega⟩
      · exact ⟨w.2, by omega, z - w.2, by omega, by rw [z3]; congr 2; omega⟩
    · rintro ⟨u, h1, r, h2, rfl⟩
      omega
  · rw [if_neg hw]
    constructor
    · intro hx; exact absurd hx (not_dry v)
    · rintro ⟨u, h1, _⟩; unfold inS at h1; omega
theorem before_in {x : CutD} (h : Valid x) (leak : Int) (hl0 : 0 ≤ leak) (hl1 : leak ≤ 10) (d : Nat) (hd : d < x.rain.length) (w : Int × Int) (hw : ∀ v, inS w v → 0 ≤ v ∧ v ≤ x.most) (u : Int) : inS (before (stepBy x leak d) x.most w) u ↔ (0 ≤ u ∧ u ≤ x.most) ∧ ∃ v, Step x leak d u v ∧ inS w v := by
  have hr := h.rain d hd
  have hm := h.m1
  have hm1 := h.m100
  unfold before Step
  by_cases hn : w.1 ≤ w.2
  · rw [if_pos hn, common_in]
    have w1 := hw w.1 ⟨by omega, hn⟩
    have w2 := hw w.2 ⟨hn, by omega⟩
    clear hw
    unfold stepBy held inS
    simp only
    generalize spanAt x.rain d = s at *
    constructor
    · rintro ⟨h1, h2, h3⟩
      refine ⟨h1, ?_⟩
      have a1 : w.1 ≤ max 0 (min x.most (u + s.2 - leak)) := by split at h2 <;> omega
      have a2 : max 0 (min x.most (u + s.1 - leak)) ≤ w.2 := by split at h3 <;> omega
      by_cases c1 : w.1 ≤ max 0 (min x.most (u + s.1 - leak))
      · exact ⟨_, ⟨s.1, by omega, rfl⟩, c1, a2⟩
      · exact ⟨w.1, ⟨w.1 - u + leak, by omega, by omega⟩, by omega, hn⟩
    · rintro ⟨h1, v, ⟨r, h2, rfl⟩, h3⟩
      refine ⟨h1, ?_, ?_⟩
      · split <;> omega
      · split <;> omega
  · rw [if_neg hn]
    constructor
    · intro hx; exact absurd hx (not_dry u)
    · rintro ⟨_, v, _, h1⟩; unfold inS at h1; omega
/-- The depth of a day that some truth of the days before has. -/
def FR (x : CutD) (leak : Int) (set : Nat) : Nat → Int → Prop
  | 0, v => inS x.depth v ∧ Looks x.looks set 0 v
  | d + 1, v => (∃ u, FR x leak set d u ∧ Step x leak d u v) ∧ Looks x.looks set (d + 1) v
/-- The depth, so many days from the end n, from which some truth goes on. -/
def BR (x : CutD) (leak : Int) (set n : Nat) : Nat → Int → Prop
  | 0, _ => True
  | k + 1, v => ∃ u, Step x leak (n - (k + 1)) v u ∧ Looks x.looks set (n - k) u ∧ BR x leak set n k u
theorem forth_in {x : CutD} (h : Valid x) (leak : Int) (set : Nat) : ∀ d, d ≤ x.rain.length → ∀ v, inS (forth x leak set d) v ↔ FR x leak set d v
  | 0, _, v => by
    unfold forth FR
    exact looked_in x.looks 0 set x.depth v
  | d + 1, hd, v => by
    unfold forth FR
    rw [looked_in, after_in h leak d (by omega)]
    simp only [forth_in h leak set d (by omega)]
theorem FR_in {x : CutD} (h : Valid x) {leak : Int} {set : Nat} : ∀ {d : Nat} {v : Int}, FR x leak set d v → 0 ≤ v ∧ v ≤ x.most
  | 0, v, hv => by
    have := h.d0; have := h.d2
    have := hv.1; unfold inS at this; omega
  | d + 1, v, hv => by
    obtain ⟨⟨u, _, r, _, rfl⟩, _⟩ := hv
    have := h.m1
    unfold held; omega
theorem back_in {x : CutD} (h : Valid x) (leak : Int) (hl0 : 0 ≤ leak) (hl1 : leak ≤ 10) (set n : Nat) (hn : n = x.rain.length) : ∀ k, k ≤ n → ∀ v, inS (back x leak set n k) v ↔ FR x leak set (n - k) v ∧ BR x leak set n k v
  | 0, _, v => by
    unfold back BR
    rw [forth_in h leak set n (by omega)]
    simp
  | k + 1, hk, v => by
    have ih := back_in h leak hl0 hl1 set n hn k (by omega)
    unfold back
    rw [common_in, forth_in h leak set _ (by omega), before_in h leak hl0 hl1 _ (by omega) _ (fun v hv => FR_in h ((ih v).1 hv).1)]
    constructor
    · rintro ⟨h1, _, u, h2, h3⟩
      have h4 := (ih u).1 h3
      refine ⟨h1, ?_⟩
      unfold BR
      refine ⟨u, h2, ?_, h4.2⟩
      have h5 := h4.1
      have e : n - k = (n - (k + 1)) + 1 := by omega
      rw [e] at h5 ⊢
      exact h5.2
    · rintro ⟨h1, h2⟩
      unfold BR at h2
      obtain ⟨u, h3, h4, h5⟩ := h2
      refine ⟨h1, FR_in h h1, u, h3, (ih u).2 ⟨?_, h5⟩⟩
      have e : n - k = (n - (k + 1)) + 1 := by omega
      rw [e] at h4 ⊢
      exact ⟨⟨v, h1, h3⟩, h4⟩
/-- How deep the water is each day. -/
structure Truth (x : CutD) (leak : Int) (set : Nat) (t : Nat → Int) : Prop where
  start : inS x.depth (t 0)
  step : ∀ d, d < x.rain.length → Step x leak d (t d) (t (d + 1))
  looks : ∀ d, d ≤ x.rain.length → Looks x.looks set d (t d)
theorem Truth.fr {x : CutD} {leak : Int} {set : Nat} {t : Nat → Int} (h : Truth x leak set t) : ∀ d, d ≤ x.rain.length → FR x leak set d (t d)
  | 0, _ => ⟨h.start, h.looks 0 (by omega)⟩
  | d + 1, hd => ⟨⟨t d, h.fr d (by omega), h.step d (by omega)⟩, h.looks (d + 1) hd⟩
theorem Truth.br {x : CutD} {leak : Int} {set : Nat} {t : Nat → Int} (h : Truth x leak set t) : ∀ k, k ≤ x.rain.length → BR x leak set x.rain.length k (t (x.rain.length - k))
  | 0, _ => trivial
  | k + 1, hk => by
    unfold BR
    refine ⟨t (x.rain.length - k), ?_, h.looks _ (by omega), h.br k (by omega)⟩
    have e : x.rain.length - k = (x.rain.length - (k + 1)) + 1 := by omega
    rw [e]
    exact h.step _ (by omega)
theorem fr_path {x : CutD} {leak : Int} {set : Nat} : ∀ (d : Nat) (v : Int), FR x leak set d v → ∃ t : Nat → Int, t d = v ∧ inS x.depth (t 0) ∧ (∀ i, i < d → Step x leak i (t i) (t (i + 1))) ∧ ∀ i, i ≤ d → Looks x.looks set i (t i)
  | 0, v, h => ⟨fun _ => v, rfl, h.1, fun i hi => by omega, fun i hi => by
      have : i = 0 := by omega
      subst this; exact h.2⟩
  | d + 1, v, h => by
    obtain ⟨⟨u, h1, h2⟩, h3⟩ := h
    obtain ⟨t, t1, t2, t3, t4⟩ := fr_path d u h1
    refine ⟨fun i => if i ≤ d then t i else v, if_neg (by omega), by simpa using t2, fun i hi => ?_, fun i hi => ?_⟩
    · by_cases c : i = d
      · subst c
        simp only [Nat.le_refl, if_true]
        rw [if_neg (by omega), t1]; exact h2
      · simp only
        rw [if_pos (by omega), if_pos (by omega)]; exact t3 i (by omega)
    · by_cases c : i ≤ d
      · simp only [c, if_true]; exact t4 i c
      · have : i = d + 1 := by omega
        subst this
        simp only [c, if_false]; exact h3
theorem br_path {x : CutD} {leak : Int} {set n : Nat} : ∀ (k : Nat) (v : Int), k ≤ n → BR x leak set n k v → ∃ t : Nat → Int, t (n - k) = v ∧ (∀ i, n - k ≤ i → i < n → Step x leak i (t i) (t (i + 1))) ∧ ∀ i, n - k < i → i ≤ n → Looks x.looks set i (t i)
  | 0, v, _, _ => ⟨fun _ => v, rfl, fun i h1 h2 => by omega, fun i h1 h2 => by omega⟩
  | k + 1, v, hk, h => by
    unfold BR at h
    obtain ⟨u, h1, h2, h3⟩ := h
    obtain ⟨t, t1, t2, t3⟩ := br_path k u (by omega) h3
    refine ⟨fun i => if i = n - (k + 1) then v else t i, by simp, fun i a b => ?_, fun i a b => ?_⟩
    · simp only
      rw [if_neg (show ¬ i + 1 = n - (k + 1) by omega)]
      by_cases c : i = n - (k + 1)
      · rw [if_pos c]
        have e : i + 1 = n - k := by omega
        rw [e, t1, c]; exact h1
      · rw [if_neg c]; exact t2 i (by omega) b
    · simp only
      rw [if_neg (by omega)]
      by_cases c : i = n - k
      · subst c; rw [t1]; exact h2
      · exact t3 i (by omega) b
theorem truth_of {x : CutD} {leak : Int} {set d : Nat} {v : Int} (hd : d ≤ x.rain.length) (h1 : FR x leak set d v) (h2 : BR x leak set x.rain.length (x.rain.length - d) v) : ∃ t, Truth x leak set t ∧ t d = v := by
  obtain ⟨t, t1, t2, t3, t4⟩ := fr_path d v h1
  obtain ⟨s, s1, s2, s3⟩ := br_path _ v (by omega) h2
  have e : x.rain.length - (x.rain.length - d) = d := by omega
  rw [e] at s1 s2 s3
  refine ⟨fun i => if i ≤ d then t i else s i, ⟨?_, ?_, ?_⟩, by simp [t1]⟩
  · simpa using t2
  · intro i hi
    show Step x leak i (if i ≤ d then t i else s i) (if i + 1 ≤ d then t (i + 1) else s (i + 1))
    by_cases c : i < d
    · rw [if_pos (by omega), if_pos (by omega)]; exact t3 i c
    · rw [if_neg (show ¬ i + 1 ≤ d by omega)]
      by_cases c' : i = d
      · subst c'
        rw [if_pos (Nat.le_refl _), t1, ← s1]; exact s2 i (by omega) hi
      · rw [if_neg (by omega)]; exact s2 i (by omega) hi
  · intro i hi
    by_cases c : i ≤ d
    · simp only [c, if_true]; exact t4 i c
    · simp only [c, if_false]; exact s3 i (by omega) hi
/-- What a season's span means. -/
theorem season_in {x : CutD} (h : Valid x) (leak : Int) (hl0 : 0 ≤ leak) (hl1 : leak ≤ 10) (set d : Nat) (hd : d ≤ x.rain.length) (v : Int) : inS (seasonAt x leak set d) v ↔ ∃ t, Truth x leak set t ∧ t d = v := by
  unfold seasonAt
  rw [if_pos hd, back_in h leak hl0 hl1 set _ rfl _ (by omega)]
  have e : x.rain.length - (x.rain.length - d) = d := by omega
  rw [e]
  constructor
  · rintro ⟨h1, h2⟩; exact truth_of hd h1 h2
  · rintro ⟨t, ht, rfl⟩
    refine ⟨ht.fr d hd, ?_⟩
    have := ht.br (x.rain.length - d) (by omega)
    rw [e] at this; exact this
theorem can_iff {x : CutD} (h : Valid x) (set : Nat) : can x set = true ↔ ∃ leak, inS x.leak leak ∧ ∃ t, Truth x leak set t := by
  unfold can
  rw [List.any_eq_true]
  have hl : ∀ leak, leak ∈ leaks x ↔ inS x.leak leak := by
    intro leak
    unfold leaks inS
    rw [List.mem_map]
    constructor
    · rintro ⟨i, hi, rfl⟩
      rw [List.mem_range] at hi
      omega
    · rintro ⟨h1, h2⟩
      exact ⟨(leak - x.leak.1).toNat, by rw [List.mem_range]; omega, by omega⟩
  have := h.l0; have := h.l2
  constructor
  · rintro ⟨leak, h1, h2⟩
    have h3 := (hl leak).1 h1
    refine ⟨leak, h3, ?_⟩
    obtain ⟨v, hv⟩ := (some_iff _).1 h2
    unfold inS at h3
    obtain ⟨t, ht, _⟩ := (season_in h leak (by omega) (by omega) set 0 (by omega) v).1 hv
    exact ⟨t, ht⟩
  · rintro ⟨leak, h3, t, ht⟩
    refine ⟨leak, (hl leak).2 h3, (some_iff _).2 ⟨t 0, ?_⟩⟩
    unfold inS at h3
    exact (season_in h leak (by omega) (by omega) set 0 (by omega) _).2 ⟨t, ht, rfl⟩
end Cut
end Go.Proofs.YtlkhjnpflohfeaaDoor

/- What the exported functions' spans mean, by truths. -/
namespace Go.Proofs.YtlkhjnpflohfeaaDoor
namespace Cut
theorem fold_spec : ∀ (l : List (Int × Int)) (x : Int × Int),
    let j := l.foldl (fun s y => (min s.1 y.1, max s.2 y.2)) x
    (j.1 ≤ x.1 ∧ x.2 ≤ j.2 ∧ (∀ s ∈ l, j.1 ≤ s.1 ∧ s.2 ≤ j.2)) ∧ (j.1 = x.1 ∨ ∃ s ∈ l, j.1 = s.1) ∧ (j.2 = x.2 ∨ ∃ s ∈ l, j.2 = s.2)
  | [], x => by simp
  | y :: l, x => by
    have ih := fold_spec l (min x.1 y.1, max x.2 y.2)
    simp only [List.foldl_cons, List.mem_cons] at ih ⊢
    generalize List.foldl _ _ l = j at ih ⊢
    obtain ⟨⟨h1, h2, h3⟩, h4, h5⟩ := ih
    refine ⟨⟨by clear h4 h5; omega, by clear h4 h5; omega, ?_⟩, ?_, ?_⟩
    · clear h4 h5
      rintro s (rfl | hs)
      · omega
      · exact h3 s hs
    · clear h5
      rcases h4 with h4 | ⟨s, hs, h4⟩
      · by_cases c : x.1 ≤ y.1
        · exact .inl (by omega)
        · exact .inr ⟨y, .inl rfl, by omega⟩
      · exact .inr ⟨s, .inr hs, h4⟩
    · clear h4
      rcases h5 with h5 | ⟨s, hs, h5⟩
      · by_cases c : y.2 ≤ x.2
        · exact .inl (by omega)
        · exact .inr ⟨y, .inl rfl, by omega⟩
      · exact .inr ⟨s, .inr hs, h5⟩
theorem joined_spec {l : List (Int × Int)} (hl : 0 < l.length) : (∀ s ∈ l, (joined l).1 ≤ s.1 ∧ s.2 ≤ (joined l).2) ∧ (∃ s ∈ l, (joined l).1 = s.1) ∧ (∃ s ∈ l, (joined l).2 = s.2) := by
  cases l with
  | nil => simp at hl
  | cons x l =>
    have h := fold_spec l x
    simp only at h
    rw [show joined (x :: l) = l.foldl (fun s y => (min s.1 y.1, max s.2 y.2)) x from rfl]
    generalize List.foldl _ _ l = j at h ⊢
    obtain ⟨⟨h1, h2, h3⟩, h4, h5⟩ := h
    refine ⟨?_, ?_, ?_⟩
    · clear h4 h5
      intro s hs
      rcases List.mem_cons.1 hs with rfl | hs
      · omega
      · exact h3 s hs
    · rcases h4 with h4 | ⟨s, hs, h4⟩
      · exact ⟨x, List.mem_cons_self, h4⟩
      · exact ⟨s, List.mem_cons_of_mem _ hs, h4⟩
    · rcases h5 with h5 | ⟨s, hs, h5⟩
      · exact ⟨x, List.mem_cons_self, h5⟩
      · exact ⟨s, List.mem_cons_of_mem _ hs, h5⟩
theorem mem_leaks (x : CutD) (leak : Int) : leak ∈ leaks x ↔ inS x.leak leak := by
  unfold leaks inS
  rw [List.mem_map]
  constructor
  · rintro ⟨i, hi, rfl⟩
    rw [List.mem_range] at hi
    omega
  · rintro ⟨h1, h2⟩
    exact ⟨(leak - x.leak.1).toNat, by rw [List.mem_range]; omega, by omega⟩
/-- A day's depths: all truths are within, both ends are those of one. -/
theorem water_spec {x : CutD} (h : Valid x) (hc : can x (every x) = true) (d : Nat) (hd : d ≤ x.rain.length) :
    (∀ leak t, inS x.leak leak → Truth x leak (every x) t → inS (water x d) (t d)) ∧
    (∃ leak t, inS x.leak leak ∧ Truth x leak (every x) t ∧ t d = (water x d).1) ∧ ∃ leak t, inS x.leak leak ∧ Truth x leak (every x) t ∧ t d = (water x d).2 := by
  have hpos : 0 < (((leaks x).map fun k => seasonAt x k (every x) d).filter some).length := by
    obtain ⟨leak, h1, t, ht⟩ := (can_iff h _).1 hc
    refine List.length_pos_of_mem (a := seasonAt x leak (every x) d) (List.mem_filter.2 ⟨List.mem_map.2 ⟨leak, (mem_leaks x leak).2 h1, rfl⟩, ?_⟩)
    have := h.l0; have := h.l2; unfold inS at h1
    exact (some_iff _).2 ⟨t d, (season_in h leak (by omega) (by omega) _ d hd _).2 ⟨t, ht, rfl⟩⟩
  obtain ⟨j1, j2, j3⟩ := joined_spec hpos
  have l0 := h.l0
  have l2 := h.l2
  have key : ∀ s, s ∈ (((leaks x).map fun k => seasonAt x k (every x) d).filter some) → ∃ leak, inS x.leak leak ∧ s = seasonAt x leak (every x) d ∧ s.1 ≤ s.2 := by
    intro s hs
    obtain ⟨h1, h2⟩ := List.mem_filter.1 hs
    obtain ⟨leak, h3, rfl⟩ := List.mem_map.1 h1
    exact ⟨leak, (mem_leaks x leak).1 h3, rfl, by simpa [some] using h2⟩
  refine ⟨?_, ?_, ?_⟩
  · intro leak t hl ht
    have hin : inS (seasonAt x leak (every x) d) (t d) := by
      unfold inS at hl
      exact (season_in h leak (by omega) (by omega) _ d hd _).2 ⟨t, ht, rfl⟩
    have := j1 (seasonAt x leak (every x) d) (List.mem_filter.2 ⟨List.mem_map.2 ⟨leak, (mem_leaks x leak).2 hl, rfl⟩, (some_iff _).2 ⟨_, hin⟩⟩)
    unfold water inS at *
    omega
  · obtain ⟨s, hs, e⟩ := j2
    obtain ⟨leak, hl, rfl, hle⟩ := key s hs
    have hl' := hl
    unfold inS at hl'
    obtain ⟨t, ht, et⟩ := (season_in h leak (by omega) (by omega) (every x) d hd (seasonAt x leak (every x) d).1).1 ⟨by omega, hle⟩
    exact ⟨leak, t, hl, ht, et.trans e.symm⟩
  · obtain ⟨s, hs, e⟩ := j3
    obtain ⟨leak, hl, rfl, hle⟩ := key s hs
    have hl' := hl
    unfold inS at hl'
    obtain ⟨t, ht, et⟩ := (season_in h leak (by omega) (by omega) (every x) d hd (seasonAt x leak (every x) d).2).1 ⟨hle, by omega⟩
    exact ⟨leak, t, hl, ht, et.trans e.symm⟩
/-- What leaks: all truths are within, both ends are those of one. -/
theorem leak_spec {x : CutD} (h : Valid x) (hc : can x (every x) = true) :
    (∀ leak t, inS x.leak leak → Truth x leak (every x) t → inS (leakSpan x) leak) ∧
    (inS x.leak (leakSpan x).1 ∧ ∃ t, Truth x (leakSpan x).1 (every x) t) ∧ inS x.leak (leakSpan x).2 ∧ ∃ t, Truth x (leakSpan x).2 (every x) t := by
  obtain ⟨j1, j2, j3⟩ := joined_spec (leakSpans_pos x hc)
  have l0 := h.l0
  have l2 := h.l2
  have key : ∀ s, s ∈ leakSpans x ↔ ∃ leak, inS x.leak leak ∧ s = (leak, leak) ∧ ∃ t, Truth x leak (every x) t := by
    intro s
    unfold leakSpans
    rw [List.mem_map]
    constructor
    · rintro ⟨leak, hl, rfl⟩
      obtain ⟨h1, h2⟩ := List.mem_filter.1 hl
      have h3 := (mem_leaks x leak).1 h1
      obtain ⟨v, hv⟩ := (some_iff _).1 h2
      have h4 := h3
      unfold inS at h4
      obtain ⟨t, ht, _⟩ := (season_in h leak (by omega) (by omega) _ 0 (by omega) v).1 hv
      exact ⟨leak, h3, rfl, t, ht⟩
    · rintro ⟨leak, h3, rfl, t, ht⟩
      have h4 := h3
      unfold inS at h4
      exact ⟨leak, List.mem_filter.2 ⟨(mem_leaks x leak).2 h3, (some_iff _).2 ⟨t 0, (season_in h leak (by omega) (by omega) _ 0 (by omega) _).2 ⟨t, ht, rfl⟩⟩⟩, rfl⟩
  refine ⟨?_, ?_, ?_⟩
  · intro leak t hl ht
    have := j1 (leak, leak) ((key _).2 ⟨leak, hl, rfl, t, ht⟩)
    unfold leakSpan inS
    simpa using this
  · obtain ⟨s, hs, e⟩ := j2
    obtain ⟨leak, hl, rfl, ht⟩ := (key _).1 hs
    unfold leakSpan
    rw [e]; exact ⟨hl, ht⟩
  · obtain ⟨s, hs, e⟩ := j3
    obtain ⟨leak, hl, rfl, ht⟩ := (key _).1 hs
    unfold leakSpan
    rw [e]; exact ⟨hl, ht⟩
theorem mem_getD {α : Type} {l : List α} {a d : α} (h : a ∈ l) : ∃ i, i < l.length ∧ l.getD i d = a := by
  obtain ⟨i, hi, rfl⟩ := List.mem_iff_getElem.1 h
  exact ⟨i, hi, by simp [hi]⟩
theorem of_valid {x : CutD} (h : Valid x) : valid x = true := by
  obtain ⟨a1, a2, a3, a4, a5, a6, a7, a8, a9, a10, a11, a12, a13, a14, a15⟩ := h
  simp only [valid, within, isSpan, Bool.and_eq_true, decide_eq_true_eq, List.all_eq_true]
  refine ⟨⟨⟨⟨⟨⟨⟨⟨⟨by omega, by omega⟩, by omega, a4⟩, ⟨a5, a6⟩, a7⟩, ⟨a8, a9⟩, a10⟩, by omega⟩, by omega⟩, ?_⟩, ?_⟩, ?_⟩
  · intro s hs
    obtain ⟨i, hi, e⟩ := mem_getD (d := (0, 0)) hs
    have := a13 i hi
    unfold spanAt at this
    rw [e] at this; omega
  · intro s hs
    obtain ⟨i, hi, e⟩ := mem_getD (d := nobody) hs
    have := a14 i hi
    unfold boatAt at this
    rw [e] at this; omega
  · intro s hs
    obtain ⟨i, hi, e⟩ := mem_getD (d := noLook) hs
    have := a15 i hi
    unfold lookAt at this
    rw [e] at this; omega
end Cut
end Go.Proofs.YtlkhjnpflohfeaaDoor

/- The plain law of CutRain. -/
namespace Go.Proofs.YtlkhjnpflohfeaaDoor
open Go
namespace Cut
open Ev (lowN highN bare wetter)
theorem low_truth {x : CutD} (h : Valid x) (hl : x.looks = []) (set : Nat) : Truth x x.leak.2 set (lowN x) := by
  refine ⟨?_, ?_, ?_⟩
  · have := h.d1; unfold inS lowN; omega
  · intro d hd
    have := h.rain d hd
    exact ⟨(spanAt x.rain d).1, by unfold inS; omega, rfl⟩
  · intro d _ i hi
    rw [hl] at hi; simp at hi
theorem high_truth {x : CutD} (h : Valid x) (hl : x.looks = []) (set : Nat) : Truth x x.leak.1 set (highN x) := by
  refine ⟨?_, ?_, ?_⟩
  · have := h.d1; unfold inS highN; omega
  · intro d hd
    have := h.rain d hd
    exact ⟨(spanAt x.rain d).2, by unfold inS; omega, rfl⟩
  · intro d _ i hi
    rw [hl] at hi; simp at hi
theorem truth_between {x : CutD} {leak : Int} {set : Nat} {t : Nat → Int} (hk : inS x.leak leak) (h : Truth x leak set t) : ∀ d, d ≤ x.rain.length → lowN x d ≤ t d ∧ t d ≤ highN x d
  | 0, _ => h.start
  | d + 1, hd => by
    have ih := truth_between hk h d (by omega)
    obtain ⟨r, hr, e⟩ := h.step d (by omega)
    rw [e]
    unfold inS at hr hk
    unfold lowN highN held
    omega
theorem valid_bare {c : CutD} (h : Valid c) : Valid (bare c) := by
  obtain ⟨a1, a2, a3, a4, a5, a6, a7, a8, a9, a10, a11, a12, a13, a14, a15⟩ := h
  exact ⟨a1, a2, a3, a4, a5, a6, a7, a8, a9, a10, a11, by simp [bare], a13, a14, fun i hi => by simp [bare] at hi⟩
theorem span_set (r : List (Int × Int)) (wi i : Nat) (v : Int × Int) (hw : wi < r.length) : spanAt (r.set wi v) i = if i = wi then v else spanAt r i := by
  unfold spanAt
  by_cases h : i = wi
  · subst h; simp [hw]
  · rw [if_neg h]
    simp [List.getD_eq_getElem?_getD, Ne.symm h]
theorem valid_wet {c : CutD} (h : Valid c) (wi : Nat) (hw : wi < c.rain.length) (mr : Int) (h0 : 0 ≤ mr) : Valid (wetter c wi mr) := by
  obtain ⟨a1, a2, a3, a4, a5, a6, a7, a8, a9, a10, a11, a12, a13, a14, a15⟩ := h
  refine ⟨by simpa [wetter] using a1, by simpa [wetter] using a2, a3, a4, a5, a6, a7, a8, a9, a10, a11, by simp [wetter], fun i hi => ?_, a14, fun i hi => by simp [wetter] at hi⟩
  have hi' : i < c.rain.length := by simpa [wetter] using hi
  have e : spanAt (wetter c wi mr).rain i = if i = wi then (min 30 ((spanAt c.rain wi).1 + mr), min 30 ((spanAt c.rain wi).2 + mr)) else spanAt c.rain i := span_set _ _ _ _ hw
  rw [e]
  have h1 := a13 i hi'
  have h2 := a13 wi hw
  split
  · simp only; omega
  · exact h1
theorem low_bare (c : CutD) : ∀ d, lowN (bare c) d = lowN c d ∧ highN (bare c) d = highN c d
  | 0 => ⟨rfl, rfl⟩
  | d + 1 => by
    obtain ⟨h1, h2⟩ := low_bare c d
    have e1 : lowN (bare c) (d + 1) = max 0 (min c.most (lowN (bare c) d + (spanAt c.rain d).1 - c.leak.2)) := rfl
    have e2 : highN (bare c) (d + 1) = max 0 (min c.most (highN (bare c) d + (spanAt c.rain d).2 - c.leak.1)) := rfl
    rw [e1, e2, h1, h2]; exact ⟨rfl, rfl⟩
theorem low_wet {c : CutD} (h : Valid c) (wi : Nat) (hw : wi < c.rain.length) (mr : Int) (h0 : 0 ≤ mr) : ∀ d, d ≤ c.rain.length → lowN c d ≤ lowN (wetter c wi mr) d ∧ highN c d ≤ highN (wetter c wi mr) d
  | 0, _ => ⟨Int.le_refl _, Int.le_refl _⟩
  | d + 1, hd => by
    obtain ⟨h1, h2⟩ := low_wet h wi hw mr h0 d (by omega)
    have e : spanAt (wetter c wi mr).rain d = if d = wi then (min 30 ((spanAt c.rain wi).1 + mr), min 30 ((spanAt c.rain wi).2 + mr)) else spanAt c.rain d := span_set _ _ _ _ hw
    have hr := h.rain d (by omega)
    have hs : (spanAt c.rain d).1 ≤ (spanAt (wetter c wi mr).rain d).1 ∧ (spanAt c.rain d).2 ≤ (spanAt (wetter c wi mr).rain d).2 := by
      rw [e]
      split
      · rename_i hdw
        subst hdw
        simp only; omega
      · omega
    have e1 : lowN (wetter c wi mr) (d + 1) = max 0 (min c.most (lowN (wetter c wi mr) d + (spanAt (wetter c wi mr).rain d).1 - c.leak.2)) := rfl
    have e2 : highN (wetter c wi mr) (d + 1) = max 0 (min c.most (highN (wetter c wi mr) d + (spanAt (wetter c wi mr).rain d).2 - c.leak.1)) := rfl
    have e3 : lowN c (d + 1) = max 0 (min c.most (lowN c d + (spanAt c.rain d).1 - c.leak.2)) := rfl
    have e4 : highN c (d + 1) = max 0 (min c.most (highN c d + (spanAt c.rain d).2 - c.leak.1)) := rfl
    rw [e1, e2, e3, e4]
    omega
/-- Without looks a day's depths are those between the two truths. -/
theorem water_bare {x : CutD} (h : Valid x) (hl : x.looks = []) : can x (every x) = true ∧ ∀ d, d ≤ x.rain.length → water x d = (lowN x d, highN x d) := by
  have l1 := h.l1
  have hc : can x (every x) = true := (can_iff h _).2 ⟨x.leak.2, by unfold inS; omega, _, low_truth h hl _⟩
  refine ⟨hc, fun d hd => ?_⟩
  obtain ⟨h1, ⟨k1, t1, a1, a2, a3⟩, ⟨k2, t2, b1, b2, b3⟩⟩ := water_spec h hc d hd
  have c1 := h1 _ _ (by unfold inS; omega) (low_truth h hl _)
  have c2 := h1 _ _ (by unfold inS; omega) (high_truth h hl _)
  have c3 := truth_between a1 a2 d hd
  have c4 := truth_between b1 b2 d hd
  unfold inS at c1 c2
  refine Prod.ext ?_ ?_
  · show (water x d).1 = lowN x d
    omega
  · show (water x d).2 = highN x d
    omega
theorem floats_more (b : Boat) (n : Int) (v w : Int × Int) (h1 : v.1 ≤ w.1) (h2 : v.2 ≤ w.2) : floats b n v ≤ floats b n w := by
  unfold floats
  split
  · rw [if_pos (by omega)]; decide
  · split
    · split
      · decide
      · rw [if_pos (by omega)]; decide
    · split
      · decide
      · split <;> decide
end Cut
theorem told_bare {x : CutD} (h : Cut.Valid x) (hl : x.looks = []) : toldErr x true = 0 := toldErr_ok (Cut.of_valid h) (Cut.water_bare h hl).1
theorem rain_plain {c : CutD} (hf : fineD c = true) (wi : Nat) (hw : wi < c.rain.length) (mr w : Int) (h0 : 0 ≤ mr) (_hw0 : 0 ≤ w) : Ev.Rain specApi c wi mr w := by
  have V := Cut.valid_of (fine_valid hf)
  have VB := Cut.valid_bare V
  have VW := Cut.valid_wet V wi hw mr h0
  have tB := told_bare VB rfl
  have tW := told_bare VW rfl
  have lenW : (Ev.wetter c wi mr).rain.length = c.rain.length := by simp [Ev.wetter]
  have eB : ∀ d, d ≤ c.rain.length → Cut.water (Ev.bare c) d = (Ev.lowN c d, Ev.highN c d) := fun d hd => by
    rw [(Cut.water_bare VB rfl).2 d hd, (Cut.low_bare c d).1, (Cut.low_bare c d).2]
  have eW : ∀ d, d ≤ c.rain.length → Cut.water (Ev.wetter c wi mr) d = (Ev.lowN (Ev.wetter c wi mr) d, Ev.highN (Ev.wetter c wi mr) d) := fun d hd =>
    (Cut.water_bare VW rfl).2 d (by rw [lenW]; exact hd)
  have hle := Cut.low_wet V wi hw mr h0
  have l1 := V.l1
  refine ⟨V.n8, fun i hi => ?_, ⟨V.l0, by have := V.l2; omega, by have := V.l0; omega, V.l2⟩, ⟨by have := V.m1; omega, V.m100⟩, ?_, V.b4, ?_, ?_⟩
  · have := V.rain i hi; omega
  · have := V.d0; have := V.d1; have := V.d2; have := V.m100; omega
  · intro d hd
    have hB : depthR (Ev.bare c) d = ((Ev.lowN c d, Ev.highN c d), 0) := by
      unfold depthR
      rw [isDay_nat (c := Ev.bare c) hd, if_pos tB, Int.toNat_natCast, eB d hd]
    have hW : depthR (Ev.wetter c wi mr) d = ((Ev.lowN (Ev.wetter c wi mr) d, Ev.highN (Ev.wetter c wi mr) d), 0) := by
      unfold depthR
      rw [isDay_nat (c := Ev.wetter c wi mr) (by rw [lenW]; exact hd), if_pos tW, Int.toNat_natCast, eW d hd]
    show depthR (Ev.bare c) d = ((Ev.lowN c d, Ev.highN c d), 0) ∧ (depthR (Ev.wetter c wi mr) d).2 = 0 ∧ Ev.lowN c d ≤ (depthR (Ev.wetter c wi mr) d).1.1 ∧ Ev.highN c d ≤ (depthR (Ev.wetter c wi mr) d).1.2
    rw [hB, hW]
    exact ⟨rfl, rfl, (hle d hd).1, (hle d hd).2⟩
  · intro i hi
    have hb := V.boat i hi
    rw [boatAt_get hi] at hb
    refine ⟨by omega, by omega, ?_⟩
    have m0 : 0 ≤ w % (c.boats[i].room + 1) := Int.emod_nonneg _ (by omega)
    have m1 : w % (c.boats[i].room + 1) < c.boats[i].room + 1 := Int.emod_lt_of_pos _ (by omega)
    generalize w % (c.boats[i].room + 1) = ld at *
    have hlB : Cut.isLoads (Ev.bare c) i ld = true := isLoads_nat (c := Ev.bare c) hi m0 (by show ld ≤ (Cut.boatAt c.boats i).room; rw [boatAt_get hi]; omega)
    have hlW : Cut.isLoads (Ev.wetter c wi mr) i ld = true := isLoads_nat (c := Ev.wetter c wi mr) hi m0 (by show ld ≤ (Cut.boatAt c.boats i).room; rw [boatAt_get hi]; omega)
    have lt : ∀ p, Cut.setTo p (c.rain.length + 1) < 1048576 := by
      intro p
      have h1 := Cut.setTo_lt p (c.rain.length + 1)
      have h2 : 2 ^ (c.rain.length + 1) ≤ 2 ^ 9 := Nat.pow_le_pow_right (by decide) (by have := V.n8; omega)
      omega
    refine ⟨Cut.daysAll (Ev.bare c) i ld, Cut.daysSome (Ev.bare c) i ld, Cut.daysAll (Ev.wetter c wi mr) i ld, Cut.daysSome (Ev.wetter c wi mr) i ld, ?_, ?_, lt _, lt _, by unfold Cut.daysAll; rw [lenW]; exact lt _, by unfold Cut.daysSome; rw [lenW]; exact lt _, ?_, ?_⟩
    · show daysR (Ev.bare c) i ld = _
      unfold daysR; rw [hlB, if_pos tB]; rfl
    · show daysR (Ev.wetter c wi mr) i ld = _
      unfold daysR; rw [hlW, if_pos tW]; rfl
    · intro j
      unfold Cut.daysAll
      rw [Cut.setTo_bit, Cut.setTo_bit, lenW]
      simp only [Bool.and_eq_true, decide_eq_true_eq, beq_iff_eq]
      rintro ⟨hj, h2⟩
      refine ⟨hj, ?_⟩
      have hj' : j < c.rain.length + 1 := hj
      have hm := Cut.floats_more c.boats[i] ld (Cut.water (Ev.bare c) j) (Cut.water (Ev.wetter c wi mr) j) (by rw [eB j (by omega), eW j (by omega)]; exact (hle j (by omega)).1) (by rw [eB j (by omega), eW j (by omega)]; exact (hle j (by omega)).2)
      have hor := Cut.floats_or c.boats[i] ld (Cut.water (Ev.wetter c wi mr) j)
      have e1 : Cut.floatsOn (Ev.bare c) i ld j = Cut.floats c.boats[i] ld (Cut.water (Ev.bare c) j) := by unfold Cut.floatsOn; rw [boatAt_get (c := Ev.bare c) hi]; rfl
      have e2 : Cut.floatsOn (Ev.wetter c wi mr) i ld j = Cut.floats c.boats[i] ld (Cut.water (Ev.wetter c wi mr) j) := by unfold Cut.floatsOn; rw [boatAt_get (c := Ev.wetter c wi mr) hi]; rfl
      rw [e1] at h2
      rw [e2]
      omega
    · intro j
      unfold Cut.daysSome
      rw [Cut.setTo_bit, Cut.setTo_bit, lenW]
      simp only [Bool.and_eq_true, decide_eq_true_eq, bne_iff_ne]
      rintro ⟨hj, h2⟩
      refine ⟨hj, ?_⟩
      have hj' : j < c.rain.length + 1 := hj
      have hm := Cut.floats_more c.boats[i] ld (Cut.water (Ev.bare c) j) (Cut.water (Ev.wetter c wi mr) j) (by rw [eB j (by omega), eW j (by omega)]; exact (hle j (by omega)).1) (by rw [eB j (by omega), eW j (by omega)]; exact (hle j (by omega)).2)
      have hor := Cut.floats_or c.boats[i] ld (Cut.water (Ev.bare c) j)
      have e1 : Cut.floatsOn (Ev.bare c) i ld j = Cut.floats c.boats[i] ld (Cut.water (Ev.bare c) j) := by unfold Cut.floatsOn; rw [boatAt_get (c := Ev.bare c) hi]; rfl
      have e2 : Cut.floatsOn (Ev.wetter c wi mr) i ld j = Cut.floats c.boats[i] ld (Cut.water (Ev.wetter c wi mr) j) := by unfold Cut.floatsOn; rw [boatAt_get (c := Ev.wetter c wi mr) hi]; rfl
      rw [e1] at h2
      rw [e2]
      omega
end Go.Proofs.YtlkhjnpflohfeaaDoor

/- The law CutRain, gone through. -/
namespace Go.Proofs.YtlkhjnpflohfeaaDoor
open Go
namespace Ev
set_option maxRecDepth 100000
set_option maxHeartbeats 4000000 in
theorem rain_not (C : Cfg) (call : CallF) (A : Api) (hA : ApiOk call A) (a b k l m : Int) (r : List (Int × Int)) (bs : List Boat) (ls : List Look) (w1 w2 w3 : Int)
    (hf : A.fine ⟨(a, b), (k, l), r, m, bs, ls⟩ = false) :
    Does (ev C call 0 none af10.body { tm := tmA 215 (zipI 0 [.agg [.int .i64 a, .int .i64 b, .int .i64 k, .int .i64 l, .vs 2 (r.map spanE), .int .i64 m, .vs 4 (bs.map boatE), .vs 3 (ls.map lookE)], .int .u8 w1, .int .u8 w2, .int .u8 w3] []), df := [], hp := [], tc := [] }) (Yes 8) := by
  have h1 := fun H => hA.fine (cutOf_mk H a b k l m r bs ls)
  have h2 := fun H => hA.awake (H := H)
  rw [hf] at h1
  clear hf hA
  unfold af10
  simp only [zipI]
  (repeat (first | (with_reducible apply ops_cons; (focus ((conv => lhs; simp [ev1, wantG, spineK, spine, float, xnew, xval, xeff, val_tmA_cons, val_tmA_nil, val_val, putT_some, putT_none, addFl, cellsOf, pickC, alive, slLen, slFt, binI, maxA, maxK, minA, minK, aeqK, aeqS, AV.cells, boatE, spanE, lookE, fillA, setAt, bitsI, nat_nn, AV.plain, apart, Nat.testBit_eq_decide_div_mod_eq, *]) <;> exact rfl)); simp only [addFl]) | ((first | with_reducible refine does_seq ?_ | with_reducible refine does_ops ?_ | with_reducible refine does_draw ?_ | with_reducible refine does_skip ?_ | with_reducible refine does_block ?_ | with_reducible refine does_ret ?_ | with_reducible refine does_exit ?_ | with_reducible refine ops_nil ?_ | (with_reducible apply does_true; (focus (simp [val_tmA_cons, *]; done))) | (with_reducible apply does_false; (focus (simp [val_tmA_cons, *]; done)))); try simp only [Then, Ops])))
  exact ⟨rfl, rfl, by simp only [tmA_getD_cons]; simp⟩
theorem low_in {A : Api} {c : CutD} {wi : Nat} {mr w : Int} (h : Rain A c wi mr w) : ∀ d, 0 ≤ lowN c d ∧ lowN c d ≤ 100 ∧ 0 ≤ highN c d ∧ highN c d ≤ 100
  | 0 => h.depth
  | d + 1 => by
    have := h.most
    unfold lowN highN; omega
set_option maxHeartbeats 8000000 in
theorem rain_main (C : Cfg) (hC : C.calm = true) (call : CallF) (A : Api) (hA : ApiOk call A) (a b k l m : Int) (r : List (Int × Int)) (bs : List Boat) (ls : List Look) (w1 w2 w3 : Int) (u1 : 0 ≤ w1 ∧ w1 ≤ 255) (u2 : 0 ≤ w2 ∧ w2 ≤ 255) (u3 : 0 ≤ w3 ∧ w3 ≤ 255)
    (hf : A.fine ⟨(a, b), (k, l), r, m, bs, ls⟩ = true) (wi : Nat) (hwl : wi < r.length) (hwi : w1 % r.length = wi) (hl : Rain A ⟨(a, b), (k, l), r, m, bs, ls⟩ wi (w3 % 5) w2) :
    Does (ev C call 0 none af10.body { tm := tmA 215 (zipI 0 [.agg [.int .i64 a, .int .i64 b, .int .i64 k, .int .i64 l, .vs 2 (r.map spanE), .int .i64 m, .vs 4 (bs.map boatE), .vs 3 (ls.map lookE)], .int .u8 w1, .int .u8 w2, .int .u8 w3] []), df := [], hp := [], tc := [] }) (Yes 8) := by
  have h1 := fun H => hA.fine (cutOf_mk H a b k l m r bs ls)
  have h2 := fun H => hA.awake (H := H)
  have h3 := fun H d => hA.depth (cutOf_of (a := a) (b := b) (k := k) (l := l) (m := m) (bs := bs) (spansV_vs H r) (looksV_nil H)) d
  have h4 := fun H b' n' => hA.days (cutOf_of (a := a) (b := b) (k := k) (l := l) (m := m) (bs := bs) (spansV_vs H r) (looksV_nil H)) b' n'
  have h5 := fun H (e : H[4]? = some (.cells (spanCs (r.set wi (min 30 (r[wi].1 + w3 % 5), min 30 (r[wi].2 + w3 % 5)))))) d => hA.depth (cutOf_of (a := a) (b := b) (k := k) (l := l) (m := m) (bs := bs) (spansV_sl (n := r.length) e (List.length_set).symm) (looksV_nil H)) d
  have h6 := fun H (e : H[4]? = some (.cells (spanCs (r.set wi (min 30 (r[wi].1 + w3 % 5), min 30 (r[wi].2 + w3 % 5)))))) b' n' => hA.days (cutOf_of (a := a) (b := b) (k := k) (l := l) (m := m) (bs := bs) (spansV_sl (n := r.length) e (List.length_set).symm) (looksV_nil H)) b' n'
  have h7 := fun H (a b : Int) => hA.span (H := H) (a := a) (b := b)
  rw [hf] at h1
  have ex : (⟨(a, b), (k, l), r, m, bs, []⟩ : CutD) = bare ⟨(a, b), (k, l), r, m, bs, ls⟩ := rfl
  have ey : (⟨(a, b), (k, l), r.set wi (min 30 (r[wi].1 + w3 % 5), min 30 (r[wi].2 + w3 % 5)), m, bs, []⟩ : CutD) = wetter ⟨(a, b), (k, l), r, m, bs, ls⟩ wi (w3 % 5) := by
    simp [wetter, Cut.spanAt, hwl]
  rw [ex] at h3 h4
  rw [ey] at h5 h6
  unfold twoS at h3 h5
  unfold three at h4 h6
  have hlo := low_in hl
  obtain ⟨z1, z2, z3, z4, z5, z6, z7, z8⟩ := hl
  simp only at z1 z2 z3 z4 z5 z6 z7 z8
  have zr := z2 wi hwl
  have er : Cut.spanAt r wi = r[wi] := by simp [Cut.spanAt, hwl]
  rw [er] at zr
  clear hf hA ex ey er
  have hdef : ∀ d, lowN ⟨(a, b), (k, l), r, m, bs, ls⟩ (d + 1) = max 0 (min m (lowN ⟨(a, b), (k, l), r, m, bs, ls⟩ d + (Cut.spanAt r d).1 - l)) ∧ highN ⟨(a, b), (k, l), r, m, bs, ls⟩ (d + 1) = max 0 (min m (highN ⟨(a, b), (k, l), r, m, bs, ls⟩ d + (Cut.spanAt r d).2 - k)) := fun d => ⟨rfl, rfl⟩
  have hd0 : a = lowN ⟨(a, b), (k, l), r, m, bs, ls⟩ 0 ∧ b = highN ⟨(a, b), (k, l), r, m, bs, ls⟩ 0 := ⟨rfl, rfl⟩
  generalize hc : (⟨(a, b), (k, l), r, m, bs, ls⟩ : CutD) = c at *
  clear hc
  have hw1 : IntKind.i64.wrap w1 = w1 := wrap_in (by omega) (by omega)
  have hw2 : IntKind.i64.wrap w2 = w2 := wrap_in (by omega) (by omega)
  have hw3 : IntKind.i64.wrap w3 = w3 := wrap_in (by omega) (by omega)
  have hwr : IntKind.i64.wrap (↑r.length + 1) = ↑r.length + 1 := wrap_in (by omega) (by omega)
  have h0 : ¬ ((r.length : Int) = 0) := by omega
  have h00 : ¬ r = [] := by rintro rfl; simp at hwl
  have ht1 : w1.tmod ↑r.length = ↑wi := (Int.tmod_eq_emod_of_nonneg (by omega)).trans hwi
  have ht3 : w3.tmod 5 = w3 % 5 := Int.tmod_eq_emod_of_nonneg (by omega)
  have m0 : 0 ≤ w3 % 5 := Int.emod_nonneg _ (by decide)
  have m1 : w3 % 5 < 5 := Int.emod_lt_of_pos _ (by decide)
  generalize w3 % 5 = mr at *
  have hwa : IntKind.i64.wrap (r[wi].1 + mr) = r[wi].1 + mr := wrap_in (by omega) (by omega)
  have hwb : IntKind.i64.wrap (r[wi].2 + mr) = r[wi].2 + mr := wrap_in (by omega) (by omega)
  have gl0 : wi * 2 < (spanCs r).length := by simp; omega
  have gl1 : wi * 2 + 1 < (spanCs r).length := by simp; omega
  have g0 : (spanCs r)[wi * 2]'gl0 = .int .i64 r[wi].1 := by
    have := (spanCs_0 r wi hwl).1
    rw [List.getElem?_eq_getElem gl0] at this; exact Option.some.inj this
  have g1 : (spanCs r)[wi * 2 + 1]'gl1 = .int .i64 r[wi].2 := by
    have := (spanCs_0 r wi hwl).2
    rw [List.getElem?_eq_getElem gl1] at this; exact Option.some.inj this
  have p0 := fun v => spanCs_set0 r wi v hwl
  have p1 : ∀ u v : Int, (spanCs (r.set wi (u, r[wi].2))).take (wi * 2 + 1) ++ .int .i64 v :: (spanCs (r.set wi (u, r[wi].2))).drop (wi * 2 + 2) = spanCs (r.set wi (u, v)) := fun u v => by
    have := spanCs_set1 (r.set wi (u, r[wi].2)) wi v (by simpa using hwl)
    simpa using this
  have q0 : wi * 2 + 1 ≤ r.length * 2 := by omega
  have q1 : wi * 2 + 1 + 1 ≤ r.length * 2 := by omega
  have q3 : wi * 2 + 1 < r.length * 2 := by omega
  have q2 : r.length ≤ bound := by unfold bound; omega
  have HS := hideP (And.intro z1 (And.intro z2 (And.intro z3 (And.intro z4 (And.intro z5 (And.intro z6 (And.intro z7 (And.intro z8 (And.intro hlo hdef)))))))))
  have HU := hideP (And.intro u2 (And.intro m0 m1))
  have HD := hideP hd0
  clear z1 z2 z3 z4 z5 z6 z7 z8 hlo hdef u1 u2 u3 m0 m1 hd0 zr hwi
  unfold af10
  simp only [zipI]
  (repeat (first | (with_reducible apply ops_cons; (focus ((conv => lhs; simp [ev1, wantG, spineK, spine, float, xnew, xval, xeff, val_tmA_cons, val_tmA_nil, val_val, putT_some, putT_none, addFl, cellsOf, pickC, alive, slLen, slFt, binI, maxA, maxK, minA, minK, aeqK, aeqS, AV.cells, boatE, spanE, lookE, fillA, setAt, bitsI, nat_nn, AV.plain, apart, Nat.testBit_eq_decide_div_mod_eq, *]) <;> exact rfl)); simp only [addFl]) | ((first | with_reducible refine does_seq ?_ | with_reducible refine does_ops ?_ | with_reducible refine does_draw ?_ | with_reducible refine does_skip ?_ | with_reducible refine does_block ?_ | with_reducible refine does_ret ?_ | with_reducible refine does_exit ?_ | with_reducible refine ops_nil ?_ | (with_reducible apply does_true; (focus (simp [val_tmA_cons, *]; done))) | (with_reducible apply does_false; (focus (simp [val_tmA_cons, *]; done)))); try simp only [Then, Ops])))
  obtain ⟨z1, z2, z3, z4, z5, z6, z7, z8, hlo, hdef⟩ := HS.out
  clear g0 g1 gl0 gl1 p0 p1 q0 q1 q2 q3 hwa hwb ht1 ht3 hw1 hw3 h1
  refine does_loop (fun q st => ∃ (d : Nat) (J : List AB), d + q = r.length + 1 ∧ st = { tm := tmA 215 [(82, .int .i64 d), (81, .int .i64 (↑r.length + 1)), (13, .int .i64 (highN c (d - 1))), (12, .int .i64 (lowN c (d - 1))), (10, .ptr 2 0), (9, .ptr 1 0), (4, .ptr 0 0), (2, .int .u8 w2)], df := [], hp := .cells [.int .i64 a, .int .i64 b, .int .i64 k, .int .i64 l, .vs 2 (r.map spanE), .int .i64 m, .vs 4 (bs.map boatE), .vs 3 (ls.map lookE)] :: .cells [.int .i64 a, .int .i64 b, .int .i64 k, .int .i64 l, .vs 2 (r.map spanE), .int .i64 m, .vs 4 (bs.map boatE), .nils] :: .cells [.int .i64 a, .int .i64 b, .int .i64 k, .int .i64 l, .sl 4 0 r.length 2, .int .i64 m, .vs 4 (bs.map boatE), .nils] :: .dead :: .cells (spanCs (r.set wi (min 30 (r[wi].1 + mr), min 30 (r[wi].2 + mr)))) :: J, tc := [] }) (r.length + 1) (by unfold fuelL; omega) ?_ ?_
  · refine ⟨0, [], by omega, ?_⟩
    simp only [gcC_calm hC]
    exact st_eq (by simp [keepT_tmA, lk_cons, HD.out.1, HD.out.2]) rfl rfl rfl
  · rintro q st ⟨d, J, hq, rfl⟩
    by_cases hd : d ≤ r.length
    · have hdl : (d : Int) < ↑r.length + 1 := by omega
      obtain ⟨f1, f2, f3, f4⟩ := z7 d hd
      have fl : (A.depth (bare c) d).1.1 = lowN c d := by rw [f1]
      have fh : (A.depth (bare c) d).1.2 = highN c d := by rw [f1]
      have fe : (A.depth (bare c) d).2 = 0 := by rw [f1]
      have f3 : ¬ ((A.depth (wetter c wi mr) d).1.1 < lowN c d) := by omega
      have f4 : ¬ ((A.depth (wetter c wi mr) d).1.2 < highN c d) := by omega
      have hwd : IntKind.i64.wrap (↑d + 1) = ↑d + 1 := wrap_in (by omega) (by omega)
      clear f1 z4 z5 z6 z7 z8
      by_cases h0d : d = 0
      · subst h0d
        clear z1 z2 z3 hlo hdef
        have hz : ((0 : Nat) : Int) = 0 := rfl
        simp only [hz] at fl fh fe f2 f3 f4 hdl
        have hwd : IntKind.i64.wrap 1 = 1 := rfl
        simp only [Nat.zero_sub]
        (repeat (first | (with_reducible apply ops_cons; (focus ((conv => lhs; simp [ev1, wantG, spineK, spine, float, xnew, xval, xeff, val_tmA_cons, val_tmA_nil, val_val, putT_some, putT_none, addFl, cellsOf, pickC, alive, slLen, slFt, binI, maxA, maxK, minA, minK, aeqK, aeqS, AV.cells, boatE, spanE, lookE, fillA, setAt, bitsI, nat_nn, AV.plain, apart, Nat.testBit_eq_decide_div_mod_eq, *]) <;> exact rfl)); simp only [addFl]) | ((first | with_reducible refine does_seq ?_ | with_reducible refine does_ops ?_ | with_reducible refine does_draw ?_ | with_reducible refine does_skip ?_ | with_reducible refine does_block ?_ | with_reducible refine does_ret ?_ | with_reducible refine does_exit ?_ | with_reducible refine ops_nil ?_ | (with_reducible apply does_true; (focus (simp [val_tmA_cons, *]; done))) | (with_reducible apply does_false; (focus (simp [val_tmA_cons, *]; done)))); try simp only [Then, Ops, OutB])))
        refine ⟨q - 1, by omega, 1, ?_⟩
        apply Exists.intro
        refine ⟨by omega, ?_⟩
        simp only [gcC_calm hC]
        exact st_eq (by simp [keepT_tmA, lk_cons]) rfl rfl rfl
      · obtain ⟨e, he⟩ : ∃ e, d = e + 1 := ⟨d - 1, by omega⟩
        have hel : e < r.length := by omega
        have hde : (d : Int) - 1 = e := by omega
        have hpos : 0 < d := by omega
        have e1 : d - 1 = e := by omega
        have se : Cut.spanAt r e = r[e] := by simp [Cut.spanAt, hel]
        have rr := z2 e hel
        have ll := hlo e
        obtain ⟨hL, hH⟩ := hdef e
        rw [← he] at hL hH
        rw [se] at rr hL hH
        have w0 : IntKind.i64.wrap (e : Int) = e := wrap_in (by omega) (by omega)
        have wa : IntKind.i64.wrap (lowN c e + r[e].1) = lowN c e + r[e].1 := wrap_in (by omega) (by omega)
        have wb : IntKind.i64.wrap (highN c e + r[e].2) = highN c e + r[e].2 := wrap_in (by omega) (by omega)
        have wc : IntKind.i64.wrap (lowN c e + r[e].1 - l) = lowN c e + r[e].1 - l := wrap_in (by omega) (by omega)
        have wd : IntKind.i64.wrap (highN c e + r[e].2 - k) = highN c e + r[e].2 - k := wrap_in (by omega) (by omega)
        replace hL := hL.symm
        replace hH := hH.symm
        clear z1 z2 z3 hlo hdef rr ll he h0d se hd
        (repeat (first | (with_reducible apply ops_cons; (focus ((conv => lhs; simp [ev1, wantG, spineK, spine, float, xnew, xval, xeff, val_tmA_cons, val_tmA_nil, val_val, putT_some, putT_none, addFl, cellsOf, pickC, alive, slLen, slFt, binI, maxA, maxK, minA, minK, aeqK, aeqS, AV.cells, boatE, spanE, lookE, fillA, setAt, bitsI, nat_nn, AV.plain, apart, Nat.testBit_eq_decide_div_mod_eq, *]) <;> exact rfl)); simp only [addFl]) | ((first | with_reducible refine does_seq ?_ | with_reducible refine does_ops ?_ | with_reducible refine does_draw ?_ | with_reducible refine does_skip ?_ | with_reducible refine does_block ?_ | with_reducible refine does_ret ?_ | with_reducible refine does_exit ?_ | with_reducible refine ops_nil ?_ | (with_reducible apply does_true; (focus (simp [val_tmA_cons, *]; done))) | (with_reducible apply does_false; (focus (simp [val_tmA_cons, *]; done)))); try simp only [Then, Ops, OutB])))
        refine ⟨q - 1, by omega, d + 1, ?_⟩
        apply Exists.intro
        refine ⟨by omega, ?_⟩
        simp only [gcC_calm hC]
        exact st_eq (by simp [keepT_tmA, lk_cons]) rfl rfl rfl
    · have hdl : ¬ ((d : Int) < ↑r.length + 1) := by omega
      clear z1 z2 z3 z4 z5 z7 hlo hdef h3 h5 h7 hd hq HD
      (repeat (first | (with_reducible apply ops_cons; (focus ((conv => lhs; simp [ev1, wantG, spineK, spine, float, xnew, xval, xeff, val_tmA_cons, val_tmA_nil, val_val, putT_some, putT_none, addFl, cellsOf, pickC, alive, slLen, slFt, binI, maxA, maxK, minA, minK, aeqK, aeqS, AV.cells, boatE, spanE, lookE, fillA, setAt, bitsI, nat_nn, AV.plain, apart, Nat.testBit_eq_decide_div_mod_eq, *]) <;> exact rfl)); simp only [addFl]) | ((first | with_reducible refine does_seq ?_ | with_reducible refine does_ops ?_ | with_reducible refine does_draw ?_ | with_reducible refine does_skip ?_ | with_reducible refine does_block ?_ | with_reducible refine does_ret ?_ | with_reducible refine does_exit ?_ | with_reducible refine ops_nil ?_ | (with_reducible apply does_true; (focus (simp [val_tmA_cons, *]; done))) | (with_reducible apply does_false; (focus (simp [val_tmA_cons, *]; done)))); try simp only [Then, Ops, OutB, reduceIte])))
      refine does_loop (fun q st => ∃ (i : Nat) (J : List AB), i + q = bs.length ∧ st = { tm := tmA 215 [(164, .int .i64 i), (163, .int .i64 bs.length), (162, .vs 4 (bs.map boatE)), (10, .ptr 2 0), (9, .ptr 1 0), (2, .int .u8 w2)], df := [], hp := .cells [.int .i64 a, .int .i64 b, .int .i64 k, .int .i64 l, .vs 2 (r.map spanE), .int .i64 m, .vs 4 (bs.map boatE), .vs 3 (ls.map lookE)] :: .cells [.int .i64 a, .int .i64 b, .int .i64 k, .int .i64 l, .vs 2 (r.map spanE), .int .i64 m, .vs 4 (bs.map boatE), .nils] :: .cells [.int .i64 a, .int .i64 b, .int .i64 k, .int .i64 l, .sl 4 0 r.length 2, .int .i64 m, .vs 4 (bs.map boatE), .nils] :: .dead :: .cells (spanCs (r.set wi (min 30 (r[wi].1 + mr), min 30 (r[wi].2 + mr)))) :: J, tc := [] }) bs.length (by unfold fuelL; omega) ?_ ?_
      · refine ⟨0, J, by omega, ?_⟩
        simp only [gcC_calm hC]
        exact st_eq (by simp [keepT_tmA, lk_cons]) rfl rfl rfl
      · rintro q st ⟨i, J, hq, rfl⟩
        by_cases hi : i < bs.length
        · obtain ⟨r0, r1, x, y, p, s, g1, g2, x1, x2, x3, x4, x5, x6⟩ := z8 i hi
          have n1 := andnot_zero x1 x3 x5
          have n2 := andnot_zero x2 x4 x6
          have hwm : IntKind.i64.wrap (bs[i].room + 1) = bs[i].room + 1 := wrap_in (by omega) (by omega)
          have hm0 : ¬ (bs[i].room + 1 = 0) := by omega
          have u2 := HU.out.1
          have ht2 : w2.tmod (bs[i].room + 1) = w2 % (bs[i].room + 1) := Int.tmod_eq_emod_of_nonneg (by omega)
          have hwi : IntKind.i64.wrap (↑i + 1) = ↑i + 1 := wrap_in (by omega) (by omega)
          generalize w2 % (bs[i].room + 1) = ld at *
          have y1 : (A.days (bare c) i ld).1.1 = x := by rw [g1]
          have y2 : (A.days (bare c) i ld).1.2 = y := by rw [g1]
          have y3 : (A.days (bare c) i ld).2 = 0 := by rw [g1]
          have y4 : (A.days (wetter c wi mr) i ld).1.1 = p := by rw [g2]
          have y5 : (A.days (wetter c wi mr) i ld).1.2 = s := by rw [g2]
          have y6 : (A.days (wetter c wi mr) i ld).2 = 0 := by rw [g2]
          simp at n1 n2
          clear z8 x1 x2 x3 x4 x5 x6 g1 g2 r0 r1 u2 z6
          (repeat (first | (with_reducible apply ops_cons; (focus ((conv => lhs; simp [ev1, wantG, spineK, spine, float, xnew, xval, xeff, val_tmA_cons, val_tmA_nil, val_val, putT_some, putT_none, addFl, cellsOf, pickC, alive, slLen, slFt, binI, maxA, maxK, minA, minK, aeqK, aeqS, AV.cells, boatE, spanE, lookE, fillA, setAt, bitsI, nat_nn, AV.plain, apart, Nat.testBit_eq_decide_div_mod_eq, *]) <;> exact rfl)); simp only [addFl]) | ((first | with_reducible refine does_seq ?_ | with_reducible refine does_ops ?_ | with_reducible refine does_draw ?_ | with_reducible refine does_skip ?_ | with_reducible refine does_block ?_ | with_reducible refine does_ret ?_ | with_reducible refine does_exit ?_ | with_reducible refine ops_nil ?_ | (with_reducible apply does_true; (focus (simp [val_tmA_cons, *]; done))) | (with_reducible apply does_false; (focus (simp [val_tmA_cons, *]; done)))); try simp only [Then, Ops, OutB])))
          refine ⟨q - 1, by omega, i + 1, ?_⟩
          apply Exists.intro
          refine ⟨by omega, ?_⟩
          simp only [gcC_calm hC]
          exact st_eq (by simp [keepT_tmA, lk_cons]) rfl rfl rfl
        · clear z8 hq
          (repeat (first | (with_reducible apply ops_cons; (focus ((conv => lhs; simp [ev1, wantG, spineK, spine, float, xnew, xval, xeff, val_tmA_cons, val_tmA_nil, val_val, putT_some, putT_none, addFl, cellsOf, pickC, alive, slLen, slFt, binI, maxA, maxK, minA, minK, aeqK, aeqS, AV.cells, boatE, spanE, lookE, fillA, setAt, bitsI, nat_nn, AV.plain, apart, Nat.testBit_eq_decide_div_mod_eq, *]) <;> exact rfl)); simp only [addFl]) | ((first | with_reducible refine does_seq ?_ | with_reducible refine does_ops ?_ | with_reducible refine does_draw ?_ | with_reducible refine does_skip ?_ | with_reducible refine does_block ?_ | with_reducible refine does_ret ?_ | with_reducible refine does_exit ?_ | with_reducible refine ops_nil ?_ | (with_reducible apply does_true; (focus (simp [val_tmA_cons, *]; done))) | (with_reducible apply does_false; (focus (simp [val_tmA_cons, *]; done)))); try simp only [Then, Ops, OutB, reduceIte])))
          exact ⟨rfl, rfl, by simp only [tmA_getD_cons]; simp⟩
end Ev
end Go.Proofs.YtlkhjnpflohfeaaDoor

/- CutRain answers true. -/
namespace Go.Proofs.YtlkhjnpflohfeaaDoor
open Go Go.Proofs Go.RowKit
open Ev
set_option maxRecDepth 100000 in
theorem rain_found (c : CutD) (w1 w2 w3 : Int) (u1 : 0 ≤ w1 ∧ w1 ≤ 255) (u2 : 0 ≤ w2 ∧ w2 ≤ 255) (u3 : 0 ≤ w3 ∧ w3 ≤ 255) : ∃ H' tc, Ev.call cfgC 2 (.fn (.func 10) [] []) [cutA c, .int .u8 w1, .int .u8 w2, .int .u8 w3] [] = some (.ret (.bool true), H', tc) := by
  refine yes_call (t := 8) (n := 1) (fn := af10) rfl rfl rfl (by kernel_rfl) rfl rfl (show (4 : Nat) ≤ 215 by omega) ?_
  obtain ⟨⟨a, b⟩, ⟨k, l⟩, r, m, bs, ls⟩ := c
  cases hf : fineD ⟨(a, b), (k, l), r, m, bs, ls⟩ with
  | false => exact rain_not cfgC _ specApi (apiC 0) a b k l m r bs ls w1 w2 w3 hf
  | true =>
    have V := Cut.valid_of (fine_valid hf)
    obtain ⟨wi, hwi, hwl⟩ := rem_nat (n := r.length) u1.1 V.n1
    exact rain_main cfgC rfl _ specApi (apiC 0) a b k l m r bs ls w1 w2 w3 u1 u2 u3 hf wi hwl hwi (rain_plain hf wi hwl (w3 % 5) w2 (by omega) u2.1)
theorem lawCutRain (c : CutD) (ra ba la : Option Addr) (rc bc lc : Nat) {W : World} (hin : CutIn W c ra ba la) (h1 : c.rain.length ≤ rc) (h2 : c.boats.length ≤ bc) (h3 : c.looks.length ≤ lc) (x1 : Int) (wf1 : (Lit.int .u8 x1).wf = true) (x2 : Int) (wf2 : (Lit.int .u8 x2).wf = true) (x3 : Int) (wf3 : (Lit.int .u8 x3).wf = true) :
    Calls Tryd.prog 10 #[cutVal c ra ba la rc bc lc, .int .u8 x1, .int .u8 x2, .int .u8 x3] W fun e W' => e = .returned (.bool true) ∧ Below W.heap.size W W' := by
  obtain ⟨H', tc, h⟩ := rain_found c x1 x2 x3 (bounds_u8 wf1) (bounds_u8 wf2) (bounds_u8 wf3)
  exact callsIn_wide.1 (top_args tblC h W (globs_of_dry hin.dry) (VL.cons (cut_vr hin h1 h2 h3) (VL.cons .int (VL.cons .int (VL.cons .int VL.nil)))))
end Go.Proofs.YtlkhjnpflohfeaaDoor

/- An argument that is a cut: from its reading to its cells. -/
namespace Go.Proofs.YtlkhjnpflohfeaaDoor
open Go Go.Proofs Go.RowKit Go.ChangeShapes Go.WideShapes Go.Deep
section
variable {H : Type} {enc : TypeId × Value → H} {w : World} {base : Nat} {spare : Nat → Bool} {held : Bool} {fuel : Nat} {cs : List Value} {x : DataW H × List MemPlace}

theorem list2 {cs : List Value} (h : cs.length = 2) : ∃ a b, cs = [a, b] := by
  match cs, h with | [a, b], _ => exact ⟨a, b, rfl⟩
theorem list3 {cs : List Value} (h : cs.length = 3) : ∃ a b c, cs = [a, b, c] := by
  match cs, h with | [a, b, c], _ => exact ⟨a, b, c, rfl⟩
theorem list4 {cs : List Value} (h : cs.length = 4) : ∃ a b c d, cs = [a, b, c, d] := by
  match cs, h with | [a, b, c, d], _ => exact ⟨a, b, c, d, rfl⟩
theorem list8 {cs : List Value} (h : cs.length = 8) : ∃ a b c d e f g i, cs = [a, b, c, d, e, f, g, i] := by
  match cs, h with | [a, b, c, d, e, f, g, i], _ => exact ⟨a, b, c, d, e, f, g, i, rfl⟩
theorem cells_int : Tryd.prog.cellsOf 3 = 1 := by kernel_rfl
theorem cells_span : Tryd.prog.cellsOf 23 = 2 := by kernel_rfl
theorem cells_boat : Tryd.prog.cellsOf 51 = 4 := by kernel_rfl
theorem cells_look : Tryd.prog.cellsOf 55 = 3 := by kernel_rfl

theorem trod_i (h : ∃ y, DataW.trod enc Tryd.prog w base spare held fuel 3 cs = some y) : ∃ n, cs = [.int .i64 n] ∧ (Lit.int .i64 n).wf = true := by
  obtain ⟨y, h⟩ := h
  obtain ⟨n, h1, _, h2⟩ := DataW.trod_int Tryd.underlying3 h
  exact ⟨n, h1, h2⟩
theorem trod_span (h : ∃ y, DataW.trod enc Tryd.prog w base spare held fuel 23 cs = some y) : ∃ a b, cs = [.int .i64 a, .int .i64 b] := by
  obtain ⟨y, h⟩ := h
  obtain ⟨xs, n, rfl, _, hl, hx, hf⟩ := DataW.trod_struct Tryd.underlying23 h
  rw [cells_span] at hl
  have hx : xs.length = 2 := hx
  obtain ⟨c0, c1, rfl⟩ := list2 hl
  clear hl
  obtain ⟨a, ha, _⟩ := trod_i ⟨_, (hf 0 _ rfl).trans (List.getElem?_eq_getElem (by omega))⟩
  obtain ⟨b, hb, _⟩ := trod_i ⟨_, (hf 1 _ rfl).trans (List.getElem?_eq_getElem (by omega))⟩
  simp [cells_int] at ha hb
  exact ⟨a, b, by rw [ha, hb]⟩
theorem trod_boat (h : ∃ y, DataW.trod enc Tryd.prog w base spare held fuel 51 cs = some y) : ∃ a b p r, cs = [.int .i64 a, .int .i64 b, .int .i64 p, .int .i64 r] := by
  obtain ⟨y, h⟩ := h
  obtain ⟨xs, n, rfl, _, hl, hx, hf⟩ := DataW.trod_struct Tryd.underlying51 h
  rw [cells_boat] at hl
  have hx : xs.length = 3 := hx
  obtain ⟨c0, c1, c2, c3, rfl⟩ := list4 hl
  clear hl
  obtain ⟨a, b, hab⟩ := trod_span ⟨_, (hf 0 _ rfl).trans (List.getElem?_eq_getElem (by omega))⟩
  obtain ⟨p, hp, _⟩ := trod_i ⟨_, (hf 1 _ rfl).trans (List.getElem?_eq_getElem (by omega))⟩
  obtain ⟨r, hr, _⟩ := trod_i ⟨_, (hf 2 _ rfl).trans (List.getElem?_eq_getElem (by omega))⟩
  simp [cells_int, cells_span] at hab hp hr
  exact ⟨a, b, p, r, by rw [hab.1, hab.2, hp, hr]⟩
theorem trod_look (h : ∃ y, DataW.trod enc Tryd.prog w base spare held fuel 55 cs = some y) : ∃ d a b, cs = [.int .i64 d, .int .i64 a, .int .i64 b] := by
  obtain ⟨y, h⟩ := h
  obtain ⟨xs, n, rfl, _, hl, hx, hf⟩ := DataW.trod_struct Tryd.underlying55 h
  rw [cells_look] at hl
  have hx : xs.length = 2 := hx
  obtain ⟨c0, c1, c2, rfl⟩ := list3 hl
  clear hl
  obtain ⟨d, hd, _⟩ := trod_i ⟨_, (hf 0 _ rfl).trans (List.getElem?_eq_getElem (by omega))⟩
  obtain ⟨a, b, hab⟩ := trod_span ⟨_, (hf 1 _ rfl).trans (List.getElem?_eq_getElem (by omega))⟩
  simp [cells_int, cells_span] at hab hd
  exact ⟨d, a, b, by rw [hab.1, hab.2, hd]⟩

theorem block_lt {W : World} {a : Addr} {v : Value} (h : W.cell? a = some v) : a.block < W.heap.size := by
  apply Classical.byContradiction
  intro hn
  have : W.heap[a.block]? = none := by simp; omega
  simp [World.cell?, this] at h

/-- A slice of elements of k cells each, as a list of what they are. -/
theorem row_of {α : Type} {t e : TypeId} {k : Nat} (d : α) (g : α → List Value) (hk : 0 < k) (hg : ∀ y, (g y).length = k) (ht : Tryd.prog.underlying t = some (.slice e)) (hc : Tryd.prog.cellsOf e = k)
    (he : ∀ (fuel : Nat) (cs : List Value), (∃ y, DataW.trod enc Tryd.prog w base spare held fuel e cs = some y) → ∃ y, cs = g y)
    (h : ∃ y, DataW.trod enc Tryd.prog w base spare held fuel t cs = some y) :
    ∃ (ra : Option Addr) (l : List α) (rc : Nat), cs = [.slice ra l.length rc] ∧ l.length ≤ rc ∧ rc ≤ maxLen ∧ ElemsR w ra l.length k (fun i j => (g (l.getD i d)).getD j undef) := by
  obtain ⟨y, h⟩ := h
  rcases open_slice ht h with ⟨rfl, _⟩ | ⟨a, len, cap, m, n, D, Pl, rfl, hb, hl, hm, hmm, hx, hi⟩
  · exact ⟨none, [], 0, rfl, Nat.le_refl _, Nat.zero_le _, .inl rfl⟩
  · have hml : len ≤ m := by rw [hmm]; split <;> omega
    have : ∀ i, ∃ y : α, i < len → ∀ j, j < k → w.cell? (a.add (i * k + j)) = some ((g y).getD j undef) := by
      intro i
      by_cases hlt : i < len
      · obtain ⟨cs', h1, h2⟩ := hi i (by omega)
        obtain ⟨y, rfl⟩ := he n cs' ⟨_, h2⟩
        rw [hc] at h1
        obtain ⟨_, _, h3⟩ := World.cells?_some h1
        refine ⟨y, fun _ j hj => ?_⟩
        rw [← Go.Deep.add_add, h3 j hj, List.getElem?_eq_getElem (by rw [hg]; exact hj)]
        simp [hg, hj]
      · exact ⟨d, fun h => absurd h hlt⟩
    obtain ⟨f, hf⟩ := Classical.skolem.1 this
    refine ⟨some a, (List.range len).map f, cap, by simp, by simpa using hl, hm, ?_⟩
    by_cases h0 : len = 0
    · exact .inl (by simp [h0])
    · have h00 := hf 0 (by omega) 0 hk
      have hs := World.cell?_spot h00
      have hb := block_lt h00
      obtain ⟨b, off, sp⟩ := a
      obtain rfl : sp = none := by simpa [Addr.add] using hs
      have hadd : ∀ u, Addr.add ⟨b, off, none⟩ u = ⟨b, off + u, none⟩ := fun u => by simp [Addr.add]
      rw [hadd] at hb
      refine .inr ⟨b, off, rfl, hb, fun i j hi hj => ?_⟩
      simp only [List.length_map, List.length_range] at hi
      have := hf i hi j hj
      rw [hadd, ← Nat.add_assoc] at this
      rw [this]
      simp [hi]

def spanC (s : Int × Int) : List Value := [.int .i64 s.1, .int .i64 s.2]
def boatC (b : Boat) : List Value := [.int .i64 b.draws.1, .int .i64 b.draws.2, .int .i64 b.per, .int .i64 b.room]
def lookC (l : Look) : List Value := [.int .i64 l.day, .int .i64 l.depth.1, .int .i64 l.depth.2]
theorem elems_to {W : World} {ra : Option Addr} {n k : Nat} {f g : Nat → Nat → Value} (h : ElemsR W ra n k f) (he : ∀ i j, i < n → j < k → f i j = g i j) : ElemsR W ra n k g := by
  rcases h with h | ⟨b, off, h1, h2, h3⟩
  · exact .inl h
  · exact .inr ⟨b, off, h1, h2, fun i j hi hj => (h3 i j hi hj).trans (by rw [he i j hi hj])⟩
theorem trod_rain (h : ∃ y, DataW.trod enc Tryd.prog w base spare held fuel 24 cs = some y) : ∃ (ra : Option Addr) (l : List (Int × Int)) (rc : Nat), cs = [.slice ra l.length rc] ∧ l.length ≤ rc ∧ rc ≤ maxLen ∧ ElemsR w ra l.length 2 (spanCell l) := by
  obtain ⟨ra, l, rc, h1, h2, h3, h4⟩ := row_of (k := 2) (0, 0) spanC (by omega) (fun _ => rfl) Tryd.underlying24 cells_span (fun _ _ h => by obtain ⟨a, b, h⟩ := trod_span h; exact ⟨(a, b), h⟩) h
  refine ⟨ra, l, rc, h1, h2, h3, elems_to h4 fun i j _ hj => ?_⟩
  have : j = 0 ∨ j = 1 := by omega
  rcases this with rfl | rfl <;> rfl
theorem trod_boats (h : ∃ y, DataW.trod enc Tryd.prog w base spare held fuel 25 cs = some y) : ∃ (ra : Option Addr) (l : List Boat) (rc : Nat), cs = [.slice ra l.length rc] ∧ l.length ≤ rc ∧ rc ≤ maxLen ∧ ElemsR w ra l.length 4 (boatCell l) := by
  obtain ⟨ra, l, rc, h1, h2, h3, h4⟩ := row_of (k := 4) Cut.nobody boatC (by omega) (fun _ => rfl) Tryd.underlying25 cells_boat (fun _ _ h => by obtain ⟨a, b, p, r, h⟩ := trod_boat h; exact ⟨⟨(a, b), p, r⟩, h⟩) h
  refine ⟨ra, l, rc, h1, h2, h3, elems_to h4 fun i j _ hj => ?_⟩
  have : j = 0 ∨ j = 1 ∨ j = 2 ∨ j = 3 := by omega
  rcases this with rfl | rfl | rfl | rfl <;> rfl
theorem trod_looks (h : ∃ y, DataW.trod enc Tryd.prog w base spare held fuel 26 cs = some y) : ∃ (ra : Option Addr) (l : List Look) (rc : Nat), cs = [.slice ra l.length rc] ∧ l.length ≤ rc ∧ rc ≤ maxLen ∧ ElemsR w ra l.length 3 (lookCell l) := by
  obtain ⟨ra, l, rc, h1, h2, h3, h4⟩ := row_of (k := 3) Cut.noLook lookC (by omega) (fun _ => rfl) Tryd.underlying26 cells_look (fun _ _ h => by obtain ⟨d, a, b, h⟩ := trod_look h; exact ⟨⟨d, (a, b)⟩, h⟩) h
  refine ⟨ra, l, rc, h1, h2, h3, elems_to h4 fun i j _ hj => ?_⟩
  have : j = 0 ∨ j = 1 ∨ j = 2 := by omega
  rcases this with rfl | rfl | rfl <;> rfl

theorem cells_cut : Tryd.prog.cellsOf 28 = 8 := by kernel_rfl
theorem cells_rain : Tryd.prog.cellsOf 24 = 1 := by kernel_rfl
theorem cells_boats : Tryd.prog.cellsOf 25 = 1 := by kernel_rfl
theorem cells_looks : Tryd.prog.cellsOf 26 = 1 := by kernel_rfl
theorem trod_cut (h : ∃ y, DataW.trod enc Tryd.prog w base spare held fuel 28 cs = some y) : ∃ (c : CutD) (ra ba la : Option Addr) (rc bc lc : Nat), cs = cutCells c ra ba la rc bc lc ∧ (c.rain.length ≤ rc ∧ c.boats.length ≤ bc ∧ c.looks.length ≤ lc) ∧
    ElemsR w ra c.rain.length 2 (spanCell c.rain) ∧ ElemsR w ba c.boats.length 4 (boatCell c.boats) ∧ ElemsR w la c.looks.length 3 (lookCell c.looks) := by
  obtain ⟨y, h⟩ := h
  obtain ⟨xs, n, rfl, _, hl, hx, hf⟩ := DataW.trod_struct Tryd.underlying28 h
  rw [cells_cut] at hl
  have hx : xs.length = 6 := hx
  obtain ⟨c0, c1, c2, c3, c4, c5, c6, c7, rfl⟩ := list8 hl
  clear hl
  obtain ⟨d1, d2, hd⟩ := trod_span ⟨_, (hf 0 _ rfl).trans (List.getElem?_eq_getElem (by omega))⟩
  obtain ⟨e1, e2, he⟩ := trod_span ⟨_, (hf 1 _ rfl).trans (List.getElem?_eq_getElem (by omega))⟩
  obtain ⟨ra, rain, rc, hr, kr, _, hra⟩ := trod_rain ⟨_, (hf 2 _ rfl).trans (List.getElem?_eq_getElem (by omega))⟩
  obtain ⟨m, hm, _⟩ := trod_i ⟨_, (hf 3 _ rfl).trans (List.getElem?_eq_getElem (by omega))⟩
  obtain ⟨ba, boats, bc, hb, kb, _, hba⟩ := trod_boats ⟨_, (hf 4 _ rfl).trans (List.getElem?_eq_getElem (by omega))⟩
  obtain ⟨la, looks, lc, hlk, kl, _, hla⟩ := trod_looks ⟨_, (hf 5 _ rfl).trans (List.getElem?_eq_getElem (by omega))⟩
  simp [cells_int, cells_span, cells_rain, cells_boats, cells_looks] at hd he hr hm hb hlk
  exact ⟨⟨(d1, d2), (e1, e2), rain, m, boats, looks⟩, ra, ba, la, rc, bc, lc, by rw [hd.1, hd.2, he.1, he.2, hr, hm, hb, hlk]; rfl, ⟨kr, kb, kl⟩, hra, hba, hla⟩
end
end Go.Proofs.YtlkhjnpflohfeaaDoor

/- The laid variable. -/
namespace Go.Proofs.YtlkhjnpflohfeaaDoor
open Go Go.Proofs Go.RowKit Go.ChangeShapes Go.WideShapes Go.Deep
theorem dry_named : Tryd.prog.globalNamed "bogworks/cut.dry" = some 0 := by kernel_rfl
theorem dry_type : (Tryd.prog.globals[0]?).map (·.type) = some 83 := by kernel_rfl
theorem cells_water : Tryd.prog.cellsOf 83 = 2 := by kernel_rfl
#check @Tryd.underlying83
theorem dry_of_laid {W : World} (h : laidMet Tryd.prog [("bogworks/cut.dry", Rows.laid_bogworks_cut_dry)] W) : Dry W := by
  obtain ⟨ps, ⟨g, t, cs, fuel, p, q, e1, e2, e3, e4, _, _⟩, _, _⟩ := h
  obtain rfl := Option.some.inj (dry_named.symm.trans e1)
  obtain rfl := Option.some.inj (dry_type.symm.trans e2)
  obtain ⟨xs, n, rfl, hx, hl, hxs, hf⟩ := DataW.trod_struct Tryd.underlying83 e4
  rw [cells_water] at hl
  have hxs : xs.length = 1 := hxs
  obtain ⟨c0, c1, hcs⟩ := list2 hl
  have h0 := (hf 0 _ rfl).trans (List.getElem?_eq_getElem (by omega))
  obtain ⟨ys, m, rfl, hy, _, hys, hg⟩ := DataW.trod_struct Tryd.underlying23 h0
  have hys : ys.length = 2 := hys
  have i0 := (hg 0 _ rfl).trans (List.getElem?_eq_getElem (by omega))
  have i1 := (hg 1 _ rfl).trans (List.getElem?_eq_getElem (by omega))
  obtain ⟨a, ha, hya, _⟩ := DataW.trod_int Tryd.underlying3 i0
  obtain ⟨b, hb, hyb, _⟩ := DataW.trod_int Tryd.underlying3 i1
  rw [hcs] at ha hb
  simp [cells_int, cells_span] at ha hb
  have hd : Rows.laid_bogworks_cut_dry (H := Unit) = .agg [.agg [.lit (.int .i64 a), .lit (.int .i64 b)]] := by
    have h1 := congrArg Prod.fst hx
    have h2 := congrArg Prod.fst hy
    simp only at h1 h2
    rw [h1]
    obtain ⟨y0, rfl⟩ : ∃ y0, xs = [y0] := by
      match xs, hxs with | [y0], _ => exact ⟨y0, rfl⟩
    obtain ⟨z0, z1, rfl⟩ : ∃ z0 z1, ys = [z0, z1] := by
      match ys, hys with | [z0, z1], _ => exact ⟨z0, z1, rfl⟩
    simp at h2 hya hyb ⊢
    rw [h2, hya, hyb]
  unfold Rows.laid_bogworks_cut_dry at hd
  simp at hd
  obtain ⟨rfl, rfl⟩ := hd
  have g0 := World.var?_cell dry_named e3 0
  have g1 := World.var?_cell dry_named e3 1
  rw [← Array.getElem?_toList, hcs] at g0 g1
  simp at g0 g1
  rw [ha] at g0
  rw [hb] at g1
  exact ⟨block_lt g0, g0, g1⟩
end Go.Proofs.YtlkhjnpflohfeaaDoor

/- What the rows of the laws have in common. -/
namespace Go.Proofs.YtlkhjnpflohfeaaDoor
open Go Go.Proofs Go.ChangeShapes Go.WideShapes Go.RowKit Go.Deep
theorem own' : ownKnob Tryd.prog.godebug = none := by kernel_rfl
theorem laidOut' : laidOutB Tryd.prog = true := by kernel_rfl
noncomputable def laidWorld (os : Os) : World :=
  { World.holding Tryd.prog os ⟨#[], #[], []⟩ with heap := (World.holding Tryd.prog os ⟨#[], #[], []⟩).heap.modify 0 fun
      | .cells _ t frozen => .cells #[.int .i64 1048576, .int .i64 (-1048576)] t frozen
      | o => o }
theorem laid_met (os : Os) (args : Array Value) : laidMetH Tryd.prog [("bogworks/cut.dry", Rows.laid_bogworks_cut_dry)] ((laidWorld os).forCall (fun _ _ => 0) ⟨#[], args, []⟩).memory :=
  laidMetH_of_parts (laidMet_of_run' 8 (by kernel_rfl) (by kernel_rfl)) (by kernel_rfl)
def noCut : Value := .agg #[.int .i64 0, .int .i64 0, .int .i64 0, .int .i64 0, .slice none 0 0, .int .i64 0, .slice none 0 0, .slice none 0 0]
set_option maxRecDepth 100000 in
theorem open_cut {H : Type} {enc : TypeId × Value → H} {W : World} {v : Value} {d : DataW H} {p : List MemPlace} {base : Nat} (hd : Dry W)
    (hv : Value.okWide Tryd.prog W .any base 28 v) (h : DataW.Trod enc Tryd.prog W 0 (fun _ => true) true 28 v d p) :
    ∃ (c : CutD) (ra ba la : Option Addr) (rc bc lc : Nat), v = cutVal c ra ba la rc bc lc ∧ CutIn W c ra ba la ∧ c.rain.length ≤ rc ∧ c.boats.length ≤ bc ∧ c.looks.length ≤ lc := by
  obtain ⟨cs, rfl, _⟩ := okWide_struct Tryd.underlying28 hv
  obtain ⟨fuel, hf⟩ := h
  obtain ⟨c, ra, ba, la, rc, bc, lc, h1, ⟨k1, k2, k3⟩, h2, h3, h4⟩ := trod_cut ⟨_, hf⟩
  refine ⟨c, ra, ba, la, rc, bc, lc, ?_, ⟨h2, h3, h4, hd⟩, k1, k2, k3⟩
  have h1' : cs.toList = cutCells c ra ba la rc bc lc := h1
  unfold cutVal
  rw [show cs = (cutCells c ra ba la rc bc lc).toArray by rw [← h1']]
  rfl

end Go.Proofs.YtlkhjnpflohfeaaDoor

/- The Go function CutRain returns true, for every argument, in every world in which cut.dry holds what the program's text lays; nothing that was there is turned. -/
namespace Go.Proofs.YtlkhjnpflohfeaaDoor
open Go Go.Proofs Go.ChangeShapes Go.WideShapes Go.RowKit Go.Deep
set_option maxRecDepth 100000 in
theorem cutRain_lifted (os : Os) (started : os.Started) (H : Type) (enc : TypeId × Value → H) :
    ReturnsInHanded {} Tryd.checked os 10 .any (fun w args => (Rows.cutRainSpec.pre enc Tryd.prog Tryd.f10 [] false w args ∧ laidMetH Tryd.prog [("bogworks/cut.dry", Rows.laid_bogworks_cut_dry)] w) ∧ sizedMet enc Tryd.prog Tryd.f10 (OpenSpec.ofChange Rows.cutRainSpec) false w args)
      (Rows.cutRainSpec.post enc Tryd.prog Tryd.f10 false true false false) := by
  refine returnsInHanded_of_change_and (C := Tryd.checked) (X := fun w _ => laidMetH Tryd.prog [("bogworks/cut.dry", Rows.laid_bogworks_cut_dry)] w) (fun _ _ _ hh h => h.of_heap hh) own' started (by kernel_rfl) Tryd.func10
    (ChangeSpec.witness_at (enc := enc) (C := Tryd.checked) (os := os) (X := fun w _ => laidMetH Tryd.prog [("bogworks/cut.dry", Rows.laid_bogworks_cut_dry)] w) false (laidWorld os) #[noCut, .int .u8 0, .int .u8 0, .int .u8 0] 8 rfl (by kernel_rfl) (by kernel_rfl) (by kernel_rfl) (by kernel_rfl) (by kernel_rfl) (laid_met os _)) ?_
  intro W base args ds gs before hval0 hW _ _ hL _
  have hval : ∀ (j : Nat) t v, Tryd.f10.params[j]? = some t → args[j]? = some v → Value.okWide Tryd.prog W .any base t v := hval0
  have hW' := hW
  obtain ⟨p, q, hA0, hV0, rfl, hfz, hnd⟩ := hW
  have hA : DataW.TrodAll enc Tryd.prog W 0 (fun _ => true) true Tryd.f10.params.toList args.toList ds p := hA0
  have hV : DataW.TrodVars enc Tryd.prog W (fun _ => true) [] gs q := hV0
  rw [Tryd.params10] at hA hval
  clear hA0 hval0 hV0
  obtain ⟨v0, vs0, d0, ds0, p0, q0, hargs0, rfl, rfl, h0, hA0⟩ := trodAll_cons hA
  obtain ⟨v1, vs1, d1, ds1, p1, q1, rfl, rfl, rfl, h1, hA1⟩ := trodAll_cons hA0
  obtain ⟨v2, vs2, d2, ds2, p2, q2, rfl, rfl, rfl, h2, hA2⟩ := trodAll_cons hA1
  obtain ⟨v3, vs3, d3, ds3, p3, q3, rfl, rfl, rfl, h3, hA3⟩ := trodAll_cons hA2
  obtain ⟨rfl, rfl, rfl⟩ := trodAll_nil hA3
  obtain rfl : args = #[v0, v1, v2, v3] := Array.ext' hargs0
  have hdry : Dry W := dry_of_laid hL
  obtain ⟨c, ra, ba, la, rc, bc, lc, rfl, hin, hc1, hc2, hc3⟩ := open_cut hdry (hval 0 28 v0 rfl rfl) h0
  obtain ⟨x1, rfl, rfl, rfl, wf1⟩ := open_int Tryd.underlying5 (hval 1 5 v1 rfl rfl) h1
  obtain ⟨x2, rfl, rfl, rfl, wf2⟩ := open_int Tryd.underlying5 (hval 2 5 v2 rfl rfl) h2
  obtain ⟨x3, rfl, rfl, rfl, wf3⟩ := open_int Tryd.underlying5 (hval 3 5 v3 rfl rfl) h3
  obtain ⟨rfl, rfl⟩ : gs = [] ∧ q = [] := by
    cases gs with
    | nil => exact ⟨rfl, hV⟩
    | cons g r => exact absurd hV (by intro h; cases h)
  simp only [List.append_nil] at hW'
  have hlt : ∀ x ∈ (p0 ++ ([] ++ ([] ++ ([] ++ [])))), x.block < W.heap.size := fun x hx => by simpa using hW'.lt x (by simpa using hx)
  refine (lawCutRain c ra ba la rc bc lc hin hc1 hc2 hc3 x1 wf1 x2 wf2 x3 wf3).mono fun e W' ⟨he, bel⟩ => ?_
  subst he
  refine ⟨_, rfl, _, _, _, [], (p0 ++ ([] ++ ([] ++ ([] ++ [])))), [], hW', ?_, ?_, rfl, bel.frame _, fun h => by cases h⟩
  · exact trodAll_mk1 (shut_bool Tryd.underlying4 true)
  · exact trodAll_cons_mk (Below.trod laidOut' (by kernel_rfl) (of_decide_eq_true (by kernel_rfl)) h0 bel (fun x hx => hlt x (by simp [hx]))) (trodAll_cons_mk (shut_int Tryd.underlying5 wf1) (trodAll_cons_mk (shut_int Tryd.underlying5 wf2) (trodAll_cons_mk (shut_int Tryd.underlying5 wf3) (trodAll_mk0))))

theorem cutRain_row : Rows.CutRainSaid :=
  OpenClaim.holds_of_wide 10 Tryd.f10 rfl rfl rfl rfl rfl rfl rfl ⟨rfl, rfl, rfl, rfl, rfl⟩ rfl rfl rfl rfl rfl (by kernel_rfl) Tryd.func10 (by kernel_rfl)
    (of_decide_eq_true (by kernel_rfl)) (by unfold Func.isWrapper; rw [if_neg (of_decide_eq_false (by kernel_rfl))]; exact ⟨rfl, rfl⟩)
    (fun os started H enc _ => cutRain_lifted os started H enc)

set_option maxRecDepth 100000 in
/-- The statement. -/
theorem cutRain_holds : Rows.CutRainCardSaid :=
  Claim7.holds_tied_plain_at .later [] [.data] true (true, "9723bbfeb16b6261ef9604731379b2640b68d1d36b45d3ac66265463b7b658c0") true
    cutRain_row (fun _ h => by cases h) (by kernel_rfl) (fun _ h => by cases h) cutRain_row_tie rfl ⟨rfl, rfl⟩ (by kernel_rfl) rfl
    (fun f fn hf hfn => by
      obtain rfl : f = 10 := Option.some.inj ((show Tryd.prog.funcNamed "bogworks/bogworkslaw06.CutRain" = some 10 by kernel_rfl).symm.trans hf) |>.symm
      obtain rfl : fn = Tryd.f10 := (Option.some.inj (Tryd.func10.symm.trans hfn)).symm
      exact ⟨by kernel_rfl, fun j t ht => by
        rw [Tryd.params10] at ht
        have h3 : t = 28 ∨ t = 5 := by
          rcases j with _ | _ | _ | _ | j
          · exact .inl (by simpa using ht.symm)
          · exact .inr (by simpa using ht.symm)
          · exact .inr (by simpa using ht.symm)
          · exact .inr (by simpa using ht.symm)
          · simp at ht
        rcases h3 with rfl | rfl
        · exact (show Tryd.prog.wantsStandIn 28 = false by kernel_rfl)
        · exact (show Tryd.prog.wantsStandIn 5 = false by kernel_rfl)⟩)
    (by kernel_rfl)
#print axioms cutRain_holds
end Go.Proofs.YtlkhjnpflohfeaaDoor
