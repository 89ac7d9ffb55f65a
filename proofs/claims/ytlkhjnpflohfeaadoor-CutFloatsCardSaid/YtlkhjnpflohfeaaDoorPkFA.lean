/- The Go function CutFloats returns true, for every argument, in every world in which cut.dry holds what the program's text lays; nothing that was there is turned. -/
import Derived.Test.YtlkhjnpflohfeaaDoorCoreD
import Derived.Test.YtlkhjnpflohfeaaDoorCoreF
import Derived.Test.YtlkhjnpflohfeaaDoorCoreL
import Derived.OpenShut
import Derived.Deep.Slices
import Derived.Deep.Fields
import Derived.ChangeSame
import Derived.Test.YtlkhjnpflohfeaaDoorRows
import Derived.LaidLaws
import Derived.ProofKit
import Derived.JoinedOf
import Derived.LaidHandle
import Derived.Stop.Joined
import Derived.Test.YtlkhjnpflohfeaaDoorCards
import Derived.Test.YtlkhjnpflohfeaaDoorTie
import Derived.SevenTiedAt
/- What CutFloats comes to. -/
namespace Go.Proofs.YtlkhjnpflohfeaaDoor
open Go
namespace Ev
/-- How a boat floats, by a depth. -/
def wantF (w : Int × Int) (b : Boat) (n : Nat) : Int := if b.draws.2 + b.per * n ≤ w.1 then 2 else if w.2 < b.draws.1 + b.per * n then 0 else 1
def lastF (w : Int × Int) (b : Boat) : Nat → Int
  | 0 => 2
  | n + 1 => wantF w b n
/-- The plain law, with some loads. -/
structure FloatsN (A : Api) (c : CutD) (b : Boat) (bi dn n : Nat) : Prop where
  fl : A.floats c bi n dn = (wantF (A.depth c dn).1 b n, 0)
  less : wantF (A.depth c dn).1 b n ≤ lastF (A.depth c dn).1 b n
  sure : wantF (A.depth c dn).1 b n = 2 ↔ (n : Int) ≤ (A.loads c bi dn).1.1
  may : wantF (A.depth c dn).1 b n ≠ 0 ↔ (n : Int) ≤ (A.loads c bi dn).1.2
  days : ∃ D S : Nat, A.days c bi n = (((D : Int), (S : Int)), 0) ∧ D < 1048576 ∧ S < 2 ^ (c.rain.length + 1) ∧ (D.testBit dn = true ↔ wantF (A.depth c dn).1 b n = 2) ∧ (S.testBit dn = true ↔ wantF (A.depth c dn).1 b n ≠ 0)
/-- The plain law. -/
structure Floats (A : Api) (c : CutD) (b : Boat) (bi dn : Nat) : Prop where
  rain : c.rain.length ≤ 8
  day : dn ≤ c.rain.length
  err : (A.loads c bi dn).2 = (A.depth c dn).2
  bad : (A.depth c dn).2 = 0 ∨ (A.depth c dn).2 = 10 ∧ (A.loads c bi dn).1 = (0, 0)
  draw : 0 ≤ b.draws.1 ∧ b.draws.1 ≤ 100 ∧ 0 ≤ b.draws.2 ∧ b.draws.2 ≤ 100 ∧ 0 ≤ b.per ∧ b.per ≤ 10
  room : ∃ rm : Nat, b.room = rm ∧ rm ≤ 10 ∧ ((A.depth c dn).2 = 0 → -1 ≤ (A.loads c bi dn).1.1 ∧ (A.loads c bi dn).1.1 ≤ (A.loads c bi dn).1.2 ∧ (A.loads c bi dn).1.2 ≤ rm ∧ ∀ n : Nat, n ≤ rm → FloatsN A c b bi dn n)
end Ev
end Go.Proofs.YtlkhjnpflohfeaaDoor

/- The plain law of CutFloats. -/
namespace Go.Proofs.YtlkhjnpflohfeaaDoor
open Go
namespace Cut
theorem lead_iff (p : Nat → Bool) (h : ∀ i j, i ≤ j → p j = true → p i = true) : ∀ m n, n < m → (n < lead p m ↔ p n = true)
  | 0, n, hn => by omega
  | m + 1, n, hn => by
    have hle := lead_le p m
    unfold lead
    by_cases hc : lead p m = m ∧ p m = true
    · rw [if_pos hc]
      exact ⟨fun _ => h n m (by omega) hc.2, fun _ => by omega⟩
    · rw [if_neg hc]
      by_cases hnm : n < m
      · exact lead_iff p h m n hnm
      · have : n = m := by omega
        subst this
        refine ⟨fun hx => by omega, fun hp => ?_⟩
        have hall : lead p n = n := by
          have hx : ∀ k, k ≤ n → lead p k = k := by
            intro k
            induction k with
            | zero => intro _; rfl
            | succ k ih =>
              intro hk
              unfold lead
              rw [if_pos ⟨ih (by omega), h k n (by omega) hp⟩]
          exact hx n (Nat.le_refl _)
        exact absurd ⟨hall, hp⟩ hc
theorem lead_mono (p q : Nat → Bool) (h : ∀ i, p i = true → q i = true) (hq : ∀ i j, i ≤ j → q j = true → q i = true) (hp : ∀ i j, i ≤ j → p j = true → p i = true) (m : Nat) : lead p m ≤ lead q m := by
  rcases Nat.eq_zero_or_pos (lead p m) with h0 | h0
  · omega
  · have hle := lead_le p m
    have h1 := (lead_iff p hp m (lead p m - 1) (by omega)).1 (by omega)
    have h2 := (lead_iff q hq m (lead p m - 1) (by omega)).2 (h _ h1)
    omega
theorem floats_less (b : Boat) (w : Int × Int) (hb : 0 ≤ b.per) {i j : Nat} (h : i ≤ j) : floats b j w ≤ floats b i w := by
  have hm : b.per * (i : Int) ≤ b.per * (j : Int) := Int.mul_le_mul_of_nonneg_left (by omega) hb
  unfold floats
  split
  · rw [if_pos (by omega)]; decide
  · split
    · split
      · decide
      · rw [if_pos (by omega)]; decide
    · split
      · decide
      · split <;> decide
theorem suits_mono (x : CutD) (k d : Nat) (s : Int) (hb : 0 ≤ (boatAt x.boats k).per) (i j : Nat) (h : i ≤ j) (hp : suits x k d s j = true) : suits x k d s i = true := by
  unfold suits at *
  simp only [decide_eq_true_eq] at *
  have := floats_less (boatAt x.boats k) (water x d) hb h
  omega
end Cut
theorem want_floats (b : Boat) (w : Int × Int) (n : Nat) : Ev.wantF w b n = Cut.floats b n w := by
  unfold Ev.wantF Cut.floats
  split
  · rfl
  · split
    · rw [if_neg (by omega)]
    · rw [if_pos (by omega)]
theorem floats_plain {c : CutD} (hf : fineD c = true) (bi dn : Nat) (hbi : bi < c.boats.length) (hdn : dn ≤ c.rain.length) : Ev.Floats specApi c c.boats[bi] bi dn := by
  have hv := fine_valid hf
  have V := Cut.valid_of hv
  have eL : loadsR c bi dn = if toldErr c true = 0 then ((Cut.loads c bi dn 2, Cut.loads c bi dn 1), 0) else ((0, 0), toldErr c true) := by
    unfold loadsR; rw [isBoat_nat hbi, isDay_nat hdn]; simp
  have eD : depthR c dn = if toldErr c true = 0 then (Cut.water c dn, 0) else ((0, 0), toldErr c true) := by
    unfold depthR; rw [isDay_nat hdn]; simp
  have hT := told_or hv
  have hB := V.boat bi hbi
  have hbt := boatAt_get hbi
  rw [hbt] at hB
  obtain ⟨b1, b2, b3, b4, b5, b6, b7⟩ := hB
  refine ⟨V.n8, hdn, ?_, ?_, ⟨b1, by omega, by omega, b3, b4, b5⟩, c.boats[bi].room.toNat, by omega, by omega, ?_⟩
  · show (loadsR c bi dn).2 = (depthR c dn).2
    rw [eL, eD]; split <;> rfl
  · show (depthR c dn).2 = 0 ∨ (depthR c dn).2 = 10 ∧ (loadsR c bi dn).1 = (0, 0)
    rw [eL, eD]
    rcases hT with h | h
    · rw [if_pos h]; exact .inl rfl
    · rw [if_neg (by omega), if_neg (by omega)]; exact .inr ⟨h, rfl⟩
  · intro h0
    have h0 : (depthR c dn).2 = 0 := h0
    have hz : toldErr c true = 0 := by
      rcases hT with h | h
      · exact h
      · rw [eD, if_neg (by omega)] at h0; rw [h] at h0; exact absurd h0 (by decide)
    rw [if_pos hz] at eL eD
    have m1 := Cut.suits_mono c bi dn 1 (by rw [hbt]; exact b4)
    have m2 := Cut.suits_mono c bi dn 2 (by rw [hbt]; exact b4)
    have hle1 := Cut.lead_le (Cut.suits c bi dn 1) ((Cut.boatAt c.boats bi).room.toNat + 1)
    have hmo := Cut.lead_mono (Cut.suits c bi dn 2) (Cut.suits c bi dn 1) (fun i h => by unfold Cut.suits at *; simp only [decide_eq_true_eq] at *; omega) m1 m2 ((Cut.boatAt c.boats bi).room.toNat + 1)
    show -1 ≤ (loadsR c bi dn).1.1 ∧ (loadsR c bi dn).1.1 ≤ (loadsR c bi dn).1.2 ∧ (loadsR c bi dn).1.2 ≤ ((c.boats[bi].room.toNat : Nat) : Int) ∧ ∀ n : Nat, n ≤ c.boats[bi].room.toNat → Ev.FloatsN specApi c c.boats[bi] bi dn n
    rw [eL]
    refine ⟨by simp only [Cut.loads]; omega, by simp only [Cut.loads]; omega, by simp only [Cut.loads]; rw [hbt] at *; omega, ?_⟩
    intro n hn
    have hwant : Ev.wantF (depthR c dn).1 c.boats[bi] n = Cut.floatsOn c bi n dn := by
      rw [want_floats, eD]; unfold Cut.floatsOn; rw [hbt]
    have hlast : ∀ k, k ≤ n → Ev.wantF (depthR c dn).1 c.boats[bi] k = Cut.floats c.boats[bi] k (Cut.water c dn) := fun k _ => by rw [want_floats, eD]
    have hor := Cut.floats_or c.boats[bi] n (Cut.water c dn)
    have hld : Cut.isLoads c bi n = true := isLoads_nat hbi (by omega) (by rw [hbt]; omega)
    have eF : floatsR c bi n dn = (Cut.floatsOn c bi n dn, 0) := by
      unfold floatsR isB
      rw [hld, isDay_nat hdn]
      simp only [Bool.and_self]
      rw [if_pos hz]; rfl
    have hs : ∀ s : Int, (n : Int) ≤ Cut.loads c bi dn s ↔ Cut.suits c bi dn s n = true := by
      intro s
      have := Cut.lead_iff (Cut.suits c bi dn s) (Cut.suits_mono c bi dn s (by rw [hbt]; exact b4)) ((Cut.boatAt c.boats bi).room.toNat + 1) n (by rw [hbt]; omega)
      rw [← this]
      unfold Cut.loads
      omega
    have hfo : Cut.floatsOn c bi n dn = Cut.floats c.boats[bi] n (Cut.water c dn) := by unfold Cut.floatsOn; rw [hbt]
    constructor
    · show floatsR c bi n dn = (Ev.wantF (depthR c dn).1 c.boats[bi] n, 0)
      rw [eF, hwant]
    · show Ev.wantF (depthR c dn).1 c.boats[bi] n ≤ Ev.lastF (depthR c dn).1 c.boats[bi] n
      cases n with
      | zero =>
        show _ ≤ (2 : Int)
        rw [hwant, hfo]; omega
      | succ k =>
        show _ ≤ Ev.wantF (depthR c dn).1 c.boats[bi] k
        rw [hlast (k + 1) (Nat.le_refl _), hlast k (by omega)]
        exact Cut.floats_less _ _ b4 (by omega)
    · show Ev.wantF (depthR c dn).1 c.boats[bi] n = 2 ↔ (n : Int) ≤ (loadsR c bi dn).1.1
      rw [hwant, eL]
      simp only
      rw [hs 2, hfo]
      unfold Cut.suits
      rw [hbt]
      simp only [decide_eq_true_eq]
      omega
    · show Ev.wantF (depthR c dn).1 c.boats[bi] n ≠ 0 ↔ (n : Int) ≤ (loadsR c bi dn).1.2
      rw [hwant, eL]
      simp only
      rw [hs 1, hfo]
      unfold Cut.suits
      rw [hbt]
      simp only [decide_eq_true_eq]
      omega
    · show ∃ D S : Nat, daysR c bi n = (((D : Int), (S : Int)), 0) ∧ D < 1048576 ∧ S < 2 ^ (c.rain.length + 1) ∧ (D.testBit dn = true ↔ Ev.wantF (depthR c dn).1 c.boats[bi] n = 2) ∧ (S.testBit dn = true ↔ Ev.wantF (depthR c dn).1 c.boats[bi] n ≠ 0)
      refine ⟨Cut.daysAll c bi n, Cut.daysSome c bi n, ?_, ?_, Cut.setTo_lt _ _, ?_, ?_⟩
      · unfold daysR; rw [hld, if_pos hz]; rfl
      · have h1 : Cut.daysAll c bi n < 2 ^ (c.rain.length + 1) := Cut.setTo_lt _ _
        have h2 : 2 ^ (c.rain.length + 1) ≤ 2 ^ 9 := Nat.pow_le_pow_right (by decide) (by have := V.n8; omega)
        omega
      · rw [hwant]
        unfold Cut.daysAll
        rw [Cut.setTo_bit]
        simp
        omega
      · rw [hwant]
        unfold Cut.daysSome
        rw [Cut.setTo_bit]
        simp
        omega
end Go.Proofs.YtlkhjnpflohfeaaDoor

/- The law CutFloats, gone through: what it comes to, by what the functions of package cut answer. -/
namespace Go.Proofs.YtlkhjnpflohfeaaDoor
open Go
namespace Ev
set_option maxRecDepth 100000
set_option maxHeartbeats 4000000 in
theorem floats_not (C : Cfg) (call : CallF) (A : Api) (hA : ApiOk call A) (a b k l m : Int) (r : List (Int × Int)) (bs : List Boat) (ls : List Look) (w1 w2 : Int)
    (hf : A.fine ⟨(a, b), (k, l), r, m, bs, ls⟩ = false) :
    Does (ev C call 0 none af7.body { tm := tmA 210 (zipI 0 [.agg [.int .i64 a, .int .i64 b, .int .i64 k, .int .i64 l, .vs 2 (r.map spanE), .int .i64 m, .vs 4 (bs.map boatE), .vs 3 (ls.map lookE)], .int .u8 w1, .int .u8 w2] []), df := [], hp := [], tc := [] }) (Yes 6) := by
  have h1 := fun H => hA.fine (cutOf_mk H a b k l m r bs ls)
  have h2 := fun H => hA.awake (H := H)
  rw [hf] at h1
  clear hf hA
  unfold af7
  simp only [zipI]
  (repeat (first | (with_reducible apply ops_cons; (focus ((conv => lhs; simp [ev1, wantG, spineK, spine, float, xnew, xval, xeff, val_tmA_cons, val_tmA_nil, val_val, putT_some, putT_none, addFl, cellsOf, pickC, alive, slLen, slFt, binI, maxA, maxK, minA, minK, aeqK, aeqS, AV.cells, boatE, spanE, lookE, fillA, setAt, bitsI, nat_nn, AV.plain, apart, Nat.testBit_eq_decide_div_mod_eq, *]) <;> exact rfl)); simp only [addFl]) | ((first | with_reducible refine does_seq ?_ | with_reducible refine does_ops ?_ | with_reducible refine does_draw ?_ | with_reducible refine does_skip ?_ | with_reducible refine does_block ?_ | with_reducible refine does_ret ?_ | with_reducible refine does_exit ?_ | with_reducible refine ops_nil ?_ | (with_reducible apply does_true; (focus (simp [val_tmA_cons, *]; done))) | (with_reducible apply does_false; (focus (simp [val_tmA_cons, *]; done)))); try simp only [Then, Ops])))
  exact ⟨rfl, rfl, by simp only [tmA_getD_cons]; simp⟩
set_option maxHeartbeats 4000000 in
theorem floats_none (C : Cfg) (call : CallF) (A : Api) (hA : ApiOk call A) (a b k l m : Int) (r : List (Int × Int)) (ls : List Look) (w1 w2 : Int)
    (hf : A.fine ⟨(a, b), (k, l), r, m, [], ls⟩ = true) :
    Does (ev C call 0 none af7.body { tm := tmA 210 (zipI 0 [.agg [.int .i64 a, .int .i64 b, .int .i64 k, .int .i64 l, .vs 2 (r.map spanE), .int .i64 m, .vs 4 (([] : List Boat).map boatE), .vs 3 (ls.map lookE)], .int .u8 w1, .int .u8 w2] []), df := [], hp := [], tc := [] }) (Yes 6) := by
  have h1 := fun H => hA.fine (cutOf_mk H a b k l m r [] ls)
  have h2 := fun H => hA.awake (H := H)
  rw [hf] at h1
  simp only [List.map_nil] at h1 ⊢
  clear hf hA
  unfold af7
  simp only [zipI]
  (repeat (first | (with_reducible apply ops_cons; (focus ((conv => lhs; simp [ev1, wantG, spineK, spine, float, xnew, xval, xeff, val_tmA_cons, val_tmA_nil, val_val, putT_some, putT_none, addFl, cellsOf, pickC, alive, slLen, slFt, binI, maxA, maxK, minA, minK, aeqK, aeqS, AV.cells, boatE, spanE, lookE, fillA, setAt, bitsI, nat_nn, AV.plain, apart, Nat.testBit_eq_decide_div_mod_eq, *]) <;> exact rfl)); simp only [addFl]) | ((first | with_reducible refine does_seq ?_ | with_reducible refine does_ops ?_ | with_reducible refine does_draw ?_ | with_reducible refine does_skip ?_ | with_reducible refine does_block ?_ | with_reducible refine does_ret ?_ | with_reducible refine does_exit ?_ | with_reducible refine ops_nil ?_ | (with_reducible apply does_true; (focus (simp [val_tmA_cons, *]; done))) | (with_reducible apply does_false; (focus (simp [val_tmA_cons, *]; done)))); try simp only [Then, Ops])))
  exact ⟨rfl, rfl, by simp only [tmA_getD_cons]; simp⟩
theorem shr_none {S n : Nat} (h : S < 2 ^ (n + 1)) (hn : n ≤ 8) : ((S : Int).fdiv (2 ^ min (((n : Int) + 1).toNat) IntKind.i64.bits)) = 0 := by
  have hb : IntKind.i64.bits = 64 := rfl
  rw [show min (((n : Int) + 1).toNat) IntKind.i64.bits = n + 1 by rw [hb]; omega, fdiv_pow, Nat.div_eq_of_lt h]
  rfl
set_option maxHeartbeats 8000000 in
theorem floats_main (C : Cfg) (hC : C.calm = true) (call : CallF) (A : Api) (hA : ApiOk call A) (a b k l m : Int) (r : List (Int × Int)) (bs : List Boat) (ls : List Look) (w1 w2 : Int) (u1 : 0 ≤ w1 ∧ w1 ≤ 255) (u2 : 0 ≤ w2 ∧ w2 ≤ 255)
    (hf : A.fine ⟨(a, b), (k, l), r, m, bs, ls⟩ = true) (hn : bs.length ≤ 4) (bi dn : Nat) (hbl : bi < bs.length) (hbi : w1 % bs.length = bi) (hdn : w2 % (r.length + 1) = dn) (hl : Floats A ⟨(a, b), (k, l), r, m, bs, ls⟩ bs[bi] bi dn) :
    Does (ev C call 0 none af7.body { tm := tmA 210 (zipI 0 [.agg [.int .i64 a, .int .i64 b, .int .i64 k, .int .i64 l, .vs 2 (r.map spanE), .int .i64 m, .vs 4 (bs.map boatE), .vs 3 (ls.map lookE)], .int .u8 w1, .int .u8 w2] []), df := [], hp := [], tc := [] }) (Yes 6) := by
  have h1 := fun H => hA.fine (cutOf_mk H a b k l m r bs ls)
  have h2 := fun H => hA.awake (H := H)
  have h3 := fun H d => hA.depth (cutOf_mk H a b k l m r bs ls) d
  have h4 := fun H b' d => hA.loads (cutOf_mk H a b k l m r bs ls) b' d
  have h5 := fun H b' n' d => hA.floats (cutOf_mk H a b k l m r bs ls) b' n' d
  have h6 := fun H b' n' => hA.days (cutOf_mk H a b k l m r bs ls) b' n'
  obtain ⟨hr, hdr, herr, hbad, ⟨q1, q2, q3, q4, q5, q6⟩, rm, hrm, hr10, hall⟩ := hl
  simp only at hr hdr herr hbad hall
  rw [hf] at h1
  unfold twoS at h3
  unfold twoA at h5
  unfold three at h4 h6
  clear hf hA
  have hrn : (CutD.mk (a, b) (k, l) r m bs ls).rain.length = r.length := rfl
  generalize (⟨(a, b), (k, l), r, m, bs, ls⟩ : CutD) = c at *
  have hbn : ¬ bs = [] := by rintro rfl; simp at hbl
  have hbne : ¬ ((bs.length : Int) = 0) := by omega
  have hw1 : IntKind.i64.wrap w1 = w1 := wrap_in (by omega) (by omega)
  have hw2 : IntKind.i64.wrap w2 = w2 := wrap_in (by omega) (by omega)
  have hwr : IntKind.i64.wrap (↑r.length + 1) = ↑r.length + 1 := wrap_in (by omega) (by omega)
  have h0 : ¬ ((r.length : Int) + 1 = 0) := by omega
  have ht1 : w1.tmod ↑bs.length = ↑bi := (Int.tmod_eq_emod_of_nonneg (by omega)).trans hbi
  have ht2 : w2.tmod (↑r.length + 1) = ↑dn := (Int.tmod_eq_emod_of_nonneg (by omega)).trans hdn
  have hwm : IntKind.i64.wrap (↑rm + 1) = ↑rm + 1 := wrap_in (by omega) (by omega)
  have HS := hideP (And.intro hr (And.intro hdr (And.intro hall (And.intro hr10 (And.intro hrn (And.intro q1 (And.intro q2 (And.intro q3 (And.intro q4 (And.intro q5 q6))))))))))
  clear hr hdr hall hr10 hrn hbi hdn u1 u2 hn q1 q2 q3 q4 q5 q6
  unfold af7
  simp only [zipI]
  rcases hbad with hE | ⟨hE, hS⟩
  · have hall := HS.out.2.2.1 hE
    obtain ⟨e1, e2, e3, e4⟩ := hall
    have x1 : ¬ ((A.loads c bi dn).1.1 < -1) := by omega
    have x2 : ¬ ((A.loads c bi dn).1.2 < (A.loads c bi dn).1.1) := by omega
    have x3 : ¬ ((rm : Int) < (A.loads c bi dn).1.2) := by omega
    have HE := hideP (And.intro e1 (And.intro e2 (And.intro e3 e4)))
    clear e1 e2 e3 e4
    (repeat (first | (with_reducible apply ops_cons; (focus ((conv => lhs; simp [ev1, wantG, spineK, spine, float, xnew, xval, xeff, val_tmA_cons, val_tmA_nil, val_val, putT_some, putT_none, addFl, cellsOf, pickC, alive, slLen, slFt, binI, maxA, maxK, minA, minK, aeqK, aeqS, AV.cells, boatE, spanE, lookE, fillA, setAt, bitsI, nat_nn, AV.plain, apart, Nat.testBit_eq_decide_div_mod_eq, *]) <;> exact rfl)); simp only [addFl]) | ((first | with_reducible refine does_seq ?_ | with_reducible refine does_ops ?_ | with_reducible refine does_draw ?_ | with_reducible refine does_skip ?_ | with_reducible refine does_block ?_ | with_reducible refine does_ret ?_ | with_reducible refine does_exit ?_ | with_reducible refine ops_nil ?_ | (with_reducible apply does_true; (focus (simp [val_tmA_cons, *]; done))) | (with_reducible apply does_false; (focus (simp [val_tmA_cons, *]; done)))); try simp only [Then, Ops])))
    obtain ⟨hr, hdr, _, hr10, hrn, q1, q2, q3, q4, q5, q6⟩ := HS.out
    have HN := HE.out.2.2.2
    clear HS HE herr x1 x2 x3 h3 h4 hbn hbne hw1 hw2 hwr h0 ht1 ht2
    refine does_loop (fun q st => ∃ n : Nat, n + q = rm + 1 ∧ st = { tm := tmA 210 [(99, .int .i64 n), (98, .int .i64 (↑rm + 1)), (15, .int .i64 (lastF (A.depth c dn).1 bs[bi] n)), (13, .int .i64 (A.loads c bi dn).1.2), (12, .int .i64 (A.loads c bi dn).1.1), (10, .ptr 2 0), (9, .ptr 1 0), (8, .int .i64 dn), (7, .int .i64 bi), (3, .ptr 0 0)], df := [], hp := [.cells [.int .i64 a, .int .i64 b, .int .i64 k, .int .i64 l, .vs 2 (r.map spanE), .int .i64 m, .vs 4 (bs.map boatE), .vs 3 (ls.map lookE)], .cells [.int .i64 bs[bi].draws.1, .int .i64 bs[bi].draws.2, .int .i64 bs[bi].per, .int .i64 rm], .cells [.int .i64 (A.depth c dn).1.1, .int .i64 (A.depth c dn).1.2]], tc := [] }) (rm + 1) (by unfold fuelL; omega) ?_ ?_
    · exact ⟨0, by omega, by simp [gcC_calm hC, keepT_tmA, lk_cons, lastF]⟩
    · rintro q st ⟨n, hq, rfl⟩
      by_cases hn : n ≤ rm
      · obtain ⟨fl, less, sure, may, D, S, hd, hD, hS, tD, tS⟩ := HN n hn
        have hn' : (n : Int) < ↑rm + 1 := by omega
        have p1 : 0 ≤ bs[bi].per * (n : Int) := Int.mul_nonneg q5 (by omega)
        have p2 : bs[bi].per * (n : Int) ≤ 10 * 10 := Int.mul_le_mul q6 (by omega) (by omega) (by omega)
        have hm1 : IntKind.i64.wrap (bs[bi].per * ↑n) = bs[bi].per * ↑n := wrap_in (by omega) (by omega)
        have hm2 : IntKind.i64.wrap (bs[bi].draws.2 + bs[bi].per * ↑n) = bs[bi].draws.2 + bs[bi].per * ↑n := wrap_in (by omega) (by omega)
        have hm3 : IntKind.i64.wrap (bs[bi].draws.1 + bs[bi].per * ↑n) = bs[bi].draws.1 + bs[bi].per * ↑n := wrap_in (by omega) (by omega)
        have hwr : IntKind.i64.wrap (↑r.length + 1) = ↑r.length + 1 := wrap_in (by omega) (by omega)
        have hwn : IntKind.i64.wrap (↑n + 1) = ↑n + 1 := wrap_in (by omega) (by omega)
        rw [hrn] at hS
        have hsh := shr_none hS (by omega)
        have hp8 : 2 ^ (r.length + 1) ≤ 2 ^ 9 := Nat.pow_le_pow_right (by decide) (by omega)
        have bD := bit_and (n := D) (d := dn) (by omega) (by omega)
        have bS := bit_and (n := S) (d := dn) (by omega) (by omega)
        have d1 : (A.days c bi n).1.1 = D := by rw [hd]
        have d2 : (A.days c bi n).1.2 = S := by rw [hd]
        have d3 : (A.days c bi n).2 = 0 := by rw [hd]
        have f1 : (A.floats c bi n dn).1 = wantF (A.depth c dn).1 bs[bi] n := by rw [fl]
        have f2 : (A.floats c bi n dn).2 = 0 := by rw [fl]
        have hD0 : ¬ ((D : Int) < 0) := by omega
        have hr0 : ¬ ((r.length : Int) + 1 < 0) := by omega
        have hnx : lastF (A.depth c dn).1 bs[bi] (n + 1) = wantF (A.depth c dn).1 bs[bi] n := rfl
        clear fl hd hD hS q1 q2 q3 q4 q5 q6 p1 p2 hr hdr hrn hr10 hp8 HN
        by_cases c2 : bs[bi].draws.2 + bs[bi].per * ↑n ≤ (A.depth c dn).1.1
        · have hv : wantF (A.depth c dn).1 bs[bi] n = 2 := by unfold wantF; rw [if_pos c2]
          rw [hv] at less sure may tD tS f1 hnx
          have sure := sure.1 rfl
          have may := may.1 (by decide)
          have tD := tD.2 rfl
          have tS := tS.2 (by decide)
          have less : ¬ (lastF (A.depth c dn).1 bs[bi] n < 2) := by omega
          rw [tD] at bD
          rw [tS] at bS
          simp at bD bS hsh
          clear hv tD tS
          (repeat (first | (with_reducible apply ops_cons; (focus ((conv => lhs; simp [ev1, wantG, spineK, spine, float, xnew, xval, xeff, val_tmA_cons, val_tmA_nil, val_val, putT_some, putT_none, addFl, cellsOf, pickC, alive, slLen, slFt, binI, maxA, maxK, minA, minK, aeqK, aeqS, AV.cells, boatE, spanE, lookE, fillA, setAt, bitsI, nat_nn, AV.plain, apart, Nat.testBit_eq_decide_div_mod_eq, *]) <;> exact rfl)); simp only [addFl]) | ((first | with_reducible refine does_seq ?_ | with_reducible refine does_ops ?_ | with_reducible refine does_draw ?_ | with_reducible refine does_skip ?_ | with_reducible refine does_block ?_ | with_reducible refine does_ret ?_ | with_reducible refine does_exit ?_ | with_reducible refine ops_nil ?_ | (with_reducible apply does_true; (focus (simp [val_tmA_cons, *]; done))) | (with_reducible apply does_false; (focus (simp [val_tmA_cons, *]; done)))); try simp only [Then, Ops, OutB])))
          exact ⟨q - 1, by omega, n + 1, by omega, by simp [gcC_calm hC, keepT_tmA, lk_cons, hnx]⟩
        · by_cases c1 : (A.depth c dn).1.2 < bs[bi].draws.1 + bs[bi].per * ↑n
          · have hv : wantF (A.depth c dn).1 bs[bi] n = 0 := by unfold wantF; rw [if_neg c2, if_pos c1]
            rw [hv] at less sure may tD tS f1 hnx
            have sure : ¬ ((n : Int) ≤ (A.loads c bi dn).1.1) := fun x => absurd (sure.2 x) (by decide)
            have may : ¬ ((n : Int) ≤ (A.loads c bi dn).1.2) := fun x => may.2 x rfl
            have tD : D.testBit dn = false := by
              cases h : D.testBit dn
              · rfl
              · exact absurd (tD.1 h) (by decide)
            have tS : S.testBit dn = false := by
              cases h : S.testBit dn
              · rfl
              · exact absurd rfl (tS.1 h)
            have less : ¬ (lastF (A.depth c dn).1 bs[bi] n < 0) := by omega
            rw [tD] at bD
            rw [tS] at bS
            simp at bD bS hsh
            clear hv tD tS
            (repeat (first | (with_reducible apply ops_cons; (focus ((conv => lhs; simp [ev1, wantG, spineK, spine, float, xnew, xval, xeff, val_tmA_cons, val_tmA_nil, val_val, putT_some, putT_none, addFl, cellsOf, pickC, alive, slLen, slFt, binI, maxA, maxK, minA, minK, aeqK, aeqS, AV.cells, boatE, spanE, lookE, fillA, setAt, bitsI, nat_nn, AV.plain, apart, Nat.testBit_eq_decide_div_mod_eq, *]) <;> exact rfl)); simp only [addFl]) | ((first | with_reducible refine does_seq ?_ | with_reducible refine does_ops ?_ | with_reducible refine does_draw ?_ | with_reducible refine does_skip ?_ | with_reducible refine does_block ?_ | with_reducible refine does_ret ?_ | with_reducible refine does_exit ?_ | with_reducible refine ops_nil ?_ | (with_reducible apply does_true; (focus (simp [val_tmA_cons, *]; done))) | (with_reducible apply does_false; (focus (simp [val_tmA_cons, *]; done)))); try simp only [Then, Ops, OutB])))
            exact ⟨q - 1, by omega, n + 1, by omega, by simp [gcC_calm hC, keepT_tmA, lk_cons, hnx]⟩
          · have hv : wantF (A.depth c dn).1 bs[bi] n = 1 := by unfold wantF; rw [if_neg c2, if_neg c1]
            rw [hv] at less sure may tD tS f1 hnx
            have sure : ¬ ((n : Int) ≤ (A.loads c bi dn).1.1) := fun x => absurd (sure.2 x) (by decide)
            have may := may.1 (by decide)
            have tD : D.testBit dn = false := by
              cases h : D.testBit dn
              · rfl
              · exact absurd (tD.1 h) (by decide)
            have tS := tS.2 (by decide)
            have less : ¬ (lastF (A.depth c dn).1 bs[bi] n < 1) := by omega
            rw [tD] at bD
            rw [tS] at bS
            simp at bD bS hsh
            clear hv tD tS
            (repeat (first | (with_reducible apply ops_cons; (focus ((conv => lhs; simp [ev1, wantG, spineK, spine, float, xnew, xval, xeff, val_tmA_cons, val_tmA_nil, val_val, putT_some, putT_none, addFl, cellsOf, pickC, alive, slLen, slFt, binI, maxA, maxK, minA, minK, aeqK, aeqS, AV.cells, boatE, spanE, lookE, fillA, setAt, bitsI, nat_nn, AV.plain, apart, Nat.testBit_eq_decide_div_mod_eq, *]) <;> exact rfl)); simp only [addFl]) | ((first | with_reducible refine does_seq ?_ | with_reducible refine does_ops ?_ | with_reducible refine does_draw ?_ | with_reducible refine does_skip ?_ | with_reducible refine does_block ?_ | with_reducible refine does_ret ?_ | with_reducible refine does_exit ?_ | with_reducible refine ops_nil ?_ | (with_reducible apply does_true; (focus (simp [val_tmA_cons, *]; done))) | (with_reducible apply does_false; (focus (simp [val_tmA_cons, *]; done)))); try simp only [Then, Ops, OutB])))
            exact ⟨q - 1, by omega, n + 1, by omega, by simp [gcC_calm hC, keepT_tmA, lk_cons, hnx]⟩
      · have hn' : ¬ ((n : Int) < ↑rm + 1) := by omega
        clear HN
        (repeat (first | (with_reducible apply ops_cons; (focus ((conv => lhs; simp [ev1, wantG, spineK, spine, float, xnew, xval, xeff, val_tmA_cons, val_tmA_nil, val_val, putT_some, putT_none, addFl, cellsOf, pickC, alive, slLen, slFt, binI, maxA, maxK, minA, minK, aeqK, aeqS, AV.cells, boatE, spanE, lookE, fillA, setAt, bitsI, nat_nn, AV.plain, apart, Nat.testBit_eq_decide_div_mod_eq, *]) <;> exact rfl)); simp only [addFl]) | ((first | with_reducible refine does_seq ?_ | with_reducible refine does_ops ?_ | with_reducible refine does_draw ?_ | with_reducible refine does_skip ?_ | with_reducible refine does_block ?_ | with_reducible refine does_ret ?_ | with_reducible refine does_exit ?_ | with_reducible refine ops_nil ?_ | (with_reducible apply does_true; (focus (simp [val_tmA_cons, *]; done))) | (with_reducible apply does_false; (focus (simp [val_tmA_cons, *]; done)))); try simp only [Then, Ops, OutB, reduceIte])))
        exact ⟨rfl, rfl, by simp only [tmA_getD_cons]; simp⟩
  · have hS1 : (A.loads c bi dn).1.1 = 0 := by rw [hS]
    have hS2 : (A.loads c bi dn).1.2 = 0 := by rw [hS]
    clear hS
    (repeat (first | (with_reducible apply ops_cons; (focus ((conv => lhs; simp [ev1, wantG, spineK, spine, float, xnew, xval, xeff, val_tmA_cons, val_tmA_nil, val_val, putT_some, putT_none, addFl, cellsOf, pickC, alive, slLen, slFt, binI, maxA, maxK, minA, minK, aeqK, aeqS, AV.cells, boatE, spanE, lookE, fillA, setAt, bitsI, nat_nn, AV.plain, apart, Nat.testBit_eq_decide_div_mod_eq, *]) <;> exact rfl)); simp only [addFl]) | ((first | with_reducible refine does_seq ?_ | with_reducible refine does_ops ?_ | with_reducible refine does_draw ?_ | with_reducible refine does_skip ?_ | with_reducible refine does_block ?_ | with_reducible refine does_ret ?_ | with_reducible refine does_exit ?_ | with_reducible refine ops_nil ?_ | (with_reducible apply does_true; (focus (simp [val_tmA_cons, *]; done))) | (with_reducible apply does_false; (focus (simp [val_tmA_cons, *]; done)))); try simp only [Then, Ops])))
    exact ⟨rfl, rfl, by simp only [tmA_getD_cons]; simp⟩
end Ev
end Go.Proofs.YtlkhjnpflohfeaaDoor

/- CutFloats answers true. -/
namespace Go.Proofs.YtlkhjnpflohfeaaDoor
open Go Go.Proofs Go.RowKit
open Ev
set_option maxRecDepth 100000 in
theorem floats_found (c : CutD) (w1 w2 : Int) (u1 : 0 ≤ w1 ∧ w1 ≤ 255) (u2 : 0 ≤ w2 ∧ w2 ≤ 255) : ∃ H' tc, Ev.call cfgC 2 (.fn (.func 7) [] []) [cutA c, .int .u8 w1, .int .u8 w2] [] = some (.ret (.bool true), H', tc) := by
  refine yes_call (t := 6) (n := 1) (fn := af7) rfl rfl rfl (by kernel_rfl) rfl rfl (show (3 : Nat) ≤ 210 by omega) ?_
  obtain ⟨⟨a, b⟩, ⟨k, l⟩, r, m, bs, ls⟩ := c
  cases hf : fineD ⟨(a, b), (k, l), r, m, bs, ls⟩ with
  | false => exact floats_not cfgC _ specApi (apiC 0) a b k l m r bs ls w1 w2 hf
  | true =>
    by_cases hb : bs = []
    · subst hb
      exact floats_none cfgC _ specApi (apiC 0) a b k l m r ls w1 w2 hf
    · have hpos : 0 < bs.length := List.length_pos_iff.2 hb
      obtain ⟨bi, hbi, hbl⟩ := rem_nat u1.1 hpos
      obtain ⟨dn, hdn, hdl⟩ := rem_nat (n := r.length + 1) u2.1 (by omega)
      have V := Cut.valid_of (fine_valid hf)
      exact floats_main cfgC rfl _ specApi (apiC 0) a b k l m r bs ls w1 w2 u1 u2 hf V.b4 bi dn hbl hbi (by simpa using hdn) (floats_plain hf bi dn hbl (by show dn ≤ r.length; omega))
theorem lawCutFloats (c : CutD) (ra ba la : Option Addr) (rc bc lc : Nat) {W : World} (hin : CutIn W c ra ba la) (h1 : c.rain.length ≤ rc) (h2 : c.boats.length ≤ bc) (h3 : c.looks.length ≤ lc) (x1 : Int) (wf1 : (Lit.int .u8 x1).wf = true) (x2 : Int) (wf2 : (Lit.int .u8 x2).wf = true) :
    Calls Tryd.prog 7 #[cutVal c ra ba la rc bc lc, .int .u8 x1, .int .u8 x2] W fun e W' => e = .returned (.bool true) ∧ Below W.heap.size W W' := by
  obtain ⟨H', tc, h⟩ := floats_found c x1 x2 (bounds_u8 wf1) (bounds_u8 wf2)
  exact callsIn_wide.1 (top_args tblC h W (globs_of_dry hin.dry) (VL.cons (cut_vr hin h1 h2 h3) (VL.cons .int (VL.cons .int VL.nil))))
end Go.Proofs.YtlkhjnpflohfeaaDoor

/- An argument that is a cut: from its reading to its cells. -/
namespace Go.Proofs.YtlkhjnpflohfeaaDoor
open Go Go.Proofs Go.RowKit Go.ChangeShapes Go.WideShapes Go.Deep
section
variable {H : Type} {enc : TypeId × Value → H} {w : World} {base : Nat} {spare : Nat → Bool} {held : Bool} {fuel : Nat} {cs : List Value} {x : DataW H × List MemPlace}

theorem list2 {cs : List Value} (h : cs.length = 2) : ∃ a b, cs = [a, b] := by
  match cs, h with | [a, b], _ => exact ⟨a, b, rfl⟩
theorem list3 {cs : List Value} (h : cs.length = 3) : ∃ a b c, cs = [a, b, c] := by
  match cs, h with | [a, b, c], _ => exact ⟨a, b, c, rfl⟩
theorem list4 {cs : List Value} (h : cs.length = 4) : ∃ a b c d, cs = [a, b, c, d] := by
  match cs, h with | [a, b, c, d], _ => exact ⟨a, b, c, d, rfl⟩
theorem list8 {cs : List Value} (h : cs.length = 8) : ∃ a b c d e f g i, cs = [a, b, c, d, e, f, g, i] := by
  match cs, h with | [a, b, c, d, e, f, g, i], _ => exact ⟨a, b, c, d, e, f, g, i, rfl⟩
theorem cells_int : Tryd.prog.cellsOf 3 = 1 := by kernel_rfl
theorem cells_span : Tryd.prog.cellsOf 23 = 2 := by kernel_rfl
theorem cells_boat : Tryd.prog.cellsOf 51 = 4 := by kernel_rfl
theorem cells_look : Tryd.prog.cellsOf 55 = 3 := by kernel_rfl

theorem trod_i (h : ∃ y, DataW.trod enc Tryd.prog w base spare held fuel 3 cs = some y) : ∃ n, cs = [.int .i64 n] ∧ (Lit.int .i64 n).wf = true := by
  obtain ⟨y, h⟩ := h
  obtain ⟨n, h1, _, h2⟩ := DataW.trod_int Tryd.underlying3 h
  exact ⟨n, h1, h2⟩
theorem trod_span (h : ∃ y, DataW.trod enc Tryd.prog w base spare held fuel 23 cs = some y) : ∃ a b, cs = [.int .i64 a, .int .i64 b] := by
  obtain ⟨y, h⟩ := h
  obtain ⟨xs, n, rfl, _, hl, hx, hf⟩ := DataW.trod_struct Tryd.underlying23 h
  rw [cells_span] at hl
  have hx : xs.length = 2 := hx
  obtain ⟨c0, c1, rfl⟩ := list2 hl
  clear hl
  obtain ⟨a, ha, _⟩ := trod_i ⟨_, (hf 0 _ rfl).trans (List.getElem?_eq_getElem (by omega))⟩
  obtain ⟨b, hb, _⟩ := trod_i ⟨_, (hf 1 _ rfl).trans (List.getElem?_eq_getElem (by omega))⟩
  simp [cells_int] at ha hb
  exact ⟨a, b, by rw [ha, hb]⟩
theorem trod_boat (h : ∃ y, DataW.trod enc Tryd.prog w base spare held fuel 51 cs = some y) : ∃ a b p r, cs = [.int .i64 a, .int .i64 b, .int .i64 p, .int .i64 r] := by
  obtain ⟨y, h⟩ := h
  obtain ⟨xs, n, rfl, _, hl, hx, hf⟩ := DataW.trod_struct Tryd.underlying51 h
  rw [cells_boat] at hl
  have hx : xs.length = 3 := hx
  obtain ⟨c0, c1, c2, c3, rfl⟩ := list4 hl
  clear hl
  obtain ⟨a, b, hab⟩ := trod_span ⟨_, (hf 0 _ rfl).trans (List.getElem?_eq_getElem (by omega))⟩
  obtain ⟨p, hp, _⟩ := trod_i ⟨_, (hf 1 _ rfl).trans (List.getElem?_eq_getElem (by omega))⟩
  obtain ⟨r, hr, _⟩ := trod_i ⟨_, (hf 2 _ rfl).trans (List.getElem?_eq_getElem (by omega))⟩
  simp [cells_int, cells_span] at hab hp hr
  exact ⟨a, b, p, r, by rw [hab.1, hab.2, hp, hr]⟩
theorem trod_look (h : ∃ y, DataW.trod enc Tryd.prog w base spare held fuel 55 cs = some y) : ∃ d a b, cs = [.int .i64 d, .int .i64 a, .int .i64 b] := by
  obtain ⟨y, h⟩ := h
  obtain ⟨xs, n, rfl, _, hl, hx, hf⟩ := DataW.trod_struct Tryd.underlying55 h
  rw [cells_look] at hl
  have hx : xs.length = 2 := hx
  obtain ⟨c0, c1, c2, rfl⟩ := list3 hl
  clear hl
  obtain ⟨d, hd, _⟩ := trod_i ⟨_, (hf 0 _ rfl).trans (List.getElem?_eq_getElem (by omega))⟩
  obtain ⟨a, b, hab⟩ := trod_span ⟨_, (hf 1 _ rfl).trans (List.getElem?_eq_getElem (by omega))⟩
  simp [cells_int, cells_span] at hab hd
  exact ⟨d, a, b, by rw [hab.1, hab.2, hd]⟩

theorem block_lt {W : World} {a : Addr} {v : Value} (h : W.cell? a = some v) : a.block < W.heap.size := by
  apply Classical.byContradiction
  intro hn
  have : W.heap[a.block]? = none := by simp; omega
  simp [World.cell?, this] at h

/-- A slice of elements of k cells each, as a list of what they are. -/
theorem row_of {α : Type} {t e : TypeId} {k : Nat} (d : α) (g : α → List Value) (hk : 0 < k) (hg : ∀ y, (g y).length = k) (ht : Tryd.prog.underlying t = some (.slice e)) (hc : Tryd.prog.cellsOf e = k)
    (he : ∀ (fuel : Nat) (cs : List Value), (∃ y, DataW.trod enc Tryd.prog w base spare held fuel e cs = some y) → ∃ y, cs = g y)
    (h : ∃ y, DataW.trod enc Tryd.prog w base spare held fuel t cs = some y) :
    ∃ (ra : Option Addr) (l : List α) (rc : Nat), cs = [.slice ra l.length rc] ∧ l.length ≤ rc ∧ rc ≤ maxLen ∧ ElemsR w ra l.length k (fun i j => (g (l.getD i d)).getD j undef) := by
  obtain ⟨y, h⟩ := h
  rcases open_slice ht h with ⟨rfl, _⟩ | ⟨a, len, cap, m, n, D, Pl, rfl, hb, hl, hm, hmm, hx, hi⟩
  · exact ⟨none, [], 0, rfl, Nat.le_refl _, Nat.zero_le _, .inl rfl⟩
  · have hml : len ≤ m := by rw [hmm]; split <;> omega
    have : ∀ i, ∃ y : α, i < len → ∀ j, j < k → w.cell? (a.add (i * k + j)) = some ((g y).getD j undef) := by
      intro i
      by_cases hlt : i < len
      · obtain ⟨cs', h1, h2⟩ := hi i (by omega)
        obtain ⟨y, rfl⟩ := he n cs' ⟨_, h2⟩
        rw [hc] at h1
        obtain ⟨_, _, h3⟩ := World.cells?_some h1
        refine ⟨y, fun _ j hj => ?_⟩
        rw [← Go.Deep.add_add, h3 j hj, List.getElem?_eq_getElem (by rw [hg]; exact hj)]
        simp [hg, hj]
      · exact ⟨d, fun h => absurd h hlt⟩
    obtain ⟨f, hf⟩ := Classical.skolem.1 this
    refine ⟨some a, (List.range len).map f, cap, by simp, by simpa using hl, hm, ?_⟩
    by_cases h0 : len = 0
    · exact .inl (by simp [h0])
    · have h00 := hf 0 (by omega) 0 hk
      have hs := World.cell?_spot h00
      have hb := block_lt h00
      obtain ⟨b, off, sp⟩ := a
      obtain rfl : sp = none := by simpa [Addr.add] using hs
      have hadd : ∀ u, Addr.add ⟨b, off, none⟩ u = ⟨b, off + u, none⟩ := fun u => by simp [Addr.add]
      rw [hadd] at hb
      refine .inr ⟨b, off, rfl, hb, fun i j hi hj => ?_⟩
      simp only [List.length_map, List.length_range] at hi
      have := hf i hi j hj
      rw [hadd, ← Nat.add_assoc] at this
      rw [this]
      simp [hi]

def spanC (s : Int × Int) : List Value := [.int .i64 s.1, .int .i64 s.2]
def boatC (b : Boat) : List Value := [.int .i64 b.draws.1, .int .i64 b.draws.2, .int .i64 b.per, .int .i64 b.room]
def lookC (l : Look) : List Value := [.int .i64 l.day, .int .i64 l.depth.1, .int .i64 l.depth.2]
theorem elems_to {W : World} {ra : Option Addr} {n k : Nat} {f g : Nat → Nat → Value} (h : ElemsR W ra n k f) (he : ∀ i j, i < n → j < k → f i j = g i j) : ElemsR W ra n k g := by
  rcases h with h | ⟨b, off, h1, h2, h3⟩
  · exact .inl h
  · exact .inr ⟨b, off, h1, h2, fun i j hi hj => (h3 i j hi hj).trans (by rw [he i j hi hj])⟩
theorem trod_rain (h : ∃ y, DataW.trod enc Tryd.prog w base spare held fuel 24 cs = some y) : ∃ (ra : Option Addr) (l : List (Int × Int)) (rc : Nat), cs = [.slice ra l.length rc] ∧ l.length ≤ rc ∧ rc ≤ maxLen ∧ ElemsR w ra l.length 2 (spanCell l) := by
  obtain ⟨ra, l, rc, h1, h2, h3, h4⟩ := row_of (k := 2) (0, 0) spanC (by omega) (fun _ => rfl) Tryd.underlying24 cells_span (fun _ _ h => by obtain ⟨a, b, h⟩ := trod_span h; exact ⟨(a, b), h⟩) h
  refine ⟨ra, l, rc, h1, h2, h3, elems_to h4 fun i j _ hj => ?_⟩
  have : j = 0 ∨ j = 1 := by omega
  rcases this with rfl | rfl <;> rfl
theorem trod_boats (h : ∃ y, DataW.trod enc Tryd.prog w base spare held fuel 25 cs = some y) : ∃ (ra : Option Addr) (l : List Boat) (rc : Nat), cs = [.slice ra l.length rc] ∧ l.length ≤ rc ∧ rc ≤ maxLen ∧ ElemsR w ra l.length 4 (boatCell l) := by
  obtain ⟨ra, l, rc, h1, h2, h3, h4⟩ := row_of (k := 4) Cut.nobody boatC (by omega) (fun _ => rfl) Tryd.underlying25 cells_boat (fun _ _ h => by obtain ⟨a, b, p, r, h⟩ := trod_boat h; exact ⟨⟨(a, b), p, r⟩, h⟩) h
  refine ⟨ra, l, rc, h1, h2, h3, elems_to h4 fun i j _ hj => ?_⟩
  have : j = 0 ∨ j = 1 ∨ j = 2 ∨ j = 3 := by omega
  rcases this with rfl | rfl | rfl | rfl <;> rfl
theorem trod_looks (h : ∃ y, DataW.trod enc Tryd.prog w base spare held fuel 26 cs = some y) : ∃ (ra : Option Addr) (l : List Look) (rc : Nat), cs = [.slice ra l.length rc] ∧ l.length ≤ rc ∧ rc ≤ maxLen ∧ ElemsR w ra l.length 3 (lookCell l) := by
  obtain ⟨ra, l, rc, h1, h2, h3, h4⟩ := row_of (k := 3) Cut.noLook lookC (by omega) (fun _ => rfl) Tryd.underlying26 cells_look (fun _ _ h => by obtain ⟨d, a, b, h⟩ := trod_look h; exact ⟨⟨d, (a, b)⟩, h⟩) h
  refine ⟨ra, l, rc, h1, h2, h3, elems_to h4 fun i j _ hj => ?_⟩
  have : j = 0 ∨ j = 1 ∨ j = 2 := by omega
  rcases this with rfl | rfl | rfl <;> rfl

theorem cells_cut : Tryd.prog.cellsOf 28 = 8 := by kernel_rfl
theorem cells_rain : Tryd.prog.cellsOf 24 = 1 := by kernel_rfl
theorem cells_boats : Tryd.prog.cellsOf 25 = 1 := by kernel_rfl
theorem cells_looks : Tryd.prog.cellsOf 26 = 1 := by kernel_rfl
theorem trod_cut (h : ∃ y, DataW.trod enc Tryd.prog w base spare held fuel 28 cs = some y) : ∃ (c : CutD) (ra ba la : Option Addr) (rc bc lc : Nat), cs = cutCells c ra ba la rc bc lc ∧ (c.rain.length ≤ rc ∧ c.boats.length ≤ bc ∧ c.looks.length ≤ lc) ∧
    ElemsR w ra c.rain.length 2 (spanCell c.rain) ∧ ElemsR w ba c.boats.length 4 (boatCell c.boats) ∧ ElemsR w la c.looks.length 3 (lookCell c.looks) := by
  obtain ⟨y, h⟩ := h
  obtain ⟨xs, n, rfl, _, hl, hx, hf⟩ := DataW.trod_struct Tryd.underlying28 h
  rw [cells_cut] at hl
  have hx : xs.length = 6 := hx
  obtain ⟨c0, c1, c2, c3, c4, c5, c6, c7, rfl⟩ := list8 hl
  clear hl
  obtain ⟨d1, d2, hd⟩ := trod_span ⟨_, (hf 0 _ rfl).trans (List.getElem?_eq_getElem (by omega))⟩
  obtain ⟨e1, e2, he⟩ := trod_span ⟨_, (hf 1 _ rfl).trans (List.getElem?_eq_getElem (by omega))⟩
  obtain ⟨ra, rain, rc, hr, kr, _, hra⟩ := trod_rain ⟨_, (hf 2 _ rfl).trans (List.getElem?_eq_getElem (by omega))⟩
  obtain ⟨m, hm, _⟩ := trod_i ⟨_, (hf 3 _ rfl).trans (List.getElem?_eq_getElem (by omega))⟩
  obtain ⟨ba, boats, bc, hb, kb, _, hba⟩ := trod_boats ⟨_, (hf 4 _ rfl).trans (List.getElem?_eq_getElem (by omega))⟩
  obtain ⟨la, looks, lc, hlk, kl, _, hla⟩ := trod_looks ⟨_, (hf 5 _ rfl).trans (List.getElem?_eq_getElem (by omega))⟩
  simp [cells_int, cells_span, cells_rain, cells_boats, cells_looks] at hd he hr hm hb hlk
  exact ⟨⟨(d1, d2), (e1, e2), rain, m, boats, looks⟩, ra, ba, la, rc, bc, lc, by rw [hd.1, hd.2, he.1, he.2, hr, hm, hb, hlk]; rfl, ⟨kr, kb, kl⟩, hra, hba, hla⟩
end
end Go.Proofs.YtlkhjnpflohfeaaDoor

/- The laid variable. -/
namespace Go.Proofs.YtlkhjnpflohfeaaDoor
open Go Go.Proofs Go.RowKit Go.ChangeShapes Go.WideShapes Go.Deep
theorem dry_named : Tryd.prog.globalNamed "bogworks/cut.dry" = some 0 := by kernel_rfl
theorem dry_type : (Tryd.prog.globals[0]?).map (·.type) = some 83 := by kernel_rfl
theorem cells_water : Tryd.prog.cellsOf 83 = 2 := by kernel_rfl
#check @Tryd.underlying83
theorem dry_of_laid {W : World} (h : laidMet Tryd.prog [("bogworks/cut.dry", Rows.laid_bogworks_cut_dry)] W) : Dry W := by
  obtain ⟨ps, ⟨g, t, cs, fuel, p, q, e1, e2, e3, e4, _, _⟩, _, _⟩ := h
  obtain rfl := Option.some.inj (dry_named.symm.trans e1)
  obtain rfl := Option.some.inj (dry_type.symm.trans e2)
  obtain ⟨xs, n, rfl, hx, hl, hxs, hf⟩ := DataW.trod_struct Tryd.underlying83 e4
  rw [cells_water] at hl
  have hxs : xs.length = 1 := hxs
  obtain ⟨c0, c1, hcs⟩ := list2 hl
  have h0 := (hf 0 _ rfl).trans (List.getElem?_eq_getElem (by omega))
  obtain ⟨ys, m, rfl, hy, _, hys, hg⟩ := DataW.trod_struct Tryd.underlying23 h0
  have hys : ys.length = 2 := hys
  have i0 := (hg 0 _ rfl).trans (List.getElem?_eq_getElem (by omega))
  have i1 := (hg 1 _ rfl).trans (List.getElem?_eq_getElem (by omega))
  obtain ⟨a, ha, hya, _⟩ := DataW.trod_int Tryd.underlying3 i0
  obtain ⟨b, hb, hyb, _⟩ := DataW.trod_int Tryd.underlying3 i1
  rw [hcs] at ha hb
  simp [cells_int, cells_span] at ha hb
  have hd : Rows.laid_bogworks_cut_dry (H := Unit) = .agg [.agg [.lit (.int .i64 a), .lit (.int .i64 b)]] := by
    have h1 := congrArg Prod.fst hx
    have h2 := congrArg Prod.fst hy
    simp only at h1 h2
    rw [h1]
    obtain ⟨y0, rfl⟩ : ∃ y0, xs = [y0] := by
      match xs, hxs with | [y0], _ => exact ⟨y0, rfl⟩
    obtain ⟨z0, z1, rfl⟩ : ∃ z0 z1, ys = [z0, z1] := by
      match ys, hys with | [z0, z1], _ => exact ⟨z0, z1, rfl⟩
    simp at h2 hya hyb ⊢
    rw [h2, hya, hyb]
  unfold Rows.laid_bogworks_cut_dry at hd
  simp at hd
  obtain ⟨rfl, rfl⟩ := hd
  have g0 := World.var?_cell dry_named e3 0
  have g1 := World.var?_cell dry_named e3 1
  rw [← Array.getElem?_toList, hcs] at g0 g1
  simp at g0 g1
  rw [ha] at g0
  rw [hb] at g1
  exact ⟨block_lt g0, g0, g1⟩
end Go.Proofs.YtlkhjnpflohfeaaDoor

/- What the rows of the laws have in common. -/
namespace Go.Proofs.YtlkhjnpflohfeaaDoor
open Go Go.Proofs Go.ChangeShapes Go.WideShapes Go.RowKit Go.Deep
theorem own' : ownKnob Tryd.prog.godebug = none := by kernel_rfl
theorem laidOut' : laidOutB Tryd.prog = true := by kernel_rfl
noncomputable def laidWorld (os : Os) : World :=
  { World.holding Tryd.prog os ⟨#[], #[], []⟩ with heap := (World.holding Tryd.prog os ⟨#[], #[], []⟩).heap.modify 0 fun
      | .cells _ t frozen => .cells #[.int .i64 1048576, .int .i64 (-1048576)] t frozen
      | o => o }
theorem laid_met (os : Os) (args : Array Value) : laidMetH Tryd.prog [("bogworks/cut.dry", Rows.laid_bogworks_cut_dry)] ((laidWorld os).forCall (fun _ _ => 0) ⟨#[], args, []⟩).memory :=
  laidMetH_of_parts (laidMet_of_run' 8 (by kernel_rfl) (by kernel_rfl)) (by kernel_rfl)
def noCut : Value := .agg #[.int .i64 0, .int .i64 0, .int .i64 0, .int .i64 0, .slice none 0 0, .int .i64 0, .slice none 0 0, .slice none 0 0]
set_option maxRecDepth 100000 in
theorem open_cut {H : Type} {enc : TypeId × Value → H} {W : World} {v : Value} {d : DataW H} {p : List MemPlace} {base : Nat} (hd : Dry W)
    (hv : Value.okWide Tryd.prog W .any base 28 v) (h : DataW.Trod enc Tryd.prog W 0 (fun _ => true) true 28 v d p) :
    ∃ (c : CutD) (ra ba la : Option Addr) (rc bc lc : Nat), v = cutVal c ra ba la rc bc lc ∧ CutIn W c ra ba la ∧ c.rain.length ≤ rc ∧ c.boats.length ≤ bc ∧ c.looks.length ≤ lc := by
  obtain ⟨cs, rfl, _⟩ := okWide_struct Tryd.underlying28 hv
  obtain ⟨fuel, hf⟩ := h
  obtain ⟨c, ra, ba, la, rc, bc, lc, h1, ⟨k1, k2, k3⟩, h2, h3, h4⟩ := trod_cut ⟨_, hf⟩
  refine ⟨c, ra, ba, la, rc, bc, lc, ?_, ⟨h2, h3, h4, hd⟩, k1, k2, k3⟩
  have h1' : cs.toList = cutCells c ra ba la rc bc lc := h1
  unfold cutVal
  rw [show cs = (cutCells c ra ba la rc bc lc).toArray by rw [← h1']]
  rfl

end Go.Proofs.YtlkhjnpflohfeaaDoor

/- The Go function CutFloats returns true, for every argument, in every world in which cut.dry holds what the program's text lays; nothing that was there is turned. -/
namespace Go.Proofs.YtlkhjnpflohfeaaDoor
open Go Go.Proofs Go.ChangeShapes Go.WideShapes Go.RowKit Go.Deep
set_option maxRecDepth 100000 in
theorem cutFloats_lifted (os : Os) (started : os.Started) (H : Type) (enc : TypeId × Value → H) :
    ReturnsInHanded {} Tryd.checked os 7 .any (fun w args => (Rows.cutFloatsSpec.pre enc Tryd.prog Tryd.f7 [] false w args ∧ laidMetH Tryd.prog [("bogworks/cut.dry", Rows.laid_bogworks_cut_dry)] w) ∧ sizedMet enc Tryd.prog Tryd.f7 (OpenSpec.ofChange Rows.cutFloatsSpec) false w args)
      (Rows.cutFloatsSpec.post enc Tryd.prog Tryd.f7 false true false false) := by
  refine returnsInHanded_of_change_and (C := Tryd.checked) (X := fun w _ => laidMetH Tryd.prog [("bogworks/cut.dry", Rows.laid_bogworks_cut_dry)] w) (fun _ _ _ hh h => h.of_heap hh) own' started (by kernel_rfl) Tryd.func7
    (ChangeSpec.witness_at (enc := enc) (C := Tryd.checked) (os := os) (X := fun w _ => laidMetH Tryd.prog [("bogworks/cut.dry", Rows.laid_bogworks_cut_dry)] w) false (laidWorld os) #[noCut, .int .u8 0, .int .u8 0] 8 rfl (by kernel_rfl) (by kernel_rfl) (by kernel_rfl) (by kernel_rfl) (by kernel_rfl) (laid_met os _)) ?_
  intro W base args ds gs before hval0 hW _ _ hL _
  have hval : ∀ (j : Nat) t v, Tryd.f7.params[j]? = some t → args[j]? = some v → Value.okWide Tryd.prog W .any base t v := hval0
  have hW' := hW
  obtain ⟨p, q, hA0, hV0, rfl, hfz, hnd⟩ := hW
  have hA : DataW.TrodAll enc Tryd.prog W 0 (fun _ => true) true Tryd.f7.params.toList args.toList ds p := hA0
  have hV : DataW.TrodVars enc Tryd.prog W (fun _ => true) [] gs q := hV0
  rw [Tryd.params7] at hA hval
  clear hA0 hval0 hV0
  obtain ⟨v0, vs0, d0, ds0, p0, q0, hargs0, rfl, rfl, h0, hA0⟩ := trodAll_cons hA
  obtain ⟨v1, vs1, d1, ds1, p1, q1, rfl, rfl, rfl, h1, hA1⟩ := trodAll_cons hA0
  obtain ⟨v2, vs2, d2, ds2, p2, q2, rfl, rfl, rfl, h2, hA2⟩ := trodAll_cons hA1
  obtain ⟨rfl, rfl, rfl⟩ := trodAll_nil hA2
  obtain rfl : args = #[v0, v1, v2] := Array.ext' hargs0
  have hdry : Dry W := dry_of_laid hL
  obtain ⟨c, ra, ba, la, rc, bc, lc, rfl, hin, hc1, hc2, hc3⟩ := open_cut hdry (hval 0 28 v0 rfl rfl) h0
  obtain ⟨x1, rfl, rfl, rfl, wf1⟩ := open_int Tryd.underlying5 (hval 1 5 v1 rfl rfl) h1
  obtain ⟨x2, rfl, rfl, rfl, wf2⟩ := open_int Tryd.underlying5 (hval 2 5 v2 rfl rfl) h2
  obtain ⟨rfl, rfl⟩ : gs = [] ∧ q = [] := by
    cases gs with
    | nil => exact ⟨rfl, hV⟩
    | cons g r => exact absurd hV (by intro h; cases h)
  simp only [List.append_nil] at hW'
  have hlt : ∀ x ∈ (p0 ++ ([] ++ ([] ++ []))), x.block < W.heap.size := fun x hx => by simpa using hW'.lt x (by simpa using hx)
  refine (lawCutFloats c ra ba la rc bc lc hin hc1 hc2 hc3 x1 wf1 x2 wf2).mono fun e W' ⟨he, bel⟩ => ?_
  subst he
  refine ⟨_, rfl, _, _, _, [], (p0 ++ ([] ++ ([] ++ []))), [], hW', ?_, ?_, rfl, bel.frame _, fun h => by cases h⟩
  · exact trodAll_mk1 (shut_bool Tryd.underlying4 true)
  · exact trodAll_cons_mk (Below.trod laidOut' (by kernel_rfl) (of_decide_eq_true (by kernel_rfl)) h0 bel (fun x hx => hlt x (by simp [hx]))) (trodAll_cons_mk (shut_int Tryd.underlying5 wf1) (trodAll_cons_mk (shut_int Tryd.underlying5 wf2) (trodAll_mk0)))

theorem cutFloats_row : Rows.CutFloatsSaid :=
  OpenClaim.holds_of_wide 7 Tryd.f7 rfl rfl rfl rfl rfl rfl rfl ⟨rfl, rfl, rfl, rfl, rfl⟩ rfl rfl rfl rfl rfl (by kernel_rfl) Tryd.func7 (by kernel_rfl)
    (of_decide_eq_true (by kernel_rfl)) (by unfold Func.isWrapper; rw [if_neg (of_decide_eq_false (by kernel_rfl))]; exact ⟨rfl, rfl⟩)
    (fun os started H enc _ => cutFloats_lifted os started H enc)

set_option maxRecDepth 100000 in
/-- The statement. -/
theorem cutFloats_holds : Rows.CutFloatsCardSaid :=
  Claim7.holds_tied_plain_at .later [] [.data] true (true, "9723bbfeb16b6261ef9604731379b2640b68d1d36b45d3ac66265463b7b658c0") true
    cutFloats_row (fun _ h => by cases h) (by kernel_rfl) (fun _ h => by cases h) cutFloats_row_tie rfl ⟨rfl, rfl⟩ (by kernel_rfl) rfl
    (fun f fn hf hfn => by
      obtain rfl : f = 7 := Option.some.inj ((show Tryd.prog.funcNamed "bogworks/bogworkslaw06.CutFloats" = some 7 by kernel_rfl).symm.trans hf) |>.symm
      obtain rfl : fn = Tryd.f7 := (Option.some.inj (Tryd.func7.symm.trans hfn)).symm
      exact ⟨by kernel_rfl, fun j t ht => by
        rw [Tryd.params7] at ht
        have h3 : t = 28 ∨ t = 5 := by
          rcases j with _ | _ | _ | j
          · exact .inl (by simpa using ht.symm)
          · exact .inr (by simpa using ht.symm)
          · exact .inr (by simpa using ht.symm)
          · simp at ht
        rcases h3 with rfl | rfl
        · exact (show Tryd.prog.wantsStandIn 28 = false by kernel_rfl)
        · exact (show Tryd.prog.wantsStandIn 5 = false by kernel_rfl)⟩)
    (by kernel_rfl)
#print axioms cutFloats_holds
end Go.Proofs.YtlkhjnpflohfeaaDoor
