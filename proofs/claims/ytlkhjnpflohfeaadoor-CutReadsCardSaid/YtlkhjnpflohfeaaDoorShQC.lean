/- The law CutReads, gone through. -/
import Derived.Test.YtlkhjnpflohfeaaDoorShQB
import Derived.Test.YtlkhjnpflohfeaaDoorShPD
/- The reference of chapter 06, gone through: is a number that of a day, a boat, loads of a boat; how a boat floats, and with how many loads. -/
namespace Go.Proofs.YtlkhjnpflohfeaaDoor
open Go
namespace Ev
namespace R
set_option maxRecDepth 100000
def DayC (call : CallF) : Prop := ∀ (H : List AB) (a b k l m : Int) (r : List (Int × Int)) (bs : List Boat) (ls : List Look) (d : Int),
  call (.fn (.func 49) [] []) [.agg [.int .i64 a, .int .i64 b, .int .i64 k, .int .i64 l, .vs 2 (r.map spanE), .int .i64 m, .vs 4 (bs.map boatE), .vs 3 (ls.map lookE)], .int .i64 d] H = some (.ret (.bool (Cut.isDay ⟨(a, b), (k, l), r, m, bs, ls⟩ d)), H, [])
def BoatC (call : CallF) : Prop := ∀ (H : List AB) (a b k l m : Int) (r : List (Int × Int)) (bs : List Boat) (ls : List Look) (d : Int), bs.length ≤ 40 →
  call (.fn (.func 65) [] []) [.agg [.int .i64 a, .int .i64 b, .int .i64 k, .int .i64 l, .vs 2 (r.map spanE), .int .i64 m, .vs 4 (bs.map boatE), .vs 3 (ls.map lookE)], .int .i64 d] H = some (.ret (.bool (Cut.isBoat ⟨(a, b), (k, l), r, m, bs, ls⟩ d)), H, [])
def LoadsC (call : CallF) : Prop := ∀ (H : List AB) (a b k l m : Int) (r : List (Int × Int)) (bs : List Boat) (ls : List Look) (d n : Int), bs.length ≤ 40 →
  call (.fn (.func 60) [] []) [.agg [.int .i64 a, .int .i64 b, .int .i64 k, .int .i64 l, .vs 2 (r.map spanE), .int .i64 m, .vs 4 (bs.map boatE), .vs 3 (ls.map lookE)], .int .i64 d, .int .i64 n] H = some (.ret (.bool (Cut.isLoads ⟨(a, b), (k, l), r, m, bs, ls⟩ d n)), H, [])
/-- A boat that is valid. -/
def BoatOk (b : Boat) : Prop := 0 ≤ b.draws.1 ∧ b.draws.1 ≤ b.draws.2 ∧ b.draws.2 ≤ 100 ∧ 0 ≤ b.per ∧ b.per ≤ 10 ∧ 0 ≤ b.room ∧ b.room ≤ 10
def FloatsC (call : CallF) : Prop := ∀ (H : List AB) (b : Boat), BoatOk b → ∀ (n lo hi : Int), 0 ≤ n → n ≤ 10 →
  call (.fn (.func 61) [] []) [.agg [.int .i64 b.draws.1, .int .i64 b.draws.2, .int .i64 b.per, .int .i64 b.room], .int .i64 n, .agg [.int .i64 lo, .int .i64 hi]] H = some (.ret (.int .i64 (Cut.floats b n (lo, hi))), H, [])
def MostC (call : CallF) : Prop := ∀ (H : List AB) (b : Boat), BoatOk b → ∀ (lo hi sure : Int), lo ≤ hi →
  call (.fn (.func 66) [] []) [.agg [.int .i64 b.draws.1, .int .i64 b.draws.2, .int .i64 b.per, .int .i64 b.room], .agg [.int .i64 lo, .int .i64 hi], .int .i64 sure] H = some (.ret (.int .i64 ((Cut.lead (fun i => decide (sure ≤ Cut.floats b i (lo, hi))) (b.room.toNat + 1) : Nat) - 1)), H, [])
theorem day_fun (C : Cfg) (call : CallF) (hI : InC call) (H : List AB) (a b k l m : Int) (r : List (Int × Int)) (bs : List Boat) (ls : List Look) (d : Int) :
    Does (ev C call H.length none af49.body { tm := tmA 10 (zipI 0 [.agg [.int .i64 a, .int .i64 b, .int .i64 k, .int .i64 l, .vs 2 (r.map spanE), .int .i64 m, .vs 4 (bs.map boatE), .vs 3 (ls.map lookE)], .int .i64 d] []), df := [], hp := H, tc := [] }) (Gives 4 (.bool (Cut.isDay ⟨(a, b), (k, l), r, m, bs, ls⟩ d))) := by
  unfold InC at hI
  unfold af49
  simp only [zipI]
  (repeat (first | (with_reducible apply ops_cons; (focus ((conv => lhs; simp [ev1, wantG, spineK, spine, float, xnew, xval, xeff, val_tmA_cons, val_tmA_nil, val_val, putT_some, putT_none, addFl, cellsOf, pickC, alive, slLen, slFt, binI, maxA, maxK, minA, minK, aeqK, aeqS, AV.cells, slCells_sl, boatE, spanE, lookE, fillA, setAt, bitsI, nat_nn, AV.plain, apart, Nat.testBit_eq_decide_div_mod_eq, *]) <;> exact rfl)); simp only [addFl]) | ((first | with_reducible refine does_seq ?_ | with_reducible refine does_ops ?_ | with_reducible refine does_draw ?_ | with_reducible refine does_skip ?_ | with_reducible refine does_block ?_ | with_reducible refine does_ret ?_ | with_reducible refine does_exit ?_ | with_reducible refine ops_nil ?_ | (with_reducible apply does_true; (focus (simp [val_tmA_cons, *]; done))) | (with_reducible apply does_false; (focus (simp [val_tmA_cons, *]; done)))); try simp only [Then, Ops, OutB, reduceIte])))
  exact ⟨by first | trivial | rfl, by first | trivial | rfl, by first | trivial | rfl, by simp only [tmA_getD_cons]; simp [Cut.isDay]⟩
theorem boat_fun (C : Cfg) (call : CallF) (hI : InC call) (H : List AB) (a b k l m : Int) (r : List (Int × Int)) (bs : List Boat) (ls : List Look) (d : Int) (hb : bs.length ≤ 40) :
    Does (ev C call H.length none af65.body { tm := tmA 11 (zipI 0 [.agg [.int .i64 a, .int .i64 b, .int .i64 k, .int .i64 l, .vs 2 (r.map spanE), .int .i64 m, .vs 4 (bs.map boatE), .vs 3 (ls.map lookE)], .int .i64 d] []), df := [], hp := H, tc := [] }) (Gives 4 (.bool (Cut.isBoat ⟨(a, b), (k, l), r, m, bs, ls⟩ d))) := by
  unfold InC at hI
  have hw : IntKind.i64.wrap ((bs.length : Int) - 1) = (bs.length : Int) - 1 := wrap_in (by omega) (by omega)
  clear hb
  unfold af65
  simp only [zipI]
  (repeat (first | (with_reducible apply ops_cons; (focus ((conv => lhs; simp [ev1, wantG, spineK, spine, float, xnew, xval, xeff, val_tmA_cons, val_tmA_nil, val_val, putT_some, putT_none, addFl, cellsOf, pickC, alive, slLen, slFt, binI, maxA, maxK, minA, minK, aeqK, aeqS, AV.cells, slCells_sl, boatE, spanE, lookE, fillA, setAt, bitsI, nat_nn, AV.plain, apart, Nat.testBit_eq_decide_div_mod_eq, *]) <;> exact rfl)); simp only [addFl]) | ((first | with_reducible refine does_seq ?_ | with_reducible refine does_ops ?_ | with_reducible refine does_draw ?_ | with_reducible refine does_skip ?_ | with_reducible refine does_block ?_ | with_reducible refine does_ret ?_ | with_reducible refine does_exit ?_ | with_reducible refine ops_nil ?_ | (with_reducible apply does_true; (focus (simp [val_tmA_cons, *]; done))) | (with_reducible apply does_false; (focus (simp [val_tmA_cons, *]; done)))); try simp only [Then, Ops, OutB, reduceIte])))
  exact ⟨by first | trivial | rfl, by first | trivial | rfl, by first | trivial | rfl, by simp only [tmA_getD_cons]; simp [Cut.isBoat]⟩
theorem loads_fun (C : Cfg) (call : CallF) (hI : InC call) (hB : BoatC call) (H : List AB) (a b k l m : Int) (r : List (Int × Int)) (bs : List Boat) (ls : List Look) (d n : Int) (hb : bs.length ≤ 40) :
    Does (ev C call H.length none af60.body { tm := tmA 20 (zipI 0 [.agg [.int .i64 a, .int .i64 b, .int .i64 k, .int .i64 l, .vs 2 (r.map spanE), .int .i64 m, .vs 4 (bs.map boatE), .vs 3 (ls.map lookE)], .int .i64 d, .int .i64 n] []), df := [], hp := H, tc := [] }) (Gives 6 (.bool (Cut.isLoads ⟨(a, b), (k, l), r, m, bs, ls⟩ d n))) := by
  unfold InC at hI
  have h1 := fun H => hB H a b k l m r bs ls d hb
  have hld : Cut.isLoads ⟨(a, b), (k, l), r, m, bs, ls⟩ d n = (Cut.isBoat ⟨(a, b), (k, l), r, m, bs, ls⟩ d && Cut.within n 0 (Cut.boatAt bs d.toNat).room) := rfl
  cases hib : Cut.isBoat ⟨(a, b), (k, l), r, m, bs, ls⟩ d with
  | false =>
    rw [hld, hib]
    rw [hib] at h1
    clear hB hld hib hb
    unfold af60
    simp only [zipI]
    (repeat (first | (with_reducible apply ops_cons; (focus ((conv => lhs; simp [ev1, wantG, spineK, spine, float, xnew, xval, xeff, val_tmA_cons, val_tmA_nil, val_val, putT_some, putT_none, addFl, cellsOf, pickC, alive, slLen, slFt, binI, maxA, maxK, minA, minK, aeqK, aeqS, AV.cells, slCells_sl, boatE, spanE, lookE, fillA, setAt, bitsI, nat_nn, AV.plain, apart, Nat.testBit_eq_decide_div_mod_eq, *]) <;> exact rfl)); simp only [addFl]) | ((first | with_reducible refine does_seq ?_ | with_reducible refine does_ops ?_ | with_reducible refine does_draw ?_ | with_reducible refine does_skip ?_ | with_reducible refine does_block ?_ | with_reducible refine does_ret ?_ | with_reducible refine does_exit ?_ | with_reducible refine ops_nil ?_ | (with_reducible apply does_true; (focus (simp [val_tmA_cons, *]; done))) | (with_reducible apply does_false; (focus (simp [val_tmA_cons, *]; done)))); try simp only [Then, Ops, OutB, reduceIte])))
    exact ⟨by first | trivial | rfl, by first | trivial | rfl, by first | trivial | rfl, by simp only [tmA_getD_cons]; simp⟩
  | true =>
    have hd : 0 ≤ d ∧ d < bs.length := by
      have : Cut.within d 0 ((bs.length : Int) - 1) = true := hib
      simp [Cut.within] at this; omega
    obtain ⟨dn, rfl⟩ := Int.eq_ofNat_of_zero_le hd.1
    have hdn : dn < bs.length := by omega
    have e : Cut.boatAt bs dn = bs[dn] := by simp [Cut.boatAt, hdn]
    rw [hld, hib, Int.toNat_natCast, e]
    rw [hib] at h1
    clear hB hld hib hb hd e
    unfold af60
    simp only [zipI]
    (repeat (first | (with_reducible apply ops_cons; (focus ((conv => lhs; simp [ev1, wantG, spineK, spine, float, xnew, xval, xeff, val_tmA_cons, val_tmA_nil, val_val, putT_some, putT_none, addFl, cellsOf, pickC, alive, slLen, slFt, binI, maxA, maxK, minA, minK, aeqK, aeqS, AV.cells, slCells_sl, boatE, spanE, lookE, fillA, setAt, bitsI, nat_nn, AV.plain, apart, Nat.testBit_eq_decide_div_mod_eq, *]) <;> exact rfl)); simp only [addFl]) | ((first | with_reducible refine does_seq ?_ | with_reducible refine does_ops ?_ | with_reducible refine does_draw ?_ | with_reducible refine does_skip ?_ | with_reducible refine does_block ?_ | with_reducible refine does_ret ?_ | with_reducible refine does_exit ?_ | with_reducible refine ops_nil ?_ | (with_reducible apply does_true; (focus (simp [val_tmA_cons, *]; done))) | (with_reducible apply does_false; (focus (simp [val_tmA_cons, *]; done)))); try simp only [Then, Ops, OutB, reduceIte])))
    exact ⟨by first | trivial | rfl, by first | trivial | rfl, by first | trivial | rfl, by simp only [tmA_getD_cons]; simp⟩
theorem floats_fun (C : Cfg) (call : CallF) (H : List AB) (b : Boat) (hb : BoatOk b) (n lo hi : Int) (n0 : 0 ≤ n) (n1 : n ≤ 10) :
    Does (ev C call H.length none af61.body { tm := tmA 29 (zipI 0 [.agg [.int .i64 b.draws.1, .int .i64 b.draws.2, .int .i64 b.per, .int .i64 b.room], .int .i64 n, .agg [.int .i64 lo, .int .i64 hi]] []), df := [], hp := H, tc := [] }) (Gives 6 (.int .i64 (Cut.floats b n (lo, hi)))) := by
  obtain ⟨b1, b2, b3, b4, b5, b6, b7⟩ := hb
  have hp : 0 ≤ b.per * n ∧ b.per * n ≤ 100 := by
    refine ⟨Int.mul_nonneg b4 n0, ?_⟩
    have := Int.mul_le_mul b5 n1 n0 (show (0 : Int) ≤ 10 by decide)
    omega
  have w1 : IntKind.i64.wrap (b.per * n) = b.per * n := wrap_in (by omega) (by omega)
  have w2 : IntKind.i64.wrap (b.draws.2 + b.per * n) = b.draws.2 + b.per * n := wrap_in (by omega) (by omega)
  have w3 : IntKind.i64.wrap (b.draws.1 + b.per * n) = b.draws.1 + b.per * n := wrap_in (by omega) (by omega)
  unfold Cut.floats
  simp only
  clear b1 b2 b3 b4 b5 b6 b7 hp n0 n1
  by_cases h1 : b.draws.2 + b.per * n ≤ lo
  · rw [if_pos h1]
    unfold af61
    simp only [zipI]
    (repeat (first | (with_reducible apply ops_cons; (focus ((conv => lhs; simp [ev1, wantG, spineK, spine, float, xnew, xval, xeff, val_tmA_cons, val_tmA_nil, val_val, putT_some, putT_none, addFl, cellsOf, pickC, alive, slLen, slFt, binI, maxA, maxK, minA, minK, aeqK, aeqS, AV.cells, slCells_sl, boatE, spanE, lookE, fillA, setAt, bitsI, nat_nn, AV.plain, apart, Nat.testBit_eq_decide_div_mod_eq, *]) <;> exact rfl)); simp only [addFl]) | ((first | with_reducible refine does_seq ?_ | with_reducible refine does_ops ?_ | with_reducible refine does_draw ?_ | with_reducible refine does_skip ?_ | with_reducible refine does_block ?_ | with_reducible refine does_ret ?_ | with_reducible refine does_exit ?_ | with_reducible refine ops_nil ?_ | (with_reducible apply does_true; (focus (simp [val_tmA_cons, *]; done))) | (with_reducible apply does_false; (focus (simp [val_tmA_cons, *]; done)))); try simp only [Then, Ops, OutB, reduceIte])))
    exact ⟨by first | trivial | rfl, by first | trivial | rfl, by first | trivial | rfl, by simp only [tmA_getD_cons]; simp⟩
  · rw [if_neg h1]
    by_cases h2 : b.draws.1 + b.per * n ≤ hi
    · rw [if_pos h2]
      have h3 : ¬ (hi < b.draws.1 + b.per * n) := by omega
      unfold af61
      simp only [zipI]
      (repeat (first | (with_reducible apply ops_cons; (focus ((conv => lhs; simp [ev1, wantG, spineK, spine, float, xnew, xval, xeff, val_tmA_cons, val_tmA_nil, val_val, putT_some, putT_none, addFl, cellsOf, pickC, alive, slLen, slFt, binI, maxA, maxK, minA, minK, aeqK, aeqS, AV.cells, slCells_sl, boatE, spanE, lookE, fillA, setAt, bitsI, nat_nn, AV.plain, apart, Nat.testBit_eq_decide_div_mod_eq, *]) <;> exact rfl)); simp only [addFl]) | ((first | with_reducible refine does_seq ?_ | with_reducible refine does_ops ?_ | with_reducible refine does_draw ?_ | with_reducible refine does_skip ?_ | with_reducible refine does_block ?_ | with_reducible refine does_ret ?_ | with_reducible refine does_exit ?_ | with_reducible refine ops_nil ?_ | (with_reducible apply does_true; (focus (simp [val_tmA_cons, *]; done))) | (with_reducible apply does_false; (focus (simp [val_tmA_cons, *]; done)))); try simp only [Then, Ops, OutB, reduceIte])))
      exact ⟨by first | trivial | rfl, by first | trivial | rfl, by first | trivial | rfl, by simp only [tmA_getD_cons]; simp⟩
    · rw [if_neg h2]
      have h3 : hi < b.draws.1 + b.per * n := by omega
      clear h2
      unfold af61
      simp only [zipI]
      (repeat (first | (with_reducible apply ops_cons; (focus ((conv => lhs; simp [ev1, wantG, spineK, spine, float, xnew, xval, xeff, val_tmA_cons, val_tmA_nil, val_val, putT_some, putT_none, addFl, cellsOf, pickC, alive, slLen, slFt, binI, maxA, maxK, minA, minK, aeqK, aeqS, AV.cells, slCells_sl, boatE, spanE, lookE, fillA, setAt, bitsI, nat_nn, AV.plain, apart, Nat.testBit_eq_decide_div_mod_eq, *]) <;> exact rfl)); simp only [addFl]) | ((first | with_reducible refine does_seq ?_ | with_reducible refine does_ops ?_ | with_reducible refine does_draw ?_ | with_reducible refine does_skip ?_ | with_reducible refine does_block ?_ | with_reducible refine does_ret ?_ | with_reducible refine does_exit ?_ | with_reducible refine ops_nil ?_ | (with_reducible apply does_true; (focus (simp [val_tmA_cons, *]; done))) | (with_reducible apply does_false; (focus (simp [val_tmA_cons, *]; done)))); try simp only [Then, Ops, OutB, reduceIte])))
      exact ⟨by first | trivial | rfl, by first | trivial | rfl, by first | trivial | rfl, by simp only [tmA_getD_cons]; simp⟩
theorem floats_anti {b : Boat} (hb : BoatOk b) {n n' lo hi : Int} (hlh : lo ≤ hi) (h : n ≤ n') : Cut.floats b n' (lo, hi) ≤ Cut.floats b n (lo, hi) := by
  have : b.per * n ≤ b.per * n' := Int.mul_le_mul_of_nonneg_left h hb.2.2.2.1
  have := hb.2.1
  unfold Cut.floats
  simp only
  split <;> split <;> (try split) <;> (try split) <;> omega
theorem lead_next {p : Nat → Bool} (hp : ∀ i j, i ≤ j → p j = true → p i = true) (i : Nat) : Cut.lead p (i + 1) = if p i = true then i + 1 else Cut.lead p i := by
  by_cases h : p i = true
  · rw [if_pos h]
    exact Cut.lead_all p _ fun j hj => hp j i (by omega) h
  · rw [if_neg h]
    show (if Cut.lead p i = i ∧ p i = true then i + 1 else Cut.lead p i) = _
    rw [if_neg (fun hh => h hh.2)]
set_option maxHeartbeats 8000000 in
theorem most_fun (C : Cfg) (hC : C.calm = true) (call : CallF) (hF : FloatsC call) (H : List AB) (b : Boat) (hb : BoatOk b) (lo hi sure : Int) (hlh : lo ≤ hi) :
    Does (ev C call H.length none af66.body { tm := tmA 23 (zipI 0 [.agg [.int .i64 b.draws.1, .int .i64 b.draws.2, .int .i64 b.per, .int .i64 b.room], .agg [.int .i64 lo, .int .i64 hi], .int .i64 sure] []), df := [], hp := H, tc := [] }) (Gives 6 (.int .i64 ((Cut.lead (fun i => decide (sure ≤ Cut.floats b i (lo, hi))) (b.room.toNat + 1) : Nat) - 1))) := by
  have h1 := fun H (n : Nat) (hn : (n : Int) ≤ 10) => hF H b hb n lo hi (by omega) hn
  have hp : ∀ i j : Nat, i ≤ j → decide (sure ≤ Cut.floats b j (lo, hi)) = true → decide (sure ≤ Cut.floats b i (lo, hi)) = true := fun i j hij h => by
    have := floats_anti hb hlh (show (i : Int) ≤ j by omega)
    rw [decide_eq_true_eq] at h ⊢
    omega
  have hnx := lead_next (p := fun i : Nat => decide (sure ≤ Cut.floats b i (lo, hi))) hp
  have hz : Cut.lead (fun i : Nat => decide (sure ≤ Cut.floats b i (lo, hi))) 0 = 0 := rfl
  have r0 := hb.2.2.2.2.2.1
  have r1 := hb.2.2.2.2.2.2
  have HN := hideP hnx
  have HZ := hideP hz
  have H1 := hideP h1
  clear hF hb hlh hp hnx hz h1
  unfold af66
  simp only [zipI]
  (repeat (first | (with_reducible apply ops_cons; (focus ((conv => lhs; simp [ev1, wantG, spineK, spine, float, xnew, xval, xeff, val_tmA_cons, val_tmA_nil, val_val, putT_some, putT_none, addFl, cellsOf, pickC, alive, slLen, slFt, binI, maxA, maxK, minA, minK, aeqK, aeqS, AV.cells, slCells_sl, boatE, spanE, lookE, fillA, setAt, bitsI, nat_nn, AV.plain, apart, Nat.testBit_eq_decide_div_mod_eq, *]) <;> exact rfl)); simp only [addFl]) | ((first | with_reducible refine does_seq ?_ | with_reducible refine does_ops ?_ | with_reducible refine does_draw ?_ | with_reducible refine does_skip ?_ | with_reducible refine does_block ?_ | with_reducible refine does_ret ?_ | with_reducible refine does_exit ?_ | with_reducible refine ops_nil ?_ | (with_reducible apply does_true; (focus (simp [val_tmA_cons, *]; done))) | (with_reducible apply does_false; (focus (simp [val_tmA_cons, *]; done)))); try simp only [Then, Ops, OutB, reduceIte])))
  refine does_loop (fun q st => ∃ i : Nat, (i : Int) + q = b.room + 1 ∧ st = { tm := tmA 23 [(8, .int .i64 i), (7, .int .i64 ((Cut.lead (fun i => decide (sure ≤ Cut.floats b i (lo, hi))) i : Nat) - 1)), (4, .ptr (H.length + 1) 0), (3, .ptr H.length 0), (2, .int .i64 sure)], df := [], hp := H ++ [.cells [.int .i64 b.draws.1, .int .i64 b.draws.2, .int .i64 b.per, .int .i64 b.room], .cells [.int .i64 lo, .int .i64 hi]], tc := [] }) (b.room + 1).toNat (by unfold fuelL; omega) ?_ ?_
  · refine ⟨0, by omega, ?_⟩
    simp only [gcC_calm hC]
    rw [HZ.out]
    exact st_eq (by simp [keepT_tmA, lk_cons]) rfl rfl rfl
  · rintro q st ⟨i, hq, rfl⟩
    by_cases hi' : (i : Int) ≤ b.room
    · have hw : IntKind.i64.wrap ((i : Int) + 1) = (i : Int) + 1 := wrap_in (by omega) (by omega)
      have h1 := fun H => H1.out H i (by omega)
      have hn := HN.out i
      generalize Cut.floats b i (lo, hi) = f at *
      generalize Cut.lead (fun i => decide (sure ≤ Cut.floats b i (lo, hi))) i = li at *
      by_cases hs : sure ≤ f
      · rw [if_pos (decide_eq_true hs)] at hn
        have HQ := hideP (And.intro hq hn)
        clear hn hq r0 r1
        (repeat (first | (with_reducible apply ops_cons; (focus ((conv => lhs; simp [ev1, wantG, spineK, spine, float, xnew, xval, xeff, val_tmA_cons, val_tmA_nil, val_val, putT_some, putT_none, addFl, cellsOf, pickC, alive, slLen, slFt, binI, maxA, maxK, minA, minK, aeqK, aeqS, AV.cells, slCells_sl, boatE, spanE, lookE, fillA, setAt, bitsI, nat_nn, AV.plain, apart, Nat.testBit_eq_decide_div_mod_eq, *]) <;> exact rfl)); simp only [addFl]) | ((first | with_reducible refine does_seq ?_ | with_reducible refine does_ops ?_ | with_reducible refine does_draw ?_ | with_reducible refine does_skip ?_ | with_reducible refine does_block ?_ | with_reducible refine does_ret ?_ | with_reducible refine does_exit ?_ | with_reducible refine ops_nil ?_ | (with_reducible apply does_true; (focus (simp [val_tmA_cons, *]; done))) | (with_reducible apply does_false; (focus (simp [val_tmA_cons, *]; done)))); try simp only [Then, Ops, OutB, reduceIte])))
        obtain ⟨hq, hn⟩ := HQ.out
        refine ⟨q - 1, by omega, i + 1, by omega, ?_⟩
        simp only [gcC_calm hC]
        rw [hn]
        exact st_eq (by simp [keepT_tmA, lk_cons]) rfl rfl rfl
      · rw [if_neg (by simpa using hs)] at hn
        have HQ := hideP (And.intro hq hn)
        clear hn hq r0 r1
        (repeat (first | (with_reducible apply ops_cons; (focus ((conv => lhs; simp [ev1, wantG, spineK, spine, float, xnew, xval, xeff, val_tmA_cons, val_tmA_nil, val_val, putT_some, putT_none, addFl, cellsOf, pickC, alive, slLen, slFt, binI, maxA, maxK, minA, minK, aeqK, aeqS, AV.cells, slCells_sl, boatE, spanE, lookE, fillA, setAt, bitsI, nat_nn, AV.plain, apart, Nat.testBit_eq_decide_div_mod_eq, *]) <;> exact rfl)); simp only [addFl]) | ((first | with_reducible refine does_seq ?_ | with_reducible refine does_ops ?_ | with_reducible refine does_draw ?_ | with_reducible refine does_skip ?_ | with_reducible refine does_block ?_ | with_reducible refine does_ret ?_ | with_reducible refine does_exit ?_ | with_reducible refine ops_nil ?_ | (with_reducible apply does_true; (focus (simp [val_tmA_cons, *]; done))) | (with_reducible apply does_false; (focus (simp [val_tmA_cons, *]; done)))); try simp only [Then, Ops, OutB, reduceIte])))
        obtain ⟨hq, hn⟩ := HQ.out
        refine ⟨q - 1, by omega, i + 1, by omega, ?_⟩
        simp only [gcC_calm hC]
        rw [hn]
        exact st_eq (by simp [keepT_tmA, lk_cons]) rfl rfl rfl
    · have hir : b.room.toNat + 1 = i := by omega
      rw [hir]
      clear hq hir
      generalize Cut.lead (fun i => decide (sure ≤ Cut.floats b i (lo, hi))) i = li at *
      (repeat (first | (with_reducible apply ops_cons; (focus ((conv => lhs; simp [ev1, wantG, spineK, spine, float, xnew, xval, xeff, val_tmA_cons, val_tmA_nil, val_val, putT_some, putT_none, addFl, cellsOf, pickC, alive, slLen, slFt, binI, maxA, maxK, minA, minK, aeqK, aeqS, AV.cells, slCells_sl, boatE, spanE, lookE, fillA, setAt, bitsI, nat_nn, AV.plain, apart, Nat.testBit_eq_decide_div_mod_eq, *]) <;> exact rfl)); simp only [addFl]) | ((first | with_reducible refine does_seq ?_ | with_reducible refine does_ops ?_ | with_reducible refine does_draw ?_ | with_reducible refine does_skip ?_ | with_reducible refine does_block ?_ | with_reducible refine does_ret ?_ | with_reducible refine does_exit ?_ | with_reducible refine ops_nil ?_ | (with_reducible apply does_true; (focus (simp [val_tmA_cons, *]; done))) | (with_reducible apply does_false; (focus (simp [val_tmA_cons, *]; done)))); try simp only [Then, Ops, OutB, reduceIte])))
      exact ⟨by first | trivial | rfl, by first | trivial | rfl, by first | trivial | rfl, by simp only [tmA_getD_cons]; simp⟩
end R
end Ev
end Go.Proofs.YtlkhjnpflohfeaaDoor

/- The reference of chapter 06: how deep, and how much leaks away, as calls. -/
namespace Go.Proofs.YtlkhjnpflohfeaaDoor
open Go
namespace Ev
namespace R
set_option maxRecDepth 100000
/-- A function's end: it answers v, and turned nothing. -/
def Ends (fn : AFunc) (v : AV) (e : AExit) (st : St) : Prop := e = .ret ∧ st.df = [] ∧ st.tc = [] ∧ (resL st fn.res).map resV = some v
theorem bare_res {C : Cfg} {n f : Nat} {fn : AFunc} {args : List AV} {H : List AB} {v : AV} (hc : C.calm = true) (h : Has C f fn) (hlen : args.length ≤ fn.ntmps) (hv : refs v = [])
    (hd : Does (ev C (Ev.call C n) H.length none fn.body { tm := tmA fn.ntmps (zipI 0 args []), df := [], hp := H, tc := [] }) (Ends fn v)) : Ev.call C (n + 1) (.fn (.func f) [] []) args H = some (.ret v, H, []) := by
  have := call_fn (n := n) (first := []) (captured := []) (args := args) (H := H) (R := fun x H' tc => x = .ret v ∧ H' = H ∧ tc = []) hc h.ext h.exth h.fns h.whole (by simpa using hlen) (by
    rw [List.nil_append, List.append_nil]
    refine hd.mono fun e st ⟨h1, h2, h3, h4⟩ => ?_
    subst h1
    refine ⟨.ret v, st, ?_, ?_⟩
    · have e1 : runDefs C H.length st.df none st = some (none, st) := by rw [h2]; rfl
      show (match runDefs C H.length st.df none st with
        | some (none, st) => (resL st fn.res).map fun vs => (CRes.ret (resV vs), st)
        | _ => none) = _
      rw [e1]
      obtain ⟨vs, h5, h6⟩ := Option.map_eq_some_iff.1 h4
      show (resL st fn.res).map (fun vs => (CRes.ret (resV vs), st)) = _
      rw [h5, ← h6]; rfl
    · unfold Left
      rw [h3, if_pos (by unfold bareQ; simp [CRes.val, hv])]
      exact ⟨rfl, rfl, rfl⟩)
  obtain ⟨x, H', tc, h1, rfl, rfl, rfl⟩ := this
  exact h1
theorem day_nat {a b k l m : Int} {r : List (Int × Int)} {bs : List Boat} {ls : List Look} {d : Int} (h : Cut.isDay ⟨(a, b), (k, l), r, m, bs, ls⟩ d = true) : ∃ dn : Nat, d = dn ∧ dn ≤ r.length := by
  have : Cut.within d 0 (r.length : Int) = true := h
  simp [Cut.within] at this
  exact ⟨d.toNat, by omega, by omega⟩
theorem told_day {c : CutD} {vb : Bool} (h : toldErr c vb = 0) : vb = true := by
  cases vb with
  | true => rfl
  | false =>
    unfold toldErr at h
    split at h
    · cases h
    · simp at h
set_option maxHeartbeats 8000000 in
theorem depth_fun (C : Cfg) (call : CallF) (hT : ToldC call) (hDy : DayC call) (H : List AB) (a b k l m : Int) (r : List (Int × Int)) (bs : List Boat) (ls : List Look) (d : Int) :
    Does (ev C call H.length none af15.body { tm := tmA 24 (zipI 0 [.agg [.int .i64 a, .int .i64 b, .int .i64 k, .int .i64 l, .vs 2 (r.map spanE), .int .i64 m, .vs 4 (bs.map boatE), .vs 3 (ls.map lookE)], .int .i64 d] []), df := [], hp := H, tc := [] }) (Ends af15 (twoS (depthR ⟨(a, b), (k, l), r, m, bs, ls⟩ d))) := by
  have h1 := fun H => hDy H a b k l m r bs ls d
  have hday := fun h => @day_nat a b k l m r bs ls d h
  rcases hT (H ++ [.cells [.int .i64 a, .int .i64 b, .int .i64 k, .int .i64 l, .vs 2 (r.map spanE), .int .i64 m, .vs 4 (bs.map boatE), .vs 3 (ls.map lookE)], .cells [.int .i64 0, .int .i64 0]]) a b k l m r bs ls (Cut.isDay ⟨(a, b), (k, l), r, m, bs, ls⟩ d) with ⟨h2, h3⟩ | ⟨h2, K, w, cnt, cs, h3, h4, h5, h6, h7, h8⟩
  · have hr : depthR ⟨(a, b), (k, l), r, m, bs, ls⟩ d = ((0, 0), toldErr ⟨(a, b), (k, l), r, m, bs, ls⟩ (Cut.isDay ⟨(a, b), (k, l), r, m, bs, ls⟩ d)) := by unfold depthR; rw [if_neg h2]
    rw [hr]
    generalize Cut.isDay ⟨(a, b), (k, l), r, m, bs, ls⟩ d = vb at *
    generalize toldErr ⟨(a, b), (k, l), r, m, bs, ls⟩ vb = e at *
    clear hr hT hDy hday
    unfold af15
    simp only [zipI]
    (repeat (first | (with_reducible apply ops_cons; (focus ((conv => lhs; simp [ev1, wantG, spineK, spine, float, xnew, xval, xeff, val_tmA_cons, val_tmA_nil, val_val, putT_some, putT_none, addFl, cellsOf, pickC, alive, slLen, slFt, binI, maxA, maxK, minA, minK, aeqK, aeqS, AV.cells, slCells_sl, boatE, spanE, lookE, fillA, setAt, bitsI, nat_nn, AV.plain, apart, Nat.testBit_eq_decide_div_mod_eq, *]) <;> exact rfl)); simp only [addFl]) | ((first | with_reducible refine does_seq ?_ | with_reducible refine does_ops ?_ | with_reducible refine does_draw ?_ | with_reducible refine does_skip ?_ | with_reducible refine does_block ?_ | with_reducible refine does_ret ?_ | with_reducible refine does_exit ?_ | with_reducible refine ops_nil ?_ | (with_reducible apply does_true; (focus (simp [val_tmA_cons, *]; done))) | (with_reducible apply does_false; (focus (simp [val_tmA_cons, *]; done)))); try simp only [Then, Ops, OutB, reduceIte])))
    exact ⟨by first | trivial | rfl, by first | trivial | rfl, by first | trivial | rfl, by simp only [resL, resOf, tmA_getD_cons]; simp [pickC, resV, twoS]⟩
  · have hvb := told_day h2
    obtain ⟨dn, rfl, hdn⟩ := hday hvb
    have hr : depthR ⟨(a, b), (k, l), r, m, bs, ls⟩ dn = (Cut.water ⟨(a, b), (k, l), r, m, bs, ls⟩ dn, 0) := by unfold depthR; rw [if_pos h2, Int.toNat_natCast]
    rw [hr]
    have h8 := h8 [] dn hdn
    rw [hvb] at h1 h3
    simp only [List.append_nil, List.append_assoc, List.cons_append, List.nil_append] at h3 h8
    generalize Cut.water ⟨(a, b), (k, l), r, m, bs, ls⟩ dn = wt at *
    clear hr hT hDy hday h2 h4 h5 h6 h7 hvb hdn
    unfold af15
    simp only [zipI]
    (repeat (first | (with_reducible apply ops_cons; (focus ((conv => lhs; simp [ev1, wantG, spineK, spine, float, xnew, xval, xeff, val_tmA_cons, val_tmA_nil, val_val, putT_some, putT_none, addFl, cellsOf, pickC, alive, slLen, slFt, binI, maxA, maxK, minA, minK, aeqK, aeqS, AV.cells, slCells_sl, boatE, spanE, lookE, fillA, setAt, bitsI, nat_nn, AV.plain, apart, Nat.testBit_eq_decide_div_mod_eq, *]) <;> exact rfl)); simp only [addFl]) | ((first | with_reducible refine does_seq ?_ | with_reducible refine does_ops ?_ | with_reducible refine does_draw ?_ | with_reducible refine does_skip ?_ | with_reducible refine does_block ?_ | with_reducible refine does_ret ?_ | with_reducible refine does_exit ?_ | with_reducible refine ops_nil ?_ | (with_reducible apply does_true; (focus (simp [val_tmA_cons, *]; done))) | (with_reducible apply does_false; (focus (simp [val_tmA_cons, *]; done)))); try simp only [Then, Ops, OutB, reduceIte])))
    exact ⟨by first | trivial | rfl, by first | trivial | rfl, by first | trivial | rfl, by simp only [resL, resOf, tmA_getD_cons]; simp [pickC, resV, twoS]⟩
set_option maxHeartbeats 8000000 in
theorem leak_fun (C : Cfg) (call : CallF) (hT : ToldC call) (H : List AB) (a b k l m : Int) (r : List (Int × Int)) (bs : List Boat) (ls : List Look) :
    Does (ev C call H.length none af17.body { tm := tmA 27 (zipI 0 [.agg [.int .i64 a, .int .i64 b, .int .i64 k, .int .i64 l, .vs 2 (r.map spanE), .int .i64 m, .vs 4 (bs.map boatE), .vs 3 (ls.map lookE)]] []), df := [], hp := H, tc := [] }) (Ends af17 (twoS (leakR ⟨(a, b), (k, l), r, m, bs, ls⟩))) := by
  rcases hT (H ++ [.cells [.int .i64 a, .int .i64 b, .int .i64 k, .int .i64 l, .vs 2 (r.map spanE), .int .i64 m, .vs 4 (bs.map boatE), .vs 3 (ls.map lookE)], .cells [.int .i64 0, .int .i64 0]]) a b k l m r bs ls true with ⟨h2, h3⟩ | ⟨h2, K, w, cnt, cs, h3, h4, h5, h6, h7, h8⟩
  · have hr : leakR ⟨(a, b), (k, l), r, m, bs, ls⟩ = ((0, 0), toldErr ⟨(a, b), (k, l), r, m, bs, ls⟩ true) := by unfold leakR; rw [if_neg h2]
    rw [hr]
    generalize toldErr ⟨(a, b), (k, l), r, m, bs, ls⟩ true = e at *
    clear hr hT
    unfold af17
    simp only [zipI]
    (repeat (first | (with_reducible apply ops_cons; (focus ((conv => lhs; simp [ev1, wantG, spineK, spine, float, xnew, xval, xeff, val_tmA_cons, val_tmA_nil, val_val, putT_some, putT_none, addFl, cellsOf, pickC, alive, slLen, slFt, binI, maxA, maxK, minA, minK, aeqK, aeqS, AV.cells, slCells_sl, boatE, spanE, lookE, fillA, setAt, bitsI, nat_nn, AV.plain, apart, Nat.testBit_eq_decide_div_mod_eq, *]) <;> exact rfl)); simp only [addFl]) | ((first | with_reducible refine does_seq ?_ | with_reducible refine does_ops ?_ | with_reducible refine does_draw ?_ | with_reducible refine does_skip ?_ | with_reducible refine does_block ?_ | with_reducible refine does_ret ?_ | with_reducible refine does_exit ?_ | with_reducible refine ops_nil ?_ | (with_reducible apply does_true; (focus (simp [val_tmA_cons, *]; done))) | (with_reducible apply does_false; (focus (simp [val_tmA_cons, *]; done)))); try simp only [Then, Ops, OutB, reduceIte])))
    exact ⟨by first | trivial | rfl, by first | trivial | rfl, by first | trivial | rfl, by simp only [resL, resOf, tmA_getD_cons]; simp [pickC, resV, twoS]⟩
  · have hr : leakR ⟨(a, b), (k, l), r, m, bs, ls⟩ = (Cut.leakSpan ⟨(a, b), (k, l), r, m, bs, ls⟩, 0) := by unfold leakR; rw [if_pos h2]
    rw [hr]
    generalize Cut.leakSpan ⟨(a, b), (k, l), r, m, bs, ls⟩ = sp at *
    have hw : IntKind.i64.wrap (((cnt : Int) + 1) - 1) = (cnt : Int) := by rw [wrap_in (by omega) (by omega)]; omega
    have hw' : IntKind.i64.wrap (cnt : Int) = (cnt : Int) := wrap_in (by omega) (by omega)
    have hc : (cnt : Int) < (cnt : Int) + 1 := by omega
    have hc0 : (0 : Int) < (cnt : Int) + 1 := by omega
    simp only [List.append_assoc, List.cons_append, List.nil_append] at h3 h4
    obtain ⟨n4, e4⟩ := List.getElem?_eq_some_iff.1 h4
    simp only [List.length_append, List.length_cons] at n4
    clear hr hT h2 h7 h8
    unfold af17
    simp only [zipI]
    (repeat (first | (with_reducible apply ops_cons; (focus ((conv => lhs; simp [ev1, wantG, spineK, spine, float, xnew, xval, xeff, val_tmA_cons, val_tmA_nil, val_val, putT_some, putT_none, addFl, cellsOf, pickC, alive, slLen, slFt, binI, maxA, maxK, minA, minK, aeqK, aeqS, AV.cells, slCells_sl, boatE, spanE, lookE, fillA, setAt, bitsI, nat_nn, AV.plain, apart, Nat.testBit_eq_decide_div_mod_eq, *]) <;> exact rfl)); simp only [addFl]) | ((first | with_reducible refine does_seq ?_ | with_reducible refine does_ops ?_ | with_reducible refine does_draw ?_ | with_reducible refine does_skip ?_ | with_reducible refine does_block ?_ | with_reducible refine does_ret ?_ | with_reducible refine does_exit ?_ | with_reducible refine ops_nil ?_ | (with_reducible apply does_true; (focus (simp [val_tmA_cons, *]; done))) | (with_reducible apply does_false; (focus (simp [val_tmA_cons, *]; done)))); try simp only [Then, Ops, OutB, reduceIte])))
    exact ⟨by first | trivial | rfl, by first | trivial | rfl, by first | trivial | rfl, by simp only [resL, resOf, tmA_getD_cons]; simp [pickC, resV, twoS]⟩
end R
end Ev
end Go.Proofs.YtlkhjnpflohfeaaDoor

/- The reference of chapter 06: how a boat floats, and with how many loads, as calls. -/
namespace Go.Proofs.YtlkhjnpflohfeaaDoor
open Go
namespace Ev
namespace R
set_option maxRecDepth 100000
theorem told_ok {c : CutD} {vb : Bool} (h : toldErr c vb = 0) : Cut.Valid c ∧ Cut.can c (Cut.every c) = true := by
  have hvb := told_day h
  subst hvb
  have hv : Cut.valid c = true := by
    cases hv : Cut.valid c with
    | true => rfl
    | false => rw [toldErr_bad hv] at h; cases h
  refine ⟨Cut.valid_of hv, ?_⟩
  cases hc : Cut.can c (Cut.every c) with
  | true => rfl
  | false => rw [toldErr_clash hv hc] at h; cases h
theorem water_le {c : CutD} (V : Cut.Valid c) (hc : Cut.can c (Cut.every c) = true) {d : Nat} (hd : d ≤ c.rain.length) : (Cut.water c d).1 ≤ (Cut.water c d).2 := by
  obtain ⟨w1, ⟨k1, t1, a1, a2, a3⟩, -⟩ := Cut.water_spec V hc d hd
  have := w1 k1 t1 a1 a2
  unfold Cut.inS at this
  omega
theorem boat_ok {a b k l m : Int} {r : List (Int × Int)} {bs : List Boat} {ls : List Look} (V : Cut.Valid ⟨(a, b), (k, l), r, m, bs, ls⟩) {i : Nat} (h : i < bs.length) : BoatOk bs[i] := by
  have := V.boat i h
  have e : Cut.boatAt bs i = bs[i] := by simp [Cut.boatAt, h]
  rw [show (⟨(a, b), (k, l), r, m, bs, ls⟩ : CutD).boats = bs from rfl, e] at this
  exact this
theorem boat_nat {a b k l m : Int} {r : List (Int × Int)} {bs : List Boat} {ls : List Look} {d : Int} (h : Cut.isBoat ⟨(a, b), (k, l), r, m, bs, ls⟩ d = true) : ∃ dn : Nat, d = dn ∧ dn < bs.length := by
  have : Cut.within d 0 ((bs.length : Int) - 1) = true := h
  simp [Cut.within] at this
  exact ⟨d.toNat, by omega, by omega⟩
theorem loads_nat {a b k l m : Int} {r : List (Int × Int)} {bs : List Boat} {ls : List Look} (V : Cut.Valid ⟨(a, b), (k, l), r, m, bs, ls⟩) {d n : Int} (h : Cut.isLoads ⟨(a, b), (k, l), r, m, bs, ls⟩ d n = true) : ∃ (dn : Nat), d = dn ∧ ∃ h : dn < bs.length, BoatOk bs[dn] ∧ 0 ≤ n ∧ n ≤ 10 := by
  have h1 : (Cut.isBoat ⟨(a, b), (k, l), r, m, bs, ls⟩ d && Cut.within n 0 (Cut.boatAt bs d.toNat).room) = true := h
  rw [Bool.and_eq_true] at h1
  obtain ⟨dn, rfl, hdn⟩ := boat_nat h1.1
  have hb := boat_ok V hdn
  have e : Cut.boatAt bs dn = bs[dn] := by simp [Cut.boatAt, hdn]
  have h2 := h1.2
  rw [Int.toNat_natCast, e] at h2
  simp [Cut.within] at h2
  have := hb.2.2.2.2.2.2
  exact ⟨dn, rfl, hdn, hb, h2.1, by omega⟩
set_option maxHeartbeats 8000000 in
theorem floatsx_fun (C : Cfg) (call : CallF) (hT : ToldC call) (hDy : DayC call) (hL : LoadsC call) (hF : FloatsC call) (H : List AB) (a b k l m : Int) (r : List (Int × Int)) (bs : List Boat) (ls : List Look) (h40 : bs.length ≤ 40) (bo n d : Int) :
    Does (ev C call H.length none af19.body { tm := tmA 40 (zipI 0 [.agg [.int .i64 a, .int .i64 b, .int .i64 k, .int .i64 l, .vs 2 (r.map spanE), .int .i64 m, .vs 4 (bs.map boatE), .vs 3 (ls.map lookE)], .int .i64 bo, .int .i64 n, .int .i64 d] []), df := [], hp := H, tc := [] }) (Ends af19 (twoA (floatsR ⟨(a, b), (k, l), r, m, bs, ls⟩ bo n d))) := by
  have h0 := fun H => hL H a b k l m r bs ls bo n h40
  have h1 := fun H => hDy H a b k l m r bs ls d
  have hday := fun h => @day_nat a b k l m r bs ls d h
  have hBd : isB ⟨(a, b), (k, l), r, m, bs, ls⟩ bo n d = (Cut.isLoads ⟨(a, b), (k, l), r, m, bs, ls⟩ bo n && Cut.isDay ⟨(a, b), (k, l), r, m, bs, ls⟩ d) := rfl
  have hTt := hT (H ++ [.cells [.int .i64 a, .int .i64 b, .int .i64 k, .int .i64 l, .vs 2 (r.map spanE), .int .i64 m, .vs 4 (bs.map boatE), .vs 3 (ls.map lookE)]]) a b k l m r bs ls (isB ⟨(a, b), (k, l), r, m, bs, ls⟩ bo n d)
  rcases hTt with ⟨h2, h3⟩ | ⟨h2, K, w, cnt, cs, h3, h4, h5, h6, h7, h8⟩
  · have hr : floatsR ⟨(a, b), (k, l), r, m, bs, ls⟩ bo n d = (0, toldErr ⟨(a, b), (k, l), r, m, bs, ls⟩ (isB ⟨(a, b), (k, l), r, m, bs, ls⟩ bo n d)) := by unfold floatsR; rw [if_neg h2]
    rw [hr]
    generalize toldErr ⟨(a, b), (k, l), r, m, bs, ls⟩ (isB ⟨(a, b), (k, l), r, m, bs, ls⟩ bo n d) = e at *
    rw [hBd] at h3
    generalize Cut.isDay ⟨(a, b), (k, l), r, m, bs, ls⟩ d = vb at *
    cases hlb : Cut.isLoads ⟨(a, b), (k, l), r, m, bs, ls⟩ bo n with
    | false =>
      rw [hlb] at h0 h3
      rw [Bool.false_and] at h3
      clear hr hT hDy hday hL hF hBd hlb
      unfold af19
      simp only [zipI]
      (repeat (first | (with_reducible apply ops_cons; (focus ((conv => lhs; simp [ev1, wantG, spineK, spine, float, xnew, xval, xeff, val_tmA_cons, val_tmA_nil, val_val, putT_some, putT_none, addFl, cellsOf, pickC, alive, slLen, slFt, binI, maxA, maxK, minA, minK, aeqK, aeqS, AV.cells, slCells_sl, boatE, spanE, lookE, fillA, setAt, bitsI, nat_nn, AV.plain, apart, Nat.testBit_eq_decide_div_mod_eq, *]) <;> exact rfl)); simp only [addFl]) | ((first | with_reducible refine does_seq ?_ | with_reducible refine does_ops ?_ | with_reducible refine does_draw ?_ | with_reducible refine does_skip ?_ | with_reducible refine does_block ?_ | with_reducible refine does_ret ?_ | with_reducible refine does_exit ?_ | with_reducible refine ops_nil ?_ | (with_reducible apply does_true; (focus (simp [val_tmA_cons, *]; done))) | (with_reducible apply does_false; (focus (simp [val_tmA_cons, *]; done)))); try simp only [Then, Ops, OutB, reduceIte])))
      exact ⟨by first | trivial | rfl, by first | trivial | rfl, by first | trivial | rfl, by simp only [resL, resOf, tmA_getD_cons]; simp [resV, twoA]⟩
    | true =>
      rw [hlb] at h0 h3
      rw [Bool.true_and] at h3
      clear hr hT hDy hday hL hF hBd hlb
      unfold af19
      simp only [zipI]
      (repeat (first | (with_reducible apply ops_cons; (focus ((conv => lhs; simp [ev1, wantG, spineK, spine, float, xnew, xval, xeff, val_tmA_cons, val_tmA_nil, val_val, putT_some, putT_none, addFl, cellsOf, pickC, alive, slLen, slFt, binI, maxA, maxK, minA, minK, aeqK, aeqS, AV.cells, slCells_sl, boatE, spanE, lookE, fillA, setAt, bitsI, nat_nn, AV.plain, apart, Nat.testBit_eq_decide_div_mod_eq, *]) <;> exact rfl)); simp only [addFl]) | ((first | with_reducible refine does_seq ?_ | with_reducible refine does_ops ?_ | with_reducible refine does_draw ?_ | with_reducible refine does_skip ?_ | with_reducible refine does_block ?_ | with_reducible refine does_ret ?_ | with_reducible refine does_exit ?_ | with_reducible refine ops_nil ?_ | (with_reducible apply does_true; (focus (simp [val_tmA_cons, *]; done))) | (with_reducible apply does_false; (focus (simp [val_tmA_cons, *]; done)))); try simp only [Then, Ops, OutB, reduceIte])))
      exact ⟨by first | trivial | rfl, by first | trivial | rfl, by first | trivial | rfl, by simp only [resL, resOf, tmA_getD_cons]; simp [resV, twoA]⟩
  · have hvb := told_day h2
    obtain ⟨V, hcan⟩ := told_ok h2
    have hvb' := hvb
    rw [hBd, Bool.and_eq_true] at hvb'
    obtain ⟨dn, rfl, hdn⟩ := hday hvb'.2
    obtain ⟨bn, rfl, hbn, hbok, n0, n1⟩ := loads_nat V hvb'.1
    have hr : floatsR ⟨(a, b), (k, l), r, m, bs, ls⟩ bn n dn = (Cut.floats bs[bn] n (Cut.water ⟨(a, b), (k, l), r, m, bs, ls⟩ dn), 0) := by
      unfold floatsR; rw [if_pos h2, Int.toNat_natCast, Int.toNat_natCast]
      rw [show Cut.boatAt (⟨(a, b), (k, l), r, m, bs, ls⟩ : CutD).boats bn = bs[bn] by simp [Cut.boatAt, hbn]]
    rw [hr]
    have h8 := h8 [] dn hdn
    have hf := fun H => hF H bs[bn] hbok n (Cut.water ⟨(a, b), (k, l), r, m, bs, ls⟩ dn).1 (Cut.water ⟨(a, b), (k, l), r, m, bs, ls⟩ dn).2 n0 n1
    rw [hvb'.1] at h0
    rw [hvb'.2] at h1
    rw [hvb] at h3
    simp only [List.append_nil, List.append_assoc, List.cons_append, List.nil_append] at h3 h8
    rw [show ((Cut.water ⟨(a, b), (k, l), r, m, bs, ls⟩ dn).1, (Cut.water ⟨(a, b), (k, l), r, m, bs, ls⟩ dn).2) = Cut.water ⟨(a, b), (k, l), r, m, bs, ls⟩ dn from rfl] at hf
    generalize Cut.water ⟨(a, b), (k, l), r, m, bs, ls⟩ dn = wt at *
    generalize Cut.floats bs[bn] n wt = fl at *
    clear hr hT hDy hday h2 h4 h5 h6 h7 hvb hdn V hcan hvb' hL hF hBd hbok n0 n1
    unfold af19
    simp only [zipI]
    (repeat (first | (with_reducible apply ops_cons; (focus ((conv => lhs; simp [ev1, wantG, spineK, spine, float, xnew, xval, xeff, val_tmA_cons, val_tmA_nil, val_val, putT_some, putT_none, addFl, cellsOf, pickC, alive, slLen, slFt, binI, maxA, maxK, minA, minK, aeqK, aeqS, AV.cells, slCells_sl, boatE, spanE, lookE, fillA, setAt, bitsI, nat_nn, AV.plain, apart, Nat.testBit_eq_decide_div_mod_eq, *]) <;> exact rfl)); simp only [addFl]) | ((first | with_reducible refine does_seq ?_ | with_reducible refine does_ops ?_ | with_reducible refine does_draw ?_ | with_reducible refine does_skip ?_ | with_reducible refine does_block ?_ | with_reducible refine does_ret ?_ | with_reducible refine does_exit ?_ | with_reducible refine ops_nil ?_ | (with_reducible apply does_true; (focus (simp [val_tmA_cons, *]; done))) | (with_reducible apply does_false; (focus (simp [val_tmA_cons, *]; done)))); try simp only [Then, Ops, OutB, reduceIte])))
    exact ⟨by first | trivial | rfl, by first | trivial | rfl, by first | trivial | rfl, by simp only [resL, resOf, tmA_getD_cons]; simp [resV, twoA]⟩
set_option maxHeartbeats 8000000 in
theorem loadsx_fun (C : Cfg) (call : CallF) (hT : ToldC call) (hDy : DayC call) (hB : BoatC call) (hM : MostC call) (H : List AB) (a b k l m : Int) (r : List (Int × Int)) (bs : List Boat) (ls : List Look) (h40 : bs.length ≤ 40) (bo d : Int) :
    Does (ev C call H.length none af21.body { tm := tmA 46 (zipI 0 [.agg [.int .i64 a, .int .i64 b, .int .i64 k, .int .i64 l, .vs 2 (r.map spanE), .int .i64 m, .vs 4 (bs.map boatE), .vs 3 (ls.map lookE)], .int .i64 bo, .int .i64 d] []), df := [], hp := H, tc := [] }) (Ends af21 (three (loadsR ⟨(a, b), (k, l), r, m, bs, ls⟩ bo d))) := by
  have h0 := fun H => hB H a b k l m r bs ls bo h40
  have h1 := fun H => hDy H a b k l m r bs ls d
  have hday := fun h => @day_nat a b k l m r bs ls d h
  have hTt := hT (H ++ [.cells [.int .i64 a, .int .i64 b, .int .i64 k, .int .i64 l, .vs 2 (r.map spanE), .int .i64 m, .vs 4 (bs.map boatE), .vs 3 (ls.map lookE)]]) a b k l m r bs ls (Cut.isBoat ⟨(a, b), (k, l), r, m, bs, ls⟩ bo && Cut.isDay ⟨(a, b), (k, l), r, m, bs, ls⟩ d)
  rcases hTt with ⟨h2, h3⟩ | ⟨h2, K, w, cnt, cs, h3, h4, h5, h6, h7, h8⟩
  · have hr : loadsR ⟨(a, b), (k, l), r, m, bs, ls⟩ bo d = ((0, 0), toldErr ⟨(a, b), (k, l), r, m, bs, ls⟩ (Cut.isBoat ⟨(a, b), (k, l), r, m, bs, ls⟩ bo && Cut.isDay ⟨(a, b), (k, l), r, m, bs, ls⟩ d)) := by unfold loadsR; rw [if_neg h2]
    rw [hr]
    generalize toldErr ⟨(a, b), (k, l), r, m, bs, ls⟩ (Cut.isBoat ⟨(a, b), (k, l), r, m, bs, ls⟩ bo && Cut.isDay ⟨(a, b), (k, l), r, m, bs, ls⟩ d) = e at *
    generalize Cut.isDay ⟨(a, b), (k, l), r, m, bs, ls⟩ d = vb at *
    cases hlb : Cut.isBoat ⟨(a, b), (k, l), r, m, bs, ls⟩ bo with
    | false =>
      rw [hlb] at h0 h3
      rw [Bool.false_and] at h3
      clear hr hT hDy hday hB hM hlb
      unfold af21
      simp only [zipI]
      (repeat (first | (with_reducible apply ops_cons; (focus ((conv => lhs; simp [ev1, wantG, spineK, spine, float, xnew, xval, xeff, val_tmA_cons, val_tmA_nil, val_val, putT_some, putT_none, addFl, cellsOf, pickC, alive, slLen, slFt, binI, maxA, maxK, minA, minK, aeqK, aeqS, AV.cells, slCells_sl, boatE, spanE, lookE, fillA, setAt, bitsI, nat_nn, AV.plain, apart, Nat.testBit_eq_decide_div_mod_eq, *]) <;> exact rfl)); simp only [addFl]) | ((first | with_reducible refine does_seq ?_ | with_reducible refine does_ops ?_ | with_reducible refine does_draw ?_ | with_reducible refine does_skip ?_ | with_reducible refine does_block ?_ | with_reducible refine does_ret ?_ | with_reducible refine does_exit ?_ | with_reducible refine ops_nil ?_ | (with_reducible apply does_true; (focus (simp [val_tmA_cons, *]; done))) | (with_reducible apply does_false; (focus (simp [val_tmA_cons, *]; done)))); try simp only [Then, Ops, OutB, reduceIte])))
      exact ⟨by first | trivial | rfl, by first | trivial | rfl, by first | trivial | rfl, by simp only [resL, resOf, tmA_getD_cons]; simp [resV, three]⟩
    | true =>
      rw [hlb] at h0 h3
      rw [Bool.true_and] at h3
      clear hr hT hDy hday hB hM hlb
      unfold af21
      simp only [zipI]
      (repeat (first | (with_reducible apply ops_cons; (focus ((conv => lhs; simp [ev1, wantG, spineK, spine, float, xnew, xval, xeff, val_tmA_cons, val_tmA_nil, val_val, putT_some, putT_none, addFl, cellsOf, pickC, alive, slLen, slFt, binI, maxA, maxK, minA, minK, aeqK, aeqS, AV.cells, slCells_sl, boatE, spanE, lookE, fillA, setAt, bitsI, nat_nn, AV.plain, apart, Nat.testBit_eq_decide_div_mod_eq, *]) <;> exact rfl)); simp only [addFl]) | ((first | with_reducible refine does_seq ?_ | with_reducible refine does_ops ?_ | with_reducible refine does_draw ?_ | with_reducible refine does_skip ?_ | with_reducible refine does_block ?_ | with_reducible refine does_ret ?_ | with_reducible refine does_exit ?_ | with_reducible refine ops_nil ?_ | (with_reducible apply does_true; (focus (simp [val_tmA_cons, *]; done))) | (with_reducible apply does_false; (focus (simp [val_tmA_cons, *]; done)))); try simp only [Then, Ops, OutB, reduceIte])))
      exact ⟨by first | trivial | rfl, by first | trivial | rfl, by first | trivial | rfl, by simp only [resL, resOf, tmA_getD_cons]; simp [resV, three]⟩
  · have hvb := told_day h2
    obtain ⟨V, hcan⟩ := told_ok h2
    have hvb' := hvb
    rw [Bool.and_eq_true] at hvb'
    obtain ⟨dn, rfl, hdn⟩ := hday hvb'.2
    obtain ⟨bn, rfl, hbn⟩ := boat_nat hvb'.1
    have hbok := boat_ok V hbn
    have hbat : Cut.boatAt (⟨(a, b), (k, l), r, m, bs, ls⟩ : CutD).boats bn = bs[bn] := by simp [Cut.boatAt, hbn]
    have hr : loadsR ⟨(a, b), (k, l), r, m, bs, ls⟩ bn dn = ((((Cut.lead (fun i => decide ((2 : Int) ≤ Cut.floats bs[bn] i (Cut.water ⟨(a, b), (k, l), r, m, bs, ls⟩ dn))) (bs[bn].room.toNat + 1) : Nat) : Int) - 1, ((Cut.lead (fun i => decide ((1 : Int) ≤ Cut.floats bs[bn] i (Cut.water ⟨(a, b), (k, l), r, m, bs, ls⟩ dn))) (bs[bn].room.toNat + 1) : Nat) : Int) - 1), 0) := by
      unfold loadsR; rw [if_pos h2, Int.toNat_natCast, Int.toNat_natCast]
      unfold Cut.loads Cut.suits
      rw [hbat]
    rw [hr]
    have h8 := h8 [] dn hdn
    have hlh := water_le V hcan (d := dn) hdn
    have hf := fun H sure => hM H bs[bn] hbok (Cut.water ⟨(a, b), (k, l), r, m, bs, ls⟩ dn).1 (Cut.water ⟨(a, b), (k, l), r, m, bs, ls⟩ dn).2 sure hlh
    rw [hvb'.1] at h0
    rw [hvb'.2] at h1
    rw [hvb] at h3
    simp only [List.append_nil, List.append_assoc, List.cons_append, List.nil_append] at h3 h8
    rw [show ((Cut.water ⟨(a, b), (k, l), r, m, bs, ls⟩ dn).1, (Cut.water ⟨(a, b), (k, l), r, m, bs, ls⟩ dn).2) = Cut.water ⟨(a, b), (k, l), r, m, bs, ls⟩ dn from rfl] at hf
    generalize Cut.water ⟨(a, b), (k, l), r, m, bs, ls⟩ dn = wt at *
    have hf2 := fun H => hf H 2
    have hf1 := fun H => hf H 1
    generalize (((Cut.lead (fun i => decide ((2 : Int) ≤ Cut.floats bs[bn] i wt)) (bs[bn].room.toNat + 1) : Nat) : Int) - 1) = f2 at *
    generalize (((Cut.lead (fun i => decide ((1 : Int) ≤ Cut.floats bs[bn] i wt)) (bs[bn].room.toNat + 1) : Nat) : Int) - 1) = f1 at *
    clear hr hT hDy hday h2 h4 h5 h6 h7 hvb hdn V hcan hvb' hB hM hbok hbat hlh hf
    unfold af21
    simp only [zipI]
    (repeat (first | (with_reducible apply ops_cons; (focus ((conv => lhs; simp [ev1, wantG, spineK, spine, float, xnew, xval, xeff, val_tmA_cons, val_tmA_nil, val_val, putT_some, putT_none, addFl, cellsOf, pickC, alive, slLen, slFt, binI, maxA, maxK, minA, minK, aeqK, aeqS, AV.cells, slCells_sl, boatE, spanE, lookE, fillA, setAt, bitsI, nat_nn, AV.plain, apart, Nat.testBit_eq_decide_div_mod_eq, *]) <;> exact rfl)); simp only [addFl]) | ((first | with_reducible refine does_seq ?_ | with_reducible refine does_ops ?_ | with_reducible refine does_draw ?_ | with_reducible refine does_skip ?_ | with_reducible refine does_block ?_ | with_reducible refine does_ret ?_ | with_reducible refine does_exit ?_ | with_reducible refine ops_nil ?_ | (with_reducible apply does_true; (focus (simp [val_tmA_cons, *]; done))) | (with_reducible apply does_false; (focus (simp [val_tmA_cons, *]; done)))); try simp only [Then, Ops, OutB, reduceIte])))
    exact ⟨by first | trivial | rfl, by first | trivial | rfl, by first | trivial | rfl, by simp only [resL, resOf, tmA_getD_cons]; simp [resV, three]⟩
end R
end Ev
end Go.Proofs.YtlkhjnpflohfeaaDoor

/- The law CutReads, gone through. -/
namespace Go.Proofs.YtlkhjnpflohfeaaDoor
open Go
namespace Ev
namespace R
set_option maxRecDepth 100000
/-- The functions of package cut that CutReads calls answer so. -/
structure ApiS (call : CallF) (A : Api) : Prop where
  depth : ∀ {H v c}, cutOf H v = some c → ∀ d, call (.fn (.func 14) [] []) [v, .int .i64 d] H = some (.ret (twoS (A.depth c d)), H, [])
  leak : ∀ {H v c}, cutOf H v = some c → call (.fn (.func 16) [] []) [v] H = some (.ret (twoS (A.leak c)), H, [])
  floats : ∀ {H v c}, cutOf H v = some c → ∀ b n d, call (.fn (.func 18) [] []) [v, .int .i64 b, .int .i64 n, .int .i64 d] H = some (.ret (twoA (A.floats c b n d)), H, [])
  loads : ∀ {H v c}, cutOf H v = some c → ∀ b d, call (.fn (.func 20) [] []) [v, .int .i64 b, .int .i64 d] H = some (.ret (three (A.loads c b d)), H, [])
  awake : ∀ {H}, call (.fn (.func 13) [] []) [] H = some (.ret (.bool true), H, [])
  far : ∀ {H v c}, cutOf H v = some c → call (.fn (.func 34) [] []) [v] H = some (.ret (.bool (A.far c)), H, [])
  valid : ∀ {H v c}, cutOf H v = some c → call (.fn (.func 35) [] []) [v] H = some (.ret (.bool (A.valid c)), H, [])
/-- The reference answers so. -/
structure RefOk (call : CallF) (A : Api) : Prop where
  depth : ∀ (H : List AB) (a b k l m : Int) (r : List (Int × Int)) (bs : List Boat) (ls : List Look), bs.length ≤ 40 → ∀ d : Int, call (.fn (.func 15) [] []) [.agg [.int .i64 a, .int .i64 b, .int .i64 k, .int .i64 l, .vs 2 (r.map spanE), .int .i64 m, .vs 4 (bs.map boatE), .vs 3 (ls.map lookE)], .int .i64 d] H = some (.ret (twoS (A.depth ⟨(a, b), (k, l), r, m, bs, ls⟩ d)), H, [])
  leak : ∀ (H : List AB) (a b k l m : Int) (r : List (Int × Int)) (bs : List Boat) (ls : List Look), bs.length ≤ 40 → call (.fn (.func 17) [] []) [.agg [.int .i64 a, .int .i64 b, .int .i64 k, .int .i64 l, .vs 2 (r.map spanE), .int .i64 m, .vs 4 (bs.map boatE), .vs 3 (ls.map lookE)]] H = some (.ret (twoS (A.leak ⟨(a, b), (k, l), r, m, bs, ls⟩)), H, [])
  floats : ∀ (H : List AB) (a b k l m : Int) (r : List (Int × Int)) (bs : List Boat) (ls : List Look), bs.length ≤ 40 → ∀ o n d : Int, call (.fn (.func 19) [] []) [.agg [.int .i64 a, .int .i64 b, .int .i64 k, .int .i64 l, .vs 2 (r.map spanE), .int .i64 m, .vs 4 (bs.map boatE), .vs 3 (ls.map lookE)], .int .i64 o, .int .i64 n, .int .i64 d] H = some (.ret (twoA (A.floats ⟨(a, b), (k, l), r, m, bs, ls⟩ o n d)), H, [])
  loads : ∀ (H : List AB) (a b k l m : Int) (r : List (Int × Int)) (bs : List Boat) (ls : List Look), bs.length ≤ 40 → ∀ o d : Int, call (.fn (.func 21) [] []) [.agg [.int .i64 a, .int .i64 b, .int .i64 k, .int .i64 l, .vs 2 (r.map spanE), .int .i64 m, .vs 4 (bs.map boatE), .vs 3 (ls.map lookE)], .int .i64 o, .int .i64 d] H = some (.ret (three (A.loads ⟨(a, b), (k, l), r, m, bs, ls⟩ o d)), H, [])
def HeavyC (call : CallF) (A : Api) : Prop := ∀ (H : List AB) (a b k l m : Int) (r : List (Int × Int)) (bs : List Boat) (ls : List Look) (q : Int), call (.fn (.func 12) [] []) [.agg [.int .i64 a, .int .i64 b, .int .i64 k, .int .i64 l, .vs 2 (r.map spanE), .int .i64 m, .vs 4 (bs.map boatE), .vs 3 (ls.map lookE)], .int .i64 q] H =
  some (.ret (.bool (A.far ⟨(a, b), (k, l), r, m, bs, ls⟩ || (A.valid ⟨(a, b), (k, l), r, m, bs, ls⟩ && decide (q < m)))), H, [])
theorem heavy_fun (C : Cfg) (call : CallF) (A : Api) (hA : ApiS call A) (H : List AB) (a b k l m : Int) (r : List (Int × Int)) (bs : List Boat) (ls : List Look) (q : Int) :
    Does (ev C call H.length none af12.body { tm := tmA 17 (zipI 0 [.agg [.int .i64 a, .int .i64 b, .int .i64 k, .int .i64 l, .vs 2 (r.map spanE), .int .i64 m, .vs 4 (bs.map boatE), .vs 3 (ls.map lookE)], .int .i64 q] []), df := [], hp := H, tc := [] }) (Gives 4 (.bool (A.far ⟨(a, b), (k, l), r, m, bs, ls⟩ || (A.valid ⟨(a, b), (k, l), r, m, bs, ls⟩ && decide (q < m))))) := by
  have h1 := fun H => hA.far (cutOf_mk H a b k l m r bs ls)
  have h2 := fun H => hA.valid (cutOf_mk H a b k l m r bs ls)
  generalize (⟨(a, b), (k, l), r, m, bs, ls⟩ : CutD) = c at *
  clear hA
  cases hf : A.far c <;> rw [hf] at h1 <;> clear hf
  · cases hv : A.valid c <;> rw [hv] at h2 <;> clear hv
    · unfold af12
      simp only [zipI]
      (repeat (first | (with_reducible apply ops_cons; (focus ((conv => lhs; simp [ev1, wantG, spineK, spine, float, xnew, xval, xeff, val_tmA_cons, val_tmA_nil, val_val, putT_some, putT_none, addFl, cellsOf, pickC, alive, slLen, slFt, binI, maxA, maxK, minA, minK, aeqK, aeqS, AV.cells, slCells_sl, boatE, spanE, lookE, fillA, setAt, bitsI, nat_nn, AV.plain, apart, Nat.testBit_eq_decide_div_mod_eq, *]) <;> exact rfl)); simp only [addFl]) | ((first | with_reducible refine does_seq ?_ | with_reducible refine does_ops ?_ | with_reducible refine does_draw ?_ | with_reducible refine does_skip ?_ | with_reducible refine does_block ?_ | with_reducible refine does_ret ?_ | with_reducible refine does_exit ?_ | with_reducible refine ops_nil ?_ | (with_reducible apply does_true; (focus (simp [val_tmA_cons, *]; done))) | (with_reducible apply does_false; (focus (simp [val_tmA_cons, *]; done)))); try simp only [Then, Ops, OutB, reduceIte])))
      exact ⟨by first | trivial | rfl, by first | trivial | rfl, by first | trivial | rfl, by simp only [tmA_getD_cons]; simp⟩
    · unfold af12
      simp only [zipI]
      (repeat (first | (with_reducible apply ops_cons; (focus ((conv => lhs; simp [ev1, wantG, spineK, spine, float, xnew, xval, xeff, val_tmA_cons, val_tmA_nil, val_val, putT_some, putT_none, addFl, cellsOf, pickC, alive, slLen, slFt, binI, maxA, maxK, minA, minK, aeqK, aeqS, AV.cells, slCells_sl, boatE, spanE, lookE, fillA, setAt, bitsI, nat_nn, AV.plain, apart, Nat.testBit_eq_decide_div_mod_eq, *]) <;> exact rfl)); simp only [addFl]) | ((first | with_reducible refine does_seq ?_ | with_reducible refine does_ops ?_ | with_reducible refine does_draw ?_ | with_reducible refine does_skip ?_ | with_reducible refine does_block ?_ | with_reducible refine does_ret ?_ | with_reducible refine does_exit ?_ | with_reducible refine ops_nil ?_ | (with_reducible apply does_true; (focus (simp [val_tmA_cons, *]; done))) | (with_reducible apply does_false; (focus (simp [val_tmA_cons, *]; done)))); try simp only [Then, Ops, OutB, reduceIte])))
      exact ⟨by first | trivial | rfl, by first | trivial | rfl, by first | trivial | rfl, by simp only [tmA_getD_cons]; simp⟩
  · unfold af12
    simp only [zipI]
    (repeat (first | (with_reducible apply ops_cons; (focus ((conv => lhs; simp [ev1, wantG, spineK, spine, float, xnew, xval, xeff, val_tmA_cons, val_tmA_nil, val_val, putT_some, putT_none, addFl, cellsOf, pickC, alive, slLen, slFt, binI, maxA, maxK, minA, minK, aeqK, aeqS, AV.cells, slCells_sl, boatE, spanE, lookE, fillA, setAt, bitsI, nat_nn, AV.plain, apart, Nat.testBit_eq_decide_div_mod_eq, *]) <;> exact rfl)); simp only [addFl]) | ((first | with_reducible refine does_seq ?_ | with_reducible refine does_ops ?_ | with_reducible refine does_draw ?_ | with_reducible refine does_skip ?_ | with_reducible refine does_block ?_ | with_reducible refine does_ret ?_ | with_reducible refine does_exit ?_ | with_reducible refine ops_nil ?_ | (with_reducible apply does_true; (focus (simp [val_tmA_cons, *]; done))) | (with_reducible apply does_false; (focus (simp [val_tmA_cons, *]; done)))); try simp only [Then, Ops, OutB, reduceIte])))
    exact ⟨by first | trivial | rfl, by first | trivial | rfl, by first | trivial | rfl, by simp only [tmA_getD_cons]; simp⟩
set_option maxHeartbeats 8000000 in
theorem reads_main (C : Cfg) (call : CallF) (A : Api) (hA : ApiS call A) (hH : HeavyC call A) (hR : RefOk call A) (a b k l m : Int) (r : List (Int × Int)) (bs : List Boat) (ls : List Look) (hfar : A.far ⟨(a, b), (k, l), r, m, bs, ls⟩ = false → bs.length ≤ 40) (o n d : Int) :
    Does (ev C call 0 none af3.body { tm := tmA 130 (zipI 0 [.agg [.int .i64 a, .int .i64 b, .int .i64 k, .int .i64 l, .vs 2 (r.map spanE), .int .i64 m, .vs 4 (bs.map boatE), .vs 3 (ls.map lookE)], .int .i64 o, .int .i64 n, .int .i64 d] []), df := [], hp := [], tc := [] }) (Yes 8) := by
  have h0 := fun H => hH H a b k l m r bs ls 30
  have h9 := fun H => hA.awake (H := H)
  cases hh : (A.far ⟨(a, b), (k, l), r, m, bs, ls⟩ || (A.valid ⟨(a, b), (k, l), r, m, bs, ls⟩ && decide (30 < m))) with
  | true =>
    rw [hh] at h0
    clear hA hH hR hfar hh
    unfold af3
    simp only [zipI]
    (repeat (first | (with_reducible apply ops_cons; (focus ((conv => lhs; simp [ev1, wantG, spineK, spine, float, xnew, xval, xeff, val_tmA_cons, val_tmA_nil, val_val, putT_some, putT_none, addFl, cellsOf, pickC, alive, slLen, slFt, binI, maxA, maxK, minA, minK, aeqK, aeqS, AV.cells, slCells_sl, boatE, spanE, lookE, fillA, setAt, bitsI, nat_nn, AV.plain, apart, Nat.testBit_eq_decide_div_mod_eq, *]) <;> exact rfl)); simp only [addFl]) | ((first | with_reducible refine does_seq ?_ | with_reducible refine does_ops ?_ | with_reducible refine does_draw ?_ | with_reducible refine does_skip ?_ | with_reducible refine does_block ?_ | with_reducible refine does_ret ?_ | with_reducible refine does_exit ?_ | with_reducible refine ops_nil ?_ | (with_reducible apply does_true; (focus (simp [val_tmA_cons, *]; done))) | (with_reducible apply does_false; (focus (simp [val_tmA_cons, *]; done)))); try simp only [Then, Ops, OutB, reduceIte])))
    exact ⟨by first | trivial | rfl, by first | trivial | rfl, by simp only [tmA_getD_cons]; simp⟩
  | false =>
    rw [hh] at h0
    have h40 := hfar (by rw [Bool.or_eq_false_iff] at hh; exact hh.1)
    have h1 := fun H => hA.depth (cutOf_mk H a b k l m r bs ls) d
    have h2 := fun H => hR.depth H a b k l m r bs ls h40 d
    have h3 := fun H => hA.leak (cutOf_mk H a b k l m r bs ls)
    have h4 := fun H => hR.leak H a b k l m r bs ls h40
    have h5 := fun H => hA.floats (cutOf_mk H a b k l m r bs ls) o n d
    have h6 := fun H => hR.floats H a b k l m r bs ls h40 o n d
    have h7 := fun H => hA.loads (cutOf_mk H a b k l m r bs ls) o d
    have h8 := fun H => hR.loads H a b k l m r bs ls h40 o d
    clear hA hH hR hfar hh h40
    generalize (⟨(a, b), (k, l), r, m, bs, ls⟩ : CutD) = c at *
    generalize A.depth c d = x1 at *
    generalize A.leak c = x2 at *
    generalize A.floats c o n d = x3 at *
    generalize A.loads c o d = x4 at *
    unfold twoS at h1 h2 h3 h4
    unfold twoA at h5 h6
    unfold three at h7 h8
    unfold af3
    simp only [zipI]
    (repeat (first | (with_reducible apply ops_cons; (focus ((conv => lhs; simp [ev1, wantG, spineK, spine, float, xnew, xval, xeff, val_tmA_cons, val_tmA_nil, val_val, putT_some, putT_none, addFl, cellsOf, pickC, alive, slLen, slFt, binI, maxA, maxK, minA, minK, aeqK, aeqS, AV.cells, slCells_sl, boatE, spanE, lookE, fillA, setAt, bitsI, nat_nn, AV.plain, apart, Nat.testBit_eq_decide_div_mod_eq, *]) <;> exact rfl)); simp only [addFl]) | ((first | with_reducible refine does_seq ?_ | with_reducible refine does_ops ?_ | with_reducible refine does_draw ?_ | with_reducible refine does_skip ?_ | with_reducible refine does_block ?_ | with_reducible refine does_ret ?_ | with_reducible refine does_exit ?_ | with_reducible refine ops_nil ?_ | (with_reducible apply does_true; (focus (simp [val_tmA_cons, *]; done))) | (with_reducible apply does_false; (focus (simp [val_tmA_cons, *]; done)))); try simp only [Then, Ops, OutB, reduceIte])))
    exact ⟨by first | trivial | rfl, by first | trivial | rfl, by simp only [tmA_getD_cons]; simp⟩
end R
end Ev
end Go.Proofs.YtlkhjnpflohfeaaDoor
