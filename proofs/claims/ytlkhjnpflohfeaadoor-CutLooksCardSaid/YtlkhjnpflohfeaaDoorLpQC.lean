/- The law CutLooks, gone through. -/
import Derived.Test.YtlkhjnpflohfeaaDoorLpQB
import Derived.Test.YtlkhjnpflohfeaaDoorLpPD
import Derived.Test.YtlkhjnpflohfeaaDoorLpQA
/- The reference of chapter 06: until when a boat lies, and how many loads all can have, as calls. -/
namespace Go.Proofs.YtlkhjnpflohfeaaDoor
open Go
namespace Ev
namespace R
set_option maxRecDepth 100000
set_option maxHeartbeats 8000000 in
theorem ztr (C : Cfg) (hC : C.calm = true) (call : CallF) (hT : ToldC call) (hDy : DayC call) (hL : LoadsC call) (hF : FloatsC call) (H : List AB) (a b k l m : Int) (r : List (Int × Int)) (bs : List Boat) (ls : List Look) (h40 : bs.length ≤ 40) (bo n d : Int) :
    Does (ev C call H.length none af25.body { tm := tmA 51 (zipI 0 [.agg [.int .i64 a, .int .i64 b, .int .i64 k, .int .i64 l, .vs 2 (r.map spanE), .int .i64 m, .vs 4 (bs.map boatE), .vs 3 (ls.map lookE)], .int .i64 bo, .int .i64 n, .int .i64 d] []), df := [], hp := H, tc := [] }) (Ends af25 (twoA (untilR ⟨(a, b), (k, l), r, m, bs, ls⟩ bo n d))) := by
  have h0 := fun H => hL H a b k l m r bs ls bo n h40
  have h1 := fun H => hDy H a b k l m r bs ls d
  have hday := fun h => @zwm a b k l m r bs ls d h
  have hBd : isB ⟨(a, b), (k, l), r, m, bs, ls⟩ bo n d = (Cut.isLoads ⟨(a, b), (k, l), r, m, bs, ls⟩ bo n && Cut.isDay ⟨(a, b), (k, l), r, m, bs, ls⟩ d) := rfl
  have hTt := hT (H ++ [.cells [.int .i64 a, .int .i64 b, .int .i64 k, .int .i64 l, .vs 2 (r.map spanE), .int .i64 m, .vs 4 (bs.map boatE), .vs 3 (ls.map lookE)]]) a b k l m r bs ls (isB ⟨(a, b), (k, l), r, m, bs, ls⟩ bo n d)
  rcases hTt with ⟨h2, h3⟩ | ⟨h2, K, w, cnt, cs, h3, h4, h5, h6, h7, h8⟩
  · have hr : untilR ⟨(a, b), (k, l), r, m, bs, ls⟩ bo n d = (0, toldErr ⟨(a, b), (k, l), r, m, bs, ls⟩ (isB ⟨(a, b), (k, l), r, m, bs, ls⟩ bo n d)) := by unfold untilR; rw [if_neg h2]
    rw [hr]
    generalize toldErr ⟨(a, b), (k, l), r, m, bs, ls⟩ (isB ⟨(a, b), (k, l), r, m, bs, ls⟩ bo n d) = e at *
    rw [hBd] at h3
    generalize Cut.isDay ⟨(a, b), (k, l), r, m, bs, ls⟩ d = vb at *
    cases hlb : Cut.isLoads ⟨(a, b), (k, l), r, m, bs, ls⟩ bo n with
    | false =>
      rw [hlb] at h0 h3
      rw [Bool.false_and] at h3
      clear hr hT hDy hday hL hF hBd hlb
      unfold af25
      simp only [zipI]
      (repeat (first | (with_reducible apply zal; (focus ((conv => lhs; simp [ev1, wantG, spineK, spine, float, xnew, xval, xeff, zaa, zab, zaq, zaf, zag, addFl, cellsOf, pickC, alive, slLen, slFt, binI, maxA, maxK, minA, minK, aeqK, aeqS, AV.cells, zac, boatE, spanE, lookE, fillA, setAt, bitsI, nat_nn, AV.plain, apart, Nat.testBit_eq_decide_div_mod_eq, *]) <;> exact rfl)); simp only [addFl]) | ((with_reducible first | refine zam ?_ | refine zao ?_ | refine zak ?_ | refine zai ?_ | refine zae ?_ | refine zan ?_ | refine zaj ?_ | refine zar ?_ | (apply zah; (focus (simp [zaa, *]; done))) | (with_reducible apply zad; (focus (simp [zaa, *]; done)))); try simp only [Then, Ops])))
      exact ⟨by first | trivial | rfl, by first | trivial | rfl, by first | trivial | rfl, by simp only [resL, resOf, zap]; simp [resV, twoA]⟩
    | true =>
      rw [hlb] at h0 h3
      rw [Bool.true_and] at h3
      clear hr hT hDy hday hL hF hBd hlb
      unfold af25
      simp only [zipI]
      (repeat (first | (with_reducible apply zal; (focus ((conv => lhs; simp [ev1, wantG, spineK, spine, float, xnew, xval, xeff, zaa, zab, zaq, zaf, zag, addFl, cellsOf, pickC, alive, slLen, slFt, binI, maxA, maxK, minA, minK, aeqK, aeqS, AV.cells, zac, boatE, spanE, lookE, fillA, setAt, bitsI, nat_nn, AV.plain, apart, Nat.testBit_eq_decide_div_mod_eq, *]) <;> exact rfl)); simp only [addFl]) | ((with_reducible first | refine zam ?_ | refine zao ?_ | refine zak ?_ | refine zai ?_ | refine zae ?_ | refine zan ?_ | refine zaj ?_ | refine zar ?_ | (apply zah; (focus (simp [zaa, *]; done))) | (with_reducible apply zad; (focus (simp [zaa, *]; done)))); try simp only [Then, Ops])))
      exact ⟨by first | trivial | rfl, by first | trivial | rfl, by first | trivial | rfl, by simp only [resL, resOf, zap]; simp [resV, twoA]⟩
  · have hvb := zij h2
    obtain ⟨V, hcan⟩ := zow h2
    have n8 : r.length ≤ 8 := V.n8
    have hvb' := hvb
    rw [hBd, Bool.and_eq_true] at hvb'
    obtain ⟨dn, rfl, hdn⟩ := hday hvb'.2
    obtain ⟨bn, rfl, hbn, hbok, n0, n1⟩ := znv V hvb'.1
    have hbat : Cut.boatAt (⟨(a, b), (k, l), r, m, bs, ls⟩ : CutD).boats bn = bs[bn] := by simp [Cut.boatAt, hbn]
    have hr : untilR ⟨(a, b), (k, l), r, m, bs, ls⟩ bn n dn = untilV (Cut.findFrom (fun i => Cut.floats bs[bn] n (Cut.water ⟨(a, b), (k, l), r, m, bs, ls⟩ i) == 2) dn (r.length + 1 - dn)) := by
      unfold untilR; rw [if_pos h2, Int.toNat_natCast, Int.toNat_natCast]
      unfold Cut.untilOn Cut.floatsOn
      rw [hbat]
    rw [hr]
    have hw8 := fun K' (d : Nat) (hd : d ≤ r.length) => h8 K' d hd
    have hf := fun H lo hi => hF H bs[bn] hbok n lo hi n0 n1
    rw [hvb'.1] at h0
    rw [hvb'.2] at h1
    rw [hvb] at h3
    simp only [List.append_assoc, List.cons_append, List.nil_append] at h3 hw8
    generalize Cut.water ⟨(a, b), (k, l), r, m, bs, ls⟩ = wt at *
    have HW := hideP hw8
    have HF := hideP hf
    clear hr hT hDy hday h2 h4 h5 h6 h7 h8 hvb V hcan hvb' hL hF hBd hbok n0 n1 hbat hw8 hf
    unfold af25
    simp only [zipI]
    (repeat (first | (with_reducible apply zal; (focus ((conv => lhs; simp [ev1, wantG, spineK, spine, float, xnew, xval, xeff, zaa, zab, zaq, zaf, zag, addFl, cellsOf, pickC, alive, slLen, slFt, binI, maxA, maxK, minA, minK, aeqK, aeqS, AV.cells, zac, boatE, spanE, lookE, fillA, setAt, bitsI, nat_nn, AV.plain, apart, Nat.testBit_eq_decide_div_mod_eq, *]) <;> exact rfl)); simp only [addFl]) | ((with_reducible first | refine zam ?_ | refine zao ?_ | refine zak ?_ | refine zai ?_ | refine zae ?_ | refine zan ?_ | refine zaj ?_ | refine zar ?_ | (apply zah; (focus (simp [zaa, *]; done))) | (with_reducible apply zad; (focus (simp [zaa, *]; done)))); try simp only [Then, Ops])))
    refine zbf (fun q st => ∃ d : Nat, d + q = r.length + 1 ∧ dn ≤ d ∧ Cut.findFrom (fun i => Cut.floats bs[bn] n (wt i) == 2) dn (r.length + 1 - dn) = Cut.findFrom (fun i => Cut.floats bs[bn] n (wt i) == 2) d (r.length + 1 - d) ∧ st = { tm := tmA 51 [(12, .int .i64 d), (10, .sl w 0 (cnt + 1) 2), (4, .ptr H.length 0), (2, .int .i64 n), (1, .int .i64 bn)], df := [], hp := H ++ .cells [.int .i64 a, .int .i64 b, .int .i64 k, .int .i64 l, .vs 2 (r.map spanE), .int .i64 m, .vs 4 (bs.map boatE), .vs 3 (ls.map lookE)] :: K, tc := [] }) (r.length + 1 - dn) (by unfold fuelL; omega) ?_ ?_
    · refine ⟨dn, by omega, by omega, rfl, ?_⟩
      simp only [zat hC]
      exact st_eq (by simp [zas, zau]) rfl rfl rfl
    · rintro q st ⟨d, hq, hdd, hff, rfl⟩
      by_cases hd : d ≤ r.length
      · have hw : IntKind.i64.wrap ((d : Int) + 1) = (d : Int) + 1 := zbb (by omega) (by omega)
        have h1 := HW.out [] d hd
        simp only [List.append_nil] at h1
        have h2 := fun H => HF.out H (wt d).1 (wt d).2
        have hstep : Cut.findFrom (fun i => Cut.floats bs[bn] n (wt i) == 2) d (r.length + 1 - d) = if (Cut.floats bs[bn] n (wt d) == 2) = true then some d else Cut.findFrom (fun i => Cut.floats bs[bn] n (wt i) == 2) (d + 1) (r.length + 1 - (d + 1)) := by
          rw [show r.length + 1 - d = (r.length + 1 - (d + 1)) + 1 by omega]; rfl
        rw [hstep] at hff
        rw [show ((wt d).1, (wt d).2) = wt d from rfl] at h2
        cases hfl : (Cut.floats bs[bn] n (wt d) == 2) with
        | true =>
          rw [if_pos hfl] at hff
          rw [hff]
          generalize Cut.floats bs[bn] n (wt d) = fl at *
          generalize wt d = wtd at *
          clear hff hstep hq n8
          (repeat (first | (with_reducible apply zal; (focus ((conv => lhs; simp [ev1, wantG, spineK, spine, float, xnew, xval, xeff, zaa, zab, zaq, zaf, zag, addFl, cellsOf, pickC, alive, slLen, slFt, binI, maxA, maxK, minA, minK, aeqK, aeqS, AV.cells, zac, boatE, spanE, lookE, fillA, setAt, bitsI, nat_nn, AV.plain, apart, Nat.testBit_eq_decide_div_mod_eq, *]) <;> exact rfl)); simp only [addFl]) | ((with_reducible first | refine zam ?_ | refine zao ?_ | refine zak ?_ | refine zai ?_ | refine zae ?_ | refine zan ?_ | refine zaj ?_ | refine zar ?_ | (apply zah; (focus (simp [zaa, *]; done))) | (with_reducible apply zad; (focus (simp [zaa, *]; done)))); try simp only [Then, Ops, OutB])))
          exact ⟨by first | trivial | rfl, by first | trivial | rfl, by first | trivial | rfl, by simp only [resL, resOf, zap]; simp [resV, twoA, untilV]⟩
        | false =>
          rw [if_neg (by rw [hfl]; decide)] at hff
          have HQ := hideP (And.intro hq hff)
          generalize Cut.floats bs[bn] n (wt d) = fl at *
          generalize wt d = wtd at *
          clear hff hstep hq n8
          (repeat (first | (with_reducible apply zal; (focus ((conv => lhs; simp [ev1, wantG, spineK, spine, float, xnew, xval, xeff, zaa, zab, zaq, zaf, zag, addFl, cellsOf, pickC, alive, slLen, slFt, binI, maxA, maxK, minA, minK, aeqK, aeqS, AV.cells, zac, boatE, spanE, lookE, fillA, setAt, bitsI, nat_nn, AV.plain, apart, Nat.testBit_eq_decide_div_mod_eq, *]) <;> exact rfl)); simp only [addFl]) | ((with_reducible first | refine zam ?_ | refine zao ?_ | refine zak ?_ | refine zai ?_ | refine zae ?_ | refine zan ?_ | refine zaj ?_ | refine zar ?_ | (apply zah; (focus (simp [zaa, *]; done))) | (with_reducible apply zad; (focus (simp [zaa, *]; done)))); try simp only [Then, Ops, OutB])))
          obtain ⟨hq, hff⟩ := HQ.out
          refine ⟨q - 1, by omega, d + 1, by omega, by omega, hff, ?_⟩
          simp only [zat hC]
          exact st_eq (by simp [zas, zau]) rfl rfl rfl
      · obtain rfl : d = r.length + 1 := by omega
        have hx : ¬ ((r.length : Int) + 1 ≤ r.length) := by omega
        rw [Nat.sub_self] at hff
        rw [hff]
        clear hq hd hff
        (repeat (first | (with_reducible apply zal; (focus ((conv => lhs; simp [ev1, wantG, spineK, spine, float, xnew, xval, xeff, zaa, zab, zaq, zaf, zag, addFl, cellsOf, pickC, alive, slLen, slFt, binI, maxA, maxK, minA, minK, aeqK, aeqS, AV.cells, zac, boatE, spanE, lookE, fillA, setAt, bitsI, nat_nn, AV.plain, apart, Nat.testBit_eq_decide_div_mod_eq, *]) <;> exact rfl)); simp only [addFl]) | ((with_reducible first | refine zam ?_ | refine zao ?_ | refine zak ?_ | refine zai ?_ | refine zae ?_ | refine zan ?_ | refine zaj ?_ | refine zar ?_ | (apply zah; (focus (simp [zaa, *]; done))) | (with_reducible apply zad; (focus (simp [zaa, *]; done)))); try simp only [Then, Ops, OutB, reduceIte])))
        exact ⟨by first | trivial | rfl, by first | trivial | rfl, by first | trivial | rfl, by simp only [resL, resOf, zap]; simp [resV, twoA, untilV, Cut.findFrom]⟩
set_option maxHeartbeats 8000000 in
theorem zmw (C : Cfg) (hC : C.calm = true) (call : CallF) (hT : ToldC call) (hDy : DayC call) (hM : MostC call) (H : List AB) (a b k l m : Int) (r : List (Int × Int)) (bs : List Boat) (ls : List Look) (d : Int) :
    Does (ev C call H.length none af27.body { tm := tmA 42 (zipI 0 [.agg [.int .i64 a, .int .i64 b, .int .i64 k, .int .i64 l, .vs 2 (r.map spanE), .int .i64 m, .vs 4 (bs.map boatE), .vs 3 (ls.map lookE)], .int .i64 d] []), df := [], hp := H, tc := [] }) (Ends af27 (twoA (togetherR ⟨(a, b), (k, l), r, m, bs, ls⟩ d))) := by
  have h1 := fun H => hDy H a b k l m r bs ls d
  have hday := fun h => @zwm a b k l m r bs ls d h
  rcases hT (H ++ [.cells [.int .i64 a, .int .i64 b, .int .i64 k, .int .i64 l, .vs 2 (r.map spanE), .int .i64 m, .vs 4 (bs.map boatE), .vs 3 (ls.map lookE)]]) a b k l m r bs ls (Cut.isDay ⟨(a, b), (k, l), r, m, bs, ls⟩ d) with ⟨h2, h3⟩ | ⟨h2, K, w, cnt, cs, h3, h4, h5, h6, h7, h8⟩
  · have hr : togetherR ⟨(a, b), (k, l), r, m, bs, ls⟩ d = (0, toldErr ⟨(a, b), (k, l), r, m, bs, ls⟩ (Cut.isDay ⟨(a, b), (k, l), r, m, bs, ls⟩ d)) := by unfold togetherR; rw [if_neg h2]
    rw [hr]
    generalize Cut.isDay ⟨(a, b), (k, l), r, m, bs, ls⟩ d = vb at *
    generalize toldErr ⟨(a, b), (k, l), r, m, bs, ls⟩ vb = e at *
    clear hr hT hDy hday hM
    unfold af27
    simp only [zipI]
    (repeat (first | (with_reducible apply zal; (focus ((conv => lhs; simp [ev1, wantG, spineK, spine, float, xnew, xval, xeff, zaa, zab, zaq, zaf, zag, addFl, cellsOf, pickC, alive, slLen, slFt, binI, maxA, maxK, minA, minK, aeqK, aeqS, AV.cells, zac, boatE, spanE, lookE, fillA, setAt, bitsI, nat_nn, AV.plain, apart, Nat.testBit_eq_decide_div_mod_eq, *]) <;> exact rfl)); simp only [addFl]) | ((with_reducible first | refine zam ?_ | refine zao ?_ | refine zak ?_ | refine zai ?_ | refine zae ?_ | refine zan ?_ | refine zaj ?_ | refine zar ?_ | (apply zah; (focus (simp [zaa, *]; done))) | (with_reducible apply zad; (focus (simp [zaa, *]; done)))); try simp only [Then, Ops])))
    exact ⟨by first | trivial | rfl, by first | trivial | rfl, by first | trivial | rfl, by simp only [resL, resOf, zap]; simp [resV, twoA]⟩
  · have hvb := zij h2
    obtain ⟨V, hcan⟩ := zow h2
    have b4 : bs.length ≤ 4 := V.b4
    obtain ⟨dn, rfl, hdn⟩ := hday hvb
    have hr : togetherR ⟨(a, b), (k, l), r, m, bs, ls⟩ dn = (Cut.sumTo ⟨(a, b), (k, l), r, m, bs, ls⟩ dn bs.length, 0) := by unfold togetherR; rw [if_pos h2, Int.toNat_natCast]; rfl
    rw [hr]
    have h8 := h8 [] dn hdn
    rw [hvb] at h1 h3
    simp only [List.append_nil, List.append_assoc, List.cons_append, List.nil_append] at h3 h8
    have hlh := zxq V hcan (d := dn) hdn
    have hm := fun H (i : Nat) (h : i < bs.length) => hM H bs[i] (zqh V h) (Cut.water ⟨(a, b), (k, l), r, m, bs, ls⟩ dn).1 (Cut.water ⟨(a, b), (k, l), r, m, bs, ls⟩ dn).2 2 hlh
    have hsum : ∀ i (h : i < bs.length), Cut.sumTo ⟨(a, b), (k, l), r, m, bs, ls⟩ dn (i + 1) = Cut.sumTo ⟨(a, b), (k, l), r, m, bs, ls⟩ dn i + max 0 (((Cut.lead (fun j => decide ((2 : Int) ≤ Cut.floats bs[i] j ((Cut.water ⟨(a, b), (k, l), r, m, bs, ls⟩ dn).1, (Cut.water ⟨(a, b), (k, l), r, m, bs, ls⟩ dn).2))) (bs[i].room.toNat + 1) : Nat) : Int) - 1) := fun i h => by
      have hbat : Cut.boatAt (⟨(a, b), (k, l), r, m, bs, ls⟩ : CutD).boats i = bs[i] := by simp [Cut.boatAt, h]
      show Cut.sumTo _ dn i + max 0 (Cut.loads _ i dn 2) = _
      unfold Cut.loads Cut.suits
      rw [hbat]
    have hsz : Cut.sumTo ⟨(a, b), (k, l), r, m, bs, ls⟩ dn 0 = 0 := rfl
    have hle := fun i (h : i ≤ bs.length) => Cut.sumTo_le (Cut.of_valid V) dn i h
    have hll : ∀ i (h : i < bs.length), ((Cut.lead (fun j => decide ((2 : Int) ≤ Cut.floats bs[i] j ((Cut.water ⟨(a, b), (k, l), r, m, bs, ls⟩ dn).1, (Cut.water ⟨(a, b), (k, l), r, m, bs, ls⟩ dn).2))) (bs[i].room.toNat + 1) : Nat) : Int) ≤ 11 := fun i h => by
      have := Cut.lead_le (fun j => decide ((2 : Int) ≤ Cut.floats bs[i] j ((Cut.water ⟨(a, b), (k, l), r, m, bs, ls⟩ dn).1, (Cut.water ⟨(a, b), (k, l), r, m, bs, ls⟩ dn).2))) (bs[i].room.toNat + 1)
      have h10 := (zqh V h).2.2.2.2.2.2
      omega
    generalize Cut.sumTo ⟨(a, b), (k, l), r, m, bs, ls⟩ dn = sm at *
    generalize Cut.water ⟨(a, b), (k, l), r, m, bs, ls⟩ dn = wt at *
    have HM := hideP (And.intro hm (And.intro hsum (And.intro hsz (And.intro hle hll))))
    clear hr hT hDy hday h2 h4 h5 h6 h7 hvb hdn V hcan hM hlh hm hsum hsz hle hll
    unfold af27
    simp only [zipI]
    (repeat (first | (with_reducible apply zal; (focus ((conv => lhs; simp [ev1, wantG, spineK, spine, float, xnew, xval, xeff, zaa, zab, zaq, zaf, zag, addFl, cellsOf, pickC, alive, slLen, slFt, binI, maxA, maxK, minA, minK, aeqK, aeqS, AV.cells, zac, boatE, spanE, lookE, fillA, setAt, bitsI, nat_nn, AV.plain, apart, Nat.testBit_eq_decide_div_mod_eq, *]) <;> exact rfl)); simp only [addFl]) | ((with_reducible first | refine zam ?_ | refine zao ?_ | refine zak ?_ | refine zai ?_ | refine zae ?_ | refine zan ?_ | refine zaj ?_ | refine zar ?_ | (apply zah; (focus (simp [zaa, *]; done))) | (with_reducible apply zad; (focus (simp [zaa, *]; done)))); try simp only [Then, Ops])))
    refine zbf (fun q st => ∃ i : Nat, i + q = bs.length ∧ st = { tm := tmA 42 [(9, .int .i64 i), (8, .int .i64 (sm i)), (6, .sl w 0 (cnt + 1) 2), (2, .ptr H.length 0), (1, .int .i64 dn)], df := [], hp := H ++ .cells [.int .i64 a, .int .i64 b, .int .i64 k, .int .i64 l, .vs 2 (r.map spanE), .int .i64 m, .vs 4 (bs.map boatE), .vs 3 (ls.map lookE)] :: K, tc := [] }) bs.length (by unfold fuelL; omega) ?_ ?_
    · refine ⟨0, by omega, ?_⟩
      simp only [zat hC]
      rw [HM.out.2.2.1]
      exact st_eq (by simp [zas, zau]) rfl rfl rfl
    · rintro q st ⟨i, hq, rfl⟩
      by_cases hi : i < bs.length
      · have hw : IntKind.i64.wrap ((i : Int) + 1) = (i : Int) + 1 := zbb (by omega) (by omega)
        obtain ⟨hm, hsum, -, hle, hll⟩ := HM.out
        have hsum := hsum i hi
        have hle := hle i (by omega)
        have hll := hll i hi
        have hm1 : ∀ H, call (.fn (.func 66) [] []) [.agg [.int .i64 bs[i].draws.1, .int .i64 bs[i].draws.2, .int .i64 bs[i].per, .int .i64 bs[i].room], .agg [.int .i64 wt.1, .int .i64 wt.2], .int .i64 2] H = some (.ret (.int .i64 ((Cut.lead (fun j => decide ((2 : Int) ≤ Cut.floats bs[i] j (wt.1, wt.2))) (bs[i].room.toNat + 1) : Nat) - 1)), H, []) := fun H => hm H i hi
        clear hm
        generalize (Cut.lead (fun j => decide ((2 : Int) ≤ Cut.floats bs[i] j (wt.1, wt.2))) (bs[i].room.toNat + 1)) = ld at *
        have hwm : IntKind.i64.wrap (sm i + max 0 ((ld : Int) - 1)) = sm i + max 0 ((ld : Int) - 1) := zbb (by omega) (by omega)
        have HQ := hideP (And.intro hq hsum)
        clear hq hsum hle hll b4
        (repeat (first | (with_reducible apply zal; (focus ((conv => lhs; simp [ev1, wantG, spineK, spine, float, xnew, xval, xeff, zaa, zab, zaq, zaf, zag, addFl, cellsOf, pickC, alive, slLen, slFt, binI, maxA, maxK, minA, minK, aeqK, aeqS, AV.cells, zac, boatE, spanE, lookE, fillA, setAt, bitsI, nat_nn, AV.plain, apart, Nat.testBit_eq_decide_div_mod_eq, *]) <;> exact rfl)); simp only [addFl]) | ((with_reducible first | refine zam ?_ | refine zao ?_ | refine zak ?_ | refine zai ?_ | refine zae ?_ | refine zan ?_ | refine zaj ?_ | refine zar ?_ | (apply zah; (focus (simp [zaa, *]; done))) | (with_reducible apply zad; (focus (simp [zaa, *]; done)))); try simp only [Then, Ops, OutB])))
        obtain ⟨hq, hsum⟩ := HQ.out
        refine ⟨q - 1, by omega, i + 1, by omega, ?_⟩
        simp only [zat hC]
        rw [hsum]
        exact st_eq (by simp [zas, zau]) rfl rfl rfl
      · obtain rfl : i = bs.length := by omega
        generalize sm bs.length = s0 at *
        clear hq hi
        (repeat (first | (with_reducible apply zal; (focus ((conv => lhs; simp [ev1, wantG, spineK, spine, float, xnew, xval, xeff, zaa, zab, zaq, zaf, zag, addFl, cellsOf, pickC, alive, slLen, slFt, binI, maxA, maxK, minA, minK, aeqK, aeqS, AV.cells, zac, boatE, spanE, lookE, fillA, setAt, bitsI, nat_nn, AV.plain, apart, Nat.testBit_eq_decide_div_mod_eq, *]) <;> exact rfl)); simp only [addFl]) | ((with_reducible first | refine zam ?_ | refine zao ?_ | refine zak ?_ | refine zai ?_ | refine zae ?_ | refine zan ?_ | refine zaj ?_ | refine zar ?_ | (apply zah; (focus (simp [zaa, *]; done))) | (with_reducible apply zad; (focus (simp [zaa, *]; done)))); try simp only [Then, Ops, OutB, reduceIte])))
        exact ⟨by first | trivial | rfl, by first | trivial | rfl, by first | trivial | rfl, by simp only [resL, resOf, zap]; simp [resV, twoA]⟩
end R
end Ev
end Go.Proofs.YtlkhjnpflohfeaaDoor

/- What CutFloats comes to. -/
namespace Go.Proofs.YtlkhjnpflohfeaaDoor
open Go
namespace Ev
end Ev
end Go.Proofs.YtlkhjnpflohfeaaDoor

/- The plain law of CutFloats. -/
namespace Go.Proofs.YtlkhjnpflohfeaaDoor
open Go
namespace Cut
end Cut
end Go.Proofs.YtlkhjnpflohfeaaDoor

/- What CutRain comes to. -/
namespace Go.Proofs.YtlkhjnpflohfeaaDoor
open Go
namespace Ev
def lowN (x : CutD) : Nat → Int
  | 0 => x.depth.1
  | d + 1 => max 0 (min x.most (lowN x d + (Cut.spanAt x.rain d).1 - x.leak.2))
def highN (x : CutD) : Nat → Int
  | 0 => x.depth.2
  | d + 1 => max 0 (min x.most (highN x d + (Cut.spanAt x.rain d).2 - x.leak.1))
def bare (c : CutD) : CutD := { c with looks := [] }
def wetter (c : CutD) (wi : Nat) (mr : Int) : CutD := { c with looks := [], rain := c.rain.set wi (min 30 ((Cut.spanAt c.rain wi).1 + mr), min 30 ((Cut.spanAt c.rain wi).2 + mr)) }
end Ev
end Go.Proofs.YtlkhjnpflohfeaaDoor

/- The plain law of CutRain. -/
namespace Go.Proofs.YtlkhjnpflohfeaaDoor
open Go
namespace Cut
open Ev (lowN highN bare wetter)
end Cut
end Go.Proofs.YtlkhjnpflohfeaaDoor

/- What CutEnds comes to. -/
namespace Go.Proofs.YtlkhjnpflohfeaaDoor
open Go
namespace Ev
def leaking (c : CutD) (n : Int) : CutD := { c with leak := (n, n) }
def showing (c : CutD) (n : Int) (day : Nat) (v : Int) : CutD := { c with leak := (n, n), looks := c.looks ++ [⟨day, (v, v)⟩] }
structure Ends (A : Api) (c : CutD) (day : Nat) : Prop where
  len : c.rain.length ≤ 8
  leak : 0 ≤ c.leak.1 ∧ c.leak.2 ≤ 10
  most : 0 ≤ c.most ∧ c.most ≤ 100
  dayErr : (A.depth c (c.rain.length + 1)).2 = 2
  boatErr : (A.floats c c.boats.length 0 0).2 = 2
  daysErr : (A.days c (-1) 0).2 = 2
  sumErr : (A.together c (-1)).2 = 2
  err : (A.depth c 0).2 = 0 ∧ (A.clash c).2 = 4 ∧ (A.leak c).2 = 0 ∨ A.depth c 0 = ((0, 0), 10) ∧ (A.clash c).2 ≠ 4 ∧ A.leak c = ((0, 0), 10)
  round : (A.depth c 0).2 = 0 → c.looks.length < 5 → ∀ n, c.leak.1 ≤ n → n ≤ c.leak.2 →
    ((A.depth (leaking c n) day).2 = 0 ∧ (A.leak c).1.1 ≤ n ∧ n ≤ (A.leak c).1.2 ∧ (-1000 ≤ (A.depth (leaking c n) day).1.1 ∧ (A.depth (leaking c n) day).1.1 ≤ 1000 ∧ -1000 ≤ (A.depth (leaking c n) day).1.2 ∧ (A.depth (leaking c n) day).1.2 ≤ 1000) ∧
      ∀ v, max 0 ((A.depth (leaking c n) day).1.1 - 2) ≤ v → v ≤ min c.most ((A.depth (leaking c n) day).1.2 + 2) → ((A.clash (showing c n day v)).2 = 4 ↔ (A.depth (leaking c n) day).1.1 ≤ v ∧ v ≤ (A.depth (leaking c n) day).1.2)) ∨
    ((A.depth (leaking c n) day).2 = 10 ∧ n ≠ (A.leak c).1.1 ∧ n ≠ (A.leak c).1.2)
end Ev
end Go.Proofs.YtlkhjnpflohfeaaDoor

/- The plain law of CutEnds. -/
namespace Go.Proofs.YtlkhjnpflohfeaaDoor
open Go
namespace Cut
open Ev (leaking showing)
end Cut
end Go.Proofs.YtlkhjnpflohfeaaDoor

/- The plain law of CutTrue: what is returned of a cut holds of each truth. -/
namespace Go.Proofs.YtlkhjnpflohfeaaDoor
open Go
end Go.Proofs.YtlkhjnpflohfeaaDoor

/- What more is known of a cut: plain laws for CutMore. -/
namespace Go.Proofs.YtlkhjnpflohfeaaDoor
open Go
namespace Cut
end Cut
end Go.Proofs.YtlkhjnpflohfeaaDoor

/- The plain law of CutClash. -/
namespace Go.Proofs.YtlkhjnpflohfeaaDoor
open Go
namespace Cut
theorem can_none {c : CutD} (h : Valid c) : can c 0 = true := by
  have l1 := h.l1
  refine (can_iff h 0).2 ⟨c.leak.2, by unfold inS; omega, Ev.lowN c, ?_, ?_, ?_⟩
  · have := h.d1; unfold inS Ev.lowN; omega
  · intro d hd
    have := h.rain d hd
    exact ⟨(spanAt c.rain d).1, by unfold inS; omega, rfl⟩
  · intro d _ i _ hb
    simp at hb
theorem lead_spec (p : Nat → Bool) : ∀ n, (∀ i, i < lead p n → p i = true) ∧ (lead p n < n → p (lead p n) = false)
  | 0 => ⟨fun i hi => by simp [lead] at hi, fun h => by simp [lead] at h⟩
  | n + 1 => by
    obtain ⟨h1, h2⟩ := lead_spec p n
    have hle := lead_le p n
    unfold lead
    by_cases hc : lead p n = n ∧ p n = true
    · rw [if_pos hc]
      refine ⟨fun i hi => ?_, fun h => by omega⟩
      by_cases hin : i = n
      · subst hin; exact hc.2
      · exact h1 i (by omega)
    · rw [if_neg hc]
      refine ⟨h1, fun h => ?_⟩
      by_cases hn : lead p n = n
      · rw [hn]
        cases hp : p n with
        | false => rfl
        | true => exact absurd ⟨hn, hp⟩ hc
      · exact h2 (by omega)
end Cut
theorem zry (k : Nat) (hk : k ≤ 5) : (∀ i, i < 2 ^ k → ∀ j, j < 2 ^ k → i ≤ j → Srt.popc (Srt.at' (Srt.sizeSets k) i) < Srt.popc (Srt.at' (Srt.sizeSets k) j) ∨ Srt.popc (Srt.at' (Srt.sizeSets k) i) = Srt.popc (Srt.at' (Srt.sizeSets k) j) ∧ Srt.at' (Srt.sizeSets k) i ≤ Srt.at' (Srt.sizeSets k) j) ∧
    (∀ s, s < 2 ^ k → ∃ i, i < 2 ^ k ∧ Srt.at' (Srt.sizeSets k) i = s) ∧ (∀ i, i < 2 ^ k → Srt.at' (Srt.sizeSets k) i < 2 ^ k) ∧ ∀ s, s < 2 ^ k → ∀ i, i < k → s.testBit i = true → 2 ^ i ≤ s ∧ Srt.popc (s - 2 ^ i) < Srt.popc s := by
  have : k = 0 ∨ k = 1 ∨ k = 2 ∨ k = 3 ∨ k = 4 ∨ k = 5 := by omega
  rcases this with rfl | rfl | rfl | rfl | rfl | rfl <;> exact ⟨by decide +kernel, by decide +kernel, by decide +kernel, by decide +kernel⟩
theorem zqc {c : CutD} (V : Cut.Valid c) (hc : Cut.can c (Cut.every c) = false) :
    1 ≤ clashSet c ∧ clashSet c < 2 ^ c.looks.length ∧ Cut.can c (clashSet c) = false ∧
    (∀ i, i < c.looks.length → (clashSet c).testBit i = true → 2 ^ i ≤ clashSet c ∧ Cut.can c (clashSet c - 2 ^ i) = true) ∧
    ∀ o, o < 2 ^ c.looks.length → Cut.can c o = false → Srt.popc (clashSet c) < Srt.popc o ∨ Srt.popc (clashSet c) = Srt.popc o ∧ clashSet c ≤ o := by
  obtain ⟨o1, o2, o3, o4⟩ := zry c.looks.length V.k5
  obtain ⟨p1, p2⟩ := Cut.lead_spec (fun i => Cut.can c (Srt.at' (Srt.sizeSets c.looks.length) i)) (2 ^ c.looks.length)
  have hpos : 0 < 2 ^ c.looks.length := Nat.pow_pos (by decide)
  have hlt : Cut.lead (fun i => Cut.can c (Srt.at' (Srt.sizeSets c.looks.length) i)) (2 ^ c.looks.length) < 2 ^ c.looks.length := by
    obtain ⟨i, hi, e⟩ := o2 (Cut.every c) (by unfold Cut.every; omega)
    rcases Nat.lt_or_ge (Cut.lead (fun i => Cut.can c (Srt.at' (Srt.sizeSets c.looks.length) i)) (2 ^ c.looks.length)) (2 ^ c.looks.length) with h | h
    · exact h
    · have := p1 i (by omega)
      simp only [e, hc] at this
      cases this
  have hno := p2 hlt
  unfold clashSet
  generalize Cut.lead (fun i => Cut.can c (Srt.at' (Srt.sizeSets c.looks.length) i)) (2 ^ c.looks.length) = L at *
  have least : ∀ o, o < 2 ^ c.looks.length → Cut.can c o = false → Srt.popc (Srt.at' (Srt.sizeSets c.looks.length) L) < Srt.popc o ∨ Srt.popc (Srt.at' (Srt.sizeSets c.looks.length) L) = Srt.popc o ∧ Srt.at' (Srt.sizeSets c.looks.length) L ≤ o := by
    intro o ho hco
    obtain ⟨i, hi, rfl⟩ := o2 o ho
    have hLi : L ≤ i := by
      rcases Nat.lt_or_ge i L with h | h
      · have := p1 i h
        simp only [hco] at this
        cases this
      · exact h
    exact o1 L hlt i hi hLi
  refine ⟨?_, o3 L hlt, hno, ?_, least⟩
  · rcases Nat.eq_zero_or_pos (Srt.at' (Srt.sizeSets c.looks.length) L) with h | h
    · rw [h, Cut.can_none V] at hno; cases hno
    · exact h
  · intro i hi hb
    obtain ⟨q1, q2⟩ := o4 _ (o3 L hlt) i hi hb
    refine ⟨q1, ?_⟩
    cases hcan : Cut.can c (Srt.at' (Srt.sizeSets c.looks.length) L - 2 ^ i) with
    | true => rfl
    | false =>
      have := least _ (Nat.lt_of_le_of_lt (Nat.sub_le _ _) (o3 L hlt)) hcan
      omega
end Go.Proofs.YtlkhjnpflohfeaaDoor

/- The reference of chapter 06: which looks cannot all be right, as a call. -/
namespace Go.Proofs.YtlkhjnpflohfeaaDoor
open Go
namespace Ev
namespace R
set_option maxRecDepth 100000
theorem zkl : ∀ f, Srt.popcA f 0 = 0
  | 0 => rfl
  | f + 1 => by unfold Srt.popcA; simp [zkl f]
theorem zkm : ∀ f n, n < 2 ^ f → ∀ g, f ≤ g → Srt.popcA g n = Srt.popcA f n
  | 0, n, h, g, _ => by
    have : n = 0 := by simpa using h
    subst this
    rw [zkl]; rfl
  | f + 1, n, h, 0, hg => by omega
  | f + 1, n, h, g + 1, hg => by
    unfold Srt.popcA
    rw [zkm f (n / 2) (by rw [Nat.pow_succ] at h; omega) g (by omega)]
theorem zuo (n : Nat) (h : n < 65536) : Srt.popc n = n % 2 + Srt.popc (n / 2) := by
  have h1 := zkm 15 (n / 2) (by omega) 16 (by omega)
  unfold Srt.popc
  rw [h1]; rfl
theorem zsk (n : Nat) : Srt.popc n ≤ 16 := Srt.popc_le n
set_option maxHeartbeats 8000000 in
theorem zyg (C : Cfg) (hC : C.calm = true) (call : CallF) (s : Nat) (hs : s < 65536) (H : List AB) :
    Does (ev C call H.length none af39.body { tm := tmA 13 (zipI 0 [.int .i64 s] []), df := [], hp := H, tc := [] })
      (Gives 2 (.int .i64 (Srt.popc s))) := by
  unfold af39
  simp only [zipI]
  (repeat (first | (with_reducible apply zal; (focus ((conv => lhs; simp [ev1, wantG, spineK, spine, float, xnew, xval, xeff, zaa, zab, zaq, zaf, zag, addFl, cellsOf, pickC, alive, slLen, slFt, binI, maxA, maxK, minA, minK, aeqK, aeqS, AV.cells, zac, boatE, spanE, lookE, fillA, setAt, bitsI, nat_nn, AV.plain, apart, Nat.testBit_eq_decide_div_mod_eq, *]) <;> exact rfl)); simp only [addFl]) | ((with_reducible first | refine zam ?_ | refine zao ?_ | refine zak ?_ | refine zai ?_ | refine zae ?_ | refine zan ?_ | refine zaj ?_ | refine zar ?_ | (apply zah; (focus (simp [zaa, *]; done))) | (with_reducible apply zad; (focus (simp [zaa, *]; done)))); try simp only [Then, Ops])))
  refine zbf (fun q st => ∃ n acc : Nat, n ≤ q ∧ n < 65536 ∧ acc ≤ 16 ∧ acc + Srt.popc n = Srt.popc s ∧ st = { tm := tmA 13 [(3, .int .i64 acc), (0, .int .i64 n)], df := [], hp := H, tc := [] }) s (by unfold fuelL; omega) ?_ ?_
  · refine ⟨s, 0, Nat.le_refl _, hs, by omega, by omega, ?_⟩
    simp only [zat hC]
    exact st_eq (by simp [zas, zau]) rfl rfl rfl
  · rintro q st ⟨n, acc, hq, hn, ha, he, rfl⟩
    by_cases h0 : 0 < n
    · have hst := zuo n hn
      have hle := zsk s
      have t1 : (n : Int).tmod 2 = ((n % 2 : Nat) : Int) := by rw [Int.tmod_eq_emod_of_nonneg (by omega)]; omega
      have t2 : (n : Int).tdiv 2 = ((n / 2 : Nat) : Int) := by rw [Int.tdiv_eq_ediv_of_nonneg (by omega)]; omega
      have hw1 : IntKind.i64.wrap ((acc : Int) + ((n % 2 : Nat) : Int)) = ((acc + n % 2 : Nat) : Int) := by rw [zbb (by omega) (by omega)]; omega
      have hw2 : IntKind.i64.wrap ((n : Int).tdiv 2) = ((n / 2 : Nat) : Int) := by rw [t2]; exact zbb (by omega) (by omega)
      have hw3 : IntKind.i64.wrap ((n / 2 : Nat) : Int) = ((n / 2 : Nat) : Int) := zbb (by omega) (by omega)
      have hw4 : IntKind.i64.wrap ((n % 2 : Nat) : Int) = ((n % 2 : Nat) : Int) := zbb (by omega) (by omega)
      have hlt : n / 2 < n := by omega
      have hlo : n % 2 ≤ 1 := by omega
      have HS := hideP (And.intro hlt (And.intro hlo (And.intro hst (And.intro hle (And.intro hq (And.intro hn (And.intro ha (And.intro he h0))))))))
      have h0i : (0 : Int) < (n : Int) := by omega
      generalize n % 2 = lo at *
      generalize n / 2 = hi at *
      clear hst hle hq hn ha he hlt hlo hs
      (repeat (first | (with_reducible apply zal; (focus ((conv => lhs; simp [ev1, wantG, spineK, spine, float, xnew, xval, xeff, zaa, zab, zaq, zaf, zag, addFl, cellsOf, pickC, alive, slLen, slFt, binI, maxA, maxK, minA, minK, aeqK, aeqS, AV.cells, zac, boatE, spanE, lookE, fillA, setAt, bitsI, nat_nn, AV.plain, apart, Nat.testBit_eq_decide_div_mod_eq, *]) <;> exact rfl)); simp only [addFl]) | ((with_reducible first | refine zam ?_ | refine zao ?_ | refine zak ?_ | refine zai ?_ | refine zae ?_ | refine zan ?_ | refine zaj ?_ | refine zar ?_ | (apply zah; (focus (simp [zaa, *]; done))) | (with_reducible apply zad; (focus (simp [zaa, *]; done)))); try simp only [Then, Ops, OutB])))
      obtain ⟨g1, g2, g3, g4, g5, g6, g7, g8, g9⟩ := HS.out
      refine ⟨q - 1, by omega, hi, acc + lo, by omega, by omega, by omega, by omega, ?_⟩
      simp only [zat hC]
      exact st_eq (by simp [zas, zau]) rfl rfl rfl
    · obtain rfl : n = 0 := by omega
      have : Srt.popc 0 = 0 := rfl
      obtain rfl : acc = Srt.popc s := by omega
      clear hq hn ha he this h0 hs
      (repeat (first | (with_reducible apply zal; (focus ((conv => lhs; simp [ev1, wantG, spineK, spine, float, xnew, xval, xeff, zaa, zab, zaq, zaf, zag, addFl, cellsOf, pickC, alive, slLen, slFt, binI, maxA, maxK, minA, minK, aeqK, aeqS, AV.cells, zac, boatE, spanE, lookE, fillA, setAt, bitsI, nat_nn, AV.plain, apart, Nat.testBit_eq_decide_div_mod_eq, *]) <;> exact rfl)); simp only [addFl]) | ((with_reducible first | refine zam ?_ | refine zao ?_ | refine zak ?_ | refine zai ?_ | refine zae ?_ | refine zan ?_ | refine zaj ?_ | refine zar ?_ | (apply zah; (focus (simp [zaa, *]; done))) | (with_reducible apply zad; (focus (simp [zaa, *]; done)))); try simp only [Then, Ops, OutB, reduceIte])))
      exact ⟨rfl, rfl, rfl, by simp only [zap]; simp⟩
def SizeC (call : CallF) : Prop := ∀ (H : List AB) (s : Nat), s < 65536 → call (.fn (.func 39) [] []) [.int .i64 s] H = some (.ret (.int .i64 (Srt.popc s)), H, [])
theorem zsl : ∀ k, k ≤ 5 → ∀ i, i < 2 ^ k - 1 → Srt.popc i < Srt.popc (2 ^ k - 1) := by
  intro k hk
  have : k = 0 ∨ k = 1 ∨ k = 2 ∨ k = 3 ∨ k = 4 ∨ k = 5 := by omega
  rcases this with rfl | rfl | rfl | rfl | rfl | rfl <;> decide +kernel
structure Best (can : Nat → Bool) (ev i best : Nat) : Prop where
  cl : can best = false
  le : best ≤ ev
  at' : best = ev ∨ best < i
  all : ∀ o, o < i → can o = false → Srt.popc best ≤ Srt.popc o ∧ (Srt.popc best = Srt.popc o → best ≤ o)
theorem Best.take {can : Nat → Bool} {ev i best : Nat} (h : Best can ev i best) (hi : i ≤ ev) (hc : can i = false) (hp : Srt.popc i < Srt.popc best) : Best can ev (i + 1) i := by
  refine ⟨hc, hi, .inr (by omega), fun o ho hco => ?_⟩
  rcases (show o < i ∨ o = i by omega) with h1 | rfl
  · have := (h.all o h1 hco).1; omega
  · exact ⟨Nat.le_refl _, fun _ => Nat.le_refl _⟩
theorem Best.keep {can : Nat → Bool} {ev i best : Nat} (h : Best can ev i best) (hi : i ≤ ev) (hev : ∀ j, j < ev → Srt.popc j < Srt.popc ev) (hc : can i = true ∨ ¬ Srt.popc i < Srt.popc best) : Best can ev (i + 1) best := by
  refine ⟨h.cl, h.le, h.at'.imp id (by omega), fun o ho hco => ?_⟩
  rcases (show o < i ∨ o = i by omega) with h1 | rfl
  · exact h.all o h1 hco
  · have hn : ¬ Srt.popc o < Srt.popc best := by
      rcases hc with hc | hc
      · rw [hc] at hco; cases hco
      · exact hc
    refine ⟨by omega, fun he => ?_⟩
    rcases h.at' with rfl | hb
    · rcases (show o < best ∨ o = best by omega) with h2 | rfl
      · have := hev o h2; omega
      · exact Nat.le_refl _
    · omega
set_option maxHeartbeats 8000000 in
theorem zwq (C : Cfg) (hC : C.calm = true) (call : CallF) (a b k l m : Int) (r : List (Int × Int)) (bs : List Boat) (ls : List Look) (hV : ∀ H, call (.fn (.func 35) [] []) [.agg [.int .i64 a, .int .i64 b, .int .i64 k, .int .i64 l, .vs 2 (r.map spanE), .int .i64 m, .vs 4 (bs.map boatE), .vs 3 (ls.map lookE)]] H = some (.ret (.bool (Cut.valid ⟨(a, b), (k, l), r, m, bs, ls⟩)), H, [])) (hE : EveryC call) (hWy : WaysC call) (hS : SizeC call) (H : List AB) :
    Does (ev C call H.length none af29.body { tm := tmA 37 (zipI 0 [.agg [.int .i64 a, .int .i64 b, .int .i64 k, .int .i64 l, .vs 2 (r.map spanE), .int .i64 m, .vs 4 (bs.map boatE), .vs 3 (ls.map lookE)]] []), df := [], hp := H, tc := [] }) (Ends af29 (twoA (clashR ⟨(a, b), (k, l), r, m, bs, ls⟩))) := by
  cases hv : Cut.valid ⟨(a, b), (k, l), r, m, bs, ls⟩ with
  | false =>
    have hr : clashR ⟨(a, b), (k, l), r, m, bs, ls⟩ = (0, 1) := by unfold clashR; rw [if_pos hv]
    rw [hr]
    rw [hv] at hV
    clear hv hr hE hWy hS
    unfold af29
    simp only [zipI]
    (repeat (first | (with_reducible apply zal; (focus ((conv => lhs; simp [ev1, wantG, spineK, spine, float, xnew, xval, xeff, zaa, zab, zaq, zaf, zag, addFl, cellsOf, pickC, alive, slLen, slFt, binI, maxA, maxK, minA, minK, aeqK, aeqS, AV.cells, zac, boatE, spanE, lookE, fillA, setAt, bitsI, nat_nn, AV.plain, apart, Nat.testBit_eq_decide_div_mod_eq, *]) <;> exact rfl)); simp only [addFl]) | ((with_reducible first | refine zam ?_ | refine zao ?_ | refine zak ?_ | refine zai ?_ | refine zae ?_ | refine zan ?_ | refine zaj ?_ | refine zar ?_ | (apply zah; (focus (simp [zaa, *]; done))) | (with_reducible apply zad; (focus (simp [zaa, *]; done)))); try simp only [Then, Ops])))
    exact ⟨by first | trivial | rfl, by first | trivial | rfl, by first | trivial | rfl, by simp only [resL, resOf, zap]; simp [resV, twoA]⟩
  | true =>
    have V := Cut.valid_of hv
    have hm1 : 1 ≤ m := V.m1
    obtain ⟨mn, rfl⟩ := Int.eq_ofNat_of_zero_le (show 0 ≤ m by omega)
    have k5 : ls.length ≤ 5 := V.k5
    have hp : (2 : Nat) ^ ls.length ≤ 2 ^ 5 := Nat.pow_le_pow_right (by decide) k5
    have hp0 : 0 < (2 : Nat) ^ ls.length := Nat.pow_pos (by decide)
    have h1 := fun H => hE H a b k l mn r bs ls k5
    have hev := zsl ls.length k5
    have hwy : ∀ (T : List AB) (s : Nat), s < 1048576 → ∃ K v, call (.fn (.func 77) [] []) [.agg [.int .i64 a, .int .i64 b, .int .i64 k, .int .i64 l, .vs 2 (r.map spanE), .int .i64 mn, .vs 4 (bs.map boatE), .vs 3 (ls.map lookE)], .int .i64 s] (H ++ .cells [.int .i64 a, .int .i64 b, .int .i64 k, .int .i64 l, .vs 2 (r.map spanE), .int .i64 mn, .vs 4 (bs.map boatE), .vs 3 (ls.map lookE)] :: T) = some (.ret v, H ++ .cells [.int .i64 a, .int .i64 b, .int .i64 k, .int .i64 l, .vs 2 (r.map spanE), .int .i64 mn, .vs 4 (bs.map boatE), .vs 3 (ls.map lookE)] :: (T ++ K), []) ∧
        ((Cut.can ⟨(a, b), (k, l), r, mn, bs, ls⟩ s = false ∧ v = .nils) ∨ (Cut.can ⟨(a, b), (k, l), r, mn, bs, ls⟩ s = true ∧ ∃ w cnt cs, v = .sl w 0 (cnt + 1) 2 ∧ (H ++ .cells [.int .i64 a, .int .i64 b, .int .i64 k, .int .i64 l, .vs 2 (r.map spanE), .int .i64 mn, .vs 4 (bs.map boatE), .vs 3 (ls.map lookE)] :: (T ++ K))[w]? = some (.cells cs))) := by
      intro T s hs
      obtain ⟨K, v, lw, g1, g2, g3⟩ := hWy (H ++ .cells [.int .i64 a, .int .i64 b, .int .i64 k, .int .i64 l, .vs 2 (r.map spanE), .int .i64 mn, .vs 4 (bs.map boatE), .vs 3 (ls.map lookE)] :: T) a b k l mn r bs ls V s hs
      simp only [List.append_assoc, List.cons_append] at g1 g3
      have hcan : lw = [] ↔ Cut.can ⟨(a, b), (k, l), r, mn, bs, ls⟩ s = false := by
        rw [← zin V (mn := mn) rfl]
        show lw = [] ↔ waysL _ _ mn (l - k + 1).toNat = []
        rw [← g2]; simp
      refine ⟨K, v, g1, ?_⟩
      rcases g3.head with ⟨q1, q2⟩ | ⟨q1, w, q2, q3, q4⟩
      · exact .inl ⟨hcan.1 q1, q2⟩
      · right
        obtain ⟨p0, lw0, hlw⟩ := List.exists_cons_of_ne_nil q1
        refine ⟨?_, w, lw0.length, _, by rw [q2, hlw]; rfl, q3⟩
        cases hc : Cut.can ⟨(a, b), (k, l), r, (mn : Int), bs, ls⟩ s with
        | true => rfl
        | false => exact absurd (hcan.2 hc) q1
    have hst := fun (hc : Cut.can ⟨(a, b), (k, l), r, (mn : Int), bs, ls⟩ (2 ^ ls.length - 1) = false) => zqc V hc
    have hr1 : Cut.can ⟨(a, b), (k, l), r, (mn : Int), bs, ls⟩ (2 ^ ls.length - 1) = true → clashR ⟨(a, b), (k, l), r, (mn : Int), bs, ls⟩ = (0, 4) := fun hc => by unfold clashR; rw [if_neg (by rw [hv]; decide), if_pos (show Cut.can _ (Cut.every ⟨(a, b), (k, l), r, (mn : Int), bs, ls⟩) = true from hc)]
    have hr2 : Cut.can ⟨(a, b), (k, l), r, (mn : Int), bs, ls⟩ (2 ^ ls.length - 1) = false → clashR ⟨(a, b), (k, l), r, (mn : Int), bs, ls⟩ = (((clashSet ⟨(a, b), (k, l), r, (mn : Int), bs, ls⟩ : Nat) : Int), 0) := fun hc => by unfold clashR; rw [if_neg (by rw [hv]; decide), if_neg (by rw [show Cut.every ⟨(a, b), (k, l), r, (mn : Int), bs, ls⟩ = 2 ^ ls.length - 1 from rfl, hc]; decide)]
    rw [hv] at hV
    generalize clashR ⟨(a, b), (k, l), r, (mn : Int), bs, ls⟩ = rs at *
    simp only at hst
    generalize clashSet ⟨(a, b), (k, l), r, (mn : Int), bs, ls⟩ = S at *
    generalize Cut.can ⟨(a, b), (k, l), r, (mn : Int), bs, ls⟩ = can at *
    generalize hN : (2 : Nat) ^ ls.length - 1 = N at *
    have hN' : (2 : Nat) ^ ls.length = N + 1 := by omega
    rw [hN'] at hst
    have HWy := hideP hwy
    have HS := hideP hS
    have HT := hideP (And.intro hst (And.intro hr2 hev))
    have hN32 : N ≤ 31 := by omega
    obtain ⟨K, v, g1, g2⟩ := hwy [] N (by omega)
    simp only [List.nil_append] at g1 g2
    clear V hv hE hWy hS hwy hst hev hp hp0 k5 hm1 hN hN'
    rcases g2 with ⟨g2, rfl⟩ | ⟨g2, w, cnt, cs, rfl, g3⟩
    · have hr2 := hr2 g2
      clear hr1
      unfold af29
      simp only [zipI]
      (repeat (first | (with_reducible apply zal; (focus ((conv => lhs; simp [ev1, wantG, spineK, spine, float, xnew, xval, xeff, zaa, zab, zaq, zaf, zag, addFl, cellsOf, pickC, alive, slLen, slFt, binI, maxA, maxK, minA, minK, aeqK, aeqS, AV.cells, zac, boatE, spanE, lookE, fillA, setAt, bitsI, nat_nn, AV.plain, apart, Nat.testBit_eq_decide_div_mod_eq, *]) <;> exact rfl)); simp only [addFl]) | ((with_reducible first | refine zam ?_ | refine zao ?_ | refine zak ?_ | refine zai ?_ | refine zae ?_ | refine zan ?_ | refine zaj ?_ | refine zar ?_ | (apply zah; (focus (simp [zaa, *]; done))) | (with_reducible apply zad; (focus (simp [zaa, *]; done)))); try simp only [Then, Ops])))
      obtain ⟨hst, hr2', hev⟩ := HT.out
      refine zbf (fun q st => ∃ (i best : Nat) (T : List AB), i + q = N + 1 ∧ Best can N i best ∧ st = { tm := tmA 37 [(5, .int .i64 i), (4, .int .i64 best), (1, .ptr H.length 0)], df := [], hp := H ++ .cells [.int .i64 a, .int .i64 b, .int .i64 k, .int .i64 l, .vs 2 (r.map spanE), .int .i64 mn, .vs 4 (bs.map boatE), .vs 3 (ls.map lookE)] :: T, tc := [] }) (N + 1) (by unfold fuelL; omega) ?_ ?_
      · refine ⟨0, N, K, by omega, ⟨g2, Nat.le_refl _, .inl rfl, fun o ho => by omega⟩, ?_⟩
        simp only [zat hC]
        exact st_eq (by simp [zas, zau]) rfl rfl rfl
      · rintro q st ⟨i, best, T, hq, hB, rfl⟩
        by_cases hi : i ≤ N
        · have hw : IntKind.i64.wrap ((i : Int) + 1) = (i : Int) + 1 := zbb (by omega) (by omega)
          have hble := hB.le
          have s1 := fun H => HS.out H i (by omega)
          have s2 := fun H => HS.out H best (by omega)
          by_cases hp : Srt.popc i < Srt.popc best
          · obtain ⟨K', v', g1', g2'⟩ := HWy.out T i (by omega)
            rcases g2' with ⟨g2', rfl⟩ | ⟨g2', w, cnt, cs, rfl, g3'⟩
            · have HQ := hideP (And.intro hq (hB.take hi g2' hp))
              generalize Srt.popc i = p1 at *
              generalize Srt.popc best = p2 at *
              clear hq hB g1 g2 hst hr2' hev g2' hble hr2 hN32
              (repeat (first | (with_reducible apply zal; (focus ((conv => lhs; simp [ev1, wantG, spineK, spine, float, xnew, xval, xeff, zaa, zab, zaq, zaf, zag, addFl, cellsOf, pickC, alive, slLen, slFt, binI, maxA, maxK, minA, minK, aeqK, aeqS, AV.cells, zac, boatE, spanE, lookE, fillA, setAt, bitsI, nat_nn, AV.plain, apart, Nat.testBit_eq_decide_div_mod_eq, *]) <;> exact rfl)); simp only [addFl]) | ((with_reducible first | refine zam ?_ | refine zao ?_ | refine zak ?_ | refine zai ?_ | refine zae ?_ | refine zan ?_ | refine zaj ?_ | refine zar ?_ | (apply zah; (focus (simp [zaa, *]; done))) | (with_reducible apply zad; (focus (simp [zaa, *]; done)))); try simp only [Then, Ops, OutB])))
              obtain ⟨hq, hB⟩ := HQ.out
              refine ⟨q - 1, by omega, i + 1, i, T ++ K', by omega, hB, ?_⟩
              simp only [zat hC]
              exact st_eq (by simp [zas, zau]) rfl rfl rfl
            · have HQ := hideP (And.intro hq (hB.keep hi hev (.inl g2')))
              obtain ⟨nW, eW⟩ := List.getElem?_eq_some_iff.1 g3'
              simp only [List.length_append, List.length_cons] at nW
              have hc0 : ((cnt : Int) + 1 == 0) = false := beq_eq_false_iff_ne.2 (by omega)
              have hc1 : ¬ ((cnt : Int) + 1 = 0) := by omega
              generalize Srt.popc i = p1 at *
              generalize Srt.popc best = p2 at *
              clear hq hB g1 g2 hst hr2' hev g2' hble hr2 hN32
              (repeat (first | (with_reducible apply zal; (focus ((conv => lhs; simp [ev1, wantG, spineK, spine, float, xnew, xval, xeff, zaa, zab, zaq, zaf, zag, addFl, cellsOf, pickC, alive, slLen, slFt, binI, maxA, maxK, minA, minK, aeqK, aeqS, AV.cells, zac, boatE, spanE, lookE, fillA, setAt, bitsI, nat_nn, AV.plain, apart, Nat.testBit_eq_decide_div_mod_eq, *]) <;> exact rfl)); simp only [addFl]) | ((with_reducible first | refine zam ?_ | refine zao ?_ | refine zak ?_ | refine zai ?_ | refine zae ?_ | refine zan ?_ | refine zaj ?_ | refine zar ?_ | (apply zah; (focus (simp [zaa, *]; done))) | (with_reducible apply zad; (focus (simp [zaa, *]; done)))); try simp only [Then, Ops, OutB])))
              obtain ⟨hq, hB⟩ := HQ.out
              refine ⟨q - 1, by omega, i + 1, best, T ++ K', by omega, hB, ?_⟩
              simp only [zat hC]
              exact st_eq (by simp [zas, zau]) rfl rfl rfl
          · have HQ := hideP (And.intro hq (hB.keep hi hev (.inr hp)))
            generalize Srt.popc i = p1 at *
            generalize Srt.popc best = p2 at *
            clear hq hB g1 g2 hst hr2' hev hble hr2 hN32
            (repeat (first | (with_reducible apply zal; (focus ((conv => lhs; simp [ev1, wantG, spineK, spine, float, xnew, xval, xeff, zaa, zab, zaq, zaf, zag, addFl, cellsOf, pickC, alive, slLen, slFt, binI, maxA, maxK, minA, minK, aeqK, aeqS, AV.cells, zac, boatE, spanE, lookE, fillA, setAt, bitsI, nat_nn, AV.plain, apart, Nat.testBit_eq_decide_div_mod_eq, *]) <;> exact rfl)); simp only [addFl]) | ((with_reducible first | refine zam ?_ | refine zao ?_ | refine zak ?_ | refine zai ?_ | refine zae ?_ | refine zan ?_ | refine zaj ?_ | refine zar ?_ | (apply zah; (focus (simp [zaa, *]; done))) | (with_reducible apply zad; (focus (simp [zaa, *]; done)))); try simp only [Then, Ops, OutB])))
            obtain ⟨hq, hB⟩ := HQ.out
            refine ⟨q - 1, by omega, i + 1, best, T, by omega, hB, ?_⟩
            simp only [zat hC]
            exact st_eq (by simp [zas, zau]) rfl rfl rfl
        · obtain rfl : i = N + 1 := by omega
          have hx : ¬ ((N : Int) + 1 ≤ N) := by omega
          obtain ⟨c1, c2, c3, c4, c5⟩ := hst g2
          have hble := hB.le
          have e1 := c5 best (by omega) hB.cl
          have e2 := hB.all S (by omega) c3
          have hbS : best = S := by
            rcases e1 with h | ⟨h, h'⟩
            · omega
            · exact Nat.le_antisymm (e2.2 h.symm) h'
          subst hbS
          rw [hr2]
          clear hq hB g1 g2 hst hr2' hev hble hr2 hN32 e1 e2 c1 c2 c3 c4 c5
          (repeat (first | (with_reducible apply zal; (focus ((conv => lhs; simp [ev1, wantG, spineK, spine, float, xnew, xval, xeff, zaa, zab, zaq, zaf, zag, addFl, cellsOf, pickC, alive, slLen, slFt, binI, maxA, maxK, minA, minK, aeqK, aeqS, AV.cells, zac, boatE, spanE, lookE, fillA, setAt, bitsI, nat_nn, AV.plain, apart, Nat.testBit_eq_decide_div_mod_eq, *]) <;> exact rfl)); simp only [addFl]) | ((with_reducible first | refine zam ?_ | refine zao ?_ | refine zak ?_ | refine zai ?_ | refine zae ?_ | refine zan ?_ | refine zaj ?_ | refine zar ?_ | (apply zah; (focus (simp [zaa, *]; done))) | (with_reducible apply zad; (focus (simp [zaa, *]; done)))); try simp only [Then, Ops, OutB, reduceIte])))
          exact ⟨by first | trivial | rfl, by first | trivial | rfl, by first | trivial | rfl, by simp only [resL, resOf, zap]; simp [resV, twoA]⟩
    · rw [hr1 g2]
      clear hr1 hr2
      obtain ⟨nW, eW⟩ := List.getElem?_eq_some_iff.1 g3
      simp only [List.length_append, List.length_cons] at nW
      have hc0 : (0 : Int) < (cnt : Int) + 1 := by omega
      unfold af29
      simp only [zipI]
      (repeat (first | (with_reducible apply zal; (focus ((conv => lhs; simp [ev1, wantG, spineK, spine, float, xnew, xval, xeff, zaa, zab, zaq, zaf, zag, addFl, cellsOf, pickC, alive, slLen, slFt, binI, maxA, maxK, minA, minK, aeqK, aeqS, AV.cells, zac, boatE, spanE, lookE, fillA, setAt, bitsI, nat_nn, AV.plain, apart, Nat.testBit_eq_decide_div_mod_eq, *]) <;> exact rfl)); simp only [addFl]) | ((with_reducible first | refine zam ?_ | refine zao ?_ | refine zak ?_ | refine zai ?_ | refine zae ?_ | refine zan ?_ | refine zaj ?_ | refine zar ?_ | (apply zah; (focus (simp [zaa, *]; done))) | (with_reducible apply zad; (focus (simp [zaa, *]; done)))); try simp only [Then, Ops])))
      exact ⟨by first | trivial | rfl, by first | trivial | rfl, by first | trivial | rfl, by simp only [resL, resOf, zap]; simp [resV, twoA]⟩
end R
end Ev
end Go.Proofs.YtlkhjnpflohfeaaDoor

/- Is a cut too heavy for the laws that compare? -/
namespace Go.Proofs.YtlkhjnpflohfeaaDoor
open Go
namespace Ev
namespace R
set_option maxRecDepth 100000
def HeavyC (call : CallF) (A : Api) : Prop := ∀ (H : List AB) (a b k l m : Int) (r : List (Int × Int)) (bs : List Boat) (ls : List Look) (q : Int), call (.fn (.func 12) [] []) [.agg [.int .i64 a, .int .i64 b, .int .i64 k, .int .i64 l, .vs 2 (r.map spanE), .int .i64 m, .vs 4 (bs.map boatE), .vs 3 (ls.map lookE)], .int .i64 q] H =
  some (.ret (.bool (A.far ⟨(a, b), (k, l), r, m, bs, ls⟩ || (A.valid ⟨(a, b), (k, l), r, m, bs, ls⟩ && decide (q < m)))), H, [])
theorem zvv (C : Cfg) (call : CallF) (A : Api) (H : List AB) (a b k l m : Int) (r : List (Int × Int)) (bs : List Boat) (ls : List Look) (q : Int) (h1 : ∀ H, call (.fn (.func 34) [] []) [.agg [.int .i64 a, .int .i64 b, .int .i64 k, .int .i64 l, .vs 2 (r.map spanE), .int .i64 m, .vs 4 (bs.map boatE), .vs 3 (ls.map lookE)]] H = some (.ret (.bool (A.far ⟨(a, b), (k, l), r, m, bs, ls⟩)), H, [])) (h2 : ∀ H, call (.fn (.func 35) [] []) [.agg [.int .i64 a, .int .i64 b, .int .i64 k, .int .i64 l, .vs 2 (r.map spanE), .int .i64 m, .vs 4 (bs.map boatE), .vs 3 (ls.map lookE)]] H = some (.ret (.bool (A.valid ⟨(a, b), (k, l), r, m, bs, ls⟩)), H, [])) :
    Does (ev C call H.length none af12.body { tm := tmA 17 (zipI 0 [.agg [.int .i64 a, .int .i64 b, .int .i64 k, .int .i64 l, .vs 2 (r.map spanE), .int .i64 m, .vs 4 (bs.map boatE), .vs 3 (ls.map lookE)], .int .i64 q] []), df := [], hp := H, tc := [] }) (Gives 4 (.bool (A.far ⟨(a, b), (k, l), r, m, bs, ls⟩ || (A.valid ⟨(a, b), (k, l), r, m, bs, ls⟩ && decide (q < m))))) := by
  generalize (⟨(a, b), (k, l), r, m, bs, ls⟩ : CutD) = c at *
  cases hf : A.far c <;> rw [hf] at h1 <;> clear hf
  · cases hv : A.valid c <;> rw [hv] at h2 <;> clear hv
    · unfold af12
      simp only [zipI]
      (repeat (first | (with_reducible apply zal; (focus ((conv => lhs; simp [ev1, wantG, spineK, spine, float, xnew, xval, xeff, zaa, zab, zaq, zaf, zag, addFl, cellsOf, pickC, alive, slLen, slFt, binI, maxA, maxK, minA, minK, aeqK, aeqS, AV.cells, zac, boatE, spanE, lookE, fillA, setAt, bitsI, nat_nn, AV.plain, apart, Nat.testBit_eq_decide_div_mod_eq, *]) <;> exact rfl)); simp only [addFl]) | ((with_reducible first | refine zam ?_ | refine zao ?_ | refine zak ?_ | refine zai ?_ | refine zae ?_ | refine zan ?_ | refine zaj ?_ | refine zar ?_ | (apply zah; (focus (simp [zaa, *]; done))) | (with_reducible apply zad; (focus (simp [zaa, *]; done)))); try simp only [Then, Ops])))
      exact ⟨by first | trivial | rfl, by first | trivial | rfl, by first | trivial | rfl, by simp only [zap]; simp⟩
    · unfold af12
      simp only [zipI]
      (repeat (first | (with_reducible apply zal; (focus ((conv => lhs; simp [ev1, wantG, spineK, spine, float, xnew, xval, xeff, zaa, zab, zaq, zaf, zag, addFl, cellsOf, pickC, alive, slLen, slFt, binI, maxA, maxK, minA, minK, aeqK, aeqS, AV.cells, zac, boatE, spanE, lookE, fillA, setAt, bitsI, nat_nn, AV.plain, apart, Nat.testBit_eq_decide_div_mod_eq, *]) <;> exact rfl)); simp only [addFl]) | ((with_reducible first | refine zam ?_ | refine zao ?_ | refine zak ?_ | refine zai ?_ | refine zae ?_ | refine zan ?_ | refine zaj ?_ | refine zar ?_ | (apply zah; (focus (simp [zaa, *]; done))) | (with_reducible apply zad; (focus (simp [zaa, *]; done)))); try simp only [Then, Ops])))
      exact ⟨by first | trivial | rfl, by first | trivial | rfl, by first | trivial | rfl, by simp only [zap]; simp⟩
  · unfold af12
    simp only [zipI]
    (repeat (first | (with_reducible apply zal; (focus ((conv => lhs; simp [ev1, wantG, spineK, spine, float, xnew, xval, xeff, zaa, zab, zaq, zaf, zag, addFl, cellsOf, pickC, alive, slLen, slFt, binI, maxA, maxK, minA, minK, aeqK, aeqS, AV.cells, zac, boatE, spanE, lookE, fillA, setAt, bitsI, nat_nn, AV.plain, apart, Nat.testBit_eq_decide_div_mod_eq, *]) <;> exact rfl)); simp only [addFl]) | ((with_reducible first | refine zam ?_ | refine zao ?_ | refine zak ?_ | refine zai ?_ | refine zae ?_ | refine zan ?_ | refine zaj ?_ | refine zar ?_ | (apply zah; (focus (simp [zaa, *]; done))) | (with_reducible apply zad; (focus (simp [zaa, *]; done)))); try simp only [Then, Ops])))
    exact ⟨by first | trivial | rfl, by first | trivial | rfl, by first | trivial | rfl, by simp only [zap]; simp⟩
end R
end Ev
end Go.Proofs.YtlkhjnpflohfeaaDoor

/- The law CutLooks, gone through. -/
namespace Go.Proofs.YtlkhjnpflohfeaaDoor
open Go
namespace Ev
namespace R
set_option maxRecDepth 100000
structure ApiL (call : CallF) (A : Api) : Prop where
  days : ∀ {H v c}, cutOf H v = some c → ∀ b n, call (.fn (.func 22) [] []) [v, .int .i64 b, .int .i64 n] H = some (.ret (three (A.days c b n)), H, [])
  wait : ∀ {H v c}, cutOf H v = some c → ∀ b n d, call (.fn (.func 24) [] []) [v, .int .i64 b, .int .i64 n, .int .i64 d] H = some (.ret (twoA (A.wait c b n d)), H, [])
  together : ∀ {H v c}, cutOf H v = some c → ∀ d, call (.fn (.func 26) [] []) [v, .int .i64 d] H = some (.ret (twoA (A.together c d)), H, [])
  clash : ∀ {H v c}, cutOf H v = some c → call (.fn (.func 28) [] []) [v] H = some (.ret (twoA (A.clash c)), H, [])
  awake : ∀ {H}, call (.fn (.func 13) [] []) [] H = some (.ret (.bool true), H, [])
structure RefOkL (call : CallF) (A : Api) : Prop where
  days : ∀ (H : List AB) (a b k l m : Int) (r : List (Int × Int)) (bs : List Boat) (ls : List Look), bs.length ≤ 40 → ∀ o n : Int, call (.fn (.func 23) [] []) [.agg [.int .i64 a, .int .i64 b, .int .i64 k, .int .i64 l, .vs 2 (r.map spanE), .int .i64 m, .vs 4 (bs.map boatE), .vs 3 (ls.map lookE)], .int .i64 o, .int .i64 n] H = some (.ret (three (A.days ⟨(a, b), (k, l), r, m, bs, ls⟩ o n)), H, [])
  wait : ∀ (H : List AB) (a b k l m : Int) (r : List (Int × Int)) (bs : List Boat) (ls : List Look), bs.length ≤ 40 → ∀ o n d : Int, call (.fn (.func 25) [] []) [.agg [.int .i64 a, .int .i64 b, .int .i64 k, .int .i64 l, .vs 2 (r.map spanE), .int .i64 m, .vs 4 (bs.map boatE), .vs 3 (ls.map lookE)], .int .i64 o, .int .i64 n, .int .i64 d] H = some (.ret (twoA (A.wait ⟨(a, b), (k, l), r, m, bs, ls⟩ o n d)), H, [])
  together : ∀ (H : List AB) (a b k l m : Int) (r : List (Int × Int)) (bs : List Boat) (ls : List Look), bs.length ≤ 40 → ∀ d : Int, call (.fn (.func 27) [] []) [.agg [.int .i64 a, .int .i64 b, .int .i64 k, .int .i64 l, .vs 2 (r.map spanE), .int .i64 m, .vs 4 (bs.map boatE), .vs 3 (ls.map lookE)], .int .i64 d] H = some (.ret (twoA (A.together ⟨(a, b), (k, l), r, m, bs, ls⟩ d)), H, [])
  clash : ∀ (H : List AB) (a b k l m : Int) (r : List (Int × Int)) (bs : List Boat) (ls : List Look), bs.length ≤ 40 → call (.fn (.func 29) [] []) [.agg [.int .i64 a, .int .i64 b, .int .i64 k, .int .i64 l, .vs 2 (r.map spanE), .int .i64 m, .vs 4 (bs.map boatE), .vs 3 (ls.map lookE)]] H = some (.ret (twoA (A.clash ⟨(a, b), (k, l), r, m, bs, ls⟩)), H, [])
set_option maxHeartbeats 8000000 in
theorem looks_main (C : Cfg) (call : CallF) (A : Api) (hA : ApiL call A) (hH : HeavyC call A) (hR : RefOkL call A) (a b k l m : Int) (r : List (Int × Int)) (bs : List Boat) (ls : List Look) (hfar : A.far ⟨(a, b), (k, l), r, m, bs, ls⟩ = false → bs.length ≤ 40) (o n d : Int) :
    Does (ev C call 0 none af4.body { tm := tmA 130 (zipI 0 [.agg [.int .i64 a, .int .i64 b, .int .i64 k, .int .i64 l, .vs 2 (r.map spanE), .int .i64 m, .vs 4 (bs.map boatE), .vs 3 (ls.map lookE)], .int .i64 o, .int .i64 n, .int .i64 d] []), df := [], hp := [], tc := [] }) (Yes 8) := by
  have h0 := fun H => hH H a b k l m r bs ls 20
  have h9 := fun H => hA.awake (H := H)
  cases hh : (A.far ⟨(a, b), (k, l), r, m, bs, ls⟩ || (A.valid ⟨(a, b), (k, l), r, m, bs, ls⟩ && decide (20 < m))) with
  | true =>
    rw [hh] at h0
    clear hA hH hR hfar hh
    unfold af4
    simp only [zipI]
    (repeat (first | (with_reducible apply zal; (focus ((conv => lhs; simp [ev1, wantG, spineK, spine, float, xnew, xval, xeff, zaa, zab, zaq, zaf, zag, addFl, cellsOf, pickC, alive, slLen, slFt, binI, maxA, maxK, minA, minK, aeqK, aeqS, AV.cells, zac, boatE, spanE, lookE, fillA, setAt, bitsI, nat_nn, AV.plain, apart, Nat.testBit_eq_decide_div_mod_eq, *]) <;> exact rfl)); simp only [addFl]) | ((with_reducible first | refine zam ?_ | refine zao ?_ | refine zak ?_ | refine zai ?_ | refine zae ?_ | refine zan ?_ | refine zaj ?_ | refine zar ?_ | (apply zah; (focus (simp [zaa, *]; done))) | (with_reducible apply zad; (focus (simp [zaa, *]; done)))); try simp only [Then, Ops])))
    exact ⟨by first | trivial | rfl, by first | trivial | rfl, by simp only [zap]; simp⟩
  | false =>
    rw [hh] at h0
    have h40 := hfar (by rw [Bool.or_eq_false_iff] at hh; exact hh.1)
    have h1 := fun H => hA.days (zfe H a b k l m r bs ls) o n
    have h2 := fun H => hR.days H a b k l m r bs ls h40 o n
    have h3 := fun H => hA.wait (zfe H a b k l m r bs ls) o n d
    have h4 := fun H => hR.wait H a b k l m r bs ls h40 o n d
    have h5 := fun H => hA.together (zfe H a b k l m r bs ls) d
    have h6 := fun H => hR.together H a b k l m r bs ls h40 d
    have h7 := fun H => hA.clash (zfe H a b k l m r bs ls)
    have h8 := fun H => hR.clash H a b k l m r bs ls h40
    clear hA hH hR hfar hh h40
    generalize (⟨(a, b), (k, l), r, m, bs, ls⟩ : CutD) = c at *
    generalize A.days c o n = x1 at *
    generalize A.wait c o n d = x2 at *
    generalize A.together c d = x3 at *
    generalize A.clash c = x4 at *
    unfold twoA at h3 h4 h5 h6 h7 h8
    unfold three at h1 h2
    unfold af4
    simp only [zipI]
    (repeat (first | (with_reducible apply zal; (focus ((conv => lhs; simp [ev1, wantG, spineK, spine, float, xnew, xval, xeff, zaa, zab, zaq, zaf, zag, addFl, cellsOf, pickC, alive, slLen, slFt, binI, maxA, maxK, minA, minK, aeqK, aeqS, AV.cells, zac, boatE, spanE, lookE, fillA, setAt, bitsI, nat_nn, AV.plain, apart, Nat.testBit_eq_decide_div_mod_eq, *]) <;> exact rfl)); simp only [addFl]) | ((with_reducible first | refine zam ?_ | refine zao ?_ | refine zak ?_ | refine zai ?_ | refine zae ?_ | refine zan ?_ | refine zaj ?_ | refine zar ?_ | (apply zah; (focus (simp [zaa, *]; done))) | (with_reducible apply zad; (focus (simp [zaa, *]; done)))); try simp only [Then, Ops])))
    exact ⟨by first | trivial | rfl, by first | trivial | rfl, by simp only [zap]; simp⟩
end R
end Ev
end Go.Proofs.YtlkhjnpflohfeaaDoor
