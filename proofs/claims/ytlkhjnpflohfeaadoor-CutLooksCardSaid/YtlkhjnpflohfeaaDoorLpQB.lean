/- The reference of chapter 06: on which days a boat floats, until when it lies, and how many loads all can have, as calls. -/
import Derived.Test.YtlkhjnpflohfeaaDoorLpQA
import Derived.Test.YtlkhjnpflohfeaaDoorLpPD
/- The reference of chapter 06, gone through: the depths of a day, by those of the day after. -/
namespace Go.Proofs.YtlkhjnpflohfeaaDoor
open Go
namespace Ev
namespace R
set_option maxRecDepth 100000
def mixC (mn : Nat) (F O : Nat → Bool) (n : Nat) : List AV := (List.range (mn + 1)).map fun i => .bool (if i < n then F i else O i)
theorem zgi (mn : Nat) (F O : Nat → Bool) (n : Nat) : (mixC mn F O n).length = mn + 1 := by simp [mixC]
theorem zlx (mn : Nat) (F O : Nat → Bool) (n i : Nat) (h : i ≤ mn) : (mixC mn F O n)[i]? = some (.bool (if i < n then F i else O i)) := by
  unfold mixC
  rw [List.getElem?_map, List.getElem?_range (by omega)]; rfl
theorem mixC_set (mn : Nat) (F O : Nat → Bool) (n : Nat) (h : n ≤ mn) : (mixC mn F O n).take n ++ .bool (F n) :: (mixC mn F O n).drop (n + 1) = mixC mn F O (n + 1) := by
  have e : (mixC mn F O n).take n ++ .bool (F n) :: (mixC mn F O n).drop (n + 1) = (mixC mn F O n).set n (.bool (F n)) := by
    rw [List.set_eq_take_append_cons_drop, if_pos (by rw [zgi]; omega)]
  rw [e]
  apply List.ext_getElem?
  intro i
  by_cases hi : i ≤ mn
  · rw [zlx mn F O (n + 1) i hi]
    by_cases hin : n = i
    · subst hin
      rw [List.getElem?_set_self (by rw [zgi]; omega), if_pos (by omega)]
    · rw [List.getElem?_set_ne hin, zlx mn F O n i hi]
      by_cases h1 : i < n
      · rw [if_pos h1, if_pos (by omega)]
      · rw [if_neg h1, if_neg (by omega)]
  · rw [List.getElem?_eq_none (by simp [zgi]; omega), List.getElem?_eq_none (by simp [zgi]; omega)]
theorem zvd (mn : Nat) (F O : Nat → Bool) : mixC mn F O (mn + 1) = (List.range (mn + 1)).map fun i => .bool (F i) := by
  unfold mixC
  apply List.map_congr_left
  intro i hi
  rw [List.mem_range] at hi
  rw [if_pos hi]
theorem zvc (mn : Nat) (F O : Nat → Bool) : mixC mn F O 0 = (List.range (mn + 1)).map fun i => .bool (O i) := by
  unfold mixC
  apply List.map_congr_left
  intro i hi
  rw [if_neg (by omega)]
noncomputable def bakB (x : CutD) (lk : Int) (mn d : Nat) (fa fn : Nat → Bool) (u : Nat) : Bool := fa u && ontoB x lk d u fn (mn + 1)
set_option maxHeartbeats 8000000 in
theorem d8 (C : Cfg) (hC : C.calm = true) (call : CallF) (hG : GoesC call) (a b k l : Int) (mn : Nat) (r : List (Int × Int)) (bs : List Boat) (ls : List Look) (V : Cut.Valid ⟨(a, b), (k, l), r, mn, bs, ls⟩) (lkv : Int) (lk0 : 0 ≤ lkv) (lk1 : lkv ≤ 10)
    (G : List AB) (B rr : Nat) (gB : G[B]? = some (.cells [.int .i64 a, .int .i64 b, .int .i64 k, .int .i64 l, .vs 2 (r.map spanE), .int .i64 mn, .vs 4 (bs.map boatE), .vs 3 (ls.map lookE)])) (L : List (Nat × AV)) (tc : List Nat) (pin : Nat) (hpin : pin ≤ rr)
    (d : Nat) (hd : d < r.length) (fa fn : Nat → Bool) (ob rb : Nat) (oc bc : List AV) (hBr : B ≠ rr) (hOr : ob ≠ rr) (hSr : rb ≠ rr)
    (gO : G[ob]? = some (.cells oc)) (ho1 : oc[d]? = some (.sl rr 0 (mn + 1) 1)) (ho2 : oc[d + 1]? = some (.sl rb 0 (mn + 1) 1)) (gR : G[rr]? = some (.cells ((List.range (mn + 1)).map fun i => .bool (fa i)))) (gS : G[rb]? = some (.cells bc)) (hbc : ∀ i, i ≤ mn → bc[i]? = some (.bool (fn i)))
    (l2 : lk 162 L 2 = .int .i64 lkv) (l3 : lk 162 L 3 = .ptr B 0) (l7 : lk 162 L 7 = .sl ob 0 (r.length + 1) 1) (l13 : lk 162 L 13 = .int .i64 d) (l14 : lk 162 L 14 = .int .i64 0) :
    Does (ev C call pin none (atP [1, 1, 1, 0, 1, 0, 0, 1, 0, 0, 1, 0] af95.body) { tm := tmA 162 L, df := [], hp := G, tc := tc })
      (fun e st => e = .exit 8 ∧ ∃ L', lk 162 L' 2 = .int .i64 lkv ∧ lk 162 L' 3 = .ptr B 0 ∧ lk 162 L' 7 = .sl ob 0 (r.length + 1) 1 ∧ lk 162 L' 13 = .int .i64 d ∧
        st = { tm := tmA 162 L', df := [], hp := G.set rr (.cells ((List.range (mn + 1)).map fun i => .bool (bakB ⟨(a, b), (k, l), r, mn, bs, ls⟩ lkv mn d fa fn i))), tc := tc }) := by
  have m100 : (mn : Int) ≤ 100 := V.m100
  have n8 : r.length ≤ 8 := V.n8
  obtain ⟨nB, eB⟩ := List.getElem?_eq_some_iff.1 gB
  obtain ⟨nO, eO⟩ := List.getElem?_eq_some_iff.1 gO
  obtain ⟨nR, -⟩ := List.getElem?_eq_some_iff.1 gR
  have h10 := fun (u : Nat) (hu : u ≤ mn) (ac : List AV) (hac : ac[u]? = some (.bool (fa u))) L => d10 C hC call hG a b k l mn r bs ls V lkv lk0 lk1 (G.set rr (.cells ac)) B (by rw [List.getElem?_set_ne (Ne.symm hBr)]; exact gB) L tc pin d u hd hu (fa u) fn ob rr rb oc ac bc
    (by rw [List.getElem?_set_ne (Ne.symm hOr)]; exact gO) ho1 ho2 (List.getElem?_set_self nR) hac (by rw [List.getElem?_set_ne (Ne.symm hSr)]; exact gS) hbc
  simp only [af95, atP] at h10
  have hFn : ∀ u : Nat, bakB ⟨(a, b), (k, l), r, mn, bs, ls⟩ lkv mn d fa fn u = (fa u && ontoB ⟨(a, b), (k, l), r, mn, bs, ls⟩ lkv d u fn (mn + 1)) := fun u => rfl
  generalize hcd : (⟨(a, b), (k, l), r, mn, bs, ls⟩ : CutD) = c at *
  have hBr' : ¬ rr = B := Ne.symm hBr
  have hBr'' : ¬ B = rr := hBr
  have hOr' : ¬ rr = ob := Ne.symm hOr
  have hOr'' : ¬ ob = rr := hOr
  generalize bakB c lkv mn d fa fn = F at *
  simp only [af95, atP]
  refine zbf (fun q st => ∃ (n : Nat), n + q = mn + 1 ∧ st = { tm := tmA 162 [(14, .int .i64 n), (13, .int .i64 d), (7, .sl ob 0 (r.length + 1) 1), (3, .ptr B 0), (2, .int .i64 lkv)], df := [], hp := G.set rr (.cells (mixC mn F fa n)), tc := tc }) (mn + 1) (by unfold fuelL; omega) ?_ ?_
  · refine ⟨0, by omega, ?_⟩
    simp only [zat hC]
    exact st_eq (by simp [zas, *]) rfl (by rw [zvc]; exact (zqt gR).symm) rfl
  · rintro q st ⟨n, hq, rfl⟩
    clear l2 l3 l7 l13 l14 gR
    by_cases hn : n ≤ mn
    · have hw : IntKind.i64.wrap ((n : Int) + 1) = (n : Int) + 1 := zbb (by omega) (by omega)
      have hset := mixC_set mn F fa n hn
      have hlen := zgi mn F fa n
      have hn1 : n + 1 ≤ mn + 1 := by omega
      have hn2 : (n : Int) < (mn : Int) + 1 := by omega
      have hn3 : n < mn + 1 := by omega
      have hd2 : (d : Int) < (r.length : Int) + 1 := by omega
      have hpin' : ¬ rr < pin := by omega
      have hac : (mixC mn F fa n)[n]? = some (.bool (fa n)) := by rw [zlx mn F fa n n hn, if_neg (by omega)]
      have HD := hideP (h10 n hn _ hac)
      have HQ := hideP (And.intro hq (hFn n))
      generalize mixC mn F fa n = rw0 at *
      clear h10 hFn hq hG V hcd m100 hac hbc ho2 gS
      (repeat (first | (with_reducible apply zal; (focus ((conv => lhs; simp [ev1, wantG, spineK, spine, float, xnew, xval, xeff, zaa, zab, zaq, zaf, zag, addFl, cellsOf, pickC, alive, slLen, slFt, binI, maxA, maxK, minA, minK, aeqK, aeqS, AV.cells, zac, boatE, spanE, lookE, fillA, setAt, bitsI, nat_nn, AV.plain, apart, Nat.testBit_eq_decide_div_mod_eq, *]) <;> exact rfl)); simp only [addFl]) | ((with_reducible first | refine zam ?_ | refine zao ?_ | refine zak ?_ | refine zai ?_ | refine zae ?_ | refine zan ?_ | refine zaj ?_ | refine zar ?_ | (apply zah; (focus (simp [zaa, *]; done))) | (with_reducible apply zad; (focus (simp [zaa, *]; done)))); try simp only [Then, Ops])))
      refine Does.mono (HD.out _ ?_ ?_ ?_ ?_ ?_ ?_ ?_) ?_
      iterate 7 (focus (simp [zau]; done))
      rintro e1 st ⟨rfl, L', k2, k3, k7, k13, k14, k15, rfl⟩
      rw [← HQ.out.2] at k15
      have u7 := fun C => (lk_val C 162 L' 7).trans k7
      have u13 := fun C => (lk_val C 162 L' 13).trans k13
      have u14 := fun C => (lk_val C 162 L' 14).trans k14
      have u15 := fun C => (lk_val C 162 L' 15).trans k15
      simp only [OutB, Then, reduceIte]
      (repeat (first | (with_reducible apply zal; (focus ((conv => lhs; simp [ev1, wantG, spineK, spine, float, xnew, xval, xeff, zaa, zab, zaq, zaf, zag, addFl, cellsOf, pickC, alive, slLen, slFt, binI, maxA, maxK, minA, minK, aeqK, aeqS, AV.cells, zac, boatE, spanE, lookE, fillA, setAt, bitsI, nat_nn, AV.plain, apart, Nat.testBit_eq_decide_div_mod_eq, *]) <;> exact rfl)); simp only [addFl]) | ((with_reducible first | refine zam ?_ | refine zao ?_ | refine zak ?_ | refine zai ?_ | refine zae ?_ | refine zan ?_ | refine zaj ?_ | refine zar ?_ | (apply zah; (focus (simp [zaa, *]; done))) | (with_reducible apply zad; (focus (simp [zaa, *]; done)))); try simp only [Then, Ops, OutB])))
      have hq := HQ.out.1
      refine ⟨q - 1, by omega, n + 1, by omega, ?_⟩
      simp only [zat hC]
      exact st_eq (by simp [zas, zau, *]) rfl (by simp) rfl
    · obtain rfl : n = mn + 1 := by omega
      have hx : ¬ ((mn : Int) + 1 ≤ mn) := by omega
      rw [zvd]
      clear h10 hFn hq hG V hbc
      (repeat (first | (with_reducible apply zal; (focus ((conv => lhs; simp [ev1, wantG, spineK, spine, float, xnew, xval, xeff, zaa, zab, zaq, zaf, zag, addFl, cellsOf, pickC, alive, slLen, slFt, binI, maxA, maxK, minA, minK, aeqK, aeqS, AV.cells, zac, boatE, spanE, lookE, fillA, setAt, bitsI, nat_nn, AV.plain, apart, Nat.testBit_eq_decide_div_mod_eq, *]) <;> exact rfl)); simp only [addFl]) | ((with_reducible first | refine zam ?_ | refine zao ?_ | refine zak ?_ | refine zai ?_ | refine zae ?_ | refine zan ?_ | refine zaj ?_ | refine zar ?_ | (apply zah; (focus (simp [zaa, *]; done))) | (with_reducible apply zad; (focus (simp [zaa, *]; done)))); try simp only [Then, Ops])))
      refine ⟨by first | trivial | rfl, ?_⟩
      apply Exists.intro
      refine ⟨?_, ?_, ?_, ?_, rfl⟩ <;> simp [zau]
end R
end Ev
end Go.Proofs.YtlkhjnpflohfeaaDoor

/- The reference of chapter 06, gone through: the depths of all days. -/
namespace Go.Proofs.YtlkhjnpflohfeaaDoor
open Go
namespace Ev
namespace R
set_option maxRecDepth 100000
noncomputable def tab (x : CutD) (lk : Int) (s mn : Nat) : Nat → Nat → Nat → Bool
  | 0 => fwd x lk s mn
  | j + 1 => fun e => if e = x.rain.length - 1 - j then bakB x lk mn e (tab x lk s mn j e) (tab x lk s mn j (e + 1)) else tab x lk s mn j e
theorem Rows.set {G : List AB} {W ob n mn : Nat} {rb : Nat → Nat} {f : Nat → Nat → Bool} (h : Rows G W ob n mn rb f) {d : Nat} (hd : d < n) (g : Nat → Bool) : Rows (G.set (rb d) (.cells ((List.range (mn + 1)).map fun i => .bool (g i)))) W ob n mn rb (fun e => if e = d then g else f e) := by
  refine ⟨?_, ?_, h.inj, h.ne, h.low⟩
  · rw [List.getElem?_set_ne (h.ne d hd).1]; exact h.out
  · intro e he
    by_cases hed : e = d
    · subst hed
      simp only [if_true]
      exact List.getElem?_set_self (List.getElem?_eq_some_iff.1 (h.row e he)).1
    · simp only [if_neg hed]
      rw [List.getElem?_set_ne (fun hh => hed (h.inj e d he hd hh.symm))]
      exact h.row e he
set_option maxHeartbeats 8000000 in
theorem d6 (C : Cfg) (hC : C.calm = true) (call : CallF) (hG : GoesC call) (a b k l : Int) (mn : Nat) (r : List (Int × Int)) (bs : List Boat) (ls : List Look) (V : Cut.Valid ⟨(a, b), (k, l), r, mn, bs, ls⟩) (lkv : Int) (lk0 : 0 ≤ lkv) (lk1 : lkv ≤ 10) (s : Nat)
    (Hp G0 : List AB) (B ob : Nat) (rb : Nat → Nat) (hW : Hp.length = B + 1) (hB : Hp[B]? = some (.cells [.int .i64 a, .int .i64 b, .int .i64 k, .int .i64 l, .vs 2 (r.map spanE), .int .i64 mn, .vs 4 (bs.map boatE), .vs 3 (ls.map lookE)])) (hP : Pre Hp G0) (hR : Rows G0 Hp.length ob (r.length + 1) mn rb (fwd ⟨(a, b), (k, l), r, mn, bs, ls⟩ lkv s mn)) (L : List (Nat × AV)) (tc : List Nat) (pin : Nat) (hpin : pin ≤ B)
    (l2 : lk 162 L 2 = .int .i64 lkv) (l3 : lk 162 L 3 = .ptr B 0) (l7 : lk 162 L 7 = .sl ob 0 (r.length + 1) 1) (l13 : lk 162 L 13 = .int .i64 ((r.length : Int) - 1)) :
    Does (ev C call pin none (atP [1, 1, 1, 0, 1, 0] af95.body) { tm := tmA 162 L, df := [], hp := G0, tc := tc })
      (fun e st => e = .exit 6 ∧ ∃ L' G, lk 162 L' 3 = .ptr B 0 ∧ lk 162 L' 7 = .sl ob 0 (r.length + 1) 1 ∧ Pre Hp G ∧ Rows G Hp.length ob (r.length + 1) mn rb (tab ⟨(a, b), (k, l), r, mn, bs, ls⟩ lkv s mn r.length) ∧
        st = { tm := tmA 162 L', df := [], hp := G, tc := tc }) := by
  have n8 : r.length ≤ 8 := V.n8
  have htab : ∀ j, tab ⟨(a, b), (k, l), r, mn, bs, ls⟩ lkv s mn (j + 1) = fun e => if e = r.length - 1 - j then bakB ⟨(a, b), (k, l), r, mn, bs, ls⟩ lkv mn e (tab ⟨(a, b), (k, l), r, mn, bs, ls⟩ lkv s mn j e) (tab ⟨(a, b), (k, l), r, mn, bs, ls⟩ lkv s mn j (e + 1)) else tab ⟨(a, b), (k, l), r, mn, bs, ls⟩ lkv s mn j e := fun j => rfl
  have htab0 : tab ⟨(a, b), (k, l), r, mn, bs, ls⟩ lkv s mn 0 = fwd ⟨(a, b), (k, l), r, mn, bs, ls⟩ lkv s mn := rfl
  have h8 := fun (G : List AB) (hPG : Pre Hp G) (f : Nat → Nat → Bool) (h : Rows G Hp.length ob (r.length + 1) mn rb f) (d : Nat) (hd : d < r.length) L => d8 C hC call hG a b k l mn r bs ls V lkv lk0 lk1 G B (rb d) (hPG.get hB) L tc pin (by have := (h.ne d (by omega)).2; omega) d hd (f d) (f (d + 1)) ob (rb (d + 1)) _ _
    (by have := (h.ne d (by omega)).2; omega) (Ne.symm (h.ne d (by omega)).1) (fun hh => by have := h.inj _ _ (by omega) (by omega) hh; omega) h.out (by rw [List.getElem?_map, List.getElem?_range (by omega)]; rfl) (by rw [List.getElem?_map, List.getElem?_range (by omega)]; rfl) (h.row d (by omega)) (h.row (d + 1) (by omega)) (fun i hi => by rw [List.getElem?_map, List.getElem?_range (by omega)]; rfl)
  simp only [af95, atP] at h8
  generalize hcd : (⟨(a, b), (k, l), r, mn, bs, ls⟩ : CutD) = c at *
  simp only [af95, atP]
  refine zbf (fun q st => ∃ (j : Nat) (G : List AB), j + q = r.length ∧ Pre Hp G ∧ Rows G Hp.length ob (r.length + 1) mn rb (tab c lkv s mn j) ∧ st = { tm := tmA 162 [(13, .int .i64 ((r.length : Int) - 1 - j)), (7, .sl ob 0 (r.length + 1) 1), (3, .ptr B 0), (2, .int .i64 lkv)], df := [], hp := G, tc := tc }) r.length (by unfold fuelL; omega) ?_ ?_
  · refine ⟨0, G0, by omega, hP, by rw [htab0]; exact hR, ?_⟩
    simp only [zat hC]
    exact st_eq (by simp [zas, *]) rfl rfl rfl
  · rintro q st ⟨j, G, hq, hPG, hRG, rfl⟩
    clear l2 l3 l7 l13 hP hR htab0
    by_cases hj : j < r.length
    · have hd : r.length - 1 - j < r.length := by omega
      have hdi : ((r.length : Int) - 1 - j) = ((r.length - 1 - j : Nat) : Int) := by omega
      have hw : IntKind.i64.wrap (((r.length - 1 - j : Nat) : Int) - 1) = (r.length : Int) - 1 - ((j + 1 : Nat) : Int) := by rw [zbb (by omega) (by omega)]; omega
      have HD := hideP (h8 G hPG _ hRG _ hd)
      have HN := hideP (hRG.set (d := r.length - 1 - j) (by omega) (bakB c lkv mn (r.length - 1 - j) (tab c lkv s mn j (r.length - 1 - j)) (tab c lkv s mn j (r.length - 1 - j + 1))))
      have hlow := (hRG.ne (r.length - 1 - j) (by omega)).2
      have HQ := hideP (And.intro hq (And.intro hPG (And.intro hlow (htab j))))
      rw [hdi]
      clear h8 htab hq hPG hRG hlow hdi V hG hcd
      generalize hdd : r.length - 1 - j = d at *
      (repeat (first | (with_reducible apply zal; (focus ((conv => lhs; simp [ev1, wantG, spineK, spine, float, xnew, xval, xeff, zaa, zab, zaq, zaf, zag, addFl, cellsOf, pickC, alive, slLen, slFt, binI, maxA, maxK, minA, minK, aeqK, aeqS, AV.cells, zac, boatE, spanE, lookE, fillA, setAt, bitsI, nat_nn, AV.plain, apart, Nat.testBit_eq_decide_div_mod_eq, *]) <;> exact rfl)); simp only [addFl]) | ((with_reducible first | refine zam ?_ | refine zao ?_ | refine zak ?_ | refine zai ?_ | refine zae ?_ | refine zan ?_ | refine zaj ?_ | refine zar ?_ | (apply zah; (focus (simp [zaa, *]; done))) | (with_reducible apply zad; (focus (simp [zaa, *]; done)))); try simp only [Then, Ops])))
      refine Does.mono (HD.out _ ?_ ?_ ?_ ?_ ?_) ?_
      iterate 5 (focus (simp [zau]; done))
      rintro e1 st ⟨rfl, L', k2, k3, k7, k13, rfl⟩
      have u13 := fun C => (lk_val C 162 L' 13).trans k13
      simp only [OutB, Then, reduceIte]
      (repeat (first | (with_reducible apply zal; (focus ((conv => lhs; simp [ev1, wantG, spineK, spine, float, xnew, xval, xeff, zaa, zab, zaq, zaf, zag, addFl, cellsOf, pickC, alive, slLen, slFt, binI, maxA, maxK, minA, minK, aeqK, aeqS, AV.cells, zac, boatE, spanE, lookE, fillA, setAt, bitsI, nat_nn, AV.plain, apart, Nat.testBit_eq_decide_div_mod_eq, *]) <;> exact rfl)); simp only [addFl]) | ((with_reducible first | refine zam ?_ | refine zao ?_ | refine zak ?_ | refine zai ?_ | refine zae ?_ | refine zan ?_ | refine zaj ?_ | refine zar ?_ | (apply zah; (focus (simp [zaa, *]; done))) | (with_reducible apply zad; (focus (simp [zaa, *]; done)))); try simp only [Ops])))
      obtain ⟨hq, hPG, hlow, hT⟩ := HQ.out
      refine ⟨q - 1, by omega, j + 1, G.set (rb d) (.cells ((List.range (mn + 1)).map fun i => .bool (bakB c lkv mn d (tab c lkv s mn j d) (tab c lkv s mn j (d + 1)) i))), by omega, hPG.set hlow _, ?_, ?_⟩
      · rw [hT]
        have := HN.out
        have e : (fun e => if e = d then bakB c lkv mn e (tab c lkv s mn j e) (tab c lkv s mn j (e + 1)) else tab c lkv s mn j e) = (fun e => if e = d then bakB c lkv mn d (tab c lkv s mn j d) (tab c lkv s mn j (d + 1)) else tab c lkv s mn j e) := by
          funext e
          by_cases h : e = d
          · rw [if_pos h, if_pos h, h]
          · rw [if_neg h, if_neg h]
        rw [e]; exact this
      · simp only [zat hC]
        exact st_eq (by simp [zas, zau, *]) rfl rfl rfl
    · obtain rfl : j = r.length := by omega
      rw [show (r.length : Int) - 1 - r.length = -1 by omega]
      clear h8 htab hq hG V
      have HR := hideP hRG
      clear hRG
      (repeat (first | (with_reducible apply zal; (focus ((conv => lhs; simp [ev1, wantG, spineK, spine, float, xnew, xval, xeff, zaa, zab, zaq, zaf, zag, addFl, cellsOf, pickC, alive, slLen, slFt, binI, maxA, maxK, minA, minK, aeqK, aeqS, AV.cells, zac, boatE, spanE, lookE, fillA, setAt, bitsI, nat_nn, AV.plain, apart, Nat.testBit_eq_decide_div_mod_eq, *]) <;> exact rfl)); simp only [addFl]) | ((with_reducible first | refine zam ?_ | refine zao ?_ | refine zak ?_ | refine zai ?_ | refine zae ?_ | refine zan ?_ | refine zaj ?_ | refine zar ?_ | (apply zah; (focus (simp [zaa, *]; done))) | (with_reducible apply zad; (focus (simp [zaa, *]; done)))); try simp only [Then, Ops])))
      refine ⟨by first | trivial | rfl, ?_⟩
      apply Exists.intro
      refine ⟨G, ?_, ?_, hPG, HR.out, rfl⟩ <;> simp [zau]
noncomputable def someB (x : CutD) (lk : Int) (s mn : Nat) : Bool := (List.range (mn + 1)).any (tab x lk s mn x.rain.length 0)
set_option maxHeartbeats 8000000 in
theorem zsy (C : Cfg) (hC : C.calm = true) (call : CallF) (hG : GoesC call) (hI : InC call) (hF : FitsC call) (a b k l : Int) (mn : Nat) (r : List (Int × Int)) (bs : List Boat) (ls : List Look) (V : Cut.Valid ⟨(a, b), (k, l), r, mn, bs, ls⟩) (lkv : Int) (lk0 : 0 ≤ lkv) (lk1 : lkv ≤ 10) (s : Nat) (hs : s < 1048576) (H : List AB) :
    Does (ev C call H.length none af95.body { tm := tmA 162 (zipI 0 [.agg [.int .i64 a, .int .i64 b, .int .i64 k, .int .i64 l, .vs 2 (r.map spanE), .int .i64 mn, .vs 4 (bs.map boatE), .vs 3 (ls.map lookE)], .int .i64 s, .int .i64 lkv] []), df := [], hp := H, tc := [] })
      (fun e st => e = .ret ∧ st.df = [] ∧ st.tc = [] ∧ ((someB ⟨(a, b), (k, l), r, mn, bs, ls⟩ lkv s mn = true ∧ ∃ ob rb, st.tm.getD 6 .unk = .sl ob 0 (r.length + 1) 1 ∧ Pre (H ++ [.cells [.int .i64 a, .int .i64 b, .int .i64 k, .int .i64 l, .vs 2 (r.map spanE), .int .i64 mn, .vs 4 (bs.map boatE), .vs 3 (ls.map lookE)]]) st.hp ∧
        Rows st.hp (H.length + 1) ob (r.length + 1) mn rb (tab ⟨(a, b), (k, l), r, mn, bs, ls⟩ lkv s mn r.length)) ∨ (someB ⟨(a, b), (k, l), r, mn, bs, ls⟩ lkv s mn = false ∧ st.tm.getD 6 .unk = .nils))) := by
  have n8 : r.length ≤ 8 := V.n8
  have m100 : (mn : Int) ≤ 100 := V.m100
  have hB : (H ++ [.cells [.int .i64 a, .int .i64 b, .int .i64 k, .int .i64 l, .vs 2 (r.map spanE), .int .i64 mn, .vs 4 (bs.map boatE), .vs 3 (ls.map lookE)]])[H.length]? = some (AB.cells [.int .i64 a, .int .i64 b, .int .i64 k, .int .i64 l, .vs 2 (r.map spanE), .int .i64 mn, .vs 4 (bs.map boatE), .vs 3 (ls.map lookE)]) := by simp
  have hWl : (H ++ [AB.cells [.int .i64 a, .int .i64 b, .int .i64 k, .int .i64 l, .vs 2 (r.map spanE), .int .i64 mn, .vs 4 (bs.map boatE), .vs 3 (ls.map lookE)]]).length = H.length + 1 := by simp
  generalize hHp : H ++ [AB.cells [.int .i64 a, .int .i64 b, .int .i64 k, .int .i64 l, .vs 2 (r.map spanE), .int .i64 mn, .vs 4 (bs.map boatE), .vs 3 (ls.map lookE)]] = Hp at *
  have H0 := fun L => d0 C hC call hG hI hF a b k l mn r bs ls V lkv lk0 lk1 s hs Hp Hp H.length hWl hB ⟨[], by simp⟩ L [] H.length (Nat.le_refl _)
  have H6 := fun G0 ob rb hP hR L => d6 C hC call hG a b k l mn r bs ls V lkv lk0 lk1 s Hp G0 H.length ob rb hWl hB hP hR L [] H.length (Nat.le_refl _)
  simp only [af95, atP] at H0 H6
  have HS : someB ⟨(a, b), (k, l), r, mn, bs, ls⟩ lkv s mn = (List.range (mn + 1)).any (tab ⟨(a, b), (k, l), r, mn, bs, ls⟩ lkv s mn r.length 0) := rfl
  generalize someB ⟨(a, b), (k, l), r, mn, bs, ls⟩ lkv s mn = sb at *
  generalize hcd : (⟨(a, b), (k, l), r, mn, bs, ls⟩ : CutD) = c at *
  have H0' := hideP H0
  have H6' := hideP H6
  have HS' := hideP HS
  clear H0 H6 HS V hcd hG hI hF
  unfold af95
  simp only [zipI]
  (repeat (first | (with_reducible apply zal; (focus ((conv => lhs; simp [ev1, wantG, spineK, spine, float, xnew, xval, xeff, zaa, zab, zaq, zaf, zag, addFl, cellsOf, pickC, alive, slLen, slFt, binI, maxA, maxK, minA, minK, aeqK, aeqS, AV.cells, zac, boatE, spanE, lookE, fillA, setAt, bitsI, nat_nn, AV.plain, apart, Nat.testBit_eq_decide_div_mod_eq, *]) <;> exact rfl)); simp only [addFl]) | ((with_reducible first | refine zam ?_ | refine zao ?_ | refine zak ?_ | refine zai ?_ | refine zae ?_ | refine zan ?_ | refine zaj ?_ | refine zar ?_ | (apply zah; (focus (simp [zaa, *]; done))) | (with_reducible apply zad; (focus (simp [zaa, *]; done)))); try simp only [Then, Ops])))
  refine Does.mono (H0'.out _ ?_ ?_ ?_ ?_ ?_) ?_
  iterate 5 (focus (simp [zau]; done))
  rintro e1 st ⟨rfl, L1, G1, ob, rb, k2, k3, k7, hP1, hR1, rfl⟩
  have u3 := fun C => (lk_val C 162 L1 3).trans k3
  have u7 := fun C => (lk_val C 162 L1 7).trans k7
  have hw1 : IntKind.i64.wrap ((r.length : Int) - 1) = (r.length : Int) - 1 := zbb (by omega) (by omega)
  have gB := hP1.get hB
  obtain ⟨nB, eB⟩ := List.getElem?_eq_some_iff.1 gB
  have HR1 := hideP hR1
  have HP1 := hideP hP1
  clear hR1 hP1
  simp only [OutB, Then, reduceIte]
  (repeat (first | (with_reducible apply zal; (focus ((conv => lhs; simp [ev1, wantG, spineK, spine, float, xnew, xval, xeff, zaa, zab, zaq, zaf, zag, addFl, cellsOf, pickC, alive, slLen, slFt, binI, maxA, maxK, minA, minK, aeqK, aeqS, AV.cells, zac, boatE, spanE, lookE, fillA, setAt, bitsI, nat_nn, AV.plain, apart, Nat.testBit_eq_decide_div_mod_eq, *]) <;> exact rfl)); simp only [addFl]) | ((with_reducible first | refine zam ?_ | refine zao ?_ | refine zak ?_ | refine zai ?_ | refine zae ?_ | refine zan ?_ | refine zaj ?_ | refine zar ?_ | (apply zah; (focus (simp [zaa, *]; done))) | (with_reducible apply zad; (focus (simp [zaa, *]; done)))); try simp only [Then, Ops])))
  refine Does.mono (H6'.out G1 ob rb HP1.out HR1.out _ ?_ ?_ ?_ ?_) ?_
  iterate 4 (focus (simp [zau, *]; done))
  rintro e1 st ⟨rfl, L2, G2, k3', k7', hP2, hR2, rfl⟩
  clear u3 u7 k2 k3 k7 HR1 HP1 gB nB eB
  have u3 := fun C => (lk_val C 162 L2 3).trans k3'
  have u7 := fun C => (lk_val C 162 L2 7).trans k7'
  have gB := hP2.get hB
  obtain ⟨nB, eB⟩ := List.getElem?_eq_some_iff.1 gB
  have gO := hR2.out
  have gR := hR2.row 0 (by omega)
  obtain ⟨nO, eO⟩ := List.getElem?_eq_some_iff.1 gO
  obtain ⟨nR, eR⟩ := List.getElem?_eq_some_iff.1 gR
  have ho0 : ((List.range (r.length + 1)).map fun d => AV.sl (rb d) 0 (mn + 1) 1)[0]? = some (.sl (rb 0) 0 (mn + 1) 1) := by rw [List.getElem?_map, List.getElem?_range (by omega)]; rfl
  have hr0 : ∀ i, i ≤ mn → ((List.range (mn + 1)).map fun i => AV.bool (tab c lkv s mn r.length 0 i))[i]? = some (.bool (tab c lkv s mn r.length 0 i)) := fun i hi => by rw [List.getElem?_map, List.getElem?_range (by omega)]; rfl
  have HR2 := hideP hR2
  have HP2 := hideP hP2
  generalize ((List.range (r.length + 1)).map fun d => AV.sl (rb d) 0 (mn + 1) 1) = oc at *
  generalize ((List.range (mn + 1)).map fun i => AV.bool (tab c lkv s mn r.length 0 i)) = rc at *
  have HR0 := hideP hr0
  clear hR2 hP2 hr0
  simp only [OutB, Then, reduceIte]
  (repeat (first | (with_reducible apply zal; (focus ((conv => lhs; simp [ev1, wantG, spineK, spine, float, xnew, xval, xeff, zaa, zab, zaq, zaf, zag, addFl, cellsOf, pickC, alive, slLen, slFt, binI, maxA, maxK, minA, minK, aeqK, aeqS, AV.cells, zac, boatE, spanE, lookE, fillA, setAt, bitsI, nat_nn, AV.plain, apart, Nat.testBit_eq_decide_div_mod_eq, *]) <;> exact rfl)); simp only [addFl]) | ((with_reducible first | refine zam ?_ | refine zao ?_ | refine zak ?_ | refine zai ?_ | refine zae ?_ | refine zan ?_ | refine zaj ?_ | refine zar ?_ | (apply zah; (focus (simp [zaa, *]; done))) | (with_reducible apply zad; (focus (simp [zaa, *]; done)))); try simp only [Then, Ops])))
  refine zbf (fun q st => ∃ (i : Nat), i + q = mn + 1 ∧ (List.range i).any (tab c lkv s mn r.length 0) = false ∧ st = { tm := tmA 162 [(17, .int .i64 i), (7, .sl ob 0 (r.length + 1) 1), (3, .ptr H.length 0)], df := [], hp := G2, tc := [] }) (mn + 1) (by unfold fuelL; omega) ?_ ?_
  · refine ⟨0, by omega, by simp, ?_⟩
    simp only [zat hC]
    exact st_eq (by simp [zas, zau, *]) rfl rfl rfl
  · rintro q st ⟨i, hq, hany, rfl⟩
    clear u3 u7 k3' k7'
    by_cases hi : i ≤ mn
    · have hw : IntKind.i64.wrap ((i : Int) + 1) = (i : Int) + 1 := zbb (by omega) (by omega)
      have hi'' : (i : Int) < (mn : Int) + 1 := by omega
      have hr0 := HR0.out i hi
      have HQ := hideP (And.intro hq hany)
      have hne : (0 : Int) < (r.length : Int) + 1 := by omega
      clear hq hany
      have hnx := zmp (tab c lkv s mn r.length 0) i
      cases hb : tab c lkv s mn r.length 0 i with
      | true =>
        rw [hb] at hr0 hnx
        have hsb : sb = true := by rw [HS'.out]; exact zmo (i := i + 1) (by rw [hnx]; simp) (by omega)
        clear hb hnx
        (repeat (first | (with_reducible apply zal; (focus ((conv => lhs; simp [ev1, wantG, spineK, spine, float, xnew, xval, xeff, zaa, zab, zaq, zaf, zag, addFl, cellsOf, pickC, alive, slLen, slFt, binI, maxA, maxK, minA, minK, aeqK, aeqS, AV.cells, zac, boatE, spanE, lookE, fillA, setAt, bitsI, nat_nn, AV.plain, apart, Nat.testBit_eq_decide_div_mod_eq, *]) <;> exact rfl)); simp only [addFl]) | ((with_reducible first | refine zam ?_ | refine zao ?_ | refine zak ?_ | refine zai ?_ | refine zae ?_ | refine zan ?_ | refine zaj ?_ | refine zar ?_ | (apply zah; (focus (simp [zaa, *]; done))) | (with_reducible apply zad; (focus (simp [zaa, *]; done)))); try simp only [Then, Ops, OutB])))
        refine ⟨by first | trivial | rfl, by first | trivial | rfl, by first | trivial | rfl, .inl ⟨hsb, ob, rb, ?_, HP2.out, ?_⟩⟩
        · simp only [zap]; simp
        · have := HR2.out; rw [hWl] at this; exact this
      | false =>
        rw [hb] at hr0 hnx
        clear hb
        have HX := hideP hnx
        clear hnx
        (repeat (first | (with_reducible apply zal; (focus ((conv => lhs; simp [ev1, wantG, spineK, spine, float, xnew, xval, xeff, zaa, zab, zaq, zaf, zag, addFl, cellsOf, pickC, alive, slLen, slFt, binI, maxA, maxK, minA, minK, aeqK, aeqS, AV.cells, zac, boatE, spanE, lookE, fillA, setAt, bitsI, nat_nn, AV.plain, apart, Nat.testBit_eq_decide_div_mod_eq, *]) <;> exact rfl)); simp only [addFl]) | ((with_reducible first | refine zam ?_ | refine zao ?_ | refine zak ?_ | refine zai ?_ | refine zae ?_ | refine zan ?_ | refine zaj ?_ | refine zar ?_ | (apply zah; (focus (simp [zaa, *]; done))) | (with_reducible apply zad; (focus (simp [zaa, *]; done)))); try simp only [Then, Ops, OutB])))
        obtain ⟨hq, hany⟩ := HQ.out
        refine ⟨q - 1, by omega, i + 1, by omega, by rw [HX.out, hany]; rfl, ?_⟩
        simp only [zat hC]
        exact st_eq (by simp [zas, zau]) rfl rfl rfl
    · obtain rfl : i = mn + 1 := by omega
      have hx : ¬ ((mn : Int) + 1 ≤ mn) := by omega
      have hsb : sb = false := by rw [HS'.out]; exact hany
      clear hany hq
      (repeat (first | (with_reducible apply zal; (focus ((conv => lhs; simp [ev1, wantG, spineK, spine, float, xnew, xval, xeff, zaa, zab, zaq, zaf, zag, addFl, cellsOf, pickC, alive, slLen, slFt, binI, maxA, maxK, minA, minK, aeqK, aeqS, AV.cells, zac, boatE, spanE, lookE, fillA, setAt, bitsI, nat_nn, AV.plain, apart, Nat.testBit_eq_decide_div_mod_eq, *]) <;> exact rfl)); simp only [addFl]) | ((with_reducible first | refine zam ?_ | refine zao ?_ | refine zak ?_ | refine zai ?_ | refine zae ?_ | refine zan ?_ | refine zaj ?_ | refine zar ?_ | (apply zah; (focus (simp [zaa, *]; done))) | (with_reducible apply zad; (focus (simp [zaa, *]; done)))); try simp only [Then, Ops, OutB, reduceIte])))
      refine ⟨by first | trivial | rfl, by first | trivial | rfl, by first | trivial | rfl, .inr ⟨hsb, ?_⟩⟩
      simp only [zap]; simp
end R
end Ev
end Go.Proofs.YtlkhjnpflohfeaaDoor

/- What the exported functions' spans mean, by truths. -/
namespace Go.Proofs.YtlkhjnpflohfeaaDoor
namespace Cut
theorem zoc : ∀ (l : List (Int × Int)) (x : Int × Int),
    let j := l.foldl (fun s y => (min s.1 y.1, max s.2 y.2)) x
    (j.1 ≤ x.1 ∧ x.2 ≤ j.2 ∧ (∀ s ∈ l, j.1 ≤ s.1 ∧ s.2 ≤ j.2)) ∧ (j.1 = x.1 ∨ ∃ s ∈ l, j.1 = s.1) ∧ (j.2 = x.2 ∨ ∃ s ∈ l, j.2 = s.2)
  | [], x => by simp
  | y :: l, x => by
    have ih := zoc l (min x.1 y.1, max x.2 y.2)
    simp only [List.foldl_cons, List.mem_cons] at ih ⊢
    generalize List.foldl _ _ l = j at ih ⊢
    obtain ⟨⟨h1, h2, h3⟩, h4, h5⟩ := ih
    refine ⟨⟨by clear h4 h5; omega, by clear h4 h5; omega, ?_⟩, ?_, ?_⟩
    · clear h4 h5
      rintro s (rfl | hs)
      · omega
      · exact h3 s hs
    · clear h5
      rcases h4 with h4 | ⟨s, hs, h4⟩
      · by_cases c : x.1 ≤ y.1
        · exact .inl (by omega)
        · exact .inr ⟨y, .inl rfl, by omega⟩
      · exact .inr ⟨s, .inr hs, h4⟩
    · clear h4
      rcases h5 with h5 | ⟨s, hs, h5⟩
      · by_cases c : y.2 ≤ x.2
        · exact .inl (by omega)
        · exact .inr ⟨y, .inl rfl, by omega⟩
      · exact .inr ⟨s, .inr hs, h5⟩
theorem zjd {l : List (Int × Int)} (hl : 0 < l.length) : (∀ s ∈ l, (joined l).1 ≤ s.1 ∧ s.2 ≤ (joined l).2) ∧ (∃ s ∈ l, (joined l).1 = s.1) ∧ (∃ s ∈ l, (joined l).2 = s.2) := by
  cases l with
  | nil => simp at hl
  | cons x l =>
    have h := zoc l x
    simp only at h
    rw [show joined (x :: l) = l.foldl (fun s y => (min s.1 y.1, max s.2 y.2)) x from rfl]
    generalize List.foldl _ _ l = j at h ⊢
    obtain ⟨⟨h1, h2, h3⟩, h4, h5⟩ := h
    refine ⟨?_, ?_, ?_⟩
    · clear h4 h5
      intro s hs
      rcases List.mem_cons.1 hs with rfl | hs
      · omega
      · exact h3 s hs
    · rcases h4 with h4 | ⟨s, hs, h4⟩
      · exact ⟨x, List.mem_cons_self, h4⟩
      · exact ⟨s, List.mem_cons_of_mem _ hs, h4⟩
    · rcases h5 with h5 | ⟨s, hs, h5⟩
      · exact ⟨x, List.mem_cons_self, h5⟩
      · exact ⟨s, List.mem_cons_of_mem _ hs, h5⟩
theorem zer (x : CutD) (leak : Int) : leak ∈ leaks x ↔ inS x.leak leak := by
  unfold leaks inS
  rw [List.mem_map]
  constructor
  · rintro ⟨i, hi, rfl⟩
    rw [List.mem_range] at hi
    omega
  · rintro ⟨h1, h2⟩
    exact ⟨(leak - x.leak.1).toNat, by rw [List.mem_range]; omega, by omega⟩
theorem water_spec {x : CutD} (h : Valid x) (hc : can x (every x) = true) (d : Nat) (hd : d ≤ x.rain.length) :
    (∀ leak t, inS x.leak leak → Truth x leak (every x) t → inS (water x d) (t d)) ∧
    (∃ leak t, inS x.leak leak ∧ Truth x leak (every x) t ∧ t d = (water x d).1) ∧ ∃ leak t, inS x.leak leak ∧ Truth x leak (every x) t ∧ t d = (water x d).2 := by
  have hpos : 0 < (((leaks x).map fun k => seasonAt x k (every x) d).filter some).length := by
    obtain ⟨leak, h1, t, ht⟩ := (can_iff h _).1 hc
    refine List.length_pos_of_mem (a := seasonAt x leak (every x) d) (List.mem_filter.2 ⟨List.mem_map.2 ⟨leak, (zer x leak).2 h1, rfl⟩, ?_⟩)
    have := h.l0; have := h.l2; unfold inS at h1
    exact (zez _).2 ⟨t d, (zcs h leak (by omega) (by omega) _ d hd _).2 ⟨t, ht, rfl⟩⟩
  obtain ⟨j1, j2, j3⟩ := zjd hpos
  have l0 := h.l0
  have l2 := h.l2
  have key : ∀ s, s ∈ (((leaks x).map fun k => seasonAt x k (every x) d).filter some) → ∃ leak, inS x.leak leak ∧ s = seasonAt x leak (every x) d ∧ s.1 ≤ s.2 := by
    intro s hs
    obtain ⟨h1, h2⟩ := List.mem_filter.1 hs
    obtain ⟨leak, h3, rfl⟩ := List.mem_map.1 h1
    exact ⟨leak, (zer x leak).1 h3, rfl, by simpa [some] using h2⟩
  refine ⟨?_, ?_, ?_⟩
  · intro leak t hl ht
    have hin : inS (seasonAt x leak (every x) d) (t d) := by
      unfold inS at hl
      exact (zcs h leak (by omega) (by omega) _ d hd _).2 ⟨t, ht, rfl⟩
    have := j1 (seasonAt x leak (every x) d) (List.mem_filter.2 ⟨List.mem_map.2 ⟨leak, (zer x leak).2 hl, rfl⟩, (zez _).2 ⟨_, hin⟩⟩)
    unfold water inS at *
    omega
  · obtain ⟨s, hs, e⟩ := j2
    obtain ⟨leak, hl, rfl, hle⟩ := key s hs
    have hl' := hl
    unfold inS at hl'
    obtain ⟨t, ht, et⟩ := (zcs h leak (by omega) (by omega) (every x) d hd (seasonAt x leak (every x) d).1).1 ⟨by omega, hle⟩
    exact ⟨leak, t, hl, ht, et.trans e.symm⟩
  · obtain ⟨s, hs, e⟩ := j3
    obtain ⟨leak, hl, rfl, hle⟩ := key s hs
    have hl' := hl
    unfold inS at hl'
    obtain ⟨t, ht, et⟩ := (zcs h leak (by omega) (by omega) (every x) d hd (seasonAt x leak (every x) d).2).1 ⟨hle, by omega⟩
    exact ⟨leak, t, hl, ht, et.trans e.symm⟩
theorem leak_spec {x : CutD} (h : Valid x) (hc : can x (every x) = true) :
    (∀ leak t, inS x.leak leak → Truth x leak (every x) t → inS (leakSpan x) leak) ∧
    (inS x.leak (leakSpan x).1 ∧ ∃ t, Truth x (leakSpan x).1 (every x) t) ∧ inS x.leak (leakSpan x).2 ∧ ∃ t, Truth x (leakSpan x).2 (every x) t := by
  obtain ⟨j1, j2, j3⟩ := zjd (leakSpans_pos x hc)
  have l0 := h.l0
  have l2 := h.l2
  have key : ∀ s, s ∈ leakSpans x ↔ ∃ leak, inS x.leak leak ∧ s = (leak, leak) ∧ ∃ t, Truth x leak (every x) t := by
    intro s
    unfold leakSpans
    rw [List.mem_map]
    constructor
    · rintro ⟨leak, hl, rfl⟩
      obtain ⟨h1, h2⟩ := List.mem_filter.1 hl
      have h3 := (zer x leak).1 h1
      obtain ⟨v, hv⟩ := (zez _).1 h2
      have h4 := h3
      unfold inS at h4
      obtain ⟨t, ht, _⟩ := (zcs h leak (by omega) (by omega) _ 0 (by omega) v).1 hv
      exact ⟨leak, h3, rfl, t, ht⟩
    · rintro ⟨leak, h3, rfl, t, ht⟩
      have h4 := h3
      unfold inS at h4
      exact ⟨leak, List.mem_filter.2 ⟨(zer x leak).2 h3, (zez _).2 ⟨t 0, (zcs h leak (by omega) (by omega) _ 0 (by omega) _).2 ⟨t, ht, rfl⟩⟩⟩, rfl⟩
  refine ⟨?_, ?_, ?_⟩
  · intro leak t hl ht
    have := j1 (leak, leak) ((key _).2 ⟨leak, hl, rfl, t, ht⟩)
    unfold leakSpan inS
    simpa using this
  · obtain ⟨s, hs, e⟩ := j2
    obtain ⟨leak, hl, rfl, ht⟩ := (key _).1 hs
    unfold leakSpan
    rw [e]; exact ⟨hl, ht⟩
  · obtain ⟨s, hs, e⟩ := j3
    obtain ⟨leak, hl, rfl, ht⟩ := (key _).1 hs
    unfold leakSpan
    rw [e]; exact ⟨hl, ht⟩
theorem zly {α : Type} {l : List α} {a d : α} (h : a ∈ l) : ∃ i, i < l.length ∧ l.getD i d = a := by
  obtain ⟨i, hi, rfl⟩ := List.mem_iff_getElem.1 h
  exact ⟨i, hi, by simp [hi]⟩
theorem of_valid {x : CutD} (h : Valid x) : valid x = true := by
  obtain ⟨a1, a2, a3, a4, a5, a6, a7, a8, a9, a10, a11, a12, a13, a14, a15⟩ := h
  simp only [valid, within, isSpan, Bool.and_eq_true, decide_eq_true_eq, List.all_eq_true]
  refine ⟨⟨⟨⟨⟨⟨⟨⟨⟨by omega, by omega⟩, by omega, a4⟩, ⟨a5, a6⟩, a7⟩, ⟨a8, a9⟩, a10⟩, by omega⟩, by omega⟩, ?_⟩, ?_⟩, ?_⟩
  · intro s hs
    obtain ⟨i, hi, e⟩ := zly (d := (0, 0)) hs
    have := a13 i hi
    unfold spanAt at this
    rw [e] at this; omega
  · intro s hs
    obtain ⟨i, hi, e⟩ := zly (d := nobody) hs
    have := a14 i hi
    unfold boatAt at this
    rw [e] at this; omega
  · intro s hs
    obtain ⟨i, hi, e⟩ := zly (d := noLook) hs
    have := a15 i hi
    unfold lookAt at this
    rw [e] at this; omega
end Cut
end Go.Proofs.YtlkhjnpflohfeaaDoor

/- The reference of chapter 06: what its table of depths means. -/
namespace Go.Proofs.YtlkhjnpflohfeaaDoor
open Go
namespace Ev
namespace R
theorem zfy {x : CutD} {lk : Int} {d : Nat} {u v : Int} : stepB x lk d u v = true ↔ Cut.Step x lk d u v := by unfold stepB; simp
theorem zko {x : CutD} {s d : Nat} {v : Int} : looksB x s d v = true ↔ Cut.Looks x.looks s d v := by unfold looksB; simp
theorem zvw {x : CutD} (V : Cut.Valid x) {lk : Int} {s mn : Nat} (hm : x.most = mn) : ∀ (d : Nat), ∀ i, i ≤ mn → (fwd x lk s mn d i = true ↔ Cut.FR x lk s d (i : Int))
  | 0, i, hi => by
    unfold fwd forB Cut.FR
    simp only [Bool.and_eq_true, zko]
    have : ((((0 == 0) && Cut.within (i : Int) x.depth.1 x.depth.2) || (decide (0 < 0) && fromB x lk (0 - 1) i (fun _ => false) (mn + 1))) = true) ↔ Cut.inS x.depth i := by
      simp [Cut.within, Cut.inS]
    exact and_congr this Iff.rfl
  | d + 1, i, hi => by
    have ih := zvw V (lk := lk) (s := s) hm d
    show forB x lk s mn (d + 1) (fwd x lk s mn d) i = true ↔ _
    unfold forB Cut.FR
    simp only [Bool.and_eq_true, zko]
    refine and_congr ?_ Iff.rfl
    have e0 : ((d + 1 == 0) && Cut.within (i : Int) x.depth.1 x.depth.2) = false := by simp
    rw [e0, Bool.false_or, decide_eq_true (by omega), Bool.true_and]
    unfold fromB
    rw [List.any_eq_true]
    constructor
    · rintro ⟨u, h1, h2⟩
      rw [List.mem_range] at h1
      rw [Bool.and_eq_true, zfy] at h2
      exact ⟨u, (ih u (by omega)).1 h2.1, h2.2⟩
    · rintro ⟨u, h1, h2⟩
      have hu := Cut.FR_in V h1
      obtain ⟨un, rfl⟩ := Int.eq_ofNat_of_zero_le hu.1
      refine ⟨un, List.mem_range.2 (by omega), ?_⟩
      rw [Bool.and_eq_true, zfy]
      exact ⟨(ih un (by omega)).2 h1, h2⟩
theorem zty {x : CutD} (V : Cut.Valid x) {lk : Int} {s mn : Nat} (hm : x.most = mn) : ∀ (j : Nat), j ≤ x.rain.length → ∀ e, e ≤ x.rain.length → ∀ i, i ≤ mn →
    (tab x lk s mn j e i = true ↔ Cut.FR x lk s e (i : Int) ∧ (x.rain.length - j ≤ e → Cut.BR x lk s x.rain.length (x.rain.length - e) (i : Int)))
  | 0, _, e, he, i, hi => by
    show fwd x lk s mn e i = true ↔ _
    rw [zvw V hm e i hi]
    constructor
    · intro h
      refine ⟨h, fun h1 => ?_⟩
      have : e = x.rain.length := by omega
      subst this
      rw [Nat.sub_self]; trivial
    · exact fun h => h.1
  | j + 1, hj, e, he, i, hi => by
    have ih := zty V (lk := lk) (s := s) hm j (by omega)
    show (if e = x.rain.length - 1 - j then bakB x lk mn e (tab x lk s mn j e) (tab x lk s mn j (e + 1)) else tab x lk s mn j e) i = true ↔ _
    by_cases hej : e = x.rain.length - 1 - j
    · rw [if_pos hej]
      unfold bakB ontoB
      rw [Bool.and_eq_true, List.any_eq_true, ih e he i hi]
      have hk : x.rain.length - e = (x.rain.length - (e + 1)) + 1 := by omega
      constructor
      · rintro ⟨⟨h1, _⟩, v, h2, h3⟩
        rw [List.mem_range] at h2
        rw [Bool.and_eq_true, zfy, ih (e + 1) (by omega) v (by omega)] at h3
        refine ⟨h1, fun _ => ?_⟩
        rw [hk]
        obtain ⟨⟨h4, h5⟩, h6⟩ := h3
        have h7 := h5 (by omega)
        refine ⟨v, ?_, ?_, h7⟩
        · rw [show x.rain.length - (x.rain.length - (e + 1) + 1) = e by omega]; exact h6
        · rw [show x.rain.length - (x.rain.length - (e + 1)) = e + 1 by omega]; exact h4.2
      · rintro ⟨h1, h2⟩
        have h3 := h2 (by omega)
        rw [hk] at h3
        obtain ⟨v, h4, h5, h6⟩ := h3
        rw [show x.rain.length - (x.rain.length - (e + 1) + 1) = e by omega] at h4
        rw [show x.rain.length - (x.rain.length - (e + 1)) = e + 1 by omega] at h5
        have hf : Cut.FR x lk s (e + 1) v := ⟨⟨_, h1, h4⟩, h5⟩
        have hv := Cut.FR_in V hf
        obtain ⟨vn, rfl⟩ := Int.eq_ofNat_of_zero_le hv.1
        refine ⟨⟨h1, fun h => by omega⟩, vn, List.mem_range.2 (by omega), ?_⟩
        rw [Bool.and_eq_true, zfy, ih (e + 1) (by omega) vn (by omega)]
        exact ⟨⟨hf, fun _ => h6⟩, h4⟩
    · rw [if_neg hej, ih e he i hi]
      refine and_congr Iff.rfl ⟨fun h h1 => h (by omega), fun h h1 => h (by omega)⟩
theorem zfx {x : CutD} (V : Cut.Valid x) {lk : Int} {s mn : Nat} (hm : x.most = mn) {e i : Nat} (he : e ≤ x.rain.length) (hi : i ≤ mn) : tab x lk s mn x.rain.length e i = true ↔ ∃ t, Cut.Truth x lk s t ∧ t e = i := by
  rw [zty V hm _ (Nat.le_refl _) e he i hi]
  constructor
  · rintro ⟨h1, h2⟩
    exact Cut.truth_of he h1 (h2 (by omega))
  · rintro ⟨t, h1, h2⟩
    have a1 := h1.fr e he
    have a2 := h1.br (x.rain.length - e) (by omega)
    rw [h2] at a1
    rw [show x.rain.length - (x.rain.length - e) = e by omega, h2] at a2
    exact ⟨a1, fun _ => a2⟩
theorem zki {x : CutD} (V : Cut.Valid x) {lk : Int} {s mn : Nat} (hm : x.most = mn) : someB x lk s mn = true ↔ ∃ t, Cut.Truth x lk s t := by
  unfold someB
  rw [List.any_eq_true]
  constructor
  · rintro ⟨i, h1, h2⟩
    rw [List.mem_range] at h1
    obtain ⟨t, h3, _⟩ := (zfx V hm (Nat.zero_le _) (by omega)).1 h2
    exact ⟨t, h3⟩
  · rintro ⟨t, h⟩
    have h0 := Cut.FR_in V (h.fr 0 (Nat.zero_le _))
    obtain ⟨i, hi⟩ := Int.eq_ofNat_of_zero_le h0.1
    exact ⟨i, List.mem_range.2 (by omega), (zfx V hm (Nat.zero_le _) (by omega)).2 ⟨t, h, hi⟩⟩
end R
end Ev
end Go.Proofs.YtlkhjnpflohfeaaDoor

/- The reference of chapter 06, gone through: all ways. -/
namespace Go.Proofs.YtlkhjnpflohfeaaDoor
open Go
namespace Ev
namespace R
set_option maxRecDepth 100000
def TableAt (G : List AB) (v : AV) (n mn : Nat) (f : Nat → Nat → Bool) : Prop := ∃ (ob : Nat) (rb : Nat → Nat), v = .sl ob 0 n 1 ∧ G[ob]? = some (.cells ((List.range n).map fun d => .sl (rb d) 0 (mn + 1) 1)) ∧ ∀ d, d < n → G[rb d]? = some (.cells ((List.range (mn + 1)).map fun i => .bool (f d i)))
theorem TableAt.app {G : List AB} {v : AV} {n mn : Nat} {f : Nat → Nat → Bool} (h : TableAt G v n mn f) (K : List AB) : TableAt (G ++ K) v n mn f := by
  obtain ⟨ob, rb, h1, h2, h3⟩ := h
  exact ⟨ob, rb, h1, zcf h2, fun d hd => zcf (h3 d hd)⟩
theorem TableAt.set {G : List AB} {v : AV} {n mn : Nat} {f : Nat → Nat → Bool} (h : TableAt G v (n + 1) mn f) {w : Nat} {z : Int} {cs : List AV} (hw : G[w]? = some (.cells (.int .i64 z :: cs))) (X : AB) : TableAt (G.set w X) v (n + 1) mn f := by
  obtain ⟨ob, rb, h1, h2, h3⟩ := h
  refine ⟨ob, rb, h1, ?_, fun d hd => ?_⟩
  · rw [List.getElem?_set_ne]; exact h2
    rintro rfl
    rw [hw, List.range_succ_eq_map] at h2
    simp at h2
  · rw [List.getElem?_set_ne]; exact h3 d hd
    rintro rfl
    have := h3 d hd
    rw [hw, List.range_succ_eq_map] at this
    simp at this
def DepthsC (call : CallF) : Prop := ∀ (H : List AB) (a b k l : Int) (mn : Nat) (r : List (Int × Int)) (bs : List Boat) (ls : List Look), Cut.Valid ⟨(a, b), (k, l), r, mn, bs, ls⟩ → ∀ (s : Nat), s < 1048576 → ∀ (lkv : Int), 0 ≤ lkv → lkv ≤ 10 →
  (someB ⟨(a, b), (k, l), r, mn, bs, ls⟩ lkv s mn = false ∧ call (.fn (.func 95) [] []) [.agg [.int .i64 a, .int .i64 b, .int .i64 k, .int .i64 l, .vs 2 (r.map spanE), .int .i64 mn, .vs 4 (bs.map boatE), .vs 3 (ls.map lookE)], .int .i64 s, .int .i64 lkv] H = some (.ret .nils, H, [])) ∨
  (someB ⟨(a, b), (k, l), r, mn, bs, ls⟩ lkv s mn = true ∧ ∃ K ob, call (.fn (.func 95) [] []) [.agg [.int .i64 a, .int .i64 b, .int .i64 k, .int .i64 l, .vs 2 (r.map spanE), .int .i64 mn, .vs 4 (bs.map boatE), .vs 3 (ls.map lookE)], .int .i64 s, .int .i64 lkv] H = some (.ret (.sl ob 0 (r.length + 1) 1), H ++ K, []) ∧
    H.length ≤ ob ∧ TableAt (H ++ K) (.sl ob 0 (r.length + 1) 1) (r.length + 1) mn (tab ⟨(a, b), (k, l), r, mn, bs, ls⟩ lkv s mn r.length))
theorem zpy {C : Cfg} {n : Nat} (hc : C.calm = true) (h : Has C 95 af95) (hG : GoesC (Ev.call C n)) (hI : InC (Ev.call C n)) (hF : FitsC (Ev.call C n)) : DepthsC (Ev.call C (n + 1)) := by
  intro H a b k l mn r bs ls V s hs lkv k0 k1
  have := zfq (n := n) (first := []) (captured := []) (args := [.agg [.int .i64 a, .int .i64 b, .int .i64 k, .int .i64 l, .vs 2 (r.map spanE), .int .i64 mn, .vs 4 (bs.map boatE), .vs 3 (ls.map lookE)], .int .i64 s, .int .i64 lkv]) (H := H)
    (R := fun x H' tc => tc = [] ∧ ((someB ⟨(a, b), (k, l), r, mn, bs, ls⟩ lkv s mn = false ∧ x = .ret .nils ∧ H' = H) ∨ (someB ⟨(a, b), (k, l), r, mn, bs, ls⟩ lkv s mn = true ∧ ∃ K ob, x = .ret (.sl ob 0 (r.length + 1) 1) ∧ H' = H ++ K ∧ H.length ≤ ob ∧ TableAt (H ++ K) (.sl ob 0 (r.length + 1) 1) (r.length + 1) mn (tab ⟨(a, b), (k, l), r, mn, bs, ls⟩ lkv s mn r.length))))
    hc h.ext h.exth h.fns h.whole (show (3 : Nat) ≤ 162 by omega) (by
    refine (zsy C hc (Ev.call C n) hG hI hF a b k l mn r bs ls V lkv k0 k1 s hs H).mono fun e st ⟨h1, h2, h3, h4⟩ => ?_
    subst h1
    have e1 : ∀ p, runDefs C p st.df none st = some (none, st) := fun p => by rw [h2]; rfl
    rcases h4 with ⟨hs', ob, rb, h5, ⟨T, h6⟩, h7⟩ | ⟨hs', h5⟩
    · refine ⟨.ret (.sl ob 0 (r.length + 1) 1), st, ?_, ?_⟩
      · show (match runDefs C H.length st.df none st with
          | some (none, st) => (resL st [.tmp 6]).map fun vs => (CRes.ret (resV vs), st)
          | _ => none) = _
        rw [e1]
        show (resL st [.tmp 6]).map (fun vs => (CRes.ret (resV vs), st)) = _
        simp only [resL, resOf, h5]; rfl
      · unfold Left
        rw [h3, if_neg (by unfold bareQ; simp [CRes.val, refs])]
        have e2 : overH H st.hp [] ++ st.hp.drop H.length = st.hp := by
          rw [h6]; simp [overH]
        rw [e2]
        refine ⟨rfl, .inr ⟨hs', .cells [.int .i64 a, .int .i64 b, .int .i64 k, .int .i64 l, .vs 2 (r.map spanE), .int .i64 mn, .vs 4 (bs.map boatE), .vs 3 (ls.map lookE)] :: T, ob, rfl, by rw [h6]; simp, by have := h7.low; omega, ?_⟩⟩
        have e3 : H ++ .cells [.int .i64 a, .int .i64 b, .int .i64 k, .int .i64 l, .vs 2 (r.map spanE), .int .i64 mn, .vs 4 (bs.map boatE), .vs 3 (ls.map lookE)] :: T = st.hp := by rw [h6]; simp
        rw [e3]
        exact ⟨ob, rb, rfl, h7.out, h7.row⟩
    · refine ⟨.ret .nils, st, ?_, ?_⟩
      · show (match runDefs C H.length st.df none st with
          | some (none, st) => (resL st [.tmp 6]).map fun vs => (CRes.ret (resV vs), st)
          | _ => none) = _
        rw [e1]
        show (resL st [.tmp 6]).map (fun vs => (CRes.ret (resV vs), st)) = _
        simp only [resL, resOf, h5]; rfl
      · unfold Left
        rw [h3, if_pos (by unfold bareQ; simp [CRes.val, refs])]
        exact ⟨rfl, .inl ⟨hs', rfl, rfl⟩⟩)
  obtain ⟨x, H', tc, h1, rfl, h2⟩ := this
  rcases h2 with ⟨h2, rfl, rfl⟩ | ⟨h2, K, ob, rfl, rfl, h3, h4⟩
  · exact .inl ⟨h2, h1⟩
  · exact .inr ⟨h2, K, ob, h1, h3, h4⟩
def waysCs : List (Int × AV) → List AV
  | [] => []
  | p :: l => .int .i64 p.1 :: p.2 :: waysCs l
theorem zkc : ∀ l m, waysCs (l ++ m) = waysCs l ++ waysCs m
  | [], m => rfl
  | p :: l, m => by simp [waysCs, zkc l m]
theorem zkb : ∀ l, (waysCs l).length = l.length * 2
  | [] => rfl
  | p :: l => by simp [waysCs, zkb l]; omega
noncomputable def waysL (x : CutD) (s mn : Nat) : Nat → List Int
  | 0 => []
  | i + 1 => waysL x s mn i ++ (if someB x (x.leak.1 + i) s mn = true then [x.leak.1 + i] else [])
structure WaysAt (G : List AB) (v : AV) (x : CutD) (s mn low : Nat) (l : List (Int × AV)) : Prop where
  head : (l = [] ∧ v = .nils) ∨ (l ≠ [] ∧ ∃ w, v = .sl w 0 l.length 2 ∧ G[w]? = some (.cells (waysCs l)) ∧ low ≤ w)
  tabs : ∀ p ∈ l, TableAt G p.2 (x.rain.length + 1) mn (tab x p.1 s mn x.rain.length)
set_option maxHeartbeats 8000000 in
theorem zxp (C : Cfg) (hC : C.calm = true) (call : CallF) (hD : DepthsC call) (a b k l : Int) (mn : Nat) (r : List (Int × Int)) (bs : List Boat) (ls : List Look) (V : Cut.Valid ⟨(a, b), (k, l), r, mn, bs, ls⟩) (s : Nat) (hs : s < 1048576) (H : List AB) :
    Does (ev C call H.length none af77.body { tm := tmA 32 (zipI 0 [.agg [.int .i64 a, .int .i64 b, .int .i64 k, .int .i64 l, .vs 2 (r.map spanE), .int .i64 mn, .vs 4 (bs.map boatE), .vs 3 (ls.map lookE)], .int .i64 s] []), df := [], hp := H, tc := [] })
      (fun e st => e = .ret ∧ st.df = [] ∧ st.tc = [] ∧ ∃ lw, lw.map (·.1) = waysL ⟨(a, b), (k, l), r, mn, bs, ls⟩ s mn (l - k + 1).toNat ∧ WaysAt st.hp (st.tm.getD 4 .unk) ⟨(a, b), (k, l), r, mn, bs, ls⟩ s mn (H.length + 1) lw ∧ ∃ T, st.hp = H ++ T) := by
  have l0 : 0 ≤ k := V.l0
  have l1 : k ≤ l := V.l1
  have l2 : l ≤ 10 := V.l2
  have hd := fun H lkv (h0 : 0 ≤ lkv) (h1 : lkv ≤ 10) => hD H a b k l mn r bs ls V s hs lkv h0 h1
  have hwl : ∀ i, waysL ⟨(a, b), (k, l), r, mn, bs, ls⟩ s mn (i + 1) = waysL ⟨(a, b), (k, l), r, mn, bs, ls⟩ s mn i ++ (if someB ⟨(a, b), (k, l), r, mn, bs, ls⟩ (k + i) s mn = true then [k + i] else []) := fun i => rfl
  have hwl0 : waysL ⟨(a, b), (k, l), r, mn, bs, ls⟩ s mn 0 = [] := rfl
  have hrl : (⟨(a, b), (k, l), r, mn, bs, ls⟩ : CutD).rain.length = r.length := rfl
  generalize hcd : (⟨(a, b), (k, l), r, mn, bs, ls⟩ : CutD) = c at *
  have HD := hideP hd
  have HL := hideP (And.intro hwl (And.intro hwl0 hrl))
  clear hd hwl hwl0 hrl hD V hcd
  unfold af77
  simp only [zipI]
  (repeat (first | (with_reducible apply zal; (focus ((conv => lhs; simp [ev1, wantG, spineK, spine, float, xnew, xval, xeff, zaa, zab, zaq, zaf, zag, addFl, cellsOf, pickC, alive, slLen, slFt, binI, maxA, maxK, minA, minK, aeqK, aeqS, AV.cells, zac, boatE, spanE, lookE, fillA, setAt, bitsI, nat_nn, AV.plain, apart, Nat.testBit_eq_decide_div_mod_eq, *]) <;> exact rfl)); simp only [addFl]) | ((with_reducible first | refine zam ?_ | refine zao ?_ | refine zak ?_ | refine zai ?_ | refine zae ?_ | refine zan ?_ | refine zaj ?_ | refine zar ?_ | (apply zah; (focus (simp [zaa, *]; done))) | (with_reducible apply zad; (focus (simp [zaa, *]; done)))); try simp only [Then, Ops])))
  refine zbf (fun q st => ∃ (i : Nat) (G : List AB) (v : AV) (lw : List (Int × AV)), i + q = (l - k + 1).toNat ∧ (∃ T, G = H ++ .cells [.int .i64 a, .int .i64 b, .int .i64 k, .int .i64 l, .vs 2 (r.map spanE), .int .i64 mn, .vs 4 (bs.map boatE), .vs 3 (ls.map lookE)] :: T) ∧ lw.map (·.1) = waysL c s mn i ∧ WaysAt G v c s mn (H.length + 1) lw ∧ st = { tm := tmA 32 [(6, .int .i64 (k + i)), (5, v), (2, .ptr H.length 0), (1, .int .i64 s)], df := [], hp := G, tc := [] }) (l - k + 1).toNat (by unfold fuelL; omega) ?_ ?_
  · refine ⟨0, _, .nils, [], by omega, ⟨[], rfl⟩, by rw [HL.out.2.1]; rfl, ⟨.inl ⟨rfl, rfl⟩, fun p hp => by cases hp⟩, ?_⟩
    simp only [zat hC]
    exact st_eq (by simp [zas, zau]) rfl rfl rfl
  · rintro q st ⟨i, G, v, lw, hq, ⟨T, hT⟩, hmap, hW, rfl⟩
    have gB : G[H.length]? = some (.cells [.int .i64 a, .int .i64 b, .int .i64 k, .int .i64 l, .vs 2 (r.map spanE), .int .i64 mn, .vs 4 (bs.map boatE), .vs 3 (ls.map lookE)]) := by rw [hT]; simp
    obtain ⟨nB, eB⟩ := List.getElem?_eq_some_iff.1 gB
    by_cases hi : k + i ≤ l
    · have hw : IntKind.i64.wrap (k + i + 1) = k + i + 1 := zbb (by omega) (by omega)
      have hci : k + ((i + 1 : Nat) : Int) = k + i + 1 := by omega
      have hwl := HL.out.1 i
      rcases HD.out G (k + i) (by omega) (by omega) with ⟨hs1, hcall⟩ | ⟨hs1, K, ob, hcall, hob, hT1⟩
      · rw [hs1, if_neg (by decide), List.append_nil] at hwl
        have HQ := hideP (And.intro hq (And.intro hT (And.intro (hmap.trans hwl.symm) hW)))
        clear hq hT hmap hW hwl
        (repeat (first | (with_reducible apply zal; (focus ((conv => lhs; simp [ev1, wantG, spineK, spine, float, xnew, xval, xeff, zaa, zab, zaq, zaf, zag, addFl, cellsOf, pickC, alive, slLen, slFt, binI, maxA, maxK, minA, minK, aeqK, aeqS, AV.cells, zac, boatE, spanE, lookE, fillA, setAt, bitsI, nat_nn, AV.plain, apart, Nat.testBit_eq_decide_div_mod_eq, *]) <;> exact rfl)); simp only [addFl]) | ((with_reducible first | refine zam ?_ | refine zao ?_ | refine zak ?_ | refine zai ?_ | refine zae ?_ | refine zan ?_ | refine zaj ?_ | refine zar ?_ | (apply zah; (focus (simp [zaa, *]; done))) | (with_reducible apply zad; (focus (simp [zaa, *]; done)))); try simp only [Then, Ops, OutB])))
        obtain ⟨hq, hT, hm, hW⟩ := HQ.out
        refine ⟨q - 1, by omega, i + 1, G, v, lw, by omega, ⟨T, hT⟩, hm, hW, ?_⟩
        simp only [zat hC]
        rw [hci]
        exact st_eq (by simp [zas, zau]) rfl rfl rfl
      · rw [hs1, if_pos rfl] at hwl
        have gB1 := zcf (K := K) gB
        have hW1 : WaysAt (G ++ K) v c s mn (H.length + 1) lw := ⟨by
          rcases hW.head with h | ⟨h0, w, h1, h2, h3⟩
          · exact .inl h
          · exact .inr ⟨h0, w, h1, zcf h2, h3⟩, fun p hp => (hW.tabs p hp).app K⟩
        obtain ⟨ob', rb, hsl, gO, -⟩ := id hT1
        obtain rfl : ob = ob' := by injection hsl
        have hT2 : ∃ T', G ++ K = H ++ .cells [.int .i64 a, .int .i64 b, .int .i64 k, .int .i64 l, .vs 2 (r.map spanE), .int .i64 mn, .vs 4 (bs.map boatE), .vs 3 (ls.map lookE)] :: T' := ⟨T ++ K, by rw [hT]; simp⟩
        generalize G ++ K = G1 at *
        obtain ⟨T', hT2⟩ := hT2
        have hlen1 : H.length < G1.length := (List.getElem?_eq_some_iff.1 gB1).1
        obtain ⟨nO, eO⟩ := List.getElem?_eq_some_iff.1 gO
        have hnew : (lw ++ [(k + (i : Int), AV.sl ob 0 (r.length + 1) 1)]).map (·.1) = waysL c s mn (i + 1) := by rw [hwl, List.map_append, hmap]; rfl
        have hrl := HL.out.2.2
        have HQ := hideP (And.intro hq (And.intro hT2 (And.intro hnew (And.intro hW1 (And.intro hT1 (And.intro hlen1 hrl))))))
        have hb1 : 1 ≤ bound := by decide
        have hr0 : (0 : Int) < (r.length : Int) + 1 := by omega
        rcases hW1.head with ⟨h0, h1⟩ | ⟨h0, w, h1, gW, h3⟩
        · subst h0 h1
          clear hq hT hmap hW hW1 hwl hT2 hnew hT1 hob hsl hrl hlen1
          (repeat (first | (with_reducible apply zal; (focus ((conv => lhs; simp [ev1, wantG, spineK, spine, float, xnew, xval, xeff, zaa, zab, zaq, zaf, zag, addFl, cellsOf, pickC, alive, slLen, slFt, binI, maxA, maxK, minA, minK, aeqK, aeqS, AV.cells, zac, boatE, spanE, lookE, fillA, setAt, bitsI, nat_nn, AV.plain, apart, Nat.testBit_eq_decide_div_mod_eq, *]) <;> exact rfl)); simp only [addFl]) | ((with_reducible first | refine zam ?_ | refine zao ?_ | refine zak ?_ | refine zai ?_ | refine zae ?_ | refine zan ?_ | refine zaj ?_ | refine zar ?_ | (apply zah; (focus (simp [zaa, *]; done))) | (with_reducible apply zad; (focus (simp [zaa, *]; done)))); try simp only [Then, Ops, OutB])))
          obtain ⟨hq, hT2, hnew, hW1, hT1, hlen1, hrl⟩ := HQ.out
          refine ⟨q - 1, by omega, i + 1, G1 ++ [.cells [.int .i64 (k + i), .sl ob 0 (r.length + 1) 1], .cells [.int .i64 (k + i), .sl ob 0 (r.length + 1) 1]], .sl (G1.length + 1) 0 1 2, _, by omega, ⟨_, by rw [hT2, List.append_assoc, List.cons_append]⟩, hnew, ⟨.inr ⟨by simp, G1.length + 1, rfl, by simp [waysCs], by omega⟩, fun p hp => ?_⟩, ?_⟩
          · simp only [List.nil_append, List.mem_singleton] at hp
            subst hp
            rw [hrl]
            exact hT1.app _
          · simp only [zat hC]
            rw [hci]
            exact st_eq (by simp [zas, zau]) rfl rfl rfl
        · subst h1
          obtain ⟨nW, -⟩ := List.getElem?_eq_some_iff.1 gW
          have gW' := fun K => zcf (K := K) gW
          have nW' : ∀ n, w < G1.length + n := fun n => by omega
          have eW' : ∀ K (h : w < (G1 ++ K).length), (G1 ++ K)[w]'h = .cells (waysCs lw) := fun K h => by
            have := gW' K
            rw [List.getElem?_eq_getElem h] at this; exact Option.some.inj this
          have sW : ∀ K v, (G1 ++ K).set w v = G1.set w v ++ K := fun K v => List.set_append_left _ _ nW
          have hwc := zkb lw
          have hll : lw.length + 1 ≤ bound := by
            have : lw.length ≤ i := by
              have e1 : lw.length = (waysL c s mn i).length := by rw [← hmap, List.length_map]
              have e2 : ∀ j, (waysL c s mn j).length ≤ j := by
                intro j
                induction j with
                | zero => simp [waysL]
                | succ j ih => unfold waysL; rw [List.length_append]; split <;> simp <;> omega
              have := e2 i; omega
            unfold bound; omega
          have hpw : ¬ w < H.length := by omega
          obtain ⟨p0, lw0, hlw⟩ := List.exists_cons_of_ne_nil h0
          have HZ := hideP (And.intro gW (And.intro h3 hlw))
          clear hq hT hmap hW hW1 hwl hT2 hnew hT1 hob hsl hrl hlen1 gW h3 hlw h0
          generalize hwcs : waysCs lw = wc at *
          (repeat (first | (with_reducible apply zal; (focus ((conv => lhs; simp [ev1, wantG, spineK, spine, float, xnew, xval, xeff, zaa, zab, zaq, zaf, zag, addFl, cellsOf, pickC, alive, slLen, slFt, binI, maxA, maxK, minA, minK, aeqK, aeqS, AV.cells, zac, boatE, spanE, lookE, fillA, setAt, bitsI, nat_nn, AV.plain, apart, Nat.testBit_eq_decide_div_mod_eq, *]) <;> exact rfl)); simp only [addFl]) | ((with_reducible first | refine zam ?_ | refine zao ?_ | refine zak ?_ | refine zai ?_ | refine zae ?_ | refine zan ?_ | refine zaj ?_ | refine zar ?_ | (apply zah; (focus (simp [zaa, *]; done))) | (with_reducible apply zad; (focus (simp [zaa, *]; done)))); try simp only [Then, Ops, OutB])))
          obtain ⟨hq, hT2, hnew, hW1, hT1, hlen1, hrl⟩ := HQ.out
          obtain ⟨gW, h3, hlw⟩ := HZ.out
          have htab : ∀ p : Int × AV, TableAt G1 p.2 (c.rain.length + 1) mn (tab c p.1 s mn c.rain.length) → TableAt (G1.set w .dead ++ [.cells [.int .i64 (k + i), .sl ob 0 (r.length + 1) 1], .cells (wc ++ [.int .i64 (k + i), .sl ob 0 (r.length + 1) 1])]) p.2 (c.rain.length + 1) mn (tab c p.1 s mn c.rain.length) := fun p hp =>
            (hp.set (w := w) (z := p0.1) (cs := p0.2 :: waysCs lw0) (by rw [gW, ← hwcs, hlw]; rfl) .dead).app _
          refine ⟨q - 1, by omega, i + 1, G1.set w .dead ++ [.cells [.int .i64 (k + i), .sl ob 0 (r.length + 1) 1], .cells (wc ++ [.int .i64 (k + i), .sl ob 0 (r.length + 1) 1])], .sl (G1.length + 1) 0 (lw.length + 1) 2, lw ++ [(k + (i : Int), AV.sl ob 0 (r.length + 1) 1)], by omega, ⟨T'.set (w - H.length - 1) .dead ++ [.cells [.int .i64 (k + i), .sl ob 0 (r.length + 1) 1], .cells (wc ++ [.int .i64 (k + i), .sl ob 0 (r.length + 1) 1])], ?_⟩, hnew, ⟨.inr ⟨by simp, G1.length + 1, by simp, ?_, by omega⟩, fun p hp => ?_⟩, ?_⟩
          · rw [hT2, List.set_append_right _ _ (by omega), show w - H.length = (w - H.length - 1) + 1 by omega, List.set_cons_succ, List.append_assoc, List.cons_append]; rfl
          · rw [List.getElem?_append_right (by simp), zkc, hwcs]
            simp [waysCs]
          · rcases List.mem_append.1 hp with hp | hp
            · exact htab p (hW1.tabs p hp)
            · rw [List.mem_singleton] at hp
              subst hp
              exact htab _ (by rw [hrl]; exact hT1)
          · simp only [zat hC]
            rw [hci]
            exact st_eq (by simp [zas, zau]) rfl (by simp) rfl
    · obtain rfl : i = (l - k + 1).toNat := by omega
      have HQ := hideP (And.intro hT (And.intro hmap hW))
      rw [show k + (((l - k + 1).toNat : Nat) : Int) = l + 1 by omega]
      have hx : ¬ (l + 1 ≤ l) := by omega
      clear hq hT hmap hW hi
      (repeat (first | (with_reducible apply zal; (focus ((conv => lhs; simp [ev1, wantG, spineK, spine, float, xnew, xval, xeff, zaa, zab, zaq, zaf, zag, addFl, cellsOf, pickC, alive, slLen, slFt, binI, maxA, maxK, minA, minK, aeqK, aeqS, AV.cells, zac, boatE, spanE, lookE, fillA, setAt, bitsI, nat_nn, AV.plain, apart, Nat.testBit_eq_decide_div_mod_eq, *]) <;> exact rfl)); simp only [addFl]) | ((with_reducible first | refine zam ?_ | refine zao ?_ | refine zak ?_ | refine zai ?_ | refine zae ?_ | refine zan ?_ | refine zaj ?_ | refine zar ?_ | (apply zah; (focus (simp [zaa, *]; done))) | (with_reducible apply zad; (focus (simp [zaa, *]; done)))); try simp only [Then, Ops, OutB, reduceIte])))
      obtain ⟨hT, hmap, hW⟩ := HQ.out
      refine ⟨by first | trivial | rfl, by first | trivial | rfl, by first | trivial | rfl, lw, hmap, ?_, _, hT⟩
      simp only [zap]
      simpa using hW
end R
end Ev
end Go.Proofs.YtlkhjnpflohfeaaDoor

/- The reference of chapter 06, gone through: the span of a day's depths. -/
namespace Go.Proofs.YtlkhjnpflohfeaaDoor
open Go
namespace Ev
namespace R
set_option maxRecDepth 100000
theorem zfw : ∀ (l : List (Int × AV)) (i : Nat) (h : i < l.length), (waysCs l)[i * 2]? = some (.int .i64 l[i].1) ∧ (waysCs l)[i * 2 + 1]? = some l[i].2
  | [], i, h => by simp at h
  | p :: l, 0, h => by simp [waysCs]
  | p :: l, i + 1, h => by
    have ih := zfw l i (by simpa using h)
    rw [show (i + 1) * 2 = i * 2 + 1 + 1 by omega]
    simpa [waysCs] using ih
structure Seen (mn : Nat) (P : Nat → Prop) (lo hi : Int) : Prop where
  all : ∀ n, P n → lo ≤ n ∧ (n : Int) ≤ hi
  lo0 : lo = mn ∨ ∃ n, P n ∧ lo = n
  hi0 : hi = 0 ∨ ∃ n, P n ∧ hi = n
  in0 : lo ≤ mn ∧ 0 ≤ hi
theorem Seen.next {mn : Nat} {P Q : Nat → Prop} {lo hi : Int} (h : Seen mn P lo hi) {n : Nat} (hn : n ≤ mn) (hQ : ∀ i, Q i ↔ P i ∨ i = n) : Seen mn Q (min lo n) (max hi n) := by
  refine ⟨fun i hi' => ?_, ?_, ?_, ?_⟩
  · rcases (hQ i).1 hi' with h1 | rfl
    · have := h.all i h1; omega
    · omega
  · rcases (show min lo (n : Int) = lo ∨ min lo (n : Int) = n by omega) with e | e
    · rw [e]
      rcases h.lo0 with h1 | ⟨i, h1, h2⟩
      · exact .inl h1
      · exact .inr ⟨i, (hQ i).2 (.inl h1), h2⟩
    · rw [e]; exact .inr ⟨n, (hQ n).2 (.inr rfl), rfl⟩
  · rcases (show max hi (n : Int) = hi ∨ max hi (n : Int) = n by omega) with e | e
    · rw [e]
      rcases h.hi0 with h1 | ⟨i, h1, h2⟩
      · exact .inl h1
      · exact .inr ⟨i, (hQ i).2 (.inl h1), h2⟩
    · rw [e]; exact .inr ⟨n, (hQ n).2 (.inr rfl), rfl⟩
  · have := h.in0; omega
theorem Seen.same {mn : Nat} {P Q : Nat → Prop} {lo hi : Int} (h : Seen mn P lo hi) (hQ : ∀ i, Q i ↔ P i) : Seen mn Q lo hi :=
  ⟨fun i hi' => h.all i ((hQ i).1 hi'), h.lo0.imp id fun ⟨i, h1, h2⟩ => ⟨i, (hQ i).2 h1, h2⟩, h.hi0.imp id fun ⟨i, h1, h2⟩ => ⟨i, (hQ i).2 h1, h2⟩, h.in0⟩
set_option maxHeartbeats 8000000 in
theorem ztp (C : Cfg) (hC : C.calm = true) (call : CallF) (a b k l : Int) (mn : Nat) (hm100 : mn ≤ 100) (r : List (Int × Int)) (bs : List Boat) (ls : List Look) (G : List AB) (v : AV) (x : CutD) (hx : x.rain.length = r.length) (s low d : Nat) (hd : d ≤ r.length) (lw : List (Int × AV)) (hW : WaysAt G v x s mn low lw) (hne : lw ≠ []) (hll : lw.length ≤ 20) :
    Does (ev C call G.length none af50.body { tm := tmA 46 (zipI 0 [.agg [.int .i64 a, .int .i64 b, .int .i64 k, .int .i64 l, .vs 2 (r.map spanE), .int .i64 mn, .vs 4 (bs.map boatE), .vs 3 (ls.map lookE)], v, .int .i64 d] []), df := [], hp := G, tc := [] })
      (fun e st => e = .ret ∧ st.df = [] ∧ st.tc = [] ∧ ∃ lo hi B6, st.tm.getD 6 .unk = .ptr B6 0 ∧ st.hp[B6]? = some (.cells [.int .i64 lo, .int .i64 hi]) ∧ Seen mn (fun n => n ≤ mn ∧ ∃ j, ∃ h : j < lw.length, tab x lw[j].1 s mn x.rain.length d n = true) lo hi) := by
  obtain ⟨w, hv, gW, -⟩ : ∃ w, v = .sl w 0 lw.length 2 ∧ G[w]? = some (.cells (waysCs lw)) ∧ low ≤ w := by
    rcases hW.head with h | h
    · exact absurd h.1 hne
    · exact h.2
  subst hv
  have htabs := hW.tabs
  obtain ⟨nW, -⟩ := List.getElem?_eq_some_iff.1 gW
  have gW' := fun K => zcf (K := K) gW
  have nW' : ∀ n, w < G.length + n := fun n => by omega
  have eW' : ∀ K (h : w < (G ++ K).length), (G ++ K)[w]'h = .cells (waysCs lw) := fun K h => by
    have := gW' K
    rw [List.getElem?_eq_getElem h] at this; exact Option.some.inj this
  have HT := hideP htabs
  have HX := hideP (And.intro hx hd)
  clear hW htabs hx gW
  unfold af50
  simp only [zipI]
  (repeat (first | (with_reducible apply zal; (focus ((conv => lhs; simp [ev1, wantG, spineK, spine, float, xnew, xval, xeff, zaa, zab, zaq, zaf, zag, addFl, cellsOf, pickC, alive, slLen, slFt, binI, maxA, maxK, minA, minK, aeqK, aeqS, AV.cells, zac, boatE, spanE, lookE, fillA, setAt, bitsI, nat_nn, AV.plain, apart, Nat.testBit_eq_decide_div_mod_eq, *]) <;> exact rfl)); simp only [addFl]) | ((with_reducible first | refine zam ?_ | refine zao ?_ | refine zak ?_ | refine zai ?_ | refine zae ?_ | refine zan ?_ | refine zaj ?_ | refine zar ?_ | (apply zah; (focus (simp [zaa, *]; done))) | (with_reducible apply zad; (focus (simp [zaa, *]; done)))); try simp only [Then, Ops])))
  refine zbf (fun q st => ∃ (i : Nat) (lo hi : Int), i + q = lw.length ∧ Seen mn (fun n => n ≤ mn ∧ ∃ j, ∃ h : j < lw.length, j < i ∧ tab x lw[j].1 s mn x.rain.length d n = true) lo hi ∧ st = { tm := tmA 46 [(8, .int .i64 i), (7, .ptr (G.length + 2) 0), (6, .ptr (G.length + 1) 0), (3, .ptr G.length 0), (2, .int .i64 d), (1, .sl w 0 lw.length 2)], df := [], hp := G ++ [.cells [.int .i64 a, .int .i64 b, .int .i64 k, .int .i64 l, .vs 2 (r.map spanE), .int .i64 mn, .vs 4 (bs.map boatE), .vs 3 (ls.map lookE)], .cells [.int .i64 0, .int .i64 0], .cells [.int .i64 lo, .int .i64 hi]], tc := [] }) lw.length (by unfold fuelL; omega) ?_ ?_
  · refine ⟨0, mn, 0, by omega, ⟨fun n hn => (by obtain ⟨_, j, h, h1, _⟩ := hn; omega), .inl rfl, .inl rfl, by omega⟩, ?_⟩
    simp only [zat hC]
    exact st_eq (by simp [zas, zau]) rfl rfl rfl
  · rintro q st ⟨i, lo, hi, hq, hS, rfl⟩
    by_cases hi' : i < lw.length
    · have hw : IntKind.i64.wrap ((i : Int) + 1) = (i : Int) + 1 := zbb (by omega) (by omega)
      obtain ⟨ob, rb, hsl, gO, gR⟩ := HT.out _ (List.getElem_mem hi')
      obtain ⟨hx, hd⟩ := HX.out
      have gR := gR d (by omega)
      have ho1 : ((List.range (x.rain.length + 1)).map fun d => AV.sl (rb d) 0 (mn + 1) 1)[d]? = some (.sl (rb d) 0 (mn + 1) 1) := by rw [List.getElem?_map, List.getElem?_range (by omega)]; rfl
      have hr0 : ∀ n, n ≤ mn → ((List.range (mn + 1)).map fun n => AV.bool (tab x lw[i].1 s mn x.rain.length d n))[n]? = some (.bool (tab x lw[i].1 s mn x.rain.length d n)) := fun n hn => by rw [List.getElem?_map, List.getElem?_range (by omega)]; rfl
      have hwc := (zfw lw i hi').2
      rw [hsl] at hwc
      obtain ⟨nO, -⟩ := List.getElem?_eq_some_iff.1 gO
      obtain ⟨nR, -⟩ := List.getElem?_eq_some_iff.1 gR
      generalize ((List.range (x.rain.length + 1)).map fun d => AV.sl (rb d) 0 (mn + 1) 1) = oc at *
      generalize ((List.range (mn + 1)).map fun n => AV.bool (tab x lw[i].1 s mn x.rain.length d n)) = rc at *
      generalize rb d = rd at *
      have gO' := fun K => zcf (K := K) gO
      have nO' : ∀ n, ob < G.length + n := fun n => by omega
      have eO' : ∀ K (h : ob < (G ++ K).length), (G ++ K)[ob]'h = .cells oc := fun K h => by
        have := gO' K
        rw [List.getElem?_eq_getElem h] at this; exact Option.some.inj this
      have gR' := fun K => zcf (K := K) gR
      have nR' : ∀ n, rd < G.length + n := fun n => by omega
      have eR' : ∀ K (h : rd < (G ++ K).length), (G ++ K)[rd]'h = .cells rc := fun K h => by
        have := gR' K
        rw [List.getElem?_eq_getElem h] at this; exact Option.some.inj this
      have hdn : (d : Int) < (x.rain.length : Int) + 1 := by omega
      have HR := hideP hr0
      have HQ := hideP (And.intro hq hS)
      rw [hx] at hdn hsl
      rw [hx] at hwc
      clear hq hS hr0 gO gR hsl hx hd
      (repeat (first | (with_reducible apply zal; (focus ((conv => lhs; simp [ev1, wantG, spineK, spine, float, xnew, xval, xeff, zaa, zab, zaq, zaf, zag, addFl, cellsOf, pickC, alive, slLen, slFt, binI, maxA, maxK, minA, minK, aeqK, aeqS, AV.cells, zac, boatE, spanE, lookE, fillA, setAt, bitsI, nat_nn, AV.plain, apart, Nat.testBit_eq_decide_div_mod_eq, *]) <;> exact rfl)); simp only [addFl]) | ((with_reducible first | refine zam ?_ | refine zao ?_ | refine zak ?_ | refine zai ?_ | refine zae ?_ | refine zan ?_ | refine zaj ?_ | refine zar ?_ | (apply zah; (focus (simp [zaa, *]; done))) | (with_reducible apply zad; (focus (simp [zaa, *]; done)))); try simp only [Then, Ops, OutB])))
      refine zbf (fun q' st => ∃ (n : Nat) (lo hi : Int), n + q' = mn + 1 ∧ Seen mn (fun m => m ≤ mn ∧ ((∃ j, ∃ h : j < lw.length, j < i ∧ tab x lw[j].1 s mn x.rain.length d m = true) ∨ m < n ∧ tab x lw[i].1 s mn x.rain.length d m = true)) lo hi ∧ st = { tm := tmA 46 [(9, .int .i64 n), (8, .int .i64 i), (7, .ptr (G.length + 2) 0), (6, .ptr (G.length + 1) 0), (3, .ptr G.length 0), (2, .int .i64 d), (1, .sl w 0 lw.length 2)], df := [], hp := G ++ [.cells [.int .i64 a, .int .i64 b, .int .i64 k, .int .i64 l, .vs 2 (r.map spanE), .int .i64 mn, .vs 4 (bs.map boatE), .vs 3 (ls.map lookE)], .cells [.int .i64 0, .int .i64 0], .cells [.int .i64 lo, .int .i64 hi]], tc := [] }) (mn + 1) (by unfold fuelL; omega) ?_ ?_
      · refine ⟨0, lo, hi, by omega, HQ.out.2.same fun m => ?_, ?_⟩
        · constructor
          · rintro ⟨h1, h2 | ⟨h2, _⟩⟩
            · exact ⟨h1, h2⟩
            · omega
          · rintro ⟨h1, h2⟩; exact ⟨h1, .inl h2⟩
        · simp only [zat hC]
          exact st_eq (by simp [zas, zau]) rfl rfl rfl
      · rintro q' st ⟨n, lo', hi2, hq', hS', rfl⟩
        by_cases hn : n ≤ mn
        · have hwn : IntKind.i64.wrap ((n : Int) + 1) = (n : Int) + 1 := zbb (by omega) (by omega)
          have hn' : (n : Int) < (mn : Int) + 1 := by omega
          have hin : (i : Int) < (lw.length : Int) := by omega
          have h1 := HR.out n hn
          have HQ' := hideP (And.intro hq' hS')
          clear hq' hS'
          cases hb : tab x lw[i].1 s mn x.rain.length d n with
          | true =>
            rw [hb] at h1
            have HB := hideP hb
            clear hb
            (repeat (first | (with_reducible apply zal; (focus ((conv => lhs; simp [ev1, wantG, spineK, spine, float, xnew, xval, xeff, zaa, zab, zaq, zaf, zag, addFl, cellsOf, pickC, alive, slLen, slFt, binI, maxA, maxK, minA, minK, aeqK, aeqS, AV.cells, zac, boatE, spanE, lookE, fillA, setAt, bitsI, nat_nn, AV.plain, apart, Nat.testBit_eq_decide_div_mod_eq, *]) <;> exact rfl)); simp only [addFl]) | ((with_reducible first | refine zam ?_ | refine zao ?_ | refine zak ?_ | refine zai ?_ | refine zae ?_ | refine zan ?_ | refine zaj ?_ | refine zar ?_ | (apply zah; (focus (simp [zaa, *]; done))) | (with_reducible apply zad; (focus (simp [zaa, *]; done)))); try simp only [Then, Ops, OutB])))
            obtain ⟨hq', hS'⟩ := HQ'.out
            refine ⟨q' - 1, by omega, n + 1, _, _, by omega, hS'.next (n := n) hn fun m => ?_, ?_⟩
            · constructor
              · rintro ⟨h1, h2 | ⟨h2, h3⟩⟩
                · exact .inl ⟨h1, .inl h2⟩
                · rcases (show m < n ∨ m = n by omega) with h | h
                  · exact .inl ⟨h1, .inr ⟨h, h3⟩⟩
                  · exact .inr h
              · rintro (⟨h1, h2 | ⟨h2, h3⟩⟩ | rfl)
                · exact ⟨h1, .inl h2⟩
                · exact ⟨h1, .inr ⟨by omega, h3⟩⟩
                · exact ⟨hn, .inr ⟨by omega, HB.out⟩⟩
            · simp only [zat hC]
              exact st_eq (by simp [zas, zau]) rfl (by simp) rfl
          | false =>
            rw [hb] at h1
            have HB := hideP hb
            clear hb
            (repeat (first | (with_reducible apply zal; (focus ((conv => lhs; simp [ev1, wantG, spineK, spine, float, xnew, xval, xeff, zaa, zab, zaq, zaf, zag, addFl, cellsOf, pickC, alive, slLen, slFt, binI, maxA, maxK, minA, minK, aeqK, aeqS, AV.cells, zac, boatE, spanE, lookE, fillA, setAt, bitsI, nat_nn, AV.plain, apart, Nat.testBit_eq_decide_div_mod_eq, *]) <;> exact rfl)); simp only [addFl]) | ((with_reducible first | refine zam ?_ | refine zao ?_ | refine zak ?_ | refine zai ?_ | refine zae ?_ | refine zan ?_ | refine zaj ?_ | refine zar ?_ | (apply zah; (focus (simp [zaa, *]; done))) | (with_reducible apply zad; (focus (simp [zaa, *]; done)))); try simp only [Then, Ops, OutB])))
            obtain ⟨hq', hS'⟩ := HQ'.out
            refine ⟨q' - 1, by omega, n + 1, lo', hi2, by omega, hS'.same fun m => ?_, ?_⟩
            · constructor
              · rintro ⟨h1, h2 | ⟨h2, h3⟩⟩
                · exact ⟨h1, .inl h2⟩
                · rcases (show m < n ∨ m = n by omega) with h | rfl
                  · exact ⟨h1, .inr ⟨h, h3⟩⟩
                  · rw [HB.out] at h3; cases h3
              · rintro ⟨h1, h2 | ⟨h2, h3⟩⟩
                · exact ⟨h1, .inl h2⟩
                · exact ⟨h1, .inr ⟨by omega, h3⟩⟩
            · simp only [zat hC]
              exact st_eq (by simp [zas, zau]) rfl rfl rfl
        · obtain rfl : n = mn + 1 := by omega
          have hx1 : ¬ ((mn : Int) + 1 ≤ mn) := by omega
          have HS := hideP hS'
          clear hS' hq'
          (repeat (first | (with_reducible apply zal; (focus ((conv => lhs; simp [ev1, wantG, spineK, spine, float, xnew, xval, xeff, zaa, zab, zaq, zaf, zag, addFl, cellsOf, pickC, alive, slLen, slFt, binI, maxA, maxK, minA, minK, aeqK, aeqS, AV.cells, zac, boatE, spanE, lookE, fillA, setAt, bitsI, nat_nn, AV.plain, apart, Nat.testBit_eq_decide_div_mod_eq, *]) <;> exact rfl)); simp only [addFl]) | ((with_reducible first | refine zam ?_ | refine zao ?_ | refine zak ?_ | refine zai ?_ | refine zae ?_ | refine zan ?_ | refine zaj ?_ | refine zar ?_ | (apply zah; (focus (simp [zaa, *]; done))) | (with_reducible apply zad; (focus (simp [zaa, *]; done)))); try simp only [Then, Ops, OutB, reduceIte])))
          obtain ⟨hq, -⟩ := HQ.out
          refine ⟨q - 1, by omega, i + 1, lo', hi2, by omega, HS.out.same fun m => ?_, ?_⟩
          · constructor
            · rintro ⟨h1, j, h2, h3, h4⟩
              rcases (show j < i ∨ j = i by omega) with h | rfl
              · exact ⟨h1, .inl ⟨j, h2, h, h4⟩⟩
              · exact ⟨h1, .inr ⟨by omega, h4⟩⟩
            · rintro ⟨h1, ⟨j, h2, h3, h4⟩ | ⟨h2, h3⟩⟩
              · exact ⟨h1, j, h2, by omega, h4⟩
              · exact ⟨h1, i, hi', by omega, h3⟩
          · simp only [zat hC]
            exact st_eq (by simp [zas, zau]) rfl rfl rfl
    · obtain rfl : i = lw.length := by omega
      have HS := hideP hS
      clear hS hq
      (repeat (first | (with_reducible apply zal; (focus ((conv => lhs; simp [ev1, wantG, spineK, spine, float, xnew, xval, xeff, zaa, zab, zaq, zaf, zag, addFl, cellsOf, pickC, alive, slLen, slFt, binI, maxA, maxK, minA, minK, aeqK, aeqS, AV.cells, zac, boatE, spanE, lookE, fillA, setAt, bitsI, nat_nn, AV.plain, apart, Nat.testBit_eq_decide_div_mod_eq, *]) <;> exact rfl)); simp only [addFl]) | ((with_reducible first | refine zam ?_ | refine zao ?_ | refine zak ?_ | refine zai ?_ | refine zae ?_ | refine zan ?_ | refine zaj ?_ | refine zar ?_ | (apply zah; (focus (simp [zaa, *]; done))) | (with_reducible apply zad; (focus (simp [zaa, *]; done)))); try simp only [Then, Ops, OutB, reduceIte])))
      refine ⟨by first | trivial | rfl, by first | trivial | rfl, by first | trivial | rfl, lo, hi, G.length + 1, by simp only [zap]; simp, by simp, HS.out.same fun m => ?_⟩
      constructor
      · rintro ⟨h1, j, h2, h3⟩; exact ⟨h1, j, h2, h2, h3⟩
      · rintro ⟨h1, j, h2, _, h3⟩; exact ⟨h1, j, h2, h3⟩
end R
end Ev
end Go.Proofs.YtlkhjnpflohfeaaDoor

/- The reference of chapter 06, gone through: all ways, or why there are none. -/
namespace Go.Proofs.YtlkhjnpflohfeaaDoor
open Go
namespace Ev
namespace R
set_option maxRecDepth 100000
theorem mem_waysL {x : CutD} {s mn : Nat} {v : Int} : ∀ {cnt : Nat}, v ∈ waysL x s mn cnt ↔ ∃ i : Nat, i < cnt ∧ v = x.leak.1 + i ∧ someB x v s mn = true
  | 0 => by simp [waysL]
  | c + 1 => by
    unfold waysL
    rw [List.mem_append, mem_waysL (cnt := c)]
    constructor
    · rintro (⟨i, h1, h2, h3⟩ | h)
      · exact ⟨i, by omega, h2, h3⟩
      · split at h
        · rename_i hb
          rw [List.mem_singleton] at h
          subst h
          exact ⟨c, by omega, rfl, hb⟩
        · cases h
    · rintro ⟨i, h1, h2, h3⟩
      rcases (show i < c ∨ i = c by omega) with h | rfl
      · exact .inl ⟨i, h, h2, h3⟩
      · right
        rw [h2] at h3 ⊢
        rw [if_pos h3]; exact List.mem_singleton.2 rfl
theorem zht {x : CutD} {s mn : Nat} : ∀ cnt : Nat, (waysL x s mn cnt).Pairwise (· < ·)
  | 0 => List.Pairwise.nil
  | c + 1 => by
    unfold waysL
    rw [List.pairwise_append]
    refine ⟨zht c, by split <;> simp, fun a ha b hb => ?_⟩
    obtain ⟨i, h1, h2, _⟩ := mem_waysL.1 ha
    split at hb
    · rw [List.mem_singleton] at hb; omega
    · cases hb
theorem zde {x : CutD} (V : Cut.Valid x) {s mn : Nat} (hm : x.most = mn) {v : Int} : v ∈ waysL x s mn (x.leak.2 - x.leak.1 + 1).toNat ↔ Cut.inS x.leak v ∧ ∃ t, Cut.Truth x v s t := by
  have := V.l1
  rw [mem_waysL]
  unfold Cut.inS
  constructor
  · rintro ⟨i, h1, h2, h3⟩
    exact ⟨by omega, (zki V hm).1 h3⟩
  · rintro ⟨h1, h2⟩
    exact ⟨(v - x.leak.1).toNat, by omega, by omega, (zki V hm).2 h2⟩
theorem zin {x : CutD} (V : Cut.Valid x) {s mn : Nat} (hm : x.most = mn) : waysL x s mn (x.leak.2 - x.leak.1 + 1).toNat = [] ↔ Cut.can x s = false := by
  cases hc : Cut.can x s with
  | true =>
    obtain ⟨leak, h1, t, h2⟩ := (Cut.can_iff V s).1 hc
    have := (zde V hm).2 ⟨h1, t, h2⟩
    constructor
    · intro h; rw [h] at this; cases this
    · intro h; cases h
  | false =>
    refine ⟨fun _ => rfl, fun _ => ?_⟩
    rw [List.eq_nil_iff_forall_not_mem]
    intro v hv
    obtain ⟨h1, t, h2⟩ := (zde V hm).1 hv
    rw [(Cut.can_iff V s).2 ⟨v, h1, t, h2⟩] at hc
    cases hc
theorem zrz {x : CutD} (V : Cut.Valid x) {mn : Nat} (hm : x.most = mn) (hc : Cut.can x (Cut.every x) = true) {d : Nat} (hd : d ≤ x.rain.length) {lw : List (Int × AV)} (hl : lw.map (·.1) = waysL x (Cut.every x) mn (x.leak.2 - x.leak.1 + 1).toNat) {lo hi : Int}
    (h : Seen mn (fun n => n ≤ mn ∧ ∃ j, ∃ h : j < lw.length, tab x lw[j].1 (Cut.every x) mn x.rain.length d n = true) lo hi) : lo = (Cut.water x d).1 ∧ hi = (Cut.water x d).2 := by
  have hP : ∀ n : Nat, (n ≤ mn ∧ ∃ j, ∃ h : j < lw.length, tab x lw[j].1 (Cut.every x) mn x.rain.length d n = true) ↔ ∃ leak t, Cut.inS x.leak leak ∧ Cut.Truth x leak (Cut.every x) t ∧ t d = (n : Int) := by
    intro n
    constructor
    · rintro ⟨h1, j, h2, h3⟩
      obtain ⟨t, h4, h5⟩ := (zfx V hm hd h1).1 h3
      have hmem : lw[j].1 ∈ waysL x (Cut.every x) mn (x.leak.2 - x.leak.1 + 1).toNat := by rw [← hl]; exact List.mem_map.2 ⟨lw[j], List.getElem_mem h2, rfl⟩
      exact ⟨lw[j].1, t, ((zde V hm).1 hmem).1, h4, h5⟩
    · rintro ⟨leak, t, h1, h2, h3⟩
      have hb := Cut.FR_in V (h2.fr d hd)
      have hn : n ≤ mn := by omega
      refine ⟨hn, ?_⟩
      have hmem := (zde V hm).2 ⟨h1, t, h2⟩
      rw [← hl] at hmem
      obtain ⟨p, hp, rfl⟩ := List.mem_map.1 hmem
      obtain ⟨j, hj, rfl⟩ := List.getElem_of_mem hp
      exact ⟨j, hj, (zfx V hm hd hn).2 ⟨t, h2, h3⟩⟩
  obtain ⟨w1, ⟨k1, t1, a1, a2, a3⟩, k2, t2, b1, b2, b3⟩ := Cut.water_spec V hc d hd
  have f1 := Cut.FR_in V (a2.fr d hd)
  have f2 := Cut.FR_in V (b2.fr d hd)
  obtain ⟨n1, e1⟩ := Int.eq_ofNat_of_zero_le f1.1
  obtain ⟨n2, e2⟩ := Int.eq_ofNat_of_zero_le f2.1
  have s1 := h.all n1 ((hP n1).2 ⟨k1, t1, a1, a2, e1⟩)
  have s2 := h.all n2 ((hP n2).2 ⟨k2, t2, b1, b2, e2⟩)
  have in0 := h.in0
  constructor
  · rcases h.lo0 with h0 | ⟨n, h0, h00⟩
    · omega
    · obtain ⟨lk, t, c1, c2, c3⟩ := (hP n).1 h0
      have := w1 lk t c1 c2
      unfold Cut.inS at this
      omega
  · rcases h.hi0 with h0 | ⟨n, h0, h00⟩
    · omega
    · obtain ⟨lk, t, c1, c2, c3⟩ := (hP n).1 h0
      have := w1 lk t c1 c2
      unfold Cut.inS at this
      omega
theorem zwi {x : CutD} (V : Cut.Valid x) {mn : Nat} (hm : x.most = mn) (hc : Cut.can x (Cut.every x) = true) {lw : List (Int × AV)} (hl : lw.map (·.1) = waysL x (Cut.every x) mn (x.leak.2 - x.leak.1 + 1).toNat) (h0 : 0 < lw.length) :
    lw[0].1 = (Cut.leakSpan x).1 ∧ (lw[lw.length - 1]'(by omega)).1 = (Cut.leakSpan x).2 := by
  obtain ⟨w1, ⟨a1, a2⟩, b1, b2⟩ := Cut.leak_spec V hc
  have hs := zht (x := x) (s := Cut.every x) (mn := mn) (x.leak.2 - x.leak.1 + 1).toNat
  rw [← hl, List.pairwise_map, List.pairwise_iff_getElem] at hs
  have hin : ∀ j (h : j < lw.length), Cut.inS (Cut.leakSpan x) lw[j].1 := fun j h => by
    have hmem : lw[j].1 ∈ waysL x (Cut.every x) mn (x.leak.2 - x.leak.1 + 1).toNat := by rw [← hl]; exact List.mem_map.2 ⟨lw[j], List.getElem_mem h, rfl⟩
    obtain ⟨h1, t, h2⟩ := (zde V hm).1 hmem
    exact w1 _ t h1 h2
  have hex : ∀ v, Cut.inS x.leak v → (∃ t, Cut.Truth x v (Cut.every x) t) → ∃ j, ∃ h : j < lw.length, lw[j].1 = v := fun v h1 h2 => by
    have hmem := (zde V hm).2 ⟨h1, h2⟩
    rw [← hl] at hmem
    obtain ⟨p, hp, rfl⟩ := List.mem_map.1 hmem
    obtain ⟨j, hj, rfl⟩ := List.getElem_of_mem hp
    exact ⟨j, hj, rfl⟩
  obtain ⟨j1, c1, c2⟩ := hex _ a1 a2
  obtain ⟨j2, d1, d2⟩ := hex _ b1 b2
  have i1 := hin 0 h0
  have i2 := hin (lw.length - 1) (by omega)
  unfold Cut.inS at i1 i2
  constructor
  · rcases (show j1 = 0 ∨ 0 < j1 by omega) with rfl | h
    · exact c2
    · have := hs 0 j1 h0 c1 h; omega
  · rcases (show j2 = lw.length - 1 ∨ j2 < lw.length - 1 by omega) with rfl | h
    · exact d2
    · have := hs j2 (lw.length - 1) d1 (by omega) h; omega
end R
end Ev
end Go.Proofs.YtlkhjnpflohfeaaDoor

/- The reference of chapter 06, gone through: all ways, or the error; what they tell of a day. -/
namespace Go.Proofs.YtlkhjnpflohfeaaDoor
open Go
namespace Ev
namespace R
set_option maxRecDepth 100000
def WaysC (call : CallF) : Prop := ∀ (H : List AB) (a b k l : Int) (mn : Nat) (r : List (Int × Int)) (bs : List Boat) (ls : List Look), Cut.Valid ⟨(a, b), (k, l), r, mn, bs, ls⟩ → ∀ (s : Nat), s < 1048576 →
  ∃ K v lw, call (.fn (.func 77) [] []) [.agg [.int .i64 a, .int .i64 b, .int .i64 k, .int .i64 l, .vs 2 (r.map spanE), .int .i64 mn, .vs 4 (bs.map boatE), .vs 3 (ls.map lookE)], .int .i64 s] H = some (.ret v, H ++ K, []) ∧
    lw.map (·.1) = waysL ⟨(a, b), (k, l), r, mn, bs, ls⟩ s mn (l - k + 1).toNat ∧ WaysAt (H ++ K) v ⟨(a, b), (k, l), r, mn, bs, ls⟩ s mn (H.length + 1) lw
theorem zto {C : Cfg} {n : Nat} (hc : C.calm = true) (h : Has C 77 af77) (hD : DepthsC (Ev.call C n)) : WaysC (Ev.call C (n + 1)) := by
  intro H a b k l mn r bs ls V s hs
  have := zfq (n := n) (first := []) (captured := []) (args := [.agg [.int .i64 a, .int .i64 b, .int .i64 k, .int .i64 l, .vs 2 (r.map spanE), .int .i64 mn, .vs 4 (bs.map boatE), .vs 3 (ls.map lookE)], .int .i64 s]) (H := H)
    (R := fun x H' tc => tc = [] ∧ ∃ K v lw, x = .ret v ∧ H' = H ++ K ∧ lw.map (·.1) = waysL ⟨(a, b), (k, l), r, mn, bs, ls⟩ s mn (l - k + 1).toNat ∧ WaysAt (H ++ K) v ⟨(a, b), (k, l), r, mn, bs, ls⟩ s mn (H.length + 1) lw)
    hc h.ext h.exth h.fns h.whole (show (2 : Nat) ≤ 32 by omega) (by
    refine (zxp C hc (Ev.call C n) hD a b k l mn r bs ls V s hs H).mono fun e st ⟨h1, h2, h3, lw, h4, h5, T, h6⟩ => ?_
    subst h1
    have e1 : ∀ p, runDefs C p st.df none st = some (none, st) := fun p => by rw [h2]; rfl
    refine ⟨.ret (st.tm.getD 4 .unk), st, ?_, ?_⟩
    · show (match runDefs C H.length st.df none st with
        | some (none, st) => (resL st [.tmp 4]).map fun vs => (CRes.ret (resV vs), st)
        | _ => none) = _
      rw [e1]; rfl
    · unfold Left
      rw [h3]
      rcases h5.head with ⟨g1, g2⟩ | ⟨g1, w, g2, g3, g4⟩
      · rw [if_pos (by rw [g2]; rfl)]
        exact ⟨rfl, [], _, lw, rfl, by simp, h4, ⟨.inl ⟨g1, g2⟩, fun p hp => by rw [g1] at hp; cases hp⟩⟩
      · rw [if_neg (by rw [g2]; unfold bareQ; simp [CRes.val, refs])]
        have e2 : overH H st.hp [] ++ st.hp.drop H.length = H ++ T := by
          rw [h6]; simp [overH]
        rw [e2]
        exact ⟨rfl, T, _, lw, rfl, rfl, h4, by rw [← h6]; exact h5⟩)
  obtain ⟨x, H', tc, h1, rfl, K, v, lw, rfl, rfl, h2, h3⟩ := this
  exact ⟨K, v, lw, h1, h2, h3⟩
def EveryC (call : CallF) : Prop := ∀ (H : List AB) (a b k l m : Int) (r : List (Int × Int)) (bs : List Boat) (ls : List Look), ls.length ≤ 5 →
  call (.fn (.func 78) [] []) [.agg [.int .i64 a, .int .i64 b, .int .i64 k, .int .i64 l, .vs 2 (r.map spanE), .int .i64 m, .vs 4 (bs.map boatE), .vs 3 (ls.map lookE)]] H = some (.ret (.int .i64 (2 ^ ls.length - 1 : Nat)), H, [])
theorem zwe (C : Cfg) (call : CallF) (hP : PowerC call) (H : List AB) (a b k l m : Int) (r : List (Int × Int)) (bs : List Boat) (ls : List Look) (h5 : ls.length ≤ 5) :
    Does (ev C call H.length none af78.body { tm := tmA 8 (zipI 0 [.agg [.int .i64 a, .int .i64 b, .int .i64 k, .int .i64 l, .vs 2 (r.map spanE), .int .i64 m, .vs 4 (bs.map boatE), .vs 3 (ls.map lookE)]] []), df := [], hp := H, tc := [] }) (Gives 2 (.int .i64 (2 ^ ls.length - 1 : Nat))) := by
  have h1 := fun H => hP H ls.length (by omega)
  have hp : (2 : Nat) ^ ls.length ≤ 2 ^ 5 := Nat.pow_le_pow_right (by decide) h5
  have hp1 : 0 < (2 : Nat) ^ ls.length := Nat.pow_pos (by decide)
  generalize (2 : Nat) ^ ls.length = p at *
  have hw : IntKind.i64.wrap ((p : Int) - 1) = ((p - 1 : Nat) : Int) := by rw [zbb (by omega) (by omega)]; omega
  generalize p - 1 = p1 at *
  clear hP hp hp1 h5
  unfold af78
  simp only [zipI]
  (repeat (first | (with_reducible apply zal; (focus ((conv => lhs; simp [ev1, wantG, spineK, spine, float, xnew, xval, xeff, zaa, zab, zaq, zaf, zag, addFl, cellsOf, pickC, alive, slLen, slFt, binI, maxA, maxK, minA, minK, aeqK, aeqS, AV.cells, zac, boatE, spanE, lookE, fillA, setAt, bitsI, nat_nn, AV.plain, apart, Nat.testBit_eq_decide_div_mod_eq, *]) <;> exact rfl)); simp only [addFl]) | ((with_reducible first | refine zam ?_ | refine zao ?_ | refine zak ?_ | refine zai ?_ | refine zae ?_ | refine zan ?_ | refine zaj ?_ | refine zar ?_ | (apply zah; (focus (simp [zaa, *]; done))) | (with_reducible apply zad; (focus (simp [zaa, *]; done)))); try simp only [Then, Ops])))
  exact ⟨by first | trivial | rfl, by first | trivial | rfl, by first | trivial | rfl, by simp only [zap]; simp⟩
end R
end Ev
end Go.Proofs.YtlkhjnpflohfeaaDoor

/- told -/
namespace Go.Proofs.YtlkhjnpflohfeaaDoor
open Go
namespace Ev
namespace R
set_option maxRecDepth 100000
set_option maxHeartbeats 8000000 in
theorem zxy (C : Cfg) (call : CallF) (a b k l m : Int) (r : List (Int × Int)) (bs : List Boat) (ls : List Look) (hV : ∀ H, call (.fn (.func 35) [] []) [.agg [.int .i64 a, .int .i64 b, .int .i64 k, .int .i64 l, .vs 2 (r.map spanE), .int .i64 m, .vs 4 (bs.map boatE), .vs 3 (ls.map lookE)]] H = some (.ret (.bool (Cut.valid ⟨(a, b), (k, l), r, m, bs, ls⟩)), H, [])) (hE : EveryC call) (hWy : WaysC call) (vb : Bool) (H : List AB) :
    Does (ev C call H.length none af48.body { tm := tmA 20 (zipI 0 [.agg [.int .i64 a, .int .i64 b, .int .i64 k, .int .i64 l, .vs 2 (r.map spanE), .int .i64 m, .vs 4 (bs.map boatE), .vs 3 (ls.map lookE)], .bool vb] []), df := [], hp := H, tc := [] })
      (fun e st => e = .ret ∧ st.df = [] ∧ st.tc = [] ∧ ((toldErr ⟨(a, b), (k, l), r, m, bs, ls⟩ vb ≠ 0 ∧ st.tm.getD 4 .unk = .nils ∧ st.tm.getD 5 .unk = .int .i64 (toldErr ⟨(a, b), (k, l), r, m, bs, ls⟩ vb)) ∨
        (toldErr ⟨(a, b), (k, l), r, m, bs, ls⟩ vb = 0 ∧ ∃ mn : Nat, m = mn ∧ ∃ lw, st.tm.getD 5 .unk = .int .i64 0 ∧ lw ≠ [] ∧ lw.map (·.1) = waysL ⟨(a, b), (k, l), r, m, bs, ls⟩ (Cut.every ⟨(a, b), (k, l), r, m, bs, ls⟩) mn (l - k + 1).toNat ∧ WaysAt st.hp (st.tm.getD 4 .unk) ⟨(a, b), (k, l), r, m, bs, ls⟩ (Cut.every ⟨(a, b), (k, l), r, m, bs, ls⟩) mn (H.length + 2) lw ∧ ∃ T, st.hp = H ++ T))) := by
  cases hv : Cut.valid ⟨(a, b), (k, l), r, m, bs, ls⟩ with
  | false =>
    have ht := zbq (b := vb) hv
    rw [ht]
    rw [hv] at hV
    clear hv ht
    unfold af48
    simp only [zipI]
    (repeat (first | (with_reducible apply zal; (focus ((conv => lhs; simp [ev1, wantG, spineK, spine, float, xnew, xval, xeff, zaa, zab, zaq, zaf, zag, addFl, cellsOf, pickC, alive, slLen, slFt, binI, maxA, maxK, minA, minK, aeqK, aeqS, AV.cells, zac, boatE, spanE, lookE, fillA, setAt, bitsI, nat_nn, AV.plain, apart, Nat.testBit_eq_decide_div_mod_eq, *]) <;> exact rfl)); simp only [addFl]) | ((with_reducible first | refine zam ?_ | refine zao ?_ | refine zak ?_ | refine zai ?_ | refine zae ?_ | refine zan ?_ | refine zaj ?_ | refine zar ?_ | (apply zah; (focus (simp [zaa, *]; done))) | (with_reducible apply zad; (focus (simp [zaa, *]; done)))); try simp only [Then, Ops])))
    exact ⟨by first | trivial | rfl, by first | trivial | rfl, by first | trivial | rfl, .inl ⟨by decide, by simp only [zap]; simp, by simp only [zap]; simp⟩⟩
  | true =>
    have hv' := hv
    rw [hv] at hV
    cases vb with
    | false =>
      have ht := zbz hv
      rw [ht]
      clear hv hv' ht
      unfold af48
      simp only [zipI]
      (repeat (first | (with_reducible apply zal; (focus ((conv => lhs; simp [ev1, wantG, spineK, spine, float, xnew, xval, xeff, zaa, zab, zaq, zaf, zag, addFl, cellsOf, pickC, alive, slLen, slFt, binI, maxA, maxK, minA, minK, aeqK, aeqS, AV.cells, zac, boatE, spanE, lookE, fillA, setAt, bitsI, nat_nn, AV.plain, apart, Nat.testBit_eq_decide_div_mod_eq, *]) <;> exact rfl)); simp only [addFl]) | ((with_reducible first | refine zam ?_ | refine zao ?_ | refine zak ?_ | refine zai ?_ | refine zae ?_ | refine zan ?_ | refine zaj ?_ | refine zar ?_ | (apply zah; (focus (simp [zaa, *]; done))) | (with_reducible apply zad; (focus (simp [zaa, *]; done)))); try simp only [Then, Ops])))
      exact ⟨by first | trivial | rfl, by first | trivial | rfl, by first | trivial | rfl, .inl ⟨by decide, by simp only [zap]; simp, by simp only [zap]; simp⟩⟩
    | true =>
      have V := Cut.valid_of hv
      have hm1 : 1 ≤ m := V.m1
      obtain ⟨mn, rfl⟩ := Int.eq_ofNat_of_zero_le (show 0 ≤ m by omega)
      have hev : Cut.every ⟨(a, b), (k, l), r, (mn : Int), bs, ls⟩ = 2 ^ ls.length - 1 := rfl
      have k5 : ls.length ≤ 5 := V.k5
      have hp : (2 : Nat) ^ ls.length ≤ 2 ^ 5 := Nat.pow_le_pow_right (by decide) k5
      have h1 := fun H => hE H a b k l mn r bs ls k5
      rw [← hev] at h1
      obtain ⟨K, v, lw, h2, h3, h4⟩ := hWy (H ++ [.cells [.int .i64 a, .int .i64 b, .int .i64 k, .int .i64 l, .vs 2 (r.map spanE), .int .i64 mn, .vs 4 (bs.map boatE), .vs 3 (ls.map lookE)]]) a b k l mn r bs ls V (Cut.every ⟨(a, b), (k, l), r, mn, bs, ls⟩) (by omega)
      have hcan : lw = [] ↔ Cut.can ⟨(a, b), (k, l), r, mn, bs, ls⟩ (Cut.every ⟨(a, b), (k, l), r, mn, bs, ls⟩) = false := by
        rw [← zin V (mn := mn) rfl]
        show lw = [] ↔ waysL _ _ mn (l - k + 1).toNat = []
        rw [← h3]; simp
      have htk := fun hc => zci hv hc
      have htc := fun hc => zbm hv hc
      have hlen : (H ++ [AB.cells [.int .i64 a, .int .i64 b, .int .i64 k, .int .i64 l, .vs 2 (r.map spanE), .int .i64 mn, .vs 4 (bs.map boatE), .vs 3 (ls.map lookE)]]).length + 1 = H.length + 2 := by simp
      rw [hlen] at h4
      have hG : H ++ [AB.cells [.int .i64 a, .int .i64 b, .int .i64 k, .int .i64 l, .vs 2 (r.map spanE), .int .i64 mn, .vs 4 (bs.map boatE), .vs 3 (ls.map lookE)]] ++ K = H ++ (AB.cells [.int .i64 a, .int .i64 b, .int .i64 k, .int .i64 l, .vs 2 (r.map spanE), .int .i64 mn, .vs 4 (bs.map boatE), .vs 3 (ls.map lookE)] :: K) := by simp
      rw [hG] at h2 h4
      generalize Cut.every ⟨(a, b), (k, l), r, (mn : Int), bs, ls⟩ = s at *
      generalize (⟨(a, b), (k, l), r, (mn : Int), bs, ls⟩ : CutD) = c at *
      generalize hTT : (AB.cells [.int .i64 a, .int .i64 b, .int .i64 k, .int .i64 l, .vs 2 (r.map spanE), .int .i64 (mn : Int), .vs 4 (bs.map boatE), .vs 3 (ls.map lookE)] :: K) = TT at h2 h4
      rcases h4.head with ⟨g1, g2⟩ | ⟨g1, w, g2, g3, g4⟩
      · have hcf := hcan.1 g1
        have ht := htc hcf
        rw [ht]
        subst g2
        clear V hm1 hE hWy h3 h4 hcan htk htc hlen hG hp hev k5 hTT hv hv' hcf ht g1
        unfold af48
        simp only [zipI]
        (repeat (first | (with_reducible apply zal; (focus ((conv => lhs; simp [ev1, wantG, spineK, spine, float, xnew, xval, xeff, zaa, zab, zaq, zaf, zag, addFl, cellsOf, pickC, alive, slLen, slFt, binI, maxA, maxK, minA, minK, aeqK, aeqS, AV.cells, zac, boatE, spanE, lookE, fillA, setAt, bitsI, nat_nn, AV.plain, apart, Nat.testBit_eq_decide_div_mod_eq, *]) <;> exact rfl)); simp only [addFl]) | ((with_reducible first | refine zam ?_ | refine zao ?_ | refine zak ?_ | refine zai ?_ | refine zae ?_ | refine zan ?_ | refine zaj ?_ | refine zar ?_ | (apply zah; (focus (simp [zaa, *]; done))) | (with_reducible apply zad; (focus (simp [zaa, *]; done)))); try simp only [Then, Ops])))
        exact ⟨by first | trivial | rfl, by first | trivial | rfl, by first | trivial | rfl, .inl ⟨by decide, by simp only [zap]; simp, by simp only [zap]; simp⟩⟩
      · have hct : Cut.can c s = true := by
          cases hc : Cut.can c s with
          | true => rfl
          | false => exact absurd (hcan.2 hc) g1
        have ht := htk hct
        rw [ht]
        subst g2
        have hl0 : 0 < lw.length := List.length_pos_iff.2 g1
        generalize hG2 : H ++ TT = G2 at h2 g3 h4
        obtain ⟨nW, eW⟩ := List.getElem?_eq_some_iff.1 g3
        have HF := hideP (And.intro h3 (And.intro h4 (And.intro g1 hG2)))
        have hl1 : ¬ lw = [] := g1
        clear V hm1 hE hWy h3 h4 hcan htk htc hlen hG hp hev k5 hTT hv hv' hct ht g1 hG2
        unfold af48
        simp only [zipI]
        (repeat (first | (with_reducible apply zal; (focus ((conv => lhs; simp [ev1, wantG, spineK, spine, float, xnew, xval, xeff, zaa, zab, zaq, zaf, zag, addFl, cellsOf, pickC, alive, slLen, slFt, binI, maxA, maxK, minA, minK, aeqK, aeqS, AV.cells, zac, boatE, spanE, lookE, fillA, setAt, bitsI, nat_nn, AV.plain, apart, Nat.testBit_eq_decide_div_mod_eq, *]) <;> exact rfl)); simp only [addFl]) | ((with_reducible first | refine zam ?_ | refine zao ?_ | refine zak ?_ | refine zai ?_ | refine zae ?_ | refine zan ?_ | refine zaj ?_ | refine zar ?_ | (apply zah; (focus (simp [zaa, *]; done))) | (with_reducible apply zad; (focus (simp [zaa, *]; done)))); try simp only [Then, Ops])))
        obtain ⟨h3, h4, g1, hG2⟩ := HF.out
        exact ⟨by first | trivial | rfl, by first | trivial | rfl, by first | trivial | rfl, .inr ⟨by first | trivial | rfl, mn, rfl, lw, by simp only [zap]; simp, g1, h3, by simp only [zap]; simpa using h4, TT, hG2.symm⟩⟩
end R
end Ev
end Go.Proofs.YtlkhjnpflohfeaaDoor

/- The reference of chapter 06: all ways, or the error, and what they tell of a day, as calls. -/
namespace Go.Proofs.YtlkhjnpflohfeaaDoor
open Go
namespace Ev
namespace R
set_option maxRecDepth 100000
def ToldC (call : CallF) : Prop := ∀ (H : List AB) (a b k l m : Int) (r : List (Int × Int)) (bs : List Boat) (ls : List Look) (vb : Bool),
  (toldErr ⟨(a, b), (k, l), r, m, bs, ls⟩ vb ≠ 0 ∧ call (.fn (.func 48) [] []) [.agg [.int .i64 a, .int .i64 b, .int .i64 k, .int .i64 l, .vs 2 (r.map spanE), .int .i64 m, .vs 4 (bs.map boatE), .vs 3 (ls.map lookE)], .bool vb] H = some (.ret (.tup [.nils, .int .i64 (toldErr ⟨(a, b), (k, l), r, m, bs, ls⟩ vb)]), H, [])) ∨
  (toldErr ⟨(a, b), (k, l), r, m, bs, ls⟩ vb = 0 ∧ ∃ K w cnt cs, call (.fn (.func 48) [] []) [.agg [.int .i64 a, .int .i64 b, .int .i64 k, .int .i64 l, .vs 2 (r.map spanE), .int .i64 m, .vs 4 (bs.map boatE), .vs 3 (ls.map lookE)], .bool vb] H = some (.ret (.tup [.sl w 0 (cnt + 1) 2, .int .i64 0]), H ++ K, []) ∧
    (H ++ K)[w]? = some (.cells cs) ∧ cs[0]? = some (.int .i64 (Cut.leakSpan ⟨(a, b), (k, l), r, m, bs, ls⟩).1) ∧ cs[cnt * 2]? = some (.int .i64 (Cut.leakSpan ⟨(a, b), (k, l), r, m, bs, ls⟩).2) ∧ cnt ≤ 20 ∧
    ∀ K' (d : Nat), d ≤ r.length → call (.fn (.func 50) [] []) [.agg [.int .i64 a, .int .i64 b, .int .i64 k, .int .i64 l, .vs 2 (r.map spanE), .int .i64 m, .vs 4 (bs.map boatE), .vs 3 (ls.map lookE)], .sl w 0 (cnt + 1) 2, .int .i64 d] (H ++ K ++ K') =
      some (.ret (.agg [.int .i64 (Cut.water ⟨(a, b), (k, l), r, m, bs, ls⟩ d).1, .int .i64 (Cut.water ⟨(a, b), (k, l), r, m, bs, ls⟩ d).2]), H ++ K ++ K', []))
theorem told_call {C : Cfg} {n : Nat} (hc : C.calm = true) (h : Has C 48 af48) (hw : Has C 50 af50) (hV : ∀ (H : List AB) (a b k l m : Int) (r : List (Int × Int)) (bs : List Boat) (ls : List Look), Ev.call C n (.fn (.func 35) [] []) [.agg [.int .i64 a, .int .i64 b, .int .i64 k, .int .i64 l, .vs 2 (r.map spanE), .int .i64 m, .vs 4 (bs.map boatE), .vs 3 (ls.map lookE)]] H = some (.ret (.bool (Cut.valid ⟨(a, b), (k, l), r, m, bs, ls⟩)), H, []))
    (hE : EveryC (Ev.call C n)) (hWy : WaysC (Ev.call C n)) : ToldC (Ev.call C (n + 1)) := by
  intro H a b k l m r bs ls vb
  have := zfq (n := n) (first := []) (captured := []) (args := [.agg [.int .i64 a, .int .i64 b, .int .i64 k, .int .i64 l, .vs 2 (r.map spanE), .int .i64 m, .vs 4 (bs.map boatE), .vs 3 (ls.map lookE)], .bool vb]) (H := H)
    (R := fun x H' tc => tc = [] ∧ ((toldErr ⟨(a, b), (k, l), r, m, bs, ls⟩ vb ≠ 0 ∧ x = .ret (.tup [.nils, .int .i64 (toldErr ⟨(a, b), (k, l), r, m, bs, ls⟩ vb)]) ∧ H' = H) ∨
      (toldErr ⟨(a, b), (k, l), r, m, bs, ls⟩ vb = 0 ∧ ∃ mn : Nat, m = mn ∧ ∃ lw v K, x = .ret (.tup [v, .int .i64 0]) ∧ H' = H ++ K ∧ lw ≠ [] ∧ lw.map (·.1) = waysL ⟨(a, b), (k, l), r, m, bs, ls⟩ (Cut.every ⟨(a, b), (k, l), r, m, bs, ls⟩) mn (l - k + 1).toNat ∧ WaysAt (H ++ K) v ⟨(a, b), (k, l), r, m, bs, ls⟩ (Cut.every ⟨(a, b), (k, l), r, m, bs, ls⟩) mn (H.length + 2) lw)))
    hc h.ext h.exth h.fns h.whole (show (2 : Nat) ≤ 20 by omega) (by
    refine (zxy C (Ev.call C n) a b k l m r bs ls (fun H => hV H a b k l m r bs ls) hE hWy vb H).mono fun e st ⟨h1, h2, h3, h4⟩ => ?_
    subst h1
    have e1 : ∀ p, runDefs C p st.df none st = some (none, st) := fun p => by rw [h2]; rfl
    have e0 : finish C H.length af48 .ret st = some (.ret (.tup [st.tm.getD 4 .unk, st.tm.getD 5 .unk]), st) := by
      show (match runDefs C H.length st.df none st with
        | some (none, st) => (resL st [.tmp 4, .tmp 5]).map fun vs => (CRes.ret (resV vs), st)
        | _ => none) = _
      rw [e1]; rfl
    refine ⟨_, st, e0, ?_⟩
    unfold Left
    rw [h3]
    rcases h4 with ⟨g1, g2, g3⟩ | ⟨g1, mn, hm, lw, g2, g3, g4, g5, T, g6⟩
    · rw [g2, g3, if_pos (by unfold bareQ; simp [CRes.val, refs, refsL])]
      exact ⟨rfl, .inl ⟨g1, rfl, rfl⟩⟩
    · obtain ⟨w, hw1, -, -⟩ : ∃ w, st.tm.getD 4 .unk = .sl w 0 lw.length 2 ∧ st.hp[w]? = some (.cells (waysCs lw)) ∧ H.length + 2 ≤ w := by
        rcases g5.head with h | h
        · exact absurd h.1 g3
        · exact h.2
      rw [if_neg (by rw [hw1]; unfold bareQ; simp [CRes.val, refs, refsL])]
      have e2 : overH H st.hp [] ++ st.hp.drop H.length = H ++ T := by rw [g6]; simp [overH]
      rw [e2, g2]
      exact ⟨rfl, .inr ⟨g1, mn, hm, lw, _, T, rfl, rfl, g3, g4, by rw [← g6]; exact g5⟩⟩)
  obtain ⟨x, H', tc, h1, rfl, h2⟩ := this
  rcases h2 with ⟨h2, rfl, rfl⟩ | ⟨h2, mn, rfl, lw, v, K, rfl, rfl, g3, g4, g5⟩
  · exact .inl ⟨h2, h1⟩
  · refine .inr ⟨h2, ?_⟩
    have hv : Cut.valid ⟨(a, b), (k, l), r, (mn : Int), bs, ls⟩ = true := by
      cases hv : Cut.valid ⟨(a, b), (k, l), r, (mn : Int), bs, ls⟩ with
      | true => rfl
      | false => rw [zbq hv] at h2; cases h2
    have V := Cut.valid_of hv
    have hcan : Cut.can ⟨(a, b), (k, l), r, (mn : Int), bs, ls⟩ (Cut.every ⟨(a, b), (k, l), r, (mn : Int), bs, ls⟩) = true := by
      cases hc' : Cut.can ⟨(a, b), (k, l), r, (mn : Int), bs, ls⟩ (Cut.every ⟨(a, b), (k, l), r, (mn : Int), bs, ls⟩) with
      | true => rfl
      | false =>
        have := (zin V (mn := mn) rfl).2 hc'
        have e : lw.map (·.1) = [] := g4.trans this
        exact absurd (List.map_eq_nil_iff.1 e) g3
    obtain ⟨w, hw1, hw2, -⟩ : ∃ w, v = .sl w 0 lw.length 2 ∧ (H ++ K)[w]? = some (.cells (waysCs lw)) ∧ H.length + 2 ≤ w := by
      rcases g5.head with h | h
      · exact absurd h.1 g3
      · exact h.2
    obtain ⟨p0, lw0, hlw⟩ := List.exists_cons_of_ne_nil g3
    have hlen : lw.length = lw0.length + 1 := by rw [hlw]; rfl
    have hl0 : 0 < lw.length := by omega
    have he := zwi V rfl hcan g4 hl0
    have hcnt : lw.length ≤ 11 := by
      have e1 : lw.length = (waysL ⟨(a, b), (k, l), r, (mn : Int), bs, ls⟩ (Cut.every ⟨(a, b), (k, l), r, (mn : Int), bs, ls⟩) mn (l - k + 1).toNat).length := by rw [← g4, List.length_map]
      have e2 : ∀ x s mn j, (waysL x s mn j).length ≤ j := by
        intro x s mn j
        induction j with
        | zero => simp [waysL]
        | succ j ih => unfold waysL; rw [List.length_append]; split <;> simp <;> omega
      have := e2 ⟨(a, b), (k, l), r, (mn : Int), bs, ls⟩ (Cut.every ⟨(a, b), (k, l), r, (mn : Int), bs, ls⟩) mn (l - k + 1).toNat
      have h0 : 0 ≤ k := V.l0
      have h2 : l ≤ 10 := V.l2
      omega
    have hm100 : (mn : Int) ≤ 100 := V.m100
    refine ⟨K, w, lw0.length, waysCs lw, by rw [h1, hw1, hlen], hw2, ?_, ?_, by omega, fun K' d hd => ?_⟩
    · rw [← he.1]
      have := (zfw lw 0 hl0).1
      exact this
    · rw [← he.2]
      have := (zfw lw (lw.length - 1) (by omega)).1
      rw [show lw0.length = lw.length - 1 by omega]
      exact this
    · have hW' : WaysAt (H ++ K ++ K') v ⟨(a, b), (k, l), r, (mn : Int), bs, ls⟩ (Cut.every ⟨(a, b), (k, l), r, (mn : Int), bs, ls⟩) mn (H.length + 2) lw := ⟨by
        rcases g5.head with h | ⟨h0, w, h1, h2, h3⟩
        · exact .inl h
        · exact .inr ⟨h0, w, h1, zcf h2, h3⟩, fun p hp => (g5.tabs p hp).app K'⟩
      have := zfq (n := n) (first := []) (captured := []) (args := [.agg [.int .i64 a, .int .i64 b, .int .i64 k, .int .i64 l, .vs 2 (r.map spanE), .int .i64 (mn : Int), .vs 4 (bs.map boatE), .vs 3 (ls.map lookE)], v, .int .i64 d]) (H := H ++ K ++ K')
        (R := fun x H' tc => x = .ret (.agg [.int .i64 (Cut.water ⟨(a, b), (k, l), r, (mn : Int), bs, ls⟩ d).1, .int .i64 (Cut.water ⟨(a, b), (k, l), r, (mn : Int), bs, ls⟩ d).2]) ∧ H' = H ++ K ++ K' ∧ tc = [])
        hc hw.ext hw.exth hw.fns hw.whole (show (3 : Nat) ≤ 46 by omega) (by
        refine (ztp C hc (Ev.call C n) a b k l mn (by omega) r bs ls (H ++ K ++ K') v ⟨(a, b), (k, l), r, (mn : Int), bs, ls⟩ rfl (Cut.every ⟨(a, b), (k, l), r, (mn : Int), bs, ls⟩) (H.length + 2) d hd lw hW' g3 (by omega)).mono fun e st ⟨h1, h2, h3, lo, hi, B6, h4, h5, h6⟩ => ?_
        subst h1
        obtain ⟨rfl, rfl⟩ := zrz V rfl hcan hd g4 h6
        have e1 : ∀ p, runDefs C p st.df none st = some (none, st) := fun p => by rw [h2]; rfl
        refine ⟨.ret (.agg [.int .i64 (Cut.water ⟨(a, b), (k, l), r, (mn : Int), bs, ls⟩ d).1, .int .i64 (Cut.water ⟨(a, b), (k, l), r, (mn : Int), bs, ls⟩ d).2]), st, ?_, ?_⟩
        · show (match runDefs C (H ++ K ++ K').length st.df none st with
            | some (none, st) => (resL st [.cell 6 (some 2)]).map fun vs => (CRes.ret (resV vs), st)
            | _ => none) = _
          rw [e1]
          show (resL st [.cell 6 (some 2)]).map (fun vs => (CRes.ret (resV vs), st)) = _
          simp only [resL, resOf, h4, h5]; rfl
        · unfold Left
          rw [h3, if_pos (by unfold bareQ; simp [CRes.val, refs, refsL])]
          exact ⟨rfl, rfl, rfl⟩)
      obtain ⟨x, H', tc, k1, rfl, rfl, rfl⟩ := this
      rw [← hlen, ← hw1]
      exact k1
end R
end Ev
end Go.Proofs.YtlkhjnpflohfeaaDoor

/- The reference of chapter 06, gone through: is a number that of a day, a boat, loads of a boat; how a boat floats, and with how many loads. -/
namespace Go.Proofs.YtlkhjnpflohfeaaDoor
open Go
namespace Ev
namespace R
set_option maxRecDepth 100000
def DayC (call : CallF) : Prop := ∀ (H : List AB) (a b k l m : Int) (r : List (Int × Int)) (bs : List Boat) (ls : List Look) (d : Int),
  call (.fn (.func 49) [] []) [.agg [.int .i64 a, .int .i64 b, .int .i64 k, .int .i64 l, .vs 2 (r.map spanE), .int .i64 m, .vs 4 (bs.map boatE), .vs 3 (ls.map lookE)], .int .i64 d] H = some (.ret (.bool (Cut.isDay ⟨(a, b), (k, l), r, m, bs, ls⟩ d)), H, [])
def BoatC (call : CallF) : Prop := ∀ (H : List AB) (a b k l m : Int) (r : List (Int × Int)) (bs : List Boat) (ls : List Look) (d : Int), bs.length ≤ 40 →
  call (.fn (.func 65) [] []) [.agg [.int .i64 a, .int .i64 b, .int .i64 k, .int .i64 l, .vs 2 (r.map spanE), .int .i64 m, .vs 4 (bs.map boatE), .vs 3 (ls.map lookE)], .int .i64 d] H = some (.ret (.bool (Cut.isBoat ⟨(a, b), (k, l), r, m, bs, ls⟩ d)), H, [])
def LoadsC (call : CallF) : Prop := ∀ (H : List AB) (a b k l m : Int) (r : List (Int × Int)) (bs : List Boat) (ls : List Look) (d n : Int), bs.length ≤ 40 →
  call (.fn (.func 60) [] []) [.agg [.int .i64 a, .int .i64 b, .int .i64 k, .int .i64 l, .vs 2 (r.map spanE), .int .i64 m, .vs 4 (bs.map boatE), .vs 3 (ls.map lookE)], .int .i64 d, .int .i64 n] H = some (.ret (.bool (Cut.isLoads ⟨(a, b), (k, l), r, m, bs, ls⟩ d n)), H, [])
def BoatOk (b : Boat) : Prop := 0 ≤ b.draws.1 ∧ b.draws.1 ≤ b.draws.2 ∧ b.draws.2 ≤ 100 ∧ 0 ≤ b.per ∧ b.per ≤ 10 ∧ 0 ≤ b.room ∧ b.room ≤ 10
def FloatsC (call : CallF) : Prop := ∀ (H : List AB) (b : Boat), BoatOk b → ∀ (n lo hi : Int), 0 ≤ n → n ≤ 10 →
  call (.fn (.func 61) [] []) [.agg [.int .i64 b.draws.1, .int .i64 b.draws.2, .int .i64 b.per, .int .i64 b.room], .int .i64 n, .agg [.int .i64 lo, .int .i64 hi]] H = some (.ret (.int .i64 (Cut.floats b n (lo, hi))), H, [])
def MostC (call : CallF) : Prop := ∀ (H : List AB) (b : Boat), BoatOk b → ∀ (lo hi sure : Int), lo ≤ hi →
  call (.fn (.func 66) [] []) [.agg [.int .i64 b.draws.1, .int .i64 b.draws.2, .int .i64 b.per, .int .i64 b.room], .agg [.int .i64 lo, .int .i64 hi], .int .i64 sure] H = some (.ret (.int .i64 ((Cut.lead (fun i => decide (sure ≤ Cut.floats b i (lo, hi))) (b.room.toNat + 1) : Nat) - 1)), H, [])
theorem day_fun (C : Cfg) (call : CallF) (hI : InC call) (H : List AB) (a b k l m : Int) (r : List (Int × Int)) (bs : List Boat) (ls : List Look) (d : Int) :
    Does (ev C call H.length none af49.body { tm := tmA 10 (zipI 0 [.agg [.int .i64 a, .int .i64 b, .int .i64 k, .int .i64 l, .vs 2 (r.map spanE), .int .i64 m, .vs 4 (bs.map boatE), .vs 3 (ls.map lookE)], .int .i64 d] []), df := [], hp := H, tc := [] }) (Gives 4 (.bool (Cut.isDay ⟨(a, b), (k, l), r, m, bs, ls⟩ d))) := by
  unfold InC at hI
  unfold af49
  simp only [zipI]
  (repeat (first | (with_reducible apply zal; (focus ((conv => lhs; simp [ev1, wantG, spineK, spine, float, xnew, xval, xeff, zaa, zab, zaq, zaf, zag, addFl, cellsOf, pickC, alive, slLen, slFt, binI, maxA, maxK, minA, minK, aeqK, aeqS, AV.cells, zac, boatE, spanE, lookE, fillA, setAt, bitsI, nat_nn, AV.plain, apart, Nat.testBit_eq_decide_div_mod_eq, *]) <;> exact rfl)); simp only [addFl]) | ((with_reducible first | refine zam ?_ | refine zao ?_ | refine zak ?_ | refine zai ?_ | refine zae ?_ | refine zan ?_ | refine zaj ?_ | refine zar ?_ | (apply zah; (focus (simp [zaa, *]; done))) | (with_reducible apply zad; (focus (simp [zaa, *]; done)))); try simp only [Then, Ops])))
  exact ⟨by first | trivial | rfl, by first | trivial | rfl, by first | trivial | rfl, by simp only [zap]; simp [Cut.isDay]⟩
theorem boat_fun (C : Cfg) (call : CallF) (hI : InC call) (H : List AB) (a b k l m : Int) (r : List (Int × Int)) (bs : List Boat) (ls : List Look) (d : Int) (hb : bs.length ≤ 40) :
    Does (ev C call H.length none af65.body { tm := tmA 11 (zipI 0 [.agg [.int .i64 a, .int .i64 b, .int .i64 k, .int .i64 l, .vs 2 (r.map spanE), .int .i64 m, .vs 4 (bs.map boatE), .vs 3 (ls.map lookE)], .int .i64 d] []), df := [], hp := H, tc := [] }) (Gives 4 (.bool (Cut.isBoat ⟨(a, b), (k, l), r, m, bs, ls⟩ d))) := by
  unfold InC at hI
  have hw : IntKind.i64.wrap ((bs.length : Int) - 1) = (bs.length : Int) - 1 := zbb (by omega) (by omega)
  clear hb
  unfold af65
  simp only [zipI]
  (repeat (first | (with_reducible apply zal; (focus ((conv => lhs; simp [ev1, wantG, spineK, spine, float, xnew, xval, xeff, zaa, zab, zaq, zaf, zag, addFl, cellsOf, pickC, alive, slLen, slFt, binI, maxA, maxK, minA, minK, aeqK, aeqS, AV.cells, zac, boatE, spanE, lookE, fillA, setAt, bitsI, nat_nn, AV.plain, apart, Nat.testBit_eq_decide_div_mod_eq, *]) <;> exact rfl)); simp only [addFl]) | ((with_reducible first | refine zam ?_ | refine zao ?_ | refine zak ?_ | refine zai ?_ | refine zae ?_ | refine zan ?_ | refine zaj ?_ | refine zar ?_ | (apply zah; (focus (simp [zaa, *]; done))) | (with_reducible apply zad; (focus (simp [zaa, *]; done)))); try simp only [Then, Ops])))
  exact ⟨by first | trivial | rfl, by first | trivial | rfl, by first | trivial | rfl, by simp only [zap]; simp [Cut.isBoat]⟩
theorem zvn (C : Cfg) (call : CallF) (hI : InC call) (hB : BoatC call) (H : List AB) (a b k l m : Int) (r : List (Int × Int)) (bs : List Boat) (ls : List Look) (d n : Int) (hb : bs.length ≤ 40) :
    Does (ev C call H.length none af60.body { tm := tmA 20 (zipI 0 [.agg [.int .i64 a, .int .i64 b, .int .i64 k, .int .i64 l, .vs 2 (r.map spanE), .int .i64 m, .vs 4 (bs.map boatE), .vs 3 (ls.map lookE)], .int .i64 d, .int .i64 n] []), df := [], hp := H, tc := [] }) (Gives 6 (.bool (Cut.isLoads ⟨(a, b), (k, l), r, m, bs, ls⟩ d n))) := by
  unfold InC at hI
  have h1 := fun H => hB H a b k l m r bs ls d hb
  have hld : Cut.isLoads ⟨(a, b), (k, l), r, m, bs, ls⟩ d n = (Cut.isBoat ⟨(a, b), (k, l), r, m, bs, ls⟩ d && Cut.within n 0 (Cut.boatAt bs d.toNat).room) := rfl
  cases hib : Cut.isBoat ⟨(a, b), (k, l), r, m, bs, ls⟩ d with
  | false =>
    rw [hld, hib]
    rw [hib] at h1
    clear hB hld hib hb
    unfold af60
    simp only [zipI]
    (repeat (first | (with_reducible apply zal; (focus ((conv => lhs; simp [ev1, wantG, spineK, spine, float, xnew, xval, xeff, zaa, zab, zaq, zaf, zag, addFl, cellsOf, pickC, alive, slLen, slFt, binI, maxA, maxK, minA, minK, aeqK, aeqS, AV.cells, zac, boatE, spanE, lookE, fillA, setAt, bitsI, nat_nn, AV.plain, apart, Nat.testBit_eq_decide_div_mod_eq, *]) <;> exact rfl)); simp only [addFl]) | ((with_reducible first | refine zam ?_ | refine zao ?_ | refine zak ?_ | refine zai ?_ | refine zae ?_ | refine zan ?_ | refine zaj ?_ | refine zar ?_ | (apply zah; (focus (simp [zaa, *]; done))) | (with_reducible apply zad; (focus (simp [zaa, *]; done)))); try simp only [Then, Ops])))
    exact ⟨by first | trivial | rfl, by first | trivial | rfl, by first | trivial | rfl, by simp only [zap]; simp⟩
  | true =>
    have hd : 0 ≤ d ∧ d < bs.length := by
      have : Cut.within d 0 ((bs.length : Int) - 1) = true := hib
      simp [Cut.within] at this; omega
    obtain ⟨dn, rfl⟩ := Int.eq_ofNat_of_zero_le hd.1
    have hdn : dn < bs.length := by omega
    have e : Cut.boatAt bs dn = bs[dn] := by simp [Cut.boatAt, hdn]
    rw [hld, hib, Int.toNat_natCast, e]
    rw [hib] at h1
    clear hB hld hib hb hd e
    unfold af60
    simp only [zipI]
    (repeat (first | (with_reducible apply zal; (focus ((conv => lhs; simp [ev1, wantG, spineK, spine, float, xnew, xval, xeff, zaa, zab, zaq, zaf, zag, addFl, cellsOf, pickC, alive, slLen, slFt, binI, maxA, maxK, minA, minK, aeqK, aeqS, AV.cells, zac, boatE, spanE, lookE, fillA, setAt, bitsI, nat_nn, AV.plain, apart, Nat.testBit_eq_decide_div_mod_eq, *]) <;> exact rfl)); simp only [addFl]) | ((with_reducible first | refine zam ?_ | refine zao ?_ | refine zak ?_ | refine zai ?_ | refine zae ?_ | refine zan ?_ | refine zaj ?_ | refine zar ?_ | (apply zah; (focus (simp [zaa, *]; done))) | (with_reducible apply zad; (focus (simp [zaa, *]; done)))); try simp only [Then, Ops])))
    exact ⟨by first | trivial | rfl, by first | trivial | rfl, by first | trivial | rfl, by simp only [zap]; simp⟩
theorem zsr (C : Cfg) (call : CallF) (H : List AB) (b : Boat) (hb : BoatOk b) (n lo hi : Int) (n0 : 0 ≤ n) (n1 : n ≤ 10) :
    Does (ev C call H.length none af61.body { tm := tmA 29 (zipI 0 [.agg [.int .i64 b.draws.1, .int .i64 b.draws.2, .int .i64 b.per, .int .i64 b.room], .int .i64 n, .agg [.int .i64 lo, .int .i64 hi]] []), df := [], hp := H, tc := [] }) (Gives 6 (.int .i64 (Cut.floats b n (lo, hi)))) := by
  obtain ⟨b1, b2, b3, b4, b5, b6, b7⟩ := hb
  have hp : 0 ≤ b.per * n ∧ b.per * n ≤ 100 := by
    refine ⟨Int.mul_nonneg b4 n0, ?_⟩
    have := Int.mul_le_mul b5 n1 n0 (show (0 : Int) ≤ 10 by decide)
    omega
  have w1 : IntKind.i64.wrap (b.per * n) = b.per * n := zbb (by omega) (by omega)
  have w2 : IntKind.i64.wrap (b.draws.2 + b.per * n) = b.draws.2 + b.per * n := zbb (by omega) (by omega)
  have w3 : IntKind.i64.wrap (b.draws.1 + b.per * n) = b.draws.1 + b.per * n := zbb (by omega) (by omega)
  unfold Cut.floats
  simp only
  clear b1 b2 b3 b4 b5 b6 b7 hp n0 n1
  by_cases h1 : b.draws.2 + b.per * n ≤ lo
  · rw [if_pos h1]
    unfold af61
    simp only [zipI]
    (repeat (first | (with_reducible apply zal; (focus ((conv => lhs; simp [ev1, wantG, spineK, spine, float, xnew, xval, xeff, zaa, zab, zaq, zaf, zag, addFl, cellsOf, pickC, alive, slLen, slFt, binI, maxA, maxK, minA, minK, aeqK, aeqS, AV.cells, zac, boatE, spanE, lookE, fillA, setAt, bitsI, nat_nn, AV.plain, apart, Nat.testBit_eq_decide_div_mod_eq, *]) <;> exact rfl)); simp only [addFl]) | ((with_reducible first | refine zam ?_ | refine zao ?_ | refine zak ?_ | refine zai ?_ | refine zae ?_ | refine zan ?_ | refine zaj ?_ | refine zar ?_ | (apply zah; (focus (simp [zaa, *]; done))) | (with_reducible apply zad; (focus (simp [zaa, *]; done)))); try simp only [Then, Ops])))
    exact ⟨by first | trivial | rfl, by first | trivial | rfl, by first | trivial | rfl, by simp only [zap]; simp⟩
  · rw [if_neg h1]
    by_cases h2 : b.draws.1 + b.per * n ≤ hi
    · rw [if_pos h2]
      have h3 : ¬ (hi < b.draws.1 + b.per * n) := by omega
      unfold af61
      simp only [zipI]
      (repeat (first | (with_reducible apply zal; (focus ((conv => lhs; simp [ev1, wantG, spineK, spine, float, xnew, xval, xeff, zaa, zab, zaq, zaf, zag, addFl, cellsOf, pickC, alive, slLen, slFt, binI, maxA, maxK, minA, minK, aeqK, aeqS, AV.cells, zac, boatE, spanE, lookE, fillA, setAt, bitsI, nat_nn, AV.plain, apart, Nat.testBit_eq_decide_div_mod_eq, *]) <;> exact rfl)); simp only [addFl]) | ((with_reducible first | refine zam ?_ | refine zao ?_ | refine zak ?_ | refine zai ?_ | refine zae ?_ | refine zan ?_ | refine zaj ?_ | refine zar ?_ | (apply zah; (focus (simp [zaa, *]; done))) | (with_reducible apply zad; (focus (simp [zaa, *]; done)))); try simp only [Then, Ops])))
      exact ⟨by first | trivial | rfl, by first | trivial | rfl, by first | trivial | rfl, by simp only [zap]; simp⟩
    · rw [if_neg h2]
      have h3 : hi < b.draws.1 + b.per * n := by omega
      clear h2
      unfold af61
      simp only [zipI]
      (repeat (first | (with_reducible apply zal; (focus ((conv => lhs; simp [ev1, wantG, spineK, spine, float, xnew, xval, xeff, zaa, zab, zaq, zaf, zag, addFl, cellsOf, pickC, alive, slLen, slFt, binI, maxA, maxK, minA, minK, aeqK, aeqS, AV.cells, zac, boatE, spanE, lookE, fillA, setAt, bitsI, nat_nn, AV.plain, apart, Nat.testBit_eq_decide_div_mod_eq, *]) <;> exact rfl)); simp only [addFl]) | ((with_reducible first | refine zam ?_ | refine zao ?_ | refine zak ?_ | refine zai ?_ | refine zae ?_ | refine zan ?_ | refine zaj ?_ | refine zar ?_ | (apply zah; (focus (simp [zaa, *]; done))) | (with_reducible apply zad; (focus (simp [zaa, *]; done)))); try simp only [Then, Ops])))
      exact ⟨by first | trivial | rfl, by first | trivial | rfl, by first | trivial | rfl, by simp only [zap]; simp⟩
theorem zpr {b : Boat} (hb : BoatOk b) {n n' lo hi : Int} (_hlh : lo ≤ hi) (h : n ≤ n') : Cut.floats b n' (lo, hi) ≤ Cut.floats b n (lo, hi) := by
  have : b.per * n ≤ b.per * n' := Int.mul_le_mul_of_nonneg_left h hb.2.2.2.1
  have := hb.2.1
  unfold Cut.floats
  simp only
  split <;> split <;> (try split) <;> (try split) <;> omega
theorem zvr {p : Nat → Bool} (hp : ∀ i j, i ≤ j → p j = true → p i = true) (i : Nat) : Cut.lead p (i + 1) = if p i = true then i + 1 else Cut.lead p i := by
  by_cases h : p i = true
  · rw [if_pos h]
    exact Cut.lead_all p _ fun j hj => hp j i (by omega) h
  · rw [if_neg h]
    show (if Cut.lead p i = i ∧ p i = true then i + 1 else Cut.lead p i) = _
    rw [if_neg (fun hh => h hh.2)]
set_option maxHeartbeats 8000000 in
theorem most_fun (C : Cfg) (hC : C.calm = true) (call : CallF) (hF : FloatsC call) (H : List AB) (b : Boat) (hb : BoatOk b) (lo hi sure : Int) (hlh : lo ≤ hi) :
    Does (ev C call H.length none af66.body { tm := tmA 23 (zipI 0 [.agg [.int .i64 b.draws.1, .int .i64 b.draws.2, .int .i64 b.per, .int .i64 b.room], .agg [.int .i64 lo, .int .i64 hi], .int .i64 sure] []), df := [], hp := H, tc := [] }) (Gives 6 (.int .i64 ((Cut.lead (fun i => decide (sure ≤ Cut.floats b i (lo, hi))) (b.room.toNat + 1) : Nat) - 1))) := by
  have h1 := fun H (n : Nat) (hn : (n : Int) ≤ 10) => hF H b hb n lo hi (by omega) hn
  have hp : ∀ i j : Nat, i ≤ j → decide (sure ≤ Cut.floats b j (lo, hi)) = true → decide (sure ≤ Cut.floats b i (lo, hi)) = true := fun i j hij h => by
    have := zpr hb hlh (show (i : Int) ≤ j by omega)
    rw [decide_eq_true_eq] at h ⊢
    omega
  have hnx := zvr (p := fun i : Nat => decide (sure ≤ Cut.floats b i (lo, hi))) hp
  have hz : Cut.lead (fun i : Nat => decide (sure ≤ Cut.floats b i (lo, hi))) 0 = 0 := rfl
  have r0 := hb.2.2.2.2.2.1
  have r1 := hb.2.2.2.2.2.2
  have HN := hideP hnx
  have HZ := hideP hz
  have H1 := hideP h1
  clear hF hb hlh hp hnx hz h1
  unfold af66
  simp only [zipI]
  (repeat (first | (with_reducible apply zal; (focus ((conv => lhs; simp [ev1, wantG, spineK, spine, float, xnew, xval, xeff, zaa, zab, zaq, zaf, zag, addFl, cellsOf, pickC, alive, slLen, slFt, binI, maxA, maxK, minA, minK, aeqK, aeqS, AV.cells, zac, boatE, spanE, lookE, fillA, setAt, bitsI, nat_nn, AV.plain, apart, Nat.testBit_eq_decide_div_mod_eq, *]) <;> exact rfl)); simp only [addFl]) | ((with_reducible first | refine zam ?_ | refine zao ?_ | refine zak ?_ | refine zai ?_ | refine zae ?_ | refine zan ?_ | refine zaj ?_ | refine zar ?_ | (apply zah; (focus (simp [zaa, *]; done))) | (with_reducible apply zad; (focus (simp [zaa, *]; done)))); try simp only [Then, Ops])))
  refine zbf (fun q st => ∃ i : Nat, (i : Int) + q = b.room + 1 ∧ st = { tm := tmA 23 [(8, .int .i64 i), (7, .int .i64 ((Cut.lead (fun i => decide (sure ≤ Cut.floats b i (lo, hi))) i : Nat) - 1)), (4, .ptr (H.length + 1) 0), (3, .ptr H.length 0), (2, .int .i64 sure)], df := [], hp := H ++ [.cells [.int .i64 b.draws.1, .int .i64 b.draws.2, .int .i64 b.per, .int .i64 b.room], .cells [.int .i64 lo, .int .i64 hi]], tc := [] }) (b.room + 1).toNat (by unfold fuelL; omega) ?_ ?_
  · refine ⟨0, by omega, ?_⟩
    simp only [zat hC]
    rw [HZ.out]
    exact st_eq (by simp [zas, zau]) rfl rfl rfl
  · rintro q st ⟨i, hq, rfl⟩
    by_cases hi' : (i : Int) ≤ b.room
    · have hw : IntKind.i64.wrap ((i : Int) + 1) = (i : Int) + 1 := zbb (by omega) (by omega)
      have h1 := fun H => H1.out H i (by omega)
      have hn := HN.out i
      generalize Cut.floats b i (lo, hi) = f at *
      generalize Cut.lead (fun i => decide (sure ≤ Cut.floats b i (lo, hi))) i = li at *
      by_cases hs : sure ≤ f
      · rw [if_pos (decide_eq_true hs)] at hn
        have HQ := hideP (And.intro hq hn)
        clear hn hq r0 r1
        (repeat (first | (with_reducible apply zal; (focus ((conv => lhs; simp [ev1, wantG, spineK, spine, float, xnew, xval, xeff, zaa, zab, zaq, zaf, zag, addFl, cellsOf, pickC, alive, slLen, slFt, binI, maxA, maxK, minA, minK, aeqK, aeqS, AV.cells, zac, boatE, spanE, lookE, fillA, setAt, bitsI, nat_nn, AV.plain, apart, Nat.testBit_eq_decide_div_mod_eq, *]) <;> exact rfl)); simp only [addFl]) | ((with_reducible first | refine zam ?_ | refine zao ?_ | refine zak ?_ | refine zai ?_ | refine zae ?_ | refine zan ?_ | refine zaj ?_ | refine zar ?_ | (apply zah; (focus (simp [zaa, *]; done))) | (with_reducible apply zad; (focus (simp [zaa, *]; done)))); try simp only [Then, Ops, OutB])))
        obtain ⟨hq, hn⟩ := HQ.out
        refine ⟨q - 1, by omega, i + 1, by omega, ?_⟩
        simp only [zat hC]
        rw [hn]
        exact st_eq (by simp [zas, zau]) rfl rfl rfl
      · rw [if_neg (by simpa using hs)] at hn
        have HQ := hideP (And.intro hq hn)
        clear hn hq r0 r1
        (repeat (first | (with_reducible apply zal; (focus ((conv => lhs; simp [ev1, wantG, spineK, spine, float, xnew, xval, xeff, zaa, zab, zaq, zaf, zag, addFl, cellsOf, pickC, alive, slLen, slFt, binI, maxA, maxK, minA, minK, aeqK, aeqS, AV.cells, zac, boatE, spanE, lookE, fillA, setAt, bitsI, nat_nn, AV.plain, apart, Nat.testBit_eq_decide_div_mod_eq, *]) <;> exact rfl)); simp only [addFl]) | ((with_reducible first | refine zam ?_ | refine zao ?_ | refine zak ?_ | refine zai ?_ | refine zae ?_ | refine zan ?_ | refine zaj ?_ | refine zar ?_ | (apply zah; (focus (simp [zaa, *]; done))) | (with_reducible apply zad; (focus (simp [zaa, *]; done)))); try simp only [Then, Ops, OutB])))
        obtain ⟨hq, hn⟩ := HQ.out
        refine ⟨q - 1, by omega, i + 1, by omega, ?_⟩
        simp only [zat hC]
        rw [hn]
        exact st_eq (by simp [zas, zau]) rfl rfl rfl
    · have hir : b.room.toNat + 1 = i := by omega
      rw [hir]
      clear hq hir
      generalize Cut.lead (fun i => decide (sure ≤ Cut.floats b i (lo, hi))) i = li at *
      (repeat (first | (with_reducible apply zal; (focus ((conv => lhs; simp [ev1, wantG, spineK, spine, float, xnew, xval, xeff, zaa, zab, zaq, zaf, zag, addFl, cellsOf, pickC, alive, slLen, slFt, binI, maxA, maxK, minA, minK, aeqK, aeqS, AV.cells, zac, boatE, spanE, lookE, fillA, setAt, bitsI, nat_nn, AV.plain, apart, Nat.testBit_eq_decide_div_mod_eq, *]) <;> exact rfl)); simp only [addFl]) | ((with_reducible first | refine zam ?_ | refine zao ?_ | refine zak ?_ | refine zai ?_ | refine zae ?_ | refine zan ?_ | refine zaj ?_ | refine zar ?_ | (apply zah; (focus (simp [zaa, *]; done))) | (with_reducible apply zad; (focus (simp [zaa, *]; done)))); try simp only [Then, Ops, OutB, reduceIte])))
      exact ⟨by first | trivial | rfl, by first | trivial | rfl, by first | trivial | rfl, by simp only [zap]; simp⟩
end R
end Ev
end Go.Proofs.YtlkhjnpflohfeaaDoor

/- The reference of chapter 06: how deep, and how much leaks away, as calls. -/
namespace Go.Proofs.YtlkhjnpflohfeaaDoor
open Go
namespace Ev
namespace R
set_option maxRecDepth 100000
def Ends (fn : AFunc) (v : AV) (e : AExit) (st : St) : Prop := e = .ret ∧ st.df = [] ∧ st.tc = [] ∧ (resL st fn.res).map resV = some v
theorem zil {C : Cfg} {n f : Nat} {fn : AFunc} {args : List AV} {H : List AB} {v : AV} (hc : C.calm = true) (h : Has C f fn) (hlen : args.length ≤ fn.ntmps) (hv : refs v = [])
    (hd : Does (ev C (Ev.call C n) H.length none fn.body { tm := tmA fn.ntmps (zipI 0 args []), df := [], hp := H, tc := [] }) (Ends fn v)) : Ev.call C (n + 1) (.fn (.func f) [] []) args H = some (.ret v, H, []) := by
  have := zfq (n := n) (first := []) (captured := []) (args := args) (H := H) (R := fun x H' tc => x = .ret v ∧ H' = H ∧ tc = []) hc h.ext h.exth h.fns h.whole (by simpa using hlen) (by
    rw [List.nil_append, List.append_nil]
    refine hd.mono fun e st ⟨h1, h2, h3, h4⟩ => ?_
    subst h1
    refine ⟨.ret v, st, ?_, ?_⟩
    · have e1 : runDefs C H.length st.df none st = some (none, st) := by rw [h2]; rfl
      show (match runDefs C H.length st.df none st with
        | some (none, st) => (resL st fn.res).map fun vs => (CRes.ret (resV vs), st)
        | _ => none) = _
      rw [e1]
      obtain ⟨vs, h5, h6⟩ := Option.map_eq_some_iff.1 h4
      show (resL st fn.res).map (fun vs => (CRes.ret (resV vs), st)) = _
      rw [h5, ← h6]; rfl
    · unfold Left
      rw [h3, if_pos (by unfold bareQ; simp [CRes.val, hv])]
      exact ⟨rfl, rfl, rfl⟩)
  obtain ⟨x, H', tc, h1, rfl, rfl, rfl⟩ := this
  exact h1
theorem zwm {a b k l m : Int} {r : List (Int × Int)} {bs : List Boat} {ls : List Look} {d : Int} (h : Cut.isDay ⟨(a, b), (k, l), r, m, bs, ls⟩ d = true) : ∃ dn : Nat, d = dn ∧ dn ≤ r.length := by
  have : Cut.within d 0 (r.length : Int) = true := h
  simp [Cut.within] at this
  exact ⟨d.toNat, by omega, by omega⟩
theorem zij {c : CutD} {vb : Bool} (h : toldErr c vb = 0) : vb = true := by
  cases vb with
  | true => rfl
  | false =>
    unfold toldErr at h
    split at h
    · cases h
    · simp at h
end R
end Ev
end Go.Proofs.YtlkhjnpflohfeaaDoor

/- The reference of chapter 06: how a boat floats, and with how many loads, as calls. -/
namespace Go.Proofs.YtlkhjnpflohfeaaDoor
open Go
namespace Ev
namespace R
set_option maxRecDepth 100000
theorem zow {c : CutD} {vb : Bool} (h : toldErr c vb = 0) : Cut.Valid c ∧ Cut.can c (Cut.every c) = true := by
  have hvb := zij h
  subst hvb
  have hv : Cut.valid c = true := by
    cases hv : Cut.valid c with
    | true => rfl
    | false => rw [zbq hv] at h; cases h
  refine ⟨Cut.valid_of hv, ?_⟩
  cases hc : Cut.can c (Cut.every c) with
  | true => rfl
  | false => rw [zbm hv hc] at h; cases h
theorem zxq {c : CutD} (V : Cut.Valid c) (hc : Cut.can c (Cut.every c) = true) {d : Nat} (hd : d ≤ c.rain.length) : (Cut.water c d).1 ≤ (Cut.water c d).2 := by
  obtain ⟨w1, ⟨k1, t1, a1, a2, a3⟩, -⟩ := Cut.water_spec V hc d hd
  have := w1 k1 t1 a1 a2
  unfold Cut.inS at this
  omega
theorem zqh {a b k l m : Int} {r : List (Int × Int)} {bs : List Boat} {ls : List Look} (V : Cut.Valid ⟨(a, b), (k, l), r, m, bs, ls⟩) {i : Nat} (h : i < bs.length) : BoatOk bs[i] := by
  have := V.boat i h
  have e : Cut.boatAt bs i = bs[i] := by simp [Cut.boatAt, h]
  rw [show (⟨(a, b), (k, l), r, m, bs, ls⟩ : CutD).boats = bs from rfl, e] at this
  exact this
theorem boat_nat {a b k l m : Int} {r : List (Int × Int)} {bs : List Boat} {ls : List Look} {d : Int} (h : Cut.isBoat ⟨(a, b), (k, l), r, m, bs, ls⟩ d = true) : ∃ dn : Nat, d = dn ∧ dn < bs.length := by
  have : Cut.within d 0 ((bs.length : Int) - 1) = true := h
  simp [Cut.within] at this
  exact ⟨d.toNat, by omega, by omega⟩
theorem znv {a b k l m : Int} {r : List (Int × Int)} {bs : List Boat} {ls : List Look} (V : Cut.Valid ⟨(a, b), (k, l), r, m, bs, ls⟩) {d n : Int} (h : Cut.isLoads ⟨(a, b), (k, l), r, m, bs, ls⟩ d n = true) : ∃ (dn : Nat), d = dn ∧ ∃ h : dn < bs.length, BoatOk bs[dn] ∧ 0 ≤ n ∧ n ≤ 10 := by
  have h1 : (Cut.isBoat ⟨(a, b), (k, l), r, m, bs, ls⟩ d && Cut.within n 0 (Cut.boatAt bs d.toNat).room) = true := h
  rw [Bool.and_eq_true] at h1
  obtain ⟨dn, rfl, hdn⟩ := boat_nat h1.1
  have hb := zqh V hdn
  have e : Cut.boatAt bs dn = bs[dn] := by simp [Cut.boatAt, hdn]
  have h2 := h1.2
  rw [Int.toNat_natCast, e] at h2
  simp [Cut.within] at h2
  have := hb.2.2.2.2.2.2
  exact ⟨dn, rfl, hdn, hb, h2.1, by omega⟩
end R
end Ev
end Go.Proofs.YtlkhjnpflohfeaaDoor

/- The reference of chapter 06: on which days a boat floats, until when it lies, and how many loads all can have, as calls. -/
namespace Go.Proofs.YtlkhjnpflohfeaaDoor
open Go
namespace Ev
namespace R
set_option maxRecDepth 100000
set_option maxHeartbeats 8000000 in
theorem days_fun (C : Cfg) (hC : C.calm = true) (call : CallF) (hT : ToldC call) (hL : LoadsC call) (hF : FloatsC call) (hP : PowerC call) (H : List AB) (a b k l m : Int) (r : List (Int × Int)) (bs : List Boat) (ls : List Look) (h40 : bs.length ≤ 40) (bo n : Int) :
    Does (ev C call H.length none af23.body { tm := tmA 59 (zipI 0 [.agg [.int .i64 a, .int .i64 b, .int .i64 k, .int .i64 l, .vs 2 (r.map spanE), .int .i64 m, .vs 4 (bs.map boatE), .vs 3 (ls.map lookE)], .int .i64 bo, .int .i64 n] []), df := [], hp := H, tc := [] }) (Ends af23 (three (daysR ⟨(a, b), (k, l), r, m, bs, ls⟩ bo n))) := by
  have h0 := fun H => hL H a b k l m r bs ls bo n h40
  rcases hT (H ++ [.cells [.int .i64 a, .int .i64 b, .int .i64 k, .int .i64 l, .vs 2 (r.map spanE), .int .i64 m, .vs 4 (bs.map boatE), .vs 3 (ls.map lookE)]]) a b k l m r bs ls (Cut.isLoads ⟨(a, b), (k, l), r, m, bs, ls⟩ bo n) with ⟨h2, h3⟩ | ⟨h2, K, w, cnt, cs, h3, h4, h5, h6, h7, h8⟩
  · have hr : daysR ⟨(a, b), (k, l), r, m, bs, ls⟩ bo n = ((0, 0), toldErr ⟨(a, b), (k, l), r, m, bs, ls⟩ (Cut.isLoads ⟨(a, b), (k, l), r, m, bs, ls⟩ bo n)) := by unfold daysR; rw [if_neg h2]
    rw [hr]
    generalize Cut.isLoads ⟨(a, b), (k, l), r, m, bs, ls⟩ bo n = vb at *
    generalize toldErr ⟨(a, b), (k, l), r, m, bs, ls⟩ vb = e at *
    clear hr hT hL hF hP
    unfold af23
    simp only [zipI]
    (repeat (first | (with_reducible apply zal; (focus ((conv => lhs; simp [ev1, wantG, spineK, spine, float, xnew, xval, xeff, zaa, zab, zaq, zaf, zag, addFl, cellsOf, pickC, alive, slLen, slFt, binI, maxA, maxK, minA, minK, aeqK, aeqS, AV.cells, zac, boatE, spanE, lookE, fillA, setAt, bitsI, nat_nn, AV.plain, apart, Nat.testBit_eq_decide_div_mod_eq, *]) <;> exact rfl)); simp only [addFl]) | ((with_reducible first | refine zam ?_ | refine zao ?_ | refine zak ?_ | refine zai ?_ | refine zae ?_ | refine zan ?_ | refine zaj ?_ | refine zar ?_ | (apply zah; (focus (simp [zaa, *]; done))) | (with_reducible apply zad; (focus (simp [zaa, *]; done)))); try simp only [Then, Ops])))
    exact ⟨by first | trivial | rfl, by first | trivial | rfl, by first | trivial | rfl, by simp only [resL, resOf, zap]; simp [resV, three]⟩
  · have hvb := zij h2
    obtain ⟨V, hcan⟩ := zow h2
    have n8 : r.length ≤ 8 := V.n8
    obtain ⟨bn, rfl, hbn, hbok, n0, n1⟩ := znv V hvb
    have hbat : Cut.boatAt (⟨(a, b), (k, l), r, m, bs, ls⟩ : CutD).boats bn = bs[bn] := by simp [Cut.boatAt, hbn]
    have hr : daysR ⟨(a, b), (k, l), r, m, bs, ls⟩ bn n = ((((Cut.setTo (fun d => Cut.floats bs[bn] n (Cut.water ⟨(a, b), (k, l), r, m, bs, ls⟩ d) == 2) (r.length + 1) : Nat) : Int), ((Cut.setTo (fun d => Cut.floats bs[bn] n (Cut.water ⟨(a, b), (k, l), r, m, bs, ls⟩ d) != 0) (r.length + 1) : Nat) : Int)), 0) := by
      unfold daysR; rw [if_pos h2, Int.toNat_natCast]
      unfold Cut.daysAll Cut.daysSome Cut.floatsOn
      rw [hbat]
    rw [hr]
    have hw8 := fun K' (d : Nat) (hd : d ≤ r.length) => h8 K' d hd
    have hf := fun H lo hi => hF H bs[bn] hbok n lo hi n0 n1
    rw [hvb] at h0 h3
    simp only [List.append_assoc, List.cons_append, List.nil_append] at h3 hw8
    have hs1 : ∀ i, Cut.setTo (fun d => Cut.floats bs[bn] n (Cut.water ⟨(a, b), (k, l), r, m, bs, ls⟩ d) == 2) (i + 1) = if (Cut.floats bs[bn] n (Cut.water ⟨(a, b), (k, l), r, m, bs, ls⟩ i) == 2) = true then Cut.setTo (fun d => Cut.floats bs[bn] n (Cut.water ⟨(a, b), (k, l), r, m, bs, ls⟩ d) == 2) i + 2 ^ i else Cut.setTo (fun d => Cut.floats bs[bn] n (Cut.water ⟨(a, b), (k, l), r, m, bs, ls⟩ d) == 2) i := fun i => rfl
    have hs2 : ∀ i, Cut.setTo (fun d => Cut.floats bs[bn] n (Cut.water ⟨(a, b), (k, l), r, m, bs, ls⟩ d) != 0) (i + 1) = if (Cut.floats bs[bn] n (Cut.water ⟨(a, b), (k, l), r, m, bs, ls⟩ i) != 0) = true then Cut.setTo (fun d => Cut.floats bs[bn] n (Cut.water ⟨(a, b), (k, l), r, m, bs, ls⟩ d) != 0) i + 2 ^ i else Cut.setTo (fun d => Cut.floats bs[bn] n (Cut.water ⟨(a, b), (k, l), r, m, bs, ls⟩ d) != 0) i := fun i => rfl
    have hl1 : ∀ i, Cut.setTo (fun d => Cut.floats bs[bn] n (Cut.water ⟨(a, b), (k, l), r, m, bs, ls⟩ d) == 2) i < 2 ^ i := fun i => Cut.setTo_lt _ i
    have hl2 : ∀ i, Cut.setTo (fun d => Cut.floats bs[bn] n (Cut.water ⟨(a, b), (k, l), r, m, bs, ls⟩ d) != 0) i < 2 ^ i := fun i => Cut.setTo_lt _ i
    have hz1 : Cut.setTo (fun d => Cut.floats bs[bn] n (Cut.water ⟨(a, b), (k, l), r, m, bs, ls⟩ d) == 2) 0 = 0 := rfl
    have hz2 : Cut.setTo (fun d => Cut.floats bs[bn] n (Cut.water ⟨(a, b), (k, l), r, m, bs, ls⟩ d) != 0) 0 = 0 := rfl
    have hor : ∀ i, Cut.floats bs[bn] n (Cut.water ⟨(a, b), (k, l), r, m, bs, ls⟩ i) = 0 ∨ Cut.floats bs[bn] n (Cut.water ⟨(a, b), (k, l), r, m, bs, ls⟩ i) = 1 ∨ Cut.floats bs[bn] n (Cut.water ⟨(a, b), (k, l), r, m, bs, ls⟩ i) = 2 := fun i => Cut.floats_or _ _ _
    generalize Cut.setTo (fun d => Cut.floats bs[bn] n (Cut.water ⟨(a, b), (k, l), r, m, bs, ls⟩ d) == 2) = s1 at *
    generalize Cut.setTo (fun d => Cut.floats bs[bn] n (Cut.water ⟨(a, b), (k, l), r, m, bs, ls⟩ d) != 0) = s2 at *
    generalize Cut.water ⟨(a, b), (k, l), r, m, bs, ls⟩ = wt at *
    have HW := hideP hw8
    have HS := hideP (And.intro hs1 (And.intro hs2 (And.intro hl1 (And.intro hl2 (And.intro hz1 (And.intro hz2 hor))))))
    have HF := hideP hf
    have HPw := hideP hP
    clear hr hT h2 h4 h5 h6 h7 h8 hvb V hcan hL hF hP hbok n0 n1 hbat hw8 hf hs1 hs2 hl1 hl2 hz1 hz2 hor
    unfold af23
    simp only [zipI]
    (repeat (first | (with_reducible apply zal; (focus ((conv => lhs; simp [ev1, wantG, spineK, spine, float, xnew, xval, xeff, zaa, zab, zaq, zaf, zag, addFl, cellsOf, pickC, alive, slLen, slFt, binI, maxA, maxK, minA, minK, aeqK, aeqS, AV.cells, zac, boatE, spanE, lookE, fillA, setAt, bitsI, nat_nn, AV.plain, apart, Nat.testBit_eq_decide_div_mod_eq, *]) <;> exact rfl)); simp only [addFl]) | ((with_reducible first | refine zam ?_ | refine zao ?_ | refine zak ?_ | refine zai ?_ | refine zae ?_ | refine zan ?_ | refine zaj ?_ | refine zar ?_ | (apply zah; (focus (simp [zaa, *]; done))) | (with_reducible apply zad; (focus (simp [zaa, *]; done)))); try simp only [Then, Ops])))
    refine zbf (fun q st => ∃ d : Nat, d + q = r.length + 1 ∧ st = { tm := tmA 59 [(13, .int .i64 d), (12, .int .i64 (s2 d)), (11, .int .i64 (s1 d)), (9, .sl w 0 (cnt + 1) 2), (3, .ptr H.length 0), (2, .int .i64 n), (1, .int .i64 bn)], df := [], hp := H ++ .cells [.int .i64 a, .int .i64 b, .int .i64 k, .int .i64 l, .vs 2 (r.map spanE), .int .i64 m, .vs 4 (bs.map boatE), .vs 3 (ls.map lookE)] :: K, tc := [] }) (r.length + 1) (by unfold fuelL; omega) ?_ ?_
    · refine ⟨0, by omega, ?_⟩
      simp only [zat hC]
      rw [HS.out.2.2.2.2.1, HS.out.2.2.2.2.2.1]
      exact st_eq (by simp [zas, zau]) rfl rfl rfl
    · rintro q st ⟨d, hq, rfl⟩
      by_cases hd : d ≤ r.length
      · have hw : IntKind.i64.wrap ((d : Int) + 1) = (d : Int) + 1 := zbb (by omega) (by omega)
        have h1 := HW.out [] d hd
        simp only [List.append_nil] at h1
        have h2 := fun H => HF.out H (wt d).1 (wt d).2
        have h3 := fun H => HPw.out H d (by omega)
        obtain ⟨hs1, hs2, hl1, hl2, -, -, hor⟩ := HS.out
        have hs1 := hs1 d
        have hs2 := hs2 d
        have hl1 := hl1 d
        have hl2 := hl2 d
        have hor := hor d
        have hp9 : (2 : Nat) ^ d ≤ 2 ^ 8 := Nat.pow_le_pow_right (by decide) (by omega)
        have p1 : IntKind.i64.wrap ((s1 d : Int) + ((2 ^ d : Nat) : Int)) = (s1 d : Int) + ((2 ^ d : Nat) : Int) := zbb (by omega) (by omega)
        have p2 : IntKind.i64.wrap ((s2 d : Int) + ((2 ^ d : Nat) : Int)) = (s2 d : Int) + ((2 ^ d : Nat) : Int) := zbb (by omega) (by omega)
        generalize (2 ^ d : Nat) = pw at *
        rw [show ((wt d).1, (wt d).2) = wt d from rfl] at h2
        generalize Cut.floats bs[bn] n (wt d) = fl at *
        generalize hw1 : s1 (d + 1) = s1' at *
        generalize hw2 : s2 (d + 1) = s2' at *
        generalize s1 d = s10 at *
        generalize s2 d = s20 at *
        generalize wt d = wtd at *
        have HQ := hideP (And.intro hq (And.intro hw1 hw2))
        clear hl1 hl2 hp9 hq n8 hw1 hw2
        rcases hor with rfl | rfl | rfl
        · simp at hs1 hs2
          have HZ := hideP (And.intro hs1 hs2)
          clear hs1 hs2
          (repeat (first | (with_reducible apply zal; (focus ((conv => lhs; simp [ev1, wantG, spineK, spine, float, xnew, xval, xeff, zaa, zab, zaq, zaf, zag, addFl, cellsOf, pickC, alive, slLen, slFt, binI, maxA, maxK, minA, minK, aeqK, aeqS, AV.cells, zac, boatE, spanE, lookE, fillA, setAt, bitsI, nat_nn, AV.plain, apart, Nat.testBit_eq_decide_div_mod_eq, *]) <;> exact rfl)); simp only [addFl]) | ((with_reducible first | refine zam ?_ | refine zao ?_ | refine zak ?_ | refine zai ?_ | refine zae ?_ | refine zan ?_ | refine zaj ?_ | refine zar ?_ | (apply zah; (focus (simp [zaa, *]; done))) | (with_reducible apply zad; (focus (simp [zaa, *]; done)))); try simp only [Then, Ops, OutB])))
          obtain ⟨hq, hw1, hw2⟩ := HQ.out
          obtain ⟨hs1, hs2⟩ := HZ.out
          refine ⟨q - 1, by omega, d + 1, by omega, ?_⟩
          simp only [zat hC]
          rw [hw1, hw2, hs1, hs2]
          exact st_eq (by simp [zas, zau]) rfl rfl rfl
        · simp at hs1 hs2
          have HZ := hideP (And.intro hs1 hs2)
          clear hs1 hs2
          (repeat (first | (with_reducible apply zal; (focus ((conv => lhs; simp [ev1, wantG, spineK, spine, float, xnew, xval, xeff, zaa, zab, zaq, zaf, zag, addFl, cellsOf, pickC, alive, slLen, slFt, binI, maxA, maxK, minA, minK, aeqK, aeqS, AV.cells, zac, boatE, spanE, lookE, fillA, setAt, bitsI, nat_nn, AV.plain, apart, Nat.testBit_eq_decide_div_mod_eq, *]) <;> exact rfl)); simp only [addFl]) | ((with_reducible first | refine zam ?_ | refine zao ?_ | refine zak ?_ | refine zai ?_ | refine zae ?_ | refine zan ?_ | refine zaj ?_ | refine zar ?_ | (apply zah; (focus (simp [zaa, *]; done))) | (with_reducible apply zad; (focus (simp [zaa, *]; done)))); try simp only [Then, Ops, OutB])))
          obtain ⟨hq, hw1, hw2⟩ := HQ.out
          obtain ⟨hs1, hs2⟩ := HZ.out
          refine ⟨q - 1, by omega, d + 1, by omega, ?_⟩
          simp only [zat hC]
          rw [hw1, hw2, hs1, hs2]
          exact st_eq (by simp [zas, zau]) rfl rfl rfl
        · simp at hs1 hs2
          have HZ := hideP (And.intro hs1 hs2)
          clear hs1 hs2
          (repeat (first | (with_reducible apply zal; (focus ((conv => lhs; simp [ev1, wantG, spineK, spine, float, xnew, xval, xeff, zaa, zab, zaq, zaf, zag, addFl, cellsOf, pickC, alive, slLen, slFt, binI, maxA, maxK, minA, minK, aeqK, aeqS, AV.cells, zac, boatE, spanE, lookE, fillA, setAt, bitsI, nat_nn, AV.plain, apart, Nat.testBit_eq_decide_div_mod_eq, *]) <;> exact rfl)); simp only [addFl]) | ((with_reducible first | refine zam ?_ | refine zao ?_ | refine zak ?_ | refine zai ?_ | refine zae ?_ | refine zan ?_ | refine zaj ?_ | refine zar ?_ | (apply zah; (focus (simp [zaa, *]; done))) | (with_reducible apply zad; (focus (simp [zaa, *]; done)))); try simp only [Then, Ops, OutB])))
          obtain ⟨hq, hw1, hw2⟩ := HQ.out
          obtain ⟨hs1, hs2⟩ := HZ.out
          refine ⟨q - 1, by omega, d + 1, by omega, ?_⟩
          simp only [zat hC]
          rw [hw1, hw2, hs1, hs2]
          exact st_eq (by simp [zas, zau]) rfl rfl rfl
      · obtain rfl : d = r.length + 1 := by omega
        have hx : ¬ ((r.length : Int) + 1 ≤ r.length) := by omega
        generalize s1 (r.length + 1) = s10 at *
        generalize s2 (r.length + 1) = s20 at *
        clear hq hd
        (repeat (first | (with_reducible apply zal; (focus ((conv => lhs; simp [ev1, wantG, spineK, spine, float, xnew, xval, xeff, zaa, zab, zaq, zaf, zag, addFl, cellsOf, pickC, alive, slLen, slFt, binI, maxA, maxK, minA, minK, aeqK, aeqS, AV.cells, zac, boatE, spanE, lookE, fillA, setAt, bitsI, nat_nn, AV.plain, apart, Nat.testBit_eq_decide_div_mod_eq, *]) <;> exact rfl)); simp only [addFl]) | ((with_reducible first | refine zam ?_ | refine zao ?_ | refine zak ?_ | refine zai ?_ | refine zae ?_ | refine zan ?_ | refine zaj ?_ | refine zar ?_ | (apply zah; (focus (simp [zaa, *]; done))) | (with_reducible apply zad; (focus (simp [zaa, *]; done)))); try simp only [Then, Ops, OutB, reduceIte])))
        exact ⟨by first | trivial | rfl, by first | trivial | rfl, by first | trivial | rfl, by simp only [resL, resOf, zap]; simp [resV, three]⟩
end R
end Ev
end Go.Proofs.YtlkhjnpflohfeaaDoor
