/- The Go function ClampTrue returns true, for every argument, in every world in which it is called; nothing that was there is turned. No condition. -/
import Derived.Test.YtimgnlellflciaaLqTA
import Derived.Test.YtimgnlellflciaaCqEA
import Derived.Test.YtimgnlellflciaaProg
import Derived.KernelRfl
import Derived.Test.YtimgnlellflciaaCqPE
import Derived.Test.YtimgnlellflciaaCqPF
/- ClampTrue, gone through. -/
namespace Go.Proofs.Ytimgnlellflciaa
open Go
namespace Ev
namespace K
attribute [local simp] ev1 wantG spineK spine float xnew xval xeff zaa zat zbf zay zaz addFl cellsOf pickC alive slLen slFt binI maxA maxK minA minK aeqK aeqS AV.cells spA zas fillA setAt bitsI nat_nn zbj AV.plain apart
set_option maxRecDepth 100000
set_option maxHeartbeats 4000000
theorem sumF_low {L : List Int} {set : Nat} (h : ∀ p, p < L.length → 0 ≤ L.getD p 0 ∧ L.getD p 0 ≤ 5000) : ∀ n, n ≤ L.length → 0 ≤ Clm.sumF set (fun j => L.getD j 0) n ∧ Clm.sumF set (fun j => L.getD j 0) n ≤ 5000 * n
  | 0, _ => by simp [Clm.sumF]
  | n + 1, hn => by
    have ih := sumF_low (set := set) h n (by omega)
    have := h n (by omega)
    unfold Clm.sumF
    split <;> omega
theorem shr_zero {S n : Nat} (h : S < 2 ^ n) (hn : n ≤ 64) : (S : Int).fdiv (2 ^ min n IntKind.i64.bits) = 0 := by
  have h64 : IntKind.i64.bits = 64 := rfl
  rw [h64, Nat.min_eq_left hn, fdiv_pow, Nat.div_eq_of_lt h]; rfl
theorem ltrue_round' (C : Cfg) (call : CallF) (hI : InsideC call) (X : Clm.Cl) (pn : Nat) (hpn : X.piles.length = pn) (hp4 : X.piles.length ≤ 4) (B L : List Int) (sods h : Int) (G K : List AB) (cs : List AV) (hF : TrFacts call X B L sods G (.agg cs)) (hs0 : 0 ≤ sods) (hs2 : sods ≤ 20000) (H : List AB) (a14 qb ql : Nat) (hc4 : cs.length = 4) (h7 : HB G (H.length + 1) (.cells cs)) (hb : HB G qb (.cells (ints B))) (hl : HB G ql (.cells (ints L))) (lb : B.length = X.piles.length) (ll : L.length = X.piles.length)
    (hn : ∀ p, p < X.piles.length → 0 ≤ L.getD p 0 ∧ L.getD p 0 ≤ B.getD p 0 ∧ B.getD p 0 ≤ 5000) (eS eP S : Nat) (heS : ∀ p, p < X.piles.length → (L.getD p 0 = 0 → eP.testBit p = true) ∧ (0 < L.getD p 0 → eS.testBit p = false)) (i : Nat) (hi : i < X.piles.length) (sum some : Int) (hsum : 0 ≤ sum ∧ sum ≤ 100000) (hsome : 0 ≤ some ∧ some ≤ 100000) :
    Does (ev C call H.length none (atP [1, 1, 1, 1, 1, 1, 1, 1, 1, 1, 1, 0, 1, 0, 0] af4.body) (teSt H a14 pn qb ql sods h sum some eS eP S i (G ++ K)))
      (fun e st => e = .normal ∧ ∃ K, { st with tm := keepT [7, 9, 11, 14, 16, 17, 19, 20, 21, 22, 121, 122, 123] st.tm } = teSt H a14 pn qb ql sods h (sum + L.getD i 0) (if S.testBit i then some + L.getD i 0 else some) eS eP S (i + 1) (G ++ K)) := by
  subst hpn
  exact ltrue_round C call hI X hp4 B L sods h G K cs hF hs0 hs2 H a14 qb ql hc4 h7 hb hl lb ll hn eS eP S heS i hi sum some hsum hsome
theorem TrFacts.app {call : CallF} {X : Clm.Cl} {B L : List Int} {sods : Int} {G : List AB} {xv : AV} (h : TrFacts call X B L sods G xv) (J : List AB) : TrFacts call X B L sods (G ++ J) xv := by
  have e : ∀ K, G ++ J ++ K = G ++ (J ++ K) := fun K => List.append_assoc ..
  obtain ⟨f1, ⟨lo, hi, f2, f3⟩, ⟨S, P, f4, f5⟩, ⟨S', h', f6, f7⟩, g1, g2, g3, g4⟩ := h
  refine ⟨fun K => by rw [e]; exact f1 _, ⟨lo, hi, fun K => by rw [e]; exact f2 _, f3⟩, ⟨S, P, fun K => by rw [e]; exact f4 _, f5⟩, ⟨S', h', fun K => by rw [e]; exact f6 _, f7⟩, fun p hp => ?_, fun p hp => ?_, fun p hp => ?_, fun p hp m m0 m1 => ?_⟩
  · obtain ⟨a, b, h1, h2⟩ := g1 p hp
    exact ⟨a, b, fun K => by rw [e]; exact h1 _, h2⟩
  · obtain ⟨a, b, h1, h2⟩ := g2 p hp
    exact ⟨a, b, fun K => by rw [e]; exact h1 _, h2⟩
  · obtain ⟨a, b, h1, h2⟩ := g3 p hp
    exact ⟨a, b, fun K => by rw [e]; exact h1 _, h2⟩
  · obtain ⟨a, h1, h2⟩ := g4 p hp m m0 m1
    exact ⟨a, fun K => by rw [e]; exact h1 _, h2⟩
theorem full_bit (c : Clm.Cl) {i : Nat} (h : i < c.piles.length) : Clm.bit (fullP c) i = true := by
  unfold Clm.bit fullP; rw [Nat.testBit_two_pow_sub_one]; simpa using h
theorem ltrue_walk (C : Cfg) (hC : C.calm = true) (call : CallF) (hA : LApi call) (hI : InsideC call) (ns : List Int) (hD : ∀ H, call (.fn (.func 24) [] []) [.vs 1 (ns.map (AV.int .u16))] H = some (.ret (.fn (.func 68) [] [.ptr (H.length + 1) 0, .ptr H.length 0]), H ++ [.cells [.vs 1 (ns.map (AV.int .u16))], .cells [.int .i64 0]], []))
    (c : Clm.Cl) (hT : Clm.Fine c → TrulyC call c ns) (w : Int) (hw : 0 ≤ w ∧ w ≤ 65535) (H : List AB) :
    Does (ev C call H.length none af4.body { tm := tmA af4.ntmps (zipI 0 [.agg (clampCs c), .vs 1 (ns.map (AV.int .u16)), .int .u16 w] []), df := [], hp := H, tc := [] })
      (Ends C H.length af4.res fun v _ _ => v = .bool true) := by
  have hl := fun H => hA.long (H := H) c
  have ha := fun H => hA.alive (H := H)
  by_cases hlen : max c.piles.length c.events.length > 40
  · rw [decide_eq_true hlen] at hl
    clear hA hlen hT hw hI hD
    unfold af4
    simp only [zipI, clampCs] at *
    (repeat (first | (with_reducible apply zai; (focus ((conv => lhs; simp [Nat.testBit_eq_decide_div_mod_eq, *]) <;> exact rfl)); simp only [addFl]) | ((with_reducible first | refine zaj ?_ | refine zal ?_ | refine zag ?_ | refine zae ?_ | refine zac ?_ | refine zak ?_ | refine zaf ?_ | refine zam ?_ | (apply zad; (focus (simp [zaa, *]; done))) | (with_reducible apply zab; (focus (simp [zaa, *]; done)))); try simp only [Then, Ops, OutB, reduceIte]) | simp only [Nat.reduceEqDiff, reduceIte, OutB, Then]))
    exact zan (v := .bool true) (.inl rfl) rfl (by simp) (by simp only [resL, resOf, zah]; simp [pickC, resV, spA, *]) rfl
  rw [decide_eq_false hlen] at hl
  have hcl := fun H => zzl H c (by omega) (by omega)
  have hv := fun H => hA.valid (hcl H)
  cases hval : Clm.valid c with
  | false =>
    rw [hval] at hv
    clear hA hlen hcl hval hT hw hI hD
    unfold af4
    simp only [zipI, clampCs] at *
    (repeat (first | (with_reducible apply zai; (focus ((conv => lhs; simp [Nat.testBit_eq_decide_div_mod_eq, *]) <;> exact rfl)); simp only [addFl]) | ((with_reducible first | refine zaj ?_ | refine zal ?_ | refine zag ?_ | refine zae ?_ | refine zac ?_ | refine zak ?_ | refine zaf ?_ | refine zam ?_ | (apply zad; (focus (simp [zaa, *]; done))) | (with_reducible apply zab; (focus (simp [zaa, *]; done)))); try simp only [Then, Ops, OutB, reduceIte]) | simp only [Nat.reduceEqDiff, reduceIte, OutB, Then]))
    exact zan (v := .bool true) (.inl rfl) rfl (by simp) (by simp only [resL, resOf, zah]; simp [pickC, resV, spA, *]) rfl
  | true =>
  rw [hval] at hv
  have hc := (Clm.valid_iff c).1 hval
  have hp4 := hc.piles
  have he6 := hc.events
  have hww : IntKind.i64.wrap w = w := zav (by omega) (by omega)
  obtain ⟨sods, hms, hs0, hs2⟩ : ∃ sods, w.tmod 20001 = sods ∧ 0 ≤ sods ∧ sods ≤ 20000 := by
    have h1 := Int.tmod_nonneg 20001 hw.1
    have h2 := Int.tmod_lt_of_pos w (show (0 : Int) < 20001 by omega)
    exact ⟨_, rfl, h1, by omega⟩
  have hTc := hT hc (H ++ [.cells (clampCs c), .cells [.nils, .int .i64 0, .int .i64 0, .nils], .cells [.vs 1 (ns.map (AV.int .u16))], .cells [.int .i64 0]]) (H.length + 2 + 1) (H.length + 2) (by omega) (by rw [List.getElem?_append_right (by omega), show H.length + 2 + 1 - H.length = 3 by omega]; rfl) (by rw [List.getElem?_append_right (by omega), show H.length + 2 - H.length = 2 by omega]; rfl)
  obtain ⟨v, G, tc, hcall, ⟨htc, hcase⟩, hkp⟩ := hTc
  have hG0 : HB G H.length (.cells (clampCs c)) := hb (hkp.at (by rw [List.getElem?_append_right (by omega), Nat.sub_self]; rfl) (by simp; omega))
  have hG1 : HB G (H.length + 1) (.cells [.nils, .int .i64 0, .int .i64 0, .nils]) := hb (hkp.at (by rw [List.getElem?_append_right (by omega), show H.length + 1 - H.length = 1 by omega]; rfl) (by simp))
  have hft : tc.filter (fun x => decide (x < H.length)) = [] := List.filter_eq_nil_iff.2 fun j hj => by have := htc j hj; simp; omega
  have hlG : (H ++ [AB.cells (clampCs c), .cells [.nils, .int .i64 0, .int .i64 0, .nils], .cells [.vs 1 (ns.map (AV.int .u16))], .cells [.int .i64 0]]).length ≤ G.length := hkp.len
  simp only [List.length_append, List.length_cons, List.length_nil] at hlG
  have gl : ¬ (G.length < H.length) := by omega
  have gl1 : ¬ (H.length + 1 < H.length) := by omega
  have gl2 : ∀ n, ¬ (G.length + n < H.length) := fun n => by omega
  obtain ⟨A1, A2, A3⟩ := hG1
  have hnt0 : ¬ (H.length ∈ tc) := fun h => by have := htc _ h; omega
  have hnt1 : ¬ (H.length + 1 ∈ tc) := fun h => by have := htc _ h; omega
  have key : ∀ n, (decide (H.length + n < H.length)) = false := fun n => by simp
  rcases hcase with ⟨qe, rfl⟩ | ⟨pk, qe, qb, ql, xs, B, L, hpk, tr, q1, q2, q3, r1, r2, r3, rfl⟩
  · clear hA hlen hcl hval hT hw hI hkp htc hc hp4 he6 hG0 hlG
    unfold af4
    simp only [zipI, clampCs] at *
    (repeat (first | ((with_reducible apply zai); (focus ((with_reducible apply ev1_spine); (focus rfl); (focus rfl); (focus ((conv => lhs; simp [List.getElem?_append_right, List.set_append_right, List.set_cons_zero, List.set_cons_succ, List.getElem?_cons_zero, List.getElem?_cons_succ, List.getElem?_append_left, List.getElem?_set_ne, List.getElem?_set_self, List.set_append_left, List.length_set, -getElem?_pos, ↓flall_nil', Nat.testBit_eq_decide_div_mod_eq, *]) <;> exact rfl)); (focus rfl); (focus rfl))); simp only [addFl]) | (with_reducible apply zai; (focus ((conv => lhs; simp [List.getElem?_append_right, List.set_append_right, List.set_cons_zero, List.set_cons_succ, List.getElem?_cons_zero, List.getElem?_cons_succ, List.getElem?_append_left, List.getElem?_set_ne, List.getElem?_set_self, List.set_append_left, List.length_set, -getElem?_pos, ↓flall_nil', Nat.testBit_eq_decide_div_mod_eq, *]) <;> exact rfl)); simp only [addFl]) | ((with_reducible first | refine zaj ?_ | refine zal ?_ | refine zag ?_ | refine zae ?_ | refine zac ?_ | refine zak ?_ | refine zaf ?_ | refine zam ?_ | (apply zad; (focus (simp [zaa, *]; done))) | (with_reducible apply zab; (focus (simp [zaa, *]; done)))); try simp only [Then, Ops, OutB, reduceIte]) | simp only [Nat.reduceEqDiff, reduceIte, OutB, Then]))
    exact zan (v := .bool true) (.inl rfl) rfl (by simp only [List.length_append, List.length_set]; omega) (by simp only [resL, resOf, zah]; simp [pickC, resV, spA, *]) rfl
  · have hlaw := Clm.true_law hc hpk tr
    have hX := Clm.truth_fine hc tr
    simp only [List.length_append, List.length_cons, List.length_nil] at q1 q2 q3
    have B1 := get_lt r1
    have B2 := get_lt r2
    have B3 := get_lt r3
    have hqe : HB (G.set (H.length + 1) (.cells [.vs 6 (c.piles.map pileE), .int .i64 c.pack.lo, .int .i64 c.pack.hi, .sl qe 0 c.events.length 4])) qe (.cells (evtCs xs)) := (hb r1).set _ (by omega)
    have hqb := (hb r2).set (r := H.length + 1) (.cells [.vs 6 (c.piles.map pileE), .int .i64 c.pack.lo, .int .i64 c.pack.hi, .sl qe 0 c.events.length 4]) (by omega)
    have hql := (hb r3).set (r := H.length + 1) (.cells [.vs 6 (c.piles.map pileE), .int .i64 c.pack.lo, .int .i64 c.pack.hi, .sl qe 0 c.events.length 4]) (by omega)
    have hq1 := (HB.mk (G := G) (q := H.length + 1) A1 A2 A3).here (.cells [.vs 6 (c.piles.map pileE), .int .i64 c.pack.lo, .int .i64 c.pack.hi, .sl qe 0 c.events.length 4])
    have hxl : xs.length = c.events.length := tr.len
    have hclX : ∀ K, clOf (G.set (H.length + 1) (.cells [.vs 6 (c.piles.map pileE), .int .i64 c.pack.lo, .int .i64 c.pack.hi, .sl qe 0 c.events.length 4]) ++ K) (.agg [.vs 6 (c.piles.map pileE), .int .i64 c.pack.lo, .int .i64 c.pack.hi, .sl qe 0 c.events.length 4]) = some (Clm.withEv c xs) := fun K =>
      zyl (zsm _ c.piles) (zzh (l := xs) (hqe.app K).get hxl.symm) (a := c.pack.lo) (b := c.pack.hi) (by omega) (by omega)
    have hF := tr_facts hA hX (B := B) (L := L) (fun p hp => (tr.nn p hp).1) hlaw hs0 hs2 hclX
    have hF' := hF
    obtain ⟨f1, ⟨lo, hi, f2, f2a, f2b⟩, ⟨eS, eP, f3, f3a, f3b, f3c, f3d⟩, ⟨S, h, f4, f4a, f4b⟩, _, _, _, _⟩ := hF
    have hpl : (Clm.withEv c xs).piles.length = c.piles.length := rfl
    rw [hpl] at f2a f2b f3b f4a f4b
    have hz1 := shr_zero f3b (by omega)
    have hz2 := shr_zero f4a (by omega)
    have hp16 : 2 ^ c.piles.length ≤ 2 ^ 4 := Nat.pow_le_pow_right (by decide) hp4.2
    have han := andnot_i eS (by omega) eP (by omega)
    rw [f3c] at han
    have hh : h = 0 ∨ h = 4 := by rcases f4b with h | ⟨h, _⟩ <;> omega
    have gq1 : ¬ (qe < H.length) := by omega
    generalize hGX : G.set (H.length + 1) (.cells [.vs 6 (c.piles.map pileE), .int .i64 c.pack.lo, .int .i64 c.pack.hi, .sl qe 0 c.events.length 4]) = GX at *
    have HX := hideP (And.intro hF' (And.intro tr (And.intro hqb (And.intro hql (And.intro hq1 (And.intro f2a (And.intro f2b (And.intro f3d (And.intro f4b (And.intro hp4 (And.intro hp16 (And.intro hI f4a))))))))))))
    have glX : GX.length = G.length := by rw [← hGX]; simp
    have f10 := f1 []
    have f20 := f2 []
    rw [List.append_nil] at f10 f20
    obtain ⟨D1, D2, D3⟩ := hq1
    obtain ⟨E1, E2, E3⟩ := hqb
    obtain ⟨F1, F2, F3⟩ := hql
    have gD : ∀ n, ¬ (GX.length + n < H.length) := fun n => by omega
    have gD0 : ¬ (GX.length < H.length) := by omega
    clear hA hlen hcl hval hT hw hI hkp htc hc hp4 he6 hG0 hF' tr f2a f2b f3d f4b hX hlaw r1 r2 r3 hqe hclX hpk q1 q2 q3 f3a f3b f3c f4a hp16 hxl hpl
    clear glX
    simp at han
    unfold af4
    simp only [zipI, clampCs] at *
    rcases hh with rfl | rfl
    · (repeat (first | ((with_reducible apply zai); (focus ((with_reducible apply ev1_spine); (focus rfl); (focus rfl); (focus ((conv => lhs; simp [List.getElem?_append_right, List.set_append_right, List.set_cons_zero, List.set_cons_succ, List.getElem?_cons_zero, List.getElem?_cons_succ, List.getElem?_append_left, List.getElem?_set_ne, List.getElem?_set_self, List.set_append_left, List.length_set, -getElem?_pos, ↓flall_nil', Nat.testBit_eq_decide_div_mod_eq, *]) <;> exact rfl)); (focus rfl); (focus rfl))); simp only [addFl]) | (with_reducible apply zai; (focus ((conv => lhs; simp [List.getElem?_append_right, List.set_append_right, List.set_cons_zero, List.set_cons_succ, List.getElem?_cons_zero, List.getElem?_cons_succ, List.getElem?_append_left, List.getElem?_set_ne, List.getElem?_set_self, List.set_append_left, List.length_set, -getElem?_pos, ↓flall_nil', Nat.testBit_eq_decide_div_mod_eq, *]) <;> exact rfl)); simp only [addFl]) | ((with_reducible first | refine zaj ?_ | refine zal ?_ | refine zag ?_ | refine zae ?_ | refine zac ?_ | refine zak ?_ | refine zaf ?_ | refine zam ?_ | (apply zad; (focus (simp [zaa, *]; done))) | (with_reducible apply zab; (focus (simp [zaa, *]; done)))); try simp only [Then, Ops, OutB, reduceIte]) | simp only [Nat.reduceEqDiff, reduceIte, OutB, Then]))
      with_reducible refine zbe hC c.piles.length (by have := HX.out.2.2.2.2.2.2.2.2.2.1; unfold fuelL; omega) (fun i st => ∃ K, st = teSt H GX.length c.piles.length qb ql sods 0 (Clm.sumF (fullP (Clm.withEv c xs)) (fun j => L.getD j 0) i) (Clm.sumF S (fun j => L.getD j 0) i) eS eP S i ((GX ++ [.cells [.int .i64 lo, .int .i64 hi]]) ++ K)) ?_ ?_ ?_
      · refine ⟨[], ?_⟩
        simp only [Clm.sumF, teSt]
        (refine st_is ?_ ?_ ?_ ?_; (focus (simp [zao, zar])); (focus rfl); (focus (first | rfl | (simp; done) | (simp [*]; done) | (simp; rfl) | (simp [*]; omega) | (simp; omega))); (focus (first | rfl | simp)))
      · rintro i st hil ⟨K, rfl⟩
        obtain ⟨hF, tr, hqb, hql, hq1, f2a, f2b, f3d, f4b, hp4, hp16, hI, f4a⟩ := HX.out
        have hnn : ∀ p, p < L.length → 0 ≤ L.getD p 0 ∧ L.getD p 0 ≤ 5000 := fun p hp => by have := tr.nn p (by rw [← tr.ll]; exact hp); omega
        have s1 := sumF_low (set := fullP (Clm.withEv c xs)) hnn i (by rw [tr.ll]; omega)
        have s2 := sumF_low (set := S) hnn i (by rw [tr.ll]; omega)
        have hr := ltrue_round' C call hI (Clm.withEv c xs) c.piles.length rfl hp4.2 B L sods 0 (GX ++ [.cells [.int .i64 lo, .int .i64 hi]]) K [.vs 6 (c.piles.map pileE), .int .i64 c.pack.lo, .int .i64 c.pack.hi, .sl qe 0 c.events.length 4] (hF.app _) hs0 hs2 H GX.length qb ql rfl (hq1.app _) (hqb.app _) (hql.app _) tr.lb tr.ll (fun p hp => tr.nn p hp) eS eP S (fun p hp => f3d p hp) i hil (Clm.sumF (fullP (Clm.withEv c xs)) (fun j => L.getD j 0) i) (Clm.sumF S (fun j => L.getD j 0) i) ⟨s1.1, by omega⟩ ⟨s2.1, by omega⟩
        refine Does.mono hr ?_
        rintro e st ⟨rfl, K', h⟩
        refine ⟨K', ?_⟩
        have e1 : Clm.sumF (fullP (Clm.withEv c xs)) (fun j => L.getD j 0) (i + 1) = Clm.sumF (fullP (Clm.withEv c xs)) (fun j => L.getD j 0) i + L.getD i 0 := by
          rw [Clm.sumF, if_pos (full_bit (Clm.withEv c xs) hil)]
        have e2 : Clm.sumF S (fun j => L.getD j 0) (i + 1) = if S.testBit i then Clm.sumF S (fun j => L.getD j 0) i + L.getD i 0 else Clm.sumF S (fun j => L.getD j 0) i := rfl
        rw [e1, e2]
        exact h
      · rintro st ⟨K, rfl⟩
        obtain ⟨hF, tr, hqb, hql, hq1, f2a, f2b, f3d, f4b, hp4, hp16, hI, f4a⟩ := HX.out
        have hi1 := fun G => hI G (Clm.sumF (fullP (Clm.withEv c xs)) (fun j => L.getD j 0) c.piles.length) lo hi
        rw [decide_eq_true ⟨f2a, f2b⟩] at hi1
        have hs3 : sods ≤ Clm.sumF S (fun j => L.getD j 0) c.piles.length := by rcases f4b with h | ⟨_, h⟩ <;> first | omega | exact h
        clear hF tr hqb hql hq1 f2a f2b f3d f4b hp4 hp16 hI f4a HX han hz1 hz2 f10 f20 hcall
        generalize Clm.sumF (fullP (Clm.withEv c xs)) (fun j => L.getD j 0) c.piles.length = s1 at *
        generalize Clm.sumF S (fun j => L.getD j 0) c.piles.length = s2 at *
        unfold teSt
        (repeat (first | ((with_reducible apply zai); (focus ((with_reducible apply ev1_spine); (focus rfl); (focus rfl); (focus ((conv => lhs; simp [List.getElem?_append_right, List.set_append_right, List.set_cons_zero, List.set_cons_succ, List.getElem?_cons_zero, List.getElem?_cons_succ, List.getElem?_append_left, List.getElem?_set_ne, List.getElem?_set_self, List.set_append_left, List.length_set, -getElem?_pos, ↓flall_nil', Nat.testBit_eq_decide_div_mod_eq, *]) <;> exact rfl)); (focus rfl); (focus rfl))); simp only [addFl]) | (with_reducible apply zai; (focus ((conv => lhs; simp [List.getElem?_append_right, List.set_append_right, List.set_cons_zero, List.set_cons_succ, List.getElem?_cons_zero, List.getElem?_cons_succ, List.getElem?_append_left, List.getElem?_set_ne, List.getElem?_set_self, List.set_append_left, List.length_set, -getElem?_pos, ↓flall_nil', Nat.testBit_eq_decide_div_mod_eq, *]) <;> exact rfl)); simp only [addFl]) | ((with_reducible first | refine zaj ?_ | refine zal ?_ | refine zag ?_ | refine zae ?_ | refine zac ?_ | refine zak ?_ | refine zaf ?_ | refine zam ?_ | (apply zad; (focus (simp [zaa, *]; done))) | (with_reducible apply zab; (focus (simp [zaa, *]; done)))); try simp only [Then, Ops, OutB, reduceIte]) | simp only [Nat.reduceEqDiff, reduceIte, OutB, Then]))
        exact zan (v := .bool true) (.inl rfl) rfl (by simp only [List.length_append]; omega) (by simp only [resL, resOf, zah]; simp [pickC, resV, spA, *]) rfl
    · (repeat (first | ((with_reducible apply zai); (focus ((with_reducible apply ev1_spine); (focus rfl); (focus rfl); (focus ((conv => lhs; simp [List.getElem?_append_right, List.set_append_right, List.set_cons_zero, List.set_cons_succ, List.getElem?_cons_zero, List.getElem?_cons_succ, List.getElem?_append_left, List.getElem?_set_ne, List.getElem?_set_self, List.set_append_left, List.length_set, -getElem?_pos, ↓flall_nil', Nat.testBit_eq_decide_div_mod_eq, *]) <;> exact rfl)); (focus rfl); (focus rfl))); simp only [addFl]) | (with_reducible apply zai; (focus ((conv => lhs; simp [List.getElem?_append_right, List.set_append_right, List.set_cons_zero, List.set_cons_succ, List.getElem?_cons_zero, List.getElem?_cons_succ, List.getElem?_append_left, List.getElem?_set_ne, List.getElem?_set_self, List.set_append_left, List.length_set, -getElem?_pos, ↓flall_nil', Nat.testBit_eq_decide_div_mod_eq, *]) <;> exact rfl)); simp only [addFl]) | ((with_reducible first | refine zaj ?_ | refine zal ?_ | refine zag ?_ | refine zae ?_ | refine zac ?_ | refine zak ?_ | refine zaf ?_ | refine zam ?_ | (apply zad; (focus (simp [zaa, *]; done))) | (with_reducible apply zab; (focus (simp [zaa, *]; done)))); try simp only [Then, Ops, OutB, reduceIte]) | simp only [Nat.reduceEqDiff, reduceIte, OutB, Then]))
      with_reducible refine zbe hC c.piles.length (by have := HX.out.2.2.2.2.2.2.2.2.2.1; unfold fuelL; omega) (fun i st => ∃ K, st = teSt H GX.length c.piles.length qb ql sods 4 (Clm.sumF (fullP (Clm.withEv c xs)) (fun j => L.getD j 0) i) (Clm.sumF S (fun j => L.getD j 0) i) eS eP S i ((GX ++ [.cells [.int .i64 lo, .int .i64 hi]]) ++ K)) ?_ ?_ ?_
      · refine ⟨[], ?_⟩
        simp only [Clm.sumF, teSt]
        (refine st_is ?_ ?_ ?_ ?_; (focus (simp [zao, zar])); (focus rfl); (focus (first | rfl | (simp; done) | (simp [*]; done) | (simp; rfl) | (simp [*]; omega) | (simp; omega))); (focus (first | rfl | simp)))
      · rintro i st hil ⟨K, rfl⟩
        obtain ⟨hF, tr, hqb, hql, hq1, f2a, f2b, f3d, f4b, hp4, hp16, hI, f4a⟩ := HX.out
        have hnn : ∀ p, p < L.length → 0 ≤ L.getD p 0 ∧ L.getD p 0 ≤ 5000 := fun p hp => by have := tr.nn p (by rw [← tr.ll]; exact hp); omega
        have s1 := sumF_low (set := fullP (Clm.withEv c xs)) hnn i (by rw [tr.ll]; omega)
        have s2 := sumF_low (set := S) hnn i (by rw [tr.ll]; omega)
        have hr := ltrue_round' C call hI (Clm.withEv c xs) c.piles.length rfl hp4.2 B L sods 4 (GX ++ [.cells [.int .i64 lo, .int .i64 hi]]) K [.vs 6 (c.piles.map pileE), .int .i64 c.pack.lo, .int .i64 c.pack.hi, .sl qe 0 c.events.length 4] (hF.app _) hs0 hs2 H GX.length qb ql rfl (hq1.app _) (hqb.app _) (hql.app _) tr.lb tr.ll (fun p hp => tr.nn p hp) eS eP S (fun p hp => f3d p hp) i hil (Clm.sumF (fullP (Clm.withEv c xs)) (fun j => L.getD j 0) i) (Clm.sumF S (fun j => L.getD j 0) i) ⟨s1.1, by omega⟩ ⟨s2.1, by omega⟩
        refine Does.mono hr ?_
        rintro e st ⟨rfl, K', h⟩
        refine ⟨K', ?_⟩
        have e1 : Clm.sumF (fullP (Clm.withEv c xs)) (fun j => L.getD j 0) (i + 1) = Clm.sumF (fullP (Clm.withEv c xs)) (fun j => L.getD j 0) i + L.getD i 0 := by
          rw [Clm.sumF, if_pos (full_bit (Clm.withEv c xs) hil)]
        have e2 : Clm.sumF S (fun j => L.getD j 0) (i + 1) = if S.testBit i then Clm.sumF S (fun j => L.getD j 0) i + L.getD i 0 else Clm.sumF S (fun j => L.getD j 0) i := rfl
        rw [e1, e2]
        exact h
      · rintro st ⟨K, rfl⟩
        obtain ⟨hF, tr, hqb, hql, hq1, f2a, f2b, f3d, f4b, hp4, hp16, hI, f4a⟩ := HX.out
        have hi1 := fun G => hI G (Clm.sumF (fullP (Clm.withEv c xs)) (fun j => L.getD j 0) c.piles.length) lo hi
        rw [decide_eq_true ⟨f2a, f2b⟩] at hi1
        skip
        clear hF tr hqb hql hq1 f2a f2b f3d f4b hp4 hp16 hI f4a HX han hz1 hz2 f10 f20 hcall
        generalize Clm.sumF (fullP (Clm.withEv c xs)) (fun j => L.getD j 0) c.piles.length = s1 at *
        generalize Clm.sumF S (fun j => L.getD j 0) c.piles.length = s2 at *
        unfold teSt
        (repeat (first | ((with_reducible apply zai); (focus ((with_reducible apply ev1_spine); (focus rfl); (focus rfl); (focus ((conv => lhs; simp [List.getElem?_append_right, List.set_append_right, List.set_cons_zero, List.set_cons_succ, List.getElem?_cons_zero, List.getElem?_cons_succ, List.getElem?_append_left, List.getElem?_set_ne, List.getElem?_set_self, List.set_append_left, List.length_set, -getElem?_pos, ↓flall_nil', Nat.testBit_eq_decide_div_mod_eq, *]) <;> exact rfl)); (focus rfl); (focus rfl))); simp only [addFl]) | (with_reducible apply zai; (focus ((conv => lhs; simp [List.getElem?_append_right, List.set_append_right, List.set_cons_zero, List.set_cons_succ, List.getElem?_cons_zero, List.getElem?_cons_succ, List.getElem?_append_left, List.getElem?_set_ne, List.getElem?_set_self, List.set_append_left, List.length_set, -getElem?_pos, ↓flall_nil', Nat.testBit_eq_decide_div_mod_eq, *]) <;> exact rfl)); simp only [addFl]) | ((with_reducible first | refine zaj ?_ | refine zal ?_ | refine zag ?_ | refine zae ?_ | refine zac ?_ | refine zak ?_ | refine zaf ?_ | refine zam ?_ | (apply zad; (focus (simp [zaa, *]; done))) | (with_reducible apply zab; (focus (simp [zaa, *]; done)))); try simp only [Then, Ops, OutB, reduceIte]) | simp only [Nat.reduceEqDiff, reduceIte, OutB, Then]))
        exact zan (v := .bool true) (.inl rfl) rfl (by simp only [List.length_append]; omega) (by simp only [resL, resOf, zah]; simp [pickC, resV, spA, *]) rfl
end K
end Ev
end Go.Proofs.Ytimgnlellflciaa

/- The code of functions of the laws is that of the program. Printed by program. -/
namespace Go.Proofs.Ytimgnlellflciaa
open Go Go.Proofs
namespace Ev
set_option maxRecDepth 1000000
theorem is4 : ∃ F, Try.prog.funcs[4]? = some F ∧ (F.name == "runtime.NumGoroutine") = false ∧ compFn Try.prog F = some af4.strip := ⟨_, Try.func4, by kernel_rfl, by kernel_rfl⟩
theorem is23 : ∃ F, Try.prog.funcs[23]? = some F ∧ (F.name == "runtime.NumGoroutine") = false ∧ compFn Try.prog F = some af23.strip := ⟨_, Try.func23, by kernel_rfl, by kernel_rfl⟩
theorem is24 : ∃ F, Try.prog.funcs[24]? = some F ∧ (F.name == "runtime.NumGoroutine") = false ∧ compFn Try.prog F = some af24.strip := ⟨_, Try.func24, by kernel_rfl, by kernel_rfl⟩
theorem is68 : ∃ F, Try.prog.funcs[68]? = some F ∧ (F.name == "runtime.NumGoroutine") = false ∧ compFn Try.prog F = some af68.strip := ⟨_, Try.func68, by kernel_rfl, by kernel_rfl⟩
end Ev
end Go.Proofs.Ytimgnlellflciaa

/- The code of functions of the laws is that of the program. Printed by program. -/
namespace Go.Proofs.Ytimgnlellflciaa
open Go Go.Proofs
namespace Ev
set_option maxRecDepth 1000000
theorem is27 : ∃ F, Try.prog.funcs[27]? = some F ∧ (F.name == "runtime.NumGoroutine") = false ∧ compFn Try.prog F = some af27.strip := ⟨_, Try.func27, by kernel_rfl, by kernel_rfl⟩
end Ev
end Go.Proofs.Ytimgnlellflciaa

/- The functions that the law ClampTrue goes through itself. Printed by program. -/
namespace Go.Proofs.Ytimgnlellflciaa
open Go Go.Proofs
namespace Ev
def treeClampTrue : FT := (.node 23 af23 (.node 20 af20 (.node 4 af4 .leaf .leaf) (.node 21 af21 .leaf .leaf)) (.node 27 af27 (.node 24 af24 .leaf .leaf) (.node 68 af68 .leaf .leaf)))
theorem treeClampTrue_is : FT.All (fun k af => ∃ F, Try.prog.funcs[k]? = some F ∧ (F.name == "runtime.NumGoroutine") = false ∧ compFn Try.prog F = some af.strip) treeClampTrue :=
  ⟨is23, ⟨is20, ⟨is4, trivial, trivial⟩, ⟨is21, trivial, trivial⟩⟩, ⟨is27, ⟨is24, trivial, trivial⟩, ⟨is68, trivial, trivial⟩⟩⟩
end Ev
end Go.Proofs.Ytimgnlellflciaa

/- An argument that is a list of numbers. -/
namespace Go.Proofs.Ytimgnlellflciaa
open Go Go.Proofs Go.ChangeShapes Go.WideShapes Go.ChangeAt Go.RowKit Go.Deep
theorem cells_u16 : Try.prog.cellsOf 40 = 1 := by kernel_rfl
def U16 : Type := { n : Int // 0 ≤ n ∧ n ≤ 65535 }
set_option maxRecDepth 100000 in
theorem open_u16s {H : Type} {enc : TypeId × Value → H} {W : World} {v : Value} {d : DataW H} {p : List MemPlace} {base : Nat}
    (hv : Value.okWide Try.prog W .any base 39 v) (h : DataW.Trod enc Try.prog W 0 (fun _ => true) true 39 v d p) :
    ∃ x : List Int, (∀ n ∈ x, 0 ≤ n ∧ n ≤ 65535) ∧ Ev.VR W (fun _ => False) Ev.nomu (.vs 1 (x.map (Ev.AV.int .u16))) v := by
  obtain ⟨a, len, cap, rfl⟩ := okWide_slice Try.underlying39 hv
  obtain ⟨fuel, hf⟩ := h
  obtain ⟨l, x, h1, h2⟩ := Ev.K.row_vr (α := U16) (k := 1) ⟨0, by decide⟩ (fun n => [.int .u16 n.1]) (fun n => Ev.AV.int .u16 n.1) (by omega) (fun _ => rfl) (fun _ => rfl) (fun y j x r h1 h2 => by
      match j, h1, h2 with
      | 0, h1, h2 => cases h1; cases h2; exact .int
      | j + 1, h1, h2 => simp at h2) Try.underlying39 cells_u16
    (fun _ _ h => by
      obtain ⟨y, h⟩ := h
      obtain ⟨n, h1, _, h2⟩ := DataW.trod_int Try.underlying40 h
      exact ⟨⟨n, zyu h2⟩, h1⟩) ⟨_, hf⟩
  have h1' : ([.slice a len cap] : List Value) = [x] := h1
  simp only [List.cons.injEq, and_true] at h1'
  subst h1'
  refine ⟨l.map (·.1), fun n hn => ?_, ?_⟩
  · obtain ⟨y, _, rfl⟩ := List.mem_map.1 hn
    exact y.2
  · rw [List.map_map]; exact h2
end Go.Proofs.Ytimgnlellflciaa

/- The Go function ClampTrue returns true, for every argument, in every world in which it is called; nothing that was there is turned. No condition. -/
namespace Go.Proofs.Ytimgnlellflciaa
open Go Go.Proofs Go.ChangeShapes Go.WideShapes Go.ChangeAt Go.RowKit
namespace Ev
namespace K
theorem lawClampTrue (W : World) (c : Clm.Cl) {v0 : Value} (hv0 : VR W (fun _ => False) nomu (.agg (clampCs c)) v0) (x1 : List Int) (b1 : ∀ n ∈ x1, 0 ≤ n ∧ n ≤ 65535) {v1 : Value} (hv1 : VR W (fun _ => False) nomu (.vs 1 (x1.map (AV.int .u16))) v1) (x2 : Int) (b2 : (Lit.int .u16 x2).wf = true) {v2 : Value} (hv2 : VR W (fun _ => False) nomu (.int .u16 x2) v2) : CallsIn Fence.wide 0 Try.prog 4 #[v0, v1, v2] W fun e W' => e = .returned (.bool true) ∧ Below W.heap.size W W' := by
  have hz : ∀ {f : Nat} {af : AFunc}, (cfgL treeClampTrue).exth f = none → FT.find treeClampTrue f = some af → Has (cfgL treeClampTrue) f af := fun h1 h2 => has_of rfl h1 h2 rfl
  have la := fun n => lapi (t := treeClampTrue) (hz rfl (by kernel_rfl)) (hz rfl (by kernel_rfl)) n
  have k : Has (cfgL treeClampTrue) 4 af4 := hz rfl (by kernel_rfl)
  obtain ⟨v, hp, tc, H', h1, h2, _⟩ := zcl (C := cfgL treeClampTrue) (n := 4) (first := []) (captured := []) (args := [.agg (clampCs c), .vs 1 (x1.map (AV.int .u16)), .int .u16 x2]) (H := []) (Q := fun v _ _ => v = .bool true) rfl k.ext k.exth k.fns k.whole (le' rfl) (ltrue_walk (cfgL treeClampTrue) rfl _ (la 3) (fun H n a b => zbc rfl (hz rfl (by kernel_rfl)) (le' rfl) rfl (inside_fun (cfgL treeClampTrue) _ H n a b)) x1 (fun H => zoh rfl (hz rfl (by kernel_rfl)) (le' rfl) (by simp [refs, refsL]) (draws_fun (cfgL treeClampTrue) _ x1 H)) c (fun hc => truly_call rfl (hz rfl (by kernel_rfl)) (fun b u => draw_call rfl (hz rfl (by kernel_rfl)) x1 b1 b u) (fun H a b => (la 2).span a b) hc) x2 (zyu b2) [])
  subst h2
  refine (zrs (tblL treeClampTrue_is) h1 trivial (zeh _ _ _) (rargs := #[v0, v1, v2]) ⟨rfl, fun i y r hy hr => ?_⟩).mono ?_
  · match i, hy, hr with
    | 0, hy, hr => cases hy; cases hr; exact hv0
    | 1, hy, hr => cases hy; cases hr; exact hv1
    | 2, hy, hr => cases hy; cases hr; exact hv2
    | i + 3, hy, hr => simp at hy
  · rintro e W' ⟨⟨w, rfl, hw⟩, bel⟩
    exact ⟨by rw [zzm hw W], bel⟩
end K
end Ev
set_option maxRecDepth 100000 in
theorem clampTrue_lifted (os : Os) (started : os.Started) (H : Type) (enc : TypeId × Value → H) :
    ReturnsInHanded {} Try.checked os 4 .any (Rows.clampTrueSpec.pre6 enc Try.prog Try.f4 Rows.clampTrueRow.domain false) (Rows.clampTrueSpec.post enc Try.prog Try.f4 false true false false) := by
  refine returnsInHanded_of_change (C := Try.checked) zxp started (by kernel_rfl) Try.func4
    (ChangeSpec.witness6 (enc := enc) (C := Try.checked) false ⟨#[], #[noClamp, .slice none 0 0, .int .u16 0], []⟩ 8 (by kernel_rfl) (by kernel_rfl) (by kernel_rfl) (by kernel_rfl)) ?_
  intro W base args ds gs before hval0 hW hcnd _
  have hval : ∀ (j : Nat) t v, Try.f4.params[j]? = some t → args[j]? = some v → Value.okWide Try.prog W .any base t v := hval0
  have hW' := hW
  obtain ⟨p, q, hA0, hV, rfl, hfz, hnd⟩ := hW
  have hA : DataW.TrodAll enc Try.prog W 0 (fun _ => true) true Try.f4.params.toList args.toList ds p := hA0
  rw [Try.params4] at hA hval
  obtain ⟨v0, vs0, d0, ds0, p0, q0, hargs0, rfl, rfl, h0, hA1⟩ := trodAll_cons hA
  obtain ⟨v1, vs1, d1, ds1, p1, q1, rfl, rfl, rfl, h1, hA2⟩ := trodAll_cons hA1
  obtain ⟨v2, vs2, d2, ds2, p2, q2, rfl, rfl, rfl, h2, hA3⟩ := trodAll_cons hA2
  obtain ⟨rfl, rfl, rfl⟩ := trodAll_nil hA3
  obtain rfl : args = #[v0, v1, v2] := Array.ext' hargs0
  obtain ⟨rfl, rfl, rfl⟩ := trodVars_none hV
  clear hA0 hval0
  obtain ⟨c, hx0⟩ := zys (hval 0 30 v0 rfl rfl) h0
  obtain ⟨x1, b1, hx1⟩ := open_u16s (hval 1 39 v1 rfl rfl) h1
  obtain ⟨x2, rfl, rfl, rfl, wf2⟩ := open_int Try.underlying40 (hval 2 40 v2 rfl rfl) h2
  simp only [List.append_nil] at hW'
  have hlt : ∀ x ∈ (p0 ++ (p1 ++ ([] ++ []))), x.block < W.heap.size := fun x hx => by simpa using hW'.lt x (by simpa using hx)
  refine (callsIn_wide.1 (Ev.K.lawClampTrue W c hx0 x1 b1 hx1 x2 wf2 .int)).mono fun e W' ⟨he, bel⟩ => ?_
  subst he
  refine ⟨_, rfl, _, _, _, [], (p0 ++ (p1 ++ ([] ++ []))), [], by simpa using hW', ?_, ?_, ?_, bel.frame _, fun h => by cases h⟩
  · exact trodAll_mk1 (shut_bool Try.underlying4 true)
  · exact trodAll_cons_mk (Below.trod laidOut' (by kernel_rfl) (of_decide_eq_true (by kernel_rfl)) h0 bel (fun x hx => hlt x (by simp [hx]))) (trodAll_cons_mk (Below.trod laidOut' (by kernel_rfl) (of_decide_eq_true (by kernel_rfl)) h1 bel (fun x hx => hlt x (by simp [hx]))) (trodAll_cons_mk (shut_int Try.underlying40 wf2) (trodAll_mk0)))
  · exact rfl
theorem clampTrue_holds : Rows.ClampTrueSaid :=
  OpenClaim.holds_of_wide 4 Try.f4 rfl rfl rfl rfl rfl rfl rfl ⟨rfl, rfl, rfl, rfl, rfl⟩ rfl rfl rfl rfl rfl (by kernel_rfl) Try.func4 (by kernel_rfl)
    (of_decide_eq_true (by kernel_rfl)) (by unfold Func.isWrapper; first | (rw [if_pos (by decide +kernel)]; kernel_rfl) | (rw [if_neg (by decide +kernel)]; exact ⟨rfl, rfl⟩))
    (fun os started H enc _ => clampTrue_lifted os started H enc)
#print axioms clampTrue_holds
end Go.Proofs.Ytimgnlellflciaa
