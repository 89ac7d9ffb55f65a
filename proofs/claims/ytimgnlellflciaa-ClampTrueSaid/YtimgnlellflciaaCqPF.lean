/- What the rows of chapter 09 share. -/
import Derived.Test.YtimgnlellflciaaCqPE
import Derived.Test.YtimgnlellflciaaRows
import Derived.WalkKit
import Derived.ProofKit
import Derived.OpenShut
import Derived.KernelRfl
import Derived.Deep.Slices
import Derived.Deep.Fields
import Derived.ChangeSame
/- Chapter 09, gone through: the reference's check of clamps, and small functions of the laws. -/
namespace Go.Proofs.Ytimgnlellflciaa
open Go
namespace Ev
namespace K
attribute [local simp] ev1 wantG spineK spine float xnew xval xeff zaa zat zbf zay zaz addFl cellsOf pickC alive slLen slFt binI maxA maxK minA minK aeqK aeqS AV.cells spA zas fillA setAt bitsI nat_nn zbj AV.plain apart
set_option maxRecDepth 100000
set_option maxHeartbeats 4000000
theorem zxk (C : Cfg) (call : CallF) (H : List AB) (n a b : Int) : Does (ev C call H.length none af65.body { tm := tmA af65.ntmps (zipI 0 [.int .i64 n, .int .i64 a, .int .i64 b] []), df := [], hp := H, tc := [] })
    (Ends C H.length af65.res fun v _hp tc => v = .bool (decide (a ≤ n ∧ n ≤ b)) ∧ tc = []) := by
  unfold af65
  simp only [zipI]
  by_cases h : a ≤ n
  · (repeat (first | (with_reducible apply zai; (focus ((conv => lhs; simp [Nat.testBit_eq_decide_div_mod_eq, *]) <;> exact rfl)); simp only [addFl]) | ((with_reducible first | refine zaj ?_ | refine zal ?_ | refine zag ?_ | refine zae ?_ | refine zac ?_ | refine zak ?_ | refine zaf ?_ | refine zam ?_ | (apply zad; (focus (simp [zaa, *]; done))) | (with_reducible apply zab; (focus (simp [zaa, *]; done)))); try simp only [Then, Ops]) | simp only [Nat.reduceEqDiff, reduceIte, OutB, Then]))
    exact zan (v := .bool (decide (n ≤ b))) (.inl rfl) rfl (by simp) (by simp only [resL, resOf, zah]; simp [resV, *]) ⟨by simp [h], rfl⟩
  · (repeat (first | (with_reducible apply zai; (focus ((conv => lhs; simp [Nat.testBit_eq_decide_div_mod_eq, *]) <;> exact rfl)); simp only [addFl]) | ((with_reducible first | refine zaj ?_ | refine zal ?_ | refine zag ?_ | refine zae ?_ | refine zac ?_ | refine zak ?_ | refine zaf ?_ | refine zam ?_ | (apply zad; (focus (simp [zaa, *]; done))) | (with_reducible apply zab; (focus (simp [zaa, *]; done)))); try simp only [Then, Ops]) | simp only [Nat.reduceEqDiff, reduceIte, OutB, Then]))
    exact zan (v := .bool false) (.inl rfl) rfl (by simp) (by simp only [resL, resOf, zah]; simp [resV, *]) ⟨by simp [h], rfl⟩
def RinC (call : CallF) : Prop := ∀ (H : List AB) (n a b : Int), call (.fn (.func 65) [] []) [.int .i64 n, .int .i64 a, .int .i64 b] H = some (.ret (.bool (decide (a ≤ n ∧ n ≤ b))), H, [])
theorem zsi (C : Cfg) (call : CallF) (H : List AB) (s : Clm.Sp) (a b w : Int) (h0 : a = 0 ∨ a = 1) (hb : b ≤ 5000) : Does (ev C call H.length none af66.body { tm := tmA af66.ntmps (zipI 0 [spA s, .int .i64 a, .int .i64 b, .int .i64 w] []), df := [], hp := H, tc := [] })
    (Ends C H.length af66.res fun v _hp tc => v = .bool (Clm.isSpan s a b w) ∧ tc = []) := by
  by_cases h1 : a ≤ s.lo
  · by_cases h2 : s.lo ≤ s.hi
    · by_cases h3 : s.hi ≤ b
      · have w1 : IntKind.i64.wrap (s.hi - s.lo) = s.hi - s.lo := zav (by omega) (by omega)
        clear h0 hb
        have e : Clm.isSpan s a b w = decide (s.hi - s.lo ≤ w) := by simp [Clm.isSpan, h1, h2, h3]
        rw [e]; clear e
        unfold af66
        simp only [zipI, spA]
        (repeat (first | (with_reducible apply zai; (focus ((conv => lhs; simp [Nat.testBit_eq_decide_div_mod_eq, *]) <;> exact rfl)); simp only [addFl]) | ((with_reducible first | refine zaj ?_ | refine zal ?_ | refine zag ?_ | refine zae ?_ | refine zac ?_ | refine zak ?_ | refine zaf ?_ | refine zam ?_ | (apply zad; (focus (simp [zaa, *]; done))) | (with_reducible apply zab; (focus (simp [zaa, *]; done)))); try simp only [Then, Ops]) | simp only [Nat.reduceEqDiff, reduceIte, OutB, Then]))
        exact zan (v := .bool (decide (s.hi - s.lo ≤ w))) (.inl rfl) rfl (by simp) (by simp only [resL, resOf, zah]; simp [resV, *]) ⟨rfl, by simp⟩
      · clear h0 hb
        have e : Clm.isSpan s a b w = false := by simp [Clm.isSpan, h3]
        rw [e]; clear e
        unfold af66
        simp only [zipI, spA]
        (repeat (first | (with_reducible apply zai; (focus ((conv => lhs; simp [Nat.testBit_eq_decide_div_mod_eq, *]) <;> exact rfl)); simp only [addFl]) | ((with_reducible first | refine zaj ?_ | refine zal ?_ | refine zag ?_ | refine zae ?_ | refine zac ?_ | refine zak ?_ | refine zaf ?_ | refine zam ?_ | (apply zad; (focus (simp [zaa, *]; done))) | (with_reducible apply zab; (focus (simp [zaa, *]; done)))); try simp only [Then, Ops]) | simp only [Nat.reduceEqDiff, reduceIte, OutB, Then]))
        exact zan (v := .bool false) (.inl rfl) rfl (by simp) (by simp only [resL, resOf, zah]; simp [resV, *]) ⟨rfl, by simp⟩
    · clear h0 hb
      have e : Clm.isSpan s a b w = false := by simp [Clm.isSpan, h2]
      rw [e]; clear e
      unfold af66
      simp only [zipI, spA]
      (repeat (first | (with_reducible apply zai; (focus ((conv => lhs; simp [Nat.testBit_eq_decide_div_mod_eq, *]) <;> exact rfl)); simp only [addFl]) | ((with_reducible first | refine zaj ?_ | refine zal ?_ | refine zag ?_ | refine zae ?_ | refine zac ?_ | refine zak ?_ | refine zaf ?_ | refine zam ?_ | (apply zad; (focus (simp [zaa, *]; done))) | (with_reducible apply zab; (focus (simp [zaa, *]; done)))); try simp only [Then, Ops]) | simp only [Nat.reduceEqDiff, reduceIte, OutB, Then]))
      exact zan (v := .bool false) (.inl rfl) rfl (by simp) (by simp only [resL, resOf, zah]; simp [resV, *]) ⟨rfl, by simp⟩
  · clear h0 hb
    have e : Clm.isSpan s a b w = false := by simp [Clm.isSpan, h1]
    rw [e]; clear e
    unfold af66
    simp only [zipI, spA]
    (repeat (first | (with_reducible apply zai; (focus ((conv => lhs; simp [Nat.testBit_eq_decide_div_mod_eq, *]) <;> exact rfl)); simp only [addFl]) | ((with_reducible first | refine zaj ?_ | refine zal ?_ | refine zag ?_ | refine zae ?_ | refine zac ?_ | refine zak ?_ | refine zaf ?_ | refine zam ?_ | (apply zad; (focus (simp [zaa, *]; done))) | (with_reducible apply zab; (focus (simp [zaa, *]; done)))); try simp only [Then, Ops]) | simp only [Nat.reduceEqDiff, reduceIte, OutB, Then]))
    exact zan (v := .bool false) (.inl rfl) rfl (by simp) (by simp only [resL, resOf, zah]; simp [resV, *]) ⟨rfl, by simp⟩
def RspanC (call : CallF) : Prop := ∀ (H : List AB) (s : Clm.Sp) (a b w : Int), a = 0 ∨ a = 1 → b ≤ 5000 → call (.fn (.func 66) [] []) [.agg [.int .i64 s.lo, .int .i64 s.hi], .int .i64 a, .int .i64 b, .int .i64 w] H = some (.ret (.bool (Clm.isSpan s a b w)), H, [])
theorem zsj (C : Cfg) (call : CallF) (hI : RinC call) (c : Clm.Cl) (hc : c.piles.length ≤ 1000000) (H : List AB) (n : Int) : Does (ev C call H.length none af84.body { tm := tmA af84.ntmps (zipI 0 [.agg (clampCs c), .int .i64 n] []), df := [], hp := H, tc := [] })
    (Ends C H.length af84.res fun v _hp tc => v = .bool (isP c n) ∧ tc = []) := by
  have hw : IntKind.i64.wrap ((c.piles.length : Int) - 1) = (c.piles.length : Int) - 1 := zav (by omega) (by omega)
  have e : isP c n = decide (0 ≤ n ∧ n ≤ (c.piles.length : Int) - 1) := by unfold isP; congr 1; simp; omega
  have hW' := fun H => hI H n 0 ((c.piles.length : Int) - 1)
  rw [e]
  generalize decide (0 ≤ n ∧ n ≤ (c.piles.length : Int) - 1) = b at *
  clear hI e hc
  unfold af84
  simp only [zipI, clampCs] at *
  (repeat (first | (with_reducible apply zai; (focus ((conv => lhs; simp [Nat.testBit_eq_decide_div_mod_eq, *]) <;> exact rfl)); simp only [addFl]) | ((with_reducible first | refine zaj ?_ | refine zal ?_ | refine zag ?_ | refine zae ?_ | refine zac ?_ | refine zak ?_ | refine zaf ?_ | refine zam ?_ | (apply zad; (focus (simp [zaa, *]; done))) | (with_reducible apply zab; (focus (simp [zaa, *]; done)))); try simp only [Then, Ops]) | simp only [Nat.reduceEqDiff, reduceIte, OutB, Then]))
  exact zan (v := .bool b) (.inl rfl) rfl (by simp) (by simp only [resL, resOf, zah]; simp [resV, *]) ⟨rfl, rfl⟩
def RpileC (call : CallF) (c : Clm.Cl) : Prop := ∀ (H : List AB) (n : Int), call (.fn (.func 84) [] []) [.agg (clampCs c), .int .i64 n] H = some (.ret (.bool (isP c n)), H, [])
theorem zpu (C : Cfg) (call : CallF) (c : Clm.Cl) (hP : RpileC call c) (hS : RspanC call) (H : List AB) (v : Clm.Evt) : Does (ev C call H.length none af67.body { tm := tmA af67.ntmps (zipI 0 [.agg (clampCs c), evtE v] []), df := [], hp := H, tc := [] })
    (Ends C H.length af67.res fun w _hp tc => w = .bool (evtOk c v) ∧ tc = []) := by
  have hp := fun H => hP H v.clamp
  have h3 := fun H => hS H v.sods 0 5000 3 (.inl rfl) (by decide)
  have h5 := fun H => hS H v.sods 0 5000 5000 (.inl rfl) (by decide)
  have hev : evtOk c v = (isP c v.clamp && decide (v.kind = 0 ∨ v.kind = 1) && Clm.isSpan v.sods 0 5000 (if v.kind = 0 then 3 else 5000)) := rfl
  rw [hev]
  clear hP hS hev
  unfold af67
  simp only [zipI, clampCs, evtE] at *
  cases hb : isP c v.clamp with
  | false =>
    rw [hb] at hp
    (repeat (first | (with_reducible apply zai; (focus ((conv => lhs; simp [Nat.testBit_eq_decide_div_mod_eq, *]) <;> exact rfl)); simp only [addFl]) | ((with_reducible first | refine zaj ?_ | refine zal ?_ | refine zag ?_ | refine zae ?_ | refine zac ?_ | refine zak ?_ | refine zaf ?_ | refine zam ?_ | (apply zad; (focus (simp [zaa, *]; done))) | (with_reducible apply zab; (focus (simp [zaa, *]; done)))); try simp only [Then, Ops]) | simp only [Nat.reduceEqDiff, reduceIte, OutB, Then]))
    exact zan (v := .bool false) (.inl rfl) rfl (by simp) (by simp only [resL, resOf, zah]; simp [resV, *]) ⟨by simp, rfl⟩
  | true =>
    rw [hb] at hp
    by_cases k0 : v.kind = 0
    · rw [if_pos k0]
      generalize Clm.isSpan v.sods 0 5000 3 = b3 at *
      (repeat (first | (with_reducible apply zai; (focus ((conv => lhs; simp [Nat.testBit_eq_decide_div_mod_eq, *]) <;> exact rfl)); simp only [addFl]) | ((with_reducible first | refine zaj ?_ | refine zal ?_ | refine zag ?_ | refine zae ?_ | refine zac ?_ | refine zak ?_ | refine zaf ?_ | refine zam ?_ | (apply zad; (focus (simp [zaa, *]; done))) | (with_reducible apply zab; (focus (simp [zaa, *]; done)))); try simp only [Then, Ops, OutB]) | simp only [Nat.reduceEqDiff, reduceIte, OutB, Then]))
      exact zan (v := .bool b3) (.inl rfl) rfl (by simp) (by simp only [resL, resOf, zah]; simp [resV, *]) ⟨by simp [k0], rfl⟩
    · have k0' := beq_false_of_ne k0
      rw [if_neg k0]
      generalize Clm.isSpan v.sods 0 5000 5000 = b5 at *
      by_cases k1 : v.kind = 1
      · (repeat (first | (with_reducible apply zai; (focus ((conv => lhs; simp [Nat.testBit_eq_decide_div_mod_eq, *]) <;> exact rfl)); simp only [addFl]) | ((with_reducible first | refine zaj ?_ | refine zal ?_ | refine zag ?_ | refine zae ?_ | refine zac ?_ | refine zak ?_ | refine zaf ?_ | refine zam ?_ | (apply zad; (focus (simp [zaa, *]; done))) | (with_reducible apply zab; (focus (simp [zaa, *]; done)))); try simp only [Then, Ops, OutB]) | simp only [Nat.reduceEqDiff, reduceIte, OutB, Then]))
        exact zan (v := .bool b5) (.inl rfl) rfl (by simp) (by simp only [resL, resOf, zah]; simp [resV, *]) ⟨by simp [k1], rfl⟩
      · have k1' := beq_false_of_ne k1
        (repeat (first | (with_reducible apply zai; (focus ((conv => lhs; simp [Nat.testBit_eq_decide_div_mod_eq, *]) <;> exact rfl)); simp only [addFl]) | ((with_reducible first | refine zaj ?_ | refine zal ?_ | refine zag ?_ | refine zae ?_ | refine zac ?_ | refine zak ?_ | refine zaf ?_ | refine zam ?_ | (apply zad; (focus (simp [zaa, *]; done))) | (with_reducible apply zab; (focus (simp [zaa, *]; done)))); try simp only [Then, Ops, OutB]) | simp only [Nat.reduceEqDiff, reduceIte, OutB, Then]))
        exact zan (v := .bool false) (.inl rfl) rfl (by simp) (by simp only [resL, resOf, zah]; simp [resV, *]) ⟨by simp [k0, k1], rfl⟩
def ReventC (call : CallF) (c : Clm.Cl) : Prop := ∀ (H : List AB) (v : Clm.Evt), call (.fn (.func 67) [] []) [.agg (clampCs c), evtE v] H = some (.ret (.bool (evtOk c v)), H, [])
theorem zpw (C : Cfg) (hC : C.calm = true) (call : CallF) (c : Clm.Cl) (hbig : c.piles.length ≤ 1000 ∧ c.events.length ≤ 1000) (hI : RinC call) (hS : RspanC call) (hE : ReventC call c) (H : List AB) : Does (ev C call H.length none af22.body { tm := tmA af22.ntmps (zipI 0 [.agg (clampCs c)] []), df := [], hp := H, tc := [] })
    (Ends C H.length af22.res fun w _hp tc => w = .bool (Clm.valid c) ∧ tc = []) := by
  have hw1 := fun H => hI H (c.piles.length : Int) 1 4
  have hs1 := fun H => hS H c.pack 1 5 2 (.inr rfl) (by decide)
  have e1 : decide ((1 : Int) ≤ c.piles.length ∧ (c.piles.length : Int) ≤ 4) = decide (1 ≤ c.piles.length ∧ c.piles.length ≤ 4) := by congr 1; simp; omega
  rw [e1] at hw1
  have hhead : headOk c = (decide (1 ≤ c.piles.length ∧ c.piles.length ≤ 4) && Clm.isSpan c.pack 1 5 2 && decide (c.events.length ≤ 6)) := rfl
  have hv := znw c
  rw [hhead] at hv
  have HH := hideP (And.intro hS hE)
  rw [hv]
  clear e1 hhead hI hE hS hv
  unfold af22
  simp only [zipI, clampCs] at *
  cases h1 : decide (1 ≤ c.piles.length ∧ c.piles.length ≤ 4) with
  | false =>
    rw [h1] at hw1
    clear h1
    (repeat (first | (with_reducible apply zai; (focus ((conv => lhs; simp [Nat.testBit_eq_decide_div_mod_eq, *]) <;> exact rfl)); simp only [addFl]) | ((with_reducible first | refine zaj ?_ | refine zal ?_ | refine zag ?_ | refine zae ?_ | refine zac ?_ | refine zak ?_ | refine zaf ?_ | refine zam ?_ | (apply zad; (focus (simp [zaa, *]; done))) | (with_reducible apply zab; (focus (simp [zaa, *]; done)))); try simp only [Then, Ops]) | simp only [Nat.reduceEqDiff, reduceIte, OutB, Then]))
    exact zan (v := .bool false) (.inl rfl) rfl (by simp) (by simp only [resL, resOf, zah]; simp [resV, *]) ⟨by simp, rfl⟩
  | true =>
    rw [h1] at hw1
    clear h1
    cases h2 : Clm.isSpan c.pack 1 5 2 with
    | false =>
      rw [h2] at hs1
      clear h2
      (repeat (first | (with_reducible apply zai; (focus ((conv => lhs; simp [Nat.testBit_eq_decide_div_mod_eq, *]) <;> exact rfl)); simp only [addFl]) | ((with_reducible first | refine zaj ?_ | refine zal ?_ | refine zag ?_ | refine zae ?_ | refine zac ?_ | refine zak ?_ | refine zaf ?_ | refine zam ?_ | (apply zad; (focus (simp [zaa, *]; done))) | (with_reducible apply zab; (focus (simp [zaa, *]; done)))); try simp only [Then, Ops]) | simp only [Nat.reduceEqDiff, reduceIte, OutB, Then]))
      exact zan (v := .bool false) (.inl rfl) rfl (by simp) (by simp only [resL, resOf, zah]; simp [resV, *]) ⟨by simp, rfl⟩
    | true =>
      rw [h2] at hs1
      clear h2
      by_cases h3 : c.events.length ≤ 6
      · have h3' : ¬ (6 : Int) < c.events.length := by omega
        rw [decide_eq_true h3]
        simp only [Bool.true_and]
        (repeat (first | (with_reducible apply zai; (focus ((conv => lhs; simp [Nat.testBit_eq_decide_div_mod_eq, *]) <;> exact rfl)); simp only [addFl]) | ((with_reducible first | refine zaj ?_ | refine zal ?_ | refine zag ?_ | refine zae ?_ | refine zac ?_ | refine zak ?_ | refine zaf ?_ | refine zam ?_ | (apply zad; (focus (simp [zaa, *]; done))) | (with_reducible apply zab; (focus (simp [zaa, *]; done)))); try simp only [Then, Ops]) | simp only [Nat.reduceEqDiff, reduceIte, OutB, Then]))
        clear hw1 hs1
        have hp1 := hbig.1
        with_reducible refine zbe hC c.piles.length (by unfold fuelL; omega) (fun i st => ∃ J, (∀ j p, j < i → c.piles[j]? = some p → pileOk p = true) ∧ st = { tm := tmA 66 [(3, .int .i64 i), (1, .ptr H.length 0)], df := [], hp := H ++ .cells [.vs 6 (c.piles.map pileE), .int .i64 c.pack.lo, .int .i64 c.pack.hi, .vs 4 (c.events.map evtE)] :: J, tc := [] }) ?_ ?_ ?_
        · refine ⟨[], by simp, ?_⟩
          (refine st_is ?_ ?_ ?_ ?_; (focus (simp [zao, zar])); (focus rfl); (focus (first | rfl | (simp; done) | (simp [*]; done) | (simp; rfl) | (simp [*]; omega) | (simp; omega))); (focus (first | rfl | simp)))
        · rintro i st hi ⟨J, hok, rfl⟩
          have hgp : c.piles[i]? = some c.piles[i] := List.getElem?_eq_getElem hi
          generalize c.piles[i] = p at hgp
          have hgp' := ge_of hgp
          have hwi : IntKind.i64.wrap (↑i + 1) = ↑i + 1 := zav (by omega) (by omega)
          have q1 := fun H => HH.out.1 H p.long 1 10 1 (.inr rfl) (by decide)
          have q2 := fun H => HH.out.1 H p.wide 1 10 1 (.inr rfl) (by decide)
          have q3 := fun H => HH.out.1 H p.high 1 10 1 (.inr rfl) (by decide)
          have hpo : pileOk p = (Clm.isSpan p.long 1 10 1 && Clm.isSpan p.wide 1 10 1 && Clm.isSpan p.high 1 10 1) := rfl
          have hnext : pileOk p = true → ∀ j q, j < i + 1 → c.piles[j]? = some q → pileOk q = true := by
            intro ho j q hj hq
            by_cases h : j = i
            · subst h; rw [hgp] at hq; cases hq; exact ho
            · exact hok j q (by omega) hq
          have hbad : pileOk p = false → c.piles.all pileOk = false := fun h => by
            rw [List.all_eq_false]
            exact ⟨p, List.mem_of_getElem? hgp, by rw [h]; decide⟩
          have HN := hideP (And.intro hnext hbad)
          clear hnext hbad hok hgp HH
          cases b1 : Clm.isSpan p.long 1 10 1 with
          | false =>
            rw [b1] at q1 hpo
            have HP := hideP (HN.out.2 (by rw [hpo]; rfl))
            clear hpo b1
            (repeat (first | (with_reducible apply zai; (focus ((conv => lhs; simp [pileE, Nat.testBit_eq_decide_div_mod_eq, *]) <;> exact rfl)); simp only [addFl]) | ((with_reducible first | refine zaj ?_ | refine zal ?_ | refine zag ?_ | refine zae ?_ | refine zac ?_ | refine zak ?_ | refine zaf ?_ | refine zam ?_ | (apply zad; (focus (simp [zaa, *]; done))) | (with_reducible apply zab; (focus (simp [zaa, *]; done)))); try simp only [Then, Ops, OutB]) | simp only [Nat.reduceEqDiff, reduceIte, OutB, Then]))
            exact zan (v := .bool false) (.inl rfl) rfl (by simp) (by simp only [resL, resOf, zah]; simp [resV, *]) ⟨by rw [HP.out]; rfl, by simp⟩
          | true =>
            rw [b1] at q1 hpo
            cases b2 : Clm.isSpan p.wide 1 10 1 with
            | false =>
              rw [b2] at q2 hpo
              have HP := hideP (HN.out.2 (by rw [hpo]; rfl))
              clear hpo b1 b2
              (repeat (first | (with_reducible apply zai; (focus ((conv => lhs; simp [pileE, Nat.testBit_eq_decide_div_mod_eq, *]) <;> exact rfl)); simp only [addFl]) | ((with_reducible first | refine zaj ?_ | refine zal ?_ | refine zag ?_ | refine zae ?_ | refine zac ?_ | refine zak ?_ | refine zaf ?_ | refine zam ?_ | (apply zad; (focus (simp [zaa, *]; done))) | (with_reducible apply zab; (focus (simp [zaa, *]; done)))); try simp only [Then, Ops, OutB]) | simp only [Nat.reduceEqDiff, reduceIte, OutB, Then]))
              exact zan (v := .bool false) (.inl rfl) rfl (by simp) (by simp only [resL, resOf, zah]; simp [resV, *]) ⟨by rw [HP.out]; rfl, by simp⟩
            | true =>
              rw [b2] at q2 hpo
              cases b3 : Clm.isSpan p.high 1 10 1 with
              | false =>
                rw [b3] at q3 hpo
                have HP := hideP (HN.out.2 (by rw [hpo]; rfl))
                clear hpo b1 b2 b3
                (repeat (first | (with_reducible apply zai; (focus ((conv => lhs; simp [pileE, Nat.testBit_eq_decide_div_mod_eq, *]) <;> exact rfl)); simp only [addFl]) | ((with_reducible first | refine zaj ?_ | refine zal ?_ | refine zag ?_ | refine zae ?_ | refine zac ?_ | refine zak ?_ | refine zaf ?_ | refine zam ?_ | (apply zad; (focus (simp [zaa, *]; done))) | (with_reducible apply zab; (focus (simp [zaa, *]; done)))); try simp only [Then, Ops, OutB]) | simp only [Nat.reduceEqDiff, reduceIte, OutB, Then]))
                exact zan (v := .bool false) (.inl rfl) rfl (by simp) (by simp only [resL, resOf, zah]; simp [resV, *]) ⟨by rw [HP.out]; rfl, by simp⟩
              | true =>
                rw [b3] at q3 hpo
                have HP := hideP (HN.out.1 (by rw [hpo]; rfl))
                clear hpo b1 b2 b3
                (repeat (first | (with_reducible apply zai; (focus ((conv => lhs; simp [pileE, Nat.testBit_eq_decide_div_mod_eq, *]) <;> exact rfl)); simp only [addFl]) | ((with_reducible first | refine zaj ?_ | refine zal ?_ | refine zag ?_ | refine zae ?_ | refine zac ?_ | refine zak ?_ | refine zaf ?_ | refine zam ?_ | (apply zad; (focus (simp [zaa, *]; done))) | (with_reducible apply zab; (focus (simp [zaa, *]; done)))); try simp only [Then, Ops, OutB]) | simp only [Nat.reduceEqDiff, reduceIte, OutB, Then]))
                with_reducible refine ⟨?_, HP.out, ?_⟩
                rotate_left
                (refine st_is ?_ ?_ ?_ ?_; (focus (simp [zao, zar])); (focus rfl); (focus (first | rfl | (simp; done) | (simp [*]; done) | (simp; rfl) | (simp [*]; omega) | (simp; omega))); (focus (first | rfl | simp)))
        · rintro st ⟨J, hok, rfl⟩
          have hall : c.piles.all pileOk = true := by
            rw [List.all_eq_true]
            intro p hp
            obtain ⟨j, hj⟩ := List.mem_iff_getElem?.1 hp
            exact hok j p (List.getElem?_eq_some_iff.1 hj).1 hj
          rw [hall]
          simp only [Bool.true_and]
          clear hok hall
          (repeat (first | (with_reducible apply zai; (focus ((conv => lhs; simp [Nat.testBit_eq_decide_div_mod_eq, *]) <;> exact rfl)); simp only [addFl]) | ((with_reducible first | refine zaj ?_ | refine zal ?_ | refine zag ?_ | refine zae ?_ | refine zac ?_ | refine zak ?_ | refine zaf ?_ | refine zam ?_ | (apply zad; (focus (simp [zaa, *]; done))) | (with_reducible apply zab; (focus (simp [zaa, *]; done)))); try simp only [Then, Ops, OutB, reduceIte]) | simp only [Nat.reduceEqDiff, reduceIte, OutB, Then]))
          have hp2 := hbig.2
          with_reducible refine zbe hC c.events.length (by unfold fuelL; omega) (fun i st => (∀ j v, j < i → c.events[j]? = some v → evtOk c v = true) ∧ st = { tm := tmA 66 [(5, .int .i64 i), (1, .ptr H.length 0)], df := [], hp := H ++ .cells [.vs 6 (c.piles.map pileE), .int .i64 c.pack.lo, .int .i64 c.pack.hi, .vs 4 (c.events.map evtE)] :: J, tc := [] }) ?_ ?_ ?_
          · refine ⟨by simp, ?_⟩
            (refine st_is ?_ ?_ ?_ ?_; (focus (simp [zao, zar])); (focus rfl); (focus (first | rfl | (simp; done) | (simp [*]; done) | (simp; rfl) | (simp [*]; omega) | (simp; omega))); (focus (first | rfl | simp)))
          · rintro i st hi ⟨hok, rfl⟩
            have hgv : c.events[i]? = some c.events[i] := List.getElem?_eq_getElem hi
            generalize c.events[i] = v at hgv
            have hgv' := ge_of hgv
            have hwi : IntKind.i64.wrap (↑i + 1) = ↑i + 1 := zav (by omega) (by omega)
            have q1 := fun H => HH.out.2 H v
            simp only [evtE, clampCs] at q1
            have hnext : evtOk c v = true → ∀ j q, j < i + 1 → c.events[j]? = some q → evtOk c q = true := by
              intro ho j q hj hq
              by_cases h : j = i
              · subst h; rw [hgv] at hq; cases hq; exact ho
              · exact hok j q (by omega) hq
            have hbad : evtOk c v = false → c.events.all (evtOk c) = false := fun h => by
              rw [List.all_eq_false]
              exact ⟨v, List.mem_of_getElem? hgv, by rw [h]; decide⟩
            have HN := hideP (And.intro hnext hbad)
            clear hnext hbad hok hgv HH
            cases b1 : evtOk c v with
            | false =>
              rw [b1] at q1
              have HP := hideP (HN.out.2 b1)
              clear b1
              (repeat (first | (with_reducible apply zai; (focus ((conv => lhs; simp [evtE, Nat.testBit_eq_decide_div_mod_eq, *]) <;> exact rfl)); simp only [addFl]) | ((with_reducible first | refine zaj ?_ | refine zal ?_ | refine zag ?_ | refine zae ?_ | refine zac ?_ | refine zak ?_ | refine zaf ?_ | refine zam ?_ | (apply zad; (focus (simp [zaa, *]; done))) | (with_reducible apply zab; (focus (simp [zaa, *]; done)))); try simp only [Then, Ops, OutB]) | simp only [Nat.reduceEqDiff, reduceIte, OutB, Then]))
              exact zan (v := .bool false) (.inl rfl) rfl (by simp) (by simp only [resL, resOf, zah]; simp [resV, *]) ⟨by rw [HP.out], by simp⟩
            | true =>
              rw [b1] at q1
              have HP := hideP (HN.out.1 b1)
              clear b1
              (repeat (first | (with_reducible apply zai; (focus ((conv => lhs; simp [evtE, Nat.testBit_eq_decide_div_mod_eq, *]) <;> exact rfl)); simp only [addFl]) | ((with_reducible first | refine zaj ?_ | refine zal ?_ | refine zag ?_ | refine zae ?_ | refine zac ?_ | refine zak ?_ | refine zaf ?_ | refine zam ?_ | (apply zad; (focus (simp [zaa, *]; done))) | (with_reducible apply zab; (focus (simp [zaa, *]; done)))); try simp only [Then, Ops, OutB]) | simp only [Nat.reduceEqDiff, reduceIte, OutB, Then]))
              with_reducible refine ⟨HP.out, ?_⟩
              (refine st_is ?_ ?_ ?_ ?_; (focus (simp [zao, zar])); (focus rfl); (focus (first | rfl | (simp; done) | (simp [*]; done) | (simp; rfl) | (simp [*]; omega) | (simp; omega))); (focus (first | rfl | simp)))
          · rintro st ⟨hok, rfl⟩
            have hall : c.events.all (evtOk c) = true := by
              rw [List.all_eq_true]
              intro p hp
              obtain ⟨j, hj⟩ := List.mem_iff_getElem?.1 hp
              exact hok j p (List.getElem?_eq_some_iff.1 hj).1 hj
            rw [hall]
            clear hok hall
            (repeat (first | (with_reducible apply zai; (focus ((conv => lhs; simp [Nat.testBit_eq_decide_div_mod_eq, *]) <;> exact rfl)); simp only [addFl]) | ((with_reducible first | refine zaj ?_ | refine zal ?_ | refine zag ?_ | refine zae ?_ | refine zac ?_ | refine zak ?_ | refine zaf ?_ | refine zam ?_ | (apply zad; (focus (simp [zaa, *]; done))) | (with_reducible apply zab; (focus (simp [zaa, *]; done)))); try simp only [Then, Ops, OutB, reduceIte]) | simp only [Nat.reduceEqDiff, reduceIte, OutB, Then]))
            exact zan (v := .bool true) (.inl rfl) rfl (by simp) (by simp only [resL, resOf, zah]; simp [resV, *]) ⟨rfl, by simp⟩
      · have h3' : (6 : Int) < c.events.length := by omega
        rw [decide_eq_false h3]
        (repeat (first | (with_reducible apply zai; (focus ((conv => lhs; simp [Nat.testBit_eq_decide_div_mod_eq, *]) <;> exact rfl)); simp only [addFl]) | ((with_reducible first | refine zaj ?_ | refine zal ?_ | refine zag ?_ | refine zae ?_ | refine zac ?_ | refine zak ?_ | refine zaf ?_ | refine zam ?_ | (apply zad; (focus (simp [zaa, *]; done))) | (with_reducible apply zab; (focus (simp [zaa, *]; done)))); try simp only [Then, Ops]) | simp only [Nat.reduceEqDiff, reduceIte, OutB, Then]))
        exact zan (v := .bool false) (.inl rfl) rfl (by simp) (by simp only [resL, resOf, zah]; simp [resV, *]) ⟨by simp, rfl⟩
theorem zwf (C : Cfg) (call : CallF) (c : Clm.Cl) (H : List AB) : Does (ev C call H.length none af21.body { tm := tmA af21.ntmps (zipI 0 [.agg (clampCs c)] []), df := [], hp := H, tc := [] })
    (Ends C H.length af21.res fun w _hp tc => w = .bool (decide (max c.piles.length c.events.length > 40)) ∧ tc = []) := by
  have e : decide ((40 : Int) < max (c.piles.length : Int) (c.events.length : Int)) = decide (max c.piles.length c.events.length > 40) := by congr 1; simp; omega
  rw [← e]
  unfold af21
  simp only [zipI, clampCs]
  (repeat (first | (with_reducible apply zai; (focus ((conv => lhs; simp [Nat.testBit_eq_decide_div_mod_eq, *]) <;> exact rfl)); simp only [addFl]) | ((with_reducible first | refine zaj ?_ | refine zal ?_ | refine zag ?_ | refine zae ?_ | refine zac ?_ | refine zak ?_ | refine zaf ?_ | refine zam ?_ | (apply zad; (focus (simp [zaa, *]; done))) | (with_reducible apply zab; (focus (simp [zaa, *]; done)))); try simp only [Then, Ops]) | simp only [Nat.reduceEqDiff, reduceIte, OutB, Then]))
  exact zan (v := .bool (decide ((40 : Int) < max (c.piles.length : Int) (c.events.length : Int)))) (.inl rfl) rfl (by simp) (by simp only [resL, resOf, zah]; simp [resV, *]) ⟨rfl, rfl⟩
theorem ztn (C : Cfg) (call : CallF) (H : List AB) (a b : Int) : Does (ev C call H.length none af20.body { tm := tmA af20.ntmps (zipI 0 [.int .i64 a, .int .i64 b] []), df := [], hp := H, tc := [] })
    (Ends C H.length af20.res fun w _hp tc => w = spA ⟨a, b⟩ ∧ tc = []) := by
  unfold af20
  simp only [zipI]
  (repeat (first | (with_reducible apply zai; (focus ((conv => lhs; simp [Nat.testBit_eq_decide_div_mod_eq, *]) <;> exact rfl)); simp only [addFl]) | ((with_reducible first | refine zaj ?_ | refine zal ?_ | refine zag ?_ | refine zae ?_ | refine zac ?_ | refine zak ?_ | refine zaf ?_ | refine zam ?_ | (apply zad; (focus (simp [zaa, *]; done))) | (with_reducible apply zab; (focus (simp [zaa, *]; done)))); try simp only [Then, Ops]) | simp only [Nat.reduceEqDiff, reduceIte, OutB, Then]))
  exact zan (v := spA ⟨a, b⟩) (.inl rfl) rfl (by simp) (by simp only [resL, resOf, zah]; simp [pickC, resV, spA, *]) ⟨rfl, by simp⟩
end K
end Ev
end Go.Proofs.Ytimgnlellflciaa

/- What the laws of chapter 09 are told. -/
namespace Go.Proofs.Ytimgnlellflciaa
open Go
namespace Ev
namespace K
set_option maxRecDepth 100000
set_option maxHeartbeats 4000000
def hasG (c : Clm.Cl) (n : Int) : Clm.Sp := Clm.ofAll c n.toNat fun _ => Clm.leftW c
structure LApi (call : CallF) : Prop where
  built : ∀ {H v c}, clOf H v = some c → ∀ n, call (.fn (.func 10) [] []) [v, .int .i64 n] H = some (.ret (spanR c (isP c n) (Clm.ofAll c n.toNat builtG)), H, [])
  has : ∀ {H v c}, clOf H v = some c → ∀ n, call (.fn (.func 12) [] []) [v, .int .i64 n] H = some (.ret (spanR c (isP c n) (hasG c n)), H, [])
  sold : ∀ {H v c}, clOf H v = some c → ∀ n, call (.fn (.func 13) [] []) [v, .int .i64 n] H = some (.ret (spanR c (isP c n) (Clm.ofAll c n.toNat (soldG c))), H, [])
  all : ∀ {H v c}, clOf H v = some c → call (.fn (.func 25) [] []) [v] H = some (.ret (spanR c true (Clm.together c (fullP c))), H, [])
  enough : ∀ {H v c}, clOf H v = some c → ∀ n s, call (.fn (.func 14) [] []) [v, .int .i64 n, .int .i64 s] H = some (.ret (numR c (isP c n && isS s) (enoughN (Clm.together c (2 ^ n.toNat)) s)), H, [])
  empty : ∀ {H v c}, clOf H v = some c → call (.fn (.func 26) [] []) [v] H = some (.ret (emptyR c), H, [])
  share : ∀ {H v c}, clOf H v = some c → ∀ s, call (.fn (.func 15) [] []) [v, .int .i64 s] H = some (.ret (shareR c s), H, [])
  clash : ∀ {H v c}, clOf H v = some c → call (.fn (.func 16) [] []) [v] H = some (.ret (clashR c), H, [])
  valid : ∀ {H v c}, clOf H v = some c → call (.fn (.func 22) [] []) [v] H = some (.ret (.bool (Clm.valid c)), H, [])
  alive : ∀ {H}, call (.fn (.func 19) [] []) [] H = some (.ret (.bool true), H, [])
  long : ∀ {H} (c : Clm.Cl), call (.fn (.func 21) [] []) [.agg (clampCs c)] H = some (.ret (.bool (decide (max c.piles.length c.events.length > 40))), H, [])
  span : ∀ {H} (a b : Int), call (.fn (.func 20) [] []) [.int .i64 a, .int .i64 b] H = some (.ret (.agg [.int .i64 a, .int .i64 b]), H, [])
def Yes (fn : AFunc) (C : Cfg) (e : AExit) (st : St) : Prop := Ends C 0 fn.res (fun v _ _ => v = .bool true) e st
end K
end Ev
end Go.Proofs.Ytimgnlellflciaa

/- The laws of chapter 09: their configuration. -/
namespace Go.Proofs.Ytimgnlellflciaa
open Go Go.Proofs Go.RowKit
namespace Ev
namespace K
set_option maxRecDepth 100000
set_option maxHeartbeats 4000000
structure KnowsR (C : Cfg) : Prop where
  calm : C.calm = true
  rin : Has C 65 af65
  rspan : Has C 66 af66
  rpile : Has C 84 af84
  revent : Has C 67 af67
  rclamp : Has C 22 af22
theorem knowsR : KnowsR cfgK where
  calm := rfl
  rin := has_of rfl rfl (by kernel_rfl) rfl
  rspan := has_of rfl rfl (by kernel_rfl) rfl
  rpile := has_of rfl rfl (by kernel_rfl) rfl
  revent := has_of rfl rfl (by kernel_rfl) rfl
  rclamp := has_of rfl rfl (by kernel_rfl) rfl
theorem validL (c : Clm.Cl) (hp : c.piles.length ≤ 40) (he : c.events.length ≤ 41) : Ev.call cfgK 4 (.fn (.func 22) [] []) [.agg (clampCs c)] [] = some (.ret (.bool (Clm.valid c)), [], []) := by
  have k := knowsR
  have h1 : ∀ n, RinC (Ev.call cfgK (n + 1)) := fun n H a b c => zbc k.calm k.rin (le' rfl) rfl (zxk cfgK _ H a b c)
  have h2 : ∀ n, RspanC (Ev.call cfgK (n + 1)) := fun n H s a b w q1 q2 => zbc k.calm k.rspan (le' rfl) rfl (zsi cfgK _ H s a b w q1 q2)
  have h3 : ∀ n, RpileC (Ev.call cfgK (n + 2)) c := fun n H m => zbc k.calm k.rpile (le' rfl) rfl (zsj cfgK _ (h1 n) c (by omega) H m)
  have h4 : ∀ n, ReventC (Ev.call cfgK (n + 3)) c := fun n H v => zbc k.calm k.revent (le' rfl) rfl (zpu cfgK _ c (h3 n) (h2 (n + 1)) H v)
  exact zbc k.calm k.rclamp (le' rfl) rfl (zpw cfgK k.calm _ c ⟨by omega, by omega⟩ (h1 2) (h2 2) (h4 0) [])
def sValid (c : Clm.Cl) : List Int → Option AV | [] => some (.bool (Clm.valid c)) | _ => none
def gAlive (args : List AV) (_ : List AB) : Option AV := match args with | [] => some (.bool true) | _ => none
noncomputable def exthL (f : Nat) : Option (List AV → List AB → Option AV) := if f = 22 then some (gCl sValid) else if f = 19 then some gAlive else exthL0 f
noncomputable def cfgL (t : FT) : Cfg where
  fns := FT.find t
  glob := fun _ => none
  dfk := fun _ => none
  ext := fun _ => none
  exth := exthL
  calm := true
  whole := fun _ => true
def IsTree (t : FT) : Prop := FT.All (fun k af => ∃ F, Try.prog.funcs[k]? = some F ∧ (F.name == "runtime.NumGoroutine") = false ∧ compFn Try.prog F = some af.strip) t
theorem tblL {t : FT} (ht : IsTree t) : TblOk Try.prog (cfgL t) := by
  refine ⟨fun f fn h => FT.find_all ht h, fun _ _ h => (by cases h), fun f g h => ?_, fun _ _ _ h => (by cases h)⟩
  have h' : exthL f = some g := h
  unfold exthL at h'
  split at h'
  · rename_i hf; subst hf; cases h'
    obtain ⟨F, f1, f2, f3⟩ := is22
    obtain ⟨k1, k2⟩ := gcl_ok (spec := sValid) ⟨F, f1, f2, _, f3⟩ fun c ns v b1 b2 hs => by
      unfold sValid at hs
      split at hs <;> cases hs
      exact ⟨trivial, 4, _, _, validL c b1 b2⟩
    exact ⟨k1, fun args H v rargs W L μ a b c _ => k2 args H v rargs W L μ a b c⟩
  split at h'
  · rename_i hf; subst hf; cases h'
    obtain ⟨F, f1, f2, f3⟩ := is19
    refine ⟨known _ ⟨F, f1, f2, _, f3⟩, fun args H v rargs W L μ hv hr hs hG => ?_⟩
    unfold gAlive at hv
    split at hv
    · cases hv
      have : rargs = #[] := Array.ext' (List.eq_nil_of_length_eq_zero (by have := hr.1; simpa using this.symm))
      subst this
      exact (zrl W).mono fun e W' ⟨h1, h2⟩ => ⟨⟨_, h1, .bool⟩, h2⟩
    · cases hv
  · obtain ⟨k1, k2⟩ := zpa f g h'
    exact ⟨k1, fun args H v rargs W L μ a b c d => k2 args H v rargs W L μ a b c (zeh _ _ _)⟩
theorem zcc {t : FT} {f : Nat} {spec : Clm.Cl → List Int → Option AV} (h : exthL f = some (gCl spec)) (n : Nat) {H : List AB} {v : AV} {c : Clm.Cl} (hc : clOf H v = some c) (ns : List Int) {w : AV} (hs : spec c ns = some w) : Ev.call (cfgL t) (n + 1) (.fn (.func f) [] []) (v :: ns.map (AV.int .i64)) H = some (.ret w, H, []) := by
  show enter (cfgL t) (Ev.call (cfgL t) n) f ([] ++ (v :: ns.map (AV.int .i64)) ++ []) H = _
  unfold enter
  have h1 : (cfgL t).ext f = none := rfl
  have h2 : (cfgL t).exth f = some (gCl spec) := h
  rw [h1, h2]
  have hi : ∀ ns : List Int, intsOf (ns.map (AV.int .i64)) = some ns := by
    intro ns
    induction ns with
    | nil => rfl
    | cons a l ih => simp [intsOf, ih]
  have h3 : gCl spec ([] ++ (v :: ns.map (AV.int .i64)) ++ []) H = some w := by
    simp [gCl, hc, hi, hs]
  simp only [h3, Option.map_some]
theorem lapi {t : FT} (hl : Has (cfgL t) 21 af21) (hs : Has (cfgL t) 20 af20) (n : Nat) : LApi (Ev.call (cfgL t) (n + 1)) where
  built hc m := zcc (spec := sBuilt) rfl n hc [m] rfl
  has hc m := zcc (spec := sHas) rfl n hc [m] rfl
  sold hc m := zcc (spec := sSold) rfl n hc [m] rfl
  all hc := zcc (spec := sAll) rfl n hc [] rfl
  enough hc m s := zcc (spec := sEnough) rfl n hc [m, s] rfl
  empty hc := zcc (spec := sEmpty) rfl n hc [] rfl
  share hc s := zcc (spec := sShare) rfl n hc [s] rfl
  clash hc := zcc (spec := sClash) rfl n hc [] rfl
  valid hc := zcc (spec := sValid) rfl n hc [] rfl
  alive {H} := by
    show enter (cfgL t) (Ev.call (cfgL t) n) 19 ([] ++ [] ++ []) H = some (.ret (.bool true), H, [])
    unfold enter
    have h1 : (cfgL t).ext 19 = none := rfl
    have h2 : (cfgL t).exth 19 = some gAlive := rfl
    rw [h1, h2]; rfl
  long {H} c := zbc rfl hl (le' rfl) rfl (zwf (cfgL t) _ c H)
  span {H} a b := zbc rfl hs (le' rfl) rfl (ztn (cfgL t) _ H a b)
end K
end Ev
end Go.Proofs.Ytimgnlellflciaa

/- An argument that is clamps: from its reading to the evaluator's value. -/
namespace Go.Proofs.Ytimgnlellflciaa
open Go Go.Proofs Go.RowKit Go.ChangeShapes Go.WideShapes Go.Deep
namespace Ev
namespace K
section
variable {H : Type} {enc : TypeId × Value → H} {w : World} {base : Nat} {spare : Nat → Bool} {held : Bool} {fuel : Nat} {cs : List Value}
theorem list2 {cs : List Value} (h : cs.length = 2) : ∃ a b, cs = [a, b] := by
  match cs, h with | [a, b], _ => exact ⟨a, b, rfl⟩
theorem list4 {cs : List Value} (h : cs.length = 4) : ∃ a b c d, cs = [a, b, c, d] := by
  match cs, h with | [a, b, c, d], _ => exact ⟨a, b, c, d, rfl⟩
theorem list6 {cs : List Value} (h : cs.length = 6) : ∃ a b c d e f, cs = [a, b, c, d, e, f] := by
  match cs, h with | [a, b, c, d, e, f], _ => exact ⟨a, b, c, d, e, f, rfl⟩
theorem zma : Try.prog.cellsOf 3 = 1 := by kernel_rfl
theorem zes : Try.prog.cellsOf 23 = 2 := by kernel_rfl
theorem zjg : Try.prog.cellsOf 58 = 6 := by kernel_rfl
theorem zig : Try.prog.cellsOf 54 = 4 := by kernel_rfl
theorem zni : Try.prog.cellsOf 30 = 4 := by kernel_rfl
theorem znh : Try.prog.cellsOf 27 = 1 := by kernel_rfl
theorem zmb : Try.prog.cellsOf 28 = 1 := by kernel_rfl
theorem trod_i (h : ∃ y, DataW.trod enc Try.prog w base spare held fuel 3 cs = some y) : ∃ n, cs = [.int .i64 n] := by
  obtain ⟨y, h⟩ := h
  obtain ⟨n, h1, _, h2⟩ := DataW.trod_int Try.underlying3 h
  exact ⟨n, h1⟩
theorem zdy (h : ∃ y, DataW.trod enc Try.prog w base spare held fuel 23 cs = some y) : ∃ a b, cs = [.int .i64 a, .int .i64 b] := by
  obtain ⟨y, h⟩ := h
  obtain ⟨xs, n, rfl, _, hl, hx, hf⟩ := DataW.trod_struct Try.underlying23 h
  rw [zes] at hl
  have hx : xs.length = 2 := hx
  obtain ⟨c0, c1, rfl⟩ := list2 hl
  clear hl
  obtain ⟨a, ha⟩ := trod_i ⟨_, (hf 0 _ rfl).trans (List.getElem?_eq_getElem (by omega))⟩
  obtain ⟨b, hb⟩ := trod_i ⟨_, (hf 1 _ rfl).trans (List.getElem?_eq_getElem (by omega))⟩
  simp [zma] at ha hb
  exact ⟨a, b, by rw [ha, hb]⟩
def pileR (p : Clm.Pl) : List Value := [.int .i64 p.long.lo, .int .i64 p.long.hi, .int .i64 p.wide.lo, .int .i64 p.wide.hi, .int .i64 p.high.lo, .int .i64 p.high.hi]
def evtR (e : Clm.Evt) : List Value := [.int .i64 e.kind, .int .i64 e.clamp, .int .i64 e.sods.lo, .int .i64 e.sods.hi]
theorem zrq (h : ∃ y, DataW.trod enc Try.prog w base spare held fuel 58 cs = some y) : ∃ p, cs = pileR p := by
  obtain ⟨y, h⟩ := h
  obtain ⟨xs, n, rfl, _, hl, hx, hf⟩ := DataW.trod_struct Try.underlying58 h
  rw [zjg] at hl
  have hx : xs.length = 3 := hx
  obtain ⟨c0, c1, c2, c3, c4, c5, rfl⟩ := list6 hl
  clear hl
  obtain ⟨a, b, hab⟩ := zdy ⟨_, (hf 0 _ rfl).trans (List.getElem?_eq_getElem (by omega))⟩
  obtain ⟨d, e, hde⟩ := zdy ⟨_, (hf 1 _ rfl).trans (List.getElem?_eq_getElem (by omega))⟩
  obtain ⟨f, g, hfg⟩ := zdy ⟨_, (hf 2 _ rfl).trans (List.getElem?_eq_getElem (by omega))⟩
  simp [zes] at hab hde hfg
  exact ⟨⟨⟨a, b⟩, ⟨d, e⟩, ⟨f, g⟩⟩, by rw [hab.1, hab.2, hde.1, hde.2, hfg.1, hfg.2]; rfl⟩
theorem trod_event (h : ∃ y, DataW.trod enc Try.prog w base spare held fuel 54 cs = some y) : ∃ p, cs = evtR p := by
  obtain ⟨y, h⟩ := h
  obtain ⟨xs, n, rfl, _, hl, hx, hf⟩ := DataW.trod_struct Try.underlying54 h
  rw [zig] at hl
  have hx : xs.length = 3 := hx
  obtain ⟨c0, c1, c2, c3, rfl⟩ := list4 hl
  clear hl
  obtain ⟨a, ha⟩ := trod_i ⟨_, (hf 0 _ rfl).trans (List.getElem?_eq_getElem (by omega))⟩
  obtain ⟨b, hb⟩ := trod_i ⟨_, (hf 1 _ rfl).trans (List.getElem?_eq_getElem (by omega))⟩
  obtain ⟨f, g, hfg⟩ := zdy ⟨_, (hf 2 _ rfl).trans (List.getElem?_eq_getElem (by omega))⟩
  simp [zma, zes] at ha hb hfg
  exact ⟨⟨a, b, ⟨f, g⟩⟩, by rw [ha, hb, hfg.1, hfg.2]; rfl⟩
theorem row_vr {α : Type} {t e : TypeId} {k : Nat} (d : α) (g : α → List Value) (G : α → AV) (hk : 0 < k) (hg : ∀ y, (g y).length = k) (hG : ∀ y, (G y).cells.length = k) (hv : ∀ (y : α) (j : Nat) (x : AV) (r : Value), (G y).cells[j]? = some x → (g y)[j]? = some r → VR w (fun _ => False) nomu x r)
    (ht : Try.prog.underlying t = some (.slice e)) (hc : Try.prog.cellsOf e = k)
    (he : ∀ (fuel : Nat) (cs : List Value), (∃ y, DataW.trod enc Try.prog w base spare held fuel e cs = some y) → ∃ y, cs = g y)
    (h : ∃ y, DataW.trod enc Try.prog w base spare held fuel t cs = some y) :
    ∃ (l : List α) (x : Value), cs = [x] ∧ VR w (fun _ => False) nomu (.vs k (l.map G)) x := by
  obtain ⟨y, h⟩ := h
  rcases open_slice ht h with ⟨rfl, _⟩ | ⟨a, len, cap, m, n, D, Pl, rfl, hb, hl, hm, hmm, hx, hi⟩
  · exact ⟨[], _, rfl, .vs0⟩
  · have hml : len ≤ m := by rw [hmm]; split <;> omega
    have : ∀ i, ∃ y : α, i < len → ∀ j, j < k → ∃ r, (g y)[j]? = some r ∧ w.cell? (a.add (i * k + j)) = some r := by
      intro i
      by_cases hlt : i < len
      · obtain ⟨cs', h1, h2⟩ := hi i (by omega)
        obtain ⟨y, rfl⟩ := he n cs' ⟨_, h2⟩
        rw [hc] at h1
        obtain ⟨_, _, h3⟩ := World.cells?_some h1
        refine ⟨y, fun _ j hj => ⟨(g y)[j]'(by rw [hg]; exact hj), List.getElem?_eq_getElem _, ?_⟩⟩
        rw [← Go.Deep.add_add, h3 j hj, List.getElem?_eq_getElem (by rw [hg]; exact hj)]
      · exact ⟨d, fun h => absurd h hlt⟩
    obtain ⟨f, hf⟩ := Classical.skolem.1 this
    refine ⟨(List.range len).map f, _, rfl, ?_⟩
    by_cases h0 : len = 0
    · subst h0; exact .vs0
    · obtain ⟨r0, _, h00⟩ := hf 0 (by omega) 0 hk
      have hs := World.cell?_spot h00
      obtain ⟨b, off, sp⟩ := a
      obtain rfl : sp = none := by simpa [Addr.add] using hs
      have hadd : ∀ u, Addr.add ⟨b, off, none⟩ u = ⟨b, off + u, none⟩ := fun u => by simp [Addr.add]
      have hlen : (((List.range len).map f).map G).length = len := by simp
      have hat : ∀ (i : Nat) (e : AV), (((List.range len).map f).map G)[i]? = some e → i < len ∧ e = G (f i) := by
        intro i e h
        have hi : i < len := by have := (List.getElem?_eq_some_iff.1 h).1; simpa using this
        simp [hi] at h
        exact ⟨hi, h.symm⟩
      have key : VR w (fun _ => False) nomu (.vs k (((List.range len).map f).map G)) (.slice (some ⟨b, off, none⟩) (((List.range len).map f).map G).length cap) := by
        refine .vs (fun i j => (g (f i)).getD j .nilFunc) (by rw [hlen]; exact hl) (fun i e h => ?_) (fun i e j x h hx => ⟨id, ?_⟩) (fun i e j x h hx => ?_)
        · obtain ⟨_, rfl⟩ := hat i e h; exact hG _
        · obtain ⟨hi, rfl⟩ := hat i e h
          have hj : j < k := by have := (List.getElem?_eq_some_iff.1 hx).1; rwa [hG] at this
          obtain ⟨r, h1, h2⟩ := hf i hi j hj
          rw [hadd, ← Nat.add_assoc] at h2
          rw [h2, List.getD_eq_getElem?_getD, h1]; rfl
        · obtain ⟨hi, rfl⟩ := hat i e h
          have hj : j < k := by have := (List.getElem?_eq_some_iff.1 hx).1; rwa [hG] at this
          obtain ⟨r, h1, h2⟩ := hf i hi j hj
          rw [List.getD_eq_getElem?_getD, h1]
          exact hv _ j x r hx h1
      rw [hlen] at key
      exact key
theorem znt {l : List AV} {m : List Value} (h : ∀ (j : Nat) (x : AV) (r : Value), l[j]? = some x → m[j]? = some r → ∃ n, x = .int .i64 n ∧ r = .int .i64 n) (j : Nat) (x : AV) (r : Value) (h1 : l[j]? = some x) (h2 : m[j]? = some r) : VR w (fun _ => False) nomu x r := by
  obtain ⟨n, rfl, rfl⟩ := h j x r h1 h2; exact .int
theorem zpn (h : ∃ y, DataW.trod enc Try.prog w base spare held fuel 27 cs = some y) : ∃ (l : List Clm.Pl) (x : Value), cs = [x] ∧ VR w (fun _ => False) nomu (.vs 6 (l.map pileE)) x :=
  row_vr (k := 6) default pileR pileE (by decide) (fun _ => rfl) (fun _ => rfl) (fun y => znt fun j x r h1 h2 => by
    match j, h1, h2 with
    | 0, h1, h2 => cases h1; cases h2; exact ⟨_, rfl, rfl⟩
    | 1, h1, h2 => cases h1; cases h2; exact ⟨_, rfl, rfl⟩
    | 2, h1, h2 => cases h1; cases h2; exact ⟨_, rfl, rfl⟩
    | 3, h1, h2 => cases h1; cases h2; exact ⟨_, rfl, rfl⟩
    | 4, h1, h2 => cases h1; cases h2; exact ⟨_, rfl, rfl⟩
    | 5, h1, h2 => cases h1; cases h2; exact ⟨_, rfl, rfl⟩
    | j + 6, h1, h2 => simp [pileR] at h2) Try.underlying27 zjg (fun _ _ h => zrq h) h
theorem zmh (h : ∃ y, DataW.trod enc Try.prog w base spare held fuel 28 cs = some y) : ∃ (l : List Clm.Evt) (x : Value), cs = [x] ∧ VR w (fun _ => False) nomu (.vs 4 (l.map evtE)) x :=
  row_vr (k := 4) default evtR evtE (by decide) (fun _ => rfl) (fun _ => rfl) (fun y => znt fun j x r h1 h2 => by
    match j, h1, h2 with
    | 0, h1, h2 => cases h1; cases h2; exact ⟨_, rfl, rfl⟩
    | 1, h1, h2 => cases h1; cases h2; exact ⟨_, rfl, rfl⟩
    | 2, h1, h2 => cases h1; cases h2; exact ⟨_, rfl, rfl⟩
    | 3, h1, h2 => cases h1; cases h2; exact ⟨_, rfl, rfl⟩
    | j + 4, h1, h2 => simp [evtR] at h2) Try.underlying28 zig (fun _ _ h => trod_event h) h
theorem trod_clamp (h : ∃ y, DataW.trod enc Try.prog w base spare held fuel 30 cs = some y) : ∃ c : Clm.Cl, VR w (fun _ => False) nomu (.agg (clampCs c)) (.agg cs.toArray) := by
  obtain ⟨y, h⟩ := h
  obtain ⟨xs, n, rfl, _, hl, hx, hf⟩ := DataW.trod_struct Try.underlying30 h
  rw [zni] at hl
  have hx : xs.length = 3 := hx
  obtain ⟨c0, c1, c2, c3, rfl⟩ := list4 hl
  clear hl
  obtain ⟨ps, x, hp, hvp⟩ := zpn ⟨_, (hf 0 _ rfl).trans (List.getElem?_eq_getElem (by omega))⟩
  obtain ⟨a, b, hab⟩ := zdy ⟨_, (hf 1 _ rfl).trans (List.getElem?_eq_getElem (by omega))⟩
  obtain ⟨es, z, he, hve⟩ := zmh ⟨_, (hf 2 _ rfl).trans (List.getElem?_eq_getElem (by omega))⟩
  simp [zes, znh, zmb] at hp hab he
  rw [hp, hab.1, hab.2, he]
  refine ⟨⟨ps, ⟨a, b⟩, es⟩, .agg rfl fun i v r h1 h2 => ?_⟩
  match i, h1, h2 with
  | 0, h1, h2 => cases h1; cases h2; exact hvp
  | 1, h1, h2 => cases h1; cases h2; exact .int
  | 2, h1, h2 => cases h1; cases h2; exact .int
  | 3, h1, h2 => cases h1; cases h2; exact hve
  | i + 4, h1, h2 => simp at h2
end
end K
end Ev
end Go.Proofs.Ytimgnlellflciaa

/- What the rows of chapter 09 share. -/
namespace Go.Proofs.Ytimgnlellflciaa
open Go Go.Proofs Go.ChangeShapes Go.WideShapes Go.ChangeAt Go.RowKit
namespace Ev
namespace K
theorem zzm {w : Value} {b : Bool} (h : ∀ W L μ, VR W L μ (.bool b) w) (W : World) : w = .bool b := by
  have := h W (fun _ => False) nomu
  cases this with
  | dead h1 => cases h1
  | bool => rfl
end K
end Ev
set_option maxRecDepth 100000 in
theorem zxp : ownKnob Try.prog.godebug = none := by kernel_rfl
set_option maxRecDepth 100000 in
theorem laidOut' : laidOutB Try.prog = true := by kernel_rfl
def noClamp : Value := .agg #[.slice none 0 0, .int .i64 0, .int .i64 0, .slice none 0 0]
set_option maxRecDepth 100000 in
theorem zys {H : Type} {enc : TypeId × Value → H} {W : World} {v : Value} {d : DataW H} {p : List MemPlace} {base : Nat}
    (hv : Value.okWide Try.prog W .any base 30 v) (h : DataW.Trod enc Try.prog W 0 (fun _ => true) true 30 v d p) : ∃ c : Clm.Cl, Ev.VR W (fun _ => False) Ev.nomu (.agg (Ev.K.clampCs c)) v := by
  obtain ⟨cs, rfl, _⟩ := okWide_struct Try.underlying30 hv
  obtain ⟨fuel, hf⟩ := h
  obtain ⟨c, hc⟩ := Ev.K.trod_clamp (cs := cs.toList) ⟨_, hf⟩
  exact ⟨c, by simpa using hc⟩
set_option maxRecDepth 100000 in
theorem zzf {H : Type} {enc : TypeId × Value → H} {W : World} {v : Value} {d : DataW H} {p : List MemPlace} {base : Nat}
    (hv : Value.okWide Try.prog W .any base 54 v) (h : DataW.Trod enc Try.prog W 0 (fun _ => true) true 54 v d p) : ∃ c : Clm.Evt, Ev.VR W (fun _ => False) Ev.nomu (Ev.K.evtE c) v := by
  obtain ⟨cs, rfl, _⟩ := okWide_struct Try.underlying54 hv
  obtain ⟨fuel, hf⟩ := h
  obtain ⟨c, hc⟩ := Ev.K.trod_event (cs := cs.toList) ⟨_, hf⟩
  have hc' : cs = (Ev.K.evtR c).toArray := by rw [← hc]
  rw [hc']
  refine ⟨c, .agg rfl fun i v r h1 h2 => ?_⟩
  match i, h1, h2 with
  | 0, h1, h2 => cases h1; cases h2; exact .int
  | 1, h1, h2 => cases h1; cases h2; exact .int
  | 2, h1, h2 => cases h1; cases h2; exact .int
  | 3, h1, h2 => cases h1; cases h2; exact .int
  | i + 4, h1, h2 => simp [Ev.K.evtR] at h2
theorem zzc {n : Int} (h : (Lit.int .u8 n).wf = true) : 0 ≤ n ∧ n ≤ 255 := by
  simp [Lit.wf, IntKind.min, IntKind.max, IntKind.signed, IntKind.bits] at h
  omega
theorem zyu {n : Int} (h : (Lit.int .u16 n).wf = true) : 0 ≤ n ∧ n ≤ 65535 := by
  simp [Lit.wf, IntKind.min, IntKind.max, IntKind.signed, IntKind.bits] at h
  omega
end Go.Proofs.Ytimgnlellflciaa
