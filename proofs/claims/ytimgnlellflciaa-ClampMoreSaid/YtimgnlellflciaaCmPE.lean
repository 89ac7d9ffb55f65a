/- The laws of chapter 09: their configuration. -/
import Derived.Test.YtimgnlellflciaaCmPD
import Derived.Test.YtimgnlellflciaaCmPB
import Derived.Test.YtimgnlellflciaaCmEE
import Derived.KernelRfl
import Derived.Test.YtimgnlellflciaaCmEA
import Derived.Test.YtimgnlellflciaaProg
import Derived.Test.YtimgnlellflciaaCmEC
import Derived.RecoverIn
import Derived.Below
import Derived.ProofKit
import Derived.WalkKit
import Derived.Test.YtimgnlellflciaaCmED
import Derived.Test.YtimgnlellflciaaCmEB
/- Package clamp, gone through: Clash. -/
namespace Go.Proofs.Ytimgnlellflciaa
open Go
namespace Ev
namespace K
attribute [local simp] ev1 wantG spineK spine float xnew xval xeff zaa zaq zbc zav zaw addFl cellsOf pickC alive slLen slFt binI maxA maxK minA minK aeqK aeqS AV.cells spA zar fillA setAt bitsI nat_nn zbg AV.plain apart
open Clm (setOf zcn countsN)
set_option maxRecDepth 100000
set_option maxHeartbeats 4000000
def clashP (c : Clm.Cl) (set : Nat) : Bool := (set &&& countsN c == set) && !Clm.can c set
theorem zzk : ∀ s, s < 64 → ∀ a, a < 64 → (IntKind.u64.wrap ((BitVec.ofInt IntKind.u64.bits ((s : Nat) : Int) &&& ~~~ BitVec.ofInt IntKind.u64.bits ((a : Nat) : Int)).toNat) == 0) = (s &&& a == s) := by decide +kernel
theorem zoz (C : Cfg) (call : CallF) (c : Clm.Cl) (hn : c.events.length ≤ 6) (hCn : CanC call c) (H : List AB) (yb mb : Nat) (hY : Yd c yb mb H) (set : Nat) (hs : set < 2 ^ c.events.length) (b1 b2 : Nat) (hb1 : H[b1]? = some (.cells [.int .u64 ((countsN c : Nat) : Int)])) (hb2 : H[b2]? = some (.cells [.ptr yb 0])) :
    Does (ev C call H.length none af64.body { tm := tmA af64.ntmps (zipI 0 [.int .u64 set, .ptr b1 0, .ptr b2 0] []), df := [], hp := H, tc := [] })
      (Ends C H.length af64.res fun v hp tc => v = .bool (clashP c set) ∧ (∀ j ∈ tc, j = mb) ∧ Kp tc H hp ∧ Yd c yb mb hp) := by
  have hml : mb < H.length := by obtain ⟨es, hm, _⟩ := hY.m; exact get_lt hm
  obtain ⟨H1, tc1, c1, c2, c3, c4⟩ := hCn H yb mb hY set
  obtain ⟨f0, f1, f2, f3, f4, f5⟩ := bk' hb1
  obtain ⟨g0, g1, g2, g3, g4, g5⟩ := bk' hb2
  have hf : tc1.filter (· < H.length) = tc1 := List.filter_eq_self.2 fun j hj => by have := c2 j hj; simp; omega
  have hp2 : 2 ^ c.events.length ≤ 2 ^ 6 := Nat.pow_le_pow_right (by decide) hn
  have hcl : countsN c < 2 ^ c.events.length := zcn _ _
  have han := zzk set (by omega) (countsN c) (by omega)
  have HA := hideP (And.intro c2 (And.intro c3 (And.intro c4 hY)))
  clear hCn hY hb1 hb2 c2 c3 c4 hs hcl hp2 hn
  unfold clashP
  generalize countsN c = A at *
  unfold af64
  simp only [zipI]
  generalize Clm.can c set = cn at *
  cases hz : (set &&& A == set) with
  | true =>
    rw [hz] at han
    clear hz
    simp at han
    (repeat (first | (with_reducible apply zah; (focus ((conv => lhs; simp [Nat.testBit_eq_decide_div_mod_eq, *]) <;> exact rfl)); simp only [addFl]) | ((with_reducible first | apply zai | apply zak | apply zag | apply zae | apply zac | apply zaj | apply zaf | apply zam | (apply zad; · simp [zaa, *]) | (apply zab; · simp [zaa, *])); try simp only [Then, Ops]) | simp only [Nat.reduceEqDiff, reduceIte, OutB, Then]))
    obtain ⟨c2, c3, c4, hY⟩ := HA.out
    exact zao (v := .bool (!cn)) (.inl rfl) rfl c3.len (by simp only [resL, resOf, zal]; simp [resV, *]) ⟨by simp, c2, c3, c4⟩
  | false =>
    rw [hz] at han
    clear hz
    simp at han
    have hb := beq_false_of_ne han
    (repeat (first | (with_reducible apply zah; (focus ((conv => lhs; simp [Nat.testBit_eq_decide_div_mod_eq, *]) <;> exact rfl)); simp only [addFl]) | ((with_reducible first | apply zai | apply zak | apply zag | apply zae | apply zac | apply zaj | apply zaf | apply zam | (apply zad; · simp [zaa, *]) | (apply zab; · simp [zaa, *])); try simp only [Then, Ops]) | simp only [Nat.reduceEqDiff, reduceIte, OutB, Then]))
    obtain ⟨c2, c3, c4, hY⟩ := HA.out
    exact zao (v := .bool false) (.inl rfl) rfl (Nat.le_refl _) (by simp only [resL, resOf, zal]; simp [resV, *]) ⟨by simp, by simp, Kp.refl _ _, hY⟩
def clashF (c : Clm.Cl) : Option Nat := (Clm.setsBy c.events.length).find? (clashP c)
def clashE (c : Clm.Cl) : Int := if Clm.valid c = false then 1 else if Clm.can c (Clm.every c) = true then 4 else match clashF c with | some _ => 0 | none => 4
def clashV (c : Clm.Cl) : Int := if Clm.valid c = false then 0 else if Clm.can c (Clm.every c) = true then 0 else match clashF c with | some s => (s : Int) | none => 0
def clashR (c : Clm.Cl) : AV := .tup [.int .i64 (clashV c), .int .i64 (clashE c)]
theorem zsx (C : Cfg) (hC : C.calm = true) (call call1 call2 : CallF) (hM : MustC call) (c : Clm.Cl) (hdf : C.dfk 59 = some (102, true)) (hA : AlwaysC call2) (hO : OpenCall call call2 c) (hE : Clm.valid c = true → EveryC call c) (hCn : Clm.valid c = true → CanC call c) (hSe : SetsC call) (hFi : Clm.valid c = true → FirstC call call1 c)
    (hG : Clm.valid c = true → ∀ H yb mb b1 b2, H[b1]? = some (.cells [.int .u64 ((countsN c : Nat) : Int)]) → H[b2]? = some (.cells [.ptr yb 0]) → b1 ≠ mb → b2 ≠ mb → SetF call1 (.fn (.func 64) [] [.ptr b1 0, .ptr b2 0]) c yb mb H (clashP c) (Clm.setsBy c.events.length)) :
    Does (ev C call ([] : List AB).length none af16.body { tm := tmA af16.ntmps (zipI 0 [.agg (clampCs c)] []), df := [], hp := [], tc := [] })
      (Fin C ([] : List AB).length af16 (Ans (clashR c))) := by
  have ho := hO [.cells (clampCs c), .cells [.int .i64 0]] (.fn (.func 60) [] []) true (fun _ G yb mb _ _ => hA G _)
  have hmt := hM.t
  have hmf := hM.f
  unfold clashR clashV clashE
  unfold af16
  rcases ho with ⟨h1, h2⟩ | ⟨h1, h2, h3⟩ | ⟨h1, h2, H1, yb, mb, h3, h4, h5, h6, h7⟩
  · simp only [if_pos h1]
    clear hO hE hCn hSe hFi hG hA h1 hM
    simp only [zipI, clampCs, stopV] at *
    (repeat (first | (with_reducible apply zah; (focus ((conv => lhs; simp [Nat.testBit_eq_decide_div_mod_eq, *]) <;> exact rfl)); simp only [addFl]) | (with_reducible apply zau; (focus ((conv => lhs; simp [Nat.testBit_eq_decide_div_mod_eq, *]) <;> exact rfl)); (try simp only [Ops, Then]); (try dsimp only)) | ((with_reducible first | apply zai | apply zak | apply zag | apply zae | apply zac | apply zaj | apply zaf | apply zam | (apply zad; · simp [zaa, *]) | (apply zab; · simp [zaa, *])); try simp only [Then, Ops]) | simp only [Nat.reduceEqDiff, reduceIte, OutB, Then]))
    refine zcg hdf rfl rfl (by simp only [resL, resOf, zal]; simp [resV, pickC]; rfl) ⟨by simp, by simp⟩
  · cases h2
  · have hvf : ¬ Clm.valid c = false := by rw [h1]; decide
    simp only [if_neg hvf]
    have hn := ((Clm.valid_iff c).1 h1).events
    have hev := hE h1 (H1 ++ [.cells [.ptr yb 0]]) yb _ (h5.app _).y
    obtain ⟨H2, tc2, k1, k2, k3, k4⟩ := hCn h1 (H1 ++ [.cells [.ptr yb 0]]) yb mb (h5.app _) (Clm.every c)
    have hml : mb < H1.length := by obtain ⟨es, hm, _⟩ := h5.m; exact get_lt hm
    have hl1 := h4.len
    simp only [List.length_cons, List.length_nil] at h6 h7 hl1
    have hat : ∀ {j x}, (H1 ++ [.cells [.ptr yb 0]])[j]? = some x → j ≠ mb → H2[j]? = some x := fun hx hj => k3.at hx (fun h => hj (k2 _ h))
    have e0 : H2[0]? = some (.cells (clampCs c)) := hat ((Kp.app (S := []) _ _).at (h4.at rfl (by simp)) (by simp)) (by omega)
    have e1 : H2[1]? = some (.cells [.int .i64 0]) := hat ((Kp.app (S := []) _ _).at (h4.at rfl (by simp)) (by simp)) (by omega)
    have e2 : H2[H1.length]? = some (.cells [.ptr yb 0]) := hat (by simp) (by omega)
    have t0 : ¬ H1.length ∈ tc2 := fun h => by have := k2 _ h; omega
    cases hcan : Clm.can c (Clm.every c) with
    | true =>
      rw [hcan] at k1
      simp only
      clear hO hE hCn hSe hFi hG hA h1 hvf hM k2 k3 k4 h4 h5 h6 h7 hat e0 hcan
      simp only [zipI, clampCs] at *
      (repeat (first | (with_reducible apply zah; (focus ((conv => lhs; simp [Nat.testBit_eq_decide_div_mod_eq, *]) <;> exact rfl)); simp only [addFl]) | (with_reducible apply zau; (focus ((conv => lhs; simp [Nat.testBit_eq_decide_div_mod_eq, *]) <;> exact rfl)); (try simp only); (try dsimp only)) | ((with_reducible first | apply zai | apply zak | apply zag | apply zae | apply zac | apply zaj | apply zaf | apply zam | (apply zad; · simp [zaa, *]) | (apply zab; · simp [zaa, *])); try simp only [Then, Ops, reduceIte]) | simp only [Nat.reduceEqDiff, reduceIte, OutB, Then]))
      simp only [List.filterMap_cons, List.filterMap_nil, zfh, List.foldl_cons, List.foldl_nil]
      refine zcg hdf rfl e1 (by simp only [resL, resOf, zal]; simp [resV, pickC, List.getElem?_set_self (get_lt e1)]) ⟨rfl, by simp⟩
    | false =>
      rw [hcan] at k1
      have hcan0 := hcan
      simp only [if_neg (show ¬ (false = true) by decide)]
      obtain ⟨f0, f1, f2, f3, f4, f5⟩ := bk' e0
      have HX := hideP (And.intro hG (And.intro hFi (And.intro hSe (And.intro h1 (And.intro k4 (And.intro e1 (And.intro e2 (And.intro h6 (And.intro h7 (And.intro hml hl1))))))))))
      clear hO hE hCn hSe hFi hG hA h1 hvf hM k2 k3 k4 h4 h5 h6 h7 hat e0 hcan e1 e2
      simp only [zipI, clampCs] at *
      (repeat (first | (with_reducible apply zah; (focus ((conv => lhs; simp [Nat.testBit_eq_decide_div_mod_eq, *]) <;> exact rfl)); simp only [addFl]) | (with_reducible apply zau; (focus ((conv => lhs; simp [Nat.testBit_eq_decide_div_mod_eq, *]) <;> exact rfl)); (try simp only [Ops, Then, OutB]); (try dsimp only)) | ((with_reducible first | apply zai | apply zak | apply zag | apply zae | apply zac | apply zaj | apply zaf | apply zam | (apply zad; · simp [zaa, *]) | (apply zab; · simp [zaa, *])); try simp only [Then, Ops]) | simp only [Nat.reduceEqDiff, reduceIte, OutB, Then]))
      have hl2 : H1.length + 1 ≤ H2.length := by have := get_lt HX.out.2.2.2.2.2.2.1; omega
      have nH : ∀ n, ¬ H2.length + n < 0 := by omega
      with_reducible refine zaz hC c.events.length (by unfold fuelL; omega) (fun i st => ∃ J, st = { tm := tmA 41 [(20, .int .i64 i), (19, .int .i64 c.events.length), (18, .vs 4 (c.events.map evtE)), (5, .ptr H2.length 0), (4, .ptr H1.length 0), (3, .ptr 1 0), (1, .ptr 0 0)], df := [.call 59 [.ptr 1 0]], hp := H2 ++ .cells [.int .u64 ((setOf (fun i => decide ((c.events.getD i default).kind = 1)) i : Nat) : Int)] :: J, tc := [] }) ?_ ?_ ?_
      · refine ⟨[], ?_⟩
        refine st_is ?_ ?_ ?_ ?_
        · simp [zan, zap]
        · rfl
        · rfl
        · simp
      · clear f0 f1 f2 f3 f4 f5 k1 t0
        rintro i st hi ⟨J, rfl⟩
        have hgv : c.events[i]? = some c.events[i] := List.getElem?_eq_getElem hi
        have hgd : c.events.getD i default = c.events[i] := by rw [List.getD_eq_getElem?_getD, hgv]; rfl
        have n1 : setOf (fun i => decide ((c.events.getD i default).kind = 1)) (i + 1) = if decide (c.events[i].kind = 1) = true then setOf (fun i => decide ((c.events.getD i default).kind = 1)) i + 2 ^ i else setOf (fun i => decide ((c.events.getD i default).kind = 1)) i := by
          rw [← hgd]; rfl
        rw [n1]
        clear n1 hgd
        generalize c.events[i] = v at hgv ⊢
        have hgv' := ge_of hgv
        have hwi : IntKind.i64.wrap (↑i + 1) = ↑i + 1 := zas (by omega) (by omega)
        obtain ⟨s1, s2, s3⟩ := zir (d := i) (by omega)
        have o1 := zxw i (by omega) _ (zcn (fun i => decide ((c.events.getD i default).kind = 1)) i)
        generalize setOf (fun i => decide ((c.events.getD i default).kind = 1)) i = A at *
        generalize 2 ^ i = P at s1 s2 s3 o1 ⊢
        simp at o1
        by_cases q1 : v.kind = 1
        · simp only [q1, decide_true, if_true]
          (repeat (first | (with_reducible apply zah; (focus ((conv => lhs; simp [evtE, Nat.testBit_eq_decide_div_mod_eq, *]) <;> exact rfl)); simp only [addFl]) | (with_reducible apply zau; (focus ((conv => lhs; simp [evtE, Nat.testBit_eq_decide_div_mod_eq, *]) <;> exact rfl)); (try simp only [Ops, Then, OutB]); (try dsimp only)) | ((with_reducible first | apply zai | apply zak | apply zag | apply zae | apply zac | apply zaj | apply zaf | apply zam | (apply zad; · simp [zaa, *]) | (apply zab; · simp [zaa, *])); try simp only [Then, Ops, OutB]) | simp only [Nat.reduceEqDiff, reduceIte, OutB, Then]))
          refine ⟨?_, ?_⟩
          rotate_left
          (refine st_is ?_ ?_ ?_ ?_; (focus (simp [zan, zap])); (focus rfl); (focus (first | rfl | (simp; done) | (simp [*]; done) | (simp; rfl) | (simp [*]; omega) | (simp; omega))); (focus (first | rfl | simp)))
        · simp only [q1, decide_false, Bool.false_eq_true, if_false]
          have hb := beq_false_of_ne q1
          (repeat (first | (with_reducible apply zah; (focus ((conv => lhs; simp [evtE, Nat.testBit_eq_decide_div_mod_eq, *]) <;> exact rfl)); simp only [addFl]) | (with_reducible apply zau; (focus ((conv => lhs; simp [evtE, Nat.testBit_eq_decide_div_mod_eq, *]) <;> exact rfl)); (try simp only [Ops, Then, OutB]); (try dsimp only)) | ((with_reducible first | apply zai | apply zak | apply zag | apply zae | apply zac | apply zaj | apply zaf | apply zam | (apply zad; · simp [zaa, *]) | (apply zab; · simp [zaa, *])); try simp only [Then, Ops, OutB]) | simp only [Nat.reduceEqDiff, reduceIte, OutB, Then]))
          refine ⟨?_, ?_⟩
          rotate_left
          (refine st_is ?_ ?_ ?_ ?_; (focus (simp [zan, zap])); (focus rfl); (focus (first | rfl | (simp; done) | (simp [*]; done) | (simp; rfl) | (simp [*]; omega) | (simp; omega))); (focus (first | rfl | simp)))
      · rintro st ⟨J, rfl⟩
        have hcn : setOf (fun i => decide ((c.events.getD i default).kind = 1)) c.events.length = countsN c := rfl
        rw [hcn]
        obtain ⟨hG, hFi, hSe, h1, k4, e1, e2, h6, h7, hml, hl1⟩ := HX.out
        have hse := fun H => hSe H c.events.length (by omega)
        have hlen : (Clm.setsBy c.events.length).length ≤ 1000 := by
          rw [Clm.sets_len (by omega)]
          have : 2 ^ c.events.length ≤ 2 ^ 6 := Nat.pow_le_pow_right (by decide) hn
          omega
        obtain ⟨H3, tc3, m1, m2, m3, m4⟩ := hFi h1 (H2 ++ .cells [.int .u64 ((countsN c : Nat) : Int)] :: J) yb mb (k4.app _) (.func 64) [] [.ptr H2.length 0, .ptr H1.length 0] (clashP c) (Clm.setsBy c.events.length) hlen (hG h1 _ yb mb H2.length H1.length (by simp) ((Kp.app (S := []) _ _).at e2 (by simp)) (by omega) (by omega))
        have e3 : H3[1]? = some (.cells [.int .i64 0]) := m2.at ((Kp.app (S := []) _ _).at e1 (by simp)) (fun h => by have := m1 _ h; omega)
        have hfd : (Clm.setsBy c.events.length).find? (clashP c) = clashF c := rfl
        have hsm : ∀ S, clashF c = some S → S < 2 ^ c.events.length := fun S h => (Clm.mem_sets (by omega) S).1 (List.mem_of_find?_eq_some h)
        rw [hfd] at m4
        obtain ⟨g0, g1, g2, g3, g4, g5⟩ := bk' e3
        generalize Clm.setsBy c.events.length = SB at *
        have hp2 : 2 ^ c.events.length ≤ 2 ^ 6 := Nat.pow_le_pow_right (by decide) hn
        generalize ((countsN c : Nat) : Int) = A at *
        clear hG hFi hSe h1 k4 e1 e2 h6 h7 hml hl1 m1 m2 m3 hlen hfd k1 t0 hev hcn
        cases hsf : clashF c with
        | none =>
          have hp1 : clashP c (countsN c) = true := by
            unfold clashP
            rw [Clm.can_counts ((Clm.valid_iff c).1 HX.out.2.2.2.1), hcan0]
            simp
          obtain ⟨S, hS⟩ := Clm.first_some (by omega) (zcn _ _ : countsN c < 2 ^ c.events.length) hp1
          unfold clashF at hsf
          rw [hS] at hsf
          cases hsf
        | some S =>
          rw [hsf] at m4
          have hS := hsm S hsf
          have hw : IntKind.i64.wrap (S : Int) = S := zas (by omega) (by omega)
          clear hsm hS hp2
          simp only at m4 ⊢
          (repeat (first | (with_reducible apply zah; (focus ((conv => lhs; simp [Nat.testBit_eq_decide_div_mod_eq, *]) <;> exact rfl)); simp only [addFl]) | (with_reducible apply zau; (focus ((conv => lhs; simp [Nat.testBit_eq_decide_div_mod_eq, *]) <;> exact rfl)); (try simp only [Ops, Then, OutB]); (try dsimp only)) | ((with_reducible first | apply zai | apply zak | apply zag | apply zae | apply zac | apply zaj | apply zaf | apply zam | (apply zad; · simp [zaa, *]) | (apply zab; · simp [zaa, *])); try simp only [Then, Ops, OutB, reduceIte]) | simp only [Nat.reduceEqDiff, reduceIte, OutB, Then]))
          refine zdp (v := .tup [.int .i64 S, .int .i64 0]) (.inl rfl) hdf rfl (by simp) (by simp only [resL, resOf, zal]; simp [resV, pickC, g0]) ⟨rfl, by simp⟩
end K
end Ev
end Go.Proofs.Ytimgnlellflciaa

/- Package clamp: what its functions come to, in any configuration that knows them. -/
namespace Go.Proofs.Ytimgnlellflciaa
open Go
namespace Ev
namespace K
attribute [local simp] ev1 wantG spineK spine float xnew xval xeff zaa zaq zbc zav zaw addFl cellsOf pickC alive slLen slFt binI maxA maxK minA minK aeqK aeqS AV.cells spA zar fillA setAt bitsI nat_nn zbg AV.plain apart
set_option maxRecDepth 100000
set_option maxHeartbeats 4000000
structure Knows (C : Cfg) : Prop where
  calm : C.calm = true
  none : Has C 100 af100
  some : Has C 91 af91
  either : Has C 85 af85
  both : Has C 98 af98
  ca : Has C 119 af119
  cb : Has C 120 af120
  sa : Has C 117 af117
  sb : Has C 118 af118
  within : Has C 77 af77
  at_ : Has C 40 af40
  areSods : Has C 51 af51
  isSpan : Has C 76 af76
  product : Has C 75 af75
  sods : Has C 41 af41
  must : Has C 61 af61
  events : Has C 97 af97
  log : Has C 93 af93
  sizes : Has C 92 af92
  sizes1 : Has C 96 af96
  ways : Has C 86 af86
  packs : Has C 83 af83
  packs1 : Has C 90 af90
  can : Has C 62 af62
  every : Has C 63 af63
  told : Has C 52 af52
  isPile : Has C 50 af50
  left : Has C 44 af44
  span : Has C 74 af74
  hull : Has C 72 af72
  of1 : Has C 73 af73
  of_ : Has C 38 af38
  tog1 : Has C 78 af78
  tog : Has C 53 af53
  open_ : Has C 48 af48
  one : Has C 37 af37
  one1 : Has C 71 af71
  always : Has C 60 af60
  built2 : Has C 39 af39
  sold2 : Has C 46 af46
  enough2 : Has C 49 af49
  share2 : Has C 55 af55
  share3 : Has C 58 af58
  clash2 : Has C 64 af64
  index : Has C 79 af79
  first : Has C 56 af56
  sets : ∀ n, SetsC (Ev.call C (n + 1))
  built : Has C 10 af10
  has : Has C 12 af12
  sold : Has C 13 af13
  all : Has C 25 af25
  enough : Has C 14 af14
  empty : Has C 26 af26
  share : Has C 15 af15
  clash : Has C 16 af16
  dfBuilt : C.dfk 35 = Option.some (102, true)
  dfHas : C.dfk 43 = Option.some (102, true)
  dfSold : C.dfk 45 = Option.some (102, true)
  dfAll : C.dfk 69 = Option.some (102, true)
  dfEnough : C.dfk 47 = Option.some (102, true)
  dfEmpty : C.dfk 70 = Option.some (102, true)
  dfShare : C.dfk 54 = Option.some (102, true)
  dfClash : C.dfk 59 = Option.some (102, true)
theorem zei {C : Cfg} {n f : Nat} {fn : AFunc} {first captured args : List AV} {H : List AB} {Q : CRes → List AB → List Nat → Prop} (hc : C.calm = true) (h0 : Has C f fn) (hlen : (first ++ args ++ captured).length ≤ fn.ntmps)
    (h : Does (ev C (Ev.call C n) H.length none fn.body { tm := tmA fn.ntmps (zipI 0 (first ++ args ++ captured) []), df := [], hp := H, tc := [] }) (Fin C H.length fn Q)) :
    ∃ x hp tc H', Ev.call C (n + 1) (.fn (.func f) first captured) args H = Option.some (x, H', tc) ∧ Q x hp tc ∧ Lft H hp tc H' ∧ (refs x.val ≠ [] ∨ tc ≠ [] → H'.length = hp.length ∧ ∀ j, H.length ≤ j → H'[j]? = hp[j]?) ∧ (refs x.val = [] → tc = [] → H' = H) :=
  zqa hc h0.ext h0.exth h0.fns h0.whole hlen h
theorem mustT2 (C : Cfg) (call : CallF) (H : List AB) (e : Int) : Does (ev C call H.length Option.none af61.body { tm := tmA af61.ntmps (zipI 0 [.bool true, .int .i64 e] []), df := [], hp := H, tc := [] }) (Fin C H.length af61 fun x _ tc => x = .ret (.tup []) ∧ tc = []) := by
  unfold af61
  simp only [zipI]
  (repeat (first | (with_reducible apply zah; (focus ((conv => lhs; simp [Nat.testBit_eq_decide_div_mod_eq, *]) <;> exact rfl)); simp only [addFl]) | ((with_reducible first | apply zai | apply zak | apply zag | apply zae | apply zac | apply zaj | apply zaf | apply zam | (apply zad; · simp [zaa, *]) | (apply zab; · simp [zaa, *])); try simp only [Then, Ops]) | simp only [Nat.reduceEqDiff, reduceIte, OutB, Then]))
  exact zji (v := .tup []) (.inr rfl) rfl (Nat.le_refl _) rfl ⟨rfl, rfl⟩
theorem mustF2 (C : Cfg) (call : CallF) (H : List AB) (e : Int) : Does (ev C call H.length Option.none af61.body { tm := tmA af61.ntmps (zipI 0 [.bool false, .int .i64 e] []), df := [], hp := H, tc := [] }) (Fin C H.length af61 fun x _ tc => x = .pan (.iface 102 (.agg [.int .i64 e])) ∧ tc = []) := by
  unfold af61
  simp only [zipI]
  (repeat (first | (with_reducible apply zah; (focus ((conv => lhs; simp [Nat.testBit_eq_decide_div_mod_eq, *]) <;> exact rfl)); simp only [addFl]) | (with_reducible apply zau; (focus ((conv => lhs; simp [Nat.testBit_eq_decide_div_mod_eq, *]) <;> exact rfl)); (try simp only [Ops]); (try dsimp only)) | ((with_reducible first | apply zai | apply zak | apply zag | apply zae | apply zac | apply zaj | apply zaf | apply zam | (apply zad; · simp [zaa, *]) | (apply zab; · simp [zaa, *])); try simp only [Then, Ops]) | simp only [Nat.reduceEqDiff, reduceIte, OutB, Then]))
  exact zbp rfl (Nat.le_refl _) ⟨rfl, rfl⟩
section
variable {C : Cfg} (k : Knows C)
include k
abbrev le' {a b : Nat} (h : Nat.ble a b = true) : a ≤ b := Nat.le_of_ble_eq_true h
theorem noneL (n : Nat) : NoneC (Ev.call C (n + 1)) := fun H => zbm k.calm k.none (le' rfl) rfl (zyf C _ H)
theorem someL (n : Nat) : SomeC (Ev.call C (n + 1)) := fun H s => zbm k.calm k.some (le' rfl) rfl (zxi C _ H s)
theorem eitherL (n : Nat) : EitherC (Ev.call C (n + 1)) := fun H s t => zbm k.calm k.either (le' rfl) rfl (zst C _ H s t)
theorem bothL (n : Nat) : BothC (Ev.call C (n + 2)) := fun H s t => zbm k.calm k.both (le' rfl) rfl (zzf C _ (noneL k n) H s t)
theorem withinL (n : Nat) : WithinC (Ev.call C (n + 1)) := fun H a b c => zbm k.calm k.within (le' rfl) rfl (zrd C _ H a b c)
theorem areSodsL (n : Nat) : AreSodsC (Ev.call C (n + 2)) := fun H a => zbm k.calm k.areSods (le' rfl) rfl (zpg C _ (withinL k n) H a)
theorem isSpanL (n : Nat) : IsSpanC (Ev.call C (n + 1)) := fun H s a b w h1 h2 => zbm k.calm k.isSpan (le' rfl) rfl (zsf C _ H s a b w h1 h2)
theorem productL (n : Nat) : ProductC (Ev.call C (n + 1)) := fun H l w h p l0 l1 w0 w1 h0 h1 p0 p1 b hb => zbm k.calm k.product (le' rfl) rfl (zoc C k.calm _ H l w h p l0 l1 w0 w1 h0 h1 p0 p1 b hb)
theorem sodsL (n : Nat) : SodsC (Ev.call C (n + 2)) := fun H i l w h p l0 l1 w0 w1 h0 h1 p0 p1 => zbm k.calm k.sods (le' rfl) rfl (zxj C _ (productL k n) H i l w h p l0 l1 w0 w1 h0 h1 p0 p1)
theorem evtL (n : Nat) : EvtC (Ev.call C (n + 3)) where
  sa H s x hx hs := by
    simp only [Clm.Bf.low] at hs
    exact zbm k.calm k.sa (le' rfl) rfl (zud C _ (noneL k (n + 1)) (someL k (n + 1)) H s x (by have := hx.l0; omega) (by have := hx.l1; omega) (by have := hx.h0; omega) (by have := hx.h1; omega) (by omega) (by omega) (by omega) (by omega))
  sb H s x hx hs := by
    simp only [Clm.Bf.low] at hs
    exact zbm k.calm k.sb (le' rfl) rfl (zuc C _ (noneL k (n + 1)) (someL k (n + 1)) H s x (by have := hx.l0; omega) (by have := hx.l1; omega) (by have := hx.h0; omega) (by have := hx.h1; omega) (by omega) (by omega) (by omega) (by omega))
  ca H s x := zbm k.calm k.ca (le' rfl) rfl (zsw C _ (bothL k n) H s x)
  cb H s x := zbm k.calm k.cb (le' rfl) rfl (zsv C _ (bothL k n) H s x)
theorem mustL (n : Nat) : MustC (Ev.call C (n + 1)) where
  t H e := by
    obtain ⟨x, hp, tc, H', c1, ⟨rfl, rfl⟩, _, _, c7⟩ := zei (n := n) (first := []) (captured := []) (args := [.bool true, .int .i64 e]) k.calm k.must (le' rfl) (mustT2 C _ H e)
    rw [c1, c7 rfl rfl]
  f H e := by
    obtain ⟨x, hp, tc, H', c1, ⟨rfl, rfl⟩, _, _, c7⟩ := zei (n := n) (first := []) (captured := []) (args := [.bool false, .int .i64 e]) k.calm k.must (le' rfl) (mustF2 C _ H e)
    rw [c1, c7 rfl rfl]
theorem sizesL (n : Nat) : SizesC (Ev.call C (n + 1)) := fun H yb a b => zli k.calm k.sizes (le' rfl) (by simp [refs, refsL]) (ztw C _ H yb a b)
theorem packsL (n : Nat) : PacksC (Ev.call C (n + 1)) := fun H yb a => zli k.calm k.packs (le' rfl) (by simp [refs, refsL]) (zur C _ H yb a)
theorem alwaysL (n : Nat) : AlwaysC (Ev.call C (n + 1)) := fun H v => zbd k.calm k.always (le' rfl) rfl (ztf C _ H v)
variable {c : Clm.Cl} (hc : Clm.Fine c)
include hc
theorem eventsL (n : Nat) : EventsC (Ev.call C (n + 1)) c := by
  intro H yb w hy number counts
  obtain ⟨v, hp, tc, H', c1, ⟨rfl, rfl, J, rfl⟩, c5, c6, _⟩ := zco (n := n) (first := []) (captured := []) (args := [.ptr yb 0, .int .i64 number, .int .u64 counts]) k.calm k.events.ext k.events.exth k.events.fns k.events.whole (le' rfl) (zsq C k.calm _ H c hc.events yb w hy number counts)
  exact ⟨J, by rw [c1, lft_eq c5 (Kp.app _ _) c6 (.inl (by simp [refs]))]⟩
theorem everyL (n : Nat) : EveryC (Ev.call C (n + 1)) c := fun H yb w hy => zbd k.calm k.every (le' rfl) rfl (zwf C _ c hc H yb w hy)
theorem isPileL (n : Nat) : IsPileC (Ev.call C (n + 2)) c := fun H yb w hy m => zbd k.calm k.isPile (le' rfl) rfl (zki C _ (withinL k n) c hc.piles.2 H yb w hy m)
theorem leftL (n : Nat) : LeftC (Ev.call C (n + 1)) c := fun H yb w hy m p wy => zbd (first := [.ptr yb 0]) k.calm k.left (le' rfl) rfl (zqi C _ c hc H yb w hy m p wy)
theorem logL (n : Nat) : LogC (Ev.call C (n + 4)) c := by
  intro H yb mb hY q hq hn
  obtain ⟨es, hm, hes⟩ := hY.m
  rcases zmt q hes with h | h
  · obtain ⟨es', h1, h2⟩ := zpz q hes
    obtain ⟨v, hp, tc, H', c1, ⟨rfl, rfl, c3⟩, c5, _, _⟩ := zco (n := n + 3) (first := []) (captured := []) (args := [.ptr yb 0, qA q]) k.calm k.log.ext k.log.exth k.log.fns k.log.whole (le' rfl)
      (zyn C k.calm _ c hc (eventsL k hc (n + 2)) (sodsL k (n + 1)) (evtL k n) (bothL k (n + 1)) H yb mb hY q hq es es' hm h h1)
    refine ⟨H', _, c1, by simp, c5.kp, hY.ne, c5.kp.at hY.y (by simp [hY.ne]), es', ?_, h2⟩
    rw [c5.got mb (get_lt hm) (by simp)]; exact c3
  · obtain ⟨v, hp, tc, H', c1, ⟨rfl, rfl⟩, c5, _, c7⟩ := zco (n := n + 3) (first := []) (captured := []) (args := [.ptr yb 0, qA q]) k.calm k.log.ext k.log.exth k.log.fns k.log.whole (le' rfl)
      (yah C _ c H yb mb hY q es hm h)
    exact ⟨H', _, c1, by simp, c5.kp, hY.kp c5.kp (by simp) (by simp)⟩
theorem waysL (n : Nat) : WaysC (Ev.call C (n + 7)) c := by
  intro H yb mb hY i hi pack p0 p1 counts
  obtain ⟨v, hp, tc, H', c1, ⟨c2, c3, c4, c8⟩, c5, c6, _⟩ := zco (n := n + 6) (first := []) (captured := []) (args := [.ptr yb 0, .int .i64 i, .int .i64 pack, .int .u64 counts]) k.calm k.ways.ext k.ways.exth k.ways.fns k.ways.whole (le' rfl)
    (ztk C k.calm (n + 4) k.sizes1 c hc (sizesL k (n + 5)) (logL k hc n) (someL k (n + 3)) H yb mb hY i hi pack p0 p1 counts)
  have hs := c5.same c3
  obtain ⟨es, m1, m2⟩ := hY.m
  obtain ⟨es2, m3, m4⟩ := c4.m
  refine ⟨v, H', tc, c1, c2, ⟨c5.len, fun b hb ht => (hs b hb).trans (c3.get b hb ht)⟩, ⟨hY.ne, (hs _ (get_lt hY.y)).trans c4.y, es2, (hs _ (get_lt m1)).trans m3, m4⟩, ?_⟩
  generalize Clm.ways c i pack counts = ws at c8 ⊢
  cases c8 with
  | none => exact .none
  | some b ws z1 z2 z3 =>
    rw [lft_eq c5 c3 c6 (.inl (by simp [refs]))]
    exact .some b ws z1 z2 z3
theorem packIL (n : Nat) : PackI C (n + 7) c := zus k.calm hc k.packs1 (waysL k hc n)
theorem canL (n : Nat) : CanC (Ev.call C (n + 9)) c := fun H yb mb hY counts =>
  zdn k.calm k.can (le' rfl) hY (zze C k.calm (n + 6) c (packsL k (n + 7)) (packIL k hc n) H yb mb hY counts)
theorem toldL (n : Nat) : ToldCall (Ev.call C (n + 10)) c := by
  intro H yb mb hY
  obtain ⟨x, hp, tc, H', c1, ⟨c2, c3, c4, rfl⟩, c5, _, _⟩ := zei (n := n + 9) (first := []) (captured := []) (args := [.ptr yb 0]) k.calm k.told (le' rfl)
    (ztm C _ (mustL k (n + 8)) c (everyL k hc (n + 8)) (canL k hc n) H yb mb hY)
  have hs := c5.same c3
  obtain ⟨es, m1, m2⟩ := hY.m
  obtain ⟨es2, m3, m4⟩ := c4.m
  exact ⟨H', tc, c2, ⟨c5.len, fun b hb ht => (hs b hb).trans (c3.get b hb ht)⟩, ⟨hY.ne, (hs _ (get_lt hY.y)).trans c4.y, es2, (hs _ (get_lt m1)).trans m3, m4⟩, c1⟩
theorem spanL' (n : Nat) : SpanC C (n + 7) c := fun H yb mb hY i hi pack p0 p1 F g hF hne =>
  zdn k.calm k.span (le' rfl) hY (ztq C k.calm _ c hc (everyL k hc (n + 6)) (waysL k hc n) (eitherL k (n + 6)) H yb mb hY i hi pack p0 p1 F g hF hne)
theorem hullL (n : Nat) : HullC C (n + 6) c := fun H yb mb hY fl fa fb g hF =>
  zdn k.calm k.hull (le' rfl) hY (zvt C k.calm (n + 6) c (everyL k hc (n + 7)) (packsL k (n + 7)) (packIL k hc n) (eitherL k (n + 5)) H yb mb hY fl fa fb g hF)
theorem ofL (n : Nat) : OfCall C (n + 7) c := fun H yb mb hY i hi fl fa fb g hF =>
  zdn k.calm k.of_ (le' rfl) hY (zzx C (n + 7) k.calm k.of1 c hc (spanL' k hc n) (hullL k hc (n + 3)) H yb mb hY i hi fl fa fb g hF)
theorem togL (n : Nat) : TogCall (Ev.call C (n + 13)) c := fun H yb mb hY set =>
  zdn k.calm k.tog (le' rfl) hY (zxe C (n + 7) k.calm k.tog1 c hc (leftL k hc (n + 6)) (spanL' k hc n) (hullL k hc (n + 3)) H yb mb hY set)
omit hc
theorem openL (hbig : c.piles.length ≤ 1000000 ∧ c.events.length ≤ 1000000) (n : Nat) : OpenCall (Ev.call C (n + 3)) (Ev.call C (n + 2)) c := by
  intro H F is hF
  obtain ⟨x, hp, tc, H', c1, ⟨rfl, c2⟩, c5, c6, c7⟩ := zei (n := n + 2) (first := []) (captured := []) (args := [.agg (clampCs c), F]) (H := H) k.calm k.open_ (le' rfl)
    (zut C k.calm _ (mustL k (n + 1)) (isSpanL k (n + 1)) (withinL k (n + 1)) c (fun h4 H yb w hy m => zbd k.calm k.isPile (le' rfl) rfl (zki C _ (withinL k n) c h4 H yb w hy m)) hbig H F is hF)
  rcases c2 with ⟨h1, rfl⟩ | ⟨h1, h2, rfl⟩ | ⟨h1, h2, yb, mb, rfl, h3, h4, h5, h6⟩
  · exact .inl ⟨h1, by rw [c1, c7 rfl rfl]⟩
  · exact .inr (.inl ⟨h1, h2, by rw [c1, c7 rfl rfl]⟩)
  · have he := lft_eq (v := .ptr yb 0) c5 h3 c6 (.inl (by simp [refs]))
    subst he
    exact .inr (.inr ⟨h1, h2, H', yb, mb, c1, h3, h4, h5, h6⟩)
theorem headL (hbig : c.piles.length ≤ 1000000 ∧ c.events.length ≤ 1000000) (n : Nat) : HeadCall (Ev.call C (n + 10)) (Ev.call C (n + 9)) c :=
  yaj (openL k hbig (n + 7)) fun hv => toldL k ((Clm.valid_iff c).1 hv) n
theorem oneL (hbig : c.piles.length ≤ 1000000 ∧ c.events.length ≤ 1000000) (n : Nat) : OneCall (Ev.call C (n + 11)) c := by
  intro H m
  obtain ⟨x, hp, tc, H', c1, ⟨rfl, c2, c3⟩, c5, c6, c7⟩ := zei (n := n + 10) (first := []) (captured := []) (args := [.agg (clampCs c), .int .i64 m]) (H := H) k.calm k.one (le' rfl)
    (zxy C _ (Ev.call C (n + 9)) c (openL k hbig (n + 7)) (fun hv => toldL k ((Clm.valid_iff c).1 hv) n) H m (fun hv G yb mb hG hY => zbd (captured := [.ptr (H.length + 1) 0]) k.calm k.one1 (le' rfl) rfl
      (zxz C _ c (isPileL k ((Clm.valid_iff c).1 hv) (n + 6)) G yb _ hY.y m (H.length + 1) (hG.at (by simp) (by simp)))))
  rcases c3 with ⟨h1, rfl⟩ | ⟨h1, yb, mb, rfl, h3, h4, h5⟩
  · exact .inl ⟨h1, H', c1, c5.kp⟩
  · have he := lft_eq (v := .ptr yb 0) c5 c2 c6 (.inl (by simp [refs]))
    subst he
    exact .inr ⟨h1, H', yb, mb, c1, c2, h3, h4, h5⟩
theorem zdm {f n : Nat} {fn : AFunc} {args : List AV} {v : AV} (h0 : Has C f fn) (hlen : ([] ++ args ++ []).length ≤ fn.ntmps) (hv : refs v = [])
    (h : Does (ev C (Ev.call C n) ([] : List AB).length Option.none fn.body { tm := tmA fn.ntmps (zipI 0 args []), df := [], hp := [], tc := [] }) (Fin C ([] : List AB).length fn (Ans v))) : Ev.call C (n + 1) (.fn (.func f) [] []) args [] = Option.some (.ret v, [], []) := by
  obtain ⟨x, hp, tc, H', c1, ⟨rfl, rfl⟩, _, _, c7⟩ := zei (n := n) (first := []) (captured := []) (args := args) (H := []) k.calm h0 hlen (by simpa using h)
  rw [c1, c7 hv rfl]
omit k in
theorem way_q (hc : Clm.Fine c) {i : Nat} (hi : i < c.piles.length) {p : Int} (h0 : 0 ≤ p) (h5 : p ≤ 5) {counts : Nat} {w : Clm.Way} (hw : w ∈ Clm.ways c i p counts) : QOk ⟨i, w.size, p, 0⟩ := by
  obtain ⟨h1, _, _⟩ := (Clm.mem_ways hc hi h0 counts w).1 hw
  have hp := hc.pile _ (Clm.pile_mem hi)
  rw [Clm.mem_sizes] at h1
  simp only [Clm.Sp.has] at h1
  exact ⟨by simp only; omega, by simp only; omega, by simp only; omega, by simp only; omega, by simp only; omega, by simp only; omega, h0, h5⟩
theorem atL (n : Nat) (H : List AB) (m : Int) : Ev.call C (n + 1) (.fn (.func 40) [] []) [.int .i64 m] H = Option.some (.ret (.agg [.int .i64 m, .int .i64 m]), H, []) := zbm k.calm k.at_ (le' rfl) rfl (at_fun C _ H m)
omit k in
theorem zsz (C : Cfg) (call : CallF) (hSd : SodsC call) (hAt : ∀ H m, call (.fn (.func 40) [] []) [.int .i64 m] H = Option.some (.ret (.agg [.int .i64 m, .int .i64 m]), H, [])) (H : List AB) (n : Nat) (pack : Int) (w : Clm.Way) (hq : QOk ⟨n, w.size, pack, 0⟩) :
    Does (ev C call H.length Option.none af39.body { tm := tmA af39.ntmps (zipI 0 [.agg (wayCs n pack w)] []), df := [], hp := H, tc := [] })
      (Ends C H.length af39.res fun v _hp tc => v = spA (builtG pack w) ∧ tc = []) := by
  have hs := fun H => hSd H n w.size.l w.size.w w.size.h pack hq.l0 hq.l1 hq.w0 hq.w1 hq.h0 hq.h1 hq.p0 (by have := hq.p1; simp only at this; omega)
  have hg : builtG pack w = ⟨w.size.l * w.size.w * w.size.h * pack, w.size.l * w.size.w * w.size.h * pack⟩ := rfl
  rw [hg]
  have ha := fun H => hAt H (w.size.l * w.size.w * w.size.h * pack)
  have t0 := zdl (fun i => w.log.getD i ⟨0, 0⟩)
  unfold af39
  simp only [zipI, wayCs, List.cons_append, List.nil_append] at *
  generalize arr7 (fun i => w.log.getD i ⟨0, 0⟩) = R at *
  generalize w.size.l * w.size.w * w.size.h * pack = sd at *
  clear hSd hq hg hAt
  (repeat (first | (with_reducible apply zah; (focus ((conv => lhs; simp [Nat.testBit_eq_decide_div_mod_eq, *]) <;> exact rfl)); simp only [addFl]) | ((with_reducible first | apply zai | apply zak | apply zag | apply zae | apply zac | apply zaj | apply zaf | apply zam | (apply zad; · simp [zaa, *]) | (apply zab; · simp [zaa, *])); try simp only [Then, Ops]) | simp only [Nat.reduceEqDiff, reduceIte, OutB, Then]))
  refine zao (v := spA ⟨sd, sd⟩) (.inl rfl) rfl (by simp) (by simp only [resL, resOf, zal]; simp [resV, pickC, spA]) ⟨rfl, by simp⟩
theorem builtL (hbig : c.piles.length ≤ 1000000 ∧ c.events.length ≤ 1000000) (n : Nat) (num : Int) : Ev.call C (n + 14) (.fn (.func 10) [] []) [.agg (clampCs c), .int .i64 num] [] = Option.some (.ret (spanR c (isP c num) (Clm.ofAll c num.toNat builtG)), [], []) :=
  zdm k k.built (le' rfl) rfl (zsy C (n + 7) c k.dfBuilt (oneL k hbig (n + 2)) (fun hv => ofL k ((Clm.valid_iff c).1 hv) n) num (fun H yb mb i hi hv p hp G hG hY w hw =>
    zbd k.calm k.built2 (le' rfl) rfl (zsz C _ (sodsL k (n + 4)) (atL k (n + 5)) G i p w (by
      have hf := (Clm.valid_iff c).1 hv
      obtain ⟨q0, q1, _⟩ := zlf hf hp
      exact way_q hf hi q0 q1 hw))))
theorem hasL (hbig : c.piles.length ≤ 1000000 ∧ c.events.length ≤ 1000000) (n : Nat) (num : Int) : Ev.call C (n + 14) (.fn (.func 12) [] []) [.agg (clampCs c), .int .i64 num] [] = Option.some (.ret (spanR c (isP c num) (Clm.ofAll c num.toNat fun _ => Clm.leftW c)), [], []) :=
  zdm k k.has (le' rfl) rfl (zys C (n + 7) c k.dfHas (oneL k hbig (n + 2)) (fun hv => ofL k ((Clm.valid_iff c).1 hv) n) num (fun hv => leftL k ((Clm.valid_iff c).1 hv) (n + 6)))
theorem soldL (hbig : c.piles.length ≤ 1000000 ∧ c.events.length ≤ 1000000) (n : Nat) (num : Int) : Ev.call C (n + 14) (.fn (.func 13) [] []) [.agg (clampCs c), .int .i64 num] [] = Option.some (.ret (spanR c (isP c num) (Clm.ofAll c num.toNat (soldG c))), [], []) :=
  zdm k k.sold (le' rfl) rfl (ztr C (n + 7) c k.dfSold (oneL k hbig (n + 2)) (fun hv => ofL k ((Clm.valid_iff c).1 hv) n) num (fun H yb mb i b hb hbm hi hv p hp G hG hY w hw => by
    have hf := (Clm.valid_iff c).1 hv
    obtain ⟨q0, q1, _⟩ := zlf hf hp
    exact zbd (captured := [.ptr b 0]) k.calm k.sold2 (le' rfl) rfl (zts C _ c (sodsL k (n + 4)) G yb _ hY.y b (hG.at hb (by simpa using hbm)) i p w (way_q hf hi q0 q1 hw) ((Clm.way_low hf hi q0 q1 hw).1 _)
      (fun H' hy => zbd (first := []) (captured := []) k.calm k.left (le' rfl) rfl (zqi C _ c hf H' yb _ hy i p w)))))
theorem allL (hbig : c.piles.length ≤ 40 ∧ c.events.length ≤ 41) (n : Nat) : Ev.call C (n + 14) (.fn (.func 25) [] []) [.agg (clampCs c)] [] = Option.some (.ret (spanR c true (Clm.together c (fullP c))), [], []) :=
  zdm k k.all (le' rfl) rfl (zzl C _ (Ev.call C (n + 12)) c hbig.1 k.dfAll (alwaysL k (n + 11)) (headL k ⟨by omega, by omega⟩ (n + 3)) (fun hv => togL k ((Clm.valid_iff c).1 hv) n))
theorem enoughL (hbig : c.piles.length ≤ 40 ∧ c.events.length ≤ 41) (n : Nat) (num s : Int) : Ev.call C (n + 14) (.fn (.func 14) [] []) [.agg (clampCs c), .int .i64 num, .int .i64 s] [] = Option.some (.ret (numR c (isP c num && isS s) (enoughN (Clm.together c (2 ^ num.toNat)) s)), [], []) :=
  zdm k k.enough (le' rfl) rfl (zov C _ (Ev.call C (n + 12)) c k.dfEnough (headL k ⟨by omega, by omega⟩ (n + 3)) (fun hv => togL k ((Clm.valid_iff c).1 hv) n) num s (fun hv G yb mb hG hY =>
    zbd (captured := [.ptr 1 0, .ptr 2 0]) k.calm k.enough2 (le' rfl) rfl (zow C _ c (isPileL k ((Clm.valid_iff c).1 hv) (n + 9)) (areSodsL k (n + 9)) G yb _ hY.y num s 1 2 (hG.at rfl (by simp)) (hG.at rfl (by simp)))))
theorem emptyL (hbig : c.piles.length ≤ 40 ∧ c.events.length ≤ 41) (n : Nat) : Ev.call C (n + 14) (.fn (.func 26) [] []) [.agg (clampCs c)] [] = Option.some (.ret (emptyR c), [], []) :=
  zdm k k.empty (le' rfl) rfl (zss C k.calm _ (Ev.call C (n + 12)) c k.dfEmpty (alwaysL k (n + 11)) (headL k ⟨by omega, by omega⟩ (n + 3)) (fun hv => togL k ((Clm.valid_iff c).1 hv) n))
theorem firstL (n : Nat) : FirstC (Ev.call C (n + 2)) (Ev.call C n) c := by
  intro H yb mb hY fl fa fb p L hL hF
  obtain ⟨x, hp, tc, H', c1, ⟨c2, c3, c4, rfl⟩, c5, _, _⟩ := zei (n := n + 1) (first := []) (captured := []) (args := [.vs 1 (L.map setE), .agg [.fn fl fa fb]]) (H := H) k.calm k.first (le' rfl)
    (zsm C _ (Ev.call C n) (mustL k n) c (fun H yb mb hY F p L hL hF => zdn k.calm k.index (le' rfl) hY (zsg C k.calm _ c H yb mb hY F p L hL hF)) H yb mb hY fl fa fb p L hL hF)
  have hs := c5.same c3
  obtain ⟨es, m1, m2⟩ := hY.m
  obtain ⟨es2, m3, m4⟩ := c4.m
  exact ⟨H', tc, c2, ⟨c5.len, fun b hb ht => (hs b hb).trans (c3.get b hb ht)⟩, ⟨hY.ne, (hs _ (get_lt hY.y)).trans c4.y, es2, (hs _ (get_lt m1)).trans m3, m4⟩, c1⟩
theorem shareL (hbig : c.piles.length ≤ 40 ∧ c.events.length ≤ 41) (n : Nat) (s : Int) : Ev.call C (n + 17) (.fn (.func 15) [] []) [.agg (clampCs c), .int .i64 s] [] = Option.some (.ret (shareR c s), [], []) :=
  zdm k k.share (le' rfl) rfl (zrj C _ (Ev.call C (n + 14)) (Ev.call C (n + 15)) c k.dfShare (headL k ⟨by omega, by omega⟩ (n + 6)) (k.sets (n + 15)) (fun _ => firstL k (n + 14)) s
    (fun hv G yb mb hG hY => zbd (captured := [.ptr 1 0]) k.calm k.share2 (le' rfl) rfl (zrk C _ (areSodsL k (n + 12)) G _ s 1 (hG.at rfl (by simp))))
    (fun hv H yb mb b1 b2 h1 h2 n1 n2 L G hG hY set hs => zdn (captured := [.ptr b1 0, .ptr b2 0]) k.calm k.share3 (le' rfl) hY (znx C _ c (togL k ((Clm.valid_iff c).1 hv) n) G yb mb hY set s b1 b2 (hG.at h1 (by simpa using n1)) (hG.at h2 (by simpa using n2)) ⟨n1, n2⟩)))
theorem clashL (hbig : c.piles.length ≤ 40 ∧ c.events.length ≤ 41) (n : Nat) : Ev.call C (n + 14) (.fn (.func 16) [] []) [.agg (clampCs c)] [] = Option.some (.ret (clashR c), [], []) :=
  zdm k k.clash (le' rfl) rfl (zsx C k.calm _ (Ev.call C (n + 11)) (Ev.call C (n + 12)) (mustL k (n + 12)) c k.dfClash (alwaysL k (n + 11)) (openL k ⟨by omega, by omega⟩ (n + 10)) (fun hv => everyL k ((Clm.valid_iff c).1 hv) (n + 12)) (fun hv => canL k ((Clm.valid_iff c).1 hv) (n + 4)) (k.sets (n + 12)) (fun _ => firstL k (n + 11))
    (fun hv H yb mb b1 b2 h1 h2 n1 n2 G hG hY set hs => zdn (captured := [.ptr b1 0, .ptr b2 0]) k.calm k.clash2 (le' rfl) hY (zoz C _ c ((Clm.valid_iff c).1 hv).events (canL k ((Clm.valid_iff c).1 hv) (n + 1)) G yb mb hY set ((Clm.mem_sets ((Clm.valid_iff c).1 hv).events set).1 hs) b1 b2 (hG.at h1 (by simpa using n1)) (hG.at h2 (by simpa using n2)))))
end
end K
end Ev
end Go.Proofs.Ytimgnlellflciaa

/- Package clamp: its sets, in order, found by the evaluator. -/
namespace Go.Proofs.Ytimgnlellflciaa
open Go Go.Proofs
namespace Ev
namespace K
set_option maxRecDepth 100000
noncomputable def cfgS : Cfg where
  fns := FT.find fnTree
  glob := fun _ => none
  dfk := fun _ => none
  ext := fun _ => none
  gcAt := 20
  whole := fun _ => true
noncomputable def eqCs : List AV → List Nat → Bool := fun l => List.rec (motive := fun _ => List Nat → Bool) (fun m => List.rec true (fun _ _ _ => false) m)
  (fun v _ ih m => List.rec (motive := fun _ => Bool) false (fun b m' _ => match v with | .int .u64 (.ofNat a) => Q.andB (Nat.beq a b) (ih m') | _ => false) m) l
noncomputable def setsB (k : Nat) (r : Q.R) : Bool := match r with
  | .cret (.sl b 0 n 1) hp m _ => Q.andB (Nat.beq n (2 ^ k)) (match (Q.listH m hp)[b]? with | some (.cells cs) => eqCs cs (Clm.setsBy k) | _ => false)
  | _ => false
theorem sets_0 : setsB 0 (Q.callQ cfgS 30 (.fn (.func 57) [] []) [.int .i64 0] (.e Q.cap) 0) = true := by kernel_rfl
theorem sets_1 : setsB 1 (Q.callQ cfgS 30 (.fn (.func 57) [] []) [.int .i64 1] (.e Q.cap) 0) = true := by kernel_rfl
theorem sets_2 : setsB 2 (Q.callQ cfgS 30 (.fn (.func 57) [] []) [.int .i64 2] (.e Q.cap) 0) = true := by kernel_rfl
theorem sets_3 : setsB 3 (Q.callQ cfgS 30 (.fn (.func 57) [] []) [.int .i64 3] (.e Q.cap) 0) = true := by kernel_rfl
theorem sets_4 : setsB 4 (Q.callQ cfgS 30 (.fn (.func 57) [] []) [.int .i64 4] (.e Q.cap) 0) = true := by kernel_rfl
theorem sets_5 : setsB 5 (Q.callQ cfgS 30 (.fn (.func 57) [] []) [.int .i64 5] (.e Q.cap) 0) = true := by kernel_rfl
theorem sets_6 : setsB 6 (Q.callQ cfgS 30 (.fn (.func 57) [] []) [.int .i64 6] (.e Q.cap) 0) = true := by kernel_rfl
end K
end Ev
end Go.Proofs.Ytimgnlellflciaa

/- The code of the evaluator is that of the program (part 1). Printed by program. -/
namespace Go.Proofs.Ytimgnlellflciaa
open Go Go.Proofs
namespace Ev
set_option maxRecDepth 1000000
theorem is10 : ∃ F, Try.prog.funcs[10]? = some F ∧ (F.name == "runtime.NumGoroutine") = false ∧ compFn Try.prog F = some af10.strip := ⟨_, Try.func10, by kernel_rfl, by kernel_rfl⟩
theorem is12 : ∃ F, Try.prog.funcs[12]? = some F ∧ (F.name == "runtime.NumGoroutine") = false ∧ compFn Try.prog F = some af12.strip := ⟨_, Try.func12, by kernel_rfl, by kernel_rfl⟩
theorem is14 : ∃ F, Try.prog.funcs[14]? = some F ∧ (F.name == "runtime.NumGoroutine") = false ∧ compFn Try.prog F = some af14.strip := ⟨_, Try.func14, by kernel_rfl, by kernel_rfl⟩
theorem is15 : ∃ F, Try.prog.funcs[15]? = some F ∧ (F.name == "runtime.NumGoroutine") = false ∧ compFn Try.prog F = some af15.strip := ⟨_, Try.func15, by kernel_rfl, by kernel_rfl⟩
theorem is21 : ∃ F, Try.prog.funcs[21]? = some F ∧ (F.name == "runtime.NumGoroutine") = false ∧ compFn Try.prog F = some af21.strip := ⟨_, Try.func21, by kernel_rfl, by kernel_rfl⟩
theorem is25 : ∃ F, Try.prog.funcs[25]? = some F ∧ (F.name == "runtime.NumGoroutine") = false ∧ compFn Try.prog F = some af25.strip := ⟨_, Try.func25, by kernel_rfl, by kernel_rfl⟩
theorem is35 : ∃ F, Try.prog.funcs[35]? = some F ∧ (F.name == "runtime.NumGoroutine") = false ∧ compFn Try.prog F = some af35.strip := ⟨_, Try.func35, by kernel_rfl, by kernel_rfl⟩
theorem is39 : ∃ F, Try.prog.funcs[39]? = some F ∧ (F.name == "runtime.NumGoroutine") = false ∧ compFn Try.prog F = some af39.strip := ⟨_, Try.func39, by kernel_rfl, by kernel_rfl⟩
theorem is43 : ∃ F, Try.prog.funcs[43]? = some F ∧ (F.name == "runtime.NumGoroutine") = false ∧ compFn Try.prog F = some af43.strip := ⟨_, Try.func43, by kernel_rfl, by kernel_rfl⟩
theorem is44 : ∃ F, Try.prog.funcs[44]? = some F ∧ (F.name == "runtime.NumGoroutine") = false ∧ compFn Try.prog F = some af44.strip := ⟨_, Try.func44, by kernel_rfl, by kernel_rfl⟩
theorem is45 : ∃ F, Try.prog.funcs[45]? = some F ∧ (F.name == "runtime.NumGoroutine") = false ∧ compFn Try.prog F = some af45.strip := ⟨_, Try.func45, by kernel_rfl, by kernel_rfl⟩
theorem is46 : ∃ F, Try.prog.funcs[46]? = some F ∧ (F.name == "runtime.NumGoroutine") = false ∧ compFn Try.prog F = some af46.strip := ⟨_, Try.func46, by kernel_rfl, by kernel_rfl⟩
theorem is48 : ∃ F, Try.prog.funcs[48]? = some F ∧ (F.name == "runtime.NumGoroutine") = false ∧ compFn Try.prog F = some af48.strip := ⟨_, Try.func48, by kernel_rfl, by kernel_rfl⟩
theorem is49 : ∃ F, Try.prog.funcs[49]? = some F ∧ (F.name == "runtime.NumGoroutine") = false ∧ compFn Try.prog F = some af49.strip := ⟨_, Try.func49, by kernel_rfl, by kernel_rfl⟩
theorem is51 : ∃ F, Try.prog.funcs[51]? = some F ∧ (F.name == "runtime.NumGoroutine") = false ∧ compFn Try.prog F = some af51.strip := ⟨_, Try.func51, by kernel_rfl, by kernel_rfl⟩
theorem is55 : ∃ F, Try.prog.funcs[55]? = some F ∧ (F.name == "runtime.NumGoroutine") = false ∧ compFn Try.prog F = some af55.strip := ⟨_, Try.func55, by kernel_rfl, by kernel_rfl⟩
theorem is57 : ∃ F, Try.prog.funcs[57]? = some F ∧ (F.name == "runtime.NumGoroutine") = false ∧ compFn Try.prog F = some af57.strip := ⟨_, Try.func57, by kernel_rfl, by kernel_rfl⟩
theorem is59 : ∃ F, Try.prog.funcs[59]? = some F ∧ (F.name == "runtime.NumGoroutine") = false ∧ compFn Try.prog F = some af59.strip := ⟨_, Try.func59, by kernel_rfl, by kernel_rfl⟩
theorem is62 : ∃ F, Try.prog.funcs[62]? = some F ∧ (F.name == "runtime.NumGoroutine") = false ∧ compFn Try.prog F = some af62.strip := ⟨_, Try.func62, by kernel_rfl, by kernel_rfl⟩
theorem is76 : ∃ F, Try.prog.funcs[76]? = some F ∧ (F.name == "runtime.NumGoroutine") = false ∧ compFn Try.prog F = some af76.strip := ⟨_, Try.func76, by kernel_rfl, by kernel_rfl⟩
theorem is84 : ∃ F, Try.prog.funcs[84]? = some F ∧ (F.name == "runtime.NumGoroutine") = false ∧ compFn Try.prog F = some af84.strip := ⟨_, Try.func84, by kernel_rfl, by kernel_rfl⟩
theorem is90 : ∃ F, Try.prog.funcs[90]? = some F ∧ (F.name == "runtime.NumGoroutine") = false ∧ compFn Try.prog F = some af90.strip := ⟨_, Try.func90, by kernel_rfl, by kernel_rfl⟩
theorem is91 : ∃ F, Try.prog.funcs[91]? = some F ∧ (F.name == "runtime.NumGoroutine") = false ∧ compFn Try.prog F = some af91.strip := ⟨_, Try.func91, by kernel_rfl, by kernel_rfl⟩
theorem is92 : ∃ F, Try.prog.funcs[92]? = some F ∧ (F.name == "runtime.NumGoroutine") = false ∧ compFn Try.prog F = some af92.strip := ⟨_, Try.func92, by kernel_rfl, by kernel_rfl⟩
theorem is96 : ∃ F, Try.prog.funcs[96]? = some F ∧ (F.name == "runtime.NumGoroutine") = false ∧ compFn Try.prog F = some af96.strip := ⟨_, Try.func96, by kernel_rfl, by kernel_rfl⟩
theorem is99 : ∃ F, Try.prog.funcs[99]? = some F ∧ (F.name == "runtime.NumGoroutine") = false ∧ compFn Try.prog F = some af99.strip := ⟨_, Try.func99, by kernel_rfl, by kernel_rfl⟩
theorem is119 : ∃ F, Try.prog.funcs[119]? = some F ∧ (F.name == "runtime.NumGoroutine") = false ∧ compFn Try.prog F = some af119.strip := ⟨_, Try.func119, by kernel_rfl, by kernel_rfl⟩
end Ev
end Go.Proofs.Ytimgnlellflciaa

/- The code of the evaluator is that of the program (part 2). Printed by program. -/
namespace Go.Proofs.Ytimgnlellflciaa
open Go Go.Proofs
namespace Ev
set_option maxRecDepth 1000000
theorem is11 : ∃ F, Try.prog.funcs[11]? = some F ∧ (F.name == "runtime.NumGoroutine") = false ∧ compFn Try.prog F = some af11.strip := ⟨_, Try.func11, by kernel_rfl, by kernel_rfl⟩
theorem is16 : ∃ F, Try.prog.funcs[16]? = some F ∧ (F.name == "runtime.NumGoroutine") = false ∧ compFn Try.prog F = some af16.strip := ⟨_, Try.func16, by kernel_rfl, by kernel_rfl⟩
theorem is18 : ∃ F, Try.prog.funcs[18]? = some F ∧ (F.name == "runtime.NumGoroutine") = false ∧ compFn Try.prog F = some af18.strip := ⟨_, Try.func18, by kernel_rfl, by kernel_rfl⟩
theorem is19 : ∃ F, Try.prog.funcs[19]? = some F ∧ (F.name == "runtime.NumGoroutine") = false ∧ compFn Try.prog F = some af19.strip := ⟨_, Try.func19, by kernel_rfl, by kernel_rfl⟩
theorem is26 : ∃ F, Try.prog.funcs[26]? = some F ∧ (F.name == "runtime.NumGoroutine") = false ∧ compFn Try.prog F = some af26.strip := ⟨_, Try.func26, by kernel_rfl, by kernel_rfl⟩
theorem is37 : ∃ F, Try.prog.funcs[37]? = some F ∧ (F.name == "runtime.NumGoroutine") = false ∧ compFn Try.prog F = some af37.strip := ⟨_, Try.func37, by kernel_rfl, by kernel_rfl⟩
theorem is38 : ∃ F, Try.prog.funcs[38]? = some F ∧ (F.name == "runtime.NumGoroutine") = false ∧ compFn Try.prog F = some af38.strip := ⟨_, Try.func38, by kernel_rfl, by kernel_rfl⟩
theorem is40 : ∃ F, Try.prog.funcs[40]? = some F ∧ (F.name == "runtime.NumGoroutine") = false ∧ compFn Try.prog F = some af40.strip := ⟨_, Try.func40, by kernel_rfl, by kernel_rfl⟩
theorem is47 : ∃ F, Try.prog.funcs[47]? = some F ∧ (F.name == "runtime.NumGoroutine") = false ∧ compFn Try.prog F = some af47.strip := ⟨_, Try.func47, by kernel_rfl, by kernel_rfl⟩
theorem is50 : ∃ F, Try.prog.funcs[50]? = some F ∧ (F.name == "runtime.NumGoroutine") = false ∧ compFn Try.prog F = some af50.strip := ⟨_, Try.func50, by kernel_rfl, by kernel_rfl⟩
theorem is56 : ∃ F, Try.prog.funcs[56]? = some F ∧ (F.name == "runtime.NumGoroutine") = false ∧ compFn Try.prog F = some af56.strip := ⟨_, Try.func56, by kernel_rfl, by kernel_rfl⟩
theorem is63 : ∃ F, Try.prog.funcs[63]? = some F ∧ (F.name == "runtime.NumGoroutine") = false ∧ compFn Try.prog F = some af63.strip := ⟨_, Try.func63, by kernel_rfl, by kernel_rfl⟩
theorem is64 : ∃ F, Try.prog.funcs[64]? = some F ∧ (F.name == "runtime.NumGoroutine") = false ∧ compFn Try.prog F = some af64.strip := ⟨_, Try.func64, by kernel_rfl, by kernel_rfl⟩
theorem is66 : ∃ F, Try.prog.funcs[66]? = some F ∧ (F.name == "runtime.NumGoroutine") = false ∧ compFn Try.prog F = some af66.strip := ⟨_, Try.func66, by kernel_rfl, by kernel_rfl⟩
theorem is67 : ∃ F, Try.prog.funcs[67]? = some F ∧ (F.name == "runtime.NumGoroutine") = false ∧ compFn Try.prog F = some af67.strip := ⟨_, Try.func67, by kernel_rfl, by kernel_rfl⟩
theorem is69 : ∃ F, Try.prog.funcs[69]? = some F ∧ (F.name == "runtime.NumGoroutine") = false ∧ compFn Try.prog F = some af69.strip := ⟨_, Try.func69, by kernel_rfl, by kernel_rfl⟩
theorem is71 : ∃ F, Try.prog.funcs[71]? = some F ∧ (F.name == "runtime.NumGoroutine") = false ∧ compFn Try.prog F = some af71.strip := ⟨_, Try.func71, by kernel_rfl, by kernel_rfl⟩
theorem is73 : ∃ F, Try.prog.funcs[73]? = some F ∧ (F.name == "runtime.NumGoroutine") = false ∧ compFn Try.prog F = some af73.strip := ⟨_, Try.func73, by kernel_rfl, by kernel_rfl⟩
theorem is75 : ∃ F, Try.prog.funcs[75]? = some F ∧ (F.name == "runtime.NumGoroutine") = false ∧ compFn Try.prog F = some af75.strip := ⟨_, Try.func75, by kernel_rfl, by kernel_rfl⟩
theorem is77 : ∃ F, Try.prog.funcs[77]? = some F ∧ (F.name == "runtime.NumGoroutine") = false ∧ compFn Try.prog F = some af77.strip := ⟨_, Try.func77, by kernel_rfl, by kernel_rfl⟩
theorem is78 : ∃ F, Try.prog.funcs[78]? = some F ∧ (F.name == "runtime.NumGoroutine") = false ∧ compFn Try.prog F = some af78.strip := ⟨_, Try.func78, by kernel_rfl, by kernel_rfl⟩
theorem is82 : ∃ F, Try.prog.funcs[82]? = some F ∧ (F.name == "runtime.NumGoroutine") = false ∧ compFn Try.prog F = some af82.strip := ⟨_, Try.func82, by kernel_rfl, by kernel_rfl⟩
theorem is83 : ∃ F, Try.prog.funcs[83]? = some F ∧ (F.name == "runtime.NumGoroutine") = false ∧ compFn Try.prog F = some af83.strip := ⟨_, Try.func83, by kernel_rfl, by kernel_rfl⟩
theorem is85 : ∃ F, Try.prog.funcs[85]? = some F ∧ (F.name == "runtime.NumGoroutine") = false ∧ compFn Try.prog F = some af85.strip := ⟨_, Try.func85, by kernel_rfl, by kernel_rfl⟩
theorem is87 : ∃ F, Try.prog.funcs[87]? = some F ∧ (F.name == "runtime.NumGoroutine") = false ∧ compFn Try.prog F = some af87.strip := ⟨_, Try.func87, by kernel_rfl, by kernel_rfl⟩
theorem is88 : ∃ F, Try.prog.funcs[88]? = some F ∧ (F.name == "runtime.NumGoroutine") = false ∧ compFn Try.prog F = some af88.strip := ⟨_, Try.func88, by kernel_rfl, by kernel_rfl⟩
theorem is93 : ∃ F, Try.prog.funcs[93]? = some F ∧ (F.name == "runtime.NumGoroutine") = false ∧ compFn Try.prog F = some af93.strip := ⟨_, Try.func93, by kernel_rfl, by kernel_rfl⟩
theorem is95 : ∃ F, Try.prog.funcs[95]? = some F ∧ (F.name == "runtime.NumGoroutine") = false ∧ compFn Try.prog F = some af95.strip := ⟨_, Try.func95, by kernel_rfl, by kernel_rfl⟩
theorem is98 : ∃ F, Try.prog.funcs[98]? = some F ∧ (F.name == "runtime.NumGoroutine") = false ∧ compFn Try.prog F = some af98.strip := ⟨_, Try.func98, by kernel_rfl, by kernel_rfl⟩
theorem is100 : ∃ F, Try.prog.funcs[100]? = some F ∧ (F.name == "runtime.NumGoroutine") = false ∧ compFn Try.prog F = some af100.strip := ⟨_, Try.func100, by kernel_rfl, by kernel_rfl⟩
theorem is117 : ∃ F, Try.prog.funcs[117]? = some F ∧ (F.name == "runtime.NumGoroutine") = false ∧ compFn Try.prog F = some af117.strip := ⟨_, Try.func117, by kernel_rfl, by kernel_rfl⟩
end Ev
end Go.Proofs.Ytimgnlellflciaa

/- The code of the evaluator is that of the program (part 3). Printed by program. -/
namespace Go.Proofs.Ytimgnlellflciaa
open Go Go.Proofs
namespace Ev
set_option maxRecDepth 1000000
theorem is13 : ∃ F, Try.prog.funcs[13]? = some F ∧ (F.name == "runtime.NumGoroutine") = false ∧ compFn Try.prog F = some af13.strip := ⟨_, Try.func13, by kernel_rfl, by kernel_rfl⟩
theorem is17 : ∃ F, Try.prog.funcs[17]? = some F ∧ (F.name == "runtime.NumGoroutine") = false ∧ compFn Try.prog F = some af17.strip := ⟨_, Try.func17, by kernel_rfl, by kernel_rfl⟩
theorem is20 : ∃ F, Try.prog.funcs[20]? = some F ∧ (F.name == "runtime.NumGoroutine") = false ∧ compFn Try.prog F = some af20.strip := ⟨_, Try.func20, by kernel_rfl, by kernel_rfl⟩
theorem is22 : ∃ F, Try.prog.funcs[22]? = some F ∧ (F.name == "runtime.NumGoroutine") = false ∧ compFn Try.prog F = some af22.strip := ⟨_, Try.func22, by kernel_rfl, by kernel_rfl⟩
theorem is29 : ∃ F, Try.prog.funcs[29]? = some F ∧ (F.name == "runtime.NumGoroutine") = false ∧ compFn Try.prog F = some af29.strip := ⟨_, Try.func29, by kernel_rfl, by kernel_rfl⟩
theorem is34 : ∃ F, Try.prog.funcs[34]? = some F ∧ (F.name == "runtime.NumGoroutine") = false ∧ compFn Try.prog F = some af34.strip := ⟨_, Try.func34, by kernel_rfl, by kernel_rfl⟩
theorem is41 : ∃ F, Try.prog.funcs[41]? = some F ∧ (F.name == "runtime.NumGoroutine") = false ∧ compFn Try.prog F = some af41.strip := ⟨_, Try.func41, by kernel_rfl, by kernel_rfl⟩
theorem is42 : ∃ F, Try.prog.funcs[42]? = some F ∧ (F.name == "runtime.NumGoroutine") = false ∧ compFn Try.prog F = some af42.strip := ⟨_, Try.func42, by kernel_rfl, by kernel_rfl⟩
theorem is52 : ∃ F, Try.prog.funcs[52]? = some F ∧ (F.name == "runtime.NumGoroutine") = false ∧ compFn Try.prog F = some af52.strip := ⟨_, Try.func52, by kernel_rfl, by kernel_rfl⟩
theorem is53 : ∃ F, Try.prog.funcs[53]? = some F ∧ (F.name == "runtime.NumGoroutine") = false ∧ compFn Try.prog F = some af53.strip := ⟨_, Try.func53, by kernel_rfl, by kernel_rfl⟩
theorem is54 : ∃ F, Try.prog.funcs[54]? = some F ∧ (F.name == "runtime.NumGoroutine") = false ∧ compFn Try.prog F = some af54.strip := ⟨_, Try.func54, by kernel_rfl, by kernel_rfl⟩
theorem is58 : ∃ F, Try.prog.funcs[58]? = some F ∧ (F.name == "runtime.NumGoroutine") = false ∧ compFn Try.prog F = some af58.strip := ⟨_, Try.func58, by kernel_rfl, by kernel_rfl⟩
theorem is60 : ∃ F, Try.prog.funcs[60]? = some F ∧ (F.name == "runtime.NumGoroutine") = false ∧ compFn Try.prog F = some af60.strip := ⟨_, Try.func60, by kernel_rfl, by kernel_rfl⟩
theorem is61 : ∃ F, Try.prog.funcs[61]? = some F ∧ (F.name == "runtime.NumGoroutine") = false ∧ compFn Try.prog F = some af61.strip := ⟨_, Try.func61, by kernel_rfl, by kernel_rfl⟩
theorem is65 : ∃ F, Try.prog.funcs[65]? = some F ∧ (F.name == "runtime.NumGoroutine") = false ∧ compFn Try.prog F = some af65.strip := ⟨_, Try.func65, by kernel_rfl, by kernel_rfl⟩
theorem is70 : ∃ F, Try.prog.funcs[70]? = some F ∧ (F.name == "runtime.NumGoroutine") = false ∧ compFn Try.prog F = some af70.strip := ⟨_, Try.func70, by kernel_rfl, by kernel_rfl⟩
theorem is72 : ∃ F, Try.prog.funcs[72]? = some F ∧ (F.name == "runtime.NumGoroutine") = false ∧ compFn Try.prog F = some af72.strip := ⟨_, Try.func72, by kernel_rfl, by kernel_rfl⟩
theorem is74 : ∃ F, Try.prog.funcs[74]? = some F ∧ (F.name == "runtime.NumGoroutine") = false ∧ compFn Try.prog F = some af74.strip := ⟨_, Try.func74, by kernel_rfl, by kernel_rfl⟩
theorem is79 : ∃ F, Try.prog.funcs[79]? = some F ∧ (F.name == "runtime.NumGoroutine") = false ∧ compFn Try.prog F = some af79.strip := ⟨_, Try.func79, by kernel_rfl, by kernel_rfl⟩
theorem is80 : ∃ F, Try.prog.funcs[80]? = some F ∧ (F.name == "runtime.NumGoroutine") = false ∧ compFn Try.prog F = some af80.strip := ⟨_, Try.func80, by kernel_rfl, by kernel_rfl⟩
theorem is81 : ∃ F, Try.prog.funcs[81]? = some F ∧ (F.name == "runtime.NumGoroutine") = false ∧ compFn Try.prog F = some af81.strip := ⟨_, Try.func81, by kernel_rfl, by kernel_rfl⟩
theorem is86 : ∃ F, Try.prog.funcs[86]? = some F ∧ (F.name == "runtime.NumGoroutine") = false ∧ compFn Try.prog F = some af86.strip := ⟨_, Try.func86, by kernel_rfl, by kernel_rfl⟩
theorem is89 : ∃ F, Try.prog.funcs[89]? = some F ∧ (F.name == "runtime.NumGoroutine") = false ∧ compFn Try.prog F = some af89.strip := ⟨_, Try.func89, by kernel_rfl, by kernel_rfl⟩
theorem is94 : ∃ F, Try.prog.funcs[94]? = some F ∧ (F.name == "runtime.NumGoroutine") = false ∧ compFn Try.prog F = some af94.strip := ⟨_, Try.func94, by kernel_rfl, by kernel_rfl⟩
theorem is97 : ∃ F, Try.prog.funcs[97]? = some F ∧ (F.name == "runtime.NumGoroutine") = false ∧ compFn Try.prog F = some af97.strip := ⟨_, Try.func97, by kernel_rfl, by kernel_rfl⟩
theorem is101 : ∃ F, Try.prog.funcs[101]? = some F ∧ (F.name == "runtime.NumGoroutine") = false ∧ compFn Try.prog F = some af101.strip := ⟨_, Try.func101, by kernel_rfl, by kernel_rfl⟩
theorem is118 : ∃ F, Try.prog.funcs[118]? = some F ∧ (F.name == "runtime.NumGoroutine") = false ∧ compFn Try.prog F = some af118.strip := ⟨_, Try.func118, by kernel_rfl, by kernel_rfl⟩
theorem is120 : ∃ F, Try.prog.funcs[120]? = some F ∧ (F.name == "runtime.NumGoroutine") = false ∧ compFn Try.prog F = some af120.strip := ⟨_, Try.func120, by kernel_rfl, by kernel_rfl⟩
end Ev
end Go.Proofs.Ytimgnlellflciaa

/- The table of the evaluator is that of the program. Printed by program. -/
namespace Go.Proofs.Ytimgnlellflciaa
open Go Go.Proofs
namespace Ev
def FT.All (p : Nat → AFunc → Prop) : FT → Prop
  | .leaf => True
  | .node k f l r => p k f ∧ (FT.All p l ∧ FT.All p r)
theorem FT.find_all {p : Nat → AFunc → Prop} : ∀ {t : FT} {n : Nat} {f : AFunc}, FT.All p t → FT.find t n = some f → p n f
  | .leaf, n, f, _, h => by cases h
  | .node k g l r, n, f, ha, h => by
    have e : FT.find (.node k g l r) n = (Bool.rec (Bool.rec (FT.find r n) (FT.find l n) (Nat.ble (Nat.succ n) k)) (some g) (Nat.beq n k) : Option AFunc) := rfl
    rw [e] at h
    cases hb : Nat.beq n k with
    | true => rw [hb] at h; cases h; rw [Nat.eq_of_beq_eq_true hb]; exact ha.1
    | false =>
      rw [hb] at h
      cases hc : Nat.ble (Nat.succ n) k with
      | true => rw [hc] at h; exact FT.find_all ha.2.1 h
      | false => rw [hc] at h; exact FT.find_all ha.2.2 h
theorem znv : FT.All (fun k af => ∃ F, Try.prog.funcs[k]? = some F ∧ (F.name == "runtime.NumGoroutine") = false ∧ compFn Try.prog F = some af.strip) fnTree :=
  ⟨is62, ⟨is40, ⟨is20, ⟨is15, ⟨is12, ⟨is11, ⟨is10, trivial, trivial⟩, trivial⟩, ⟨is14, ⟨is13, trivial, trivial⟩, trivial⟩⟩, ⟨is18, ⟨is17, ⟨is16, trivial, trivial⟩, trivial⟩, ⟨is19, trivial, trivial⟩⟩⟩, ⟨is34, ⟨is25, ⟨is22, ⟨is21, trivial, trivial⟩, trivial⟩, ⟨is29, ⟨is26, trivial, trivial⟩, trivial⟩⟩, ⟨is38, ⟨is37, ⟨is35, trivial, trivial⟩, trivial⟩, ⟨is39, trivial, trivial⟩⟩⟩⟩, ⟨is51, ⟨is46, ⟨is43, ⟨is42, ⟨is41, trivial, trivial⟩, trivial⟩, ⟨is45, ⟨is44, trivial, trivial⟩, trivial⟩⟩, ⟨is49, ⟨is48, ⟨is47, trivial, trivial⟩, trivial⟩, ⟨is50, trivial, trivial⟩⟩⟩, ⟨is57, ⟨is54, ⟨is53, ⟨is52, trivial, trivial⟩, trivial⟩, ⟨is56, ⟨is55, trivial, trivial⟩, trivial⟩⟩, ⟨is60, ⟨is59, ⟨is58, trivial, trivial⟩, trivial⟩, ⟨is61, trivial, trivial⟩⟩⟩⟩⟩, ⟨is85, ⟨is74, ⟨is69, ⟨is65, ⟨is64, ⟨is63, trivial, trivial⟩, trivial⟩, ⟨is67, ⟨is66, trivial, trivial⟩, trivial⟩⟩, ⟨is72, ⟨is71, ⟨is70, trivial, trivial⟩, trivial⟩, ⟨is73, trivial, trivial⟩⟩⟩, ⟨is80, ⟨is77, ⟨is76, ⟨is75, trivial, trivial⟩, trivial⟩, ⟨is79, ⟨is78, trivial, trivial⟩, trivial⟩⟩, ⟨is83, ⟨is82, ⟨is81, trivial, trivial⟩, trivial⟩, ⟨is84, trivial, trivial⟩⟩⟩⟩, ⟨is96, ⟨is91, ⟨is88, ⟨is87, ⟨is86, trivial, trivial⟩, trivial⟩, ⟨is90, ⟨is89, trivial, trivial⟩, trivial⟩⟩, ⟨is94, ⟨is93, ⟨is92, trivial, trivial⟩, trivial⟩, ⟨is95, trivial, trivial⟩⟩⟩, ⟨is101, ⟨is99, ⟨is98, ⟨is97, trivial, trivial⟩, trivial⟩, ⟨is100, trivial, trivial⟩⟩, ⟨is119, ⟨is118, ⟨is117, trivial, trivial⟩, trivial⟩, ⟨is120, trivial, trivial⟩⟩⟩⟩⟩⟩
end Ev
end Go.Proofs.Ytimgnlellflciaa

/- A deferred function that recovers, and hands on to another one. -/
namespace Go.Proofs.Ytimgnlellflciaa
open Go Go.RowKit
section
variable {P : Program} {n : Nat} {Q : Exit → Act → List Frame → World → Prop} {a : Act} {cs cs' : List Frame} {w : World}

theorem zfp {id : Nat} {ops : Array Oper} {o : Oper} {rest : List Nat} {v : Value} (hl : List.range ops.size = 0 :: rest) (ho : ops[0]? = some o) (hg : Region.wanted o (yielded ops a.tmps) = true)
    (hrun : (execOp a.eval o).run P w = .ok .recover w) (hrec : recoverD cs = some (v, cs') ∨ (recoverD cs = none ∧ v = .nilIface ∧ cs' = cs))
    (h : wpOpsIn Fence.wide n P ops (fun e a' w' => Q e a' cs' w') rest (a.put o.dst v) w) : (Code.region id ops false).wpSIn Fence.wide n P Q a cs w := by
  intro b k hb hro hF hroom
  have hlen : cs'.length = cs.length := by
    rcases hrec with h | ⟨_, _, h⟩
    · exact recoverD_length h
    · rw [h]
  obtain ⟨e, a', w', hq, harr⟩ := wp_opsIn rest _ _ h b k cs' hro hF (by rw [hlen]; exact hroom)
  have h0 : (lone (b.atR a (.inRegion ops (0 :: rest) :: k)) cs w).fenced P Fence.wide := fenced_oper hF hroom ho fun _ _ => trivial
  have hgo := stepGR_op (P := P) (b := b) (k := k) (cs := cs) (w := w) (rest := rest) ho hg
  rw [hro, Oper.semAt_none] at hgo
  have hfin : ∀ v, (b.atR a (.inRegion ops (0 :: rest) :: k)).finish v = b.atR (a.put o.dst v) (.inRegion ops rest :: k) := by
    intro v; rw [Frame.finish_atR, ho]; rfl
  have hk : (b.atR a (.inRegion ops (0 :: rest) :: k)).kind = .deferred := hb
  have htr := tryRecover_deferred hk cs
  refine ⟨e, a', cs', w', hlen, hq, .of_steps (.head (fenced_calm hF hroom rfl) (stepR_region) (.one (by rw [hl]; exact h0) (step_lone_go ?_))) harr⟩
  rw [hl, hgo, ← hfin]
  rcases hrec with hrec | ⟨hrec, rfl, rfl⟩
  · simp only [Frame.atR, hro] at htr ⊢
    simp [stepG.apply, hrun, htr, hrec]
  · simp only [Frame.atR, hro] at htr ⊢
    simp [stepG.apply, hrun, htr, hrec]
end
end Go.Proofs.Ytimgnlellflciaa

/- Contracts of stopped. -/
namespace Go.Proofs.Ytimgnlellflciaa
open Go Go.Proofs Go.RowKit
set_option maxHeartbeats 400000 in
set_option maxRecDepth 100000 in
theorem zkx (B off : Nat) (y : Value) (k : IntKind) (n : Int) (W : World) (hc : W.cell? ⟨B, off, none⟩ = some y) (hz : W.frozen? ⟨B, off, none⟩ = false) :
    Calls Try.prog 36 #[.iface 102 (.agg #[.int k n]), .pointer (some ⟨B, off, none⟩)] W fun e W' => e = .returned (.tuple #[]) ∧ Below W.heap.size (W.setCell ⟨B, off, none⟩ (.int k n)) W' := by
  have hta : ∀ w : World, (Instr.typeAssert (.iface 102 (.agg #[.int k n])) 20 102 true).run Try.prog w = .ok (.tuple #[.agg #[.int k n], .bool true]) w := fun _ => by kernel_rfl
  have hlt : B < W.heap.size := by
    unfold World.cell? at hc
    cases hb : W.heap[B]? with
    | none => simp [hb] at hc
    | some x => exact (Array.getElem?_eq_some_iff.1 hb).1
  have hca : ∀ o, (W.alloc o).cell? ⟨B, off, none⟩ = some y := fun o => (World.cell?_of_block (Below.heap_alloc W o B hlt)).trans hc
  have hza : ∀ o, (W.alloc o).frozen? ⟨B, off, none⟩ = false := fun o => (World.frozen?_of_block (Below.heap_alloc W o B hlt)).trans hz
  have hbel : ∀ o, Below W.heap.size (W.setCell ⟨B, off, none⟩ (.int k n)) ((W.alloc o).setCell ⟨B, off, none⟩ (.int k n)) := fun o => by
    refine ⟨rfl, rfl, rfl, by simp, fun i hi => ?_⟩
    simp only [World.setCell, Array.getElem?_modify]
    rw [Below.heap_alloc W o i hi]
  clear hc hz hlt
  go_enter Try.func36, Try.ntmps36
  go_wp2
  exact ⟨rfl, _, results_none rfl _ _ _, rfl, hbel _⟩
theorem zlz (x : Value) (W : World) : Calls Try.prog 36 #[.nilIface, x] W fun e W' => e = .returned (.tuple #[]) ∧ Below W.heap.size W W' := by
  go_enter Try.func36, Try.ntmps36
  go_wp2
  exact ⟨rfl, _, results_none rfl _ _ _, rfl, Below.refl _ _⟩

theorem zbl {f : Nat} {fn : Func} {id : Nat} {ops : Array Oper} {o0 o1 : Oper} (hf : Try.prog.funcs[f]? = some fn) (hb : fn.body = some (.region id ops false)) (hn : fn.ntmps = 3) (hr : fn.results = #[]) (_hnm : (fn.name == "runtime.NumGoroutine") = false)
    (ho : ops = #[o0, o1]) (h0 : o0.op = .call { callee := .builtin .recover, args := #[], argTypes := #[] }) (hd0 : o0.dst = some 1) (hg0 : o0.guard = none) (hd1 : o1.dst = some 2) (hg1 : o1.guard = none) {ts : Array TypeId} (h1 : o1.op = .call { callee := .value (.func 36), args := #[.tmp 1, .tmp 0], argTypes := ts }) :
    (∀ (x : Value) (W : World), CallsDIn Fence.wide 0 Try.prog f #[x] .returning W fun e u' W' => (∃ v, e = .returned v) ∧ u' = .returning ∧ Below W.heap.size W W') ∧
    (∀ (B off : Nat) (y x : Value) (k : IntKind) (n : Int) (W : World), W.cell? ⟨B, off, none⟩ = some y → W.frozen? ⟨B, off, none⟩ = false → x = .agg #[.int k n] →
      CallsDIn Fence.wide 0 Try.prog f #[.pointer (some ⟨B, off, none⟩)] (.panicking [{ v := .iface 102 x, recovered := false }]) W fun e u' W' =>
        (∃ v, e = .returned v) ∧ u' = .panicking [{ v := .iface 102 x, recovered := true }] ∧ Below W.heap.size (W.setCell ⟨B, off, none⟩ (.int k n)) W') := by
  have hwalk : ∀ (x rv : Value) (u u' : FrameMode) (W : World) (R : World → Prop), (∀ (c₀ : Frame) (cs : List Frame), c₀.mode = u → recoverD (c₀ :: cs) = some (rv, { c₀ with mode := u' } :: cs) ∨ (recoverD (c₀ :: cs) = none ∧ rv = .nilIface ∧ { c₀ with mode := u' } :: cs = c₀ :: cs)) →
      Calls Try.prog 36 #[rv, x] W (fun e W' => e = .returned (.tuple #[]) ∧ R W') → CallsDIn Fence.wide 0 Try.prog f #[x] u W fun e v' W' => (∃ v, e = .returned v) ∧ v' = u' ∧ R W' := by
    intro x rv u u' W R hrec hcall
    refine callsDIn_of_wpSIn hf hb trivial fun c₀ cs hu => ?_
    refine zfp (o := o0) (rest := [1]) (v := rv) (cs' := { c₀ with mode := u' } :: cs) (by rw [ho]; rfl) (by rw [ho]; rfl) (by simp [Region.wanted, hg0]) (by simp [execOp, h0, resolve, go_sem]) (hrec c₀ cs hu) ?_
    have hev : ∀ _ : Nat, (#[x] ++ Array.replicate (fn.ntmps - 1) undef : Array Value) = #[x, undef, undef] := fun _ => by rw [hn]; rfl
    simp only [List.size_toArray, List.length_cons, List.length_nil, Nat.zero_add, hev 0, Act.put, hd0]
    unfold wpOpsIn
    rw [show ops[1]? = some o1 by rw [ho]; rfl]
    simp only [Region.wanted, hg1, if_true]
    refine ⟨fun _ _ => trivial, ?_⟩
    have hrun : (o1.semAt Fence.wide.round (Act.eval { tmps := (#[x, undef, undef] : Array Value).setIfInBounds 1 rv, defers := [] })).run Try.prog W = .ok (.enter 36 #[rv, x]) W := by
      rw [Oper.semAt_eq _ _ _ (by rw [h1]; intro c hc; cases hc)]
      simp [execOp, h1, resolve, go_sem, Deferred.ofValue, Act.eval]
    rw [hrun, Oper.uponIn_enter]
    refine ⟨fun h => by simp [Fence.wide] at h, ((callsIn_wide (n := 0)).2 hcall).mono ?_⟩
    rintro e W' ⟨rfl, hR⟩
    simp only [wpOpsIn, Act.put, hd1]
    refine ⟨rfl, u', rfl, .tuple #[], results_none hr _ _ _, ⟨_, rfl⟩, rfl, hR⟩
  refine ⟨fun x W => ?_, fun B off y x k n W hc hz hx => ?_⟩
  · refine (hwalk x .nilIface .returning .returning W (Below W.heap.size W) (fun c₀ cs hu => .inr ⟨by simp [recoverD, hu], rfl, by cases c₀; simp_all⟩) (zlz x W))
  · subst hx
    refine hwalk _ _ _ _ W _ (fun c₀ cs hu => .inl ?_) (zkx B off y k n W hc hz)
    simp [recoverD, hu]
end Go.Proofs.Ytimgnlellflciaa

/- The deferred closures of package clamp. -/
namespace Go.Proofs.Ytimgnlellflciaa
open Go Go.Proofs
namespace Ev
set_option maxRecDepth 100000
def closures : List Nat := [35, 43, 45, 47, 54, 59, 69, 70]
noncomputable def memN : List Nat → Nat → Bool := fun l => List.rec (motive := fun _ => Nat → Bool) (fun _ => false) (fun x _ ih n => Bool.rec (ih n) true (Nat.beq n x)) l
theorem dfBuilt : DfOk Try.prog 35 102 true := by
  obtain ⟨h1, h2⟩ := zbl (f := 35) Try.func35 rfl rfl rfl (by kernel_rfl) rfl rfl rfl rfl rfl rfl rfl
  exact ⟨⟨_, Try.func35, by kernel_rfl, by kernel_rfl⟩, h1, fun B off y x k n W hc hz hx => h2 B off y x k n W hc hz (by simpa using hx)⟩
theorem dfHas : DfOk Try.prog 43 102 true := by
  obtain ⟨h1, h2⟩ := zbl (f := 43) Try.func43 rfl rfl rfl (by kernel_rfl) rfl rfl rfl rfl rfl rfl rfl
  exact ⟨⟨_, Try.func43, by kernel_rfl, by kernel_rfl⟩, h1, fun B off y x k n W hc hz hx => h2 B off y x k n W hc hz (by simpa using hx)⟩
theorem dfSold : DfOk Try.prog 45 102 true := by
  obtain ⟨h1, h2⟩ := zbl (f := 45) Try.func45 rfl rfl rfl (by kernel_rfl) rfl rfl rfl rfl rfl rfl rfl
  exact ⟨⟨_, Try.func45, by kernel_rfl, by kernel_rfl⟩, h1, fun B off y x k n W hc hz hx => h2 B off y x k n W hc hz (by simpa using hx)⟩
theorem dfEnough : DfOk Try.prog 47 102 true := by
  obtain ⟨h1, h2⟩ := zbl (f := 47) Try.func47 rfl rfl rfl (by kernel_rfl) rfl rfl rfl rfl rfl rfl rfl
  exact ⟨⟨_, Try.func47, by kernel_rfl, by kernel_rfl⟩, h1, fun B off y x k n W hc hz hx => h2 B off y x k n W hc hz (by simpa using hx)⟩
theorem dfShare : DfOk Try.prog 54 102 true := by
  obtain ⟨h1, h2⟩ := zbl (f := 54) Try.func54 rfl rfl rfl (by kernel_rfl) rfl rfl rfl rfl rfl rfl rfl
  exact ⟨⟨_, Try.func54, by kernel_rfl, by kernel_rfl⟩, h1, fun B off y x k n W hc hz hx => h2 B off y x k n W hc hz (by simpa using hx)⟩
theorem dfClash : DfOk Try.prog 59 102 true := by
  obtain ⟨h1, h2⟩ := zbl (f := 59) Try.func59 rfl rfl rfl (by kernel_rfl) rfl rfl rfl rfl rfl rfl rfl
  exact ⟨⟨_, Try.func59, by kernel_rfl, by kernel_rfl⟩, h1, fun B off y x k n W hc hz hx => h2 B off y x k n W hc hz (by simpa using hx)⟩
theorem dfAll : DfOk Try.prog 69 102 true := by
  obtain ⟨h1, h2⟩ := zbl (f := 69) Try.func69 rfl rfl rfl (by kernel_rfl) rfl rfl rfl rfl rfl rfl rfl
  exact ⟨⟨_, Try.func69, by kernel_rfl, by kernel_rfl⟩, h1, fun B off y x k n W hc hz hx => h2 B off y x k n W hc hz (by simpa using hx)⟩
theorem dfEmpty : DfOk Try.prog 70 102 true := by
  obtain ⟨h1, h2⟩ := zbl (f := 70) Try.func70 rfl rfl rfl (by kernel_rfl) rfl rfl rfl rfl rfl rfl rfl
  exact ⟨⟨_, Try.func70, by kernel_rfl, by kernel_rfl⟩, h1, fun B off y x k n W hc hz hx => h2 B off y x k n W hc hz (by simpa using hx)⟩
theorem zqb : ∀ {l : List Nat} {n : Nat}, memN l n = true → n ∈ l
  | [], n, h => by cases h
  | x :: l, n, h => by
    have e : memN (x :: l) n = (Bool.rec (memN l n) true (Nat.beq n x) : Bool) := rfl
    rw [e] at h
    cases hb : Nat.beq n x with
    | true => rw [Nat.eq_of_beq_eq_true hb]; exact List.mem_cons_self ..
    | false => rw [hb] at h; exact List.mem_cons_of_mem _ (zqb h)
theorem dfk_ok : ∀ f t ag, (Bool.rec none (some (102, true)) (memN closures f) : Option (Nat × Bool)) = some (t, ag) → DfOk Try.prog f t ag := by
  intro f t ag h
  cases hb : memN closures f with
  | false => rw [hb] at h; cases h
  | true =>
    rw [hb] at h
    cases h
    have hm := zqb hb
    simp only [closures, List.mem_cons, List.not_mem_nil, or_false] at hm
    rcases hm with rfl | rfl | rfl | rfl | rfl | rfl | rfl | rfl
    · exact dfBuilt
    · exact dfHas
    · exact dfSold
    · exact dfEnough
    · exact dfShare
    · exact dfClash
    · exact dfAll
    · exact dfEmpty
end Ev
end Go.Proofs.Ytimgnlellflciaa

/- What was found by the evaluator with arguments that are only read, told of calls of the program. -/
namespace Go.Proofs.Ytimgnlellflciaa
open Go Go.RowKit
namespace Ev
section
variable {P : Program} {W : World} {L : Nat → Prop} {μ : Mu} {H : List AB}
theorem ztv {k : Nat} {v : AV} {news : List AV} (h : slCells k H v = some news) : ∃ n, slLen H v = some n := by
  unfold slCells at h
  split at h
  · exact ⟨_, rfl⟩
  · exact ⟨_, rfl⟩
  · rename_i b off n k'
    split at h
    · split at h
      · rename_i cs hcs
        exact ⟨n, by simp [slLen, alive, hcs]⟩
      · cases h
    · cases h
  · cases h
theorem zmw (hs : Sim P W L μ H) {k : Nat} (hk : 0 < k) {v : AV} {x : Value} (hv : VR W L μ v x) {es : List AV} (hes : ∀ (i : Nat) (e : AV), es[i]? = some e → e.cells.length = k) (hn : ∀ e ∈ es, ∀ y ∈ e.cells, ∃ (kd : IntKind) (n : Int), y = .int kd n) (hc : slCells k H v = some (elemCells es)) :
    VR W (fun _ => False) nomu (.vs k es) x := by
  obtain ⟨n, hl⟩ := ztv hc
  obtain ⟨p, cap, rfl, h1, h2, h3⟩ := zgv hs hk hv hc hl
  obtain ⟨e1, e2⟩ := zej hk hes
  have hnm : n = es.length := Nat.eq_of_mul_eq_mul_right hk (by omega)
  subst hnm
  by_cases h0 : es.length = 0
  · have : es = [] := List.eq_nil_of_length_eq_zero h0
    subst this
    exact .vs0
  · rcases h3 with h3 | ⟨b, o, rfl, hr⟩
    · exact absurd h3 h0
    · have key : ∀ (i : Nat) (e : AV) (j : Nat) (y : AV), es[i]? = some e → e.cells[j]? = some y → ∃ r, W.cell? ⟨b, o + i * k + j, none⟩ = some r ∧ VR W (fun _ => False) nomu y r := by
        intro i e j y he hy
        have hjk : j < k := by have := (List.getElem?_eq_some_iff.1 hy).1; rw [hes i e he] at this; exact this
        have hi := (List.getElem?_eq_some_iff.1 he).1
        have hq : i * k + j < (elemCells es).length := by
          rw [e1]
          have : (i + 1) * k ≤ es.length * k := Nat.mul_le_mul_right k hi
          rw [Nat.add_mul, Nat.one_mul] at this
          omega
        obtain ⟨e', g1, g2⟩ := e2 _ _ (List.getElem?_eq_getElem hq)
        have d1 : (i * k + j) / k = i := by rw [Nat.mul_comm, Nat.mul_add_div hk, Nat.div_eq_of_lt hjk, Nat.add_zero]
        have d2 : (i * k + j) % k = j := by rw [Nat.mul_comm, Nat.mul_add_mod, Nat.mod_eq_of_lt hjk]
        rw [d1, he] at g1
        cases g1
        rw [d2, hy] at g2
        obtain ⟨r, q1, q2⟩ := hr _ _ (List.getElem?_eq_getElem hq)
        rw [← Option.some.inj g2] at q2
        obtain ⟨kd, m, rfl⟩ := hn e (List.mem_of_getElem? he) y (List.mem_of_getElem? hy)
        refine ⟨r, by rw [Nat.add_assoc]; exact q1, ?_⟩
        cases q2 with
        | dead h => simp [headRef] at h
        | int => exact .int
      refine .vs (fun i j => (W.cell? ⟨b, o + i * k + j, none⟩).getD undef) h2 hes (fun i e j y he hy => ⟨id, ?_⟩) fun i e j y he hy => ?_
      · obtain ⟨r, q1, _⟩ := key i e j y he hy
        rw [q1]; rfl
      · obtain ⟨r, q1, q2⟩ := key i e j y he hy
        rw [q1]; exact q2
theorem zxl : Sim P W (fun _ => False) nomu [] := { live := fun i B h => (by cases h), dead := fun i b h _ => (by cases h), out := fun _ _ => rfl, inj := fun i j B h _ => (by cases h), lt := fun b h => h.elim }
theorem zlw {C : Cfg} (hT : TblOk P C) {m f : Nat} {args : List AV} {x : CRes} {H' : List AB} {tc : List Nat} (h : Ev.call C m (.fn (.func f) [] []) args [] = some (x, H', tc)) (hG : Globs C W (fun _ => False)) {rargs : Array Value} (hv : VL W (fun _ => False) nomu args rargs.toList) :
    CallsIn Fence.wide 0 P f rargs W fun e W' => (∃ L' μ', CRel W' L' μ' x e ∧ Sim P W' L' μ' H' ∧ ∀ b, L' b → W.heap.size ≤ b) ∧ Below W.heap.size W W' := by
  have hok := zpe hT m
  obtain ⟨r, W1, h1, h2⟩ := hok.sound (tc0 := []) h (Hp.start (P := P) zxl) hG
    (rf := .func (.func f) #[] #[]) (rargs := rargs) (.fn (rf := []) (rc := []) (by intro l; simp) rfl (by intro i x r h; simp at h) rfl (by intro i x r h; simp at h)) hv
  have e : (do let d ← Deferred.ofValue (.func (.func f) #[] #[]) rargs; invoke d.target d.args : Sem Next).run P W = .ok (.enter f rargs) W := by
    simp only [Deferred.ofValue, Sem.run_bind, Sem.run_pure, Result.andThen, invoke]
    have := hok.fn h rargs W
    simpa using this
  rw [e] at h1
  cases h1
  refine CallsIn.mono h2 ?_
  rintro en W' ⟨L', μ', c1, c2, _⟩
  refine ⟨⟨L', μ', c1, c2.sim, fun b hb => ?_⟩, c2.env.1, c2.env.2.1, c2.env.2.2, c2.size, fun k hk => c2.same k hk fun i _ hi => by cases hi⟩
  rcases c2.new b hb with h | h
  · exact h.elim
  · exact h
def Bare : AV → Prop
  | .int _ _ => True
  | .bool _ => True
  | .agg cs => ∀ x ∈ cs, (∃ k n, x = .int k n) ∨ ∃ b, x = .bool b
  | .tup cs => ∀ x ∈ cs, (∃ k n, x = .int k n) ∨ (∃ b, x = .bool b) ∨ ∃ l, x = .agg l ∧ ∀ y ∈ l, ∃ k n, y = .int k n
  | _ => False
theorem zcy {W' : World} {L' : Nat → Prop} {μ' : Mu} {x : AV} {r : Value} (hx : (∃ k n, x = .int k n) ∨ ∃ b, x = .bool b) (h : VR W L μ x r) : VR W' L' μ' x r := by
  rcases hx with ⟨k, n, rfl⟩ | ⟨b, rfl⟩
  · cases h with
    | dead h => simp [headRef] at h
    | int => exact .int
  · cases h with
    | dead h => simp [headRef] at h
    | bool => exact .bool
theorem zzp {v : AV} (hb : Bare v) {W' : World} {L' : Nat → Prop} {μ' : Mu} {r : Value} (h : VR W L μ v r) : VR W' L' μ' v r := by
  cases v with
  | int k n => exact zcy (.inl ⟨k, n, rfl⟩) h
  | bool b => exact zcy (.inr ⟨b, rfl⟩) h
  | agg cs =>
    cases h with
    | dead h => simp [headRef] at h
    | agg h1 h2 => exact .agg h1 fun i x r hx hr => zcy (hb x (List.mem_of_getElem? hx)) (h2 i x r hx hr)
  | tup cs =>
    cases h with
    | dead h => simp [headRef] at h
    | tup h1 h2 =>
      refine .tup h1 fun i x r hx hr => ?_
      rcases hb x (List.mem_of_getElem? hx) with h | h | ⟨l, rfl, hl⟩
      · exact zcy (.inl h) (h2 i x r hx hr)
      · exact zcy (.inr h) (h2 i x r hx hr)
      · have := h2 i _ r hx hr
        cases this with
        | dead h => simp [headRef] at h
        | agg g1 g2 => exact .agg g1 fun i x r hx hr => zcy (.inl (hl x (List.mem_of_getElem? hx))) (g2 i x r hx hr)
  | _ => exact hb.elim
theorem zlx {C : Cfg} (hT : TblOk P C) {m f : Nat} {args : List AV} {v : AV} {H' : List AB} {tc : List Nat} (h : Ev.call C m (.fn (.func f) [] []) args [] = some (.ret v, H', tc)) (hb : Bare v) (hG : Globs C W (fun _ => False)) {rargs : Array Value} (hv : VL W (fun _ => False) nomu args rargs.toList) :
    CallsIn Fence.wide 0 P f rargs W fun e W' => (∃ w, e = .returned w ∧ ∀ W L μ, VR W L μ v w) ∧ Below W.heap.size W W' := by
  refine (zlw hT h hG hv).mono ?_
  rintro en W' ⟨⟨L', μ', c1, _⟩, c2⟩
  cases en <;> simp only [CRel] at c1
  exact ⟨⟨_, rfl, fun _ _ _ => zzp hb c1⟩, c2⟩
theorem zrg {C : Cfg} (hT : TblOk P C) {m f : Nat} {args : List AV} {b n : Nat} {H' : List AB} {tc : List Nat} {cs : List AV} (h : Ev.call C m (.fn (.func f) [] []) args [] = some (.ret (.sl b 0 n 1), H', tc)) (hb : H'[b]? = some (.cells cs)) (hn : n = cs.length) (hcs : ∀ y ∈ cs, ∃ (kd : IntKind) (n : Int), y = .int kd n) (hG : Globs C W (fun _ => False)) {rargs : Array Value} (hv : VL W (fun _ => False) nomu args rargs.toList) (hL : ∀ b, L b → b < W.heap.size) :
    CallsIn Fence.wide 0 P f rargs W fun e W' => (∃ w, e = .returned w ∧ VR W' L nomu (.vs 1 cs) w) ∧ Below W.heap.size W W' := by
  refine (zlw hT h hG hv).mono ?_
  rintro en W' ⟨⟨L', μ', c1, hs, hnew⟩, c2⟩
  cases en <;> simp only [CRel] at c1
  rename_i w
  refine ⟨⟨w, rfl, ?_⟩, c2⟩
  cases c1 with
  | @dead _ _ _ b' h1 h2 _ =>
    simp [headRef] at h1
    subst h1
    cases hs.dead _ _ h2 hb
  | @sl _ _ _ _ _ B cap rs t hm h2 h3 h4 =>
    obtain ⟨l1, _, blk, o, e1, e2, e3⟩ := hs.live _ _ hm
    rw [hb] at e1
    cases e1
    cases e3 with
    | @cells _ rs' t' hsz hc =>
      have hB : ¬ L B := fun h => by have := hL B h; have := hnew B l1; omega
      have hlen : ∀ (e : AV), e ∈ cs → e.cells = [e] := fun e he => by obtain ⟨k, n, rfl⟩ := hcs e he; rfl
      subst hn
      have get : ∀ (i : Nat) (e : AV) (j : Nat) (x : AV), cs[i]? = some e → e.cells[j]? = some x → j = 0 ∧ x = e ∧ ∃ r, W'.cell? ⟨B, 0 + i * 1 + j, none⟩ = some r ∧ VR W' L nomu x r := by
        intro i e j x he hx
        have hm := List.mem_of_getElem? he
        rw [hlen e hm] at hx
        have hj : j = 0 := by
          have := (List.getElem?_eq_some_iff.1 hx).1
          simpa using this
        subst hj
        simp only [List.getElem?_cons_zero, Option.some.injEq] at hx
        subst hx
        have hi := (List.getElem?_eq_some_iff.1 he).1
        refine ⟨rfl, rfl, rs'[i]'(by omega), ?_, zcy (.inl (hcs _ hm)) (hc i _ _ he (Array.getElem?_eq_getElem (by omega)))⟩
        rw [show 0 + i * 1 + 0 = i by omega]
        have hsz' : i < rs'.size := by omega
        simp [World.cell?, e2, hsz']
      refine .vs (fun i j => (W'.cell? ⟨B, 0 + i * 1 + j, none⟩).getD undef) h2 (fun i e he => by rw [hlen e (List.mem_of_getElem? he)]; rfl) (fun i e j x he hx => ⟨hB, ?_⟩) fun i e j x he hx => ?_
      · obtain ⟨_, _, r, q1, _⟩ := get i e j x he hx
        rw [q1]; rfl
      · obtain ⟨_, _, r, q1, q2⟩ := get i e j x he hx
        rw [q1]; exact q2
end
end Ev
end Go.Proofs.Ytimgnlellflciaa

/- Package clamp, told: the configuration that its functions were gone through in. -/
namespace Go.Proofs.Ytimgnlellflciaa
open Go Go.Proofs Go.RowKit
namespace Ev
namespace K
set_option maxRecDepth 100000
set_option maxHeartbeats 4000000
theorem zdx (W : World) (L : Nat → Prop) (C : Cfg) : Globs C W L := fun g cs h => by cases h
theorem tblS : TblOk Try.prog cfgS := ⟨fun f fn h => FT.find_all znv h, fun _ _ h => (by cases h), fun _ _ h => (by cases h), fun _ _ _ h => (by cases h)⟩
noncomputable def allB (p : AFunc → Bool) : FT → Bool := fun t => FT.rec true (fun _ f _ _ ihl ihr => Q.andB (p f) (Q.andB ihl ihr)) t
theorem zlt {p : AFunc → Bool} : ∀ {t : FT}, allB p t = true → FT.All (fun _ f => p f = true) t
  | .leaf, _ => trivial
  | .node k f l r, h => by
    have e : allB p (.node k f l r) = Q.andB (p f) (Q.andB (allB p l) (allB p r)) := rfl
    rw [e, Q.andB_eq, Q.andB_eq, Bool.and_eq_true, Bool.and_eq_true] at h
    exact ⟨h.1, zlt h.2.1, zlt h.2.2⟩
theorem all_ok : allB Q.okF fnTree = true := by kernel_rfl
theorem quickS : Q.Quick cfgS := ⟨fun _ => rfl, fun _ _ h => FT.find_all (zlt all_ok) h⟩
theorem zwj : ∀ {l : List AV} {m : List Nat}, eqCs l m = true → l = m.map setE
  | [], [], _ => rfl
  | [], b :: m, h => by cases h
  | v :: l, [], h => by cases h
  | v :: l, b :: m, h => by
    cases v with
    | int k n =>
      cases k with
      | u64 =>
        cases n with
        | ofNat a =>
          have e : eqCs (.int .u64 (.ofNat a) :: l) (b :: m) = Q.andB (Nat.beq a b) (eqCs l m) := rfl
          rw [e, Q.andB_eq, Bool.and_eq_true] at h
          rw [Nat.eq_of_beq_eq_true h.1, zwj h.2]; rfl
        | negSucc a => cases h
      | _ => cases h
    | _ => cases h
theorem ztx {k : Nat} (h : setsB k (Q.callQ cfgS 30 (.fn (.func 57) [] []) [.int .i64 k] (.e Q.cap) 0) = true) :
    ∃ b H' tc, Ev.call cfgS 30 (.fn (.func 57) [] []) [.int .i64 k] [] = some (.ret (.sl b 0 (2 ^ k) 1), H', tc) ∧ H'[b]? = some (.cells ((Clm.setsBy k).map setE)) := by
  generalize hr : Q.callQ cfgS 30 (.fn (.func 57) [] []) [.int .i64 k] (.e Q.cap) 0 = r at h
  unfold setsB at h
  split at h
  · rename_i b n hp m tc
    rw [Q.andB_eq, Bool.and_eq_true] at h
    obtain ⟨h1, h2⟩ := h
    have hf := (Q.found quickS Q.wh_empty hr).1
    have hn := Nat.eq_of_beq_eq_true h1
    subst hn
    split at h2
    · rename_i cs hcs
      exact ⟨b, _, tc, hf, by rw [hcs, zwj h2]⟩
    · cases h2
  · cases h
theorem zxm : ∀ k, k ≤ 6 → setsB k (Q.callQ cfgS 30 (.fn (.func 57) [] []) [.int .i64 k] (.e Q.cap) 0) = true
  | 0, _ => sets_0
  | 1, _ => sets_1
  | 2, _ => sets_2
  | 3, _ => sets_3
  | 4, _ => sets_4
  | 5, _ => sets_5
  | 6, _ => sets_6
  | k + 7, h => absurd h (by omega)
def gSets (args : List AV) (_ : List AB) : Option AV := match args with
  | [.int .i64 n] => if 0 ≤ n ∧ n ≤ 6 then some (.vs 1 ((Clm.setsBy n.toNat).map setE)) else none
  | _ => none
noncomputable def exthK (f : Nat) : Option (List AV → List AB → Option AV) := if f = 57 then some gSets else none
noncomputable def cfgK : Cfg where
  fns := FT.find fnTree
  glob := fun _ => none
  dfk := fun f => Bool.rec none (some (102, true)) (memN closures f)
  ext := fun _ => none
  exth := exthK
  calm := true
  whole := fun _ => true
theorem known (f : Nat) (h : ∃ F, Try.prog.funcs[f]? = some F ∧ (F.name == "runtime.NumGoroutine") = false ∧ ∃ af : AFunc, compFn Try.prog F = some af.strip) : ∃ F, Try.prog.funcs[f]? = some F ∧ (F.name == "runtime.NumGoroutine") = false ∧ F.body.isNone = false := by
  obtain ⟨F, f1, f2, af, f3⟩ := h
  obtain ⟨c, g1, _⟩ := zjo f3
  exact ⟨F, f1, f2, by rw [g1]; rfl⟩
theorem tblK : TblOk Try.prog cfgK := by
  refine ⟨fun f fn h => FT.find_all znv h, fun _ _ h => (by cases h), fun f g h => ?_, dfk_ok⟩
  have h' : exthK f = some g := h
  unfold exthK at h'
  split at h'
  · rename_i hf
    subst hf
    cases h'
    obtain ⟨F, f1, f2, f3⟩ := is57
    refine ⟨known _ ⟨F, f1, f2, _, f3⟩, fun args H v rargs W L μ hv hr hs hG => ?_⟩
    unfold gSets at hv
    split at hv
    · rename_i n
      split at hv
      · rename_i hn
        cases hv
        obtain ⟨m, rfl⟩ := Int.eq_ofNat_of_zero_le hn.1
        obtain ⟨b, H', tc, c1, c2⟩ := ztx (zxm m (by omega))
        rw [Int.toNat_natCast]
        refine zrg tblS c1 c2 (by rw [List.length_map, Clm.sets_len (by omega)]) (fun y hy => ?_) (zdx _ _ _) ?_ hs.lt
        · obtain ⟨s, _, rfl⟩ := List.mem_map.1 hy; exact ⟨_, _, rfl⟩
        · refine ⟨hr.1, fun i x r hx hr' => ?_⟩
          match i, hx with
          | 0, hx =>
            cases hx
            exact zcy (.inl ⟨_, _, rfl⟩) (hr.2 0 _ r rfl hr')
          | i + 1, hx => simp at hx
      · cases hv
    · cases hv
  · cases h'
end K
end Ev
end Go.Proofs.Ytimgnlellflciaa

/- Clamps as values of the evaluator, wherever their lists lie. -/
namespace Go.Proofs.Ytimgnlellflciaa
open Go
namespace Ev
namespace K
set_option maxRecDepth 100000
def pileCs : List Clm.Pl → List AV
  | [] => []
  | p :: l => .int .i64 p.long.lo :: .int .i64 p.long.hi :: .int .i64 p.wide.lo :: .int .i64 p.wide.hi :: .int .i64 p.high.lo :: .int .i64 p.high.hi :: pileCs l
def evtCs : List Clm.Evt → List AV
  | [] => []
  | e :: l => .int .i64 e.kind :: .int .i64 e.clamp :: .int .i64 e.sods.lo :: .int .i64 e.sods.hi :: evtCs l
def pilesC : List AV → Option (List Clm.Pl)
  | [] => some []
  | .int .i64 a :: .int .i64 b :: .int .i64 c :: .int .i64 d :: .int .i64 e :: .int .i64 f :: l => (pilesC l).map (⟨⟨a, b⟩, ⟨c, d⟩, ⟨e, f⟩⟩ :: ·)
  | _ => none
def evtsC : List AV → Option (List Clm.Evt)
  | [] => some []
  | .int .i64 a :: .int .i64 b :: .int .i64 c :: .int .i64 d :: l => (evtsC l).map (⟨a, b, ⟨c, d⟩⟩ :: ·)
  | _ => none
@[simp] theorem zul : ∀ l, pilesC (pileCs l) = some l
  | [] => rfl
  | p :: l => by simp [pileCs, pilesC, zul l]
@[simp] theorem zyw : ∀ l, evtsC (evtCs l) = some l
  | [] => rfl
  | e :: l => by simp [evtCs, evtsC, zyw l]
theorem zum : ∀ {cs l}, pilesC cs = some l → cs = pileCs l := by
  intro cs
  induction cs using pilesC.induct with
  | case1 => intro l h; cases h; rfl
  | case2 a b c d e f cs ih =>
    intro l h
    obtain ⟨l', h1, rfl⟩ := Option.map_eq_some_iff.1 h
    rw [ih h1]; rfl
  | case3 cs h1 h2 => intro l h; unfold pilesC at h; split at h <;> first | exact absurd rfl h1 | exact (h2 _ _ _ _ _ _ _ rfl).elim | cases h
theorem zyx : ∀ {cs l}, evtsC cs = some l → cs = evtCs l := by
  intro cs
  induction cs using evtsC.induct with
  | case1 => intro l h; cases h; rfl
  | case2 a b c d cs ih =>
    intro l h
    obtain ⟨l', h1, rfl⟩ := Option.map_eq_some_iff.1 h
    rw [ih h1]; rfl
  | case3 cs h1 h2 => intro l h; unfold evtsC at h; split at h <;> first | exact absurd rfl h1 | exact (h2 _ _ _ _ _ rfl).elim | cases h
@[simp] theorem zkp : ∀ l : List Clm.Pl, elemCells (l.map pileE) = pileCs l
  | [] => rfl
  | p :: l => by simp [elemCells, pileE, AV.cells, pileCs, zkp l]
@[simp] theorem znj : ∀ l : List Clm.Evt, elemCells (l.map evtE) = evtCs l
  | [] => rfl
  | p :: l => by simp [elemCells, evtE, AV.cells, evtCs, znj l]
theorem zck : ∀ l, (pileCs l).length = l.length * 6
  | [] => rfl
  | p :: l => by simp [pileCs, zck l]; omega
theorem zbn : ∀ l, (evtCs l).length = l.length * 4
  | [] => rfl
  | p :: l => by simp [evtCs, zbn l]; omega
theorem zkd : ∀ l m, pileCs (l ++ m) = pileCs l ++ pileCs m
  | [], _ => rfl
  | p :: l, m => by simp [pileCs, zkd l m]
theorem zct : ∀ l m, evtCs (l ++ m) = evtCs l ++ evtCs m
  | [], _ => rfl
  | p :: l, m => by simp [evtCs, zct l m]
theorem zdg : ∀ l, (pileCs l).all AV.plain = true
  | [] => rfl
  | p :: l => by simp only [pileCs, List.all_cons, zdg l]; rfl
theorem zby : ∀ l, (evtCs l).all AV.plain = true
  | [] => rfl
  | p :: l => by simp only [evtCs, List.all_cons, zby l]; rfl
def pilesV (H : List AB) (v : AV) (l : List Clm.Pl) : Prop := slCells 6 H v = some (pileCs l)
def evtsV (H : List AB) (v : AV) (l : List Clm.Evt) : Prop := slCells 4 H v = some (evtCs l)
def clOf (H : List AB) (v : AV) : Option Clm.Cl := match v with
  | .agg [pv, .int .i64 a, .int .i64 b, ev] => (match (slCells 6 H pv).bind pilesC, (slCells 4 H ev).bind evtsC with
    | some ps, some es => if ps.length ≤ 40 ∧ es.length ≤ 41 then some ⟨ps, ⟨a, b⟩, es⟩ else none
    | _, _ => none)
  | _ => none
theorem zhi {H : List AB} {pv ev : AV} {a b : Int} {ps : List Clm.Pl} {es : List Clm.Evt} (h1 : pilesV H pv ps) (h2 : evtsV H ev es) (hp : ps.length ≤ 40) (he : es.length ≤ 41) : clOf H (.agg [pv, .int .i64 a, .int .i64 b, ev]) = some ⟨ps, ⟨a, b⟩, es⟩ := by
  unfold pilesV at h1
  unfold evtsV at h2
  simp [clOf, h1, h2, hp, he]
theorem zqx {H : List AB} {v : AV} {c : Clm.Cl} (h : clOf H v = some c) : ∃ pv ev, v = .agg [pv, .int .i64 c.pack.lo, .int .i64 c.pack.hi, ev] ∧ pilesV H pv c.piles ∧ evtsV H ev c.events ∧ c.piles.length ≤ 40 ∧ c.events.length ≤ 41 := by
  unfold clOf at h
  split at h
  · rename_i pv a b ev
    split at h
    · rename_i ps es h1 h2
      split at h
      · rename_i hb
        cases h
        obtain ⟨c1, e1, f1⟩ := Option.bind_eq_some_iff.1 h1
        obtain ⟨c2, e2, f2⟩ := Option.bind_eq_some_iff.1 h2
        exact ⟨pv, ev, rfl, by unfold pilesV; rw [e1, zum f1], by unfold evtsV; rw [e2, zyx f2], hb.1, hb.2⟩
      · cases h
    · cases h
  · cases h
theorem zdv (H : List AB) (l : List Clm.Pl) : pilesV H (.vs 6 (l.map pileE)) l := by simp [pilesV, slCells]
theorem zih (H : List AB) (l : List Clm.Evt) : evtsV H (.vs 4 (l.map evtE)) l := by simp [evtsV, slCells]
theorem zrs (H : List AB) : pilesV H .nils [] := rfl
theorem zwe (H : List AB) : evtsV H .nils [] := rfl
theorem zuk {H : List AB} {b n : Nat} {l : List Clm.Pl} (h : H[b]? = some (.cells (pileCs l))) (hn : n = l.length) : pilesV H (.sl b 0 n 6) l := by
  subst hn
  simp only [pilesV, slCells, h, if_true, Nat.zero_add, zck, Nat.le_refl, List.drop_zero]
  rw [List.take_of_length_le (by rw [zck]; omega)]
theorem zgi {H : List AB} {b n : Nat} {l : List Clm.Evt} (h : H[b]? = some (.cells (evtCs l))) (hn : n = l.length) : evtsV H (.sl b 0 n 4) l := by
  subst hn
  simp only [evtsV, slCells, h, if_true, Nat.zero_add, zbn, Nat.le_refl, List.drop_zero]
  rw [List.take_of_length_le (by rw [zbn]; omega)]
theorem zwq (H : List AB) (c : Clm.Cl) (hp : c.piles.length ≤ 40) (he : c.events.length ≤ 41) : clOf H (.agg (clampCs c)) = some c := zhi (zdv H c.piles) (zih H c.events) hp he
end K
end Ev
end Go.Proofs.Ytimgnlellflciaa

/- Package clamp, told to its laws. -/
namespace Go.Proofs.Ytimgnlellflciaa
open Go Go.Proofs Go.RowKit
namespace Ev
namespace K
set_option maxRecDepth 100000
set_option maxHeartbeats 4000000
theorem has_of {C : Cfg} {f : Nat} {af : AFunc} (h1 : C.ext f = none) (h2 : C.exth f = none) (h3 : C.fns f = some af) (h4 : C.whole f = true) : Has C f af := ⟨h1, h2, h3, h4⟩
theorem knowsK : Knows cfgK where
  calm := rfl
  none := has_of rfl rfl (by kernel_rfl) rfl
  some := has_of rfl rfl (by kernel_rfl) rfl
  either := has_of rfl rfl (by kernel_rfl) rfl
  both := has_of rfl rfl (by kernel_rfl) rfl
  ca := has_of rfl rfl (by kernel_rfl) rfl
  cb := has_of rfl rfl (by kernel_rfl) rfl
  sa := has_of rfl rfl (by kernel_rfl) rfl
  sb := has_of rfl rfl (by kernel_rfl) rfl
  within := has_of rfl rfl (by kernel_rfl) rfl
  at_ := has_of rfl rfl (by kernel_rfl) rfl
  areSods := has_of rfl rfl (by kernel_rfl) rfl
  isSpan := has_of rfl rfl (by kernel_rfl) rfl
  product := has_of rfl rfl (by kernel_rfl) rfl
  sods := has_of rfl rfl (by kernel_rfl) rfl
  must := has_of rfl rfl (by kernel_rfl) rfl
  events := has_of rfl rfl (by kernel_rfl) rfl
  log := has_of rfl rfl (by kernel_rfl) rfl
  sizes := has_of rfl rfl (by kernel_rfl) rfl
  sizes1 := has_of rfl rfl (by kernel_rfl) rfl
  ways := has_of rfl rfl (by kernel_rfl) rfl
  packs := has_of rfl rfl (by kernel_rfl) rfl
  packs1 := has_of rfl rfl (by kernel_rfl) rfl
  can := has_of rfl rfl (by kernel_rfl) rfl
  every := has_of rfl rfl (by kernel_rfl) rfl
  told := has_of rfl rfl (by kernel_rfl) rfl
  isPile := has_of rfl rfl (by kernel_rfl) rfl
  left := has_of rfl rfl (by kernel_rfl) rfl
  span := has_of rfl rfl (by kernel_rfl) rfl
  hull := has_of rfl rfl (by kernel_rfl) rfl
  of1 := has_of rfl rfl (by kernel_rfl) rfl
  of_ := has_of rfl rfl (by kernel_rfl) rfl
  tog1 := has_of rfl rfl (by kernel_rfl) rfl
  tog := has_of rfl rfl (by kernel_rfl) rfl
  open_ := has_of rfl rfl (by kernel_rfl) rfl
  one := has_of rfl rfl (by kernel_rfl) rfl
  one1 := has_of rfl rfl (by kernel_rfl) rfl
  always := has_of rfl rfl (by kernel_rfl) rfl
  built2 := has_of rfl rfl (by kernel_rfl) rfl
  sold2 := has_of rfl rfl (by kernel_rfl) rfl
  enough2 := has_of rfl rfl (by kernel_rfl) rfl
  share2 := has_of rfl rfl (by kernel_rfl) rfl
  share3 := has_of rfl rfl (by kernel_rfl) rfl
  clash2 := has_of rfl rfl (by kernel_rfl) rfl
  index := has_of rfl rfl (by kernel_rfl) rfl
  first := has_of rfl rfl (by kernel_rfl) rfl
  built := has_of rfl rfl (by kernel_rfl) rfl
  has := has_of rfl rfl (by kernel_rfl) rfl
  sold := has_of rfl rfl (by kernel_rfl) rfl
  all := has_of rfl rfl (by kernel_rfl) rfl
  enough := has_of rfl rfl (by kernel_rfl) rfl
  empty := has_of rfl rfl (by kernel_rfl) rfl
  share := has_of rfl rfl (by kernel_rfl) rfl
  clash := has_of rfl rfl (by kernel_rfl) rfl
  sets n H m hm := by
    show enter cfgK (Ev.call cfgK n) 57 _ H = _
    unfold enter
    have h1 : cfgK.ext 57 = none := rfl
    have h2 : cfgK.exth 57 = some gSets := rfl
    rw [h1, h2]
    have h3 : gSets ([] ++ [.int .i64 m] ++ []) H = some (.vs 1 ((Clm.setsBy m).map setE)) := by
      show (if 0 ≤ (m : Int) ∧ (m : Int) ≤ 6 then some (AV.vs 1 ((Clm.setsBy ((m : Int)).toNat).map setE)) else none) = _
      rw [if_pos ⟨by omega, by omega⟩, Int.toNat_natCast]
    simp only [h3, Option.map_some]
  dfBuilt := rfl
  dfHas := rfl
  dfSold := rfl
  dfAll := rfl
  dfEnough := rfl
  dfEmpty := rfl
  dfShare := rfl
  dfClash := rfl
def intsOf : List AV → Option (List Int)
  | [] => some []
  | .int .i64 n :: l => (intsOf l).map (n :: ·)
  | _ => none
theorem zmz : ∀ {l : List AV} {ns : List Int}, intsOf l = some ns → l = ns.map (AV.int .i64)
  | [], ns, h => by cases h; rfl
  | v :: l, ns, h => by
    unfold intsOf at h
    split at h
    · rename_i e; cases e
    · rename_i n l' e
      obtain ⟨rfl, rfl⟩ := List.cons.inj e
      obtain ⟨ms, h1, rfl⟩ := Option.map_eq_some_iff.1 h
      rw [List.map_cons, ← zmz h1]
    · cases h
def gCl (spec : Clm.Cl → List Int → Option AV) (args : List AV) (H : List AB) : Option AV :=
  match args with
  | v :: rest => (clOf H v).bind fun c => (intsOf rest).bind fun ns => spec c ns
  | [] => none
theorem cl_arg {W : World} {L : Nat → Prop} {μ : Mu} {H : List AB} (hs : Sim Try.prog W L μ H) {v : AV} {x : Value} {c : Clm.Cl} (hc : clOf H v = some c) (hv : VR W L μ v x) : VR W (fun _ => False) nomu (.agg (clampCs c)) x := by
  obtain ⟨pv, ev, rfl, h1, h2, _, _⟩ := zqx hc
  cases hv with
  | dead h => simp [headRef] at h
  | @agg _ _ rs hl hr =>
    match rs, hl with
    | [r0, r1, r2, r3], _ =>
      have a0 := hr 0 _ _ rfl rfl
      have a1 := hr 1 _ _ rfl rfl
      have a2 := hr 2 _ _ rfl rfl
      have a3 := hr 3 _ _ rfl rfl
      refine .agg rfl fun i x r hx hr' => ?_
      match i, hx, hr' with
      | 0, hx, hr' =>
        cases hx; cases hr'
        refine zmw hs (by decide) a0 (fun i e he => ?_) (fun e he y hy => ?_) (by rw [zkp]; exact h1)
        · rw [List.getElem?_map] at he
          obtain ⟨p, _, rfl⟩ := Option.map_eq_some_iff.1 he
          rfl
        · obtain ⟨p, _, rfl⟩ := List.mem_map.1 he
          simp only [pileE, AV.cells, List.mem_cons, List.not_mem_nil, or_false] at hy
          rcases hy with rfl | rfl | rfl | rfl | rfl | rfl <;> exact ⟨_, _, rfl⟩
      | 1, hx, hr' => cases hx; cases hr'; exact zcy (.inl ⟨_, _, rfl⟩) a1
      | 2, hx, hr' => cases hx; cases hr'; exact zcy (.inl ⟨_, _, rfl⟩) a2
      | 3, hx, hr' =>
        cases hx; cases hr'
        refine zmw hs (by decide) a3 (fun i e he => ?_) (fun e he y hy => ?_) (by rw [znj]; exact h2)
        · rw [List.getElem?_map] at he
          obtain ⟨p, _, rfl⟩ := Option.map_eq_some_iff.1 he
          rfl
        · obtain ⟨p, _, rfl⟩ := List.mem_map.1 he
          simp only [evtE, AV.cells, List.mem_cons, List.not_mem_nil, or_false] at hy
          rcases hy with rfl | rfl | rfl | rfl <;> exact ⟨_, _, rfl⟩
      | i + 4, hx, hr' => simp [clampCs] at hx
theorem gcl_ok {spec : Clm.Cl → List Int → Option AV} {f : Nat} (hk : ∃ F, Try.prog.funcs[f]? = some F ∧ (F.name == "runtime.NumGoroutine") = false ∧ ∃ af : AFunc, compFn Try.prog F = some af.strip)
    (hf : ∀ (c : Clm.Cl) (ns : List Int) (v : AV), c.piles.length ≤ 40 → c.events.length ≤ 41 → spec c ns = some v → Bare v ∧ ∃ m H' tc, Ev.call cfgK m (.fn (.func f) [] []) (.agg (clampCs c) :: ns.map (AV.int .i64)) [] = some (.ret v, H', tc)) :
    (∃ F, Try.prog.funcs[f]? = some F ∧ (F.name == "runtime.NumGoroutine") = false ∧ F.body.isNone = false) ∧ ∀ (args : List AV) (H : List AB) (v : AV) (rargs : Array Value) (W : World) (L : Nat → Prop) (μ : Mu), gCl spec args H = some v → VL W L μ args rargs.toList → Sim Try.prog W L μ H →
      CallsIn Fence.wide 0 Try.prog f rargs W fun e W' => (∃ w, e = .returned w ∧ VR W' L nomu v w) ∧ Below W.heap.size W W' := by
  refine ⟨known f hk, fun args H v rargs W L μ h hv hs => ?_⟩
  unfold gCl at h
  split at h
  · rename_i u rest
    obtain ⟨c, h1, h2⟩ := Option.bind_eq_some_iff.1 h
    obtain ⟨ns, h3, h4⟩ := Option.bind_eq_some_iff.1 h2
    obtain rfl := zmz h3
    obtain ⟨_, _, _, _, _, b1, b2⟩ := zqx h1
    obtain ⟨hb, m, H', tc, hcall⟩ := hf c ns v b1 b2 h4
    refine (zlx tblK hcall hb (zdx _ _ _) ⟨hv.1, fun i x r hx hr => ?_⟩).mono fun e W' ⟨⟨w, h1, h2⟩, h3⟩ => ⟨⟨w, h1, h2 _ _ _⟩, h3⟩
    match i, hx with
    | 0, hx => cases hx; exact cl_arg hs h1 (hv.2 0 _ r rfl hr)
    | i + 1, hx =>
      rw [List.getElem?_cons_succ, List.getElem?_map] at hx
      obtain ⟨n, h5, rfl⟩ := Option.map_eq_some_iff.1 hx
      exact zcy (.inl ⟨_, _, rfl⟩) (hv.2 (i + 1) (.int .i64 n) r (by rw [List.getElem?_cons_succ, List.getElem?_map, h5]; rfl) hr)
  · cases h
def sBuilt (c : Clm.Cl) : List Int → Option AV | [n] => some (spanR c (isP c n) (Clm.ofAll c n.toNat builtG)) | _ => none
def sHas (c : Clm.Cl) : List Int → Option AV | [n] => some (spanR c (isP c n) (Clm.ofAll c n.toNat fun _ => Clm.leftW c)) | _ => none
def sSold (c : Clm.Cl) : List Int → Option AV | [n] => some (spanR c (isP c n) (Clm.ofAll c n.toNat (soldG c))) | _ => none
def sAll (c : Clm.Cl) : List Int → Option AV | [] => some (spanR c true (Clm.together c (fullP c))) | _ => none
def sEnough (c : Clm.Cl) : List Int → Option AV | [n, s] => some (numR c (isP c n && isS s) (enoughN (Clm.together c (2 ^ n.toNat)) s)) | _ => none
def sEmpty (c : Clm.Cl) : List Int → Option AV | [] => some (emptyR c) | _ => none
def sShare (c : Clm.Cl) : List Int → Option AV | [s] => some (shareR c s) | _ => none
def sClash (c : Clm.Cl) : List Int → Option AV | [] => some (clashR c) | _ => none
noncomputable def exthL0 (f : Nat) : Option (List AV → List AB → Option AV) :=
  if f = 10 then some (gCl sBuilt) else if f = 12 then some (gCl sHas) else if f = 13 then some (gCl sSold) else if f = 25 then some (gCl sAll) else if f = 14 then some (gCl sEnough) else if f = 26 then some (gCl sEmpty) else if f = 15 then some (gCl sShare) else if f = 16 then some (gCl sClash) else none
theorem zgo (s : Clm.Sp) (e : Int) : Bare (.tup [spA s, .int .i64 e]) := by
  intro x hx
  simp only [List.mem_cons, List.not_mem_nil, or_false] at hx
  rcases hx with rfl | rfl
  · refine .inr (.inr ⟨_, rfl, fun y hy => ?_⟩)
    simp only [List.mem_cons, List.not_mem_nil, or_false] at hy
    rcases hy with rfl | rfl <;> exact ⟨_, _, rfl⟩
  · exact .inl ⟨_, _, rfl⟩
theorem zlq (a e : Int) : Bare (.tup [.int .i64 a, .int .i64 e]) := by
  intro x hx
  simp only [List.mem_cons, List.not_mem_nil, or_false] at hx
  rcases hx with rfl | rfl <;> exact .inl ⟨_, _, rfl⟩
theorem ztd (a b e : Int) : Bare (.tup [.int .i64 a, .int .i64 b, .int .i64 e]) := by
  intro x hx
  simp only [List.mem_cons, List.not_mem_nil, or_false] at hx
  rcases hx with rfl | rfl | rfl <;> exact .inl ⟨_, _, rfl⟩
theorem zqs (f : Nat) (g : List AV → List AB → Option AV) (h : exthL0 f = some g) : (∃ F, Try.prog.funcs[f]? = some F ∧ (F.name == "runtime.NumGoroutine") = false ∧ F.body.isNone = false) ∧ ∀ (args : List AV) (H : List AB) (v : AV) (rargs : Array Value) (W : World) (L : Nat → Prop) (μ : Mu), g args H = some v → VL W L μ args rargs.toList → Sim Try.prog W L μ H → Globs cfgK W L →
      CallsIn Fence.wide 0 Try.prog f rargs W fun e W' => (∃ w, e = .returned w ∧ VR W' L nomu v w) ∧ Below W.heap.size W W' := by
  have kn : ∀ {f : Nat} {af : AFunc}, (∃ F, Try.prog.funcs[f]? = some F ∧ (F.name == "runtime.NumGoroutine") = false ∧ compFn Try.prog F = some af.strip) → ∃ F, Try.prog.funcs[f]? = some F ∧ (F.name == "runtime.NumGoroutine") = false ∧ ∃ af : AFunc, compFn Try.prog F = some af.strip := fun ⟨F, h1, h2, h3⟩ => ⟨F, h1, h2, _, h3⟩
  unfold exthL0 at h
  split at h
  · rename_i hf; subst hf; cases h
    obtain ⟨k1, k2⟩ := gcl_ok (spec := sBuilt) (kn is10) fun c ns v b1 b2 hs => by
      unfold sBuilt at hs
      split at hs <;> cases hs
      exact ⟨zgo _ _, 14, _, _, builtL knowsK ⟨by omega, by omega⟩ 0 _⟩
    exact ⟨k1, fun args H v rargs W L μ a b c _ => k2 args H v rargs W L μ a b c⟩
  split at h
  · rename_i hf; subst hf; cases h
    obtain ⟨k1, k2⟩ := gcl_ok (spec := sHas) (kn is12) fun c ns v b1 b2 hs => by
      unfold sHas at hs
      split at hs <;> cases hs
      exact ⟨zgo _ _, 14, _, _, hasL knowsK ⟨by omega, by omega⟩ 0 _⟩
    exact ⟨k1, fun args H v rargs W L μ a b c _ => k2 args H v rargs W L μ a b c⟩
  split at h
  · rename_i hf; subst hf; cases h
    obtain ⟨k1, k2⟩ := gcl_ok (spec := sSold) (kn is13) fun c ns v b1 b2 hs => by
      unfold sSold at hs
      split at hs <;> cases hs
      exact ⟨zgo _ _, 14, _, _, soldL knowsK ⟨by omega, by omega⟩ 0 _⟩
    exact ⟨k1, fun args H v rargs W L μ a b c _ => k2 args H v rargs W L μ a b c⟩
  split at h
  · rename_i hf; subst hf; cases h
    obtain ⟨k1, k2⟩ := gcl_ok (spec := sAll) (kn is25) fun c ns v b1 b2 hs => by
      unfold sAll at hs
      split at hs <;> cases hs
      exact ⟨zgo _ _, 14, _, _, allL knowsK ⟨by omega, by omega⟩ 0⟩
    exact ⟨k1, fun args H v rargs W L μ a b c _ => k2 args H v rargs W L μ a b c⟩
  split at h
  · rename_i hf; subst hf; cases h
    obtain ⟨k1, k2⟩ := gcl_ok (spec := sEnough) (kn is14) fun c ns v b1 b2 hs => by
      unfold sEnough at hs
      split at hs <;> cases hs
      exact ⟨zlq _ _, 14, _, _, enoughL knowsK ⟨by omega, by omega⟩ 0 _ _⟩
    exact ⟨k1, fun args H v rargs W L μ a b c _ => k2 args H v rargs W L μ a b c⟩
  split at h
  · rename_i hf; subst hf; cases h
    obtain ⟨k1, k2⟩ := gcl_ok (spec := sEmpty) (kn is26) fun c ns v b1 b2 hs => by
      unfold sEmpty at hs
      split at hs <;> cases hs
      exact ⟨ztd _ _ _, 14, _, _, emptyL knowsK ⟨by omega, by omega⟩ 0⟩
    exact ⟨k1, fun args H v rargs W L μ a b c _ => k2 args H v rargs W L μ a b c⟩
  split at h
  · rename_i hf; subst hf; cases h
    obtain ⟨k1, k2⟩ := gcl_ok (spec := sShare) (kn is15) fun c ns v b1 b2 hs => by
      unfold sShare at hs
      split at hs <;> cases hs
      exact ⟨zlq _ _, 17, _, _, shareL knowsK ⟨by omega, by omega⟩ 0 _⟩
    exact ⟨k1, fun args H v rargs W L μ a b c _ => k2 args H v rargs W L μ a b c⟩
  split at h
  · rename_i hf; subst hf; cases h
    obtain ⟨k1, k2⟩ := gcl_ok (spec := sClash) (kn is16) fun c ns v b1 b2 hs => by
      unfold sClash at hs
      split at hs <;> cases hs
      exact ⟨zlq _ _, 14, _, _, clashL knowsK ⟨by omega, by omega⟩ 0⟩
    exact ⟨k1, fun args H v rargs W L μ a b c _ => k2 args H v rargs W L μ a b c⟩
  · cases h
end K
end Ev
end Go.Proofs.Ytimgnlellflciaa

/- Chapter 09: what the laws are told; alive. -/
namespace Go.Proofs.Ytimgnlellflciaa
open Go Go.Proofs Go.RowKit
namespace Ev
namespace K
set_option maxRecDepth 1000000
noncomputable def cfgL0 : Cfg where
  fns := FT.find fnTree
  glob := fun _ => none
  dfk := fun _ => none
  ext := fun _ => none
  exth := exthL0
  calm := true
  whole := fun _ => true
theorem tblL0 : TblOk Try.prog cfgL0 := ⟨fun f fn h => FT.find_all znv h, fun _ _ h => (by cases h), fun f g h => by
  obtain ⟨k1, k2⟩ := zqs f g h
  exact ⟨k1, fun args H v rargs W L μ a b c d => k2 args H v rargs W L μ a b c (zdx _ _ _)⟩, fun _ _ _ h => (by cases h)⟩
noncomputable def isTrue (o : Option (CRes × List AB × List Nat)) : Bool := match o with
  | some (.ret (.bool b), _, _) => b
  | _ => false
theorem zph : isTrue (Ev.call cfgL0 5 (.fn (.func 19) [] []) [] []) = true := by kernel_rfl
theorem ztg (W : World) : CallsIn Fence.wide 0 Try.prog 19 #[] W fun e W' => e = .returned (.bool true) ∧ Below W.heap.size W W' := by
  have h := zph
  generalize hr : Ev.call cfgL0 5 (.fn (.func 19) [] []) [] [] = o at h
  unfold isTrue at h
  split at h
  · rename_i b H' tc
    subst h
    exact zxd tblL0 hr W (zdx _ _ _)
  · cases h
end K
end Ev
end Go.Proofs.Ytimgnlellflciaa

/- Chapter 09, gone through: the reference's check of clamps, and small functions of the laws. -/
namespace Go.Proofs.Ytimgnlellflciaa
open Go
namespace Ev
namespace K
attribute [local simp] ev1 wantG spineK spine float xnew xval xeff zaa zaq zbc zav zaw addFl cellsOf pickC alive slLen slFt binI maxA maxK minA minK aeqK aeqS AV.cells spA zar fillA setAt bitsI nat_nn zbg AV.plain apart
set_option maxRecDepth 100000
set_option maxHeartbeats 4000000
theorem zzr (C : Cfg) (call : CallF) (H : List AB) (n a b : Int) : Does (ev C call H.length none af65.body { tm := tmA af65.ntmps (zipI 0 [.int .i64 n, .int .i64 a, .int .i64 b] []), df := [], hp := H, tc := [] })
    (Ends C H.length af65.res fun v _hp tc => v = .bool (decide (a ≤ n ∧ n ≤ b)) ∧ tc = []) := by
  unfold af65
  simp only [zipI]
  by_cases h : a ≤ n
  · (repeat (first | (with_reducible apply zah; (focus ((conv => lhs; simp [Nat.testBit_eq_decide_div_mod_eq, *]) <;> exact rfl)); simp only [addFl]) | ((with_reducible first | apply zai | apply zak | apply zag | apply zae | apply zac | apply zaj | apply zaf | apply zam | (apply zad; · simp [zaa, *]) | (apply zab; · simp [zaa, *])); try simp only [Then, Ops]) | simp only [Nat.reduceEqDiff, reduceIte, OutB, Then]))
    exact zao (v := .bool (decide (n ≤ b))) (.inl rfl) rfl (by simp) (by simp only [resL, resOf, zal]; simp [resV, *]) ⟨by simp [h], rfl⟩
  · (repeat (first | (with_reducible apply zah; (focus ((conv => lhs; simp [Nat.testBit_eq_decide_div_mod_eq, *]) <;> exact rfl)); simp only [addFl]) | ((with_reducible first | apply zai | apply zak | apply zag | apply zae | apply zac | apply zaj | apply zaf | apply zam | (apply zad; · simp [zaa, *]) | (apply zab; · simp [zaa, *])); try simp only [Then, Ops]) | simp only [Nat.reduceEqDiff, reduceIte, OutB, Then]))
    exact zao (v := .bool false) (.inl rfl) rfl (by simp) (by simp only [resL, resOf, zal]; simp [resV, *]) ⟨by simp [h], rfl⟩
def RinC (call : CallF) : Prop := ∀ (H : List AB) (n a b : Int), call (.fn (.func 65) [] []) [.int .i64 n, .int .i64 a, .int .i64 b] H = some (.ret (.bool (decide (a ≤ n ∧ n ≤ b))), H, [])
theorem zue (C : Cfg) (call : CallF) (H : List AB) (s : Clm.Sp) (a b w : Int) (h0 : a = 0 ∨ a = 1) (hb : b ≤ 5000) : Does (ev C call H.length none af66.body { tm := tmA af66.ntmps (zipI 0 [spA s, .int .i64 a, .int .i64 b, .int .i64 w] []), df := [], hp := H, tc := [] })
    (Ends C H.length af66.res fun v _hp tc => v = .bool (Clm.isSpan s a b w) ∧ tc = []) := by
  by_cases h1 : a ≤ s.lo
  · by_cases h2 : s.lo ≤ s.hi
    · by_cases h3 : s.hi ≤ b
      · have w1 : IntKind.i64.wrap (s.hi - s.lo) = s.hi - s.lo := zas (by omega) (by omega)
        clear h0 hb
        have e : Clm.isSpan s a b w = decide (s.hi - s.lo ≤ w) := by simp [Clm.isSpan, h1, h2, h3]
        rw [e]; clear e
        unfold af66
        simp only [zipI, spA]
        (repeat (first | (with_reducible apply zah; (focus ((conv => lhs; simp [Nat.testBit_eq_decide_div_mod_eq, *]) <;> exact rfl)); simp only [addFl]) | ((with_reducible first | apply zai | apply zak | apply zag | apply zae | apply zac | apply zaj | apply zaf | apply zam | (apply zad; · simp [zaa, *]) | (apply zab; · simp [zaa, *])); try simp only [Then, Ops]) | simp only [Nat.reduceEqDiff, reduceIte, OutB, Then]))
        exact zao (v := .bool (decide (s.hi - s.lo ≤ w))) (.inl rfl) rfl (by simp) (by simp only [resL, resOf, zal]; simp [resV, *]) ⟨rfl, by simp⟩
      · clear h0 hb
        have e : Clm.isSpan s a b w = false := by simp [Clm.isSpan, h3]
        rw [e]; clear e
        unfold af66
        simp only [zipI, spA]
        (repeat (first | (with_reducible apply zah; (focus ((conv => lhs; simp [Nat.testBit_eq_decide_div_mod_eq, *]) <;> exact rfl)); simp only [addFl]) | ((with_reducible first | apply zai | apply zak | apply zag | apply zae | apply zac | apply zaj | apply zaf | apply zam | (apply zad; · simp [zaa, *]) | (apply zab; · simp [zaa, *])); try simp only [Then, Ops]) | simp only [Nat.reduceEqDiff, reduceIte, OutB, Then]))
        exact zao (v := .bool false) (.inl rfl) rfl (by simp) (by simp only [resL, resOf, zal]; simp [resV, *]) ⟨rfl, by simp⟩
    · clear h0 hb
      have e : Clm.isSpan s a b w = false := by simp [Clm.isSpan, h2]
      rw [e]; clear e
      unfold af66
      simp only [zipI, spA]
      (repeat (first | (with_reducible apply zah; (focus ((conv => lhs; simp [Nat.testBit_eq_decide_div_mod_eq, *]) <;> exact rfl)); simp only [addFl]) | ((with_reducible first | apply zai | apply zak | apply zag | apply zae | apply zac | apply zaj | apply zaf | apply zam | (apply zad; · simp [zaa, *]) | (apply zab; · simp [zaa, *])); try simp only [Then, Ops]) | simp only [Nat.reduceEqDiff, reduceIte, OutB, Then]))
      exact zao (v := .bool false) (.inl rfl) rfl (by simp) (by simp only [resL, resOf, zal]; simp [resV, *]) ⟨rfl, by simp⟩
  · clear h0 hb
    have e : Clm.isSpan s a b w = false := by simp [Clm.isSpan, h1]
    rw [e]; clear e
    unfold af66
    simp only [zipI, spA]
    (repeat (first | (with_reducible apply zah; (focus ((conv => lhs; simp [Nat.testBit_eq_decide_div_mod_eq, *]) <;> exact rfl)); simp only [addFl]) | ((with_reducible first | apply zai | apply zak | apply zag | apply zae | apply zac | apply zaj | apply zaf | apply zam | (apply zad; · simp [zaa, *]) | (apply zab; · simp [zaa, *])); try simp only [Then, Ops]) | simp only [Nat.reduceEqDiff, reduceIte, OutB, Then]))
    exact zao (v := .bool false) (.inl rfl) rfl (by simp) (by simp only [resL, resOf, zal]; simp [resV, *]) ⟨rfl, by simp⟩
def RspanC (call : CallF) : Prop := ∀ (H : List AB) (s : Clm.Sp) (a b w : Int), a = 0 ∨ a = 1 → b ≤ 5000 → call (.fn (.func 66) [] []) [.agg [.int .i64 s.lo, .int .i64 s.hi], .int .i64 a, .int .i64 b, .int .i64 w] H = some (.ret (.bool (Clm.isSpan s a b w)), H, [])
theorem zuf (C : Cfg) (call : CallF) (hI : RinC call) (c : Clm.Cl) (hc : c.piles.length ≤ 1000000) (H : List AB) (n : Int) : Does (ev C call H.length none af84.body { tm := tmA af84.ntmps (zipI 0 [.agg (clampCs c), .int .i64 n] []), df := [], hp := H, tc := [] })
    (Ends C H.length af84.res fun v _hp tc => v = .bool (isP c n) ∧ tc = []) := by
  have hw : IntKind.i64.wrap ((c.piles.length : Int) - 1) = (c.piles.length : Int) - 1 := zas (by omega) (by omega)
  have e : isP c n = decide (0 ≤ n ∧ n ≤ (c.piles.length : Int) - 1) := by unfold isP; congr 1; simp; omega
  have hW' := fun H => hI H n 0 ((c.piles.length : Int) - 1)
  rw [e]
  generalize decide (0 ≤ n ∧ n ≤ (c.piles.length : Int) - 1) = b at *
  clear hI e hc
  unfold af84
  simp only [zipI, clampCs] at *
  (repeat (first | (with_reducible apply zah; (focus ((conv => lhs; simp [Nat.testBit_eq_decide_div_mod_eq, *]) <;> exact rfl)); simp only [addFl]) | ((with_reducible first | apply zai | apply zak | apply zag | apply zae | apply zac | apply zaj | apply zaf | apply zam | (apply zad; · simp [zaa, *]) | (apply zab; · simp [zaa, *])); try simp only [Then, Ops]) | simp only [Nat.reduceEqDiff, reduceIte, OutB, Then]))
  exact zao (v := .bool b) (.inl rfl) rfl (by simp) (by simp only [resL, resOf, zal]; simp [resV, *]) ⟨rfl, rfl⟩
def RpileC (call : CallF) (c : Clm.Cl) : Prop := ∀ (H : List AB) (n : Int), call (.fn (.func 84) [] []) [.agg (clampCs c), .int .i64 n] H = some (.ret (.bool (isP c n)), H, [])
theorem zrm (C : Cfg) (call : CallF) (c : Clm.Cl) (hP : RpileC call c) (hS : RspanC call) (H : List AB) (v : Clm.Evt) : Does (ev C call H.length none af67.body { tm := tmA af67.ntmps (zipI 0 [.agg (clampCs c), evtE v] []), df := [], hp := H, tc := [] })
    (Ends C H.length af67.res fun w _hp tc => w = .bool (evtOk c v) ∧ tc = []) := by
  have hp := fun H => hP H v.clamp
  have h3 := fun H => hS H v.sods 0 5000 3 (.inl rfl) (by decide)
  have h5 := fun H => hS H v.sods 0 5000 5000 (.inl rfl) (by decide)
  have hev : evtOk c v = (isP c v.clamp && decide (v.kind = 0 ∨ v.kind = 1) && Clm.isSpan v.sods 0 5000 (if v.kind = 0 then 3 else 5000)) := rfl
  rw [hev]
  clear hP hS hev
  unfold af67
  simp only [zipI, clampCs, evtE] at *
  cases hb : isP c v.clamp with
  | false =>
    rw [hb] at hp
    (repeat (first | (with_reducible apply zah; (focus ((conv => lhs; simp [Nat.testBit_eq_decide_div_mod_eq, *]) <;> exact rfl)); simp only [addFl]) | ((with_reducible first | apply zai | apply zak | apply zag | apply zae | apply zac | apply zaj | apply zaf | apply zam | (apply zad; · simp [zaa, *]) | (apply zab; · simp [zaa, *])); try simp only [Then, Ops]) | simp only [Nat.reduceEqDiff, reduceIte, OutB, Then]))
    exact zao (v := .bool false) (.inl rfl) rfl (by simp) (by simp only [resL, resOf, zal]; simp [resV, *]) ⟨by simp, rfl⟩
  | true =>
    rw [hb] at hp
    by_cases k0 : v.kind = 0
    · rw [if_pos k0]
      generalize Clm.isSpan v.sods 0 5000 3 = b3 at *
      (repeat (first | (with_reducible apply zah; (focus ((conv => lhs; simp [Nat.testBit_eq_decide_div_mod_eq, *]) <;> exact rfl)); simp only [addFl]) | ((with_reducible first | apply zai | apply zak | apply zag | apply zae | apply zac | apply zaj | apply zaf | apply zam | (apply zad; · simp [zaa, *]) | (apply zab; · simp [zaa, *])); try simp only [Then, Ops, OutB]) | simp only [Nat.reduceEqDiff, reduceIte, OutB, Then]))
      exact zao (v := .bool b3) (.inl rfl) rfl (by simp) (by simp only [resL, resOf, zal]; simp [resV, *]) ⟨by simp [k0], rfl⟩
    · have k0' := beq_false_of_ne k0
      rw [if_neg k0]
      generalize Clm.isSpan v.sods 0 5000 5000 = b5 at *
      by_cases k1 : v.kind = 1
      · (repeat (first | (with_reducible apply zah; (focus ((conv => lhs; simp [Nat.testBit_eq_decide_div_mod_eq, *]) <;> exact rfl)); simp only [addFl]) | ((with_reducible first | apply zai | apply zak | apply zag | apply zae | apply zac | apply zaj | apply zaf | apply zam | (apply zad; · simp [zaa, *]) | (apply zab; · simp [zaa, *])); try simp only [Then, Ops, OutB]) | simp only [Nat.reduceEqDiff, reduceIte, OutB, Then]))
        exact zao (v := .bool b5) (.inl rfl) rfl (by simp) (by simp only [resL, resOf, zal]; simp [resV, *]) ⟨by simp [k1], rfl⟩
      · have k1' := beq_false_of_ne k1
        (repeat (first | (with_reducible apply zah; (focus ((conv => lhs; simp [Nat.testBit_eq_decide_div_mod_eq, *]) <;> exact rfl)); simp only [addFl]) | ((with_reducible first | apply zai | apply zak | apply zag | apply zae | apply zac | apply zaj | apply zaf | apply zam | (apply zad; · simp [zaa, *]) | (apply zab; · simp [zaa, *])); try simp only [Then, Ops, OutB]) | simp only [Nat.reduceEqDiff, reduceIte, OutB, Then]))
        exact zao (v := .bool false) (.inl rfl) rfl (by simp) (by simp only [resL, resOf, zal]; simp [resV, *]) ⟨by simp [k0, k1], rfl⟩
def ReventC (call : CallF) (c : Clm.Cl) : Prop := ∀ (H : List AB) (v : Clm.Evt), call (.fn (.func 67) [] []) [.agg (clampCs c), evtE v] H = some (.ret (.bool (evtOk c v)), H, [])
theorem zro (C : Cfg) (hC : C.calm = true) (call : CallF) (c : Clm.Cl) (hbig : c.piles.length ≤ 1000 ∧ c.events.length ≤ 1000) (hI : RinC call) (hS : RspanC call) (hE : ReventC call c) (H : List AB) : Does (ev C call H.length none af22.body { tm := tmA af22.ntmps (zipI 0 [.agg (clampCs c)] []), df := [], hp := H, tc := [] })
    (Ends C H.length af22.res fun w _hp tc => w = .bool (Clm.valid c) ∧ tc = []) := by
  have hw1 := fun H => hI H (c.piles.length : Int) 1 4
  have hs1 := fun H => hS H c.pack 1 5 2 (.inr rfl) (by decide)
  have e1 : decide ((1 : Int) ≤ c.piles.length ∧ (c.piles.length : Int) ≤ 4) = decide (1 ≤ c.piles.length ∧ c.piles.length ≤ 4) := by congr 1; simp; omega
  rw [e1] at hw1
  have hhead : headOk c = (decide (1 ≤ c.piles.length ∧ c.piles.length ≤ 4) && Clm.isSpan c.pack 1 5 2 && decide (c.events.length ≤ 6)) := rfl
  have hv := zpp c
  rw [hhead] at hv
  have HH := hideP (And.intro hS hE)
  rw [hv]
  clear e1 hhead hI hE hS hv
  unfold af22
  simp only [zipI, clampCs] at *
  cases h1 : decide (1 ≤ c.piles.length ∧ c.piles.length ≤ 4) with
  | false =>
    rw [h1] at hw1
    clear h1
    (repeat (first | (with_reducible apply zah; (focus ((conv => lhs; simp [Nat.testBit_eq_decide_div_mod_eq, *]) <;> exact rfl)); simp only [addFl]) | ((with_reducible first | apply zai | apply zak | apply zag | apply zae | apply zac | apply zaj | apply zaf | apply zam | (apply zad; · simp [zaa, *]) | (apply zab; · simp [zaa, *])); try simp only [Then, Ops]) | simp only [Nat.reduceEqDiff, reduceIte, OutB, Then]))
    exact zao (v := .bool false) (.inl rfl) rfl (by simp) (by simp only [resL, resOf, zal]; simp [resV, *]) ⟨by simp, rfl⟩
  | true =>
    rw [h1] at hw1
    clear h1
    cases h2 : Clm.isSpan c.pack 1 5 2 with
    | false =>
      rw [h2] at hs1
      clear h2
      (repeat (first | (with_reducible apply zah; (focus ((conv => lhs; simp [Nat.testBit_eq_decide_div_mod_eq, *]) <;> exact rfl)); simp only [addFl]) | ((with_reducible first | apply zai | apply zak | apply zag | apply zae | apply zac | apply zaj | apply zaf | apply zam | (apply zad; · simp [zaa, *]) | (apply zab; · simp [zaa, *])); try simp only [Then, Ops]) | simp only [Nat.reduceEqDiff, reduceIte, OutB, Then]))
      exact zao (v := .bool false) (.inl rfl) rfl (by simp) (by simp only [resL, resOf, zal]; simp [resV, *]) ⟨by simp, rfl⟩
    | true =>
      rw [h2] at hs1
      clear h2
      by_cases h3 : c.events.length ≤ 6
      · have h3' : ¬ (6 : Int) < c.events.length := by omega
        rw [decide_eq_true h3]
        simp only [Bool.true_and]
        (repeat (first | (with_reducible apply zah; (focus ((conv => lhs; simp [Nat.testBit_eq_decide_div_mod_eq, *]) <;> exact rfl)); simp only [addFl]) | ((with_reducible first | apply zai | apply zak | apply zag | apply zae | apply zac | apply zaj | apply zaf | apply zam | (apply zad; · simp [zaa, *]) | (apply zab; · simp [zaa, *])); try simp only [Then, Ops]) | simp only [Nat.reduceEqDiff, reduceIte, OutB, Then]))
        clear hw1 hs1
        have hp1 := hbig.1
        with_reducible refine zaz hC c.piles.length (by unfold fuelL; omega) (fun i st => ∃ J, (∀ j p, j < i → c.piles[j]? = some p → pileOk p = true) ∧ st = { tm := tmA 66 [(3, .int .i64 i), (1, .ptr H.length 0)], df := [], hp := H ++ .cells [.vs 6 (c.piles.map pileE), .int .i64 c.pack.lo, .int .i64 c.pack.hi, .vs 4 (c.events.map evtE)] :: J, tc := [] }) ?_ ?_ ?_
        · refine ⟨[], by simp, ?_⟩
          (refine st_is ?_ ?_ ?_ ?_; (focus (simp [zan, zap])); (focus rfl); (focus (first | rfl | (simp; done) | (simp [*]; done) | (simp; rfl) | (simp [*]; omega) | (simp; omega))); (focus (first | rfl | simp)))
        · rintro i st hi ⟨J, hok, rfl⟩
          have hgp : c.piles[i]? = some c.piles[i] := List.getElem?_eq_getElem hi
          generalize c.piles[i] = p at hgp
          have hgp' := ge_of hgp
          have hwi : IntKind.i64.wrap (↑i + 1) = ↑i + 1 := zas (by omega) (by omega)
          have q1 := fun H => HH.out.1 H p.long 1 10 1 (.inr rfl) (by decide)
          have q2 := fun H => HH.out.1 H p.wide 1 10 1 (.inr rfl) (by decide)
          have q3 := fun H => HH.out.1 H p.high 1 10 1 (.inr rfl) (by decide)
          have hpo : pileOk p = (Clm.isSpan p.long 1 10 1 && Clm.isSpan p.wide 1 10 1 && Clm.isSpan p.high 1 10 1) := rfl
          have hnext : pileOk p = true → ∀ j q, j < i + 1 → c.piles[j]? = some q → pileOk q = true := by
            intro ho j q hj hq
            by_cases h : j = i
            · subst h; rw [hgp] at hq; cases hq; exact ho
            · exact hok j q (by omega) hq
          have hbad : pileOk p = false → c.piles.all pileOk = false := fun h => by
            rw [List.all_eq_false]
            exact ⟨p, List.mem_of_getElem? hgp, by rw [h]; decide⟩
          have HN := hideP (And.intro hnext hbad)
          clear hnext hbad hok hgp HH
          cases b1 : Clm.isSpan p.long 1 10 1 with
          | false =>
            rw [b1] at q1 hpo
            have HP := hideP (HN.out.2 (by rw [hpo]; rfl))
            clear hpo b1
            (repeat (first | (with_reducible apply zah; (focus ((conv => lhs; simp [pileE, Nat.testBit_eq_decide_div_mod_eq, *]) <;> exact rfl)); simp only [addFl]) | ((with_reducible first | apply zai | apply zak | apply zag | apply zae | apply zac | apply zaj | apply zaf | apply zam | (apply zad; · simp [zaa, *]) | (apply zab; · simp [zaa, *])); try simp only [Then, Ops, OutB]) | simp only [Nat.reduceEqDiff, reduceIte, OutB, Then]))
            exact zao (v := .bool false) (.inl rfl) rfl (by simp) (by simp only [resL, resOf, zal]; simp [resV, *]) ⟨by rw [HP.out]; rfl, by simp⟩
          | true =>
            rw [b1] at q1 hpo
            cases b2 : Clm.isSpan p.wide 1 10 1 with
            | false =>
              rw [b2] at q2 hpo
              have HP := hideP (HN.out.2 (by rw [hpo]; rfl))
              clear hpo b1 b2
              (repeat (first | (with_reducible apply zah; (focus ((conv => lhs; simp [pileE, Nat.testBit_eq_decide_div_mod_eq, *]) <;> exact rfl)); simp only [addFl]) | ((with_reducible first | apply zai | apply zak | apply zag | apply zae | apply zac | apply zaj | apply zaf | apply zam | (apply zad; · simp [zaa, *]) | (apply zab; · simp [zaa, *])); try simp only [Then, Ops, OutB]) | simp only [Nat.reduceEqDiff, reduceIte, OutB, Then]))
              exact zao (v := .bool false) (.inl rfl) rfl (by simp) (by simp only [resL, resOf, zal]; simp [resV, *]) ⟨by rw [HP.out]; rfl, by simp⟩
            | true =>
              rw [b2] at q2 hpo
              cases b3 : Clm.isSpan p.high 1 10 1 with
              | false =>
                rw [b3] at q3 hpo
                have HP := hideP (HN.out.2 (by rw [hpo]; rfl))
                clear hpo b1 b2 b3
                (repeat (first | (with_reducible apply zah; (focus ((conv => lhs; simp [pileE, Nat.testBit_eq_decide_div_mod_eq, *]) <;> exact rfl)); simp only [addFl]) | ((with_reducible first | apply zai | apply zak | apply zag | apply zae | apply zac | apply zaj | apply zaf | apply zam | (apply zad; · simp [zaa, *]) | (apply zab; · simp [zaa, *])); try simp only [Then, Ops, OutB]) | simp only [Nat.reduceEqDiff, reduceIte, OutB, Then]))
                exact zao (v := .bool false) (.inl rfl) rfl (by simp) (by simp only [resL, resOf, zal]; simp [resV, *]) ⟨by rw [HP.out]; rfl, by simp⟩
              | true =>
                rw [b3] at q3 hpo
                have HP := hideP (HN.out.1 (by rw [hpo]; rfl))
                clear hpo b1 b2 b3
                (repeat (first | (with_reducible apply zah; (focus ((conv => lhs; simp [pileE, Nat.testBit_eq_decide_div_mod_eq, *]) <;> exact rfl)); simp only [addFl]) | ((with_reducible first | apply zai | apply zak | apply zag | apply zae | apply zac | apply zaj | apply zaf | apply zam | (apply zad; · simp [zaa, *]) | (apply zab; · simp [zaa, *])); try simp only [Then, Ops, OutB]) | simp only [Nat.reduceEqDiff, reduceIte, OutB, Then]))
                with_reducible refine ⟨?_, HP.out, ?_⟩
                rotate_left
                (refine st_is ?_ ?_ ?_ ?_; (focus (simp [zan, zap])); (focus rfl); (focus (first | rfl | (simp; done) | (simp [*]; done) | (simp; rfl) | (simp [*]; omega) | (simp; omega))); (focus (first | rfl | simp)))
        · rintro st ⟨J, hok, rfl⟩
          have hall : c.piles.all pileOk = true := by
            rw [List.all_eq_true]
            intro p hp
            obtain ⟨j, hj⟩ := List.mem_iff_getElem?.1 hp
            exact hok j p (List.getElem?_eq_some_iff.1 hj).1 hj
          rw [hall]
          simp only [Bool.true_and]
          clear hok hall
          (repeat (first | (with_reducible apply zah; (focus ((conv => lhs; simp [Nat.testBit_eq_decide_div_mod_eq, *]) <;> exact rfl)); simp only [addFl]) | ((with_reducible first | apply zai | apply zak | apply zag | apply zae | apply zac | apply zaj | apply zaf | apply zam | (apply zad; · simp [zaa, *]) | (apply zab; · simp [zaa, *])); try simp only [Then, Ops, OutB, reduceIte]) | simp only [Nat.reduceEqDiff, reduceIte, OutB, Then]))
          have hp2 := hbig.2
          with_reducible refine zaz hC c.events.length (by unfold fuelL; omega) (fun i st => (∀ j v, j < i → c.events[j]? = some v → evtOk c v = true) ∧ st = { tm := tmA 66 [(5, .int .i64 i), (1, .ptr H.length 0)], df := [], hp := H ++ .cells [.vs 6 (c.piles.map pileE), .int .i64 c.pack.lo, .int .i64 c.pack.hi, .vs 4 (c.events.map evtE)] :: J, tc := [] }) ?_ ?_ ?_
          · refine ⟨by simp, ?_⟩
            (refine st_is ?_ ?_ ?_ ?_; (focus (simp [zan, zap])); (focus rfl); (focus (first | rfl | (simp; done) | (simp [*]; done) | (simp; rfl) | (simp [*]; omega) | (simp; omega))); (focus (first | rfl | simp)))
          · rintro i st hi ⟨hok, rfl⟩
            have hgv : c.events[i]? = some c.events[i] := List.getElem?_eq_getElem hi
            generalize c.events[i] = v at hgv
            have hgv' := ge_of hgv
            have hwi : IntKind.i64.wrap (↑i + 1) = ↑i + 1 := zas (by omega) (by omega)
            have q1 := fun H => HH.out.2 H v
            simp only [evtE, clampCs] at q1
            have hnext : evtOk c v = true → ∀ j q, j < i + 1 → c.events[j]? = some q → evtOk c q = true := by
              intro ho j q hj hq
              by_cases h : j = i
              · subst h; rw [hgv] at hq; cases hq; exact ho
              · exact hok j q (by omega) hq
            have hbad : evtOk c v = false → c.events.all (evtOk c) = false := fun h => by
              rw [List.all_eq_false]
              exact ⟨v, List.mem_of_getElem? hgv, by rw [h]; decide⟩
            have HN := hideP (And.intro hnext hbad)
            clear hnext hbad hok hgv HH
            cases b1 : evtOk c v with
            | false =>
              rw [b1] at q1
              have HP := hideP (HN.out.2 b1)
              clear b1
              (repeat (first | (with_reducible apply zah; (focus ((conv => lhs; simp [evtE, Nat.testBit_eq_decide_div_mod_eq, *]) <;> exact rfl)); simp only [addFl]) | ((with_reducible first | apply zai | apply zak | apply zag | apply zae | apply zac | apply zaj | apply zaf | apply zam | (apply zad; · simp [zaa, *]) | (apply zab; · simp [zaa, *])); try simp only [Then, Ops, OutB]) | simp only [Nat.reduceEqDiff, reduceIte, OutB, Then]))
              exact zao (v := .bool false) (.inl rfl) rfl (by simp) (by simp only [resL, resOf, zal]; simp [resV, *]) ⟨by rw [HP.out], by simp⟩
            | true =>
              rw [b1] at q1
              have HP := hideP (HN.out.1 b1)
              clear b1
              (repeat (first | (with_reducible apply zah; (focus ((conv => lhs; simp [evtE, Nat.testBit_eq_decide_div_mod_eq, *]) <;> exact rfl)); simp only [addFl]) | ((with_reducible first | apply zai | apply zak | apply zag | apply zae | apply zac | apply zaj | apply zaf | apply zam | (apply zad; · simp [zaa, *]) | (apply zab; · simp [zaa, *])); try simp only [Then, Ops, OutB]) | simp only [Nat.reduceEqDiff, reduceIte, OutB, Then]))
              with_reducible refine ⟨HP.out, ?_⟩
              (refine st_is ?_ ?_ ?_ ?_; (focus (simp [zan, zap])); (focus rfl); (focus (first | rfl | (simp; done) | (simp [*]; done) | (simp; rfl) | (simp [*]; omega) | (simp; omega))); (focus (first | rfl | simp)))
          · rintro st ⟨hok, rfl⟩
            have hall : c.events.all (evtOk c) = true := by
              rw [List.all_eq_true]
              intro p hp
              obtain ⟨j, hj⟩ := List.mem_iff_getElem?.1 hp
              exact hok j p (List.getElem?_eq_some_iff.1 hj).1 hj
            rw [hall]
            clear hok hall
            (repeat (first | (with_reducible apply zah; (focus ((conv => lhs; simp [Nat.testBit_eq_decide_div_mod_eq, *]) <;> exact rfl)); simp only [addFl]) | ((with_reducible first | apply zai | apply zak | apply zag | apply zae | apply zac | apply zaj | apply zaf | apply zam | (apply zad; · simp [zaa, *]) | (apply zab; · simp [zaa, *])); try simp only [Then, Ops, OutB, reduceIte]) | simp only [Nat.reduceEqDiff, reduceIte, OutB, Then]))
            exact zao (v := .bool true) (.inl rfl) rfl (by simp) (by simp only [resL, resOf, zal]; simp [resV, *]) ⟨rfl, by simp⟩
      · have h3' : (6 : Int) < c.events.length := by omega
        rw [decide_eq_false h3]
        (repeat (first | (with_reducible apply zah; (focus ((conv => lhs; simp [Nat.testBit_eq_decide_div_mod_eq, *]) <;> exact rfl)); simp only [addFl]) | ((with_reducible first | apply zai | apply zak | apply zag | apply zae | apply zac | apply zaj | apply zaf | apply zam | (apply zad; · simp [zaa, *]) | (apply zab; · simp [zaa, *])); try simp only [Then, Ops]) | simp only [Nat.reduceEqDiff, reduceIte, OutB, Then]))
        exact zao (v := .bool false) (.inl rfl) rfl (by simp) (by simp only [resL, resOf, zal]; simp [resV, *]) ⟨by simp, rfl⟩
theorem zym (C : Cfg) (call : CallF) (c : Clm.Cl) (H : List AB) : Does (ev C call H.length none af21.body { tm := tmA af21.ntmps (zipI 0 [.agg (clampCs c)] []), df := [], hp := H, tc := [] })
    (Ends C H.length af21.res fun w _hp tc => w = .bool (decide (max c.piles.length c.events.length > 40)) ∧ tc = []) := by
  have e : decide ((40 : Int) < max (c.piles.length : Int) (c.events.length : Int)) = decide (max c.piles.length c.events.length > 40) := by congr 1; simp; omega
  rw [← e]
  unfold af21
  simp only [zipI, clampCs]
  (repeat (first | (with_reducible apply zah; (focus ((conv => lhs; simp [Nat.testBit_eq_decide_div_mod_eq, *]) <;> exact rfl)); simp only [addFl]) | ((with_reducible first | apply zai | apply zak | apply zag | apply zae | apply zac | apply zaj | apply zaf | apply zam | (apply zad; · simp [zaa, *]) | (apply zab; · simp [zaa, *])); try simp only [Then, Ops]) | simp only [Nat.reduceEqDiff, reduceIte, OutB, Then]))
  exact zao (v := .bool (decide ((40 : Int) < max (c.piles.length : Int) (c.events.length : Int)))) (.inl rfl) rfl (by simp) (by simp only [resL, resOf, zal]; simp [resV, *]) ⟨rfl, rfl⟩
theorem zvk (C : Cfg) (call : CallF) (H : List AB) (a b : Int) : Does (ev C call H.length none af20.body { tm := tmA af20.ntmps (zipI 0 [.int .i64 a, .int .i64 b] []), df := [], hp := H, tc := [] })
    (Ends C H.length af20.res fun w _hp tc => w = spA ⟨a, b⟩ ∧ tc = []) := by
  unfold af20
  simp only [zipI]
  (repeat (first | (with_reducible apply zah; (focus ((conv => lhs; simp [Nat.testBit_eq_decide_div_mod_eq, *]) <;> exact rfl)); simp only [addFl]) | ((with_reducible first | apply zai | apply zak | apply zag | apply zae | apply zac | apply zaj | apply zaf | apply zam | (apply zad; · simp [zaa, *]) | (apply zab; · simp [zaa, *])); try simp only [Then, Ops]) | simp only [Nat.reduceEqDiff, reduceIte, OutB, Then]))
  exact zao (v := spA ⟨a, b⟩) (.inl rfl) rfl (by simp) (by simp only [resL, resOf, zal]; simp [pickC, resV, spA, *]) ⟨rfl, by simp⟩
end K
end Ev
end Go.Proofs.Ytimgnlellflciaa

/- What the laws of chapter 09 are told. -/
namespace Go.Proofs.Ytimgnlellflciaa
open Go
namespace Ev
namespace K
set_option maxRecDepth 100000
set_option maxHeartbeats 4000000
def hasG (c : Clm.Cl) (n : Int) : Clm.Sp := Clm.ofAll c n.toNat fun _ => Clm.leftW c
structure LApi (call : CallF) : Prop where
  built : ∀ {H v c}, clOf H v = some c → ∀ n, call (.fn (.func 10) [] []) [v, .int .i64 n] H = some (.ret (spanR c (isP c n) (Clm.ofAll c n.toNat builtG)), H, [])
  has : ∀ {H v c}, clOf H v = some c → ∀ n, call (.fn (.func 12) [] []) [v, .int .i64 n] H = some (.ret (spanR c (isP c n) (hasG c n)), H, [])
  sold : ∀ {H v c}, clOf H v = some c → ∀ n, call (.fn (.func 13) [] []) [v, .int .i64 n] H = some (.ret (spanR c (isP c n) (Clm.ofAll c n.toNat (soldG c))), H, [])
  all : ∀ {H v c}, clOf H v = some c → call (.fn (.func 25) [] []) [v] H = some (.ret (spanR c true (Clm.together c (fullP c))), H, [])
  enough : ∀ {H v c}, clOf H v = some c → ∀ n s, call (.fn (.func 14) [] []) [v, .int .i64 n, .int .i64 s] H = some (.ret (numR c (isP c n && isS s) (enoughN (Clm.together c (2 ^ n.toNat)) s)), H, [])
  empty : ∀ {H v c}, clOf H v = some c → call (.fn (.func 26) [] []) [v] H = some (.ret (emptyR c), H, [])
  share : ∀ {H v c}, clOf H v = some c → ∀ s, call (.fn (.func 15) [] []) [v, .int .i64 s] H = some (.ret (shareR c s), H, [])
  clash : ∀ {H v c}, clOf H v = some c → call (.fn (.func 16) [] []) [v] H = some (.ret (clashR c), H, [])
  valid : ∀ {H v c}, clOf H v = some c → call (.fn (.func 22) [] []) [v] H = some (.ret (.bool (Clm.valid c)), H, [])
  alive : ∀ {H}, call (.fn (.func 19) [] []) [] H = some (.ret (.bool true), H, [])
  long : ∀ {H} (c : Clm.Cl), call (.fn (.func 21) [] []) [.agg (clampCs c)] H = some (.ret (.bool (decide (max c.piles.length c.events.length > 40))), H, [])
  span : ∀ {H} (a b : Int), call (.fn (.func 20) [] []) [.int .i64 a, .int .i64 b] H = some (.ret (.agg [.int .i64 a, .int .i64 b]), H, [])
end K
end Ev
end Go.Proofs.Ytimgnlellflciaa

/- The laws of chapter 09: their configuration. -/
namespace Go.Proofs.Ytimgnlellflciaa
open Go Go.Proofs Go.RowKit
namespace Ev
namespace K
set_option maxRecDepth 100000
set_option maxHeartbeats 4000000
structure KnowsR (C : Cfg) : Prop where
  calm : C.calm = true
  rin : Has C 65 af65
  rspan : Has C 66 af66
  rpile : Has C 84 af84
  revent : Has C 67 af67
  rclamp : Has C 22 af22
theorem knowsR : KnowsR cfgK where
  calm := rfl
  rin := has_of rfl rfl (by kernel_rfl) rfl
  rspan := has_of rfl rfl (by kernel_rfl) rfl
  rpile := has_of rfl rfl (by kernel_rfl) rfl
  revent := has_of rfl rfl (by kernel_rfl) rfl
  rclamp := has_of rfl rfl (by kernel_rfl) rfl
theorem validL (c : Clm.Cl) (hp : c.piles.length ≤ 40) (he : c.events.length ≤ 41) : Ev.call cfgK 4 (.fn (.func 22) [] []) [.agg (clampCs c)] [] = some (.ret (.bool (Clm.valid c)), [], []) := by
  have k := knowsR
  have h1 : ∀ n, RinC (Ev.call cfgK (n + 1)) := fun n H a b c => zbd k.calm k.rin (le' rfl) rfl (zzr cfgK _ H a b c)
  have h2 : ∀ n, RspanC (Ev.call cfgK (n + 1)) := fun n H s a b w q1 q2 => zbd k.calm k.rspan (le' rfl) rfl (zue cfgK _ H s a b w q1 q2)
  have h3 : ∀ n, RpileC (Ev.call cfgK (n + 2)) c := fun n H m => zbd k.calm k.rpile (le' rfl) rfl (zuf cfgK _ (h1 n) c (by omega) H m)
  have h4 : ∀ n, ReventC (Ev.call cfgK (n + 3)) c := fun n H v => zbd k.calm k.revent (le' rfl) rfl (zrm cfgK _ c (h3 n) (h2 (n + 1)) H v)
  exact zbd k.calm k.rclamp (le' rfl) rfl (zro cfgK k.calm _ c ⟨by omega, by omega⟩ (h1 2) (h2 2) (h4 0) [])
def sValid (c : Clm.Cl) : List Int → Option AV | [] => some (.bool (Clm.valid c)) | _ => none
def gAlive (args : List AV) (_ : List AB) : Option AV := match args with | [] => some (.bool true) | _ => none
noncomputable def exthL (f : Nat) : Option (List AV → List AB → Option AV) := if f = 22 then some (gCl sValid) else if f = 19 then some gAlive else exthL0 f
noncomputable def cfgL (t : FT) : Cfg where
  fns := FT.find t
  glob := fun _ => none
  dfk := fun _ => none
  ext := fun _ => none
  exth := exthL
  calm := true
  whole := fun _ => true
def IsTree (t : FT) : Prop := FT.All (fun k af => ∃ F, Try.prog.funcs[k]? = some F ∧ (F.name == "runtime.NumGoroutine") = false ∧ compFn Try.prog F = some af.strip) t
theorem tblL {t : FT} (ht : IsTree t) : TblOk Try.prog (cfgL t) := by
  refine ⟨fun f fn h => FT.find_all ht h, fun _ _ h => (by cases h), fun f g h => ?_, fun _ _ _ h => (by cases h)⟩
  have h' : exthL f = some g := h
  unfold exthL at h'
  split at h'
  · rename_i hf; subst hf; cases h'
    obtain ⟨F, f1, f2, f3⟩ := is22
    obtain ⟨k1, k2⟩ := gcl_ok (spec := sValid) ⟨F, f1, f2, _, f3⟩ fun c ns v b1 b2 hs => by
      unfold sValid at hs
      split at hs <;> cases hs
      exact ⟨trivial, 4, _, _, validL c b1 b2⟩
    exact ⟨k1, fun args H v rargs W L μ a b c _ => k2 args H v rargs W L μ a b c⟩
  split at h'
  · rename_i hf; subst hf; cases h'
    obtain ⟨F, f1, f2, f3⟩ := is19
    refine ⟨known _ ⟨F, f1, f2, _, f3⟩, fun args H v rargs W L μ hv hr hs hG => ?_⟩
    unfold gAlive at hv
    split at hv
    · cases hv
      have : rargs = #[] := Array.ext' (List.eq_nil_of_length_eq_zero (by have := hr.1; simpa using this.symm))
      subst this
      exact (ztg W).mono fun e W' ⟨h1, h2⟩ => ⟨⟨_, h1, .bool⟩, h2⟩
    · cases hv
  · obtain ⟨k1, k2⟩ := zqs f g h'
    exact ⟨k1, fun args H v rargs W L μ a b c d => k2 args H v rargs W L μ a b c (zdx _ _ _)⟩
theorem zch {t : FT} {f : Nat} {spec : Clm.Cl → List Int → Option AV} (h : exthL f = some (gCl spec)) (n : Nat) {H : List AB} {v : AV} {c : Clm.Cl} (hc : clOf H v = some c) (ns : List Int) {w : AV} (hs : spec c ns = some w) : Ev.call (cfgL t) (n + 1) (.fn (.func f) [] []) (v :: ns.map (AV.int .i64)) H = some (.ret w, H, []) := by
  show enter (cfgL t) (Ev.call (cfgL t) n) f ([] ++ (v :: ns.map (AV.int .i64)) ++ []) H = _
  unfold enter
  have h1 : (cfgL t).ext f = none := rfl
  have h2 : (cfgL t).exth f = some (gCl spec) := h
  rw [h1, h2]
  have hi : ∀ ns : List Int, intsOf (ns.map (AV.int .i64)) = some ns := by
    intro ns
    induction ns with
    | nil => rfl
    | cons a l ih => simp [intsOf, ih]
  have h3 : gCl spec ([] ++ (v :: ns.map (AV.int .i64)) ++ []) H = some w := by
    simp [gCl, hc, hi, hs]
  simp only [h3, Option.map_some]
theorem lapi {t : FT} (hl : Has (cfgL t) 21 af21) (hs : Has (cfgL t) 20 af20) (n : Nat) : LApi (Ev.call (cfgL t) (n + 1)) where
  built hc m := zch (spec := sBuilt) rfl n hc [m] rfl
  has hc m := zch (spec := sHas) rfl n hc [m] rfl
  sold hc m := zch (spec := sSold) rfl n hc [m] rfl
  all hc := zch (spec := sAll) rfl n hc [] rfl
  enough hc m s := zch (spec := sEnough) rfl n hc [m, s] rfl
  empty hc := zch (spec := sEmpty) rfl n hc [] rfl
  share hc s := zch (spec := sShare) rfl n hc [s] rfl
  clash hc := zch (spec := sClash) rfl n hc [] rfl
  valid hc := zch (spec := sValid) rfl n hc [] rfl
  alive {H} := by
    show enter (cfgL t) (Ev.call (cfgL t) n) 19 ([] ++ [] ++ []) H = some (.ret (.bool true), H, [])
    unfold enter
    have h1 : (cfgL t).ext 19 = none := rfl
    have h2 : (cfgL t).exth 19 = some gAlive := rfl
    rw [h1, h2]; rfl
  long {H} c := zbd rfl hl (le' rfl) rfl (zym (cfgL t) _ c H)
  span {H} a b := zbd rfl hs (le' rfl) rfl (zvk (cfgL t) _ H a b)
end K
end Ev
end Go.Proofs.Ytimgnlellflciaa
