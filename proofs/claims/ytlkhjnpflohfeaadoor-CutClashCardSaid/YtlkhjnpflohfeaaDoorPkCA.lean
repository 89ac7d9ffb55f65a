/- The Go function CutClash returns true, for every argument, in every world in which cut.dry holds what the program's text lays; nothing that was there is turned. -/
import Derived.Test.YtlkhjnpflohfeaaDoorCoreD
import Derived.Test.YtlkhjnpflohfeaaDoorCoreF
import Derived.Test.YtlkhjnpflohfeaaDoorCoreC
import Derived.Test.YtlkhjnpflohfeaaDoorCoreL
import Derived.OpenShut
import Derived.Deep.Slices
import Derived.Deep.Fields
import Derived.ChangeSame
import Derived.Test.YtlkhjnpflohfeaaDoorRows
import Derived.LaidLaws
import Derived.ProofKit
import Derived.JoinedOf
import Derived.LaidHandle
import Derived.Stop.Joined
import Derived.Test.YtlkhjnpflohfeaaDoorCards
import Derived.Test.YtlkhjnpflohfeaaDoorTie
import Derived.SevenTiedAt
/- Cuts with other lists. -/
namespace Go.Proofs.YtlkhjnpflohfeaaDoor
open Go
namespace Ev
/-- A list of looks as a value. -/
def looksV (H : List AB) (v : AV) (ls : List Look) : Prop := (slCells 3 H v).bind looksC = some ls
def spansV (H : List AB) (v : AV) (r : List (Int × Int)) : Prop := (slCells 2 H v).bind spansC = some r
theorem cutOf_of {H : List AB} {rv lv : AV} {a b k l m : Int} {r : List (Int × Int)} {bs : List Boat} {ls : List Look} (hr : spansV H rv r) (hl : looksV H lv ls) :
    cutOf H (.agg [.int .i64 a, .int .i64 b, .int .i64 k, .int .i64 l, rv, .int .i64 m, .vs 4 (bs.map boatE), lv]) = some ⟨(a, b), (k, l), r, m, bs, ls⟩ := by
  unfold spansV at hr
  unfold looksV at hl
  have hb : (slCells 4 H (.vs 4 (bs.map boatE))).bind boatsC = some bs := by simp [slCells]
  simp only [cutOf, hr, hl, hb]
theorem spansV_vs (H : List AB) (r : List (Int × Int)) : spansV H (.vs 2 (r.map spanE)) r := by simp [spansV, slCells]
theorem looksV_vs (H : List AB) (r : List Look) : looksV H (.vs 3 (r.map lookE)) r := by simp [looksV, slCells]
theorem looksV_nil (H : List AB) : looksV H .nils [] := by simp [looksV, slCells, looksC]
theorem spansV_sl {H : List AB} {b n : Nat} {r : List (Int × Int)} (h : H[b]? = some (.cells (spanCs r))) (hn : n = r.length) : spansV H (.sl b 0 n 2) r := by
  subst hn
  simp only [spansV, slCells, h, if_true, Nat.zero_add, spanCs_len, Nat.le_refl, List.drop_zero]
  rw [List.take_of_length_le (by simp)]
  simp
theorem looksV_sl {H : List AB} {b n : Nat} {r : List Look} (h : H[b]? = some (.cells (lookCs r))) (hn : n = r.length) : looksV H (.sl b 0 n 3) r := by
  subst hn
  simp only [looksV, slCells, h, if_true, Nat.zero_add, lookCs_len, Nat.le_refl, List.drop_zero]
  rw [List.take_of_length_le (by simp)]
  simp
@[simp] theorem slCells_spans (H : List AB) (r : List (Int × Int)) : slCells 2 H (.vs 2 (r.map spanE)) = some (spanCs r) := by simp [slCells]
@[simp] theorem slCells_looks (H : List AB) (r : List Look) : slCells 3 H (.vs 3 (r.map lookE)) = some (lookCs r) := by simp [slCells]
@[simp] theorem slCells_boats (H : List AB) (r : List Boat) : slCells 4 H (.vs 4 (r.map boatE)) = some (boatCs r) := by simp [slCells]
theorem slCells_sl (k : Nat) (H : List AB) (b off n k' : Nat) : slCells k H (.sl b off n k') = if k = k' then (match H[b]? with | some (.cells cs) => if off + n * k ≤ cs.length then some ((cs.drop off).take (n * k)) else none | _ => none) else none := rfl
@[simp] theorem spanCs_plain : ∀ r, (spanCs r).all AV.plain = true
  | [] => rfl
  | s :: l => by simp only [spanCs, List.all_cons, spanCs_plain l]; rfl
@[simp] theorem boatCs_plain : ∀ r, (boatCs r).all AV.plain = true
  | [] => rfl
  | s :: l => by simp only [boatCs, List.all_cons, boatCs_plain l]; rfl
@[simp] theorem lookCs_plain : ∀ r, (lookCs r).all AV.plain = true
  | [] => rfl
  | s :: l => by simp only [lookCs, List.all_cons, lookCs_plain l]; rfl
/-! Cells of spans. -/
theorem spanCs_0 : ∀ (r : List (Int × Int)) (i : Nat) (h : i < r.length), (spanCs r)[i * 2]? = some (.int .i64 r[i].1) ∧ (spanCs r)[i * 2 + 1]? = some (.int .i64 r[i].2)
  | [], i, h => by simp at h
  | s :: l, 0, h => by simp [spanCs]
  | s :: l, i + 1, h => by
    have ih := spanCs_0 l i (by simpa using h)
    rw [show (i + 1) * 2 = i * 2 + 1 + 1 by omega]
    simpa [spanCs] using ih
theorem spanCs_set0 : ∀ (r : List (Int × Int)) (i : Nat) (v : Int) (h : i < r.length), (spanCs r).take (i * 2) ++ .int .i64 v :: (spanCs r).drop (i * 2 + 1) = spanCs (r.set i (v, r[i].2))
  | [], i, v, h => by simp at h
  | s :: l, 0, v, h => by simp [spanCs]
  | s :: l, i + 1, v, h => by
    have ih := spanCs_set0 l i v (by simpa using h)
    rw [show (i + 1) * 2 = i * 2 + 1 + 1 by omega]
    simpa [spanCs] using ih
theorem spanCs_set1 : ∀ (r : List (Int × Int)) (i : Nat) (v : Int) (h : i < r.length), (spanCs r).take (i * 2 + 1) ++ .int .i64 v :: (spanCs r).drop (i * 2 + 2) = spanCs (r.set i (r[i].1, v))
  | [], i, v, h => by simp at h
  | s :: l, 0, v, h => by simp [spanCs]
  | s :: l, i + 1, v, h => by
    have ih := spanCs_set1 l i v (by simpa using h)
    rw [show (i + 1) * 2 = i * 2 + 1 + 1 by omega]
    simpa [spanCs] using ih
/-! Blocks behind others. -/
@[simp] theorem app_get0 {α : Type} (j l : List α) : (j ++ l)[j.length]? = l[0]? := by rw [List.getElem?_append_right (Nat.le_refl _), Nat.sub_self]
@[simp] theorem app_get {α : Type} (j l : List α) (k : Nat) : (j ++ l)[j.length + k]? = l[k]? := by simp [List.getElem?_append_right]
@[simp] theorem app_set0 {α : Type} (j l : List α) (v : α) : (j ++ l).set j.length v = j ++ l.set 0 v := by simp
@[simp] theorem app_set {α : Type} (j l : List α) (k : Nat) (v : α) : (j ++ l).set (j.length + k) v = j ++ l.set k v := by simp
theorem st_eq {st : St} {tm : List AV} {df : List ADef} {hp : List AB} {tc : List Nat} (h1 : st.tm = tm) (h2 : st.df = df) (h3 : st.hp = hp) (h4 : st.tc = tc) : st = ⟨tm, df, hp, tc⟩ := by
  subst h1 h2 h3 h4; rfl
theorem andnot_zero {a m : Nat} (_ha : a < 1048576) (_hm : m < 1048576) (h : ∀ j, a.testBit j = true → m.testBit j = true) :
    IntKind.i64.wrap ((BitVec.ofInt IntKind.i64.bits (a : Int) &&& ~~~ BitVec.ofInt IntKind.i64.bits (m : Int)).toNat) = 0 := by
  have hb : IntKind.i64.bits = 64 := rfl
  rw [hb]
  have e : (BitVec.ofInt 64 (a : Int) &&& ~~~ BitVec.ofInt 64 (m : Int)) = 0#64 := by
    apply BitVec.eq_of_getLsbD_eq
    intro i hi
    have e1 : BitVec.ofInt 64 (a : Int) = BitVec.ofNat 64 a := by simp
    have e2 : BitVec.ofInt 64 (m : Int) = BitVec.ofNat 64 m := by simp
    rw [e1, e2]
    simp only [BitVec.getLsbD_and, BitVec.getLsbD_not, BitVec.getLsbD_ofNat, hi, decide_true, Bool.true_and]
    cases h1 : a.testBit i with
    | false => simp
    | true => rw [h i h1]; simp
  rw [e]
  rfl
end Ev
end Go.Proofs.YtlkhjnpflohfeaaDoor

/- The law CutClash, gone through. -/
namespace Go.Proofs.YtlkhjnpflohfeaaDoor
open Go
namespace Ev
set_option maxRecDepth 100000
theorem andnot_bit : ∀ S, S < 32 → ∀ i, i < 5 → S.testBit i = true → IntKind.i64.wrap ((BitVec.ofInt IntKind.i64.bits ((S : Nat) : Int) &&& ~~~ BitVec.ofInt IntKind.i64.bits ((2 ^ i : Nat) : Int)).toNat) = ((S - 2 ^ i : Nat) : Int) := by decide +kernel
theorem and_own (w : Int) (P : Nat) (hP : 0 < P) (hP2 : P ≤ 32) : ∃ o : Nat, o < P ∧ IntKind.i64.wrap ((BitVec.ofInt IntKind.i64.bits w &&& BitVec.ofInt IntKind.i64.bits ((P : Int) - 1)).toNat) = (o : Int) := by
  have hb : IntKind.i64.bits = 64 := rfl
  rw [hb]
  have h1 : (BitVec.ofInt 64 ((P : Int) - 1)).toNat = P - 1 := by rw [BitVec.toNat_ofInt]; omega
  have h2 : (BitVec.ofInt 64 w &&& BitVec.ofInt 64 ((P : Int) - 1)).toNat ≤ P - 1 := by
    rw [BitVec.toNat_and, h1]; exact Nat.and_le_right
  exact ⟨_, by omega, wrap_in (by omega) (by omega)⟩
set_option maxHeartbeats 4000000 in
theorem clash_not (C : Cfg) (call : CallF) (A : Api) (hA : ApiOk call A) (a b k l m : Int) (r : List (Int × Int)) (bs : List Boat) (ls : List Look) (w1 : Int)
    (hf : A.fine ⟨(a, b), (k, l), r, m, bs, ls⟩ = false) :
    Does (ev C call 0 none af9.body { tm := tmA 121 (zipI 0 [.agg [.int .i64 a, .int .i64 b, .int .i64 k, .int .i64 l, .vs 2 (r.map spanE), .int .i64 m, .vs 4 (bs.map boatE), .vs 3 (ls.map lookE)], .int .u8 w1] []), df := [], hp := [], tc := [] }) (Yes 4) := by
  have h1 := fun H => hA.fine (cutOf_mk H a b k l m r bs ls)
  have h2 := fun H => hA.awake (H := H)
  rw [hf] at h1
  clear hf hA
  unfold af9
  simp only [zipI]
  (repeat (first | (with_reducible apply ops_cons; (focus ((conv => lhs; simp [ev1, wantG, spineK, spine, float, xnew, xval, xeff, val_tmA_cons, val_tmA_nil, val_val, putT_some, putT_none, addFl, cellsOf, pickC, alive, slLen, slFt, binI, maxA, maxK, minA, minK, aeqK, aeqS, AV.cells, boatE, spanE, lookE, fillA, setAt, bitsI, nat_nn, AV.plain, apart, Nat.testBit_eq_decide_div_mod_eq, *]) <;> exact rfl)); simp only [addFl]) | ((first | with_reducible refine does_seq ?_ | with_reducible refine does_ops ?_ | with_reducible refine does_draw ?_ | with_reducible refine does_skip ?_ | with_reducible refine does_block ?_ | with_reducible refine does_ret ?_ | with_reducible refine does_exit ?_ | with_reducible refine ops_nil ?_ | (with_reducible apply does_true; (focus (simp [val_tmA_cons, *]; done))) | (with_reducible apply does_false; (focus (simp [val_tmA_cons, *]; done)))); try simp only [Then, Ops])))
  exact ⟨rfl, rfl, by simp only [tmA_getD_cons]; simp⟩
/-- The plain law: which sets of looks leave a truth, and how large they are. -/
structure Clashes (A : Api) (c : CutD) (can : Nat → Bool) (size : Nat → Nat) : Prop where
  looks : c.looks.length ≤ 5
  err : ((A.clash c).2 = 4 ∧ (A.clash c).1 = 0 ∧ (A.leak c).2 = 0) ∨ ((A.clash c).2 = 0 ∧ (A.leak c).2 ≠ 0 ∧ ∃ S : Nat, (A.clash c).1 = S ∧ 1 ≤ S ∧ S < 2 ^ c.looks.length ∧ can S = false ∧
    (∀ i, i < c.looks.length → S.testBit i = true → can (S - 2 ^ i) = true) ∧ ∀ o, o < 2 ^ c.looks.length → can o = false → size S < size o ∨ size S = size o ∧ S ≤ o)
set_option maxHeartbeats 8000000 in
theorem clash_main (C : Cfg) (hC : C.calm = true) (call : CallF) (A : Api) (hA : ApiOk call A) (a b k l m : Int) (r : List (Int × Int)) (bs : List Boat) (ls : List Look) (w1 : Int) (u1 : 0 ≤ w1 ∧ w1 ≤ 255)
    (hf : A.fine ⟨(a, b), (k, l), r, m, bs, ls⟩ = true) (can : Nat → Bool) (size : Nat → Nat) (hl : Clashes A ⟨(a, b), (k, l), r, m, bs, ls⟩ can size)
    (f : List AB → Nat → List AB)
    (hF : ∀ (H : List AB) (s : Nat), H[0]? = some (.cells [.int .i64 a, .int .i64 b, .int .i64 k, .int .i64 l, .vs 2 (r.map spanE), .int .i64 m, .vs 4 (bs.map boatE), .vs 3 (ls.map lookE)]) → call (.fn (.func 38) [] [.ptr 0 0]) [.int .i64 s] H = some (.ret (.bool (!can s)), H ++ f H s, []))
    (hG : ∀ (H : List AB) (s : Nat), s < 32 → call (.fn (.func 39) [] []) [.int .i64 s] H = some (.ret (.int .i64 (size s)), H, [])) :
    Does (ev C call 0 none af9.body { tm := tmA 121 (zipI 0 [.agg [.int .i64 a, .int .i64 b, .int .i64 k, .int .i64 l, .vs 2 (r.map spanE), .int .i64 m, .vs 4 (bs.map boatE), .vs 3 (ls.map lookE)], .int .u8 w1] []), df := [], hp := [], tc := [] }) (Yes 4) := by
  have h1 := fun H => hA.fine (cutOf_mk H a b k l m r bs ls)
  have h2 := fun H => hA.awake (H := H)
  have h5 := fun H => hA.clash (cutOf_mk H a b k l m r bs ls)
  have h6 := fun H => hA.leak (cutOf_mk H a b k l m r bs ls)
  rw [hf] at h1
  unfold twoS at h6
  unfold twoA at h5
  obtain ⟨z1, z2⟩ := hl
  simp only at z1 z2
  clear hf hA
  generalize (⟨(a, b), (k, l), r, m, bs, ls⟩ : CutD) = c at *
  unfold af9
  simp only [zipI]
  rcases z2 with ⟨e1, e2, e3⟩ | ⟨e1, e2, S, e3, s1, s2, s3, s4, s5⟩
  · clear hF hG
    (repeat (first | (with_reducible apply ops_cons; (focus ((conv => lhs; simp [ev1, wantG, spineK, spine, float, xnew, xval, xeff, val_tmA_cons, val_tmA_nil, val_val, putT_some, putT_none, addFl, cellsOf, pickC, alive, slLen, slFt, binI, maxA, maxK, minA, minK, aeqK, aeqS, AV.cells, boatE, spanE, lookE, fillA, setAt, bitsI, nat_nn, AV.plain, apart, Nat.testBit_eq_decide_div_mod_eq, *]) <;> exact rfl)); simp only [addFl]) | ((first | with_reducible refine does_seq ?_ | with_reducible refine does_ops ?_ | with_reducible refine does_draw ?_ | with_reducible refine does_skip ?_ | with_reducible refine does_block ?_ | with_reducible refine does_ret ?_ | with_reducible refine does_exit ?_ | with_reducible refine ops_nil ?_ | (with_reducible apply does_true; (focus (simp [val_tmA_cons, *]; done))) | (with_reducible apply does_false; (focus (simp [val_tmA_cons, *]; done)))); try simp only [Then, Ops])))
    exact ⟨rfl, rfl, by simp only [tmA_getD_cons]; simp⟩
  · have e2' : ((A.leak c).2 == 0) = false := by simpa using e2
    have hP : 0 < 2 ^ ls.length := Nat.pow_pos (by decide)
    have hP2 : 2 ^ ls.length ≤ 2 ^ 5 := Nat.pow_le_pow_right (by decide) z1
    have hb : IntKind.i64.bits = 64 := rfl
    have hsh : ∀ i : Nat, i ≤ 5 → IntKind.i64.wrap (2 ^ min i IntKind.i64.bits) = ((2 ^ i : Nat) : Int) := by
      intro i hi
      rw [show min i IntKind.i64.bits = i by rw [hb]; omega]
      have h3 : 2 ^ i ≤ 2 ^ 5 := Nat.pow_le_pow_right (by decide) hi
      have h4 : (2 : Int) ^ i = ((2 ^ i : Nat) : Int) := by simp
      rw [h4]
      generalize 2 ^ i = Q at *
      exact wrap_in (by omega) (by omega)
    have hs1 := hsh ls.length z1
    obtain ⟨o, o1, o2⟩ := and_own w1 (2 ^ ls.length) hP hP2
    have o2' := o2
    have hG1 := fun H => hG H S (by omega)
    have hG2 := fun H => hG H o (by omega)
    clear hG
    generalize hPP : 2 ^ ls.length = P at *
    have hw : IntKind.i64.wrap ((P : Int) - 1) = (P : Int) - 1 := wrap_in (by omega) (by omega)
    have hw1 : IntKind.i64.wrap w1 = w1 := wrap_in (by omega) (by omega)
    have q1 : ¬ ((S : Int) < 1) := by omega
    have q2 : ¬ ((P : Int) - 1 < (S : Int)) := by omega
    have q3 : S ≠ 0 := by omega
    have HS := hideP (And.intro z1 (And.intro s1 (And.intro s2 (And.intro s4 (And.intro s5 (And.intro hsh (And.intro hP2 (And.intro o1 o2'))))))))
    simp at o2
    clear z1 s1 s2 s4 s5 hsh u1 e2 hP hP2 o1 o2' hPP hb
    (repeat (first | (with_reducible apply ops_cons; (focus ((conv => lhs; simp [ev1, wantG, spineK, spine, float, xnew, xval, xeff, val_tmA_cons, val_tmA_nil, val_val, putT_some, putT_none, addFl, cellsOf, pickC, alive, slLen, slFt, binI, maxA, maxK, minA, minK, aeqK, aeqS, AV.cells, boatE, spanE, lookE, fillA, setAt, bitsI, nat_nn, AV.plain, apart, Nat.testBit_eq_decide_div_mod_eq, *]) <;> exact rfl)); simp only [addFl]) | ((first | with_reducible refine does_seq ?_ | with_reducible refine does_ops ?_ | with_reducible refine does_draw ?_ | with_reducible refine does_skip ?_ | with_reducible refine does_block ?_ | with_reducible refine does_ret ?_ | with_reducible refine does_exit ?_ | with_reducible refine ops_nil ?_ | (with_reducible apply does_true; (focus (simp [val_tmA_cons, *]; done))) | (with_reducible apply does_false; (focus (simp [val_tmA_cons, *]; done)))); try simp only [Then, Ops])))
    obtain ⟨z1, s1, s2, s4, s5, hsh, hP2, o1, o2'⟩ := HS.out
    clear h1 h5 h6 e1 e2' e3 q1 q2 hs1 hw HS
    refine does_loop (fun q st => ∃ (i : Nat) (J : List AB), i + q = ls.length ∧ st = { tm := tmA 121 [(70, .int .i64 i), (69, .int .i64 ls.length), (10, .fn (.func 38) [] [.ptr 0 0]), (9, .int .i64 ((P : Int) - 1)), (5, .int .i64 S), (1, .int .u8 w1)], df := [], hp := .cells [.int .i64 a, .int .i64 b, .int .i64 k, .int .i64 l, .vs 2 (r.map spanE), .int .i64 m, .vs 4 (bs.map boatE), .vs 3 (ls.map lookE)] :: .cells [.int .i64 (A.leak c).1.1, .int .i64 (A.leak c).1.2] :: J, tc := [] }) ls.length (by unfold fuelL; omega) ?_ ?_
    · refine ⟨0, ?_⟩
      apply Exists.intro
      refine ⟨by omega, ?_⟩
      simp only [gcC_calm hC]
      exact st_eq (by simp [keepT_tmA, lk_cons]) rfl rfl rfl
    · rintro q st ⟨i, J, hq, rfl⟩
      by_cases hi : i < ls.length
      · have hwi : IntKind.i64.wrap (↑i + 1) = ↑i + 1 := wrap_in (by omega) (by omega)
        have hbit := bit_and (n := S) (d := i) (by omega) (by omega)
        have hQ := hsh i (by omega)
        by_cases hSi : S.testBit i = true
        · have hcan := s4 i hi hSi
          have han := andnot_bit S (by omega) i (by omega) hSi
          rw [hSi] at hbit
          simp at hbit han hQ
          generalize S - 2 ^ i = T at *
          clear z1 s1 s2 s4 s5 hsh hP2 o1 o2 o2' s3 hSi
          (repeat (first | (with_reducible apply ops_cons; (focus ((conv => lhs; simp [ev1, wantG, spineK, spine, float, xnew, xval, xeff, val_tmA_cons, val_tmA_nil, val_val, putT_some, putT_none, addFl, cellsOf, pickC, alive, slLen, slFt, binI, maxA, maxK, minA, minK, aeqK, aeqS, AV.cells, boatE, spanE, lookE, fillA, setAt, bitsI, nat_nn, AV.plain, apart, Nat.testBit_eq_decide_div_mod_eq, *]) <;> exact rfl)); simp only [addFl]) | ((first | with_reducible refine does_seq ?_ | with_reducible refine does_ops ?_ | with_reducible refine does_draw ?_ | with_reducible refine does_skip ?_ | with_reducible refine does_block ?_ | with_reducible refine does_ret ?_ | with_reducible refine does_exit ?_ | with_reducible refine ops_nil ?_ | (with_reducible apply does_true; (focus (simp [val_tmA_cons, *]; done))) | (with_reducible apply does_false; (focus (simp [val_tmA_cons, *]; done)))); try simp only [Then, Ops, OutB])))
          refine ⟨q - 1, by omega, i + 1, ?_⟩
          apply Exists.intro
          refine ⟨by omega, ?_⟩
          simp only [gcC_calm hC]
          exact st_eq (by simp [keepT_tmA, lk_cons]) rfl rfl rfl
        · have hSi : S.testBit i = false := by simpa using hSi
          rw [hSi] at hbit
          simp at hbit
          clear z1 s1 s2 s4 s5 hsh hP2 o1 o2 o2' s3 hSi hQ hF
          (repeat (first | (with_reducible apply ops_cons; (focus ((conv => lhs; simp [ev1, wantG, spineK, spine, float, xnew, xval, xeff, val_tmA_cons, val_tmA_nil, val_val, putT_some, putT_none, addFl, cellsOf, pickC, alive, slLen, slFt, binI, maxA, maxK, minA, minK, aeqK, aeqS, AV.cells, boatE, spanE, lookE, fillA, setAt, bitsI, nat_nn, AV.plain, apart, Nat.testBit_eq_decide_div_mod_eq, *]) <;> exact rfl)); simp only [addFl]) | ((first | with_reducible refine does_seq ?_ | with_reducible refine does_ops ?_ | with_reducible refine does_draw ?_ | with_reducible refine does_skip ?_ | with_reducible refine does_block ?_ | with_reducible refine does_ret ?_ | with_reducible refine does_exit ?_ | with_reducible refine ops_nil ?_ | (with_reducible apply does_true; (focus (simp [val_tmA_cons, *]; done))) | (with_reducible apply does_false; (focus (simp [val_tmA_cons, *]; done)))); try simp only [Then, Ops, OutB])))
          refine ⟨q - 1, by omega, i + 1, ?_⟩
          apply Exists.intro
          refine ⟨by omega, ?_⟩
          simp only [gcC_calm hC]
          exact st_eq (by simp [keepT_tmA, lk_cons]) rfl rfl rfl
      · have hor := s5 o o1
        clear z1 s1 s2 s4 s5 hsh hP2 s3 hq q3
        cases hco : can o with
        | true =>
          clear hor
          (repeat (first | (with_reducible apply ops_cons; (focus ((conv => lhs; simp [ev1, wantG, spineK, spine, float, xnew, xval, xeff, val_tmA_cons, val_tmA_nil, val_val, putT_some, putT_none, addFl, cellsOf, pickC, alive, slLen, slFt, binI, maxA, maxK, minA, minK, aeqK, aeqS, AV.cells, boatE, spanE, lookE, fillA, setAt, bitsI, nat_nn, AV.plain, apart, Nat.testBit_eq_decide_div_mod_eq, *]) <;> exact rfl)); simp only [addFl]) | ((first | with_reducible refine does_seq ?_ | with_reducible refine does_ops ?_ | with_reducible refine does_draw ?_ | with_reducible refine does_skip ?_ | with_reducible refine does_block ?_ | with_reducible refine does_ret ?_ | with_reducible refine does_exit ?_ | with_reducible refine ops_nil ?_ | (with_reducible apply does_true; (focus (simp [val_tmA_cons, *]; done))) | (with_reducible apply does_false; (focus (simp [val_tmA_cons, *]; done)))); try simp only [Then, Ops, OutB, reduceIte])))
          exact ⟨rfl, rfl, by simp only [tmA_getD_cons]; simp⟩
        | false =>
          rcases hor hco with g1 | ⟨g1, g2⟩
          · clear hor
            (repeat (first | (with_reducible apply ops_cons; (focus ((conv => lhs; simp [ev1, wantG, spineK, spine, float, xnew, xval, xeff, val_tmA_cons, val_tmA_nil, val_val, putT_some, putT_none, addFl, cellsOf, pickC, alive, slLen, slFt, binI, maxA, maxK, minA, minK, aeqK, aeqS, AV.cells, boatE, spanE, lookE, fillA, setAt, bitsI, nat_nn, AV.plain, apart, Nat.testBit_eq_decide_div_mod_eq, *]) <;> exact rfl)); simp only [addFl]) | ((first | with_reducible refine does_seq ?_ | with_reducible refine does_ops ?_ | with_reducible refine does_draw ?_ | with_reducible refine does_skip ?_ | with_reducible refine does_block ?_ | with_reducible refine does_ret ?_ | with_reducible refine does_exit ?_ | with_reducible refine ops_nil ?_ | (with_reducible apply does_true; (focus (simp [val_tmA_cons, *]; done))) | (with_reducible apply does_false; (focus (simp [val_tmA_cons, *]; done)))); try simp only [Then, Ops, OutB, reduceIte])))
            exact ⟨rfl, rfl, by simp only [tmA_getD_cons]; simp⟩
          · clear hor
            (repeat (first | (with_reducible apply ops_cons; (focus ((conv => lhs; simp [ev1, wantG, spineK, spine, float, xnew, xval, xeff, val_tmA_cons, val_tmA_nil, val_val, putT_some, putT_none, addFl, cellsOf, pickC, alive, slLen, slFt, binI, maxA, maxK, minA, minK, aeqK, aeqS, AV.cells, boatE, spanE, lookE, fillA, setAt, bitsI, nat_nn, AV.plain, apart, Nat.testBit_eq_decide_div_mod_eq, *]) <;> exact rfl)); simp only [addFl]) | ((first | with_reducible refine does_seq ?_ | with_reducible refine does_ops ?_ | with_reducible refine does_draw ?_ | with_reducible refine does_skip ?_ | with_reducible refine does_block ?_ | with_reducible refine does_ret ?_ | with_reducible refine does_exit ?_ | with_reducible refine ops_nil ?_ | (with_reducible apply does_true; (focus (simp [val_tmA_cons, *]; done))) | (with_reducible apply does_false; (focus (simp [val_tmA_cons, *]; done)))); try simp only [Then, Ops, OutB, reduceIte])))
            exact ⟨rfl, rfl, by simp only [tmA_getD_cons]; simp⟩
end Ev
end Go.Proofs.YtlkhjnpflohfeaaDoor

/- What CutFloats comes to. -/
namespace Go.Proofs.YtlkhjnpflohfeaaDoor
open Go
namespace Ev
/-- How a boat floats, by a depth. -/
def wantF (w : Int × Int) (b : Boat) (n : Nat) : Int := if b.draws.2 + b.per * n ≤ w.1 then 2 else if w.2 < b.draws.1 + b.per * n then 0 else 1
def lastF (w : Int × Int) (b : Boat) : Nat → Int
  | 0 => 2
  | n + 1 => wantF w b n
/-- The plain law, with some loads. -/
structure FloatsN (A : Api) (c : CutD) (b : Boat) (bi dn n : Nat) : Prop where
  fl : A.floats c bi n dn = (wantF (A.depth c dn).1 b n, 0)
  less : wantF (A.depth c dn).1 b n ≤ lastF (A.depth c dn).1 b n
  sure : wantF (A.depth c dn).1 b n = 2 ↔ (n : Int) ≤ (A.loads c bi dn).1.1
  may : wantF (A.depth c dn).1 b n ≠ 0 ↔ (n : Int) ≤ (A.loads c bi dn).1.2
  days : ∃ D S : Nat, A.days c bi n = (((D : Int), (S : Int)), 0) ∧ D < 1048576 ∧ S < 2 ^ (c.rain.length + 1) ∧ (D.testBit dn = true ↔ wantF (A.depth c dn).1 b n = 2) ∧ (S.testBit dn = true ↔ wantF (A.depth c dn).1 b n ≠ 0)
/-- The plain law. -/
structure Floats (A : Api) (c : CutD) (b : Boat) (bi dn : Nat) : Prop where
  rain : c.rain.length ≤ 8
  day : dn ≤ c.rain.length
  err : (A.loads c bi dn).2 = (A.depth c dn).2
  bad : (A.depth c dn).2 = 0 ∨ (A.depth c dn).2 = 10 ∧ (A.loads c bi dn).1 = (0, 0)
  draw : 0 ≤ b.draws.1 ∧ b.draws.1 ≤ 100 ∧ 0 ≤ b.draws.2 ∧ b.draws.2 ≤ 100 ∧ 0 ≤ b.per ∧ b.per ≤ 10
  room : ∃ rm : Nat, b.room = rm ∧ rm ≤ 10 ∧ ((A.depth c dn).2 = 0 → -1 ≤ (A.loads c bi dn).1.1 ∧ (A.loads c bi dn).1.1 ≤ (A.loads c bi dn).1.2 ∧ (A.loads c bi dn).1.2 ≤ rm ∧ ∀ n : Nat, n ≤ rm → FloatsN A c b bi dn n)
end Ev
end Go.Proofs.YtlkhjnpflohfeaaDoor

/- The plain law of CutFloats. -/
namespace Go.Proofs.YtlkhjnpflohfeaaDoor
open Go
namespace Cut
theorem lead_iff (p : Nat → Bool) (h : ∀ i j, i ≤ j → p j = true → p i = true) : ∀ m n, n < m → (n < lead p m ↔ p n = true)
  | 0, n, hn => by omega
  | m + 1, n, hn => by
    have hle := lead_le p m
    unfold lead
    by_cases hc : lead p m = m ∧ p m = true
    · rw [if_pos hc]
      exact ⟨fun _ => h n m (by omega) hc.2, fun _ => by omega⟩
    · rw [if_neg hc]
      by_cases hnm : n < m
      · exact lead_iff p h m n hnm
      · have : n = m := by omega
        subst this
        refine ⟨fun hx => by omega, fun hp => ?_⟩
        have hall : lead p n = n := by
          have hx : ∀ k, k ≤ n → lead p k = k := by
            intro k
            induction k with
            | zero => intro _; rfl
            | succ k ih =>
              intro hk
              unfold lead
              rw [if_pos ⟨ih (by omega), h k n (by omega) hp⟩]
          exact hx n (Nat.le_refl _)
        exact absurd ⟨hall, hp⟩ hc
theorem lead_mono (p q : Nat → Bool) (h : ∀ i, p i = true → q i = true) (hq : ∀ i j, i ≤ j → q j = true → q i = true) (hp : ∀ i j, i ≤ j → p j = true → p i = true) (m : Nat) : lead p m ≤ lead q m := by
  rcases Nat.eq_zero_or_pos (lead p m) with h0 | h0
  · omega
  · have hle := lead_le p m
    have h1 := (lead_iff p hp m (lead p m - 1) (by omega)).1 (by omega)
    have h2 := (lead_iff q hq m (lead p m - 1) (by omega)).2 (h _ h1)
    omega
theorem floats_less (b : Boat) (w : Int × Int) (hb : 0 ≤ b.per) {i j : Nat} (h : i ≤ j) : floats b j w ≤ floats b i w := by
  have hm : b.per * (i : Int) ≤ b.per * (j : Int) := Int.mul_le_mul_of_nonneg_left (by omega) hb
  unfold floats
  split
  · rw [if_pos (by omega)]; decide
  · split
    · split
      · decide
      · rw [if_pos (by omega)]; decide
    · split
      · decide
      · split <;> decide
theorem suits_mono (x : CutD) (k d : Nat) (s : Int) (hb : 0 ≤ (boatAt x.boats k).per) (i j : Nat) (h : i ≤ j) (hp : suits x k d s j = true) : suits x k d s i = true := by
  unfold suits at *
  simp only [decide_eq_true_eq] at *
  have := floats_less (boatAt x.boats k) (water x d) hb h
  omega
end Cut
theorem want_floats (b : Boat) (w : Int × Int) (n : Nat) : Ev.wantF w b n = Cut.floats b n w := by
  unfold Ev.wantF Cut.floats
  split
  · rfl
  · split
    · rw [if_neg (by omega)]
    · rw [if_pos (by omega)]
theorem floats_plain {c : CutD} (hf : fineD c = true) (bi dn : Nat) (hbi : bi < c.boats.length) (hdn : dn ≤ c.rain.length) : Ev.Floats specApi c c.boats[bi] bi dn := by
  have hv := fine_valid hf
  have V := Cut.valid_of hv
  have eL : loadsR c bi dn = if toldErr c true = 0 then ((Cut.loads c bi dn 2, Cut.loads c bi dn 1), 0) else ((0, 0), toldErr c true) := by
    unfold loadsR; rw [isBoat_nat hbi, isDay_nat hdn]; simp
  have eD : depthR c dn = if toldErr c true = 0 then (Cut.water c dn, 0) else ((0, 0), toldErr c true) := by
    unfold depthR; rw [isDay_nat hdn]; simp
  have hT := told_or hv
  have hB := V.boat bi hbi
  have hbt := boatAt_get hbi
  rw [hbt] at hB
  obtain ⟨b1, b2, b3, b4, b5, b6, b7⟩ := hB
  refine ⟨V.n8, hdn, ?_, ?_, ⟨b1, by omega, by omega, b3, b4, b5⟩, c.boats[bi].room.toNat, by omega, by omega, ?_⟩
  · show (loadsR c bi dn).2 = (depthR c dn).2
    rw [eL, eD]; split <;> rfl
  · show (depthR c dn).2 = 0 ∨ (depthR c dn).2 = 10 ∧ (loadsR c bi dn).1 = (0, 0)
    rw [eL, eD]
    rcases hT with h | h
    · rw [if_pos h]; exact .inl rfl
    · rw [if_neg (by omega), if_neg (by omega)]; exact .inr ⟨h, rfl⟩
  · intro h0
    have h0 : (depthR c dn).2 = 0 := h0
    have hz : toldErr c true = 0 := by
      rcases hT with h | h
      · exact h
      · rw [eD, if_neg (by omega)] at h0; rw [h] at h0; exact absurd h0 (by decide)
    rw [if_pos hz] at eL eD
    have m1 := Cut.suits_mono c bi dn 1 (by rw [hbt]; exact b4)
    have m2 := Cut.suits_mono c bi dn 2 (by rw [hbt]; exact b4)
    have hle1 := Cut.lead_le (Cut.suits c bi dn 1) ((Cut.boatAt c.boats bi).room.toNat + 1)
    have hmo := Cut.lead_mono (Cut.suits c bi dn 2) (Cut.suits c bi dn 1) (fun i h => by unfold Cut.suits at *; simp only [decide_eq_true_eq] at *; omega) m1 m2 ((Cut.boatAt c.boats bi).room.toNat + 1)
    show -1 ≤ (loadsR c bi dn).1.1 ∧ (loadsR c bi dn).1.1 ≤ (loadsR c bi dn).1.2 ∧ (loadsR c bi dn).1.2 ≤ ((c.boats[bi].room.toNat : Nat) : Int) ∧ ∀ n : Nat, n ≤ c.boats[bi].room.toNat → Ev.FloatsN specApi c c.boats[bi] bi dn n
    rw [eL]
    refine ⟨by simp only [Cut.loads]; omega, by simp only [Cut.loads]; omega, by simp only [Cut.loads]; rw [hbt] at *; omega, ?_⟩
    intro n hn
    have hwant : Ev.wantF (depthR c dn).1 c.boats[bi] n = Cut.floatsOn c bi n dn := by
      rw [want_floats, eD]; unfold Cut.floatsOn; rw [hbt]
    have hlast : ∀ k, k ≤ n → Ev.wantF (depthR c dn).1 c.boats[bi] k = Cut.floats c.boats[bi] k (Cut.water c dn) := fun k _ => by rw [want_floats, eD]
    have hor := Cut.floats_or c.boats[bi] n (Cut.water c dn)
    have hld : Cut.isLoads c bi n = true := isLoads_nat hbi (by omega) (by rw [hbt]; omega)
    have eF : floatsR c bi n dn = (Cut.floatsOn c bi n dn, 0) := by
      unfold floatsR isB
      rw [hld, isDay_nat hdn]
      simp only [Bool.and_self]
      rw [if_pos hz]; rfl
    have hs : ∀ s : Int, (n : Int) ≤ Cut.loads c bi dn s ↔ Cut.suits c bi dn s n = true := by
      intro s
      have := Cut.lead_iff (Cut.suits c bi dn s) (Cut.suits_mono c bi dn s (by rw [hbt]; exact b4)) ((Cut.boatAt c.boats bi).room.toNat + 1) n (by rw [hbt]; omega)
      rw [← this]
      unfold Cut.loads
      omega
    have hfo : Cut.floatsOn c bi n dn = Cut.floats c.boats[bi] n (Cut.water c dn) := by unfold Cut.floatsOn; rw [hbt]
    constructor
    · show floatsR c bi n dn = (Ev.wantF (depthR c dn).1 c.boats[bi] n, 0)
      rw [eF, hwant]
    · show Ev.wantF (depthR c dn).1 c.boats[bi] n ≤ Ev.lastF (depthR c dn).1 c.boats[bi] n
      cases n with
      | zero =>
        show _ ≤ (2 : Int)
        rw [hwant, hfo]; omega
      | succ k =>
        show _ ≤ Ev.wantF (depthR c dn).1 c.boats[bi] k
        rw [hlast (k + 1) (Nat.le_refl _), hlast k (by omega)]
        exact Cut.floats_less _ _ b4 (by omega)
    · show Ev.wantF (depthR c dn).1 c.boats[bi] n = 2 ↔ (n : Int) ≤ (loadsR c bi dn).1.1
      rw [hwant, eL]
      simp only
      rw [hs 2, hfo]
      unfold Cut.suits
      rw [hbt]
      simp only [decide_eq_true_eq]
      omega
    · show Ev.wantF (depthR c dn).1 c.boats[bi] n ≠ 0 ↔ (n : Int) ≤ (loadsR c bi dn).1.2
      rw [hwant, eL]
      simp only
      rw [hs 1, hfo]
      unfold Cut.suits
      rw [hbt]
      simp only [decide_eq_true_eq]
      omega
    · show ∃ D S : Nat, daysR c bi n = (((D : Int), (S : Int)), 0) ∧ D < 1048576 ∧ S < 2 ^ (c.rain.length + 1) ∧ (D.testBit dn = true ↔ Ev.wantF (depthR c dn).1 c.boats[bi] n = 2) ∧ (S.testBit dn = true ↔ Ev.wantF (depthR c dn).1 c.boats[bi] n ≠ 0)
      refine ⟨Cut.daysAll c bi n, Cut.daysSome c bi n, ?_, ?_, Cut.setTo_lt _ _, ?_, ?_⟩
      · unfold daysR; rw [hld, if_pos hz]; rfl
      · have h1 : Cut.daysAll c bi n < 2 ^ (c.rain.length + 1) := Cut.setTo_lt _ _
        have h2 : 2 ^ (c.rain.length + 1) ≤ 2 ^ 9 := Nat.pow_le_pow_right (by decide) (by have := V.n8; omega)
        omega
      · rw [hwant]
        unfold Cut.daysAll
        rw [Cut.setTo_bit]
        simp
        omega
      · rw [hwant]
        unfold Cut.daysSome
        rw [Cut.setTo_bit]
        simp
        omega
end Go.Proofs.YtlkhjnpflohfeaaDoor

/- What CutRain comes to. -/
namespace Go.Proofs.YtlkhjnpflohfeaaDoor
open Go
namespace Ev
/-- The truth in which least is there, and that in which most is. -/
def lowN (x : CutD) : Nat → Int
  | 0 => x.depth.1
  | d + 1 => max 0 (min x.most (lowN x d + (Cut.spanAt x.rain d).1 - x.leak.2))
def highN (x : CutD) : Nat → Int
  | 0 => x.depth.2
  | d + 1 => max 0 (min x.most (highN x d + (Cut.spanAt x.rain d).2 - x.leak.1))
def bare (c : CutD) : CutD := { c with looks := [] }
def wetter (c : CutD) (wi : Nat) (mr : Int) : CutD := { c with looks := [], rain := c.rain.set wi (min 30 ((Cut.spanAt c.rain wi).1 + mr), min 30 ((Cut.spanAt c.rain wi).2 + mr)) }
/-- The plain law. -/
structure Rain (A : Api) (c : CutD) (wi : Nat) (mr w : Int) : Prop where
  len : c.rain.length ≤ 8
  rain : ∀ i, i < c.rain.length → 0 ≤ (Cut.spanAt c.rain i).1 ∧ (Cut.spanAt c.rain i).1 ≤ 30 ∧ 0 ≤ (Cut.spanAt c.rain i).2 ∧ (Cut.spanAt c.rain i).2 ≤ 30
  leak : 0 ≤ c.leak.1 ∧ c.leak.1 ≤ 10 ∧ 0 ≤ c.leak.2 ∧ c.leak.2 ≤ 10
  most : 0 ≤ c.most ∧ c.most ≤ 100
  depth : 0 ≤ c.depth.1 ∧ c.depth.1 ≤ 100 ∧ 0 ≤ c.depth.2 ∧ c.depth.2 ≤ 100
  boats : c.boats.length ≤ 4
  day : ∀ d : Nat, d ≤ c.rain.length → A.depth (bare c) d = ((lowN c d, highN c d), 0) ∧ (A.depth (wetter c wi mr) d).2 = 0 ∧ lowN c d ≤ (A.depth (wetter c wi mr) d).1.1 ∧ highN c d ≤ (A.depth (wetter c wi mr) d).1.2
  boat : ∀ (i : Nat) (h : i < c.boats.length), 0 ≤ c.boats[i].room ∧ c.boats[i].room ≤ 10 ∧ ∃ a s p q : Nat, A.days (bare c) i (w % (c.boats[i].room + 1)) = (((a : Int), (s : Int)), 0) ∧ A.days (wetter c wi mr) i (w % (c.boats[i].room + 1)) = (((p : Int), (q : Int)), 0) ∧ a < 1048576 ∧ s < 1048576 ∧ p < 1048576 ∧ q < 1048576 ∧ (∀ j, a.testBit j = true → p.testBit j = true) ∧ ∀ j, s.testBit j = true → q.testBit j = true
end Ev
end Go.Proofs.YtlkhjnpflohfeaaDoor

/- Truths of a cut: what the spans of package cut mean. No program in sight. -/
namespace Go.Proofs.YtlkhjnpflohfeaaDoor
namespace Cut
def inS (w : Int × Int) (v : Int) : Prop := w.1 ≤ v ∧ v ≤ w.2
theorem not_dry (v : Int) : ¬ inS dry v := by unfold inS dry; simp only; omega
theorem common_in (a b : Int × Int) (v : Int) : inS (common a b) v ↔ inS a v ∧ inS b v := by
  unfold common
  split
  · unfold inS; simp only; omega
  · constructor
    · intro h; exact absurd h (not_dry v)
    · rintro ⟨h1, h2⟩; unfold inS at *; omega
theorem some_iff (w : Int × Int) : some w = true ↔ ∃ v, inS w v := by
  unfold some inS
  simp only [decide_eq_true_eq]
  exact ⟨fun h => ⟨w.1, by omega, h⟩, fun ⟨v, h1, h2⟩ => by omega⟩
/-- The looks of a day that are in a set hold. -/
def Looks (l : List Look) (set : Nat) (d : Nat) (v : Int) : Prop := ∀ i, i < l.length → set.testBit i = true → (lookAt l i).day = d → inS (lookAt l i).depth v
theorem lookedTo_in (l : List Look) (d : Int) (set : Nat) (w : Int × Int) (v : Int) : ∀ k, inS (lookedTo l d set w k) v ↔ inS w v ∧ ∀ i, i < k → set.testBit i = true → (lookAt l i).day = d → inS (lookAt l i).depth v
  | 0 => by simp [lookedTo]
  | k + 1 => by
    have ih := lookedTo_in l d set w v k
    unfold lookedTo
    by_cases h : (set.testBit k && decide ((lookAt l k).day = d)) = true
    · rw [if_pos h, common_in, ih]
      rw [Bool.and_eq_true, decide_eq_true_eq] at h
      constructor
      · rintro ⟨⟨h1, h2⟩, h3⟩
        refine ⟨h1, fun i hi => ?_⟩
        by_cases hik : i = k
        · subst hik; exact fun _ _ => h3
        · exact h2 i (by omega)
      · rintro ⟨h1, h2⟩
        exact ⟨⟨h1, fun i hi => h2 i (by omega)⟩, h2 k (by omega) h.1 h.2⟩
    · rw [if_neg h, ih]
      constructor
      · rintro ⟨h1, h2⟩
        refine ⟨h1, fun i hi a b => ?_⟩
        by_cases hik : i = k
        · subst hik; exact absurd (by rw [a, b]; simp) h
        · exact h2 i (by omega) a b
      · rintro ⟨h1, h2⟩
        exact ⟨h1, fun i hi => h2 i (by omega)⟩
theorem looked_in (l : List Look) (d : Nat) (set : Nat) (w : Int × Int) (v : Int) : inS (looked l d set w) v ↔ inS w v ∧ Looks l set d v := lookedTo_in l d set w v _
/-- From a depth to that of the next day. -/
def Step (x : CutD) (leak : Int) (d : Nat) (u v : Int) : Prop := ∃ r, inS (spanAt x.rain d) r ∧ v = held x.most (u + r - leak)
theorem after_in {x : CutD} (h : Valid x) (leak : Int) (d : Nat) (hd : d < x.rain.length) (w : Int × Int) (v : Int) : inS (after (stepBy x leak d) x.most w) v ↔ ∃ u, inS w u ∧ Step x leak d u v := by
  have hr := h.rain d hd
  have hm := h.m1
  unfold after Step
  by_cases hw : w.1 ≤ w.2
  · rw [if_pos hw]
    unfold stepBy held inS
    simp only
    generalize spanAt x.rain d = s at *
    constructor
    · rintro ⟨h1, h2⟩
      have key : ∃ z, w.1 + s.1 ≤ z ∧ z ≤ w.2 + s.2 ∧ v = max 0 (min x.most (z - leak)) := by
        by_cases c1 : w.1 + s.1 - leak ≤ v
        · by_cases c2 : v ≤ w.2 + s.2 - leak
          · exact ⟨v + leak, by omega, by omega, by omega⟩
          · exact ⟨w.2 + s.2, by omega, by omega, by omega⟩
        · exact ⟨w.1 + s.1, by omega, by omega, by omega⟩
      obtain ⟨z, z1, z2, z3⟩ := key
      by_cases c : z - s.1 ≤ w.2
      · exact ⟨z - s.1, by omega, s.1, by omega, by rw [z3]; congr 2; omega⟩
      · exact ⟨w.2, by omega, z - w.2, by omega, by rw [z3]; congr 2; omega⟩
    · rintro ⟨u, h1, r, h2, rfl⟩
      omega
  · rw [if_neg hw]
    constructor
    · intro hx; exact absurd hx (not_dry v)
    · rintro ⟨u, h1, _⟩; unfold inS at h1; omega
theorem before_in {x : CutD} (h : Valid x) (leak : Int) (hl0 : 0 ≤ leak) (hl1 : leak ≤ 10) (d : Nat) (hd : d < x.rain.length) (w : Int × Int) (hw : ∀ v, inS w v → 0 ≤ v ∧ v ≤ x.most) (u : Int) : inS (before (stepBy x leak d) x.most w) u ↔ (0 ≤ u ∧ u ≤ x.most) ∧ ∃ v, Step x leak d u v ∧ inS w v := by
  have hr := h.rain d hd
  have hm := h.m1
  have hm1 := h.m100
  unfold before Step
  by_cases hn : w.1 ≤ w.2
  · rw [if_pos hn, common_in]
    have w1 := hw w.1 ⟨by omega, hn⟩
    have w2 := hw w.2 ⟨hn, by omega⟩
    clear hw
    unfold stepBy held inS
    simp only
    generalize spanAt x.rain d = s at *
    constructor
    · rintro ⟨h1, h2, h3⟩
      refine ⟨h1, ?_⟩
      have a1 : w.1 ≤ max 0 (min x.most (u + s.2 - leak)) := by split at h2 <;> omega
      have a2 : max 0 (min x.most (u + s.1 - leak)) ≤ w.2 := by split at h3 <;> omega
      by_cases c1 : w.1 ≤ max 0 (min x.most (u + s.1 - leak))
      · exact ⟨_, ⟨s.1, by omega, rfl⟩, c1, a2⟩
      · exact ⟨w.1, ⟨w.1 - u + leak, by omega, by omega⟩, by omega, hn⟩
    · rintro ⟨h1, v, ⟨r, h2, rfl⟩, h3⟩
      refine ⟨h1, ?_, ?_⟩
      · split <;> omega
      · split <;> omega
  · rw [if_neg hn]
    constructor
    · intro hx; exact absurd hx (not_dry u)
    · rintro ⟨_, v, _, h1⟩; unfold inS at h1; omega
/-- The depth of a day that some truth of the days before has. -/
def FR (x : CutD) (leak : Int) (set : Nat) : Nat → Int → Prop
  | 0, v => inS x.depth v ∧ Looks x.looks set 0 v
  | d + 1, v => (∃ u, FR x leak set d u ∧ Step x leak d u v) ∧ Looks x.looks set (d + 1) v
/-- The depth, so many days from the end n, from which some truth goes on. -/
def BR (x : CutD) (leak : Int) (set n : Nat) : Nat → Int → Prop
  | 0, _ => True
  | k + 1, v => ∃ u, Step x leak (n - (k + 1)) v u ∧ Looks x.looks set (n - k) u ∧ BR x leak set n k u
theorem forth_in {x : CutD} (h : Valid x) (leak : Int) (set : Nat) : ∀ d, d ≤ x.rain.length → ∀ v, inS (forth x leak set d) v ↔ FR x leak set d v
  | 0, _, v => by
    unfold forth FR
    exact looked_in x.looks 0 set x.depth v
  | d + 1, hd, v => by
    unfold forth FR
    rw [looked_in, after_in h leak d (by omega)]
    simp only [forth_in h leak set d (by omega)]
theorem FR_in {x : CutD} (h : Valid x) {leak : Int} {set : Nat} : ∀ {d : Nat} {v : Int}, FR x leak set d v → 0 ≤ v ∧ v ≤ x.most
  | 0, v, hv => by
    have := h.d0; have := h.d2
    have := hv.1; unfold inS at this; omega
  | d + 1, v, hv => by
    obtain ⟨⟨u, _, r, _, rfl⟩, _⟩ := hv
    have := h.m1
    unfold held; omega
theorem back_in {x : CutD} (h : Valid x) (leak : Int) (hl0 : 0 ≤ leak) (hl1 : leak ≤ 10) (set n : Nat) (hn : n = x.rain.length) : ∀ k, k ≤ n → ∀ v, inS (back x leak set n k) v ↔ FR x leak set (n - k) v ∧ BR x leak set n k v
  | 0, _, v => by
    unfold back BR
    rw [forth_in h leak set n (by omega)]
    simp
  | k + 1, hk, v => by
    have ih := back_in h leak hl0 hl1 set n hn k (by omega)
    unfold back
    rw [common_in, forth_in h leak set _ (by omega), before_in h leak hl0 hl1 _ (by omega) _ (fun v hv => FR_in h ((ih v).1 hv).1)]
    constructor
    · rintro ⟨h1, _, u, h2, h3⟩
      have h4 := (ih u).1 h3
      refine ⟨h1, ?_⟩
      unfold BR
      refine ⟨u, h2, ?_, h4.2⟩
      have h5 := h4.1
      have e : n - k = (n - (k + 1)) + 1 := by omega
      rw [e] at h5 ⊢
      exact h5.2
    · rintro ⟨h1, h2⟩
      unfold BR at h2
      obtain ⟨u, h3, h4, h5⟩ := h2
      refine ⟨h1, FR_in h h1, u, h3, (ih u).2 ⟨?_, h5⟩⟩
      have e : n - k = (n - (k + 1)) + 1 := by omega
      rw [e] at h4 ⊢
      exact ⟨⟨v, h1, h3⟩, h4⟩
/-- How deep the water is each day. -/
structure Truth (x : CutD) (leak : Int) (set : Nat) (t : Nat → Int) : Prop where
  start : inS x.depth (t 0)
  step : ∀ d, d < x.rain.length → Step x leak d (t d) (t (d + 1))
  looks : ∀ d, d ≤ x.rain.length → Looks x.looks set d (t d)
theorem Truth.fr {x : CutD} {leak : Int} {set : Nat} {t : Nat → Int} (h : Truth x leak set t) : ∀ d, d ≤ x.rain.length → FR x leak set d (t d)
  | 0, _ => ⟨h.start, h.looks 0 (by omega)⟩
  | d + 1, hd => ⟨⟨t d, h.fr d (by omega), h.step d (by omega)⟩, h.looks (d + 1) hd⟩
theorem Truth.br {x : CutD} {leak : Int} {set : Nat} {t : Nat → Int} (h : Truth x leak set t) : ∀ k, k ≤ x.rain.length → BR x leak set x.rain.length k (t (x.rain.length - k))
  | 0, _ => trivial
  | k + 1, hk => by
    unfold BR
    refine ⟨t (x.rain.length - k), ?_, h.looks _ (by omega), h.br k (by omega)⟩
    have e : x.rain.length - k = (x.rain.length - (k + 1)) + 1 := by omega
    rw [e]
    exact h.step _ (by omega)
theorem fr_path {x : CutD} {leak : Int} {set : Nat} : ∀ (d : Nat) (v : Int), FR x leak set d v → ∃ t : Nat → Int, t d = v ∧ inS x.depth (t 0) ∧ (∀ i, i < d → Step x leak i (t i) (t (i + 1))) ∧ ∀ i, i ≤ d → Looks x.looks set i (t i)
  | 0, v, h => ⟨fun _ => v, rfl, h.1, fun i hi => by omega, fun i hi => by
      have : i = 0 := by omega
      subst this; exact h.2⟩
  | d + 1, v, h => by
    obtain ⟨⟨u, h1, h2⟩, h3⟩ := h
    obtain ⟨t, t1, t2, t3, t4⟩ := fr_path d u h1
    refine ⟨fun i => if i ≤ d then t i else v, if_neg (by omega), by simpa using t2, fun i hi => ?_, fun i hi => ?_⟩
    · by_cases c : i = d
      · subst c
        simp only [Nat.le_refl, if_true]
        rw [if_neg (by omega), t1]; exact h2
      · simp only
        rw [if_pos (by omega), if_pos (by omega)]; exact t3 i (by omega)
    · by_cases c : i ≤ d
      · simp only [c, if_true]; exact t4 i c
      · have : i = d + 1 := by omega
        subst this
        simp only [c, if_false]; exact h3
theorem br_path {x : CutD} {leak : Int} {set n : Nat} : ∀ (k : Nat) (v : Int), k ≤ n → BR x leak set n k v → ∃ t : Nat → Int, t (n - k) = v ∧ (∀ i, n - k ≤ i → i < n → Step x leak i (t i) (t (i + 1))) ∧ ∀ i, n - k < i → i ≤ n → Looks x.looks set i (t i)
  | 0, v, _, _ => ⟨fun _ => v, rfl, fun i h1 h2 => by omega, fun i h1 h2 => by omega⟩
  | k + 1, v, hk, h => by
    unfold BR at h
    obtain ⟨u, h1, h2, h3⟩ := h
    obtain ⟨t, t1, t2, t3⟩ := br_path k u (by omega) h3
    refine ⟨fun i => if i = n - (k + 1) then v else t i, by simp, fun i a b => ?_, fun i a b => ?_⟩
    · simp only
      rw [if_neg (show ¬ i + 1 = n - (k + 1) by omega)]
      by_cases c : i = n - (k + 1)
      · rw [if_pos c]
        have e : i + 1 = n - k := by omega
        rw [e, t1, c]; exact h1
      · rw [if_neg c]; exact t2 i (by omega) b
    · simp only
      rw [if_neg (by omega)]
      by_cases c : i = n - k
      · subst c; rw [t1]; exact h2
      · exact t3 i (by omega) b
theorem truth_of {x : CutD} {leak : Int} {set d : Nat} {v : Int} (hd : d ≤ x.rain.length) (h1 : FR x leak set d v) (h2 : BR x leak set x.rain.length (x.rain.length - d) v) : ∃ t, Truth x leak set t ∧ t d = v := by
  obtain ⟨t, t1, t2, t3, t4⟩ := fr_path d v h1
  obtain ⟨s, s1, s2, s3⟩ := br_path _ v (by omega) h2
  have e : x.rain.length - (x.rain.length - d) = d := by omega
  rw [e] at s1 s2 s3
  refine ⟨fun i => if i ≤ d then t i else s i, ⟨?_, ?_, ?_⟩, by simp [t1]⟩
  · simpa using t2
  · intro i hi
    show Step x leak i (if i ≤ d then t i else s i) (if i + 1 ≤ d then t (i + 1) else s (i + 1))
    by_cases c : i < d
    · rw [if_pos (by omega), if_pos (by omega)]; exact t3 i c
    · rw [if_neg (show ¬ i + 1 ≤ d by omega)]
      by_cases c' : i = d
      · subst c'
        rw [if_pos (Nat.le_refl _), t1, ← s1]; exact s2 i (by omega) hi
      · rw [if_neg (by omega)]; exact s2 i (by omega) hi
  · intro i hi
    by_cases c : i ≤ d
    · simp only [c, if_true]; exact t4 i c
    · simp only [c, if_false]; exact s3 i (by omega) hi
/-- What a season's span means. -/
theorem season_in {x : CutD} (h : Valid x) (leak : Int) (hl0 : 0 ≤ leak) (hl1 : leak ≤ 10) (set d : Nat) (hd : d ≤ x.rain.length) (v : Int) : inS (seasonAt x leak set d) v ↔ ∃ t, Truth x leak set t ∧ t d = v := by
  unfold seasonAt
  rw [if_pos hd, back_in h leak hl0 hl1 set _ rfl _ (by omega)]
  have e : x.rain.length - (x.rain.length - d) = d := by omega
  rw [e]
  constructor
  · rintro ⟨h1, h2⟩; exact truth_of hd h1 h2
  · rintro ⟨t, ht, rfl⟩
    refine ⟨ht.fr d hd, ?_⟩
    have := ht.br (x.rain.length - d) (by omega)
    rw [e] at this; exact this
theorem can_iff {x : CutD} (h : Valid x) (set : Nat) : can x set = true ↔ ∃ leak, inS x.leak leak ∧ ∃ t, Truth x leak set t := by
  unfold can
  rw [List.any_eq_true]
  have hl : ∀ leak, leak ∈ leaks x ↔ inS x.leak leak := by
    intro leak
    unfold leaks inS
    rw [List.mem_map]
    constructor
    · rintro ⟨i, hi, rfl⟩
      rw [List.mem_range] at hi
      omega
    · rintro ⟨h1, h2⟩
      exact ⟨(leak - x.leak.1).toNat, by rw [List.mem_range]; omega, by omega⟩
  have := h.l0; have := h.l2
  constructor
  · rintro ⟨leak, h1, h2⟩
    have h3 := (hl leak).1 h1
    refine ⟨leak, h3, ?_⟩
    obtain ⟨v, hv⟩ := (some_iff _).1 h2
    unfold inS at h3
    obtain ⟨t, ht, _⟩ := (season_in h leak (by omega) (by omega) set 0 (by omega) v).1 hv
    exact ⟨t, ht⟩
  · rintro ⟨leak, h3, t, ht⟩
    refine ⟨leak, (hl leak).2 h3, (some_iff _).2 ⟨t 0, ?_⟩⟩
    unfold inS at h3
    exact (season_in h leak (by omega) (by omega) set 0 (by omega) _).2 ⟨t, ht, rfl⟩
end Cut
end Go.Proofs.YtlkhjnpflohfeaaDoor

/- What the exported functions' spans mean, by truths. -/
namespace Go.Proofs.YtlkhjnpflohfeaaDoor
namespace Cut
theorem fold_spec : ∀ (l : List (Int × Int)) (x : Int × Int),
    let j := l.foldl (fun s y => (min s.1 y.1, max s.2 y.2)) x
    (j.1 ≤ x.1 ∧ x.2 ≤ j.2 ∧ (∀ s ∈ l, j.1 ≤ s.1 ∧ s.2 ≤ j.2)) ∧ (j.1 = x.1 ∨ ∃ s ∈ l, j.1 = s.1) ∧ (j.2 = x.2 ∨ ∃ s ∈ l, j.2 = s.2)
  | [], x => by simp
  | y :: l, x => by
    have ih := fold_spec l (min x.1 y.1, max x.2 y.2)
    simp only [List.foldl_cons, List.mem_cons] at ih ⊢
    generalize List.foldl _ _ l = j at ih ⊢
    obtain ⟨⟨h1, h2, h3⟩, h4, h5⟩ := ih
    refine ⟨⟨by clear h4 h5; omega, by clear h4 h5; omega, ?_⟩, ?_, ?_⟩
    · clear h4 h5
      rintro s (rfl | hs)
      · omega
      · exact h3 s hs
    · clear h5
      rcases h4 with h4 | ⟨s, hs, h4⟩
      · by_cases c : x.1 ≤ y.1
        · exact .inl (by omega)
        · exact .inr ⟨y, .inl rfl, by omega⟩
      · exact .inr ⟨s, .inr hs, h4⟩
    · clear h4
      rcases h5 with h5 | ⟨s, hs, h5⟩
      · by_cases c : y.2 ≤ x.2
        · exact .inl (by omega)
        · exact .inr ⟨y, .inl rfl, by omega⟩
      · exact .inr ⟨s, .inr hs, h5⟩
theorem joined_spec {l : List (Int × Int)} (hl : 0 < l.length) : (∀ s ∈ l, (joined l).1 ≤ s.1 ∧ s.2 ≤ (joined l).2) ∧ (∃ s ∈ l, (joined l).1 = s.1) ∧ (∃ s ∈ l, (joined l).2 = s.2) := by
  cases l with
  | nil => simp at hl
  | cons x l =>
    have h := fold_spec l x
    simp only at h
    rw [show joined (x :: l) = l.foldl (fun s y => (min s.1 y.1, max s.2 y.2)) x from rfl]
    generalize List.foldl _ _ l = j at h ⊢
    obtain ⟨⟨h1, h2, h3⟩, h4, h5⟩ := h
    refine ⟨?_, ?_, ?_⟩
    · clear h4 h5
      intro s hs
      rcases List.mem_cons.1 hs with rfl | hs
      · omega
      · exact h3 s hs
    · rcases h4 with h4 | ⟨s, hs, h4⟩
      · exact ⟨x, List.mem_cons_self, h4⟩
      · exact ⟨s, List.mem_cons_of_mem _ hs, h4⟩
    · rcases h5 with h5 | ⟨s, hs, h5⟩
      · exact ⟨x, List.mem_cons_self, h5⟩
      · exact ⟨s, List.mem_cons_of_mem _ hs, h5⟩
theorem mem_leaks (x : CutD) (leak : Int) : leak ∈ leaks x ↔ inS x.leak leak := by
  unfold leaks inS
  rw [List.mem_map]
  constructor
  · rintro ⟨i, hi, rfl⟩
    rw [List.mem_range] at hi
    omega
  · rintro ⟨h1, h2⟩
    exact ⟨(leak - x.leak.1).toNat, by rw [List.mem_range]; omega, by omega⟩
/-- A day's depths: all truths are within, both ends are those of one. -/
theorem water_spec {x : CutD} (h : Valid x) (hc : can x (every x) = true) (d : Nat) (hd : d ≤ x.rain.length) :
    (∀ leak t, inS x.leak leak → Truth x leak (every x) t → inS (water x d) (t d)) ∧
    (∃ leak t, inS x.leak leak ∧ Truth x leak (every x) t ∧ t d = (water x d).1) ∧ ∃ leak t, inS x.leak leak ∧ Truth x leak (every x) t ∧ t d = (water x d).2 := by
  have hpos : 0 < (((leaks x).map fun k => seasonAt x k (every x) d).filter some).length := by
    obtain ⟨leak, h1, t, ht⟩ := (can_iff h _).1 hc
    refine List.length_pos_of_mem (a := seasonAt x leak (every x) d) (List.mem_filter.2 ⟨List.mem_map.2 ⟨leak, (mem_leaks x leak).2 h1, rfl⟩, ?_⟩)
    have := h.l0; have := h.l2; unfold inS at h1
    exact (some_iff _).2 ⟨t d, (season_in h leak (by omega) (by omega) _ d hd _).2 ⟨t, ht, rfl⟩⟩
  obtain ⟨j1, j2, j3⟩ := joined_spec hpos
  have l0 := h.l0
  have l2 := h.l2
  have key : ∀ s, s ∈ (((leaks x).map fun k => seasonAt x k (every x) d).filter some) → ∃ leak, inS x.leak leak ∧ s = seasonAt x leak (every x) d ∧ s.1 ≤ s.2 := by
    intro s hs
    obtain ⟨h1, h2⟩ := List.mem_filter.1 hs
    obtain ⟨leak, h3, rfl⟩ := List.mem_map.1 h1
    exact ⟨leak, (mem_leaks x leak).1 h3, rfl, by simpa [some] using h2⟩
  refine ⟨?_, ?_, ?_⟩
  · intro leak t hl ht
    have hin : inS (seasonAt x leak (every x) d) (t d) := by
      unfold inS at hl
      exact (season_in h leak (by omega) (by omega) _ d hd _).2 ⟨t, ht, rfl⟩
    have := j1 (seasonAt x leak (every x) d) (List.mem_filter.2 ⟨List.mem_map.2 ⟨leak, (mem_leaks x leak).2 hl, rfl⟩, (some_iff _).2 ⟨_, hin⟩⟩)
    unfold water inS at *
    omega
  · obtain ⟨s, hs, e⟩ := j2
    obtain ⟨leak, hl, rfl, hle⟩ := key s hs
    have hl' := hl
    unfold inS at hl'
    obtain ⟨t, ht, et⟩ := (season_in h leak (by omega) (by omega) (every x) d hd (seasonAt x leak (every x) d).1).1 ⟨by omega, hle⟩
    exact ⟨leak, t, hl, ht, et.trans e.symm⟩
  · obtain ⟨s, hs, e⟩ := j3
    obtain ⟨leak, hl, rfl, hle⟩ := key s hs
    have hl' := hl
    unfold inS at hl'
    obtain ⟨t, ht, et⟩ := (season_in h leak (by omega) (by omega) (every x) d hd (seasonAt x leak (every x) d).2).1 ⟨hle, by omega⟩
    exact ⟨leak, t, hl, ht, et.trans e.symm⟩
/-- What leaks: all truths are within, both ends are those of one. -/
theorem leak_spec {x : CutD} (h : Valid x) (hc : can x (every x) = true) :
    (∀ leak t, inS x.leak leak → Truth x leak (every x) t → inS (leakSpan x) leak) ∧
    (inS x.leak (leakSpan x).1 ∧ ∃ t, Truth x (leakSpan x).1 (every x) t) ∧ inS x.leak (leakSpan x).2 ∧ ∃ t, Truth x (leakSpan x).2 (every x) t := by
  obtain ⟨j1, j2, j3⟩ := joined_spec (leakSpans_pos x hc)
  have l0 := h.l0
  have l2 := h.l2
  have key : ∀ s, s ∈ leakSpans x ↔ ∃ leak, inS x.leak leak ∧ s = (leak, leak) ∧ ∃ t, Truth x leak (every x) t := by
    intro s
    unfold leakSpans
    rw [List.mem_map]
    constructor
    · rintro ⟨leak, hl, rfl⟩
      obtain ⟨h1, h2⟩ := List.mem_filter.1 hl
      have h3 := (mem_leaks x leak).1 h1
      obtain ⟨v, hv⟩ := (some_iff _).1 h2
      have h4 := h3
      unfold inS at h4
      obtain ⟨t, ht, _⟩ := (season_in h leak (by omega) (by omega) _ 0 (by omega) v).1 hv
      exact ⟨leak, h3, rfl, t, ht⟩
    · rintro ⟨leak, h3, rfl, t, ht⟩
      have h4 := h3
      unfold inS at h4
      exact ⟨leak, List.mem_filter.2 ⟨(mem_leaks x leak).2 h3, (some_iff _).2 ⟨t 0, (season_in h leak (by omega) (by omega) _ 0 (by omega) _).2 ⟨t, ht, rfl⟩⟩⟩, rfl⟩
  refine ⟨?_, ?_, ?_⟩
  · intro leak t hl ht
    have := j1 (leak, leak) ((key _).2 ⟨leak, hl, rfl, t, ht⟩)
    unfold leakSpan inS
    simpa using this
  · obtain ⟨s, hs, e⟩ := j2
    obtain ⟨leak, hl, rfl, ht⟩ := (key _).1 hs
    unfold leakSpan
    rw [e]; exact ⟨hl, ht⟩
  · obtain ⟨s, hs, e⟩ := j3
    obtain ⟨leak, hl, rfl, ht⟩ := (key _).1 hs
    unfold leakSpan
    rw [e]; exact ⟨hl, ht⟩
theorem mem_getD {α : Type} {l : List α} {a d : α} (h : a ∈ l) : ∃ i, i < l.length ∧ l.getD i d = a := by
  obtain ⟨i, hi, rfl⟩ := List.mem_iff_getElem.1 h
  exact ⟨i, hi, by simp [hi]⟩
theorem of_valid {x : CutD} (h : Valid x) : valid x = true := by
  obtain ⟨a1, a2, a3, a4, a5, a6, a7, a8, a9, a10, a11, a12, a13, a14, a15⟩ := h
  simp only [valid, within, isSpan, Bool.and_eq_true, decide_eq_true_eq, List.all_eq_true]
  refine ⟨⟨⟨⟨⟨⟨⟨⟨⟨by omega, by omega⟩, by omega, a4⟩, ⟨a5, a6⟩, a7⟩, ⟨a8, a9⟩, a10⟩, by omega⟩, by omega⟩, ?_⟩, ?_⟩, ?_⟩
  · intro s hs
    obtain ⟨i, hi, e⟩ := mem_getD (d := (0, 0)) hs
    have := a13 i hi
    unfold spanAt at this
    rw [e] at this; omega
  · intro s hs
    obtain ⟨i, hi, e⟩ := mem_getD (d := nobody) hs
    have := a14 i hi
    unfold boatAt at this
    rw [e] at this; omega
  · intro s hs
    obtain ⟨i, hi, e⟩ := mem_getD (d := noLook) hs
    have := a15 i hi
    unfold lookAt at this
    rw [e] at this; omega
end Cut
end Go.Proofs.YtlkhjnpflohfeaaDoor

/- The plain law of CutRain. -/
namespace Go.Proofs.YtlkhjnpflohfeaaDoor
open Go
namespace Cut
open Ev (lowN highN bare wetter)
theorem low_truth {x : CutD} (h : Valid x) (hl : x.looks = []) (set : Nat) : Truth x x.leak.2 set (lowN x) := by
  refine ⟨?_, ?_, ?_⟩
  · have := h.d1; unfold inS lowN; omega
  · intro d hd
    have := h.rain d hd
    exact ⟨(spanAt x.rain d).1, by unfold inS; omega, rfl⟩
  · intro d _ i hi
    rw [hl] at hi; simp at hi
theorem high_truth {x : CutD} (h : Valid x) (hl : x.looks = []) (set : Nat) : Truth x x.leak.1 set (highN x) := by
  refine ⟨?_, ?_, ?_⟩
  · have := h.d1; unfold inS highN; omega
  · intro d hd
    have := h.rain d hd
    exact ⟨(spanAt x.rain d).2, by unfold inS; omega, rfl⟩
  · intro d _ i hi
    rw [hl] at hi; simp at hi
theorem truth_between {x : CutD} {leak : Int} {set : Nat} {t : Nat → Int} (hk : inS x.leak leak) (h : Truth x leak set t) : ∀ d, d ≤ x.rain.length → lowN x d ≤ t d ∧ t d ≤ highN x d
  | 0, _ => h.start
  | d + 1, hd => by
    have ih := truth_between hk h d (by omega)
    obtain ⟨r, hr, e⟩ := h.step d (by omega)
    rw [e]
    unfold inS at hr hk
    unfold lowN highN held
    omega
theorem valid_bare {c : CutD} (h : Valid c) : Valid (bare c) := by
  obtain ⟨a1, a2, a3, a4, a5, a6, a7, a8, a9, a10, a11, a12, a13, a14, a15⟩ := h
  exact ⟨a1, a2, a3, a4, a5, a6, a7, a8, a9, a10, a11, by simp [bare], a13, a14, fun i hi => by simp [bare] at hi⟩
theorem span_set (r : List (Int × Int)) (wi i : Nat) (v : Int × Int) (hw : wi < r.length) : spanAt (r.set wi v) i = if i = wi then v else spanAt r i := by
  unfold spanAt
  by_cases h : i = wi
  · subst h; simp [hw]
  · rw [if_neg h]
    simp [List.getD_eq_getElem?_getD, Ne.symm h]
theorem valid_wet {c : CutD} (h : Valid c) (wi : Nat) (hw : wi < c.rain.length) (mr : Int) (h0 : 0 ≤ mr) : Valid (wetter c wi mr) := by
  obtain ⟨a1, a2, a3, a4, a5, a6, a7, a8, a9, a10, a11, a12, a13, a14, a15⟩ := h
  refine ⟨by simpa [wetter] using a1, by simpa [wetter] using a2, a3, a4, a5, a6, a7, a8, a9, a10, a11, by simp [wetter], fun i hi => ?_, a14, fun i hi => by simp [wetter] at hi⟩
  have hi' : i < c.rain.length := by simpa [wetter] using hi
  have e : spanAt (wetter c wi mr).rain i = if i = wi then (min 30 ((spanAt c.rain wi).1 + mr), min 30 ((spanAt c.rain wi).2 + mr)) else spanAt c.rain i := span_set _ _ _ _ hw
  rw [e]
  have h1 := a13 i hi'
  have h2 := a13 wi hw
  split
  · simp only; omega
  · exact h1
theorem low_bare (c : CutD) : ∀ d, lowN (bare c) d = lowN c d ∧ highN (bare c) d = highN c d
  | 0 => ⟨rfl, rfl⟩
  | d + 1 => by
    obtain ⟨h1, h2⟩ := low_bare c d
    have e1 : lowN (bare c) (d + 1) = max 0 (min c.most (lowN (bare c) d + (spanAt c.rain d).1 - c.leak.2)) := rfl
    have e2 : highN (bare c) (d + 1) = max 0 (min c.most (highN (bare c) d + (spanAt c.rain d).2 - c.leak.1)) := rfl
    rw [e1, e2, h1, h2]; exact ⟨rfl, rfl⟩
theorem low_wet {c : CutD} (h : Valid c) (wi : Nat) (hw : wi < c.rain.length) (mr : Int) (h0 : 0 ≤ mr) : ∀ d, d ≤ c.rain.length → lowN c d ≤ lowN (wetter c wi mr) d ∧ highN c d ≤ highN (wetter c wi mr) d
  | 0, _ => ⟨Int.le_refl _, Int.le_refl _⟩
  | d + 1, hd => by
    obtain ⟨h1, h2⟩ := low_wet h wi hw mr h0 d (by omega)
    have e : spanAt (wetter c wi mr).rain d = if d = wi then (min 30 ((spanAt c.rain wi).1 + mr), min 30 ((spanAt c.rain wi).2 + mr)) else spanAt c.rain d := span_set _ _ _ _ hw
    have hr := h.rain d (by omega)
    have hs : (spanAt c.rain d).1 ≤ (spanAt (wetter c wi mr).rain d).1 ∧ (spanAt c.rain d).2 ≤ (spanAt (wetter c wi mr).rain d).2 := by
      rw [e]
      split
      · rename_i hdw
        subst hdw
        simp only; omega
      · omega
    have e1 : lowN (wetter c wi mr) (d + 1) = max 0 (min c.most (lowN (wetter c wi mr) d + (spanAt (wetter c wi mr).rain d).1 - c.leak.2)) := rfl
    have e2 : highN (wetter c wi mr) (d + 1) = max 0 (min c.most (highN (wetter c wi mr) d + (spanAt (wetter c wi mr).rain d).2 - c.leak.1)) := rfl
    have e3 : lowN c (d + 1) = max 0 (min c.most (lowN c d + (spanAt c.rain d).1 - c.leak.2)) := rfl
    have e4 : highN c (d + 1) = max 0 (min c.most (highN c d + (spanAt c.rain d).2 - c.leak.1)) := rfl
    rw [e1, e2, e3, e4]
    omega
/-- Without looks a day's depths are those between the two truths. -/
theorem water_bare {x : CutD} (h : Valid x) (hl : x.looks = []) : can x (every x) = true ∧ ∀ d, d ≤ x.rain.length → water x d = (lowN x d, highN x d) := by
  have l1 := h.l1
  have hc : can x (every x) = true := (can_iff h _).2 ⟨x.leak.2, by unfold inS; omega, _, low_truth h hl _⟩
  refine ⟨hc, fun d hd => ?_⟩
  obtain ⟨h1, ⟨k1, t1, a1, a2, a3⟩, ⟨k2, t2, b1, b2, b3⟩⟩ := water_spec h hc d hd
  have c1 := h1 _ _ (by unfold inS; omega) (low_truth h hl _)
  have c2 := h1 _ _ (by unfold inS; omega) (high_truth h hl _)
  have c3 := truth_between a1 a2 d hd
  have c4 := truth_between b1 b2 d hd
  unfold inS at c1 c2
  refine Prod.ext ?_ ?_
  · show (water x d).1 = lowN x d
    omega
  · show (water x d).2 = highN x d
    omega
theorem floats_more (b : Boat) (n : Int) (v w : Int × Int) (h1 : v.1 ≤ w.1) (h2 : v.2 ≤ w.2) : floats b n v ≤ floats b n w := by
  unfold floats
  split
  · rw [if_pos (by omega)]; decide
  · split
    · split
      · decide
      · rw [if_pos (by omega)]; decide
    · split
      · decide
      · split <;> decide
end Cut
theorem told_bare {x : CutD} (h : Cut.Valid x) (hl : x.looks = []) : toldErr x true = 0 := toldErr_ok (Cut.of_valid h) (Cut.water_bare h hl).1
theorem rain_plain {c : CutD} (hf : fineD c = true) (wi : Nat) (hw : wi < c.rain.length) (mr w : Int) (h0 : 0 ≤ mr) (_hw0 : 0 ≤ w) : Ev.Rain specApi c wi mr w := by
  have V := Cut.valid_of (fine_valid hf)
  have VB := Cut.valid_bare V
  have VW := Cut.valid_wet V wi hw mr h0
  have tB := told_bare VB rfl
  have tW := told_bare VW rfl
  have lenW : (Ev.wetter c wi mr).rain.length = c.rain.length := by simp [Ev.wetter]
  have eB : ∀ d, d ≤ c.rain.length → Cut.water (Ev.bare c) d = (Ev.lowN c d, Ev.highN c d) := fun d hd => by
    rw [(Cut.water_bare VB rfl).2 d hd, (Cut.low_bare c d).1, (Cut.low_bare c d).2]
  have eW : ∀ d, d ≤ c.rain.length → Cut.water (Ev.wetter c wi mr) d = (Ev.lowN (Ev.wetter c wi mr) d, Ev.highN (Ev.wetter c wi mr) d) := fun d hd =>
    (Cut.water_bare VW rfl).2 d (by rw [lenW]; exact hd)
  have hle := Cut.low_wet V wi hw mr h0
  have l1 := V.l1
  refine ⟨V.n8, fun i hi => ?_, ⟨V.l0, by have := V.l2; omega, by have := V.l0; omega, V.l2⟩, ⟨by have := V.m1; omega, V.m100⟩, ?_, V.b4, ?_, ?_⟩
  · have := V.rain i hi; omega
  · have := V.d0; have := V.d1; have := V.d2; have := V.m100; omega
  · intro d hd
    have hB : depthR (Ev.bare c) d = ((Ev.lowN c d, Ev.highN c d), 0) := by
      unfold depthR
      rw [isDay_nat (c := Ev.bare c) hd, if_pos tB, Int.toNat_natCast, eB d hd]
    have hW : depthR (Ev.wetter c wi mr) d = ((Ev.lowN (Ev.wetter c wi mr) d, Ev.highN (Ev.wetter c wi mr) d), 0) := by
      unfold depthR
      rw [isDay_nat (c := Ev.wetter c wi mr) (by rw [lenW]; exact hd), if_pos tW, Int.toNat_natCast, eW d hd]
    show depthR (Ev.bare c) d = ((Ev.lowN c d, Ev.highN c d), 0) ∧ (depthR (Ev.wetter c wi mr) d).2 = 0 ∧ Ev.lowN c d ≤ (depthR (Ev.wetter c wi mr) d).1.1 ∧ Ev.highN c d ≤ (depthR (Ev.wetter c wi mr) d).1.2
    rw [hB, hW]
    exact ⟨rfl, rfl, (hle d hd).1, (hle d hd).2⟩
  · intro i hi
    have hb := V.boat i hi
    rw [boatAt_get hi] at hb
    refine ⟨by omega, by omega, ?_⟩
    have m0 : 0 ≤ w % (c.boats[i].room + 1) := Int.emod_nonneg _ (by omega)
    have m1 : w % (c.boats[i].room + 1) < c.boats[i].room + 1 := Int.emod_lt_of_pos _ (by omega)
    generalize w % (c.boats[i].room + 1) = ld at *
    have hlB : Cut.isLoads (Ev.bare c) i ld = true := isLoads_nat (c := Ev.bare c) hi m0 (by show ld ≤ (Cut.boatAt c.boats i).room; rw [boatAt_get hi]; omega)
    have hlW : Cut.isLoads (Ev.wetter c wi mr) i ld = true := isLoads_nat (c := Ev.wetter c wi mr) hi m0 (by show ld ≤ (Cut.boatAt c.boats i).room; rw [boatAt_get hi]; omega)
    have lt : ∀ p, Cut.setTo p (c.rain.length + 1) < 1048576 := by
      intro p
      have h1 := Cut.setTo_lt p (c.rain.length + 1)
      have h2 : 2 ^ (c.rain.length + 1) ≤ 2 ^ 9 := Nat.pow_le_pow_right (by decide) (by have := V.n8; omega)
      omega
    refine ⟨Cut.daysAll (Ev.bare c) i ld, Cut.daysSome (Ev.bare c) i ld, Cut.daysAll (Ev.wetter c wi mr) i ld, Cut.daysSome (Ev.wetter c wi mr) i ld, ?_, ?_, lt _, lt _, by unfold Cut.daysAll; rw [lenW]; exact lt _, by unfold Cut.daysSome; rw [lenW]; exact lt _, ?_, ?_⟩
    · show daysR (Ev.bare c) i ld = _
      unfold daysR; rw [hlB, if_pos tB]; rfl
    · show daysR (Ev.wetter c wi mr) i ld = _
      unfold daysR; rw [hlW, if_pos tW]; rfl
    · intro j
      unfold Cut.daysAll
      rw [Cut.setTo_bit, Cut.setTo_bit, lenW]
      simp only [Bool.and_eq_true, decide_eq_true_eq, beq_iff_eq]
      rintro ⟨hj, h2⟩
      refine ⟨hj, ?_⟩
      have hj' : j < c.rain.length + 1 := hj
      have hm := Cut.floats_more c.boats[i] ld (Cut.water (Ev.bare c) j) (Cut.water (Ev.wetter c wi mr) j) (by rw [eB j (by omega), eW j (by omega)]; exact (hle j (by omega)).1) (by rw [eB j (by omega), eW j (by omega)]; exact (hle j (by omega)).2)
      have hor := Cut.floats_or c.boats[i] ld (Cut.water (Ev.wetter c wi mr) j)
      have e1 : Cut.floatsOn (Ev.bare c) i ld j = Cut.floats c.boats[i] ld (Cut.water (Ev.bare c) j) := by unfold Cut.floatsOn; rw [boatAt_get (c := Ev.bare c) hi]; rfl
      have e2 : Cut.floatsOn (Ev.wetter c wi mr) i ld j = Cut.floats c.boats[i] ld (Cut.water (Ev.wetter c wi mr) j) := by unfold Cut.floatsOn; rw [boatAt_get (c := Ev.wetter c wi mr) hi]; rfl
      rw [e1] at h2
      rw [e2]
      omega
    · intro j
      unfold Cut.daysSome
      rw [Cut.setTo_bit, Cut.setTo_bit, lenW]
      simp only [Bool.and_eq_true, decide_eq_true_eq, bne_iff_ne]
      rintro ⟨hj, h2⟩
      refine ⟨hj, ?_⟩
      have hj' : j < c.rain.length + 1 := hj
      have hm := Cut.floats_more c.boats[i] ld (Cut.water (Ev.bare c) j) (Cut.water (Ev.wetter c wi mr) j) (by rw [eB j (by omega), eW j (by omega)]; exact (hle j (by omega)).1) (by rw [eB j (by omega), eW j (by omega)]; exact (hle j (by omega)).2)
      have hor := Cut.floats_or c.boats[i] ld (Cut.water (Ev.bare c) j)
      have e1 : Cut.floatsOn (Ev.bare c) i ld j = Cut.floats c.boats[i] ld (Cut.water (Ev.bare c) j) := by unfold Cut.floatsOn; rw [boatAt_get (c := Ev.bare c) hi]; rfl
      have e2 : Cut.floatsOn (Ev.wetter c wi mr) i ld j = Cut.floats c.boats[i] ld (Cut.water (Ev.wetter c wi mr) j) := by unfold Cut.floatsOn; rw [boatAt_get (c := Ev.wetter c wi mr) hi]; rfl
      rw [e1] at h2
      rw [e2]
      omega
end Go.Proofs.YtlkhjnpflohfeaaDoor

/- What CutEnds comes to. -/
namespace Go.Proofs.YtlkhjnpflohfeaaDoor
open Go
namespace Ev
def leaking (c : CutD) (n : Int) : CutD := { c with leak := (n, n) }
def showing (c : CutD) (n : Int) (day : Nat) (v : Int) : CutD := { c with leak := (n, n), looks := c.looks ++ [⟨day, (v, v)⟩] }
/-- The plain law. -/
structure Ends (A : Api) (c : CutD) (day : Nat) : Prop where
  len : c.rain.length ≤ 8
  leak : 0 ≤ c.leak.1 ∧ c.leak.2 ≤ 10
  most : 0 ≤ c.most ∧ c.most ≤ 100
  dayErr : (A.depth c (c.rain.length + 1)).2 = 2
  boatErr : (A.floats c c.boats.length 0 0).2 = 2
  daysErr : (A.days c (-1) 0).2 = 2
  sumErr : (A.together c (-1)).2 = 2
  err : (A.depth c 0).2 = 0 ∧ (A.clash c).2 = 4 ∧ (A.leak c).2 = 0 ∨ A.depth c 0 = ((0, 0), 10) ∧ (A.clash c).2 ≠ 4 ∧ A.leak c = ((0, 0), 10)
  round : (A.depth c 0).2 = 0 → c.looks.length < 5 → ∀ n, c.leak.1 ≤ n → n ≤ c.leak.2 →
    ((A.depth (leaking c n) day).2 = 0 ∧ (A.leak c).1.1 ≤ n ∧ n ≤ (A.leak c).1.2 ∧ (-1000 ≤ (A.depth (leaking c n) day).1.1 ∧ (A.depth (leaking c n) day).1.1 ≤ 1000 ∧ -1000 ≤ (A.depth (leaking c n) day).1.2 ∧ (A.depth (leaking c n) day).1.2 ≤ 1000) ∧
      ∀ v, max 0 ((A.depth (leaking c n) day).1.1 - 2) ≤ v → v ≤ min c.most ((A.depth (leaking c n) day).1.2 + 2) → ((A.clash (showing c n day v)).2 = 4 ↔ (A.depth (leaking c n) day).1.1 ≤ v ∧ v ≤ (A.depth (leaking c n) day).1.2)) ∨
    ((A.depth (leaking c n) day).2 = 10 ∧ n ≠ (A.leak c).1.1 ∧ n ≠ (A.leak c).1.2)
end Ev
end Go.Proofs.YtlkhjnpflohfeaaDoor

/- The plain law of CutEnds. -/
namespace Go.Proofs.YtlkhjnpflohfeaaDoor
open Go
namespace Cut
open Ev (leaking showing)
theorem every_bit (x : CutD) (i : Nat) : (every x).testBit i = decide (i < x.looks.length) := by
  unfold every
  exact Nat.testBit_two_pow_sub_one ..
theorem valid_leaking {c : CutD} (h : Valid c) {n : Int} (h0 : 0 ≤ n) (h1 : n ≤ 10) : Valid (leaking c n) := by
  obtain ⟨a1, a2, a3, a4, a5, a6, a7, a8, a9, a10, a11, a12, a13, a14, a15⟩ := h
  exact ⟨a1, a2, a3, a4, a5, a6, a7, h0, Int.le_refl _, h1, a11, a12, a13, a14, a15⟩
theorem lookAt_app (l : List Look) (e : Look) (i : Nat) : lookAt (l ++ [e]) i = if i < l.length then lookAt l i else if i = l.length then e else noLook := by
  unfold lookAt
  simp only [List.getD_eq_getElem?_getD, List.getElem?_append]
  by_cases h : i < l.length
  · simp [h]
  · by_cases h2 : i = l.length
    · subst h2; simp
    · have h3 : i - l.length ≠ 0 := by omega
      simp only [h, h2, if_false]
      rw [List.getElem?_eq_none (by simp; omega)]
      rfl
theorem valid_showing {c : CutD} (h : Valid c) {n v : Int} {day : Nat} (h0 : 0 ≤ n) (h1 : n ≤ 10) (hd : day ≤ c.rain.length) (v0 : 0 ≤ v) (v1 : v ≤ 100) (hl : c.looks.length < 5) : Valid (showing c n day v) := by
  obtain ⟨a1, a2, a3, a4, a5, a6, a7, a8, a9, a10, a11, a12, a13, a14, a15⟩ := h
  refine ⟨a1, a2, a3, a4, a5, a6, a7, h0, Int.le_refl _, h1, a11, by simp [showing]; omega, a13, a14, fun i hi => ?_⟩
  have hi' : i < c.looks.length + 1 := by simpa [showing] using hi
  show 0 ≤ (lookAt (c.looks ++ [⟨day, (v, v)⟩]) i).day ∧ _ ≤ _ ∧ 0 ≤ (lookAt (c.looks ++ [⟨day, (v, v)⟩]) i).depth.1 ∧ (lookAt (c.looks ++ [⟨day, (v, v)⟩]) i).depth.1 ≤ (lookAt (c.looks ++ [⟨day, (v, v)⟩]) i).depth.2 ∧ (lookAt (c.looks ++ [⟨day, (v, v)⟩]) i).depth.2 ≤ 100
  show 0 ≤ (lookAt (c.looks ++ [⟨day, (v, v)⟩]) i).day ∧ (lookAt (c.looks ++ [⟨day, (v, v)⟩]) i).day ≤ c.rain.length ∧ 0 ≤ (lookAt (c.looks ++ [⟨day, (v, v)⟩]) i).depth.1 ∧ (lookAt (c.looks ++ [⟨day, (v, v)⟩]) i).depth.1 ≤ (lookAt (c.looks ++ [⟨day, (v, v)⟩]) i).depth.2 ∧ (lookAt (c.looks ++ [⟨day, (v, v)⟩]) i).depth.2 ≤ 100
  rw [lookAt_app]
  by_cases h : i < c.looks.length
  · rw [if_pos h]; exact a15 i h
  · rw [if_neg h, if_pos (by omega)]
    simp only
    omega
theorem leaks_one (c : CutD) (n : Int) : leaks (leaking c n) = [n] := by
  unfold leaks leaking
  simp only
  rw [show (n - n + 1).toNat = 1 by omega]
  simp
theorem truth_leaking {c : CutD} {n leak : Int} {set : Nat} {t : Nat → Int} : Truth (leaking c n) leak set t ↔ Truth c leak set t :=
  ⟨fun h => ⟨h.start, h.step, h.looks⟩, fun h => ⟨h.start, h.step, h.looks⟩⟩
theorem truth_showing {c : CutD} {n leak v : Int} {day : Nat} (hd : day ≤ c.rain.length) {t : Nat → Int} : Truth (showing c n day v) leak (every (showing c n day v)) t ↔ Truth (leaking c n) leak (every (leaking c n)) t ∧ t day = v := by
  have hlen : (showing c n day v).looks.length = c.looks.length + 1 := by simp [showing]
  have hat : ∀ i, lookAt (showing c n day v).looks i = if i < c.looks.length then lookAt c.looks i else if i = c.looks.length then ⟨day, (v, v)⟩ else noLook := lookAt_app _ _
  constructor
  · intro h
    refine ⟨⟨h.start, h.step, fun d hd i hi _ hday => ?_⟩, ?_⟩
    · have hi : i < c.looks.length := hi
      have := h.looks d hd i (by omega) (by rw [every_bit]; simp; omega)
      rw [hat, if_pos hi] at this
      exact this hday
    · have := h.looks day hd c.looks.length (by omega) (by rw [every_bit]; simp; omega)
      rw [hat, if_neg (by omega), if_pos rfl] at this
      have := this rfl
      unfold inS at this
      simp only at this
      omega
  · rintro ⟨h, hv⟩
    refine ⟨h.start, h.step, fun d hd i hi _ hday => ?_⟩
    rw [hlen] at hi
    rw [hat] at hday ⊢
    by_cases hil : i < c.looks.length
    · rw [if_pos hil] at hday ⊢
      exact h.looks d hd i hil (by rw [every_bit]; exact decide_eq_true hil) hday
    · rw [if_neg hil, if_pos (by omega)] at hday ⊢
      have hdd : d = day := by simp only at hday; omega
      subst hdd
      unfold inS
      simp only
      omega
end Cut
theorem clash_four {x : CutD} (hv : Cut.valid x = true) : (clashR x).2 = 4 ↔ Cut.can x (Cut.every x) = true := by
  unfold clashR
  rw [if_neg (by simp [hv])]
  cases Cut.can x (Cut.every x) <;> simp
theorem ends_plain {c : CutD} (hv : Cut.valid c = true) (day : Nat) (hday : day ≤ c.rain.length) : Ev.Ends specApi c day := by
  have V := Cut.valid_of hv
  have l0 := V.l0
  have l1 := V.l1
  have l2 := V.l2
  have bad : toldErr c false = 2 := toldErr_range hv
  have d0 : depthR c 0 = if toldErr c true = 0 then (Cut.water c 0, 0) else ((0, 0), toldErr c true) := by
    have := isDay_nat (c := c) (d := 0) (by omega)
    unfold depthR
    rw [show Cut.isDay c 0 = true from this]
    rfl
  refine ⟨V.n8, ⟨l0, l2⟩, ⟨by have := V.m1; omega, V.m100⟩, ?_, ?_, ?_, ?_, ?_, ?_⟩
  · show (depthR c ((c.rain.length : Int) + 1)).2 = 2
    have : Cut.isDay c ((c.rain.length : Int) + 1) = false := by simp [Cut.isDay, Cut.within]; omega
    unfold depthR; rw [this, bad]; rfl
  · show (floatsR c (c.boats.length : Int) 0 0).2 = 2
    have : isB c (c.boats.length : Int) 0 0 = false := by
      have : Cut.isBoat c (c.boats.length : Int) = false := by simp [Cut.isBoat, Cut.within]; omega
      unfold isB Cut.isLoads; rw [this]; rfl
    unfold floatsR; rw [this, bad]; rfl
  · show (daysR c (-1) 0).2 = 2
    have : Cut.isLoads c (-1) 0 = false := by
      unfold Cut.isLoads Cut.isBoat Cut.within; rfl
    unfold daysR; rw [this, bad]; rfl
  · show (togetherR c (-1)).2 = 2
    have : Cut.isDay c (-1) = false := rfl
    unfold togetherR; rw [this, bad]; rfl
  · show (depthR c 0).2 = 0 ∧ (clashR c).2 = 4 ∧ (leakR c).2 = 0 ∨ depthR c 0 = ((0, 0), 10) ∧ (clashR c).2 ≠ 4 ∧ leakR c = ((0, 0), 10)
    cases hc : Cut.can c (Cut.every c) with
    | true =>
      have ht := toldErr_ok hv hc
      left
      refine ⟨by rw [d0, if_pos ht], (clash_four hv).2 hc, by unfold leakR; rw [if_pos ht]⟩
    | false =>
      have ht := toldErr_clash hv hc
      right
      refine ⟨by rw [d0, if_neg (by omega), ht], ?_, by unfold leakR; rw [if_neg (by omega), ht]⟩
      intro h
      rw [(clash_four hv).1 h] at hc
      cases hc
  · intro h0 hlk n hn1 hn2
    have h0 : (depthR c 0).2 = 0 := h0
    have hc : Cut.can c (Cut.every c) = true := by
      cases hc : Cut.can c (Cut.every c) with
      | true => rfl
      | false => rw [d0, if_neg (by rw [toldErr_clash hv hc]; decide), toldErr_clash hv hc] at h0; cases h0
    have VL := Cut.valid_leaking V (n := n) (by omega) (by omega)
    have eL : leakR c = (Cut.leakSpan c, 0) := by unfold leakR; rw [if_pos (toldErr_ok hv hc)]
    have eD : depthR (Ev.leaking c n) day = if toldErr (Ev.leaking c n) true = 0 then (Cut.water (Ev.leaking c n) day, 0) else ((0, 0), toldErr (Ev.leaking c n) true) := by
      unfold depthR
      rw [isDay_nat (c := Ev.leaking c n) hday, Int.toNat_natCast]
    obtain ⟨k1, ⟨k2, t2, k3⟩, k4, t4, k5⟩ := Cut.leak_spec V hc
    show ((depthR (Ev.leaking c n) day).2 = 0 ∧ (leakR c).1.1 ≤ n ∧ n ≤ (leakR c).1.2 ∧ (-1000 ≤ (depthR (Ev.leaking c n) day).1.1 ∧ (depthR (Ev.leaking c n) day).1.1 ≤ 1000 ∧ -1000 ≤ (depthR (Ev.leaking c n) day).1.2 ∧ (depthR (Ev.leaking c n) day).1.2 ≤ 1000) ∧
        ∀ v, max 0 ((depthR (Ev.leaking c n) day).1.1 - 2) ≤ v → v ≤ min c.most ((depthR (Ev.leaking c n) day).1.2 + 2) → ((clashR (Ev.showing c n day v)).2 = 4 ↔ (depthR (Ev.leaking c n) day).1.1 ≤ v ∧ v ≤ (depthR (Ev.leaking c n) day).1.2)) ∨
      ((depthR (Ev.leaking c n) day).2 = 10 ∧ n ≠ (leakR c).1.1 ∧ n ≠ (leakR c).1.2)
    rw [eD, eL]
    have canl : ∀ t, Cut.Truth c n (Cut.every c) t → Cut.can (Ev.leaking c n) (Cut.every (Ev.leaking c n)) = true := fun t ht =>
      (Cut.can_iff VL _).2 ⟨n, ⟨Int.le_refl _, Int.le_refl _⟩, t, Cut.truth_leaking.2 ht⟩
    cases hcl : Cut.can (Ev.leaking c n) (Cut.every (Ev.leaking c n)) with
    | true =>
      left
      rw [if_pos (toldErr_ok (Cut.of_valid VL) hcl)]
      obtain ⟨n', hn', t, ht⟩ := (Cut.can_iff VL _).1 hcl
      have hnn : n' = n := by have h := hn'; unfold Cut.inS Ev.leaking at h; simp only at h; omega
      subst hnn
      have hin := k1 n' t ⟨hn1, hn2⟩ (Cut.truth_leaking.1 ht)
      unfold Cut.inS at hin
      have hsea : ∀ v, Cut.inS (Cut.seasonAt (Ev.leaking c n') n' (Cut.every (Ev.leaking c n')) day) v ↔ ∃ t, Cut.Truth (Ev.leaking c n') n' (Cut.every (Ev.leaking c n')) t ∧ t day = v := fun v =>
        Cut.season_in VL n' (by omega) (by omega) _ day hday v
      have hso : Cut.some (Cut.seasonAt (Ev.leaking c n') n' (Cut.every (Ev.leaking c n')) day) = true := (Cut.some_iff _).2 ⟨t day, (hsea _).2 ⟨t, ht, rfl⟩⟩
      have hw : Cut.water (Ev.leaking c n') day = Cut.seasonAt (Ev.leaking c n') n' (Cut.every (Ev.leaking c n')) day := by
        unfold Cut.water
        rw [Cut.leaks_one]
        simp only [List.map_cons, List.map_nil, List.filter_cons, hso, if_true, List.filter_nil]
        rfl
      have hwin : ∀ v, Cut.inS (Cut.water (Ev.leaking c n') day) v ↔ ∃ t, Cut.Truth (Ev.leaking c n') n' (Cut.every (Ev.leaking c n')) t ∧ t day = v := fun v => by rw [hw]; exact hsea v
      have hle : (Cut.water (Ev.leaking c n') day).1 ≤ (Cut.water (Ev.leaking c n') day).2 := by
        rw [hw]; simpa [Cut.some] using hso
      have hb : ∀ v, Cut.inS (Cut.water (Ev.leaking c n') day) v → 0 ≤ v ∧ v ≤ c.most := by
        intro v hv
        obtain ⟨s, hs, e⟩ := (hwin v).1 hv
        have := Cut.FR_in VL (hs.fr day hday)
        rw [e] at this; exact this
      have b1 := hb _ ⟨Int.le_refl _, hle⟩
      have b2 := hb _ ⟨hle, Int.le_refl _⟩
      have m100 := V.m100
      simp only
      refine ⟨trivial, hin.1, hin.2, ⟨by omega, by omega, by omega, by omega⟩, fun v v1 v2 => ?_⟩
      have VS := Cut.valid_showing V (n := n') (v := v) (day := day) (by omega) (by omega) hday (by omega) (by omega) hlk
      rw [clash_four (Cut.of_valid VS), Cut.can_iff VS]
      refine Iff.trans ?_ (hwin v).symm
      constructor
      · rintro ⟨k, hk, s, hs⟩
        have hkk : k = n' := by have h := hk; unfold Cut.inS Ev.showing at h; simp only at h; omega
        subst hkk
        exact ⟨s, (Cut.truth_showing hday).1 hs⟩
      · rintro ⟨s, hs⟩
        exact ⟨n', ⟨Int.le_refl _, Int.le_refl _⟩, s, (Cut.truth_showing hday).2 hs⟩
    | false =>
      right
      have ht := toldErr_clash (Cut.of_valid VL) hcl
      rw [if_neg (by omega)]
      refine ⟨ht, ?_, ?_⟩
      · rintro rfl
        rw [canl _ k3] at hcl; cases hcl
      · rintro rfl
        rw [canl _ k5] at hcl; cases hcl
end Go.Proofs.YtlkhjnpflohfeaaDoor

/- The plain law of CutTrue: what is returned of a cut holds of each truth. -/
namespace Go.Proofs.YtlkhjnpflohfeaaDoor
open Go
theorem true_plain {x : CutD} (V : Cut.Valid x) {leak : Int} (hl : Cut.inS x.leak leak) {t : Nat → Int} (ht : Cut.Truth x leak (Cut.every x) t) :
    (clashR x).2 = 4 ∧ (leakR x).2 = 0 ∧ Cut.inS (leakR x).1 leak ∧ (∀ d : Nat, d ≤ x.rain.length → (depthR x d).2 = 0 ∧ Cut.inS (depthR x d).1 (t d)) ∧
    ∀ (bi : Nat) (h : bi < x.boats.length) (ld : Int), 0 ≤ ld → ld ≤ x.boats[bi].room → ∀ dr, Cut.inS x.boats[bi].draws dr →
      ∃ D S : Nat, daysR x bi ld = (((D : Int), (S : Int)), 0) ∧ D < 1048576 ∧ S < 1048576 ∧ (∀ j, D.testBit j = true → S.testBit j = true) ∧
        (∀ d, d ≤ x.rain.length → (D.testBit d = true → dr + x.boats[bi].per * ld ≤ t d) ∧ (S.testBit d = false → t d < dr + x.boats[bi].per * ld)) ∧
        ∀ d0 : Nat, d0 ≤ x.rain.length → (∃ u : Nat, untilR x bi ld d0 = ((u : Int), 0) ∧ d0 ≤ u ∧ u ≤ x.rain.length ∧ dr + x.boats[bi].per * ld ≤ t u) ∨ untilR x bi ld d0 = (0, 4) := by
  have hv := Cut.of_valid V
  have hc : Cut.can x (Cut.every x) = true := (Cut.can_iff V _).2 ⟨leak, hl, t, ht⟩
  have hz := toldErr_ok hv hc
  have hw : ∀ d, d ≤ x.rain.length → Cut.inS (Cut.water x d) (t d) := fun d hd => (Cut.water_spec V hc d hd).1 leak t hl ht
  refine ⟨(clash_four hv).2 hc, by unfold leakR; rw [if_pos hz], ?_, ?_, ?_⟩
  · unfold leakR; rw [if_pos hz]
    exact (Cut.leak_spec V hc).1 leak t hl ht
  · intro d hd
    unfold depthR
    rw [isDay_nat hd, if_pos hz, Int.toNat_natCast]
    exact ⟨rfl, hw d hd⟩
  · intro bi hbi ld l0 l1 dr hdr
    have hbt := boatAt_get hbi
    have hld : Cut.isLoads x bi ld = true := isLoads_nat hbi l0 (by rw [hbt]; exact l1)
    have lt : ∀ p, Cut.setTo p (x.rain.length + 1) < 1048576 := by
      intro p
      have h1 := Cut.setTo_lt p (x.rain.length + 1)
      have h2 : 2 ^ (x.rain.length + 1) ≤ 2 ^ 9 := Nat.pow_le_pow_right (by decide) (by have := V.n8; omega)
      omega
    have hfo : ∀ d, Cut.floatsOn x bi ld d = Cut.floats x.boats[bi] ld (Cut.water x d) := fun d => by unfold Cut.floatsOn; rw [hbt]
    unfold Cut.inS at hdr
    have two : ∀ d, d ≤ x.rain.length → Cut.floatsOn x bi ld d = 2 → dr + x.boats[bi].per * ld ≤ t d := by
      intro d hd h2
      have h3 := hw d hd
      unfold Cut.inS at h3
      rw [hfo] at h2
      unfold Cut.floats at h2
      split at h2
      · omega
      · split at h2 <;> cases h2
    have zero : ∀ d, d ≤ x.rain.length → Cut.floatsOn x bi ld d = 0 → t d < dr + x.boats[bi].per * ld := by
      intro d hd h2
      have h3 := hw d hd
      unfold Cut.inS at h3
      rw [hfo] at h2
      unfold Cut.floats at h2
      split at h2
      · cases h2
      · split at h2
        · cases h2
        · omega
    refine ⟨Cut.daysAll x bi ld, Cut.daysSome x bi ld, ?_, lt _, lt _, ?_, ?_, ?_⟩
    · unfold daysR; rw [hld, if_pos hz]; rfl
    · intro j
      unfold Cut.daysAll Cut.daysSome
      rw [Cut.setTo_bit, Cut.setTo_bit]
      simp only [Bool.and_eq_true, decide_eq_true_eq, beq_iff_eq, bne_iff_ne]
      rintro ⟨hj, h2⟩
      exact ⟨hj, by omega⟩
    · intro d hd
      constructor
      · intro hD
        unfold Cut.daysAll at hD
        rw [Cut.setTo_bit] at hD
        simp only [Bool.and_eq_true, decide_eq_true_eq, beq_iff_eq] at hD
        exact two d hd hD.2
      · intro hS
        unfold Cut.daysSome at hS
        rw [Cut.setTo_bit] at hS
        have hd' : d < x.rain.length + 1 := by omega
        simp only [hd', decide_true, Bool.true_and, bne_eq_false_iff_eq] at hS
        exact zero d hd hS
    · intro d0 hd0
      have eU : untilR x bi ld d0 = untilV (Cut.untilOn x bi ld d0) := by
        unfold untilR isB; rw [hld, isDay_nat hd0]; simp only [Bool.and_self]; rw [if_pos hz]; rfl
      rw [eU]
      unfold Cut.untilOn
      cases h1 : Cut.findFrom (fun i => Cut.floatsOn x bi ld i == 2) d0 (x.rain.length + 1 - d0) with
      | none => exact .inr rfl
      | some u =>
        obtain ⟨a1, a2, a3, _⟩ := Cut.findFrom_some _ _ _ h1
        exact .inl ⟨u, rfl, a1, by omega, two u (by omega) (by simpa using a3)⟩
/-- A look that shows what truly was. -/
def nearLook (l : Look) (k : Int) : Look :=
  let wide := min 20 (l.depth.2 - l.depth.1)
  ⟨l.day, (max 0 (k - wide / 2), min 100 (k + wide - wide / 2))⟩
/-- The cut whose looks are right. -/
def truly (c : CutD) (t : Nat → Int) : CutD := { c with looks := c.looks.map fun l => nearLook l (t l.day.toNat) }
theorem lookAt_map (l : List Look) (f : Look → Look) (i : Nat) (h : i < l.length) : Cut.lookAt (l.map f) i = f (Cut.lookAt l i) := by
  unfold Cut.lookAt
  simp [h]
theorem near_in {l : Look} {k : Int} (h0 : 0 ≤ k) (h1 : k ≤ 100) (h2 : l.depth.1 ≤ l.depth.2) : Cut.inS (nearLook l k).depth k ∧ 0 ≤ (nearLook l k).depth.1 ∧ (nearLook l k).depth.2 ≤ 100 := by
  unfold nearLook Cut.inS
  simp only
  omega
theorem truly_valid {c : CutD} (V : Cut.Valid c) {t : Nat → Int} (h : ∀ d, d ≤ c.rain.length → 0 ≤ t d ∧ t d ≤ c.most) : Cut.Valid (truly c t) := by
  have m100 := V.m100
  have hlook := V.look
  obtain ⟨a1, a2, a3, a4, a5, a6, a7, a8, a9, a10, a11, a12, a13, a14, a15⟩ := V
  refine ⟨a1, a2, a3, a4, a5, a6, a7, a8, a9, a10, a11, by simpa [truly] using a12, a13, a14, fun i hi => ?_⟩
  have hi' : i < c.looks.length := by simpa [truly] using hi
  have e : Cut.lookAt (truly c t).looks i = nearLook (Cut.lookAt c.looks i) (t (Cut.lookAt c.looks i).day.toNat) := lookAt_map _ _ _ hi'
  have hb := hlook i hi'
  have ht := h (Cut.lookAt c.looks i).day.toNat (by omega)
  rw [e]
  have hn := near_in (l := Cut.lookAt c.looks i) ht.1 (by omega) (by omega)
  unfold Cut.inS at hn
  have hday : (nearLook (Cut.lookAt c.looks i) (t (Cut.lookAt c.looks i).day.toNat)).day = (Cut.lookAt c.looks i).day := rfl
  rw [hday]
  have hr : (truly c t).rain.length = c.rain.length := rfl
  rw [hr]
  omega
theorem truly_truth {c : CutD} (V : Cut.Valid c) {leak : Int} {t : Nat → Int} (h0 : Cut.inS c.depth (t 0)) (hs : ∀ d, d < c.rain.length → Cut.Step c leak d (t d) (t (d + 1))) (hb : ∀ d, d ≤ c.rain.length → 0 ≤ t d ∧ t d ≤ c.most) :
    Cut.Truth (truly c t) leak (Cut.every (truly c t)) t := by
  refine ⟨h0, hs, fun d hd i hi _ hday => ?_⟩
  have hi' : i < c.looks.length := by simpa [truly] using hi
  have e : Cut.lookAt (truly c t).looks i = nearLook (Cut.lookAt c.looks i) (t (Cut.lookAt c.looks i).day.toNat) := lookAt_map _ _ _ hi'
  rw [e] at hday ⊢
  have hday : (Cut.lookAt c.looks i).day = d := hday
  have m100 := V.m100
  have hlk := V.look i hi'
  have hd' : d ≤ c.rain.length := hd
  rw [hday, Int.toNat_natCast]
  have := hb d hd'
  exact (near_in this.1 (by omega) (by omega)).1
end Go.Proofs.YtlkhjnpflohfeaaDoor

/- What more is known of a cut: plain laws for CutMore. -/
namespace Go.Proofs.YtlkhjnpflohfeaaDoor
open Go
namespace Cut
/-- What a cut of which more is known returns, against what the other does. -/
structure Sub (x y : CutD) : Prop where
  can : can x (every x) = true
  water : ∀ d, d ≤ x.rain.length → (water x d).1 ≤ (water y d).1 ∧ (water y d).2 ≤ (water x d).2 ∧ (water y d).1 ≤ (water y d).2
  leak : (leakSpan x).1 ≤ (leakSpan y).1 ∧ (leakSpan y).2 ≤ (leakSpan x).2
  sum : ∀ d, d ≤ x.rain.length → togetherOn x d ≤ togetherOn y d
  all : ∀ b n, b < x.boats.length → ∀ j, (daysAll x b n).testBit j = true → (daysAll y b n).testBit j = true
  some : ∀ b n, b < x.boats.length → ∀ j, (daysSome y b n).testBit j = true → (daysSome x b n).testBit j = true
theorem sub_of {x y : CutD} (VX : Valid x) (VY : Valid y) (hr : y.rain.length = x.rain.length) (hb : y.boats = x.boats) (hcy : Cut.can y (every y) = true)
    (hsub : ∀ leak t, inS y.leak leak → Truth y leak (every y) t → inS x.leak leak ∧ Truth x leak (every x) t) : Sub x y := by
  have hcx : Cut.can x (every x) = true := by
    obtain ⟨leak, h1, t, h2⟩ := (can_iff VY _).1 hcy
    obtain ⟨h3, h4⟩ := hsub leak t h1 h2
    exact (can_iff VX _).2 ⟨leak, h3, t, h4⟩
  have hw : ∀ d, d ≤ x.rain.length → (Cut.water x d).1 ≤ (Cut.water y d).1 ∧ (Cut.water y d).2 ≤ (Cut.water x d).2 ∧ (Cut.water y d).1 ≤ (Cut.water y d).2 := by
    intro d hd
    obtain ⟨_, ⟨k1, t1, a1, a2, a3⟩, ⟨k2, t2, b1, b2, b3⟩⟩ := water_spec VY hcy d (by omega)
    obtain ⟨c1, _, _⟩ := water_spec VX hcx d hd
    obtain ⟨c2, _, _⟩ := water_spec VY hcy d (by omega)
    have e1 := hsub _ _ a1 a2
    have e2 := hsub _ _ b1 b2
    have f1 := c1 _ _ e1.1 e1.2
    have f2 := c1 _ _ e2.1 e2.2
    have f3 := c2 _ _ a1 a2
    unfold inS at f1 f2 f3
    omega
  have hfl : ∀ d, d ≤ x.rain.length → ∀ (b : Boat) (n : Int), b.draws.1 ≤ b.draws.2 → (floats b n (Cut.water x d) = 2 → floats b n (Cut.water y d) = 2) ∧ (floats b n (Cut.water y d) ≠ 0 → floats b n (Cut.water x d) ≠ 0) := by
    intro d hd b n hbd
    have h := hw d hd
    generalize Cut.water x d = u at *
    generalize Cut.water y d = v at *
    unfold floats
    constructor
    · intro h2
      split at h2
      · rw [if_pos (by omega)]
      · split at h2 <;> cases h2
    · intro h2
      split at h2
      · split
        · decide
        · rw [if_pos (by omega)]; decide
      · split at h2
        · split
          · decide
          · rw [if_pos (by omega)]; decide
        · exact absurd rfl h2
  have hB : ∀ b, b < x.boats.length → boatAt y.boats b = boatAt x.boats b := fun b _ => by rw [hb]
  refine ⟨hcx, hw, ?_, ?_, ?_, ?_⟩
  · obtain ⟨c1, _⟩ := leak_spec VX hcx
    obtain ⟨_, ⟨k1, t1, k2⟩, k3, t2, k4⟩ := leak_spec VY hcy
    have e1 := hsub _ _ k1 k2
    have e2 := hsub _ _ k3 k4
    have f1 := c1 _ _ e1.1 e1.2
    have f2 := c1 _ _ e2.1 e2.2
    unfold inS at f1 f2
    omega
  · intro d hd
    unfold togetherOn
    rw [hb]
    have key : ∀ k, k ≤ x.boats.length → sumTo x d k ≤ sumTo y d k := by
      intro k
      induction k with
      | zero => intro _; exact Int.le_refl _
      | succ k ih =>
        intro hk
        have ih := ih (by omega)
        have hbt := VX.boat k (by omega)
        have hbt' := VY.boat k (by rw [hb]; omega)
        have hm := lead_mono (suits x k d 2) (suits y k d 2) (fun i hi => by
          unfold suits at *
          simp only [decide_eq_true_eq] at *
          rw [hB k (by omega)]
          have hor := floats_or (boatAt x.boats k) i (Cut.water x d)
          have := (hfl d hd (boatAt x.boats k) i hbt.2.1).1 (by omega)
          omega) (suits_mono y k d 2 hbt'.2.2.2.1) (suits_mono x k d 2 hbt.2.2.2.1) ((boatAt x.boats k).room.toNat + 1)
        have hl : loads x k d 2 ≤ loads y k d 2 := by
          unfold loads
          rw [hB k (by omega)]
          omega
        unfold sumTo
        omega
    exact key _ (Nat.le_refl _)
  · intro b n hbl j
    unfold daysAll
    rw [setTo_bit, setTo_bit, hr]
    simp only [Bool.and_eq_true, decide_eq_true_eq, beq_iff_eq]
    rintro ⟨hj, h2⟩
    refine ⟨hj, ?_⟩
    unfold floatsOn at *
    rw [hB b hbl]
    exact (hfl j (by omega) _ n (VX.boat b hbl).2.1).1 h2
  · intro b n hbl j
    unfold daysSome
    rw [setTo_bit, setTo_bit, hr]
    simp only [Bool.and_eq_true, decide_eq_true_eq, bne_iff_ne]
    rintro ⟨hj, h2⟩
    refine ⟨hj, ?_⟩
    unfold floatsOn at *
    rw [hB b hbl] at h2
    exact (hfl j (by omega) _ n (VX.boat b hbl).2.1).2 h2
/-- Alike both ways: the same. -/
theorem sub_same {x y : CutD} (h : Sub x y) (k : Sub y x) (hr : y.rain.length = x.rain.length) : (∀ d, d ≤ x.rain.length → water x d = water y d ∧ togetherOn x d = togetherOn y d) ∧ leakSpan x = leakSpan y := by
  refine ⟨fun d hd => ⟨?_, ?_⟩, ?_⟩
  · have a := h.water d hd
    have b := k.water d (by omega)
    exact Prod.ext (by omega) (by omega)
  · have a := h.sum d hd
    have b := k.sum d (by omega)
    omega
  · have a := h.leak
    have b := k.leak
    exact Prod.ext (by omega) (by omega)
/-! Looks: which truths they leave. -/
theorem truth_looks {x : CutD} {leak : Int} {t : Nat → Int} : Truth x leak (every x) t ↔ (inS x.depth (t 0) ∧ (∀ d, d < x.rain.length → Step x leak d (t d) (t (d + 1)))) ∧ ∀ l ∈ x.looks, ∀ d : Nat, d ≤ x.rain.length → l.day = d → inS l.depth (t d) := by
  constructor
  · intro h
    refine ⟨⟨h.start, h.step⟩, fun l hl d hd hday => ?_⟩
    obtain ⟨i, hi, e⟩ := mem_getD (d := noLook) hl
    have := h.looks d hd i hi (by rw [every_bit]; simpa using hi)
    unfold lookAt at this
    rw [e] at this
    exact this hday
  · rintro ⟨⟨h1, h2⟩, h3⟩
    refine ⟨h1, h2, fun d hd i hi _ hday => ?_⟩
    exact h3 (lookAt x.looks i) (getD_mem x.looks i noLook hi) d hd hday
/-- More looks, or narrower ones. -/
theorem truth_more {x y : CutD} (hd : y.depth = x.depth) (hm : y.most = x.most) (hr : y.rain = x.rain) (hl : ∀ l ∈ x.looks, ∃ l' ∈ y.looks, l'.day = l.day ∧ l.depth.1 ≤ l'.depth.1 ∧ l'.depth.2 ≤ l.depth.2) {leak : Int} {t : Nat → Int} (h : Truth y leak (every y) t) : Truth x leak (every x) t := by
  rw [truth_looks] at h ⊢
  obtain ⟨⟨h1, h2⟩, h3⟩ := h
  refine ⟨⟨by rw [← hd]; exact h1, fun d hdd => ?_⟩, fun l hl' d hdd hday => ?_⟩
  · have := h2 d (by rw [hr]; exact hdd)
    unfold Step at *
    rw [hr, hm] at this
    exact this
  · obtain ⟨l', k1, k2, k3, k4⟩ := hl l hl'
    have := h3 l' k1 d (by rw [hr]; exact hdd) (k2.trans hday)
    unfold inS at *
    omega
/-- Narrower rain. -/
theorem truth_rain {x y : CutD} (hd : y.depth = x.depth) (hm : y.most = x.most) (hn : y.rain.length = x.rain.length) (hr : ∀ i, i < x.rain.length → (spanAt x.rain i).1 ≤ (spanAt y.rain i).1 ∧ (spanAt y.rain i).2 ≤ (spanAt x.rain i).2) (hl : y.looks = x.looks) {leak : Int} {t : Nat → Int} (h : Truth y leak (every y) t) : Truth x leak (every x) t := by
  rw [truth_looks] at h ⊢
  obtain ⟨⟨h1, h2⟩, h3⟩ := h
  refine ⟨⟨by rw [← hd]; exact h1, fun d hdd => ?_⟩, fun l hl' d hdd hday => ?_⟩
  · obtain ⟨r, k1, k2⟩ := h2 d (by omega)
    have := hr d hdd
    refine ⟨r, by unfold inS at *; omega, by rw [← hm]; exact k2⟩
  · exact h3 l (by rw [hl]; exact hl') d (by omega) hday
end Cut
end Go.Proofs.YtlkhjnpflohfeaaDoor

/- The plain law of CutClash. -/
namespace Go.Proofs.YtlkhjnpflohfeaaDoor
open Go
namespace Cut
/-- The looks of a set, of the first so many. -/
def pickTo (ls : List Look) (s : Nat) : Nat → List Look
  | 0 => []
  | k + 1 => if s.testBit k then pickTo ls s k ++ [lookAt ls k] else pickTo ls s k
def picked (c : CutD) (s : Nat) : CutD := { c with looks := pickTo c.looks s c.looks.length }
theorem mem_pick (ls : List Look) (s : Nat) (l : Look) : ∀ k, l ∈ pickTo ls s k ↔ ∃ i, i < k ∧ s.testBit i = true ∧ lookAt ls i = l
  | 0 => by simp [pickTo]
  | k + 1 => by
    have ih := mem_pick ls s l k
    unfold pickTo
    split
    · rename_i h
      rw [List.mem_append, ih, List.mem_singleton]
      constructor
      · rintro (⟨i, h1, h2, h3⟩ | rfl)
        · exact ⟨i, by omega, h2, h3⟩
        · exact ⟨k, by omega, h, rfl⟩
      · rintro ⟨i, h1, h2, h3⟩
        by_cases hik : i = k
        · subst hik; exact .inr h3.symm
        · exact .inl ⟨i, by omega, h2, h3⟩
    · rename_i h
      rw [ih]
      constructor
      · rintro ⟨i, h1, h2, h3⟩
        exact ⟨i, by omega, h2, h3⟩
      · rintro ⟨i, h1, h2, h3⟩
        by_cases hik : i = k
        · subst hik; exact absurd h2 h
        · exact ⟨i, by omega, h2, h3⟩
theorem pick_len (ls : List Look) (s : Nat) : ∀ k, (pickTo ls s k).length ≤ k
  | 0 => by simp [pickTo]
  | k + 1 => by
    have := pick_len ls s k
    unfold pickTo
    split
    · rw [List.length_append, List.length_singleton]; omega
    · omega
theorem truth_picked {c : CutD} {s : Nat} {leak : Int} {t : Nat → Int} : Truth (picked c s) leak (every (picked c s)) t ↔ Truth c leak s t := by
  rw [truth_looks]
  constructor
  · rintro ⟨⟨h1, h2⟩, h3⟩
    exact ⟨h1, h2, fun d hd i hi hb hday => h3 _ ((mem_pick _ _ _ _).2 ⟨i, hi, hb, rfl⟩) d hd hday⟩
  · intro h
    refine ⟨⟨h.start, h.step⟩, fun l hl d hd hday => ?_⟩
    obtain ⟨i, hi, hb, rfl⟩ := (mem_pick _ _ _ _).1 hl
    exact h.looks d hd i hi hb hday
theorem valid_picked {c : CutD} (h : Valid c) (s : Nat) : Valid (picked c s) := by
  have hlk := h.look
  obtain ⟨a1, a2, a3, a4, a5, a6, a7, a8, a9, a10, a11, a12, a13, a14, a15⟩ := h
  refine ⟨a1, a2, a3, a4, a5, a6, a7, a8, a9, a10, a11, Nat.le_trans (pick_len _ _ _) a12, a13, a14, fun i hi => ?_⟩
  have hm : lookAt (picked c s).looks i ∈ pickTo c.looks s c.looks.length := getD_mem _ i noLook hi
  obtain ⟨j, hj, _, e⟩ := (mem_pick _ _ _ _).1 hm
  rw [← e]
  exact hlk j hj
theorem can_picked {c : CutD} (h : Valid c) (s : Nat) : can (picked c s) (every (picked c s)) = can c s := by
  have e : can (picked c s) (every (picked c s)) = true ↔ can c s = true := by
    rw [can_iff (valid_picked h s), can_iff h]
    constructor
    · rintro ⟨leak, h1, t, h2⟩; exact ⟨leak, h1, t, truth_picked.1 h2⟩
    · rintro ⟨leak, h1, t, h2⟩; exact ⟨leak, h1, t, truth_picked.2 h2⟩
  cases h1 : can (picked c s) (every (picked c s)) <;> cases h2 : can c s <;> simp_all
theorem can_none {c : CutD} (h : Valid c) : can c 0 = true := by
  have l1 := h.l1
  refine (can_iff h 0).2 ⟨c.leak.2, by unfold inS; omega, Ev.lowN c, ?_, ?_, ?_⟩
  · have := h.d1; unfold inS Ev.lowN; omega
  · intro d hd
    have := h.rain d hd
    exact ⟨(spanAt c.rain d).1, by unfold inS; omega, rfl⟩
  · intro d _ i _ hb
    simp at hb
theorem lead_spec (p : Nat → Bool) : ∀ n, (∀ i, i < lead p n → p i = true) ∧ (lead p n < n → p (lead p n) = false)
  | 0 => ⟨fun i hi => by simp [lead] at hi, fun h => by simp [lead] at h⟩
  | n + 1 => by
    obtain ⟨h1, h2⟩ := lead_spec p n
    have hle := lead_le p n
    unfold lead
    by_cases hc : lead p n = n ∧ p n = true
    · rw [if_pos hc]
      refine ⟨fun i hi => ?_, fun h => by omega⟩
      by_cases hin : i = n
      · subst hin; exact hc.2
      · exact h1 i (by omega)
    · rw [if_neg hc]
      refine ⟨h1, fun h => ?_⟩
      by_cases hn : lead p n = n
      · rw [hn]
        cases hp : p n with
        | false => rfl
        | true => exact absurd ⟨hn, hp⟩ hc
      · exact h2 (by omega)
end Cut
theorem sets_order (k : Nat) (hk : k ≤ 5) : (∀ i, i < 2 ^ k → ∀ j, j < 2 ^ k → i ≤ j → Srt.popc (Srt.at' (Srt.sizeSets k) i) < Srt.popc (Srt.at' (Srt.sizeSets k) j) ∨ Srt.popc (Srt.at' (Srt.sizeSets k) i) = Srt.popc (Srt.at' (Srt.sizeSets k) j) ∧ Srt.at' (Srt.sizeSets k) i ≤ Srt.at' (Srt.sizeSets k) j) ∧
    (∀ s, s < 2 ^ k → ∃ i, i < 2 ^ k ∧ Srt.at' (Srt.sizeSets k) i = s) ∧ (∀ i, i < 2 ^ k → Srt.at' (Srt.sizeSets k) i < 2 ^ k) ∧ ∀ s, s < 2 ^ k → ∀ i, i < k → s.testBit i = true → 2 ^ i ≤ s ∧ Srt.popc (s - 2 ^ i) < Srt.popc s := by
  have : k = 0 ∨ k = 1 ∨ k = 2 ∨ k = 3 ∨ k = 4 ∨ k = 5 := by omega
  rcases this with rfl | rfl | rfl | rfl | rfl | rfl <;> exact ⟨by decide +kernel, by decide +kernel, by decide +kernel, by decide +kernel⟩
/-- What is returned if there is no truth. -/
theorem clash_plain {c : CutD} (V : Cut.Valid c) (hc : Cut.can c (Cut.every c) = false) :
    1 ≤ clashSet c ∧ clashSet c < 2 ^ c.looks.length ∧ Cut.can c (clashSet c) = false ∧
    (∀ i, i < c.looks.length → (clashSet c).testBit i = true → 2 ^ i ≤ clashSet c ∧ Cut.can c (clashSet c - 2 ^ i) = true) ∧
    ∀ o, o < 2 ^ c.looks.length → Cut.can c o = false → Srt.popc (clashSet c) < Srt.popc o ∨ Srt.popc (clashSet c) = Srt.popc o ∧ clashSet c ≤ o := by
  obtain ⟨o1, o2, o3, o4⟩ := sets_order c.looks.length V.k5
  obtain ⟨p1, p2⟩ := Cut.lead_spec (fun i => Cut.can c (Srt.at' (Srt.sizeSets c.looks.length) i)) (2 ^ c.looks.length)
  have hpos : 0 < 2 ^ c.looks.length := Nat.pow_pos (by decide)
  have hlt : Cut.lead (fun i => Cut.can c (Srt.at' (Srt.sizeSets c.looks.length) i)) (2 ^ c.looks.length) < 2 ^ c.looks.length := by
    obtain ⟨i, hi, e⟩ := o2 (Cut.every c) (by unfold Cut.every; omega)
    rcases Nat.lt_or_ge (Cut.lead (fun i => Cut.can c (Srt.at' (Srt.sizeSets c.looks.length) i)) (2 ^ c.looks.length)) (2 ^ c.looks.length) with h | h
    · exact h
    · have := p1 i (by omega)
      simp only [e, hc] at this
      cases this
  have hno := p2 hlt
  unfold clashSet
  generalize Cut.lead (fun i => Cut.can c (Srt.at' (Srt.sizeSets c.looks.length) i)) (2 ^ c.looks.length) = L at *
  have least : ∀ o, o < 2 ^ c.looks.length → Cut.can c o = false → Srt.popc (Srt.at' (Srt.sizeSets c.looks.length) L) < Srt.popc o ∨ Srt.popc (Srt.at' (Srt.sizeSets c.looks.length) L) = Srt.popc o ∧ Srt.at' (Srt.sizeSets c.looks.length) L ≤ o := by
    intro o ho hco
    obtain ⟨i, hi, rfl⟩ := o2 o ho
    have hLi : L ≤ i := by
      rcases Nat.lt_or_ge i L with h | h
      · have := p1 i h
        simp only [hco] at this
        cases this
      · exact h
    exact o1 L hlt i hi hLi
  refine ⟨?_, o3 L hlt, hno, ?_, least⟩
  · rcases Nat.eq_zero_or_pos (Srt.at' (Srt.sizeSets c.looks.length) L) with h | h
    · rw [h, Cut.can_none V] at hno; cases hno
    · exact h
  · intro i hi hb
    obtain ⟨q1, q2⟩ := o4 _ (o3 L hlt) i hi hb
    refine ⟨q1, ?_⟩
    cases hcan : Cut.can c (Srt.at' (Srt.sizeSets c.looks.length) L - 2 ^ i) with
    | true => rfl
    | false =>
      have := least _ (Nat.lt_of_le_of_lt (Nat.sub_le _ _) (o3 L hlt)) hcan
      omega
end Go.Proofs.YtlkhjnpflohfeaaDoor

/- The closure of CutClash, and the reference's size of a set, gone through. -/
namespace Go.Proofs.YtlkhjnpflohfeaaDoor
open Go
namespace Ev
set_option maxRecDepth 100000
theorem bit_any {n d : Nat} (hd : d ≤ 64) : IntKind.i64.wrap ((BitVec.ofInt IntKind.i64.bits ((n : Int).fdiv (2 ^ (min ((d : Int).toNat) IntKind.i64.bits))) &&& BitVec.ofInt IntKind.i64.bits 1).toNat) = if n.testBit d then 1 else 0 := by
  have hb : IntKind.i64.bits = 64 := rfl
  rw [show min ((d : Int).toNat) IntKind.i64.bits = d by rw [hb]; omega, fdiv_pow, hb]
  have h1 : (BitVec.ofInt 64 ((n / 2 ^ d : Nat) : Int)).toNat = (n / 2 ^ d) % 2 ^ 64 := by
    rw [BitVec.toNat_ofInt]; omega
  have h2 : (BitVec.ofInt 64 1).toNat = 1 := by decide
  rw [BitVec.toNat_and, h1, h2, Nat.and_one_is_mod, Nat.testBit_eq_decide_div_mod_eq]
  generalize n / 2 ^ d = q at *
  have h3 : q % 2 ^ 64 % 2 = q % 2 := by omega
  rw [h3, wrap_in (by omega) (by omega)]
  by_cases hm : q % 2 = 1
  · simp [hm]
  · simp [hm]; omega
/-- A function's end: it answers v, and turned nothing. -/
def Gives (t : Nat) (v : AV) (e : AExit) (st : St) : Prop := e = .ret ∧ st.df = [] ∧ st.tc = [] ∧ st.tm.getD t .unk = v
/-- A look, out of the cells of a list. -/
theorem look_cells (ls : List Look) (i : Nat) (hi : i < ls.length) : (lookCs ls)[i * 3]? = some (.int .i64 (Cut.lookAt ls i).day) ∧ (lookCs ls)[i * 3 + 1]? = some (.int .i64 (Cut.lookAt ls i).depth.1) ∧ (lookCs ls)[i * 3 + 2]? = some (.int .i64 (Cut.lookAt ls i).depth.2) :=
  ⟨lookCs_get ls i 0 hi (by decide), lookCs_get ls i 1 hi (by decide), lookCs_get ls i 2 hi (by decide)⟩
/-- What has been picked so far, and where it lies. -/
inductive Sel (T J : List AB) (sel : List Look) : AV → Prop
  | none : sel = [] → Sel T J sel .nils
  | at (j : Nat) : J[j]? = some (.cells (lookCs sel)) → Sel T J sel (.sl (T.length + 2 + j) 0 sel.length 3)
theorem sel_get {T J K : List AB} {j : Nat} {x : AB} (h : J[j]? = some x) (X0 X : AB) : (X0 :: (T ++ X :: (J ++ K)))[T.length + 2 + j]? = some x := by
  have hj := (List.getElem?_eq_some_iff.1 h).1
  rw [show T.length + 2 + j = (T.length + (j + 1)) + 1 by omega, List.getElem?_cons_succ, List.getElem?_append_right (by omega), show T.length + (j + 1) - T.length = j + 1 by omega, List.getElem?_cons_succ, List.getElem?_append_left hj]
  exact h
theorem sel_set {T J K : List AB} {j : Nat} (hj : j < J.length) (X0 X : AB) (v : AB) : (X0 :: (T ++ X :: (J ++ K))).set (T.length + 2 + j) v = X0 :: (T ++ X :: (J.set j v ++ K)) := by
  rw [show T.length + 2 + j = (T.length + (j + 1)) + 1 by omega, List.set_cons_succ, List.set_append_right _ _ (by omega), show T.length + (j + 1) - T.length = j + 1 by omega, List.set_cons_succ, List.set_append_left _ _ hj]
set_option maxHeartbeats 8000000 in
theorem clash_fun (C : Cfg) (hC : C.calm = true) (call : CallF) (A : Api) (hA : ApiOk call A) (a b k l m : Int) (r : List (Int × Int)) (bs : List Boat) (ls : List Look) (hn : ls.length ≤ 5) (s : Nat) (T : List AB) (can : Bool)
    (hl : (A.leak (Cut.picked ⟨(a, b), (k, l), r, m, bs, ls⟩ s)).2 = if can then 0 else 10) :
    Does (ev C call (T.length + 1) none af38.body { tm := tmA 38 (zipI 0 [.int .i64 s, .ptr 0 0] []), df := [], hp := .cells [.int .i64 a, .int .i64 b, .int .i64 k, .int .i64 l, .vs 2 (r.map spanE), .int .i64 m, .vs 4 (bs.map boatE), .vs 3 (ls.map lookE)] :: T, tc := [] })
      (Gives 3 (.bool (!can))) := by
  unfold af38
  simp only [zipI]
  (repeat (first | (with_reducible apply ops_cons; (focus ((conv => lhs; simp [ev1, wantG, spineK, spine, float, xnew, xval, xeff, val_tmA_cons, val_tmA_nil, val_val, putT_some, putT_none, addFl, cellsOf, pickC, alive, slLen, slFt, binI, maxA, maxK, minA, minK, aeqK, aeqS, AV.cells, slCells_sl, boatE, spanE, lookE, fillA, setAt, bitsI, nat_nn, AV.plain, apart, Nat.testBit_eq_decide_div_mod_eq, *]) <;> exact rfl)); simp only [addFl]) | ((first | with_reducible refine does_seq ?_ | with_reducible refine does_ops ?_ | with_reducible refine does_draw ?_ | with_reducible refine does_skip ?_ | with_reducible refine does_block ?_ | with_reducible refine does_ret ?_ | with_reducible refine does_exit ?_ | with_reducible refine ops_nil ?_ | (with_reducible apply does_true; (focus (simp [val_tmA_cons, *]; done))) | (with_reducible apply does_false; (focus (simp [val_tmA_cons, *]; done)))); try simp only [Then, Ops])))
  refine does_loop (fun q st => ∃ (i : Nat) (J : List AB) (lv : AV), i + q = ls.length ∧ Sel T J (Cut.pickTo ls s i) lv ∧ st = { tm := tmA 38 [(14, .int .i64 i), (13, .int .i64 ls.length), (12, .vs 3 (ls.map lookE)), (4, .ptr (T.length + 1) 0), (0, .int .i64 s)], df := [], hp := .cells [.int .i64 a, .int .i64 b, .int .i64 k, .int .i64 l, .vs 2 (r.map spanE), .int .i64 m, .vs 4 (bs.map boatE), .vs 3 (ls.map lookE)] :: (T ++ .cells [.int .i64 a, .int .i64 b, .int .i64 k, .int .i64 l, .vs 2 (r.map spanE), .int .i64 m, .vs 4 (bs.map boatE), lv] :: J), tc := [] }) ls.length (by unfold fuelL; omega) ?_ ?_
  · refine ⟨0, [], .nils, by omega, .none rfl, ?_⟩
    simp only [gcC_calm hC]
    exact st_eq (by simp [keepT_tmA, lk_cons]) rfl rfl rfl
  · rintro q st ⟨i, J, lv, hq, hsel, rfl⟩
    by_cases hi : i < ls.length
    · have hwi : IntKind.i64.wrap (↑i + 1) = ↑i + 1 := wrap_in (by omega) (by omega)
      have hbit := bit_any (n := s) (d := i) (by omega)
      have hat : Cut.lookAt ls i = ls[i] := by simp [Cut.lookAt, hi]
      have hpk : Cut.pickTo ls s (i + 1) = if s.testBit i then Cut.pickTo ls s i ++ [ls[i]] else Cut.pickTo ls s i := by
        rw [← hat]; rfl
      have hlen : (Cut.pickTo ls s i).length ≤ 5 := Nat.le_trans (Cut.pick_len ls s i) (by omega)
      generalize Cut.pickTo ls s i = sel at *
      by_cases hs : s.testBit i = true
      · rw [hs] at hbit
        rw [if_pos hs] at hpk
        have HP := hideP hpk
        clear hpk
        simp at hbit
        cases hsel with
        | none h0 =>
          subst h0
          have hb1 : 1 ≤ bound := by decide
          clear hl hA hn hs hat hlen
          (repeat (first | (with_reducible apply ops_cons; (focus ((conv => lhs; simp [ev1, wantG, spineK, spine, float, xnew, xval, xeff, val_tmA_cons, val_tmA_nil, val_val, putT_some, putT_none, addFl, cellsOf, pickC, alive, slLen, slFt, binI, maxA, maxK, minA, minK, aeqK, aeqS, AV.cells, slCells_sl, boatE, spanE, lookE, fillA, setAt, bitsI, nat_nn, AV.plain, apart, Nat.testBit_eq_decide_div_mod_eq, *]) <;> exact rfl)); simp only [addFl]) | ((first | with_reducible refine does_seq ?_ | with_reducible refine does_ops ?_ | with_reducible refine does_draw ?_ | with_reducible refine does_skip ?_ | with_reducible refine does_block ?_ | with_reducible refine does_ret ?_ | with_reducible refine does_exit ?_ | with_reducible refine ops_nil ?_ | (with_reducible apply does_true; (focus (simp [val_tmA_cons, *]; done))) | (with_reducible apply does_false; (focus (simp [val_tmA_cons, *]; done)))); try simp only [Then, Ops, OutB])))
          refine ⟨q - 1, by omega, i + 1, J ++ [.cells [.int .i64 ls[i].day, .int .i64 ls[i].depth.1, .int .i64 ls[i].depth.2], .cells [.int .i64 ls[i].day, .int .i64 ls[i].depth.1, .int .i64 ls[i].depth.2], .cells [.int .i64 ls[i].day, .int .i64 ls[i].depth.1, .int .i64 ls[i].depth.2]], .sl (T.length + 2 + (J.length + 2)) 0 ([] ++ [ls[i]]).length 3, by omega, ?_, ?_⟩
          · rw [HP.out]
            exact .at (J.length + 2) (by simp [lookCs])
          · simp only [gcC_calm hC]
            refine st_eq (by simp [keepT_tmA, lk_cons]) rfl ?_ rfl
            rw [show T.length + (J.length + 2 + 1) + 1 = T.length + 2 + (J.length + 2) by omega]
            rfl
        | «at» j hj =>
          have hjl := (List.getElem?_eq_some_iff.1 hj).1
          have hb1 : sel.length + 1 ≤ bound := by unfold bound; omega
          have g0 := fun X0 X K => sel_get (T := T) (K := K) hj X0 X
          have g1 := fun X0 X => sel_get (T := T) (K := []) hj X0 X
          simp only [List.append_nil] at g1
          have g2 := fun X0 X K v => sel_set (T := T) (K := K) hjl X0 X v
          have g3 : ¬ (T.length + 2 + j < T.length + 1) := by omega
          have g4 : T.length + 1 ≠ T.length + 2 + j := by omega
          clear hl hA hn hs hat hlen hj hjl
          generalize T.length + 2 + j = B at *
          (repeat (first | (with_reducible apply ops_cons; (focus ((conv => lhs; simp [ev1, wantG, spineK, spine, float, xnew, xval, xeff, val_tmA_cons, val_tmA_nil, val_val, putT_some, putT_none, addFl, cellsOf, pickC, alive, slLen, slFt, binI, maxA, maxK, minA, minK, aeqK, aeqS, AV.cells, slCells_sl, boatE, spanE, lookE, fillA, setAt, bitsI, nat_nn, AV.plain, apart, Nat.testBit_eq_decide_div_mod_eq, *]) <;> exact rfl)); simp only [addFl]) | ((first | with_reducible refine does_seq ?_ | with_reducible refine does_ops ?_ | with_reducible refine does_draw ?_ | with_reducible refine does_skip ?_ | with_reducible refine does_block ?_ | with_reducible refine does_ret ?_ | with_reducible refine does_exit ?_ | with_reducible refine ops_nil ?_ | (with_reducible apply does_true; (focus (simp [val_tmA_cons, *]; done))) | (with_reducible apply does_false; (focus (simp [val_tmA_cons, *]; done)))); try simp only [Then, Ops, OutB])))
          refine ⟨q - 1, by omega, i + 1, J.set j .dead ++ [.cells [.int .i64 ls[i].day, .int .i64 ls[i].depth.1, .int .i64 ls[i].depth.2], .cells [.int .i64 ls[i].day, .int .i64 ls[i].depth.1, .int .i64 ls[i].depth.2], .cells (lookCs sel ++ [.int .i64 ls[i].day, .int .i64 ls[i].depth.1, .int .i64 ls[i].depth.2])], .sl (T.length + 2 + (J.length + 2)) 0 (sel ++ [ls[i]]).length 3, by omega, ?_, ?_⟩
          · rw [HP.out]
            exact .at (J.length + 2) (by rw [List.getElem?_append_right (by simp)]; simp [lookCs_append, lookCs])
          · simp only [gcC_calm hC]
            refine st_eq (by simp [keepT_tmA, lk_cons]) rfl ?_ rfl
            rw [show T.length + (J.length + 2 + 1) + 1 = T.length + 2 + (J.length + 2) by omega]
            simp
      · have hs : s.testBit i = false := by simpa using hs
        rw [hs] at hbit hpk
        rw [if_neg (by simp)] at hpk
        have HP := hideP hpk
        clear hpk
        simp at hbit
        clear hl hA hn hs hat hlen
        (repeat (first | (with_reducible apply ops_cons; (focus ((conv => lhs; simp [ev1, wantG, spineK, spine, float, xnew, xval, xeff, val_tmA_cons, val_tmA_nil, val_val, putT_some, putT_none, addFl, cellsOf, pickC, alive, slLen, slFt, binI, maxA, maxK, minA, minK, aeqK, aeqS, AV.cells, slCells_sl, boatE, spanE, lookE, fillA, setAt, bitsI, nat_nn, AV.plain, apart, Nat.testBit_eq_decide_div_mod_eq, *]) <;> exact rfl)); simp only [addFl]) | ((first | with_reducible refine does_seq ?_ | with_reducible refine does_ops ?_ | with_reducible refine does_draw ?_ | with_reducible refine does_skip ?_ | with_reducible refine does_block ?_ | with_reducible refine does_ret ?_ | with_reducible refine does_exit ?_ | with_reducible refine ops_nil ?_ | (with_reducible apply does_true; (focus (simp [val_tmA_cons, *]; done))) | (with_reducible apply does_false; (focus (simp [val_tmA_cons, *]; done)))); try simp only [Then, Ops, OutB])))
        refine ⟨q - 1, by omega, i + 1, J ++ [.cells [.int .i64 ls[i].day, .int .i64 ls[i].depth.1, .int .i64 ls[i].depth.2]], lv, by omega, ?_, ?_⟩
        · rw [HP.out]
          cases hsel with
          | none h => exact .none h
          | «at» j hj => exact .at j (by rw [List.getElem?_append_left (List.getElem?_eq_some_iff.1 hj).1]; exact hj)
        · simp only [gcC_calm hC]
          exact st_eq (by simp [keepT_tmA, lk_cons]) rfl (by simp) rfl
    · obtain rfl : i = ls.length := by omega
      have hlk : ∀ X0 X, looksV (X0 :: (T ++ X :: J)) lv (Cut.pickTo ls s ls.length) := by
        intro X0 X
        cases hsel with
        | none h => rw [h]; exact looksV_nil _
        | «at» j hj =>
          have := sel_get (T := T) (K := []) hj X0 X
          rw [List.append_nil] at this
          exact looksV_sl this rfl
      have hcall := hA.leak (cutOf_of (a := a) (b := b) (k := k) (l := l) (m := m) (bs := bs) (spansV_vs (.cells [.int .i64 a, .int .i64 b, .int .i64 k, .int .i64 l, .vs 2 (r.map spanE), .int .i64 m, .vs 4 (bs.map boatE), .vs 3 (ls.map lookE)] :: (T ++ .cells [.int .i64 a, .int .i64 b, .int .i64 k, .int .i64 l, .vs 2 (r.map spanE), .int .i64 m, .vs 4 (bs.map boatE), lv] :: J)) r) (hlk _ _))
      unfold twoS at hcall
      have hl' : (A.leak ⟨(a, b), (k, l), r, m, bs, Cut.pickTo ls s ls.length⟩).2 = if can then 0 else 10 := hl
      rw [hl'] at hcall
      generalize (A.leak ⟨(a, b), (k, l), r, m, bs, Cut.pickTo ls s ls.length⟩).1 = sp at *
      clear hl hl' hA hn hlk hsel hq hi
      cases can with
      | true =>
        simp at hcall
        (repeat (first | (with_reducible apply ops_cons; (focus ((conv => lhs; simp [ev1, wantG, spineK, spine, float, xnew, xval, xeff, val_tmA_cons, val_tmA_nil, val_val, putT_some, putT_none, addFl, cellsOf, pickC, alive, slLen, slFt, binI, maxA, maxK, minA, minK, aeqK, aeqS, AV.cells, slCells_sl, boatE, spanE, lookE, fillA, setAt, bitsI, nat_nn, AV.plain, apart, Nat.testBit_eq_decide_div_mod_eq, *]) <;> exact rfl)); simp only [addFl]) | ((first | with_reducible refine does_seq ?_ | with_reducible refine does_ops ?_ | with_reducible refine does_draw ?_ | with_reducible refine does_skip ?_ | with_reducible refine does_block ?_ | with_reducible refine does_ret ?_ | with_reducible refine does_exit ?_ | with_reducible refine ops_nil ?_ | (with_reducible apply does_true; (focus (simp [val_tmA_cons, *]; done))) | (with_reducible apply does_false; (focus (simp [val_tmA_cons, *]; done)))); try simp only [Then, Ops, OutB, reduceIte])))
        exact ⟨rfl, rfl, rfl, by simp only [tmA_getD_cons]; simp⟩
      | false =>
        simp at hcall
        (repeat (first | (with_reducible apply ops_cons; (focus ((conv => lhs; simp [ev1, wantG, spineK, spine, float, xnew, xval, xeff, val_tmA_cons, val_tmA_nil, val_val, putT_some, putT_none, addFl, cellsOf, pickC, alive, slLen, slFt, binI, maxA, maxK, minA, minK, aeqK, aeqS, AV.cells, slCells_sl, boatE, spanE, lookE, fillA, setAt, bitsI, nat_nn, AV.plain, apart, Nat.testBit_eq_decide_div_mod_eq, *]) <;> exact rfl)); simp only [addFl]) | ((first | with_reducible refine does_seq ?_ | with_reducible refine does_ops ?_ | with_reducible refine does_draw ?_ | with_reducible refine does_skip ?_ | with_reducible refine does_block ?_ | with_reducible refine does_ret ?_ | with_reducible refine does_exit ?_ | with_reducible refine ops_nil ?_ | (with_reducible apply does_true; (focus (simp [val_tmA_cons, *]; done))) | (with_reducible apply does_false; (focus (simp [val_tmA_cons, *]; done)))); try simp only [Then, Ops, OutB, reduceIte])))
        exact ⟨rfl, rfl, rfl, by simp only [tmA_getD_cons]; simp⟩
/-- The size of a set, gone through. -/
theorem popcA_zero : ∀ f, Srt.popcA f 0 = 0
  | 0 => rfl
  | f + 1 => by unfold Srt.popcA; simp [popcA_zero f]
theorem popcA_more : ∀ f n, n < 2 ^ f → ∀ g, f ≤ g → Srt.popcA g n = Srt.popcA f n
  | 0, n, h, g, _ => by
    have : n = 0 := by simpa using h
    subst this
    rw [popcA_zero]; rfl
  | f + 1, n, h, 0, hg => by omega
  | f + 1, n, h, g + 1, hg => by
    unfold Srt.popcA
    rw [popcA_more f (n / 2) (by rw [Nat.pow_succ] at h; omega) g (by omega)]
theorem popc_step (n : Nat) (h : n < 65536) : Srt.popc n = n % 2 + Srt.popc (n / 2) := by
  have h1 := popcA_more 15 (n / 2) (by omega) 16 (by omega)
  unfold Srt.popc
  rw [h1]; rfl
theorem popc_small (n : Nat) : Srt.popc n ≤ 16 := Srt.popc_le n
set_option maxHeartbeats 8000000 in
theorem size_fun (C : Cfg) (hC : C.calm = true) (call : CallF) (s : Nat) (hs : s < 65536) (H : List AB) :
    Does (ev C call H.length none af39.body { tm := tmA 13 (zipI 0 [.int .i64 s] []), df := [], hp := H, tc := [] })
      (Gives 2 (.int .i64 (Srt.popc s))) := by
  unfold af39
  simp only [zipI]
  (repeat (first | (with_reducible apply ops_cons; (focus ((conv => lhs; simp [ev1, wantG, spineK, spine, float, xnew, xval, xeff, val_tmA_cons, val_tmA_nil, val_val, putT_some, putT_none, addFl, cellsOf, pickC, alive, slLen, slFt, binI, maxA, maxK, minA, minK, aeqK, aeqS, AV.cells, boatE, spanE, lookE, fillA, setAt, bitsI, nat_nn, AV.plain, apart, Nat.testBit_eq_decide_div_mod_eq, *]) <;> exact rfl)); simp only [addFl]) | ((first | with_reducible refine does_seq ?_ | with_reducible refine does_ops ?_ | with_reducible refine does_draw ?_ | with_reducible refine does_skip ?_ | with_reducible refine does_block ?_ | with_reducible refine does_ret ?_ | with_reducible refine does_exit ?_ | with_reducible refine ops_nil ?_ | (with_reducible apply does_true; (focus (simp [val_tmA_cons, *]; done))) | (with_reducible apply does_false; (focus (simp [val_tmA_cons, *]; done)))); try simp only [Then, Ops])))
  refine does_loop (fun q st => ∃ n acc : Nat, n ≤ q ∧ n < 65536 ∧ acc ≤ 16 ∧ acc + Srt.popc n = Srt.popc s ∧ st = { tm := tmA 13 [(3, .int .i64 acc), (0, .int .i64 n)], df := [], hp := H, tc := [] }) s (by unfold fuelL; omega) ?_ ?_
  · refine ⟨s, 0, Nat.le_refl _, hs, by omega, by omega, ?_⟩
    simp only [gcC_calm hC]
    exact st_eq (by simp [keepT_tmA, lk_cons]) rfl rfl rfl
  · rintro q st ⟨n, acc, hq, hn, ha, he, rfl⟩
    by_cases h0 : 0 < n
    · have hst := popc_step n hn
      have hle := popc_small s
      have t1 : (n : Int).tmod 2 = ((n % 2 : Nat) : Int) := by rw [Int.tmod_eq_emod_of_nonneg (by omega)]; omega
      have t2 : (n : Int).tdiv 2 = ((n / 2 : Nat) : Int) := by rw [Int.tdiv_eq_ediv_of_nonneg (by omega)]; omega
      have hw1 : IntKind.i64.wrap ((acc : Int) + ((n % 2 : Nat) : Int)) = ((acc + n % 2 : Nat) : Int) := by rw [wrap_in (by omega) (by omega)]; omega
      have hw2 : IntKind.i64.wrap ((n : Int).tdiv 2) = ((n / 2 : Nat) : Int) := by rw [t2]; exact wrap_in (by omega) (by omega)
      have hw3 : IntKind.i64.wrap ((n / 2 : Nat) : Int) = ((n / 2 : Nat) : Int) := wrap_in (by omega) (by omega)
      have hw4 : IntKind.i64.wrap ((n % 2 : Nat) : Int) = ((n % 2 : Nat) : Int) := wrap_in (by omega) (by omega)
      have hlt : n / 2 < n := by omega
      have hlo : n % 2 ≤ 1 := by omega
      have HS := hideP (And.intro hlt (And.intro hlo (And.intro hst (And.intro hle (And.intro hq (And.intro hn (And.intro ha (And.intro he h0))))))))
      have h0i : (0 : Int) < (n : Int) := by omega
      generalize n % 2 = lo at *
      generalize n / 2 = hi at *
      clear hst hle hq hn ha he hlt hlo hs
      (repeat (first | (with_reducible apply ops_cons; (focus ((conv => lhs; simp [ev1, wantG, spineK, spine, float, xnew, xval, xeff, val_tmA_cons, val_tmA_nil, val_val, putT_some, putT_none, addFl, cellsOf, pickC, alive, slLen, slFt, binI, maxA, maxK, minA, minK, aeqK, aeqS, AV.cells, boatE, spanE, lookE, fillA, setAt, bitsI, nat_nn, AV.plain, apart, Nat.testBit_eq_decide_div_mod_eq, *]) <;> exact rfl)); simp only [addFl]) | ((first | with_reducible refine does_seq ?_ | with_reducible refine does_ops ?_ | with_reducible refine does_draw ?_ | with_reducible refine does_skip ?_ | with_reducible refine does_block ?_ | with_reducible refine does_ret ?_ | with_reducible refine does_exit ?_ | with_reducible refine ops_nil ?_ | (with_reducible apply does_true; (focus (simp [val_tmA_cons, *]; done))) | (with_reducible apply does_false; (focus (simp [val_tmA_cons, *]; done)))); try simp only [Then, Ops, OutB])))
      obtain ⟨g1, g2, g3, g4, g5, g6, g7, g8, g9⟩ := HS.out
      refine ⟨q - 1, by omega, hi, acc + lo, by omega, by omega, by omega, by omega, ?_⟩
      simp only [gcC_calm hC]
      exact st_eq (by simp [keepT_tmA, lk_cons]) rfl rfl rfl
    · obtain rfl : n = 0 := by omega
      have : Srt.popc 0 = 0 := rfl
      obtain rfl : acc = Srt.popc s := by omega
      clear hq hn ha he this h0 hs
      (repeat (first | (with_reducible apply ops_cons; (focus ((conv => lhs; simp [ev1, wantG, spineK, spine, float, xnew, xval, xeff, val_tmA_cons, val_tmA_nil, val_val, putT_some, putT_none, addFl, cellsOf, pickC, alive, slLen, slFt, binI, maxA, maxK, minA, minK, aeqK, aeqS, AV.cells, boatE, spanE, lookE, fillA, setAt, bitsI, nat_nn, AV.plain, apart, Nat.testBit_eq_decide_div_mod_eq, *]) <;> exact rfl)); simp only [addFl]) | ((first | with_reducible refine does_seq ?_ | with_reducible refine does_ops ?_ | with_reducible refine does_draw ?_ | with_reducible refine does_skip ?_ | with_reducible refine does_block ?_ | with_reducible refine does_ret ?_ | with_reducible refine does_exit ?_ | with_reducible refine ops_nil ?_ | (with_reducible apply does_true; (focus (simp [val_tmA_cons, *]; done))) | (with_reducible apply does_false; (focus (simp [val_tmA_cons, *]; done)))); try simp only [Then, Ops, OutB, reduceIte])))
      exact ⟨rfl, rfl, rfl, by simp only [tmA_getD_cons]; simp⟩
end Ev
end Go.Proofs.YtlkhjnpflohfeaaDoor

/- CutClash answers true. -/
namespace Go.Proofs.YtlkhjnpflohfeaaDoor
open Go Go.Proofs Go.RowKit
open Ev
theorem Ev.gives_call {C : Cfg} {n f : Nat} {fn : AFunc} {first captured args : List AV} {H : List AB} {t : Nat} {v : AV} (hc : C.calm = true) (hx : C.ext f = none) (hxh : C.exth f = none) (hf : C.fns f = some fn) (hw : C.whole f = true) (hres : fn.res = [.tmp t]) (hv : refs v = []) (hlen : (first ++ args ++ captured).length ≤ fn.ntmps)
    (h : Does (ev C (Ev.call C n) H.length none fn.body { tm := tmA fn.ntmps (zipI 0 (first ++ args ++ captured) []), df := [], hp := H, tc := [] }) (Gives t v)) : Ev.call C (n + 1) (.fn (.func f) first captured) args H = some (.ret v, H, []) := by
  have := call_fn (n := n) (first := first) (captured := captured) (args := args) (H := H) (R := fun x H' tc => x = .ret v ∧ H' = H ∧ tc = []) hc hx hxh hf hw hlen (by
    refine h.mono fun e st ⟨h1, h2, h3, h4⟩ => ?_
    subst h1
    refine ⟨.ret v, st, ?_, ?_⟩
    · have e1 : runDefs C H.length st.df none st = some (none, st) := by rw [h2]; rfl
      show (match runDefs C H.length st.df none st with
        | some (none, st) => (resL st fn.res).map fun vs => (CRes.ret (resV vs), st)
        | _ => none) = _
      rw [e1, hres]
      show (resL st [.tmp t]).map (fun vs => (CRes.ret (resV vs), st)) = _
      simp only [resL, resOf, h4]
      rfl
    · unfold Left
      have hb : bareQ (CRes.ret v).val st.tc = true := by rw [h3]; show ([].isEmpty && (refs v).isEmpty) = true; rw [hv]; rfl
      rw [if_pos hb]
      exact ⟨rfl, rfl, rfl⟩)
  obtain ⟨x, H', tc, h1, rfl, rfl, rfl⟩ := this
  exact h1
theorem leak_picked {c : CutD} (V : Cut.Valid c) (s : Nat) : (leakR (Cut.picked c s)).2 = if Cut.can c s then 0 else 10 := by
  have hv := Cut.of_valid (Cut.valid_picked V s)
  have hc := Cut.can_picked V s
  unfold leakR
  cases h : Cut.can c s with
  | true =>
    rw [h] at hc
    rw [toldErr_ok hv hc]; rfl
  | false =>
    rw [h] at hc
    rw [toldErr_clash hv hc]; rfl
theorem clashes_of {c : CutD} (hf : fineD c = true) : Ev.Clashes specApi c (Cut.can c) Srt.popc := by
  have hv := fine_valid hf
  have V := Cut.valid_of hv
  refine ⟨V.k5, ?_⟩
  cases hc : Cut.can c (Cut.every c) with
  | true =>
    refine .inl ⟨?_, ?_, ?_⟩
    · show (clashR c).2 = 4
      unfold clashR; rw [if_neg (by simp [hv]), if_pos hc]
    · show (clashR c).1 = 0
      unfold clashR; rw [if_neg (by simp [hv]), if_pos hc]
    · show (leakR c).2 = 0
      unfold leakR; rw [toldErr_ok hv hc]; rfl
  | false =>
    obtain ⟨p1, p2, p3, p4, p5⟩ := clash_plain V hc
    refine .inr ⟨?_, ?_, clashSet c, ?_, p1, p2, p3, fun i hi hb => (p4 i hi hb).2, p5⟩
    · show (clashR c).2 = 0
      unfold clashR; rw [if_neg (by simp [hv]), if_neg (by simp [hc])]
    · show (leakR c).2 ≠ 0
      unfold leakR; rw [toldErr_clash hv hc]; simp
    · show (clashR c).1 = _
      unfold clashR; rw [if_neg (by simp [hv]), if_neg (by simp [hc])]
set_option maxRecDepth 100000 in
theorem clash_found (c : CutD) (w1 : Int) (u1 : 0 ≤ w1 ∧ w1 ≤ 255) : ∃ H' tc, Ev.call cfgC 3 (.fn (.func 9) [] []) [cutA c, .int .u8 w1] [] = some (.ret (.bool true), H', tc) := by
  refine yes_call (t := 4) (n := 2) (fn := af9) rfl rfl rfl (by kernel_rfl) rfl rfl (show (2 : Nat) ≤ 121 by omega) ?_
  cases hf : fineD c with
  | false =>
    obtain ⟨⟨a, b⟩, ⟨k, l⟩, r, m, bs, ls⟩ := c
    exact clash_not cfgC _ specApi (apiC 1) a b k l m r bs ls w1 hf
  | true =>
    have V := Cut.valid_of (fine_valid hf)
    have hl := clashes_of hf
    have hk := leak_picked V
    generalize hcan : Cut.can c = can at *
    obtain ⟨⟨a, b⟩, ⟨k, l⟩, r, m, bs, ls⟩ := c
    refine clash_main cfgC rfl _ specApi (apiC 1) a b k l m r bs ls w1 u1 hf can Srt.popc hl (fun _ _ => []) (fun H s hH => ?_) (fun H s hs => ?_)
    · rw [List.append_nil]
      match H, hH with
      | c0 :: T, hH =>
        simp only [List.getElem?_cons_zero, Option.some.injEq] at hH
        subst hH
        exact gives_call (fn := af38) (t := 3) rfl rfl rfl (by kernel_rfl) rfl rfl rfl (show (2 : Nat) ≤ 38 by omega) (clash_fun cfgC rfl _ specApi (apiC 0) a b k l m r bs ls V.k5 s T (can s) (hk s))
    · exact gives_call (fn := af39) (t := 2) rfl rfl rfl (by kernel_rfl) rfl rfl rfl (show (1 : Nat) ≤ 13 by omega) (size_fun cfgC rfl _ s (by omega) H)
theorem lawCutClash (c : CutD) (ra ba la : Option Addr) (rc bc lc : Nat) {W : World} (hin : CutIn W c ra ba la) (h1 : c.rain.length ≤ rc) (h2 : c.boats.length ≤ bc) (h3 : c.looks.length ≤ lc) (x1 : Int) (wf1 : (Lit.int .u8 x1).wf = true) :
    Calls Tryd.prog 9 #[cutVal c ra ba la rc bc lc, .int .u8 x1] W fun e W' => e = .returned (.bool true) ∧ Below W.heap.size W W' := by
  obtain ⟨H', tc, h⟩ := clash_found c x1 (bounds_u8 wf1)
  exact callsIn_wide.1 (top_args tblC h W (globs_of_dry hin.dry) (VL.cons (cut_vr hin h1 h2 h3) (VL.cons .int VL.nil)))
end Go.Proofs.YtlkhjnpflohfeaaDoor

/- An argument that is a cut: from its reading to its cells. -/
namespace Go.Proofs.YtlkhjnpflohfeaaDoor
open Go Go.Proofs Go.RowKit Go.ChangeShapes Go.WideShapes Go.Deep
section
variable {H : Type} {enc : TypeId × Value → H} {w : World} {base : Nat} {spare : Nat → Bool} {held : Bool} {fuel : Nat} {cs : List Value} {x : DataW H × List MemPlace}

theorem list2 {cs : List Value} (h : cs.length = 2) : ∃ a b, cs = [a, b] := by
  match cs, h with | [a, b], _ => exact ⟨a, b, rfl⟩
theorem list3 {cs : List Value} (h : cs.length = 3) : ∃ a b c, cs = [a, b, c] := by
  match cs, h with | [a, b, c], _ => exact ⟨a, b, c, rfl⟩
theorem list4 {cs : List Value} (h : cs.length = 4) : ∃ a b c d, cs = [a, b, c, d] := by
  match cs, h with | [a, b, c, d], _ => exact ⟨a, b, c, d, rfl⟩
theorem list8 {cs : List Value} (h : cs.length = 8) : ∃ a b c d e f g i, cs = [a, b, c, d, e, f, g, i] := by
  match cs, h with | [a, b, c, d, e, f, g, i], _ => exact ⟨a, b, c, d, e, f, g, i, rfl⟩
theorem cells_int : Tryd.prog.cellsOf 3 = 1 := by kernel_rfl
theorem cells_span : Tryd.prog.cellsOf 23 = 2 := by kernel_rfl
theorem cells_boat : Tryd.prog.cellsOf 51 = 4 := by kernel_rfl
theorem cells_look : Tryd.prog.cellsOf 55 = 3 := by kernel_rfl

theorem trod_i (h : ∃ y, DataW.trod enc Tryd.prog w base spare held fuel 3 cs = some y) : ∃ n, cs = [.int .i64 n] ∧ (Lit.int .i64 n).wf = true := by
  obtain ⟨y, h⟩ := h
  obtain ⟨n, h1, _, h2⟩ := DataW.trod_int Tryd.underlying3 h
  exact ⟨n, h1, h2⟩
theorem trod_span (h : ∃ y, DataW.trod enc Tryd.prog w base spare held fuel 23 cs = some y) : ∃ a b, cs = [.int .i64 a, .int .i64 b] := by
  obtain ⟨y, h⟩ := h
  obtain ⟨xs, n, rfl, _, hl, hx, hf⟩ := DataW.trod_struct Tryd.underlying23 h
  rw [cells_span] at hl
  have hx : xs.length = 2 := hx
  obtain ⟨c0, c1, rfl⟩ := list2 hl
  clear hl
  obtain ⟨a, ha, _⟩ := trod_i ⟨_, (hf 0 _ rfl).trans (List.getElem?_eq_getElem (by omega))⟩
  obtain ⟨b, hb, _⟩ := trod_i ⟨_, (hf 1 _ rfl).trans (List.getElem?_eq_getElem (by omega))⟩
  simp [cells_int] at ha hb
  exact ⟨a, b, by rw [ha, hb]⟩
theorem trod_boat (h : ∃ y, DataW.trod enc Tryd.prog w base spare held fuel 51 cs = some y) : ∃ a b p r, cs = [.int .i64 a, .int .i64 b, .int .i64 p, .int .i64 r] := by
  obtain ⟨y, h⟩ := h
  obtain ⟨xs, n, rfl, _, hl, hx, hf⟩ := DataW.trod_struct Tryd.underlying51 h
  rw [cells_boat] at hl
  have hx : xs.length = 3 := hx
  obtain ⟨c0, c1, c2, c3, rfl⟩ := list4 hl
  clear hl
  obtain ⟨a, b, hab⟩ := trod_span ⟨_, (hf 0 _ rfl).trans (List.getElem?_eq_getElem (by omega))⟩
  obtain ⟨p, hp, _⟩ := trod_i ⟨_, (hf 1 _ rfl).trans (List.getElem?_eq_getElem (by omega))⟩
  obtain ⟨r, hr, _⟩ := trod_i ⟨_, (hf 2 _ rfl).trans (List.getElem?_eq_getElem (by omega))⟩
  simp [cells_int, cells_span] at hab hp hr
  exact ⟨a, b, p, r, by rw [hab.1, hab.2, hp, hr]⟩
theorem trod_look (h : ∃ y, DataW.trod enc Tryd.prog w base spare held fuel 55 cs = some y) : ∃ d a b, cs = [.int .i64 d, .int .i64 a, .int .i64 b] := by
  obtain ⟨y, h⟩ := h
  obtain ⟨xs, n, rfl, _, hl, hx, hf⟩ := DataW.trod_struct Tryd.underlying55 h
  rw [cells_look] at hl
  have hx : xs.length = 2 := hx
  obtain ⟨c0, c1, c2, rfl⟩ := list3 hl
  clear hl
  obtain ⟨d, hd, _⟩ := trod_i ⟨_, (hf 0 _ rfl).trans (List.getElem?_eq_getElem (by omega))⟩
  obtain ⟨a, b, hab⟩ := trod_span ⟨_, (hf 1 _ rfl).trans (List.getElem?_eq_getElem (by omega))⟩
  simp [cells_int, cells_span] at hab hd
  exact ⟨d, a, b, by rw [hab.1, hab.2, hd]⟩

theorem block_lt {W : World} {a : Addr} {v : Value} (h : W.cell? a = some v) : a.block < W.heap.size := by
  apply Classical.byContradiction
  intro hn
  have : W.heap[a.block]? = none := by simp; omega
  simp [World.cell?, this] at h

/-- A slice of elements of k cells each, as a list of what they are. -/
theorem row_of {α : Type} {t e : TypeId} {k : Nat} (d : α) (g : α → List Value) (hk : 0 < k) (hg : ∀ y, (g y).length = k) (ht : Tryd.prog.underlying t = some (.slice e)) (hc : Tryd.prog.cellsOf e = k)
    (he : ∀ (fuel : Nat) (cs : List Value), (∃ y, DataW.trod enc Tryd.prog w base spare held fuel e cs = some y) → ∃ y, cs = g y)
    (h : ∃ y, DataW.trod enc Tryd.prog w base spare held fuel t cs = some y) :
    ∃ (ra : Option Addr) (l : List α) (rc : Nat), cs = [.slice ra l.length rc] ∧ l.length ≤ rc ∧ rc ≤ maxLen ∧ ElemsR w ra l.length k (fun i j => (g (l.getD i d)).getD j undef) := by
  obtain ⟨y, h⟩ := h
  rcases open_slice ht h with ⟨rfl, _⟩ | ⟨a, len, cap, m, n, D, Pl, rfl, hb, hl, hm, hmm, hx, hi⟩
  · exact ⟨none, [], 0, rfl, Nat.le_refl _, Nat.zero_le _, .inl rfl⟩
  · have hml : len ≤ m := by rw [hmm]; split <;> omega
    have : ∀ i, ∃ y : α, i < len → ∀ j, j < k → w.cell? (a.add (i * k + j)) = some ((g y).getD j undef) := by
      intro i
      by_cases hlt : i < len
      · obtain ⟨cs', h1, h2⟩ := hi i (by omega)
        obtain ⟨y, rfl⟩ := he n cs' ⟨_, h2⟩
        rw [hc] at h1
        obtain ⟨_, _, h3⟩ := World.cells?_some h1
        refine ⟨y, fun _ j hj => ?_⟩
        rw [← Go.Deep.add_add, h3 j hj, List.getElem?_eq_getElem (by rw [hg]; exact hj)]
        simp [hg, hj]
      · exact ⟨d, fun h => absurd h hlt⟩
    obtain ⟨f, hf⟩ := Classical.skolem.1 this
    refine ⟨some a, (List.range len).map f, cap, by simp, by simpa using hl, hm, ?_⟩
    by_cases h0 : len = 0
    · exact .inl (by simp [h0])
    · have h00 := hf 0 (by omega) 0 hk
      have hs := World.cell?_spot h00
      have hb := block_lt h00
      obtain ⟨b, off, sp⟩ := a
      obtain rfl : sp = none := by simpa [Addr.add] using hs
      have hadd : ∀ u, Addr.add ⟨b, off, none⟩ u = ⟨b, off + u, none⟩ := fun u => by simp [Addr.add]
      rw [hadd] at hb
      refine .inr ⟨b, off, rfl, hb, fun i j hi hj => ?_⟩
      simp only [List.length_map, List.length_range] at hi
      have := hf i hi j hj
      rw [hadd, ← Nat.add_assoc] at this
      rw [this]
      simp [hi]

def spanC (s : Int × Int) : List Value := [.int .i64 s.1, .int .i64 s.2]
def boatC (b : Boat) : List Value := [.int .i64 b.draws.1, .int .i64 b.draws.2, .int .i64 b.per, .int .i64 b.room]
def lookC (l : Look) : List Value := [.int .i64 l.day, .int .i64 l.depth.1, .int .i64 l.depth.2]
theorem elems_to {W : World} {ra : Option Addr} {n k : Nat} {f g : Nat → Nat → Value} (h : ElemsR W ra n k f) (he : ∀ i j, i < n → j < k → f i j = g i j) : ElemsR W ra n k g := by
  rcases h with h | ⟨b, off, h1, h2, h3⟩
  · exact .inl h
  · exact .inr ⟨b, off, h1, h2, fun i j hi hj => (h3 i j hi hj).trans (by rw [he i j hi hj])⟩
theorem trod_rain (h : ∃ y, DataW.trod enc Tryd.prog w base spare held fuel 24 cs = some y) : ∃ (ra : Option Addr) (l : List (Int × Int)) (rc : Nat), cs = [.slice ra l.length rc] ∧ l.length ≤ rc ∧ rc ≤ maxLen ∧ ElemsR w ra l.length 2 (spanCell l) := by
  obtain ⟨ra, l, rc, h1, h2, h3, h4⟩ := row_of (k := 2) (0, 0) spanC (by omega) (fun _ => rfl) Tryd.underlying24 cells_span (fun _ _ h => by obtain ⟨a, b, h⟩ := trod_span h; exact ⟨(a, b), h⟩) h
  refine ⟨ra, l, rc, h1, h2, h3, elems_to h4 fun i j _ hj => ?_⟩
  have : j = 0 ∨ j = 1 := by omega
  rcases this with rfl | rfl <;> rfl
theorem trod_boats (h : ∃ y, DataW.trod enc Tryd.prog w base spare held fuel 25 cs = some y) : ∃ (ra : Option Addr) (l : List Boat) (rc : Nat), cs = [.slice ra l.length rc] ∧ l.length ≤ rc ∧ rc ≤ maxLen ∧ ElemsR w ra l.length 4 (boatCell l) := by
  obtain ⟨ra, l, rc, h1, h2, h3, h4⟩ := row_of (k := 4) Cut.nobody boatC (by omega) (fun _ => rfl) Tryd.underlying25 cells_boat (fun _ _ h => by obtain ⟨a, b, p, r, h⟩ := trod_boat h; exact ⟨⟨(a, b), p, r⟩, h⟩) h
  refine ⟨ra, l, rc, h1, h2, h3, elems_to h4 fun i j _ hj => ?_⟩
  have : j = 0 ∨ j = 1 ∨ j = 2 ∨ j = 3 := by omega
  rcases this with rfl | rfl | rfl | rfl <;> rfl
theorem trod_looks (h : ∃ y, DataW.trod enc Tryd.prog w base spare held fuel 26 cs = some y) : ∃ (ra : Option Addr) (l : List Look) (rc : Nat), cs = [.slice ra l.length rc] ∧ l.length ≤ rc ∧ rc ≤ maxLen ∧ ElemsR w ra l.length 3 (lookCell l) := by
  obtain ⟨ra, l, rc, h1, h2, h3, h4⟩ := row_of (k := 3) Cut.noLook lookC (by omega) (fun _ => rfl) Tryd.underlying26 cells_look (fun _ _ h => by obtain ⟨d, a, b, h⟩ := trod_look h; exact ⟨⟨d, (a, b)⟩, h⟩) h
  refine ⟨ra, l, rc, h1, h2, h3, elems_to h4 fun i j _ hj => ?_⟩
  have : j = 0 ∨ j = 1 ∨ j = 2 := by omega
  rcases this with rfl | rfl | rfl <;> rfl

theorem cells_cut : Tryd.prog.cellsOf 28 = 8 := by kernel_rfl
theorem cells_rain : Tryd.prog.cellsOf 24 = 1 := by kernel_rfl
theorem cells_boats : Tryd.prog.cellsOf 25 = 1 := by kernel_rfl
theorem cells_looks : Tryd.prog.cellsOf 26 = 1 := by kernel_rfl
theorem trod_cut (h : ∃ y, DataW.trod enc Tryd.prog w base spare held fuel 28 cs = some y) : ∃ (c : CutD) (ra ba la : Option Addr) (rc bc lc : Nat), cs = cutCells c ra ba la rc bc lc ∧ (c.rain.length ≤ rc ∧ c.boats.length ≤ bc ∧ c.looks.length ≤ lc) ∧
    ElemsR w ra c.rain.length 2 (spanCell c.rain) ∧ ElemsR w ba c.boats.length 4 (boatCell c.boats) ∧ ElemsR w la c.looks.length 3 (lookCell c.looks) := by
  obtain ⟨y, h⟩ := h
  obtain ⟨xs, n, rfl, _, hl, hx, hf⟩ := DataW.trod_struct Tryd.underlying28 h
  rw [cells_cut] at hl
  have hx : xs.length = 6 := hx
  obtain ⟨c0, c1, c2, c3, c4, c5, c6, c7, rfl⟩ := list8 hl
  clear hl
  obtain ⟨d1, d2, hd⟩ := trod_span ⟨_, (hf 0 _ rfl).trans (List.getElem?_eq_getElem (by omega))⟩
  obtain ⟨e1, e2, he⟩ := trod_span ⟨_, (hf 1 _ rfl).trans (List.getElem?_eq_getElem (by omega))⟩
  obtain ⟨ra, rain, rc, hr, kr, _, hra⟩ := trod_rain ⟨_, (hf 2 _ rfl).trans (List.getElem?_eq_getElem (by omega))⟩
  obtain ⟨m, hm, _⟩ := trod_i ⟨_, (hf 3 _ rfl).trans (List.getElem?_eq_getElem (by omega))⟩
  obtain ⟨ba, boats, bc, hb, kb, _, hba⟩ := trod_boats ⟨_, (hf 4 _ rfl).trans (List.getElem?_eq_getElem (by omega))⟩
  obtain ⟨la, looks, lc, hlk, kl, _, hla⟩ := trod_looks ⟨_, (hf 5 _ rfl).trans (List.getElem?_eq_getElem (by omega))⟩
  simp [cells_int, cells_span, cells_rain, cells_boats, cells_looks] at hd he hr hm hb hlk
  exact ⟨⟨(d1, d2), (e1, e2), rain, m, boats, looks⟩, ra, ba, la, rc, bc, lc, by rw [hd.1, hd.2, he.1, he.2, hr, hm, hb, hlk]; rfl, ⟨kr, kb, kl⟩, hra, hba, hla⟩
end
end Go.Proofs.YtlkhjnpflohfeaaDoor

/- The laid variable. -/
namespace Go.Proofs.YtlkhjnpflohfeaaDoor
open Go Go.Proofs Go.RowKit Go.ChangeShapes Go.WideShapes Go.Deep
theorem dry_named : Tryd.prog.globalNamed "bogworks/cut.dry" = some 0 := by kernel_rfl
theorem dry_type : (Tryd.prog.globals[0]?).map (·.type) = some 83 := by kernel_rfl
theorem cells_water : Tryd.prog.cellsOf 83 = 2 := by kernel_rfl
#check @Tryd.underlying83
theorem dry_of_laid {W : World} (h : laidMet Tryd.prog [("bogworks/cut.dry", Rows.laid_bogworks_cut_dry)] W) : Dry W := by
  obtain ⟨ps, ⟨g, t, cs, fuel, p, q, e1, e2, e3, e4, _, _⟩, _, _⟩ := h
  obtain rfl := Option.some.inj (dry_named.symm.trans e1)
  obtain rfl := Option.some.inj (dry_type.symm.trans e2)
  obtain ⟨xs, n, rfl, hx, hl, hxs, hf⟩ := DataW.trod_struct Tryd.underlying83 e4
  rw [cells_water] at hl
  have hxs : xs.length = 1 := hxs
  obtain ⟨c0, c1, hcs⟩ := list2 hl
  have h0 := (hf 0 _ rfl).trans (List.getElem?_eq_getElem (by omega))
  obtain ⟨ys, m, rfl, hy, _, hys, hg⟩ := DataW.trod_struct Tryd.underlying23 h0
  have hys : ys.length = 2 := hys
  have i0 := (hg 0 _ rfl).trans (List.getElem?_eq_getElem (by omega))
  have i1 := (hg 1 _ rfl).trans (List.getElem?_eq_getElem (by omega))
  obtain ⟨a, ha, hya, _⟩ := DataW.trod_int Tryd.underlying3 i0
  obtain ⟨b, hb, hyb, _⟩ := DataW.trod_int Tryd.underlying3 i1
  rw [hcs] at ha hb
  simp [cells_int, cells_span] at ha hb
  have hd : Rows.laid_bogworks_cut_dry (H := Unit) = .agg [.agg [.lit (.int .i64 a), .lit (.int .i64 b)]] := by
    have h1 := congrArg Prod.fst hx
    have h2 := congrArg Prod.fst hy
    simp only at h1 h2
    rw [h1]
    obtain ⟨y0, rfl⟩ : ∃ y0, xs = [y0] := by
      match xs, hxs with | [y0], _ => exact ⟨y0, rfl⟩
    obtain ⟨z0, z1, rfl⟩ : ∃ z0 z1, ys = [z0, z1] := by
      match ys, hys with | [z0, z1], _ => exact ⟨z0, z1, rfl⟩
    simp at h2 hya hyb ⊢
    rw [h2, hya, hyb]
  unfold Rows.laid_bogworks_cut_dry at hd
  simp at hd
  obtain ⟨rfl, rfl⟩ := hd
  have g0 := World.var?_cell dry_named e3 0
  have g1 := World.var?_cell dry_named e3 1
  rw [← Array.getElem?_toList, hcs] at g0 g1
  simp at g0 g1
  rw [ha] at g0
  rw [hb] at g1
  exact ⟨block_lt g0, g0, g1⟩
end Go.Proofs.YtlkhjnpflohfeaaDoor

/- What the rows of the laws have in common. -/
namespace Go.Proofs.YtlkhjnpflohfeaaDoor
open Go Go.Proofs Go.ChangeShapes Go.WideShapes Go.RowKit Go.Deep
theorem own' : ownKnob Tryd.prog.godebug = none := by kernel_rfl
theorem laidOut' : laidOutB Tryd.prog = true := by kernel_rfl
noncomputable def laidWorld (os : Os) : World :=
  { World.holding Tryd.prog os ⟨#[], #[], []⟩ with heap := (World.holding Tryd.prog os ⟨#[], #[], []⟩).heap.modify 0 fun
      | .cells _ t frozen => .cells #[.int .i64 1048576, .int .i64 (-1048576)] t frozen
      | o => o }
theorem laid_met (os : Os) (args : Array Value) : laidMetH Tryd.prog [("bogworks/cut.dry", Rows.laid_bogworks_cut_dry)] ((laidWorld os).forCall (fun _ _ => 0) ⟨#[], args, []⟩).memory :=
  laidMetH_of_parts (laidMet_of_run' 8 (by kernel_rfl) (by kernel_rfl)) (by kernel_rfl)
def noCut : Value := .agg #[.int .i64 0, .int .i64 0, .int .i64 0, .int .i64 0, .slice none 0 0, .int .i64 0, .slice none 0 0, .slice none 0 0]
set_option maxRecDepth 100000 in
theorem open_cut {H : Type} {enc : TypeId × Value → H} {W : World} {v : Value} {d : DataW H} {p : List MemPlace} {base : Nat} (hd : Dry W)
    (hv : Value.okWide Tryd.prog W .any base 28 v) (h : DataW.Trod enc Tryd.prog W 0 (fun _ => true) true 28 v d p) :
    ∃ (c : CutD) (ra ba la : Option Addr) (rc bc lc : Nat), v = cutVal c ra ba la rc bc lc ∧ CutIn W c ra ba la ∧ c.rain.length ≤ rc ∧ c.boats.length ≤ bc ∧ c.looks.length ≤ lc := by
  obtain ⟨cs, rfl, _⟩ := okWide_struct Tryd.underlying28 hv
  obtain ⟨fuel, hf⟩ := h
  obtain ⟨c, ra, ba, la, rc, bc, lc, h1, ⟨k1, k2, k3⟩, h2, h3, h4⟩ := trod_cut ⟨_, hf⟩
  refine ⟨c, ra, ba, la, rc, bc, lc, ?_, ⟨h2, h3, h4, hd⟩, k1, k2, k3⟩
  have h1' : cs.toList = cutCells c ra ba la rc bc lc := h1
  unfold cutVal
  rw [show cs = (cutCells c ra ba la rc bc lc).toArray by rw [← h1']]
  rfl

end Go.Proofs.YtlkhjnpflohfeaaDoor

/- The Go function CutClash returns true, for every argument, in every world in which cut.dry holds what the program's text lays; nothing that was there is turned. -/
namespace Go.Proofs.YtlkhjnpflohfeaaDoor
open Go Go.Proofs Go.ChangeShapes Go.WideShapes Go.RowKit Go.Deep
set_option maxRecDepth 100000 in
theorem cutClash_lifted (os : Os) (started : os.Started) (H : Type) (enc : TypeId × Value → H) :
    ReturnsInHanded {} Tryd.checked os 9 .any (fun w args => (Rows.cutClashSpec.pre enc Tryd.prog Tryd.f9 [] false w args ∧ laidMetH Tryd.prog [("bogworks/cut.dry", Rows.laid_bogworks_cut_dry)] w) ∧ sizedMet enc Tryd.prog Tryd.f9 (OpenSpec.ofChange Rows.cutClashSpec) false w args)
      (Rows.cutClashSpec.post enc Tryd.prog Tryd.f9 false true false false) := by
  refine returnsInHanded_of_change_and (C := Tryd.checked) (X := fun w _ => laidMetH Tryd.prog [("bogworks/cut.dry", Rows.laid_bogworks_cut_dry)] w) (fun _ _ _ hh h => h.of_heap hh) own' started (by kernel_rfl) Tryd.func9
    (ChangeSpec.witness_at (enc := enc) (C := Tryd.checked) (os := os) (X := fun w _ => laidMetH Tryd.prog [("bogworks/cut.dry", Rows.laid_bogworks_cut_dry)] w) false (laidWorld os) #[noCut, .int .u8 0] 8 rfl (by kernel_rfl) (by kernel_rfl) (by kernel_rfl) (by kernel_rfl) (by kernel_rfl) (laid_met os _)) ?_
  intro W base args ds gs before hval0 hW _ _ hL _
  have hval : ∀ (j : Nat) t v, Tryd.f9.params[j]? = some t → args[j]? = some v → Value.okWide Tryd.prog W .any base t v := hval0
  have hW' := hW
  obtain ⟨p, q, hA0, hV0, rfl, hfz, hnd⟩ := hW
  have hA : DataW.TrodAll enc Tryd.prog W 0 (fun _ => true) true Tryd.f9.params.toList args.toList ds p := hA0
  have hV : DataW.TrodVars enc Tryd.prog W (fun _ => true) [] gs q := hV0
  rw [Tryd.params9] at hA hval
  clear hA0 hval0 hV0
  obtain ⟨v0, vs0, d0, ds0, p0, q0, hargs0, rfl, rfl, h0, hA0⟩ := trodAll_cons hA
  obtain ⟨v1, vs1, d1, ds1, p1, q1, rfl, rfl, rfl, h1, hA1⟩ := trodAll_cons hA0
  obtain ⟨rfl, rfl, rfl⟩ := trodAll_nil hA1
  obtain rfl : args = #[v0, v1] := Array.ext' hargs0
  have hdry : Dry W := dry_of_laid hL
  obtain ⟨c, ra, ba, la, rc, bc, lc, rfl, hin, hc1, hc2, hc3⟩ := open_cut hdry (hval 0 28 v0 rfl rfl) h0
  obtain ⟨x1, rfl, rfl, rfl, wf1⟩ := open_int Tryd.underlying5 (hval 1 5 v1 rfl rfl) h1
  obtain ⟨rfl, rfl⟩ : gs = [] ∧ q = [] := by
    cases gs with
    | nil => exact ⟨rfl, hV⟩
    | cons g r => exact absurd hV (by intro h; cases h)
  simp only [List.append_nil] at hW'
  have hlt : ∀ x ∈ (p0 ++ ([] ++ [])), x.block < W.heap.size := fun x hx => by simpa using hW'.lt x (by simpa using hx)
  refine (lawCutClash c ra ba la rc bc lc hin hc1 hc2 hc3 x1 wf1).mono fun e W' ⟨he, bel⟩ => ?_
  subst he
  refine ⟨_, rfl, _, _, _, [], (p0 ++ ([] ++ [])), [], hW', ?_, ?_, rfl, bel.frame _, fun h => by cases h⟩
  · exact trodAll_mk1 (shut_bool Tryd.underlying4 true)
  · exact trodAll_cons_mk (Below.trod laidOut' (by kernel_rfl) (of_decide_eq_true (by kernel_rfl)) h0 bel (fun x hx => hlt x (by simp [hx]))) (trodAll_cons_mk (shut_int Tryd.underlying5 wf1) (trodAll_mk0))

theorem cutClash_row : Rows.CutClashSaid :=
  OpenClaim.holds_of_wide 9 Tryd.f9 rfl rfl rfl rfl rfl rfl rfl ⟨rfl, rfl, rfl, rfl, rfl⟩ rfl rfl rfl rfl rfl (by kernel_rfl) Tryd.func9 (by kernel_rfl)
    (of_decide_eq_true (by kernel_rfl)) (by unfold Func.isWrapper; rw [if_neg (of_decide_eq_false (by kernel_rfl))]; exact ⟨rfl, rfl⟩)
    (fun os started H enc _ => cutClash_lifted os started H enc)

set_option maxRecDepth 100000 in
/-- The statement. -/
theorem cutClash_holds : Rows.CutClashCardSaid :=
  Claim7.holds_tied_plain_at .later [] [.data] true (true, "9723bbfeb16b6261ef9604731379b2640b68d1d36b45d3ac66265463b7b658c0") true
    cutClash_row (fun _ h => by cases h) (by kernel_rfl) (fun _ h => by cases h) cutClash_row_tie rfl ⟨rfl, rfl⟩ (by kernel_rfl) rfl
    (fun f fn hf hfn => by
      obtain rfl : f = 9 := Option.some.inj ((show Tryd.prog.funcNamed "bogworks/bogworkslaw06.CutClash" = some 9 by kernel_rfl).symm.trans hf) |>.symm
      obtain rfl : fn = Tryd.f9 := (Option.some.inj (Tryd.func9.symm.trans hfn)).symm
      exact ⟨by kernel_rfl, fun j t ht => by
        rw [Tryd.params9] at ht
        have h3 : t = 28 ∨ t = 5 := by
          rcases j with _ | _ | j
          · exact .inl (by simpa using ht.symm)
          · exact .inr (by simpa using ht.symm)
          · simp at ht
        rcases h3 with rfl | rfl
        · exact (show Tryd.prog.wantsStandIn 28 = false by kernel_rfl)
        · exact (show Tryd.prog.wantsStandIn 5 = false by kernel_rfl)⟩)
    (by kernel_rfl)
#print axioms cutClash_holds
end Go.Proofs.YtlkhjnpflohfeaaDoor
