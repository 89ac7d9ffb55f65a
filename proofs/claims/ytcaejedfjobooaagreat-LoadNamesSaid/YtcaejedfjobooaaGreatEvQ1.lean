/- The quick evaluator: what its parts come to. -/
import Derived.Test.YtcaejedfjobooaaGreatEvQ
namespace Go.Proofs.YtcaejedfjobooaaGreat
open Go
namespace Ev
namespace Q
section
variable {α : Type}
/-- What lies at a place. -/
def at? : T α → Nat → Option α
  | .e _, _ => none
  | .v x, _ => some x
  | .n k l r, t => if t.testBit k then at? r t else at? l t
inductive WF : Nat → T α → Prop
  | e (k : Nat) : WF k (.e k)
  | v (x : α) : WF 0 (.v x)
  | n {k : Nat} {l r : T α} : WF k l → WF k r → WF (k + 1) (.n k l r)

theorem natRec_if {β : Type} (m : Nat) (a b : β) : (Nat.rec (motive := fun _ => β) a (fun _ _ => b) m) = if m = 0 then a else b := by
  cases m with
  | zero => show a = _; simp
  | succ m => show b = _; simp
theorem and_pow_zero (t k : Nat) : Nat.land t (Nat.pow 2 k) = 0 ↔ ¬ t.testBit k = true := by
  show t &&& 2 ^ k = 0 ↔ _
  constructor
  · intro h hb
    have := congrArg (fun x => x.testBit k) h
    simp [hb] at this
  · intro h
    apply Nat.eq_of_testBit_eq
    intro i
    simp only [Nat.testBit_and, Nat.testBit_two_pow, Nat.zero_testBit]
    by_cases hi : k = i
    · subst hi; simp at h; simp [h]
    · simp [hi]
abbrev bitR {β : Type} (t k : Nat) (a b : β) : β := Nat.rec (motive := fun _ => β) a (fun _ _ => b) (Nat.land t (Nat.pow 2 k))
theorem bit_if {β : Type} (t k : Nat) (a b : β) : bitR t k a b = if t.testBit k then b else a := by
  unfold bitR
  rw [natRec_if]
  by_cases h : t.testBit k = true
  · rw [if_pos h, if_neg (fun e => (and_pow_zero t k).1 e h)]
  · rw [if_neg h, if_pos ((and_pow_zero t k).2 h)]

theorem getP_eq (tr : T α) (t : Nat) (d : α) : getP tr t d = (at? tr t).getD d := by
  induction tr with
  | e k => rfl
  | v x => rfl
  | n k l r ihl ihr =>
    show bitR t k (getP l t d) (getP r t d) = _
    rw [bit_if, ihl, ihr]
    simp only [at?]
    split <;> rfl
theorem getK_eq (tr : T α) (t : Nat) (D : R) (K : α → R) : getK tr t D K = (match at? tr t with | none => D | some x => K x) := by
  induction tr with
  | e k => rfl
  | v x => rfl
  | n k l r ihl ihr =>
    show bitR t k (getK l t D K) (getK r t D K) = _
    rw [bit_if, ihl, ihr]
    simp only [at?]
    split <;> rfl

theorem mod_succ_iff (s t k : Nat) : s % 2 ^ (k + 1) = t % 2 ^ (k + 1) ↔ s.testBit k = t.testBit k ∧ s % 2 ^ k = t % 2 ^ k := by
  have key : ∀ x : Nat, x % 2 ^ (k + 1) = x % 2 ^ k + 2 ^ k * (x.testBit k).toNat := fun x => by
    rw [Nat.pow_succ, Nat.mod_mul, Nat.testBit_eq_decide_div_mod_eq]
    rcases Nat.mod_two_eq_zero_or_one (x / 2 ^ k) with h | h <;> rw [h] <;> simp
  have h1 := key s
  have h2 := key t
  have l1 := Nat.mod_lt s (Nat.two_pow_pos k)
  have l2 := Nat.mod_lt t (Nat.two_pow_pos k)
  rw [h1, h2]
  cases s.testBit k <;> cases t.testBit k <;> simp <;> omega

theorem setE_spec (t : Nat) (v : α) : ∀ k, ∃ tr', (∀ K, setE k t v K = K tr') ∧ WF k tr' ∧ ∀ s, at? tr' s = if s % 2 ^ k = t % 2 ^ k then some v else none
  | 0 => ⟨.v v, fun _ => rfl, .v v, fun s => by simp [at?, Nat.mod_one]⟩
  | k + 1 => by
    obtain ⟨tr, h1, h2, h3⟩ := setE_spec t v k
    have hr : ∀ K, setE (k + 1) t v K = if t.testBit k then K (.n k (.e k) tr) else K (.n k tr (.e k)) := fun K => by
      show bitR t k (setE k t v fun l => K (.n k l (.e k))) (setE k t v fun r => K (.n k (.e k) r)) = _
      rw [bit_if, h1, h1]
    by_cases hb : t.testBit k
    · refine ⟨.n k (.e k) tr, fun K => by rw [hr, if_pos hb], .n (.e k) h2, fun s => ?_⟩
      simp only [at?, h3, mod_succ_iff, hb]
      cases hs : s.testBit k <;> simp
    · refine ⟨.n k tr (.e k), fun K => by rw [hr, if_neg hb], .n h2 (.e k), fun s => ?_⟩
      simp only [at?, h3, mod_succ_iff]
      simp at hb
      rw [hb]
      cases hs : s.testBit k <;> simp

theorem setK_spec {k : Nat} {tr : T α} (h : WF k tr) (t : Nat) (v : α) : ∃ tr', (∀ K, setK tr t v K = K tr') ∧ WF k tr' ∧ ∀ s, at? tr' s = if s % 2 ^ k = t % 2 ^ k then some v else at? tr s := by
  induction h with
  | e k =>
    obtain ⟨tr, h1, h2, h3⟩ := setE_spec t v k
    exact ⟨tr, fun K => h1 K, h2, fun s => by rw [h3]; rfl⟩
  | v x => exact ⟨.v v, fun _ => rfl, .v v, fun s => by simp [at?, Nat.mod_one]⟩
  | @n k l r hl hr ihl ihr =>
    obtain ⟨l', a1, a2, a3⟩ := ihl
    obtain ⟨r', b1, b2, b3⟩ := ihr
    have hr' : ∀ K, setK (.n k l r) t v K = if t.testBit k then K (.n k l r') else K (.n k l' r) := fun K => by
      show bitR t k (setK l t v fun l' => K (.n k l' r)) (setK r t v fun r' => K (.n k l r')) = _
      rw [bit_if, a1, b1]
    by_cases hb : t.testBit k
    · refine ⟨.n k l r', fun K => by rw [hr', if_pos hb], .n hl b2, fun s => ?_⟩
      simp only [at?, b3, mod_succ_iff, hb]
      cases hs : s.testBit k <;> simp
    · refine ⟨.n k l' r, fun K => by rw [hr', if_neg hb], .n a2 hr, fun s => ?_⟩
      simp only [at?, a3, mod_succ_iff]
      simp at hb
      rw [hb]
      cases hs : s.testBit k <;> simp
end

/-! Temporaries. -/
/-- A row of N temporaries. -/
def WT (N : Nat) (tr : T AV) : Prop := ∃ k, WF k tr ∧ N ≤ 2 ^ k
theorem listT_len (N : Nat) (tr : T AV) : (listT N tr).length = N := by simp [listT]
theorem listT_get {N t : Nat} (tr : T AV) (h : t < N) : (listT N tr)[t]? = some ((at? tr t).getD .unk) := by
  unfold listT; rw [List.getElem?_map, List.getElem?_range h]; simp [getP_eq]
theorem listT_getD {N t : Nat} (tr : T AV) (h : t < N) : (listT N tr).getD t .unk = (at? tr t).getD .unk := by
  rw [List.getD_eq_getElem?_getD, listT_get tr h]; rfl
theorem setT_spec {N t : Nat} {tr : T AV} (h : WT N tr) (ht : t < N) (v : AV) : ∃ tr', (∀ K, setK tr t v K = K tr') ∧ WT N tr' ∧ listT N tr' = (listT N tr).set t v := by
  obtain ⟨k, h1, h2⟩ := h
  obtain ⟨tr', a1, a2, a3⟩ := setK_spec h1 t v
  refine ⟨tr', a1, ⟨k, a2, h2⟩, List.ext_getElem? fun s => ?_⟩
  by_cases hs : s < N
  · rw [listT_get tr' hs, a3, Nat.mod_eq_of_lt (by omega), Nat.mod_eq_of_lt (by omega : t < 2 ^ k)]
    by_cases hst : s = t
    · subst hst; rw [if_pos rfl, List.getElem?_set_self (by rw [listT_len]; exact hs)]; rfl
    · rw [if_neg hst, List.getElem?_set_ne (fun e => hst e.symm), listT_get tr hs]
  · rw [List.getElem?_eq_none (by rw [listT_len]; omega), List.getElem?_eq_none (by rw [List.length_set, listT_len]; omega)]
theorem newT_spec (N : Nat) (K : T AV → R) : newT N K = K (.e (Nat.log2 N + 1)) ∧ WT N (.e (Nat.log2 N + 1)) ∧ listT N (.e (Nat.log2 N + 1)) = List.replicate N .unk := by
  refine ⟨rfl, ⟨_, .e _, Nat.le_of_lt Nat.lt_log2_self⟩, List.ext_getElem? fun s => ?_⟩
  by_cases hs : s < N
  · rw [listT_get _ hs, List.getElem?_replicate, if_pos hs]; rfl
  · rw [List.getElem?_eq_none (by rw [listT_len]; omega), List.getElem?_eq_none (by simp; omega)]

/-! Heaps. -/
structure WH (n : Nat) (hp : T AB) : Prop where
  wf : WF cap hp
  le : n ≤ 2 ^ cap
  there : ∀ i, i < n → (at? hp i).isSome = true
theorem listH_len (n : Nat) (hp : T AB) : (listH n hp).length = n := by simp [listH]
theorem listH_get {n : Nat} {hp : T AB} (h : WH n hp) (b : Nat) : (listH n hp)[b]? = if b < n then at? hp b else none := by
  unfold listH
  rw [List.getElem?_map]
  by_cases hb : b < n
  · rw [List.getElem?_range hb, if_pos hb]
    obtain ⟨x, hx⟩ := Option.isSome_iff_exists.1 (h.there b hb)
    simp [getP_eq, hx]
  · rw [List.getElem?_eq_none (by simp; omega), if_neg hb]; rfl
theorem blockK_eq {n : Nat} {hp : T AB} (h : WH n hp) (b : Nat) (K : AB → R) : blockK hp n b K = (match (listH n hp)[b]? with | some x => K x | none => .no) := by
  unfold blockK
  rw [listH_get h]
  by_cases hb : b < n
  · rw [if_pos hb, show Nat.ble (Nat.succ b) n = true from Nat.ble_eq_true_of_le hb]
    simp only [getK_eq]
    cases at? hp b <;> rfl
  · have : Nat.ble (Nat.succ b) n = false := by
      cases hx : Nat.ble (Nat.succ b) n with
      | false => rfl
      | true => exact absurd (Nat.le_of_ble_eq_true hx) (by omega)
    rw [if_neg hb, this]
theorem cellsAt_eq {n : Nat} {hp : T AB} (h : WH n hp) (b : Nat) (K : List AV → R) : cellsAt hp n b K = (match (listH n hp)[b]? with | some (.cells cs) => K cs | _ => .no) := by
  unfold cellsAt
  rw [blockK_eq h]
  cases (listH n hp)[b]? with
  | none => rfl
  | some x => cases x <;> rfl
theorem loopAt_eq {n : Nat} {hp : T AB} (h : WH n hp) (b : Nat) (K : ALoop → R) : loopAt hp n b K = (match (listH n hp)[b]? with | some (.loop cs) => K cs | _ => .no) := by
  unfold loopAt
  rw [blockK_eq h]
  cases (listH n hp)[b]? with
  | none => rfl
  | some x => cases x <;> rfl
theorem aliveAt_eq {n : Nat} {hp : T AB} (h : WH n hp) (b : Nat) (K : R) : aliveAt hp n b K = if alive (listH n hp) b = true then K else .no := by
  unfold aliveAt
  rw [blockK_eq h]
  unfold alive
  cases (listH n hp)[b]? with
  | none => simp
  | some x => cases x <;> simp
theorem setH_spec {n b : Nat} {hp : T AB} (h : WH n hp) (hb : b < n) (x : AB) : ∃ hp', (∀ K, setK hp b x K = K hp') ∧ WH n hp' ∧ listH n hp' = (listH n hp).set b x := by
  obtain ⟨hp', a1, a2, a3⟩ := setK_spec h.wf b x
  have hle := h.le
  have hw : WH n hp' := ⟨a2, h.le, fun i hi => by
    rw [a3]
    split
    · rfl
    · exact h.there i hi⟩
  refine ⟨hp', a1, hw, List.ext_getElem? fun s => ?_⟩
  rw [listH_get hw]
  by_cases hs : s < n
  · rw [if_pos hs, a3, Nat.mod_eq_of_lt (by omega), Nat.mod_eq_of_lt (by omega : b < 2 ^ cap)]
    by_cases hst : s = b
    · subst hst; rw [if_pos rfl, List.getElem?_set_self (by rw [listH_len]; exact hs)]
    · rw [if_neg hst, List.getElem?_set_ne (fun e => hst e.symm), listH_get h, if_pos hs]
  · rw [if_neg hs, List.getElem?_eq_none (by rw [List.length_set, listH_len]; omega)]
theorem pushK_spec {n : Nat} {hp : T AB} (h : WH n hp) (x : AB) (K : T AB → Nat → R) : pushK hp n x K = .no ∨ ∃ hp', pushK hp n x K = K hp' (n + 1) ∧ WH (n + 1) hp' ∧ listH (n + 1) hp' = listH n hp ++ [x] := by
  unfold pushK
  cases hx : Nat.ble n 127 with
  | false => exact .inl rfl
  | true =>
    right
    have hn : n ≤ 127 := Nat.le_of_ble_eq_true hx
    obtain ⟨hp', a1, a2, a3⟩ := setK_spec h.wf n x
    have hc : (2 : Nat) ^ cap = 128 := rfl
    have hw : WH (n + 1) hp' := ⟨a2, by omega, fun i hi => by
      rw [a3]
      split
      · rfl
      · rename_i hne
        refine h.there i ?_
        rcases Nat.lt_or_ge i n with hl | hl
        · exact hl
        · exact absurd (by rw [show i = n by omega]) hne⟩
    refine ⟨hp', by simp only [a1], hw, List.ext_getElem? fun s => ?_⟩
    rw [listH_get hw]
    rcases Nat.lt_trichotomy s n with hs | hs | hs
    · rw [if_pos (by omega), a3, Nat.mod_eq_of_lt (by omega), Nat.mod_eq_of_lt (by omega : n < 2 ^ cap), if_neg (by omega), List.getElem?_append_left (by rw [listH_len]; exact hs), listH_get h, if_pos hs]
    · subst hs
      rw [if_pos (by omega), a3, if_pos rfl, List.getElem?_append_right (by rw [listH_len]; omega), listH_len]; simp
    · rw [if_neg (by omega), List.getElem?_eq_none (by simp [listH_len]; omega)]

/-! The last form. -/
@[simp] theorem natK_eq (n : Nat) (K : Nat → R) : natK n K = K n := by cases n <;> rfl
@[simp] theorem boolK_eq (b : Bool) (K : Bool → R) : boolK b K = K b := by cases b <;> rfl
@[simp] theorem intK_eq (n : Int) (K : Int → R) : intK n K = K n := by cases n <;> simp [intK]
mutual
theorem forceV_eq : ∀ (v : AV) (K : AV → R), forceV v K = K v
  | .unk, _ => rfl
  | .bool b, K => by cases b <;> rfl
  | .int k n, K => intK_eq n fun n => K (.int k n)
  | .nilp, _ => rfl
  | .ptr b off, K => (natK_eq b fun b => natK off fun off => K (.ptr b off)).trans (natK_eq off _)
  | .rp cs, _ => rfl
  | .nils, _ => rfl
  | .sl b off n k, K => (natK_eq b fun b => natK off fun off => natK n fun n => natK k fun k => K (.sl b off n k)).trans ((natK_eq off _).trans ((natK_eq n _).trans (natK_eq k _)))
  | .vs k es, _ => rfl
  | .nilmap, _ => rfl
  | .map b, K => natK_eq b fun b => K (.map b)
  | .nilfn, _ => rfl
  | .fn f a b, K => (forceL2_eq a fun a => _).trans (forceL2_eq b _)
  | .yield b, K => natK_eq b fun b => K (.yield b)
  | .nilif, _ => rfl
  | .iface t v, K => forceV_eq v fun v => K (.iface t v)
  | .agg l, K => forceL2_eq l fun l => K (.agg l)
  | .tup l, K => forceL2_eq l fun l => K (.tup l)
theorem forceL2_eq : ∀ (l : List AV) (K : List AV → R), (AV.rec_1 (motive_1 := fun _ => (AV → R) → R) (motive_2 := fun _ => (List AV → R) → R)
  (fun K => K .unk) (fun b K => boolK b fun b => K (.bool b)) (fun k n K => intK n fun n => K (.int k n)) (fun K => K .nilp)
  (fun b off K => natK b fun b => natK off fun off => K (.ptr b off)) (fun cs _ K => K (.rp cs)) (fun K => K .nils)
  (fun b off n k K => natK b fun b => natK off fun off => natK n fun n => natK k fun k => K (.sl b off n k)) (fun k es _ K => K (.vs k es)) (fun K => K .nilmap)
  (fun b K => natK b fun b => K (.map b)) (fun K => K .nilfn) (fun f _ _ ih1 ih2 K => ih1 fun a => ih2 fun b => K (.fn f a b)) (fun b K => natK b fun b => K (.yield b)) (fun K => K .nilif)
  (fun t _ ih K => ih fun v => K (.iface t v)) (fun _ ih K => ih fun l => K (.agg l)) (fun _ ih K => ih fun l => K (.tup l))
  (fun K => K []) (fun _ _ ihv ihl K => ihv fun v => ihl fun l => K (v :: l)) l) K = K l
  | [], _ => rfl
  | v :: l, K => (forceV_eq v fun v => _).trans (forceL2_eq l _)
end
attribute [simp] forceV_eq
@[simp] theorem forceL_eq : ∀ (l : List AV) (K : List AV → R), forceL l K = K l
  | [], _ => rfl
  | v :: l, K => (forceV_eq v fun v => _).trans (forceL_eq l _)
@[simp] theorem forceNs_eq : ∀ (l : List Nat) (K : List Nat → R), forceNs l K = K l
  | [], _ => rfl
  | v :: l, K => by
    show natK v (fun v => forceNs l fun l => K (v :: l)) = _
    rw [natK_eq, forceNs_eq]
@[simp] theorem forceE_eq : ∀ (l : List (AV × AV)) (K : List (AV × AV) → R), forceE l K = K l
  | [], _ => rfl
  | (a, b) :: l, K => (forceV_eq a fun a => _).trans ((forceV_eq b fun b => _).trans (forceE_eq l _))
@[simp] theorem lstK_eq (s : LSt) (K : LSt → R) : lstK s K = K s := by cases s <;> rfl
@[simp] theorem optK_eq (p : Option AExit) (K : Option AExit → R) : optK p K = K p := by cases p <;> rfl
@[simp] theorem forceLp_eq (r : ALoop) (K : ALoop → R) : forceLp r K = K r := by cases r; simp [forceLp]
@[simp] theorem forceB_eq (b : AB) (K : AB → R) : forceB b K = K b := by cases b <;> simp [forceB]

/-! Lists of cells. -/
theorem cellAt_eq : ∀ (l : List AV) (i : Nat) (K : AV → R), cellAt l i K = (match l[i]? with | some x => K x | none => .no)
  | [], _, _ => rfl
  | x :: l, 0, _ => rfl
  | x :: l, i + 1, K => (cellAt_eq l i K).trans (by simp)
theorem takeK_eq : ∀ (l : List AV) (n : Nat) (K : List AV → R), takeK l n K = if n ≤ l.length then K (l.take n) else .no
  | [], 0, _ => rfl
  | [], n + 1, _ => rfl
  | x :: l, 0, _ => rfl
  | x :: l, n + 1, K => (takeK_eq l n fun l => K (x :: l)).trans (by simp)
theorem partK_eq : ∀ (l : List AV) (i n : Nat) (K : List AV → R), partK l i n K = if i + n ≤ l.length then K ((l.drop i).take n) else .no
  | [], 0, n, K => (takeK_eq [] n K).trans (by simp)
  | [], i + 1, n, K => by
    rw [if_neg (by simp)]; rfl
  | x :: l, 0, n, K => (takeK_eq (x :: l) n K).trans (by simp)
  | x :: l, i + 1, n, K => (partK_eq l i n K).trans (by
    simp only [List.length_cons, List.drop_succ_cons]
    by_cases h : i + n ≤ l.length
    · rw [if_pos h, if_pos (by omega)]
    · rw [if_neg h, if_neg (by omega)])
theorem overK_eq : ∀ (l cs : List AV) (K : List AV → R), overK l cs K = if l.length ≤ cs.length then K (l ++ cs.drop l.length) else .no
  | [], cs, K => by simp [overK]
  | y :: l, [], K => rfl
  | y :: l, c :: cs, K => (overK_eq l cs fun l => K (y :: l)).trans (by simp)
theorem putK_eq : ∀ (cs : List AV) (i : Nat) (l : List AV) (K : List AV → R), putK cs i l K = if i + l.length ≤ cs.length then K (setAt cs i l) else .no
  | [], 0, l, K => (overK_eq l [] K).trans (by simp [setAt])
  | [], i + 1, l, K => by rw [if_neg (by simp)]; rfl
  | x :: cs, 0, l, K => (overK_eq l (x :: cs) K).trans (by simp [setAt])
  | x :: cs, i + 1, l, K => (putK_eq cs i l fun cs => K (x :: cs)).trans (by
    simp only [List.length_cons]
    by_cases h : i + l.length ≤ cs.length
    · rw [if_pos h, if_pos (by omega)]
      congr 1
      simp only [setAt, List.take_succ_cons, List.cons_append]
      congr 2
      rw [show i + 1 + l.length = (i + l.length) + 1 by omega, List.drop_succ_cons]
    · rw [if_neg h, if_neg (by omega)])
@[simp] theorem catL_eq : ∀ (l m : List AV) (K : List AV → R), catL l m K = K (l ++ m)
  | [], _, _ => rfl
  | x :: l, m, K => catL_eq l m fun l => K (x :: l)
@[simp] theorem lenL_eq : ∀ l : List AV, lenL l = l.length
  | [] => rfl
  | x :: l => congrArg Nat.succ (lenL_eq l)
@[simp] theorem lenNs_eq : ∀ l : List Nat, lenNs l = l.length
  | [] => rfl
  | x :: l => congrArg Nat.succ (lenNs_eq l)

theorem pushAll_spec : ∀ (l : List AB) {hp : T AB} {n : Nat} (K : T AB → Nat → R), WH n hp → pushAll l hp n K = .no ∨ ∃ hp' n', pushAll l hp n K = K hp' n' ∧ WH n' hp' ∧ listH n' hp' = listH n hp ++ l
  | [], hp, n, K, h => .inr ⟨hp, n, rfl, h, by simp⟩
  | b :: l, hp, n, K, h => by
    have e : pushAll (b :: l) hp n K = pushK hp n b fun hp n => pushAll l hp n K := (forceB_eq b fun b => pushK hp n b fun hp n => pushAll l hp n K)
    rw [e]
    rcases pushK_spec h b fun hp n => pushAll l hp n K with h1 | ⟨hp1, h1, h2, h3⟩
    · exact .inl h1
    · rw [h1]
      rcases pushAll_spec l K h2 with h4 | ⟨hp', n', h4, h5, h6⟩
      · exact .inl h4
      · exact .inr ⟨hp', n', h4, h5, by rw [h6, h3, List.append_assoc]; rfl⟩
theorem wh_empty : WH 0 (.e cap) := ⟨.e _, by simp, fun i hi => absurd hi (by omega)⟩
theorem ofH_spec (l : List AB) (K : T AB → Nat → R) : ofH l K = .no ∨ ∃ hp n, ofH l K = K hp n ∧ WH n hp ∧ listH n hp = l := by
  rcases pushAll_spec l K wh_empty with h | ⟨hp, n, h1, h2, h3⟩
  · exact .inl h
  · exact .inr ⟨hp, n, h1, h2, by rw [h3]; rfl⟩

theorem ble_iff (a b : Nat) : Nat.ble a b = decide (a ≤ b) := by
  by_cases h : a ≤ b
  · simp [h, Nat.ble_eq_true_of_le h]
  · cases hx : Nat.ble a b with
    | true => exact absurd (Nat.le_of_ble_eq_true hx) h
    | false => simp [h]

/-! Operands. -/
theorem valK_eq {C : Cfg} {N : Nat} {tr : T AV} {x : Opnd} (hx : okO N x = true) (K : AV → R) : valK x tr K = .no ∨ valK x tr K = K (Ev.val C (listT N tr) x) := by
  cases x with
  | tmp t =>
    right
    have ht : t < N := Nat.le_of_ble_eq_true hx
    show getK tr t (K .unk) K = _
    rw [getK_eq]
    simp only [Ev.val, listT_getD tr ht]
    cases at? tr t <;> rfl
  | val v => exact .inr rfl
  | glob g => exact .inl rfl
theorem val_eq {C : Cfg} (N : Nat) (tr : T AV) (hC : ∀ g, C.glob g = none) : val N tr = Ev.val C (listT N tr) := by
  funext x
  cases x with
  | tmp t =>
    show (Bool.rec .unk (getP tr t .unk) (Nat.ble (Nat.succ t) N) : AV) = _
    simp only [Ev.val]
    by_cases h : t < N
    · rw [show Nat.ble (Nat.succ t) N = true from Nat.ble_eq_true_of_le h, listT_getD tr h, getP_eq]
    · have : Nat.ble (Nat.succ t) N = false := by rw [ble_iff]; simp; omega
      rw [this, List.getD_eq_getElem?_getD, List.getElem?_eq_none (by rw [listT_len]; omega)]; rfl
  | val v => rfl
  | glob g => simp [val, Ev.val, hC]
theorem argsK_eq {C : Cfg} {N : Nat} {tr : T AV} : ∀ {l : List Opnd} (K : List AV → R), (∀ x, x ∈ l → okO N x = true) → argsK l tr K = .no ∨ argsK l tr K = K (l.map (Ev.val C (listT N tr)))
  | [], _, _ => .inr rfl
  | x :: l, K, h => by
    have e : argsK (x :: l) tr K = valK x tr fun v => argsK l tr fun l => K (v :: l) := rfl
    rw [e]
    rcases valK_eq (C := C) (h x (List.mem_cons_self ..)) (tr := tr) fun v => argsK l tr fun l => K (v :: l) with h1 | h1
    · exact .inl h1
    · rw [h1]
      rcases argsK_eq (C := C) (fun l => K (Ev.val C (listT N tr) x :: l)) (fun y hy => h y (List.mem_cons_of_mem _ hy)) with h2 | h2
      · exact .inl h2
      · exact .inr (by rw [h2]; rfl)

theorem asInt_eq (v : AV) (K : IntKind → Int → R) : asInt v K = (match v with | .int k n => K k n | _ => .no) := by cases v <;> rfl
theorem asBool_eq (v : AV) (K : Bool → R) : asBool v K = (match v with | .bool b => K b | _ => .no) := by cases v <;> rfl
theorem asTup_eq (v : AV) (K : List AV → R) : asTup v K = (match v with | .tup l => K l | _ => .no) := by cases v <;> rfl
theorem asAgg_eq (v : AV) (K : List AV → R) : asAgg v K = (match v with | .agg l => K l | _ => .no) := by cases v <;> rfl
theorem asPtr_eq (v : AV) (K : Nat → Nat → R) (O : R) : asPtr v K O = (match v with | .ptr b o => K b o | _ => O) := by cases v <;> rfl
theorem asSl_eq (v : AV) (K : Nat → Nat → Nat → Nat → R) (O : R) : asSl v K O = (match v with | .sl b o n k => K b o n k | _ => O) := by cases v <;> rfl
theorem asIface_eq (v : AV) (K : Nat → AV → R) (O : R) : asIface v K O = (match v with | .iface t v => K t v | _ => O) := by cases v <;> rfl
theorem asFn_eq (v : AV) (K : Fn → List AV → List AV → R) (Y : Nat → R) : asFn v K Y = (match v with | .fn f a b => K f a b | .yield l => Y l | _ => .no) := by cases v <;> rfl
theorem cellsK_eq (v : AV) (K : List AV → R) : cellsK v K = (match cellsOf v with | some l => K l | none => .no) := by cases v <;> rfl
theorem fnK_eq (f : Fn) (K : Nat → R) : fnK f K = (match f with | .func f => K f | _ => .no) := rfl

/-! Integers. -/
theorem subNN_eq (m n : Nat) : subNN m n = (m : Int) - n := by
  unfold subNN
  have h : Nat.sub n m = n - m := rfl
  have h' : Nat.sub m n = m - n := rfl
  rw [h, h']
  cases hx : n - m with
  | zero => show Int.ofNat (m - n) = _; simp; omega
  | succ d => show Int.negSucc d = _; omega
theorem addI_eq (x y : Int) : addI x y = x + y := by
  cases x <;> cases y <;> simp only [addI, subNN_eq]
  · rfl
  · simp; omega
  · simp; omega
  · rename_i a b; show Int.negSucc (a + b + 1) = _; omega
theorem negI_eq (x : Int) : negI x = -x := by
  cases x with
  | ofNat a => cases a with
    | zero => rfl
    | succ m => rfl
  | negSucc a => rfl
theorem leI_eq (x y : Int) : leI x y = decide (x ≤ y) := by
  cases x <;> cases y <;> simp only [leI, ble_iff] <;> simp <;> omega
theorem eqI_eq (x y : Int) : eqI x y = (x == y) := by
  have h : ∀ a b : Nat, Nat.beq a b = decide (a = b) := fun a b => by
    cases hx : Nat.beq a b
    · have := Nat.ne_of_beq_eq_false hx; simp [this]
    · have := Nat.eq_of_beq_eq_true hx; simp [this]
  cases x <;> cases y <;> simp only [eqI, h]
  · rw [Bool.eq_iff_iff]; simp; omega
  · rfl
  · rfl
  · rw [Bool.eq_iff_iff]; simp
theorem kix_eq (k k' : IntKind) : Nat.beq (kix k) (kix k') = decide (k = k') := by cases k <;> cases k' <;> rfl
theorem fits_wrap {k : IntKind} {n : Int} (h : fits k n = true) : k.wrap n = n := by
  cases k <;> cases n <;> simp only [fits, ble_iff, decide_eq_true_eq] at h <;>
    simp only [Int.ofNat_eq_natCast, IntKind.wrap, IntKind.bits, IntKind.signed, Bool.true_and, Bool.false_and, decide_eq_true_eq, show (2 : Int) ^ 8 = 256 from rfl, show (2 : Int) ^ 16 = 65536 from rfl, show (2 : Int) ^ 32 = 4294967296 from rfl, show (2 : Int) ^ 64 = 18446744073709551616 from rfl,
      show (2 : Int) ^ (8 - 1) = 128 from rfl, show (2 : Int) ^ (16 - 1) = 32768 from rfl, show (2 : Int) ^ (32 - 1) = 2147483648 from rfl, show (2 : Int) ^ (64 - 1) = 9223372036854775808 from rfl, Bool.false_eq_true, if_false] <;>
    (try split) <;> omega
@[simp] theorem wrapK_eq (k : IntKind) (n : Int) (K : Int → R) : wrapK k n K = K (k.wrap n) := by
  unfold wrapK
  rw [intK_eq]
  cases h : fits k n with
  | false => exact intK_eq _ _
  | true => rw [fits_wrap h]
@[simp] theorem notB_eq (b : Bool) : notB b = !b := by cases b <;> rfl
@[simp] theorem andB_eq (a b : Bool) : andB a b = (a && b) := by cases a <;> rfl
theorem boolRec_if {β : Type} (b : Bool) (x y : β) : (Bool.rec (motive := fun _ => β) x y b) = if b = true then y else x := by cases b <;> rfl
end Q
end Ev
end Go.Proofs.YtcaejedfjobooaaGreat
