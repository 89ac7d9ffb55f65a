/- Regions that draw their order: what is read off the canonical order. -/
import Derived.Test.YtcaejedfjobooaaGreatEvReg3
namespace Go.Proofs.YtcaejedfjobooaaGreat
open Go Go.RowKit
namespace Ev

/-! What an operation hangs on. -/
def hang (acc : Array Nat) (o : Oper) : Nat := o.after.foldl (fun s e => if Region.binds .any e then s ||| 2 ^ e.on ||| acc.getD e.on 0 else s) 0

theorem before_eq (ops : Array Oper) : Region.before ops = ops.toList.foldl (fun acc o => acc.push (hang acc o)) #[] := by
  unfold Region.before hang
  rw [Array.foldl_toList]

theorem before_go : ∀ (l : List Oper) (acc : Array Nat), (∀ j, j < acc.size → (l.foldl (fun acc o => acc.push (hang acc o)) acc)[j]? = acc[j]?) ∧
    ∀ (i : Nat) (o : Oper), l[i]? = some o → ∃ acc' : Array Nat, (∀ j k, (acc'.getD j 0).testBit k = true → ((l.foldl (fun acc o => acc.push (hang acc o)) acc).getD j 0).testBit k = true) ∧ (l.foldl (fun acc o => acc.push (hang acc o)) acc)[acc.size + i]? = some (hang acc' o)
  | [], acc => ⟨fun _ _ => rfl, fun i o h => by simp at h⟩
  | o :: l, acc => by
    obtain ⟨h1, h2⟩ := before_go l (acc.push (hang acc o))
    have hk : ∀ j, j < acc.size → ((o :: l).foldl (fun acc o => acc.push (hang acc o)) acc)[j]? = acc[j]? := fun j hj => by
      rw [List.foldl_cons, h1 j (by simp; omega), Array.getElem?_push_lt hj, Array.getElem?_eq_getElem hj]
    refine ⟨hk, fun i o' ho => ?_⟩
    cases i with
    | zero =>
      simp at ho; subst ho
      refine ⟨acc, fun j k hjk => ?_, ?_⟩
      · by_cases hj : j < acc.size
        · rw [Array.getD_eq_getD_getElem?, hk j hj, ← Array.getD_eq_getD_getElem?]; exact hjk
        · rw [Array.getD_eq_getD_getElem?, Array.getElem?_eq_none (by omega)] at hjk; simp at hjk
      · rw [List.foldl_cons, Nat.add_zero, h1 acc.size (by simp)]; simp
    | succ i =>
      obtain ⟨acc', g1, g2⟩ := h2 i o' (by simpa using ho)
      refine ⟨acc', g1, ?_⟩
      rw [List.foldl_cons, show acc.size + (i + 1) = (acc.push (hang acc o)).size + i by simp; omega]
      exact g2

theorem hang_bit {acc : Array Nat} {k : Nat} : ∀ (l : List Edge) (s : Nat), (l.foldl (fun s e => if Region.binds .any e then s ||| 2 ^ e.on ||| acc.getD e.on 0 else s) s).testBit k = true ↔
    s.testBit k = true ∨ ∃ e, e ∈ l ∧ Region.binds .any e = true ∧ (e.on = k ∨ (acc.getD e.on 0).testBit k = true)
  | [], s => by simp
  | e :: l, s => by
    rw [List.foldl_cons, hang_bit l]
    by_cases hb : Region.binds .any e = true
    · simp only [hb, if_true, Nat.testBit_or, Bool.or_eq_true, Nat.testBit_two_pow, decide_eq_true_eq, List.mem_cons]
      constructor
      · rintro ((h | h) | ⟨e', h1, h2, h3⟩)
        · rcases h with h | h
          · exact .inl h
          · exact .inr ⟨e, .inl rfl, hb, .inl h⟩
        · exact .inr ⟨e, .inl rfl, hb, .inr h⟩
        · exact .inr ⟨e', .inr h1, h2, h3⟩
      · rintro (h | ⟨e', h1 | h1, h2, h3⟩)
        · exact .inl (.inl (.inl h))
        · subst h1
          rcases h3 with h3 | h3
          · exact .inl (.inl (.inr h3))
          · exact .inl (.inr h3)
        · exact .inr ⟨e', h1, h2, h3⟩
    · simp only [hb, Bool.false_eq_true, if_false, List.mem_cons]
      constructor
      · rintro (h | ⟨e', h1, h2, h3⟩)
        · exact .inl h
        · exact .inr ⟨e', .inr h1, h2, h3⟩
      · rintro (h | ⟨e', h1 | h1, h2, h3⟩)
        · exact .inl h
        · subst h1; exact absurd h2 hb
        · exact .inr ⟨e', h1, h2, h3⟩

theorem before_bit {ops : Array Oper} {i : Nat} {o : Oper} (ho : ops[i]? = some o) : (∀ e, e ∈ o.after → Region.binds .any e = true → ((Region.before ops).getD i 0).testBit e.on = true) ∧
    ∀ k, ((Region.before ops).getD i 0).testBit k = true → ∃ e, e ∈ o.after ∧ Region.binds .any e = true ∧ (e.on = k ∨ ((Region.before ops).getD e.on 0).testBit k = true) := by
  rw [before_eq]
  obtain ⟨acc', h1, h2⟩ := (before_go ops.toList #[]).2 i o (by rw [Array.getElem?_toList]; exact ho)
  simp only [List.size_toArray, List.length_nil, Nat.zero_add] at h2
  have hb : ∀ k, ((ops.toList.foldl (fun (acc : Array Nat) o => acc.push (hang acc o)) #[]).getD i 0).testBit k = true ↔ ∃ e, e ∈ o.after ∧ Region.binds .any e = true ∧ (e.on = k ∨ (acc'.getD e.on 0).testBit k = true) := fun k => by
    rw [Array.getD_eq_getD_getElem?, h2]
    simp only [Option.getD_some]
    unfold hang
    rw [← Array.foldl_toList, hang_bit]
    simp
  exact ⟨fun e he hbi => (hb _).2 ⟨e, he, hbi, .inl rfl⟩, fun k hk => by
    obtain ⟨e, e1, e2, e3⟩ := (hb k).1 hk
    exact ⟨e, e1, e2, e3.imp id (h1 _ _)⟩⟩

/-- What is done, with whatever it hangs on. -/
def Closed (ops : Array Oper) (D : Array Bool) : Prop := ∀ i k, D.getD i false = true → ((Region.before ops).getD i 0).testBit k = true → D.getD k false = true

theorem ready_deps {ops : Array Oper} {D : Array Bool} (hc : Closed ops D) {i : Nat} (hr : i ∈ Region.ready .any ops D) : D.getD i true = false ∧ (∃ o, ops[i]? = some o) ∧ ∀ k, ((Region.before ops).getD i 0).testBit k = true → D.getD k false = true := by
  obtain ⟨h1, o, h2, h3⟩ := mem_ready.1 hr
  refine ⟨h1, ⟨o, h2⟩, fun k hk => ?_⟩
  obtain ⟨e, e1, e2, e3⟩ := (before_bit h2).2 k hk
  have he := h3 e e1 e2
  rcases e3 with rfl | e3
  · exact he
  · exact hc _ _ he e3

theorem ready_of {ops : Array Oper} {D : Array Bool} {i : Nat} {o : Oper} (ho : ops[i]? = some o) (h0 : D.getD i true = false) (h : ∀ k, ((Region.before ops).getD i 0).testBit k = true → D.getD k false = true) : i ∈ Region.ready .any ops D :=
  mem_ready.2 ⟨h0, o, ho, fun e he hb => h _ ((before_bit ho).1 e he hb)⟩

theorem Closed.set {ops : Array Oper} {D : Array Bool} (hc : Closed ops D) {i : Nat} (h : ∀ k, ((Region.before ops).getD i 0).testBit k = true → D.getD k false = true) : Closed ops (D.setIfInBounds i true) := fun j k hj hk => by
  have hup : ∀ m, D.getD m false = true → (D.setIfInBounds i true).getD m false = true := fun m hm => by
    by_cases e : i = m
    · subst e
      rw [Array.getD_eq_getD_getElem?] at hm ⊢
      rw [Array.getElem?_setIfInBounds_self]
      split
      · rfl
      · rename_i hn; rw [Array.getElem?_eq_none (by omega)] at hm; exact hm
    · rw [Array.getD_eq_getD_getElem?] at hm ⊢
      rw [Array.getElem?_setIfInBounds_ne e]; exact hm
  by_cases e : i = j
  · subst e; exact hup _ (h k hk)
  · refine hup _ (hc j k ?_ hk)
    rw [Array.getD_eq_getD_getElem?] at hj ⊢
    rwa [Array.getElem?_setIfInBounds_ne e] at hj

/-! The canonical order. -/
theorem okDraw_pairs : ∀ {l acc : List AOp} {done : Nat}, okDraw done acc l = true → (∀ p, p ∈ acc → ∀ o, o ∈ l → okPair p o = true) ∧ l.Pairwise fun p o => okPair p o = true
  | [], acc, done, _ => ⟨fun _ _ _ h => by simp at h, .nil⟩
  | o :: l, acc, done, h => by
    unfold okDraw at h
    simp only [Bool.and_eq_true] at h
    obtain ⟨⟨h1, _⟩, h3⟩ := h
    rw [List.all_eq_true] at h1
    obtain ⟨g1, g2⟩ := okDraw_pairs h3
    refine ⟨fun p hp o' ho' => ?_, ?_⟩
    · rcases List.mem_cons.1 ho' with rfl | ho'
      · exact h1 p hp
      · exact g1 p (List.mem_cons_of_mem _ hp) o' ho'
    · exact List.pairwise_cons.2 ⟨fun o' ho' => g1 o (List.mem_cons_self ..) o' ho', g2⟩

theorem okDraw_pos {l : List AOp} (h : okDraw 0 [] l = true) {i j : Nat} {p o : AOp} (hi : l[i]? = some p) (hj : l[j]? = some o) (hij : i < j) : okPair p o = true := by
  have := (okDraw_pairs h).2
  rw [List.pairwise_iff_getElem] at this
  obtain ⟨hi', rfl⟩ := List.getElem?_eq_some_iff.1 hi
  obtain ⟨hj', rfl⟩ := List.getElem?_eq_some_iff.1 hj
  exact this i j hi' hj' hij

theorem okDraw_deps : ∀ {l acc : List AOp} {done : Nat}, okDraw done acc l = true → ∀ (i : Nat) (o : AOp), l[i]? = some o → ∀ k, o.deps.testBit k = true → done.testBit k = true ∨ ∃ i' o', i' < i ∧ l[i']? = some o' ∧ o'.ix = k
  | [], acc, done, _, i, o, ho, k, hk => by simp at ho
  | o0 :: l, acc, done, h, i, o, ho, k, hk => by
    unfold okDraw at h
    simp only [Bool.and_eq_true] at h
    obtain ⟨⟨_, h2⟩, h3⟩ := h
    cases i with
    | zero =>
      simp at ho; subst ho
      rw [beq_iff_eq] at h2
      rw [← h2, Nat.testBit_and, Bool.and_eq_true] at hk
      exact .inl hk.2
    | succ i =>
      rcases okDraw_deps h3 i o (by simpa using ho) k hk with h' | ⟨i', o', a1, a2, a3⟩
      · rw [Nat.testBit_or, Bool.or_eq_true, Nat.testBit_two_pow, decide_eq_true_eq] at h'
        rcases h' with h' | h'
        · exact .inl h'
        · exact .inr ⟨0, o0, by omega, rfl, h'⟩
      · exact .inr ⟨i' + 1, o', by omega, by simpa using a2, a3⟩

theorem greedy_mem {ops : List AOp} : ∀ {n : Nat} {todo acc : List AOp} {done : Nat} {l : List AOp}, greedy ops n todo acc done = some l → ∀ o, o ∈ l → o ∈ todo ∨ o ∈ acc
  | 0, [], acc, done, l, h, o, ho => by simp [greedy] at h; subst h; exact .inr (by simpa using ho)
  | 0, _ :: _, acc, done, l, h, o, ho => by simp [greedy] at h
  | n + 1, [], acc, done, l, h, o, ho => by simp [greedy] at h; subst h; exact .inr (by simpa using ho)
  | n + 1, t :: todo, acc, done, l, h, o, ho => by
    simp only [greedy] at h
    split at h
    · rename_i o1 h1
      rcases greedy_mem h o ho with h' | h'
      · exact .inl (List.mem_filter.1 h').1
      · rcases List.mem_cons.1 h' with rfl | h'
        · exact .inl (List.mem_of_find?_eq_some h1)
        · exact .inr h'
    · split at h
      · rename_i o1 h1
        rcases greedy_mem h o ho with h' | h'
        · exact .inl (List.mem_filter.1 h').1
        · rcases List.mem_cons.1 h' with rfl | h'
          · exact .inl (List.mem_of_find?_eq_some h1)
          · exact .inr h'
      · cases h

theorem compOps_mem {P : Program} {ops : Array Oper} {b : Array Nat} : ∀ {is : List Nat} {l : List AOp}, compOps P ops b is = some l → ∀ o, o ∈ l → ∃ i, i ∈ is ∧ compAt P ops b i = some o
  | [], l, h, o, ho => by simp [compOps] at h; subst h; simp at ho
  | i :: is, l, h, o, ho => by
    unfold compOps at h
    split at h <;> cases h
    rename_i o' os e1 e2
    rcases List.mem_cons.1 ho with rfl | ho
    · exact ⟨i, List.mem_cons_self .., e1⟩
    · obtain ⟨j, hj, h'⟩ := compOps_mem e2 o ho
      exact ⟨j, List.mem_cons_of_mem _ hj, h'⟩
end Ev
end Go.Proofs.YtcaejedfjobooaaGreat
