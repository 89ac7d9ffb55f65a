/- Regions that draw their order: every order comes to what the canonical one comes to. -/
import Derived.Test.YtcaejedfjobooaaGreatEvDraw2
namespace Go.Proofs.YtcaejedfjobooaaGreat
open Go Go.RowKit
namespace Ev
section
variable {P : Program} {E : Ent} {C : Cfg} {call : CallF} {ops : Array Oper} {l : List AOp} {S : Nat → St} {FL : Nat → List (Nat × List Nat)} {m : Nat}

/-- A region that draws, and its canonical run. -/
structure Dw (P : Program) (E : Ent) (C : Cfg) (call : CallF) (ops : Array Oper) (l : List AOp) (S : Nat → St) (FL : Nat → List (Nat × List Nat)) (m : Nat) : Prop where
  hcall : CallOk P C call
  tr : Tr C call E.pin l S FL m
  ok : okDraw 0 [] l = true
  all : ∀ i, i < ops.size → ∃ (p : Nat) (o : AOp), l[p]? = some o ∧ o.ix = i
  comp : ∀ o : AOp, o ∈ l → compAt P ops (Region.before ops) o.ix = some o
  fin : m = l.length ∨ ∃ o : AOp, l[m]? = some o ∧ spineK o.op = true
  pin : E.pin ≤ (S 0).hp.length

def undone (D : Array Bool) (o : AOp) : Prop := D.getD o.ix false = false
def isdone (D : Array Bool) (o : AOp) : Prop := D.getD o.ix false = true

structure Vals (P : Program) (E : Ent) (C : Cfg) (l : List AOp) (S : Nat → St) (m : Nat) (D : Array Bool) (a : Act) (W : World) (q : Nat) (L : Nat → Prop) (μ : Mu) (tm : List AV) : Prop where
  hp : Hp P E (S q).tc W L μ (S q).hp
  env : Env C W L μ tm a
  df : DR W L μ (S 0).df a.defers
  len : tm.length = (S 0).tm.length
  wr : ∀ (p : Nat) (o : AOp) (t : Nat), l[p]? = some o → isdone D o → o.dst = some t → tm.getD t .unk = (S m).tm.getD t .unk
  nw : ∀ t, (∀ (p : Nat) (o : AOp), l[p]? = some o → isdone D o → o.dst ≠ some t) → tm.getD t .unk = (S 0).tm.getD t .unk
  no : ∀ (p : Nat) (o : AOp), p < q → l[p]? = some o → undone D o → (S p).hp.length < (S (p + 1)).hp.length → μ (S p).hp.length = .no

structure Pos (ops : Array Oper) (l : List AOp) (m : Nat) (D : Array Bool) (q : Nat) : Prop where
  size : D.size = ops.size
  closed : Closed ops D
  le : q ≤ m
  at_ : q = l.length ∨ ∃ o : AOp, l[q]? = some o ∧ spineK o.op = true
  old : ∀ (p : Nat) (o : AOp), p < q → l[p]? = some o → spineK o.op = true → isdone D o
  new : ∀ (p : Nat) (o : AOp), q ≤ p → l[p]? = some o → undone D o

theorem Dw.ixne (h : Dw P E C call ops l S FL m) {p q : Nat} {o o' : AOp} (hp : l[p]? = some o) (hq : l[q]? = some o') (hne : p ≠ q) : o.ix ≠ o'.ix := by
  rcases Nat.lt_or_gt_of_ne hne with hl | hl
  · have := okDraw_pos h.ok hp hq hl
    unfold okPair at this
    simp only [Bool.and_eq_true, bne_iff_ne] at this
    exact this.1.1.1.2
  · have := okDraw_pos h.ok hq hp hl
    unfold okPair at this
    simp only [Bool.and_eq_true, bne_iff_ne] at this
    exact fun e => this.1.1.1.2 e.symm
theorem Dw.dstne (h : Dw P E C call ops l S FL m) {p q t : Nat} {o o' : AOp} (hp : l[p]? = some o) (hq : l[q]? = some o') (hne : p ≠ q) (ht : o.dst = some t) : o'.dst ≠ some t := by
  rcases Nat.lt_or_gt_of_ne hne with hl | hl
  · have := okDraw_pos h.ok hp hq hl
    unfold okPair at this
    simp only [Bool.and_eq_true] at this
    have := this.1.2
    rw [ht] at this
    simpa using this
  · intro ht'
    have := okDraw_pos h.ok hq hp hl
    unfold okPair at this
    simp only [Bool.and_eq_true] at this
    have := this.1.2
    rw [ht, ht'] at this
    simp at this
/-- Whoever writes what another one names, before it, is one that it hangs on. -/
theorem Dw.names1 (h : Dw P E C call ops l S FL m) {p q t : Nat} {o o' : AOp} (hp : l[p]? = some o) (hq : l[q]? = some o') (hl : p < q) (ht : o.dst = some t) (hn : t ∈ o'.names) : o'.deps.testBit o.ix = true := by
  have := okDraw_pos h.ok hp hq hl
  unfold okPair at this
  simp only [Bool.and_eq_true] at this
  have := this.1.1.2
  rw [ht] at this
  simpa [hn] using this
theorem Dw.names2 (h : Dw P E C call ops l S FL m) {p q t : Nat} {o o' : AOp} (hp : l[p]? = some o) (hq : l[q]? = some o') (hl : p < q) (ht : o'.dst = some t) (hn : t ∈ o.names) : o'.deps.testBit o.ix = true := by
  have := okDraw_pos h.ok hp hq hl
  unfold okPair at this
  simp only [Bool.and_eq_true] at this
  have := this.1.1.2
  rw [ht] at this
  simp only [Bool.or_eq_true, Bool.and_eq_true] at this
  rcases this with h' | ⟨_, h'⟩
  · exact h'
  · simp [hn] at h'
theorem Dw.spdep (h : Dw P E C call ops l S FL m) {p q : Nat} {o o' : AOp} (hp : l[p]? = some o) (hq : l[q]? = some o') (hl : p < q) (hs : spineK o.op = true) : o'.deps.testBit o.ix = true := by
  have := okDraw_pos h.ok hp hq hl
  unfold okPair at this
  simp only [Bool.and_eq_true] at this
  simpa [hs] using this.2
theorem Dw.deps (h : Dw P E C call ops l S FL m) {p : Nat} {o : AOp} (hp : l[p]? = some o) : o.deps = (Region.before ops).getD o.ix 0 := by
  obtain ⟨_, _, _, _, _, _, h6⟩ := compAt_ok (h.comp o (List.mem_of_getElem? hp))
  exact h6
/-- What hangs on a done one... is what a done one hangs on. -/
theorem Dw.down (h : Dw P E C call ops l S FL m) {D : Array Bool} (hc : Closed ops D) {p : Nat} {o o' : AOp} (hp : l[p]? = some o) (hd : isdone D o) (hb : o.deps.testBit o'.ix = true) : isdone D o' :=
  hc o.ix o'.ix hd (by rw [← h.deps hp]; exact hb)

theorem done_or (D : Array Bool) (o : AOp) : isdone D o ∨ undone D o := by
  unfold isdone undone
  cases D.getD o.ix false <;> simp
theorem not_both {D : Array Bool} {o : AOp} (h : isdone D o) (h' : undone D o) : False := by
  unfold isdone at h; unfold undone at h'; rw [h] at h'; cases h'

/-- What an operation that is ready reads is what it reads in the canonical run. -/
theorem Dw.agree (h : Dw P E C call ops l S FL m) {D : Array Bool} {a : Act} {W : World} {q : Nat} {L : Nat → Prop} {μ : Mu} {tm : List AV} (hpos : Pos ops l m D q) (hv : Vals P E C l S m D a W q L μ tm)
    {p : Nat} {o : AOp} (hp : l[p]? = some o) (hu : undone D o) (hpq : p ≤ q) (hr : ∀ k, o.deps.testBit k = true → D.getD k false = true) {t : Nat} (ht : t ∈ o.names) : tm.getD t .unk = (S p).tm.getD t .unk := by
  have hpm : p ≤ m := Nat.le_trans hpq hpos.le
  obtain ⟨ta, tb⟩ := h.tr.tm_at h.ok (t := t) hpm
  by_cases hex : ∃ (p' : Nat) (o' : AOp), l[p']? = some o' ∧ isdone D o' ∧ o'.dst = some t
  · obtain ⟨p', o', e1, e2, e3⟩ := hex
    have hne : p' ≠ p := by
      rintro rfl
      rw [hp] at e1; cases e1
      exact not_both e2 hu
    rcases Nat.lt_or_gt_of_ne hne with hl | hl
    · rw [hv.wr p' o' t e1 e2 e3, ta ⟨p', o', hl, e1, e3⟩]
    · have := h.names2 hp e1 hl e3 ht
      exact (not_both (h.down hpos.closed e1 e2 this) hu).elim
  · rw [hv.nw t fun p' o' e1 e2 e3 => hex ⟨p', o', e1, e2, e3⟩]
    refine (tb fun p' o' hl e1 e3 => ?_).symm
    have := h.names1 e1 hp hl e3 ht
    exact hex ⟨p', o', e1, hr _ this, e3⟩

theorem wantG_congr {tm tm' : List AV} {g : Option (Nat × Bool)} (h : ∀ t, t ∈ (match g with | some (t, _) => [t] | none => []) → tm.getD t .unk = tm'.getD t .unk) : wantG (val C tm) g = wantG (val C tm') g := by
  cases g with
  | none => rfl
  | some g =>
    obtain ⟨t, w⟩ := g
    simp only [wantG]
    rw [valO (x := .tmp t) (C := C) (tm := tm) (tm' := tm') (fun t' ht => h t' (by simpa [tmpsO] using ht))]

/-- One more is done. -/
theorem setD_other {D : Array Bool} {o o' : AOp} (hne : o.ix ≠ o'.ix) : (D.setIfInBounds o.ix true).getD o'.ix false = D.getD o'.ix false := by
  rw [Array.getD_eq_getD_getElem?, Array.getD_eq_getD_getElem?, Array.getElem?_setIfInBounds_ne hne]
theorem setD_self {D : Array Bool} {o : AOp} (hlt : o.ix < D.size) : isdone (D.setIfInBounds o.ix true) o := by
  unfold isdone
  rw [Array.getD_eq_getD_getElem?, Array.getElem?_setIfInBounds_self, if_pos hlt]; rfl

/-- The temporaries behind a step. -/
theorem Dw.tmstep (h : Dw P E C call ops l S FL m) {D : Array Bool} {tm : List AV} {p : Nat} {o : AOp} (hlt : o.ix < D.size) (hp : l[p]? = some o) (hpm : p < m)
    (hlen : tm.length = (S 0).tm.length) {v : AV} (hS : (S (p + 1)).tm = putT (S p).tm o.dst v)
    (wr : ∀ (p : Nat) (o : AOp) (t : Nat), l[p]? = some o → isdone D o → o.dst = some t → tm.getD t .unk = (S m).tm.getD t .unk)
    (nw : ∀ t, (∀ (p : Nat) (o : AOp), l[p]? = some o → isdone D o → o.dst ≠ some t) → tm.getD t .unk = (S 0).tm.getD t .unk) :
    (putT tm o.dst v).length = (S 0).tm.length ∧ (∀ (p' : Nat) (o' : AOp) (t : Nat), l[p']? = some o' → isdone (D.setIfInBounds o.ix true) o' → o'.dst = some t → (putT tm o.dst v).getD t .unk = (S m).tm.getD t .unk) ∧
    (∀ t, (∀ (p' : Nat) (o' : AOp), l[p']? = some o' → isdone (D.setIfInBounds o.ix true) o' → o'.dst ≠ some t) → (putT tm o.dst v).getD t .unk = (S 0).tm.getD t .unk) := by
  refine ⟨len_putT.trans hlen, fun p' o' t e1 e2 e3 => ?_, fun t ht => ?_⟩
  · by_cases he : p' = p
    · subst he
      rw [hp] at e1; cases e1
      rw [← ((h.tr.tm_at h.ok (t := t) (q := p' + 1) hpm).1 ⟨p', o, by omega, hp, e3⟩), hS, e3]
      exact putT_congr (by rw [hlen, (h.tr.tmlen p' (by omega)).1])
    · have hne := h.dstne e1 hp he e3
      rw [getD_putT hne]
      refine wr p' o' t e1 ?_ e3
      unfold isdone at e2 ⊢
      rwa [setD_other (h.ixne hp e1 (fun e => he e.symm))] at e2
  · have h1 : o.dst ≠ some t := ht p o hp (setD_self hlt)
    rw [getD_putT h1]
    refine nw t fun p' o' e1 e2 => ht p' o' e1 ?_
    by_cases he : p' = p
    · subst he; rw [hp] at e1; cases e1; exact setD_self hlt
    · unfold isdone at e2 ⊢
      rwa [setD_other (h.ixne hp e1 (fun e => he e.symm))]

/-- From the next of the spine to the one behind it. -/
theorem Dw.advance (h : Dw P E C call ops l S FL m) {D : Array Bool} {q : Nat} {o : AOp} (hpos : Pos ops l m D q) (hq : l[q]? = some o) (hqm : q < m) (hlt : o.ix < D.size) (hr : ∀ k, ((Region.before ops).getD o.ix 0).testBit k = true → D.getD k false = true)
    {a : Act} {W : World} {L : Nat → Prop} {μ : Mu} {tm : List AV} (hp : Hp P E (S (q + 1)).tc W L μ (S (q + 1)).hp) (env : Env C W L μ tm a) (df : DR W L μ (S 0).df a.defers) (len : tm.length = (S 0).tm.length)
    (wr : ∀ (p : Nat) (o' : AOp) (t : Nat), l[p]? = some o' → isdone (D.setIfInBounds o.ix true) o' → o'.dst = some t → tm.getD t .unk = (S m).tm.getD t .unk)
    (nw : ∀ t, (∀ (p : Nat) (o' : AOp), l[p]? = some o' → isdone (D.setIfInBounds o.ix true) o' → o'.dst ≠ some t) → tm.getD t .unk = (S 0).tm.getD t .unk)
    (no : ∀ (p : Nat) (o' : AOp), p < q → l[p]? = some o' → undone D o' → (S p).hp.length < (S (p + 1)).hp.length → μ (S p).hp.length = .no) :
    ∃ q', Pos ops l m (D.setIfInBounds o.ix true) q' ∧ Vals P E C l S m (D.setIfInBounds o.ix true) a W q' L μ tm := by
  obtain ⟨q', g1, g2, g3, g4⟩ := nextSpine h.tr.le h.fin (m - (q + 1)) (q + 1) (by omega)
  have hf := h.hcall.fr
  have hother : ∀ (p : Nat) (o' : AOp), l[p]? = some o' → p ≠ q → (D.setIfInBounds o.ix true).getD o'.ix false = D.getD o'.ix false := fun p o' e1 e2 => setD_other (h.ixne hq e1 (fun e => e2 e.symm))
  refine ⟨q', ⟨by simp; exact hpos.size, hpos.closed.set hr, g2, g4, fun p o' e1 e2 e3 => ?_, fun p o' e1 e2 => ?_⟩, ⟨?_, env, df, len, wr, nw, fun p o' e1 e2 e3 e4 => ?_⟩⟩
  · by_cases he : p = q
    · subst he; rw [hq] at e2; cases e2; exact setD_self hlt
    · unfold isdone; rw [hother p o' e2 he]
      by_cases hlq : p < q
      · exact hpos.old p o' hlq e2 e3
      · have := g3 p o' (by omega) e1 e2; rw [this] at e3; cases e3
  · unfold undone; rw [hother p o' e2 (by omega)]; exact hpos.new p o' (by omega) e2
  · have := h.tr.float_push (P := P) (E := E) (W := W) (L := L) (μ := μ) (p := q + 1) (q' - (q + 1)) (by omega) (fun i o' h1 h2 h3 => g3 i o' h1 (by omega) h3) hp
    rwa [show q + 1 + (q' - (q + 1)) = q' by omega] at this
  · by_cases he : p = q
    · subst he; rw [hq] at e2; cases e2; exact (not_both (setD_self hlt) e3).elim
    · by_cases hlq : p < q
      · refine no p o' hlq e2 ?_ e4
        unfold undone at e3 ⊢; rwa [hother p o' e2 he] at e3
      · exact hp.sim.out _ (h.tr.mono' hf (by omega) (by omega))

theorem VL.weaken {W : World} {L : Nat → Prop} {μ : Mu} {tm tm' : List AV} {rs : List Value} (h : VL W L μ tm rs) (hl : tm'.length = tm.length) (ht : ∀ t, tm'.getD t .unk = .unk ∨ tm'.getD t .unk = tm.getD t .unk) : VL W L μ tm' rs := by
  refine ⟨hl.trans h.1, fun i x r hx hr => ?_⟩
  have hi : i < tm.length := by rw [h.1]; exact (List.getElem?_eq_some_iff.1 hr).1
  have hxx : tm'.getD i .unk = x := by rw [List.getD_eq_getElem?_getD, hx]; rfl
  rcases ht i with e | e
  · rw [hxx] at e; subst e; exact .unk
  · rw [hxx] at e; subst e
    refine h.2 i _ r ?_ hr
    rw [List.getD_eq_getElem?_getD, List.getElem?_eq_getElem hi]; rfl

theorem forget_len : ∀ (dead : List Nat) (tm : List AV), (forget dead tm).length = tm.length
  | [], _ => rfl
  | d :: l, tm => by
    show (forget l (tm.set d .unk)).length = _
    rw [forget_len l]; simp
theorem forget_get : ∀ (dead : List Nat) (tm : List AV) (t : Nat), ((forget dead tm).getD t .unk = .unk) ∨ (t ∉ dead ∧ (forget dead tm).getD t .unk = tm.getD t .unk)
  | [], _, _ => .inr ⟨by simp, rfl⟩
  | d :: l, tm, t => by
    rcases forget_get l (tm.set d .unk) t with h | ⟨h, h'⟩
    · exact .inl h
    · by_cases hd : d = t
      · subst hd
        left
        refine Eq.trans h' ?_
        rw [List.getD_eq_getElem?_getD, List.getElem?_set_self']
        cases tm[d]? <;> rfl
      · right
        refine ⟨by simp [h]; exact fun e => hd e.symm, Eq.trans h' ?_⟩
        rw [List.getD_eq_getElem?_getD, List.getElem?_set_ne hd, List.getD_eq_getElem?_getD]

/-- Nothing is ready any more: all is done. -/
theorem Dw.alldone (h : Dw P E C call ops l S FL m) {D : Array Bool} (hsz : D.size = ops.size) (hr : Region.ready .any ops D = []) : ∀ (n p : Nat) (o : AOp), p < n → l[p]? = some o → isdone D o
  | 0, p, o, hp, _ => by omega
  | n + 1, p, o, hp, ho => by
    rcases done_or D o with hd | hd
    · exact hd
    · exfalso
      obtain ⟨oo, h1, h2, h3, h4, h5, h6⟩ := compAt_ok (h.comp o (List.mem_of_getElem? ho))
      have hlt : o.ix < D.size := by rw [hsz]; exact (Array.getElem?_eq_some_iff.1 h1).1
      have : o.ix ∈ Region.ready .any ops D := by
        refine ready_of h1 ?_ fun k hk => ?_
        · unfold undone at hd
          rw [Array.getD_eq_getD_getElem?, Array.getElem?_eq_getElem hlt] at hd ⊢
          exact hd
        · rcases okDraw_deps h.ok p o ho k (by rw [h6]; exact hk) with h' | ⟨i', o', a1, a2, a3⟩
          · simp at h'
          · have := h.alldone hsz hr n i' o' (by omega) a2
            unfold isdone at this; rwa [a3] at this
      rw [hr] at this; cases this

def left (D : Array Bool) : Nat := D.count false
theorem left_set {D : Array Bool} {i : Nat} (h : D.getD i true = false) : left (D.setIfInBounds i true) + 1 = left D := by
  have hi : i < D.size := by
    by_cases hi : i < D.size
    · exact hi
    · rw [Array.getD_eq_getD_getElem?, Array.getElem?_eq_none (by omega)] at h; cases h
  rw [Array.getD_eq_getD_getElem?, Array.getElem?_eq_getElem hi] at h
  simp only [Option.getD_some] at h
  have hs : D.setIfInBounds i true = D.set i true := by simp [Array.setIfInBounds, hi]
  rw [hs]
  unfold left
  rw [Array.count_set hi, h]
  have : 0 < D.count false := Array.count_pos_iff.2 (by rw [← h]; exact Array.getElem_mem hi)
  simp; omega
theorem left_zero {D : Array Bool} {i : Nat} (h : left D = 0) : D.getD i true = true := by
  cases hb : D.getD i true with
  | true => rfl
  | false => have := left_set hb; omega
end
end Ev
end Go.Proofs.YtcaejedfjobooaaGreat
