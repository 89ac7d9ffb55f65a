/- Regions that draw their order: the canonical run. -/
import Derived.Test.YtcaejedfjobooaaGreatEvDraw
namespace Go.Proofs.YtcaejedfjobooaaGreat
open Go Go.RowKit
namespace Ev

/-- One step of the canonical run. -/
inductive Stp (C : Cfg) (call : CallF) (pin : Nat) (fl : List (Nat × List Nat)) (o : AOp) (st : St) : Option (List Nat) → St → Prop
  | skip : wantG (val C st.tm) o.guard = some false → Stp C call pin fl o st none { st with tm := putT st.tm o.dst .unk }
  | spine {v : AV} {hp : List AB} {tc : List Nat} : wantG (val C st.tm) o.guard = some true → spineK o.op = true → spine call (val C st.tm) st.hp o.op = some (.ret v, hp, tc) →
      (∀ p, p ∈ fl → o.deps.testBit p.1 = true ∨ ∀ b, b ∈ p.2 → b ∉ tc) → Stp C call pin fl o st none { st with hp := hp, tm := putT st.tm o.dst v, tc := tc.filter (· < pin) ++ st.tc }
  | float {v : AV} {hp : List AB} {ft : List Nat} : wantG (val C st.tm) o.guard = some true → spineK o.op = false → float (val C st.tm) st.hp o.op = some (v, hp, ft) →
      Stp C call pin fl o st (some ft) { st with hp := hp, tm := putT st.tm o.dst v }

theorem apart_spec {xs ys : List Nat} (h : apart xs ys = true) : ∀ b, b ∈ xs → b ∉ ys := by
  unfold apart at h
  intro b hb hy
  have := List.all_eq_true.1 h b hb
  simp [hy] at this
theorem flAll_spec {fl : List (Nat × List Nat)} {deps : Nat} {tc : List Nat} (h : fl.all (fun p => deps.testBit p.1 || apart p.2 tc) = true) : ∀ p, p ∈ fl → deps.testBit p.1 = true ∨ ∀ b, b ∈ p.2 → b ∉ tc := by
  intro p hp
  have := List.all_eq_true.1 h p hp
  rw [Bool.or_eq_true] at this
  exact this.imp id apart_spec

theorem ev1_stp {C : Cfg} {call : CallF} {pin : Nat} {nod : Bool} {fl : List (Nat × List Nat)} {o : AOp} {st : St} {r : O1} (h : ev1 C call pin nod true fl o st = some r) :
    (∃ ft st', r = .next ft st' ∧ Stp C call pin fl o st ft st') ∨ (∃ v hp tc, r = .pan v { st with hp := hp, tc := tc.filter (· < pin) ++ st.tc } ∧ wantG (val C st.tm) o.guard = some true ∧ spineK o.op = true ∧ spine call (val C st.tm) st.hp o.op = some (.pan v, hp, tc)) := by
  unfold ev1 at h
  split at h
  · cases h
  · rename_i hw
    cases h
    exact .inl ⟨_, _, rfl, .skip hw⟩
  · rename_i hw
    split at h
    · split at h <;> simp at h
    · rename_i k hk
      rw [Bool.cond_eq_ite] at h
      split at h
      · rename_i hs
        split at h
        · rename_i v hp tc hsp
          rw [Bool.not_true, Bool.false_or, Bool.cond_eq_ite, Option.ite_none_right_eq_some] at h
          obtain ⟨h1, h2⟩ := h
          cases h2
          exact .inl ⟨_, _, rfl, .spine hw hs hsp (flAll_spec h1)⟩
        · rename_i v hp tc hsp
          rw [Bool.not_true, Bool.false_or, Bool.cond_eq_ite, Option.ite_none_right_eq_some] at h
          obtain ⟨h1, h2⟩ := h
          cases h2
          exact .inr ⟨_, _, _, rfl, hw, hs, hsp⟩
        · cases h
      · rename_i hs
        split at h
        · rename_i v hp ft hfl
          cases h
          exact .inl ⟨_, _, rfl, .float hw (by simpa using hs) hfl⟩
        · cases h

structure Tr (C : Cfg) (call : CallF) (pin : Nat) (l : List AOp) (S : Nat → St) (FL : Nat → List (Nat × List Nat)) (m : Nat) : Prop where
  le : m ≤ l.length
  step : ∀ p, p < m → ∃ o ft, l[p]? = some o ∧ Stp C call pin (FL p) o (S p) ft (S (p + 1)) ∧ FL (p + 1) = addFl o.ix ft (FL p)

theorem evOps_tr {C : Cfg} {call : CallF} {pin : Nat} {nod : Bool} : ∀ {l : List AOp} {fl : List (Nat × List Nat)} {st st' : St} {r : Option AV}, evOps C call pin nod true l fl st = some (r, st') →
    ∃ S FL m, S 0 = st ∧ FL 0 = fl ∧ Tr C call pin l S FL m ∧ ((r = none ∧ m = l.length ∧ st' = S m) ∨
      ∃ v o hp tc, r = some v ∧ l[m]? = some o ∧ wantG (val C (S m).tm) o.guard = some true ∧ spineK o.op = true ∧ spine call (val C (S m).tm) (S m).hp o.op = some (.pan v, hp, tc) ∧ st' = { S m with hp := hp, tc := tc.filter (· < pin) ++ (S m).tc })
  | [], fl, st, st', r, h => by
    cases h
    exact ⟨fun _ => st, fun _ => fl, 0, rfl, rfl, ⟨Nat.le_refl _, fun p hp => by omega⟩, .inl ⟨rfl, rfl, rfl⟩⟩
  | o :: l, fl, st, st', r, h => by
    unfold evOps at h
    split at h
    · rename_i ft st1 h1
      rcases ev1_stp h1 with ⟨ft', st2, e, hs⟩ | ⟨v, hp, tc, e, _⟩
      · cases e
        obtain ⟨S, FL, m, s0, f0, ht, hend⟩ := evOps_tr h
        refine ⟨fun p => match p with | 0 => st | p + 1 => S p, fun p => match p with | 0 => fl | p + 1 => FL p, m + 1, rfl, rfl, ⟨by simp; exact ht.le, fun p hp => ?_⟩, ?_⟩
        · cases p with
          | zero => exact ⟨o, ft, rfl, by simp only [s0]; exact hs, by simp only [f0]⟩
          | succ p =>
            obtain ⟨o', ft', a1, a2, a3⟩ := ht.step p (by omega)
            exact ⟨o', ft', by simpa using a1, a2, a3⟩
        · rcases hend with ⟨a1, a2, a3⟩ | ⟨v, o', hp, tc, a1, a2, a3⟩
          · exact .inl ⟨a1, by simp [a2], a3⟩
          · exact .inr ⟨v, o', hp, tc, a1, by simpa using a2, a3⟩
      · cases e
    · rename_i v st1 h1
      cases h
      rcases ev1_stp h1 with ⟨ft', st2, e, hs⟩ | ⟨v', hp, tc, e, b1, b2, b3⟩
      · cases e
      · cases e
        exact ⟨fun _ => st, fun _ => fl, 0, rfl, rfl, ⟨by simp, fun p hp => by omega⟩, .inr ⟨v, o, hp, tc, rfl, rfl, b1, b2, b3, rfl⟩⟩
    · cases h

theorem getD_putT {tm : List AV} {dst : Option Nat} {v : AV} {t : Nat} (h : dst ≠ some t) : (putT tm dst v).getD t .unk = tm.getD t .unk := by
  cases dst with
  | none => rfl
  | some d =>
    have hd : d ≠ t := fun e => h (by rw [e])
    simp only [putT]
    rw [List.getD_eq_getElem?_getD, List.getElem?_set_ne hd, List.getD_eq_getElem?_getD]
theorem len_putT {tm : List AV} {dst : Option Nat} {v : AV} : (putT tm dst v).length = tm.length := by
  cases dst <;> simp [putT]
theorem putT_congr {tm tm' : List AV} {d : Nat} {v : AV} (h : tm.length = tm'.length) : (putT tm (some d) v).getD d .unk = (putT tm' (some d) v).getD d .unk := by
  simp only [putT]
  rw [List.getD_eq_getElem?_getD, List.getD_eq_getElem?_getD, List.getElem?_set_self', List.getElem?_set_self']
  by_cases hd : d < tm.length
  · rw [List.getElem?_eq_getElem hd, List.getElem?_eq_getElem (h ▸ hd)]; rfl
  · rw [List.getElem?_eq_none (by omega), List.getElem?_eq_none (by omega)]

section
variable {C : Cfg} {call : CallF} {pin : Nat} {l : List AOp} {S : Nat → St} {FL : Nat → List (Nat × List Nat)} {m : Nat}

theorem Stp.tm {fl : List (Nat × List Nat)} {o : AOp} {st st' : St} {ft : Option (List Nat)} (h : Stp C call pin fl o st ft st') : ∃ v, st'.tm = putT st.tm o.dst v := by
  cases h with
  | skip => exact ⟨_, rfl⟩
  | spine => exact ⟨_, rfl⟩
  | float => exact ⟨_, rfl⟩
theorem Stp.df {fl : List (Nat × List Nat)} {o : AOp} {st st' : St} {ft : Option (List Nat)} (h : Stp C call pin fl o st ft st') : st'.df = st.df := by
  cases h <;> rfl
theorem Stp.len (hf : CallFr call) {fl : List (Nat × List Nat)} {o : AOp} {st st' : St} {ft : Option (List Nat)} (h : Stp C call pin fl o st ft st') : st.hp.length ≤ st'.hp.length := by
  cases h with
  | skip => exact Nat.le_refl _
  | spine _ _ hs => exact (spine_kept hf hs).1
  | float _ _ hfl =>
    rcases float_hp hfl with ⟨blk, mk, _, _, rfl, _⟩ | ⟨_, rfl, _⟩
    · simp
    · exact Nat.le_refl _

theorem Tr.tmlen (h : Tr C call pin l S FL m) : ∀ p, p ≤ m → (S p).tm.length = (S 0).tm.length ∧ (S p).df = (S 0).df
  | 0, _ => ⟨rfl, rfl⟩
  | p + 1, hp => by
    obtain ⟨o, ft, _, h2, _⟩ := h.step p (by omega)
    obtain ⟨v, hv⟩ := h2.tm
    obtain ⟨g1, g2⟩ := h.tmlen p (by omega)
    exact ⟨by rw [hv, len_putT]; exact g1, h2.df.trans g2⟩

theorem Tr.mono (hf : CallFr call) (h : Tr C call pin l S FL m) {p : Nat} : ∀ k, p + k ≤ m → (S p).hp.length ≤ (S (p + k)).hp.length
  | 0, _ => Nat.le_refl _
  | k + 1, hk => by
    obtain ⟨o, ft, _, h2, _⟩ := h.step (p + k) (by omega)
    exact Nat.le_trans (h.mono hf k (by omega)) (h2.len hf)
theorem Tr.mono' (hf : CallFr call) (h : Tr C call pin l S FL m) {p q : Nat} (hpq : p ≤ q) (hq : q ≤ m) : (S p).hp.length ≤ (S q).hp.length := by
  have := h.mono hf (p := p) (q - p) (by omega)
  rwa [show p + (q - p) = q by omega] at this

/-- A temporary that nobody writes. -/
theorem Tr.tmA (h : Tr C call pin l S FL m) {p t : Nat} : ∀ k, p + k ≤ m → (∀ i o, p ≤ i → i < p + k → l[i]? = some o → o.dst ≠ some t) → (S (p + k)).tm.getD t .unk = (S p).tm.getD t .unk
  | 0, _, _ => rfl
  | k + 1, hk, hn => by
    obtain ⟨o, ft, h1, h2, _⟩ := h.step (p + k) (by omega)
    obtain ⟨v, hv⟩ := h2.tm
    rw [← Nat.add_assoc, hv, getD_putT (hn _ _ (by omega) (by omega) h1)]
    exact h.tmA k (by omega) fun i o h1 h2 => hn i o h1 (by omega)

/-- A temporary of the canonical run. -/
theorem Tr.tm_at (h : Tr C call pin l S FL m) (hok : okDraw 0 [] l = true) {q t : Nat} (hq : q ≤ m) :
    ((∃ p o, p < q ∧ l[p]? = some o ∧ o.dst = some t) → (S q).tm.getD t .unk = (S m).tm.getD t .unk) ∧ ((∀ p o, p < q → l[p]? = some o → o.dst ≠ some t) → (S q).tm.getD t .unk = (S 0).tm.getD t .unk) := by
  constructor
  · rintro ⟨p, o, hp, ho, hd⟩
    have := h.tmA (p := q) (t := t) (m - q) (by omega) fun i o' h1 h2 h3 h4 => by
      have hpair := okDraw_pos hok ho h3 (by omega)
      unfold okPair at hpair
      simp only [Bool.and_eq_true] at hpair
      have := hpair.1.2
      rw [hd, h4] at this
      simp at this
    rw [show q + (m - q) = m by omega] at this
    exact this.symm
  · intro hn
    have := h.tmA (p := 0) (t := t) q (by omega) fun i o _ h2 h3 => hn i o (by omega) h3
    rwa [Nat.zero_add] at this

theorem Tr.fl (h : Tr C call pin l S FL m) {p : Nat} {o : AOp} {ft : List Nat} (ho : l[p]? = some o) (hf : FL (p + 1) = addFl o.ix (some ft) (FL p)) : ∀ k, p + 1 + k ≤ m → (o.ix, ft) ∈ FL (p + 1 + k)
  | 0, _ => by rw [Nat.add_zero, hf]; exact List.mem_cons_self ..
  | k + 1, hk => by
    obtain ⟨o', ft', _, _, h3⟩ := h.step (p + 1 + k) (by omega)
    have ih := h.fl ho hf k (by omega)
    rw [← Nat.add_assoc, h3]
    cases ft' with
    | none => exact ih
    | some f => exact List.mem_cons_of_mem _ ih

/-- What a floating operation looked at, or laid, lies as it lay: as long as nobody of the spine behind it hangs on it. -/
theorem Tr.kept (hf : CallFr call) (h : Tr C call pin l S FL m) {p : Nat} {o : AOp} {ft : List Nat} (ho : l[p]? = some o) (hfl : FL (p + 1) = addFl o.ix (some ft) (FL p)) (hlt : ∀ b, b ∈ ft → b < (S (p + 1)).hp.length) :
    ∀ k, p + 1 + k ≤ m → (∀ i o', p + 1 ≤ i → i < p + 1 + k → l[i]? = some o' → spineK o'.op = true → o'.deps.testBit o.ix = false) → ∀ b, b ∈ ft → (S (p + 1 + k)).hp[b]? = (S (p + 1)).hp[b]?
  | 0, _, _, _, _ => rfl
  | k + 1, hk, hn, b, hb => by
    obtain ⟨o', ft', h1, h2, _⟩ := h.step (p + 1 + k) (by omega)
    rw [← Nat.add_assoc, ← h.kept hf ho hfl hlt k (by omega) (fun i o' h1 h2 => hn i o' h1 (by omega)) b hb]
    have hbl : b < (S (p + 1 + k)).hp.length := Nat.lt_of_lt_of_le (hlt b hb) (h.mono hf k (by omega))
    generalize (S (p + 1 + k + 1)) = st' at h2
    cases h2 with
    | skip => rfl
    | spine _ hs hsp hap =>
      refine (spine_kept hf hsp).2 b hbl ?_
      rcases hap _ (h.fl ho hfl k (by omega)) with h' | h'
      · rw [hn _ _ (by omega) (by omega) h1 hs] at h'; cases h'
      · exact h' b hb
    | float _ _ hfl' =>
      rcases float_hp hfl' with ⟨blk, mk, _, _, rfl, _⟩ | ⟨_, rfl, _⟩
      · exact List.getElem?_append_left hbl
      · rfl

/-- The next of the spine. -/
theorem nextSpine {l : List AOp} {m : Nat} (hm : m ≤ l.length) (hend : m = l.length ∨ ∃ o, l[m]? = some o ∧ spineK o.op = true) : ∀ k p, p + k = m → ∃ q, p ≤ q ∧ q ≤ m ∧ (∀ i o, p ≤ i → i < q → l[i]? = some o → spineK o.op = false) ∧ (q = l.length ∨ ∃ o, l[q]? = some o ∧ spineK o.op = true)
  | 0, p, hp => ⟨p, Nat.le_refl _, by omega, fun i o h1 h2 => by omega, by rw [Nat.add_zero] at hp; rw [hp]; exact hend⟩
  | k + 1, p, hp => by
    have hpl : p < l.length := by omega
    by_cases hs : spineK l[p].op = true
    · exact ⟨p, Nat.le_refl _, by omega, fun i o h1 h2 => by omega, .inr ⟨l[p], List.getElem?_eq_getElem hpl, hs⟩⟩
    · obtain ⟨q, h1, h2, h3, h4⟩ := nextSpine hm hend k (p + 1) (by omega)
      refine ⟨q, by omega, h2, fun i o g1 g2 g3 => ?_, h4⟩
      by_cases hi : i = p
      · subst hi
        rw [List.getElem?_eq_getElem hpl] at g3; cases g3
        simpa using hs
      · exact h3 i o (by omega) g2 g3

/-- From one stage to the next: only new blocks. -/
theorem Tr.float_push {P : Program} {E : Ent} {W : World} {L : Nat → Prop} {μ : Mu} (h : Tr C call pin l S FL m) {p : Nat} : ∀ k, p + k ≤ m → (∀ i o, p ≤ i → i < p + k → l[i]? = some o → spineK o.op = false) → Hp P E (S p).tc W L μ (S p).hp →
    Hp P E (S (p + k)).tc W L μ (S (p + k)).hp
  | 0, _, _, hh => hh
  | k + 1, hk, hn, hh => by
    obtain ⟨o, ft, h1, h2, _⟩ := h.step (p + k) (by omega)
    have ih := h.float_push k (by omega) (fun i o h1 h2 => hn i o h1 (by omega)) hh
    have hs := hn (p + k) o (by omega) (by omega) h1
    rw [← Nat.add_assoc]
    generalize (S (p + k + 1)) = st' at h2
    cases h2 with
    | skip => exact ih
    | spine _ hs' => rw [hs] at hs'; cases hs'
    | float _ _ hfl =>
      rcases float_hp hfl with ⟨blk, mk, _, _, rfl, _⟩ | ⟨_, rfl, _⟩
      · exact ih.push _
      · exact ih
end
end Ev
end Go.Proofs.YtcaejedfjobooaaGreat
