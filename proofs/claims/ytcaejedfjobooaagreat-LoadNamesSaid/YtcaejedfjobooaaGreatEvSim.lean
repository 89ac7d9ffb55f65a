/- Heaps of the evaluator and worlds of the model; renaming. -/
import Derived.Test.YtcaejedfjobooaaGreatEvRel
namespace Go.Proofs.YtcaejedfjobooaaGreat
open Go
namespace Ev

theorem renL_eq (σ : Nat → Option Nat) (l : List AV) : renL σ l = l.map (ren σ) := by
  induction l with
  | nil => simp [renL]
  | cons a l ih => simp [renL, ih]
theorem renE_eq (σ : Nat → Option Nat) (l : List (AV × AV)) : renE σ l = l.map fun p => (ren σ p.1, ren σ p.2) := by
  induction l with
  | nil => simp [renE]
  | cons a l ih => simp [renE, ih]

theorem renL_get {σ : Nat → Option Nat} {l : List AV} {i : Nat} {x : AV} (h : (renL σ l)[i]? = some x) : ∃ y, l[i]? = some y ∧ x = ren σ y := by
  rw [renL_eq, List.getElem?_map] at h
  cases hy : l[i]? with
  | none => simp [hy] at h
  | some y => simp [hy] at h; exact ⟨y, rfl, h.symm⟩

theorem VR.ren {W : World} {L : Nat → Prop} {μ : Mu} {v : AV} {x : Value} (h : VR W L μ v x) (σ : Nat → Option Nat) :
    ∀ {μ' : Mu}, (∀ i j, σ i = some j → μ' j = μ i) → VR W L μ' (ren σ v) x := by
  induction h with
  | unk => intro μ' _; exact .unk
  | @dead μ v x b hr hd ho =>
    intro μ' hs
    cases v <;> simp [headRef] at hr <;> subst hr <;> simp only [Ev.ren] <;> split <;> first | exact .unk | exact .dead rfl ((hs _ _ (by assumption)).trans hd) ho
  | bool => intro μ' _; exact .bool
  | int => intro μ' _; exact .int
  | nilp => intro μ' _; exact .nilp
  | ptr hb => intro μ' hs; simp only [Ev.ren]; split <;> first | exact .ptr ((hs _ _ (by assumption)).trans hb) | exact .unk
  | rp rs hc hv => intro μ' _; exact .rp rs hc hv
  | nils => intro μ' _; exact .nils
  | sl hb hn hw hsz => intro μ' hs; simp only [Ev.ren]; split <;> first | exact .sl ((hs _ _ (by assumption)).trans hb) hn hw hsz | exact .unk
  | vs rs hn hk hc hv => intro μ' _; exact .vs rs hn hk hc hv
  | vs0 => intro μ' _; exact .vs0
  | nilmap => intro μ' _; exact .nilmap
  | map hb => intro μ' hs; simp only [Ev.ren]; split <;> first | exact .map ((hs _ _ (by assumption)).trans hb) | exact .unk
  | nilfn => intro μ' _; exact .nilfn
  | fn hf h1 h2 h3 h4 ih1 ih2 =>
    intro μ' hs
    simp only [Ev.ren]
    refine .fn hf (by rw [renL_eq, List.length_map]; exact h1) (fun i x r hx hr => ?_) (by rw [renL_eq, List.length_map]; exact h3) (fun i x r hx hr => ?_)
    · obtain ⟨y, hy, rfl⟩ := renL_get hx; exact ih1 i y r hy hr hs
    · obtain ⟨y, hy, rfl⟩ := renL_get hx; exact ih2 i y r hy hr hs
  | yield hb => intro μ' hs; simp only [Ev.ren]; split <;> first | exact .yield ((hs _ _ (by assumption)).trans hb) | exact .unk
  | nilif => intro μ' _; exact .nilif
  | iface _ ih => intro μ' hs; simp only [Ev.ren]; exact .iface (ih hs)
  | agg h1 h2 ih =>
    intro μ' hs
    simp only [Ev.ren]
    refine .agg (by rw [renL_eq, List.length_map]; exact h1) (fun i x r hx hr => ?_)
    obtain ⟨y, hy, rfl⟩ := renL_get hx; exact ih i y r hy hr hs
  | tup h1 h2 ih =>
    intro μ' hs
    simp only [Ev.ren]
    refine .tup (by rw [renL_eq, List.length_map]; exact h1) (fun i x r hx hr => ?_)
    obtain ⟨y, hy, rfl⟩ := renL_get hx; exact ih i y r hy hr hs

theorem VL.ren {W : World} {L : Nat → Prop} {μ μ' : Mu} {as : List AV} {rs : List Value} (h : VL W L μ as rs) (σ : Nat → Option Nat) (hs : ∀ i j, σ i = some j → μ' j = μ i) : VL W L μ' (renL σ as) rs :=
  ⟨by rw [renL_eq, List.length_map]; exact h.1, fun i x r hx hr => by obtain ⟨y, hy, rfl⟩ := renL_get hx; exact (h.2 i y r hy hr).ren σ hs⟩
theorem VL.mono {W W' : World} {L L' : Nat → Prop} {μ μ' : Mu} {as : List AV} {rs : List Value} (h : VL W L μ as rs) (hl : Later L L' W W') (he : Ext μ μ') : VL W' L' μ' as rs :=
  ⟨h.1, fun i x r hx hr => (h.2 i x r hx hr).mono hl he⟩
theorem VL.nil {W : World} {L : Nat → Prop} {μ : Mu} : VL W L μ [] [] := ⟨rfl, fun i x r h => by simp at h⟩
theorem VL.cons {W : World} {L : Nat → Prop} {μ : Mu} {a : AV} {as : List AV} {r : Value} {rs : List Value} (h : VR W L μ a r) (hs : VL W L μ as rs) : VL W L μ (a :: as) (r :: rs) :=
  ⟨by simp [hs.1], fun i x r' hx hr => by
    cases i with
    | zero => simp at hx hr; subst hx hr; exact h
    | succ i => simp at hx hr; exact hs.2 i x r' hx hr⟩
theorem VL.head {W : World} {L : Nat → Prop} {μ : Mu} {a : AV} {as : List AV} {r : Value} {rs : List Value} (h : VL W L μ (a :: as) (r :: rs)) : VR W L μ a r := h.2 0 a r rfl rfl
theorem VL.tail {W : World} {L : Nat → Prop} {μ : Mu} {a : AV} {as : List AV} {r : Value} {rs : List Value} (h : VL W L μ (a :: as) (r :: rs)) : VL W L μ as rs :=
  ⟨by have := h.1; simpa using this, fun i x r' hx hr => h.2 (i + 1) x r' (by simpa using hx) (by simpa using hr)⟩
theorem VL.append {W : World} {L : Nat → Prop} {μ : Mu} {as bs : List AV} {rs ss : List Value} (h : VL W L μ as rs) (k : VL W L μ bs ss) : VL W L μ (as ++ bs) (rs ++ ss) := by
  induction as generalizing rs with
  | nil => cases rs with
    | nil => simpa using k
    | cons r rs => have := h.1; simp at this
  | cons a as ih => cases rs with
    | nil => have := h.1; simp at this
    | cons r rs => exact VL.cons h.head (ih h.tail)
theorem VL.get {W : World} {L : Nat → Prop} {μ : Mu} {as : List AV} {rs : List Value} (h : VL W L μ as rs) {i : Nat} {x : AV} (hx : as[i]? = some x) : ∃ r, rs[i]? = some r ∧ VR W L μ x r := by
  have hi : i < as.length := (List.getElem?_eq_some_iff.1 hx).1
  rw [h.1] at hi
  exact ⟨rs[i], List.getElem?_eq_getElem hi, h.2 i x _ hx (List.getElem?_eq_getElem hi)⟩
theorem VL.drop {W : World} {L : Nat → Prop} {μ : Mu} {as : List AV} {rs : List Value} (h : VL W L μ as rs) (n : Nat) : VL W L μ (as.drop n) (rs.drop n) :=
  ⟨by simp [h.1], fun i x r hx hr => h.2 (n + i) x r (by simpa using hx) (by simpa using hr)⟩
theorem VL.take {W : World} {L : Nat → Prop} {μ : Mu} {as : List AV} {rs : List Value} (h : VL W L μ as rs) (n : Nat) : VL W L μ (as.take n) (rs.take n) :=
  ⟨by simp [h.1], fun i x r hx hr => by
    by_cases hi : i < n
    · rw [List.getElem?_take_of_lt hi] at hx hr; exact h.2 i x r hx hr
    · rw [List.getElem?_take_eq_none (by omega)] at hx; cases hx⟩
theorem VL.set {W : World} {L : Nat → Prop} {μ : Mu} {as : List AV} {rs : List Value} (h : VL W L μ as rs) (n : Nat) {a : AV} {r : Value} (hv : VR W L μ a r) : VL W L μ (as.set n a) (rs.set n r) :=
  ⟨by simp [h.1], fun i x r' hx hr => by
    by_cases hi : n = i
    · subst hi
      rw [List.getElem?_set_self'] at hx hr
      cases ha : as[n]? with
      | none => simp [ha] at hx
      | some y =>
        obtain ⟨q, hq, _⟩ := h.get ha
        simp [ha] at hx; simp [hq] at hr; subst hx hr; exact hv
    · rw [List.getElem?_set_ne hi] at hx hr; exact h.2 i x r' hx hr⟩
theorem VL.replicate {W : World} {L : Nat → Prop} {μ : Mu} (n : Nat) {a : AV} {r : Value} (hv : VR W L μ a r) : VL W L μ (List.replicate n a) (List.replicate n r) :=
  ⟨by simp, fun i x r' hx hr => by
    rw [List.getElem?_replicate] at hx hr
    split at hx <;> simp at hx hr
    obtain ⟨_, hr⟩ := hr
    subst hx hr; exact hv⟩

/-- States of a loop over a function. -/
def LS : LSt → LoopState → Prop
  | .ready, .ready | .busy, .busy | .done, .done | .exhausted, .exhausted => True
  | _, _ => False
/-- What is to be done behind it. -/
def PE : Option AExit → Option Code → Prop
  | none, none => True
  | some (.exit i), some (.exit j) => i = j
  | some .ret, some .ret => True
  | _, _ => False

inductive BR (P : Program) (W : World) (L : Nat → Prop) (μ : Mu) : AB → Obj → Prop
  | cells {cs : List AV} {rs : Array Value} {t : TypeId} : cs.length ≤ rs.size → (∀ (i : Nat) (x : AV) (r : Value), cs[i]? = some x → rs[i]? = some r → VR W L μ x r) → BR P W L μ (.cells cs) (.cells rs t (0, 0))
  | map {es : List (AV × AV)} {res : Array MapEntry} {clk : Nat} : es.length = res.size → (∀ (i : Nat) (k v : AV) (e : MapEntry), es[i]? = some (k, v) → res[i]? = some e → VR W L μ k e.key ∧ VR W L μ v e.val) → BR P W L μ (.map es) (.map res clk)
  | loop {r : ALoop} {R : Loop} : LS r.st R.state → PE r.pend R.pending → VL W L μ r.tm R.tmps.toList → R.params.toList = r.params → compCode P R.assign = some (strip r.assign) → compCode P R.body = some (strip r.body) →
      (μ r.dfr = .at R.defers ∨ μ r.dfr = .dead) → BR P W L μ (.loop r) (.loop R)
  | dfr : BR P W L μ .dfr (.deferred (some []))
  | dead {o : Obj} : BR P W L μ .dead o

theorem Ext.atd {μ μ' : Mu} (he : Ext μ μ') {b B : Nat} (h : μ b = .at B ∨ μ b = .dead) : μ' b = .at B ∨ μ' b = .dead := by
  rcases h with h | h
  · rcases he b (by rw [h]; simp) with e | e
    · exact .inl (e.trans h)
    · exact .inr e
  · rcases he b (by rw [h]; simp) with e | e
    · exact .inr (e.trans h)
    · exact .inr e
theorem BR.mono {P : Program} {W W' : World} {L L' : Nat → Prop} {μ μ' : Mu} {b : AB} {o : Obj} (h : BR P W L μ b o) (hl : Later L L' W W') (he : Ext μ μ') : BR P W' L' μ' b o := by
  cases h with
  | cells h1 h2 => exact .cells h1 fun i x r a b => (h2 i x r a b).mono hl he
  | map h1 h2 => exact .map h1 fun i k v e a b => ⟨(h2 i k v e a b).1.mono hl he, (h2 i k v e a b).2.mono hl he⟩
  | loop h1 h2 h3 h4 h5 h6 h7 => exact .loop h1 h2 (h3.mono hl he) h4 h5 h6 (he.atd h7)
  | dfr => exact .dfr
  | dead => exact .dead

structure Sim (P : Program) (W : World) (L : Nat → Prop) (μ : Mu) (H : List AB) : Prop where
  live : ∀ i B, μ i = .at B → L B ∧ B < W.heap.size ∧ ∃ b o, H[i]? = some b ∧ W.heap[B]? = some o ∧ BR P W L μ b o
  dead : ∀ i b, μ i = .dead → H[i]? = some b → b = .dead
  out : ∀ i, H.length ≤ i → μ i = .no
  inj : ∀ i j B, μ i = .at B → μ j = .at B → i = j
  lt : ∀ b, L b → b < W.heap.size
end Ev
end Go.Proofs.YtcaejedfjobooaaGreat
