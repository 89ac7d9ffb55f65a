/- What is no longer reached is dropped. -/
import Derived.Test.YtcaejedfjobooaaGreatEvDraw4
namespace Go.Proofs.YtcaejedfjobooaaGreat
open Go Go.RowKit
namespace Ev

theorem reach_acc (H : List AB) : ∀ (n : Nat) (todo acc : List Nat), acc.Nodup → (∃ more, reach H n todo acc = acc ++ more) ∧ (reach H n todo acc).Nodup
  | 0, _, acc, h => ⟨⟨[], by simp [reach]⟩, by simpa [reach] using h⟩
  | n + 1, [], acc, h => ⟨⟨[], by simp [reach]⟩, by simpa [reach] using h⟩
  | n + 1, b :: todo, acc, h => by
    simp only [reach]
    split
    · exact reach_acc H n todo acc h
    · rename_i hb
      have hnb : b ∉ acc := fun hm => hb (by simpa using hm)
      obtain ⟨⟨more, h1⟩, h2⟩ := reach_acc H n (refsB (H.getD b .dead) ++ todo) (acc ++ [b]) (by
        rw [List.nodup_append]
        exact ⟨h, by simp, fun x hx y hy => by simp at hy; subst hy; rintro rfl; exact hnb hx⟩)
      exact ⟨⟨b :: more, by rw [h1]; simp⟩, h2⟩

theorem place_get {r : List Nat} : ∀ {i j : Nat}, place r i = some j → r[j]? = some i := by
  induction r with
  | nil => intro i j h; simp [place] at h
  | cons x l ih =>
    intro i j h
    simp only [place] at h
    split at h
    · rename_i e; cases h; subst e; rfl
    · cases hp : place l i with
      | none => rw [hp] at h; cases h
      | some k =>
        rw [hp] at h; cases h
        simpa using ih hp

theorem place_of {r : List Nat} (hn : r.Nodup) : ∀ {i j : Nat}, r[j]? = some i → place r i = some j := by
  induction r with
  | nil => intro i j h; simp at h
  | cons x l ih =>
    intro i j h
    rw [List.nodup_cons] at hn
    simp only [place]
    cases j with
    | zero => simp at h; subst h; simp
    | succ j =>
      simp at h
      rw [if_neg (by rintro rfl; exact hn.1 (List.mem_of_getElem? h)), ih hn.2 h]; rfl

theorem get_inj {r : List Nat} (hn : r.Nodup) {i j k : Nat} (h1 : r[j]? = some i) (h2 : r[k]? = some i) : j = k := by
  have a := place_of hn h1
  have b := place_of hn h2
  rw [a] at b; exact Option.some.inj b

/-- Where the blocks of a part lie. -/
def muR (r : List Nat) (μ : Mu) : Mu := fun j => match r[j]? with | some i => μ i | none => .no
theorem muR_get {r : List Nat} {μ : Mu} {i j : Nat} (h : r[j]? = some i) : muR r μ j = μ i := by simp [muR, h]
theorem muR_place {r : List Nat} {μ : Mu} (i j : Nat) (h : place r i = some j) : muR r μ j = μ i := muR_get (place_get h)
theorem muR_some {r : List Nat} {μ : Mu} {j : Nat} (h : muR r μ j ≠ .no) : ∃ i, r[j]? = some i ∧ muR r μ j = μ i := by
  unfold muR at h ⊢
  cases hr : r[j]? with
  | none => rw [hr] at h; exact absurd rfl h
  | some i => exact ⟨i, rfl, rfl⟩

theorem restrict_get {H : List AB} {r : List Nat} {j : Nat} : (restrict H r)[j]? = (r[j]?).map fun i => renB (place r) (H.getD i .dead) := by
  unfold restrict; rw [List.getElem?_map]
theorem restrict_len {H : List AB} {r : List Nat} : (restrict H r).length = r.length := by simp [restrict]

section
variable {P : Program} {E : Ent} {W : World} {L : Nat → Prop} {μ μ' : Mu} {C : Cfg} {tc : List Nat} {H : List AB} {tm : List AV} {a : Act}

theorem BR.ren {b : AB} {o : Obj} (h : BR P W L μ b o) (σ : Nat → Option Nat) (hs : ∀ i j, σ i = some j → μ' j = μ i) : BR P W L μ' (renB σ b) o := by
  cases h with
  | cells h1 h2 =>
    refine .cells (by rw [renL_eq, List.length_map]; exact h1) fun i x r hx hr => ?_
    obtain ⟨y, hy, rfl⟩ := renL_get hx
    exact (h2 i y r hy hr).ren σ hs
  | map h1 h2 =>
    refine .map (by rw [renE_eq, List.length_map]; exact h1) fun i k v e hx hr => ?_
    rw [renE_eq, List.getElem?_map] at hx
    cases hy : (_ : List (AV × AV))[i]? with
    | none => rw [hy] at hx; cases hx
    | some y =>
      rw [hy] at hx; cases hx
      obtain ⟨g1, g2⟩ := h2 i y.1 y.2 e hy hr
      exact ⟨g1.ren σ hs, g2.ren σ hs⟩
  | loop h1 h2 h3 h4 h5 h6 h7 =>
    simp only [renB]
    split
    · rename_i d hd
      exact .loop h1 h2 (h3.ren σ hs) h4 h5 h6 (by rw [hs _ _ hd]; exact h7)
    · exact .dead
  | dfr => exact .dfr
  | dead => exact .dead

theorem renB_dead (σ : Nat → Option Nat) : renB σ .dead = .dead := rfl

theorem Sim.part (h : Sim P W L μ H) {r : List Nat} (hn : r.Nodup) : Sim P W L (muR r μ) (restrict H r) where
  live j B hm := by
    obtain ⟨i, h1, h2⟩ := muR_some (by rw [hm]; simp)
    rw [h2] at hm
    obtain ⟨a, b, blk, o, e1, e2, e3⟩ := h.live i B hm
    refine ⟨a, b, renB (place r) blk, o, ?_, e2, e3.ren _ muR_place⟩
    rw [restrict_get, h1]
    simp only [Option.map_some, List.getD_eq_getElem?_getD, e1, Option.getD_some]
  dead j b hd hb := by
    obtain ⟨i, h1, h2⟩ := muR_some (by rw [hd]; simp)
    rw [h2] at hd
    rw [restrict_get, h1] at hb
    simp only [Option.map_some, List.getD_eq_getElem?_getD] at hb
    cases hH : H[i]? with
    | none => rw [hH] at hb; cases hb; rfl
    | some b0 => rw [hH, h.dead i b0 hd hH] at hb; cases hb; rfl
  out j hj := by
    rw [restrict_len] at hj
    unfold muR
    rw [List.getElem?_eq_none hj]
  inj j k B hj hk := by
    obtain ⟨i, h1, h2⟩ := muR_some (by rw [hj]; simp)
    obtain ⟨i', h1', h2'⟩ := muR_some (by rw [hk]; simp)
    rw [h2] at hj; rw [h2'] at hk
    have := h.inj i i' B hj hk
    subst this
    exact get_inj hn h1 h1'
  lt := h.lt

theorem Hp.part (h : Hp P E tc W L μ H) {r : List Nat} (hn : r.Nodup) (hp : ∀ i, i < E.pin → r[i]? = some i) : Hp P E tc W L (muR r μ) (restrict H r) :=
  { h with
    sim := h.sim.part hn
    pins := fun i hi => by rw [muR_get (hp i hi)]; exact h.pins i hi
    own := fun j B hj hm => by
      obtain ⟨i, h1, h2⟩ := muR_some (by rw [hm]; simp)
      rw [h2] at hm
      refine h.own i B ?_ hm
      rcases Nat.lt_or_ge i E.pin with hl | hl
      · have := get_inj hn (hp i hl) h1; omega
      · exact hl
    len := by
      rw [restrict_len]
      rcases Nat.lt_or_ge r.length E.pin with hl | hl
      · have := hp r.length hl
        rw [List.getElem?_eq_none (Nat.le_refl _)] at this; cases this
      · exact hl }

theorem DR.ren {σ : Nat → Option Nat} (hs : ∀ i j, σ i = some j → μ' j = μ i) : ∀ {ds ds' : List ADef} {rs : List Deferred}, DR W L μ ds rs → renDs σ ds = some ds' → DR W L μ' ds' rs
  | _, _, _, .nil, h => by simp [renDs] at h; subst h; exact .nil
  | _, _, _, .cons (d := d) h1 h2, h => by
    simp only [renDs] at h
    split at h <;> cases h
    rename_i d' l' e1 e2
    refine .cons ?_ (h2.ren hs e2)
    cases h1 with
    | call h1 => simp [renD] at e1; subst e1; exact .call (h1.ren σ hs)
    | mark h1 =>
      simp only [renD] at e1
      obtain ⟨j, hj, rfl⟩ := Option.map_eq_some_iff.1 e1
      exact .mark (by rw [hs _ _ hj]; exact h1)

theorem nodup_range (n : Nat) : (List.range n).Nodup := List.nodup_range

theorem gc_sr {st : St} {W : World} (h : SR P C E st a W) : SR P C E (gc E.pin st) a W := by
  obtain ⟨L, μ, h1, h2, h3⟩ := h
  unfold gc
  simp only
  generalize hr1 : reach st.hp fuelR ((List.range E.pin).flatMap fun i => refsB (st.hp.getD i .dead)) (List.range E.pin) = r1
  obtain ⟨⟨m1, e1⟩, n1⟩ := reach_acc st.hp fuelR ((List.range E.pin).flatMap fun i => refsB (st.hp.getD i .dead)) (List.range E.pin) (nodup_range _)
  rw [hr1] at e1 n1
  generalize hr : reach st.hp fuelR (refsL st.tm ++ st.df.flatMap fun | .mark d => [d] | .call _ args => refsL args) r1 = r
  obtain ⟨⟨m2, e2⟩, n2⟩ := reach_acc st.hp fuelR (refsL st.tm ++ st.df.flatMap fun | .mark d => [d] | .call _ args => refsL args) r1 n1
  rw [hr] at e2 n2
  have hpin : ∀ i, i < E.pin → r[i]? = some i := fun i hi => by
    rw [e2, e1, List.append_assoc, List.getElem?_append_left (by simpa using hi)]
    simp [hi]
  split
  · rename_i df hdf
    exact ⟨L, muR r μ, h1.part n2 hpin, ⟨h2.tmps.ren _ muR_place, h2.glob⟩, h3.ren muR_place hdf⟩
  · exact ⟨L, μ, h1, h2, h3⟩

theorem gcC_sr {st : St} {W : World} (h : SR P C E st a W) : SR P C E (gcC C E.pin st) a W := by
  unfold gcC
  cases Nat.ble st.hp.length (E.pin + C.gcAt)
  · exact gc_sr h
  · exact h

theorem keepT_go : ∀ (live : List Nat) (tm acc : List AV), acc.length = tm.length → (∀ t, acc.getD t .unk = .unk ∨ acc.getD t .unk = tm.getD t .unk) →
    (live.foldl (fun acc t => acc.set t (tm.getD t .unk)) acc).length = tm.length ∧ ∀ t, (live.foldl (fun acc t => acc.set t (tm.getD t .unk)) acc).getD t .unk = .unk ∨ (live.foldl (fun acc t => acc.set t (tm.getD t .unk)) acc).getD t .unk = tm.getD t .unk
  | [], tm, acc, h1, h2 => ⟨h1, h2⟩
  | x :: l, tm, acc, h1, h2 => keepT_go l tm (acc.set x (tm.getD x .unk)) (by simpa using h1) fun t => by
    by_cases hx : x = t
    · subst hx
      right
      rw [List.getD_eq_getElem?_getD, List.getElem?_set_self']
      cases hax : acc[x]? with
      | some y => simp
      | none =>
        have : acc.length ≤ x := List.getElem?_eq_none_iff.1 hax
        simp [List.getElem?_eq_none (by omega : tm.length ≤ x)]
    · rw [List.getD_eq_getElem?_getD, List.getElem?_set_ne hx, ← List.getD_eq_getElem?_getD]; exact h2 t
theorem keepT_sr {st : St} {W : World} (live : List Nat) (h : SR P C E st a W) : SR P C E { st with tm := keepT live st.tm } a W := by
  obtain ⟨L, μ, h1, h2, h3⟩ := h
  obtain ⟨k1, k2⟩ := keepT_go live st.tm (List.replicate st.tm.length .unk) (by simp) fun t => .inl (by
    rw [List.getD_eq_getElem?_getD, List.getElem?_replicate]; split <;> rfl)
  exact ⟨L, μ, h1, ⟨h2.tmps.weaken k1 k2, h2.glob⟩, h3⟩
end
end Ev
end Go.Proofs.YtcaejedfjobooaaGreat
