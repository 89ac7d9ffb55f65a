/- From a call's heap back to its caller's. -/
import Derived.Test.YtcaejedfjobooaaGreatEvFin
namespace Go.Proofs.YtcaejedfjobooaaGreat
open Go Go.RowKit
namespace Ev

def backM (N : Nat) (r : List Nat) (μ μ' : Mu) : Mu := fun i => if i < N then (match place r i with | some j => μ' j | none => μ i) else μ' (r.length + (i - N))

theorem place_none {r : List Nat} {i : Nat} (h : i ∉ r) : place r i = none := by
  cases hp : place r i with
  | none => rfl
  | some j => exact absurd (List.mem_of_getElem? (place_get hp)) h

section
variable {N : Nat} {r : List Nat} {μ μ' : Mu}
theorem backM_in (hn : r.Nodup) {i j : Nat} (h : r[j]? = some i) (hi : i < N) : backM N r μ μ' i = μ' j := by
  unfold backM; rw [if_pos hi, place_of hn h]
theorem backM_out {i : Nat} (h : i ∉ r) (hi : i < N) : backM N r μ μ' i = μ i := by
  unfold backM; rw [if_pos hi, place_none h]
theorem backM_new {i : Nat} (hi : N ≤ i) : backM N r μ μ' i = μ' (r.length + (i - N)) := by
  unfold backM; rw [if_neg (by omega)]
theorem backM_back (hn : r.Nodup) (hr : ∀ i, i ∈ r → i < N) : ∀ j j', backN N r j = some j' → backM N r μ μ' j' = μ' j := by
  intro j j' h
  unfold backN at h
  cases hj : r[j]? with
  | some i =>
    rw [hj] at h; cases h
    exact backM_in hn hj (hr _ (List.mem_of_getElem? hj))
  | none =>
    rw [hj] at h; cases h
    have : r.length ≤ j := List.getElem?_eq_none_iff.1 hj
    rw [backM_new (by omega)]
    congr 1; omega
end

theorem backH_len (H : List AB) (r : List Nat) (hp : List AB) : ∀ tc, (backH H r hp tc).length = H.length
  | [] => rfl
  | j :: tc => by simp [backH, backH_len H r hp tc]

theorem backH_out {H : List AB} {r : List Nat} {hp : List AB} {i : Nat} (hi : i < H.length) : ∀ {tc : List Nat}, (∀ j, j ∈ tc → r[j]? ≠ some i) → (backH H r hp tc)[i]? = H[i]?
  | [], _ => rfl
  | j :: tc, h => by
    simp only [backH]
    have : r.getD j H.length ≠ i := by
      rw [List.getD_eq_getElem?_getD]
      have := h j (List.mem_cons_self ..)
      cases hj : r[j]? with
      | none => simp; omega
      | some k => rw [hj] at this; simpa using this
    rw [List.getElem?_set_ne this]
    exact backH_out hi fun k hk => h k (List.mem_cons_of_mem _ hk)

theorem backH_in {H : List AB} {r : List Nat} {hp : List AB} {i j : Nat} (hn : r.Nodup) (hi : i < H.length) (hj : r[j]? = some i) : ∀ {tc : List Nat}, j ∈ tc → (backH H r hp tc)[i]? = some (renB (backN H.length r) (hp.getD j .dead))
  | k :: tc, h => by
    simp only [backH]
    by_cases hk : k = j
    · subst hk
      rw [List.getD_eq_getElem?_getD, hj, Option.getD_some, List.getElem?_set_self (by rw [backH_len]; exact hi)]
    · have hm : j ∈ tc := by
        rcases List.mem_cons.1 h with h | h
        · exact absurd h.symm hk
        · exact h
      have : r.getD k H.length ≠ i := by
        rw [List.getD_eq_getElem?_getD]
        cases hj' : r[k]? with
        | none => simp; omega
        | some m =>
          simp only [Option.getD_some]
          rintro rfl
          exact hk (get_inj hn hj' hj)
      rw [List.getElem?_set_ne this]
      exact backH_in hn hi hj hm

section
variable {P : Program} {E : Ent} {W W' : World} {L L' : Nat → Prop} {μ μ' : Mu} {tc tc0 : List Nat} {H hp : List AB} {r : List Nat}

/-- A call begins. -/
theorem Hp.start (h : Sim P W L μ H) : Hp P ⟨W, L, μ, H.length⟩ [] W L μ H where
  sim := h
  pins i _ := .inl rfl
  own j B hj hm := by rw [h.out j hj] at hm; cases hm
  same _ _ _ := rfl
  size := Nat.le_refl _
  shape b rs t f e := ⟨rs, e, rfl⟩
  keep _ h := h
  new _ h := .inl h
  env := ⟨rfl, rfl, rfl⟩
  len := Nat.le_refl _

theorem muR_range (h : Sim P W L μ H) : muR (List.range H.length) μ = μ := by
  funext i
  unfold muR
  by_cases hi : i < H.length
  · simp [hi]
  · rw [List.getElem?_eq_none (by simp; omega)]
    exact (h.out i (by omega)).symm

/-! A heap seen whole: nothing is numbered anew. -/
mutual
theorem ren_some : ∀ v : AV, ren some v = v
  | .ptr b off => rfl
  | .sl b off n k => rfl
  | .map b => rfl
  | .yield b => rfl
  | .fn f a b => by simp only [ren, renL_some a, renL_some b]
  | .iface t v => by simp only [ren, ren_some v]
  | .agg cs => by simp only [ren, renL_some cs]
  | .tup cs => by simp only [ren, renL_some cs]
  | .unk | .bool _ | .int _ _ | .nilp | .rp _ | .nils | .vs _ _ | .nilmap | .nilfn | .nilif => rfl
theorem renL_some : ∀ l : List AV, renL some l = l
  | [] => rfl
  | v :: l => by simp only [renL, ren_some v, renL_some l]
end
theorem renE_some : ∀ l : List (AV × AV), renE some l = l
  | [] => rfl
  | (k, v) :: l => by simp only [renE, ren_some, renE_some l]
theorem renB_some (b : AB) : renB some b = b := by
  cases b <;> simp [renB, renL_some, renE_some]
theorem backN_range (N : Nat) : backN N (List.range N) = some := by
  funext j
  unfold backN
  by_cases hj : j < N
  · simp [hj]
  · rw [List.getElem?_eq_none (by simp; omega)]; simp; omega
theorem backH_range (H hp : List AB) : ∀ tc, backH H (List.range H.length) hp tc = overH H hp tc
  | [] => rfl
  | j :: tc => by
    simp only [backH, overH, backH_range H hp tc, backN_range, renB_some]
    rw [List.getD_eq_getElem?_getD]
    by_cases hj : j < H.length
    · simp [hj]
    · rw [List.getElem?_eq_none (by simp; omega)]
      have hl : (overH H hp tc).length = H.length := by rw [← backH_range H hp tc, backH_len]
      simp only [Option.getD_none]
      rw [List.set_eq_of_length_le (by omega), List.set_eq_of_length_le (by omega)]
theorem overH_len (H hp : List AB) (tc : List Nat) : (overH H hp tc).length = H.length := by rw [← backH_range, backH_len]

theorem back_ok (h : Hp P E tc0 W L μ H) (hn : r.Nodup) (hr : ∀ i, i ∈ r → i < H.length) (h' : Hp P ⟨W, L, muR r μ, r.length⟩ tc W' L' μ' hp) :
    Hp P E ((tc.map fun j => r.getD j H.length).filter (· < E.pin) ++ tc0) W' L' (backM H.length r μ μ') (backH H r hp tc ++ (hp.drop r.length).map (renB (backN H.length r))) ∧
    Later L L' W W' ∧ Ext μ (backM H.length r μ μ') ∧ (∀ b, L b → L' b) ∧ Stays H.length μ (backM H.length r μ μ') := by
  have hrj : ∀ {j i}, r[j]? = some i → i < H.length := fun hj => hr _ (List.mem_of_getElem? hj)
  have pins' : ∀ {j i}, r[j]? = some i → μ' j = μ i ∨ (μ' j = .dead ∧ j ∈ tc ∧ μ i ≠ .no) := fun {j i} hj => by
    have := h'.pins j (List.getElem?_eq_some_iff.1 hj).1
    simp only [muR_get hj] at this
    exact this
  have own' : ∀ j B, r.length ≤ j → μ' j = .at B → W.heap.size ≤ B ∨ ∃ i0 i, i0 ∈ tc ∧ r[i0]? = some i ∧ μ i = .at B := fun j B hj hm => by
    rcases h'.own j B hj hm with h1 | ⟨i0, h1, h2⟩
    · exact .inl h1
    · obtain ⟨i, h3, h4⟩ := muR_some (r := r) (μ := μ) (j := i0) (by simp only at h2; rw [h2]; simp)
      exact .inr ⟨i0, i, h1, h3, h4 ▸ h2⟩
  have same' : ∀ b, b < W.heap.size → (∀ i0 i, i0 ∈ tc → r[i0]? = some i → μ i ≠ .at b) → W'.heap[b]? = W.heap[b]? := fun b hb hk => h'.same b hb fun i0 hi0 he => by
    simp only at he
    obtain ⟨i, h3, h4⟩ := muR_some (r := r) (μ := μ) (j := i0) (by rw [he]; simp)
    exact hk i0 i hi0 h3 (h4 ▸ he)
  have hlater : Later L L' W W' := ⟨h'.size, fun b hb hl => same' b hb fun i0 i _ h3 he => hl (h.sim.live i b he).1, h'.shape, h'.new⟩
  have cases' : ∀ i, i < H.length → (∃ j, r[j]? = some i ∧ backM H.length r μ μ' i = μ' j) ∨ (i ∉ r ∧ backM H.length r μ μ' i = μ i) := fun i hi => by
    by_cases hm : i ∈ r
    · obtain ⟨j, hj⟩ := List.getElem?_of_mem hm
      exact .inl ⟨j, hj, backM_in hn hj hi⟩
    · exact .inr ⟨hm, backM_out hm hi⟩
  have hext : Ext μ (backM H.length r μ μ') := fun i hi => by
    have hlt : i < H.length := by
      rcases Nat.lt_or_ge i H.length with h1 | h1
      · exact h1
      · exact absurd (h.sim.out i h1) hi
    rcases cases' i hlt with ⟨j, hj, e⟩ | ⟨_, e⟩
    · rw [e]
      rcases pins' hj with h1 | ⟨h1, _⟩
      · exact .inl h1
      · exact .inr h1
    · exact .inl e
  have hstay : Stays H.length μ (backM H.length r μ μ') := fun i hi hno => by
    rcases cases' i hi with ⟨j, hj, e⟩ | ⟨_, e⟩
    · rw [e]
      rcases pins' hj with h1 | ⟨_, _, h1⟩
      · rw [h1]; exact hno
      · exact absurd hno h1
    · rw [e]; exact hno
  have hK := backM_back (N := H.length) (μ := μ) (μ' := μ') hn hr
  have htc : ∀ {j i}, j ∈ tc → r[j]? = some i → i ∈ tc.map fun j => r.getD j H.length := fun {j i} hj hi => List.mem_map.2 ⟨j, hj, by rw [List.getD_eq_getElem?_getD, hi]; rfl⟩
  have hrlen : r.length ≤ hp.length := h'.len
  have hget1 : ∀ i, i < H.length → (backH H r hp tc ++ (hp.drop r.length).map (renB (backN H.length r)))[i]? = (backH H r hp tc)[i]? := fun i hi => List.getElem?_append_left (by rw [backH_len]; exact hi)
  have hget2 : ∀ i, H.length ≤ i → (backH H r hp tc ++ (hp.drop r.length).map (renB (backN H.length r)))[i]? = (hp[r.length + (i - H.length)]?).map (renB (backN H.length r)) := fun i hi => by
    rw [List.getElem?_append_right (by rw [backH_len]; exact hi), backH_len, List.getElem?_map, List.getElem?_drop]
  -- where a block lies that a call did not turn
  have hold : ∀ {i B}, i < H.length → μ i = .at B → (∀ j, j ∈ tc → r[j]? ≠ some i) → L' B ∧ B < W'.heap.size ∧ ∃ b o, H[i]? = some b ∧ W'.heap[B]? = some o ∧ BR P W' L' (backM H.length r μ μ') b o := fun {i B} hi hm hj => by
    obtain ⟨g1, g2, blk, o, g3, g4, g5⟩ := h.sim.live i B hm
    refine ⟨h'.keep B g1, Nat.lt_of_lt_of_le g2 h'.size, blk, o, g3, ?_, g5.mono hlater hext⟩
    rw [same' B g2 ?_]
    · exact g4
    · intro i0 i1 h1 h2 h3
      have := h.sim.inj i i1 B hm h3
      subst this
      exact hj i0 h1 h2
  refine ⟨⟨⟨?_, ?_, ?_, ?_, h'.sim.lt⟩, ?_, ?_, ?_, ?_, ?_, ?_, ?_, ?_, ?_⟩, hlater, hext, h'.keep, hstay⟩
  · intro i B hm
    by_cases hi : i < H.length
    · rw [hget1 i hi]
      rcases cases' i hi with ⟨j, hj, e⟩ | ⟨hnr, e⟩
      · rw [e] at hm
        by_cases hjt : j ∈ tc
        · obtain ⟨g1, g2, blk, o, g3, g4, g5⟩ := h'.sim.live j B hm
          refine ⟨g1, g2, renB (backN H.length r) blk, o, ?_, g4, g5.ren _ hK⟩
          rw [backH_in hn hi hj hjt, List.getD_eq_getElem?_getD, g3]; rfl
        · have hmi : μ i = .at B := by
            rcases pins' hj with h1 | ⟨_, h1, _⟩
            · rw [← h1]; exact hm
            · exact absurd h1 hjt
          have hne : ∀ k, k ∈ tc → r[k]? ≠ some i := fun k hk he => hjt (get_inj hn he hj ▸ hk)
          rw [backH_out hi hne]
          exact hold hi hmi hne
      · rw [e] at hm
        have hne : ∀ k, k ∈ tc → r[k]? ≠ some i := fun k _ he => hnr (List.mem_of_getElem? he)
        rw [backH_out hi hne]
        exact hold hi hm hne
    · have hi' : H.length ≤ i := by omega
      rw [backM_new hi'] at hm
      obtain ⟨g1, g2, blk, o, g3, g4, g5⟩ := h'.sim.live _ B hm
      exact ⟨g1, g2, renB (backN H.length r) blk, o, by rw [hget2 i hi', g3]; rfl, g4, g5.ren _ hK⟩
  · intro i b hd hb
    by_cases hi : i < H.length
    · rw [hget1 i hi] at hb
      rcases cases' i hi with ⟨j, hj, e⟩ | ⟨hnr, e⟩
      · rw [e] at hd
        by_cases hjt : j ∈ tc
        · rw [backH_in hn hi hj hjt] at hb
          cases hb
          rw [List.getD_eq_getElem?_getD]
          cases hx : hp[j]? with
          | none => rfl
          | some b0 => rw [h'.sim.dead j b0 hd hx]; rfl
        · have hmi : μ i = .dead := by
            rcases pins' hj with h1 | ⟨_, h1, _⟩
            · rw [← h1]; exact hd
            · exact absurd h1 hjt
          rw [backH_out hi fun k hk he => hjt (get_inj hn he hj ▸ hk)] at hb
          exact h.sim.dead i b hmi hb
      · rw [e] at hd
        rw [backH_out hi fun k _ he => hnr (List.mem_of_getElem? he)] at hb
        exact h.sim.dead i b hd hb
    · have hi' : H.length ≤ i := by omega
      rw [backM_new hi'] at hd
      rw [hget2 i hi'] at hb
      obtain ⟨b0, h1, rfl⟩ := Option.map_eq_some_iff.1 hb
      rw [h'.sim.dead _ b0 hd h1]; rfl
  · intro i hi
    simp only [List.length_append, backH_len, List.length_map, List.length_drop] at hi
    rw [backM_new (by omega)]
    exact h'.sim.out _ (by omega)
  · -- no two in one place
    have hmix : ∀ i B, i < H.length → i ∉ r → μ i = .at B → ∀ j, μ' j = .at B → (∀ i1, r[j]? = some i1 → i1 ≠ i) → False := fun i B hi hnr hm j hj hne => by
      have hlt := (h.sim.live i B hm).2.1
      rcases Nat.lt_or_ge j r.length with hl | hl
      · obtain ⟨i1, h1⟩ : ∃ i1, r[j]? = some i1 := ⟨_, List.getElem?_eq_getElem hl⟩
        rcases pins' h1 with e | ⟨e, _⟩
        · have := h.sim.inj i1 i B (e.symm.trans hj) hm
          exact hne i1 h1 this
        · rw [e] at hj; cases hj
      · rcases own' j B hl hj with h1 | ⟨i0, i1, _, h2, h3⟩
        · omega
        · have := h.sim.inj i1 i B h3 hm
          subst this
          exact hnr (List.mem_of_getElem? h2)
    intro i k B hi hk
    have hsplit : ∀ x, backM H.length r μ μ' x = .at B → (x < H.length ∧ x ∉ r ∧ μ x = .at B) ∨ ∃ j, μ' j = .at B ∧ ((r[j]? = some x ∧ x < H.length) ∨ (H.length ≤ x ∧ j = r.length + (x - H.length))) := fun x hx => by
      by_cases hxl : x < H.length
      · rcases cases' x hxl with ⟨j, hj, e⟩ | ⟨hnr, e⟩
        · exact .inr ⟨j, e ▸ hx, .inl ⟨hj, hxl⟩⟩
        · exact .inl ⟨hxl, hnr, e ▸ hx⟩
      · exact .inr ⟨_, by rw [← backM_new (N := H.length) (r := r) (μ := μ) (μ' := μ') (i := x) (by omega)]; exact hx, .inr ⟨by omega, rfl⟩⟩
    have hrne : ∀ {x y j}, x ∉ r → ((r[j]? = some y ∧ y < H.length) ∨ (H.length ≤ y ∧ j = r.length + (y - H.length))) → ∀ i1, r[j]? = some i1 → i1 ≠ x := fun hx _ i1 h1 he => hx (he ▸ List.mem_of_getElem? h1)
    rcases hsplit i hi with ⟨a1, a2, a3⟩ | ⟨j, a1, a2⟩ <;> rcases hsplit k hk with ⟨b1, b2, b3⟩ | ⟨j', b1, b2⟩
    · exact h.sim.inj i k B a3 b3
    · exact (hmix i B a1 a2 a3 j' b1 (hrne a2 b2)).elim
    · exact (hmix k B b1 b2 b3 j a1 (hrne b2 a2)).elim
    · have hjj := h'.sim.inj j j' B a1 b1
      subst hjj
      rcases a2 with ⟨a2, _⟩ | ⟨a2, a3⟩ <;> rcases b2 with ⟨b2, _⟩ | ⟨b2, b3⟩
      · rw [a2] at b2; exact Option.some.inj b2
      · have := (List.getElem?_eq_some_iff.1 a2).1; omega
      · have := (List.getElem?_eq_some_iff.1 b2).1; omega
      · omega
  · intro i hi
    have hlt : i < H.length := Nat.lt_of_lt_of_le hi h.len
    have hold' : μ i = E.μ i ∨ (μ i = .dead ∧ i ∈ (tc.map fun j => r.getD j H.length).filter (· < E.pin) ++ tc0 ∧ E.μ i ≠ .no) := (h.pins i hi).imp id fun ⟨a, b, c⟩ => ⟨a, List.mem_append_right _ b, c⟩
    rcases cases' i hlt with ⟨j, hj, e⟩ | ⟨hnr, e⟩
    · rw [e]
      rcases pins' hj with h1 | ⟨h1, h2, h3⟩
      · rw [h1]; exact hold'
      · refine .inr ⟨h1, List.mem_append_left _ (List.mem_filter.2 ⟨htc h2 hj, by simpa using hi⟩), ?_⟩
        rcases h.pins i hi with e | ⟨_, _, e⟩
        · rw [← e]; exact h3
        · exact e
    · rw [e]; exact hold'
  · intro i B hi hm
    have hmore : ∀ {i0 i1}, i0 ∈ tc → r[i0]? = some i1 → μ i1 = .at B → E.W.heap.size ≤ B ∨ ∃ i, i ∈ (tc.map fun j => r.getD j H.length).filter (· < E.pin) ++ tc0 ∧ E.μ i = .at B := fun {i0 i1} h1 h2 h3 => by
      by_cases hp : i1 < E.pin
      · rcases h.pins i1 hp with e | ⟨e, _⟩
        · exact .inr ⟨i1, List.mem_append_left _ (List.mem_filter.2 ⟨htc h1 h2, by simpa using hp⟩), e ▸ h3⟩
        · rw [e] at h3; cases h3
      · rcases h.own i1 B (by omega) h3 with e | ⟨k, e1, e2⟩
        · exact .inl e
        · exact .inr ⟨k, List.mem_append_right _ e1, e2⟩
    have hold' : μ i = .at B → E.W.heap.size ≤ B ∨ ∃ i, i ∈ (tc.map fun j => r.getD j H.length).filter (· < E.pin) ++ tc0 ∧ E.μ i = .at B := fun hm => (h.own i B hi hm).imp id fun ⟨k, e1, e2⟩ => ⟨k, List.mem_append_right _ e1, e2⟩
    by_cases hlt : i < H.length
    · rcases cases' i hlt with ⟨j, hj, e⟩ | ⟨hnr, e⟩
      · rw [e] at hm
        rcases pins' hj with h1 | ⟨h1, _⟩
        · exact hold' (h1 ▸ hm)
        · rw [h1] at hm; cases hm
      · exact hold' (e ▸ hm)
    · rw [backM_new (by omega)] at hm
      rcases own' _ B (by omega) hm with h1 | ⟨i0, i1, h1, h2, h3⟩
      · exact .inl (Nat.le_trans h.size h1)
      · exact hmore h1 h2 h3
  · intro b hb hk
    have hW : W.heap[b]? = E.W.heap[b]? := h.same b hb fun i hi => hk i (List.mem_append_right _ hi)
    rw [← hW]
    refine same' b (Nat.lt_of_lt_of_le hb h.size) fun i0 i h1 h2 h3 => ?_
    by_cases hp : i < E.pin
    · rcases h.pins i hp with e | ⟨e, _⟩
      · exact hk i (List.mem_append_left _ (List.mem_filter.2 ⟨htc h1 h2, by simpa using hp⟩)) (e ▸ h3)
      · rw [e] at h3; cases h3
    · rcases h.own i b (by omega) h3 with e | ⟨k, e1, e2⟩
      · omega
      · exact hk k (List.mem_append_right _ e1) e2
  · exact Nat.le_trans h.size h'.size
  · intro b rs t f e
    obtain ⟨rs1, e1, s1⟩ := h.shape b rs t f e
    obtain ⟨rs2, e2, s2⟩ := h'.shape b rs1 t f e1
    exact ⟨rs2, e2, s2.trans s1⟩
  · exact fun b hb => h'.keep b (h.keep b hb)
  · intro b hb
    rcases h'.new b hb with h1 | h1
    · exact h.new b h1
    · exact .inr (Nat.le_trans h.size h1)
  · exact ⟨h'.env.1.trans h.env.1, h'.env.2.1.trans h.env.2.1, h'.env.2.2.trans h.env.2.2⟩
  · simp only [List.length_append, backH_len]
    have := h.len; omega

theorem whole_ok (h : Hp P E tc0 W L μ H) (h' : Hp P ⟨W, L, μ, H.length⟩ tc W' L' μ' hp) :
    ∃ μ'', Hp P E (tc.filter (· < E.pin) ++ tc0) W' L' μ'' (overH H hp tc ++ hp.drop H.length) ∧ Later L L' W W' ∧ Ext μ μ'' ∧ (∀ b, L b → L' b) ∧ Stays H.length μ μ'' ∧ ∀ j, μ'' j = μ' j := by
  have hnr : (List.range H.length).Nodup := List.nodup_range
  have hrr : ∀ i, i ∈ List.range H.length → i < H.length := fun i hi => by simpa using hi
  have n3 : Hp P ⟨W, L, muR (List.range H.length) μ, (List.range H.length).length⟩ tc W' L' μ' hp := by
    rw [muR_range h.sim, List.length_range]; exact h'
  obtain ⟨o1, o2, o3, o4, o5⟩ := back_ok h hnr hrr n3
  have hK := backM_back (N := H.length) (μ := μ) (μ' := μ') hnr hrr
  rw [List.length_range, backH_range, backN_range, show (hp.drop H.length).map (renB some) = hp.drop H.length by rw [show (renB some) = id from funext renB_some]; simp] at o1
  rw [backN_range] at hK
  refine ⟨_, o1.more ?_, o2, o3, o4, o5, fun j => hK j j rfl⟩
  intro i hi
  rcases List.mem_append.1 hi with hi | hi
  · obtain ⟨hi, hip⟩ := List.mem_filter.1 hi
    obtain ⟨k, hk, rfl⟩ := List.mem_map.1 hi
    refine List.mem_append_left _ (List.mem_filter.2 ⟨?_, hip⟩)
    rw [List.getD_eq_getElem?_getD] at hip ⊢
    by_cases hkl : k < H.length
    · simpa [hkl] using hk
    · rw [List.getElem?_eq_none (by simp; omega)] at hip
      have := h.len
      simp at hip; omega
  · exact List.mem_append_right _ hi
end
end Ev
end Go.Proofs.YtcaejedfjobooaaGreat
