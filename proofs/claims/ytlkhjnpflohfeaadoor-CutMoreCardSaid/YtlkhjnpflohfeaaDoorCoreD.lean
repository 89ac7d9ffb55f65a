/- What the functions of package cut answer, as the evaluator is told; numbers. -/
import Derived.Test.YtlkhjnpflohfeaaDoorCoreC
import Derived.RangeFuncNested
import Derived.Test.YtlkhjnpflohfeaaDoorCoreB
/- From a call's heap back to its caller's. -/
namespace Go.Proofs.YtlkhjnpflohfeaaDoor
open Go Go.RowKit
namespace Ev

def backM (N : Nat) (r : List Nat) (μ μ' : Mu) : Mu := fun i => if i < N then (match place r i with | some j => μ' j | none => μ i) else μ' (r.length + (i - N))

theorem place_none {r : List Nat} {i : Nat} (h : i ∉ r) : place r i = none := by
  cases hp : place r i with
  | none => rfl
  | some j => exact absurd (List.mem_of_getElem? (place_get hp)) h

section
variable {N : Nat} {r : List Nat} {μ μ' : Mu}
theorem backM_in (hn : r.Nodup) {i j : Nat} (h : r[j]? = some i) (hi : i < N) : backM N r μ μ' i = μ' j := by
  unfold backM; rw [if_pos hi, place_of hn h]
theorem backM_out {i : Nat} (h : i ∉ r) (hi : i < N) : backM N r μ μ' i = μ i := by
  unfold backM; rw [if_pos hi, place_none h]
theorem backM_new {i : Nat} (hi : N ≤ i) : backM N r μ μ' i = μ' (r.length + (i - N)) := by
  unfold backM; rw [if_neg (by omega)]
theorem backM_back (hn : r.Nodup) (hr : ∀ i, i ∈ r → i < N) : ∀ j j', backN N r j = some j' → backM N r μ μ' j' = μ' j := by
  intro j j' h
  unfold backN at h
  cases hj : r[j]? with
  | some i =>
    rw [hj] at h; cases h
    exact backM_in hn hj (hr _ (List.mem_of_getElem? hj))
  | none =>
    rw [hj] at h; cases h
    have : r.length ≤ j := List.getElem?_eq_none_iff.1 hj
    rw [backM_new (by omega)]
    congr 1; omega
end

theorem backH_len (H : List AB) (r : List Nat) (hp : List AB) : ∀ tc, (backH H r hp tc).length = H.length
  | [] => rfl
  | j :: tc => by simp [backH, backH_len H r hp tc]

theorem backH_out {H : List AB} {r : List Nat} {hp : List AB} {i : Nat} (hi : i < H.length) : ∀ {tc : List Nat}, (∀ j, j ∈ tc → r[j]? ≠ some i) → (backH H r hp tc)[i]? = H[i]?
  | [], _ => rfl
  | j :: tc, h => by
    simp only [backH]
    have : r.getD j H.length ≠ i := by
      rw [List.getD_eq_getElem?_getD]
      have := h j (List.mem_cons_self ..)
      cases hj : r[j]? with
      | none => simp; omega
      | some k => rw [hj] at this; simpa using this
    rw [List.getElem?_set_ne this]
    exact backH_out hi fun k hk => h k (List.mem_cons_of_mem _ hk)

theorem backH_in {H : List AB} {r : List Nat} {hp : List AB} {i j : Nat} (hn : r.Nodup) (hi : i < H.length) (hj : r[j]? = some i) : ∀ {tc : List Nat}, j ∈ tc → (backH H r hp tc)[i]? = some (renB (backN H.length r) (hp.getD j .dead))
  | k :: tc, h => by
    simp only [backH]
    by_cases hk : k = j
    · subst hk
      rw [List.getD_eq_getElem?_getD, hj, Option.getD_some, List.getElem?_set_self (by rw [backH_len]; exact hi)]
    · have hm : j ∈ tc := by
        rcases List.mem_cons.1 h with h | h
        · exact absurd h.symm hk
        · exact h
      have : r.getD k H.length ≠ i := by
        rw [List.getD_eq_getElem?_getD]
        cases hj' : r[k]? with
        | none => simp; omega
        | some m =>
          simp only [Option.getD_some]
          rintro rfl
          exact hk (get_inj hn hj' hj)
      rw [List.getElem?_set_ne this]
      exact backH_in hn hi hj hm

section
variable {P : Program} {E : Ent} {W W' : World} {L L' : Nat → Prop} {μ μ' : Mu} {tc tc0 : List Nat} {H hp : List AB} {r : List Nat}

/-- A call begins. -/
theorem Hp.start (h : Sim P W L μ H) : Hp P ⟨W, L, μ, H.length⟩ [] W L μ H where
  sim := h
  pins i _ := .inl rfl
  own j B hj hm := by rw [h.out j hj] at hm; cases hm
  same _ _ _ := rfl
  size := Nat.le_refl _
  shape b o e := ⟨o, e, .refl o⟩
  keep _ h := h
  new _ h := .inl h
  env := ⟨rfl, rfl, rfl⟩
  len := Nat.le_refl _

theorem muR_range (h : Sim P W L μ H) : muR (List.range H.length) μ = μ := by
  funext i
  unfold muR
  by_cases hi : i < H.length
  · simp [hi]
  · rw [List.getElem?_eq_none (by simp; omega)]
    exact (h.out i (by omega)).symm

/-! A heap seen whole: nothing is numbered anew. -/
mutual
theorem ren_some : ∀ v : AV, ren some v = v
  | .ptr b off => rfl
  | .sl b off n k => rfl
  | .map b => rfl
  | .yield b => rfl
  | .stamp b i => rfl
  | .fn f a b => by simp only [ren, renL_some a, renL_some b]
  | .iface t v => by simp only [ren, ren_some v]
  | .agg cs => by simp only [ren, renL_some cs]
  | .tup cs => by simp only [ren, renL_some cs]
  | .unk | .bool _ | .int _ _ | .nilp | .rp _ | .nils | .vs _ _ | .nilmap | .nilfn | .nilif => rfl
theorem renL_some : ∀ l : List AV, renL some l = l
  | [] => rfl
  | v :: l => by simp only [renL, ren_some v, renL_some l]
end
theorem renE_some : ∀ l : List (AV × AV), renE some l = l
  | [] => rfl
  | (k, v) :: l => by simp only [renE, ren_some, renE_some l]
theorem renB_some (b : AB) : renB some b = b := by
  cases b <;> simp [renB, renL_some, renE_some]
theorem backN_range (N : Nat) : backN N (List.range N) = some := by
  funext j
  unfold backN
  by_cases hj : j < N
  · simp [hj]
  · rw [List.getElem?_eq_none (by simp; omega)]; simp; omega
theorem backH_range (H hp : List AB) : ∀ tc, backH H (List.range H.length) hp tc = overH H hp tc
  | [] => rfl
  | j :: tc => by
    simp only [backH, overH, backH_range H hp tc, backN_range, renB_some]
    rw [List.getD_eq_getElem?_getD]
    by_cases hj : j < H.length
    · simp [hj]
    · rw [List.getElem?_eq_none (by simp; omega)]
      have hl : (overH H hp tc).length = H.length := by rw [← backH_range H hp tc, backH_len]
      simp only [Option.getD_none]
      rw [List.set_eq_of_length_le (by omega), List.set_eq_of_length_le (by omega)]
theorem overH_len (H hp : List AB) (tc : List Nat) : (overH H hp tc).length = H.length := by rw [← backH_range, backH_len]

theorem back_ok (h : Hp P E tc0 W L μ H) (hn : r.Nodup) (hr : ∀ i, i ∈ r → i < H.length) (h' : Hp P ⟨W, L, muR r μ, r.length⟩ tc W' L' μ' hp) :
    Hp P E ((tc.map fun j => r.getD j H.length).filter (· < E.pin) ++ tc0) W' L' (backM H.length r μ μ') (backH H r hp tc ++ (hp.drop r.length).map (renB (backN H.length r))) ∧
    Later L L' W W' ∧ Ext μ (backM H.length r μ μ') ∧ (∀ b, L b → L' b) ∧ Stays H.length μ (backM H.length r μ μ') := by
  have hrj : ∀ {j i}, r[j]? = some i → i < H.length := fun hj => hr _ (List.mem_of_getElem? hj)
  have pins' : ∀ {j i}, r[j]? = some i → μ' j = μ i ∨ (μ' j = .dead ∧ j ∈ tc ∧ μ i ≠ .no) := fun {j i} hj => by
    have := h'.pins j (List.getElem?_eq_some_iff.1 hj).1
    simp only [muR_get hj] at this
    exact this
  have own' : ∀ j B, r.length ≤ j → μ' j = .at B → W.heap.size ≤ B ∨ ∃ i0 i, i0 ∈ tc ∧ r[i0]? = some i ∧ μ i = .at B := fun j B hj hm => by
    rcases h'.own j B hj hm with h1 | ⟨i0, h1, h2⟩
    · exact .inl h1
    · obtain ⟨i, h3, h4⟩ := muR_some (r := r) (μ := μ) (j := i0) (by simp only at h2; rw [h2]; simp)
      exact .inr ⟨i0, i, h1, h3, h4 ▸ h2⟩
  have same' : ∀ b, b < W.heap.size → (∀ i0 i, i0 ∈ tc → r[i0]? = some i → μ i ≠ .at b) → W'.heap[b]? = W.heap[b]? := fun b hb hk => h'.same b hb fun i0 hi0 he => by
    simp only at he
    obtain ⟨i, h3, h4⟩ := muR_some (r := r) (μ := μ) (j := i0) (by rw [he]; simp)
    exact hk i0 i hi0 h3 (h4 ▸ he)
  have hlater : Later L L' W W' := ⟨h'.size, fun b hb hl => same' b hb fun i0 i _ h3 he => hl (h.sim.live i b he).1, h'.shape, h'.new⟩
  have cases' : ∀ i, i < H.length → (∃ j, r[j]? = some i ∧ backM H.length r μ μ' i = μ' j) ∨ (i ∉ r ∧ backM H.length r μ μ' i = μ i) := fun i hi => by
    by_cases hm : i ∈ r
    · obtain ⟨j, hj⟩ := List.getElem?_of_mem hm
      exact .inl ⟨j, hj, backM_in hn hj hi⟩
    · exact .inr ⟨hm, backM_out hm hi⟩
  have hext : Ext μ (backM H.length r μ μ') := fun i hi => by
    have hlt : i < H.length := by
      rcases Nat.lt_or_ge i H.length with h1 | h1
      · exact h1
      · exact absurd (h.sim.out i h1) hi
    rcases cases' i hlt with ⟨j, hj, e⟩ | ⟨_, e⟩
    · rw [e]
      rcases pins' hj with h1 | ⟨h1, _⟩
      · exact .inl h1
      · exact .inr h1
    · exact .inl e
  have hstay : Stays H.length μ (backM H.length r μ μ') := fun i hi hno => by
    rcases cases' i hi with ⟨j, hj, e⟩ | ⟨_, e⟩
    · rw [e]
      rcases pins' hj with h1 | ⟨_, _, h1⟩
      · rw [h1]; exact hno
      · exact absurd hno h1
    · rw [e]; exact hno
  have hK := backM_back (N := H.length) (μ := μ) (μ' := μ') hn hr
  have htc : ∀ {j i}, j ∈ tc → r[j]? = some i → i ∈ tc.map fun j => r.getD j H.length := fun {j i} hj hi => List.mem_map.2 ⟨j, hj, by rw [List.getD_eq_getElem?_getD, hi]; rfl⟩
  have hrlen : r.length ≤ hp.length := h'.len
  have hget1 : ∀ i, i < H.length → (backH H r hp tc ++ (hp.drop r.length).map (renB (backN H.length r)))[i]? = (backH H r hp tc)[i]? := fun i hi => List.getElem?_append_left (by rw [backH_len]; exact hi)
  have hget2 : ∀ i, H.length ≤ i → (backH H r hp tc ++ (hp.drop r.length).map (renB (backN H.length r)))[i]? = (hp[r.length + (i - H.length)]?).map (renB (backN H.length r)) := fun i hi => by
    rw [List.getElem?_append_right (by rw [backH_len]; exact hi), backH_len, List.getElem?_map, List.getElem?_drop]
  -- where a block lies that a call did not turn
  have hold : ∀ {i B}, i < H.length → μ i = .at B → (∀ j, j ∈ tc → r[j]? ≠ some i) → L' B ∧ B < W'.heap.size ∧ ∃ b o, H[i]? = some b ∧ W'.heap[B]? = some o ∧ BR P W' L' (backM H.length r μ μ') b o := fun {i B} hi hm hj => by
    obtain ⟨g1, g2, blk, o, g3, g4, g5⟩ := h.sim.live i B hm
    refine ⟨h'.keep B g1, Nat.lt_of_lt_of_le g2 h'.size, blk, o, g3, ?_, g5.mono hlater hext⟩
    rw [same' B g2 ?_]
    · exact g4
    · intro i0 i1 h1 h2 h3
      have := h.sim.inj i i1 B hm h3
      subst this
      exact hj i0 h1 h2
  refine ⟨⟨⟨?_, ?_, ?_, ?_, h'.sim.lt⟩, ?_, ?_, ?_, ?_, ?_, ?_, ?_, ?_, ?_⟩, hlater, hext, h'.keep, hstay⟩
  · intro i B hm
    by_cases hi : i < H.length
    · rw [hget1 i hi]
      rcases cases' i hi with ⟨j, hj, e⟩ | ⟨hnr, e⟩
      · rw [e] at hm
        by_cases hjt : j ∈ tc
        · obtain ⟨g1, g2, blk, o, g3, g4, g5⟩ := h'.sim.live j B hm
          refine ⟨g1, g2, renB (backN H.length r) blk, o, ?_, g4, g5.ren _ hK⟩
          rw [backH_in hn hi hj hjt, List.getD_eq_getElem?_getD, g3]; rfl
        · have hmi : μ i = .at B := by
            rcases pins' hj with h1 | ⟨_, h1, _⟩
            · rw [← h1]; exact hm
            · exact absurd h1 hjt
          have hne : ∀ k, k ∈ tc → r[k]? ≠ some i := fun k hk he => hjt (get_inj hn he hj ▸ hk)
          rw [backH_out hi hne]
          exact hold hi hmi hne
      · rw [e] at hm
        have hne : ∀ k, k ∈ tc → r[k]? ≠ some i := fun k _ he => hnr (List.mem_of_getElem? he)
        rw [backH_out hi hne]
        exact hold hi hm hne
    · have hi' : H.length ≤ i := by omega
      rw [backM_new hi'] at hm
      obtain ⟨g1, g2, blk, o, g3, g4, g5⟩ := h'.sim.live _ B hm
      exact ⟨g1, g2, renB (backN H.length r) blk, o, by rw [hget2 i hi', g3]; rfl, g4, g5.ren _ hK⟩
  · intro i b hd hb
    by_cases hi : i < H.length
    · rw [hget1 i hi] at hb
      rcases cases' i hi with ⟨j, hj, e⟩ | ⟨hnr, e⟩
      · rw [e] at hd
        by_cases hjt : j ∈ tc
        · rw [backH_in hn hi hj hjt] at hb
          cases hb
          rw [List.getD_eq_getElem?_getD]
          cases hx : hp[j]? with
          | none => rfl
          | some b0 => rw [h'.sim.dead j b0 hd hx]; rfl
        · have hmi : μ i = .dead := by
            rcases pins' hj with h1 | ⟨_, h1, _⟩
            · rw [← h1]; exact hd
            · exact absurd h1 hjt
          rw [backH_out hi fun k hk he => hjt (get_inj hn he hj ▸ hk)] at hb
          exact h.sim.dead i b hmi hb
      · rw [e] at hd
        rw [backH_out hi fun k _ he => hnr (List.mem_of_getElem? he)] at hb
        exact h.sim.dead i b hd hb
    · have hi' : H.length ≤ i := by omega
      rw [backM_new hi'] at hd
      rw [hget2 i hi'] at hb
      obtain ⟨b0, h1, rfl⟩ := Option.map_eq_some_iff.1 hb
      rw [h'.sim.dead _ b0 hd h1]; rfl
  · intro i hi
    simp only [List.length_append, backH_len, List.length_map, List.length_drop] at hi
    rw [backM_new (by omega)]
    exact h'.sim.out _ (by omega)
  · -- no two in one place
    have hmix : ∀ i B, i < H.length → i ∉ r → μ i = .at B → ∀ j, μ' j = .at B → (∀ i1, r[j]? = some i1 → i1 ≠ i) → False := fun i B hi hnr hm j hj hne => by
      have hlt := (h.sim.live i B hm).2.1
      rcases Nat.lt_or_ge j r.length with hl | hl
      · obtain ⟨i1, h1⟩ : ∃ i1, r[j]? = some i1 := ⟨_, List.getElem?_eq_getElem hl⟩
        rcases pins' h1 with e | ⟨e, _⟩
        · have := h.sim.inj i1 i B (e.symm.trans hj) hm
          exact hne i1 h1 this
        · rw [e] at hj; cases hj
      · rcases own' j B hl hj with h1 | ⟨i0, i1, _, h2, h3⟩
        · omega
        · have := h.sim.inj i1 i B h3 hm
          subst this
          exact hnr (List.mem_of_getElem? h2)
    intro i k B hi hk
    have hsplit : ∀ x, backM H.length r μ μ' x = .at B → (x < H.length ∧ x ∉ r ∧ μ x = .at B) ∨ ∃ j, μ' j = .at B ∧ ((r[j]? = some x ∧ x < H.length) ∨ (H.length ≤ x ∧ j = r.length + (x - H.length))) := fun x hx => by
      by_cases hxl : x < H.length
      · rcases cases' x hxl with ⟨j, hj, e⟩ | ⟨hnr, e⟩
        · exact .inr ⟨j, e ▸ hx, .inl ⟨hj, hxl⟩⟩
        · exact .inl ⟨hxl, hnr, e ▸ hx⟩
      · exact .inr ⟨_, by rw [← backM_new (N := H.length) (r := r) (μ := μ) (μ' := μ') (i := x) (by omega)]; exact hx, .inr ⟨by omega, rfl⟩⟩
    have hrne : ∀ {x y j}, x ∉ r → ((r[j]? = some y ∧ y < H.length) ∨ (H.length ≤ y ∧ j = r.length + (y - H.length))) → ∀ i1, r[j]? = some i1 → i1 ≠ x := fun hx _ i1 h1 he => hx (he ▸ List.mem_of_getElem? h1)
    rcases hsplit i hi with ⟨a1, a2, a3⟩ | ⟨j, a1, a2⟩ <;> rcases hsplit k hk with ⟨b1, b2, b3⟩ | ⟨j', b1, b2⟩
    · exact h.sim.inj i k B a3 b3
    · exact (hmix i B a1 a2 a3 j' b1 (hrne a2 b2)).elim
    · exact (hmix k B b1 b2 b3 j a1 (hrne b2 a2)).elim
    · have hjj := h'.sim.inj j j' B a1 b1
      subst hjj
      rcases a2 with ⟨a2, _⟩ | ⟨a2, a3⟩ <;> rcases b2 with ⟨b2, _⟩ | ⟨b2, b3⟩
      · rw [a2] at b2; exact Option.some.inj b2
      · have := (List.getElem?_eq_some_iff.1 a2).1; omega
      · have := (List.getElem?_eq_some_iff.1 b2).1; omega
      · omega
  · intro i hi
    have hlt : i < H.length := Nat.lt_of_lt_of_le hi h.len
    have hold' : μ i = E.μ i ∨ (μ i = .dead ∧ i ∈ (tc.map fun j => r.getD j H.length).filter (· < E.pin) ++ tc0 ∧ E.μ i ≠ .no) := (h.pins i hi).imp id fun ⟨a, b, c⟩ => ⟨a, List.mem_append_right _ b, c⟩
    rcases cases' i hlt with ⟨j, hj, e⟩ | ⟨hnr, e⟩
    · rw [e]
      rcases pins' hj with h1 | ⟨h1, h2, h3⟩
      · rw [h1]; exact hold'
      · refine .inr ⟨h1, List.mem_append_left _ (List.mem_filter.2 ⟨htc h2 hj, by simpa using hi⟩), ?_⟩
        rcases h.pins i hi with e | ⟨_, _, e⟩
        · rw [← e]; exact h3
        · exact e
    · rw [e]; exact hold'
  · intro i B hi hm
    have hmore : ∀ {i0 i1}, i0 ∈ tc → r[i0]? = some i1 → μ i1 = .at B → E.W.heap.size ≤ B ∨ ∃ i, i ∈ (tc.map fun j => r.getD j H.length).filter (· < E.pin) ++ tc0 ∧ E.μ i = .at B := fun {i0 i1} h1 h2 h3 => by
      by_cases hp : i1 < E.pin
      · rcases h.pins i1 hp with e | ⟨e, _⟩
        · exact .inr ⟨i1, List.mem_append_left _ (List.mem_filter.2 ⟨htc h1 h2, by simpa using hp⟩), e ▸ h3⟩
        · rw [e] at h3; cases h3
      · rcases h.own i1 B (by omega) h3 with e | ⟨k, e1, e2⟩
        · exact .inl e
        · exact .inr ⟨k, List.mem_append_right _ e1, e2⟩
    have hold' : μ i = .at B → E.W.heap.size ≤ B ∨ ∃ i, i ∈ (tc.map fun j => r.getD j H.length).filter (· < E.pin) ++ tc0 ∧ E.μ i = .at B := fun hm => (h.own i B hi hm).imp id fun ⟨k, e1, e2⟩ => ⟨k, List.mem_append_right _ e1, e2⟩
    by_cases hlt : i < H.length
    · rcases cases' i hlt with ⟨j, hj, e⟩ | ⟨hnr, e⟩
      · rw [e] at hm
        rcases pins' hj with h1 | ⟨h1, _⟩
        · exact hold' (h1 ▸ hm)
        · rw [h1] at hm; cases hm
      · exact hold' (e ▸ hm)
    · rw [backM_new (by omega)] at hm
      rcases own' _ B (by omega) hm with h1 | ⟨i0, i1, h1, h2, h3⟩
      · exact .inl (Nat.le_trans h.size h1)
      · exact hmore h1 h2 h3
  · intro b hb hk
    have hW : W.heap[b]? = E.W.heap[b]? := h.same b hb fun i hi => hk i (List.mem_append_right _ hi)
    rw [← hW]
    refine same' b (Nat.lt_of_lt_of_le hb h.size) fun i0 i h1 h2 h3 => ?_
    by_cases hp : i < E.pin
    · rcases h.pins i hp with e | ⟨e, _⟩
      · exact hk i (List.mem_append_left _ (List.mem_filter.2 ⟨htc h1 h2, by simpa using hp⟩)) (e ▸ h3)
      · rw [e] at h3; cases h3
    · rcases h.own i b (by omega) h3 with e | ⟨k, e1, e2⟩
      · omega
      · exact hk k (List.mem_append_right _ e1) e2
  · exact Nat.le_trans h.size h'.size
  · intro b o e
    obtain ⟨o1, e1, s1⟩ := h.shape b o e
    obtain ⟨o2, e2, s2⟩ := h'.shape b o1 e1
    exact ⟨o2, e2, s1.trans s2⟩
  · exact fun b hb => h'.keep b (h.keep b hb)
  · intro b hb
    rcases h'.new b hb with h1 | h1
    · exact h.new b h1
    · exact .inr (Nat.le_trans h.size h1)
  · exact ⟨h'.env.1.trans h.env.1, h'.env.2.1.trans h.env.2.1, h'.env.2.2.trans h.env.2.2⟩
  · simp only [List.length_append, backH_len]
    have := h.len; omega

theorem whole_ok (h : Hp P E tc0 W L μ H) (h' : Hp P ⟨W, L, μ, H.length⟩ tc W' L' μ' hp) :
    ∃ μ'', Hp P E (tc.filter (· < E.pin) ++ tc0) W' L' μ'' (overH H hp tc ++ hp.drop H.length) ∧ Later L L' W W' ∧ Ext μ μ'' ∧ (∀ b, L b → L' b) ∧ Stays H.length μ μ'' ∧ ∀ j, μ'' j = μ' j := by
  have hnr : (List.range H.length).Nodup := List.nodup_range
  have hrr : ∀ i, i ∈ List.range H.length → i < H.length := fun i hi => by simpa using hi
  have n3 : Hp P ⟨W, L, muR (List.range H.length) μ, (List.range H.length).length⟩ tc W' L' μ' hp := by
    rw [muR_range h.sim, List.length_range]; exact h'
  obtain ⟨o1, o2, o3, o4, o5⟩ := back_ok h hnr hrr n3
  have hK := backM_back (N := H.length) (μ := μ) (μ' := μ') hnr hrr
  rw [List.length_range, backH_range, backN_range, show (hp.drop H.length).map (renB some) = hp.drop H.length by rw [show (renB some) = id from funext renB_some]; simp] at o1
  rw [backN_range] at hK
  refine ⟨_, o1.more ?_, o2, o3, o4, o5, fun j => hK j j rfl⟩
  intro i hi
  rcases List.mem_append.1 hi with hi | hi
  · obtain ⟨hi, hip⟩ := List.mem_filter.1 hi
    obtain ⟨k, hk, rfl⟩ := List.mem_map.1 hi
    refine List.mem_append_left _ (List.mem_filter.2 ⟨?_, hip⟩)
    rw [List.getD_eq_getElem?_getD] at hip ⊢
    by_cases hkl : k < H.length
    · simpa [hkl] using hk
    · rw [List.getElem?_eq_none (by simp; omega)] at hip
      have := h.len
      simp at hip; omega
  · exact List.mem_append_right _ hi
end
end Ev
end Go.Proofs.YtlkhjnpflohfeaaDoor

/- A call of a function. -/
namespace Go.Proofs.YtlkhjnpflohfeaaDoor
open Go Go.RowKit
namespace Ev

theorem CRes.val_map (g : AV → AV) (x : CRes) : (x.map g).val = g x.val := by cases x <;> rfl

theorem refsL_nil : ∀ {l : List AV} {x : AV}, refsL l = [] → x ∈ l → refs x = []
  | v :: l, x, h, hx => by
    simp only [refsL, List.append_eq_nil_iff] at h
    rcases List.mem_cons.1 hx with rfl | hx
    · exact h.1
    · exact refsL_nil h.2 hx

/-- What the evaluator is told of the program. -/
structure TblOk (P : Program) (C : Cfg) : Prop where
  fns : ∀ f fn, C.fns f = some fn → ∃ F, P.funcs[f]? = some F ∧ (F.name == "runtime.NumGoroutine") = false ∧ compFn P F = some fn.strip
  ext : ∀ f g, C.ext f = some g → (∃ F, P.funcs[f]? = some F ∧ (F.name == "runtime.NumGoroutine") = false ∧ F.body.isNone = false) ∧
    ∀ (args : List AV) (v : AV) (rargs : Array Value) (W : World) (L : Nat → Prop) (μ : Mu), g args = some v → VL W L μ args rargs.toList →
      CallsIn Fence.wide 0 P f rargs W fun e W' => (∃ w, e = .returned w ∧ ∀ W L μ, VR W L μ v w) ∧ Below W.heap.size W W'
  exth : ∀ f g, C.exth f = some g → (∃ F, P.funcs[f]? = some F ∧ (F.name == "runtime.NumGoroutine") = false ∧ F.body.isNone = false) ∧
    ∀ (args : List AV) (H : List AB) (v : AV) (rargs : Array Value) (W : World) (L : Nat → Prop) (μ : Mu), g args H = some v → VL W L μ args rargs.toList → Sim P W L μ H → Globs C W L →
      CallsIn Fence.wide 0 P f rargs W fun e W' => (∃ w, e = .returned w ∧ VR W' L nomu v w) ∧ Below W.heap.size W W'
  dfk : ∀ f t ag, C.dfk f = some (t, ag) → DfOk P f t ag

theorem compFn_ok {P : Program} {F : Func} {fn : AFunc} (h : compFn P F = some fn.strip) : ∃ c, F.body = some c ∧ compCode P c = some (strip fn.body) ∧ compRes P F.results.toList = some fn.res ∧ F.ntmps = fn.ntmps := by
  unfold compFn at h
  split at h
  · rename_i c r h1 h2
    obtain ⟨c', h3, h4⟩ := Option.map_eq_some_iff.1 h
    have e1 := congrArg AFunc.ntmps h4
    have e2 := congrArg AFunc.res h4
    have e3 := congrArg AFunc.body h4
    simp only [AFunc.strip] at e1 e2 e3
    subst e3 e2
    exact ⟨c, h1, h3, h2, e1⟩
  · cases h

section
variable {P : Program} {E : Ent} {C : Cfg} {W W' : World} {L L' : Nat → Prop} {μ μ' : Mu} {tc tc0 : List Nat} {H : List AB} {call : CallF}

theorem CRel.ren {x : CRes} {e : Ending} (h : CRel W L μ x e) (σ : Nat → Option Nat) (hs : ∀ i j, σ i = some j → μ' j = μ i) : CRel W L μ' (x.map (ren σ)) e := by
  cases x <;> cases e <;> simp only [CRel, CRes.map] at h ⊢
  · exact h.ren σ hs
  · obtain ⟨w, h1, h2⟩ := h; exact ⟨w, h1, h2.ren σ hs⟩

theorem tidy_ok {x x2 : CRes} {hp hp2 : List AB} {e : Ending} (h : Hp P E tc W L μ hp) (hr : CRel W L μ x e) (ht : tidy E.pin x hp = (x2, hp2)) : ∃ μ', Hp P E tc W L μ' hp2 ∧ CRel W L μ' x2 e := by
  unfold tidy at ht
  simp only at ht
  generalize hr1 : reach hp fuelR ((List.range E.pin).flatMap fun i => refsB (hp.getD i .dead)) (List.range E.pin) = r1 at ht
  obtain ⟨⟨m1, e1⟩, n1⟩ := reach_acc hp fuelR ((List.range E.pin).flatMap fun i => refsB (hp.getD i .dead)) (List.range E.pin) (nodup_range _)
  rw [hr1] at e1 n1
  generalize hr2 : reach hp fuelR (refs x.val) r1 = r at ht
  obtain ⟨⟨m2, e2⟩, n2⟩ := reach_acc hp fuelR (refs x.val) r1 n1
  rw [hr2] at e2 n2
  have hpin : ∀ i, i < E.pin → r[i]? = some i := fun i hi => by
    rw [e2, e1, List.append_assoc, List.getElem?_append_left (by simpa using hi)]
    simp [hi]
  cases ht
  exact ⟨muR r μ, h.part n2 hpin, hr.ren _ muR_place⟩

theorem tidyC_ok {x x2 : CRes} {hp hp2 : List AB} {e : Ending} (h : Hp P E tc W L μ hp) (hr : CRel W L μ x e) (ht : tidyC C E.pin x hp = (x2, hp2)) : ∃ μ', Hp P E tc W L μ' hp2 ∧ CRel W L μ' x2 e := by
  unfold tidyC at ht
  cases hb : (C.calm || Nat.ble hp.length (E.pin + C.gcAt)) <;> rw [hb] at ht
  · exact tidy_ok h hr ht
  · cases ht; exact ⟨μ, h, hr⟩

theorem CRel.same {x : CRes} {e : Ending} (h : CRel W L μ x e) (hs : ∀ j, μ' j = μ j) : CRel W L μ' x e := by
  rw [show μ' = μ from funext hs]; exact h

/-- What names no block is the same wherever these lie. -/
theorem VR.bare {v : AV} {r : Value} (hv : VR W L μ v r) : refs v = [] → VR W L μ' v r := by
    induction hv with
    | unk => intro _; exact .unk
    | dead h1 => intro hr; rename_i v _ _ _ _; cases v <;> simp [headRef] at h1 <;> simp [refs] at hr
    | bool => intro _; exact .bool
    | int => intro _; exact .int
    | nilp => intro _; exact .nilp
    | ptr => intro hr; simp [refs] at hr
    | rp rs h1 h2 => intro _; exact .rp rs h1 h2
    | nils => intro _; exact .nils
    | sl => intro hr; simp [refs] at hr
    | vs rs h1 h2 h3 h4 => intro _; exact .vs rs h1 h2 h3 h4
    | vs0 => intro _; exact .vs0
    | nilmap => intro _; exact .nilmap
    | map => intro hr; simp [refs] at hr
    | nilfn => intro _; exact .nilfn
    | fn hf h1 h2 h3 h4 ih1 ih2 =>
      intro hr
      simp only [refs, List.append_eq_nil_iff] at hr
      exact .fn hf h1 (fun i x r a b => ih1 i x r a b (refsL_nil hr.1 (List.mem_of_getElem? a))) h3 (fun i x r a b => ih2 i x r a b (refsL_nil hr.2 (List.mem_of_getElem? a)))
    | yield => intro hr; simp [refs] at hr
    | stamp => intro hr; simp [refs] at hr
    | nilif => intro _; exact .nilif
    | iface _ ih => intro hr; exact .iface (ih (by simpa [refs] using hr))
    | agg h1 h2 ih => intro hr; exact .agg h1 fun i x r a b => ih i x r a b (refsL_nil (by simpa [refs] using hr) (List.mem_of_getElem? a))
    | tup h1 h2 ih => intro hr; exact .tup h1 fun i x r a b => ih i x r a b (refsL_nil (by simpa [refs] using hr) (List.mem_of_getElem? a))
theorem CRel.bare {x : CRes} {e : Ending} (h : CRel W L μ x e) (hb : (refs x.val) = []) : CRel W L μ' x e := by
  cases x <;> cases e <;> simp only [CRel, CRes.val] at h hb ⊢
  · exact h.bare hb
  · obtain ⟨w, h1, h2⟩ := h; exact ⟨w, h1, h2.bare hb⟩

/-! What is reached from what is known is known. -/
mutual
theorem refs_ok (hno : ∀ i, μ i ≠ .no → True) : ∀ (v : AV) {x : Value}, VR W L μ v x → ∀ b, b ∈ refs v → μ b ≠ .no
  | .ptr b off, x, h, c, hc => by
    simp [refs] at hc; subst hc
    cases h with
    | dead h1 h2 => simp [headRef] at h1; subst h1; rw [h2]; simp
    | ptr h1 => rw [h1]; simp
  | .sl b off n k, x, h, c, hc => by
    simp [refs] at hc; subst hc
    cases h with
    | dead h1 h2 => simp [headRef] at h1; subst h1; rw [h2]; simp
    | sl h1 => rw [h1]; simp
  | .map b, x, h, c, hc => by
    simp [refs] at hc; subst hc
    cases h with
    | dead h1 h2 => simp [headRef] at h1; subst h1; rw [h2]; simp
    | map h1 => rw [h1]; simp
  | .stamp b i, x, h, c, hc => by
    simp [refs] at hc; subst hc
    cases h with
    | dead h1 h2 => simp [headRef] at h1; subst h1; rw [h2]; simp
    | stamp h1 => rw [h1]; simp
  | .yield b, x, h, c, hc => by
    simp [refs] at hc; subst hc
    cases h with
    | dead h1 h2 => simp [headRef] at h1; subst h1; rw [h2]; simp
    | yield h1 => rw [h1]; simp
  | .fn f as bs, x, h, c, hc => by
    obtain ⟨rf, rc, _, _, h1, h2⟩ := vr_fn h
    simp only [refs, List.mem_append] at hc
    rcases hc with hc | hc
    · exact refsL_ok hno as h1 c hc
    · exact refsL_ok hno bs h2 c hc
  | .iface t v, x, h, c, hc => by
    obtain ⟨y, _, h1⟩ := vr_iface h
    exact refs_ok hno v h1 c (by simpa [refs] using hc)
  | .agg cs, x, h, c, hc => by
    obtain ⟨rs, _, h1⟩ := vr_agg h
    exact refsL_ok hno cs h1 c (by simpa [refs] using hc)
  | .tup cs, x, h, c, hc => by
    obtain ⟨rs, _, h1⟩ := vr_tup h
    exact refsL_ok hno cs h1 c (by simpa [refs] using hc)
  | .unk, _, _, _, hc => by simp [refs] at hc
  | .bool _, _, _, _, hc => by simp [refs] at hc
  | .int _ _, _, _, _, hc => by simp [refs] at hc
  | .nilp, _, _, _, hc => by simp [refs] at hc
  | .rp _, _, _, _, hc => by simp [refs] at hc
  | .nils, _, _, _, hc => by simp [refs] at hc
  | .vs _ _, _, _, _, hc => by simp [refs] at hc
  | .nilmap, _, _, _, hc => by simp [refs] at hc
  | .nilfn, _, _, _, hc => by simp [refs] at hc
  | .nilif, _, _, _, hc => by simp [refs] at hc
theorem refsL_ok (hno : ∀ i, μ i ≠ .no → True) : ∀ (l : List AV) {xs : List Value}, VL W L μ l xs → ∀ b, b ∈ refsL l → μ b ≠ .no
  | [], _, _, c, hc => by simp [refsL] at hc
  | v :: l, xs, h, c, hc => by
    simp only [refsL, List.mem_append] at hc
    match xs, h with
    | x :: xs, h =>
      rcases hc with hc | hc
      · exact refs_ok hno v h.head c hc
      · exact refsL_ok hno l h.tail c hc
    | [], h => have := h.1; simp at this
end

theorem refsE_ok : ∀ {es : List (AV × AV)} {res : List MapEntry}, es.length = res.length → (∀ (i : Nat) (k v : AV) (e : MapEntry), es[i]? = some (k, v) → res[i]? = some e → VR W L μ k e.key ∧ VR W L μ v e.val) → ∀ b, b ∈ refsE es → μ b ≠ .no
  | [], _, _, _, c, hc => by simp [refsE] at hc
  | (k, v) :: es, res, hl, h, c, hc => by
    match res, hl, h with
    | e :: res, hl, h =>
      obtain ⟨h1, h2⟩ := h 0 k v e rfl rfl
      simp only [refsE, List.mem_append] at hc
      rcases hc with hc | hc | hc
      · exact refs_ok (fun _ _ => trivial) k h1 c hc
      · exact refs_ok (fun _ _ => trivial) v h2 c hc
      · exact refsE_ok (by simpa using hl) (fun i k v e a b => h (i + 1) k v e (by simpa using a) (by simpa using b)) c hc
    | [], hl, _ => simp at hl

theorem refsB_ok {b : AB} {o : Obj} (h : BR P W L μ b o) : ∀ c, c ∈ refsB b → μ c ≠ .no := by
  intro c hc
  cases h with
  | @cells cs rs t h1 h2 =>
    have hvl : VL W L μ cs (rs.toList.take cs.length) := ⟨by simp; omega, fun i x r hx hr => by
      have hi : i < cs.length := (List.getElem?_eq_some_iff.1 hx).1
      rw [List.getElem?_take_of_lt hi] at hr
      exact h2 i x r hx (by simpa using hr)⟩
    exact refsL_ok (fun _ _ => trivial) cs hvl c (by simpa [refsB] using hc)
  | map _ h1 h2 => exact refsE_ok (by rw [Array.length_toList]; exact h1) (fun i k v e a b => h2 i k v e a (by simpa using b)) c (by simpa [refsB] using hc)
  | loop h1 h2 h3 h4 h5 h6 h7 =>
    simp only [refsB, List.mem_cons] at hc
    rcases hc with rfl | hc
    · rcases h7 with h7 | h7 <;> rw [h7] <;> simp
    · exact refsL_ok (fun _ _ => trivial) _ h3 c hc
  | dfr => simp [refsB] at hc
  | dead => simp [refsB] at hc

theorem reach_known (h : Sim P W L μ H) : ∀ (n : Nat) (todo acc : List Nat), (∀ b, b ∈ todo → μ b ≠ .no) → (∀ b, b ∈ acc → μ b ≠ .no) → ∀ b, b ∈ reach H n todo acc → μ b ≠ .no
  | 0, _, acc, _, ha, b, hb => ha b (by simpa [reach] using hb)
  | n + 1, [], acc, _, ha, b, hb => ha b (by simpa [reach] using hb)
  | n + 1, c :: todo, acc, ht, ha, b, hb => by
    simp only [reach] at hb
    split at hb
    · exact reach_known h n todo acc (fun b hb => ht b (List.mem_cons_of_mem _ hb)) ha b hb
    · have hc := ht c (List.mem_cons_self ..)
      refine reach_known h n _ _ (fun d hd => ?_) (fun d hd => ?_) b hb
      · rcases List.mem_append.1 hd with hd | hd
        · rw [List.getD_eq_getElem?_getD] at hd
          cases hcb : H[c]? with
          | none => rw [hcb] at hd; simp [refsB] at hd
          | some blk =>
            rw [hcb] at hd
            simp only [Option.getD_some] at hd
            cases hm : μ c with
            | no => exact absurd hm hc
            | dead => rw [h.dead c blk hm hcb] at hd; simp [refsB] at hd
            | «at» B =>
              obtain ⟨_, _, blk', o, e1, _, e3⟩ := h.live c B hm
              rw [hcb] at e1; cases e1
              exact refsB_ok e3 d hd
        · exact ht d (List.mem_cons_of_mem _ hd)
      · rcases List.mem_append.1 hd with hd | hd
        · exact ha d hd
        · simp at hd; subst hd; exact hc

/-- What a range over a function asks of the round about it. -/
def RdOk (E : Ent) (F : Fence) (rd : Option Nat) : Prop := match rd with
  | none => F.round = none
  | some l => ∃ B, F.round = some B ∧ l < E.pin ∧ E.μ l = .at B

theorem enter_ok (hT : TblOk P C) (hcall : CallOk P C call) (hrange : ∀ E, RangeOk P E C call Fence.wide none) {f : Nat} {args : List AV} {rargs : Array Value} {x : CRes} {H' : List AB} (hx : enter C call f args H = some (x, H', tc))
    (h : Hp P E tc0 W L μ H) (hg : Globs C W L) (hv : VL W L μ args rargs.toList) : CallsIn Fence.wide 0 P f rargs W (CPost P E tc0 W L μ H.length x H' tc) := by
  unfold enter at hx
  split at hx
  · rename_i g hext
    obtain ⟨v, hgv, he⟩ := Option.map_eq_some_iff.1 hx
    cases he
    refine ((hT.ext f g hext).2 args v rargs W L μ hgv hv).mono ?_
    rintro e W' ⟨⟨w, rfl, hw⟩, hb⟩
    obtain ⟨q1, q2⟩ := h.below hb
    exact ⟨L, μ, hw _ _ _, q1.more (fun i hi => List.mem_append_right _ hi), q2, Ext.refl _, fun _ h => h, fun _ _ h => h⟩
  · split at hx
    · rename_i g hext
      obtain ⟨v, hgv, he⟩ := Option.map_eq_some_iff.1 hx
      cases he
      refine ((hT.exth f g hext).2 args H v rargs W L μ hgv hv h.sim hg).mono ?_
      rintro e W' ⟨⟨w, rfl, hw⟩, hb⟩
      obtain ⟨q1, q2⟩ := h.below hb
      exact ⟨L, μ, hw.lift, q1.more (fun i hi => List.mem_append_right _ hi), q2, Ext.refl _, fun _ h => h, fun _ _ h => h⟩
    split at hx
    · cases hx
    · rename_i fn hfn
      obtain ⟨F, f1, _, f3⟩ := hT.fns f fn hfn
      obtain ⟨c, g1, g2, g3, g4⟩ := compFn_ok f3
      have main : ∀ (μ0 : Mu) (args0 : List AV) (H0 : List AB), Hp P ⟨W, L, μ0, H0.length⟩ [] W L μ0 H0 → VL W L μ0 args0 rargs.toList → ∀ (e : AExit) (st : St), ev C call H0.length none fn.body { tm := args0 ++ List.replicate (fn.ntmps - args0.length) .unk, df := [], hp := H0, tc := [] } = some (e, st) →
          ∀ (x1 : CRes) (st1 : St), finish C H0.length fn e st = some (x1, st1) → (∀ e W', FPost P C ⟨W, L, μ0, H0.length⟩ x1 st1 e W' → CPost P E tc0 W L μ H.length x H' tc e W') → CallsIn Fence.wide 0 P f rargs W (CPost P E tc0 W L μ H.length x H' tc) := by
        intro μ0 args0 H0 hE hv0 e st hev x1 st1 hfin hmono
        refine callsIn_of_wp_marks f1 g1 trivial ?_
        have hs0 : SR P C ⟨W, L, μ0, H0.length⟩ { tm := args0 ++ List.replicate (fn.ntmps - args0.length) .unk, df := [], hp := H0, tc := [] } { tmps := rargs ++ Array.replicate (F.ntmps - rargs.size) undef, defers := [] } W := by
          refine ⟨L, μ0, hE, ⟨?_, hg⟩, .nil⟩
          rw [Array.toList_append, Array.toList_replicate, g4, show rargs.size = args0.length from by have := hv0.1; simpa using this.symm]
          exact hv0.append (VL.replicate _ .unk)
        have hwp := ev_ok (F := Fence.wide) (rd := none) hcall ⟨fun _ => trivial, rfl, rfl⟩ (fun _ => rfl) (hrange _) c fn.body _ _ _ _ _ hev g2 hs0
        refine wpIn_mono hwp ?_
        intro ex a W1 hsees
        have hfp := finish_ok hT.dfk g3 hfin hsees
        have hLm : ∀ ds u W', LeavesInM Fence.wide 0 P F a.tmps (FPost P C ⟨W, L, μ0, H0.length⟩ x1 st1) ds u W' → LeavesInM Fence.wide 0 P F a.tmps (CPost P E tc0 W L μ H.length x H' tc) ds u W' := by
          intro ds
          induction ds with
          | nil =>
            intro u W' hh
            cases u with
            | run => exact hh.elim
            | returning => obtain ⟨v, hv, hR⟩ := hh; exact ⟨v, hv, hmono _ _ hR⟩
            | panicking chain => exact hmono _ _ hh
          | cons d ds ih =>
            rintro u W' ⟨h1, h2⟩
            refine ⟨h1, ?_⟩
            rcases h2 with ⟨r, w', k1, k2, k3⟩ | ⟨k0, fv, cap, f, args, k1, k2, k3, k4⟩
            · exact .inl ⟨r, w', k1, k2, ih _ _ k3⟩
            · refine .inr ⟨k0, fv, cap, f, args, k1, k2, k3, k4.mono ?_⟩
              intro e u' w' hh
              cases e with
              | returned v => exact ih _ _ hh
              | panicked chain => exact ih _ _ hh
              | outgrown => exact hmono _ _ hh
        cases ex with
        | normal => exact hLm _ _ _ hfp
        | ret => exact hLm _ _ _ hfp
        | panic chain => exact hLm _ _ _ hfp
        | outgrown => exact hmono _ _ hfp
        | exit j => exact hfp.elim
        | goto l => exact hfp.elim
      cases hwh : C.whole f <;> rw [hwh] at hx <;> simp only [cond_true, cond_false] at hx
      case true =>
        split at hx
        · rename_i e st hev
          split at hx
          · rename_i x1 st1 hfin
            refine main μ args H (Hp.start h.sim) hv e st hev x1 st1 hfin ?_
            rintro en W2 ⟨L2, μ2, q1, q2, q3⟩
            cases hbq : bareQ x1.val st1.tc <;> rw [hbq] at hx <;> simp only [cond_true, cond_false] at hx
            · cases htd : tidyC C H.length x1 st1.hp with
              | mk x2 hp2 =>
              rw [htd] at hx
              simp only at hx
              cases hx
              obtain ⟨μ3, q4, q5⟩ := tidyC_ok (E := ⟨W, L, μ, H.length⟩) q1 q2 htd
              obtain ⟨μ4, b1, b2, b3, b4, b5, b6⟩ := whole_ok h q4
              exact ⟨L2, μ4, q5.same b6, b1, b2, b3, b4, b5⟩
            · cases hx
              simp only [bareQ, Bool.and_eq_true, List.isEmpty_iff] at hbq
              have q1' := q1.part (r := List.range H.length) List.nodup_range (fun i hi => by simp only at hi; simp [hi])
              rw [hbq.1] at q1'
              obtain ⟨μ4, b1, b2, b3, b4, b5, b6⟩ := whole_ok h q1'
              simp only [overH] at b1
              rw [List.drop_eq_nil_of_le (by rw [restrict_len]; simp), List.append_nil] at b1
              exact ⟨L2, μ4, q2.bare hbq.2, b1, b2, b3, b4, b5⟩
          · cases hx
        · cases hx
      have hn : (reach H fuelR (refsL args) []).Nodup := (reach_acc H fuelR (refsL args) [] List.nodup_nil).2
      have hkn : ∀ b, b ∈ reach H fuelR (refsL args) [] → μ b ≠ .no := reach_known h.sim _ _ _ (refsL_ok (fun _ _ => trivial) args hv) (fun b hb => by cases hb)
      generalize reach H fuelR (refsL args) [] = r at hx hn hkn
      have hr : ∀ i, i ∈ r → i < H.length := fun i hi => by
        rcases Nat.lt_or_ge i H.length with h1 | h1
        · exact h1
        · exact absurd (h.sim.out i h1) (hkn i hi)
      have hE : Hp P ⟨W, L, muR r μ, r.length⟩ [] W L (muR r μ) (restrict H r) := by
        have := Hp.start (P := P) (h.sim.part hn)
        rwa [restrict_len] at this
      split at hx
      · rename_i e st hev
        split at hx
        · rename_i x1 st1 hfin
          have hlr : (restrict H r).length = r.length := restrict_len
          have hla : (renL (place r) args).length = args.length := by rw [renL_eq, List.length_map]
          refine main (muR r μ) (renL (place r) args) (restrict H r) (by rw [hlr]; exact hE) (hv.ren _ muR_place) e st (by rw [hlr, hla]; exact hev) x1 st1 (by rw [hlr]; exact hfin) ?_
          rintro en W2 ⟨L2, μ2, q1, q2, q3⟩
          rw [hlr] at q1
          cases htd : tidy r.length x1 st1.hp with
          | mk x2 hp2 =>
          rw [htd] at hx
          simp only at hx
          cases hx
          obtain ⟨μ3, q4, q5⟩ := tidy_ok (E := ⟨W, L, muR r μ, r.length⟩) q1 q2 htd
          obtain ⟨b1, b2, b3, b4, b5⟩ := back_ok h hn hr q4
          exact ⟨L2, _, q5.ren _ (backM_back hn hr), b1, b2, b3, b4, b5⟩
        · cases hx
      · cases hx
end
end Ev
end Go.Proofs.YtlkhjnpflohfeaaDoor

/- Ranges over functions, and their rounds. -/
namespace Go.Proofs.YtlkhjnpflohfeaaDoor
open Go Go.RowKit
namespace Ev

theorem wide_inRound {P : Program} {F : Fence} (hF : Wide (P := P) F) (l : Nat) : Wide (P := P) (F.inRound l) := ⟨hF.fn, hF.depth, hF.fenced⟩

section
variable {P : Program} {E : Ent} {C : Cfg} {W W' : World} {L L' : Nat → Prop} {μ μ' : Mu} {tc tc0 : List Nat} {H : List AB} {call : CallF}

theorem pe_jump {p : Option AExit} {j : Option Code} (h : PE p j) : (p = none ∧ j = none) ∨ (∃ i, p = some (.exit i) ∧ j = some (.exit i)) ∨ (p = some .ret ∧ j = some .ret) := by
  unfold PE at h
  split at h
  · exact .inl ⟨rfl, rfl⟩
  · subst h; exact .inr (.inl ⟨_, rfl, rfl⟩)
  · exact .inr (.inr ⟨rfl, rfl⟩)
  · exact h.elim

theorem ls_eq {s : LSt} {t : LoopState} (h : LS s t) : (s = .busy ↔ t = .busy) ∧ (s = .ready ↔ t = .ready) := by
  cases s <;> cases t <;> first | exact h.elim | simp

/-- A loop's record that the evaluator holds is one of the model's. -/
theorem loop_at (h : Sim P W L μ H) {l : Nat} {r : ALoop} (hl : H[l]? = some (.loop r)) (hno : μ l ≠ .no) : ∃ B R, μ l = .at B ∧ L B ∧ W.heap[B]? = some (.loop R) ∧ BR P W L μ (.loop r) (.loop R) := by
  cases hm : μ l with
  | no => exact absurd hm hno
  | dead => cases h.dead l _ hm hl
  | «at» B =>
    obtain ⟨hL, _, blk, o, e1, e2, e3⟩ := h.live l B hm
    rw [hl] at e1; cases e1
    cases e3 with
    | loop h1 h2 h3 h4 h5 h6 h7 => exact ⟨B, _, rfl, hL, e2, .loop h1 h2 h3 h4 h5 h6 h7⟩

theorem putObj_upd {B : Nat} {R : Loop} {o' : Obj} (h : W.heap[B]? = some (.loop R)) : Upd B o' W (W.putObj B o') :=
  (setObj_upd (P := default) (o' := o') h (by intro c t f; simp)).2

/-- A loop's record is written anew. -/
theorem Hp.putLoop (h : Hp P E tc W L μ H) {l B : Nat} {R : Loop} {o' : Obj} {blk : AB} (hm : μ l = .at B) (ho : W.heap[B]? = some (.loop R)) (hb : BR P W L μ blk o') :
    Hp P E ([l].filter (· < E.pin) ++ tc) (W.putObj B o') L μ (H.set l blk) ∧ Later L L W (W.putObj B o') :=
  h.put hm ho (putObj_upd ho) (.ofCells (fun rs t f hc => by cases hc) fun _ _ => by simp) hb

theorem range_ok (hcall : CallOk P C call) {F : Fence} (hF : Wide (P := P) F) {rd : Option Nat} (hrd : RdOk E F rd) : RangeOk P E C call F rd := by
  intro g ps as bd g0 ps0 as0 bd0 st st' e a W hx hc hs
  simp only [compCode] at hc
  split at hc
  · rename_i g' a' b' k1 k2 k3
    simp only [strip] at hc
    cases hc
    obtain ⟨L, μ, h1, h2, h3⟩ := hs
    have hgv := opnd_ok h2 k1
    simp only [ev] at hx
    split at hx
    · rename_i gf first captured hval
      rw [hval] at hgv
      obtain ⟨rf, rc, hrf, _, v1, v2⟩ := vr_fn hgv
      refine wpIn_rangeFunc fun fn _ => ?_
      -- the loop is entered
      obtain ⟨d, hp0, df, W1, L1, μ1, D, mark, rec, hd, hent, q1, q2, q3, q4, q5, q6⟩ : ∃ (d : Nat) (hp0 : List AB) (df : List ADef) (W1 : World) (L1 : Nat → Prop) (μ1 : Mu) (D : Nat) (mark : List Deferred) (rec : Loop),
          (match (generalizing := false) call (.fn (.func gf) first captured) [.yield hp0.length] (hp0 ++ [.loop ⟨.ready, none, st.tm, ps0.toList, as, bd, d⟩]) with
            | some (.ret _, hp', tc) => (match (generalizing := false) hp'[hp0.length]? with
              | some (.loop r) => if r.st = .busy then none else some (r.pend.getD .normal, { st with df := df, hp := hp'.set hp0.length .dead, tc := tc.filter (· < E.pin) ++ st.tc })
              | _ => none)
            | some (.pan v, hp', tc) => some (.panic v, { st with df := df, hp := hp', tc := tc.filter (· < E.pin) ++ st.tc })
            | none => none) = some (e, st') ∧
          (Instr.enterLoop fn a.tmps ps0 as0 bd0 F.round).run P W = .ok (W1.heap.size, mark) (W1.alloc (.loop rec)) ∧
          rec = { state := .ready, pending := none, fn, tmps := a.tmps, params := ps0, assign := as0, body := bd0, defers := D } ∧
          Hp P E st.tc W1 L1 μ1 hp0 ∧ Later L L1 W W1 ∧ Ext μ μ1 ∧ (μ1 d = .at D ∨ μ1 d = .dead) ∧ DR W1 L1 μ1 df (mark ++ a.defers) := by
        cases rd with
        | none =>
          have hro : F.round = none := hrd
          have p1 := h1.push [.dfr]
          obtain ⟨p2, p3, p4⟩ := p1.mat (j := st.hp.length) (blk := .dfr) (o := .deferred (some [])) (by simp) (h1.sim.out _ (Nat.le_refl _)) h1.len .dfr
          refine ⟨_, _, _, W.alloc (.deferred (some [])), _, _, W.heap.size, [{ target := .collected W.heap.size, args := #[] }], _, hx, ?_, rfl, p2, p3, p4, .inl (updM_same ..), ?_⟩
          · rw [hro, run_enterLoop_outer]
            rw [show (W.alloc (.deferred (some []))).heap.size = W.heap.size + 1 from World.size_alloc ..]
          · exact .cons (.mark (.inl (updM_same ..))) (h3.mono p3 p4)
        | some l =>
          obtain ⟨B, hro, hlp, hEB⟩ := hrd
          simp only at hx ⊢
          cases hl : st.hp[l]? with
          | none => rw [hl] at hx; simp at hx
          | some blk =>
            rw [hl] at hx
            cases blk with
            | loop r =>
              have hno : μ l ≠ .no := by
                rcases h1.pins l hlp with e | ⟨e, _⟩
                · rw [e, hEB]; simp
                · rw [e]; simp
              obtain ⟨B', R, e1, _, e2, e3⟩ := loop_at h1.sim hl hno
              have hBB : B' = B := by
                rcases h1.pins l hlp with e | ⟨e, _⟩
                · rw [e, hEB] at e1; cases e1; rfl
                · rw [e] at e1; cases e1
              subst hBB
              refine ⟨r.dfr, st.hp, st.df, W, L, μ, R.defers, [], _, hx, ?_, rfl, h1, Later.refl _ _, Ext.refl _, ?_, h3⟩
              · rw [hro]; exact run_enterLoop_inner e2 fn a.tmps ps0 as0 bd0
              · cases e3 with
                | loop _ _ _ _ _ _ h7 => exact h7
            | _ => simp at hx
      clear hx
      have hx := hd
      clear hd
      -- its record
      have hrecbr : BR P W1 L1 μ1 (.loop ⟨.ready, none, st.tm, ps0.toList, as, bd, d⟩) (.loop rec) := by
        subst q1
        exact .loop trivial trivial ((h2.mono q3 q4).tmps) rfl k2 k3 q5
      have r1 := q2.push [.loop ⟨.ready, none, st.tm, ps0.toList, as, bd, d⟩]
      obtain ⟨r2, r3, r4⟩ := r1.mat (j := hp0.length) (o := .loop rec) (by simp) (q2.sim.out _ (Nat.le_refl _)) q2.len hrecbr
      have hyv : VR (W1.alloc (.loop rec)) (fun b => L1 b ∨ b = W1.heap.size) (updM μ1 hp0.length (.at W1.heap.size)) (.yield hp0.length) (.func (.yield W1.heap.size) #[] #[]) := .yield (updM_same ..)
      have hlat : Later L (fun b => L1 b ∨ b = W1.heap.size) W (W1.alloc (.loop rec)) := by
        refine ⟨by simp; have := q3.size; omega, fun b hb hl => ?_, fun b o0 e => ?_, fun b hb => ?_⟩
        · exact (Below.heap_alloc _ _ _ (Nat.lt_of_lt_of_le hb q3.size)).trans (q3.same b hb hl)
        · obtain ⟨rs', e1, e2⟩ := q3.shape b o0 e
          exact ⟨rs', (Below.heap_alloc _ _ _ (Array.getElem?_eq_some_iff.1 e1).1).trans e1, e2⟩
        · rcases hb with hb | rfl
          · exact q3.new b hb
          · exact .inr q3.size
      have hext : Ext μ (updM μ1 hp0.length (.at W1.heap.size)) := q4.trans r4
      have hg2 : Globs C (W1.alloc (.loop rec)) (fun b => L1 b ∨ b = W1.heap.size) := Globs.mono h2.glob hlat
      have hdr2 : DR (W1.alloc (.loop rec)) (fun b => L1 b ∨ b = W1.heap.size) (updM μ1 hp0.length (.at W1.heap.size)) df (mark ++ a.defers) := q6.mono r3 r4
      have henv2 := h2.mono hlat hext
      have hgo : ∀ {x : CRes} {hp' : List AB} {tc' : List Nat}, call (.fn (.func gf) first captured) [.yield hp0.length] (hp0 ++ [.loop ⟨.ready, none, st.tm, ps0.toList, as, bd, d⟩]) = some (x, hp', tc') →
          CallsIn F 0 P gf (rf.toArray ++ #[.func (.yield W1.heap.size) #[] #[]] ++ rc.toArray) (W1.alloc (.loop rec)) (CPost P E st.tc (W1.alloc (.loop rec)) (fun b => L1 b ∨ b = W1.heap.size) (updM μ1 hp0.length (.at W1.heap.size)) (hp0 ++ [AB.loop ⟨.ready, none, st.tm, ps0.toList, as, bd, d⟩]).length x hp' tc') ∧
          (invoke (.fn (.func gf) rc.toArray) (rf.toArray ++ #[.func (.yield W1.heap.size) #[] #[]])).run P (W1.alloc (.loop rec)) = .ok (.enter gf (rf.toArray ++ #[.func (.yield W1.heap.size) #[] #[]] ++ rc.toArray)) (W1.alloc (.loop rec)) := by
        intro x hp' tc' hcx
        have hinv : (invoke (.fn (.func gf) rc.toArray) (rf.toArray ++ #[.func (.yield W1.heap.size) #[] #[]])).run P (W1.alloc (.loop rec)) = .ok (.enter gf (rf.toArray ++ #[.func (.yield W1.heap.size) #[] #[]] ++ rc.toArray)) (W1.alloc (.loop rec)) := by
          simp only [invoke]; exact hcall.fn hcx _ _
        refine ⟨?_, hinv⟩
        obtain ⟨r, W', g1, g2⟩ := hcall.sound hcx r2 hg2 (rf := .func (.func gf) rf.toArray rc.toArray) (rargs := #[.func (.yield W1.heap.size) #[] #[]]) (by rw [← hrf]; exact hgv.mono hlat hext) (VL.cons hyv VL.nil)
        have e : (do let d ← Deferred.ofValue (.func (.func gf) rf.toArray rc.toArray) #[.func (.yield W1.heap.size) #[] #[]]; invoke d.target d.args : Sem Next).run P (W1.alloc (.loop rec)) = .ok (.enter gf (rf.toArray ++ #[.func (.yield W1.heap.size) #[] #[]] ++ rc.toArray)) (W1.alloc (.loop rec)) := by
          simp only [Deferred.ofValue, Sem.run_bind, Sem.run_pure, Result.andThen]
          exact hinv
        rw [e] at g1
        cases g1
        exact callsIn_wideF hF g2
      have hres : (resolve a.eval (rangeCall g0 W1.heap.size) 0).run P (W1.alloc (.loop rec)) = .ok { target := .fn (.func gf) rc.toArray, args := rf.toArray ++ #[.func (.yield W1.heap.size) #[] #[]] } (W1.alloc (.loop rec)) := by
        simp only [resolve, hrf]
        simp [go_sem, Deferred.ofValue]
      split at hx
      · rename_i v hp' tc' hcx
        obtain ⟨c1, c2⟩ := hgo hcx
        refine ⟨W1.heap.size, mark, _, _, _, gf, _, _, hent, hres, fun f _ => hF.fn f, c2, fun hh => by simp [hF.depth] at hh, c1.mono ?_⟩
        rintro en W3 ⟨L3, μ3, p1, p2, p3, p4, p5, p6⟩
        cases en <;> simp only [CRel] at p1
        rename_i w
        split at hx
        · rename_i r hr
          split at hx
          · cases hx
          · rename_i hnb
            have hat : μ3 hp0.length = .at W1.heap.size ∨ μ3 hp0.length = .dead := by
              have := p4 hp0.length (by rw [updM_same]; simp)
              rwa [updM_same] at this
            obtain ⟨B3, R3, e1, _, e2, e3⟩ := loop_at p2.sim hr (by rcases hat with h | h <;> rw [h] <;> simp)
            have hB : B3 = W1.heap.size := by
              rcases hat with h | h
              · rw [h] at e1; cases e1; rfl
              · rw [h] at e1; cases e1
            subst hB
            have hls : LS r.st R3.state ∧ PE r.pend R3.pending := by
              cases e3 with
              | loop h1 h2 _ _ _ _ _ => exact ⟨h1, h2⟩
            have hend := run_endLoop (P := P) e2 (fun h => hnb ((ls_eq hls.1).1.2 h))
            obtain ⟨y1, y2⟩ := p2.putLoop (o' := .loop { R3 with state := .exhausted }) (blk := .dead) e1 e2 .dead
            have hsr : SR P C E { st with df := df, hp := hp'.set hp0.length .dead, tc := tc'.filter (· < E.pin) ++ st.tc } { a with defers := mark ++ a.defers } (W3.putObj W1.heap.size (.loop { R3 with state := .exhausted })) := by
              have he := (henv2.mono p3 p4).mono y2 (Ext.refl _)
              refine ⟨L3, μ3, y1.more ?_, ⟨he.tmps, he.glob⟩, (hdr2.mono p3 p4).mono y2 (Ext.refl _)⟩
              intro i hi
              rcases List.mem_append.1 hi with hi | hi
              · have := List.mem_filter.1 hi
                simp at this
                have := q2.len
                omega
              · exact hi
            cases hx
            refine ⟨_, _, hend, ?_⟩
            clear hend y1 y2
            revert hsr
            generalize W3.putObj W1.heap.size _ = W4
            intro hsr
            rcases pe_jump hls.2 with ⟨j1, j2⟩ | ⟨i, j1, j2⟩ | ⟨j1, j2⟩ <;> rw [j1, j2]
            · exact ⟨rfl, hsr⟩
            · exact wpIn_exit ⟨rfl, hsr⟩
            · exact wpIn_ret ⟨rfl, hsr⟩
        · cases hx
      · rename_i v hp' tc' hcx
        obtain ⟨c1, c2⟩ := hgo hcx
        refine ⟨W1.heap.size, mark, _, _, _, gf, _, _, hent, hres, fun f _ => hF.fn f, c2, fun hh => by simp [hF.depth] at hh, c1.mono ?_⟩
        rintro en W3 ⟨L3, μ3, p1, p2, p3, p4, p5, p6⟩
        cases en <;> simp only [CRel] at p1
        obtain ⟨w, rfl, hw⟩ := p1
        cases hx
        have he := henv2.mono p3 p4
        exact ⟨v, w, rfl, rfl, L3, μ3, p2, ⟨he.tmps, he.glob⟩, hdr2.mono p3 p4, hw⟩
      · cases hx
    · cases hx
  · cases hc

theorem foldl_params : ∀ {ps : List Nat} {as : List AV} {xs : List Value} {tm : List AV} {tmps : Array Value}, as.length = ps.length → VL W L μ as xs → VL W L μ tm tmps.toList →
    VL W L μ (setParams tm ps as) ((ps.zip xs).foldl (fun t (p, v) => t.setIfInBounds p v) tmps).toList
  | [], [], [], tm, tmps, _, _, h => by simpa [setParams] using h
  | p :: ps, a :: as, x :: xs, tm, tmps, hl, hv, h => by
    simp only [setParams, List.zip_cons_cons, List.foldl_cons]
    refine foldl_params (by simpa using hl) hv.tail ?_
    rw [Array.toList_setIfInBounds]
    exact h.set p hv.head
  | _, [], _ :: _, _, _, _, hv, _ => by have := hv.1; simp at this
  | _, _ :: _, [], _, _, _, hv, _ => by have := hv.1; simp at this
  | [], _ :: _, _, _, _, hl, _, _ => by simp at hl
  | _ :: _, [], _, _, _, hl, _, _ => by simp at hl

theorem round_ok (hcall : CallOk P C call) {l : Nat} {args : List AV} {rf : Value} {rargs : Array Value} {x : CRes} {H' : List AB} (hx : round C call l args H = some (x, H', tc))
    (h : Hp P E tc0 W L μ H) (hg : Globs C W L) (hf : VR W L μ (.yield l) rf) (hv : VL W L μ args rargs.toList) : GoesTo P rf rargs W (CPost P E tc0 W L μ H.length x H' tc) := by
  unfold round at hx
  split at hx
  · rename_i r hl
    split at hx
    · rename_i hcond
      obtain ⟨hready, hlen⟩ := hcond
      have hno : μ l ≠ .no := by
        cases hf with
        | dead h1 h2 => simp [headRef] at h1; subst h1; rw [h2]; simp
        | yield h1 => rw [h1]; simp
      obtain ⟨B, R, hB, hLB, hR, hbr⟩ := loop_at h.sim hl hno
      have hrf : rf = .func (.yield B) #[] #[] := by
        cases hf with
        | dead h1 h2 => simp [headRef] at h1; subst h1; rw [h2] at hB; cases hB
        | yield h1 => rw [h1] at hB; cases hB; rfl
      subst hrf
      obtain ⟨b1, b2, b3, b4, b5, b6⟩ : LS r.st R.state ∧ PE r.pend R.pending ∧ VL W L μ r.tm R.tmps.toList ∧ R.params.toList = r.params ∧ compCode P R.assign = some (strip r.assign) ∧ compCode P R.body = some (strip r.body) := by
        cases hbr with
        | loop h1 h2 h3 h4 h5 h6 _ => exact ⟨h1, h2, h3, h4, h5, h6⟩
      have hsz : rargs.size = R.params.size := by
        have := hv.1
        rw [hlen, ← b4] at this
        simpa using this.symm
      have hrun : (do let d ← Deferred.ofValue (.func (.yield B) #[] #[]) rargs; invoke d.target d.args : Sem Next).run P W = .ok (.round B R.fn ((R.params.zip rargs).foldl (fun tmps (t, a) => tmps.setIfInBounds t a) R.tmps) R.assign R.body) W := by
        simp only [Deferred.ofValue, Sem.run_bind, Sem.run_pure, Result.andThen, invoke]
        rw [show (#[] ++ rargs : Array Value) = rargs by simp]
        exact run_yield hR hsz
      refine ⟨_, _, hrun, ?_⟩
      have hlt : l < H.length := (List.getElem?_eq_some_iff.1 hl).1
      have hF : Wide (P := P) (Fence.wide.inRound B) := wide_inRound ⟨fun _ => trivial, rfl, rfl⟩ B
      have hE := Hp.start (P := P) h.sim
      have hrange : RangeOk P ⟨W, L, μ, H.length⟩ C call (Fence.wide.inRound B) (some l) := range_ok hcall hF ⟨B, rfl, hlt, hB⟩
      refine roundIn_of_wpIn trivial ?_
      split at hx
      · rename_i st hev
        have hs0 : SR P C ⟨W, L, μ, H.length⟩ { tm := setParams r.tm r.params args, df := [], hp := H, tc := [] } { tmps := (R.params.zip rargs).foldl (fun tmps (t, a) => tmps.setIfInBounds t a) R.tmps, defers := [] } W := by
          refine ⟨L, μ, hE, ⟨?_, hg⟩, .nil⟩
          have := foldl_params (ps := r.params) (as := args) (xs := rargs.toList) (tm := r.tm) (tmps := R.tmps) hlen hv b3
          rw [← Array.foldl_toList, Array.toList_zip, b4]
          exact this
        refine wpIn_mono (ev_ok (E := ⟨W, L, μ, H.length⟩) hcall hF (fun hh => by simp at hh) hrange R.assign r.assign _ _ _ _ _ hev b5 hs0) ?_
        intro ex a1 W1 hsees
        split at hx
        · rename_i r1 hl1
          split at hx
          · rename_i hready1
            cases ex with
            | normal =>
              obtain ⟨_, L1, μ1, h1, h2, h3⟩ := hsees
              have hat : ∀ {tc1 W1 L1 μ1 H1}, Hp P ⟨W, L, μ, H.length⟩ tc1 W1 L1 μ1 H1 → ∀ {r1}, H1[l]? = some (.loop r1) → μ1 l = .at B ∧ ∃ R1, W1.heap[B]? = some (.loop R1) ∧ BR P W1 L1 μ1 (.loop r1) (.loop R1) := by
                intro tc1 W1 L1 μ1 H1 h1 r1 hl1
                have hpin := h1.pins l hlt
                obtain ⟨B1, R1, e1, _, e2, e3⟩ := loop_at h1.sim hl1 (by
                  rcases hpin with e | ⟨e, _⟩
                  · rw [e]; exact hno
                  · rw [e]; simp)
                rcases hpin with e | ⟨e, _⟩
                · simp only at e; rw [e, hB] at e1; cases e1; exact ⟨e.trans hB, R1, e2, e3⟩
                · rw [e] at e1; cases e1
              obtain ⟨a1', R1, e2, e3⟩ := hat h1 hl1
              obtain ⟨c1, c2, c3, c4, c5, c6, c7⟩ : LS r1.st R1.state ∧ PE r1.pend R1.pending ∧ VL W1 L1 μ1 r1.tm R1.tmps.toList ∧ R1.params.toList = r1.params ∧ compCode P R1.assign = some (strip r1.assign) ∧ compCode P R1.body = some (strip r1.body) ∧ (μ1 r1.dfr = .at R1.defers ∨ μ1 r1.dfr = .dead) := by
                cases e3 with
                | loop h1 h2 h3 h4 h5 h6 h7 => exact ⟨h1, h2, h3, h4, h5, h6, h7⟩
              have hbeg := run_beginRound (P := P) e2 ((ls_eq c1).2.1 hready1)
              refine ⟨_, hbeg, ?_⟩
              have hbusy : BR P W1 L1 μ1 (.loop { r1 with st := .busy }) (.loop { R1 with state := .busy }) := .loop trivial c2 c3 c4 c5 c6 c7
              obtain ⟨d1, d2⟩ := h1.putLoop a1' e2 hbusy
              have hs1 : SR P C ⟨W, L, μ, H.length⟩ { st with hp := st.hp.set l (.loop { r1 with st := .busy }), tc := l :: st.tc } a1 (W1.putObj B (.loop { R1 with state := .busy })) := by
                refine ⟨L1, μ1, d1.more ?_, h2.mono d2 (Ext.refl _), h3.mono d2 (Ext.refl _)⟩
                intro i hi
                rcases List.mem_append.1 hi with hi | hi
                · have := (List.mem_filter.1 hi).1; simp at this; subst this; exact List.mem_cons_self ..
                · exact List.mem_cons_of_mem _ hi
              split at hx
              · rename_i e2' st2 hev2
                refine wpIn_mono (ev_ok (E := ⟨W, L, μ, H.length⟩) hcall hF (fun hh => by simp at hh) hrange R.body r.body _ _ _ _ _ hev2 b6 hs1) ?_
                intro ex2 a2 W2 hsees2
                have hfin : ∀ (p : Option AExit) (j : Option Code), PE p j → SR P C ⟨W, L, μ, H.length⟩ st2 a2 W2 → ∀ r2, st2.hp[l]? = some (.loop r2) →
                    (let hp := st2.hp.set l (.loop { r2 with st := if p.isNone then .ready else .done, pend := p })
                     let (x, hp) := tidyC C H.length (.ret (.bool p.isNone)) hp
                     some (x, overH H hp (l :: st2.tc) ++ hp.drop H.length, l :: st2.tc)) = some (x, H', tc) →
                    ∃ v w', (Instr.endRound B j).run P W2 = .ok v w' ∧ CPost P E tc0 W L μ H.length x H' tc (.returned v) w' := by
                  rintro p j hpj ⟨L2, μ2, k1, k2, k3⟩ r2 hl2 hx
                  obtain ⟨a2', R2, f2, f3⟩ := hat k1 hl2
                  have hpn : p.isNone = j.isNone := by
                    rcases pe_jump hpj with ⟨rfl, rfl⟩ | ⟨i, rfl, rfl⟩ | ⟨rfl, rfl⟩ <;> rfl
                  refine ⟨_, _, run_endRound j f2, ?_⟩
                  have hnew : BR P W2 L2 μ2 (.loop { r2 with st := if p.isNone then .ready else .done, pend := p }) (.loop { R2 with state := if j.isNone then .ready else .done, pending := j }) := by
                    cases f3 with
                    | loop h1 h2 h3 h4 h5 h6 h7 =>
                      refine .loop ?_ hpj h3 h4 h5 h6 h7
                      rw [hpn]; split <;> trivial
                  obtain ⟨m1, m2⟩ := k1.putLoop a2' f2 hnew
                  have m3 : Hp P ⟨W, L, μ, H.length⟩ (l :: st2.tc) (W2.putObj B (.loop { R2 with state := if j.isNone then .ready else .done, pending := j })) L2 μ2 (st2.hp.set l (.loop { r2 with st := if p.isNone then .ready else .done, pend := p })) := m1.more (by
                    intro i hi
                    rcases List.mem_append.1 hi with hi | hi
                    · have := (List.mem_filter.1 hi).1; simp at this; subst this; exact List.mem_cons_self ..
                    · exact List.mem_cons_of_mem _ hi)
                  simp only at hx
                  cases htd : tidyC C H.length (.ret (.bool p.isNone)) (st2.hp.set l (.loop { r2 with st := if p.isNone then .ready else .done, pend := p })) with
                  | mk x2 hp2 =>
                  rw [htd] at hx
                  simp only at hx
                  cases hx
                  obtain ⟨μ3, n1, n2⟩ := tidyC_ok (e := .returned (.bool j.isNone)) m3 (by simp only [CRel]; rw [hpn]; exact .bool) htd
                  obtain ⟨μ4, o1, o2, o3, o4, o5, o6⟩ := whole_ok h n1
                  exact ⟨L2, μ4, n2.same o6, o1, o2, o3, o4, o5⟩
                cases ex2 with
                | normal =>
                  obtain ⟨rfl, hs2⟩ := hsees2
                  simp only at hx
                  split at hx <;> first | contradiction | skip
                  rename_i _ _ _ _ r2 hl2 _
                  exact hfin none none trivial hs2 _ hl2 hx
                | ret =>
                  obtain ⟨rfl, hs2⟩ := hsees2
                  simp only at hx
                  split at hx <;> first | contradiction | skip
                  rename_i _ _ _ _ r2 hl2 _
                  exact hfin (some .ret) (some .ret) trivial hs2 _ hl2 hx
                | exit id =>
                  obtain ⟨rfl, hs2⟩ := hsees2
                  simp only at hx
                  split at hx <;> first | contradiction | skip
                  rename_i _ _ _ _ r2 hl2 _
                  exact hfin (some (.exit id)) (some (.exit id)) rfl hs2 _ hl2 hx
                | panic ch =>
                  obtain ⟨v, w, rfl, _⟩ := hsees2
                  simp at hx
                | goto t => exact hsees2.elim
                | outgrown => exact hsees2.elim
              · cases hx
            | _ => first | exact hsees.elim | (obtain ⟨hh, _⟩ := hsees; cases hh; done) | (obtain ⟨_, _, hh, _⟩ := hsees; cases hh; done)
          · cases hx
        · cases hx
      · cases hx
    · cases hx
  · cases hx

/-- The frame of calls. -/
theorem overH_out {hp : List AB} {b : Nat} : ∀ {tc : List Nat}, b ∉ tc → (overH H hp tc)[b]? = H[b]?
  | [], _ => rfl
  | j :: tc, h => by
    simp only [overH]
    rw [List.getElem?_set_ne (by rintro rfl; exact h (List.mem_cons_self ..))]
    exact overH_out fun hm => h (List.mem_cons_of_mem _ hm)
theorem over_kept {hp : List AB} {tc : List Nat} : Kept H (overH H hp tc ++ hp.drop H.length) tc :=
  ⟨by simp [overH_len], fun b hb hn => by
    rw [List.getElem?_append_left (by rw [overH_len]; exact hb)]
    exact overH_out hn⟩
theorem enter_kept {f : Nat} {args : List AV} {x : CRes} {H' : List AB} (hx : enter C call f args H = some (x, H', tc)) : Kept H H' tc := by
  unfold enter at hx
  split at hx
  · obtain ⟨v, hgv, he⟩ := Option.map_eq_some_iff.1 hx
    cases he; exact .refl _ _
  split at hx
  · obtain ⟨v, hgv, he⟩ := Option.map_eq_some_iff.1 hx
    cases he; exact .refl _ _
  · split at hx
    · cases hx
    · cases hwh : C.whole f <;> rw [hwh] at hx <;> simp only [cond_true, cond_false] at hx
      · split at hx
        · split at hx
          · cases hx
            refine ⟨by simp [backH_len], fun b hb hn => ?_⟩
            rw [List.getElem?_append_left (by rw [backH_len]; exact hb)]
            refine backH_out hb fun j hj he => hn (List.mem_map.2 ⟨j, hj, ?_⟩)
            rw [List.getD_eq_getElem?_getD, he]; rfl
          · cases hx
        · cases hx
      · split at hx
        · split at hx
          · rename_i x1 st1 _
            cases hbq : bareQ x1.val st1.tc <;> rw [hbq] at hx <;> simp only [cond_true, cond_false] at hx
            · cases hx; exact over_kept
            · cases hx; exact .refl _ _
          · cases hx
        · cases hx
theorem round_kept {l : Nat} {args : List AV} {x : CRes} {H' : List AB} (hx : round C call l args H = some (x, H', tc)) : Kept H H' tc := by
  unfold round at hx
  repeat' split at hx
  all_goals first | (cases hx; done) | skip
  all_goals
    simp only at hx
    cases hx
    exact over_kept

/-- CALLS: what the evaluator comes to is what the model does. -/
theorem call_ok (hT : TblOk P C) : ∀ n, CallOk P C (Ev.call C n)
  | 0 => ⟨fun f args H x H' tc h => (by simp [Ev.call] at h), fun h => (by simp [Ev.call] at h), fun h => (by simp [Ev.call] at h)⟩
  | n + 1 => by
    have ih := call_ok hT n
    have hrange : ∀ E, RangeOk P E C (Ev.call C n) Fence.wide none := fun E => range_ok ih ⟨fun _ => trivial, rfl, rfl⟩ rfl
    have hfn : ∀ {f : Nat} {args : List AV} {H : List AB} {r : CRes × List AB × List Nat}, enter C (Ev.call C n) f args H = some r → ∀ (rargs : Array Value) (W : World), (callFunc f rargs).run P W = .ok (.enter f rargs) W := by
      intro f args H r hx rargs W
      unfold enter at hx
      split at hx
      · rename_i g hext
        obtain ⟨⟨F, f1, f2, f3⟩, _⟩ := hT.ext f g hext
        exact callFunc_enter f1 f2 f3 _ _
      · split at hx
        · rename_i g hext
          obtain ⟨⟨F, f1, f2, f3⟩, _⟩ := hT.exth f g hext
          exact callFunc_enter f1 f2 f3 _ _
        split at hx
        · cases hx
        · rename_i fn hfn
          obtain ⟨F, f1, f2, f3⟩ := hT.fns f fn hfn
          obtain ⟨c, g1, _⟩ := compFn_ok f3
          exact callFunc_enter f1 f2 (by rw [g1]; rfl) _ _
    refine ⟨fun f args H x H' tc hx => ?_, fun {f first captured args H r} hx => ?_, ?_⟩
    · simp only [Ev.call] at hx
      split at hx
      · exact enter_kept hx
      · exact round_kept hx
      · cases hx
    · simp only [Ev.call] at hx
      exact hfn hx
    · intro E tc0 W L μ H f args rf rargs x H' tc hx h hg hf hv
      simp only [Ev.call] at hx
      split at hx
      · rename_i f first captured
        obtain ⟨r1, r2, rfl, _, v1, v2⟩ := vr_fn hf
        have hinv : (do let d ← Deferred.ofValue (.func (.func f) r1.toArray r2.toArray) rargs; invoke d.target d.args : Sem Next).run P W = .ok (.enter f (r1.toArray ++ rargs ++ r2.toArray)) W := by
          simp only [Deferred.ofValue, Sem.run_bind, Sem.run_pure, Result.andThen, invoke]
          exact hfn hx _ _
        refine ⟨_, _, hinv, ?_⟩
        refine enter_ok hT ih hrange hx h hg ?_
        simp only [Array.toList_append]
        exact (v1.append hv).append v2
      · exact round_ok ih hx h hg hf hv
      · cases hx
end
end Ev
end Go.Proofs.YtlkhjnpflohfeaaDoor

/- Plain laws of the spans of package cut: bounds. -/
namespace Go.Proofs.YtlkhjnpflohfeaaDoor.Cut
open Go.Proofs.YtlkhjnpflohfeaaDoor

def Bd (w : Int × Int) : Prop := -1048576 ≤ w.1 ∧ w.1 ≤ 1048576 ∧ -1048576 ≤ w.2 ∧ w.2 ≤ 1048576
theorem dry_bd : Bd dry := by unfold Bd dry; simp
theorem common_bd {a b : Int × Int} (ha : Bd a) (hb : Bd b) : Bd (common a b) := by
  unfold common; split
  · unfold Bd at *; simp only; omega
  · exact dry_bd
theorem after_bd (b : Int × Int) {most : Int} (w : Int × Int) (h0 : 0 ≤ most) (h1 : most ≤ 100) : Bd (after b most w) := by
  unfold after; split
  · unfold Bd held; simp only; omega
  · exact dry_bd
theorem common0_bd {most : Int} (z : Int × Int) (h0 : 0 ≤ most) (h1 : most ≤ 100) : Bd (common (0, most) z) := by
  unfold common
  by_cases h : max (0, most).1 z.1 ≤ min (0, most).2 z.2
  · rw [if_pos h]; simp only at h; unfold Bd; simp only; omega
  · rw [if_neg h]; exact dry_bd
theorem before_bd (b : Int × Int) {most : Int} (w : Int × Int) (h0 : 0 ≤ most) (h1 : most ≤ 100) : Bd (before b most w) := by
  unfold before
  by_cases h : w.1 ≤ w.2
  · rw [if_pos h]; exact common0_bd _ h0 h1
  · rw [if_neg h]; exact dry_bd

/-- What a valid cut is. -/
structure Valid (x : CutD) : Prop where
  n1 : 1 ≤ x.rain.length
  n8 : x.rain.length ≤ 8
  m1 : 1 ≤ x.most
  m100 : x.most ≤ 100
  d0 : 0 ≤ x.depth.1
  d1 : x.depth.1 ≤ x.depth.2
  d2 : x.depth.2 ≤ x.most
  l0 : 0 ≤ x.leak.1
  l1 : x.leak.1 ≤ x.leak.2
  l2 : x.leak.2 ≤ 10
  b4 : x.boats.length ≤ 4
  k5 : x.looks.length ≤ 5
  rain : ∀ i, i < x.rain.length → 0 ≤ (spanAt x.rain i).1 ∧ (spanAt x.rain i).1 ≤ (spanAt x.rain i).2 ∧ (spanAt x.rain i).2 ≤ 30
  boat : ∀ i, i < x.boats.length → 0 ≤ (boatAt x.boats i).draws.1 ∧ (boatAt x.boats i).draws.1 ≤ (boatAt x.boats i).draws.2 ∧ (boatAt x.boats i).draws.2 ≤ 100 ∧ 0 ≤ (boatAt x.boats i).per ∧ (boatAt x.boats i).per ≤ 10 ∧ 0 ≤ (boatAt x.boats i).room ∧ (boatAt x.boats i).room ≤ 10
  look : ∀ i, i < x.looks.length → 0 ≤ (lookAt x.looks i).day ∧ (lookAt x.looks i).day ≤ x.rain.length ∧ 0 ≤ (lookAt x.looks i).depth.1 ∧ (lookAt x.looks i).depth.1 ≤ (lookAt x.looks i).depth.2 ∧ (lookAt x.looks i).depth.2 ≤ 100

theorem getD_mem {α : Type} (l : List α) (i : Nat) (d : α) (h : i < l.length) : l.getD i d ∈ l := by
  simp [h]

theorem valid_of {x : CutD} (h : valid x = true) : Valid x := by
  simp only [valid, within, isSpan, Bool.and_eq_true, decide_eq_true_eq, List.all_eq_true] at h
  obtain ⟨⟨⟨⟨⟨⟨⟨⟨h1, h2⟩, h3⟩, h4⟩, h5⟩, h6⟩, h7⟩, h8⟩, h9⟩ := h
  refine ⟨by omega, by omega, by omega, by omega, by omega, by omega, by omega, by omega, by omega, by omega, by omega, by omega, ?_, ?_, ?_⟩
  · intro i hi
    have := h7 _ (getD_mem x.rain i (0, 0) hi)
    unfold spanAt; omega
  · intro i hi
    have := h8 _ (getD_mem x.boats i nobody hi)
    unfold boatAt; omega
  · intro i hi
    have := h9 _ (getD_mem x.looks i noLook hi)
    unfold lookAt; omega

theorem lookedTo_bd {x : CutD} (h : Valid x) (d : Int) (set : Nat) {w : Int × Int} (hw : Bd w) : ∀ k, k ≤ x.looks.length → Bd (lookedTo x.looks d set w k)
  | 0, _ => hw
  | k + 1, hk => by
    have ih := lookedTo_bd h d set hw k (by omega)
    unfold lookedTo
    split
    · refine common_bd ih ?_
      have := h.look k (by omega)
      unfold Bd; omega
    · exact ih
theorem looked_bd {x : CutD} (h : Valid x) (d : Int) (set : Nat) {w : Int × Int} (hw : Bd w) : Bd (looked x.looks d set w) := lookedTo_bd h d set hw _ (Nat.le_refl _)
theorem forth_bd {x : CutD} (h : Valid x) (leak : Int) (set : Nat) : ∀ d, Bd (forth x leak set d)
  | 0 => looked_bd h _ _ (by have := h.d0; have := h.d1; have := h.d2; have := h.m100; unfold Bd; omega)
  | d + 1 => looked_bd h _ _ (after_bd _ _ (by have := h.m1; omega) h.m100)
theorem back_bd {x : CutD} (h : Valid x) (leak : Int) (set n : Nat) : ∀ k, Bd (back x leak set n k)
  | 0 => forth_bd h _ _ _
  | k + 1 => common_bd (forth_bd h _ _ _) (before_bd _ _ (by have := h.m1; omega) h.m100)
theorem seasonAt_bd {x : CutD} (h : Valid x) (leak : Int) (set d : Nat) : Bd (seasonAt x leak set d) := by
  unfold seasonAt; split
  · exact back_bd h _ _ _ _
  · unfold Bd; simp
end Go.Proofs.YtlkhjnpflohfeaaDoor.Cut

/- Plain functions: what the stable sort of Go's library does with a list. No program in sight. -/
namespace Go.Proofs.YtlkhjnpflohfeaaDoor
namespace Srt
def at' (l : List Nat) (i : Nat) : Nat := l.getD i 0
def swap (l : List Nat) (i j : Nat) : List Nat := (l.set i (at' l j)).set j (at' l i)
theorem swap_length (l : List Nat) (i j : Nat) : (swap l i j).length = l.length := by simp [swap]
/-- data[a + k] goes down as long as it is less. -/
def insDown (c : Nat → Nat → Int) (a : Nat) (l : List Nat) : Nat → List Nat
  | 0 => l
  | k + 1 => if c (at' l (a + (k + 1))) (at' l (a + k)) < 0 then insDown c a (swap l (a + (k + 1)) (a + k)) k else l
def insTo (c : Nat → Nat → Int) (a : Nat) (l : List Nat) : Nat → List Nat
  | 0 => l
  | m + 1 => insDown c a (insTo c a l m) (m + 1)
def insertion (c : Nat → Nat → Int) (l : List Nat) (a b : Nat) : List Nat := insTo c a l (b - a - 1)
theorem insDown_length (c : Nat → Nat → Int) (a : Nat) : ∀ (k : Nat) (l : List Nat), (insDown c a l k).length = l.length
  | 0, l => rfl
  | k + 1, l => by
    unfold insDown; split
    · rw [insDown_length c a k, swap_length]
    · rfl
theorem insTo_length (c : Nat → Nat → Int) (a : Nat) (l : List Nat) : ∀ m, (insTo c a l m).length = l.length
  | 0 => rfl
  | m + 1 => by unfold insTo; rw [insDown_length, insTo_length c a l m]
/-- All elements suit. -/
def All (D : Nat → Prop) (l : List Nat) : Prop := ∀ i, i < l.length → D (at' l i)
theorem All.swap {D : Nat → Prop} {l : List Nat} (h : All D l) {i j : Nat} (hi : i < l.length) (hj : j < l.length) : All D (swap l i j) := by
  intro k hk
  rw [swap_length] at hk
  unfold Srt.swap at' at *
  rw [List.getD_eq_getElem?_getD, List.getElem?_set]
  split
  · subst_vars; simp [hj]; have := h i hi; simpa [at', hi] using this
  · rw [List.getElem?_set]
    split
    · subst_vars; simp; have := h j hj; simpa [at', hj] using this
    · have := h k hk; simpa [at', hk] using this
theorem All.insDown {D : Nat → Prop} (c : Nat → Nat → Int) (a : Nat) : ∀ (k : Nat) (l : List Nat), All D l → a + k < l.length → All D (insDown c a l k)
  | 0, l, h, _ => h
  | k + 1, l, h, hk => by
    unfold Srt.insDown; split
    · exact All.insDown c a k _ (h.swap hk (by omega)) (by rw [swap_length]; omega)
    · exact h
theorem All.insTo {D : Nat → Prop} (c : Nat → Nat → Int) (a : Nat) (l : List Nat) (h : All D l) : ∀ m, a + m < l.length → All D (insTo c a l m)
  | 0, _ => h
  | m + 1, hm => by
    unfold Srt.insTo
    exact All.insDown c a (m + 1) _ (All.insTo c a l h m (by omega)) (by rw [insTo_length]; exact hm)
/-- How many bits are set, of the first so many. -/
def popcA : Nat → Nat → Nat
  | 0, _ => 0
  | f + 1, n => n % 2 + popcA f (n / 2)
def popc (n : Nat) : Nat := popcA 16 n
/-- The difference of two sets' sizes. -/
def bySize (a b : Nat) : Int := (popc a : Int) - (popc b : Int)
theorem popcA_le : ∀ f n, popcA f n ≤ f
  | 0, _ => Nat.le_refl _
  | f + 1, n => by
    have := popcA_le f (n / 2)
    unfold popcA; omega
theorem popc_le (n : Nat) : popc n ≤ 16 := popcA_le 16 n
end Srt
end Go.Proofs.YtlkhjnpflohfeaaDoor

/- Plain functions: what the exported functions of package cut answer. No program in sight. -/
namespace Go.Proofs.YtlkhjnpflohfeaaDoor
namespace Cut
/-- How many of the first n suit, one after the other. -/
def lead (p : Nat → Bool) : Nat → Nat
  | 0 => 0
  | n + 1 => if lead p n = n ∧ p n = true then n + 1 else lead p n
theorem lead_all (p : Nat → Bool) : ∀ n, (∀ i, i < n → p i = true) → lead p n = n
  | 0, _ => rfl
  | n + 1, h => by
    unfold lead
    rw [if_pos ⟨lead_all p n fun i hi => h i (by omega), h n (by omega)⟩]
theorem lead_stop (p : Nat → Bool) (k : Nat) (hk : p k = false) (h : ∀ i, i < k → p i = true) : ∀ n, k < n → lead p n = k
  | 0, hn => by omega
  | n + 1, hn => by
    unfold lead
    by_cases hkn : k < n
    · rw [lead_stop p k hk h n hkn, if_neg (by omega)]
    · obtain rfl : k = n := by omega
      rw [lead_all p k h, if_neg (by simp [hk])]
/-- Whether a boat floats, of a span of depths. -/
def floats (b : Boat) (loads : Int) (s : Int × Int) : Int := if b.draws.2 + b.per * loads ≤ s.1 then 2 else if b.draws.1 + b.per * loads ≤ s.2 then 1 else 0
def suits (x : CutD) (k d : Nat) (sure : Int) (i : Nat) : Bool := decide (sure ≤ floats (boatAt x.boats k) i (water x d))
def loads (x : CutD) (k d : Nat) (sure : Int) : Int := (lead (suits x k d sure) ((boatAt x.boats k).room.toNat + 1) : Nat) - 1
/-- The set of those of the first n that suit. -/
def setTo (p : Nat → Bool) : Nat → Nat
  | 0 => 0
  | n + 1 => if p n then setTo p n + 2 ^ n else setTo p n
theorem setTo_lt (p : Nat → Bool) : ∀ n, setTo p n < 2 ^ n
  | 0 => by simp [setTo]
  | n + 1 => by
    have := setTo_lt p n
    unfold setTo
    rw [Nat.pow_succ]
    split <;> omega
def floatsOn (x : CutD) (k : Nat) (n : Int) (d : Nat) : Int := floats (boatAt x.boats k) n (water x d)
def daysAll (x : CutD) (k : Nat) (n : Int) : Nat := setTo (fun d => floatsOn x k n d == 2) (x.rain.length + 1)
def daysSome (x : CutD) (k : Nat) (n : Int) : Nat := setTo (fun d => floatsOn x k n d != 0) (x.rain.length + 1)
theorem floats_or (b : Boat) (n : Int) (s : Int × Int) : floats b n s = 0 ∨ floats b n s = 1 ∨ floats b n s = 2 := by
  unfold floats; split
  · exact .inr (.inr rfl)
  · split
    · exact .inr (.inl rfl)
    · exact .inl rfl
/-- The first one from i on, of so many, that suits. -/
def findFrom (p : Nat → Bool) (i : Nat) : Nat → Option Nat
  | 0 => none
  | f + 1 => if p i then Option.some i else findFrom p (i + 1) f
def untilOn (x : CutD) (k : Nat) (n : Int) (d : Nat) : Option Nat := findFrom (fun i => floatsOn x k n i == 2) d (x.rain.length + 1 - d)
/-- The loads of the first so many boats. -/
def sumTo (x : CutD) (d : Nat) : Nat → Int
  | 0 => 0
  | k + 1 => sumTo x d k + max 0 (loads x k d 2)
def togetherOn (x : CutD) (d : Nat) : Int := sumTo x d x.boats.length
theorem lead_le (p : Nat → Bool) : ∀ n, lead p n ≤ n
  | 0 => Nat.le_refl _
  | n + 1 => by
    have := lead_le p n
    unfold lead; split <;> omega
theorem loads_le {x : CutD} (hv : valid x = true) (k d : Nat) (hk : k < x.boats.length) (s : Int) : -1 ≤ loads x k d s ∧ loads x k d s ≤ 10 := by
  have hb := (valid_of hv).boat k hk
  have := lead_le (suits x k d s) ((boatAt x.boats k).room.toNat + 1)
  unfold loads; omega
theorem sumTo_le {x : CutD} (hv : valid x = true) (d : Nat) : ∀ k, k ≤ x.boats.length → 0 ≤ sumTo x d k ∧ sumTo x d k ≤ 10 * k
  | 0, _ => by simp [sumTo]
  | k + 1, hk => by
    have h1 := sumTo_le hv d k (by omega)
    have h2 := loads_le hv k d (by omega) 2
    unfold sumTo; omega
def leakSpans (x : CutD) : List (Int × Int) := ((leaks x).filter fun k => some (seasonAt x k (every x) 0)).map fun k => (k, k)
def leakSpan (x : CutD) : Int × Int := joined (leakSpans x)
theorem leakSpans_pos (x : CutD) (hc : can x (every x) = true) : 0 < (leakSpans x).length := by
  unfold can at hc
  obtain ⟨k, hk, hs⟩ := List.any_eq_true.1 hc
  refine List.length_pos_of_mem (a := (k, k)) (List.mem_map.2 ⟨k, List.mem_filter.2 ⟨hk, hs⟩, rfl⟩)
end Cut
/-- The error, but for the named one: what a call answers ahead of all else. -/
def toldErr (x : CutD) (b : Bool) : Int := if Cut.valid x = false then 1 else if b = false then 2 else if Cut.can x (Cut.every x) = false then 10 else 0
theorem toldErr_bad {x : CutD} {b : Bool} (h : Cut.valid x = false) : toldErr x b = 1 := if_pos h
theorem toldErr_range {x : CutD} (h : Cut.valid x = true) : toldErr x false = 2 := by unfold toldErr; rw [if_neg (by simp [h]), if_pos rfl]
theorem toldErr_clash {x : CutD} (h : Cut.valid x = true) (hc : Cut.can x (Cut.every x) = false) : toldErr x true = 10 := by unfold toldErr; rw [if_neg (by simp [h]), if_neg (by simp), if_pos hc]
theorem toldErr_ok {x : CutD} (h : Cut.valid x = true) (hc : Cut.can x (Cut.every x) = true) : toldErr x true = 0 := by unfold toldErr; rw [if_neg (by simp [h]), if_neg (by simp), if_neg (by simp [hc])]

def depthR (x : CutD) (d : Int) : (Int × Int) × Int := if toldErr x (Cut.isDay x d) = 0 then (Cut.water x d.toNat, 0) else ((0, 0), toldErr x (Cut.isDay x d))

def leakR (x : CutD) : (Int × Int) × Int := if toldErr x true = 0 then (Cut.leakSpan x, 0) else ((0, 0), toldErr x true)
theorem boat_of {x : CutD} {b : Int} (h : Cut.isBoat x b = true) : ∃ k : Nat, b = k ∧ k < x.boats.length := by
  have h0 : 0 ≤ b ∧ b ≤ (x.boats.length : Int) - 1 := by simpa [Cut.isBoat, Cut.within] using h
  exact ⟨b.toNat, by omega, by omega⟩
theorem day_of {x : CutD} {d : Int} (h : Cut.isDay x d = true) : ∃ k : Nat, d = k ∧ k ≤ x.rain.length := by
  have h0 : 0 ≤ d ∧ d ≤ (x.rain.length : Int) := by simpa [Cut.isDay, Cut.within] using h
  exact ⟨d.toNat, by omega, by omega⟩

def loadsR (x : CutD) (b d : Int) : (Int × Int) × Int :=
  if toldErr x (Cut.isBoat x b && Cut.isDay x d) = 0 then ((Cut.loads x b.toNat d.toNat 2, Cut.loads x b.toNat d.toNat 1), 0) else ((0, 0), toldErr x (Cut.isBoat x b && Cut.isDay x d))

def isB (x : CutD) (b n d : Int) : Bool := Cut.isLoads x b n && Cut.isDay x d
def floatsR (x : CutD) (b n d : Int) : Int × Int := if toldErr x (isB x b n d) = 0 then (Cut.floats (Cut.boatAt x.boats b.toNat) n (Cut.water x d.toNat), 0) else (0, toldErr x (isB x b n d))
theorem loads_of {x : CutD} {b n : Int} (hv : Cut.valid x = true) (h : Cut.isLoads x b n = true) : ∃ k m : Nat, b = k ∧ k < x.boats.length ∧ n = m ∧ (m : Int) ≤ (Cut.boatAt x.boats k).room ∧ m ≤ 10 := by
  have h0 : Cut.isBoat x b = true ∧ 0 ≤ n ∧ n ≤ (Cut.boat x b).room := by simpa [Cut.isLoads, Cut.within] using h
  obtain ⟨k, rfl, hk⟩ := boat_of h0.1
  have hb := (Cut.valid_of hv).boat k hk
  have h1 : (Cut.boat x k).room = (Cut.boatAt x.boats k).room := rfl
  exact ⟨k, n.toNat, rfl, hk, by omega, by omega, by omega⟩

def daysR (x : CutD) (b n : Int) : (Int × Int) × Int := if toldErr x (Cut.isLoads x b n) = 0 then (((Cut.daysAll x b.toNat n : Nat), (Cut.daysSome x b.toNat n : Nat)), 0) else ((0, 0), toldErr x (Cut.isLoads x b n))

def untilV (o : Option Nat) : Int × Int := match o with | some i => (i, 0) | none => (0, 4)
def untilR (x : CutD) (b n d : Int) : Int × Int := if toldErr x (isB x b n d) = 0 then untilV (Cut.untilOn x b.toNat n d.toNat) else (0, toldErr x (isB x b n d))

def togetherR (x : CutD) (d : Int) : Int × Int := if toldErr x (Cut.isDay x d) = 0 then (Cut.togetherOn x d.toNat, 0) else (0, toldErr x (Cut.isDay x d))

/-- Is there far too much of something? -/
def farD (x : CutD) : Bool := decide (40 < max (max (x.rain.length : Int) x.boats.length) x.looks.length)
def fineD (x : CutD) : Bool := !farD x && Cut.valid x

namespace Srt
/-- All sets of k looks, the smaller ones first. -/
def sizeSets (k : Nat) : List Nat := (List.range (k + 1)).flatMap fun s => (List.range (2 ^ k)).filter fun v => popc v == s
end Srt
/-- The set that Clash returns, if there is no truth. -/
def clashSet (x : CutD) : Nat := Srt.at' (Srt.sizeSets x.looks.length) (Cut.lead (fun i => Cut.can x (Srt.at' (Srt.sizeSets x.looks.length) i)) (2 ^ x.looks.length))
def clashR (x : CutD) : Int × Int := if Cut.valid x = false then (0, 1) else if Cut.can x (Cut.every x) = true then (0, 4) else ((clashSet x : Nat), 0)

end Go.Proofs.YtlkhjnpflohfeaaDoor

/- What the functions of package cut answer, as the evaluator is told; numbers. -/
namespace Go.Proofs.YtlkhjnpflohfeaaDoor
open Go
namespace Ev
/-- What the exported functions answer: their values, and the error. -/
structure Api where
  depth : CutD → Int → (Int × Int) × Int
  leak : CutD → (Int × Int) × Int
  floats : CutD → Int → Int → Int → Int × Int
  loads : CutD → Int → Int → (Int × Int) × Int
  days : CutD → Int → Int → (Int × Int) × Int
  wait : CutD → Int → Int → Int → Int × Int
  together : CutD → Int → Int × Int
  clash : CutD → Int × Int
  fine : CutD → Bool
  far : CutD → Bool
  valid : CutD → Bool
def twoA (r : Int × Int) : AV := .tup [.int .i64 r.1, .int .i64 r.2]
def twoS (r : (Int × Int) × Int) : AV := .tup [.agg [.int .i64 r.1.1, .int .i64 r.1.2], .int .i64 r.2]
def three (r : (Int × Int) × Int) : AV := .tup [.int .i64 r.1.1, .int .i64 r.1.2, .int .i64 r.2]
/-- Calls that answer so. -/
structure ApiOk (call : CallF) (A : Api) : Prop where
  depth : ∀ {H v c}, cutOf H v = some c → ∀ d, call (.fn (.func 14) [] []) [v, .int .i64 d] H = some (.ret (twoS (A.depth c d)), H, [])
  leak : ∀ {H v c}, cutOf H v = some c → call (.fn (.func 16) [] []) [v] H = some (.ret (twoS (A.leak c)), H, [])
  floats : ∀ {H v c}, cutOf H v = some c → ∀ b n d, call (.fn (.func 18) [] []) [v, .int .i64 b, .int .i64 n, .int .i64 d] H = some (.ret (twoA (A.floats c b n d)), H, [])
  loads : ∀ {H v c}, cutOf H v = some c → ∀ b d, call (.fn (.func 20) [] []) [v, .int .i64 b, .int .i64 d] H = some (.ret (three (A.loads c b d)), H, [])
  days : ∀ {H v c}, cutOf H v = some c → ∀ b n, call (.fn (.func 22) [] []) [v, .int .i64 b, .int .i64 n] H = some (.ret (three (A.days c b n)), H, [])
  wait : ∀ {H v c}, cutOf H v = some c → ∀ b n d, call (.fn (.func 24) [] []) [v, .int .i64 b, .int .i64 n, .int .i64 d] H = some (.ret (twoA (A.wait c b n d)), H, [])
  together : ∀ {H v c}, cutOf H v = some c → ∀ d, call (.fn (.func 26) [] []) [v, .int .i64 d] H = some (.ret (twoA (A.together c d)), H, [])
  clash : ∀ {H v c}, cutOf H v = some c → call (.fn (.func 28) [] []) [v] H = some (.ret (twoA (A.clash c)), H, [])
  fine : ∀ {H v c}, cutOf H v = some c → call (.fn (.func 30) [] []) [v] H = some (.ret (.bool (A.fine c)), H, [])
  awake : ∀ {H}, call (.fn (.func 13) [] []) [] H = some (.ret (.bool true), H, [])
  far : ∀ {H v c}, cutOf H v = some c → call (.fn (.func 34) [] []) [v] H = some (.ret (.bool (A.far c)), H, [])
  valid : ∀ {H v c}, cutOf H v = some c → call (.fn (.func 35) [] []) [v] H = some (.ret (.bool (A.valid c)), H, [])
  span : ∀ {H} {a b : Int}, call (.fn (.func 36) [] []) [.int .i64 a, .int .i64 b] H = some (.ret (.agg [.int .i64 a, .int .i64 b]), H, [])
  look : ∀ {H} {d a b : Int}, call (.fn (.func 37) [] []) [.int .i64 d, .int .i64 a, .int .i64 b] H = some (.ret (.agg [.int .i64 d, .int .i64 a, .int .i64 b]), H, [])
  inside : ∀ {H} {n a b : Int}, call (.fn (.func 33) [] []) [.int .i64 n, .agg [.int .i64 a, .int .i64 b]] H = some (.ret (.bool (Cut.within n a b)), H, [])
theorem cutOf_mk (H : List AB) (a b k l m : Int) (r : List (Int × Int)) (bs : List Boat) (ls : List Look) :
    cutOf H (.agg [.int .i64 a, .int .i64 b, .int .i64 k, .int .i64 l, .vs 2 (r.map spanE), .int .i64 m, .vs 4 (bs.map boatE), .vs 3 (ls.map lookE)]) = some ⟨(a, b), (k, l), r, m, bs, ls⟩ := cutOf_cutA H ⟨(a, b), (k, l), r, m, bs, ls⟩
/-- Numbers that are small enough are what they are. -/
theorem wrap_in {n : Int} (h1 : -9223372036854775808 ≤ n) (h2 : n ≤ 9223372036854775807) : IntKind.i64.wrap n = n := by
  simp [IntKind.wrap, IntKind.bits, IntKind.signed]
  split <;> omega
theorem wrap_u8 {n : Int} (h1 : 0 ≤ n) (h2 : n ≤ 255) : IntKind.i64.wrap n = n := wrap_in (by omega) (by omega)
/-- The last bit. -/
theorem and_one {x : Int} (h1 : 0 ≤ x) (h2 : x < 4611686018427387904) : IntKind.i64.wrap ((BitVec.ofInt IntKind.i64.bits x &&& BitVec.ofInt IntKind.i64.bits 1).toNat) = x % 2 := by
  obtain ⟨n, rfl⟩ := Int.eq_ofNat_of_zero_le h1
  have e : (BitVec.ofInt IntKind.i64.bits (n : Int) &&& BitVec.ofInt IntKind.i64.bits 1).toNat = n % 2 := by
    have hb : IntKind.i64.bits = 64 := rfl
    rw [hb]
    have h1 : (BitVec.ofInt 64 (n : Int)).toNat = n := by
      rw [BitVec.toNat_ofInt]; omega
    have h2 : (BitVec.ofInt 64 1).toNat = 1 := by decide
    rw [BitVec.toNat_and, h1, h2, Nat.and_one_is_mod]
  rw [e, wrap_in (by omega) (by omega)]
  omega
theorem fdiv_pow (n d : Nat) : ((n : Int).fdiv (2 ^ d)) = ((n / 2 ^ d : Nat) : Int) := by
  rw [Int.fdiv_eq_ediv_of_nonneg _ (Int.pow_nonneg (by decide))]
  simp
/-- Bit d of a number. -/
theorem bit_and {n d : Nat} (h : n < 4611686018427387904) (hd : d ≤ 64) : IntKind.i64.wrap ((BitVec.ofInt IntKind.i64.bits ((n : Int).fdiv (2 ^ (min ((d : Int).toNat) IntKind.i64.bits))) &&& BitVec.ofInt IntKind.i64.bits 1).toNat) = if n.testBit d then 1 else 0 := by
  have hb : IntKind.i64.bits = 64 := rfl
  rw [show min ((d : Int).toNat) IntKind.i64.bits = d by rw [hb]; omega, fdiv_pow]
  have hle : n / 2 ^ d ≤ n := Nat.div_le_self _ _
  rw [Nat.testBit_eq_decide_div_mod_eq]
  generalize n / 2 ^ d = q at *
  rw [and_one (by omega) (by omega)]
  by_cases hm : q % 2 = 1
  · simp [hm]; omega
  · simp [hm]; omega
end Ev
end Go.Proofs.YtlkhjnpflohfeaaDoor
