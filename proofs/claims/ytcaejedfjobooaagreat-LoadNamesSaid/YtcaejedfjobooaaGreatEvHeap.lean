/- Steps of the heap. -/
import Derived.Test.YtcaejedfjobooaaGreatEvSim
namespace Go.Proofs.YtcaejedfjobooaaGreat
open Go Go.RowKit
namespace Ev

/-- One block is written anew, the rest is as it was. -/
structure Upd (B : Nat) (o' : Obj) (W W' : World) : Prop where
  size : W'.heap.size = W.heap.size
  at_ : W'.heap[B]? = some o'
  other : ∀ b, b ≠ B → W'.heap[b]? = W.heap[b]?
  env : W'.os = W.os ∧ W'.tape = W.tape ∧ W'.output = W.output

def updM (μ : Mu) (j : Nat) (r : MR) : Mu := fun i => if i = j then r else μ i
@[simp] theorem updM_same (μ : Mu) (j : Nat) (r : MR) : updM μ j r j = r := if_pos rfl
theorem updM_ne (μ : Mu) {j i : Nat} (r : MR) (h : i ≠ j) : updM μ j r i = μ i := if_neg h

theorem Ext.upd {μ : Mu} {j : Nat} (r : MR) (h : μ j = .no) : Ext μ (updM μ j r) := fun i hi => by
  by_cases e : i = j
  · subst e; exact absurd h hi
  · exact .inl (updM_ne μ r e)
theorem Ext.kill (μ : Mu) (j : Nat) : Ext μ (updM μ j .dead) := fun i hi => by
  by_cases e : i = j
  · subst e; exact .inr (updM_same ..)
  · exact .inl (updM_ne μ _ e)

structure Ent where
  W : World
  L : Nat → Prop
  μ : Mu
  pin : Nat

/-- Where a call of function stands: its heap, the world, and what has become of what was there at its beginning. -/
structure Hp (P : Program) (E : Ent) (tc : List Nat) (W : World) (L : Nat → Prop) (μ : Mu) (H : List AB) : Prop where
  sim : Sim P W L μ H
  pins : ∀ i, i < E.pin → μ i = E.μ i ∨ (μ i = .dead ∧ i ∈ tc ∧ E.μ i ≠ .no)
  own : ∀ j B, E.pin ≤ j → μ j = .at B → E.W.heap.size ≤ B ∨ ∃ i, i ∈ tc ∧ E.μ i = .at B
  same : ∀ b, b < E.W.heap.size → (∀ i, i ∈ tc → E.μ i ≠ .at b) → W.heap[b]? = E.W.heap[b]?
  size : E.W.heap.size ≤ W.heap.size
  shape : ∀ (b : Nat) (rs : Array Value) (t : TypeId) (f : Nat × Nat), E.W.heap[b]? = some (.cells rs t f) → ∃ rs', W.heap[b]? = some (.cells rs' t f) ∧ rs'.size = rs.size
  keep : ∀ b, E.L b → L b
  new : ∀ b, L b → E.L b ∨ E.W.heap.size ≤ b
  env : W.os = E.W.os ∧ W.tape = E.W.tape ∧ W.output = E.W.output
  len : E.pin ≤ H.length

section
variable {P : Program} {E : Ent} {tc tc' : List Nat} {W W' : World} {L : Nat → Prop} {μ : Mu} {H : List AB}

theorem Hp.more (h : Hp P E tc W L μ H) (ht : ∀ i, i ∈ tc → i ∈ tc') : Hp P E tc' W L μ H :=
  { h with
    pins := fun i hi => (h.pins i hi).imp id fun ⟨a, b, c⟩ => ⟨a, ht _ b, c⟩
    own := fun j B hj hm => (h.own j B hj hm).imp id fun ⟨i, a, b⟩ => ⟨i, ht _ a, b⟩
    same := fun b hb hn => h.same b hb fun i hi => hn i (ht _ hi) }

theorem Hp.env' (h : Hp P E tc W L μ H) (h1 : W'.heap = W.heap) (h2 : W'.os = W.os ∧ W'.tape = W.tape ∧ W'.output = W.output) : Hp P E tc W' L μ H ∧ Later L L W W' := by
  have hl : Later L L W W' := ⟨by rw [h1]; exact Nat.le_refl _, fun b _ _ => by rw [h1], fun b rs t f e => ⟨rs, by rw [h1]; exact e, rfl⟩, fun _ hb => .inl hb⟩
  refine ⟨{ h with sim := ?_, same := fun b hb hn => by rw [h1]; exact h.same b hb hn, size := by rw [h1]; exact h.size, shape := fun b rs t f e => by rw [h1]; exact h.shape b rs t f e, env := ⟨h2.1.trans h.env.1, h2.2.1.trans h.env.2.1, h2.2.2.trans h.env.2.2⟩ }, hl⟩
  exact { h.sim with
    live := fun i B hm => by
      obtain ⟨a, b, blk, o, e1, e2, e3⟩ := h.sim.live i B hm
      exact ⟨a, by rw [h1]; exact b, blk, o, e1, by rw [h1]; exact e2, e3.mono hl (Ext.refl _)⟩
    lt := fun b hb => by rw [h1]; exact h.sim.lt b hb }

/-- A block more, that is nowhere yet. -/
theorem Hp.push (h : Hp P E tc W L μ H) (bs : List AB) : Hp P E tc W L μ (H ++ bs) :=
  { h with
    sim := { h.sim with
      live := fun i B hm => by
        obtain ⟨a, b, blk, o, e1, e2, e3⟩ := h.sim.live i B hm
        exact ⟨a, b, blk, o, by rw [List.getElem?_append_left (List.getElem?_eq_some_iff.1 e1).1]; exact e1, e2, e3⟩
      dead := fun i b hd hb => by
        by_cases hi : i < H.length
        · rw [List.getElem?_append_left hi] at hb; exact h.sim.dead i b hd hb
        · rw [h.sim.out i (by omega)] at hd; cases hd
      out := fun i hi => h.sim.out i (by simp at hi; omega) }
    len := by simp; have := h.len; omega }

theorem Later.alloc (L : Nat → Prop) (W : World) (o : Obj) : Later L (fun b => L b ∨ b = W.heap.size) W (W.alloc o) where
  size := by simp
  same b hb _ := Below.heap_alloc _ _ _ hb
  shape b rs t f e := ⟨rs, (Below.heap_alloc _ _ _ (Array.getElem?_eq_some_iff.1 e).1).trans e, rfl⟩
  new b hb := hb.imp id fun e => Nat.le_of_eq e.symm

/-- A block comes to lie somewhere. -/
theorem Hp.mat (h : Hp P E tc W L μ H) {j : Nat} {blk : AB} {o : Obj} (hj : H[j]? = some blk) (hno : μ j = .no) (hpin : E.pin ≤ j) (hb : BR P W L μ blk o) :
    Hp P E tc (W.alloc o) (fun b => L b ∨ b = W.heap.size) (updM μ j (.at W.heap.size)) H ∧ Later L (fun b => L b ∨ b = W.heap.size) W (W.alloc o) ∧ Ext μ (updM μ j (.at W.heap.size)) := by
  have hl := Later.alloc L W o
  have he : Ext μ (updM μ j (.at W.heap.size)) := Ext.upd _ hno
  refine ⟨?_, hl, he⟩
  refine ⟨⟨?_, ?_, ?_, ?_, ?_⟩, ?_, ?_, ?_, ?_, ?_, ?_, ?_, ?_, h.len⟩
  · intro i B hm
    by_cases e : i = j
    · subst e
      rw [updM_same] at hm
      cases hm
      exact ⟨.inr rfl, by simp, blk, o, hj, World.alloc_heap_new W o, hb.mono hl he⟩
    · rw [updM_ne _ _ e] at hm
      obtain ⟨a, b, blk', o', e1, e2, e3⟩ := h.sim.live i B hm
      exact ⟨.inl a, by simp; omega, blk', o', e1, (Below.heap_alloc _ _ _ b).trans e2, e3.mono hl he⟩
  · intro i b hd hb'
    by_cases e : i = j
    · subst e; rw [updM_same] at hd; cases hd
    · rw [updM_ne _ _ e] at hd; exact h.sim.dead i b hd hb'
  · intro i hi
    have : i ≠ j := by rintro rfl; rw [List.getElem?_eq_none hi] at hj; cases hj
    rw [updM_ne _ _ this]; exact h.sim.out i hi
  · intro i k B hi hk
    by_cases e : i = j <;> by_cases f : k = j
    · rw [e, f]
    · subst e; rw [updM_same] at hi; rw [updM_ne _ _ f] at hk; cases hi
      have := (h.sim.live k _ hk).2.1; omega
    · subst f; rw [updM_same] at hk; rw [updM_ne _ _ e] at hi; cases hk
      have := (h.sim.live i _ hi).2.1; omega
    · rw [updM_ne _ _ e] at hi; rw [updM_ne _ _ f] at hk; exact h.sim.inj i k B hi hk
  · rintro b (hb' | rfl)
    · have := h.sim.lt b hb'; simp; omega
    · simp
  · intro i hi
    rw [updM_ne _ _ (by omega : i ≠ j)]; exact h.pins i hi
  · intro i B hi hm
    by_cases e : i = j
    · subst e; rw [updM_same] at hm; cases hm; exact .inl h.size
    · rw [updM_ne _ _ e] at hm; exact h.own i B hi hm
  · intro b hb' hn
    exact (Below.heap_alloc _ _ _ (Nat.lt_of_lt_of_le hb' h.size)).trans (h.same b hb' hn)
  · simp; have := h.size; omega
  · intro b rs t f e
    obtain ⟨rs', e', s'⟩ := h.shape b rs t f e
    exact ⟨rs', (Below.heap_alloc _ _ _ (Array.getElem?_eq_some_iff.1 e').1).trans e', s'⟩
  · exact fun b hb' => .inl (h.keep b hb')
  · rintro b (hb' | rfl)
    · exact h.new b hb'
    · exact .inr h.size
  · exact h.env

theorem Upd.later {B : Nat} {o o' : Obj} (hu : Upd B o' W W') (hB : L B) (ho : W.heap[B]? = some o) (hs : ∀ rs t f, o = .cells rs t f → ∃ rs', o' = .cells rs' t f ∧ rs'.size = rs.size) : Later L L W W' where
  size := by rw [hu.size]; exact Nat.le_refl _
  same b _ hn := hu.other b (by rintro rfl; exact hn hB)
  shape b rs t f e := by
    by_cases hb : b = B
    · subst hb
      rw [ho] at e
      obtain ⟨rs', rfl, hs'⟩ := hs rs t f (Option.some.inj e)
      exact ⟨rs', hu.at_, hs'⟩
    · exact ⟨rs, (hu.other b hb).trans e, rfl⟩
  new _ h := .inl h

/-- A block is written anew. -/
theorem Hp.put (h : Hp P E tc W L μ H) {i B : Nat} {o o' : Obj} {blk : AB} (hm : μ i = .at B) (ho : W.heap[B]? = some o) (hu : Upd B o' W W')
    (hs : ∀ rs t f, o = .cells rs t f → ∃ rs', o' = .cells rs' t f ∧ rs'.size = rs.size) (hb : BR P W L μ blk o') :
    Hp P E ([i].filter (· < E.pin) ++ tc) W' L μ (H.set i blk) ∧ Later L L W W' := by
  obtain ⟨hB, hlt, blk0, o0, e1, e2, e3⟩ := h.sim.live i B hm
  have hl : Later L L W W' := hu.later hB ho hs
  have hi : i < H.length := (List.getElem?_eq_some_iff.1 e1).1
  refine ⟨?_, hl⟩
  refine ⟨⟨?_, ?_, ?_, h.sim.inj, ?_⟩, ?_, ?_, ?_, ?_, ?_, h.keep, h.new, ⟨hu.env.1.trans h.env.1, hu.env.2.1.trans h.env.2.1, hu.env.2.2.trans h.env.2.2⟩, ?_⟩
  · intro k C hk
    by_cases e : k = i
    · subst e
      rw [hm] at hk; cases hk
      exact ⟨hB, by rw [hu.size]; exact hlt, blk, o', by rw [List.getElem?_set_self hi], hu.at_, hb.mono hl (Ext.refl _)⟩
    · obtain ⟨a, b, blk', o'', f1, f2, f3⟩ := h.sim.live k C hk
      have hne : C ≠ B := by rintro rfl; exact e (h.sim.inj k i C hk hm)
      exact ⟨a, by rw [hu.size]; exact b, blk', o'', by rw [List.getElem?_set_ne (fun x => e x.symm)]; exact f1, (hu.other C hne).trans f2, f3.mono hl (Ext.refl _)⟩
  · intro k b hd hb'
    by_cases e : k = i
    · subst e; rw [hm] at hd; cases hd
    · rw [List.getElem?_set_ne (fun x => e x.symm)] at hb'; exact h.sim.dead k b hd hb'
  · intro k hk; exact h.sim.out k (by simpa using hk)
  · intro b hb'; rw [hu.size]; exact h.sim.lt b hb'
  · exact fun k hk => (h.pins k hk).imp id fun ⟨a, b, c⟩ => ⟨a, List.mem_append_right _ b, c⟩
  · exact fun j C hj hk => (h.own j C hj hk).imp id fun ⟨k, a, b⟩ => ⟨k, List.mem_append_right _ a, b⟩
  · intro b hb' hn
    have hne : b ≠ B := by
      rintro rfl
      by_cases hp : i < E.pin
      · rcases h.pins i hp with e | ⟨e, _⟩
        · exact hn i (List.mem_append_left _ (by simp [hp])) (e.symm.trans hm)
        · rw [e] at hm; cases hm
      · rcases h.own i b (by omega) hm with e | ⟨k, e, f⟩
        · omega
        · exact hn k (List.mem_append_right _ e) f
    exact (hu.other b hne).trans (h.same b hb' fun k hk => hn k (List.mem_append_right _ hk))
  · rw [hu.size]; exact h.size
  · intro b rs t f e
    obtain ⟨rs1, f1, s1⟩ := h.shape b rs t f e
    obtain ⟨rs2, f2, s2⟩ := hl.shape b rs1 t f f1
    exact ⟨rs2, f2, s2.trans s1⟩
  · simpa using h.len

/-- A block is no longer spoken of. -/
theorem Hp.kill (h : Hp P E tc W L μ H) (i : Nat) (hi : i < H.length) (hno : μ i ≠ .no) : Hp P E ([i].filter (· < E.pin) ++ tc) W L (updM μ i .dead) (H.set i .dead) ∧ Ext μ (updM μ i .dead) := by
  have he := Ext.kill μ i
  refine ⟨?_, he⟩
  refine ⟨⟨?_, ?_, ?_, ?_, h.sim.lt⟩, ?_, ?_, fun b hb hn => h.same b hb fun k hk => hn k (List.mem_append_right _ hk), h.size, h.shape, h.keep, h.new, h.env, by simpa using h.len⟩
  · intro k C hk
    have e : k ≠ i := by rintro rfl; rw [updM_same] at hk; cases hk
    rw [updM_ne _ _ e] at hk
    obtain ⟨a, b, blk', o'', f1, f2, f3⟩ := h.sim.live k C hk
    exact ⟨a, b, blk', o'', by rw [List.getElem?_set_ne (fun x => e x.symm)]; exact f1, f2, f3.mono (Later.refl _ _) he⟩
  · intro k b hd hb'
    by_cases e : k = i
    · subst e; rw [List.getElem?_set_self hi] at hb'; exact (Option.some.inj hb').symm
    · rw [updM_ne _ _ e] at hd; rw [List.getElem?_set_ne (fun x => e x.symm)] at hb'; exact h.sim.dead k b hd hb'
  · intro k hk
    have : k ≠ i := by simp at hk; omega
    rw [updM_ne _ _ this]; exact h.sim.out k (by simpa using hk)
  · intro k l B hk hl
    have e : k ≠ i := by rintro rfl; rw [updM_same] at hk; cases hk
    have f : l ≠ i := by rintro rfl; rw [updM_same] at hl; cases hl
    rw [updM_ne _ _ e] at hk; rw [updM_ne _ _ f] at hl
    exact h.sim.inj k l B hk hl
  · intro k hk
    by_cases e : k = i
    · subst e
      refine .inr ⟨updM_same .., List.mem_append_left _ (by simp [hk]), ?_⟩
      rcases h.pins k hk with e | ⟨_, _, e⟩
      · rw [← e]; exact hno
      · exact e
    · rw [updM_ne _ _ e]; exact (h.pins k hk).imp id fun ⟨a, b, c⟩ => ⟨a, List.mem_append_right _ b, c⟩
  · intro j B hj hk
    have e : j ≠ i := by rintro rfl; rw [updM_same] at hk; cases hk
    rw [updM_ne _ _ e] at hk
    exact (h.own j B hj hk).imp id fun ⟨k, a, b⟩ => ⟨k, List.mem_append_right _ a, b⟩

/-- A block that nobody speaks of any more is taken for another one. -/
theorem Hp.reuse (h : Hp P E tc W L μ H) {j B : Nat} {blk : AB} {o : Obj} (hj : H[j]? = some blk) (hno : μ j = .no) (hpin : E.pin ≤ j) (hB : L B) (ho : W.heap[B]? = some o) (hfree : ∀ i, μ i ≠ .at B)
    (hown : E.W.heap.size ≤ B ∨ ∃ i, i ∈ tc ∧ E.μ i = .at B) (hb : BR P W L μ blk o) : Hp P E tc W L (updM μ j (.at B)) H ∧ Ext μ (updM μ j (.at B)) := by
  have he : Ext μ (updM μ j (.at B)) := Ext.upd _ hno
  refine ⟨?_, he⟩
  refine ⟨⟨?_, ?_, ?_, ?_, h.sim.lt⟩, ?_, ?_, h.same, h.size, h.shape, h.keep, h.new, h.env, h.len⟩
  · intro i C hm
    by_cases e : i = j
    · subst e; rw [updM_same] at hm; cases hm
      exact ⟨hB, h.sim.lt B hB, blk, o, hj, ho, hb.mono (Later.refl _ _) he⟩
    · rw [updM_ne _ _ e] at hm
      obtain ⟨a, b, blk', o', e1, e2, e3⟩ := h.sim.live i C hm
      exact ⟨a, b, blk', o', e1, e2, e3.mono (Later.refl _ _) he⟩
  · intro i b hd hb'
    by_cases e : i = j
    · subst e; rw [updM_same] at hd; cases hd
    · rw [updM_ne _ _ e] at hd; exact h.sim.dead i b hd hb'
  · intro i hi
    have : i ≠ j := by rintro rfl; rw [List.getElem?_eq_none hi] at hj; cases hj
    rw [updM_ne _ _ this]; exact h.sim.out i hi
  · intro i k C hi hk
    by_cases e : i = j <;> by_cases f : k = j
    · rw [e, f]
    · subst e; rw [updM_same] at hi; rw [updM_ne _ _ f] at hk; cases hi; exact absurd hk (hfree k)
    · subst f; rw [updM_same] at hk; rw [updM_ne _ _ e] at hi; cases hk; exact absurd hi (hfree i)
    · rw [updM_ne _ _ e] at hi; rw [updM_ne _ _ f] at hk; exact h.sim.inj i k C hi hk
  · intro i hi
    rw [updM_ne _ _ (by omega : i ≠ j)]; exact h.pins i hi
  · intro i C hi hm
    by_cases e : i = j
    · subst e; rw [updM_same] at hm; cases hm; exact hown
    · rw [updM_ne _ _ e] at hm; exact h.own i C hi hm

/-- A block of the evaluator's that lies nowhere may hold whatever. -/
theorem Hp.free (h : Hp P E tc W L μ H) {j : Nat} (hno : μ j = .no) (blk : AB) : Hp P E tc W L μ (H.set j blk) :=
  { h with
    sim := { h.sim with
      live := fun i B hm => by
        obtain ⟨a, b, blk', o, e1, e2, e3⟩ := h.sim.live i B hm
        have : i ≠ j := by rintro rfl; rw [hno] at hm; cases hm
        exact ⟨a, b, blk', o, by rw [List.getElem?_set_ne (fun x => this x.symm)]; exact e1, e2, e3⟩
      dead := fun i b hd hb => by
        have : i ≠ j := by rintro rfl; rw [hno] at hd; cases hd
        rw [List.getElem?_set_ne (fun x => this x.symm)] at hb; exact h.sim.dead i b hd hb
      out := fun i hi => h.sim.out i (by simpa using hi) }
    len := by simpa using h.len }
end
end Ev
end Go.Proofs.YtcaejedfjobooaaGreat
