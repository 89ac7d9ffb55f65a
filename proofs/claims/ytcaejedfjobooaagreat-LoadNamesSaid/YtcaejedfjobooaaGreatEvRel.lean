/- What the evaluator's values and heaps say of the model's. -/
import Derived.Test.YtcaejedfjobooaaGreatEvComp
import Derived.Below
import Derived.Laws.NewBlocks
import Derived.RangeFuncRecord
namespace Go.Proofs.YtcaejedfjobooaaGreat
open Go
namespace Ev

/-- Where a block of the evaluator's lies: nowhere yet; it is no longer spoken of; in the model's block B. -/
inductive MR where
  | no | dead | at (B : Nat)
abbrev Mu := Nat → MR
def nomu : Mu := fun _ => .no

def headRef : AV → Option Nat
  | .ptr b _ => some b
  | .sl b _ _ _ => some b
  | .map b => some b
  | .yield b => some b
  | _ => none

/-- The value v stands for the model's value x, in the world W; L: the blocks that may still be written. -/
inductive VR (W : World) (L : Nat → Prop) : Mu → AV → Value → Prop
  | unk {μ x} : VR W L μ .unk x
  | dead {μ v x b} : headRef v = some b → μ b = .dead → x.oneCell' = true → VR W L μ v x
  | bool {μ b} : VR W L μ (.bool b) (.bool b)
  | int {μ k n} : VR W L μ (.int k n) (.int k n)
  | nilp {μ} : VR W L μ .nilp (.pointer none)
  | ptr {μ b off B} : μ b = .at B → VR W L μ (.ptr b off) (.pointer (some ⟨B, off, none⟩))
  | rp {μ b o} {cs : List AV} (rs : Nat → Value) : (∀ (j : Nat) (x : AV), cs[j]? = some x → ¬ L b ∧ W.cell? ⟨b, o + j, none⟩ = some (rs j)) → (∀ (j : Nat) (x : AV), cs[j]? = some x → VR W L nomu x (rs j)) → VR W L μ (.rp cs) (.pointer (some ⟨b, o, none⟩))
  | nils {μ} : VR W L μ .nils (.slice none 0 0)
  | sl {μ b off n k B cap} {rs : Array Value} {t : TypeId} : μ b = .at B → n ≤ cap → W.heap[B]? = some (.cells rs t (0, 0)) → off + cap * k ≤ rs.size → VR W L μ (.sl b off n k) (.slice (some ⟨B, off, none⟩) n cap)
  | vs {μ k b o cap} {es : List AV} (rs : Nat → Nat → Value) : es.length ≤ cap → (∀ (i : Nat) (e : AV), es[i]? = some e → e.cells.length = k) →
      (∀ (i : Nat) (e : AV) (j : Nat) (x : AV), es[i]? = some e → e.cells[j]? = some x → ¬ L b ∧ W.cell? ⟨b, o + i * k + j, none⟩ = some (rs i j)) → (∀ (i : Nat) (e : AV) (j : Nat) (x : AV), es[i]? = some e → e.cells[j]? = some x → VR W L nomu x (rs i j)) →
      VR W L μ (.vs k es) (.slice (some ⟨b, o, none⟩) es.length cap)
  | vs0 {μ k a cap} : VR W L μ (.vs k []) (.slice a 0 cap)
  | nilmap {μ} : VR W L μ .nilmap (.map none)
  | map {μ b B} : μ b = .at B → VR W L μ (.map b) (.map (some B))
  | nilfn {μ} : VR W L μ .nilfn .nilFunc
  | fn {μ f} {first captured : List AV} {rf rc : List Value} : (∀ l, f ≠ .yield l) → first.length = rf.length → (∀ (i : Nat) (x : AV) (r : Value), first[i]? = some x → rf[i]? = some r → VR W L μ x r) →
      captured.length = rc.length → (∀ (i : Nat) (x : AV) (r : Value), captured[i]? = some x → rc[i]? = some r → VR W L μ x r) → VR W L μ (.fn f first captured) (.func f rf.toArray rc.toArray)
  | yield {μ l B} : μ l = .at B → VR W L μ (.yield l) (.func (.yield B) #[] #[])
  | nilif {μ} : VR W L μ .nilif .nilIface
  | iface {μ t v x} : VR W L μ v x → VR W L μ (.iface t v) (.iface t x)
  | agg {μ} {cs : List AV} {rs : List Value} : cs.length = rs.length → (∀ (i : Nat) (x : AV) (r : Value), cs[i]? = some x → rs[i]? = some r → VR W L μ x r) → VR W L μ (.agg cs) (.agg rs.toArray)
  | tup {μ} {cs : List AV} {rs : List Value} : cs.length = rs.length → (∀ (i : Nat) (x : AV) (r : Value), cs[i]? = some x → rs[i]? = some r → VR W L μ x r) → VR W L μ (.tup cs) (.tuple rs.toArray)

/-- Lists of values, one by one. -/
def VL (W : World) (L : Nat → Prop) (μ : Mu) (as : List AV) (rs : List Value) : Prop :=
  as.length = rs.length ∧ ∀ (i : Nat) (x : AV) (r : Value), as[i]? = some x → rs[i]? = some r → VR W L μ x r

/-- A later world: what could not be written is as it was, rows keep their length. -/
structure Later (L L' : Nat → Prop) (W W' : World) : Prop where
  size : W.heap.size ≤ W'.heap.size
  same : ∀ b, b < W.heap.size → ¬ L b → W'.heap[b]? = W.heap[b]?
  shape : ∀ (b : Nat) (rs : Array Value) (t : TypeId) (f : Nat × Nat), W.heap[b]? = some (.cells rs t f) → ∃ rs', W'.heap[b]? = some (.cells rs' t f) ∧ rs'.size = rs.size
  new : ∀ b, L' b → L b ∨ W.heap.size ≤ b

def Ext (μ μ' : Mu) : Prop := ∀ i, μ i ≠ .no → μ' i = μ i ∨ μ' i = .dead

theorem Ext.refl (μ : Mu) : Ext μ μ := fun _ _ => .inl rfl
theorem Ext.trans {a b c : Mu} (h : Ext a b) (k : Ext b c) : Ext a c := fun i hi => by
  rcases h i hi with e | e
  · have hb : b i ≠ .no := by rw [e]; exact hi
    rcases k i hb with f | f
    · exact .inl (f.trans e)
    · exact .inr f
  · have hb : b i ≠ .no := by rw [e]; simp
    rcases k i hb with f | f
    · exact .inr (f.trans e)
    · exact .inr f
theorem Ext.nomu (μ : Mu) : Ext nomu μ := fun i h => absurd rfl h

theorem Later.refl (L : Nat → Prop) (W : World) : Later L L W W := ⟨Nat.le_refl _, fun _ _ _ => rfl, fun _ rs _ _ h => ⟨rs, h, rfl⟩, fun _ h => .inl h⟩
theorem Later.trans {L L1 L2 : Nat → Prop} {W W1 W2 : World} (hk : ∀ b, L b → L1 b) (h : Later L L1 W W1) (k : Later L1 L2 W1 W2) : Later L L2 W W2 where
  size := Nat.le_trans h.size k.size
  same b hb hl := by
    have h1 : ¬ L1 b := fun h1 => by
      rcases h.new b h1 with x | x
      · exact hl x
      · omega
    rw [k.same b (Nat.lt_of_lt_of_le hb h.size) h1, h.same b hb hl]
  shape b rs t f e := by
    obtain ⟨rs1, e1, s1⟩ := h.shape b rs t f e
    obtain ⟨rs2, e2, s2⟩ := k.shape b rs1 t f e1
    exact ⟨rs2, e2, s2.trans s1⟩
  new b h2 := by
    rcases k.new b h2 with x | x
    · exact h.new b x
    · exact .inr (Nat.le_trans h.size x)

theorem cell_lt {W : World} {b o : Nat} {v : Value} (h : W.cell? ⟨b, o, none⟩ = some v) : b < W.heap.size := by
  unfold World.cell? at h
  cases hb : W.heap[b]? with
  | none => simp [hb] at h
  | some x => exact (Array.getElem?_eq_some_iff.1 hb).1

theorem Later.cell {L L' : Nat → Prop} {W W' : World} (h : Later L L' W W') {b o : Nat} {v : Value} (hl : ¬ L b) (hc : W.cell? ⟨b, o, none⟩ = some v) : W'.cell? ⟨b, o, none⟩ = some v := by
  have hb := cell_lt hc
  have := h.same b hb hl
  unfold World.cell? at *
  simp only at *
  rw [this]; exact hc

theorem Later.notL {L L' : Nat → Prop} {W W' : World} (h : Later L L' W W') {b : Nat} (hb : b < W.heap.size) (hl : ¬ L b) : ¬ L' b := fun h' => by
  rcases h.new b h' with x | x
  · exact hl x
  · omega

theorem VR.mono {W W' : World} {L L' : Nat → Prop} {μ : Mu} {v : AV} {x : Value} (h : VR W L μ v x) (hl : Later L L' W W') : ∀ {μ' : Mu}, Ext μ μ' → VR W' L' μ' v x := by
  induction h with
  | unk => intro μ' _; exact .unk
  | dead hr hd ho =>
      intro μ' he
      rcases he _ (by rw [hd]; simp) with e | e
      · exact .dead hr (e.trans hd) ho
      · exact .dead hr e ho
  | bool => intro μ' _; exact .bool
  | int => intro μ' _; exact .int
  | nilp => intro μ' _; exact .nilp
  | ptr hb =>
      intro μ' he
      rcases he _ (by rw [hb]; simp) with e | e
      · exact .ptr (e.trans hb)
      · exact .dead rfl e rfl
  | rp rs hc hv ih => intro μ' _; exact .rp rs (fun j x hx => ⟨hl.notL (cell_lt (hc j x hx).2) (hc j x hx).1, hl.cell (hc j x hx).1 (hc j x hx).2⟩) (fun j x hx => ih j x hx (Ext.refl _))
  | nils => intro μ' _; exact .nils
  | sl hb hn hw hs =>
      intro μ' he
      obtain ⟨rs', hw', hs'⟩ := hl.shape _ _ _ _ hw
      rcases he _ (by rw [hb]; simp) with e | e
      · exact .sl (e.trans hb) hn hw' (by omega)
      · exact .dead rfl e rfl
  | vs rs hn hk hc hv ih => intro μ' _; exact .vs rs hn hk (fun i e j x h1 h2 => ⟨hl.notL (cell_lt (hc i e j x h1 h2).2) (hc i e j x h1 h2).1, hl.cell (hc i e j x h1 h2).1 (hc i e j x h1 h2).2⟩) (fun i e j x h1 h2 => ih i e j x h1 h2 (Ext.refl _))
  | vs0 => intro μ' _; exact .vs0
  | nilmap => intro μ' _; exact .nilmap
  | map hb =>
      intro μ' he
      rcases he _ (by rw [hb]; simp) with e | e
      · exact .map (e.trans hb)
      · exact .dead rfl e rfl
  | nilfn => intro μ' _; exact .nilfn
  | fn hf h1 h2 h3 h4 ih1 ih2 => intro μ' he; exact .fn hf h1 (fun i x r a b => ih1 i x r a b he) h3 (fun i x r a b => ih2 i x r a b he)
  | yield hb =>
      intro μ' he
      rcases he _ (by rw [hb]; simp) with e | e
      · exact .yield (e.trans hb)
      · exact .dead rfl e rfl
  | nilif => intro μ' _; exact .nilif
  | iface _ ih => intro μ' he; exact .iface (ih he)
  | agg h1 h2 ih => intro μ' he; exact .agg h1 (fun i x r a b => ih i x r a b he)
  | tup h1 h2 ih => intro μ' he; exact .tup h1 (fun i x r a b => ih i x r a b he)
end Ev
end Go.Proofs.YtcaejedfjobooaaGreat
