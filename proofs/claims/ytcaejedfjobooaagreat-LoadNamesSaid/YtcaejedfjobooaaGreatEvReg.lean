/- Regions: what an operation hangs on; what it leaves as it was. -/
import Derived.Test.YtcaejedfjobooaaGreatEvApp
import Derived.Test.YtcaejedfjobooaaGreatEvVal6
import Derived.Test.YtcaejedfjobooaaGreatEvNew
namespace Go.Proofs.YtcaejedfjobooaaGreat
open Go Go.RowKit
namespace Ev
section
variable {P : Program} {E : Ent} {W : World} {L : Nat → Prop} {μ : Mu} {C : Cfg}

theorem valO {tm tm' : List AV} {x : Opnd} (h : ∀ t, t ∈ tmpsO x → tm.getD t .unk = tm'.getD t .unk) : val C tm x = val C tm' x := by
  cases x with
  | tmp t => exact h t (by simp [tmpsO])
  | val v => rfl
  | glob g => rfl
theorem valL {tm tm' : List AV} : ∀ {l : List Opnd}, (∀ t, t ∈ tmpsL l → tm.getD t .unk = tm'.getD t .unk) → l.map (val C tm) = l.map (val C tm')
  | [], _ => rfl
  | x :: l, h => by
    rw [List.map_cons, List.map_cons, valO fun t ht => h t (by simp [tmpsL, ht]), valL fun t ht => h t (by simp [tmpsL, ht])]
theorem valP {tm tm' : List AV} : ∀ {l : List (Nat × Nat × Opnd)}, (∀ t, t ∈ l.flatMap (fun p => tmpsO p.2.2) → tm.getD t .unk = tm'.getD t .unk) →
    l.map (fun p => (p.1, p.2.1, val C tm p.2.2)) = l.map (fun p => (p.1, p.2.1, val C tm' p.2.2))
  | [], _ => rfl
  | x :: l, h => by
    rw [List.map_cons, List.map_cons, valO fun t ht => h t (by simp [ht]), valP fun t ht => h t (by rw [List.flatMap_cons]; exact List.mem_append_right _ ht)]
theorem valS {tm tm' : List AV} (k : Nat) : ∀ {l : List (Nat × Opnd)}, (∀ t, t ∈ l.flatMap (fun p => tmpsO p.2) → tm.getD t .unk = tm'.getD t .unk) →
    l.map (fun p => (p.1 * k, k, val C tm p.2)) = l.map (fun p => (p.1 * k, k, val C tm' p.2))
  | [], _ => rfl
  | x :: l, h => by
    rw [List.map_cons, List.map_cons, valO fun t ht => h t (by simp [ht]), valS k fun t ht => h t (by rw [List.flatMap_cons]; exact List.mem_append_right _ ht)]
theorem valE {tm tm' : List AV} (d : AV) {l : Option Opnd} (h : ∀ t, t ∈ l.elim [] tmpsO → tm.getD t .unk = tm'.getD t .unk) : l.elim d (val C tm) = l.elim d (val C tm') := by
  cases l with
  | none => rfl
  | some x => exact valO h

section
variable {tm tm' : List AV}
theorem float_congr {k : AK} {H : List AB} (h : ∀ t, t ∈ k.tmps → tm.getD t .unk = tm'.getD t .unk) : float (val C tm) H k = float (val C tm') H k := by
  cases k <;> simp only [AK.tmps, List.mem_append, or_imp, forall_and] at h <;> simp only [float, xnew, xval]
  case mov x => rw [valO h]
  case pick => rw [valO h.1.1, valO h.1.2, valO h.2]
  case box => rw [valO h]
  case build => rw [valP h]
  case buildSl k _ _ _ => rw [valS k h]
  case load => rw [valO h]
  case nilck => rw [valO h]
  case nilckM => rw [valO h]
  case bin => rw [valO h.1, valO h.2]
  case eq => rw [valO h.1, valO h.2]
  case not => rw [valO h]
  case neg => rw [valO h]
  case conv => rw [valO h]
  case iface => rw [valO h]
  case mkfn => rw [valL h.1, valL h.2]
  case mksl => rw [valO h.1, valO h.2]
  case slice => rw [valO h.1.1, valE _ h.1.2, valE _ h.2]
  case isnil => rw [valO h]
  case sliceA => rw [valO h.1.1, valE _ h.1.2, valE _ h.2]
  case fieldA => rw [valO h]
  case fieldV => rw [valO h]
  case indexA => rw [valO h.1, valO h.2]
  case indexV => rw [valO h.1, valO h.2]
  case lookup => rw [valO h.1, valO h.2]
  case tassert => rw [valO h]
  case extract => rw [valO h]
  case len => rw [valO h]
  case max => rw [valL h]
  case min => rw [valL h]
theorem spine_congr {k : AK} {call : CallF} {H : List AB} (h : ∀ t, t ∈ k.tmps → tm.getD t .unk = tm'.getD t .unk) : spine call (val C tm) H k = spine call (val C tm') H k := by
  cases k <;> simp only [AK.tmps, List.mem_append, or_imp, forall_and] at h <;> simp only [spine, xeff]
  case store => rw [valO h.1, valO h.2]
  case mapupd => rw [valO h.1.1, valO h.1.2, valO h.2]
  case append => rw [valO h.1, valO h.2]
  case copy => rw [valO h.1, valO h.2]
  case call => rw [valO h.1, valL h.2]
  case invoke => rw [valO h.1, valL h.2]
  case panic => rw [valO h]
end

/-- What a float leaves. -/
theorem float_hp {ρ : Opnd → AV} {H H' : List AB} {k : AK} {v : AV} {ft : List Nat} (h : float ρ H k = some (v, H', ft)) :
    (∃ blk mk, xnew ρ k = some (blk, mk) ∧ v = mk H.length ∧ H' = H ++ [blk] ∧ ft = [H.length]) ∨ (xnew ρ k = none ∧ H' = H ∧ xval H ρ k = some (v, ft) ∧ ∀ b, b ∈ ft → b < H.length) := by
  unfold float at h
  split at h
  · rename_i blk mk hn; cases h; exact .inl ⟨blk, mk, hn, rfl, rfl, rfl⟩
  · rename_i hn
    split at h
    · rename_i v' ft' hv
      rw [Option.ite_none_right_eq_some] at h
      obtain ⟨hc, h⟩ := h
      cases h
      exact .inr ⟨hn, rfl, hv, by simpa using hc⟩
    · cases h

/-- What is not among the blocks turned is as it was. -/
def Kept (H H' : List AB) (tc : List Nat) : Prop := H.length ≤ H'.length ∧ ∀ b, b < H.length → b ∉ tc → H'[b]? = H[b]?
theorem Kept.refl (H : List AB) (tc : List Nat) : Kept H H tc := ⟨Nat.le_refl _, fun _ _ _ => rfl⟩

def CallFr (call : CallF) : Prop := ∀ f args H x H' tc, call f args H = some (x, H', tc) → Kept H H' tc

theorem xeff_kept {ρ : Opnd → AV} {H : List AB} {k : AK} {r : XR} (h : xeff H ρ k = some r) : Kept H r.hp r.tc := by
  have hset : ∀ (d : Nat) (x : AB), Kept H (H.set d x) [d] := fun d x => ⟨by simp, fun b _ hb => List.getElem?_set_ne fun e => hb (by simp [e])⟩
  cases k <;> simp only [xeff] at h <;> try contradiction
  case store =>
    split at h
    · split at h
      · split at h <;> cases h; exact hset _ _
      · cases h
    · cases h
  case mapupd =>
    split at h
    · split at h
      · split at h
        · obtain ⟨es, _, rfl⟩ := Option.map_eq_some_iff.1 h; exact hset _ _
        · cases h
      · cases h
    · cases h
  case append =>
    split at h
    · split at h
      · split at h
        · cases h; exact Kept.refl _ _
        · split at h <;> cases h
          exact ⟨by simp, fun b hb _ => List.getElem?_append_left hb⟩
      · split at h
        · split at h
          · split at h <;> cases h
            refine ⟨by simp, fun b hb hn => ?_⟩
            rw [List.getElem?_append_left (by simpa using hb)]
            exact List.getElem?_set_ne fun e => hn (by simp [e])
          · cases h
        · cases h
      · cases h
    · cases h
  case copy =>
    split at h
    · split at h
      · split at h
        · split at h <;> cases h; exact hset _ _
        · cases h
      · cases h
    · cases h

theorem spine_kept {call : CallF} (hf : CallFr call) {ρ : Opnd → AV} {H H' : List AB} {k : AK} {x : CRes} {tc : List Nat} (h : spine call ρ H k = some (x, H', tc)) : Kept H H' tc := by
  unfold spine at h
  split at h
  · split at h <;> cases h; exact Kept.refl _ _
  · cases h
  · exact hf _ _ _ _ _ _ h
  · split at h
    · split at h
      · exact hf _ _ _ _ _ _ h
      · cases h
    · cases h
  · obtain ⟨r, hr, e⟩ := Option.map_eq_some_iff.1 h
    cases e; exact xeff_kept hr
end
end Ev
end Go.Proofs.YtcaejedfjobooaaGreat
