/- The deferred closures; what the evaluator is told is so. -/
import Derived.Test.YtcaejedfjobooaaStopClamp
import Derived.Test.YtcaejedfjobooaaClampTb
import Derived.Test.YtcaejedfjobooaaClampCfg
import Derived.Test.YtcaejedfjobooaaEvTop
namespace Go.Proofs.Ytcaejedfjobooaa
open Go Go.Proofs
namespace Ev
set_option maxRecDepth 100000
theorem dfBuilt : DfOk Try.prog 27 128 true := by
  obtain ⟨h1, h2⟩ := closure_clamp (f := 27) Try.func27 rfl rfl rfl (by kernel_rfl) rfl rfl rfl rfl rfl rfl rfl
  exact ⟨⟨_, Try.func27, by kernel_rfl, by kernel_rfl⟩, h1, fun B off y x k n W hc hz hx => h2 B off y x k n W hc hz (by simpa using hx)⟩
theorem dfHas : DfOk Try.prog 37 128 true := by
  obtain ⟨h1, h2⟩ := closure_clamp (f := 37) Try.func37 rfl rfl rfl (by kernel_rfl) rfl rfl rfl rfl rfl rfl rfl
  exact ⟨⟨_, Try.func37, by kernel_rfl, by kernel_rfl⟩, h1, fun B off y x k n W hc hz hx => h2 B off y x k n W hc hz (by simpa using hx)⟩
theorem dfSold : DfOk Try.prog 39 128 true := by
  obtain ⟨h1, h2⟩ := closure_clamp (f := 39) Try.func39 rfl rfl rfl (by kernel_rfl) rfl rfl rfl rfl rfl rfl rfl
  exact ⟨⟨_, Try.func39, by kernel_rfl, by kernel_rfl⟩, h1, fun B off y x k n W hc hz hx => h2 B off y x k n W hc hz (by simpa using hx)⟩
theorem dfEnough : DfOk Try.prog 41 128 true := by
  obtain ⟨h1, h2⟩ := closure_clamp (f := 41) Try.func41 rfl rfl rfl (by kernel_rfl) rfl rfl rfl rfl rfl rfl rfl
  exact ⟨⟨_, Try.func41, by kernel_rfl, by kernel_rfl⟩, h1, fun B off y x k n W hc hz hx => h2 B off y x k n W hc hz (by simpa using hx)⟩
theorem dfShare : DfOk Try.prog 48 128 true := by
  obtain ⟨h1, h2⟩ := closure_clamp (f := 48) Try.func48 rfl rfl rfl (by kernel_rfl) rfl rfl rfl rfl rfl rfl rfl
  exact ⟨⟨_, Try.func48, by kernel_rfl, by kernel_rfl⟩, h1, fun B off y x k n W hc hz hx => h2 B off y x k n W hc hz (by simpa using hx)⟩
theorem dfClash : DfOk Try.prog 53 128 true := by
  obtain ⟨h1, h2⟩ := closure_clamp (f := 53) Try.func53 rfl rfl rfl (by kernel_rfl) rfl rfl rfl rfl rfl rfl rfl
  exact ⟨⟨_, Try.func53, by kernel_rfl, by kernel_rfl⟩, h1, fun B off y x k n W hc hz hx => h2 B off y x k n W hc hz (by simpa using hx)⟩
theorem dfAll : DfOk Try.prog 114 128 true := by
  obtain ⟨h1, h2⟩ := closure_clamp (f := 114) Try.func114 rfl rfl rfl (by kernel_rfl) rfl rfl rfl rfl rfl rfl rfl
  exact ⟨⟨_, Try.func114, by kernel_rfl, by kernel_rfl⟩, h1, fun B off y x k n W hc hz hx => h2 B off y x k n W hc hz (by simpa using hx)⟩
theorem dfEmpty : DfOk Try.prog 115 128 true := by
  obtain ⟨h1, h2⟩ := closure_clamp (f := 115) Try.func115 rfl rfl rfl (by kernel_rfl) rfl rfl rfl rfl rfl rfl rfl
  exact ⟨⟨_, Try.func115, by kernel_rfl, by kernel_rfl⟩, h1, fun B off y x k n W hc hz hx => h2 B off y x k n W hc hz (by simpa using hx)⟩
theorem memN_mem : ∀ {l : List Nat} {n : Nat}, memN l n = true → n ∈ l
  | [], n, h => by cases h
  | x :: l, n, h => by
    have e : memN (x :: l) n = (Bool.rec (memN l n) true (Nat.beq n x) : Bool) := rfl
    rw [e] at h
    cases hb : Nat.beq n x with
    | true => rw [Nat.eq_of_beq_eq_true hb]; exact List.mem_cons_self ..
    | false => rw [hb] at h; exact List.mem_cons_of_mem _ (memN_mem h)
theorem dfk_ok : ∀ f t ag, (Bool.rec none (some (128, true)) (memN closures f) : Option (Nat × Bool)) = some (t, ag) → DfOk Try.prog f t ag := by
  intro f t ag h
  cases hb : memN closures f with
  | false => rw [hb] at h; cases h
  | true =>
    rw [hb] at h
    cases h
    have hm := memN_mem hb
    simp only [closures, List.mem_cons, List.not_mem_nil, or_false] at hm
    rcases hm with rfl | rfl | rfl | rfl | rfl | rfl | rfl | rfl
    · exact dfBuilt
    · exact dfHas
    · exact dfSold
    · exact dfEnough
    · exact dfShare
    · exact dfClash
    · exact dfAll
    · exact dfEmpty
theorem tblA : TblOk Try.prog cfgA := ⟨fun f fn h => FT.find_all tree_is h, fun f g h => (by cases h), dfk_ok⟩
/-- Of all entries, as a bool. -/
noncomputable def FT.allB (p : AFunc → Bool) : FT → Bool := fun t => FT.rec true (fun _ f _ _ ihl ihr => Q.andB (p f) (Q.andB ihl ihr)) t
theorem FT.allB_all {p : AFunc → Bool} : ∀ {t : FT}, FT.allB p t = true → FT.All (fun _ f => p f = true) t
  | .leaf, _ => trivial
  | .node k f l r, h => by
    have e : FT.allB p (.node k f l r) = Q.andB (p f) (Q.andB (FT.allB p l) (FT.allB p r)) := rfl
    rw [e, Q.andB_eq, Q.andB_eq, Bool.and_eq_true, Bool.and_eq_true] at h
    exact ⟨h.1, FT.allB_all h.2.1, FT.allB_all h.2.2⟩
theorem all_ok : FT.allB Q.okF fnTree = true := by kernel_rfl
theorem quickA : Q.Quick cfgA := ⟨fun _ => rfl, fun _ _ h => FT.find_all (FT.allB_all all_ok) h⟩
theorem quickN : Q.Quick cfgN := ⟨fun _ => rfl, fun _ _ h => FT.find_all (FT.allB_all all_ok) h⟩
/-- The table where 'alive' is told, once that it answers true is known. -/
theorem tblN (ha : ∀ W, CallsIn Fence.wide 0 Try.prog 14 #[] W fun e W' => e = .returned (.bool true) ∧ RowKit.Below W.heap.size W W') : TblOk Try.prog cfgN := by
  refine ⟨fun f fn h => FT.find_all tree_is h, fun f g h => ?_, dfk_ok⟩
  have e : cfgN.ext f = (Bool.rec none (some fun args => List.rec (some (.bool true)) (fun _ _ _ => none) args) (Nat.beq f 14) : Option (List AV → Option AV)) := rfl
  rw [e] at h
  cases hb : Nat.beq f 14 with
  | false => rw [hb] at h; cases h
  | true =>
    rw [hb] at h
    cases h
    obtain rfl := Nat.eq_of_beq_eq_true hb
    obtain ⟨F, f1, f2, f3⟩ := is14
    obtain ⟨c, g1, _⟩ := compFn_ok f3
    refine ⟨⟨F, f1, f2, by rw [g1]; rfl⟩, fun args v rargs W L μ hv hr => ?_⟩
    cases args with
    | cons a l => cases hv
    | nil =>
      cases hv
      have : rargs = #[] := Array.ext' (List.eq_nil_of_length_eq_zero (by have := hr.1; simpa using this.symm))
      subst this
      exact (ha W).mono fun en W' ⟨he, hb⟩ => ⟨⟨_, he, fun _ _ _ => .bool⟩, hb⟩
end Ev
end Go.Proofs.Ytcaejedfjobooaa
