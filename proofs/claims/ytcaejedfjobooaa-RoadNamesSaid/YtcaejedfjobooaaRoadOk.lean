/- The deferred closures; what the evaluator is told is so. -/
import Derived.Test.YtcaejedfjobooaaStopRoad
import Derived.Test.YtcaejedfjobooaaRoadRest
import Derived.Test.YtcaejedfjobooaaRoadTb
import Derived.Test.YtcaejedfjobooaaRoadCfg
import Derived.Test.YtcaejedfjobooaaEvTop
namespace Go.Proofs.Ytcaejedfjobooaa
open Go Go.Proofs
namespace Ev
set_option maxRecDepth 100000
theorem dfHeight : DfOk Try.prog 64 142 true := by
  obtain ⟨h1, h2⟩ := closure_road (f := 64) Try.func64 rfl rfl rfl (by kernel_rfl) rfl rfl rfl rfl rfl rfl rfl
  exact ⟨⟨_, Try.func64, by kernel_rfl, by kernel_rfl⟩, h1, fun B off y x k n W hc hz hx => h2 B off y x k n W hc hz (by simpa using hx)⟩
theorem dfSinks : DfOk Try.prog 72 142 true := by
  obtain ⟨h1, h2⟩ := closure_road (f := 72) Try.func72 rfl rfl rfl (by kernel_rfl) rfl rfl rfl rfl rfl rfl rfl
  exact ⟨⟨_, Try.func72, by kernel_rfl, by kernel_rfl⟩, h1, fun B off y x k n W hc hz hx => h2 B off y x k n W hc hz (by simpa using hx)⟩
theorem dfBears : DfOk Try.prog 78 142 true := by
  obtain ⟨h1, h2⟩ := closure_road (f := 78) Try.func78 rfl rfl rfl (by kernel_rfl) rfl rfl rfl rfl rfl rfl rfl
  exact ⟨⟨_, Try.func78, by kernel_rfl, by kernel_rfl⟩, h1, fun B off y x k n W hc hz hx => h2 B off y x k n W hc hz (by simpa using hx)⟩
theorem dfRest : DfOk Try.prog 82 142 true := by
  obtain ⟨h1, h2⟩ := closure_road (f := 82) Try.func82 rfl rfl rfl (by kernel_rfl) rfl rfl rfl rfl rfl rfl rfl
  exact ⟨⟨_, Try.func82, by kernel_rfl, by kernel_rfl⟩, h1, fun B off y x k n W hc hz hx => h2 B off y x k n W hc hz (by simpa using hx)⟩
theorem dfClash : DfOk Try.prog 87 142 true := by
  obtain ⟨h1, h2⟩ := closure_road (f := 87) Try.func87 rfl rfl rfl (by kernel_rfl) rfl rfl rfl rfl rfl rfl rfl
  exact ⟨⟨_, Try.func87, by kernel_rfl, by kernel_rfl⟩, h1, fun B off y x k n W hc hz hx => h2 B off y x k n W hc hz (by simpa using hx)⟩
theorem dfMost : DfOk Try.prog 99 142 true := by
  obtain ⟨h1, h2⟩ := closure_road (f := 99) Try.func99 rfl rfl rfl (by kernel_rfl) rfl rfl rfl rfl rfl rfl rfl
  exact ⟨⟨_, Try.func99, by kernel_rfl, by kernel_rfl⟩, h1, fun B off y x k n W hc hz hx => h2 B off y x k n W hc hz (by simpa using hx)⟩
theorem dfBelow : DfOk Try.prog 132 142 true := by
  obtain ⟨h1, h2⟩ := closure_road (f := 132) Try.func132 rfl rfl rfl (by kernel_rfl) rfl rfl rfl rfl rfl rfl rfl
  exact ⟨⟨_, Try.func132, by kernel_rfl, by kernel_rfl⟩, h1, fun B off y x k n W hc hz hx => h2 B off y x k n W hc hz (by simpa using hx)⟩
theorem dfWeak : DfOk Try.prog 133 142 true := by
  obtain ⟨h1, h2⟩ := closure_road (f := 133) Try.func133 rfl rfl rfl (by kernel_rfl) rfl rfl rfl rfl rfl rfl rfl
  exact ⟨⟨_, Try.func133, by kernel_rfl, by kernel_rfl⟩, h1, fun B off y x k n W hc hz hx => h2 B off y x k n W hc hz (by simpa using hx)⟩
theorem memN_mem : ∀ {l : List Nat} {n : Nat}, memN l n = true → n ∈ l
  | [], n, h => by cases h
  | x :: l, n, h => by
    have e : memN (x :: l) n = (Bool.rec (memN l n) true (Nat.beq n x) : Bool) := rfl
    rw [e] at h
    cases hb : Nat.beq n x with
    | true => rw [Nat.eq_of_beq_eq_true hb]; exact List.mem_cons_self ..
    | false => rw [hb] at h; exact List.mem_cons_of_mem _ (memN_mem h)
theorem dfk_ok : ∀ f t ag, (Bool.rec none (some (142, true)) (memN closures f) : Option (Nat × Bool)) = some (t, ag) → DfOk Try.prog f t ag := by
  intro f t ag h
  cases hb : memN closures f with
  | false => rw [hb] at h; cases h
  | true =>
    rw [hb] at h
    cases h
    have hm := memN_mem hb
    simp only [closures, List.mem_cons, List.not_mem_nil, or_false] at hm
    rcases hm with rfl | rfl | rfl | rfl | rfl | rfl | rfl | rfl
    · exact dfHeight
    · exact dfSinks
    · exact dfBears
    · exact dfRest
    · exact dfClash
    · exact dfMost
    · exact dfBelow
    · exact dfWeak
theorem restV_ok {d k f h : Int} {v : AV} (hv : restV d k f h = some v) : v = .int .i64 (min f (IntKind.i64.wrap (h + IntKind.i64.wrap (d * k)))) := by
  unfold restV at hv
  cases hb : Q.andB (Q.fits .i64 (d * k)) (Q.fits .i64 (Q.addI h (d * k))) with
  | false => rw [hb] at hv; cases hv
  | true =>
    rw [hb] at hv
    rw [Q.andB_eq, Bool.and_eq_true] at hb
    rw [Q.fits_wrap hb.1, ← Q.addI_eq, Q.fits_wrap hb.2]
    cases hv
    rw [Q.leI_eq, Q.addI_eq]
    by_cases hle : f ≤ h + d * k
    · simp [hle, Int.min_eq_left hle]
    · simp [hle]; omega
theorem rest_ext (args : List AV) (v : AV) (rargs : Array Value) (W : World) (L : Nat → Prop) (μ : Mu) (hv : restG args = some v) (hr : VL W L μ args rargs.toList) :
    CallsIn Fence.wide 0 Try.prog 174 rargs W fun e W' => (∃ w, e = .returned w ∧ ∀ W L μ, VR W L μ v w) ∧ RowKit.Below W.heap.size W W' := by
  unfold restG at hv
  split at hv
  · rename_i d s k f h l
    obtain ⟨xs, hxs⟩ : ∃ xs, rargs.toList = xs := ⟨_, rfl⟩
    rw [hxs] at hr
    have hl := hr.1
    match xs, hl, hr with
    | [x0, x1, x2, x3], _, hr =>
      obtain ⟨a0, rfl, v0⟩ := vr_agg hr.head
      obtain ⟨a1, rfl, v1⟩ := vr_agg hr.tail.head
      have e2 := vr_int hr.tail.tail.head
      have e3 := vr_int hr.tail.tail.tail.head
      subst e2 e3
      have l0 := v0.1
      have l1 := v1.1
      match a0, l0, v0, a1, l1, v1 with
      | [y0], _, v0, [z0, z1, z2], _, v1 =>
        have f0 := vr_int v0.head
        have f1 := vr_int v1.head
        have f2 := vr_int v1.tail.head
        have f3 := vr_int v1.tail.tail.head
        subst f0 f1 f2 f3
        have : rargs = #[.agg #[.int .i64 d], .agg #[.int .i64 s, .int .i64 k, .int .i64 f], .int .i64 h, .int .i64 l] := Array.ext' (by rw [hxs])
        subst this
        refine (callsIn_wide.2 (rest_any d s k f h l W)).mono ?_
        rintro e W' ⟨rfl, hb⟩
        exact ⟨⟨_, rfl, fun _ _ _ => by rw [restV_ok hv]; exact .int⟩, hb⟩
  · cases hv
theorem rest_known : ∃ F, Try.prog.funcs[174]? = some F ∧ (F.name == "runtime.NumGoroutine") = false ∧ F.body.isNone = false := ⟨_, Try.func174, by kernel_rfl, by kernel_rfl⟩
theorem tblA : TblOk Try.prog cfgA := by
  refine ⟨fun f fn h => FT.find_all tree_is h, fun f g h => ?_, dfk_ok⟩
  have e : cfgA.ext f = (Bool.rec none (some restG) (Nat.beq f 174) : Option (List AV → Option AV)) := rfl
  rw [e] at h
  cases hb : Nat.beq f 174 with
  | false => rw [hb] at h; cases h
  | true =>
    rw [hb] at h
    cases h
    obtain rfl := Nat.eq_of_beq_eq_true hb
    exact ⟨rest_known, rest_ext⟩
/-- Of all entries, as a bool. -/
noncomputable def FT.allB (p : AFunc → Bool) : FT → Bool := fun t => FT.rec true (fun _ f _ _ ihl ihr => Q.andB (p f) (Q.andB ihl ihr)) t
theorem FT.allB_all {p : AFunc → Bool} : ∀ {t : FT}, FT.allB p t = true → FT.All (fun _ f => p f = true) t
  | .leaf, _ => trivial
  | .node k f l r, h => by
    have e : FT.allB p (.node k f l r) = Q.andB (p f) (Q.andB (FT.allB p l) (FT.allB p r)) := rfl
    rw [e, Q.andB_eq, Q.andB_eq, Bool.and_eq_true, Bool.and_eq_true] at h
    exact ⟨h.1, FT.allB_all h.2.1, FT.allB_all h.2.2⟩
theorem all_ok : FT.allB Q.okF fnTree = true := by kernel_rfl
theorem quickA : Q.Quick cfgA := ⟨fun _ => rfl, fun _ _ h => FT.find_all (FT.allB_all all_ok) h⟩
theorem quickN : Q.Quick cfgN := ⟨fun _ => rfl, fun _ _ h => FT.find_all (FT.allB_all all_ok) h⟩
/-- The table where 'alive' is told, once that it answers true is known. -/
theorem tblN (ha : ∀ W, CallsIn Fence.wide 0 Try.prog 26 #[] W fun e W' => e = .returned (.bool true) ∧ RowKit.Below W.heap.size W W') : TblOk Try.prog cfgN := by
  refine ⟨fun f fn h => FT.find_all tree_is h, fun f g h => ?_, dfk_ok⟩
  have e : cfgN.ext f = (Bool.rec (Bool.rec none (some restG) (Nat.beq f 174)) (some fun args => List.rec (some (.bool true)) (fun _ _ _ => none) args) (Nat.beq f 26) : Option (List AV → Option AV)) := rfl
  rw [e] at h
  cases hb : Nat.beq f 26 with
  | false =>
    rw [hb] at h
    cases hb2 : Nat.beq f 174 with
    | false => rw [hb2] at h; cases h
    | true =>
      rw [hb2] at h
      cases h
      obtain rfl := Nat.eq_of_beq_eq_true hb2
      exact ⟨rest_known, rest_ext⟩
  | true =>
    rw [hb] at h
    cases h
    obtain rfl := Nat.eq_of_beq_eq_true hb
    obtain ⟨F, f1, f2, f3⟩ := is26
    obtain ⟨c, g1, _⟩ := compFn_ok f3
    refine ⟨⟨F, f1, f2, by rw [g1]; rfl⟩, fun args v rargs W L μ hv hr => ?_⟩
    cases args with
    | cons a l => cases hv
    | nil =>
      cases hv
      have : rargs = #[] := Array.ext' (List.eq_nil_of_length_eq_zero (by have := hr.1; simpa using this.symm))
      subst this
      exact (ha W).mono fun en W' ⟨he, hb⟩ => ⟨⟨_, he, fun _ _ _ => .bool⟩, hb⟩
end Ev
end Go.Proofs.Ytcaejedfjobooaa
