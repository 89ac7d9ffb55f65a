/- The Go function ClampNames returns true: for every world in which it is called; nothing that was there is turned. No condition. -/
import Derived.Test.YtcaejedfjobooaaClampOk
import Derived.Test.YtcaejedfjobooaaClampA
import Derived.Test.YtcaejedfjobooaaClampN
import Derived.Test.YtcaejedfjobooaaRows
import Derived.WalkKit
import Derived.ProofKit
import Derived.OpenShut
namespace Go.Proofs.Ytcaejedfjobooaa
open Go Go.Proofs Go.ChangeShapes Go.WideShapes Go.ChangeAt Go.RowKit

theorem own_godebug : ownKnob Try.prog.godebug = none := by kernel_rfl

theorem alive_walk (W : World) : CallsIn Fence.wide 0 Try.prog 14 #[] W fun e W' => e = .returned (.bool true) ∧ Below W.heap.size W W' :=
  Ev.top_quick Ev.tblA Ev.quickA Ev.ClampA_call W
theorem names_walk (W : World) : Calls Try.prog 3 #[] W fun e W' => e = .returned (.bool true) ∧ Below W.heap.size W W' :=
  callsIn_wide.1 (Ev.top_quick (Ev.tblN alive_walk) Ev.quickN Ev.ClampN_call W)

set_option maxRecDepth 100000 in
theorem clampNames_lifted (os : Os) (started : os.Started) (H : Type) (enc : TypeId × Value → H) :
    ReturnsInHanded {} Try.checked os 3 .any (Rows.clampNamesSpec.pre6 enc Try.prog Try.f3 Rows.clampNamesRow.domain false) (Rows.clampNamesSpec.post enc Try.prog Try.f3 false true false false) := by
  refine returnsInHanded_of_change (C := Try.checked) own_godebug started (by kernel_rfl) Try.func3
    (ChangeSpec.witness6 (enc := enc) (C := Try.checked) false ⟨#[], #[], []⟩ 8 (by kernel_rfl) (by kernel_rfl) (by kernel_rfl) (by kernel_rfl)) ?_
  intro W base args ds gs before hval0 hW hcnd _
  have hval : ∀ (j : Nat) t v, Try.f3.params[j]? = some t → args[j]? = some v → Value.okWide Try.prog W .any base t v := hval0
  have hW' := hW
  obtain ⟨p, q, hA0, hV, rfl, hfz, hnd⟩ := hW
  have hA : DataW.TrodAll enc Try.prog W 0 (fun _ => true) true Try.f3.params.toList args.toList ds p := hA0
  rw [Try.params3] at hA hval
  obtain ⟨rfl, rfl, rfl⟩ := trodAll_none hA
  obtain ⟨rfl, rfl⟩ := trodVars_none hV
  clear hA0 hval0
  simp only [List.append_nil] at hW'
  refine (names_walk W).mono fun e W' ⟨he, bel⟩ => ?_
  subst he
  refine ⟨_, rfl, _, _, _, [], [], [], hW', ?_, ?_, rfl, bel.frame _, fun h => by cases h⟩
  · exact trodAll_mk1 (shut_bool Try.underlying4 true)
  · exact trodAll_mk0

/-- The statement. -/
theorem clampNames_holds : Rows.ClampNamesSaid :=
  OpenClaim.holds_of_wide 3 Try.f3 rfl rfl rfl rfl rfl rfl rfl ⟨rfl, rfl, rfl, rfl, rfl⟩ rfl rfl rfl rfl rfl (by kernel_rfl) Try.func3 (by kernel_rfl)
    (of_decide_eq_true (by kernel_rfl)) (by unfold Func.isWrapper; first | (rw [if_pos (by decide +kernel)]; kernel_rfl) | (rw [if_neg (by decide +kernel)]; exact ⟨rfl, rfl⟩))
    (fun os started H enc _ => clampNames_lifted os started H enc)
#print axioms clampNames_holds
end Go.Proofs.Ytcaejedfjobooaa
