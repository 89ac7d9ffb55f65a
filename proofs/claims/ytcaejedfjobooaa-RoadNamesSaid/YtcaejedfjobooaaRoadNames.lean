/- The Go function RoadNames returns true: for every world in which it is called; nothing that was there is turned. No condition. -/
import Derived.Test.YtcaejedfjobooaaRoadOk
import Derived.Test.YtcaejedfjobooaaRoadA
import Derived.Test.YtcaejedfjobooaaRoadM
import Derived.Test.YtcaejedfjobooaaRoadN
import Derived.Test.YtcaejedfjobooaaRows
import Derived.WalkKit
import Derived.ProofKit
import Derived.OpenShut
namespace Go.Proofs.Ytcaejedfjobooaa
open Go Go.Proofs Go.ChangeShapes Go.WideShapes Go.ChangeAt Go.RowKit

theorem own_godebug : ownKnob Try.prog.godebug = none := by kernel_rfl

theorem alive_walk (W : World) : CallsIn Fence.wide 0 Try.prog 26 #[] W fun e W' => e = .returned (.bool true) ∧ Below W.heap.size W W' :=
  Ev.top_table Ev.tblA Ev.quickA (show ∀ e ∈ [Ev.RoadM_ent], _ from List.forall_mem_cons.2 ⟨Ev.RoadM_ok, fun _ h => by cases h⟩) Ev.RoadA_call W
theorem names_walk (W : World) : Calls Try.prog 4 #[] W fun e W' => e = .returned (.bool true) ∧ Below W.heap.size W W' :=
  callsIn_wide.1 (Ev.top_quick (Ev.tblN alive_walk) Ev.quickN Ev.RoadN_call W)

set_option maxRecDepth 100000 in
theorem roadNames_lifted (os : Os) (started : os.Started) (H : Type) (enc : TypeId × Value → H) :
    ReturnsInHanded {} Try.checked os 4 .any (Rows.roadNamesSpec.pre6 enc Try.prog Try.f4 Rows.roadNamesRow.domain false) (Rows.roadNamesSpec.post enc Try.prog Try.f4 false true false false) := by
  refine returnsInHanded_of_change (C := Try.checked) own_godebug started (by kernel_rfl) Try.func4
    (ChangeSpec.witness6 (enc := enc) (C := Try.checked) false ⟨#[], #[], []⟩ 8 (by kernel_rfl) (by kernel_rfl) (by kernel_rfl) (by kernel_rfl)) ?_
  intro W base args ds gs before hval0 hW hcnd _
  have hval : ∀ (j : Nat) t v, Try.f4.params[j]? = some t → args[j]? = some v → Value.okWide Try.prog W .any base t v := hval0
  have hW' := hW
  obtain ⟨p, q, hA0, hV, rfl, hfz, hnd⟩ := hW
  have hA : DataW.TrodAll enc Try.prog W 0 (fun _ => true) true Try.f4.params.toList args.toList ds p := hA0
  rw [Try.params4] at hA hval
  obtain ⟨rfl, rfl, rfl⟩ := trodAll_none hA
  obtain ⟨rfl, rfl⟩ := trodVars_none hV
  clear hA0 hval0
  simp only [List.append_nil] at hW'
  refine (names_walk W).mono fun e W' ⟨he, bel⟩ => ?_
  subst he
  refine ⟨_, rfl, _, _, _, [], [], [], hW', ?_, ?_, rfl, bel.frame _, fun h => by cases h⟩
  · exact trodAll_mk1 (shut_bool Try.underlying4 true)
  · exact trodAll_mk0

/-- The statement. -/
theorem roadNames_holds : Rows.RoadNamesSaid :=
  OpenClaim.holds_of_wide 4 Try.f4 rfl rfl rfl rfl rfl rfl rfl ⟨rfl, rfl, rfl, rfl, rfl⟩ rfl rfl rfl rfl rfl (by kernel_rfl) Try.func4 (by kernel_rfl)
    (of_decide_eq_true (by kernel_rfl)) (by unfold Func.isWrapper; first | (rw [if_pos (by decide +kernel)]; kernel_rfl) | (rw [if_neg (by decide +kernel)]; exact ⟨rfl, rfl⟩))
    (fun os started H enc _ => roadNames_lifted os started H enc)
#print axioms roadNames_holds
end Go.Proofs.Ytcaejedfjobooaa
