/- The Go function TallyNames returns true: for every world in which debt.ends holds what the program's text lays; nothing that was there is turned. -/
import Derived.Test.YtcaejedfjobooaaGreatDoorTallyOk
import Derived.Test.YtcaejedfjobooaaGreatDoorTallyA
import Derived.Test.YtcaejedfjobooaaGreatDoorTallyN
import Derived.Test.YtcaejedfjobooaaGreatDoorTallyRow
import Derived.Test.YtcaejedfjobooaaGreatDoorCards
import Derived.Test.YtcaejedfjobooaaGreatDoorTie
import Derived.SevenTiedAt
namespace Go.Proofs.YtcaejedfjobooaaGreatDoor
open Go Go.Proofs Go.ChangeShapes Go.WideShapes Go.RowKit
theorem own' : ownKnob Tryz.prog.godebug = none := by kernel_rfl
theorem alive_walk (W : World) (hG : Ev.Globs Ev.cfgA W (fun _ => False)) : CallsIn Fence.wide 0 Tryz.prog 13 #[] W fun e W' => e = .returned (.bool true) ∧ Below W.heap.size W W' :=
  Ev.top_quick Ev.tblA Ev.quickA Ev.TallyA_call W hG
namespace Ev
theorem tblM : TblOk Tryz.prog cfgM := by
  refine ⟨fun f fn h => FT.find_all tree_is h, extT_ok, fun f g h => ?_, dfk_ok⟩
  have e : cfgM.exth f = (Bool.rec none (some aliveG) (Nat.beq f 13) : Option (List AV → List AB → Option AV)) := rfl
  rw [e] at h
  cases hb : Nat.beq f 13 with
  | false => rw [hb] at h; cases h
  | true =>
    rw [hb] at h
    cases h
    obtain rfl := Nat.eq_of_beq_eq_true hb
    refine ⟨known_of is13, fun args H v rargs W L μ hv hr _ hG => ?_⟩
    cases args with
    | cons a l => cases hv
    | nil =>
      cases hv
      have : rargs = #[] := Array.ext' (List.eq_nil_of_length_eq_zero (by have := hr.1; simpa using this.symm))
      subst this
      exact (alive_walk W (globs_less hG)).mono fun en W' ⟨he, hb⟩ => ⟨⟨_, he, .bool⟩, hb⟩
theorem quickM : Q.Quick cfgM := ⟨fun _ => rfl, fun _ _ h => FT.find_all (FT.allB_all all_ok) h⟩
end Ev
theorem names_walk (W : World) (hG : Ev.Globs Ev.cfgM W (fun _ => False)) : Calls Tryz.prog 3 #[] W fun e W' => e = .returned (.bool true) ∧ Below W.heap.size W W' :=
  callsIn_wide.1 (Ev.top_quick Ev.tblM Ev.quickM Ev.TallyN_call W hG)

set_option maxRecDepth 100000 in
theorem names_lifted (os : Os) (started : os.Started) (H : Type) (enc : TypeId × Value → H) :
    ReturnsInHanded {} Tryz.checked os 3 .any (fun w args => (Rows.tallyNamesSpec.pre enc Tryz.prog Tryz.f3 [] false w args ∧ laidMetH Tryz.prog [("bogworks/debt.ends", Rows.laid_bogworks_debt_ends)] w) ∧ sizedMet enc Tryz.prog Tryz.f3 (OpenSpec.ofChange Rows.tallyNamesSpec) false w args)
      (Rows.tallyNamesSpec.post enc Tryz.prog Tryz.f3 false true false false) := by
  refine returnsInHanded_of_change_and (C := Tryz.checked) (X := fun w _ => laidMetH Tryz.prog [("bogworks/debt.ends", Rows.laid_bogworks_debt_ends)] w) (fun _ _ _ hh h => h.of_heap hh) own' started (by kernel_rfl) Tryz.func3
    (ChangeSpec.witness_at (enc := enc) (C := Tryz.checked) (os := os) (X := fun w _ => laidMetH Tryz.prog [("bogworks/debt.ends", Rows.laid_bogworks_debt_ends)] w) false (laidWorld os) #[] 8 rfl (by kernel_rfl) (by kernel_rfl) (by kernel_rfl) (by kernel_rfl) (by kernel_rfl) (laid_met os _)) ?_
  intro W base args ds gs before hval0 hW _ _ hL _
  have hW' := hW
  obtain ⟨p, q, hA0, hV0, rfl, hfz, hnd⟩ := hW
  have hA : DataW.TrodAll enc Tryz.prog W 0 (fun _ => true) true Tryz.f3.params.toList args.toList ds p := hA0
  have hV : DataW.TrodVars enc Tryz.prog W (fun _ => true) [] gs q := hV0
  rw [Tryz.params3] at hA
  obtain ⟨rfl, rfl, rfl⟩ := trodAll_none hA
  obtain ⟨rfl, rfl⟩ := trodVars_none hV
  clear hA0 hval0
  simp only [List.append_nil] at hW'
  refine (names_walk W (globs_of_laid hL)).mono fun e W' ⟨he, bel⟩ => ?_
  subst he
  refine ⟨_, rfl, _, _, _, [], [], [], hW', ?_, ?_, rfl, bel.frame _, fun h => by cases h⟩
  · exact trodAll_mk1 (shut_bool Tryz.underlying4 true)
  · exact trodAll_mk0

theorem names_row : Rows.TallyNamesSaid :=
  OpenClaim.holds_of_wide 3 Tryz.f3 rfl rfl rfl rfl rfl rfl rfl ⟨rfl, rfl, rfl, rfl, rfl⟩ rfl rfl rfl rfl rfl (by kernel_rfl) Tryz.func3 (by kernel_rfl)
    (of_decide_eq_true (by kernel_rfl)) (by unfold Func.isWrapper; first | (rw [if_pos (by decide +kernel)]; kernel_rfl) | (rw [if_neg (by decide +kernel)]; exact ⟨rfl, rfl⟩))
    (fun os started H enc _ => names_lifted os started H enc)

set_option maxRecDepth 100000 in
/-- The statement. -/
theorem tallyNames_holds : Rows.TallyNamesCardSaid :=
  Claim7.holds_tied_plain_at .later [] [.wider] true (true, "9974c435e36fa61f21104c9f7343ec659eb96f1cb29a89eca5114838973b431d") true
    names_row (fun _ h => by cases h) (by kernel_rfl) (fun _ h => by cases h) tallyNames_row_tie rfl ⟨rfl, rfl⟩ (by kernel_rfl) rfl
    (fun f fn hf hfn => by
      obtain rfl : f = 3 := Option.some.inj ((show Tryz.prog.funcNamed "bogworks/bogworkslaw13.TallyNames" = some 3 by kernel_rfl).symm.trans hf) |>.symm
      obtain rfl : fn = Tryz.f3 := (Option.some.inj (Tryz.func3.symm.trans hfn)).symm
      exact ⟨by kernel_rfl, fun j t ht => by
        rw [Tryz.params3] at ht
        simp at ht⟩)
    (by kernel_rfl)
#print axioms tallyNames_holds
end Go.Proofs.YtcaejedfjobooaaGreatDoor
