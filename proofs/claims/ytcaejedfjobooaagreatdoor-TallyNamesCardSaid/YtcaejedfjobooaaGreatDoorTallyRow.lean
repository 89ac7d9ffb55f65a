/- The laid variable of TallyNames. -/
import Derived.Test.YtcaejedfjobooaaGreatDoorTallyCfgN
import Derived.Test.YtcaejedfjobooaaGreatDoorEvTop
import Derived.Test.YtcaejedfjobooaaGreatDoorRows
import Derived.LaidLaws
import Derived.LaidHandle
import Derived.OpenShut
import Derived.ProofKit
import Derived.JoinedOf
import Derived.Stop.Joined
namespace Go.Proofs.YtcaejedfjobooaaGreatDoor
open Go Go.Proofs Go.RowKit Go.ChangeShapes Go.WideShapes
set_option maxRecDepth 100000
theorem typeName_named {P : Program} {nm : String} {tp : TypeId} (hrows : ((List.range P.types.size).all fun u => P.typeName? 3 u != some nm || u == tp) = true) (hstar : ∀ n', nm ≠ "*" ++ n')
    (u : TypeId) (hu : P.typeName? 3 u = some nm) : u = tp := by
  by_cases hlt : u < P.types.size
  · have := List.all_eq_true.1 hrows u (List.mem_range.2 hlt)
    simpa [hu] using this
  · exfalso
    unfold Program.typeName? at hu
    cases hi : P.info? u with
    | none => simp [hi] at hu
    | some i =>
      have hb := Tables.info?_beyond hlt hi
      simp only [hi] at hu
      cases hd : i.desc <;> simp only [hd, TypeDesc.tableOnly] at hu hb <;> try cases hb
      all_goals try cases hu
      rename_i e
      simp only [Option.map_eq_some_iff] at hu
      obtain ⟨n', _, hs⟩ := hu
      exact hstar n' hs.symm
theorem good_named (u : TypeId) (h : Tryz.prog.typeName? 3 u = some "bogworks/debt.good") : u = 238 :=
  typeName_named (by kernel_rfl) (fun n' h => by have := congrArg String.toList h; simp [String.toList_append] at this) u h
theorem bad_named (u : TypeId) (h : Tryz.prog.typeName? 3 u = some "bogworks/debt.bad") : u = 240 :=
  typeName_named (by kernel_rfl) (fun n' h => by have := congrArg String.toList h; simp [String.toList_append] at this) u h
theorem ends_named : Tryz.prog.globalNamed "bogworks/debt.ends" = some 0 := by kernel_rfl
theorem ends_type : (Tryz.prog.globals[0]?).map (·.type) = some 199 := by kernel_rfl
theorem cells_ends : Tryz.prog.cellsOf 199 = 2 := by kernel_rfl
theorem cells_end : Tryz.prog.cellsOf 198 = 1 := by kernel_rfl
theorem cells_good : Tryz.prog.cellsOf 238 = 0 := by kernel_rfl
theorem cells_bad : Tryz.prog.cellsOf 240 = 0 := by kernel_rfl
theorem no_cells {v : Value} (h : v.cells.toList.length = 0) : v = .agg #[] := by
  cases v <;> simp [Value.cells] at h
  rw [h]
theorem ends_of_laid {W : World} (h : laidMet Tryz.prog [("bogworks/debt.ends", Rows.laid_bogworks_debt_ends)] W) :
    W.cell? ⟨0, 0, none⟩ = some (.iface 238 (.agg #[])) ∧ W.cell? ⟨0, 1, none⟩ = some (.iface 240 (.agg #[])) := by
  obtain ⟨ps, ⟨g, t, cs, fuel, p, q, e1, e2, e3, e4, _, _⟩, _, _⟩ := h
  obtain rfl := Option.some.inj (ends_named.symm.trans e1)
  obtain rfl := Option.some.inj (ends_type.symm.trans e2)
  obtain ⟨xs, n, rfl, hx, hl, hxs, hf⟩ := DataW.trod_array Tryz.underlying199 e4
  rw [cells_ends] at hl
  obtain ⟨x0, x1, rfl⟩ : ∃ x0 x1, xs = [x0, x1] := by
    match xs, hxs with | [x0, x1], _ => exact ⟨x0, x1, rfl⟩
  have h0 := hf 0 (by omega)
  have h1 := hf 1 (by omega)
  rw [cells_end] at h0 h1
  have hd := congrArg Prod.fst hx
  simp only [Rows.laid_bogworks_debt_ends, List.map_cons, List.map_nil, DataW.agg.injEq, List.cons.injEq, and_true] at hd
  obtain ⟨d0, d1⟩ := hd
  obtain ⟨c0, c1, hcs⟩ : ∃ c0 c1, cs.toList = [c0, c1] := by
    match cs.toList, hl with | [c0, c1], _ => exact ⟨c0, c1, rfl⟩
  rw [hcs] at h0 h1
  simp only [Nat.zero_mul, Nat.one_mul, List.drop_zero, List.drop_succ_cons, List.take_succ_cons, List.take_zero, List.getElem?_cons_zero, List.getElem?_cons_succ] at h0 h1
  obtain ⟨y0, z0⟩ := x0
  obtain ⟨y1, z1⟩ := x1
  simp only at d0 d1
  subst d0 d1
  obtain ⟨f0, u0, v0, a0, b0, k0⟩ := iface_of_trod Tryz.underlying198 h0
  obtain ⟨f1, u1, v1, a1, b1, k1⟩ := iface_of_trod Tryz.underlying198 h1
  obtain rfl := good_named u0 b0
  obtain rfl := bad_named u1 b1
  obtain ⟨_, _, _, _, l0, _⟩ := DataW.trod_struct Tryz.underlying238 k0
  obtain ⟨_, _, _, _, l1, _⟩ := DataW.trod_struct Tryz.underlying240 k1
  rw [cells_good] at l0
  rw [cells_bad] at l1
  obtain rfl := no_cells l0
  obtain rfl := no_cells l1
  simp only [List.cons.injEq, and_true] at a0 a1
  subst a0 a1
  have g0 := World.var?_cell ends_named e3 0
  have g1 := World.var?_cell ends_named e3 1
  rw [← Array.getElem?_toList, hcs] at g0 g1
  simp at g0 g1
  exact ⟨g0, g1⟩
theorem globs_of_laid {C : Ev.Cfg} {W : World} (h : laidMet Tryz.prog [("bogworks/debt.ends", Rows.laid_bogworks_debt_ends)] W) : Ev.Globs C W (fun _ => False) := by
  obtain ⟨h0, h1⟩ := ends_of_laid h
  intro g cs hg
  have e : Ev.globA g = (bif Nat.beq g 0 then some [.iface 238 (.agg []), .iface 240 (.agg [])] else none) := rfl
  rw [e] at hg
  cases hb : Nat.beq g 0 with
  | false => rw [hb] at hg; cases hg
  | true =>
    rw [hb] at hg
    cases hg
    obtain rfl := Nat.eq_of_beq_eq_true hb
    have hv : ∀ t, Ev.VR W (fun _ => False) Ev.nomu (.iface t (.agg [])) (.iface t (.agg #[])) := fun t => .iface (Ev.agg_ok Ev.VL.nil)
    refine .rp (fun j => if j = 0 then .iface 238 (.agg #[]) else .iface 240 (.agg #[])) (fun j x hx => ⟨fun h => h, ?_⟩) (fun j x hx => ?_)
    · match j, hx with
      | 0, _ => exact h0
      | 1, _ => exact h1
    · match j, hx with
      | 0, hx => cases hx; exact hv _
      | 1, hx => cases hx; exact hv _
theorem globs_less {C C' : Ev.Cfg} {W : World} {L : Nat → Prop} (h : Ev.Globs C W L) : Ev.Globs C' W (fun _ => False) := fun g cs hg =>
  (h g cs hg).mono ⟨Nat.le_refl _, fun _ _ _ => rfl, fun _ o e => ⟨o, e, .refl o⟩, fun _ hb => hb.elim⟩ (Ev.Ext.refl _)
noncomputable def laidWorld (os : Os) : World :=
  { World.holding Tryz.prog os ⟨#[], #[], []⟩ with heap := (World.holding Tryz.prog os ⟨#[], #[], []⟩).heap.modify 0 fun
      | .cells _ t frozen => .cells #[.iface 238 (.agg #[]), .iface 240 (.agg #[])] t frozen
      | o => o }
theorem laid_met (os : Os) (args : Array Value) : laidMetH Tryz.prog [("bogworks/debt.ends", Rows.laid_bogworks_debt_ends)] ((laidWorld os).forCall (fun _ _ => 0) ⟨#[], args, []⟩).memory :=
  laidMetH_of_parts (laidMet_of_run' 8 (by kernel_rfl) (by kernel_rfl)) (by kernel_rfl)
end Go.Proofs.YtcaejedfjobooaaGreatDoor
