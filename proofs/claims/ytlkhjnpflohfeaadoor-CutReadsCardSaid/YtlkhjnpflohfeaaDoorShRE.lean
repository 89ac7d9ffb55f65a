/- The Go function CutReads returns true, for every argument, in every world in which cut.dry holds what the program's text lays; nothing that was there is turned. -/
import Derived.Test.YtlkhjnpflohfeaaDoorShRD
import Derived.Test.YtlkhjnpflohfeaaDoorProg
import Derived.KernelRfl
import Derived.Test.YtlkhjnpflohfeaaDoorShQC
import Derived.OpenShut
import Derived.Deep.Slices
import Derived.Deep.Fields
import Derived.ChangeSame
import Derived.Test.YtlkhjnpflohfeaaDoorRows
import Derived.LaidLaws
import Derived.ProofKit
import Derived.JoinedOf
import Derived.LaidHandle
import Derived.Stop.Joined
import Derived.Test.YtlkhjnpflohfeaaDoorCards
import Derived.Test.YtlkhjnpflohfeaaDoorTie
import Derived.SevenTiedAt
/- The evaluator's code of the reference of chapter 06 is that of the program. Printed by program. -/
namespace Go.Proofs.YtlkhjnpflohfeaaDoor
open Go Go.Proofs
namespace Ev
namespace R
set_option maxRecDepth 1000000
theorem is3 : ∃ F, Tryd.prog.funcs[3]? = some F ∧ (F.name == "runtime.NumGoroutine") = false ∧ compFn Tryd.prog F = some af3.strip := ⟨_, Tryd.func3, by kernel_rfl, by kernel_rfl⟩
theorem is4 : ∃ F, Tryd.prog.funcs[4]? = some F ∧ (F.name == "runtime.NumGoroutine") = false ∧ compFn Tryd.prog F = some af4.strip := ⟨_, Tryd.func4, by kernel_rfl, by kernel_rfl⟩
theorem is12 : ∃ F, Tryd.prog.funcs[12]? = some F ∧ (F.name == "runtime.NumGoroutine") = false ∧ compFn Tryd.prog F = some af12.strip := ⟨_, Tryd.func12, by kernel_rfl, by kernel_rfl⟩
theorem is15 : ∃ F, Tryd.prog.funcs[15]? = some F ∧ (F.name == "runtime.NumGoroutine") = false ∧ compFn Tryd.prog F = some af15.strip := ⟨_, Tryd.func15, by kernel_rfl, by kernel_rfl⟩
theorem is17 : ∃ F, Tryd.prog.funcs[17]? = some F ∧ (F.name == "runtime.NumGoroutine") = false ∧ compFn Tryd.prog F = some af17.strip := ⟨_, Tryd.func17, by kernel_rfl, by kernel_rfl⟩
theorem is19 : ∃ F, Tryd.prog.funcs[19]? = some F ∧ (F.name == "runtime.NumGoroutine") = false ∧ compFn Tryd.prog F = some af19.strip := ⟨_, Tryd.func19, by kernel_rfl, by kernel_rfl⟩
theorem is21 : ∃ F, Tryd.prog.funcs[21]? = some F ∧ (F.name == "runtime.NumGoroutine") = false ∧ compFn Tryd.prog F = some af21.strip := ⟨_, Tryd.func21, by kernel_rfl, by kernel_rfl⟩
theorem is23 : ∃ F, Tryd.prog.funcs[23]? = some F ∧ (F.name == "runtime.NumGoroutine") = false ∧ compFn Tryd.prog F = some af23.strip := ⟨_, Tryd.func23, by kernel_rfl, by kernel_rfl⟩
theorem is25 : ∃ F, Tryd.prog.funcs[25]? = some F ∧ (F.name == "runtime.NumGoroutine") = false ∧ compFn Tryd.prog F = some af25.strip := ⟨_, Tryd.func25, by kernel_rfl, by kernel_rfl⟩
theorem is27 : ∃ F, Tryd.prog.funcs[27]? = some F ∧ (F.name == "runtime.NumGoroutine") = false ∧ compFn Tryd.prog F = some af27.strip := ⟨_, Tryd.func27, by kernel_rfl, by kernel_rfl⟩
theorem is29 : ∃ F, Tryd.prog.funcs[29]? = some F ∧ (F.name == "runtime.NumGoroutine") = false ∧ compFn Tryd.prog F = some af29.strip := ⟨_, Tryd.func29, by kernel_rfl, by kernel_rfl⟩
theorem is39 : ∃ F, Tryd.prog.funcs[39]? = some F ∧ (F.name == "runtime.NumGoroutine") = false ∧ compFn Tryd.prog F = some af39.strip := ⟨_, Tryd.func39, by kernel_rfl, by kernel_rfl⟩
theorem is48 : ∃ F, Tryd.prog.funcs[48]? = some F ∧ (F.name == "runtime.NumGoroutine") = false ∧ compFn Tryd.prog F = some af48.strip := ⟨_, Tryd.func48, by kernel_rfl, by kernel_rfl⟩
theorem is49 : ∃ F, Tryd.prog.funcs[49]? = some F ∧ (F.name == "runtime.NumGoroutine") = false ∧ compFn Tryd.prog F = some af49.strip := ⟨_, Tryd.func49, by kernel_rfl, by kernel_rfl⟩
theorem is50 : ∃ F, Tryd.prog.funcs[50]? = some F ∧ (F.name == "runtime.NumGoroutine") = false ∧ compFn Tryd.prog F = some af50.strip := ⟨_, Tryd.func50, by kernel_rfl, by kernel_rfl⟩
theorem is60 : ∃ F, Tryd.prog.funcs[60]? = some F ∧ (F.name == "runtime.NumGoroutine") = false ∧ compFn Tryd.prog F = some af60.strip := ⟨_, Tryd.func60, by kernel_rfl, by kernel_rfl⟩
theorem is61 : ∃ F, Tryd.prog.funcs[61]? = some F ∧ (F.name == "runtime.NumGoroutine") = false ∧ compFn Tryd.prog F = some af61.strip := ⟨_, Tryd.func61, by kernel_rfl, by kernel_rfl⟩
theorem is65 : ∃ F, Tryd.prog.funcs[65]? = some F ∧ (F.name == "runtime.NumGoroutine") = false ∧ compFn Tryd.prog F = some af65.strip := ⟨_, Tryd.func65, by kernel_rfl, by kernel_rfl⟩
theorem is66 : ∃ F, Tryd.prog.funcs[66]? = some F ∧ (F.name == "runtime.NumGoroutine") = false ∧ compFn Tryd.prog F = some af66.strip := ⟨_, Tryd.func66, by kernel_rfl, by kernel_rfl⟩
theorem is68 : ∃ F, Tryd.prog.funcs[68]? = some F ∧ (F.name == "runtime.NumGoroutine") = false ∧ compFn Tryd.prog F = some af68.strip := ⟨_, Tryd.func68, by kernel_rfl, by kernel_rfl⟩
theorem is77 : ∃ F, Tryd.prog.funcs[77]? = some F ∧ (F.name == "runtime.NumGoroutine") = false ∧ compFn Tryd.prog F = some af77.strip := ⟨_, Tryd.func77, by kernel_rfl, by kernel_rfl⟩
theorem is78 : ∃ F, Tryd.prog.funcs[78]? = some F ∧ (F.name == "runtime.NumGoroutine") = false ∧ compFn Tryd.prog F = some af78.strip := ⟨_, Tryd.func78, by kernel_rfl, by kernel_rfl⟩
theorem is80 : ∃ F, Tryd.prog.funcs[80]? = some F ∧ (F.name == "runtime.NumGoroutine") = false ∧ compFn Tryd.prog F = some af80.strip := ⟨_, Tryd.func80, by kernel_rfl, by kernel_rfl⟩
theorem is95 : ∃ F, Tryd.prog.funcs[95]? = some F ∧ (F.name == "runtime.NumGoroutine") = false ∧ compFn Tryd.prog F = some af95.strip := ⟨_, Tryd.func95, by kernel_rfl, by kernel_rfl⟩
theorem is99 : ∃ F, Tryd.prog.funcs[99]? = some F ∧ (F.name == "runtime.NumGoroutine") = false ∧ compFn Tryd.prog F = some af99.strip := ⟨_, Tryd.func99, by kernel_rfl, by kernel_rfl⟩
theorem is100 : ∃ F, Tryd.prog.funcs[100]? = some F ∧ (F.name == "runtime.NumGoroutine") = false ∧ compFn Tryd.prog F = some af100.strip := ⟨_, Tryd.func100, by kernel_rfl, by kernel_rfl⟩
theorem is102 : ∃ F, Tryd.prog.funcs[102]? = some F ∧ (F.name == "runtime.NumGoroutine") = false ∧ compFn Tryd.prog F = some af102.strip := ⟨_, Tryd.func102, by kernel_rfl, by kernel_rfl⟩
theorem is103 : ∃ F, Tryd.prog.funcs[103]? = some F ∧ (F.name == "runtime.NumGoroutine") = false ∧ compFn Tryd.prog F = some af103.strip := ⟨_, Tryd.func103, by kernel_rfl, by kernel_rfl⟩
theorem tree_is : FT.All (fun k af => ∃ F, Tryd.prog.funcs[k]? = some F ∧ (F.name == "runtime.NumGoroutine") = false ∧ compFn Tryd.prog F = some af.strip) fnTree :=
  ⟨is50, ⟨is23, ⟨is15, ⟨is4, ⟨is3, trivial, trivial⟩, ⟨is12, trivial, trivial⟩⟩, ⟨is19, ⟨is17, trivial, trivial⟩, ⟨is21, trivial, trivial⟩⟩⟩, ⟨is39, ⟨is27, ⟨is25, trivial, trivial⟩, ⟨is29, trivial, trivial⟩⟩, ⟨is49, ⟨is48, trivial, trivial⟩, trivial⟩⟩⟩, ⟨is78, ⟨is66, ⟨is61, ⟨is60, trivial, trivial⟩, ⟨is65, trivial, trivial⟩⟩, ⟨is77, ⟨is68, trivial, trivial⟩, trivial⟩⟩, ⟨is100, ⟨is95, ⟨is80, trivial, trivial⟩, ⟨is99, trivial, trivial⟩⟩, ⟨is103, ⟨is102, trivial, trivial⟩, trivial⟩⟩⟩⟩
end R
end Ev
end Go.Proofs.YtlkhjnpflohfeaaDoor

/- The reference of chapter 06, as the laws call it. -/
namespace Go.Proofs.YtlkhjnpflohfeaaDoor
open Go Go.Proofs Go.RowKit
namespace Ev
namespace R
set_option maxRecDepth 100000
/-- The functions that are told. -/
def exthR (f : Nat) : Option (List AV → List AB → Option AV) :=
  if f = 14 then some (gCut sDepth) else if f = 16 then some (gCut sLeak) else if f = 18 then some (gCut sFloats) else if f = 20 then some (gCut sLoads) else
  if f = 34 then some (gCut sFar) else if f = 35 then some (gCut sValid) else if f = 13 then some gAwake else none
theorem exthR_ok (C : Cfg) : ∀ f g, exthR f = some g → Known f ∧
    ∀ (args : List AV) (H : List AB) (v : AV) (rargs : Array Value) (W : World) (L : Nat → Prop) (μ : Mu), g args H = some v → VL W L μ args rargs.toList → Sim Tryd.prog W L μ H → Globs C W L →
      CallsIn Fence.wide 0 Tryd.prog f rargs W fun e W' => (∃ w, e = .returned w ∧ VR W' L nomu v w) ∧ Below W.heap.size W W' := by
  intro f g h
  unfold exthR at h
  by_cases hf : f = 14
  · rw [if_pos hf] at h; subst hf; cases h; exact ⟨⟨_, Tryd.func14, by kernel_rfl, by kernel_rfl⟩, gcut_ok depth_ok⟩
  rw [if_neg hf] at h; clear hf
  by_cases hf : f = 16
  · rw [if_pos hf] at h; subst hf; cases h; exact ⟨⟨_, Tryd.func16, by kernel_rfl, by kernel_rfl⟩, gcut_ok leak_ok⟩
  rw [if_neg hf] at h; clear hf
  by_cases hf : f = 18
  · rw [if_pos hf] at h; subst hf; cases h; exact ⟨⟨_, Tryd.func18, by kernel_rfl, by kernel_rfl⟩, gcut_ok floats_ok⟩
  rw [if_neg hf] at h; clear hf
  by_cases hf : f = 20
  · rw [if_pos hf] at h; subst hf; cases h; exact ⟨⟨_, Tryd.func20, by kernel_rfl, by kernel_rfl⟩, gcut_ok loads_ok⟩
  rw [if_neg hf] at h; clear hf
  by_cases hf : f = 34
  · rw [if_pos hf] at h; subst hf; cases h; exact ⟨⟨_, Tryd.func34, by kernel_rfl, by kernel_rfl⟩, gcut_ok far_ok⟩
  rw [if_neg hf] at h; clear hf
  by_cases hf : f = 35
  · rw [if_pos hf] at h; subst hf; cases h; exact ⟨⟨_, Tryd.func35, by kernel_rfl, by kernel_rfl⟩, gcut_ok valid_ok⟩
  rw [if_neg hf] at h; clear hf
  by_cases hf : f = 13
  · rw [if_pos hf] at h; subst hf; cases h
    refine ⟨⟨_, Tryd.func13, by kernel_rfl, by kernel_rfl⟩, fun args H v rargs W L μ h hv hs hG => ?_⟩
    unfold gAwake at h
    split at h <;> cases h
    obtain rfl := toArray_nil hv
    exact (callsIn_wide.2 (awake_any W (dry_of_globs hG))).mono fun e W' ⟨h1, h2⟩ => ⟨⟨_, h1, .bool⟩, h2⟩
  · rw [if_neg hf] at h; cases h
/-- What the evaluator is told of the laws that compare. -/
noncomputable def cfgR : Cfg where
  fns := FT.find fnTree
  glob := fun _ => none
  dfk := fun _ => none
  ext := fun _ => none
  exth := exthR
  calm := true
  whole := fun _ => true
theorem tblR : TblOk Tryd.prog cfgR := ⟨fun f fn h => FT.find_all tree_is h, fun _ _ h => (by cases h), fun f g h => exthR_ok cfgR f g h, fun _ _ _ h => (by cases h)⟩
theorem told_callR {n f : Nat} {g : List AV → List AB → Option AV} (hg : exthR f = some g) (args : List AV) (H : List AB) (v : AV) (h : g args H = some v) : Ev.call cfgR (n + 1) (.fn (.func f) [] []) args H = some (.ret v, H, []) := by
  show enter cfgR (Ev.call cfgR n) f ([] ++ args ++ []) H = _
  rw [List.nil_append, List.append_nil]
  have e1 : cfgR.ext f = none := rfl
  have e2 : cfgR.exth f = some g := hg
  simp only [enter, e1, e2, h, Option.map_some]
theorem apiR (n : Nat) : ApiS (Ev.call cfgR (n + 1)) specApi where
  depth hc d := told_callR rfl _ _ _ (by simp only [gCut, hc]; rfl)
  leak hc := told_callR rfl _ _ _ (by simp only [gCut, hc]; rfl)
  floats hc b n' d := told_callR rfl _ _ _ (by simp only [gCut, hc]; rfl)
  loads hc b d := told_callR rfl _ _ _ (by simp only [gCut, hc]; rfl)
  awake := told_callR rfl _ _ _ rfl
  far hc := told_callR rfl _ _ _ (by simp only [gCut, hc]; rfl)
  valid hc := told_callR rfl _ _ _ (by simp only [gCut, hc]; rfl)
theorem inR (n : Nat) : InC (Ev.call cfgR (n + 1)) := fun H k a b => bare_call rfl rfl rfl (by kernel_rfl) rfl rfl (show (3 : Nat) ≤ 15 by omega) rfl (in_fun cfgR _ k a b H)
theorem powR (n : Nat) : PowerC (Ev.call cfgR (n + 1)) := fun H k hk => bare_call rfl rfl rfl (by kernel_rfl) rfl rfl (show (1 : Nat) ≤ 13 by omega) rfl (power_fun cfgR rfl _ k hk H)
theorem hasR (n : Nat) : HasC (Ev.call cfgR (n + 2)) := fun H s k hs hk => bare_call rfl rfl rfl (by kernel_rfl) rfl rfl (show (2 : Nat) ≤ 11 by omega) rfl (has_fun cfgR _ (powR n) s k hs hk H)
theorem nextR (n : Nat) : NextC (Ev.call cfgR (n + 1)) := fun H a b k l m r bs ls u q lk h1 h2 h3 h4 h5 h6 => bare_call rfl rfl rfl (by kernel_rfl) rfl rfl (show (4 : Nat) ≤ 18 by omega) rfl (next_fun cfgR _ H a b k l m r bs ls u q lk h1 h2 h3 h4 h5 h6)
theorem goesR (n : Nat) : GoesC (Ev.call cfgR (n + 2)) := fun H a b k l m r bs ls V d hd u v lk u0 u1 k0 k1 => bare_call rfl rfl rfl (by kernel_rfl) rfl rfl (show (5 : Nat) ≤ 35 by omega) rfl (goes_fun cfgR rfl _ (nextR n) H a b k l m r bs ls V d hd u v lk u0 u1 k0 k1)
theorem fitsR (n : Nat) : FitsC (Ev.call cfgR (n + 3)) := fun H a b k l m r bs ls k5 s d v hs => bare_call rfl rfl rfl (by kernel_rfl) rfl rfl (show (4 : Nat) ≤ 43 by omega) rfl (fits_fun cfgR rfl _ (inR (n + 1)) (hasR n) H a b k l m r bs ls k5 s d v hs)
theorem depthsR (n : Nat) : DepthsC (Ev.call cfgR (n + 4)) := depths_call rfl ⟨rfl, rfl, by kernel_rfl, rfl⟩ (goesR (n + 1)) (inR (n + 2)) (fitsR n)
theorem waysR (n : Nat) : WaysC (Ev.call cfgR (n + 5)) := ways_call rfl ⟨rfl, rfl, by kernel_rfl, rfl⟩ (depthsR n)
theorem everyR (n : Nat) : EveryC (Ev.call cfgR (n + 2)) := fun H a b k l m r bs ls h5 => bare_call rfl rfl rfl (by kernel_rfl) rfl rfl (show (1 : Nat) ≤ 8 by omega) rfl (every_fun cfgR _ (powR n) H a b k l m r bs ls h5)
theorem toldR (n : Nat) : ToldC (Ev.call cfgR (n + 6)) := told_call rfl ⟨rfl, rfl, by kernel_rfl, rfl⟩ ⟨rfl, rfl, by kernel_rfl, rfl⟩ (fun H a b k l m r bs ls => (apiR (n + 4)).valid (cutOf_mk H a b k l m r bs ls)) (everyR (n + 3)) (waysR n)
theorem dayR (n : Nat) : DayC (Ev.call cfgR (n + 2)) := fun H a b k l m r bs ls d => bare_call rfl rfl rfl (by kernel_rfl) rfl rfl (show (2 : Nat) ≤ 10 by omega) rfl (day_fun cfgR _ (inR n) H a b k l m r bs ls d)
theorem boatR (n : Nat) : BoatC (Ev.call cfgR (n + 2)) := fun H a b k l m r bs ls d h => bare_call rfl rfl rfl (by kernel_rfl) rfl rfl (show (2 : Nat) ≤ 11 by omega) rfl (boat_fun cfgR _ (inR n) H a b k l m r bs ls d h)
theorem isloR (n : Nat) : LoadsC (Ev.call cfgR (n + 3)) := fun H a b k l m r bs ls d q h => bare_call rfl rfl rfl (by kernel_rfl) rfl rfl (show (3 : Nat) ≤ 20 by omega) rfl (loads_fun cfgR _ (inR (n + 1)) (boatR n) H a b k l m r bs ls d q h)
theorem floR (n : Nat) : FloatsC (Ev.call cfgR (n + 1)) := fun H b hb q lo hi h0 h1 => bare_call rfl rfl rfl (by kernel_rfl) rfl rfl (show (3 : Nat) ≤ 29 by omega) rfl (floats_fun cfgR _ H b hb q lo hi h0 h1)
theorem mostR (n : Nat) : MostC (Ev.call cfgR (n + 2)) := fun H b hb lo hi sure hlh => bare_call rfl rfl rfl (by kernel_rfl) rfl rfl (show (3 : Nat) ≤ 23 by omega) rfl (most_fun cfgR rfl _ (floR n) H b hb lo hi sure hlh)
theorem refR (n : Nat) : RefOk (Ev.call cfgR (n + 7)) specApi where
  depth H a b k l m r bs ls _ d := bare_res rfl ⟨rfl, rfl, by kernel_rfl, rfl⟩ (show (2 : Nat) ≤ 24 by omega) rfl (depth_fun cfgR _ (toldR n) (dayR (n + 4)) H a b k l m r bs ls d)
  leak H a b k l m r bs ls _ := bare_res rfl ⟨rfl, rfl, by kernel_rfl, rfl⟩ (show (1 : Nat) ≤ 27 by omega) rfl (leak_fun cfgR _ (toldR n) H a b k l m r bs ls)
  floats H a b k l m r bs ls h o q d := bare_res rfl ⟨rfl, rfl, by kernel_rfl, rfl⟩ (show (4 : Nat) ≤ 40 by omega) rfl (floatsx_fun cfgR _ (toldR n) (dayR (n + 4)) (isloR (n + 3)) (floR (n + 5)) H a b k l m r bs ls h o q d)
  loads H a b k l m r bs ls h o d := bare_res rfl ⟨rfl, rfl, by kernel_rfl, rfl⟩ (show (3 : Nat) ≤ 46 by omega) rfl (loadsx_fun cfgR _ (toldR n) (dayR (n + 4)) (boatR (n + 4)) (mostR (n + 4)) H a b k l m r bs ls h o d)
theorem heavyR (n : Nat) : HeavyC (Ev.call cfgR (n + 2)) specApi := fun H a b k l m r bs ls q => bare_call rfl rfl rfl (by kernel_rfl) rfl rfl (show (2 : Nat) ≤ 17 by omega) rfl (heavy_fun cfgR _ specApi (apiR n) H a b k l m r bs ls q)
theorem far_40 {a b k l m : Int} {r : List (Int × Int)} {bs : List Boat} {ls : List Look} (h : farD ⟨(a, b), (k, l), r, m, bs, ls⟩ = false) : bs.length ≤ 40 := by
  unfold farD at h
  rw [decide_eq_false_iff_not] at h
  simp only at h
  omega
end R
end Ev
end Go.Proofs.YtlkhjnpflohfeaaDoor

/- CutReads answers true. -/
namespace Go.Proofs.YtlkhjnpflohfeaaDoor
open Go Go.Proofs Go.RowKit
open Ev
set_option maxRecDepth 100000 in
theorem reads_found (c : CutD) (o n d : Int) : ∃ H' tc, Ev.call R.cfgR 8 (.fn (.func 3) [] []) [cutA c, .int .i64 o, .int .i64 n, .int .i64 d] [] = some (.ret (.bool true), H', tc) := by
  refine yes_call (t := 8) (n := 7) (fn := R.af3) rfl rfl rfl (by kernel_rfl) rfl rfl (show (4 : Nat) ≤ 130 by omega) ?_
  obtain ⟨⟨a, b⟩, ⟨k, l⟩, r, m, bs, ls⟩ := c
  exact R.reads_main R.cfgR _ specApi (R.apiR 6) (R.heavyR 5) (R.refR 0) a b k l m r bs ls (fun h => R.far_40 h) o n d
theorem lawCutReads (c : CutD) (ra ba la : Option Addr) (rc bc lc : Nat) {W : World} (hin : CutIn W c ra ba la) (h1 : c.rain.length ≤ rc) (h2 : c.boats.length ≤ bc) (h3 : c.looks.length ≤ lc) (x1 : Int) (_wf1 : (Lit.int .i64 x1).wf = true) (x2 : Int) (_wf2 : (Lit.int .i64 x2).wf = true) (x3 : Int) (_wf3 : (Lit.int .i64 x3).wf = true) :
    Calls Tryd.prog 3 #[cutVal c ra ba la rc bc lc, .int .i64 x1, .int .i64 x2, .int .i64 x3] W fun e W' => e = .returned (.bool true) ∧ Below W.heap.size W W' := by
  obtain ⟨H', tc, h⟩ := reads_found c x1 x2 x3
  exact callsIn_wide.1 (top_args R.tblR h W (globs_of_dry hin.dry) (VL.cons (cut_vr hin h1 h2 h3) (VL.cons .int (VL.cons .int (VL.cons .int VL.nil)))))
end Go.Proofs.YtlkhjnpflohfeaaDoor

/- An argument that is a cut: from its reading to its cells. -/
namespace Go.Proofs.YtlkhjnpflohfeaaDoor
open Go Go.Proofs Go.RowKit Go.ChangeShapes Go.WideShapes Go.Deep
section
variable {H : Type} {enc : TypeId × Value → H} {w : World} {base : Nat} {spare : Nat → Bool} {held : Bool} {fuel : Nat} {cs : List Value} {x : DataW H × List MemPlace}

theorem list2 {cs : List Value} (h : cs.length = 2) : ∃ a b, cs = [a, b] := by
  match cs, h with | [a, b], _ => exact ⟨a, b, rfl⟩
theorem list3 {cs : List Value} (h : cs.length = 3) : ∃ a b c, cs = [a, b, c] := by
  match cs, h with | [a, b, c], _ => exact ⟨a, b, c, rfl⟩
theorem list4 {cs : List Value} (h : cs.length = 4) : ∃ a b c d, cs = [a, b, c, d] := by
  match cs, h with | [a, b, c, d], _ => exact ⟨a, b, c, d, rfl⟩
theorem list8 {cs : List Value} (h : cs.length = 8) : ∃ a b c d e f g i, cs = [a, b, c, d, e, f, g, i] := by
  match cs, h with | [a, b, c, d, e, f, g, i], _ => exact ⟨a, b, c, d, e, f, g, i, rfl⟩
theorem cells_int : Tryd.prog.cellsOf 3 = 1 := by kernel_rfl
theorem cells_span : Tryd.prog.cellsOf 23 = 2 := by kernel_rfl
theorem cells_boat : Tryd.prog.cellsOf 51 = 4 := by kernel_rfl
theorem cells_look : Tryd.prog.cellsOf 55 = 3 := by kernel_rfl

theorem trod_i (h : ∃ y, DataW.trod enc Tryd.prog w base spare held fuel 3 cs = some y) : ∃ n, cs = [.int .i64 n] ∧ (Lit.int .i64 n).wf = true := by
  obtain ⟨y, h⟩ := h
  obtain ⟨n, h1, _, h2⟩ := DataW.trod_int Tryd.underlying3 h
  exact ⟨n, h1, h2⟩
theorem trod_span (h : ∃ y, DataW.trod enc Tryd.prog w base spare held fuel 23 cs = some y) : ∃ a b, cs = [.int .i64 a, .int .i64 b] := by
  obtain ⟨y, h⟩ := h
  obtain ⟨xs, n, rfl, _, hl, hx, hf⟩ := DataW.trod_struct Tryd.underlying23 h
  rw [cells_span] at hl
  have hx : xs.length = 2 := hx
  obtain ⟨c0, c1, rfl⟩ := list2 hl
  clear hl
  obtain ⟨a, ha, _⟩ := trod_i ⟨_, (hf 0 _ rfl).trans (List.getElem?_eq_getElem (by omega))⟩
  obtain ⟨b, hb, _⟩ := trod_i ⟨_, (hf 1 _ rfl).trans (List.getElem?_eq_getElem (by omega))⟩
  simp [cells_int] at ha hb
  exact ⟨a, b, by rw [ha, hb]⟩
theorem trod_boat (h : ∃ y, DataW.trod enc Tryd.prog w base spare held fuel 51 cs = some y) : ∃ a b p r, cs = [.int .i64 a, .int .i64 b, .int .i64 p, .int .i64 r] := by
  obtain ⟨y, h⟩ := h
  obtain ⟨xs, n, rfl, _, hl, hx, hf⟩ := DataW.trod_struct Tryd.underlying51 h
  rw [cells_boat] at hl
  have hx : xs.length = 3 := hx
  obtain ⟨c0, c1, c2, c3, rfl⟩ := list4 hl
  clear hl
  obtain ⟨a, b, hab⟩ := trod_span ⟨_, (hf 0 _ rfl).trans (List.getElem?_eq_getElem (by omega))⟩
  obtain ⟨p, hp, _⟩ := trod_i ⟨_, (hf 1 _ rfl).trans (List.getElem?_eq_getElem (by omega))⟩
  obtain ⟨r, hr, _⟩ := trod_i ⟨_, (hf 2 _ rfl).trans (List.getElem?_eq_getElem (by omega))⟩
  simp [cells_int, cells_span] at hab hp hr
  exact ⟨a, b, p, r, by rw [hab.1, hab.2, hp, hr]⟩
theorem trod_look (h : ∃ y, DataW.trod enc Tryd.prog w base spare held fuel 55 cs = some y) : ∃ d a b, cs = [.int .i64 d, .int .i64 a, .int .i64 b] := by
  obtain ⟨y, h⟩ := h
  obtain ⟨xs, n, rfl, _, hl, hx, hf⟩ := DataW.trod_struct Tryd.underlying55 h
  rw [cells_look] at hl
  have hx : xs.length = 2 := hx
  obtain ⟨c0, c1, c2, rfl⟩ := list3 hl
  clear hl
  obtain ⟨d, hd, _⟩ := trod_i ⟨_, (hf 0 _ rfl).trans (List.getElem?_eq_getElem (by omega))⟩
  obtain ⟨a, b, hab⟩ := trod_span ⟨_, (hf 1 _ rfl).trans (List.getElem?_eq_getElem (by omega))⟩
  simp [cells_int, cells_span] at hab hd
  exact ⟨d, a, b, by rw [hab.1, hab.2, hd]⟩

theorem block_lt {W : World} {a : Addr} {v : Value} (h : W.cell? a = some v) : a.block < W.heap.size := by
  apply Classical.byContradiction
  intro hn
  have : W.heap[a.block]? = none := by simp; omega
  simp [World.cell?, this] at h

/-- A slice of elements of k cells each, as a list of what they are. -/
theorem row_of {α : Type} {t e : TypeId} {k : Nat} (d : α) (g : α → List Value) (hk : 0 < k) (hg : ∀ y, (g y).length = k) (ht : Tryd.prog.underlying t = some (.slice e)) (hc : Tryd.prog.cellsOf e = k)
    (he : ∀ (fuel : Nat) (cs : List Value), (∃ y, DataW.trod enc Tryd.prog w base spare held fuel e cs = some y) → ∃ y, cs = g y)
    (h : ∃ y, DataW.trod enc Tryd.prog w base spare held fuel t cs = some y) :
    ∃ (ra : Option Addr) (l : List α) (rc : Nat), cs = [.slice ra l.length rc] ∧ l.length ≤ rc ∧ rc ≤ maxLen ∧ ElemsR w ra l.length k (fun i j => (g (l.getD i d)).getD j undef) := by
  obtain ⟨y, h⟩ := h
  rcases open_slice ht h with ⟨rfl, _⟩ | ⟨a, len, cap, m, n, D, Pl, rfl, hb, hl, hm, hmm, hx, hi⟩
  · exact ⟨none, [], 0, rfl, Nat.le_refl _, Nat.zero_le _, .inl rfl⟩
  · have hml : len ≤ m := by rw [hmm]; split <;> omega
    have : ∀ i, ∃ y : α, i < len → ∀ j, j < k → w.cell? (a.add (i * k + j)) = some ((g y).getD j undef) := by
      intro i
      by_cases hlt : i < len
      · obtain ⟨cs', h1, h2⟩ := hi i (by omega)
        obtain ⟨y, rfl⟩ := he n cs' ⟨_, h2⟩
        rw [hc] at h1
        obtain ⟨_, _, h3⟩ := World.cells?_some h1
        refine ⟨y, fun _ j hj => ?_⟩
        rw [← Go.Deep.add_add, h3 j hj, List.getElem?_eq_getElem (by rw [hg]; exact hj)]
        simp [hg, hj]
      · exact ⟨d, fun h => absurd h hlt⟩
    obtain ⟨f, hf⟩ := Classical.skolem.1 this
    refine ⟨some a, (List.range len).map f, cap, by simp, by simpa using hl, hm, ?_⟩
    by_cases h0 : len = 0
    · exact .inl (by simp [h0])
    · have h00 := hf 0 (by omega) 0 hk
      have hs := World.cell?_spot h00
      have hb := block_lt h00
      obtain ⟨b, off, sp⟩ := a
      obtain rfl : sp = none := by simpa [Addr.add] using hs
      have hadd : ∀ u, Addr.add ⟨b, off, none⟩ u = ⟨b, off + u, none⟩ := fun u => by simp [Addr.add]
      rw [hadd] at hb
      refine .inr ⟨b, off, rfl, hb, fun i j hi hj => ?_⟩
      simp only [List.length_map, List.length_range] at hi
      have := hf i hi j hj
      rw [hadd, ← Nat.add_assoc] at this
      rw [this]
      simp [hi]

def spanC (s : Int × Int) : List Value := [.int .i64 s.1, .int .i64 s.2]
def boatC (b : Boat) : List Value := [.int .i64 b.draws.1, .int .i64 b.draws.2, .int .i64 b.per, .int .i64 b.room]
def lookC (l : Look) : List Value := [.int .i64 l.day, .int .i64 l.depth.1, .int .i64 l.depth.2]
theorem elems_to {W : World} {ra : Option Addr} {n k : Nat} {f g : Nat → Nat → Value} (h : ElemsR W ra n k f) (he : ∀ i j, i < n → j < k → f i j = g i j) : ElemsR W ra n k g := by
  rcases h with h | ⟨b, off, h1, h2, h3⟩
  · exact .inl h
  · exact .inr ⟨b, off, h1, h2, fun i j hi hj => (h3 i j hi hj).trans (by rw [he i j hi hj])⟩
theorem trod_rain (h : ∃ y, DataW.trod enc Tryd.prog w base spare held fuel 24 cs = some y) : ∃ (ra : Option Addr) (l : List (Int × Int)) (rc : Nat), cs = [.slice ra l.length rc] ∧ l.length ≤ rc ∧ rc ≤ maxLen ∧ ElemsR w ra l.length 2 (spanCell l) := by
  obtain ⟨ra, l, rc, h1, h2, h3, h4⟩ := row_of (k := 2) (0, 0) spanC (by omega) (fun _ => rfl) Tryd.underlying24 cells_span (fun _ _ h => by obtain ⟨a, b, h⟩ := trod_span h; exact ⟨(a, b), h⟩) h
  refine ⟨ra, l, rc, h1, h2, h3, elems_to h4 fun i j _ hj => ?_⟩
  have : j = 0 ∨ j = 1 := by omega
  rcases this with rfl | rfl <;> rfl
theorem trod_boats (h : ∃ y, DataW.trod enc Tryd.prog w base spare held fuel 25 cs = some y) : ∃ (ra : Option Addr) (l : List Boat) (rc : Nat), cs = [.slice ra l.length rc] ∧ l.length ≤ rc ∧ rc ≤ maxLen ∧ ElemsR w ra l.length 4 (boatCell l) := by
  obtain ⟨ra, l, rc, h1, h2, h3, h4⟩ := row_of (k := 4) Cut.nobody boatC (by omega) (fun _ => rfl) Tryd.underlying25 cells_boat (fun _ _ h => by obtain ⟨a, b, p, r, h⟩ := trod_boat h; exact ⟨⟨(a, b), p, r⟩, h⟩) h
  refine ⟨ra, l, rc, h1, h2, h3, elems_to h4 fun i j _ hj => ?_⟩
  have : j = 0 ∨ j = 1 ∨ j = 2 ∨ j = 3 := by omega
  rcases this with rfl | rfl | rfl | rfl <;> rfl
theorem trod_looks (h : ∃ y, DataW.trod enc Tryd.prog w base spare held fuel 26 cs = some y) : ∃ (ra : Option Addr) (l : List Look) (rc : Nat), cs = [.slice ra l.length rc] ∧ l.length ≤ rc ∧ rc ≤ maxLen ∧ ElemsR w ra l.length 3 (lookCell l) := by
  obtain ⟨ra, l, rc, h1, h2, h3, h4⟩ := row_of (k := 3) Cut.noLook lookC (by omega) (fun _ => rfl) Tryd.underlying26 cells_look (fun _ _ h => by obtain ⟨d, a, b, h⟩ := trod_look h; exact ⟨⟨d, (a, b)⟩, h⟩) h
  refine ⟨ra, l, rc, h1, h2, h3, elems_to h4 fun i j _ hj => ?_⟩
  have : j = 0 ∨ j = 1 ∨ j = 2 := by omega
  rcases this with rfl | rfl | rfl <;> rfl

theorem cells_cut : Tryd.prog.cellsOf 28 = 8 := by kernel_rfl
theorem cells_rain : Tryd.prog.cellsOf 24 = 1 := by kernel_rfl
theorem cells_boats : Tryd.prog.cellsOf 25 = 1 := by kernel_rfl
theorem cells_looks : Tryd.prog.cellsOf 26 = 1 := by kernel_rfl
theorem trod_cut (h : ∃ y, DataW.trod enc Tryd.prog w base spare held fuel 28 cs = some y) : ∃ (c : CutD) (ra ba la : Option Addr) (rc bc lc : Nat), cs = cutCells c ra ba la rc bc lc ∧ (c.rain.length ≤ rc ∧ c.boats.length ≤ bc ∧ c.looks.length ≤ lc) ∧
    ElemsR w ra c.rain.length 2 (spanCell c.rain) ∧ ElemsR w ba c.boats.length 4 (boatCell c.boats) ∧ ElemsR w la c.looks.length 3 (lookCell c.looks) := by
  obtain ⟨y, h⟩ := h
  obtain ⟨xs, n, rfl, _, hl, hx, hf⟩ := DataW.trod_struct Tryd.underlying28 h
  rw [cells_cut] at hl
  have hx : xs.length = 6 := hx
  obtain ⟨c0, c1, c2, c3, c4, c5, c6, c7, rfl⟩ := list8 hl
  clear hl
  obtain ⟨d1, d2, hd⟩ := trod_span ⟨_, (hf 0 _ rfl).trans (List.getElem?_eq_getElem (by omega))⟩
  obtain ⟨e1, e2, he⟩ := trod_span ⟨_, (hf 1 _ rfl).trans (List.getElem?_eq_getElem (by omega))⟩
  obtain ⟨ra, rain, rc, hr, kr, _, hra⟩ := trod_rain ⟨_, (hf 2 _ rfl).trans (List.getElem?_eq_getElem (by omega))⟩
  obtain ⟨m, hm, _⟩ := trod_i ⟨_, (hf 3 _ rfl).trans (List.getElem?_eq_getElem (by omega))⟩
  obtain ⟨ba, boats, bc, hb, kb, _, hba⟩ := trod_boats ⟨_, (hf 4 _ rfl).trans (List.getElem?_eq_getElem (by omega))⟩
  obtain ⟨la, looks, lc, hlk, kl, _, hla⟩ := trod_looks ⟨_, (hf 5 _ rfl).trans (List.getElem?_eq_getElem (by omega))⟩
  simp [cells_int, cells_span, cells_rain, cells_boats, cells_looks] at hd he hr hm hb hlk
  exact ⟨⟨(d1, d2), (e1, e2), rain, m, boats, looks⟩, ra, ba, la, rc, bc, lc, by rw [hd.1, hd.2, he.1, he.2, hr, hm, hb, hlk]; rfl, ⟨kr, kb, kl⟩, hra, hba, hla⟩
end
end Go.Proofs.YtlkhjnpflohfeaaDoor

/- The laid variable. -/
namespace Go.Proofs.YtlkhjnpflohfeaaDoor
open Go Go.Proofs Go.RowKit Go.ChangeShapes Go.WideShapes Go.Deep
theorem dry_named : Tryd.prog.globalNamed "bogworks/cut.dry" = some 0 := by kernel_rfl
theorem dry_type : (Tryd.prog.globals[0]?).map (·.type) = some 83 := by kernel_rfl
theorem cells_water : Tryd.prog.cellsOf 83 = 2 := by kernel_rfl
#check @Tryd.underlying83
theorem dry_of_laid {W : World} (h : laidMet Tryd.prog [("bogworks/cut.dry", Rows.laid_bogworks_cut_dry)] W) : Dry W := by
  obtain ⟨ps, ⟨g, t, cs, fuel, p, q, e1, e2, e3, e4, _, _⟩, _, _⟩ := h
  obtain rfl := Option.some.inj (dry_named.symm.trans e1)
  obtain rfl := Option.some.inj (dry_type.symm.trans e2)
  obtain ⟨xs, n, rfl, hx, hl, hxs, hf⟩ := DataW.trod_struct Tryd.underlying83 e4
  rw [cells_water] at hl
  have hxs : xs.length = 1 := hxs
  obtain ⟨c0, c1, hcs⟩ := list2 hl
  have h0 := (hf 0 _ rfl).trans (List.getElem?_eq_getElem (by omega))
  obtain ⟨ys, m, rfl, hy, _, hys, hg⟩ := DataW.trod_struct Tryd.underlying23 h0
  have hys : ys.length = 2 := hys
  have i0 := (hg 0 _ rfl).trans (List.getElem?_eq_getElem (by omega))
  have i1 := (hg 1 _ rfl).trans (List.getElem?_eq_getElem (by omega))
  obtain ⟨a, ha, hya, _⟩ := DataW.trod_int Tryd.underlying3 i0
  obtain ⟨b, hb, hyb, _⟩ := DataW.trod_int Tryd.underlying3 i1
  rw [hcs] at ha hb
  simp [cells_int, cells_span] at ha hb
  have hd : Rows.laid_bogworks_cut_dry (H := Unit) = .agg [.agg [.lit (.int .i64 a), .lit (.int .i64 b)]] := by
    have h1 := congrArg Prod.fst hx
    have h2 := congrArg Prod.fst hy
    simp only at h1 h2
    rw [h1]
    obtain ⟨y0, rfl⟩ : ∃ y0, xs = [y0] := by
      match xs, hxs with | [y0], _ => exact ⟨y0, rfl⟩
    obtain ⟨z0, z1, rfl⟩ : ∃ z0 z1, ys = [z0, z1] := by
      match ys, hys with | [z0, z1], _ => exact ⟨z0, z1, rfl⟩
    simp at h2 hya hyb ⊢
    rw [h2, hya, hyb]
  unfold Rows.laid_bogworks_cut_dry at hd
  simp at hd
  obtain ⟨rfl, rfl⟩ := hd
  have g0 := World.var?_cell dry_named e3 0
  have g1 := World.var?_cell dry_named e3 1
  rw [← Array.getElem?_toList, hcs] at g0 g1
  simp at g0 g1
  rw [ha] at g0
  rw [hb] at g1
  exact ⟨block_lt g0, g0, g1⟩
end Go.Proofs.YtlkhjnpflohfeaaDoor

/- What the rows of the laws have in common. -/
namespace Go.Proofs.YtlkhjnpflohfeaaDoor
open Go Go.Proofs Go.ChangeShapes Go.WideShapes Go.RowKit Go.Deep
theorem own' : ownKnob Tryd.prog.godebug = none := by kernel_rfl
theorem laidOut' : laidOutB Tryd.prog = true := by kernel_rfl
noncomputable def laidWorld (os : Os) : World :=
  { World.holding Tryd.prog os ⟨#[], #[], []⟩ with heap := (World.holding Tryd.prog os ⟨#[], #[], []⟩).heap.modify 0 fun
      | .cells _ t frozen => .cells #[.int .i64 1048576, .int .i64 (-1048576)] t frozen
      | o => o }
theorem laid_met (os : Os) (args : Array Value) : laidMetH Tryd.prog [("bogworks/cut.dry", Rows.laid_bogworks_cut_dry)] ((laidWorld os).forCall (fun _ _ => 0) ⟨#[], args, []⟩).memory :=
  laidMetH_of_parts (laidMet_of_run' 8 (by kernel_rfl) (by kernel_rfl)) (by kernel_rfl)
def noCut : Value := .agg #[.int .i64 0, .int .i64 0, .int .i64 0, .int .i64 0, .slice none 0 0, .int .i64 0, .slice none 0 0, .slice none 0 0]
set_option maxRecDepth 100000 in
theorem open_cut {H : Type} {enc : TypeId × Value → H} {W : World} {v : Value} {d : DataW H} {p : List MemPlace} {base : Nat} (hd : Dry W)
    (hv : Value.okWide Tryd.prog W .any base 28 v) (h : DataW.Trod enc Tryd.prog W 0 (fun _ => true) true 28 v d p) :
    ∃ (c : CutD) (ra ba la : Option Addr) (rc bc lc : Nat), v = cutVal c ra ba la rc bc lc ∧ CutIn W c ra ba la ∧ c.rain.length ≤ rc ∧ c.boats.length ≤ bc ∧ c.looks.length ≤ lc := by
  obtain ⟨cs, rfl, _⟩ := okWide_struct Tryd.underlying28 hv
  obtain ⟨fuel, hf⟩ := h
  obtain ⟨c, ra, ba, la, rc, bc, lc, h1, ⟨k1, k2, k3⟩, h2, h3, h4⟩ := trod_cut ⟨_, hf⟩
  refine ⟨c, ra, ba, la, rc, bc, lc, ?_, ⟨h2, h3, h4, hd⟩, k1, k2, k3⟩
  have h1' : cs.toList = cutCells c ra ba la rc bc lc := h1
  unfold cutVal
  rw [show cs = (cutCells c ra ba la rc bc lc).toArray by rw [← h1']]
  rfl

end Go.Proofs.YtlkhjnpflohfeaaDoor

/- The Go function CutReads returns true, for every argument, in every world in which cut.dry holds what the program's text lays; nothing that was there is turned. -/
namespace Go.Proofs.YtlkhjnpflohfeaaDoor
open Go Go.Proofs Go.ChangeShapes Go.WideShapes Go.RowKit Go.Deep
set_option maxRecDepth 100000 in
theorem cutReads_lifted (os : Os) (started : os.Started) (H : Type) (enc : TypeId × Value → H) :
    ReturnsInHanded {} Tryd.checked os 3 .any (fun w args => (Rows.cutReadsSpec.pre enc Tryd.prog Tryd.f3 [] false w args ∧ laidMetH Tryd.prog [("bogworks/cut.dry", Rows.laid_bogworks_cut_dry)] w) ∧ sizedMet enc Tryd.prog Tryd.f3 (OpenSpec.ofChange Rows.cutReadsSpec) false w args)
      (Rows.cutReadsSpec.post enc Tryd.prog Tryd.f3 false true false false) := by
  refine returnsInHanded_of_change_and (C := Tryd.checked) (X := fun w _ => laidMetH Tryd.prog [("bogworks/cut.dry", Rows.laid_bogworks_cut_dry)] w) (fun _ _ _ hh h => h.of_heap hh) own' started (by kernel_rfl) Tryd.func3
    (ChangeSpec.witness_at (enc := enc) (C := Tryd.checked) (os := os) (X := fun w _ => laidMetH Tryd.prog [("bogworks/cut.dry", Rows.laid_bogworks_cut_dry)] w) false (laidWorld os) #[noCut, .int .i64 0, .int .i64 0, .int .i64 0] 8 rfl (by kernel_rfl) (by kernel_rfl) (by kernel_rfl) (by kernel_rfl) (by kernel_rfl) (laid_met os _)) ?_
  intro W base args ds gs before hval0 hW _ _ hL _
  have hval : ∀ (j : Nat) t v, Tryd.f3.params[j]? = some t → args[j]? = some v → Value.okWide Tryd.prog W .any base t v := hval0
  have hW' := hW
  obtain ⟨p, q, hA0, hV0, rfl, hfz, hnd⟩ := hW
  have hA : DataW.TrodAll enc Tryd.prog W 0 (fun _ => true) true Tryd.f3.params.toList args.toList ds p := hA0
  have hV : DataW.TrodVars enc Tryd.prog W (fun _ => true) [] gs q := hV0
  rw [Tryd.params3] at hA hval
  clear hA0 hval0 hV0
  obtain ⟨v0, vs0, d0, ds0, p0, q0, hargs0, rfl, rfl, h0, hA0⟩ := trodAll_cons hA
  obtain ⟨v1, vs1, d1, ds1, p1, q1, rfl, rfl, rfl, h1, hA1⟩ := trodAll_cons hA0
  obtain ⟨v2, vs2, d2, ds2, p2, q2, rfl, rfl, rfl, h2, hA2⟩ := trodAll_cons hA1
  obtain ⟨v3, vs3, d3, ds3, p3, q3, rfl, rfl, rfl, h3, hA3⟩ := trodAll_cons hA2
  obtain ⟨rfl, rfl, rfl⟩ := trodAll_nil hA3
  obtain rfl : args = #[v0, v1, v2, v3] := Array.ext' hargs0
  have hdry : Dry W := dry_of_laid hL
  obtain ⟨c, ra, ba, la, rc, bc, lc, rfl, hin, hc1, hc2, hc3⟩ := open_cut hdry (hval 0 28 v0 rfl rfl) h0
  obtain ⟨x1, rfl, rfl, rfl, wf1⟩ := open_int Tryd.underlying3 (hval 1 3 v1 rfl rfl) h1
  obtain ⟨x2, rfl, rfl, rfl, wf2⟩ := open_int Tryd.underlying3 (hval 2 3 v2 rfl rfl) h2
  obtain ⟨x3, rfl, rfl, rfl, wf3⟩ := open_int Tryd.underlying3 (hval 3 3 v3 rfl rfl) h3
  obtain ⟨rfl, rfl⟩ : gs = [] ∧ q = [] := by
    cases gs with
    | nil => exact ⟨rfl, hV⟩
    | cons g r => exact absurd hV (by intro h; cases h)
  simp only [List.append_nil] at hW'
  have hlt : ∀ x ∈ (p0 ++ ([] ++ ([] ++ ([] ++ [])))), x.block < W.heap.size := fun x hx => by simpa using hW'.lt x (by simpa using hx)
  refine (lawCutReads c ra ba la rc bc lc hin hc1 hc2 hc3 x1 wf1 x2 wf2 x3 wf3).mono fun e W' ⟨he, bel⟩ => ?_
  subst he
  refine ⟨_, rfl, _, _, _, [], (p0 ++ ([] ++ ([] ++ ([] ++ [])))), [], hW', ?_, ?_, rfl, bel.frame _, fun h => by cases h⟩
  · exact trodAll_mk1 (shut_bool Tryd.underlying4 true)
  · exact trodAll_cons_mk (Below.trod laidOut' (by kernel_rfl) (of_decide_eq_true (by kernel_rfl)) h0 bel (fun x hx => hlt x (by simp [hx]))) (trodAll_cons_mk (shut_int Tryd.underlying3 wf1) (trodAll_cons_mk (shut_int Tryd.underlying3 wf2) (trodAll_cons_mk (shut_int Tryd.underlying3 wf3) (trodAll_mk0))))

theorem cutReads_row : Rows.CutReadsSaid :=
  OpenClaim.holds_of_wide 3 Tryd.f3 rfl rfl rfl rfl rfl rfl rfl ⟨rfl, rfl, rfl, rfl, rfl⟩ rfl rfl rfl rfl rfl (by kernel_rfl) Tryd.func3 (by kernel_rfl)
    (of_decide_eq_true (by kernel_rfl)) (by unfold Func.isWrapper; rw [if_neg (of_decide_eq_false (by kernel_rfl))]; exact ⟨rfl, rfl⟩)
    (fun os started H enc _ => cutReads_lifted os started H enc)

set_option maxRecDepth 100000 in
/-- The statement. -/
theorem cutReads_holds : Rows.CutReadsCardSaid :=
  Claim7.holds_tied_plain_at .later [] [.data] true (true, "9723bbfeb16b6261ef9604731379b2640b68d1d36b45d3ac66265463b7b658c0") true
    cutReads_row (fun _ h => by cases h) (by kernel_rfl) (fun _ h => by cases h) cutReads_row_tie rfl ⟨rfl, rfl⟩ (by kernel_rfl) rfl
    (fun f fn hf hfn => by
      obtain rfl : f = 3 := Option.some.inj ((show Tryd.prog.funcNamed "bogworks/bogworkslaw06.CutReads" = some 3 by kernel_rfl).symm.trans hf) |>.symm
      obtain rfl : fn = Tryd.f3 := (Option.some.inj (Tryd.func3.symm.trans hfn)).symm
      exact ⟨by kernel_rfl, fun j t ht => by
        rw [Tryd.params3] at ht
        have h3 : t = 28 ∨ t = 3 := by
          rcases j with _ | _ | _ | _ | j
          · exact .inl (by simpa using ht.symm)
          · exact .inr (by simpa using ht.symm)
          · exact .inr (by simpa using ht.symm)
          · exact .inr (by simpa using ht.symm)
          · simp at ht
        rcases h3 with rfl | rfl
        · exact (show Tryd.prog.wantsStandIn 28 = false by kernel_rfl)
        · exact (show Tryd.prog.wantsStandIn 3 = false by kernel_rfl)⟩)
    (by kernel_rfl)
#print axioms cutReads_holds
end Go.Proofs.YtlkhjnpflohfeaaDoor
