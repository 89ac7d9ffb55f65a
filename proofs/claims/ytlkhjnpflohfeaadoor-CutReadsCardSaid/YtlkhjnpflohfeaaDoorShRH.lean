/- Cuts with other lists. -/
import Derived.Test.YtlkhjnpflohfeaaDoorShRD
import Derived.Test.YtlkhjnpflohfeaaDoorShRG
import Derived.Test.YtlkhjnpflohfeaaDoorShRF
import Derived.BigQuiet
import Derived.Test.YtlkhjnpflohfeaaDoorShRB
import Derived.Test.YtlkhjnpflohfeaaDoorShRA
import Derived.Test.YtlkhjnpflohfeaaDoorProg
import Derived.KernelRfl
/- Contract of Until. -/
namespace Go.Proofs.YtlkhjnpflohfeaaDoor
open Go Go.Proofs Go.RowKit
namespace Cut
end Cut
set_option maxHeartbeats 2000000 in
set_option maxRecDepth 100000 in
theorem Until_any (x : CutD) (b n d : Int) (ra ba la : Option Addr) (rc bc lc : Nat) (w : World) (hin : CutIn w x ra ba la) :
    Calls Tryd.prog 24 #[cutVal x ra ba la rc bc lc, .int .i64 b, .int .i64 n, .int .i64 d] w fun e w' => e = .returned (.tuple #[.int .i64 (untilR x b n d).1, .int .i64 (untilR x b n d).2]) ∧ Below w.heap.size w w' := by
  have HIN := hide hin
  clear hin
  unfold cutVal
  go_enter_defers Tryd.func24, Tryd.ntmps24
  go_wp2_with fail
  obtain ⟨w4, hw4⟩ : ∃ w4, (((((w.alloc (Obj.cells (cutCells x ra ba la rc bc lc).toArray 28)).alloc (Obj.cells #[Value.int IntKind.i64 b] 3)).alloc (Obj.cells #[Value.int IntKind.i64 n] 3)).alloc (Obj.cells #[Value.int IntKind.i64 d] 3)).alloc (Obj.cells #[Value.int IntKind.i64 0] 31)) = w4 := ⟨_, rfl⟩
  simp only [cutCells] at hw4
  rw [hw4]
  have hz4 : w4.heap.size = w.heap.size + 1 + 1 + 1 + 1 + 1 := by rw [← hw4]; simp
  have hb4 : Below w.heap.size w w4 := by rw [← hw4]; (repeat' first | (with_reducible assumption) | (with_reducible exact Below.refl _ _) | (with_reducible refine Below.drew ?_) | (with_reducible refine Below.setCell ?_ ?_ _) | (with_reducible refine Below.alloc ?_ ?_ _) | (refine Below.trans ?_ (Below.mono (by assumption) ?_)) | omega | (simp only [World.size_alloc] at *; omega))
  have b0 : Blk w4 w.heap.size 28 (cutCells x ra ba la rc bc lc) := by rw [← hw4]; exact (((((Blk.new' _ (cutCells x ra ba la rc bc lc) _ rfl).alloc _).alloc _).alloc _).alloc _)
  have b1 : Blk w4 (w.heap.size + 1) 3 [.int .i64 b] := by rw [← hw4]; exact ((((Blk.new' _ [_] _ (by simp)).alloc _).alloc _).alloc _)
  have b2 : Blk w4 (w.heap.size + 1 + 1) 3 [.int .i64 n] := by rw [← hw4]; exact (((Blk.new' _ [_] _ (by simp)).alloc _).alloc _)
  have b5 : Blk w4 (w.heap.size + 1 + 1 + 1) 3 [.int .i64 d] := by rw [← hw4]; exact (Blk.new' _ [_] _ (by simp)).alloc _
  have b3 : Blk w4 (w.heap.size + 1 + 1 + 1 + 1) 31 [.int .i64 0] := by rw [← hw4]; exact Blk.new' _ [_] _ (by simp)
  have HIN4 := hide (HIN.out.below hb4)
  clear hw4
  refine (open_any _ x ra ba la rc bc lc (isB x b n d) _ HIN4.out ?_).mono ?_
  · exact ⟨_, _, rfl, enters_of Tryd.func69 (by kernel_rfl) rfl, fun B M la lc w' hv hb _ _ hc => until1_any b n d (w.heap.size + 1) (w.heap.size + 1 + 1) (w.heap.size + 1 + 1 + 1) w' hc (Cut.valid_of hv).b4 (b1.below hb (by omega)) (b2.below hb (by omega)) (b5.below hb (by omega))⟩
  rintro e w5 ⟨hb5, h⟩
  have c0 := b0.below hb5 (by omega)
  have c1 := b1.below hb5 (by omega)
  have c2 := b2.below hb5 (by omega)
  have c3 := b3.below hb5 (by omega)
  have c5 := b5.below hb5 (by omega)
  have hb5' := hb4.trans (hb5.mono (show w.heap.size ≤ w4.heap.size by omega))
  rcases h with ⟨hv, rfl⟩ | ⟨hv, hbf, rfl⟩ | ⟨hv, hbt, B, M, la', lc', hB, hM, rfl, hcut⟩
  · refine leaves_refused (c3.cell 0 rfl) (c3.free 0) rfl (results2 rfl (read_tmp rfl) (read_cell1 (w.heap.size + 1 + 1 + 1 + 1) _ rfl ((c3.set 0 _).cell 0 rfl) (by kernel_rfl))) ⟨?_, hb5'.setCell (p := ⟨w.heap.size + 1 + 1 + 1 + 1, 0, none⟩) (show w.heap.size ≤ w.heap.size + 1 + 1 + 1 + 1 by omega) _⟩
    unfold untilR
    rw [toldErr_bad hv]; rfl
  · refine leaves_refused (c3.cell 0 rfl) (c3.free 0) rfl (results2 rfl (read_tmp rfl) (read_cell1 (w.heap.size + 1 + 1 + 1 + 1) _ rfl ((c3.set 0 _).cell 0 rfl) (by kernel_rfl))) ⟨?_, hb5'.setCell (p := ⟨w.heap.size + 1 + 1 + 1 + 1, 0, none⟩) (show w.heap.size ≤ w.heap.size + 1 + 1 + 1 + 1 by omega) _⟩
    unfold untilR
    rw [hbf, toldErr_range hv]; rfl
  · have HCut := hide hcut
    clear hcut
    go_wp2_with fail
    cases hcan : Cut.can x (Cut.every x) with
    | false =>
      refine (told_no w5 HCut.out hv hcan).mono ?_
      rintro e w6 ⟨rfl, hb6, hk6⟩
      have hb6' := hb6.below_lt (N' := w4.heap.size) hM hb5.size
      have d3 := c3.below hb6' (by omega)
      refine leaves_refused (d3.cell 0 rfl) (d3.free 0) rfl (results2 rfl (read_tmp rfl) (read_cell1 (w.heap.size + 1 + 1 + 1 + 1) _ rfl ((d3.set 0 _).cell 0 rfl) (by kernel_rfl))) ⟨?_, (hb5'.trans (hb6'.mono (by omega))).setCell (p := ⟨w.heap.size + 1 + 1 + 1 + 1, 0, none⟩) (show w.heap.size ≤ w.heap.size + 1 + 1 + 1 + 1 by omega) _⟩
      unfold untilR
      rw [hbt, toldErr_clash hv hcan]; rfl
    | true =>
      refine (told_yes w5 HCut.out hv hcan).mono ?_
      rintro e w6 ⟨rfl, hb6, hk6⟩
      have hb6' := hb6.below_lt (N' := w4.heap.size) hM hb5.size
      have HC6 := hide (HCut.out.bel hb6 hk6)
      have d0 := c0.below hb6' (by omega)
      have d1 := c1.below hb6' (by omega)
      have d2 := c2.below hb6' (by omega)
      have d3 := c3.below hb6' (by omega)
      have d5 := c5.below hb6' (by omega)
      have hbb : Cut.isLoads x b n = true ∧ Cut.isDay x d = true := by simpa [isB] using hbt
      obtain ⟨k, m, rfl, hk, rfl, hm, hm10⟩ := loads_of hv hbb.1
      obtain ⟨t, rfl, ht⟩ := day_of hbb.2
      have hz6 := hb6'.size
      have hM6 := HC6.out.kept.lt
      have hn8 := (Cut.valid_of hv).n8
      have hfin : Hid (untilR x k m t = untilV (Cut.untilOn x k m t)) := by
        unfold untilR
        rw [hbt, toldErr_ok hv hcan, if_pos rfl]; rfl
      have hbw6 : Hid (Below w.heap.size w w6) := hb5'.trans (hb6'.mono (by omega))
      have d04 := d0.cell 4 rfl
      have d50 := d5.cell 0 rfl
      clear hbb hbt b0 b1 b2 b3 b5 c0 c1 c2 c3 c5 hk6
      go_wp2_with fail
      go_loopw [8, 11, 17, 18, 19, 20, 21, 22, 23, 24, 25, 26, 27, 28, 29, 30] (fun v8 v11 _ _ _ _ _ _ _ _ _ _ _ _ _ _ wr => ∃ j : Nat, j ≤ x.rain.length + 1 ∧ v11 = .int .i64 j ∧ v8 = .int .i64 0 ∧ Hid (Cut.untilOn x k m t = Cut.findFrom (fun i => Cut.floatsOn x k m i == 2) j (x.rain.length + 1 - j)) ∧ Bel M w6.heap.size w6 wr ∧ Hid (Kept wr M x)) (fun _ v11 _ _ _ _ _ _ _ _ _ _ _ _ _ _ _ => x.rain.length + 1 - (intOf v11).toNat)
      case atStart => exact ⟨t, by omega, rfl, rfl, rfl, Bel.refl _ _ _, HC6.out.kept⟩
      case round =>
        obtain ⟨j, hj, rfl, rfl, hfind, hB', hkr⟩ := hrel
        have e3 := d3.bel hB' (by omega) (by omega)
        have c4 := (d0.bel hB' (by omega) (by omega)).cell 4 rfl
        have hlt3 := e3.lt
        by_cases hlt : j < x.rain.length + 1
        · have e1 := (d1.bel hB' (by omega) (by omega)).cell 0 rfl
          have e2 := (d2.bel hB' (by omega) (by omega)).cell 0 rfl
          have HCr := hide (HC6.out.bel hB' hkr.out)
          have hlt' : (j : Int) ≤ (x.rain.length : Int) := by omega
          obtain ⟨q, hq⟩ : ∃ q, x.rain.length + 1 - j = q + 1 := ⟨x.rain.length - j, by omega⟩
          have hq' : q = x.rain.length + 1 - (j + 1) := by omega
          have hf := hfind.out
          rw [hq] at hf
          unfold Cut.findFrom at hf
          cases h2 : (Cut.floatsOn x k m j == 2) with
          | true =>
            have hfl : Cut.floats (Cut.boatAt x.boats k) m (Cut.water x j) = 2 := by simpa [Cut.floatsOn] using h2
            rw [h2, if_pos rfl] at hf
            have HF := hide hf
            have HFL := hide hfl
            clear hf hfl h2 hq hq'
            go_wp2_with (go_at_call 59; refine (floats_any k m j _ HCr.out hv hcan (by omega) hk ⟨by omega, by omega⟩).mono ?_; rintro e w' ⟨rfl, hb, hk'⟩; rw [HFL.out]; have f3 := e3.bel hb hlt3 (by omega); have r3 := f3.cell 0 rfl; have r4 := f3.free 0)
            refine leaves_idle rfl (results2 rfl (read_tmp rfl) (read_cell1 (w.heap.size + 1 + 1 + 1 + 1) (.int .i64 0) rfl ((f3.set 0 _).cell 0 rfl) (by kernel_rfl))) ⟨?_, (hbw6.out.trans ((hB'.trans (hb.mono hB'.size)).below_lt (by omega) (by omega))).setCell (p := ⟨w.heap.size + 1 + 1 + 1 + 1, 0, none⟩) (show w.heap.size ≤ w.heap.size + 1 + 1 + 1 + 1 by omega) _⟩
            rw [hfin.out, HF.out]; rfl
          | false =>
            have hfl : ¬ Cut.floats (Cut.boatAt x.boats k) m (Cut.water x j) = 2 := by simpa [Cut.floatsOn] using h2
            rw [h2, if_neg (by simp), hq'] at hf
            have HF := hide hf
            have hfb : (Cut.floats (Cut.boatAt x.boats k) m (Cut.water x j) == 2) = false := by simpa using hfl
            clear hf hfl h2 hq hq'
            go_wp2_with (go_at_call 59; refine (floats_any k m j _ HCr.out hv hcan (by omega) hk ⟨by omega, by omega⟩).mono ?_; rintro e w' ⟨rfl, hb, hk'⟩)
            refine ⟨⟨j + 1, by omega, by go_num, rfl, HF.out, hB'.trans (hb.mono hB'.size), hk'⟩, by simp [intOf]; omega⟩
        · obtain rfl : j = x.rain.length + 1 := by omega
          have r3 := e3.cell 0 rfl
          have r4 := e3.free 0
          have hgt : ¬ ((x.rain.length + 1 : Nat) : Int) ≤ (x.rain.length : Int) := by omega
          have hf := hfind.out
          rw [Nat.sub_self] at hf
          have HF := hide hf
          clear hf
          go_wp2
          refine leaves_idle rfl (results2 rfl (read_tmp rfl) (read_cell1 (w.heap.size + 1 + 1 + 1 + 1) (.int .i64 4) rfl ((e3.set 0 _).cell 0 rfl) (by kernel_rfl))) ⟨?_, (hbw6.out.trans (hB'.below_lt (by omega) (by omega))).setCell (p := ⟨w.heap.size + 1 + 1 + 1 + 1, 0, none⟩) (show w.heap.size ≤ w.heap.size + 1 + 1 + 1 + 1 by omega) _⟩
          rw [hfin.out, HF.out]; rfl
end Go.Proofs.YtlkhjnpflohfeaaDoor

/- Contract of Together. -/
namespace Go.Proofs.YtlkhjnpflohfeaaDoor
open Go Go.Proofs Go.RowKit
attribute [local go_sem ↓] run_max_i64 run_min_i64
namespace Cut
end Cut
set_option maxHeartbeats 2000000 in
set_option maxRecDepth 100000 in
theorem Together_any (x : CutD) (d : Int) (ra ba la : Option Addr) (rc bc lc : Nat) (w : World) (hin : CutIn w x ra ba la) :
    Calls Tryd.prog 26 #[cutVal x ra ba la rc bc lc, .int .i64 d] w fun e w' => e = .returned (.tuple #[.int .i64 (togetherR x d).1, .int .i64 (togetherR x d).2]) ∧ Below w.heap.size w w' := by
  have HIN := hide hin
  clear hin
  unfold cutVal
  go_enter_defers Tryd.func26, Tryd.ntmps26
  go_wp2_with fail
  obtain ⟨w4, hw4⟩ : ∃ w4, (((w.alloc (Obj.cells (cutCells x ra ba la rc bc lc).toArray 28)).alloc (Obj.cells #[Value.int IntKind.i64 d] 3)).alloc (Obj.cells #[Value.int IntKind.i64 0] 31)) = w4 := ⟨_, rfl⟩
  simp only [cutCells] at hw4
  rw [hw4]
  have hz4 : w4.heap.size = w.heap.size + 1 + 1 + 1 := by rw [← hw4]; simp
  have hb4 : Below w.heap.size w w4 := by rw [← hw4]; (repeat' first | (with_reducible assumption) | (with_reducible exact Below.refl _ _) | (with_reducible refine Below.drew ?_) | (with_reducible refine Below.setCell ?_ ?_ _) | (with_reducible refine Below.alloc ?_ ?_ _) | (refine Below.trans ?_ (Below.mono (by assumption) ?_)) | omega | (simp only [World.size_alloc] at *; omega))
  have b0 : Blk w4 w.heap.size 28 (cutCells x ra ba la rc bc lc) := by rw [← hw4]; exact (((Blk.new' _ (cutCells x ra ba la rc bc lc) _ rfl).alloc _).alloc _)
  have b2 : Blk w4 (w.heap.size + 1) 3 [.int .i64 d] := by rw [← hw4]; exact (Blk.new' _ [_] _ (by simp)).alloc _
  have b3 : Blk w4 (w.heap.size + 1 + 1) 31 [.int .i64 0] := by rw [← hw4]; exact Blk.new' _ [_] _ (by simp)
  have HIN4 := hide (HIN.out.below hb4)
  clear hw4
  refine (open_any _ x ra ba la rc bc lc (Cut.isDay x d) _ HIN4.out ?_).mono ?_
  · exact ⟨_, _, rfl, enters_of Tryd.func70 (by kernel_rfl) rfl, fun B M la lc w' hv hb _ _ hc => together1_any d (w.heap.size + 1) w' hc (b2.below hb (by omega))⟩
  rintro e w5 ⟨hb5, h⟩
  have c0 := b0.below hb5 (by omega)
  have c2 := b2.below hb5 (by omega)
  have c3 := b3.below hb5 (by omega)
  have hb5' := hb4.trans (hb5.mono (show w.heap.size ≤ w4.heap.size by omega))
  rcases h with ⟨hv, rfl⟩ | ⟨hv, hbf, rfl⟩ | ⟨hv, hbt, B, M, la', lc', hB, hM, rfl, hcut⟩
  · refine leaves_refused (c3.cell 0 rfl) (c3.free 0) rfl (results2 rfl (read_tmp rfl) (read_cell1 (w.heap.size + 1 + 1) _ rfl ((c3.set 0 _).cell 0 rfl) (by kernel_rfl))) ⟨?_, hb5'.setCell (p := ⟨w.heap.size + 1 + 1, 0, none⟩) (show w.heap.size ≤ w.heap.size + 1 + 1 by omega) _⟩
    unfold togetherR
    rw [toldErr_bad hv]; rfl
  · refine leaves_refused (c3.cell 0 rfl) (c3.free 0) rfl (results2 rfl (read_tmp rfl) (read_cell1 (w.heap.size + 1 + 1) _ rfl ((c3.set 0 _).cell 0 rfl) (by kernel_rfl))) ⟨?_, hb5'.setCell (p := ⟨w.heap.size + 1 + 1, 0, none⟩) (show w.heap.size ≤ w.heap.size + 1 + 1 by omega) _⟩
    unfold togetherR
    rw [hbf, toldErr_range hv]; rfl
  · have HCut := hide hcut
    clear hcut
    go_wp2_with fail
    cases hcan : Cut.can x (Cut.every x) with
    | false =>
      refine (told_no w5 HCut.out hv hcan).mono ?_
      rintro e w6 ⟨rfl, hb6, hk6⟩
      have hb6' := hb6.below_lt (N' := w4.heap.size) hM hb5.size
      have d3 := c3.below hb6' (by omega)
      refine leaves_refused (d3.cell 0 rfl) (d3.free 0) rfl (results2 rfl (read_tmp rfl) (read_cell1 (w.heap.size + 1 + 1) _ rfl ((d3.set 0 _).cell 0 rfl) (by kernel_rfl))) ⟨?_, (hb5'.trans (hb6'.mono (by omega))).setCell (p := ⟨w.heap.size + 1 + 1, 0, none⟩) (show w.heap.size ≤ w.heap.size + 1 + 1 by omega) _⟩
      unfold togetherR
      rw [hbt, toldErr_clash hv hcan]; rfl
    | true =>
      refine (told_yes w5 HCut.out hv hcan).mono ?_
      rintro e w6 ⟨rfl, hb6, hk6⟩
      have hb6' := hb6.below_lt (N' := w4.heap.size) hM hb5.size
      have HC6 := hide (HCut.out.bel hb6 hk6)
      have d0 := c0.below hb6' (by omega)
      have d2 := c2.below hb6' (by omega)
      have d3 := c3.below hb6' (by omega)
      obtain ⟨t, rfl, ht⟩ := day_of hbt
      have hz6 := hb6'.size
      have hM6 := HC6.out.kept.lt
      have hn8 := (Cut.valid_of hv).n8
      have hfin : Hid (togetherR x t = (Cut.togetherOn x t, 0)) := by
        unfold togetherR
        rw [hbt, toldErr_ok hv hcan, if_pos rfl]; rfl
      have hbw6 : Hid (Below w.heap.size w w6) := hb5'.trans (hb6'.mono (by omega))
      have d06 := d0.cell 6 rfl
      have hb4x := (Cut.valid_of hv).b4
      clear hbt b0 b2 b3 c0 c2 c3 hk6
      go_wp2_with fail
      go_loopw [7, 8, 16, 17, 18, 19, 20, 21, 22, 23, 24, 25, 26] (fun v7 _ v16 _ _ _ _ _ _ _ _ _ _ wr => ∃ j : Nat, j ≤ x.boats.length ∧ v16 = .int .i64 j ∧ v7 = .int .i64 (Cut.sumTo x t j) ∧ Bel M w6.heap.size w6 wr ∧ Hid (Kept wr M x)) (fun _ _ v16 _ _ _ _ _ _ _ _ _ _ _ => x.boats.length - (intOf v16).toNat)
      case atStart => exact ⟨0, by omega, rfl, rfl, Bel.refl _ _ _, HC6.out.kept⟩
      case round =>
        obtain ⟨j, hj, rfl, rfl, hB', hkr⟩ := hrel
        by_cases hlt : j < x.boats.length
        · have e2 := (d2.bel hB' (by omega) (by omega)).cell 0 rfl
          have HCr := hide (HC6.out.bel hB' hkr.out)
          have hs := Cut.sumTo_le hv t j (by omega)
          have hl := Cut.loads_le hv j t hlt 2
          have HU : Hid (Cut.sumTo x t (j + 1) = Cut.sumTo x t j + max 0 (Cut.loads x j t 2)) := rfl
          go_wp2_with (go_at_call 64; refine (loads_any j t 2 _ HCr.out hv hcan ht hlt).mono ?_; rintro e w' ⟨rfl, hb, hk'⟩)
          refine ⟨⟨j + 1, by omega, by go_num, by rw [HU.out], hB'.trans (hb.mono hB'.size), hk'⟩, by simp [intOf]; omega⟩
        · obtain rfl : j = x.boats.length := by omega
          have e3 := d3.bel hB' (by omega) (by omega)
          have r3 := e3.cell 0 rfl
          have r4 := e3.free 0
          have hlt3 := e3.lt
          go_wp2
          refine leaves_idle rfl (results2 rfl (read_tmp rfl) (read_cell1 (w.heap.size + 1 + 1) (.int .i64 0) rfl ((e3.set 0 _).cell 0 rfl) (by kernel_rfl))) ⟨?_, (hbw6.out.trans (hB'.below_lt (by omega) (by omega))).setCell (p := ⟨w.heap.size + 1 + 1, 0, none⟩) (show w.heap.size ≤ w.heap.size + 1 + 1 by omega) _⟩
          rw [hfin.out]; rfl
end Go.Proofs.YtlkhjnpflohfeaaDoor

/- What the examples of the document are, by the contracts' functions. -/
namespace Go.Proofs.YtlkhjnpflohfeaaDoor
open Go Go.Proofs
def look1 : Look := ⟨2, (14, 20)⟩
def look2 : Look := ⟨3, (5, 9)⟩
theorem ex_depth : depthR (sampleD []) 3 = ((7, 18), 0) := by decide +kernel
theorem ex_leak : leakR (sampleD [look1]) = ((1, 1), 0) := by decide +kernel
theorem ex_floats : floatsR (sampleD []) 0 2 0 = (1, 0) := by decide +kernel
theorem ex_loads : loadsR (sampleD []) 0 2 = ((0, 3), 0) := by decide +kernel
theorem ex_days : daysR (sampleD []) 0 1 = ((19, 31), 0) := by decide +kernel
theorem ex_until : untilR (sampleD []) 0 1 2 = (4, 0) := by decide +kernel
theorem ex_together : togetherR (sampleD []) 4 = (2, 0) := by decide +kernel
theorem ex_clash : clashR (sampleD [look1, look2]) = (3, 0) := by decide +kernel
theorem ex_depth0 : depthR (sampleD [look1]) 0 = ((11, 12), 0) := by decide +kernel
end Go.Proofs.YtlkhjnpflohfeaaDoor

/- The contract of awake: the examples of the document hold. -/
namespace Go.Proofs.YtlkhjnpflohfeaaDoor
open Go Go.Proofs Go.RowKit

/-- What awake has laid: the two cuts of the examples. -/
structure Aw (w W : World) (b1 b2 : Nat) (r1 a1 r2 a2 l2 : Option Addr) : Prop where
  bel : Below w.heap.size w W
  x1 : Blk W b1 28 (cutCells (sampleD []) r1 a1 none 4 2 0)
  x2 : Blk W b2 28 (cutCells (sampleD [look1]) r2 a2 l2 4 2 1)
  i1 : CutIn W (sampleD []) r1 a1 none
  i2 : CutIn W (sampleD [look1]) r2 a2 l2
theorem Aw.below {w W W' : World} {b1 b2 : Nat} {r1 a1 r2 a2 l2 : Option Addr} (h : Aw w W b1 b2 r1 a1 r2 a2 l2) (hb : Below W.heap.size W W') : Aw w W' b1 b2 r1 a1 r2 a2 l2 :=
  ⟨h.bel.trans (hb.mono h.bel.size), h.x1.below hb h.x1.lt, h.x2.below hb h.x2.lt, h.i1.below hb, h.i2.below hb⟩

theorem wpList_store_row2 {P : Program} {ops : Array Oper} {rest : List Oper} {o : Oper} {a : Act} {w : World} {Q : Exit → Act → World → Prop} (hgd : o.guard = none) (ty : TypeId) (x y : Operand) (ho : o.op = .store ty x y)
    (g : Nat) (cells : Array Value) (hx : a.eval x = .pointer (some ⟨g, 0, none⟩)) (hy : a.eval y = .agg cells)
    (t : TypeId) (old : Array Value) (hg : w.heap[g]? = some (.cells old t (0, 0))) (hi : (P.info? ty).map (·.size) = some cells.size)
    (hold : old.size = cells.size) (h1 : cells.all (·.oneCell') = true)
    (h : ∀ W', w.setRow g cells = W' → wpList P ops Q rest (a.put o.dst undef) W') : wpList P ops Q (o :: rest) a w :=
  wpList_store_row hgd ty x y ho g cells hx hy t old hg hi hold h1 (h _ rfl)

abbrev zcut : List Value := [.int .i64 0, .int .i64 0, .int .i64 0, .int .i64 0, .slice none 0 0, .int .i64 0, .slice none 0 0, .slice none 0 0]
theorem aw_start {w w3 : World} {r1 a1 r2 a2 l2 : Option Addr} (hbw : Below w.heap.size w w3) (hi1 : CutIn w3 (sampleD []) r1 a1 none) (hi2 : CutIn w3 (sampleD [look1]) r2 a2 l2) :
    Aw w ((((w3.alloc (Obj.cells zcut.toArray 28)).alloc (Obj.cells zcut.toArray 28)).setRow w3.heap.size (cutCells (sampleD []) r1 a1 none 4 2 0).toArray).setRow (w3.heap.size + 1) (cutCells (sampleD [look1]) r2 a2 l2 4 2 1).toArray) w3.heap.size (w3.heap.size + 1) r1 a1 r2 a2 l2 := by
  have hbb : Below w3.heap.size w3 ((((w3.alloc (Obj.cells zcut.toArray 28)).alloc (Obj.cells zcut.toArray 28)).setRow w3.heap.size (cutCells (sampleD []) r1 a1 none 4 2 0).toArray).setRow (w3.heap.size + 1) (cutCells (sampleD [look1]) r2 a2 l2 4 2 1).toArray) := below_setRow (below_setRow (((Below.refl _ _).alloc (Nat.le_refl _) _).alloc (by simp) _) _ (Nat.le_refl _) _) _ (by omega) _
  refine ⟨hbw.trans (hbb.mono hbw.size), ?_, ?_, hi1.below hbb, hi2.below hbb⟩
  · exact blk_setRow_other (blk_setRow ((Blk.new w3 zcut 28).alloc _) (cutCells (sampleD []) r1 a1 none 4 2 0)) (by omega) _
  · exact blk_setRow (blk_setRow_other (Blk.new' _ zcut 28 (by simp)) (by omega) _) (cutCells (sampleD [look1]) r2 a2 l2 4 2 1)

theorem sample_cells {W : World} {b : Nat} {r a l : Option Addr} {ls : List Look} {lc : Nat} (h : Blk W b 28 (cutCells (sampleD ls) r a l 4 2 lc)) :
    W.cell? ⟨b, 0, none⟩ = some (.int .i64 10) ∧ W.cell? ⟨b, 1, none⟩ = some (.int .i64 12) ∧ W.cell? ⟨b, 2, none⟩ = some (.int .i64 1) ∧ W.cell? ⟨b, 3, none⟩ = some (.int .i64 2) ∧
    W.cell? ⟨b, 4, none⟩ = some (.slice r 4 4) ∧ W.cell? ⟨b, 5, none⟩ = some (.int .i64 20) ∧ W.cell? ⟨b, 6, none⟩ = some (.slice a 2 2) ∧ W.cell? ⟨b, 7, none⟩ = some (.slice l ls.length lc) :=
  ⟨h.cell 0 rfl, h.cell 1 rfl, h.cell 2 rfl, h.cell 3 rfl, h.cell 4 rfl, h.cell 5 rfl, h.cell 6 rfl, h.cell 7 rfl⟩

set_option maxHeartbeats 2000000 in
set_option maxRecDepth 100000 in
theorem awake_any (w : World) (hd : Dry w) : Calls Tryd.prog 13 #[] w fun e w' => e = .returned (.bool true) ∧ Below w.heap.size w w' := by
  have HD := hide hd
  clear hd
  go_enter Tryd.func13, Tryd.ntmps13
  go_wp2_with fail
  refine (sample_any [] none 0 _ (.inl rfl) HD.out).mono ?_
  rintro e w1 ⟨r1, a1, rfl, hb1, hi1⟩
  have HB1 := hide hb1
  have HI1 := hide hi1
  have hd1 := hide hi1.dry
  clear hb1 hi1
  go_wp2_with fail
  refine (lawLook_any _ _ _ _).mono ?_
  rintro e w2 ⟨rfl, hb2⟩
  have HB2 := hide hb2
  clear hb2
  go_wp2_with fail
  have hbs : Below w2.heap.size w2 (w2.alloc (Obj.cells #[.int .i64 2, .int .i64 14, .int .i64 20] 55)) := (Below.refl _ _).alloc (Nat.le_refl _) _
  have hkl : Blk (w2.alloc (Obj.cells #[.int .i64 2, .int .i64 14, .int .i64 20] 55)) w2.heap.size 55 [.int .i64 2, .int .i64 14, .int .i64 20] := Blk.new w2 _ _
  refine (sample_any [look1] (some ⟨w2.heap.size, 0, none⟩) 1 _ (.inr ⟨_, 0, rfl, by simp, fun i j hi hj => ?_⟩) ((hd1.out.below HB2.out).below hbs)).mono ?_
  · have : i = 0 ∧ (j = 0 ∨ j = 1 ∨ j = 2) := by have : i < 1 := hi; omega
    obtain ⟨rfl, rfl | rfl | rfl⟩ := this
    all_goals exact hkl.cell _ rfl
  rintro e w3 ⟨r2, a2, rfl, hb3, hi2⟩
  have hb13 : Below w1.heap.size w1 w3 := (HB2.out.trans (hbs.mono HB2.out.size)).trans (hb3.mono (by have := HB2.out.size; have := hbs.size; omega))
  have HI1' := hide (HI1.out.below hb13)
  have HI2 := hide hi2
  have hbw := hide (HB1.out.trans (hb13.mono HB1.out.size))
  have hl3 := hbw.out.size
  clear hb3 hi2 hb13 HI1 HB1 HB2 hd1 hbs hkl
  go_wp2_with first
    | (refine wpList_store_row rfl 28 (.tmp 1) (.tmp 23) rfl w3.heap.size _ rfl rfl _ _ ((Blk.new w3 [.int .i64 0, .int .i64 0, .int .i64 0, .int .i64 0, .slice none 0 0, .int .i64 0, .slice none 0 0, .slice none 0 0] 28).alloc _) (by kernel_rfl) rfl (by first | rfl | simp [Value.oneCell']) ?_)
    | (refine wpList_store_row2 rfl 28 (.tmp 2) (.tmp 26) rfl (w3.heap.size + 1) _ rfl rfl _ _ (blk_setRow_other (Blk.new' _ [.int .i64 0, .int .i64 0, .int .i64 0, .int .i64 0, .slice none 0 0, .int .i64 0, .slice none 0 0, .slice none 0 0] 28 (by simp)) (by omega) _) (by kernel_rfl) rfl (by first | rfl | simp [Value.oneCell']) ?_; intro W0 hW; have HA0 := hide (hW ▸ aw_start hbw.out HI1'.out HI2.out); clear hW; have hp1 := HA0.out.x1.lt; obtain ⟨c0, c1, c2, c3, c4, c5, c6, c7⟩ := sample_cells HA0.out.x1; clear HI1' HI2 hbw)
  refine (Depth_any (sampleD []) 3 r1 a1 none 4 2 0 _ HA0.out.i1).mono ?_
  rintro e W1 ⟨rfl, hb⟩
  simp only [ex_depth]
  have HA1 := hide (HA0.out.below hb)
  clear HA0 hb c0 c1 c2 c3 c4 c5 c6 c7 hp1
  have hp2 := HA1.out.x2.lt
  obtain ⟨c0, c1, c2, c3, c4, c5, c6, c7⟩ := sample_cells HA1.out.x2
  go_wp2_with fail
  refine (Leak_any (sampleD [look1]) r2 a2 _ 4 2 1 _ (HA1.out.below (by (repeat' first | (with_reducible assumption) | (with_reducible exact Below.refl _ _) | (with_reducible refine Below.drew ?_) | (with_reducible refine Below.setCell ?_ ?_ _) | (with_reducible refine Below.alloc ?_ ?_ _) | (refine Below.trans ?_ (Below.mono (by assumption) ?_)) | omega | (simp only [World.size_alloc, World.size_setCell, World.size_drew] at *; omega)))).i2).mono ?_
  rintro e W2 ⟨rfl, hb⟩
  simp only [ex_leak]
  have S3 : Blk W2 W1.heap.size 23 [.int .i64 7, .int .i64 18] := Blk.below (Blk.new _ _ _) hb (by simp)
  have HA2 := hide ((HA1.out.below (by (repeat' first | (with_reducible assumption) | (with_reducible exact Below.refl _ _) | (with_reducible refine Below.drew ?_) | (with_reducible refine Below.setCell ?_ ?_ _) | (with_reducible refine Below.alloc ?_ ?_ _) | (refine Below.trans ?_ (Below.mono (by assumption) ?_)) | omega | (simp only [World.size_alloc, World.size_setCell, World.size_drew] at *; omega)))).below hb)
  clear hb HA1 c0 c1 c2 c3 c4 c5 c6 c7 hp2
  have hp1 := HA2.out.x1.lt
  obtain ⟨c0, c1, c2, c3, c4, c5, c6, c7⟩ := sample_cells HA2.out.x1
  go_wp2_with fail
  refine (Floats_any (sampleD []) 0 2 0 r1 a1 none 4 2 0 _ (HA2.out.below (by (repeat' first | (with_reducible assumption) | (with_reducible exact Below.refl _ _) | (with_reducible refine Below.drew ?_) | (with_reducible refine Below.setCell ?_ ?_ _) | (with_reducible refine Below.alloc ?_ ?_ _) | (refine Below.trans ?_ (Below.mono (by assumption) ?_)) | omega | (simp only [World.size_alloc, World.size_setCell, World.size_drew] at *; omega)))).i1).mono ?_
  rintro e W3 ⟨rfl, hb⟩
  simp only [ex_floats]
  have S5 : Blk W3 W2.heap.size 23 [.int .i64 1, .int .i64 1] := Blk.below (Blk.new _ _ _) hb (by simp)
  replace S3 := (S3.alloc _).below hb (by simp; have := S3.lt; omega)
  have HA3 := hide ((HA2.out.below (by (repeat' first | (with_reducible assumption) | (with_reducible exact Below.refl _ _) | (with_reducible refine Below.drew ?_) | (with_reducible refine Below.setCell ?_ ?_ _) | (with_reducible refine Below.alloc ?_ ?_ _) | (refine Below.trans ?_ (Below.mono (by assumption) ?_)) | omega | (simp only [World.size_alloc, World.size_setCell, World.size_drew] at *; omega)))).below hb)
  clear hb HA2 c0 c1 c2 c3 c4 c5 c6 c7 hp1
  obtain ⟨c0, c1, c2, c3, c4, c5, c6, c7⟩ := sample_cells HA3.out.x1
  go_wp2_with fail
  refine (Loads_any (sampleD []) 0 2 r1 a1 none 4 2 0 _ HA3.out.i1).mono ?_
  rintro e W4 ⟨rfl, hb⟩
  simp only [ex_loads]
  replace S3 := S3.below hb S3.lt
  replace S5 := S5.below hb S5.lt
  have HA4 := hide (HA3.out.below hb)
  clear hb HA3 c0 c1 c2 c3 c4 c5 c6 c7
  obtain ⟨c0, c1, c2, c3, c4, c5, c6, c7⟩ := sample_cells HA4.out.x1
  go_wp2_with fail
  refine (Days_any (sampleD []) 0 1 r1 a1 none 4 2 0 _ HA4.out.i1).mono ?_
  rintro e W5 ⟨rfl, hb⟩
  simp only [ex_days]
  replace S3 := S3.below hb S3.lt
  replace S5 := S5.below hb S5.lt
  have HA5 := hide (HA4.out.below hb)
  clear hb HA4 c0 c1 c2 c3 c4 c5 c6 c7
  obtain ⟨c0, c1, c2, c3, c4, c5, c6, c7⟩ := sample_cells HA5.out.x1
  go_wp2_with fail
  refine (Until_any (sampleD []) 0 1 2 r1 a1 none 4 2 0 _ HA5.out.i1).mono ?_
  rintro e W6 ⟨rfl, hb⟩
  simp only [ex_until]
  replace S3 := S3.below hb S3.lt
  replace S5 := S5.below hb S5.lt
  have HA6 := hide (HA5.out.below hb)
  clear hb HA5 c0 c1 c2 c3 c4 c5 c6 c7
  obtain ⟨c0, c1, c2, c3, c4, c5, c6, c7⟩ := sample_cells HA6.out.x1
  go_wp2_with fail
  refine (Together_any (sampleD []) 4 r1 a1 none 4 2 0 _ HA6.out.i1).mono ?_
  rintro e W7 ⟨rfl, hb⟩
  simp only [ex_together]
  replace S3 := S3.below hb S3.lt
  replace S5 := S5.below hb S5.lt
  have HA7 := hide (HA6.out.below hb)
  clear hb HA6 c0 c1 c2 c3 c4 c5 c6 c7
  go_wp2_with fail
  refine (lawLook_any _ _ _ _).mono ?_
  rintro e W8 ⟨rfl, hb⟩
  replace S3 := S3.below hb S3.lt
  replace S5 := S5.below hb S5.lt
  have HA8 := hide (HA7.out.below hb)
  clear hb HA7
  go_wp2_with fail
  refine (lawLook_any _ _ _ _).mono ?_
  rintro e W9 ⟨rfl, hb⟩
  replace S3 := S3.below hb S3.lt
  replace S5 := S5.below hb S5.lt
  have HA9 := hide (HA8.out.below hb)
  clear hb HA8
  go_wp2_with fail
  have hbs : Below W9.heap.size W9 (W9.alloc (Obj.cells #[.int .i64 2, .int .i64 14, .int .i64 20, .int .i64 3, .int .i64 5, .int .i64 9] 55)) := (Below.refl _ _).alloc (Nat.le_refl _) _
  have hkl : Blk (W9.alloc (Obj.cells #[.int .i64 2, .int .i64 14, .int .i64 20, .int .i64 3, .int .i64 5, .int .i64 9] 55)) W9.heap.size 55 [.int .i64 2, .int .i64 14, .int .i64 20, .int .i64 3, .int .i64 5, .int .i64 9] := Blk.new W9 _ _
  refine (sample_any [look1, look2] (some ⟨W9.heap.size, 0, none⟩) 2 _ (.inr ⟨_, 0, rfl, by simp, fun i j hi hj => ?_⟩) ((HA9.out.below hbs).i1).dry).mono ?_
  · have : (i = 0 ∨ i = 1) ∧ (j = 0 ∨ j = 1 ∨ j = 2) := by have : i < 2 := hi; omega
    obtain ⟨rfl | rfl, rfl | rfl | rfl⟩ := this
    all_goals exact hkl.cell _ rfl
  rintro e W10 ⟨r3, a3, rfl, hb, hi3⟩
  replace S3 := (S3.below hbs S3.lt).below hb (by have := S3.lt; simp; omega)
  replace S5 := (S5.below hbs S5.lt).below hb (by have := S5.lt; simp; omega)
  have HA10 := hide ((HA9.out.below hbs).below hb)
  clear hb HA9 hbs hkl
  go_wp2_with fail
  refine (Clash_any (sampleD [look1, look2]) r3 a3 _ 4 2 2 _ hi3 (fun _ => small_sorted 2 (by omega))).mono ?_
  rintro e W11 ⟨rfl, hb⟩
  simp only [ex_clash]
  replace S3 := S3.below hb S3.lt
  replace S5 := S5.below hb S5.lt
  have HA11 := hide (HA10.out.below hb)
  clear hb HA10 hi3
  obtain ⟨c0, c1, c2, c3, c4, c5, c6, c7⟩ := sample_cells HA11.out.x2
  go_wp2_with fail
  refine (Depth_any (sampleD [look1]) 0 r2 a2 _ 4 2 1 _ HA11.out.i2).mono ?_
  rintro e W12 ⟨rfl, hb⟩
  simp only [ex_depth0]
  replace S3 := S3.below hb S3.lt
  replace S5 := S5.below hb S5.lt
  have HA12 := hide (HA11.out.below hb)
  clear hb HA11 c0 c1 c2 c3 c4 c5 c6 c7
  go_wp2_with fail
  have S21 : Blk (W12.alloc (Obj.cells #[.int .i64 11, .int .i64 12] 23)) W12.heap.size 23 [.int .i64 11, .int .i64 12] := Blk.new _ _ _
  replace S3 := S3.alloc (Obj.cells #[.int .i64 11, .int .i64 12] 23)
  replace S5 := S5.alloc (Obj.cells #[.int .i64 11, .int .i64 12] 23)
  have hb12 := hide (HA12.out.bel.alloc HA12.out.bel.size (Obj.cells #[.int .i64 11, .int .i64 12] 23))
  clear HA12
  generalize W12.alloc (Obj.cells #[.int .i64 11, .int .i64 12] 23) = W13 at *
  generalize W12.heap.size = p21 at *
  generalize W1.heap.size = p3 at *
  generalize W2.heap.size = p5 at *
  have g30 := S3.cell 0 rfl
  have g31 := S3.cell 1 rfl
  have g50 := S5.cell 0 rfl
  have g51 := S5.cell 1 rfl
  have g20 := S21.cell 0 rfl
  have g21 := S21.cell 1 rfl
  have l3 := S3.lt
  have l5 := S5.lt
  have l21 := S21.lt
  have hcl : ∃ s : Cls (Below (W13.heap.size) (W13)), (W13).drew = s.W := ⟨⟨_, (Below.refl _ _).drew⟩, rfl⟩
  have hne : Nonempty (Cls (Below (W13.heap.size) (W13))) := ⟨⟨_, Below.refl _ _⟩⟩
  have hS : ∀ (s : Cls (Below (W13.heap.size) (W13))) (b o : Nat), b < W13.heap.size → s.W.cell? ⟨b, o, none⟩ = (W13).cell? ⟨b, o, none⟩ := fun s b o h => s.ok.cell (p := ⟨b, o, none⟩) h
  have hSf : ∀ (s : Cls (Below (W13.heap.size) (W13))) (b o : Nat), b < W13.heap.size → s.W.frozen? ⟨b, o, none⟩ = (W13).frozen? ⟨b, o, none⟩ := fun s b o h => s.ok.frozen (p := ⟨b, o, none⟩) h
  refine wp_region_quiet_all (S := Cls (Below W13.heap.size W13)) Cls.W (by kernel_rfl) (by kernel_rfl) hcl ?_
  clear hcl
  repeat (go_big_quiet_step ((go_at_call 36; refine (lawSpan_any _ _ _).mono ?_; rintro e w2 ⟨rfl, hb⟩; exact ⟨rfl, Cls.step _ (Nat.le_refl _) hb⟩)))
  refine wpQuiet_nil ?_
  intro s'
  have T21 := S21.below s'.ok S21.lt
  have hb14 := hide (hb12.out.trans (s'.ok.mono hb12.out.size))
  clear hS hSf hne S3 S5 S21 g30 g31 g50 g51 g20 g21 l3 l5 l21 hb12
  generalize s'.W = W14 at *
  clear s'
  have g20 := T21.cell 0 rfl
  have g21 := T21.cell 1 rfl
  have l21 := T21.lt
  go_wp2_with fail
  have hcl : ∃ s : Cls (Below (W14.heap.size) (W14)), (W14).drew = s.W := ⟨⟨_, (Below.refl _ _).drew⟩, rfl⟩
  have hne : Nonempty (Cls (Below (W14.heap.size) (W14))) := ⟨⟨_, Below.refl _ _⟩⟩
  have hS : ∀ (s : Cls (Below (W14.heap.size) (W14))) (b o : Nat), b < W14.heap.size → s.W.cell? ⟨b, o, none⟩ = (W14).cell? ⟨b, o, none⟩ := fun s b o h => s.ok.cell (p := ⟨b, o, none⟩) h
  have hSf : ∀ (s : Cls (Below (W14.heap.size) (W14))) (b o : Nat), b < W14.heap.size → s.W.frozen? ⟨b, o, none⟩ = (W14).frozen? ⟨b, o, none⟩ := fun s b o h => s.ok.frozen (p := ⟨b, o, none⟩) h
  refine wp_region_quiet_tail (S := Cls (Below W14.heap.size W14)) Cls.W 31 (by kernel_rfl) (by kernel_rfl) hcl ?_
  simp only [List.take_succ_cons, List.take_zero, List.drop_succ_cons, List.drop_zero]
  clear hcl
  repeat (go_big_quiet_step ((go_at_call 36; refine (lawSpan_any _ _ _).mono ?_; rintro e w2 ⟨rfl, hb⟩; exact ⟨rfl, Cls.step _ (Nat.le_refl _) hb⟩)))
  refine wpQuiet_nil ?_
  intro s'
  go_wp2
  refine bodyPost_ret (v := .bool true) (by simp [results, Tryd.results13, go_sem, *]) rfl ⟨rfl, hb14.out.trans (s'.ok.mono hb14.out.size)⟩
end Go.Proofs.YtlkhjnpflohfeaaDoor

/- The functions of package cut, told to the evaluator by their contracts: some of them. -/
namespace Go.Proofs.YtlkhjnpflohfeaaDoor
open Go Go.Proofs Go.RowKit
namespace Ev
set_option maxRecDepth 100000
def intsOf : List AV → Option (List Int)
  | [] => some []
  | .int .i64 n :: l => (intsOf l).map (n :: ·)
  | _ => none
theorem intsOf_eq : ∀ {l : List AV} {ns : List Int}, intsOf l = some ns → l = ns.map (AV.int .i64)
  | [], ns, h => by cases h; rfl
  | v :: l, ns, h => by
    unfold intsOf at h
    split at h
    · rename_i e; cases e
    · rename_i n l' e
      obtain ⟨rfl, rfl⟩ := List.cons.inj e
      obtain ⟨ms, h1, rfl⟩ := Option.map_eq_some_iff.1 h
      rw [List.map_cons, ← intsOf_eq h1]
    · cases h
/-- A function of a cut and numbers. -/
def gCut (spec : CutD → List Int → Option AV) (args : List AV) (H : List AB) : Option AV :=
  match args with
  | v :: rest => (cutOf H v).bind fun c => (intsOf rest).bind fun ns => spec c ns
  | [] => none
theorem elemsR_of {W : World} {ra : Option Addr} {n k : Nat} {f : Nat → Nat → Int} {g : Nat → Nat → Value} (h : ElemsI W ra n k f) (hg : ∀ i j, j < k → g i j = .int .i64 (f i j)) : ElemsR W ra n k g := by
  rcases h with h | ⟨b, off, h1, h2, h3⟩
  · exact .inl h
  · exact .inr ⟨b, off, h1, h2, fun i j hi hj => (h3 i j hi hj).trans (by rw [hg i j hj])⟩
theorem dry_of_globs {C : Cfg} {W : World} {L : Nat → Prop} (h : Globs C W L) : Dry W := by
  have hv := h 0 _ rfl
  cases hv with
  | dead h => simp [headRef] at h
  | rp rs h1 h2 =>
    have a0 := (h1 0 _ rfl).2
    have a1 := (h1 1 _ rfl).2
    rw [vr_int (h2 0 _ rfl)] at a0
    rw [vr_int (h2 1 _ rfl)] at a1
    exact ⟨cell_lt a0, a0, a1⟩
theorem globs_of_dry {C : Cfg} {W : World} (h : Dry W) : Globs C W (fun _ => False) := by
  intro g cs hg
  unfold globA at hg
  cases hb : Nat.beq g 0 with
  | false => simp only [hb] at hg; cases hg
  | true =>
    simp only [hb] at hg
    cases hg
    obtain rfl := Nat.eq_of_beq_eq_true hb
    refine .rp (fun j => if j = 0 then .int .i64 1048576 else .int .i64 (-1048576)) (fun j x hx => ⟨id, ?_⟩) (fun j x hx => ?_)
    · match j, hx with
      | 0, hx => exact h.c0
      | 1, hx => exact h.c1
      | j + 2, hx => simp at hx
    · match j, hx with
      | 0, hx => cases hx; exact .int
      | 1, hx => cases hx; exact .int
      | j + 2, hx => simp at hx
section
variable {C : Cfg} {W : World} {L : Nat → Prop} {μ : Mu} {H : List AB}
/-- The argument that is a cut. -/
theorem cut_arg (hs : Sim Tryd.prog W L μ H) (hG : Globs C W L) {v : AV} {x : Value} {c : CutD} (hc : cutOf H v = some c) (hv : VR W L μ v x) :
    ∃ ra rc ba bc la lc, x = cutVal c ra ba la rc bc lc ∧ CutIn W c ra ba la := by
  obtain ⟨ra, rc, ba, bc, la, lc, rfl, g1, g2, g3⟩ := cut_val hs hc hv
  refine ⟨ra, rc, ba, bc, la, lc, rfl, ?_, ?_, ?_, dry_of_globs hG⟩
  · exact elemsR_of g1 fun i j _ => by unfold spanCell; split <;> rfl
  · exact elemsR_of g2 fun i j _ => by unfold boatCell; repeat' split <;> try rfl
  · exact elemsR_of g3 fun i j _ => by unfold lookCell; repeat' split <;> try rfl
theorem ints_arg {ns : List Int} : ∀ {xs : List Value}, VL W L μ (ns.map (AV.int .i64)) xs → xs = ns.map (Value.int .i64) := by
  induction ns with
  | nil => intro xs h; exact List.eq_nil_of_length_eq_zero h.1.symm
  | cons n ns ih =>
    intro xs h
    match xs, h with
    | [], h => exact absurd h.1 (by simp)
    | x :: xs, h =>
      rw [vr_int h.head, ih h.tail]; rfl
theorem gcut_ok {spec : CutD → List Int → Option AV} {f : Nat}
    (hf : ∀ (c : CutD) (ns : List Int) (v : AV), spec c ns = some v → ∀ (ra ba la : Option Addr) (rc bc lc : Nat) (W : World), CutIn W c ra ba la →
      Calls Tryd.prog f (cutVal c ra ba la rc bc lc :: ns.map (Value.int .i64)).toArray W fun e W' => (∃ w, e = .returned w ∧ ∀ W L μ, VR W L μ v w) ∧ Below W.heap.size W W')
    (args : List AV) (H : List AB) (v : AV) (rargs : Array Value) (W : World) (L : Nat → Prop) (μ : Mu) (h : gCut spec args H = some v) (hv : VL W L μ args rargs.toList) (hs : Sim Tryd.prog W L μ H) (hG : Globs C W L) :
    CallsIn Fence.wide 0 Tryd.prog f rargs W fun e W' => (∃ w, e = .returned w ∧ VR W' L nomu v w) ∧ Below W.heap.size W W' := by
  unfold gCut at h
  split at h
  · rename_i u rest
    obtain ⟨c, h1, h2⟩ := Option.bind_eq_some_iff.1 h
    obtain ⟨ns, h3, h4⟩ := Option.bind_eq_some_iff.1 h2
    obtain rfl := intsOf_eq h3
    obtain ⟨xs, hxs⟩ : ∃ xs, rargs.toList = xs := ⟨_, rfl⟩
    rw [hxs] at hv
    match xs, hv with
    | [], hv => exact absurd hv.1 (by simp)
    | x :: xs, hv =>
      obtain ⟨ra, rc, ba, bc, la, lc, rfl, hin⟩ := cut_arg hs hG h1 hv.head
      rw [ints_arg hv.tail] at hxs
      have e : rargs = (cutVal c ra ba la rc bc lc :: ns.map (Value.int .i64)).toArray := Array.ext' (by rw [hxs])
      subst e
      refine (callsIn_wide.2 (hf c ns v h4 ra ba la rc bc lc W hin)).mono ?_
      rintro e W' ⟨⟨w, rfl, hw⟩, hb⟩
      exact ⟨⟨w, rfl, hw _ _ _⟩, hb⟩
  · cases h
end
theorem vr_twoS (r : (Int × Int) × Int) : ∀ W L μ, VR W L μ (twoS r) (.tuple #[.agg #[.int .i64 r.1.1, .int .i64 r.1.2], .int .i64 r.2]) := by
  intro W L μ
  refine .tup (rs := [_, _]) rfl fun i x r' hx hr => ?_
  match i, hx, hr with
  | 0, hx, hr =>
    cases hx; cases hr
    refine .agg (rs := [_, _]) rfl fun i x r' hx hr => ?_
    match i, hx, hr with
    | 0, hx, hr => cases hx; cases hr; exact .int
    | 1, hx, hr => cases hx; cases hr; exact .int
    | i + 2, hx, hr => simp at hx
  | 1, hx, hr => cases hx; cases hr; exact .int
  | i + 2, hx, hr => simp at hx
theorem vr_twoA (r : Int × Int) : ∀ W L μ, VR W L μ (twoA r) (.tuple #[.int .i64 r.1, .int .i64 r.2]) := by
  intro W L μ
  refine .tup (rs := [_, _]) rfl fun i x r' hx hr => ?_
  match i, hx, hr with
  | 0, hx, hr => cases hx; cases hr; exact .int
  | 1, hx, hr => cases hx; cases hr; exact .int
  | i + 2, hx, hr => simp at hx
theorem vr_three (r : (Int × Int) × Int) : ∀ W L μ, VR W L μ (three r) (.tuple #[.int .i64 r.1.1, .int .i64 r.1.2, .int .i64 r.2]) := by
  intro W L μ
  refine .tup (rs := [_, _, _]) rfl fun i x r' hx hr => ?_
  match i, hx, hr with
  | 0, hx, hr => cases hx; cases hr; exact .int
  | 1, hx, hr => cases hx; cases hr; exact .int
  | 2, hx, hr => cases hx; cases hr; exact .int
  | i + 3, hx, hr => simp at hx
/-! What each function is told to answer. -/
def sDepth (c : CutD) : List Int → Option AV | [d] => some (twoS (depthR c d)) | _ => none
def sLeak (c : CutD) : List Int → Option AV | [] => some (twoS (leakR c)) | _ => none
def sFloats (c : CutD) : List Int → Option AV | [b, n, d] => some (twoA (floatsR c b n d)) | _ => none
def sLoads (c : CutD) : List Int → Option AV | [b, d] => some (three (loadsR c b d)) | _ => none
def sFar (c : CutD) : List Int → Option AV | [] => some (.bool (farD c)) | _ => none
def sValid (c : CutD) : List Int → Option AV | [] => some (.bool (Cut.valid c)) | _ => none
def gAwake (args : List AV) (_ : List AB) : Option AV := match args with | [] => some (.bool true) | _ => none
def Known (f : Nat) : Prop := ∃ F, Tryd.prog.funcs[f]? = some F ∧ (F.name == "runtime.NumGoroutine") = false ∧ F.body.isNone = false
theorem depth_ok (c : CutD) (ns : List Int) (v : AV) (h : sDepth c ns = some v) (ra ba la : Option Addr) (rc bc lc : Nat) (W : World) (hin : CutIn W c ra ba la) :
    Calls Tryd.prog 14 (cutVal c ra ba la rc bc lc :: ns.map (Value.int .i64)).toArray W fun e W' => (∃ w, e = .returned w ∧ ∀ W L μ, VR W L μ v w) ∧ Below W.heap.size W W' := by
  unfold sDepth at h
  split at h <;> cases h
  exact (Depth_any c _ ra ba la rc bc lc W hin).mono fun e W' ⟨h1, h2⟩ => ⟨⟨_, h1, vr_twoS _⟩, h2⟩
theorem leak_ok (c : CutD) (ns : List Int) (v : AV) (h : sLeak c ns = some v) (ra ba la : Option Addr) (rc bc lc : Nat) (W : World) (hin : CutIn W c ra ba la) :
    Calls Tryd.prog 16 (cutVal c ra ba la rc bc lc :: ns.map (Value.int .i64)).toArray W fun e W' => (∃ w, e = .returned w ∧ ∀ W L μ, VR W L μ v w) ∧ Below W.heap.size W W' := by
  unfold sLeak at h
  split at h <;> cases h
  exact (Leak_any c ra ba la rc bc lc W hin).mono fun e W' ⟨h1, h2⟩ => ⟨⟨_, h1, vr_twoS _⟩, h2⟩
theorem floats_ok (c : CutD) (ns : List Int) (v : AV) (h : sFloats c ns = some v) (ra ba la : Option Addr) (rc bc lc : Nat) (W : World) (hin : CutIn W c ra ba la) :
    Calls Tryd.prog 18 (cutVal c ra ba la rc bc lc :: ns.map (Value.int .i64)).toArray W fun e W' => (∃ w, e = .returned w ∧ ∀ W L μ, VR W L μ v w) ∧ Below W.heap.size W W' := by
  unfold sFloats at h
  split at h <;> cases h
  exact (Floats_any c _ _ _ ra ba la rc bc lc W hin).mono fun e W' ⟨h1, h2⟩ => ⟨⟨_, h1, vr_twoA _⟩, h2⟩
theorem loads_ok (c : CutD) (ns : List Int) (v : AV) (h : sLoads c ns = some v) (ra ba la : Option Addr) (rc bc lc : Nat) (W : World) (hin : CutIn W c ra ba la) :
    Calls Tryd.prog 20 (cutVal c ra ba la rc bc lc :: ns.map (Value.int .i64)).toArray W fun e W' => (∃ w, e = .returned w ∧ ∀ W L μ, VR W L μ v w) ∧ Below W.heap.size W W' := by
  unfold sLoads at h
  split at h <;> cases h
  exact (Loads_any c _ _ ra ba la rc bc lc W hin).mono fun e W' ⟨h1, h2⟩ => ⟨⟨_, h1, vr_three _⟩, h2⟩
theorem far_ok (c : CutD) (ns : List Int) (v : AV) (h : sFar c ns = some v) (ra ba la : Option Addr) (rc bc lc : Nat) (W : World) (_hin : CutIn W c ra ba la) :
    Calls Tryd.prog 34 (cutVal c ra ba la rc bc lc :: ns.map (Value.int .i64)).toArray W fun e W' => (∃ w, e = .returned w ∧ ∀ W L μ, VR W L μ v w) ∧ Below W.heap.size W W' := by
  unfold sFar at h
  split at h <;> cases h
  exact (far_any c ra ba la rc bc lc W).mono fun e W' ⟨h1, h2⟩ => ⟨⟨_, h1, fun _ _ _ => .bool⟩, h2⟩
theorem valid_ok (c : CutD) (ns : List Int) (v : AV) (h : sValid c ns = some v) (ra ba la : Option Addr) (rc bc lc : Nat) (W : World) (hin : CutIn W c ra ba la) :
    Calls Tryd.prog 35 (cutVal c ra ba la rc bc lc :: ns.map (Value.int .i64)).toArray W fun e W' => (∃ w, e = .returned w ∧ ∀ W L μ, VR W L μ v w) ∧ Below W.heap.size W W' := by
  unfold sValid at h
  split at h <;> cases h
  exact (refCut_any c ra ba la rc bc lc W hin).mono fun e W' ⟨h1, h2⟩ => ⟨⟨_, h1, fun _ _ _ => .bool⟩, h2⟩
theorem toArray_nil {rargs : Array Value} {W : World} {L : Nat → Prop} {μ : Mu} (h : VL W L μ [] rargs.toList) : rargs = #[] := Array.ext' (List.eq_nil_of_length_eq_zero (by have := h.1; simpa using this.symm))
end Ev
end Go.Proofs.YtlkhjnpflohfeaaDoor

/- A function with arguments that answers a bool, from the top. -/
namespace Go.Proofs.YtlkhjnpflohfeaaDoor
open Go Go.RowKit
namespace Ev
theorem top_args {P : Program} {C : Cfg} (hT : TblOk P C) {m f : Nat} {args : List AV} {rargs : Array Value} {b : Bool} {H' : List AB} {tc : List Nat} (h : Ev.call C m (.fn (.func f) [] []) args [] = some (.ret (.bool b), H', tc)) (W : World) (hG : Globs C W (fun _ => False))
    (hA : VL W (fun _ => False) nomu args rargs.toList) : CallsIn Fence.wide 0 P f rargs W fun e W' => e = .returned (.bool b) ∧ Below W.heap.size W W' := by
  have hok := call_ok hT m
  have hsim : Sim P W (fun _ => False) nomu [] := { live := fun i B h => (by cases h), dead := fun i b h _ => (by cases h), out := fun _ _ => rfl, inj := fun i j B h _ => (by cases h), lt := fun b h => h.elim }
  obtain ⟨r, W1, h1, h2⟩ := hok.sound (tc0 := []) h (Hp.start (P := P) hsim) hG
    (rf := .func (.func f) #[] #[]) (rargs := rargs) (.fn (rf := []) (rc := []) (by intro l; simp) rfl (by intro i x r h; simp at h) rfl (by intro i x r h; simp at h)) hA
  have e : (do let d ← Deferred.ofValue (.func (.func f) #[] #[]) rargs; invoke d.target d.args : Sem Next).run P W = .ok (.enter f rargs) W := by
    have hr : #[] ++ rargs ++ #[] = rargs := by simp
    simp only [Deferred.ofValue, Sem.run_bind, Sem.run_pure, Result.andThen, invoke, hr]
    exact hok.fn h _ _
  rw [e] at h1
  cases h1
  refine CallsIn.mono h2 ?_
  rintro en W' ⟨L', μ', c1, c2, _⟩
  cases en <;> simp only [CRel] at c1
  refine ⟨by rw [vr_bool c1], c2.env.1, c2.env.2.1, c2.env.2.2, c2.size, fun k hk => c2.same k hk fun i _ hi => by cases hi⟩
theorem vs_of {W : World} {μ : Mu} {ra : Option Addr} {n k cap : Nat} {f : Nat → Nat → Int} {es : List AV} (h : ElemsI W ra n k f) (hn : es.length = n) (hc : n ≤ cap) (hk : ∀ (i : Nat) (e : AV), es[i]? = some e → e.cells.length = k)
    (hv : ∀ (i : Nat) (e : AV) (j : Nat) (x : AV), es[i]? = some e → e.cells[j]? = some x → x = .int .i64 (f i j)) : VR W (fun _ => False) μ (.vs k es) (.slice ra n cap) := by
  subst hn
  by_cases h0 : es = []
  · subst h0; exact .vs0
  · rcases h with h | ⟨b, off, rfl, _, hcell⟩
    · exact absurd (List.eq_nil_of_length_eq_zero h) h0
    · refine .vs (fun i j => .int .i64 (f i j)) hc hk (fun i e j x h1 h2 => ⟨id, hcell i j (List.getElem?_eq_some_iff.1 h1).1 ?_⟩) (fun i e j x h1 h2 => ?_)
      · have := (List.getElem?_eq_some_iff.1 h2).1
        rw [hk i e h1] at this; exact this
      · rw [hv i e j x h1 h2]; exact .int
theorem map_get {α : Type} {l : List α} {g : α → AV} {i : Nat} {e : AV} (h : (l.map g)[i]? = some e) : ∃ a, l[i]? = some a ∧ e = g a := by
  rw [List.getElem?_map] at h
  obtain ⟨a, h1, h2⟩ := Option.map_eq_some_iff.1 h
  exact ⟨a, h1, h2.symm⟩
/-- A cut as a law is handed it stands for the model's. -/
theorem cutA_vr {W : World} {μ : Mu} {c : CutD} {ra ba la : Option Addr} {rc bc lc : Nat} (h1 : c.rain.length ≤ rc) (h2 : c.boats.length ≤ bc) (h3 : c.looks.length ≤ lc)
    (g1 : ElemsI W ra c.rain.length 2 (fun i j => if j = 0 then (Cut.spanAt c.rain i).1 else (Cut.spanAt c.rain i).2))
    (g2 : ElemsI W ba c.boats.length 4 (fun i j => if j = 0 then (Cut.boatAt c.boats i).draws.1 else if j = 1 then (Cut.boatAt c.boats i).draws.2 else if j = 2 then (Cut.boatAt c.boats i).per else (Cut.boatAt c.boats i).room))
    (g3 : ElemsI W la c.looks.length 3 (fun i j => if j = 0 then (Cut.lookAt c.looks i).day else if j = 1 then (Cut.lookAt c.looks i).depth.1 else (Cut.lookAt c.looks i).depth.2)) :
    VR W (fun _ => False) μ (cutA c) (.agg #[.int .i64 c.depth.1, .int .i64 c.depth.2, .int .i64 c.leak.1, .int .i64 c.leak.2, .slice ra c.rain.length rc, .int .i64 c.most, .slice ba c.boats.length bc, .slice la c.looks.length lc]) := by
  have v1 : VR W (fun _ => False) μ (.vs 2 (c.rain.map spanE)) (.slice ra c.rain.length rc) := by
    refine vs_of g1 (by simp) h1 (fun i e h => ?_) (fun i e j x h hx => ?_)
    · obtain ⟨a, _, rfl⟩ := map_get h; rfl
    · obtain ⟨a, ha, rfl⟩ := map_get h
      have e : Cut.spanAt c.rain i = a := by unfold Cut.spanAt; simp [ha]
      rw [e]
      match j, hx with
      | 0, hx => cases hx; rfl
      | 1, hx => cases hx; rfl
      | j + 2, hx => simp [spanE, AV.cells] at hx
  have v2 : VR W (fun _ => False) μ (.vs 4 (c.boats.map boatE)) (.slice ba c.boats.length bc) := by
    refine vs_of g2 (by simp) h2 (fun i e h => ?_) (fun i e j x h hx => ?_)
    · obtain ⟨a, _, rfl⟩ := map_get h; rfl
    · obtain ⟨a, ha, rfl⟩ := map_get h
      have e : Cut.boatAt c.boats i = a := by unfold Cut.boatAt; simp [ha]
      rw [e]
      match j, hx with
      | 0, hx => cases hx; rfl
      | 1, hx => cases hx; rfl
      | 2, hx => cases hx; rfl
      | 3, hx => cases hx; rfl
      | j + 4, hx => simp [boatE, AV.cells] at hx
  have v3 : VR W (fun _ => False) μ (.vs 3 (c.looks.map lookE)) (.slice la c.looks.length lc) := by
    refine vs_of g3 (by simp) h3 (fun i e h => ?_) (fun i e j x h hx => ?_)
    · obtain ⟨a, _, rfl⟩ := map_get h; rfl
    · obtain ⟨a, ha, rfl⟩ := map_get h
      have e : Cut.lookAt c.looks i = a := by unfold Cut.lookAt; simp [ha]
      rw [e]
      match j, hx with
      | 0, hx => cases hx; rfl
      | 1, hx => cases hx; rfl
      | 2, hx => cases hx; rfl
      | j + 3, hx => simp [lookE, AV.cells] at hx
  refine .agg (rs := [_, _, _, _, _, _, _, _]) rfl fun i x r hx hr => ?_
  match i, hx, hr with
  | 0, hx, hr => cases hx; cases hr; exact .int
  | 1, hx, hr => cases hx; cases hr; exact .int
  | 2, hx, hr => cases hx; cases hr; exact .int
  | 3, hx, hr => cases hx; cases hr; exact .int
  | 4, hx, hr => cases hx; cases hr; exact v1
  | 5, hx, hr => cases hx; cases hr; exact .int
  | 6, hx, hr => cases hx; cases hr; exact v2
  | 7, hx, hr => cases hx; cases hr; exact v3
  | i + 8, hx, hr => simp at hx
end Ev
end Go.Proofs.YtlkhjnpflohfeaaDoor

/- A law that was gone through by the evaluator, as a call. -/
namespace Go.Proofs.YtlkhjnpflohfeaaDoor
open Go Go.Proofs Go.RowKit
namespace Ev
set_option maxRecDepth 100000
theorem yes_call {C : Cfg} {n f : Nat} {fn : AFunc} {args : List AV} {t : Nat} (hc : C.calm = true) (hx : C.ext f = none) (hxh : C.exth f = none) (hf : C.fns f = some fn) (hw : C.whole f = true) (hres : fn.res = [.tmp t]) (hlen : args.length ≤ fn.ntmps)
    (h : Does (ev C (Ev.call C n) 0 none fn.body { tm := tmA fn.ntmps (zipI 0 args []), df := [], hp := [], tc := [] }) (Yes t)) : ∃ H' tc, Ev.call C (n + 1) (.fn (.func f) [] []) args [] = some (.ret (.bool true), H', tc) := by
  have := call_fn (n := n) (first := []) (captured := []) (args := args) (H := []) (R := fun x _ _ => x = .ret (.bool true)) hc hx hxh hf hw (by simpa using hlen) (by
    rw [List.nil_append, List.append_nil]
    refine h.mono fun e st ⟨h1, h2, h3⟩ => ?_
    subst h1
    refine ⟨.ret (.bool true), st, ?_, ?_⟩
    · have e1 : runDefs C 0 st.df none st = some (none, st) := by rw [h2]; rfl
      show (match runDefs C 0 st.df none st with
        | some (none, st) => (resL st fn.res).map fun vs => (CRes.ret (resV vs), st)
        | _ => none) = _
      rw [e1, hres]
      show (resL st [.tmp t]).map (fun vs => (CRes.ret (resV vs), st)) = _
      simp only [resL, resOf, h3]
      rfl
    · unfold Left; split <;> rfl)
  obtain ⟨x, H', tc, h1, rfl⟩ := this
  exact ⟨H', tc, h1⟩
theorem elemsI_of {W : World} {ra : Option Addr} {n k : Nat} {f : Nat → Nat → Int} {g : Nat → Nat → Value} (h : ElemsR W ra n k g) (hg : ∀ i j, j < k → g i j = .int .i64 (f i j)) : ElemsI W ra n k f := by
  rcases h with h | ⟨b, off, h1, h2, h3⟩
  · exact .inl h
  · exact .inr ⟨b, off, h1, h2, fun i j hi hj => (h3 i j hi hj).trans (by rw [hg i j hj])⟩
/-- The cut that a law is handed. -/
theorem cut_vr {W : World} {μ : Mu} {c : CutD} {ra ba la : Option Addr} {rc bc lc : Nat} (hin : CutIn W c ra ba la) (h1 : c.rain.length ≤ rc) (h2 : c.boats.length ≤ bc) (h3 : c.looks.length ≤ lc) :
    VR W (fun _ => False) μ (cutA c) (cutVal c ra ba la rc bc lc) :=
  cutA_vr h1 h2 h3 (elemsI_of hin.rain fun i j _ => by unfold spanCell; split <;> rfl) (elemsI_of hin.boats fun i j _ => by unfold boatCell; repeat' split <;> try rfl) (elemsI_of hin.looks fun i j _ => by unfold lookCell; repeat' split <;> try rfl)
end Ev
end Go.Proofs.YtlkhjnpflohfeaaDoor

/- The code of the reference of chapter 06 and of the laws that compare with it, for the evaluator. Printed by program. -/
namespace Go.Proofs.YtlkhjnpflohfeaaDoor
open Go
namespace Ev
namespace R
set_option maxRecDepth 100000
def af3 : AFunc := ⟨130, [(.tmp 8)], (.seq (.ops [⟨0, (some 4), (.box (.tmp 0)), none, 0⟩, ⟨1, (some 8), (.mov (.val (.bool false))), none, 0⟩]) (.seq (.seq (.ops [⟨0, (some 27), (.load (some 8) (.tmp 4)), none, 0⟩, ⟨1, (some 28), (.call (.val (.fn (Fn.func 12) [] [])) [(.tmp 27), (.val (.int .i64 30))]), none, 0⟩]) (.cond (.tmp 28) (.seq (.ops [⟨0, (some 29), (.call (.val (.fn (Fn.func 13) [] [])) []), none, 0⟩, ⟨1, (some 8), (.mov (.tmp 29)), none, 0⟩]) .ret) .skip)) (.seq (.ops [⟨0, (some 31), (.load (some 8) (.tmp 4)), none, 0⟩, ⟨1, (some 32), (.mov (.tmp 3)), none, 0⟩, ⟨2, (some 33), (.call (.val (.fn (Fn.func 14) [] [])) [(.tmp 31), (.tmp 32)]), none, 0⟩, ⟨3, (some 30), (.mov (.tmp 33)), none, 0⟩, ⟨4, (some 34), (.extract (.tmp 30) 0), none, 0⟩, ⟨5, (some 35), (.extract (.tmp 30) 1), none, 0⟩, ⟨6, (some 9), (.alloc [(.int .i64 0), (.int .i64 0)]), none, 0⟩, ⟨7, none, (.store 2 (.tmp 9) (.tmp 34)), none, 0⟩, ⟨8, (some 10), (.mov (.tmp 35)), none, 0⟩]) (.seq (.ops [⟨0, (some 37), (.load (some 8) (.tmp 4)), none, 0⟩, ⟨1, (some 38), (.mov (.tmp 3)), none, 0⟩, ⟨2, (some 39), (.call (.val (.fn (Fn.func 15) [] [])) [(.tmp 37), (.tmp 38)]), none, 0⟩, ⟨3, (some 36), (.mov (.tmp 39)), none, 0⟩, ⟨4, (some 40), (.extract (.tmp 36) 0), none, 0⟩, ⟨5, (some 41), (.extract (.tmp 36) 1), none, 0⟩, ⟨6, (some 11), (.alloc [(.int .i64 0), (.int .i64 0)]), none, 0⟩, ⟨7, none, (.store 2 (.tmp 11) (.tmp 40)), none, 0⟩, ⟨8, (some 12), (.mov (.tmp 41)), none, 0⟩]) (.seq (.ops [⟨0, (some 43), (.load (some 8) (.tmp 4)), none, 0⟩, ⟨1, (some 44), (.call (.val (.fn (Fn.func 16) [] [])) [(.tmp 43)]), none, 0⟩, ⟨2, (some 42), (.mov (.tmp 44)), none, 0⟩, ⟨3, (some 45), (.extract (.tmp 42) 0), none, 0⟩, ⟨4, (some 46), (.extract (.tmp 42) 1), none, 0⟩, ⟨5, (some 13), (.alloc [(.int .i64 0), (.int .i64 0)]), none, 0⟩, ⟨6, none, (.store 2 (.tmp 13) (.tmp 45)), none, 0⟩, ⟨7, (some 14), (.mov (.tmp 46)), none, 0⟩]) (.seq (.ops [⟨0, (some 48), (.load (some 8) (.tmp 4)), none, 0⟩, ⟨1, (some 49), (.call (.val (.fn (Fn.func 17) [] [])) [(.tmp 48)]), none, 0⟩, ⟨2, (some 47), (.mov (.tmp 49)), none, 0⟩, ⟨3, (some 50), (.extract (.tmp 47) 0), none, 0⟩, ⟨4, (some 51), (.extract (.tmp 47) 1), none, 0⟩, ⟨5, (some 15), (.alloc [(.int .i64 0), (.int .i64 0)]), none, 0⟩, ⟨6, none, (.store 2 (.tmp 15) (.tmp 50)), none, 0⟩, ⟨7, (some 16), (.mov (.tmp 51)), none, 0⟩]) (.seq (.ops [⟨0, (some 53), (.load (some 8) (.tmp 4)), none, 0⟩, ⟨1, (some 54), (.mov (.tmp 1)), none, 0⟩, ⟨2, (some 55), (.mov (.tmp 2)), none, 0⟩, ⟨3, (some 56), (.mov (.tmp 3)), none, 0⟩, ⟨4, (some 57), (.call (.val (.fn (Fn.func 18) [] [])) [(.tmp 53), (.tmp 54), (.tmp 55), (.tmp 56)]), none, 0⟩, ⟨5, (some 52), (.mov (.tmp 57)), none, 0⟩, ⟨6, (some 58), (.extract (.tmp 52) 0), none, 0⟩, ⟨7, (some 59), (.extract (.tmp 52) 1), none, 0⟩, ⟨8, (some 17), (.mov (.tmp 58)), none, 0⟩, ⟨9, (some 18), (.mov (.tmp 59)), none, 0⟩]) (.seq (.ops [⟨0, (some 61), (.load (some 8) (.tmp 4)), none, 0⟩, ⟨1, (some 62), (.mov (.tmp 1)), none, 0⟩, ⟨2, (some 63), (.mov (.tmp 2)), none, 0⟩, ⟨3, (some 64), (.mov (.tmp 3)), none, 0⟩, ⟨4, (some 65), (.call (.val (.fn (Fn.func 19) [] [])) [(.tmp 61), (.tmp 62), (.tmp 63), (.tmp 64)]), none, 0⟩, ⟨5, (some 60), (.mov (.tmp 65)), none, 0⟩, ⟨6, (some 66), (.extract (.tmp 60) 0), none, 0⟩, ⟨7, (some 67), (.extract (.tmp 60) 1), none, 0⟩, ⟨8, (some 19), (.mov (.tmp 66)), none, 0⟩, ⟨9, (some 20), (.mov (.tmp 67)), none, 0⟩]) (.seq (.ops [⟨0, (some 69), (.load (some 8) (.tmp 4)), none, 0⟩, ⟨1, (some 70), (.mov (.tmp 1)), none, 0⟩, ⟨2, (some 71), (.mov (.tmp 3)), none, 0⟩, ⟨3, (some 72), (.call (.val (.fn (Fn.func 20) [] [])) [(.tmp 69), (.tmp 70), (.tmp 71)]), none, 0⟩, ⟨4, (some 68), (.mov (.tmp 72)), none, 0⟩, ⟨5, (some 73), (.extract (.tmp 68) 0), none, 0⟩, ⟨6, (some 74), (.extract (.tmp 68) 1), none, 0⟩, ⟨7, (some 75), (.extract (.tmp 68) 2), none, 0⟩, ⟨8, (some 21), (.mov (.tmp 73)), none, 0⟩, ⟨9, (some 22), (.mov (.tmp 74)), none, 0⟩, ⟨10, (some 23), (.mov (.tmp 75)), none, 0⟩]) (.seq (.ops [⟨0, (some 77), (.load (some 8) (.tmp 4)), none, 0⟩, ⟨1, (some 78), (.mov (.tmp 1)), none, 0⟩, ⟨2, (some 79), (.mov (.tmp 3)), none, 0⟩, ⟨3, (some 80), (.call (.val (.fn (Fn.func 21) [] [])) [(.tmp 77), (.tmp 78), (.tmp 79)]), none, 0⟩, ⟨4, (some 76), (.mov (.tmp 80)), none, 0⟩, ⟨5, (some 81), (.extract (.tmp 76) 0), none, 0⟩, ⟨6, (some 82), (.extract (.tmp 76) 1), none, 0⟩, ⟨7, (some 83), (.extract (.tmp 76) 2), none, 0⟩, ⟨8, (some 24), (.mov (.tmp 81)), none, 0⟩, ⟨9, (some 25), (.mov (.tmp 82)), none, 0⟩, ⟨10, (some 26), (.mov (.tmp 83)), none, 0⟩]) (.seq (.ops [⟨0, (some 84), (.load (some 2) (.tmp 9)), none, 0⟩, ⟨1, (some 85), (.load (some 2) (.tmp 11)), none, 0⟩, ⟨2, (some 86), (.eq (.agg [true, true]) false (.tmp 84) (.tmp 85)), none, 0⟩, ⟨3, (some 87), (.mov (.tmp 86)), none, 0⟩, ⟨4, (some 88), (.mov (.tmp 10)), (some (87, true)), 0⟩, ⟨5, (some 89), (.mov (.tmp 12)), (some (87, true)), 0⟩, ⟨6, (some 90), (.bin .eql (.tmp 88) (.tmp 89)), (some (87, true)), 0⟩, ⟨7, (some 91), (.pick (.tmp 87) (.tmp 90) (.val (.bool false))), none, 0⟩, ⟨8, (some 92), (.mov (.tmp 91)), none, 0⟩, ⟨9, (some 93), (.load (some 2) (.tmp 13)), (some (92, true)), 0⟩, ⟨10, (some 94), (.load (some 2) (.tmp 15)), (some (92, true)), 0⟩, ⟨11, (some 95), (.eq (.agg [true, true]) false (.tmp 93) (.tmp 94)), (some (92, true)), 0⟩, ⟨12, (some 96), (.pick (.tmp 92) (.tmp 95) (.val (.bool false))), none, 0⟩, ⟨13, (some 97), (.mov (.tmp 96)), none, 0⟩, ⟨14, (some 98), (.mov (.tmp 14)), (some (97, true)), 0⟩, ⟨15, (some 99), (.mov (.tmp 16)), (some (97, true)), 0⟩, ⟨16, (some 100), (.bin .eql (.tmp 98) (.tmp 99)), (some (97, true)), 0⟩, ⟨17, (some 101), (.pick (.tmp 97) (.tmp 100) (.val (.bool false))), none, 0⟩, ⟨18, (some 102), (.mov (.tmp 101)), none, 0⟩, ⟨19, (some 103), (.mov (.tmp 17)), (some (102, true)), 0⟩, ⟨20, (some 104), (.mov (.tmp 19)), (some (102, true)), 0⟩, ⟨21, (some 105), (.bin .eql (.tmp 103) (.tmp 104)), (some (102, true)), 0⟩, ⟨22, (some 106), (.pick (.tmp 102) (.tmp 105) (.val (.bool false))), none, 0⟩, ⟨23, (some 107), (.mov (.tmp 106)), none, 0⟩, ⟨24, (some 108), (.mov (.tmp 18)), (some (107, true)), 0⟩, ⟨25, (some 109), (.mov (.tmp 20)), (some (107, true)), 0⟩, ⟨26, (some 110), (.bin .eql (.tmp 108) (.tmp 109)), (some (107, true)), 0⟩, ⟨27, (some 111), (.pick (.tmp 107) (.tmp 110) (.val (.bool false))), none, 0⟩, ⟨28, (some 112), (.mov (.tmp 111)), none, 0⟩, ⟨29, (some 113), (.mov (.tmp 21)), (some (112, true)), 0⟩, ⟨30, (some 114), (.mov (.tmp 24)), (some (112, true)), 0⟩, ⟨31, (some 115), (.bin .eql (.tmp 113) (.tmp 114)), (some (112, true)), 0⟩, ⟨32, (some 116), (.pick (.tmp 112) (.tmp 115) (.val (.bool false))), none, 0⟩, ⟨33, (some 117), (.mov (.tmp 116)), none, 0⟩, ⟨34, (some 118), (.mov (.tmp 22)), (some (117, true)), 0⟩, ⟨35, (some 119), (.mov (.tmp 25)), (some (117, true)), 0⟩, ⟨36, (some 120), (.bin .eql (.tmp 118) (.tmp 119)), (some (117, true)), 0⟩, ⟨37, (some 121), (.pick (.tmp 117) (.tmp 120) (.val (.bool false))), none, 0⟩, ⟨38, (some 122), (.mov (.tmp 121)), none, 0⟩, ⟨39, (some 123), (.mov (.tmp 23)), (some (122, true)), 0⟩, ⟨40, (some 124), (.mov (.tmp 26)), (some (122, true)), 0⟩, ⟨41, (some 125), (.bin .eql (.tmp 123) (.tmp 124)), (some (122, true)), 0⟩, ⟨42, (some 126), (.pick (.tmp 122) (.tmp 125) (.val (.bool false))), none, 0⟩, ⟨43, (some 127), (.mov (.tmp 126)), none, 0⟩, ⟨44, (some 128), (.call (.val (.fn (Fn.func 13) [] [])) []), (some (127, true)), 0⟩, ⟨45, (some 129), (.pick (.tmp 127) (.tmp 128) (.val (.bool false))), none, 0⟩, ⟨46, (some 8), (.mov (.tmp 129)), none, 0⟩]) .ret)))))))))))⟩
def af4 : AFunc := ⟨130, [(.tmp 8)], (.seq (.ops [⟨0, (some 4), (.box (.tmp 0)), none, 0⟩, ⟨1, (some 8), (.mov (.val (.bool false))), none, 0⟩]) (.seq (.seq (.ops [⟨0, (some 27), (.load (some 8) (.tmp 4)), none, 0⟩, ⟨1, (some 28), (.call (.val (.fn (Fn.func 12) [] [])) [(.tmp 27), (.val (.int .i64 20))]), none, 0⟩]) (.cond (.tmp 28) (.seq (.ops [⟨0, (some 29), (.call (.val (.fn (Fn.func 13) [] [])) []), none, 0⟩, ⟨1, (some 8), (.mov (.tmp 29)), none, 0⟩]) .ret) .skip)) (.seq (.ops [⟨0, (some 31), (.load (some 8) (.tmp 4)), none, 0⟩, ⟨1, (some 32), (.mov (.tmp 1)), none, 0⟩, ⟨2, (some 33), (.mov (.tmp 2)), none, 0⟩, ⟨3, (some 34), (.call (.val (.fn (Fn.func 22) [] [])) [(.tmp 31), (.tmp 32), (.tmp 33)]), none, 0⟩, ⟨4, (some 30), (.mov (.tmp 34)), none, 0⟩, ⟨5, (some 35), (.extract (.tmp 30) 0), none, 0⟩, ⟨6, (some 36), (.extract (.tmp 30) 1), none, 0⟩, ⟨7, (some 37), (.extract (.tmp 30) 2), none, 0⟩, ⟨8, (some 9), (.mov (.tmp 35)), none, 0⟩, ⟨9, (some 10), (.mov (.tmp 36)), none, 0⟩, ⟨10, (some 11), (.mov (.tmp 37)), none, 0⟩]) (.seq (.ops [⟨0, (some 39), (.load (some 8) (.tmp 4)), none, 0⟩, ⟨1, (some 40), (.mov (.tmp 1)), none, 0⟩, ⟨2, (some 41), (.mov (.tmp 2)), none, 0⟩, ⟨3, (some 42), (.call (.val (.fn (Fn.func 23) [] [])) [(.tmp 39), (.tmp 40), (.tmp 41)]), none, 0⟩, ⟨4, (some 38), (.mov (.tmp 42)), none, 0⟩, ⟨5, (some 43), (.extract (.tmp 38) 0), none, 0⟩, ⟨6, (some 44), (.extract (.tmp 38) 1), none, 0⟩, ⟨7, (some 45), (.extract (.tmp 38) 2), none, 0⟩, ⟨8, (some 12), (.mov (.tmp 43)), none, 0⟩, ⟨9, (some 13), (.mov (.tmp 44)), none, 0⟩, ⟨10, (some 14), (.mov (.tmp 45)), none, 0⟩]) (.seq (.ops [⟨0, (some 47), (.load (some 8) (.tmp 4)), none, 0⟩, ⟨1, (some 48), (.mov (.tmp 1)), none, 0⟩, ⟨2, (some 49), (.mov (.tmp 2)), none, 0⟩, ⟨3, (some 50), (.mov (.tmp 3)), none, 0⟩, ⟨4, (some 51), (.call (.val (.fn (Fn.func 24) [] [])) [(.tmp 47), (.tmp 48), (.tmp 49), (.tmp 50)]), none, 0⟩, ⟨5, (some 46), (.mov (.tmp 51)), none, 0⟩, ⟨6, (some 52), (.extract (.tmp 46) 0), none, 0⟩, ⟨7, (some 53), (.extract (.tmp 46) 1), none, 0⟩, ⟨8, (some 15), (.mov (.tmp 52)), none, 0⟩, ⟨9, (some 16), (.mov (.tmp 53)), none, 0⟩]) (.seq (.ops [⟨0, (some 55), (.load (some 8) (.tmp 4)), none, 0⟩, ⟨1, (some 56), (.mov (.tmp 1)), none, 0⟩, ⟨2, (some 57), (.mov (.tmp 2)), none, 0⟩, ⟨3, (some 58), (.mov (.tmp 3)), none, 0⟩, ⟨4, (some 59), (.call (.val (.fn (Fn.func 25) [] [])) [(.tmp 55), (.tmp 56), (.tmp 57), (.tmp 58)]), none, 0⟩, ⟨5, (some 54), (.mov (.tmp 59)), none, 0⟩, ⟨6, (some 60), (.extract (.tmp 54) 0), none, 0⟩, ⟨7, (some 61), (.extract (.tmp 54) 1), none, 0⟩, ⟨8, (some 17), (.mov (.tmp 60)), none, 0⟩, ⟨9, (some 18), (.mov (.tmp 61)), none, 0⟩]) (.seq (.ops [⟨0, (some 63), (.load (some 8) (.tmp 4)), none, 0⟩, ⟨1, (some 64), (.mov (.tmp 3)), none, 0⟩, ⟨2, (some 65), (.call (.val (.fn (Fn.func 26) [] [])) [(.tmp 63), (.tmp 64)]), none, 0⟩, ⟨3, (some 62), (.mov (.tmp 65)), none, 0⟩, ⟨4, (some 66), (.extract (.tmp 62) 0), none, 0⟩, ⟨5, (some 67), (.extract (.tmp 62) 1), none, 0⟩, ⟨6, (some 19), (.mov (.tmp 66)), none, 0⟩, ⟨7, (some 20), (.mov (.tmp 67)), none, 0⟩]) (.seq (.ops [⟨0, (some 69), (.load (some 8) (.tmp 4)), none, 0⟩, ⟨1, (some 70), (.mov (.tmp 3)), none, 0⟩, ⟨2, (some 71), (.call (.val (.fn (Fn.func 27) [] [])) [(.tmp 69), (.tmp 70)]), none, 0⟩, ⟨3, (some 68), (.mov (.tmp 71)), none, 0⟩, ⟨4, (some 72), (.extract (.tmp 68) 0), none, 0⟩, ⟨5, (some 73), (.extract (.tmp 68) 1), none, 0⟩, ⟨6, (some 21), (.mov (.tmp 72)), none, 0⟩, ⟨7, (some 22), (.mov (.tmp 73)), none, 0⟩]) (.seq (.ops [⟨0, (some 75), (.load (some 8) (.tmp 4)), none, 0⟩, ⟨1, (some 76), (.call (.val (.fn (Fn.func 28) [] [])) [(.tmp 75)]), none, 0⟩, ⟨2, (some 74), (.mov (.tmp 76)), none, 0⟩, ⟨3, (some 77), (.extract (.tmp 74) 0), none, 0⟩, ⟨4, (some 78), (.extract (.tmp 74) 1), none, 0⟩, ⟨5, (some 23), (.mov (.tmp 77)), none, 0⟩, ⟨6, (some 24), (.mov (.tmp 78)), none, 0⟩]) (.seq (.ops [⟨0, (some 80), (.load (some 8) (.tmp 4)), none, 0⟩, ⟨1, (some 81), (.call (.val (.fn (Fn.func 29) [] [])) [(.tmp 80)]), none, 0⟩, ⟨2, (some 79), (.mov (.tmp 81)), none, 0⟩, ⟨3, (some 82), (.extract (.tmp 79) 0), none, 0⟩, ⟨4, (some 83), (.extract (.tmp 79) 1), none, 0⟩, ⟨5, (some 25), (.mov (.tmp 82)), none, 0⟩, ⟨6, (some 26), (.mov (.tmp 83)), none, 0⟩]) (.seq (.ops [⟨0, (some 84), (.mov (.tmp 9)), none, 0⟩, ⟨1, (some 85), (.mov (.tmp 12)), none, 0⟩, ⟨2, (some 86), (.bin .eql (.tmp 84) (.tmp 85)), none, 0⟩, ⟨3, (some 87), (.mov (.tmp 86)), none, 0⟩, ⟨4, (some 88), (.mov (.tmp 10)), (some (87, true)), 0⟩, ⟨5, (some 89), (.mov (.tmp 13)), (some (87, true)), 0⟩, ⟨6, (some 90), (.bin .eql (.tmp 88) (.tmp 89)), (some (87, true)), 0⟩, ⟨7, (some 91), (.pick (.tmp 87) (.tmp 90) (.val (.bool false))), none, 0⟩, ⟨8, (some 92), (.mov (.tmp 91)), none, 0⟩, ⟨9, (some 93), (.mov (.tmp 11)), (some (92, true)), 0⟩, ⟨10, (some 94), (.mov (.tmp 14)), (some (92, true)), 0⟩, ⟨11, (some 95), (.bin .eql (.tmp 93) (.tmp 94)), (some (92, true)), 0⟩, ⟨12, (some 96), (.pick (.tmp 92) (.tmp 95) (.val (.bool false))), none, 0⟩, ⟨13, (some 97), (.mov (.tmp 96)), none, 0⟩, ⟨14, (some 98), (.mov (.tmp 15)), (some (97, true)), 0⟩, ⟨15, (some 99), (.mov (.tmp 17)), (some (97, true)), 0⟩, ⟨16, (some 100), (.bin .eql (.tmp 98) (.tmp 99)), (some (97, true)), 0⟩, ⟨17, (some 101), (.pick (.tmp 97) (.tmp 100) (.val (.bool false))), none, 0⟩, ⟨18, (some 102), (.mov (.tmp 101)), none, 0⟩, ⟨19, (some 103), (.mov (.tmp 16)), (some (102, true)), 0⟩, ⟨20, (some 104), (.mov (.tmp 18)), (some (102, true)), 0⟩, ⟨21, (some 105), (.bin .eql (.tmp 103) (.tmp 104)), (some (102, true)), 0⟩, ⟨22, (some 106), (.pick (.tmp 102) (.tmp 105) (.val (.bool false))), none, 0⟩, ⟨23, (some 107), (.mov (.tmp 106)), none, 0⟩, ⟨24, (some 108), (.mov (.tmp 19)), (some (107, true)), 0⟩, ⟨25, (some 109), (.mov (.tmp 21)), (some (107, true)), 0⟩, ⟨26, (some 110), (.bin .eql (.tmp 108) (.tmp 109)), (some (107, true)), 0⟩, ⟨27, (some 111), (.pick (.tmp 107) (.tmp 110) (.val (.bool false))), none, 0⟩, ⟨28, (some 112), (.mov (.tmp 111)), none, 0⟩, ⟨29, (some 113), (.mov (.tmp 20)), (some (112, true)), 0⟩, ⟨30, (some 114), (.mov (.tmp 22)), (some (112, true)), 0⟩, ⟨31, (some 115), (.bin .eql (.tmp 113) (.tmp 114)), (some (112, true)), 0⟩, ⟨32, (some 116), (.pick (.tmp 112) (.tmp 115) (.val (.bool false))), none, 0⟩, ⟨33, (some 117), (.mov (.tmp 116)), none, 0⟩, ⟨34, (some 118), (.mov (.tmp 23)), (some (117, true)), 0⟩, ⟨35, (some 119), (.mov (.tmp 25)), (some (117, true)), 0⟩, ⟨36, (some 120), (.bin .eql (.tmp 118) (.tmp 119)), (some (117, true)), 0⟩, ⟨37, (some 121), (.pick (.tmp 117) (.tmp 120) (.val (.bool false))), none, 0⟩, ⟨38, (some 122), (.mov (.tmp 121)), none, 0⟩, ⟨39, (some 123), (.mov (.tmp 24)), (some (122, true)), 0⟩, ⟨40, (some 124), (.mov (.tmp 26)), (some (122, true)), 0⟩, ⟨41, (some 125), (.bin .eql (.tmp 123) (.tmp 124)), (some (122, true)), 0⟩, ⟨42, (some 126), (.pick (.tmp 122) (.tmp 125) (.val (.bool false))), none, 0⟩, ⟨43, (some 127), (.mov (.tmp 126)), none, 0⟩, ⟨44, (some 128), (.call (.val (.fn (Fn.func 13) [] [])) []), (some (127, true)), 0⟩, ⟨45, (some 129), (.pick (.tmp 127) (.tmp 128) (.val (.bool false))), none, 0⟩, ⟨46, (some 8), (.mov (.tmp 129)), none, 0⟩]) .ret)))))))))))⟩
def af12 : AFunc := ⟨17, [(.tmp 4)], (.seq (.ops [⟨0, (some 2), (.box (.tmp 0)), none, 0⟩, ⟨1, (some 4), (.mov (.val (.bool false))), none, 0⟩]) (.seq (.ops [⟨0, (some 5), (.load (some 8) (.tmp 2)), none, 0⟩, ⟨1, (some 6), (.call (.val (.fn (Fn.func 34) [] [])) [(.tmp 5)]), none, 0⟩, ⟨2, (some 7), (.mov (.tmp 6)), none, 0⟩, ⟨3, (some 8), (.load (some 8) (.tmp 2)), (some (7, false)), 0⟩, ⟨4, (some 9), (.call (.val (.fn (Fn.func 35) [] [])) [(.tmp 8)]), (some (7, false)), 0⟩, ⟨5, (some 10), (.mov (.tmp 9)), (some (7, false)), 0⟩, ⟨6, (some 11), (.fieldA 5 (.tmp 2)), (some (10, true)), 0⟩, ⟨7, (some 12), (.load none (.tmp 11)), (some (10, true)), 0⟩, ⟨8, (some 13), (.mov (.tmp 1)), (some (10, true)), 0⟩, ⟨9, (some 14), (.bin .gtr (.tmp 12) (.tmp 13)), (some (10, true)), 0⟩, ⟨10, (some 15), (.pick (.tmp 10) (.tmp 14) (.val (.bool false))), (some (7, false)), 0⟩, ⟨11, (some 16), (.pick (.tmp 7) (.val (.bool true)) (.tmp 15)), none, 0⟩, ⟨12, (some 4), (.mov (.tmp 16)), none, 0⟩]) .ret))⟩
def af15 : AFunc := ⟨24, [(.cell 4 (some 2)), (.tmp 5)], (.seq (.ops [⟨0, (some 2), (.box (.tmp 0)), none, 0⟩, ⟨1, (some 4), (.alloc [(.int .i64 0), (.int .i64 0)]), none, 0⟩, ⟨2, (some 5), (.mov (.val (.int .i64 0))), none, 0⟩]) (.seq (.draw [⟨0, (some 9), (.load (some 8) (.tmp 2)), none, 0⟩, ⟨1, (some 10), (.load (some 8) (.tmp 2)), none, 0⟩, ⟨2, (some 11), (.mov (.tmp 1)), none, 0⟩, ⟨3, (some 12), (.call (.val (.fn (Fn.func 49) [] [])) [(.tmp 10), (.tmp 11)]), none, 6⟩, ⟨4, (some 13), (.call (.val (.fn (Fn.func 48) [] [])) [(.tmp 9), (.tmp 12)]), none, 15⟩, ⟨5, (some 8), (.mov (.tmp 13)), none, 31⟩, ⟨6, (some 14), (.extract (.tmp 8) 0), none, 63⟩, ⟨7, (some 15), (.extract (.tmp 8) 1), none, 63⟩, ⟨8, (some 6), (.mov (.tmp 14)), none, 127⟩, ⟨9, (some 7), (.mov (.tmp 15)), none, 511⟩]) (.seq (.seq (.ops [⟨0, (some 16), (.mov (.tmp 7)), none, 0⟩, ⟨1, (some 17), (.bin .neq (.tmp 16) (.val (.int .i64 0))), none, 0⟩]) (.cond (.tmp 17) (.seq (.ops [⟨0, (some 18), (.build [(.int .i64 0), (.int .i64 0)] []), none, 0⟩, ⟨1, (some 19), (.mov (.tmp 7)), none, 0⟩, ⟨2, none, (.store 2 (.tmp 4) (.tmp 18)), none, 0⟩, ⟨3, (some 5), (.mov (.tmp 19)), none, 0⟩]) .ret) .skip)) (.seq (.ops [⟨0, (some 20), (.load (some 8) (.tmp 2)), none, 0⟩, ⟨1, (some 21), (.mov (.tmp 6)), none, 0⟩, ⟨2, (some 22), (.mov (.tmp 1)), none, 0⟩, ⟨3, (some 23), (.call (.val (.fn (Fn.func 50) [] [])) [(.tmp 20), (.tmp 21), (.tmp 22)]), none, 0⟩, ⟨4, none, (.store 2 (.tmp 4) (.tmp 23)), none, 0⟩, ⟨5, (some 5), (.mov (.val (.int .i64 0))), none, 0⟩]) .ret))))⟩
def af17 : AFunc := ⟨27, [(.cell 2 (some 2)), (.tmp 3)], (.seq (.ops [⟨0, (some 1), (.box (.tmp 0)), none, 0⟩, ⟨1, (some 2), (.alloc [(.int .i64 0), (.int .i64 0)]), none, 0⟩, ⟨2, (some 3), (.mov (.val (.int .i64 0))), none, 0⟩]) (.seq (.ops [⟨0, (some 7), (.load (some 8) (.tmp 1)), none, 0⟩, ⟨1, (some 8), (.call (.val (.fn (Fn.func 48) [] [])) [(.tmp 7), (.val (.bool true))]), none, 0⟩, ⟨2, (some 6), (.mov (.tmp 8)), none, 0⟩, ⟨3, (some 9), (.extract (.tmp 6) 0), none, 0⟩, ⟨4, (some 10), (.extract (.tmp 6) 1), none, 0⟩, ⟨5, (some 4), (.mov (.tmp 9)), none, 0⟩, ⟨6, (some 5), (.mov (.tmp 10)), none, 0⟩]) (.seq (.seq (.ops [⟨0, (some 11), (.mov (.tmp 5)), none, 0⟩, ⟨1, (some 12), (.bin .neq (.tmp 11) (.val (.int .i64 0))), none, 0⟩]) (.cond (.tmp 12) (.seq (.ops [⟨0, (some 13), (.build [(.int .i64 0), (.int .i64 0)] []), none, 0⟩, ⟨1, (some 14), (.mov (.tmp 5)), none, 0⟩, ⟨2, none, (.store 2 (.tmp 2) (.tmp 13)), none, 0⟩, ⟨3, (some 3), (.mov (.tmp 14)), none, 0⟩]) .ret) .skip)) (.seq (.draw [⟨0, (some 15), (.mov (.tmp 4)), none, 0⟩, ⟨1, (some 16), (.indexA 2 none (.tmp 15) (.val (.int .i64 0))), none, 1⟩, ⟨2, (some 17), (.fieldA 0 (.tmp 16)), none, 3⟩, ⟨3, (some 18), (.load none (.tmp 17)), none, 7⟩, ⟨4, (some 19), (.mov (.tmp 4)), none, 0⟩, ⟨5, (some 20), (.mov (.tmp 4)), none, 0⟩, ⟨6, (some 21), (.len (.tmp 20)), none, 32⟩, ⟨7, (some 22), (.bin .sub (.tmp 21) (.val (.int .i64 1))), none, 96⟩, ⟨8, (some 23), (.indexA 2 none (.tmp 19) (.tmp 22)), none, 240⟩, ⟨9, (some 24), (.fieldA 0 (.tmp 23)), none, 496⟩, ⟨10, (some 25), (.load none (.tmp 24)), none, 1008⟩, ⟨11, (some 26), (.build [(.int .i64 0), (.int .i64 0)] [(0, (1, (.tmp 18))), (1, (1, (.tmp 25)))]), none, 2047⟩, ⟨12, none, (.store 2 (.tmp 2) (.tmp 26)), none, 4095⟩, ⟨13, (some 3), (.mov (.val (.int .i64 0))), none, 8191⟩]) .ret))))⟩
def af19 : AFunc := ⟨40, [(.tmp 8), (.tmp 9)], (.seq (.ops [⟨0, (some 4), (.box (.tmp 0)), none, 0⟩, ⟨1, (some 8), (.mov (.val (.int .i64 0))), none, 0⟩, ⟨2, (some 9), (.mov (.val (.int .i64 0))), none, 0⟩]) (.seq (.draw [⟨0, (some 13), (.load (some 8) (.tmp 4)), none, 0⟩, ⟨1, (some 14), (.load (some 8) (.tmp 4)), none, 0⟩, ⟨2, (some 15), (.mov (.tmp 1)), none, 0⟩, ⟨3, (some 16), (.mov (.tmp 2)), none, 0⟩, ⟨4, (some 17), (.call (.val (.fn (Fn.func 60) [] [])) [(.tmp 14), (.tmp 15), (.tmp 16)]), none, 14⟩, ⟨5, (some 18), (.mov (.tmp 17)), none, 30⟩, ⟨6, (some 19), (.load (some 8) (.tmp 4)), (some (18, true)), 62⟩, ⟨7, (some 20), (.mov (.tmp 3)), (some (18, true)), 62⟩, ⟨8, (some 21), (.call (.val (.fn (Fn.func 49) [] [])) [(.tmp 19), (.tmp 20)]), (some (18, true)), 254⟩, ⟨9, (some 22), (.pick (.tmp 18) (.tmp 21) (.val (.bool false))), none, 510⟩, ⟨10, (some 23), (.call (.val (.fn (Fn.func 48) [] [])) [(.tmp 13), (.tmp 22)]), none, 1023⟩, ⟨11, (some 12), (.mov (.tmp 23)), none, 2047⟩, ⟨12, (some 24), (.extract (.tmp 12) 0), none, 4095⟩, ⟨13, (some 25), (.extract (.tmp 12) 1), none, 4095⟩, ⟨14, (some 10), (.mov (.tmp 24)), none, 8191⟩, ⟨15, (some 11), (.mov (.tmp 25)), none, 32767⟩]) (.seq (.seq (.ops [⟨0, (some 26), (.mov (.tmp 11)), none, 0⟩, ⟨1, (some 27), (.bin .neq (.tmp 26) (.val (.int .i64 0))), none, 0⟩]) (.cond (.tmp 27) (.seq (.ops [⟨0, (some 28), (.mov (.tmp 11)), none, 0⟩, ⟨1, (some 8), (.mov (.val (.int .i64 0))), none, 0⟩, ⟨2, (some 9), (.mov (.tmp 28)), none, 0⟩]) .ret) .skip)) (.seq (.draw [⟨0, (some 29), (.fieldA 6 (.tmp 4)), none, 0⟩, ⟨1, (some 30), (.load none (.tmp 29)), none, 1⟩, ⟨2, (some 31), (.mov (.tmp 1)), none, 0⟩, ⟨3, (some 32), (.indexA 4 none (.tmp 30) (.tmp 31)), none, 7⟩, ⟨4, (some 33), (.load (some 4) (.tmp 32)), none, 15⟩, ⟨5, (some 34), (.mov (.tmp 2)), none, 0⟩, ⟨6, (some 35), (.load (some 8) (.tmp 4)), none, 0⟩, ⟨7, (some 36), (.mov (.tmp 10)), none, 0⟩, ⟨8, (some 37), (.mov (.tmp 3)), none, 0⟩, ⟨9, (some 38), (.call (.val (.fn (Fn.func 50) [] [])) [(.tmp 35), (.tmp 36), (.tmp 37)]), none, 448⟩, ⟨10, (some 39), (.call (.val (.fn (Fn.func 61) [] [])) [(.tmp 33), (.tmp 34), (.tmp 38)]), none, 1023⟩, ⟨11, (some 8), (.mov (.tmp 39)), none, 2047⟩, ⟨12, (some 9), (.mov (.val (.int .i64 0))), none, 4095⟩]) .ret))))⟩
def af21 : AFunc := ⟨46, [(.tmp 6), (.tmp 7), (.tmp 8)], (.seq (.ops [⟨0, (some 3), (.box (.tmp 0)), none, 0⟩, ⟨1, (some 6), (.mov (.val (.int .i64 0))), none, 0⟩, ⟨2, (some 7), (.mov (.val (.int .i64 0))), none, 0⟩, ⟨3, (some 8), (.mov (.val (.int .i64 0))), none, 0⟩]) (.seq (.draw [⟨0, (some 13), (.load (some 8) (.tmp 3)), none, 0⟩, ⟨1, (some 14), (.load (some 8) (.tmp 3)), none, 0⟩, ⟨2, (some 15), (.mov (.tmp 1)), none, 0⟩, ⟨3, (some 16), (.call (.val (.fn (Fn.func 65) [] [])) [(.tmp 14), (.tmp 15)]), none, 6⟩, ⟨4, (some 17), (.mov (.tmp 16)), none, 14⟩, ⟨5, (some 18), (.load (some 8) (.tmp 3)), (some (17, true)), 30⟩, ⟨6, (some 19), (.mov (.tmp 2)), (some (17, true)), 30⟩, ⟨7, (some 20), (.call (.val (.fn (Fn.func 49) [] [])) [(.tmp 18), (.tmp 19)]), (some (17, true)), 126⟩, ⟨8, (some 21), (.pick (.tmp 17) (.tmp 20) (.val (.bool false))), none, 254⟩, ⟨9, (some 22), (.call (.val (.fn (Fn.func 48) [] [])) [(.tmp 13), (.tmp 21)]), none, 511⟩, ⟨10, (some 12), (.mov (.tmp 22)), none, 1023⟩, ⟨11, (some 23), (.extract (.tmp 12) 0), none, 2047⟩, ⟨12, (some 24), (.extract (.tmp 12) 1), none, 2047⟩, ⟨13, (some 9), (.mov (.tmp 23)), none, 4095⟩, ⟨14, (some 10), (.mov (.tmp 24)), none, 16383⟩]) (.seq (.seq (.ops [⟨0, (some 25), (.mov (.tmp 10)), none, 0⟩, ⟨1, (some 26), (.bin .neq (.tmp 25) (.val (.int .i64 0))), none, 0⟩]) (.cond (.tmp 26) (.seq (.ops [⟨0, (some 27), (.mov (.tmp 10)), none, 0⟩, ⟨1, (some 6), (.mov (.val (.int .i64 0))), none, 0⟩, ⟨2, (some 7), (.mov (.val (.int .i64 0))), none, 0⟩, ⟨3, (some 8), (.mov (.tmp 27)), none, 0⟩]) .ret) .skip)) (.seq (.ops [⟨0, (some 28), (.load (some 8) (.tmp 3)), none, 0⟩, ⟨1, (some 29), (.mov (.tmp 9)), none, 0⟩, ⟨2, (some 30), (.mov (.tmp 2)), none, 0⟩, ⟨3, (some 31), (.call (.val (.fn (Fn.func 50) [] [])) [(.tmp 28), (.tmp 29), (.tmp 30)]), none, 0⟩, ⟨4, (some 11), (.alloc [(.int .i64 0), (.int .i64 0)]), none, 0⟩, ⟨5, none, (.store 2 (.tmp 11) (.tmp 31)), none, 0⟩]) (.seq (.draw [⟨0, (some 32), (.fieldA 6 (.tmp 3)), none, 0⟩, ⟨1, (some 33), (.load none (.tmp 32)), none, 1⟩, ⟨2, (some 34), (.mov (.tmp 1)), none, 0⟩, ⟨3, (some 35), (.indexA 4 none (.tmp 33) (.tmp 34)), none, 7⟩, ⟨4, (some 36), (.load (some 4) (.tmp 35)), none, 15⟩, ⟨5, (some 37), (.load (some 2) (.tmp 11)), none, 0⟩, ⟨7, (some 39), (.fieldA 6 (.tmp 3)), none, 0⟩, ⟨8, (some 40), (.load none (.tmp 39)), none, 128⟩, ⟨9, (some 41), (.mov (.tmp 1)), none, 0⟩, ⟨10, (some 42), (.indexA 4 none (.tmp 40) (.tmp 41)), none, 896⟩, ⟨11, (some 43), (.load (some 4) (.tmp 42)), none, 1920⟩, ⟨12, (some 44), (.load (some 2) (.tmp 11)), none, 0⟩, ⟨6, (some 38), (.call (.val (.fn (Fn.func 66) [] [])) [(.tmp 36), (.tmp 37), (.val (.int .i64 2))]), none, 63⟩, ⟨13, (some 45), (.call (.val (.fn (Fn.func 66) [] [])) [(.tmp 43), (.tmp 44), (.val (.int .i64 1))]), none, 8191⟩, ⟨14, (some 6), (.mov (.tmp 38)), none, 16383⟩, ⟨15, (some 7), (.mov (.tmp 45)), none, 32767⟩, ⟨16, (some 8), (.mov (.val (.int .i64 0))), none, 65535⟩]) .ret)))))⟩
def af23 : AFunc := ⟨59, [(.tmp 6), (.tmp 7), (.tmp 8)], (.seq (.ops [⟨0, (some 3), (.box (.tmp 0)), none, 0⟩, ⟨1, (some 6), (.mov (.val (.int .i64 0))), none, 0⟩, ⟨2, (some 7), (.mov (.val (.int .i64 0))), none, 0⟩, ⟨3, (some 8), (.mov (.val (.int .i64 0))), none, 0⟩]) (.seq (.draw [⟨0, (some 16), (.load (some 8) (.tmp 3)), none, 0⟩, ⟨1, (some 17), (.load (some 8) (.tmp 3)), none, 0⟩, ⟨2, (some 18), (.mov (.tmp 1)), none, 0⟩, ⟨3, (some 19), (.mov (.tmp 2)), none, 0⟩, ⟨4, (some 20), (.call (.val (.fn (Fn.func 60) [] [])) [(.tmp 17), (.tmp 18), (.tmp 19)]), none, 14⟩, ⟨5, (some 21), (.call (.val (.fn (Fn.func 48) [] [])) [(.tmp 16), (.tmp 20)]), none, 31⟩, ⟨6, (some 15), (.mov (.tmp 21)), none, 63⟩, ⟨7, (some 22), (.extract (.tmp 15) 0), none, 127⟩, ⟨8, (some 23), (.extract (.tmp 15) 1), none, 127⟩, ⟨9, (some 9), (.mov (.tmp 22)), none, 255⟩, ⟨10, (some 10), (.mov (.tmp 23)), none, 1023⟩]) (.seq (.seq (.ops [⟨0, (some 24), (.mov (.tmp 10)), none, 0⟩, ⟨1, (some 25), (.bin .neq (.tmp 24) (.val (.int .i64 0))), none, 0⟩]) (.cond (.tmp 25) (.seq (.ops [⟨0, (some 26), (.mov (.tmp 10)), none, 0⟩, ⟨1, (some 6), (.mov (.val (.int .i64 0))), none, 0⟩, ⟨2, (some 7), (.mov (.val (.int .i64 0))), none, 0⟩, ⟨3, (some 8), (.mov (.tmp 26)), none, 0⟩]) .ret) .skip)) (.seq (.ops [⟨0, (some 11), (.mov (.val (.int .i64 0))), none, 0⟩, ⟨1, (some 12), (.mov (.val (.int .i64 0))), none, 0⟩]) (.seq (.seq (.ops [⟨0, (some 13), (.mov (.val (.int .i64 0))), none, 0⟩]) (.block 0 (.loop [1, 2, 3, 9, 11, 12, 13] (.seq (.seq (.ops [⟨0, (some 27), (.mov (.tmp 13)), none, 0⟩, ⟨1, (some 28), (.fieldA 4 (.tmp 3)), none, 0⟩, ⟨2, (some 29), (.load none (.tmp 28)), none, 0⟩, ⟨3, (some 30), (.len (.tmp 29)), none, 0⟩, ⟨4, (some 31), (.bin .leq (.tmp 27) (.tmp 30)), none, 0⟩]) (.cond (.tmp 31) .skip (.exit 0))) (.seq (.block 1 (.seq (.draw [⟨0, (some 34), (.fieldA 6 (.tmp 3)), none, 0⟩, ⟨1, (some 35), (.load none (.tmp 34)), none, 1⟩, ⟨2, (some 36), (.mov (.tmp 1)), none, 0⟩, ⟨3, (some 37), (.indexA 4 none (.tmp 35) (.tmp 36)), none, 7⟩, ⟨4, (some 38), (.load (some 4) (.tmp 37)), none, 15⟩, ⟨5, (some 39), (.mov (.tmp 2)), none, 0⟩, ⟨6, (some 40), (.load (some 8) (.tmp 3)), none, 0⟩, ⟨7, (some 41), (.mov (.tmp 9)), none, 0⟩, ⟨8, (some 42), (.mov (.tmp 13)), none, 0⟩, ⟨9, (some 43), (.call (.val (.fn (Fn.func 50) [] [])) [(.tmp 40), (.tmp 41), (.tmp 42)]), none, 448⟩, ⟨10, (some 44), (.call (.val (.fn (Fn.func 61) [] [])) [(.tmp 38), (.tmp 39), (.tmp 43)]), none, 1023⟩, ⟨11, (some 14), (.mov (.tmp 44)), none, 2047⟩]) (.seq (.seq (.ops [⟨0, (some 45), (.mov (.tmp 14)), none, 0⟩, ⟨1, (some 46), (.bin .eql (.tmp 45) (.val (.int .i64 2))), none, 0⟩]) (.cond (.tmp 46) (.ops [⟨0, (some 47), (.mov (.tmp 11)), none, 0⟩, ⟨1, (some 48), (.mov (.tmp 13)), none, 0⟩, ⟨2, (some 49), (.call (.val (.fn (Fn.func 68) [] [])) [(.tmp 48)]), none, 0⟩, ⟨3, (some 50), (.bin .add (.tmp 47) (.tmp 49)), none, 0⟩, ⟨4, (some 11), (.mov (.tmp 50)), none, 0⟩]) .skip)) (.seq (.ops [⟨0, (some 51), (.mov (.tmp 14)), none, 0⟩, ⟨1, (some 52), (.bin .neq (.tmp 51) (.val (.int .i64 0))), none, 0⟩]) (.cond (.tmp 52) (.ops [⟨0, (some 53), (.mov (.tmp 12)), none, 0⟩, ⟨1, (some 54), (.mov (.tmp 13)), none, 0⟩, ⟨2, (some 55), (.call (.val (.fn (Fn.func 68) [] [])) [(.tmp 54)]), none, 0⟩, ⟨3, (some 56), (.bin .add (.tmp 53) (.tmp 55)), none, 0⟩, ⟨4, (some 12), (.mov (.tmp 56)), none, 0⟩]) .skip))))) (.ops [⟨0, (some 32), (.mov (.tmp 13)), none, 0⟩, ⟨1, (some 33), (.bin .add (.tmp 32) (.val (.int .i64 1))), none, 0⟩, ⟨2, (some 13), (.mov (.tmp 33)), none, 0⟩])))))) (.seq (.ops [⟨0, (some 57), (.mov (.tmp 11)), none, 0⟩, ⟨1, (some 58), (.mov (.tmp 12)), none, 0⟩, ⟨2, (some 6), (.mov (.tmp 57)), none, 0⟩, ⟨3, (some 7), (.mov (.tmp 58)), none, 0⟩, ⟨4, (some 8), (.mov (.val (.int .i64 0))), none, 0⟩]) .ret))))))⟩
def af25 : AFunc := ⟨51, [(.tmp 8), (.tmp 9)], (.seq (.ops [⟨0, (some 4), (.box (.tmp 0)), none, 0⟩, ⟨1, (some 8), (.mov (.val (.int .i64 0))), none, 0⟩, ⟨2, (some 9), (.mov (.val (.int .i64 0))), none, 0⟩]) (.seq (.draw [⟨0, (some 14), (.load (some 8) (.tmp 4)), none, 0⟩, ⟨1, (some 15), (.load (some 8) (.tmp 4)), none, 0⟩, ⟨2, (some 16), (.mov (.tmp 1)), none, 0⟩, ⟨3, (some 17), (.mov (.tmp 2)), none, 0⟩, ⟨4, (some 18), (.call (.val (.fn (Fn.func 60) [] [])) [(.tmp 15), (.tmp 16), (.tmp 17)]), none, 14⟩, ⟨5, (some 19), (.mov (.tmp 18)), none, 30⟩, ⟨6, (some 20), (.load (some 8) (.tmp 4)), (some (19, true)), 62⟩, ⟨7, (some 21), (.mov (.tmp 3)), (some (19, true)), 62⟩, ⟨8, (some 22), (.call (.val (.fn (Fn.func 49) [] [])) [(.tmp 20), (.tmp 21)]), (some (19, true)), 254⟩, ⟨9, (some 23), (.pick (.tmp 19) (.tmp 22) (.val (.bool false))), none, 510⟩, ⟨10, (some 24), (.call (.val (.fn (Fn.func 48) [] [])) [(.tmp 14), (.tmp 23)]), none, 1023⟩, ⟨11, (some 13), (.mov (.tmp 24)), none, 2047⟩, ⟨12, (some 25), (.extract (.tmp 13) 0), none, 4095⟩, ⟨13, (some 26), (.extract (.tmp 13) 1), none, 4095⟩, ⟨14, (some 10), (.mov (.tmp 25)), none, 8191⟩, ⟨15, (some 11), (.mov (.tmp 26)), none, 32767⟩]) (.seq (.seq (.ops [⟨0, (some 27), (.mov (.tmp 11)), none, 0⟩, ⟨1, (some 28), (.bin .neq (.tmp 27) (.val (.int .i64 0))), none, 0⟩]) (.cond (.tmp 28) (.seq (.ops [⟨0, (some 29), (.mov (.tmp 11)), none, 0⟩, ⟨1, (some 8), (.mov (.val (.int .i64 0))), none, 0⟩, ⟨2, (some 9), (.mov (.tmp 29)), none, 0⟩]) .ret) .skip)) (.seq (.seq (.ops [⟨0, (some 30), (.mov (.tmp 3)), none, 0⟩, ⟨1, (some 12), (.mov (.tmp 30)), none, 0⟩]) (.block 0 (.loop [1, 2, 4, 10, 12] (.seq (.seq (.ops [⟨0, (some 31), (.mov (.tmp 12)), none, 0⟩, ⟨1, (some 32), (.fieldA 4 (.tmp 4)), none, 0⟩, ⟨2, (some 33), (.load none (.tmp 32)), none, 0⟩, ⟨3, (some 34), (.len (.tmp 33)), none, 0⟩, ⟨4, (some 35), (.bin .leq (.tmp 31) (.tmp 34)), none, 0⟩]) (.cond (.tmp 35) .skip (.exit 0))) (.seq (.block 1 (.seq (.draw [⟨0, (some 38), (.fieldA 6 (.tmp 4)), none, 0⟩, ⟨1, (some 39), (.load none (.tmp 38)), none, 1⟩, ⟨2, (some 40), (.mov (.tmp 1)), none, 0⟩, ⟨3, (some 41), (.indexA 4 none (.tmp 39) (.tmp 40)), none, 7⟩, ⟨4, (some 42), (.load (some 4) (.tmp 41)), none, 15⟩, ⟨5, (some 43), (.mov (.tmp 2)), none, 0⟩, ⟨6, (some 44), (.load (some 8) (.tmp 4)), none, 0⟩, ⟨7, (some 45), (.mov (.tmp 10)), none, 0⟩, ⟨8, (some 46), (.mov (.tmp 12)), none, 0⟩, ⟨9, (some 47), (.call (.val (.fn (Fn.func 50) [] [])) [(.tmp 44), (.tmp 45), (.tmp 46)]), none, 448⟩, ⟨10, (some 48), (.call (.val (.fn (Fn.func 61) [] [])) [(.tmp 42), (.tmp 43), (.tmp 47)]), none, 1023⟩, ⟨11, (some 49), (.bin .eql (.tmp 48) (.val (.int .i64 2))), none, 2047⟩]) (.cond (.tmp 49) (.seq (.ops [⟨0, (some 50), (.mov (.tmp 12)), none, 0⟩, ⟨1, (some 8), (.mov (.tmp 50)), none, 0⟩, ⟨2, (some 9), (.mov (.val (.int .i64 0))), none, 0⟩]) .ret) .skip))) (.ops [⟨0, (some 36), (.mov (.tmp 12)), none, 0⟩, ⟨1, (some 37), (.bin .add (.tmp 36) (.val (.int .i64 1))), none, 0⟩, ⟨2, (some 12), (.mov (.tmp 37)), none, 0⟩])))))) (.seq (.ops [⟨0, (some 8), (.mov (.val (.int .i64 0))), none, 0⟩, ⟨1, (some 9), (.mov (.val (.int .i64 4))), none, 0⟩]) .ret)))))⟩
def af27 : AFunc := ⟨42, [(.tmp 4), (.tmp 5)], (.seq (.ops [⟨0, (some 2), (.box (.tmp 0)), none, 0⟩, ⟨1, (some 4), (.mov (.val (.int .i64 0))), none, 0⟩, ⟨2, (some 5), (.mov (.val (.int .i64 0))), none, 0⟩]) (.seq (.draw [⟨0, (some 11), (.load (some 8) (.tmp 2)), none, 0⟩, ⟨1, (some 12), (.load (some 8) (.tmp 2)), none, 0⟩, ⟨2, (some 13), (.mov (.tmp 1)), none, 0⟩, ⟨3, (some 14), (.call (.val (.fn (Fn.func 49) [] [])) [(.tmp 12), (.tmp 13)]), none, 6⟩, ⟨4, (some 15), (.call (.val (.fn (Fn.func 48) [] [])) [(.tmp 11), (.tmp 14)]), none, 15⟩, ⟨5, (some 10), (.mov (.tmp 15)), none, 31⟩, ⟨6, (some 16), (.extract (.tmp 10) 0), none, 63⟩, ⟨7, (some 17), (.extract (.tmp 10) 1), none, 63⟩, ⟨8, (some 6), (.mov (.tmp 16)), none, 127⟩, ⟨9, (some 7), (.mov (.tmp 17)), none, 511⟩]) (.seq (.seq (.ops [⟨0, (some 18), (.mov (.tmp 7)), none, 0⟩, ⟨1, (some 19), (.bin .neq (.tmp 18) (.val (.int .i64 0))), none, 0⟩]) (.cond (.tmp 19) (.seq (.ops [⟨0, (some 20), (.mov (.tmp 7)), none, 0⟩, ⟨1, (some 4), (.mov (.val (.int .i64 0))), none, 0⟩, ⟨2, (some 5), (.mov (.tmp 20)), none, 0⟩]) .ret) .skip)) (.seq (.ops [⟨0, (some 8), (.mov (.val (.int .i64 0))), none, 0⟩]) (.seq (.seq (.ops [⟨0, (some 9), (.mov (.val (.int .i64 0))), none, 0⟩]) (.block 0 (.loop [1, 2, 6, 8, 9] (.seq (.seq (.ops [⟨0, (some 21), (.mov (.tmp 9)), none, 0⟩, ⟨1, (some 22), (.fieldA 6 (.tmp 2)), none, 0⟩, ⟨2, (some 23), (.load none (.tmp 22)), none, 0⟩, ⟨3, (some 24), (.len (.tmp 23)), none, 0⟩, ⟨4, (some 25), (.bin .lss (.tmp 21) (.tmp 24)), none, 0⟩]) (.cond (.tmp 25) .skip (.exit 0))) (.seq (.block 1 (.draw [⟨0, (some 28), (.mov (.tmp 8)), none, 0⟩, ⟨1, (some 29), (.fieldA 6 (.tmp 2)), none, 0⟩, ⟨2, (some 30), (.load none (.tmp 29)), none, 2⟩, ⟨3, (some 31), (.mov (.tmp 9)), none, 0⟩, ⟨4, (some 32), (.indexA 4 none (.tmp 30) (.tmp 31)), none, 14⟩, ⟨5, (some 33), (.load (some 4) (.tmp 32)), none, 30⟩, ⟨6, (some 34), (.load (some 8) (.tmp 2)), none, 0⟩, ⟨7, (some 35), (.mov (.tmp 6)), none, 0⟩, ⟨8, (some 36), (.mov (.tmp 1)), none, 0⟩, ⟨9, (some 37), (.call (.val (.fn (Fn.func 50) [] [])) [(.tmp 34), (.tmp 35), (.tmp 36)]), none, 448⟩, ⟨10, (some 38), (.call (.val (.fn (Fn.func 66) [] [])) [(.tmp 33), (.tmp 37), (.val (.int .i64 2))]), none, 1022⟩, ⟨11, (some 39), (.max [(.val (.int .i64 0)), (.tmp 38)]), none, 2046⟩, ⟨12, (some 40), (.bin .add (.tmp 28) (.tmp 39)), none, 4095⟩, ⟨13, (some 8), (.mov (.tmp 40)), none, 8191⟩])) (.ops [⟨0, (some 26), (.mov (.tmp 9)), none, 0⟩, ⟨1, (some 27), (.bin .add (.tmp 26) (.val (.int .i64 1))), none, 0⟩, ⟨2, (some 9), (.mov (.tmp 27)), none, 0⟩])))))) (.seq (.ops [⟨0, (some 41), (.mov (.tmp 8)), none, 0⟩, ⟨1, (some 4), (.mov (.tmp 41)), none, 0⟩, ⟨2, (some 5), (.mov (.val (.int .i64 0))), none, 0⟩]) .ret))))))⟩
def af29 : AFunc := ⟨37, [(.tmp 2), (.tmp 3)], (.seq (.ops [⟨0, (some 1), (.box (.tmp 0)), none, 0⟩, ⟨1, (some 2), (.mov (.val (.int .i64 0))), none, 0⟩, ⟨2, (some 3), (.mov (.val (.int .i64 0))), none, 0⟩]) (.seq (.seq (.ops [⟨0, (some 6), (.load (some 8) (.tmp 1)), none, 0⟩, ⟨1, (some 7), (.call (.val (.fn (Fn.func 35) [] [])) [(.tmp 6)]), none, 0⟩, ⟨2, (some 8), (.not (.tmp 7)), none, 0⟩]) (.cond (.tmp 8) (.seq (.ops [⟨0, (some 2), (.mov (.val (.int .i64 0))), none, 0⟩, ⟨1, (some 3), (.mov (.val (.int .i64 1))), none, 0⟩]) .ret) .skip)) (.seq (.seq (.draw [⟨0, (some 9), (.load (some 8) (.tmp 1)), none, 0⟩, ⟨1, (some 10), (.load (some 8) (.tmp 1)), none, 0⟩, ⟨2, (some 11), (.call (.val (.fn (Fn.func 78) [] [])) [(.tmp 10)]), none, 2⟩, ⟨3, (some 12), (.call (.val (.fn (Fn.func 77) [] [])) [(.tmp 9), (.tmp 11)]), none, 7⟩, ⟨4, (some 13), (.len (.tmp 12)), none, 15⟩, ⟨5, (some 14), (.bin .gtr (.tmp 13) (.val (.int .i64 0))), none, 31⟩]) (.cond (.tmp 14) (.seq (.ops [⟨0, (some 2), (.mov (.val (.int .i64 0))), none, 0⟩, ⟨1, (some 3), (.mov (.val (.int .i64 4))), none, 0⟩]) .ret) .skip)) (.seq (.ops [⟨0, (some 15), (.load (some 8) (.tmp 1)), none, 0⟩, ⟨1, (some 16), (.call (.val (.fn (Fn.func 78) [] [])) [(.tmp 15)]), none, 0⟩, ⟨2, (some 4), (.mov (.tmp 16)), none, 0⟩]) (.seq (.seq (.ops [⟨0, (some 5), (.mov (.val (.int .i64 0))), none, 0⟩]) (.block 0 (.loop [1, 4, 5] (.seq (.seq (.ops [⟨0, (some 17), (.mov (.tmp 5)), none, 0⟩, ⟨1, (some 18), (.load (some 8) (.tmp 1)), none, 0⟩, ⟨2, (some 19), (.call (.val (.fn (Fn.func 78) [] [])) [(.tmp 18)]), none, 0⟩, ⟨3, (some 20), (.bin .leq (.tmp 17) (.tmp 19)), none, 0⟩]) (.cond (.tmp 20) .skip (.exit 0))) (.seq (.block 1 (.seq (.ops [⟨0, (some 23), (.mov (.tmp 5)), none, 0⟩, ⟨1, (some 24), (.call (.val (.fn (Fn.func 39) [] [])) [(.tmp 23)]), none, 0⟩, ⟨2, (some 25), (.mov (.tmp 4)), none, 0⟩, ⟨3, (some 26), (.call (.val (.fn (Fn.func 39) [] [])) [(.tmp 25)]), none, 0⟩, ⟨4, (some 27), (.bin .lss (.tmp 24) (.tmp 26)), none, 0⟩, ⟨5, (some 28), (.mov (.tmp 27)), none, 0⟩, ⟨6, (some 29), (.load (some 8) (.tmp 1)), (some (28, true)), 0⟩, ⟨7, (some 30), (.mov (.tmp 5)), (some (28, true)), 0⟩, ⟨8, (some 31), (.call (.val (.fn (Fn.func 77) [] [])) [(.tmp 29), (.tmp 30)]), (some (28, true)), 0⟩, ⟨9, (some 32), (.len (.tmp 31)), (some (28, true)), 0⟩, ⟨10, (some 33), (.bin .eql (.tmp 32) (.val (.int .i64 0))), (some (28, true)), 0⟩, ⟨11, (some 34), (.pick (.tmp 28) (.tmp 33) (.val (.bool false))), none, 0⟩]) (.cond (.tmp 34) (.ops [⟨0, (some 35), (.mov (.tmp 5)), none, 0⟩, ⟨1, (some 4), (.mov (.tmp 35)), none, 0⟩]) .skip))) (.ops [⟨0, (some 21), (.mov (.tmp 5)), none, 0⟩, ⟨1, (some 22), (.bin .add (.tmp 21) (.val (.int .i64 1))), none, 0⟩, ⟨2, (some 5), (.mov (.tmp 22)), none, 0⟩])))))) (.seq (.ops [⟨0, (some 36), (.mov (.tmp 4)), none, 0⟩, ⟨1, (some 2), (.mov (.tmp 36)), none, 0⟩, ⟨2, (some 3), (.mov (.val (.int .i64 0))), none, 0⟩]) .ret))))))⟩
def af39 : AFunc := ⟨13, [(.tmp 2)], (.seq (.ops [⟨0, (some 2), (.mov (.val (.int .i64 0))), none, 0⟩]) (.seq (.ops [⟨0, (some 3), (.mov (.val (.int .i64 0))), none, 0⟩]) (.seq (.block 0 (.loop [0, 3] (.seq (.seq (.ops [⟨0, (some 4), (.mov (.tmp 0)), none, 0⟩, ⟨1, (some 5), (.bin .gtr (.tmp 4) (.val (.int .i64 0))), none, 0⟩]) (.cond (.tmp 5) .skip (.exit 0))) (.block 1 (.ops [⟨0, (some 6), (.mov (.tmp 3)), none, 0⟩, ⟨1, (some 7), (.mov (.tmp 0)), none, 0⟩, ⟨2, (some 8), (.bin .rem (.tmp 7) (.val (.int .i64 2))), none, 0⟩, ⟨3, (some 9), (.bin .add (.tmp 6) (.tmp 8)), none, 0⟩, ⟨4, (some 10), (.mov (.tmp 0)), none, 0⟩, ⟨5, (some 11), (.bin .quo (.tmp 10) (.val (.int .i64 2))), none, 0⟩, ⟨6, (some 3), (.mov (.tmp 9)), none, 0⟩, ⟨7, (some 0), (.mov (.tmp 11)), none, 0⟩]))))) (.seq (.ops [⟨0, (some 12), (.mov (.tmp 3)), none, 0⟩, ⟨1, (some 2), (.mov (.tmp 12)), none, 0⟩]) .ret))))⟩
def af48 : AFunc := ⟨20, [(.tmp 4), (.tmp 5)], (.seq (.ops [⟨0, (some 2), (.box (.tmp 0)), none, 0⟩, ⟨1, (some 4), (.mov (.val .nils)), none, 0⟩, ⟨2, (some 5), (.mov (.val (.int .i64 0))), none, 0⟩]) (.seq (.seq (.ops [⟨0, (some 7), (.load (some 8) (.tmp 2)), none, 0⟩, ⟨1, (some 8), (.call (.val (.fn (Fn.func 35) [] [])) [(.tmp 7)]), none, 0⟩, ⟨2, (some 9), (.not (.tmp 8)), none, 0⟩]) (.cond (.tmp 9) (.seq (.ops [⟨0, (some 4), (.mov (.val .nils)), none, 0⟩, ⟨1, (some 5), (.mov (.val (.int .i64 1))), none, 0⟩]) .ret) .skip)) (.seq (.seq (.ops [⟨0, (some 10), (.mov (.tmp 1)), none, 0⟩, ⟨1, (some 11), (.not (.tmp 10)), none, 0⟩]) (.cond (.tmp 11) (.seq (.ops [⟨0, (some 4), (.mov (.val .nils)), none, 0⟩, ⟨1, (some 5), (.mov (.val (.int .i64 2))), none, 0⟩]) .ret) .skip)) (.seq (.draw [⟨0, (some 12), (.load (some 8) (.tmp 2)), none, 0⟩, ⟨1, (some 13), (.load (some 8) (.tmp 2)), none, 0⟩, ⟨2, (some 14), (.call (.val (.fn (Fn.func 78) [] [])) [(.tmp 13)]), none, 2⟩, ⟨3, (some 15), (.call (.val (.fn (Fn.func 77) [] [])) [(.tmp 12), (.tmp 14)]), none, 7⟩, ⟨4, (some 6), (.mov (.tmp 15)), none, 15⟩]) (.seq (.seq (.ops [⟨0, (some 16), (.mov (.tmp 6)), none, 0⟩, ⟨1, (some 17), (.len (.tmp 16)), none, 0⟩, ⟨2, (some 18), (.bin .eql (.tmp 17) (.val (.int .i64 0))), none, 0⟩]) (.cond (.tmp 18) (.seq (.ops [⟨0, (some 4), (.mov (.val .nils)), none, 0⟩, ⟨1, (some 5), (.mov (.val (.int .i64 10))), none, 0⟩]) .ret) .skip)) (.seq (.ops [⟨0, (some 19), (.mov (.tmp 6)), none, 0⟩, ⟨1, (some 4), (.mov (.tmp 19)), none, 0⟩, ⟨2, (some 5), (.mov (.val (.int .i64 0))), none, 0⟩]) .ret))))))⟩
def af49 : AFunc := ⟨10, [(.tmp 4)], (.seq (.ops [⟨0, (some 2), (.box (.tmp 0)), none, 0⟩, ⟨1, (some 4), (.mov (.val (.bool false))), none, 0⟩]) (.seq (.ops [⟨0, (some 5), (.mov (.tmp 1)), none, 0⟩, ⟨1, (some 6), (.fieldA 4 (.tmp 2)), none, 0⟩, ⟨2, (some 7), (.load none (.tmp 6)), none, 0⟩, ⟨3, (some 8), (.len (.tmp 7)), none, 0⟩, ⟨4, (some 9), (.call (.val (.fn (Fn.func 80) [] [])) [(.tmp 5), (.val (.int .i64 0)), (.tmp 8)]), none, 0⟩, ⟨5, (some 4), (.mov (.tmp 9)), none, 0⟩]) .ret))⟩
def af50 : AFunc := ⟨46, [(.cell 6 (some 2))], (.seq (.ops [⟨0, (some 3), (.box (.tmp 0)), none, 0⟩, ⟨1, (some 6), (.alloc [(.int .i64 0), (.int .i64 0)]), none, 0⟩]) (.seq (.ops [⟨0, (some 10), (.fieldA 5 (.tmp 3)), none, 0⟩, ⟨1, (some 11), (.load none (.tmp 10)), none, 0⟩, ⟨2, (some 12), (.build [(.int .i64 0), (.int .i64 0)] [(0, (1, (.tmp 11))), (1, (1, (.val (.int .i64 0))))]), none, 0⟩, ⟨3, (some 7), (.alloc [(.int .i64 0), (.int .i64 0)]), none, 0⟩, ⟨4, none, (.store 2 (.tmp 7) (.tmp 12)), none, 0⟩]) (.seq (.seq (.ops [⟨0, (some 8), (.mov (.val (.int .i64 0))), none, 0⟩]) (.block 0 (.loop [1, 2, 3, 6, 7, 8] (.seq (.seq (.ops [⟨0, (some 13), (.mov (.tmp 8)), none, 0⟩, ⟨1, (some 14), (.mov (.tmp 1)), none, 0⟩, ⟨2, (some 15), (.len (.tmp 14)), none, 0⟩, ⟨3, (some 16), (.bin .lss (.tmp 13) (.tmp 15)), none, 0⟩]) (.cond (.tmp 16) .skip (.exit 0))) (.seq (.block 1 (.seq (.ops [⟨0, (some 9), (.mov (.val (.int .i64 0))), none, 0⟩]) (.block 2 (.loop [1, 2, 3, 6, 7, 8, 9] (.seq (.seq (.ops [⟨0, (some 19), (.mov (.tmp 9)), none, 0⟩, ⟨1, (some 20), (.fieldA 5 (.tmp 3)), none, 0⟩, ⟨2, (some 21), (.load none (.tmp 20)), none, 0⟩, ⟨3, (some 22), (.bin .leq (.tmp 19) (.tmp 21)), none, 0⟩]) (.cond (.tmp 22) .skip (.exit 2))) (.seq (.block 3 (.seq (.ops [⟨0, (some 25), (.mov (.tmp 1)), none, 0⟩, ⟨1, (some 26), (.mov (.tmp 8)), none, 0⟩, ⟨2, (some 27), (.indexA 2 none (.tmp 25) (.tmp 26)), none, 0⟩, ⟨3, (some 28), (.fieldA 1 (.tmp 27)), none, 0⟩, ⟨4, (some 29), (.load none (.tmp 28)), none, 0⟩, ⟨5, (some 30), (.mov (.tmp 2)), none, 0⟩, ⟨6, (some 31), (.indexA 1 none (.tmp 29) (.tmp 30)), none, 0⟩, ⟨7, (some 32), (.load none (.tmp 31)), none, 0⟩, ⟨8, (some 33), (.mov (.tmp 9)), none, 0⟩, ⟨9, (some 34), (.indexA 1 none (.tmp 32) (.tmp 33)), none, 0⟩, ⟨10, (some 35), (.load none (.tmp 34)), none, 0⟩]) (.cond (.tmp 35) (.ops [⟨0, (some 36), (.fieldA 0 (.tmp 7)), none, 0⟩, ⟨1, (some 37), (.load none (.tmp 36)), none, 0⟩, ⟨2, (some 38), (.mov (.tmp 9)), none, 0⟩, ⟨3, (some 39), (.min [(.tmp 37), (.tmp 38)]), none, 0⟩, ⟨4, (some 40), (.fieldA 1 (.tmp 7)), none, 0⟩, ⟨5, (some 41), (.load none (.tmp 40)), none, 0⟩, ⟨6, (some 42), (.mov (.tmp 9)), none, 0⟩, ⟨7, (some 43), (.max [(.tmp 41), (.tmp 42)]), none, 0⟩, ⟨8, (some 44), (.build [(.int .i64 0), (.int .i64 0)] [(0, (1, (.tmp 39))), (1, (1, (.tmp 43)))]), none, 0⟩, ⟨9, none, (.store 2 (.tmp 7) (.tmp 44)), none, 0⟩]) .skip))) (.ops [⟨0, (some 23), (.mov (.tmp 9)), none, 0⟩, ⟨1, (some 24), (.bin .add (.tmp 23) (.val (.int .i64 1))), none, 0⟩, ⟨2, (some 9), (.mov (.tmp 24)), none, 0⟩]))))))) (.ops [⟨0, (some 17), (.mov (.tmp 8)), none, 0⟩, ⟨1, (some 18), (.bin .add (.tmp 17) (.val (.int .i64 1))), none, 0⟩, ⟨2, (some 8), (.mov (.tmp 18)), none, 0⟩])))))) (.seq (.ops [⟨0, (some 45), (.load (some 2) (.tmp 7)), none, 0⟩, ⟨1, none, (.store 2 (.tmp 6) (.tmp 45)), none, 0⟩]) .ret))))⟩
def af60 : AFunc := ⟨20, [(.tmp 6)], (.seq (.ops [⟨0, (some 3), (.box (.tmp 0)), none, 0⟩, ⟨1, (some 6), (.mov (.val (.bool false))), none, 0⟩]) (.seq (.ops [⟨0, (some 7), (.load (some 8) (.tmp 3)), none, 0⟩, ⟨1, (some 8), (.mov (.tmp 1)), none, 0⟩, ⟨2, (some 9), (.call (.val (.fn (Fn.func 65) [] [])) [(.tmp 7), (.tmp 8)]), none, 0⟩, ⟨3, (some 10), (.mov (.tmp 9)), none, 0⟩, ⟨4, (some 11), (.mov (.tmp 2)), (some (10, true)), 0⟩, ⟨5, (some 12), (.fieldA 6 (.tmp 3)), (some (10, true)), 0⟩, ⟨6, (some 13), (.load none (.tmp 12)), (some (10, true)), 0⟩, ⟨7, (some 14), (.mov (.tmp 1)), (some (10, true)), 0⟩, ⟨8, (some 15), (.indexA 4 none (.tmp 13) (.tmp 14)), (some (10, true)), 0⟩, ⟨9, (some 16), (.fieldA 3 (.tmp 15)), (some (10, true)), 0⟩, ⟨10, (some 17), (.load none (.tmp 16)), (some (10, true)), 0⟩, ⟨11, (some 18), (.call (.val (.fn (Fn.func 80) [] [])) [(.tmp 11), (.val (.int .i64 0)), (.tmp 17)]), (some (10, true)), 0⟩, ⟨12, (some 19), (.pick (.tmp 10) (.tmp 18) (.val (.bool false))), none, 0⟩, ⟨13, (some 6), (.mov (.tmp 19)), none, 0⟩]) .ret))⟩
def af61 : AFunc := ⟨29, [(.tmp 6)], (.seq (.ops [⟨0, (some 3), (.box (.tmp 0)), none, 0⟩, ⟨1, (some 5), (.box (.tmp 2)), none, 0⟩, ⟨2, (some 6), (.mov (.val (.int .i64 0))), none, 0⟩]) (.seq (.seq (.ops [⟨0, (some 7), (.fieldA 0 (.tmp 5)), none, 0⟩, ⟨1, (some 8), (.load none (.tmp 7)), none, 0⟩, ⟨2, (some 9), (.fieldA 0 (.tmp 3)), none, 0⟩, ⟨3, (some 10), (.fieldA 1 (.tmp 9)), none, 0⟩, ⟨4, (some 11), (.load none (.tmp 10)), none, 0⟩, ⟨5, (some 12), (.fieldA 2 (.tmp 3)), none, 0⟩, ⟨6, (some 13), (.load none (.tmp 12)), none, 0⟩, ⟨7, (some 14), (.mov (.tmp 1)), none, 0⟩, ⟨8, (some 15), (.bin .mul (.tmp 13) (.tmp 14)), none, 0⟩, ⟨9, (some 16), (.bin .add (.tmp 11) (.tmp 15)), none, 0⟩, ⟨10, (some 17), (.bin .geq (.tmp 8) (.tmp 16)), none, 0⟩]) (.cond (.tmp 17) (.seq (.ops [⟨0, (some 6), (.mov (.val (.int .i64 2))), none, 0⟩]) .ret) .skip)) (.seq (.seq (.ops [⟨0, (some 18), (.fieldA 1 (.tmp 5)), none, 0⟩, ⟨1, (some 19), (.load none (.tmp 18)), none, 0⟩, ⟨2, (some 20), (.fieldA 0 (.tmp 3)), none, 0⟩, ⟨3, (some 21), (.fieldA 0 (.tmp 20)), none, 0⟩, ⟨4, (some 22), (.load none (.tmp 21)), none, 0⟩, ⟨5, (some 23), (.fieldA 2 (.tmp 3)), none, 0⟩, ⟨6, (some 24), (.load none (.tmp 23)), none, 0⟩, ⟨7, (some 25), (.mov (.tmp 1)), none, 0⟩, ⟨8, (some 26), (.bin .mul (.tmp 24) (.tmp 25)), none, 0⟩, ⟨9, (some 27), (.bin .add (.tmp 22) (.tmp 26)), none, 0⟩, ⟨10, (some 28), (.bin .lss (.tmp 19) (.tmp 27)), none, 0⟩]) (.cond (.tmp 28) (.seq (.ops [⟨0, (some 6), (.mov (.val (.int .i64 0))), none, 0⟩]) .ret) .skip)) (.seq (.ops [⟨0, (some 6), (.mov (.val (.int .i64 1))), none, 0⟩]) .ret))))⟩
def af65 : AFunc := ⟨11, [(.tmp 4)], (.seq (.ops [⟨0, (some 2), (.box (.tmp 0)), none, 0⟩, ⟨1, (some 4), (.mov (.val (.bool false))), none, 0⟩]) (.seq (.ops [⟨0, (some 5), (.mov (.tmp 1)), none, 0⟩, ⟨1, (some 6), (.fieldA 6 (.tmp 2)), none, 0⟩, ⟨2, (some 7), (.load none (.tmp 6)), none, 0⟩, ⟨3, (some 8), (.len (.tmp 7)), none, 0⟩, ⟨4, (some 9), (.bin .sub (.tmp 8) (.val (.int .i64 1))), none, 0⟩, ⟨5, (some 10), (.call (.val (.fn (Fn.func 80) [] [])) [(.tmp 5), (.val (.int .i64 0)), (.tmp 9)]), none, 0⟩, ⟨6, (some 4), (.mov (.tmp 10)), none, 0⟩]) .ret))⟩
def af66 : AFunc := ⟨23, [(.tmp 6)], (.seq (.ops [⟨0, (some 3), (.box (.tmp 0)), none, 0⟩, ⟨1, (some 4), (.box (.tmp 1)), none, 0⟩, ⟨2, (some 6), (.mov (.val (.int .i64 0))), none, 0⟩]) (.seq (.ops [⟨0, (some 7), (.mov (.val (.int .i64 (-1)))), none, 0⟩]) (.seq (.seq (.ops [⟨0, (some 8), (.mov (.val (.int .i64 0))), none, 0⟩]) (.block 0 (.loop [2, 3, 4, 7, 8] (.seq (.seq (.ops [⟨0, (some 9), (.mov (.tmp 8)), none, 0⟩, ⟨1, (some 10), (.fieldA 3 (.tmp 3)), none, 0⟩, ⟨2, (some 11), (.load none (.tmp 10)), none, 0⟩, ⟨3, (some 12), (.bin .leq (.tmp 9) (.tmp 11)), none, 0⟩]) (.cond (.tmp 12) .skip (.exit 0))) (.seq (.block 1 (.seq (.ops [⟨0, (some 15), (.load (some 4) (.tmp 3)), none, 0⟩, ⟨1, (some 16), (.mov (.tmp 8)), none, 0⟩, ⟨2, (some 17), (.load (some 2) (.tmp 4)), none, 0⟩, ⟨3, (some 18), (.call (.val (.fn (Fn.func 61) [] [])) [(.tmp 15), (.tmp 16), (.tmp 17)]), none, 0⟩, ⟨4, (some 19), (.mov (.tmp 2)), none, 0⟩, ⟨5, (some 20), (.bin .geq (.tmp 18) (.tmp 19)), none, 0⟩]) (.cond (.tmp 20) (.ops [⟨0, (some 21), (.mov (.tmp 8)), none, 0⟩, ⟨1, (some 7), (.mov (.tmp 21)), none, 0⟩]) .skip))) (.ops [⟨0, (some 13), (.mov (.tmp 8)), none, 0⟩, ⟨1, (some 14), (.bin .add (.tmp 13) (.val (.int .i64 1))), none, 0⟩, ⟨2, (some 8), (.mov (.tmp 14)), none, 0⟩])))))) (.seq (.ops [⟨0, (some 22), (.mov (.tmp 7)), none, 0⟩, ⟨1, (some 6), (.mov (.tmp 22)), none, 0⟩]) .ret))))⟩
def af68 : AFunc := ⟨13, [(.tmp 2)], (.seq (.ops [⟨0, (some 2), (.mov (.val (.int .i64 0))), none, 0⟩]) (.seq (.ops [⟨0, (some 3), (.mov (.val (.int .i64 1))), none, 0⟩]) (.seq (.seq (.ops [⟨0, (some 4), (.mov (.val (.int .i64 0))), none, 0⟩]) (.block 0 (.loop [0, 3, 4] (.seq (.seq (.ops [⟨0, (some 5), (.mov (.tmp 4)), none, 0⟩, ⟨1, (some 6), (.mov (.tmp 0)), none, 0⟩, ⟨2, (some 7), (.bin .lss (.tmp 5) (.tmp 6)), none, 0⟩]) (.cond (.tmp 7) .skip (.exit 0))) (.seq (.block 1 (.ops [⟨0, (some 10), (.mov (.tmp 3)), none, 0⟩, ⟨1, (some 11), (.bin .mul (.val (.int .i64 2)) (.tmp 10)), none, 0⟩, ⟨2, (some 3), (.mov (.tmp 11)), none, 0⟩])) (.ops [⟨0, (some 8), (.mov (.tmp 4)), none, 0⟩, ⟨1, (some 9), (.bin .add (.tmp 8) (.val (.int .i64 1))), none, 0⟩, ⟨2, (some 4), (.mov (.tmp 9)), none, 0⟩])))))) (.seq (.ops [⟨0, (some 12), (.mov (.tmp 3)), none, 0⟩, ⟨1, (some 2), (.mov (.tmp 12)), none, 0⟩]) .ret))))⟩
def af77 : AFunc := ⟨32, [(.tmp 4)], (.seq (.ops [⟨0, (some 2), (.box (.tmp 0)), none, 0⟩, ⟨1, (some 4), (.mov (.val .nils)), none, 0⟩]) (.seq (.ops [⟨0, (some 5), (.mov (.val .nils)), none, 0⟩]) (.seq (.seq (.ops [⟨0, (some 8), (.fieldA 2 (.tmp 2)), none, 0⟩, ⟨1, (some 9), (.fieldA 0 (.tmp 8)), none, 0⟩, ⟨2, (some 10), (.load none (.tmp 9)), none, 0⟩, ⟨3, (some 6), (.mov (.tmp 10)), none, 0⟩]) (.block 0 (.loop [1, 2, 5, 6] (.seq (.seq (.ops [⟨0, (some 11), (.mov (.tmp 6)), none, 0⟩, ⟨1, (some 12), (.fieldA 2 (.tmp 2)), none, 0⟩, ⟨2, (some 13), (.fieldA 1 (.tmp 12)), none, 0⟩, ⟨3, (some 14), (.load none (.tmp 13)), none, 0⟩, ⟨4, (some 15), (.bin .leq (.tmp 11) (.tmp 14)), none, 0⟩]) (.cond (.tmp 15) .skip (.exit 0))) (.seq (.block 1 (.seq (.ops [⟨0, (some 18), (.load (some 8) (.tmp 2)), none, 0⟩, ⟨1, (some 19), (.mov (.tmp 1)), none, 0⟩, ⟨2, (some 20), (.mov (.tmp 6)), none, 0⟩, ⟨3, (some 21), (.call (.val (.fn (Fn.func 95) [] [])) [(.tmp 18), (.tmp 19), (.tmp 20)]), none, 0⟩, ⟨4, (some 7), (.mov (.tmp 21)), none, 0⟩]) (.seq (.ops [⟨0, (some 22), (.mov (.tmp 7)), none, 0⟩, ⟨1, (some 23), (.len (.tmp 22)), none, 0⟩, ⟨2, (some 24), (.bin .gtr (.tmp 23) (.val (.int .i64 0))), none, 0⟩]) (.cond (.tmp 24) (.ops [⟨0, (some 25), (.mov (.tmp 5)), none, 0⟩, ⟨1, (some 26), (.mov (.tmp 6)), none, 0⟩, ⟨2, (some 27), (.mov (.tmp 7)), none, 0⟩, ⟨3, (some 28), (.build [(.int .i64 0), .nils] [(0, (1, (.tmp 26))), (1, (1, (.tmp 27)))]), none, 0⟩, ⟨4, (some 29), (.buildSl 2 1 [(.int .i64 0), .nils] [(0, (.tmp 28))]), none, 0⟩, ⟨5, (some 30), (.append 2 (.tmp 25) (.tmp 29)), none, 0⟩, ⟨6, (some 5), (.mov (.tmp 30)), none, 0⟩]) .skip)))) (.ops [⟨0, (some 16), (.mov (.tmp 6)), none, 0⟩, ⟨1, (some 17), (.bin .add (.tmp 16) (.val (.int .i64 1))), none, 0⟩, ⟨2, (some 6), (.mov (.tmp 17)), none, 0⟩])))))) (.seq (.ops [⟨0, (some 31), (.mov (.tmp 5)), none, 0⟩, ⟨1, (some 4), (.mov (.tmp 31)), none, 0⟩]) .ret))))⟩
def af78 : AFunc := ⟨8, [(.tmp 2)], (.seq (.ops [⟨0, (some 1), (.box (.tmp 0)), none, 0⟩, ⟨1, (some 2), (.mov (.val (.int .i64 0))), none, 0⟩]) (.seq (.ops [⟨0, (some 3), (.fieldA 7 (.tmp 1)), none, 0⟩, ⟨1, (some 4), (.load none (.tmp 3)), none, 0⟩, ⟨2, (some 5), (.len (.tmp 4)), none, 0⟩, ⟨3, (some 6), (.call (.val (.fn (Fn.func 68) [] [])) [(.tmp 5)]), none, 0⟩, ⟨4, (some 7), (.bin .sub (.tmp 6) (.val (.int .i64 1))), none, 0⟩, ⟨5, (some 2), (.mov (.tmp 7)), none, 0⟩]) .ret))⟩
def af80 : AFunc := ⟨15, [(.tmp 6)], (.seq (.ops [⟨0, (some 6), (.mov (.val (.bool false))), none, 0⟩]) (.seq (.ops [⟨0, (some 7), (.mov (.tmp 1)), none, 0⟩, ⟨1, (some 8), (.mov (.tmp 0)), none, 0⟩, ⟨2, (some 9), (.bin .leq (.tmp 7) (.tmp 8)), none, 0⟩, ⟨3, (some 10), (.mov (.tmp 9)), none, 0⟩, ⟨4, (some 11), (.mov (.tmp 0)), (some (10, true)), 0⟩, ⟨5, (some 12), (.mov (.tmp 2)), (some (10, true)), 0⟩, ⟨6, (some 13), (.bin .leq (.tmp 11) (.tmp 12)), (some (10, true)), 0⟩, ⟨7, (some 14), (.pick (.tmp 10) (.tmp 13) (.val (.bool false))), none, 0⟩, ⟨8, (some 6), (.mov (.tmp 14)), none, 0⟩]) .ret))⟩
def af95 : AFunc := ⟨162, [(.tmp 6)], (.seq (.ops [⟨0, (some 3), (.box (.tmp 0)), none, 0⟩, ⟨1, (some 6), (.mov (.val .nils)), none, 0⟩]) (.seq (.ops [⟨0, (some 7), (.mov (.val .nils)), none, 0⟩]) (.seq (.seq (.ops [⟨0, (some 8), (.mov (.val (.int .i64 0))), none, 0⟩]) (.block 0 (.loop [1, 2, 3, 7, 8] (.seq (.seq (.ops [⟨0, (some 18), (.mov (.tmp 8)), none, 0⟩, ⟨1, (some 19), (.fieldA 4 (.tmp 3)), none, 0⟩, ⟨2, (some 20), (.load none (.tmp 19)), none, 0⟩, ⟨3, (some 21), (.len (.tmp 20)), none, 0⟩, ⟨4, (some 22), (.bin .leq (.tmp 18) (.tmp 21)), none, 0⟩]) (.cond (.tmp 22) .skip (.exit 0))) (.seq (.block 1 (.seq (.ops [⟨0, (some 25), (.fieldA 5 (.tmp 3)), none, 0⟩, ⟨1, (some 26), (.load none (.tmp 25)), none, 0⟩, ⟨2, (some 27), (.bin .add (.tmp 26) (.val (.int .i64 1))), none, 0⟩, ⟨3, (some 28), (.mksl 1 [(.bool false)] (.tmp 27) (.tmp 27)), none, 0⟩, ⟨4, (some 9), (.mov (.tmp 28)), none, 0⟩]) (.seq (.seq (.ops [⟨0, (some 10), (.mov (.val (.int .i64 0))), none, 0⟩]) (.block 2 (.loop [1, 2, 3, 7, 8, 9, 10] (.seq (.seq (.ops [⟨0, (some 29), (.mov (.tmp 10)), none, 0⟩, ⟨1, (some 30), (.fieldA 5 (.tmp 3)), none, 0⟩, ⟨2, (some 31), (.load none (.tmp 30)), none, 0⟩, ⟨3, (some 32), (.bin .leq (.tmp 29) (.tmp 31)), none, 0⟩]) (.cond (.tmp 32) .skip (.exit 2))) (.seq (.block 3 (.seq (.ops [⟨0, (some 35), (.mov (.tmp 8)), none, 0⟩, ⟨1, (some 36), (.bin .eql (.tmp 35) (.val (.int .i64 0))), none, 0⟩, ⟨2, (some 37), (.mov (.tmp 36)), none, 0⟩, ⟨3, (some 38), (.mov (.tmp 10)), (some (37, true)), 0⟩, ⟨4, (some 39), (.fieldA 0 (.tmp 3)), (some (37, true)), 0⟩, ⟨5, (some 40), (.fieldA 0 (.tmp 39)), (some (37, true)), 0⟩, ⟨6, (some 41), (.load none (.tmp 40)), (some (37, true)), 0⟩, ⟨7, (some 42), (.fieldA 0 (.tmp 3)), (some (37, true)), 0⟩, ⟨8, (some 43), (.fieldA 1 (.tmp 42)), (some (37, true)), 0⟩, ⟨9, (some 44), (.load none (.tmp 43)), (some (37, true)), 0⟩, ⟨10, (some 45), (.call (.val (.fn (Fn.func 80) [] [])) [(.tmp 38), (.tmp 41), (.tmp 44)]), (some (37, true)), 0⟩, ⟨11, (some 46), (.pick (.tmp 37) (.tmp 45) (.val (.bool false))), none, 0⟩, ⟨12, (some 11), (.mov (.tmp 46)), none, 0⟩]) (.seq (.seq (.ops [⟨0, (some 12), (.mov (.val (.int .i64 0))), none, 0⟩]) (.block 4 (.loop [1, 2, 3, 7, 8, 9, 10, 11, 12] (.seq (.seq (.ops [⟨0, (some 47), (.mov (.tmp 12)), none, 0⟩, ⟨1, (some 48), (.fieldA 5 (.tmp 3)), none, 0⟩, ⟨2, (some 49), (.load none (.tmp 48)), none, 0⟩, ⟨3, (some 50), (.bin .leq (.tmp 47) (.tmp 49)), none, 0⟩, ⟨4, (some 51), (.mov (.tmp 50)), none, 0⟩, ⟨5, (some 52), (.mov (.tmp 8)), (some (51, true)), 0⟩, ⟨6, (some 53), (.bin .gtr (.tmp 52) (.val (.int .i64 0))), (some (51, true)), 0⟩, ⟨7, (some 54), (.pick (.tmp 51) (.tmp 53) (.val (.bool false))), none, 0⟩, ⟨8, (some 55), (.mov (.tmp 54)), none, 0⟩, ⟨9, (some 56), (.mov (.tmp 11)), (some (55, true)), 0⟩, ⟨10, (some 57), (.not (.tmp 56)), (some (55, true)), 0⟩, ⟨11, (some 58), (.pick (.tmp 55) (.tmp 57) (.val (.bool false))), none, 0⟩]) (.cond (.tmp 58) .skip (.exit 4))) (.seq (.block 5 (.ops [⟨0, (some 61), (.mov (.tmp 7)), none, 0⟩, ⟨1, (some 62), (.mov (.tmp 8)), none, 0⟩, ⟨2, (some 63), (.bin .sub (.tmp 62) (.val (.int .i64 1))), none, 0⟩, ⟨3, (some 64), (.indexA 1 none (.tmp 61) (.tmp 63)), none, 0⟩, ⟨4, (some 65), (.load none (.tmp 64)), none, 0⟩, ⟨5, (some 66), (.mov (.tmp 12)), none, 0⟩, ⟨6, (some 67), (.indexA 1 none (.tmp 65) (.tmp 66)), none, 0⟩, ⟨7, (some 68), (.load none (.tmp 67)), none, 0⟩, ⟨8, (some 69), (.mov (.tmp 68)), none, 0⟩, ⟨9, (some 70), (.load (some 8) (.tmp 3)), (some (69, true)), 0⟩, ⟨10, (some 71), (.mov (.tmp 8)), (some (69, true)), 0⟩, ⟨11, (some 72), (.bin .sub (.tmp 71) (.val (.int .i64 1))), (some (69, true)), 0⟩, ⟨12, (some 73), (.mov (.tmp 12)), (some (69, true)), 0⟩, ⟨13, (some 74), (.mov (.tmp 10)), (some (69, true)), 0⟩, ⟨14, (some 75), (.mov (.tmp 2)), (some (69, true)), 0⟩, ⟨15, (some 76), (.call (.val (.fn (Fn.func 99) [] [])) [(.tmp 70), (.tmp 72), (.tmp 73), (.tmp 74), (.tmp 75)]), (some (69, true)), 0⟩, ⟨16, (some 77), (.pick (.tmp 69) (.tmp 76) (.val (.bool false))), none, 0⟩, ⟨17, (some 11), (.mov (.tmp 77)), none, 0⟩])) (.ops [⟨0, (some 59), (.mov (.tmp 12)), none, 0⟩, ⟨1, (some 60), (.bin .add (.tmp 59) (.val (.int .i64 1))), none, 0⟩, ⟨2, (some 12), (.mov (.tmp 60)), none, 0⟩])))))) (.ops [⟨0, (some 78), (.mov (.tmp 9)), none, 0⟩, ⟨1, (some 79), (.mov (.tmp 10)), none, 0⟩, ⟨2, (some 80), (.mov (.tmp 11)), none, 0⟩, ⟨3, (some 81), (.mov (.tmp 80)), none, 0⟩, ⟨4, (some 82), (.load (some 8) (.tmp 3)), (some (81, true)), 0⟩, ⟨5, (some 83), (.mov (.tmp 1)), (some (81, true)), 0⟩, ⟨6, (some 84), (.mov (.tmp 8)), (some (81, true)), 0⟩, ⟨7, (some 85), (.mov (.tmp 10)), (some (81, true)), 0⟩, ⟨8, (some 86), (.call (.val (.fn (Fn.func 100) [] [])) [(.tmp 82), (.tmp 83), (.tmp 84), (.tmp 85)]), (some (81, true)), 0⟩, ⟨9, (some 87), (.pick (.tmp 81) (.tmp 86) (.val (.bool false))), none, 0⟩, ⟨10, (some 88), (.indexA 1 none (.tmp 78) (.tmp 79)), none, 0⟩, ⟨11, none, (.store 1 (.tmp 88) (.tmp 87)), none, 0⟩])))) (.ops [⟨0, (some 33), (.mov (.tmp 10)), none, 0⟩, ⟨1, (some 34), (.bin .add (.tmp 33) (.val (.int .i64 1))), none, 0⟩, ⟨2, (some 10), (.mov (.tmp 34)), none, 0⟩])))))) (.ops [⟨0, (some 89), (.mov (.tmp 7)), none, 0⟩, ⟨1, (some 90), (.mov (.tmp 9)), none, 0⟩, ⟨2, (some 91), (.buildSl 1 1 [.nils] [(0, (.tmp 90))]), none, 0⟩, ⟨3, (some 92), (.append 1 (.tmp 89) (.tmp 91)), none, 0⟩, ⟨4, (some 7), (.mov (.tmp 92)), none, 0⟩])))) (.ops [⟨0, (some 23), (.mov (.tmp 8)), none, 0⟩, ⟨1, (some 24), (.bin .add (.tmp 23) (.val (.int .i64 1))), none, 0⟩, ⟨2, (some 8), (.mov (.tmp 24)), none, 0⟩])))))) (.seq (.seq (.ops [⟨0, (some 93), (.fieldA 4 (.tmp 3)), none, 0⟩, ⟨1, (some 94), (.load none (.tmp 93)), none, 0⟩, ⟨2, (some 95), (.len (.tmp 94)), none, 0⟩, ⟨3, (some 96), (.bin .sub (.tmp 95) (.val (.int .i64 1))), none, 0⟩, ⟨4, (some 13), (.mov (.tmp 96)), none, 0⟩]) (.block 6 (.loop [2, 3, 7, 13] (.seq (.seq (.ops [⟨0, (some 97), (.mov (.tmp 13)), none, 0⟩, ⟨1, (some 98), (.bin .geq (.tmp 97) (.val (.int .i64 0))), none, 0⟩]) (.cond (.tmp 98) .skip (.exit 6))) (.seq (.block 7 (.seq (.ops [⟨0, (some 14), (.mov (.val (.int .i64 0))), none, 0⟩]) (.block 8 (.loop [2, 3, 7, 13, 14] (.seq (.seq (.ops [⟨0, (some 101), (.mov (.tmp 14)), none, 0⟩, ⟨1, (some 102), (.fieldA 5 (.tmp 3)), none, 0⟩, ⟨2, (some 103), (.load none (.tmp 102)), none, 0⟩, ⟨3, (some 104), (.bin .leq (.tmp 101) (.tmp 103)), none, 0⟩]) (.cond (.tmp 104) .skip (.exit 8))) (.seq (.block 9 (.seq (.ops [⟨0, (some 15), (.mov (.val (.bool false))), none, 0⟩]) (.seq (.seq (.ops [⟨0, (some 16), (.mov (.val (.int .i64 0))), none, 0⟩]) (.block 10 (.loop [2, 3, 7, 13, 14, 15, 16] (.seq (.seq (.ops [⟨0, (some 107), (.mov (.tmp 16)), none, 0⟩, ⟨1, (some 108), (.fieldA 5 (.tmp 3)), none, 0⟩, ⟨2, (some 109), (.load none (.tmp 108)), none, 0⟩, ⟨3, (some 110), (.bin .leq (.tmp 107) (.tmp 109)), none, 0⟩, ⟨4, (some 111), (.mov (.tmp 110)), none, 0⟩, ⟨5, (some 112), (.mov (.tmp 7)), (some (111, true)), 0⟩, ⟨6, (some 113), (.mov (.tmp 13)), (some (111, true)), 0⟩, ⟨7, (some 114), (.indexA 1 none (.tmp 112) (.tmp 113)), (some (111, true)), 0⟩, ⟨8, (some 115), (.load none (.tmp 114)), (some (111, true)), 0⟩, ⟨9, (some 116), (.mov (.tmp 14)), (some (111, true)), 0⟩, ⟨10, (some 117), (.indexA 1 none (.tmp 115) (.tmp 116)), (some (111, true)), 0⟩, ⟨11, (some 118), (.load none (.tmp 117)), (some (111, true)), 0⟩, ⟨12, (some 119), (.pick (.tmp 111) (.tmp 118) (.val (.bool false))), none, 0⟩, ⟨13, (some 120), (.mov (.tmp 119)), none, 0⟩, ⟨14, (some 121), (.mov (.tmp 15)), (some (120, true)), 0⟩, ⟨15, (some 122), (.not (.tmp 121)), (some (120, true)), 0⟩, ⟨16, (some 123), (.pick (.tmp 120) (.tmp 122) (.val (.bool false))), none, 0⟩]) (.cond (.tmp 123) .skip (.exit 10))) (.seq (.block 11 (.ops [⟨0, (some 126), (.mov (.tmp 7)), none, 0⟩, ⟨1, (some 127), (.mov (.tmp 13)), none, 0⟩, ⟨2, (some 128), (.bin .add (.tmp 127) (.val (.int .i64 1))), none, 0⟩, ⟨3, (some 129), (.indexA 1 none (.tmp 126) (.tmp 128)), none, 0⟩, ⟨4, (some 130), (.load none (.tmp 129)), none, 0⟩, ⟨5, (some 131), (.mov (.tmp 16)), none, 0⟩, ⟨6, (some 132), (.indexA 1 none (.tmp 130) (.tmp 131)), none, 0⟩, ⟨7, (some 133), (.load none (.tmp 132)), none, 0⟩, ⟨8, (some 134), (.mov (.tmp 133)), none, 0⟩, ⟨9, (some 135), (.load (some 8) (.tmp 3)), (some (134, true)), 0⟩, ⟨10, (some 136), (.mov (.tmp 13)), (some (134, true)), 0⟩, ⟨11, (some 137), (.mov (.tmp 14)), (some (134, true)), 0⟩, ⟨12, (some 138), (.mov (.tmp 16)), (some (134, true)), 0⟩, ⟨13, (some 139), (.mov (.tmp 2)), (some (134, true)), 0⟩, ⟨14, (some 140), (.call (.val (.fn (Fn.func 99) [] [])) [(.tmp 135), (.tmp 136), (.tmp 137), (.tmp 138), (.tmp 139)]), (some (134, true)), 0⟩, ⟨15, (some 141), (.pick (.tmp 134) (.tmp 140) (.val (.bool false))), none, 0⟩, ⟨16, (some 15), (.mov (.tmp 141)), none, 0⟩])) (.ops [⟨0, (some 124), (.mov (.tmp 16)), none, 0⟩, ⟨1, (some 125), (.bin .add (.tmp 124) (.val (.int .i64 1))), none, 0⟩, ⟨2, (some 16), (.mov (.tmp 125)), none, 0⟩])))))) (.ops [⟨0, (some 142), (.mov (.tmp 7)), none, 0⟩, ⟨1, (some 143), (.mov (.tmp 13)), none, 0⟩, ⟨2, (some 144), (.indexA 1 none (.tmp 142) (.tmp 143)), none, 0⟩, ⟨3, (some 145), (.load none (.tmp 144)), none, 0⟩, ⟨4, (some 146), (.mov (.tmp 14)), none, 0⟩, ⟨5, (some 147), (.mov (.tmp 15)), none, 0⟩, ⟨6, (some 148), (.indexA 1 none (.tmp 145) (.tmp 146)), none, 0⟩, ⟨7, none, (.store 1 (.tmp 148) (.tmp 147)), none, 0⟩])))) (.ops [⟨0, (some 105), (.mov (.tmp 14)), none, 0⟩, ⟨1, (some 106), (.bin .add (.tmp 105) (.val (.int .i64 1))), none, 0⟩, ⟨2, (some 14), (.mov (.tmp 106)), none, 0⟩]))))))) (.ops [⟨0, (some 99), (.mov (.tmp 13)), none, 0⟩, ⟨1, (some 100), (.bin .sub (.tmp 99) (.val (.int .i64 1))), none, 0⟩, ⟨2, (some 13), (.mov (.tmp 100)), none, 0⟩])))))) (.seq (.seq (.ops [⟨0, (some 17), (.mov (.val (.int .i64 0))), none, 0⟩]) (.block 12 (.loop [3, 7, 17] (.seq (.seq (.ops [⟨0, (some 149), (.mov (.tmp 17)), none, 0⟩, ⟨1, (some 150), (.fieldA 5 (.tmp 3)), none, 0⟩, ⟨2, (some 151), (.load none (.tmp 150)), none, 0⟩, ⟨3, (some 152), (.bin .leq (.tmp 149) (.tmp 151)), none, 0⟩]) (.cond (.tmp 152) .skip (.exit 12))) (.seq (.block 13 (.seq (.ops [⟨0, (some 155), (.mov (.tmp 7)), none, 0⟩, ⟨1, (some 156), (.indexA 1 none (.tmp 155) (.val (.int .i64 0))), none, 0⟩, ⟨2, (some 157), (.load none (.tmp 156)), none, 0⟩, ⟨3, (some 158), (.mov (.tmp 17)), none, 0⟩, ⟨4, (some 159), (.indexA 1 none (.tmp 157) (.tmp 158)), none, 0⟩, ⟨5, (some 160), (.load none (.tmp 159)), none, 0⟩]) (.cond (.tmp 160) (.seq (.ops [⟨0, (some 161), (.mov (.tmp 7)), none, 0⟩, ⟨1, (some 6), (.mov (.tmp 161)), none, 0⟩]) .ret) .skip))) (.ops [⟨0, (some 153), (.mov (.tmp 17)), none, 0⟩, ⟨1, (some 154), (.bin .add (.tmp 153) (.val (.int .i64 1))), none, 0⟩, ⟨2, (some 17), (.mov (.tmp 154)), none, 0⟩])))))) (.seq (.ops [⟨0, (some 6), (.mov (.val .nils)), none, 0⟩]) .ret))))))⟩
def af99 : AFunc := ⟨35, [(.tmp 10)], (.seq (.ops [⟨0, (some 5), (.box (.tmp 0)), none, 0⟩, ⟨1, (some 10), (.mov (.val (.bool false))), none, 0⟩]) (.seq (.seq (.ops [⟨0, (some 12), (.fieldA 4 (.tmp 5)), none, 0⟩, ⟨1, (some 13), (.load none (.tmp 12)), none, 0⟩, ⟨2, (some 14), (.mov (.tmp 1)), none, 0⟩, ⟨3, (some 15), (.indexA 2 none (.tmp 13) (.tmp 14)), none, 0⟩, ⟨4, (some 16), (.fieldA 0 (.tmp 15)), none, 0⟩, ⟨5, (some 17), (.load none (.tmp 16)), none, 0⟩, ⟨6, (some 11), (.mov (.tmp 17)), none, 0⟩]) (.block 0 (.loop [1, 2, 3, 4, 5, 11] (.seq (.seq (.ops [⟨0, (some 18), (.mov (.tmp 11)), none, 0⟩, ⟨1, (some 19), (.fieldA 4 (.tmp 5)), none, 0⟩, ⟨2, (some 20), (.load none (.tmp 19)), none, 0⟩, ⟨3, (some 21), (.mov (.tmp 1)), none, 0⟩, ⟨4, (some 22), (.indexA 2 none (.tmp 20) (.tmp 21)), none, 0⟩, ⟨5, (some 23), (.fieldA 1 (.tmp 22)), none, 0⟩, ⟨6, (some 24), (.load none (.tmp 23)), none, 0⟩, ⟨7, (some 25), (.bin .leq (.tmp 18) (.tmp 24)), none, 0⟩]) (.cond (.tmp 25) .skip (.exit 0))) (.seq (.block 1 (.seq (.ops [⟨0, (some 28), (.load (some 8) (.tmp 5)), none, 0⟩, ⟨1, (some 29), (.mov (.tmp 2)), none, 0⟩, ⟨2, (some 30), (.mov (.tmp 11)), none, 0⟩, ⟨3, (some 31), (.mov (.tmp 4)), none, 0⟩, ⟨4, (some 32), (.call (.val (.fn (Fn.func 102) [] [])) [(.tmp 28), (.tmp 29), (.tmp 30), (.tmp 31)]), none, 0⟩, ⟨5, (some 33), (.mov (.tmp 3)), none, 0⟩, ⟨6, (some 34), (.bin .eql (.tmp 32) (.tmp 33)), none, 0⟩]) (.cond (.tmp 34) (.seq (.ops [⟨0, (some 10), (.mov (.val (.bool true))), none, 0⟩]) .ret) .skip))) (.ops [⟨0, (some 26), (.mov (.tmp 11)), none, 0⟩, ⟨1, (some 27), (.bin .add (.tmp 26) (.val (.int .i64 1))), none, 0⟩, ⟨2, (some 11), (.mov (.tmp 27)), none, 0⟩])))))) (.seq (.ops [⟨0, (some 10), (.mov (.val (.bool false))), none, 0⟩]) .ret)))⟩
def af100 : AFunc := ⟨43, [(.tmp 8)], (.seq (.ops [⟨0, (some 4), (.box (.tmp 0)), none, 0⟩, ⟨1, (some 8), (.mov (.val (.bool false))), none, 0⟩]) (.seq (.seq (.ops [⟨0, (some 9), (.mov (.val (.int .i64 0))), none, 0⟩]) (.block 0 (.loop [1, 2, 3, 4, 9] (.seq (.seq (.ops [⟨0, (some 11), (.mov (.tmp 9)), none, 0⟩, ⟨1, (some 12), (.fieldA 7 (.tmp 4)), none, 0⟩, ⟨2, (some 13), (.load none (.tmp 12)), none, 0⟩, ⟨3, (some 14), (.len (.tmp 13)), none, 0⟩, ⟨4, (some 15), (.bin .lss (.tmp 11) (.tmp 14)), none, 0⟩]) (.cond (.tmp 15) .skip (.exit 0))) (.seq (.block 1 (.seq (.ops [⟨0, (some 18), (.fieldA 7 (.tmp 4)), none, 0⟩, ⟨1, (some 19), (.load none (.tmp 18)), none, 0⟩, ⟨2, (some 20), (.mov (.tmp 9)), none, 0⟩, ⟨3, (some 21), (.indexA 3 none (.tmp 19) (.tmp 20)), none, 0⟩, ⟨4, (some 22), (.load (some 3) (.tmp 21)), none, 0⟩, ⟨5, (some 10), (.alloc [(.int .i64 0), (.int .i64 0), (.int .i64 0)]), none, 0⟩, ⟨6, none, (.store 3 (.tmp 10) (.tmp 22)), none, 0⟩]) (.seq (.ops [⟨0, (some 23), (.mov (.tmp 1)), none, 0⟩, ⟨1, (some 24), (.mov (.tmp 9)), none, 0⟩, ⟨2, (some 25), (.call (.val (.fn (Fn.func 103) [] [])) [(.tmp 23), (.tmp 24)]), none, 0⟩, ⟨3, (some 26), (.mov (.tmp 25)), none, 0⟩, ⟨4, (some 27), (.fieldA 0 (.tmp 10)), (some (26, true)), 0⟩, ⟨5, (some 28), (.load none (.tmp 27)), (some (26, true)), 0⟩, ⟨6, (some 29), (.mov (.tmp 2)), (some (26, true)), 0⟩, ⟨7, (some 30), (.bin .eql (.tmp 28) (.tmp 29)), (some (26, true)), 0⟩, ⟨8, (some 31), (.pick (.tmp 26) (.tmp 30) (.val (.bool false))), none, 0⟩, ⟨9, (some 32), (.mov (.tmp 31)), none, 0⟩, ⟨10, (some 33), (.mov (.tmp 3)), (some (32, true)), 0⟩, ⟨11, (some 34), (.fieldA 1 (.tmp 10)), (some (32, true)), 0⟩, ⟨12, (some 35), (.fieldA 0 (.tmp 34)), (some (32, true)), 0⟩, ⟨13, (some 36), (.load none (.tmp 35)), (some (32, true)), 0⟩, ⟨14, (some 37), (.fieldA 1 (.tmp 10)), (some (32, true)), 0⟩, ⟨15, (some 38), (.fieldA 1 (.tmp 37)), (some (32, true)), 0⟩, ⟨16, (some 39), (.load none (.tmp 38)), (some (32, true)), 0⟩, ⟨17, (some 40), (.call (.val (.fn (Fn.func 80) [] [])) [(.tmp 33), (.tmp 36), (.tmp 39)]), (some (32, true)), 0⟩, ⟨18, (some 41), (.not (.tmp 40)), (some (32, true)), 0⟩, ⟨19, (some 42), (.pick (.tmp 32) (.tmp 41) (.val (.bool false))), none, 0⟩]) (.cond (.tmp 42) (.seq (.ops [⟨0, (some 8), (.mov (.val (.bool false))), none, 0⟩]) .ret) .skip)))) (.ops [⟨0, (some 16), (.mov (.tmp 9)), none, 0⟩, ⟨1, (some 17), (.bin .add (.tmp 16) (.val (.int .i64 1))), none, 0⟩, ⟨2, (some 9), (.mov (.tmp 17)), none, 0⟩])))))) (.seq (.ops [⟨0, (some 8), (.mov (.val (.bool true))), none, 0⟩]) .ret)))⟩
def af102 : AFunc := ⟨18, [(.tmp 8)], (.seq (.ops [⟨0, (some 4), (.box (.tmp 0)), none, 0⟩, ⟨1, (some 8), (.mov (.val (.int .i64 0))), none, 0⟩]) (.seq (.ops [⟨0, (some 9), (.fieldA 5 (.tmp 4)), none, 0⟩, ⟨1, (some 10), (.load none (.tmp 9)), none, 0⟩, ⟨2, (some 11), (.mov (.tmp 1)), none, 0⟩, ⟨3, (some 12), (.mov (.tmp 2)), none, 0⟩, ⟨4, (some 13), (.bin .add (.tmp 11) (.tmp 12)), none, 0⟩, ⟨5, (some 14), (.mov (.tmp 3)), none, 0⟩, ⟨6, (some 15), (.bin .sub (.tmp 13) (.tmp 14)), none, 0⟩, ⟨7, (some 16), (.min [(.tmp 10), (.tmp 15)]), none, 0⟩, ⟨8, (some 17), (.max [(.val (.int .i64 0)), (.tmp 16)]), none, 0⟩, ⟨9, (some 8), (.mov (.tmp 17)), none, 0⟩]) .ret))⟩
def af103 : AFunc := ⟨11, [(.tmp 4)], (.seq (.ops [⟨0, (some 4), (.mov (.val (.bool false))), none, 0⟩]) (.seq (.ops [⟨0, (some 5), (.mov (.tmp 0)), none, 0⟩, ⟨1, (some 6), (.mov (.tmp 1)), none, 0⟩, ⟨2, (some 7), (.call (.val (.fn (Fn.func 68) [] [])) [(.tmp 6)]), none, 0⟩, ⟨3, (some 8), (.bin .quo (.tmp 5) (.tmp 7)), none, 0⟩, ⟨4, (some 9), (.bin .rem (.tmp 8) (.val (.int .i64 2))), none, 0⟩, ⟨5, (some 10), (.bin .eql (.tmp 9) (.val (.int .i64 1))), none, 0⟩, ⟨6, (some 4), (.mov (.tmp 10)), none, 0⟩]) .ret))⟩
end R
end Ev
end Go.Proofs.YtlkhjnpflohfeaaDoor

/- The code of the reference of chapter 06: the table. Printed by program. -/
namespace Go.Proofs.YtlkhjnpflohfeaaDoor
open Go
namespace Ev
namespace R
def fnTbl : Nat → Option AFunc
  | 3 => some af3
  | 4 => some af4
  | 12 => some af12
  | 15 => some af15
  | 17 => some af17
  | 19 => some af19
  | 21 => some af21
  | 23 => some af23
  | 25 => some af25
  | 27 => some af27
  | 29 => some af29
  | 39 => some af39
  | 48 => some af48
  | 49 => some af49
  | 50 => some af50
  | 60 => some af60
  | 61 => some af61
  | 65 => some af65
  | 66 => some af66
  | 68 => some af68
  | 77 => some af77
  | 78 => some af78
  | 80 => some af80
  | 95 => some af95
  | 99 => some af99
  | 100 => some af100
  | 102 => some af102
  | 103 => some af103
  | _ => none
def fnTree : FT := (.node 50 af50 (.node 23 af23 (.node 15 af15 (.node 4 af4 (.node 3 af3 .leaf .leaf) (.node 12 af12 .leaf .leaf)) (.node 19 af19 (.node 17 af17 .leaf .leaf) (.node 21 af21 .leaf .leaf))) (.node 39 af39 (.node 27 af27 (.node 25 af25 .leaf .leaf) (.node 29 af29 .leaf .leaf)) (.node 49 af49 (.node 48 af48 .leaf .leaf) .leaf))) (.node 78 af78 (.node 66 af66 (.node 61 af61 (.node 60 af60 .leaf .leaf) (.node 65 af65 .leaf .leaf)) (.node 77 af77 (.node 68 af68 .leaf .leaf) .leaf)) (.node 100 af100 (.node 95 af95 (.node 80 af80 .leaf .leaf) (.node 99 af99 .leaf .leaf)) (.node 103 af103 (.node 102 af102 .leaf .leaf) .leaf))))
end R
end Ev
end Go.Proofs.YtlkhjnpflohfeaaDoor

/- A table of functions: what holds of all of its entries. -/
namespace Go.Proofs.YtlkhjnpflohfeaaDoor
open Go Go.Proofs
namespace Ev
/-- Of all entries. -/
def FT.All (p : Nat → AFunc → Prop) : FT → Prop
  | .leaf => True
  | .node k f l r => p k f ∧ (FT.All p l ∧ FT.All p r)
theorem FT.find_all {p : Nat → AFunc → Prop} : ∀ {t : FT} {n : Nat} {f : AFunc}, FT.All p t → FT.find t n = some f → p n f
  | .leaf, n, f, _, h => by cases h
  | .node k g l r, n, f, ha, h => by
    have e : FT.find (.node k g l r) n = (Bool.rec (Bool.rec (FT.find r n) (FT.find l n) (Nat.ble (Nat.succ n) k)) (some g) (Nat.beq n k) : Option AFunc) := rfl
    rw [e] at h
    cases hb : Nat.beq n k with
    | true => rw [hb] at h; cases h; rw [Nat.eq_of_beq_eq_true hb]; exact ha.1
    | false =>
      rw [hb] at h
      cases hc : Nat.ble (Nat.succ n) k with
      | true => rw [hc] at h; exact FT.find_all ha.2.1 h
      | false => rw [hc] at h; exact FT.find_all ha.2.2 h
end Ev
end Go.Proofs.YtlkhjnpflohfeaaDoor

/- The evaluator's code of the reference of chapter 06 is that of the program. Printed by program. -/
namespace Go.Proofs.YtlkhjnpflohfeaaDoor
open Go Go.Proofs
namespace Ev
namespace R
set_option maxRecDepth 1000000
theorem is3 : ∃ F, Tryd.prog.funcs[3]? = some F ∧ (F.name == "runtime.NumGoroutine") = false ∧ compFn Tryd.prog F = some af3.strip := ⟨_, Tryd.func3, by kernel_rfl, by kernel_rfl⟩
theorem is4 : ∃ F, Tryd.prog.funcs[4]? = some F ∧ (F.name == "runtime.NumGoroutine") = false ∧ compFn Tryd.prog F = some af4.strip := ⟨_, Tryd.func4, by kernel_rfl, by kernel_rfl⟩
theorem is12 : ∃ F, Tryd.prog.funcs[12]? = some F ∧ (F.name == "runtime.NumGoroutine") = false ∧ compFn Tryd.prog F = some af12.strip := ⟨_, Tryd.func12, by kernel_rfl, by kernel_rfl⟩
theorem is15 : ∃ F, Tryd.prog.funcs[15]? = some F ∧ (F.name == "runtime.NumGoroutine") = false ∧ compFn Tryd.prog F = some af15.strip := ⟨_, Tryd.func15, by kernel_rfl, by kernel_rfl⟩
theorem is17 : ∃ F, Tryd.prog.funcs[17]? = some F ∧ (F.name == "runtime.NumGoroutine") = false ∧ compFn Tryd.prog F = some af17.strip := ⟨_, Tryd.func17, by kernel_rfl, by kernel_rfl⟩
theorem is19 : ∃ F, Tryd.prog.funcs[19]? = some F ∧ (F.name == "runtime.NumGoroutine") = false ∧ compFn Tryd.prog F = some af19.strip := ⟨_, Tryd.func19, by kernel_rfl, by kernel_rfl⟩
theorem is21 : ∃ F, Tryd.prog.funcs[21]? = some F ∧ (F.name == "runtime.NumGoroutine") = false ∧ compFn Tryd.prog F = some af21.strip := ⟨_, Tryd.func21, by kernel_rfl, by kernel_rfl⟩
theorem is23 : ∃ F, Tryd.prog.funcs[23]? = some F ∧ (F.name == "runtime.NumGoroutine") = false ∧ compFn Tryd.prog F = some af23.strip := ⟨_, Tryd.func23, by kernel_rfl, by kernel_rfl⟩
theorem is25 : ∃ F, Tryd.prog.funcs[25]? = some F ∧ (F.name == "runtime.NumGoroutine") = false ∧ compFn Tryd.prog F = some af25.strip := ⟨_, Tryd.func25, by kernel_rfl, by kernel_rfl⟩
theorem is27 : ∃ F, Tryd.prog.funcs[27]? = some F ∧ (F.name == "runtime.NumGoroutine") = false ∧ compFn Tryd.prog F = some af27.strip := ⟨_, Tryd.func27, by kernel_rfl, by kernel_rfl⟩
theorem is29 : ∃ F, Tryd.prog.funcs[29]? = some F ∧ (F.name == "runtime.NumGoroutine") = false ∧ compFn Tryd.prog F = some af29.strip := ⟨_, Tryd.func29, by kernel_rfl, by kernel_rfl⟩
theorem is39 : ∃ F, Tryd.prog.funcs[39]? = some F ∧ (F.name == "runtime.NumGoroutine") = false ∧ compFn Tryd.prog F = some af39.strip := ⟨_, Tryd.func39, by kernel_rfl, by kernel_rfl⟩
theorem is48 : ∃ F, Tryd.prog.funcs[48]? = some F ∧ (F.name == "runtime.NumGoroutine") = false ∧ compFn Tryd.prog F = some af48.strip := ⟨_, Tryd.func48, by kernel_rfl, by kernel_rfl⟩
theorem is49 : ∃ F, Tryd.prog.funcs[49]? = some F ∧ (F.name == "runtime.NumGoroutine") = false ∧ compFn Tryd.prog F = some af49.strip := ⟨_, Tryd.func49, by kernel_rfl, by kernel_rfl⟩
theorem is50 : ∃ F, Tryd.prog.funcs[50]? = some F ∧ (F.name == "runtime.NumGoroutine") = false ∧ compFn Tryd.prog F = some af50.strip := ⟨_, Tryd.func50, by kernel_rfl, by kernel_rfl⟩
theorem is60 : ∃ F, Tryd.prog.funcs[60]? = some F ∧ (F.name == "runtime.NumGoroutine") = false ∧ compFn Tryd.prog F = some af60.strip := ⟨_, Tryd.func60, by kernel_rfl, by kernel_rfl⟩
theorem is61 : ∃ F, Tryd.prog.funcs[61]? = some F ∧ (F.name == "runtime.NumGoroutine") = false ∧ compFn Tryd.prog F = some af61.strip := ⟨_, Tryd.func61, by kernel_rfl, by kernel_rfl⟩
theorem is65 : ∃ F, Tryd.prog.funcs[65]? = some F ∧ (F.name == "runtime.NumGoroutine") = false ∧ compFn Tryd.prog F = some af65.strip := ⟨_, Tryd.func65, by kernel_rfl, by kernel_rfl⟩
theorem is66 : ∃ F, Tryd.prog.funcs[66]? = some F ∧ (F.name == "runtime.NumGoroutine") = false ∧ compFn Tryd.prog F = some af66.strip := ⟨_, Tryd.func66, by kernel_rfl, by kernel_rfl⟩
theorem is68 : ∃ F, Tryd.prog.funcs[68]? = some F ∧ (F.name == "runtime.NumGoroutine") = false ∧ compFn Tryd.prog F = some af68.strip := ⟨_, Tryd.func68, by kernel_rfl, by kernel_rfl⟩
theorem is77 : ∃ F, Tryd.prog.funcs[77]? = some F ∧ (F.name == "runtime.NumGoroutine") = false ∧ compFn Tryd.prog F = some af77.strip := ⟨_, Tryd.func77, by kernel_rfl, by kernel_rfl⟩
theorem is78 : ∃ F, Tryd.prog.funcs[78]? = some F ∧ (F.name == "runtime.NumGoroutine") = false ∧ compFn Tryd.prog F = some af78.strip := ⟨_, Tryd.func78, by kernel_rfl, by kernel_rfl⟩
theorem is80 : ∃ F, Tryd.prog.funcs[80]? = some F ∧ (F.name == "runtime.NumGoroutine") = false ∧ compFn Tryd.prog F = some af80.strip := ⟨_, Tryd.func80, by kernel_rfl, by kernel_rfl⟩
theorem is95 : ∃ F, Tryd.prog.funcs[95]? = some F ∧ (F.name == "runtime.NumGoroutine") = false ∧ compFn Tryd.prog F = some af95.strip := ⟨_, Tryd.func95, by kernel_rfl, by kernel_rfl⟩
theorem is99 : ∃ F, Tryd.prog.funcs[99]? = some F ∧ (F.name == "runtime.NumGoroutine") = false ∧ compFn Tryd.prog F = some af99.strip := ⟨_, Tryd.func99, by kernel_rfl, by kernel_rfl⟩
theorem is100 : ∃ F, Tryd.prog.funcs[100]? = some F ∧ (F.name == "runtime.NumGoroutine") = false ∧ compFn Tryd.prog F = some af100.strip := ⟨_, Tryd.func100, by kernel_rfl, by kernel_rfl⟩
theorem is102 : ∃ F, Tryd.prog.funcs[102]? = some F ∧ (F.name == "runtime.NumGoroutine") = false ∧ compFn Tryd.prog F = some af102.strip := ⟨_, Tryd.func102, by kernel_rfl, by kernel_rfl⟩
theorem is103 : ∃ F, Tryd.prog.funcs[103]? = some F ∧ (F.name == "runtime.NumGoroutine") = false ∧ compFn Tryd.prog F = some af103.strip := ⟨_, Tryd.func103, by kernel_rfl, by kernel_rfl⟩
theorem tree_is : FT.All (fun k af => ∃ F, Tryd.prog.funcs[k]? = some F ∧ (F.name == "runtime.NumGoroutine") = false ∧ compFn Tryd.prog F = some af.strip) fnTree :=
  ⟨is50, ⟨is23, ⟨is15, ⟨is4, ⟨is3, trivial, trivial⟩, ⟨is12, trivial, trivial⟩⟩, ⟨is19, ⟨is17, trivial, trivial⟩, ⟨is21, trivial, trivial⟩⟩⟩, ⟨is39, ⟨is27, ⟨is25, trivial, trivial⟩, ⟨is29, trivial, trivial⟩⟩, ⟨is49, ⟨is48, trivial, trivial⟩, trivial⟩⟩⟩, ⟨is78, ⟨is66, ⟨is61, ⟨is60, trivial, trivial⟩, ⟨is65, trivial, trivial⟩⟩, ⟨is77, ⟨is68, trivial, trivial⟩, trivial⟩⟩, ⟨is100, ⟨is95, ⟨is80, trivial, trivial⟩, ⟨is99, trivial, trivial⟩⟩, ⟨is103, ⟨is102, trivial, trivial⟩, trivial⟩⟩⟩⟩
end R
end Ev
end Go.Proofs.YtlkhjnpflohfeaaDoor

/- Cuts with other lists. -/
namespace Go.Proofs.YtlkhjnpflohfeaaDoor
open Go
namespace Ev
/-- A list of looks as a value. -/
def looksV (H : List AB) (v : AV) (ls : List Look) : Prop := (slCells 3 H v).bind looksC = some ls
def spansV (H : List AB) (v : AV) (r : List (Int × Int)) : Prop := (slCells 2 H v).bind spansC = some r
@[simp] theorem slCells_spans (H : List AB) (r : List (Int × Int)) : slCells 2 H (.vs 2 (r.map spanE)) = some (spanCs r) := by simp [slCells]
@[simp] theorem slCells_looks (H : List AB) (r : List Look) : slCells 3 H (.vs 3 (r.map lookE)) = some (lookCs r) := by simp [slCells]
@[simp] theorem slCells_boats (H : List AB) (r : List Boat) : slCells 4 H (.vs 4 (r.map boatE)) = some (boatCs r) := by simp [slCells]
theorem slCells_sl (k : Nat) (H : List AB) (b off n k' : Nat) : slCells k H (.sl b off n k') = if k = k' then (match H[b]? with | some (.cells cs) => if off + n * k ≤ cs.length then some ((cs.drop off).take (n * k)) else none | _ => none) else none := rfl
@[simp] theorem spanCs_plain : ∀ r, (spanCs r).all AV.plain = true
  | [] => rfl
  | s :: l => by simp only [spanCs, List.all_cons, spanCs_plain l]; rfl
@[simp] theorem boatCs_plain : ∀ r, (boatCs r).all AV.plain = true
  | [] => rfl
  | s :: l => by simp only [boatCs, List.all_cons, boatCs_plain l]; rfl
@[simp] theorem lookCs_plain : ∀ r, (lookCs r).all AV.plain = true
  | [] => rfl
  | s :: l => by simp only [lookCs, List.all_cons, lookCs_plain l]; rfl
/-! Cells of spans. -/
/-! Blocks behind others. -/
@[simp] theorem app_get0 {α : Type} (j l : List α) : (j ++ l)[j.length]? = l[0]? := by rw [List.getElem?_append_right (Nat.le_refl _), Nat.sub_self]
@[simp] theorem app_get {α : Type} (j l : List α) (k : Nat) : (j ++ l)[j.length + k]? = l[k]? := by simp [List.getElem?_append_right]
@[simp] theorem app_set0 {α : Type} (j l : List α) (v : α) : (j ++ l).set j.length v = j ++ l.set 0 v := by simp
@[simp] theorem app_set {α : Type} (j l : List α) (k : Nat) (v : α) : (j ++ l).set (j.length + k) v = j ++ l.set k v := by simp
theorem st_eq {st : St} {tm : List AV} {df : List ADef} {hp : List AB} {tc : List Nat} (h1 : st.tm = tm) (h2 : st.df = df) (h3 : st.hp = hp) (h4 : st.tc = tc) : st = ⟨tm, df, hp, tc⟩ := by
  subst h1 h2 h3 h4; rfl
end Ev
end Go.Proofs.YtlkhjnpflohfeaaDoor
