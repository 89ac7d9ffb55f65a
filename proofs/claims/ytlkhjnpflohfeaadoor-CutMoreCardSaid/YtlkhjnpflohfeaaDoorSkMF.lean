/- What the examples of the document are, by the contracts' functions. -/
import Derived.Test.YtlkhjnpflohfeaaDoorSkMC
import Derived.BigQuiet
import Derived.Test.YtlkhjnpflohfeaaDoorCoreD
import Derived.Test.YtlkhjnpflohfeaaDoorSkMD
import Derived.Test.YtlkhjnpflohfeaaDoorSkMA
import Derived.Laws.Bits64b
/- Contracts of the small functions of the reference. -/
namespace Go.Proofs.YtlkhjnpflohfeaaDoor
open Go Go.Proofs Go.RowKit

set_option maxHeartbeats 400000 in
theorem refIn_any (a b c : Int) (w : World) :
    Calls Tryd.prog 80 #[.int .i64 a, .int .i64 b, .int .i64 c] w fun e w' => e = .returned (.bool (Cut.within a b c)) ∧ w = w' := by
  by_cases h : b ≤ a
  · go_enter Tryd.func80, Tryd.ntmps80
    go_wp2
    go_ret
    exact ⟨ret_bool (by grind [Cut.within]), rfl⟩
  · have hd : decide (b ≤ a) = false := by simpa using h
    go_enter Tryd.func80, Tryd.ntmps80
    go_wp2
    go_ret
    exact ⟨ret_bool (by grind [Cut.within]), rfl⟩

set_option maxHeartbeats 400000 in
theorem refSpan_any (a b low high : Int) (w : World) :
    Calls Tryd.prog 81 #[.agg #[.int .i64 a, .int .i64 b], .int .i64 low, .int .i64 high] w fun e w' => e = .returned (.bool (Cut.isSpan (a, b) low high)) ∧ Below w.heap.size w w' := by
  go_enter Tryd.func81, Tryd.ntmps81
  go_wp2
  all_goals go_ret
  all_goals refine ⟨ret_bool ?_, by (repeat' first | (with_reducible assumption) | (with_reducible exact Below.refl _ _) | (with_reducible refine Below.drew ?_) | (with_reducible refine Below.setCell ?_ ?_ _) | (with_reducible refine Below.alloc ?_ ?_ _) | (refine Below.trans ?_ (Below.mono (by assumption) ?_)) | omega | (simp only [World.size_alloc, World.size_setCell, World.size_drew] at *; omega))⟩
  all_goals grind [Cut.isSpan]

set_option maxHeartbeats 400000 in
theorem refDay_any (x : CutD) (ra ba la : Option Addr) (rc bc lc : Nat) (n : Int) (w : World) (_hn : x.rain.length < 2 ^ 62) :
    Calls Tryd.prog 49 #[cutVal x ra ba la rc bc lc, .int .i64 n] w fun e w' => e = .returned (.bool (Cut.isDay x n)) ∧ Below w.heap.size w w' := by
  unfold cutVal
  go_enter Tryd.func49, Tryd.ntmps49
  go_wp2_with (go_at_call 80; refine (refIn_any _ _ _ _).mono ?_; rintro e w' ⟨rfl, rfl⟩)
  go_ret
  exact ⟨rfl, by (repeat' first | (with_reducible assumption) | (with_reducible exact Below.refl _ _) | (with_reducible refine Below.drew ?_) | (with_reducible refine Below.setCell ?_ ?_ _) | (with_reducible refine Below.alloc ?_ ?_ _) | (refine Below.trans ?_ (Below.mono (by assumption) ?_)) | omega | (simp only [World.size_alloc, World.size_setCell, World.size_drew] at *; omega))⟩

theorem valid_head2 {x : CutD} (h : headOf x = false) : Cut.valid x = false := by rw [valid_split, h]; rfl
theorem rain_one {l : List (Int × Int)} {i : Nat} (hi : i < l.length) (h : Cut.isSpan ((Cut.spanAt l i).1, (Cut.spanAt l i).2) 0 30 = false) : rainBad l = true :=
  (rainBad_iff l).2 ⟨i, hi, by unfold badAt; rw [show Cut.spanAt l i = ((Cut.spanAt l i).1, (Cut.spanAt l i).2) from rfl, h]; rfl⟩
theorem rain_none {l : List (Int × Int)} (h : ∀ i, i < l.length → Cut.isSpan ((Cut.spanAt l i).1, (Cut.spanAt l i).2) 0 30 = true) : rainBad l = false := by
  rw [← Bool.not_eq_true, rainBad_iff]
  rintro ⟨i, hi, hb⟩
  have := h i hi
  unfold badAt at hb
  rw [show Cut.spanAt l i = ((Cut.spanAt l i).1, (Cut.spanAt l i).2) from rfl, this] at hb
  cases hb
end Go.Proofs.YtlkhjnpflohfeaaDoor

/- The contract of the reference's check. -/
namespace Go.Proofs.YtlkhjnpflohfeaaDoor
open Go Go.Proofs Go.RowKit

set_option maxHeartbeats 2000000 in
theorem refCut_head (x : CutD) (ra ba la : Option Addr) (rc bc lc : Nat) (w : World) (hbad : headOf x = false) :
    Calls Tryd.prog 35 #[cutVal x ra ba la rc bc lc] w fun e w' => e = .returned (.bool false) ∧ Below w.heap.size w w' := by
  unfold headOf at hbad
  rw [show x.depth = (x.depth.1, x.depth.2) from rfl, show x.leak = (x.leak.1, x.leak.2) from rfl] at hbad
  unfold cutVal
  cases h1 : Cut.within x.rain.length 1 8
  · clear hbad
    go_enter Tryd.func35, Tryd.ntmps35
    go_wp2_with first | (go_at_call 80; refine (refIn_any _ _ _ _).mono ?_; rintro e w' ⟨rfl, rfl⟩; first | rw [h1] | rw [h2]) | (go_at_call 81; refine (refSpan_any _ _ _ _ _).mono ?_; rintro e w1 ⟨rfl, hb⟩; have kx : Blk w1 w.heap.size 28 (cutCells x ra ba la rc bc lc) := Blk.below (by first | assumption | exact Blk.new _ _ _) hb (by first | assumption | simp); have hlt := kx.lt; have c0 := kx.cell 0 rfl; have c1 := kx.cell 1 rfl; have c2 := kx.cell 2 rfl; have c3 := kx.cell 3 rfl; have c4 := kx.cell 4 rfl; have c5 := kx.cell 5 rfl; have c6 := kx.cell 6 rfl; have c7 := kx.cell 7 rfl; first | rw [h3] | rw [h4])
    go_ret
    exact ⟨rfl, by (repeat' first | (with_reducible assumption) | (with_reducible exact Below.refl _ _) | (with_reducible refine Below.drew ?_) | (with_reducible refine Below.setCell ?_ ?_ _) | (with_reducible refine Below.alloc ?_ ?_ _) | (refine Below.trans ?_ (Below.mono (by assumption) ?_)) | omega | (simp only [World.size_alloc, World.size_setCell, World.size_drew] at *; omega))⟩
  cases h2 : Cut.within x.most 1 100
  · clear hbad
    go_enter Tryd.func35, Tryd.ntmps35
    go_wp2_with first | (go_at_call 80; refine (refIn_any _ _ _ _).mono ?_; rintro e w' ⟨rfl, rfl⟩; first | rw [h1] | rw [h2]) | (go_at_call 81; refine (refSpan_any _ _ _ _ _).mono ?_; rintro e w1 ⟨rfl, hb⟩; have kx : Blk w1 w.heap.size 28 (cutCells x ra ba la rc bc lc) := Blk.below (by first | assumption | exact Blk.new _ _ _) hb (by first | assumption | simp); have hlt := kx.lt; have c0 := kx.cell 0 rfl; have c1 := kx.cell 1 rfl; have c2 := kx.cell 2 rfl; have c3 := kx.cell 3 rfl; have c4 := kx.cell 4 rfl; have c5 := kx.cell 5 rfl; have c6 := kx.cell 6 rfl; have c7 := kx.cell 7 rfl; first | rw [h3] | rw [h4])
    go_ret
    exact ⟨rfl, by (repeat' first | (with_reducible assumption) | (with_reducible exact Below.refl _ _) | (with_reducible refine Below.drew ?_) | (with_reducible refine Below.setCell ?_ ?_ _) | (with_reducible refine Below.alloc ?_ ?_ _) | (refine Below.trans ?_ (Below.mono (by assumption) ?_)) | omega | (simp only [World.size_alloc, World.size_setCell, World.size_drew] at *; omega))⟩
  cases h3 : Cut.isSpan (x.depth.1, x.depth.2) 0 x.most
  · clear hbad
    go_enter Tryd.func35, Tryd.ntmps35
    go_wp2_with first | (go_at_call 80; refine (refIn_any _ _ _ _).mono ?_; rintro e w' ⟨rfl, rfl⟩; first | rw [h1] | rw [h2]) | (go_at_call 81; refine (refSpan_any _ _ _ _ _).mono ?_; rintro e w1 ⟨rfl, hb⟩; have kx : Blk w1 w.heap.size 28 (cutCells x ra ba la rc bc lc) := Blk.below (by first | assumption | exact Blk.new _ _ _) hb (by first | assumption | simp); have hlt := kx.lt; have c0 := kx.cell 0 rfl; have c1 := kx.cell 1 rfl; have c2 := kx.cell 2 rfl; have c3 := kx.cell 3 rfl; have c4 := kx.cell 4 rfl; have c5 := kx.cell 5 rfl; have c6 := kx.cell 6 rfl; have c7 := kx.cell 7 rfl; first | rw [h3] | rw [h4])
    go_ret
    exact ⟨rfl, by (repeat' first | (with_reducible assumption) | (with_reducible exact Below.refl _ _) | (with_reducible refine Below.drew ?_) | (with_reducible refine Below.setCell ?_ ?_ _) | (with_reducible refine Below.alloc ?_ ?_ _) | (refine Below.trans ?_ (Below.mono (by assumption) ?_)) | omega | (simp only [World.size_alloc] at *; omega))⟩
  cases h4 : Cut.isSpan (x.leak.1, x.leak.2) 0 10
  · clear hbad
    go_enter Tryd.func35, Tryd.ntmps35
    go_wp2_with first | (go_at_call 80; refine (refIn_any _ _ _ _).mono ?_; rintro e w' ⟨rfl, rfl⟩; first | rw [h1] | rw [h2]) | (go_at_call 81; refine (refSpan_any _ _ _ _ _).mono ?_; rintro e w1 ⟨rfl, hb⟩; have kx : Blk w1 w.heap.size 28 (cutCells x ra ba la rc bc lc) := Blk.below (by first | assumption | exact Blk.new _ _ _) hb (by first | assumption | simp); have hlt := kx.lt; have c0 := kx.cell 0 rfl; have c1 := kx.cell 1 rfl; have c2 := kx.cell 2 rfl; have c3 := kx.cell 3 rfl; have c4 := kx.cell 4 rfl; have c5 := kx.cell 5 rfl; have c6 := kx.cell 6 rfl; have c7 := kx.cell 7 rfl; first | rw [h3] | rw [h4])
    go_ret
    exact ⟨rfl, by (repeat' first | (with_reducible assumption) | (with_reducible exact Below.refl _ _) | (with_reducible refine Below.drew ?_) | (with_reducible refine Below.setCell ?_ ?_ _) | (with_reducible refine Below.alloc ?_ ?_ _) | (refine Below.trans ?_ (Below.mono (by assumption) ?_)) | omega | (simp only [World.size_alloc] at *; omega))⟩
  cases h5 : decide ((x.boats.length : Int) ≤ 4)
  · clear hbad
    have g5 := of_decide_eq_false h5
    rw [Int.not_le] at g5
    go_enter Tryd.func35, Tryd.ntmps35
    go_wp2_with first | (go_at_call 80; refine (refIn_any _ _ _ _).mono ?_; rintro e w' ⟨rfl, rfl⟩; first | rw [h1] | rw [h2]) | (go_at_call 81; refine (refSpan_any _ _ _ _ _).mono ?_; rintro e w1 ⟨rfl, hb⟩; have kx : Blk w1 w.heap.size 28 (cutCells x ra ba la rc bc lc) := Blk.below (by first | assumption | exact Blk.new _ _ _) hb (by first | assumption | simp); have hlt := kx.lt; have c0 := kx.cell 0 rfl; have c1 := kx.cell 1 rfl; have c2 := kx.cell 2 rfl; have c3 := kx.cell 3 rfl; have c4 := kx.cell 4 rfl; have c5 := kx.cell 5 rfl; have c6 := kx.cell 6 rfl; have c7 := kx.cell 7 rfl; first | rw [h3] | rw [h4])
    go_ret
    exact ⟨rfl, by (repeat' first | (with_reducible assumption) | (with_reducible exact Below.refl _ _) | (with_reducible refine Below.drew ?_) | (with_reducible refine Below.setCell ?_ ?_ _) | (with_reducible refine Below.alloc ?_ ?_ _) | (refine Below.trans ?_ (Below.mono (by assumption) ?_)) | omega | (simp only [World.size_alloc] at *; omega))⟩
  cases h6 : decide ((x.looks.length : Int) ≤ 5)
  · clear hbad
    have g5 := of_decide_eq_true h5
    have g6 := of_decide_eq_false h6
    rw [Int.not_le] at g6
    go_enter Tryd.func35, Tryd.ntmps35
    go_wp2_with first | (go_at_call 80; refine (refIn_any _ _ _ _).mono ?_; rintro e w' ⟨rfl, rfl⟩; first | rw [h1] | rw [h2]) | (go_at_call 81; refine (refSpan_any _ _ _ _ _).mono ?_; rintro e w1 ⟨rfl, hb⟩; have kx : Blk w1 w.heap.size 28 (cutCells x ra ba la rc bc lc) := Blk.below (by first | assumption | exact Blk.new _ _ _) hb (by first | assumption | simp); have hlt := kx.lt; have c0 := kx.cell 0 rfl; have c1 := kx.cell 1 rfl; have c2 := kx.cell 2 rfl; have c3 := kx.cell 3 rfl; have c4 := kx.cell 4 rfl; have c5 := kx.cell 5 rfl; have c6 := kx.cell 6 rfl; have c7 := kx.cell 7 rfl; first | rw [h3] | rw [h4])
    go_ret
    exact ⟨rfl, by (repeat' first | (with_reducible assumption) | (with_reducible exact Below.refl _ _) | (with_reducible refine Below.drew ?_) | (with_reducible refine Below.setCell ?_ ?_ _) | (with_reducible refine Below.alloc ?_ ?_ _) | (refine Below.trans ?_ (Below.mono (by assumption) ?_)) | omega | (simp only [World.size_alloc] at *; omega))⟩
  rw [h1, h2, h3, h4, h5, h6] at hbad
  cases hbad

set_option maxHeartbeats 4000000 in
set_option maxRecDepth 100000 in
theorem refCut_any (x : CutD) (ra ba la : Option Addr) (rc bc lc : Nat) (w : World) (hin : CutIn w x ra ba la) :
    Calls Tryd.prog 35 #[cutVal x ra ba la rc bc lc] w fun e w' => e = .returned (.bool (Cut.valid x)) ∧ Below w.heap.size w w' := by
  cases hhead : headOf x
  · rw [valid_head2 hhead]; exact refCut_head x ra ba la rc bc lc w hhead
  have HIN := hide hin
  have HH := hide hhead
  clear hin
  unfold headOf at hhead
  rw [show x.depth = (x.depth.1, x.depth.2) from rfl, show x.leak = (x.leak.1, x.leak.2) from rfl] at hhead
  simp only [Bool.and_eq_true] at hhead
  obtain ⟨⟨⟨⟨⟨h1, h2⟩, h3⟩, h4⟩, h5⟩, h6⟩ := hhead
  have g5 := of_decide_eq_true h5
  have g6 := of_decide_eq_true h6
  have HN : Hid (1 ≤ x.rain.length ∧ x.rain.length ≤ 8 ∧ x.boats.length ≤ 4 ∧ x.looks.length ≤ 5) := by
    simp only [Cut.within, Bool.and_eq_true, decide_eq_true_eq] at h1; exact ⟨by omega, by omega, by omega, by omega⟩
  unfold cutVal
  go_enter Tryd.func35, Tryd.ntmps35
  go_wp2_with first | (go_at_call 80; refine (refIn_any _ _ _ _).mono ?_; rintro e w' ⟨rfl, rfl⟩; first | rw [h1] | rw [h2]) | (go_at_call 81; refine (refSpan_any _ _ _ _ _).mono ?_; rintro e w1 ⟨rfl, hb⟩; have kx : Blk w1 w.heap.size 28 (cutCells x ra ba la rc bc lc) := Blk.below (by first | assumption | exact Blk.new _ _ _) hb (by first | assumption | simp); have hlt := kx.lt; have c0 := kx.cell 0 rfl; have c1 := kx.cell 1 rfl; have c2 := kx.cell 2 rfl; have c3 := kx.cell 3 rfl; have c4 := kx.cell 4 rfl; have c5 := kx.cell 5 rfl; have c6 := kx.cell 6 rfl; have c7 := kx.cell 7 rfl; first | rw [h3] | rw [h4])
  have hn8 := HN.out
  have hb0 : Below w.heap.size w w1 := by (repeat' first | (with_reducible assumption) | (with_reducible exact Below.refl _ _) | (with_reducible refine Below.drew ?_) | (with_reducible refine Below.setCell ?_ ?_ _) | (with_reducible refine Below.alloc ?_ ?_ _) | (refine Below.trans ?_ (Below.mono (by assumption) ?_)) | omega | (simp only [World.size_alloc] at *; omega))
  clear h1 h2 h3 h4 h5 h6 g5 g6 c0 c1 c2 c3 c4 c5 c6 c7 hb
  go_loopw [3, 44, 45, 46, 47, 48, 49, 50, 51, 52, 53, 54, 55, 56, 57] (fun v3 _ _ _ _ _ _ _ _ _ _ _ _ _ _ wr => ∃ k : Nat, v3 = .int .i64 k ∧ k ≤ x.rain.length ∧ Below w.heap.size w wr ∧ Blk wr w.heap.size 28 (cutCells x ra ba la rc bc lc) ∧ Hid (∀ i, i < k → Cut.isSpan ((Cut.spanAt x.rain i).1, (Cut.spanAt x.rain i).2) 0 30 = true)) (fun v3 _ _ _ _ _ _ _ _ _ _ _ _ _ _ _ => x.rain.length - (intOf v3).toNat)
  case atStart => exact ⟨0, rfl, by omega, hb0, kx, fun i hi => by omega⟩
  case round =>
    clear hb0 kx hlt
    obtain ⟨k, rfl, hk, hb0, kx, hno⟩ := hrel
    have hlt := kx.lt
    have c4 := kx.cell 4 rfl
    by_cases hlt' : k < x.rain.length
    · rcases HIN.out.rain with h0 | ⟨bb, off, rfl, hbb, hc⟩
      · omega
      · have hka := hc k 0 hlt' (by omega)
        have hkb := hc k 1 hlt' (by omega)
        rw [← hb0.cell (p := ⟨bb, _, none⟩) hbb] at hka hkb
        simp [spanCell] at hka hkb
        clear hc
        cases s1 : Cut.isSpan ((Cut.spanAt x.rain k).1, (Cut.spanAt x.rain k).2) 0 30
        · have hbad : Cut.valid x = false := valid_rain (rain_one hlt' s1)
          go_wp2_with (go_at_call 81; refine (refSpan_any _ _ _ _ _).mono ?_; rintro e w4 ⟨rfl, hb4⟩; rw [s1])
          go_ret
          refine ⟨by rw [hbad]; rfl, ?_⟩
          refine hb0.trans (Below.mono ?_ hb0.size)
          (repeat' first | (with_reducible assumption) | (with_reducible exact Below.refl _ _) | (with_reducible refine Below.drew ?_) | (with_reducible refine Below.setCell ?_ ?_ _) | (with_reducible refine Below.alloc ?_ ?_ _) | (refine Below.trans ?_ (Below.mono (by assumption) ?_)) | omega | (simp only [World.size_alloc, World.size_setCell, World.size_drew] at *; omega))
        · go_wp2_with (go_at_call 81; refine (refSpan_any _ _ _ _ _).mono ?_; rintro e w4 ⟨rfl, hb4⟩; rw [s1])
          have hb5 : Below wr.heap.size wr w4 := by (repeat' first | (with_reducible assumption) | (with_reducible exact Below.refl _ _) | (with_reducible refine Below.drew ?_) | (with_reducible refine Below.setCell ?_ ?_ _) | (with_reducible refine Below.alloc ?_ ?_ _) | (refine Below.trans ?_ (Below.mono (by assumption) ?_)) | omega | (simp only [World.size_alloc, World.size_setCell, World.size_drew] at *; omega))
          refine ⟨⟨k + 1, by go_num, by omega, hb0.trans (hb5.mono hb0.size), kx.below hb5 hlt, ?_⟩, by simp [intOf]; omega⟩
          intro i hi
          rcases Nat.lt_succ_iff_lt_or_eq.1 hi with h | rfl
          · exact hno.out i h
          · exact s1
    · have hr : Hid (rainBad x.rain = false) := rain_none fun i hi => hno.out i (by omega)
      have c6 := kx.cell 6 rfl
      clear hno
      go_wp2
      clear hlt' hk
      go_loopw [4, 5, 58, 59, 60, 61, 62, 63, 64, 65, 66, 67, 68, 69, 70, 71, 72, 73, 74, 75, 76, 77, 78, 79, 80, 81, 82, 83, 84, 85] (fun v4 _ _ _ _ _ _ _ _ _ _ _ _ _ _ _ _ _ _ _ _ _ _ _ _ _ _ _ _ _ wr => ∃ k : Nat, v4 = .int .i64 k ∧ k ≤ x.boats.length ∧ Below w.heap.size w wr ∧ Blk wr w.heap.size 28 (cutCells x ra ba la rc bc lc) ∧ Hid (∀ i, i < k → boatOk (Cut.boatAt x.boats i) = true)) (fun v4 _ _ _ _ _ _ _ _ _ _ _ _ _ _ _ _ _ _ _ _ _ _ _ _ _ _ _ _ _ _ => x.boats.length - (intOf v4).toNat)
      case atStart => exact ⟨0, rfl, by omega, hb0, kx, fun i hi => by omega⟩
      case round =>
        clear hb0 kx hlt c4 c6
        obtain ⟨k, rfl, hk, hb0, kx, hno⟩ := hrel
        have hlt := kx.lt
        have c6 := kx.cell 6 rfl
        by_cases hlt' : k < x.boats.length
        · rcases HIN.out.boats with h0 | ⟨bb, off, rfl, hbb, hc⟩
          · omega
          · have hka := hc k 0 hlt' (by omega)
            have hkb := hc k 1 hlt' (by omega)
            have hkc := hc k 2 hlt' (by omega)
            have hkd := hc k 3 hlt' (by omega)
            rw [← hb0.cell (p := ⟨bb, _, none⟩) hbb] at hka hkb hkc hkd
            simp [boatCell] at hka hkb hkc hkd
            clear hc
            have hbs : bb < wr.heap.size := Nat.lt_of_lt_of_le hbb hb0.size
            cases s1 : Cut.isSpan ((Cut.boatAt x.boats k).draws.1, (Cut.boatAt x.boats k).draws.2) 0 100
            · have hbad : Cut.valid x = false := valid_boat k hlt' (by unfold boatOk; rw [s1]; rfl)
              go_wp2_with first | (go_at_call 81; refine (refSpan_any _ _ _ _ _).mono ?_; rintro e w4 ⟨rfl, hb4⟩; rw [s1]; have kl : Blk w4 wr.heap.size 51 (boatCells (Cut.boatAt x.boats k)) := Blk.below (by first | exact Blk.new' _ _ _ rfl) hb4 (by simp); have l2 := kl.cell 2 rfl; have l3 := kl.cell 3 rfl) | (go_at_call 80; refine (refIn_any _ _ _ _).mono ?_; rintro e w' ⟨rfl, rfl⟩; first | rw [s2] | rw [s3])
              go_ret
              refine ⟨by rw [hbad]; rfl, ?_⟩
              refine hb0.trans (Below.mono ?_ hb0.size)
              (repeat' first | (with_reducible assumption) | (with_reducible exact Below.refl _ _) | (with_reducible refine Below.drew ?_) | (with_reducible refine Below.setCell ?_ ?_ _) | (with_reducible refine Below.alloc ?_ ?_ _) | (refine Below.trans ?_ (Below.mono (by assumption) ?_)) | omega | (simp only [World.size_alloc] at *; omega))
            cases s2 : Cut.within (Cut.boatAt x.boats k).per 0 10
            · have hbad : Cut.valid x = false := valid_boat k hlt' (by unfold boatOk; rw [s1, s2]; rfl)
              go_wp2_with first | (go_at_call 81; refine (refSpan_any _ _ _ _ _).mono ?_; rintro e w4 ⟨rfl, hb4⟩; rw [s1]; have kl : Blk w4 wr.heap.size 51 (boatCells (Cut.boatAt x.boats k)) := Blk.below (by first | exact Blk.new' _ _ _ rfl) hb4 (by simp); have l2 := kl.cell 2 rfl; have l3 := kl.cell 3 rfl) | (go_at_call 80; refine (refIn_any _ _ _ _).mono ?_; rintro e w' ⟨rfl, rfl⟩; first | rw [s2] | rw [s3])
              go_ret
              refine ⟨by rw [hbad]; rfl, ?_⟩
              refine hb0.trans (Below.mono ?_ hb0.size)
              (repeat' first | (with_reducible assumption) | (with_reducible exact Below.refl _ _) | (with_reducible refine Below.drew ?_) | (with_reducible refine Below.setCell ?_ ?_ _) | (with_reducible refine Below.alloc ?_ ?_ _) | (refine Below.trans ?_ (Below.mono (by assumption) ?_)) | omega | (simp only [World.size_alloc] at *; omega))
            cases s3 : Cut.within (Cut.boatAt x.boats k).room 0 10
            · have hbad : Cut.valid x = false := valid_boat k hlt' (by unfold boatOk; rw [s1, s2, s3]; rfl)
              go_wp2_with first | (go_at_call 81; refine (refSpan_any _ _ _ _ _).mono ?_; rintro e w4 ⟨rfl, hb4⟩; rw [s1]; have kl : Blk w4 wr.heap.size 51 (boatCells (Cut.boatAt x.boats k)) := Blk.below (by first | exact Blk.new' _ _ _ rfl) hb4 (by simp); have l2 := kl.cell 2 rfl; have l3 := kl.cell 3 rfl) | (go_at_call 80; refine (refIn_any _ _ _ _).mono ?_; rintro e w' ⟨rfl, rfl⟩; first | rw [s2] | rw [s3])
              go_ret
              refine ⟨by rw [hbad]; rfl, ?_⟩
              refine hb0.trans (Below.mono ?_ hb0.size)
              (repeat' first | (with_reducible assumption) | (with_reducible exact Below.refl _ _) | (with_reducible refine Below.drew ?_) | (with_reducible refine Below.setCell ?_ ?_ _) | (with_reducible refine Below.alloc ?_ ?_ _) | (refine Below.trans ?_ (Below.mono (by assumption) ?_)) | omega | (simp only [World.size_alloc] at *; omega))
            have hok : boatOk (Cut.boatAt x.boats k) = true := by unfold boatOk; rw [s1, s2, s3]; rfl
            go_wp2_with first | (go_at_call 81; refine (refSpan_any _ _ _ _ _).mono ?_; rintro e w4 ⟨rfl, hb4⟩; rw [s1]; have kl : Blk w4 wr.heap.size 51 (boatCells (Cut.boatAt x.boats k)) := Blk.below (by first | exact Blk.new' _ _ _ rfl) hb4 (by simp); have l2 := kl.cell 2 rfl; have l3 := kl.cell 3 rfl) | (go_at_call 80; refine (refIn_any _ _ _ _).mono ?_; rintro e w' ⟨rfl, rfl⟩; first | rw [s2] | rw [s3])
            have hb5 : Below wr.heap.size wr w4 := by (repeat' first | (with_reducible assumption) | (with_reducible exact Below.refl _ _) | (with_reducible refine Below.drew ?_) | (with_reducible refine Below.setCell ?_ ?_ _) | (with_reducible refine Below.alloc ?_ ?_ _) | (refine Below.trans ?_ (Below.mono (by assumption) ?_)) | omega | (simp only [World.size_alloc] at *; omega))
            refine ⟨⟨k + 1, by go_num, by omega, hb0.trans (hb5.mono hb0.size), kx.below hb5 hlt, ?_⟩, by simp [intOf]; omega⟩
            intro i hi
            rcases Nat.lt_succ_iff_lt_or_eq.1 hi with h | rfl
            · exact hno.out i h
            · exact hok
        · have hboats : Hid (x.boats.all boatOk = true) := all_upto x.boats boatOk Cut.nobody fun i hi => hno.out i (by omega)
          have c7 := kx.cell 7 rfl
          clear hno
          go_wp2
          clear hlt' hk
          go_loopw [6, 86, 87, 88, 89, 90, 91, 92, 93, 94, 95, 96, 97, 98, 99, 100, 101, 102, 103, 104, 105, 106, 107, 108, 109, 110, 111] (fun v6 _ _ _ _ _ _ _ _ _ _ _ _ _ _ _ _ _ _ _ _ _ _ _ _ _ _ wr => ∃ k : Nat, v6 = .int .i64 k ∧ k ≤ x.looks.length ∧ Below w.heap.size w wr ∧ Blk wr w.heap.size 28 (cutCells x ra ba la rc bc lc) ∧ Hid (∀ i, i < k → lookOk x (Cut.lookAt x.looks i) = true)) (fun v6 _ _ _ _ _ _ _ _ _ _ _ _ _ _ _ _ _ _ _ _ _ _ _ _ _ _ _ => x.looks.length - (intOf v6).toNat)
          case atStart => exact ⟨0, rfl, by omega, hb0, kx, fun i hi => by omega⟩
          case round =>
            clear hb0 kx hlt c6 c7
            obtain ⟨k, rfl, hk, hb0, kx, hno⟩ := hrel
            have hlt := kx.lt
            have c7 := kx.cell 7 rfl
            by_cases hlt' : k < x.looks.length
            · rcases HIN.out.looks with h0 | ⟨bb, off, rfl, hbb, hc⟩
              · omega
              · have hka := hc k 0 hlt' (by omega)
                have hkb := hc k 1 hlt' (by omega)
                have hkc := hc k 2 hlt' (by omega)
                rw [← hb0.cell (p := ⟨bb, _, none⟩) hbb] at hka hkb hkc
                simp [lookCell] at hka hkb hkc
                clear hc
                have hbs : bb < wr.heap.size := Nat.lt_of_lt_of_le hbb hb0.size
                have HKX := hide kx
                have c0 := kx.cell 0 rfl
                have c1 := kx.cell 1 rfl
                have c2 := kx.cell 2 rfl
                have c3 := kx.cell 3 rfl
                have c4 := kx.cell 4 rfl
                have c5 := kx.cell 5 rfl
                have c6 := kx.cell 6 rfl
                have hn62 : x.rain.length < 2 ^ 62 := by omega
                clear kx
                cases s1 : Cut.isDay x (Cut.lookAt x.looks k).day
                · skip
                  go_wp2_with fail
                  have hcl : ∃ s : Cls (Below (wr.heap.size) (wr)), (wr).drew = s.W := ⟨⟨_, (Below.refl _ _).drew⟩, rfl⟩
                  have hne : Nonempty (Cls (Below (wr.heap.size) (wr))) := ⟨⟨_, Below.refl _ _⟩⟩
                  have hS : ∀ (s : Cls (Below (wr.heap.size) (wr))) (b o : Nat), b < wr.heap.size → s.W.cell? ⟨b, o, none⟩ = (wr).cell? ⟨b, o, none⟩ := fun s b o h => s.ok.cell (p := ⟨b, o, none⟩) h
                  have hSf : ∀ (s : Cls (Below (wr.heap.size) (wr))) (b o : Nat), b < wr.heap.size → s.W.frozen? ⟨b, o, none⟩ = (wr).frozen? ⟨b, o, none⟩ := fun s b o h => s.ok.frozen (p := ⟨b, o, none⟩) h
                  refine wp_region_quiet_all (S := Cls (Below wr.heap.size wr)) Cls.W (by kernel_rfl) (by kernel_rfl) hcl ?_
                  clear hcl
                  repeat (go_big_quiet_step ((first | (go_at_call 49; refine (refDay_any x _ _ _ _ _ _ _ _ hn62).mono ?_; rintro e w2 ⟨rfl, hb⟩; rw [s1]; exact ⟨rfl, Cls.step _ (Nat.le_refl _) hb⟩) | (go_at_call 81; refine (refSpan_any _ _ _ _ _).mono ?_; rintro e w2 ⟨rfl, hb⟩; rw [s2]; exact ⟨rfl, Cls.step _ (Nat.le_refl _) hb⟩))))
                  refine wpQuiet_nil ?_
                  intro s'
                  go_wp2
                  go_ret
                  exact ⟨by rw [show Cut.valid x = false from valid_look k hlt' (by unfold lookOk; rw [s1]; rfl)]; rfl, hb0.trans (s'.ok.mono hb0.size)⟩
                · cases s2 : Cut.isSpan ((Cut.lookAt x.looks k).depth.1, (Cut.lookAt x.looks k).depth.2) 0 100
                  · skip
                    go_wp2_with fail
                    have hcl : ∃ s : Cls (Below (wr.heap.size) (wr)), (wr).drew = s.W := ⟨⟨_, (Below.refl _ _).drew⟩, rfl⟩
                    have hne : Nonempty (Cls (Below (wr.heap.size) (wr))) := ⟨⟨_, Below.refl _ _⟩⟩
                    have hS : ∀ (s : Cls (Below (wr.heap.size) (wr))) (b o : Nat), b < wr.heap.size → s.W.cell? ⟨b, o, none⟩ = (wr).cell? ⟨b, o, none⟩ := fun s b o h => s.ok.cell (p := ⟨b, o, none⟩) h
                    have hSf : ∀ (s : Cls (Below (wr.heap.size) (wr))) (b o : Nat), b < wr.heap.size → s.W.frozen? ⟨b, o, none⟩ = (wr).frozen? ⟨b, o, none⟩ := fun s b o h => s.ok.frozen (p := ⟨b, o, none⟩) h
                    refine wp_region_quiet_all (S := Cls (Below wr.heap.size wr)) Cls.W (by kernel_rfl) (by kernel_rfl) hcl ?_
                    clear hcl
                    repeat (go_big_quiet_step ((first | (go_at_call 49; refine (refDay_any x _ _ _ _ _ _ _ _ hn62).mono ?_; rintro e w2 ⟨rfl, hb⟩; rw [s1]; exact ⟨rfl, Cls.step _ (Nat.le_refl _) hb⟩) | (go_at_call 81; refine (refSpan_any _ _ _ _ _).mono ?_; rintro e w2 ⟨rfl, hb⟩; rw [s2]; exact ⟨rfl, Cls.step _ (Nat.le_refl _) hb⟩))))
                    refine wpQuiet_nil ?_
                    intro s'
                    go_wp2
                    go_ret
                    exact ⟨by rw [show Cut.valid x = false from valid_look k hlt' (by unfold lookOk; rw [s1, s2]; rfl)]; rfl, hb0.trans (s'.ok.mono hb0.size)⟩
                  · skip
                    go_wp2_with fail
                    have hcl : ∃ s : Cls (Below (wr.heap.size) (wr)), (wr).drew = s.W := ⟨⟨_, (Below.refl _ _).drew⟩, rfl⟩
                    have hne : Nonempty (Cls (Below (wr.heap.size) (wr))) := ⟨⟨_, Below.refl _ _⟩⟩
                    have hS : ∀ (s : Cls (Below (wr.heap.size) (wr))) (b o : Nat), b < wr.heap.size → s.W.cell? ⟨b, o, none⟩ = (wr).cell? ⟨b, o, none⟩ := fun s b o h => s.ok.cell (p := ⟨b, o, none⟩) h
                    have hSf : ∀ (s : Cls (Below (wr.heap.size) (wr))) (b o : Nat), b < wr.heap.size → s.W.frozen? ⟨b, o, none⟩ = (wr).frozen? ⟨b, o, none⟩ := fun s b o h => s.ok.frozen (p := ⟨b, o, none⟩) h
                    refine wp_region_quiet_all (S := Cls (Below wr.heap.size wr)) Cls.W (by kernel_rfl) (by kernel_rfl) hcl ?_
                    clear hcl
                    repeat (go_big_quiet_step ((first | (go_at_call 49; refine (refDay_any x _ _ _ _ _ _ _ _ hn62).mono ?_; rintro e w2 ⟨rfl, hb⟩; rw [s1]; exact ⟨rfl, Cls.step _ (Nat.le_refl _) hb⟩) | (go_at_call 81; refine (refSpan_any _ _ _ _ _).mono ?_; rintro e w2 ⟨rfl, hb⟩; rw [s2]; exact ⟨rfl, Cls.step _ (Nat.le_refl _) hb⟩))))
                    refine wpQuiet_nil ?_
                    intro s'
                    go_wp2
                    refine ⟨⟨k + 1, by go_num, by omega, hb0.trans (s'.ok.mono hb0.size), HKX.out.below s'.ok hlt, ?_⟩, by simp [intOf]; omega⟩
                    intro i hi
                    rcases Nat.lt_succ_iff_lt_or_eq.1 hi with h | rfl
                    · exact hno.out i h
                    · show lookOk x _ = true; unfold lookOk; rw [s1, s2]; rfl
            · have hvalid : Hid (Cut.valid x = true) := by
                show Cut.valid x = true
                rw [valid_split, HH.out, hr.out, hboats.out, all_upto x.looks (lookOk x) Cut.noLook fun i hi => hno.out i (by omega)]; rfl
              clear hno
              go_wp2
              go_ret
              exact ⟨by rw [hvalid.out]; rfl, hb0⟩
end Go.Proofs.YtlkhjnpflohfeaaDoor

/- Contracts of the small functions of the law package. -/
namespace Go.Proofs.YtlkhjnpflohfeaaDoor
open Go Go.Proofs Go.RowKit
attribute [local go_sem ↓] run_max_i64 run_min_i64

set_option maxHeartbeats 400000 in
theorem lawSpan_any (a b : Int) (w : World) :
    Calls Tryd.prog 36 #[.int .i64 a, .int .i64 b] w fun e w' => e = .returned (.agg #[.int .i64 a, .int .i64 b]) ∧ Below w.heap.size w w' := by
  go_enter Tryd.func36, Tryd.ntmps36
  go_wp2
  refine bodyPost_ret (by simp [results, Tryd.results36, go_sem, *]) rfl ⟨rfl, ?_⟩
  (repeat' first | (with_reducible assumption) | (with_reducible exact Below.refl _ _) | (with_reducible refine Below.drew ?_) | (with_reducible refine Below.setCell ?_ ?_ _) | (with_reducible refine Below.alloc ?_ ?_ _) | (refine Below.trans ?_ (Below.mono (by assumption) ?_)) | omega | (simp only [World.size_alloc, World.size_setCell, World.size_drew] at *; omega))

set_option maxHeartbeats 400000 in
theorem lawLook_any (d a b : Int) (w : World) :
    Calls Tryd.prog 37 #[.int .i64 d, .int .i64 a, .int .i64 b] w fun e w' => e = .returned (.agg #[.int .i64 d, .int .i64 a, .int .i64 b]) ∧ Below w.heap.size w w' := by
  go_enter Tryd.func37, Tryd.ntmps37
  go_wp2_with (go_at_call 36; refine (lawSpan_any _ _ _).mono ?_; rintro e w' ⟨rfl, hb⟩; obtain ⟨hc, hf⟩ := bcell hb; have hz := hb.size; simp at hz)
  refine bodyPost_ret (v := .agg #[.int .i64 d, .int .i64 a, .int .i64 b]) (by simp [results, Tryd.results37, go_sem, *]) rfl ⟨rfl, ?_⟩
  (repeat' first | (with_reducible assumption) | (with_reducible exact Below.refl _ _) | (with_reducible refine Below.drew ?_) | (with_reducible refine Below.setCell ?_ ?_ _) | (with_reducible refine Below.alloc ?_ ?_ _) | (refine Below.trans ?_ (Below.mono (by assumption) ?_)) | omega | (simp only [World.size_alloc] at *; omega))

set_option maxHeartbeats 400000 in
theorem inside_any (n a b : Int) (w : World) :
    Calls Tryd.prog 33 #[.int .i64 n, .agg #[.int .i64 a, .int .i64 b]] w fun e w' => e = .returned (.bool (Cut.within n a b)) ∧ Below w.heap.size w w' := by
  by_cases h : a ≤ n
  · go_enter Tryd.func33, Tryd.ntmps33
    go_wp2
    go_ret
    exact ⟨ret_bool (by grind [Cut.within]), by (repeat' first | (with_reducible assumption) | (with_reducible exact Below.refl _ _) | (with_reducible refine Below.drew ?_) | (with_reducible refine Below.setCell ?_ ?_ _) | (with_reducible refine Below.alloc ?_ ?_ _) | (refine Below.trans ?_ (Below.mono (by assumption) ?_)) | omega | (simp only [World.size_alloc, World.size_setCell, World.size_drew] at *; omega))⟩
  · have hd : decide (a ≤ n) = false := by simpa using h
    go_enter Tryd.func33, Tryd.ntmps33
    go_wp2
    go_ret
    exact ⟨ret_bool (by grind [Cut.within]), by (repeat' first | (with_reducible assumption) | (with_reducible exact Below.refl _ _) | (with_reducible refine Below.drew ?_) | (with_reducible refine Below.setCell ?_ ?_ _) | (with_reducible refine Below.alloc ?_ ?_ _) | (refine Below.trans ?_ (Below.mono (by assumption) ?_)) | omega | (simp only [World.size_alloc, World.size_setCell, World.size_drew] at *; omega))⟩

set_option maxHeartbeats 400000 in
theorem far_any (x : CutD) (ra ba la : Option Addr) (rc bc lc : Nat) (w : World) :
    Calls Tryd.prog 34 #[cutVal x ra ba la rc bc lc] w fun e w' => e = .returned (.bool (farD x)) ∧ Below w.heap.size w w' := by
  unfold cutVal
  go_enter Tryd.func34, Tryd.ntmps34
  go_wp2
  all_goals go_ret
  all_goals refine ⟨ret_bool ?_, by (repeat' first | (with_reducible assumption) | (with_reducible exact Below.refl _ _) | (with_reducible refine Below.drew ?_) | (with_reducible refine Below.setCell ?_ ?_ _) | (with_reducible refine Below.alloc ?_ ?_ _) | (refine Below.trans ?_ (Below.mono (by assumption) ?_)) | omega | (simp only [World.size_alloc, World.size_setCell, World.size_drew] at *; omega))⟩
  all_goals (unfold farD; grind)

set_option maxHeartbeats 400000 in
theorem fine_any (x : CutD) (ra ba la : Option Addr) (rc bc lc : Nat) (w : World) (hin : CutIn w x ra ba la) :
    Calls Tryd.prog 30 #[cutVal x ra ba la rc bc lc] w fun e w' => e = .returned (.bool (fineD x)) ∧ Below w.heap.size w w' := by
  have HIN := hide hin
  clear hin
  unfold cutVal
  cases hf : farD x
  all_goals
    go_enter Tryd.func30, Tryd.ntmps30
    go_wp2_with first | (go_at_call 34; refine (far_any x _ _ _ _ _ _ _).mono ?_; rintro e w1 ⟨rfl, hb⟩; rw [hf]; have kx : Blk w1 w.heap.size 28 (cutCells x ra ba la rc bc lc) := Blk.below (Blk.new _ _ _) hb (by simp); have hlt := kx.lt; have c0 := kx.cell 0 rfl; have c1 := kx.cell 1 rfl; have c2 := kx.cell 2 rfl; have c3 := kx.cell 3 rfl; have c4 := kx.cell 4 rfl; have c5 := kx.cell 5 rfl; have c6 := kx.cell 6 rfl; have c7 := kx.cell 7 rfl) | (go_at_call 35; refine (refCut_any x _ _ _ _ _ _ _ (HIN.out.below (by (repeat' first | (with_reducible assumption) | (with_reducible exact Below.refl _ _) | (with_reducible refine Below.drew ?_) | (with_reducible refine Below.setCell ?_ ?_ _) | (with_reducible refine Below.alloc ?_ ?_ _) | (refine Below.trans ?_ (Below.mono (by assumption) ?_)) | omega | (simp only [World.size_alloc] at *; omega))))).mono ?_; rintro e w2 ⟨rfl, hb2⟩)
  · go_ret
    exact ⟨ret_bool (by unfold fineD; rw [hf]; simp), by (repeat' first | (with_reducible assumption) | (with_reducible exact Below.refl _ _) | (with_reducible refine Below.drew ?_) | (with_reducible refine Below.setCell ?_ ?_ _) | (with_reducible refine Below.alloc ?_ ?_ _) | (refine Below.trans ?_ (Below.mono (by assumption) ?_)) | omega | (simp only [World.size_alloc] at *; omega))⟩
  · go_ret
    exact ⟨ret_bool (by unfold fineD; rw [hf]; simp), by (repeat' first | (with_reducible assumption) | (with_reducible exact Below.refl _ _) | (with_reducible refine Below.drew ?_) | (with_reducible refine Below.setCell ?_ ?_ _) | (with_reducible refine Below.alloc ?_ ?_ _) | (refine Below.trans ?_ (Below.mono (by assumption) ?_)) | omega | (simp only [World.size_alloc] at *; omega))⟩

end Go.Proofs.YtlkhjnpflohfeaaDoor

/- Contract of Depth. -/
namespace Go.Proofs.YtlkhjnpflohfeaaDoor
open Go Go.Proofs Go.RowKit
section
variable {B M : Nat} {x : CutD} {ra ba la : Option Addr} {rc bc lc : Nat}

set_option maxHeartbeats 400000 in
theorem depth1_any (d : Int) (K : Nat) (w : World) (h : CutAt w B M x ra ba la rc bc lc) (hb : Blk w K 3 [.int .i64 d]) :
    Calls Tryd.prog 44 #[.pointer (some ⟨B, 0, none⟩), .pointer (some ⟨K, 0, none⟩)] w fun e w' => e = .returned (.bool (Cut.isDay x d)) ∧ w = w' := by
  have c := hb.cell 0 rfl
  have H := hide h
  clear h hb
  go_enter Tryd.func44, Tryd.ntmps44
  go_wp2_with (go_at_call 45; refine (isDay_any _ _ H.out).mono ?_; rintro e w' ⟨rfl, rfl⟩)
  go_ret
  exact ⟨rfl, rfl⟩
end

set_option maxHeartbeats 1000000 in
theorem Depth_any (x : CutD) (d : Int) (ra ba la : Option Addr) (rc bc lc : Nat) (w : World) (hin : CutIn w x ra ba la) :
    Calls Tryd.prog 14 #[cutVal x ra ba la rc bc lc, .int .i64 d] w fun e w' => e = .returned (.tuple #[.agg #[.int .i64 (depthR x d).1.1, .int .i64 (depthR x d).1.2], .int .i64 (depthR x d).2]) ∧ Below w.heap.size w w' := by
  have HIN := hide hin
  clear hin
  unfold cutVal
  go_enter_defers Tryd.func14, Tryd.ntmps14
  go_wp2_with fail
  obtain ⟨w4, hw4⟩ : ∃ w4, ((((w.alloc (Obj.cells (cutCells x ra ba la rc bc lc).toArray 28)).alloc (Obj.cells #[Value.int IntKind.i64 d] 3)).alloc (Obj.cells #[Value.int IntKind.i64 0, Value.int IntKind.i64 0] 23)).alloc (Obj.cells #[Value.int IntKind.i64 0] 31)) = w4 := ⟨_, rfl⟩
  simp only [cutCells] at hw4
  rw [hw4]
  have hz4 : w4.heap.size = w.heap.size + 1 + 1 + 1 + 1 := by rw [← hw4]; simp
  have hb4 : Below w.heap.size w w4 := by rw [← hw4]; (repeat' first | (with_reducible assumption) | (with_reducible exact Below.refl _ _) | (with_reducible refine Below.drew ?_) | (with_reducible refine Below.setCell ?_ ?_ _) | (with_reducible refine Below.alloc ?_ ?_ _) | (refine Below.trans ?_ (Below.mono (by assumption) ?_)) | omega | (simp only [World.size_alloc] at *; omega))
  have b0 : Blk w4 w.heap.size 28 (cutCells x ra ba la rc bc lc) := by rw [← hw4]; exact ((((Blk.new' _ (cutCells x ra ba la rc bc lc) _ rfl).alloc _).alloc _).alloc _)
  have b1 : Blk w4 (w.heap.size + 1) 3 [.int .i64 d] := by rw [← hw4]; exact (((Blk.new' _ [_] _ (by simp)).alloc _).alloc _)
  have b2 : Blk w4 (w.heap.size + 1 + 1) 23 [.int .i64 0, .int .i64 0] := by rw [← hw4]; exact (Blk.new' _ [_, _] _ (by simp)).alloc _
  have b3 : Blk w4 (w.heap.size + 1 + 1 + 1) 31 [.int .i64 0] := by rw [← hw4]; exact Blk.new' _ [_] _ (by simp)
  have HIN4 := hide (HIN.out.below hb4)
  clear hw4
  refine wp_region_spine (C := fun W => Blk W w.heap.size 28 (cutCells x ra ba la rc bc lc) ∧ Blk W (w.heap.size + 1) 3 [.int .i64 d]) (QP := fun i c W => (i = 2 ∨ i = 3) ∧ c = [{ v := .iface 114 (.int .i64 (toldErr x (Cut.isDay x d))), recovered := false }] ∧ toldErr x (Cut.isDay x d) ≠ 0 ∧ Below w4.heap.size w4 W) [0, 1, 4] [2, 3, 5, 6, 7] (by kernel_rfl) (by kernel_rfl) ⟨b0, b1⟩ ?_ ?_
  · have q0 : ∀ s : Cls (fun W => Blk W w.heap.size 28 (cutCells x ra ba la rc bc lc) ∧ Blk W (w.heap.size + 1) 3 [.int .i64 d]), s.W.cell? ⟨w.heap.size, 0, none⟩ = some (.int .i64 x.depth.1) := fun s => s.ok.1.cell 0 rfl
    have q1 : ∀ s : Cls (fun W => Blk W w.heap.size 28 (cutCells x ra ba la rc bc lc) ∧ Blk W (w.heap.size + 1) 3 [.int .i64 d]), s.W.cell? ⟨w.heap.size, 1, none⟩ = some (.int .i64 x.depth.2) := fun s => s.ok.1.cell 1 rfl
    have q2 : ∀ s : Cls (fun W => Blk W w.heap.size 28 (cutCells x ra ba la rc bc lc) ∧ Blk W (w.heap.size + 1) 3 [.int .i64 d]), s.W.cell? ⟨w.heap.size, 2, none⟩ = some (.int .i64 x.leak.1) := fun s => s.ok.1.cell 2 rfl
    have q3 : ∀ s : Cls (fun W => Blk W w.heap.size 28 (cutCells x ra ba la rc bc lc) ∧ Blk W (w.heap.size + 1) 3 [.int .i64 d]), s.W.cell? ⟨w.heap.size, 3, none⟩ = some (.int .i64 x.leak.2) := fun s => s.ok.1.cell 3 rfl
    have q4 : ∀ s : Cls (fun W => Blk W w.heap.size 28 (cutCells x ra ba la rc bc lc) ∧ Blk W (w.heap.size + 1) 3 [.int .i64 d]), s.W.cell? ⟨w.heap.size, 4, none⟩ = some (.slice ra x.rain.length rc) := fun s => s.ok.1.cell 4 rfl
    have q5 : ∀ s : Cls (fun W => Blk W w.heap.size 28 (cutCells x ra ba la rc bc lc) ∧ Blk W (w.heap.size + 1) 3 [.int .i64 d]), s.W.cell? ⟨w.heap.size, 5, none⟩ = some (.int .i64 x.most) := fun s => s.ok.1.cell 5 rfl
    have q6 : ∀ s : Cls (fun W => Blk W w.heap.size 28 (cutCells x ra ba la rc bc lc) ∧ Blk W (w.heap.size + 1) 3 [.int .i64 d]), s.W.cell? ⟨w.heap.size, 6, none⟩ = some (.slice ba x.boats.length bc) := fun s => s.ok.1.cell 6 rfl
    have q7 : ∀ s : Cls (fun W => Blk W w.heap.size 28 (cutCells x ra ba la rc bc lc) ∧ Blk W (w.heap.size + 1) 3 [.int .i64 d]), s.W.cell? ⟨w.heap.size, 7, none⟩ = some (.slice la x.looks.length lc) := fun s => s.ok.1.cell 7 rfl
    have q8 : ∀ s : Cls (fun W => Blk W w.heap.size 28 (cutCells x ra ba la rc bc lc) ∧ Blk W (w.heap.size + 1) 3 [.int .i64 d]), s.W.cell? ⟨w.heap.size + 1, 0, none⟩ = some (.int .i64 d) := fun s => s.ok.2.cell 0 rfl
    iterate 3 (apply pan_cls; rfl; (intro s; first | (go_simp; rfl) | (go_simp; done)))
    refine pan_nil ?_
    clear q0 q1 q2 q3 q4 q5 q6 q7 q8
    simp only [Act.put, List.getElem_toArray, List.getElem_cons_succ, List.getElem_cons_zero, List.setIfInBounds_toArray, List.set_cons_succ, List.set_cons_zero]
    refine sp_call 43 #[cutVal x ra ba la rc bc lc, .func (.func 44) #[] #[.pointer (some ⟨w.heap.size + 1, 0, none⟩)]] rfl ?_ ?_
    · (first | (go_simp; rfl) | (go_simp; done))
    refine open_sp _ x ra ba la rc bc lc (Cut.isDay x d) _ (HIN4.out.below (Below.refl _ _).drew) ?_ ?_ ?_
    · refine ⟨_, _, rfl, enters_of Tryd.func44 (by kernel_rfl) rfl, fun B M la lc w' _ hb _ _ hc => ?_⟩
      exact depth1_any d (w.heap.size + 1) w' hc (b1.below (below_dr hb) (by show _ < w4.heap.size; omega))
    · rintro n w' rfl hn hb
      exact ⟨.inl rfl, rfl, hn, below_dr hb⟩
    intro B M la' lc' w5 hv hday hB hM hb5' hcut
    have hb5 := below_dr hb5'
    clear hb5'
    have c0 := b0.below hb5 (by show _ < w4.heap.size; omega)
    have c1 := b1.below hb5 (by show _ < w4.heap.size; omega)
    have c2 := b2.below hb5 (by show _ < w4.heap.size; omega)
    have c3 := b3.below hb5 (by show _ < w4.heap.size; omega)
    refine ⟨⟨c0, c1⟩, ?_⟩
    refine sp_call 46 #[.pointer (some ⟨B, 0, none⟩)] rfl ?_ ?_
    · (first | (go_simp; rfl) | (go_simp; done))
    refine told_sp w5 hcut hv ?_ ?_
    · intro w6 he hb6
      rw [hday, he]
      exact ⟨.inr rfl, rfl, by decide, hb5.trans (hb6.below_lt hM (by exact hb5.size))⟩
    intro w6 hcan hb6 hcut6
    have hb6' : Below w4.heap.size w4 w6 := hb5.trans (hb6.below_lt hM hb5.size)
    have d0 := b0.below hb6' (by omega)
    have d1 := b1.below hb6' (by omega)
    refine ⟨⟨d0, d1⟩, ?_⟩
    have hdd : 0 ≤ d ∧ d ≤ x.rain.length := by simpa [Cut.isDay, Cut.within] using hday
    obtain ⟨k, rfl⟩ := Int.eq_ofNat_of_zero_le hdd.1
    refine sp_call 47 #[.pointer (some ⟨B, 0, none⟩), .int .i64 k] rfl ?_ ?_
    · (first | (go_simp; rfl) | (go_simp; done))
    refine (water_any k w6 hcut6 hv hcan (by omega)).mono ?_
    rintro e w7 ⟨rfl, hb7, hk7⟩
    have hb7' : Below w4.heap.size w4 w7 := hb6'.trans (hb7.below_lt hM hb6'.size)
    have e0 := b0.below hb7' (by omega)
    have e1 := b1.below hb7' (by omega)
    have e2 := b2.below hb7' (by omega)
    have e3 := b3.below hb7' (by omega)
    refine ⟨⟨e0, e1⟩, ?_⟩
    have r0 := e2.cell 0 rfl
    have r1 := e2.cell 1 rfl
    have r2 := e2.free 0
    have r3 := e2.free 1
    have r4 := e3.cell 0 rfl
    have r5 := e3.free 0
    refine sp_skip (w' := (w7.setCell ⟨w.heap.size + 1 + 1, 0, none⟩ (.int .i64 (Cut.water x k).1)).setCell ⟨w.heap.size + 1 + 1, 1, none⟩ (.int .i64 (Cut.water x k).2)) rfl ?_ ?_ ?_
    · (first | (go_simp; rfl) | (go_simp; done))
    · exact ⟨(e0.other (by omega) _ _).other (by omega) _ _, (e1.other (by omega) _ _).other (by omega) _ _⟩
    refine sp_skip (w' := ((w7.setCell ⟨w.heap.size + 1 + 1, 0, none⟩ (.int .i64 (Cut.water x k).1)).setCell ⟨w.heap.size + 1 + 1, 1, none⟩ (.int .i64 (Cut.water x k).2)).setCell ⟨w.heap.size + 1 + 1 + 1, 0, none⟩ (.int .i64 0)) rfl ?_ ?_ ?_
    · (first | (go_simp; rfl) | (go_simp; done))
    · exact ⟨((e0.other (by omega) _ _).other (by omega) _ _).other (by omega) _ _, ((e1.other (by omega) _ _).other (by omega) _ _).other (by omega) _ _⟩
    refine sp_nil ?_
    simp only [Act.put, List.getElem_toArray, List.getElem_cons_succ, List.getElem_cons_zero, List.setIfInBounds_toArray, List.set_cons_succ, List.set_cons_zero]
    have hfin : Hid (depthR x k = (Cut.water x k, 0)) := by
      unfold depthR
      rw [hday, toldErr_ok hv hcan, if_pos rfl]; rfl
    have s2 := ((e2.set 0 (.int .i64 (Cut.water x k).1)).set 1 (.int .i64 (Cut.water x k).2)).other (show w.heap.size + 1 + 1 ≠ w.heap.size + 1 + 1 + 1 by omega) 0 (.int .i64 0)
    simp only [List.set_cons_zero, List.set_cons_succ] at s2
    have s3 := ((e3.other (show w.heap.size + 1 + 1 + 1 ≠ w.heap.size + 1 + 1 by omega) 0 (.int .i64 (Cut.water x k).1)).other (show w.heap.size + 1 + 1 + 1 ≠ w.heap.size + 1 + 1 by omega) 1 (.int .i64 (Cut.water x k).2)).set 0 (.int .i64 0)
    have hbf := (((hb4.trans (hb7'.mono (by omega))).setCell (p := ⟨w.heap.size + 1 + 1, 0, none⟩) (show w.heap.size ≤ w.heap.size + 1 + 1 by omega) (.int .i64 (Cut.water x k).1)).setCell (p := ⟨w.heap.size + 1 + 1, 1, none⟩) (show w.heap.size ≤ w.heap.size + 1 + 1 by omega) (.int .i64 (Cut.water x k).2)).setCell (p := ⟨w.heap.size + 1 + 1 + 1, 0, none⟩) (show w.heap.size ≤ w.heap.size + 1 + 1 + 1 by omega) (.int .i64 0)
    clear r0 r1 r2 r3 r4 r5 e0 e1 e2 e3 c0 c1 c2 c3 d0 d1 b0 b1 b2 b3
    go_wp2
    refine leaves_idle rfl (results2 rfl (read_blk (w.heap.size + 1 + 1) 23 _ _ rfl s2 Tryd.underlying23 rfl (by kernel_rfl)) (read_cell1 (w.heap.size + 1 + 1 + 1) (.int .i64 0) rfl (s3.cell 0 rfl) (by kernel_rfl))) ⟨?_, hbf⟩
    rw [hfin.out]
  · rintro i c w' a' ⟨hi, rfl, hne, hb⟩ hdef hsl
    have hb' := hb4.trans (hb.mono (by omega))
    have c2 := b2.below hb (by omega)
    have c3 := b3.below hb (by omega)
    have t4 := hsl 4 (by rcases hi with rfl | rfl <;> kernel_rfl)
    have t5 := hsl 5 (by rcases hi with rfl | rfl <;> kernel_rfl)
    simp only [Exit.then]
    show Leaves Tryd.prog Tryd.f14 a'.tmps _ a'.defers (.panicking _) w'
    rw [hdef]
    have s2 := c2.other (show w.heap.size + 1 + 1 ≠ w.heap.size + 1 + 1 + 1 by omega) 0 (.int .i64 (toldErr x (Cut.isDay x d)))
    have s3 := c3.set 0 (.int .i64 (toldErr x (Cut.isDay x d)))
    refine leaves_refused (c3.cell 0 rfl) (c3.free 0) rfl (results2 rfl (read_blk (w.heap.size + 1 + 1) 23 _ _ (by rw [t4]; rfl) s2 Tryd.underlying23 rfl (by kernel_rfl)) (read_cell1 (w.heap.size + 1 + 1 + 1) _ (by rw [t5]; rfl) (s3.cell 0 rfl) (by kernel_rfl))) ⟨?_, hb'.setCell (p := ⟨w.heap.size + 1 + 1 + 1, 0, none⟩) (show w.heap.size ≤ w.heap.size + 1 + 1 + 1 by omega) _⟩
    unfold depthR
    rw [if_neg hne]
end Go.Proofs.YtlkhjnpflohfeaaDoor

/- Contract of Leak. -/
namespace Go.Proofs.YtlkhjnpflohfeaaDoor
open Go Go.Proofs Go.RowKit
attribute [local go_sem] Oper.semAt_some

namespace Cut
end Cut
def leakF (x : CutD) (l : List (Fin 11)) : List (Int × Int) := (l.filter fun y => Cut.some (Cut.seasonAt x (lv y) (Cut.every x) 0)).map fun y => (lv y, lv y)
theorem leakF_all {x : CutD} (hv : Cut.valid x = true) : leakF x (leaksF x) = Cut.leakSpans x := by
  unfold leakF Cut.leakSpans
  rw [← leaksF_map (Cut.valid_of hv), List.filter_map, List.map_map]; rfl
theorem leakF_yes {x : CutD} (l : List (Fin 11)) (y : Fin 11) (h : Cut.some (Cut.seasonAt x (lv y) (Cut.every x) 0) = true) : leakF x (l ++ [y]) = leakF x l ++ [(lv y, lv y)] := by
  unfold leakF; rw [List.filter_append, List.map_append]; simp [h]
theorem leakF_no {x : CutD} (l : List (Fin 11)) (y : Fin 11) (h : Cut.some (Cut.seasonAt x (lv y) (Cut.every x) 0) = false) : leakF x (l ++ [y]) = leakF x l := by
  unfold leakF; rw [List.filter_append, List.map_append]; simp [h]
theorem leakF_le {x : CutD} (l : List (Fin 11)) : (leakF x l).length ≤ l.length := by
  unfold leakF
  rw [List.length_map]; exact List.length_filter_le _ _

set_option maxHeartbeats 2000000 in
set_option maxRecDepth 100000 in
theorem Leak_any (x : CutD) (ra ba la : Option Addr) (rc bc lc : Nat) (w : World) (hin : CutIn w x ra ba la) :
    Calls Tryd.prog 16 #[cutVal x ra ba la rc bc lc] w fun e w' => e = .returned (.tuple #[.agg #[.int .i64 (leakR x).1.1, .int .i64 (leakR x).1.2], .int .i64 (leakR x).2]) ∧ Below w.heap.size w w' := by
  have HIN := hide hin
  clear hin
  unfold cutVal
  refine (callsIn_wide (n := 4)).1 ?_
  refine callsIn_of_wp_marks Tryd.func16 rfl trivial ?_ rfl
  simp only [Tryd.ntmps16, List.size_toArray, List.length_cons, List.length_nil, Nat.reduceAdd, Nat.reduceSub, Array.replicate_succ, Array.replicate_zero, List.push_toArray, List.append_toArray, List.nil_append, List.cons_append]
  gi_wp2_with fail
  obtain ⟨w3, hw3⟩ : ∃ w3, (((w.alloc (Obj.cells (cutCells x ra ba la rc bc lc).toArray 28)).alloc (Obj.cells #[Value.int IntKind.i64 0, Value.int IntKind.i64 0] 23)).alloc (Obj.cells #[Value.int IntKind.i64 0] 31)) = w3 := ⟨_, rfl⟩
  simp only [cutCells] at hw3
  rw [hw3]
  have hz3 : w3.heap.size = w.heap.size + 1 + 1 + 1 := by rw [← hw3]; simp
  have hb3 : Below w.heap.size w w3 := by rw [← hw3]; (repeat' first | (with_reducible assumption) | (with_reducible exact Below.refl _ _) | (with_reducible refine Below.drew ?_) | (with_reducible refine Below.setCell ?_ ?_ _) | (with_reducible refine Below.alloc ?_ ?_ _) | (refine Below.trans ?_ (Below.mono (by assumption) ?_)) | omega | (simp only [World.size_alloc] at *; omega))
  have b1 : Blk w3 (w.heap.size + 1) 23 [.int .i64 0, .int .i64 0] := by rw [← hw3]; exact (Blk.new' _ [_, _] _ (by simp)).alloc _
  have b2 : Blk w3 (w.heap.size + 1 + 1) 31 [.int .i64 0] := by rw [← hw3]; exact Blk.new' _ [_] _ (by simp)
  have HIN3 := hide (HIN.out.below hb3)
  clear hw3
  refine ⟨trivial, ?_⟩
  refine (callsIn_wide.2 (open_any _ x ra ba la rc bc lc true _ HIN3.out ?_)).mono ?_
  · exact ⟨_, _, rfl, enters_of Tryd.func51 (by kernel_rfl) rfl, fun B M la lc w' _ _ _ _ _ => always_any B w'⟩
  rintro e w5 ⟨hb5, h⟩
  have c1 := b1.below hb5 (by omega)
  have c2 := b2.below hb5 (by omega)
  have hb5' := hb3.trans (hb5.mono (show w.heap.size ≤ w3.heap.size by omega))
  rcases h with ⟨hv, rfl⟩ | ⟨hv, hbf, rfl⟩ | ⟨hv, hbt, B, M, la', lc', hB, hM, rfl, hcut⟩
  · refine leavesM_refused (c2.cell 0 rfl) (c2.free 0) rfl (results2 rfl (read_blk (w.heap.size + 1) 23 _ _ rfl (c1.other (by omega) _ _) Tryd.underlying23 rfl (by kernel_rfl)) (read_cell1 (w.heap.size + 1 + 1) _ rfl ((c2.set 0 _).cell 0 rfl) (by kernel_rfl))) ⟨?_, hb5'.setCell (p := ⟨w.heap.size + 1 + 1, 0, none⟩) (show w.heap.size ≤ w.heap.size + 1 + 1 by omega) _⟩
    unfold leakR
    rw [toldErr_bad hv]; rfl
  · cases hbf
  · have HCut := hide hcut
    clear hcut
    gi_wp2_with fail
    refine ⟨trivial, ?_⟩
    cases hcan : Cut.can x (Cut.every x) with
    | false =>
      refine (callsIn_wide.2 (told_no w5 HCut.out hv hcan)).mono ?_
      rintro e w6 ⟨rfl, hb6, hk6⟩
      have hb6' := hb6.below_lt (N' := w3.heap.size) hM hb5.size
      have d1 := c1.below hb6' (by omega)
      have d2 := c2.below hb6' (by omega)
      refine leavesM_refused (d2.cell 0 rfl) (d2.free 0) rfl (results2 rfl (read_blk (w.heap.size + 1) 23 _ _ rfl (d1.other (by omega) _ _) Tryd.underlying23 rfl (by kernel_rfl)) (read_cell1 (w.heap.size + 1 + 1) _ rfl ((d2.set 0 _).cell 0 rfl) (by kernel_rfl))) ⟨?_, (hb5'.trans (hb6'.mono (by omega))).setCell (p := ⟨w.heap.size + 1 + 1, 0, none⟩) (show w.heap.size ≤ w.heap.size + 1 + 1 by omega) _⟩
      unfold leakR
      rw [toldErr_clash hv hcan]; rfl
    | true =>
      refine (callsIn_wide.2 (told_yes w5 HCut.out hv hcan)).mono ?_
      rintro e w6 ⟨rfl, hb6, hk6⟩
      have hb6' := hb6.below_lt (N' := w3.heap.size) hM hb5.size
      have HC6 := hide (HCut.out.bel hb6 hk6)
      have d1 := c1.below hb6' (by omega)
      have d2 := c2.below hb6' (by omega)
      have hz6 := hb6.size
      have hz5 := hb5.size
      have hM6 := HC6.out.kept.lt
      have hB6 := HC6.out.blk.lt
      have hBM := HC6.out.ne
      have hfin : Hid (leakR x = (Cut.leakSpan x, 0)) := by
        unfold leakR
        rw [toldErr_ok hv hcan, if_pos rfl]; rfl
      have hbw6 : Hid (Below w.heap.size w w6) := hb5'.trans (hb6'.mono (by omega))
      have HP := hide (Cut.leakSpans_pos x hcan)
      have HS := hide (leakF_all hv)
      clear b1 b2 c1 c2 hk6 hb6 hb6' hb5' hb5
      gi_wp2_with (refine ⟨trivial, ?_⟩; gi_at_call 52; refine (callsIn_wide.2 (leaks_any _)).mono ?_; rintro e w' ⟨rfl, rfl⟩)
      obtain ⟨w9, hw9⟩ : ∃ w9, (((w6.alloc (Obj.cells #[Value.pointer (some ⟨B, 0, none⟩)] 70)).alloc (Obj.cells #[Value.slice none 0 0] 24)).alloc (Obj.cells #[Value.pointer (some ⟨B, 0, none⟩)] 70)) = w9 := ⟨_, rfl⟩
      rw [hw9]
      have hz9 : w9.heap.size = w6.heap.size + 1 + 1 + 1 := by rw [← hw9]; simp
      have hb9 : Below w6.heap.size w6 w9 := by rw [← hw9]; (repeat' first | (with_reducible assumption) | (with_reducible exact Below.refl _ _) | (with_reducible refine Below.drew ?_) | (with_reducible refine Below.setCell ?_ ?_ _) | (with_reducible refine Below.alloc ?_ ?_ _) | (refine Below.trans ?_ (Below.mono (by assumption) ?_)) | omega | (simp only [World.size_alloc] at *; omega))
      have b0 : Blk w9 w6.heap.size 70 [.pointer (some ⟨B, 0, none⟩)] := by rw [← hw9]; exact ((Blk.new' _ [_] _ rfl).alloc _).alloc _
      have b3 : Blk w9 (w6.heap.size + 1) 24 [.slice none 0 0] := by rw [← hw9]; exact (Blk.new' _ [_] _ (by simp)).alloc _
      have b4 : Blk w9 (w6.heap.size + 1 + 1) 70 [.pointer (some ⟨B, 0, none⟩)] := by rw [← hw9]; exact Blk.new' _ [_] _ (by simp)
      have HC9 := hide (HC6.out.below hb9)
      have e1 := d1.below hb9 (by omega)
      have e2 := d2.below hb9 (by omega)
      clear hw9 d1 d2
      refine wpIn_rangeFunc_ownG rfl (by omega) (gf := 86) (lb := #[.pointer (some ⟨w6.heap.size + 1 + 1, 0, none⟩)]) rfl trivial (enters_of Tryd.func86 (by kernel_rfl) rfl)
        (leaks_stops2 hv 3 (w6.heap.size + 1 + 1) w9 b4 HC9.out.blk.lt (HC9.out.blk.cell 2 rfl) (HC9.out.blk.cell 3 rfl)) (fun h k => h.trans k) (fun W l o o' hl _ _ _ => ⟨World.putObj_heap_other (by omega), World.putObj_heap_other (by omega)⟩) (Below.refl _ _) (fun _ => rfl)
        (fun pre W => ∃ v, WI w9 B (w6.heap.size + 1) (w6.heap.size + 1 + 1) M x v (leakF x pre) W)
        (fun c pre W => False)
        (fun s X Y row hs hg hr => by
          obtain ⟨v, h1, h2, h3, h4, h5, h6⟩ := hs
          exact ⟨v, h1.grown hg (by omega) (by omega) (fun r e => (hr r e).1), h2.grown (B0 := w9.heap.size) hg (by omega) (fun r e => (hr r e).1), h3.grown (B0 := w9.heap.size) hg (by omega) (fun r e => (hr r e).1), h4.grown hg (fun r e => (hr r e).2), Nat.le_trans h5 hg.size, h6.grown (B0 := w9.heap.size) hg (by omega) (fun r e => (hr r e).1)⟩)
        (fun c s X Y row hs hg hr => hs.elim)
        ⟨_, Bel.refl _ _ _, HC9.out.kept, b3, OwnsS.nil _ _, Nat.le_refl _, b4⟩
        (fun y => { tmps := #[.agg #[.int .i64 x.depth.1, .int .i64 x.depth.2, .int .i64 x.leak.1, .int .i64 x.leak.2, .slice ra x.rain.length rc, .int .i64 x.most, .slice ba x.boats.length bc, .slice la x.looks.length lc], .pointer (some ⟨w.heap.size, 0, none⟩), .pointer (some ⟨w.heap.size + 1, 0, none⟩), .pointer (some ⟨w.heap.size + 1 + 1, 0, none⟩), .pointer (some ⟨w6.heap.size, 0, none⟩), .pointer (some ⟨w6.heap.size + 1, 0, none⟩), .int .i64 (lv y), .agg #[.int .i64 x.depth.1, .int .i64 x.depth.2, .int .i64 x.leak.1, .int .i64 x.leak.2, .slice ra x.rain.length rc, .int .i64 x.most, .slice ba x.boats.length bc, .slice la x.looks.length lc], .pointer (some ⟨B, 0, none⟩), .pointer (some ⟨B, 0, none⟩), .pointer (some ⟨B, 0, none⟩), .func (.func 86) #[] #[.pointer (some ⟨w6.heap.size + 1 + 1, 0, none⟩)], .int .i64 (lv y), undef, undef, undef, undef, undef, undef, undef, undef, undef, undef, undef, undef, undef, undef, undef, undef], defers := [] }) ?assign ?body ?done ?stop
      case assign =>
        intro l y W K hK
        gi_wp2
        exact hK
      case body =>
        rintro l pre y W ⟨v, hWI⟩ hpre
        obtain ⟨hB', hkept, d3, hown, hsz, d4⟩ := id hWI
        have HCW := hide (HC6.out.bel ((Bel.of_below hb9).trans (hB'.mono (by omega))) hkept)
        have e0 := b0.bel hB' (by omega) (by omega)
        have hMW : M < W.heap.size := by omega
        have HWI := hide hWI
        clear hWI hown d3 d4 hkept
        gi_wp2_with fail
        have q0 : ∀ s : FCls (fun _ W' => KBase W M x W'), s.W.cell? ⟨w6.heap.size, 0, none⟩ = some (.pointer (some ⟨B, 0, none⟩)) := fun s => (e0.bel s.ok.1 e0.lt (by omega)).cell 0 rfl
        have ix : ∀ W : World, (Instr.index 85 (.agg (cells18 (Cut.seasonAt x (lv y) (Cut.every x))).toArray) (.int .i64 0)).run Tryd.prog W = .ok (.agg #[.int .i64 (Cut.seasonAt x (lv y) (Cut.every x) 0).1, .int .i64 (Cut.seasonAt x (lv y) (Cut.every x) 0).2]) W := fun W => index_c18 _ 0 (by omega) W
        refine wpIn_region_floats (D := fun _ W' => KBase W M x W') [0, 1, 2, 3, 4, 5, 6, 7] [] 8 l _ (by kernel_rfl) (by kernel_rfl) (by kernel_rfl) (fun i hi => by cases hi) ⟨(Bel.refl _ _ _).drew, HCW.out.kept.drew⟩ ?_
        iterate 3 (apply fl_cls; rfl; (intro s; first | (go_simp; rfl) | (go_simp; done)))
        refine fl_call 54 #[.pointer (some ⟨B, 0, none⟩)] (v := .int .u64 (Cut.every x : Nat)) rfl (fun s => ?_) (fun s => ?_) ?_
        · (first | (go_simp; rfl) | (go_simp; done))
        · refine (every_any _ (HCW.out.bel s.ok.1 s.ok.2) (Cut.valid_of hv).k5).mono ?_
          rintro e w' ⟨rfl, rfl⟩
          exact ⟨rfl, s.ok⟩
        iterate 1 (apply fl_cls; rfl; (intro s; first | (go_simp; rfl) | (go_simp; done)))
        refine fl_call 53 #[.pointer (some ⟨B, 0, none⟩), .agg #[.int .i64 (lv y), .int .u64 (Cut.every x : Nat)]] (v := .agg (cells18 (Cut.seasonAt x (lv y) (Cut.every x))).toArray) rfl (fun s => ?_) (fun s => ?_) ?_
        · (first | (go_simp; rfl) | (go_simp; done))
        · refine (season_any _ _ _ (HCW.out.bel s.ok.1 s.ok.2) hv (lv_le y) (every_lt hv)).mono ?_
          rintro e w' ⟨rfl, hb, hk⟩
          exact ⟨rfl, s.ok.1.trans (hb.mono s.ok.1.size), hk⟩
        iterate 1 (apply fl_cls; rfl; (intro s; first | (go_simp; rfl) | (go_simp; done)))
        refine fl_call 55 #[.agg #[.int .i64 (Cut.seasonAt x (lv y) (Cut.every x) 0).1, .int .i64 (Cut.seasonAt x (lv y) (Cut.every x) 0).2]] (v := .bool (Cut.some (Cut.seasonAt x (lv y) (Cut.every x) 0))) rfl (fun s => ?_) (fun s => ?_) ?_
        · (first | (go_simp; rfl) | (go_simp; done))
        · refine (some_any _ _ _).mono ?_
          rintro e w' ⟨rfl, hb⟩
          exact ⟨rfl, s.ok.1.trans (Bel.of_below (hb.mono s.ok.1.size)), s.ok.2.below hb s.ok.2.lt⟩
        refine fl_nil ?_
        clear q0 ix
        intro fl w8 hD _
        (simp only [flAct, dstOf, Act.put, List.foldl_nil, List.getElem?_toArray, List.getElem_toArray, List.getElem_cons_succ, List.getElem_cons_zero, List.setIfInBounds_toArray, List.set_cons_succ, List.set_cons_zero])
        obtain ⟨hW8, hk8⟩ := hD
        have hI8 := HWI.out.go hW8 hk8 (by omega) (by omega) (by omega)
        have d38 := hI8.cell.cell 0 rfl
        have f38 := hI8.cell.free 0
        have hl8 := hI8.cell.lt
        have HI8 := hide hI8
        clear hI8
        simp only [List.drop_succ_cons, List.drop_zero]
        go_wp2
        simp only [NoOut]
        have hlen := leakF_le (x := x) pre
        have h58 : w9.heap.size ≤ w8.heap.size := HI8.out.size
        cases hsm : Cut.some (Cut.seasonAt x (lv y) (Cut.every x) 0) with
        | true =>
          have HN := hide (leakF_yes pre y hsm)
          clear hsm
          obtain ⟨i0, hi, hz0, hz1, hz2⟩ := info_parts span_info
          have HOB := hide ((HI8.out.own).alloc (Obj.cells #[Value.int IntKind.i64 (lv y), Value.int IntKind.i64 (lv y)] 23))
          have hc1 : Hid (∀ j u, [Value.int IntKind.i64 (lv y), Value.int IntKind.i64 (lv y)][j]? = some u → (w8.alloc (Obj.cells #[Value.int IntKind.i64 (lv y), Value.int IntKind.i64 (lv y)] 23)).cell? (Addr.add ⟨w8.heap.size, 0, none⟩ j) = some u) := fun j u hj => by
            have := (Blk.new w8 [Value.int IntKind.i64 (lv y), Value.int IntKind.i64 (lv y)] 23).cell j hj
            rwa [show Addr.add ⟨w8.heap.size, 0, none⟩ j = ⟨w8.heap.size, j, none⟩ by simp [Addr.add]; exact fun h => h.symm]
          have hc2 : Hid (∀ u ∈ [Value.int IntKind.i64 (lv y), Value.int IntKind.i64 (lv y)], u.oneCell' = true) := by
            intro u hu; simp only [List.mem_cons, List.not_mem_nil, or_false] at hu; rcases hu with rfl | rfl <;> rfl
          gi_wp2_with (gi_at_builtin; refine wpListIn_append_own _ rfl (.tmp 21) (.tmp 25) 24 rfl w9.heap.size 23 i0 _ 2 16 Tryd.underlying24 hi hz0 hz1 hz2 rfl (by decide) v _ _ rfl HOB.out ⟨w8.heap.size, 0, none⟩ 1 1 _ rfl rfl hc1.out hc2.out (by unfold maxLen; omega) (by omega) (by simp; omega) ?_; intro v' w10 hown9 hg9 _; obtain ⟨sa, sn, sc, rfl⟩ := ownsRow_slice hown9; have HO9 := hide (OwnsS.snoc (s := (lv y, lv y)) hown9); have HG9 := hide hg9; have k9 := (HI8.out.cell.alloc _).grown (B0 := w9.heap.size) hg9 (by omega) (fun r hr => OwnsS.from HI8.out.own hr); have kc9 := k9.cell 0 rfl; have kf9 := k9.free 0; clear hown9 hg9)
          refine ⟨(hW8.keeps (by omega)).trans (HI8.out.keepsPush _ HG9.out), (WI.keep2 hW8 (by omega) (by omega) (by omega) (by omega)).trans (HI8.out.keep2Push _ (by omega) (by omega) (by omega) (by omega) (by omega) HG9.out), ⟨.slice sa sn sc, ?_⟩⟩
          rw [HN.out]
          exact HI8.out.push _ (by omega) (by omega) (by omega) HG9.out HO9.out
        | false =>
          have HN := hide (leakF_no pre y hsm)
          clear hsm
          gi_wp2
          refine ⟨hW8.keeps (by omega), WI.keep2 hW8 (by omega) (by omega) (by omega) (by omega), ⟨v, ?_⟩⟩
          rw [HN.out]
          exact HI8.out
      case done =>
        rintro D ys W hD rfl ⟨v, hI⟩ hK
        rw [HS.out] at hI
        obtain ⟨g, cap, rfl, hg, hlc, hcap, hgl, hcells⟩ := hI.own.row HP.out
        have q5 := hI.cell.cell 0 rfl
        have f1 := e1.bel hI.bel (by omega) (by omega)
        have f2 := e2.bel hI.bel (by omega) (by omega)
        have HI := hide hI
        have HCe := hide hcells
        have hsz := hI.size
        clear hI hcells
        gi_wp2_with (refine ⟨trivial, ?_⟩; gi_at_call 56; refine (callsIn_wide.2 (joined_any (Cut.leakSpans x) g 0 cap _ HP.out hlc hcap hgl HCe.out)).mono ?_; rintro e w10 ⟨rfl, hb10⟩; have h1 := f1.below hb10 f1.lt; have h2 := f2.below hb10 f2.lt; have k0 := h1.cell 0 rfl; have k1 := h1.cell 1 rfl; have k2 := h1.free 0; have k3 := h1.free 1; have k4 := h2.cell 0 rfl; have k5 := h2.free 0)
        have hDW : D < W.heap.size := (Array.getElem?_eq_some_iff.1 hK).1
        have hD9 : ((((w10.setCell ⟨w.heap.size + 1, 0, none⟩ (.int .i64 (Cut.joined (Cut.leakSpans x)).1)).setCell ⟨w.heap.size + 1, 1, none⟩ (.int .i64 (Cut.joined (Cut.leakSpans x)).2))).setCell ⟨w.heap.size + 1 + 1, 0, none⟩ (.int .i64 0)).heap[D]? = some (.deferred (some [])) :=
          (Below.heap_setCell _ ⟨w.heap.size + 1 + 1, 0, none⟩ _ D (by show D ≠ w.heap.size + 1 + 1; omega)).trans ((Below.heap_setCell _ ⟨w.heap.size + 1, 1, none⟩ _ D (by show D ≠ w.heap.size + 1; omega)).trans ((Below.heap_setCell _ ⟨w.heap.size + 1, 0, none⟩ _ D (by show D ≠ w.heap.size + 1; omega)).trans ((hb10.block D hDW).trans hK)))
        have t1 := ((((h1.set 0 (.int .i64 (Cut.joined (Cut.leakSpans x)).1)).set 1 (.int .i64 (Cut.joined (Cut.leakSpans x)).2))).other (show w.heap.size + 1 ≠ w.heap.size + 1 + 1 by omega) 0 (.int .i64 0)).put (l := D) (o := .deferred none) (by omega)
        have t2 := (((h2.other (show w.heap.size + 1 + 1 ≠ w.heap.size + 1 by omega) 0 (.int .i64 (Cut.joined (Cut.leakSpans x)).1)).other (show w.heap.size + 1 + 1 ≠ w.heap.size + 1 by omega) 1 (.int .i64 (Cut.joined (Cut.leakSpans x)).2)).set 0 (.int .i64 0)).put (l := D) (o := .deferred none) (by omega)
        simp only [List.set_cons_zero, List.set_cons_succ] at t1
        have hbw : Below w.heap.size w w10 := ((hbw6.out.trans (hb9.mono (by omega))).trans ((HI.out.bel.below_lt (by omega) (by omega)))).trans (hb10.mono (by omega))
        have hbx := (((hbw.setCell (p := ⟨w.heap.size + 1, 0, none⟩) (by show w.heap.size ≤ w.heap.size + 1; omega) (.int .i64 (Cut.joined (Cut.leakSpans x)).1)).setCell (p := ⟨w.heap.size + 1, 1, none⟩) (by show w.heap.size ≤ w.heap.size + 1; omega) (.int .i64 (Cut.joined (Cut.leakSpans x)).2)).setCell (p := ⟨w.heap.size + 1 + 1, 0, none⟩) (by show w.heap.size ≤ w.heap.size + 1 + 1; omega) (.int .i64 0)).trans (Below.putObj (N := w.heap.size) (l := D) (by omega) (.deferred none))
        refine ⟨by simp, .inl ⟨_, _, rfl, run_takeDeferred hD9, ?_⟩⟩
        refine leavesM_idle rfl (results2 rfl (read_blk (w.heap.size + 1) 23 _ _ rfl t1 Tryd.underlying23 rfl (by kernel_rfl)) (read_cell1 (w.heap.size + 1 + 1) (.int .i64 0) rfl (t2.cell 0 rfl) (by kernel_rfl))) ⟨?_, hbx⟩
        rw [hfin.out]; rfl
      case stop =>
        rintro D c pre W hD hpre hF hK
        exact hF.elim
end Go.Proofs.YtlkhjnpflohfeaaDoor

/- Contract of the method floats. -/
namespace Go.Proofs.YtlkhjnpflohfeaaDoor
open Go Go.Proofs Go.RowKit

namespace Cut
end Cut

def FlBoat (w0 : World) (M : Nat) (x : CutD) (fl : Nat → Option Value) (W : World) : Prop :=
  KBase w0 M x W ∧ FVar W w0.heap.size 51 [.int .i64 0, .int .i64 0, .int .i64 0, .int .i64 0] (fl 11) ∧ FVar W w0.heap.size 23 [.int .i64 0, .int .i64 0] (fl 12)
theorem FlBoat.step {w0 : World} {M : Nat} {x : CutD} {fl : Nat → Option Value} {W W' : World} (h : FlBoat w0 M x fl W) (hM : M < w0.heap.size) (hb : Bel M W.heap.size W W') (hk : Kept W' M x) : FlBoat w0 M x fl W' :=
  ⟨⟨h.1.1.trans (hb.mono h.1.1.size), hk⟩, h.2.1.bel hb hM, h.2.2.bel hb hM⟩

theorem Blk.ne_type {w : World} {B C : Nat} {T U : TypeId} {cs ds : List Value} (h : Blk w B T cs) (k : Blk w C U ds) (hT : T ≠ U) : B ≠ C := by
  rintro rfl
  unfold Blk at h k
  rw [h] at k
  cases k; exact hT rfl
section
variable {B M : Nat} {x : CutD} {ra ba la : Option Addr} {rc bc lc : Nat}

set_option maxHeartbeats 2000000 in
set_option maxRecDepth 100000 in
theorem floats_any (k : Nat) (loads : Int) (d : Nat) (w : World) (h : CutAt w B M x ra ba la rc bc lc) (hv : Cut.valid x = true) (hc : Cut.can x (Cut.every x) = true) (hd : d ≤ x.rain.length) (hk : k < x.boats.length) (hl : 0 ≤ loads ∧ loads ≤ 10) :
    Calls Tryd.prog 59 #[.pointer (some ⟨B, 0, none⟩), .int .i64 k, .int .i64 loads, .int .i64 d] w fun e w' =>
      e = .returned (.int .i64 (Cut.floats (Cut.boatAt x.boats k) loads (Cut.water x d))) ∧ Bel M w.heap.size w w' ∧ Kept w' M x := by
  have hV := Cut.valid_of hv
  have hbt := hV.boat k hk
  have hb4 := hV.b4
  have hMl := h.kept.lt
  have hBM := h.ne
  rcases h.boats with h0 | ⟨bb, off, rfl, hlt, hM, hcl⟩
  · omega
  have HC := hide h
  have HCL := hide hcl
  clear h hcl
  have hkl : (k : Int) < x.boats.length := by omega
  go_enter Tryd.func59, Tryd.ntmps59
  go_wp2_with fail
  have q6 : ∀ s : FCls (FlBoat w M x), s.W.cell? ⟨B, 6, none⟩ = some (.slice (some ⟨bb, off, none⟩) x.boats.length bc) := fun s => (HC.out.bel s.ok.1.1 s.ok.1.2).blk.cell 6 rfl
  have k0 : ∀ s : FCls (FlBoat w M x), s.W.cell? ⟨bb, off + k * 4, none⟩ = some (.int .i64 (Cut.boatAt x.boats k).draws.1) := fun s => (s.ok.1.1.cell (p := ⟨bb, _, none⟩) hlt hM).trans (HCL.out k 0 hk (by omega))
  have k1 : ∀ s : FCls (FlBoat w M x), s.W.cell? ⟨bb, off + k * 4 + 1, none⟩ = some (.int .i64 (Cut.boatAt x.boats k).draws.2) := fun s => (s.ok.1.1.cell (p := ⟨bb, _, none⟩) hlt hM).trans (HCL.out k 1 hk (by omega))
  have k2 : ∀ s : FCls (FlBoat w M x), s.W.cell? ⟨bb, off + k * 4 + 2, none⟩ = some (.int .i64 (Cut.boatAt x.boats k).per) := fun s => (s.ok.1.1.cell (p := ⟨bb, _, none⟩) hlt hM).trans (HCL.out k 2 hk (by omega))
  have k3 : ∀ s : FCls (FlBoat w M x), s.W.cell? ⟨bb, off + k * 4 + 3, none⟩ = some (.int .i64 (Cut.boatAt x.boats k).room) := fun s => (s.ok.1.1.cell (p := ⟨bb, _, none⟩) hlt hM).trans (HCL.out k 3 hk (by omega))
  refine wp_region_floats (D := FlBoat w M x) [0, 1, 2, 3, 4, 5, 6, 7, 8, 9, 10] [11, 12] 13 (by kernel_rfl) (by kernel_rfl) ?_ ⟨⟨(Bel.refl _ _ _).drew, HC.out.kept.below (Below.refl _ _).drew hMl⟩, FVar.nil, FVar.nil⟩ ?_
  · intro i hi o ho a fl W hW hn
    have hsz := hW.1.1.size
    simp only [List.mem_cons, List.not_mem_nil, or_false] at hi
    rcases hi with rfl | rfl
    · cases ho
      refine ⟨_, _, by kernel_rfl, ⟨hW.1.1.alloc hsz _, hW.1.2.below ((Below.refl _ _).alloc (Nat.le_refl _) _) hW.1.2.lt⟩, FVar.new (cs := [.int .i64 0, .int .i64 0, .int .i64 0, .int .i64 0]) hsz, hW.2.2.below ((Below.refl _ _).alloc (Nat.le_refl _) _)⟩
    · cases ho
      refine ⟨_, _, by kernel_rfl, ⟨hW.1.1.alloc hsz _, hW.1.2.below ((Below.refl _ _).alloc (Nat.le_refl _) _) hW.1.2.lt⟩, hW.2.1.below ((Below.refl _ _).alloc (Nat.le_refl _) _), FVar.new (cs := [.int .i64 0, .int .i64 0]) hsz⟩
  iterate 10 (apply fl_cls; rfl; (intro s; first | (go_simp; rfl) | (go_simp; done)))
  refine fl_call 47 #[.pointer (some ⟨B, 0, none⟩), .int .i64 d] (v := .agg #[.int .i64 (Cut.water x d).1, .int .i64 (Cut.water x d).2]) rfl (fun s => ?_) (fun s => ?_) ?_
  · (first | (go_simp; rfl) | (go_simp; done))
  · refine (water_any d s.W (HC.out.bel s.ok.1.1 s.ok.1.2) hv hc hd).mono ?_
    rintro e w' ⟨rfl, hb, hk⟩
    exact ⟨rfl, s.ok.step hMl hb hk⟩
  refine fl_nil ?_
  clear q6 k0 k1 k2 k3
  intro fl w2 hD hall
  obtain ⟨v1, hv1⟩ := Option.isSome_iff_exists.1 (hall 11 (by simp))
  obtain ⟨v2, hv2⟩ := Option.isSome_iff_exists.1 (hall 12 (by simp))
  obtain ⟨b1, rfl, k1, hN1⟩ := hD.2.1 v1 hv1
  obtain ⟨b2, rfl, k2, hN2⟩ := hD.2.2 v2 hv2
  (simp only [flAct, dstOf, Act.put, List.foldl_cons, List.foldl_nil, List.getElem?_toArray, List.getElem?_cons_succ, List.getElem?_cons_zero, Option.bind_some, List.getElem_toArray, List.getElem_cons_succ, List.getElem_cons_zero, List.setIfInBounds_toArray, List.set_cons_succ, List.set_cons_zero])
  rw [hv1, hv2]
  have hne : b1 ≠ b2 := k1.ne_type k2 (by decide)
  have hbw := hD.1.1
  have hkw := hD.1.2
  clear hD hall hv1 hv2 fl
  simp only [Option.getD_some, List.drop_succ_cons, List.drop_zero]
  have r0 := k1.cell 0 rfl
  have r1 := k1.cell 1 rfl
  have r2 := k1.cell 2 rfl
  have r3 := k1.cell 3 rfl
  have r4 := k1.free 0
  have r5 := k1.free 1
  have r6 := k1.free 2
  have r7 := k1.free 3
  have s0 := k2.cell 0 rfl
  have s1 := k2.cell 1 rfl
  have s2 := k2.free 0
  have s3 := k2.free 1
  have hp0 : 0 ≤ (Cut.boatAt x.boats k).per * loads := Int.mul_nonneg (by omega) (by omega)
  have hp1 : (Cut.boatAt x.boats k).per * loads ≤ 100 := Int.le_trans (Int.mul_le_mul (show _ ≤ 10 by omega) (show loads ≤ 10 by omega) (by omega) (by omega)) (by decide)
  have hl1 := k1.lt
  have hl2 := k2.lt
  have hfin : Hid (Cut.floats (Cut.boatAt x.boats k) loads (Cut.water x d) = if (Cut.boatAt x.boats k).draws.2 + (Cut.boatAt x.boats k).per * loads ≤ (Cut.water x d).1 then 2 else if (Cut.boatAt x.boats k).draws.1 + (Cut.boatAt x.boats k).per * loads ≤ (Cut.water x d).2 then 1 else 0) := rfl
  clear k1 k2
  by_cases hA : (Cut.boatAt x.boats k).draws.2 + (Cut.boatAt x.boats k).per * loads ≤ (Cut.water x d).1
  · go_wp2
    go_ret
    refine ⟨ret_int (a := 2) (by rw [hfin.out, if_pos hA]), ?_, ?_⟩
    · (repeat' first | (with_reducible assumption) | (with_reducible exact Bel.refl _ _ _) | (with_reducible refine Bel.drew ?_) | (with_reducible refine Bel.setCell ?_ ?_ _) | (with_reducible refine Bel.alloc ?_ ?_ _) | omega | (simp only at *; omega))
    · (repeat' first | (with_reducible assumption) | (with_reducible refine Kept.set ?_ ?_ _) | omega | (dsimp only; omega))
  · by_cases hB : (Cut.boatAt x.boats k).draws.1 + (Cut.boatAt x.boats k).per * loads ≤ (Cut.water x d).2
    · go_wp2
      go_ret
      refine ⟨ret_int (a := 1) (by rw [hfin.out, if_neg (by omega), if_pos hB]), ?_, ?_⟩
      · (repeat' first | (with_reducible assumption) | (with_reducible exact Bel.refl _ _ _) | (with_reducible refine Bel.drew ?_) | (with_reducible refine Bel.setCell ?_ ?_ _) | (with_reducible refine Bel.alloc ?_ ?_ _) | omega | (simp only at *; omega))
      · (repeat' first | (with_reducible assumption) | (with_reducible refine Kept.set ?_ ?_ _) | omega | (dsimp only; omega))
    · go_wp2
      go_ret
      refine ⟨ret_int (a := 0) (by rw [hfin.out, if_neg (by omega), if_neg (by omega)]), ?_, ?_⟩
      · (repeat' first | (with_reducible assumption) | (with_reducible exact Bel.refl _ _ _) | (with_reducible refine Bel.drew ?_) | (with_reducible refine Bel.setCell ?_ ?_ _) | (with_reducible refine Bel.alloc ?_ ?_ _) | omega | (simp only at *; omega))
      · (repeat' first | (with_reducible assumption) | (with_reducible refine Kept.set ?_ ?_ _) | omega | (dsimp only; omega))
end
end Go.Proofs.YtlkhjnpflohfeaaDoor

/- Contract of the method loads. -/
namespace Go.Proofs.YtlkhjnpflohfeaaDoor
open Go Go.Proofs Go.RowKit
namespace Cut
end Cut
section
variable {B M : Nat} {x : CutD} {ra ba la : Option Addr} {rc bc lc : Nat}

set_option maxHeartbeats 1000000 in
set_option maxRecDepth 100000 in
theorem loads1_any (k d n : Nat) (sure : Int) (K1 K2 K3 K4 : Nat) (w : World) (h : CutAt w B M x ra ba la rc bc lc) (hv : Cut.valid x = true) (hc : Cut.can x (Cut.every x) = true) (hd : d ≤ x.rain.length) (hk : k < x.boats.length) (hn : n ≤ 10)
    (b1 : Blk w K1 70 [.pointer (some ⟨B, 0, none⟩)]) (b2 : Blk w K2 3 [.int .i64 k]) (b3 : Blk w K3 3 [.int .i64 d]) (b4 : Blk w K4 3 [.int .i64 sure]) (h1 : K1 ≠ M) (h2 : K2 ≠ M) (h3 : K3 ≠ M) (h4 : K4 ≠ M) :
    Calls Tryd.prog 91 #[.int .i64 n, .pointer (some ⟨K1, 0, none⟩), .pointer (some ⟨K2, 0, none⟩), .pointer (some ⟨K3, 0, none⟩), .pointer (some ⟨K4, 0, none⟩)] w fun e w' =>
      e = .returned (.bool (Cut.suits x k d sure n)) ∧ Bel M w.heap.size w w' ∧ Kept w' M x := by
  have hMl := h.kept.lt
  have HC := hide h
  clear h
  go_enter Tryd.func91, Tryd.ntmps91
  go_wp2_with fail
  have q1 : ∀ s : FCls (fun _ W => KBase w M x W), s.W.cell? ⟨K1, 0, none⟩ = some (.pointer (some ⟨B, 0, none⟩)) := fun s => (b1.bel s.ok.1 b1.lt h1).cell 0 rfl
  have q2 : ∀ s : FCls (fun _ W => KBase w M x W), s.W.cell? ⟨K2, 0, none⟩ = some (.int .i64 k) := fun s => (b2.bel s.ok.1 b2.lt h2).cell 0 rfl
  have q3 : ∀ s : FCls (fun _ W => KBase w M x W), s.W.cell? ⟨K3, 0, none⟩ = some (.int .i64 d) := fun s => (b3.bel s.ok.1 b3.lt h3).cell 0 rfl
  have q4 : ∀ s : FCls (fun _ W => KBase w M x W), s.W.cell? ⟨K4, 0, none⟩ = some (.int .i64 sure) := fun s => (b4.bel s.ok.1 b4.lt h4).cell 0 rfl
  refine wp_region_floats (D := fun _ W => KBase w M x W) [0, 1, 2, 3, 4, 5, 6, 7] [] 8 (by kernel_rfl) (by kernel_rfl) (fun i hi => by cases hi) ⟨(Bel.refl _ _ _).drew, HC.out.kept.drew⟩ ?_
  iterate 4 (apply fl_cls; rfl; (intro s; first | (go_simp; rfl) | (go_simp; done)))
  refine fl_call 59 #[.pointer (some ⟨B, 0, none⟩), .int .i64 k, .int .i64 n, .int .i64 d] (v := .int .i64 (Cut.floats (Cut.boatAt x.boats k) n (Cut.water x d))) rfl (fun s => ?_) (fun s => ?_) ?_
  · (first | (go_simp; rfl) | (go_simp; done))
  · refine (floats_any k n d s.W (HC.out.bel s.ok.1 s.ok.2) hv hc hd hk ⟨by omega, by omega⟩).mono ?_
    rintro e w' ⟨rfl, hb, hk⟩
    exact ⟨rfl, s.ok.1.trans (hb.mono s.ok.1.size), hk⟩
  iterate 3 (apply fl_cls; rfl; (intro s; first | (go_simp; rfl) | (go_simp; done)))
  refine fl_nil ?_
  clear q1 q2 q3 q4 b1 b2 b3 b4
  intro fl w2 hD _
  (simp only [flAct, dstOf, Act.put, List.foldl_nil, List.getElem?_toArray, List.getElem_toArray, List.getElem_cons_succ, List.getElem_cons_zero, List.setIfInBounds_toArray, List.set_cons_succ, List.set_cons_zero])
  obtain ⟨hbw, hkw⟩ := hD
  have hs : Hid (Cut.suits x k d sure n = decide (sure ≤ Cut.floats (Cut.boatAt x.boats k) n (Cut.water x d))) := rfl
  simp only [List.drop_succ_cons, List.drop_zero]
  go_wp2
  go_ret
  exact ⟨ret_bool (by rw [hs.out]), hbw, hkw⟩

theorem int_info : (Tryd.prog.info? 3).map (fun i => (i.zero, i.size, i.bytes)) = some (some (.int .i64 0), 1, 8) := by kernel_rfl

set_option maxHeartbeats 2000000 in
set_option maxRecDepth 100000 in
theorem loads_any (k d : Nat) (sure : Int) (w : World) (h : CutAt w B M x ra ba la rc bc lc) (hv : Cut.valid x = true) (hc : Cut.can x (Cut.every x) = true) (hd : d ≤ x.rain.length) (hk : k < x.boats.length) :
    Calls Tryd.prog 64 #[.pointer (some ⟨B, 0, none⟩), .int .i64 k, .int .i64 d, .int .i64 sure] w fun e w' => e = .returned (.int .i64 (Cut.loads x k d sure)) ∧ Bel M w.heap.size w w' ∧ Kept w' M x := by
  have hMl := h.kept.lt
  have hBl := h.blk.lt
  have hbt := (Cut.valid_of hv).boat k hk
  rcases h.boats with h0 | ⟨bb, off, rfl, hlt, hM, hcl⟩
  · omega
  obtain ⟨r, hr⟩ := Int.eq_ofNat_of_zero_le hbt.2.2.2.2.2.1
  have hr10 : r ≤ 10 := by omega
  have hcl3 := hcl k 3 hk (by omega)
  simp [boatCell] at hcl3
  rw [hr] at hcl3
  have hfin : Hid (Cut.loads x k d sure = (Cut.lead (Cut.suits x k d sure) (r + 1) : Nat) - 1) := by unfold Cut.loads; rw [hr]; rfl
  clear hr hbt
  have hkl : (k : Int) < x.boats.length := by omega
  have HC := hide h
  clear h hcl
  go_enter Tryd.func64, Tryd.ntmps64
  go_wp2_with fail
  obtain ⟨w4, hw4⟩ : ∃ w4, ((((w.alloc (Obj.cells #[.pointer (some ⟨B, 0, none⟩)] 70)).alloc (Obj.cells #[Value.int IntKind.i64 k] 3)).alloc (Obj.cells #[Value.int IntKind.i64 d] 3)).alloc (Obj.cells #[Value.int IntKind.i64 sure] 3)) = w4 := ⟨_, rfl⟩
  rw [hw4]
  have hz4 : w4.heap.size = w.heap.size + 1 + 1 + 1 + 1 := by rw [← hw4]; simp
  have hb4 : Below w.heap.size w w4 := by rw [← hw4]; (repeat' first | (with_reducible assumption) | (with_reducible exact Below.refl _ _) | (with_reducible refine Below.drew ?_) | (with_reducible refine Below.setCell ?_ ?_ _) | (with_reducible refine Below.alloc ?_ ?_ _) | (refine Below.trans ?_ (Below.mono (by assumption) ?_)) | omega | (simp only [World.size_alloc] at *; omega))
  have b0 : Blk w4 w.heap.size 70 [.pointer (some ⟨B, 0, none⟩)] := by rw [← hw4]; exact ((((Blk.new' _ [_] _ rfl).alloc _).alloc _).alloc _)
  have b1 : Blk w4 (w.heap.size + 1) 3 [.int .i64 k] := by rw [← hw4]; exact (((Blk.new' _ [_] _ (by simp)).alloc _).alloc _)
  have b2 : Blk w4 (w.heap.size + 1 + 1) 3 [.int .i64 d] := by rw [← hw4]; exact (Blk.new' _ [_] _ (by simp)).alloc _
  have b3 : Blk w4 (w.heap.size + 1 + 1 + 1) 3 [.int .i64 sure] := by rw [← hw4]; exact Blk.new' _ [_] _ (by simp)
  have HC4 := hide (HC.out.below hb4)
  clear hw4
  have q0 : ∀ s : FCls (fun _ W => W = w4.drew), s.W.cell? ⟨w.heap.size, 0, none⟩ = some (.pointer (some ⟨B, 0, none⟩)) := fun s => by rw [s.ok]; exact b0.cell 0 rfl
  have q1 : ∀ s : FCls (fun _ W => W = w4.drew), s.W.cell? ⟨w.heap.size + 1, 0, none⟩ = some (.int .i64 k) := fun s => by rw [s.ok]; exact b1.cell 0 rfl
  have q2 : ∀ s : FCls (fun _ W => W = w4.drew), s.W.cell? ⟨B, 6, none⟩ = some (.slice (some ⟨bb, off, none⟩) x.boats.length bc) := fun s => by rw [s.ok]; exact HC4.out.blk.cell 6 rfl
  have q3 : ∀ s : FCls (fun _ W => W = w4.drew), s.W.cell? ⟨bb, off + k * 4 + 3, none⟩ = some (.int .i64 r) := fun s => by rw [s.ok]; exact (hb4.cell (p := ⟨bb, _, none⟩) hlt).trans hcl3
  refine wp_region_floats (D := fun _ W => W = w4.drew) [0, 1, 2, 3, 4, 5, 6, 7, 8, 9] [] 10 (by kernel_rfl) (by kernel_rfl) (fun i hi => by cases hi) rfl ?_
  clear hcl3
  iterate 9 (apply fl_cls; rfl; (intro s; first | (go_simp; rfl) | (go_simp; done)))
  have hadd : IntKind.i64.wrap ((r : Int) + 1) = (r : Int) + 1 := IntWalk.i64_in _ (by omega)
  iterate 1 (apply fl_cls; rfl; (intro s; first | (go_simp; rfl) | (go_simp; done)))
  refine fl_nil ?_
  clear q0 q1 q2 q3 hadd
  rintro fl w5 rfl _
  (simp only [flAct, dstOf, Act.put, List.foldl_nil, List.getElem?_toArray, List.getElem_toArray, List.getElem_cons_succ, List.getElem_cons_zero, List.setIfInBounds_toArray, List.set_cons_succ, List.set_cons_zero])
  simp only [List.drop_succ_cons, List.drop_zero]
  obtain ⟨i0, hi, hz0, hz1, hz2⟩ := info_parts int_info
  have hmk : ∀ w, (Instr.makeSlice 46 (.int .i64 ((r : Int) + 1)) (.int .i64 ((r : Int) + 1))).run Tryd.prog w = .ok (.slice (some ⟨w.heap.size, 0, none⟩) (r + 1) (r + 1)) (w.alloc (.cells (madeCells (Value.int .i64 0).cells ((r + 1) * 1)).toList.toArray 3)) := fun w => by
    have := run_make_rowN (P := Tryd.prog) 46 3 i0 _ Tryd.underlying46 hi hz0 .i64 .i64 (r + 1) (by rw [hz2]; omega) (by omega) w
    rw [hz1] at this; exact this
  generalize hmc : (madeCells (Value.int .i64 0).cells ((r + 1) * 1)).toList = mc at hmk
  have hml : mc.length = r + 1 := by rw [← hmc, madeCells_length]; omega
  have HML := hide hml
  clear hmc
  go_wp2_with fail
  have a0 : Blk (w4.alloc (Obj.cells mc.toArray 3)).drew (w.heap.size + 1 + 1 + 1 + 1) 3 mc := (Blk.new' _ _ _ (by omega)).drew
  have hb5 : Below w4.heap.size w4 (w4.alloc (Obj.cells mc.toArray 3)).drew := ((Below.refl _ _).alloc (Nat.le_refl _) _).drew
  have hz5 : (w4.alloc (Obj.cells mc.toArray 3)).drew.heap.size = w4.heap.size + 1 := by simp
  generalize (w4.alloc (Obj.cells mc.toArray 3)).drew = w5 at *
  go_loopw [10, 24, 25, 26, 27, 28, 29, 30, 31] (fun _ v24 _ _ _ _ _ _ _ wr => ∃ (j : Nat) (cs : List Value), j ≤ r + 1 ∧ v24 = .int .i64 j ∧ Below w4.heap.size w4 wr ∧ Blk wr (w.heap.size + 1 + 1 + 1 + 1) 3 cs ∧ Hid (cs.length = r + 1 ∧ ∀ i, i < j → cs[i]? = some (.int .i64 i))) (fun _ v24 _ _ _ _ _ _ _ _ => r + 1 - (intOf v24).toNat)
  case atStart => exact ⟨0, mc, by omega, rfl, hb5, a0, HML.out, fun i hi => by omega⟩
  case round =>
    clear a0 hb5 hz5 hml
    obtain ⟨j, cs, hj, rfl, hB, a1, hcs⟩ := hrel
    by_cases hlt2 : j < r + 1
    · obtain ⟨cv, hcv⟩ : ∃ cv, cs[j]? = some cv := ⟨cs[j]'(by rw [hcs.out.1]; exact hlt2), by simp [hcs.out.1, hlt2]⟩
      have hcell := a1.cell j hcv
      have hfr := a1.free j
      have hle : (j : Int) < (r : Int) + 1 := by omega
      clear hcv
      go_wp2
      refine ⟨⟨j + 1, cs.set j (.int .i64 j), by omega, by go_num, hB.setCell (p := ⟨w.heap.size + 1 + 1 + 1 + 1, j, none⟩) (by show w4.heap.size ≤ w.heap.size + 1 + 1 + 1 + 1; omega) _, a1.set j _, by simp [hcs.out.1], fun i hi => ?_⟩, by simp [intOf]; omega⟩
      by_cases hij : j = i
      · subst hij; simp [hcs.out.1, hlt2]
      · rw [List.getElem?_set_ne hij]; exact hcs.out.2 i (by omega)
    · obtain rfl : j = r + 1 := by omega
      have hMw : M < wr.heap.size := by have := hB.size; omega
      have HB := hide hB
      have hwz := hB.size
      have hal := a1.lt
      have c0 := b0.below hB (by omega)
      have c1 := b1.below hB (by omega)
      have c2 := b2.below hB (by omega)
      have c3 := b3.below hB (by omega)
      clear b0 b1 b2 b3
      have HCr := hide (HC4.out.below hB)
      have hgt : ¬ ((r + 1 : Nat) : Int) < (r : Int) + 1 := by omega
      go_wp2_with fail
      refine (lastInt_any (w.heap.size + 1 + 1 + 1 + 1) (r + 1) (r + 1) 91 _ M (Cut.suits x k d sure) (KBase wr M x) wr (by omega) ⟨Bel.refl _ _ _, HCr.out.kept⟩ hMw (fun W hW => ?_) ?_).mono ?_
      · have := a1.bel hW.1 hal (by omega)
        exact ⟨this.lt, fun i hi => this.cell i (hcs.out.2 i hi)⟩
      · refine ⟨enters_of Tryd.func91 (by kernel_rfl) rfl, fun W W' hI hb => ⟨hI.1.trans (Bel.of_below (hb.mono hI.1.size)), hI.2.below hb hI.2.lt⟩, fun i hi W hW => ?_⟩
        refine (loads1_any k d i sure (w.heap.size) (w.heap.size + 1) (w.heap.size + 1 + 1) (w.heap.size + 1 + 1 + 1) W (HCr.out.bel hW.1 hW.2) hv hc hd hk (by omega) (c0.bel hW.1 c0.lt (by omega)) (c1.bel hW.1 c1.lt (by omega)) (c2.bel hW.1 c2.lt (by omega)) (c3.bel hW.1 c3.lt (by omega)) (by omega) (by omega) (by omega) (by omega)).mono ?_
        rintro e W' ⟨he, hb, hk⟩
        exact ⟨he, ⟨hW.1.trans (hb.mono hW.1.size), hk⟩, hb⟩
      rintro e w7 ⟨rfl, ⟨hb7, hk7⟩, _⟩
      go_wp2
      go_ret
      exact ⟨ret_int (by rw [hfin.out]), ((Bel.of_below hb4).trans (Bel.of_below (HB.out.mono (by omega)))).trans (hb7.mono (by omega)), hk7⟩
end
end Go.Proofs.YtlkhjnpflohfeaaDoor

/- Contract of Loads. -/
namespace Go.Proofs.YtlkhjnpflohfeaaDoor
open Go Go.Proofs Go.RowKit

set_option maxHeartbeats 2000000 in
theorem Loads_any (x : CutD) (b d : Int) (ra ba la : Option Addr) (rc bc lc : Nat) (w : World) (hin : CutIn w x ra ba la) :
    Calls Tryd.prog 20 #[cutVal x ra ba la rc bc lc, .int .i64 b, .int .i64 d] w fun e w' => e = .returned (.tuple #[.int .i64 (loadsR x b d).1.1, .int .i64 (loadsR x b d).1.2, .int .i64 (loadsR x b d).2]) ∧ Below w.heap.size w w' := by
  have HIN := hide hin
  clear hin
  unfold cutVal
  go_enter_defers Tryd.func20, Tryd.ntmps20
  go_wp2_with fail
  obtain ⟨w4, hw4⟩ : ∃ w4, ((((w.alloc (Obj.cells (cutCells x ra ba la rc bc lc).toArray 28)).alloc (Obj.cells #[Value.int IntKind.i64 b] 3)).alloc (Obj.cells #[Value.int IntKind.i64 d] 3)).alloc (Obj.cells #[Value.int IntKind.i64 0] 31)) = w4 := ⟨_, rfl⟩
  simp only [cutCells] at hw4
  rw [hw4]
  have hz4 : w4.heap.size = w.heap.size + 1 + 1 + 1 + 1 := by rw [← hw4]; simp
  have hb4 : Below w.heap.size w w4 := by rw [← hw4]; (repeat' first | (with_reducible assumption) | (with_reducible exact Below.refl _ _) | (with_reducible refine Below.drew ?_) | (with_reducible refine Below.setCell ?_ ?_ _) | (with_reducible refine Below.alloc ?_ ?_ _) | (refine Below.trans ?_ (Below.mono (by assumption) ?_)) | omega | (simp only [World.size_alloc] at *; omega))
  have b1 : Blk w4 (w.heap.size + 1) 3 [.int .i64 b] := by rw [← hw4]; exact (((Blk.new' _ [_] _ (by simp)).alloc _).alloc _)
  have b2 : Blk w4 (w.heap.size + 1 + 1) 3 [.int .i64 d] := by rw [← hw4]; exact (Blk.new' _ [_] _ (by simp)).alloc _
  have b3 : Blk w4 (w.heap.size + 1 + 1 + 1) 31 [.int .i64 0] := by rw [← hw4]; exact Blk.new' _ [_] _ (by simp)
  have HIN4 := hide (HIN.out.below hb4)
  clear hw4
  refine (open_any _ x ra ba la rc bc lc (Cut.isBoat x b && Cut.isDay x d) _ HIN4.out ?_).mono ?_
  · exact ⟨_, _, rfl, enters_of Tryd.func62 (by kernel_rfl) rfl, fun B M la lc w' hv hb _ _ hc => loadsE1_any b d (w.heap.size + 1) (w.heap.size + 1 + 1) w' hc (Cut.valid_of hv).b4 (b1.below hb (by omega)) (b2.below hb (by omega))⟩
  rintro e w5 ⟨hb5, h⟩
  have c1 := b1.below hb5 (by omega)
  have c2 := b2.below hb5 (by omega)
  have c3 := b3.below hb5 (by omega)
  have hb5' := hb4.trans (hb5.mono (show w.heap.size ≤ w4.heap.size by omega))
  rcases h with ⟨hv, rfl⟩ | ⟨hv, hbf, rfl⟩ | ⟨hv, hbt, B, M, la', lc', hB, hM, rfl, hcut⟩
  · refine leaves_refused (c3.cell 0 rfl) (c3.free 0) rfl (results3 rfl (read_tmp rfl) (read_tmp rfl) (read_cell1 (w.heap.size + 1 + 1 + 1) _ rfl ((c3.set 0 _).cell 0 rfl) (by kernel_rfl))) ⟨?_, hb5'.setCell (p := ⟨w.heap.size + 1 + 1 + 1, 0, none⟩) (show w.heap.size ≤ w.heap.size + 1 + 1 + 1 by omega) _⟩
    unfold loadsR
    rw [toldErr_bad hv]; rfl
  · refine leaves_refused (c3.cell 0 rfl) (c3.free 0) rfl (results3 rfl (read_tmp rfl) (read_tmp rfl) (read_cell1 (w.heap.size + 1 + 1 + 1) _ rfl ((c3.set 0 _).cell 0 rfl) (by kernel_rfl))) ⟨?_, hb5'.setCell (p := ⟨w.heap.size + 1 + 1 + 1, 0, none⟩) (show w.heap.size ≤ w.heap.size + 1 + 1 + 1 by omega) _⟩
    unfold loadsR
    rw [hbf, toldErr_range hv]; rfl
  · have HCut := hide hcut
    clear hcut
    go_wp2_with fail
    cases hcan : Cut.can x (Cut.every x) with
    | false =>
      refine (told_no w5 HCut.out hv hcan).mono ?_
      rintro e w6 ⟨rfl, hb6, hk6⟩
      have hb6' := hb6.below_lt (N' := w4.heap.size) hM hb5.size
      have d3 := c3.below hb6' (by omega)
      refine leaves_refused (d3.cell 0 rfl) (d3.free 0) rfl (results3 rfl (read_tmp rfl) (read_tmp rfl) (read_cell1 (w.heap.size + 1 + 1 + 1) _ rfl ((d3.set 0 _).cell 0 rfl) (by kernel_rfl))) ⟨?_, (hb5'.trans (hb6'.mono (by omega))).setCell (p := ⟨w.heap.size + 1 + 1 + 1, 0, none⟩) (show w.heap.size ≤ w.heap.size + 1 + 1 + 1 by omega) _⟩
      unfold loadsR
      rw [hbt, toldErr_clash hv hcan]; rfl
    | true =>
      refine (told_yes w5 HCut.out hv hcan).mono ?_
      rintro e w6 ⟨rfl, hb6, hk6⟩
      have hb6' := hb6.below_lt (N' := w4.heap.size) hM hb5.size
      have HC6 := hide (HCut.out.bel hb6 hk6)
      have d1 := c1.below hb6' (by omega)
      have d2 := c2.below hb6' (by omega)
      have d3 := c3.below hb6' (by omega)
      have hbb : Cut.isBoat x b = true ∧ Cut.isDay x d = true := by simpa using hbt
      obtain ⟨k, rfl, hk⟩ := boat_of hbb.1
      obtain ⟨j, rfl, hj⟩ := day_of hbb.2
      have hz6 := hb6'.size
      have hM6 := HC6.out.kept.lt
      have hfin : Hid (loadsR x k j = ((Cut.loads x k j 2, Cut.loads x k j 1), 0)) := by
        unfold loadsR
        rw [hbt, toldErr_ok hv hcan, if_pos rfl]; rfl
      have hbw6 : Hid (Below w.heap.size w w6) := hb5'.trans (hb6'.mono (by omega))
      clear hbb hbt b1 b2 b3 c1 c2 c3 hk6
      go_wp2_with fail
      have q1 : ∀ s : FCls (fun _ W => KBase w6 M x W), s.W.cell? ⟨w.heap.size + 1, 0, none⟩ = some (.int .i64 k) := fun s => (d1.bel s.ok.1 (by omega) (by omega)).cell 0 rfl
      have q2 : ∀ s : FCls (fun _ W => KBase w6 M x W), s.W.cell? ⟨w.heap.size + 1 + 1, 0, none⟩ = some (.int .i64 j) := fun s => (d2.bel s.ok.1 (by omega) (by omega)).cell 0 rfl
      refine wp_region_floats (D := fun _ W => KBase w6 M x W) [0, 1, 2, 3, 4, 5, 6, 7] [] 8 (by kernel_rfl) (by kernel_rfl) (fun i hi => by cases hi) ⟨(Bel.refl _ _ _).drew, HC6.out.kept.drew⟩ ?_
      iterate 3 (apply fl_cls; rfl; (intro s; first | (go_simp; rfl) | (go_simp; done)))
      refine fl_call 64 #[.pointer (some ⟨B, 0, none⟩), .int .i64 k, .int .i64 j, .int .i64 2] (v := .int .i64 (Cut.loads x k j 2)) rfl (fun s => ?_) (fun s => ?_) ?_
      · (first | (go_simp; rfl) | (go_simp; done))
      · refine (loads_any k j 2 s.W (HC6.out.bel s.ok.1 s.ok.2) hv hcan hj hk).mono ?_
        rintro e w' ⟨rfl, hb, hk⟩
        exact ⟨rfl, s.ok.1.trans (hb.mono s.ok.1.size), hk⟩
      iterate 3 (apply fl_cls; rfl; (intro s; first | (go_simp; rfl) | (go_simp; done)))
      refine fl_call 64 #[.pointer (some ⟨B, 0, none⟩), .int .i64 k, .int .i64 j, .int .i64 1] (v := .int .i64 (Cut.loads x k j 1)) rfl (fun s => ?_) (fun s => ?_) ?_
      · (first | (go_simp; rfl) | (go_simp; done))
      · refine (loads_any k j 1 s.W (HC6.out.bel s.ok.1 s.ok.2) hv hcan hj hk).mono ?_
        rintro e w' ⟨rfl, hb, hk⟩
        exact ⟨rfl, s.ok.1.trans (hb.mono s.ok.1.size), hk⟩
      refine fl_nil ?_
      clear q1 q2
      intro fl w7 hD _
      (simp only [flAct, dstOf, Act.put, List.foldl_nil, List.getElem?_toArray, List.getElem_toArray, List.getElem_cons_succ, List.getElem_cons_zero, List.setIfInBounds_toArray, List.set_cons_succ, List.set_cons_zero])
      obtain ⟨hb7, hk7⟩ := hD
      have e3 := d3.bel hb7 (by omega) (by omega)
      have r3 := e3.cell 0 rfl
      have r4 := e3.free 0
      have hlt3 := e3.lt
      simp only [List.drop_succ_cons, List.drop_zero]
      go_wp2
      refine leaves_idle rfl (results3 rfl (read_tmp rfl) (read_tmp rfl) (read_cell1 (w.heap.size + 1 + 1 + 1) (.int .i64 0) rfl ((e3.set 0 _).cell 0 rfl) (by kernel_rfl))) ⟨?_, (hbw6.out.trans (hb7.below_lt (by omega) (by omega))).setCell (p := ⟨w.heap.size + 1 + 1 + 1, 0, none⟩) (show w.heap.size ≤ w.heap.size + 1 + 1 + 1 by omega) _⟩
      rw [hfin.out]; rfl
end Go.Proofs.YtlkhjnpflohfeaaDoor

/- Contract of Floats. -/
namespace Go.Proofs.YtlkhjnpflohfeaaDoor
open Go Go.Proofs Go.RowKit

abbrev FloCls (n0 : Nat) (x : CutD) (ra ba la : Option Addr) (rc bc lc : Nat) (b n d : Int) (W : World) : Prop :=
  Blk W n0 28 (cutCells x ra ba la rc bc lc) ∧ Blk W (n0 + 1) 3 [.int .i64 b] ∧ Blk W (n0 + 1 + 1) 3 [.int .i64 n] ∧ Blk W (n0 + 1 + 1 + 1) 3 [.int .i64 d]

set_option maxHeartbeats 2000000 in
set_option maxRecDepth 100000 in
theorem Floats_any (x : CutD) (b n d : Int) (ra ba la : Option Addr) (rc bc lc : Nat) (w : World) (hin : CutIn w x ra ba la) :
    Calls Tryd.prog 18 #[cutVal x ra ba la rc bc lc, .int .i64 b, .int .i64 n, .int .i64 d] w fun e w' => e = .returned (.tuple #[.int .i64 (floatsR x b n d).1, .int .i64 (floatsR x b n d).2]) ∧ Below w.heap.size w w' := by
  have HIN := hide hin
  clear hin
  unfold cutVal
  go_enter_defers Tryd.func18, Tryd.ntmps18
  go_wp2_with fail
  obtain ⟨w5, hw5⟩ : ∃ w5, (((((w.alloc (Obj.cells (cutCells x ra ba la rc bc lc).toArray 28)).alloc (Obj.cells #[Value.int IntKind.i64 b] 3)).alloc (Obj.cells #[Value.int IntKind.i64 n] 3)).alloc (Obj.cells #[Value.int IntKind.i64 d] 3)).alloc (Obj.cells #[Value.int IntKind.i64 0] 31)) = w5 := ⟨_, rfl⟩
  simp only [cutCells] at hw5
  rw [hw5]
  have hz5 : w5.heap.size = w.heap.size + 1 + 1 + 1 + 1 + 1 := by rw [← hw5]; simp
  have hb5 : Below w.heap.size w w5 := by rw [← hw5]; (repeat' first | (with_reducible assumption) | (with_reducible exact Below.refl _ _) | (with_reducible refine Below.drew ?_) | (with_reducible refine Below.setCell ?_ ?_ _) | (with_reducible refine Below.alloc ?_ ?_ _) | (refine Below.trans ?_ (Below.mono (by assumption) ?_)) | omega | (simp only [World.size_alloc] at *; omega))
  have b0 : Blk w5 w.heap.size 28 (cutCells x ra ba la rc bc lc) := by rw [← hw5]; exact (((((Blk.new' _ (cutCells x ra ba la rc bc lc) _ rfl).alloc _).alloc _).alloc _).alloc _)
  have b1 : Blk w5 (w.heap.size + 1) 3 [.int .i64 b] := by rw [← hw5]; exact ((((Blk.new' _ [_] _ (by simp)).alloc _).alloc _).alloc _)
  have b2 : Blk w5 (w.heap.size + 1 + 1) 3 [.int .i64 n] := by rw [← hw5]; exact (((Blk.new' _ [_] _ (by simp)).alloc _).alloc _)
  have b3 : Blk w5 (w.heap.size + 1 + 1 + 1) 3 [.int .i64 d] := by rw [← hw5]; exact (Blk.new' _ [_] _ (by simp)).alloc _
  have b4 : Blk w5 (w.heap.size + 1 + 1 + 1 + 1) 31 [.int .i64 0] := by rw [← hw5]; exact Blk.new' _ [_] _ (by simp)
  have HIN5 := hide (HIN.out.below hb5)
  clear hw5
  have hcls : ∀ W, Below w5.heap.size w5 W → FloCls w.heap.size x ra ba la rc bc lc b n d W := fun W hW => ⟨b0.below hW (by omega), b1.below hW (by omega), b2.below hW (by omega), b3.below hW (by omega)⟩
  refine wp_region_spine (C := FloCls w.heap.size x ra ba la rc bc lc b n d) (QP := fun i c W => (i = 2 ∨ i = 3) ∧ c = [{ v := .iface 114 (.int .i64 (toldErr x (isB x b n d))), recovered := false }] ∧ toldErr x (isB x b n d) ≠ 0 ∧ Below w5.heap.size w5 W) [0, 1, 4, 5, 6] [2, 3, 7, 8, 9] (by kernel_rfl) (by kernel_rfl) (hcls _ (Below.refl _ _).drew) ?_ ?_
  · have q0 : ∀ s : Cls (FloCls w.heap.size x ra ba la rc bc lc b n d), s.W.cell? ⟨w.heap.size, 0, none⟩ = some (.int .i64 x.depth.1) := fun s => s.ok.1.cell 0 rfl
    have q1 : ∀ s : Cls (FloCls w.heap.size x ra ba la rc bc lc b n d), s.W.cell? ⟨w.heap.size, 1, none⟩ = some (.int .i64 x.depth.2) := fun s => s.ok.1.cell 1 rfl
    have q2 : ∀ s : Cls (FloCls w.heap.size x ra ba la rc bc lc b n d), s.W.cell? ⟨w.heap.size, 2, none⟩ = some (.int .i64 x.leak.1) := fun s => s.ok.1.cell 2 rfl
    have q3 : ∀ s : Cls (FloCls w.heap.size x ra ba la rc bc lc b n d), s.W.cell? ⟨w.heap.size, 3, none⟩ = some (.int .i64 x.leak.2) := fun s => s.ok.1.cell 3 rfl
    have q4 : ∀ s : Cls (FloCls w.heap.size x ra ba la rc bc lc b n d), s.W.cell? ⟨w.heap.size, 4, none⟩ = some (.slice ra x.rain.length rc) := fun s => s.ok.1.cell 4 rfl
    have q5 : ∀ s : Cls (FloCls w.heap.size x ra ba la rc bc lc b n d), s.W.cell? ⟨w.heap.size, 5, none⟩ = some (.int .i64 x.most) := fun s => s.ok.1.cell 5 rfl
    have q6 : ∀ s : Cls (FloCls w.heap.size x ra ba la rc bc lc b n d), s.W.cell? ⟨w.heap.size, 6, none⟩ = some (.slice ba x.boats.length bc) := fun s => s.ok.1.cell 6 rfl
    have q7 : ∀ s : Cls (FloCls w.heap.size x ra ba la rc bc lc b n d), s.W.cell? ⟨w.heap.size, 7, none⟩ = some (.slice la x.looks.length lc) := fun s => s.ok.1.cell 7 rfl
    have q8 : ∀ s : Cls (FloCls w.heap.size x ra ba la rc bc lc b n d), s.W.cell? ⟨w.heap.size + 1, 0, none⟩ = some (.int .i64 b) := fun s => s.ok.2.1.cell 0 rfl
    have q9 : ∀ s : Cls (FloCls w.heap.size x ra ba la rc bc lc b n d), s.W.cell? ⟨w.heap.size + 1 + 1, 0, none⟩ = some (.int .i64 n) := fun s => s.ok.2.2.1.cell 0 rfl
    have q10 : ∀ s : Cls (FloCls w.heap.size x ra ba la rc bc lc b n d), s.W.cell? ⟨w.heap.size + 1 + 1 + 1, 0, none⟩ = some (.int .i64 d) := fun s => s.ok.2.2.2.cell 0 rfl
    iterate 5 (apply pan_cls; rfl; (intro s; first | (go_simp; rfl) | (go_simp; done)))
    refine pan_nil ?_
    clear q0 q1 q2 q3 q4 q5 q6 q7 q8 q9 q10
    simp only [Act.put, List.getElem_toArray, List.getElem_cons_succ, List.getElem_cons_zero, List.setIfInBounds_toArray, List.set_cons_succ, List.set_cons_zero]
    refine sp_call 43 #[cutVal x ra ba la rc bc lc, .func (.func 57) #[] #[.pointer (some ⟨w.heap.size + 1, 0, none⟩), .pointer (some ⟨w.heap.size + 1 + 1, 0, none⟩), .pointer (some ⟨w.heap.size + 1 + 1 + 1, 0, none⟩)]] rfl ?_ ?_
    · (first | (go_simp; rfl) | (go_simp; done))
    refine open_sp _ x ra ba la rc bc lc (isB x b n d) _ (HIN5.out.below (Below.refl _ _).drew) ?_ ?_ ?_
    · refine ⟨_, _, rfl, enters_of Tryd.func57 (by kernel_rfl) rfl, fun B M la lc w' hv hb _ _ hc => ?_⟩
      exact floats1_any b n d (w.heap.size + 1) (w.heap.size + 1 + 1) (w.heap.size + 1 + 1 + 1) w' hc (Cut.valid_of hv).b4 (b1.below (below_dr hb) (by show _ < w5.heap.size; omega)) (b2.below (below_dr hb) (by show _ < w5.heap.size; omega)) (b3.below (below_dr hb) (by show _ < w5.heap.size; omega))
    · rintro n w' rfl hn hb
      exact ⟨.inl rfl, rfl, hn, below_dr hb⟩
    intro B M la' lc' w6 hv hday hB hM hb6' hcut
    have hb6 := below_dr hb6'
    clear hb6'
    refine ⟨hcls _ hb6, ?_⟩
    refine sp_call 46 #[.pointer (some ⟨B, 0, none⟩)] rfl ?_ ?_
    · (first | (go_simp; rfl) | (go_simp; done))
    refine told_sp w6 hcut hv ?_ ?_
    · intro w7 he hb7
      rw [hday, he]
      exact ⟨.inr rfl, rfl, by decide, hb6.trans (hb7.below_lt hM (by exact hb6.size))⟩
    intro w7 hcan hb7 hcut7
    have hb7' : Below w5.heap.size w5 w7 := hb6.trans (hb7.below_lt hM hb6.size)
    refine ⟨hcls _ hb7', ?_⟩
    have hbb : Cut.isLoads x b n = true ∧ Cut.isDay x d = true := by simpa [isB] using hday
    obtain ⟨k, m, rfl, hk, rfl, hm, hm10⟩ := loads_of hv hbb.1
    obtain ⟨j, rfl, hj⟩ := day_of hbb.2
    refine sp_call 59 #[.pointer (some ⟨B, 0, none⟩), .int .i64 k, .int .i64 m, .int .i64 j] rfl ?_ ?_
    · (first | (go_simp; rfl) | (go_simp; done))
    refine (floats_any k m j w7 hcut7 hv hcan hj hk ⟨by omega, by omega⟩).mono ?_
    rintro e w8 ⟨rfl, hb8, hk8⟩
    have hb8' : Below w5.heap.size w5 w8 := hb7'.trans (hb8.below_lt hM hb7'.size)
    have e4 := b4.below hb8' (by omega)
    refine ⟨hcls _ hb8', ?_⟩
    have r4 := e4.cell 0 rfl
    have r5 := e4.free 0
    refine sp_val (w' := w8) (v := .int .i64 (Cut.floats (Cut.boatAt x.boats k) m (Cut.water x j))) rfl ?_ (hcls _ hb8') ?_
    · (first | (go_simp; rfl) | (go_simp; done))
    refine sp_skip (w' := w8.setCell ⟨w.heap.size + 1 + 1 + 1 + 1, 0, none⟩ (.int .i64 0)) rfl ?_ ?_ ?_
    · (first | (go_simp; rfl) | (go_simp; done))
    · have := hcls _ hb8'
      exact ⟨this.1.other (by omega) _ _, this.2.1.other (by omega) _ _, this.2.2.1.other (by omega) _ _, this.2.2.2.other (by omega) _ _⟩
    refine sp_nil ?_
    simp only [Act.put, List.getElem_toArray, List.getElem_cons_succ, List.getElem_cons_zero, List.setIfInBounds_toArray, List.set_cons_succ, List.set_cons_zero]
    have hfin : Hid (floatsR x k m j = (Cut.floats (Cut.boatAt x.boats k) m (Cut.water x j), 0)) := by
      unfold floatsR
      rw [hday, toldErr_ok hv hcan, if_pos rfl]; rfl
    have s3 := e4.set 0 (.int .i64 0)
    have hbf := (hb5.trans (hb8'.mono (by omega))).setCell (p := ⟨w.heap.size + 1 + 1 + 1 + 1, 0, none⟩) (show w.heap.size ≤ w.heap.size + 1 + 1 + 1 + 1 by omega) (.int .i64 0)
    clear r4 r5 b0 b1 b2 b3 b4 hcls
    go_wp2
    refine leaves_idle rfl (results2 rfl (read_tmp rfl) (read_cell1 (w.heap.size + 1 + 1 + 1 + 1) (.int .i64 0) rfl (s3.cell 0 rfl) (by kernel_rfl))) ⟨?_, hbf⟩
    rw [hfin.out]; rfl
  · rintro i c w' a' ⟨hi, rfl, hne, hb⟩ hdef hsl
    have hb' := hb5.trans (hb.mono (by omega))
    have c4 := b4.below hb (by omega)
    have t9 := hsl 9 (by rcases hi with rfl | rfl <;> kernel_rfl)
    simp only [Exit.then]
    show Leaves Tryd.prog Tryd.f18 a'.tmps _ a'.defers (.panicking _) w'
    rw [hdef]
    have t8 := hsl 8 (by rcases hi with rfl | rfl <;> kernel_rfl)
    refine leaves_refused (c4.cell 0 rfl) (c4.free 0) rfl (results2 rfl (read_tmp t8) (read_cell1 (w.heap.size + 1 + 1 + 1 + 1) _ (by rw [t9]; rfl) ((c4.set 0 _).cell 0 rfl) (by kernel_rfl))) ⟨?_, hb'.setCell (p := ⟨w.heap.size + 1 + 1 + 1 + 1, 0, none⟩) (show w.heap.size ≤ w.heap.size + 1 + 1 + 1 + 1 by omega) _⟩
    unfold floatsR
    rw [if_neg hne]; rfl
end Go.Proofs.YtlkhjnpflohfeaaDoor

/- Bit operations of int on numbers that are not negative. -/
namespace Go.Proofs.YtlkhjnpflohfeaaDoor
open Go Go.Proofs Go.RowKit
theorem ofInt_nat (a : Nat) (ha : a < 9223372036854775808) : (BitVec.ofInt 64 (a : Int)).toNat = a := by
  rw [BitVec.toNat_ofInt]; omega
theorem bits_or_i64_nat (a b : Nat) (ha : a < 9223372036854775808) (hb : b < 9223372036854775808) : bits BinOp.or IntKind.i64 (a : Int) (b : Int) = ((a ||| b : Nat) : Int) := by
  have h1 : (BitVec.ofInt 64 (a : Int) ||| BitVec.ofInt 64 (b : Int)).toNat = a ||| b := by rw [BitVec.toNat_or, ofInt_nat a ha, ofInt_nat b hb]
  have h2 : a ||| b < 2 ^ 63 := Nat.or_lt_two_pow (by omega) (by omega)
  show IntKind.i64.wrap ((BitVec.ofInt 64 (a : Int) ||| BitVec.ofInt 64 (b : Int)).toNat : Int) = _
  rw [h1]
  exact IntWalk.i64_in _ (by omega)
theorem or_pow (a k : Nat) (h : a < 2 ^ k) (hk : k ≤ 20) : bits BinOp.or IntKind.i64 (a : Int) (wrap64 ((2 : Int) ^ k)) = ((a + 2 ^ k : Nat) : Int) := by
  have h1 : (2 : Nat) ^ k ≤ 2 ^ 20 := Nat.pow_le_pow_right (by omega) hk
  have h2 : ((2 : Int) ^ k) = ((2 ^ k : Nat) : Int) := by simp
  rw [h2, show wrap64 ((2 ^ k : Nat) : Int) = ((2 ^ k : Nat) : Int) from IntWalk.wrap64_in _ (by omega), bits_or_i64_nat _ _ (by omega) (by omega)]
  have h3 := Nat.two_pow_add_eq_or_of_lt h 1
  rw [Nat.mul_one] at h3
  rw [Nat.or_comm, ← h3, Nat.add_comm]
end Go.Proofs.YtlkhjnpflohfeaaDoor

/- Contract of Days. -/
namespace Go.Proofs.YtlkhjnpflohfeaaDoor
open Go Go.Proofs Go.RowKit
namespace Cut
end Cut
set_option maxHeartbeats 2000000 in
set_option maxRecDepth 100000 in
theorem Days_any (x : CutD) (b n : Int) (ra ba la : Option Addr) (rc bc lc : Nat) (w : World) (hin : CutIn w x ra ba la) :
    Calls Tryd.prog 22 #[cutVal x ra ba la rc bc lc, .int .i64 b, .int .i64 n] w fun e w' => e = .returned (.tuple #[.int .i64 (daysR x b n).1.1, .int .i64 (daysR x b n).1.2, .int .i64 (daysR x b n).2]) ∧ Below w.heap.size w w' := by
  have HIN := hide hin
  clear hin
  unfold cutVal
  go_enter_defers Tryd.func22, Tryd.ntmps22
  go_wp2_with fail
  obtain ⟨w4, hw4⟩ : ∃ w4, ((((w.alloc (Obj.cells (cutCells x ra ba la rc bc lc).toArray 28)).alloc (Obj.cells #[Value.int IntKind.i64 b] 3)).alloc (Obj.cells #[Value.int IntKind.i64 n] 3)).alloc (Obj.cells #[Value.int IntKind.i64 0] 31)) = w4 := ⟨_, rfl⟩
  simp only [cutCells] at hw4
  rw [hw4]
  have hz4 : w4.heap.size = w.heap.size + 1 + 1 + 1 + 1 := by rw [← hw4]; simp
  have hb4 : Below w.heap.size w w4 := by rw [← hw4]; (repeat' first | (with_reducible assumption) | (with_reducible exact Below.refl _ _) | (with_reducible refine Below.drew ?_) | (with_reducible refine Below.setCell ?_ ?_ _) | (with_reducible refine Below.alloc ?_ ?_ _) | (refine Below.trans ?_ (Below.mono (by assumption) ?_)) | omega | (simp only [World.size_alloc] at *; omega))
  have b0 : Blk w4 w.heap.size 28 (cutCells x ra ba la rc bc lc) := by rw [← hw4]; exact ((((Blk.new' _ (cutCells x ra ba la rc bc lc) _ rfl).alloc _).alloc _).alloc _)
  have b1 : Blk w4 (w.heap.size + 1) 3 [.int .i64 b] := by rw [← hw4]; exact (((Blk.new' _ [_] _ (by simp)).alloc _).alloc _)
  have b2 : Blk w4 (w.heap.size + 1 + 1) 3 [.int .i64 n] := by rw [← hw4]; exact (Blk.new' _ [_] _ (by simp)).alloc _
  have b3 : Blk w4 (w.heap.size + 1 + 1 + 1) 31 [.int .i64 0] := by rw [← hw4]; exact Blk.new' _ [_] _ (by simp)
  have HIN4 := hide (HIN.out.below hb4)
  clear hw4
  refine (open_any _ x ra ba la rc bc lc (Cut.isLoads x b n) _ HIN4.out ?_).mono ?_
  · exact ⟨_, _, rfl, enters_of Tryd.func67 (by kernel_rfl) rfl, fun B M la lc w' hv hb _ _ hc => days1_any b n (w.heap.size + 1) (w.heap.size + 1 + 1) w' hc (Cut.valid_of hv).b4 (b1.below hb (by omega)) (b2.below hb (by omega))⟩
  rintro e w5 ⟨hb5, h⟩
  have c0 := b0.below hb5 (by omega)
  have c1 := b1.below hb5 (by omega)
  have c2 := b2.below hb5 (by omega)
  have c3 := b3.below hb5 (by omega)
  have hb5' := hb4.trans (hb5.mono (show w.heap.size ≤ w4.heap.size by omega))
  rcases h with ⟨hv, rfl⟩ | ⟨hv, hbf, rfl⟩ | ⟨hv, hbt, B, M, la', lc', hB, hM, rfl, hcut⟩
  · refine leaves_refused (c3.cell 0 rfl) (c3.free 0) rfl (results3 rfl (read_tmp rfl) (read_tmp rfl) (read_cell1 (w.heap.size + 1 + 1 + 1) _ rfl ((c3.set 0 _).cell 0 rfl) (by kernel_rfl))) ⟨?_, hb5'.setCell (p := ⟨w.heap.size + 1 + 1 + 1, 0, none⟩) (show w.heap.size ≤ w.heap.size + 1 + 1 + 1 by omega) _⟩
    unfold daysR
    rw [toldErr_bad hv]; rfl
  · refine leaves_refused (c3.cell 0 rfl) (c3.free 0) rfl (results3 rfl (read_tmp rfl) (read_tmp rfl) (read_cell1 (w.heap.size + 1 + 1 + 1) _ rfl ((c3.set 0 _).cell 0 rfl) (by kernel_rfl))) ⟨?_, hb5'.setCell (p := ⟨w.heap.size + 1 + 1 + 1, 0, none⟩) (show w.heap.size ≤ w.heap.size + 1 + 1 + 1 by omega) _⟩
    unfold daysR
    rw [hbf, toldErr_range hv]; rfl
  · have HCut := hide hcut
    clear hcut
    go_wp2_with fail
    cases hcan : Cut.can x (Cut.every x) with
    | false =>
      refine (told_no w5 HCut.out hv hcan).mono ?_
      rintro e w6 ⟨rfl, hb6, hk6⟩
      have hb6' := hb6.below_lt (N' := w4.heap.size) hM hb5.size
      have d3 := c3.below hb6' (by omega)
      refine leaves_refused (d3.cell 0 rfl) (d3.free 0) rfl (results3 rfl (read_tmp rfl) (read_tmp rfl) (read_cell1 (w.heap.size + 1 + 1 + 1) _ rfl ((d3.set 0 _).cell 0 rfl) (by kernel_rfl))) ⟨?_, (hb5'.trans (hb6'.mono (by omega))).setCell (p := ⟨w.heap.size + 1 + 1 + 1, 0, none⟩) (show w.heap.size ≤ w.heap.size + 1 + 1 + 1 by omega) _⟩
      unfold daysR
      rw [hbt, toldErr_clash hv hcan]; rfl
    | true =>
      refine (told_yes w5 HCut.out hv hcan).mono ?_
      rintro e w6 ⟨rfl, hb6, hk6⟩
      have hb6' := hb6.below_lt (N' := w4.heap.size) hM hb5.size
      have HC6 := hide (HCut.out.bel hb6 hk6)
      have d0 := c0.below hb6' (by omega)
      have d1 := c1.below hb6' (by omega)
      have d2 := c2.below hb6' (by omega)
      have d3 := c3.below hb6' (by omega)
      obtain ⟨k, m, rfl, hk, rfl, hm, hm10⟩ := loads_of hv hbt
      have hz6 := hb6'.size
      have hM6 := HC6.out.kept.lt
      have hn8 := (Cut.valid_of hv).n8
      have hfin : Hid (daysR x k m = ((((Cut.daysAll x k m : Nat) : Int), ((Cut.daysSome x k m : Nat) : Int)), 0)) := by
        unfold daysR
        rw [hbt, toldErr_ok hv hcan, if_pos rfl]; rfl
      have hbw6 : Hid (Below w.heap.size w w6) := hb5'.trans (hb6'.mono (by omega))
      have d04 := d0.cell 4 rfl
      clear hbt b0 b1 b2 b3 c0 c1 c2 c3 hk6
      go_wp2_with fail
      go_loopw [10, 11, 12, 13, 22, 23, 24, 25, 26, 27, 28, 29, 30, 31, 32, 33, 34, 35, 36, 37, 38, 39, 40, 41, 42] (fun v10 v11 _ _ v22 _ _ _ _ _ _ _ _ _ _ _ _ _ _ _ _ _ _ _ _ wr => ∃ j : Nat, j ≤ x.rain.length + 1 ∧ v22 = .int .i64 j ∧ v10 = .int .i64 (Cut.setTo (fun d => Cut.floatsOn x k m d == 2) j : Nat) ∧ v11 = .int .i64 (Cut.setTo (fun d => Cut.floatsOn x k m d != 0) j : Nat) ∧ Bel M w6.heap.size w6 wr ∧ Hid (Kept wr M x)) (fun _ _ _ _ v22 _ _ _ _ _ _ _ _ _ _ _ _ _ _ _ _ _ _ _ _ _ => x.rain.length + 1 - (intOf v22).toNat)
      case atStart => exact ⟨0, by omega, rfl, rfl, rfl, Bel.refl _ _ _, HC6.out.kept⟩
      case round =>
        obtain ⟨j, hj, rfl, rfl, rfl, hB', hkr⟩ := hrel
        by_cases hlt : j < x.rain.length + 1
        · have e1 := (d1.bel hB' (by omega) (by omega)).cell 0 rfl
          have e2 := (d2.bel hB' (by omega) (by omega)).cell 0 rfl
          have HCr := hide (HC6.out.bel hB' hkr.out)
          have hlt' : (j : Int) < (x.rain.length : Int) + 1 := by omega
          rcases Cut.floats_or (Cut.boatAt x.boats k) m (Cut.water x j) with h0 | h0 | h0
          · have HU1 : Hid (Cut.setTo (fun d => Cut.floatsOn x k m d == 2) (j + 1) = Cut.setTo (fun d => Cut.floatsOn x k m d == 2) j) := by show Cut.setTo _ _ = _; simp [Cut.setTo, Cut.floatsOn, h0]
            have HU2 : Hid (Cut.setTo (fun d => Cut.floatsOn x k m d != 0) (j + 1) = Cut.setTo (fun d => Cut.floatsOn x k m d != 0) j) := by show Cut.setTo _ _ = _; simp [Cut.setTo, Cut.floatsOn, h0]
            go_wp2_with (go_at_call 59; refine (floats_any k m j _ HCr.out hv hcan (by omega) hk ⟨by omega, by omega⟩).mono ?_; rintro e w' ⟨rfl, hb, hk'⟩; rw [h0])
            refine ⟨⟨j + 1, by omega, by go_num, by rw [HU1.out], by rw [HU2.out], hB'.trans (hb.mono hB'.size), hk'⟩, by simp [intOf]; omega⟩
          · have HU1 : Hid (Cut.setTo (fun d => Cut.floatsOn x k m d == 2) (j + 1) = Cut.setTo (fun d => Cut.floatsOn x k m d == 2) j) := by show Cut.setTo _ _ = _; simp [Cut.setTo, Cut.floatsOn, h0]
            have HU2 : Hid (Cut.setTo (fun d => Cut.floatsOn x k m d != 0) (j + 1) = Cut.setTo (fun d => Cut.floatsOn x k m d != 0) j + 2 ^ j) := by show Cut.setTo _ _ = _; simp [Cut.setTo, Cut.floatsOn, h0]
            go_wp2_with (go_at_call 59; refine (floats_any k m j _ HCr.out hv hcan (by omega) hk ⟨by omega, by omega⟩).mono ?_; rintro e w' ⟨rfl, hb, hk'⟩; rw [h0])
            have HO := or_pow _ j (Cut.setTo_lt (fun d => Cut.floatsOn x k m d != 0) j) (by omega)
            refine ⟨⟨j + 1, by omega, by go_num, by rw [HU1.out], by rw [HU2.out, HO], hB'.trans (hb.mono hB'.size), hk'⟩, by simp [intOf]; omega⟩
          · have HU1 : Hid (Cut.setTo (fun d => Cut.floatsOn x k m d == 2) (j + 1) = Cut.setTo (fun d => Cut.floatsOn x k m d == 2) j + 2 ^ j) := by show Cut.setTo _ _ = _; simp [Cut.setTo, Cut.floatsOn, h0]
            have HU2 : Hid (Cut.setTo (fun d => Cut.floatsOn x k m d != 0) (j + 1) = Cut.setTo (fun d => Cut.floatsOn x k m d != 0) j + 2 ^ j) := by show Cut.setTo _ _ = _; simp [Cut.setTo, Cut.floatsOn, h0]
            go_wp2_with (go_at_call 59; refine (floats_any k m j _ HCr.out hv hcan (by omega) hk ⟨by omega, by omega⟩).mono ?_; rintro e w' ⟨rfl, hb, hk'⟩; rw [h0])
            have HO := or_pow _ j (Cut.setTo_lt (fun d => Cut.floatsOn x k m d != 0) j) (by omega)
            have HO2 := or_pow _ j (Cut.setTo_lt (fun d => Cut.floatsOn x k m d == 2) j) (by omega)
            refine ⟨⟨j + 1, by omega, by go_num, by rw [HU1.out, HO2], by rw [HU2.out, HO], hB'.trans (hb.mono hB'.size), hk'⟩, by simp [intOf]; omega⟩
        · obtain rfl : j = x.rain.length + 1 := by omega
          have e3 := d3.bel hB' (by omega) (by omega)
          have r3 := e3.cell 0 rfl
          have r4 := e3.free 0
          have hlt3 := e3.lt
          have hgt : ¬ ((x.rain.length + 1 : Nat) : Int) < (x.rain.length : Int) + 1 := by omega
          go_wp2
          refine leaves_idle rfl (results3 rfl (read_tmp rfl) (read_tmp rfl) (read_cell1 (w.heap.size + 1 + 1 + 1) (.int .i64 0) rfl ((e3.set 0 _).cell 0 rfl) (by kernel_rfl))) ⟨?_, (hbw6.out.trans (hB'.below_lt (by omega) (by omega))).setCell (p := ⟨w.heap.size + 1 + 1 + 1, 0, none⟩) (show w.heap.size ≤ w.heap.size + 1 + 1 + 1 by omega) _⟩
          rw [hfin.out]; rfl
end Go.Proofs.YtlkhjnpflohfeaaDoor

/- Contract of Until. -/
namespace Go.Proofs.YtlkhjnpflohfeaaDoor
open Go Go.Proofs Go.RowKit
namespace Cut
end Cut
set_option maxHeartbeats 2000000 in
set_option maxRecDepth 100000 in
theorem Until_any (x : CutD) (b n d : Int) (ra ba la : Option Addr) (rc bc lc : Nat) (w : World) (hin : CutIn w x ra ba la) :
    Calls Tryd.prog 24 #[cutVal x ra ba la rc bc lc, .int .i64 b, .int .i64 n, .int .i64 d] w fun e w' => e = .returned (.tuple #[.int .i64 (untilR x b n d).1, .int .i64 (untilR x b n d).2]) ∧ Below w.heap.size w w' := by
  have HIN := hide hin
  clear hin
  unfold cutVal
  go_enter_defers Tryd.func24, Tryd.ntmps24
  go_wp2_with fail
  obtain ⟨w4, hw4⟩ : ∃ w4, (((((w.alloc (Obj.cells (cutCells x ra ba la rc bc lc).toArray 28)).alloc (Obj.cells #[Value.int IntKind.i64 b] 3)).alloc (Obj.cells #[Value.int IntKind.i64 n] 3)).alloc (Obj.cells #[Value.int IntKind.i64 d] 3)).alloc (Obj.cells #[Value.int IntKind.i64 0] 31)) = w4 := ⟨_, rfl⟩
  simp only [cutCells] at hw4
  rw [hw4]
  have hz4 : w4.heap.size = w.heap.size + 1 + 1 + 1 + 1 + 1 := by rw [← hw4]; simp
  have hb4 : Below w.heap.size w w4 := by rw [← hw4]; (repeat' first | (with_reducible assumption) | (with_reducible exact Below.refl _ _) | (with_reducible refine Below.drew ?_) | (with_reducible refine Below.setCell ?_ ?_ _) | (with_reducible refine Below.alloc ?_ ?_ _) | (refine Below.trans ?_ (Below.mono (by assumption) ?_)) | omega | (simp only [World.size_alloc] at *; omega))
  have b0 : Blk w4 w.heap.size 28 (cutCells x ra ba la rc bc lc) := by rw [← hw4]; exact (((((Blk.new' _ (cutCells x ra ba la rc bc lc) _ rfl).alloc _).alloc _).alloc _).alloc _)
  have b1 : Blk w4 (w.heap.size + 1) 3 [.int .i64 b] := by rw [← hw4]; exact ((((Blk.new' _ [_] _ (by simp)).alloc _).alloc _).alloc _)
  have b2 : Blk w4 (w.heap.size + 1 + 1) 3 [.int .i64 n] := by rw [← hw4]; exact (((Blk.new' _ [_] _ (by simp)).alloc _).alloc _)
  have b5 : Blk w4 (w.heap.size + 1 + 1 + 1) 3 [.int .i64 d] := by rw [← hw4]; exact (Blk.new' _ [_] _ (by simp)).alloc _
  have b3 : Blk w4 (w.heap.size + 1 + 1 + 1 + 1) 31 [.int .i64 0] := by rw [← hw4]; exact Blk.new' _ [_] _ (by simp)
  have HIN4 := hide (HIN.out.below hb4)
  clear hw4
  refine (open_any _ x ra ba la rc bc lc (isB x b n d) _ HIN4.out ?_).mono ?_
  · exact ⟨_, _, rfl, enters_of Tryd.func69 (by kernel_rfl) rfl, fun B M la lc w' hv hb _ _ hc => until1_any b n d (w.heap.size + 1) (w.heap.size + 1 + 1) (w.heap.size + 1 + 1 + 1) w' hc (Cut.valid_of hv).b4 (b1.below hb (by omega)) (b2.below hb (by omega)) (b5.below hb (by omega))⟩
  rintro e w5 ⟨hb5, h⟩
  have c0 := b0.below hb5 (by omega)
  have c1 := b1.below hb5 (by omega)
  have c2 := b2.below hb5 (by omega)
  have c3 := b3.below hb5 (by omega)
  have c5 := b5.below hb5 (by omega)
  have hb5' := hb4.trans (hb5.mono (show w.heap.size ≤ w4.heap.size by omega))
  rcases h with ⟨hv, rfl⟩ | ⟨hv, hbf, rfl⟩ | ⟨hv, hbt, B, M, la', lc', hB, hM, rfl, hcut⟩
  · refine leaves_refused (c3.cell 0 rfl) (c3.free 0) rfl (results2 rfl (read_tmp rfl) (read_cell1 (w.heap.size + 1 + 1 + 1 + 1) _ rfl ((c3.set 0 _).cell 0 rfl) (by kernel_rfl))) ⟨?_, hb5'.setCell (p := ⟨w.heap.size + 1 + 1 + 1 + 1, 0, none⟩) (show w.heap.size ≤ w.heap.size + 1 + 1 + 1 + 1 by omega) _⟩
    unfold untilR
    rw [toldErr_bad hv]; rfl
  · refine leaves_refused (c3.cell 0 rfl) (c3.free 0) rfl (results2 rfl (read_tmp rfl) (read_cell1 (w.heap.size + 1 + 1 + 1 + 1) _ rfl ((c3.set 0 _).cell 0 rfl) (by kernel_rfl))) ⟨?_, hb5'.setCell (p := ⟨w.heap.size + 1 + 1 + 1 + 1, 0, none⟩) (show w.heap.size ≤ w.heap.size + 1 + 1 + 1 + 1 by omega) _⟩
    unfold untilR
    rw [hbf, toldErr_range hv]; rfl
  · have HCut := hide hcut
    clear hcut
    go_wp2_with fail
    cases hcan : Cut.can x (Cut.every x) with
    | false =>
      refine (told_no w5 HCut.out hv hcan).mono ?_
      rintro e w6 ⟨rfl, hb6, hk6⟩
      have hb6' := hb6.below_lt (N' := w4.heap.size) hM hb5.size
      have d3 := c3.below hb6' (by omega)
      refine leaves_refused (d3.cell 0 rfl) (d3.free 0) rfl (results2 rfl (read_tmp rfl) (read_cell1 (w.heap.size + 1 + 1 + 1 + 1) _ rfl ((d3.set 0 _).cell 0 rfl) (by kernel_rfl))) ⟨?_, (hb5'.trans (hb6'.mono (by omega))).setCell (p := ⟨w.heap.size + 1 + 1 + 1 + 1, 0, none⟩) (show w.heap.size ≤ w.heap.size + 1 + 1 + 1 + 1 by omega) _⟩
      unfold untilR
      rw [hbt, toldErr_clash hv hcan]; rfl
    | true =>
      refine (told_yes w5 HCut.out hv hcan).mono ?_
      rintro e w6 ⟨rfl, hb6, hk6⟩
      have hb6' := hb6.below_lt (N' := w4.heap.size) hM hb5.size
      have HC6 := hide (HCut.out.bel hb6 hk6)
      have d0 := c0.below hb6' (by omega)
      have d1 := c1.below hb6' (by omega)
      have d2 := c2.below hb6' (by omega)
      have d3 := c3.below hb6' (by omega)
      have d5 := c5.below hb6' (by omega)
      have hbb : Cut.isLoads x b n = true ∧ Cut.isDay x d = true := by simpa [isB] using hbt
      obtain ⟨k, m, rfl, hk, rfl, hm, hm10⟩ := loads_of hv hbb.1
      obtain ⟨t, rfl, ht⟩ := day_of hbb.2
      have hz6 := hb6'.size
      have hM6 := HC6.out.kept.lt
      have hn8 := (Cut.valid_of hv).n8
      have hfin : Hid (untilR x k m t = untilV (Cut.untilOn x k m t)) := by
        unfold untilR
        rw [hbt, toldErr_ok hv hcan, if_pos rfl]; rfl
      have hbw6 : Hid (Below w.heap.size w w6) := hb5'.trans (hb6'.mono (by omega))
      have d04 := d0.cell 4 rfl
      have d50 := d5.cell 0 rfl
      clear hbb hbt b0 b1 b2 b3 b5 c0 c1 c2 c3 c5 hk6
      go_wp2_with fail
      go_loopw [8, 11, 17, 18, 19, 20, 21, 22, 23, 24, 25, 26, 27, 28, 29, 30] (fun v8 v11 _ _ _ _ _ _ _ _ _ _ _ _ _ _ wr => ∃ j : Nat, j ≤ x.rain.length + 1 ∧ v11 = .int .i64 j ∧ v8 = .int .i64 0 ∧ Hid (Cut.untilOn x k m t = Cut.findFrom (fun i => Cut.floatsOn x k m i == 2) j (x.rain.length + 1 - j)) ∧ Bel M w6.heap.size w6 wr ∧ Hid (Kept wr M x)) (fun _ v11 _ _ _ _ _ _ _ _ _ _ _ _ _ _ _ => x.rain.length + 1 - (intOf v11).toNat)
      case atStart => exact ⟨t, by omega, rfl, rfl, rfl, Bel.refl _ _ _, HC6.out.kept⟩
      case round =>
        obtain ⟨j, hj, rfl, rfl, hfind, hB', hkr⟩ := hrel
        have e3 := d3.bel hB' (by omega) (by omega)
        have c4 := (d0.bel hB' (by omega) (by omega)).cell 4 rfl
        have hlt3 := e3.lt
        by_cases hlt : j < x.rain.length + 1
        · have e1 := (d1.bel hB' (by omega) (by omega)).cell 0 rfl
          have e2 := (d2.bel hB' (by omega) (by omega)).cell 0 rfl
          have HCr := hide (HC6.out.bel hB' hkr.out)
          have hlt' : (j : Int) ≤ (x.rain.length : Int) := by omega
          obtain ⟨q, hq⟩ : ∃ q, x.rain.length + 1 - j = q + 1 := ⟨x.rain.length - j, by omega⟩
          have hq' : q = x.rain.length + 1 - (j + 1) := by omega
          have hf := hfind.out
          rw [hq] at hf
          unfold Cut.findFrom at hf
          cases h2 : (Cut.floatsOn x k m j == 2) with
          | true =>
            have hfl : Cut.floats (Cut.boatAt x.boats k) m (Cut.water x j) = 2 := by simpa [Cut.floatsOn] using h2
            rw [h2, if_pos rfl] at hf
            have HF := hide hf
            have HFL := hide hfl
            clear hf hfl h2 hq hq'
            go_wp2_with (go_at_call 59; refine (floats_any k m j _ HCr.out hv hcan (by omega) hk ⟨by omega, by omega⟩).mono ?_; rintro e w' ⟨rfl, hb, hk'⟩; rw [HFL.out]; have f3 := e3.bel hb hlt3 (by omega); have r3 := f3.cell 0 rfl; have r4 := f3.free 0)
            refine leaves_idle rfl (results2 rfl (read_tmp rfl) (read_cell1 (w.heap.size + 1 + 1 + 1 + 1) (.int .i64 0) rfl ((f3.set 0 _).cell 0 rfl) (by kernel_rfl))) ⟨?_, (hbw6.out.trans ((hB'.trans (hb.mono hB'.size)).below_lt (by omega) (by omega))).setCell (p := ⟨w.heap.size + 1 + 1 + 1 + 1, 0, none⟩) (show w.heap.size ≤ w.heap.size + 1 + 1 + 1 + 1 by omega) _⟩
            rw [hfin.out, HF.out]; rfl
          | false =>
            have hfl : ¬ Cut.floats (Cut.boatAt x.boats k) m (Cut.water x j) = 2 := by simpa [Cut.floatsOn] using h2
            rw [h2, if_neg (by simp), hq'] at hf
            have HF := hide hf
            have hfb : (Cut.floats (Cut.boatAt x.boats k) m (Cut.water x j) == 2) = false := by simpa using hfl
            clear hf hfl h2 hq hq'
            go_wp2_with (go_at_call 59; refine (floats_any k m j _ HCr.out hv hcan (by omega) hk ⟨by omega, by omega⟩).mono ?_; rintro e w' ⟨rfl, hb, hk'⟩)
            refine ⟨⟨j + 1, by omega, by go_num, rfl, HF.out, hB'.trans (hb.mono hB'.size), hk'⟩, by simp [intOf]; omega⟩
        · obtain rfl : j = x.rain.length + 1 := by omega
          have r3 := e3.cell 0 rfl
          have r4 := e3.free 0
          have hgt : ¬ ((x.rain.length + 1 : Nat) : Int) ≤ (x.rain.length : Int) := by omega
          have hf := hfind.out
          rw [Nat.sub_self] at hf
          have HF := hide hf
          clear hf
          go_wp2
          refine leaves_idle rfl (results2 rfl (read_tmp rfl) (read_cell1 (w.heap.size + 1 + 1 + 1 + 1) (.int .i64 4) rfl ((e3.set 0 _).cell 0 rfl) (by kernel_rfl))) ⟨?_, (hbw6.out.trans (hB'.below_lt (by omega) (by omega))).setCell (p := ⟨w.heap.size + 1 + 1 + 1 + 1, 0, none⟩) (show w.heap.size ≤ w.heap.size + 1 + 1 + 1 + 1 by omega) _⟩
          rw [hfin.out, HF.out]; rfl
end Go.Proofs.YtlkhjnpflohfeaaDoor

/- Contract of Together. -/
namespace Go.Proofs.YtlkhjnpflohfeaaDoor
open Go Go.Proofs Go.RowKit
attribute [local go_sem ↓] run_max_i64 run_min_i64
namespace Cut
end Cut
set_option maxHeartbeats 2000000 in
set_option maxRecDepth 100000 in
theorem Together_any (x : CutD) (d : Int) (ra ba la : Option Addr) (rc bc lc : Nat) (w : World) (hin : CutIn w x ra ba la) :
    Calls Tryd.prog 26 #[cutVal x ra ba la rc bc lc, .int .i64 d] w fun e w' => e = .returned (.tuple #[.int .i64 (togetherR x d).1, .int .i64 (togetherR x d).2]) ∧ Below w.heap.size w w' := by
  have HIN := hide hin
  clear hin
  unfold cutVal
  go_enter_defers Tryd.func26, Tryd.ntmps26
  go_wp2_with fail
  obtain ⟨w4, hw4⟩ : ∃ w4, (((w.alloc (Obj.cells (cutCells x ra ba la rc bc lc).toArray 28)).alloc (Obj.cells #[Value.int IntKind.i64 d] 3)).alloc (Obj.cells #[Value.int IntKind.i64 0] 31)) = w4 := ⟨_, rfl⟩
  simp only [cutCells] at hw4
  rw [hw4]
  have hz4 : w4.heap.size = w.heap.size + 1 + 1 + 1 := by rw [← hw4]; simp
  have hb4 : Below w.heap.size w w4 := by rw [← hw4]; (repeat' first | (with_reducible assumption) | (with_reducible exact Below.refl _ _) | (with_reducible refine Below.drew ?_) | (with_reducible refine Below.setCell ?_ ?_ _) | (with_reducible refine Below.alloc ?_ ?_ _) | (refine Below.trans ?_ (Below.mono (by assumption) ?_)) | omega | (simp only [World.size_alloc] at *; omega))
  have b0 : Blk w4 w.heap.size 28 (cutCells x ra ba la rc bc lc) := by rw [← hw4]; exact (((Blk.new' _ (cutCells x ra ba la rc bc lc) _ rfl).alloc _).alloc _)
  have b2 : Blk w4 (w.heap.size + 1) 3 [.int .i64 d] := by rw [← hw4]; exact (Blk.new' _ [_] _ (by simp)).alloc _
  have b3 : Blk w4 (w.heap.size + 1 + 1) 31 [.int .i64 0] := by rw [← hw4]; exact Blk.new' _ [_] _ (by simp)
  have HIN4 := hide (HIN.out.below hb4)
  clear hw4
  refine (open_any _ x ra ba la rc bc lc (Cut.isDay x d) _ HIN4.out ?_).mono ?_
  · exact ⟨_, _, rfl, enters_of Tryd.func70 (by kernel_rfl) rfl, fun B M la lc w' hv hb _ _ hc => together1_any d (w.heap.size + 1) w' hc (b2.below hb (by omega))⟩
  rintro e w5 ⟨hb5, h⟩
  have c0 := b0.below hb5 (by omega)
  have c2 := b2.below hb5 (by omega)
  have c3 := b3.below hb5 (by omega)
  have hb5' := hb4.trans (hb5.mono (show w.heap.size ≤ w4.heap.size by omega))
  rcases h with ⟨hv, rfl⟩ | ⟨hv, hbf, rfl⟩ | ⟨hv, hbt, B, M, la', lc', hB, hM, rfl, hcut⟩
  · refine leaves_refused (c3.cell 0 rfl) (c3.free 0) rfl (results2 rfl (read_tmp rfl) (read_cell1 (w.heap.size + 1 + 1) _ rfl ((c3.set 0 _).cell 0 rfl) (by kernel_rfl))) ⟨?_, hb5'.setCell (p := ⟨w.heap.size + 1 + 1, 0, none⟩) (show w.heap.size ≤ w.heap.size + 1 + 1 by omega) _⟩
    unfold togetherR
    rw [toldErr_bad hv]; rfl
  · refine leaves_refused (c3.cell 0 rfl) (c3.free 0) rfl (results2 rfl (read_tmp rfl) (read_cell1 (w.heap.size + 1 + 1) _ rfl ((c3.set 0 _).cell 0 rfl) (by kernel_rfl))) ⟨?_, hb5'.setCell (p := ⟨w.heap.size + 1 + 1, 0, none⟩) (show w.heap.size ≤ w.heap.size + 1 + 1 by omega) _⟩
    unfold togetherR
    rw [hbf, toldErr_range hv]; rfl
  · have HCut := hide hcut
    clear hcut
    go_wp2_with fail
    cases hcan : Cut.can x (Cut.every x) with
    | false =>
      refine (told_no w5 HCut.out hv hcan).mono ?_
      rintro e w6 ⟨rfl, hb6, hk6⟩
      have hb6' := hb6.below_lt (N' := w4.heap.size) hM hb5.size
      have d3 := c3.below hb6' (by omega)
      refine leaves_refused (d3.cell 0 rfl) (d3.free 0) rfl (results2 rfl (read_tmp rfl) (read_cell1 (w.heap.size + 1 + 1) _ rfl ((d3.set 0 _).cell 0 rfl) (by kernel_rfl))) ⟨?_, (hb5'.trans (hb6'.mono (by omega))).setCell (p := ⟨w.heap.size + 1 + 1, 0, none⟩) (show w.heap.size ≤ w.heap.size + 1 + 1 by omega) _⟩
      unfold togetherR
      rw [hbt, toldErr_clash hv hcan]; rfl
    | true =>
      refine (told_yes w5 HCut.out hv hcan).mono ?_
      rintro e w6 ⟨rfl, hb6, hk6⟩
      have hb6' := hb6.below_lt (N' := w4.heap.size) hM hb5.size
      have HC6 := hide (HCut.out.bel hb6 hk6)
      have d0 := c0.below hb6' (by omega)
      have d2 := c2.below hb6' (by omega)
      have d3 := c3.below hb6' (by omega)
      obtain ⟨t, rfl, ht⟩ := day_of hbt
      have hz6 := hb6'.size
      have hM6 := HC6.out.kept.lt
      have hn8 := (Cut.valid_of hv).n8
      have hfin : Hid (togetherR x t = (Cut.togetherOn x t, 0)) := by
        unfold togetherR
        rw [hbt, toldErr_ok hv hcan, if_pos rfl]; rfl
      have hbw6 : Hid (Below w.heap.size w w6) := hb5'.trans (hb6'.mono (by omega))
      have d06 := d0.cell 6 rfl
      have hb4x := (Cut.valid_of hv).b4
      clear hbt b0 b2 b3 c0 c2 c3 hk6
      go_wp2_with fail
      go_loopw [7, 8, 16, 17, 18, 19, 20, 21, 22, 23, 24, 25, 26] (fun v7 _ v16 _ _ _ _ _ _ _ _ _ _ wr => ∃ j : Nat, j ≤ x.boats.length ∧ v16 = .int .i64 j ∧ v7 = .int .i64 (Cut.sumTo x t j) ∧ Bel M w6.heap.size w6 wr ∧ Hid (Kept wr M x)) (fun _ _ v16 _ _ _ _ _ _ _ _ _ _ _ => x.boats.length - (intOf v16).toNat)
      case atStart => exact ⟨0, by omega, rfl, rfl, Bel.refl _ _ _, HC6.out.kept⟩
      case round =>
        obtain ⟨j, hj, rfl, rfl, hB', hkr⟩ := hrel
        by_cases hlt : j < x.boats.length
        · have e2 := (d2.bel hB' (by omega) (by omega)).cell 0 rfl
          have HCr := hide (HC6.out.bel hB' hkr.out)
          have hs := Cut.sumTo_le hv t j (by omega)
          have hl := Cut.loads_le hv j t hlt 2
          have HU : Hid (Cut.sumTo x t (j + 1) = Cut.sumTo x t j + max 0 (Cut.loads x j t 2)) := rfl
          go_wp2_with (go_at_call 64; refine (loads_any j t 2 _ HCr.out hv hcan ht hlt).mono ?_; rintro e w' ⟨rfl, hb, hk'⟩)
          refine ⟨⟨j + 1, by omega, by go_num, by rw [HU.out], hB'.trans (hb.mono hB'.size), hk'⟩, by simp [intOf]; omega⟩
        · obtain rfl : j = x.boats.length := by omega
          have e3 := d3.bel hB' (by omega) (by omega)
          have r3 := e3.cell 0 rfl
          have r4 := e3.free 0
          have hlt3 := e3.lt
          go_wp2
          refine leaves_idle rfl (results2 rfl (read_tmp rfl) (read_cell1 (w.heap.size + 1 + 1) (.int .i64 0) rfl ((e3.set 0 _).cell 0 rfl) (by kernel_rfl))) ⟨?_, (hbw6.out.trans (hB'.below_lt (by omega) (by omega))).setCell (p := ⟨w.heap.size + 1 + 1, 0, none⟩) (show w.heap.size ≤ w.heap.size + 1 + 1 by omega) _⟩
          rw [hfin.out]; rfl
end Go.Proofs.YtlkhjnpflohfeaaDoor

/- The contract of sample. -/
namespace Go.Proofs.YtlkhjnpflohfeaaDoor
open Go Go.Proofs Go.RowKit

theorem blk_setRow {w : World} {g : Nat} {T : TypeId} {cs : List Value} (h : Blk w g T cs) (ds : List Value) : Blk (w.setRow g ds.toArray) g T ds := setRow_heap w g _ _ T (0, 0) h
theorem heap_setRow_other (w : World) (g k : Nat) (cs : Array Value) (h : k ≠ g) : (w.setRow g cs).heap[k]? = w.heap[k]? := by
  unfold World.setRow; simp [Array.getElem?_modify, Ne.symm h]
theorem size_setRow (w : World) (g : Nat) (cs : Array Value) : (w.setRow g cs).heap.size = w.heap.size := by unfold World.setRow; simp
theorem blk_setRow_other {w : World} {g b : Nat} {T : TypeId} {cs : List Value} (h : Blk w b T cs) (hn : b ≠ g) (ds : Array Value) : Blk (w.setRow g ds) b T cs := (heap_setRow_other w g b ds hn).trans h
theorem below_setRow {N : Nat} {w w' : World} (h : Below N w w') (g : Nat) (hg : N ≤ g) (cs : Array Value) : Below N w (w'.setRow g cs) :=
  ⟨h.os, h.tape, h.output, by rw [size_setRow]; exact h.size, fun k hk => (heap_setRow_other w' g k cs (by omega)).trans (h.block k hk)⟩

def sampleD (ls : List Look) : CutD := ⟨(10, 12), (1, 2), [(3, 5), (0, 0), (0, 4), (8, 9)], 20, [⟨(6, 7), 3, 4⟩, ⟨(13, 13), 2, 2⟩], ls⟩

set_option maxHeartbeats 1000000 in
set_option maxRecDepth 100000 in
theorem sample_any (ls : List Look) (la : Option Addr) (lc : Nat) (w : World) (hl : ElemsR w la ls.length 3 (lookCell ls)) (hd : Dry w) :
    Calls Tryd.prog 41 #[.slice la ls.length lc] w fun e w' => ∃ ra ba, e = .returned (cutVal (sampleD ls) ra ba la 4 2 lc) ∧ Below w.heap.size w w' ∧ CutIn w' (sampleD ls) ra ba la := by
  have HL := hide hl
  have HD := hide hd
  clear hl hd
  go_enter Tryd.func41, Tryd.ntmps41
  go_wp2_with fail
  refine (lawSpan_any _ _ _).mono ?_
  rintro e w1 ⟨rfl, hb⟩
  have z1 : Blk w1 w.heap.size 28 [.int .i64 0, .int .i64 0, .int .i64 0, .int .i64 0, .slice none 0 0, .int .i64 0, .slice none 0 0, .slice none 0 0] := Blk.below (Blk.new _ _ _) hb (by simp)
  have b1 : Below w.heap.size w w1 := by (repeat' first | (with_reducible assumption) | (with_reducible exact Below.refl _ _) | (with_reducible refine Below.drew ?_) | (with_reducible refine Below.setCell ?_ ?_ _) | (with_reducible refine Below.alloc ?_ ?_ _) | (refine Below.trans ?_ (Below.mono (by assumption) ?_)) | omega | (simp only [World.size_alloc] at *; omega))
  have l1 := z1.lt
  clear hb
  go_wp2_with fail
  refine (lawSpan_any _ _ _).mono ?_
  rintro e w2 ⟨rfl, hb⟩
  have z2 := z1.below hb l1
  have b2 := b1.trans (hb.mono b1.size)
  have l2 := z2.lt
  clear hb z1 b1 l1
  go_wp2_with fail
  refine (lawSpan_any _ _ _).mono ?_
  rintro e w3 ⟨rfl, hb⟩
  have z3 := z2.below hb l2
  have b3 := b2.trans (hb.mono b2.size)
  have l3 := z3.lt
  clear hb z2 b2 l2
  go_wp2_with fail
  refine (lawSpan_any _ _ _).mono ?_
  rintro e w4 ⟨rfl, hb⟩
  have z4 := z3.below hb l3
  have b4 := b3.trans (hb.mono b3.size)
  have l4 := z4.lt
  clear hb z3 b3 l3
  go_wp2_with fail
  refine (lawSpan_any _ _ _).mono ?_
  rintro e w5 ⟨rfl, hb⟩
  have z5 := z4.below hb l4
  have b5 := b4.trans (hb.mono b4.size)
  have l5 := z5.lt
  clear hb z4 b4 l4
  go_wp2_with fail
  refine (lawSpan_any _ _ _).mono ?_
  rintro e w6 ⟨rfl, hb⟩
  have z6 := z5.below hb l5
  have b6 := b5.trans (hb.mono b5.size)
  have l6 := z6.lt
  clear hb z5 b5 l5
  go_wp2_with fail
  refine (lawSpan_any _ _ _).mono ?_
  rintro e w7 ⟨rfl, hb⟩
  have hz6 := l6
  have r7 : Blk w7 w6.heap.size 23 [.int .i64 3, .int .i64 5, .int .i64 0, .int .i64 0, .int .i64 0, .int .i64 4, .int .i64 8, .int .i64 9] := Blk.below (Blk.new _ _ _) hb (by simp)
  have z7 := (z6.alloc _).below hb (by simp; omega)
  have b7 : Below w.heap.size w w7 := by (repeat' first | (with_reducible assumption) | (with_reducible exact Below.refl _ _) | (with_reducible refine Below.drew ?_) | (with_reducible refine Below.setCell ?_ ?_ _) | (with_reducible refine Below.alloc ?_ ?_ _) | (refine Below.trans ?_ (Below.mono (by assumption) ?_)) | omega | (simp only [World.size_alloc] at *; omega))
  have l7 := z7.lt
  clear hb
  go_wp2_with fail
  refine (lawSpan_any _ _ _).mono ?_
  rintro e w8 ⟨rfl, hb⟩
  have z8 := z7.below hb l7
  have b8 := b7.trans (hb.mono b7.size)
  have r8 := r7.below hb r7.lt
  have lr8 := r8.lt
  have l8 := z8.lt
  clear hb z7 b7 l7 r7 z6 b6 l6
  have hb8 := hide b8
  go_wp2_with (refine wpList_store_row rfl 28 (.tmp 2) (.tmp 16) rfl w.heap.size _ rfl rfl _ _ (z8.alloc _) (by kernel_rfl) rfl (by first | rfl | simp [Value.oneCell']) ?_)
  have rr := blk_setRow_other (r8.alloc (Obj.cells #[.int .i64 6, .int .i64 7, .int .i64 3, .int .i64 4, .int .i64 13, .int .i64 13, .int .i64 2, .int .i64 2] 51)) (show w6.heap.size ≠ w.heap.size by omega) (cutCells (sampleD ls) (some ⟨w6.heap.size, 0, none⟩) (some ⟨w8.heap.size, 0, none⟩) la 4 2 lc).toArray
  have rb := blk_setRow_other (Blk.new w8 [.int .i64 6, .int .i64 7, .int .i64 3, .int .i64 4, .int .i64 13, .int .i64 13, .int .i64 2, .int .i64 2] 51) (show w8.heap.size ≠ w.heap.size by omega) (cutCells (sampleD ls) (some ⟨w6.heap.size, 0, none⟩) (some ⟨w8.heap.size, 0, none⟩) la 4 2 lc).toArray
  have zz := blk_setRow (z8.alloc (Obj.cells #[.int .i64 6, .int .i64 7, .int .i64 3, .int .i64 4, .int .i64 13, .int .i64 13, .int .i64 2, .int .i64 2] 51)) (cutCells (sampleD ls) (some ⟨w6.heap.size, 0, none⟩) (some ⟨w8.heap.size, 0, none⟩) la 4 2 lc)
  have bb := below_setRow (hb8.out.alloc (by omega) (Obj.cells #[.int .i64 6, .int .i64 7, .int .i64 3, .int .i64 4, .int .i64 13, .int .i64 13, .int .i64 2, .int .i64 2] 51)) w.heap.size (by omega) (cutCells (sampleD ls) (some ⟨w6.heap.size, 0, none⟩) (some ⟨w8.heap.size, 0, none⟩) la 4 2 lc).toArray
  clear z8 r8 b8 hb8
  have hW : ∀ u : List Value, Obj.cells u.toArray 51 (0, 0) = Obj.cells u.toArray 51 := fun _ => rfl
  generalize hg : (w8.alloc (Obj.cells #[.int .i64 6, .int .i64 7, .int .i64 3, .int .i64 4, .int .i64 13, .int .i64 13, .int .i64 2, .int .i64 2] 51)).setRow w.heap.size (cutCells (sampleD ls) (some ⟨w6.heap.size, 0, none⟩) (some ⟨w8.heap.size, 0, none⟩) la 4 2 lc).toArray = W at zz bb rr rb
  have hg' := hg
  simp only [cutCells, sampleD, List.length_cons, List.length_nil] at hg'
  rw [show (0 + 1 + 1 + 1 + 1 : Nat) = 4 from rfl] at hg'
  rw [hg']
  clear hg hg'
  have hlt := zz.lt
  have c0 := zz.cell 0 rfl
  have c1 := zz.cell 1 rfl
  have c2 := zz.cell 2 rfl
  have c3 := zz.cell 3 rfl
  have c4 := zz.cell 4 rfl
  have c5 := zz.cell 5 rfl
  have c6 := zz.cell 6 rfl
  have c7 := zz.cell 7 rfl
  refine bodyPost_ret (v := cutVal (sampleD ls) (some ⟨w6.heap.size, 0, none⟩) (some ⟨w8.heap.size, 0, none⟩) la 4 2 lc) (by unfold cutVal; simp [results, Tryd.results41, go_sem, *]) rfl ⟨_, _, rfl, bb, ?_, ?_, HL.out.below bb, HD.out.below bb⟩
  · refine .inr ⟨w6.heap.size, 0, rfl, rr.lt, fun i j hi hj => ?_⟩
    have hi' : i < 4 := hi
    have : (i = 0 ∨ i = 1 ∨ i = 2 ∨ i = 3) ∧ (j = 0 ∨ j = 1) := by omega
    obtain ⟨rfl | rfl | rfl | rfl, rfl | rfl⟩ := this
    all_goals exact rr.cell _ rfl
  · refine .inr ⟨w8.heap.size, 0, rfl, rb.lt, fun i j hi hj => ?_⟩
    have hi' : i < 2 := hi
    have : (i = 0 ∨ i = 1) ∧ (j = 0 ∨ j = 1 ∨ j = 2 ∨ j = 3) := by omega
    obtain ⟨rfl | rfl, rfl | rfl | rfl | rfl⟩ := this
    all_goals exact rb.cell _ rfl
end Go.Proofs.YtlkhjnpflohfeaaDoor

/- What the examples of the document are, by the contracts' functions. -/
namespace Go.Proofs.YtlkhjnpflohfeaaDoor
open Go Go.Proofs
def look1 : Look := ⟨2, (14, 20)⟩
def look2 : Look := ⟨3, (5, 9)⟩
theorem ex_depth : depthR (sampleD []) 3 = ((7, 18), 0) := by decide +kernel
theorem ex_leak : leakR (sampleD [look1]) = ((1, 1), 0) := by decide +kernel
theorem ex_floats : floatsR (sampleD []) 0 2 0 = (1, 0) := by decide +kernel
theorem ex_loads : loadsR (sampleD []) 0 2 = ((0, 3), 0) := by decide +kernel
theorem ex_days : daysR (sampleD []) 0 1 = ((19, 31), 0) := by decide +kernel
theorem ex_until : untilR (sampleD []) 0 1 2 = (4, 0) := by decide +kernel
theorem ex_together : togetherR (sampleD []) 4 = (2, 0) := by decide +kernel
theorem ex_clash : clashR (sampleD [look1, look2]) = (3, 0) := by decide +kernel
theorem ex_depth0 : depthR (sampleD [look1]) 0 = ((11, 12), 0) := by decide +kernel
end Go.Proofs.YtlkhjnpflohfeaaDoor
