/- Plain laws of the seasons of package cut: if there is a depth on the first day, there is one on each. -/
import Derived.Test.YtlkhjnpflohfeaaDoorLpRA
import Derived.Test.YtlkhjnpflohfeaaDoorLpPD
import Derived.BigRegion
import Derived.ChangeAlike
import Derived.Scope
import Derived.Shelf.RegionOpen
import Derived.Shelf.Abstract
import Derived.Laws.MakeOwn
import Derived.Laws.Append
import Derived.BigQuiet
import Derived.CallsIn
import Derived.OrdersIn
import Derived.RangeFuncCalls
import Derived.Deep.Quiet
/- Contract of season. -/
namespace Go.Proofs.YtlkhjnpflohfeaaDoor
open Go Go.Proofs Go.RowKit
attribute [local go_sem ↓] zbu zbt

def cells18 (f : Nat → Int × Int) : List Value :=
  [.int .i64 (f 0).1, .int .i64 (f 0).2, .int .i64 (f 1).1, .int .i64 (f 1).2, .int .i64 (f 2).1, .int .i64 (f 2).2, .int .i64 (f 3).1, .int .i64 (f 3).2, .int .i64 (f 4).1, .int .i64 (f 4).2,
   .int .i64 (f 5).1, .int .i64 (f 5).2, .int .i64 (f 6).1, .int .i64 (f 6).2, .int .i64 (f 7).1, .int .i64 (f 7).2, .int .i64 (f 8).1, .int .i64 (f 8).2]
theorem nine (k : Nat) (h : k < 9) : k = 0 ∨ k = 1 ∨ k = 2 ∨ k = 3 ∨ k = 4 ∨ k = 5 ∨ k = 6 ∨ k = 7 ∨ k = 8 := by omega
theorem zgq (f : Nat → Int × Int) (k : Nat) (h : k < 9) : (cells18 f)[k * 2]? = some (.int .i64 (f k).1) := by
  rcases nine k h with rfl | rfl | rfl | rfl | rfl | rfl | rfl | rfl | rfl <;> rfl
theorem zgp (f : Nat → Int × Int) (k : Nat) (h : k < 9) : (cells18 f)[k * 2 + 1]? = some (.int .i64 (f k).2) := by
  rcases nine k h with rfl | rfl | rfl | rfl | rfl | rfl | rfl | rfl | rfl <;> rfl
def upd (f : Nat → Int × Int) (k : Nat) (v : Int × Int) : Nat → Int × Int := fun i => if i = k then v else f i
theorem zwu (f : Nat → Int × Int) (k : Nat) (v : Int × Int) (h : k < 9) : ((cells18 f).set (k * 2) (.int .i64 v.1)).set (k * 2 + 1) (.int .i64 v.2) = cells18 (upd f k v) := by
  rcases nine k h with rfl | rfl | rfl | rfl | rfl | rfl | rfl | rfl | rfl <;> rfl
theorem zwv {f g : Nat → Int × Int} (h : ∀ i, i < 9 → f i = g i) : cells18 f = cells18 g := by
  unfold cells18
  rw [h 0 (by omega), h 1 (by omega), h 2 (by omega), h 3 (by omega), h 4 (by omega), h 5 (by omega), h 6 (by omega), h 7 (by omega), h 8 (by omega)]
theorem znc (x : CutD) (k : Int) (s : Nat) : Cut.seasonAt x k s x.rain.length = Cut.forth x k s x.rain.length := by
  unfold Cut.seasonAt; rw [if_pos (Nat.le_refl _), Nat.sub_self]; rfl
theorem zgb (x : CutD) (k : Int) (s d : Nat) (h : d < x.rain.length) : Cut.seasonAt x k s d = Cut.common (Cut.forth x k s d) (Cut.before (Cut.stepBy x k d) x.most (Cut.seasonAt x k s (d + 1))) := by
  unfold Cut.seasonAt
  rw [if_pos (by omega), if_pos (by omega)]
  obtain ⟨j, hj⟩ : ∃ j, x.rain.length - d = j + 1 := ⟨x.rain.length - d - 1, by omega⟩
  rw [hj, show x.rain.length - (d + 1) = j by omega]
  show Cut.common (Cut.forth x k s (x.rain.length - (j + 1))) (Cut.before (Cut.stepBy x k (x.rain.length - (j + 1))) x.most (Cut.back x k s x.rain.length j)) = _
  rw [show x.rain.length - (j + 1) = d by omega]
theorem znd (x : CutD) (k : Int) (s d : Nat) (h : x.rain.length < d) : Cut.seasonAt x k s d = (0, 0) := by
  unfold Cut.seasonAt; rw [if_neg (by omega)]
theorem zqg (f : Nat → Int × Int) : ∀ v ∈ cells18 f, v.oneCell' = true := by
  intro v hv
  simp only [cells18, List.mem_cons, List.not_mem_nil, or_false] at hv
  rcases hv with rfl | rfl | rfl | rfl | rfl | rfl | rfl | rfl | rfl | rfl | rfl | rfl | rfl | rfl | rfl | rfl | rfl | rfl <;> rfl
section
variable {B M : Nat} {x : CutD} {ra ba la : Option Addr} {rc bc lc : Nat}

set_option maxHeartbeats 400000 in
set_option maxRecDepth 100000 in
theorem zqq (d : Nat) (leak : Int) (set : Int) (H K : Nat) (w : World) (h : CutAt w B M x ra ba la rc bc lc) (hv : Cut.valid x = true) (hd : d < x.rain.length) (hl : 0 ≤ leak ∧ leak ≤ 10)
    (hr : 0 ≤ (Cut.spanAt x.rain d).1 ∧ (Cut.spanAt x.rain d).2 ≤ 30 ∧ (Cut.spanAt x.rain d).1 ≤ (Cut.spanAt x.rain d).2)
    (b0 : Blk w H 70 [.pointer (some ⟨B, 0, none⟩)]) (b1 : Blk w K 90 [.int .i64 leak, .int .u64 set]) :
    Calls Tryd.prog 87 #[.int .i64 d, .pointer (some ⟨H, 0, none⟩), .pointer (some ⟨K, 0, none⟩)] w fun e w' =>
      e = .returned (.iface 126 (.agg #[.int .i64 (Cut.stepBy x leak d).1, .int .i64 (Cut.stepBy x leak d).2, .int .i64 x.most])) ∧ Below w.heap.size w w' := by
  have _ := hv
  have c4 := h.blk.cell 4 rfl
  have c5 := h.blk.cell 5 rfl
  have d0 := b0.cell 0 rfl
  have e0 := b1.cell 0 rfl
  rcases h.rain with h0 | ⟨bb, off, rfl, hlt, hM, hc⟩
  · omega
  have k0 := hc d 0 hd (by omega)
  have k1 := hc d 1 hd (by omega)
  simp [spanCell] at k0 k1
  have hn : (d : Int) < x.rain.length := by omega
  have HS : Hid (Cut.stepBy x leak d = ((Cut.spanAt x.rain d).1 - leak, (Cut.spanAt x.rain d).2 - leak)) := rfl
  clear h hc b0 b1 hv
  go_enter Tryd.func87, Tryd.ntmps87
  go_wp2_with fail
  have e1 : IntKind.i64.wrap ((Cut.spanAt x.rain d).1 - leak) = (Cut.spanAt x.rain d).1 - leak := IntWalk.i64_in _ (by omega)
  have e2 : IntKind.i64.wrap ((Cut.spanAt x.rain d).2 - leak) = (Cut.spanAt x.rain d).2 - leak := IntWalk.i64_in _ (by omega)
  go_quiet (fail)
  clear e1 e2
  go_wp2
  go_ret
  exact ⟨by rw [HS.out]; rfl, zmm (Below.refl _ _) _⟩

set_option maxHeartbeats 1000000 in
set_option maxRecDepth 100000 in
theorem zha (leak : Int) (set : Nat) (w : World) (h : CutAt w B M x ra ba la rc bc lc) (hv : Cut.valid x = true) (hl : 0 ≤ leak ∧ leak ≤ 10) (hset : set < 18446744073709551616) :
    Calls Tryd.prog 53 #[.pointer (some ⟨B, 0, none⟩), .agg #[.int .i64 leak, .int .u64 set]] w fun e w' =>
      e = .returned (.agg (cells18 (Cut.seasonAt x leak set)).toArray) ∧ Bel M w.heap.size w w' ∧ Kept w' M x := by
  have c8 := h.blk.cell 8 rfl
  have hBl := h.blk.lt
  obtain ⟨hit, hlook⟩ := zpl h.kept leak set
  obtain ⟨g, hg1, hg2⟩ : ∃ g : Nat → Int × Int, (hit = true → g = Cut.seasonAt x leak set) ∧ (if hit then seasonV x leak set else .agg (Array.replicate 18 (.int .i64 0))) = .agg (cells18 g).toArray := by
    cases hit
    · exact ⟨fun _ => (0, 0), by simp, rfl⟩
    · exact ⟨_, fun _ => rfl, rfl⟩
  rw [hg2] at hlook
  have HG := hide hg1
  have hlM := h.kept.lt
  have HC := hide h
  have HL := hide hlook
  clear h hlook hg1 hg2
  go_enter Tryd.func53, Tryd.ntmps53
  go_wp2_with fail
  generalize hW3 : ((w.alloc (Obj.cells #[Value.pointer (some ⟨B, 0, none⟩)] 70)).alloc (Obj.cells #[Value.int IntKind.i64 leak, Value.int IntKind.u64 ↑set] 90)).alloc _ = w3
  have hz3 : w3.heap.size = w.heap.size + 1 + 1 + 1 := by rw [← hW3]; simp
  have hb3 : Below w.heap.size w w3 := by rw [← hW3]; (repeat' first | (with_reducible assumption) | (with_reducible exact Below.refl _ _) | (with_reducible refine Below.drew ?_) | (with_reducible refine Below.setCell ?_ ?_ _) | (with_reducible refine Below.alloc ?_ ?_ _) | (refine Below.trans ?_ (Below.mono (by assumption) ?_)) | omega | (simp only [World.size_alloc] at *; omega))
  have b0 : Blk w3 w.heap.size 70 [.pointer (some ⟨B, 0, none⟩)] := by rw [← hW3]; exact ((Blk.new' _ [_] _ rfl).alloc _).alloc _
  have b1 : Blk w3 (w.heap.size + 1) 90 [.int .i64 leak, .int .u64 set] := by rw [← hW3]; exact (Blk.new' _ [_, _] _ (by simp)).alloc _
  have b2 : Blk w3 (w.heap.size + 1 + 1) 85 (cells18 fun _ => (0, 0)) := by rw [← hW3]; exact (Blk.new' _ (cells18 fun _ => (0, 0)) _ (by simp))
  clear hW3
  have hF : ∀ s : Fl (Below w3.heap.size w3) (fun b W => Below w3.heap.size w3 W ∧ Blk W b 85 (cells18 fun _ => (0, 0)) ∧ w3.heap.size ≤ b), Below w3.heap.size w3 s.W := by
    rintro ⟨W, b, ok⟩; cases b; exact ok; exact ok.1
  have q0 : ∀ s : Fl (Below w3.heap.size w3) (fun b W => Below w3.heap.size w3 W ∧ Blk W b 85 (cells18 fun _ => (0, 0)) ∧ w3.heap.size ≤ b), s.W.cell? ⟨w.heap.size, 0, none⟩ = some (.pointer (some ⟨B, 0, none⟩)) := fun s => (b0.below (hF s) (by omega)).cell 0 rfl
  have q1 : ∀ s : Fl (Below w3.heap.size w3) (fun b W => Below w3.heap.size w3 W ∧ Blk W b 85 (cells18 fun _ => (0, 0)) ∧ w3.heap.size ≤ b), s.W.cell? ⟨w.heap.size + 1, 0, none⟩ = some (.int .i64 leak) := fun s => (b1.below (hF s) (by omega)).cell 0 rfl
  have q2 : ∀ s : Fl (Below w3.heap.size w3) (fun b W => Below w3.heap.size w3 W ∧ Blk W b 85 (cells18 fun _ => (0, 0)) ∧ w3.heap.size ≤ b), s.W.cell? ⟨w.heap.size + 1, 1, none⟩ = some (.int .u64 set) := fun s => (b1.below (hF s) (by omega)).cell 1 rfl
  have q3 : ∀ s : Fl (Below w3.heap.size w3) (fun b W => Below w3.heap.size w3 W ∧ Blk W b 85 (cells18 fun _ => (0, 0)) ∧ w3.heap.size ≤ b), s.W.cell? ⟨B, 8, none⟩ = some (.map (some M)) := fun s => ((hF s).cell (p := ⟨B, 8, none⟩) (by show B < _; omega)).trans ((hb3.cell (p := ⟨B, 8, none⟩) hBl).trans c8)
  have q4 : ∀ s : Fl (Below w3.heap.size w3) (fun b W => Below w3.heap.size w3 W ∧ Blk W b 85 (cells18 fun _ => (0, 0)) ∧ w3.heap.size ≤ b), (Instr.lookup 116 (.map (some M)) (.agg #[.int .i64 leak, .int .u64 set]) true).run Tryd.prog s.W = .ok (.tuple #[.agg (cells18 g).toArray, .bool hit]) s.W :=
    fun s => HL.out s.W (((hF s).block M (by omega)).trans (hb3.block M hlM))
  refine zjw (D := FlD (Below w3.heap.size w3) (fun b W => Below w3.heap.size w3 W ∧ Blk W b 85 (cells18 fun _ => (0, 0)) ∧ w3.heap.size ≤ b)) 8 9 10 (.bool hit) (by kernel_rfl) (by kernel_rfl)
    (Lays.alloc (o := .cells (cells18 fun _ => (0, 0)).toArray 85 (0, 0)) rfl rfl (by kernel_rfl) (fun a w => by kernel_rfl) (fun W hW => ⟨hW.alloc hW.size _, Blk.new' _ _ _ rfl, hW.size⟩)) rfl rfl ⟨⟨_, none, (Below.refl _ _).drew⟩, rfl, rfl⟩ (fun _ _ _ h => h) ?_
  simp only [List.take_succ_cons, List.take_zero, List.drop_succ_cons, List.drop_zero]
  repeat (apply zsd (by decide) (by decide); (intro s; first | (go_simp; rfl) | (go_simp; done)); rfl)
  refine zpg (by decide) (fun w => ?_) ?_
  · go_simp
  refine zsf ?_
  refine zse ?_
  rintro b w4 ⟨s, hb, hw4⟩
  have hok : Below w3.heap.size w3 w4 ∧ Blk w4 b 85 (cells18 fun _ => (0, 0)) ∧ w3.heap.size ≤ b := by
    have := s.ok; rw [hb] at this; rw [hw4]; exact this
  clear hw4 hb s q0 q1 q2 q3 q4 hF
  obtain ⟨hb4, b3, hbl⟩ := hok
  have d0 := b0.below hb4 (by omega)
  have d1 := b1.below hb4 (by omega)
  have d2 := b2.below hb4 (by omega)
  simp only [Act.put, List.setIfInBounds_toArray, List.set_cons_succ, List.set_cons_zero]
  refine zcv rfl 85 (.tmp 5) (.tmp 18) rfl b 85 _ (cells18 g) (by rfl) (by rfl) b3 rfl (zqg _) (by kernel_rfl) ?_
  have hlb := b3.lt
  have d3 : Blk (w4.putObj b (.cells (cells18 g).toArray 85 (0, 0))) b 85 (cells18 g) := Blk.putObj hlb
  have d0' := d0.put (l := b) (o := .cells (cells18 g).toArray 85 (0, 0)) (by omega)
  have d1' := d1.put (l := b) (o := .cells (cells18 g).toArray 85 (0, 0)) (by omega)
  have d2' := d2.put (l := b) (o := .cells (cells18 g).toArray 85 (0, 0)) (by omega)
  have hbw : Below w.heap.size w (w4.putObj b (.cells (cells18 g).toArray 85 (0, 0))) := (hb3.trans (hb4.mono (by omega))).trans (Below.putObj (by omega) _)
  clear d0 d1 d2 b3 b0 b1 b2 hb4 hb3
  generalize hW5 : w4.putObj b (.cells (cells18 g).toArray 85 (0, 0)) = w5 at *
  clear hW5 hlb
  have hz5 := d2'.lt
  cases hit with
  | true =>
    go_wp2_with first | (refine zej rfl 85 (.tmp 5) rfl b 85 (cells18 g) _ (by rfl) d3 Tryd.underlying85 rfl (by kernel_rfl) ?_) | (refine zcv rfl 85 (.tmp 4) (.tmp 21) rfl (w.heap.size + 1 + 1) 85 _ (cells18 g) (by rfl) (by rfl) d2' rfl (zqg _) (by kernel_rfl) ?_)
    have hbx := hbw.trans (Below.putObj (N := w.heap.size) (w := w5) (l := w.heap.size + 1 + 1) (by omega) (.cells (cells18 g).toArray 85 (0, 0)))
    exact bodyPost_ret (zcw rfl _ _ (w.heap.size + 1 + 1) 85 (cells18 g) _ (by rfl) (Blk.putObj hz5) Tryd.underlying85 rfl (by kernel_rfl)) rfl ⟨by rw [HG.out (by simp)], Bel.of_below hbx, HC.out.kept.below hbx hlM⟩
  | false =>
    have q0 := d0'.cell 0 rfl
    have HCw := hide (HC.out.below hbw)
    have hBl5 : B < w5.heap.size := by omega
    have c0 := HCw.out.blk.cell 0 rfl
    have c1 := HCw.out.blk.cell 1 rfl
    have q1 := d1'.cell 1 rfl
    have h0 := d0'.lt
    have h1 := d1'.lt
    go_wp2_with fail
    have hcl : ∃ s : Cls (Below (w5.heap.size) (w5)), (w5).drew = s.W := ⟨⟨_, (Below.refl _ _).drew⟩, rfl⟩
    have hne : Nonempty (Cls (Below (w5.heap.size) (w5))) := ⟨⟨_, Below.refl _ _⟩⟩
    have hS : ∀ (s : Cls (Below (w5.heap.size) (w5))) (b o : Nat), b < w5.heap.size → s.W.cell? ⟨b, o, none⟩ = (w5).cell? ⟨b, o, none⟩ := fun s b o h => s.ok.cell (p := ⟨b, o, none⟩) h
    have hSf : ∀ (s : Cls (Below (w5.heap.size) (w5))) (b o : Nat), b < w5.heap.size → s.W.frozen? ⟨b, o, none⟩ = (w5).frozen? ⟨b, o, none⟩ := fun s b o h => s.ok.frozen (p := ⟨b, o, none⟩) h
    refine zbg (S := Cls (Below w5.heap.size w5)) Cls.W 11 (by kernel_rfl) (by kernel_rfl) hcl ?_
    simp only [List.take_succ_cons, List.take_zero, List.drop_succ_cons, List.drop_zero]
    clear hcl
    repeat (quiet_step ((go_at_call 88; refine (zkp _ _ _ _ _ (HCw.out.below (Cls.ok _)) (by exact (Cut.valid_of hv).k5) hset).mono ?_; rintro e w2 ⟨rfl, hb⟩; exact ⟨rfl, Cls.step _ (Nat.le_refl _) hb⟩)))
    refine wpQuiet_nil ?_
    intro s'
    have hbs := hbw.trans (s'.ok.mono (show w.heap.size ≤ w5.heap.size by omega))
    have e0 := d0'.below s'.ok h0
    have e1 := d1'.below s'.ok h1
    have e2 := d2'.below s'.ok hz5
    clear hS hSf hne
    obtain ⟨w6, hw6⟩ : ∃ w6, s'.W = w6 := ⟨_, rfl⟩
    rw [hw6] at e0 e1 e2 hbs ⊢
    clear hw6 s' d0' d1' d2' d3 HCw c0 c1 q0 q1 hBl5 h0 h1 hz5 hbw
    have hz6 := e2.lt
    have k0 := e2.cell 0 rfl
    have k1 := e2.cell 1 rfl
    have l0 := e2.free 0
    have l1 := e2.free 1
    have q0 := e0.cell 0 rfl
    have hBl6 : B < w6.heap.size := by omega
    have r4 := (HC.out.below hbs).blk.cell 4 rfl
    have hn8 := (Cut.valid_of hv).n8
    have hn1 := (Cut.valid_of hv).n1
    go_wp2
    go_loopw [8, 40, 41, 42, 43, 44, 45, 46, 47, 48, 49, 50, 51, 52, 53, 54, 55, 56, 57, 58, 59, 60, 61, 62] (fun _ v40 _ _ _ _ _ _ _ _ _ _ _ _ _ _ _ _ _ _ _ _ _ _ wr => ∃ (k : Nat) (f : Nat → Int × Int), k ≤ x.rain.length ∧ v40 = .int .i64 k ∧ Below w.heap.size w wr ∧ Blk wr w.heap.size 70 [.pointer (some ⟨B, 0, none⟩)] ∧ Blk wr (w.heap.size + 1) 90 [.int .i64 leak, .int .u64 set] ∧ Blk wr (w.heap.size + 1 + 1) 85 (cells18 f) ∧
      (∀ i, i ≤ k → f i = Cut.forth x leak set i) ∧ (∀ i, k < i → f i = (0, 0))) (fun _ v40 _ _ _ _ _ _ _ _ _ _ _ _ _ _ _ _ _ _ _ _ _ _ _ => x.rain.length - (intOf v40).toNat)
    case atStart =>
      refine ⟨0, upd (fun _ => (0, 0)) 0 (Cut.forth x leak set 0), by omega, rfl, by (repeat' first | (with_reducible assumption) | (with_reducible exact Below.refl _ _) | (with_reducible refine Below.drew ?_) | (with_reducible refine Below.setCell ?_ ?_ _) | (with_reducible refine Below.alloc ?_ ?_ _) | (refine Below.trans ?_ (Below.mono (by assumption) ?_)) | omega | (simp only at *; omega)), by (repeat' first | (with_reducible assumption) | (with_reducible exact Blk.new _ _ _) | (with_reducible refine Blk.drew ?_) | (with_reducible refine Blk.set ?_ _ _) | (with_reducible refine Blk.other ?_ _ _ ?_) | (with_reducible refine Blk.alloc ?_ _) | omega | (simp only [World.size_alloc, World.size_setCell, World.size_drew]; omega)), by (repeat' first | (with_reducible assumption) | (with_reducible exact Blk.new _ _ _) | (with_reducible refine Blk.drew ?_) | (with_reducible refine Blk.set ?_ _ _) | (with_reducible refine Blk.other ?_ _ _ ?_) | (with_reducible refine Blk.alloc ?_ _) | omega | (simp only [World.size_alloc, World.size_setCell, World.size_drew]; omega)), (e2.set 0 _).set 1 _, fun i hi => ?_, fun i hi => ?_⟩
      · obtain rfl : i = 0 := by omega
        rfl
      · exact if_neg (by omega)
    case round =>
      obtain ⟨k, f, hk, rfl, hB, b0, b1, b2, hf1, hf2⟩ := hrel
      have HF1 := hide hf1
      have HF2 := hide hf2
      have HCr := hide (HC.out.below hB)
      have hBr : B < wr.heap.size := by have := hB.size; omega
      have c0 := b0.cell 0 rfl
      have g1 := b1.cell 1 rfl
      have g0 := b1.cell 0 rfl
      have z0 := b0.lt
      have z1 := b1.lt
      have z2 := b2.lt
      clear hf1 hf2 e0 e1 e2 k0 k1 l0 l1 q0 r4 hBl6 hz6 hbs
      by_cases hlt : k < x.rain.length
      · have y0 := b2.cell (k * 2) (zgq f k (by omega))
        have y1 := b2.cell (k * 2 + 1) (zgp f k (by omega))
        go_wp2_with fail
        have hcl : ∃ s : Cls (Below (wr.heap.size) (wr)), (wr).drew = s.W := ⟨⟨_, (Below.refl _ _).drew⟩, rfl⟩
        have hne : Nonempty (Cls (Below (wr.heap.size) (wr))) := ⟨⟨_, Below.refl _ _⟩⟩
        have hS : ∀ (s : Cls (Below (wr.heap.size) (wr))) (b o : Nat), b < wr.heap.size → s.W.cell? ⟨b, o, none⟩ = (wr).cell? ⟨b, o, none⟩ := fun s b o h => s.ok.cell (p := ⟨b, o, none⟩) h
        have hSf : ∀ (s : Cls (Below (wr.heap.size) (wr))) (b o : Nat), b < wr.heap.size → s.W.frozen? ⟨b, o, none⟩ = (wr).frozen? ⟨b, o, none⟩ := fun s b o h => s.ok.frozen (p := ⟨b, o, none⟩) h
        have HR := hide ((Cut.valid_of hv).rain k hlt)
        have HFk := hide ((Cut.forth_bd (Cut.valid_of hv) leak set k))
        have hfk : f k = Cut.forth x leak set k := HF1.out k (Nat.le_refl _)
        rw [hfk] at y0 y1
        clear hfk
        have i1 : (k : Int) < 9 := by omega
        have i2 : (k : Int) + 1 < 9 := by omega
        have i3 : (0 : Int) ≤ (k : Int) + 1 := by omega
        have i4 : ((k : Int) + 1).toNat = k + 1 := by omega
        have i5 : IntKind.i64.wrap ((k : Int) + 1) = (k : Int) + 1 := IntWalk.i64_in _ (by omega)
        have nil1 : ∀ (a b c : Int) (w : World), (nilAhead 263 126 (.agg #[.int .i64 a, .int .i64 b, .int .i64 c]) "bogworks/cut.after").run Tryd.prog w = .ok (some false) w := fun _ _ _ _ => by kernel_rfl
        have met1 : ∀ (a b c : Int) (w : World), (method 263 126 (.agg #[.int .i64 a, .int .i64 b, .int .i64 c]) "bogworks/cut.after").run Tryd.prog w = .ok (120, .agg #[.int .i64 a, .int .i64 b, .int .i64 c]) w := fun _ _ _ _ => by kernel_rfl
        refine zbg (S := Cls (Below wr.heap.size wr)) Cls.W 19 (by kernel_rfl) (by kernel_rfl) hcl ?_
        simp only [List.take_succ_cons, List.take_zero, List.drop_succ_cons, List.drop_zero]
        clear hcl
        repeat (quiet_step (first
          | (go_at_call 87; refine (zqq k leak set _ _ _ (HCr.out.below (Cls.ok _)) hv hlt hl ⟨HR.out.1, HR.out.2.2, HR.out.2.1⟩ (b0.below (Cls.ok _) z0) (b1.below (Cls.ok _) z1)).mono ?_; rintro e w2 ⟨rfl, hb⟩; exact ⟨rfl, Cls.step _ (Nat.le_refl _) hb⟩)
          | (go_at_call 120; refine (zxm _ _ _ _ _ _ (HCr.out.below (Cls.ok _)).dry ?_ ?_ ?_ ?_).mono ?_; (iterate 4 (have h1 := HR.out; have h2 := HFk.out; unfold Cut.Bd at h2; unfold Cut.stepBy; simp only; omega)); rintro e w2 ⟨rfl, hb⟩; exact ⟨rfl, Cls.step _ (Nat.le_refl _) hb⟩)
          | (go_at_call 88; refine (zkp _ _ _ _ _ (HCr.out.below (Cls.ok _)) (by exact (Cut.valid_of hv).k5) hset).mono ?_; rintro e w2 ⟨rfl, hb⟩; exact ⟨rfl, Cls.step _ (Nat.le_refl _) hb⟩)))
        refine wpQuiet_nil ?_
        intro s'
        clear i5
        have hbs := hB.trans (s'.ok.mono (show w.heap.size ≤ wr.heap.size by omega))
        have e0 := b0.below s'.ok z0
        have e1 := b1.below s'.ok z1
        have e2 := b2.below s'.ok z2
        clear hS hSf hne
        obtain ⟨w7, hw7⟩ : ∃ w7, s'.W = w7 := ⟨_, rfl⟩
        rw [hw7] at e0 e1 e2 hbs ⊢
        clear hw7 s' b0 b1 b2 HCr c0 g0 g1 y0 y1
        have k0 := e2.cell ((k + 1) * 2) (zgq f (k + 1) (by omega))
        have k1 := e2.cell ((k + 1) * 2 + 1) (zgp f (k + 1) (by omega))
        have l0 := e2.free ((k + 1) * 2)
        have l1 := e2.free ((k + 1) * 2 + 1)
        go_wp2
        have hset2 := (e2.set ((k + 1) * 2) (.int .i64 (Cut.forth x leak set (k + 1)).1)).set ((k + 1) * 2 + 1) (.int .i64 (Cut.forth x leak set (k + 1)).2)
        rw [zwu f (k + 1) _ (by omega)] at hset2
        refine ⟨⟨k + 1, upd f (k + 1) (Cut.forth x leak set (k + 1)), by omega, by go_num, by (repeat' first | (with_reducible assumption) | (with_reducible exact Below.refl _ _) | (with_reducible refine Below.drew ?_) | (with_reducible refine Below.setCell ?_ ?_ _) | (with_reducible refine Below.alloc ?_ ?_ _) | (refine Below.trans ?_ (Below.mono (by assumption) ?_)) | omega | (simp only at *; omega)), by (repeat' first | (with_reducible assumption) | (with_reducible exact Blk.new _ _ _) | (with_reducible refine Blk.drew ?_) | (with_reducible refine Blk.set ?_ _ _) | (with_reducible refine Blk.other ?_ _ _ ?_) | (with_reducible refine Blk.alloc ?_ _) | omega | (simp only [World.size_alloc, World.size_setCell, World.size_drew]; omega)), by (repeat' first | (with_reducible assumption) | (with_reducible exact Blk.new _ _ _) | (with_reducible refine Blk.drew ?_) | (with_reducible refine Blk.set ?_ _ _) | (with_reducible refine Blk.other ?_ _ _ ?_) | (with_reducible refine Blk.alloc ?_ _) | omega | (simp only [World.size_alloc, World.size_setCell, World.size_drew]; omega)), hset2, fun i hi => ?_, fun i hi => ?_⟩, by simp [intOf]; omega⟩
        · unfold upd
          by_cases hik : i = k + 1
          · rw [if_pos hik, hik]
          · rw [if_neg hik]; exact HF1.out i (by omega)
        · unfold upd
          rw [if_neg (by omega)]; exact HF2.out i (by omega)
      · obtain rfl : k = x.rain.length := by omega
        have c4r := HCr.out.blk.cell 4 rfl
        have HF1' : Hid (∀ i, i ≤ x.rain.length → f i = Cut.forth x leak set i) := HF1
        go_wp2
        go_loopw [10, 70, 71, 72, 73, 74, 75, 76, 77, 78, 79, 80, 81, 82, 83, 84, 85, 86, 87, 88, 89, 90, 91] (fun v10 _ _ _ _ _ _ _ _ _ _ _ _ _ _ _ _ _ _ _ _ _ _ wr => ∃ (j : Nat) (f : Nat → Int × Int) (D : Int), D + 1 + j = x.rain.length ∧ v10 = .int .i64 D ∧ j ≤ x.rain.length ∧ Below w.heap.size w wr ∧ Blk wr w.heap.size 70 [.pointer (some ⟨B, 0, none⟩)] ∧ Blk wr (w.heap.size + 1) 90 [.int .i64 leak, .int .u64 set] ∧ Blk wr (w.heap.size + 1 + 1) 85 (cells18 f) ∧
          (∀ i : Nat, D < i → f i = Cut.seasonAt x leak set i) ∧ (∀ i : Nat, (i : Int) ≤ D → f i = Cut.forth x leak set i)) (fun v10 _ _ _ _ _ _ _ _ _ _ _ _ _ _ _ _ _ _ _ _ _ _ _ => (intOf v10 + 1).toNat)
        case atStart =>
          refine ⟨0, f, (x.rain.length : Int) - 1, by omega, rfl, by omega, hB, b0, b1, b2, fun i hi => ?_, fun i hi => ?_⟩
          · by_cases hin : i = x.rain.length
            · rw [hin, znc]; exact HF1.out _ (Nat.le_refl _)
            · rw [znd _ _ _ _ (by omega)]; exact HF2.out i (by omega)
          · exact HF1.out i (by omega)
        case round =>
          clear HF1 HF2 HF1' HCr c0 g1 g0 z0 z1 z2 b0 b1 b2 c4r hB hBr
          clear f
          obtain ⟨j, f, D, hD, rfl, hj, hB, b0, b1, b2, hf1, hf2⟩ := hrel
          have HF1 := hide hf1
          have HF2 := hide hf2
          have HCr := hide (HC.out.below hB)
          have hBr : B < wr.heap.size := by have := hB.size; omega
          have c0 := b0.cell 0 rfl
          have g1 := b1.cell 1 rfl
          have g0 := b1.cell 0 rfl
          have z0 := b0.lt
          have z1 := b1.lt
          have z2 := b2.lt
          clear hf1 hf2
          by_cases hD0 : 0 ≤ D
          · obtain ⟨d, rfl⟩ := Int.eq_ofNat_of_zero_le hD0
            have hd : d < x.rain.length := by omega
            have y0 := b2.cell (d * 2) (zgq f d (by omega))
            have y1 := b2.cell (d * 2 + 1) (zgp f d (by omega))
            have y2 := b2.cell ((d + 1) * 2) (zgq f (d + 1) (by omega))
            have y3 := b2.cell ((d + 1) * 2 + 1) (zgp f (d + 1) (by omega))
            rw [HF2.out d (by omega)] at y0 y1
            rw [HF1.out (d + 1) (by omega)] at y2 y3
            have HR := hide ((Cut.valid_of hv).rain d hd)
            have HFk := hide ((Cut.seasonAt_bd (Cut.valid_of hv) leak set (d + 1)))
            have HSt := hide (zgb x leak set d hd)
            have HDD := hide hD
            clear hD hD0
            go_wp2_with fail
            have hcl : ∃ s : Cls (Below (wr.heap.size) (wr)), (wr).drew = s.W := ⟨⟨_, (Below.refl _ _).drew⟩, rfl⟩
            have hne : Nonempty (Cls (Below (wr.heap.size) (wr))) := ⟨⟨_, Below.refl _ _⟩⟩
            have hS : ∀ (s : Cls (Below (wr.heap.size) (wr))) (b o : Nat), b < wr.heap.size → s.W.cell? ⟨b, o, none⟩ = (wr).cell? ⟨b, o, none⟩ := fun s b o h => s.ok.cell (p := ⟨b, o, none⟩) h
            have hSf : ∀ (s : Cls (Below (wr.heap.size) (wr))) (b o : Nat), b < wr.heap.size → s.W.frozen? ⟨b, o, none⟩ = (wr).frozen? ⟨b, o, none⟩ := fun s b o h => s.ok.frozen (p := ⟨b, o, none⟩) h
            have i1 : (d : Int) < 9 := by omega
            have i2 : (d : Int) + 1 < 9 := by omega
            have i3 : (0 : Int) ≤ (d : Int) + 1 := by omega
            have i4 : ((d : Int) + 1).toNat = d + 1 := by omega
            have i5 : IntKind.i64.wrap ((d : Int) + 1) = (d : Int) + 1 := IntWalk.i64_in _ (by omega)
            have nil1 : ∀ (a b c : Int) (w : World), (nilAhead 263 126 (.agg #[.int .i64 a, .int .i64 b, .int .i64 c]) "bogworks/cut.before").run Tryd.prog w = .ok (some false) w := fun _ _ _ _ => by kernel_rfl
            have met1 : ∀ (a b c : Int) (w : World), (method 263 126 (.agg #[.int .i64 a, .int .i64 b, .int .i64 c]) "bogworks/cut.before").run Tryd.prog w = .ok (121, .agg #[.int .i64 a, .int .i64 b, .int .i64 c]) w := fun _ _ _ _ => by kernel_rfl
            refine zbg (S := Cls (Below wr.heap.size wr)) Cls.W 18 (by kernel_rfl) (by kernel_rfl) hcl ?_
            simp only [List.take_succ_cons, List.take_zero, List.drop_succ_cons, List.drop_zero]
            clear hcl
            repeat (quiet_step (first
              | (go_at_call 87; refine (zqq d leak set _ _ _ (HCr.out.below (Cls.ok _)) hv hd hl ⟨HR.out.1, HR.out.2.2, HR.out.2.1⟩ (b0.below (Cls.ok _) z0) (b1.below (Cls.ok _) z1)).mono ?_; rintro e w2 ⟨rfl, hb⟩; exact ⟨rfl, Cls.step _ (Nat.le_refl _) hb⟩)
              | (go_at_call 121; refine (zth _ _ _ _ _ _ (HCr.out.below (Cls.ok _)).dry ?_ ?_ ?_ ?_).mono ?_; (iterate 4 (have h1 := HR.out; have h2 := HFk.out; unfold Cut.Bd at h2; (try unfold Cut.stepBy); (try simp only); omega)); rintro e w2 ⟨rfl, hb⟩; exact ⟨rfl, Cls.step _ (Nat.le_refl _) hb⟩)
              | (go_at_call 89; refine (zho _ _ _ _ _ (HCr.out.below (Cls.ok _)).dry).mono ?_; rintro e w2 ⟨rfl, hb⟩; exact ⟨rfl, Cls.step _ (Nat.le_refl _) hb⟩)))
            refine wpQuiet_nil ?_
            intro s'
            clear i5
            have hbs := hB.trans (s'.ok.mono (show w.heap.size ≤ wr.heap.size by omega))
            have e0 := b0.below s'.ok z0
            have e1 := b1.below s'.ok z1
            have e2 := b2.below s'.ok z2
            clear hS hSf hne
            obtain ⟨w7, hw7⟩ : ∃ w7, s'.W = w7 := ⟨_, rfl⟩
            rw [hw7] at e0 e1 e2 hbs ⊢
            clear hw7 s' b0 b1 b2 HCr c0 g0 g1 y0 y1 y2 y3
            have k0 := e2.cell (d * 2) (zgq f d (by omega))
            have k1 := e2.cell (d * 2 + 1) (zgp f d (by omega))
            have l0 := e2.free (d * 2)
            have l1 := e2.free (d * 2 + 1)
            go_wp2
            have hset2 := (e2.set (d * 2) (.int .i64 (Cut.seasonAt x leak set d).1)).set (d * 2 + 1) (.int .i64 (Cut.seasonAt x leak set d).2)
            rw [zwu f d _ (by omega)] at hset2
            rw [HSt.out] at hset2
            have hD := HDD.out
            refine ⟨⟨j + 1, upd f d (Cut.seasonAt x leak set d), (d : Int) - 1, by omega, rfl, by omega, by (repeat' first | (with_reducible assumption) | (with_reducible exact Below.refl _ _) | (with_reducible refine Below.drew ?_) | (with_reducible refine Below.setCell ?_ ?_ _) | (with_reducible refine Below.alloc ?_ ?_ _) | (refine Below.trans ?_ (Below.mono (by assumption) ?_)) | omega | (simp only at *; omega)), by (repeat' first | (with_reducible assumption) | (with_reducible exact Blk.new _ _ _) | (with_reducible refine Blk.drew ?_) | (with_reducible refine Blk.set ?_ _ _) | (with_reducible refine Blk.other ?_ _ _ ?_) | (with_reducible refine Blk.alloc ?_ _) | omega | (simp only [World.size_alloc, World.size_setCell, World.size_drew]; omega)), by (repeat' first | (with_reducible assumption) | (with_reducible exact Blk.new _ _ _) | (with_reducible refine Blk.drew ?_) | (with_reducible refine Blk.set ?_ _ _) | (with_reducible refine Blk.other ?_ _ _ ?_) | (with_reducible refine Blk.alloc ?_ _) | omega | (simp only [World.size_alloc, World.size_setCell, World.size_drew]; omega)), by rw [HSt.out]; exact hset2, fun i hi => ?_, fun i hi => ?_⟩, by simp [intOf]⟩
            · unfold upd
              by_cases hik : i = d
              · rw [if_pos hik, hik]
              · rw [if_neg hik]; exact HF1.out i (by omega)
            · unfold upd
              rw [if_neg (by omega)]; exact HF2.out i (by omega)
          · have hfin : cells18 f = cells18 (Cut.seasonAt x leak set) := zwv fun i _ => HF1.out i (by omega)
            rw [hfin] at b2
            have c8 := HCr.out.blk.cell 8 rfl
            clear hfin
            go_wp2_with fail
            have hcl : ∃ s : Cls (Below (wr.heap.size) (wr)), (wr).drew = s.W := ⟨⟨_, (Below.refl _ _).drew⟩, rfl⟩
            have hne : Nonempty (Cls (Below (wr.heap.size) (wr))) := ⟨⟨_, Below.refl _ _⟩⟩
            have hS : ∀ (s : Cls (Below (wr.heap.size) (wr))) (b o : Nat), b < wr.heap.size → s.W.cell? ⟨b, o, none⟩ = (wr).cell? ⟨b, o, none⟩ := fun s b o h => s.ok.cell (p := ⟨b, o, none⟩) h
            have hSf : ∀ (s : Cls (Below (wr.heap.size) (wr))) (b o : Nat), b < wr.heap.size → s.W.frozen? ⟨b, o, none⟩ = (wr).frozen? ⟨b, o, none⟩ := fun s b o h => s.ok.frozen (p := ⟨b, o, none⟩) h
            refine zbg (S := Cls (Below wr.heap.size wr)) Cls.W 6 (by kernel_rfl) (by kernel_rfl) hcl ?_
            simp only [List.take_succ_cons, List.take_zero, List.drop_succ_cons, List.drop_zero]
            clear hcl
            iterate 5 (quiet_step (fail))
            refine zsh (fun s => zmh 85 (.tmp 4) rfl (w.heap.size + 1 + 1) 85 (cells18 (Cut.seasonAt x leak set)) _ (by rfl) (b2.below s.ok z2) Tryd.underlying85 rfl (by kernel_rfl)) rfl ?_
            refine wpQuiet_nil ?_
            intro s'
            have hbs := hB.trans (s'.ok.mono (show w.heap.size ≤ wr.heap.size by omega))
            have e2 := b2.below s'.ok z2
            clear hS hSf hne
            obtain ⟨w7, hw7⟩ : ∃ w7, s'.W = w7 := ⟨_, rfl⟩
            rw [hw7] at e2 hbs ⊢
            clear hw7 s' b0 b1 b2 HCr c0 g0 g1 c8
            obtain ⟨o, hrun, hkept⟩ := zou (HC.out.kept.below hbs hlM) leak set
            refine zfh rfl 116 (.tmp 95) (.tmp 96) (.tmp 97) rfl (by exact hrun) ?_
            have e3 := e2.put (l := M) (o := o) (by omega)
            have hlt3 := e3.lt
            have hbl : Bel M w.heap.size w (w7.putObj M o) := (Bel.of_below hbs).putObj (.inr rfl) o
            clear hrun e2
            generalize w7.putObj M o = w8 at *
            go_wp2_with first | (refine zej rfl 85 (.tmp 4) rfl (w.heap.size + 1 + 1) 85 (cells18 (Cut.seasonAt x leak set)) _ (by rfl) e3 Tryd.underlying85 rfl (by kernel_rfl) ?_) | (refine zcv rfl 85 (.tmp 4) (.tmp 98) rfl (w.heap.size + 1 + 1) 85 _ (cells18 (Cut.seasonAt x leak set)) (by rfl) (by rfl) e3 rfl (zqg _) (by kernel_rfl) ?_)
            exact bodyPost_ret (zcw rfl _ _ (w.heap.size + 1 + 1) 85 (cells18 (Cut.seasonAt x leak set)) _ (by rfl) (Blk.putObj hlt3) Tryd.underlying85 rfl (by kernel_rfl)) rfl ⟨rfl, hbl.putObj (.inl (by omega)) _, hkept.below (Below.putObj (N := w.heap.size) (by omega) _) hlM⟩
end
end Go.Proofs.YtlkhjnpflohfeaaDoor

/- Contracts of the small methods of package cut. -/
namespace Go.Proofs.YtlkhjnpflohfeaaDoor
open Go Go.Proofs Go.RowKit
attribute [local go_sem ↓] zbu zbt
section
variable {B M : Nat} {x : CutD} {ra ba la : Option Addr} {rc bc lc : Nat}

set_option maxHeartbeats 400000 in
theorem zcu (n : Int) (w : World) (h : CutAt w B M x ra ba la rc bc lc) :
    Calls Tryd.prog 45 #[.pointer (some ⟨B, 0, none⟩), .int .i64 n] w fun e w' => e = .returned (.bool (Cut.isDay x n)) ∧ w = w' := by
  have c4 := h.blk.cell 4 rfl
  clear h
  go_enter Tryd.func45, Tryd.ntmps45
  go_wp2_with (go_at_call 82; refine (zbj _ _ _ _).mono ?_; rintro e w' ⟨rfl, rfl⟩)
  go_ret
  exact ⟨rfl, rfl⟩

set_option maxHeartbeats 400000 in
theorem zhj (n : Int) (w : World) (h : CutAt w B M x ra ba la rc bc lc) (hv : x.boats.length ≤ 4) :
    Calls Tryd.prog 63 #[.pointer (some ⟨B, 0, none⟩), .int .i64 n] w fun e w' => e = .returned (.bool (Cut.isBoat x n)) ∧ w = w' := by
  have c6 := h.blk.cell 6 rfl
  clear h
  go_enter Tryd.func63, Tryd.ntmps63
  go_wp2_with (go_at_call 82; refine (zbj _ _ _ _).mono ?_; rintro e w' ⟨rfl, rfl⟩)
  go_ret
  exact ⟨rfl, rfl⟩

set_option maxHeartbeats 400000 in
theorem zfn (b n : Int) (w : World) (h : CutAt w B M x ra ba la rc bc lc) (hv : x.boats.length ≤ 4) :
    Calls Tryd.prog 58 #[.pointer (some ⟨B, 0, none⟩), .int .i64 b, .int .i64 n] w fun e w' => e = .returned (.bool (Cut.isLoads x b n)) ∧ w = w' := by
  have c6 := h.blk.cell 6 rfl
  have H := hide h
  by_cases hb : Cut.isBoat x b = true
  · have hb0 : 0 ≤ b ∧ b < x.boats.length := by simp [Cut.isBoat, Cut.within] at hb; omega
    obtain ⟨k, rfl⟩ := Int.eq_ofNat_of_zero_le hb0.1
    have hk : k < x.boats.length := by omega
    rcases h.boats with h0 | ⟨bb, off, rfl, hlt, hM, hc⟩
    · omega
    have c := hc k 3 hk (by omega)
    simp [boatCell] at c
    have hlen : 0 < x.boats.length := by omega
    clear h hc hb0
    go_enter Tryd.func58, Tryd.ntmps58
    go_wp2_with first | (go_at_call 82; refine (zbj _ _ _ _).mono ?_; rintro e w' ⟨rfl, rfl⟩) | (go_at_call 63; refine (zhj _ _ H.out hv).mono ?_; rintro e w' ⟨rfl, rfl⟩; rw [hb])
    go_ret
    exact ⟨zca (by simp [Cut.isLoads, hb, Cut.boat]), rfl⟩
  · replace hb : Cut.isBoat x b = false := by simpa using hb
    clear h
    go_enter Tryd.func58, Tryd.ntmps58
    go_wp2_with first | (go_at_call 63; refine (zhj _ _ H.out hv).mono ?_; rintro e w' ⟨rfl, rfl⟩; rw [hb])
    go_ret
    exact ⟨zca (by simp [Cut.isLoads, hb]), rfl⟩

set_option maxHeartbeats 400000 in
theorem zdv (w : World) (h : CutAt w B M x ra ba la rc bc lc) (hv : x.looks.length ≤ 5) :
    Calls Tryd.prog 54 #[.pointer (some ⟨B, 0, none⟩)] w fun e w' => e = .returned (.int .u64 (Cut.every x : Nat)) ∧ w = w' := by
  have c7 := h.blk.cell 7 rfl
  clear h
  have HE : Hid (Cut.every x = 2 ^ x.looks.length - 1) := rfl
  generalize x.looks.length = n at *
  have hn : n = 0 ∨ n = 1 ∨ n = 2 ∨ n = 3 ∨ n = 4 ∨ n = 5 := by omega
  rcases hn with rfl | rfl | rfl | rfl | rfl | rfl
  all_goals go_enter Tryd.func54, Tryd.ntmps54
  all_goals go_wp2
  all_goals go_ret
  all_goals exact ⟨by rw [HE.out]; simp, rfl⟩

end
end Go.Proofs.YtlkhjnpflohfeaaDoor

/- A scope walked straight, in a fence. -/
namespace Go.Proofs.YtlkhjnpflohfeaaDoor
open Go
section
variable {P : Program} {F : Fence} {n : Nat} {b : Frame} {a : Act} {k : List Item} {cs : List Frame} {w : World} {Q : Exit → Act → World → Prop}
theorem stepR_scope {c : Code} : step P (lone (b.atR a (.code (.scope c) :: k)) cs w) = .next (lone (b.atR a (.code c :: .inScope c :: k)) cs w) :=
  step_lone_go (by simp [stepG, stepG.exec, Frame.atR])
theorem stepR_inScope {c : Code} : step P (lone (b.atR a (.inScope c :: k)) cs w) = .next (lone (b.atR a k) cs w) :=
  step_lone_go (by simp [stepG, stepG.exec, Frame.atR])
theorem wpIn_scope_straight {c : Code} (h : c.wpIn F n P (Exit.noGoto Q) a w) : (Code.scope c).wpIn F n P Q a w := by
  intro b k cs hro hb hr
  have h0 : (lone (b.atR a (.code (.scope c) :: k)) cs w).fenced P F := fenced_calm hb hr rfl
  obtain ⟨e, a₁, w₁, hq, harr⟩ := h b (.inScope c :: k) cs hro hb hr
  cases e with
  | normal => exact ⟨.normal, a₁, w₁, hq, .head h0 stepR_scope (StepsIn.trans harr (.one (fenced_calm (fr := b.atR a₁ (.inScope c :: k)) hb hr rfl) stepR_inScope))⟩
  | exit id =>
    refine ⟨.exit id, a₁, w₁, hq, fun k' hk => .head h0 stepR_scope (harr.1 k' (by simp [exitTo, hk])), fun hr' hk => ?_⟩
    obtain ⟨k1, h1, h2⟩ := harr.2 hr' (by simp [exitTo, hk])
    exact ⟨k1, h1, .head h0 stepR_scope h2⟩
  | goto l => exact hq.elim
  | ret => exact ⟨_, a₁, w₁, hq, .of_steps (.one h0 stepR_scope) harr⟩
  | panic ch => exact ⟨_, a₁, w₁, hq, .of_steps (.one h0 stepR_scope) harr⟩
  | outgrown => exact ⟨_, a₁, w₁, hq, .of_steps (.one h0 stepR_scope) harr⟩
end
end Go.Proofs.YtlkhjnpflohfeaaDoor

/- All that can leak away: the iterator. -/
namespace Go.Proofs.YtlkhjnpflohfeaaDoor
open Go Go.Proofs Go.RowKit
attribute [local go_sem] Oper.semAt_some

def lk (lo : Int) (j : Nat) : Fin 11 := ⟨(lo.toNat + j) % 11, Nat.mod_lt _ (by omega)⟩
abbrev lv (i : Fin 11) : Int := (i.val : Int)
def leaksF (x : CutD) : List (Fin 11) := (List.range (x.leak.2 - x.leak.1 + 1).toNat).map (lk x.leak.1)
theorem lk_val {x : CutD} (h : Cut.Valid x) (j : Nat) (hj : x.leak.1 + j ≤ x.leak.2) : lv (lk x.leak.1 j) = x.leak.1 + j := by
  have := h.l0; have := h.l2
  unfold lv lk
  simp only
  rw [Nat.mod_eq_of_lt (by omega)]; omega
theorem zhi {x : CutD} (h : Cut.Valid x) : (leaksF x).map lv = Cut.leaks x := by
  unfold leaksF Cut.leaks
  rw [List.map_map]
  apply List.map_congr_left
  intro j hj
  rw [List.mem_range] at hj
  exact lk_val h j (by omega)
def upF (x : CutD) (k : Nat) : List (Fin 11) := (List.range k).map (lk x.leak.1)
theorem zqo (x : CutD) (k : Nat) : upF x (k + 1) = upF x k ++ [lk x.leak.1 k] := by
  unfold upF; rw [List.range_succ, List.map_append]; rfl

section
variable {B M : Nat} {x : CutD} {ra ba la : Option Addr} {rc bc lc : Nat}

theorem zjb (w : World) :
    Calls Tryd.prog 52 #[.pointer (some ⟨B, 0, none⟩)] w fun e w' => e = .returned (.func (.func 86) #[] #[.pointer (some ⟨w.heap.size, 0, none⟩)]) ∧ w' = w.alloc (.cells #[.pointer (some ⟨B, 0, none⟩)] 70) := by
  go_enter Tryd.func52, Tryd.ntmps52
  go_wp2
  go_ret
  exact ⟨rfl, rfl⟩

theorem zks (R : World → World → Prop) (hRr : ∀ W, R W W) (hRt : ∀ {W1 W2 W3}, R W1 W2 → R W2 W3 → R W1 W3) (hv : Cut.valid x = true) (n H : Nat) (hRk : ∀ {W W'}, R W W' → W'.heap[B]? = W.heap[B]? ∧ W'.heap[H]? = W.heap[H]?) (l : Nat) (J Jx : List (Fin 11) → World → Prop)
    (hY : ∀ pre y W, J pre W → pre.length < 11 → YieldAt Fence.wide (n - 1) Tryd.prog l #[.int .i64 (lv y)] W fun e W' =>
      (e = .returned (.bool true) ∧ J (pre ++ [y]) W' ∧ R W W') ∨ (e = .returned (.bool false) ∧ Jx (pre ++ [y]) W'))
    (W : World) (b0 : Blk W H 70 [.pointer (some ⟨B, 0, none⟩)]) (c2 : W.cell? ⟨B, 2, none⟩ = some (.int .i64 x.leak.1)) (c3 : W.cell? ⟨B, 3, none⟩ = some (.int .i64 x.leak.2)) (h0 : J [] W) :
    CallsIn Fence.wide n Tryd.prog 86 #[.func (.yield l) #[] #[], .pointer (some ⟨H, 0, none⟩)] W fun e W' => (∃ v, e = .returned v) ∧
      ((∃ ys, ys = leaksF x ∧ J ys W') ∨ (∃ pre, pre <+: leaksF x ∧ Jx pre W')) := by
  have hV := Cut.valid_of hv
  have hl0 := hV.l0
  have hl1 := hV.l1
  have hl2 := hV.l2
  have d0 := b0.cell 0 rfl
  refine callsIn_of_wp Tryd.func86 rfl trivial ?_ rfl
  simp only [Tryd.ntmps86, List.size_toArray, List.length_cons, List.length_nil, Nat.reduceAdd, Nat.reduceSub, Array.replicate_succ, Array.replicate_zero, List.push_toArray, List.append_toArray, List.nil_append, List.cons_append]
  apply wpIn_scope_straight
  refine wpIn_seq (wpIn_label ?_)
  show Code.wpIn _ _ _ _ _ _ _
  gi_wp2
  gi_loopw [3, 10, 11, 12, 13, 14, 15, 16, 17, 18, 19, 20, 21, 22, 23] (fun v3 _ _ _ _ _ _ _ _ _ _ _ _ _ _ wr => ∃ k : Nat, x.leak.1 + k ≤ x.leak.2 + 1 ∧ v3 = .int .i64 (x.leak.1 + k) ∧ J (upF x k) wr ∧ R W wr) (fun v3 _ _ _ _ _ _ _ _ _ _ _ _ _ _ _ => (x.leak.2 + 1 - intOf v3).toNat)
  case atStart => exact ⟨0, by omega, by simp, h0, hRr _⟩
  case round =>
    obtain ⟨k, hk, rfl, hJ, hB'⟩ := hrel
    have HJ := hide hJ
    have r0 := (World.cell?_of_block (w := W) (a := ⟨H, 0, none⟩) (hRk hB').2).trans d0
    have r3 := (World.cell?_of_block (w := W) (a := ⟨B, 3, none⟩) (hRk hB').1).trans c3
    clear hJ b0 c2 c3 d0 h0
    by_cases hlt : x.leak.1 + k ≤ x.leak.2
    · have hlen : (upF x k).length < 11 := by simp [upF]; omega
      obtain ⟨fn, tmps, assign, body, hy, hR⟩ := hY (upF x k) (lk x.leak.1 k) wr HJ.out hlen
      rw [lk_val hV k hlt] at hy
      gi_wp2
      refine ⟨(fun h => by cases h), ?_⟩
      refine hR.mono ?_
      rintro e W3 (⟨rfl, hJ3, hk3⟩ | ⟨rfl, hJx3⟩)
      · have hB3 := hRt hB' hk3
        gi_wp2
        refine ⟨⟨k + 1, by omega, by rw [show x.leak.1 + ((k + 1 : Nat) : Int) = x.leak.1 + (k : Int) + 1 by omega], by rw [zqo]; exact hJ3, hB3⟩, by simp [intOf]; omega⟩
      · gi_wp2
        simp only [Exit.noGoto]
        refine bodyPost_end (results_none rfl _ _ _) rfl ?_
        refine ⟨⟨_, rfl⟩, .inr ⟨upF x k ++ [lk x.leak.1 k], ?_, hJx3⟩⟩
        rw [← zqo]
        unfold upF leaksF
        obtain ⟨m, hm⟩ : ∃ m, (x.leak.2 - x.leak.1 + 1).toNat = (k + 1) + m := ⟨(x.leak.2 - x.leak.1 + 1).toNat - (k + 1), by omega⟩
        rw [hm, @List.range_add (k + 1) m, List.map_append]
        exact List.prefix_append _ _
    · gi_wp2
      go_end0
      refine ⟨⟨_, rfl⟩, .inl ?_⟩
      have hk' : k = (x.leak.2 - x.leak.1 + 1).toNat := by omega
      have := HJ.out
      rw [hk'] at this
      exact this

theorem zpo (hv : Cut.valid x = true) (n : Nat) (H n₀ : Nat) (w : World) (b0 : Blk w H 70 [.pointer (some ⟨B, 0, none⟩)]) (c2 : w.cell? ⟨B, 2, none⟩ = some (.int .i64 x.leak.1)) (c3 : w.cell? ⟨B, 3, none⟩ = some (.int .i64 x.leak.2)) (hn : n₀ ≤ w.heap.size) (hH : H < n₀) (hB : B < n₀) (hHM : H ≠ M) (hBM : B ≠ M) :
    SeqStopsK Fence.wide n Tryd.prog 86 #[.pointer (some ⟨H, 0, none⟩)] (fun y : Fin 11 => #[.int .i64 (lv y)]) (Bel M n₀) (fun xs => xs = leaksF x) (fun pre => pre <+: leaksF x) 11 w := by
  intro l J Jx W hW hJ hJx hY h0
  exact zks (Bel M n₀) (Bel.refl _ _) (fun h k => h.trans k) hv n H (fun h => ⟨h.block B hB hBM, h.block H hH hHM⟩) l J Jx (fun pre y W1 h1 h2 => (hY pre y W1 h1 h2)) W (b0.below hW b0.lt) ((hW.cell (p := ⟨B, 2, none⟩) (Nat.lt_of_lt_of_le hB hn)).trans c2) ((hW.cell (p := ⟨B, 3, none⟩) (Nat.lt_of_lt_of_le hB hn)).trans c3) h0
def Keep2 (B H : Nat) (W W' : World) : Prop := W'.heap[B]? = W.heap[B]? ∧ W'.heap[H]? = W.heap[H]?
theorem Keep2.trans {B H : Nat} {W1 W2 W3 : World} (h : Keep2 B H W1 W2) (k : Keep2 B H W2 W3) : Keep2 B H W1 W3 := ⟨k.1.trans h.1, k.2.trans h.2⟩
theorem zhy (hv : Cut.valid x = true) (n : Nat) (H : Nat) (w : World) (b0 : Blk w H 70 [.pointer (some ⟨B, 0, none⟩)]) (hB : B < w.heap.size) (c2 : w.cell? ⟨B, 2, none⟩ = some (.int .i64 x.leak.1)) (c3 : w.cell? ⟨B, 3, none⟩ = some (.int .i64 x.leak.2)) :
    SeqStopsK Fence.wide n Tryd.prog 86 #[.pointer (some ⟨H, 0, none⟩)] (fun y : Fin 11 => #[.int .i64 (lv y)]) (Keep2 B H) (fun xs => xs = leaksF x) (fun pre => pre <+: leaksF x) 11 w := by
  intro l J Jx W hW hJ hJx hY h0
  exact zks (Keep2 B H) (fun _ => ⟨rfl, rfl⟩) (fun h k => h.trans k) hv n H (fun h => h) l J Jx (fun pre y W1 h1 h2 => (hY pre y W1 h1 h2)) W (b0.below hW b0.lt) ((hW.cell (p := ⟨B, 2, none⟩) hB).trans c2) ((hW.cell (p := ⟨B, 3, none⟩) hB).trans c3) h0
end
end Go.Proofs.YtlkhjnpflohfeaaDoor

/- Contract of can. -/
namespace Go.Proofs.YtlkhjnpflohfeaaDoor
open Go Go.Proofs Go.RowKit
attribute [local go_sem] Oper.semAt_some

theorem Bel.grown {M N B0 : Nat} {w W W' : World} {row : Option Nat} (h : Bel M N w W) (hg : W.grownBy W' row) (hN : N ≤ B0) (hw : N ≤ w.heap.size) (hr : ∀ r, row = some r → B0 ≤ r) : Bel M N w W' :=
  h.trans ⟨hg.os, hg.tape, hg.output, hg.size, fun k hk _ => hg.block k (by have := h.size; omega) (fun e => by have := hr k e.symm; omega)⟩
theorem Blk.grown {B0 b : Nat} {W W' : World} {T : TypeId} {cs : List Value} {row : Option Nat} (h : Blk W b T cs) (hg : W.grownBy W' row) (hb : b < B0) (hr : ∀ r, row = some r → B0 ≤ r) : Blk W' b T cs :=
  (hg.block b h.lt (fun e => by have := hr b e.symm; omega)).trans h
theorem Kept.grown {B0 M : Nat} {W W' : World} {x : CutD} {row : Option Nat} (h : Kept W M x) (hg : W.grownBy W' row) (hb : M < B0) (hr : ∀ r, row = some r → B0 ≤ r) : Kept W' M x := by
  have hlt := h.lt
  obtain ⟨es, c, h1, h2⟩ := h
  exact ⟨es, c, (hg.block M hlt (fun e => by have := hr M e.symm; omega)).trans h1, h2⟩
theorem Bel.keeps {M B0 : Nat} {W W' : World} (h : Bel M W.heap.size W W') (hM : M < B0) : KeepsFrom B0 W W' :=
  ⟨h.size, fun k o hk hko _ => (h.block k (Array.getElem?_eq_some_iff.1 hko).1 (by omega)).trans hko⟩
theorem Below.keeps {B0 : Nat} {W W' : World} (h : Below W.heap.size W W') : KeepsFrom B0 W W' :=
  ⟨h.size, fun k _o _ hko _ => (h.block k (Array.getElem?_eq_some_iff.1 hko).1).trans hko⟩
theorem KeepsFrom.set {B0 : Nat} {W : World} (a : Addr) (v : Value) : KeepsFrom B0 W (W.setCell a v) := (KeepsOthers.setCell W a v).from _

section
variable {B M : Nat} {x : CutD} {ra ba la : Option Addr} {rc bc lc : Nat}

theorem zje (f : Nat → Int × Int) (d : Nat) (h : d < 9) (W : World) : (Instr.index 85 (.agg (cells18 f).toArray) (.int .i64 d)).run Tryd.prog W = .ok (.agg #[.int .i64 (f d).1, .int .i64 (f d).2]) W := by
  rcases nine d h with rfl | rfl | rfl | rfl | rfl | rfl | rfl | rfl | rfl <;> kernel_rfl

theorem lv_le (y : Fin 11) : 0 ≤ lv y ∧ lv y ≤ 10 := by have := y.isLt; unfold lv; omega

theorem zxk (hv : Cut.valid x = true) (set : Nat) : Cut.can x set = (leaksF x).any fun y => Cut.some (Cut.seasonAt x (lv y) set 0) := by
  unfold Cut.can
  rw [← zhi (Cut.valid_of hv), List.any_map]; rfl

set_option maxHeartbeats 1000000 in
set_option maxRecDepth 100000 in
theorem zml (set : Nat) (w : World) (h : CutAt w B M x ra ba la rc bc lc) (hv : Cut.valid x = true) (hset : set < 18446744073709551616) :
    Calls Tryd.prog 72 #[.pointer (some ⟨B, 0, none⟩), .int .u64 set] w fun e w' =>
      e = .returned (.bool (Cut.can x set)) ∧ Bel M w.heap.size w w' ∧ Kept w' M x := by
  have hany := hide (zxk hv set)
  have hBl := h.blk.lt
  have hMl := h.kept.lt
  have HC := hide h
  clear h
  refine (callsIn_wide (n := 4)).1 ?_
  refine callsIn_of_wp_marks Tryd.func72 rfl trivial ?_ rfl
  simp only [Tryd.ntmps72, List.size_toArray, List.length_cons, List.length_nil, Nat.reduceAdd, Nat.reduceSub, Array.replicate_succ, Array.replicate_zero, List.push_toArray, List.append_toArray, List.nil_append, List.cons_append]
  gi_wp2_with (refine ⟨trivial, ?_⟩; gi_at_call 52; refine (callsIn_wide.2 (zjb _)).mono ?_; rintro e w' ⟨rfl, rfl⟩)
  obtain ⟨w4, hw4⟩ : ∃ w4, (((w.alloc (Obj.cells #[Value.pointer (some ⟨B, 0, none⟩)] 70)).alloc (Obj.cells #[Value.int IntKind.u64 ↑set] 87)).alloc (Obj.cells #[Value.bool false] 4)).alloc (Obj.cells #[Value.pointer (some ⟨B, 0, none⟩)] 70) = w4 := ⟨_, rfl⟩
  rw [hw4]
  have hz4 : w4.heap.size = w.heap.size + 1 + 1 + 1 + 1 := by rw [← hw4]; simp
  have hb4 : Below w.heap.size w w4 := by rw [← hw4]; (repeat' first | (with_reducible assumption) | (with_reducible exact Below.refl _ _) | (with_reducible refine Below.drew ?_) | (with_reducible refine Below.setCell ?_ ?_ _) | (with_reducible refine Below.alloc ?_ ?_ _) | (refine Below.trans ?_ (Below.mono (by assumption) ?_)) | omega | (simp only [World.size_alloc] at *; omega))
  have b0 : Blk w4 w.heap.size 70 [.pointer (some ⟨B, 0, none⟩)] := by rw [← hw4]; exact (((Blk.new' _ [_] _ rfl).alloc _).alloc _).alloc _
  have b1 : Blk w4 (w.heap.size + 1) 87 [.int .u64 set] := by rw [← hw4]; exact ((Blk.new' _ [_] _ (by simp)).alloc _).alloc _
  have b2 : Blk w4 (w.heap.size + 1 + 1) 4 [.bool false] := by rw [← hw4]; exact (Blk.new' _ [_] _ (by simp)).alloc _
  have b3 : Blk w4 (w.heap.size + 1 + 1 + 1) 70 [.pointer (some ⟨B, 0, none⟩)] := by rw [← hw4]; exact Blk.new' _ [_] _ (by simp)
  have HC4 := hide (HC.out.below hb4)
  clear hw4
  refine wpIn_rangeFunc_ownG rfl (by omega) (gf := 86) (lb := #[.pointer (some ⟨w.heap.size + 1 + 1 + 1, 0, none⟩)]) rfl trivial (enters_of Tryd.func86 (by kernel_rfl) rfl)
    (zpo hv 3 (w.heap.size + 1 + 1 + 1) w4.heap.size w4 b3 (HC4.out.blk.cell 2 rfl) (HC4.out.blk.cell 3 rfl) (Nat.le_refl _) b3.lt HC4.out.blk.lt (by omega) HC4.out.ne) (fun h k => h.trans k) (fun W l o o' hl _ _ _ => (Bel.refl _ _ _).putObj (.inl hl) _) (Below.refl _ _) (fun _ => rfl)
    (fun pre W => Bel M w4.heap.size w4 W ∧ Kept W M x ∧ ∀ y ∈ pre, Cut.some (Cut.seasonAt x (lv y) set 0) = false)
    (fun c pre W => c = .ret ∧ Bel M w.heap.size w W ∧ Kept W M x ∧ Blk W (w.heap.size + 1 + 1) 4 [.bool true] ∧ ∃ y ∈ pre, Cut.some (Cut.seasonAt x (lv y) set 0) = true)
    (fun s X Y row hs hg hr => ⟨hs.1.grown hg (Nat.le_refl _) (Nat.le_refl _) (fun r e => (hr r e).1), hs.2.1.grown (B0 := w4.heap.size) hg (by omega) (fun r e => (hr r e).1), hs.2.2⟩)
    (fun c s X Y row hs hg hr => ⟨hs.1, hs.2.1.grown (B0 := w4.heap.size) hg (by omega) (Nat.le_refl _) (fun r e => (hr r e).1), hs.2.2.1.grown (B0 := w4.heap.size) hg (by omega) (fun r e => (hr r e).1), hs.2.2.2.1.grown (B0 := w4.heap.size) hg (by omega) (fun r e => (hr r e).1), hs.2.2.2.2⟩)
    ⟨Bel.refl _ _ _, HC4.out.kept, by simp⟩
    (fun y => { tmps := #[.pointer (some ⟨B, 0, none⟩), .int .u64 set, .pointer (some ⟨w.heap.size, 0, none⟩), .pointer (some ⟨w.heap.size + 1, 0, none⟩), .pointer (some ⟨w.heap.size + 1 + 1, 0, none⟩), .int .i64 (lv y), undef, .pointer (some ⟨B, 0, none⟩), .func (.func 86) #[] #[.pointer (some ⟨w.heap.size + 1 + 1 + 1, 0, none⟩)], .int .i64 (lv y), undef, undef, undef, undef, undef, undef, undef, undef, undef], defers := [] }) ?assign ?body ?done ?stop
  case assign =>
    intro l y W K hK
    gi_wp2
    exact hK
  case body =>
    rintro l pre y W ⟨hB', hkept, hpre⟩ _
    have HCW := hide (HC4.out.bel hB' hkept)
    have d0 := b0.bel hB' b0.lt (by omega)
    have d1 := b1.bel hB' b1.lt (by omega)
    have d2 := b2.bel hB' b2.lt (by omega)
    have q0 := d0.cell 0 rfl
    have q1 := d1.cell 0 rfl
    have Hpre := hide hpre
    have hzW := hB'.size
    clear hpre
    have ix : ∀ (f : Nat → Int × Int) (W : World), (Instr.index 85 (.agg (cells18 f).toArray) (.int .i64 0)).run Tryd.prog W = .ok (.agg #[.int .i64 (f 0).1, .int .i64 (f 0).2]) W := fun f W => zje f 0 (by omega) W
    gi_wp2_with (refine ⟨trivial, ?_⟩; gi_at_call 53; refine (CallsIn.inRound l (callsIn_wide.2 (zha _ _ _ HCW.out hv (lv_le y) hset))).mono ?_; rintro e w5 ⟨rfl, hb5, hk5⟩; have hz5 := hb5.size)
    refine ⟨trivial, ?_⟩
    refine (CallsIn.inRound l (callsIn_wide.2 (zcy _ _ _))).mono ?_
    rintro e w6 ⟨rfl, hb6⟩
    have hbW6 : Bel M W.heap.size W w6 := hb5.trans (Bel.of_below (hb6.mono hz5))
    have hk6 := hk5.below hb6 hk5.lt
    have f2 := d2.bel hbW6 d2.lt (by omega)
    have e0 := f2.cell 0 rfl
    have e1 := f2.free 0
    have hz6 := hbW6.size
    have hkf : KeepsFrom w4.heap.size W w6 := hbW6.keeps (by omega)
    clear hb5 hb6 ix d0 d1 d2 q0 q1
    cases hsm : Cut.some ((Cut.seasonAt x (lv y) set 0).1, (Cut.seasonAt x (lv y) set 0).2) with
    | true =>
      have hsm' := hide hsm
      clear hsm
      gi_wp2
      refine ⟨hkf.trans (KeepsFrom.set _ _), rfl, ?_, hk6.below ((Below.refl w.heap.size _).setCell (p := ⟨w.heap.size + 1 + 1, 0, none⟩) (show w.heap.size ≤ w.heap.size + 1 + 1 by omega) _) hMl, f2.set 0 _, y, by simp, hsm'.out⟩
      exact (((Bel.of_below hb4).trans (hB'.mono (show w.heap.size ≤ w4.heap.size by omega))).trans (hbW6.mono (show w.heap.size ≤ W.heap.size by omega))).setCell (p := ⟨w.heap.size + 1 + 1, 0, none⟩) (.inl (show w.heap.size ≤ w.heap.size + 1 + 1 by omega)) _
    | false =>
      have hsm' := hide hsm
      clear hsm
      gi_wp2
      refine ⟨hkf, hbW6.mono hzW, hB'.trans (hbW6.mono hzW), hk6, fun z hz => ?_⟩
      rcases List.mem_append.1 hz with hz | hz
      · exact Hpre.out z hz
      · rw [List.mem_singleton.1 hz]; exact hsm'.out
  case done =>
    rintro D ys W hD rfl ⟨hB', hkept, hpre⟩ hK
    have d2 := b2.bel hB' b2.lt (by omega)
    have e0 := d2.cell 0 rfl
    have e1 := d2.free 0
    have hzW := hB'.size
    gi_wp2
    have hK2 : (W.setCell ⟨w.heap.size + 1 + 1, 0, none⟩ (.bool false)).heap[D]? = some (.deferred (some [])) := (KeepsOthers.setCell W ⟨w.heap.size + 1 + 1, 0, none⟩ (.bool false)).same D _ hK rfl
    have d3 := (d2.set 0 (.bool false)).put (l := D) (o := .deferred none) (by omega)
    refine ⟨by simp, .inl ⟨_, _, rfl, run_takeDeferred hK2, ?_⟩⟩
    have hbw := ((Bel.of_below (M := M) hb4).trans (hB'.mono (show w.heap.size ≤ w4.heap.size by omega))).setCell (p := ⟨w.heap.size + 1 + 1, 0, none⟩) (.inl (show w.heap.size ≤ w.heap.size + 1 + 1 by omega)) (.bool false)
    refine ⟨_, by rw [zgd rfl _ _ _ _ _ (.bool false) (by rfl) d3 rfl (by kernel_rfl)], ?_, hbw.putObj (.inl (by omega)) _, ?_⟩
    · rw [hany.out]
      exact zca (by simp; exact hpre)
    · exact (hkept.below ((Below.refl w.heap.size _).setCell (p := ⟨w.heap.size + 1 + 1, 0, none⟩) (show w.heap.size ≤ w.heap.size + 1 + 1 by omega) _) hMl).below (Below.putObj (N := w.heap.size) (by omega) _) hMl
  case stop =>
    rintro D c pre W hD hpre ⟨rfl, hB', hkept, d2, hsome⟩ hK
    gi_wp2
    have hzW := hB'.size
    have d3 := d2.put (l := D) (o := .deferred none) (by omega)
    refine ⟨by simp, .inl ⟨_, _, rfl, run_takeDeferred hK, ?_⟩⟩
    refine ⟨_, by rw [zgd rfl _ _ _ _ _ (.bool true) (by rfl) d3 rfl (by kernel_rfl)], ?_, hB'.putObj (.inl (by omega)) _, hkept.below (Below.putObj (N := w.heap.size) (by omega) _) hMl⟩
    rw [hany.out]
    obtain ⟨y, hy, hs⟩ := hsome
    exact zca (List.any_eq_true.2 ⟨y, hpre.subset hy, hs⟩).symm
end
end Go.Proofs.YtlkhjnpflohfeaaDoor

/- Contracts of ask, told. -/
namespace Go.Proofs.YtlkhjnpflohfeaaDoor
open Go Go.Proofs Go.RowKit
section
variable {B M : Nat} {x : CutD} {ra ba la : Option Addr} {rc bc lc : Nat}

abbrev Refused (e : Int) : Ending := .panicked [{ v := .iface 114 (.int .i64 e), recovered := false }]

set_option maxHeartbeats 400000 in
theorem zft (n : Int) (w : World) : Calls Tryd.prog 71 #[.bool true, .int .i64 n] w fun e w' => e = .returned (.tuple #[]) ∧ w = w' := by
  go_enter Tryd.func71, Tryd.ntmps71
  go_wp2
  go_end0
  exact ⟨rfl, rfl⟩
set_option maxHeartbeats 400000 in
theorem ask_no (n : Int) (w : World) : Calls Tryd.prog 71 #[.bool false, .int .i64 n] w fun e w' => e = Refused n ∧ w = w' := by
  go_enter Tryd.func71, Tryd.ntmps71
  go_wp2
  exact ⟨rfl, rfl, rfl⟩

theorem zgm (hv : Cut.valid x = true) : Cut.every x < 18446744073709551616 := by
  have h5 := (Cut.valid_of hv).k5
  have : (2 : Nat) ^ x.looks.length ≤ 2 ^ 5 := Nat.pow_le_pow_right (by omega) h5
  unfold Cut.every; omega

set_option maxHeartbeats 400000 in
theorem zey (w : World) (h : CutAt w B M x ra ba la rc bc lc) (hv : Cut.valid x = true) (hc : Cut.can x (Cut.every x) = true) :
    Calls Tryd.prog 46 #[.pointer (some ⟨B, 0, none⟩)] w fun e w' => e = .returned (.pointer (some ⟨B, 0, none⟩)) ∧ Bel M w.heap.size w w' ∧ Kept w' M x := by
  have HC := hide h
  have Hc := hide hc
  clear h hc
  go_enter Tryd.func46, Tryd.ntmps46
  go_wp2_with first | (go_at_call 54; refine (zdv _ HC.out (Cut.valid_of hv).k5).mono ?_; rintro e w' ⟨rfl, rfl⟩) | (go_at_call 72; refine (zml _ _ HC.out hv (zgm hv)).mono ?_; rintro e w1 ⟨rfl, hb, hk⟩; rw [Hc.out]) | (go_at_call 71; refine (zft _ _).mono ?_; rintro e w2 ⟨rfl, rfl⟩)
  go_ret
  exact ⟨rfl, hb, hk⟩
set_option maxHeartbeats 400000 in
theorem zgx (w : World) (h : CutAt w B M x ra ba la rc bc lc) (hv : Cut.valid x = true) (hc : Cut.can x (Cut.every x) = false) :
    Calls Tryd.prog 46 #[.pointer (some ⟨B, 0, none⟩)] w fun e w' => e = Refused 10 ∧ Bel M w.heap.size w w' ∧ Kept w' M x := by
  have HC := hide h
  have Hc := hide hc
  clear h hc
  go_enter Tryd.func46, Tryd.ntmps46
  go_wp2_with first | (go_at_call 54; refine (zdv _ HC.out (Cut.valid_of hv).k5).mono ?_; rintro e w' ⟨rfl, rfl⟩) | (go_at_call 72; refine (zml _ _ HC.out hv (zgm hv)).mono ?_; rintro e w1 ⟨rfl, hb, hk⟩; rw [Hc.out]) | (go_at_call 71; refine (ask_no _ _).mono ?_; rintro e w2 ⟨rfl, rfl⟩)
  exact ⟨rfl, rfl, hb, hk⟩
end
end Go.Proofs.YtlkhjnpflohfeaaDoor

/- Is there a day of rain that is no span? -/
namespace Go.Proofs.YtlkhjnpflohfeaaDoor
open Go Go.Proofs Go.RowKit

def ElemsR (w : World) (ra : Option Addr) (n k : Nat) (f : Nat → Nat → Value) : Prop :=
  n = 0 ∨ ∃ b off, ra = some ⟨b, off, none⟩ ∧ b < w.heap.size ∧ ∀ i j, i < n → j < k → w.cell? ⟨b, off + i * k + j, none⟩ = some (f i j)
theorem ElemsR.below {w w' : World} {ra : Option Addr} {n k : Nat} {f : Nat → Nat → Value} (h : ElemsR w ra n k f) (hb : Below w.heap.size w w') : ElemsR w' ra n k f := by
  rcases h with h | ⟨b, off, hr, hlt, hc⟩
  · exact .inl h
  · exact .inr ⟨b, off, hr, Nat.lt_of_lt_of_le hlt hb.size, fun i j hi hj => (hb.cell (p := ⟨b, _, none⟩) hlt).trans (hc i j hi hj)⟩
set_option maxHeartbeats 400000 in
theorem ziw (a b : Int) (w : World) :
    Calls Tryd.prog 85 #[.agg #[.int .i64 a, .int .i64 b]] w fun e w' => e = .returned (.bool (!Cut.isSpan (a, b) 0 30)) ∧ Below w.heap.size w w' := by
  go_enter Tryd.func85, Tryd.ntmps85
  go_wp2_with (go_at_call 83; refine (zbh _ _ _ _ _).mono ?_; rintro e w' ⟨rfl, hb⟩)
  go_ret
  exact ⟨rfl, by (repeat' first | (with_reducible assumption) | (with_reducible exact Below.refl _ _) | (with_reducible refine Below.drew ?_) | (with_reducible refine Below.setCell ?_ ?_ _) | (with_reducible refine Below.alloc ?_ ?_ _) | (refine Below.trans ?_ (Below.mono (by assumption) ?_)) | omega | (simp only [World.size_alloc] at *; omega))⟩

def badAt (l : List (Int × Int)) (i : Nat) : Bool := !Cut.isSpan (Cut.spanAt l i) 0 30

set_option maxHeartbeats 400000 in
theorem zvs (l : List (Int × Int)) (ra : Option Addr) (rc : Nat) (w : World) (h : ElemsR w ra l.length 2 (spanCell l)) (hl : l.length ≤ 4611686018427387904) :
    Calls Tryd.prog 96 #[.slice ra l.length rc, .func (.func 85) #[] #[]] w fun e w' =>
      (∃ n : Int, e = .returned (.int .i64 n) ∧ ((0 ≤ n ∧ ∃ i, i < l.length ∧ badAt l i = true) ∨ (n = -1 ∧ ∀ i, i < l.length → badAt l i = false))) ∧ Below w.heap.size w w' := by
  have H := hide h
  clear h
  go_enter Tryd.func96, Tryd.ntmps96
  go_wp2
  go_loopw [5, 8, 9, 10, 11, 12, 13, 14, 15, 16, 17, 18] (fun _ v8 _ _ _ _ _ _ _ _ _ _ wr => ∃ k : Nat, v8 = .int .i64 k ∧ k ≤ l.length ∧ Below w.heap.size w wr ∧ Hid (∀ i, i < k → badAt l i = false)) (fun _ v8 _ _ _ _ _ _ _ _ _ _ _ => l.length - (intOf v8).toNat)
  case atStart => exact ⟨0, rfl, by omega, by (repeat' first | (with_reducible assumption) | (with_reducible exact Below.refl _ _) | (with_reducible refine Below.drew ?_) | (with_reducible refine Below.setCell ?_ ?_ _) | (with_reducible refine Below.alloc ?_ ?_ _) | (refine Below.trans ?_ (Below.mono (by assumption) ?_)) | omega | (simp only [World.size_alloc, World.size_setCell, World.size_drew] at *; omega)), fun i hi => by omega⟩
  case round =>
    obtain ⟨k, rfl, hk, hB, hno⟩ := hrel
    by_cases hlt : k < l.length
    · rcases H.out with h0 | ⟨b, off, rfl, hb, hc⟩
      · omega
      · have hka := hc k 0 hlt (by omega)
        have hkb := hc k 1 hlt (by omega)
        rw [← hB.cell (p := ⟨b, _, none⟩) hb] at hka hkb
        simp [spanCell] at hka hkb
        clear hc
        have hbs : b < wr.heap.size := Nat.lt_of_lt_of_le hb hB.size
        have he : badAt l k = !Cut.isSpan (Cut.spanAt l k) 0 30 := rfl
        rw [show Cut.spanAt l k = ((Cut.spanAt l k).1, (Cut.spanAt l k).2) from rfl] at he
        cases hbad : badAt l k with
        | true =>
          rw [hbad] at he
          replace he := he.symm
          go_wp2_with (go_at_call 85; refine (ziw _ _ _).mono ?_; rintro e w1 ⟨rfl, hb1⟩; rw [he])
          go_ret
          exact ⟨⟨k, rfl, .inl ⟨by omega, k, hlt, hbad⟩⟩, hB.trans (hb1.mono hB.size)⟩
        | false =>
          rw [hbad] at he
          replace he := he.symm
          go_wp2_with (go_at_call 85; refine (ziw _ _ _).mono ?_; rintro e w1 ⟨rfl, hb1⟩; rw [he])
          refine ⟨⟨k + 1, by go_num, by omega, hB.trans (hb1.mono hB.size), ?_⟩, by simp [intOf]; omega⟩
          intro i hi
          rcases Nat.lt_succ_iff_lt_or_eq.1 hi with h | rfl
          · exact hno.out i h
          · exact hbad
    · obtain rfl : k = l.length := by omega
      go_wp2
      go_ret
      exact ⟨⟨-1, rfl, .inr ⟨rfl, hno.out⟩⟩, by (repeat' first | (with_reducible assumption) | (with_reducible exact Below.refl _ _) | (with_reducible refine Below.drew ?_) | (with_reducible refine Below.setCell ?_ ?_ _) | (with_reducible refine Below.alloc ?_ ?_ _) | (refine Below.trans ?_ (Below.mono (by assumption) ?_)) | omega | (simp only [World.size_alloc, World.size_setCell, World.size_drew] at *; omega))⟩

def rainBad (l : List (Int × Int)) : Bool := !(l.all fun s => Cut.isSpan s 0 30)
theorem zea (l : List (Int × Int)) : rainBad l = true ↔ ∃ i, i < l.length ∧ badAt l i = true := by
  unfold rainBad badAt Cut.spanAt
  rw [Bool.not_eq_true', ← Bool.not_eq_true, List.all_eq_true]
  constructor
  · intro h
    apply Classical.byContradiction
    intro hn
    apply h
    intro s hs
    obtain ⟨i, hi, rfl⟩ := List.mem_iff_getElem.1 hs
    apply Classical.byContradiction
    intro h2
    exact hn ⟨i, hi, by simp [List.getD_eq_getElem?_getD, hi]; simpa using h2⟩
  · rintro ⟨i, hi, h⟩ h2
    have := h2 l[i] (List.getElem_mem hi)
    simp [List.getD_eq_getElem?_getD, hi, this] at h
set_option maxHeartbeats 400000 in
theorem zic (l : List (Int × Int)) (ra : Option Addr) (rc : Nat) (w : World) (h : ElemsR w ra l.length 2 (spanCell l)) (hl : l.length ≤ 4611686018427387904) :
    Calls Tryd.prog 84 #[.slice ra l.length rc, .func (.func 85) #[] #[]] w fun e w' => e = .returned (.bool (rainBad l)) ∧ Below w.heap.size w w' := by
  have H := hide h
  clear h
  go_enter Tryd.func84, Tryd.ntmps84
  go_wp2_with (go_at_call 96; refine (zvs l ra rc _ H.out hl).mono ?_; rintro e w1 ⟨⟨n, rfl, hn⟩, hb1⟩)
  go_ret
  refine ⟨?_, by (repeat' first | (with_reducible assumption) | (with_reducible exact Below.refl _ _) | (with_reducible refine Below.drew ?_) | (with_reducible refine Below.setCell ?_ ?_ _) | (with_reducible refine Below.alloc ?_ ?_ _) | (refine Below.trans ?_ (Below.mono (by assumption) ?_)) | omega | (simp only [World.size_alloc, World.size_setCell, World.size_drew] at *; omega))⟩
  rcases hn with ⟨h0, i, hi, hbad⟩ | ⟨rfl, hno⟩
  · rw [(zea l).2 ⟨i, hi, hbad⟩]; simp [h0]
  · have : rainBad l = false := by
      rw [← Bool.not_eq_true, zea]
      rintro ⟨i, hi, h⟩
      rw [hno i hi] at h; cases h
    rw [this]; simp
end Go.Proofs.YtlkhjnpflohfeaaDoor

/- make and copy of slices of structs, into a block of the call's own. -/
namespace Go.Proofs.YtlkhjnpflohfeaaDoor
open Go Go.Proofs Go.RowKit

def rowCells (k : Nat) (f : Nat → Nat → Value) : Nat → List Value
  | 0 => []
  | n + 1 => rowCells k f n ++ (List.range k).map (f n)
theorem zbi (k : Nat) (f : Nat → Nat → Value) : ∀ n, (rowCells k f n).length = n * k
  | 0 => by simp [rowCells]
  | n + 1 => by simp [rowCells, zbi k f n, Nat.add_mul]
theorem zen (k : Nat) (f : Nat → Nat → Value) : ∀ n i j, i < n → j < k → (rowCells k f n)[i * k + j]? = some (f i j)
  | 0, i, j, hi, hj => by omega
  | n + 1, i, j, hi, hj => by
    unfold rowCells
    by_cases h : i < n
    · rw [List.getElem?_append_left (by rw [zbi]; have : (i + 1) * k ≤ n * k := Nat.mul_le_mul_right k (by omega); rw [Nat.add_mul] at this; omega)]
      exact zen k f n i j h hj
    · obtain rfl : i = n := by omega
      rw [List.getElem?_append_right (by rw [zbi]; omega), zbi]
      simp [hj]
theorem znf (k : Nat) (f : Nat → Nat → Value) (n : Nat) (p : Value → Prop) (h : ∀ i j, i < n → j < k → p (f i j)) : ∀ v ∈ rowCells k f n, p v := by
  induction n with
  | zero => intro v hv; simp [rowCells] at hv
  | succ n ih =>
    intro v hv
    unfold rowCells at hv
    rcases List.mem_append.1 hv with hv | hv
    · exact ih (fun i j hi hj => h i j (by omega) hj) v hv
    · obtain ⟨j, hj, rfl⟩ := List.mem_map.1 hv
      exact h n j (by omega) (List.mem_range.1 hj)
theorem zlp {w : World} {b off k n : Nat} {f : Nat → Nat → Value} (hk : 0 < k) (hc : ∀ i j, i < n → j < k → w.cell? ⟨b, off + i * k + j, none⟩ = some (f i j)) :
    ∀ m u, (rowCells k f n)[m]? = some u → w.cell? ⟨b, off + m, none⟩ = some u := by
  intro m u hm
  have hlt : m < n * k := by
    have := (List.getElem?_eq_some_iff.1 hm).1
    rwa [zbi] at this
  have h1 : m / k < n := (Nat.div_lt_iff_lt_mul hk).2 hlt
  have h2 : m % k < k := Nat.mod_lt _ hk
  have h3 : m / k * k + m % k = m := by rw [Nat.mul_comm]; exact Nat.div_add_mod m k
  have h4 := zen k f n (m / k) (m % k) h1 h2
  rw [h3, hm] at h4
  have h5 := hc (m / k) (m % k) h1 h2
  rw [show off + m / k * k + m % k = off + m by omega] at h5
  rw [h5, h4]

section
variable {P : Program}
theorem zne {t t2 rt e : TypeId} {i : TypeInfo} {w : World} {D : Nat} {T : TypeId} {cs : List Value} {n cap scap k : Nat} {ra : Option Addr} {f : Nat → Nat → Value} (ht : P.underlying t = some (.slice e)) (hi : P.info? e = some i) (hk : i.size = k) (hk0 : 0 < k)
    (hD : Blk w D T cs) (hl : cs.length = n * k) (hs : n = 0 ∨ ∃ b off, ra = some ⟨b, off, none⟩ ∧ ∀ i j, i < n → j < k → w.cell? ⟨b, off + i * k + j, none⟩ = some (f i j)) (h1 : ∀ i j, i < n → j < k → (f i j).oneCell' = true) :
    (Builtin.copy_ #[t, t2] rt #[.slice (some ⟨D, 0, none⟩) n cap, .slice ra n scap]).run P w = .ok (goInt n) (w.putObj D (.cells (rowCells k f n).toArray T (0, 0))) := by
  have hsz : ∀ w, (sizeOf e).run P w = .ok k w := fun w => by simp [sizeOf, typeInfo, hi, Sem.run_bind, Result.andThen, hk]
  have hf : (Builtin.firstCells k n (.slice ra n scap)).run P w = .ok (rowCells k f n).toArray w := by
    rcases hs with rfl | ⟨b, off, rfl, hc⟩
    · cases ra with
      | none => exact run_firstCells_none _ _ _ _ _
      | some a => exact run_firstCells_some _ _ _ _ _ _ _ (by simp [rowCells]) (by simp [rowCells])
    · exact run_firstCells_some _ _ _ _ _ _ _ (zbi k f n) (fun m u hm => by
        have := zlp hk0 hc m u hm
        rwa [show Addr.add ⟨b, off, none⟩ m = ⟨b, off + m, none⟩ by simp [Addr.add]])
  have hst := zdo (P := P) (rowCells k f n) 0 cs w 0 hD (by rw [zbi]; omega) (znf k f n _ h1)
  simp only [List.take_zero, List.nil_append, Nat.zero_add, Nat.add_zero, zbi] at hst
  rw [← hl, List.drop_length, List.append_nil] at hst
  unfold Builtin.copy_
  simp [Sem.run_bind, run_underlying ht, Result.andThen, Builtin.lenOf, hsz, hf, hst]

theorem zeh (z : Array Value) (n : Nat) : (madeCells z n).toList.length = n := by simp [madeCells]
theorem zgc (t e : TypeId) (i : TypeInfo) (z : Value) (ht : P.underlying t = some (.slice e)) (hi : P.info? e = some i) (hz : i.zero = some z)
    (kl kc : IntKind) (n : Nat) (hbytes : i.bytes * n ≤ 281474976710656) (h63 : n ≤ 9223372036854775807) (w : World) :
    (Instr.makeSlice t (.int kl (n : Int)) (.int kc (n : Int))).run P w = .ok (.slice (some ⟨w.heap.size, 0, none⟩) n n) (w.alloc (.cells (madeCells z.cells (n * i.size)).toList.toArray e)) := by
  have hb : (i.bytes : Int) * (n : Int) ≤ 281474976710656 := by
    have h : ((i.bytes * n : Nat) : Int) ≤ 281474976710656 := by omega
    rwa [Int.natCast_mul] at h
  have hr := run_make (P := P) w t e i z ht hi hz kl kc n n (by omega) (by omega) hb (by omega)
  simp only [Int.toNat_natCast] at hr
  rw [Array.toArray_toList]
  exact hr
end
end Go.Proofs.YtlkhjnpflohfeaaDoor

/- A cut as an argument; the contract of open, where the head of the check fails. -/
namespace Go.Proofs.YtlkhjnpflohfeaaDoor
open Go Go.Proofs Go.RowKit

def cutVal (x : CutD) (ra ba la : Option Addr) (rc bc lc : Nat) : Value :=
  .agg #[.int .i64 x.depth.1, .int .i64 x.depth.2, .int .i64 x.leak.1, .int .i64 x.leak.2, .slice ra x.rain.length rc, .int .i64 x.most, .slice ba x.boats.length bc, .slice la x.looks.length lc]
structure CutIn (w : World) (x : CutD) (ra ba la : Option Addr) : Prop where
  rain : ElemsR w ra x.rain.length 2 (spanCell x.rain)
  boats : ElemsR w ba x.boats.length 4 (boatCell x.boats)
  looks : ElemsR w la x.looks.length 3 (lookCell x.looks)
  dry : Dry w
theorem CutIn.below {w w' : World} {x : CutD} {ra ba la : Option Addr} (h : CutIn w x ra ba la) (hb : Below w.heap.size w w') : CutIn w' x ra ba la :=
  ⟨h.rain.below hb, h.boats.below hb, h.looks.below hb, h.dry.below hb⟩

def headOf (x : CutD) : Bool := Cut.within x.rain.length 1 8 && Cut.within x.most 1 100 && Cut.isSpan x.depth 0 x.most && Cut.isSpan x.leak 0 10 && decide ((x.boats.length : Int) ≤ 4) && decide ((x.looks.length : Int) ≤ 5)

set_option maxHeartbeats 2000000 in
theorem zuw (fv : Value) (x : CutD) (ra ba la : Option Addr) (rc bc lc : Nat) (w : World) (hbad : headOf x = false) :
    Calls Tryd.prog 43 #[cutVal x ra ba la rc bc lc, fv] w fun e w' => e = Refused 1 ∧ Below w.heap.size w w' := by
  unfold headOf at hbad
  rw [show x.depth = (x.depth.1, x.depth.2) from rfl, show x.leak = (x.leak.1, x.leak.2) from rfl] at hbad
  unfold cutVal
  cases h1 : Cut.within x.rain.length 1 8
  · clear hbad
    go_enter Tryd.func43, Tryd.ntmps43
    go_wp2_with first | (go_at_call 82; refine (zbj _ _ _ _).mono ?_; rintro e w' ⟨rfl, rfl⟩; first | rw [h1] | rw [h2]) | (go_at_call 71; refine (ask_no _ _).mono ?_; rintro e w2 ⟨rfl, rfl⟩) | (go_at_call 83; refine (zbh _ _ _ _ _).mono ?_; rintro e w1 ⟨rfl, hb⟩; obtain ⟨hbc, hbf⟩ := bcell hb; have hlt : w.heap.size < w1.heap.size := Nat.lt_of_lt_of_le (by first | assumption | simp) hb.size; first | rw [h3] | rw [h4])
    exact ⟨rfl, rfl, by (repeat' first | (with_reducible assumption) | (with_reducible exact Below.refl _ _) | (with_reducible refine Below.drew ?_) | (with_reducible refine Below.setCell ?_ ?_ _) | (with_reducible refine Below.alloc ?_ ?_ _) | (refine Below.trans ?_ (Below.mono (by assumption) ?_)) | omega | (simp only [World.size_alloc, World.size_setCell, World.size_drew] at *; omega))⟩
  cases h2 : Cut.within x.most 1 100
  · clear hbad
    go_enter Tryd.func43, Tryd.ntmps43
    go_wp2_with first | (go_at_call 82; refine (zbj _ _ _ _).mono ?_; rintro e w' ⟨rfl, rfl⟩; first | rw [h1] | rw [h2]) | (go_at_call 71; refine (ask_no _ _).mono ?_; rintro e w2 ⟨rfl, rfl⟩) | (go_at_call 83; refine (zbh _ _ _ _ _).mono ?_; rintro e w1 ⟨rfl, hb⟩; obtain ⟨hbc, hbf⟩ := bcell hb; have hlt : w.heap.size < w1.heap.size := Nat.lt_of_lt_of_le (by first | assumption | simp) hb.size; first | rw [h3] | rw [h4])
    exact ⟨rfl, rfl, by (repeat' first | (with_reducible assumption) | (with_reducible exact Below.refl _ _) | (with_reducible refine Below.drew ?_) | (with_reducible refine Below.setCell ?_ ?_ _) | (with_reducible refine Below.alloc ?_ ?_ _) | (refine Below.trans ?_ (Below.mono (by assumption) ?_)) | omega | (simp only [World.size_alloc, World.size_setCell, World.size_drew] at *; omega))⟩
  cases h3 : Cut.isSpan (x.depth.1, x.depth.2) 0 x.most
  · clear hbad
    go_enter Tryd.func43, Tryd.ntmps43
    go_wp2_with first | (go_at_call 82; refine (zbj _ _ _ _).mono ?_; rintro e w' ⟨rfl, rfl⟩; first | rw [h1] | rw [h2]) | (go_at_call 71; refine (ask_no _ _).mono ?_; rintro e w2 ⟨rfl, rfl⟩) | (go_at_call 83; refine (zbh _ _ _ _ _).mono ?_; rintro e w1 ⟨rfl, hb⟩; obtain ⟨hbc, hbf⟩ := bcell hb; have hlt : w.heap.size < w1.heap.size := Nat.lt_of_lt_of_le (by first | assumption | simp) hb.size; first | rw [h3] | rw [h4])
    exact ⟨rfl, rfl, by (repeat' first | (with_reducible assumption) | (with_reducible exact Below.refl _ _) | (with_reducible refine Below.drew ?_) | (with_reducible refine Below.setCell ?_ ?_ _) | (with_reducible refine Below.alloc ?_ ?_ _) | (refine Below.trans ?_ (Below.mono (by assumption) ?_)) | omega | (simp only [World.size_alloc] at *; omega))⟩
  cases h4 : Cut.isSpan (x.leak.1, x.leak.2) 0 10
  · clear hbad
    go_enter Tryd.func43, Tryd.ntmps43
    go_wp2_with first | (go_at_call 82; refine (zbj _ _ _ _).mono ?_; rintro e w' ⟨rfl, rfl⟩; first | rw [h1] | rw [h2]) | (go_at_call 71; refine (ask_no _ _).mono ?_; rintro e w2 ⟨rfl, rfl⟩) | (go_at_call 83; refine (zbh _ _ _ _ _).mono ?_; rintro e w1 ⟨rfl, hb⟩; obtain ⟨hbc, hbf⟩ := bcell hb; have hlt : w.heap.size < w1.heap.size := Nat.lt_of_lt_of_le (by first | assumption | simp) hb.size; first | rw [h3] | rw [h4])
    exact ⟨rfl, rfl, by (repeat' first | (with_reducible assumption) | (with_reducible exact Below.refl _ _) | (with_reducible refine Below.drew ?_) | (with_reducible refine Below.setCell ?_ ?_ _) | (with_reducible refine Below.alloc ?_ ?_ _) | (refine Below.trans ?_ (Below.mono (by assumption) ?_)) | omega | (simp only [World.size_alloc] at *; omega))⟩
  cases h5 : decide ((x.boats.length : Int) ≤ 4)
  · clear hbad
    have g5 := of_decide_eq_false h5
    rw [Int.not_le] at g5
    go_enter Tryd.func43, Tryd.ntmps43
    go_wp2_with first | (go_at_call 82; refine (zbj _ _ _ _).mono ?_; rintro e w' ⟨rfl, rfl⟩; first | rw [h1] | rw [h2]) | (go_at_call 71; refine (ask_no _ _).mono ?_; rintro e w2 ⟨rfl, rfl⟩) | (go_at_call 83; refine (zbh _ _ _ _ _).mono ?_; rintro e w1 ⟨rfl, hb⟩; obtain ⟨hbc, hbf⟩ := bcell hb; have hlt : w.heap.size < w1.heap.size := Nat.lt_of_lt_of_le (by first | assumption | simp) hb.size; first | rw [h3] | rw [h4])
    exact ⟨rfl, rfl, by (repeat' first | (with_reducible assumption) | (with_reducible exact Below.refl _ _) | (with_reducible refine Below.drew ?_) | (with_reducible refine Below.setCell ?_ ?_ _) | (with_reducible refine Below.alloc ?_ ?_ _) | (refine Below.trans ?_ (Below.mono (by assumption) ?_)) | omega | (simp only [World.size_alloc] at *; omega))⟩
  cases h6 : decide ((x.looks.length : Int) ≤ 5)
  · clear hbad
    have g5 := of_decide_eq_true h5
    have g6 := of_decide_eq_false h6
    rw [Int.not_le] at g6
    go_enter Tryd.func43, Tryd.ntmps43
    go_wp2_with first | (go_at_call 82; refine (zbj _ _ _ _).mono ?_; rintro e w' ⟨rfl, rfl⟩; first | rw [h1] | rw [h2]) | (go_at_call 71; refine (ask_no _ _).mono ?_; rintro e w2 ⟨rfl, rfl⟩) | (go_at_call 83; refine (zbh _ _ _ _ _).mono ?_; rintro e w1 ⟨rfl, hb⟩; obtain ⟨hbc, hbf⟩ := bcell hb; have hlt : w.heap.size < w1.heap.size := Nat.lt_of_lt_of_le (by first | assumption | simp) hb.size; first | rw [h3] | rw [h4])
    exact ⟨rfl, rfl, by (repeat' first | (with_reducible assumption) | (with_reducible exact Below.refl _ _) | (with_reducible refine Below.drew ?_) | (with_reducible refine Below.setCell ?_ ?_ _) | (with_reducible refine Below.alloc ?_ ?_ _) | (refine Below.trans ?_ (Below.mono (by assumption) ?_)) | omega | (simp only [World.size_alloc] at *; omega))⟩
  rw [h1, h2, h3, h4, h5, h6] at hbad
  cases hbad
end Go.Proofs.YtlkhjnpflohfeaaDoor

/- The contract of open, where the head of the check is right. -/
namespace Go.Proofs.YtlkhjnpflohfeaaDoor
open Go Go.Proofs Go.RowKit

def boatOk (b : Boat) : Bool := Cut.isSpan (b.draws.1, b.draws.2) 0 100 && Cut.within b.per 0 10 && Cut.within b.room 0 10
def lookOk (x : CutD) (l : Look) : Bool := Cut.isDay x l.day && Cut.isSpan (l.depth.1, l.depth.2) 0 100
theorem zcg (x : CutD) : Cut.valid x = (headOf x && !rainBad x.rain && x.boats.all boatOk && x.looks.all (lookOk x)) := by
  unfold Cut.valid headOf rainBad
  simp only [Bool.not_not]; rfl
theorem zim {α : Type} (l : List α) (p : α → Bool) (d : α) (h : ∀ i, i < l.length → p (l.getD i d) = true) : l.all p = true := by
  rw [List.all_eq_true]; intro a ha
  obtain ⟨i, hi, rfl⟩ := List.mem_iff_getElem.1 ha
  simpa [hi] using h i hi
theorem zux {α : Type} (l : List α) (p : α → Bool) (d : α) (i : Nat) (hi : i < l.length) (h : p (l.getD i d) = false) : l.all p = false := by
  rw [← Bool.not_eq_true, List.all_eq_true]
  intro h2
  have := h2 (l.getD i d) (by simp [hi])
  rw [h] at this; cases this

def cutCells (x : CutD) (ra ba la : Option Addr) (rc bc lc : Nat) : List Value :=
  [.int .i64 x.depth.1, .int .i64 x.depth.2, .int .i64 x.leak.1, .int .i64 x.leak.2, .slice ra x.rain.length rc, .int .i64 x.most, .slice ba x.boats.length bc, .slice la x.looks.length lc]
def boatCells (b : Boat) : List Value := [.int .i64 b.draws.1, .int .i64 b.draws.2, .int .i64 b.per, .int .i64 b.room]
structure Opened (w wr : World) (B M : Nat) (x : CutD) (ra ba la : Option Addr) (rc bc lc : Nat) : Prop where
  bel : Below w.heap.size w wr
  kx : Blk wr w.heap.size 28 (cutCells x ra ba la rc bc lc)
  kc : Blk wr B 118 (cutCells x ra ba la rc bc lc ++ [.map (some M)])
  km : wr.heap[M]? = some (.map #[] 0)
  hM : w.heap.size < M
  hB : M < B
theorem Opened.lt {w wr : World} {B M : Nat} {x : CutD} {ra ba la : Option Addr} {rc bc lc : Nat} (h : Opened w wr B M x ra ba la rc bc lc) : B < wr.heap.size := h.kc.lt
theorem Opened.below {w wr wz : World} {B M : Nat} {x : CutD} {ra ba la : Option Addr} {rc bc lc : Nat} (h : Opened w wr B M x ra ba la rc bc lc) (hb : Below wr.heap.size wr wz) : Opened w wz B M x ra ba la rc bc lc :=
  ⟨h.bel.trans (hb.mono h.bel.size), h.kx.below hb h.kx.lt, h.kc.below hb h.kc.lt, (hb.block M (by have := h.lt; have := h.hB; omega)).trans h.km, h.hM, h.hB⟩

theorem Opened.cutAt {w wr : World} {B M : Nat} {x : CutD} {ra ba la : Option Addr} {rc bc lc : Nat} (h : Opened w wr B M x ra ba la rc bc lc) (hin : CutIn w x ra ba la) : CutAt wr B M x ra ba la rc bc lc := by
  have hM := h.hM
  have hel : ∀ {ra : Option Addr} {n k : Nat} {f : Nat → Nat → Value}, ElemsR w ra n k f → Elems wr M ra n k f := by
    intro ra n k f he
    rcases he.below h.bel with h0 | ⟨b, off, hr, hlt, hc⟩
    · exact .inl h0
    · rcases he with h1 | ⟨b', off', hr', hlt', _⟩
      · exact .inl h1
      · rw [hr] at hr'; cases hr'
        exact .inr ⟨b, off, hr, hlt, by omega, hc⟩
  have hd := hin.dry.lt
  exact ⟨h.kc, hel hin.rain, hel hin.boats, hel hin.looks, ⟨_, _, h.km, by intro e he; simp at he⟩, by have := h.hB; omega, hin.dry.below h.bel, by omega⟩

theorem zvm : (Tryd.prog.info? 55).map (fun i => (i.zero, i.size, i.bytes)) = some (some (.agg #[.int .i64 0, .int .i64 0, .int .i64 0]), 3, 24) := by kernel_rfl
theorem Elems2.src {w wr : World} {ra : Option Addr} {n k : Nat} {f : Nat → Nat → Value} (hb : Below w.heap.size w wr) (h : ElemsR w ra n k f) : n = 0 ∨ ∃ b off, ra = some ⟨b, off, none⟩ ∧ ∀ i j, i < n → j < k → wr.cell? ⟨b, off + i * k + j, none⟩ = some (f i j) := by
  rcases h.below hb with h | ⟨b, off, hr, _, hc⟩
  · exact .inl h
  · exact .inr ⟨b, off, hr, hc⟩

theorem elems_of {w wr : World} {M : Nat} (hb : Below w.heap.size w wr) (hM : w.heap.size ≤ M) {ra : Option Addr} {n k : Nat} {f : Nat → Nat → Value} (he : ElemsR w ra n k f) : Elems wr M ra n k f := by
  rcases he.below hb with h0 | ⟨b, off, hr, hlt, hc⟩
  · exact .inl h0
  · rcases he with h1 | ⟨b', off', hr', hlt', _⟩
    · exact .inl h1
    · rw [hr] at hr'; cases hr'
      exact .inr ⟨b, off, hr, hlt, by omega, hc⟩
theorem Opened.done {w wr : World} {B M D : Nat} {x : CutD} {ra ba la : Option Addr} {rc bc lc : Nat} (h : Opened w wr B M x ra ba la rc bc lc) (hin : CutIn w x ra ba la)
    (hD : Blk wr D 55 (rowCells 3 (lookCell x.looks) x.looks.length)) (_hl7 : w.heap.size < D) (hlB : B < D) :
    CutAt (wr.setCell ⟨B, 7, none⟩ (.slice (some ⟨D, 0, none⟩) x.looks.length x.looks.length)) B M x ra ba (some ⟨D, 0, none⟩) rc bc x.looks.length := by
  have hM := h.hM
  have hMB := h.hB
  have hb : Below w.heap.size w (wr.setCell ⟨B, 7, none⟩ (.slice (some ⟨D, 0, none⟩) x.looks.length x.looks.length)) := h.bel.setCell (p := ⟨B, 7, none⟩) (by show w.heap.size ≤ B; omega) _
  have hd := hin.dry.lt
  refine ⟨h.kc.set 7 _, elems_of hb (by omega) hin.rain, elems_of hb (by omega) hin.boats, .inr ⟨D, 0, rfl, ?_, by omega, fun i j hi hj => ?_⟩, ⟨_, _, (Below.heap_setCell _ ⟨B, 7, none⟩ _ M (by show M ≠ B; omega)).trans h.km, by intro e he; simp at he⟩, by omega, hin.dry.below hb, by omega⟩
  · have := hD.lt; simp only [World.size_setCell]; exact this
  · have h1 := (hD.other (show D ≠ B by omega) 7 (.slice (some ⟨D, 0, none⟩) x.looks.length x.looks.length)).cell (i * 3 + j) (zen 3 _ _ i j hi hj)
    rw [Nat.zero_add]; exact h1

def OpenPost (x : CutD) (b : Bool) (ra ba : Option Addr) (rc bc : Nat) (w : World) (e : Ending) (w' : World) : Prop :=
  Below w.heap.size w w' ∧ ((Cut.valid x = false ∧ e = Refused 1) ∨ (Cut.valid x = true ∧ b = false ∧ e = Refused 2) ∨
    (Cut.valid x = true ∧ b = true ∧ ∃ B M la' lc', w.heap.size ≤ B ∧ w.heap.size ≤ M ∧ e = .returned (.pointer (some ⟨B, 0, none⟩)) ∧ CutAt w' B M x ra ba la' rc bc lc'))
theorem OpenPost.bad {x : CutD} {b : Bool} {ra ba : Option Addr} {rc bc : Nat} {w w' : World} (hb : Below w.heap.size w w') (h : Cut.valid x = false) : OpenPost x b ra ba rc bc w (Refused 1) w' := ⟨hb, .inl ⟨h, rfl⟩⟩

theorem OpenPost.good {x : CutD} {ra ba la' : Option Addr} {rc bc lc' B M : Nat} {w w' : World} (hb : Below w.heap.size w w') (h : Cut.valid x = true) (hB : w.heap.size ≤ B) (hM : w.heap.size ≤ M) (hc : CutAt w' B M x ra ba la' rc bc lc') : OpenPost x true ra ba rc bc w (.returned (.pointer (some ⟨B, 0, none⟩))) w' :=
  ⟨hb, .inr (.inr ⟨h, rfl, B, M, la', lc', hB, hM, rfl, hc⟩)⟩
def IsSo (fv : Value) (x : CutD) (ra ba : Option Addr) (rc bc : Nat) (b : Bool) (w : World) : Prop :=
  ∃ g fr, fv = .func (.func g) #[] fr ∧ (∀ args w, (callFunc g args).run Tryd.prog w = .ok (.enter g args) w) ∧
    ∀ B M la lc w', Cut.valid x = true → Below w.heap.size w w' → w.heap.size ≤ B → w.heap.size ≤ M → CutAt w' B M x ra ba la rc bc lc →
    Calls Tryd.prog g (#[.pointer (some ⟨B, 0, none⟩)] ++ fr) w' fun e w'' => e = .returned (.bool b) ∧ w' = w''

theorem zkd {x : CutD} (h : rainBad x.rain = true) : Cut.valid x = false := by rw [zcg, h]; simp
theorem zdd {x : CutD} (k : Nat) (hk : k < x.boats.length) (h : boatOk (Cut.boatAt x.boats k) = false) : Cut.valid x = false := by
  rw [zcg, zux _ _ _ k hk h]; simp
theorem zex {x : CutD} (k : Nat) (hk : k < x.looks.length) (h : lookOk x (Cut.lookAt x.looks k) = false) : Cut.valid x = false := by
  rw [zcg, zux _ _ _ k hk h]; simp

set_option maxHeartbeats 4000000 in
set_option maxRecDepth 100000 in
theorem zut (fv : Value) (x : CutD) (ra ba la : Option Addr) (rc bc lc : Nat) (b : Bool) (w : World) (hin : CutIn w x ra ba la) (hhead : headOf x = true) (hr : rainBad x.rain = false) (his : IsSo fv x ra ba rc bc b w) :
    Calls Tryd.prog 43 #[cutVal x ra ba la rc bc lc, fv] w fun e w' => OpenPost x b ra ba rc bc w e w' := by
  have HIN := hide hin
  have HIS := hide his
  have HH := hide hhead
  have hd := hin.dry.lt
  clear hin his
  unfold headOf at hhead
  rw [show x.depth = (x.depth.1, x.depth.2) from rfl, show x.leak = (x.leak.1, x.leak.2) from rfl] at hhead
  simp only [Bool.and_eq_true] at hhead
  obtain ⟨⟨⟨⟨⟨h1, h2⟩, h3⟩, h4⟩, h5⟩, h6⟩ := hhead
  have g5 := of_decide_eq_true h5
  have g6 := of_decide_eq_true h6
  have HN : Hid (1 ≤ x.rain.length ∧ x.rain.length ≤ 8 ∧ x.boats.length ≤ 4 ∧ x.looks.length ≤ 5) := by
    simp only [Cut.within, Bool.and_eq_true, decide_eq_true_eq] at h1; exact ⟨by omega, by omega, by omega, by omega⟩
  unfold cutVal
  · have hmm := @run_makeMap Tryd.prog
    go_enter Tryd.func43, Tryd.ntmps43
    go_wp2_with first | (go_at_call 82; refine (zbj _ _ _ _).mono ?_; rintro e w' ⟨rfl, rfl⟩; first | rw [h1] | rw [h2]) | (go_at_call 71; refine (zft _ _).mono ?_; rintro e w2 ⟨rfl, rfl⟩) | (go_at_call 83; refine (zbh _ _ _ _ _).mono ?_; rintro e w1 ⟨rfl, hb⟩; have kx : Blk w1 w.heap.size 28 (cutCells x ra ba la rc bc lc) := Blk.below (by first | assumption | exact Blk.new _ _ _) hb (by first | assumption | simp); have hlt := kx.lt; have c0 := kx.cell 0 rfl; have c1 := kx.cell 1 rfl; have c2 := kx.cell 2 rfl; have c3 := kx.cell 3 rfl; have c4 := kx.cell 4 rfl; have c5 := kx.cell 5 rfl; have c6 := kx.cell 6 rfl; have c7 := kx.cell 7 rfl; first | rw [h3] | rw [h4]) | (go_at_call 84; refine (zic x.rain ra rc _ (HIN.out.rain.below (by (repeat' first | (with_reducible assumption) | (with_reducible exact Below.refl _ _) | (with_reducible refine Below.drew ?_) | (with_reducible refine Below.setCell ?_ ?_ _) | (with_reducible refine Below.alloc ?_ ?_ _) | (refine Below.trans ?_ (Below.mono (by assumption) ?_)) | omega | (simp only [World.size_alloc] at *; omega)))) (by have := HN.out; omega)).mono ?_; rintro e w3 ⟨rfl, hb3⟩; rw [hr]; have ho : Opened w w3 (w1.heap.size + 1) w1.heap.size x ra ba la rc bc lc := (Opened.below ⟨by (repeat' first | (with_reducible assumption) | (with_reducible exact Below.refl _ _) | (with_reducible refine Below.drew ?_) | (with_reducible refine Below.setCell ?_ ?_ _) | (with_reducible refine Below.alloc ?_ ?_ _) | (refine Below.trans ?_ (Below.mono (by assumption) ?_)) | omega | (simp only [World.size_alloc] at *; omega)), (kx.alloc _).alloc _, Blk.new' _ (cutCells x ra ba la rc bc lc ++ [_]) _ (by simp), by (refine (Below.heap_alloc _ _ _ (by simp)).trans (World.alloc_heap_new _ _)), hlt, by omega⟩ hb3); have k6 := ho.kx.cell 6 rfl; clear hb3)
    go_loopw [7, 57, 58, 59, 60, 61, 62, 63, 64, 65, 66, 67, 68, 69, 70, 71, 72, 73, 74, 75] (fun _ v57 _ _ _ _ _ _ _ _ _ _ _ _ _ _ _ _ _ _ wr => ∃ k : Nat, v57 = .int .i64 k ∧ k ≤ x.boats.length ∧ Opened w wr (w1.heap.size + 1) w1.heap.size x ra ba la rc bc lc ∧ Hid (∀ i, i < k → boatOk (Cut.boatAt x.boats i) = true)) (fun _ v57 _ _ _ _ _ _ _ _ _ _ _ _ _ _ _ _ _ _ _ => x.boats.length - (intOf v57).toNat)
    case atStart => exact ⟨0, rfl, by omega, ho, fun i hi => by omega⟩
    case round =>
      clear ho k6 kx c0 c1 c2 c3 c4 c5 c6 c7
      clear hb
      obtain ⟨k, rfl, hk, ho, hno⟩ := hrel
      by_cases hlt' : k < x.boats.length
      · rcases HIN.out.boats with h0 | ⟨bb, off, rfl, hbb, hc⟩
        · omega
        · have hka := hc k 0 hlt' (by omega)
          have hkb := hc k 1 hlt' (by omega)
          have hkc := hc k 2 hlt' (by omega)
          have hkd := hc k 3 hlt' (by omega)
          rw [← ho.bel.cell (p := ⟨bb, _, none⟩) hbb] at hka hkb hkc hkd
          simp [boatCell] at hka hkb hkc hkd
          clear hc
          have hbs : bb < wr.heap.size := Nat.lt_of_lt_of_le hbb ho.bel.size
          cases s1 : Cut.isSpan ((Cut.boatAt x.boats k).draws.1, (Cut.boatAt x.boats k).draws.2) 0 100
          · have hbad : Cut.valid x = false := zdd k hlt' (by unfold boatOk; rw [s1]; rfl)
            go_wp2_with first | (go_at_call 71; refine (ask_no _ _).mono ?_; rintro e w2 ⟨rfl, rfl⟩) | (go_at_call 83; refine (zbh _ _ _ _ _).mono ?_; rintro e w4 ⟨rfl, hb4⟩; rw [s1])
            refine ⟨rfl, OpenPost.bad ?_ hbad⟩
            refine ho.bel.trans (Below.mono ?_ ho.bel.size)
            (repeat' first | (with_reducible assumption) | (with_reducible exact Below.refl _ _) | (with_reducible refine Below.drew ?_) | (with_reducible refine Below.setCell ?_ ?_ _) | (with_reducible refine Below.alloc ?_ ?_ _) | (refine Below.trans ?_ (Below.mono (by assumption) ?_)) | omega | (simp only [World.size_alloc] at *; omega))
          cases s2 : Cut.within (Cut.boatAt x.boats k).per 0 10
          · have hbad : Cut.valid x = false := zdd k hlt' (by unfold boatOk; rw [s1, s2]; rfl)
            go_wp2_with first | (go_at_call 71; refine (ask_no _ _).mono ?_; rintro e w2 ⟨rfl, rfl⟩) | (go_at_call 83; refine (zbh _ _ _ _ _).mono ?_; rintro e w4 ⟨rfl, hb4⟩; rw [s1]; have kl : Blk w4 wr.heap.size 51 (boatCells (Cut.boatAt x.boats k)) := Blk.below (by first | exact Blk.new' _ _ _ rfl) hb4 (by simp); have l2 := kl.cell 2 rfl; have l3 := kl.cell 3 rfl) | (go_at_call 82; refine (zbj _ _ _ _).mono ?_; rintro e w' ⟨rfl, rfl⟩; first | rw [s2] | rw [s3])
            refine ⟨rfl, OpenPost.bad ?_ hbad⟩
            refine ho.bel.trans (Below.mono ?_ ho.bel.size)
            (repeat' first | (with_reducible assumption) | (with_reducible exact Below.refl _ _) | (with_reducible refine Below.drew ?_) | (with_reducible refine Below.setCell ?_ ?_ _) | (with_reducible refine Below.alloc ?_ ?_ _) | (refine Below.trans ?_ (Below.mono (by assumption) ?_)) | omega | (simp only [World.size_alloc] at *; omega))

          cases s3 : Cut.within (Cut.boatAt x.boats k).room 0 10
          · have hbad : Cut.valid x = false := zdd k hlt' (by unfold boatOk; rw [s1, s2, s3]; rfl)
            go_wp2_with first | (go_at_call 71; refine (ask_no _ _).mono ?_; rintro e w2 ⟨rfl, rfl⟩) | (go_at_call 83; refine (zbh _ _ _ _ _).mono ?_; rintro e w4 ⟨rfl, hb4⟩; rw [s1]; have kl : Blk w4 wr.heap.size 51 (boatCells (Cut.boatAt x.boats k)) := Blk.below (by first | exact Blk.new' _ _ _ rfl) hb4 (by simp); have l2 := kl.cell 2 rfl; have l3 := kl.cell 3 rfl) | (go_at_call 82; refine (zbj _ _ _ _).mono ?_; rintro e w' ⟨rfl, rfl⟩; first | rw [s2] | rw [s3])
            refine ⟨rfl, OpenPost.bad ?_ hbad⟩
            refine ho.bel.trans (Below.mono ?_ ho.bel.size)
            (repeat' first | (with_reducible assumption) | (with_reducible exact Below.refl _ _) | (with_reducible refine Below.drew ?_) | (with_reducible refine Below.setCell ?_ ?_ _) | (with_reducible refine Below.alloc ?_ ?_ _) | (refine Below.trans ?_ (Below.mono (by assumption) ?_)) | omega | (simp only [World.size_alloc] at *; omega))

          have hok : boatOk (Cut.boatAt x.boats k) = true := by unfold boatOk; rw [s1, s2, s3]; rfl
          go_wp2_with first | (go_at_call 71; refine (zft _ _).mono ?_; rintro e w2 ⟨rfl, rfl⟩) | (go_at_call 83; refine (zbh _ _ _ _ _).mono ?_; rintro e w4 ⟨rfl, hb4⟩; rw [s1]; have kl : Blk w4 wr.heap.size 51 (boatCells (Cut.boatAt x.boats k)) := Blk.below (by first | exact Blk.new' _ _ _ rfl) hb4 (by simp); have l2 := kl.cell 2 rfl; have l3 := kl.cell 3 rfl) | (go_at_call 82; refine (zbj _ _ _ _).mono ?_; rintro e w' ⟨rfl, rfl⟩; first | rw [s2] | rw [s3])
          refine ⟨⟨k + 1, by go_num, by omega, ho.below ?_, ?_⟩, by simp [intOf]; omega⟩
          · (repeat' first | (with_reducible assumption) | (with_reducible exact Below.refl _ _) | (with_reducible refine Below.drew ?_) | (with_reducible refine Below.setCell ?_ ?_ _) | (with_reducible refine Below.alloc ?_ ?_ _) | (refine Below.trans ?_ (Below.mono (by assumption) ?_)) | omega | (simp only [World.size_alloc] at *; omega))
          · intro i hi
            rcases Nat.lt_succ_iff_lt_or_eq.1 hi with h | rfl
            · exact hno.out i h
            · exact hok
      · have hboats : Hid (x.boats.all boatOk = true) := by
          refine zim x.boats boatOk Cut.nobody fun i hi => hno.out i (by omega)
        have k7 := ho.kx.cell 7 rfl
        clear hno
        go_wp2
        go_loopw [9, 79, 80, 81, 82, 83, 84, 85, 86, 87, 88, 89, 90, 91, 92, 93] (fun _ v79 _ _ _ _ _ _ _ _ _ _ _ _ _ _ wr => ∃ k : Nat, v79 = .int .i64 k ∧ k ≤ x.looks.length ∧ Opened w wr (w1.heap.size + 1) w1.heap.size x ra ba la rc bc lc ∧ Hid (∀ i, i < k → lookOk x (Cut.lookAt x.looks i) = true)) (fun _ v79 _ _ _ _ _ _ _ _ _ _ _ _ _ _ _ => x.looks.length - (intOf v79).toNat)
        case atStart => exact ⟨0, rfl, by omega, ho, fun i hi => by omega⟩
        case round =>
          clear ho k7 hlt' hk
          obtain ⟨k, rfl, hk, ho, hno⟩ := hrel
          have HC := hide (ho.cutAt HIN.out)
          by_cases hlt' : k < x.looks.length
          · rcases HIN.out.looks with h0 | ⟨bb, off, rfl, hbb, hc⟩
            · omega
            · have hka := hc k 0 hlt' (by omega)
              have hkb := hc k 1 hlt' (by omega)
              have hkc := hc k 2 hlt' (by omega)
              rw [← ho.bel.cell (p := ⟨bb, _, none⟩) hbb] at hka hkb hkc
              simp [lookCell] at hka hkb hkc
              clear hc
              have hbs : bb < wr.heap.size := Nat.lt_of_lt_of_le hbb ho.bel.size
              cases s1 : Cut.isDay x (Cut.lookAt x.looks k).day
              · have hbad : Cut.valid x = false := zex k hlt' (by unfold lookOk; rw [s1]; rfl)
                go_wp2_with first | (go_at_call 71; refine (ask_no _ _).mono ?_; rintro e w2 ⟨rfl, rfl⟩) | (go_at_call 83; refine (zbh _ _ _ _ _).mono ?_; rintro e w4 ⟨rfl, hb4⟩; rw [s2]) | (go_at_call 45; refine (zcu _ _ (HC.out.alloc _)).mono ?_; rintro e w' ⟨rfl, rfl⟩; rw [s1])
                refine ⟨rfl, OpenPost.bad ?_ hbad⟩
                refine ho.bel.trans (Below.mono ?_ ho.bel.size)
                (repeat' first | (with_reducible assumption) | (with_reducible exact Below.refl _ _) | (with_reducible refine Below.drew ?_) | (with_reducible refine Below.setCell ?_ ?_ _) | (with_reducible refine Below.alloc ?_ ?_ _) | (refine Below.trans ?_ (Below.mono (by assumption) ?_)) | omega | (simp only [World.size_alloc, World.size_setCell, World.size_drew] at *; omega))

              cases s2 : Cut.isSpan ((Cut.lookAt x.looks k).depth.1, (Cut.lookAt x.looks k).depth.2) 0 100
              · have hbad : Cut.valid x = false := zex k hlt' (by unfold lookOk; rw [s1, s2]; rfl)
                go_wp2_with first | (go_at_call 71; refine (ask_no _ _).mono ?_; rintro e w2 ⟨rfl, rfl⟩) | (go_at_call 83; refine (zbh _ _ _ _ _).mono ?_; rintro e w4 ⟨rfl, hb4⟩; rw [s2]) | (go_at_call 45; refine (zcu _ _ (HC.out.alloc _)).mono ?_; rintro e w' ⟨rfl, rfl⟩; rw [s1])
                refine ⟨rfl, OpenPost.bad ?_ hbad⟩
                refine ho.bel.trans (Below.mono ?_ ho.bel.size)
                (repeat' first | (with_reducible assumption) | (with_reducible exact Below.refl _ _) | (with_reducible refine Below.drew ?_) | (with_reducible refine Below.setCell ?_ ?_ _) | (with_reducible refine Below.alloc ?_ ?_ _) | (refine Below.trans ?_ (Below.mono (by assumption) ?_)) | omega | (simp only [World.size_alloc] at *; omega))

              have hok : lookOk x (Cut.lookAt x.looks k) = true := by unfold lookOk; rw [s1, s2]; rfl
              go_wp2_with first | (go_at_call 71; refine (zft _ _).mono ?_; rintro e w2 ⟨rfl, rfl⟩) | (go_at_call 83; refine (zbh _ _ _ _ _).mono ?_; rintro e w4 ⟨rfl, hb4⟩; rw [s2]) | (go_at_call 45; refine (zcu _ _ (HC.out.alloc _)).mono ?_; rintro e w' ⟨rfl, rfl⟩; rw [s1])
              refine ⟨⟨k + 1, by go_num, by omega, ho.below ?_, ?_⟩, by simp [intOf]; omega⟩
              · (repeat' first | (with_reducible assumption) | (with_reducible exact Below.refl _ _) | (with_reducible refine Below.drew ?_) | (with_reducible refine Below.setCell ?_ ?_ _) | (with_reducible refine Below.alloc ?_ ?_ _) | (refine Below.trans ?_ (Below.mono (by assumption) ?_)) | omega | (simp only [World.size_alloc] at *; omega))
              · intro i hi
                rcases Nat.lt_succ_iff_lt_or_eq.1 hi with h | rfl
                · exact hno.out i h
                · exact hok
          · have hvalid : Hid (Cut.valid x = true) := by
              show Cut.valid x = true
              rw [zcg, HH.out, hr, hboats.out, zim x.looks (lookOk x) Cut.noLook fun i hi => hno.out i (by omega)]; rfl
            clear hno
            obtain ⟨g, fr, rfl, heg, hg⟩ := HIS.out
            have HG := hide hg
            clear hg HIS
            go_wp2_with fail
            refine (HG.out _ _ _ _ _ hvalid.out ho.bel (by omega) (by omega) HC.out).mono ?_
            rintro e w' ⟨rfl, rfl⟩
            clear heg
            have k7 := ho.kx.cell 7 rfl
            cases b
            · go_wp2_with (go_at_call 71; refine (ask_no _ _).mono ?_; rintro e w2 ⟨rfl, rfl⟩)
              exact ⟨rfl, ho.bel, .inr (.inl ⟨hvalid.out, rfl, rfl⟩)⟩
            · go_wp2_with (go_at_call 71; refine (zft _ _).mono ?_; rintro e w2 ⟨rfl, rfl⟩)
              obtain ⟨i0, hi, hz0, hz1, hz2⟩ := info_parts zvm
              have hlk : x.looks.length ≤ 5 := by omega
              have hmk : ∀ w, (Instr.makeSlice 26 (.int .i64 (x.looks.length : Int)) (.int .i64 (x.looks.length : Int))).run Tryd.prog w = .ok (.slice (some ⟨w.heap.size, 0, none⟩) x.looks.length x.looks.length) (w.alloc (.cells (madeCells (Value.agg #[.int .i64 0, .int .i64 0, .int .i64 0]).cells (x.looks.length * 3)).toList.toArray 55)) := fun w => by
                have := zgc (P := Tryd.prog) 26 55 i0 _ Tryd.underlying26 hi hz0 .i64 .i64 x.looks.length (by rw [hz2]; omega) (by omega) w
                rw [hz1] at this; exact this
              generalize hmc : (madeCells (Value.agg #[.int .i64 0, .int .i64 0, .int .i64 0]).cells (x.looks.length * 3)).toList = mc at hmk
              have hml : mc.length = x.looks.length * 3 := by rw [← hmc]; exact zeh _ _
              have hD : Blk (wr.alloc (.cells mc.toArray 55)) wr.heap.size 55 mc := Blk.new _ _ _
              have hcp := zne (P := Tryd.prog) (t := 26) (t2 := 26) (rt := 3) (k := 3) (cap := x.looks.length) (scap := lc) (ra := la) (f := lookCell x.looks) Tryd.underlying26 hi hz1 (by omega) hD hml (Elems2.src (ho.below ((Below.refl _ _).alloc (Nat.le_refl _) (.cells mc.toArray 55))).bel HIN.out.looks) (fun i j hi hj => by unfold lookCell; split <;> (try split) <;> rfl)
              have hl7 : w.heap.size < wr.heap.size := ho.kx.lt
              have hlB := ho.lt
              have hne := ho.hB
              have hD2 : Blk ((wr.alloc (.cells mc.toArray 55)).putObj wr.heap.size (.cells (rowCells 3 (lookCell x.looks) x.looks.length).toArray 55 (0, 0))) wr.heap.size 55 (rowCells 3 (lookCell x.looks) x.looks.length) := Blk.putObj (by simp)
              have hbw : Below wr.heap.size wr ((wr.alloc (.cells mc.toArray 55)).putObj wr.heap.size (.cells (rowCells 3 (lookCell x.looks) x.looks.length).toArray 55 (0, 0))) := ((Below.refl _ _).alloc (Nat.le_refl _) _).trans (Below.putObj (Nat.le_refl _) _)
              have ho2 := ho.below hbw
              have j7 := ho2.kc.cell 7 rfl
              have f7 := ho2.kc.free 7
              have HD := hide hD2
              have HO := hide ho2
              have HBW := hide hbw
              clear hml hmc hD hD2 ho2 hbw
              go_simp
              go_wp2_with fail
              go_ret
              exact OpenPost.good (HO.out.bel.setCell (p := ⟨w1.heap.size + 1, 7, none⟩) (by show w.heap.size ≤ w1.heap.size + 1; omega) _) hvalid.out (by omega) (by omega) (Opened.done HO.out HIN.out HD.out hl7 hlB)
end Go.Proofs.YtlkhjnpflohfeaaDoor

/- Contracts of the small functions of the reference. -/
namespace Go.Proofs.YtlkhjnpflohfeaaDoor
open Go Go.Proofs Go.RowKit

set_option maxHeartbeats 400000 in
theorem zbr (a b c : Int) (w : World) :
    Calls Tryd.prog 80 #[.int .i64 a, .int .i64 b, .int .i64 c] w fun e w' => e = .returned (.bool (Cut.within a b c)) ∧ w = w' := by
  by_cases h : b ≤ a
  · go_enter Tryd.func80, Tryd.ntmps80
    go_wp2
    go_ret
    exact ⟨zca (by grind [Cut.within]), rfl⟩
  · have hd : decide (b ≤ a) = false := by simpa using h
    go_enter Tryd.func80, Tryd.ntmps80
    go_wp2
    go_ret
    exact ⟨zca (by grind [Cut.within]), rfl⟩

set_option maxHeartbeats 400000 in
theorem zbe (a b low high : Int) (w : World) :
    Calls Tryd.prog 81 #[.agg #[.int .i64 a, .int .i64 b], .int .i64 low, .int .i64 high] w fun e w' => e = .returned (.bool (Cut.isSpan (a, b) low high)) ∧ Below w.heap.size w w' := by
  go_enter Tryd.func81, Tryd.ntmps81
  go_wp2
  all_goals go_ret
  all_goals refine ⟨zca ?_, by (repeat' first | (with_reducible assumption) | (with_reducible exact Below.refl _ _) | (with_reducible refine Below.drew ?_) | (with_reducible refine Below.setCell ?_ ?_ _) | (with_reducible refine Below.alloc ?_ ?_ _) | (refine Below.trans ?_ (Below.mono (by assumption) ?_)) | omega | (simp only [World.size_alloc, World.size_setCell, World.size_drew] at *; omega))⟩
  all_goals grind [Cut.isSpan]

set_option maxHeartbeats 400000 in
theorem zhd (x : CutD) (ra ba la : Option Addr) (rc bc lc : Nat) (n : Int) (w : World) (_hn : x.rain.length < 2 ^ 62) :
    Calls Tryd.prog 49 #[cutVal x ra ba la rc bc lc, .int .i64 n] w fun e w' => e = .returned (.bool (Cut.isDay x n)) ∧ Below w.heap.size w w' := by
  unfold cutVal
  go_enter Tryd.func49, Tryd.ntmps49
  go_wp2_with (go_at_call 80; refine (zbr _ _ _ _).mono ?_; rintro e w' ⟨rfl, rfl⟩)
  go_ret
  exact ⟨rfl, by (repeat' first | (with_reducible assumption) | (with_reducible exact Below.refl _ _) | (with_reducible refine Below.drew ?_) | (with_reducible refine Below.setCell ?_ ?_ _) | (with_reducible refine Below.alloc ?_ ?_ _) | (refine Below.trans ?_ (Below.mono (by assumption) ?_)) | omega | (simp only [World.size_alloc, World.size_setCell, World.size_drew] at *; omega))⟩

theorem zot {x : CutD} (h : headOf x = false) : Cut.valid x = false := by rw [zcg, h]; rfl
theorem zym {l : List (Int × Int)} {i : Nat} (hi : i < l.length) (h : Cut.isSpan ((Cut.spanAt l i).1, (Cut.spanAt l i).2) 0 30 = false) : rainBad l = true :=
  (zea l).2 ⟨i, hi, by unfold badAt; rw [show Cut.spanAt l i = ((Cut.spanAt l i).1, (Cut.spanAt l i).2) from rfl, h]; rfl⟩
theorem zum {l : List (Int × Int)} (h : ∀ i, i < l.length → Cut.isSpan ((Cut.spanAt l i).1, (Cut.spanAt l i).2) 0 30 = true) : rainBad l = false := by
  rw [← Bool.not_eq_true, zea]
  rintro ⟨i, hi, hb⟩
  have := h i hi
  unfold badAt at hb
  rw [show Cut.spanAt l i = ((Cut.spanAt l i).1, (Cut.spanAt l i).2) from rfl, this] at hb
  cases hb
end Go.Proofs.YtlkhjnpflohfeaaDoor

/- The contract of the reference's check. -/
namespace Go.Proofs.YtlkhjnpflohfeaaDoor
open Go Go.Proofs Go.RowKit

set_option maxHeartbeats 2000000 in
theorem zpf (x : CutD) (ra ba la : Option Addr) (rc bc lc : Nat) (w : World) (hbad : headOf x = false) :
    Calls Tryd.prog 35 #[cutVal x ra ba la rc bc lc] w fun e w' => e = .returned (.bool false) ∧ Below w.heap.size w w' := by
  unfold headOf at hbad
  rw [show x.depth = (x.depth.1, x.depth.2) from rfl, show x.leak = (x.leak.1, x.leak.2) from rfl] at hbad
  unfold cutVal
  cases h1 : Cut.within x.rain.length 1 8
  · clear hbad
    go_enter Tryd.func35, Tryd.ntmps35
    go_wp2_with first | (go_at_call 80; refine (zbr _ _ _ _).mono ?_; rintro e w' ⟨rfl, rfl⟩; first | rw [h1] | rw [h2]) | (go_at_call 81; refine (zbe _ _ _ _ _).mono ?_; rintro e w1 ⟨rfl, hb⟩; have kx : Blk w1 w.heap.size 28 (cutCells x ra ba la rc bc lc) := Blk.below (by first | assumption | exact Blk.new _ _ _) hb (by first | assumption | simp); have hlt := kx.lt; have c0 := kx.cell 0 rfl; have c1 := kx.cell 1 rfl; have c2 := kx.cell 2 rfl; have c3 := kx.cell 3 rfl; have c4 := kx.cell 4 rfl; have c5 := kx.cell 5 rfl; have c6 := kx.cell 6 rfl; have c7 := kx.cell 7 rfl; first | rw [h3] | rw [h4])
    go_ret
    exact ⟨rfl, by (repeat' first | (with_reducible assumption) | (with_reducible exact Below.refl _ _) | (with_reducible refine Below.drew ?_) | (with_reducible refine Below.setCell ?_ ?_ _) | (with_reducible refine Below.alloc ?_ ?_ _) | (refine Below.trans ?_ (Below.mono (by assumption) ?_)) | omega | (simp only [World.size_alloc, World.size_setCell, World.size_drew] at *; omega))⟩
  cases h2 : Cut.within x.most 1 100
  · clear hbad
    go_enter Tryd.func35, Tryd.ntmps35
    go_wp2_with first | (go_at_call 80; refine (zbr _ _ _ _).mono ?_; rintro e w' ⟨rfl, rfl⟩; first | rw [h1] | rw [h2]) | (go_at_call 81; refine (zbe _ _ _ _ _).mono ?_; rintro e w1 ⟨rfl, hb⟩; have kx : Blk w1 w.heap.size 28 (cutCells x ra ba la rc bc lc) := Blk.below (by first | assumption | exact Blk.new _ _ _) hb (by first | assumption | simp); have hlt := kx.lt; have c0 := kx.cell 0 rfl; have c1 := kx.cell 1 rfl; have c2 := kx.cell 2 rfl; have c3 := kx.cell 3 rfl; have c4 := kx.cell 4 rfl; have c5 := kx.cell 5 rfl; have c6 := kx.cell 6 rfl; have c7 := kx.cell 7 rfl; first | rw [h3] | rw [h4])
    go_ret
    exact ⟨rfl, by (repeat' first | (with_reducible assumption) | (with_reducible exact Below.refl _ _) | (with_reducible refine Below.drew ?_) | (with_reducible refine Below.setCell ?_ ?_ _) | (with_reducible refine Below.alloc ?_ ?_ _) | (refine Below.trans ?_ (Below.mono (by assumption) ?_)) | omega | (simp only [World.size_alloc, World.size_setCell, World.size_drew] at *; omega))⟩
  cases h3 : Cut.isSpan (x.depth.1, x.depth.2) 0 x.most
  · clear hbad
    go_enter Tryd.func35, Tryd.ntmps35
    go_wp2_with first | (go_at_call 80; refine (zbr _ _ _ _).mono ?_; rintro e w' ⟨rfl, rfl⟩; first | rw [h1] | rw [h2]) | (go_at_call 81; refine (zbe _ _ _ _ _).mono ?_; rintro e w1 ⟨rfl, hb⟩; have kx : Blk w1 w.heap.size 28 (cutCells x ra ba la rc bc lc) := Blk.below (by first | assumption | exact Blk.new _ _ _) hb (by first | assumption | simp); have hlt := kx.lt; have c0 := kx.cell 0 rfl; have c1 := kx.cell 1 rfl; have c2 := kx.cell 2 rfl; have c3 := kx.cell 3 rfl; have c4 := kx.cell 4 rfl; have c5 := kx.cell 5 rfl; have c6 := kx.cell 6 rfl; have c7 := kx.cell 7 rfl; first | rw [h3] | rw [h4])
    go_ret
    exact ⟨rfl, by (repeat' first | (with_reducible assumption) | (with_reducible exact Below.refl _ _) | (with_reducible refine Below.drew ?_) | (with_reducible refine Below.setCell ?_ ?_ _) | (with_reducible refine Below.alloc ?_ ?_ _) | (refine Below.trans ?_ (Below.mono (by assumption) ?_)) | omega | (simp only [World.size_alloc] at *; omega))⟩
  cases h4 : Cut.isSpan (x.leak.1, x.leak.2) 0 10
  · clear hbad
    go_enter Tryd.func35, Tryd.ntmps35
    go_wp2_with first | (go_at_call 80; refine (zbr _ _ _ _).mono ?_; rintro e w' ⟨rfl, rfl⟩; first | rw [h1] | rw [h2]) | (go_at_call 81; refine (zbe _ _ _ _ _).mono ?_; rintro e w1 ⟨rfl, hb⟩; have kx : Blk w1 w.heap.size 28 (cutCells x ra ba la rc bc lc) := Blk.below (by first | assumption | exact Blk.new _ _ _) hb (by first | assumption | simp); have hlt := kx.lt; have c0 := kx.cell 0 rfl; have c1 := kx.cell 1 rfl; have c2 := kx.cell 2 rfl; have c3 := kx.cell 3 rfl; have c4 := kx.cell 4 rfl; have c5 := kx.cell 5 rfl; have c6 := kx.cell 6 rfl; have c7 := kx.cell 7 rfl; first | rw [h3] | rw [h4])
    go_ret
    exact ⟨rfl, by (repeat' first | (with_reducible assumption) | (with_reducible exact Below.refl _ _) | (with_reducible refine Below.drew ?_) | (with_reducible refine Below.setCell ?_ ?_ _) | (with_reducible refine Below.alloc ?_ ?_ _) | (refine Below.trans ?_ (Below.mono (by assumption) ?_)) | omega | (simp only [World.size_alloc] at *; omega))⟩
  cases h5 : decide ((x.boats.length : Int) ≤ 4)
  · clear hbad
    have g5 := of_decide_eq_false h5
    rw [Int.not_le] at g5
    go_enter Tryd.func35, Tryd.ntmps35
    go_wp2_with first | (go_at_call 80; refine (zbr _ _ _ _).mono ?_; rintro e w' ⟨rfl, rfl⟩; first | rw [h1] | rw [h2]) | (go_at_call 81; refine (zbe _ _ _ _ _).mono ?_; rintro e w1 ⟨rfl, hb⟩; have kx : Blk w1 w.heap.size 28 (cutCells x ra ba la rc bc lc) := Blk.below (by first | assumption | exact Blk.new _ _ _) hb (by first | assumption | simp); have hlt := kx.lt; have c0 := kx.cell 0 rfl; have c1 := kx.cell 1 rfl; have c2 := kx.cell 2 rfl; have c3 := kx.cell 3 rfl; have c4 := kx.cell 4 rfl; have c5 := kx.cell 5 rfl; have c6 := kx.cell 6 rfl; have c7 := kx.cell 7 rfl; first | rw [h3] | rw [h4])
    go_ret
    exact ⟨rfl, by (repeat' first | (with_reducible assumption) | (with_reducible exact Below.refl _ _) | (with_reducible refine Below.drew ?_) | (with_reducible refine Below.setCell ?_ ?_ _) | (with_reducible refine Below.alloc ?_ ?_ _) | (refine Below.trans ?_ (Below.mono (by assumption) ?_)) | omega | (simp only [World.size_alloc] at *; omega))⟩
  cases h6 : decide ((x.looks.length : Int) ≤ 5)
  · clear hbad
    have g5 := of_decide_eq_true h5
    have g6 := of_decide_eq_false h6
    rw [Int.not_le] at g6
    go_enter Tryd.func35, Tryd.ntmps35
    go_wp2_with first | (go_at_call 80; refine (zbr _ _ _ _).mono ?_; rintro e w' ⟨rfl, rfl⟩; first | rw [h1] | rw [h2]) | (go_at_call 81; refine (zbe _ _ _ _ _).mono ?_; rintro e w1 ⟨rfl, hb⟩; have kx : Blk w1 w.heap.size 28 (cutCells x ra ba la rc bc lc) := Blk.below (by first | assumption | exact Blk.new _ _ _) hb (by first | assumption | simp); have hlt := kx.lt; have c0 := kx.cell 0 rfl; have c1 := kx.cell 1 rfl; have c2 := kx.cell 2 rfl; have c3 := kx.cell 3 rfl; have c4 := kx.cell 4 rfl; have c5 := kx.cell 5 rfl; have c6 := kx.cell 6 rfl; have c7 := kx.cell 7 rfl; first | rw [h3] | rw [h4])
    go_ret
    exact ⟨rfl, by (repeat' first | (with_reducible assumption) | (with_reducible exact Below.refl _ _) | (with_reducible refine Below.drew ?_) | (with_reducible refine Below.setCell ?_ ?_ _) | (with_reducible refine Below.alloc ?_ ?_ _) | (refine Below.trans ?_ (Below.mono (by assumption) ?_)) | omega | (simp only [World.size_alloc] at *; omega))⟩
  rw [h1, h2, h3, h4, h5, h6] at hbad
  cases hbad

set_option maxHeartbeats 4000000 in
set_option maxRecDepth 100000 in
theorem zsc (x : CutD) (ra ba la : Option Addr) (rc bc lc : Nat) (w : World) (hin : CutIn w x ra ba la) :
    Calls Tryd.prog 35 #[cutVal x ra ba la rc bc lc] w fun e w' => e = .returned (.bool (Cut.valid x)) ∧ Below w.heap.size w w' := by
  cases hhead : headOf x
  · rw [zot hhead]; exact zpf x ra ba la rc bc lc w hhead
  have HIN := hide hin
  have HH := hide hhead
  clear hin
  unfold headOf at hhead
  rw [show x.depth = (x.depth.1, x.depth.2) from rfl, show x.leak = (x.leak.1, x.leak.2) from rfl] at hhead
  simp only [Bool.and_eq_true] at hhead
  obtain ⟨⟨⟨⟨⟨h1, h2⟩, h3⟩, h4⟩, h5⟩, h6⟩ := hhead
  have g5 := of_decide_eq_true h5
  have g6 := of_decide_eq_true h6
  have HN : Hid (1 ≤ x.rain.length ∧ x.rain.length ≤ 8 ∧ x.boats.length ≤ 4 ∧ x.looks.length ≤ 5) := by
    simp only [Cut.within, Bool.and_eq_true, decide_eq_true_eq] at h1; exact ⟨by omega, by omega, by omega, by omega⟩
  unfold cutVal
  go_enter Tryd.func35, Tryd.ntmps35
  go_wp2_with first | (go_at_call 80; refine (zbr _ _ _ _).mono ?_; rintro e w' ⟨rfl, rfl⟩; first | rw [h1] | rw [h2]) | (go_at_call 81; refine (zbe _ _ _ _ _).mono ?_; rintro e w1 ⟨rfl, hb⟩; have kx : Blk w1 w.heap.size 28 (cutCells x ra ba la rc bc lc) := Blk.below (by first | assumption | exact Blk.new _ _ _) hb (by first | assumption | simp); have hlt := kx.lt; have c0 := kx.cell 0 rfl; have c1 := kx.cell 1 rfl; have c2 := kx.cell 2 rfl; have c3 := kx.cell 3 rfl; have c4 := kx.cell 4 rfl; have c5 := kx.cell 5 rfl; have c6 := kx.cell 6 rfl; have c7 := kx.cell 7 rfl; first | rw [h3] | rw [h4])
  have hn8 := HN.out
  have hb0 : Below w.heap.size w w1 := by (repeat' first | (with_reducible assumption) | (with_reducible exact Below.refl _ _) | (with_reducible refine Below.drew ?_) | (with_reducible refine Below.setCell ?_ ?_ _) | (with_reducible refine Below.alloc ?_ ?_ _) | (refine Below.trans ?_ (Below.mono (by assumption) ?_)) | omega | (simp only [World.size_alloc] at *; omega))
  clear h1 h2 h3 h4 h5 h6 g5 g6 c0 c1 c2 c3 c4 c5 c6 c7 hb
  go_loopw [3, 44, 45, 46, 47, 48, 49, 50, 51, 52, 53, 54, 55, 56, 57] (fun v3 _ _ _ _ _ _ _ _ _ _ _ _ _ _ wr => ∃ k : Nat, v3 = .int .i64 k ∧ k ≤ x.rain.length ∧ Below w.heap.size w wr ∧ Blk wr w.heap.size 28 (cutCells x ra ba la rc bc lc) ∧ Hid (∀ i, i < k → Cut.isSpan ((Cut.spanAt x.rain i).1, (Cut.spanAt x.rain i).2) 0 30 = true)) (fun v3 _ _ _ _ _ _ _ _ _ _ _ _ _ _ _ => x.rain.length - (intOf v3).toNat)
  case atStart => exact ⟨0, rfl, by omega, hb0, kx, fun i hi => by omega⟩
  case round =>
    clear hb0 kx hlt
    obtain ⟨k, rfl, hk, hb0, kx, hno⟩ := hrel
    have hlt := kx.lt
    have c4 := kx.cell 4 rfl
    by_cases hlt' : k < x.rain.length
    · rcases HIN.out.rain with h0 | ⟨bb, off, rfl, hbb, hc⟩
      · omega
      · have hka := hc k 0 hlt' (by omega)
        have hkb := hc k 1 hlt' (by omega)
        rw [← hb0.cell (p := ⟨bb, _, none⟩) hbb] at hka hkb
        simp [spanCell] at hka hkb
        clear hc
        cases s1 : Cut.isSpan ((Cut.spanAt x.rain k).1, (Cut.spanAt x.rain k).2) 0 30
        · have hbad : Cut.valid x = false := zkd (zym hlt' s1)
          go_wp2_with (go_at_call 81; refine (zbe _ _ _ _ _).mono ?_; rintro e w4 ⟨rfl, hb4⟩; rw [s1])
          go_ret
          refine ⟨by rw [hbad]; rfl, ?_⟩
          refine hb0.trans (Below.mono ?_ hb0.size)
          (repeat' first | (with_reducible assumption) | (with_reducible exact Below.refl _ _) | (with_reducible refine Below.drew ?_) | (with_reducible refine Below.setCell ?_ ?_ _) | (with_reducible refine Below.alloc ?_ ?_ _) | (refine Below.trans ?_ (Below.mono (by assumption) ?_)) | omega | (simp only [World.size_alloc, World.size_setCell, World.size_drew] at *; omega))
        · go_wp2_with (go_at_call 81; refine (zbe _ _ _ _ _).mono ?_; rintro e w4 ⟨rfl, hb4⟩; rw [s1])
          have hb5 : Below wr.heap.size wr w4 := by (repeat' first | (with_reducible assumption) | (with_reducible exact Below.refl _ _) | (with_reducible refine Below.drew ?_) | (with_reducible refine Below.setCell ?_ ?_ _) | (with_reducible refine Below.alloc ?_ ?_ _) | (refine Below.trans ?_ (Below.mono (by assumption) ?_)) | omega | (simp only [World.size_alloc, World.size_setCell, World.size_drew] at *; omega))
          refine ⟨⟨k + 1, by go_num, by omega, hb0.trans (hb5.mono hb0.size), kx.below hb5 hlt, ?_⟩, by simp [intOf]; omega⟩
          intro i hi
          rcases Nat.lt_succ_iff_lt_or_eq.1 hi with h | rfl
          · exact hno.out i h
          · exact s1
    · have hr : Hid (rainBad x.rain = false) := zum fun i hi => hno.out i (by omega)
      have c6 := kx.cell 6 rfl
      clear hno
      go_wp2
      clear hlt' hk
      go_loopw [4, 5, 58, 59, 60, 61, 62, 63, 64, 65, 66, 67, 68, 69, 70, 71, 72, 73, 74, 75, 76, 77, 78, 79, 80, 81, 82, 83, 84, 85] (fun v4 _ _ _ _ _ _ _ _ _ _ _ _ _ _ _ _ _ _ _ _ _ _ _ _ _ _ _ _ _ wr => ∃ k : Nat, v4 = .int .i64 k ∧ k ≤ x.boats.length ∧ Below w.heap.size w wr ∧ Blk wr w.heap.size 28 (cutCells x ra ba la rc bc lc) ∧ Hid (∀ i, i < k → boatOk (Cut.boatAt x.boats i) = true)) (fun v4 _ _ _ _ _ _ _ _ _ _ _ _ _ _ _ _ _ _ _ _ _ _ _ _ _ _ _ _ _ _ => x.boats.length - (intOf v4).toNat)
      case atStart => exact ⟨0, rfl, by omega, hb0, kx, fun i hi => by omega⟩
      case round =>
        clear hb0 kx hlt c4 c6
        obtain ⟨k, rfl, hk, hb0, kx, hno⟩ := hrel
        have hlt := kx.lt
        have c6 := kx.cell 6 rfl
        by_cases hlt' : k < x.boats.length
        · rcases HIN.out.boats with h0 | ⟨bb, off, rfl, hbb, hc⟩
          · omega
          · have hka := hc k 0 hlt' (by omega)
            have hkb := hc k 1 hlt' (by omega)
            have hkc := hc k 2 hlt' (by omega)
            have hkd := hc k 3 hlt' (by omega)
            rw [← hb0.cell (p := ⟨bb, _, none⟩) hbb] at hka hkb hkc hkd
            simp [boatCell] at hka hkb hkc hkd
            clear hc
            have hbs : bb < wr.heap.size := Nat.lt_of_lt_of_le hbb hb0.size
            cases s1 : Cut.isSpan ((Cut.boatAt x.boats k).draws.1, (Cut.boatAt x.boats k).draws.2) 0 100
            · have hbad : Cut.valid x = false := zdd k hlt' (by unfold boatOk; rw [s1]; rfl)
              go_wp2_with first | (go_at_call 81; refine (zbe _ _ _ _ _).mono ?_; rintro e w4 ⟨rfl, hb4⟩; rw [s1]; have kl : Blk w4 wr.heap.size 51 (boatCells (Cut.boatAt x.boats k)) := Blk.below (by first | exact Blk.new' _ _ _ rfl) hb4 (by simp); have l2 := kl.cell 2 rfl; have l3 := kl.cell 3 rfl) | (go_at_call 80; refine (zbr _ _ _ _).mono ?_; rintro e w' ⟨rfl, rfl⟩; first | rw [s2] | rw [s3])
              go_ret
              refine ⟨by rw [hbad]; rfl, ?_⟩
              refine hb0.trans (Below.mono ?_ hb0.size)
              (repeat' first | (with_reducible assumption) | (with_reducible exact Below.refl _ _) | (with_reducible refine Below.drew ?_) | (with_reducible refine Below.setCell ?_ ?_ _) | (with_reducible refine Below.alloc ?_ ?_ _) | (refine Below.trans ?_ (Below.mono (by assumption) ?_)) | omega | (simp only [World.size_alloc] at *; omega))
            cases s2 : Cut.within (Cut.boatAt x.boats k).per 0 10
            · have hbad : Cut.valid x = false := zdd k hlt' (by unfold boatOk; rw [s1, s2]; rfl)
              go_wp2_with first | (go_at_call 81; refine (zbe _ _ _ _ _).mono ?_; rintro e w4 ⟨rfl, hb4⟩; rw [s1]; have kl : Blk w4 wr.heap.size 51 (boatCells (Cut.boatAt x.boats k)) := Blk.below (by first | exact Blk.new' _ _ _ rfl) hb4 (by simp); have l2 := kl.cell 2 rfl; have l3 := kl.cell 3 rfl) | (go_at_call 80; refine (zbr _ _ _ _).mono ?_; rintro e w' ⟨rfl, rfl⟩; first | rw [s2] | rw [s3])
              go_ret
              refine ⟨by rw [hbad]; rfl, ?_⟩
              refine hb0.trans (Below.mono ?_ hb0.size)
              (repeat' first | (with_reducible assumption) | (with_reducible exact Below.refl _ _) | (with_reducible refine Below.drew ?_) | (with_reducible refine Below.setCell ?_ ?_ _) | (with_reducible refine Below.alloc ?_ ?_ _) | (refine Below.trans ?_ (Below.mono (by assumption) ?_)) | omega | (simp only [World.size_alloc] at *; omega))
            cases s3 : Cut.within (Cut.boatAt x.boats k).room 0 10
            · have hbad : Cut.valid x = false := zdd k hlt' (by unfold boatOk; rw [s1, s2, s3]; rfl)
              go_wp2_with first | (go_at_call 81; refine (zbe _ _ _ _ _).mono ?_; rintro e w4 ⟨rfl, hb4⟩; rw [s1]; have kl : Blk w4 wr.heap.size 51 (boatCells (Cut.boatAt x.boats k)) := Blk.below (by first | exact Blk.new' _ _ _ rfl) hb4 (by simp); have l2 := kl.cell 2 rfl; have l3 := kl.cell 3 rfl) | (go_at_call 80; refine (zbr _ _ _ _).mono ?_; rintro e w' ⟨rfl, rfl⟩; first | rw [s2] | rw [s3])
              go_ret
              refine ⟨by rw [hbad]; rfl, ?_⟩
              refine hb0.trans (Below.mono ?_ hb0.size)
              (repeat' first | (with_reducible assumption) | (with_reducible exact Below.refl _ _) | (with_reducible refine Below.drew ?_) | (with_reducible refine Below.setCell ?_ ?_ _) | (with_reducible refine Below.alloc ?_ ?_ _) | (refine Below.trans ?_ (Below.mono (by assumption) ?_)) | omega | (simp only [World.size_alloc] at *; omega))
            have hok : boatOk (Cut.boatAt x.boats k) = true := by unfold boatOk; rw [s1, s2, s3]; rfl
            go_wp2_with first | (go_at_call 81; refine (zbe _ _ _ _ _).mono ?_; rintro e w4 ⟨rfl, hb4⟩; rw [s1]; have kl : Blk w4 wr.heap.size 51 (boatCells (Cut.boatAt x.boats k)) := Blk.below (by first | exact Blk.new' _ _ _ rfl) hb4 (by simp); have l2 := kl.cell 2 rfl; have l3 := kl.cell 3 rfl) | (go_at_call 80; refine (zbr _ _ _ _).mono ?_; rintro e w' ⟨rfl, rfl⟩; first | rw [s2] | rw [s3])
            have hb5 : Below wr.heap.size wr w4 := by (repeat' first | (with_reducible assumption) | (with_reducible exact Below.refl _ _) | (with_reducible refine Below.drew ?_) | (with_reducible refine Below.setCell ?_ ?_ _) | (with_reducible refine Below.alloc ?_ ?_ _) | (refine Below.trans ?_ (Below.mono (by assumption) ?_)) | omega | (simp only [World.size_alloc] at *; omega))
            refine ⟨⟨k + 1, by go_num, by omega, hb0.trans (hb5.mono hb0.size), kx.below hb5 hlt, ?_⟩, by simp [intOf]; omega⟩
            intro i hi
            rcases Nat.lt_succ_iff_lt_or_eq.1 hi with h | rfl
            · exact hno.out i h
            · exact hok
        · have hboats : Hid (x.boats.all boatOk = true) := zim x.boats boatOk Cut.nobody fun i hi => hno.out i (by omega)
          have c7 := kx.cell 7 rfl
          clear hno
          go_wp2
          clear hlt' hk
          go_loopw [6, 86, 87, 88, 89, 90, 91, 92, 93, 94, 95, 96, 97, 98, 99, 100, 101, 102, 103, 104, 105, 106, 107, 108, 109, 110, 111] (fun v6 _ _ _ _ _ _ _ _ _ _ _ _ _ _ _ _ _ _ _ _ _ _ _ _ _ _ wr => ∃ k : Nat, v6 = .int .i64 k ∧ k ≤ x.looks.length ∧ Below w.heap.size w wr ∧ Blk wr w.heap.size 28 (cutCells x ra ba la rc bc lc) ∧ Hid (∀ i, i < k → lookOk x (Cut.lookAt x.looks i) = true)) (fun v6 _ _ _ _ _ _ _ _ _ _ _ _ _ _ _ _ _ _ _ _ _ _ _ _ _ _ _ => x.looks.length - (intOf v6).toNat)
          case atStart => exact ⟨0, rfl, by omega, hb0, kx, fun i hi => by omega⟩
          case round =>
            clear hb0 kx hlt c6 c7
            obtain ⟨k, rfl, hk, hb0, kx, hno⟩ := hrel
            have hlt := kx.lt
            have c7 := kx.cell 7 rfl
            by_cases hlt' : k < x.looks.length
            · rcases HIN.out.looks with h0 | ⟨bb, off, rfl, hbb, hc⟩
              · omega
              · have hka := hc k 0 hlt' (by omega)
                have hkb := hc k 1 hlt' (by omega)
                have hkc := hc k 2 hlt' (by omega)
                rw [← hb0.cell (p := ⟨bb, _, none⟩) hbb] at hka hkb hkc
                simp [lookCell] at hka hkb hkc
                clear hc
                have hbs : bb < wr.heap.size := Nat.lt_of_lt_of_le hbb hb0.size
                have HKX := hide kx
                have c0 := kx.cell 0 rfl
                have c1 := kx.cell 1 rfl
                have c2 := kx.cell 2 rfl
                have c3 := kx.cell 3 rfl
                have c4 := kx.cell 4 rfl
                have c5 := kx.cell 5 rfl
                have c6 := kx.cell 6 rfl
                have hn62 : x.rain.length < 2 ^ 62 := by omega
                clear kx
                cases s1 : Cut.isDay x (Cut.lookAt x.looks k).day
                · skip
                  go_wp2_with fail
                  have hcl : ∃ s : Cls (Below (wr.heap.size) (wr)), (wr).drew = s.W := ⟨⟨_, (Below.refl _ _).drew⟩, rfl⟩
                  have hne : Nonempty (Cls (Below (wr.heap.size) (wr))) := ⟨⟨_, Below.refl _ _⟩⟩
                  have hS : ∀ (s : Cls (Below (wr.heap.size) (wr))) (b o : Nat), b < wr.heap.size → s.W.cell? ⟨b, o, none⟩ = (wr).cell? ⟨b, o, none⟩ := fun s b o h => s.ok.cell (p := ⟨b, o, none⟩) h
                  have hSf : ∀ (s : Cls (Below (wr.heap.size) (wr))) (b o : Nat), b < wr.heap.size → s.W.frozen? ⟨b, o, none⟩ = (wr).frozen? ⟨b, o, none⟩ := fun s b o h => s.ok.frozen (p := ⟨b, o, none⟩) h
                  refine zbp (S := Cls (Below wr.heap.size wr)) Cls.W (by kernel_rfl) (by kernel_rfl) hcl ?_
                  clear hcl
                  repeat (go_big_quiet_step ((first | (go_at_call 49; refine (zhd x _ _ _ _ _ _ _ _ hn62).mono ?_; rintro e w2 ⟨rfl, hb⟩; rw [s1]; exact ⟨rfl, Cls.step _ (Nat.le_refl _) hb⟩) | (go_at_call 81; refine (zbe _ _ _ _ _).mono ?_; rintro e w2 ⟨rfl, hb⟩; rw [s2]; exact ⟨rfl, Cls.step _ (Nat.le_refl _) hb⟩))))
                  refine wpQuiet_nil ?_
                  intro s'
                  go_wp2
                  go_ret
                  exact ⟨by rw [show Cut.valid x = false from zex k hlt' (by unfold lookOk; rw [s1]; rfl)]; rfl, hb0.trans (s'.ok.mono hb0.size)⟩
                · cases s2 : Cut.isSpan ((Cut.lookAt x.looks k).depth.1, (Cut.lookAt x.looks k).depth.2) 0 100
                  · skip
                    go_wp2_with fail
                    have hcl : ∃ s : Cls (Below (wr.heap.size) (wr)), (wr).drew = s.W := ⟨⟨_, (Below.refl _ _).drew⟩, rfl⟩
                    have hne : Nonempty (Cls (Below (wr.heap.size) (wr))) := ⟨⟨_, Below.refl _ _⟩⟩
                    have hS : ∀ (s : Cls (Below (wr.heap.size) (wr))) (b o : Nat), b < wr.heap.size → s.W.cell? ⟨b, o, none⟩ = (wr).cell? ⟨b, o, none⟩ := fun s b o h => s.ok.cell (p := ⟨b, o, none⟩) h
                    have hSf : ∀ (s : Cls (Below (wr.heap.size) (wr))) (b o : Nat), b < wr.heap.size → s.W.frozen? ⟨b, o, none⟩ = (wr).frozen? ⟨b, o, none⟩ := fun s b o h => s.ok.frozen (p := ⟨b, o, none⟩) h
                    refine zbp (S := Cls (Below wr.heap.size wr)) Cls.W (by kernel_rfl) (by kernel_rfl) hcl ?_
                    clear hcl
                    repeat (go_big_quiet_step ((first | (go_at_call 49; refine (zhd x _ _ _ _ _ _ _ _ hn62).mono ?_; rintro e w2 ⟨rfl, hb⟩; rw [s1]; exact ⟨rfl, Cls.step _ (Nat.le_refl _) hb⟩) | (go_at_call 81; refine (zbe _ _ _ _ _).mono ?_; rintro e w2 ⟨rfl, hb⟩; rw [s2]; exact ⟨rfl, Cls.step _ (Nat.le_refl _) hb⟩))))
                    refine wpQuiet_nil ?_
                    intro s'
                    go_wp2
                    go_ret
                    exact ⟨by rw [show Cut.valid x = false from zex k hlt' (by unfold lookOk; rw [s1, s2]; rfl)]; rfl, hb0.trans (s'.ok.mono hb0.size)⟩
                  · skip
                    go_wp2_with fail
                    have hcl : ∃ s : Cls (Below (wr.heap.size) (wr)), (wr).drew = s.W := ⟨⟨_, (Below.refl _ _).drew⟩, rfl⟩
                    have hne : Nonempty (Cls (Below (wr.heap.size) (wr))) := ⟨⟨_, Below.refl _ _⟩⟩
                    have hS : ∀ (s : Cls (Below (wr.heap.size) (wr))) (b o : Nat), b < wr.heap.size → s.W.cell? ⟨b, o, none⟩ = (wr).cell? ⟨b, o, none⟩ := fun s b o h => s.ok.cell (p := ⟨b, o, none⟩) h
                    have hSf : ∀ (s : Cls (Below (wr.heap.size) (wr))) (b o : Nat), b < wr.heap.size → s.W.frozen? ⟨b, o, none⟩ = (wr).frozen? ⟨b, o, none⟩ := fun s b o h => s.ok.frozen (p := ⟨b, o, none⟩) h
                    refine zbp (S := Cls (Below wr.heap.size wr)) Cls.W (by kernel_rfl) (by kernel_rfl) hcl ?_
                    clear hcl
                    repeat (go_big_quiet_step ((first | (go_at_call 49; refine (zhd x _ _ _ _ _ _ _ _ hn62).mono ?_; rintro e w2 ⟨rfl, hb⟩; rw [s1]; exact ⟨rfl, Cls.step _ (Nat.le_refl _) hb⟩) | (go_at_call 81; refine (zbe _ _ _ _ _).mono ?_; rintro e w2 ⟨rfl, hb⟩; rw [s2]; exact ⟨rfl, Cls.step _ (Nat.le_refl _) hb⟩))))
                    refine wpQuiet_nil ?_
                    intro s'
                    go_wp2
                    refine ⟨⟨k + 1, by go_num, by omega, hb0.trans (s'.ok.mono hb0.size), HKX.out.below s'.ok hlt, ?_⟩, by simp [intOf]; omega⟩
                    intro i hi
                    rcases Nat.lt_succ_iff_lt_or_eq.1 hi with h | rfl
                    · exact hno.out i h
                    · show lookOk x _ = true; unfold lookOk; rw [s1, s2]; rfl
            · have hvalid : Hid (Cut.valid x = true) := by
                show Cut.valid x = true
                rw [zcg, HH.out, hr.out, hboats.out, zim x.looks (lookOk x) Cut.noLook fun i hi => hno.out i (by omega)]; rfl
              clear hno
              go_wp2
              go_ret
              exact ⟨by rw [hvalid.out]; rfl, hb0⟩
end Go.Proofs.YtlkhjnpflohfeaaDoor

/- Contracts of the small functions of the law package. -/
namespace Go.Proofs.YtlkhjnpflohfeaaDoor
open Go Go.Proofs Go.RowKit
attribute [local go_sem ↓] zbu zbt

set_option maxHeartbeats 400000 in
theorem zbl (a b : Int) (w : World) :
    Calls Tryd.prog 36 #[.int .i64 a, .int .i64 b] w fun e w' => e = .returned (.agg #[.int .i64 a, .int .i64 b]) ∧ Below w.heap.size w w' := by
  go_enter Tryd.func36, Tryd.ntmps36
  go_wp2
  refine bodyPost_ret (by simp [results, Tryd.results36, go_sem, *]) rfl ⟨rfl, ?_⟩
  (repeat' first | (with_reducible assumption) | (with_reducible exact Below.refl _ _) | (with_reducible refine Below.drew ?_) | (with_reducible refine Below.setCell ?_ ?_ _) | (with_reducible refine Below.alloc ?_ ?_ _) | (refine Below.trans ?_ (Below.mono (by assumption) ?_)) | omega | (simp only [World.size_alloc, World.size_setCell, World.size_drew] at *; omega))

set_option maxHeartbeats 400000 in
theorem zfm (d a b : Int) (w : World) :
    Calls Tryd.prog 37 #[.int .i64 d, .int .i64 a, .int .i64 b] w fun e w' => e = .returned (.agg #[.int .i64 d, .int .i64 a, .int .i64 b]) ∧ Below w.heap.size w w' := by
  go_enter Tryd.func37, Tryd.ntmps37
  go_wp2_with (go_at_call 36; refine (zbl _ _ _).mono ?_; rintro e w' ⟨rfl, hb⟩; obtain ⟨hc, hf⟩ := bcell hb; have hz := hb.size; simp at hz)
  refine bodyPost_ret (v := .agg #[.int .i64 d, .int .i64 a, .int .i64 b]) (by simp [results, Tryd.results37, go_sem, *]) rfl ⟨rfl, ?_⟩
  (repeat' first | (with_reducible assumption) | (with_reducible exact Below.refl _ _) | (with_reducible refine Below.drew ?_) | (with_reducible refine Below.setCell ?_ ?_ _) | (with_reducible refine Below.alloc ?_ ?_ _) | (refine Below.trans ?_ (Below.mono (by assumption) ?_)) | omega | (simp only [World.size_alloc] at *; omega))

set_option maxHeartbeats 400000 in
theorem far_any (x : CutD) (ra ba la : Option Addr) (rc bc lc : Nat) (w : World) :
    Calls Tryd.prog 34 #[cutVal x ra ba la rc bc lc] w fun e w' => e = .returned (.bool (farD x)) ∧ Below w.heap.size w w' := by
  unfold cutVal
  go_enter Tryd.func34, Tryd.ntmps34
  go_wp2
  all_goals go_ret
  all_goals refine ⟨zca ?_, by (repeat' first | (with_reducible assumption) | (with_reducible exact Below.refl _ _) | (with_reducible refine Below.drew ?_) | (with_reducible refine Below.setCell ?_ ?_ _) | (with_reducible refine Below.alloc ?_ ?_ _) | (refine Below.trans ?_ (Below.mono (by assumption) ?_)) | omega | (simp only [World.size_alloc, World.size_setCell, World.size_drew] at *; omega))⟩
  all_goals (unfold farD; grind)

end Go.Proofs.YtlkhjnpflohfeaaDoor

/- The contract of open, where a day of rain is no span. -/
namespace Go.Proofs.YtlkhjnpflohfeaaDoor
open Go Go.Proofs Go.RowKit

set_option maxHeartbeats 1000000 in
theorem zuv (fv : Value) (x : CutD) (ra ba la : Option Addr) (rc bc lc : Nat) (b : Bool) (w : World) (hin : CutIn w x ra ba la) (hhead : headOf x = true) (hr : rainBad x.rain = true) :
    Calls Tryd.prog 43 #[cutVal x ra ba la rc bc lc, fv] w fun e w' => OpenPost x b ra ba rc bc w e w' := by
  have HIN := hide hin
  clear hin
  unfold headOf at hhead
  rw [show x.depth = (x.depth.1, x.depth.2) from rfl, show x.leak = (x.leak.1, x.leak.2) from rfl] at hhead
  simp only [Bool.and_eq_true] at hhead
  obtain ⟨⟨⟨⟨⟨h1, h2⟩, h3⟩, h4⟩, h5⟩, h6⟩ := hhead
  have g5 := of_decide_eq_true h5
  have g6 := of_decide_eq_true h6
  have HN : Hid (1 ≤ x.rain.length ∧ x.rain.length ≤ 8 ∧ x.boats.length ≤ 4 ∧ x.looks.length ≤ 5) := by
    simp only [Cut.within, Bool.and_eq_true, decide_eq_true_eq] at h1; exact ⟨by omega, by omega, by omega, by omega⟩
  unfold cutVal
  have hmm := @run_makeMap Tryd.prog
  have hbad : Cut.valid x = false := zkd hr
  go_enter Tryd.func43, Tryd.ntmps43
  go_wp2_with first | (go_at_call 82; refine (zbj _ _ _ _).mono ?_; rintro e w' ⟨rfl, rfl⟩; first | rw [h1] | rw [h2]) | (go_at_call 83; refine (zbh _ _ _ _ _).mono ?_; rintro e w1 ⟨rfl, hb⟩; have kx : Blk w1 w.heap.size 28 (cutCells x ra ba la rc bc lc) := Blk.below (by first | assumption | exact Blk.new _ _ _) hb (by first | assumption | simp); have hlt := kx.lt; have c0 := kx.cell 0 rfl; have c1 := kx.cell 1 rfl; have c2 := kx.cell 2 rfl; have c3 := kx.cell 3 rfl; have c4 := kx.cell 4 rfl; have c5 := kx.cell 5 rfl; have c6 := kx.cell 6 rfl; have c7 := kx.cell 7 rfl; first | rw [h3] | rw [h4])
  refine (zft _ _).mono ?_
  rintro e w2 ⟨rfl, rfl⟩
  go_wp2_with (go_at_call 84; refine (zic x.rain ra rc _ (HIN.out.rain.below (by (repeat' first | (with_reducible assumption) | (with_reducible exact Below.refl _ _) | (with_reducible refine Below.drew ?_) | (with_reducible refine Below.setCell ?_ ?_ _) | (with_reducible refine Below.alloc ?_ ?_ _) | (refine Below.trans ?_ (Below.mono (by assumption) ?_)) | omega | (simp only [World.size_alloc] at *; omega)))) (by have := HN.out; omega)).mono ?_; rintro e w3 ⟨rfl, hb3⟩; rw [hr])
  refine (ask_no _ _).mono ?_
  rintro e w2 ⟨rfl, rfl⟩
  go_wp2
  exact ⟨rfl, OpenPost.bad (by (repeat' first | (with_reducible assumption) | (with_reducible exact Below.refl _ _) | (with_reducible refine Below.drew ?_) | (with_reducible refine Below.setCell ?_ ?_ _) | (with_reducible refine Below.alloc ?_ ?_ _) | (refine Below.trans ?_ (Below.mono (by assumption) ?_)) | omega | (simp only [World.size_alloc] at *; omega))) hbad⟩
end Go.Proofs.YtlkhjnpflohfeaaDoor

/- Regions that draw their order, in the body of a range over a function: they are walked as outside a fence. -/
namespace Go.Proofs.YtlkhjnpflohfeaaDoor
open Go
section
variable {P : Program} {ops : Array Oper}
def NoOut (Q : Exit → Act → World → Prop) : Exit → Act → World → Prop
  | .outgrown, _, _ => False
  | e, a, w => Q e a w
theorem NoOut.not (Q : Exit → Act → World → Prop) : ¬ LetsOut (NoOut Q) := fun ⟨_, _, h⟩ => h
def noDefer (ops : Array Oper) : Bool := ops.all fun o => match o.op with | .defer _ => false | _ => true
theorem znq (h : noDefer ops = true) {i : Nat} {o : Oper} (hi : ops[i]? = some o) : ∀ c, o.op ≠ .defer c := by
  intro c hc
  have := Array.all_eq_true'.1 h o (Array.mem_of_getElem? hi)
  rw [hc] at this; cases this

theorem zef (hnd : noDefer ops = true) (l n : Nat) {Q : Exit → Act → World → Prop} : ∀ (is : List Nat) (a : Act) (w : World), wpOps P ops (NoOut Q) is a w → wpOpsIn (Fence.wide.inRound l) n P ops Q is a w
  | [], a, w, h => h
  | i :: rest, a, w, h => by
    have ih := zef hnd l n (Q := Q) rest
    unfold wpOps at h
    unfold wpOpsIn
    cases ho : ops[i]? with
    | none => simp only [ho] at h ⊢; exact ih a w h
    | some o =>
      simp only [ho] at h ⊢
      split at h
      · rename_i hw
        rw [if_pos hw]
        have h1 : o.wp P a w (wpOps P ops (NoOut Q) rest) (NoOut Q) := h.elim id fun h2 => absurd h2.2 (NoOut.not Q)
        refine ⟨fun _ _ => trivial, ?_⟩
        rw [Oper.semAt_eq _ _ _ (znq hnd ho)]
        unfold Oper.wp at h1
        generalize (execOp a.eval o).run P w = r at *
        cases r with
        | ok x w' =>
          cases x <;> simp only [Oper.upon] at h1 <;> simp only [Oper.uponIn]
          case value => exact ih _ _ h1
          case skip => exact ih _ _ h1
          case defer => exact ih _ _ h1
          case enter => 
            refine ⟨fun h => by simp [Fence.wide] at h, ?_⟩
            refine CallsIn.inRound l (callsIn_wide.2 ?_)
            refine h1.mono fun e w'' he => ?_
            cases e with
            | returned v => exact ih _ _ he
            | panicked c => exact he
            | outgrown => exact absurd he (NoOut.not Q)
          case row =>
            refine ⟨fun h => by simp [Fence.wide] at h, ?_⟩
            intro c cs _
            obtain ⟨v, w'', hr, hs⟩ := h1 c cs
            exact ⟨v, w'', ih _ _ hr, stepsIn_wide.2 hs⟩
        | halt x w' => cases x <;> simp only [Oper.upon] at h1 <;> simp only [Oper.uponIn]; exact h1
      · rename_i hw
        rw [if_neg hw]
        exact ⟨fun _ _ => trivial, ih _ _ h⟩

theorem zdh {id : Nat} {Q : Exit → Act → World → Prop} {a : Act} {w : World} (l n : Nat) (hm : P.follows .mixedOrders = true) (hnd : noDefer ops = true)
    (h : wpAny P .any ops (NoOut Q) ops.size (Array.replicate ops.size false) a w.drew) : (Code.region id ops true).wpIn (Fence.wide.inRound l) n P Q a w :=
  wpIn_region_draw fun t => by
    simp only [Region.schedule, hm, Bool.true_or, if_true]
    exact zef hnd l n _ a _ (wpAny_sound ops.size t _ a _ h)

theorem zgv {D : Option Nat → World → Prop} {id : Nat} {Q : Exit → Act → World → Prop} {a : Act} {w : World} {ol : List Oper} {op : Oper} {V : Nat → Value} (p n : Nat) (l m : Nat) (hm : P.follows .mixedOrders = true) (hnd : noDefer ol.toArray = true) (hB : Region.lexTailB .any ol.toArray n = true) (hpn : p < n)
    (hp : Lays P ol.toArray D p n op V) (hw : D none w.drew)
    (h : wpQuietF P ol.toArray D (fun a' => ∀ b w', D (some b) w' → wpList P ol.toArray (NoOut Q) (ol.drop n) (a'.put op.dst (V b)) w') p (ol.take n) a) : (Code.region id ol.toArray true).wpIn (Fence.wide.inRound l) m P Q a w :=
  zdh l m hm hnd (zxl p n hB hpn hp hw h)
end
end Go.Proofs.YtlkhjnpflohfeaaDoor

/- Contract of joined. -/
namespace Go.Proofs.YtlkhjnpflohfeaaDoor
open Go Go.Proofs Go.RowKit
attribute [local go_sem ↓] zbu zbt

def hull (s y : Int × Int) : Int × Int := (min s.1 y.1, max s.2 y.2)
theorem zpq (l : List (Int × Int)) (h : 0 < l.length) : l.foldl hull (Cut.spanAt l 0) = Cut.joined l := by
  cases l with
  | nil => simp at h
  | cons a l => simp [Cut.joined, hull, Cut.spanAt]; rfl
def upTo (l : List (Int × Int)) (k : Nat) : Int × Int := (l.take k).foldl hull (Cut.spanAt l 0)
theorem ztq (l : List (Int × Int)) (k : Nat) (h : k < l.length) : upTo l (k + 1) = hull (upTo l k) (Cut.spanAt l k) := by
  unfold upTo
  rw [List.take_succ_eq_append_getElem h, List.foldl_append]
  simp [Cut.spanAt, h]
theorem zxt (l : List (Int × Int)) (h : 0 < l.length) : upTo l l.length = Cut.joined l := by
  unfold upTo; rw [List.take_length, zpq l h]

set_option maxHeartbeats 400000 in
theorem zkt (l : List (Int × Int)) (b off cap : Nat) (w : World) (hn : 0 < l.length) (hcap : l.length ≤ cap) (hc : cap ≤ 9223372036854775807) (hb : b < w.heap.size)
   (h : ∀ i j, i < l.length → j < 2 → w.cell? ⟨b, off + i * 2 + j, none⟩ = some (spanCell l i j)) :
    Calls Tryd.prog 56 #[.slice (some ⟨b, off, none⟩) l.length cap] w fun e w' => e = .returned (.agg #[.int .i64 (Cut.joined l).1, .int .i64 (Cut.joined l).2]) ∧ Below w.heap.size w w' := by
  have h0a := h 0 0 hn (by omega)
  have h0b := h 0 1 hn (by omega)
  simp [spanCell] at h0a h0b
  have H := hide h
  have HJ := hide (zxt l hn)
  clear h
  go_enter Tryd.func56, Tryd.ntmps56
  go_wp2
  go_loopw [11, 12, 13, 14, 5, 15, 16, 17, 18, 19, 20, 21, 22, 23, 24, 25, 26] (fun i _ _ _ _ _ _ _ _ _ _ _ _ _ _ _ _ wr => ∃ k : Nat, k ≤ l.length ∧ i = .int .i64 k ∧ Below w.heap.size w wr ∧
      Blk wr w.heap.size 23 [.int .i64 0, .int .i64 0] ∧ Blk wr (w.heap.size + 1) 23 [.int .i64 (upTo l k).1, .int .i64 (upTo l k).2]) (fun i _ _ _ _ _ _ _ _ _ _ _ _ _ _ _ _ _ => l.length - (intOf i).toNat)
  case atStart =>
    refine ⟨0, by omega, rfl, by (repeat' first | (with_reducible assumption) | (with_reducible exact Below.refl _ _) | (with_reducible refine Below.drew ?_) | (with_reducible refine Below.setCell ?_ ?_ _) | (with_reducible refine Below.alloc ?_ ?_ _) | (refine Below.trans ?_ (Below.mono (by assumption) ?_)) | omega | (simp only [World.size_alloc] at *; omega)), Blk.alloc (Blk.new w [_, _] _) _, ?_⟩
    exact Blk.new' _ [_, _] _ (by simp)
  case round =>
    obtain ⟨k, hk, rfl, hB, b0, b1⟩ := hrel
    have hsz := b1.lt
    have c10 := b1.cell 0 rfl
    have c11 := b1.cell 1 rfl
    have f10 := b1.free 0
    have f11 := b1.free 1
    have c00 := b0.cell 0 rfl
    have c01 := b0.cell 1 rfl
    have f00 := b0.free 0
    have f01 := b0.free 1
    by_cases hlt : k < l.length
    · have hka := H.out k 0 hlt (by omega)
      have hkb := H.out k 1 hlt (by omega)
      rw [← hB.cell (p := ⟨b, _, none⟩) hb] at hka hkb
      simp [spanCell] at hka hkb
      have HU := hide (ztq l k hlt)
      go_wp2
      refine ⟨⟨k + 1, by omega, by go_num, by (repeat' first | (with_reducible assumption) | (with_reducible exact Below.refl _ _) | (with_reducible refine Below.drew ?_) | (with_reducible refine Below.setCell ?_ ?_ _) | (with_reducible refine Below.alloc ?_ ?_ _) | (refine Below.trans ?_ (Below.mono (by assumption) ?_)) | omega | (simp only [World.size_setCell] at *; omega)), by (repeat' first | (with_reducible assumption) | (with_reducible exact Blk.new _ _ _) | (with_reducible refine Blk.drew ?_) | (with_reducible refine Blk.set ?_ _ _) | (with_reducible refine Blk.other ?_ _ _ ?_) | (with_reducible refine Blk.alloc ?_ _) | omega | (simp only [World.size_alloc, World.size_setCell, World.size_drew]; omega)), ?_⟩, by simp [intOf]; omega⟩
      rw [HU.out]
      exact (((b1.set 0 _).set 1 _).alloc _)
    · obtain rfl : k = l.length := by omega
      go_wp2
      refine bodyPost_ret (v := .agg #[.int .i64 (upTo l l.length).1, .int .i64 (upTo l l.length).2]) (by simp [results, Tryd.results56, go_sem, *]) rfl ⟨by rw [HJ.out], ?_⟩
      (repeat' first | (with_reducible assumption) | (with_reducible exact Below.refl _ _) | (with_reducible refine Below.drew ?_) | (with_reducible refine Below.setCell ?_ ?_ _) | (with_reducible refine Below.alloc ?_ ?_ _) | (refine Below.trans ?_ (Below.mono (by assumption) ?_)) | omega | (simp only at *; omega))
end Go.Proofs.YtlkhjnpflohfeaaDoor

/- Plain laws of the seasons of package cut: if there is a depth on the first day, there is one on each. -/
namespace Go.Proofs.YtlkhjnpflohfeaaDoor
open Go.Proofs.YtlkhjnpflohfeaaDoor

namespace Cut
theorem ztb (w : Int × Int) (_h : -1048576 ≤ w.1 ∨ True) : some (common w dry) = false := by
  unfold common dry some
  have : ¬ (max w.1 (1048576, -1048576).1 ≤ min w.2 (1048576, -1048576).2) := by simp only; omega
  rw [if_neg this]; decide
theorem ztg (b : Int × Int) (m : Int) (w : Int × Int) (h : some w = false) : before b m w = dry := by
  unfold before
  rw [if_neg (by simpa [some] using h)]
theorem zue (x : CutD) (k : Int) (s d : Nat) (hd : d < x.rain.length) (h : some (seasonAt x k s d) = true) : some (seasonAt x k s (d + 1)) = true := by
  rw [zgb x k s d hd] at h
  cases hn : some (seasonAt x k s (d + 1)) with
  | true => rfl
  | false =>
    rw [ztg _ _ _ hn, ztb _ (.inr trivial)] at h
    cases h
theorem zqr (x : CutD) (k : Int) (s : Nat) (h : some (seasonAt x k s 0) = true) : ∀ d, d ≤ x.rain.length → some (seasonAt x k s d) = true
  | 0, _ => h
  | d + 1, hd => zue x k s d (by omega) (zqr x k s h d (by omega))
def spans (x : CutD) (d : Nat) : List (Int × Int) := ((leaks x).map fun k => seasonAt x k (every x) d).filter some
theorem water_spans (x : CutD) (d : Nat) : water x d = joined (spans x d) := rfl
theorem spans_pos (x : CutD) (hc : can x (every x) = true) (d : Nat) (hd : d ≤ x.rain.length) : 0 < (spans x d).length := by
  unfold can at hc
  obtain ⟨k, hk, hs⟩ := List.any_eq_true.1 hc
  refine List.length_pos_of_mem (a := seasonAt x k (every x) d) ?_
  exact List.mem_filter.2 ⟨List.mem_map.2 ⟨k, hk, rfl⟩, zqr x k _ hs d hd⟩
end Cut
end Go.Proofs.YtlkhjnpflohfeaaDoor
