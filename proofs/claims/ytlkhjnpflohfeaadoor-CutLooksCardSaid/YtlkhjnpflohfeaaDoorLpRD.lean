/- The evaluator's code of what CutLooks reaches is that of the program. Printed by program. -/
import Derived.Test.YtlkhjnpflohfeaaDoorLpPD
import Derived.Test.YtlkhjnpflohfeaaDoorLpRC
import Derived.Test.YtlkhjnpflohfeaaDoorLpRB
import Derived.RegionTactic
import Derived.BigRegion
import Derived.Laws.Bits64b
import Derived.Test.YtlkhjnpflohfeaaDoorLpRA
import Derived.BigQuiet
import Derived.Test.YtlkhjnpflohfeaaDoorLpPC
import Derived.Test.YtlkhjnpflohfeaaDoorLpQA
import Derived.Test.YtlkhjnpflohfeaaDoorProg
import Derived.KernelRfl
/- Contract of the method floats. -/
namespace Go.Proofs.YtlkhjnpflohfeaaDoor
open Go Go.Proofs Go.RowKit

namespace Cut
end Cut

def FlBoat (w0 : World) (M : Nat) (x : CutD) (fl : Nat → Option Value) (W : World) : Prop :=
  KBase w0 M x W ∧ FVar W w0.heap.size 51 [.int .i64 0, .int .i64 0, .int .i64 0, .int .i64 0] (fl 11) ∧ FVar W w0.heap.size 23 [.int .i64 0, .int .i64 0] (fl 12)
theorem FlBoat.step {w0 : World} {M : Nat} {x : CutD} {fl : Nat → Option Value} {W W' : World} (h : FlBoat w0 M x fl W) (hM : M < w0.heap.size) (hb : Bel M W.heap.size W W') (hk : Kept W' M x) : FlBoat w0 M x fl W' :=
  ⟨⟨h.1.1.trans (hb.mono h.1.1.size), hk⟩, h.2.1.bel hb hM, h.2.2.bel hb hM⟩

theorem Blk.ne_type {w : World} {B C : Nat} {T U : TypeId} {cs ds : List Value} (h : Blk w B T cs) (k : Blk w C U ds) (hT : T ≠ U) : B ≠ C := by
  rintro rfl
  unfold Blk at h k
  rw [h] at k
  cases k; exact hT rfl
section
variable {B M : Nat} {x : CutD} {ra ba la : Option Addr} {rc bc lc : Nat}

set_option maxHeartbeats 2000000 in
set_option maxRecDepth 100000 in
theorem zco (k : Nat) (loads : Int) (d : Nat) (w : World) (h : CutAt w B M x ra ba la rc bc lc) (hv : Cut.valid x = true) (hc : Cut.can x (Cut.every x) = true) (hd : d ≤ x.rain.length) (hk : k < x.boats.length) (hl : 0 ≤ loads ∧ loads ≤ 10) :
    Calls Tryd.prog 59 #[.pointer (some ⟨B, 0, none⟩), .int .i64 k, .int .i64 loads, .int .i64 d] w fun e w' =>
      e = .returned (.int .i64 (Cut.floats (Cut.boatAt x.boats k) loads (Cut.water x d))) ∧ Bel M w.heap.size w w' ∧ Kept w' M x := by
  have hV := Cut.valid_of hv
  have hbt := hV.boat k hk
  have hb4 := hV.b4
  have hMl := h.kept.lt
  have hBM := h.ne
  rcases h.boats with h0 | ⟨bb, off, rfl, hlt, hM, hcl⟩
  · omega
  have HC := hide h
  have HCL := hide hcl
  clear h hcl
  have hkl : (k : Int) < x.boats.length := by omega
  go_enter Tryd.func59, Tryd.ntmps59
  go_wp2_with fail
  have q6 : ∀ s : FCls (FlBoat w M x), s.W.cell? ⟨B, 6, none⟩ = some (.slice (some ⟨bb, off, none⟩) x.boats.length bc) := fun s => (HC.out.bel s.ok.1.1 s.ok.1.2).blk.cell 6 rfl
  have k0 : ∀ s : FCls (FlBoat w M x), s.W.cell? ⟨bb, off + k * 4, none⟩ = some (.int .i64 (Cut.boatAt x.boats k).draws.1) := fun s => (s.ok.1.1.cell (p := ⟨bb, _, none⟩) hlt hM).trans (HCL.out k 0 hk (by omega))
  have k1 : ∀ s : FCls (FlBoat w M x), s.W.cell? ⟨bb, off + k * 4 + 1, none⟩ = some (.int .i64 (Cut.boatAt x.boats k).draws.2) := fun s => (s.ok.1.1.cell (p := ⟨bb, _, none⟩) hlt hM).trans (HCL.out k 1 hk (by omega))
  have k2 : ∀ s : FCls (FlBoat w M x), s.W.cell? ⟨bb, off + k * 4 + 2, none⟩ = some (.int .i64 (Cut.boatAt x.boats k).per) := fun s => (s.ok.1.1.cell (p := ⟨bb, _, none⟩) hlt hM).trans (HCL.out k 2 hk (by omega))
  have k3 : ∀ s : FCls (FlBoat w M x), s.W.cell? ⟨bb, off + k * 4 + 3, none⟩ = some (.int .i64 (Cut.boatAt x.boats k).room) := fun s => (s.ok.1.1.cell (p := ⟨bb, _, none⟩) hlt hM).trans (HCL.out k 3 hk (by omega))
  refine zcc (D := FlBoat w M x) [0, 1, 2, 3, 4, 5, 6, 7, 8, 9, 10] [11, 12] 13 (by kernel_rfl) (by kernel_rfl) ?_ ⟨⟨(Bel.refl _ _ _).drew, HC.out.kept.below (Below.refl _ _).drew hMl⟩, FVar.nil, FVar.nil⟩ ?_
  · intro i hi o ho a fl W hW hn
    have hsz := hW.1.1.size
    simp only [List.mem_cons, List.not_mem_nil, or_false] at hi
    rcases hi with rfl | rfl
    · cases ho
      refine ⟨_, _, by kernel_rfl, ⟨hW.1.1.alloc hsz _, hW.1.2.below ((Below.refl _ _).alloc (Nat.le_refl _) _) hW.1.2.lt⟩, FVar.new (cs := [.int .i64 0, .int .i64 0, .int .i64 0, .int .i64 0]) hsz, hW.2.2.below ((Below.refl _ _).alloc (Nat.le_refl _) _)⟩
    · cases ho
      refine ⟨_, _, by kernel_rfl, ⟨hW.1.1.alloc hsz _, hW.1.2.below ((Below.refl _ _).alloc (Nat.le_refl _) _) hW.1.2.lt⟩, hW.2.1.below ((Below.refl _ _).alloc (Nat.le_refl _) _), FVar.new (cs := [.int .i64 0, .int .i64 0]) hsz⟩
  iterate 10 (apply fl_cls; rfl; (intro s; first | (go_simp; rfl) | (go_simp; done)))
  refine zfo 47 #[.pointer (some ⟨B, 0, none⟩), .int .i64 d] (v := .agg #[.int .i64 (Cut.water x d).1, .int .i64 (Cut.water x d).2]) rfl (fun s => ?_) (fun s => ?_) ?_
  · (first | (go_simp; rfl) | (go_simp; done))
  · refine (zmu d s.W (HC.out.bel s.ok.1.1 s.ok.1.2) hv hc hd).mono ?_
    rintro e w' ⟨rfl, hb, hk⟩
    exact ⟨rfl, s.ok.step hMl hb hk⟩
  refine fl_nil ?_
  clear q6 k0 k1 k2 k3
  intro fl w2 hD hall
  obtain ⟨v1, hv1⟩ := Option.isSome_iff_exists.1 (hall 11 (by simp))
  obtain ⟨v2, hv2⟩ := Option.isSome_iff_exists.1 (hall 12 (by simp))
  obtain ⟨b1, rfl, k1, hN1⟩ := hD.2.1 v1 hv1
  obtain ⟨b2, rfl, k2, hN2⟩ := hD.2.2 v2 hv2
  (simp only [flAct, dstOf, Act.put, List.foldl_cons, List.foldl_nil, List.getElem?_toArray, List.getElem?_cons_succ, List.getElem?_cons_zero, Option.bind_some, List.getElem_toArray, List.getElem_cons_succ, List.getElem_cons_zero, List.setIfInBounds_toArray, List.set_cons_succ, List.set_cons_zero])
  rw [hv1, hv2]
  have hne : b1 ≠ b2 := k1.ne_type k2 (by decide)
  have hbw := hD.1.1
  have hkw := hD.1.2
  clear hD hall hv1 hv2 fl
  simp only [Option.getD_some, List.drop_succ_cons, List.drop_zero]
  have r0 := k1.cell 0 rfl
  have r1 := k1.cell 1 rfl
  have r2 := k1.cell 2 rfl
  have r3 := k1.cell 3 rfl
  have r4 := k1.free 0
  have r5 := k1.free 1
  have r6 := k1.free 2
  have r7 := k1.free 3
  have s0 := k2.cell 0 rfl
  have s1 := k2.cell 1 rfl
  have s2 := k2.free 0
  have s3 := k2.free 1
  have hp0 : 0 ≤ (Cut.boatAt x.boats k).per * loads := Int.mul_nonneg (by omega) (by omega)
  have hp1 : (Cut.boatAt x.boats k).per * loads ≤ 100 := Int.le_trans (Int.mul_le_mul (show _ ≤ 10 by omega) (show loads ≤ 10 by omega) (by omega) (by omega)) (by decide)
  have hl1 := k1.lt
  have hl2 := k2.lt
  have hfin : Hid (Cut.floats (Cut.boatAt x.boats k) loads (Cut.water x d) = if (Cut.boatAt x.boats k).draws.2 + (Cut.boatAt x.boats k).per * loads ≤ (Cut.water x d).1 then 2 else if (Cut.boatAt x.boats k).draws.1 + (Cut.boatAt x.boats k).per * loads ≤ (Cut.water x d).2 then 1 else 0) := rfl
  clear k1 k2
  by_cases hA : (Cut.boatAt x.boats k).draws.2 + (Cut.boatAt x.boats k).per * loads ≤ (Cut.water x d).1
  · go_wp2
    go_ret
    refine ⟨zdp (a := 2) (by rw [hfin.out, if_pos hA]), ?_, ?_⟩
    · (repeat' first | (with_reducible assumption) | (with_reducible exact Bel.refl _ _ _) | (with_reducible refine Bel.drew ?_) | (with_reducible refine Bel.setCell ?_ ?_ _) | (with_reducible refine Bel.alloc ?_ ?_ _) | omega | (simp only at *; omega))
    · (repeat' first | (with_reducible assumption) | (with_reducible refine Kept.set ?_ ?_ _) | omega | (dsimp only; omega))
  · by_cases hB : (Cut.boatAt x.boats k).draws.1 + (Cut.boatAt x.boats k).per * loads ≤ (Cut.water x d).2
    · go_wp2
      go_ret
      refine ⟨zdp (a := 1) (by rw [hfin.out, if_neg (by omega), if_pos hB]), ?_, ?_⟩
      · (repeat' first | (with_reducible assumption) | (with_reducible exact Bel.refl _ _ _) | (with_reducible refine Bel.drew ?_) | (with_reducible refine Bel.setCell ?_ ?_ _) | (with_reducible refine Bel.alloc ?_ ?_ _) | omega | (simp only at *; omega))
      · (repeat' first | (with_reducible assumption) | (with_reducible refine Kept.set ?_ ?_ _) | omega | (dsimp only; omega))
    · go_wp2
      go_ret
      refine ⟨zdp (a := 0) (by rw [hfin.out, if_neg (by omega), if_neg (by omega)]), ?_, ?_⟩
      · (repeat' first | (with_reducible assumption) | (with_reducible exact Bel.refl _ _ _) | (with_reducible refine Bel.drew ?_) | (with_reducible refine Bel.setCell ?_ ?_ _) | (with_reducible refine Bel.alloc ?_ ?_ _) | omega | (simp only at *; omega))
      · (repeat' first | (with_reducible assumption) | (with_reducible refine Kept.set ?_ ?_ _) | omega | (dsimp only; omega))
end
end Go.Proofs.YtlkhjnpflohfeaaDoor

/- Contract of last, of a slice of numbers. -/
namespace Go.Proofs.YtlkhjnpflohfeaaDoor
open Go Go.Proofs Go.RowKit

namespace Cut
end Cut

structure TestOk (g : FuncId) (first cap : Array Value) (n M : Nat) (val : Nat → Value) (p : Nat → Bool) (I : World → Prop) : Prop where
  enters : ∀ args w, (callFunc g args).run Tryd.prog w = .ok (.enter g args) w
  below : ∀ W W', I W → Below W.heap.size W W' → I W'
  calls : ∀ i, i < n → ∀ W, I W → Calls Tryd.prog g (first ++ #[val i] ++ cap) W fun e W' => e = .returned (.bool (p i)) ∧ I W' ∧ Bel M W.heap.size W W'

set_option maxHeartbeats 1000000 in
set_option maxRecDepth 100000 in
theorem zpp (b n cp : Nat) (g : FuncId) (cap : Array Value) (M : Nat) (p : Nat → Bool) (I : World → Prop) (w : World) (hn : n ≤ 1000) (hI : I w) (hM : M < w.heap.size)
    (hb : ∀ W, I W → b < W.heap.size ∧ ∀ i, i < n → W.cell? ⟨b, i, none⟩ = some (.int .i64 i)) (ht : TestOk g #[] cap n M (fun i => .int .i64 i) p I) :
    Calls Tryd.prog 90 #[.slice (some ⟨b, 0, none⟩) n cp, .agg #[.func (.func g) #[] cap]] w fun e w' => e = .returned (.int .i64 ((Cut.lead p n : Nat) - 1)) ∧ I w' ∧ Bel M w.heap.size w w' := by
  have HT := hide ht
  have HB := hide hb
  have HI := hide hI
  clear ht hb hI
  go_enter Tryd.func90, Tryd.ntmps90
  go_wp2_with fail
  go_loopw [5, 6, 9, 10, 11, 12, 13, 14, 15, 16, 17, 18, 19, 20] (fun _ _ v9 _ _ _ _ _ _ _ _ _ _ _ wr => ∃ k : Nat, k ≤ n ∧ v9 = .int .i64 k ∧ Hid (I wr) ∧ Blk wr w.heap.size 133 [.func (.func g) #[] cap] ∧ Bel M w.heap.size w wr ∧ Hid (∀ j, j < k → p j = true)) (fun _ _ v9 _ _ _ _ _ _ _ _ _ _ _ _ => n - (intOf v9).toNat)
  case atStart => exact ⟨0, by omega, rfl, HT.out.below _ _ HI.out ((Below.refl _ _).alloc (Nat.le_refl _) _), Blk.new' _ [_] _ rfl, (Bel.refl _ _ _).alloc (Nat.le_refl _) _, fun j hj => by omega⟩
  case round =>
    obtain ⟨k, hk, rfl, hI, b0, hB, hall⟩ := hrel
    by_cases hlt : k < n
    · have hc := (HB.out wr hI.out).2 k hlt
      have hbl := (HB.out wr hI.out).1
      have c0 := b0.cell 0 rfl
      have hl0 := b0.lt
      have heg := HT.out.enters
      go_wp2_with fail
      clear heg
      have hcall := HT.out.calls k hlt wr hI.out
      rw [Array.empty_append] at hcall
      refine hcall.mono ?_
      clear hcall
      rintro e w2 ⟨rfl, hI2, hB2⟩
      have b2 := b0.bel hB2 hl0 (by omega)
      have HI2 := hide hI2
      clear hI2 hc c0 b0
      cases hp : p k with
      | true =>
        have HP := hide hp
        clear hp
        go_wp2
        refine ⟨⟨k + 1, by omega, by go_num, HI2, b2, hB.trans (hB2.mono hB.size), fun j hj => ?_⟩, by simp [intOf]; omega⟩
        by_cases hjk : j < k
        · exact hall.out j hjk
        · obtain rfl : j = k := by omega
          exact HP.out
      | false =>
        have HP := hide (Cut.lead_stop p k hp hall.out n hlt)
        clear hp
        go_wp2
        go_ret
        exact ⟨zdp (by rw [HP.out]), HI2.out, hB.trans (hB2.mono hB.size)⟩
    · obtain rfl : k = n := by omega
      go_wp2
      go_ret
      refine ⟨zdp (by rw [Cut.lead_all p k hall.out]), hI.out, hB⟩
end Go.Proofs.YtlkhjnpflohfeaaDoor

/- Contract of the method loads. -/
namespace Go.Proofs.YtlkhjnpflohfeaaDoor
open Go Go.Proofs Go.RowKit
namespace Cut
end Cut
section
variable {B M : Nat} {x : CutD} {ra ba la : Option Addr} {rc bc lc : Nat}

set_option maxHeartbeats 1000000 in
set_option maxRecDepth 100000 in
theorem zsp (k d n : Nat) (sure : Int) (K1 K2 K3 K4 : Nat) (w : World) (h : CutAt w B M x ra ba la rc bc lc) (hv : Cut.valid x = true) (hc : Cut.can x (Cut.every x) = true) (hd : d ≤ x.rain.length) (hk : k < x.boats.length) (hn : n ≤ 10)
    (b1 : Blk w K1 70 [.pointer (some ⟨B, 0, none⟩)]) (b2 : Blk w K2 3 [.int .i64 k]) (b3 : Blk w K3 3 [.int .i64 d]) (b4 : Blk w K4 3 [.int .i64 sure]) (h1 : K1 ≠ M) (h2 : K2 ≠ M) (h3 : K3 ≠ M) (h4 : K4 ≠ M) :
    Calls Tryd.prog 91 #[.int .i64 n, .pointer (some ⟨K1, 0, none⟩), .pointer (some ⟨K2, 0, none⟩), .pointer (some ⟨K3, 0, none⟩), .pointer (some ⟨K4, 0, none⟩)] w fun e w' =>
      e = .returned (.bool (Cut.suits x k d sure n)) ∧ Bel M w.heap.size w w' ∧ Kept w' M x := by
  have hMl := h.kept.lt
  have HC := hide h
  clear h
  go_enter Tryd.func91, Tryd.ntmps91
  go_wp2_with fail
  have q1 : ∀ s : FCls (fun _ W => KBase w M x W), s.W.cell? ⟨K1, 0, none⟩ = some (.pointer (some ⟨B, 0, none⟩)) := fun s => (b1.bel s.ok.1 b1.lt h1).cell 0 rfl
  have q2 : ∀ s : FCls (fun _ W => KBase w M x W), s.W.cell? ⟨K2, 0, none⟩ = some (.int .i64 k) := fun s => (b2.bel s.ok.1 b2.lt h2).cell 0 rfl
  have q3 : ∀ s : FCls (fun _ W => KBase w M x W), s.W.cell? ⟨K3, 0, none⟩ = some (.int .i64 d) := fun s => (b3.bel s.ok.1 b3.lt h3).cell 0 rfl
  have q4 : ∀ s : FCls (fun _ W => KBase w M x W), s.W.cell? ⟨K4, 0, none⟩ = some (.int .i64 sure) := fun s => (b4.bel s.ok.1 b4.lt h4).cell 0 rfl
  refine zcc (D := fun _ W => KBase w M x W) [0, 1, 2, 3, 4, 5, 6, 7] [] 8 (by kernel_rfl) (by kernel_rfl) (fun i hi => by cases hi) ⟨(Bel.refl _ _ _).drew, HC.out.kept.drew⟩ ?_
  iterate 4 (apply fl_cls; rfl; (intro s; first | (go_simp; rfl) | (go_simp; done)))
  refine zfo 59 #[.pointer (some ⟨B, 0, none⟩), .int .i64 k, .int .i64 n, .int .i64 d] (v := .int .i64 (Cut.floats (Cut.boatAt x.boats k) n (Cut.water x d))) rfl (fun s => ?_) (fun s => ?_) ?_
  · (first | (go_simp; rfl) | (go_simp; done))
  · refine (zco k n d s.W (HC.out.bel s.ok.1 s.ok.2) hv hc hd hk ⟨by omega, by omega⟩).mono ?_
    rintro e w' ⟨rfl, hb, hk⟩
    exact ⟨rfl, s.ok.1.trans (hb.mono s.ok.1.size), hk⟩
  iterate 3 (apply fl_cls; rfl; (intro s; first | (go_simp; rfl) | (go_simp; done)))
  refine fl_nil ?_
  clear q1 q2 q3 q4 b1 b2 b3 b4
  intro fl w2 hD _
  (simp only [flAct, dstOf, Act.put, List.foldl_nil, List.getElem?_toArray, List.getElem_toArray, List.getElem_cons_succ, List.getElem_cons_zero, List.setIfInBounds_toArray, List.set_cons_succ, List.set_cons_zero])
  obtain ⟨hbw, hkw⟩ := hD
  have hs : Hid (Cut.suits x k d sure n = decide (sure ≤ Cut.floats (Cut.boatAt x.boats k) n (Cut.water x d))) := rfl
  simp only [List.drop_succ_cons, List.drop_zero]
  go_wp2
  go_ret
  exact ⟨zca (by rw [hs.out]), hbw, hkw⟩

theorem int_info : (Tryd.prog.info? 3).map (fun i => (i.zero, i.size, i.bytes)) = some (some (.int .i64 0), 1, 8) := by kernel_rfl

set_option maxHeartbeats 2000000 in
set_option maxRecDepth 100000 in
theorem zja (k d : Nat) (sure : Int) (w : World) (h : CutAt w B M x ra ba la rc bc lc) (hv : Cut.valid x = true) (hc : Cut.can x (Cut.every x) = true) (hd : d ≤ x.rain.length) (hk : k < x.boats.length) :
    Calls Tryd.prog 64 #[.pointer (some ⟨B, 0, none⟩), .int .i64 k, .int .i64 d, .int .i64 sure] w fun e w' => e = .returned (.int .i64 (Cut.loads x k d sure)) ∧ Bel M w.heap.size w w' ∧ Kept w' M x := by
  have hMl := h.kept.lt
  have hBl := h.blk.lt
  have hbt := (Cut.valid_of hv).boat k hk
  rcases h.boats with h0 | ⟨bb, off, rfl, hlt, hM, hcl⟩
  · omega
  obtain ⟨r, hr⟩ := Int.eq_ofNat_of_zero_le hbt.2.2.2.2.2.1
  have hr10 : r ≤ 10 := by omega
  have hcl3 := hcl k 3 hk (by omega)
  simp [boatCell] at hcl3
  rw [hr] at hcl3
  have hfin : Hid (Cut.loads x k d sure = (Cut.lead (Cut.suits x k d sure) (r + 1) : Nat) - 1) := by unfold Cut.loads; rw [hr]; rfl
  clear hr hbt
  have hkl : (k : Int) < x.boats.length := by omega
  have HC := hide h
  clear h hcl
  go_enter Tryd.func64, Tryd.ntmps64
  go_wp2_with fail
  obtain ⟨w4, hw4⟩ : ∃ w4, ((((w.alloc (Obj.cells #[.pointer (some ⟨B, 0, none⟩)] 70)).alloc (Obj.cells #[Value.int IntKind.i64 k] 3)).alloc (Obj.cells #[Value.int IntKind.i64 d] 3)).alloc (Obj.cells #[Value.int IntKind.i64 sure] 3)) = w4 := ⟨_, rfl⟩
  rw [hw4]
  have hz4 : w4.heap.size = w.heap.size + 1 + 1 + 1 + 1 := by rw [← hw4]; simp
  have hb4 : Below w.heap.size w w4 := by rw [← hw4]; (repeat' first | (with_reducible assumption) | (with_reducible exact Below.refl _ _) | (with_reducible refine Below.drew ?_) | (with_reducible refine Below.setCell ?_ ?_ _) | (with_reducible refine Below.alloc ?_ ?_ _) | (refine Below.trans ?_ (Below.mono (by assumption) ?_)) | omega | (simp only [World.size_alloc] at *; omega))
  have b0 : Blk w4 w.heap.size 70 [.pointer (some ⟨B, 0, none⟩)] := by rw [← hw4]; exact ((((Blk.new' _ [_] _ rfl).alloc _).alloc _).alloc _)
  have b1 : Blk w4 (w.heap.size + 1) 3 [.int .i64 k] := by rw [← hw4]; exact (((Blk.new' _ [_] _ (by simp)).alloc _).alloc _)
  have b2 : Blk w4 (w.heap.size + 1 + 1) 3 [.int .i64 d] := by rw [← hw4]; exact (Blk.new' _ [_] _ (by simp)).alloc _
  have b3 : Blk w4 (w.heap.size + 1 + 1 + 1) 3 [.int .i64 sure] := by rw [← hw4]; exact Blk.new' _ [_] _ (by simp)
  have HC4 := hide (HC.out.below hb4)
  clear hw4
  have q0 : ∀ s : FCls (fun _ W => W = w4.drew), s.W.cell? ⟨w.heap.size, 0, none⟩ = some (.pointer (some ⟨B, 0, none⟩)) := fun s => by rw [s.ok]; exact b0.cell 0 rfl
  have q1 : ∀ s : FCls (fun _ W => W = w4.drew), s.W.cell? ⟨w.heap.size + 1, 0, none⟩ = some (.int .i64 k) := fun s => by rw [s.ok]; exact b1.cell 0 rfl
  have q2 : ∀ s : FCls (fun _ W => W = w4.drew), s.W.cell? ⟨B, 6, none⟩ = some (.slice (some ⟨bb, off, none⟩) x.boats.length bc) := fun s => by rw [s.ok]; exact HC4.out.blk.cell 6 rfl
  have q3 : ∀ s : FCls (fun _ W => W = w4.drew), s.W.cell? ⟨bb, off + k * 4 + 3, none⟩ = some (.int .i64 r) := fun s => by rw [s.ok]; exact (hb4.cell (p := ⟨bb, _, none⟩) hlt).trans hcl3
  refine zcc (D := fun _ W => W = w4.drew) [0, 1, 2, 3, 4, 5, 6, 7, 8, 9] [] 10 (by kernel_rfl) (by kernel_rfl) (fun i hi => by cases hi) rfl ?_
  clear hcl3
  iterate 9 (apply fl_cls; rfl; (intro s; first | (go_simp; rfl) | (go_simp; done)))
  have hadd : IntKind.i64.wrap ((r : Int) + 1) = (r : Int) + 1 := IntWalk.i64_in _ (by omega)
  iterate 1 (apply fl_cls; rfl; (intro s; first | (go_simp; rfl) | (go_simp; done)))
  refine fl_nil ?_
  clear q0 q1 q2 q3 hadd
  rintro fl w5 rfl _
  (simp only [flAct, dstOf, Act.put, List.foldl_nil, List.getElem?_toArray, List.getElem_toArray, List.getElem_cons_succ, List.getElem_cons_zero, List.setIfInBounds_toArray, List.set_cons_succ, List.set_cons_zero])
  simp only [List.drop_succ_cons, List.drop_zero]
  obtain ⟨i0, hi, hz0, hz1, hz2⟩ := info_parts int_info
  have hmk : ∀ w, (Instr.makeSlice 46 (.int .i64 ((r : Int) + 1)) (.int .i64 ((r : Int) + 1))).run Tryd.prog w = .ok (.slice (some ⟨w.heap.size, 0, none⟩) (r + 1) (r + 1)) (w.alloc (.cells (madeCells (Value.int .i64 0).cells ((r + 1) * 1)).toList.toArray 3)) := fun w => by
    have := zgc (P := Tryd.prog) 46 3 i0 _ Tryd.underlying46 hi hz0 .i64 .i64 (r + 1) (by rw [hz2]; omega) (by omega) w
    rw [hz1] at this; exact this
  generalize hmc : (madeCells (Value.int .i64 0).cells ((r + 1) * 1)).toList = mc at hmk
  have hml : mc.length = r + 1 := by rw [← hmc, zeh]; omega
  have HML := hide hml
  clear hmc
  go_wp2_with fail
  have a0 : Blk (w4.alloc (Obj.cells mc.toArray 3)).drew (w.heap.size + 1 + 1 + 1 + 1) 3 mc := (Blk.new' _ _ _ (by omega)).drew
  have hb5 : Below w4.heap.size w4 (w4.alloc (Obj.cells mc.toArray 3)).drew := ((Below.refl _ _).alloc (Nat.le_refl _) _).drew
  have hz5 : (w4.alloc (Obj.cells mc.toArray 3)).drew.heap.size = w4.heap.size + 1 := by simp
  generalize (w4.alloc (Obj.cells mc.toArray 3)).drew = w5 at *
  go_loopw [10, 24, 25, 26, 27, 28, 29, 30, 31] (fun _ v24 _ _ _ _ _ _ _ wr => ∃ (j : Nat) (cs : List Value), j ≤ r + 1 ∧ v24 = .int .i64 j ∧ Below w4.heap.size w4 wr ∧ Blk wr (w.heap.size + 1 + 1 + 1 + 1) 3 cs ∧ Hid (cs.length = r + 1 ∧ ∀ i, i < j → cs[i]? = some (.int .i64 i))) (fun _ v24 _ _ _ _ _ _ _ _ => r + 1 - (intOf v24).toNat)
  case atStart => exact ⟨0, mc, by omega, rfl, hb5, a0, HML.out, fun i hi => by omega⟩
  case round =>
    clear a0 hb5 hz5 hml
    obtain ⟨j, cs, hj, rfl, hB, a1, hcs⟩ := hrel
    by_cases hlt2 : j < r + 1
    · obtain ⟨cv, hcv⟩ : ∃ cv, cs[j]? = some cv := ⟨cs[j]'(by rw [hcs.out.1]; exact hlt2), by simp [hcs.out.1, hlt2]⟩
      have hcell := a1.cell j hcv
      have hfr := a1.free j
      have hle : (j : Int) < (r : Int) + 1 := by omega
      clear hcv
      go_wp2
      refine ⟨⟨j + 1, cs.set j (.int .i64 j), by omega, by go_num, hB.setCell (p := ⟨w.heap.size + 1 + 1 + 1 + 1, j, none⟩) (by show w4.heap.size ≤ w.heap.size + 1 + 1 + 1 + 1; omega) _, a1.set j _, by simp [hcs.out.1], fun i hi => ?_⟩, by simp [intOf]; omega⟩
      by_cases hij : j = i
      · subst hij; simp [hcs.out.1, hlt2]
      · rw [List.getElem?_set_ne hij]; exact hcs.out.2 i (by omega)
    · obtain rfl : j = r + 1 := by omega
      have hMw : M < wr.heap.size := by have := hB.size; omega
      have HB := hide hB
      have hwz := hB.size
      have hal := a1.lt
      have c0 := b0.below hB (by omega)
      have c1 := b1.below hB (by omega)
      have c2 := b2.below hB (by omega)
      have c3 := b3.below hB (by omega)
      clear b0 b1 b2 b3
      have HCr := hide (HC4.out.below hB)
      have hgt : ¬ ((r + 1 : Nat) : Int) < (r : Int) + 1 := by omega
      go_wp2_with fail
      refine (zpp (w.heap.size + 1 + 1 + 1 + 1) (r + 1) (r + 1) 91 _ M (Cut.suits x k d sure) (KBase wr M x) wr (by omega) ⟨Bel.refl _ _ _, HCr.out.kept⟩ hMw (fun W hW => ?_) ?_).mono ?_
      · have := a1.bel hW.1 hal (by omega)
        exact ⟨this.lt, fun i hi => this.cell i (hcs.out.2 i hi)⟩
      · refine ⟨enters_of Tryd.func91 (by kernel_rfl) rfl, fun W W' hI hb => ⟨hI.1.trans (Bel.of_below (hb.mono hI.1.size)), hI.2.below hb hI.2.lt⟩, fun i hi W hW => ?_⟩
        refine (zsp k d i sure (w.heap.size) (w.heap.size + 1) (w.heap.size + 1 + 1) (w.heap.size + 1 + 1 + 1) W (HCr.out.bel hW.1 hW.2) hv hc hd hk (by omega) (c0.bel hW.1 c0.lt (by omega)) (c1.bel hW.1 c1.lt (by omega)) (c2.bel hW.1 c2.lt (by omega)) (c3.bel hW.1 c3.lt (by omega)) (by omega) (by omega) (by omega) (by omega)).mono ?_
        rintro e W' ⟨he, hb, hk⟩
        exact ⟨he, ⟨hW.1.trans (hb.mono hW.1.size), hk⟩, hb⟩
      rintro e w7 ⟨rfl, ⟨hb7, hk7⟩, _⟩
      go_wp2
      go_ret
      exact ⟨zdp (by rw [hfin.out]), ((Bel.of_below hb4).trans (Bel.of_below (HB.out.mono (by omega)))).trans (hb7.mono (by omega)), hk7⟩
end
end Go.Proofs.YtlkhjnpflohfeaaDoor

/- Contract of Loads. -/
namespace Go.Proofs.YtlkhjnpflohfeaaDoor
open Go Go.Proofs Go.RowKit

set_option maxHeartbeats 2000000 in
theorem zxn (x : CutD) (b d : Int) (ra ba la : Option Addr) (rc bc lc : Nat) (w : World) (hin : CutIn w x ra ba la) :
    Calls Tryd.prog 20 #[cutVal x ra ba la rc bc lc, .int .i64 b, .int .i64 d] w fun e w' => e = .returned (.tuple #[.int .i64 (loadsR x b d).1.1, .int .i64 (loadsR x b d).1.2, .int .i64 (loadsR x b d).2]) ∧ Below w.heap.size w w' := by
  have HIN := hide hin
  clear hin
  unfold cutVal
  go_enter_defers Tryd.func20, Tryd.ntmps20
  go_wp2_with fail
  obtain ⟨w4, hw4⟩ : ∃ w4, ((((w.alloc (Obj.cells (cutCells x ra ba la rc bc lc).toArray 28)).alloc (Obj.cells #[Value.int IntKind.i64 b] 3)).alloc (Obj.cells #[Value.int IntKind.i64 d] 3)).alloc (Obj.cells #[Value.int IntKind.i64 0] 31)) = w4 := ⟨_, rfl⟩
  simp only [cutCells] at hw4
  rw [hw4]
  have hz4 : w4.heap.size = w.heap.size + 1 + 1 + 1 + 1 := by rw [← hw4]; simp
  have hb4 : Below w.heap.size w w4 := by rw [← hw4]; (repeat' first | (with_reducible assumption) | (with_reducible exact Below.refl _ _) | (with_reducible refine Below.drew ?_) | (with_reducible refine Below.setCell ?_ ?_ _) | (with_reducible refine Below.alloc ?_ ?_ _) | (refine Below.trans ?_ (Below.mono (by assumption) ?_)) | omega | (simp only [World.size_alloc] at *; omega))
  have b1 : Blk w4 (w.heap.size + 1) 3 [.int .i64 b] := by rw [← hw4]; exact (((Blk.new' _ [_] _ (by simp)).alloc _).alloc _)
  have b2 : Blk w4 (w.heap.size + 1 + 1) 3 [.int .i64 d] := by rw [← hw4]; exact (Blk.new' _ [_] _ (by simp)).alloc _
  have b3 : Blk w4 (w.heap.size + 1 + 1 + 1) 31 [.int .i64 0] := by rw [← hw4]; exact Blk.new' _ [_] _ (by simp)
  have HIN4 := hide (HIN.out.below hb4)
  clear hw4
  refine (zeb _ x ra ba la rc bc lc (Cut.isBoat x b && Cut.isDay x d) _ HIN4.out ?_).mono ?_
  · exact ⟨_, _, rfl, enters_of Tryd.func62 (by kernel_rfl) rfl, fun B M la lc w' hv hb _ _ hc => zpn b d (w.heap.size + 1) (w.heap.size + 1 + 1) w' hc (Cut.valid_of hv).b4 (b1.below hb (by omega)) (b2.below hb (by omega))⟩
  rintro e w5 ⟨hb5, h⟩
  have c1 := b1.below hb5 (by omega)
  have c2 := b2.below hb5 (by omega)
  have c3 := b3.below hb5 (by omega)
  have hb5' := hb4.trans (hb5.mono (show w.heap.size ≤ w4.heap.size by omega))
  rcases h with ⟨hv, rfl⟩ | ⟨hv, hbf, rfl⟩ | ⟨hv, hbt, B, M, la', lc', hB, hM, rfl, hcut⟩
  · refine zax (c3.cell 0 rfl) (c3.free 0) rfl (results3 rfl (zbc rfl) (zbc rfl) (zaw (w.heap.size + 1 + 1 + 1) _ rfl ((c3.set 0 _).cell 0 rfl) (by kernel_rfl))) ⟨?_, hb5'.setCell (p := ⟨w.heap.size + 1 + 1 + 1, 0, none⟩) (show w.heap.size ≤ w.heap.size + 1 + 1 + 1 by omega) _⟩
    unfold loadsR
    rw [zbq hv]; rfl
  · refine zax (c3.cell 0 rfl) (c3.free 0) rfl (results3 rfl (zbc rfl) (zbc rfl) (zaw (w.heap.size + 1 + 1 + 1) _ rfl ((c3.set 0 _).cell 0 rfl) (by kernel_rfl))) ⟨?_, hb5'.setCell (p := ⟨w.heap.size + 1 + 1 + 1, 0, none⟩) (show w.heap.size ≤ w.heap.size + 1 + 1 + 1 by omega) _⟩
    unfold loadsR
    rw [hbf, zbz hv]; rfl
  · have HCut := hide hcut
    clear hcut
    go_wp2_with fail
    cases hcan : Cut.can x (Cut.every x) with
    | false =>
      refine (zgx w5 HCut.out hv hcan).mono ?_
      rintro e w6 ⟨rfl, hb6, hk6⟩
      have hb6' := hb6.below_lt (N' := w4.heap.size) hM hb5.size
      have d3 := c3.below hb6' (by omega)
      refine zax (d3.cell 0 rfl) (d3.free 0) rfl (results3 rfl (zbc rfl) (zbc rfl) (zaw (w.heap.size + 1 + 1 + 1) _ rfl ((d3.set 0 _).cell 0 rfl) (by kernel_rfl))) ⟨?_, (hb5'.trans (hb6'.mono (by omega))).setCell (p := ⟨w.heap.size + 1 + 1 + 1, 0, none⟩) (show w.heap.size ≤ w.heap.size + 1 + 1 + 1 by omega) _⟩
      unfold loadsR
      rw [hbt, zbm hv hcan]; rfl
    | true =>
      refine (zey w5 HCut.out hv hcan).mono ?_
      rintro e w6 ⟨rfl, hb6, hk6⟩
      have hb6' := hb6.below_lt (N' := w4.heap.size) hM hb5.size
      have HC6 := hide (HCut.out.bel hb6 hk6)
      have d1 := c1.below hb6' (by omega)
      have d2 := c2.below hb6' (by omega)
      have d3 := c3.below hb6' (by omega)
      have hbb : Cut.isBoat x b = true ∧ Cut.isDay x d = true := by simpa using hbt
      obtain ⟨k, rfl, hk⟩ := zxa hbb.1
      obtain ⟨j, rfl, hj⟩ := day_of hbb.2
      have hz6 := hb6'.size
      have hM6 := HC6.out.kept.lt
      have hfin : Hid (loadsR x k j = ((Cut.loads x k j 2, Cut.loads x k j 1), 0)) := by
        unfold loadsR
        rw [hbt, zci hv hcan, if_pos rfl]; rfl
      have hbw6 : Hid (Below w.heap.size w w6) := hb5'.trans (hb6'.mono (by omega))
      clear hbb hbt b1 b2 b3 c1 c2 c3 hk6
      go_wp2_with fail
      have q1 : ∀ s : FCls (fun _ W => KBase w6 M x W), s.W.cell? ⟨w.heap.size + 1, 0, none⟩ = some (.int .i64 k) := fun s => (d1.bel s.ok.1 (by omega) (by omega)).cell 0 rfl
      have q2 : ∀ s : FCls (fun _ W => KBase w6 M x W), s.W.cell? ⟨w.heap.size + 1 + 1, 0, none⟩ = some (.int .i64 j) := fun s => (d2.bel s.ok.1 (by omega) (by omega)).cell 0 rfl
      refine zcc (D := fun _ W => KBase w6 M x W) [0, 1, 2, 3, 4, 5, 6, 7] [] 8 (by kernel_rfl) (by kernel_rfl) (fun i hi => by cases hi) ⟨(Bel.refl _ _ _).drew, HC6.out.kept.drew⟩ ?_
      iterate 3 (apply fl_cls; rfl; (intro s; first | (go_simp; rfl) | (go_simp; done)))
      refine zfo 64 #[.pointer (some ⟨B, 0, none⟩), .int .i64 k, .int .i64 j, .int .i64 2] (v := .int .i64 (Cut.loads x k j 2)) rfl (fun s => ?_) (fun s => ?_) ?_
      · (first | (go_simp; rfl) | (go_simp; done))
      · refine (zja k j 2 s.W (HC6.out.bel s.ok.1 s.ok.2) hv hcan hj hk).mono ?_
        rintro e w' ⟨rfl, hb, hk⟩
        exact ⟨rfl, s.ok.1.trans (hb.mono s.ok.1.size), hk⟩
      iterate 3 (apply fl_cls; rfl; (intro s; first | (go_simp; rfl) | (go_simp; done)))
      refine zfo 64 #[.pointer (some ⟨B, 0, none⟩), .int .i64 k, .int .i64 j, .int .i64 1] (v := .int .i64 (Cut.loads x k j 1)) rfl (fun s => ?_) (fun s => ?_) ?_
      · (first | (go_simp; rfl) | (go_simp; done))
      · refine (zja k j 1 s.W (HC6.out.bel s.ok.1 s.ok.2) hv hcan hj hk).mono ?_
        rintro e w' ⟨rfl, hb, hk⟩
        exact ⟨rfl, s.ok.1.trans (hb.mono s.ok.1.size), hk⟩
      refine fl_nil ?_
      clear q1 q2
      intro fl w7 hD _
      (simp only [flAct, dstOf, Act.put, List.foldl_nil, List.getElem?_toArray, List.getElem_toArray, List.getElem_cons_succ, List.getElem_cons_zero, List.setIfInBounds_toArray, List.set_cons_succ, List.set_cons_zero])
      obtain ⟨hb7, hk7⟩ := hD
      have e3 := d3.bel hb7 (by omega) (by omega)
      have r3 := e3.cell 0 rfl
      have r4 := e3.free 0
      have hlt3 := e3.lt
      simp only [List.drop_succ_cons, List.drop_zero]
      go_wp2
      refine zbv rfl (results3 rfl (zbc rfl) (zbc rfl) (zaw (w.heap.size + 1 + 1 + 1) (.int .i64 0) rfl ((e3.set 0 _).cell 0 rfl) (by kernel_rfl))) ⟨?_, (hbw6.out.trans (hb7.below_lt (by omega) (by omega))).setCell (p := ⟨w.heap.size + 1 + 1 + 1, 0, none⟩) (show w.heap.size ≤ w.heap.size + 1 + 1 + 1 by omega) _⟩
      rw [hfin.out]; rfl
end Go.Proofs.YtlkhjnpflohfeaaDoor

/- Contract of Floats. -/
namespace Go.Proofs.YtlkhjnpflohfeaaDoor
open Go Go.Proofs Go.RowKit

abbrev FloCls (n0 : Nat) (x : CutD) (ra ba la : Option Addr) (rc bc lc : Nat) (b n d : Int) (W : World) : Prop :=
  Blk W n0 28 (cutCells x ra ba la rc bc lc) ∧ Blk W (n0 + 1) 3 [.int .i64 b] ∧ Blk W (n0 + 1 + 1) 3 [.int .i64 n] ∧ Blk W (n0 + 1 + 1 + 1) 3 [.int .i64 d]

set_option maxHeartbeats 2000000 in
set_option maxRecDepth 100000 in
theorem ztk (x : CutD) (b n d : Int) (ra ba la : Option Addr) (rc bc lc : Nat) (w : World) (hin : CutIn w x ra ba la) :
    Calls Tryd.prog 18 #[cutVal x ra ba la rc bc lc, .int .i64 b, .int .i64 n, .int .i64 d] w fun e w' => e = .returned (.tuple #[.int .i64 (floatsR x b n d).1, .int .i64 (floatsR x b n d).2]) ∧ Below w.heap.size w w' := by
  have HIN := hide hin
  clear hin
  unfold cutVal
  go_enter_defers Tryd.func18, Tryd.ntmps18
  go_wp2_with fail
  obtain ⟨w5, hw5⟩ : ∃ w5, (((((w.alloc (Obj.cells (cutCells x ra ba la rc bc lc).toArray 28)).alloc (Obj.cells #[Value.int IntKind.i64 b] 3)).alloc (Obj.cells #[Value.int IntKind.i64 n] 3)).alloc (Obj.cells #[Value.int IntKind.i64 d] 3)).alloc (Obj.cells #[Value.int IntKind.i64 0] 31)) = w5 := ⟨_, rfl⟩
  simp only [cutCells] at hw5
  rw [hw5]
  have hz5 : w5.heap.size = w.heap.size + 1 + 1 + 1 + 1 + 1 := by rw [← hw5]; simp
  have hb5 : Below w.heap.size w w5 := by rw [← hw5]; (repeat' first | (with_reducible assumption) | (with_reducible exact Below.refl _ _) | (with_reducible refine Below.drew ?_) | (with_reducible refine Below.setCell ?_ ?_ _) | (with_reducible refine Below.alloc ?_ ?_ _) | (refine Below.trans ?_ (Below.mono (by assumption) ?_)) | omega | (simp only [World.size_alloc] at *; omega))
  have b0 : Blk w5 w.heap.size 28 (cutCells x ra ba la rc bc lc) := by rw [← hw5]; exact (((((Blk.new' _ (cutCells x ra ba la rc bc lc) _ rfl).alloc _).alloc _).alloc _).alloc _)
  have b1 : Blk w5 (w.heap.size + 1) 3 [.int .i64 b] := by rw [← hw5]; exact ((((Blk.new' _ [_] _ (by simp)).alloc _).alloc _).alloc _)
  have b2 : Blk w5 (w.heap.size + 1 + 1) 3 [.int .i64 n] := by rw [← hw5]; exact (((Blk.new' _ [_] _ (by simp)).alloc _).alloc _)
  have b3 : Blk w5 (w.heap.size + 1 + 1 + 1) 3 [.int .i64 d] := by rw [← hw5]; exact (Blk.new' _ [_] _ (by simp)).alloc _
  have b4 : Blk w5 (w.heap.size + 1 + 1 + 1 + 1) 31 [.int .i64 0] := by rw [← hw5]; exact Blk.new' _ [_] _ (by simp)
  have HIN5 := hide (HIN.out.below hb5)
  clear hw5
  have hcls : ∀ W, Below w5.heap.size w5 W → FloCls w.heap.size x ra ba la rc bc lc b n d W := fun W hW => ⟨b0.below hW (by omega), b1.below hW (by omega), b2.below hW (by omega), b3.below hW (by omega)⟩
  refine zei (C := FloCls w.heap.size x ra ba la rc bc lc b n d) (QP := fun i c W => (i = 2 ∨ i = 3) ∧ c = [{ v := .iface 114 (.int .i64 (toldErr x (isB x b n d))), recovered := false }] ∧ toldErr x (isB x b n d) ≠ 0 ∧ Below w5.heap.size w5 W) [0, 1, 4, 5, 6] [2, 3, 7, 8, 9] (by kernel_rfl) (by kernel_rfl) (hcls _ (Below.refl _ _).drew) ?_ ?_
  · have q0 : ∀ s : Cls (FloCls w.heap.size x ra ba la rc bc lc b n d), s.W.cell? ⟨w.heap.size, 0, none⟩ = some (.int .i64 x.depth.1) := fun s => s.ok.1.cell 0 rfl
    have q1 : ∀ s : Cls (FloCls w.heap.size x ra ba la rc bc lc b n d), s.W.cell? ⟨w.heap.size, 1, none⟩ = some (.int .i64 x.depth.2) := fun s => s.ok.1.cell 1 rfl
    have q2 : ∀ s : Cls (FloCls w.heap.size x ra ba la rc bc lc b n d), s.W.cell? ⟨w.heap.size, 2, none⟩ = some (.int .i64 x.leak.1) := fun s => s.ok.1.cell 2 rfl
    have q3 : ∀ s : Cls (FloCls w.heap.size x ra ba la rc bc lc b n d), s.W.cell? ⟨w.heap.size, 3, none⟩ = some (.int .i64 x.leak.2) := fun s => s.ok.1.cell 3 rfl
    have q4 : ∀ s : Cls (FloCls w.heap.size x ra ba la rc bc lc b n d), s.W.cell? ⟨w.heap.size, 4, none⟩ = some (.slice ra x.rain.length rc) := fun s => s.ok.1.cell 4 rfl
    have q5 : ∀ s : Cls (FloCls w.heap.size x ra ba la rc bc lc b n d), s.W.cell? ⟨w.heap.size, 5, none⟩ = some (.int .i64 x.most) := fun s => s.ok.1.cell 5 rfl
    have q6 : ∀ s : Cls (FloCls w.heap.size x ra ba la rc bc lc b n d), s.W.cell? ⟨w.heap.size, 6, none⟩ = some (.slice ba x.boats.length bc) := fun s => s.ok.1.cell 6 rfl
    have q7 : ∀ s : Cls (FloCls w.heap.size x ra ba la rc bc lc b n d), s.W.cell? ⟨w.heap.size, 7, none⟩ = some (.slice la x.looks.length lc) := fun s => s.ok.1.cell 7 rfl
    have q8 : ∀ s : Cls (FloCls w.heap.size x ra ba la rc bc lc b n d), s.W.cell? ⟨w.heap.size + 1, 0, none⟩ = some (.int .i64 b) := fun s => s.ok.2.1.cell 0 rfl
    have q9 : ∀ s : Cls (FloCls w.heap.size x ra ba la rc bc lc b n d), s.W.cell? ⟨w.heap.size + 1 + 1, 0, none⟩ = some (.int .i64 n) := fun s => s.ok.2.2.1.cell 0 rfl
    have q10 : ∀ s : Cls (FloCls w.heap.size x ra ba la rc bc lc b n d), s.W.cell? ⟨w.heap.size + 1 + 1 + 1, 0, none⟩ = some (.int .i64 d) := fun s => s.ok.2.2.2.cell 0 rfl
    iterate 5 (apply zus; rfl; (intro s; first | (go_simp; rfl) | (go_simp; done)))
    refine zur ?_
    clear q0 q1 q2 q3 q4 q5 q6 q7 q8 q9 q10
    simp only [Act.put, List.getElem_toArray, List.getElem_cons_succ, List.getElem_cons_zero, List.setIfInBounds_toArray, List.set_cons_succ, List.set_cons_zero]
    refine zgy 43 #[cutVal x ra ba la rc bc lc, .func (.func 57) #[] #[.pointer (some ⟨w.heap.size + 1, 0, none⟩), .pointer (some ⟨w.heap.size + 1 + 1, 0, none⟩), .pointer (some ⟨w.heap.size + 1 + 1 + 1, 0, none⟩)]] rfl ?_ ?_
    · (first | (go_simp; rfl) | (go_simp; done))
    refine zuu _ x ra ba la rc bc lc (isB x b n d) _ (HIN5.out.below (Below.refl _ _).drew) ?_ ?_ ?_
    · refine ⟨_, _, rfl, enters_of Tryd.func57 (by kernel_rfl) rfl, fun B M la lc w' hv hb _ _ hc => ?_⟩
      exact zps b n d (w.heap.size + 1) (w.heap.size + 1 + 1) (w.heap.size + 1 + 1 + 1) w' hc (Cut.valid_of hv).b4 (b1.below (zdl hb) (by show _ < w5.heap.size; omega)) (b2.below (zdl hb) (by show _ < w5.heap.size; omega)) (b3.below (zdl hb) (by show _ < w5.heap.size; omega))
    · rintro n w' rfl hn hb
      exact ⟨.inl rfl, rfl, hn, zdl hb⟩
    intro B M la' lc' w6 hv hday hB hM hb6' hcut
    have hb6 := zdl hb6'
    clear hb6'
    refine ⟨hcls _ hb6, ?_⟩
    refine zgy 46 #[.pointer (some ⟨B, 0, none⟩)] rfl ?_ ?_
    · (first | (go_simp; rfl) | (go_simp; done))
    refine ztw w6 hcut hv ?_ ?_
    · intro w7 he hb7
      rw [hday, he]
      exact ⟨.inr rfl, rfl, by decide, hb6.trans (hb7.below_lt hM (by exact hb6.size))⟩
    intro w7 hcan hb7 hcut7
    have hb7' : Below w5.heap.size w5 w7 := hb6.trans (hb7.below_lt hM hb6.size)
    refine ⟨hcls _ hb7', ?_⟩
    have hbb : Cut.isLoads x b n = true ∧ Cut.isDay x d = true := by simpa [isB] using hday
    obtain ⟨k, m, rfl, hk, rfl, hm, hm10⟩ := zmb hv hbb.1
    obtain ⟨j, rfl, hj⟩ := day_of hbb.2
    refine zgy 59 #[.pointer (some ⟨B, 0, none⟩), .int .i64 k, .int .i64 m, .int .i64 j] rfl ?_ ?_
    · (first | (go_simp; rfl) | (go_simp; done))
    refine (zco k m j w7 hcut7 hv hcan hj hk ⟨by omega, by omega⟩).mono ?_
    rintro e w8 ⟨rfl, hb8, hk8⟩
    have hb8' : Below w5.heap.size w5 w8 := hb7'.trans (hb8.below_lt hM hb7'.size)
    have e4 := b4.below hb8' (by omega)
    refine ⟨hcls _ hb8', ?_⟩
    have r4 := e4.cell 0 rfl
    have r5 := e4.free 0
    refine sp_val (w' := w8) (v := .int .i64 (Cut.floats (Cut.boatAt x.boats k) m (Cut.water x j))) rfl ?_ (hcls _ hb8') ?_
    · (first | (go_simp; rfl) | (go_simp; done))
    refine zpa (w' := w8.setCell ⟨w.heap.size + 1 + 1 + 1 + 1, 0, none⟩ (.int .i64 0)) rfl ?_ ?_ ?_
    · (first | (go_simp; rfl) | (go_simp; done))
    · have := hcls _ hb8'
      exact ⟨this.1.other (by omega) _ _, this.2.1.other (by omega) _ _, this.2.2.1.other (by omega) _ _, this.2.2.2.other (by omega) _ _⟩
    refine sp_nil ?_
    simp only [Act.put, List.getElem_toArray, List.getElem_cons_succ, List.getElem_cons_zero, List.setIfInBounds_toArray, List.set_cons_succ, List.set_cons_zero]
    have hfin : Hid (floatsR x k m j = (Cut.floats (Cut.boatAt x.boats k) m (Cut.water x j), 0)) := by
      unfold floatsR
      rw [hday, zci hv hcan, if_pos rfl]; rfl
    have s3 := e4.set 0 (.int .i64 0)
    have hbf := (hb5.trans (hb8'.mono (by omega))).setCell (p := ⟨w.heap.size + 1 + 1 + 1 + 1, 0, none⟩) (show w.heap.size ≤ w.heap.size + 1 + 1 + 1 + 1 by omega) (.int .i64 0)
    clear r4 r5 b0 b1 b2 b3 b4 hcls
    go_wp2
    refine zbv rfl (results2 rfl (zbc rfl) (zaw (w.heap.size + 1 + 1 + 1 + 1) (.int .i64 0) rfl (s3.cell 0 rfl) (by kernel_rfl))) ⟨?_, hbf⟩
    rw [hfin.out]; rfl
  · rintro i c w' a' ⟨hi, rfl, hne, hb⟩ hdef hsl
    have hb' := hb5.trans (hb.mono (by omega))
    have c4 := b4.below hb (by omega)
    have t9 := hsl 9 (by rcases hi with rfl | rfl <;> kernel_rfl)
    simp only [Exit.then]
    show Leaves Tryd.prog Tryd.f18 a'.tmps _ a'.defers (.panicking _) w'
    rw [hdef]
    have t8 := hsl 8 (by rcases hi with rfl | rfl <;> kernel_rfl)
    refine zax (c4.cell 0 rfl) (c4.free 0) rfl (results2 rfl (zbc t8) (zaw (w.heap.size + 1 + 1 + 1 + 1) _ (by rw [t9]; rfl) ((c4.set 0 _).cell 0 rfl) (by kernel_rfl))) ⟨?_, hb'.setCell (p := ⟨w.heap.size + 1 + 1 + 1 + 1, 0, none⟩) (show w.heap.size ≤ w.heap.size + 1 + 1 + 1 + 1 by omega) _⟩
    unfold floatsR
    rw [if_neg hne]; rfl
end Go.Proofs.YtlkhjnpflohfeaaDoor

/- The contract of sample. -/
namespace Go.Proofs.YtlkhjnpflohfeaaDoor
open Go Go.Proofs Go.RowKit

theorem zhq {w : World} {g : Nat} {T : TypeId} {cs : List Value} (h : Blk w g T cs) (ds : List Value) : Blk (w.setRow g ds.toArray) g T ds := setRow_heap w g _ _ T (0, 0) h
theorem zdt (w : World) (g k : Nat) (cs : Array Value) (h : k ≠ g) : (w.setRow g cs).heap[k]? = w.heap[k]? := by
  unfold World.setRow; simp [Array.getElem?_modify, Ne.symm h]
theorem zpb (w : World) (g : Nat) (cs : Array Value) : (w.setRow g cs).heap.size = w.heap.size := by unfold World.setRow; simp
theorem zbs {w : World} {g b : Nat} {T : TypeId} {cs : List Value} (h : Blk w b T cs) (hn : b ≠ g) (ds : Array Value) : Blk (w.setRow g ds) b T cs := (zdt w g b ds hn).trans h
theorem zew {N : Nat} {w w' : World} (h : Below N w w') (g : Nat) (hg : N ≤ g) (cs : Array Value) : Below N w (w'.setRow g cs) :=
  ⟨h.os, h.tape, h.output, by rw [zpb]; exact h.size, fun k hk => (zdt w' g k cs (by omega)).trans (h.block k hk)⟩

def sampleD (ls : List Look) : CutD := ⟨(10, 12), (1, 2), [(3, 5), (0, 0), (0, 4), (8, 9)], 20, [⟨(6, 7), 3, 4⟩, ⟨(13, 13), 2, 2⟩], ls⟩

set_option maxHeartbeats 1000000 in
set_option maxRecDepth 100000 in
theorem zhb (ls : List Look) (la : Option Addr) (lc : Nat) (w : World) (hl : ElemsR w la ls.length 3 (lookCell ls)) (hd : Dry w) :
    Calls Tryd.prog 41 #[.slice la ls.length lc] w fun e w' => ∃ ra ba, e = .returned (cutVal (sampleD ls) ra ba la 4 2 lc) ∧ Below w.heap.size w w' ∧ CutIn w' (sampleD ls) ra ba la := by
  have HL := hide hl
  have HD := hide hd
  clear hl hd
  go_enter Tryd.func41, Tryd.ntmps41
  go_wp2_with fail
  refine (zbl _ _ _).mono ?_
  rintro e w1 ⟨rfl, hb⟩
  have z1 : Blk w1 w.heap.size 28 [.int .i64 0, .int .i64 0, .int .i64 0, .int .i64 0, .slice none 0 0, .int .i64 0, .slice none 0 0, .slice none 0 0] := Blk.below (Blk.new _ _ _) hb (by simp)
  have b1 : Below w.heap.size w w1 := by (repeat' first | (with_reducible assumption) | (with_reducible exact Below.refl _ _) | (with_reducible refine Below.drew ?_) | (with_reducible refine Below.setCell ?_ ?_ _) | (with_reducible refine Below.alloc ?_ ?_ _) | (refine Below.trans ?_ (Below.mono (by assumption) ?_)) | omega | (simp only [World.size_alloc] at *; omega))
  have l1 := z1.lt
  clear hb
  go_wp2_with fail
  refine (zbl _ _ _).mono ?_
  rintro e w2 ⟨rfl, hb⟩
  have z2 := z1.below hb l1
  have b2 := b1.trans (hb.mono b1.size)
  have l2 := z2.lt
  clear hb z1 b1 l1
  go_wp2_with fail
  refine (zbl _ _ _).mono ?_
  rintro e w3 ⟨rfl, hb⟩
  have z3 := z2.below hb l2
  have b3 := b2.trans (hb.mono b2.size)
  have l3 := z3.lt
  clear hb z2 b2 l2
  go_wp2_with fail
  refine (zbl _ _ _).mono ?_
  rintro e w4 ⟨rfl, hb⟩
  have z4 := z3.below hb l3
  have b4 := b3.trans (hb.mono b3.size)
  have l4 := z4.lt
  clear hb z3 b3 l3
  go_wp2_with fail
  refine (zbl _ _ _).mono ?_
  rintro e w5 ⟨rfl, hb⟩
  have z5 := z4.below hb l4
  have b5 := b4.trans (hb.mono b4.size)
  have l5 := z5.lt
  clear hb z4 b4 l4
  go_wp2_with fail
  refine (zbl _ _ _).mono ?_
  rintro e w6 ⟨rfl, hb⟩
  have z6 := z5.below hb l5
  have b6 := b5.trans (hb.mono b5.size)
  have l6 := z6.lt
  clear hb z5 b5 l5
  go_wp2_with fail
  refine (zbl _ _ _).mono ?_
  rintro e w7 ⟨rfl, hb⟩
  have hz6 := l6
  have r7 : Blk w7 w6.heap.size 23 [.int .i64 3, .int .i64 5, .int .i64 0, .int .i64 0, .int .i64 0, .int .i64 4, .int .i64 8, .int .i64 9] := Blk.below (Blk.new _ _ _) hb (by simp)
  have z7 := (z6.alloc _).below hb (by simp; omega)
  have b7 : Below w.heap.size w w7 := by (repeat' first | (with_reducible assumption) | (with_reducible exact Below.refl _ _) | (with_reducible refine Below.drew ?_) | (with_reducible refine Below.setCell ?_ ?_ _) | (with_reducible refine Below.alloc ?_ ?_ _) | (refine Below.trans ?_ (Below.mono (by assumption) ?_)) | omega | (simp only [World.size_alloc] at *; omega))
  have l7 := z7.lt
  clear hb
  go_wp2_with fail
  refine (zbl _ _ _).mono ?_
  rintro e w8 ⟨rfl, hb⟩
  have z8 := z7.below hb l7
  have b8 := b7.trans (hb.mono b7.size)
  have r8 := r7.below hb r7.lt
  have lr8 := r8.lt
  have l8 := z8.lt
  clear hb z7 b7 l7 r7 z6 b6 l6
  have hb8 := hide b8
  go_wp2_with (refine wpList_store_row rfl 28 (.tmp 2) (.tmp 16) rfl w.heap.size _ rfl rfl _ _ (z8.alloc _) (by kernel_rfl) rfl (by first | rfl | simp [Value.oneCell']) ?_)
  have rr := zbs (r8.alloc (Obj.cells #[.int .i64 6, .int .i64 7, .int .i64 3, .int .i64 4, .int .i64 13, .int .i64 13, .int .i64 2, .int .i64 2] 51)) (show w6.heap.size ≠ w.heap.size by omega) (cutCells (sampleD ls) (some ⟨w6.heap.size, 0, none⟩) (some ⟨w8.heap.size, 0, none⟩) la 4 2 lc).toArray
  have rb := zbs (Blk.new w8 [.int .i64 6, .int .i64 7, .int .i64 3, .int .i64 4, .int .i64 13, .int .i64 13, .int .i64 2, .int .i64 2] 51) (show w8.heap.size ≠ w.heap.size by omega) (cutCells (sampleD ls) (some ⟨w6.heap.size, 0, none⟩) (some ⟨w8.heap.size, 0, none⟩) la 4 2 lc).toArray
  have zz := zhq (z8.alloc (Obj.cells #[.int .i64 6, .int .i64 7, .int .i64 3, .int .i64 4, .int .i64 13, .int .i64 13, .int .i64 2, .int .i64 2] 51)) (cutCells (sampleD ls) (some ⟨w6.heap.size, 0, none⟩) (some ⟨w8.heap.size, 0, none⟩) la 4 2 lc)
  have bb := zew (hb8.out.alloc (by omega) (Obj.cells #[.int .i64 6, .int .i64 7, .int .i64 3, .int .i64 4, .int .i64 13, .int .i64 13, .int .i64 2, .int .i64 2] 51)) w.heap.size (by omega) (cutCells (sampleD ls) (some ⟨w6.heap.size, 0, none⟩) (some ⟨w8.heap.size, 0, none⟩) la 4 2 lc).toArray
  clear z8 r8 b8 hb8
  have hW : ∀ u : List Value, Obj.cells u.toArray 51 (0, 0) = Obj.cells u.toArray 51 := fun _ => rfl
  generalize hg : (w8.alloc (Obj.cells #[.int .i64 6, .int .i64 7, .int .i64 3, .int .i64 4, .int .i64 13, .int .i64 13, .int .i64 2, .int .i64 2] 51)).setRow w.heap.size (cutCells (sampleD ls) (some ⟨w6.heap.size, 0, none⟩) (some ⟨w8.heap.size, 0, none⟩) la 4 2 lc).toArray = W at zz bb rr rb
  have hg' := hg
  simp only [cutCells, sampleD, List.length_cons, List.length_nil] at hg'
  rw [show (0 + 1 + 1 + 1 + 1 : Nat) = 4 from rfl] at hg'
  rw [hg']
  clear hg hg'
  have hlt := zz.lt
  have c0 := zz.cell 0 rfl
  have c1 := zz.cell 1 rfl
  have c2 := zz.cell 2 rfl
  have c3 := zz.cell 3 rfl
  have c4 := zz.cell 4 rfl
  have c5 := zz.cell 5 rfl
  have c6 := zz.cell 6 rfl
  have c7 := zz.cell 7 rfl
  refine bodyPost_ret (v := cutVal (sampleD ls) (some ⟨w6.heap.size, 0, none⟩) (some ⟨w8.heap.size, 0, none⟩) la 4 2 lc) (by unfold cutVal; simp [results, Tryd.results41, go_sem, *]) rfl ⟨_, _, rfl, bb, ?_, ?_, HL.out.below bb, HD.out.below bb⟩
  · refine .inr ⟨w6.heap.size, 0, rfl, rr.lt, fun i j hi hj => ?_⟩
    have hi' : i < 4 := hi
    have : (i = 0 ∨ i = 1 ∨ i = 2 ∨ i = 3) ∧ (j = 0 ∨ j = 1) := by omega
    obtain ⟨rfl | rfl | rfl | rfl, rfl | rfl⟩ := this
    all_goals exact rr.cell _ rfl
  · refine .inr ⟨w8.heap.size, 0, rfl, rb.lt, fun i j hi hj => ?_⟩
    have hi' : i < 2 := hi
    have : (i = 0 ∨ i = 1) ∧ (j = 0 ∨ j = 1 ∨ j = 2 ∨ j = 3) := by omega
    obtain ⟨rfl | rfl, rfl | rfl | rfl | rfl⟩ := this
    all_goals exact rb.cell _ rfl
end Go.Proofs.YtlkhjnpflohfeaaDoor

/- Contract of the insertion sort of Go's library, of a slice of uint. -/
namespace Go.Proofs.YtlkhjnpflohfeaaDoor
open Go Go.Proofs Go.RowKit

def uCells (l : List Nat) : List Value := l.map fun (v : Nat) => .int .u64 (v : Int)
theorem zrs (l : List Nat) (i : Nat) (h : i < l.length) : (uCells l)[i]? = some (.int .u64 (Srt.at' l i : Nat)) := by simp [uCells, Srt.at', h]
theorem zcx (l : List Nat) : (uCells l).length = l.length := by simp [uCells]
theorem zov (l : List Nat) (i j : Nat) : ((uCells l).set i (.int .u64 (Srt.at' l j : Nat))).set j (.int .u64 (Srt.at' l i : Nat)) = uCells (Srt.swap l i j) := by
  simp [uCells, Srt.swap, List.map_set]
def dCells (tl : List Value) (l : List Nat) : List Value := uCells l ++ tl
theorem zdw (tl : List Value) (l : List Nat) (i : Nat) (h : i < l.length) : (dCells tl l)[i]? = some (.int .u64 (Srt.at' l i : Nat)) := by
  unfold dCells; rw [List.getElem?_append_left (by rw [zcx]; exact h)]; exact zrs l i h
theorem zqa (tl : List Value) (l : List Nat) (i j : Nat) (hi : i < l.length) (hj : j < l.length) : ((dCells tl l).set i (.int .u64 (Srt.at' l j : Nat))).set j (.int .u64 (Srt.at' l i : Nat)) = dCells tl (Srt.swap l i j) := by
  unfold dCells
  rw [List.set_append_left _ _ (by rw [zcx]; exact hi), List.set_append_left _ _ (by simp [zcx]; exact hj), zov]
structure CmpOk (g : FuncId) (c : Nat → Nat → Int) (D : Nat → Prop) : Prop where
  enters : ∀ args w, (callFunc g args).run Tryd.prog w = .ok (.enter g args) w
  calls : ∀ a b, D a → D b → ∀ W, Calls Tryd.prog g #[.int .u64 (a : Nat), .int .u64 (b : Nat)] W fun e W' => e = .returned (.int .i64 (c a b)) ∧ W = W'

section
variable {g : FuncId} {c : Nat → Nat → Int} {D : Nat → Prop}
set_option maxHeartbeats 2000000 in
set_option maxRecDepth 100000 in
theorem zmc (hc : CmpOk g c D) (tl : List Value) (l : List Nat) (A cp a b : Nat) (w : World) (hl : Blk w A 87 (dCells tl l)) (hD : Srt.All D l) (hab : a < b) (hb : b ≤ l.length) (hn : l.length ≤ 100000) :
    Calls Tryd.prog 97 #[.slice (some ⟨A, 0, none⟩) l.length cp, .int .i64 a, .int .i64 b, .func (.func g) #[] #[]] w fun e w' => e = .returned (.tuple #[]) ∧ Bel A w.heap.size w w' ∧ Blk w' A 87 (dCells tl (Srt.insertion c l a b)) := by
  have HC := hide hc
  have HD := hide hD
  clear hc hD
  have hA := hl.lt
  go_enter Tryd.func97, Tryd.ntmps97
  go_wp2_with fail
  go_loopw [8, 9, 12, 13, 14, 15, 16, 17, 18, 19, 20, 21, 22, 23, 24, 25, 26, 27, 28, 29, 30, 31, 32, 33, 34, 35, 36, 37, 38, 39, 40, 41, 42, 43, 44, 45, 46, 47, 48, 49, 50, 51, 52] (fun v8 _ _ _ _ _ _ _ _ _ _ _ _ _ _ _ _ _ _ _ _ _ _ _ _ _ _ _ _ _ _ _ _ _ _ _ _ _ _ _ _ _ _ wr => ∃ m : Nat, a + 1 + m ≤ b ∧ v8 = .int .i64 ((a + 1 + m : Nat) : Int) ∧ Bel A w.heap.size w wr ∧ Hid (Blk wr A 87 (dCells tl (Srt.insTo c a l m)))) (fun v8 _ _ _ _ _ _ _ _ _ _ _ _ _ _ _ _ _ _ _ _ _ _ _ _ _ _ _ _ _ _ _ _ _ _ _ _ _ _ _ _ _ _ _ => b - (intOf v8).toNat)
  case atStart => exact ⟨0, by omega, by go_num, Bel.refl _ _ _, hl⟩
  case round =>
    obtain ⟨m, hm, rfl, hB, hbl⟩ := hrel
    obtain ⟨i, hi⟩ : ∃ i : Nat, i = a + 1 + m := ⟨_, rfl⟩
    have hlen := Srt.insTo_length c a l m
    have hall := Srt.All.insTo c a l HD.out m (by omega)
    rw [← hi]
    have HI := hide hi
    have hia : a + 1 ≤ i := by omega
    have HE := hide hlen
    have HAl := hide hall
    clear hi hlen hall
    by_cases hlt : i < b
    · have hlti : (i : Int) < b := by omega
      go_wp2_with fail
      go_loopw [9, 18, 19, 20, 21, 22, 23, 24, 25, 26, 27, 28, 29, 30, 31, 32, 33, 34, 35, 36, 37, 38, 39, 40, 41, 42, 43, 44, 45, 46, 47, 48, 49, 50, 51, 52] (fun v9 _ _ _ _ _ _ _ _ _ _ _ _ _ _ _ _ _ _ _ _ _ _ _ _ _ _ _ _ _ _ _ _ _ _ _ wr => ∃ (j : Nat) (cur : List Nat), a ≤ j ∧ j ≤ i ∧ v9 = .int .i64 j ∧ Bel A w.heap.size w wr ∧ Hid (Blk wr A 87 (dCells tl cur)) ∧ Hid (cur.length = l.length ∧ Srt.All D cur ∧ Srt.insDown c a cur (j - a) = Srt.insTo c a l (m + 1))) (fun v9 _ _ _ _ _ _ _ _ _ _ _ _ _ _ _ _ _ _ _ _ _ _ _ _ _ _ _ _ _ _ _ _ _ _ _ _ => (intOf v9).toNat - a)
      case atStart => exact ⟨i, _, by omega, Nat.le_refl _, rfl, hB, hbl.out, HE.out, HAl.out, by have := HI.out; rw [show i - a = m + 1 by omega]; rfl⟩
      case round =>
        clear hbl hB
        obtain ⟨j, cur, haj, hji, rfl, hB, hbl, hcur⟩ := hrel
        by_cases hj : a < j
        · have hlen := hcur.out.1
          have g0 := hbl.out.cell j (zdw tl cur j (by omega))
          have g1 := hbl.out.cell (j - 1) (zdw tl cur (j - 1) (by omega))
          have hj0 : (a : Int) < j := by omega
          have hjl : j < l.length := by omega
          clear hlen
          by_cases hlt2 : c (Srt.at' cur j) (Srt.at' cur (j - 1)) < 0
          · have heg := HC.out.enters
            go_wp2_with fail
            have hw1 : IntKind.i64.wrap ((j : Int) - 1) = (j : Int) - 1 := IntWalk.i64_in _ (by omega)
            have hw2 : (0 : Int) ≤ (j : Int) - 1 := by omega
            have hw3 : (j : Int) - 1 < l.length := by omega
            have hw4 : ((j : Int) - 1).toNat = j - 1 := by omega
            have hw5 : (j : Int) < l.length := by omega
            have hw6 : (1 : Int) ≤ j := by omega
            have HCall : Hid (∀ n, Calls Tryd.prog g #[.int .u64 (Srt.at' cur j : Nat), .int .u64 (Srt.at' cur (j - 1) : Nat)] (wr.drewN n) fun e w' => e = .returned (.int .i64 (c (Srt.at' cur j) (Srt.at' cur (j - 1)))) ∧ w' = wr.drewN n) := fun n =>
              (HC.out.calls _ _ (hcur.out.2.1 j (by have := hcur.out.1; omega)) (hcur.out.2.1 (j - 1) (by have := hcur.out.1; omega)) _).mono fun e W' ⟨he, hw⟩ => ⟨he, hw.symm⟩
            go_quiet ((exact Calls.quiet_of_same (HCall.out _)))
            clear heg
            go_wp2_with fail
            have h0 := hbl.out.free j
            have h1 := hbl.out.free (j - 1)
            have hAl := hbl.out.lt
            go_region
            clear hw1 hw2 hw3 hw4 hw5 hw6 h0 h1 g0 g1
            go_wp2
            have hsw := ((hbl.out.drewN (nq + 1)).set j (.int .u64 (Srt.at' cur (j - 1) : Nat))).set (j - 1) (.int .u64 (Srt.at' cur j : Nat))
            rw [zqa tl cur j (j - 1) (by have := hcur.out.1; omega) (by have := hcur.out.1; omega)] at hsw
            have hlen := hcur.out.1
            refine ⟨⟨j - 1, Srt.swap cur j (j - 1), by omega, by omega, by rw [show ((j - 1 : Nat) : Int) = (j : Int) - 1 by omega], ?_, hsw, by rw [Srt.swap_length]; exact hlen, hcur.out.2.1.swap (by omega) (by omega), ?_⟩, by simp [intOf]; omega⟩
            · exact ((hB.drewN _).setCell (p := ⟨A, j, none⟩) (.inr rfl) _).setCell (p := ⟨A, j - 1, none⟩) (.inr rfl) _
            · have := hcur.out.2.2
              obtain ⟨q, hq⟩ : ∃ q, j - a = q + 1 := ⟨j - a - 1, by omega⟩
              rw [hq] at this
              unfold Srt.insDown at this
              rw [show a + (q + 1) = j by omega, show a + q = j - 1 by omega, if_pos hlt2] at this
              rw [show j - 1 - a = q by omega]; exact this
          · have hge : (c (Srt.at' cur j) (Srt.at' cur (j - 1)) < 0) = False := by simpa using hlt2
            have hdec : decide (c (Srt.at' cur j) (Srt.at' cur (j - 1)) < 0) = false := by simpa using hlt2
            have heg := HC.out.enters
            go_wp2_with fail
            have hw1 : IntKind.i64.wrap ((j : Int) - 1) = (j : Int) - 1 := IntWalk.i64_in _ (by omega)
            have hw2 : (0 : Int) ≤ (j : Int) - 1 := by omega
            have hw3 : (j : Int) - 1 < l.length := by omega
            have hw4 : ((j : Int) - 1).toNat = j - 1 := by omega
            have hw5 : (j : Int) < l.length := by omega
            have hw6 : (1 : Int) ≤ j := by omega
            have HCall : Hid (∀ n, Calls Tryd.prog g #[.int .u64 (Srt.at' cur j : Nat), .int .u64 (Srt.at' cur (j - 1) : Nat)] (wr.drewN n) fun e w' => e = .returned (.int .i64 (c (Srt.at' cur j) (Srt.at' cur (j - 1)))) ∧ w' = wr.drewN n) := fun n =>
              (HC.out.calls _ _ (hcur.out.2.1 j (by have := hcur.out.1; omega)) (hcur.out.2.1 (j - 1) (by have := hcur.out.1; omega)) _).mono fun e W' ⟨he, hw⟩ => ⟨he, hw.symm⟩
            go_quiet ((exact Calls.quiet_of_same (HCall.out _)))
            clear hw1 hw2 hw3 hw4 hw5 hw6 heg g0 g1
            go_wp2
            have hfin : cur = Srt.insTo c a l (m + 1) := by
              have := hcur.out.2.2
              obtain ⟨q, hq⟩ : ∃ q, j - a = q + 1 := ⟨j - a - 1, by omega⟩
              rw [hq] at this
              unfold Srt.insDown at this
              rw [show a + (q + 1) = j by omega, show a + q = j - 1 by omega, if_neg (by omega)] at this
              exact this
            have hmi := HI.out
            exact ⟨⟨m + 1, by omega, by rw [show ((a + 1 + (m + 1) : Nat) : Int) = (i : Int) + 1 by omega], hB.drewN _, by rw [← hfin]; exact hbl.out.drewN _⟩, by simp [intOf]; omega⟩
        · obtain rfl : j = a := by omega
          have hd : decide ((j : Int) < j) = false := by simp
          go_wp2_with fail
          go_quiet (fail)
          go_wp2
          have hfin : cur = Srt.insTo c j l (m + 1) := by
            have := hcur.out.2.2
            rw [Nat.sub_self] at this; exact this
          have hmi := HI.out
          exact ⟨⟨m + 1, by omega, by rw [show ((j + 1 + (m + 1) : Nat) : Int) = (i : Int) + 1 by omega], hB.drewN _, by rw [← hfin]; exact hbl.out.drewN _⟩, by simp [intOf]; omega⟩
    · have hge : ¬ (i : Int) < b := by omega
      go_wp2
      go_end0
      have hmi := HI.out
      refine ⟨rfl, hB, ?_⟩
      unfold Srt.insertion
      rw [show b - a - 1 = m by omega]; exact hbl.out
end
end Go.Proofs.YtlkhjnpflohfeaaDoor

/- Contracts of math/bits' OnesCount64, OnesCount, and of the function that compares two sets by size. -/
namespace Go.Proofs.YtlkhjnpflohfeaaDoor
open Go Go.Proofs Go.RowKit

set_option maxHeartbeats 4000000 in
set_option maxRecDepth 100000 in
theorem zsn (v : Nat) (hv : v < 1024) (w : World) : Calls Tryd.prog 94 #[.int .u64 v] w fun e w' => e = .returned (.int .i64 (Srt.popc v : Nat)) ∧ w = w' := by
  go_enter Tryd.func94, Tryd.ntmps94
  go_wp2
  go_ret
  refine ⟨zdp ?_, rfl⟩
  revert hv
  revert v
  decide +kernel
set_option maxHeartbeats 400000 in
theorem zqy (v : Nat) (hv : v < 1024) (w : World) : Calls Tryd.prog 75 #[.int .u64 v] w fun e w' => e = .returned (.int .i64 (Srt.popc v : Nat)) ∧ w = w' := by
  go_enter Tryd.func75, Tryd.ntmps75
  go_wp2_with (go_at_call 94; refine (zsn v hv _).mono ?_; rintro e w' ⟨rfl, rfl⟩)
  go_ret
  exact ⟨rfl, rfl⟩
set_option maxHeartbeats 400000 in
theorem zld (a b : Nat) (ha : a < 1024) (hb : b < 1024) (w : World) : Calls Tryd.prog 74 #[.int .u64 a, .int .u64 b] w fun e w' => e = .returned (.int .i64 (Srt.bySize a b)) ∧ w = w' := by
  have h1 := Srt.popc_le a
  have h2 := Srt.popc_le b
  have HS : Hid (Srt.bySize a b = (Srt.popc a : Int) - (Srt.popc b : Int)) := rfl
  go_enter Tryd.func74, Tryd.ntmps74
  go_wp2_with fail
  refine (zqy a ha _).mono ?_
  rintro e w' ⟨rfl, rfl⟩
  go_wp2_with fail
  refine (zqy b hb _).mono ?_
  rintro e w' ⟨rfl, rfl⟩
  go_wp2
  go_ret
  exact ⟨zdp (by rw [HS.out]), rfl⟩
theorem zww : CmpOk 74 Srt.bySize (fun v => v < 1024) := ⟨enters_of Tryd.func74 (by kernel_rfl) rfl, fun a b ha hb W => zld a b ha hb W⟩
end Go.Proofs.YtlkhjnpflohfeaaDoor

/- Contract of Go's stable sort, of fewer than 20 sets. -/
namespace Go.Proofs.YtlkhjnpflohfeaaDoor
open Go Go.Proofs Go.RowKit

def StableOk (n : Nat) (l srt : List Nat) : Prop := ∀ (tl : List Value) (A cp : Nat) (w : World), l.length = n → n ≤ cp → cp ≤ n + tl.length → Dry w → 0 ≠ A → Blk w A 87 (dCells tl l) →
  Calls Tryd.prog 92 #[.slice (some ⟨A, 0, none⟩) n cp, .int .i64 n, .func (.func 74) #[] #[]] w fun e w' => e = .returned (.tuple #[]) ∧ Bel A w.heap.size w w' ∧ ∃ tl', Blk w' A 87 (dCells tl' srt)

set_option maxHeartbeats 1000000 in
set_option maxRecDepth 100000 in
theorem zcr (n : Nat) (l : List Nat) (hD : Srt.All (fun v => v < 1024) l) (h1 : 1 ≤ n) (h20 : n < 20) : StableOk n l (Srt.insertion Srt.bySize l 0 n) := by
  intro tl A cp w hl _ _ _ _ hbl
  subst hl
  have HD := hide hD
  have HB := hide hbl
  clear hD hbl
  go_enter Tryd.func92, Tryd.ntmps92
  go_wp2
  refine wp_loop_rounds 1 ?_
  rw [rounds_succ]
  have hgt : ¬ (20 : Int) ≤ l.length := by omega
  go_wp2_with fail
  refine (zmc zww tl l A cp 0 l.length _ HB.out HD.out (by omega) (Nat.le_refl _) (by omega)).mono ?_
  rintro e w' ⟨rfl, hb, hbl⟩
  go_wp2
  refine wp_loop_rounds 1 ?_
  rw [rounds_succ]
  have hgt2 : ¬ (20 : Int) < l.length := by omega
  go_wp2
  go_end0
  exact ⟨rfl, hb, tl, hbl⟩

set_option maxHeartbeats 400000 in
theorem zjy (n : Nat) (l srt : List Nat) (h : StableOk n l srt) (hl : l.length = n) (_hn : n ≤ 100000) (tl : List Value) (A cp : Nat) (w : World) (hc1 : n ≤ cp) (hc2 : cp ≤ n + tl.length) (hd1 : Dry w) (hd2 : 0 ≠ A) (hbl : Blk w A 87 (dCells tl l)) :
    Calls Tryd.prog 73 #[.slice (some ⟨A, 0, none⟩) n cp, .func (.func 74) #[] #[]] w fun e w' => e = .returned (.tuple #[]) ∧ Bel A w.heap.size w w' ∧ ∃ tl', Blk w' A 87 (dCells tl' srt) := by
  have H := hide h
  have HB := hide hbl
  have HL := hide hl
  have HC1 := hide hc1
  have HC2 := hide hc2
  have HD1 := hide hd1
  have HD2 := hide hd2
  clear h hbl hl hc1 hc2 hd1 hd2
  go_enter Tryd.func73, Tryd.ntmps73
  go_wp2_with fail
  refine (H.out tl A cp _ HL.out HC1.out HC2.out HD1.out HD2.out HB.out).mono ?_
  rintro e w' ⟨rfl, hb, tl', hk⟩
  go_wp2
  go_end0
  exact ⟨rfl, hb, tl', hk⟩
end Go.Proofs.YtlkhjnpflohfeaaDoor

/- Contract of last, of a slice of sets. -/
namespace Go.Proofs.YtlkhjnpflohfeaaDoor
open Go Go.Proofs Go.RowKit

set_option maxHeartbeats 1000000 in
set_option maxRecDepth 100000 in
theorem znx (b n cp : Nat) (g : FuncId) (first : Array Value) (l : List Nat) (M : Nat) (p : Nat → Bool) (I : World → Prop) (w : World) (hn : n ≤ 1000) (hI : I w) (hM : M < w.heap.size)
    (hb : ∀ W, I W → b < W.heap.size ∧ ∀ i, i < n → W.cell? ⟨b, i, none⟩ = some (.int .u64 (Srt.at' l i : Nat))) (ht : TestOk g first #[] n M (fun i => .int .u64 (Srt.at' l i : Nat)) p I) :
    Calls Tryd.prog 76 #[.slice (some ⟨b, 0, none⟩) n cp, .agg #[.func (.func g) first #[]]] w fun e w' => e = .returned (.int .i64 ((Cut.lead p n : Nat) - 1)) ∧ I w' ∧ Bel M w.heap.size w w' := by
  have HT := hide ht
  have HB := hide hb
  have HI := hide hI
  clear ht hb hI
  go_enter Tryd.func76, Tryd.ntmps76
  go_wp2_with fail
  go_loopw [5, 6, 9, 10, 11, 12, 13, 14, 15, 16, 17, 18, 19, 20] (fun _ _ v9 _ _ _ _ _ _ _ _ _ _ _ wr => ∃ k : Nat, k ≤ n ∧ v9 = .int .i64 k ∧ Hid (I wr) ∧ Blk wr w.heap.size 108 [.func (.func g) first #[]] ∧ Bel M w.heap.size w wr ∧ Hid (∀ j, j < k → p j = true)) (fun _ _ v9 _ _ _ _ _ _ _ _ _ _ _ _ => n - (intOf v9).toNat)
  case atStart => exact ⟨0, by omega, rfl, HT.out.below _ _ HI.out ((Below.refl _ _).alloc (Nat.le_refl _) _), Blk.new' _ [_] _ rfl, (Bel.refl _ _ _).alloc (Nat.le_refl _) _, fun j hj => by omega⟩
  case round =>
    obtain ⟨k, hk, rfl, hI, b0, hB, hall⟩ := hrel
    by_cases hlt : k < n
    · have hc := (HB.out wr hI.out).2 k hlt
      have hbl := (HB.out wr hI.out).1
      have c0 := b0.cell 0 rfl
      have hl0 := b0.lt
      have heg := HT.out.enters
      go_wp2_with fail
      clear heg
      have hcall := HT.out.calls k hlt wr hI.out
      rw [Array.append_empty] at hcall
      refine hcall.mono ?_
      clear hcall
      rintro e w2 ⟨rfl, hI2, hB2⟩
      have b2 := b0.bel hB2 hl0 (by omega)
      have HI2 := hide hI2
      clear hI2 hc c0 b0
      cases hp : p k with
      | true =>
        have HP := hide hp
        clear hp
        go_wp2
        refine ⟨⟨k + 1, by omega, by go_num, HI2, b2, hB.trans (hB2.mono hB.size), fun j hj => ?_⟩, by simp [intOf]; omega⟩
        by_cases hjk : j < k
        · exact hall.out j hjk
        · obtain rfl : j = k := by omega
          exact HP.out
      | false =>
        have HP := hide (Cut.lead_stop p k hp hall.out n hlt)
        clear hp
        go_wp2
        go_ret
        exact ⟨zdp (by rw [HP.out]), HI2.out, hB.trans (hB2.mono hB.size)⟩
    · obtain rfl : k = n := by omega
      go_wp2
      go_ret
      refine ⟨zdp (by rw [Cut.lead_all p k hall.out]), hI.out, hB⟩
end Go.Proofs.YtlkhjnpflohfeaaDoor

/- Contract of Clash. -/
namespace Go.Proofs.YtlkhjnpflohfeaaDoor
open Go Go.Proofs Go.RowKit

theorem zjz (k : Nat) (hk : k ≤ 5) : (Srt.sizeSets k).length = 2 ^ k ∧ (∀ i, i < 2 ^ k → Srt.at' (Srt.sizeSets k) i < 2 ^ k) ∧ (∃ i, i < 2 ^ k ∧ Srt.at' (Srt.sizeSets k) i = 2 ^ k - 1) := by
  have : k = 0 ∨ k = 1 ∨ k = 2 ∨ k = 3 ∨ k = 4 ∨ k = 5 := by omega
  rcases this with rfl | rfl | rfl | rfl | rfl | rfl
  · exact ⟨by decide +kernel, by decide +kernel, 0, by decide +kernel⟩
  · exact ⟨by decide +kernel, by decide +kernel, 1, by decide +kernel⟩
  · exact ⟨by decide +kernel, by decide +kernel, 3, by decide +kernel⟩
  · exact ⟨by decide +kernel, by decide +kernel, 7, by decide +kernel⟩
  · exact ⟨by decide +kernel, by decide +kernel, 15, by decide +kernel⟩
  · exact ⟨by decide +kernel, by decide +kernel, 31, by decide +kernel⟩
theorem zhu (k : Nat) (hk : k ≤ 4) : StableOk (2 ^ k) (List.range (2 ^ k)) (Srt.sizeSets k) := by
  have : k = 0 ∨ k = 1 ∨ k = 2 ∨ k = 3 ∨ k = 4 := by omega
  rcases this with rfl | rfl | rfl | rfl | rfl
  · have h : Srt.insertion Srt.bySize (List.range (2 ^ 0)) 0 (2 ^ 0) = Srt.sizeSets 0 := by decide +kernel
    rw [← h]; exact zcr _ _ (by unfold Srt.All; decide +kernel) (by omega) (by omega)
  · have h : Srt.insertion Srt.bySize (List.range (2 ^ 1)) 0 (2 ^ 1) = Srt.sizeSets 1 := by decide +kernel
    rw [← h]; exact zcr _ _ (by unfold Srt.All; decide +kernel) (by omega) (by omega)
  · have h : Srt.insertion Srt.bySize (List.range (2 ^ 2)) 0 (2 ^ 2) = Srt.sizeSets 2 := by decide +kernel
    rw [← h]; exact zcr _ _ (by unfold Srt.All; decide +kernel) (by omega) (by omega)
  · have h : Srt.insertion Srt.bySize (List.range (2 ^ 3)) 0 (2 ^ 3) = Srt.sizeSets 3 := by decide +kernel
    rw [← h]; exact zcr _ _ (by unfold Srt.All; decide +kernel) (by omega) (by omega)
  · have h : Srt.insertion Srt.bySize (List.range (2 ^ 4)) 0 (2 ^ 4) = Srt.sizeSets 4 := by decide +kernel
    rw [← h]; exact zcr _ _ (by unfold Srt.All; decide +kernel) (by omega) (by omega)

def OwnsU (W : World) (base : Nat) (v : Value) (l : List Nat) : Prop := W.ownsRow base 87 1 v l.length (uCells l)
theorem OwnsU.nil (W : World) (base : Nat) : OwnsU W base (.slice none 0 0) [] := ⟨rfl, .inl ⟨rfl, rfl⟩⟩
theorem OwnsU.below {W W' : World} {base : Nat} {v : Value} {l : List Nat} (h : OwnsU W base v l) (hb : Below W.heap.size W W') : OwnsU W' base v l := by
  obtain ⟨h1, h2⟩ := h
  refine ⟨h1, ?_⟩
  rcases h2 with h2 | ⟨g, cap, cur, a1, a2, a3, a4⟩
  · exact .inl h2
  · exact .inr ⟨g, cap, cur, a1, a2, (hb.block g (Array.getElem?_eq_some_iff.1 a3).1).trans a3, a4⟩
theorem OwnsU.row {W : World} {base : Nat} {v : Value} {l : List Nat} (h : OwnsU W base v l) (hl : 0 < l.length) : ∃ g cap tl, v = .slice (some ⟨g, 0, none⟩) l.length cap ∧ base ≤ g ∧ Blk W g 87 (dCells tl l) ∧ l.length ≤ cap ∧ cap ≤ l.length + tl.length := by
  obtain ⟨h1, h2⟩ := h
  rcases h2 with ⟨_, h2⟩ | ⟨g, cap, cur, a1, a2, a3, a4, a5, a6, a7⟩
  · omega
  · refine ⟨g, cap, cur.toList.drop (l.length * 1), a1, a2, ?_, a4, by simp; omega⟩
    unfold Blk dCells
    rw [← a7, List.take_append_drop]; exact a3
theorem OwnsU.snoc {W : World} {base : Nat} {v : Value} {l : List Nat} {s : Nat} (h : W.ownsRow base 87 1 v (l.length + 1) (uCells l ++ [.int .u64 (s : Nat)])) : OwnsU W base v (l ++ [s]) := by
  unfold OwnsU uCells
  rw [List.map_append, List.length_append]; exact h
theorem OwnsU.from {W : World} {base : Nat} {v : Value} {l : List Nat} (h : OwnsU W base v l) {j : Nat} (hj : v.ownBlock = some j) : base ≤ j := by
  obtain ⟨h1, h2⟩ := h
  rcases h2 with ⟨rfl, _⟩ | ⟨g, cap, cur, rfl, a2, a3, a4⟩
  · cases hj
  · simp only [Value.ownBlock, Option.some.injEq] at hj; omega
theorem zts : (Tryd.prog.info? 87).map (fun i => (i.zero, i.size, i.bytes)) = some (some (.int .u64 0), 1, 8) := by kernel_rfl

namespace Cut
theorem lead_lt (p : Nat → Bool) (n i : Nat) (hi : i < n) (hp : p i = false) : lead p n < n := by
  induction n with
  | zero => omega
  | succ n ih =>
    have hle : ∀ m, lead p m ≤ m := by
      intro m; induction m with
      | zero => exact Nat.le_refl _
      | succ m ihm => unfold lead; split <;> omega
    unfold lead
    split
    · rename_i h
      exfalso
      by_cases hin : i = n
      · subst hin; rw [hp] at h; cases h.2
      · have := ih (by omega); omega
    · have := hle n; omega
end Cut

set_option maxHeartbeats 2000000 in
set_option maxRecDepth 100000 in
theorem zoq (x : CutD) (ra ba la : Option Addr) (rc bc lc : Nat) (w : World) (hin : CutIn w x ra ba la) (hst : Cut.valid x = true → StableOk (2 ^ x.looks.length) (List.range (2 ^ x.looks.length)) (Srt.sizeSets x.looks.length)) :
    Calls Tryd.prog 28 #[cutVal x ra ba la rc bc lc] w fun e w' => e = .returned (.tuple #[.int .i64 (clashR x).1, .int .i64 (clashR x).2]) ∧ Below w.heap.size w w' := by
  have HIN := hide hin
  have HST := hide hst
  clear hin hst
  unfold cutVal
  go_enter_defers Tryd.func28, Tryd.ntmps28
  go_wp2_with fail
  obtain ⟨w2, hw2⟩ : ∃ w2, ((w.alloc (Obj.cells (cutCells x ra ba la rc bc lc).toArray 28)).alloc (Obj.cells #[Value.int IntKind.i64 0] 31)) = w2 := ⟨_, rfl⟩
  simp only [cutCells] at hw2
  rw [hw2]
  have hz2 : w2.heap.size = w.heap.size + 1 + 1 := by rw [← hw2]; simp
  have hb2 : Below w.heap.size w w2 := by rw [← hw2]; (repeat' first | (with_reducible assumption) | (with_reducible exact Below.refl _ _) | (with_reducible refine Below.drew ?_) | (with_reducible refine Below.setCell ?_ ?_ _) | (with_reducible refine Below.alloc ?_ ?_ _) | (refine Below.trans ?_ (Below.mono (by assumption) ?_)) | omega | (simp only [World.size_alloc] at *; omega))
  have b3 : Blk w2 (w.heap.size + 1) 31 [.int .i64 0] := by rw [← hw2]; exact Blk.new' _ [_] _ (by simp)
  have HIN2 := hide (HIN.out.below hb2)
  clear hw2
  refine (zeb _ x ra ba la rc bc lc true _ HIN2.out ?_).mono ?_
  · exact ⟨_, _, rfl, enters_of Tryd.func51 (by kernel_rfl) rfl, fun B M la lc w' _ _ _ _ _ => zlj B w'⟩
  rintro e w5 ⟨hb5, h⟩
  have c3 := b3.below hb5 (by omega)
  have hb5' := hb2.trans (hb5.mono (show w.heap.size ≤ w2.heap.size by omega))
  rcases h with ⟨hv, rfl⟩ | ⟨hv, hbf, rfl⟩ | ⟨hv, hbt, B, M, la', lc', hB, hM, rfl, hcut⟩
  · refine zax (c3.cell 0 rfl) (c3.free 0) rfl (results2 rfl (zbc rfl) (zaw (w.heap.size + 1) _ rfl ((c3.set 0 _).cell 0 rfl) (by kernel_rfl))) ⟨?_, hb5'.setCell (p := ⟨w.heap.size + 1, 0, none⟩) (show w.heap.size ≤ w.heap.size + 1 by omega) _⟩
    unfold clashR
    rw [if_pos hv]; rfl
  · cases hbf
  · have HCut := hide hcut
    have hk5 := (Cut.valid_of hv).k5
    have hev := zgm hv
    clear hcut
    go_wp2_with fail
    refine (zdv _ HCut.out hk5).mono ?_
    rintro e w' ⟨rfl, rfl⟩
    go_wp2_with fail
    refine (zml _ _ HCut.out hv hev).mono ?_
    rintro e w6 ⟨rfl, hb6, hk6⟩
    have hb6' := hb6.below_lt (N' := w2.heap.size) hM hb5.size
    have d3 := c3.below hb6' (by omega)
    have HC6 := hide (HCut.out.bel hb6 hk6)
    have hz6 := hb6.size
    have hz5 := hb5.size
    cases hcan : Cut.can x (Cut.every x) with
    | true =>
      go_wp2_with fail
      refine (ask_no _ _).mono ?_
      rintro e w' ⟨rfl, rfl⟩
      refine zax (d3.cell 0 rfl) (d3.free 0) rfl (results2 rfl (zbc rfl) (zaw (w.heap.size + 1) _ rfl ((d3.set 0 _).cell 0 rfl) (by kernel_rfl))) ⟨?_, (hb5'.trans (hb6'.mono (by omega))).setCell (p := ⟨w.heap.size + 1, 0, none⟩) (show w.heap.size ≤ w.heap.size + 1 by omega) _⟩
      unfold clashR
      rw [if_neg (by simp [hv]), if_pos hcan]; rfl
    | false =>
      have hfin : Hid (clashR x = (((clashSet x : Nat) : Int), 0)) := by
        unfold clashR
        rw [if_neg (by simp [hv]), if_neg (by simp [hcan])]; rfl
      have hbw6 : Hid (Below w.heap.size w w6) := hb5'.trans (hb6'.mono (by omega))
      go_wp2_with fail
      refine (zft _ _).mono ?_
      rintro e w' ⟨rfl, rfl⟩
      go_wp2_with fail
      refine (zdv _ HC6.out hk5).mono ?_
      rintro e w' ⟨rfl, rfl⟩
      obtain ⟨n, hn⟩ : ∃ n, n = 2 ^ x.looks.length := ⟨_, rfl⟩
      have hpow : n ≤ 2 ^ 5 := by rw [hn]; exact Nat.pow_le_pow_right (by omega) hk5
      have hpos : 0 < n := by rw [hn]; exact Nat.pow_pos (by omega)
      have hevn : Cut.every x = n - 1 := by unfold Cut.every; rw [hn]
      have HN := hide hn
      have HEV := hide hevn
      have hM6 := HC6.out.kept.lt
      rw [hevn]
      have hn1 : ((n - 1 : Nat) : Int) + 1 = (n : Int) := by omega
      clear hn hevn hev
      generalize hq : ((n - 1 : Nat) : Int) = q at *
      have hq0 : 0 ≤ q := by omega
      have hq1 : q ≤ 31 := by omega
      have HQ := hide hq
      have HQ1 := hide hn1
      clear hq hn1
      go_wp2_with fail
      go_loopw [5, 6, 19, 20, 21, 22, 23, 24, 25, 26] (fun v5 _ v19 _ _ _ _ _ _ _ wr => ∃ j : Nat, j ≤ n ∧ v19 = .int .u64 j ∧ Hid (OwnsU wr w6.heap.size v5 (List.range j)) ∧ Bel M w6.heap.size w6 wr ∧ Hid (Kept wr M x)) (fun _ _ v19 _ _ _ _ _ _ _ _ => n - (intOf v19).toNat)
      case atStart => exact ⟨0, by omega, rfl, OwnsU.nil _ _, Bel.refl _ _ _, HC6.out.kept⟩
      case round =>
        obtain ⟨j, hj, rfl, hown, hB', hkr⟩ := hrel
        have hqa : (n : Int) ≤ q + 1 := by have := HQ1.out; omega
        have hqb : q + 1 ≤ (n : Int) := by have := HQ1.out; omega
        by_cases hlt : j < n
        · have hlt' : (j : Int) < q + 1 := by omega
          obtain ⟨i0, hi, hz0, hz1, hz2⟩ := info_parts zts
          have hwz := hB'.size
          have HOB := hide (OwnsU.below hown.out ((Below.refl _ _).alloc (Nat.le_refl _) (Obj.cells #[Value.int IntKind.u64 j] 87)))
          have hc1 : Hid (∀ i u, [Value.int IntKind.u64 (j : Int)][i]? = some u → (wr.alloc (Obj.cells #[Value.int IntKind.u64 j] 87)).cell? (Addr.add ⟨wr.heap.size, 0, none⟩ i) = some u) := fun i u hi => by
            have := (Blk.new wr [Value.int IntKind.u64 (j : Int)] 87).cell i hi
            rwa [show Addr.add ⟨wr.heap.size, 0, none⟩ i = ⟨wr.heap.size, i, none⟩ by simp [Addr.add]; exact fun h => h.symm]
          have hc2 : Hid (∀ u ∈ [Value.int IntKind.u64 (j : Int)], u.oneCell' = true) := by
            intro u hu; simp only [List.mem_cons, List.not_mem_nil, or_false] at hu; subst hu; rfl
          have hjr : Hid ((List.range j).length = j) := List.length_range
          go_wp2_with (at_builtin; refine wpList_append_own _ rfl (.tmp 22) (.tmp 24) 102 rfl w6.heap.size 87 i0 _ 1 8 Tryd.underlying102 hi hz0 hz1 hz2 rfl (by decide) u5 _ _ rfl HOB.out ⟨wr.heap.size, 0, none⟩ 1 1 _ rfl rfl hc1.out hc2.out (by rw [hjr.out]; unfold maxLen; omega) (by rw [hjr.out]; omega) (by simp; omega) ?_; intro v' w9 hown9 hg9 _; have HO9 := hide (OwnsU.snoc (l := List.range j) (s := j) hown9); have HG9 := hide hg9; clear hown9 hg9)
          have hr : ∀ r, u5.ownBlock = some r → w6.heap.size ≤ r := fun r hr => OwnsU.from hown.out hr
          refine ⟨⟨j + 1, by omega, by go_num, by rw [List.range_succ]; exact HO9.out, ((hB'.alloc (by omega) _).grown HG9.out (Nat.le_refl _) (Nat.le_refl _) hr), (hkr.out.alloc _).grown (B0 := w6.heap.size) HG9.out (by omega) hr⟩, by simp [intOf]; omega⟩
        · obtain rfl : j = n := by omega
          obtain ⟨gb, cap, tl, rfl, hgb, hblk, hcp1, hcp2⟩ := OwnsU.row hown.out (by rw [List.length_range]; omega)
          rw [List.length_range] at hcp1 hcp2 ⊢
          have HC1 := hide hcp1
          have HC2 := hide hcp2
          clear hcp1 hcp2
          have HD1 := hide (HC6.out.dry.bel hB' HC6.out.nd)
          have HD2 := hide (show 0 ≠ gb by have := HC6.out.dry.lt; omega)
          have hge : ¬ (j : Int) < q + 1 := by omega
          have HBl := hide hblk
          have hgl := hblk.lt
          clear hblk
          have hsf := zjz x.looks.length hk5
          rw [← HN.out] at hsf
          have hwz := hB'.size
          go_wp2_with fail
          refine (zjy j (List.range j) (Srt.sizeSets x.looks.length) (by rw [HN.out]; exact HST.out hv) List.length_range (by omega) tl gb cap _ HC1.out HC2.out HD1.out HD2.out HBl.out).mono ?_
          rintro e w8 ⟨rfl, hb8, tl, hbl8⟩
          have hB8 : Bel M w6.heap.size w6 w8 := hB'.trans (Bel.of_below (hb8.below_lt hgb (by omega)))
          have HC8 := hide (HC6.out.bel hB8 (hkr.out.below (hb8.below_lt (N' := w6.heap.size) hgb (by omega)) hM6))
          have hz8 := hb8.size
          obtain ⟨hs1, hs2, hs3⟩ := hsf
          obtain ⟨i1, hi1, hi2⟩ := hs3
          have hL := Cut.lead_lt (fun i => Cut.can x (Srt.at' (Srt.sizeSets x.looks.length) i)) j i1 hi1 (by rw [hi2, ← HEV.out]; exact hcan)
          have hset : Hid (clashSet x = Srt.at' (Srt.sizeSets x.looks.length) (Cut.lead (fun i => Cut.can x (Srt.at' (Srt.sizeSets x.looks.length) i)) j)) := by
            unfold clashSet; rw [← HN.out]; rfl
          have hval := hs2 _ hL
          clear hi2
          go_wp2_with fail
          refine (znx gb j cap 72 #[.pointer (some ⟨B, 0, none⟩)] (Srt.sizeSets x.looks.length) M (fun i => Cut.can x (Srt.at' (Srt.sizeSets x.looks.length) i)) (KBase w8 M x) w8 (by omega) ⟨Bel.refl _ _ _, HC8.out.kept⟩ (by omega) (fun W hW => ?_) ?_).mono ?_
          · have := hbl8.bel hW.1 (by omega) (by omega)
            exact ⟨this.lt, fun i hi => this.cell i (zdw tl _ i (by rw [hs1]; exact hi))⟩
          · refine ⟨enters_of Tryd.func72 (by kernel_rfl) rfl, fun W W' hI hb => ⟨hI.1.trans (Bel.of_below (hb.mono hI.1.size)), hI.2.below hb hI.2.lt⟩, fun i hi W hW => ?_⟩
            refine (zml (Srt.at' (Srt.sizeSets x.looks.length) i) W (HC8.out.bel hW.1 hW.2) hv (by have := hs2 i hi; omega)).mono ?_
            rintro e W' ⟨he, hb, hk⟩
            exact ⟨he, ⟨hW.1.trans (hb.mono hW.1.size), hk⟩, hb⟩
          rintro e w9 ⟨rfl, ⟨hb9, hk9⟩, _⟩
          have hbl9 := hbl8.bel hb9 (by omega) (by omega)
          generalize Cut.lead (fun i => Cut.can x (Srt.at' (Srt.sizeSets x.looks.length) i)) j = L at *
          have hcell := hbl9.cell L (zdw tl _ L (by rw [hs1]; exact hL))
          have e3 := ((d3.bel hB8 (by omega) (by omega)).bel hb9 (by omega) (by omega))
          have r3 := e3.cell 0 rfl
          have r4 := e3.free 0
          have hlt3 := e3.lt
          generalize Srt.at' (Srt.sizeSets x.looks.length) L = V at *
          clear hs1 hs2 hbl8 hbl9 HBl
          have hLi : (L : Int) < j := by omega
          go_wp2
          refine zbv rfl (results2 rfl (zbc rfl) (zaw (w.heap.size + 1) (.int .i64 0) rfl ((e3.set 0 _).cell 0 rfl) (by kernel_rfl))) ⟨?_, (hbw6.out.trans ((hB8.below_lt (by omega) (by omega)).trans (hb9.below_lt (by omega) (by omega)))).setCell (p := ⟨w.heap.size + 1, 0, none⟩) (show w.heap.size ≤ w.heap.size + 1 by omega) _⟩
          rw [hfin.out, hset.out]; rfl
end Go.Proofs.YtlkhjnpflohfeaaDoor

/- Bit operations of int on numbers that are not negative. -/
namespace Go.Proofs.YtlkhjnpflohfeaaDoor
open Go Go.Proofs Go.RowKit
theorem znp (a : Nat) (ha : a < 9223372036854775808) : (BitVec.ofInt 64 (a : Int)).toNat = a := by
  rw [BitVec.toNat_ofInt]; omega
theorem zjs (a b : Nat) (ha : a < 9223372036854775808) (hb : b < 9223372036854775808) : bits BinOp.or IntKind.i64 (a : Int) (b : Int) = ((a ||| b : Nat) : Int) := by
  have h1 : (BitVec.ofInt 64 (a : Int) ||| BitVec.ofInt 64 (b : Int)).toNat = a ||| b := by rw [BitVec.toNat_or, znp a ha, znp b hb]
  have h2 : a ||| b < 2 ^ 63 := Nat.or_lt_two_pow (by omega) (by omega)
  show IntKind.i64.wrap ((BitVec.ofInt 64 (a : Int) ||| BitVec.ofInt 64 (b : Int)).toNat : Int) = _
  rw [h1]
  exact IntWalk.i64_in _ (by omega)
theorem or_pow (a k : Nat) (h : a < 2 ^ k) (hk : k ≤ 20) : bits BinOp.or IntKind.i64 (a : Int) (wrap64 ((2 : Int) ^ k)) = ((a + 2 ^ k : Nat) : Int) := by
  have h1 : (2 : Nat) ^ k ≤ 2 ^ 20 := Nat.pow_le_pow_right (by omega) hk
  have h2 : ((2 : Int) ^ k) = ((2 ^ k : Nat) : Int) := by simp
  rw [h2, show wrap64 ((2 ^ k : Nat) : Int) = ((2 ^ k : Nat) : Int) from IntWalk.wrap64_in _ (by omega), zjs _ _ (by omega) (by omega)]
  have h3 := Nat.two_pow_add_eq_or_of_lt h 1
  rw [Nat.mul_one] at h3
  rw [Nat.or_comm, ← h3, Nat.add_comm]
end Go.Proofs.YtlkhjnpflohfeaaDoor

/- Contract of Days. -/
namespace Go.Proofs.YtlkhjnpflohfeaaDoor
open Go Go.Proofs Go.RowKit
namespace Cut
end Cut
set_option maxHeartbeats 2000000 in
set_option maxRecDepth 100000 in
theorem zrm (x : CutD) (b n : Int) (ra ba la : Option Addr) (rc bc lc : Nat) (w : World) (hin : CutIn w x ra ba la) :
    Calls Tryd.prog 22 #[cutVal x ra ba la rc bc lc, .int .i64 b, .int .i64 n] w fun e w' => e = .returned (.tuple #[.int .i64 (daysR x b n).1.1, .int .i64 (daysR x b n).1.2, .int .i64 (daysR x b n).2]) ∧ Below w.heap.size w w' := by
  have HIN := hide hin
  clear hin
  unfold cutVal
  go_enter_defers Tryd.func22, Tryd.ntmps22
  go_wp2_with fail
  obtain ⟨w4, hw4⟩ : ∃ w4, ((((w.alloc (Obj.cells (cutCells x ra ba la rc bc lc).toArray 28)).alloc (Obj.cells #[Value.int IntKind.i64 b] 3)).alloc (Obj.cells #[Value.int IntKind.i64 n] 3)).alloc (Obj.cells #[Value.int IntKind.i64 0] 31)) = w4 := ⟨_, rfl⟩
  simp only [cutCells] at hw4
  rw [hw4]
  have hz4 : w4.heap.size = w.heap.size + 1 + 1 + 1 + 1 := by rw [← hw4]; simp
  have hb4 : Below w.heap.size w w4 := by rw [← hw4]; (repeat' first | (with_reducible assumption) | (with_reducible exact Below.refl _ _) | (with_reducible refine Below.drew ?_) | (with_reducible refine Below.setCell ?_ ?_ _) | (with_reducible refine Below.alloc ?_ ?_ _) | (refine Below.trans ?_ (Below.mono (by assumption) ?_)) | omega | (simp only [World.size_alloc] at *; omega))
  have b0 : Blk w4 w.heap.size 28 (cutCells x ra ba la rc bc lc) := by rw [← hw4]; exact ((((Blk.new' _ (cutCells x ra ba la rc bc lc) _ rfl).alloc _).alloc _).alloc _)
  have b1 : Blk w4 (w.heap.size + 1) 3 [.int .i64 b] := by rw [← hw4]; exact (((Blk.new' _ [_] _ (by simp)).alloc _).alloc _)
  have b2 : Blk w4 (w.heap.size + 1 + 1) 3 [.int .i64 n] := by rw [← hw4]; exact (Blk.new' _ [_] _ (by simp)).alloc _
  have b3 : Blk w4 (w.heap.size + 1 + 1 + 1) 31 [.int .i64 0] := by rw [← hw4]; exact Blk.new' _ [_] _ (by simp)
  have HIN4 := hide (HIN.out.below hb4)
  clear hw4
  refine (zeb _ x ra ba la rc bc lc (Cut.isLoads x b n) _ HIN4.out ?_).mono ?_
  · exact ⟨_, _, rfl, enters_of Tryd.func67 (by kernel_rfl) rfl, fun B M la lc w' hv hb _ _ hc => zwl b n (w.heap.size + 1) (w.heap.size + 1 + 1) w' hc (Cut.valid_of hv).b4 (b1.below hb (by omega)) (b2.below hb (by omega))⟩
  rintro e w5 ⟨hb5, h⟩
  have c0 := b0.below hb5 (by omega)
  have c1 := b1.below hb5 (by omega)
  have c2 := b2.below hb5 (by omega)
  have c3 := b3.below hb5 (by omega)
  have hb5' := hb4.trans (hb5.mono (show w.heap.size ≤ w4.heap.size by omega))
  rcases h with ⟨hv, rfl⟩ | ⟨hv, hbf, rfl⟩ | ⟨hv, hbt, B, M, la', lc', hB, hM, rfl, hcut⟩
  · refine zax (c3.cell 0 rfl) (c3.free 0) rfl (results3 rfl (zbc rfl) (zbc rfl) (zaw (w.heap.size + 1 + 1 + 1) _ rfl ((c3.set 0 _).cell 0 rfl) (by kernel_rfl))) ⟨?_, hb5'.setCell (p := ⟨w.heap.size + 1 + 1 + 1, 0, none⟩) (show w.heap.size ≤ w.heap.size + 1 + 1 + 1 by omega) _⟩
    unfold daysR
    rw [zbq hv]; rfl
  · refine zax (c3.cell 0 rfl) (c3.free 0) rfl (results3 rfl (zbc rfl) (zbc rfl) (zaw (w.heap.size + 1 + 1 + 1) _ rfl ((c3.set 0 _).cell 0 rfl) (by kernel_rfl))) ⟨?_, hb5'.setCell (p := ⟨w.heap.size + 1 + 1 + 1, 0, none⟩) (show w.heap.size ≤ w.heap.size + 1 + 1 + 1 by omega) _⟩
    unfold daysR
    rw [hbf, zbz hv]; rfl
  · have HCut := hide hcut
    clear hcut
    go_wp2_with fail
    cases hcan : Cut.can x (Cut.every x) with
    | false =>
      refine (zgx w5 HCut.out hv hcan).mono ?_
      rintro e w6 ⟨rfl, hb6, hk6⟩
      have hb6' := hb6.below_lt (N' := w4.heap.size) hM hb5.size
      have d3 := c3.below hb6' (by omega)
      refine zax (d3.cell 0 rfl) (d3.free 0) rfl (results3 rfl (zbc rfl) (zbc rfl) (zaw (w.heap.size + 1 + 1 + 1) _ rfl ((d3.set 0 _).cell 0 rfl) (by kernel_rfl))) ⟨?_, (hb5'.trans (hb6'.mono (by omega))).setCell (p := ⟨w.heap.size + 1 + 1 + 1, 0, none⟩) (show w.heap.size ≤ w.heap.size + 1 + 1 + 1 by omega) _⟩
      unfold daysR
      rw [hbt, zbm hv hcan]; rfl
    | true =>
      refine (zey w5 HCut.out hv hcan).mono ?_
      rintro e w6 ⟨rfl, hb6, hk6⟩
      have hb6' := hb6.below_lt (N' := w4.heap.size) hM hb5.size
      have HC6 := hide (HCut.out.bel hb6 hk6)
      have d0 := c0.below hb6' (by omega)
      have d1 := c1.below hb6' (by omega)
      have d2 := c2.below hb6' (by omega)
      have d3 := c3.below hb6' (by omega)
      obtain ⟨k, m, rfl, hk, rfl, hm, hm10⟩ := zmb hv hbt
      have hz6 := hb6'.size
      have hM6 := HC6.out.kept.lt
      have hn8 := (Cut.valid_of hv).n8
      have hfin : Hid (daysR x k m = ((((Cut.daysAll x k m : Nat) : Int), ((Cut.daysSome x k m : Nat) : Int)), 0)) := by
        unfold daysR
        rw [hbt, zci hv hcan, if_pos rfl]; rfl
      have hbw6 : Hid (Below w.heap.size w w6) := hb5'.trans (hb6'.mono (by omega))
      have d04 := d0.cell 4 rfl
      clear hbt b0 b1 b2 b3 c0 c1 c2 c3 hk6
      go_wp2_with fail
      go_loopw [10, 11, 12, 13, 22, 23, 24, 25, 26, 27, 28, 29, 30, 31, 32, 33, 34, 35, 36, 37, 38, 39, 40, 41, 42] (fun v10 v11 _ _ v22 _ _ _ _ _ _ _ _ _ _ _ _ _ _ _ _ _ _ _ _ wr => ∃ j : Nat, j ≤ x.rain.length + 1 ∧ v22 = .int .i64 j ∧ v10 = .int .i64 (Cut.setTo (fun d => Cut.floatsOn x k m d == 2) j : Nat) ∧ v11 = .int .i64 (Cut.setTo (fun d => Cut.floatsOn x k m d != 0) j : Nat) ∧ Bel M w6.heap.size w6 wr ∧ Hid (Kept wr M x)) (fun _ _ _ _ v22 _ _ _ _ _ _ _ _ _ _ _ _ _ _ _ _ _ _ _ _ _ => x.rain.length + 1 - (intOf v22).toNat)
      case atStart => exact ⟨0, by omega, rfl, rfl, rfl, Bel.refl _ _ _, HC6.out.kept⟩
      case round =>
        obtain ⟨j, hj, rfl, rfl, rfl, hB', hkr⟩ := hrel
        by_cases hlt : j < x.rain.length + 1
        · have e1 := (d1.bel hB' (by omega) (by omega)).cell 0 rfl
          have e2 := (d2.bel hB' (by omega) (by omega)).cell 0 rfl
          have HCr := hide (HC6.out.bel hB' hkr.out)
          have hlt' : (j : Int) < (x.rain.length : Int) + 1 := by omega
          rcases Cut.floats_or (Cut.boatAt x.boats k) m (Cut.water x j) with h0 | h0 | h0
          · have HU1 : Hid (Cut.setTo (fun d => Cut.floatsOn x k m d == 2) (j + 1) = Cut.setTo (fun d => Cut.floatsOn x k m d == 2) j) := by show Cut.setTo _ _ = _; simp [Cut.setTo, Cut.floatsOn, h0]
            have HU2 : Hid (Cut.setTo (fun d => Cut.floatsOn x k m d != 0) (j + 1) = Cut.setTo (fun d => Cut.floatsOn x k m d != 0) j) := by show Cut.setTo _ _ = _; simp [Cut.setTo, Cut.floatsOn, h0]
            go_wp2_with (go_at_call 59; refine (zco k m j _ HCr.out hv hcan (by omega) hk ⟨by omega, by omega⟩).mono ?_; rintro e w' ⟨rfl, hb, hk'⟩; rw [h0])
            refine ⟨⟨j + 1, by omega, by go_num, by rw [HU1.out], by rw [HU2.out], hB'.trans (hb.mono hB'.size), hk'⟩, by simp [intOf]; omega⟩
          · have HU1 : Hid (Cut.setTo (fun d => Cut.floatsOn x k m d == 2) (j + 1) = Cut.setTo (fun d => Cut.floatsOn x k m d == 2) j) := by show Cut.setTo _ _ = _; simp [Cut.setTo, Cut.floatsOn, h0]
            have HU2 : Hid (Cut.setTo (fun d => Cut.floatsOn x k m d != 0) (j + 1) = Cut.setTo (fun d => Cut.floatsOn x k m d != 0) j + 2 ^ j) := by show Cut.setTo _ _ = _; simp [Cut.setTo, Cut.floatsOn, h0]
            go_wp2_with (go_at_call 59; refine (zco k m j _ HCr.out hv hcan (by omega) hk ⟨by omega, by omega⟩).mono ?_; rintro e w' ⟨rfl, hb, hk'⟩; rw [h0])
            have HO := or_pow _ j (Cut.setTo_lt (fun d => Cut.floatsOn x k m d != 0) j) (by omega)
            refine ⟨⟨j + 1, by omega, by go_num, by rw [HU1.out], by rw [HU2.out, HO], hB'.trans (hb.mono hB'.size), hk'⟩, by simp [intOf]; omega⟩
          · have HU1 : Hid (Cut.setTo (fun d => Cut.floatsOn x k m d == 2) (j + 1) = Cut.setTo (fun d => Cut.floatsOn x k m d == 2) j + 2 ^ j) := by show Cut.setTo _ _ = _; simp [Cut.setTo, Cut.floatsOn, h0]
            have HU2 : Hid (Cut.setTo (fun d => Cut.floatsOn x k m d != 0) (j + 1) = Cut.setTo (fun d => Cut.floatsOn x k m d != 0) j + 2 ^ j) := by show Cut.setTo _ _ = _; simp [Cut.setTo, Cut.floatsOn, h0]
            go_wp2_with (go_at_call 59; refine (zco k m j _ HCr.out hv hcan (by omega) hk ⟨by omega, by omega⟩).mono ?_; rintro e w' ⟨rfl, hb, hk'⟩; rw [h0])
            have HO := or_pow _ j (Cut.setTo_lt (fun d => Cut.floatsOn x k m d != 0) j) (by omega)
            have HO2 := or_pow _ j (Cut.setTo_lt (fun d => Cut.floatsOn x k m d == 2) j) (by omega)
            refine ⟨⟨j + 1, by omega, by go_num, by rw [HU1.out, HO2], by rw [HU2.out, HO], hB'.trans (hb.mono hB'.size), hk'⟩, by simp [intOf]; omega⟩
        · obtain rfl : j = x.rain.length + 1 := by omega
          have e3 := d3.bel hB' (by omega) (by omega)
          have r3 := e3.cell 0 rfl
          have r4 := e3.free 0
          have hlt3 := e3.lt
          have hgt : ¬ ((x.rain.length + 1 : Nat) : Int) < (x.rain.length : Int) + 1 := by omega
          go_wp2
          refine zbv rfl (results3 rfl (zbc rfl) (zbc rfl) (zaw (w.heap.size + 1 + 1 + 1) (.int .i64 0) rfl ((e3.set 0 _).cell 0 rfl) (by kernel_rfl))) ⟨?_, (hbw6.out.trans (hB'.below_lt (by omega) (by omega))).setCell (p := ⟨w.heap.size + 1 + 1 + 1, 0, none⟩) (show w.heap.size ≤ w.heap.size + 1 + 1 + 1 by omega) _⟩
          rw [hfin.out]; rfl
end Go.Proofs.YtlkhjnpflohfeaaDoor

/- Contract of Until. -/
namespace Go.Proofs.YtlkhjnpflohfeaaDoor
open Go Go.Proofs Go.RowKit
namespace Cut
end Cut
set_option maxHeartbeats 2000000 in
set_option maxRecDepth 100000 in
theorem zoo (x : CutD) (b n d : Int) (ra ba la : Option Addr) (rc bc lc : Nat) (w : World) (hin : CutIn w x ra ba la) :
    Calls Tryd.prog 24 #[cutVal x ra ba la rc bc lc, .int .i64 b, .int .i64 n, .int .i64 d] w fun e w' => e = .returned (.tuple #[.int .i64 (untilR x b n d).1, .int .i64 (untilR x b n d).2]) ∧ Below w.heap.size w w' := by
  have HIN := hide hin
  clear hin
  unfold cutVal
  go_enter_defers Tryd.func24, Tryd.ntmps24
  go_wp2_with fail
  obtain ⟨w4, hw4⟩ : ∃ w4, (((((w.alloc (Obj.cells (cutCells x ra ba la rc bc lc).toArray 28)).alloc (Obj.cells #[Value.int IntKind.i64 b] 3)).alloc (Obj.cells #[Value.int IntKind.i64 n] 3)).alloc (Obj.cells #[Value.int IntKind.i64 d] 3)).alloc (Obj.cells #[Value.int IntKind.i64 0] 31)) = w4 := ⟨_, rfl⟩
  simp only [cutCells] at hw4
  rw [hw4]
  have hz4 : w4.heap.size = w.heap.size + 1 + 1 + 1 + 1 + 1 := by rw [← hw4]; simp
  have hb4 : Below w.heap.size w w4 := by rw [← hw4]; (repeat' first | (with_reducible assumption) | (with_reducible exact Below.refl _ _) | (with_reducible refine Below.drew ?_) | (with_reducible refine Below.setCell ?_ ?_ _) | (with_reducible refine Below.alloc ?_ ?_ _) | (refine Below.trans ?_ (Below.mono (by assumption) ?_)) | omega | (simp only [World.size_alloc] at *; omega))
  have b0 : Blk w4 w.heap.size 28 (cutCells x ra ba la rc bc lc) := by rw [← hw4]; exact (((((Blk.new' _ (cutCells x ra ba la rc bc lc) _ rfl).alloc _).alloc _).alloc _).alloc _)
  have b1 : Blk w4 (w.heap.size + 1) 3 [.int .i64 b] := by rw [← hw4]; exact ((((Blk.new' _ [_] _ (by simp)).alloc _).alloc _).alloc _)
  have b2 : Blk w4 (w.heap.size + 1 + 1) 3 [.int .i64 n] := by rw [← hw4]; exact (((Blk.new' _ [_] _ (by simp)).alloc _).alloc _)
  have b5 : Blk w4 (w.heap.size + 1 + 1 + 1) 3 [.int .i64 d] := by rw [← hw4]; exact (Blk.new' _ [_] _ (by simp)).alloc _
  have b3 : Blk w4 (w.heap.size + 1 + 1 + 1 + 1) 31 [.int .i64 0] := by rw [← hw4]; exact Blk.new' _ [_] _ (by simp)
  have HIN4 := hide (HIN.out.below hb4)
  clear hw4
  refine (zeb _ x ra ba la rc bc lc (isB x b n d) _ HIN4.out ?_).mono ?_
  · exact ⟨_, _, rfl, enters_of Tryd.func69 (by kernel_rfl) rfl, fun B M la lc w' hv hb _ _ hc => zrr b n d (w.heap.size + 1) (w.heap.size + 1 + 1) (w.heap.size + 1 + 1 + 1) w' hc (Cut.valid_of hv).b4 (b1.below hb (by omega)) (b2.below hb (by omega)) (b5.below hb (by omega))⟩
  rintro e w5 ⟨hb5, h⟩
  have c0 := b0.below hb5 (by omega)
  have c1 := b1.below hb5 (by omega)
  have c2 := b2.below hb5 (by omega)
  have c3 := b3.below hb5 (by omega)
  have c5 := b5.below hb5 (by omega)
  have hb5' := hb4.trans (hb5.mono (show w.heap.size ≤ w4.heap.size by omega))
  rcases h with ⟨hv, rfl⟩ | ⟨hv, hbf, rfl⟩ | ⟨hv, hbt, B, M, la', lc', hB, hM, rfl, hcut⟩
  · refine zax (c3.cell 0 rfl) (c3.free 0) rfl (results2 rfl (zbc rfl) (zaw (w.heap.size + 1 + 1 + 1 + 1) _ rfl ((c3.set 0 _).cell 0 rfl) (by kernel_rfl))) ⟨?_, hb5'.setCell (p := ⟨w.heap.size + 1 + 1 + 1 + 1, 0, none⟩) (show w.heap.size ≤ w.heap.size + 1 + 1 + 1 + 1 by omega) _⟩
    unfold untilR
    rw [zbq hv]; rfl
  · refine zax (c3.cell 0 rfl) (c3.free 0) rfl (results2 rfl (zbc rfl) (zaw (w.heap.size + 1 + 1 + 1 + 1) _ rfl ((c3.set 0 _).cell 0 rfl) (by kernel_rfl))) ⟨?_, hb5'.setCell (p := ⟨w.heap.size + 1 + 1 + 1 + 1, 0, none⟩) (show w.heap.size ≤ w.heap.size + 1 + 1 + 1 + 1 by omega) _⟩
    unfold untilR
    rw [hbf, zbz hv]; rfl
  · have HCut := hide hcut
    clear hcut
    go_wp2_with fail
    cases hcan : Cut.can x (Cut.every x) with
    | false =>
      refine (zgx w5 HCut.out hv hcan).mono ?_
      rintro e w6 ⟨rfl, hb6, hk6⟩
      have hb6' := hb6.below_lt (N' := w4.heap.size) hM hb5.size
      have d3 := c3.below hb6' (by omega)
      refine zax (d3.cell 0 rfl) (d3.free 0) rfl (results2 rfl (zbc rfl) (zaw (w.heap.size + 1 + 1 + 1 + 1) _ rfl ((d3.set 0 _).cell 0 rfl) (by kernel_rfl))) ⟨?_, (hb5'.trans (hb6'.mono (by omega))).setCell (p := ⟨w.heap.size + 1 + 1 + 1 + 1, 0, none⟩) (show w.heap.size ≤ w.heap.size + 1 + 1 + 1 + 1 by omega) _⟩
      unfold untilR
      rw [hbt, zbm hv hcan]; rfl
    | true =>
      refine (zey w5 HCut.out hv hcan).mono ?_
      rintro e w6 ⟨rfl, hb6, hk6⟩
      have hb6' := hb6.below_lt (N' := w4.heap.size) hM hb5.size
      have HC6 := hide (HCut.out.bel hb6 hk6)
      have d0 := c0.below hb6' (by omega)
      have d1 := c1.below hb6' (by omega)
      have d2 := c2.below hb6' (by omega)
      have d3 := c3.below hb6' (by omega)
      have d5 := c5.below hb6' (by omega)
      have hbb : Cut.isLoads x b n = true ∧ Cut.isDay x d = true := by simpa [isB] using hbt
      obtain ⟨k, m, rfl, hk, rfl, hm, hm10⟩ := zmb hv hbb.1
      obtain ⟨t, rfl, ht⟩ := day_of hbb.2
      have hz6 := hb6'.size
      have hM6 := HC6.out.kept.lt
      have hn8 := (Cut.valid_of hv).n8
      have hfin : Hid (untilR x k m t = untilV (Cut.untilOn x k m t)) := by
        unfold untilR
        rw [hbt, zci hv hcan, if_pos rfl]; rfl
      have hbw6 : Hid (Below w.heap.size w w6) := hb5'.trans (hb6'.mono (by omega))
      have d04 := d0.cell 4 rfl
      have d50 := d5.cell 0 rfl
      clear hbb hbt b0 b1 b2 b3 b5 c0 c1 c2 c3 c5 hk6
      go_wp2_with fail
      go_loopw [8, 11, 17, 18, 19, 20, 21, 22, 23, 24, 25, 26, 27, 28, 29, 30] (fun v8 v11 _ _ _ _ _ _ _ _ _ _ _ _ _ _ wr => ∃ j : Nat, j ≤ x.rain.length + 1 ∧ v11 = .int .i64 j ∧ v8 = .int .i64 0 ∧ Hid (Cut.untilOn x k m t = Cut.findFrom (fun i => Cut.floatsOn x k m i == 2) j (x.rain.length + 1 - j)) ∧ Bel M w6.heap.size w6 wr ∧ Hid (Kept wr M x)) (fun _ v11 _ _ _ _ _ _ _ _ _ _ _ _ _ _ _ => x.rain.length + 1 - (intOf v11).toNat)
      case atStart => exact ⟨t, by omega, rfl, rfl, rfl, Bel.refl _ _ _, HC6.out.kept⟩
      case round =>
        obtain ⟨j, hj, rfl, rfl, hfind, hB', hkr⟩ := hrel
        have e3 := d3.bel hB' (by omega) (by omega)
        have c4 := (d0.bel hB' (by omega) (by omega)).cell 4 rfl
        have hlt3 := e3.lt
        by_cases hlt : j < x.rain.length + 1
        · have e1 := (d1.bel hB' (by omega) (by omega)).cell 0 rfl
          have e2 := (d2.bel hB' (by omega) (by omega)).cell 0 rfl
          have HCr := hide (HC6.out.bel hB' hkr.out)
          have hlt' : (j : Int) ≤ (x.rain.length : Int) := by omega
          obtain ⟨q, hq⟩ : ∃ q, x.rain.length + 1 - j = q + 1 := ⟨x.rain.length - j, by omega⟩
          have hq' : q = x.rain.length + 1 - (j + 1) := by omega
          have hf := hfind.out
          rw [hq] at hf
          unfold Cut.findFrom at hf
          cases h2 : (Cut.floatsOn x k m j == 2) with
          | true =>
            have hfl : Cut.floats (Cut.boatAt x.boats k) m (Cut.water x j) = 2 := by simpa [Cut.floatsOn] using h2
            rw [h2, if_pos rfl] at hf
            have HF := hide hf
            have HFL := hide hfl
            clear hf hfl h2 hq hq'
            go_wp2_with (go_at_call 59; refine (zco k m j _ HCr.out hv hcan (by omega) hk ⟨by omega, by omega⟩).mono ?_; rintro e w' ⟨rfl, hb, hk'⟩; rw [HFL.out]; have f3 := e3.bel hb hlt3 (by omega); have r3 := f3.cell 0 rfl; have r4 := f3.free 0)
            refine zbv rfl (results2 rfl (zbc rfl) (zaw (w.heap.size + 1 + 1 + 1 + 1) (.int .i64 0) rfl ((f3.set 0 _).cell 0 rfl) (by kernel_rfl))) ⟨?_, (hbw6.out.trans ((hB'.trans (hb.mono hB'.size)).below_lt (by omega) (by omega))).setCell (p := ⟨w.heap.size + 1 + 1 + 1 + 1, 0, none⟩) (show w.heap.size ≤ w.heap.size + 1 + 1 + 1 + 1 by omega) _⟩
            rw [hfin.out, HF.out]; rfl
          | false =>
            have hfl : ¬ Cut.floats (Cut.boatAt x.boats k) m (Cut.water x j) = 2 := by simpa [Cut.floatsOn] using h2
            rw [h2, if_neg (by simp), hq'] at hf
            have HF := hide hf
            have hfb : (Cut.floats (Cut.boatAt x.boats k) m (Cut.water x j) == 2) = false := by simpa using hfl
            clear hf hfl h2 hq hq'
            go_wp2_with (go_at_call 59; refine (zco k m j _ HCr.out hv hcan (by omega) hk ⟨by omega, by omega⟩).mono ?_; rintro e w' ⟨rfl, hb, hk'⟩)
            refine ⟨⟨j + 1, by omega, by go_num, rfl, HF.out, hB'.trans (hb.mono hB'.size), hk'⟩, by simp [intOf]; omega⟩
        · obtain rfl : j = x.rain.length + 1 := by omega
          have r3 := e3.cell 0 rfl
          have r4 := e3.free 0
          have hgt : ¬ ((x.rain.length + 1 : Nat) : Int) ≤ (x.rain.length : Int) := by omega
          have hf := hfind.out
          rw [Nat.sub_self] at hf
          have HF := hide hf
          clear hf
          go_wp2
          refine zbv rfl (results2 rfl (zbc rfl) (zaw (w.heap.size + 1 + 1 + 1 + 1) (.int .i64 4) rfl ((e3.set 0 _).cell 0 rfl) (by kernel_rfl))) ⟨?_, (hbw6.out.trans (hB'.below_lt (by omega) (by omega))).setCell (p := ⟨w.heap.size + 1 + 1 + 1 + 1, 0, none⟩) (show w.heap.size ≤ w.heap.size + 1 + 1 + 1 + 1 by omega) _⟩
          rw [hfin.out, HF.out]; rfl
end Go.Proofs.YtlkhjnpflohfeaaDoor

/- Contract of Together. -/
namespace Go.Proofs.YtlkhjnpflohfeaaDoor
open Go Go.Proofs Go.RowKit
attribute [local go_sem ↓] zbu zbt
namespace Cut
end Cut
set_option maxHeartbeats 2000000 in
set_option maxRecDepth 100000 in
theorem zif (x : CutD) (d : Int) (ra ba la : Option Addr) (rc bc lc : Nat) (w : World) (hin : CutIn w x ra ba la) :
    Calls Tryd.prog 26 #[cutVal x ra ba la rc bc lc, .int .i64 d] w fun e w' => e = .returned (.tuple #[.int .i64 (togetherR x d).1, .int .i64 (togetherR x d).2]) ∧ Below w.heap.size w w' := by
  have HIN := hide hin
  clear hin
  unfold cutVal
  go_enter_defers Tryd.func26, Tryd.ntmps26
  go_wp2_with fail
  obtain ⟨w4, hw4⟩ : ∃ w4, (((w.alloc (Obj.cells (cutCells x ra ba la rc bc lc).toArray 28)).alloc (Obj.cells #[Value.int IntKind.i64 d] 3)).alloc (Obj.cells #[Value.int IntKind.i64 0] 31)) = w4 := ⟨_, rfl⟩
  simp only [cutCells] at hw4
  rw [hw4]
  have hz4 : w4.heap.size = w.heap.size + 1 + 1 + 1 := by rw [← hw4]; simp
  have hb4 : Below w.heap.size w w4 := by rw [← hw4]; (repeat' first | (with_reducible assumption) | (with_reducible exact Below.refl _ _) | (with_reducible refine Below.drew ?_) | (with_reducible refine Below.setCell ?_ ?_ _) | (with_reducible refine Below.alloc ?_ ?_ _) | (refine Below.trans ?_ (Below.mono (by assumption) ?_)) | omega | (simp only [World.size_alloc] at *; omega))
  have b0 : Blk w4 w.heap.size 28 (cutCells x ra ba la rc bc lc) := by rw [← hw4]; exact (((Blk.new' _ (cutCells x ra ba la rc bc lc) _ rfl).alloc _).alloc _)
  have b2 : Blk w4 (w.heap.size + 1) 3 [.int .i64 d] := by rw [← hw4]; exact (Blk.new' _ [_] _ (by simp)).alloc _
  have b3 : Blk w4 (w.heap.size + 1 + 1) 31 [.int .i64 0] := by rw [← hw4]; exact Blk.new' _ [_] _ (by simp)
  have HIN4 := hide (HIN.out.below hb4)
  clear hw4
  refine (zeb _ x ra ba la rc bc lc (Cut.isDay x d) _ HIN4.out ?_).mono ?_
  · exact ⟨_, _, rfl, enters_of Tryd.func70 (by kernel_rfl) rfl, fun B M la lc w' hv hb _ _ hc => zln d (w.heap.size + 1) w' hc (b2.below hb (by omega))⟩
  rintro e w5 ⟨hb5, h⟩
  have c0 := b0.below hb5 (by omega)
  have c2 := b2.below hb5 (by omega)
  have c3 := b3.below hb5 (by omega)
  have hb5' := hb4.trans (hb5.mono (show w.heap.size ≤ w4.heap.size by omega))
  rcases h with ⟨hv, rfl⟩ | ⟨hv, hbf, rfl⟩ | ⟨hv, hbt, B, M, la', lc', hB, hM, rfl, hcut⟩
  · refine zax (c3.cell 0 rfl) (c3.free 0) rfl (results2 rfl (zbc rfl) (zaw (w.heap.size + 1 + 1) _ rfl ((c3.set 0 _).cell 0 rfl) (by kernel_rfl))) ⟨?_, hb5'.setCell (p := ⟨w.heap.size + 1 + 1, 0, none⟩) (show w.heap.size ≤ w.heap.size + 1 + 1 by omega) _⟩
    unfold togetherR
    rw [zbq hv]; rfl
  · refine zax (c3.cell 0 rfl) (c3.free 0) rfl (results2 rfl (zbc rfl) (zaw (w.heap.size + 1 + 1) _ rfl ((c3.set 0 _).cell 0 rfl) (by kernel_rfl))) ⟨?_, hb5'.setCell (p := ⟨w.heap.size + 1 + 1, 0, none⟩) (show w.heap.size ≤ w.heap.size + 1 + 1 by omega) _⟩
    unfold togetherR
    rw [hbf, zbz hv]; rfl
  · have HCut := hide hcut
    clear hcut
    go_wp2_with fail
    cases hcan : Cut.can x (Cut.every x) with
    | false =>
      refine (zgx w5 HCut.out hv hcan).mono ?_
      rintro e w6 ⟨rfl, hb6, hk6⟩
      have hb6' := hb6.below_lt (N' := w4.heap.size) hM hb5.size
      have d3 := c3.below hb6' (by omega)
      refine zax (d3.cell 0 rfl) (d3.free 0) rfl (results2 rfl (zbc rfl) (zaw (w.heap.size + 1 + 1) _ rfl ((d3.set 0 _).cell 0 rfl) (by kernel_rfl))) ⟨?_, (hb5'.trans (hb6'.mono (by omega))).setCell (p := ⟨w.heap.size + 1 + 1, 0, none⟩) (show w.heap.size ≤ w.heap.size + 1 + 1 by omega) _⟩
      unfold togetherR
      rw [hbt, zbm hv hcan]; rfl
    | true =>
      refine (zey w5 HCut.out hv hcan).mono ?_
      rintro e w6 ⟨rfl, hb6, hk6⟩
      have hb6' := hb6.below_lt (N' := w4.heap.size) hM hb5.size
      have HC6 := hide (HCut.out.bel hb6 hk6)
      have d0 := c0.below hb6' (by omega)
      have d2 := c2.below hb6' (by omega)
      have d3 := c3.below hb6' (by omega)
      obtain ⟨t, rfl, ht⟩ := day_of hbt
      have hz6 := hb6'.size
      have hM6 := HC6.out.kept.lt
      have hn8 := (Cut.valid_of hv).n8
      have hfin : Hid (togetherR x t = (Cut.togetherOn x t, 0)) := by
        unfold togetherR
        rw [hbt, zci hv hcan, if_pos rfl]; rfl
      have hbw6 : Hid (Below w.heap.size w w6) := hb5'.trans (hb6'.mono (by omega))
      have d06 := d0.cell 6 rfl
      have hb4x := (Cut.valid_of hv).b4
      clear hbt b0 b2 b3 c0 c2 c3 hk6
      go_wp2_with fail
      go_loopw [7, 8, 16, 17, 18, 19, 20, 21, 22, 23, 24, 25, 26] (fun v7 _ v16 _ _ _ _ _ _ _ _ _ _ wr => ∃ j : Nat, j ≤ x.boats.length ∧ v16 = .int .i64 j ∧ v7 = .int .i64 (Cut.sumTo x t j) ∧ Bel M w6.heap.size w6 wr ∧ Hid (Kept wr M x)) (fun _ _ v16 _ _ _ _ _ _ _ _ _ _ _ => x.boats.length - (intOf v16).toNat)
      case atStart => exact ⟨0, by omega, rfl, rfl, Bel.refl _ _ _, HC6.out.kept⟩
      case round =>
        obtain ⟨j, hj, rfl, rfl, hB', hkr⟩ := hrel
        by_cases hlt : j < x.boats.length
        · have e2 := (d2.bel hB' (by omega) (by omega)).cell 0 rfl
          have HCr := hide (HC6.out.bel hB' hkr.out)
          have hs := Cut.sumTo_le hv t j (by omega)
          have hl := Cut.loads_le hv j t hlt 2
          have HU : Hid (Cut.sumTo x t (j + 1) = Cut.sumTo x t j + max 0 (Cut.loads x j t 2)) := rfl
          go_wp2_with (go_at_call 64; refine (zja j t 2 _ HCr.out hv hcan ht hlt).mono ?_; rintro e w' ⟨rfl, hb, hk'⟩)
          refine ⟨⟨j + 1, by omega, by go_num, by rw [HU.out], hB'.trans (hb.mono hB'.size), hk'⟩, by simp [intOf]; omega⟩
        · obtain rfl : j = x.boats.length := by omega
          have e3 := d3.bel hB' (by omega) (by omega)
          have r3 := e3.cell 0 rfl
          have r4 := e3.free 0
          have hlt3 := e3.lt
          go_wp2
          refine zbv rfl (results2 rfl (zbc rfl) (zaw (w.heap.size + 1 + 1) (.int .i64 0) rfl ((e3.set 0 _).cell 0 rfl) (by kernel_rfl))) ⟨?_, (hbw6.out.trans (hB'.below_lt (by omega) (by omega))).setCell (p := ⟨w.heap.size + 1 + 1, 0, none⟩) (show w.heap.size ≤ w.heap.size + 1 + 1 by omega) _⟩
          rw [hfin.out]; rfl
end Go.Proofs.YtlkhjnpflohfeaaDoor

/- What the examples of the document are, by the contracts' functions. -/
namespace Go.Proofs.YtlkhjnpflohfeaaDoor
open Go Go.Proofs
def look1 : Look := ⟨2, (14, 20)⟩
def look2 : Look := ⟨3, (5, 9)⟩
theorem ex_depth : depthR (sampleD []) 3 = ((7, 18), 0) := by decide +kernel
theorem ex_leak : leakR (sampleD [look1]) = ((1, 1), 0) := by decide +kernel
theorem zwc : floatsR (sampleD []) 0 2 0 = (1, 0) := by decide +kernel
theorem ex_loads : loadsR (sampleD []) 0 2 = ((0, 3), 0) := by decide +kernel
theorem ex_days : daysR (sampleD []) 0 1 = ((19, 31), 0) := by decide +kernel
theorem ex_until : untilR (sampleD []) 0 1 2 = (4, 0) := by decide +kernel
theorem zpv : togetherR (sampleD []) 4 = (2, 0) := by decide +kernel
theorem ex_clash : clashR (sampleD [look1, look2]) = (3, 0) := by decide +kernel
theorem zwd : depthR (sampleD [look1]) 0 = ((11, 12), 0) := by decide +kernel
end Go.Proofs.YtlkhjnpflohfeaaDoor

/- The contract of awake: the examples of the document hold. -/
namespace Go.Proofs.YtlkhjnpflohfeaaDoor
open Go Go.Proofs Go.RowKit

structure Aw (w W : World) (b1 b2 : Nat) (r1 a1 r2 a2 l2 : Option Addr) : Prop where
  bel : Below w.heap.size w W
  x1 : Blk W b1 28 (cutCells (sampleD []) r1 a1 none 4 2 0)
  x2 : Blk W b2 28 (cutCells (sampleD [look1]) r2 a2 l2 4 2 1)
  i1 : CutIn W (sampleD []) r1 a1 none
  i2 : CutIn W (sampleD [look1]) r2 a2 l2
theorem Aw.below {w W W' : World} {b1 b2 : Nat} {r1 a1 r2 a2 l2 : Option Addr} (h : Aw w W b1 b2 r1 a1 r2 a2 l2) (hb : Below W.heap.size W W') : Aw w W' b1 b2 r1 a1 r2 a2 l2 :=
  ⟨h.bel.trans (hb.mono h.bel.size), h.x1.below hb h.x1.lt, h.x2.below hb h.x2.lt, h.i1.below hb, h.i2.below hb⟩

theorem zgu {P : Program} {ops : Array Oper} {rest : List Oper} {o : Oper} {a : Act} {w : World} {Q : Exit → Act → World → Prop} (hgd : o.guard = none) (ty : TypeId) (x y : Operand) (ho : o.op = .store ty x y)
    (g : Nat) (cells : Array Value) (hx : a.eval x = .pointer (some ⟨g, 0, none⟩)) (hy : a.eval y = .agg cells)
    (t : TypeId) (old : Array Value) (hg : w.heap[g]? = some (.cells old t (0, 0))) (hi : (P.info? ty).map (·.size) = some cells.size)
    (hold : old.size = cells.size) (h1 : cells.all (·.oneCell') = true)
    (h : ∀ W', w.setRow g cells = W' → wpList P ops Q rest (a.put o.dst undef) W') : wpList P ops Q (o :: rest) a w :=
  wpList_store_row hgd ty x y ho g cells hx hy t old hg hi hold h1 (h _ rfl)

abbrev zcut : List Value := [.int .i64 0, .int .i64 0, .int .i64 0, .int .i64 0, .slice none 0 0, .int .i64 0, .slice none 0 0, .slice none 0 0]
theorem aw_start {w w3 : World} {r1 a1 r2 a2 l2 : Option Addr} (hbw : Below w.heap.size w w3) (hi1 : CutIn w3 (sampleD []) r1 a1 none) (hi2 : CutIn w3 (sampleD [look1]) r2 a2 l2) :
    Aw w ((((w3.alloc (Obj.cells zcut.toArray 28)).alloc (Obj.cells zcut.toArray 28)).setRow w3.heap.size (cutCells (sampleD []) r1 a1 none 4 2 0).toArray).setRow (w3.heap.size + 1) (cutCells (sampleD [look1]) r2 a2 l2 4 2 1).toArray) w3.heap.size (w3.heap.size + 1) r1 a1 r2 a2 l2 := by
  have hbb : Below w3.heap.size w3 ((((w3.alloc (Obj.cells zcut.toArray 28)).alloc (Obj.cells zcut.toArray 28)).setRow w3.heap.size (cutCells (sampleD []) r1 a1 none 4 2 0).toArray).setRow (w3.heap.size + 1) (cutCells (sampleD [look1]) r2 a2 l2 4 2 1).toArray) := zew (zew (((Below.refl _ _).alloc (Nat.le_refl _) _).alloc (by simp) _) _ (Nat.le_refl _) _) _ (by omega) _
  refine ⟨hbw.trans (hbb.mono hbw.size), ?_, ?_, hi1.below hbb, hi2.below hbb⟩
  · exact zbs (zhq ((Blk.new w3 zcut 28).alloc _) (cutCells (sampleD []) r1 a1 none 4 2 0)) (by omega) _
  · exact zhq (zbs (Blk.new' _ zcut 28 (by simp)) (by omega) _) (cutCells (sampleD [look1]) r2 a2 l2 4 2 1)

theorem zbo {W : World} {b : Nat} {r a l : Option Addr} {ls : List Look} {lc : Nat} (h : Blk W b 28 (cutCells (sampleD ls) r a l 4 2 lc)) :
    W.cell? ⟨b, 0, none⟩ = some (.int .i64 10) ∧ W.cell? ⟨b, 1, none⟩ = some (.int .i64 12) ∧ W.cell? ⟨b, 2, none⟩ = some (.int .i64 1) ∧ W.cell? ⟨b, 3, none⟩ = some (.int .i64 2) ∧
    W.cell? ⟨b, 4, none⟩ = some (.slice r 4 4) ∧ W.cell? ⟨b, 5, none⟩ = some (.int .i64 20) ∧ W.cell? ⟨b, 6, none⟩ = some (.slice a 2 2) ∧ W.cell? ⟨b, 7, none⟩ = some (.slice l ls.length lc) :=
  ⟨h.cell 0 rfl, h.cell 1 rfl, h.cell 2 rfl, h.cell 3 rfl, h.cell 4 rfl, h.cell 5 rfl, h.cell 6 rfl, h.cell 7 rfl⟩

set_option maxHeartbeats 2000000 in
set_option maxRecDepth 100000 in
theorem zxh (w : World) (hd : Dry w) : Calls Tryd.prog 13 #[] w fun e w' => e = .returned (.bool true) ∧ Below w.heap.size w w' := by
  have HD := hide hd
  clear hd
  go_enter Tryd.func13, Tryd.ntmps13
  go_wp2_with fail
  refine (zhb [] none 0 _ (.inl rfl) HD.out).mono ?_
  rintro e w1 ⟨r1, a1, rfl, hb1, hi1⟩
  have HB1 := hide hb1
  have HI1 := hide hi1
  have hd1 := hide hi1.dry
  clear hb1 hi1
  go_wp2_with fail
  refine (zfm _ _ _ _).mono ?_
  rintro e w2 ⟨rfl, hb2⟩
  have HB2 := hide hb2
  clear hb2
  go_wp2_with fail
  have hbs : Below w2.heap.size w2 (w2.alloc (Obj.cells #[.int .i64 2, .int .i64 14, .int .i64 20] 55)) := (Below.refl _ _).alloc (Nat.le_refl _) _
  have hkl : Blk (w2.alloc (Obj.cells #[.int .i64 2, .int .i64 14, .int .i64 20] 55)) w2.heap.size 55 [.int .i64 2, .int .i64 14, .int .i64 20] := Blk.new w2 _ _
  refine (zhb [look1] (some ⟨w2.heap.size, 0, none⟩) 1 _ (.inr ⟨_, 0, rfl, by simp, fun i j hi hj => ?_⟩) ((hd1.out.below HB2.out).below hbs)).mono ?_
  · have : i = 0 ∧ (j = 0 ∨ j = 1 ∨ j = 2) := by have : i < 1 := hi; omega
    obtain ⟨rfl, rfl | rfl | rfl⟩ := this
    all_goals exact hkl.cell _ rfl
  rintro e w3 ⟨r2, a2, rfl, hb3, hi2⟩
  have hb13 : Below w1.heap.size w1 w3 := (HB2.out.trans (hbs.mono HB2.out.size)).trans (hb3.mono (by have := HB2.out.size; have := hbs.size; omega))
  have HI1' := hide (HI1.out.below hb13)
  have HI2 := hide hi2
  have hbw := hide (HB1.out.trans (hb13.mono HB1.out.size))
  have hl3 := hbw.out.size
  clear hb3 hi2 hb13 HI1 HB1 HB2 hd1 hbs hkl
  go_wp2_with first
    | (refine wpList_store_row rfl 28 (.tmp 1) (.tmp 23) rfl w3.heap.size _ rfl rfl _ _ ((Blk.new w3 [.int .i64 0, .int .i64 0, .int .i64 0, .int .i64 0, .slice none 0 0, .int .i64 0, .slice none 0 0, .slice none 0 0] 28).alloc _) (by kernel_rfl) rfl (by first | rfl | simp [Value.oneCell']) ?_)
    | (refine zgu rfl 28 (.tmp 2) (.tmp 26) rfl (w3.heap.size + 1) _ rfl rfl _ _ (zbs (Blk.new' _ [.int .i64 0, .int .i64 0, .int .i64 0, .int .i64 0, .slice none 0 0, .int .i64 0, .slice none 0 0, .slice none 0 0] 28 (by simp)) (by omega) _) (by kernel_rfl) rfl (by first | rfl | simp [Value.oneCell']) ?_; intro W0 hW; have HA0 := hide (hW ▸ aw_start hbw.out HI1'.out HI2.out); clear hW; have hp1 := HA0.out.x1.lt; obtain ⟨c0, c1, c2, c3, c4, c5, c6, c7⟩ := zbo HA0.out.x1; clear HI1' HI2 hbw)
  refine (zop (sampleD []) 3 r1 a1 none 4 2 0 _ HA0.out.i1).mono ?_
  rintro e W1 ⟨rfl, hb⟩
  simp only [ex_depth]
  have HA1 := hide (HA0.out.below hb)
  clear HA0 hb c0 c1 c2 c3 c4 c5 c6 c7 hp1
  have hp2 := HA1.out.x2.lt
  obtain ⟨c0, c1, c2, c3, c4, c5, c6, c7⟩ := zbo HA1.out.x2
  go_wp2_with fail
  refine (Leak_any (sampleD [look1]) r2 a2 _ 4 2 1 _ (HA1.out.below (by (repeat' first | (with_reducible assumption) | (with_reducible exact Below.refl _ _) | (with_reducible refine Below.drew ?_) | (with_reducible refine Below.setCell ?_ ?_ _) | (with_reducible refine Below.alloc ?_ ?_ _) | (refine Below.trans ?_ (Below.mono (by assumption) ?_)) | omega | (simp only [World.size_alloc, World.size_setCell, World.size_drew] at *; omega)))).i2).mono ?_
  rintro e W2 ⟨rfl, hb⟩
  simp only [ex_leak]
  have S3 : Blk W2 W1.heap.size 23 [.int .i64 7, .int .i64 18] := Blk.below (Blk.new _ _ _) hb (by simp)
  have HA2 := hide ((HA1.out.below (by (repeat' first | (with_reducible assumption) | (with_reducible exact Below.refl _ _) | (with_reducible refine Below.drew ?_) | (with_reducible refine Below.setCell ?_ ?_ _) | (with_reducible refine Below.alloc ?_ ?_ _) | (refine Below.trans ?_ (Below.mono (by assumption) ?_)) | omega | (simp only [World.size_alloc, World.size_setCell, World.size_drew] at *; omega)))).below hb)
  clear hb HA1 c0 c1 c2 c3 c4 c5 c6 c7 hp2
  have hp1 := HA2.out.x1.lt
  obtain ⟨c0, c1, c2, c3, c4, c5, c6, c7⟩ := zbo HA2.out.x1
  go_wp2_with fail
  refine (ztk (sampleD []) 0 2 0 r1 a1 none 4 2 0 _ (HA2.out.below (by (repeat' first | (with_reducible assumption) | (with_reducible exact Below.refl _ _) | (with_reducible refine Below.drew ?_) | (with_reducible refine Below.setCell ?_ ?_ _) | (with_reducible refine Below.alloc ?_ ?_ _) | (refine Below.trans ?_ (Below.mono (by assumption) ?_)) | omega | (simp only [World.size_alloc, World.size_setCell, World.size_drew] at *; omega)))).i1).mono ?_
  rintro e W3 ⟨rfl, hb⟩
  simp only [zwc]
  have S5 : Blk W3 W2.heap.size 23 [.int .i64 1, .int .i64 1] := Blk.below (Blk.new _ _ _) hb (by simp)
  replace S3 := (S3.alloc _).below hb (by simp; have := S3.lt; omega)
  have HA3 := hide ((HA2.out.below (by (repeat' first | (with_reducible assumption) | (with_reducible exact Below.refl _ _) | (with_reducible refine Below.drew ?_) | (with_reducible refine Below.setCell ?_ ?_ _) | (with_reducible refine Below.alloc ?_ ?_ _) | (refine Below.trans ?_ (Below.mono (by assumption) ?_)) | omega | (simp only [World.size_alloc, World.size_setCell, World.size_drew] at *; omega)))).below hb)
  clear hb HA2 c0 c1 c2 c3 c4 c5 c6 c7 hp1
  obtain ⟨c0, c1, c2, c3, c4, c5, c6, c7⟩ := zbo HA3.out.x1
  go_wp2_with fail
  refine (zxn (sampleD []) 0 2 r1 a1 none 4 2 0 _ HA3.out.i1).mono ?_
  rintro e W4 ⟨rfl, hb⟩
  simp only [ex_loads]
  replace S3 := S3.below hb S3.lt
  replace S5 := S5.below hb S5.lt
  have HA4 := hide (HA3.out.below hb)
  clear hb HA3 c0 c1 c2 c3 c4 c5 c6 c7
  obtain ⟨c0, c1, c2, c3, c4, c5, c6, c7⟩ := zbo HA4.out.x1
  go_wp2_with fail
  refine (zrm (sampleD []) 0 1 r1 a1 none 4 2 0 _ HA4.out.i1).mono ?_
  rintro e W5 ⟨rfl, hb⟩
  simp only [ex_days]
  replace S3 := S3.below hb S3.lt
  replace S5 := S5.below hb S5.lt
  have HA5 := hide (HA4.out.below hb)
  clear hb HA4 c0 c1 c2 c3 c4 c5 c6 c7
  obtain ⟨c0, c1, c2, c3, c4, c5, c6, c7⟩ := zbo HA5.out.x1
  go_wp2_with fail
  refine (zoo (sampleD []) 0 1 2 r1 a1 none 4 2 0 _ HA5.out.i1).mono ?_
  rintro e W6 ⟨rfl, hb⟩
  simp only [ex_until]
  replace S3 := S3.below hb S3.lt
  replace S5 := S5.below hb S5.lt
  have HA6 := hide (HA5.out.below hb)
  clear hb HA5 c0 c1 c2 c3 c4 c5 c6 c7
  obtain ⟨c0, c1, c2, c3, c4, c5, c6, c7⟩ := zbo HA6.out.x1
  go_wp2_with fail
  refine (zif (sampleD []) 4 r1 a1 none 4 2 0 _ HA6.out.i1).mono ?_
  rintro e W7 ⟨rfl, hb⟩
  simp only [zpv]
  replace S3 := S3.below hb S3.lt
  replace S5 := S5.below hb S5.lt
  have HA7 := hide (HA6.out.below hb)
  clear hb HA6 c0 c1 c2 c3 c4 c5 c6 c7
  go_wp2_with fail
  refine (zfm _ _ _ _).mono ?_
  rintro e W8 ⟨rfl, hb⟩
  replace S3 := S3.below hb S3.lt
  replace S5 := S5.below hb S5.lt
  have HA8 := hide (HA7.out.below hb)
  clear hb HA7
  go_wp2_with fail
  refine (zfm _ _ _ _).mono ?_
  rintro e W9 ⟨rfl, hb⟩
  replace S3 := S3.below hb S3.lt
  replace S5 := S5.below hb S5.lt
  have HA9 := hide (HA8.out.below hb)
  clear hb HA8
  go_wp2_with fail
  have hbs : Below W9.heap.size W9 (W9.alloc (Obj.cells #[.int .i64 2, .int .i64 14, .int .i64 20, .int .i64 3, .int .i64 5, .int .i64 9] 55)) := (Below.refl _ _).alloc (Nat.le_refl _) _
  have hkl : Blk (W9.alloc (Obj.cells #[.int .i64 2, .int .i64 14, .int .i64 20, .int .i64 3, .int .i64 5, .int .i64 9] 55)) W9.heap.size 55 [.int .i64 2, .int .i64 14, .int .i64 20, .int .i64 3, .int .i64 5, .int .i64 9] := Blk.new W9 _ _
  refine (zhb [look1, look2] (some ⟨W9.heap.size, 0, none⟩) 2 _ (.inr ⟨_, 0, rfl, by simp, fun i j hi hj => ?_⟩) ((HA9.out.below hbs).i1).dry).mono ?_
  · have : (i = 0 ∨ i = 1) ∧ (j = 0 ∨ j = 1 ∨ j = 2) := by have : i < 2 := hi; omega
    obtain ⟨rfl | rfl, rfl | rfl | rfl⟩ := this
    all_goals exact hkl.cell _ rfl
  rintro e W10 ⟨r3, a3, rfl, hb, hi3⟩
  replace S3 := (S3.below hbs S3.lt).below hb (by have := S3.lt; simp; omega)
  replace S5 := (S5.below hbs S5.lt).below hb (by have := S5.lt; simp; omega)
  have HA10 := hide ((HA9.out.below hbs).below hb)
  clear hb HA9 hbs hkl
  go_wp2_with fail
  refine (zoq (sampleD [look1, look2]) r3 a3 _ 4 2 2 _ hi3 (fun _ => zhu 2 (by omega))).mono ?_
  rintro e W11 ⟨rfl, hb⟩
  simp only [ex_clash]
  replace S3 := S3.below hb S3.lt
  replace S5 := S5.below hb S5.lt
  have HA11 := hide (HA10.out.below hb)
  clear hb HA10 hi3
  obtain ⟨c0, c1, c2, c3, c4, c5, c6, c7⟩ := zbo HA11.out.x2
  go_wp2_with fail
  refine (zop (sampleD [look1]) 0 r2 a2 _ 4 2 1 _ HA11.out.i2).mono ?_
  rintro e W12 ⟨rfl, hb⟩
  simp only [zwd]
  replace S3 := S3.below hb S3.lt
  replace S5 := S5.below hb S5.lt
  have HA12 := hide (HA11.out.below hb)
  clear hb HA11 c0 c1 c2 c3 c4 c5 c6 c7
  go_wp2_with fail
  have S21 : Blk (W12.alloc (Obj.cells #[.int .i64 11, .int .i64 12] 23)) W12.heap.size 23 [.int .i64 11, .int .i64 12] := Blk.new _ _ _
  replace S3 := S3.alloc (Obj.cells #[.int .i64 11, .int .i64 12] 23)
  replace S5 := S5.alloc (Obj.cells #[.int .i64 11, .int .i64 12] 23)
  have hb12 := hide (HA12.out.bel.alloc HA12.out.bel.size (Obj.cells #[.int .i64 11, .int .i64 12] 23))
  clear HA12
  generalize W12.alloc (Obj.cells #[.int .i64 11, .int .i64 12] 23) = W13 at *
  generalize W12.heap.size = p21 at *
  generalize W1.heap.size = p3 at *
  generalize W2.heap.size = p5 at *
  have g30 := S3.cell 0 rfl
  have g31 := S3.cell 1 rfl
  have g50 := S5.cell 0 rfl
  have g51 := S5.cell 1 rfl
  have g20 := S21.cell 0 rfl
  have g21 := S21.cell 1 rfl
  have l3 := S3.lt
  have l5 := S5.lt
  have l21 := S21.lt
  have hcl : ∃ s : Cls (Below (W13.heap.size) (W13)), (W13).drew = s.W := ⟨⟨_, (Below.refl _ _).drew⟩, rfl⟩
  have hne : Nonempty (Cls (Below (W13.heap.size) (W13))) := ⟨⟨_, Below.refl _ _⟩⟩
  have hS : ∀ (s : Cls (Below (W13.heap.size) (W13))) (b o : Nat), b < W13.heap.size → s.W.cell? ⟨b, o, none⟩ = (W13).cell? ⟨b, o, none⟩ := fun s b o h => s.ok.cell (p := ⟨b, o, none⟩) h
  have hSf : ∀ (s : Cls (Below (W13.heap.size) (W13))) (b o : Nat), b < W13.heap.size → s.W.frozen? ⟨b, o, none⟩ = (W13).frozen? ⟨b, o, none⟩ := fun s b o h => s.ok.frozen (p := ⟨b, o, none⟩) h
  refine zbp (S := Cls (Below W13.heap.size W13)) Cls.W (by kernel_rfl) (by kernel_rfl) hcl ?_
  clear hcl
  repeat (go_big_quiet_step ((go_at_call 36; refine (zbl _ _ _).mono ?_; rintro e w2 ⟨rfl, hb⟩; exact ⟨rfl, Cls.step _ (Nat.le_refl _) hb⟩)))
  refine wpQuiet_nil ?_
  intro s'
  have T21 := S21.below s'.ok S21.lt
  have hb14 := hide (hb12.out.trans (s'.ok.mono hb12.out.size))
  clear hS hSf hne S3 S5 S21 g30 g31 g50 g51 g20 g21 l3 l5 l21 hb12
  generalize s'.W = W14 at *
  clear s'
  have g20 := T21.cell 0 rfl
  have g21 := T21.cell 1 rfl
  have l21 := T21.lt
  go_wp2_with fail
  have hcl : ∃ s : Cls (Below (W14.heap.size) (W14)), (W14).drew = s.W := ⟨⟨_, (Below.refl _ _).drew⟩, rfl⟩
  have hne : Nonempty (Cls (Below (W14.heap.size) (W14))) := ⟨⟨_, Below.refl _ _⟩⟩
  have hS : ∀ (s : Cls (Below (W14.heap.size) (W14))) (b o : Nat), b < W14.heap.size → s.W.cell? ⟨b, o, none⟩ = (W14).cell? ⟨b, o, none⟩ := fun s b o h => s.ok.cell (p := ⟨b, o, none⟩) h
  have hSf : ∀ (s : Cls (Below (W14.heap.size) (W14))) (b o : Nat), b < W14.heap.size → s.W.frozen? ⟨b, o, none⟩ = (W14).frozen? ⟨b, o, none⟩ := fun s b o h => s.ok.frozen (p := ⟨b, o, none⟩) h
  refine zbg (S := Cls (Below W14.heap.size W14)) Cls.W 31 (by kernel_rfl) (by kernel_rfl) hcl ?_
  simp only [List.take_succ_cons, List.take_zero, List.drop_succ_cons, List.drop_zero]
  clear hcl
  repeat (go_big_quiet_step ((go_at_call 36; refine (zbl _ _ _).mono ?_; rintro e w2 ⟨rfl, hb⟩; exact ⟨rfl, Cls.step _ (Nat.le_refl _) hb⟩)))
  refine wpQuiet_nil ?_
  intro s'
  go_wp2
  refine bodyPost_ret (v := .bool true) (by simp [results, Tryd.results13, go_sem, *]) rfl ⟨rfl, hb14.out.trans (s'.ok.mono hb14.out.size)⟩
end Go.Proofs.YtlkhjnpflohfeaaDoor

/- The functions of package cut, told to the evaluator by their contracts: some of them. -/
namespace Go.Proofs.YtlkhjnpflohfeaaDoor
open Go Go.Proofs Go.RowKit
namespace Ev
set_option maxRecDepth 100000
def intsOf : List AV → Option (List Int)
  | [] => some []
  | .int .i64 n :: l => (intsOf l).map (n :: ·)
  | _ => none
theorem znz : ∀ {l : List AV} {ns : List Int}, intsOf l = some ns → l = ns.map (AV.int .i64)
  | [], ns, h => by cases h; rfl
  | v :: l, ns, h => by
    unfold intsOf at h
    split at h
    · rename_i e; cases e
    · rename_i n l' e
      obtain ⟨rfl, rfl⟩ := List.cons.inj e
      obtain ⟨ms, h1, rfl⟩ := Option.map_eq_some_iff.1 h
      rw [List.map_cons, ← znz h1]
    · cases h
def gCut (spec : CutD → List Int → Option AV) (args : List AV) (H : List AB) : Option AV :=
  match args with
  | v :: rest => (cutOf H v).bind fun c => (intsOf rest).bind fun ns => spec c ns
  | [] => none
theorem zjk {W : World} {ra : Option Addr} {n k : Nat} {f : Nat → Nat → Int} {g : Nat → Nat → Value} (h : ElemsI W ra n k f) (hg : ∀ i j, j < k → g i j = .int .i64 (f i j)) : ElemsR W ra n k g := by
  rcases h with h | ⟨b, off, h1, h2, h3⟩
  · exact .inl h
  · exact .inr ⟨b, off, h1, h2, fun i j hi hj => (h3 i j hi hj).trans (by rw [hg i j hj])⟩
theorem zib {C : Cfg} {W : World} {L : Nat → Prop} (h : Globs C W L) : Dry W := by
  have hv := h 0 _ rfl
  cases hv with
  | dead h => simp [headRef] at h
  | rp rs h1 h2 =>
    have a0 := (h1 0 _ rfl).2
    have a1 := (h1 1 _ rfl).2
    rw [vr_int (h2 0 _ rfl)] at a0
    rw [vr_int (h2 1 _ rfl)] at a1
    exact ⟨zjq a0, a0, a1⟩
theorem zob {C : Cfg} {W : World} (h : Dry W) : Globs C W (fun _ => False) := by
  intro g cs hg
  unfold globA at hg
  cases hb : Nat.beq g 0 with
  | false => simp only [hb] at hg; cases hg
  | true =>
    simp only [hb] at hg
    cases hg
    obtain rfl := Nat.eq_of_beq_eq_true hb
    refine .rp (fun j => if j = 0 then .int .i64 1048576 else .int .i64 (-1048576)) (fun j x hx => ⟨id, ?_⟩) (fun j x hx => ?_)
    · match j, hx with
      | 0, hx => exact h.c0
      | 1, hx => exact h.c1
      | j + 2, hx => simp at hx
    · match j, hx with
      | 0, hx => cases hx; exact .int
      | 1, hx => cases hx; exact .int
      | j + 2, hx => simp at hx
section
variable {C : Cfg} {W : World} {L : Nat → Prop} {μ : Mu} {H : List AB}
theorem cut_arg (hs : Sim Tryd.prog W L μ H) (hG : Globs C W L) {v : AV} {x : Value} {c : CutD} (hc : cutOf H v = some c) (hv : VR W L μ v x) :
    ∃ ra rc ba bc la lc, x = cutVal c ra ba la rc bc lc ∧ CutIn W c ra ba la := by
  obtain ⟨ra, rc, ba, bc, la, lc, rfl, g1, g2, g3⟩ := cut_val hs hc hv
  refine ⟨ra, rc, ba, bc, la, lc, rfl, ?_, ?_, ?_, zib hG⟩
  · exact zjk g1 fun i j _ => by unfold spanCell; split <;> rfl
  · exact zjk g2 fun i j _ => by unfold boatCell; repeat' split <;> try rfl
  · exact zjk g3 fun i j _ => by unfold lookCell; repeat' split <;> try rfl
theorem ints_arg {ns : List Int} : ∀ {xs : List Value}, VL W L μ (ns.map (AV.int .i64)) xs → xs = ns.map (Value.int .i64) := by
  induction ns with
  | nil => intro xs h; exact List.eq_nil_of_length_eq_zero h.1.symm
  | cons n ns ih =>
    intro xs h
    match xs, h with
    | [], h => exact absurd h.1 (by simp)
    | x :: xs, h =>
      rw [vr_int h.head, ih h.tail]; rfl
theorem zhl {spec : CutD → List Int → Option AV} {f : Nat}
    (hf : ∀ (c : CutD) (ns : List Int) (v : AV), spec c ns = some v → ∀ (ra ba la : Option Addr) (rc bc lc : Nat) (W : World), CutIn W c ra ba la →
      Calls Tryd.prog f (cutVal c ra ba la rc bc lc :: ns.map (Value.int .i64)).toArray W fun e W' => (∃ w, e = .returned w ∧ ∀ W L μ, VR W L μ v w) ∧ Below W.heap.size W W')
    (args : List AV) (H : List AB) (v : AV) (rargs : Array Value) (W : World) (L : Nat → Prop) (μ : Mu) (h : gCut spec args H = some v) (hv : VL W L μ args rargs.toList) (hs : Sim Tryd.prog W L μ H) (hG : Globs C W L) :
    CallsIn Fence.wide 0 Tryd.prog f rargs W fun e W' => (∃ w, e = .returned w ∧ VR W' L nomu v w) ∧ Below W.heap.size W W' := by
  unfold gCut at h
  split at h
  · rename_i u rest
    obtain ⟨c, h1, h2⟩ := Option.bind_eq_some_iff.1 h
    obtain ⟨ns, h3, h4⟩ := Option.bind_eq_some_iff.1 h2
    obtain rfl := znz h3
    obtain ⟨xs, hxs⟩ : ∃ xs, rargs.toList = xs := ⟨_, rfl⟩
    rw [hxs] at hv
    match xs, hv with
    | [], hv => exact absurd hv.1 (by simp)
    | x :: xs, hv =>
      obtain ⟨ra, rc, ba, bc, la, lc, rfl, hin⟩ := cut_arg hs hG h1 hv.head
      rw [ints_arg hv.tail] at hxs
      have e : rargs = (cutVal c ra ba la rc bc lc :: ns.map (Value.int .i64)).toArray := Array.ext' (by rw [hxs])
      subst e
      refine (callsIn_wide.2 (hf c ns v h4 ra ba la rc bc lc W hin)).mono ?_
      rintro e W' ⟨⟨w, rfl, hw⟩, hb⟩
      exact ⟨⟨w, rfl, hw _ _ _⟩, hb⟩
  · cases h
end
theorem zos (r : Int × Int) : ∀ W L μ, VR W L μ (twoA r) (.tuple #[.int .i64 r.1, .int .i64 r.2]) := by
  intro W L μ
  refine .tup (rs := [_, _]) rfl fun i x r' hx hr => ?_
  match i, hx, hr with
  | 0, hx, hr => cases hx; cases hr; exact .int
  | 1, hx, hr => cases hx; cases hr; exact .int
  | i + 2, hx, hr => simp at hx
theorem zxr (r : (Int × Int) × Int) : ∀ W L μ, VR W L μ (three r) (.tuple #[.int .i64 r.1.1, .int .i64 r.1.2, .int .i64 r.2]) := by
  intro W L μ
  refine .tup (rs := [_, _, _]) rfl fun i x r' hx hr => ?_
  match i, hx, hr with
  | 0, hx, hr => cases hx; cases hr; exact .int
  | 1, hx, hr => cases hx; cases hr; exact .int
  | 2, hx, hr => cases hx; cases hr; exact .int
  | i + 3, hx, hr => simp at hx
def sDepth (c : CutD) : List Int → Option AV | [d] => some (twoS (depthR c d)) | _ => none
def sLeak (c : CutD) : List Int → Option AV | [] => some (twoS (leakR c)) | _ => none
def sFloats (c : CutD) : List Int → Option AV | [b, n, d] => some (twoA (floatsR c b n d)) | _ => none
def sLoads (c : CutD) : List Int → Option AV | [b, d] => some (three (loadsR c b d)) | _ => none
def sFar (c : CutD) : List Int → Option AV | [] => some (.bool (farD c)) | _ => none
def sValid (c : CutD) : List Int → Option AV | [] => some (.bool (Cut.valid c)) | _ => none
def gAwake (args : List AV) (_ : List AB) : Option AV := match args with | [] => some (.bool true) | _ => none
def Known (f : Nat) : Prop := ∃ F, Tryd.prog.funcs[f]? = some F ∧ (F.name == "runtime.NumGoroutine") = false ∧ F.body.isNone = false
theorem far_ok (c : CutD) (ns : List Int) (v : AV) (h : sFar c ns = some v) (ra ba la : Option Addr) (rc bc lc : Nat) (W : World) (_hin : CutIn W c ra ba la) :
    Calls Tryd.prog 34 (cutVal c ra ba la rc bc lc :: ns.map (Value.int .i64)).toArray W fun e W' => (∃ w, e = .returned w ∧ ∀ W L μ, VR W L μ v w) ∧ Below W.heap.size W W' := by
  unfold sFar at h
  split at h <;> cases h
  exact (far_any c ra ba la rc bc lc W).mono fun e W' ⟨h1, h2⟩ => ⟨⟨_, h1, fun _ _ _ => .bool⟩, h2⟩
theorem zxs (c : CutD) (ns : List Int) (v : AV) (h : sValid c ns = some v) (ra ba la : Option Addr) (rc bc lc : Nat) (W : World) (hin : CutIn W c ra ba la) :
    Calls Tryd.prog 35 (cutVal c ra ba la rc bc lc :: ns.map (Value.int .i64)).toArray W fun e W' => (∃ w, e = .returned w ∧ ∀ W L μ, VR W L μ v w) ∧ Below W.heap.size W W' := by
  unfold sValid at h
  split at h <;> cases h
  exact (zsc c ra ba la rc bc lc W hin).mono fun e W' ⟨h1, h2⟩ => ⟨⟨_, h1, fun _ _ _ => .bool⟩, h2⟩
theorem zoy {rargs : Array Value} {W : World} {L : Nat → Prop} {μ : Mu} (h : VL W L μ [] rargs.toList) : rargs = #[] := Array.ext' (List.eq_nil_of_length_eq_zero (by have := h.1; simpa using this.symm))
end Ev
end Go.Proofs.YtlkhjnpflohfeaaDoor

/- A function with arguments that answers a bool, from the top. -/
namespace Go.Proofs.YtlkhjnpflohfeaaDoor
open Go Go.RowKit
namespace Ev
theorem zxx {P : Program} {C : Cfg} (hT : TblOk P C) {m f : Nat} {args : List AV} {rargs : Array Value} {b : Bool} {H' : List AB} {tc : List Nat} (h : Ev.call C m (.fn (.func f) [] []) args [] = some (.ret (.bool b), H', tc)) (W : World) (hG : Globs C W (fun _ => False))
    (hA : VL W (fun _ => False) nomu args rargs.toList) : CallsIn Fence.wide 0 P f rargs W fun e W' => e = .returned (.bool b) ∧ Below W.heap.size W W' := by
  have hok := call_ok hT m
  have hsim : Sim P W (fun _ => False) nomu [] := { live := fun i B h => (by cases h), dead := fun i b h _ => (by cases h), out := fun _ _ => rfl, inj := fun i j B h _ => (by cases h), lt := fun b h => h.elim }
  obtain ⟨r, W1, h1, h2⟩ := hok.sound (tc0 := []) h (Hp.start (P := P) hsim) hG
    (rf := .func (.func f) #[] #[]) (rargs := rargs) (.fn (rf := []) (rc := []) (by intro l; simp) rfl (by intro i x r h; simp at h) rfl (by intro i x r h; simp at h)) hA
  have e : (do let d ← Deferred.ofValue (.func (.func f) #[] #[]) rargs; invoke d.target d.args : Sem Next).run P W = .ok (.enter f rargs) W := by
    have hr : #[] ++ rargs ++ #[] = rargs := by simp
    simp only [Deferred.ofValue, Sem.run_bind, Sem.run_pure, Result.andThen, invoke, hr]
    exact hok.fn h _ _
  rw [e] at h1
  cases h1
  refine CallsIn.mono h2 ?_
  rintro en W' ⟨L', μ', c1, c2, _⟩
  cases en <;> simp only [CRel] at c1
  refine ⟨by rw [zbk c1], c2.env.1, c2.env.2.1, c2.env.2.2, c2.size, fun k hk => c2.same k hk fun i _ hi => by cases hi⟩
theorem vs_of {W : World} {μ : Mu} {ra : Option Addr} {n k cap : Nat} {f : Nat → Nat → Int} {es : List AV} (h : ElemsI W ra n k f) (hn : es.length = n) (hc : n ≤ cap) (hk : ∀ (i : Nat) (e : AV), es[i]? = some e → e.cells.length = k)
    (hv : ∀ (i : Nat) (e : AV) (j : Nat) (x : AV), es[i]? = some e → e.cells[j]? = some x → x = .int .i64 (f i j)) : VR W (fun _ => False) μ (.vs k es) (.slice ra n cap) := by
  subst hn
  by_cases h0 : es = []
  · subst h0; exact .vs0
  · rcases h with h | ⟨b, off, rfl, _, hcell⟩
    · exact absurd (List.eq_nil_of_length_eq_zero h) h0
    · refine .vs (fun i j => .int .i64 (f i j)) hc hk (fun i e j x h1 h2 => ⟨id, hcell i j (List.getElem?_eq_some_iff.1 h1).1 ?_⟩) (fun i e j x h1 h2 => ?_)
      · have := (List.getElem?_eq_some_iff.1 h2).1
        rw [hk i e h1] at this; exact this
      · rw [hv i e j x h1 h2]; exact .int
theorem zhh {α : Type} {l : List α} {g : α → AV} {i : Nat} {e : AV} (h : (l.map g)[i]? = some e) : ∃ a, l[i]? = some a ∧ e = g a := by
  rw [List.getElem?_map] at h
  obtain ⟨a, h1, h2⟩ := Option.map_eq_some_iff.1 h
  exact ⟨a, h1, h2.symm⟩
theorem cutA_vr {W : World} {μ : Mu} {c : CutD} {ra ba la : Option Addr} {rc bc lc : Nat} (h1 : c.rain.length ≤ rc) (h2 : c.boats.length ≤ bc) (h3 : c.looks.length ≤ lc)
    (g1 : ElemsI W ra c.rain.length 2 (fun i j => if j = 0 then (Cut.spanAt c.rain i).1 else (Cut.spanAt c.rain i).2))
    (g2 : ElemsI W ba c.boats.length 4 (fun i j => if j = 0 then (Cut.boatAt c.boats i).draws.1 else if j = 1 then (Cut.boatAt c.boats i).draws.2 else if j = 2 then (Cut.boatAt c.boats i).per else (Cut.boatAt c.boats i).room))
    (g3 : ElemsI W la c.looks.length 3 (fun i j => if j = 0 then (Cut.lookAt c.looks i).day else if j = 1 then (Cut.lookAt c.looks i).depth.1 else (Cut.lookAt c.looks i).depth.2)) :
    VR W (fun _ => False) μ (cutA c) (.agg #[.int .i64 c.depth.1, .int .i64 c.depth.2, .int .i64 c.leak.1, .int .i64 c.leak.2, .slice ra c.rain.length rc, .int .i64 c.most, .slice ba c.boats.length bc, .slice la c.looks.length lc]) := by
  have v1 : VR W (fun _ => False) μ (.vs 2 (c.rain.map spanE)) (.slice ra c.rain.length rc) := by
    refine vs_of g1 (by simp) h1 (fun i e h => ?_) (fun i e j x h hx => ?_)
    · obtain ⟨a, _, rfl⟩ := zhh h; rfl
    · obtain ⟨a, ha, rfl⟩ := zhh h
      have e : Cut.spanAt c.rain i = a := by unfold Cut.spanAt; simp [ha]
      rw [e]
      match j, hx with
      | 0, hx => cases hx; rfl
      | 1, hx => cases hx; rfl
      | j + 2, hx => simp [spanE, AV.cells] at hx
  have v2 : VR W (fun _ => False) μ (.vs 4 (c.boats.map boatE)) (.slice ba c.boats.length bc) := by
    refine vs_of g2 (by simp) h2 (fun i e h => ?_) (fun i e j x h hx => ?_)
    · obtain ⟨a, _, rfl⟩ := zhh h; rfl
    · obtain ⟨a, ha, rfl⟩ := zhh h
      have e : Cut.boatAt c.boats i = a := by unfold Cut.boatAt; simp [ha]
      rw [e]
      match j, hx with
      | 0, hx => cases hx; rfl
      | 1, hx => cases hx; rfl
      | 2, hx => cases hx; rfl
      | 3, hx => cases hx; rfl
      | j + 4, hx => simp [boatE, AV.cells] at hx
  have v3 : VR W (fun _ => False) μ (.vs 3 (c.looks.map lookE)) (.slice la c.looks.length lc) := by
    refine vs_of g3 (by simp) h3 (fun i e h => ?_) (fun i e j x h hx => ?_)
    · obtain ⟨a, _, rfl⟩ := zhh h; rfl
    · obtain ⟨a, ha, rfl⟩ := zhh h
      have e : Cut.lookAt c.looks i = a := by unfold Cut.lookAt; simp [ha]
      rw [e]
      match j, hx with
      | 0, hx => cases hx; rfl
      | 1, hx => cases hx; rfl
      | 2, hx => cases hx; rfl
      | j + 3, hx => simp [lookE, AV.cells] at hx
  refine .agg (rs := [_, _, _, _, _, _, _, _]) rfl fun i x r hx hr => ?_
  match i, hx, hr with
  | 0, hx, hr => cases hx; cases hr; exact .int
  | 1, hx, hr => cases hx; cases hr; exact .int
  | 2, hx, hr => cases hx; cases hr; exact .int
  | 3, hx, hr => cases hx; cases hr; exact .int
  | 4, hx, hr => cases hx; cases hr; exact v1
  | 5, hx, hr => cases hx; cases hr; exact .int
  | 6, hx, hr => cases hx; cases hr; exact v2
  | 7, hx, hr => cases hx; cases hr; exact v3
  | i + 8, hx, hr => simp at hx
end Ev
end Go.Proofs.YtlkhjnpflohfeaaDoor

/- A law that was gone through by the evaluator, as a call. -/
namespace Go.Proofs.YtlkhjnpflohfeaaDoor
open Go Go.Proofs Go.RowKit
namespace Ev
set_option maxRecDepth 100000
theorem zxo {C : Cfg} {n f : Nat} {fn : AFunc} {args : List AV} {t : Nat} (hc : C.calm = true) (hx : C.ext f = none) (hxh : C.exth f = none) (hf : C.fns f = some fn) (hw : C.whole f = true) (hres : fn.res = [.tmp t]) (hlen : args.length ≤ fn.ntmps)
    (h : Does (ev C (Ev.call C n) 0 none fn.body { tm := tmA fn.ntmps (zipI 0 args []), df := [], hp := [], tc := [] }) (Yes t)) : ∃ H' tc, Ev.call C (n + 1) (.fn (.func f) [] []) args [] = some (.ret (.bool true), H', tc) := by
  have := zfq (n := n) (first := []) (captured := []) (args := args) (H := []) (R := fun x _ _ => x = .ret (.bool true)) hc hx hxh hf hw (by simpa using hlen) (by
    rw [List.nil_append, List.append_nil]
    refine h.mono fun e st ⟨h1, h2, h3⟩ => ?_
    subst h1
    refine ⟨.ret (.bool true), st, ?_, ?_⟩
    · have e1 : runDefs C 0 st.df none st = some (none, st) := by rw [h2]; rfl
      show (match runDefs C 0 st.df none st with
        | some (none, st) => (resL st fn.res).map fun vs => (CRes.ret (resV vs), st)
        | _ => none) = _
      rw [e1, hres]
      show (resL st [.tmp t]).map (fun vs => (CRes.ret (resV vs), st)) = _
      simp only [resL, resOf, h3]
      rfl
    · unfold Left; split <;> rfl)
  obtain ⟨x, H', tc, h1, rfl⟩ := this
  exact ⟨H', tc, h1⟩
theorem zjl {W : World} {ra : Option Addr} {n k : Nat} {f : Nat → Nat → Int} {g : Nat → Nat → Value} (h : ElemsR W ra n k g) (hg : ∀ i j, j < k → g i j = .int .i64 (f i j)) : ElemsI W ra n k f := by
  rcases h with h | ⟨b, off, h1, h2, h3⟩
  · exact .inl h
  · exact .inr ⟨b, off, h1, h2, fun i j hi hj => (h3 i j hi hj).trans (by rw [hg i j hj])⟩
theorem cut_vr {W : World} {μ : Mu} {c : CutD} {ra ba la : Option Addr} {rc bc lc : Nat} (hin : CutIn W c ra ba la) (h1 : c.rain.length ≤ rc) (h2 : c.boats.length ≤ bc) (h3 : c.looks.length ≤ lc) :
    VR W (fun _ => False) μ (cutA c) (cutVal c ra ba la rc bc lc) :=
  cutA_vr h1 h2 h3 (zjl hin.rain fun i j _ => by unfold spanCell; split <;> rfl) (zjl hin.boats fun i j _ => by unfold boatCell; repeat' split <;> try rfl) (zjl hin.looks fun i j _ => by unfold lookCell; repeat' split <;> try rfl)
end Ev
end Go.Proofs.YtlkhjnpflohfeaaDoor

/- A table of functions: what holds of all of its entries. -/
namespace Go.Proofs.YtlkhjnpflohfeaaDoor
open Go Go.Proofs
namespace Ev
def FT.All (p : Nat → AFunc → Prop) : FT → Prop
  | .leaf => True
  | .node k f l r => p k f ∧ (FT.All p l ∧ FT.All p r)
theorem FT.find_all {p : Nat → AFunc → Prop} : ∀ {t : FT} {n : Nat} {f : AFunc}, FT.All p t → FT.find t n = some f → p n f
  | .leaf, n, f, _, h => by cases h
  | .node k g l r, n, f, ha, h => by
    have e : FT.find (.node k g l r) n = (Bool.rec (Bool.rec (FT.find r n) (FT.find l n) (Nat.ble (Nat.succ n) k)) (some g) (Nat.beq n k) : Option AFunc) := rfl
    rw [e] at h
    cases hb : Nat.beq n k with
    | true => rw [hb] at h; cases h; rw [Nat.eq_of_beq_eq_true hb]; exact ha.1
    | false =>
      rw [hb] at h
      cases hc : Nat.ble (Nat.succ n) k with
      | true => rw [hc] at h; exact FT.find_all ha.2.1 h
      | false => rw [hc] at h; exact FT.find_all ha.2.2 h
end Ev
end Go.Proofs.YtlkhjnpflohfeaaDoor

/- The evaluator's code of what CutLooks reaches is that of the program. Printed by program. -/
namespace Go.Proofs.YtlkhjnpflohfeaaDoor
open Go Go.Proofs
namespace Ev
namespace R
set_option maxRecDepth 1000000
def fnTreeL : FT := (.node 61 af61 (.node 29 af29 (.node 23 af23 (.node 12 af12 (.node 4 af4 .leaf .leaf) .leaf) (.node 27 af27 (.node 25 af25 .leaf .leaf) .leaf)) (.node 49 af49 (.node 48 af48 (.node 39 af39 .leaf .leaf) .leaf) (.node 60 af60 (.node 50 af50 .leaf .leaf) .leaf))) (.node 80 af80 (.node 68 af68 (.node 66 af66 (.node 65 af65 .leaf .leaf) .leaf) (.node 78 af78 (.node 77 af77 .leaf .leaf) .leaf)) (.node 100 af100 (.node 99 af99 (.node 95 af95 .leaf .leaf) .leaf) (.node 103 af103 (.node 102 af102 .leaf .leaf) .leaf))))
theorem il4 : ∃ F, Tryd.prog.funcs[4]? = some F ∧ (F.name == "runtime.NumGoroutine") = false ∧ compFn Tryd.prog F = some af4.strip := ⟨_, Tryd.func4, by kernel_rfl, by kernel_rfl⟩
theorem il12 : ∃ F, Tryd.prog.funcs[12]? = some F ∧ (F.name == "runtime.NumGoroutine") = false ∧ compFn Tryd.prog F = some af12.strip := ⟨_, Tryd.func12, by kernel_rfl, by kernel_rfl⟩
theorem il23 : ∃ F, Tryd.prog.funcs[23]? = some F ∧ (F.name == "runtime.NumGoroutine") = false ∧ compFn Tryd.prog F = some af23.strip := ⟨_, Tryd.func23, by kernel_rfl, by kernel_rfl⟩
theorem il25 : ∃ F, Tryd.prog.funcs[25]? = some F ∧ (F.name == "runtime.NumGoroutine") = false ∧ compFn Tryd.prog F = some af25.strip := ⟨_, Tryd.func25, by kernel_rfl, by kernel_rfl⟩
theorem il27 : ∃ F, Tryd.prog.funcs[27]? = some F ∧ (F.name == "runtime.NumGoroutine") = false ∧ compFn Tryd.prog F = some af27.strip := ⟨_, Tryd.func27, by kernel_rfl, by kernel_rfl⟩
theorem il29 : ∃ F, Tryd.prog.funcs[29]? = some F ∧ (F.name == "runtime.NumGoroutine") = false ∧ compFn Tryd.prog F = some af29.strip := ⟨_, Tryd.func29, by kernel_rfl, by kernel_rfl⟩
theorem il39 : ∃ F, Tryd.prog.funcs[39]? = some F ∧ (F.name == "runtime.NumGoroutine") = false ∧ compFn Tryd.prog F = some af39.strip := ⟨_, Tryd.func39, by kernel_rfl, by kernel_rfl⟩
theorem il48 : ∃ F, Tryd.prog.funcs[48]? = some F ∧ (F.name == "runtime.NumGoroutine") = false ∧ compFn Tryd.prog F = some af48.strip := ⟨_, Tryd.func48, by kernel_rfl, by kernel_rfl⟩
theorem il49 : ∃ F, Tryd.prog.funcs[49]? = some F ∧ (F.name == "runtime.NumGoroutine") = false ∧ compFn Tryd.prog F = some af49.strip := ⟨_, Tryd.func49, by kernel_rfl, by kernel_rfl⟩
theorem il50 : ∃ F, Tryd.prog.funcs[50]? = some F ∧ (F.name == "runtime.NumGoroutine") = false ∧ compFn Tryd.prog F = some af50.strip := ⟨_, Tryd.func50, by kernel_rfl, by kernel_rfl⟩
theorem il60 : ∃ F, Tryd.prog.funcs[60]? = some F ∧ (F.name == "runtime.NumGoroutine") = false ∧ compFn Tryd.prog F = some af60.strip := ⟨_, Tryd.func60, by kernel_rfl, by kernel_rfl⟩
theorem il61 : ∃ F, Tryd.prog.funcs[61]? = some F ∧ (F.name == "runtime.NumGoroutine") = false ∧ compFn Tryd.prog F = some af61.strip := ⟨_, Tryd.func61, by kernel_rfl, by kernel_rfl⟩
theorem il65 : ∃ F, Tryd.prog.funcs[65]? = some F ∧ (F.name == "runtime.NumGoroutine") = false ∧ compFn Tryd.prog F = some af65.strip := ⟨_, Tryd.func65, by kernel_rfl, by kernel_rfl⟩
theorem il66 : ∃ F, Tryd.prog.funcs[66]? = some F ∧ (F.name == "runtime.NumGoroutine") = false ∧ compFn Tryd.prog F = some af66.strip := ⟨_, Tryd.func66, by kernel_rfl, by kernel_rfl⟩
theorem il68 : ∃ F, Tryd.prog.funcs[68]? = some F ∧ (F.name == "runtime.NumGoroutine") = false ∧ compFn Tryd.prog F = some af68.strip := ⟨_, Tryd.func68, by kernel_rfl, by kernel_rfl⟩
theorem il77 : ∃ F, Tryd.prog.funcs[77]? = some F ∧ (F.name == "runtime.NumGoroutine") = false ∧ compFn Tryd.prog F = some af77.strip := ⟨_, Tryd.func77, by kernel_rfl, by kernel_rfl⟩
theorem il78 : ∃ F, Tryd.prog.funcs[78]? = some F ∧ (F.name == "runtime.NumGoroutine") = false ∧ compFn Tryd.prog F = some af78.strip := ⟨_, Tryd.func78, by kernel_rfl, by kernel_rfl⟩
theorem il80 : ∃ F, Tryd.prog.funcs[80]? = some F ∧ (F.name == "runtime.NumGoroutine") = false ∧ compFn Tryd.prog F = some af80.strip := ⟨_, Tryd.func80, by kernel_rfl, by kernel_rfl⟩
theorem il95 : ∃ F, Tryd.prog.funcs[95]? = some F ∧ (F.name == "runtime.NumGoroutine") = false ∧ compFn Tryd.prog F = some af95.strip := ⟨_, Tryd.func95, by kernel_rfl, by kernel_rfl⟩
theorem il99 : ∃ F, Tryd.prog.funcs[99]? = some F ∧ (F.name == "runtime.NumGoroutine") = false ∧ compFn Tryd.prog F = some af99.strip := ⟨_, Tryd.func99, by kernel_rfl, by kernel_rfl⟩
theorem il100 : ∃ F, Tryd.prog.funcs[100]? = some F ∧ (F.name == "runtime.NumGoroutine") = false ∧ compFn Tryd.prog F = some af100.strip := ⟨_, Tryd.func100, by kernel_rfl, by kernel_rfl⟩
theorem il102 : ∃ F, Tryd.prog.funcs[102]? = some F ∧ (F.name == "runtime.NumGoroutine") = false ∧ compFn Tryd.prog F = some af102.strip := ⟨_, Tryd.func102, by kernel_rfl, by kernel_rfl⟩
theorem il103 : ∃ F, Tryd.prog.funcs[103]? = some F ∧ (F.name == "runtime.NumGoroutine") = false ∧ compFn Tryd.prog F = some af103.strip := ⟨_, Tryd.func103, by kernel_rfl, by kernel_rfl⟩
theorem zxw : FT.All (fun k af => ∃ F, Tryd.prog.funcs[k]? = some F ∧ (F.name == "runtime.NumGoroutine") = false ∧ compFn Tryd.prog F = some af.strip) fnTreeL :=
  ⟨il61, ⟨il29, ⟨il23, ⟨il12, ⟨il4, trivial, trivial⟩, trivial⟩, ⟨il27, ⟨il25, trivial, trivial⟩, trivial⟩⟩, ⟨il49, ⟨il48, ⟨il39, trivial, trivial⟩, trivial⟩, ⟨il60, ⟨il50, trivial, trivial⟩, trivial⟩⟩⟩, ⟨il80, ⟨il68, ⟨il66, ⟨il65, trivial, trivial⟩, trivial⟩, ⟨il78, ⟨il77, trivial, trivial⟩, trivial⟩⟩, ⟨il100, ⟨il99, ⟨il95, trivial, trivial⟩, trivial⟩, ⟨il103, ⟨il102, trivial, trivial⟩, trivial⟩⟩⟩⟩
end R
end Ev
end Go.Proofs.YtlkhjnpflohfeaaDoor
