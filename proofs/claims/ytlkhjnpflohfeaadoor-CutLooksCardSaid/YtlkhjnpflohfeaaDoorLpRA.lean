/- Whole variables stored into, and loaded out of, blocks that are known whole. -/
import Derived.Test.YtlkhjnpflohfeaaDoorLpPB
import Derived.Test.YtlkhjnpflohfeaaDoorLpPD
import Derived.Test.YtlkhjnpflohfeaaDoorProg
import Derived.WalkKit
import Derived.WalkSpells
import Derived.WalkLawsBesides
import Derived.Handy
import Derived.Lib.Hide
import Derived.Deep.QuietTactic
import Derived.BigQuiet
import Derived.Recover
import Derived.RangeFuncNested
import Derived.RangeFuncBound
import Derived.RangeFuncCalls
import Derived.RangeFuncLeaves
import Derived.OwnWalkIn
import Derived.TacticsInMore
import Derived.LoopNIn
import Derived.LoopIn
import Derived.StillTail
import Derived.StillTailTactics
import Derived.Below
import Derived.Laws.Rows
/- What a cut of the evaluator's is in the model. -/
namespace Go.Proofs.YtlkhjnpflohfeaaDoor
open Go Go.RowKit
namespace Ev
section
variable {P : Program} {W : World} {L : Nat → Prop} {μ : Mu} {H : List AB}
theorem zyc {k : Nat} {v : AV} {news : List AV} (h : slCells k H v = some news) : ∃ n, slLen H v = some n := by
  unfold slCells at h
  split at h
  · exact ⟨_, rfl⟩
  · exact ⟨_, rfl⟩
  · rename_i b off n k'
    split at h
    · split at h
      · rename_i cs hcs
        exact ⟨n, by simp [slLen, alive, hcs]⟩
      · cases h
    · cases h
  · cases h
def ElemsI (W : World) (ra : Option Addr) (n k : Nat) (f : Nat → Nat → Int) : Prop :=
  n = 0 ∨ ∃ b off, ra = some ⟨b, off, none⟩ ∧ b < W.heap.size ∧ ∀ i j, i < n → j < k → W.cell? ⟨b, off + i * k + j, none⟩ = some (.int .i64 (f i j))
theorem elems_of (hs : Sim P W L μ H) {k : Nat} (hk : 0 < k) {v : AV} {x : Value} (hv : VR W L μ v x) {news : List AV} (hc : slCells k H v = some news) (f : Nat → Nat → Int) (m : Nat) (hm : news.length = m * k)
    (hf : ∀ i j, i < m → j < k → news[i * k + j]? = some (.int .i64 (f i j))) : ∃ p cap, x = .slice p m cap ∧ ElemsI W p m k f := by
  obtain ⟨n, hn⟩ := zyc hc
  obtain ⟨p, cap, rfl, h1, h2, h3⟩ := zgz hs hk hv hc hn
  have hnm : n = m := Nat.eq_of_mul_eq_mul_right hk (by omega)
  subst hnm
  refine ⟨p, cap, rfl, ?_⟩
  rcases h3 with h3 | ⟨b, o, rfl, hr⟩
  · exact .inl h3
  · by_cases h0 : n = 0
    · exact .inl h0
    · have key : ∀ i j, i < n → j < k → W.cell? ⟨b, o + i * k + j, none⟩ = some (.int .i64 (f i j)) := by
        intro i j hi hj
        obtain ⟨r, e1, e2⟩ := hr _ _ (hf i j hi hj)
        cases e2 with
        | dead h => simp [headRef] at h
        | int => rw [Nat.add_assoc]; exact e1
      exact .inr ⟨b, o, rfl, zjq (key 0 0 (by omega) hk), key⟩
end
theorem zkh : ∀ (r : List (Int × Int)) (i j : Nat), i < r.length → j < 2 → (spanCs r)[i * 2 + j]? = some (.int .i64 (if j = 0 then (Cut.spanAt r i).1 else (Cut.spanAt r i).2))
  | [], i, j, h, _ => by simp at h
  | s :: l, 0, j, _, hj => by
    rcases (show j = 0 ∨ j = 1 by omega) with rfl | rfl <;> simp [spanCs, Cut.spanAt]
  | s :: l, i + 1, j, h, hj => by
    have ih := zkh l i j (by simpa using h) hj
    rw [show (i + 1) * 2 + j = i * 2 + j + 1 + 1 by omega]
    simpa [spanCs, Cut.spanAt] using ih
theorem zlf : ∀ (r : List Boat) (i j : Nat), i < r.length → j < 4 → (boatCs r)[i * 4 + j]? = some (.int .i64 (if j = 0 then (Cut.boatAt r i).draws.1 else if j = 1 then (Cut.boatAt r i).draws.2 else if j = 2 then (Cut.boatAt r i).per else (Cut.boatAt r i).room))
  | [], i, j, h, _ => by simp at h
  | s :: l, 0, j, _, hj => by
    rcases (show j = 0 ∨ j = 1 ∨ j = 2 ∨ j = 3 by omega) with rfl | rfl | rfl | rfl <;> simp [boatCs, Cut.boatAt]
  | s :: l, i + 1, j, h, hj => by
    have ih := zlf l i j (by simpa using h) hj
    rw [show (i + 1) * 4 + j = i * 4 + j + 1 + 1 + 1 + 1 by omega]
    simpa [boatCs, Cut.boatAt] using ih
theorem zkr : ∀ (r : List Look) (i j : Nat), i < r.length → j < 3 → (lookCs r)[i * 3 + j]? = some (.int .i64 (if j = 0 then (Cut.lookAt r i).day else if j = 1 then (Cut.lookAt r i).depth.1 else (Cut.lookAt r i).depth.2))
  | [], i, j, h, _ => by simp at h
  | s :: l, 0, j, _, hj => by
    rcases (show j = 0 ∨ j = 1 ∨ j = 2 by omega) with rfl | rfl | rfl <;> simp [lookCs, Cut.lookAt]
  | s :: l, i + 1, j, h, hj => by
    have ih := zkr l i j (by simpa using h) hj
    rw [show (i + 1) * 3 + j = i * 3 + j + 1 + 1 + 1 by omega]
    simpa [lookCs, Cut.lookAt] using ih
theorem zwn {H : List AB} {v : AV} {c : CutD} (h : cutOf H v = some c) : ∃ rv bv lv, v = .agg [.int .i64 c.depth.1, .int .i64 c.depth.2, .int .i64 c.leak.1, .int .i64 c.leak.2, rv, .int .i64 c.most, bv, lv] ∧ slCells 2 H rv = some (spanCs c.rain) ∧ slCells 4 H bv = some (boatCs c.boats) ∧ slCells 3 H lv = some (lookCs c.looks) := by
  unfold cutOf at h
  split at h
  · rename_i a b k l rv m bv lv
    split at h
    · rename_i r b' ls h1 h2 h3
      cases h
      obtain ⟨c1, e1, f1⟩ := Option.bind_eq_some_iff.1 h1
      obtain ⟨c2, e2, f2⟩ := Option.bind_eq_some_iff.1 h2
      obtain ⟨c3, e3, f3⟩ := Option.bind_eq_some_iff.1 h3
      have g1 := zuc f1
      have g2 := zwz f2
      have g3 := zvl f3
      subst g1 g2 g3
      exact ⟨rv, bv, lv, rfl, e1, e2, e3⟩
    · cases h
  · cases h
theorem cut_val {P : Program} {W : World} {L : Nat → Prop} {μ : Mu} {H : List AB} (hs : Sim P W L μ H) {v : AV} {x : Value} {c : CutD} (hc : cutOf H v = some c) (hv : VR W L μ v x) :
    ∃ ra rc ba bc la lc, x = .agg #[.int .i64 c.depth.1, .int .i64 c.depth.2, .int .i64 c.leak.1, .int .i64 c.leak.2, .slice ra c.rain.length rc, .int .i64 c.most, .slice ba c.boats.length bc, .slice la c.looks.length lc] ∧
      ElemsI W ra c.rain.length 2 (fun i j => if j = 0 then (Cut.spanAt c.rain i).1 else (Cut.spanAt c.rain i).2) ∧
      ElemsI W ba c.boats.length 4 (fun i j => if j = 0 then (Cut.boatAt c.boats i).draws.1 else if j = 1 then (Cut.boatAt c.boats i).draws.2 else if j = 2 then (Cut.boatAt c.boats i).per else (Cut.boatAt c.boats i).room) ∧
      ElemsI W la c.looks.length 3 (fun i j => if j = 0 then (Cut.lookAt c.looks i).day else if j = 1 then (Cut.lookAt c.looks i).depth.1 else (Cut.lookAt c.looks i).depth.2) := by
  obtain ⟨rv, bv, lv, rfl, h1, h2, h3⟩ := zwn hc
  cases hv with
  | dead h => simp [headRef] at h
  | @agg _ _ rs hlen hall =>
    match rs, hlen, hall with
    | [x0, x1, x2, x3, x4, x5, x6, x7], _, hall =>
      have a0 := vr_int (hall 0 _ _ rfl rfl)
      have a1 := vr_int (hall 1 _ _ rfl rfl)
      have a2 := vr_int (hall 2 _ _ rfl rfl)
      have a3 := vr_int (hall 3 _ _ rfl rfl)
      have a5 := vr_int (hall 5 _ _ rfl rfl)
      obtain ⟨ra, rc, e4, g4⟩ := elems_of hs (by decide) (hall 4 _ _ rfl rfl) h1 _ _ (zkg _) (zkh _)
      obtain ⟨ba, bc, e6, g6⟩ := elems_of hs (by decide) (hall 6 _ _ rfl rfl) h2 _ _ (zle _) (zlf _)
      obtain ⟨la, lc, e7, g7⟩ := elems_of hs (by decide) (hall 7 _ _ rfl rfl) h3 _ _ (zkq _) (zkr _)
      subst a0 a1 a2 a3 a5 e4 e6 e7
      exact ⟨ra, rc, ba, bc, la, lc, rfl, g4, g6, g7⟩
end Ev
end Go.Proofs.YtlkhjnpflohfeaaDoor

/- Small lemmas for the walks: blocks known whole, frames that leave out one block, readings of slices. -/
namespace Go.Proofs.YtlkhjnpflohfeaaDoor
open Go Go.Proofs Go.RowKit

theorem zdp {k : IntKind} {a b : Int} (h : a = b) : Ending.returned (.int k a) = .returned (.int k b) := by rw [h]
theorem zca {a b : Bool} (h : a = b) : Ending.returned (.bool a) = .returned (.bool b) := by rw [h]
theorem hide {p : Prop} (h : p) : Hid p := h
theorem zbu {P : Program} (ts : Array TypeId) (t : TypeId) (x y : Int) (w : World) : (Builtin.max_ ts t #[.int .i64 x, .int .i64 y]).run P w = .ok (.int .i64 (max x y)) w := by
  have : (if y > x then y else x) = max x y := by omega
  simp [run_max_int2, this]
theorem zbt {P : Program} (ts : Array TypeId) (t : TypeId) (x y : Int) (w : World) : (Builtin.min_ ts t #[.int .i64 x, .int .i64 y]).run P w = .ok (.int .i64 (min x y)) w := by
  have : (if y < x then y else x) = min x y := by omega
  simp [run_min_int2, this]

theorem bit_u64 (set k : Nat) (h : set < 18446744073709551616) : bits BinOp.and IntKind.u64 ((set : Int) / 2 ^ k) 1 = if set.testBit k then 1 else 0 := by
  have h0 : ((set : Int) / 2 ^ k) = ((set / 2 ^ k : Nat) : Int) := by simp
  have h1 : set / 2 ^ k ≤ set := Nat.div_le_self _ _
  rw [h0, Nat.testBit_eq_decide_div_mod_eq]
  generalize set / 2 ^ k = q at *
  rw [and_one_u64 _ (by omega) (by omega)]
  simp only [decide_eq_true_eq]
  split <;> omega

structure Bel (M N : Nat) (w w' : World) : Prop where
  os : w'.os = w.os
  tape : w'.tape = w.tape
  output : w'.output = w.output
  size : w.heap.size ≤ w'.heap.size
  block : ∀ k, k < N → k ≠ M → w'.heap[k]? = w.heap[k]?

section
variable {M N N' : Nat} {w w' w'' : World}
theorem Bel.refl (M N : Nat) (w : World) : Bel M N w w := ⟨rfl, rfl, rfl, Nat.le_refl _, fun _ _ _ => rfl⟩
theorem Bel.trans (h : Bel M N w w') (k : Bel M N w' w'') : Bel M N w w'' :=
  ⟨k.os.trans h.os, k.tape.trans h.tape, k.output.trans h.output, Nat.le_trans h.size k.size, fun i hi hm => (k.block i hi hm).trans (h.block i hi hm)⟩
theorem Bel.mono (h : Bel M N w w') (hN : N' ≤ N) : Bel M N' w w' := ⟨h.os, h.tape, h.output, h.size, fun k hk hm => h.block k (Nat.lt_of_lt_of_le hk hN) hm⟩
theorem Bel.drew (h : Bel M N w w') : Bel M N w w'.drew := ⟨h.os, h.tape, h.output, h.size, h.block⟩
theorem Bel.drewN (h : Bel M N w w') (n : Nat) : Bel M N w (w'.drewN n) := ⟨h.os, h.tape, h.output, h.size, h.block⟩
theorem Bel.alloc (h : Bel M N w w') (hN : N ≤ w'.heap.size) (o : Obj) : Bel M N w (w'.alloc o) :=
  h.trans ⟨rfl, rfl, rfl, by simp, fun k hk _ => Below.heap_alloc _ _ _ (by omega)⟩
theorem Bel.setCell (h : Bel M N w w') {p : Addr} (hp : N ≤ p.block ∨ p.block = M) (u : Value) : Bel M N w (w'.setCell p u) :=
  h.trans ⟨rfl, rfl, rfl, by simp [World.setCell], fun k hk hm => Below.heap_setCell _ _ _ _ (by omega)⟩
theorem Bel.putObj (h : Bel M N w w') {l : Nat} (hl : N ≤ l ∨ l = M) (o : Obj) : Bel M N w (w'.putObj l o) :=
  h.trans ⟨rfl, rfl, rfl, by simp, fun k hk hm => World.putObj_heap_other (by omega)⟩
theorem Bel.of_below (h : Below N w w') : Bel M N w w' := ⟨h.os, h.tape, h.output, h.size, fun k hk _ => h.block k hk⟩
theorem Bel.below (h : Bel M N w w') (hM : N ≤ M) : Below N w w' := ⟨h.os, h.tape, h.output, h.size, fun k hk => h.block k hk (by omega)⟩
theorem Bel.below_lt (h : Bel M N w w') (hM : N' ≤ M) (hN : N' ≤ N) : Below N' w w' := ⟨h.os, h.tape, h.output, h.size, fun k hk => h.block k (by omega) (by omega)⟩
theorem Bel.cell (h : Bel M N w w') {p : Addr} (hp : p.block < N) (hm : p.block ≠ M) : w'.cell? p = w.cell? p := World.cell?_of_block (w := w) (h.block p.block hp hm)
theorem Bel.frozen (h : Bel M N w w') {p : Addr} (hp : p.block < N) (hm : p.block ≠ M) : w'.frozen? p = w.frozen? p := World.frozen?_of_block (w := w) (h.block p.block hp hm)
end

theorem Below.putObj {N l : Nat} {w : World} (hl : N ≤ l) (o : Obj) : Below N w (w.putObj l o) := ⟨rfl, rfl, rfl, by simp, fun k hk => World.putObj_heap_other (by omega)⟩

def Blk (w : World) (B : Nat) (T : TypeId) (cs : List Value) : Prop := w.heap[B]? = some (.cells cs.toArray T (0, 0))
section
variable {w w' : World} {B : Nat} {T : TypeId} {cs : List Value}
theorem Blk.lt (h : Blk w B T cs) : B < w.heap.size := by
  obtain ⟨h1, _⟩ := Array.getElem?_eq_some_iff.1 h; exact h1
theorem Blk.cell (h : Blk w B T cs) (i : Nat) {v : Value} (hi : cs[i]? = some v) : w.cell? ⟨B, i, none⟩ = some v := by
  unfold World.cell?; rw [show w.heap[(⟨B, i, none⟩ : Addr).block]? = _ from h]; simpa using hi
theorem Blk.free (h : Blk w B T cs) (i : Nat) : w.frozen? ⟨B, i, none⟩ = false := by
  unfold World.frozen?; rw [show w.heap[(⟨B, i, none⟩ : Addr).block]? = _ from h]; simp
theorem Blk.new (w : World) (cs : List Value) (T : TypeId) : Blk (w.alloc (.cells cs.toArray T (0, 0))) w.heap.size T cs := World.alloc_heap_new w _
theorem Blk.new' {B : Nat} (w : World) (cs : List Value) (T : TypeId) (hB : B = w.heap.size) : Blk (w.alloc (.cells cs.toArray T (0, 0))) B T cs := by subst hB; exact Blk.new w cs T
theorem Blk.alloc (h : Blk w B T cs) (o : Obj) : Blk (w.alloc o) B T cs := (Below.heap_alloc w o B h.lt).trans h
theorem Blk.drew (h : Blk w B T cs) : Blk w.drew B T cs := h
theorem Blk.drewN (h : Blk w B T cs) (n : Nat) : Blk (w.drewN n) B T cs := h
theorem Blk.set (h : Blk w B T cs) (i : Nat) (v : Value) : Blk (w.setCell ⟨B, i, none⟩ v) B T (cs.set i v) := by
  have hlt := h.lt
  unfold Blk World.setCell at *
  simp only [Array.getElem?_modify, if_true]
  rw [h]; simp
theorem Blk.other {C : Nat} (hne : B ≠ C) (i : Nat) (v : Value) (h : Blk w B T cs) : Blk (w.setCell ⟨C, i, none⟩ v) B T cs := (Below.heap_setCell w ⟨C, i, none⟩ v B hne).trans h
theorem Blk.bel {M N : Nat} (h : Blk w B T cs) (hb : Bel M N w w') (hN : B < N) (hM : B ≠ M) : Blk w' B T cs := (hb.block B hN hM).trans h
theorem Blk.below {N : Nat} (h : Blk w B T cs) (hb : Below N w w') (hN : B < N) : Blk w' B T cs := (hb.block B hN).trans h
theorem Blk.put {l : Nat} {o : Obj} (h : Blk w B T cs) (hl : B ≠ l) : Blk (w.putObj l o) B T cs := (World.putObj_heap_other hl).trans h
end

structure Dry (w : World) : Prop where
  lt : 0 < w.heap.size
  c0 : w.cell? ⟨0, 0, none⟩ = some (.int .i64 1048576)
  c1 : w.cell? ⟨0, 1, none⟩ = some (.int .i64 (-1048576))
theorem Dry.bel {M : Nat} {w w' : World} (h : Dry w) (hb : Bel M w.heap.size w w') (hM : 0 ≠ M) : Dry w' :=
  ⟨Nat.lt_of_lt_of_le h.lt hb.size, (hb.cell (p := ⟨0, 0, none⟩) h.lt hM).trans h.c0, (hb.cell (p := ⟨0, 1, none⟩) h.lt hM).trans h.c1⟩

theorem Dry.below {w w' : World} (h : Dry w) (hb : Below w.heap.size w w') : Dry w' :=
  ⟨Nat.lt_of_lt_of_le h.lt hb.size, (hb.cell (p := ⟨0, 0, none⟩) h.lt).trans h.c0, (hb.cell (p := ⟨0, 1, none⟩) h.lt).trans h.c1⟩
theorem Dry.drew {w : World} (h : Dry w) : Dry w.drew := ⟨h.lt, h.c0, h.c1⟩
theorem Dry.drewN {w : World} (h : Dry w) (n : Nat) : Dry (w.drewN n) := ⟨h.lt, h.c0, h.c1⟩
theorem bcellN {N : Nat} {W w1 : World} (hb : Below N W w1) : (∀ b o, b < N → w1.cell? ⟨b, o, none⟩ = W.cell? ⟨b, o, none⟩) ∧ (∀ b o, b < N → w1.frozen? ⟨b, o, none⟩ = W.frozen? ⟨b, o, none⟩) :=
  ⟨fun b o h => hb.cell (p := ⟨b, o, none⟩) h, fun b o h => hb.frozen (p := ⟨b, o, none⟩) h⟩
theorem zqi {N n : Nat} {w w' : World} (h : Below N (w.drewN n) w') : Below N w w' := ⟨h.os, h.tape, h.output, h.size, h.block⟩
theorem zmm {N : Nat} {w w' : World} (h : Below N w w') (n : Nat) : Below N w (w'.drewN n) := ⟨h.os, h.tape, h.output, h.size, h.block⟩
theorem bcell {W w1 : World} (hb : Below W.heap.size W w1) : (∀ b o, b < W.heap.size → w1.cell? ⟨b, o, none⟩ = W.cell? ⟨b, o, none⟩) ∧ (∀ b o, b < W.heap.size → w1.frozen? ⟨b, o, none⟩ = W.frozen? ⟨b, o, none⟩) :=
  ⟨fun b o h => hb.cell (p := ⟨b, o, none⟩) h, fun b o h => hb.frozen (p := ⟨b, o, none⟩) h⟩

def RowOf (w : World) (v : Value) (n k : Nat) (f : Nat → Nat → Value) : Prop :=
  ∃ cap : Nat, n ≤ cap ∧ cap ≤ 9223372036854775807 ∧ ((n = 0 ∧ ∃ a, v = .slice a 0 cap) ∨ (∃ b off, v = .slice (some ⟨b, off, none⟩) n cap ∧ b < w.heap.size ∧ ∀ i j, i < n → j < k → w.cell? ⟨b, off + i * k + j, none⟩ = some (f i j)))

theorem RowOf.keep {w w' : World} {v : Value} {n k : Nat} {f : Nat → Nat → Value} (h : RowOf w v n k f) (hs : w.heap.size ≤ w'.heap.size) (hb : ∀ b, b < w.heap.size → (∀ i j, i < n → j < k → ∀ off, w.cell? ⟨b, off + i * k + j, none⟩ = some (f i j) → w'.cell? ⟨b, off + i * k + j, none⟩ = some (f i j))) : RowOf w' v n k f := by
  obtain ⟨cap, h1, h2, h3⟩ := h
  refine ⟨cap, h1, h2, ?_⟩
  rcases h3 with h3 | ⟨b, off, hv, hlt, hc⟩
  · exact .inl h3
  · exact .inr ⟨b, off, hv, by omega, fun i j hi hj => hb b hlt i j hi hj off (hc i j hi hj)⟩

end Go.Proofs.YtlkhjnpflohfeaaDoor

/- Contracts of the small functions of package cut. -/
namespace Go.Proofs.YtlkhjnpflohfeaaDoor
open Go Go.Proofs Go.RowKit

set_option maxHeartbeats 400000 in
theorem zbj (a b c : Int) (w : World) :
    Calls Tryd.prog 82 #[.int .i64 a, .int .i64 b, .int .i64 c] w fun e w' => e = .returned (.bool (Cut.within a b c)) ∧ w = w' := by
  by_cases h : b ≤ a
  · go_enter Tryd.func82, Tryd.ntmps82
    go_wp2
    go_ret
    exact ⟨zca (by grind [Cut.within]), rfl⟩
  · have hd : decide (b ≤ a) = false := by simpa using h
    go_enter Tryd.func82, Tryd.ntmps82
    go_wp2
    go_ret
    exact ⟨zca (by grind [Cut.within]), rfl⟩

set_option maxHeartbeats 400000 in
theorem zbh (a b low high : Int) (w : World) :
    Calls Tryd.prog 83 #[.agg #[.int .i64 a, .int .i64 b], .int .i64 low, .int .i64 high] w fun e w' => e = .returned (.bool (Cut.isSpan (a, b) low high)) ∧ Below w.heap.size w w' := by
  go_enter Tryd.func83, Tryd.ntmps83
  go_wp2
  all_goals go_ret
  all_goals refine ⟨zca ?_, by (repeat' first | (with_reducible assumption) | (with_reducible exact Below.refl _ _) | (with_reducible refine Below.drew ?_) | (with_reducible refine Below.setCell ?_ ?_ _) | (with_reducible refine Below.alloc ?_ ?_ _) | (refine Below.trans ?_ (Below.mono (by assumption) ?_)) | omega | (simp only [World.size_alloc, World.size_setCell, World.size_drew] at *; omega))⟩
  all_goals grind [Cut.isSpan]

set_option maxHeartbeats 400000 in
theorem zcy (a b : Int) (w : World) :
    Calls Tryd.prog 55 #[.agg #[.int .i64 a, .int .i64 b]] w fun e w' => e = .returned (.bool (Cut.some (a, b))) ∧ Below w.heap.size w w' := by
  go_enter Tryd.func55, Tryd.ntmps55
  go_wp2
  all_goals go_ret
  all_goals refine ⟨zca ?_, by (repeat' first | (with_reducible assumption) | (with_reducible exact Below.refl _ _) | (with_reducible refine Below.drew ?_) | (with_reducible refine Below.setCell ?_ ?_ _) | (with_reducible refine Below.alloc ?_ ?_ _) | (refine Below.trans ?_ (Below.mono (by assumption) ?_)) | omega | (simp only [World.size_alloc, World.size_setCell, World.size_drew] at *; omega))⟩
  all_goals grind [Cut.some]

end Go.Proofs.YtlkhjnpflohfeaaDoor

/- Contracts of the small functions of package cut: spans of water, and the steps. -/
namespace Go.Proofs.YtlkhjnpflohfeaaDoor
open Go Go.Proofs Go.RowKit
attribute [local go_sem ↓] zbu zbt

set_option maxHeartbeats 400000 in
theorem zho (a b c d : Int) (w : World) (hdr : Dry w) :
    Calls Tryd.prog 89 #[.agg #[.int .i64 a, .int .i64 b], .agg #[.int .i64 c, .int .i64 d]] w fun e w' => e = .returned (.agg #[.int .i64 (Cut.common (a, b) (c, d)).1, .int .i64 (Cut.common (a, b) (c, d)).2]) ∧ Below w.heap.size w w' := by
  obtain ⟨h0, h1, h2⟩ := hdr
  by_cases hc : max a c ≤ min b d
  · have HD : Hid (Cut.common (a, b) (c, d) = (max a c, min b d)) := if_pos hc
    have hs : Cut.some (max a c, min b d) = true := by simpa [Cut.some] using hc
    go_enter Tryd.func89, Tryd.ntmps89
    go_wp2_with (go_at_call 55; refine (zcy _ _ _).mono ?_; rintro e w' ⟨rfl, hb⟩; rw [hs]; obtain ⟨hc, hf⟩ := bcell hb; have hz := hb.size; simp at hz)
    refine bodyPost_ret (v := .agg #[.int .i64 (max a c), .int .i64 (min b d)]) (by simp [results, Tryd.results89, go_sem, *]) rfl ⟨by rw [HD.out], ?_⟩
    (repeat' first | (with_reducible assumption) | (with_reducible exact Below.refl _ _) | (with_reducible refine Below.drew ?_) | (with_reducible refine Below.setCell ?_ ?_ _) | (with_reducible refine Below.alloc ?_ ?_ _) | (refine Below.trans ?_ (Below.mono (by assumption) ?_)) | omega | (simp only [World.size_alloc] at *; omega))
  · have HD : Hid (Cut.common (a, b) (c, d) = Cut.dry) := if_neg hc
    have hs : Cut.some (max a c, min b d) = false := by simpa [Cut.some] using hc
    go_enter Tryd.func89, Tryd.ntmps89
    go_wp2_with (go_at_call 55; refine (zcy _ _ _).mono ?_; rintro e w' ⟨rfl, hb⟩; rw [hs]; obtain ⟨hc, hf⟩ := bcell hb; have hz := hb.size; simp at hz)
    refine bodyPost_ret (v := .agg #[.int .i64 1048576, .int .i64 (-1048576)]) (by simp [results, Tryd.results89, go_sem, *]) rfl ⟨by rw [HD.out]; rfl, ?_⟩
    (repeat' first | (with_reducible assumption) | (with_reducible exact Below.refl _ _) | (with_reducible refine Below.drew ?_) | (with_reducible refine Below.setCell ?_ ?_ _) | (with_reducible refine Below.alloc ?_ ?_ _) | (refine Below.trans ?_ (Below.mono (by assumption) ?_)) | omega | (simp only [World.size_alloc] at *; omega))

end Go.Proofs.YtlkhjnpflohfeaaDoor

/- A region that draws its order: the operations before the last ones are quiet in a class of worlds; the last ones stand in one forced order. One walk of the text's order serves every order; the last ones are walked in whatever world of the class. -/
namespace Go.Proofs.YtlkhjnpflohfeaaDoor
open Go
structure Cls (p : World → Prop) where
  W : World
  ok : p W

theorem Cls.step {N : Nat} {W w2 : World} (s : Cls (RowKit.Below N W)) (hN : N ≤ W.heap.size) (hb : RowKit.Below s.W.heap.size s.W w2) : ∃ s' : Cls (RowKit.Below N W), w2 = s'.W :=
  ⟨⟨w2, s.ok.trans (hb.mono (Nat.le_trans hN s.ok.size))⟩, rfl⟩

section
variable {P : Program} {ops : Array Oper} {md : Region.Mode} {C : World → Prop}

def anyHead (P : Program) (md : Region.Mode) (ops : Array Oper) (C : World → Prop) (n : Nat) (L : Array Bool → Act → Prop) : Nat → Array Bool → Act → Prop
  | 0, listed, a => L listed a
  | f + 1, listed, a =>
    Region.ready md ops listed ≠ [] ∧ ∀ i ∈ Region.ready md ops listed, i < n ∧ qOp P ops C i (anyHead P md ops C n L f (listed.setIfInBounds i true)) a

theorem zeg {n g : Nat} {L : Array Bool → Act → Prop} {Q' : Exit → Act → World → Prop} (hL : ∀ listed a w, C w → L listed a → wpAny P md ops Q' g listed a w) :
    ∀ (f : Nat) (listed : Array Bool) (a : Act) (w : World), C w → anyHead P md ops C n L f listed a → wpAny P md ops Q' (f + g) listed a w
  | 0, listed, a, w, hw, h => by rw [Nat.zero_add]; exact hL _ _ _ hw h
  | f + 1, listed, a, w, hw, h => by
    rw [show f + 1 + g = (f + g) + 1 by omega]
    exact ⟨fun h0 => absurd h0 h.1, fun i hi => wpOp_of_qOp hw (fun a' w' hw' h' => zeg hL f _ a' w' hw' h') (h.2 i hi).2⟩

theorem zmq {n i : Nat} {oi : Oper} {v : Value} {L : Array Bool → Act → Prop} (hi : ops[i]? = some oi) (hsel : ∀ (j : Nat) (o : Oper) cs b, ops[j]? = some o → o.op ≠ .select cs b)
    (hs : Region.sinkB md ops n = true) (hc : Region.chainB md ops n = true) (hn : n < ops.size) (hin : i < n)
    (hdone : ∀ listed a, L listed a → ∀ j ∈ Region.ready md ops listed, n ≤ j) :
    ∀ (f : Nat) (listed : Array Bool) (a : Act), HeadInv md ops n listed →
      (∀ j oj, ops[j]? = some oj → j ≠ i → listed.getD j true = false → (∀ e ∈ oj.after, Region.binds md e = true → e.on ≠ i) → oi.apart ops oj = true) →
      i ∈ Region.ready md ops listed → YieldsIn P ops C oi v a →
      anyHead P md ops C n L f (listed.setIfInBounds i true) (a.put oi.dst v) → anyHead P md ops C n L (f + 1) listed a := by
  intro f
  induction f with
  | zero =>
    intro listed a inv _ hr hy H
    have hun := (mem_ready.1 hr).1
    refine ⟨fun h => (by rw [h] at hr; cases hr), fun j hj => ?_⟩
    have hjn : j < n := (Nat.lt_or_ge j n).elim id fun h => absurd hj (tail_waits hs hc hn inv _ i rfl hin hun j h)
    refine ⟨hjn, ?_⟩
    by_cases hji : j = i
    · subst hji; exact hy.qOp hi H
    · have := hdone _ _ H j (ready_mono hj hji)
      omega
  | succ f ih =>
    intro listed a inv hfree hr hy H
    have hun := (mem_ready.1 hr).1
    refine ⟨fun h => (by rw [h] at hr; cases hr), fun j hj => ?_⟩
    have hjn : j < n := (Nat.lt_or_ge j n).elim id fun h => absurd hj (tail_waits hs hc hn inv _ i rfl hin hun j h)
    refine ⟨hjn, ?_⟩
    by_cases hji : j = i
    · subst hji; exact hy.qOp hi H
    · have h1 := (H.2 j (ready_mono hj hji)).2
      obtain ⟨hjun, oj, hoj, hall⟩ := mem_ready.1 hj
      have hnot : ∀ e ∈ oj.after, Region.binds md e = true → e.on ≠ i := fun e he hb heq => by
        have h1 := hall e he hb
        rw [heq, getD_both hun] at h1
        cases h1
      have h2 := qOp_put hoj (hfree j oj hoj hji hjun hnot) (fun cs b => hsel i oi cs b hi) (fun cs b => hsel j oj cs b hoj) hy h1
      have hfree' : ∀ k ok, ops[k]? = some ok → k ≠ i → (listed.setIfInBounds j true).getD k true = false →
          (∀ e ∈ ok.after, Region.binds md e = true → e.on ≠ i) → oi.apart ops ok = true := fun k ok hk hki hun hno => by
        refine hfree k ok hk hki ?_ hno
        by_cases hjk : j = k
        · subst hjk; exact hjun
        · rw [getD_set_ne true hjk] at hun; exact hun
      refine qOp_mono (fun a' h3 => ih (listed.setIfInBounds j true) a' (inv.set hj hjn) hfree' (ready_mono hr (Ne.symm hji)) h3.1 ?_) h2
      rw [Array.setIfInBounds_comm _ _ hji]
      exact h3.2

theorem zjv {n g : Nat} {Lq : Act → Prop} (hsel : Region.noSelect ops = true) (hs : Region.sinkB md ops n = true) (hc : Region.chainB md ops n = true) (hn : n < ops.size) :
    ∀ (l : List Oper) (k : Nat) (listed : Array Bool) (a : Act), (∀ j, j < l.length → l[j]? = ops[k + j]?) → k + l.length = n → HeadInv md ops n listed →
    Region.lexHead md ops g l.length k listed = true → wpQuiet P ops C Lq l a →
    anyHead P md ops C n (fun listed' a' => Region.seqB md ops g n listed' = true ∧ Lq a') l.length listed a
  | [], k, listed, a, _, hk, _, hB, h => by
    have : k = n := by simpa using hk
    subst this
    exact ⟨by simpa [Region.lexHead] using hB, h⟩
  | o :: l, k, listed, a, hl, hk, inv, hB, h => by
    have h0 : ops[k]? = some o := by simpa using (hl 0 (by simp)).symm
    simp only [List.length_cons, Region.lexHead, Bool.and_eq_true] at hB
    obtain ⟨⟨hr, hf⟩, hB'⟩ := hB
    have hkn : k < n := by simp only [List.length_cons] at hk; omega
    have hr' : k ∈ Region.ready md ops listed := by simpa using hr
    have hst : qOp P ops C k (wpQuiet P ops C Lq l) a := by unfold qOp; simp only [h0]; exact h
    obtain ⟨v, hy, hK⟩ := yieldsIn_of_qOp h0 hst
    exact zmq h0 (Region.noSelect_spec hsel) hs hc hn hkn (fun listed' a' hL => seqB_ready hL.1) l.length listed a inv (Region.free_spec h0 hf) hr' hy
      (zjv hsel hs hc hn l (k + 1) _ _ (fun j hj => by have := hl (j + 1) (by simp; omega); simpa [Nat.add_assoc, Nat.add_comm 1 j] using this) (by simp only [List.length_cons] at hk; omega) (inv.set hr' hkn) hB' hK)

theorem zka {S : Type} (f : S → World) {Q : Exit → Act → World → Prop} {a : Act} {w : World} {l : List Oper} (n : Nat) (hB : Region.lexTailB .any l.toArray n = true)
    (hC : ∃ s, w.drew = f s)
    (h : wpQuiet P l.toArray (fun w' => ∃ s, w' = f s) (fun a' => ∀ s, wpList P l.toArray Q (l.drop n) a' (f s)) (l.take n) a) : wpAny P .any l.toArray Q l.toArray.size (Array.replicate l.toArray.size false) a w.drew := by
  simp only [Region.lexTailB, Bool.and_eq_true, decide_eq_true_eq] at hB
  obtain ⟨⟨⟨⟨hsel, hn⟩, hs⟩, hc⟩, hlex⟩ := hB
  have hn' : n < l.length := by simpa using hn
  have htl : (l.take n).length = n := by simp; omega
  have hdl : (l.drop n).length = l.toArray.size - n := by simp
  have inv0 : HeadInv .any l.toArray n (Array.replicate l.toArray.size false) :=
    ⟨by simp, fun j oj _ hl => (by rw [getD_replicate_false] at hl; cases hl), fun t _ ht => getD_in (by simpa using ht) (getD_replicate_false _ _)⟩
  have H := zjv (md := .any) (C := fun w' => ∃ s, w' = f s) (g := l.toArray.size - n) hsel hs hc hn (l.take n) 0 _ a (fun j hj => by
    have hj' : j < n := by rw [htl] at hj; exact hj
    simp [hj']) (by simpa using htl) inv0 (by rw [htl]; exact hlex) h
  have := zeg (C := fun w' => ∃ s, w' = f s) (Q' := Q) (g := l.toArray.size - n) (fun listed a' w' hw' hL => by
    obtain ⟨s, rfl⟩ := hw'
    have := wpAny_of_seq (md := .any) (Q' := Q) (l.drop n) n listed a' (f s) (fun j => by simp [List.getElem?_drop]) (by rw [hdl]; exact hL.1) (hL.2 s)
    rwa [hdl] at this) _ _ _ w.drew hC H
  rw [htl, show n + (l.toArray.size - n) = l.toArray.size by omega] at this
  exact this

theorem zbg {S : Type} (f : S → World) {id : Nat} {Q : Exit → Act → World → Prop} {a : Act} {w : World} {l : List Oper} (n : Nat) (hm : P.follows .mixedOrders = true) (hB : Region.lexTailB .any l.toArray n = true)
    (hC : ∃ s, w.drew = f s)
    (h : wpQuiet P l.toArray (fun w' => ∃ s, w' = f s) (fun a' => ∀ s, wpList P l.toArray Q (l.drop n) a' (f s)) (l.take n) a) : (Code.region id l.toArray true).wp P Q a w :=
  wp_region_any hm (zka f n hB hC h)

theorem zbp {S : Type} (f : S → World) {id : Nat} {Q : Exit → Act → World → Prop} {a : Act} {w : World} {l : List Oper} (hm : P.follows .mixedOrders = true) (hB : Region.lexB .any l.toArray = true)
    (hC : ∃ s, w.drew = f s)
    (h : wpQuiet P l.toArray (fun w' => ∃ s, w' = f s) (fun a' => ∀ s, Q .normal a' (f s)) l a) : (Code.region id l.toArray true).wp P Q a w :=
  wp_region_quiet hm hB hC (by
    have : (fun a' => ∀ s, Q .normal a' (f s)) = (fun a' => ∀ w', (∃ s, w' = f s) → Q .normal a' w') := by funext a'; simp
    rw [this] at h; exact h)
end
end Go.Proofs.YtlkhjnpflohfeaaDoor

/- Contracts of the steps of package cut. -/
namespace Go.Proofs.YtlkhjnpflohfeaaDoor
open Go Go.Proofs Go.RowKit
attribute [local go_sem ↓] zbu zbt

set_option maxHeartbeats 400000 in
theorem held_any (n : Int) (B : Nat) (most : Int) (w : World) (hc : w.cell? ⟨B, 2, none⟩ = some (.int .i64 most)) :
    Calls Tryd.prog 122 #[.int .i64 n, .pointer (some ⟨B, 0, none⟩)] w fun e w' => e = .returned (.int .i64 (Cut.held most n)) ∧ w' = w := by
  go_enter Tryd.func122, Tryd.ntmps122
  go_wp2
  go_ret
  exact ⟨rfl, rfl⟩

set_option maxHeartbeats 800000 in
set_option maxRecDepth 100000 in
theorem zxm (s1 s2 most v1 v2 : Int) (w : World) (hdr : Dry w) (b1 : -4611686018427387904 ≤ v1 + s1) (b2 : v1 + s1 ≤ 4611686018427387904) (b3 : -4611686018427387904 ≤ v2 + s2) (b4 : v2 + s2 ≤ 4611686018427387904) :
    Calls Tryd.prog 120 #[.agg #[.int .i64 s1, .int .i64 s2, .int .i64 most], .agg #[.int .i64 v1, .int .i64 v2]] w fun e w' => e = .returned (.agg #[.int .i64 (Cut.after (s1, s2) most (v1, v2)).1, .int .i64 (Cut.after (s1, s2) most (v1, v2)).2]) ∧ Below w.heap.size w w' := by
  obtain ⟨h0, h1, h2⟩ := hdr
  by_cases hs : Cut.some (v1, v2) = true
  · have HD : Hid (Cut.after (s1, s2) most (v1, v2) = (Cut.held most (v1 + s1), Cut.held most (v2 + s2))) := if_pos (by simpa [Cut.some] using hs)
    go_enter Tryd.func120, Tryd.ntmps120
    go_wp2_with (go_at_call 55; refine (zcy _ _ _).mono ?_; rintro e w' ⟨rfl, hb⟩; rw [hs]; obtain ⟨hc, hf⟩ := bcell hb; have hz := hb.size; simp at hz)
    have e1 : IntKind.i64.wrap (v1 + s1) = v1 + s1 := IntWalk.i64_in _ (by omega)
    have e2 : IntKind.i64.wrap (v2 + s2) = v2 + s2 := IntWalk.i64_in _ (by omega)
    have hcl : ∃ s : Cls (Below (w.heap.size + 1 + 1 + 1) w'), w'.drew = s.W := ⟨⟨_, (Below.refl _ _).drew⟩, rfl⟩
    have hne : Nonempty (Cls (Below (w.heap.size + 1 + 1 + 1) w')) := ⟨⟨_, Below.refl _ _⟩⟩
    have hS : ∀ (s : Cls (Below (w.heap.size + 1 + 1 + 1) w')) (b o : Nat), b < w.heap.size + 1 + 1 + 1 → s.W.cell? ⟨b, o, none⟩ = w'.cell? ⟨b, o, none⟩ := fun s b o h => s.ok.cell (p := ⟨b, o, none⟩) h
    have hSf : ∀ (s : Cls (Below (w.heap.size + 1 + 1 + 1) w')) (b o : Nat), b < w.heap.size + 1 + 1 + 1 → s.W.frozen? ⟨b, o, none⟩ = w'.frozen? ⟨b, o, none⟩ := fun s b o h => s.ok.frozen (p := ⟨b, o, none⟩) h
    clear h0 h1 h2
    refine zbg (S := Cls (Below (w.heap.size + 1 + 1 + 1) w')) Cls.W 20 (by kernel_rfl) (by kernel_rfl) hcl ?_
    simp only [List.take_succ_cons, List.take_zero, List.drop_succ_cons, List.drop_zero]
    clear hcl
    repeat (quiet_step ((go_at_call 122; refine (held_any _ _ most _ ?_).mono ?_; go_simp; rintro e w2 ⟨rfl, rfl⟩; exact ⟨rfl, _, rfl⟩)))
    refine wpQuiet_nil ?_
    intro s'
    go_wp2
    have hz2 := s'.ok.size
    refine bodyPost_ret (v := .agg #[.int .i64 (Cut.held most (v1 + s1)), .int .i64 (Cut.held most (v2 + s2))]) (by simp [results, Tryd.results120, go_sem, *]) rfl ⟨by rw [HD.out], ?_⟩
    have h3 := s'.ok.mono (show w.heap.size ≤ w.heap.size + 1 + 1 + 1 by omega)
    have h4 := hb.mono (show w.heap.size ≤ _ by simp; omega)
    have h5 := h4.trans h3
    (repeat' first | (with_reducible assumption) | (with_reducible exact Below.refl _ _) | (with_reducible refine Below.drew ?_) | (with_reducible refine Below.setCell ?_ ?_ _) | (with_reducible refine Below.alloc ?_ ?_ _) | (refine Below.trans ?_ (Below.mono (by assumption) ?_)) | omega | (simp only [World.size_alloc] at *; omega))
  · have HD : Hid (Cut.after (s1, s2) most (v1, v2) = Cut.dry) := if_neg (by simpa [Cut.some] using hs)
    replace hs : Cut.some (v1, v2) = false := by simpa using hs
    go_enter Tryd.func120, Tryd.ntmps120
    go_wp2_with (go_at_call 55; refine (zcy _ _ _).mono ?_; rintro e w' ⟨rfl, hb⟩; rw [hs]; obtain ⟨hc, hf⟩ := bcell hb; have hz := hb.size; simp at hz)
    refine bodyPost_ret (v := .agg #[.int .i64 1048576, .int .i64 (-1048576)]) (by simp [results, Tryd.results120, go_sem, *]) rfl ⟨by rw [HD.out]; rfl, ?_⟩
    (repeat' first | (with_reducible assumption) | (with_reducible exact Below.refl _ _) | (with_reducible refine Below.drew ?_) | (with_reducible refine Below.setCell ?_ ?_ _) | (with_reducible refine Below.alloc ?_ ?_ _) | (refine Below.trans ?_ (Below.mono (by assumption) ?_)) | omega | (simp only [World.size_alloc] at *; omega))

set_option maxHeartbeats 800000 in
set_option maxRecDepth 100000 in
theorem zth (s1 s2 most v1 v2 : Int) (w : World) (hdr : Dry w) (b1 : -2000000 ≤ v1 ∧ v1 ≤ 2000000) (b2 : -2000000 ≤ v2 ∧ v2 ≤ 2000000) (b3 : -2000000 ≤ s1 ∧ s1 ≤ 2000000) (b4 : -2000000 ≤ s2 ∧ s2 ≤ 2000000) :
    Calls Tryd.prog 121 #[.agg #[.int .i64 s1, .int .i64 s2, .int .i64 most], .agg #[.int .i64 v1, .int .i64 v2]] w fun e w' => e = .returned (.agg #[.int .i64 (Cut.before (s1, s2) most (v1, v2)).1, .int .i64 (Cut.before (s1, s2) most (v1, v2)).2]) ∧ Below w.heap.size w w' := by
  have hdr' := hide hdr
  obtain ⟨h0, h1, h2⟩ := hdr
  by_cases hs : Cut.some (v1, v2) = true
  · have HD : Hid (Cut.before (s1, s2) most (v1, v2) = Cut.common (0, most) ((if v1 = 0 then -65536 else v1) - s2, (if v2 = most then 65536 else v2) - s1)) := if_pos (by simpa [Cut.some] using hs)
    obtain rfl | c1 := Classical.em (v1 = 0)
    all_goals obtain rfl | c2 := Classical.em (most = v2)
    all_goals (try (have c1' : (v1 == 0) = false := by simpa using c1))
    all_goals (try (have c2' : (v2 == most) = false := by simpa using (fun h => c2 h.symm)))
    all_goals (try (have c2'' : ¬ v2 = most := fun h => c2 h.symm))
    all_goals (try clear c1)
    all_goals (try clear c2)
    all_goals (try clear c2'')
    all_goals go_enter Tryd.func121, Tryd.ntmps121
    all_goals go_wp2_with (go_at_call 55; refine (zcy _ _ _).mono ?_; rintro e w' ⟨rfl, hb⟩; rw [hs]; obtain ⟨hc, hf⟩ := bcell hb; have hz := hb.size; simp at hz)
    all_goals go_quiet (fail)
    all_goals have hbw : Below w.heap.size w w' := by (repeat' first | (with_reducible assumption) | (with_reducible exact Below.refl _ _) | (with_reducible refine Below.drew ?_) | (with_reducible refine Below.setCell ?_ ?_ _) | (with_reducible refine Below.alloc ?_ ?_ _) | (refine Below.trans ?_ (Below.mono (by assumption) ?_)) | omega | (simp only [World.size_alloc] at *; omega))
    all_goals have hdw := hide (hdr'.out.below hbw)
    all_goals go_wp2_with (go_at_call 89; refine (zho _ _ _ _ _ (hdw.out.drewN nq)).mono ?_; rintro e w2 ⟨rfl, hb2⟩; have hb3 := zqi (hb2.mono (show w.heap.size + 1 + 1 + 1 ≤ _ by simp; omega)); obtain ⟨hc2, hf2⟩ := bcellN hb3; clear hb2; have hz2 := hb3.size)
    all_goals refine bodyPost_ret (by simp [results, Tryd.results121, go_sem, *]; rfl) rfl ⟨by rw [HD.out]; grind, ?_⟩
    all_goals have hb4 := hbw.trans (hb3.mono (show w.heap.size ≤ _ by omega))
    all_goals (repeat' first | (with_reducible assumption) | (with_reducible exact Below.refl _ _) | (with_reducible refine Below.drew ?_) | (with_reducible refine Below.setCell ?_ ?_ _) | (with_reducible refine Below.alloc ?_ ?_ _) | (refine Below.trans ?_ (Below.mono (by assumption) ?_)) | omega | (simp only [World.size_alloc] at *; omega))
  · have HD : Hid (Cut.before (s1, s2) most (v1, v2) = Cut.dry) := if_neg (by simpa [Cut.some] using hs)
    replace hs : Cut.some (v1, v2) = false := by simpa using hs
    go_enter Tryd.func121, Tryd.ntmps121
    go_wp2_with (go_at_call 55; refine (zcy _ _ _).mono ?_; rintro e w' ⟨rfl, hb⟩; rw [hs]; obtain ⟨hc, hf⟩ := bcell hb; have hz := hb.size; simp at hz)
    refine bodyPost_ret (v := .agg #[.int .i64 1048576, .int .i64 (-1048576)]) (by simp [results, Tryd.results121, go_sem, *]) rfl ⟨by rw [HD.out]; rfl, ?_⟩
    (repeat' first | (with_reducible assumption) | (with_reducible exact Below.refl _ _) | (with_reducible refine Below.drew ?_) | (with_reducible refine Below.setCell ?_ ?_ _) | (with_reducible refine Below.alloc ?_ ?_ _) | (refine Below.trans ?_ (Below.mono (by assumption) ?_)) | omega | (simp only [World.size_alloc] at *; omega))

end Go.Proofs.YtlkhjnpflohfeaaDoor

/- A cut that is looked at, in memory. -/
namespace Go.Proofs.YtlkhjnpflohfeaaDoor
open Go Go.Proofs Go.RowKit

def Elems (w : World) (M : Nat) (ra : Option Addr) (n k : Nat) (f : Nat → Nat → Value) : Prop :=
  n = 0 ∨ ∃ b off, ra = some ⟨b, off, none⟩ ∧ b < w.heap.size ∧ b ≠ M ∧ ∀ i j, i < n → j < k → w.cell? ⟨b, off + i * k + j, none⟩ = some (f i j)
theorem Elems.bel {w w' : World} {M : Nat} {ra : Option Addr} {n k : Nat} {f : Nat → Nat → Value} (h : Elems w M ra n k f) (hb : Bel M w.heap.size w w') : Elems w' M ra n k f := by
  rcases h with h | ⟨b, off, hr, hlt, hM, hc⟩
  · exact .inl h
  · exact .inr ⟨b, off, hr, Nat.lt_of_lt_of_le hlt hb.size, hM, fun i j hi hj => (hb.cell (p := ⟨b, _, none⟩) hlt hM).trans (hc i j hi hj)⟩

def spanCell (l : List (Int × Int)) (i j : Nat) : Value := if j = 0 then .int .i64 (Cut.spanAt l i).1 else .int .i64 (Cut.spanAt l i).2
def boatCell (l : List Boat) (i j : Nat) : Value :=
  if j = 0 then .int .i64 (Cut.boatAt l i).draws.1 else if j = 1 then .int .i64 (Cut.boatAt l i).draws.2 else if j = 2 then .int .i64 (Cut.boatAt l i).per else .int .i64 (Cut.boatAt l i).room
def lookCell (l : List Look) (i j : Nat) : Value :=
  if j = 0 then .int .i64 (Cut.lookAt l i).day else if j = 1 then .int .i64 (Cut.lookAt l i).depth.1 else .int .i64 (Cut.lookAt l i).depth.2
def spanCells : List (Int × Int) → List Value
  | [] => []
  | s :: l => .int .i64 s.1 :: .int .i64 s.2 :: spanCells l

def Kept (w : World) (M : Nat) (x : CutD) : Prop :=
  ∃ es clock, w.heap[M]? = some (.map es clock) ∧ ∀ e ∈ es.toList, ∃ (k : Int) (s : Nat), e.key = .agg #[.int .i64 k, .int .u64 s] ∧ e.val = .agg (spanCells (Cut.season x k s)).toArray

structure CutAt (w : World) (B M : Nat) (x : CutD) (ra ba la : Option Addr) (rc bc lc : Nat) : Prop where
  blk : Blk w B 118 [.int .i64 x.depth.1, .int .i64 x.depth.2, .int .i64 x.leak.1, .int .i64 x.leak.2, .slice ra x.rain.length rc, .int .i64 x.most, .slice ba x.boats.length bc, .slice la x.looks.length lc, .map (some M)]
  rain : Elems w M ra x.rain.length 2 (spanCell x.rain)
  boats : Elems w M ba x.boats.length 4 (boatCell x.boats)
  looks : Elems w M la x.looks.length 3 (lookCell x.looks)
  kept : Kept w M x
  ne : B ≠ M
  dry : Dry w
  nd : 0 ≠ M
section
variable {w w' : World} {B M : Nat} {x : CutD} {ra ba la : Option Addr} {rc bc lc : Nat}
theorem CutAt.bel (h : CutAt w B M x ra ba la rc bc lc) (hb : Bel M w.heap.size w w') (hk : Kept w' M x) : CutAt w' B M x ra ba la rc bc lc :=
  ⟨h.blk.bel hb h.blk.lt h.ne, h.rain.bel hb, h.boats.bel hb, h.looks.bel hb, hk, h.ne, h.dry.bel hb h.nd, h.nd⟩
theorem Kept.lt (h : Kept w M x) : M < w.heap.size := by
  obtain ⟨_, _, h, _⟩ := h; exact (Array.getElem?_eq_some_iff.1 h).1
theorem Kept.below {N : Nat} (h : Kept w M x) (hb : Below N w w') (hN : M < N) : Kept w' M x := by
  obtain ⟨es, c, h1, h2⟩ := h; exact ⟨es, c, (hb.block M hN).trans h1, h2⟩
theorem CutAt.below (h : CutAt w B M x ra ba la rc bc lc) (hb : Below w.heap.size w w') : CutAt w' B M x ra ba la rc bc lc :=
  h.bel (Bel.of_below hb) (h.kept.below hb h.kept.lt)
theorem CutAt.alloc (h : CutAt w B M x ra ba la rc bc lc) (o : Obj) : CutAt (w.alloc o) B M x ra ba la rc bc lc := h.below ((Below.refl _ _).alloc (Nat.le_refl _) _)
theorem CutAt.drew (h : CutAt w B M x ra ba la rc bc lc) : CutAt w.drew B M x ra ba la rc bc lc := h.below (Below.refl _ _).drew
theorem CutAt.far {w0 : World} (h0 : CutAt w0 B M x ra ba la rc bc lc) (hb : Bel M w0.heap.size w0 w) (hk : Kept w M x) : CutAt w B M x ra ba la rc bc lc := h0.bel hb hk
end

end Go.Proofs.YtlkhjnpflohfeaaDoor

/- The map of what is known already: looking up, writing. -/
namespace Go.Proofs.YtlkhjnpflohfeaaDoor
open Go Go.Proofs Go.RowKit

theorem zrh {P : Program} (d : Nat) {t : TypeId} {k : IntKind} (h : P.underlying t = some (.int k)) (a b : Int) (W : World) : (Op.equalIn (d + 1) t (.int k a) (.int k b)).run P W = .ok (a == b) W := by
  simp [Op.equalIn, run_underlying h]
theorem eqIn_two {P : Program} (d : Nat) {t : TypeId} {f0 f1 : Field} {k0 k1 : IntKind} (h : P.underlying t = some (.struct #[f0, f1])) (hst : P.stoodInHeld t = false) (n0 : f0.name ≠ "_") (n1 : f1.name ≠ "_")
    (h0 : P.underlying f0.type = some (.int k0)) (h1 : P.underlying f1.type = some (.int k1)) (a b c e : Int) (xs ys : Array Value) (W : World)
    (p0 : (part f0.type xs f0.offset).run P W = .ok (.int k0 a) W) (p1 : (part f1.type xs f1.offset).run P W = .ok (.int k1 b) W)
    (q0 : (part f0.type ys f0.offset).run P W = .ok (.int k0 c) W) (q1 : (part f1.type ys f1.offset).run P W = .ok (.int k1 e) W) :
    (Op.equalIn (d + 2) t (.agg xs) (.agg ys)).run P W = .ok (a == c && b == e) W := by
  have e0 := zrh (P := P) d h0 a c W
  have e1 := zrh (P := P) d h1 b e W
  unfold Op.equalIn
  simp only [Sem.run_bind, run_underlying h, Result.andThen, Sem.run, program]
  simp [hst, n0, n1, p0, p1, q0, q1, e0, e1]
  by_cases h1 : a = c <;> by_cases h2 : b = e <;> simp [*]
theorem zok {P : Program} (em : Bool) (d : Nat) {t : TypeId} {k : IntKind} (h : P.underlying t = some (.int k)) (a : Int) (W : World) : (Instr.checkKey em (d + 1) t (.int k a)).run P W = .ok () W := by
  simp [Instr.checkKey, run_underlying h]
theorem zwr {P : Program} (em : Bool) (d : Nat) {t : TypeId} {f0 f1 : Field} {k0 k1 : IntKind} (h : P.underlying t = some (.struct #[f0, f1])) (n0 : f0.name ≠ "_") (n1 : f1.name ≠ "_")
    (h0 : P.underlying f0.type = some (.int k0)) (h1 : P.underlying f1.type = some (.int k1)) (a b : Int) (xs : Array Value) (W : World)
    (p0 : (part f0.type xs f0.offset).run P W = .ok (.int k0 a) W) (p1 : (part f1.type xs f1.offset).run P W = .ok (.int k1 b) W) :
    (Instr.checkKey em (d + 2) t (.agg xs)).run P W = .ok () W := by
  have e0 := zok (P := P) em d h0 a W
  have e1 := zok (P := P) em d h1 b W
  unfold Instr.checkKey
  simp only [Sem.run_bind, run_underlying h, Result.andThen]
  simp [n0, n1, p0, p1, e0, e1]

abbrev keyV (k : Int) (s : Nat) : Value := .agg #[.int .i64 k, .int .u64 s]
abbrev seasonV (x : CutD) (k : Int) (s : Nat) : Value := .agg (spanCells (Cut.season x k s)).toArray

theorem key_eq (k k' : Int) (s s' : Nat) (W : World) : (Op.equal 90 (keyV k s) (keyV k' s')).run Tryd.prog W = .ok (k == k' && (s : Int) == (s' : Int)) W :=
  eqIn_two 9998 Tryd.underlying90 (by kernel_rfl) (by decide) (by decide) Tryd.underlying3 Tryd.underlying87 k s k' s' _ _ W (by kernel_rfl) (by kernel_rfl) (by kernel_rfl) (by kernel_rfl)
theorem zgk (em : Bool) (k : Int) (s : Nat) (W : World) : (Instr.checkKey em 10000 90 (keyV k s)).run Tryd.prog W = .ok () W :=
  zwr em 9998 Tryd.underlying90 (by decide) (by decide) Tryd.underlying3 Tryd.underlying87 k s _ W (by kernel_rfl) (by kernel_rfl)

def Entry (x : CutD) (e : MapEntry) : Prop := ∃ (k : Int) (s : Nat), e.key = keyV k s ∧ e.val = seasonV x k s

theorem zod (x : CutD) (k : Int) (s : Nat) : ∀ (es : List MapEntry) (i : Nat), (∀ e ∈ es, Entry x e) →
    ∃ r, (∀ W, (Instr.findAsking 90 (keyV k s) es i).run Tryd.prog W = .ok r W) ∧ (r = none ∨ ∃ j, i ≤ j ∧ r = some (j, seasonV x k s) ∧ ∃ e, es[j - i]? = some e ∧ e.key = keyV k s)
  | [], i, _ => ⟨none, fun _ => rfl, .inl rfl⟩
  | e :: es, i, h => by
    obtain ⟨k', s', hk, hv⟩ := h e (by simp)
    unfold Instr.findAsking
    rw [hk]
    simp only [Sem.run_bind, key_eq, Result.andThen]
    by_cases hh : k = k' ∧ s = s'
    · obtain ⟨rfl, rfl⟩ := hh
      refine ⟨some (i, e.val), fun W => by simp, .inr ⟨i, Nat.le_refl _, by rw [hv], e, by simp, hk⟩⟩
    · have hf : (k == k' && (s : Int) == (s' : Int)) = false := by
        cases hb : (k == k' && (s : Int) == (s' : Int)) with
        | false => rfl
        | true => simp at hb; exact absurd ⟨hb.1, by omega⟩ hh
      rw [hf]
      obtain ⟨r, hr, hrr⟩ := zod x k s es (i + 1) (fun e he => h e (by simp [he]))
      refine ⟨r, fun W => by simpa using hr W, ?_⟩
      rcases hrr with rfl | ⟨j, hj, rfl, e', he', hk'⟩
      · exact .inl rfl
      · refine .inr ⟨j, by omega, rfl, e', ?_, hk'⟩
        rw [show j - i = (j - (i + 1)) + 1 by omega]; simpa using he'

theorem zia (x : CutD) (k : Int) (s : Nat) (es : List MapEntry) (h : ∀ e ∈ es, Entry x e) :
    ∃ r, (∀ W, (Instr.findKey 90 (keyV k s) es).run Tryd.prog W = .ok r W) ∧ (r = none ∨ ∃ j, r = some (j, seasonV x k s) ∧ ∃ e, es[j]? = some e ∧ e.key = keyV k s) := by
  cases es with
  | nil =>
    refine ⟨none, fun W => ?_, .inl rfl⟩
    unfold Instr.findKey
    simp [run_underlying Tryd.underlying90, Instr.findNow]
  | cons e es =>
    obtain ⟨r, hr, hrr⟩ := zod x k s (e :: es) 0 h
    refine ⟨r, fun W => ?_, ?_⟩
    · unfold Instr.findKey
      simp [Sem.run_bind, run_underlying Tryd.underlying90, Instr.findNow, Instr.sameNow, hr]
    · rcases hrr with rfl | ⟨j, _, rfl, e', he', hk'⟩
      · exact .inl rfl
      · exact .inr ⟨j, rfl, e', by simpa using he', hk'⟩

theorem zpl {w : World} {M : Nat} {x : CutD} (hk : Kept w M x) (k : Int) (s : Nat) :
    ∃ hit : Bool, ∀ W : World, W.heap[M]? = w.heap[M]? →
      (Instr.lookup 116 (.map (some M)) (keyV k s) true).run Tryd.prog W = .ok (.tuple #[if hit then seasonV x k s else .agg (Array.replicate 18 (.int .i64 0)), .bool hit]) W := by
  obtain ⟨es, clock, h1, h2⟩ := hk
  have hE : ∀ e ∈ es.toList, Entry x e := h2
  obtain ⟨r, hr, hrr⟩ := zia x k s es.toList hE
  have zero : ∀ W : World, (zeroValue 85).run Tryd.prog W = .ok (.agg (Array.replicate 18 (.int .i64 0))) W := fun W => by rw [Tryd.zeroValue85]; rfl
  refine ⟨r.isSome, fun W hW => ?_⟩
  rw [h1] at hW
  unfold Instr.lookup
  rcases hrr with rfl | ⟨j, rfl, _⟩
  · simp [Sem.run_bind, run_underlying Tryd.underlying116, Result.andThen, getObj, Sem.run, hW, zgk, hr, zero]
  · simp [Sem.run_bind, run_underlying Tryd.underlying116, Result.andThen, getObj, Sem.run, hW, zgk, hr]

theorem zyh (k k' : Int) (s s' : Nat) (h : keyV k' s' = keyV k s) : Instr.sameBits 10000 (keyV k' s') (keyV k s) = true := by
  rw [h]; simp [Instr.sameBits]

theorem zou {w : World} {M : Nat} {x : CutD} (hk : Kept w M x) (k : Int) (s : Nat) :
    ∃ o, (Instr.mapUpdate 116 (.map (some M)) (keyV k s) (seasonV x k s)).run Tryd.prog w = .ok () (w.putObj M o) ∧ Kept (w.putObj M o) M x := by
  have hlt := hk.lt
  obtain ⟨es, clock, h1, h2⟩ := hk
  have hE : ∀ e ∈ es.toList, Entry x e := h2
  obtain ⟨r, hr, hrr⟩ := zia x k s es.toList hE
  rcases hrr with rfl | ⟨j, rfl, e, he, hke⟩
  · refine ⟨.map (es.push { key := keyV k s, val := seasonV x k s, born := clock }) (clock + 1), ?_, ?_⟩
    · unfold Instr.mapUpdate
      simp [Sem.run_bind, run_underlying Tryd.underlying116, Result.andThen, getObj, setObj, Sem.run, h1, zgk, hr, World.putObj]
    · refine ⟨_, _, World.putObj_heap_same hlt, ?_⟩
      intro e he
      simp at he
      rcases he with he | rfl
      · exact h2 e (by simpa using he)
      · exact ⟨k, s, rfl, rfl⟩
  · have hes : es[j]? = some e := by simpa using he
    have hsb : Instr.sameBits 10000 (((es[j]?).map (·.key)).getD (keyV k s)) (keyV k s) = true := by rw [hes]; simp only [Option.map_some, Option.getD_some, hke]; exact zyh _ _ _ _ rfl
    refine ⟨.map (es.modify j fun e => { e with key := keyV k s, val := seasonV x k s }) clock, ?_, ?_⟩
    · unfold Instr.mapUpdate
      simp only [Sem.run_bind, run_underlying Tryd.underlying116, Result.andThen, getObj, setObj, Sem.run, h1, zgk, hr, Instr.keyThatStays, hsb]
      simp [World.putObj, h1]
    · refine ⟨_, _, World.putObj_heap_same hlt, ?_⟩
      intro e' he'
      obtain ⟨i, hi, rfl⟩ := Array.mem_iff_getElem.1 (Array.mem_toList_iff.1 he')
      rw [Array.getElem_modify]
      split
      · exact ⟨k, s, rfl, rfl⟩
      · exact h2 _ (by simp)

end Go.Proofs.YtlkhjnpflohfeaaDoor

/- Contracts of look.after, look.before, looked. -/
namespace Go.Proofs.YtlkhjnpflohfeaaDoor
open Go Go.Proofs Go.RowKit
attribute [local go_sem ↓] zbu zbt

set_option maxHeartbeats 400000 in
theorem zma (a b c d : Int) (w : World) (hdr : Dry w) :
    Calls Tryd.prog 123 #[.agg #[.int .i64 a, .int .i64 b], .agg #[.int .i64 c, .int .i64 d]] w fun e w' => e = .returned (.agg #[.int .i64 (Cut.common (c, d) (a, b)).1, .int .i64 (Cut.common (c, d) (a, b)).2]) ∧ Below w.heap.size w w' := by
  have hdr' := hide hdr
  clear hdr
  go_enter Tryd.func123, Tryd.ntmps123
  go_wp2_with (go_at_call 89; refine (zho _ _ _ _ _ ((((hdr'.out.below ((Below.refl _ _).alloc (Nat.le_refl _) _)).below ((Below.refl _ _).alloc (Nat.le_refl _) _)).below ((Below.refl _ _).alloc (Nat.le_refl _) _)))).mono ?_; rintro e w' ⟨rfl, hb⟩; obtain ⟨hc, hf⟩ := bcell hb; have hz := hb.size; simp at hz)
  refine bodyPost_ret (by simp [results, Tryd.results123, go_sem, *]) rfl ⟨rfl, ?_⟩
  (repeat' first | (with_reducible assumption) | (with_reducible exact Below.refl _ _) | (with_reducible refine Below.drew ?_) | (with_reducible refine Below.setCell ?_ ?_ _) | (with_reducible refine Below.alloc ?_ ?_ _) | (refine Below.trans ?_ (Below.mono (by assumption) ?_)) | omega | (simp only [World.size_alloc] at *; omega))

section
variable {B M : Nat} {x : CutD} {ra ba la : Option Addr} {rc bc lc : Nat}

set_option maxHeartbeats 400000 in
theorem zkp (v1 v2 d : Int) (set : Nat) (w : World) (h : CutAt w B M x ra ba la rc bc lc) (hv : x.looks.length ≤ 5) (hset : set < 18446744073709551616) :
    Calls Tryd.prog 88 #[.pointer (some ⟨B, 0, none⟩), .agg #[.int .i64 v1, .int .i64 v2], .int .i64 d, .int .u64 set] w fun e w' =>
      e = .returned (.agg #[.int .i64 (Cut.looked x.looks d set (v1, v2)).1, .int .i64 (Cut.looked x.looks d set (v1, v2)).2]) ∧ Below w.heap.size w w' := by
  have c7 := h.blk.cell 7 rfl
  have H := hide h
  rcases h.looks with h0 | ⟨bb, off, rfl, hlt, hM, hc⟩
  · have hw : Cut.looked x.looks d set (v1, v2) = (v1, v2) := by unfold Cut.looked; rw [h0]; rfl
    have hBlt := h.blk.lt
    rw [h0] at c7
    have HW := hide hw
    clear h hw h0
    go_enter Tryd.func88, Tryd.ntmps88
    go_wp2
    refine wp_loop_rounds 1 ?_
    rw [rounds_succ]
    go_wp2
    refine bodyPost_ret (v := .agg #[.int .i64 v1, .int .i64 v2]) (by simp [results, Tryd.results88, go_sem, *]) rfl ⟨by rw [HW.out], ?_⟩
    (repeat' first | (with_reducible assumption) | (with_reducible exact Below.refl _ _) | (with_reducible refine Below.drew ?_) | (with_reducible refine Below.setCell ?_ ?_ _) | (with_reducible refine Below.alloc ?_ ?_ _) | (refine Below.trans ?_ (Below.mono (by assumption) ?_)) | omega | (simp only [World.size_alloc] at *; omega))
  have HC := hide hc
  have hBlt := h.blk.lt
  clear h hc
  go_enter Tryd.func88, Tryd.ntmps88
  go_wp2
  go_loopw [9, 10, 11, 18, 19, 20, 21, 22, 23, 24, 25, 26, 27, 28, 29, 30, 31, 32, 33, 34, 35, 36, 37, 38, 39, 40, 41, 42] (fun _ _ _ i _ _ _ _ _ _ _ _ _ _ _ _ _ _ _ _ _ _ _ _ _ _ _ _ wr => ∃ k : Nat, k ≤ x.looks.length ∧ i = .int .i64 k ∧ Below w.heap.size w wr ∧
      Blk wr w.heap.size 83 [.int .i64 (Cut.lookedTo x.looks d set (v1, v2) k).1, .int .i64 (Cut.lookedTo x.looks d set (v1, v2) k).2] ∧ Blk wr (w.heap.size + 1) 83 [.int .i64 0, .int .i64 0]) (fun _ _ _ i _ _ _ _ _ _ _ _ _ _ _ _ _ _ _ _ _ _ _ _ _ _ _ _ _ => x.looks.length - (intOf i).toNat)
  case atStart =>
    exact ⟨0, by omega, rfl, by (repeat' first | (with_reducible assumption) | (with_reducible exact Below.refl _ _) | (with_reducible refine Below.drew ?_) | (with_reducible refine Below.setCell ?_ ?_ _) | (with_reducible refine Below.alloc ?_ ?_ _) | (refine Below.trans ?_ (Below.mono (by assumption) ?_)) | omega | (simp only [World.size_alloc] at *; omega)), (Blk.new' _ [_, _] _ (by simp)).alloc _, Blk.new' _ [_, _] _ (by simp)⟩
  case round =>
    obtain ⟨k, hk, rfl, hB, b0, b1⟩ := hrel
    have c00 := b0.cell 0 rfl
    have c01 := b0.cell 1 rfl
    have c10 := b1.cell 0 rfl
    have c11 := b1.cell 1 rfl
    have f00 := b0.free 0
    have f01 := b0.free 1
    have f10 := b1.free 0
    have f11 := b1.free 1
    by_cases hkl : k < x.looks.length
    · have k0 := HC.out k 0 hkl (by omega)
      have k1 := HC.out k 1 hkl (by omega)
      have k2 := HC.out k 2 hkl (by omega)
      rw [← hB.cell (p := ⟨bb, _, none⟩) hlt] at k0 k1 k2
      simp [lookCell] at k0 k1 k2
      have hdw := hide ((H.out.below hB).dry)
      have hbit := bit_u64 set k hset
      have hl0 := b0.lt
      have hl1 := b1.lt
      by_cases ht : set.testBit k = true
      · by_cases hd : (Cut.lookAt x.looks k).day = d
        · have HU : Hid (Cut.lookedTo x.looks d set (v1, v2) (k + 1) = Cut.common (Cut.lookedTo x.looks d set (v1, v2) k) (Cut.lookAt x.looks k).depth) := by show Cut.lookedTo _ _ _ _ _ = _; simp [Cut.lookedTo, ht, hd]
          have hd' : ((Cut.lookAt x.looks k).day == d) = true := by simpa using hd
          rw [ht] at hbit
          simp only [if_true] at hbit
          clear hd ht
          go_wp2_with (go_at_call 123; refine (zma _ _ _ _ _ (hdw.out.below ((Below.refl _ _).alloc (Nat.le_refl _) _))).mono ?_; rintro e w' ⟨rfl, hb⟩; obtain ⟨hc, hf⟩ := bcell hb; have hz := hb.size; simp at hz)
          have b0' := (b0.alloc (Obj.cells #[.int .i64 (Cut.lookAt x.looks k).day, .int .i64 (Cut.lookAt x.looks k).depth.1, .int .i64 (Cut.lookAt x.looks k).depth.2] 55)).below hb (by simp; omega)
          have b1' := (b1.alloc (Obj.cells #[.int .i64 (Cut.lookAt x.looks k).day, .int .i64 (Cut.lookAt x.looks k).depth.1, .int .i64 (Cut.lookAt x.looks k).depth.2] 55)).below hb (by simp; omega)
          refine ⟨⟨k + 1, by omega, by go_num, by (repeat' first | (with_reducible assumption) | (with_reducible exact Below.refl _ _) | (with_reducible refine Below.drew ?_) | (with_reducible refine Below.setCell ?_ ?_ _) | (with_reducible refine Below.alloc ?_ ?_ _) | (refine Below.trans ?_ (Below.mono (by assumption) ?_)) | omega | (simp only [World.size_alloc] at *; omega)), ?_, by (repeat' first | (with_reducible assumption) | (with_reducible exact Blk.new _ _ _) | (with_reducible refine Blk.drew ?_) | (with_reducible refine Blk.set ?_ _ _) | (with_reducible refine Blk.other ?_ _ _ ?_) | (with_reducible refine Blk.alloc ?_ _) | omega | (simp only [World.size_alloc, World.size_setCell, World.size_drew]; omega))⟩, by simp [intOf]; omega⟩
          rw [HU.out]
          exact ((b0'.set 0 _).set 1 _)
        · have HU : Hid (Cut.lookedTo x.looks d set (v1, v2) (k + 1) = Cut.lookedTo x.looks d set (v1, v2) k) := by show Cut.lookedTo _ _ _ _ _ = _; simp [Cut.lookedTo, hd]
          have hd' : ((Cut.lookAt x.looks k).day == d) = false := by simpa using hd
          rw [ht] at hbit
          simp only [if_true] at hbit
          clear hd ht
          go_wp2
          refine ⟨⟨k + 1, by omega, by go_num, by (repeat' first | (with_reducible assumption) | (with_reducible exact Below.refl _ _) | (with_reducible refine Below.drew ?_) | (with_reducible refine Below.setCell ?_ ?_ _) | (with_reducible refine Below.alloc ?_ ?_ _) | (refine Below.trans ?_ (Below.mono (by assumption) ?_)) | omega | (simp only [World.size_alloc, World.size_setCell, World.size_drew] at *; omega)), ?_, by (repeat' first | (with_reducible assumption) | (with_reducible exact Blk.new _ _ _) | (with_reducible refine Blk.drew ?_) | (with_reducible refine Blk.set ?_ _ _) | (with_reducible refine Blk.other ?_ _ _ ?_) | (with_reducible refine Blk.alloc ?_ _) | omega | (simp only [World.size_alloc, World.size_setCell, World.size_drew]; omega))⟩, by simp [intOf]; omega⟩
          rw [HU.out]; (repeat' first | (with_reducible assumption) | (with_reducible exact Blk.new _ _ _) | (with_reducible refine Blk.drew ?_) | (with_reducible refine Blk.set ?_ _ _) | (with_reducible refine Blk.other ?_ _ _ ?_) | (with_reducible refine Blk.alloc ?_ _) | omega | (simp only [World.size_alloc, World.size_setCell, World.size_drew]; omega))
      · have HU : Hid (Cut.lookedTo x.looks d set (v1, v2) (k + 1) = Cut.lookedTo x.looks d set (v1, v2) k) := by show Cut.lookedTo _ _ _ _ _ = _; simp [Cut.lookedTo, ht]
        replace ht : set.testBit k = false := by simpa using ht
        rw [ht] at hbit
        simp only [Bool.false_eq_true, if_false] at hbit
        clear ht
        go_wp2
        refine ⟨⟨k + 1, by omega, by go_num, by (repeat' first | (with_reducible assumption) | (with_reducible exact Below.refl _ _) | (with_reducible refine Below.drew ?_) | (with_reducible refine Below.setCell ?_ ?_ _) | (with_reducible refine Below.alloc ?_ ?_ _) | (refine Below.trans ?_ (Below.mono (by assumption) ?_)) | omega | (simp only [World.size_alloc, World.size_setCell, World.size_drew] at *; omega)), ?_, by (repeat' first | (with_reducible assumption) | (with_reducible exact Blk.new _ _ _) | (with_reducible refine Blk.drew ?_) | (with_reducible refine Blk.set ?_ _ _) | (with_reducible refine Blk.other ?_ _ _ ?_) | (with_reducible refine Blk.alloc ?_ _) | omega | (simp only [World.size_alloc, World.size_setCell, World.size_drew]; omega))⟩, by simp [intOf]; omega⟩
        rw [HU.out]; (repeat' first | (with_reducible assumption) | (with_reducible exact Blk.new _ _ _) | (with_reducible refine Blk.drew ?_) | (with_reducible refine Blk.set ?_ _ _) | (with_reducible refine Blk.other ?_ _ _ ?_) | (with_reducible refine Blk.alloc ?_ _) | omega | (simp only [World.size_alloc, World.size_setCell, World.size_drew]; omega))
    · obtain rfl : k = x.looks.length := by omega
      go_wp2
      refine bodyPost_ret (v := .agg #[.int .i64 (Cut.lookedTo x.looks d set (v1, v2) x.looks.length).1, .int .i64 (Cut.lookedTo x.looks d set (v1, v2) x.looks.length).2]) (by simp [results, Tryd.results88, go_sem, *]) rfl ⟨rfl, ?_⟩
      (repeat' first | (with_reducible assumption) | (with_reducible exact Below.refl _ _) | (with_reducible refine Below.drew ?_) | (with_reducible refine Below.setCell ?_ ?_ _) | (with_reducible refine Below.alloc ?_ ?_ _) | (refine Below.trans ?_ (Below.mono (by assumption) ?_)) | omega | (simp only at *; omega))
end
end Go.Proofs.YtlkhjnpflohfeaaDoor

/- A region that draws its order and lays one new variable (operation p): the variable's address is not known ahead, for others may lay blocks before it. All operations before the last ones, but p, are quiet in both classes of worlds: those before p, those behind it. -/
namespace Go.Proofs.YtlkhjnpflohfeaaDoor
open Go
section
variable {P : Program} {ops : Array Oper} {md : Region.Mode} {D : Option Nat → World → Prop}

def qOpF (P : Program) (ops : Array Oper) (D : Option Nat → World → Prop) (i : Nat) (K : Act → Prop) (a : Act) : Prop :=
  match ops[i]? with
  | none => K a
  | some o => if Region.wanted o (yielded ops a.tmps) then ∃ v, (∀ d w, D d w → o.quietAt P a (D d) w v) ∧ K (a.put o.dst v) else K (a.put o.dst undef)

def YieldsF (P : Program) (ops : Array Oper) (D : Option Nat → World → Prop) (o : Oper) (v : Value) (a : Act) : Prop :=
  (Region.wanted o (yielded ops a.tmps) = true ∧ ∀ d w, D d w → o.quietAt P a (D d) w v) ∨ (Region.wanted o (yielded ops a.tmps) = false ∧ v = undef)

theorem YieldsF.qOpF {i : Nat} {o : Oper} {v : Value} {a : Act} (hi : ops[i]? = some o) (hy : YieldsF P ops D o v a) {K : Act → Prop} (h : K (a.put o.dst v)) : qOpF P ops D i K a := by
  unfold YtlkhjnpflohfeaaDoor.qOpF
  simp only [hi]
  rcases hy with ⟨hw, hv⟩ | ⟨hw, rfl⟩
  · simp only [hw, if_true]; exact ⟨v, hv, h⟩
  · simp only [hw, Bool.false_eq_true, if_false]; exact h
theorem zcl {i : Nat} {o : Oper} {a : Act} {K : Act → Prop} (hi : ops[i]? = some o) (h : qOpF P ops D i K a) : ∃ v, YieldsF P ops D o v a ∧ K (a.put o.dst v) := by
  unfold qOpF at h
  simp only [hi] at h
  by_cases hw : Region.wanted o (yielded ops a.tmps) = true
  · simp only [hw, if_true] at h
    obtain ⟨v, h1, h2⟩ := h
    exact ⟨v, .inl ⟨hw, h1⟩, h2⟩
  · simp only [hw] at h
    exact ⟨undef, .inr ⟨by simpa using hw, rfl⟩, h⟩
theorem zgf {i : Nat} {a : Act} {K K' : Act → Prop} (h : ∀ a, K a → K' a) (hh : qOpF P ops D i K a) : qOpF P ops D i K' a := by
  unfold qOpF at *
  split
  · exact h _ (by simpa [*] using hh)
  · rename_i o ho
    simp only [ho] at hh
    split
    · rename_i hw; simp only [hw, if_true] at hh; obtain ⟨v, h1, h2⟩ := hh; exact ⟨v, h1, h _ h2⟩
    · rename_i hw; simp only [hw] at hh; exact h _ hh
theorem YieldsF.of_same {o : Oper} {v : Value} {a a' : Act} (hy : YieldsF P ops D o v a) (he : execOp a'.eval o = execOp a.eval o)
    (hw : Region.wanted o (yielded ops a'.tmps) = Region.wanted o (yielded ops a.tmps)) : YieldsF P ops D o v a' := by
  unfold YieldsF Oper.quietAt at *
  rw [he, hw]
  exact hy
theorem zqw {j : Nat} {oi oj : Oper} {v : Value} (hj : ops[j]? = some oj) (hap : oi.apart ops oj = true)
    (hsi : ∀ cs b, oi.op ≠ .select cs b) (hsj : ∀ cs b, oj.op ≠ .select cs b) {K : Act → Prop} {a : Act}
    (hy : YieldsF P ops D oi v a) (h : qOpF P ops D j K (a.put oi.dst v)) :
    qOpF P ops D j (fun a' => YieldsF P ops D oi v a' ∧ K (a'.put oi.dst v)) a := by
  obtain ⟨h1, h2, h3⟩ := Oper.apart_spec hap
  have keep : ∀ (a : Act), YieldsF P ops D oi v a → ∀ u, YieldsF P ops D oi v (a.put oj.dst u) := fun a hy u =>
    hy.of_same (execOp_put oi hsi a oj.dst u h3) (wanted_put oi a oj.dst u h3)
  obtain ⟨u, hu, hK⟩ := zcl hj h
  refine YieldsF.qOpF hj (v := u) (hu.of_same (execOp_put oj hsj a oi.dst v h1).symm (wanted_put oj a oi.dst v h1).symm) ⟨keep a hy u, ?_⟩
  rw [← Act.put_comm a v u h2]; exact hK

def anyF (P : Program) (md : Region.Mode) (ops : Array Oper) (D : Option Nat → World → Prop) (p n : Nat) (L : Array Bool → Act → Prop) : Nat → Array Bool → Act → Prop
  | 0, listed, a => L listed a
  | f + 1, listed, a =>
    Region.ready md ops listed ≠ [] ∧ ∀ i ∈ Region.ready md ops listed, i < n ∧
      if i = p then anyF P md ops D p n L f (listed.setIfInBounds i true) a else qOpF P ops D i (anyF P md ops D p n L f (listed.setIfInBounds i true)) a

structure Lays (P : Program) (ops : Array Oper) (D : Option Nat → World → Prop) (p n : Nat) (op : Oper) (V : Nat → Value) : Prop where
  at' : ops[p]? = some op
  guard : op.guard = none
  apart : ∀ j oj, ops[j]? = some oj → j < n → j ≠ p → op.apart ops oj = true
  run : ∀ a w, D none w → ∃ b w', (execOp (Act.eval a) op).run P w = .ok (.value (V b)) w' ∧ D (some b) w'

def fr (op : Oper) (V : Nat → Value) (d : Option Nat) (a : Act) : Act := match d with | none => a | some b => a.put op.dst (V b)

theorem zbx {p n g : Nat} {op : Oper} {V : Nat → Value} {L : Array Bool → Act → Prop} {Q' : Exit → Act → World → Prop} (hp : Lays P ops D p n op V) (hps : p < ops.size)
    (hsel : ∀ (j : Nat) (o : Oper) cs b, ops[j]? = some o → o.op ≠ .select cs b)
    (hL : ∀ listed a d w, D d w → d.isSome = listed.getD p false → L listed a → wpAny P md ops Q' g listed (fr op V d a) w) :
    ∀ (f : Nat) (listed : Array Bool) (a : Act) (d : Option Nat) (w : World), listed.size = ops.size → D d w → d.isSome = listed.getD p false → anyF P md ops D p n L f listed a → wpAny P md ops Q' (f + g) listed (fr op V d a) w
  | 0, listed, a, d, w, _, hw, hd, h => by rw [Nat.zero_add]; exact hL _ _ _ _ hw hd h
  | f + 1, listed, a, d, w, hs, hw, hd, h => by
    rw [show f + 1 + g = (f + g) + 1 by omega]
    refine ⟨fun h0 => absurd h0 h.1, fun i hi => ?_⟩
    obtain ⟨hin, h2⟩ := h.2 i hi
    by_cases hip : i = p
    · subst hip
      rw [if_pos rfl] at h2
      have hun := (mem_ready.1 hi).1
      rw [getD_both hun] at hd
      cases d with
      | some b => simp at hd
      | none =>
        obtain ⟨b, w', hr, hD⟩ := hp.run (fr op V none a) w hw
        unfold wpOp
        simp only [hp.at']
        have hwt : Region.wanted op (yielded ops (fr op V none a).tmps) = true := by simp [Region.wanted, hp.guard]
        simp only [hwt, if_true]
        refine .inl ?_
        unfold Oper.wp
        rw [hr]
        refine zbx hp hps hsel hL f _ a (some b) w' (by simp [hs]) hD ?_ h2
        rw [Array.getD_eq_getD_getElem?, Array.getElem?_setIfInBounds_self_of_lt (by omega)]; rfl
    · rw [if_neg hip] at h2
      have hd' : d.isSome = (listed.setIfInBounds i true).getD p false := by rw [getD_set_ne false hip]; exact hd
      obtain ⟨hun, oi, hoi, hall⟩ := mem_ready.1 hi
      obtain ⟨v, hy, hK⟩ := zcl hoi h2
      have hap := hp.apart i oi hoi hin hip
      obtain ⟨h1, h2', h3⟩ := Oper.apart_spec hap
      have he : ∀ u, execOp (a.put op.dst u).eval oi = execOp a.eval oi := fun u => execOp_put oi (fun cs b => hsel i oi cs b hoi) a op.dst u h1
      have hwt : ∀ u, Region.wanted oi (yielded ops (a.put op.dst u).tmps) = Region.wanted oi (yielded ops a.tmps) := fun u => wanted_put oi a op.dst u h1
      have he' : execOp (fr op V d a).eval oi = execOp a.eval oi := by cases d with | none => rfl | some b => exact he _
      have hwt' : Region.wanted oi (yielded ops (fr op V d a).tmps) = Region.wanted oi (yielded ops a.tmps) := by cases d with | none => rfl | some b => exact hwt _
      have hfr : ∀ u, (fr op V d a).put oi.dst u = fr op V d (a.put oi.dst u) := fun u => by cases d with | none => rfl | some b => exact Act.put_comm a (V b) u h2'
      unfold wpOp
      simp only [hoi]
      rcases hy with ⟨hw1, hq⟩ | ⟨hw1, rfl⟩
      · simp only [hwt', hw1, if_true]
        refine .inl ?_
        have hq' := hq d w hw
        unfold Oper.quietAt at hq'
        unfold Oper.wp
        rw [he']
        generalize (execOp a.eval oi).run P w = r at *
        cases r with
        | ok nx w' =>
          cases nx <;> simp only [Oper.quietUpon] at hq' <;> simp only [Oper.upon]
          case value u =>
            obtain ⟨e1, e2⟩ := hq'
            rw [e1, e2, hfr]
            exact zbx hp hps hsel hL f _ _ d w (by simp [hs]) hw hd' hK
          case skip =>
            obtain ⟨e1, e2⟩ := hq'
            rw [e1, ← e2, hfr]
            exact zbx hp hps hsel hL f _ _ d w (by simp [hs]) hw hd' hK
          case enter g' args =>
            obtain ⟨e1, hc⟩ := hq'
            rw [e1]
            exact hc.mono fun e w'' ⟨he, hw''⟩ => by
              subst he
              show wpAny P md ops Q' (f + g) _ ((fr op V d a).put oi.dst v) w''
              rw [hfr]
              exact zbx hp hps hsel hL f _ _ d w'' (by simp [hs]) hw'' hd' hK
        | halt x w' => simp only [Oper.quietUpon] at hq'
      · simp only [hwt', hw1, Bool.false_eq_true, if_false]
        rw [hfr]
        exact zbx hp hps hsel hL f _ _ d w (by simp [hs]) hw hd' hK

theorem zti {p n i : Nat} {oi : Oper} {v : Value} {L : Array Bool → Act → Prop} (hi : ops[i]? = some oi) (hsel : ∀ (j : Nat) (o : Oper) cs b, ops[j]? = some o → o.op ≠ .select cs b)
    (hs : Region.sinkB md ops n = true) (hc : Region.chainB md ops n = true) (hn : n < ops.size) (hin : i < n) (hip : i ≠ p)
    (hdone : ∀ listed a, L listed a → ∀ j ∈ Region.ready md ops listed, n ≤ j) :
    ∀ (f : Nat) (listed : Array Bool) (a : Act), HeadInv md ops n listed →
      (∀ j oj, ops[j]? = some oj → j ≠ i → listed.getD j true = false → (∀ e ∈ oj.after, Region.binds md e = true → e.on ≠ i) → oi.apart ops oj = true) →
      i ∈ Region.ready md ops listed → YieldsF P ops D oi v a →
      anyF P md ops D p n L f (listed.setIfInBounds i true) (a.put oi.dst v) → anyF P md ops D p n L (f + 1) listed a := by
  intro f
  induction f with
  | zero =>
    intro listed a inv _ hr hy H
    have hun := (mem_ready.1 hr).1
    refine ⟨fun h => (by rw [h] at hr; cases hr), fun j hj => ?_⟩
    have hjn : j < n := (Nat.lt_or_ge j n).elim id fun h => absurd hj (tail_waits hs hc hn inv _ i rfl hin hun j h)
    refine ⟨hjn, ?_⟩
    by_cases hji : j = i
    · subst hji; rw [if_neg hip]; exact hy.qOpF hi H
    · have := hdone _ _ H j (ready_mono hj hji)
      omega
  | succ f ih =>
    intro listed a inv hfree hr hy H
    have hun := (mem_ready.1 hr).1
    refine ⟨fun h => (by rw [h] at hr; cases hr), fun j hj => ?_⟩
    have hjn : j < n := (Nat.lt_or_ge j n).elim id fun h => absurd hj (tail_waits hs hc hn inv _ i rfl hin hun j h)
    refine ⟨hjn, ?_⟩
    by_cases hji : j = i
    · subst hji; rw [if_neg hip]; exact hy.qOpF hi H
    · have h1 := (H.2 j (ready_mono hj hji)).2
      obtain ⟨hjun, oj, hoj, hall⟩ := mem_ready.1 hj
      have hnot : ∀ e ∈ oj.after, Region.binds md e = true → e.on ≠ i := fun e he hb heq => by
        have h1 := hall e he hb
        rw [heq, getD_both hun] at h1
        cases h1
      have hfree' : ∀ k ok, ops[k]? = some ok → k ≠ i → (listed.setIfInBounds j true).getD k true = false →
          (∀ e ∈ ok.after, Region.binds md e = true → e.on ≠ i) → oi.apart ops ok = true := fun k ok hk hki hun hno => by
        refine hfree k ok hk hki ?_ hno
        by_cases hjk : j = k
        · subst hjk; exact hjun
        · rw [getD_set_ne true hjk] at hun; exact hun
      by_cases hjp : j = p
      · rw [if_pos hjp] at h1 ⊢
        refine ih (listed.setIfInBounds j true) a (inv.set hj hjn) hfree' (ready_mono hr (Ne.symm hji)) hy ?_
        rw [Array.setIfInBounds_comm _ _ hji]
        exact h1
      · rw [if_neg hjp] at h1 ⊢
        have h2 := zqw hoj (hfree j oj hoj hji hjun hnot) (fun cs b => hsel i oi cs b hi) (fun cs b => hsel j oj cs b hoj) hy h1
        refine zgf (fun a' h3 => ih (listed.setIfInBounds j true) a' (inv.set hj hjn) hfree' (ready_mono hr (Ne.symm hji)) h3.1 ?_) h2
        rw [Array.setIfInBounds_comm _ _ hji]
        exact h3.2

theorem anyF_lay {p n : Nat} {L : Array Bool → Act → Prop}
    (hs : Region.sinkB md ops n = true) (hc : Region.chainB md ops n = true) (hn : n < ops.size) (hin : p < n)
    (hdone : ∀ listed a, L listed a → ∀ j ∈ Region.ready md ops listed, n ≤ j) :
    ∀ (f : Nat) (listed : Array Bool) (a : Act), HeadInv md ops n listed →
      p ∈ Region.ready md ops listed →
      anyF P md ops D p n L f (listed.setIfInBounds p true) a → anyF P md ops D p n L (f + 1) listed a := by
  intro f
  induction f with
  | zero =>
    intro listed a inv hr H
    have hun := (mem_ready.1 hr).1
    refine ⟨fun h => (by rw [h] at hr; cases hr), fun j hj => ?_⟩
    have hjn : j < n := (Nat.lt_or_ge j n).elim id fun h => absurd hj (tail_waits hs hc hn inv _ p rfl hin hun j h)
    refine ⟨hjn, ?_⟩
    by_cases hji : j = p
    · subst hji; rw [if_pos rfl]; exact H
    · have := hdone _ _ H j (ready_mono hj hji)
      omega
  | succ f ih =>
    intro listed a inv hr H
    have hun := (mem_ready.1 hr).1
    refine ⟨fun h => (by rw [h] at hr; cases hr), fun j hj => ?_⟩
    have hjn : j < n := (Nat.lt_or_ge j n).elim id fun h => absurd hj (tail_waits hs hc hn inv _ p rfl hin hun j h)
    refine ⟨hjn, ?_⟩
    by_cases hji : j = p
    · subst hji; rw [if_pos rfl]; exact H
    · have h1 := (H.2 j (ready_mono hj hji)).2
      rw [if_neg hji] at h1 ⊢
      refine zgf (fun a' h3 => ih (listed.setIfInBounds j true) a' (inv.set hj hjn) (ready_mono hr (Ne.symm hji)) ?_) h1
      rw [Array.setIfInBounds_comm _ _ hji]
      exact h3

def wpQuietF (P : Program) (ops : Array Oper) (D : Option Nat → World → Prop) (Q : Act → Prop) : Nat → List Oper → Act → Prop
  | _, [], a => Q a
  | 0, _ :: rest, a => wpQuietF P ops D Q (rest.length + 1) rest a
  | k + 1, o :: rest, a => if Region.wanted o (yielded ops a.tmps) then ∃ v, (∀ d w, D d w → o.quietAt P a (D d) w v) ∧ wpQuietF P ops D Q k rest (a.put o.dst v) else wpQuietF P ops D Q k rest (a.put o.dst undef)

theorem zmr {p n g : Nat} {Lq : Act → Prop} (hsel : Region.noSelect ops = true) (hs : Region.sinkB md ops n = true) (hc : Region.chainB md ops n = true) (hn : n < ops.size) (hpn : p < n) :
    ∀ (l : List Oper) (k q : Nat) (listed : Array Bool) (a : Act), (∀ j, j < l.length → l[j]? = ops[k + j]?) → k + l.length = n → (k ≤ p → q = p - k) → (p < k → l.length ≤ q) → (p < k → listed.getD p false = true) → HeadInv md ops n listed →
    Region.lexHead md ops g l.length k listed = true → wpQuietF P ops D Lq q l a →
    anyF P md ops D p n (fun listed' a' => Region.seqB md ops g n listed' = true ∧ listed'.getD p false = true ∧ Lq a') l.length listed a
  | [], k, q, listed, a, _, hk, _, _, hpl, _, hB, h => by
    have : k = n := by simpa using hk
    subst this
    exact ⟨by simpa [Region.lexHead] using hB, hpl hpn, by unfold wpQuietF at h; exact h⟩
  | o :: l, k, q, listed, a, hl, hk, hq1, hq2, hpl, inv, hB, h => by
    have h0 : ops[k]? = some o := by simpa using (hl 0 (by simp)).symm
    simp only [List.length_cons, Region.lexHead, Bool.and_eq_true] at hB
    obtain ⟨⟨hr, hf⟩, hB'⟩ := hB
    have hkn : k < n := by simp only [List.length_cons] at hk; omega
    have hr' : k ∈ Region.ready md ops listed := by simpa using hr
    have hlen : k + 1 + l.length = n := by simp only [List.length_cons] at hk; omega
    have hl' : ∀ j, j < l.length → l[j]? = ops[k + 1 + j]? := fun j hj => by have := hl (j + 1) (by simp; omega); simpa [Nat.add_assoc, Nat.add_comm 1 j] using this
    by_cases hkp : k = p
    · subst hkp
      have hq : q = 0 := by have := hq1 (Nat.le_refl _); omega
      subst hq
      unfold wpQuietF at h
      exact anyF_lay hs hc hn hpn (fun listed' a' hL => seqB_ready hL.1) l.length listed a inv hr'
        (zmr hsel hs hc hn hpn l (k + 1) (l.length + 1) _ _ hl' hlen (by omega) (by omega) (fun _ => by rw [Array.getD_eq_getD_getElem?, Array.getElem?_setIfInBounds_self_of_lt (by rw [inv.size]; omega)]; rfl) (inv.set hr' hkn) hB' h)
    · obtain ⟨q', rfl⟩ : ∃ q', q = q' + 1 := by
        rcases Nat.lt_or_ge p k with h1 | h1
        · have := hq2 h1; simp only [List.length_cons] at this; exact ⟨q - 1, by omega⟩
        · have := hq1 h1; exact ⟨q - 1, by omega⟩
      have hst : qOpF P ops D k (wpQuietF P ops D Lq q' l) a := by unfold qOpF; simp only [h0]; unfold wpQuietF at h; exact h
      obtain ⟨v, hy, hK⟩ := zcl h0 hst
      exact zti h0 (Region.noSelect_spec hsel) hs hc hn hkn hkp (fun listed' a' hL => seqB_ready hL.1) l.length listed a inv (Region.free_spec h0 hf) hr' hy
        (zmr hsel hs hc hn hpn l (k + 1) q' _ _ hl' hlen (fun h1 => by have := hq1 (by omega); omega) (fun h1 => by
          rcases Nat.lt_or_ge p k with h2 | h2
          · have := hq2 h2; simp only [List.length_cons] at this; omega
          · omega) (fun h1 => getD_set_true (hpl (by omega))) (inv.set hr' hkn) hB' hK)

theorem zxl {Q : Exit → Act → World → Prop} {a : Act} {w : World} {l : List Oper} {op : Oper} {V : Nat → Value} (p n : Nat) (hB : Region.lexTailB .any l.toArray n = true) (hpn : p < n)
    (hp : Lays P l.toArray D p n op V) (hw : D none w.drew)
    (h : wpQuietF P l.toArray D (fun a' => ∀ b w', D (some b) w' → wpList P l.toArray Q (l.drop n) (a'.put op.dst (V b)) w') p (l.take n) a) : wpAny P .any l.toArray Q l.toArray.size (Array.replicate l.toArray.size false) a w.drew := by
  simp only [Region.lexTailB, Bool.and_eq_true, decide_eq_true_eq] at hB
  obtain ⟨⟨⟨⟨hsel, hn⟩, hs⟩, hc⟩, hlex⟩ := hB
  have hn' : n < l.length := by simpa using hn
  have htl : (l.take n).length = n := by simp; omega
  have hdl : (l.drop n).length = l.toArray.size - n := by simp
  have inv0 : HeadInv .any l.toArray n (Array.replicate l.toArray.size false) :=
    ⟨by simp, fun j oj _ hl => (by rw [getD_replicate_false] at hl; cases hl), fun t _ ht => getD_in (by simpa using ht) (getD_replicate_false _ _)⟩
  have H := zmr (md := .any) (D := D) (g := l.toArray.size - n) hsel hs hc hn hpn (l.take n) 0 p _ a (fun j hj => by
    have hj' : j < n := by rw [htl] at hj; exact hj
    simp [hj']) (by simpa using htl) (fun _ => rfl) (by omega) (by omega) inv0 (by rw [htl]; exact hlex) h
  have := zbx (Q' := Q) (g := l.toArray.size - n) hp (by omega) (Region.noSelect_spec hsel) (fun listed a' d w' hw' hd hL => by
    rw [hL.2.1] at hd
    cases d with
    | none => simp at hd
    | some b =>
      have := wpAny_of_seq (md := .any) (Q' := Q) (l.drop n) n listed (a'.put op.dst (V b)) w' (fun j => by simp [List.getElem?_drop]) (by rw [hdl]; exact hL.1) (hL.2.2 b w' hw')
      rwa [hdl] at this) _ _ a none w.drew (by simp) hw (by rw [getD_replicate_false]; rfl) H
  rw [htl, show n + (l.toArray.size - n) = l.toArray.size by omega] at this
  exact this

structure Fl (p0 : World → Prop) (p1 : Nat → World → Prop) where
  W : World
  b : Option Nat
  ok : match b with | none => p0 W | some b => p1 b W
def FlD (p0 : World → Prop) (p1 : Nat → World → Prop) (d : Option Nat) (w : World) : Prop := ∃ s : Fl p0 p1, s.b = d ∧ w = s.W

theorem zhe {p0 : World → Prop} {p1 : Nat → World → Prop} {Q : Act → Prop} {k : Nat} {o : Oper} {rest : List Oper} {a : Act} {v : Value}
    (h : ∀ s : Fl p0 p1, (execOp a.eval o).run P s.W = .ok (.value v) s.W) (hg : Region.wanted o (yielded ops a.tmps) = true) (hq : wpQuietF P ops (FlD p0 p1) Q k rest (a.put o.dst v)) : wpQuietF P ops (FlD p0 p1) Q (k + 1) (o :: rest) a := by
  unfold wpQuietF
  rw [if_pos hg]
  refine ⟨v, ?_, hq⟩
  rintro d w ⟨s, rfl, rfl⟩
  unfold Oper.quietAt
  rw [h s]
  exact ⟨rfl, rfl⟩
theorem ziu {p0 : World → Prop} {p1 : Nat → World → Prop} {Q : Act → Prop} {k : Nat} {o : Oper} {rest : List Oper} {a : Act} {v : Value} {f : FuncId} {args : Array Value}
    (h : ∀ s : Fl p0 p1, (execOp a.eval o).run P s.W = .ok (.enter f args) s.W) (hc : ∀ s : Fl p0 p1, Calls P f args s.W fun e w' => e = .returned v ∧ ∃ s' : Fl p0 p1, s'.b = s.b ∧ w' = s'.W) (hg : Region.wanted o (yielded ops a.tmps) = true)
    (hq : wpQuietF P ops (FlD p0 p1) Q k rest (a.put o.dst v)) : wpQuietF P ops (FlD p0 p1) Q (k + 1) (o :: rest) a := by
  unfold wpQuietF
  rw [if_pos hg]
  refine ⟨v, ?_, hq⟩
  rintro d w ⟨s, rfl, rfl⟩
  unfold Oper.quietAt
  rw [h s]
  exact ⟨rfl, hc s⟩
def apartB (ops : Array Oper) (p n : Nat) (op : Oper) : Bool := (List.range n).all fun j => j == p || match ops[j]? with | some oj => op.apart ops oj | none => true
theorem Lays.mk' {p n : Nat} {op : Oper} {V : Nat → Value} (h : ops[p]? = some op) (hg : op.guard = none) (hB : apartB ops p n op = true)
    (hr : ∀ a w, D none w → ∃ b w', (execOp (Act.eval a) op).run P w = .ok (.value (V b)) w' ∧ D (some b) w') : Lays P ops D p n op V :=
  ⟨h, hg, fun j oj hj hjn hjp => by
    have := List.all_eq_true.1 hB j (List.mem_range.2 hjn)
    simpa [hjp, hj] using this, hr⟩
theorem Lays.alloc {p0 : World → Prop} {p1 : Nat → World → Prop} {p n : Nat} {op : Oper} {o : Obj} (h : ops[p]? = some op) (hg : op.guard = none) (hB : apartB ops p n op = true)
    (hr : ∀ a w, (execOp (Act.eval a) op).run P w = .ok (.value (.pointer (some ⟨w.heap.size, 0, none⟩))) (w.alloc o)) (hp : ∀ w, p0 w → p1 w.heap.size (w.alloc o)) :
    Lays P ops (FlD p0 p1) p n op (fun b => .pointer (some ⟨b, 0, none⟩)) :=
  Lays.mk' h hg hB fun a w hw => by
    obtain ⟨s, hb, rfl⟩ := hw
    have ok := s.ok
    rw [hb] at ok
    exact ⟨_, _, hr a s.W, ⟨⟨_, some _, hp s.W ok⟩, rfl, rfl⟩⟩
theorem zsg {Q : Act → Prop} {k : Nat} {a : Act} (h : Q a) : wpQuietF P ops D Q k [] a := by cases k <;> exact h
theorem zph {Q : Act → Prop} {o : Oper} {rest : List Oper} {a : Act} (h : wpQuietF P ops D Q (rest.length + 1) rest a) : wpQuietF P ops D Q 0 (o :: rest) a := h
end
end Go.Proofs.YtlkhjnpflohfeaaDoor

/- As QFloat; and one operation more, x, that only picks a part of a value that is there already, and whose result the last operations alone use, may come whenever it likes. -/
namespace Go.Proofs.YtlkhjnpflohfeaaDoor
open Go
section
variable {P : Program} {ops : Array Oper} {md : Region.Mode} {D : Option Nat → World → Prop}

def sinkX (md : Region.Mode) (ops : Array Oper) (x n : Nat) : Bool :=
  (List.range n).all fun i => i == x || (List.range (n + 1)).any fun j => decide (i < j) && j != x && Region.waitsFor md ops j i

def condX (P : Program) (md : Region.Mode) (ops : Array Oper) (x : Nat) (ox : Oper) (vx : Value) (listed : Array Bool) (a : Act) : Prop :=
  x ∈ Region.ready md ops (listed.setIfInBounds x false) → ∀ w, (execOp a.eval ox).run P w = .ok (.value vx) w

def anyX (P : Program) (md : Region.Mode) (ops : Array Oper) (D : Option Nat → World → Prop) (x : Nat) (ox : Oper) (vx : Value) (p n : Nat) (L : Array Bool → Act → Prop) : Nat → Array Bool → Act → Prop
  | 0, listed, a => condX P md ops x ox vx listed a ∧ L listed a
  | f + 1, listed, a => condX P md ops x ox vx listed a ∧
    Region.ready md ops listed ≠ [] ∧ ∀ i ∈ Region.ready md ops listed, i < n ∧
      if i = p then anyX P md ops D x ox vx p n L f (listed.setIfInBounds i true) a else qOpF P ops D i (anyX P md ops D x ox vx p n L f (listed.setIfInBounds i true)) a

theorem anyX.cond {x : Nat} {ox : Oper} {vx : Value} {p n : Nat} {L : Array Bool → Act → Prop} {f : Nat} {listed : Array Bool} {a : Act} (h : anyX P md ops D x ox vx p n L f listed a) : condX P md ops x ox vx listed a := by
  cases f with
  | zero => exact h.1
  | succ f => exact h.1

def half (ops : Array Oper) (o1 o2 : Oper) : Bool := match o1.dst with | none => true | some d => !(o2.looksAt ops).contains d && o2.dst != some d
theorem zoa {o1 o2 : Oper} (h : half ops o1 o2 = true) : (∀ d, o1.dst = some d → d ∉ o2.looksAt ops) ∧ (∀ d, o1.dst = some d → o2.dst ≠ some d) := by
  unfold half at h
  refine ⟨fun d hd => ?_, fun d hd => ?_⟩ <;> simp [hd] at h
  · exact h.1
  · exact h.2
def halfB (ops : Array Oper) (p n : Nat) (op : Oper) : Bool := (List.range n).all fun j => j == p || match ops[j]? with | some oj => half ops op oj | none => true

structure Picks (md : Region.Mode) (ops : Array Oper) (x p n : Nat) (ox op : Oper) : Prop where
  at' : ops[x]? = some ox
  lt : x < n
  ne : x ≠ p
  guard : ox.guard = none
  apart : ∀ j oj, ops[j]? = some oj → j < n → j ≠ x → half ops ox oj = true
  other : ∀ j oj, ops[j]? = some oj → j < n → j ≠ x → (∃ e ∈ ox.after, Region.binds md e = true ∧ e.on = j) ∨ oj.apart ops ox = true
  edge : ∀ j oj, ops[j]? = some oj → j < n → ∀ e ∈ oj.after, Region.binds md e = true → e.on ≠ x

theorem zke {d : Option Nat} {w : World} {Q' : Exit → Act → World → Prop} {o : Oper} {a a' : Act} {v : Value} {i : Nat} {K : Act → World → Prop} (hi : ops[i]? = some o) (hy : YieldsF P ops D o v a) (hw : D d w)
    (he : execOp a'.eval o = execOp a.eval o) (hwt : Region.wanted o (yielded ops a'.tmps) = Region.wanted o (yielded ops a.tmps)) (hK : ∀ w', D d w' → K (a'.put o.dst v) w') : wpOp P ops Q' i K a' w := by
  unfold wpOp
  simp only [hi]
  rcases hy with ⟨hw1, hq⟩ | ⟨hw1, rfl⟩
  · simp only [hwt, hw1, if_true]
    refine .inl ?_
    have hq' := hq d w hw
    unfold Oper.quietAt at hq'
    unfold Oper.wp
    rw [he]
    generalize (execOp a.eval o).run P w = r at *
    cases r with
    | ok nx w' =>
      cases nx <;> simp only [Oper.quietUpon] at hq' <;> simp only [Oper.upon]
      case value u =>
        obtain ⟨e1, e2⟩ := hq'
        rw [e1, e2]
        exact hK _ hw
      case skip =>
        obtain ⟨e1, e2⟩ := hq'
        rw [e1, ← e2]
        exact hK _ hw
      case enter g' args =>
        obtain ⟨e1, hc⟩ := hq'
        rw [e1]
        exact hc.mono fun e w'' ⟨he, hw''⟩ => by subst he; exact hK _ hw''
    | halt x w' => simp only [Oper.quietUpon] at hq'
  · simp only [hwt, hw1, Bool.false_eq_true, if_false]
    exact hK _ hw

theorem zdm {x : Nat} {ox : Oper} {vx : Value} {p n g : Nat} {op : Oper} {V : Nat → Value} {L : Array Bool → Act → Prop} {Q' : Exit → Act → World → Prop} (hp : Lays P ops D p n op V) (hpn : p < n) (hn : n ≤ ops.size) (hx : Picks md ops x p n ox op)
    (hsel : ∀ (j : Nat) (o : Oper) cs b, ops[j]? = some o → o.op ≠ .select cs b)
    (hL : ∀ listed a d w, D d w → d.isSome = listed.getD p false → L listed a → wpAny P md ops Q' g listed ((fr op V d a).put ox.dst vx) w) :
    ∀ (f : Nat) (listed : Array Bool) (a : Act) (d : Option Nat) (w : World), listed.size = ops.size → listed.getD x false = true → D d w → d.isSome = listed.getD p false → anyX P md ops D x ox vx p n L f listed a → wpAny P md ops Q' (f + g) listed ((fr op V d a).put ox.dst vx) w
  | 0, listed, a, d, w, _, _, hw, hd, h => by rw [Nat.zero_add]; exact hL _ _ _ _ hw hd h.2
  | f + 1, listed, a, d, w, hs, hxl, hw, hd, h => by
    rw [show f + 1 + g = (f + g) + 1 by omega]
    obtain ⟨_, h0, h⟩ := h
    refine ⟨fun h1 => absurd h1 h0, fun i hi => ?_⟩
    obtain ⟨hin, h2⟩ := h i hi
    have hix : i ≠ x := fun e => by
      subst e
      have := (mem_ready.1 hi).1
      rw [getD_both this] at hxl; cases hxl
    have hxl' : (listed.setIfInBounds i true).getD x false = true := getD_set_true hxl
    by_cases hip : i = p
    · subst hip
      rw [if_pos rfl] at h2
      have hun := (mem_ready.1 hi).1
      rw [getD_both hun] at hd
      cases d with
      | some b => simp at hd
      | none =>
        obtain ⟨b, w', hr, hD⟩ := hp.run ((fr op V none a).put ox.dst vx) w hw
        obtain ⟨h1', h2'⟩ := zoa (hx.apart i op hp.at' hin hix)
        unfold wpOp
        simp only [hp.at']
        have hwt : Region.wanted op (yielded ops ((fr op V none a).put ox.dst vx).tmps) = true := by simp [Region.wanted, hp.guard]
        simp only [hwt, if_true]
        refine .inl ?_
        unfold Oper.wp
        rw [hr]
        show wpAny P md ops Q' (f + g) _ ((a.put ox.dst vx).put op.dst (V b)) w'
        rw [Act.put_comm a vx (V b) h2']
        refine zdm hp hpn hn hx hsel hL f _ a (some b) w' (by simp [hs]) hxl' hD ?_ h2
        rw [Array.getD_eq_getD_getElem?, Array.getElem?_setIfInBounds_self_of_lt (by omega)]; rfl
    · rw [if_neg hip] at h2
      have hd' : d.isSome = (listed.setIfInBounds i true).getD p false := by rw [getD_set_ne false hip]; exact hd
      obtain ⟨hun, oi, hoi, hall⟩ := mem_ready.1 hi
      obtain ⟨v, hy, hK⟩ := zcl hoi h2
      obtain ⟨h1, h2', h3⟩ := Oper.apart_spec (hp.apart i oi hoi hin hip)
      obtain ⟨x1, x2⟩ := zoa (hx.apart i oi hoi hin hix)
      have si := fun cs b => hsel i oi cs b hoi
      have he' : execOp (fr op V d a).eval oi = execOp a.eval oi := by cases d with | none => rfl | some b => exact execOp_put oi si a op.dst _ h1
      have hwt' : Region.wanted oi (yielded ops (fr op V d a).tmps) = Region.wanted oi (yielded ops a.tmps) := by cases d with | none => rfl | some b => exact wanted_put oi a op.dst _ h1
      refine zke (d := d) hoi hy hw ((execOp_put oi si (fr op V d a) ox.dst vx x1).trans he') ((wanted_put oi (fr op V d a) ox.dst vx x1).trans hwt') (fun w' hw' => ?_)
      rw [← Act.put_comm (fr op V d a) v vx (fun t h1 h2 => x2 t h2 h1)]
      have hfr : (fr op V d a).put oi.dst v = fr op V d (a.put oi.dst v) := by cases d with | none => rfl | some b => exact Act.put_comm a (V b) v h2'
      rw [hfr]
      exact zdm hp hpn hn hx hsel hL f _ _ d w' (by simp [hs]) hxl' hw' hd' hK

theorem zlo {listed : Array Bool} {x : Nat} (h : listed.getD x false = true) : (listed.setIfInBounds x false).setIfInBounds x true = listed := by
  have hx : x < listed.size := by
    rcases Nat.lt_or_ge x listed.size with h' | h'
    · exact h'
    · simp [Array.getElem?_eq_none h'] at h
  apply Array.ext_getElem?
  intro i
  by_cases e : x = i
  · subst e; simp [hx] at h ⊢; exact h
  · rw [Array.getElem?_setIfInBounds_ne e, Array.getElem?_setIfInBounds_ne e]

theorem zdn {x : Nat} {ox : Oper} {vx : Value} {p n g : Nat} {op : Oper} {V : Nat → Value} {L : Array Bool → Act → Prop} {Q' : Exit → Act → World → Prop} (hp : Lays P ops D p n op V) (hpn : p < n) (hn : n ≤ ops.size) (hx : Picks md ops x p n ox op)
    (hns : Region.noSelect ops = true) (hQ : ∀ c a w, Q' (.panic c) (a.put ox.dst vx) w → Q' (.panic c) a w)
    (hL : ∀ listed a d w, D d w → d.isSome = listed.getD p false → L listed a → wpAny P md ops Q' g listed ((fr op V d a).put ox.dst vx) w)
    (hLx : ∀ listed a, L listed a → Region.free md ops (listed.setIfInBounds x false) x = true ∧ (Region.ready md ops (listed.setIfInBounds x false)).contains x = true) :
    ∀ (f : Nat) (listed : Array Bool) (a : Act) (d : Option Nat) (w : World), listed.size = ops.size → listed.getD x false = true → D d w → d.isSome = listed.getD p false → anyX P md ops D x ox vx p n L f listed a → wpAny P md ops Q' (f + g + 1) (listed.setIfInBounds x false) (fr op V d a) w
  | 0, listed, a, d, w, hs, hxl, hw, hd, h => by
    obtain ⟨hc, hl⟩ := h
    obtain ⟨hfree, hready⟩ := hLx _ _ hl
    have he : execOp (fr op V d a).eval ox = execOp a.eval ox := by
      obtain ⟨h1, h2', h3⟩ := Oper.apart_spec (hp.apart x ox hx.at' hx.lt hx.ne)
      cases d with | none => rfl | some b => exact execOp_put ox (fun cs b => Region.noSelect_spec hns x ox cs b hx.at') a op.dst _ h1
    refine wpAny_take hx.at' hns hfree hready hQ (.inl ⟨by simp [Region.wanted, hx.guard], fun w => ?_⟩) ?_
    · rw [he]; exact hc (by simpa using hready) w
    · rw [zlo hxl, Nat.zero_add]; exact hL _ _ _ _ hw hd hl
  | f + 1, listed, a, d, w, hs, hxl, hw, hd, h => by
    have hxs : x < listed.size := by have := hx.lt; omega
    have hall1 := h
    obtain ⟨hc, h0, h⟩ := h
    rw [show f + 1 + g + 1 = (f + g + 1) + 1 by omega]
    have hsel := Region.noSelect_spec hns
    refine ⟨fun h1 => ?_, fun i hi => ?_⟩
    · -- what is ready behind x does not wait for x
      obtain ⟨j, hj⟩ := List.exists_mem_of_ne_nil _ h0
      have hjn := (h j hj).1
      obtain ⟨hju, oj, hoj, hall⟩ := mem_ready.1 hj
      have : j ∈ Region.ready md ops (listed.setIfInBounds x false) := mem_ready.2 ⟨by
        by_cases e : x = j
        · subst e; rw [getD_both hju] at hxl; cases hxl
        · rw [Array.getD_eq_getD_getElem?, Array.getElem?_setIfInBounds_ne e, ← Array.getD_eq_getD_getElem?]; exact hju, oj, hoj, fun e he hb => by
        have hne := hx.edge j oj hoj hjn e he hb
        rw [Array.getD_eq_getD_getElem?, Array.getElem?_setIfInBounds_ne (Ne.symm hne), ← Array.getD_eq_getD_getElem?]; exact hall e he hb⟩
      rw [h1] at this; cases this
    · by_cases hix : i = x
      · subst hix
        have he : execOp (fr op V d a).eval ox = execOp a.eval ox := by
          obtain ⟨h1, h2', h3⟩ := Oper.apart_spec (hp.apart i ox hx.at' hx.lt hx.ne)
          cases d with | none => rfl | some b => exact execOp_put ox (fun cs b => hsel i ox cs b hx.at') a op.dst _ h1
        unfold wpOp
        simp only [hx.at']
        rw [if_pos (by simp [Region.wanted, hx.guard])]
        refine .inl ?_
        unfold Oper.wp
        rw [he, hc hi w]
        show wpAny P md ops Q' (f + g + 1) _ ((fr op V d a).put ox.dst vx) w
        rw [zlo hxl, show f + g + 1 = (f + 1) + g by omega]
        exact zdm hp hpn hn hx hsel hL (f + 1) listed a d w hs hxl hw hd hall1
      · have hi' : i ∈ Region.ready md ops listed := by have := ready_mono hi hix; rwa [zlo hxl] at this
        obtain ⟨hin, h2⟩ := h i hi'
        have hxl' : (listed.setIfInBounds i true).getD x false = true := getD_set_true hxl
        have hcomm : (listed.setIfInBounds x false).setIfInBounds i true = (listed.setIfInBounds i true).setIfInBounds x false := Array.setIfInBounds_comm _ _ (Ne.symm hix)
        by_cases hip : i = p
        · subst hip
          rw [if_pos rfl] at h2
          have hun := (mem_ready.1 hi').1
          rw [getD_both hun] at hd
          cases d with
          | some b => simp at hd
          | none =>
            obtain ⟨b, w', hr, hD⟩ := hp.run (fr op V none a) w hw
            unfold wpOp
            simp only [hp.at']
            rw [if_pos (by simp [Region.wanted, hp.guard])]
            refine .inl ?_
            unfold Oper.wp
            rw [hr, hcomm]
            refine zdn hp hpn hn hx hns hQ hL hLx f _ a (some b) w' (by simp [hs]) hxl' hD ?_ h2
            rw [Array.getD_eq_getD_getElem?, Array.getElem?_setIfInBounds_self_of_lt (by omega)]; rfl
        · rw [if_neg hip] at h2
          have hd' : d.isSome = (listed.setIfInBounds i true).getD p false := by rw [getD_set_ne false hip]; exact hd
          obtain ⟨hun, oi, hoi, hall⟩ := mem_ready.1 hi'
          obtain ⟨v, hy, hK⟩ := zcl hoi h2
          obtain ⟨h1, h2', h3⟩ := Oper.apart_spec (hp.apart i oi hoi hin hip)
          have si := fun cs b => hsel i oi cs b hoi
          have he' : execOp (fr op V d a).eval oi = execOp a.eval oi := by cases d with | none => rfl | some b => exact execOp_put oi si a op.dst _ h1
          have hwt' : Region.wanted oi (yielded ops (fr op V d a).tmps) = Region.wanted oi (yielded ops a.tmps) := by cases d with | none => rfl | some b => exact wanted_put oi a op.dst _ h1
          refine zke (d := d) hoi hy hw he' hwt' (fun w' hw' => ?_)
          have hfr : (fr op V d a).put oi.dst v = fr op V d (a.put oi.dst v) := by cases d with | none => rfl | some b => exact Act.put_comm a (V b) v h2'
          rw [hfr, hcomm]
          exact zdn hp hpn hn hx hns hQ hL hLx f _ _ d w' (by simp [hs]) hxl' hw' hd' hK

theorem zla {x : Nat} {ox : Oper} {vx : Value} {i : Nat} {oi : Oper} {v : Value} {listed : Array Bool} {a : Act} (hox : ops[x]? = some ox) (hsx : ∀ cs b, ox.op ≠ .select cs b) (hix : i ≠ x) (hun : listed.getD i true = false)
    (hap : (∃ e ∈ ox.after, Region.binds md e = true ∧ e.on = i) ∨ oi.apart ops ox = true) (h : condX P md ops x ox vx (listed.setIfInBounds i true) (a.put oi.dst v)) : condX P md ops x ox vx listed a := by
  intro hr w
  rcases hap with ⟨e, he, hb, rfl⟩ | hap
  · obtain ⟨_, o', ho', hall⟩ := mem_ready.1 hr
    have : o' = ox := Option.some.inj (ho'.symm.trans hox)
    subst this
    have := hall e he hb
    rw [Array.getD_eq_getD_getElem?, Array.getElem?_setIfInBounds_ne (Ne.symm hix), ← Array.getD_eq_getD_getElem?, getD_both hun] at this
    cases this
  · obtain ⟨h1, _, _⟩ := Oper.apart_spec hap
    have h2 := h (by rw [Array.setIfInBounds_comm _ _ hix]; exact ready_mono hr (Ne.symm hix)) w
    rwa [execOp_put ox hsx a oi.dst v h1] at h2

structure HeadX (md : Region.Mode) (ops : Array Oper) (x n : Nat) (listed : Array Bool) : Prop where
  size : listed.size = ops.size
  closed : ∀ j oj, ops[j]? = some oj → j ≠ x → listed.getD j false = true → ∀ e ∈ oj.after, Region.binds md e = true → listed.getD e.on false = true
  tail : ∀ t, n ≤ t → t < ops.size → listed.getD t true = false
theorem HeadX.set {x n i : Nat} {listed : Array Bool} (inv : HeadX md ops x n listed) (hi : i ∈ Region.ready md ops listed) (hin : i < n) : HeadX md ops x n (listed.setIfInBounds i true) := by
  obtain ⟨_, oi, hoi, hall⟩ := mem_ready.1 hi
  refine ⟨by simp [inv.size], fun j oj hj hjx hl e he hb => ?_, fun t ht ht' => by rw [getD_set_ne true (by omega)]; exact inv.tail t ht ht'⟩
  by_cases hij : i = j
  · subst hij
    have : oj = oi := Option.some.inj (hj.symm.trans hoi)
    subst this
    exact getD_set_true (hall e he hb)
  · rw [getD_set_ne false hij] at hl
    exact getD_set_true (inv.closed j oj hj hjx hl e he hb)
theorem HeadX.waits {x n i : Nat} {listed : Array Bool} (inv : HeadX md ops x n listed) (hs : sinkX md ops x n = true) (hc : Region.chainB md ops n = true) (hn : n < ops.size) (hi : i < n) (hix : i ≠ x) (hun : listed.getD i true = false) :
    ∀ t, n ≤ t → t ∉ Region.ready md ops listed := by
  intro t ht hr
  -- (x counts as come already; of its own waits nothing is asked)
  induction hd : n - i using Nat.strongRecOn generalizing i t with
  | _ d ih =>
    obtain ⟨_, ot, hot, hall⟩ := mem_ready.1 hr
    have htlt : t < ops.size := (Array.getElem?_eq_some_iff.1 hot).1
    by_cases htn : t = n
    · subst htn
      have h1 := List.all_eq_true.1 hs i (List.mem_range.2 hi)
      simp only [Bool.or_eq_true, beq_iff_eq, hix, false_or] at h1
      obtain ⟨j, hj, hj2⟩ := List.any_eq_true.1 h1
      simp only [Bool.and_eq_true, decide_eq_true_eq, bne_iff_ne] at hj2
      obtain ⟨⟨hij, hjx⟩, hw⟩ := hj2
      obtain ⟨oj, hoj, e, he, hb, hon⟩ := Region.waitsFor_spec hw
      have hjle : j ≤ t := by have := List.mem_range.1 hj; omega
      by_cases hjt : j = t
      · subst hjt
        have : oj = ot := Option.some.inj (hoj.symm.trans hot)
        subst this
        have h2 := hall e he hb
        rw [hon, getD_both hun] at h2
        cases h2
      · cases hl : listed.getD j false with
        | true =>
          have h2 := inv.closed j oj hoj hjx hl e he hb
          rw [hon, getD_both hun] at h2
          cases h2
        | false => exact ih (t - j) (by omega) (by omega) hjx (getD_in (by rw [inv.size]; omega) hl) t (Nat.le_refl _) hr rfl
    · have h1 := List.all_eq_true.1 hc t (List.mem_range.2 htlt)
      simp only [Bool.or_eq_true, decide_eq_true_eq] at h1
      rcases h1 with h1 | h1
      · omega
      · obtain ⟨o', ho', e, he, hb, hon⟩ := Region.waitsFor_spec h1
        have : o' = ot := Option.some.inj (ho'.symm.trans hot)
        subst this
        have h2 := hall e he hb
        rw [hon, getD_both (inv.tail (t - 1) (by omega) (by omega))] at h2
        cases h2

theorem zli {x : Nat} {ox op : Oper} {vx : Value} {p n i : Nat} {oi : Oper} {v : Value} {L : Array Bool → Act → Prop} (hx : Picks md ops x p n ox op) (hi : ops[i]? = some oi) (hsel : ∀ (j : Nat) (o : Oper) cs b, ops[j]? = some o → o.op ≠ .select cs b)
    (hs : sinkX md ops x n = true) (hc : Region.chainB md ops n = true) (hn : n < ops.size) (hin : i < n) (hip : i ≠ p) (hix : i ≠ x)
    (hdone : ∀ listed a, L listed a → ∀ j ∈ Region.ready md ops listed, n ≤ j) :
    ∀ (f : Nat) (listed : Array Bool) (a : Act), HeadX md ops x n listed →
      (∀ j oj, ops[j]? = some oj → j ≠ i → listed.getD j true = false → (∀ e ∈ oj.after, Region.binds md e = true → e.on ≠ i) → oi.apart ops oj = true) →
      i ∈ Region.ready md ops listed → YieldsF P ops D oi v a →
      anyX P md ops D x ox vx p n L f (listed.setIfInBounds i true) (a.put oi.dst v) → anyX P md ops D x ox vx p n L (f + 1) listed a := by
  intro f
  induction f with
  | zero =>
    intro listed a inv _ hr hy H
    have hun := (mem_ready.1 hr).1
    refine ⟨zla hx.at' (fun cs b => hsel x ox cs b hx.at') hix hun (hx.other i oi hi hin hix) H.1, fun h => (by rw [h] at hr; cases hr), fun j hj => ?_⟩
    have hjn : j < n := (Nat.lt_or_ge j n).elim id fun h => absurd hj (inv.waits hs hc hn hin hix hun j h)
    refine ⟨hjn, ?_⟩
    by_cases hji : j = i
    · subst hji; rw [if_neg hip]; exact hy.qOpF hi H
    · have := hdone _ _ H.2 j (ready_mono hj hji)
      omega
  | succ f ih =>
    intro listed a inv hfree hr hy H
    have hun := (mem_ready.1 hr).1
    refine ⟨zla hx.at' (fun cs b => hsel x ox cs b hx.at') hix hun (hx.other i oi hi hin hix) H.1, fun h => (by rw [h] at hr; cases hr), fun j hj => ?_⟩
    have hjn : j < n := (Nat.lt_or_ge j n).elim id fun h => absurd hj (inv.waits hs hc hn hin hix hun j h)
    refine ⟨hjn, ?_⟩
    by_cases hji : j = i
    · subst hji; rw [if_neg hip]; exact hy.qOpF hi H
    · have h1 := (H.2.2 j (ready_mono hj hji)).2
      obtain ⟨hjun, oj, hoj, hall⟩ := mem_ready.1 hj
      have hnot : ∀ e ∈ oj.after, Region.binds md e = true → e.on ≠ i := fun e he hb heq => by
        have h1 := hall e he hb
        rw [heq, getD_both hun] at h1
        cases h1
      have hfree' : ∀ k ok, ops[k]? = some ok → k ≠ i → (listed.setIfInBounds j true).getD k true = false →
          (∀ e ∈ ok.after, Region.binds md e = true → e.on ≠ i) → oi.apart ops ok = true := fun k ok hk hki hun hno => by
        refine hfree k ok hk hki ?_ hno
        by_cases hjk : j = k
        · subst hjk; exact hjun
        · rw [getD_set_ne true hjk] at hun; exact hun
      by_cases hjp : j = p
      · rw [if_pos hjp] at h1 ⊢
        refine ih (listed.setIfInBounds j true) a (inv.set hj hjn) hfree' (ready_mono hr (Ne.symm hji)) hy ?_
        rw [Array.setIfInBounds_comm _ _ hji]
        exact h1
      · rw [if_neg hjp] at h1 ⊢
        have h2 := zqw hoj (hfree j oj hoj hji hjun hnot) (fun cs b => hsel i oi cs b hi) (fun cs b => hsel j oj cs b hoj) hy h1
        refine zgf (fun a' h3 => ih (listed.setIfInBounds j true) a' (inv.set hj hjn) hfree' (ready_mono hr (Ne.symm hji)) h3.1 ?_) h2
        rw [Array.setIfInBounds_comm _ _ hji]
        exact h3.2

theorem zoh {x : Nat} {ox : Oper} {vx : Value} {p : Nat} {listed : Array Bool} {a : Act} (hxp : x ≠ p) (h : condX P md ops x ox vx (listed.setIfInBounds p true) a) : condX P md ops x ox vx listed a := by
  intro hr w
  refine h ?_ w
  rw [Array.setIfInBounds_comm _ _ (Ne.symm hxp)]
  exact ready_mono hr hxp

theorem zrl {x : Nat} {ox op : Oper} {vx : Value} {p n : Nat} {L : Array Bool → Act → Prop} (hx : Picks md ops x p n ox op)
    (hs : sinkX md ops x n = true) (hc : Region.chainB md ops n = true) (hn : n < ops.size) (hin : p < n)
    (hdone : ∀ listed a, L listed a → ∀ j ∈ Region.ready md ops listed, n ≤ j) :
    ∀ (f : Nat) (listed : Array Bool) (a : Act), HeadX md ops x n listed →
      p ∈ Region.ready md ops listed →
      anyX P md ops D x ox vx p n L f (listed.setIfInBounds p true) a → anyX P md ops D x ox vx p n L (f + 1) listed a := by
  intro f
  induction f with
  | zero =>
    intro listed a inv hr H
    have hun := (mem_ready.1 hr).1
    refine ⟨zoh hx.ne H.1, fun h => (by rw [h] at hr; cases hr), fun j hj => ?_⟩
    have hjn : j < n := (Nat.lt_or_ge j n).elim id fun h => absurd hj (inv.waits hs hc hn hin (Ne.symm hx.ne) hun j h)
    refine ⟨hjn, ?_⟩
    by_cases hji : j = p
    · subst hji; rw [if_pos rfl]; exact H
    · have := hdone _ _ H.2 j (ready_mono hj hji)
      omega
  | succ f ih =>
    intro listed a inv hr H
    have hun := (mem_ready.1 hr).1
    refine ⟨zoh hx.ne H.1, fun h => (by rw [h] at hr; cases hr), fun j hj => ?_⟩
    have hjn : j < n := (Nat.lt_or_ge j n).elim id fun h => absurd hj (inv.waits hs hc hn hin (Ne.symm hx.ne) hun j h)
    refine ⟨hjn, ?_⟩
    by_cases hji : j = p
    · subst hji; rw [if_pos rfl]; exact H
    · have h1 := (H.2.2 j (ready_mono hj hji)).2
      rw [if_neg hji] at h1 ⊢
      refine zgf (fun a' h3 => ih (listed.setIfInBounds j true) a' (inv.set hj hjn) (ready_mono hr (Ne.symm hji)) ?_) h1
      rw [Array.setIfInBounds_comm _ _ hji]
      exact h3

def wpQuietX (P : Program) (ops : Array Oper) (D : Option Nat → World → Prop) (Q : Act → Prop) (p x : Nat) (vx : Value) : Nat → List Oper → Act → Prop
  | _, [], a => Q a
  | k, o :: rest, a =>
    if k = p then wpQuietX P ops D Q p x vx (k + 1) rest a
    else if k = x then (∀ w, (execOp a.eval o).run P w = .ok (.value vx) w) ∧ wpQuietX P ops D Q p x vx (k + 1) rest a
    else if Region.wanted o (yielded ops a.tmps) then ∃ v, (∀ d w, D d w → o.quietAt P a (D d) w v) ∧ wpQuietX P ops D Q p x vx (k + 1) rest (a.put o.dst v) else wpQuietX P ops D Q p x vx (k + 1) rest (a.put o.dst undef)


def lexX (md : Region.Mode) (ops : Array Oper) (g x : Nat) : Nat → Nat → Array Bool → Bool
  | 0, k, listed => Region.seqB md ops g k listed && Region.free md ops (listed.setIfInBounds x false) x && (Region.ready md ops (listed.setIfInBounds x false)).contains x
  | f + 1, k, listed => if k = x then lexX md ops g x f (k + 1) listed else (Region.ready md ops listed).contains k && Region.free md ops listed k && lexX md ops g x f (k + 1) (listed.setIfInBounds k true)

def endX (md : Region.Mode) (ops : Array Oper) (g x p n : Nat) (Lq : Act → Prop) (listed : Array Bool) (a : Act) : Prop :=
  (Region.seqB md ops g n listed = true ∧ Region.free md ops (listed.setIfInBounds x false) x = true ∧ (Region.ready md ops (listed.setIfInBounds x false)).contains x = true) ∧ listed.getD p false = true ∧ Lq a

theorem zjt {x : Nat} {ox op : Oper} {vx : Value} {p n g : Nat} {V : Nat → Value} {Lq : Act → Prop} (hp : Lays P ops D p n op V) (hx : Picks md ops x p n ox op) (hxa : ∀ j oj, ops[j]? = some oj → x < j → j < n → oj.apart ops ox = true)
    (hsel : Region.noSelect ops = true) (hs : sinkX md ops x n = true) (hc : Region.chainB md ops n = true) (hn : n < ops.size) (hpn : p < n) :
    ∀ (l : List Oper) (k : Nat) (listed : Array Bool) (a : Act), x < k → (∀ w, (execOp a.eval ox).run P w = .ok (.value vx) w) → (∀ j, j < l.length → l[j]? = ops[k + j]?) → k + l.length = n → (p < k → listed.getD p false = true) → HeadX md ops x n listed →
    lexX md ops g x l.length k listed = true → wpQuietX P ops D Lq p x vx k l a →
    anyX P md ops D x ox vx p n (endX md ops g x p n Lq) l.length listed a
  | [], k, listed, a, hk0, hF, _, hk, hpl, _, hB, h => by
    have : k = n := by simpa using hk
    subst this
    simp only [List.length_nil, lexX, Bool.and_eq_true] at hB
    exact ⟨fun _ => hF, ⟨hB.1.1, hB.1.2, hB.2⟩, hpl hpn, by unfold wpQuietX at h; exact h⟩
  | o :: l, k, listed, a, hk0, hF, hl, hk, hpl, inv, hB, h => by
    have h0 : ops[k]? = some o := by simpa using (hl 0 (by simp)).symm
    have hkn : k < n := by simp only [List.length_cons] at hk; omega
    have hlen : k + 1 + l.length = n := by simp only [List.length_cons] at hk; omega
    have hl' : ∀ j, j < l.length → l[j]? = ops[k + 1 + j]? := fun j hj => by have := hl (j + 1) (by simp; omega); simpa [Nat.add_assoc, Nat.add_comm 1 j] using this
    simp only [List.length_cons, lexX] at hB
    rw [if_neg (by omega)] at hB
    simp only [Bool.and_eq_true] at hB
    obtain ⟨⟨hr, hf⟩, hB'⟩ := hB
    have hr' : k ∈ Region.ready md ops listed := by simpa using hr
    have hdone : ∀ listed a, endX md ops g x p n Lq listed a → ∀ j ∈ Region.ready md ops listed, n ≤ j := fun listed' a' hL => seqB_ready hL.1.1
    unfold wpQuietX at h
    by_cases hkp : k = p
    · subst hkp
      rw [if_pos rfl] at h
      exact zrl hx hs hc hn hpn hdone l.length listed a inv hr'
        (zjt hp hx hxa hsel hs hc hn hpn l (k + 1) _ _ (by omega) hF hl' hlen (fun _ => by rw [Array.getD_eq_getD_getElem?, Array.getElem?_setIfInBounds_self_of_lt (by rw [inv.size]; omega)]; rfl) (inv.set hr' hkn) hB' h)
    · rw [if_neg hkp, if_neg (by omega)] at h
      have hst : qOpF P ops D k (wpQuietX P ops D Lq p x vx (k + 1) l) a := by unfold qOpF; simp only [h0]; exact h
      obtain ⟨v, hy, hK⟩ := zcl h0 hst
      obtain ⟨a1, _, _⟩ := Oper.apart_spec (hxa k o h0 hk0 hkn)
      exact zli hx h0 (Region.noSelect_spec hsel) hs hc hn hkn hkp (by omega) hdone l.length listed a inv (Region.free_spec h0 hf) hr' hy
        (zjt hp hx hxa hsel hs hc hn hpn l (k + 1) _ _ (by omega) (fun w => by rw [execOp_put ox (fun cs b => Region.noSelect_spec hsel x ox cs b hx.at') a o.dst v a1]; exact hF w) hl' hlen (fun h1 => getD_set_true (hpl (by omega))) (inv.set hr' hkn) hB' hK)

theorem zju {x : Nat} {ox op : Oper} {vx : Value} {p n g : Nat} {V : Nat → Value} {Lq : Act → Prop} (hp : Lays P ops D p n op V) (hx : Picks md ops x p n ox op) (hxa : ∀ j oj, ops[j]? = some oj → x < j → j < n → oj.apart ops ox = true)
    (hsel : Region.noSelect ops = true) (hs : sinkX md ops x n = true) (hc : Region.chainB md ops n = true) (hn : n < ops.size) (hpn : p < n) :
    ∀ (l : List Oper) (k : Nat) (listed : Array Bool) (a : Act), k ≤ x → (∀ j, j < l.length → l[j]? = ops[k + j]?) → k + l.length = n → (p < k → listed.getD p false = true) → HeadX md ops x n listed →
    lexX md ops g x l.length k listed = true → wpQuietX P ops D Lq p x vx k l a →
    anyX P md ops D x ox vx p n (endX md ops g x p n Lq) (l.length - 1) listed a
  | [], k, listed, a, hk0, _, hk, _, _, _, _ => by
    have := hx.lt
    simp at hk; omega
  | o :: l, k, listed, a, hk0, hl, hk, hpl, inv, hB, h => by
    have h0 : ops[k]? = some o := by simpa using (hl 0 (by simp)).symm
    have hkn : k < n := by simp only [List.length_cons] at hk; omega
    have hlen : k + 1 + l.length = n := by simp only [List.length_cons] at hk; omega
    have hl' : ∀ j, j < l.length → l[j]? = ops[k + 1 + j]? := fun j hj => by have := hl (j + 1) (by simp; omega); simpa [Nat.add_assoc, Nat.add_comm 1 j] using this
    have hdone : ∀ listed a, endX md ops g x p n Lq listed a → ∀ j ∈ Region.ready md ops listed, n ≤ j := fun listed' a' hL => seqB_ready hL.1.1
    simp only [List.length_cons, lexX] at hB
    unfold wpQuietX at h
    by_cases hkx : k = x
    · subst hkx
      rw [if_pos rfl] at hB
      rw [if_neg hx.ne, if_pos rfl] at h
      have : o = ox := Option.some.inj (h0.symm.trans hx.at')
      subst this
      exact zjt hp hx hxa hsel hs hc hn hpn l (k + 1) _ _ (by omega) h.1 hl' hlen (fun h1 => hpl (by have := hx.ne; omega)) inv hB h.2
    · rw [if_neg hkx] at hB
      simp only [Bool.and_eq_true] at hB
      obtain ⟨⟨hr, hf⟩, hB'⟩ := hB
      have hr' : k ∈ Region.ready md ops listed := by simpa using hr
      obtain ⟨m, hm⟩ : ∃ m, l.length = m + 1 := ⟨l.length - 1, by have := hx.lt; omega⟩
      have hm' : (o :: l).length - 1 = m + 1 := by simp [hm]
      have hm2 : l.length - 1 = m := by omega
      rw [hm']
      by_cases hkp : k = p
      · subst hkp
        rw [if_pos rfl] at h
        refine zrl hx hs hc hn hpn hdone m listed a inv hr' ?_
        rw [← hm2]
        exact (zju hp hx hxa hsel hs hc hn hpn l (k + 1) _ _ (by omega) hl' hlen (fun _ => by rw [Array.getD_eq_getD_getElem?, Array.getElem?_setIfInBounds_self_of_lt (by rw [inv.size]; omega)]; rfl) (inv.set hr' hkn) hB' h)
      · rw [if_neg hkp, if_neg hkx] at h
        have hst : qOpF P ops D k (wpQuietX P ops D Lq p x vx (k + 1) l) a := by unfold qOpF; simp only [h0]; exact h
        obtain ⟨v, hy, hK⟩ := zcl h0 hst
        refine zli hx h0 (Region.noSelect_spec hsel) hs hc hn hkn hkp hkx hdone m listed a inv (Region.free_spec h0 hf) hr' hy ?_
        rw [← hm2]
        exact (zju hp hx hxa hsel hs hc hn hpn l (k + 1) _ _ (by omega) hl' hlen (fun h1 => getD_set_true (hpl (by omega))) (inv.set hr' hkn) hB' hK)

def lookX (ops : Array Oper) (x p n : Nat) (ox op : Oper) : Bool :=
  Region.noSelect ops && decide (n < ops.size) && decide (p < n) && decide (x < n) && x != p && sinkX .any ops x n && Region.chainB .any ops n &&
  lexX .any ops (ops.size - n) x n 0 ((Array.replicate ops.size false).setIfInBounds x true) && apartB ops p n op && halfB ops x n ox &&
  ((List.range n).all fun j => j == x || match ops[j]? with | some oj => (ox.after.any fun e => Region.binds .any e && e.on == j) || oj.apart ops ox | none => true) &&
  ((List.range n).all fun j => match ops[j]? with | some oj => (oj.after.all fun e => !Region.binds .any e || e.on != x) && (decide (j ≤ x) || oj.apart ops ox) | none => true)

theorem zjw {id : Nat} {Q : Exit → Act → World → Prop} {a : Act} {w : World} {l : List Oper} {op ox : Oper} {V : Nat → Value} (x p n : Nat) (vx : Value) (hm : P.follows .mixedOrders = true) (hB : lookX l.toArray x p n ox op = true)
    (hp : Lays P l.toArray D p n op V) (hox : l.toArray[x]? = some ox) (hog : ox.guard = none) (hw : D none w.drew) (hQ : ∀ c a w, Q (.panic c) (a.put ox.dst vx) w → Q (.panic c) a w)
    (h : wpQuietX P l.toArray D (fun a' => ∀ b w', D (some b) w' → wpList P l.toArray Q (l.drop n) ((a'.put op.dst (V b)).put ox.dst vx) w') p x vx 0 (l.take n) a) : (Code.region id l.toArray true).wp P Q a w := by
  simp only [lookX, Bool.and_eq_true, decide_eq_true_eq, bne_iff_ne] at hB
  obtain ⟨⟨⟨⟨⟨⟨⟨⟨⟨⟨⟨hsel, hn⟩, hpn⟩, hxn⟩, hxp⟩, hs⟩, hc⟩, hlex⟩, hap⟩, hax⟩, hoth⟩, hedge⟩ := hB
  have hx : Picks .any l.toArray x p n ox op := ⟨hox, hxn, hxp, hog,
    fun j oj hj hjn hjx => by
      have := List.all_eq_true.1 hax j (List.mem_range.2 hjn)
      simpa [hjx, hj] using this,
    fun j oj hj hjn hjx => by
      have := List.all_eq_true.1 hoth j (List.mem_range.2 hjn)
      simp only [hj, Bool.or_eq_true, beq_iff_eq, hjx, false_or] at this
      rcases this with h1 | h1
      · obtain ⟨e, he, hb⟩ := Array.any_eq_true'.1 h1
        simp only [Bool.and_eq_true, beq_iff_eq] at hb
        exact .inl ⟨e, he, hb.1, hb.2⟩
      · exact .inr h1,
    fun j oj hj hjn e he hb => by
      have := List.all_eq_true.1 hedge j (List.mem_range.2 hjn)
      simp only [hj, Bool.and_eq_true] at this
      have h2 := Array.all_eq_true'.1 this.1 e he
      simp [hb] at h2; exact h2⟩
  have hxa : ∀ j oj, l.toArray[j]? = some oj → x < j → j < n → oj.apart l.toArray ox = true := fun j oj hj hxj hjn => by
    have := List.all_eq_true.1 hedge j (List.mem_range.2 hjn)
    simp only [hj, Bool.and_eq_true, Bool.or_eq_true, decide_eq_true_eq] at this
    rcases this.2 with h1 | h1
    · omega
    · exact h1
  have hn' : n < l.length := by simpa using hn
  have htl : (l.take n).length = n := by simp; omega
  have hdl : (l.drop n).length = l.toArray.size - n := by simp
  have hg0 : ∀ j, j ≠ x → ((Array.replicate l.toArray.size false).setIfInBounds x true).getD j false = false := fun j hj => by
    rw [getD_set_ne false (Ne.symm hj), getD_replicate_false]
  have inv0 : HeadX .any l.toArray x n ((Array.replicate l.toArray.size false).setIfInBounds x true) :=
    ⟨by simp, fun j oj _ hjx hl => (by rw [hg0 j hjx] at hl; cases hl), fun t ht ht' => getD_in (by simpa using ht') (hg0 t (by omega))⟩
  have H := zju (md := .any) (D := D) (g := l.toArray.size - n) hp hx hxa hsel hs hc hn hpn (l.take n) 0 _ a (by omega) (fun j hj => by
    have hj' : j < n := by rw [htl] at hj; exact hj
    simp [hj']) (by simpa using htl) (by omega) inv0 (by rw [htl]; exact hlex) h
  have hx0 : ((Array.replicate l.toArray.size false).setIfInBounds x true).setIfInBounds x false = Array.replicate l.toArray.size false := by
    apply Array.ext_getElem?
    intro i
    by_cases e : x = i
    · subst e
      rw [Array.getElem?_setIfInBounds_self_of_lt (by simp; omega), Array.getElem?_eq_getElem (by simp; omega)]
      simp
    · rw [Array.getElem?_setIfInBounds_ne e, Array.getElem?_setIfInBounds_ne e]
  refine wp_region_any hm ?_
  have := zdn (Q' := Q) (g := l.toArray.size - n) hp hpn (Nat.le_of_lt hn) hx hsel hQ (fun listed a' d w' hw' hd hL => by
    rw [hL.2.1] at hd
    cases d with
    | none => simp at hd
    | some b =>
      have := wpAny_of_seq (md := .any) (Q' := Q) (l.drop n) n listed ((a'.put op.dst (V b)).put ox.dst vx) w' (fun j => by simp [List.getElem?_drop]) (by rw [hdl]; exact hL.1.1) (hL.2.2 b w' hw')
      rwa [hdl] at this) (fun listed a' hL => ⟨hL.1.2.1, hL.1.2.2⟩) _ _ a none w.drew (by simp) (by
        rw [Array.getD_eq_getD_getElem?, Array.getElem?_setIfInBounds_self_of_lt (by simp; omega)]; rfl) hw (by rw [hg0 p (Ne.symm hxp)]; rfl) H
  rw [hx0, htl, show n - 1 + (l.toArray.size - n) + 1 = l.toArray.size by have := hx.lt; omega] at this
  exact this

theorem zsd {p0 : World → Prop} {p1 : Nat → World → Prop} {Q : Act → Prop} {p x k : Nat} {vx : Value} {o : Oper} {rest : List Oper} {a : Act} {v : Value} (hkp : k ≠ p) (hkx : k ≠ x)
    (h : ∀ s : Fl p0 p1, (execOp a.eval o).run P s.W = .ok (.value v) s.W) (hg : Region.wanted o (yielded ops a.tmps) = true) (hq : wpQuietX P ops (FlD p0 p1) Q p x vx (k + 1) rest (a.put o.dst v)) : wpQuietX P ops (FlD p0 p1) Q p x vx k (o :: rest) a := by
  unfold wpQuietX
  rw [if_neg hkp, if_neg hkx, if_pos hg]
  refine ⟨v, ?_, hq⟩
  rintro d w ⟨s, rfl, rfl⟩
  unfold Oper.quietAt
  rw [h s]
  exact ⟨rfl, rfl⟩
theorem zsf {Q : Act → Prop} {p x : Nat} {vx : Value} {o : Oper} {rest : List Oper} {a : Act} (hq : wpQuietX P ops D Q p x vx (p + 1) rest a) : wpQuietX P ops D Q p x vx p (o :: rest) a := by
  unfold wpQuietX; rw [if_pos rfl]; exact hq
theorem zpg {Q : Act → Prop} {p x : Nat} {vx : Value} {o : Oper} {rest : List Oper} {a : Act} (hxp : x ≠ p) (h : ∀ w, (execOp a.eval o).run P w = .ok (.value vx) w) (hq : wpQuietX P ops D Q p x vx (x + 1) rest a) : wpQuietX P ops D Q p x vx x (o :: rest) a := by
  unfold wpQuietX; rw [if_neg hxp, if_pos rfl]; exact ⟨h, hq⟩
theorem zse {Q : Act → Prop} {p x k : Nat} {vx : Value} {a : Act} (h : Q a) : wpQuietX P ops D Q p x vx k [] a := h
end
end Go.Proofs.YtlkhjnpflohfeaaDoor

/- Whole variables stored into, and loaded out of, blocks that are known whole. -/
namespace Go.Proofs.YtlkhjnpflohfeaaDoor
open Go Go.Proofs Go.RowKit
section
variable {P : Program}

theorem zpi {w : World} {B : Nat} {o : Obj} (h : w.heap[B]? = some o) : w.putObj B o = w := by
  obtain ⟨hlt, he⟩ := Array.getElem?_eq_some_iff.1 h
  unfold World.putObj
  have : w.heap.setIfInBounds B o = w.heap := by
    apply Array.ext_getElem?
    intro i
    by_cases e : B = i
    · subst e; rw [Array.getElem?_setIfInBounds_self_of_lt hlt]; exact h.symm
    · rw [Array.getElem?_setIfInBounds_ne e]
  rw [this]
theorem zpd {w : World} {B i : Nat} {T : TypeId} {cs : List Value} (h : Blk w B T cs) (v : Value) : w.setCell ⟨B, i, none⟩ v = w.putObj B (.cells (cs.set i v).toArray T (0, 0)) := by
  have hlt := h.lt
  unfold World.setCell World.putObj
  congr 1
  apply Array.ext_getElem?
  intro j
  rw [Array.getElem?_modify]
  by_cases e : B = j
  · subst e
    rw [if_pos rfl, Array.getElem?_setIfInBounds_self_of_lt hlt, show w.heap[B]? = _ from h]
    simp
  · rw [if_neg e, Array.getElem?_setIfInBounds_ne e]
theorem Blk.putObj {w : World} {B : Nat} {T : TypeId} {cs : List Value} (hlt : B < w.heap.size) : Blk (w.putObj B (.cells cs.toArray T (0, 0))) B T cs := World.putObj_heap_same hlt
theorem zlu (w : World) (B : Nat) (o o' : Obj) : (w.putObj B o).putObj B o' = w.putObj B o' := by
  unfold World.putObj
  congr 1
  apply Array.ext_getElem?
  intro i
  simp only [Array.getElem?_setIfInBounds, Array.size_setIfInBounds]
  split <;> rfl

theorem zdo {B : Nat} {T : TypeId} : ∀ (vs : List Value) (i : Nat) (cs : List Value) (w : World) (off : Nat), Blk w B T cs → off + i + vs.length ≤ cs.length → (∀ v ∈ vs, v.oneCell' = true) →
    (storeCells ⟨B, off, none⟩ vs i).run P w = .ok () (w.putObj B (.cells (cs.take (off + i) ++ vs ++ cs.drop (off + i + vs.length)).toArray T (0, 0)))
  | [], i, cs, w, off, h, hl, h1 => by
    unfold storeCells
    simp only [List.length_nil, Nat.add_zero, List.append_nil, List.take_append_drop]
    rw [zpi h]; rfl
  | v :: vs, i, cs, w, off, h, hl, h1 => by
    simp only [List.length_cons] at hl
    have hi : off + i < cs.length := by omega
    have hc := h.cell (off + i) (List.getElem?_eq_getElem hi)
    have hs : (store (Addr.add ⟨B, off, none⟩ i) v).run P w = .ok () (w.setCell ⟨B, off + i, none⟩ v) := by
      rw [show Addr.add ⟨B, off, none⟩ i = ⟨B, off + i, none⟩ by simp [Addr.add], run_store P w _ _ _ (h1 v (by simp))]
      simp [hc, h.free (off + i)]
    unfold storeCells
    simp only [Sem.run_bind, hs, Result.andThen]
    rw [zdo vs (i + 1) (cs.set (off + i) v) _ off (h.set _ _) (by simp; omega) (fun u hu => h1 u (by simp [hu])), zpd h, zlu]
    congr 4
    have e1 : (cs.set (off + i) v).take (off + (i + 1)) = cs.take (off + i) ++ [v] := by
      rw [show off + (i + 1) = (off + i) + 1 by omega, List.take_succ_eq_append_getElem (by simp; omega), List.take_set_of_le (by omega)]
      simp
    have e2 : (cs.set (off + i) v).drop (off + (i + 1) + vs.length) = cs.drop (off + i + (v :: vs).length) := by
      rw [List.drop_set_of_lt (by omega)]
      congr 1
      simp only [List.length_cons]; omega
    rw [e1, e2]; simp

theorem zig {B : Nat} {T ty : TypeId} {cs vs : List Value} {w : World} (off : Nat) (h : Blk w B T cs) (hl : off + vs.length ≤ cs.length) (h1 : ∀ v ∈ vs, v.oneCell' = true) (hi : (P.info? ty).map (·.size) = some vs.length) :
    (storeVar ty ⟨B, off, none⟩ (.agg vs.toArray)).run P w = .ok () (w.putObj B (.cells (cs.take off ++ vs ++ cs.drop (off + vs.length)).toArray T (0, 0))) := by
  have hsz : ∀ w, (sizeOf ty).run P w = .ok vs.length w := fun w => by
    cases hx : P.info? ty with
    | none => rw [hx] at hi; cases hi
    | some i =>
      rw [hx] at hi
      simp only [Option.map_some, Option.some.injEq] at hi
      simp [sizeOf, typeInfo, hx, Sem.run_bind, Result.andThen, hi]
  unfold storeVar
  simp only [Sem.run_bind, hsz, Result.andThen]
  have := zdo (P := P) vs 0 cs w off h (by simpa using hl) h1
  simpa [Value.cells] using this

theorem zcv {ops : Array Oper} {rest : List Oper} {o : Oper} {a : Act} {w : World} {Q : Exit → Act → World → Prop} (hgd : o.guard = none) (ty : TypeId) (p x : Operand) (ho : o.op = .store ty p x)
    (B : Nat) (T : TypeId) (cs vs : List Value) (hp : a.eval p = .pointer (some ⟨B, 0, none⟩)) (hx : a.eval x = .agg vs.toArray) (h : Blk w B T cs) (hl : vs.length = cs.length) (h1 : ∀ v ∈ vs, v.oneCell' = true) (hi : (P.info? ty).map (·.size) = some vs.length)
    (hk : wpList P ops Q rest (a.put o.dst undef) (w.putObj B (.cells vs.toArray T (0, 0)))) : wpList P ops Q (o :: rest) a w :=
  wpList_plain hgd fun K hK => by
    unfold Oper.wp execOp
    have := zig (P := P) (ty := ty) 0 h (by omega) h1 hi
    simp only [List.take_zero, List.nil_append, Nat.zero_add] at this
    rw [hl, List.drop_length, List.append_nil] at this
    simp only [ho, hp, hx, Instr.storeAt, Instr.sureAddr, Sem.run_bind, Sem.run_pure, Result.andThen_ok, this]
    exact hK _ _ hk
theorem zej {ops : Array Oper} {rest : List Oper} {o : Oper} {a : Act} {w : World} {Q : Exit → Act → World → Prop} (hgd : o.guard = none) (ty : TypeId) (x : Operand) (ho : o.op = .load ty x)
    (B : Nat) (T : TypeId) (cs : List Value) (d : TypeDesc) (hx : a.eval x = .pointer (some ⟨B, 0, none⟩)) (h : Blk w B T cs)
    (hu : P.underlying ty = some d) (hd : (match d with | .struct _ | .array _ _ => true | _ => false) = true) (hi : (P.info? ty).map (·.size) = some cs.length)
    (hk : wpList P ops Q rest (a.put o.dst (.agg cs.toArray)) w) : wpList P ops Q (o :: rest) a w :=
  wpList_load_row hgd ty x ho B hx T cs.toArray (0, 0) d h hu hd (by simpa using hi) hk
theorem zmh {o : Oper} {a : Act} {w : World} (ty : TypeId) (x : Operand) (ho : o.op = .load ty x)
    (B : Nat) (T : TypeId) (cs : List Value) (d : TypeDesc) (hx : a.eval x = .pointer (some ⟨B, 0, none⟩)) (h : Blk w B T cs)
    (hu : P.underlying ty = some d) (hd : (match d with | .struct _ | .array _ _ => true | _ => false) = true) (hi : (P.info? ty).map (·.size) = some cs.length) :
    (execOp a.eval o).run P w = .ok (.value (.agg cs.toArray)) w := by
  unfold execOp
  simp only [ho, hx, Instr.loadAt, Instr.sureAddr, Sem.run_bind, Sem.run_pure, Result.andThen_ok, run_loadVar_row w B T ty cs.toArray (0, 0) d h hu hd (by simpa using hi)]
theorem zfh {ops : Array Oper} {rest : List Oper} {o : Oper} {a : Act} {w w' : World} {Q : Exit → Act → World → Prop} (hgd : o.guard = none) (ty : TypeId) (m k x : Operand) (ho : o.op = .mapUpdate ty m k x)
    (hr : (Instr.mapUpdate ty (a.eval m) (a.eval k) (a.eval x)).run P w = .ok () w') (hk : wpList P ops Q rest (a.put o.dst undef) w') : wpList P ops Q (o :: rest) a w :=
  wpList_plain hgd fun K hK => by
    unfold Oper.wp execOp
    simp only [ho, Sem.run_bind, Sem.run_pure, Result.andThen_ok, hr]
    exact hK _ _ hk
theorem zsh {S : Type} [Nonempty S] {f : S → World} {ops : Array Oper} {Q : Act → Prop} {o : Oper} {rest : List Oper} {a : Act} {v : Value}
    (h : ∀ s : S, (execOp a.eval o).run P (f s) = .ok (.value v) (f s)) (hg : Region.wanted o (yielded ops a.tmps) = true) (hq : wpQuiet P ops (fun w' => ∃ s, w' = f s) Q rest (a.put o.dst v)) : wpQuiet P ops (fun w' => ∃ s, w' = f s) Q (o :: rest) a := by
  refine wpQuiet_step fun K hK => ?_
  rw [if_pos hg]
  refine ⟨v, ?_, hK _ hq⟩
  rintro w ⟨s, rfl⟩
  unfold Oper.quietAt
  rw [h s]
  exact ⟨rfl, rfl⟩
theorem zgd {fn : Func} {p : Tmp} {ty : TypeId} (h : fn.results = #[.cell p ty]) (tmps : Array Value) (w : World) (B : Nat) (T : TypeId) (cs : List Value) (v : Value)
    (hp : tmps.getD p undef = .pointer (some ⟨B, 0, none⟩)) (hg : Blk w B T cs) (hv : cs[0]? = some v) (hu : (P.underlying ty).map (fun d => match d with | .struct _ | .array _ _ => true | _ => false) = some false) :
    (results fn tmps).run P w = .ok v w := by
  have hp' : tmps[p]?.getD undef = .pointer (some ⟨B, 0, none⟩) := by simpa using hp
  have hl : (loadVar ty ⟨B, 0, none⟩).run P w = .ok v w := by
    unfold loadVar isAgg
    cases hd : P.underlying ty with
    | none => rw [hd] at hu; cases hu
    | some d =>
      rw [hd] at hu
      simp only [Option.map_some, Option.some.injEq] at hu
      have hc := hg.cell 0 hv
      cases d <;> simp at hu <;> simp [Sem.run_bind, run_underlying hd, Result.andThen, load, Sem.run, hc]
  simp [results, h, hp', asAddr, hl]
theorem zcw {fn : Func} {p : Tmp} {ty : TypeId} (h : fn.results = #[.cell p ty]) (tmps : Array Value) (w : World) (B : Nat) (T : TypeId) (cs : List Value) (d : TypeDesc)
    (hp : tmps.getD p undef = .pointer (some ⟨B, 0, none⟩)) (hg : Blk w B T cs)
    (hu : P.underlying ty = some d) (hd : (match d with | .struct _ | .array _ _ => true | _ => false) = true) (hi : (P.info? ty).map (·.size) = some cs.length) :
    (results fn tmps).run P w = .ok (.agg cs.toArray) w :=
  results_cell_row h tmps w B T cs.toArray (0, 0) d hp hg hu hd (by simpa using hi)
end
end Go.Proofs.YtlkhjnpflohfeaaDoor
