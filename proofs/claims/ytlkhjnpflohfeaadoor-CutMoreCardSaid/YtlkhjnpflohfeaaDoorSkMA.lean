/- A region that draws its order and lays one new variable (operation p): the variable's address is not known ahead, for others may lay blocks before it. All operations before the last ones, but p, are quiet in both classes of worlds: those before p, those behind it. -/
import Derived.Test.YtlkhjnpflohfeaaDoorCoreE
import Derived.Test.YtlkhjnpflohfeaaDoorCoreD
import Derived.Test.YtlkhjnpflohfeaaDoorProg
import Derived.WalkKit
import Derived.WalkSpells
import Derived.WalkLawsBesides
import Derived.Handy
import Derived.Lib.Hide
import Derived.Deep.QuietTactic
import Derived.BigQuiet
import Derived.Recover
import Derived.RangeFuncNested
import Derived.RangeFuncBound
import Derived.RangeFuncCalls
import Derived.RangeFuncLeaves
import Derived.OwnWalkIn
import Derived.TacticsInMore
import Derived.LoopNIn
import Derived.LoopIn
import Derived.Test.YtlkhjnpflohfeaaDoorCoreB
import Derived.StillTail
import Derived.StillTailTactics
import Derived.Below
/- The code of the functions, for the evaluator: the table. Printed by program. -/
namespace Go.Proofs.YtlkhjnpflohfeaaDoor
open Go
namespace Ev
def fnTbl : Nat → Option AFunc
  | 5 => some af5
  | 6 => some af6
  | 7 => some af7
  | 8 => some af8
  | 9 => some af9
  | 10 => some af10
  | 11 => some af11
  | 31 => some af31
  | 32 => some af32
  | 38 => some af38
  | 39 => some af39
  | 40 => some af40
  | 79 => some af79
  | 92 => some af92
  | 97 => some af97
  | 98 => some af98
  | 101 => some af101
  | 104 => some af104
  | _ => none
def fnTree : FT := (.node 38 af38 (.node 9 af9 (.node 7 af7 (.node 6 af6 (.node 5 af5 .leaf .leaf) .leaf) (.node 8 af8 .leaf .leaf)) (.node 31 af31 (.node 11 af11 (.node 10 af10 .leaf .leaf) .leaf) (.node 32 af32 .leaf .leaf))) (.node 97 af97 (.node 79 af79 (.node 40 af40 (.node 39 af39 .leaf .leaf) .leaf) (.node 92 af92 .leaf .leaf)) (.node 101 af101 (.node 98 af98 .leaf .leaf) (.node 104 af104 .leaf .leaf))))
end Ev
end Go.Proofs.YtlkhjnpflohfeaaDoor

/- The law CutWaits, gone through: what it comes to, by what the functions of package cut answer. -/
namespace Go.Proofs.YtlkhjnpflohfeaaDoor
open Go
namespace Ev
set_option maxRecDepth 100000
structure Hidden (p : Prop) : Prop where
  out : p
theorem hideP {p : Prop} (h : p) : Hidden p := ⟨h⟩
def Yes (t : Nat) (e : AExit) (st : St) : Prop := e = .ret ∧ st.df = [] ∧ st.tm.getD t .unk = .bool true
def sumTo (f : Nat → Int) : Nat → Int
  | 0 => 0
  | k + 1 => sumTo f k + max 0 (f k)
structure WaitsB (A : Api) (c : CutD) (bi dn : Nat) (ld back : Int) : Prop where
  err : (A.days c bi ld).2 = 0
  days : ∃ D : Nat, (A.days c bi ld).1.1 = D ∧ D < 1048576 ∧ ((A.wait c bi ld dn).2 = 0 ∧ (A.wait c bi ld back).2 = 0 ∧ (A.wait c bi ld back).1 ≤ (A.wait c bi ld dn).1 ∧ (∃ t : Nat, (A.wait c bi ld dn).1 = t ∧ dn ≤ t ∧ t ≤ c.rain.length ∧ D.testBit t = true ∧ ∀ j, dn ≤ j → j < t → D.testBit j = false) ∨
    (A.wait c bi ld dn).2 = 4 ∧ (A.wait c bi ld dn).1 = 0 ∧ ∀ j, dn ≤ j → j ≤ c.rain.length → D.testBit j = false)
structure Waits (A : Api) (c : CutD) (dn : Nat) (w1 w2 w4 : Int) : Prop where
  rain : c.rain.length ≤ 8
  day : dn ≤ c.rain.length
  boats : c.boats.length ≤ 4
  err : ∀ i : Nat, i < c.boats.length → (A.loads c i dn).2 = (A.together c dn).2
  big : ∀ i : Nat, i < c.boats.length → -1 ≤ (A.loads c i dn).1.1 ∧ (A.loads c i dn).1.1 ≤ 100
  bad : (A.together c dn).2 = 0 ∨ (A.together c dn).2 = 10 ∧ (A.together c dn).1 = 0
  sum : (A.together c dn).2 = 0 → (A.together c dn).1 = sumTo (fun i => (A.loads c i dn).1.1) c.boats.length
  boat : (A.together c dn).2 = 0 → ∀ (bi : Nat) (h : bi < c.boats.length), w1 % c.boats.length = bi → 0 ≤ c.boats[bi].room ∧ c.boats[bi].room ≤ 10 ∧ WaitsB A c bi dn (w2 % (c.boats[bi].room + 1)) (max 0 (dn - w4 % 4))
theorem sumTo_le {f : Nat → Int} {n : Nat} (h : ∀ i, i < n → -1 ≤ f i ∧ f i ≤ 100) : ∀ k, k ≤ n → 0 ≤ sumTo f k ∧ sumTo f k ≤ 100 * k
  | 0, _ => by simp [sumTo]
  | k + 1, hk => by
    have := sumTo_le h k (by omega)
    have := h k (by omega)
    simp only [sumTo]
    omega
end Ev
end Go.Proofs.YtlkhjnpflohfeaaDoor

/- The plain law of CutWaits. -/
namespace Go.Proofs.YtlkhjnpflohfeaaDoor
open Go
def specApi : Ev.Api := ⟨depthR, leakR, floatsR, loadsR, daysR, untilR, togetherR, clashR, fineD, farD, Cut.valid⟩
namespace Cut
theorem setTo_bit (p : Nat → Bool) : ∀ (n j : Nat), (setTo p n).testBit j = (decide (j < n) && p j)
  | 0, j => by simp [setTo]
  | n + 1, j => by
    have ih := setTo_bit p n j
    have hlt := setTo_lt p n
    unfold setTo
    by_cases hp : p n = true
    · rw [if_pos hp, Nat.add_comm]
      by_cases hj : j = n
      · subst hj
        rw [Nat.testBit_two_pow_add_eq, Nat.testBit_lt_two_pow hlt]
        simp [hp]
      · rcases Nat.lt_or_gt_of_ne hj with h | h
        · rw [Nat.testBit_two_pow_add_gt h, ih]
          have : j < n + 1 := by omega
          simp [h, this]
        · have h1 : ¬ j < n + 1 := by omega
          have h2 : 2 ^ n + setTo p n < 2 ^ j := by
            have : 2 ^ (n + 1) ≤ 2 ^ j := Nat.pow_le_pow_right (by decide) (by omega)
            rw [Nat.pow_succ] at this
            omega
          rw [Nat.testBit_lt_two_pow h2]
          simp [h1]
    · rw [if_neg hp, ih]
      by_cases hj : j = n
      · subst hj; simp [hp]
      · by_cases h : j < n
        · have : j < n + 1 := by omega
          simp [h, this]
        · have : ¬ j < n + 1 := by omega
          simp [h, this]
end Cut
theorem fine_valid {c : CutD} (h : fineD c = true) : Cut.valid c = true := by
  unfold fineD at h
  simp at h
  exact h.2
theorem isDay_nat {c : CutD} {d : Nat} (h : d ≤ c.rain.length) : Cut.isDay c d = true := by
  simp [Cut.isDay, Cut.within]; omega
theorem isBoat_nat {c : CutD} {i : Nat} (h : i < c.boats.length) : Cut.isBoat c i = true := by
  simp [Cut.isBoat, Cut.within]; omega
theorem isLoads_nat {c : CutD} {i : Nat} {n : Int} (h : i < c.boats.length) (h0 : 0 ≤ n) (h1 : n ≤ (Cut.boatAt c.boats i).room) : Cut.isLoads c i n = true := by
  unfold Cut.isLoads
  rw [isBoat_nat h]
  simp [Cut.within, Cut.boat]
  exact ⟨h0, decide_eq_true h1⟩
theorem boatAt_get {c : CutD} {i : Nat} (h : i < c.boats.length) : Cut.boatAt c.boats i = c.boats[i] := by simp [Cut.boatAt, h]
end Go.Proofs.YtlkhjnpflohfeaaDoor

/- Small lemmas for the walks: blocks known whole, frames that leave out one block, readings of slices. -/
namespace Go.Proofs.YtlkhjnpflohfeaaDoor
open Go Go.Proofs Go.RowKit

theorem ret_int {k : IntKind} {a b : Int} (h : a = b) : Ending.returned (.int k a) = .returned (.int k b) := by rw [h]
theorem ret_bool {a b : Bool} (h : a = b) : Ending.returned (.bool a) = .returned (.bool b) := by rw [h]
theorem hide {p : Prop} (h : p) : Hid p := h
theorem run_max_i64 {P : Program} (ts : Array TypeId) (t : TypeId) (x y : Int) (w : World) : (Builtin.max_ ts t #[.int .i64 x, .int .i64 y]).run P w = .ok (.int .i64 (max x y)) w := by
  have : (if y > x then y else x) = max x y := by omega
  simp [run_max_int2, this]
theorem run_min_i64 {P : Program} (ts : Array TypeId) (t : TypeId) (x y : Int) (w : World) : (Builtin.min_ ts t #[.int .i64 x, .int .i64 y]).run P w = .ok (.int .i64 (min x y)) w := by
  have : (if y < x then y else x) = min x y := by omega
  simp [run_min_int2, this]

theorem bit_u64 (set k : Nat) (h : set < 18446744073709551616) : bits BinOp.and IntKind.u64 ((set : Int) / 2 ^ k) 1 = if set.testBit k then 1 else 0 := by
  have h0 : ((set : Int) / 2 ^ k) = ((set / 2 ^ k : Nat) : Int) := by simp
  have h1 : set / 2 ^ k ≤ set := Nat.div_le_self _ _
  rw [h0, Nat.testBit_eq_decide_div_mod_eq]
  generalize set / 2 ^ k = q at *
  rw [and_one_u64 _ (by omega) (by omega)]
  simp only [decide_eq_true_eq]
  split <;> omega

structure Bel (M N : Nat) (w w' : World) : Prop where
  os : w'.os = w.os
  tape : w'.tape = w.tape
  output : w'.output = w.output
  size : w.heap.size ≤ w'.heap.size
  block : ∀ k, k < N → k ≠ M → w'.heap[k]? = w.heap[k]?

section
variable {M N N' : Nat} {w w' w'' : World}
theorem Bel.refl (M N : Nat) (w : World) : Bel M N w w := ⟨rfl, rfl, rfl, Nat.le_refl _, fun _ _ _ => rfl⟩
theorem Bel.trans (h : Bel M N w w') (k : Bel M N w' w'') : Bel M N w w'' :=
  ⟨k.os.trans h.os, k.tape.trans h.tape, k.output.trans h.output, Nat.le_trans h.size k.size, fun i hi hm => (k.block i hi hm).trans (h.block i hi hm)⟩
theorem Bel.mono (h : Bel M N w w') (hN : N' ≤ N) : Bel M N' w w' := ⟨h.os, h.tape, h.output, h.size, fun k hk hm => h.block k (Nat.lt_of_lt_of_le hk hN) hm⟩
theorem Bel.drew (h : Bel M N w w') : Bel M N w w'.drew := ⟨h.os, h.tape, h.output, h.size, h.block⟩
theorem Bel.drewN (h : Bel M N w w') (n : Nat) : Bel M N w (w'.drewN n) := ⟨h.os, h.tape, h.output, h.size, h.block⟩
theorem Bel.alloc (h : Bel M N w w') (hN : N ≤ w'.heap.size) (o : Obj) : Bel M N w (w'.alloc o) :=
  h.trans ⟨rfl, rfl, rfl, by simp, fun k hk _ => Below.heap_alloc _ _ _ (by omega)⟩
theorem Bel.setCell (h : Bel M N w w') {p : Addr} (hp : N ≤ p.block ∨ p.block = M) (u : Value) : Bel M N w (w'.setCell p u) :=
  h.trans ⟨rfl, rfl, rfl, by simp [World.setCell], fun k hk hm => Below.heap_setCell _ _ _ _ (by omega)⟩
theorem Bel.putObj (h : Bel M N w w') {l : Nat} (hl : N ≤ l ∨ l = M) (o : Obj) : Bel M N w (w'.putObj l o) :=
  h.trans ⟨rfl, rfl, rfl, by simp, fun k hk hm => World.putObj_heap_other (by omega)⟩
theorem Bel.of_below (h : Below N w w') : Bel M N w w' := ⟨h.os, h.tape, h.output, h.size, fun k hk _ => h.block k hk⟩
theorem Bel.below (h : Bel M N w w') (hM : N ≤ M) : Below N w w' := ⟨h.os, h.tape, h.output, h.size, fun k hk => h.block k hk (by omega)⟩
theorem Bel.below_lt (h : Bel M N w w') (hM : N' ≤ M) (hN : N' ≤ N) : Below N' w w' := ⟨h.os, h.tape, h.output, h.size, fun k hk => h.block k (by omega) (by omega)⟩
theorem Bel.cell (h : Bel M N w w') {p : Addr} (hp : p.block < N) (hm : p.block ≠ M) : w'.cell? p = w.cell? p := World.cell?_of_block (w := w) (h.block p.block hp hm)
theorem Bel.frozen (h : Bel M N w w') {p : Addr} (hp : p.block < N) (hm : p.block ≠ M) : w'.frozen? p = w.frozen? p := World.frozen?_of_block (w := w) (h.block p.block hp hm)
end

theorem Below.putObj {N l : Nat} {w : World} (hl : N ≤ l) (o : Obj) : Below N w (w.putObj l o) := ⟨rfl, rfl, rfl, by simp, fun k hk => World.putObj_heap_other (by omega)⟩

def Blk (w : World) (B : Nat) (T : TypeId) (cs : List Value) : Prop := w.heap[B]? = some (.cells cs.toArray T (0, 0))
section
variable {w w' : World} {B : Nat} {T : TypeId} {cs : List Value}
theorem Blk.lt (h : Blk w B T cs) : B < w.heap.size := by
  obtain ⟨h1, _⟩ := Array.getElem?_eq_some_iff.1 h; exact h1
theorem Blk.cell (h : Blk w B T cs) (i : Nat) {v : Value} (hi : cs[i]? = some v) : w.cell? ⟨B, i, none⟩ = some v := by
  unfold World.cell?; rw [show w.heap[(⟨B, i, none⟩ : Addr).block]? = _ from h]; simpa using hi
theorem Blk.free (h : Blk w B T cs) (i : Nat) : w.frozen? ⟨B, i, none⟩ = false := by
  unfold World.frozen?; rw [show w.heap[(⟨B, i, none⟩ : Addr).block]? = _ from h]; simp
theorem Blk.new (w : World) (cs : List Value) (T : TypeId) : Blk (w.alloc (.cells cs.toArray T (0, 0))) w.heap.size T cs := World.alloc_heap_new w _
theorem Blk.new' {B : Nat} (w : World) (cs : List Value) (T : TypeId) (hB : B = w.heap.size) : Blk (w.alloc (.cells cs.toArray T (0, 0))) B T cs := by subst hB; exact Blk.new w cs T
theorem Blk.alloc (h : Blk w B T cs) (o : Obj) : Blk (w.alloc o) B T cs := (Below.heap_alloc w o B h.lt).trans h
theorem Blk.drew (h : Blk w B T cs) : Blk w.drew B T cs := h
theorem Blk.drewN (h : Blk w B T cs) (n : Nat) : Blk (w.drewN n) B T cs := h
theorem Blk.set (h : Blk w B T cs) (i : Nat) (v : Value) : Blk (w.setCell ⟨B, i, none⟩ v) B T (cs.set i v) := by
  have hlt := h.lt
  unfold Blk World.setCell at *
  simp only [Array.getElem?_modify, if_true]
  rw [h]; simp
theorem Blk.other {C : Nat} (hne : B ≠ C) (i : Nat) (v : Value) (h : Blk w B T cs) : Blk (w.setCell ⟨C, i, none⟩ v) B T cs := (Below.heap_setCell w ⟨C, i, none⟩ v B hne).trans h
theorem Blk.bel {M N : Nat} (h : Blk w B T cs) (hb : Bel M N w w') (hN : B < N) (hM : B ≠ M) : Blk w' B T cs := (hb.block B hN hM).trans h
theorem Blk.below {N : Nat} (h : Blk w B T cs) (hb : Below N w w') (hN : B < N) : Blk w' B T cs := (hb.block B hN).trans h
theorem Blk.put {l : Nat} {o : Obj} (h : Blk w B T cs) (hl : B ≠ l) : Blk (w.putObj l o) B T cs := (World.putObj_heap_other hl).trans h
end

structure Dry (w : World) : Prop where
  lt : 0 < w.heap.size
  c0 : w.cell? ⟨0, 0, none⟩ = some (.int .i64 1048576)
  c1 : w.cell? ⟨0, 1, none⟩ = some (.int .i64 (-1048576))
theorem Dry.bel {M : Nat} {w w' : World} (h : Dry w) (hb : Bel M w.heap.size w w') (hM : 0 ≠ M) : Dry w' :=
  ⟨Nat.lt_of_lt_of_le h.lt hb.size, (hb.cell (p := ⟨0, 0, none⟩) h.lt hM).trans h.c0, (hb.cell (p := ⟨0, 1, none⟩) h.lt hM).trans h.c1⟩

theorem Dry.below {w w' : World} (h : Dry w) (hb : Below w.heap.size w w') : Dry w' :=
  ⟨Nat.lt_of_lt_of_le h.lt hb.size, (hb.cell (p := ⟨0, 0, none⟩) h.lt).trans h.c0, (hb.cell (p := ⟨0, 1, none⟩) h.lt).trans h.c1⟩
theorem Dry.drew {w : World} (h : Dry w) : Dry w.drew := ⟨h.lt, h.c0, h.c1⟩
theorem Dry.drewN {w : World} (h : Dry w) (n : Nat) : Dry (w.drewN n) := ⟨h.lt, h.c0, h.c1⟩
theorem bcellN {N : Nat} {W w1 : World} (hb : Below N W w1) : (∀ b o, b < N → w1.cell? ⟨b, o, none⟩ = W.cell? ⟨b, o, none⟩) ∧ (∀ b o, b < N → w1.frozen? ⟨b, o, none⟩ = W.frozen? ⟨b, o, none⟩) :=
  ⟨fun b o h => hb.cell (p := ⟨b, o, none⟩) h, fun b o h => hb.frozen (p := ⟨b, o, none⟩) h⟩
theorem below_drewN {N n : Nat} {w w' : World} (h : Below N (w.drewN n) w') : Below N w w' := ⟨h.os, h.tape, h.output, h.size, h.block⟩
theorem below_drewN_r {N : Nat} {w w' : World} (h : Below N w w') (n : Nat) : Below N w (w'.drewN n) := ⟨h.os, h.tape, h.output, h.size, h.block⟩
theorem bcell {W w1 : World} (hb : Below W.heap.size W w1) : (∀ b o, b < W.heap.size → w1.cell? ⟨b, o, none⟩ = W.cell? ⟨b, o, none⟩) ∧ (∀ b o, b < W.heap.size → w1.frozen? ⟨b, o, none⟩ = W.frozen? ⟨b, o, none⟩) :=
  ⟨fun b o h => hb.cell (p := ⟨b, o, none⟩) h, fun b o h => hb.frozen (p := ⟨b, o, none⟩) h⟩

abbrev Sp := Int × Int

def RowOf (w : World) (v : Value) (n k : Nat) (f : Nat → Nat → Value) : Prop :=
  ∃ cap : Nat, n ≤ cap ∧ cap ≤ 9223372036854775807 ∧ ((n = 0 ∧ ∃ a, v = .slice a 0 cap) ∨ (∃ b off, v = .slice (some ⟨b, off, none⟩) n cap ∧ b < w.heap.size ∧ ∀ i j, i < n → j < k → w.cell? ⟨b, off + i * k + j, none⟩ = some (f i j)))

theorem RowOf.keep {w w' : World} {v : Value} {n k : Nat} {f : Nat → Nat → Value} (h : RowOf w v n k f) (hs : w.heap.size ≤ w'.heap.size) (hb : ∀ b, b < w.heap.size → (∀ i j, i < n → j < k → ∀ off, w.cell? ⟨b, off + i * k + j, none⟩ = some (f i j) → w'.cell? ⟨b, off + i * k + j, none⟩ = some (f i j))) : RowOf w' v n k f := by
  obtain ⟨cap, h1, h2, h3⟩ := h
  refine ⟨cap, h1, h2, ?_⟩
  rcases h3 with h3 | ⟨b, off, hv, hlt, hc⟩
  · exact .inl h3
  · exact .inr ⟨b, off, hv, by omega, fun i j hi hj => hb b hlt i j hi hj off (hc i j hi hj)⟩

end Go.Proofs.YtlkhjnpflohfeaaDoor

/- Contracts of the small functions of package cut. -/
namespace Go.Proofs.YtlkhjnpflohfeaaDoor
open Go Go.Proofs Go.RowKit

set_option maxHeartbeats 400000 in
theorem within_any (a b c : Int) (w : World) :
    Calls Tryd.prog 82 #[.int .i64 a, .int .i64 b, .int .i64 c] w fun e w' => e = .returned (.bool (Cut.within a b c)) ∧ w = w' := by
  by_cases h : b ≤ a
  · go_enter Tryd.func82, Tryd.ntmps82
    go_wp2
    go_ret
    exact ⟨ret_bool (by grind [Cut.within]), rfl⟩
  · have hd : decide (b ≤ a) = false := by simpa using h
    go_enter Tryd.func82, Tryd.ntmps82
    go_wp2
    go_ret
    exact ⟨ret_bool (by grind [Cut.within]), rfl⟩

set_option maxHeartbeats 400000 in
theorem isSpan_any (a b low high : Int) (w : World) :
    Calls Tryd.prog 83 #[.agg #[.int .i64 a, .int .i64 b], .int .i64 low, .int .i64 high] w fun e w' => e = .returned (.bool (Cut.isSpan (a, b) low high)) ∧ Below w.heap.size w w' := by
  go_enter Tryd.func83, Tryd.ntmps83
  go_wp2
  all_goals go_ret
  all_goals refine ⟨ret_bool ?_, by (repeat' first | (with_reducible assumption) | (with_reducible exact Below.refl _ _) | (with_reducible refine Below.drew ?_) | (with_reducible refine Below.setCell ?_ ?_ _) | (with_reducible refine Below.alloc ?_ ?_ _) | (refine Below.trans ?_ (Below.mono (by assumption) ?_)) | omega | (simp only [World.size_alloc, World.size_setCell, World.size_drew] at *; omega))⟩
  all_goals grind [Cut.isSpan]

set_option maxHeartbeats 400000 in
theorem some_any (a b : Int) (w : World) :
    Calls Tryd.prog 55 #[.agg #[.int .i64 a, .int .i64 b]] w fun e w' => e = .returned (.bool (Cut.some (a, b))) ∧ Below w.heap.size w w' := by
  go_enter Tryd.func55, Tryd.ntmps55
  go_wp2
  all_goals go_ret
  all_goals refine ⟨ret_bool ?_, by (repeat' first | (with_reducible assumption) | (with_reducible exact Below.refl _ _) | (with_reducible refine Below.drew ?_) | (with_reducible refine Below.setCell ?_ ?_ _) | (with_reducible refine Below.alloc ?_ ?_ _) | (refine Below.trans ?_ (Below.mono (by assumption) ?_)) | omega | (simp only [World.size_alloc, World.size_setCell, World.size_drew] at *; omega))⟩
  all_goals grind [Cut.some]

end Go.Proofs.YtlkhjnpflohfeaaDoor

/- Contracts of the small functions of package cut: spans of water, and the steps. -/
namespace Go.Proofs.YtlkhjnpflohfeaaDoor
open Go Go.Proofs Go.RowKit
attribute [local go_sem ↓] run_max_i64 run_min_i64

set_option maxHeartbeats 400000 in
theorem common_any (a b c d : Int) (w : World) (hdr : Dry w) :
    Calls Tryd.prog 89 #[.agg #[.int .i64 a, .int .i64 b], .agg #[.int .i64 c, .int .i64 d]] w fun e w' => e = .returned (.agg #[.int .i64 (Cut.common (a, b) (c, d)).1, .int .i64 (Cut.common (a, b) (c, d)).2]) ∧ Below w.heap.size w w' := by
  obtain ⟨h0, h1, h2⟩ := hdr
  by_cases hc : max a c ≤ min b d
  · have HD : Hid (Cut.common (a, b) (c, d) = (max a c, min b d)) := if_pos hc
    have hs : Cut.some (max a c, min b d) = true := by simpa [Cut.some] using hc
    go_enter Tryd.func89, Tryd.ntmps89
    go_wp2_with (go_at_call 55; refine (some_any _ _ _).mono ?_; rintro e w' ⟨rfl, hb⟩; rw [hs]; obtain ⟨hc, hf⟩ := bcell hb; have hz := hb.size; simp at hz)
    refine bodyPost_ret (v := .agg #[.int .i64 (max a c), .int .i64 (min b d)]) (by simp [results, Tryd.results89, go_sem, *]) rfl ⟨by rw [HD.out], ?_⟩
    (repeat' first | (with_reducible assumption) | (with_reducible exact Below.refl _ _) | (with_reducible refine Below.drew ?_) | (with_reducible refine Below.setCell ?_ ?_ _) | (with_reducible refine Below.alloc ?_ ?_ _) | (refine Below.trans ?_ (Below.mono (by assumption) ?_)) | omega | (simp only [World.size_alloc] at *; omega))
  · have HD : Hid (Cut.common (a, b) (c, d) = Cut.dry) := if_neg hc
    have hs : Cut.some (max a c, min b d) = false := by simpa [Cut.some] using hc
    go_enter Tryd.func89, Tryd.ntmps89
    go_wp2_with (go_at_call 55; refine (some_any _ _ _).mono ?_; rintro e w' ⟨rfl, hb⟩; rw [hs]; obtain ⟨hc, hf⟩ := bcell hb; have hz := hb.size; simp at hz)
    refine bodyPost_ret (v := .agg #[.int .i64 1048576, .int .i64 (-1048576)]) (by simp [results, Tryd.results89, go_sem, *]) rfl ⟨by rw [HD.out]; rfl, ?_⟩
    (repeat' first | (with_reducible assumption) | (with_reducible exact Below.refl _ _) | (with_reducible refine Below.drew ?_) | (with_reducible refine Below.setCell ?_ ?_ _) | (with_reducible refine Below.alloc ?_ ?_ _) | (refine Below.trans ?_ (Below.mono (by assumption) ?_)) | omega | (simp only [World.size_alloc] at *; omega))

end Go.Proofs.YtlkhjnpflohfeaaDoor

/- A region that draws its order: the operations before the last ones are quiet in a class of worlds; the last ones stand in one forced order. One walk of the text's order serves every order; the last ones are walked in whatever world of the class. -/
namespace Go.Proofs.YtlkhjnpflohfeaaDoor
open Go
structure Cls (p : World → Prop) where
  W : World
  ok : p W

theorem Cls.step {N : Nat} {W w2 : World} (s : Cls (RowKit.Below N W)) (hN : N ≤ W.heap.size) (hb : RowKit.Below s.W.heap.size s.W w2) : ∃ s' : Cls (RowKit.Below N W), w2 = s'.W :=
  ⟨⟨w2, s.ok.trans (hb.mono (Nat.le_trans hN s.ok.size))⟩, rfl⟩

section
variable {P : Program} {ops : Array Oper} {md : Region.Mode} {C : World → Prop}

def anyHead (P : Program) (md : Region.Mode) (ops : Array Oper) (C : World → Prop) (n : Nat) (L : Array Bool → Act → Prop) : Nat → Array Bool → Act → Prop
  | 0, listed, a => L listed a
  | f + 1, listed, a =>
    Region.ready md ops listed ≠ [] ∧ ∀ i ∈ Region.ready md ops listed, i < n ∧ qOp P ops C i (anyHead P md ops C n L f (listed.setIfInBounds i true)) a

theorem wpAny_of_anyHead {n g : Nat} {L : Array Bool → Act → Prop} {Q' : Exit → Act → World → Prop} (hL : ∀ listed a w, C w → L listed a → wpAny P md ops Q' g listed a w) :
    ∀ (f : Nat) (listed : Array Bool) (a : Act) (w : World), C w → anyHead P md ops C n L f listed a → wpAny P md ops Q' (f + g) listed a w
  | 0, listed, a, w, hw, h => by rw [Nat.zero_add]; exact hL _ _ _ hw h
  | f + 1, listed, a, w, hw, h => by
    rw [show f + 1 + g = (f + g) + 1 by omega]
    exact ⟨fun h0 => absurd h0 h.1, fun i hi => wpOp_of_qOp hw (fun a' w' hw' h' => wpAny_of_anyHead hL f _ a' w' hw' h') (h.2 i hi).2⟩

theorem anyHead_first {n i : Nat} {oi : Oper} {v : Value} {L : Array Bool → Act → Prop} (hi : ops[i]? = some oi) (hsel : ∀ (j : Nat) (o : Oper) cs b, ops[j]? = some o → o.op ≠ .select cs b)
    (hs : Region.sinkB md ops n = true) (hc : Region.chainB md ops n = true) (hn : n < ops.size) (hin : i < n)
    (hdone : ∀ listed a, L listed a → ∀ j ∈ Region.ready md ops listed, n ≤ j) :
    ∀ (f : Nat) (listed : Array Bool) (a : Act), HeadInv md ops n listed →
      (∀ j oj, ops[j]? = some oj → j ≠ i → listed.getD j true = false → (∀ e ∈ oj.after, Region.binds md e = true → e.on ≠ i) → oi.apart ops oj = true) →
      i ∈ Region.ready md ops listed → YieldsIn P ops C oi v a →
      anyHead P md ops C n L f (listed.setIfInBounds i true) (a.put oi.dst v) → anyHead P md ops C n L (f + 1) listed a := by
  intro f
  induction f with
  | zero =>
    intro listed a inv _ hr hy H
    have hun := (mem_ready.1 hr).1
    refine ⟨fun h => (by rw [h] at hr; cases hr), fun j hj => ?_⟩
    have hjn : j < n := (Nat.lt_or_ge j n).elim id fun h => absurd hj (tail_waits hs hc hn inv _ i rfl hin hun j h)
    refine ⟨hjn, ?_⟩
    by_cases hji : j = i
    · subst hji; exact hy.qOp hi H
    · have := hdone _ _ H j (ready_mono hj hji)
      omega
  | succ f ih =>
    intro listed a inv hfree hr hy H
    have hun := (mem_ready.1 hr).1
    refine ⟨fun h => (by rw [h] at hr; cases hr), fun j hj => ?_⟩
    have hjn : j < n := (Nat.lt_or_ge j n).elim id fun h => absurd hj (tail_waits hs hc hn inv _ i rfl hin hun j h)
    refine ⟨hjn, ?_⟩
    by_cases hji : j = i
    · subst hji; exact hy.qOp hi H
    · have h1 := (H.2 j (ready_mono hj hji)).2
      obtain ⟨hjun, oj, hoj, hall⟩ := mem_ready.1 hj
      have hnot : ∀ e ∈ oj.after, Region.binds md e = true → e.on ≠ i := fun e he hb heq => by
        have h1 := hall e he hb
        rw [heq, getD_both hun] at h1
        cases h1
      have h2 := qOp_put hoj (hfree j oj hoj hji hjun hnot) (fun cs b => hsel i oi cs b hi) (fun cs b => hsel j oj cs b hoj) hy h1
      have hfree' : ∀ k ok, ops[k]? = some ok → k ≠ i → (listed.setIfInBounds j true).getD k true = false →
          (∀ e ∈ ok.after, Region.binds md e = true → e.on ≠ i) → oi.apart ops ok = true := fun k ok hk hki hun hno => by
        refine hfree k ok hk hki ?_ hno
        by_cases hjk : j = k
        · subst hjk; exact hjun
        · rw [getD_set_ne true hjk] at hun; exact hun
      refine qOp_mono (fun a' h3 => ih (listed.setIfInBounds j true) a' (inv.set hj hjn) hfree' (ready_mono hr (Ne.symm hji)) h3.1 ?_) h2
      rw [Array.setIfInBounds_comm _ _ hji]
      exact h3.2

theorem anyHead_lex {n g : Nat} {Lq : Act → Prop} (hsel : Region.noSelect ops = true) (hs : Region.sinkB md ops n = true) (hc : Region.chainB md ops n = true) (hn : n < ops.size) :
    ∀ (l : List Oper) (k : Nat) (listed : Array Bool) (a : Act), (∀ j, j < l.length → l[j]? = ops[k + j]?) → k + l.length = n → HeadInv md ops n listed →
    Region.lexHead md ops g l.length k listed = true → wpQuiet P ops C Lq l a →
    anyHead P md ops C n (fun listed' a' => Region.seqB md ops g n listed' = true ∧ Lq a') l.length listed a
  | [], k, listed, a, _, hk, _, hB, h => by
    have : k = n := by simpa using hk
    subst this
    exact ⟨by simpa [Region.lexHead] using hB, h⟩
  | o :: l, k, listed, a, hl, hk, inv, hB, h => by
    have h0 : ops[k]? = some o := by simpa using (hl 0 (by simp)).symm
    simp only [List.length_cons, Region.lexHead, Bool.and_eq_true] at hB
    obtain ⟨⟨hr, hf⟩, hB'⟩ := hB
    have hkn : k < n := by simp only [List.length_cons] at hk; omega
    have hr' : k ∈ Region.ready md ops listed := by simpa using hr
    have hst : qOp P ops C k (wpQuiet P ops C Lq l) a := by unfold qOp; simp only [h0]; exact h
    obtain ⟨v, hy, hK⟩ := yieldsIn_of_qOp h0 hst
    exact anyHead_first h0 (Region.noSelect_spec hsel) hs hc hn hkn (fun listed' a' hL => seqB_ready hL.1) l.length listed a inv (Region.free_spec h0 hf) hr' hy
      (anyHead_lex hsel hs hc hn l (k + 1) _ _ (fun j hj => by have := hl (j + 1) (by simp; omega); simpa [Nat.add_assoc, Nat.add_comm 1 j] using this) (by simp only [List.length_cons] at hk; omega) (inv.set hr' hkn) hB' hK)

theorem any_quiet_tail {S : Type} (f : S → World) {Q : Exit → Act → World → Prop} {a : Act} {w : World} {l : List Oper} (n : Nat) (hB : Region.lexTailB .any l.toArray n = true)
    (hC : ∃ s, w.drew = f s)
    (h : wpQuiet P l.toArray (fun w' => ∃ s, w' = f s) (fun a' => ∀ s, wpList P l.toArray Q (l.drop n) a' (f s)) (l.take n) a) : wpAny P .any l.toArray Q l.toArray.size (Array.replicate l.toArray.size false) a w.drew := by
  simp only [Region.lexTailB, Bool.and_eq_true, decide_eq_true_eq] at hB
  obtain ⟨⟨⟨⟨hsel, hn⟩, hs⟩, hc⟩, hlex⟩ := hB
  have hn' : n < l.length := by simpa using hn
  have htl : (l.take n).length = n := by simp; omega
  have hdl : (l.drop n).length = l.toArray.size - n := by simp
  have inv0 : HeadInv .any l.toArray n (Array.replicate l.toArray.size false) :=
    ⟨by simp, fun j oj _ hl => (by rw [getD_replicate_false] at hl; cases hl), fun t _ ht => getD_in (by simpa using ht) (getD_replicate_false _ _)⟩
  have H := anyHead_lex (md := .any) (C := fun w' => ∃ s, w' = f s) (g := l.toArray.size - n) hsel hs hc hn (l.take n) 0 _ a (fun j hj => by
    have hj' : j < n := by rw [htl] at hj; exact hj
    simp [hj']) (by simpa using htl) inv0 (by rw [htl]; exact hlex) h
  have := wpAny_of_anyHead (C := fun w' => ∃ s, w' = f s) (Q' := Q) (g := l.toArray.size - n) (fun listed a' w' hw' hL => by
    obtain ⟨s, rfl⟩ := hw'
    have := wpAny_of_seq (md := .any) (Q' := Q) (l.drop n) n listed a' (f s) (fun j => by simp [List.getElem?_drop]) (by rw [hdl]; exact hL.1) (hL.2 s)
    rwa [hdl] at this) _ _ _ w.drew hC H
  rw [htl, show n + (l.toArray.size - n) = l.toArray.size by omega] at this
  exact this

theorem wp_region_quiet_tail {S : Type} (f : S → World) {id : Nat} {Q : Exit → Act → World → Prop} {a : Act} {w : World} {l : List Oper} (n : Nat) (hm : P.follows .mixedOrders = true) (hB : Region.lexTailB .any l.toArray n = true)
    (hC : ∃ s, w.drew = f s)
    (h : wpQuiet P l.toArray (fun w' => ∃ s, w' = f s) (fun a' => ∀ s, wpList P l.toArray Q (l.drop n) a' (f s)) (l.take n) a) : (Code.region id l.toArray true).wp P Q a w :=
  wp_region_any hm (any_quiet_tail f n hB hC h)

theorem wp_region_quiet_all {S : Type} (f : S → World) {id : Nat} {Q : Exit → Act → World → Prop} {a : Act} {w : World} {l : List Oper} (hm : P.follows .mixedOrders = true) (hB : Region.lexB .any l.toArray = true)
    (hC : ∃ s, w.drew = f s)
    (h : wpQuiet P l.toArray (fun w' => ∃ s, w' = f s) (fun a' => ∀ s, Q .normal a' (f s)) l a) : (Code.region id l.toArray true).wp P Q a w :=
  wp_region_quiet hm hB hC (by
    have : (fun a' => ∀ s, Q .normal a' (f s)) = (fun a' => ∀ w', (∃ s, w' = f s) → Q .normal a' w') := by funext a'; simp
    rw [this] at h; exact h)
end
end Go.Proofs.YtlkhjnpflohfeaaDoor

/- Contracts of the steps of package cut. -/
namespace Go.Proofs.YtlkhjnpflohfeaaDoor
open Go Go.Proofs Go.RowKit
attribute [local go_sem ↓] run_max_i64 run_min_i64

set_option maxHeartbeats 400000 in
theorem held_any (n : Int) (B : Nat) (most : Int) (w : World) (hc : w.cell? ⟨B, 2, none⟩ = some (.int .i64 most)) :
    Calls Tryd.prog 122 #[.int .i64 n, .pointer (some ⟨B, 0, none⟩)] w fun e w' => e = .returned (.int .i64 (Cut.held most n)) ∧ w' = w := by
  go_enter Tryd.func122, Tryd.ntmps122
  go_wp2
  go_ret
  exact ⟨rfl, rfl⟩

set_option maxHeartbeats 800000 in
set_option maxRecDepth 100000 in
theorem after_any (s1 s2 most v1 v2 : Int) (w : World) (hdr : Dry w) (b1 : -4611686018427387904 ≤ v1 + s1) (b2 : v1 + s1 ≤ 4611686018427387904) (b3 : -4611686018427387904 ≤ v2 + s2) (b4 : v2 + s2 ≤ 4611686018427387904) :
    Calls Tryd.prog 120 #[.agg #[.int .i64 s1, .int .i64 s2, .int .i64 most], .agg #[.int .i64 v1, .int .i64 v2]] w fun e w' => e = .returned (.agg #[.int .i64 (Cut.after (s1, s2) most (v1, v2)).1, .int .i64 (Cut.after (s1, s2) most (v1, v2)).2]) ∧ Below w.heap.size w w' := by
  obtain ⟨h0, h1, h2⟩ := hdr
  by_cases hs : Cut.some (v1, v2) = true
  · have HD : Hid (Cut.after (s1, s2) most (v1, v2) = (Cut.held most (v1 + s1), Cut.held most (v2 + s2))) := if_pos (by simpa [Cut.some] using hs)
    go_enter Tryd.func120, Tryd.ntmps120
    go_wp2_with (go_at_call 55; refine (some_any _ _ _).mono ?_; rintro e w' ⟨rfl, hb⟩; rw [hs]; obtain ⟨hc, hf⟩ := bcell hb; have hz := hb.size; simp at hz)
    have e1 : IntKind.i64.wrap (v1 + s1) = v1 + s1 := IntWalk.i64_in _ (by omega)
    have e2 : IntKind.i64.wrap (v2 + s2) = v2 + s2 := IntWalk.i64_in _ (by omega)
    have hcl : ∃ s : Cls (Below (w.heap.size + 1 + 1 + 1) w'), w'.drew = s.W := ⟨⟨_, (Below.refl _ _).drew⟩, rfl⟩
    have hne : Nonempty (Cls (Below (w.heap.size + 1 + 1 + 1) w')) := ⟨⟨_, Below.refl _ _⟩⟩
    have hS : ∀ (s : Cls (Below (w.heap.size + 1 + 1 + 1) w')) (b o : Nat), b < w.heap.size + 1 + 1 + 1 → s.W.cell? ⟨b, o, none⟩ = w'.cell? ⟨b, o, none⟩ := fun s b o h => s.ok.cell (p := ⟨b, o, none⟩) h
    have hSf : ∀ (s : Cls (Below (w.heap.size + 1 + 1 + 1) w')) (b o : Nat), b < w.heap.size + 1 + 1 + 1 → s.W.frozen? ⟨b, o, none⟩ = w'.frozen? ⟨b, o, none⟩ := fun s b o h => s.ok.frozen (p := ⟨b, o, none⟩) h
    clear h0 h1 h2
    refine wp_region_quiet_tail (S := Cls (Below (w.heap.size + 1 + 1 + 1) w')) Cls.W 20 (by kernel_rfl) (by kernel_rfl) hcl ?_
    simp only [List.take_succ_cons, List.take_zero, List.drop_succ_cons, List.drop_zero]
    clear hcl
    repeat (quiet_step ((go_at_call 122; refine (held_any _ _ most _ ?_).mono ?_; go_simp; rintro e w2 ⟨rfl, rfl⟩; exact ⟨rfl, _, rfl⟩)))
    refine wpQuiet_nil ?_
    intro s'
    go_wp2
    have hz2 := s'.ok.size
    refine bodyPost_ret (v := .agg #[.int .i64 (Cut.held most (v1 + s1)), .int .i64 (Cut.held most (v2 + s2))]) (by simp [results, Tryd.results120, go_sem, *]) rfl ⟨by rw [HD.out], ?_⟩
    have h3 := s'.ok.mono (show w.heap.size ≤ w.heap.size + 1 + 1 + 1 by omega)
    have h4 := hb.mono (show w.heap.size ≤ _ by simp; omega)
    have h5 := h4.trans h3
    (repeat' first | (with_reducible assumption) | (with_reducible exact Below.refl _ _) | (with_reducible refine Below.drew ?_) | (with_reducible refine Below.setCell ?_ ?_ _) | (with_reducible refine Below.alloc ?_ ?_ _) | (refine Below.trans ?_ (Below.mono (by assumption) ?_)) | omega | (simp only [World.size_alloc] at *; omega))
  · have HD : Hid (Cut.after (s1, s2) most (v1, v2) = Cut.dry) := if_neg (by simpa [Cut.some] using hs)
    replace hs : Cut.some (v1, v2) = false := by simpa using hs
    go_enter Tryd.func120, Tryd.ntmps120
    go_wp2_with (go_at_call 55; refine (some_any _ _ _).mono ?_; rintro e w' ⟨rfl, hb⟩; rw [hs]; obtain ⟨hc, hf⟩ := bcell hb; have hz := hb.size; simp at hz)
    refine bodyPost_ret (v := .agg #[.int .i64 1048576, .int .i64 (-1048576)]) (by simp [results, Tryd.results120, go_sem, *]) rfl ⟨by rw [HD.out]; rfl, ?_⟩
    (repeat' first | (with_reducible assumption) | (with_reducible exact Below.refl _ _) | (with_reducible refine Below.drew ?_) | (with_reducible refine Below.setCell ?_ ?_ _) | (with_reducible refine Below.alloc ?_ ?_ _) | (refine Below.trans ?_ (Below.mono (by assumption) ?_)) | omega | (simp only [World.size_alloc] at *; omega))

set_option maxHeartbeats 800000 in
set_option maxRecDepth 100000 in
theorem before_any (s1 s2 most v1 v2 : Int) (w : World) (hdr : Dry w) (b1 : -2000000 ≤ v1 ∧ v1 ≤ 2000000) (b2 : -2000000 ≤ v2 ∧ v2 ≤ 2000000) (b3 : -2000000 ≤ s1 ∧ s1 ≤ 2000000) (b4 : -2000000 ≤ s2 ∧ s2 ≤ 2000000) :
    Calls Tryd.prog 121 #[.agg #[.int .i64 s1, .int .i64 s2, .int .i64 most], .agg #[.int .i64 v1, .int .i64 v2]] w fun e w' => e = .returned (.agg #[.int .i64 (Cut.before (s1, s2) most (v1, v2)).1, .int .i64 (Cut.before (s1, s2) most (v1, v2)).2]) ∧ Below w.heap.size w w' := by
  have hdr' := hide hdr
  obtain ⟨h0, h1, h2⟩ := hdr
  by_cases hs : Cut.some (v1, v2) = true
  · have HD : Hid (Cut.before (s1, s2) most (v1, v2) = Cut.common (0, most) ((if v1 = 0 then -65536 else v1) - s2, (if v2 = most then 65536 else v2) - s1)) := if_pos (by simpa [Cut.some] using hs)
    obtain rfl | c1 := Classical.em (v1 = 0)
    all_goals obtain rfl | c2 := Classical.em (most = v2)
    all_goals (try (have c1' : (v1 == 0) = false := by simpa using c1))
    all_goals (try (have c2' : (v2 == most) = false := by simpa using (fun h => c2 h.symm)))
    all_goals (try (have c2'' : ¬ v2 = most := fun h => c2 h.symm))
    all_goals (try clear c1)
    all_goals (try clear c2)
    all_goals (try clear c2'')
    all_goals go_enter Tryd.func121, Tryd.ntmps121
    all_goals go_wp2_with (go_at_call 55; refine (some_any _ _ _).mono ?_; rintro e w' ⟨rfl, hb⟩; rw [hs]; obtain ⟨hc, hf⟩ := bcell hb; have hz := hb.size; simp at hz)
    all_goals go_quiet (fail)
    all_goals have hbw : Below w.heap.size w w' := by (repeat' first | (with_reducible assumption) | (with_reducible exact Below.refl _ _) | (with_reducible refine Below.drew ?_) | (with_reducible refine Below.setCell ?_ ?_ _) | (with_reducible refine Below.alloc ?_ ?_ _) | (refine Below.trans ?_ (Below.mono (by assumption) ?_)) | omega | (simp only [World.size_alloc] at *; omega))
    all_goals have hdw := hide (hdr'.out.below hbw)
    all_goals go_wp2_with (go_at_call 89; refine (common_any _ _ _ _ _ (hdw.out.drewN nq)).mono ?_; rintro e w2 ⟨rfl, hb2⟩; have hb3 := below_drewN (hb2.mono (show w.heap.size + 1 + 1 + 1 ≤ _ by simp; omega)); obtain ⟨hc2, hf2⟩ := bcellN hb3; clear hb2; have hz2 := hb3.size)
    all_goals refine bodyPost_ret (by simp [results, Tryd.results121, go_sem, *]; rfl) rfl ⟨by rw [HD.out]; grind, ?_⟩
    all_goals have hb4 := hbw.trans (hb3.mono (show w.heap.size ≤ _ by omega))
    all_goals (repeat' first | (with_reducible assumption) | (with_reducible exact Below.refl _ _) | (with_reducible refine Below.drew ?_) | (with_reducible refine Below.setCell ?_ ?_ _) | (with_reducible refine Below.alloc ?_ ?_ _) | (refine Below.trans ?_ (Below.mono (by assumption) ?_)) | omega | (simp only [World.size_alloc] at *; omega))
  · have HD : Hid (Cut.before (s1, s2) most (v1, v2) = Cut.dry) := if_neg (by simpa [Cut.some] using hs)
    replace hs : Cut.some (v1, v2) = false := by simpa using hs
    go_enter Tryd.func121, Tryd.ntmps121
    go_wp2_with (go_at_call 55; refine (some_any _ _ _).mono ?_; rintro e w' ⟨rfl, hb⟩; rw [hs]; obtain ⟨hc, hf⟩ := bcell hb; have hz := hb.size; simp at hz)
    refine bodyPost_ret (v := .agg #[.int .i64 1048576, .int .i64 (-1048576)]) (by simp [results, Tryd.results121, go_sem, *]) rfl ⟨by rw [HD.out]; rfl, ?_⟩
    (repeat' first | (with_reducible assumption) | (with_reducible exact Below.refl _ _) | (with_reducible refine Below.drew ?_) | (with_reducible refine Below.setCell ?_ ?_ _) | (with_reducible refine Below.alloc ?_ ?_ _) | (refine Below.trans ?_ (Below.mono (by assumption) ?_)) | omega | (simp only [World.size_alloc] at *; omega))

end Go.Proofs.YtlkhjnpflohfeaaDoor

/- A cut that is looked at, in memory. -/
namespace Go.Proofs.YtlkhjnpflohfeaaDoor
open Go Go.Proofs Go.RowKit

def Elems (w : World) (M : Nat) (ra : Option Addr) (n k : Nat) (f : Nat → Nat → Value) : Prop :=
  n = 0 ∨ ∃ b off, ra = some ⟨b, off, none⟩ ∧ b < w.heap.size ∧ b ≠ M ∧ ∀ i j, i < n → j < k → w.cell? ⟨b, off + i * k + j, none⟩ = some (f i j)
theorem Elems.bel {w w' : World} {M : Nat} {ra : Option Addr} {n k : Nat} {f : Nat → Nat → Value} (h : Elems w M ra n k f) (hb : Bel M w.heap.size w w') : Elems w' M ra n k f := by
  rcases h with h | ⟨b, off, hr, hlt, hM, hc⟩
  · exact .inl h
  · exact .inr ⟨b, off, hr, Nat.lt_of_lt_of_le hlt hb.size, hM, fun i j hi hj => (hb.cell (p := ⟨b, _, none⟩) hlt hM).trans (hc i j hi hj)⟩

def spanCell (l : List (Int × Int)) (i j : Nat) : Value := if j = 0 then .int .i64 (Cut.spanAt l i).1 else .int .i64 (Cut.spanAt l i).2
def boatCell (l : List Boat) (i j : Nat) : Value :=
  if j = 0 then .int .i64 (Cut.boatAt l i).draws.1 else if j = 1 then .int .i64 (Cut.boatAt l i).draws.2 else if j = 2 then .int .i64 (Cut.boatAt l i).per else .int .i64 (Cut.boatAt l i).room
def lookCell (l : List Look) (i j : Nat) : Value :=
  if j = 0 then .int .i64 (Cut.lookAt l i).day else if j = 1 then .int .i64 (Cut.lookAt l i).depth.1 else .int .i64 (Cut.lookAt l i).depth.2
def spanCells : List (Int × Int) → List Value
  | [] => []
  | s :: l => .int .i64 s.1 :: .int .i64 s.2 :: spanCells l

def Kept (w : World) (M : Nat) (x : CutD) : Prop :=
  ∃ es clock, w.heap[M]? = some (.map es clock) ∧ ∀ e ∈ es.toList, ∃ (k : Int) (s : Nat), e.key = .agg #[.int .i64 k, .int .u64 s] ∧ e.val = .agg (spanCells (Cut.season x k s)).toArray

structure CutAt (w : World) (B M : Nat) (x : CutD) (ra ba la : Option Addr) (rc bc lc : Nat) : Prop where
  blk : Blk w B 118 [.int .i64 x.depth.1, .int .i64 x.depth.2, .int .i64 x.leak.1, .int .i64 x.leak.2, .slice ra x.rain.length rc, .int .i64 x.most, .slice ba x.boats.length bc, .slice la x.looks.length lc, .map (some M)]
  rain : Elems w M ra x.rain.length 2 (spanCell x.rain)
  boats : Elems w M ba x.boats.length 4 (boatCell x.boats)
  looks : Elems w M la x.looks.length 3 (lookCell x.looks)
  kept : Kept w M x
  ne : B ≠ M
  dry : Dry w
  nd : 0 ≠ M
section
variable {w w' : World} {B M : Nat} {x : CutD} {ra ba la : Option Addr} {rc bc lc : Nat}
theorem CutAt.bel (h : CutAt w B M x ra ba la rc bc lc) (hb : Bel M w.heap.size w w') (hk : Kept w' M x) : CutAt w' B M x ra ba la rc bc lc :=
  ⟨h.blk.bel hb h.blk.lt h.ne, h.rain.bel hb, h.boats.bel hb, h.looks.bel hb, hk, h.ne, h.dry.bel hb h.nd, h.nd⟩
theorem Kept.lt (h : Kept w M x) : M < w.heap.size := by
  obtain ⟨_, _, h, _⟩ := h; exact (Array.getElem?_eq_some_iff.1 h).1
theorem Kept.below {N : Nat} (h : Kept w M x) (hb : Below N w w') (hN : M < N) : Kept w' M x := by
  obtain ⟨es, c, h1, h2⟩ := h; exact ⟨es, c, (hb.block M hN).trans h1, h2⟩
theorem CutAt.below (h : CutAt w B M x ra ba la rc bc lc) (hb : Below w.heap.size w w') : CutAt w' B M x ra ba la rc bc lc :=
  h.bel (Bel.of_below hb) (h.kept.below hb h.kept.lt)
theorem CutAt.alloc (h : CutAt w B M x ra ba la rc bc lc) (o : Obj) : CutAt (w.alloc o) B M x ra ba la rc bc lc := h.below ((Below.refl _ _).alloc (Nat.le_refl _) _)
theorem CutAt.drew (h : CutAt w B M x ra ba la rc bc lc) : CutAt w.drew B M x ra ba la rc bc lc := h.below (Below.refl _ _).drew
theorem CutAt.far {w0 : World} (h0 : CutAt w0 B M x ra ba la rc bc lc) (hb : Bel M w0.heap.size w0 w) (hk : Kept w M x) : CutAt w B M x ra ba la rc bc lc := h0.bel hb hk
end

end Go.Proofs.YtlkhjnpflohfeaaDoor

/- The map of what is known already: looking up, writing. -/
namespace Go.Proofs.YtlkhjnpflohfeaaDoor
open Go Go.Proofs Go.RowKit

theorem eqIn_int {P : Program} (d : Nat) {t : TypeId} {k : IntKind} (h : P.underlying t = some (.int k)) (a b : Int) (W : World) : (Op.equalIn (d + 1) t (.int k a) (.int k b)).run P W = .ok (a == b) W := by
  simp [Op.equalIn, run_underlying h]
theorem eqIn_two {P : Program} (d : Nat) {t : TypeId} {f0 f1 : Field} {k0 k1 : IntKind} (h : P.underlying t = some (.struct #[f0, f1])) (hst : P.stoodInHeld t = false) (n0 : f0.name ≠ "_") (n1 : f1.name ≠ "_")
    (h0 : P.underlying f0.type = some (.int k0)) (h1 : P.underlying f1.type = some (.int k1)) (a b c e : Int) (xs ys : Array Value) (W : World)
    (p0 : (part f0.type xs f0.offset).run P W = .ok (.int k0 a) W) (p1 : (part f1.type xs f1.offset).run P W = .ok (.int k1 b) W)
    (q0 : (part f0.type ys f0.offset).run P W = .ok (.int k0 c) W) (q1 : (part f1.type ys f1.offset).run P W = .ok (.int k1 e) W) :
    (Op.equalIn (d + 2) t (.agg xs) (.agg ys)).run P W = .ok (a == c && b == e) W := by
  have e0 := eqIn_int (P := P) d h0 a c W
  have e1 := eqIn_int (P := P) d h1 b e W
  unfold Op.equalIn
  simp only [Sem.run_bind, run_underlying h, Result.andThen, Sem.run, program]
  simp [hst, n0, n1, p0, p1, q0, q1, e0, e1]
  by_cases h1 : a = c <;> by_cases h2 : b = e <;> simp [*]
theorem check_int {P : Program} (em : Bool) (d : Nat) {t : TypeId} {k : IntKind} (h : P.underlying t = some (.int k)) (a : Int) (W : World) : (Instr.checkKey em (d + 1) t (.int k a)).run P W = .ok () W := by
  simp [Instr.checkKey, run_underlying h]
theorem check_two {P : Program} (em : Bool) (d : Nat) {t : TypeId} {f0 f1 : Field} {k0 k1 : IntKind} (h : P.underlying t = some (.struct #[f0, f1])) (n0 : f0.name ≠ "_") (n1 : f1.name ≠ "_")
    (h0 : P.underlying f0.type = some (.int k0)) (h1 : P.underlying f1.type = some (.int k1)) (a b : Int) (xs : Array Value) (W : World)
    (p0 : (part f0.type xs f0.offset).run P W = .ok (.int k0 a) W) (p1 : (part f1.type xs f1.offset).run P W = .ok (.int k1 b) W) :
    (Instr.checkKey em (d + 2) t (.agg xs)).run P W = .ok () W := by
  have e0 := check_int (P := P) em d h0 a W
  have e1 := check_int (P := P) em d h1 b W
  unfold Instr.checkKey
  simp only [Sem.run_bind, run_underlying h, Result.andThen]
  simp [n0, n1, p0, p1, e0, e1]

abbrev keyV (k : Int) (s : Nat) : Value := .agg #[.int .i64 k, .int .u64 s]
abbrev seasonV (x : CutD) (k : Int) (s : Nat) : Value := .agg (spanCells (Cut.season x k s)).toArray

theorem key_eq (k k' : Int) (s s' : Nat) (W : World) : (Op.equal 90 (keyV k s) (keyV k' s')).run Tryd.prog W = .ok (k == k' && (s : Int) == (s' : Int)) W :=
  eqIn_two 9998 Tryd.underlying90 (by kernel_rfl) (by decide) (by decide) Tryd.underlying3 Tryd.underlying87 k s k' s' _ _ W (by kernel_rfl) (by kernel_rfl) (by kernel_rfl) (by kernel_rfl)
theorem key_check (em : Bool) (k : Int) (s : Nat) (W : World) : (Instr.checkKey em 10000 90 (keyV k s)).run Tryd.prog W = .ok () W :=
  check_two em 9998 Tryd.underlying90 (by decide) (by decide) Tryd.underlying3 Tryd.underlying87 k s _ W (by kernel_rfl) (by kernel_rfl)

def Entry (x : CutD) (e : MapEntry) : Prop := ∃ (k : Int) (s : Nat), e.key = keyV k s ∧ e.val = seasonV x k s

theorem find_kept (x : CutD) (k : Int) (s : Nat) : ∀ (es : List MapEntry) (i : Nat), (∀ e ∈ es, Entry x e) →
    ∃ r, (∀ W, (Instr.findAsking 90 (keyV k s) es i).run Tryd.prog W = .ok r W) ∧ (r = none ∨ ∃ j, i ≤ j ∧ r = some (j, seasonV x k s) ∧ ∃ e, es[j - i]? = some e ∧ e.key = keyV k s)
  | [], i, _ => ⟨none, fun _ => rfl, .inl rfl⟩
  | e :: es, i, h => by
    obtain ⟨k', s', hk, hv⟩ := h e (by simp)
    unfold Instr.findAsking
    rw [hk]
    simp only [Sem.run_bind, key_eq, Result.andThen]
    by_cases hh : k = k' ∧ s = s'
    · obtain ⟨rfl, rfl⟩ := hh
      refine ⟨some (i, e.val), fun W => by simp, .inr ⟨i, Nat.le_refl _, by rw [hv], e, by simp, hk⟩⟩
    · have hf : (k == k' && (s : Int) == (s' : Int)) = false := by
        cases hb : (k == k' && (s : Int) == (s' : Int)) with
        | false => rfl
        | true => simp at hb; exact absurd ⟨hb.1, by omega⟩ hh
      rw [hf]
      obtain ⟨r, hr, hrr⟩ := find_kept x k s es (i + 1) (fun e he => h e (by simp [he]))
      refine ⟨r, fun W => by simpa using hr W, ?_⟩
      rcases hrr with rfl | ⟨j, hj, rfl, e', he', hk'⟩
      · exact .inl rfl
      · refine .inr ⟨j, by omega, rfl, e', ?_, hk'⟩
        rw [show j - i = (j - (i + 1)) + 1 by omega]; simpa using he'

theorem findKey_kept (x : CutD) (k : Int) (s : Nat) (es : List MapEntry) (h : ∀ e ∈ es, Entry x e) :
    ∃ r, (∀ W, (Instr.findKey 90 (keyV k s) es).run Tryd.prog W = .ok r W) ∧ (r = none ∨ ∃ j, r = some (j, seasonV x k s) ∧ ∃ e, es[j]? = some e ∧ e.key = keyV k s) := by
  cases es with
  | nil =>
    refine ⟨none, fun W => ?_, .inl rfl⟩
    unfold Instr.findKey
    simp [run_underlying Tryd.underlying90, Instr.findNow]
  | cons e es =>
    obtain ⟨r, hr, hrr⟩ := find_kept x k s (e :: es) 0 h
    refine ⟨r, fun W => ?_, ?_⟩
    · unfold Instr.findKey
      simp [Sem.run_bind, run_underlying Tryd.underlying90, Instr.findNow, Instr.sameNow, hr]
    · rcases hrr with rfl | ⟨j, _, rfl, e', he', hk'⟩
      · exact .inl rfl
      · exact .inr ⟨j, rfl, e', by simpa using he', hk'⟩

theorem lookup_kept {w : World} {M : Nat} {x : CutD} (hk : Kept w M x) (k : Int) (s : Nat) :
    ∃ hit : Bool, ∀ W : World, W.heap[M]? = w.heap[M]? →
      (Instr.lookup 116 (.map (some M)) (keyV k s) true).run Tryd.prog W = .ok (.tuple #[if hit then seasonV x k s else .agg (Array.replicate 18 (.int .i64 0)), .bool hit]) W := by
  obtain ⟨es, clock, h1, h2⟩ := hk
  have hE : ∀ e ∈ es.toList, Entry x e := h2
  obtain ⟨r, hr, hrr⟩ := findKey_kept x k s es.toList hE
  have zero : ∀ W : World, (zeroValue 85).run Tryd.prog W = .ok (.agg (Array.replicate 18 (.int .i64 0))) W := fun W => by rw [Tryd.zeroValue85]; rfl
  refine ⟨r.isSome, fun W hW => ?_⟩
  rw [h1] at hW
  unfold Instr.lookup
  rcases hrr with rfl | ⟨j, rfl, _⟩
  · simp [Sem.run_bind, run_underlying Tryd.underlying116, Result.andThen, getObj, Sem.run, hW, key_check, hr, zero]
  · simp [Sem.run_bind, run_underlying Tryd.underlying116, Result.andThen, getObj, Sem.run, hW, key_check, hr]

theorem same_key (k k' : Int) (s s' : Nat) (h : keyV k' s' = keyV k s) : Instr.sameBits 10000 (keyV k' s') (keyV k s) = true := by
  rw [h]; simp [Instr.sameBits]

theorem update_kept {w : World} {M : Nat} {x : CutD} (hk : Kept w M x) (k : Int) (s : Nat) :
    ∃ o, (Instr.mapUpdate 116 (.map (some M)) (keyV k s) (seasonV x k s)).run Tryd.prog w = .ok () (w.putObj M o) ∧ Kept (w.putObj M o) M x := by
  have hlt := hk.lt
  obtain ⟨es, clock, h1, h2⟩ := hk
  have hE : ∀ e ∈ es.toList, Entry x e := h2
  obtain ⟨r, hr, hrr⟩ := findKey_kept x k s es.toList hE
  rcases hrr with rfl | ⟨j, rfl, e, he, hke⟩
  · refine ⟨.map (es.push { key := keyV k s, val := seasonV x k s, born := clock }) (clock + 1), ?_, ?_⟩
    · unfold Instr.mapUpdate
      simp [Sem.run_bind, run_underlying Tryd.underlying116, Result.andThen, getObj, setObj, Sem.run, h1, key_check, hr, World.putObj]
    · refine ⟨_, _, World.putObj_heap_same hlt, ?_⟩
      intro e he
      simp at he
      rcases he with he | rfl
      · exact h2 e (by simpa using he)
      · exact ⟨k, s, rfl, rfl⟩
  · have hes : es[j]? = some e := by simpa using he
    have hsb : Instr.sameBits 10000 (((es[j]?).map (·.key)).getD (keyV k s)) (keyV k s) = true := by rw [hes]; simp only [Option.map_some, Option.getD_some, hke]; exact same_key _ _ _ _ rfl
    refine ⟨.map (es.modify j fun e => { e with key := keyV k s, val := seasonV x k s }) clock, ?_, ?_⟩
    · unfold Instr.mapUpdate
      simp only [Sem.run_bind, run_underlying Tryd.underlying116, Result.andThen, getObj, setObj, Sem.run, h1, key_check, hr, Instr.keyThatStays, hsb]
      simp [World.putObj, h1]
    · refine ⟨_, _, World.putObj_heap_same hlt, ?_⟩
      intro e' he'
      obtain ⟨i, hi, rfl⟩ := Array.mem_iff_getElem.1 (Array.mem_toList_iff.1 he')
      rw [Array.getElem_modify]
      split
      · exact ⟨k, s, rfl, rfl⟩
      · exact h2 _ (by simp)

end Go.Proofs.YtlkhjnpflohfeaaDoor

/- Contracts of look.after, look.before, looked. -/
namespace Go.Proofs.YtlkhjnpflohfeaaDoor
open Go Go.Proofs Go.RowKit
attribute [local go_sem ↓] run_max_i64 run_min_i64

set_option maxHeartbeats 400000 in
theorem lookAfter_any (a b c d : Int) (w : World) (hdr : Dry w) :
    Calls Tryd.prog 123 #[.agg #[.int .i64 a, .int .i64 b], .agg #[.int .i64 c, .int .i64 d]] w fun e w' => e = .returned (.agg #[.int .i64 (Cut.common (c, d) (a, b)).1, .int .i64 (Cut.common (c, d) (a, b)).2]) ∧ Below w.heap.size w w' := by
  have hdr' := hide hdr
  clear hdr
  go_enter Tryd.func123, Tryd.ntmps123
  go_wp2_with (go_at_call 89; refine (common_any _ _ _ _ _ ((((hdr'.out.below ((Below.refl _ _).alloc (Nat.le_refl _) _)).below ((Below.refl _ _).alloc (Nat.le_refl _) _)).below ((Below.refl _ _).alloc (Nat.le_refl _) _)))).mono ?_; rintro e w' ⟨rfl, hb⟩; obtain ⟨hc, hf⟩ := bcell hb; have hz := hb.size; simp at hz)
  refine bodyPost_ret (by simp [results, Tryd.results123, go_sem, *]) rfl ⟨rfl, ?_⟩
  (repeat' first | (with_reducible assumption) | (with_reducible exact Below.refl _ _) | (with_reducible refine Below.drew ?_) | (with_reducible refine Below.setCell ?_ ?_ _) | (with_reducible refine Below.alloc ?_ ?_ _) | (refine Below.trans ?_ (Below.mono (by assumption) ?_)) | omega | (simp only [World.size_alloc] at *; omega))

section
variable {B M : Nat} {x : CutD} {ra ba la : Option Addr} {rc bc lc : Nat}

set_option maxHeartbeats 400000 in
theorem looked_any (v1 v2 d : Int) (set : Nat) (w : World) (h : CutAt w B M x ra ba la rc bc lc) (hv : x.looks.length ≤ 5) (hset : set < 18446744073709551616) :
    Calls Tryd.prog 88 #[.pointer (some ⟨B, 0, none⟩), .agg #[.int .i64 v1, .int .i64 v2], .int .i64 d, .int .u64 set] w fun e w' =>
      e = .returned (.agg #[.int .i64 (Cut.looked x.looks d set (v1, v2)).1, .int .i64 (Cut.looked x.looks d set (v1, v2)).2]) ∧ Below w.heap.size w w' := by
  have c7 := h.blk.cell 7 rfl
  have H := hide h
  rcases h.looks with h0 | ⟨bb, off, rfl, hlt, hM, hc⟩
  · have hw : Cut.looked x.looks d set (v1, v2) = (v1, v2) := by unfold Cut.looked; rw [h0]; rfl
    have hBlt := h.blk.lt
    rw [h0] at c7
    have HW := hide hw
    clear h hw h0
    go_enter Tryd.func88, Tryd.ntmps88
    go_wp2
    refine wp_loop_rounds 1 ?_
    rw [rounds_succ]
    go_wp2
    refine bodyPost_ret (v := .agg #[.int .i64 v1, .int .i64 v2]) (by simp [results, Tryd.results88, go_sem, *]) rfl ⟨by rw [HW.out], ?_⟩
    (repeat' first | (with_reducible assumption) | (with_reducible exact Below.refl _ _) | (with_reducible refine Below.drew ?_) | (with_reducible refine Below.setCell ?_ ?_ _) | (with_reducible refine Below.alloc ?_ ?_ _) | (refine Below.trans ?_ (Below.mono (by assumption) ?_)) | omega | (simp only [World.size_alloc] at *; omega))
  have HC := hide hc
  have hBlt := h.blk.lt
  clear h hc
  go_enter Tryd.func88, Tryd.ntmps88
  go_wp2
  go_loopw [9, 10, 11, 18, 19, 20, 21, 22, 23, 24, 25, 26, 27, 28, 29, 30, 31, 32, 33, 34, 35, 36, 37, 38, 39, 40, 41, 42] (fun _ _ _ i _ _ _ _ _ _ _ _ _ _ _ _ _ _ _ _ _ _ _ _ _ _ _ _ wr => ∃ k : Nat, k ≤ x.looks.length ∧ i = .int .i64 k ∧ Below w.heap.size w wr ∧
      Blk wr w.heap.size 83 [.int .i64 (Cut.lookedTo x.looks d set (v1, v2) k).1, .int .i64 (Cut.lookedTo x.looks d set (v1, v2) k).2] ∧ Blk wr (w.heap.size + 1) 83 [.int .i64 0, .int .i64 0]) (fun _ _ _ i _ _ _ _ _ _ _ _ _ _ _ _ _ _ _ _ _ _ _ _ _ _ _ _ _ => x.looks.length - (intOf i).toNat)
  case atStart =>
    exact ⟨0, by omega, rfl, by (repeat' first | (with_reducible assumption) | (with_reducible exact Below.refl _ _) | (with_reducible refine Below.drew ?_) | (with_reducible refine Below.setCell ?_ ?_ _) | (with_reducible refine Below.alloc ?_ ?_ _) | (refine Below.trans ?_ (Below.mono (by assumption) ?_)) | omega | (simp only [World.size_alloc] at *; omega)), (Blk.new' _ [_, _] _ (by simp)).alloc _, Blk.new' _ [_, _] _ (by simp)⟩
  case round =>
    obtain ⟨k, hk, rfl, hB, b0, b1⟩ := hrel
    have c00 := b0.cell 0 rfl
    have c01 := b0.cell 1 rfl
    have c10 := b1.cell 0 rfl
    have c11 := b1.cell 1 rfl
    have f00 := b0.free 0
    have f01 := b0.free 1
    have f10 := b1.free 0
    have f11 := b1.free 1
    by_cases hkl : k < x.looks.length
    · have k0 := HC.out k 0 hkl (by omega)
      have k1 := HC.out k 1 hkl (by omega)
      have k2 := HC.out k 2 hkl (by omega)
      rw [← hB.cell (p := ⟨bb, _, none⟩) hlt] at k0 k1 k2
      simp [lookCell] at k0 k1 k2
      have hdw := hide ((H.out.below hB).dry)
      have hbit := bit_u64 set k hset
      have hl0 := b0.lt
      have hl1 := b1.lt
      by_cases ht : set.testBit k = true
      · by_cases hd : (Cut.lookAt x.looks k).day = d
        · have HU : Hid (Cut.lookedTo x.looks d set (v1, v2) (k + 1) = Cut.common (Cut.lookedTo x.looks d set (v1, v2) k) (Cut.lookAt x.looks k).depth) := by show Cut.lookedTo _ _ _ _ _ = _; simp [Cut.lookedTo, ht, hd]
          have hd' : ((Cut.lookAt x.looks k).day == d) = true := by simpa using hd
          rw [ht] at hbit
          simp only [if_true] at hbit
          clear hd ht
          go_wp2_with (go_at_call 123; refine (lookAfter_any _ _ _ _ _ (hdw.out.below ((Below.refl _ _).alloc (Nat.le_refl _) _))).mono ?_; rintro e w' ⟨rfl, hb⟩; obtain ⟨hc, hf⟩ := bcell hb; have hz := hb.size; simp at hz)
          have b0' := (b0.alloc (Obj.cells #[.int .i64 (Cut.lookAt x.looks k).day, .int .i64 (Cut.lookAt x.looks k).depth.1, .int .i64 (Cut.lookAt x.looks k).depth.2] 55)).below hb (by simp; omega)
          have b1' := (b1.alloc (Obj.cells #[.int .i64 (Cut.lookAt x.looks k).day, .int .i64 (Cut.lookAt x.looks k).depth.1, .int .i64 (Cut.lookAt x.looks k).depth.2] 55)).below hb (by simp; omega)
          refine ⟨⟨k + 1, by omega, by go_num, by (repeat' first | (with_reducible assumption) | (with_reducible exact Below.refl _ _) | (with_reducible refine Below.drew ?_) | (with_reducible refine Below.setCell ?_ ?_ _) | (with_reducible refine Below.alloc ?_ ?_ _) | (refine Below.trans ?_ (Below.mono (by assumption) ?_)) | omega | (simp only [World.size_alloc] at *; omega)), ?_, by (repeat' first | (with_reducible assumption) | (with_reducible exact Blk.new _ _ _) | (with_reducible refine Blk.drew ?_) | (with_reducible refine Blk.set ?_ _ _) | (with_reducible refine Blk.other ?_ _ _ ?_) | (with_reducible refine Blk.alloc ?_ _) | omega | (simp only [World.size_alloc, World.size_setCell, World.size_drew]; omega))⟩, by simp [intOf]; omega⟩
          rw [HU.out]
          exact ((b0'.set 0 _).set 1 _)
        · have HU : Hid (Cut.lookedTo x.looks d set (v1, v2) (k + 1) = Cut.lookedTo x.looks d set (v1, v2) k) := by show Cut.lookedTo _ _ _ _ _ = _; simp [Cut.lookedTo, hd]
          have hd' : ((Cut.lookAt x.looks k).day == d) = false := by simpa using hd
          rw [ht] at hbit
          simp only [if_true] at hbit
          clear hd ht
          go_wp2
          refine ⟨⟨k + 1, by omega, by go_num, by (repeat' first | (with_reducible assumption) | (with_reducible exact Below.refl _ _) | (with_reducible refine Below.drew ?_) | (with_reducible refine Below.setCell ?_ ?_ _) | (with_reducible refine Below.alloc ?_ ?_ _) | (refine Below.trans ?_ (Below.mono (by assumption) ?_)) | omega | (simp only [World.size_alloc, World.size_setCell, World.size_drew] at *; omega)), ?_, by (repeat' first | (with_reducible assumption) | (with_reducible exact Blk.new _ _ _) | (with_reducible refine Blk.drew ?_) | (with_reducible refine Blk.set ?_ _ _) | (with_reducible refine Blk.other ?_ _ _ ?_) | (with_reducible refine Blk.alloc ?_ _) | omega | (simp only [World.size_alloc, World.size_setCell, World.size_drew]; omega))⟩, by simp [intOf]; omega⟩
          rw [HU.out]; (repeat' first | (with_reducible assumption) | (with_reducible exact Blk.new _ _ _) | (with_reducible refine Blk.drew ?_) | (with_reducible refine Blk.set ?_ _ _) | (with_reducible refine Blk.other ?_ _ _ ?_) | (with_reducible refine Blk.alloc ?_ _) | omega | (simp only [World.size_alloc, World.size_setCell, World.size_drew]; omega))
      · have HU : Hid (Cut.lookedTo x.looks d set (v1, v2) (k + 1) = Cut.lookedTo x.looks d set (v1, v2) k) := by show Cut.lookedTo _ _ _ _ _ = _; simp [Cut.lookedTo, ht]
        replace ht : set.testBit k = false := by simpa using ht
        rw [ht] at hbit
        simp only [Bool.false_eq_true, if_false] at hbit
        clear ht
        go_wp2
        refine ⟨⟨k + 1, by omega, by go_num, by (repeat' first | (with_reducible assumption) | (with_reducible exact Below.refl _ _) | (with_reducible refine Below.drew ?_) | (with_reducible refine Below.setCell ?_ ?_ _) | (with_reducible refine Below.alloc ?_ ?_ _) | (refine Below.trans ?_ (Below.mono (by assumption) ?_)) | omega | (simp only [World.size_alloc, World.size_setCell, World.size_drew] at *; omega)), ?_, by (repeat' first | (with_reducible assumption) | (with_reducible exact Blk.new _ _ _) | (with_reducible refine Blk.drew ?_) | (with_reducible refine Blk.set ?_ _ _) | (with_reducible refine Blk.other ?_ _ _ ?_) | (with_reducible refine Blk.alloc ?_ _) | omega | (simp only [World.size_alloc, World.size_setCell, World.size_drew]; omega))⟩, by simp [intOf]; omega⟩
        rw [HU.out]; (repeat' first | (with_reducible assumption) | (with_reducible exact Blk.new _ _ _) | (with_reducible refine Blk.drew ?_) | (with_reducible refine Blk.set ?_ _ _) | (with_reducible refine Blk.other ?_ _ _ ?_) | (with_reducible refine Blk.alloc ?_ _) | omega | (simp only [World.size_alloc, World.size_setCell, World.size_drew]; omega))
    · obtain rfl : k = x.looks.length := by omega
      go_wp2
      refine bodyPost_ret (v := .agg #[.int .i64 (Cut.lookedTo x.looks d set (v1, v2) x.looks.length).1, .int .i64 (Cut.lookedTo x.looks d set (v1, v2) x.looks.length).2]) (by simp [results, Tryd.results88, go_sem, *]) rfl ⟨rfl, ?_⟩
      (repeat' first | (with_reducible assumption) | (with_reducible exact Below.refl _ _) | (with_reducible refine Below.drew ?_) | (with_reducible refine Below.setCell ?_ ?_ _) | (with_reducible refine Below.alloc ?_ ?_ _) | (refine Below.trans ?_ (Below.mono (by assumption) ?_)) | omega | (simp only at *; omega))
end
end Go.Proofs.YtlkhjnpflohfeaaDoor

/- A region that draws its order and lays one new variable (operation p): the variable's address is not known ahead, for others may lay blocks before it. All operations before the last ones, but p, are quiet in both classes of worlds: those before p, those behind it. -/
namespace Go.Proofs.YtlkhjnpflohfeaaDoor
open Go
section
variable {P : Program} {ops : Array Oper} {md : Region.Mode} {D : Option Nat → World → Prop}

def qOpF (P : Program) (ops : Array Oper) (D : Option Nat → World → Prop) (i : Nat) (K : Act → Prop) (a : Act) : Prop :=
  match ops[i]? with
  | none => K a
  | some o => if Region.wanted o (yielded ops a.tmps) then ∃ v, (∀ d w, D d w → o.quietAt P a (D d) w v) ∧ K (a.put o.dst v) else K (a.put o.dst undef)

def YieldsF (P : Program) (ops : Array Oper) (D : Option Nat → World → Prop) (o : Oper) (v : Value) (a : Act) : Prop :=
  (Region.wanted o (yielded ops a.tmps) = true ∧ ∀ d w, D d w → o.quietAt P a (D d) w v) ∨ (Region.wanted o (yielded ops a.tmps) = false ∧ v = undef)

theorem YieldsF.qOpF {i : Nat} {o : Oper} {v : Value} {a : Act} (hi : ops[i]? = some o) (hy : YieldsF P ops D o v a) {K : Act → Prop} (h : K (a.put o.dst v)) : qOpF P ops D i K a := by
  unfold YtlkhjnpflohfeaaDoor.qOpF
  simp only [hi]
  rcases hy with ⟨hw, hv⟩ | ⟨hw, rfl⟩
  · simp only [hw, if_true]; exact ⟨v, hv, h⟩
  · simp only [hw, Bool.false_eq_true, if_false]; exact h
theorem yieldsF_of {i : Nat} {o : Oper} {a : Act} {K : Act → Prop} (hi : ops[i]? = some o) (h : qOpF P ops D i K a) : ∃ v, YieldsF P ops D o v a ∧ K (a.put o.dst v) := by
  unfold qOpF at h
  simp only [hi] at h
  by_cases hw : Region.wanted o (yielded ops a.tmps) = true
  · simp only [hw, if_true] at h
    obtain ⟨v, h1, h2⟩ := h
    exact ⟨v, .inl ⟨hw, h1⟩, h2⟩
  · simp only [hw] at h
    exact ⟨undef, .inr ⟨by simpa using hw, rfl⟩, h⟩
theorem qOpF_mono {i : Nat} {a : Act} {K K' : Act → Prop} (h : ∀ a, K a → K' a) (hh : qOpF P ops D i K a) : qOpF P ops D i K' a := by
  unfold qOpF at *
  split
  · exact h _ (by simpa [*] using hh)
  · rename_i o ho
    simp only [ho] at hh
    split
    · rename_i hw; simp only [hw, if_true] at hh; obtain ⟨v, h1, h2⟩ := hh; exact ⟨v, h1, h _ h2⟩
    · rename_i hw; simp only [hw] at hh; exact h _ hh
theorem YieldsF.of_same {o : Oper} {v : Value} {a a' : Act} (hy : YieldsF P ops D o v a) (he : execOp a'.eval o = execOp a.eval o)
    (hw : Region.wanted o (yielded ops a'.tmps) = Region.wanted o (yielded ops a.tmps)) : YieldsF P ops D o v a' := by
  unfold YieldsF Oper.quietAt at *
  rw [he, hw]
  exact hy
theorem qOpF_put {j : Nat} {oi oj : Oper} {v : Value} (hj : ops[j]? = some oj) (hap : oi.apart ops oj = true)
    (hsi : ∀ cs b, oi.op ≠ .select cs b) (hsj : ∀ cs b, oj.op ≠ .select cs b) {K : Act → Prop} {a : Act}
    (hy : YieldsF P ops D oi v a) (h : qOpF P ops D j K (a.put oi.dst v)) :
    qOpF P ops D j (fun a' => YieldsF P ops D oi v a' ∧ K (a'.put oi.dst v)) a := by
  obtain ⟨h1, h2, h3⟩ := Oper.apart_spec hap
  have keep : ∀ (a : Act), YieldsF P ops D oi v a → ∀ u, YieldsF P ops D oi v (a.put oj.dst u) := fun a hy u =>
    hy.of_same (execOp_put oi hsi a oj.dst u h3) (wanted_put oi a oj.dst u h3)
  obtain ⟨u, hu, hK⟩ := yieldsF_of hj h
  refine YieldsF.qOpF hj (v := u) (hu.of_same (execOp_put oj hsj a oi.dst v h1).symm (wanted_put oj a oi.dst v h1).symm) ⟨keep a hy u, ?_⟩
  rw [← Act.put_comm a v u h2]; exact hK

def anyF (P : Program) (md : Region.Mode) (ops : Array Oper) (D : Option Nat → World → Prop) (p n : Nat) (L : Array Bool → Act → Prop) : Nat → Array Bool → Act → Prop
  | 0, listed, a => L listed a
  | f + 1, listed, a =>
    Region.ready md ops listed ≠ [] ∧ ∀ i ∈ Region.ready md ops listed, i < n ∧
      if i = p then anyF P md ops D p n L f (listed.setIfInBounds i true) a else qOpF P ops D i (anyF P md ops D p n L f (listed.setIfInBounds i true)) a

structure Lays (P : Program) (ops : Array Oper) (D : Option Nat → World → Prop) (p n : Nat) (op : Oper) (V : Nat → Value) : Prop where
  at' : ops[p]? = some op
  guard : op.guard = none
  apart : ∀ j oj, ops[j]? = some oj → j < n → j ≠ p → op.apart ops oj = true
  run : ∀ a w, D none w → ∃ b w', (execOp (Act.eval a) op).run P w = .ok (.value (V b)) w' ∧ D (some b) w'

def fr (op : Oper) (V : Nat → Value) (d : Option Nat) (a : Act) : Act := match d with | none => a | some b => a.put op.dst (V b)

theorem wpAny_of_anyF {p n g : Nat} {op : Oper} {V : Nat → Value} {L : Array Bool → Act → Prop} {Q' : Exit → Act → World → Prop} (hp : Lays P ops D p n op V) (hps : p < ops.size)
    (hsel : ∀ (j : Nat) (o : Oper) cs b, ops[j]? = some o → o.op ≠ .select cs b)
    (hL : ∀ listed a d w, D d w → d.isSome = listed.getD p false → L listed a → wpAny P md ops Q' g listed (fr op V d a) w) :
    ∀ (f : Nat) (listed : Array Bool) (a : Act) (d : Option Nat) (w : World), listed.size = ops.size → D d w → d.isSome = listed.getD p false → anyF P md ops D p n L f listed a → wpAny P md ops Q' (f + g) listed (fr op V d a) w
  | 0, listed, a, d, w, _, hw, hd, h => by rw [Nat.zero_add]; exact hL _ _ _ _ hw hd h
  | f + 1, listed, a, d, w, hs, hw, hd, h => by
    rw [show f + 1 + g = (f + g) + 1 by omega]
    refine ⟨fun h0 => absurd h0 h.1, fun i hi => ?_⟩
    obtain ⟨hin, h2⟩ := h.2 i hi
    by_cases hip : i = p
    · subst hip
      rw [if_pos rfl] at h2
      have hun := (mem_ready.1 hi).1
      rw [getD_both hun] at hd
      cases d with
      | some b => simp at hd
      | none =>
        obtain ⟨b, w', hr, hD⟩ := hp.run (fr op V none a) w hw
        unfold wpOp
        simp only [hp.at']
        have hwt : Region.wanted op (yielded ops (fr op V none a).tmps) = true := by simp [Region.wanted, hp.guard]
        simp only [hwt, if_true]
        refine .inl ?_
        unfold Oper.wp
        rw [hr]
        refine wpAny_of_anyF hp hps hsel hL f _ a (some b) w' (by simp [hs]) hD ?_ h2
        rw [Array.getD_eq_getD_getElem?, Array.getElem?_setIfInBounds_self_of_lt (by omega)]; rfl
    · rw [if_neg hip] at h2
      have hd' : d.isSome = (listed.setIfInBounds i true).getD p false := by rw [getD_set_ne false hip]; exact hd
      obtain ⟨hun, oi, hoi, hall⟩ := mem_ready.1 hi
      obtain ⟨v, hy, hK⟩ := yieldsF_of hoi h2
      have hap := hp.apart i oi hoi hin hip
      obtain ⟨h1, h2', h3⟩ := Oper.apart_spec hap
      have he : ∀ u, execOp (a.put op.dst u).eval oi = execOp a.eval oi := fun u => execOp_put oi (fun cs b => hsel i oi cs b hoi) a op.dst u h1
      have hwt : ∀ u, Region.wanted oi (yielded ops (a.put op.dst u).tmps) = Region.wanted oi (yielded ops a.tmps) := fun u => wanted_put oi a op.dst u h1
      have he' : execOp (fr op V d a).eval oi = execOp a.eval oi := by cases d with | none => rfl | some b => exact he _
      have hwt' : Region.wanted oi (yielded ops (fr op V d a).tmps) = Region.wanted oi (yielded ops a.tmps) := by cases d with | none => rfl | some b => exact hwt _
      have hfr : ∀ u, (fr op V d a).put oi.dst u = fr op V d (a.put oi.dst u) := fun u => by cases d with | none => rfl | some b => exact Act.put_comm a (V b) u h2'
      unfold wpOp
      simp only [hoi]
      rcases hy with ⟨hw1, hq⟩ | ⟨hw1, rfl⟩
      · simp only [hwt', hw1, if_true]
        refine .inl ?_
        have hq' := hq d w hw
        unfold Oper.quietAt at hq'
        unfold Oper.wp
        rw [he']
        generalize (execOp a.eval oi).run P w = r at *
        cases r with
        | ok nx w' =>
          cases nx <;> simp only [Oper.quietUpon] at hq' <;> simp only [Oper.upon]
          case value u =>
            obtain ⟨e1, e2⟩ := hq'
            rw [e1, e2, hfr]
            exact wpAny_of_anyF hp hps hsel hL f _ _ d w (by simp [hs]) hw hd' hK
          case skip =>
            obtain ⟨e1, e2⟩ := hq'
            rw [e1, ← e2, hfr]
            exact wpAny_of_anyF hp hps hsel hL f _ _ d w (by simp [hs]) hw hd' hK
          case enter g' args =>
            obtain ⟨e1, hc⟩ := hq'
            rw [e1]
            exact hc.mono fun e w'' ⟨he, hw''⟩ => by
              subst he
              show wpAny P md ops Q' (f + g) _ ((fr op V d a).put oi.dst v) w''
              rw [hfr]
              exact wpAny_of_anyF hp hps hsel hL f _ _ d w'' (by simp [hs]) hw'' hd' hK
        | halt x w' => simp only [Oper.quietUpon] at hq'
      · simp only [hwt', hw1, Bool.false_eq_true, if_false]
        rw [hfr]
        exact wpAny_of_anyF hp hps hsel hL f _ _ d w (by simp [hs]) hw hd' hK

theorem anyF_first {p n i : Nat} {oi : Oper} {v : Value} {L : Array Bool → Act → Prop} (hi : ops[i]? = some oi) (hsel : ∀ (j : Nat) (o : Oper) cs b, ops[j]? = some o → o.op ≠ .select cs b)
    (hs : Region.sinkB md ops n = true) (hc : Region.chainB md ops n = true) (hn : n < ops.size) (hin : i < n) (hip : i ≠ p)
    (hdone : ∀ listed a, L listed a → ∀ j ∈ Region.ready md ops listed, n ≤ j) :
    ∀ (f : Nat) (listed : Array Bool) (a : Act), HeadInv md ops n listed →
      (∀ j oj, ops[j]? = some oj → j ≠ i → listed.getD j true = false → (∀ e ∈ oj.after, Region.binds md e = true → e.on ≠ i) → oi.apart ops oj = true) →
      i ∈ Region.ready md ops listed → YieldsF P ops D oi v a →
      anyF P md ops D p n L f (listed.setIfInBounds i true) (a.put oi.dst v) → anyF P md ops D p n L (f + 1) listed a := by
  intro f
  induction f with
  | zero =>
    intro listed a inv _ hr hy H
    have hun := (mem_ready.1 hr).1
    refine ⟨fun h => (by rw [h] at hr; cases hr), fun j hj => ?_⟩
    have hjn : j < n := (Nat.lt_or_ge j n).elim id fun h => absurd hj (tail_waits hs hc hn inv _ i rfl hin hun j h)
    refine ⟨hjn, ?_⟩
    by_cases hji : j = i
    · subst hji; rw [if_neg hip]; exact hy.qOpF hi H
    · have := hdone _ _ H j (ready_mono hj hji)
      omega
  | succ f ih =>
    intro listed a inv hfree hr hy H
    have hun := (mem_ready.1 hr).1
    refine ⟨fun h => (by rw [h] at hr; cases hr), fun j hj => ?_⟩
    have hjn : j < n := (Nat.lt_or_ge j n).elim id fun h => absurd hj (tail_waits hs hc hn inv _ i rfl hin hun j h)
    refine ⟨hjn, ?_⟩
    by_cases hji : j = i
    · subst hji; rw [if_neg hip]; exact hy.qOpF hi H
    · have h1 := (H.2 j (ready_mono hj hji)).2
      obtain ⟨hjun, oj, hoj, hall⟩ := mem_ready.1 hj
      have hnot : ∀ e ∈ oj.after, Region.binds md e = true → e.on ≠ i := fun e he hb heq => by
        have h1 := hall e he hb
        rw [heq, getD_both hun] at h1
        cases h1
      have hfree' : ∀ k ok, ops[k]? = some ok → k ≠ i → (listed.setIfInBounds j true).getD k true = false →
          (∀ e ∈ ok.after, Region.binds md e = true → e.on ≠ i) → oi.apart ops ok = true := fun k ok hk hki hun hno => by
        refine hfree k ok hk hki ?_ hno
        by_cases hjk : j = k
        · subst hjk; exact hjun
        · rw [getD_set_ne true hjk] at hun; exact hun
      by_cases hjp : j = p
      · rw [if_pos hjp] at h1 ⊢
        refine ih (listed.setIfInBounds j true) a (inv.set hj hjn) hfree' (ready_mono hr (Ne.symm hji)) hy ?_
        rw [Array.setIfInBounds_comm _ _ hji]
        exact h1
      · rw [if_neg hjp] at h1 ⊢
        have h2 := qOpF_put hoj (hfree j oj hoj hji hjun hnot) (fun cs b => hsel i oi cs b hi) (fun cs b => hsel j oj cs b hoj) hy h1
        refine qOpF_mono (fun a' h3 => ih (listed.setIfInBounds j true) a' (inv.set hj hjn) hfree' (ready_mono hr (Ne.symm hji)) h3.1 ?_) h2
        rw [Array.setIfInBounds_comm _ _ hji]
        exact h3.2

theorem anyF_lay {p n : Nat} {L : Array Bool → Act → Prop}
    (hs : Region.sinkB md ops n = true) (hc : Region.chainB md ops n = true) (hn : n < ops.size) (hin : p < n)
    (hdone : ∀ listed a, L listed a → ∀ j ∈ Region.ready md ops listed, n ≤ j) :
    ∀ (f : Nat) (listed : Array Bool) (a : Act), HeadInv md ops n listed →
      p ∈ Region.ready md ops listed →
      anyF P md ops D p n L f (listed.setIfInBounds p true) a → anyF P md ops D p n L (f + 1) listed a := by
  intro f
  induction f with
  | zero =>
    intro listed a inv hr H
    have hun := (mem_ready.1 hr).1
    refine ⟨fun h => (by rw [h] at hr; cases hr), fun j hj => ?_⟩
    have hjn : j < n := (Nat.lt_or_ge j n).elim id fun h => absurd hj (tail_waits hs hc hn inv _ p rfl hin hun j h)
    refine ⟨hjn, ?_⟩
    by_cases hji : j = p
    · subst hji; rw [if_pos rfl]; exact H
    · have := hdone _ _ H j (ready_mono hj hji)
      omega
  | succ f ih =>
    intro listed a inv hr H
    have hun := (mem_ready.1 hr).1
    refine ⟨fun h => (by rw [h] at hr; cases hr), fun j hj => ?_⟩
    have hjn : j < n := (Nat.lt_or_ge j n).elim id fun h => absurd hj (tail_waits hs hc hn inv _ p rfl hin hun j h)
    refine ⟨hjn, ?_⟩
    by_cases hji : j = p
    · subst hji; rw [if_pos rfl]; exact H
    · have h1 := (H.2 j (ready_mono hj hji)).2
      rw [if_neg hji] at h1 ⊢
      refine qOpF_mono (fun a' h3 => ih (listed.setIfInBounds j true) a' (inv.set hj hjn) (ready_mono hr (Ne.symm hji)) ?_) h1
      rw [Array.setIfInBounds_comm _ _ hji]
      exact h3

def wpQuietF (P : Program) (ops : Array Oper) (D : Option Nat → World → Prop) (Q : Act → Prop) : Nat → List Oper → Act → Prop
  | _, [], a => Q a
  | 0, _ :: rest, a => wpQuietF P ops D Q (rest.length + 1) rest a
  | k + 1, o :: rest, a => if Region.wanted o (yielded ops a.tmps) then ∃ v, (∀ d w, D d w → o.quietAt P a (D d) w v) ∧ wpQuietF P ops D Q k rest (a.put o.dst v) else wpQuietF P ops D Q k rest (a.put o.dst undef)

theorem anyF_lex {p n g : Nat} {Lq : Act → Prop} (hsel : Region.noSelect ops = true) (hs : Region.sinkB md ops n = true) (hc : Region.chainB md ops n = true) (hn : n < ops.size) (hpn : p < n) :
    ∀ (l : List Oper) (k q : Nat) (listed : Array Bool) (a : Act), (∀ j, j < l.length → l[j]? = ops[k + j]?) → k + l.length = n → (k ≤ p → q = p - k) → (p < k → l.length ≤ q) → (p < k → listed.getD p false = true) → HeadInv md ops n listed →
    Region.lexHead md ops g l.length k listed = true → wpQuietF P ops D Lq q l a →
    anyF P md ops D p n (fun listed' a' => Region.seqB md ops g n listed' = true ∧ listed'.getD p false = true ∧ Lq a') l.length listed a
  | [], k, q, listed, a, _, hk, _, _, hpl, _, hB, h => by
    have : k = n := by simpa using hk
    subst this
    exact ⟨by simpa [Region.lexHead] using hB, hpl hpn, by unfold wpQuietF at h; exact h⟩
  | o :: l, k, q, listed, a, hl, hk, hq1, hq2, hpl, inv, hB, h => by
    have h0 : ops[k]? = some o := by simpa using (hl 0 (by simp)).symm
    simp only [List.length_cons, Region.lexHead, Bool.and_eq_true] at hB
    obtain ⟨⟨hr, hf⟩, hB'⟩ := hB
    have hkn : k < n := by simp only [List.length_cons] at hk; omega
    have hr' : k ∈ Region.ready md ops listed := by simpa using hr
    have hlen : k + 1 + l.length = n := by simp only [List.length_cons] at hk; omega
    have hl' : ∀ j, j < l.length → l[j]? = ops[k + 1 + j]? := fun j hj => by have := hl (j + 1) (by simp; omega); simpa [Nat.add_assoc, Nat.add_comm 1 j] using this
    by_cases hkp : k = p
    · subst hkp
      have hq : q = 0 := by have := hq1 (Nat.le_refl _); omega
      subst hq
      unfold wpQuietF at h
      exact anyF_lay hs hc hn hpn (fun listed' a' hL => seqB_ready hL.1) l.length listed a inv hr'
        (anyF_lex hsel hs hc hn hpn l (k + 1) (l.length + 1) _ _ hl' hlen (by omega) (by omega) (fun _ => by rw [Array.getD_eq_getD_getElem?, Array.getElem?_setIfInBounds_self_of_lt (by rw [inv.size]; omega)]; rfl) (inv.set hr' hkn) hB' h)
    · obtain ⟨q', rfl⟩ : ∃ q', q = q' + 1 := by
        rcases Nat.lt_or_ge p k with h1 | h1
        · have := hq2 h1; simp only [List.length_cons] at this; exact ⟨q - 1, by omega⟩
        · have := hq1 h1; exact ⟨q - 1, by omega⟩
      have hst : qOpF P ops D k (wpQuietF P ops D Lq q' l) a := by unfold qOpF; simp only [h0]; unfold wpQuietF at h; exact h
      obtain ⟨v, hy, hK⟩ := yieldsF_of h0 hst
      exact anyF_first h0 (Region.noSelect_spec hsel) hs hc hn hkn hkp (fun listed' a' hL => seqB_ready hL.1) l.length listed a inv (Region.free_spec h0 hf) hr' hy
        (anyF_lex hsel hs hc hn hpn l (k + 1) q' _ _ hl' hlen (fun h1 => by have := hq1 (by omega); omega) (fun h1 => by
          rcases Nat.lt_or_ge p k with h2 | h2
          · have := hq2 h2; simp only [List.length_cons] at this; omega
          · omega) (fun h1 => getD_set_true (hpl (by omega))) (inv.set hr' hkn) hB' hK)

theorem any_float {Q : Exit → Act → World → Prop} {a : Act} {w : World} {l : List Oper} {op : Oper} {V : Nat → Value} (p n : Nat) (hB : Region.lexTailB .any l.toArray n = true) (hpn : p < n)
    (hp : Lays P l.toArray D p n op V) (hw : D none w.drew)
    (h : wpQuietF P l.toArray D (fun a' => ∀ b w', D (some b) w' → wpList P l.toArray Q (l.drop n) (a'.put op.dst (V b)) w') p (l.take n) a) : wpAny P .any l.toArray Q l.toArray.size (Array.replicate l.toArray.size false) a w.drew := by
  simp only [Region.lexTailB, Bool.and_eq_true, decide_eq_true_eq] at hB
  obtain ⟨⟨⟨⟨hsel, hn⟩, hs⟩, hc⟩, hlex⟩ := hB
  have hn' : n < l.length := by simpa using hn
  have htl : (l.take n).length = n := by simp; omega
  have hdl : (l.drop n).length = l.toArray.size - n := by simp
  have inv0 : HeadInv .any l.toArray n (Array.replicate l.toArray.size false) :=
    ⟨by simp, fun j oj _ hl => (by rw [getD_replicate_false] at hl; cases hl), fun t _ ht => getD_in (by simpa using ht) (getD_replicate_false _ _)⟩
  have H := anyF_lex (md := .any) (D := D) (g := l.toArray.size - n) hsel hs hc hn hpn (l.take n) 0 p _ a (fun j hj => by
    have hj' : j < n := by rw [htl] at hj; exact hj
    simp [hj']) (by simpa using htl) (fun _ => rfl) (by omega) (by omega) inv0 (by rw [htl]; exact hlex) h
  have := wpAny_of_anyF (Q' := Q) (g := l.toArray.size - n) hp (by omega) (Region.noSelect_spec hsel) (fun listed a' d w' hw' hd hL => by
    rw [hL.2.1] at hd
    cases d with
    | none => simp at hd
    | some b =>
      have := wpAny_of_seq (md := .any) (Q' := Q) (l.drop n) n listed (a'.put op.dst (V b)) w' (fun j => by simp [List.getElem?_drop]) (by rw [hdl]; exact hL.1) (hL.2.2 b w' hw')
      rwa [hdl] at this) _ _ a none w.drew (by simp) hw (by rw [getD_replicate_false]; rfl) H
  rw [htl, show n + (l.toArray.size - n) = l.toArray.size by omega] at this
  exact this

structure Fl (p0 : World → Prop) (p1 : Nat → World → Prop) where
  W : World
  b : Option Nat
  ok : match b with | none => p0 W | some b => p1 b W
def FlD (p0 : World → Prop) (p1 : Nat → World → Prop) (d : Option Nat) (w : World) : Prop := ∃ s : Fl p0 p1, s.b = d ∧ w = s.W

theorem quietF_val {p0 : World → Prop} {p1 : Nat → World → Prop} {Q : Act → Prop} {k : Nat} {o : Oper} {rest : List Oper} {a : Act} {v : Value}
    (h : ∀ s : Fl p0 p1, (execOp a.eval o).run P s.W = .ok (.value v) s.W) (hg : Region.wanted o (yielded ops a.tmps) = true) (hq : wpQuietF P ops (FlD p0 p1) Q k rest (a.put o.dst v)) : wpQuietF P ops (FlD p0 p1) Q (k + 1) (o :: rest) a := by
  unfold wpQuietF
  rw [if_pos hg]
  refine ⟨v, ?_, hq⟩
  rintro d w ⟨s, rfl, rfl⟩
  unfold Oper.quietAt
  rw [h s]
  exact ⟨rfl, rfl⟩
theorem quietF_call {p0 : World → Prop} {p1 : Nat → World → Prop} {Q : Act → Prop} {k : Nat} {o : Oper} {rest : List Oper} {a : Act} {v : Value} {f : FuncId} {args : Array Value}
    (h : ∀ s : Fl p0 p1, (execOp a.eval o).run P s.W = .ok (.enter f args) s.W) (hc : ∀ s : Fl p0 p1, Calls P f args s.W fun e w' => e = .returned v ∧ ∃ s' : Fl p0 p1, s'.b = s.b ∧ w' = s'.W) (hg : Region.wanted o (yielded ops a.tmps) = true)
    (hq : wpQuietF P ops (FlD p0 p1) Q k rest (a.put o.dst v)) : wpQuietF P ops (FlD p0 p1) Q (k + 1) (o :: rest) a := by
  unfold wpQuietF
  rw [if_pos hg]
  refine ⟨v, ?_, hq⟩
  rintro d w ⟨s, rfl, rfl⟩
  unfold Oper.quietAt
  rw [h s]
  exact ⟨rfl, hc s⟩
def apartB (ops : Array Oper) (p n : Nat) (op : Oper) : Bool := (List.range n).all fun j => j == p || match ops[j]? with | some oj => op.apart ops oj | none => true
theorem Lays.mk' {p n : Nat} {op : Oper} {V : Nat → Value} (h : ops[p]? = some op) (hg : op.guard = none) (hB : apartB ops p n op = true)
    (hr : ∀ a w, D none w → ∃ b w', (execOp (Act.eval a) op).run P w = .ok (.value (V b)) w' ∧ D (some b) w') : Lays P ops D p n op V :=
  ⟨h, hg, fun j oj hj hjn hjp => by
    have := List.all_eq_true.1 hB j (List.mem_range.2 hjn)
    simpa [hjp, hj] using this, hr⟩
theorem Lays.alloc {p0 : World → Prop} {p1 : Nat → World → Prop} {p n : Nat} {op : Oper} {o : Obj} (h : ops[p]? = some op) (hg : op.guard = none) (hB : apartB ops p n op = true)
    (hr : ∀ a w, (execOp (Act.eval a) op).run P w = .ok (.value (.pointer (some ⟨w.heap.size, 0, none⟩))) (w.alloc o)) (hp : ∀ w, p0 w → p1 w.heap.size (w.alloc o)) :
    Lays P ops (FlD p0 p1) p n op (fun b => .pointer (some ⟨b, 0, none⟩)) :=
  Lays.mk' h hg hB fun a w hw => by
    obtain ⟨s, hb, rfl⟩ := hw
    have ok := s.ok
    rw [hb] at ok
    exact ⟨_, _, hr a s.W, ⟨⟨_, some _, hp s.W ok⟩, rfl, rfl⟩⟩
theorem quietF_nil {Q : Act → Prop} {k : Nat} {a : Act} (h : Q a) : wpQuietF P ops D Q k [] a := by cases k <;> exact h
theorem quietF_pass {Q : Act → Prop} {o : Oper} {rest : List Oper} {a : Act} (h : wpQuietF P ops D Q (rest.length + 1) rest a) : wpQuietF P ops D Q 0 (o :: rest) a := h
end
end Go.Proofs.YtlkhjnpflohfeaaDoor
