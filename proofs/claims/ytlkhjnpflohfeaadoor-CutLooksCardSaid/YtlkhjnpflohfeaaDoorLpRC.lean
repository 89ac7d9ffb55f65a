/- Contract of Leak. -/
import Derived.Test.YtlkhjnpflohfeaaDoorLpRB
import Derived.Laws.AppendOwn
import Derived.OwnWalkIn
import Derived.Deep.QuietTactic
import Derived.Orders
import Derived.Defers
import Derived.Recover
import Derived.RecoverIn
import Derived.RangeFuncLeaves
import Derived.Test.YtlkhjnpflohfeaaDoorLpRA
import Derived.Test.YtlkhjnpflohfeaaDoorLpPD
/- A slice of spans of the call's own, that grows. -/
namespace Go.Proofs.YtlkhjnpflohfeaaDoor
open Go Go.Proofs Go.RowKit

theorem zfi : ∀ (l : List (Int × Int)) (s : Int × Int), spanCells (l ++ [s]) = spanCells l ++ [.int .i64 s.1, .int .i64 s.2]
  | [], _ => rfl
  | _ :: l, s => by simp [spanCells, zfi l s]
theorem zga : ∀ (l : List (Int × Int)) (i j : Nat), i < l.length → j < 2 → (spanCells l)[i * 2 + j]? = some (spanCell l i j)
  | [], i, j, hi, _ => by simp at hi
  | s :: l, 0, j, _, hj => by
    have : j = 0 ∨ j = 1 := by omega
    rcases this with rfl | rfl <;> simp [spanCells, spanCell, Cut.spanAt]
  | s :: l, i + 1, j, hi, hj => by
    have h1 := zga l i j (by simpa using hi) hj
    rw [show (i + 1) * 2 + j = (i * 2 + j) + 2 by omega]
    simp only [spanCells, List.getElem?_cons_succ]
    rw [h1]; simp [spanCell, Cut.spanAt]

def OwnsS (W : World) (base : Nat) (v : Value) (l : List (Int × Int)) : Prop := W.ownsRow base 23 2 v l.length (spanCells l)
section
variable {W W' : World} {base : Nat} {v : Value} {l : List (Int × Int)}
theorem OwnsS.nil (W : World) (base : Nat) : OwnsS W base (.slice none 0 0) [] := ⟨rfl, .inl ⟨rfl, rfl⟩⟩
theorem OwnsS.keep (h : OwnsS W base v l) (hb : ∀ g cs, base ≤ g → W.heap[g]? = some (.cells cs 23 (0, 0)) → W'.heap[g]? = W.heap[g]?) : OwnsS W' base v l := by
  obtain ⟨h1, h2⟩ := h
  refine ⟨h1, ?_⟩
  rcases h2 with h2 | ⟨g, cap, cur, a1, a2, a3, a4⟩
  · exact .inl h2
  · exact .inr ⟨g, cap, cur, a1, a2, (hb g cur a2 a3).trans a3, a4⟩
theorem OwnsS.bel {M : Nat} (h : OwnsS W base v l) (hb : Bel M W.heap.size W W') (hM : M < base) : OwnsS W' base v l :=
  h.keep fun g cs hg hc => hb.block g (Array.getElem?_eq_some_iff.1 hc).1 (by omega)
theorem OwnsS.below (h : OwnsS W base v l) (hb : Below W.heap.size W W') : OwnsS W' base v l :=
  h.keep fun g _cs _hg hc => hb.block g (Array.getElem?_eq_some_iff.1 hc).1
theorem OwnsS.set (h : OwnsS W base v l) {b o : Nat} (u : Value) (hb : b < base) : OwnsS (W.setCell ⟨b, o, none⟩ u) base v l :=
  h.keep fun g cs hg hc => Below.heap_setCell _ ⟨b, o, none⟩ _ g (by show g ≠ b; omega)
theorem OwnsS.alloc (h : OwnsS W base v l) (o : Obj) : OwnsS (W.alloc o) base v l := h.below ((Below.refl _ _).alloc (Nat.le_refl _) _)
theorem OwnsS.grown {row : Option Nat} (h : OwnsS W base v l) (hg : W.grownBy W' row) (hr : ∀ r, row = some r → ∃ o : Obj, W.heap[r]? = some o ∧ o.isCells = false) : OwnsS W' base v l :=
  h.keep fun g cs _ hc => hg.block g (Array.getElem?_eq_some_iff.1 hc).1 (fun e => by
    obtain ⟨o, ho, hn⟩ := hr g e.symm
    rw [hc] at ho; cases ho; simp [Obj.isCells] at hn)
theorem OwnsS.row (h : OwnsS W base v l) (hl : 0 < l.length) : ∃ g cap, v = .slice (some ⟨g, 0, none⟩) l.length cap ∧ base ≤ g ∧ l.length ≤ cap ∧ cap ≤ 9223372036854775807 ∧ g < W.heap.size ∧ ∀ i j, i < l.length → j < 2 → W.cell? ⟨g, 0 + i * 2 + j, none⟩ = some (spanCell l i j) := by
  obtain ⟨h1, h2⟩ := h
  rcases h2 with ⟨_, h2⟩ | ⟨g, cap, cur, a1, a2, a3, a4, a5, a6, a7⟩
  · omega
  · refine ⟨g, cap, a1, a2, a4, by unfold maxLen at a5; omega, (Array.getElem?_eq_some_iff.1 a3).1, fun i j hi hj => ?_⟩
    have h3 := zga l i j hi hj
    rw [← a7, List.getElem?_take] at h3
    split at h3
    · unfold World.cell?; rw [show W.heap[(⟨g, 0 + i * 2 + j, none⟩ : Addr).block]? = _ from a3]; simpa using h3
    · cases h3
theorem zgh {e : TypeId} {k n : Nat} {xs : List Value} (h : W.ownsRow base e k v n xs) : ∃ a m c, v = .slice a m c := by
  obtain ⟨h1, h2⟩ := h
  rcases h2 with ⟨rfl, _⟩ | ⟨g, cap, cur, rfl, a2, a3, a4⟩
  · exact ⟨_, _, _, rfl⟩
  · exact ⟨_, _, _, rfl⟩
theorem OwnsS.snoc {s : Int × Int} (h : W.ownsRow base 23 2 v (l.length + 1) (spanCells l ++ [.int .i64 s.1, .int .i64 s.2])) : OwnsS W base v (l ++ [s]) := by
  unfold OwnsS
  rw [zfi, List.length_append]; exact h
theorem OwnsS.cells (h : OwnsS W base v l) {j : Nat} {o : Obj} (hj : v.ownBlock = some j) (ho : W.heap[j]? = some o) : o.isCells = true := by
  obtain ⟨h1, h2⟩ := h
  rcases h2 with ⟨rfl, _⟩ | ⟨g, cap, cur, rfl, a2, a3, a4⟩
  · cases hj
  · simp only [Value.ownBlock, Option.some.injEq] at hj
    subst hj
    rw [a3] at ho; cases ho; rfl
theorem OwnsS.from (h : OwnsS W base v l) {j : Nat} (hj : v.ownBlock = some j) : base ≤ j := by
  obtain ⟨h1, h2⟩ := h
  rcases h2 with ⟨rfl, _⟩ | ⟨g, cap, cur, rfl, a2, a3, a4⟩
  · cases hj
  · simp only [Value.ownBlock, Option.some.injEq] at hj
    omega
end

structure WI (w5 : World) (B L H M : Nat) (x : CutD) (v : Value) (l : List (Int × Int)) (W : World) : Prop where
  bel : Bel M L w5 W
  kept : Kept W M x
  cell : Blk W L 24 [v]
  own : OwnsS W w5.heap.size v l
  size : w5.heap.size ≤ W.heap.size
  seq : Blk W H 70 [.pointer (some ⟨B, 0, none⟩)]
section
variable {w5 W W' : World} {B L H M : Nat} {x : CutD} {v : Value} {l : List (Int × Int)}
theorem WI.go (h : WI w5 B L H M x v l W) (hb : Bel M W.heap.size W W') (hk : Kept W' M x) (hLM : M < L) (hLH : L < H) (hN : H < w5.heap.size) : WI w5 B L H M x v l W' := by
  have hs := h.size
  exact ⟨h.bel.trans (hb.mono (by omega)), hk, h.cell.bel hb (by omega) (by omega), h.own.bel hb (by omega), Nat.le_trans hs hb.size, h.seq.bel hb (by omega) (by omega)⟩
theorem WI.push (h : WI w5 B L H M x v l W) (o : Obj) {W2 : World} {v' : Value} {s : Int × Int} (hLM : M < L) (hLH : L < H) (hN : H < w5.heap.size) (hg : (W.alloc o).grownBy W2 v.ownBlock) (ho : OwnsS W2 w5.heap.size v' (l ++ [s])) :
    WI w5 B L H M x v' (l ++ [s]) (W2.setCell ⟨L, 0, none⟩ v') := by
  have hs := h.size
  have hr : ∀ r, v.ownBlock = some r → w5.heap.size ≤ r := fun r hr => OwnsS.from h.own hr
  have c1 := (h.cell.alloc o).grown (B0 := w5.heap.size) hg (by omega) hr
  have hb1 : Bel M L w5 (W.alloc o) := h.bel.alloc (by omega) o
  refine ⟨((hb1.grown hg (by omega) (by omega) hr).setCell (p := ⟨L, 0, none⟩) (.inl (Nat.le_refl _)) _), ?_, c1.set 0 v', ho.set v' (by omega), ?_, ?_⟩
  · have k1 := (h.kept.below ((Below.refl W.heap.size W).alloc (Nat.le_refl _) o) h.kept.lt).grown (B0 := w5.heap.size) hg (by omega) hr
    exact k1.below ((Below.refl L W2).setCell (p := ⟨L, 0, none⟩) (Nat.le_refl _) _) hLM
  · have := hg.size; simp only [World.size_setCell, World.size_alloc] at *; omega
  · exact ((h.seq.alloc o).grown (B0 := w5.heap.size) hg (by omega) hr).other (by omega) 0 v'
theorem WI.keepsPush (h : WI w5 B L H M x v l W) (o : Obj) {W2 : World} {v' : Value} (hg : (W.alloc o).grownBy W2 v.ownBlock) : KeepsFrom w5.heap.size W (W2.setCell ⟨L, 0, none⟩ v') :=
  (((KeepsOthers.alloc W o).trans (KeepsOthers.of_grownBy hg fun _j _o hj ho => OwnsS.cells (OwnsS.alloc h.own _) hj ho)).trans (KeepsOthers.setCell W2 ⟨L, 0, none⟩ v')).from _
theorem WI.keep2Push (h : WI w5 B L H M x v l W) (o : Obj) {W2 : World} {v' : Value} (_hB : B < W.heap.size) (hB5 : B < w5.heap.size) (hBL : B ≠ L) (hLH : L < H) (hN : H < w5.heap.size) (hg : (W.alloc o).grownBy W2 v.ownBlock) : Keep2 B H W (W2.setCell ⟨L, 0, none⟩ v') := by
  have hs := h.size
  have hr : ∀ r, v.ownBlock = some r → w5.heap.size ≤ r := fun r hr => OwnsS.from h.own hr
  have one : ∀ k, k < w5.heap.size → k ≠ L → (W2.setCell ⟨L, 0, none⟩ v').heap[k]? = W.heap[k]? := fun k hk hkL =>
    (Below.heap_setCell W2 ⟨L, 0, none⟩ v' k hkL).trans ((hg.block k (by simp; omega) (fun e => by have := hr k e.symm; omega)).trans (Below.heap_alloc W o k (by omega)))
  exact ⟨one B hB5 hBL, one H hN (by omega)⟩
theorem WI.keep2 (hb : Bel M W.heap.size W W') (hB : B < W.heap.size) (hH : H < W.heap.size) (hBM : B ≠ M) (hHM : H ≠ M) : Keep2 B H W W' := ⟨hb.block B hB hBM, hb.block H hH hHM⟩
end
theorem zmz : (Tryd.prog.info? 23).map (fun i => (i.zero, i.size, i.bytes)) = some (some (.agg #[.int .i64 0, .int .i64 0]), 2, 16) := by kernel_rfl
end Go.Proofs.YtlkhjnpflohfeaaDoor

/- Contract of water. -/
namespace Go.Proofs.YtlkhjnpflohfeaaDoor
open Go Go.Proofs Go.RowKit
attribute [local go_sem] Oper.semAt_some

def KBase (w0 : World) (M : Nat) (x : CutD) (W : World) : Prop := Bel M w0.heap.size w0 W ∧ Kept W M x
def KVar (w0 : World) (M : Nat) (x : CutD) (T : TypeId) (cs : List Value) (b : Nat) (W : World) : Prop := KBase w0 M x W ∧ Blk W b T cs ∧ w0.heap.size ≤ b
abbrev FlK (w0 : World) (M : Nat) (x : CutD) (T : TypeId) (cs : List Value) := Fl (KBase w0 M x) (KVar w0 M x T cs)
theorem FlK.base {w0 : World} {M : Nat} {x : CutD} {T : TypeId} {cs : List Value} (s : FlK w0 M x T cs) : KBase w0 M x s.W := by
  rcases s with ⟨W, b, ok⟩
  cases b
  · exact ok
  · exact ok.1
theorem FlK.step {w0 : World} {M : Nat} {x : CutD} {T : TypeId} {cs : List Value} (s : FlK w0 M x T cs) (hM : M < w0.heap.size) {w2 : World} (hb : Bel M s.W.heap.size s.W w2) (hk : Kept w2 M x) : ∃ s' : FlK w0 M x T cs, s'.b = s.b ∧ w2 = s'.W := by
  have h1 := s.base
  have h2 : KBase w0 M x w2 := ⟨h1.1.trans (hb.mono h1.1.size), hk⟩
  rcases s with ⟨W, b, ok⟩
  cases b with
  | none => exact ⟨⟨w2, none, h2⟩, rfl, rfl⟩
  | some b => exact ⟨⟨w2, some b, h2, ok.2.1.bel hb ok.2.1.lt (by have := ok.2.2; omega), ok.2.2⟩, rfl, rfl⟩

section
variable {B M : Nat} {x : CutD} {ra ba la : Option Addr} {rc bc lc : Nat}

def spansF (x : CutD) (d : Nat) (l : List (Fin 11)) : List (Int × Int) := (l.map fun y => Cut.seasonAt x (lv y) (Cut.every x) d).filter Cut.some
theorem zrx (hv : Cut.valid x = true) (d : Nat) : spansF x d (leaksF x) = Cut.spans x d := by
  unfold spansF Cut.spans
  rw [← zhi (Cut.valid_of hv), List.map_map]; rfl
theorem ziq (d : Nat) (l : List (Fin 11)) (y : Fin 11) (h : Cut.some (Cut.seasonAt x (lv y) (Cut.every x) d) = true) : spansF x d (l ++ [y]) = spansF x d l ++ [Cut.seasonAt x (lv y) (Cut.every x) d] := by
  unfold spansF; rw [List.map_append, List.filter_append]; simp [h]
theorem zjx (d : Nat) (l : List (Fin 11)) (y : Fin 11) (h : Cut.some (Cut.seasonAt x (lv y) (Cut.every x) d) = false) : spansF x d (l ++ [y]) = spansF x d l := by
  unfold spansF; rw [List.map_append, List.filter_append]; simp [h]
theorem zua (d : Nat) (l : List (Fin 11)) : (spansF x d l).length ≤ l.length := by
  unfold spansF
  exact Nat.le_trans (List.length_filter_le _ _) (by simp)

set_option maxHeartbeats 2000000 in
set_option maxRecDepth 100000 in
theorem zmu (d : Nat) (w : World) (h : CutAt w B M x ra ba la rc bc lc) (hv : Cut.valid x = true) (hc : Cut.can x (Cut.every x) = true) (hd : d ≤ x.rain.length) :
    Calls Tryd.prog 47 #[.pointer (some ⟨B, 0, none⟩), .int .i64 d] w fun e w' =>
      e = .returned (.agg #[.int .i64 (Cut.water x d).1, .int .i64 (Cut.water x d).2]) ∧ Bel M w.heap.size w w' ∧ Kept w' M x := by
  have HP := hide (Cut.spans_pos x hc d hd)
  have hd8 : d < 9 := by have := (Cut.valid_of hv).n8; omega
  have hBl := h.blk.lt
  have hMl := h.kept.lt
  have HCn := hide hc
  have HC := hide h
  have HS := hide (zrx hv d)
  clear h hc
  refine (callsIn_wide (n := 4)).1 ?_
  refine callsIn_of_wp_marks Tryd.func47 rfl trivial ?_ rfl
  simp only [Tryd.ntmps47, List.size_toArray, List.length_cons, List.length_nil, Nat.reduceAdd, Nat.reduceSub, Array.replicate_succ, Array.replicate_zero, List.push_toArray, List.append_toArray, List.nil_append, List.cons_append]
  gi_wp2_with (refine ⟨trivial, ?_⟩; gi_at_call 52; refine (callsIn_wide.2 (zjb _)).mono ?_; rintro e w' ⟨rfl, rfl⟩)
  obtain ⟨w5, hw5⟩ : ∃ w5, ((((w.alloc (Obj.cells #[Value.pointer (some ⟨B, 0, none⟩)] 70)).alloc (Obj.cells #[Value.int IntKind.i64 d] 3)).alloc (Obj.cells #[Value.int IntKind.i64 0, Value.int IntKind.i64 0] 23)).alloc (Obj.cells #[Value.slice none 0 0] 24)).alloc (Obj.cells #[Value.pointer (some ⟨B, 0, none⟩)] 70) = w5 := ⟨_, rfl⟩
  rw [hw5]
  have hz5 : w5.heap.size = w.heap.size + 1 + 1 + 1 + 1 + 1 := by rw [← hw5]; simp
  have hb5 : Below w.heap.size w w5 := by rw [← hw5]; (repeat' first | (with_reducible assumption) | (with_reducible exact Below.refl _ _) | (with_reducible refine Below.drew ?_) | (with_reducible refine Below.setCell ?_ ?_ _) | (with_reducible refine Below.alloc ?_ ?_ _) | (refine Below.trans ?_ (Below.mono (by assumption) ?_)) | omega | (simp only [World.size_alloc] at *; omega))
  have b0 : Blk w5 w.heap.size 70 [.pointer (some ⟨B, 0, none⟩)] := by rw [← hw5]; exact ((((Blk.new' _ [_] _ rfl).alloc _).alloc _).alloc _).alloc _
  have b1 : Blk w5 (w.heap.size + 1) 3 [.int .i64 d] := by rw [← hw5]; exact (((Blk.new' _ [_] _ (by simp)).alloc _).alloc _).alloc _
  have b2 : Blk w5 (w.heap.size + 1 + 1) 23 [.int .i64 0, .int .i64 0] := by rw [← hw5]; exact ((Blk.new' _ [_, _] _ (by simp)).alloc _).alloc _
  have b3 : Blk w5 (w.heap.size + 1 + 1 + 1) 24 [.slice none 0 0] := by rw [← hw5]; exact (Blk.new' _ [_] _ (by simp)).alloc _
  have b4 : Blk w5 (w.heap.size + 1 + 1 + 1 + 1) 70 [.pointer (some ⟨B, 0, none⟩)] := by rw [← hw5]; exact Blk.new' _ [_] _ (by simp)
  have HC5 := hide (HC.out.below hb5)
  clear hw5
  refine wpIn_rangeFunc_ownG rfl (by omega) (gf := 86) (lb := #[.pointer (some ⟨w.heap.size + 1 + 1 + 1 + 1, 0, none⟩)]) rfl trivial (enters_of Tryd.func86 (by kernel_rfl) rfl)
    (zhy hv 3 (w.heap.size + 1 + 1 + 1 + 1) w5 b4 HC5.out.blk.lt (HC5.out.blk.cell 2 rfl) (HC5.out.blk.cell 3 rfl)) (fun h k => h.trans k) (fun W l o o' hl _ _ _ => ⟨World.putObj_heap_other (by omega), World.putObj_heap_other (by omega)⟩) (Below.refl _ _) (fun _ => rfl)
    (fun pre W => ∃ v, WI w5 B (w.heap.size + 1 + 1 + 1) (w.heap.size + 1 + 1 + 1 + 1) M x v (spansF x d pre) W)
    (fun c pre W => False)
    (fun s X Y row hs hg hr => by
      obtain ⟨v, h1, h2, h3, h4, h5, h6⟩ := hs
      exact ⟨v, h1.grown hg (by omega) (by omega) (fun r e => (hr r e).1), h2.grown (B0 := w5.heap.size) hg (by omega) (fun r e => (hr r e).1), h3.grown (B0 := w5.heap.size) hg (by omega) (fun r e => (hr r e).1), h4.grown hg (fun r e => (hr r e).2), Nat.le_trans h5 hg.size, h6.grown (B0 := w5.heap.size) hg (by omega) (fun r e => (hr r e).1)⟩)
    (fun c s X Y row hs hg hr => hs.elim)
    ⟨_, Bel.refl _ _ _, HC5.out.kept, b3, OwnsS.nil _ _, Nat.le_refl _, b4⟩
    (fun y => { tmps := #[.pointer (some ⟨B, 0, none⟩), .int .i64 d, .pointer (some ⟨w.heap.size, 0, none⟩), .pointer (some ⟨w.heap.size + 1, 0, none⟩), .pointer (some ⟨w.heap.size + 1 + 1, 0, none⟩), .pointer (some ⟨w.heap.size + 1 + 1 + 1, 0, none⟩), .int .i64 (lv y), undef, .pointer (some ⟨B, 0, none⟩), .func (.func 86) #[] #[.pointer (some ⟨w.heap.size + 1 + 1 + 1 + 1, 0, none⟩)], .int .i64 (lv y), undef, undef, undef, undef, undef, undef, undef, undef, undef, undef, undef, undef, undef, undef, undef, undef, undef], defers := [] }) ?assign ?body ?done ?stop
  case assign =>
    intro l y W K hK
    gi_wp2
    exact hK
  case body =>
    rintro l pre y W ⟨v, hWI⟩ hpre
    obtain ⟨hB', hkept, d3, hown, hsz, d4⟩ := id hWI
    have HCW := hide (HC.out.bel ((Bel.of_below (hb5.mono (show w.heap.size ≤ w.heap.size by omega))).trans (hB'.mono (by omega))) hkept)
    have e0 := b0.bel hB' (by omega) (by omega)
    have e1 := b1.bel hB' (by omega) (by omega)
    have hMW : M < W.heap.size := by omega
    have hF : ∀ s : FlK W M x 83 [.int .i64 0, .int .i64 0], CutAt s.W B M x ra ba la rc bc lc := fun s => HCW.out.bel s.base.1 s.base.2
    have q0 : ∀ s : FlK W M x 83 [.int .i64 0, .int .i64 0], s.W.cell? ⟨w.heap.size, 0, none⟩ = some (.pointer (some ⟨B, 0, none⟩)) := fun s => (e0.bel s.base.1 e0.lt (by omega)).cell 0 rfl
    have q1 : ∀ s : FlK W M x 83 [.int .i64 0, .int .i64 0], s.W.cell? ⟨w.heap.size + 1, 0, none⟩ = some (.int .i64 d) := fun s => (e1.bel s.base.1 e1.lt (by omega)).cell 0 rfl
    have HFl := hide hF
    clear hF
    gi_wp2_with fail
    refine zgv (D := FlD (KBase W M x) (KVar W M x 83 [.int .i64 0, .int .i64 0])) 8 9 l _ (by kernel_rfl) (by kernel_rfl) (by kernel_rfl) (by omega)
      (Lays.alloc (o := .cells #[.int .i64 0, .int .i64 0] 83 (0, 0)) rfl rfl (by kernel_rfl) (fun a w => by kernel_rfl) (fun W' hW' => ⟨⟨hW'.1.alloc hW'.1.size _, hW'.2.below ((Below.refl _ _).alloc (Nat.le_refl _) _) hW'.2.lt⟩, Blk.new' _ [_, _] _ rfl, hW'.1.size⟩))
      ⟨⟨_, none, ⟨(Bel.refl _ _ _).drew, HCW.out.kept.below (Below.refl _ _).drew hMW⟩⟩, rfl, rfl⟩ ?_
    simp only [List.take_succ_cons, List.take_zero, List.drop_succ_cons, List.drop_zero]
    have ix : ∀ W : World, (Instr.index 85 (.agg (cells18 (Cut.seasonAt x (lv y) (Cut.every x))).toArray) (.int .i64 d)).run Tryd.prog W = .ok (.agg #[.int .i64 (Cut.seasonAt x (lv y) (Cut.every x) d).1, .int .i64 (Cut.seasonAt x (lv y) (Cut.every x) d).2]) W := fun W => zje _ d hd8 W
    repeat (apply zhe; (intro s; first | (go_simp; rfl) | (go_simp; done)); rfl)
    refine ziu (f := 54) (args := #[.pointer (some ⟨B, 0, none⟩)]) (v := .int .u64 (Cut.every x : Nat)) (fun s => ?_) (fun s => ?_) rfl ?_
    · go_simp
    · refine (zdv _ (HFl.out s) (Cut.valid_of hv).k5).mono ?_
      rintro e w' ⟨rfl, rfl⟩
      exact ⟨rfl, s, rfl, rfl⟩
    repeat (apply zhe; (intro s; first | (go_simp; rfl) | (go_simp; done)); rfl)
    refine ziu (f := 53) (args := #[.pointer (some ⟨B, 0, none⟩), .agg #[.int .i64 (lv y), .int .u64 (Cut.every x : Nat)]]) (v := .agg (cells18 (Cut.seasonAt x (lv y) (Cut.every x))).toArray) (fun s => ?_) (fun s => ?_) rfl ?_
    · go_simp
    · refine (zha _ _ _ (HFl.out s) hv (lv_le y) (zgm hv)).mono ?_
      rintro e w' ⟨rfl, hb, hk⟩
      exact ⟨rfl, FlK.step s hMW hb hk⟩
    repeat (apply zhe; (intro s; first | (go_simp; rfl) | (go_simp; done)); rfl)
    refine zph ?_
    refine zsg ?_
    rintro b w6 ⟨s, hsb, hw6⟩
    have hok : KVar W M x 83 [.int .i64 0, .int .i64 0] b w6 := by
      have := s.ok; rw [hsb] at this; rw [hw6]; exact this
    clear hw6 hsb s q0 q1 ix HFl
    obtain ⟨⟨hb6, hk6⟩, bv, hbl⟩ := hok
    have v0 := bv.cell 0 rfl
    have v1 := bv.cell 1 rfl
    have f0 := bv.free 0
    have f1 := bv.free 1
    simp only [Act.put, List.setIfInBounds_toArray, List.set_cons_succ, List.set_cons_zero]
    go_wp2
    have hsz6 := hb6.size
    have hlb := bv.lt
    have hb7 : Bel M W.heap.size W ((w6.setCell ⟨b, 0, none⟩ (.int .i64 (Cut.seasonAt x (lv y) (Cut.every x) d).1)).setCell ⟨b, 1, none⟩ (.int .i64 (Cut.seasonAt x (lv y) (Cut.every x) d).2)) := (hb6.setCell (p := ⟨b, 0, none⟩) (.inl hbl) _).setCell (p := ⟨b, 1, none⟩) (.inl hbl) _
    have hk7 := (hk6.below ((Below.refl W.heap.size w6).setCell (p := ⟨b, 0, none⟩) hbl (.int .i64 (Cut.seasonAt x (lv y) (Cut.every x) d).1)) hMW).below ((Below.refl W.heap.size _).setCell (p := ⟨b, 1, none⟩) hbl (.int .i64 (Cut.seasonAt x (lv y) (Cut.every x) d).2)) hMW
    have bv7 := (bv.set 0 (.int .i64 (Cut.seasonAt x (lv y) (Cut.every x) d).1)).set 1 (.int .i64 (Cut.seasonAt x (lv y) (Cut.every x) d).2)
    simp only [List.set_cons_zero, List.set_cons_succ] at bv7
    simp only [NoOut]
    generalize (w6.setCell ⟨b, 0, none⟩ (.int .i64 (Cut.seasonAt x (lv y) (Cut.every x) d).1)).setCell ⟨b, 1, none⟩ (.int .i64 (Cut.seasonAt x (lv y) (Cut.every x) d).2) = w7 at *
    clear v0 v1 f0 f1 bv hb6 hk6 hlb
    have hI7 := hWI.go hb7 hk7 (by omega) (by omega) (by omega)
    have HI7 := hide hI7
    have v0 := bv7.cell 0 rfl
    have v1 := bv7.cell 1 rfl
    have hlb := bv7.lt
    gi_wp2_with fail
    refine ⟨trivial, ?_⟩
    refine (CallsIn.inRound l (callsIn_wide.2 (zcy _ _ _))).mono ?_
    rintro e w8 ⟨rfl, hb8⟩
    have hsz8 := hb8.size
    have hb8' : Bel M w7.heap.size w7 w8 := Bel.of_below hb8
    have hI8 := HI7.out.go hb8' (HI7.out.kept.below hb8 HI7.out.kept.lt) (by omega) (by omega) (by omega)
    have bv8 := bv7.below hb8 hlb
    have hW8 : Bel M W.heap.size W w8 := hb7.trans (hb8'.mono hb7.size)
    have v0' := bv8.cell 0 rfl
    have v1' := bv8.cell 1 rfl
    have d38 := hI8.cell.cell 0 rfl
    have f38 := hI8.cell.free 0
    have hl8 := hI8.cell.lt
    have HI8 := hide hI8
    have hBM := HC.out.ne
    clear hI8 hI7 HI7 hb8 hb8' bv7 bv8 v0 v1 hWI hB' hkept d3 hown d4 hbl hsz6 hb7 hk7 hlb hsz8 HCW e0 e1
    cases hsm : Cut.some ((Cut.seasonAt x (lv y) (Cut.every x) d).1, (Cut.seasonAt x (lv y) (Cut.every x) d).2) with
    | true =>
      have HN := hide (ziq d pre y hsm)
      clear hsm
      have hlen := zua (x := x) d pre
      obtain ⟨i0, hi, hz0, hz1, hz2⟩ := info_parts zmz
      have hob := (HI8.out.own).alloc (Obj.cells #[Value.int IntKind.i64 (Cut.seasonAt x (lv y) (Cut.every x) d).1, Value.int IntKind.i64 (Cut.seasonAt x (lv y) (Cut.every x) d).2] 23)
      have HOB := hide hob
      clear hob
      have h58 : w5.heap.size ≤ w8.heap.size := HI8.out.size
      have hc1 : Hid (∀ j u, [Value.int IntKind.i64 (Cut.seasonAt x (lv y) (Cut.every x) d).1, Value.int IntKind.i64 (Cut.seasonAt x (lv y) (Cut.every x) d).2][j]? = some u → (w8.alloc (Obj.cells #[Value.int IntKind.i64 (Cut.seasonAt x (lv y) (Cut.every x) d).1, Value.int IntKind.i64 (Cut.seasonAt x (lv y) (Cut.every x) d).2] 23)).cell? (Addr.add ⟨w8.heap.size, 0, none⟩ j) = some u) := fun j u hj => by
        have := (Blk.new w8 [Value.int IntKind.i64 (Cut.seasonAt x (lv y) (Cut.every x) d).1, Value.int IntKind.i64 (Cut.seasonAt x (lv y) (Cut.every x) d).2] 23).cell j hj
        rwa [show Addr.add ⟨w8.heap.size, 0, none⟩ j = ⟨w8.heap.size, j, none⟩ by simp [Addr.add]; exact fun h => h.symm]
      have hc2 : Hid (∀ u ∈ [Value.int IntKind.i64 (Cut.seasonAt x (lv y) (Cut.every x) d).1, Value.int IntKind.i64 (Cut.seasonAt x (lv y) (Cut.every x) d).2], u.oneCell' = true) := by
        intro u hu; simp only [List.mem_cons, List.not_mem_nil, or_false] at hu; rcases hu with rfl | rfl <;> rfl
      gi_wp2_with (gi_at_builtin; refine wpListIn_append_own _ rfl (.tmp 21) (.tmp 24) 24 rfl w5.heap.size 23 i0 _ 2 16 Tryd.underlying24 hi hz0 hz1 hz2 rfl (by decide) v _ _ rfl HOB.out ⟨w8.heap.size, 0, none⟩ 1 1 _ rfl rfl hc1.out hc2.out (by unfold maxLen; omega) (by omega) (by simp; omega) ?_; intro v' w9 hown9 hg9 _; obtain ⟨sa, sn, sc, rfl⟩ := zgh hown9; have HO9 := hide (OwnsS.snoc (s := Cut.seasonAt x (lv y) (Cut.every x) d) hown9); have HG9 := hide hg9; have k9 := (HI8.out.cell.alloc _).grown (B0 := w5.heap.size) hg9 (by omega) (fun r hr => OwnsS.from HI8.out.own hr); have kc9 := k9.cell 0 rfl; have kf9 := k9.free 0; clear hown9 hg9)
      refine ⟨(hW8.keeps (by omega)).trans (HI8.out.keepsPush _ HG9.out), (WI.keep2 hW8 (by omega) (by omega) (by omega) (by omega)).trans (HI8.out.keep2Push _ (by omega) (by omega) (by omega) (by omega) (by omega) HG9.out), ⟨.slice sa sn sc, ?_⟩⟩
      rw [HN.out]
      exact HI8.out.push _ (by omega) (by omega) (by omega) HG9.out HO9.out
    | false =>
      have HN := hide (zjx d pre y hsm)
      clear hsm
      gi_wp2
      refine ⟨hW8.keeps (by omega), WI.keep2 hW8 (by omega) (by omega) (by omega) (by omega), ⟨v, ?_⟩⟩
      rw [HN.out]
      exact HI8.out
  case done =>
    rintro D ys W hD rfl ⟨v, hI⟩ hK
    rw [HS.out] at hI
    obtain ⟨g, cap, rfl, hg, hlc, hcap, hgl, hcells⟩ := hI.own.row HP.out
    have q5 := hI.cell.cell 0 rfl
    have f2 := b2.bel hI.bel (by omega) (by omega)
    have g0 := f2.cell 0 rfl
    have g1 := f2.cell 1 rfl
    have HI := hide hI
    have HCe := hide hcells
    have hsz := hI.size
    clear hI hcells
    gi_wp2_with (refine ⟨trivial, ?_⟩; gi_at_call 56; refine (callsIn_wide.2 (zkt (Cut.spans x d) g 0 cap _ HP.out hlc hcap hgl HCe.out)).mono ?_; rintro e w9 ⟨rfl, hb9⟩; have h9 := f2.below hb9 f2.lt; have k0 := h9.cell 0 rfl; have k1 := h9.cell 1 rfl; have k2 := h9.free 0; have k3 := h9.free 1)
    have hb9' : Bel M W.heap.size W w9 := Bel.of_below hb9
    have hDW : D < W.heap.size := (Array.getElem?_eq_some_iff.1 hK).1
    have hD9 : (((w9.setCell ⟨w.heap.size + 1 + 1, 0, none⟩ (.int .i64 (Cut.joined (Cut.spans x d)).1)).setCell ⟨w.heap.size + 1 + 1, 1, none⟩ (.int .i64 (Cut.joined (Cut.spans x d)).2))).heap[D]? = some (.deferred (some [])) :=
      (Below.heap_setCell _ ⟨w.heap.size + 1 + 1, 1, none⟩ _ D (by show D ≠ w.heap.size + 1 + 1; omega)).trans ((Below.heap_setCell _ ⟨w.heap.size + 1 + 1, 0, none⟩ _ D (by show D ≠ w.heap.size + 1 + 1; omega)).trans ((hb9.block D hDW).trans hK))
    have h10 := (((h9.set 0 (.int .i64 (Cut.joined (Cut.spans x d)).1)).set 1 (.int .i64 (Cut.joined (Cut.spans x d)).2))).put (l := D) (o := .deferred none) (by omega)
    simp only [List.set_cons_zero, List.set_cons_succ] at h10
    have hbw : Bel M w.heap.size w w9 := ((Bel.of_below hb5).trans (HI.out.bel.mono (by omega))).trans (hb9'.mono (by omega))
    have hbx := ((hbw.setCell (p := ⟨w.heap.size + 1 + 1, 0, none⟩) (.inl (by show w.heap.size ≤ w.heap.size + 1 + 1; omega)) (.int .i64 (Cut.joined (Cut.spans x d)).1)).setCell (p := ⟨w.heap.size + 1 + 1, 1, none⟩) (.inl (by show w.heap.size ≤ w.heap.size + 1 + 1; omega)) (.int .i64 (Cut.joined (Cut.spans x d)).2)).putObj (l := D) (.inl (by omega)) (.deferred none)
    have hkx := (((HI.out.kept.below hb9 HI.out.kept.lt).below ((Below.refl w.heap.size _).setCell (p := ⟨w.heap.size + 1 + 1, 0, none⟩) (by show w.heap.size ≤ w.heap.size + 1 + 1; omega) (.int .i64 (Cut.joined (Cut.spans x d)).1)) hMl).below ((Below.refl w.heap.size _).setCell (p := ⟨w.heap.size + 1 + 1, 1, none⟩) (by show w.heap.size ≤ w.heap.size + 1 + 1; omega) (.int .i64 (Cut.joined (Cut.spans x d)).2)) hMl).below (Below.putObj (N := w.heap.size) (l := D) (by omega) (.deferred none)) hMl
    refine ⟨by simp, .inl ⟨_, _, rfl, run_takeDeferred hD9, ?_⟩⟩
    refine ⟨_, by rw [zcw rfl _ _ (w.heap.size + 1 + 1) 23 [.int .i64 (Cut.joined (Cut.spans x d)).1, .int .i64 (Cut.joined (Cut.spans x d)).2] _ (by rfl) h10 Tryd.underlying23 rfl (by kernel_rfl)], ?_, hbx, hkx⟩
    rw [Cut.water_spans]
  case stop =>
    rintro D c pre W hD hpre hF hK
    exact hF.elim
end
end Go.Proofs.YtlkhjnpflohfeaaDoor

/- A region that draws its order and in which a call panics: what may come ahead of it is quiet, or lays a new variable; whenever it comes, it panics. -/
namespace Go.Proofs.YtlkhjnpflohfeaaDoor
open Go
section
variable {P : Program} {ops : Array Oper} {C : World → Prop}

theorem zdr (n i : Nat) (h : (Array.replicate n false).getD i false = true) : False := by
  rcases Nat.lt_or_ge i n with h' | h'
  · simp [h'] at h
  · simp [Array.getElem?_eq_none (xs := Array.replicate n false) (by simpa using h')] at h
theorem cnt_lt (f g : Nat → Bool) : ∀ (n i : Nat), i < n → (∀ j, g j = true → f j = true) → f i = true → g i = false → ((List.range n).filter g).length < ((List.range n).filter f).length
  | 0, i, hi, _, _, _ => by omega
  | n + 1, i, hi, h, h1, h2 => by
    have hle : ∀ m, ((List.range m).filter g).length ≤ ((List.range m).filter f).length := by
      intro m
      induction m with
      | zero => simp
      | succ m ih =>
        rw [List.range_succ, List.filter_append, List.filter_append, List.length_append, List.length_append]
        have : ([m].filter g).length ≤ ([m].filter f).length := by
          cases hg : g m with
          | true => simp [hg, h m hg]
          | false => simp [hg]
        omega
    rw [List.range_succ, List.filter_append, List.filter_append, List.length_append, List.length_append]
    by_cases hin : i = n
    · subst hin
      have := hle i
      simp [h1, h2]; omega
    · have h3 := cnt_lt f g n i (by omega) h h1 h2
      have : ([n].filter g).length ≤ ([n].filter f).length := by
        cases hg : g n with
        | true => simp [hg, h n hg]
        | false => simp [hg]
      omega

def dstOf (ops : Array Oper) (i : Nat) : Option Tmp := (ops[i]?).bind (·.dst)
def edgeB (o : Oper) (j : Nat) : Bool := o.after.any fun e => Region.binds .any e && e.on == j

def wpPanG (ops : Array Oper) (q : Oper → Act → Value → Prop) (Pan : Act → Prop) : List Nat → Act → Prop
  | [], a => Pan a
  | i :: rest, a => match ops[i]? with
    | some o => ∃ v, q o a v ∧ wpPanG ops q Pan rest (a.put o.dst v)
    | none => False
def puts (ops : Array Oper) (vals : Nat → Value) (a0 : Act) (l : List Nat) : Act := l.foldl (fun a i => a.put (dstOf ops i) (vals i)) a0

theorem zgt {q : Oper → Act → Value → Prop} {Pan : Act → Prop} : ∀ (hs : List Nat) (a0 : Act), hs.Pairwise (· < ·) → wpPanG ops q Pan hs a0 →
    ∃ vals : Nat → Value, (∀ l i r, hs = l ++ i :: r → ∃ o, ops[i]? = some o ∧ q o (puts ops vals a0 l) (vals i)) ∧ Pan (puts ops vals a0 hs)
  | [], a0, _, h => ⟨fun _ => undef, fun l i r e => by simp at e, h⟩
  | i :: rest, a0, hp, h => by
    unfold wpPanG at h
    cases ho : ops[i]? with
    | none => simp only [ho] at h
    | some o =>
      simp only [ho] at h
      obtain ⟨v, h1, h2⟩ := h
      obtain ⟨vals, h3, h4⟩ := zgt rest (a0.put o.dst v) (List.pairwise_cons.1 hp).2 h2
      have hni : ∀ j ∈ rest, j ≠ i := fun j hj => Nat.ne_of_gt ((List.pairwise_cons.1 hp).1 j hj)
      have hdst : dstOf ops i = o.dst := by unfold dstOf; rw [ho]; rfl
      have hput : ∀ (l : List Nat) (b : Act), (∀ j ∈ l, j ≠ i) → puts ops (fun j => if j = i then v else vals j) b l = puts ops vals b l := by
        intro l
        induction l with
        | nil => intro b _; rfl
        | cons j l ih =>
          intro b hj
          unfold puts
          simp only [List.foldl_cons]
          rw [if_neg (hj j (by simp))]
          exact ih _ fun k hk => hj k (by simp [hk])
      refine ⟨fun j => if j = i then v else vals j, ?_, ?_⟩
      · intro l k r e
        cases l with
        | nil =>
          simp only [List.nil_append, List.cons.injEq] at e
          obtain ⟨rfl, rfl⟩ := e
          exact ⟨o, ho, by simp only [if_true]; exact h1⟩
        | cons x l =>
          simp only [List.cons_append, List.cons.injEq] at e
          obtain ⟨rfl, rfl⟩ := e
          obtain ⟨o', ho', hq⟩ := h3 l k r rfl
          refine ⟨o', ho', ?_⟩
          have hk : (fun j => if j = i then v else vals j) k = vals k := if_neg (hni k (by simp))
          rw [hk]
          have : puts ops (fun j => if j = i then v else vals j) a0 (i :: l) = puts ops vals (a0.put o.dst v) l := by
            unfold puts
            simp only [List.foldl_cons, if_true, hdst]
            exact hput l _ fun j hj => hni j (by simp [hj])
          rw [this]; exact hq
      · have : puts ops (fun j => if j = i then v else vals j) a0 (i :: rest) = puts ops vals (a0.put o.dst v) rest := by
          unfold puts
          simp only [List.foldl_cons, if_true, hdst]
          exact hput rest _ hni
        rw [this]; exact h4

structure Agree (ops : Array Oper) (vals : Nat → Value) (a0 : Act) (hs fs : List Nat) (S : Nat → Prop) (a : Act) : Prop where
  size : a.tmps.size = a0.tmps.size
  defers : a.defers = a0.defers
  done : ∀ j d, j ∈ hs → S j → dstOf ops j = some d → a.tmps.getD d undef = vals j
  left : ∀ d, (∀ j, j ∈ hs ++ fs → dstOf ops j ≠ some d) → a.tmps.getD d undef = a0.tmps.getD d undef

theorem zda {t : Array Value} {d : Nat} {v : Value} (h : d < t.size) : (t.setIfInBounds d v).getD d undef = v := by simp [h]
theorem zay {t : Array Value} {d e : Nat} {v : Value} (h : d ≠ e) : (t.setIfInBounds d v).getD e undef = t.getD e undef := by
  simp [Array.getElem?_setIfInBounds_ne h]

theorem Agree.put {vals : Nat → Value} {a0 a : Act} {hs fs : List Nat} {S : Nat → Prop} (h : Agree ops vals a0 hs fs S a) {i : Nat} (hi : i ∈ hs)
    (hd : ∀ j d, j ∈ hs → dstOf ops j = some d → d < a0.tmps.size ∧ ∀ k, k ∈ hs ++ fs → k ≠ j → dstOf ops k ≠ some d) :
    Agree ops vals a0 hs fs (fun j => S j ∨ j = i) (a.put (dstOf ops i) (vals i)) := by
  cases he : dstOf ops i with
  | none =>
    refine ⟨h.size, h.defers, fun j d hj hS hjd => ?_, h.left⟩
    rcases hS with hS | rfl
    · exact h.done j d hj hS hjd
    · rw [he] at hjd; cases hjd
  | some e =>
    refine ⟨by simp [Act.put, h.size], h.defers, fun j d hj hS hjd => ?_, fun d hn => ?_⟩
    · by_cases hji : j = i
      · subst hji
        rw [he] at hjd; cases hjd
        exact zda (by rw [h.size]; exact (hd _ _ hj he).1)
      · have hne : e ≠ d := fun e' => (hd i e hi he).2 j (List.mem_append_left _ hj) hji (by rw [e']; exact hjd)
        show ((a.tmps.setIfInBounds e (vals i)).getD d undef) = _
        rw [zay hne]
        rcases hS with hS | rfl
        · exact h.done j d hj hS hjd
        · exact absurd rfl hji
    · have hne : e ≠ d := fun e' => hn i (List.mem_append_left _ hi) (by rw [he, e'])
      show ((a.tmps.setIfInBounds e (vals i)).getD d undef) = _
      rw [zay hne]; exact h.left d hn
theorem zhs {vals : Nat → Value} {a0 : Act} {hs fs : List Nat}
    (hd : ∀ j d, j ∈ hs → dstOf ops j = some d → d < a0.tmps.size ∧ ∀ k, k ∈ hs ++ fs → k ≠ j → dstOf ops k ≠ some d) :
    ∀ (l : List Nat) (a : Act) (S : Nat → Prop), (∀ j ∈ l, j ∈ hs) → Agree ops vals a0 hs fs S a → Agree ops vals a0 hs fs (fun j => S j ∨ j ∈ l) (puts ops vals a l)
  | [], a, S, _, h => ⟨h.size, h.defers, fun j d hj hS => h.done j d hj (by simpa using hS), h.left⟩
  | i :: l, a, S, hl, h => by
    have h1 := zhs hd l (a.put (dstOf ops i) (vals i)) _ (fun j hj => hl j (by simp [hj])) (h.put (hl i (by simp)) hd)
    refine ⟨h1.size, h1.defers, fun j d hj hS => h1.done j d hj ?_, h1.left⟩
    rcases hS with hS | hS
    · exact .inl (.inl hS)
    · rcases List.mem_cons.1 hS with rfl | hS
      · exact .inl (.inr rfl)
      · exact .inr hS

theorem zro {Q : Exit → Act → World → Prop} {i : Nat} {o : Oper} {a : Act} {w : World} {v : Value} {K : Act → World → Prop} (hi : ops[i]? = some o) (hg : o.guard = none) (hq : o.quietAt P a C w v) (hK : ∀ w', C w' → K (a.put o.dst v) w') (hw : C w) : wpOp P ops Q i K a w := by
  unfold wpOp
  simp only [hi]
  have hwt : Region.wanted o (yielded ops a.tmps) = true := by unfold Region.wanted; rw [hg]
  rw [if_pos hwt]
  left
  unfold Oper.quietAt at hq
  unfold Oper.wp
  generalize (execOp a.eval o).run P w = r at *
  cases r with
  | ok x w' =>
    cases x <;> simp only [Oper.quietUpon] at hq
    case value => obtain ⟨rfl, rfl⟩ := hq; exact hK _ hw
    case skip => obtain ⟨rfl, rfl⟩ := hq; exact hK _ hw
    case enter =>
      obtain ⟨rfl, hq⟩ := hq
      refine hq.mono fun e w'' ⟨he, hC⟩ => ?_
      subst he; exact hK _ hC
  | halt x w' => simp only [Oper.quietUpon] at hq

end
end Go.Proofs.YtlkhjnpflohfeaaDoor

/- Contracts of answer, as a deferred call: of a frame that panics with a refusal, and of one that returns. -/
namespace Go.Proofs.YtlkhjnpflohfeaaDoor
open Go Go.Proofs Go.RowKit

set_option maxHeartbeats 400000 in
set_option maxRecDepth 100000 in
theorem zii (b : Nat) (x n : Int) (w : World) (hc : w.cell? ⟨b, 0, none⟩ = some (.int .i64 x)) (hz : w.frozen? ⟨b, 0, none⟩ = false) :
    CallsD Tryd.prog 42 #[.pointer (some ⟨b, 0, none⟩)] (.panicking [{ v := .iface 114 (.int .i64 n), recovered := false }]) w fun e u' w' =>
      e = .returned (.tuple #[]) ∧ u' = .panicking [{ v := .iface 114 (.int .i64 n), recovered := true }] ∧ w' = w.setCell ⟨b, 0, none⟩ (.int .i64 n) := by
  refine callsD_of_wpS Tryd.func42 rfl fun c₀ cs hu => ?_
  simp only [Tryd.ntmps42, List.size_toArray, List.length_cons, List.length_nil, Nat.reduceAdd, Nat.reduceSub, Array.replicate_succ, Array.replicate_zero, List.push_toArray, List.append_toArray, List.nil_append, List.cons_append]
  apply wpS_seq
  apply wpS_region
  simp [wpOpsS, go_sem, recoverD, hu, Exit.thenS]
  refine wpS_of_wp ?_
  clear hu
  have hta : ∀ w : World, (Instr.typeAssert (.iface 114 (.int .i64 n)) 20 114 true).run Tryd.prog w = .ok (.tuple #[.int .i64 n, .bool true]) w := fun _ => by kernel_rfl
  go_wp2
  exact ⟨rfl, _, rfl, _, results_none rfl _ _ _, rfl, rfl, rfl⟩

set_option maxHeartbeats 400000 in
set_option maxRecDepth 100000 in
theorem zqj (b : Nat) (w : World) :
    CallsD Tryd.prog 42 #[.pointer (some ⟨b, 0, none⟩)] .returning w fun e u' w' => e = .returned (.tuple #[]) ∧ u' = .returning ∧ w' = w := by
  refine callsD_of_wpS Tryd.func42 rfl fun c₀ cs hu => ?_
  simp only [Tryd.ntmps42, List.size_toArray, List.length_cons, List.length_nil, Nat.reduceAdd, Nat.reduceSub, Array.replicate_succ, Array.replicate_zero, List.push_toArray, List.append_toArray, List.nil_append, List.cons_append]
  apply wpS_seq
  apply wpS_region
  simp [wpOpsS, go_sem, recoverD, hu, Exit.thenS]
  refine wpS_of_wp ?_
  go_wp2
  cases c₀
  simp_all [bodyPostS, results, Tryd.results42]

theorem zax {fn : Func} {tmps : Array Value} {R : Ending → World → Prop} {b : Nat} {x n : Int} {w : World} (hc : w.cell? ⟨b, 0, none⟩ = some (.int .i64 x)) (hz : w.frozen? ⟨b, 0, none⟩ = false) {d : Deferred}
    (hd : d = { target := .fn (.func 42) #[], args := #[.pointer (some ⟨b, 0, none⟩)] }) {v : Value} (hr : (results fn tmps).run Tryd.prog (w.setCell ⟨b, 0, none⟩ (.int .i64 n)) = .ok v (w.setCell ⟨b, 0, none⟩ (.int .i64 n))) (hR : R (.returned v) (w.setCell ⟨b, 0, none⟩ (.int .i64 n))) :
    Leaves Tryd.prog fn tmps R [d] (.panicking [{ v := .iface 114 (.int .i64 n), recovered := false }]) w := by
  subst hd
  refine leaves_cons (f := 42) (args := #[.pointer (some ⟨b, 0, none⟩)]) (by simp) (by simp [go_sem]) ?_
  refine (zii b x n w hc hz).mono ?_
  rintro e u' w'' ⟨rfl, rfl, rfl⟩
  simp only [settle]
  exact ⟨v, hr, hR⟩
theorem zbv {fn : Func} {tmps : Array Value} {R : Ending → World → Prop} {b : Nat} {w : World} {d : Deferred}
    (hd : d = { target := .fn (.func 42) #[], args := #[.pointer (some ⟨b, 0, none⟩)] }) {v : Value} (hr : (results fn tmps).run Tryd.prog w = .ok v w) (hR : R (.returned v) w) :
    Leaves Tryd.prog fn tmps R [d] .returning w := by
  subst hd
  refine leaves_cons (f := 42) (args := #[.pointer (some ⟨b, 0, none⟩)]) (by simp) (by simp [go_sem]) ?_
  refine (zqj b w).mono ?_
  rintro e u' w'' ⟨rfl, rfl, rfl⟩
  simp only [settle, Leaves]
  exact ⟨v, hr, hR⟩
set_option maxHeartbeats 400000 in
set_option maxRecDepth 100000 in
theorem zgs (m : Nat) (b : Nat) (x n : Int) (w : World) (hc : w.cell? ⟨b, 0, none⟩ = some (.int .i64 x)) (hz : w.frozen? ⟨b, 0, none⟩ = false) :
    CallsDIn Fence.wide m Tryd.prog 42 #[.pointer (some ⟨b, 0, none⟩)] (.panicking [{ v := .iface 114 (.int .i64 n), recovered := false }]) w fun e u' w' =>
      e = .returned (.tuple #[]) ∧ u' = .panicking [{ v := .iface 114 (.int .i64 n), recovered := true }] ∧ w' = w.setCell ⟨b, 0, none⟩ (.int .i64 n) := by
  refine callsDIn_of_wpSIn Tryd.func42 rfl trivial fun c₀ cs hu => ?_
  simp only [Tryd.ntmps42, List.size_toArray, List.length_cons, List.length_nil, Nat.reduceAdd, Nat.reduceSub, Array.replicate_succ, Array.replicate_zero, List.push_toArray, List.append_toArray, List.nil_append, List.cons_append]
  apply wpSIn_seq
  apply wpSIn_region
  simp [wpOpsSIn, go_sem, recoverD, hu, Exit.thenS, Fence.wide, Oper.about, resolve, Target.leads]
  refine wpSIn_of_wpIn rfl (wpIn_wide.2 ?_)
  clear hu
  have hta : ∀ w : World, (Instr.typeAssert (.iface 114 (.int .i64 n)) 20 114 true).run Tryd.prog w = .ok (.tuple #[.int .i64 n, .bool true]) w := fun _ => by kernel_rfl
  go_wp2
  exact ⟨rfl, _, rfl, _, results_none rfl _ _ _, rfl, rfl, rfl⟩
set_option maxHeartbeats 400000 in
set_option maxRecDepth 100000 in
theorem zms (m : Nat) (b : Nat) (w : World) :
    CallsDIn Fence.wide m Tryd.prog 42 #[.pointer (some ⟨b, 0, none⟩)] .returning w fun e u' w' => e = .returned (.tuple #[]) ∧ u' = .returning ∧ w' = w := by
  refine callsDIn_of_wpSIn Tryd.func42 rfl trivial fun c₀ cs hu => ?_
  simp only [Tryd.ntmps42, List.size_toArray, List.length_cons, List.length_nil, Nat.reduceAdd, Nat.reduceSub, Array.replicate_succ, Array.replicate_zero, List.push_toArray, List.append_toArray, List.nil_append, List.cons_append]
  apply wpSIn_seq
  apply wpSIn_region
  simp [wpOpsSIn, go_sem, recoverD, hu, Exit.thenS, Fence.wide, Oper.about, resolve, Target.leads]
  refine wpSIn_of_wpIn rfl (wpIn_wide.2 ?_)
  go_wp2
  cases c₀
  simp_all [bodyPostS, results, Tryd.results42]
theorem zes {fn : Func} {m : Nat} {tmps : Array Value} {R : Ending → World → Prop} {b : Nat} {x n : Int} {w : World} (hc : w.cell? ⟨b, 0, none⟩ = some (.int .i64 x)) (hz : w.frozen? ⟨b, 0, none⟩ = false) {d : Deferred}
    (hd : d = { target := .fn (.func 42) #[], args := #[.pointer (some ⟨b, 0, none⟩)] }) {v : Value} (hr : (results fn tmps).run Tryd.prog (w.setCell ⟨b, 0, none⟩ (.int .i64 n)) = .ok v (w.setCell ⟨b, 0, none⟩ (.int .i64 n))) (hR : R (.returned v) (w.setCell ⟨b, 0, none⟩ (.int .i64 n))) :
    LeavesInM Fence.wide m Tryd.prog fn tmps R [d] (.panicking [{ v := .iface 114 (.int .i64 n), recovered := false }]) w := by
  subst hd
  refine ⟨by simp, .inr ⟨fun h => by simp [Fence.wide] at h, .func 42, #[], 42, #[.pointer (some ⟨b, 0, none⟩)], rfl, by simp [go_sem], fun _ _ => trivial, ?_⟩⟩
  refine (zgs _ b x n w hc hz).mono ?_
  rintro e u' w'' ⟨rfl, rfl, rfl⟩
  simp only [settle]
  exact ⟨v, hr, hR⟩
theorem znw {fn : Func} {m : Nat} {tmps : Array Value} {R : Ending → World → Prop} {b : Nat} {w : World} {d : Deferred}
    (hd : d = { target := .fn (.func 42) #[], args := #[.pointer (some ⟨b, 0, none⟩)] }) {v : Value} (hr : (results fn tmps).run Tryd.prog w = .ok v w) (hR : R (.returned v) w) :
    LeavesInM Fence.wide m Tryd.prog fn tmps R [d] .returning w := by
  subst hd
  refine ⟨by simp, .inr ⟨fun h => by simp [Fence.wide] at h, .func 42, #[], 42, #[.pointer (some ⟨b, 0, none⟩)], rfl, by simp [go_sem], fun _ _ => trivial, ?_⟩⟩
  refine (zms _ b w).mono ?_
  rintro e u' w'' ⟨rfl, rfl, rfl⟩
  simp only [settle]
  exact ⟨v, hr, hR⟩
end Go.Proofs.YtlkhjnpflohfeaaDoor

/- A region that draws its order: reads, that give the same in each world of a class, and a spine of operations each of which waits for the one ahead. It is walked as if all reads came first. A call of the spine may panic. -/
namespace Go.Proofs.YtlkhjnpflohfeaaDoor
open Go
section
variable {P : Program} {ops : Array Oper} {C : World → Prop}

def spB (ops : Array Oper) (N : Nat) (hs ps : List Nat) : Bool :=
  Region.noSelect ops && decide (hs.Pairwise (· < ·)) && decide ps.Nodup && (hs.all fun i => !ps.contains i) && (hs ++ ps).all (fun i => decide (i < ops.size)) &&
  ((List.range ops.size).all fun i => hs.contains i || ps.contains i) &&
  ((hs ++ ps).all fun i => match ops[i]? with | some o => o.guard == none && o.after.all fun e => !Region.binds .any e || decide (e.on < i) | none => false) &&
  (hs.all fun j => match dstOf ops j with | some d => decide (d < N) && (hs ++ ps).all fun k => k == j || dstOf ops k != some d | none => true) &&
  (hs.all fun i => match ops[i]? with | some o => (o.looksAt ops).all fun d => (hs.all fun j => dstOf ops j != some d || (decide (j < i) && edgeB o j)) && ps.all fun j => dstOf ops j != some d | none => false) &&
  (ps.all fun i => match ops[i]? with | some o => (o.looksAt ops).all fun d => hs.all fun j => dstOf ops j != some d || edgeB o j | none => false) &&
  ((ps.zip ps.tail).all fun (i, k) => match ops[k]? with | some o => edgeB o i | none => false)

abbrev wpRd (P : Program) (ops : Array Oper) (C : World → Prop) (Pan : Act → Prop) : List Nat → Act → Prop := wpPanG ops (fun o a v => ∀ w, C w → (execOp a.eval o).run P w = .ok (.value v) w) Pan
def SpPost (C : World → Prop) (QP : List PanicEntry → World → Prop) (K : Value → World → Prop) (e : Ending) (w : World) : Prop :=
  match e with | .returned v => C w ∧ K v w | .panicked c => QP c w | .outgrown => False
def wpSp (P : Program) (ops : Array Oper) (C : World → Prop) (QP : Nat → List PanicEntry → World → Prop) (Q : Act → World → Prop) : List Nat → Act → World → Prop
  | [], a, w => Q a w
  | i :: rest, a, w => ∃ o, ops[i]? = some o ∧ match (execOp a.eval o).run P w with
    | .ok (.value v) w' => C w' ∧ wpSp P ops C QP Q rest (a.put o.dst v) w'
    | .ok .skip w' => C w' ∧ wpSp P ops C QP Q rest (a.put o.dst undef) w'
    | .ok (.enter f args) w' => Calls P f args w' (SpPost C (QP i) fun v w'' => wpSp P ops C QP Q rest (a.put o.dst v) w'')
    | .halt (.panic v) w' => QP i [{ v, recovered := false }] w'
    | _ => False

theorem sp_val {QP : Nat → List PanicEntry → World → Prop} {Q : Act → World → Prop} {i : Nat} {rest : List Nat} {a : Act} {w w' : World} {o : Oper} {v : Value} (ho : ops[i]? = some o) (hr : (execOp a.eval o).run P w = .ok (.value v) w') (hC : C w') (h : wpSp P ops C QP Q rest (a.put o.dst v) w') : wpSp P ops C QP Q (i :: rest) a w :=
  ⟨o, ho, by rw [hr]; exact ⟨hC, h⟩⟩
theorem zpa {QP : Nat → List PanicEntry → World → Prop} {Q : Act → World → Prop} {i : Nat} {rest : List Nat} {a : Act} {w w' : World} {o : Oper} (ho : ops[i]? = some o) (hr : (execOp a.eval o).run P w = .ok .skip w') (hC : C w') (h : wpSp P ops C QP Q rest (a.put o.dst undef) w') : wpSp P ops C QP Q (i :: rest) a w :=
  ⟨o, ho, by rw [hr]; exact ⟨hC, h⟩⟩
theorem zgy {QP : Nat → List PanicEntry → World → Prop} {Q : Act → World → Prop} {i : Nat} {rest : List Nat} {a : Act} {w : World} {o : Oper} (f : FuncId) (args : Array Value) (ho : ops[i]? = some o) (hr : (execOp a.eval o).run P w = .ok (.enter f args) w) (h : Calls P f args w (SpPost C (QP i) fun v w'' => wpSp P ops C QP Q rest (a.put o.dst v) w'')) : wpSp P ops C QP Q (i :: rest) a w :=
  ⟨o, ho, by rw [hr]; exact h⟩
theorem sp_nil {QP : Nat → List PanicEntry → World → Prop} {Q : Act → World → Prop} {a : Act} {w : World} (h : Q a w) : wpSp P ops C QP Q [] a w := h

structure Beside (ops : Array Oper) (vals : Nat → Value) (hs : List Nat) (S : Nat → Prop) (a b : Act) : Prop where
  size : a.tmps.size = b.tmps.size
  defers : a.defers = b.defers
  done : ∀ j d, j ∈ hs → S j → dstOf ops j = some d → a.tmps.getD d undef = vals j
  all : ∀ j d, j ∈ hs → dstOf ops j = some d → b.tmps.getD d undef = vals j
  left : ∀ d, (∀ j, j ∈ hs → dstOf ops j ≠ some d) → a.tmps.getD d undef = b.tmps.getD d undef

theorem Beside.read {vals : Nat → Value} {a b : Act} {hs : List Nat} {S : Nat → Prop} (h : Beside ops vals hs S a b) {i : Nat} (hi : i ∈ hs)
    (hd : ∀ j d, j ∈ hs → dstOf ops j = some d → d < a.tmps.size ∧ ∀ k, k ∈ hs → k ≠ j → dstOf ops k ≠ some d) :
    Beside ops vals hs (fun j => S j ∨ j = i) (a.put (dstOf ops i) (vals i)) b := by
  cases he : dstOf ops i with
  | none =>
    refine ⟨h.size, h.defers, fun j d hj hS hjd => ?_, h.all, h.left⟩
    rcases hS with hS | rfl
    · exact h.done j d hj hS hjd
    · rw [he] at hjd; cases hjd
  | some e =>
    refine ⟨by simp [Act.put, h.size], h.defers, fun j d hj hS hjd => ?_, h.all, fun d hn => ?_⟩
    · by_cases hji : j = i
      · subst hji
        rw [he] at hjd; cases hjd
        exact zda (hd _ _ hj he).1
      · have hne : e ≠ d := fun e' => (hd i e hi he).2 j hj hji (by rw [e']; exact hjd)
        show ((a.tmps.setIfInBounds e (vals i)).getD d undef) = _
        rw [zay hne]
        rcases hS with hS | rfl
        · exact h.done j d hj hS hjd
        · exact absurd rfl hji
    · have hne : e ≠ d := fun e' => hn i hi (by rw [he, e'])
      show ((a.tmps.setIfInBounds e (vals i)).getD d undef) = _
      rw [zay hne]; exact h.left d hn
theorem Beside.spine {vals : Nat → Value} {a b : Act} {hs : List Nat} {S : Nat → Prop} (h : Beside ops vals hs S a b) {t : Option Tmp} (ht : ∀ j, j ∈ hs → ∀ d, t = some d → dstOf ops j ≠ some d) (v : Value) :
    Beside ops vals hs S (a.put t v) (b.put t v) := by
  cases t with
  | none => exact h
  | some e =>
    refine ⟨by simp [Act.put, h.size], h.defers, fun j d hj hS hjd => ?_, fun j d hj hjd => ?_, fun d hn => ?_⟩
    · have hne : e ≠ d := fun e' => ht j hj e rfl (by rw [e']; exact hjd)
      show ((a.tmps.setIfInBounds e v).getD d undef) = _
      rw [zay hne]; exact h.done j d hj hS hjd
    · have hne : e ≠ d := fun e' => ht j hj e rfl (by rw [e']; exact hjd)
      show ((b.tmps.setIfInBounds e v).getD d undef) = _
      rw [zay hne]; exact h.all j d hj hjd
    · show ((a.tmps.setIfInBounds e v).getD d undef) = ((b.tmps.setIfInBounds e v).getD d undef)
      by_cases hde : e = d
      · subst hde
        simp [h.size]
      · rw [zay hde, zay hde]; exact h.left d hn
theorem Beside.eq {vals : Nat → Value} {a b : Act} {hs : List Nat} {S : Nat → Prop} (h : Beside ops vals hs S a b) (hS : ∀ j, j ∈ hs → S j) : a = b := by
  have ht : a.tmps = b.tmps := by
    refine Array.ext h.size fun i h1 h2 => ?_
    have : a.tmps.getD i undef = b.tmps.getD i undef := by
      by_cases hex : ∃ j, j ∈ hs ∧ dstOf ops j = some i
      · obtain ⟨j, hj, hji⟩ := hex
        rw [h.done j i hj (hS j hj) hji, h.all j i hj hji]
      · exact h.left i fun j hj e => hex ⟨j, hj, e⟩
    simpa [h1, h2] using this
  cases a; cases b
  simp only at ht
  have := h.defers
  simp only at this
  rw [ht, this]

theorem zxj {Q : Exit → Act → World → Prop} {a0 : Act} {w0 : World} {QP : Nat → List PanicEntry → World → Prop} (hs ps : List Nat) (hB : spB ops a0.tmps.size hs ps = true) (hC : C w0)
    (h : wpRd P ops C (fun a => wpSp P ops C QP (Q .normal) ps a w0) hs a0)
    (hQ : ∀ i c w' a', QP i c w' → a'.defers = a0.defers → (∀ d, ((hs ++ ps.takeWhile (· != i)).all fun j => dstOf ops j != some d) = true → a'.tmps.getD d undef = a0.tmps.getD d undef) → Q (.panic c) a' w') :
    wpAny P .any ops Q ops.size (Array.replicate ops.size false) a0 w0 := by
  simp only [spB, Bool.and_eq_true, decide_eq_true_eq] at hB
  obtain ⟨⟨⟨⟨⟨⟨⟨⟨⟨⟨hsel, hpw⟩, hpn⟩, hhp⟩, hlts⟩, hpart⟩, hgd⟩, hdst⟩, hlkh⟩, hlkp⟩, hch⟩ := hB
  have hns := Region.noSelect_spec hsel
  have hhp' : ∀ i, i ∈ hs → i ∉ ps := fun i hi h => by
    have := List.all_eq_true.1 hhp i hi
    rw [List.contains_iff_mem.2 h] at this; cases this
  have hd : ∀ j d, j ∈ hs → dstOf ops j = some d → d < a0.tmps.size ∧ ∀ k, k ∈ hs ++ ps → k ≠ j → dstOf ops k ≠ some d := fun j d hj hjd => by
    have := List.all_eq_true.1 hdst j hj
    simp only [hjd, Bool.and_eq_true, decide_eq_true_eq] at this
    refine ⟨this.1, fun k hk hkj => ?_⟩
    have h2 := List.all_eq_true.1 this.2 k hk
    simpa [hkj] using h2
  have hlookh : ∀ i o, i ∈ hs → ops[i]? = some o → ∀ d ∈ o.looksAt ops, (∀ j, j ∈ hs → dstOf ops j = some d → j < i ∧ edgeB o j = true) ∧ ∀ j, j ∈ ps → dstOf ops j ≠ some d := fun i o hi ho d hdl => by
    have := List.all_eq_true.1 hlkh i hi
    simp only [ho] at this
    have h2 := List.all_eq_true.1 this d hdl
    simp only [Bool.and_eq_true] at h2
    refine ⟨fun j hj hjd => ?_, fun j hj hjd => ?_⟩
    · have h3 := List.all_eq_true.1 h2.1 j hj
      simp only [hjd, bne_self_eq_false, Bool.false_or, Bool.and_eq_true, decide_eq_true_eq] at h3
      exact h3
    · have h3 := List.all_eq_true.1 h2.2 j hj
      simp [hjd] at h3
  have hlookp : ∀ i o, i ∈ ps → ops[i]? = some o → ∀ d ∈ o.looksAt ops, ∀ j, j ∈ hs → dstOf ops j = some d → edgeB o j = true := fun i o hi ho d hdl j hj hjd => by
    have := List.all_eq_true.1 hlkp i hi
    simp only [ho] at this
    have h2 := List.all_eq_true.1 this d hdl
    have h3 := List.all_eq_true.1 h2 j hj
    simpa [hjd] using h3
  have hguard : ∀ i o, i ∈ hs ++ ps → ops[i]? = some o → o.guard = none ∧ ∀ e ∈ o.after, Region.binds .any e = true → e.on < i := fun i o hi ho => by
    have := List.all_eq_true.1 hgd i hi
    simp only [ho, Bool.and_eq_true] at this
    refine ⟨?_, fun e he hb => ?_⟩
    · cases hg : o.guard with
      | none => rfl
      | some g => rw [hg] at this; simp at this
    · have h2 := Array.all_eq_true'.1 this.2 e he
      simpa [hb] using h2
  have hkind : ∀ i, i < ops.size → i ∈ hs ∨ i ∈ ps := fun i hi => by
    have := List.all_eq_true.1 hpart i (List.mem_range.2 hi)
    simpa using this
  have hchain : ∀ l i k r, ps = l ++ i :: k :: r → ∀ o, ops[k]? = some o → edgeB o i = true := fun l i k r e o ho => by
    have : (i, k) ∈ ps.zip ps.tail := by
      rw [e]
      clear hch e
      induction l with
      | nil => simp
      | cons x l ih =>
        cases l with
        | nil => simp
        | cons y l => simp only [List.cons_append, List.tail_cons, List.zip_cons_cons] at ih ⊢; exact List.mem_cons_of_mem _ ih
    have := List.all_eq_true.1 hch _ this
    simpa [ho] using this
  obtain ⟨vals, hv, hP⟩ := zgt hs a0 hpw h
  have hd0 : ∀ j d, j ∈ hs → dstOf ops j = some d → d < a0.tmps.size ∧ ∀ k, k ∈ hs ++ [] → k ≠ j → dstOf ops k ≠ some d := fun j d hj hjd => ⟨(hd j d hj hjd).1, fun k hk hkj => (hd j d hj hjd).2 k (List.mem_append_left _ (by simpa using hk)) hkj⟩
  have base : Agree ops vals a0 hs [] (fun _ => False) a0 := ⟨rfl, rfl, fun _ _ _ hF => hF.elim, fun _ _ => rfl⟩
  have full := zhs hd0 hs a0 _ (fun j hj => hj) base
  have beside0 : Beside ops vals hs (fun i => (Array.replicate ops.size false).getD i false = true) a0 (puts ops vals a0 hs) :=
    ⟨full.size.symm, full.defers.symm, fun j d _ hS => (zdr ops.size j hS).elim, fun j d hj hjd => full.done j d hj (.inr hj) hjd, fun d hn => (full.left d (fun j hj => hn j (by simpa using hj))).symm⟩
  -- the values of the reads, wherever they come
  have hread : ∀ i ∈ hs, ∃ o, ops[i]? = some o ∧ ∀ (a : Act), a.tmps.size = a0.tmps.size → (∀ d ∈ o.looksAt ops, (∀ j, j ∈ hs → dstOf ops j = some d → a.tmps.getD d undef = vals j) ∧ ((∀ j, j ∈ hs → dstOf ops j ≠ some d) → a.tmps.getD d undef = a0.tmps.getD d undef)) →
      ∀ w, C w → (execOp a.eval o).run P w = .ok (.value (vals i)) w := by
    intro i hi
    obtain ⟨l, r, e⟩ := List.append_of_mem hi
    obtain ⟨o, ho, hq⟩ := hv l i r e
    refine ⟨o, ho, fun a hsz ha w hw => ?_⟩
    have hag := zhs hd0 l a0 _ (fun j hj => by rw [e]; exact List.mem_append_left _ hj) base
    have hsame : execOp a.eval o = execOp (puts ops vals a0 l).eval o := execOp_congr o (hns i o · · ho) fun x hx => by
      cases x with
      | const v => rfl
      | global g => rfl
      | func f => rfl
      | tmp t =>
        have ht : t ∈ o.looksAt ops := List.mem_append_left _ (List.mem_filterMap.2 ⟨.tmp t, by simpa using hx, rfl⟩)
        show a.tmps.getD t undef = (puts ops vals a0 l).tmps.getD t undef
        by_cases hex : ∃ j, j ∈ hs ∧ dstOf ops j = some t
        · obtain ⟨j, hj, hjt⟩ := hex
          rw [(ha t ht).1 j hj hjt]
          refine (hag.done j t hj (.inr ?_) hjt).symm
          have hji := ((hlookh i o hi ho t ht).1 j hj hjt).1
          rw [e] at hj hpw
          rcases List.mem_append.1 hj with h4 | h4
          · exact h4
          · rcases List.mem_cons.1 h4 with rfl | h4
            · omega
            · have := (List.pairwise_cons.1 (List.pairwise_append.1 hpw).2.1).1 j h4
              omega
        · have hn : ∀ j, j ∈ hs → dstOf ops j ≠ some t := fun j hj e => hex ⟨j, hj, e⟩
          rw [(ha t ht).2 hn, hag.left t (fun j hj => hn j (by simpa using hj))]
    rw [hsame]
    exact hq w hw
  have hedge : ∀ (o : Oper) (j : Nat) (listed : Array Bool), edgeB o j = true → (∀ e ∈ o.after, Region.binds .any e = true → listed.getD e.on false = true) → listed.getD j false = true := fun o j listed he hall => by
    obtain ⟨e, hem, hb⟩ := Array.any_eq_true'.1 he
    simp only [Bool.and_eq_true, beq_iff_eq] at hb
    rw [← hb.2]; exact hall e hem hb.1
  have hlt : ∀ i, i ∈ hs ++ ps → i < ops.size := fun i hi => by simpa using List.all_eq_true.1 hlts i hi
  have hput : ∀ (listed : Array Bool) i j, listed.size = ops.size → i < ops.size → ((listed.setIfInBounds i true).getD j false = true ↔ listed.getD j false = true ∨ j = i) := fun listed i j hsz hi => by
    by_cases hij : i = j
    · subst hij; simp [hsz, hi]
    · rw [getD_set_ne false hij]; simp [Ne.symm hij]
  have hfin : ∀ (listed : Array Bool) (pr : List Nat) (a b : Act) (w : World), (∀ i ∈ pr, i ∈ ps) → listed.size = ops.size → (∀ i ∈ pr, listed.getD i false = false) → (∀ i, i < ops.size → listed.getD i true = true) → Beside ops vals hs (fun i => listed.getD i false = true) a b →
      wpSp P ops C QP (Q .normal) pr b w → Q .normal a w := fun listed pr a b w hpp hsz hpr hl hbe h => by
    have hl' : ∀ i, i < ops.size → listed.getD i false = true := by
      intro i hi
      have h1 := hl i hi
      have h' : i < listed.size := by omega
      simp [h'] at h1 ⊢; exact h1
    cases pr with
    | nil =>
      rw [hbe.eq fun j hj => hl' j (hlt j (List.mem_append_left _ hj))]
      exact h
    | cons p rest =>
      have h1 := hpr p (by simp)
      rw [hl' p (hlt p (List.mem_append_right _ (hpp p (by simp))))] at h1
      cases h1
  have main : ∀ (f : Nat) (listed : Array Bool) (pd pr : List Nat) (a b : Act) (w : World), ps = pd ++ pr → listed.size = ops.size → (∀ i ∈ pd, listed.getD i false = true) → (∀ i ∈ pr, listed.getD i false = false) → pr.Nodup → ((List.range ops.size).filter fun i => !listed.getD i true).length ≤ f →
      Beside ops vals hs (fun i => listed.getD i false = true) a b → b.tmps.size = a0.tmps.size → b.defers = a0.defers → (∀ d, (∀ j, j ∈ hs ++ pd → dstOf ops j ≠ some d) → b.tmps.getD d undef = a0.tmps.getD d undef) → C w →
      wpSp P ops C QP (Q .normal) pr b w → wpAny P .any ops Q f listed a w := by
    intro f
    induction f with
    | zero =>
      intro listed pd pr a b w hps hsz hpd hpr hnd hcnt hbe hbs hbd hbl hw h
      have hnil := List.length_eq_zero_iff.1 (Nat.le_zero.1 hcnt)
      have hl : ∀ i, i < ops.size → listed.getD i true = true := fun i hi => by
        cases hq : listed.getD i true with
        | true => rfl
        | false =>
          have : i ∈ (List.range ops.size).filter fun i => !listed.getD i true := List.mem_filter.2 ⟨List.mem_range.2 hi, by rw [hq]; rfl⟩
          rw [hnil] at this; cases this
      refine ⟨?_, hfin listed pr a b w (fun i hi => by rw [hps]; exact List.mem_append_right _ hi) hsz hpr hl hbe h⟩
      refine List.eq_nil_iff_forall_not_mem.2 fun i hi => ?_
      obtain ⟨hun, o, ho, _⟩ := mem_ready.1 hi
      rw [hl i (Array.getElem?_eq_some_iff.1 ho).1] at hun; cases hun
    | succ f ih =>
      intro listed pd pr a b w hps hsz hpd hpr hnd hcnt hbe hbs hbd hbl hw h
      refine ⟨fun h0 => ?_, fun i hi => ?_⟩
      · refine hfin listed pr a b w (fun i hi => by rw [hps]; exact List.mem_append_right _ hi) hsz hpr ?_ hbe h
        intro i
        induction i using Nat.strongRecOn with
        | ind i ihi =>
          intro hi
          cases hq : listed.getD i true with
          | true => rfl
          | false =>
            have : i ∈ Region.ready .any ops listed := mem_ready.2 ⟨hq, ops[i], by simp [hi], fun e he hb => by
              have hei := (hguard i ops[i] (by simpa using hkind i hi) (by simp [hi])).2 e he hb
              have h3 := ihi e.on hei (by omega)
              have h4 : e.on < listed.size := by omega
              simp [h4] at h3 ⊢; exact h3⟩
            rw [h0] at this; cases this
      · obtain ⟨hun, o, ho, hall⟩ := mem_ready.1 hi
        have hilt : i < ops.size := (Array.getElem?_eq_some_iff.1 ho).1
        have hunf : listed.getD i false = false := by
          have h4 : i < listed.size := by omega
          simp [h4] at hun ⊢; exact hun
        have hcnt' : ((List.range ops.size).filter fun j => !(listed.setIfInBounds i true).getD j true).length ≤ f := by
          have := cnt_lt (fun j => !listed.getD j true) (fun j => !(listed.setIfInBounds i true).getD j true) ops.size i hilt (fun j hj => by
            by_cases hij : i = j
            · subst hij; simp [hsz, hilt] at hj
            · rwa [getD_set_ne true hij] at hj) (by rw [hun]; rfl) (by simp [hsz, hilt])
          omega
        have hg := (hguard i o (by simpa using hkind i hilt) ho).1
        have hwt : Region.wanted o (yielded ops a.tmps) = true := by unfold Region.wanted; rw [hg]
        have hdi : dstOf ops i = o.dst := by unfold dstOf; rw [ho]; rfl
        have hpd' : ∀ j ∈ pd, (listed.setIfInBounds i true).getD j false = true := fun j hj => (hput listed i j hsz hilt).2 (.inl (hpd j hj))
        have hsz' : (listed.setIfInBounds i true).size = ops.size := by simp [hsz]
        have hd1 : ∀ j d, j ∈ hs → dstOf ops j = some d → d < a.tmps.size ∧ ∀ k, k ∈ hs → k ≠ j → dstOf ops k ≠ some d := fun j d hj hjd => ⟨by rw [hbe.size, hbs]; exact (hd j d hj hjd).1, fun k hk => (hd j d hj hjd).2 k (List.mem_append_left _ hk)⟩
        rcases hkind i hilt with hk | hk
        · obtain ⟨o', ho', hr⟩ := hread i hk
          rw [ho] at ho'; cases ho'
          have hr := hr a (hbe.size.trans hbs) (fun d hdl => ⟨fun j hj hjd => hbe.done j d hj (hedge o j listed ((hlookh i o hk ho d hdl).1 j hj hjd).2 hall) hjd, fun hn => by
            rw [hbe.left d hn]
            refine hbl d fun j hj => ?_
            rcases List.mem_append.1 hj with hj | hj
            · exact hn j hj
            · exact (hlookh i o hk ho d hdl).2 j (by rw [hps]; exact List.mem_append_left _ hj)⟩) w hw
          have hnext : wpAny P .any ops Q f (listed.setIfInBounds i true) (a.put o.dst (vals i)) w := by
            rw [← hdi]
            refine ih _ pd pr _ b w hps hsz' hpd' (fun j hj => ?_) hnd hcnt' ?_ hbs hbd hbl hw h
            · have hne : j ≠ i := fun e => hhp' i hk (by rw [hps, ← e]; exact List.mem_append_right _ hj)
              rw [getD_set_ne false (Ne.symm hne)]; exact hpr j hj
            · have h5 := hbe.read hk hd1
              exact ⟨h5.size, h5.defers, fun j d hj hS hjd => h5.done j d hj ((hput listed i j hsz hilt).1 hS) hjd, h5.all, h5.left⟩
          unfold wpOp
          simp only [ho]
          rw [if_pos hwt]
          left
          unfold Oper.wp
          rw [hr]; exact hnext
        · have hnpd : i ∉ pd := fun h' => by rw [hpd i h'] at hunf; cases hunf
          have hipr : i ∈ pr := by
            rw [hps] at hk
            exact (List.mem_append.1 hk).resolve_left hnpd
          cases pr with
          | nil => cases hipr
          | cons p rest =>
            have hip : i = p := by
              rcases List.mem_cons.1 hipr with e | hir
              · exact e
              · exfalso
                obtain ⟨l1, r1, e1⟩ := List.append_of_mem hir
                obtain ⟨l2, k, e2⟩ : ∃ l2 k, p :: l1 = l2 ++ [k] := ⟨(p :: l1).dropLast, (p :: l1).getLast (by simp), (List.dropLast_concat_getLast (by simp)).symm⟩
                have e3 : ps = (pd ++ l2) ++ k :: i :: r1 := by
                  rw [hps, e1, ← List.cons_append, e2]; simp
                have h6 := hedge o k listed (hchain _ k i r1 e3 o ho) hall
                have h7 := hpr k (by rw [e1, ← List.cons_append, e2]; simp)
                rw [h6] at h7; cases h7
            subst hip
            obtain ⟨o', ho', hm⟩ := h
            rw [ho] at ho'; cases ho'
            have hsame : execOp a.eval o = execOp b.eval o := execOp_congr o (hns i o · · ho) fun x hx => by
              cases x with
              | const v => rfl
              | global g => rfl
              | func f => rfl
              | tmp t =>
                have ht : t ∈ o.looksAt ops := List.mem_append_left _ (List.mem_filterMap.2 ⟨.tmp t, by simpa using hx, rfl⟩)
                show a.tmps.getD t undef = b.tmps.getD t undef
                by_cases hex : ∃ j, j ∈ hs ∧ dstOf ops j = some t
                · obtain ⟨j, hj, hjt⟩ := hex
                  rw [hbe.done j t hj (hedge o j listed (hlookp i o hk ho t ht j hj hjt) hall) hjt, hbe.all j t hj hjt]
                · exact hbe.left t fun j hj e => hex ⟨j, hj, e⟩
            have htw : ps.takeWhile (· != i) = pd := by
              rw [hps, List.takeWhile_append_of_pos (fun j hj => by simpa using (fun e => hnpd (e ▸ hj) : j ≠ i))]
              simp
            have hpan : ∀ c w', QP i c w' → Q (.panic c) a w' := fun c w' hc => hQ i c w' a hc (hbe.defers.trans hbd) fun d hn => by
              rw [htw] at hn
              have hn' : ∀ j, j ∈ hs ++ pd → dstOf ops j ≠ some d := fun j hj => by simpa using List.all_eq_true.1 hn j hj
              rw [hbe.left d fun j hj => hn' j (List.mem_append_left _ hj)]; exact hbl d hn'
            have hnext : ∀ v w', C w' → wpSp P ops C QP (Q .normal) rest (b.put o.dst v) w' → wpAny P .any ops Q f (listed.setIfInBounds i true) (a.put o.dst v) w' := fun v w' hC' h' => by
              refine ih _ (pd ++ [i]) rest _ (b.put o.dst v) w' (by rw [hps]; simp) hsz' (fun j hj => ?_) (fun j hj => ?_) (List.nodup_cons.1 hnd).2 hcnt' ?_ ?_ ?_ ?_ hC' h'
              · rcases List.mem_append.1 hj with hj | hj
                · exact hpd' j hj
                · exact (hput listed i j hsz hilt).2 (.inr (by simpa using hj))
              · have hne : j ≠ i := fun e => (List.nodup_cons.1 hnd).1 (e ▸ hj)
                rw [getD_set_ne false (Ne.symm hne)]; exact hpr j (by simp [hj])
              · have h5 := hbe.spine (t := o.dst) (fun j hj d hd' hjd => by
                  rw [← hdi] at hd'
                  exact (hd j d hj hjd).2 i (List.mem_append_right _ hk) (fun e => hhp' j hj (e ▸ hk)) hd') v
                refine ⟨h5.size, h5.defers, fun j d hj hS hjd => h5.done j d hj ?_ hjd, h5.all, h5.left⟩
                exact ((hput listed i j hsz hilt).1 hS).elim id fun e => absurd (e ▸ hk) (hhp' j hj)
              · rw [← hbs]
                cases o.dst <;> simp [Act.put]
              · rw [← hbd]
                cases o.dst <;> rfl
              · intro d hn
                rw [← hbl d fun j hj => hn j ((List.mem_append.1 hj).elim (fun h' => List.mem_append_left _ h') fun h' => List.mem_append_right _ (List.mem_append_left _ h'))]
                cases ht : o.dst with
                | none => rfl
                | some e =>
                  have hne : e ≠ d := fun e' => hn i (List.mem_append_right _ (List.mem_append_right _ (by simp))) (by rw [hdi, ht, e'])
                  show ((b.tmps.setIfInBounds e v).getD d undef) = _
                  rw [zay hne]
            unfold wpOp
            simp only [ho]
            rw [if_pos hwt]
            left
            unfold Oper.wp
            rw [hsame]
            generalize (execOp b.eval o).run P w = res at *
            cases res with
            | ok x w' =>
              cases x <;> simp only at hm
              case value => exact hnext _ _ hm.1 hm.2
              case skip => exact hnext _ _ hm.1 hm.2
              case enter =>
                refine hm.mono fun e w'' he => ?_
                cases e with
                | returned v => exact hnext _ _ he.1 he.2
                | panicked c => exact hpan _ _ he
                | outgrown => exact he.elim
            | halt x w' =>
              cases x <;> simp only at hm
              case panic => exact hpan _ _ hm
  refine main ops.size _ [] ps a0 _ w0 rfl (by simp) (fun i hi => by cases hi) (fun i _ => ?_) hpn (by exact Nat.le_trans (List.length_filter_le _ _) (by simp)) beside0 full.size full.defers ?_ hC hP
  · cases hq : (Array.replicate ops.size false).getD i false with
    | false => rfl
    | true => exact (zdr ops.size i hq).elim
  · exact fun d hn => full.left d fun j hj => hn j (List.mem_append_left _ (by simpa using hj))

theorem zei {id : Nat} {Q : Exit → Act → World → Prop} {a0 : Act} {w0 : World} {QP : Nat → List PanicEntry → World → Prop} (hs ps : List Nat) (hm : P.follows .mixedOrders = true) (hB : spB ops a0.tmps.size hs ps = true) (hC : C w0.drew)
    (h : wpRd P ops C (fun a => wpSp P ops C QP (Q .normal) ps a w0.drew) hs a0)
    (hQ : ∀ i c w' a', QP i c w' → a'.defers = a0.defers → (∀ d, ((hs ++ ps.takeWhile (· != i)).all fun j => dstOf ops j != some d) = true → a'.tmps.getD d undef = a0.tmps.getD d undef) → Q (.panic c) a' w') :
    (Code.region id ops true).wp P Q a0 w0 :=
  wp_region_any hm (zxj hs ps hB hC h hQ)
end
end Go.Proofs.YtlkhjnpflohfeaaDoor

/- The results of a function, one by one. -/
namespace Go.Proofs.YtlkhjnpflohfeaaDoor
open Go Go.Proofs Go.RowKit
section
variable {P : Program}
def readRes (tmps : Array Value) : ResultVar → Sem Value
  | .tmp t => pure (tmps.getD t undef)
  | .cell a t => do loadVar t (← asAddr (tmps.getD a undef))
theorem zhv (fn : Func) (tmps : Array Value) : results fn tmps = (do
    let vs ← fn.results.mapM (readRes tmps)
    pure (if h : vs.size = 1 then vs[0] else .tuple vs)) := by
  unfold results
  congr 2
theorem zbc {tmps : Array Value} {t : Tmp} {v : Value} {w : World} (h : tmps.getD t undef = v) : (readRes tmps (.tmp t)).run P w = .ok v w := by
  simp only [readRes]; rw [h]; rfl
theorem zaw {tmps : Array Value} {p : Tmp} {ty : TypeId} {w : World} (B : Nat) (v : Value) (hp : tmps.getD p undef = .pointer (some ⟨B, 0, none⟩)) (hc : w.cell? ⟨B, 0, none⟩ = some v) (hu : (P.underlying ty).map (fun d => match d with | .struct _ | .array _ _ => true | _ => false) = some false) :
    (readRes tmps (.cell p ty)).run P w = .ok v w := by
  simp only [readRes]
  rw [hp]
  have hl : (loadVar ty ⟨B, 0, none⟩).run P w = .ok v w := by
    unfold loadVar isAgg
    cases hd : P.underlying ty with
    | none => rw [hd] at hu; cases hu
    | some d =>
      rw [hd] at hu
      simp only [Option.map_some, Option.some.injEq] at hu
      cases d <;> simp at hu <;> simp [Sem.run_bind, run_underlying hd, Result.andThen, load, Sem.run, hc]
  simp [asAddr, hl]
theorem zge {tmps : Array Value} {p : Tmp} {ty : TypeId} {w : World} (B : Nat) (T : TypeId) (cs : List Value) (d : TypeDesc) (hp : tmps.getD p undef = .pointer (some ⟨B, 0, none⟩)) (hg : Blk w B T cs)
    (hu : P.underlying ty = some d) (hd : (match d with | .struct _ | .array _ _ => true | _ => false) = true) (hi : (P.info? ty).map (·.size) = some cs.length) :
    (readRes tmps (.cell p ty)).run P w = .ok (.agg cs.toArray) w := by
  simp only [readRes]
  rw [hp]
  simp [asAddr, run_loadVar_row w B T ty cs.toArray (0, 0) d hg hu hd (by simpa using hi)]
theorem results2 {fn : Func} {tmps : Array Value} {w : World} {r1 r2 : ResultVar} {v1 v2 : Value} (h : fn.results = #[r1, r2]) (h1 : (readRes tmps r1).run P w = .ok v1 w) (h2 : (readRes tmps r2).run P w = .ok v2 w) : (results fn tmps).run P w = .ok (.tuple #[v1, v2]) w := by
  rw [zhv, h]
  simp [h1, h2]
theorem results3 {fn : Func} {tmps : Array Value} {w : World} {r1 r2 r3 : ResultVar} {v1 v2 v3 : Value} (h : fn.results = #[r1, r2, r3]) (h1 : (readRes tmps r1).run P w = .ok v1 w) (h2 : (readRes tmps r2).run P w = .ok v2 w) (h3 : (readRes tmps r3).run P w = .ok v3 w) : (results fn tmps).run P w = .ok (.tuple #[v1, v2, v3]) w := by
  rw [zhv, h]
  simp [h1, h2, h3]
end
end Go.Proofs.YtlkhjnpflohfeaaDoor

/- The contract of open; opened and told, in a region's spine and outside one. -/
namespace Go.Proofs.YtlkhjnpflohfeaaDoor
open Go Go.Proofs Go.RowKit

theorem zdl {w w' : World} (h : Below w.drew.heap.size w.drew w') : Below w.heap.size w w' := ⟨h.os, h.tape, h.output, h.size, h.block⟩
theorem zrq {x : CutD} (h : headOf x = false) : Cut.valid x = false := by rw [zcg, h]; rfl
theorem zeb (fv : Value) (x : CutD) (ra ba la : Option Addr) (rc bc lc : Nat) (b : Bool) (w : World) (hin : CutIn w x ra ba la) (his : IsSo fv x ra ba rc bc b w) :
    Calls Tryd.prog 43 #[cutVal x ra ba la rc bc lc, fv] w fun e w' => OpenPost x b ra ba rc bc w e w' := by
  cases hh : headOf x with
  | false => exact (zuw fv x ra ba la rc bc lc w hh).mono fun e w' ⟨he, hb⟩ => by rw [he]; exact OpenPost.bad hb (zrq hh)
  | true =>
    cases hr : rainBad x.rain with
    | true => exact zuv fv x ra ba la rc bc lc b w hin hh hr
    | false => exact zut fv x ra ba la rc bc lc b w hin hh hr his

section
variable {C : World → Prop} {QP : List PanicEntry → World → Prop} {K : Value → World → Prop}
theorem zuu (fv : Value) (x : CutD) (ra ba la : Option Addr) (rc bc lc : Nat) (b : Bool) (w : World) (hin : CutIn w x ra ba la) (his : IsSo fv x ra ba rc bc b w)
    (hP : ∀ n w', n = toldErr x b → n ≠ 0 → Below w.heap.size w w' → QP [{ v := .iface 114 (.int .i64 n), recovered := false }] w')
    (hK : ∀ B M la' lc' w', Cut.valid x = true → b = true → w.heap.size ≤ B → w.heap.size ≤ M → Below w.heap.size w w' → CutAt w' B M x ra ba la' rc bc lc' → C w' ∧ K (.pointer (some ⟨B, 0, none⟩)) w') :
    Calls Tryd.prog 43 #[cutVal x ra ba la rc bc lc, fv] w (SpPost C QP K) := by
  refine (zeb fv x ra ba la rc bc lc b w hin his).mono fun e w' h => ?_
  obtain ⟨hb, h⟩ := h
  rcases h with ⟨hv, rfl⟩ | ⟨hv, rfl, rfl⟩ | ⟨hv, rfl, B, M, la', lc', hB, hM, rfl, hc⟩
  · exact hP _ _ (zbq hv).symm (by decide) hb
  · exact hP _ _ (zbz hv).symm (by decide) hb
  · exact hK B M la' lc' w' hv rfl hB hM hb hc
theorem ztw {B M : Nat} {x : CutD} {ra ba la : Option Addr} {rc bc lc : Nat} (w : World) (h : CutAt w B M x ra ba la rc bc lc) (hv : Cut.valid x = true)
    (hP : ∀ w', toldErr x true = 10 → Bel M w.heap.size w w' → QP [{ v := .iface 114 (.int .i64 10), recovered := false }] w')
    (hK : ∀ w', Cut.can x (Cut.every x) = true → Bel M w.heap.size w w' → CutAt w' B M x ra ba la rc bc lc → C w' ∧ K (.pointer (some ⟨B, 0, none⟩)) w') :
    Calls Tryd.prog 46 #[.pointer (some ⟨B, 0, none⟩)] w (SpPost C QP K) := by
  cases hc : Cut.can x (Cut.every x) with
  | true =>
    refine (zey w h hv hc).mono fun e w' ⟨he, hb, hk⟩ => ?_
    subst he
    exact hK w' hc hb (h.bel hb hk)
  | false =>
    refine (zgx w h hv hc).mono fun e w' ⟨he, hb, hk⟩ => ?_
    subst he
    exact hP w' (zbm hv hc) hb
end

theorem zus {P : Program} {ops : Array Oper} {C : World → Prop} {Pan : Act → Prop} {i : Nat} {rest : List Nat} {a : Act} {o : Oper} {v : Value} (ho : ops[i]? = some o) (hr : ∀ s : Cls C, (execOp a.eval o).run P s.W = .ok (.value v) s.W) (h : wpRd P ops C Pan rest (a.put o.dst v)) : wpRd P ops C Pan (i :: rest) a := by
  unfold wpRd wpPanG
  simp only [ho]
  exact ⟨v, fun w hw => hr ⟨w, hw⟩, h⟩
theorem zur {P : Program} {ops : Array Oper} {C : World → Prop} {Pan : Act → Prop} {a : Act} (h : Pan a) : wpRd P ops C Pan [] a := h
end Go.Proofs.YtlkhjnpflohfeaaDoor

/- Contract of Depth. -/
namespace Go.Proofs.YtlkhjnpflohfeaaDoor
open Go Go.Proofs Go.RowKit
section
variable {B M : Nat} {x : CutD} {ra ba la : Option Addr} {rc bc lc : Nat}

set_option maxHeartbeats 400000 in
theorem zsz (d : Int) (K : Nat) (w : World) (h : CutAt w B M x ra ba la rc bc lc) (hb : Blk w K 3 [.int .i64 d]) :
    Calls Tryd.prog 44 #[.pointer (some ⟨B, 0, none⟩), .pointer (some ⟨K, 0, none⟩)] w fun e w' => e = .returned (.bool (Cut.isDay x d)) ∧ w = w' := by
  have c := hb.cell 0 rfl
  have H := hide h
  clear h hb
  go_enter Tryd.func44, Tryd.ntmps44
  go_wp2_with (go_at_call 45; refine (zcu _ _ H.out).mono ?_; rintro e w' ⟨rfl, rfl⟩)
  go_ret
  exact ⟨rfl, rfl⟩
end

set_option maxHeartbeats 1000000 in
theorem zop (x : CutD) (d : Int) (ra ba la : Option Addr) (rc bc lc : Nat) (w : World) (hin : CutIn w x ra ba la) :
    Calls Tryd.prog 14 #[cutVal x ra ba la rc bc lc, .int .i64 d] w fun e w' => e = .returned (.tuple #[.agg #[.int .i64 (depthR x d).1.1, .int .i64 (depthR x d).1.2], .int .i64 (depthR x d).2]) ∧ Below w.heap.size w w' := by
  have HIN := hide hin
  clear hin
  unfold cutVal
  go_enter_defers Tryd.func14, Tryd.ntmps14
  go_wp2_with fail
  obtain ⟨w4, hw4⟩ : ∃ w4, ((((w.alloc (Obj.cells (cutCells x ra ba la rc bc lc).toArray 28)).alloc (Obj.cells #[Value.int IntKind.i64 d] 3)).alloc (Obj.cells #[Value.int IntKind.i64 0, Value.int IntKind.i64 0] 23)).alloc (Obj.cells #[Value.int IntKind.i64 0] 31)) = w4 := ⟨_, rfl⟩
  simp only [cutCells] at hw4
  rw [hw4]
  have hz4 : w4.heap.size = w.heap.size + 1 + 1 + 1 + 1 := by rw [← hw4]; simp
  have hb4 : Below w.heap.size w w4 := by rw [← hw4]; (repeat' first | (with_reducible assumption) | (with_reducible exact Below.refl _ _) | (with_reducible refine Below.drew ?_) | (with_reducible refine Below.setCell ?_ ?_ _) | (with_reducible refine Below.alloc ?_ ?_ _) | (refine Below.trans ?_ (Below.mono (by assumption) ?_)) | omega | (simp only [World.size_alloc] at *; omega))
  have b0 : Blk w4 w.heap.size 28 (cutCells x ra ba la rc bc lc) := by rw [← hw4]; exact ((((Blk.new' _ (cutCells x ra ba la rc bc lc) _ rfl).alloc _).alloc _).alloc _)
  have b1 : Blk w4 (w.heap.size + 1) 3 [.int .i64 d] := by rw [← hw4]; exact (((Blk.new' _ [_] _ (by simp)).alloc _).alloc _)
  have b2 : Blk w4 (w.heap.size + 1 + 1) 23 [.int .i64 0, .int .i64 0] := by rw [← hw4]; exact (Blk.new' _ [_, _] _ (by simp)).alloc _
  have b3 : Blk w4 (w.heap.size + 1 + 1 + 1) 31 [.int .i64 0] := by rw [← hw4]; exact Blk.new' _ [_] _ (by simp)
  have HIN4 := hide (HIN.out.below hb4)
  clear hw4
  refine zei (C := fun W => Blk W w.heap.size 28 (cutCells x ra ba la rc bc lc) ∧ Blk W (w.heap.size + 1) 3 [.int .i64 d]) (QP := fun i c W => (i = 2 ∨ i = 3) ∧ c = [{ v := .iface 114 (.int .i64 (toldErr x (Cut.isDay x d))), recovered := false }] ∧ toldErr x (Cut.isDay x d) ≠ 0 ∧ Below w4.heap.size w4 W) [0, 1, 4] [2, 3, 5, 6, 7] (by kernel_rfl) (by kernel_rfl) ⟨b0, b1⟩ ?_ ?_
  · have q0 : ∀ s : Cls (fun W => Blk W w.heap.size 28 (cutCells x ra ba la rc bc lc) ∧ Blk W (w.heap.size + 1) 3 [.int .i64 d]), s.W.cell? ⟨w.heap.size, 0, none⟩ = some (.int .i64 x.depth.1) := fun s => s.ok.1.cell 0 rfl
    have q1 : ∀ s : Cls (fun W => Blk W w.heap.size 28 (cutCells x ra ba la rc bc lc) ∧ Blk W (w.heap.size + 1) 3 [.int .i64 d]), s.W.cell? ⟨w.heap.size, 1, none⟩ = some (.int .i64 x.depth.2) := fun s => s.ok.1.cell 1 rfl
    have q2 : ∀ s : Cls (fun W => Blk W w.heap.size 28 (cutCells x ra ba la rc bc lc) ∧ Blk W (w.heap.size + 1) 3 [.int .i64 d]), s.W.cell? ⟨w.heap.size, 2, none⟩ = some (.int .i64 x.leak.1) := fun s => s.ok.1.cell 2 rfl
    have q3 : ∀ s : Cls (fun W => Blk W w.heap.size 28 (cutCells x ra ba la rc bc lc) ∧ Blk W (w.heap.size + 1) 3 [.int .i64 d]), s.W.cell? ⟨w.heap.size, 3, none⟩ = some (.int .i64 x.leak.2) := fun s => s.ok.1.cell 3 rfl
    have q4 : ∀ s : Cls (fun W => Blk W w.heap.size 28 (cutCells x ra ba la rc bc lc) ∧ Blk W (w.heap.size + 1) 3 [.int .i64 d]), s.W.cell? ⟨w.heap.size, 4, none⟩ = some (.slice ra x.rain.length rc) := fun s => s.ok.1.cell 4 rfl
    have q5 : ∀ s : Cls (fun W => Blk W w.heap.size 28 (cutCells x ra ba la rc bc lc) ∧ Blk W (w.heap.size + 1) 3 [.int .i64 d]), s.W.cell? ⟨w.heap.size, 5, none⟩ = some (.int .i64 x.most) := fun s => s.ok.1.cell 5 rfl
    have q6 : ∀ s : Cls (fun W => Blk W w.heap.size 28 (cutCells x ra ba la rc bc lc) ∧ Blk W (w.heap.size + 1) 3 [.int .i64 d]), s.W.cell? ⟨w.heap.size, 6, none⟩ = some (.slice ba x.boats.length bc) := fun s => s.ok.1.cell 6 rfl
    have q7 : ∀ s : Cls (fun W => Blk W w.heap.size 28 (cutCells x ra ba la rc bc lc) ∧ Blk W (w.heap.size + 1) 3 [.int .i64 d]), s.W.cell? ⟨w.heap.size, 7, none⟩ = some (.slice la x.looks.length lc) := fun s => s.ok.1.cell 7 rfl
    have q8 : ∀ s : Cls (fun W => Blk W w.heap.size 28 (cutCells x ra ba la rc bc lc) ∧ Blk W (w.heap.size + 1) 3 [.int .i64 d]), s.W.cell? ⟨w.heap.size + 1, 0, none⟩ = some (.int .i64 d) := fun s => s.ok.2.cell 0 rfl
    iterate 3 (apply zus; rfl; (intro s; first | (go_simp; rfl) | (go_simp; done)))
    refine zur ?_
    clear q0 q1 q2 q3 q4 q5 q6 q7 q8
    simp only [Act.put, List.getElem_toArray, List.getElem_cons_succ, List.getElem_cons_zero, List.setIfInBounds_toArray, List.set_cons_succ, List.set_cons_zero]
    refine zgy 43 #[cutVal x ra ba la rc bc lc, .func (.func 44) #[] #[.pointer (some ⟨w.heap.size + 1, 0, none⟩)]] rfl ?_ ?_
    · (first | (go_simp; rfl) | (go_simp; done))
    refine zuu _ x ra ba la rc bc lc (Cut.isDay x d) _ (HIN4.out.below (Below.refl _ _).drew) ?_ ?_ ?_
    · refine ⟨_, _, rfl, enters_of Tryd.func44 (by kernel_rfl) rfl, fun B M la lc w' _ hb _ _ hc => ?_⟩
      exact zsz d (w.heap.size + 1) w' hc (b1.below (zdl hb) (by show _ < w4.heap.size; omega))
    · rintro n w' rfl hn hb
      exact ⟨.inl rfl, rfl, hn, zdl hb⟩
    intro B M la' lc' w5 hv hday hB hM hb5' hcut
    have hb5 := zdl hb5'
    clear hb5'
    have c0 := b0.below hb5 (by show _ < w4.heap.size; omega)
    have c1 := b1.below hb5 (by show _ < w4.heap.size; omega)
    have c2 := b2.below hb5 (by show _ < w4.heap.size; omega)
    have c3 := b3.below hb5 (by show _ < w4.heap.size; omega)
    refine ⟨⟨c0, c1⟩, ?_⟩
    refine zgy 46 #[.pointer (some ⟨B, 0, none⟩)] rfl ?_ ?_
    · (first | (go_simp; rfl) | (go_simp; done))
    refine ztw w5 hcut hv ?_ ?_
    · intro w6 he hb6
      rw [hday, he]
      exact ⟨.inr rfl, rfl, by decide, hb5.trans (hb6.below_lt hM (by exact hb5.size))⟩
    intro w6 hcan hb6 hcut6
    have hb6' : Below w4.heap.size w4 w6 := hb5.trans (hb6.below_lt hM hb5.size)
    have d0 := b0.below hb6' (by omega)
    have d1 := b1.below hb6' (by omega)
    refine ⟨⟨d0, d1⟩, ?_⟩
    have hdd : 0 ≤ d ∧ d ≤ x.rain.length := by simpa [Cut.isDay, Cut.within] using hday
    obtain ⟨k, rfl⟩ := Int.eq_ofNat_of_zero_le hdd.1
    refine zgy 47 #[.pointer (some ⟨B, 0, none⟩), .int .i64 k] rfl ?_ ?_
    · (first | (go_simp; rfl) | (go_simp; done))
    refine (zmu k w6 hcut6 hv hcan (by omega)).mono ?_
    rintro e w7 ⟨rfl, hb7, hk7⟩
    have hb7' : Below w4.heap.size w4 w7 := hb6'.trans (hb7.below_lt hM hb6'.size)
    have e0 := b0.below hb7' (by omega)
    have e1 := b1.below hb7' (by omega)
    have e2 := b2.below hb7' (by omega)
    have e3 := b3.below hb7' (by omega)
    refine ⟨⟨e0, e1⟩, ?_⟩
    have r0 := e2.cell 0 rfl
    have r1 := e2.cell 1 rfl
    have r2 := e2.free 0
    have r3 := e2.free 1
    have r4 := e3.cell 0 rfl
    have r5 := e3.free 0
    refine zpa (w' := (w7.setCell ⟨w.heap.size + 1 + 1, 0, none⟩ (.int .i64 (Cut.water x k).1)).setCell ⟨w.heap.size + 1 + 1, 1, none⟩ (.int .i64 (Cut.water x k).2)) rfl ?_ ?_ ?_
    · (first | (go_simp; rfl) | (go_simp; done))
    · exact ⟨(e0.other (by omega) _ _).other (by omega) _ _, (e1.other (by omega) _ _).other (by omega) _ _⟩
    refine zpa (w' := ((w7.setCell ⟨w.heap.size + 1 + 1, 0, none⟩ (.int .i64 (Cut.water x k).1)).setCell ⟨w.heap.size + 1 + 1, 1, none⟩ (.int .i64 (Cut.water x k).2)).setCell ⟨w.heap.size + 1 + 1 + 1, 0, none⟩ (.int .i64 0)) rfl ?_ ?_ ?_
    · (first | (go_simp; rfl) | (go_simp; done))
    · exact ⟨((e0.other (by omega) _ _).other (by omega) _ _).other (by omega) _ _, ((e1.other (by omega) _ _).other (by omega) _ _).other (by omega) _ _⟩
    refine sp_nil ?_
    simp only [Act.put, List.getElem_toArray, List.getElem_cons_succ, List.getElem_cons_zero, List.setIfInBounds_toArray, List.set_cons_succ, List.set_cons_zero]
    have hfin : Hid (depthR x k = (Cut.water x k, 0)) := by
      unfold depthR
      rw [hday, zci hv hcan, if_pos rfl]; rfl
    have s2 := ((e2.set 0 (.int .i64 (Cut.water x k).1)).set 1 (.int .i64 (Cut.water x k).2)).other (show w.heap.size + 1 + 1 ≠ w.heap.size + 1 + 1 + 1 by omega) 0 (.int .i64 0)
    simp only [List.set_cons_zero, List.set_cons_succ] at s2
    have s3 := ((e3.other (show w.heap.size + 1 + 1 + 1 ≠ w.heap.size + 1 + 1 by omega) 0 (.int .i64 (Cut.water x k).1)).other (show w.heap.size + 1 + 1 + 1 ≠ w.heap.size + 1 + 1 by omega) 1 (.int .i64 (Cut.water x k).2)).set 0 (.int .i64 0)
    have hbf := (((hb4.trans (hb7'.mono (by omega))).setCell (p := ⟨w.heap.size + 1 + 1, 0, none⟩) (show w.heap.size ≤ w.heap.size + 1 + 1 by omega) (.int .i64 (Cut.water x k).1)).setCell (p := ⟨w.heap.size + 1 + 1, 1, none⟩) (show w.heap.size ≤ w.heap.size + 1 + 1 by omega) (.int .i64 (Cut.water x k).2)).setCell (p := ⟨w.heap.size + 1 + 1 + 1, 0, none⟩) (show w.heap.size ≤ w.heap.size + 1 + 1 + 1 by omega) (.int .i64 0)
    clear r0 r1 r2 r3 r4 r5 e0 e1 e2 e3 c0 c1 c2 c3 d0 d1 b0 b1 b2 b3
    go_wp2
    refine zbv rfl (results2 rfl (zge (w.heap.size + 1 + 1) 23 _ _ rfl s2 Tryd.underlying23 rfl (by kernel_rfl)) (zaw (w.heap.size + 1 + 1 + 1) (.int .i64 0) rfl (s3.cell 0 rfl) (by kernel_rfl))) ⟨?_, hbf⟩
    rw [hfin.out]
  · rintro i c w' a' ⟨hi, rfl, hne, hb⟩ hdef hsl
    have hb' := hb4.trans (hb.mono (by omega))
    have c2 := b2.below hb (by omega)
    have c3 := b3.below hb (by omega)
    have t4 := hsl 4 (by rcases hi with rfl | rfl <;> kernel_rfl)
    have t5 := hsl 5 (by rcases hi with rfl | rfl <;> kernel_rfl)
    simp only [Exit.then]
    show Leaves Tryd.prog Tryd.f14 a'.tmps _ a'.defers (.panicking _) w'
    rw [hdef]
    have s2 := c2.other (show w.heap.size + 1 + 1 ≠ w.heap.size + 1 + 1 + 1 by omega) 0 (.int .i64 (toldErr x (Cut.isDay x d)))
    have s3 := c3.set 0 (.int .i64 (toldErr x (Cut.isDay x d)))
    refine zax (c3.cell 0 rfl) (c3.free 0) rfl (results2 rfl (zge (w.heap.size + 1 + 1) 23 _ _ (by rw [t4]; rfl) s2 Tryd.underlying23 rfl (by kernel_rfl)) (zaw (w.heap.size + 1 + 1 + 1) _ (by rw [t5]; rfl) (s3.cell 0 rfl) (by kernel_rfl))) ⟨?_, hb'.setCell (p := ⟨w.heap.size + 1 + 1 + 1, 0, none⟩) (show w.heap.size ≤ w.heap.size + 1 + 1 + 1 by omega) _⟩
    unfold depthR
    rw [if_neg hne]
end Go.Proofs.YtlkhjnpflohfeaaDoor

/- Contracts of the closures that say whether all else is valid. -/
namespace Go.Proofs.YtlkhjnpflohfeaaDoor
open Go Go.Proofs Go.RowKit
section
variable {B M : Nat} {x : CutD} {ra ba la : Option Addr} {rc bc lc : Nat}

set_option maxHeartbeats 400000 in
theorem zlj (B : Nat) (w : World) : Calls Tryd.prog 51 #[.pointer (some ⟨B, 0, none⟩)] w fun e w' => e = .returned (.bool true) ∧ w = w' := by
  go_enter Tryd.func51, Tryd.ntmps51
  go_wp2
  go_ret
  exact ⟨rfl, rfl⟩
set_option maxHeartbeats 400000 in
theorem zln (d : Int) (K : Nat) (w : World) (h : CutAt w B M x ra ba la rc bc lc) (hb : Blk w K 3 [.int .i64 d]) :
    Calls Tryd.prog 70 #[.pointer (some ⟨B, 0, none⟩), .pointer (some ⟨K, 0, none⟩)] w fun e w' => e = .returned (.bool (Cut.isDay x d)) ∧ w = w' := by
  have c := hb.cell 0 rfl
  have H := hide h
  clear h hb
  go_enter Tryd.func70, Tryd.ntmps70
  go_wp2_with (go_at_call 45; refine (zcu _ _ H.out).mono ?_; rintro e w' ⟨rfl, rfl⟩)
  go_ret
  exact ⟨rfl, rfl⟩
set_option maxHeartbeats 400000 in
theorem zwl (b n : Int) (K1 K2 : Nat) (w : World) (h : CutAt w B M x ra ba la rc bc lc) (hv : x.boats.length ≤ 4) (h1 : Blk w K1 3 [.int .i64 b]) (h2 : Blk w K2 3 [.int .i64 n]) :
    Calls Tryd.prog 67 #[.pointer (some ⟨B, 0, none⟩), .pointer (some ⟨K1, 0, none⟩), .pointer (some ⟨K2, 0, none⟩)] w fun e w' => e = .returned (.bool (Cut.isLoads x b n)) ∧ w = w' := by
  have c1 := h1.cell 0 rfl
  have c2 := h2.cell 0 rfl
  have H := hide h
  clear h h1 h2
  go_enter Tryd.func67, Tryd.ntmps67
  go_wp2_with (go_at_call 58; refine (zfn _ _ _ H.out hv).mono ?_; rintro e w' ⟨rfl, rfl⟩)
  go_ret
  exact ⟨rfl, rfl⟩
set_option maxHeartbeats 400000 in
theorem zpn (b d : Int) (K1 K2 : Nat) (w : World) (h : CutAt w B M x ra ba la rc bc lc) (hv : x.boats.length ≤ 4) (h1 : Blk w K1 3 [.int .i64 b]) (h2 : Blk w K2 3 [.int .i64 d]) :
    Calls Tryd.prog 62 #[.pointer (some ⟨B, 0, none⟩), .pointer (some ⟨K1, 0, none⟩), .pointer (some ⟨K2, 0, none⟩)] w fun e w' => e = .returned (.bool (Cut.isBoat x b && Cut.isDay x d)) ∧ w = w' := by
  have c1 := h1.cell 0 rfl
  have c2 := h2.cell 0 rfl
  have H := hide h
  clear h h1 h2
  cases hb : Cut.isBoat x b
  all_goals go_enter Tryd.func62, Tryd.ntmps62
  all_goals go_wp2_with first | (go_at_call 63; refine (zhj _ _ H.out hv).mono ?_; rintro e w' ⟨rfl, rfl⟩; rw [hb]) | (go_at_call 45; refine (zcu _ _ H.out).mono ?_; rintro e w' ⟨rfl, rfl⟩)
  all_goals go_ret
  all_goals exact ⟨rfl, rfl⟩
set_option maxHeartbeats 400000 in
theorem zps (b n d : Int) (K1 K2 K3 : Nat) (w : World) (h : CutAt w B M x ra ba la rc bc lc) (hv : x.boats.length ≤ 4) (h1 : Blk w K1 3 [.int .i64 b]) (h2 : Blk w K2 3 [.int .i64 n]) (h3 : Blk w K3 3 [.int .i64 d]) :
    Calls Tryd.prog 57 #[.pointer (some ⟨B, 0, none⟩), .pointer (some ⟨K1, 0, none⟩), .pointer (some ⟨K2, 0, none⟩), .pointer (some ⟨K3, 0, none⟩)] w fun e w' => e = .returned (.bool (Cut.isLoads x b n && Cut.isDay x d)) ∧ w = w' := by
  have c1 := h1.cell 0 rfl
  have c2 := h2.cell 0 rfl
  have c3 := h3.cell 0 rfl
  have H := hide h
  clear h h1 h2 h3
  cases hb : Cut.isLoads x b n
  all_goals go_enter Tryd.func57, Tryd.ntmps57
  all_goals go_wp2_with first | (go_at_call 58; refine (zfn _ _ _ H.out hv).mono ?_; rintro e w' ⟨rfl, rfl⟩; rw [hb]) | (go_at_call 45; refine (zcu _ _ H.out).mono ?_; rintro e w' ⟨rfl, rfl⟩)
  all_goals go_ret
  all_goals exact ⟨rfl, rfl⟩
set_option maxHeartbeats 400000 in
theorem zrr (b n d : Int) (K1 K2 K3 : Nat) (w : World) (h : CutAt w B M x ra ba la rc bc lc) (hv : x.boats.length ≤ 4) (h1 : Blk w K1 3 [.int .i64 b]) (h2 : Blk w K2 3 [.int .i64 n]) (h3 : Blk w K3 3 [.int .i64 d]) :
    Calls Tryd.prog 69 #[.pointer (some ⟨B, 0, none⟩), .pointer (some ⟨K1, 0, none⟩), .pointer (some ⟨K2, 0, none⟩), .pointer (some ⟨K3, 0, none⟩)] w fun e w' => e = .returned (.bool (Cut.isLoads x b n && Cut.isDay x d)) ∧ w = w' := by
  have c1 := h1.cell 0 rfl
  have c2 := h2.cell 0 rfl
  have c3 := h3.cell 0 rfl
  have H := hide h
  clear h h1 h2 h3
  cases hb : Cut.isLoads x b n
  all_goals go_enter Tryd.func69, Tryd.ntmps69
  all_goals go_wp2_with first | (go_at_call 58; refine (zfn _ _ _ H.out hv).mono ?_; rintro e w' ⟨rfl, rfl⟩; rw [hb]) | (go_at_call 45; refine (zcu _ _ H.out).mono ?_; rintro e w' ⟨rfl, rfl⟩)
  all_goals go_ret
  all_goals exact ⟨rfl, rfl⟩
end
end Go.Proofs.YtlkhjnpflohfeaaDoor

/- A region that draws its order: the first n operations are quiet, or lay new variables (their values hang on when they come); the others come one after the other. -/
namespace Go.Proofs.YtlkhjnpflohfeaaDoor
open Go
section
variable {P : Program} {ops : Array Oper} {D : (Nat → Option Value) → World → Prop}

def flSet (fl : Nat → Option Value) (i : Nat) (v : Value) : Nat → Option Value := fun j => if j = i then some v else fl j

def reachB (ops : Array Oper) : Nat → Nat → Nat → Bool
  | 0, _, _ => false
  | f + 1, i, j => match ops[i]? with | some o => o.after.any fun e => Region.binds .any e && (e.on == j || reachB ops f e.on j) | none => false
theorem zit {listed : Array Bool} (hcl : ∀ k o, ops[k]? = some o → listed.getD k false = true → ∀ e ∈ o.after, Region.binds .any e = true → listed.getD e.on false = true) :
    ∀ (f i j : Nat) (o : Oper), ops[i]? = some o → (∀ e ∈ o.after, Region.binds .any e = true → listed.getD e.on false = true) → reachB ops f i j = true → listed.getD j false = true
  | 0, _, _, _, _, _, h => by cases h
  | f + 1, i, j, o, ho, hall, h => by
    unfold reachB at h
    simp only [ho] at h
    obtain ⟨e, he, hb⟩ := Array.any_eq_true'.1 h
    simp only [Bool.and_eq_true, Bool.or_eq_true, beq_iff_eq] at hb
    have h1 := hall e he hb.1
    rcases hb.2 with rfl | h2
    · exact h1
    · cases ho2 : ops[e.on]? with
      | none => cases f <;> simp [reachB, ho2] at h2
      | some o2 => exact zit hcl f e.on j o2 ho2 (hcl e.on o2 ho2 h1) h2
def flB (ops : Array Oper) (N : Nat) (hs fs : List Nat) (n : Nat) : Bool :=
  Region.noSelect ops && decide (hs.Pairwise (· < ·)) && (hs.all fun i => !fs.contains i) && decide (n ≤ ops.size) && ((hs ++ fs).all fun i => decide (i < n)) &&
  ((List.range n).all fun i => hs.contains i || fs.contains i) &&
  ((List.range n).all fun i => match ops[i]? with | some o => o.guard == none && o.after.all fun e => !Region.binds .any e || decide (e.on < i) | none => false) &&
  ((List.range ops.size).all fun i => decide (i < n) || match ops[i]? with | some o => ((List.range n).all fun j => reachB ops 12 i j) || (List.range i).any fun k => decide (n ≤ k) && edgeB o k | none => false) &&
  ((hs ++ fs).all fun j => match dstOf ops j with | some d => decide (d < N) && (hs ++ fs).all fun k => k == j || dstOf ops k != some d | none => true) &&
  (hs.all fun i => match ops[i]? with | some o => (o.looksAt ops).all fun d => (hs.all fun j => dstOf ops j != some d || (decide (j < i) && edgeB o j)) && fs.all fun j => dstOf ops j != some d | none => false) &&
  Region.seqB .any ops (ops.size - n) n ((List.replicate n true ++ List.replicate (ops.size - n) false).toArray)

def flAct (ops : Array Oper) (fs : List Nat) (fl : Nat → Option Value) (a : Act) : Act := fs.foldl (fun a i => a.put (dstOf ops i) ((fl i).getD undef)) a

abbrev wpFl (P : Program) (ops : Array Oper) (D : (Nat → Option Value) → World → Prop) (Pan : Act → Prop) : List Nat → Act → Prop := wpPanG ops (fun o a v => ∀ fl w, D fl w → o.quietAt P a (D fl) w v) Pan

structure AgreeF (ops : Array Oper) (vals : Nat → Value) (a0 : Act) (hs fs : List Nat) (S : Nat → Prop) (fl : Nat → Option Value) (a : Act) : Prop where
  size : a.tmps.size = a0.tmps.size
  defers : a.defers = a0.defers
  done : ∀ j d, j ∈ hs → S j → dstOf ops j = some d → a.tmps.getD d undef = vals j
  flt : ∀ j d v, j ∈ fs → fl j = some v → dstOf ops j = some d → a.tmps.getD d undef = v
  left : ∀ d, (∀ j, j ∈ hs ++ fs → dstOf ops j ≠ some d) → a.tmps.getD d undef = a0.tmps.getD d undef

abbrev DstOk (ops : Array Oper) (N : Nat) (hs fs : List Nat) : Prop := ∀ j d, j ∈ hs ++ fs → dstOf ops j = some d → d < N ∧ ∀ k, k ∈ hs ++ fs → k ≠ j → dstOf ops k ≠ some d

theorem AgreeF.put {vals : Nat → Value} {a0 a : Act} {hs fs : List Nat} {S : Nat → Prop} {fl : Nat → Option Value} (h : AgreeF ops vals a0 hs fs S fl a) {i : Nat} (hi : i ∈ hs) (hif : i ∉ fs)
    (hd : DstOk ops a0.tmps.size hs fs) : AgreeF ops vals a0 hs fs (fun j => S j ∨ j = i) fl (a.put (dstOf ops i) (vals i)) := by
  cases he : dstOf ops i with
  | none =>
    refine ⟨h.size, h.defers, fun j d hj hS hjd => ?_, h.flt, h.left⟩
    rcases hS with hS | rfl
    · exact h.done j d hj hS hjd
    · rw [he] at hjd; cases hjd
  | some e =>
    refine ⟨by simp [Act.put, h.size], h.defers, fun j d hj hS hjd => ?_, fun j d v hj hv hjd => ?_, fun d hn => ?_⟩
    · by_cases hji : j = i
      · subst hji
        rw [he] at hjd; cases hjd
        exact zda (by rw [h.size]; exact (hd _ _ (List.mem_append_left _ hj) he).1)
      · have hne : e ≠ d := fun e' => (hd i e (List.mem_append_left _ hi) he).2 j (List.mem_append_left _ hj) hji (by rw [e']; exact hjd)
        show ((a.tmps.setIfInBounds e (vals i)).getD d undef) = _
        rw [zay hne]
        rcases hS with hS | rfl
        · exact h.done j d hj hS hjd
        · exact absurd rfl hji
    · have hne : e ≠ d := fun e' => (hd i e (List.mem_append_left _ hi) he).2 j (List.mem_append_right _ hj) (fun e2 => hif (e2 ▸ hj)) (by rw [e']; exact hjd)
      show ((a.tmps.setIfInBounds e (vals i)).getD d undef) = _
      rw [zay hne]; exact h.flt j d v hj hv hjd
    · have hne : e ≠ d := fun e' => hn i (List.mem_append_left _ hi) (by rw [he, e'])
      show ((a.tmps.setIfInBounds e (vals i)).getD d undef) = _
      rw [zay hne]; exact h.left d hn
theorem AgreeF.lay {vals : Nat → Value} {a0 a : Act} {hs fs : List Nat} {S : Nat → Prop} {fl : Nat → Option Value} (h : AgreeF ops vals a0 hs fs S fl a) {i : Nat} (hi : i ∈ fs) (hih : i ∉ hs) (v : Value)
    (hd : DstOk ops a0.tmps.size hs fs) : AgreeF ops vals a0 hs fs S (flSet fl i v) (a.put (dstOf ops i) v) := by
  cases he : dstOf ops i with
  | none =>
    refine ⟨h.size, h.defers, h.done, fun j d u hj hu hjd => ?_, h.left⟩
    by_cases hji : j = i
    · subst hji; rw [he] at hjd; cases hjd
    · unfold flSet at hu; rw [if_neg hji] at hu; exact h.flt j d u hj hu hjd
  | some e =>
    refine ⟨by simp [Act.put, h.size], h.defers, fun j d hj hS hjd => ?_, fun j d u hj hu hjd => ?_, fun d hn => ?_⟩
    · have hne : e ≠ d := fun e' => (hd i e (List.mem_append_right _ hi) he).2 j (List.mem_append_left _ hj) (fun e2 => hih (e2 ▸ hj)) (by rw [e']; exact hjd)
      show ((a.tmps.setIfInBounds e v).getD d undef) = _
      rw [zay hne]; exact h.done j d hj hS hjd
    · by_cases hji : j = i
      · subst hji
        rw [he] at hjd; cases hjd
        unfold flSet at hu; rw [if_pos rfl] at hu; cases hu
        exact zda (by rw [h.size]; exact (hd _ _ (List.mem_append_right _ hj) he).1)
      · have hne : e ≠ d := fun e' => (hd i e (List.mem_append_right _ hi) he).2 j (List.mem_append_right _ hj) hji (by rw [e']; exact hjd)
        show ((a.tmps.setIfInBounds e v).getD d undef) = _
        rw [zay hne]
        unfold flSet at hu; rw [if_neg hji] at hu; exact h.flt j d u hj hu hjd
    · have hne : e ≠ d := fun e' => hn i (List.mem_append_right _ hi) (by rw [he, e'])
      show ((a.tmps.setIfInBounds e v).getD d undef) = _
      rw [zay hne]; exact h.left d hn
theorem AgreeF.puts {vals : Nat → Value} {a0 : Act} {hs fs : List Nat} (hd : DstOk ops a0.tmps.size hs fs) (hhf : ∀ i, i ∈ hs → i ∉ fs) {fl : Nat → Option Value} :
    ∀ (l : List Nat) (a : Act) (S : Nat → Prop), (∀ j ∈ l, j ∈ hs) → AgreeF ops vals a0 hs fs S fl a → AgreeF ops vals a0 hs fs (fun j => S j ∨ j ∈ l) fl (puts ops vals a l)
  | [], a, S, _, h => ⟨h.size, h.defers, fun j d hj hS => h.done j d hj (by simpa using hS), h.flt, h.left⟩
  | i :: l, a, S, hl, h => by
    have h1 := AgreeF.puts hd hhf l (a.put (dstOf ops i) (vals i)) _ (fun j hj => hl j (by simp [hj])) (h.put (hl i (by simp)) (hhf i (hl i (by simp))) hd)
    refine ⟨h1.size, h1.defers, fun j d hj hS => h1.done j d hj ?_, h1.flt, h1.left⟩
    rcases hS with hS | hS
    · exact .inl (.inl hS)
    · rcases List.mem_cons.1 hS with rfl | hS
      · exact .inl (.inr rfl)
      · exact .inr hS
theorem AgreeF.lays {vals : Nat → Value} {a0 : Act} {hs fs : List Nat} (hd : DstOk ops a0.tmps.size hs fs) (hhf : ∀ i, i ∈ hs → i ∉ fs) {S : Nat → Prop} (fl' : Nat → Option Value) :
    ∀ (l : List Nat) (a : Act) (fl : Nat → Option Value), (∀ j ∈ l, j ∈ fs ∧ (fl' j).isSome) → AgreeF ops vals a0 hs fs S fl a → AgreeF ops vals a0 hs fs S (fun j => if j ∈ l then fl' j else fl j) (flAct ops l fl' a)
  | [], a, fl, _, h => by simpa [flAct] using h
  | i :: l, a, fl, hl, h => by
    obtain ⟨v, hv⟩ := Option.isSome_iff_exists.1 (hl i (by simp)).2
    have hif := (hl i (by simp)).1
    have h1 := AgreeF.lays hd hhf fl' l (a.put (dstOf ops i) v) _ (fun j hj => hl j (by simp [hj])) (h.lay hif (fun h' => hhf i h' hif) v hd)
    have e : flAct ops (i :: l) fl' a = flAct ops l fl' (a.put (dstOf ops i) v) := by simp [flAct, hv]
    rw [e]
    refine ⟨h1.size, h1.defers, h1.done, fun j d u hj hu hjd => h1.flt j d u hj ?_ hjd, h1.left⟩
    by_cases hjl : j ∈ l
    · rw [if_pos hjl]; rwa [if_pos (by simp [hjl])] at hu
    · rw [if_neg hjl]
      by_cases hji : j = i
      · subst hji; rw [if_pos (by simp)] at hu; unfold flSet; rw [if_pos rfl, ← hv]; exact hu
      · rw [if_neg (by simp [hjl, hji])] at hu; unfold flSet; rw [if_neg hji]; exact hu
theorem AgreeF.eq {vals : Nat → Value} {a0 a b : Act} {hs fs : List Nat} {S S' : Nat → Prop} {fl fl' : Nat → Option Value} (h : AgreeF ops vals a0 hs fs S fl a) (h' : AgreeF ops vals a0 hs fs S' fl' b)
    (hS : ∀ j, j ∈ hs → S j ∧ S' j) (hf : ∀ j, j ∈ fs → ∃ v, fl j = some v ∧ fl' j = some v) : a = b := by
  have ht : a.tmps = b.tmps := by
    refine Array.ext (h.size.trans h'.size.symm) fun i h1 h2 => ?_
    have : a.tmps.getD i undef = b.tmps.getD i undef := by
      by_cases hex : ∃ j, j ∈ hs ++ fs ∧ dstOf ops j = some i
      · obtain ⟨j, hj, hji⟩ := hex
        rcases List.mem_append.1 hj with hj | hj
        · rw [h.done j i hj (hS j hj).1 hji, h'.done j i hj (hS j hj).2 hji]
        · obtain ⟨v, hv, hv'⟩ := hf j hj
          rw [h.flt j i v hj hv hji, h'.flt j i v hj hv' hji]
      · have hn : ∀ j, j ∈ hs ++ fs → dstOf ops j ≠ some i := fun j hj e => hex ⟨j, hj, e⟩
        rw [h.left i hn, h'.left i hn]
    simpa [h1, h2] using this
  have hd := h.defers.trans h'.defers.symm
  cases a; cases b
  simp only at ht hd
  rw [ht, hd]

theorem cnt_all (listed : Array Bool) (n m : Nat) (hsz : listed.size = m) (hn : n ≤ m) (h1 : ∀ i, i < n → listed.getD i false = true) (h2 : ∀ i, n ≤ i → i < m → listed.getD i true = false) :
    listed = (List.replicate n true ++ List.replicate (m - n) false).toArray := by
  refine Array.ext (by simp [hsz]; omega) fun i hi hi' => ?_
  simp only [List.getElem_toArray]
  by_cases hin : i < n
  · rw [List.getElem_append_left (by simpa using hin)]
    have := h1 i hin
    simpa [hi] using this
  · rw [List.getElem_append_right (by simp; omega)]
    have := h2 i (by omega) (by omega)
    simpa [hi] using this
theorem cnt_ge (f : Nat → Bool) (n m : Nat) (hn : n ≤ m) (h1 : ∀ i, i < n → f i = false) (h2 : ∀ i, n ≤ i → i < m → f i = true) : ((List.range m).filter f).length = m - n := by
  induction m with
  | zero => simp
  | succ m ih =>
    rw [List.range_succ, List.filter_append, List.length_append]
    by_cases hm : n ≤ m
    · rw [ih hm (fun i hi hi' => h2 i hi (by omega))]
      simp [h2 m hm (by omega)]; omega
    · have hnm : n = m + 1 := by omega
      subst hnm
      have h3 : ∀ k, k ≤ m → ((List.range k).filter f).length = 0 := by
        intro k hk
        rw [List.length_eq_zero_iff, List.filter_eq_nil_iff]
        intro i hi
        rw [h1 i (by have := List.mem_range.1 hi; omega)]; simp
      rw [h3 m (Nat.le_refl _)]
      simp [h1 m (by omega)]
theorem zwp (f g : Nat → Bool) : ∀ (n i : Nat), i < n → (∀ j, j ≠ i → g j = f j) → f i = true → g i = false → ((List.range n).filter f).length = ((List.range n).filter g).length + 1
  | 0, i, hi, _, _, _ => by omega
  | n + 1, i, hi, h, h1, h2 => by
    rw [List.range_succ, List.filter_append, List.filter_append, List.length_append, List.length_append]
    by_cases hin : i = n
    · subst hin
      have : (List.range i).filter g = (List.range i).filter f := List.filter_congr fun j hj => h j (by have := List.mem_range.1 hj; omega)
      rw [this]; simp [h1, h2]
    · rw [zwp f g n i (by omega) h h1 h2]
      have : ([n].filter g) = [n].filter f := List.filter_congr fun j hj => h j (by rw [List.mem_singleton.1 hj]; omega)
      rw [this]; omega

theorem zlh {Q : Exit → Act → World → Prop} {a0 : Act} {w0 : World} {ol : List Oper} (hs fs : List Nat) (n : Nat) (hB : flB ol.toArray a0.tmps.size hs fs n = true)
    (hlay : ∀ i ∈ fs, ∀ o, ol.toArray[i]? = some o → ∀ a fl w, D fl w → fl i = none → ∃ v w', (execOp (Act.eval a) o).run P w = .ok (.value v) w' ∧ D (flSet fl i v) w')
    (hD : D (fun _ => none) w0)
    (h : wpFl P ol.toArray D (fun a => ∀ fl w, D fl w → (∀ i ∈ fs, (fl i).isSome = true) → wpList P ol.toArray Q (ol.drop n) (flAct ol.toArray fs fl a) w) hs a0) :
    wpAny P .any ol.toArray Q ol.toArray.size (Array.replicate ol.toArray.size false) a0 w0 := by
  generalize hops : ol.toArray = ops at *
  simp only [flB, Bool.and_eq_true, decide_eq_true_eq] at hB
  obtain ⟨⟨⟨⟨⟨⟨⟨⟨⟨⟨hsel, hpw⟩, hhf⟩, hn⟩, hltn⟩, hpart⟩, hgd⟩, htl⟩, hdst⟩, hlkh⟩, hseq⟩ := hB
  have hns := Region.noSelect_spec hsel
  have hhf' : ∀ i, i ∈ hs → i ∉ fs := fun i hi h => by
    have := List.all_eq_true.1 hhf i hi
    rw [List.contains_iff_mem.2 h] at this; cases this
  have hd : DstOk ops a0.tmps.size hs fs := fun j d hj hjd => by
    have := List.all_eq_true.1 hdst j hj
    simp only [hjd, Bool.and_eq_true, decide_eq_true_eq] at this
    refine ⟨this.1, fun k hk hkj => ?_⟩
    have h2 := List.all_eq_true.1 this.2 k hk
    simpa [hkj] using h2
  have hlt : ∀ i, i ∈ hs ++ fs → i < n := fun i hi => by simpa using List.all_eq_true.1 hltn i hi
  have hkind : ∀ i, i < n → i ∈ hs ∨ i ∈ fs := fun i hi => by
    have := List.all_eq_true.1 hpart i (List.mem_range.2 hi)
    simpa using this
  have hlook : ∀ i o, i ∈ hs → ops[i]? = some o → ∀ d ∈ o.looksAt ops, (∀ j, j ∈ hs → dstOf ops j = some d → j < i ∧ edgeB o j = true) ∧ ∀ j, j ∈ fs → dstOf ops j ≠ some d := fun i o hi ho d hdl => by
    have := List.all_eq_true.1 hlkh i hi
    simp only [ho] at this
    have h2 := List.all_eq_true.1 this d hdl
    simp only [Bool.and_eq_true] at h2
    refine ⟨fun j hj hjd => ?_, fun j hj hjd => ?_⟩
    · have h3 := List.all_eq_true.1 h2.1 j hj
      simp only [hjd, bne_self_eq_false, Bool.false_or, Bool.and_eq_true, decide_eq_true_eq] at h3
      exact h3
    · have h3 := List.all_eq_true.1 h2.2 j hj
      simp [hjd] at h3
  have hguard : ∀ i o, i < n → ops[i]? = some o → o.guard = none ∧ ∀ e ∈ o.after, Region.binds .any e = true → e.on < i := fun i o hi ho => by
    have := List.all_eq_true.1 hgd i (List.mem_range.2 hi)
    simp only [ho, Bool.and_eq_true] at this
    refine ⟨?_, fun e he hb => ?_⟩
    · cases hg : o.guard with
      | none => rfl
      | some g => rw [hg] at this; simp at this
    · have h2 := Array.all_eq_true'.1 this.2 e he
      simpa [hb] using h2
  have hedge : ∀ (o : Oper) (j : Nat) (listed : Array Bool), edgeB o j = true → (∀ e ∈ o.after, Region.binds .any e = true → listed.getD e.on false = true) → listed.getD j false = true := fun o j listed he hall => by
    obtain ⟨e, hem, hb⟩ := Array.any_eq_true'.1 he
    simp only [Bool.and_eq_true, beq_iff_eq] at hb
    rw [← hb.2]; exact hall e hem hb.1
  -- the tail waits
  have htail : ∀ (listed : Array Bool) (u : Nat), u < n → listed.getD u false = false → (∀ i, n ≤ i → listed.getD i false = false) → (∀ k o, ops[k]? = some o → listed.getD k false = true → ∀ e ∈ o.after, Region.binds .any e = true → listed.getD e.on false = true) → ∀ i ∈ Region.ready .any ops listed, i < n := fun listed u hu hun htf hcl i hi => by
    rcases Nat.lt_or_ge i n with h' | h'
    · exact h'
    · exfalso
      obtain ⟨_, o, ho, hall⟩ := mem_ready.1 hi
      have hilt := (Array.getElem?_eq_some_iff.1 ho).1
      have := List.all_eq_true.1 htl i (List.mem_range.2 hilt)
      simp only [ho, Bool.or_eq_true, decide_eq_true_eq] at this
      rcases this with h1 | h1 | h1
      · omega
      · have h2 := zit hcl 12 i u o ho hall (List.all_eq_true.1 h1 u (List.mem_range.2 hu))
        rw [hun] at h2; cases h2
      · obtain ⟨k, _, hk⟩ := List.any_eq_true.1 h1
        simp only [Bool.and_eq_true, decide_eq_true_eq] at hk
        have h2 := hedge o k listed hk.2 hall
        rw [htf k hk.1] at h2; cases h2
  obtain ⟨vals, hv, hP⟩ := zgt hs a0 hpw h
  have base : AgreeF ops vals a0 hs fs (fun _ => False) (fun _ => none) a0 := ⟨rfl, rfl, fun _ _ _ hF => hF.elim, fun _ _ _ _ hF => (by cases hF), fun _ _ => rfl⟩
  have main : ∀ (f : Nat) (listed : Array Bool) (a : Act) (fl : Nat → Option Value) (w : World), listed.size = ops.size → (∀ i, n ≤ i → listed.getD i false = false) → (∀ k o, ops[k]? = some o → listed.getD k false = true → ∀ e ∈ o.after, Region.binds .any e = true → listed.getD e.on false = true) → ((List.range ops.size).filter fun i => !listed.getD i true).length = f →
      AgreeF ops vals a0 hs fs (fun i => listed.getD i false = true) fl a → (∀ i ∈ fs, (fl i).isSome = listed.getD i false) → D fl w → wpAny P .any ops Q f listed a w := by
    intro f
    induction f using Nat.strongRecOn with
    | ind f ih =>
      intro listed a fl w hsz htf hcl hcnt hag hfl hw
      by_cases hall : ∀ i, i < n → listed.getD i false = true
      · -- the head is done
        have htf' : ∀ i, n ≤ i → i < ops.size → listed.getD i true = false := fun i hi hi' => by
          have := htf i hi
          have h4 : i < listed.size := by omega
          simp [h4] at this ⊢; exact this
        have hL := cnt_all listed n ops.size hsz hn hall htf'
        have hf : f = ops.size - n := by
          rw [← hcnt]
          refine cnt_ge _ n ops.size hn (fun i hi => ?_) (fun i hi hi' => by rw [htf' i hi hi']; rfl)
          have := hall i hi
          have h4 : i < listed.size := by omega
          simp [h4] at this ⊢; exact this
        have hact : a = flAct ops fs fl (puts ops vals a0 hs) := by
          have h1 := AgreeF.puts hd hhf' hs a0 _ (fun j hj => hj) base
          have h2 := AgreeF.lays hd hhf' fl fs _ _ (fun j hj => ⟨hj, by rw [hfl j hj]; exact hall j (hlt j (List.mem_append_right _ hj))⟩) h1
          refine hag.eq h2 (fun j hj => ⟨hall j (hlt j (List.mem_append_left _ hj)), .inr hj⟩) (fun j hj => ?_)
          obtain ⟨v, hv⟩ := Option.isSome_iff_exists.1 (by rw [hfl j hj]; exact hall j (hlt j (List.mem_append_right _ hj)) : (fl j).isSome = true)
          exact ⟨v, hv, (if_pos hj).trans hv⟩
        have hlen : (ol.drop n).length = ops.size - n := by rw [← hops]; simp
        have := wpAny_of_seq (md := .any) (Q' := Q) (ops := ops) (ol.drop n) n listed a w (fun j => by rw [← hops]; simp [List.getElem?_drop]) (by rw [hlen, hL]; exact hseq)
          (by rw [hact]; exact hP fl w hw (fun i hi => by rw [hfl i hi]; exact hall i (hlt i (List.mem_append_right _ hi))))
        rw [hlen] at this
        rw [hf]; exact this
      · obtain ⟨u, hu⟩ : ∃ u, u < n ∧ listed.getD u false = false := by
          apply Classical.byContradiction
          intro hc
          apply hall
          intro i hi
          cases hq : listed.getD i false with
          | true => rfl
          | false => exact absurd ⟨i, hi, hq⟩ hc
        have hlive : Region.ready .any ops listed ≠ [] := by
          have : ∀ k i, i < k → i < n → listed.getD i false = false → Region.ready .any ops listed ≠ [] := by
            intro k
            induction k with
            | zero => intro i hi; omega
            | succ k ihk =>
              intro i hi hin hun
              have hilt : i < ops.size := by omega
              by_cases hex : ∃ e ∈ ops[i].after, Region.binds .any e = true ∧ listed.getD e.on false = false
              · obtain ⟨e, he, hb, hel⟩ := hex
                have h2 := (hguard i ops[i] hin (by simp [hilt])).2 e he hb
                exact ihk e.on (by omega) (by omega) hel
              · have : i ∈ Region.ready .any ops listed := mem_ready.2 ⟨by
                    have h4 : i < listed.size := by omega
                    simp [h4] at hun ⊢; exact hun, ops[i], by simp [hilt], fun e he hb => by
                  cases hq : listed.getD e.on false with
                  | true => rfl
                  | false => exact absurd ⟨e, he, hb, hq⟩ hex⟩
                intro h0; rw [h0] at this; cases this
          exact this (u + 1) u (by omega) hu.1 hu.2
        have hstep : ∀ i ∈ Region.ready .any ops listed, ∃ f', f = f' + 1 ∧ ((List.range ops.size).filter fun j => !(listed.setIfInBounds i true).getD j true).length = f' := fun i hi => by
          obtain ⟨hun, o, ho, _⟩ := mem_ready.1 hi
          have hilt := (Array.getElem?_eq_some_iff.1 ho).1
          have := zwp (fun j => !listed.getD j true) (fun j => !(listed.setIfInBounds i true).getD j true) ops.size i hilt (fun j hj => by
            show (!_) = (!_); rw [getD_set_ne true (Ne.symm hj)]) (by simp only [hun]; rfl) (by simp [hsz, hilt])
          exact ⟨_, by omega, rfl⟩
        cases f with
        | zero =>
          exfalso
          obtain ⟨i, hi⟩ := List.exists_mem_of_ne_nil _ hlive
          obtain ⟨f', hf', _⟩ := hstep i hi
          omega
        | succ f =>
          refine ⟨fun h0 => absurd h0 hlive, fun i hi => ?_⟩
          obtain ⟨f', hf', hcnt'⟩ := hstep i hi
          have hff : f' = f := by omega
          subst hff
          have hin := htail listed u hu.1 hu.2 htf hcl i hi
          obtain ⟨hun, o, ho, hall'⟩ := mem_ready.1 hi
          have hilt := (Array.getElem?_eq_some_iff.1 ho).1
          have hg := (hguard i o hin ho).1
          have hwt : Region.wanted o (yielded ops a.tmps) = true := by unfold Region.wanted; rw [hg]
          have hdi : dstOf ops i = o.dst := by unfold dstOf; rw [ho]; rfl
          have hset : ∀ j, (listed.setIfInBounds i true).getD j false = true → listed.getD j false = true ∨ j = i := fun j hj => by
            by_cases hij : i = j
            · exact .inr hij.symm
            · rw [getD_set_ne false hij] at hj; exact .inl hj
          have htf2 : ∀ j, n ≤ j → (listed.setIfInBounds i true).getD j false = false := fun j hj => by rw [getD_set_ne false (by omega)]; exact htf j hj
          have hcl2 : ∀ k o, ops[k]? = some o → (listed.setIfInBounds i true).getD k false = true → ∀ e ∈ o.after, Region.binds .any e = true → (listed.setIfInBounds i true).getD e.on false = true := fun k o2 ho2 hk e he hb => by
            have h1 : listed.getD e.on false = true := by
              rcases hset k hk with h' | rfl
              · exact hcl k o2 ho2 h' e he hb
              · rw [ho] at ho2; cases ho2; exact hall' e he hb
            by_cases hie : i = e.on
            · rw [← hie] at h1 ⊢
              have h4 : i < listed.size := by omega
              simp [h4]
            · rw [getD_set_ne false hie]; exact h1
          rcases hkind i hin with hk | hk
          · obtain ⟨l, r, e⟩ := List.append_of_mem hk
            obtain ⟨o', ho', hq⟩ := hv l i r e
            rw [ho] at ho'; cases ho'
            have hlin : ∀ j ∈ l, j ∈ hs := fun j hj => by rw [e]; exact List.mem_append_left _ hj
            have hag2 := AgreeF.puts hd hhf' l a0 _ hlin base
            have hsame : execOp a.eval o = execOp (puts ops vals a0 l).eval o := execOp_congr o (hns i o · · ho) fun x hx => by
              cases x with
              | const v => rfl
              | global g => rfl
              | func f => rfl
              | tmp t =>
                have ht : t ∈ o.looksAt ops := List.mem_append_left _ (List.mem_filterMap.2 ⟨.tmp t, by simpa using hx, rfl⟩)
                obtain ⟨h1, h2⟩ := hlook i o hk ho t ht
                show a.tmps.getD t undef = (puts ops vals a0 l).tmps.getD t undef
                by_cases hex : ∃ j, j ∈ hs ∧ dstOf ops j = some t
                · obtain ⟨j, hj, hjt⟩ := hex
                  rw [hag.done j t hj (hedge o j listed (h1 j hj hjt).2 hall') hjt]
                  refine (hag2.done j t hj (.inr ?_) hjt).symm
                  have hji := (h1 j hj hjt).1
                  rw [e] at hj hpw
                  rcases List.mem_append.1 hj with h4 | h4
                  · exact h4
                  · rcases List.mem_cons.1 h4 with rfl | h4
                    · omega
                    · have := (List.pairwise_cons.1 (List.pairwise_append.1 hpw).2.1).1 j h4
                      omega
                · have hnn : ∀ j, j ∈ hs ++ fs → dstOf ops j ≠ some t := fun j hj e' => by
                    rcases List.mem_append.1 hj with hj | hj
                    · exact hex ⟨j, hj, e'⟩
                    · exact h2 j hj e'
                  rw [hag.left t hnn, hag2.left t hnn]
            refine zro (C := D fl) (v := vals i) ho hg ?_ (fun w' hw' => ?_) hw
            · unfold Oper.quietAt; rw [hsame]; exact hq fl w hw
            · rw [← hdi]
              refine ih _ (by omega) _ _ fl _ (by simp [hsz]) htf2 hcl2 hcnt' ?_ (fun j hj => ?_) hw'
              · have h5 := hag.put hk (hhf' i hk) hd
                exact ⟨h5.size, h5.defers, fun j d hj hS hjd => h5.done j d hj (hset j hS) hjd, h5.flt, h5.left⟩
              · have hji : j ≠ i := fun e' => hhf' i hk (e' ▸ hj)
                rw [getD_set_ne false (Ne.symm hji)]; exact hfl j hj
          · have hih : i ∉ hs := fun h' => hhf' i h' hk
            have hfn : fl i = none := by
              have := hfl i hk
              have hun' : listed.getD i false = false := by
                have h4 : i < listed.size := by omega
                simp [h4] at hun ⊢; exact hun
              rw [hun'] at this
              exact Option.not_isSome_iff_eq_none.1 (by rw [this]; simp)
            obtain ⟨v, w', hrun, hw'⟩ := hlay i hk o ho a fl w hw hfn
            unfold wpOp
            simp only [ho]
            rw [if_pos hwt]
            left
            unfold Oper.wp
            rw [hrun]
            show wpAny _ _ _ _ _ _ _ _
            rw [← hdi]
            refine ih _ (by omega) _ _ (flSet fl i v) _ (by simp [hsz]) htf2 hcl2 hcnt' ?_ (fun j hj => ?_) hw'
            · have h5 := hag.lay hk hih v hd
              refine ⟨h5.size, h5.defers, fun j d hj hS hjd => h5.done j d hj ((hset j hS).elim id fun e => absurd (e ▸ hj) hih) hjd, h5.flt, h5.left⟩
            · by_cases hji : j = i
              · subst hji; unfold flSet; rw [if_pos rfl]; simp [hsz, hilt]
              · unfold flSet; rw [if_neg hji, getD_set_ne false (Ne.symm hji)]; exact hfl j hj
  refine main ops.size _ a0 (fun _ => none) w0 (by simp) (fun i _ => ?_) (fun k _ _ hk => (zdr ops.size k hk).elim) ?_ ⟨base.size, base.defers, fun j d _ hS => (zdr ops.size j hS).elim, base.flt, base.left⟩ (fun i _ => ?_) hD
  · cases hq : (Array.replicate ops.size false).getD i false with
    | false => rfl
    | true => exact (zdr ops.size i hq).elim
  · have := cnt_ge (fun i => !(Array.replicate ops.size false).getD i true) 0 ops.size (by omega) (fun i hi => by omega) (fun i _ hi => by simp [hi])
    simpa using this
  · cases hq : (Array.replicate ops.size false).getD i false with
    | false => rfl
    | true => exact (zdr ops.size i hq).elim

theorem zcc {id : Nat} {Q : Exit → Act → World → Prop} {a0 : Act} {w0 : World} {ol : List Oper} (hs fs : List Nat) (n : Nat) (hm : P.follows .mixedOrders = true) (hB : flB ol.toArray a0.tmps.size hs fs n = true)
    (hlay : ∀ i ∈ fs, ∀ o, ol.toArray[i]? = some o → ∀ a fl w, D fl w → fl i = none → ∃ v w', (execOp (Act.eval a) o).run P w = .ok (.value v) w' ∧ D (flSet fl i v) w')
    (hD : D (fun _ => none) w0.drew)
    (h : wpFl P ol.toArray D (fun a => ∀ fl w, D fl w → (∀ i ∈ fs, (fl i).isSome = true) → wpList P ol.toArray Q (ol.drop n) (flAct ol.toArray fs fl a) w) hs a0) :
    (Code.region id ol.toArray true).wp P Q a0 w0 := wp_region_any hm (zlh hs fs n hB hlay hD h)
theorem zfv {id : Nat} {Q : Exit → Act → World → Prop} {a0 : Act} {w0 : World} {ol : List Oper} (hs fs : List Nat) (n l m : Nat) (hm : P.follows .mixedOrders = true) (hnd : noDefer ol.toArray = true) (hB : flB ol.toArray a0.tmps.size hs fs n = true)
    (hlay : ∀ i ∈ fs, ∀ o, ol.toArray[i]? = some o → ∀ a fl w, D fl w → fl i = none → ∃ v w', (execOp (Act.eval a) o).run P w = .ok (.value v) w' ∧ D (flSet fl i v) w')
    (hD : D (fun _ => none) w0.drew)
    (h : wpFl P ol.toArray D (fun a => ∀ fl w, D fl w → (∀ i ∈ fs, (fl i).isSome = true) → wpList P ol.toArray (NoOut Q) (ol.drop n) (flAct ol.toArray fs fl a) w) hs a0) :
    (Code.region id ol.toArray true).wpIn (Fence.wide.inRound l) m P Q a0 w0 := zdh l m hm hnd (zlh hs fs n hB hlay hD h)
end
end Go.Proofs.YtlkhjnpflohfeaaDoor

/- New variables of a region, and what is known of the cut beside them. -/
namespace Go.Proofs.YtlkhjnpflohfeaaDoor
open Go Go.Proofs Go.RowKit

def FVar (W : World) (N : Nat) (T : TypeId) (cs : List Value) (o : Option Value) : Prop := ∀ v, o = some v → ∃ b, v = .pointer (some ⟨b, 0, none⟩) ∧ Blk W b T cs ∧ N ≤ b
theorem FVar.nil {W : World} {N : Nat} {T : TypeId} {cs : List Value} : FVar W N T cs none := fun v h => by cases h
theorem FVar.bel {W W' : World} {N M : Nat} {T : TypeId} {cs : List Value} {o : Option Value} (h : FVar W N T cs o) (hb : Bel M W.heap.size W W') (hM : M < N) : FVar W' N T cs o := fun v hv => by
  obtain ⟨b, h1, h2, h3⟩ := h v hv
  exact ⟨b, h1, h2.bel hb h2.lt (by omega), h3⟩
theorem FVar.below {W W' : World} {N : Nat} {T : TypeId} {cs : List Value} {o : Option Value} (h : FVar W N T cs o) (hb : Below W.heap.size W W') : FVar W' N T cs o := fun v hv => by
  obtain ⟨b, h1, h2, h3⟩ := h v hv
  exact ⟨b, h1, h2.below hb h2.lt, h3⟩
theorem FVar.new {W : World} {N : Nat} {T : TypeId} {cs : List Value} (hN : N ≤ W.heap.size) : FVar (W.alloc (.cells cs.toArray T (0, 0))) N T cs (some (.pointer (some ⟨W.heap.size, 0, none⟩))) := fun v h => by
  cases h; exact ⟨_, rfl, Blk.new _ _ _, hN⟩

theorem Kept.set {w : World} {M : Nat} {x : CutD} (h : Kept w M x) {p : Addr} (hp : p.block ≠ M) (u : Value) : Kept (w.setCell p u) M x := by
  obtain ⟨es, c, h1, h2⟩ := h
  exact ⟨es, c, (Below.heap_setCell _ _ _ _ (Ne.symm hp)).trans h1, h2⟩
theorem Kept.drew {w : World} {M : Nat} {x : CutD} (h : Kept w M x) : Kept w.drew M x := h
theorem Kept.alloc {w : World} {M : Nat} {x : CutD} (h : Kept w M x) (o : Obj) : Kept (w.alloc o) M x := h.below ((Below.refl _ _).alloc (Nat.le_refl _) _) h.lt
structure FCls (D : (Nat → Option Value) → World → Prop) where
  fl : Nat → Option Value
  W : World
  ok : D fl W
section
variable {P : Program} {ops : Array Oper} {D : (Nat → Option Value) → World → Prop} {Pan : Act → Prop}
theorem fl_cls {i : Nat} {rest : List Nat} {a : Act} {o : Oper} {v : Value} (ho : ops[i]? = some o) (hr : ∀ s : FCls D, (execOp a.eval o).run P s.W = .ok (.value v) s.W) (h : wpFl P ops D Pan rest (a.put o.dst v)) : wpFl P ops D Pan (i :: rest) a := by
  unfold wpFl wpPanG
  simp only [ho]
  refine ⟨v, fun fl w hw => ?_, h⟩
  unfold Oper.quietAt
  rw [hr ⟨fl, w, hw⟩]; exact ⟨rfl, rfl⟩
theorem zfo {i : Nat} {rest : List Nat} {a : Act} {o : Oper} {v : Value} (f : FuncId) (args : Array Value) (ho : ops[i]? = some o) (hr : ∀ s : FCls D, (execOp a.eval o).run P s.W = .ok (.enter f args) s.W)
    (hc : ∀ s : FCls D, Calls P f args s.W fun e w' => e = .returned v ∧ D s.fl w') (h : wpFl P ops D Pan rest (a.put o.dst v)) : wpFl P ops D Pan (i :: rest) a := by
  unfold wpFl wpPanG
  simp only [ho]
  refine ⟨v, fun fl w hw => ?_, h⟩
  unfold Oper.quietAt
  rw [hr ⟨fl, w, hw⟩]; exact ⟨rfl, hc ⟨fl, w, hw⟩⟩
theorem fl_nil {a : Act} (h : Pan a) : wpFl P ops D Pan [] a := h
end
end Go.Proofs.YtlkhjnpflohfeaaDoor

/- Contract of Leak. -/
namespace Go.Proofs.YtlkhjnpflohfeaaDoor
open Go Go.Proofs Go.RowKit
attribute [local go_sem] Oper.semAt_some

namespace Cut
end Cut
def leakF (x : CutD) (l : List (Fin 11)) : List (Int × Int) := (l.filter fun y => Cut.some (Cut.seasonAt x (lv y) (Cut.every x) 0)).map fun y => (lv y, lv y)
theorem zvq {x : CutD} (hv : Cut.valid x = true) : leakF x (leaksF x) = Cut.leakSpans x := by
  unfold leakF Cut.leakSpans
  rw [← zhi (Cut.valid_of hv), List.filter_map, List.map_map]; rfl
theorem zvp {x : CutD} (l : List (Fin 11)) (y : Fin 11) (h : Cut.some (Cut.seasonAt x (lv y) (Cut.every x) 0) = true) : leakF x (l ++ [y]) = leakF x l ++ [(lv y, lv y)] := by
  unfold leakF; rw [List.filter_append, List.map_append]; simp [h]
theorem leakF_no {x : CutD} (l : List (Fin 11)) (y : Fin 11) (h : Cut.some (Cut.seasonAt x (lv y) (Cut.every x) 0) = false) : leakF x (l ++ [y]) = leakF x l := by
  unfold leakF; rw [List.filter_append, List.map_append]; simp [h]
theorem leakF_le {x : CutD} (l : List (Fin 11)) : (leakF x l).length ≤ l.length := by
  unfold leakF
  rw [List.length_map]; exact List.length_filter_le _ _

set_option maxHeartbeats 2000000 in
set_option maxRecDepth 100000 in
theorem Leak_any (x : CutD) (ra ba la : Option Addr) (rc bc lc : Nat) (w : World) (hin : CutIn w x ra ba la) :
    Calls Tryd.prog 16 #[cutVal x ra ba la rc bc lc] w fun e w' => e = .returned (.tuple #[.agg #[.int .i64 (leakR x).1.1, .int .i64 (leakR x).1.2], .int .i64 (leakR x).2]) ∧ Below w.heap.size w w' := by
  have HIN := hide hin
  clear hin
  unfold cutVal
  refine (callsIn_wide (n := 4)).1 ?_
  refine callsIn_of_wp_marks Tryd.func16 rfl trivial ?_ rfl
  simp only [Tryd.ntmps16, List.size_toArray, List.length_cons, List.length_nil, Nat.reduceAdd, Nat.reduceSub, Array.replicate_succ, Array.replicate_zero, List.push_toArray, List.append_toArray, List.nil_append, List.cons_append]
  gi_wp2_with fail
  obtain ⟨w3, hw3⟩ : ∃ w3, (((w.alloc (Obj.cells (cutCells x ra ba la rc bc lc).toArray 28)).alloc (Obj.cells #[Value.int IntKind.i64 0, Value.int IntKind.i64 0] 23)).alloc (Obj.cells #[Value.int IntKind.i64 0] 31)) = w3 := ⟨_, rfl⟩
  simp only [cutCells] at hw3
  rw [hw3]
  have hz3 : w3.heap.size = w.heap.size + 1 + 1 + 1 := by rw [← hw3]; simp
  have hb3 : Below w.heap.size w w3 := by rw [← hw3]; (repeat' first | (with_reducible assumption) | (with_reducible exact Below.refl _ _) | (with_reducible refine Below.drew ?_) | (with_reducible refine Below.setCell ?_ ?_ _) | (with_reducible refine Below.alloc ?_ ?_ _) | (refine Below.trans ?_ (Below.mono (by assumption) ?_)) | omega | (simp only [World.size_alloc] at *; omega))
  have b1 : Blk w3 (w.heap.size + 1) 23 [.int .i64 0, .int .i64 0] := by rw [← hw3]; exact (Blk.new' _ [_, _] _ (by simp)).alloc _
  have b2 : Blk w3 (w.heap.size + 1 + 1) 31 [.int .i64 0] := by rw [← hw3]; exact Blk.new' _ [_] _ (by simp)
  have HIN3 := hide (HIN.out.below hb3)
  clear hw3
  refine ⟨trivial, ?_⟩
  refine (callsIn_wide.2 (zeb _ x ra ba la rc bc lc true _ HIN3.out ?_)).mono ?_
  · exact ⟨_, _, rfl, enters_of Tryd.func51 (by kernel_rfl) rfl, fun B M la lc w' _ _ _ _ _ => zlj B w'⟩
  rintro e w5 ⟨hb5, h⟩
  have c1 := b1.below hb5 (by omega)
  have c2 := b2.below hb5 (by omega)
  have hb5' := hb3.trans (hb5.mono (show w.heap.size ≤ w3.heap.size by omega))
  rcases h with ⟨hv, rfl⟩ | ⟨hv, hbf, rfl⟩ | ⟨hv, hbt, B, M, la', lc', hB, hM, rfl, hcut⟩
  · refine zes (c2.cell 0 rfl) (c2.free 0) rfl (results2 rfl (zge (w.heap.size + 1) 23 _ _ rfl (c1.other (by omega) _ _) Tryd.underlying23 rfl (by kernel_rfl)) (zaw (w.heap.size + 1 + 1) _ rfl ((c2.set 0 _).cell 0 rfl) (by kernel_rfl))) ⟨?_, hb5'.setCell (p := ⟨w.heap.size + 1 + 1, 0, none⟩) (show w.heap.size ≤ w.heap.size + 1 + 1 by omega) _⟩
    unfold leakR
    rw [zbq hv]; rfl
  · cases hbf
  · have HCut := hide hcut
    clear hcut
    gi_wp2_with fail
    refine ⟨trivial, ?_⟩
    cases hcan : Cut.can x (Cut.every x) with
    | false =>
      refine (callsIn_wide.2 (zgx w5 HCut.out hv hcan)).mono ?_
      rintro e w6 ⟨rfl, hb6, hk6⟩
      have hb6' := hb6.below_lt (N' := w3.heap.size) hM hb5.size
      have d1 := c1.below hb6' (by omega)
      have d2 := c2.below hb6' (by omega)
      refine zes (d2.cell 0 rfl) (d2.free 0) rfl (results2 rfl (zge (w.heap.size + 1) 23 _ _ rfl (d1.other (by omega) _ _) Tryd.underlying23 rfl (by kernel_rfl)) (zaw (w.heap.size + 1 + 1) _ rfl ((d2.set 0 _).cell 0 rfl) (by kernel_rfl))) ⟨?_, (hb5'.trans (hb6'.mono (by omega))).setCell (p := ⟨w.heap.size + 1 + 1, 0, none⟩) (show w.heap.size ≤ w.heap.size + 1 + 1 by omega) _⟩
      unfold leakR
      rw [zbm hv hcan]; rfl
    | true =>
      refine (callsIn_wide.2 (zey w5 HCut.out hv hcan)).mono ?_
      rintro e w6 ⟨rfl, hb6, hk6⟩
      have hb6' := hb6.below_lt (N' := w3.heap.size) hM hb5.size
      have HC6 := hide (HCut.out.bel hb6 hk6)
      have d1 := c1.below hb6' (by omega)
      have d2 := c2.below hb6' (by omega)
      have hz6 := hb6.size
      have hz5 := hb5.size
      have hM6 := HC6.out.kept.lt
      have hB6 := HC6.out.blk.lt
      have hBM := HC6.out.ne
      have hfin : Hid (leakR x = (Cut.leakSpan x, 0)) := by
        unfold leakR
        rw [zci hv hcan, if_pos rfl]; rfl
      have hbw6 : Hid (Below w.heap.size w w6) := hb5'.trans (hb6'.mono (by omega))
      have HP := hide (Cut.leakSpans_pos x hcan)
      have HS := hide (zvq hv)
      clear b1 b2 c1 c2 hk6 hb6 hb6' hb5' hb5
      gi_wp2_with (refine ⟨trivial, ?_⟩; gi_at_call 52; refine (callsIn_wide.2 (zjb _)).mono ?_; rintro e w' ⟨rfl, rfl⟩)
      obtain ⟨w9, hw9⟩ : ∃ w9, (((w6.alloc (Obj.cells #[Value.pointer (some ⟨B, 0, none⟩)] 70)).alloc (Obj.cells #[Value.slice none 0 0] 24)).alloc (Obj.cells #[Value.pointer (some ⟨B, 0, none⟩)] 70)) = w9 := ⟨_, rfl⟩
      rw [hw9]
      have hz9 : w9.heap.size = w6.heap.size + 1 + 1 + 1 := by rw [← hw9]; simp
      have hb9 : Below w6.heap.size w6 w9 := by rw [← hw9]; (repeat' first | (with_reducible assumption) | (with_reducible exact Below.refl _ _) | (with_reducible refine Below.drew ?_) | (with_reducible refine Below.setCell ?_ ?_ _) | (with_reducible refine Below.alloc ?_ ?_ _) | (refine Below.trans ?_ (Below.mono (by assumption) ?_)) | omega | (simp only [World.size_alloc] at *; omega))
      have b0 : Blk w9 w6.heap.size 70 [.pointer (some ⟨B, 0, none⟩)] := by rw [← hw9]; exact ((Blk.new' _ [_] _ rfl).alloc _).alloc _
      have b3 : Blk w9 (w6.heap.size + 1) 24 [.slice none 0 0] := by rw [← hw9]; exact (Blk.new' _ [_] _ (by simp)).alloc _
      have b4 : Blk w9 (w6.heap.size + 1 + 1) 70 [.pointer (some ⟨B, 0, none⟩)] := by rw [← hw9]; exact Blk.new' _ [_] _ (by simp)
      have HC9 := hide (HC6.out.below hb9)
      have e1 := d1.below hb9 (by omega)
      have e2 := d2.below hb9 (by omega)
      clear hw9 d1 d2
      refine wpIn_rangeFunc_ownG rfl (by omega) (gf := 86) (lb := #[.pointer (some ⟨w6.heap.size + 1 + 1, 0, none⟩)]) rfl trivial (enters_of Tryd.func86 (by kernel_rfl) rfl)
        (zhy hv 3 (w6.heap.size + 1 + 1) w9 b4 HC9.out.blk.lt (HC9.out.blk.cell 2 rfl) (HC9.out.blk.cell 3 rfl)) (fun h k => h.trans k) (fun W l o o' hl _ _ _ => ⟨World.putObj_heap_other (by omega), World.putObj_heap_other (by omega)⟩) (Below.refl _ _) (fun _ => rfl)
        (fun pre W => ∃ v, WI w9 B (w6.heap.size + 1) (w6.heap.size + 1 + 1) M x v (leakF x pre) W)
        (fun c pre W => False)
        (fun s X Y row hs hg hr => by
          obtain ⟨v, h1, h2, h3, h4, h5, h6⟩ := hs
          exact ⟨v, h1.grown hg (by omega) (by omega) (fun r e => (hr r e).1), h2.grown (B0 := w9.heap.size) hg (by omega) (fun r e => (hr r e).1), h3.grown (B0 := w9.heap.size) hg (by omega) (fun r e => (hr r e).1), h4.grown hg (fun r e => (hr r e).2), Nat.le_trans h5 hg.size, h6.grown (B0 := w9.heap.size) hg (by omega) (fun r e => (hr r e).1)⟩)
        (fun c s X Y row hs hg hr => hs.elim)
        ⟨_, Bel.refl _ _ _, HC9.out.kept, b3, OwnsS.nil _ _, Nat.le_refl _, b4⟩
        (fun y => { tmps := #[.agg #[.int .i64 x.depth.1, .int .i64 x.depth.2, .int .i64 x.leak.1, .int .i64 x.leak.2, .slice ra x.rain.length rc, .int .i64 x.most, .slice ba x.boats.length bc, .slice la x.looks.length lc], .pointer (some ⟨w.heap.size, 0, none⟩), .pointer (some ⟨w.heap.size + 1, 0, none⟩), .pointer (some ⟨w.heap.size + 1 + 1, 0, none⟩), .pointer (some ⟨w6.heap.size, 0, none⟩), .pointer (some ⟨w6.heap.size + 1, 0, none⟩), .int .i64 (lv y), .agg #[.int .i64 x.depth.1, .int .i64 x.depth.2, .int .i64 x.leak.1, .int .i64 x.leak.2, .slice ra x.rain.length rc, .int .i64 x.most, .slice ba x.boats.length bc, .slice la x.looks.length lc], .pointer (some ⟨B, 0, none⟩), .pointer (some ⟨B, 0, none⟩), .pointer (some ⟨B, 0, none⟩), .func (.func 86) #[] #[.pointer (some ⟨w6.heap.size + 1 + 1, 0, none⟩)], .int .i64 (lv y), undef, undef, undef, undef, undef, undef, undef, undef, undef, undef, undef, undef, undef, undef, undef, undef], defers := [] }) ?assign ?body ?done ?stop
      case assign =>
        intro l y W K hK
        gi_wp2
        exact hK
      case body =>
        rintro l pre y W ⟨v, hWI⟩ hpre
        obtain ⟨hB', hkept, d3, hown, hsz, d4⟩ := id hWI
        have HCW := hide (HC6.out.bel ((Bel.of_below hb9).trans (hB'.mono (by omega))) hkept)
        have e0 := b0.bel hB' (by omega) (by omega)
        have hMW : M < W.heap.size := by omega
        have HWI := hide hWI
        clear hWI hown d3 d4 hkept
        gi_wp2_with fail
        have q0 : ∀ s : FCls (fun _ W' => KBase W M x W'), s.W.cell? ⟨w6.heap.size, 0, none⟩ = some (.pointer (some ⟨B, 0, none⟩)) := fun s => (e0.bel s.ok.1 e0.lt (by omega)).cell 0 rfl
        have ix : ∀ W : World, (Instr.index 85 (.agg (cells18 (Cut.seasonAt x (lv y) (Cut.every x))).toArray) (.int .i64 0)).run Tryd.prog W = .ok (.agg #[.int .i64 (Cut.seasonAt x (lv y) (Cut.every x) 0).1, .int .i64 (Cut.seasonAt x (lv y) (Cut.every x) 0).2]) W := fun W => zje _ 0 (by omega) W
        refine zfv (D := fun _ W' => KBase W M x W') [0, 1, 2, 3, 4, 5, 6, 7] [] 8 l _ (by kernel_rfl) (by kernel_rfl) (by kernel_rfl) (fun i hi => by cases hi) ⟨(Bel.refl _ _ _).drew, HCW.out.kept.drew⟩ ?_
        iterate 3 (apply fl_cls; rfl; (intro s; first | (go_simp; rfl) | (go_simp; done)))
        refine zfo 54 #[.pointer (some ⟨B, 0, none⟩)] (v := .int .u64 (Cut.every x : Nat)) rfl (fun s => ?_) (fun s => ?_) ?_
        · (first | (go_simp; rfl) | (go_simp; done))
        · refine (zdv _ (HCW.out.bel s.ok.1 s.ok.2) (Cut.valid_of hv).k5).mono ?_
          rintro e w' ⟨rfl, rfl⟩
          exact ⟨rfl, s.ok⟩
        iterate 1 (apply fl_cls; rfl; (intro s; first | (go_simp; rfl) | (go_simp; done)))
        refine zfo 53 #[.pointer (some ⟨B, 0, none⟩), .agg #[.int .i64 (lv y), .int .u64 (Cut.every x : Nat)]] (v := .agg (cells18 (Cut.seasonAt x (lv y) (Cut.every x))).toArray) rfl (fun s => ?_) (fun s => ?_) ?_
        · (first | (go_simp; rfl) | (go_simp; done))
        · refine (zha _ _ _ (HCW.out.bel s.ok.1 s.ok.2) hv (lv_le y) (zgm hv)).mono ?_
          rintro e w' ⟨rfl, hb, hk⟩
          exact ⟨rfl, s.ok.1.trans (hb.mono s.ok.1.size), hk⟩
        iterate 1 (apply fl_cls; rfl; (intro s; first | (go_simp; rfl) | (go_simp; done)))
        refine zfo 55 #[.agg #[.int .i64 (Cut.seasonAt x (lv y) (Cut.every x) 0).1, .int .i64 (Cut.seasonAt x (lv y) (Cut.every x) 0).2]] (v := .bool (Cut.some (Cut.seasonAt x (lv y) (Cut.every x) 0))) rfl (fun s => ?_) (fun s => ?_) ?_
        · (first | (go_simp; rfl) | (go_simp; done))
        · refine (zcy _ _ _).mono ?_
          rintro e w' ⟨rfl, hb⟩
          exact ⟨rfl, s.ok.1.trans (Bel.of_below (hb.mono s.ok.1.size)), s.ok.2.below hb s.ok.2.lt⟩
        refine fl_nil ?_
        clear q0 ix
        intro fl w8 hD _
        (simp only [flAct, dstOf, Act.put, List.foldl_nil, List.getElem?_toArray, List.getElem_toArray, List.getElem_cons_succ, List.getElem_cons_zero, List.setIfInBounds_toArray, List.set_cons_succ, List.set_cons_zero])
        obtain ⟨hW8, hk8⟩ := hD
        have hI8 := HWI.out.go hW8 hk8 (by omega) (by omega) (by omega)
        have d38 := hI8.cell.cell 0 rfl
        have f38 := hI8.cell.free 0
        have hl8 := hI8.cell.lt
        have HI8 := hide hI8
        clear hI8
        simp only [List.drop_succ_cons, List.drop_zero]
        go_wp2
        simp only [NoOut]
        have hlen := leakF_le (x := x) pre
        have h58 : w9.heap.size ≤ w8.heap.size := HI8.out.size
        cases hsm : Cut.some (Cut.seasonAt x (lv y) (Cut.every x) 0) with
        | true =>
          have HN := hide (zvp pre y hsm)
          clear hsm
          obtain ⟨i0, hi, hz0, hz1, hz2⟩ := info_parts zmz
          have HOB := hide ((HI8.out.own).alloc (Obj.cells #[Value.int IntKind.i64 (lv y), Value.int IntKind.i64 (lv y)] 23))
          have hc1 : Hid (∀ j u, [Value.int IntKind.i64 (lv y), Value.int IntKind.i64 (lv y)][j]? = some u → (w8.alloc (Obj.cells #[Value.int IntKind.i64 (lv y), Value.int IntKind.i64 (lv y)] 23)).cell? (Addr.add ⟨w8.heap.size, 0, none⟩ j) = some u) := fun j u hj => by
            have := (Blk.new w8 [Value.int IntKind.i64 (lv y), Value.int IntKind.i64 (lv y)] 23).cell j hj
            rwa [show Addr.add ⟨w8.heap.size, 0, none⟩ j = ⟨w8.heap.size, j, none⟩ by simp [Addr.add]; exact fun h => h.symm]
          have hc2 : Hid (∀ u ∈ [Value.int IntKind.i64 (lv y), Value.int IntKind.i64 (lv y)], u.oneCell' = true) := by
            intro u hu; simp only [List.mem_cons, List.not_mem_nil, or_false] at hu; rcases hu with rfl | rfl <;> rfl
          gi_wp2_with (gi_at_builtin; refine wpListIn_append_own _ rfl (.tmp 21) (.tmp 25) 24 rfl w9.heap.size 23 i0 _ 2 16 Tryd.underlying24 hi hz0 hz1 hz2 rfl (by decide) v _ _ rfl HOB.out ⟨w8.heap.size, 0, none⟩ 1 1 _ rfl rfl hc1.out hc2.out (by unfold maxLen; omega) (by omega) (by simp; omega) ?_; intro v' w10 hown9 hg9 _; obtain ⟨sa, sn, sc, rfl⟩ := zgh hown9; have HO9 := hide (OwnsS.snoc (s := (lv y, lv y)) hown9); have HG9 := hide hg9; have k9 := (HI8.out.cell.alloc _).grown (B0 := w9.heap.size) hg9 (by omega) (fun r hr => OwnsS.from HI8.out.own hr); have kc9 := k9.cell 0 rfl; have kf9 := k9.free 0; clear hown9 hg9)
          refine ⟨(hW8.keeps (by omega)).trans (HI8.out.keepsPush _ HG9.out), (WI.keep2 hW8 (by omega) (by omega) (by omega) (by omega)).trans (HI8.out.keep2Push _ (by omega) (by omega) (by omega) (by omega) (by omega) HG9.out), ⟨.slice sa sn sc, ?_⟩⟩
          rw [HN.out]
          exact HI8.out.push _ (by omega) (by omega) (by omega) HG9.out HO9.out
        | false =>
          have HN := hide (leakF_no pre y hsm)
          clear hsm
          gi_wp2
          refine ⟨hW8.keeps (by omega), WI.keep2 hW8 (by omega) (by omega) (by omega) (by omega), ⟨v, ?_⟩⟩
          rw [HN.out]
          exact HI8.out
      case done =>
        rintro D ys W hD rfl ⟨v, hI⟩ hK
        rw [HS.out] at hI
        obtain ⟨g, cap, rfl, hg, hlc, hcap, hgl, hcells⟩ := hI.own.row HP.out
        have q5 := hI.cell.cell 0 rfl
        have f1 := e1.bel hI.bel (by omega) (by omega)
        have f2 := e2.bel hI.bel (by omega) (by omega)
        have HI := hide hI
        have HCe := hide hcells
        have hsz := hI.size
        clear hI hcells
        gi_wp2_with (refine ⟨trivial, ?_⟩; gi_at_call 56; refine (callsIn_wide.2 (zkt (Cut.leakSpans x) g 0 cap _ HP.out hlc hcap hgl HCe.out)).mono ?_; rintro e w10 ⟨rfl, hb10⟩; have h1 := f1.below hb10 f1.lt; have h2 := f2.below hb10 f2.lt; have k0 := h1.cell 0 rfl; have k1 := h1.cell 1 rfl; have k2 := h1.free 0; have k3 := h1.free 1; have k4 := h2.cell 0 rfl; have k5 := h2.free 0)
        have hDW : D < W.heap.size := (Array.getElem?_eq_some_iff.1 hK).1
        have hD9 : ((((w10.setCell ⟨w.heap.size + 1, 0, none⟩ (.int .i64 (Cut.joined (Cut.leakSpans x)).1)).setCell ⟨w.heap.size + 1, 1, none⟩ (.int .i64 (Cut.joined (Cut.leakSpans x)).2))).setCell ⟨w.heap.size + 1 + 1, 0, none⟩ (.int .i64 0)).heap[D]? = some (.deferred (some [])) :=
          (Below.heap_setCell _ ⟨w.heap.size + 1 + 1, 0, none⟩ _ D (by show D ≠ w.heap.size + 1 + 1; omega)).trans ((Below.heap_setCell _ ⟨w.heap.size + 1, 1, none⟩ _ D (by show D ≠ w.heap.size + 1; omega)).trans ((Below.heap_setCell _ ⟨w.heap.size + 1, 0, none⟩ _ D (by show D ≠ w.heap.size + 1; omega)).trans ((hb10.block D hDW).trans hK)))
        have t1 := ((((h1.set 0 (.int .i64 (Cut.joined (Cut.leakSpans x)).1)).set 1 (.int .i64 (Cut.joined (Cut.leakSpans x)).2))).other (show w.heap.size + 1 ≠ w.heap.size + 1 + 1 by omega) 0 (.int .i64 0)).put (l := D) (o := .deferred none) (by omega)
        have t2 := (((h2.other (show w.heap.size + 1 + 1 ≠ w.heap.size + 1 by omega) 0 (.int .i64 (Cut.joined (Cut.leakSpans x)).1)).other (show w.heap.size + 1 + 1 ≠ w.heap.size + 1 by omega) 1 (.int .i64 (Cut.joined (Cut.leakSpans x)).2)).set 0 (.int .i64 0)).put (l := D) (o := .deferred none) (by omega)
        simp only [List.set_cons_zero, List.set_cons_succ] at t1
        have hbw : Below w.heap.size w w10 := ((hbw6.out.trans (hb9.mono (by omega))).trans ((HI.out.bel.below_lt (by omega) (by omega)))).trans (hb10.mono (by omega))
        have hbx := (((hbw.setCell (p := ⟨w.heap.size + 1, 0, none⟩) (by show w.heap.size ≤ w.heap.size + 1; omega) (.int .i64 (Cut.joined (Cut.leakSpans x)).1)).setCell (p := ⟨w.heap.size + 1, 1, none⟩) (by show w.heap.size ≤ w.heap.size + 1; omega) (.int .i64 (Cut.joined (Cut.leakSpans x)).2)).setCell (p := ⟨w.heap.size + 1 + 1, 0, none⟩) (by show w.heap.size ≤ w.heap.size + 1 + 1; omega) (.int .i64 0)).trans (Below.putObj (N := w.heap.size) (l := D) (by omega) (.deferred none))
        refine ⟨by simp, .inl ⟨_, _, rfl, run_takeDeferred hD9, ?_⟩⟩
        refine znw rfl (results2 rfl (zge (w.heap.size + 1) 23 _ _ rfl t1 Tryd.underlying23 rfl (by kernel_rfl)) (zaw (w.heap.size + 1 + 1) (.int .i64 0) rfl (t2.cell 0 rfl) (by kernel_rfl))) ⟨?_, hbx⟩
        rw [hfin.out]; rfl
      case stop =>
        rintro D c pre W hD hpre hF hK
        exact hF.elim
end Go.Proofs.YtlkhjnpflohfeaaDoor
