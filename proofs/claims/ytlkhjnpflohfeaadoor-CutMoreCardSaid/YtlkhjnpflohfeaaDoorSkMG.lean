/- A law that was gone through by the evaluator, as a call of the program. -/
import Derived.Test.YtlkhjnpflohfeaaDoorSkMF
import Derived.BigQuiet
import Derived.Test.YtlkhjnpflohfeaaDoorCoreC
import Derived.Test.YtlkhjnpflohfeaaDoorCoreD
import Derived.Test.YtlkhjnpflohfeaaDoorSkMA
import Derived.Test.YtlkhjnpflohfeaaDoorSkME
import Derived.Test.YtlkhjnpflohfeaaDoorSkMD
/- The contract of awake: the examples of the document hold. -/
namespace Go.Proofs.YtlkhjnpflohfeaaDoor
open Go Go.Proofs Go.RowKit

structure Aw (w W : World) (b1 b2 : Nat) (r1 a1 r2 a2 l2 : Option Addr) : Prop where
  bel : Below w.heap.size w W
  x1 : Blk W b1 28 (cutCells (sampleD []) r1 a1 none 4 2 0)
  x2 : Blk W b2 28 (cutCells (sampleD [look1]) r2 a2 l2 4 2 1)
  i1 : CutIn W (sampleD []) r1 a1 none
  i2 : CutIn W (sampleD [look1]) r2 a2 l2
theorem Aw.below {w W W' : World} {b1 b2 : Nat} {r1 a1 r2 a2 l2 : Option Addr} (h : Aw w W b1 b2 r1 a1 r2 a2 l2) (hb : Below W.heap.size W W') : Aw w W' b1 b2 r1 a1 r2 a2 l2 :=
  ⟨h.bel.trans (hb.mono h.bel.size), h.x1.below hb h.x1.lt, h.x2.below hb h.x2.lt, h.i1.below hb, h.i2.below hb⟩

theorem wpList_store_row2 {P : Program} {ops : Array Oper} {rest : List Oper} {o : Oper} {a : Act} {w : World} {Q : Exit → Act → World → Prop} (hgd : o.guard = none) (ty : TypeId) (x y : Operand) (ho : o.op = .store ty x y)
    (g : Nat) (cells : Array Value) (hx : a.eval x = .pointer (some ⟨g, 0, none⟩)) (hy : a.eval y = .agg cells)
    (t : TypeId) (old : Array Value) (hg : w.heap[g]? = some (.cells old t (0, 0))) (hi : (P.info? ty).map (·.size) = some cells.size)
    (hold : old.size = cells.size) (h1 : cells.all (·.oneCell') = true)
    (h : ∀ W', w.setRow g cells = W' → wpList P ops Q rest (a.put o.dst undef) W') : wpList P ops Q (o :: rest) a w :=
  wpList_store_row hgd ty x y ho g cells hx hy t old hg hi hold h1 (h _ rfl)

abbrev zcut : List Value := [.int .i64 0, .int .i64 0, .int .i64 0, .int .i64 0, .slice none 0 0, .int .i64 0, .slice none 0 0, .slice none 0 0]
theorem aw_start {w w3 : World} {r1 a1 r2 a2 l2 : Option Addr} (hbw : Below w.heap.size w w3) (hi1 : CutIn w3 (sampleD []) r1 a1 none) (hi2 : CutIn w3 (sampleD [look1]) r2 a2 l2) :
    Aw w ((((w3.alloc (Obj.cells zcut.toArray 28)).alloc (Obj.cells zcut.toArray 28)).setRow w3.heap.size (cutCells (sampleD []) r1 a1 none 4 2 0).toArray).setRow (w3.heap.size + 1) (cutCells (sampleD [look1]) r2 a2 l2 4 2 1).toArray) w3.heap.size (w3.heap.size + 1) r1 a1 r2 a2 l2 := by
  have hbb : Below w3.heap.size w3 ((((w3.alloc (Obj.cells zcut.toArray 28)).alloc (Obj.cells zcut.toArray 28)).setRow w3.heap.size (cutCells (sampleD []) r1 a1 none 4 2 0).toArray).setRow (w3.heap.size + 1) (cutCells (sampleD [look1]) r2 a2 l2 4 2 1).toArray) := below_setRow (below_setRow (((Below.refl _ _).alloc (Nat.le_refl _) _).alloc (by simp) _) _ (Nat.le_refl _) _) _ (by omega) _
  refine ⟨hbw.trans (hbb.mono hbw.size), ?_, ?_, hi1.below hbb, hi2.below hbb⟩
  · exact blk_setRow_other (blk_setRow ((Blk.new w3 zcut 28).alloc _) (cutCells (sampleD []) r1 a1 none 4 2 0)) (by omega) _
  · exact blk_setRow (blk_setRow_other (Blk.new' _ zcut 28 (by simp)) (by omega) _) (cutCells (sampleD [look1]) r2 a2 l2 4 2 1)

theorem sample_cells {W : World} {b : Nat} {r a l : Option Addr} {ls : List Look} {lc : Nat} (h : Blk W b 28 (cutCells (sampleD ls) r a l 4 2 lc)) :
    W.cell? ⟨b, 0, none⟩ = some (.int .i64 10) ∧ W.cell? ⟨b, 1, none⟩ = some (.int .i64 12) ∧ W.cell? ⟨b, 2, none⟩ = some (.int .i64 1) ∧ W.cell? ⟨b, 3, none⟩ = some (.int .i64 2) ∧
    W.cell? ⟨b, 4, none⟩ = some (.slice r 4 4) ∧ W.cell? ⟨b, 5, none⟩ = some (.int .i64 20) ∧ W.cell? ⟨b, 6, none⟩ = some (.slice a 2 2) ∧ W.cell? ⟨b, 7, none⟩ = some (.slice l ls.length lc) :=
  ⟨h.cell 0 rfl, h.cell 1 rfl, h.cell 2 rfl, h.cell 3 rfl, h.cell 4 rfl, h.cell 5 rfl, h.cell 6 rfl, h.cell 7 rfl⟩

set_option maxHeartbeats 2000000 in
set_option maxRecDepth 100000 in
theorem awake_any (w : World) (hd : Dry w) : Calls Tryd.prog 13 #[] w fun e w' => e = .returned (.bool true) ∧ Below w.heap.size w w' := by
  have HD := hide hd
  clear hd
  go_enter Tryd.func13, Tryd.ntmps13
  go_wp2_with fail
  refine (sample_any [] none 0 _ (.inl rfl) HD.out).mono ?_
  rintro e w1 ⟨r1, a1, rfl, hb1, hi1⟩
  have HB1 := hide hb1
  have HI1 := hide hi1
  have hd1 := hide hi1.dry
  clear hb1 hi1
  go_wp2_with fail
  refine (lawLook_any _ _ _ _).mono ?_
  rintro e w2 ⟨rfl, hb2⟩
  have HB2 := hide hb2
  clear hb2
  go_wp2_with fail
  have hbs : Below w2.heap.size w2 (w2.alloc (Obj.cells #[.int .i64 2, .int .i64 14, .int .i64 20] 55)) := (Below.refl _ _).alloc (Nat.le_refl _) _
  have hkl : Blk (w2.alloc (Obj.cells #[.int .i64 2, .int .i64 14, .int .i64 20] 55)) w2.heap.size 55 [.int .i64 2, .int .i64 14, .int .i64 20] := Blk.new w2 _ _
  refine (sample_any [look1] (some ⟨w2.heap.size, 0, none⟩) 1 _ (.inr ⟨_, 0, rfl, by simp, fun i j hi hj => ?_⟩) ((hd1.out.below HB2.out).below hbs)).mono ?_
  · have : i = 0 ∧ (j = 0 ∨ j = 1 ∨ j = 2) := by have : i < 1 := hi; omega
    obtain ⟨rfl, rfl | rfl | rfl⟩ := this
    all_goals exact hkl.cell _ rfl
  rintro e w3 ⟨r2, a2, rfl, hb3, hi2⟩
  have hb13 : Below w1.heap.size w1 w3 := (HB2.out.trans (hbs.mono HB2.out.size)).trans (hb3.mono (by have := HB2.out.size; have := hbs.size; omega))
  have HI1' := hide (HI1.out.below hb13)
  have HI2 := hide hi2
  have hbw := hide (HB1.out.trans (hb13.mono HB1.out.size))
  have hl3 := hbw.out.size
  clear hb3 hi2 hb13 HI1 HB1 HB2 hd1 hbs hkl
  go_wp2_with first
    | (refine wpList_store_row rfl 28 (.tmp 1) (.tmp 23) rfl w3.heap.size _ rfl rfl _ _ ((Blk.new w3 [.int .i64 0, .int .i64 0, .int .i64 0, .int .i64 0, .slice none 0 0, .int .i64 0, .slice none 0 0, .slice none 0 0] 28).alloc _) (by kernel_rfl) rfl (by first | rfl | simp [Value.oneCell']) ?_)
    | (refine wpList_store_row2 rfl 28 (.tmp 2) (.tmp 26) rfl (w3.heap.size + 1) _ rfl rfl _ _ (blk_setRow_other (Blk.new' _ [.int .i64 0, .int .i64 0, .int .i64 0, .int .i64 0, .slice none 0 0, .int .i64 0, .slice none 0 0, .slice none 0 0] 28 (by simp)) (by omega) _) (by kernel_rfl) rfl (by first | rfl | simp [Value.oneCell']) ?_; intro W0 hW; have HA0 := hide (hW ▸ aw_start hbw.out HI1'.out HI2.out); clear hW; have hp1 := HA0.out.x1.lt; obtain ⟨c0, c1, c2, c3, c4, c5, c6, c7⟩ := sample_cells HA0.out.x1; clear HI1' HI2 hbw)
  refine (Depth_any (sampleD []) 3 r1 a1 none 4 2 0 _ HA0.out.i1).mono ?_
  rintro e W1 ⟨rfl, hb⟩
  simp only [ex_depth]
  have HA1 := hide (HA0.out.below hb)
  clear HA0 hb c0 c1 c2 c3 c4 c5 c6 c7 hp1
  have hp2 := HA1.out.x2.lt
  obtain ⟨c0, c1, c2, c3, c4, c5, c6, c7⟩ := sample_cells HA1.out.x2
  go_wp2_with fail
  refine (Leak_any (sampleD [look1]) r2 a2 _ 4 2 1 _ (HA1.out.below (by (repeat' first | (with_reducible assumption) | (with_reducible exact Below.refl _ _) | (with_reducible refine Below.drew ?_) | (with_reducible refine Below.setCell ?_ ?_ _) | (with_reducible refine Below.alloc ?_ ?_ _) | (refine Below.trans ?_ (Below.mono (by assumption) ?_)) | omega | (simp only [World.size_alloc, World.size_setCell, World.size_drew] at *; omega)))).i2).mono ?_
  rintro e W2 ⟨rfl, hb⟩
  simp only [ex_leak]
  have S3 : Blk W2 W1.heap.size 23 [.int .i64 7, .int .i64 18] := Blk.below (Blk.new _ _ _) hb (by simp)
  have HA2 := hide ((HA1.out.below (by (repeat' first | (with_reducible assumption) | (with_reducible exact Below.refl _ _) | (with_reducible refine Below.drew ?_) | (with_reducible refine Below.setCell ?_ ?_ _) | (with_reducible refine Below.alloc ?_ ?_ _) | (refine Below.trans ?_ (Below.mono (by assumption) ?_)) | omega | (simp only [World.size_alloc, World.size_setCell, World.size_drew] at *; omega)))).below hb)
  clear hb HA1 c0 c1 c2 c3 c4 c5 c6 c7 hp2
  have hp1 := HA2.out.x1.lt
  obtain ⟨c0, c1, c2, c3, c4, c5, c6, c7⟩ := sample_cells HA2.out.x1
  go_wp2_with fail
  refine (Floats_any (sampleD []) 0 2 0 r1 a1 none 4 2 0 _ (HA2.out.below (by (repeat' first | (with_reducible assumption) | (with_reducible exact Below.refl _ _) | (with_reducible refine Below.drew ?_) | (with_reducible refine Below.setCell ?_ ?_ _) | (with_reducible refine Below.alloc ?_ ?_ _) | (refine Below.trans ?_ (Below.mono (by assumption) ?_)) | omega | (simp only [World.size_alloc, World.size_setCell, World.size_drew] at *; omega)))).i1).mono ?_
  rintro e W3 ⟨rfl, hb⟩
  simp only [ex_floats]
  have S5 : Blk W3 W2.heap.size 23 [.int .i64 1, .int .i64 1] := Blk.below (Blk.new _ _ _) hb (by simp)
  replace S3 := (S3.alloc _).below hb (by simp; have := S3.lt; omega)
  have HA3 := hide ((HA2.out.below (by (repeat' first | (with_reducible assumption) | (with_reducible exact Below.refl _ _) | (with_reducible refine Below.drew ?_) | (with_reducible refine Below.setCell ?_ ?_ _) | (with_reducible refine Below.alloc ?_ ?_ _) | (refine Below.trans ?_ (Below.mono (by assumption) ?_)) | omega | (simp only [World.size_alloc, World.size_setCell, World.size_drew] at *; omega)))).below hb)
  clear hb HA2 c0 c1 c2 c3 c4 c5 c6 c7 hp1
  obtain ⟨c0, c1, c2, c3, c4, c5, c6, c7⟩ := sample_cells HA3.out.x1
  go_wp2_with fail
  refine (Loads_any (sampleD []) 0 2 r1 a1 none 4 2 0 _ HA3.out.i1).mono ?_
  rintro e W4 ⟨rfl, hb⟩
  simp only [ex_loads]
  replace S3 := S3.below hb S3.lt
  replace S5 := S5.below hb S5.lt
  have HA4 := hide (HA3.out.below hb)
  clear hb HA3 c0 c1 c2 c3 c4 c5 c6 c7
  obtain ⟨c0, c1, c2, c3, c4, c5, c6, c7⟩ := sample_cells HA4.out.x1
  go_wp2_with fail
  refine (Days_any (sampleD []) 0 1 r1 a1 none 4 2 0 _ HA4.out.i1).mono ?_
  rintro e W5 ⟨rfl, hb⟩
  simp only [ex_days]
  replace S3 := S3.below hb S3.lt
  replace S5 := S5.below hb S5.lt
  have HA5 := hide (HA4.out.below hb)
  clear hb HA4 c0 c1 c2 c3 c4 c5 c6 c7
  obtain ⟨c0, c1, c2, c3, c4, c5, c6, c7⟩ := sample_cells HA5.out.x1
  go_wp2_with fail
  refine (Until_any (sampleD []) 0 1 2 r1 a1 none 4 2 0 _ HA5.out.i1).mono ?_
  rintro e W6 ⟨rfl, hb⟩
  simp only [ex_until]
  replace S3 := S3.below hb S3.lt
  replace S5 := S5.below hb S5.lt
  have HA6 := hide (HA5.out.below hb)
  clear hb HA5 c0 c1 c2 c3 c4 c5 c6 c7
  obtain ⟨c0, c1, c2, c3, c4, c5, c6, c7⟩ := sample_cells HA6.out.x1
  go_wp2_with fail
  refine (Together_any (sampleD []) 4 r1 a1 none 4 2 0 _ HA6.out.i1).mono ?_
  rintro e W7 ⟨rfl, hb⟩
  simp only [ex_together]
  replace S3 := S3.below hb S3.lt
  replace S5 := S5.below hb S5.lt
  have HA7 := hide (HA6.out.below hb)
  clear hb HA6 c0 c1 c2 c3 c4 c5 c6 c7
  go_wp2_with fail
  refine (lawLook_any _ _ _ _).mono ?_
  rintro e W8 ⟨rfl, hb⟩
  replace S3 := S3.below hb S3.lt
  replace S5 := S5.below hb S5.lt
  have HA8 := hide (HA7.out.below hb)
  clear hb HA7
  go_wp2_with fail
  refine (lawLook_any _ _ _ _).mono ?_
  rintro e W9 ⟨rfl, hb⟩
  replace S3 := S3.below hb S3.lt
  replace S5 := S5.below hb S5.lt
  have HA9 := hide (HA8.out.below hb)
  clear hb HA8
  go_wp2_with fail
  have hbs : Below W9.heap.size W9 (W9.alloc (Obj.cells #[.int .i64 2, .int .i64 14, .int .i64 20, .int .i64 3, .int .i64 5, .int .i64 9] 55)) := (Below.refl _ _).alloc (Nat.le_refl _) _
  have hkl : Blk (W9.alloc (Obj.cells #[.int .i64 2, .int .i64 14, .int .i64 20, .int .i64 3, .int .i64 5, .int .i64 9] 55)) W9.heap.size 55 [.int .i64 2, .int .i64 14, .int .i64 20, .int .i64 3, .int .i64 5, .int .i64 9] := Blk.new W9 _ _
  refine (sample_any [look1, look2] (some ⟨W9.heap.size, 0, none⟩) 2 _ (.inr ⟨_, 0, rfl, by simp, fun i j hi hj => ?_⟩) ((HA9.out.below hbs).i1).dry).mono ?_
  · have : (i = 0 ∨ i = 1) ∧ (j = 0 ∨ j = 1 ∨ j = 2) := by have : i < 2 := hi; omega
    obtain ⟨rfl | rfl, rfl | rfl | rfl⟩ := this
    all_goals exact hkl.cell _ rfl
  rintro e W10 ⟨r3, a3, rfl, hb, hi3⟩
  replace S3 := (S3.below hbs S3.lt).below hb (by have := S3.lt; simp; omega)
  replace S5 := (S5.below hbs S5.lt).below hb (by have := S5.lt; simp; omega)
  have HA10 := hide ((HA9.out.below hbs).below hb)
  clear hb HA9 hbs hkl
  go_wp2_with fail
  refine (Clash_any (sampleD [look1, look2]) r3 a3 _ 4 2 2 _ hi3 (fun _ => small_sorted 2 (by omega))).mono ?_
  rintro e W11 ⟨rfl, hb⟩
  simp only [ex_clash]
  replace S3 := S3.below hb S3.lt
  replace S5 := S5.below hb S5.lt
  have HA11 := hide (HA10.out.below hb)
  clear hb HA10 hi3
  obtain ⟨c0, c1, c2, c3, c4, c5, c6, c7⟩ := sample_cells HA11.out.x2
  go_wp2_with fail
  refine (Depth_any (sampleD [look1]) 0 r2 a2 _ 4 2 1 _ HA11.out.i2).mono ?_
  rintro e W12 ⟨rfl, hb⟩
  simp only [ex_depth0]
  replace S3 := S3.below hb S3.lt
  replace S5 := S5.below hb S5.lt
  have HA12 := hide (HA11.out.below hb)
  clear hb HA11 c0 c1 c2 c3 c4 c5 c6 c7
  go_wp2_with fail
  have S21 : Blk (W12.alloc (Obj.cells #[.int .i64 11, .int .i64 12] 23)) W12.heap.size 23 [.int .i64 11, .int .i64 12] := Blk.new _ _ _
  replace S3 := S3.alloc (Obj.cells #[.int .i64 11, .int .i64 12] 23)
  replace S5 := S5.alloc (Obj.cells #[.int .i64 11, .int .i64 12] 23)
  have hb12 := hide (HA12.out.bel.alloc HA12.out.bel.size (Obj.cells #[.int .i64 11, .int .i64 12] 23))
  clear HA12
  generalize W12.alloc (Obj.cells #[.int .i64 11, .int .i64 12] 23) = W13 at *
  generalize W12.heap.size = p21 at *
  generalize W1.heap.size = p3 at *
  generalize W2.heap.size = p5 at *
  have g30 := S3.cell 0 rfl
  have g31 := S3.cell 1 rfl
  have g50 := S5.cell 0 rfl
  have g51 := S5.cell 1 rfl
  have g20 := S21.cell 0 rfl
  have g21 := S21.cell 1 rfl
  have l3 := S3.lt
  have l5 := S5.lt
  have l21 := S21.lt
  have hcl : ∃ s : Cls (Below (W13.heap.size) (W13)), (W13).drew = s.W := ⟨⟨_, (Below.refl _ _).drew⟩, rfl⟩
  have hne : Nonempty (Cls (Below (W13.heap.size) (W13))) := ⟨⟨_, Below.refl _ _⟩⟩
  have hS : ∀ (s : Cls (Below (W13.heap.size) (W13))) (b o : Nat), b < W13.heap.size → s.W.cell? ⟨b, o, none⟩ = (W13).cell? ⟨b, o, none⟩ := fun s b o h => s.ok.cell (p := ⟨b, o, none⟩) h
  have hSf : ∀ (s : Cls (Below (W13.heap.size) (W13))) (b o : Nat), b < W13.heap.size → s.W.frozen? ⟨b, o, none⟩ = (W13).frozen? ⟨b, o, none⟩ := fun s b o h => s.ok.frozen (p := ⟨b, o, none⟩) h
  refine wp_region_quiet_all (S := Cls (Below W13.heap.size W13)) Cls.W (by kernel_rfl) (by kernel_rfl) hcl ?_
  clear hcl
  repeat (go_big_quiet_step ((go_at_call 36; refine (lawSpan_any _ _ _).mono ?_; rintro e w2 ⟨rfl, hb⟩; exact ⟨rfl, Cls.step _ (Nat.le_refl _) hb⟩)))
  refine wpQuiet_nil ?_
  intro s'
  have T21 := S21.below s'.ok S21.lt
  have hb14 := hide (hb12.out.trans (s'.ok.mono hb12.out.size))
  clear hS hSf hne S3 S5 S21 g30 g31 g50 g51 g20 g21 l3 l5 l21 hb12
  generalize s'.W = W14 at *
  clear s'
  have g20 := T21.cell 0 rfl
  have g21 := T21.cell 1 rfl
  have l21 := T21.lt
  go_wp2_with fail
  have hcl : ∃ s : Cls (Below (W14.heap.size) (W14)), (W14).drew = s.W := ⟨⟨_, (Below.refl _ _).drew⟩, rfl⟩
  have hne : Nonempty (Cls (Below (W14.heap.size) (W14))) := ⟨⟨_, Below.refl _ _⟩⟩
  have hS : ∀ (s : Cls (Below (W14.heap.size) (W14))) (b o : Nat), b < W14.heap.size → s.W.cell? ⟨b, o, none⟩ = (W14).cell? ⟨b, o, none⟩ := fun s b o h => s.ok.cell (p := ⟨b, o, none⟩) h
  have hSf : ∀ (s : Cls (Below (W14.heap.size) (W14))) (b o : Nat), b < W14.heap.size → s.W.frozen? ⟨b, o, none⟩ = (W14).frozen? ⟨b, o, none⟩ := fun s b o h => s.ok.frozen (p := ⟨b, o, none⟩) h
  refine wp_region_quiet_tail (S := Cls (Below W14.heap.size W14)) Cls.W 31 (by kernel_rfl) (by kernel_rfl) hcl ?_
  simp only [List.take_succ_cons, List.take_zero, List.drop_succ_cons, List.drop_zero]
  clear hcl
  repeat (go_big_quiet_step ((go_at_call 36; refine (lawSpan_any _ _ _).mono ?_; rintro e w2 ⟨rfl, hb⟩; exact ⟨rfl, Cls.step _ (Nat.le_refl _) hb⟩)))
  refine wpQuiet_nil ?_
  intro s'
  go_wp2
  refine bodyPost_ret (v := .bool true) (by simp [results, Tryd.results13, go_sem, *]) rfl ⟨rfl, hb14.out.trans (s'.ok.mono hb14.out.size)⟩
end Go.Proofs.YtlkhjnpflohfeaaDoor

/- The functions of package cut, told to the evaluator by their contracts. -/
namespace Go.Proofs.YtlkhjnpflohfeaaDoor
open Go Go.Proofs Go.RowKit
namespace Ev
set_option maxRecDepth 100000
def intsOf : List AV → Option (List Int)
  | [] => some []
  | .int .i64 n :: l => (intsOf l).map (n :: ·)
  | _ => none
theorem intsOf_eq : ∀ {l : List AV} {ns : List Int}, intsOf l = some ns → l = ns.map (AV.int .i64)
  | [], ns, h => by cases h; rfl
  | v :: l, ns, h => by
    unfold intsOf at h
    split at h
    · rename_i e; cases e
    · rename_i n l' e
      obtain ⟨rfl, rfl⟩ := List.cons.inj e
      obtain ⟨ms, h1, rfl⟩ := Option.map_eq_some_iff.1 h
      rw [List.map_cons, ← intsOf_eq h1]
    · cases h
def gCut (spec : CutD → List Int → Option AV) (args : List AV) (H : List AB) : Option AV :=
  match args with
  | v :: rest => (cutOf H v).bind fun c => (intsOf rest).bind fun ns => spec c ns
  | [] => none
theorem elemsR_of {W : World} {ra : Option Addr} {n k : Nat} {f : Nat → Nat → Int} {g : Nat → Nat → Value} (h : ElemsI W ra n k f) (hg : ∀ i j, j < k → g i j = .int .i64 (f i j)) : ElemsR W ra n k g := by
  rcases h with h | ⟨b, off, h1, h2, h3⟩
  · exact .inl h
  · exact .inr ⟨b, off, h1, h2, fun i j hi hj => (h3 i j hi hj).trans (by rw [hg i j hj])⟩
theorem dry_of_globs {C : Cfg} {W : World} {L : Nat → Prop} (h : Globs C W L) : Dry W := by
  have hv := h 0 _ rfl
  cases hv with
  | dead h => simp [headRef] at h
  | rp rs h1 h2 =>
    have a0 := (h1 0 _ rfl).2
    have a1 := (h1 1 _ rfl).2
    rw [vr_int (h2 0 _ rfl)] at a0
    rw [vr_int (h2 1 _ rfl)] at a1
    exact ⟨cell_lt a0, a0, a1⟩
theorem globs_of_dry {C : Cfg} {W : World} (h : Dry W) : Globs C W (fun _ => False) := by
  intro g cs hg
  unfold globA at hg
  cases hb : Nat.beq g 0 with
  | false => simp only [hb] at hg; cases hg
  | true =>
    simp only [hb] at hg
    cases hg
    obtain rfl := Nat.eq_of_beq_eq_true hb
    refine .rp (fun j => if j = 0 then .int .i64 1048576 else .int .i64 (-1048576)) (fun j x hx => ⟨id, ?_⟩) (fun j x hx => ?_)
    · match j, hx with
      | 0, hx => exact h.c0
      | 1, hx => exact h.c1
      | j + 2, hx => simp at hx
    · match j, hx with
      | 0, hx => cases hx; exact .int
      | 1, hx => cases hx; exact .int
      | j + 2, hx => simp at hx
section
variable {C : Cfg} {W : World} {L : Nat → Prop} {μ : Mu} {H : List AB}
theorem cut_arg (hs : Sim Tryd.prog W L μ H) (hG : Globs C W L) {v : AV} {x : Value} {c : CutD} (hc : cutOf H v = some c) (hv : VR W L μ v x) :
    ∃ ra rc ba bc la lc, x = cutVal c ra ba la rc bc lc ∧ CutIn W c ra ba la := by
  obtain ⟨ra, rc, ba, bc, la, lc, rfl, g1, g2, g3⟩ := cut_val hs hc hv
  refine ⟨ra, rc, ba, bc, la, lc, rfl, ?_, ?_, ?_, dry_of_globs hG⟩
  · exact elemsR_of g1 fun i j _ => by unfold spanCell; split <;> rfl
  · exact elemsR_of g2 fun i j _ => by unfold boatCell; repeat' split <;> try rfl
  · exact elemsR_of g3 fun i j _ => by unfold lookCell; repeat' split <;> try rfl
theorem ints_arg {ns : List Int} : ∀ {xs : List Value}, VL W L μ (ns.map (AV.int .i64)) xs → xs = ns.map (Value.int .i64) := by
  induction ns with
  | nil => intro xs h; exact List.eq_nil_of_length_eq_zero h.1.symm
  | cons n ns ih =>
    intro xs h
    match xs, h with
    | [], h => exact absurd h.1 (by simp)
    | x :: xs, h =>
      rw [vr_int h.head, ih h.tail]; rfl
theorem gcut_ok {spec : CutD → List Int → Option AV} {f : Nat}
    (hf : ∀ (c : CutD) (ns : List Int) (v : AV), spec c ns = some v → ∀ (ra ba la : Option Addr) (rc bc lc : Nat) (W : World), CutIn W c ra ba la →
      Calls Tryd.prog f (cutVal c ra ba la rc bc lc :: ns.map (Value.int .i64)).toArray W fun e W' => (∃ w, e = .returned w ∧ ∀ W L μ, VR W L μ v w) ∧ Below W.heap.size W W')
    (args : List AV) (H : List AB) (v : AV) (rargs : Array Value) (W : World) (L : Nat → Prop) (μ : Mu) (h : gCut spec args H = some v) (hv : VL W L μ args rargs.toList) (hs : Sim Tryd.prog W L μ H) (hG : Globs C W L) :
    CallsIn Fence.wide 0 Tryd.prog f rargs W fun e W' => (∃ w, e = .returned w ∧ VR W' L nomu v w) ∧ Below W.heap.size W W' := by
  unfold gCut at h
  split at h
  · rename_i u rest
    obtain ⟨c, h1, h2⟩ := Option.bind_eq_some_iff.1 h
    obtain ⟨ns, h3, h4⟩ := Option.bind_eq_some_iff.1 h2
    obtain rfl := intsOf_eq h3
    obtain ⟨xs, hxs⟩ : ∃ xs, rargs.toList = xs := ⟨_, rfl⟩
    rw [hxs] at hv
    match xs, hv with
    | [], hv => exact absurd hv.1 (by simp)
    | x :: xs, hv =>
      obtain ⟨ra, rc, ba, bc, la, lc, rfl, hin⟩ := cut_arg hs hG h1 hv.head
      rw [ints_arg hv.tail] at hxs
      have e : rargs = (cutVal c ra ba la rc bc lc :: ns.map (Value.int .i64)).toArray := Array.ext' (by rw [hxs])
      subst e
      refine (callsIn_wide.2 (hf c ns v h4 ra ba la rc bc lc W hin)).mono ?_
      rintro e W' ⟨⟨w, rfl, hw⟩, hb⟩
      exact ⟨⟨w, rfl, hw _ _ _⟩, hb⟩
  · cases h
end
theorem vr_twoS (r : (Int × Int) × Int) : ∀ W L μ, VR W L μ (twoS r) (.tuple #[.agg #[.int .i64 r.1.1, .int .i64 r.1.2], .int .i64 r.2]) := by
  intro W L μ
  refine .tup (rs := [_, _]) rfl fun i x r' hx hr => ?_
  match i, hx, hr with
  | 0, hx, hr =>
    cases hx; cases hr
    refine .agg (rs := [_, _]) rfl fun i x r' hx hr => ?_
    match i, hx, hr with
    | 0, hx, hr => cases hx; cases hr; exact .int
    | 1, hx, hr => cases hx; cases hr; exact .int
    | i + 2, hx, hr => simp at hx
  | 1, hx, hr => cases hx; cases hr; exact .int
  | i + 2, hx, hr => simp at hx
theorem vr_twoA (r : Int × Int) : ∀ W L μ, VR W L μ (twoA r) (.tuple #[.int .i64 r.1, .int .i64 r.2]) := by
  intro W L μ
  refine .tup (rs := [_, _]) rfl fun i x r' hx hr => ?_
  match i, hx, hr with
  | 0, hx, hr => cases hx; cases hr; exact .int
  | 1, hx, hr => cases hx; cases hr; exact .int
  | i + 2, hx, hr => simp at hx
theorem vr_three (r : (Int × Int) × Int) : ∀ W L μ, VR W L μ (three r) (.tuple #[.int .i64 r.1.1, .int .i64 r.1.2, .int .i64 r.2]) := by
  intro W L μ
  refine .tup (rs := [_, _, _]) rfl fun i x r' hx hr => ?_
  match i, hx, hr with
  | 0, hx, hr => cases hx; cases hr; exact .int
  | 1, hx, hr => cases hx; cases hr; exact .int
  | 2, hx, hr => cases hx; cases hr; exact .int
  | i + 3, hx, hr => simp at hx
theorem vr_list (l : List Int) : ∀ W L μ, VR W L μ (.agg (l.map (AV.int .i64))) (.agg (l.map (Value.int .i64)).toArray) := by
  intro W L μ
  refine .agg (by simp) fun i x r hx hr => ?_
  rw [List.getElem?_map] at hx hr
  obtain ⟨n, h1, rfl⟩ := Option.map_eq_some_iff.1 hx
  obtain ⟨m, h2, rfl⟩ := Option.map_eq_some_iff.1 hr
  rw [h1] at h2; cases h2; exact .int
/-! What each function is told to answer. -/
def sDepth (c : CutD) : List Int → Option AV | [d] => some (twoS (depthR c d)) | _ => none
def sLeak (c : CutD) : List Int → Option AV | [] => some (twoS (leakR c)) | _ => none
def sFloats (c : CutD) : List Int → Option AV | [b, n, d] => some (twoA (floatsR c b n d)) | _ => none
def sLoads (c : CutD) : List Int → Option AV | [b, d] => some (three (loadsR c b d)) | _ => none
def sDays (c : CutD) : List Int → Option AV | [b, n] => some (three (daysR c b n)) | _ => none
def sUntil (c : CutD) : List Int → Option AV | [b, n, d] => some (twoA (untilR c b n d)) | _ => none
def sTogether (c : CutD) : List Int → Option AV | [d] => some (twoA (togetherR c d)) | _ => none
def sClash (c : CutD) : List Int → Option AV | [] => some (twoA (clashR c)) | _ => none
def sFine (c : CutD) : List Int → Option AV | [] => some (.bool (fineD c)) | _ => none
def sFar (c : CutD) : List Int → Option AV | [] => some (.bool (farD c)) | _ => none
def sValid (c : CutD) : List Int → Option AV | [] => some (.bool (Cut.valid c)) | _ => none
def gAwake (args : List AV) (_ : List AB) : Option AV := match args with | [] => some (.bool true) | _ => none
def gInts (k : Nat) (args : List AV) (_ : List AB) : Option AV := (intsOf args).bind fun ns => if ns.length = k then some (.agg (ns.map (AV.int .i64))) else none
def gInside (args : List AV) (_ : List AB) : Option AV := match args with | [.int .i64 n, .agg [.int .i64 a, .int .i64 b]] => some (.bool (Cut.within n a b)) | _ => none
theorem depth_ok (c : CutD) (ns : List Int) (v : AV) (h : sDepth c ns = some v) (ra ba la : Option Addr) (rc bc lc : Nat) (W : World) (hin : CutIn W c ra ba la) :
    Calls Tryd.prog 14 (cutVal c ra ba la rc bc lc :: ns.map (Value.int .i64)).toArray W fun e W' => (∃ w, e = .returned w ∧ ∀ W L μ, VR W L μ v w) ∧ Below W.heap.size W W' := by
  unfold sDepth at h
  split at h <;> cases h
  exact (Depth_any c _ ra ba la rc bc lc W hin).mono fun e W' ⟨h1, h2⟩ => ⟨⟨_, h1, vr_twoS _⟩, h2⟩
theorem leak_ok (c : CutD) (ns : List Int) (v : AV) (h : sLeak c ns = some v) (ra ba la : Option Addr) (rc bc lc : Nat) (W : World) (hin : CutIn W c ra ba la) :
    Calls Tryd.prog 16 (cutVal c ra ba la rc bc lc :: ns.map (Value.int .i64)).toArray W fun e W' => (∃ w, e = .returned w ∧ ∀ W L μ, VR W L μ v w) ∧ Below W.heap.size W W' := by
  unfold sLeak at h
  split at h <;> cases h
  exact (Leak_any c ra ba la rc bc lc W hin).mono fun e W' ⟨h1, h2⟩ => ⟨⟨_, h1, vr_twoS _⟩, h2⟩
theorem floats_ok (c : CutD) (ns : List Int) (v : AV) (h : sFloats c ns = some v) (ra ba la : Option Addr) (rc bc lc : Nat) (W : World) (hin : CutIn W c ra ba la) :
    Calls Tryd.prog 18 (cutVal c ra ba la rc bc lc :: ns.map (Value.int .i64)).toArray W fun e W' => (∃ w, e = .returned w ∧ ∀ W L μ, VR W L μ v w) ∧ Below W.heap.size W W' := by
  unfold sFloats at h
  split at h <;> cases h
  exact (Floats_any c _ _ _ ra ba la rc bc lc W hin).mono fun e W' ⟨h1, h2⟩ => ⟨⟨_, h1, vr_twoA _⟩, h2⟩
theorem loads_ok (c : CutD) (ns : List Int) (v : AV) (h : sLoads c ns = some v) (ra ba la : Option Addr) (rc bc lc : Nat) (W : World) (hin : CutIn W c ra ba la) :
    Calls Tryd.prog 20 (cutVal c ra ba la rc bc lc :: ns.map (Value.int .i64)).toArray W fun e W' => (∃ w, e = .returned w ∧ ∀ W L μ, VR W L μ v w) ∧ Below W.heap.size W W' := by
  unfold sLoads at h
  split at h <;> cases h
  exact (Loads_any c _ _ ra ba la rc bc lc W hin).mono fun e W' ⟨h1, h2⟩ => ⟨⟨_, h1, vr_three _⟩, h2⟩
theorem days_ok (c : CutD) (ns : List Int) (v : AV) (h : sDays c ns = some v) (ra ba la : Option Addr) (rc bc lc : Nat) (W : World) (hin : CutIn W c ra ba la) :
    Calls Tryd.prog 22 (cutVal c ra ba la rc bc lc :: ns.map (Value.int .i64)).toArray W fun e W' => (∃ w, e = .returned w ∧ ∀ W L μ, VR W L μ v w) ∧ Below W.heap.size W W' := by
  unfold sDays at h
  split at h <;> cases h
  exact (Days_any c _ _ ra ba la rc bc lc W hin).mono fun e W' ⟨h1, h2⟩ => ⟨⟨_, h1, vr_three _⟩, h2⟩
theorem until_ok (c : CutD) (ns : List Int) (v : AV) (h : sUntil c ns = some v) (ra ba la : Option Addr) (rc bc lc : Nat) (W : World) (hin : CutIn W c ra ba la) :
    Calls Tryd.prog 24 (cutVal c ra ba la rc bc lc :: ns.map (Value.int .i64)).toArray W fun e W' => (∃ w, e = .returned w ∧ ∀ W L μ, VR W L μ v w) ∧ Below W.heap.size W W' := by
  unfold sUntil at h
  split at h <;> cases h
  exact (Until_any c _ _ _ ra ba la rc bc lc W hin).mono fun e W' ⟨h1, h2⟩ => ⟨⟨_, h1, vr_twoA _⟩, h2⟩
theorem together_ok (c : CutD) (ns : List Int) (v : AV) (h : sTogether c ns = some v) (ra ba la : Option Addr) (rc bc lc : Nat) (W : World) (hin : CutIn W c ra ba la) :
    Calls Tryd.prog 26 (cutVal c ra ba la rc bc lc :: ns.map (Value.int .i64)).toArray W fun e W' => (∃ w, e = .returned w ∧ ∀ W L μ, VR W L μ v w) ∧ Below W.heap.size W W' := by
  unfold sTogether at h
  split at h <;> cases h
  exact (Together_any c _ ra ba la rc bc lc W hin).mono fun e W' ⟨h1, h2⟩ => ⟨⟨_, h1, vr_twoA _⟩, h2⟩
theorem clash_ok (c : CutD) (ns : List Int) (v : AV) (h : sClash c ns = some v) (ra ba la : Option Addr) (rc bc lc : Nat) (W : World) (hin : CutIn W c ra ba la) :
    Calls Tryd.prog 28 (cutVal c ra ba la rc bc lc :: ns.map (Value.int .i64)).toArray W fun e W' => (∃ w, e = .returned w ∧ ∀ W L μ, VR W L μ v w) ∧ Below W.heap.size W W' := by
  unfold sClash at h
  split at h <;> cases h
  exact (Clash_any c ra ba la rc bc lc W hin fun hv => all_sorted _ (Cut.valid_of hv).k5).mono fun e W' ⟨h1, h2⟩ => ⟨⟨_, h1, vr_twoA _⟩, h2⟩
theorem fine_ok (c : CutD) (ns : List Int) (v : AV) (h : sFine c ns = some v) (ra ba la : Option Addr) (rc bc lc : Nat) (W : World) (hin : CutIn W c ra ba la) :
    Calls Tryd.prog 30 (cutVal c ra ba la rc bc lc :: ns.map (Value.int .i64)).toArray W fun e W' => (∃ w, e = .returned w ∧ ∀ W L μ, VR W L μ v w) ∧ Below W.heap.size W W' := by
  unfold sFine at h
  split at h <;> cases h
  exact (fine_any c ra ba la rc bc lc W hin).mono fun e W' ⟨h1, h2⟩ => ⟨⟨_, h1, fun _ _ _ => .bool⟩, h2⟩
theorem far_ok (c : CutD) (ns : List Int) (v : AV) (h : sFar c ns = some v) (ra ba la : Option Addr) (rc bc lc : Nat) (W : World) (_hin : CutIn W c ra ba la) :
    Calls Tryd.prog 34 (cutVal c ra ba la rc bc lc :: ns.map (Value.int .i64)).toArray W fun e W' => (∃ w, e = .returned w ∧ ∀ W L μ, VR W L μ v w) ∧ Below W.heap.size W W' := by
  unfold sFar at h
  split at h <;> cases h
  exact (far_any c ra ba la rc bc lc W).mono fun e W' ⟨h1, h2⟩ => ⟨⟨_, h1, fun _ _ _ => .bool⟩, h2⟩
theorem valid_ok (c : CutD) (ns : List Int) (v : AV) (h : sValid c ns = some v) (ra ba la : Option Addr) (rc bc lc : Nat) (W : World) (hin : CutIn W c ra ba la) :
    Calls Tryd.prog 35 (cutVal c ra ba la rc bc lc :: ns.map (Value.int .i64)).toArray W fun e W' => (∃ w, e = .returned w ∧ ∀ W L μ, VR W L μ v w) ∧ Below W.heap.size W W' := by
  unfold sValid at h
  split at h <;> cases h
  exact (refCut_any c ra ba la rc bc lc W hin).mono fun e W' ⟨h1, h2⟩ => ⟨⟨_, h1, fun _ _ _ => .bool⟩, h2⟩
def exthC (f : Nat) : Option (List AV → List AB → Option AV) :=
  if f = 14 then some (gCut sDepth) else if f = 16 then some (gCut sLeak) else if f = 18 then some (gCut sFloats) else if f = 20 then some (gCut sLoads) else
  if f = 22 then some (gCut sDays) else if f = 24 then some (gCut sUntil) else if f = 26 then some (gCut sTogether) else if f = 28 then some (gCut sClash) else
  if f = 30 then some (gCut sFine) else if f = 34 then some (gCut sFar) else if f = 35 then some (gCut sValid) else if f = 13 then some gAwake else
  if f = 36 then some (gInts 2) else if f = 37 then some (gInts 3) else if f = 33 then some gInside else none
def Known (f : Nat) : Prop := ∃ F, Tryd.prog.funcs[f]? = some F ∧ (F.name == "runtime.NumGoroutine") = false ∧ F.body.isNone = false
theorem toArray_nil {rargs : Array Value} {W : World} {L : Nat → Prop} {μ : Mu} (h : VL W L μ [] rargs.toList) : rargs = #[] := Array.ext' (List.eq_nil_of_length_eq_zero (by have := h.1; simpa using this.symm))
theorem exthC_ok (C : Cfg) : ∀ f g, exthC f = some g → Known f ∧
    ∀ (args : List AV) (H : List AB) (v : AV) (rargs : Array Value) (W : World) (L : Nat → Prop) (μ : Mu), g args H = some v → VL W L μ args rargs.toList → Sim Tryd.prog W L μ H → Globs C W L →
      CallsIn Fence.wide 0 Tryd.prog f rargs W fun e W' => (∃ w, e = .returned w ∧ VR W' L nomu v w) ∧ Below W.heap.size W W' := by
  intro f g h
  unfold exthC at h
  by_cases hf : f = 14
  · rw [if_pos hf] at h; subst hf; cases h; exact ⟨⟨_, Tryd.func14, by kernel_rfl, by kernel_rfl⟩, gcut_ok depth_ok⟩
  rw [if_neg hf] at h; clear hf
  by_cases hf : f = 16
  · rw [if_pos hf] at h; subst hf; cases h; exact ⟨⟨_, Tryd.func16, by kernel_rfl, by kernel_rfl⟩, gcut_ok leak_ok⟩
  rw [if_neg hf] at h; clear hf
  by_cases hf : f = 18
  · rw [if_pos hf] at h; subst hf; cases h; exact ⟨⟨_, Tryd.func18, by kernel_rfl, by kernel_rfl⟩, gcut_ok floats_ok⟩
  rw [if_neg hf] at h; clear hf
  by_cases hf : f = 20
  · rw [if_pos hf] at h; subst hf; cases h; exact ⟨⟨_, Tryd.func20, by kernel_rfl, by kernel_rfl⟩, gcut_ok loads_ok⟩
  rw [if_neg hf] at h; clear hf
  by_cases hf : f = 22
  · rw [if_pos hf] at h; subst hf; cases h; exact ⟨⟨_, Tryd.func22, by kernel_rfl, by kernel_rfl⟩, gcut_ok days_ok⟩
  rw [if_neg hf] at h; clear hf
  by_cases hf : f = 24
  · rw [if_pos hf] at h; subst hf; cases h; exact ⟨⟨_, Tryd.func24, by kernel_rfl, by kernel_rfl⟩, gcut_ok until_ok⟩
  rw [if_neg hf] at h; clear hf
  by_cases hf : f = 26
  · rw [if_pos hf] at h; subst hf; cases h; exact ⟨⟨_, Tryd.func26, by kernel_rfl, by kernel_rfl⟩, gcut_ok together_ok⟩
  rw [if_neg hf] at h; clear hf
  by_cases hf : f = 28
  · rw [if_pos hf] at h; subst hf; cases h; exact ⟨⟨_, Tryd.func28, by kernel_rfl, by kernel_rfl⟩, gcut_ok clash_ok⟩
  rw [if_neg hf] at h; clear hf
  by_cases hf : f = 30
  · rw [if_pos hf] at h; subst hf; cases h; exact ⟨⟨_, Tryd.func30, by kernel_rfl, by kernel_rfl⟩, gcut_ok fine_ok⟩
  rw [if_neg hf] at h; clear hf
  by_cases hf : f = 34
  · rw [if_pos hf] at h; subst hf; cases h; exact ⟨⟨_, Tryd.func34, by kernel_rfl, by kernel_rfl⟩, gcut_ok far_ok⟩
  rw [if_neg hf] at h; clear hf
  by_cases hf : f = 35
  · rw [if_pos hf] at h; subst hf; cases h; exact ⟨⟨_, Tryd.func35, by kernel_rfl, by kernel_rfl⟩, gcut_ok valid_ok⟩
  rw [if_neg hf] at h; clear hf
  by_cases hf : f = 13
  · rw [if_pos hf] at h; subst hf; cases h
    refine ⟨⟨_, Tryd.func13, by kernel_rfl, by kernel_rfl⟩, fun args H v rargs W L μ h hv hs hG => ?_⟩
    unfold gAwake at h
    split at h <;> cases h
    obtain rfl := toArray_nil hv
    exact (callsIn_wide.2 (awake_any W (dry_of_globs hG))).mono fun e W' ⟨h1, h2⟩ => ⟨⟨_, h1, .bool⟩, h2⟩
  rw [if_neg hf] at h; clear hf
  by_cases hf : f = 36
  · rw [if_pos hf] at h; subst hf; cases h
    refine ⟨⟨_, Tryd.func36, by kernel_rfl, by kernel_rfl⟩, fun args H v rargs W L μ h hv hs hG => ?_⟩
    obtain ⟨ns, h1, h2⟩ := Option.bind_eq_some_iff.1 h
    obtain rfl := intsOf_eq h1
    have hxs := ints_arg hv
    split at h2
    · rename_i hl
      cases h2
      match ns, hl, hxs with
      | [a, b], _, hxs =>
        have e : rargs = #[.int .i64 a, .int .i64 b] := Array.ext' hxs
        subst e
        exact (callsIn_wide.2 (lawSpan_any a b W)).mono fun e W' ⟨h1, h2⟩ => ⟨⟨_, h1, vr_list [a, b] _ _ _⟩, h2⟩
    · cases h2
  rw [if_neg hf] at h; clear hf
  by_cases hf : f = 37
  · rw [if_pos hf] at h; subst hf; cases h
    refine ⟨⟨_, Tryd.func37, by kernel_rfl, by kernel_rfl⟩, fun args H v rargs W L μ h hv hs hG => ?_⟩
    obtain ⟨ns, h1, h2⟩ := Option.bind_eq_some_iff.1 h
    obtain rfl := intsOf_eq h1
    have hxs := ints_arg hv
    split at h2
    · rename_i hl
      cases h2
      match ns, hl, hxs with
      | [a, b, c], _, hxs =>
        have e : rargs = #[.int .i64 a, .int .i64 b, .int .i64 c] := Array.ext' hxs
        subst e
        exact (callsIn_wide.2 (lawLook_any a b c W)).mono fun e W' ⟨h1, h2⟩ => ⟨⟨_, h1, vr_list [a, b, c] _ _ _⟩, h2⟩
    · cases h2
  rw [if_neg hf] at h; clear hf
  by_cases hf : f = 33
  · rw [if_pos hf] at h; subst hf; cases h
    refine ⟨⟨_, Tryd.func33, by kernel_rfl, by kernel_rfl⟩, fun args H v rargs W L μ h hv hs hG => ?_⟩
    unfold gInside at h
    split at h
    · rename_i n a b
      cases h
      obtain ⟨xs, hxs⟩ : ∃ xs, rargs.toList = xs := ⟨_, rfl⟩
      rw [hxs] at hv
      match xs, hv.1, hv with
      | [x0, x1], _, hv =>
        have e0 := vr_int hv.head
        obtain ⟨a1, rfl, v1⟩ := vr_agg hv.tail.head
        match a1, v1.1, v1 with
        | [y0, y1], _, v1 =>
          have f0 := vr_int v1.head
          have f1 := vr_int v1.tail.head
          subst e0 f0 f1
          have e : rargs = #[.int .i64 n, .agg #[.int .i64 a, .int .i64 b]] := Array.ext' hxs
          subst e
          exact (callsIn_wide.2 (inside_any n a b W)).mono fun e W' ⟨h1, h2⟩ => ⟨⟨_, h1, .bool⟩, h2⟩
    · cases h
  · rw [if_neg hf] at h; cases h
structure Told (C : Cfg) : Prop where
  ext : ∀ f, C.ext f = none
  exth : ∀ f, C.exth f = exthC f
theorem told_call {C : Cfg} (hT : Told C) {n f : Nat} {g : List AV → List AB → Option AV} (hg : exthC f = some g) (args : List AV) (H : List AB) (v : AV) (h : g args H = some v) : Ev.call C (n + 1) (.fn (.func f) [] []) args H = some (.ret v, H, []) := by
  show enter C (Ev.call C n) f ([] ++ args ++ []) H = _
  rw [List.nil_append, List.append_nil]
  have e1 := hT.ext f
  have e2 := (hT.exth f).trans hg
  simp only [enter, e1, e2, h, Option.map_some]
theorem apiOk {C : Cfg} (hT : Told C) (n : Nat) : ApiOk (Ev.call C (n + 1)) specApi where
  depth hc d := told_call hT rfl _ _ _ (by simp only [gCut, hc]; rfl)
  leak hc := told_call hT rfl _ _ _ (by simp only [gCut, hc]; rfl)
  floats hc b n' d := told_call hT rfl _ _ _ (by simp only [gCut, hc]; rfl)
  loads hc b d := told_call hT rfl _ _ _ (by simp only [gCut, hc]; rfl)
  days hc b n' := told_call hT rfl _ _ _ (by simp only [gCut, hc]; rfl)
  wait hc b n' d := told_call hT rfl _ _ _ (by simp only [gCut, hc]; rfl)
  together hc d := told_call hT rfl _ _ _ (by simp only [gCut, hc]; rfl)
  clash hc := told_call hT rfl _ _ _ (by simp only [gCut, hc]; rfl)
  fine hc := told_call hT rfl _ _ _ (by simp only [gCut, hc]; rfl)
  awake := told_call hT rfl _ _ _ rfl
  far hc := told_call hT rfl _ _ _ (by simp only [gCut, hc]; rfl)
  valid hc := told_call hT rfl _ _ _ (by simp only [gCut, hc]; rfl)
  span := told_call hT rfl _ _ _ rfl
  look := told_call hT rfl _ _ _ rfl
  inside := told_call hT rfl _ _ _ rfl
end Ev
end Go.Proofs.YtlkhjnpflohfeaaDoor

/- A function with arguments that answers a bool, from the top. -/
namespace Go.Proofs.YtlkhjnpflohfeaaDoor
open Go Go.RowKit
namespace Ev
theorem top_args {P : Program} {C : Cfg} (hT : TblOk P C) {m f : Nat} {args : List AV} {rargs : Array Value} {b : Bool} {H' : List AB} {tc : List Nat} (h : Ev.call C m (.fn (.func f) [] []) args [] = some (.ret (.bool b), H', tc)) (W : World) (hG : Globs C W (fun _ => False))
    (hA : VL W (fun _ => False) nomu args rargs.toList) : CallsIn Fence.wide 0 P f rargs W fun e W' => e = .returned (.bool b) ∧ Below W.heap.size W W' := by
  have hok := call_ok hT m
  have hsim : Sim P W (fun _ => False) nomu [] := { live := fun i B h => (by cases h), dead := fun i b h _ => (by cases h), out := fun _ _ => rfl, inj := fun i j B h _ => (by cases h), lt := fun b h => h.elim }
  obtain ⟨r, W1, h1, h2⟩ := hok.sound (tc0 := []) h (Hp.start (P := P) hsim) hG
    (rf := .func (.func f) #[] #[]) (rargs := rargs) (.fn (rf := []) (rc := []) (by intro l; simp) rfl (by intro i x r h; simp at h) rfl (by intro i x r h; simp at h)) hA
  have e : (do let d ← Deferred.ofValue (.func (.func f) #[] #[]) rargs; invoke d.target d.args : Sem Next).run P W = .ok (.enter f rargs) W := by
    have hr : #[] ++ rargs ++ #[] = rargs := by simp
    simp only [Deferred.ofValue, Sem.run_bind, Sem.run_pure, Result.andThen, invoke, hr]
    exact hok.fn h _ _
  rw [e] at h1
  cases h1
  refine CallsIn.mono h2 ?_
  rintro en W' ⟨L', μ', c1, c2, _⟩
  cases en <;> simp only [CRel] at c1
  refine ⟨by rw [vr_bool c1], c2.env.1, c2.env.2.1, c2.env.2.2, c2.size, fun k hk => c2.same k hk fun i _ hi => by cases hi⟩
theorem vs_of {W : World} {μ : Mu} {ra : Option Addr} {n k cap : Nat} {f : Nat → Nat → Int} {es : List AV} (h : ElemsI W ra n k f) (hn : es.length = n) (hc : n ≤ cap) (hk : ∀ (i : Nat) (e : AV), es[i]? = some e → e.cells.length = k)
    (hv : ∀ (i : Nat) (e : AV) (j : Nat) (x : AV), es[i]? = some e → e.cells[j]? = some x → x = .int .i64 (f i j)) : VR W (fun _ => False) μ (.vs k es) (.slice ra n cap) := by
  subst hn
  by_cases h0 : es = []
  · subst h0; exact .vs0
  · rcases h with h | ⟨b, off, rfl, _, hcell⟩
    · exact absurd (List.eq_nil_of_length_eq_zero h) h0
    · refine .vs (fun i j => .int .i64 (f i j)) hc hk (fun i e j x h1 h2 => ⟨id, hcell i j (List.getElem?_eq_some_iff.1 h1).1 ?_⟩) (fun i e j x h1 h2 => ?_)
      · have := (List.getElem?_eq_some_iff.1 h2).1
        rw [hk i e h1] at this; exact this
      · rw [hv i e j x h1 h2]; exact .int
theorem map_get {α : Type} {l : List α} {g : α → AV} {i : Nat} {e : AV} (h : (l.map g)[i]? = some e) : ∃ a, l[i]? = some a ∧ e = g a := by
  rw [List.getElem?_map] at h
  obtain ⟨a, h1, h2⟩ := Option.map_eq_some_iff.1 h
  exact ⟨a, h1, h2.symm⟩
theorem cutA_vr {W : World} {μ : Mu} {c : CutD} {ra ba la : Option Addr} {rc bc lc : Nat} (h1 : c.rain.length ≤ rc) (h2 : c.boats.length ≤ bc) (h3 : c.looks.length ≤ lc)
    (g1 : ElemsI W ra c.rain.length 2 (fun i j => if j = 0 then (Cut.spanAt c.rain i).1 else (Cut.spanAt c.rain i).2))
    (g2 : ElemsI W ba c.boats.length 4 (fun i j => if j = 0 then (Cut.boatAt c.boats i).draws.1 else if j = 1 then (Cut.boatAt c.boats i).draws.2 else if j = 2 then (Cut.boatAt c.boats i).per else (Cut.boatAt c.boats i).room))
    (g3 : ElemsI W la c.looks.length 3 (fun i j => if j = 0 then (Cut.lookAt c.looks i).day else if j = 1 then (Cut.lookAt c.looks i).depth.1 else (Cut.lookAt c.looks i).depth.2)) :
    VR W (fun _ => False) μ (cutA c) (.agg #[.int .i64 c.depth.1, .int .i64 c.depth.2, .int .i64 c.leak.1, .int .i64 c.leak.2, .slice ra c.rain.length rc, .int .i64 c.most, .slice ba c.boats.length bc, .slice la c.looks.length lc]) := by
  have v1 : VR W (fun _ => False) μ (.vs 2 (c.rain.map spanE)) (.slice ra c.rain.length rc) := by
    refine vs_of g1 (by simp) h1 (fun i e h => ?_) (fun i e j x h hx => ?_)
    · obtain ⟨a, _, rfl⟩ := map_get h; rfl
    · obtain ⟨a, ha, rfl⟩ := map_get h
      have e : Cut.spanAt c.rain i = a := by unfold Cut.spanAt; simp [ha]
      rw [e]
      match j, hx with
      | 0, hx => cases hx; rfl
      | 1, hx => cases hx; rfl
      | j + 2, hx => simp [spanE, AV.cells] at hx
  have v2 : VR W (fun _ => False) μ (.vs 4 (c.boats.map boatE)) (.slice ba c.boats.length bc) := by
    refine vs_of g2 (by simp) h2 (fun i e h => ?_) (fun i e j x h hx => ?_)
    · obtain ⟨a, _, rfl⟩ := map_get h; rfl
    · obtain ⟨a, ha, rfl⟩ := map_get h
      have e : Cut.boatAt c.boats i = a := by unfold Cut.boatAt; simp [ha]
      rw [e]
      match j, hx with
      | 0, hx => cases hx; rfl
      | 1, hx => cases hx; rfl
      | 2, hx => cases hx; rfl
      | 3, hx => cases hx; rfl
      | j + 4, hx => simp [boatE, AV.cells] at hx
  have v3 : VR W (fun _ => False) μ (.vs 3 (c.looks.map lookE)) (.slice la c.looks.length lc) := by
    refine vs_of g3 (by simp) h3 (fun i e h => ?_) (fun i e j x h hx => ?_)
    · obtain ⟨a, _, rfl⟩ := map_get h; rfl
    · obtain ⟨a, ha, rfl⟩ := map_get h
      have e : Cut.lookAt c.looks i = a := by unfold Cut.lookAt; simp [ha]
      rw [e]
      match j, hx with
      | 0, hx => cases hx; rfl
      | 1, hx => cases hx; rfl
      | 2, hx => cases hx; rfl
      | j + 3, hx => simp [lookE, AV.cells] at hx
  refine .agg (rs := [_, _, _, _, _, _, _, _]) rfl fun i x r hx hr => ?_
  match i, hx, hr with
  | 0, hx, hr => cases hx; cases hr; exact .int
  | 1, hx, hr => cases hx; cases hr; exact .int
  | 2, hx, hr => cases hx; cases hr; exact .int
  | 3, hx, hr => cases hx; cases hr; exact .int
  | 4, hx, hr => cases hx; cases hr; exact v1
  | 5, hx, hr => cases hx; cases hr; exact .int
  | 6, hx, hr => cases hx; cases hr; exact v2
  | 7, hx, hr => cases hx; cases hr; exact v3
  | i + 8, hx, hr => simp at hx
end Ev
end Go.Proofs.YtlkhjnpflohfeaaDoor

/- A law that was gone through by the evaluator, as a call of the program. -/
namespace Go.Proofs.YtlkhjnpflohfeaaDoor
open Go Go.Proofs Go.RowKit
namespace Ev
set_option maxRecDepth 100000
noncomputable def cfgC : Cfg where
  fns := FT.find fnTree
  glob := fun _ => none
  dfk := fun _ => none
  ext := fun _ => none
  exth := exthC
  calm := true
  whole := fun _ => true
theorem toldC : Told cfgC := ⟨fun _ => rfl, fun _ => rfl⟩
theorem tblC : TblOk Tryd.prog cfgC := ⟨fun f fn h => FT.find_all tree_is h, fun _ _ h => (by cases h), fun f g h => exthC_ok cfgC f g h, fun _ _ _ h => (by cases h)⟩
theorem apiC (n : Nat) : ApiOk (Ev.call cfgC (n + 1)) specApi := apiOk toldC n
theorem yes_call {C : Cfg} {n f : Nat} {fn : AFunc} {args : List AV} {t : Nat} (hc : C.calm = true) (hx : C.ext f = none) (hxh : C.exth f = none) (hf : C.fns f = some fn) (hw : C.whole f = true) (hres : fn.res = [.tmp t]) (hlen : args.length ≤ fn.ntmps)
    (h : Does (ev C (Ev.call C n) 0 none fn.body { tm := tmA fn.ntmps (zipI 0 args []), df := [], hp := [], tc := [] }) (Yes t)) : ∃ H' tc, Ev.call C (n + 1) (.fn (.func f) [] []) args [] = some (.ret (.bool true), H', tc) := by
  have := call_fn (n := n) (first := []) (captured := []) (args := args) (H := []) (R := fun x _ _ => x = .ret (.bool true)) hc hx hxh hf hw (by simpa using hlen) (by
    rw [List.nil_append, List.append_nil]
    refine h.mono fun e st ⟨h1, h2, h3⟩ => ?_
    subst h1
    refine ⟨.ret (.bool true), st, ?_, ?_⟩
    · have e1 : runDefs C 0 st.df none st = some (none, st) := by rw [h2]; rfl
      show (match runDefs C 0 st.df none st with
        | some (none, st) => (resL st fn.res).map fun vs => (CRes.ret (resV vs), st)
        | _ => none) = _
      rw [e1, hres]
      show (resL st [.tmp t]).map (fun vs => (CRes.ret (resV vs), st)) = _
      simp only [resL, resOf, h3]
      rfl
    · unfold Left; split <;> rfl)
  obtain ⟨x, H', tc, h1, rfl⟩ := this
  exact ⟨H', tc, h1⟩
theorem elemsI_of {W : World} {ra : Option Addr} {n k : Nat} {f : Nat → Nat → Int} {g : Nat → Nat → Value} (h : ElemsR W ra n k g) (hg : ∀ i j, j < k → g i j = .int .i64 (f i j)) : ElemsI W ra n k f := by
  rcases h with h | ⟨b, off, h1, h2, h3⟩
  · exact .inl h
  · exact .inr ⟨b, off, h1, h2, fun i j hi hj => (h3 i j hi hj).trans (by rw [hg i j hj])⟩
theorem cut_vr {W : World} {μ : Mu} {c : CutD} {ra ba la : Option Addr} {rc bc lc : Nat} (hin : CutIn W c ra ba la) (h1 : c.rain.length ≤ rc) (h2 : c.boats.length ≤ bc) (h3 : c.looks.length ≤ lc) :
    VR W (fun _ => False) μ (cutA c) (cutVal c ra ba la rc bc lc) :=
  cutA_vr h1 h2 h3 (elemsI_of hin.rain fun i j _ => by unfold spanCell; split <;> rfl) (elemsI_of hin.boats fun i j _ => by unfold boatCell; repeat' split <;> try rfl) (elemsI_of hin.looks fun i j _ => by unfold lookCell; repeat' split <;> try rfl)
end Ev
end Go.Proofs.YtlkhjnpflohfeaaDoor
