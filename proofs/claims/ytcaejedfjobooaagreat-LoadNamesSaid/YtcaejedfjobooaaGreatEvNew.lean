/- Operations that lay a block, and operations that write. -/
import Derived.Test.YtcaejedfjobooaaGreatEvVal6
import Derived.IntWalk
namespace Go.Proofs.YtcaejedfjobooaaGreat
open Go Go.RowKit
namespace Ev
section
variable {P : Program} {W : World} {L : Nat → Prop} {μ : Mu} {H : List AB} {C : Cfg} {tm : List AV} {a : Act}

theorem flatten_get {z : List AV} (hz : 0 < z.length) : ∀ {n i : Nat} {x : AV}, (List.replicate n z).flatten[i]? = some x → i < n * z.length ∧ z[i % z.length]? = some x
  | 0, i, x, h => by simp at h
  | n + 1, i, x, h => by
    rw [List.replicate_succ, List.flatten_cons] at h
    by_cases hi : i < z.length
    · rw [List.getElem?_append_left hi] at h
      rw [Nat.mod_eq_of_lt hi, Nat.add_mul]
      exact ⟨by omega, h⟩
    · rw [List.getElem?_append_right (by omega)] at h
      obtain ⟨h1, h2⟩ := flatten_get hz h
      refine ⟨by rw [Nat.add_mul]; omega, ?_⟩
      rwa [Nat.mod_eq_sub_mod (by omega)]
theorem zeros_ok {z : List AV} {zc : Array Value} (hz : 0 < z.length) (hv : VL W L μ z zc.toList) (n : Nat) : VL W L μ (List.replicate n z).flatten ((Array.range (n * z.length)).map (fun i => zc[i % zc.size]!)).toList := by
  have hs : zc.size = z.length := by have := hv.1; simpa using this.symm
  refine ⟨by simp, fun i x r hx hr => ?_⟩
  obtain ⟨h1, h2⟩ := flatten_get hz hx
  obtain ⟨q, h3, h4⟩ := hv.get h2
  have : r = q := by
    rw [Array.getElem?_toList, Array.getElem?_map] at hr
    rw [Array.getElem?_toList] at h3
    have hlt : i % z.length < zc.size := by rw [hs]; exact Nat.mod_lt _ hz
    simp [h1, hs, hlt] at hr
    rw [Array.getElem?_eq_getElem hlt] at h3
    rw [getElem!_pos zc _ hlt] at hr
    exact hr.symm.trans (Option.some.inj h3)
  rw [this]; exact h4

/-- What a new block's name is worth. -/
def Names (mk : Nat → AV) (n : Nat) (obj : Obj) (x : Value) : Prop := ∀ (W' : World) (L' : Nat → Prop) (μ' : Mu) (j : Nat), μ' j = .at n → W'.heap[n]? = some obj → VR W' L' μ' (mk j) x

theorem names_ptr {n : Nat} {obj : Obj} : Names (fun j => .ptr j 0) n obj (.pointer (some ⟨n, 0, none⟩)) := fun _ _ _ _ h _ => .ptr h
theorem names_map {n : Nat} {obj : Obj} : Names (fun j => .map j) n obj (.map (some n)) := fun _ _ _ _ h _ => .map h
theorem names_sl {n m k cap : Nat} {rs : Array Value} {t : TypeId} (h1 : m ≤ cap) (h2 : cap * k ≤ rs.size) : Names (fun j => .sl j 0 m k) n (.cells rs t (0, 0)) (.slice (some ⟨n, 0, none⟩) m cap) :=
  fun _ _ _ _ h hw => .sl h h1 hw (by simpa using h2)

theorem br_cells {cs : List AV} {rs : Array Value} {t : TypeId} (h : VL W L μ cs rs.toList) : BR P W L μ (.cells cs) (.cells rs t (0, 0)) :=
  .cells (by have := h.1; simp at this; omega) fun i x r hx hr => h.2 i x r hx (by simpa using hr)

theorem partsS_ok (he : Env C W L μ tm a) {k : Nat} : ∀ {ps : List (Nat × Operand)} {qs : List (Nat × Opnd)}, partsS ps = some qs →
    PR W L μ (fun i => some (i * k, k)) (qs.map fun p => (p.1 * k, k, val C tm p.2)) (ps.map fun p => (p.1, a.eval p.2))
  | [], qs, h => by cases h; exact .nil
  | (i, x) :: l, qs, h => by
    unfold partsS at h
    split at h
    · rename_i x' l' h1 h2
      cases h
      exact .cons rfl (opnd_ok he h1) (partsS_ok he h2)
    · cases h

theorem fillA_len : ∀ {ps : List (Nat × Nat × AV)} {cs out : List AV}, fillA cs ps = some out → out.length = cs.length
  | [], cs, out, h => by cases h; rfl
  | (off, size, x) :: ps, cs, out, h => by
    unfold fillA at h
    split at h
    · split at h
      · rename_i hc
        rw [fillA_len h]
        unfold setAt
        simp; omega
      · cases h
    · cases h

theorem xnew_ok {o : Oper} {k : AK} (hc : compOp P o = some k) (he : Env C W L μ tm a) {blk : AB} {mk : Nat → AV} (hx : xnew (val C tm) k = some (blk, mk)) :
    ∃ obj x, (execOp a.eval o).run P W = .ok (.value x) (W.alloc obj) ∧ BR P W L μ blk obj ∧ Names mk W.heap.size obj x := by
  unfold compOp at hc
  cases ho : o.op <;> rw [ho] at hc <;> simp only at hc
  case alloc t =>
    cases h : zeroT P t with
    | none => rw [h] at hc; cases hc
    | some z =>
      rw [h] at hc; cases hc
      simp only [xnew] at hx; cases hx
      obtain ⟨i, v, h1, h2, h3⟩ := zeroT_ok (W := W) (L := L) (μ := μ) h
      refine ⟨.cells v.cells t, .pointer (some ⟨W.heap.size, 0, none⟩), ?_, br_cells h3, names_ptr⟩
      simp [execOp, ho, Instr.alloc, zeroValue, typeInfo, h1, h2, newVar, newRow]
  case box t x =>
    cases h : opnd x with
    | none => rw [h] at hc; cases hc
    | some x' =>
      rw [h] at hc; cases hc
      simp only [xnew] at hx; cases hx
      have e1 := opnd_ok he h
      refine ⟨.cells (a.eval x).cells t, .pointer (some ⟨W.heap.size, 0, none⟩), ?_, ?_, names_ptr⟩
      · simp [execOp, ho, Instr.box, newVar, newRow]
      · cases hcs : cellsOf (val C tm x') with
        | none => exact .cells (Nat.zero_le _) fun i x r hx => by simp at hx
        | some cs => exact br_cells (cellsOf_ok e1 hcs)
  case buildSlice t len parts =>
    split at hc
    · rename_i e k' by' hu
      split at hc
      · rename_i z ps hz hps
        split at hc <;> cases hc
        rename_i hcond
        obtain ⟨c1, c2, c3⟩ := hcond
        obtain ⟨u1, u2, i, hi, hik, hib⟩ := slElem_ok hu
        obtain ⟨i', zv, g1, g2, g3⟩ := zeroT_ok (W := W) (L := L) (μ := μ) hz
        rw [hi] at g1; cases g1
        simp only [xnew] at hx
        cases hf : fillA (List.replicate len z).flatten (ps.map fun p => (p.1 * k', k', val C tm p.2)) with
        | none => rw [hf] at hx; cases hx
        | some cs =>
          rw [hf] at hx; cases hx
          have hpr := partsS_ok (k := k') he hps
          have hlen : cs.length = len * k' := by rw [fillA_len hf]; simp [c2]
          have hmap : (parts.map fun (i, x) => (i, a.eval x)).toList = parts.toList.map fun p => (p.1, a.eval p.2) := by simp
          by_cases h0 : len * k' = 0
          · have hl0 : len = 0 := by rcases Nat.mul_eq_zero.1 h0 with h | h; exact h; omega
            subst hl0
            obtain ⟨rs, f1, f2⟩ := fill_ok (rs := #[]) hpr (by simpa using VL.nil) hf
            refine ⟨.cells rs e, .slice (some ⟨W.heap.size, 0, none⟩) 0 0, ?_, br_cells f2, names_sl (Nat.le_refl _) (by omega)⟩
            have f1' : Instr.fill (fun i => some (i * k', k')) #[] (parts.toList.map fun p => (p.1, a.eval p.2)) = some rs := f1
            have hr0 : ∀ f : Nat → Value, (Array.range 0).map f = #[] := fun f => by simp
            simp [execOp, ho, Instr.buildSlice, run_underlying u1, sizeT_run u2, hmap, hr0, f1', newRow]
          · have hzl : 0 < z.length := by omega
            have hz0 := zeros_ok hzl g3 len
            rw [c2] at hz0
            obtain ⟨rs, f1, f2⟩ := fill_ok hpr hz0 hf
            have hrs : rs.size = len * k' := by have := f2.1; simp at this; omega
            refine ⟨.cells rs e, .slice (some ⟨W.heap.size, 0, none⟩) len len, ?_, br_cells f2, names_sl (Nat.le_refl _) (by omega)⟩
            have := run_buildSlice (P := P) W t e len (parts.map fun (i, x) => (i, a.eval x)) rs i zv u1 hi g2 (by rw [hik]; omega) (by rw [hik]; exact h0) (by rw [hik, hmap]; exact f1)
            simp [execOp, ho, this]
      · cases hc
    · cases hc
  case makeMap t r =>
    cases r <;> simp only at hc <;> cases hc
    simp only [xnew] at hx; cases hx
    refine ⟨.map #[] 0, .map (some W.heap.size), by simp [execOp, ho, Instr.makeMap], .map (by simp) fun i k v e h => by simp at h, names_map⟩
  case makeSlice t l c =>
    split at hc
    · rename_i e k' by' hu
      split at hc
      · rename_i z l' c' hz hl hcap
        split at hc <;> cases hc
        rename_i hcond
        obtain ⟨c1, c2, c3⟩ := hcond
        obtain ⟨u1, u2, i, hi, hik, hib⟩ := slElem_ok hu
        obtain ⟨i', zv, g1, g2, g3⟩ := zeroT_ok (W := W) (L := L) (μ := μ) hz
        rw [hi] at g1; cases g1
        have e1 := opnd_ok he hl
        have e2 := opnd_ok he hcap
        simp only [xnew] at hx
        split at hx
        · rename_i k1 n k2 m hn hm
          split at hx <;> cases hx
          rename_i hb
          obtain ⟨b1, b2, b3⟩ := hb
          subst b2
          rw [hn] at e1; rw [hm] at e2
          have hbound : bound = 1048576 := rfl
          rw [hbound] at b3
          have hw : IntKind.i64.wrap n = n := IntWalk.i64_in _ (by omega)
          have hzl : 0 < z.length := by omega
          have hz0 := zeros_ok hzl g3 n.toNat
          rw [c1] at hz0
          have hby : i.bytes * n.toNat ≤ 134217728 * 1048576 := Nat.mul_le_mul (by omega) (by omega)
          have hbig : ¬ ((i.bytes : Int) * n > 2 ^ 48) := by
            have : (i.bytes : Int) * n = ((i.bytes * n.toNat : Nat) : Int) := by simp; rw [Int.max_eq_left b1]
            rw [this]; omega
          refine ⟨.cells ((Array.range (n.toNat * k')).map fun q => zv.cells[q % zv.cells.size]!) e, .slice (some ⟨W.heap.size, 0, none⟩) n.toNat n.toNat, ?_, br_cells hz0, names_sl (Nat.le_refl _) (by simp)⟩
          have hneg : ¬ n < 0 := by omega
          by_cases h0 : n.toNat * k' = 0
          · have hl0 : n.toNat = 0 := by rcases Nat.mul_eq_zero.1 h0 with h | h; exact h; omega
            have hn0 : n = 0 := by omega
            subst hn0
            have hr0 : ∀ f : Nat → Value, (Array.range 0).map f = #[] := fun f => by simp
            simp [execOp, ho, Instr.makeSlice, run_underlying u1, vr_int e1, vr_int e2, asInt, asIntOf, typeInfo, hi, hw, sizeT_run u2, hr0, newRow]
          · simp [execOp, ho, Instr.makeSlice, run_underlying u1, vr_int e1, vr_int e2, asInt, asIntOf, typeInfo, hi, hw, hneg, sizeT_run u2, h0, zeroValue, g2, newRow]
            intro hh; omega
        · cases hx
      · cases hc
    · cases hc
  case unOp op t x => cases op <;> simp only at hc <;> first | (cases hc; done) | (obtain ⟨y, _, rfl⟩ := Option.map_eq_some_iff.1 hc; simp [xnew] at hx; done)
  all_goals (exfalso; revert hc; (repeat' split) <;> intro hc <;> first | contradiction | (cases hc; done) | (cases hc; simp [xnew] at hx; done) | (obtain ⟨y, _, rfl⟩ := Option.map_eq_some_iff.1 hc; simp [xnew] at hx; done))
end
end Ev
end Go.Proofs.YtcaejedfjobooaaGreat
