/- Operations that only compute or look: the model does what the evaluator says. Part 1: constants, types, cells. -/
import Derived.Test.YtcaejedfjobooaaGreatEvHeap
import Derived.Laws.Cells
import Derived.Laws.CopyRow
import Derived.Laws.AppendOwn
import Derived.WideLaws
namespace Go.Proofs.YtcaejedfjobooaaGreat
open Go Go.RowKit
namespace Ev

theorem addr_add (b o n : Nat) : (⟨b, o, none⟩ : Addr).add n = ⟨b, o + n, none⟩ := by unfold Addr.add; split <;> simp_all

section
variable {P : Program} {W : World} {L : Nat → Prop} {μ : Mu} {H : List AB} {C : Cfg} {tm : List AV}

/-- Constants. -/
theorem cstA_ok {v : Value} {a : AV} (h : cstA v = some a) : VR W L μ a v := by
  unfold cstA at h
  split at h <;> first | (cases h; first | exact .bool | exact .int | exact .nilp | exact .nils | exact .nilmap | exact .nilfn | exact .nilif) | cases h
theorem cstL_ok : ∀ {vs : List Value} {as : List AV}, cstL vs = some as → VL W L μ as vs
  | [], as, h => by cases h; exact VL.nil
  | v :: l, as, h => by
    unfold cstL at h
    split at h <;> cases h
    rename_i a as' h1 h2
    exact VL.cons (cstA_ok h1) (cstL_ok h2)

/-- What the evaluator and the model hold in their temporaries. -/
structure Env (C : Cfg) (W : World) (L : Nat → Prop) (μ : Mu) (tm : List AV) (a : Act) : Prop where
  tmps : VL W L μ tm a.tmps.toList
  glob : ∀ g cs, globA g = some cs → VR W L nomu (.rp cs) (.pointer (some ⟨g, 0, none⟩))

theorem VR.lift {v : AV} {x : Value} (h : VR W L nomu v x) : VR W L μ v x := h.mono (Later.refl _ _) (Ext.nomu _)
theorem agg_ok {cs : List AV} {rs : Array Value} (h : VL W L μ cs rs.toList) : VR W L μ (.agg cs) (.agg rs) := by
  have := VR.agg (W := W) (L := L) (μ := μ) h.1 h.2
  simpa using this
theorem tup_ok {cs : List AV} {rs : Array Value} (h : VL W L μ cs rs.toList) : VR W L μ (.tup cs) (.tuple rs) := by
  have := VR.tup (W := W) (L := L) (μ := μ) h.1 h.2
  simpa using this

theorem opnd_ok {a : Act} (he : Env C W L μ tm a) {y : Operand} {x : Opnd} (h : opnd y = some x) : VR W L μ (val C tm x) (a.eval y) := by
  unfold opnd at h
  split at h
  · rename_i t
    cases h
    simp only [val, Act.eval]
    cases ht : tm[t]? with
    | none => rw [List.getD_eq_getElem?_getD, ht]; exact .unk
    | some v =>
      obtain ⟨r, hr, hv⟩ := he.tmps.get ht
      rw [List.getD_eq_getElem?_getD, ht]
      rw [Array.getElem?_toList] at hr
      rw [Array.getD_eq_getD_getElem?, hr]; exact hv
  · rename_i cs
    cases hc : cstL cs.toList with
    | none => rw [hc] at h; cases h
    | some l => rw [hc] at h; cases h; exact agg_ok (cstL_ok hc)
  · rename_i v _
    cases hc : cstA v with
    | none => rw [hc] at h; cases h
    | some l => rw [hc] at h; cases h; exact cstA_ok hc
  · rename_i g
    obtain ⟨cs, hg, he'⟩ := Option.map_eq_some_iff.1 h
    cases he'
    simp only [val, Act.eval]
    exact (he.glob g cs hg).lift
  · rename_i f
    cases h
    have : VR W L μ (.fn (.func f) [] []) (.func (.func f) ([] : List Value).toArray ([] : List Value).toArray) := .fn (fun l => by simp) rfl (fun i x r h => by simp at h) rfl (fun i x r h => by simp at h)
    exact this

theorem opndL_ok {a : Act} (he : Env C W L μ tm a) : ∀ {ys : List Operand} {xs : List Opnd}, opndL ys = some xs → VL W L μ (xs.map (val C tm)) (ys.map a.eval)
  | [], xs, h => by cases h; exact VL.nil
  | y :: l, xs, h => by
    unfold opndL at h
    split at h <;> cases h
    rename_i a as' h1 h2
    exact VL.cons (opnd_ok he h1) (opndL_ok he h2)

/-! Types. -/
theorem sizeT_run {t k : Nat} (h : sizeT P t = some k) (w : World) : (sizeOf t).run P w = .ok k w := by
  unfold sizeT at h
  cases hi : P.info? t with
  | none => simp [hi] at h
  | some i => simp [hi] at h; simp [sizeOf, typeInfo, hi, h]
theorem formT_some {t k : Nat} (h : formT P t = some (some k)) (w : World) : (isAgg t).run P w = .ok true w ∧ sizeT P t = some k := by
  unfold formT at h
  split at h
  · rename_i fs hu
    refine ⟨by simp [isAgg, run_underlying hu], ?_⟩
    cases hs : sizeT P t with
    | none => simp [hs] at h
    | some j => simp [hs] at h; rw [h]
  · rename_i n e hu
    refine ⟨by simp [isAgg, run_underlying hu], ?_⟩
    cases hs : sizeT P t with
    | none => simp [hs] at h
    | some j => simp [hs] at h; rw [h]
  · split at h <;> simp at h
  · cases h
theorem formT_none {t : Nat} (h : formT P t = some none) (w : World) : (isAgg t).run P w = .ok false w ∧ sizeT P t = some 1 := by
  unfold formT at h
  split at h
  · cases hs : sizeT P t <;> simp [hs] at h
  · cases hs : sizeT P t <;> simp [hs] at h
  · rename_i d hn1 hn2 hu
    split at h
    · rename_i h1
      refine ⟨?_, h1⟩
      cases d <;> first | (simp [isAgg, run_underlying hu]; done) | exact absurd rfl (hn1 _) | exact absurd rfl (hn2 _ _)
    · cases h
  · cases h

/-! Cells that can be read. -/
/-- From the address p on cells lie that stand for cs. -/
def Rd (W : World) (L : Nat → Prop) (μ : Mu) (cs : List AV) (b o : Nat) : Prop := ∀ (j : Nat) (x : AV), cs[j]? = some x → ∃ r, W.cell? ⟨b, o + j, none⟩ = some r ∧ VR W L μ x r

theorem Rd.drop {cs : List AV} {b o : Nat} (h : Rd W L μ cs b o) (n : Nat) : Rd W L μ (cs.drop n) b (o + n) := fun j x hx => by
  rw [List.getElem?_drop] at hx
  obtain ⟨r, h1, h2⟩ := h (n + j) x hx
  exact ⟨r, by rw [Nat.add_assoc]; exact h1, h2⟩
theorem Rd.take {cs : List AV} {b o : Nat} (h : Rd W L μ cs b o) (n : Nat) : Rd W L μ (cs.take n) b o := fun j x hx => by
  by_cases hj : j < n
  · rw [List.getElem?_take_of_lt hj] at hx; exact h j x hx
  · rw [List.getElem?_take_eq_none (by omega)] at hx; cases hx

/-- The values of so many cells. -/
def cellsW (W : World) (b o n : Nat) : List Value := (List.range n).map fun j => (W.cell? ⟨b, o + j, none⟩).getD undef
theorem Rd.vl {cs : List AV} {b o : Nat} (h : Rd W L μ cs b o) : VL W L μ cs (cellsW W b o cs.length) :=
  ⟨by simp [cellsW], fun j x r hx hr => by
    obtain ⟨r', h1, h2⟩ := h j x hx
    have hj : j < cs.length := (List.getElem?_eq_some_iff.1 hx).1
    simp [cellsW, hj, h1] at hr
    subst hr; exact h2⟩
theorem Rd.cells {cs : List AV} {b o : Nat} (h : Rd W L μ cs b o) : ∀ j v, (cellsW W b o cs.length)[j]? = some v → W.cell? ((⟨b, o, none⟩ : Addr).add j) = some v := fun j v hv => by
  have hj : j < cs.length := by have := (List.getElem?_eq_some_iff.1 hv).1; simpa [cellsW] using this
  obtain ⟨r', h1, h2⟩ := h j _ (List.getElem?_eq_getElem hj)
  simp [cellsW, hj, h1] at hv
  rw [addr_add, h1, hv]
theorem Rd.load {cs : List AV} {b o : Nat} (h : Rd W L μ cs b o) {t : Nat} {k : Option Nat} (hf : formT P t = some k) {v : AV} (hp : pickC k cs 0 = some v) :
    ∃ x, (loadVar t ⟨b, o, none⟩).run P W = .ok x W ∧ VR W L μ v x := by
  cases k with
  | none =>
    obtain ⟨h1, h2⟩ := formT_none hf W
    obtain ⟨r, h3, h4⟩ := h 0 v hp
    exact ⟨r, by simp [loadVar, h1, show W.cell? ⟨b, o, none⟩ = some r from h3], h4⟩
  | some k =>
    obtain ⟨h1, h2⟩ := formT_some hf W
    simp only [pickC, Nat.zero_add, List.drop_zero] at hp
    split at hp
    · rename_i hk
      cases hp
      have hl : (cs.take k).length = k := by simp; omega
      have hr := run_loadCells_list (P := P) W ⟨b, o, none⟩ (cellsW W b o (cs.take k).length) (h.take k).cells
      have hl' : (cellsW W b o (cs.take k).length).length = k := by simp [cellsW]; omega
      rw [hl'] at hr
      refine ⟨.agg (cellsW W b o (cs.take k).length).toArray, ?_, agg_ok (by simpa using (h.take k).vl)⟩
      simp [loadVar, h1, sizeT_run h2, hr]
    · cases hp

theorem rd_rp {cs : List AV} {x : Value} (h : VR W L μ (.rp cs) x) : ∃ b o, x = .pointer (some ⟨b, o, none⟩) ∧ Rd W L μ cs b o := by
  cases h with
  | dead h => simp [headRef] at h
  | @rp _ b o _ rs h1 h2 => exact ⟨b, o, rfl, fun j x hx => ⟨rs j, (h1 j x hx).2, (h2 j x hx).lift⟩⟩
theorem rd_ptr (hs : Sim P W L μ H) {b off : Nat} {x : Value} (h : VR W L μ (.ptr b off) x) {cs : List AV} (hb : H[b]? = some (.cells cs)) :
    ∃ B, μ b = .at B ∧ x = .pointer (some ⟨B, off, none⟩) ∧ Rd W L μ (cs.drop off) B off := by
  cases h with
  | @dead _ _ _ b' h hd _ =>
    simp [headRef] at h; subst h
    cases hs.dead _ _ hd hb
  | @ptr _ _ _ B hm =>
    refine ⟨B, hm, rfl, fun j y hy => ?_⟩
    obtain ⟨_, hlt, blk, o, e1, e2, e3⟩ := hs.live _ _ hm
    rw [hb] at e1; cases e1
    cases e3 with
    | @cells _ rs t hl hv =>
      rw [List.getElem?_drop] at hy
      have hj := (List.getElem?_eq_some_iff.1 hy).1
      refine ⟨rs[off + j], ?_, hv _ _ _ hy (Array.getElem?_eq_getElem (by omega))⟩
      simp [World.cell?, e2]
theorem ptr_addr {b off : Nat} {x : Value} (h : VR W L μ (.ptr b off) x) : (∃ B, μ b = .at B ∧ x = .pointer (some ⟨B, off, none⟩)) ∨ μ b = .dead := by
  cases h with
  | @dead _ _ _ b' h hd _ => simp [headRef] at h; subst h; exact .inr hd
  | @ptr _ _ _ B hm => exact .inl ⟨B, hm, rfl⟩

theorem ptr_alive (hs : Sim P W L μ H) {b off : Nat} {x : Value} (h : VR W L μ (.ptr b off) x) (ha : alive H b = true) : ∃ B, μ b = .at B ∧ x = .pointer (some ⟨B, off, none⟩) := by
  rcases ptr_addr h with h | hd
  · exact h
  · unfold alive at ha
    cases hb : H[b]? with
    | none => rw [hb] at ha; cases ha
    | some blk => rw [hb, hs.dead _ _ hd hb] at ha; cases ha
theorem rp_drop {cs : List AV} {x : Value} (h : VR W L μ (.rp cs) x) : ∃ b o, x = .pointer (some ⟨b, o, none⟩) ∧ ∀ n, VR W L μ (.rp (cs.drop n)) (.pointer (some ⟨b, o + n, none⟩)) := by
  cases h with
  | dead h => simp [headRef] at h
  | @rp _ b o _ rs h2 h3 =>
    refine ⟨b, o, rfl, fun n => .rp (fun j => rs (n + j)) (fun j x hx => ?_) (fun j x hx => ?_)⟩
    · rw [List.getElem?_drop] at hx
      have := h2 _ x hx
      rw [Nat.add_assoc]; exact this
    · rw [List.getElem?_drop] at hx
      exact h3 _ x hx
/-- Slices. -/
theorem sl_alive (hs : Sim P W L μ H) {b off n k : Nat} {x : Value} (h : VR W L μ (.sl b off n k) x) (ha : alive H b = true) :
    ∃ B cap rs t, μ b = .at B ∧ x = .slice (some ⟨B, off, none⟩) n cap ∧ n ≤ cap ∧ W.heap[B]? = some (.cells rs t (0, 0)) ∧ off + cap * k ≤ rs.size := by
  cases h with
  | @dead _ _ _ b' h hd _ =>
    simp [headRef] at h; subst h
    unfold alive at ha
    cases hb : H[b]? with
    | none => rw [hb] at ha; cases ha
    | some blk => rw [hb, hs.dead _ _ hd hb] at ha; cases ha
  | @sl _ _ _ _ _ B cap rs t h1 h2 h3 h4 => exact ⟨B, cap, rs, t, h1, rfl, h2, h3, h4⟩
theorem vr_nils {x : Value} (h : VR W L μ .nils x) : x = .slice none 0 0 := by
  cases h with
  | dead h => simp [headRef] at h
  | nils => rfl
/-- A slice's length, as the model has it. -/
theorem slLen_ok (hs : Sim P W L μ H) {v : AV} {x : Value} {n : Nat} (h : VR W L μ v x) (hn : slLen H v = some n) : ∃ p cap, x = .slice p n cap ∧ n ≤ cap := by
  unfold slLen at hn
  split at hn
  · cases hn; exact ⟨none, 0, vr_nils h, Nat.le_refl _⟩
  · cases hn
    cases h with
    | dead h => simp [headRef] at h
    | vs rs h1 => exact ⟨_, _, rfl, h1⟩
    | vs0 => exact ⟨_, _, rfl, Nat.zero_le _⟩
  · split at hn <;> cases hn
    rename_i ha
    obtain ⟨B, cap, rs, t, h1, h2, h3, h4⟩ := sl_alive hs h ha
    exact ⟨_, _, h2, h3⟩
  · cases hn

theorem pickC_drop {k : Option Nat} {cs : List AV} {off : Nat} {v : AV} (h : pickC k cs off = some v) : pickC k (cs.drop off) 0 = some v := by
  cases k with
  | none => simpa [pickC] using h
  | some k =>
    simp only [pickC] at h ⊢
    split at h
    · rw [if_pos (by simp; omega)]; simpa using h
    · cases h
end
end Ev
end Go.Proofs.YtcaejedfjobooaaGreat
