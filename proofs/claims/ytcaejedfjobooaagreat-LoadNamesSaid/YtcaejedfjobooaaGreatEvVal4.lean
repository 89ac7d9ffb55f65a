/- Operations that only compute or look. Part 4: slices, nil checks, building, maps, assertions. -/
import Derived.Test.YtcaejedfjobooaaGreatEvVal3
import Derived.Laws.Tables
import Derived.MapKept
namespace Go.Proofs.YtcaejedfjobooaaGreat
open Go Go.RowKit
namespace Ev
section
variable {P : Program} {W : World} {L : Nat → Prop} {μ : Mu} {H : List AB} {C : Cfg} {tm : List AV} {a : Act}

theorem slElem_ok {t e k by' : Nat} (h : slElem P t = some (e, k, by')) : P.underlying t = some (.slice e) ∧ sizeT P e = some k ∧ ∃ i, P.info? e = some i ∧ i.size = k ∧ i.bytes = by' := by
  unfold slElem at h
  split at h
  · rename_i e' hu
    cases hi : P.info? e' with
    | none => rw [hi] at h; cases h
    | some i => rw [hi] at h; cases h; exact ⟨hu, by simp [sizeT, hi], i, hi, rfl, rfl⟩
  · cases h

theorem eq_slice' {t e : Nat} (hu : P.underlying t = some (.slice e)) (W : World) (d : Nat) (p : Option Addr) (n c : Nat) : (Op.equalIn (d + 1) t (.slice p n c) (.slice none 0 0)).run P W = .ok p.isNone W := by
  cases p <;> simp only [Op.equalIn, Sem.run_bind, run_underlying hu, Result.andThen_ok, Sem.run_pure] <;> rfl
theorem eq_slice {t e : Nat} (hu : P.underlying t = some (.slice e)) (W : World) (p : Option Addr) (n c : Nat) : (Op.equal t (.slice p n c) (.slice none 0 0)).run P W = .ok p.isNone W := eq_slice' hu W 9999 p n c
/-- A slice compared with nil. -/
theorem isnil_ok {op : BinOp} (hop : op = .eql ∨ op = .neq) {t e : Nat} {x y : Operand} {x' : Opnd} (hs : Sim P W L μ H) (he : Env C W L μ tm a) (hu : P.underlying t = some (.slice e)) (hy : isNilS y = true) (h1 : opnd x = some x')
    {v : AV} {ft : List Nat} (hx : xval H (val C tm) (.isnil (isNeq op) x') = some (v, ft)) :
    ∃ z, (do eqGuard op t x y (a.eval x) (a.eval y); binOp op t (a.eval x) (a.eval y) : Sem Value).run P W = .ok z W ∧ VR W L μ v z := by
  have e1 := opnd_ok he h1
  have ey : a.eval y = .slice none 0 0 := by
    unfold isNilS at hy
    split at hy
    · rfl
    · cases hy
  rw [ey]
  simp only [xval] at hx
  revert e1 hx
  generalize val C tm x' = u
  generalize a.eval x = X
  intro hx e1
  have goal : ∀ (p : Option Addr) (n c : Nat) (b : Bool), X = .slice p n c → p.isNone = b → (do eqGuard op t x y X (.slice none 0 0); binOp op t X (.slice none 0 0) : Sem Value).run P W = .ok (.bool (bif isNeq op then !b else b)) W := by
    intro p n c b hp hb
    subst hp hb
    have hg : (eqGuard op t x y (.slice p n c) (.slice none 0 0)).run P W = .ok () W := by
      rcases hop with rfl | rfl <;> simp [eqGuard]
    rcases hop with rfl | rfl <;> simp [hg, binOp, eq_slice hu, isNeq]
  cases u with
  | nils =>
    cases hx
    exact ⟨_, goal _ _ _ true (vr_nils e1) rfl, by cases isNeq op <;> exact .bool⟩
  | vs k es =>
    cases es with
    | nil => cases hx
    | cons q es =>
      cases hx
      cases e1 with
      | dead h => simp [headRef] at h
      | vs rs => exact ⟨_, goal _ _ _ false rfl rfl, by cases isNeq op <;> exact .bool⟩
  | sl b off n k =>
    dsimp only at hx
    split at hx <;> cases hx
    rename_i ha
    obtain ⟨B, cap, rs, t', g1, g2, _⟩ := sl_alive hs e1 ha
    exact ⟨_, goal _ _ _ false g2 rfl, by cases isNeq op <;> exact .bool⟩
  | _ => cases hx

/-- A slice of an array. -/
theorem sliceA_ok {t e k m : Nat} {x : Operand} {x' : Opnd} {lo hi : Option Operand} {lo' hi' : Option Opnd} (hs : Sim P W L μ H) (he : Env C W L μ tm a) (hu : P.underlying t = some (.array m e)) (hsz : sizeT P e = some k) (hk : 0 < k) (h1 : opnd x = some x')
    (h2 : lo.elim (some none) (fun l => (opnd l).map some) = some lo') (h3 : hi.elim (some none) (fun l => (opnd l).map some) = some hi')
    {v : AV} {ft : List Nat} (hx : xval H (val C tm) (.sliceA k m x' lo' hi') = some (v, ft)) :
    ∃ z, (Instr.sliceAt t (a.eval x) (lo.map a.eval) (hi.map a.eval) none).run P W = .ok z W ∧ VR W L μ v z := by
  have e1 := opnd_ok he h1
  simp only [xval] at hx
  split at hx
  case h_2 => cases hx
  rename_i b o kl l kh h hp hl hh
  rw [hp] at e1
  split at hx
  case isFalse => cases hx
  rename_i hin
  obtain ⟨i1, i2, i3⟩ := hin
  split at hx
  case h_2 => cases hx
  rename_i cs hb
  split at hx
  case isFalse => cases hx
  rename_i hlen
  obtain ⟨B, hm, hX⟩ := ptr_alive hs e1 (by unfold alive; rw [hb])
  obtain ⟨_, hlt, blk, ob, q1, q2, q3⟩ := hs.live _ _ hm
  rw [hb] at q1; cases q1
  cases q3 with
  | @cells _ rs t' hsz' hvs =>
  have hhi : (match hi.map a.eval with | some v => Instr.sliceBound v m .sliceAlen | none => pure m : Sem Nat).run P W = .ok h.toNat W := by
    cases hi with
    | none =>
      simp at h3; subst h3
      simp at hh
      simp; omega
    | some q =>
      simp at h3
      obtain ⟨q', hq, rfl⟩ := h3
      have e3 := opnd_ok he hq
      simp at hh
      rw [hh] at e3
      have hc : 0 ≤ h ∧ h ≤ (m : Int) := ⟨by omega, by omega⟩
      simp only [Option.map_some, Instr.sliceBound, vr_int e3, asIntOf, Sem.run_bind, Sem.run_pure, Result.andThen_ok, if_pos hc]
  have hlo : (match lo.map a.eval with | some v => Instr.sliceBound v h.toNat .sliceB | none => pure 0 : Sem Nat).run P W = .ok l.toNat W := by
    cases lo with
    | none =>
      simp at h2; subst h2
      simp at hl
      simp; omega
    | some q =>
      simp at h2
      obtain ⟨q', hq, rfl⟩ := h2
      have e3 := opnd_ok he hq
      simp at hl
      rw [hl] at e3
      have hc : 0 ≤ l ∧ l ≤ (h.toNat : Int) := ⟨by omega, by omega⟩
      simp only [Option.map_some, Instr.sliceBound, vr_int e3, asIntOf, Sem.run_bind, Sem.run_pure, Result.andThen_ok, if_pos hc]
  have hb' : (Instr.sliceBounds false m m (lo.map a.eval) (hi.map a.eval) none).run P W = .ok (l.toNat, h.toNat, m) W := by
    unfold Instr.sliceBounds
    cases hlo' : lo.map a.eval <;> cases hhi' : hi.map a.eval <;> rw [hlo'] at hlo <;> rw [hhi'] at hhi <;> simp at hlo hhi <;> simp [hlo, hhi]
  have hrun : (Instr.sliceAt t (a.eval x) (lo.map a.eval) (hi.map a.eval) none).run P W = .ok (.slice (some (if m = l.toNat then ⟨B, o, none⟩ else ⟨B, o + l.toNat * k, none⟩)) (h.toNat - l.toNat) (m - l.toNat)) W := by
    simp [Instr.sliceAt, Instr.sureAddr, run_underlying hu, hX, hb', sizeT_run hsz, addr_add]
  refine ⟨_, hrun, ?_⟩
  cases hx
  split
  · rename_i h0
    rw [show h.toNat - l.toNat = 0 by omega]
    exact .vs0
  · rename_i h0
    have hne : m ≠ l.toNat := by omega
    rw [if_neg hne, show h.toNat - l.toNat = (h - l).toNat by omega]
    refine .sl hm (by omega) q2 ?_
    have e : o + l.toNat * k + (m - l.toNat) * k = o + m * k := by
      rw [Nat.add_assoc, ← Nat.add_mul, show l.toNat + (m - l.toNat) = m by omega]
    omega

theorem slice_ok {t e k by' : Nat} {x : Operand} {x' : Opnd} {lo hi : Option Operand} {lo' hi' : Option Opnd} (hs : Sim P W L μ H) (he : Env C W L μ tm a) (hu : slElem P t = some (e, k, by')) (h1 : opnd x = some x')
    (h2 : lo.elim (some none) (fun l => (opnd l).map some) = some lo') (h3 : hi.elim (some none) (fun l => (opnd l).map some) = some hi')
    {v : AV} {ft : List Nat} (hx : xval H (val C tm) (.slice k x' lo' hi') = some (v, ft)) :
    ∃ z, (Instr.sliceAt t (a.eval x) (lo.map a.eval) (hi.map a.eval) none).run P W = .ok z W ∧ VR W L μ v z := by
  have e1 := opnd_ok he h1
  obtain ⟨u1, u2, _⟩ := slElem_ok hu
  simp only [xval] at hx
  cases hn : slLen H (val C tm x') with
  | none => rw [hn] at hx; cases hx
  | some n =>
    rw [hn] at hx
    simp only [Option.getD_some] at hx
    obtain ⟨p, cap, f1, f2⟩ := slLen_ok hs e1 hn
    split at hx
    case h_2 => cases hx
    rename_i n' kl l kh h hn' hl hh
    cases hn'
    split at hx
    case isFalse => cases hx
    rename_i hin
    obtain ⟨i1, i2, i3⟩ := hin
    -- the bounds, as the model takes them
    have hhi : (match hi.map a.eval with | some v => Instr.sliceBound v cap .sliceAcap | none => pure n : Sem Nat).run P W = .ok h.toNat W := by
      cases hi with
      | none =>
        simp at h3; subst h3
        simp at hh
        simp; omega
      | some q =>
        simp at h3
        obtain ⟨q', hq, rfl⟩ := h3
        have e3 := opnd_ok he hq
        simp at hh
        rw [hh] at e3
        have hc : 0 ≤ h ∧ h ≤ (cap : Int) := ⟨by omega, by omega⟩
        simp only [Option.map_some, Instr.sliceBound, vr_int e3, asIntOf, Sem.run_bind, Sem.run_pure, Result.andThen_ok, if_pos hc]
    have hlo : (match lo.map a.eval with | some v => Instr.sliceBound v h.toNat .sliceB | none => pure 0 : Sem Nat).run P W = .ok l.toNat W := by
      cases lo with
      | none =>
        simp at h2; subst h2
        simp at hl
        simp; omega
      | some q =>
        simp at h2
        obtain ⟨q', hq, rfl⟩ := h2
        have e3 := opnd_ok he hq
        simp at hl
        rw [hl] at e3
        have hc : 0 ≤ l ∧ l ≤ (h.toNat : Int) := ⟨by omega, by omega⟩
        simp only [Option.map_some, Instr.sliceBound, vr_int e3, asIntOf, Sem.run_bind, Sem.run_pure, Result.andThen_ok, if_pos hc]
    have hb : (Instr.sliceBounds true n cap (lo.map a.eval) (hi.map a.eval) none).run P W = .ok (l.toNat, h.toNat, cap) W := by
      unfold Instr.sliceBounds
      cases hlo' : lo.map a.eval <;> cases hhi' : hi.map a.eval <;> rw [hlo'] at hlo <;> rw [hhi'] at hhi <;> simp at hlo hhi <;> simp [hlo, hhi]
    have hrun : (Instr.sliceAt t (a.eval x) (lo.map a.eval) (hi.map a.eval) none).run P W = .ok (.slice (if cap = l.toNat then p else p.map (·.add (l.toNat * k))) (h.toNat - l.toNat) (cap - l.toNat)) W := by
      simp [Instr.sliceAt, Instr.slice, run_underlying u1, f1, hb, sizeT_run u2]
    refine ⟨_, hrun, ?_⟩
    split at hx
    · cases hx
      rename_i h0
      rw [show h.toNat - l.toNat = 0 by omega]
      exact .vs0
    · rename_i h0
      have hne : cap ≠ l.toNat := by omega
      rw [if_neg hne]
      revert e1 hx hn
      generalize val C tm x' = u
      intro e1 hn hx
      cases u with
      | sl b off n2 k' =>
        dsimp only at hx
        split at hx <;> cases hx
        rename_i hk
        obtain ⟨hk, ha⟩ := hk
        subst hk
        obtain ⟨B, cap', rs, t', g1, g2, g3, g4, g5⟩ := sl_alive hs e1 ha
        rw [f1] at g2; cases g2
        simp only [Option.map_some, addr_add]
        have hsub : h.toNat - l.toNat = (h - l).toNat := by omega
        rw [hsub]
        refine .sl g1 (by omega) g4 ?_
        have e : off + l.toNat * k + (cap - l.toNat) * k = off + cap * k := by
          rw [Nat.add_assoc, ← Nat.add_mul, show l.toNat + (cap - l.toNat) = cap by omega]
        rw [e]; exact g5
      | vs k' es =>
        dsimp only at hx
        split at hx <;> cases hx
        rename_i hk
        subst hk
        rw [f1] at e1
        simp [slLen] at hn
        subst hn
        cases e1 with
        | dead h => simp [headRef] at h
        | vs0 => simp at i3; omega
        | @vs _ _ b o _ _ rs g1 g2 g3 g4 =>
          simp only [Option.map_some, addr_add]
          have hlen : ((es.drop l.toNat).take (h - l).toNat).length = h.toNat - l.toNat := by simp; omega
          rw [← hlen]
          have hget : ∀ {i : Nat} {e : AV}, ((es.drop l.toNat).take (h - l).toNat)[i]? = some e → es[l.toNat + i]? = some e := by
            intro i e he
            by_cases hi : i < (h - l).toNat
            · rw [List.getElem?_take_of_lt hi, List.getElem?_drop] at he; exact he
            · rw [List.getElem?_take_eq_none (by omega)] at he; cases he
          refine .vs (fun i j => rs (l.toNat + i) j) (by rw [hlen]; omega) (fun i e he => g2 _ _ (hget he)) (fun i e j y he hy => ?_) (fun i e j y he hy => g4 _ _ _ _ (hget he) hy)
          have := g3 _ _ _ _ (hget he) hy
          rwa [Nat.add_mul, ← Nat.add_assoc] at this
      | _ => cases hx

theorem nilck_ok {x : Operand} {x' : Opnd} {o : Oper} (ho : o.op = .nilCheck x) (hs : Sim P W L μ H) (he : Env C W L μ tm a) (h1 : opnd x = some x') {v : AV} {ft : List Nat} (hx : xval H (val C tm) (.nilck x') = some (v, ft)) :
    ∃ z, (execOp a.eval o).run P W = .ok (.value z) W ∧ VR W L μ v z := by
  have e1 := opnd_ok he h1
  simp only [xval] at hx
  split at hx
  · rename_i b off hb
    split at hx <;> cases hx
    rename_i ha
    rw [hb] at e1
    obtain ⟨B, hm, h2⟩ := ptr_alive hs e1 ha
    exact ⟨_, by simp [execOp, ho, h2], .ptr hm⟩
  · rename_i cs hb
    cases hx
    rw [hb] at e1
    obtain ⟨b, o', h2, h3⟩ := rp_drop e1
    have := h3 0
    simp at this
    exact ⟨_, by simp [execOp, ho, h2], this⟩
  · rename_i f u1 u2 hb
    cases hx
    rw [hb] at e1
    obtain ⟨rf, rc, h2, h3, h4, h5⟩ := vr_fn e1
    rw [h2] at e1
    exact ⟨_, by simp [execOp, ho, h2], e1⟩
  · cases hx

theorem methodTbl_mem {m : String} : ∀ {n t f : Nat}, (t, f) ∈ methodTbl P m n → methodOf P m t = some f
  | 0, t, f, h => by simp [methodTbl] at h
  | n + 1, t, f, h => by
    unfold methodTbl at h
    split at h
    · rename_i g hg
      rcases List.mem_cons.1 h with h | h
      · cases h; exact hg
      · exact methodTbl_mem h
    · exact methodTbl_mem h

/-- A method that a value has by itself. -/
theorem methodOf_ok {m : String} {t f : Nat} (h : methodOf P m t = some f) (v : Value) (n : Nat) : (method (n + 1) t v m).run P W = .ok (f, v) W ∧ (nilAhead (n + 1) t v m).run P W = .ok (some false) W := by
  unfold methodOf at h
  cases hi : P.info? t with
  | none => rw [hi] at h; cases h
  | some i =>
    rw [hi] at h
    simp only at h
    cases hf : i.methods.find? (·.name == m) with
    | none => rw [hf] at h; cases h
    | some mt =>
      rw [hf] at h
      simp only at h
      cases hm : mt.func with
      | none => rw [hm] at h; cases h
      | some fp =>
        obtain ⟨g, ptr⟩ := fp
        rw [hm] at h
        simp only at h
        rw [Option.ite_none_right_eq_some] at h
        obtain ⟨hc, hfg⟩ := h
        cases hfg
        simp only [Bool.and_eq_true] at hc
        obtain ⟨hp, hc⟩ := hc
        have hpl : mt.path.toList = [] := by simpa using hp
        cases hu : P.underlying t with
        | none => rw [hu] at hc; cases hc
        | some d =>
          rw [hu] at hc
          constructor
          · cases d <;> simp at hc <;> subst hc <;> simp [method, typeInfo, hi, hf, hpl, follow, hm, receiverAt, run_underlying hu, Place.get]
          · cases d <;> simp at hc <;> subst hc <;> simp [nilAhead, typeInfo, hi, hf, hpl, followBlind, hm, run_underlying hu]

theorem nilckM_ok {x : Operand} {x' : Opnd} {o : Oper} {m : String} (ho : o.op = .nilCheck x) (hs : Sim P W L μ H) (he : Env C W L μ tm a) (h1 : opnd x = some x') {v : AV} {ft : List Nat}
    (hx : xval H (val C tm) (.nilckM m ((methodTbl P m P.types.size).map (·.1)) x') = some (v, ft)) :
    ∃ z, (execOp a.eval o).run P W = .ok (.value z) W ∧ VR W L μ v z := by
  have e1 := opnd_ok he h1
  simp only [xval] at hx
  split at hx
  · rename_i m' t u b hb
    split at hx <;> cases hx
    rename_i hc
    obtain ⟨rfl, ht⟩ := hc
    simp at ht
    obtain ⟨f, hf⟩ := ht
    have hmo := methodTbl_mem hf
    rw [hb] at e1
    have e1' := e1
    obtain ⟨rf, rc, h2, h3, h4, h5⟩ := vr_fn e1
    obtain ⟨r, hr, hvr⟩ := h4.get (i := 0) rfl
    obtain ⟨y, rfl, hy⟩ := vr_iface hvr
    rw [h2] at e1'
    refine ⟨_, ?_, e1'⟩
    have hfu : P.types.size + Made.depth = (P.types.size + 99) + 1 := rfl
    simp [execOp, ho, h2, hr, hfu, (methodOf_ok hmo y (P.types.size + 99)).2]
  · cases hx
end
end Ev
end Go.Proofs.YtcaejedfjobooaaGreat
