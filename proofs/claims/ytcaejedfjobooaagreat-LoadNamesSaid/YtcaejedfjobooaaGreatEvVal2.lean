/- Operations that only compute or look. Part 2: each of them. -/
import Derived.Test.YtcaejedfjobooaaGreatEvVal
namespace Go.Proofs.YtcaejedfjobooaaGreat
open Go Go.RowKit
namespace Ev
section
variable {P : Program} {W : World} {L : Nat → Prop} {μ : Mu} {H : List AB} {C : Cfg} {tm : List AV} {a : Act}

theorem vr_bool {b : Bool} {x : Value} (h : VR W L μ (.bool b) x) : x = .bool b := by
  cases h with
  | dead h => simp [headRef] at h
  | bool => rfl
theorem vr_int {k : IntKind} {n : Int} {x : Value} (h : VR W L μ (.int k n) x) : x = .int k n := by
  cases h with
  | dead h => simp [headRef] at h
  | int => rfl
theorem vr_agg {cs : List AV} {x : Value} (h : VR W L μ (.agg cs) x) : ∃ rs : List Value, x = .agg rs.toArray ∧ VL W L μ cs rs := by
  cases h with
  | dead h => simp [headRef] at h
  | agg h1 h2 => exact ⟨_, rfl, h1, h2⟩
theorem vr_tup {cs : List AV} {x : Value} (h : VR W L μ (.tup cs) x) : ∃ rs : List Value, x = .tuple rs.toArray ∧ VL W L μ cs rs := by
  cases h with
  | dead h => simp [headRef] at h
  | tup h1 h2 => exact ⟨_, rfl, h1, h2⟩
theorem vr_iface {t : Nat} {v : AV} {x : Value} (h : VR W L μ (.iface t v) x) : ∃ y, x = .iface t y ∧ VR W L μ v y := by
  cases h with
  | dead h => simp [headRef] at h
  | iface h => exact ⟨_, rfl, h⟩
theorem vr_nilif {x : Value} (h : VR W L μ .nilif x) : x = .nilIface := by
  cases h with
  | dead h => simp [headRef] at h
  | nilif => rfl
theorem vr_nilfn {x : Value} (h : VR W L μ .nilfn x) : x = .nilFunc := by
  cases h with
  | dead h => simp [headRef] at h
  | nilfn => rfl
theorem vr_fn {f : Fn} {as bs : List AV} {x : Value} (h : VR W L μ (.fn f as bs) x) : ∃ rf rc : List Value, x = .func f rf.toArray rc.toArray ∧ (∀ l, f ≠ .yield l) ∧ VL W L μ as rf ∧ VL W L μ bs rc := by
  cases h with
  | dead h => simp [headRef] at h
  | fn h0 h1 h2 h3 h4 => exact ⟨_, _, rfl, h0, ⟨h1, h2⟩, ⟨h3, h4⟩⟩

theorem pick_ok {c x y : Operand} {k : AK} (he : Env C W L μ tm a) (hc : (match opnd c, opnd x, opnd y with | some c, some a, some b => some (AK.pick c a b) | _, _, _ => none) = some k)
    {v : AV} {ft : List Nat} (hx : xval H (val C tm) k = some (v, ft)) : ∃ z, (do pure (if ← asBool (a.eval c) then a.eval x else a.eval y) : Sem Value).run P W = .ok z W ∧ VR W L μ v z := by
  split at hc <;> cases hc
  rename_i c' x' y' h1 h2 h3
  have e1 := opnd_ok he h1
  have e2 := opnd_ok he h2
  have e3 := opnd_ok he h3
  simp only [xval] at hx
  split at hx
  · rename_i t ht
    rw [ht] at e1
    rw [vr_bool e1]
    split at hx
    · rename_i p q hp hq
      cases hx
      rw [hp] at e2; rw [hq] at e3
      rw [vr_bool e2, vr_bool e3]
      refine ⟨.bool (bif t then p else q), ?_, .bool⟩
      cases t <;> simp [asBool]
    · cases hx
      refine ⟨if t then a.eval x else a.eval y, by simp [asBool], ?_⟩
      cases t
      · exact e3
      · exact e2
  · cases hx

theorem binI_ok {op : BinOp} {k k' : IntKind} {x y : Int} {v : AV} (t : Nat) (h : binI op k x k' y = some v) : ∃ z, (binOp op t (.int k x) (.int k' y)).run P W = .ok z W ∧ VR W L μ v z := by
  cases op <;> simp only [binI, bitsI, Option.map_some] at h <;> (repeat' split at h) <;> cases h
  all_goals first
    | (refine ⟨_, ?_, .int⟩; simp_all [binOp, Op.shift, Op.intArith, Op.intDiv, Op.intCmp, Op.intBits]; done)
    | (refine ⟨_, ?_, .bool⟩; simp_all [binOp, Op.shift, Op.intArith, Op.intDiv, Op.intCmp, Op.intBits]; done)
    | (refine ⟨_, ?_, .int⟩; simp_all [binOp, Op.shift]; intro h; omega)

theorem bin_ok {op : BinOp} {t yt : Nat} {x y : Operand} {x' y' : Opnd} (he : Env C W L μ tm a) (h1 : opnd x = some x') (h2 : opnd y = some y')
    {v : AV} {ft : List Nat} (hx : xval H (val C tm) (.bin op x' y') = some (v, ft)) : ∃ z, (do eqGuard op t x y (a.eval x) (a.eval y); binOp op t (a.eval x) (a.eval y) : Sem Value).run P W = .ok z W ∧ VR W L μ v z := by
  have e1 := opnd_ok he h1
  have e2 := opnd_ok he h2
  simp only [xval] at hx
  split at hx
  · rename_i k p k' q hp hq
    rw [hp] at e1; rw [hq] at e2
    rw [vr_int e1, vr_int e2]
    cases hb : binI op k p k' q with
    | none => rw [hb] at hx; cases hx
    | some u =>
      rw [hb] at hx; cases hx
      obtain ⟨z, h3, h4⟩ := binI_ok (P := P) (W := W) (L := L) (μ := μ) t hb
      refine ⟨z, ?_, h4⟩
      have hg : (eqGuard op t x y (.int k p) (.int k' q)).run P W = .ok () W := by
        unfold eqGuard
        cases op <;> simp
      simp [hg, h3]
  · cases hx

theorem not_ok {x : Operand} {x' : Opnd} (he : Env C W L μ tm a) (h1 : opnd x = some x') {v : AV} {ft : List Nat} (hx : xval H (val C tm) (.not x') = some (v, ft)) :
    ∃ z, (Op.unary .not (a.eval x)).run P W = .ok z W ∧ VR W L μ v z := by
  have e1 := opnd_ok he h1
  simp only [xval] at hx
  split at hx
  · rename_i b hb
    cases hx
    rw [hb] at e1
    exact ⟨.bool !b, by simp [vr_bool e1, Op.unary], .bool⟩
  · cases hx
theorem neg_ok {x : Operand} {x' : Opnd} (he : Env C W L μ tm a) (h1 : opnd x = some x') {v : AV} {ft : List Nat} (hx : xval H (val C tm) (.neg x') = some (v, ft)) :
    ∃ z, (Op.unary .neg (a.eval x)).run P W = .ok z W ∧ VR W L μ v z := by
  have e1 := opnd_ok he h1
  simp only [xval] at hx
  split at hx
  · rename_i k n hb
    cases hx
    rw [hb] at e1
    exact ⟨.int k (k.wrap (0 - n)), by simp [vr_int e1, Op.unary, Op.intArith], .int⟩
  · cases hx
theorem conv_ok {s d : Nat} {i k : IntKind} {x : Operand} {x' : Opnd} (he : Env C W L μ tm a) (hs : P.underlying s = some (.int i)) (hd : P.underlying d = some (.int k)) (h1 : opnd x = some x') {v : AV} {ft : List Nat} (hx : xval H (val C tm) (.conv k x') = some (v, ft)) :
    ∃ z, (convert s d (a.eval x)).run P W = .ok z W ∧ VR W L μ v z := by
  have e1 := opnd_ok he h1
  simp only [xval] at hx
  split at hx
  · rename_i k' n hb
    cases hx
    rw [hb] at e1
    exact ⟨.int k (k.wrap n), by simp [vr_int e1, convert, run_underlying hs, run_underlying hd, Conv.intToInt], .int⟩
  · cases hx
theorem mkiface_ok {t : Nat} {d : TypeDesc} {x : Operand} {x' : Opnd} (he : Env C W L μ tm a) (hd : P.underlying t = some d) (hn : ∀ m, d ≠ .interface m) (h1 : opnd x = some x') {v : AV} {ft : List Nat} (hx : xval H (val C tm) (.iface t x') = some (v, ft)) :
    ∃ z, (Instr.makeInterface t (a.eval x)).run P W = .ok z W ∧ VR W L μ v z := by
  have e1 := opnd_ok he h1
  simp only [xval] at hx
  cases hx
  refine ⟨.iface t (a.eval x), ?_, .iface e1⟩
  cases d <;> simp [Instr.makeInterface, run_underlying hd] <;> exact absurd rfl (hn _)
theorem mkfn_ok {f : Fn} {as bs : Array Operand} {as' bs' : List Opnd} (he : Env C W L μ tm a) (hf : ∀ l, f ≠ .yield l) (h1 : opndL as.toList = some as') (h2 : opndL bs.toList = some bs') {v : AV} {ft : List Nat} (hx : xval H (val C tm) (.mkfn f as' bs') = some (v, ft)) :
    ∃ z, (Instr.makeFunc f (as.map a.eval) (bs.map a.eval)).run P W = .ok z W ∧ VR W L μ v z := by
  have e1 := opndL_ok he h1
  have e2 := opndL_ok he h2
  simp only [xval] at hx
  cases hx
  refine ⟨.func f (as.map a.eval) (bs.map a.eval), rfl, ?_⟩
  have := VR.fn (W := W) (L := L) (μ := μ) hf e1.1 e1.2 e2.1 e2.2
  simpa [← Array.toList_map] using this

theorem load_ok {t : Nat} {x : Operand} {x' : Opnd} {k : Option Nat} (hs : Sim P W L μ H) (he : Env C W L μ tm a) (hf : formT P t = some k) (h1 : opnd x = some x') {v : AV} {ft : List Nat} (hx : xval H (val C tm) (.load k x') = some (v, ft)) :
    ∃ z, (Instr.loadAt t (a.eval x)).run P W = .ok z W ∧ VR W L μ v z := by
  have e1 := opnd_ok he h1
  simp only [xval] at hx
  split at hx
  · rename_i b off hb
    rw [hb] at e1
    split at hx
    · rename_i cs hcs
      cases hp : pickC k cs off with
      | none => rw [hp] at hx; cases hx
      | some u =>
        rw [hp] at hx; cases hx
        obtain ⟨B, _, h2, h3⟩ := rd_ptr hs e1 hcs
        obtain ⟨z, h4, h5⟩ := h3.load hf (pickC_drop hp)
        exact ⟨z, by simp [Instr.loadAt, h2, Instr.sureAddr, h4], h5⟩
    · cases hx
  · rename_i cs hb
    rw [hb] at e1
    cases hp : pickC k cs 0 with
    | none => rw [hp] at hx; cases hx
    | some u =>
      rw [hp] at hx; cases hx
      obtain ⟨b, o, h2, h3⟩ := rd_rp e1
      obtain ⟨z, h4, h5⟩ := h3.load hf hp
      exact ⟨z, by simp [Instr.loadAt, h2, Instr.sureAddr, h4], h5⟩
  · cases hx

theorem field_of {t f : Nat} {fs : List Field} (h : fieldsT P t = some fs) : ∃ gs : Array Field, P.underlying t = some (.struct gs) ∧ gs.toList = fs := by
  unfold fieldsT at h
  split at h <;> cases h
  rename_i gs hg
  exact ⟨gs, hg, rfl⟩

theorem fieldA_ok {t f : Nat} {fs : List Field} {g : Field} {s : Nat} {x : Operand} {x' : Opnd} (hs : Sim P W L μ H) (he : Env C W L μ tm a) (hf : fieldsT P t = some fs) (hg : fs[f]? = some g) (hsz : sizeT P g.type = some (s + 1)) (h1 : opnd x = some x')
    {v : AV} {ft : List Nat} (hx : xval H (val C tm) (.fieldA g.offset x') = some (v, ft)) :
    ∃ z, (Instr.fieldAt t (a.eval x) f).run P W = .ok z W ∧ VR W L μ v z := by
  have e1 := opnd_ok he h1
  obtain ⟨gs, hu, rfl⟩ := field_of (f := f) hf
  rw [Array.getElem?_toList] at hg
  simp only [xval] at hx
  split at hx
  · rename_i b o hb
    split at hx <;> cases hx
    rename_i ha
    rw [hb] at e1
    obtain ⟨B, hm, h2⟩ := ptr_alive hs e1 ha
    exact ⟨.pointer (some ⟨B, o + g.offset, none⟩), by simp [Instr.fieldAt, run_underlying hu, hg, h2, Instr.sureAddr, fieldPlace, sizeT_run hsz, addr_add], .ptr hm⟩
  · rename_i cs hb
    cases hx
    rw [hb] at e1
    obtain ⟨b, o, h2, h3⟩ := rp_drop e1
    exact ⟨.pointer (some ⟨b, o + g.offset, none⟩), by simp [Instr.fieldAt, run_underlying hu, hg, h2, Instr.sureAddr, fieldPlace, sizeT_run hsz, addr_add], h3 _⟩
  · cases hx

theorem part_ok {t : Nat} {k : Option Nat} (hf : formT P t = some k) {cs : List AV} {rs : List Value} (h : VL W L μ cs rs) {off : Nat} {v : AV} (hp : pickC k cs off = some v) :
    ∃ z, (part t rs.toArray off).run P W = .ok z W ∧ VR W L μ v z := by
  cases k with
  | none =>
    obtain ⟨h1, h2⟩ := formT_none hf W
    obtain ⟨r, h3, h4⟩ := h.get (i := off) hp
    exact ⟨r, by simp [part, h1, h3], h4⟩
  | some k =>
    obtain ⟨h1, h2⟩ := formT_some hf W
    simp only [pickC] at hp
    split at hp
    · rename_i hk
      cases hp
      refine ⟨.agg ((rs.drop off).take k).toArray, ?_, agg_ok (by simpa using (h.drop off).take k)⟩
      simp [part, h1, sizeT_run h2]
    · cases hp

theorem fieldV_ok {t f : Nat} {fs : List Field} {g : Field} {k : Option Nat} {x : Operand} {x' : Opnd} (he : Env C W L μ tm a) (hf : fieldsT P t = some fs) (hg : fs[f]? = some g) (hk : formT P g.type = some k) (h1 : opnd x = some x')
    {v : AV} {ft : List Nat} (hx : xval H (val C tm) (.fieldV g.offset k x') = some (v, ft)) :
    ∃ z, (Instr.field t (a.eval x) f).run P W = .ok z W ∧ VR W L μ v z := by
  have e1 := opnd_ok he h1
  obtain ⟨gs, hu, rfl⟩ := field_of (f := f) hf
  rw [Array.getElem?_toList] at hg
  simp only [xval] at hx
  split at hx
  · rename_i cs hb
    rw [hb] at e1
    cases hp : pickC k cs g.offset with
    | none => rw [hp] at hx; cases hx
    | some u =>
      rw [hp] at hx; cases hx
      obtain ⟨rs, h2, h3⟩ := vr_agg e1
      obtain ⟨z, h4, h5⟩ := part_ok hk h3 hp
      exact ⟨z, by simp [Instr.field, run_underlying hu, hg, h2, asAgg, h4], h5⟩
  · cases hx

theorem extract_ok {x : Operand} {x' : Opnd} {i : Nat} (he : Env C W L μ tm a) (h1 : opnd x = some x') {v : AV} {ft : List Nat} (hx : xval H (val C tm) (.extract x' i) = some (v, ft)) :
    ∃ z, (Instr.extract (a.eval x) i).run P W = .ok z W ∧ VR W L μ v z := by
  have e1 := opnd_ok he h1
  simp only [xval] at hx
  split at hx
  · rename_i l hb
    rw [hb] at e1
    cases hp : l[i]? with
    | none => rw [hp] at hx; cases hx
    | some u =>
      rw [hp] at hx; cases hx
      obtain ⟨rs, h2, h3⟩ := vr_tup e1
      obtain ⟨z, h4, h5⟩ := h3.get hp
      exact ⟨z, by simp [Instr.extract, h2, h4], h5⟩
  · cases hx

theorem indexV_ok {t n e s : Nat} {k : Option Nat} {x i : Operand} {x' i' : Opnd} (he : Env C W L μ tm a) (hu : P.underlying t = some (.array n e)) (hsz : sizeT P e = some s) (hk : formT P e = some k) (h1 : opnd x = some x') (h2 : opnd i = some i')
    {v : AV} {ft : List Nat} (hx : xval H (val C tm) (.indexV n s k x' i') = some (v, ft)) :
    ∃ z, (Instr.index t (a.eval x) (a.eval i)).run P W = .ok z W ∧ VR W L μ v z := by
  have e1 := opnd_ok he h1
  have e2 := opnd_ok he h2
  simp only [xval] at hx
  split at hx
  · rename_i cs k' j hb hj
    rw [hb] at e1; rw [hj] at e2
    split at hx
    · rename_i hin
      cases hp : pickC k cs (j.toNat * s) with
      | none => rw [hp] at hx; cases hx
      | some u =>
        rw [hp] at hx; cases hx
        obtain ⟨rs, h3, h4⟩ := vr_agg e1
        obtain ⟨z, h5, h6⟩ := part_ok hk h4 hp
        exact ⟨z, by simp [Instr.index, vr_int e2, asIntOf, run_underlying hu, h3, hin.1, hin.2, sizeT_run hsz, h5], h6⟩
    · cases hx
  · cases hx

theorem indexA_sl {t e k : Nat} {x i : Operand} {x' i' : Opnd} (hs : Sim P W L μ H) (he : Env C W L μ tm a) (hu : P.underlying t = some (.slice e)) (hsz : sizeT P e = some k) (h1 : opnd x = some x') (h2 : opnd i = some i')
    {v : AV} {ft : List Nat} (hx : xval H (val C tm) (.indexA k none x' i') = some (v, ft)) :
    ∃ z, (Instr.indexAt t (a.eval x) (a.eval i)).run P W = .ok z W ∧ VR W L μ v z := by
  have e1 := opnd_ok he h1
  have e2 := opnd_ok he h2
  simp only [xval] at hx
  split at hx
  · rename_i k' j hj
    rw [hj] at e2
    revert e1 hx
    generalize val C tm x' = u
    generalize a.eval x = X
    intro e1 hx
    cases u with
    | sl b off n k'' =>
      dsimp only at hx
      split at hx <;> cases hx
      rename_i hin
      obtain ⟨B, cap, rs, t', h3, h4, h5, h6, h7⟩ := sl_alive hs e1 hin.2.2.2
      refine ⟨.pointer (some ⟨B, off + j.toNat * k, none⟩), ?_, .ptr h3⟩
      simp [Instr.indexAt, vr_int e2, asIntOf, run_underlying hu, h4, hin.1, hin.2.1, sizeT_run hsz, addr_add]
    | vs k'' es =>
      dsimp only at hx
      split at hx <;> cases hx
      rename_i hin
      obtain ⟨q1, q2, q3⟩ := hin
      have hlt : j.toNat < es.length := by omega
      subst q3
      cases e1 with
      | dead h => simp [headRef] at h
      | vs0 => simp at hlt
      | @vs _ _ b o cap _ rs g1 g2 g3 g4 =>
        refine ⟨.pointer (some ⟨b, o + j.toNat * k, none⟩), ?_, ?_⟩
        · simp [Instr.indexAt, vr_int e2, asIntOf, run_underlying hu, q1, q2, sizeT_run hsz, addr_add]
        · have hget : es[j.toNat]? = some (es.getD j.toNat .unk) := by rw [List.getD_eq_getElem?_getD, List.getElem?_eq_getElem hlt]; rfl
          exact .rp (fun q => rs j.toNat q) (fun q y hy => g3 _ _ _ _ hget hy) (fun q y hy => g4 _ _ _ _ hget hy)
    | _ => cases hx
  · cases hx

theorem indexA_arr {t n e k : Nat} {x i : Operand} {x' i' : Opnd} (hs : Sim P W L μ H) (he : Env C W L μ tm a) (hu : P.underlying t = some (.array n e)) (hsz : sizeT P e = some k) (h1 : opnd x = some x') (h2 : opnd i = some i')
    {v : AV} {ft : List Nat} (hx : xval H (val C tm) (.indexA k (some n) x' i') = some (v, ft)) :
    ∃ z, (Instr.indexAt t (a.eval x) (a.eval i)).run P W = .ok z W ∧ VR W L μ v z := by
  have e1 := opnd_ok he h1
  have e2 := opnd_ok he h2
  simp only [xval] at hx
  split at hx
  · rename_i k' j hj
    rw [hj] at e2
    revert e1 hx
    generalize val C tm x' = u
    generalize a.eval x = X
    intro e1 hx
    cases u with
    | ptr b o =>
      dsimp only at hx
      split at hx <;> cases hx
      rename_i hin
      obtain ⟨B, h3, h4⟩ := ptr_alive hs e1 hin.2.2
      refine ⟨.pointer (some ⟨B, o + j.toNat * k, none⟩), ?_, .ptr h3⟩
      simp [Instr.indexAt, vr_int e2, asIntOf, run_underlying hu, h4, Instr.sureAddr, hin.1, hin.2.1, sizeT_run hsz, addr_add]
    | rp cs =>
      dsimp only at hx
      split at hx <;> cases hx
      rename_i hin
      obtain ⟨b, o, h3, h4⟩ := rp_drop e1
      refine ⟨.pointer (some ⟨b, o + j.toNat * k, none⟩), ?_, h4 _⟩
      simp [Instr.indexAt, vr_int e2, asIntOf, run_underlying hu, h3, Instr.sureAddr, hin.1, hin.2, sizeT_run hsz, addr_add]
    | _ => cases hx
  · cases hx

theorem len_ok {t e : Nat} {x : Operand} {x' : Opnd} (hs : Sim P W L μ H) (he : Env C W L μ tm a) (hu : P.underlying t = some (.slice e)) (h1 : opnd x = some x')
    {v : AV} {ft : List Nat} (hx : xval H (val C tm) (.len x') = some (v, ft)) (ty : Nat) :
    ∃ z, (Builtin.len_ #[t] ty #[a.eval x]).run P W = .ok z W ∧ VR W L μ v z := by
  have e1 := opnd_ok he h1
  simp only [xval] at hx
  cases hp : slLen H (val C tm x') with
  | none => rw [hp] at hx; cases hx
  | some n =>
    rw [hp] at hx; cases hx
    obtain ⟨p, cap, h3, h4⟩ := slLen_ok hs e1 hp
    exact ⟨goInt n, by simp [Builtin.len_, run_underlying hu, h3], .int⟩

theorem maxK_ok {k : IntKind} : ∀ {as : List AV} {rs : List Value} {acc : Int} {v : AV}, VL W L μ as rs → maxK k acc as = some v → ∃ z, (rs.foldlM Builtin.max2 (.int k acc)).run P W = .ok z W ∧ VR W L μ v z
  | [], rs, acc, v, h, hv => by
    cases rs with
    | nil => cases hv; exact ⟨.int k acc, by simp, .int⟩
    | cons r rs => have := h.1; simp at this
  | x :: as, rs, acc, v, h, hv => by
    cases rs with
    | nil => have := h.1; simp at this
    | cons r rs =>
      unfold maxK at hv
      split at hv
      · rename_i heq; cases heq
      · rename_i acc' k' b l heq
        cases heq
        split at hv
        case isFalse => cases hv
        rename_i hk
        subst hk
        obtain ⟨z, h3, h4⟩ := maxK_ok h.tail hv
        refine ⟨z, ?_, h4⟩
        have hmm : ∀ p q : Int, (if q > p then q else p) = max p q := fun p q => by omega
        simp only [List.foldlM_cons, vr_int h.head, Builtin.max2, hmm, Sem.run_bind, Sem.run_pure, Result.andThen_ok]
        exact h3
      · cases hv
theorem minK_ok {k : IntKind} : ∀ {as : List AV} {rs : List Value} {acc : Int} {v : AV}, VL W L μ as rs → minK k acc as = some v → ∃ z, (rs.foldlM Builtin.min2 (.int k acc)).run P W = .ok z W ∧ VR W L μ v z
  | [], rs, acc, v, h, hv => by
    cases rs with
    | nil => cases hv; exact ⟨.int k acc, by simp, .int⟩
    | cons r rs => have := h.1; simp at this
  | x :: as, rs, acc, v, h, hv => by
    cases rs with
    | nil => have := h.1; simp at this
    | cons r rs =>
      unfold minK at hv
      split at hv
      · rename_i heq; cases heq
      · rename_i acc' k' b l heq
        cases heq
        split at hv
        case isFalse => cases hv
        rename_i hk
        subst hk
        obtain ⟨z, h3, h4⟩ := minK_ok h.tail hv
        refine ⟨z, ?_, h4⟩
        have hmm : ∀ p q : Int, (if q < p then q else p) = min p q := fun p q => by omega
        simp only [List.foldlM_cons, vr_int h.head, Builtin.min2, hmm, Sem.run_bind, Sem.run_pure, Result.andThen_ok]
        exact h3
      · cases hv
theorem max_ok {xs : Array Operand} {xs' : List Opnd} (he : Env C W L μ tm a) (h1 : opndL xs.toList = some xs') {v : AV} {ft : List Nat} (hx : xval H (val C tm) (.max xs') = some (v, ft)) (ts : Array TypeId) (ty : Nat) :
    ∃ z, (Builtin.max_ ts ty (xs.map a.eval)).run P W = .ok z W ∧ VR W L μ v z := by
  have e1 := opndL_ok he h1
  simp only [xval] at hx
  revert hx e1
  generalize xs'.map (val C tm) = as
  rw [← Array.toList_map]
  generalize hR : (xs.map a.eval) = R
  intro hx e1
  cases hm : maxA as with
  | none => rw [hm] at hx; cases hx
  | some u =>
    rw [hm] at hx; cases hx
    unfold maxA at hm
    split at hm
    · rename_i k q l
      cases hR' : R.toList with
      | nil => rw [hR'] at e1; have := e1.1; simp at this
      | cons r rs =>
        rw [hR'] at e1
        obtain ⟨z, h3, h4⟩ := maxK_ok (P := P) e1.tail hm
        exact ⟨z, by simp [Builtin.max_, hR', vr_int e1.head, h3], h4⟩
    · cases hm
theorem min_ok {xs : Array Operand} {xs' : List Opnd} (he : Env C W L μ tm a) (h1 : opndL xs.toList = some xs') {v : AV} {ft : List Nat} (hx : xval H (val C tm) (.min xs') = some (v, ft)) (ts : Array TypeId) (ty : Nat) :
    ∃ z, (Builtin.min_ ts ty (xs.map a.eval)).run P W = .ok z W ∧ VR W L μ v z := by
  have e1 := opndL_ok he h1
  simp only [xval] at hx
  revert hx e1
  generalize xs'.map (val C tm) = as
  rw [← Array.toList_map]
  generalize hR : (xs.map a.eval) = R
  intro hx e1
  cases hm : minA as with
  | none => rw [hm] at hx; cases hx
  | some u =>
    rw [hm] at hx; cases hx
    unfold minA at hm
    split at hm
    · rename_i k q l
      cases hR' : R.toList with
      | nil => rw [hR'] at e1; have := e1.1; simp at this
      | cons r rs =>
        rw [hR'] at e1
        obtain ⟨z, h3, h4⟩ := minK_ok (P := P) e1.tail hm
        exact ⟨z, by simp [Builtin.min_, hR', vr_int e1.head, h3], h4⟩
    · cases hm
end
end Ev
end Go.Proofs.YtcaejedfjobooaaGreat
