/- Regions: one operation against the model. -/
import Derived.Test.YtcaejedfjobooaaGreatEvReg
import Derived.OrdersIn
namespace Go.Proofs.YtcaejedfjobooaaGreat
open Go Go.RowKit
namespace Ev
section
variable {P : Program} {E : Ent} {W : World} {L : Nat → Prop} {μ : Mu} {C : Cfg} {tc : List Nat} {H : List AB} {tm : List AV} {a : Act}

theorem mem_of_lookup {t f : Nat} : ∀ {l : List (Nat × Nat)}, l.lookup t = some f → (t, f) ∈ l
  | [], h => by simp at h
  | (u, g) :: l, h => by
    rw [List.lookup_cons] at h
    split at h
    · rename_i he
      cases h; simp at he; subst he; exact List.mem_cons_self ..
    · exact List.mem_cons_of_mem _ (mem_of_lookup h)

/-- What the globals hold. -/
def Globs (C : Cfg) (W : World) (L : Nat → Prop) : Prop := ∀ g cs, globA g = some cs → VR W L nomu (.rp cs) (.pointer (some ⟨g, 0, none⟩))

/-- The panic chain of one value. -/
def one (w : Value) : List PanicEntry := [{ v := w, recovered := false }]

/-- How a call ends. -/
def CRel (W : World) (L : Nat → Prop) (μ : Mu) : CRes → Ending → Prop
  | .ret v, .returned w => VR W L μ v w
  | .pan v, .panicked chain => ∃ w, chain = one w ∧ VR W L μ v w
  | _, _ => False

/-- What stands behind a call. -/
def CPost (P : Program) (E : Ent) (tc0 : List Nat) (W : World) (L : Nat → Prop) (μ : Mu) (n : Nat) (x : CRes) (H' : List AB) (tc : List Nat) (e : Ending) (W' : World) : Prop :=
  ∃ L' μ', CRel W' L' μ' x e ∧ Hp P E (tc.filter (· < E.pin) ++ tc0) W' L' μ' H' ∧ Later L L' W W' ∧ Ext μ μ' ∧ (∀ b, L b → L' b) ∧ Stays n μ μ'

/-- Calling a value comes to R. -/
def GoesTo (P : Program) (rf : Value) (rargs : Array Value) (W : World) (R : Ending → World → Prop) : Prop :=
  ∃ r W1, (do let d ← Deferred.ofValue rf rargs; invoke d.target d.args : Sem Next).run P W = .ok r W1 ∧
    match r with
    | .value v => R (.returned v) W1
    | .enter f args => CallsIn Fence.wide 0 P f args W1 R
    | .round l f tmps assign body => RoundIn Fence.wide 0 P l f tmps assign body W1 R
    | _ => False

structure CallOk (P : Program) (C : Cfg) (call : CallF) : Prop where
  fr : CallFr call
  fn : ∀ {f : Nat} {first captured args : List AV} {H : List AB} {r : CRes × List AB × List Nat}, call (.fn (.func f) first captured) args H = some r → ∀ (rargs : Array Value) (W : World), (callFunc f rargs).run P W = .ok (.enter f rargs) W
  sound : ∀ {E : Ent} {tc0 : List Nat} {W : World} {L : Nat → Prop} {μ : Mu} {H : List AB} {f : AV} {args : List AV} {rf : Value} {rargs : Array Value} {x : CRes} {H' : List AB} {tc : List Nat},
    call f args H = some (x, H', tc) → Hp P E tc0 W L μ H → Globs C W L → VR W L μ f rf → VL W L μ args rargs.toList → GoesTo P rf rargs W (CPost P E tc0 W L μ H.length x H' tc)

/-- A fence that asks nothing. -/
structure Wide (F : Fence) : Prop where
  fn : ∀ f, F.fn f
  depth : F.depth = none
  fenced : Machine.fenced P F = Machine.fenced P Fence.wide

theorem callsIn_wideF {F : Fence} (hF : Wide (P := P) F) {f : FuncId} {args : Array Value} {R : Ending → World → Prop} (h : CallsIn Fence.wide 0 P f args W R) : CallsIn F 0 P f args W R :=
  ⟨hF.fn f, fun cs _ => by rw [hF.fenced]; exact h.2 cs (room_wide _)⟩
theorem roundIn_wideF {F : Fence} (hF : Wide (P := P) F) {l : Nat} {f : FuncId} {tmps : Array Value} {assign body : Code} {R : Ending → World → Prop} (h : RoundIn Fence.wide 0 P l f tmps assign body W R) : RoundIn F 0 P l f tmps assign body W R :=
  ⟨hF.fn f, fun c cs _ => by rw [hF.fenced]; exact h.2 c cs (room_wide _)⟩

theorem env_globs (he : Env C W L μ tm a) : Globs C W L := he.glob

theorem compOpM_spine {ops : Array Oper} {o : Oper} {k : AK} (hc : compOpM P ops o = some k) (hk : ∀ m t x, k ≠ .nilckM m t x) : compOp P o = some k := by
  unfold compOpM at hc
  split at hc
  · split at hc
    · cases hc; exact absurd rfl (hk _ _ _)
    · exact hc
  · exact hc

theorem semAt_nodefer {F : Fence} {o : Oper} (ho : ∀ c, o.op ≠ .defer c) : o.semAt F.round a.eval = execOp a.eval o := Oper.semAt_eq _ _ _ ho

/-- A floating operation, run. -/
theorem float_run {ops : Array Oper} {o : Oper} {k : AK} (hc : compOpM P ops o = some k) (hs : Sim P W L μ H) (he : Env C W L μ tm a) {v : AV} {ft : List Nat} (hx : xval H (val C tm) k = some (v, ft)) :
    ∃ z, (execOp a.eval o).run P W = .ok (.value z) W ∧ VR W L μ v z := by
  unfold compOpM at hc
  split at hc
  · rename_i t ho
    split at hc
    · rename_i m hm
      cases hc
      exact nilckM_ok ho hs he rfl hx
    · exact xval_op hc hs he hx
  · exact xval_op hc hs he hx

theorem new_run {ops : Array Oper} {o : Oper} {k : AK} (hc : compOpM P ops o = some k) (he : Env C W L μ tm a) {blk : AB} {mk : Nat → AV} (hx : xnew (val C tm) k = some (blk, mk)) :
    ∃ obj x, (execOp a.eval o).run P W = .ok (.value x) (W.alloc obj) ∧ BR P W L μ blk obj ∧ Names mk W.heap.size obj x := by
  refine xnew_ok (compOpM_spine hc ?_) he hx
  rintro m t x rfl
  simp [xnew] at hx

/-- A compiled operation that defers is one that the model defers. -/
theorem comp_defer {o : Oper} {k : AK} (hc : compOp P o = some k) : (∃ c f args f' args', o.op = .defer c ∧ c.callee = .value f ∧ opnd f = some f' ∧ opndL c.args.toList = some args' ∧ k = .defer f' args' ∧ args = c.args) ∨ ((∀ c, o.op ≠ .defer c) ∧ ∀ f args, k ≠ .defer f args) := by
  cases ho : o.op
  case defer c =>
    unfold compOp at hc
    rw [ho] at hc
    simp only at hc
    split at hc
    · rename_i f hf
      split at hc <;> cases hc
      rename_i f' args' h1 h2
      exact .inl ⟨c, f, c.args, f', args', rfl, hf, h1, h2, rfl, rfl⟩
    · cases hc
  all_goals
    right
    refine ⟨fun c => (by simp), ?_⟩
    rintro f args rfl
    unfold compOp at hc
    rw [ho] at hc
    simp only at hc
  case call c =>
    split at hc
    · split at hc <;> cases hc
    · split at hc <;> cases hc
    · split at hc <;> (try (split at hc)) <;> (try (split at hc)) <;> first | (cases hc; done) | (simp at hc; done)
  all_goals (revert hc; (repeat' split) <;> intro hc <;> first | contradiction | (cases hc; done) | (simp at hc; done))

/-- What an operation of the spine comes to in the model. -/
theorem spine_run {ops : Array Oper} {o : Oper} {k : AK} {call : CallF} (hcall : CallOk P C call) (hc : compOpM P ops o = some k) (h : Hp P E tc W L μ H) (he : Env C W L μ tm a) {x : CRes} {H' : List AB} {tc' : List Nat}
    (hx : spine call (val C tm) H k = some (x, H', tc')) {F : Fence} (hF : Wide (P := P) F) {K : Act → World → Prop} {Q : Exit → Act → World → Prop}
    (hK : ∀ v w W' L' μ', x = .ret v → VR W' L' μ' v w → Hp P E (tc'.filter (· < E.pin) ++ tc) W' L' μ' H' → Later L L' W W' → Ext μ μ' → (∀ b, L b → L' b) → Stays H.length μ μ' → K (a.put o.dst w) W')
    (hQ : ∀ v w W' L' μ', x = .pan v → VR W' L' μ' v w → Hp P E (tc'.filter (· < E.pin) ++ tc) W' L' μ' H' → Later L L' W W' → Ext μ μ' → (∀ b, L b → L' b) → Stays H.length μ μ' → Q (.panic (one w)) a W') :
    o.wpIn F 0 P a W K Q := by
  have hc' : compOp P o = some k := compOpM_spine hc (by rintro m t y rfl; simp [spine, xeff] at hx)
  have hnd : ∀ c, o.op ≠ .defer c := by
    rcases comp_defer hc' with ⟨c, f, args, f', args', _, _, _, _, rfl, _⟩ | h'
    · simp [spine] at hx
    · exact h'.1
  have hgo : ∀ {rf : Value} {rargs : Array Value} {W0 : World}, GoesTo P rf rargs W (CPost P E tc W L μ H.length x H' tc') → (execOp a.eval o).run P W = (do let d ← Deferred.ofValue rf rargs; invoke d.target d.args : Sem Next).run P W → o.wpIn F 0 P a W K Q := by
    intro rf rargs _ hg hrun
    refine ⟨fun f _ => hF.fn f, ?_⟩
    rw [semAt_nodefer hnd, hrun]
    obtain ⟨r, W1, h1, h2⟩ := hg
    rw [h1]
    have hend : ∀ e W'', CPost P E tc W L μ H.length x H' tc' e W'' → (match e with
        | .returned v => K (a.put o.dst v) W''
        | .panicked chain => Q (.panic chain) a W''
        | .outgrown => LetsOut Q) := by
      rintro e W'' ⟨L', μ', c1, c2, c3, c4, c5, c6⟩
      cases e with
      | returned w =>
        cases x with
        | ret v => exact hK v w W'' L' μ' rfl c1 c2 c3 c4 c5 c6
        | pan v => exact c1.elim
      | panicked chain =>
        cases x with
        | ret v => exact c1.elim
        | pan v => obtain ⟨w, rfl, hv⟩ := c1; exact hQ v w W'' L' μ' rfl hv c2 c3 c4 c5 c6
      | outgrown => cases x <;> exact c1.elim
    cases r <;> simp only [Oper.uponIn] <;> simp only at h2 <;> try contradiction
    case value v => exact hend _ _ h2
    case enter f args => exact ⟨fun hd => by simp [hF.depth] at hd, (callsIn_wideF hF h2).mono fun e w he => by have := hend e w he; cases e <;> exact this⟩
    case round l f tmps assign body => exact ⟨fun hd => by simp [hF.depth] at hd, (roundIn_wideF hF h2).mono fun e w he => by have := hend e w he; cases e <;> exact this⟩
  have hcall' : (∃ f args, k = .call f args) ∨ (∃ y tbl args, k = .invoke y tbl args) ∨ (∃ y, k = .panic y) ∨ ∃ r, xeff H (val C tm) k = some r ∧ x = .ret r.v ∧ H' = r.hp ∧ tc' = r.tc := by
    unfold spine at hx
    split at hx
    · exact .inr (.inr (.inl ⟨_, rfl⟩))
    · cases hx
    · exact .inl ⟨_, _, rfl⟩
    · exact .inr (.inl ⟨_, _, _, rfl⟩)
    · obtain ⟨r, hr, e⟩ := Option.map_eq_some_iff.1 hx
      cases e; exact .inr (.inr (.inr ⟨r, hr, rfl, rfl, rfl⟩))
  rcases hcall' with ⟨f, args, rfl⟩ | ⟨y, tbl, args, rfl⟩ | ⟨y, rfl⟩ | ⟨r, hr, rfl, rfl, rfl⟩
  · -- a call of a value
    simp only [spine] at hx
    cases ho : o.op <;> unfold compOp at hc' <;> rw [ho] at hc' <;> simp only at hc'
    case call c =>
      split at hc'
      · rename_i g hg
        split at hc' <;> cases hc'
        rename_i f' args' h1 h2
        exact hgo (W0 := W) (hcall.sound hx h he.glob (opnd_ok he h1) (rargs := c.args.map a.eval) (by rw [Array.toList_map]; exact opndL_ok he h2)) (by simp [execOp, ho, resolve, hg])
      · split at hc' <;> cases hc'
      · exfalso; revert hc'; (repeat' split) <;> intro hc' <;> first | contradiction | (cases hc'; done) | (simp at hc'; done)
    all_goals (exfalso; revert hc'; (repeat' split) <;> intro hc' <;> first | contradiction | (cases hc'; done) | (simp at hc'; done))
  · -- a call of a method
    simp only [spine] at hx
    split at hx
    · rename_i t v hy
      split at hx
      · rename_i g hl
        cases ho : o.op <;> unfold compOp at hc' <;> rw [ho] at hc' <;> simp only at hc'
        case call c =>
          split at hc'
          · split at hc' <;> cases hc'
          · rename_i recv name hg
            split at hc' <;> cases hc'
            rename_i y' args' h1 h2
            have e1 := opnd_ok he h1
            rw [hy] at e1
            obtain ⟨w, e2, e3⟩ := vr_iface e1
            have hm := methodTbl_mem (mem_of_lookup hl)
            have hs := hcall.sound hx h he.glob (rf := .func (.func g) #[] #[]) (rargs := #[w] ++ c.args.map a.eval) (.fn (rf := []) (rc := []) (by intro l; simp) rfl (by intro i x r h; simp at h) rfl (by intro i x r h; simp at h))
              (by
                have : (#[w] ++ c.args.map a.eval).toList = w :: (c.args.toList.map a.eval) := by simp
                rw [this]
                exact VL.cons e3 (opndL_ok he h2))
            refine hgo (W0 := W) hs ?_
            have hfu : P.types.size + Made.depth = (P.types.size + 99) + 1 := rfl
            have hgt : (#[Value.iface t w] ++ c.args.map a.eval)[0]? = some (Value.iface t w) := by
              rw [Array.getElem?_append_left (by simp)]; rfl
            have hex : (c.args.map a.eval).extract 0 c.args.size = c.args.map a.eval := Array.ext' (by simp; exact List.take_of_length_le (by simp))
            simp [execOp, ho, resolve, hg, invoke, e2, Deferred.ofValue]
            rw [hgt]
            simp [callMethod, hfu, (methodOf_ok (W := W) hm w (P.types.size + 99)).1, hex]
          · exfalso; revert hc'; (repeat' split) <;> intro hc' <;> first | contradiction | (cases hc'; done) | (simp at hc'; done)
        all_goals (exfalso; revert hc'; (repeat' split) <;> intro hc' <;> first | contradiction | (cases hc'; done) | (simp at hc'; done))
      · cases hx
    · cases hx
  · -- a panic
    simp only [spine] at hx
    split at hx <;> cases hx
    rename_i t v hy
    cases ho : o.op <;> unfold compOp at hc' <;> rw [ho] at hc' <;> simp only at hc'
    case panic z =>
      cases h1 : opnd z <;> rw [h1] at hc' <;> cases hc'
      have e1 := opnd_ok he h1
      rw [hy] at e1
      have e1' := e1
      obtain ⟨w, e2, e3⟩ := vr_iface e1
      refine ⟨fun f _ => hF.fn f, ?_⟩
      rw [semAt_nodefer hnd]
      have : (execOp a.eval o).run P W = .halt (.panic (a.eval z)) W := by simp [execOp, ho, e2, Instr.panic, goPanic]
      rw [this]
      exact hQ _ _ _ _ _ rfl e1' (h.more fun i hi => List.mem_append_right _ hi) (Later.refl _ _) (Ext.refl _) (fun _ hb => hb) (fun _ _ h => h)
    all_goals (exfalso; revert hc'; (repeat' split) <;> intro hc' <;> first | contradiction | (cases hc'; done) | (simp at hc'; done))
  · -- what writes
    obtain ⟨nx, w, W', L', μ', p1, p2, p3, p4, p5, p6, p7, p8⟩ := xeff_op hc' h he hr
    refine ⟨fun f _ => hF.fn f, ?_⟩
    rw [semAt_nodefer hnd, p1]
    rcases p2 with rfl | ⟨rfl, rfl⟩
    · exact hK _ _ _ _ _ rfl p3 p4 p5 p6 p7 p8
    · exact hK _ _ _ _ _ rfl p3 p4 p5 p6 p7 p8
end
end Ev
end Go.Proofs.YtcaejedfjobooaaGreat
