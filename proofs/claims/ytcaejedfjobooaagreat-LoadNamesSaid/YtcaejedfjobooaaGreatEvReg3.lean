/- Regions gone through in the order of the text. -/
import Derived.Test.YtcaejedfjobooaaGreatEvReg2
namespace Go.Proofs.YtcaejedfjobooaaGreat
open Go Go.RowKit
namespace Ev
section
variable {P : Program} {E : Ent} {W W' : World} {L L' : Nat → Prop} {μ μ' : Mu} {C : Cfg} {tc : List Nat} {H : List AB} {tm : List AV} {a : Act}

/-- Deferred calls. -/
inductive DR1 (W : World) (L : Nat → Prop) (μ : Mu) : ADef → Deferred → Prop
  | call {f : Nat} {args : List AV} {rargs cap : Array Value} : VL W L μ args (rargs.toList ++ cap.toList) → DR1 W L μ (.call f args) { target := .fn (.func f) cap, args := rargs }
  | mark {d D : Nat} {args : Array Value} : (μ d = .at D ∨ μ d = .dead) → DR1 W L μ (.mark d) { target := .collected D, args := args }
inductive DR (W : World) (L : Nat → Prop) (μ : Mu) : List ADef → List Deferred → Prop
  | nil : DR W L μ [] []
  | cons {d : ADef} {r : Deferred} {ds : List ADef} {rs : List Deferred} : DR1 W L μ d r → DR W L μ ds rs → DR W L μ (d :: ds) (r :: rs)

theorem DR1.mono {d : ADef} {r : Deferred} (h : DR1 W L μ d r) (hl : Later L L' W W') (he : Ext μ μ') : DR1 W' L' μ' d r := by
  cases h with
  | call h => exact .call (h.mono hl he)
  | mark h => exact .mark (he.atd h)
theorem DR.mono {ds : List ADef} {rs : List Deferred} (h : DR W L μ ds rs) (hl : Later L L' W W') (he : Ext μ μ') : DR W' L' μ' ds rs := by
  induction h with
  | nil => exact .nil
  | cons h _ ih => exact .cons (h.mono hl he) ih
theorem Globs.mono (h : Globs C W L) (hl : Later L L' W W') : Globs C W' L' := fun g cs hg => (h g cs hg).mono hl (Ext.refl _)
theorem Env.mono (h : Env C W L μ tm a) (hl : Later L L' W W') (he : Ext μ μ') : Env C W' L' μ' tm a := ⟨h.tmps.mono hl he, Globs.mono (C := C) h.glob hl⟩
theorem Env.put (h : Env C W L μ tm a) {v : AV} {w : Value} (hv : VR W L μ v w) (dst : Option Nat) : Env C W L μ (putT tm dst v) (a.put dst w) := by
  refine ⟨?_, h.glob⟩
  cases dst with
  | none => exact h.tmps
  | some d =>
    simp only [putT, Act.put]
    rw [Array.toList_setIfInBounds]
    exact h.tmps.set d hv
theorem put_defers (a : Act) (dst : Option Nat) (w : Value) : (a.put dst w).defers = a.defers := by cases dst <;> rfl

/-- Where the evaluator and the model stand in a function's code; a value beside. -/
def SRx (P : Program) (C : Cfg) (E : Ent) (st : St) (v : AV) (w : Value) (a : Act) (W : World) : Prop :=
  ∃ L μ, Hp P E st.tc W L μ st.hp ∧ Env C W L μ st.tm a ∧ DR W L μ st.df a.defers ∧ VR W L μ v w
def SR (P : Program) (C : Cfg) (E : Ent) (st : St) (a : Act) (W : World) : Prop :=
  ∃ L μ, Hp P E st.tc W L μ st.hp ∧ Env C W L μ st.tm a ∧ DR W L μ st.df a.defers

theorem want_ok {ops : Array Oper} {o : Oper} {g : Option (Nat × Bool)} (hg : compGuard ops o = some g) (he : Env C W L μ tm a) {b : Bool} (hb : wantG (val C tm) g = some b) : Region.wanted o (yielded ops a.tmps) = b := by
  unfold compGuard at hg
  unfold Region.wanted
  split at hg
  · rename_i h0; cases hg; rw [h0]; simpa [wantG] using hb
  · rename_i j want h0
    split at hg <;> cases hg
    rename_i t ht
    rw [h0]
    simp only [wantG] at hb
    split at hb <;> cases hb
    rename_i b' hv
    simp only [val] at hv
    cases htm : tm[t]? with
    | none => rw [List.getD_eq_getElem?_getD, htm] at hv; cases hv
    | some v =>
      rw [List.getD_eq_getElem?_getD, htm] at hv
      simp at hv; subst hv
      obtain ⟨r, hr, hvr⟩ := he.tmps.get htm
      rw [Array.getElem?_toList] at hr
      have hrb : r = .bool b' := vr_bool hvr
      have : yielded ops a.tmps j = some b' := by
        unfold yielded
        rw [ht]
        simp only [Option.bind_some]
        rw [hr, hrb]
      simp only [this]
      cases b' <;> cases want <;> rfl

theorem compAt_ok {ops : Array Oper} {b : Array Nat} {i : Nat} {o' : AOp} (h : compAt P ops b i = some o') :
    ∃ o, ops[i]? = some o ∧ compOpM P ops o = some o'.op ∧ compGuard ops o = some o'.guard ∧ o'.dst = o.dst ∧ o'.ix = i ∧ o'.deps = b.getD i 0 := by
  unfold compAt at h
  split at h
  · cases h
  · rename_i o ho
    split at h <;> cases h
    rename_i k g h1 h2
    exact ⟨o, ho, h1, h2, rfl, rfl, rfl⟩

/-- A floating operation, as one step. -/
theorem float_wp {ops : Array Oper} {o : Oper} {k : AK} (hc : compOpM P ops o = some k) (h : Hp P E tc W L μ H) (he : Env C W L μ tm a) {v : AV} {ft : List Nat} (hx : xval H (val C tm) k = some (v, ft))
    {F : Fence} (hF : Wide (P := P) F) (hnd : ∀ c, o.op ≠ .defer c) {K : Act → World → Prop} {Q : Exit → Act → World → Prop} (hK : ∀ w, VR W L μ v w → K (a.put o.dst w) W) : o.wpIn F 0 P a W K Q := by
  obtain ⟨z, h1, h2⟩ := float_run hc h.sim he hx
  refine ⟨fun f _ => hF.fn f, ?_⟩
  rw [semAt_nodefer hnd, h1]
  exact hK z h2

theorem new_wp {ops : Array Oper} {o : Oper} {k : AK} (hc : compOpM P ops o = some k) (h : Hp P E tc W L μ H) (he : Env C W L μ tm a) {blk : AB} {mk : Nat → AV} (hx : xnew (val C tm) k = some (blk, mk))
    {j : Nat} (hj : H[j]? = some blk) (hno : μ j = .no) (hpin : E.pin ≤ j)
    {F : Fence} (hF : Wide (P := P) F) (hnd : ∀ c, o.op ≠ .defer c) {K : Act → World → Prop} {Q : Exit → Act → World → Prop}
    (hK : ∀ w W', let μ' := updM μ j (.at W.heap.size); let L' := fun b => L b ∨ b = W.heap.size
      VR W' L' μ' (mk j) w → Hp P E tc W' L' μ' H → Later L L' W W' → Ext μ μ' → K (a.put o.dst w) W') : o.wpIn F 0 P a W K Q := by
  obtain ⟨obj, x, h1, h2, h3⟩ := new_run hc he hx
  obtain ⟨m1, m2, m3⟩ := h.mat hj hno hpin h2
  refine ⟨fun f _ => hF.fn f, ?_⟩
  rw [semAt_nodefer hnd, h1]
  exact hK x _ (h3 _ _ _ _ (updM_same ..) (World.alloc_heap_new _ _)) m1 m2 m3

theorem compOpM_nodefer {ops : Array Oper} {o : Oper} {k : AK} (hc : compOpM P ops o = some k) (hk : ∀ f args, k ≠ .defer f args) : ∀ c, o.op ≠ .defer c := by
  intro c ho
  have hc' : compOp P o = some k := by unfold compOpM at hc; rw [ho] at hc; exact hc
  rcases comp_defer hc' with ⟨_, _, _, f', args', _, _, _, _, rfl, _⟩ | h'
  · exact hk _ _ rfl
  · exact h'.1 c ho

/-- One operation of a region, in the order of the text. -/
theorem ev1_wp {ops : Array Oper} {o : Oper} {o' : AOp} {call : CallF} (hcall : CallOk P C call) (hc : compOpM P ops o = some o'.op) (hg : compGuard ops o = some o'.guard) (hd : o'.dst = o.dst)
    {F : Fence} (hF : Wide (P := P) F) {nod : Bool} (hnod : nod = false → F.round = none) {fl : List (Nat × List Nat)} {st : St} {r : O1} (hx : ev1 C call E.pin nod false fl o' st = some r) (hs : SR P C E st a W)
    {K : Act → World → Prop} {Q : Exit → Act → World → Prop} (hK : ∀ ft st' a' W', r = .next ft st' → SR P C E st' a' W' → K a' W') (hQ : ∀ v st' w a' W', r = .pan v st' → SRx P C E st' v w a' W' → Q (.panic (one w)) a' W') :
    if Region.wanted o (yielded ops a.tmps) then o.wpIn F 0 P a W K Q else (∀ f, o.about P W a.eval = some f → F.fn f) ∧ K (a.put o.dst undef) W := by
  obtain ⟨L, μ, h1, h2, h3⟩ := hs
  unfold ev1 at hx
  split at hx
  · cases hx
  · rename_i hw
    rw [want_ok hg h2 hw]
    cases hx
    exact ⟨fun f _ => hF.fn f, hK _ _ _ _ rfl ⟨L, μ, h1, by rw [hd]; exact h2.put .unk _, by rw [put_defers]; exact h3⟩⟩
  · rename_i hw
    rw [want_ok hg h2 hw]
    simp only [if_true]
    split at hx
    · -- a deferred call
      rename_i f args ho
      rw [ho] at hc
      split at hx
      · rename_i g cap hv
        cases nod
        · simp only [Bool.or_self, cond_false] at hx
          cases hx
          have hc' : compOp P o = some (.defer f args) := compOpM_spine hc (by simp)
          rcases comp_defer hc' with ⟨c, f0, args0, f', args', ho', hcal, e1, e2, e3, rfl⟩ | h'
          · cases e3
            have v1 := opnd_ok h2 e1
            have v2 := opndL_ok h2 e2
            rw [hv] at v1
            obtain ⟨rf, rc, q1, _, q3, q4⟩ := vr_fn v1
            have hrf : rf = [] := List.eq_nil_of_length_eq_zero (by have := q3.1; simpa using this.symm)
            subst hrf
            refine ⟨fun f _ => hF.fn f, ?_⟩
            have hrun : (o.semAt F.round a.eval).run P W = .ok (.defer { target := .fn (.func g) rc.toArray, args := c.args.map a.eval }) W := by
              rw [hnod rfl, Oper.semAt_none]
              simp [execOp, ho', resolve, hcal, q1, Deferred.ofValue]
            rw [hrun]
            refine hK _ _ _ _ rfl ⟨L, μ, h1, by rw [hd]; exact Env.put (a := { a with defers := _ :: a.defers }) ⟨h2.tmps, h2.glob⟩ .unk _, ?_⟩
            rw [put_defers]
            refine .cons (.call ?_) h3
            simp only [Array.toList_map]
            exact v2.append q4
          · exact absurd rfl (h'.2 _ _)
        · simp at hx
      · cases hx
    · rename_i k hk
      have hnd := compOpM_nodefer hc (by intro f args; exact hk f args)
      rw [Bool.cond_eq_ite] at hx
      split at hx
      · split at hx
        · rename_i v hp tc' hsp
          simp at hx
          subst hx
          refine spine_run hcall hc h1 h2 hsp hF (fun v' w W' L' μ' e c1 c2 c3 c4 c5 c6 => ?_) (fun _ _ _ _ _ e => by cases e)
          cases e
          exact hK _ _ _ _ rfl ⟨L', μ', c2, by rw [hd]; exact (h2.mono c3 c4).put c1 _, by rw [put_defers]; exact h3.mono c3 c4⟩
        · rename_i v hp tc' hsp
          simp at hx
          subst hx
          refine spine_run hcall hc h1 h2 hsp hF (fun _ _ _ _ _ e => by cases e) (fun v' w W' L' μ' e c1 c2 c3 c4 c5 c6 => ?_)
          cases e
          exact hQ _ _ _ _ _ rfl ⟨L', μ', c2, h2.mono c3 c4, h3.mono c3 c4, c1⟩
        · cases hx
      · split at hx
        · rename_i v hp ft hfl
          cases hx
          rcases float_hp hfl with ⟨blk, mk, n1, rfl, rfl, rfl⟩ | ⟨n1, rfl, n3, _⟩
          · refine new_wp hc (h1.push [blk]) h2 n1 (j := st.hp.length) (by simp) (h1.sim.out _ (Nat.le_refl _)) h1.len hF hnd (fun w W' c1 c2 c3 c4 => ?_)
            exact hK _ _ _ _ rfl ⟨_, _, c2, by rw [hd]; exact (h2.mono c3 c4).put c1 _, by rw [put_defers]; exact h3.mono c3 c4⟩
          · refine float_wp hc h1 h2 n3 hF hnd (fun w c1 => ?_)
            exact hK _ _ _ _ rfl ⟨L, μ, h1, by rw [hd]; exact h2.put c1 _, by rw [put_defers]; exact h3⟩
        · cases hx

/-- A region in the order of the text. -/
theorem evOps_wp {ops : Array Oper} {b : Array Nat} {call : CallF} (hcall : CallOk P C call) {F : Fence} (hF : Wide (P := P) F) {nod : Bool} (hnod : nod = false → F.round = none) {Q : Exit → Act → World → Prop} :
    ∀ {is : List Nat} {l : List AOp} {fl : List (Nat × List Nat)} {st st' : St} {r : Option AV} {a : Act} {W : World}, compOps P ops b is = some l → evOps C call E.pin nod false l fl st = some (r, st') → SR P C E st a W →
    (∀ a' W', r = none → SR P C E st' a' W' → Q .normal a' W') → (∀ v w a' W', r = some v → SRx P C E st' v w a' W' → Q (.panic (one w)) a' W') → wpOpsIn F 0 P ops Q is a W
  | [], l, fl, st, st', r, a, W, hl, hx, hs, h1, h2 => by
    cases hl
    cases hx
    exact h1 _ _ rfl hs
  | i :: is, l, fl, st, st', r, a, W, hl, hx, hs, h1, h2 => by
    unfold compOps at hl
    split at hl <;> cases hl
    rename_i o' os e1 e2
    obtain ⟨o, ho, c1, c2, c3, c4, c5⟩ := compAt_ok e1
    unfold evOps at hx
    unfold wpOpsIn
    rw [ho]
    simp only
    split at hx
    · rename_i ft st1 hr
      exact ev1_wp hcall c1 c2 c3 hF hnod hr hs (fun ft' st2 a' W' e hs' => by cases e; exact evOps_wp hcall hF hnod e2 hx hs' h1 h2) (fun _ _ _ _ _ e => by cases e)
    · rename_i v st1 hr
      cases hx
      exact ev1_wp hcall c1 c2 c3 hF hnod hr hs (fun _ _ _ _ e => by cases e) (fun v' st2 w a' W' e hs' => by cases e; exact h2 _ _ _ _ rfl hs')
    · cases hx
end
end Ev
end Go.Proofs.YtcaejedfjobooaaGreat
