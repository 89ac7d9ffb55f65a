/- A function's end: its deferred calls, its result. -/
import Derived.Test.YtcaejedfjobooaaGreatEvCode
import Derived.RangeFuncLeaves
namespace Go.Proofs.YtcaejedfjobooaaGreat
open Go Go.RowKit
namespace Ev

/-- What a deferred function is told to do. -/
structure DfOk (P : Program) (f t : Nat) (ag : Bool) : Prop where
  go : ∃ F, P.funcs[f]? = some F ∧ (F.name == "runtime.NumGoroutine") = false ∧ F.body.isNone = false
  idle : ∀ (x : Value) (W : World), CallsDIn Fence.wide 0 P f #[x] .returning W fun e u' W' => (∃ v, e = .returned v) ∧ u' = .returning ∧ Below W.heap.size W W'
  pan : ∀ (B off : Nat) (y x : Value) (k : IntKind) (n : Int) (W : World), W.cell? ⟨B, off, none⟩ = some y → W.frozen? ⟨B, off, none⟩ = false → x = (if ag then .agg #[.int k n] else .int k n) →
    CallsDIn Fence.wide 0 P f #[.pointer (some ⟨B, off, none⟩)] (.panicking [{ v := .iface t x, recovered := false }]) W fun e u' W' =>
      (∃ v, e = .returned v) ∧ u' = .panicking [{ v := .iface t x, recovered := true }] ∧ Below W.heap.size (W.setCell ⟨B, off, none⟩ (.int k n)) W'

theorem callFunc_enter {P : Program} {f : Nat} {F : Func} (h : P.funcs[f]? = some F) (hn : (F.name == "runtime.NumGoroutine") = false) (hb : F.body.isNone = false) (args : Array Value) (W : World) :
    (callFunc f args).run P W = .ok (.enter f args) W := by
  unfold callFunc
  have hp : (program : Sem Program).run P W = .ok P W := rfl
  simp only [Sem.run_bind, hp, Result.andThen, h]
  rw [if_neg (by rw [hn]; simp), if_neg (by rw [hb]; simp)]
  rfl

section
variable {P : Program} {E : Ent} {W W' : World} {L : Nat → Prop} {μ : Mu} {C : Cfg} {tc : List Nat} {H : List AB} {tm : List AV}

theorem setCell_upd {B off : Nat} {rs : Array Value} {t : TypeId} {fz : Nat × Nat} (c : Value) (h : W.heap[B]? = some (.cells rs t fz)) : Upd B (.cells (rs.setIfInBounds off c) t fz) W (W.setCell ⟨B, off, none⟩ c) := by
  have hlt : B < W.heap.size := (Array.getElem?_eq_some_iff.1 h).1
  refine ⟨by simp [World.setCell], ?_, fun b hb => ?_, rfl, rfl, rfl⟩
  · simp only [World.setCell, Array.getElem?_modify, if_true]
    rw [h]; rfl
  · simp only [World.setCell, Array.getElem?_modify]
    rw [if_neg (fun h => hb h.symm)]

theorem setAt_one (cs : List AV) (off : Nat) (v : AV) (h : off < cs.length) : setAt cs off [v] = cs.set off v := by
  unfold setAt
  rw [List.set_eq_take_append_cons_drop, if_pos h]; simp

/-- One cell of a block is written. -/
theorem Hp.setCell (h : Hp P E tc W L μ H) {b B off : Nat} {cs : List AV} (hb : H[b]? = some (.cells cs)) (hm : μ b = .at B) (ho : off < cs.length) {v : AV} {c : Value} (hv : VR W L μ v c) :
    (∃ y, W.cell? ⟨B, off, none⟩ = some y) ∧ W.frozen? ⟨B, off, none⟩ = false ∧ Hp P E ([b].filter (· < E.pin) ++ tc) (W.setCell ⟨B, off, none⟩ c) L μ (H.set b (.cells (setAt cs off [v]))) ∧ Later L L W (W.setCell ⟨B, off, none⟩ c) := by
  obtain ⟨hB, hlt, blk, o, e1, e2, e3⟩ := h.sim.live b B hm
  rw [hb] at e1; cases e1
  obtain ⟨rs, t, rfl⟩ : ∃ rs t, o = .cells rs t (0, 0) := by cases e3 with | @cells _ rs t _ _ => exact ⟨rs, t, rfl⟩
  have hsz : cs.length ≤ rs.size := by cases e3 with | cells h1 _ => exact h1
  have hel : ∀ (i : Nat) (x : AV) (r : Value), cs[i]? = some x → rs[i]? = some r → VR W L μ x r := by cases e3 with | cells _ h2 => exact h2
  refine ⟨⟨rs[off], by simp [World.cell?, e2]⟩, by simp [World.frozen?, e2], ?_⟩
  refine h.put hm e2 (setCell_upd c e2) (fun rs' t' f hc => by cases hc; exact ⟨_, rfl, by simp⟩) ?_
  rw [setAt_one _ _ _ ho]
  refine .cells (by simpa using hsz) fun i x r hx hr => ?_
  by_cases hi : off = i
  · subst hi
    rw [List.getElem?_set_self (by omega)] at hx
    rw [Array.getElem?_setIfInBounds_self_of_lt (by omega)] at hr
    cases hx; cases hr; exact hv
  · rw [List.getElem?_set_ne hi] at hx
    rw [Array.getElem?_setIfInBounds_ne hi] at hr
    exact hel i x r hx hr

/-- How a frame on its way out stands, and the panic on its way. -/
def PM (W : World) (L : Nat → Prop) (μ : Mu) : Option AV → FrameMode → Prop
  | none, u => u = .returning
  | some v, u => ∃ w, u = .panicking (one w) ∧ VR W L μ v w

def Out (P : Program) (C : Cfg) (E : Ent) (tmps : Array Value) (st : St) (p : Option AV) (u : FrameMode) (W : World) : Prop :=
  ∃ L μ, Hp P E st.tc W L μ st.hp ∧ VL W L μ st.tm tmps.toList ∧ Globs C W L ∧ PM W L μ p u

theorem PM.mono {L' : Nat → Prop} {μ' : Mu} {p : Option AV} {u : FrameMode} (h : PM W L μ p u) (hl : Later L L' W W') (he : Ext μ μ') : PM W' L' μ' p u := by
  cases p with
  | none => exact h
  | some v => obtain ⟨w, h1, h2⟩ := h; exact ⟨w, h1, h2.mono hl he⟩
theorem PM.norun {p : Option AV} {u : FrameMode} (h : PM W L μ p u) : u ≠ .run := by
  cases p with
  | none => cases h; simp
  | some v => obtain ⟨w, rfl, _⟩ := h; simp

theorem codeOf_ok {ag : Bool} {v c : AV} {x : Value} (h : codeOf ag v = some c) (hv : VR W L μ v x) : ∃ k n, c = .int k n ∧ x = (if ag then .agg #[.int k n] else .int k n) := by
  unfold codeOf at h
  split at h <;> cases h
  · exact ⟨_, _, rfl, vr_int hv⟩
  · obtain ⟨rs, rfl, h2⟩ := vr_agg hv
    have hl := h2.1
    match rs, hl with
    | [r], _ => exact ⟨_, _, rfl, by have := vr_int h2.head; subst this; rfl⟩


/-- Later, where what lay below lies as it lay. -/
theorem Hp.below (h : Hp P E tc W L μ H) (hb : Below W.heap.size W W') : Hp P E tc W' L μ H ∧ Later L L W W' := by
  have hl : Later L L W W' := ⟨hb.size, fun b hlt _ => hb.block b hlt, fun b rs t f e => ⟨rs, (hb.block b (Array.getElem?_eq_some_iff.1 e).1).trans e, rfl⟩, fun _ h => .inl h⟩
  refine ⟨{ h with
    sim := { h.sim with
      live := fun i B hm => by
        obtain ⟨g1, g2, blk, o, g3, g4, g5⟩ := h.sim.live i B hm
        exact ⟨g1, Nat.lt_of_lt_of_le g2 hb.size, blk, o, g3, (hb.block B g2).trans g4, g5.mono hl (Ext.refl _)⟩
      lt := fun b hL => Nat.lt_of_lt_of_le (h.sim.lt b hL) hb.size }
    same := fun b hlt hn => (hb.block b (Nat.lt_of_lt_of_le hlt h.size)).trans (h.same b hlt hn)
    size := Nat.le_trans h.size hb.size
    shape := fun b rs t f e => by
      obtain ⟨rs', e1, e2⟩ := h.shape b rs t f e
      exact ⟨rs', (hb.block b (Array.getElem?_eq_some_iff.1 e1).1).trans e1, e2⟩
    env := ⟨hb.os.trans h.env.1, hb.tape.trans h.env.2.1, hb.output.trans h.env.2.2⟩ }, hl⟩

theorem runDefs_ok (ht : ∀ f t ag, C.dfk f = some (t, ag) → DfOk P f t ag) {F : Func} {tmps : Array Value} {R : Ending → World → Prop} : ∀ (ds : List ADef) (rs : List Deferred) (p : Option AV) (st st' : St) (r : Option AV) (u : FrameMode) (W : World) (L : Nat → Prop) (μ : Mu),
    runDefs C E.pin ds p st = some (r, st') → Hp P E st.tc W L μ st.hp → VL W L μ st.tm tmps.toList → Globs C W L → DR W L μ ds rs → PM W L μ p u →
    (∀ u' W', Out P C E tmps st' r u' W' → LeavesInM Fence.wide 0 P F tmps R [] u' W') → LeavesInM Fence.wide 0 P F tmps R rs u W := by
  intro ds
  induction ds with
  | nil =>
    intro rs p st st' r u W L μ hx hp hv hg hd hm hk
    cases hd
    simp only [runDefs] at hx
    cases hx
    exact hk u W ⟨L, μ, hp, hv, hg, hm⟩
  | cons d ds ih =>
    intro rs p st st' r u W L μ hx hp hv hg hd hm hk
    cases hd with
    | @cons _ rd _ rs h1 h2 =>
    refine ⟨hm.norun, ?_⟩
    cases h1 with
    | @mark d D args h1 =>
      left
      simp only [runDefs] at hx
      split at hx
      · rename_i hdf
        have hat : μ d = .at D := by
          rcases h1 with h1 | h1
          · exact h1
          · cases hp.sim.dead _ _ h1 hdf
        obtain ⟨hB, hlt, blk, o, e1, e2, e3⟩ := hp.sim.live d D hat
        rw [hdf] at e1; cases e1
        cases e3
        have htd := run_takeDeferred (P := P) e2
        obtain ⟨hs1, hs2⟩ := setObj_upd (P := P) (o' := .deferred none) e2 (by intro c t f; simp)
        obtain ⟨q1, q2⟩ := hp.put (blk := .dead) hat e2 hs2 (fun rs t f hc => by cases hc) .dead
        obtain ⟨q3, q4⟩ := q1.kill d (by rw [List.length_set]; exact (List.getElem?_eq_some_iff.1 hdf).1) (by rw [hat]; simp)
        refine ⟨D, _, rfl, htd, ?_⟩
        refine ih _ _ _ _ _ _ _ L (updM μ d .dead) hx ?_ (hv.mono q2 q4) (Globs.mono hg q2) (h2.mono q2 q4) (hm.mono q2 q4) hk
        have : (st.hp.set d .dead).set d .dead = st.hp.set d .dead := by simp
        rw [this] at q3
        exact q3.more (by simp only [List.mem_append]; rintro i (h | h | h) <;> simp [h])
      · cases hx
    | @call f args rargs cap h1 =>
      right
      refine ⟨fun h => by simp [Fence.wide] at h, ?_⟩
      simp only [runDefs] at hx
      split at hx
      · rename_i t ag b off hdf
        have hdok := ht _ _ _ hdf
        obtain ⟨G, g1, g2, g3⟩ := hdok.go
        have hone : ∃ x, rargs ++ cap = #[x] ∧ VR W L μ (.ptr b off) x := by
          have hl := h1.1
          have : (rargs ++ cap).toList = rargs.toList ++ cap.toList := by simp
          rw [← this] at hl h1
          match hc : (rargs ++ cap).toList, hl with
          | [x], _ =>
            refine ⟨x, Array.ext' (by rw [hc]), ?_⟩
            rw [hc] at h1
            exact h1.head
        obtain ⟨x, hx1, hx2⟩ := hone
        refine ⟨.func f, cap, f, #[x], rfl, ?_, fun _ _ => trivial, ?_⟩
        · simp only [invoke]
          rw [hx1]; exact callFunc_enter g1 g2 g3 _ _
        · split at hx
          · cases hm
            refine (hdok.idle x W).mono ?_
            rintro e u' W' ⟨⟨v, rfl⟩, rfl, hs⟩
            obtain ⟨q1, q2⟩ := hp.below hs
            simp only [settle]
            exact ih _ _ _ _ _ _ _ _ _ hx q1 (hv.mono q2 (Ext.refl _)) (Globs.mono hg q2) (h2.mono q2 (Ext.refl _)) rfl hk
          · rename_i t' v
            obtain ⟨w, rfl, hw⟩ := hm
            obtain ⟨z, rfl, hz⟩ := vr_iface hw
            split at hx
            · rename_i c cs hc hcs
              split at hx
              · rename_i hcond
                obtain ⟨rfl, hoff⟩ := hcond
                obtain ⟨k, n, rfl, rfl⟩ := codeOf_ok hc hz
                obtain ⟨B, hB, rfl, _⟩ := rd_ptr hp.sim hx2 hcs
                obtain ⟨⟨y, hy⟩, hfz, q1, q2⟩ := hp.setCell hcs hB hoff (v := .int k n) (c := .int k n) .int
                refine (hdok.pan B off y _ k n W hy hfz rfl).mono ?_
                rintro e u' W' ⟨⟨v, rfl⟩, rfl, hs⟩
                obtain ⟨q3, q4⟩ := q1.below (by rw [World.size_setCell]; exact hs)
                have q5 := q2.trans (fun _ h => h) q4
                have hst : settle (.panicking [{ v := .iface t' (if ag then .agg #[.int k n] else .int k n), recovered := true }]) = .returning := rfl
                simp only [hst]
                exact ih _ _ _ _ _ _ _ _ _ hx q3 (hv.mono q5 (Ext.refl _)) (Globs.mono hg q5) (h2.mono q5 (Ext.refl _)) rfl hk
              · cases hx
            · cases hx
          · cases hx
      · cases hx

/-- A result, read. -/
def resF (tmps : Array Value) : ResultVar → Sem Value
  | .tmp t => pure (tmps.getD t undef)
  | .cell a t => do loadVar t (← asAddr (tmps.getD a undef))
theorem results_eq (fn : Func) (tmps : Array Value) : results fn tmps = (do let vs ← fn.results.mapM (resF tmps); pure (if h : vs.size = 1 then vs[0] else .tuple vs)) := by
  unfold results
  rfl

theorem resL_ok {st : St} {tmps : Array Value} (hp : Hp P E st.tc W L μ st.hp) (hv : VL W L μ st.tm tmps.toList) : ∀ {l : List ResultVar} {rl : List ARes} {vs : List AV}, compRes P l = some rl → resL st rl = some vs →
    ∃ ws, (l.mapM (resF tmps)).run P W = .ok ws W ∧ VL W L μ vs ws := by
  have hget : ∀ t, VR W L μ (st.tm.getD t .unk) (tmps.getD t undef) := fun t => by
    cases ht : st.tm[t]? with
    | none => rw [List.getD_eq_getElem?_getD, ht]; exact .unk
    | some x =>
      obtain ⟨r, h1, h2⟩ := hv.get ht
      rw [List.getD_eq_getElem?_getD, ht, Array.getD_eq_getD_getElem?, ← Array.getElem?_toList, h1]
      exact h2
  intro l
  induction l with
  | nil =>
    intro rl vs hc hr
    simp only [compRes] at hc; cases hc
    simp only [resL] at hr; cases hr
    exact ⟨[], by simp, VL.nil⟩
  | cons x l ih =>
    intro rl vs hc hr
    cases x with
    | tmp t =>
      simp only [compRes] at hc
      obtain ⟨rl', h1, rfl⟩ := Option.map_eq_some_iff.1 hc
      simp only [resL, resOf] at hr
      split at hr <;> cases hr
      rename_i v vs' e1 e2
      cases e1
      obtain ⟨ws, q1, q2⟩ := ih h1 e2
      refine ⟨tmps.getD t undef :: ws, ?_, VL.cons (hget t) q2⟩
      rw [List.mapM_cons]
      simp only [resF, Sem.run_bind, Sem.run_pure, Result.andThen, q1]
    | cell b t =>
      simp only [compRes] at hc
      split at hc <;> cases hc
      rename_i k rl' hk h1
      simp only [resL] at hr
      split at hr <;> cases hr
      rename_i v vs' e1 e2
      obtain ⟨ws, q1, q2⟩ := ih h1 e2
      simp only [resOf] at e1
      split at e1
      · rename_i pb off hpt
        split at e1
        · rename_i cs hcs
          have hg := hget b
          rw [hpt] at hg
          obtain ⟨B, _, hB, hrd⟩ := rd_ptr hp.sim hg hcs
          obtain ⟨z, z1, z2⟩ := hrd.load hk (pickC_drop e1)
          refine ⟨z :: ws, ?_, VL.cons z2 q2⟩
          have ha : (asAddr (tmps.getD b undef)).run P W = .ok ⟨B, off, none⟩ W := by rw [hB]; rfl
          have hr : (resF tmps (.cell b t)).run P W = .ok z W := by
            simp only [resF, Sem.run_bind, ha, Result.andThen, z1]
          rw [List.mapM_cons]
          simp only [Sem.run_bind, Sem.run_pure, Result.andThen, q1, hr]
        · cases e1
      · cases e1

theorem resV_ok {vs : List AV} {ws : List Value} (h : VL W L μ vs ws) : VR W L μ (resV vs) (if h : ws.toArray.size = 1 then ws.toArray[0] else .tuple ws.toArray) := by
  have hl := h.1
  match vs, ws, hl with
  | [], [], _ => exact tup_ok h
  | [v], [w], _ => exact h.head
  | a :: b :: vs, c :: d :: ws, _ => exact tup_ok h

/-- What stands at a function's end. -/
def FPost (P : Program) (C : Cfg) (E : Ent) (x : CRes) (st : St) (e : Ending) (W : World) : Prop :=
  ∃ L μ, Hp P E st.tc W L μ st.hp ∧ CRel W L μ x e ∧ Globs C W L

theorem finish_ok (ht : ∀ f t ag, C.dfk f = some (t, ag) → DfOk P f t ag) {F : Func} {fn : AFunc} (hres : compRes P F.results.toList = some fn.res) {e : AExit} {st st' : St} {x : CRes} (hx : finish C E.pin fn e st = some (x, st'))
    {ex : Exit} {a : Act} {W : World} (hs : Sees P C E e st ex a W) : bodyPostM Fence.wide 0 P F (FPost P C E x st') ex a W := by
  have hret : ∀ {st1 : St} {u : FrameMode} {W1 : World}, Out P C E a.tmps st1 none u W1 → ∀ vs, resL st1 fn.res = some vs → LeavesInM Fence.wide 0 P F a.tmps (FPost P C E (.ret (resV vs)) st1) [] u W1 := by
    rintro st1 u W1 ⟨L, μ, h1, h2, h3, rfl⟩ vs hvs
    obtain ⟨ws, q1, q2⟩ := resL_ok h1 h2 hres hvs
    simp only [LeavesInM, LeavesIn]
    refine ⟨_, ?_, L, μ, h1, resV_ok q2, h3⟩
    rw [results_eq, Array.mapM_eq_mapM_toList]
    simp only [Sem.run_bind, Sem.run_map, q1, Result.andThen]
    rfl
  have hnorm : ∀ {r : Option (Option AV × St)}, r = runDefs C E.pin st.df none st → (match r with | some (none, st) => (resL st fn.res).map fun vs => (CRes.ret (resV vs), st) | _ => none) = some (x, st') → SR P C E st a W → LeavesInM Fence.wide 0 P F a.tmps (FPost P C E x st') a.defers .returning W := by
    rintro r hr hx ⟨L, μ, h1, h2, h3⟩
    split at hx
    · rename_i st1
      obtain ⟨vs, hvs, he⟩ := Option.map_eq_some_iff.1 hx
      cases he
      exact runDefs_ok ht _ _ _ _ _ _ _ _ _ _ hr.symm h1 h2.tmps h2.glob h3 rfl fun u' W' ho => hret ho vs hvs
    · cases hx
  cases ex with
  | normal =>
    obtain ⟨rfl, hs⟩ := hs
    simp only [finish] at hx
    exact hnorm rfl hx hs
  | ret =>
    obtain ⟨rfl, hs⟩ := hs
    simp only [finish] at hx
    exact hnorm rfl hx hs
  | exit j =>
    obtain ⟨rfl, hs⟩ := hs
    simp [finish] at hx
  | goto l => exact hs.elim
  | outgrown => exact hs.elim
  | panic ch =>
    obtain ⟨v, w, rfl, rfl, L, μ, h1, h2, h3, h4⟩ := hs
    simp only [finish] at hx
    split at hx
    · rename_i st1 hr
      obtain ⟨vs, hvs, he⟩ := Option.map_eq_some_iff.1 hx
      cases he
      exact runDefs_ok ht _ _ _ _ _ _ _ _ _ _ hr h1 h2.tmps h2.glob h3 ⟨w, rfl, h4⟩ fun u' W' ho => hret ho vs hvs
    · rename_i v' st1 hr
      cases hx
      refine runDefs_ok ht _ _ _ _ _ _ _ _ _ _ hr h1 h2.tmps h2.glob h3 ⟨w, rfl, h4⟩ ?_
      rintro u' W' ⟨L', μ', g1, g2, g3, w', rfl, g4⟩
      exact ⟨L', μ', g1, ⟨w', rfl, g4⟩, g3⟩
    · cases hx
end
end Ev
end Go.Proofs.YtcaejedfjobooaaGreat
