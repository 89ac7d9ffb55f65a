/- Ranges over functions, and their rounds. -/
import Derived.Test.YtcaejedfjobooaaGreatEvEnter
import Derived.RangeFuncNested
namespace Go.Proofs.YtcaejedfjobooaaGreat
open Go Go.RowKit
namespace Ev

theorem wide_inRound {P : Program} {F : Fence} (hF : Wide (P := P) F) (l : Nat) : Wide (P := P) (F.inRound l) := ⟨hF.fn, hF.depth, hF.fenced⟩

section
variable {P : Program} {E : Ent} {C : Cfg} {W W' : World} {L L' : Nat → Prop} {μ μ' : Mu} {tc tc0 : List Nat} {H : List AB} {call : CallF}

theorem pe_jump {p : Option AExit} {j : Option Code} (h : PE p j) : (p = none ∧ j = none) ∨ (∃ i, p = some (.exit i) ∧ j = some (.exit i)) ∨ (p = some .ret ∧ j = some .ret) := by
  unfold PE at h
  split at h
  · exact .inl ⟨rfl, rfl⟩
  · subst h; exact .inr (.inl ⟨_, rfl, rfl⟩)
  · exact .inr (.inr ⟨rfl, rfl⟩)
  · exact h.elim

theorem ls_eq {s : LSt} {t : LoopState} (h : LS s t) : (s = .busy ↔ t = .busy) ∧ (s = .ready ↔ t = .ready) := by
  cases s <;> cases t <;> first | exact h.elim | simp

/-- A loop's record that the evaluator holds is one of the model's. -/
theorem loop_at (h : Sim P W L μ H) {l : Nat} {r : ALoop} (hl : H[l]? = some (.loop r)) (hno : μ l ≠ .no) : ∃ B R, μ l = .at B ∧ L B ∧ W.heap[B]? = some (.loop R) ∧ BR P W L μ (.loop r) (.loop R) := by
  cases hm : μ l with
  | no => exact absurd hm hno
  | dead => cases h.dead l _ hm hl
  | «at» B =>
    obtain ⟨hL, _, blk, o, e1, e2, e3⟩ := h.live l B hm
    rw [hl] at e1; cases e1
    cases e3 with
    | loop h1 h2 h3 h4 h5 h6 h7 => exact ⟨B, _, rfl, hL, e2, .loop h1 h2 h3 h4 h5 h6 h7⟩

theorem putObj_upd {B : Nat} {R : Loop} {o' : Obj} (h : W.heap[B]? = some (.loop R)) : Upd B o' W (W.putObj B o') :=
  (setObj_upd (P := default) (o' := o') h (by intro c t f; simp)).2

/-- A loop's record is written anew. -/
theorem Hp.putLoop (h : Hp P E tc W L μ H) {l B : Nat} {R : Loop} {o' : Obj} {blk : AB} (hm : μ l = .at B) (ho : W.heap[B]? = some (.loop R)) (hb : BR P W L μ blk o') :
    Hp P E ([l].filter (· < E.pin) ++ tc) (W.putObj B o') L μ (H.set l blk) ∧ Later L L W (W.putObj B o') :=
  h.put hm ho (putObj_upd ho) (fun rs t f hc => by cases hc) hb

theorem range_ok (hcall : CallOk P C call) {F : Fence} (hF : Wide (P := P) F) {rd : Option Nat} (hrd : RdOk E F rd) : RangeOk P E C call F rd := by
  intro g ps as bd g0 ps0 as0 bd0 st st' e a W hx hc hs
  simp only [compCode] at hc
  split at hc
  · rename_i g' a' b' k1 k2 k3
    simp only [strip] at hc
    cases hc
    obtain ⟨L, μ, h1, h2, h3⟩ := hs
    have hgv := opnd_ok h2 k1
    simp only [ev] at hx
    split at hx
    · rename_i gf first captured hval
      rw [hval] at hgv
      obtain ⟨rf, rc, hrf, _, v1, v2⟩ := vr_fn hgv
      refine wpIn_rangeFunc fun fn _ => ?_
      -- the loop is entered
      obtain ⟨d, hp0, df, W1, L1, μ1, D, mark, rec, hd, hent, q1, q2, q3, q4, q5, q6⟩ : ∃ (d : Nat) (hp0 : List AB) (df : List ADef) (W1 : World) (L1 : Nat → Prop) (μ1 : Mu) (D : Nat) (mark : List Deferred) (rec : Loop),
          (match (generalizing := false) call (.fn (.func gf) first captured) [.yield hp0.length] (hp0 ++ [.loop ⟨.ready, none, st.tm, ps0.toList, as, bd, d⟩]) with
            | some (.ret _, hp', tc) => (match (generalizing := false) hp'[hp0.length]? with
              | some (.loop r) => if r.st = .busy then none else some (r.pend.getD .normal, { st with df := df, hp := hp'.set hp0.length .dead, tc := tc.filter (· < E.pin) ++ st.tc })
              | _ => none)
            | some (.pan v, hp', tc) => some (.panic v, { st with df := df, hp := hp', tc := tc.filter (· < E.pin) ++ st.tc })
            | none => none) = some (e, st') ∧
          (Instr.enterLoop fn a.tmps ps0 as0 bd0 F.round).run P W = .ok (W1.heap.size, mark) (W1.alloc (.loop rec)) ∧
          rec = { state := .ready, pending := none, fn, tmps := a.tmps, params := ps0, assign := as0, body := bd0, defers := D } ∧
          Hp P E st.tc W1 L1 μ1 hp0 ∧ Later L L1 W W1 ∧ Ext μ μ1 ∧ (μ1 d = .at D ∨ μ1 d = .dead) ∧ DR W1 L1 μ1 df (mark ++ a.defers) := by
        cases rd with
        | none =>
          have hro : F.round = none := hrd
          have p1 := h1.push [.dfr]
          obtain ⟨p2, p3, p4⟩ := p1.mat (j := st.hp.length) (blk := .dfr) (o := .deferred (some [])) (by simp) (h1.sim.out _ (Nat.le_refl _)) h1.len .dfr
          refine ⟨_, _, _, W.alloc (.deferred (some [])), _, _, W.heap.size, [{ target := .collected W.heap.size, args := #[] }], _, hx, ?_, rfl, p2, p3, p4, .inl (updM_same ..), ?_⟩
          · rw [hro, run_enterLoop_outer]
            rw [show (W.alloc (.deferred (some []))).heap.size = W.heap.size + 1 from World.size_alloc ..]
          · exact .cons (.mark (.inl (updM_same ..))) (h3.mono p3 p4)
        | some l =>
          obtain ⟨B, hro, hlp, hEB⟩ := hrd
          simp only at hx ⊢
          cases hl : st.hp[l]? with
          | none => rw [hl] at hx; simp at hx
          | some blk =>
            rw [hl] at hx
            cases blk with
            | loop r =>
              have hno : μ l ≠ .no := by
                rcases h1.pins l hlp with e | ⟨e, _⟩
                · rw [e, hEB]; simp
                · rw [e]; simp
              obtain ⟨B', R, e1, _, e2, e3⟩ := loop_at h1.sim hl hno
              have hBB : B' = B := by
                rcases h1.pins l hlp with e | ⟨e, _⟩
                · rw [e, hEB] at e1; cases e1; rfl
                · rw [e] at e1; cases e1
              subst hBB
              refine ⟨r.dfr, st.hp, st.df, W, L, μ, R.defers, [], _, hx, ?_, rfl, h1, Later.refl _ _, Ext.refl _, ?_, h3⟩
              · rw [hro]; exact run_enterLoop_inner e2 fn a.tmps ps0 as0 bd0
              · cases e3 with
                | loop _ _ _ _ _ _ h7 => exact h7
            | _ => simp at hx
      clear hx
      have hx := hd
      clear hd
      -- its record
      have hrecbr : BR P W1 L1 μ1 (.loop ⟨.ready, none, st.tm, ps0.toList, as, bd, d⟩) (.loop rec) := by
        subst q1
        exact .loop trivial trivial ((h2.mono q3 q4).tmps) rfl k2 k3 q5
      have r1 := q2.push [.loop ⟨.ready, none, st.tm, ps0.toList, as, bd, d⟩]
      obtain ⟨r2, r3, r4⟩ := r1.mat (j := hp0.length) (o := .loop rec) (by simp) (q2.sim.out _ (Nat.le_refl _)) q2.len hrecbr
      have hyv : VR (W1.alloc (.loop rec)) (fun b => L1 b ∨ b = W1.heap.size) (updM μ1 hp0.length (.at W1.heap.size)) (.yield hp0.length) (.func (.yield W1.heap.size) #[] #[]) := .yield (updM_same ..)
      have hlat : Later L (fun b => L1 b ∨ b = W1.heap.size) W (W1.alloc (.loop rec)) := by
        refine ⟨by simp; have := q3.size; omega, fun b hb hl => ?_, fun b rs t f e => ?_, fun b hb => ?_⟩
        · exact (Below.heap_alloc _ _ _ (Nat.lt_of_lt_of_le hb q3.size)).trans (q3.same b hb hl)
        · obtain ⟨rs', e1, e2⟩ := q3.shape b rs t f e
          exact ⟨rs', (Below.heap_alloc _ _ _ (Array.getElem?_eq_some_iff.1 e1).1).trans e1, e2⟩
        · rcases hb with hb | rfl
          · exact q3.new b hb
          · exact .inr q3.size
      have hext : Ext μ (updM μ1 hp0.length (.at W1.heap.size)) := q4.trans r4
      have hg2 : Globs C (W1.alloc (.loop rec)) (fun b => L1 b ∨ b = W1.heap.size) := Globs.mono h2.glob hlat
      have hdr2 : DR (W1.alloc (.loop rec)) (fun b => L1 b ∨ b = W1.heap.size) (updM μ1 hp0.length (.at W1.heap.size)) df (mark ++ a.defers) := q6.mono r3 r4
      have henv2 := h2.mono hlat hext
      have hgo : ∀ {x : CRes} {hp' : List AB} {tc' : List Nat}, call (.fn (.func gf) first captured) [.yield hp0.length] (hp0 ++ [.loop ⟨.ready, none, st.tm, ps0.toList, as, bd, d⟩]) = some (x, hp', tc') →
          CallsIn F 0 P gf (rf.toArray ++ #[.func (.yield W1.heap.size) #[] #[]] ++ rc.toArray) (W1.alloc (.loop rec)) (CPost P E st.tc (W1.alloc (.loop rec)) (fun b => L1 b ∨ b = W1.heap.size) (updM μ1 hp0.length (.at W1.heap.size)) (hp0 ++ [AB.loop ⟨.ready, none, st.tm, ps0.toList, as, bd, d⟩]).length x hp' tc') ∧
          (invoke (.fn (.func gf) rc.toArray) (rf.toArray ++ #[.func (.yield W1.heap.size) #[] #[]])).run P (W1.alloc (.loop rec)) = .ok (.enter gf (rf.toArray ++ #[.func (.yield W1.heap.size) #[] #[]] ++ rc.toArray)) (W1.alloc (.loop rec)) := by
        intro x hp' tc' hcx
        have hinv : (invoke (.fn (.func gf) rc.toArray) (rf.toArray ++ #[.func (.yield W1.heap.size) #[] #[]])).run P (W1.alloc (.loop rec)) = .ok (.enter gf (rf.toArray ++ #[.func (.yield W1.heap.size) #[] #[]] ++ rc.toArray)) (W1.alloc (.loop rec)) := by
          simp only [invoke]; exact hcall.fn hcx _ _
        refine ⟨?_, hinv⟩
        obtain ⟨r, W', g1, g2⟩ := hcall.sound hcx r2 hg2 (rf := .func (.func gf) rf.toArray rc.toArray) (rargs := #[.func (.yield W1.heap.size) #[] #[]]) (by rw [← hrf]; exact hgv.mono hlat hext) (VL.cons hyv VL.nil)
        have e : (do let d ← Deferred.ofValue (.func (.func gf) rf.toArray rc.toArray) #[.func (.yield W1.heap.size) #[] #[]]; invoke d.target d.args : Sem Next).run P (W1.alloc (.loop rec)) = .ok (.enter gf (rf.toArray ++ #[.func (.yield W1.heap.size) #[] #[]] ++ rc.toArray)) (W1.alloc (.loop rec)) := by
          simp only [Deferred.ofValue, Sem.run_bind, Sem.run_pure, Result.andThen]
          exact hinv
        rw [e] at g1
        cases g1
        exact callsIn_wideF hF g2
      have hres : (resolve a.eval (rangeCall g0 W1.heap.size) 0).run P (W1.alloc (.loop rec)) = .ok { target := .fn (.func gf) rc.toArray, args := rf.toArray ++ #[.func (.yield W1.heap.size) #[] #[]] } (W1.alloc (.loop rec)) := by
        simp only [resolve, hrf]
        simp [go_sem, Deferred.ofValue]
      split at hx
      · rename_i v hp' tc' hcx
        obtain ⟨c1, c2⟩ := hgo hcx
        refine ⟨W1.heap.size, mark, _, _, _, gf, _, _, hent, hres, fun f _ => hF.fn f, c2, fun hh => by simp [hF.depth] at hh, c1.mono ?_⟩
        rintro en W3 ⟨L3, μ3, p1, p2, p3, p4, p5, p6⟩
        cases en <;> simp only [CRel] at p1
        rename_i w
        split at hx
        · rename_i r hr
          split at hx
          · cases hx
          · rename_i hnb
            have hat : μ3 hp0.length = .at W1.heap.size ∨ μ3 hp0.length = .dead := by
              have := p4 hp0.length (by rw [updM_same]; simp)
              rwa [updM_same] at this
            obtain ⟨B3, R3, e1, _, e2, e3⟩ := loop_at p2.sim hr (by rcases hat with h | h <;> rw [h] <;> simp)
            have hB : B3 = W1.heap.size := by
              rcases hat with h | h
              · rw [h] at e1; cases e1; rfl
              · rw [h] at e1; cases e1
            subst hB
            have hls : LS r.st R3.state ∧ PE r.pend R3.pending := by
              cases e3 with
              | loop h1 h2 _ _ _ _ _ => exact ⟨h1, h2⟩
            have hend := run_endLoop (P := P) e2 (fun h => hnb ((ls_eq hls.1).1.2 h))
            obtain ⟨y1, y2⟩ := p2.putLoop (o' := .loop { R3 with state := .exhausted }) (blk := .dead) e1 e2 .dead
            have hsr : SR P C E { st with df := df, hp := hp'.set hp0.length .dead, tc := tc'.filter (· < E.pin) ++ st.tc } { a with defers := mark ++ a.defers } (W3.putObj W1.heap.size (.loop { R3 with state := .exhausted })) := by
              have he := (henv2.mono p3 p4).mono y2 (Ext.refl _)
              refine ⟨L3, μ3, y1.more ?_, ⟨he.tmps, he.glob⟩, (hdr2.mono p3 p4).mono y2 (Ext.refl _)⟩
              intro i hi
              rcases List.mem_append.1 hi with hi | hi
              · have := List.mem_filter.1 hi
                simp at this
                have := q2.len
                omega
              · exact hi
            cases hx
            refine ⟨_, _, hend, ?_⟩
            clear hend y1 y2
            revert hsr
            generalize W3.putObj W1.heap.size _ = W4
            intro hsr
            rcases pe_jump hls.2 with ⟨j1, j2⟩ | ⟨i, j1, j2⟩ | ⟨j1, j2⟩ <;> rw [j1, j2]
            · exact ⟨rfl, hsr⟩
            · exact wpIn_exit ⟨rfl, hsr⟩
            · exact wpIn_ret ⟨rfl, hsr⟩
        · cases hx
      · rename_i v hp' tc' hcx
        obtain ⟨c1, c2⟩ := hgo hcx
        refine ⟨W1.heap.size, mark, _, _, _, gf, _, _, hent, hres, fun f _ => hF.fn f, c2, fun hh => by simp [hF.depth] at hh, c1.mono ?_⟩
        rintro en W3 ⟨L3, μ3, p1, p2, p3, p4, p5, p6⟩
        cases en <;> simp only [CRel] at p1
        obtain ⟨w, rfl, hw⟩ := p1
        cases hx
        have he := henv2.mono p3 p4
        exact ⟨v, w, rfl, rfl, L3, μ3, p2, ⟨he.tmps, he.glob⟩, hdr2.mono p3 p4, hw⟩
      · cases hx
    · cases hx
  · cases hc

theorem foldl_params : ∀ {ps : List Nat} {as : List AV} {xs : List Value} {tm : List AV} {tmps : Array Value}, as.length = ps.length → VL W L μ as xs → VL W L μ tm tmps.toList →
    VL W L μ (setParams tm ps as) ((ps.zip xs).foldl (fun t (p, v) => t.setIfInBounds p v) tmps).toList
  | [], [], [], tm, tmps, _, _, h => by simpa [setParams] using h
  | p :: ps, a :: as, x :: xs, tm, tmps, hl, hv, h => by
    simp only [setParams, List.zip_cons_cons, List.foldl_cons]
    refine foldl_params (by simpa using hl) hv.tail ?_
    rw [Array.toList_setIfInBounds]
    exact h.set p hv.head
  | _, [], _ :: _, _, _, _, hv, _ => by have := hv.1; simp at this
  | _, _ :: _, [], _, _, _, hv, _ => by have := hv.1; simp at this
  | [], _ :: _, _, _, _, hl, _, _ => by simp at hl
  | _ :: _, [], _, _, _, hl, _, _ => by simp at hl

theorem round_ok (hcall : CallOk P C call) {l : Nat} {args : List AV} {rf : Value} {rargs : Array Value} {x : CRes} {H' : List AB} (hx : round C call l args H = some (x, H', tc))
    (h : Hp P E tc0 W L μ H) (hg : Globs C W L) (hf : VR W L μ (.yield l) rf) (hv : VL W L μ args rargs.toList) : GoesTo P rf rargs W (CPost P E tc0 W L μ H.length x H' tc) := by
  unfold round at hx
  split at hx
  · rename_i r hl
    split at hx
    · rename_i hcond
      obtain ⟨hready, hlen⟩ := hcond
      have hno : μ l ≠ .no := by
        cases hf with
        | dead h1 h2 => simp [headRef] at h1; subst h1; rw [h2]; simp
        | yield h1 => rw [h1]; simp
      obtain ⟨B, R, hB, hLB, hR, hbr⟩ := loop_at h.sim hl hno
      have hrf : rf = .func (.yield B) #[] #[] := by
        cases hf with
        | dead h1 h2 => simp [headRef] at h1; subst h1; rw [h2] at hB; cases hB
        | yield h1 => rw [h1] at hB; cases hB; rfl
      subst hrf
      obtain ⟨b1, b2, b3, b4, b5, b6⟩ : LS r.st R.state ∧ PE r.pend R.pending ∧ VL W L μ r.tm R.tmps.toList ∧ R.params.toList = r.params ∧ compCode P R.assign = some (strip r.assign) ∧ compCode P R.body = some (strip r.body) := by
        cases hbr with
        | loop h1 h2 h3 h4 h5 h6 _ => exact ⟨h1, h2, h3, h4, h5, h6⟩
      have hsz : rargs.size = R.params.size := by
        have := hv.1
        rw [hlen, ← b4] at this
        simpa using this.symm
      have hrun : (do let d ← Deferred.ofValue (.func (.yield B) #[] #[]) rargs; invoke d.target d.args : Sem Next).run P W = .ok (.round B R.fn ((R.params.zip rargs).foldl (fun tmps (t, a) => tmps.setIfInBounds t a) R.tmps) R.assign R.body) W := by
        simp only [Deferred.ofValue, Sem.run_bind, Sem.run_pure, Result.andThen, invoke]
        rw [show (#[] ++ rargs : Array Value) = rargs by simp]
        exact run_yield hR hsz
      refine ⟨_, _, hrun, ?_⟩
      have hlt : l < H.length := (List.getElem?_eq_some_iff.1 hl).1
      have hF : Wide (P := P) (Fence.wide.inRound B) := wide_inRound ⟨fun _ => trivial, rfl, rfl⟩ B
      have hE := Hp.start (P := P) h.sim
      have hrange : RangeOk P ⟨W, L, μ, H.length⟩ C call (Fence.wide.inRound B) (some l) := range_ok hcall hF ⟨B, rfl, hlt, hB⟩
      refine roundIn_of_wpIn trivial ?_
      split at hx
      · rename_i st hev
        have hs0 : SR P C ⟨W, L, μ, H.length⟩ { tm := setParams r.tm r.params args, df := [], hp := H, tc := [] } { tmps := (R.params.zip rargs).foldl (fun tmps (t, a) => tmps.setIfInBounds t a) R.tmps, defers := [] } W := by
          refine ⟨L, μ, hE, ⟨?_, hg⟩, .nil⟩
          have := foldl_params (ps := r.params) (as := args) (xs := rargs.toList) (tm := r.tm) (tmps := R.tmps) hlen hv b3
          rw [← Array.foldl_toList, Array.toList_zip, b4]
          exact this
        refine wpIn_mono (ev_ok (E := ⟨W, L, μ, H.length⟩) hcall hF (fun hh => by simp at hh) hrange R.assign r.assign _ _ _ _ _ hev b5 hs0) ?_
        intro ex a1 W1 hsees
        split at hx
        · rename_i r1 hl1
          split at hx
          · rename_i hready1
            cases ex with
            | normal =>
              obtain ⟨_, L1, μ1, h1, h2, h3⟩ := hsees
              have hat : ∀ {tc1 W1 L1 μ1 H1}, Hp P ⟨W, L, μ, H.length⟩ tc1 W1 L1 μ1 H1 → ∀ {r1}, H1[l]? = some (.loop r1) → μ1 l = .at B ∧ ∃ R1, W1.heap[B]? = some (.loop R1) ∧ BR P W1 L1 μ1 (.loop r1) (.loop R1) := by
                intro tc1 W1 L1 μ1 H1 h1 r1 hl1
                have hpin := h1.pins l hlt
                obtain ⟨B1, R1, e1, _, e2, e3⟩ := loop_at h1.sim hl1 (by
                  rcases hpin with e | ⟨e, _⟩
                  · rw [e]; exact hno
                  · rw [e]; simp)
                rcases hpin with e | ⟨e, _⟩
                · simp only at e; rw [e, hB] at e1; cases e1; exact ⟨e.trans hB, R1, e2, e3⟩
                · rw [e] at e1; cases e1
              obtain ⟨a1', R1, e2, e3⟩ := hat h1 hl1
              obtain ⟨c1, c2, c3, c4, c5, c6, c7⟩ : LS r1.st R1.state ∧ PE r1.pend R1.pending ∧ VL W1 L1 μ1 r1.tm R1.tmps.toList ∧ R1.params.toList = r1.params ∧ compCode P R1.assign = some (strip r1.assign) ∧ compCode P R1.body = some (strip r1.body) ∧ (μ1 r1.dfr = .at R1.defers ∨ μ1 r1.dfr = .dead) := by
                cases e3 with
                | loop h1 h2 h3 h4 h5 h6 h7 => exact ⟨h1, h2, h3, h4, h5, h6, h7⟩
              have hbeg := run_beginRound (P := P) e2 ((ls_eq c1).2.1 hready1)
              refine ⟨_, hbeg, ?_⟩
              have hbusy : BR P W1 L1 μ1 (.loop { r1 with st := .busy }) (.loop { R1 with state := .busy }) := .loop trivial c2 c3 c4 c5 c6 c7
              obtain ⟨d1, d2⟩ := h1.putLoop a1' e2 hbusy
              have hs1 : SR P C ⟨W, L, μ, H.length⟩ { st with hp := st.hp.set l (.loop { r1 with st := .busy }), tc := l :: st.tc } a1 (W1.putObj B (.loop { R1 with state := .busy })) := by
                refine ⟨L1, μ1, d1.more ?_, h2.mono d2 (Ext.refl _), h3.mono d2 (Ext.refl _)⟩
                intro i hi
                rcases List.mem_append.1 hi with hi | hi
                · have := (List.mem_filter.1 hi).1; simp at this; subst this; exact List.mem_cons_self ..
                · exact List.mem_cons_of_mem _ hi
              split at hx
              · rename_i e2' st2 hev2
                refine wpIn_mono (ev_ok (E := ⟨W, L, μ, H.length⟩) hcall hF (fun hh => by simp at hh) hrange R.body r.body _ _ _ _ _ hev2 b6 hs1) ?_
                intro ex2 a2 W2 hsees2
                have hfin : ∀ (p : Option AExit) (j : Option Code), PE p j → SR P C ⟨W, L, μ, H.length⟩ st2 a2 W2 → ∀ r2, st2.hp[l]? = some (.loop r2) →
                    (let hp := st2.hp.set l (.loop { r2 with st := if p.isNone then .ready else .done, pend := p })
                     let (x, hp) := tidyC C H.length (.ret (.bool p.isNone)) hp
                     some (x, overH H hp (l :: st2.tc) ++ hp.drop H.length, l :: st2.tc)) = some (x, H', tc) →
                    ∃ v w', (Instr.endRound B j).run P W2 = .ok v w' ∧ CPost P E tc0 W L μ H.length x H' tc (.returned v) w' := by
                  rintro p j hpj ⟨L2, μ2, k1, k2, k3⟩ r2 hl2 hx
                  obtain ⟨a2', R2, f2, f3⟩ := hat k1 hl2
                  have hpn : p.isNone = j.isNone := by
                    rcases pe_jump hpj with ⟨rfl, rfl⟩ | ⟨i, rfl, rfl⟩ | ⟨rfl, rfl⟩ <;> rfl
                  refine ⟨_, _, run_endRound j f2, ?_⟩
                  have hnew : BR P W2 L2 μ2 (.loop { r2 with st := if p.isNone then .ready else .done, pend := p }) (.loop { R2 with state := if j.isNone then .ready else .done, pending := j }) := by
                    cases f3 with
                    | loop h1 h2 h3 h4 h5 h6 h7 =>
                      refine .loop ?_ hpj h3 h4 h5 h6 h7
                      rw [hpn]; split <;> trivial
                  obtain ⟨m1, m2⟩ := k1.putLoop a2' f2 hnew
                  have m3 : Hp P ⟨W, L, μ, H.length⟩ (l :: st2.tc) (W2.putObj B (.loop { R2 with state := if j.isNone then .ready else .done, pending := j })) L2 μ2 (st2.hp.set l (.loop { r2 with st := if p.isNone then .ready else .done, pend := p })) := m1.more (by
                    intro i hi
                    rcases List.mem_append.1 hi with hi | hi
                    · have := (List.mem_filter.1 hi).1; simp at this; subst this; exact List.mem_cons_self ..
                    · exact List.mem_cons_of_mem _ hi)
                  simp only at hx
                  cases htd : tidyC C H.length (.ret (.bool p.isNone)) (st2.hp.set l (.loop { r2 with st := if p.isNone then .ready else .done, pend := p })) with
                  | mk x2 hp2 =>
                  rw [htd] at hx
                  simp only at hx
                  cases hx
                  obtain ⟨μ3, n1, n2⟩ := tidyC_ok (e := .returned (.bool j.isNone)) m3 (by simp only [CRel]; rw [hpn]; exact .bool) htd
                  obtain ⟨μ4, o1, o2, o3, o4, o5, o6⟩ := whole_ok h n1
                  exact ⟨L2, μ4, n2.same o6, o1, o2, o3, o4, o5⟩
                cases ex2 with
                | normal =>
                  obtain ⟨rfl, hs2⟩ := hsees2
                  simp only at hx
                  split at hx <;> first | contradiction | skip
                  rename_i _ _ _ _ r2 hl2 _
                  exact hfin none none trivial hs2 _ hl2 hx
                | ret =>
                  obtain ⟨rfl, hs2⟩ := hsees2
                  simp only at hx
                  split at hx <;> first | contradiction | skip
                  rename_i _ _ _ _ r2 hl2 _
                  exact hfin (some .ret) (some .ret) trivial hs2 _ hl2 hx
                | exit id =>
                  obtain ⟨rfl, hs2⟩ := hsees2
                  simp only at hx
                  split at hx <;> first | contradiction | skip
                  rename_i _ _ _ _ r2 hl2 _
                  exact hfin (some (.exit id)) (some (.exit id)) rfl hs2 _ hl2 hx
                | panic ch =>
                  obtain ⟨v, w, rfl, _⟩ := hsees2
                  simp at hx
                | goto t => exact hsees2.elim
                | outgrown => exact hsees2.elim
              · cases hx
            | _ => first | exact hsees.elim | (obtain ⟨hh, _⟩ := hsees; cases hh; done) | (obtain ⟨_, _, hh, _⟩ := hsees; cases hh; done)
          · cases hx
        · cases hx
      · cases hx
    · cases hx
  · cases hx

/-- The frame of calls. -/
theorem overH_out {hp : List AB} {b : Nat} : ∀ {tc : List Nat}, b ∉ tc → (overH H hp tc)[b]? = H[b]?
  | [], _ => rfl
  | j :: tc, h => by
    simp only [overH]
    rw [List.getElem?_set_ne (by rintro rfl; exact h (List.mem_cons_self ..))]
    exact overH_out fun hm => h (List.mem_cons_of_mem _ hm)
theorem over_kept {hp : List AB} {tc : List Nat} : Kept H (overH H hp tc ++ hp.drop H.length) tc :=
  ⟨by simp [overH_len], fun b hb hn => by
    rw [List.getElem?_append_left (by rw [overH_len]; exact hb)]
    exact overH_out hn⟩
theorem enter_kept {f : Nat} {args : List AV} {x : CRes} {H' : List AB} (hx : enter C call f args H = some (x, H', tc)) : Kept H H' tc := by
  unfold enter at hx
  split at hx
  · obtain ⟨v, hgv, he⟩ := Option.map_eq_some_iff.1 hx
    cases he; exact .refl _ _
  split at hx
  · obtain ⟨v, hgv, he⟩ := Option.map_eq_some_iff.1 hx
    cases he; exact .refl _ _
  · split at hx
    · cases hx
    · cases hwh : C.whole f <;> rw [hwh] at hx <;> simp only [cond_true, cond_false] at hx
      · split at hx
        · split at hx
          · cases hx
            refine ⟨by simp [backH_len], fun b hb hn => ?_⟩
            rw [List.getElem?_append_left (by rw [backH_len]; exact hb)]
            refine backH_out hb fun j hj he => hn (List.mem_map.2 ⟨j, hj, ?_⟩)
            rw [List.getD_eq_getElem?_getD, he]; rfl
          · cases hx
        · cases hx
      · split at hx
        · split at hx
          · rename_i x1 st1 _
            cases hbq : bareQ x1.val st1.tc <;> rw [hbq] at hx <;> simp only [cond_true, cond_false] at hx
            · cases hx; exact over_kept
            · cases hx; exact .refl _ _
          · cases hx
        · cases hx
theorem round_kept {l : Nat} {args : List AV} {x : CRes} {H' : List AB} (hx : round C call l args H = some (x, H', tc)) : Kept H H' tc := by
  unfold round at hx
  repeat' split at hx
  all_goals first | (cases hx; done) | skip
  all_goals
    simp only at hx
    cases hx
    exact over_kept

/-- CALLS: what the evaluator comes to is what the model does. -/
theorem call_ok (hT : TblOk P C) : ∀ n, CallOk P C (Ev.call C n)
  | 0 => ⟨fun f args H x H' tc h => (by simp [Ev.call] at h), fun h => (by simp [Ev.call] at h), fun h => (by simp [Ev.call] at h)⟩
  | n + 1 => by
    have ih := call_ok hT n
    have hrange : ∀ E, RangeOk P E C (Ev.call C n) Fence.wide none := fun E => range_ok ih ⟨fun _ => trivial, rfl, rfl⟩ rfl
    have hfn : ∀ {f : Nat} {args : List AV} {H : List AB} {r : CRes × List AB × List Nat}, enter C (Ev.call C n) f args H = some r → ∀ (rargs : Array Value) (W : World), (callFunc f rargs).run P W = .ok (.enter f rargs) W := by
      intro f args H r hx rargs W
      unfold enter at hx
      split at hx
      · rename_i g hext
        obtain ⟨⟨F, f1, f2, f3⟩, _⟩ := hT.ext f g hext
        exact callFunc_enter f1 f2 f3 _ _
      · split at hx
        · rename_i g hext
          obtain ⟨⟨F, f1, f2, f3⟩, _⟩ := hT.exth f g hext
          exact callFunc_enter f1 f2 f3 _ _
        split at hx
        · cases hx
        · rename_i fn hfn
          obtain ⟨F, f1, f2, f3⟩ := hT.fns f fn hfn
          obtain ⟨c, g1, _⟩ := compFn_ok f3
          exact callFunc_enter f1 f2 (by rw [g1]; rfl) _ _
    refine ⟨fun f args H x H' tc hx => ?_, fun {f first captured args H r} hx => ?_, ?_⟩
    · simp only [Ev.call] at hx
      split at hx
      · exact enter_kept hx
      · exact round_kept hx
      · cases hx
    · simp only [Ev.call] at hx
      exact hfn hx
    · intro E tc0 W L μ H f args rf rargs x H' tc hx h hg hf hv
      simp only [Ev.call] at hx
      split at hx
      · rename_i f first captured
        obtain ⟨r1, r2, rfl, _, v1, v2⟩ := vr_fn hf
        have hinv : (do let d ← Deferred.ofValue (.func (.func f) r1.toArray r2.toArray) rargs; invoke d.target d.args : Sem Next).run P W = .ok (.enter f (r1.toArray ++ rargs ++ r2.toArray)) W := by
          simp only [Deferred.ofValue, Sem.run_bind, Sem.run_pure, Result.andThen, invoke]
          exact hfn hx _ _
        refine ⟨_, _, hinv, ?_⟩
        refine enter_ok hT ih hrange hx h hg ?_
        simp only [Array.toList_append]
        exact (v1.append hv).append v2
      · exact round_ok ih hx h hg hf hv
      · cases hx
end
end Ev
end Go.Proofs.YtcaejedfjobooaaGreat
