/- The plain law of CutWaits. -/
import Derived.Test.YtlkhjnpflohfeaaDoorLpPC
import Derived.RangeFuncNested
import Derived.Test.YtlkhjnpflohfeaaDoorLpPA
/- Ranges over functions, and their rounds. -/
namespace Go.Proofs.YtlkhjnpflohfeaaDoor
open Go Go.RowKit
namespace Ev

theorem zmt {P : Program} {F : Fence} (hF : Wide (P := P) F) (l : Nat) : Wide (P := P) (F.inRound l) := ⟨hF.fn, hF.depth, hF.fenced⟩

section
variable {P : Program} {E : Ent} {C : Cfg} {W W' : World} {L L' : Nat → Prop} {μ μ' : Mu} {tc tc0 : List Nat} {H : List AB} {call : CallF}

theorem zup {p : Option AExit} {j : Option Code} (h : PE p j) : (p = none ∧ j = none) ∨ (∃ i, p = some (.exit i) ∧ j = some (.exit i)) ∨ (p = some .ret ∧ j = some .ret) := by
  unfold PE at h
  split at h
  · exact .inl ⟨rfl, rfl⟩
  · subst h; exact .inr (.inl ⟨_, rfl, rfl⟩)
  · exact .inr (.inr ⟨rfl, rfl⟩)
  · exact h.elim

theorem ls_eq {s : LSt} {t : LoopState} (h : LS s t) : (s = .busy ↔ t = .busy) ∧ (s = .ready ↔ t = .ready) := by
  cases s <;> cases t <;> first | exact h.elim | simp

theorem zlz (h : Sim P W L μ H) {l : Nat} {r : ALoop} (hl : H[l]? = some (.loop r)) (hno : μ l ≠ .no) : ∃ B R, μ l = .at B ∧ L B ∧ W.heap[B]? = some (.loop R) ∧ BR P W L μ (.loop r) (.loop R) := by
  cases hm : μ l with
  | no => exact absurd hm hno
  | dead => cases h.dead l _ hm hl
  | «at» B =>
    obtain ⟨hL, _, blk, o, e1, e2, e3⟩ := h.live l B hm
    rw [hl] at e1; cases e1
    cases e3 with
    | loop h1 h2 h3 h4 h5 h6 h7 => exact ⟨B, _, rfl, hL, e2, .loop h1 h2 h3 h4 h5 h6 h7⟩

theorem zsj {B : Nat} {R : Loop} {o' : Obj} (h : W.heap[B]? = some (.loop R)) : Upd B o' W (W.putObj B o') :=
  (zcn (P := default) (o' := o') h (by intro c t f; simp)).2

theorem Hp.putLoop (h : Hp P E tc W L μ H) {l B : Nat} {R : Loop} {o' : Obj} {blk : AB} (hm : μ l = .at B) (ho : W.heap[B]? = some (.loop R)) (hb : BR P W L μ blk o') :
    Hp P E ([l].filter (· < E.pin) ++ tc) (W.putObj B o') L μ (H.set l blk) ∧ Later L L W (W.putObj B o') :=
  h.put hm ho (zsj ho) (.ofCells (fun rs t f hc => by cases hc) fun _ _ => by simp) hb

theorem zqv (hcall : CallOk P C call) {F : Fence} (hF : Wide (P := P) F) {rd : Option Nat} (hrd : RdOk E F rd) : RangeOk P E C call F rd := by
  intro g ps as bd g0 ps0 as0 bd0 st st' e a W hx hc hs
  simp only [compCode] at hc
  split at hc
  · rename_i g' a' b' k1 k2 k3
    simp only [strip] at hc
    cases hc
    obtain ⟨L, μ, h1, h2, h3⟩ := hs
    have hgv := zav h2 k1
    simp only [ev] at hx
    split at hx
    · rename_i gf first captured hval
      rw [hval] at hgv
      obtain ⟨rf, rc, hrf, _, v1, v2⟩ := vr_fn hgv
      refine wpIn_rangeFunc fun fn _ => ?_
      -- the loop is entered
      obtain ⟨d, hp0, df, W1, L1, μ1, D, mark, rec, hd, hent, q1, q2, q3, q4, q5, q6⟩ : ∃ (d : Nat) (hp0 : List AB) (df : List ADef) (W1 : World) (L1 : Nat → Prop) (μ1 : Mu) (D : Nat) (mark : List Deferred) (rec : Loop),
          (match (generalizing := false) call (.fn (.func gf) first captured) [.yield hp0.length] (hp0 ++ [.loop ⟨.ready, none, st.tm, ps0.toList, as, bd, d⟩]) with
            | some (.ret _, hp', tc) => (match (generalizing := false) hp'[hp0.length]? with
              | some (.loop r) => if r.st = .busy then none else some (r.pend.getD .normal, { st with df := df, hp := hp'.set hp0.length .dead, tc := tc.filter (· < E.pin) ++ st.tc })
              | _ => none)
            | some (.pan v, hp', tc) => some (.panic v, { st with df := df, hp := hp', tc := tc.filter (· < E.pin) ++ st.tc })
            | none => none) = some (e, st') ∧
          (Instr.enterLoop fn a.tmps ps0 as0 bd0 F.round).run P W = .ok (W1.heap.size, mark) (W1.alloc (.loop rec)) ∧
          rec = { state := .ready, pending := none, fn, tmps := a.tmps, params := ps0, assign := as0, body := bd0, defers := D } ∧
          Hp P E st.tc W1 L1 μ1 hp0 ∧ Later L L1 W W1 ∧ Ext μ μ1 ∧ (μ1 d = .at D ∨ μ1 d = .dead) ∧ DR W1 L1 μ1 df (mark ++ a.defers) := by
        cases rd with
        | none =>
          have hro : F.round = none := hrd
          have p1 := h1.push [.dfr]
          obtain ⟨p2, p3, p4⟩ := p1.mat (j := st.hp.length) (blk := .dfr) (o := .deferred (some [])) (by simp) (h1.sim.out _ (Nat.le_refl _)) h1.len .dfr
          refine ⟨_, _, _, W.alloc (.deferred (some [])), _, _, W.heap.size, [{ target := .collected W.heap.size, args := #[] }], _, hx, ?_, rfl, p2, p3, p4, .inl (zba ..), ?_⟩
          · rw [hro, run_enterLoop_outer]
            rw [show (W.alloc (.deferred (some []))).heap.size = W.heap.size + 1 from World.size_alloc ..]
          · exact .cons (.mark (.inl (zba ..))) (h3.mono p3 p4)
        | some l =>
          obtain ⟨B, hro, hlp, hEB⟩ := hrd
          simp only at hx ⊢
          cases hl : st.hp[l]? with
          | none => rw [hl] at hx; simp at hx
          | some blk =>
            rw [hl] at hx
            cases blk with
            | loop r =>
              have hno : μ l ≠ .no := by
                rcases h1.pins l hlp with e | ⟨e, _⟩
                · rw [e, hEB]; simp
                · rw [e]; simp
              obtain ⟨B', R, e1, _, e2, e3⟩ := zlz h1.sim hl hno
              have hBB : B' = B := by
                rcases h1.pins l hlp with e | ⟨e, _⟩
                · rw [e, hEB] at e1; cases e1; rfl
                · rw [e] at e1; cases e1
              subst hBB
              refine ⟨r.dfr, st.hp, st.df, W, L, μ, R.defers, [], _, hx, ?_, rfl, h1, Later.refl _ _, Ext.refl _, ?_, h3⟩
              · rw [hro]; exact run_enterLoop_inner e2 fn a.tmps ps0 as0 bd0
              · cases e3 with
                | loop _ _ _ _ _ _ h7 => exact h7
            | _ => simp at hx
      clear hx
      have hx := hd
      clear hd
      -- its record
      have hrecbr : BR P W1 L1 μ1 (.loop ⟨.ready, none, st.tm, ps0.toList, as, bd, d⟩) (.loop rec) := by
        subst q1
        exact .loop trivial trivial ((h2.mono q3 q4).tmps) rfl k2 k3 q5
      have r1 := q2.push [.loop ⟨.ready, none, st.tm, ps0.toList, as, bd, d⟩]
      obtain ⟨r2, r3, r4⟩ := r1.mat (j := hp0.length) (o := .loop rec) (by simp) (q2.sim.out _ (Nat.le_refl _)) q2.len hrecbr
      have hyv : VR (W1.alloc (.loop rec)) (fun b => L1 b ∨ b = W1.heap.size) (updM μ1 hp0.length (.at W1.heap.size)) (.yield hp0.length) (.func (.yield W1.heap.size) #[] #[]) := .yield (zba ..)
      have hlat : Later L (fun b => L1 b ∨ b = W1.heap.size) W (W1.alloc (.loop rec)) := by
        refine ⟨by simp; have := q3.size; omega, fun b hb hl => ?_, fun b o0 e => ?_, fun b hb => ?_⟩
        · exact (Below.heap_alloc _ _ _ (Nat.lt_of_lt_of_le hb q3.size)).trans (q3.same b hb hl)
        · obtain ⟨rs', e1, e2⟩ := q3.shape b o0 e
          exact ⟨rs', (Below.heap_alloc _ _ _ (Array.getElem?_eq_some_iff.1 e1).1).trans e1, e2⟩
        · rcases hb with hb | rfl
          · exact q3.new b hb
          · exact .inr q3.size
      have hext : Ext μ (updM μ1 hp0.length (.at W1.heap.size)) := q4.trans r4
      have hg2 : Globs C (W1.alloc (.loop rec)) (fun b => L1 b ∨ b = W1.heap.size) := Globs.mono h2.glob hlat
      have hdr2 : DR (W1.alloc (.loop rec)) (fun b => L1 b ∨ b = W1.heap.size) (updM μ1 hp0.length (.at W1.heap.size)) df (mark ++ a.defers) := q6.mono r3 r4
      have henv2 := h2.mono hlat hext
      have hgo : ∀ {x : CRes} {hp' : List AB} {tc' : List Nat}, call (.fn (.func gf) first captured) [.yield hp0.length] (hp0 ++ [.loop ⟨.ready, none, st.tm, ps0.toList, as, bd, d⟩]) = some (x, hp', tc') →
          CallsIn F 0 P gf (rf.toArray ++ #[.func (.yield W1.heap.size) #[] #[]] ++ rc.toArray) (W1.alloc (.loop rec)) (CPost P E st.tc (W1.alloc (.loop rec)) (fun b => L1 b ∨ b = W1.heap.size) (updM μ1 hp0.length (.at W1.heap.size)) (hp0 ++ [AB.loop ⟨.ready, none, st.tm, ps0.toList, as, bd, d⟩]).length x hp' tc') ∧
          (invoke (.fn (.func gf) rc.toArray) (rf.toArray ++ #[.func (.yield W1.heap.size) #[] #[]])).run P (W1.alloc (.loop rec)) = .ok (.enter gf (rf.toArray ++ #[.func (.yield W1.heap.size) #[] #[]] ++ rc.toArray)) (W1.alloc (.loop rec)) := by
        intro x hp' tc' hcx
        have hinv : (invoke (.fn (.func gf) rc.toArray) (rf.toArray ++ #[.func (.yield W1.heap.size) #[] #[]])).run P (W1.alloc (.loop rec)) = .ok (.enter gf (rf.toArray ++ #[.func (.yield W1.heap.size) #[] #[]] ++ rc.toArray)) (W1.alloc (.loop rec)) := by
          simp only [invoke]; exact hcall.fn hcx _ _
        refine ⟨?_, hinv⟩
        obtain ⟨r, W', g1, g2⟩ := hcall.sound hcx r2 hg2 (rf := .func (.func gf) rf.toArray rc.toArray) (rargs := #[.func (.yield W1.heap.size) #[] #[]]) (by rw [← hrf]; exact hgv.mono hlat hext) (VL.cons hyv VL.nil)
        have e : (do let d ← Deferred.ofValue (.func (.func gf) rf.toArray rc.toArray) #[.func (.yield W1.heap.size) #[] #[]]; invoke d.target d.args : Sem Next).run P (W1.alloc (.loop rec)) = .ok (.enter gf (rf.toArray ++ #[.func (.yield W1.heap.size) #[] #[]] ++ rc.toArray)) (W1.alloc (.loop rec)) := by
          simp only [Deferred.ofValue, Sem.run_bind, Sem.run_pure, Result.andThen]
          exact hinv
        rw [e] at g1
        cases g1
        exact zgo hF g2
      have hres : (resolve a.eval (rangeCall g0 W1.heap.size) 0).run P (W1.alloc (.loop rec)) = .ok { target := .fn (.func gf) rc.toArray, args := rf.toArray ++ #[.func (.yield W1.heap.size) #[] #[]] } (W1.alloc (.loop rec)) := by
        simp only [resolve, hrf]
        simp [go_sem, Deferred.ofValue]
      split at hx
      · rename_i v hp' tc' hcx
        obtain ⟨c1, c2⟩ := hgo hcx
        refine ⟨W1.heap.size, mark, _, _, _, gf, _, _, hent, hres, fun f _ => hF.fn f, c2, fun hh => by simp [hF.depth] at hh, c1.mono ?_⟩
        rintro en W3 ⟨L3, μ3, p1, p2, p3, p4, p5, p6⟩
        cases en <;> simp only [CRel] at p1
        rename_i w
        split at hx
        · rename_i r hr
          split at hx
          · cases hx
          · rename_i hnb
            have hat : μ3 hp0.length = .at W1.heap.size ∨ μ3 hp0.length = .dead := by
              have := p4 hp0.length (by rw [zba]; simp)
              rwa [zba] at this
            obtain ⟨B3, R3, e1, _, e2, e3⟩ := zlz p2.sim hr (by rcases hat with h | h <;> rw [h] <;> simp)
            have hB : B3 = W1.heap.size := by
              rcases hat with h | h
              · rw [h] at e1; cases e1; rfl
              · rw [h] at e1; cases e1
            subst hB
            have hls : LS r.st R3.state ∧ PE r.pend R3.pending := by
              cases e3 with
              | loop h1 h2 _ _ _ _ _ => exact ⟨h1, h2⟩
            have hend := run_endLoop (P := P) e2 (fun h => hnb ((ls_eq hls.1).1.2 h))
            obtain ⟨y1, y2⟩ := p2.putLoop (o' := .loop { R3 with state := .exhausted }) (blk := .dead) e1 e2 .dead
            have hsr : SR P C E { st with df := df, hp := hp'.set hp0.length .dead, tc := tc'.filter (· < E.pin) ++ st.tc } { a with defers := mark ++ a.defers } (W3.putObj W1.heap.size (.loop { R3 with state := .exhausted })) := by
              have he := (henv2.mono p3 p4).mono y2 (Ext.refl _)
              refine ⟨L3, μ3, y1.more ?_, ⟨he.tmps, he.glob⟩, (hdr2.mono p3 p4).mono y2 (Ext.refl _)⟩
              intro i hi
              rcases List.mem_append.1 hi with hi | hi
              · have := List.mem_filter.1 hi
                simp at this
                have := q2.len
                omega
              · exact hi
            cases hx
            refine ⟨_, _, hend, ?_⟩
            clear hend y1 y2
            revert hsr
            generalize W3.putObj W1.heap.size _ = W4
            intro hsr
            rcases zup hls.2 with ⟨j1, j2⟩ | ⟨i, j1, j2⟩ | ⟨j1, j2⟩ <;> rw [j1, j2]
            · exact ⟨rfl, hsr⟩
            · exact wpIn_exit ⟨rfl, hsr⟩
            · exact wpIn_ret ⟨rfl, hsr⟩
        · cases hx
      · rename_i v hp' tc' hcx
        obtain ⟨c1, c2⟩ := hgo hcx
        refine ⟨W1.heap.size, mark, _, _, _, gf, _, _, hent, hres, fun f _ => hF.fn f, c2, fun hh => by simp [hF.depth] at hh, c1.mono ?_⟩
        rintro en W3 ⟨L3, μ3, p1, p2, p3, p4, p5, p6⟩
        cases en <;> simp only [CRel] at p1
        obtain ⟨w, rfl, hw⟩ := p1
        cases hx
        have he := henv2.mono p3 p4
        exact ⟨v, w, rfl, rfl, L3, μ3, p2, ⟨he.tmps, he.glob⟩, hdr2.mono p3 p4, hw⟩
      · cases hx
    · cases hx
  · cases hc

theorem zhz : ∀ {ps : List Nat} {as : List AV} {xs : List Value} {tm : List AV} {tmps : Array Value}, as.length = ps.length → VL W L μ as xs → VL W L μ tm tmps.toList →
    VL W L μ (setParams tm ps as) ((ps.zip xs).foldl (fun t (p, v) => t.setIfInBounds p v) tmps).toList
  | [], [], [], tm, tmps, _, _, h => by simpa [setParams] using h
  | p :: ps, a :: as, x :: xs, tm, tmps, hl, hv, h => by
    simp only [setParams, List.zip_cons_cons, List.foldl_cons]
    refine zhz (by simpa using hl) hv.tail ?_
    rw [Array.toList_setIfInBounds]
    exact h.set p hv.head
  | _, [], _ :: _, _, _, _, hv, _ => by have := hv.1; simp at this
  | _, _ :: _, [], _, _, _, hv, _ => by have := hv.1; simp at this
  | [], _ :: _, _, _, _, hl, _, _ => by simp at hl
  | _ :: _, [], _, _, _, hl, _, _ => by simp at hl

theorem zyj (hcall : CallOk P C call) {l : Nat} {args : List AV} {rf : Value} {rargs : Array Value} {x : CRes} {H' : List AB} (hx : round C call l args H = some (x, H', tc))
    (h : Hp P E tc0 W L μ H) (hg : Globs C W L) (hf : VR W L μ (.yield l) rf) (hv : VL W L μ args rargs.toList) : GoesTo P rf rargs W (CPost P E tc0 W L μ H.length x H' tc) := by
  unfold round at hx
  split at hx
  · rename_i r hl
    split at hx
    · rename_i hcond
      obtain ⟨hready, hlen⟩ := hcond
      have hno : μ l ≠ .no := by
        cases hf with
        | dead h1 h2 => simp [headRef] at h1; subst h1; rw [h2]; simp
        | yield h1 => rw [h1]; simp
      obtain ⟨B, R, hB, hLB, hR, hbr⟩ := zlz h.sim hl hno
      have hrf : rf = .func (.yield B) #[] #[] := by
        cases hf with
        | dead h1 h2 => simp [headRef] at h1; subst h1; rw [h2] at hB; cases hB
        | yield h1 => rw [h1] at hB; cases hB; rfl
      subst hrf
      obtain ⟨b1, b2, b3, b4, b5, b6⟩ : LS r.st R.state ∧ PE r.pend R.pending ∧ VL W L μ r.tm R.tmps.toList ∧ R.params.toList = r.params ∧ compCode P R.assign = some (strip r.assign) ∧ compCode P R.body = some (strip r.body) := by
        cases hbr with
        | loop h1 h2 h3 h4 h5 h6 _ => exact ⟨h1, h2, h3, h4, h5, h6⟩
      have hsz : rargs.size = R.params.size := by
        have := hv.1
        rw [hlen, ← b4] at this
        simpa using this.symm
      have hrun : (do let d ← Deferred.ofValue (.func (.yield B) #[] #[]) rargs; invoke d.target d.args : Sem Next).run P W = .ok (.round B R.fn ((R.params.zip rargs).foldl (fun tmps (t, a) => tmps.setIfInBounds t a) R.tmps) R.assign R.body) W := by
        simp only [Deferred.ofValue, Sem.run_bind, Sem.run_pure, Result.andThen, invoke]
        rw [show (#[] ++ rargs : Array Value) = rargs by simp]
        exact run_yield hR hsz
      refine ⟨_, _, hrun, ?_⟩
      have hlt : l < H.length := (List.getElem?_eq_some_iff.1 hl).1
      have hF : Wide (P := P) (Fence.wide.inRound B) := zmt ⟨fun _ => trivial, rfl, rfl⟩ B
      have hE := Hp.start (P := P) h.sim
      have hrange : RangeOk P ⟨W, L, μ, H.length⟩ C call (Fence.wide.inRound B) (some l) := zqv hcall hF ⟨B, rfl, hlt, hB⟩
      refine roundIn_of_wpIn trivial ?_
      split at hx
      · rename_i st hev
        have hs0 : SR P C ⟨W, L, μ, H.length⟩ { tm := setParams r.tm r.params args, df := [], hp := H, tc := [] } { tmps := (R.params.zip rargs).foldl (fun tmps (t, a) => tmps.setIfInBounds t a) R.tmps, defers := [] } W := by
          refine ⟨L, μ, hE, ⟨?_, hg⟩, .nil⟩
          have := zhz (ps := r.params) (as := args) (xs := rargs.toList) (tm := r.tm) (tmps := R.tmps) hlen hv b3
          rw [← Array.foldl_toList, Array.toList_zip, b4]
          exact this
        refine wpIn_mono (ev_ok (E := ⟨W, L, μ, H.length⟩) hcall hF (fun hh => by simp at hh) hrange R.assign r.assign _ _ _ _ _ hev b5 hs0) ?_
        intro ex a1 W1 hsees
        split at hx
        · rename_i r1 hl1
          split at hx
          · rename_i hready1
            cases ex with
            | normal =>
              obtain ⟨_, L1, μ1, h1, h2, h3⟩ := hsees
              have hat : ∀ {tc1 W1 L1 μ1 H1}, Hp P ⟨W, L, μ, H.length⟩ tc1 W1 L1 μ1 H1 → ∀ {r1}, H1[l]? = some (.loop r1) → μ1 l = .at B ∧ ∃ R1, W1.heap[B]? = some (.loop R1) ∧ BR P W1 L1 μ1 (.loop r1) (.loop R1) := by
                intro tc1 W1 L1 μ1 H1 h1 r1 hl1
                have hpin := h1.pins l hlt
                obtain ⟨B1, R1, e1, _, e2, e3⟩ := zlz h1.sim hl1 (by
                  rcases hpin with e | ⟨e, _⟩
                  · rw [e]; exact hno
                  · rw [e]; simp)
                rcases hpin with e | ⟨e, _⟩
                · simp only at e; rw [e, hB] at e1; cases e1; exact ⟨e.trans hB, R1, e2, e3⟩
                · rw [e] at e1; cases e1
              obtain ⟨a1', R1, e2, e3⟩ := hat h1 hl1
              obtain ⟨c1, c2, c3, c4, c5, c6, c7⟩ : LS r1.st R1.state ∧ PE r1.pend R1.pending ∧ VL W1 L1 μ1 r1.tm R1.tmps.toList ∧ R1.params.toList = r1.params ∧ compCode P R1.assign = some (strip r1.assign) ∧ compCode P R1.body = some (strip r1.body) ∧ (μ1 r1.dfr = .at R1.defers ∨ μ1 r1.dfr = .dead) := by
                cases e3 with
                | loop h1 h2 h3 h4 h5 h6 h7 => exact ⟨h1, h2, h3, h4, h5, h6, h7⟩
              have hbeg := run_beginRound (P := P) e2 ((ls_eq c1).2.1 hready1)
              refine ⟨_, hbeg, ?_⟩
              have hbusy : BR P W1 L1 μ1 (.loop { r1 with st := .busy }) (.loop { R1 with state := .busy }) := .loop trivial c2 c3 c4 c5 c6 c7
              obtain ⟨d1, d2⟩ := h1.putLoop a1' e2 hbusy
              have hs1 : SR P C ⟨W, L, μ, H.length⟩ { st with hp := st.hp.set l (.loop { r1 with st := .busy }), tc := l :: st.tc } a1 (W1.putObj B (.loop { R1 with state := .busy })) := by
                refine ⟨L1, μ1, d1.more ?_, h2.mono d2 (Ext.refl _), h3.mono d2 (Ext.refl _)⟩
                intro i hi
                rcases List.mem_append.1 hi with hi | hi
                · have := (List.mem_filter.1 hi).1; simp at this; subst this; exact List.mem_cons_self ..
                · exact List.mem_cons_of_mem _ hi
              split at hx
              · rename_i e2' st2 hev2
                refine wpIn_mono (ev_ok (E := ⟨W, L, μ, H.length⟩) hcall hF (fun hh => by simp at hh) hrange R.body r.body _ _ _ _ _ hev2 b6 hs1) ?_
                intro ex2 a2 W2 hsees2
                have hfin : ∀ (p : Option AExit) (j : Option Code), PE p j → SR P C ⟨W, L, μ, H.length⟩ st2 a2 W2 → ∀ r2, st2.hp[l]? = some (.loop r2) →
                    (let hp := st2.hp.set l (.loop { r2 with st := if p.isNone then .ready else .done, pend := p })
                     let (x, hp) := tidyC C H.length (.ret (.bool p.isNone)) hp
                     some (x, overH H hp (l :: st2.tc) ++ hp.drop H.length, l :: st2.tc)) = some (x, H', tc) →
                    ∃ v w', (Instr.endRound B j).run P W2 = .ok v w' ∧ CPost P E tc0 W L μ H.length x H' tc (.returned v) w' := by
                  rintro p j hpj ⟨L2, μ2, k1, k2, k3⟩ r2 hl2 hx
                  obtain ⟨a2', R2, f2, f3⟩ := hat k1 hl2
                  have hpn : p.isNone = j.isNone := by
                    rcases zup hpj with ⟨rfl, rfl⟩ | ⟨i, rfl, rfl⟩ | ⟨rfl, rfl⟩ <;> rfl
                  refine ⟨_, _, run_endRound j f2, ?_⟩
                  have hnew : BR P W2 L2 μ2 (.loop { r2 with st := if p.isNone then .ready else .done, pend := p }) (.loop { R2 with state := if j.isNone then .ready else .done, pending := j }) := by
                    cases f3 with
                    | loop h1 h2 h3 h4 h5 h6 h7 =>
                      refine .loop ?_ hpj h3 h4 h5 h6 h7
                      rw [hpn]; split <;> trivial
                  obtain ⟨m1, m2⟩ := k1.putLoop a2' f2 hnew
                  have m3 : Hp P ⟨W, L, μ, H.length⟩ (l :: st2.tc) (W2.putObj B (.loop { R2 with state := if j.isNone then .ready else .done, pending := j })) L2 μ2 (st2.hp.set l (.loop { r2 with st := if p.isNone then .ready else .done, pend := p })) := m1.more (by
                    intro i hi
                    rcases List.mem_append.1 hi with hi | hi
                    · have := (List.mem_filter.1 hi).1; simp at this; subst this; exact List.mem_cons_self ..
                    · exact List.mem_cons_of_mem _ hi)
                  simp only at hx
                  cases htd : tidyC C H.length (.ret (.bool p.isNone)) (st2.hp.set l (.loop { r2 with st := if p.isNone then .ready else .done, pend := p })) with
                  | mk x2 hp2 =>
                  rw [htd] at hx
                  simp only at hx
                  cases hx
                  obtain ⟨μ3, n1, n2⟩ := zqp (e := .returned (.bool j.isNone)) m3 (by simp only [CRel]; rw [hpn]; exact .bool) htd
                  obtain ⟨μ4, o1, o2, o3, o4, o5, o6⟩ := zll h n1
                  exact ⟨L2, μ4, n2.same o6, o1, o2, o3, o4, o5⟩
                cases ex2 with
                | normal =>
                  obtain ⟨rfl, hs2⟩ := hsees2
                  simp only at hx
                  split at hx <;> first | contradiction | skip
                  rename_i _ _ _ _ r2 hl2 _
                  exact hfin none none trivial hs2 _ hl2 hx
                | ret =>
                  obtain ⟨rfl, hs2⟩ := hsees2
                  simp only at hx
                  split at hx <;> first | contradiction | skip
                  rename_i _ _ _ _ r2 hl2 _
                  exact hfin (some .ret) (some .ret) trivial hs2 _ hl2 hx
                | exit id =>
                  obtain ⟨rfl, hs2⟩ := hsees2
                  simp only at hx
                  split at hx <;> first | contradiction | skip
                  rename_i _ _ _ _ r2 hl2 _
                  exact hfin (some (.exit id)) (some (.exit id)) rfl hs2 _ hl2 hx
                | panic ch =>
                  obtain ⟨v, w, rfl, _⟩ := hsees2
                  simp at hx
                | goto t => exact hsees2.elim
                | outgrown => exact hsees2.elim
              · cases hx
            | _ => first | exact hsees.elim | (obtain ⟨hh, _⟩ := hsees; cases hh; done) | (obtain ⟨_, _, hh, _⟩ := hsees; cases hh; done)
          · cases hx
        · cases hx
      · cases hx
    · cases hx
  · cases hx

theorem znn {hp : List AB} {b : Nat} : ∀ {tc : List Nat}, b ∉ tc → (overH H hp tc)[b]? = H[b]?
  | [], _ => rfl
  | j :: tc, h => by
    simp only [overH]
    rw [List.getElem?_set_ne (by rintro rfl; exact h (List.mem_cons_self ..))]
    exact znn fun hm => h (List.mem_cons_of_mem _ hm)
theorem znm {hp : List AB} {tc : List Nat} : Kept H (overH H hp tc ++ hp.drop H.length) tc :=
  ⟨by simp [zno], fun b hb hn => by
    rw [List.getElem?_append_left (by rw [zno]; exact hb)]
    exact znn hn⟩
theorem zsu {f : Nat} {args : List AV} {x : CRes} {H' : List AB} (hx : enter C call f args H = some (x, H', tc)) : Kept H H' tc := by
  unfold enter at hx
  split at hx
  · obtain ⟨v, hgv, he⟩ := Option.map_eq_some_iff.1 hx
    cases he; exact .refl _ _
  split at hx
  · obtain ⟨v, hgv, he⟩ := Option.map_eq_some_iff.1 hx
    cases he; exact .refl _ _
  · split at hx
    · cases hx
    · cases hwh : C.whole f <;> rw [hwh] at hx <;> simp only [cond_true, cond_false] at hx
      · split at hx
        · split at hx
          · cases hx
            refine ⟨by simp [zbw], fun b hb hn => ?_⟩
            rw [List.getElem?_append_left (by rw [zbw]; exact hb)]
            refine zdy hb fun j hj he => hn (List.mem_map.2 ⟨j, hj, ?_⟩)
            rw [List.getD_eq_getElem?_getD, he]; rfl
          · cases hx
        · cases hx
      · split at hx
        · split at hx
          · rename_i x1 st1 _
            cases hbq : bareQ x1.val st1.tc <;> rw [hbq] at hx <;> simp only [cond_true, cond_false] at hx
            · cases hx; exact znm
            · cases hx; exact .refl _ _
          · cases hx
        · cases hx
theorem zsa {l : Nat} {args : List AV} {x : CRes} {H' : List AB} (hx : round C call l args H = some (x, H', tc)) : Kept H H' tc := by
  unfold round at hx
  repeat' split at hx
  all_goals first | (cases hx; done) | skip
  all_goals
    simp only at hx
    cases hx
    exact znm

theorem call_ok (hT : TblOk P C) : ∀ n, CallOk P C (Ev.call C n)
  | 0 => ⟨fun f args H x H' tc h => (by simp [Ev.call] at h), fun h => (by simp [Ev.call] at h), fun h => (by simp [Ev.call] at h)⟩
  | n + 1 => by
    have ih := call_ok hT n
    have hrange : ∀ E, RangeOk P E C (Ev.call C n) Fence.wide none := fun E => zqv ih ⟨fun _ => trivial, rfl, rfl⟩ rfl
    have hfn : ∀ {f : Nat} {args : List AV} {H : List AB} {r : CRes × List AB × List Nat}, enter C (Ev.call C n) f args H = some r → ∀ (rargs : Array Value) (W : World), (callFunc f rargs).run P W = .ok (.enter f rargs) W := by
      intro f args H r hx rargs W
      unfold enter at hx
      split at hx
      · rename_i g hext
        obtain ⟨⟨F, f1, f2, f3⟩, _⟩ := hT.ext f g hext
        exact zcp f1 f2 f3 _ _
      · split at hx
        · rename_i g hext
          obtain ⟨⟨F, f1, f2, f3⟩, _⟩ := hT.exth f g hext
          exact zcp f1 f2 f3 _ _
        split at hx
        · cases hx
        · rename_i fn hfn
          obtain ⟨F, f1, f2, f3⟩ := hT.fns f fn hfn
          obtain ⟨c, g1, _⟩ := zoi f3
          exact zcp f1 f2 (by rw [g1]; rfl) _ _
    refine ⟨fun f args H x H' tc hx => ?_, fun {f first captured args H r} hx => ?_, ?_⟩
    · simp only [Ev.call] at hx
      split at hx
      · exact zsu hx
      · exact zsa hx
      · cases hx
    · simp only [Ev.call] at hx
      exact hfn hx
    · intro E tc0 W L μ H f args rf rargs x H' tc hx h hg hf hv
      simp only [Ev.call] at hx
      split at hx
      · rename_i f first captured
        obtain ⟨r1, r2, rfl, _, v1, v2⟩ := vr_fn hf
        have hinv : (do let d ← Deferred.ofValue (.func (.func f) r1.toArray r2.toArray) rargs; invoke d.target d.args : Sem Next).run P W = .ok (.enter f (r1.toArray ++ rargs ++ r2.toArray)) W := by
          simp only [Deferred.ofValue, Sem.run_bind, Sem.run_pure, Result.andThen, invoke]
          exact hfn hx _ _
        refine ⟨_, _, hinv, ?_⟩
        refine enter_ok hT ih hrange hx h hg ?_
        simp only [Array.toList_append]
        exact (v1.append hv).append v2
      · exact zyj ih hx h hg hf hv
      · cases hx
end
end Ev
end Go.Proofs.YtlkhjnpflohfeaaDoor

/- Plain functions: what the package cut computes. No program in sight. -/
namespace Go.Proofs.YtlkhjnpflohfeaaDoor

structure Boat where
  draws : Int × Int
  per : Int
  room : Int
structure Look where
  day : Int
  depth : Int × Int
structure CutD where
  depth : Int × Int
  leak : Int × Int
  rain : List (Int × Int)
  most : Int
  boats : List Boat
  looks : List Look

namespace Cut
def nobody : Boat := ⟨(0, 0), 0, 0⟩
def noLook : Look := ⟨0, (0, 0)⟩
def spanAt (l : List (Int × Int)) (i : Nat) : Int × Int := l.getD i (0, 0)
def boatAt (l : List Boat) (i : Nat) : Boat := l.getD i nobody
def lookAt (l : List Look) (i : Nat) : Look := l.getD i noLook

def within (n low high : Int) : Bool := decide (low ≤ n) && decide (n ≤ high)
def isSpan (s : Int × Int) (low high : Int) : Bool := decide (low ≤ s.1) && decide (s.1 ≤ s.2) && decide (s.2 ≤ high)
def dry : Int × Int := (1048576, -1048576)
def some (w : Int × Int) : Bool := decide (w.1 ≤ w.2)
def common (w o : Int × Int) : Int × Int := if max w.1 o.1 ≤ min w.2 o.2 then (max w.1 o.1, min w.2 o.2) else dry
def held (most n : Int) : Int := max 0 (min most n)
def after (by' : Int × Int) (most : Int) (w : Int × Int) : Int × Int := if w.1 ≤ w.2 then (held most (w.1 + by'.1), held most (w.2 + by'.2)) else dry
def before (by' : Int × Int) (most : Int) (w : Int × Int) : Int × Int :=
  if w.1 ≤ w.2 then common (0, most) ((if w.1 = 0 then -65536 else w.1) - by'.2, (if w.2 = most then 65536 else w.2) - by'.1) else dry
def joined : List (Int × Int) → Int × Int
  | [] => (0, 0)
  | x :: l => l.foldl (fun s y => (min s.1 y.1, max s.2 y.2)) x
def lookedTo (l : List Look) (d : Int) (set : Nat) (w : Int × Int) : Nat → Int × Int
  | 0 => w
  | k + 1 => if set.testBit k && decide ((lookAt l k).day = d) then common (lookedTo l d set w k) (lookAt l k).depth else lookedTo l d set w k
def looked (l : List Look) (d : Int) (set : Nat) (w : Int × Int) : Int × Int := lookedTo l d set w l.length
def stepBy (x : CutD) (leak : Int) (d : Nat) : Int × Int := ((spanAt x.rain d).1 - leak, (spanAt x.rain d).2 - leak)
def forth (x : CutD) (leak : Int) (set : Nat) : Nat → Int × Int
  | 0 => looked x.looks 0 set x.depth
  | d + 1 => looked x.looks (d + 1 : Nat) set (after (stepBy x leak d) x.most (forth x leak set d))
def back (x : CutD) (leak : Int) (set : Nat) (n : Nat) : Nat → Int × Int
  | 0 => forth x leak set n
  | k + 1 => common (forth x leak set (n - (k + 1))) (before (stepBy x leak (n - (k + 1))) x.most (back x leak set n k))
def seasonAt (x : CutD) (leak : Int) (set : Nat) (d : Nat) : Int × Int :=
  if d ≤ x.rain.length then back x leak set x.rain.length (x.rain.length - d) else (0, 0)
def season (x : CutD) (leak : Int) (set : Nat) : List (Int × Int) := (List.range 9).map (seasonAt x leak set)
def leaks (x : CutD) : List Int := (List.range (x.leak.2 - x.leak.1 + 1).toNat).map fun (i : Nat) => x.leak.1 + (i : Int)
def can (x : CutD) (set : Nat) : Bool := (leaks x).any fun k => some (seasonAt x k set 0)
def every (x : CutD) : Nat := 2 ^ x.looks.length - 1
def water (x : CutD) (d : Nat) : Int × Int := joined (((leaks x).map fun k => seasonAt x k (every x) d).filter some)
def valid (x : CutD) : Bool :=
  within x.rain.length 1 8 && within x.most 1 100 && isSpan x.depth 0 x.most && isSpan x.leak 0 10 && decide ((x.boats.length : Int) ≤ 4) && decide ((x.looks.length : Int) ≤ 5) &&
  x.rain.all (fun s => isSpan s 0 30) && x.boats.all (fun b => isSpan b.draws 0 100 && within b.per 0 10 && within b.room 0 10) &&
  x.looks.all (fun l => within l.day 0 x.rain.length && isSpan l.depth 0 100)
def isDay (x : CutD) (n : Int) : Bool := within n 0 x.rain.length
def isBoat (x : CutD) (n : Int) : Bool := within n 0 ((x.boats.length : Int) - 1)
def boat (x : CutD) (n : Int) : Boat := boatAt x.boats n.toNat
def isLoads (x : CutD) (b n : Int) : Bool := isBoat x b && within n 0 (boat x b).room

end Cut
end Go.Proofs.YtlkhjnpflohfeaaDoor

/- Plain laws of the spans of package cut: bounds. -/
namespace Go.Proofs.YtlkhjnpflohfeaaDoor.Cut
open Go.Proofs.YtlkhjnpflohfeaaDoor

def Bd (w : Int × Int) : Prop := -1048576 ≤ w.1 ∧ w.1 ≤ 1048576 ∧ -1048576 ≤ w.2 ∧ w.2 ≤ 1048576
theorem dry_bd : Bd dry := by unfold Bd dry; simp
theorem zoj {a b : Int × Int} (ha : Bd a) (hb : Bd b) : Bd (common a b) := by
  unfold common; split
  · unfold Bd at *; simp only; omega
  · exact dry_bd
theorem after_bd (b : Int × Int) {most : Int} (w : Int × Int) (h0 : 0 ≤ most) (h1 : most ≤ 100) : Bd (after b most w) := by
  unfold after; split
  · unfold Bd held; simp only; omega
  · exact dry_bd
theorem ztc {most : Int} (z : Int × Int) (h0 : 0 ≤ most) (h1 : most ≤ 100) : Bd (common (0, most) z) := by
  unfold common
  by_cases h : max (0, most).1 z.1 ≤ min (0, most).2 z.2
  · rw [if_pos h]; simp only at h; unfold Bd; simp only; omega
  · rw [if_neg h]; exact dry_bd
theorem zxd (b : Int × Int) {most : Int} (w : Int × Int) (h0 : 0 ≤ most) (h1 : most ≤ 100) : Bd (before b most w) := by
  unfold before
  by_cases h : w.1 ≤ w.2
  · rw [if_pos h]; exact ztc _ h0 h1
  · rw [if_neg h]; exact dry_bd

structure Valid (x : CutD) : Prop where
  n1 : 1 ≤ x.rain.length
  n8 : x.rain.length ≤ 8
  m1 : 1 ≤ x.most
  m100 : x.most ≤ 100
  d0 : 0 ≤ x.depth.1
  d1 : x.depth.1 ≤ x.depth.2
  d2 : x.depth.2 ≤ x.most
  l0 : 0 ≤ x.leak.1
  l1 : x.leak.1 ≤ x.leak.2
  l2 : x.leak.2 ≤ 10
  b4 : x.boats.length ≤ 4
  k5 : x.looks.length ≤ 5
  rain : ∀ i, i < x.rain.length → 0 ≤ (spanAt x.rain i).1 ∧ (spanAt x.rain i).1 ≤ (spanAt x.rain i).2 ∧ (spanAt x.rain i).2 ≤ 30
  boat : ∀ i, i < x.boats.length → 0 ≤ (boatAt x.boats i).draws.1 ∧ (boatAt x.boats i).draws.1 ≤ (boatAt x.boats i).draws.2 ∧ (boatAt x.boats i).draws.2 ≤ 100 ∧ 0 ≤ (boatAt x.boats i).per ∧ (boatAt x.boats i).per ≤ 10 ∧ 0 ≤ (boatAt x.boats i).room ∧ (boatAt x.boats i).room ≤ 10
  look : ∀ i, i < x.looks.length → 0 ≤ (lookAt x.looks i).day ∧ (lookAt x.looks i).day ≤ x.rain.length ∧ 0 ≤ (lookAt x.looks i).depth.1 ∧ (lookAt x.looks i).depth.1 ≤ (lookAt x.looks i).depth.2 ∧ (lookAt x.looks i).depth.2 ≤ 100

theorem zmd {α : Type} (l : List α) (i : Nat) (d : α) (h : i < l.length) : l.getD i d ∈ l := by
  simp [h]

theorem valid_of {x : CutD} (h : valid x = true) : Valid x := by
  simp only [valid, within, isSpan, Bool.and_eq_true, decide_eq_true_eq, List.all_eq_true] at h
  obtain ⟨⟨⟨⟨⟨⟨⟨⟨h1, h2⟩, h3⟩, h4⟩, h5⟩, h6⟩, h7⟩, h8⟩, h9⟩ := h
  refine ⟨by omega, by omega, by omega, by omega, by omega, by omega, by omega, by omega, by omega, by omega, by omega, by omega, ?_, ?_, ?_⟩
  · intro i hi
    have := h7 _ (zmd x.rain i (0, 0) hi)
    unfold spanAt; omega
  · intro i hi
    have := h8 _ (zmd x.boats i nobody hi)
    unfold boatAt; omega
  · intro i hi
    have := h9 _ (zmd x.looks i noLook hi)
    unfold lookAt; omega

theorem ziz {x : CutD} (h : Valid x) (d : Int) (set : Nat) {w : Int × Int} (hw : Bd w) : ∀ k, k ≤ x.looks.length → Bd (lookedTo x.looks d set w k)
  | 0, _ => hw
  | k + 1, hk => by
    have ih := ziz h d set hw k (by omega)
    unfold lookedTo
    split
    · refine zoj ih ?_
      have := h.look k (by omega)
      unfold Bd; omega
    · exact ih
theorem znt {x : CutD} (h : Valid x) (d : Int) (set : Nat) {w : Int × Int} (hw : Bd w) : Bd (looked x.looks d set w) := ziz h d set hw _ (Nat.le_refl _)
theorem forth_bd {x : CutD} (h : Valid x) (leak : Int) (set : Nat) : ∀ d, Bd (forth x leak set d)
  | 0 => znt h _ _ (by have := h.d0; have := h.d1; have := h.d2; have := h.m100; unfold Bd; omega)
  | d + 1 => znt h _ _ (after_bd _ _ (by have := h.m1; omega) h.m100)
theorem back_bd {x : CutD} (h : Valid x) (leak : Int) (set n : Nat) : ∀ k, Bd (back x leak set n k)
  | 0 => forth_bd h _ _ _
  | k + 1 => zoj (forth_bd h _ _ _) (zxd _ _ (by have := h.m1; omega) h.m100)
theorem seasonAt_bd {x : CutD} (h : Valid x) (leak : Int) (set d : Nat) : Bd (seasonAt x leak set d) := by
  unfold seasonAt; split
  · exact back_bd h _ _ _ _
  · unfold Bd; simp
end Go.Proofs.YtlkhjnpflohfeaaDoor.Cut

/- Plain functions: what the stable sort of Go's library does with a list. No program in sight. -/
namespace Go.Proofs.YtlkhjnpflohfeaaDoor
namespace Srt
def at' (l : List Nat) (i : Nat) : Nat := l.getD i 0
def swap (l : List Nat) (i j : Nat) : List Nat := (l.set i (at' l j)).set j (at' l i)
theorem swap_length (l : List Nat) (i j : Nat) : (swap l i j).length = l.length := by simp [swap]
def insDown (c : Nat → Nat → Int) (a : Nat) (l : List Nat) : Nat → List Nat
  | 0 => l
  | k + 1 => if c (at' l (a + (k + 1))) (at' l (a + k)) < 0 then insDown c a (swap l (a + (k + 1)) (a + k)) k else l
def insTo (c : Nat → Nat → Int) (a : Nat) (l : List Nat) : Nat → List Nat
  | 0 => l
  | m + 1 => insDown c a (insTo c a l m) (m + 1)
def insertion (c : Nat → Nat → Int) (l : List Nat) (a b : Nat) : List Nat := insTo c a l (b - a - 1)
theorem zfj (c : Nat → Nat → Int) (a : Nat) : ∀ (k : Nat) (l : List Nat), (insDown c a l k).length = l.length
  | 0, l => rfl
  | k + 1, l => by
    unfold insDown; split
    · rw [zfj c a k, swap_length]
    · rfl
theorem insTo_length (c : Nat → Nat → Int) (a : Nat) (l : List Nat) : ∀ m, (insTo c a l m).length = l.length
  | 0 => rfl
  | m + 1 => by unfold insTo; rw [zfj, insTo_length c a l m]
def All (D : Nat → Prop) (l : List Nat) : Prop := ∀ i, i < l.length → D (at' l i)
theorem All.swap {D : Nat → Prop} {l : List Nat} (h : All D l) {i j : Nat} (hi : i < l.length) (hj : j < l.length) : All D (swap l i j) := by
  intro k hk
  rw [swap_length] at hk
  unfold Srt.swap at' at *
  rw [List.getD_eq_getElem?_getD, List.getElem?_set]
  split
  · subst_vars; simp [hj]; have := h i hi; simpa [at', hi] using this
  · rw [List.getElem?_set]
    split
    · subst_vars; simp; have := h j hj; simpa [at', hj] using this
    · have := h k hk; simpa [at', hk] using this
theorem All.insDown {D : Nat → Prop} (c : Nat → Nat → Int) (a : Nat) : ∀ (k : Nat) (l : List Nat), All D l → a + k < l.length → All D (insDown c a l k)
  | 0, l, h, _ => h
  | k + 1, l, h, hk => by
    unfold Srt.insDown; split
    · exact All.insDown c a k _ (h.swap hk (by omega)) (by rw [swap_length]; omega)
    · exact h
theorem All.insTo {D : Nat → Prop} (c : Nat → Nat → Int) (a : Nat) (l : List Nat) (h : All D l) : ∀ m, a + m < l.length → All D (insTo c a l m)
  | 0, _ => h
  | m + 1, hm => by
    unfold Srt.insTo
    exact All.insDown c a (m + 1) _ (All.insTo c a l h m (by omega)) (by rw [insTo_length]; exact hm)
def popcA : Nat → Nat → Nat
  | 0, _ => 0
  | f + 1, n => n % 2 + popcA f (n / 2)
def popc (n : Nat) : Nat := popcA 16 n
def bySize (a b : Nat) : Int := (popc a : Int) - (popc b : Int)
theorem zqx : ∀ f n, popcA f n ≤ f
  | 0, _ => Nat.le_refl _
  | f + 1, n => by
    have := zqx f (n / 2)
    unfold popcA; omega
theorem popc_le (n : Nat) : popc n ≤ 16 := zqx 16 n
end Srt
end Go.Proofs.YtlkhjnpflohfeaaDoor

/- Plain functions: what the exported functions of package cut answer. No program in sight. -/
namespace Go.Proofs.YtlkhjnpflohfeaaDoor
namespace Cut
def lead (p : Nat → Bool) : Nat → Nat
  | 0 => 0
  | n + 1 => if lead p n = n ∧ p n = true then n + 1 else lead p n
theorem lead_all (p : Nat → Bool) : ∀ n, (∀ i, i < n → p i = true) → lead p n = n
  | 0, _ => rfl
  | n + 1, h => by
    unfold lead
    rw [if_pos ⟨lead_all p n fun i hi => h i (by omega), h n (by omega)⟩]
theorem lead_stop (p : Nat → Bool) (k : Nat) (hk : p k = false) (h : ∀ i, i < k → p i = true) : ∀ n, k < n → lead p n = k
  | 0, hn => by omega
  | n + 1, hn => by
    unfold lead
    by_cases hkn : k < n
    · rw [lead_stop p k hk h n hkn, if_neg (by omega)]
    · obtain rfl : k = n := by omega
      rw [lead_all p k h, if_neg (by simp [hk])]
def floats (b : Boat) (loads : Int) (s : Int × Int) : Int := if b.draws.2 + b.per * loads ≤ s.1 then 2 else if b.draws.1 + b.per * loads ≤ s.2 then 1 else 0
def suits (x : CutD) (k d : Nat) (sure : Int) (i : Nat) : Bool := decide (sure ≤ floats (boatAt x.boats k) i (water x d))
def loads (x : CutD) (k d : Nat) (sure : Int) : Int := (lead (suits x k d sure) ((boatAt x.boats k).room.toNat + 1) : Nat) - 1
def setTo (p : Nat → Bool) : Nat → Nat
  | 0 => 0
  | n + 1 => if p n then setTo p n + 2 ^ n else setTo p n
theorem setTo_lt (p : Nat → Bool) : ∀ n, setTo p n < 2 ^ n
  | 0 => by simp [setTo]
  | n + 1 => by
    have := setTo_lt p n
    unfold setTo
    rw [Nat.pow_succ]
    split <;> omega
def floatsOn (x : CutD) (k : Nat) (n : Int) (d : Nat) : Int := floats (boatAt x.boats k) n (water x d)
def daysAll (x : CutD) (k : Nat) (n : Int) : Nat := setTo (fun d => floatsOn x k n d == 2) (x.rain.length + 1)
def daysSome (x : CutD) (k : Nat) (n : Int) : Nat := setTo (fun d => floatsOn x k n d != 0) (x.rain.length + 1)
theorem floats_or (b : Boat) (n : Int) (s : Int × Int) : floats b n s = 0 ∨ floats b n s = 1 ∨ floats b n s = 2 := by
  unfold floats; split
  · exact .inr (.inr rfl)
  · split
    · exact .inr (.inl rfl)
    · exact .inl rfl
def findFrom (p : Nat → Bool) (i : Nat) : Nat → Option Nat
  | 0 => none
  | f + 1 => if p i then Option.some i else findFrom p (i + 1) f
def untilOn (x : CutD) (k : Nat) (n : Int) (d : Nat) : Option Nat := findFrom (fun i => floatsOn x k n i == 2) d (x.rain.length + 1 - d)
def sumTo (x : CutD) (d : Nat) : Nat → Int
  | 0 => 0
  | k + 1 => sumTo x d k + max 0 (loads x k d 2)
def togetherOn (x : CutD) (d : Nat) : Int := sumTo x d x.boats.length
theorem lead_le (p : Nat → Bool) : ∀ n, lead p n ≤ n
  | 0 => Nat.le_refl _
  | n + 1 => by
    have := lead_le p n
    unfold lead; split <;> omega
theorem loads_le {x : CutD} (hv : valid x = true) (k d : Nat) (hk : k < x.boats.length) (s : Int) : -1 ≤ loads x k d s ∧ loads x k d s ≤ 10 := by
  have hb := (valid_of hv).boat k hk
  have := lead_le (suits x k d s) ((boatAt x.boats k).room.toNat + 1)
  unfold loads; omega
theorem sumTo_le {x : CutD} (hv : valid x = true) (d : Nat) : ∀ k, k ≤ x.boats.length → 0 ≤ sumTo x d k ∧ sumTo x d k ≤ 10 * k
  | 0, _ => by simp [sumTo]
  | k + 1, hk => by
    have h1 := sumTo_le hv d k (by omega)
    have h2 := loads_le hv k d (by omega) 2
    unfold sumTo; omega
def leakSpans (x : CutD) : List (Int × Int) := ((leaks x).filter fun k => some (seasonAt x k (every x) 0)).map fun k => (k, k)
def leakSpan (x : CutD) : Int × Int := joined (leakSpans x)
theorem leakSpans_pos (x : CutD) (hc : can x (every x) = true) : 0 < (leakSpans x).length := by
  unfold can at hc
  obtain ⟨k, hk, hs⟩ := List.any_eq_true.1 hc
  refine List.length_pos_of_mem (a := (k, k)) (List.mem_map.2 ⟨k, List.mem_filter.2 ⟨hk, hs⟩, rfl⟩)
end Cut
def toldErr (x : CutD) (b : Bool) : Int := if Cut.valid x = false then 1 else if b = false then 2 else if Cut.can x (Cut.every x) = false then 10 else 0
theorem zbq {x : CutD} {b : Bool} (h : Cut.valid x = false) : toldErr x b = 1 := if_pos h
theorem zbz {x : CutD} (h : Cut.valid x = true) : toldErr x false = 2 := by unfold toldErr; rw [if_neg (by simp [h]), if_pos rfl]
theorem zbm {x : CutD} (h : Cut.valid x = true) (hc : Cut.can x (Cut.every x) = false) : toldErr x true = 10 := by unfold toldErr; rw [if_neg (by simp [h]), if_neg (by simp), if_pos hc]
theorem zci {x : CutD} (h : Cut.valid x = true) (hc : Cut.can x (Cut.every x) = true) : toldErr x true = 0 := by unfold toldErr; rw [if_neg (by simp [h]), if_neg (by simp), if_neg (by simp [hc])]

def depthR (x : CutD) (d : Int) : (Int × Int) × Int := if toldErr x (Cut.isDay x d) = 0 then (Cut.water x d.toNat, 0) else ((0, 0), toldErr x (Cut.isDay x d))

def leakR (x : CutD) : (Int × Int) × Int := if toldErr x true = 0 then (Cut.leakSpan x, 0) else ((0, 0), toldErr x true)
theorem zxa {x : CutD} {b : Int} (h : Cut.isBoat x b = true) : ∃ k : Nat, b = k ∧ k < x.boats.length := by
  have h0 : 0 ≤ b ∧ b ≤ (x.boats.length : Int) - 1 := by simpa [Cut.isBoat, Cut.within] using h
  exact ⟨b.toNat, by omega, by omega⟩
theorem day_of {x : CutD} {d : Int} (h : Cut.isDay x d = true) : ∃ k : Nat, d = k ∧ k ≤ x.rain.length := by
  have h0 : 0 ≤ d ∧ d ≤ (x.rain.length : Int) := by simpa [Cut.isDay, Cut.within] using h
  exact ⟨d.toNat, by omega, by omega⟩

def loadsR (x : CutD) (b d : Int) : (Int × Int) × Int :=
  if toldErr x (Cut.isBoat x b && Cut.isDay x d) = 0 then ((Cut.loads x b.toNat d.toNat 2, Cut.loads x b.toNat d.toNat 1), 0) else ((0, 0), toldErr x (Cut.isBoat x b && Cut.isDay x d))

def isB (x : CutD) (b n d : Int) : Bool := Cut.isLoads x b n && Cut.isDay x d
def floatsR (x : CutD) (b n d : Int) : Int × Int := if toldErr x (isB x b n d) = 0 then (Cut.floats (Cut.boatAt x.boats b.toNat) n (Cut.water x d.toNat), 0) else (0, toldErr x (isB x b n d))
theorem zmb {x : CutD} {b n : Int} (hv : Cut.valid x = true) (h : Cut.isLoads x b n = true) : ∃ k m : Nat, b = k ∧ k < x.boats.length ∧ n = m ∧ (m : Int) ≤ (Cut.boatAt x.boats k).room ∧ m ≤ 10 := by
  have h0 : Cut.isBoat x b = true ∧ 0 ≤ n ∧ n ≤ (Cut.boat x b).room := by simpa [Cut.isLoads, Cut.within] using h
  obtain ⟨k, rfl, hk⟩ := zxa h0.1
  have hb := (Cut.valid_of hv).boat k hk
  have h1 : (Cut.boat x k).room = (Cut.boatAt x.boats k).room := rfl
  exact ⟨k, n.toNat, rfl, hk, by omega, by omega, by omega⟩

def daysR (x : CutD) (b n : Int) : (Int × Int) × Int := if toldErr x (Cut.isLoads x b n) = 0 then (((Cut.daysAll x b.toNat n : Nat), (Cut.daysSome x b.toNat n : Nat)), 0) else ((0, 0), toldErr x (Cut.isLoads x b n))

def untilV (o : Option Nat) : Int × Int := match o with | some i => (i, 0) | none => (0, 4)
def untilR (x : CutD) (b n d : Int) : Int × Int := if toldErr x (isB x b n d) = 0 then untilV (Cut.untilOn x b.toNat n d.toNat) else (0, toldErr x (isB x b n d))

def togetherR (x : CutD) (d : Int) : Int × Int := if toldErr x (Cut.isDay x d) = 0 then (Cut.togetherOn x d.toNat, 0) else (0, toldErr x (Cut.isDay x d))

def farD (x : CutD) : Bool := decide (40 < max (max (x.rain.length : Int) x.boats.length) x.looks.length)
def fineD (x : CutD) : Bool := !farD x && Cut.valid x

namespace Srt
def sizeSets (k : Nat) : List Nat := (List.range (k + 1)).flatMap fun s => (List.range (2 ^ k)).filter fun v => popc v == s
end Srt
def clashSet (x : CutD) : Nat := Srt.at' (Srt.sizeSets x.looks.length) (Cut.lead (fun i => Cut.can x (Srt.at' (Srt.sizeSets x.looks.length) i)) (2 ^ x.looks.length))
def clashR (x : CutD) : Int × Int := if Cut.valid x = false then (0, 1) else if Cut.can x (Cut.every x) = true then (0, 4) else ((clashSet x : Nat), 0)

end Go.Proofs.YtlkhjnpflohfeaaDoor

/- The evaluator, gone through with values that are not known: temporaries as lists of pairs, rules for code. -/
namespace Go.Proofs.YtlkhjnpflohfeaaDoor
open Go
namespace Ev
def tmA (N : Nat) : List (Nat × AV) → List AV
  | [] => List.replicate N .unk
  | (t, v) :: l => (tmA N l).set t v
@[simp] theorem zoz (N : Nat) : ∀ l, (tmA N l).length = N
  | [] => by simp [tmA]
  | (t, v) :: l => by simp [tmA, zoz N l]
theorem zap (N t t' : Nat) (v : AV) (l : List (Nat × AV)) : (tmA N ((t, v) :: l)).getD t' .unk = if t' = t then (if t < N then v else .unk) else (tmA N l).getD t' .unk := by
  simp only [tmA, List.getD_eq_getElem?_getD, List.getElem?_set, zoz]
  by_cases h : t = t'
  · subst h; simp; split <;> simp
  · rw [if_neg h, if_neg fun e => h e.symm]
theorem zmx (N t : Nat) : (tmA N []).getD t .unk = .unk := by
  simp only [tmA, List.getD_eq_getElem?_getD, List.getElem?_replicate]
  split <;> rfl
theorem zaa (C : Cfg) (N t t' : Nat) (v : AV) (l : List (Nat × AV)) : val C (tmA N ((t, v) :: l)) (.tmp t') = if t' = t then (if t < N then v else .unk) else val C (tmA N l) (.tmp t') := zap N t t' v l
theorem zab (C : Cfg) (N t : Nat) : val C (tmA N []) (.tmp t) = .unk := zmx N t
theorem zaq (C : Cfg) (tm : List AV) (v : AV) : val C tm (.val v) = v := rfl
theorem zaf (N t : Nat) (v : AV) (l : List (Nat × AV)) : putT (tmA N l) (some t) v = tmA N ((t, v) :: l) := rfl
theorem zag (tm : List AV) (v : AV) : putT tm none v = tm := rfl
def zipI : Nat → List AV → List (Nat × AV) → List (Nat × AV)
  | _, [], acc => acc
  | i, v :: l, acc => zipI (i + 1) l ((i, v) :: acc)
theorem zny (N : Nat) (f : Nat → AV) : ∀ (live : List Nat) (acc : List (Nat × AV)), live.foldl (fun a t => a.set t (f t)) (tmA N acc) = tmA N (live.foldl (fun a t => (t, f t) :: a) acc)
  | [], _ => rfl
  | t :: l, acc => by
    simp only [List.foldl_cons]
    exact zny N f l ((t, f t) :: acc)
def lk (N : Nat) (l : List (Nat × AV)) (t : Nat) : AV := (tmA N l).getD t .unk
theorem zau (N t t' : Nat) (v : AV) (l : List (Nat × AV)) : lk N ((t, v) :: l) t' = if t' = t then (if t < N then v else .unk) else lk N l t' := zap N t t' v l
theorem zas (N : Nat) (live : List Nat) (l : List (Nat × AV)) : keepT live (tmA N l) = tmA N (live.foldl (fun a t => (t, lk N l t) :: a) []) := by
  unfold keepT
  rw [zoz]
  exact zny N (fun t => (tmA N l).getD t .unk) live []
theorem ztl (N : Nat) : ∀ (args : List AV) (i : Nat) (acc : List (Nat × AV)), tmA N (zipI i args acc) = (args.zipIdx i).foldl (fun tm p => tm.set p.2 p.1) (tmA N acc)
  | [], _, _ => rfl
  | v :: l, i, acc => by
    simp only [zipI, List.zipIdx_cons, List.foldl_cons]
    exact ztl N l (i + 1) ((i, v) :: acc)
theorem zrc : ∀ (args pre : List AV) (m : Nat), args.length ≤ m → (args.zipIdx pre.length).foldl (fun tm p => tm.set p.2 p.1) (pre ++ List.replicate m AV.unk) = pre ++ (args ++ List.replicate (m - args.length) .unk)
  | [], pre, m, _ => by simp
  | v :: l, pre, 0, h => by simp at h
  | v :: l, pre, m + 1, h => by
    simp only [List.zipIdx_cons, List.foldl_cons]
    have e : (pre ++ List.replicate (m + 1) AV.unk).set pre.length v = (pre ++ [v]) ++ List.replicate m .unk := by
      rw [List.set_append_right _ _ (Nat.le_refl _), Nat.sub_self, List.replicate_succ]
      simp
    rw [e]
    have := zrc l (pre ++ [v]) m (by simpa using h)
    simp only [List.length_append, List.length_cons, List.length_nil, Nat.zero_add] at this
    rw [this]
    simp
theorem begin_tm {N : Nat} {args : List AV} (h : args.length ≤ N) : args ++ List.replicate (N - args.length) .unk = tmA N (zipI 0 args []) := by
  rw [ztl]
  have := zrc args [] N h
  simp only [List.length_nil, List.nil_append] at this
  rw [← this]; rfl

theorem nat_nn (d : Nat) : ((d : Int) < 0) = False := by simp

def Does (o : Option (AExit × St)) (Q : AExit → St → Prop) : Prop := ∃ e st, o = some (e, st) ∧ Q e st
def DoesO (o : Option (Option AV × St)) (Q : Option AV → St → Prop) : Prop := ∃ r st, o = some (r, st) ∧ Q r st
theorem Does.mono {o : Option (AExit × St)} {Q R : AExit → St → Prop} (h : Does o Q) (k : ∀ e st, Q e st → R e st) : Does o R := by
  obtain ⟨e, st, h1, h2⟩ := h; exact ⟨e, st, h1, k e st h2⟩
section
variable {C : Cfg} {call : CallF} {pin : Nat} {rd : Option Nat} {Q : AExit → St → Prop} {st : St} {a b c : AC}
def Then (C : Cfg) (call : CallF) (pin : Nat) (rd : Option Nat) (b : AC) (Q : AExit → St → Prop) : AExit → St → Prop
  | .normal, st => Does (ev C call pin rd b st) Q
  | e, st => Q e st
def OutB (id : Nat) (Q : AExit → St → Prop) : AExit → St → Prop
  | .exit i, st => if i = id then Q .normal st else Q (.exit i) st
  | e, st => Q e st
def Ops (Q : AExit → St → Prop) : Option AV → St → Prop
  | none, st => Q .normal st
  | some v, st => Q (.panic v) st
theorem zai (h : Q .normal st) : Does (ev C call pin rd .skip st) Q := ⟨_, _, rfl, h⟩
theorem zaj {id : Nat} (h : Q (.exit id) st) : Does (ev C call pin rd (.exit id) st) Q := ⟨_, _, rfl, h⟩
theorem zan (h : Q .ret st) : Does (ev C call pin rd .ret st) Q := ⟨_, _, rfl, h⟩
theorem zam (h : Does (ev C call pin rd a st) (Then C call pin rd b Q)) : Does (ev C call pin rd (.seq a b) st) Q := by
  obtain ⟨e, st1, h1, h2⟩ := h
  unfold Does
  simp only [ev, h1]
  cases e <;> simp only [Then] at h2
  · exact h2
  · exact ⟨_, _, rfl, h2⟩
  · exact ⟨_, _, rfl, h2⟩
  · exact ⟨_, _, rfl, h2⟩
theorem zah {x : Opnd} (hx : val C st.tm x = .bool true) (h : Does (ev C call pin rd a st) Q) : Does (ev C call pin rd (.cond x a b) st) Q := by
  unfold Does at h ⊢
  simp only [ev, hx, cond_true]
  exact h
theorem zad {x : Opnd} (hx : val C st.tm x = .bool false) (h : Does (ev C call pin rd b st) Q) : Does (ev C call pin rd (.cond x a b) st) Q := by
  unfold Does at h ⊢
  simp only [ev, hx, cond_false]
  exact h
theorem zae {id : Nat} (h : Does (ev C call pin rd a st) (OutB id Q)) : Does (ev C call pin rd (.block id a) st) Q := by
  obtain ⟨e, st1, h1, h2⟩ := h
  unfold Does
  simp only [ev, h1]
  cases e with
  | exit i =>
    simp only [OutB] at h2
    split at h2
    · rename_i hi; simp only [hi, if_true]; exact ⟨_, _, rfl, h2⟩
    · rename_i hi; simp only [hi, if_false]; exact ⟨_, _, rfl, h2⟩
  | normal => exact ⟨_, _, rfl, h2⟩
  | ret => exact ⟨_, _, rfl, h2⟩
  | panic v => exact ⟨_, _, rfl, h2⟩
theorem zao {l : List AOp} (h : DoesO (evOps C call pin rd.isSome false l [] st) (Ops Q)) : Does (ev C call pin rd (.ops l) st) Q := by
  obtain ⟨r, st1, h1, h2⟩ := h
  unfold Does
  simp only [ev, h1, Option.map_some]
  cases r with
  | none => exact ⟨_, _, rfl, h2⟩
  | some v => exact ⟨_, _, rfl, h2⟩
theorem zak {l : List AOp} (h : DoesO (evOps C call pin rd.isSome true l [] st) (fun r st => match r with | none => Q .normal st | some v => Q (.panic v) { st with tm := forget (l.filterMap (·.dst)) st.tm })) : Does (ev C call pin rd (.draw l) st) Q := by
  obtain ⟨r, st1, h1, h2⟩ := h
  unfold Does
  simp only [ev, h1, Option.map_some]
  cases r with
  | none => exact ⟨_, _, rfl, h2⟩
  | some v => exact ⟨_, _, rfl, h2⟩
variable {nod drawn : Bool} {fl : List (Nat × List Nat)} {R : Option AV → St → Prop} {o : AOp} {l : List AOp}
theorem zar (h : R none st) : DoesO (evOps C call pin nod drawn [] fl st) R := ⟨_, _, rfl, h⟩
theorem zal {ft : Option (List Nat)} {st1 : St} (h1 : ev1 C call pin nod drawn fl o st = some (.next ft st1)) (h : DoesO (evOps C call pin nod drawn l (addFl o.ix ft fl) st1) R) : DoesO (evOps C call pin nod drawn (o :: l) fl st) R := by
  unfold DoesO at h ⊢
  simp only [evOps, h1]
  exact h
theorem zbf {live : List Nat} (I : Nat → St → Prop) (k : Nat) (hk : k < fuelL) (h0 : I k (gcC C pin { st with tm := keepT live st.tm }))
    (hround : ∀ k st, I k st → Does (ev C call pin rd c st) (fun e st' => match e with | .normal => ∃ k', k = k' + 1 ∧ I k' (gcC C pin { st' with tm := keepT live st'.tm }) | e => Q e st')) : Does (ev C call pin rd (.loop live c) st) Q := by
  have main : ∀ (n k : Nat) (st : St), k < n → I k (gcC C pin { st with tm := keepT live st.tm }) → ∃ e st', loopN (ev C call pin rd c) (fun st => gcC C pin { st with tm := keepT live st.tm }) n st = some (e, st') ∧ Q e st' := by
    intro n
    induction n with
    | zero => intro k st hk; omega
    | succ n ih =>
      intro k st hk hI
      obtain ⟨e, st1, h1, h2⟩ := hround k _ hI
      simp only [loopN, h1]
      cases e with
      | normal =>
        obtain ⟨k', rfl, h3⟩ := h2
        exact ih k' st1 (by omega) h3
      | exit i => exact ⟨_, _, rfl, h2⟩
      | ret => exact ⟨_, _, rfl, h2⟩
      | panic v => exact ⟨_, _, rfl, h2⟩
  obtain ⟨e, st', h1, h2⟩ := main fuelL k st hk h0
  unfold Does
  simp only [ev]
  exact ⟨e, st', h1, h2⟩
end
theorem zat {C : Cfg} (h : C.calm = true) (pin : Nat) (st : St) : gcC C pin st = st := by
  unfold gcC; rw [h]; rfl
theorem zrv {C : Cfg} (h : C.calm = true) (pin : Nat) (x : CRes) (hp : List AB) : tidyC C pin x hp = (x, hp) := by
  unfold tidyC; rw [h]; rfl

def CallsTo (C : Cfg) (n : Nat) (f : AV) (args : List AV) (H : List AB) (R : CRes → List AB → List Nat → Prop) : Prop := ∃ x H' tc, Ev.call C n f args H = some (x, H', tc) ∧ R x H' tc
def Left (H : List AB) (x : CRes) (st : St) (R : CRes → List AB → List Nat → Prop) : Prop := if bareQ x.val st.tc then R x H [] else R x (overH H st.hp st.tc ++ st.hp.drop H.length) st.tc
theorem zfq {C : Cfg} {n f : Nat} {first captured args : List AV} {H : List AB} {R : CRes → List AB → List Nat → Prop} {fn : AFunc} (hc : C.calm = true) (hx : C.ext f = none) (hxh : C.exth f = none) (hf : C.fns f = some fn) (hw : C.whole f = true)
    (hlen : (first ++ args ++ captured).length ≤ fn.ntmps)
    (h : Does (ev C (Ev.call C n) H.length none fn.body { tm := tmA fn.ntmps (zipI 0 (first ++ args ++ captured) []), df := [], hp := H, tc := [] }) fun e st => ∃ x st', finish C H.length fn e st = some (x, st') ∧ Left H x st' R) :
    CallsTo C (n + 1) (.fn (.func f) first captured) args H R := by
  obtain ⟨e, st, h1, x, st', h2, h3⟩ := h
  unfold CallsTo
  simp only [Ev.call, enter, hx, hxh, hf, hw, cond_true]
  rw [begin_tm hlen, h1]
  simp only [h2]
  unfold Left at h3
  split at h3
  · rename_i hb; rw [hb]; exact ⟨_, _, _, rfl, h3⟩
  · rename_i hb
    rw [Bool.not_eq_true] at hb
    rw [hb]
    simp only [cond_false, zrv hc]
    exact ⟨_, _, _, rfl, h3⟩
end Ev
end Go.Proofs.YtlkhjnpflohfeaaDoor

/- A cut, as the evaluator holds it. -/
namespace Go.Proofs.YtlkhjnpflohfeaaDoor
open Go
namespace Ev
def spanE (s : Int × Int) : AV := .agg [.int .i64 s.1, .int .i64 s.2]
def boatE (b : Boat) : AV := .agg [.int .i64 b.draws.1, .int .i64 b.draws.2, .int .i64 b.per, .int .i64 b.room]
def lookE (l : Look) : AV := .agg [.int .i64 l.day, .int .i64 l.depth.1, .int .i64 l.depth.2]
def spanCs : List (Int × Int) → List AV
  | [] => []
  | s :: l => .int .i64 s.1 :: .int .i64 s.2 :: spanCs l
def boatCs : List Boat → List AV
  | [] => []
  | b :: l => .int .i64 b.draws.1 :: .int .i64 b.draws.2 :: .int .i64 b.per :: .int .i64 b.room :: boatCs l
def lookCs : List Look → List AV
  | [] => []
  | b :: l => .int .i64 b.day :: .int .i64 b.depth.1 :: .int .i64 b.depth.2 :: lookCs l
def spansC : List AV → Option (List (Int × Int))
  | [] => some []
  | .int .i64 a :: .int .i64 b :: l => (spansC l).map ((a, b) :: ·)
  | _ => none
def boatsC : List AV → Option (List Boat)
  | [] => some []
  | .int .i64 a :: .int .i64 b :: .int .i64 c :: .int .i64 d :: l => (boatsC l).map (⟨(a, b), c, d⟩ :: ·)
  | _ => none
def looksC : List AV → Option (List Look)
  | [] => some []
  | .int .i64 a :: .int .i64 b :: .int .i64 c :: l => (looksC l).map (⟨a, (b, c)⟩ :: ·)
  | _ => none
@[simp] theorem zub : ∀ l, spansC (spanCs l) = some l
  | [] => rfl
  | s :: l => by simp [spanCs, spansC, zub l]
@[simp] theorem zwy : ∀ l, boatsC (boatCs l) = some l
  | [] => rfl
  | s :: l => by simp [boatCs, boatsC, zwy l]
@[simp] theorem zvk : ∀ l, looksC (lookCs l) = some l
  | [] => rfl
  | s :: l => by simp [lookCs, looksC, zvk l]
theorem zuc : ∀ {cs l}, spansC cs = some l → cs = spanCs l := by
  intro cs
  induction cs using spansC.induct with
  | case1 => intro l h; cases h; rfl
  | case2 a b cs ih =>
    intro l h
    obtain ⟨l', h1, rfl⟩ := Option.map_eq_some_iff.1 h
    rw [ih h1]; rfl
  | case3 cs h1 h2 => intro l h; unfold spansC at h; split at h <;> first | exact absurd rfl h1 | exact (h2 _ _ _ rfl).elim | cases h
theorem zwz : ∀ {cs l}, boatsC cs = some l → cs = boatCs l := by
  intro cs
  induction cs using boatsC.induct with
  | case1 => intro l h; cases h; rfl
  | case2 a b c d cs ih =>
    intro l h
    obtain ⟨l', h1, rfl⟩ := Option.map_eq_some_iff.1 h
    rw [ih h1]; rfl
  | case3 cs h1 h2 => intro l h; unfold boatsC at h; split at h <;> first | exact absurd rfl h1 | exact (h2 _ _ _ _ _ rfl).elim | cases h
theorem zvl : ∀ {cs l}, looksC cs = some l → cs = lookCs l := by
  intro cs
  induction cs using looksC.induct with
  | case1 => intro l h; cases h; rfl
  | case2 a b c cs ih =>
    intro l h
    obtain ⟨l', h1, rfl⟩ := Option.map_eq_some_iff.1 h
    rw [ih h1]; rfl
  | case3 cs h1 h2 => intro l h; unfold looksC at h; split at h <;> first | exact absurd rfl h1 | exact (h2 _ _ _ _ rfl).elim | cases h
@[simp] theorem zsv : ∀ l : List (Int × Int), elemCells (l.map spanE) = spanCs l
  | [] => rfl
  | s :: l => by simp [elemCells, spanE, spanCs, AV.cells, zsv l]
@[simp] theorem zsx : ∀ l : List Boat, elemCells (l.map boatE) = boatCs l
  | [] => rfl
  | s :: l => by simp [elemCells, boatE, boatCs, AV.cells, zsx l]
@[simp] theorem zsw : ∀ l : List Look, elemCells (l.map lookE) = lookCs l
  | [] => rfl
  | s :: l => by simp [elemCells, lookE, lookCs, AV.cells, zsw l]
@[simp] theorem zkg : ∀ l, (spanCs l).length = l.length * 2
  | [] => rfl
  | s :: l => by simp [spanCs, zkg l]; omega
@[simp] theorem zle : ∀ l, (boatCs l).length = l.length * 4
  | [] => rfl
  | s :: l => by simp [boatCs, zle l]; omega
@[simp] theorem zkq : ∀ l, (lookCs l).length = l.length * 3
  | [] => rfl
  | s :: l => by simp [lookCs, zkq l]; omega
def cutA (c : CutD) : AV := .agg [.int .i64 c.depth.1, .int .i64 c.depth.2, .int .i64 c.leak.1, .int .i64 c.leak.2, .vs 2 (c.rain.map spanE), .int .i64 c.most, .vs 4 (c.boats.map boatE), .vs 3 (c.looks.map lookE)]
def cutOf (H : List AB) : AV → Option CutD
  | .agg [.int .i64 a, .int .i64 b, .int .i64 c, .int .i64 d, rv, .int .i64 m, bv, lv] =>
    match (slCells 2 H rv).bind spansC, (slCells 4 H bv).bind boatsC, (slCells 3 H lv).bind looksC with
    | some r, some b', some l => some ⟨(a, b), (c, d), r, m, b', l⟩
    | _, _, _ => none
  | _ => none
@[simp] theorem zta (H : List AB) (c : CutD) : cutOf H (cutA c) = some c := by
  simp [cutOf, cutA, slCells]
end Ev
end Go.Proofs.YtlkhjnpflohfeaaDoor

/- What the functions of package cut answer, as the evaluator is told; numbers. -/
namespace Go.Proofs.YtlkhjnpflohfeaaDoor
open Go
namespace Ev
structure Api where
  depth : CutD → Int → (Int × Int) × Int
  leak : CutD → (Int × Int) × Int
  floats : CutD → Int → Int → Int → Int × Int
  loads : CutD → Int → Int → (Int × Int) × Int
  days : CutD → Int → Int → (Int × Int) × Int
  wait : CutD → Int → Int → Int → Int × Int
  together : CutD → Int → Int × Int
  clash : CutD → Int × Int
  fine : CutD → Bool
  far : CutD → Bool
  valid : CutD → Bool
def twoA (r : Int × Int) : AV := .tup [.int .i64 r.1, .int .i64 r.2]
def twoS (r : (Int × Int) × Int) : AV := .tup [.agg [.int .i64 r.1.1, .int .i64 r.1.2], .int .i64 r.2]
def three (r : (Int × Int) × Int) : AV := .tup [.int .i64 r.1.1, .int .i64 r.1.2, .int .i64 r.2]
theorem zfe (H : List AB) (a b k l m : Int) (r : List (Int × Int)) (bs : List Boat) (ls : List Look) :
    cutOf H (.agg [.int .i64 a, .int .i64 b, .int .i64 k, .int .i64 l, .vs 2 (r.map spanE), .int .i64 m, .vs 4 (bs.map boatE), .vs 3 (ls.map lookE)]) = some ⟨(a, b), (k, l), r, m, bs, ls⟩ := zta H ⟨(a, b), (k, l), r, m, bs, ls⟩
theorem zbb {n : Int} (h1 : -9223372036854775808 ≤ n) (h2 : n ≤ 9223372036854775807) : IntKind.i64.wrap n = n := by
  simp [IntKind.wrap, IntKind.bits, IntKind.signed]
  split <;> omega
end Ev
end Go.Proofs.YtlkhjnpflohfeaaDoor

/- The law CutWaits: what it comes to; how a law ends. -/
namespace Go.Proofs.YtlkhjnpflohfeaaDoor
open Go
namespace Ev
set_option maxRecDepth 100000
structure Hidden (p : Prop) : Prop where
  out : p
theorem hideP {p : Prop} (h : p) : Hidden p := ⟨h⟩
def Yes (t : Nat) (e : AExit) (st : St) : Prop := e = .ret ∧ st.df = [] ∧ st.tm.getD t .unk = .bool true
def sumTo (f : Nat → Int) : Nat → Int
  | 0 => 0
  | k + 1 => sumTo f k + max 0 (f k)
theorem sumTo_le {f : Nat → Int} {n : Nat} (h : ∀ i, i < n → -1 ≤ f i ∧ f i ≤ 100) : ∀ k, k ≤ n → 0 ≤ sumTo f k ∧ sumTo f k ≤ 100 * k
  | 0, _ => by simp [sumTo]
  | k + 1, hk => by
    have := sumTo_le h k (by omega)
    have := h k (by omega)
    simp only [sumTo]
    omega
def Gives (t : Nat) (v : AV) (e : AExit) (st : St) : Prop := e = .ret ∧ st.df = [] ∧ st.tc = [] ∧ st.tm.getD t .unk = v
end Ev
end Go.Proofs.YtlkhjnpflohfeaaDoor

/- The plain law of CutWaits. -/
namespace Go.Proofs.YtlkhjnpflohfeaaDoor
open Go
def specApi : Ev.Api := ⟨depthR, leakR, floatsR, loadsR, daysR, untilR, togetherR, clashR, fineD, farD, Cut.valid⟩
namespace Cut
end Cut
end Go.Proofs.YtlkhjnpflohfeaaDoor
