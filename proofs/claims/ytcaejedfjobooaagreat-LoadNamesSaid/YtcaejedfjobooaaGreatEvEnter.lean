/- A call of a function. -/
import Derived.Test.YtcaejedfjobooaaGreatEvBack
namespace Go.Proofs.YtcaejedfjobooaaGreat
open Go Go.RowKit
namespace Ev

theorem CRes.val_map (g : AV → AV) (x : CRes) : (x.map g).val = g x.val := by cases x <;> rfl

theorem refsL_nil : ∀ {l : List AV} {x : AV}, refsL l = [] → x ∈ l → refs x = []
  | v :: l, x, h, hx => by
    simp only [refsL, List.append_eq_nil_iff] at h
    rcases List.mem_cons.1 hx with rfl | hx
    · exact h.1
    · exact refsL_nil h.2 hx

/-- What the evaluator is told of the program. -/
structure TblOk (P : Program) (C : Cfg) : Prop where
  fns : ∀ f fn, C.fns f = some fn → ∃ F, P.funcs[f]? = some F ∧ (F.name == "runtime.NumGoroutine") = false ∧ compFn P F = some fn.strip
  ext : ∀ f g, C.ext f = some g → (∃ F, P.funcs[f]? = some F ∧ (F.name == "runtime.NumGoroutine") = false ∧ F.body.isNone = false) ∧
    ∀ (args : List AV) (v : AV) (rargs : Array Value) (W : World) (L : Nat → Prop) (μ : Mu), g args = some v → VL W L μ args rargs.toList →
      CallsIn Fence.wide 0 P f rargs W fun e W' => (∃ w, e = .returned w ∧ ∀ W L μ, VR W L μ v w) ∧ Below W.heap.size W W'
  exth : ∀ f g, C.exth f = some g → (∃ F, P.funcs[f]? = some F ∧ (F.name == "runtime.NumGoroutine") = false ∧ F.body.isNone = false) ∧
    ∀ (args : List AV) (H : List AB) (v : AV) (rargs : Array Value) (W : World) (L : Nat → Prop) (μ : Mu), g args H = some v → VL W L μ args rargs.toList → Sim P W L μ H → Globs C W L →
      CallsIn Fence.wide 0 P f rargs W fun e W' => (∃ w, e = .returned w ∧ VR W' L nomu v w) ∧ Below W.heap.size W W'
  dfk : ∀ f t ag, C.dfk f = some (t, ag) → DfOk P f t ag

theorem compFn_ok {P : Program} {F : Func} {fn : AFunc} (h : compFn P F = some fn.strip) : ∃ c, F.body = some c ∧ compCode P c = some (strip fn.body) ∧ compRes P F.results.toList = some fn.res ∧ F.ntmps = fn.ntmps := by
  unfold compFn at h
  split at h
  · rename_i c r h1 h2
    obtain ⟨c', h3, h4⟩ := Option.map_eq_some_iff.1 h
    have e1 := congrArg AFunc.ntmps h4
    have e2 := congrArg AFunc.res h4
    have e3 := congrArg AFunc.body h4
    simp only [AFunc.strip] at e1 e2 e3
    subst e3 e2
    exact ⟨c, h1, h3, h2, e1⟩
  · cases h

section
variable {P : Program} {E : Ent} {C : Cfg} {W W' : World} {L L' : Nat → Prop} {μ μ' : Mu} {tc tc0 : List Nat} {H : List AB} {call : CallF}

theorem CRel.ren {x : CRes} {e : Ending} (h : CRel W L μ x e) (σ : Nat → Option Nat) (hs : ∀ i j, σ i = some j → μ' j = μ i) : CRel W L μ' (x.map (ren σ)) e := by
  cases x <;> cases e <;> simp only [CRel, CRes.map] at h ⊢
  · exact h.ren σ hs
  · obtain ⟨w, h1, h2⟩ := h; exact ⟨w, h1, h2.ren σ hs⟩

theorem tidy_ok {x x2 : CRes} {hp hp2 : List AB} {e : Ending} (h : Hp P E tc W L μ hp) (hr : CRel W L μ x e) (ht : tidy E.pin x hp = (x2, hp2)) : ∃ μ', Hp P E tc W L μ' hp2 ∧ CRel W L μ' x2 e := by
  unfold tidy at ht
  simp only at ht
  generalize hr1 : reach hp fuelR ((List.range E.pin).flatMap fun i => refsB (hp.getD i .dead)) (List.range E.pin) = r1 at ht
  obtain ⟨⟨m1, e1⟩, n1⟩ := reach_acc hp fuelR ((List.range E.pin).flatMap fun i => refsB (hp.getD i .dead)) (List.range E.pin) (nodup_range _)
  rw [hr1] at e1 n1
  generalize hr2 : reach hp fuelR (refs x.val) r1 = r at ht
  obtain ⟨⟨m2, e2⟩, n2⟩ := reach_acc hp fuelR (refs x.val) r1 n1
  rw [hr2] at e2 n2
  have hpin : ∀ i, i < E.pin → r[i]? = some i := fun i hi => by
    rw [e2, e1, List.append_assoc, List.getElem?_append_left (by simpa using hi)]
    simp [hi]
  cases ht
  exact ⟨muR r μ, h.part n2 hpin, hr.ren _ muR_place⟩

theorem tidyC_ok {x x2 : CRes} {hp hp2 : List AB} {e : Ending} (h : Hp P E tc W L μ hp) (hr : CRel W L μ x e) (ht : tidyC C E.pin x hp = (x2, hp2)) : ∃ μ', Hp P E tc W L μ' hp2 ∧ CRel W L μ' x2 e := by
  unfold tidyC at ht
  cases hb : Nat.ble hp.length (E.pin + C.gcAt) <;> rw [hb] at ht
  · exact tidy_ok h hr ht
  · cases ht; exact ⟨μ, h, hr⟩

theorem CRel.same {x : CRes} {e : Ending} (h : CRel W L μ x e) (hs : ∀ j, μ' j = μ j) : CRel W L μ' x e := by
  rw [show μ' = μ from funext hs]; exact h

/-- What names no block is the same wherever these lie. -/
theorem VR.bare {v : AV} {r : Value} (hv : VR W L μ v r) : refs v = [] → VR W L μ' v r := by
    induction hv with
    | unk => intro _; exact .unk
    | dead h1 => intro hr; rename_i v _ _ _ _; cases v <;> simp [headRef] at h1 <;> simp [refs] at hr
    | bool => intro _; exact .bool
    | int => intro _; exact .int
    | nilp => intro _; exact .nilp
    | ptr => intro hr; simp [refs] at hr
    | rp rs h1 h2 => intro _; exact .rp rs h1 h2
    | nils => intro _; exact .nils
    | sl => intro hr; simp [refs] at hr
    | vs rs h1 h2 h3 h4 => intro _; exact .vs rs h1 h2 h3 h4
    | vs0 => intro _; exact .vs0
    | nilmap => intro _; exact .nilmap
    | map => intro hr; simp [refs] at hr
    | nilfn => intro _; exact .nilfn
    | fn hf h1 h2 h3 h4 ih1 ih2 =>
      intro hr
      simp only [refs, List.append_eq_nil_iff] at hr
      exact .fn hf h1 (fun i x r a b => ih1 i x r a b (refsL_nil hr.1 (List.mem_of_getElem? a))) h3 (fun i x r a b => ih2 i x r a b (refsL_nil hr.2 (List.mem_of_getElem? a)))
    | yield => intro hr; simp [refs] at hr
    | nilif => intro _; exact .nilif
    | iface _ ih => intro hr; exact .iface (ih (by simpa [refs] using hr))
    | agg h1 h2 ih => intro hr; exact .agg h1 fun i x r a b => ih i x r a b (refsL_nil (by simpa [refs] using hr) (List.mem_of_getElem? a))
    | tup h1 h2 ih => intro hr; exact .tup h1 fun i x r a b => ih i x r a b (refsL_nil (by simpa [refs] using hr) (List.mem_of_getElem? a))
theorem CRel.bare {x : CRes} {e : Ending} (h : CRel W L μ x e) (hb : (refs x.val) = []) : CRel W L μ' x e := by
  cases x <;> cases e <;> simp only [CRel, CRes.val] at h hb ⊢
  · exact h.bare hb
  · obtain ⟨w, h1, h2⟩ := h; exact ⟨w, h1, h2.bare hb⟩

/-! What is reached from what is known is known. -/
mutual
theorem refs_ok (hno : ∀ i, μ i ≠ .no → True) : ∀ (v : AV) {x : Value}, VR W L μ v x → ∀ b, b ∈ refs v → μ b ≠ .no
  | .ptr b off, x, h, c, hc => by
    simp [refs] at hc; subst hc
    cases h with
    | dead h1 h2 => simp [headRef] at h1; subst h1; rw [h2]; simp
    | ptr h1 => rw [h1]; simp
  | .sl b off n k, x, h, c, hc => by
    simp [refs] at hc; subst hc
    cases h with
    | dead h1 h2 => simp [headRef] at h1; subst h1; rw [h2]; simp
    | sl h1 => rw [h1]; simp
  | .map b, x, h, c, hc => by
    simp [refs] at hc; subst hc
    cases h with
    | dead h1 h2 => simp [headRef] at h1; subst h1; rw [h2]; simp
    | map h1 => rw [h1]; simp
  | .yield b, x, h, c, hc => by
    simp [refs] at hc; subst hc
    cases h with
    | dead h1 h2 => simp [headRef] at h1; subst h1; rw [h2]; simp
    | yield h1 => rw [h1]; simp
  | .fn f as bs, x, h, c, hc => by
    obtain ⟨rf, rc, _, _, h1, h2⟩ := vr_fn h
    simp only [refs, List.mem_append] at hc
    rcases hc with hc | hc
    · exact refsL_ok hno as h1 c hc
    · exact refsL_ok hno bs h2 c hc
  | .iface t v, x, h, c, hc => by
    obtain ⟨y, _, h1⟩ := vr_iface h
    exact refs_ok hno v h1 c (by simpa [refs] using hc)
  | .agg cs, x, h, c, hc => by
    obtain ⟨rs, _, h1⟩ := vr_agg h
    exact refsL_ok hno cs h1 c (by simpa [refs] using hc)
  | .tup cs, x, h, c, hc => by
    obtain ⟨rs, _, h1⟩ := vr_tup h
    exact refsL_ok hno cs h1 c (by simpa [refs] using hc)
  | .unk, _, _, _, hc => by simp [refs] at hc
  | .bool _, _, _, _, hc => by simp [refs] at hc
  | .int _ _, _, _, _, hc => by simp [refs] at hc
  | .nilp, _, _, _, hc => by simp [refs] at hc
  | .rp _, _, _, _, hc => by simp [refs] at hc
  | .nils, _, _, _, hc => by simp [refs] at hc
  | .vs _ _, _, _, _, hc => by simp [refs] at hc
  | .nilmap, _, _, _, hc => by simp [refs] at hc
  | .nilfn, _, _, _, hc => by simp [refs] at hc
  | .nilif, _, _, _, hc => by simp [refs] at hc
theorem refsL_ok (hno : ∀ i, μ i ≠ .no → True) : ∀ (l : List AV) {xs : List Value}, VL W L μ l xs → ∀ b, b ∈ refsL l → μ b ≠ .no
  | [], _, _, c, hc => by simp [refsL] at hc
  | v :: l, xs, h, c, hc => by
    simp only [refsL, List.mem_append] at hc
    match xs, h with
    | x :: xs, h =>
      rcases hc with hc | hc
      · exact refs_ok hno v h.head c hc
      · exact refsL_ok hno l h.tail c hc
    | [], h => have := h.1; simp at this
end

theorem refsE_ok : ∀ {es : List (AV × AV)} {res : List MapEntry}, es.length = res.length → (∀ (i : Nat) (k v : AV) (e : MapEntry), es[i]? = some (k, v) → res[i]? = some e → VR W L μ k e.key ∧ VR W L μ v e.val) → ∀ b, b ∈ refsE es → μ b ≠ .no
  | [], _, _, _, c, hc => by simp [refsE] at hc
  | (k, v) :: es, res, hl, h, c, hc => by
    match res, hl, h with
    | e :: res, hl, h =>
      obtain ⟨h1, h2⟩ := h 0 k v e rfl rfl
      simp only [refsE, List.mem_append] at hc
      rcases hc with hc | hc | hc
      · exact refs_ok (fun _ _ => trivial) k h1 c hc
      · exact refs_ok (fun _ _ => trivial) v h2 c hc
      · exact refsE_ok (by simpa using hl) (fun i k v e a b => h (i + 1) k v e (by simpa using a) (by simpa using b)) c hc
    | [], hl, _ => simp at hl

theorem refsB_ok {b : AB} {o : Obj} (h : BR P W L μ b o) : ∀ c, c ∈ refsB b → μ c ≠ .no := by
  intro c hc
  cases h with
  | @cells cs rs t h1 h2 =>
    have hvl : VL W L μ cs (rs.toList.take cs.length) := ⟨by simp; omega, fun i x r hx hr => by
      have hi : i < cs.length := (List.getElem?_eq_some_iff.1 hx).1
      rw [List.getElem?_take_of_lt hi] at hr
      exact h2 i x r hx (by simpa using hr)⟩
    exact refsL_ok (fun _ _ => trivial) cs hvl c (by simpa [refsB] using hc)
  | map h1 h2 => exact refsE_ok (by rw [Array.length_toList]; exact h1) (fun i k v e a b => h2 i k v e a (by simpa using b)) c (by simpa [refsB] using hc)
  | loop h1 h2 h3 h4 h5 h6 h7 =>
    simp only [refsB, List.mem_cons] at hc
    rcases hc with rfl | hc
    · rcases h7 with h7 | h7 <;> rw [h7] <;> simp
    · exact refsL_ok (fun _ _ => trivial) _ h3 c hc
  | dfr => simp [refsB] at hc
  | dead => simp [refsB] at hc

theorem reach_known (h : Sim P W L μ H) : ∀ (n : Nat) (todo acc : List Nat), (∀ b, b ∈ todo → μ b ≠ .no) → (∀ b, b ∈ acc → μ b ≠ .no) → ∀ b, b ∈ reach H n todo acc → μ b ≠ .no
  | 0, _, acc, _, ha, b, hb => ha b (by simpa [reach] using hb)
  | n + 1, [], acc, _, ha, b, hb => ha b (by simpa [reach] using hb)
  | n + 1, c :: todo, acc, ht, ha, b, hb => by
    simp only [reach] at hb
    split at hb
    · exact reach_known h n todo acc (fun b hb => ht b (List.mem_cons_of_mem _ hb)) ha b hb
    · have hc := ht c (List.mem_cons_self ..)
      refine reach_known h n _ _ (fun d hd => ?_) (fun d hd => ?_) b hb
      · rcases List.mem_append.1 hd with hd | hd
        · rw [List.getD_eq_getElem?_getD] at hd
          cases hcb : H[c]? with
          | none => rw [hcb] at hd; simp [refsB] at hd
          | some blk =>
            rw [hcb] at hd
            simp only [Option.getD_some] at hd
            cases hm : μ c with
            | no => exact absurd hm hc
            | dead => rw [h.dead c blk hm hcb] at hd; simp [refsB] at hd
            | «at» B =>
              obtain ⟨_, _, blk', o, e1, _, e3⟩ := h.live c B hm
              rw [hcb] at e1; cases e1
              exact refsB_ok e3 d hd
        · exact ht d (List.mem_cons_of_mem _ hd)
      · rcases List.mem_append.1 hd with hd | hd
        · exact ha d hd
        · simp at hd; subst hd; exact hc

/-- What a range over a function asks of the round about it. -/
def RdOk (E : Ent) (F : Fence) (rd : Option Nat) : Prop := match rd with
  | none => F.round = none
  | some l => ∃ B, F.round = some B ∧ l < E.pin ∧ E.μ l = .at B

theorem enter_ok (hT : TblOk P C) (hcall : CallOk P C call) (hrange : ∀ E, RangeOk P E C call Fence.wide none) {f : Nat} {args : List AV} {rargs : Array Value} {x : CRes} {H' : List AB} (hx : enter C call f args H = some (x, H', tc))
    (h : Hp P E tc0 W L μ H) (hg : Globs C W L) (hv : VL W L μ args rargs.toList) : CallsIn Fence.wide 0 P f rargs W (CPost P E tc0 W L μ H.length x H' tc) := by
  unfold enter at hx
  split at hx
  · rename_i g hext
    obtain ⟨v, hgv, he⟩ := Option.map_eq_some_iff.1 hx
    cases he
    refine ((hT.ext f g hext).2 args v rargs W L μ hgv hv).mono ?_
    rintro e W' ⟨⟨w, rfl, hw⟩, hb⟩
    obtain ⟨q1, q2⟩ := h.below hb
    exact ⟨L, μ, hw _ _ _, q1.more (fun i hi => List.mem_append_right _ hi), q2, Ext.refl _, fun _ h => h, fun _ _ h => h⟩
  · split at hx
    · rename_i g hext
      obtain ⟨v, hgv, he⟩ := Option.map_eq_some_iff.1 hx
      cases he
      refine ((hT.exth f g hext).2 args H v rargs W L μ hgv hv h.sim hg).mono ?_
      rintro e W' ⟨⟨w, rfl, hw⟩, hb⟩
      obtain ⟨q1, q2⟩ := h.below hb
      exact ⟨L, μ, hw.lift, q1.more (fun i hi => List.mem_append_right _ hi), q2, Ext.refl _, fun _ h => h, fun _ _ h => h⟩
    split at hx
    · cases hx
    · rename_i fn hfn
      obtain ⟨F, f1, _, f3⟩ := hT.fns f fn hfn
      obtain ⟨c, g1, g2, g3, g4⟩ := compFn_ok f3
      have main : ∀ (μ0 : Mu) (args0 : List AV) (H0 : List AB), Hp P ⟨W, L, μ0, H0.length⟩ [] W L μ0 H0 → VL W L μ0 args0 rargs.toList → ∀ (e : AExit) (st : St), ev C call H0.length none fn.body { tm := args0 ++ List.replicate (fn.ntmps - args0.length) .unk, df := [], hp := H0, tc := [] } = some (e, st) →
          ∀ (x1 : CRes) (st1 : St), finish C H0.length fn e st = some (x1, st1) → (∀ e W', FPost P C ⟨W, L, μ0, H0.length⟩ x1 st1 e W' → CPost P E tc0 W L μ H.length x H' tc e W') → CallsIn Fence.wide 0 P f rargs W (CPost P E tc0 W L μ H.length x H' tc) := by
        intro μ0 args0 H0 hE hv0 e st hev x1 st1 hfin hmono
        refine callsIn_of_wp_marks f1 g1 trivial ?_
        have hs0 : SR P C ⟨W, L, μ0, H0.length⟩ { tm := args0 ++ List.replicate (fn.ntmps - args0.length) .unk, df := [], hp := H0, tc := [] } { tmps := rargs ++ Array.replicate (F.ntmps - rargs.size) undef, defers := [] } W := by
          refine ⟨L, μ0, hE, ⟨?_, hg⟩, .nil⟩
          rw [Array.toList_append, Array.toList_replicate, g4, show rargs.size = args0.length from by have := hv0.1; simpa using this.symm]
          exact hv0.append (VL.replicate _ .unk)
        have hwp := ev_ok (F := Fence.wide) (rd := none) hcall ⟨fun _ => trivial, rfl, rfl⟩ (fun _ => rfl) (hrange _) c fn.body _ _ _ _ _ hev g2 hs0
        refine wpIn_mono hwp ?_
        intro ex a W1 hsees
        have hfp := finish_ok hT.dfk g3 hfin hsees
        have hLm : ∀ ds u W', LeavesInM Fence.wide 0 P F a.tmps (FPost P C ⟨W, L, μ0, H0.length⟩ x1 st1) ds u W' → LeavesInM Fence.wide 0 P F a.tmps (CPost P E tc0 W L μ H.length x H' tc) ds u W' := by
          intro ds
          induction ds with
          | nil =>
            intro u W' hh
            cases u with
            | run => exact hh.elim
            | returning => obtain ⟨v, hv, hR⟩ := hh; exact ⟨v, hv, hmono _ _ hR⟩
            | panicking chain => exact hmono _ _ hh
          | cons d ds ih =>
            rintro u W' ⟨h1, h2⟩
            refine ⟨h1, ?_⟩
            rcases h2 with ⟨r, w', k1, k2, k3⟩ | ⟨k0, fv, cap, f, args, k1, k2, k3, k4⟩
            · exact .inl ⟨r, w', k1, k2, ih _ _ k3⟩
            · refine .inr ⟨k0, fv, cap, f, args, k1, k2, k3, k4.mono ?_⟩
              intro e u' w' hh
              cases e with
              | returned v => exact ih _ _ hh
              | panicked chain => exact ih _ _ hh
              | outgrown => exact hmono _ _ hh
        cases ex with
        | normal => exact hLm _ _ _ hfp
        | ret => exact hLm _ _ _ hfp
        | panic chain => exact hLm _ _ _ hfp
        | outgrown => exact hmono _ _ hfp
        | exit j => exact hfp.elim
        | goto l => exact hfp.elim
      cases hwh : C.whole f <;> rw [hwh] at hx <;> simp only [cond_true, cond_false] at hx
      case true =>
        split at hx
        · rename_i e st hev
          split at hx
          · rename_i x1 st1 hfin
            refine main μ args H (Hp.start h.sim) hv e st hev x1 st1 hfin ?_
            rintro en W2 ⟨L2, μ2, q1, q2, q3⟩
            cases hbq : bareQ x1.val st1.tc <;> rw [hbq] at hx <;> simp only [cond_true, cond_false] at hx
            · cases htd : tidyC C H.length x1 st1.hp with
              | mk x2 hp2 =>
              rw [htd] at hx
              simp only at hx
              cases hx
              obtain ⟨μ3, q4, q5⟩ := tidyC_ok (E := ⟨W, L, μ, H.length⟩) q1 q2 htd
              obtain ⟨μ4, b1, b2, b3, b4, b5, b6⟩ := whole_ok h q4
              exact ⟨L2, μ4, q5.same b6, b1, b2, b3, b4, b5⟩
            · cases hx
              simp only [bareQ, Bool.and_eq_true, List.isEmpty_iff] at hbq
              have q1' := q1.part (r := List.range H.length) List.nodup_range (fun i hi => by simp only at hi; simp [hi])
              rw [hbq.1] at q1'
              obtain ⟨μ4, b1, b2, b3, b4, b5, b6⟩ := whole_ok h q1'
              simp only [overH] at b1
              rw [List.drop_eq_nil_of_le (by rw [restrict_len]; simp), List.append_nil] at b1
              exact ⟨L2, μ4, q2.bare hbq.2, b1, b2, b3, b4, b5⟩
          · cases hx
        · cases hx
      have hn : (reach H fuelR (refsL args) []).Nodup := (reach_acc H fuelR (refsL args) [] List.nodup_nil).2
      have hkn : ∀ b, b ∈ reach H fuelR (refsL args) [] → μ b ≠ .no := reach_known h.sim _ _ _ (refsL_ok (fun _ _ => trivial) args hv) (fun b hb => by cases hb)
      generalize reach H fuelR (refsL args) [] = r at hx hn hkn
      have hr : ∀ i, i ∈ r → i < H.length := fun i hi => by
        rcases Nat.lt_or_ge i H.length with h1 | h1
        · exact h1
        · exact absurd (h.sim.out i h1) (hkn i hi)
      have hE : Hp P ⟨W, L, muR r μ, r.length⟩ [] W L (muR r μ) (restrict H r) := by
        have := Hp.start (P := P) (h.sim.part hn)
        rwa [restrict_len] at this
      split at hx
      · rename_i e st hev
        split at hx
        · rename_i x1 st1 hfin
          have hlr : (restrict H r).length = r.length := restrict_len
          have hla : (renL (place r) args).length = args.length := by rw [renL_eq, List.length_map]
          refine main (muR r μ) (renL (place r) args) (restrict H r) (by rw [hlr]; exact hE) (hv.ren _ muR_place) e st (by rw [hlr, hla]; exact hev) x1 st1 (by rw [hlr]; exact hfin) ?_
          rintro en W2 ⟨L2, μ2, q1, q2, q3⟩
          rw [hlr] at q1
          cases htd : tidy r.length x1 st1.hp with
          | mk x2 hp2 =>
          rw [htd] at hx
          simp only at hx
          cases hx
          obtain ⟨μ3, q4, q5⟩ := tidy_ok (E := ⟨W, L, muR r μ, r.length⟩) q1 q2 htd
          obtain ⟨b1, b2, b3, b4, b5⟩ := back_ok h hn hr q4
          exact ⟨L2, _, q5.ren _ (backM_back hn hr), b1, b2, b3, b4, b5⟩
        · cases hx
      · cases hx
end
end Ev
end Go.Proofs.YtcaejedfjobooaaGreat
