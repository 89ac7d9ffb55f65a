/- A region that draws its order and lays one new variable (operation p): the variable's address is not known ahead, for others may lay blocks before it. All operations before the last ones, but p, are quiet in both classes of worlds: those before p, those behind it. -/
import Derived.Test.YtlkhjnpflohfeaaDoorShRC
import Derived.RangeFuncNested
import Derived.Test.YtlkhjnpflohfeaaDoorShRB
import Derived.Test.YtlkhjnpflohfeaaDoorProg
import Derived.WalkKit
import Derived.WalkSpells
import Derived.WalkLawsBesides
import Derived.Handy
import Derived.Lib.Hide
import Derived.Deep.QuietTactic
import Derived.BigQuiet
import Derived.Recover
import Derived.RangeFuncBound
import Derived.RangeFuncCalls
import Derived.RangeFuncLeaves
import Derived.OwnWalkIn
import Derived.TacticsInMore
import Derived.LoopNIn
import Derived.LoopIn
import Derived.StillTail
import Derived.StillTailTactics
import Derived.Below
/- A call of a function. -/
namespace Go.Proofs.YtlkhjnpflohfeaaDoor
open Go Go.RowKit
namespace Ev

theorem refsL_nil : ∀ {l : List AV} {x : AV}, refsL l = [] → x ∈ l → refs x = []
  | v :: l, x, h, hx => by
    simp only [refsL, List.append_eq_nil_iff] at h
    rcases List.mem_cons.1 hx with rfl | hx
    · exact h.1
    · exact refsL_nil h.2 hx

/-- What the evaluator is told of the program. -/
structure TblOk (P : Program) (C : Cfg) : Prop where
  fns : ∀ f fn, C.fns f = some fn → ∃ F, P.funcs[f]? = some F ∧ (F.name == "runtime.NumGoroutine") = false ∧ compFn P F = some fn.strip
  ext : ∀ f g, C.ext f = some g → (∃ F, P.funcs[f]? = some F ∧ (F.name == "runtime.NumGoroutine") = false ∧ F.body.isNone = false) ∧
    ∀ (args : List AV) (v : AV) (rargs : Array Value) (W : World) (L : Nat → Prop) (μ : Mu), g args = some v → VL W L μ args rargs.toList →
      CallsIn Fence.wide 0 P f rargs W fun e W' => (∃ w, e = .returned w ∧ ∀ W L μ, VR W L μ v w) ∧ Below W.heap.size W W'
  exth : ∀ f g, C.exth f = some g → (∃ F, P.funcs[f]? = some F ∧ (F.name == "runtime.NumGoroutine") = false ∧ F.body.isNone = false) ∧
    ∀ (args : List AV) (H : List AB) (v : AV) (rargs : Array Value) (W : World) (L : Nat → Prop) (μ : Mu), g args H = some v → VL W L μ args rargs.toList → Sim P W L μ H → Globs C W L →
      CallsIn Fence.wide 0 P f rargs W fun e W' => (∃ w, e = .returned w ∧ VR W' L nomu v w) ∧ Below W.heap.size W W'
  dfk : ∀ f t ag, C.dfk f = some (t, ag) → DfOk P f t ag

theorem compFn_ok {P : Program} {F : Func} {fn : AFunc} (h : compFn P F = some fn.strip) : ∃ c, F.body = some c ∧ compCode P c = some (strip fn.body) ∧ compRes P F.results.toList = some fn.res ∧ F.ntmps = fn.ntmps := by
  unfold compFn at h
  split at h
  · rename_i c r h1 h2
    obtain ⟨c', h3, h4⟩ := Option.map_eq_some_iff.1 h
    have e1 := congrArg AFunc.ntmps h4
    have e2 := congrArg AFunc.res h4
    have e3 := congrArg AFunc.body h4
    simp only [AFunc.strip] at e1 e2 e3
    subst e3 e2
    exact ⟨c, h1, h3, h2, e1⟩
  · cases h

section
variable {P : Program} {E : Ent} {C : Cfg} {W W' : World} {L L' : Nat → Prop} {μ μ' : Mu} {tc tc0 : List Nat} {H : List AB} {call : CallF}

theorem CRel.ren {x : CRes} {e : Ending} (h : CRel W L μ x e) (σ : Nat → Option Nat) (hs : ∀ i j, σ i = some j → μ' j = μ i) : CRel W L μ' (x.map (ren σ)) e := by
  cases x <;> cases e <;> simp only [CRel, CRes.map] at h ⊢
  · exact h.ren σ hs
  · obtain ⟨w, h1, h2⟩ := h; exact ⟨w, h1, h2.ren σ hs⟩

theorem tidy_ok {x x2 : CRes} {hp hp2 : List AB} {e : Ending} (h : Hp P E tc W L μ hp) (hr : CRel W L μ x e) (ht : tidy E.pin x hp = (x2, hp2)) : ∃ μ', Hp P E tc W L μ' hp2 ∧ CRel W L μ' x2 e := by
  unfold tidy at ht
  simp only at ht
  generalize hr1 : reach hp fuelR ((List.range E.pin).flatMap fun i => refsB (hp.getD i .dead)) (List.range E.pin) = r1 at ht
  obtain ⟨⟨m1, e1⟩, n1⟩ := reach_acc hp fuelR ((List.range E.pin).flatMap fun i => refsB (hp.getD i .dead)) (List.range E.pin) (nodup_range _)
  rw [hr1] at e1 n1
  generalize hr2 : reach hp fuelR (refs x.val) r1 = r at ht
  obtain ⟨⟨m2, e2⟩, n2⟩ := reach_acc hp fuelR (refs x.val) r1 n1
  rw [hr2] at e2 n2
  have hpin : ∀ i, i < E.pin → r[i]? = some i := fun i hi => by
    rw [e2, e1, List.append_assoc, List.getElem?_append_left (by simpa using hi)]
    simp [hi]
  cases ht
  exact ⟨muR r μ, h.part n2 hpin, hr.ren _ muR_place⟩

theorem tidyC_ok {x x2 : CRes} {hp hp2 : List AB} {e : Ending} (h : Hp P E tc W L μ hp) (hr : CRel W L μ x e) (ht : tidyC C E.pin x hp = (x2, hp2)) : ∃ μ', Hp P E tc W L μ' hp2 ∧ CRel W L μ' x2 e := by
  unfold tidyC at ht
  cases hb : (C.calm || Nat.ble hp.length (E.pin + C.gcAt)) <;> rw [hb] at ht
  · exact tidy_ok h hr ht
  · cases ht; exact ⟨μ, h, hr⟩

theorem CRel.same {x : CRes} {e : Ending} (h : CRel W L μ x e) (hs : ∀ j, μ' j = μ j) : CRel W L μ' x e := by
  rw [show μ' = μ from funext hs]; exact h

/-- What names no block is the same wherever these lie. -/
theorem VR.bare {v : AV} {r : Value} (hv : VR W L μ v r) : refs v = [] → VR W L μ' v r := by
    induction hv with
    | unk => intro _; exact .unk
    | dead h1 => intro hr; rename_i v _ _ _ _; cases v <;> simp [headRef] at h1 <;> simp [refs] at hr
    | bool => intro _; exact .bool
    | int => intro _; exact .int
    | nilp => intro _; exact .nilp
    | ptr => intro hr; simp [refs] at hr
    | rp rs h1 h2 => intro _; exact .rp rs h1 h2
    | nils => intro _; exact .nils
    | sl => intro hr; simp [refs] at hr
    | vs rs h1 h2 h3 h4 => intro _; exact .vs rs h1 h2 h3 h4
    | vs0 => intro _; exact .vs0
    | nilmap => intro _; exact .nilmap
    | map => intro hr; simp [refs] at hr
    | nilfn => intro _; exact .nilfn
    | fn hf h1 h2 h3 h4 ih1 ih2 =>
      intro hr
      simp only [refs, List.append_eq_nil_iff] at hr
      exact .fn hf h1 (fun i x r a b => ih1 i x r a b (refsL_nil hr.1 (List.mem_of_getElem? a))) h3 (fun i x r a b => ih2 i x r a b (refsL_nil hr.2 (List.mem_of_getElem? a)))
    | yield => intro hr; simp [refs] at hr
    | stamp => intro hr; simp [refs] at hr
    | nilif => intro _; exact .nilif
    | iface _ ih => intro hr; exact .iface (ih (by simpa [refs] using hr))
    | agg h1 h2 ih => intro hr; exact .agg h1 fun i x r a b => ih i x r a b (refsL_nil (by simpa [refs] using hr) (List.mem_of_getElem? a))
    | tup h1 h2 ih => intro hr; exact .tup h1 fun i x r a b => ih i x r a b (refsL_nil (by simpa [refs] using hr) (List.mem_of_getElem? a))
theorem CRel.bare {x : CRes} {e : Ending} (h : CRel W L μ x e) (hb : (refs x.val) = []) : CRel W L μ' x e := by
  cases x <;> cases e <;> simp only [CRel, CRes.val] at h hb ⊢
  · exact h.bare hb
  · obtain ⟨w, h1, h2⟩ := h; exact ⟨w, h1, h2.bare hb⟩

/-! What is reached from what is known is known. -/
mutual
theorem refs_ok (hno : ∀ i, μ i ≠ .no → True) : ∀ (v : AV) {x : Value}, VR W L μ v x → ∀ b, b ∈ refs v → μ b ≠ .no
  | .ptr b off, x, h, c, hc => by
    simp [refs] at hc; subst hc
    cases h with
    | dead h1 h2 => simp [headRef] at h1; subst h1; rw [h2]; simp
    | ptr h1 => rw [h1]; simp
  | .sl b off n k, x, h, c, hc => by
    simp [refs] at hc; subst hc
    cases h with
    | dead h1 h2 => simp [headRef] at h1; subst h1; rw [h2]; simp
    | sl h1 => rw [h1]; simp
  | .map b, x, h, c, hc => by
    simp [refs] at hc; subst hc
    cases h with
    | dead h1 h2 => simp [headRef] at h1; subst h1; rw [h2]; simp
    | map h1 => rw [h1]; simp
  | .stamp b i, x, h, c, hc => by
    simp [refs] at hc; subst hc
    cases h with
    | dead h1 h2 => simp [headRef] at h1; subst h1; rw [h2]; simp
    | stamp h1 => rw [h1]; simp
  | .yield b, x, h, c, hc => by
    simp [refs] at hc; subst hc
    cases h with
    | dead h1 h2 => simp [headRef] at h1; subst h1; rw [h2]; simp
    | yield h1 => rw [h1]; simp
  | .fn f as bs, x, h, c, hc => by
    obtain ⟨rf, rc, _, _, h1, h2⟩ := vr_fn h
    simp only [refs, List.mem_append] at hc
    rcases hc with hc | hc
    · exact refsL_ok hno as h1 c hc
    · exact refsL_ok hno bs h2 c hc
  | .iface t v, x, h, c, hc => by
    obtain ⟨y, _, h1⟩ := vr_iface h
    exact refs_ok hno v h1 c (by simpa [refs] using hc)
  | .agg cs, x, h, c, hc => by
    obtain ⟨rs, _, h1⟩ := vr_agg h
    exact refsL_ok hno cs h1 c (by simpa [refs] using hc)
  | .tup cs, x, h, c, hc => by
    obtain ⟨rs, _, h1⟩ := vr_tup h
    exact refsL_ok hno cs h1 c (by simpa [refs] using hc)
  | .unk, _, _, _, hc => by simp [refs] at hc
  | .bool _, _, _, _, hc => by simp [refs] at hc
  | .int _ _, _, _, _, hc => by simp [refs] at hc
  | .nilp, _, _, _, hc => by simp [refs] at hc
  | .rp _, _, _, _, hc => by simp [refs] at hc
  | .nils, _, _, _, hc => by simp [refs] at hc
  | .vs _ _, _, _, _, hc => by simp [refs] at hc
  | .nilmap, _, _, _, hc => by simp [refs] at hc
  | .nilfn, _, _, _, hc => by simp [refs] at hc
  | .nilif, _, _, _, hc => by simp [refs] at hc
theorem refsL_ok (hno : ∀ i, μ i ≠ .no → True) : ∀ (l : List AV) {xs : List Value}, VL W L μ l xs → ∀ b, b ∈ refsL l → μ b ≠ .no
  | [], _, _, c, hc => by simp [refsL] at hc
  | v :: l, xs, h, c, hc => by
    simp only [refsL, List.mem_append] at hc
    match xs, h with
    | x :: xs, h =>
      rcases hc with hc | hc
      · exact refs_ok hno v h.head c hc
      · exact refsL_ok hno l h.tail c hc
    | [], h => have := h.1; simp at this
end

theorem refsE_ok : ∀ {es : List (AV × AV)} {res : List MapEntry}, es.length = res.length → (∀ (i : Nat) (k v : AV) (e : MapEntry), es[i]? = some (k, v) → res[i]? = some e → VR W L μ k e.key ∧ VR W L μ v e.val) → ∀ b, b ∈ refsE es → μ b ≠ .no
  | [], _, _, _, c, hc => by simp [refsE] at hc
  | (k, v) :: es, res, hl, h, c, hc => by
    match res, hl, h with
    | e :: res, hl, h =>
      obtain ⟨h1, h2⟩ := h 0 k v e rfl rfl
      simp only [refsE, List.mem_append] at hc
      rcases hc with hc | hc | hc
      · exact refs_ok (fun _ _ => trivial) k h1 c hc
      · exact refs_ok (fun _ _ => trivial) v h2 c hc
      · exact refsE_ok (by simpa using hl) (fun i k v e a b => h (i + 1) k v e (by simpa using a) (by simpa using b)) c hc
    | [], hl, _ => simp at hl

theorem refsB_ok {b : AB} {o : Obj} (h : BR P W L μ b o) : ∀ c, c ∈ refsB b → μ c ≠ .no := by
  intro c hc
  cases h with
  | @cells cs rs t h1 h2 =>
    have hvl : VL W L μ cs (rs.toList.take cs.length) := ⟨by simp; omega, fun i x r hx hr => by
      have hi : i < cs.length := (List.getElem?_eq_some_iff.1 hx).1
      rw [List.getElem?_take_of_lt hi] at hr
      exact h2 i x r hx (by simpa using hr)⟩
    exact refsL_ok (fun _ _ => trivial) cs hvl c (by simpa [refsB] using hc)
  | map _ h1 h2 => exact refsE_ok (by rw [Array.length_toList]; exact h1) (fun i k v e a b => h2 i k v e a (by simpa using b)) c (by simpa [refsB] using hc)
  | loop h1 h2 h3 h4 h5 h6 h7 =>
    simp only [refsB, List.mem_cons] at hc
    rcases hc with rfl | hc
    · rcases h7 with h7 | h7 <;> rw [h7] <;> simp
    · exact refsL_ok (fun _ _ => trivial) _ h3 c hc
  | dfr => simp [refsB] at hc
  | dead => simp [refsB] at hc

theorem reach_known (h : Sim P W L μ H) : ∀ (n : Nat) (todo acc : List Nat), (∀ b, b ∈ todo → μ b ≠ .no) → (∀ b, b ∈ acc → μ b ≠ .no) → ∀ b, b ∈ reach H n todo acc → μ b ≠ .no
  | 0, _, acc, _, ha, b, hb => ha b (by simpa [reach] using hb)
  | n + 1, [], acc, _, ha, b, hb => ha b (by simpa [reach] using hb)
  | n + 1, c :: todo, acc, ht, ha, b, hb => by
    simp only [reach] at hb
    split at hb
    · exact reach_known h n todo acc (fun b hb => ht b (List.mem_cons_of_mem _ hb)) ha b hb
    · have hc := ht c (List.mem_cons_self ..)
      refine reach_known h n _ _ (fun d hd => ?_) (fun d hd => ?_) b hb
      · rcases List.mem_append.1 hd with hd | hd
        · rw [List.getD_eq_getElem?_getD] at hd
          cases hcb : H[c]? with
          | none => rw [hcb] at hd; simp [refsB] at hd
          | some blk =>
            rw [hcb] at hd
            simp only [Option.getD_some] at hd
            cases hm : μ c with
            | no => exact absurd hm hc
            | dead => rw [h.dead c blk hm hcb] at hd; simp [refsB] at hd
            | «at» B =>
              obtain ⟨_, _, blk', o, e1, _, e3⟩ := h.live c B hm
              rw [hcb] at e1; cases e1
              exact refsB_ok e3 d hd
        · exact ht d (List.mem_cons_of_mem _ hd)
      · rcases List.mem_append.1 hd with hd | hd
        · exact ha d hd
        · simp at hd; subst hd; exact hc

/-- What a range over a function asks of the round about it. -/
def RdOk (E : Ent) (F : Fence) (rd : Option Nat) : Prop := match rd with
  | none => F.round = none
  | some l => ∃ B, F.round = some B ∧ l < E.pin ∧ E.μ l = .at B

theorem enter_ok (hT : TblOk P C) (hcall : CallOk P C call) (hrange : ∀ E, RangeOk P E C call Fence.wide none) {f : Nat} {args : List AV} {rargs : Array Value} {x : CRes} {H' : List AB} (hx : enter C call f args H = some (x, H', tc))
    (h : Hp P E tc0 W L μ H) (hg : Globs C W L) (hv : VL W L μ args rargs.toList) : CallsIn Fence.wide 0 P f rargs W (CPost P E tc0 W L μ H.length x H' tc) := by
  unfold enter at hx
  split at hx
  · rename_i g hext
    obtain ⟨v, hgv, he⟩ := Option.map_eq_some_iff.1 hx
    cases he
    refine ((hT.ext f g hext).2 args v rargs W L μ hgv hv).mono ?_
    rintro e W' ⟨⟨w, rfl, hw⟩, hb⟩
    obtain ⟨q1, q2⟩ := h.below hb
    exact ⟨L, μ, hw _ _ _, q1.more (fun i hi => List.mem_append_right _ hi), q2, Ext.refl _, fun _ h => h, fun _ _ h => h⟩
  · split at hx
    · rename_i g hext
      obtain ⟨v, hgv, he⟩ := Option.map_eq_some_iff.1 hx
      cases he
      refine ((hT.exth f g hext).2 args H v rargs W L μ hgv hv h.sim hg).mono ?_
      rintro e W' ⟨⟨w, rfl, hw⟩, hb⟩
      obtain ⟨q1, q2⟩ := h.below hb
      exact ⟨L, μ, hw.lift, q1.more (fun i hi => List.mem_append_right _ hi), q2, Ext.refl _, fun _ h => h, fun _ _ h => h⟩
    split at hx
    · cases hx
    · rename_i fn hfn
      obtain ⟨F, f1, _, f3⟩ := hT.fns f fn hfn
      obtain ⟨c, g1, g2, g3, g4⟩ := compFn_ok f3
      have main : ∀ (μ0 : Mu) (args0 : List AV) (H0 : List AB), Hp P ⟨W, L, μ0, H0.length⟩ [] W L μ0 H0 → VL W L μ0 args0 rargs.toList → ∀ (e : AExit) (st : St), ev C call H0.length none fn.body { tm := args0 ++ List.replicate (fn.ntmps - args0.length) .unk, df := [], hp := H0, tc := [] } = some (e, st) →
          ∀ (x1 : CRes) (st1 : St), finish C H0.length fn e st = some (x1, st1) → (∀ e W', FPost P C ⟨W, L, μ0, H0.length⟩ x1 st1 e W' → CPost P E tc0 W L μ H.length x H' tc e W') → CallsIn Fence.wide 0 P f rargs W (CPost P E tc0 W L μ H.length x H' tc) := by
        intro μ0 args0 H0 hE hv0 e st hev x1 st1 hfin hmono
        refine callsIn_of_wp_marks f1 g1 trivial ?_
        have hs0 : SR P C ⟨W, L, μ0, H0.length⟩ { tm := args0 ++ List.replicate (fn.ntmps - args0.length) .unk, df := [], hp := H0, tc := [] } { tmps := rargs ++ Array.replicate (F.ntmps - rargs.size) undef, defers := [] } W := by
          refine ⟨L, μ0, hE, ⟨?_, hg⟩, .nil⟩
          rw [Array.toList_append, Array.toList_replicate, g4, show rargs.size = args0.length from by have := hv0.1; simpa using this.symm]
          exact hv0.append (VL.replicate _ .unk)
        have hwp := ev_ok (F := Fence.wide) (rd := none) hcall ⟨fun _ => trivial, rfl, rfl⟩ (fun _ => rfl) (hrange _) c fn.body _ _ _ _ _ hev g2 hs0
        refine wpIn_mono hwp ?_
        intro ex a W1 hsees
        have hfp := finish_ok hT.dfk g3 hfin hsees
        have hLm : ∀ ds u W', LeavesInM Fence.wide 0 P F a.tmps (FPost P C ⟨W, L, μ0, H0.length⟩ x1 st1) ds u W' → LeavesInM Fence.wide 0 P F a.tmps (CPost P E tc0 W L μ H.length x H' tc) ds u W' := by
          intro ds
          induction ds with
          | nil =>
            intro u W' hh
            cases u with
            | run => exact hh.elim
            | returning => obtain ⟨v, hv, hR⟩ := hh; exact ⟨v, hv, hmono _ _ hR⟩
            | panicking chain => exact hmono _ _ hh
          | cons d ds ih =>
            rintro u W' ⟨h1, h2⟩
            refine ⟨h1, ?_⟩
            rcases h2 with ⟨r, w', k1, k2, k3⟩ | ⟨k0, fv, cap, f, args, k1, k2, k3, k4⟩
            · exact .inl ⟨r, w', k1, k2, ih _ _ k3⟩
            · refine .inr ⟨k0, fv, cap, f, args, k1, k2, k3, k4.mono ?_⟩
              intro e u' w' hh
              cases e with
              | returned v => exact ih _ _ hh
              | panicked chain => exact ih _ _ hh
              | outgrown => exact hmono _ _ hh
        cases ex with
        | normal => exact hLm _ _ _ hfp
        | ret => exact hLm _ _ _ hfp
        | panic chain => exact hLm _ _ _ hfp
        | outgrown => exact hmono _ _ hfp
        | exit j => exact hfp.elim
        | goto l => exact hfp.elim
      cases hwh : C.whole f <;> rw [hwh] at hx <;> simp only [cond_true, cond_false] at hx
      case true =>
        split at hx
        · rename_i e st hev
          split at hx
          · rename_i x1 st1 hfin
            refine main μ args H (Hp.start h.sim) hv e st hev x1 st1 hfin ?_
            rintro en W2 ⟨L2, μ2, q1, q2, q3⟩
            cases hbq : bareQ x1.val st1.tc <;> rw [hbq] at hx <;> simp only [cond_true, cond_false] at hx
            · cases htd : tidyC C H.length x1 st1.hp with
              | mk x2 hp2 =>
              rw [htd] at hx
              simp only at hx
              cases hx
              obtain ⟨μ3, q4, q5⟩ := tidyC_ok (E := ⟨W, L, μ, H.length⟩) q1 q2 htd
              obtain ⟨μ4, b1, b2, b3, b4, b5, b6⟩ := whole_ok h q4
              exact ⟨L2, μ4, q5.same b6, b1, b2, b3, b4, b5⟩
            · cases hx
              simp only [bareQ, Bool.and_eq_true, List.isEmpty_iff] at hbq
              have q1' := q1.part (r := List.range H.length) List.nodup_range (fun i hi => by simp only at hi; simp [hi])
              rw [hbq.1] at q1'
              obtain ⟨μ4, b1, b2, b3, b4, b5, b6⟩ := whole_ok h q1'
              simp only [overH] at b1
              rw [List.drop_eq_nil_of_le (by rw [restrict_len]; simp), List.append_nil] at b1
              exact ⟨L2, μ4, q2.bare hbq.2, b1, b2, b3, b4, b5⟩
          · cases hx
        · cases hx
      have hn : (reach H fuelR (refsL args) []).Nodup := (reach_acc H fuelR (refsL args) [] List.nodup_nil).2
      have hkn : ∀ b, b ∈ reach H fuelR (refsL args) [] → μ b ≠ .no := reach_known h.sim _ _ _ (refsL_ok (fun _ _ => trivial) args hv) (fun b hb => by cases hb)
      generalize reach H fuelR (refsL args) [] = r at hx hn hkn
      have hr : ∀ i, i ∈ r → i < H.length := fun i hi => by
        rcases Nat.lt_or_ge i H.length with h1 | h1
        · exact h1
        · exact absurd (h.sim.out i h1) (hkn i hi)
      have hE : Hp P ⟨W, L, muR r μ, r.length⟩ [] W L (muR r μ) (restrict H r) := by
        have := Hp.start (P := P) (h.sim.part hn)
        rwa [restrict_len] at this
      split at hx
      · rename_i e st hev
        split at hx
        · rename_i x1 st1 hfin
          have hlr : (restrict H r).length = r.length := restrict_len
          have hla : (renL (place r) args).length = args.length := by rw [renL_eq, List.length_map]
          refine main (muR r μ) (renL (place r) args) (restrict H r) (by rw [hlr]; exact hE) (hv.ren _ muR_place) e st (by rw [hlr, hla]; exact hev) x1 st1 (by rw [hlr]; exact hfin) ?_
          rintro en W2 ⟨L2, μ2, q1, q2, q3⟩
          rw [hlr] at q1
          cases htd : tidy r.length x1 st1.hp with
          | mk x2 hp2 =>
          rw [htd] at hx
          simp only at hx
          cases hx
          obtain ⟨μ3, q4, q5⟩ := tidy_ok (E := ⟨W, L, muR r μ, r.length⟩) q1 q2 htd
          obtain ⟨b1, b2, b3, b4, b5⟩ := back_ok h hn hr q4
          exact ⟨L2, _, q5.ren _ (backM_back hn hr), b1, b2, b3, b4, b5⟩
        · cases hx
      · cases hx
end
end Ev
end Go.Proofs.YtlkhjnpflohfeaaDoor

/- Ranges over functions, and their rounds. -/
namespace Go.Proofs.YtlkhjnpflohfeaaDoor
open Go Go.RowKit
namespace Ev

theorem wide_inRound {P : Program} {F : Fence} (hF : Wide (P := P) F) (l : Nat) : Wide (P := P) (F.inRound l) := ⟨hF.fn, hF.depth, hF.fenced⟩

section
variable {P : Program} {E : Ent} {C : Cfg} {W W' : World} {L L' : Nat → Prop} {μ μ' : Mu} {tc tc0 : List Nat} {H : List AB} {call : CallF}

theorem pe_jump {p : Option AExit} {j : Option Code} (h : PE p j) : (p = none ∧ j = none) ∨ (∃ i, p = some (.exit i) ∧ j = some (.exit i)) ∨ (p = some .ret ∧ j = some .ret) := by
  unfold PE at h
  split at h
  · exact .inl ⟨rfl, rfl⟩
  · subst h; exact .inr (.inl ⟨_, rfl, rfl⟩)
  · exact .inr (.inr ⟨rfl, rfl⟩)
  · exact h.elim

theorem ls_eq {s : LSt} {t : LoopState} (h : LS s t) : (s = .busy ↔ t = .busy) ∧ (s = .ready ↔ t = .ready) := by
  cases s <;> cases t <;> first | exact h.elim | simp

/-- A loop's record that the evaluator holds is one of the model's. -/
theorem loop_at (h : Sim P W L μ H) {l : Nat} {r : ALoop} (hl : H[l]? = some (.loop r)) (hno : μ l ≠ .no) : ∃ B R, μ l = .at B ∧ L B ∧ W.heap[B]? = some (.loop R) ∧ BR P W L μ (.loop r) (.loop R) := by
  cases hm : μ l with
  | no => exact absurd hm hno
  | dead => cases h.dead l _ hm hl
  | «at» B =>
    obtain ⟨hL, _, blk, o, e1, e2, e3⟩ := h.live l B hm
    rw [hl] at e1; cases e1
    cases e3 with
    | loop h1 h2 h3 h4 h5 h6 h7 => exact ⟨B, _, rfl, hL, e2, .loop h1 h2 h3 h4 h5 h6 h7⟩

theorem putObj_upd {B : Nat} {R : Loop} {o' : Obj} (h : W.heap[B]? = some (.loop R)) : Upd B o' W (W.putObj B o') :=
  (setObj_upd (P := default) (o' := o') h (by intro c t f; simp)).2

/-- A loop's record is written anew. -/
theorem Hp.putLoop (h : Hp P E tc W L μ H) {l B : Nat} {R : Loop} {o' : Obj} {blk : AB} (hm : μ l = .at B) (ho : W.heap[B]? = some (.loop R)) (hb : BR P W L μ blk o') :
    Hp P E ([l].filter (· < E.pin) ++ tc) (W.putObj B o') L μ (H.set l blk) ∧ Later L L W (W.putObj B o') :=
  h.put hm ho (putObj_upd ho) (.ofCells (fun rs t f hc => by cases hc) fun _ _ => by simp) hb

theorem range_ok (hcall : CallOk P C call) {F : Fence} (hF : Wide (P := P) F) {rd : Option Nat} (hrd : RdOk E F rd) : RangeOk P E C call F rd := by
  intro g ps as bd g0 ps0 as0 bd0 st st' e a W hx hc hs
  simp only [compCode] at hc
  split at hc
  · rename_i g' a' b' k1 k2 k3
    simp only [strip] at hc
    cases hc
    obtain ⟨L, μ, h1, h2, h3⟩ := hs
    have hgv := opnd_ok h2 k1
    simp only [ev] at hx
    split at hx
    · rename_i gf first captured hval
      rw [hval] at hgv
      obtain ⟨rf, rc, hrf, _, v1, v2⟩ := vr_fn hgv
      refine wpIn_rangeFunc fun fn _ => ?_
      -- the loop is entered
      obtain ⟨d, hp0, df, W1, L1, μ1, D, mark, rec, hd, hent, q1, q2, q3, q4, q5, q6⟩ : ∃ (d : Nat) (hp0 : List AB) (df : List ADef) (W1 : World) (L1 : Nat → Prop) (μ1 : Mu) (D : Nat) (mark : List Deferred) (rec : Loop),
          (match (generalizing := false) call (.fn (.func gf) first captured) [.yield hp0.length] (hp0 ++ [.loop ⟨.ready, none, st.tm, ps0.toList, as, bd, d⟩]) with
            | some (.ret _, hp', tc) => (match (generalizing := false) hp'[hp0.length]? with
              | some (.loop r) => if r.st = .busy then none else some (r.pend.getD .normal, { st with df := df, hp := hp'.set hp0.length .dead, tc := tc.filter (· < E.pin) ++ st.tc })
              | _ => none)
            | some (.pan v, hp', tc) => some (.panic v, { st with df := df, hp := hp', tc := tc.filter (· < E.pin) ++ st.tc })
            | none => none) = some (e, st') ∧
          (Instr.enterLoop fn a.tmps ps0 as0 bd0 F.round).run P W = .ok (W1.heap.size, mark) (W1.alloc (.loop rec)) ∧
          rec = { state := .ready, pending := none, fn, tmps := a.tmps, params := ps0, assign := as0, body := bd0, defers := D } ∧
          Hp P E st.tc W1 L1 μ1 hp0 ∧ Later L L1 W W1 ∧ Ext μ μ1 ∧ (μ1 d = .at D ∨ μ1 d = .dead) ∧ DR W1 L1 μ1 df (mark ++ a.defers) := by
        cases rd with
        | none =>
          have hro : F.round = none := hrd
          have p1 := h1.push [.dfr]
          obtain ⟨p2, p3, p4⟩ := p1.mat (j := st.hp.length) (blk := .dfr) (o := .deferred (some [])) (by simp) (h1.sim.out _ (Nat.le_refl _)) h1.len .dfr
          refine ⟨_, _, _, W.alloc (.deferred (some [])), _, _, W.heap.size, [{ target := .collected W.heap.size, args := #[] }], _, hx, ?_, rfl, p2, p3, p4, .inl (updM_same ..), ?_⟩
          · rw [hro, run_enterLoop_outer]
            rw [show (W.alloc (.deferred (some []))).heap.size = W.heap.size + 1 from World.size_alloc ..]
          · exact .cons (.mark (.inl (updM_same ..))) (h3.mono p3 p4)
        | some l =>
          obtain ⟨B, hro, hlp, hEB⟩ := hrd
          simp only at hx ⊢
          cases hl : st.hp[l]? with
          | none => rw [hl] at hx; simp at hx
          | some blk =>
            rw [hl] at hx
            cases blk with
            | loop r =>
              have hno : μ l ≠ .no := by
                rcases h1.pins l hlp with e | ⟨e, _⟩
                · rw [e, hEB]; simp
                · rw [e]; simp
              obtain ⟨B', R, e1, _, e2, e3⟩ := loop_at h1.sim hl hno
              have hBB : B' = B := by
                rcases h1.pins l hlp with e | ⟨e, _⟩
                · rw [e, hEB] at e1; cases e1; rfl
                · rw [e] at e1; cases e1
              subst hBB
              refine ⟨r.dfr, st.hp, st.df, W, L, μ, R.defers, [], _, hx, ?_, rfl, h1, Later.refl _ _, Ext.refl _, ?_, h3⟩
              · rw [hro]; exact run_enterLoop_inner e2 fn a.tmps ps0 as0 bd0
              · cases e3 with
                | loop _ _ _ _ _ _ h7 => exact h7
            | _ => simp at hx
      clear hx
      have hx := hd
      clear hd
      -- its record
      have hrecbr : BR P W1 L1 μ1 (.loop ⟨.ready, none, st.tm, ps0.toList, as, bd, d⟩) (.loop rec) := by
        subst q1
        exact .loop trivial trivial ((h2.mono q3 q4).tmps) rfl k2 k3 q5
      have r1 := q2.push [.loop ⟨.ready, none, st.tm, ps0.toList, as, bd, d⟩]
      obtain ⟨r2, r3, r4⟩ := r1.mat (j := hp0.length) (o := .loop rec) (by simp) (q2.sim.out _ (Nat.le_refl _)) q2.len hrecbr
      have hyv : VR (W1.alloc (.loop rec)) (fun b => L1 b ∨ b = W1.heap.size) (updM μ1 hp0.length (.at W1.heap.size)) (.yield hp0.length) (.func (.yield W1.heap.size) #[] #[]) := .yield (updM_same ..)
      have hlat : Later L (fun b => L1 b ∨ b = W1.heap.size) W (W1.alloc (.loop rec)) := by
        refine ⟨by simp; have := q3.size; omega, fun b hb hl => ?_, fun b o0 e => ?_, fun b hb => ?_⟩
        · exact (Below.heap_alloc _ _ _ (Nat.lt_of_lt_of_le hb q3.size)).trans (q3.same b hb hl)
        · obtain ⟨rs', e1, e2⟩ := q3.shape b o0 e
          exact ⟨rs', (Below.heap_alloc _ _ _ (Array.getElem?_eq_some_iff.1 e1).1).trans e1, e2⟩
        · rcases hb with hb | rfl
          · exact q3.new b hb
          · exact .inr q3.size
      have hext : Ext μ (updM μ1 hp0.length (.at W1.heap.size)) := q4.trans r4
      have hg2 : Globs C (W1.alloc (.loop rec)) (fun b => L1 b ∨ b = W1.heap.size) := Globs.mono h2.glob hlat
      have hdr2 : DR (W1.alloc (.loop rec)) (fun b => L1 b ∨ b = W1.heap.size) (updM μ1 hp0.length (.at W1.heap.size)) df (mark ++ a.defers) := q6.mono r3 r4
      have henv2 := h2.mono hlat hext
      have hgo : ∀ {x : CRes} {hp' : List AB} {tc' : List Nat}, call (.fn (.func gf) first captured) [.yield hp0.length] (hp0 ++ [.loop ⟨.ready, none, st.tm, ps0.toList, as, bd, d⟩]) = some (x, hp', tc') →
          CallsIn F 0 P gf (rf.toArray ++ #[.func (.yield W1.heap.size) #[] #[]] ++ rc.toArray) (W1.alloc (.loop rec)) (CPost P E st.tc (W1.alloc (.loop rec)) (fun b => L1 b ∨ b = W1.heap.size) (updM μ1 hp0.length (.at W1.heap.size)) (hp0 ++ [AB.loop ⟨.ready, none, st.tm, ps0.toList, as, bd, d⟩]).length x hp' tc') ∧
          (invoke (.fn (.func gf) rc.toArray) (rf.toArray ++ #[.func (.yield W1.heap.size) #[] #[]])).run P (W1.alloc (.loop rec)) = .ok (.enter gf (rf.toArray ++ #[.func (.yield W1.heap.size) #[] #[]] ++ rc.toArray)) (W1.alloc (.loop rec)) := by
        intro x hp' tc' hcx
        have hinv : (invoke (.fn (.func gf) rc.toArray) (rf.toArray ++ #[.func (.yield W1.heap.size) #[] #[]])).run P (W1.alloc (.loop rec)) = .ok (.enter gf (rf.toArray ++ #[.func (.yield W1.heap.size) #[] #[]] ++ rc.toArray)) (W1.alloc (.loop rec)) := by
          simp only [invoke]; exact hcall.fn hcx _ _
        refine ⟨?_, hinv⟩
        obtain ⟨r, W', g1, g2⟩ := hcall.sound hcx r2 hg2 (rf := .func (.func gf) rf.toArray rc.toArray) (rargs := #[.func (.yield W1.heap.size) #[] #[]]) (by rw [← hrf]; exact hgv.mono hlat hext) (VL.cons hyv VL.nil)
        have e : (do let d ← Deferred.ofValue (.func (.func gf) rf.toArray rc.toArray) #[.func (.yield W1.heap.size) #[] #[]]; invoke d.target d.args : Sem Next).run P (W1.alloc (.loop rec)) = .ok (.enter gf (rf.toArray ++ #[.func (.yield W1.heap.size) #[] #[]] ++ rc.toArray)) (W1.alloc (.loop rec)) := by
          simp only [Deferred.ofValue, Sem.run_bind, Sem.run_pure, Result.andThen]
          exact hinv
        rw [e] at g1
        cases g1
        exact callsIn_wideF hF g2
      have hres : (resolve a.eval (rangeCall g0 W1.heap.size) 0).run P (W1.alloc (.loop rec)) = .ok { target := .fn (.func gf) rc.toArray, args := rf.toArray ++ #[.func (.yield W1.heap.size) #[] #[]] } (W1.alloc (.loop rec)) := by
        simp only [resolve, hrf]
        simp [go_sem, Deferred.ofValue]
      split at hx
      · rename_i v hp' tc' hcx
        obtain ⟨c1, c2⟩ := hgo hcx
        refine ⟨W1.heap.size, mark, _, _, _, gf, _, _, hent, hres, fun f _ => hF.fn f, c2, fun hh => by simp [hF.depth] at hh, c1.mono ?_⟩
        rintro en W3 ⟨L3, μ3, p1, p2, p3, p4, p5, p6⟩
        cases en <;> simp only [CRel] at p1
        rename_i w
        split at hx
        · rename_i r hr
          split at hx
          · cases hx
          · rename_i hnb
            have hat : μ3 hp0.length = .at W1.heap.size ∨ μ3 hp0.length = .dead := by
              have := p4 hp0.length (by rw [updM_same]; simp)
              rwa [updM_same] at this
            obtain ⟨B3, R3, e1, _, e2, e3⟩ := loop_at p2.sim hr (by rcases hat with h | h <;> rw [h] <;> simp)
            have hB : B3 = W1.heap.size := by
              rcases hat with h | h
              · rw [h] at e1; cases e1; rfl
              · rw [h] at e1; cases e1
            subst hB
            have hls : LS r.st R3.state ∧ PE r.pend R3.pending := by
              cases e3 with
              | loop h1 h2 _ _ _ _ _ => exact ⟨h1, h2⟩
            have hend := run_endLoop (P := P) e2 (fun h => hnb ((ls_eq hls.1).1.2 h))
            obtain ⟨y1, y2⟩ := p2.putLoop (o' := .loop { R3 with state := .exhausted }) (blk := .dead) e1 e2 .dead
            have hsr : SR P C E { st with df := df, hp := hp'.set hp0.length .dead, tc := tc'.filter (· < E.pin) ++ st.tc } { a with defers := mark ++ a.defers } (W3.putObj W1.heap.size (.loop { R3 with state := .exhausted })) := by
              have he := (henv2.mono p3 p4).mono y2 (Ext.refl _)
              refine ⟨L3, μ3, y1.more ?_, ⟨he.tmps, he.glob⟩, (hdr2.mono p3 p4).mono y2 (Ext.refl _)⟩
              intro i hi
              rcases List.mem_append.1 hi with hi | hi
              · have := List.mem_filter.1 hi
                simp at this
                have := q2.len
                omega
              · exact hi
            cases hx
            refine ⟨_, _, hend, ?_⟩
            clear hend y1 y2
            revert hsr
            generalize W3.putObj W1.heap.size _ = W4
            intro hsr
            rcases pe_jump hls.2 with ⟨j1, j2⟩ | ⟨i, j1, j2⟩ | ⟨j1, j2⟩ <;> rw [j1, j2]
            · exact ⟨rfl, hsr⟩
            · exact wpIn_exit ⟨rfl, hsr⟩
            · exact wpIn_ret ⟨rfl, hsr⟩
        · cases hx
      · rename_i v hp' tc' hcx
        obtain ⟨c1, c2⟩ := hgo hcx
        refine ⟨W1.heap.size, mark, _, _, _, gf, _, _, hent, hres, fun f _ => hF.fn f, c2, fun hh => by simp [hF.depth] at hh, c1.mono ?_⟩
        rintro en W3 ⟨L3, μ3, p1, p2, p3, p4, p5, p6⟩
        cases en <;> simp only [CRel] at p1
        obtain ⟨w, rfl, hw⟩ := p1
        cases hx
        have he := henv2.mono p3 p4
        exact ⟨v, w, rfl, rfl, L3, μ3, p2, ⟨he.tmps, he.glob⟩, hdr2.mono p3 p4, hw⟩
      · cases hx
    · cases hx
  · cases hc

theorem foldl_params : ∀ {ps : List Nat} {as : List AV} {xs : List Value} {tm : List AV} {tmps : Array Value}, as.length = ps.length → VL W L μ as xs → VL W L μ tm tmps.toList →
    VL W L μ (setParams tm ps as) ((ps.zip xs).foldl (fun t (p, v) => t.setIfInBounds p v) tmps).toList
  | [], [], [], tm, tmps, _, _, h => by simpa [setParams] using h
  | p :: ps, a :: as, x :: xs, tm, tmps, hl, hv, h => by
    simp only [setParams, List.zip_cons_cons, List.foldl_cons]
    refine foldl_params (by simpa using hl) hv.tail ?_
    rw [Array.toList_setIfInBounds]
    exact h.set p hv.head
  | _, [], _ :: _, _, _, _, hv, _ => by have := hv.1; simp at this
  | _, _ :: _, [], _, _, _, hv, _ => by have := hv.1; simp at this
  | [], _ :: _, _, _, _, hl, _, _ => by simp at hl
  | _ :: _, [], _, _, _, hl, _, _ => by simp at hl

theorem round_ok (hcall : CallOk P C call) {l : Nat} {args : List AV} {rf : Value} {rargs : Array Value} {x : CRes} {H' : List AB} (hx : round C call l args H = some (x, H', tc))
    (h : Hp P E tc0 W L μ H) (hg : Globs C W L) (hf : VR W L μ (.yield l) rf) (hv : VL W L μ args rargs.toList) : GoesTo P rf rargs W (CPost P E tc0 W L μ H.length x H' tc) := by
  unfold round at hx
  split at hx
  · rename_i r hl
    split at hx
    · rename_i hcond
      obtain ⟨hready, hlen⟩ := hcond
      have hno : μ l ≠ .no := by
        cases hf with
        | dead h1 h2 => simp [headRef] at h1; subst h1; rw [h2]; simp
        | yield h1 => rw [h1]; simp
      obtain ⟨B, R, hB, hLB, hR, hbr⟩ := loop_at h.sim hl hno
      have hrf : rf = .func (.yield B) #[] #[] := by
        cases hf with
        | dead h1 h2 => simp [headRef] at h1; subst h1; rw [h2] at hB; cases hB
        | yield h1 => rw [h1] at hB; cases hB; rfl
      subst hrf
      obtain ⟨b1, b2, b3, b4, b5, b6⟩ : LS r.st R.state ∧ PE r.pend R.pending ∧ VL W L μ r.tm R.tmps.toList ∧ R.params.toList = r.params ∧ compCode P R.assign = some (strip r.assign) ∧ compCode P R.body = some (strip r.body) := by
        cases hbr with
        | loop h1 h2 h3 h4 h5 h6 _ => exact ⟨h1, h2, h3, h4, h5, h6⟩
      have hsz : rargs.size = R.params.size := by
        have := hv.1
        rw [hlen, ← b4] at this
        simpa using this.symm
      have hrun : (do let d ← Deferred.ofValue (.func (.yield B) #[] #[]) rargs; invoke d.target d.args : Sem Next).run P W = .ok (.round B R.fn ((R.params.zip rargs).foldl (fun tmps (t, a) => tmps.setIfInBounds t a) R.tmps) R.assign R.body) W := by
        simp only [Deferred.ofValue, Sem.run_bind, Sem.run_pure, Result.andThen, invoke]
        rw [show (#[] ++ rargs : Array Value) = rargs by simp]
        exact run_yield hR hsz
      refine ⟨_, _, hrun, ?_⟩
      have hlt : l < H.length := (List.getElem?_eq_some_iff.1 hl).1
      have hF : Wide (P := P) (Fence.wide.inRound B) := wide_inRound ⟨fun _ => trivial, rfl, rfl⟩ B
      have hE := Hp.start (P := P) h.sim
      have hrange : RangeOk P ⟨W, L, μ, H.length⟩ C call (Fence.wide.inRound B) (some l) := range_ok hcall hF ⟨B, rfl, hlt, hB⟩
      refine roundIn_of_wpIn trivial ?_
      split at hx
      · rename_i st hev
        have hs0 : SR P C ⟨W, L, μ, H.length⟩ { tm := setParams r.tm r.params args, df := [], hp := H, tc := [] } { tmps := (R.params.zip rargs).foldl (fun tmps (t, a) => tmps.setIfInBounds t a) R.tmps, defers := [] } W := by
          refine ⟨L, μ, hE, ⟨?_, hg⟩, .nil⟩
          have := foldl_params (ps := r.params) (as := args) (xs := rargs.toList) (tm := r.tm) (tmps := R.tmps) hlen hv b3
          rw [← Array.foldl_toList, Array.toList_zip, b4]
          exact this
        refine wpIn_mono (ev_ok (E := ⟨W, L, μ, H.length⟩) hcall hF (fun hh => by simp at hh) hrange R.assign r.assign _ _ _ _ _ hev b5 hs0) ?_
        intro ex a1 W1 hsees
        split at hx
        · rename_i r1 hl1
          split at hx
          · rename_i hready1
            cases ex with
            | normal =>
              obtain ⟨_, L1, μ1, h1, h2, h3⟩ := hsees
              have hat : ∀ {tc1 W1 L1 μ1 H1}, Hp P ⟨W, L, μ, H.length⟩ tc1 W1 L1 μ1 H1 → ∀ {r1}, H1[l]? = some (.loop r1) → μ1 l = .at B ∧ ∃ R1, W1.heap[B]? = some (.loop R1) ∧ BR P W1 L1 μ1 (.loop r1) (.loop R1) := by
                intro tc1 W1 L1 μ1 H1 h1 r1 hl1
                have hpin := h1.pins l hlt
                obtain ⟨B1, R1, e1, _, e2, e3⟩ := loop_at h1.sim hl1 (by
                  rcases hpin with e | ⟨e, _⟩
                  · rw [e]; exact hno
                  · rw [e]; simp)
                rcases hpin with e | ⟨e, _⟩
                · simp only at e; rw [e, hB] at e1; cases e1; exact ⟨e.trans hB, R1, e2, e3⟩
                · rw [e] at e1; cases e1
              obtain ⟨a1', R1, e2, e3⟩ := hat h1 hl1
              obtain ⟨c1, c2, c3, c4, c5, c6, c7⟩ : LS r1.st R1.state ∧ PE r1.pend R1.pending ∧ VL W1 L1 μ1 r1.tm R1.tmps.toList ∧ R1.params.toList = r1.params ∧ compCode P R1.assign = some (strip r1.assign) ∧ compCode P R1.body = some (strip r1.body) ∧ (μ1 r1.dfr = .at R1.defers ∨ μ1 r1.dfr = .dead) := by
                cases e3 with
                | loop h1 h2 h3 h4 h5 h6 h7 => exact ⟨h1, h2, h3, h4, h5, h6, h7⟩
              have hbeg := run_beginRound (P := P) e2 ((ls_eq c1).2.1 hready1)
              refine ⟨_, hbeg, ?_⟩
              have hbusy : BR P W1 L1 μ1 (.loop { r1 with st := .busy }) (.loop { R1 with state := .busy }) := .loop trivial c2 c3 c4 c5 c6 c7
              obtain ⟨d1, d2⟩ := h1.putLoop a1' e2 hbusy
              have hs1 : SR P C ⟨W, L, μ, H.length⟩ { st with hp := st.hp.set l (.loop { r1 with st := .busy }), tc := l :: st.tc } a1 (W1.putObj B (.loop { R1 with state := .busy })) := by
                refine ⟨L1, μ1, d1.more ?_, h2.mono d2 (Ext.refl _), h3.mono d2 (Ext.refl _)⟩
                intro i hi
                rcases List.mem_append.1 hi with hi | hi
                · have := (List.mem_filter.1 hi).1; simp at this; subst this; exact List.mem_cons_self ..
                · exact List.mem_cons_of_mem _ hi
              split at hx
              · rename_i e2' st2 hev2
                refine wpIn_mono (ev_ok (E := ⟨W, L, μ, H.length⟩) hcall hF (fun hh => by simp at hh) hrange R.body r.body _ _ _ _ _ hev2 b6 hs1) ?_
                intro ex2 a2 W2 hsees2
                have hfin : ∀ (p : Option AExit) (j : Option Code), PE p j → SR P C ⟨W, L, μ, H.length⟩ st2 a2 W2 → ∀ r2, st2.hp[l]? = some (.loop r2) →
                    (let hp := st2.hp.set l (.loop { r2 with st := if p.isNone then .ready else .done, pend := p })
                     let (x, hp) := tidyC C H.length (.ret (.bool p.isNone)) hp
                     some (x, overH H hp (l :: st2.tc) ++ hp.drop H.length, l :: st2.tc)) = some (x, H', tc) →
                    ∃ v w', (Instr.endRound B j).run P W2 = .ok v w' ∧ CPost P E tc0 W L μ H.length x H' tc (.returned v) w' := by
                  rintro p j hpj ⟨L2, μ2, k1, k2, k3⟩ r2 hl2 hx
                  obtain ⟨a2', R2, f2, f3⟩ := hat k1 hl2
                  have hpn : p.isNone = j.isNone := by
                    rcases pe_jump hpj with ⟨rfl, rfl⟩ | ⟨i, rfl, rfl⟩ | ⟨rfl, rfl⟩ <;> rfl
                  refine ⟨_, _, run_endRound j f2, ?_⟩
                  have hnew : BR P W2 L2 μ2 (.loop { r2 with st := if p.isNone then .ready else .done, pend := p }) (.loop { R2 with state := if j.isNone then .ready else .done, pending := j }) := by
                    cases f3 with
                    | loop h1 h2 h3 h4 h5 h6 h7 =>
                      refine .loop ?_ hpj h3 h4 h5 h6 h7
                      rw [hpn]; split <;> trivial
                  obtain ⟨m1, m2⟩ := k1.putLoop a2' f2 hnew
                  have m3 : Hp P ⟨W, L, μ, H.length⟩ (l :: st2.tc) (W2.putObj B (.loop { R2 with state := if j.isNone then .ready else .done, pending := j })) L2 μ2 (st2.hp.set l (.loop { r2 with st := if p.isNone then .ready else .done, pend := p })) := m1.more (by
                    intro i hi
                    rcases List.mem_append.1 hi with hi | hi
                    · have := (List.mem_filter.1 hi).1; simp at this; subst this; exact List.mem_cons_self ..
                    · exact List.mem_cons_of_mem _ hi)
                  simp only at hx
                  cases htd : tidyC C H.length (.ret (.bool p.isNone)) (st2.hp.set l (.loop { r2 with st := if p.isNone then .ready else .done, pend := p })) with
                  | mk x2 hp2 =>
                  rw [htd] at hx
                  simp only at hx
                  cases hx
                  obtain ⟨μ3, n1, n2⟩ := tidyC_ok (e := .returned (.bool j.isNone)) m3 (by simp only [CRel]; rw [hpn]; exact .bool) htd
                  obtain ⟨μ4, o1, o2, o3, o4, o5, o6⟩ := whole_ok h n1
                  exact ⟨L2, μ4, n2.same o6, o1, o2, o3, o4, o5⟩
                cases ex2 with
                | normal =>
                  obtain ⟨rfl, hs2⟩ := hsees2
                  simp only at hx
                  split at hx <;> first | contradiction | skip
                  rename_i _ _ _ _ r2 hl2 _
                  exact hfin none none trivial hs2 _ hl2 hx
                | ret =>
                  obtain ⟨rfl, hs2⟩ := hsees2
                  simp only at hx
                  split at hx <;> first | contradiction | skip
                  rename_i _ _ _ _ r2 hl2 _
                  exact hfin (some .ret) (some .ret) trivial hs2 _ hl2 hx
                | exit id =>
                  obtain ⟨rfl, hs2⟩ := hsees2
                  simp only at hx
                  split at hx <;> first | contradiction | skip
                  rename_i _ _ _ _ r2 hl2 _
                  exact hfin (some (.exit id)) (some (.exit id)) rfl hs2 _ hl2 hx
                | panic ch =>
                  obtain ⟨v, w, rfl, _⟩ := hsees2
                  simp at hx
                | goto t => exact hsees2.elim
                | outgrown => exact hsees2.elim
              · cases hx
            | _ => first | exact hsees.elim | (obtain ⟨hh, _⟩ := hsees; cases hh; done) | (obtain ⟨_, _, hh, _⟩ := hsees; cases hh; done)
          · cases hx
        · cases hx
      · cases hx
    · cases hx
  · cases hx

/-- The frame of calls. -/
theorem overH_out {hp : List AB} {b : Nat} : ∀ {tc : List Nat}, b ∉ tc → (overH H hp tc)[b]? = H[b]?
  | [], _ => rfl
  | j :: tc, h => by
    simp only [overH]
    rw [List.getElem?_set_ne (by rintro rfl; exact h (List.mem_cons_self ..))]
    exact overH_out fun hm => h (List.mem_cons_of_mem _ hm)
theorem over_kept {hp : List AB} {tc : List Nat} : Kept H (overH H hp tc ++ hp.drop H.length) tc :=
  ⟨by simp [overH_len], fun b hb hn => by
    rw [List.getElem?_append_left (by rw [overH_len]; exact hb)]
    exact overH_out hn⟩
theorem enter_kept {f : Nat} {args : List AV} {x : CRes} {H' : List AB} (hx : enter C call f args H = some (x, H', tc)) : Kept H H' tc := by
  unfold enter at hx
  split at hx
  · obtain ⟨v, hgv, he⟩ := Option.map_eq_some_iff.1 hx
    cases he; exact .refl _ _
  split at hx
  · obtain ⟨v, hgv, he⟩ := Option.map_eq_some_iff.1 hx
    cases he; exact .refl _ _
  · split at hx
    · cases hx
    · cases hwh : C.whole f <;> rw [hwh] at hx <;> simp only [cond_true, cond_false] at hx
      · split at hx
        · split at hx
          · cases hx
            refine ⟨by simp [backH_len], fun b hb hn => ?_⟩
            rw [List.getElem?_append_left (by rw [backH_len]; exact hb)]
            refine backH_out hb fun j hj he => hn (List.mem_map.2 ⟨j, hj, ?_⟩)
            rw [List.getD_eq_getElem?_getD, he]; rfl
          · cases hx
        · cases hx
      · split at hx
        · split at hx
          · rename_i x1 st1 _
            cases hbq : bareQ x1.val st1.tc <;> rw [hbq] at hx <;> simp only [cond_true, cond_false] at hx
            · cases hx; exact over_kept
            · cases hx; exact .refl _ _
          · cases hx
        · cases hx
theorem round_kept {l : Nat} {args : List AV} {x : CRes} {H' : List AB} (hx : round C call l args H = some (x, H', tc)) : Kept H H' tc := by
  unfold round at hx
  repeat' split at hx
  all_goals first | (cases hx; done) | skip
  all_goals
    simp only at hx
    cases hx
    exact over_kept

/-- CALLS: what the evaluator comes to is what the model does. -/
theorem call_ok (hT : TblOk P C) : ∀ n, CallOk P C (Ev.call C n)
  | 0 => ⟨fun f args H x H' tc h => (by simp [Ev.call] at h), fun h => (by simp [Ev.call] at h), fun h => (by simp [Ev.call] at h)⟩
  | n + 1 => by
    have ih := call_ok hT n
    have hrange : ∀ E, RangeOk P E C (Ev.call C n) Fence.wide none := fun E => range_ok ih ⟨fun _ => trivial, rfl, rfl⟩ rfl
    have hfn : ∀ {f : Nat} {args : List AV} {H : List AB} {r : CRes × List AB × List Nat}, enter C (Ev.call C n) f args H = some r → ∀ (rargs : Array Value) (W : World), (callFunc f rargs).run P W = .ok (.enter f rargs) W := by
      intro f args H r hx rargs W
      unfold enter at hx
      split at hx
      · rename_i g hext
        obtain ⟨⟨F, f1, f2, f3⟩, _⟩ := hT.ext f g hext
        exact callFunc_enter f1 f2 f3 _ _
      · split at hx
        · rename_i g hext
          obtain ⟨⟨F, f1, f2, f3⟩, _⟩ := hT.exth f g hext
          exact callFunc_enter f1 f2 f3 _ _
        split at hx
        · cases hx
        · rename_i fn hfn
          obtain ⟨F, f1, f2, f3⟩ := hT.fns f fn hfn
          obtain ⟨c, g1, _⟩ := compFn_ok f3
          exact callFunc_enter f1 f2 (by rw [g1]; rfl) _ _
    refine ⟨fun f args H x H' tc hx => ?_, fun {f first captured args H r} hx => ?_, ?_⟩
    · simp only [Ev.call] at hx
      split at hx
      · exact enter_kept hx
      · exact round_kept hx
      · cases hx
    · simp only [Ev.call] at hx
      exact hfn hx
    · intro E tc0 W L μ H f args rf rargs x H' tc hx h hg hf hv
      simp only [Ev.call] at hx
      split at hx
      · rename_i f first captured
        obtain ⟨r1, r2, rfl, _, v1, v2⟩ := vr_fn hf
        have hinv : (do let d ← Deferred.ofValue (.func (.func f) r1.toArray r2.toArray) rargs; invoke d.target d.args : Sem Next).run P W = .ok (.enter f (r1.toArray ++ rargs ++ r2.toArray)) W := by
          simp only [Deferred.ofValue, Sem.run_bind, Sem.run_pure, Result.andThen, invoke]
          exact hfn hx _ _
        refine ⟨_, _, hinv, ?_⟩
        refine enter_ok hT ih hrange hx h hg ?_
        simp only [Array.toList_append]
        exact (v1.append hv).append v2
      · exact round_ok ih hx h hg hf hv
      · cases hx
end
end Ev
end Go.Proofs.YtlkhjnpflohfeaaDoor

/- Plain laws of the spans of package cut: bounds. -/
namespace Go.Proofs.YtlkhjnpflohfeaaDoor.Cut
open Go.Proofs.YtlkhjnpflohfeaaDoor

def Bd (w : Int × Int) : Prop := -1048576 ≤ w.1 ∧ w.1 ≤ 1048576 ∧ -1048576 ≤ w.2 ∧ w.2 ≤ 1048576
theorem dry_bd : Bd dry := by unfold Bd dry; simp
theorem common_bd {a b : Int × Int} (ha : Bd a) (hb : Bd b) : Bd (common a b) := by
  unfold common; split
  · unfold Bd at *; simp only; omega
  · exact dry_bd
theorem after_bd (b : Int × Int) {most : Int} (w : Int × Int) (h0 : 0 ≤ most) (h1 : most ≤ 100) : Bd (after b most w) := by
  unfold after; split
  · unfold Bd held; simp only; omega
  · exact dry_bd
theorem common0_bd {most : Int} (z : Int × Int) (h0 : 0 ≤ most) (h1 : most ≤ 100) : Bd (common (0, most) z) := by
  unfold common
  by_cases h : max (0, most).1 z.1 ≤ min (0, most).2 z.2
  · rw [if_pos h]; simp only at h; unfold Bd; simp only; omega
  · rw [if_neg h]; exact dry_bd
theorem before_bd (b : Int × Int) {most : Int} (w : Int × Int) (h0 : 0 ≤ most) (h1 : most ≤ 100) : Bd (before b most w) := by
  unfold before
  by_cases h : w.1 ≤ w.2
  · rw [if_pos h]; exact common0_bd _ h0 h1
  · rw [if_neg h]; exact dry_bd

/-- What a valid cut is. -/
structure Valid (x : CutD) : Prop where
  n1 : 1 ≤ x.rain.length
  n8 : x.rain.length ≤ 8
  m1 : 1 ≤ x.most
  m100 : x.most ≤ 100
  d0 : 0 ≤ x.depth.1
  d1 : x.depth.1 ≤ x.depth.2
  d2 : x.depth.2 ≤ x.most
  l0 : 0 ≤ x.leak.1
  l1 : x.leak.1 ≤ x.leak.2
  l2 : x.leak.2 ≤ 10
  b4 : x.boats.length ≤ 4
  k5 : x.looks.length ≤ 5
  rain : ∀ i, i < x.rain.length → 0 ≤ (spanAt x.rain i).1 ∧ (spanAt x.rain i).1 ≤ (spanAt x.rain i).2 ∧ (spanAt x.rain i).2 ≤ 30
  boat : ∀ i, i < x.boats.length → 0 ≤ (boatAt x.boats i).draws.1 ∧ (boatAt x.boats i).draws.1 ≤ (boatAt x.boats i).draws.2 ∧ (boatAt x.boats i).draws.2 ≤ 100 ∧ 0 ≤ (boatAt x.boats i).per ∧ (boatAt x.boats i).per ≤ 10 ∧ 0 ≤ (boatAt x.boats i).room ∧ (boatAt x.boats i).room ≤ 10
  look : ∀ i, i < x.looks.length → 0 ≤ (lookAt x.looks i).day ∧ (lookAt x.looks i).day ≤ x.rain.length ∧ 0 ≤ (lookAt x.looks i).depth.1 ∧ (lookAt x.looks i).depth.1 ≤ (lookAt x.looks i).depth.2 ∧ (lookAt x.looks i).depth.2 ≤ 100

theorem getD_mem {α : Type} (l : List α) (i : Nat) (d : α) (h : i < l.length) : l.getD i d ∈ l := by
  simp [h]

theorem valid_of {x : CutD} (h : valid x = true) : Valid x := by
  simp only [valid, within, isSpan, Bool.and_eq_true, decide_eq_true_eq, List.all_eq_true] at h
  obtain ⟨⟨⟨⟨⟨⟨⟨⟨h1, h2⟩, h3⟩, h4⟩, h5⟩, h6⟩, h7⟩, h8⟩, h9⟩ := h
  refine ⟨by omega, by omega, by omega, by omega, by omega, by omega, by omega, by omega, by omega, by omega, by omega, by omega, ?_, ?_, ?_⟩
  · intro i hi
    have := h7 _ (getD_mem x.rain i (0, 0) hi)
    unfold spanAt; omega
  · intro i hi
    have := h8 _ (getD_mem x.boats i nobody hi)
    unfold boatAt; omega
  · intro i hi
    have := h9 _ (getD_mem x.looks i noLook hi)
    unfold lookAt; omega

theorem lookedTo_bd {x : CutD} (h : Valid x) (d : Int) (set : Nat) {w : Int × Int} (hw : Bd w) : ∀ k, k ≤ x.looks.length → Bd (lookedTo x.looks d set w k)
  | 0, _ => hw
  | k + 1, hk => by
    have ih := lookedTo_bd h d set hw k (by omega)
    unfold lookedTo
    split
    · refine common_bd ih ?_
      have := h.look k (by omega)
      unfold Bd; omega
    · exact ih
theorem looked_bd {x : CutD} (h : Valid x) (d : Int) (set : Nat) {w : Int × Int} (hw : Bd w) : Bd (looked x.looks d set w) := lookedTo_bd h d set hw _ (Nat.le_refl _)
theorem forth_bd {x : CutD} (h : Valid x) (leak : Int) (set : Nat) : ∀ d, Bd (forth x leak set d)
  | 0 => looked_bd h _ _ (by have := h.d0; have := h.d1; have := h.d2; have := h.m100; unfold Bd; omega)
  | d + 1 => looked_bd h _ _ (after_bd _ _ (by have := h.m1; omega) h.m100)
theorem back_bd {x : CutD} (h : Valid x) (leak : Int) (set n : Nat) : ∀ k, Bd (back x leak set n k)
  | 0 => forth_bd h _ _ _
  | k + 1 => common_bd (forth_bd h _ _ _) (before_bd _ _ (by have := h.m1; omega) h.m100)
theorem seasonAt_bd {x : CutD} (h : Valid x) (leak : Int) (set d : Nat) : Bd (seasonAt x leak set d) := by
  unfold seasonAt; split
  · exact back_bd h _ _ _ _
  · unfold Bd; simp
end Go.Proofs.YtlkhjnpflohfeaaDoor.Cut

/- Plain functions: what the stable sort of Go's library does with a list. No program in sight. -/
namespace Go.Proofs.YtlkhjnpflohfeaaDoor
namespace Srt
def at' (l : List Nat) (i : Nat) : Nat := l.getD i 0
def swap (l : List Nat) (i j : Nat) : List Nat := (l.set i (at' l j)).set j (at' l i)
theorem swap_length (l : List Nat) (i j : Nat) : (swap l i j).length = l.length := by simp [swap]
/-- data[a + k] goes down as long as it is less. -/
def insDown (c : Nat → Nat → Int) (a : Nat) (l : List Nat) : Nat → List Nat
  | 0 => l
  | k + 1 => if c (at' l (a + (k + 1))) (at' l (a + k)) < 0 then insDown c a (swap l (a + (k + 1)) (a + k)) k else l
def insTo (c : Nat → Nat → Int) (a : Nat) (l : List Nat) : Nat → List Nat
  | 0 => l
  | m + 1 => insDown c a (insTo c a l m) (m + 1)
def insertion (c : Nat → Nat → Int) (l : List Nat) (a b : Nat) : List Nat := insTo c a l (b - a - 1)
theorem insDown_length (c : Nat → Nat → Int) (a : Nat) : ∀ (k : Nat) (l : List Nat), (insDown c a l k).length = l.length
  | 0, l => rfl
  | k + 1, l => by
    unfold insDown; split
    · rw [insDown_length c a k, swap_length]
    · rfl
theorem insTo_length (c : Nat → Nat → Int) (a : Nat) (l : List Nat) : ∀ m, (insTo c a l m).length = l.length
  | 0 => rfl
  | m + 1 => by unfold insTo; rw [insDown_length, insTo_length c a l m]
/-- All elements suit. -/
def All (D : Nat → Prop) (l : List Nat) : Prop := ∀ i, i < l.length → D (at' l i)
theorem All.swap {D : Nat → Prop} {l : List Nat} (h : All D l) {i j : Nat} (hi : i < l.length) (hj : j < l.length) : All D (swap l i j) := by
  intro k hk
  rw [swap_length] at hk
  unfold Srt.swap at' at *
  rw [List.getD_eq_getElem?_getD, List.getElem?_set]
  split
  · subst_vars; simp [hj]; have := h i hi; simpa [at', hi] using this
  · rw [List.getElem?_set]
    split
    · subst_vars; simp; have := h j hj; simpa [at', hj] using this
    · have := h k hk; simpa [at', hk] using this
theorem All.insDown {D : Nat → Prop} (c : Nat → Nat → Int) (a : Nat) : ∀ (k : Nat) (l : List Nat), All D l → a + k < l.length → All D (insDown c a l k)
  | 0, l, h, _ => h
  | k + 1, l, h, hk => by
    unfold Srt.insDown; split
    · exact All.insDown c a k _ (h.swap hk (by omega)) (by rw [swap_length]; omega)
    · exact h
theorem All.insTo {D : Nat → Prop} (c : Nat → Nat → Int) (a : Nat) (l : List Nat) (h : All D l) : ∀ m, a + m < l.length → All D (insTo c a l m)
  | 0, _ => h
  | m + 1, hm => by
    unfold Srt.insTo
    exact All.insDown c a (m + 1) _ (All.insTo c a l h m (by omega)) (by rw [insTo_length]; exact hm)
/-- How many bits are set, of the first so many. -/
def popcA : Nat → Nat → Nat
  | 0, _ => 0
  | f + 1, n => n % 2 + popcA f (n / 2)
def popc (n : Nat) : Nat := popcA 16 n
/-- The difference of two sets' sizes. -/
def bySize (a b : Nat) : Int := (popc a : Int) - (popc b : Int)
theorem popcA_le : ∀ f n, popcA f n ≤ f
  | 0, _ => Nat.le_refl _
  | f + 1, n => by
    have := popcA_le f (n / 2)
    unfold popcA; omega
theorem popc_le (n : Nat) : popc n ≤ 16 := popcA_le 16 n
end Srt
end Go.Proofs.YtlkhjnpflohfeaaDoor

/- Plain functions: what the exported functions of package cut answer. No program in sight. -/
namespace Go.Proofs.YtlkhjnpflohfeaaDoor
namespace Cut
/-- How many of the first n suit, one after the other. -/
def lead (p : Nat → Bool) : Nat → Nat
  | 0 => 0
  | n + 1 => if lead p n = n ∧ p n = true then n + 1 else lead p n
theorem lead_all (p : Nat → Bool) : ∀ n, (∀ i, i < n → p i = true) → lead p n = n
  | 0, _ => rfl
  | n + 1, h => by
    unfold lead
    rw [if_pos ⟨lead_all p n fun i hi => h i (by omega), h n (by omega)⟩]
theorem lead_stop (p : Nat → Bool) (k : Nat) (hk : p k = false) (h : ∀ i, i < k → p i = true) : ∀ n, k < n → lead p n = k
  | 0, hn => by omega
  | n + 1, hn => by
    unfold lead
    by_cases hkn : k < n
    · rw [lead_stop p k hk h n hkn, if_neg (by omega)]
    · obtain rfl : k = n := by omega
      rw [lead_all p k h, if_neg (by simp [hk])]
/-- Whether a boat floats, of a span of depths. -/
def floats (b : Boat) (loads : Int) (s : Int × Int) : Int := if b.draws.2 + b.per * loads ≤ s.1 then 2 else if b.draws.1 + b.per * loads ≤ s.2 then 1 else 0
def suits (x : CutD) (k d : Nat) (sure : Int) (i : Nat) : Bool := decide (sure ≤ floats (boatAt x.boats k) i (water x d))
def loads (x : CutD) (k d : Nat) (sure : Int) : Int := (lead (suits x k d sure) ((boatAt x.boats k).room.toNat + 1) : Nat) - 1
/-- The set of those of the first n that suit. -/
def setTo (p : Nat → Bool) : Nat → Nat
  | 0 => 0
  | n + 1 => if p n then setTo p n + 2 ^ n else setTo p n
theorem setTo_lt (p : Nat → Bool) : ∀ n, setTo p n < 2 ^ n
  | 0 => by simp [setTo]
  | n + 1 => by
    have := setTo_lt p n
    unfold setTo
    rw [Nat.pow_succ]
    split <;> omega
def floatsOn (x : CutD) (k : Nat) (n : Int) (d : Nat) : Int := floats (boatAt x.boats k) n (water x d)
def daysAll (x : CutD) (k : Nat) (n : Int) : Nat := setTo (fun d => floatsOn x k n d == 2) (x.rain.length + 1)
def daysSome (x : CutD) (k : Nat) (n : Int) : Nat := setTo (fun d => floatsOn x k n d != 0) (x.rain.length + 1)
theorem floats_or (b : Boat) (n : Int) (s : Int × Int) : floats b n s = 0 ∨ floats b n s = 1 ∨ floats b n s = 2 := by
  unfold floats; split
  · exact .inr (.inr rfl)
  · split
    · exact .inr (.inl rfl)
    · exact .inl rfl
/-- The first one from i on, of so many, that suits. -/
def findFrom (p : Nat → Bool) (i : Nat) : Nat → Option Nat
  | 0 => none
  | f + 1 => if p i then Option.some i else findFrom p (i + 1) f
def untilOn (x : CutD) (k : Nat) (n : Int) (d : Nat) : Option Nat := findFrom (fun i => floatsOn x k n i == 2) d (x.rain.length + 1 - d)
/-- The loads of the first so many boats. -/
def sumTo (x : CutD) (d : Nat) : Nat → Int
  | 0 => 0
  | k + 1 => sumTo x d k + max 0 (loads x k d 2)
def togetherOn (x : CutD) (d : Nat) : Int := sumTo x d x.boats.length
theorem lead_le (p : Nat → Bool) : ∀ n, lead p n ≤ n
  | 0 => Nat.le_refl _
  | n + 1 => by
    have := lead_le p n
    unfold lead; split <;> omega
theorem loads_le {x : CutD} (hv : valid x = true) (k d : Nat) (hk : k < x.boats.length) (s : Int) : -1 ≤ loads x k d s ∧ loads x k d s ≤ 10 := by
  have hb := (valid_of hv).boat k hk
  have := lead_le (suits x k d s) ((boatAt x.boats k).room.toNat + 1)
  unfold loads; omega
theorem sumTo_le {x : CutD} (hv : valid x = true) (d : Nat) : ∀ k, k ≤ x.boats.length → 0 ≤ sumTo x d k ∧ sumTo x d k ≤ 10 * k
  | 0, _ => by simp [sumTo]
  | k + 1, hk => by
    have h1 := sumTo_le hv d k (by omega)
    have h2 := loads_le hv k d (by omega) 2
    unfold sumTo; omega
def leakSpans (x : CutD) : List (Int × Int) := ((leaks x).filter fun k => some (seasonAt x k (every x) 0)).map fun k => (k, k)
def leakSpan (x : CutD) : Int × Int := joined (leakSpans x)
theorem leakSpans_pos (x : CutD) (hc : can x (every x) = true) : 0 < (leakSpans x).length := by
  unfold can at hc
  obtain ⟨k, hk, hs⟩ := List.any_eq_true.1 hc
  refine List.length_pos_of_mem (a := (k, k)) (List.mem_map.2 ⟨k, List.mem_filter.2 ⟨hk, hs⟩, rfl⟩)
end Cut
/-- The error, but for the named one: what a call answers ahead of all else. -/
def toldErr (x : CutD) (b : Bool) : Int := if Cut.valid x = false then 1 else if b = false then 2 else if Cut.can x (Cut.every x) = false then 10 else 0
theorem toldErr_bad {x : CutD} {b : Bool} (h : Cut.valid x = false) : toldErr x b = 1 := if_pos h
theorem toldErr_range {x : CutD} (h : Cut.valid x = true) : toldErr x false = 2 := by unfold toldErr; rw [if_neg (by simp [h]), if_pos rfl]
theorem toldErr_clash {x : CutD} (h : Cut.valid x = true) (hc : Cut.can x (Cut.every x) = false) : toldErr x true = 10 := by unfold toldErr; rw [if_neg (by simp [h]), if_neg (by simp), if_pos hc]
theorem toldErr_ok {x : CutD} (h : Cut.valid x = true) (hc : Cut.can x (Cut.every x) = true) : toldErr x true = 0 := by unfold toldErr; rw [if_neg (by simp [h]), if_neg (by simp), if_neg (by simp [hc])]

def depthR (x : CutD) (d : Int) : (Int × Int) × Int := if toldErr x (Cut.isDay x d) = 0 then (Cut.water x d.toNat, 0) else ((0, 0), toldErr x (Cut.isDay x d))

def leakR (x : CutD) : (Int × Int) × Int := if toldErr x true = 0 then (Cut.leakSpan x, 0) else ((0, 0), toldErr x true)
theorem boat_of {x : CutD} {b : Int} (h : Cut.isBoat x b = true) : ∃ k : Nat, b = k ∧ k < x.boats.length := by
  have h0 : 0 ≤ b ∧ b ≤ (x.boats.length : Int) - 1 := by simpa [Cut.isBoat, Cut.within] using h
  exact ⟨b.toNat, by omega, by omega⟩
theorem day_of {x : CutD} {d : Int} (h : Cut.isDay x d = true) : ∃ k : Nat, d = k ∧ k ≤ x.rain.length := by
  have h0 : 0 ≤ d ∧ d ≤ (x.rain.length : Int) := by simpa [Cut.isDay, Cut.within] using h
  exact ⟨d.toNat, by omega, by omega⟩

def loadsR (x : CutD) (b d : Int) : (Int × Int) × Int :=
  if toldErr x (Cut.isBoat x b && Cut.isDay x d) = 0 then ((Cut.loads x b.toNat d.toNat 2, Cut.loads x b.toNat d.toNat 1), 0) else ((0, 0), toldErr x (Cut.isBoat x b && Cut.isDay x d))

def isB (x : CutD) (b n d : Int) : Bool := Cut.isLoads x b n && Cut.isDay x d
def floatsR (x : CutD) (b n d : Int) : Int × Int := if toldErr x (isB x b n d) = 0 then (Cut.floats (Cut.boatAt x.boats b.toNat) n (Cut.water x d.toNat), 0) else (0, toldErr x (isB x b n d))
theorem loads_of {x : CutD} {b n : Int} (hv : Cut.valid x = true) (h : Cut.isLoads x b n = true) : ∃ k m : Nat, b = k ∧ k < x.boats.length ∧ n = m ∧ (m : Int) ≤ (Cut.boatAt x.boats k).room ∧ m ≤ 10 := by
  have h0 : Cut.isBoat x b = true ∧ 0 ≤ n ∧ n ≤ (Cut.boat x b).room := by simpa [Cut.isLoads, Cut.within] using h
  obtain ⟨k, rfl, hk⟩ := boat_of h0.1
  have hb := (Cut.valid_of hv).boat k hk
  have h1 : (Cut.boat x k).room = (Cut.boatAt x.boats k).room := rfl
  exact ⟨k, n.toNat, rfl, hk, by omega, by omega, by omega⟩

def daysR (x : CutD) (b n : Int) : (Int × Int) × Int := if toldErr x (Cut.isLoads x b n) = 0 then (((Cut.daysAll x b.toNat n : Nat), (Cut.daysSome x b.toNat n : Nat)), 0) else ((0, 0), toldErr x (Cut.isLoads x b n))

def untilV (o : Option Nat) : Int × Int := match o with | some i => (i, 0) | none => (0, 4)
def untilR (x : CutD) (b n d : Int) : Int × Int := if toldErr x (isB x b n d) = 0 then untilV (Cut.untilOn x b.toNat n d.toNat) else (0, toldErr x (isB x b n d))

def togetherR (x : CutD) (d : Int) : Int × Int := if toldErr x (Cut.isDay x d) = 0 then (Cut.togetherOn x d.toNat, 0) else (0, toldErr x (Cut.isDay x d))

/-- Is there far too much of something? -/
def farD (x : CutD) : Bool := decide (40 < max (max (x.rain.length : Int) x.boats.length) x.looks.length)
def fineD (x : CutD) : Bool := !farD x && Cut.valid x

namespace Srt
/-- All sets of k looks, the smaller ones first. -/
def sizeSets (k : Nat) : List Nat := (List.range (k + 1)).flatMap fun s => (List.range (2 ^ k)).filter fun v => popc v == s
end Srt
/-- The set that Clash returns, if there is no truth. -/
def clashSet (x : CutD) : Nat := Srt.at' (Srt.sizeSets x.looks.length) (Cut.lead (fun i => Cut.can x (Srt.at' (Srt.sizeSets x.looks.length) i)) (2 ^ x.looks.length))
def clashR (x : CutD) : Int × Int := if Cut.valid x = false then (0, 1) else if Cut.can x (Cut.every x) = true then (0, 4) else ((clashSet x : Nat), 0)

end Go.Proofs.YtlkhjnpflohfeaaDoor

/- What the functions of package cut answer, as the evaluator is told; numbers. -/
namespace Go.Proofs.YtlkhjnpflohfeaaDoor
open Go
namespace Ev
/-- What the exported functions answer: their values, and the error. -/
structure Api where
  depth : CutD → Int → (Int × Int) × Int
  leak : CutD → (Int × Int) × Int
  floats : CutD → Int → Int → Int → Int × Int
  loads : CutD → Int → Int → (Int × Int) × Int
  days : CutD → Int → Int → (Int × Int) × Int
  wait : CutD → Int → Int → Int → Int × Int
  together : CutD → Int → Int × Int
  clash : CutD → Int × Int
  fine : CutD → Bool
  far : CutD → Bool
  valid : CutD → Bool
def twoA (r : Int × Int) : AV := .tup [.int .i64 r.1, .int .i64 r.2]
def twoS (r : (Int × Int) × Int) : AV := .tup [.agg [.int .i64 r.1.1, .int .i64 r.1.2], .int .i64 r.2]
def three (r : (Int × Int) × Int) : AV := .tup [.int .i64 r.1.1, .int .i64 r.1.2, .int .i64 r.2]
/-- Calls that answer so. -/
structure ApiOk (call : CallF) (A : Api) : Prop where
  depth : ∀ {H v c}, cutOf H v = some c → ∀ d, call (.fn (.func 14) [] []) [v, .int .i64 d] H = some (.ret (twoS (A.depth c d)), H, [])
  leak : ∀ {H v c}, cutOf H v = some c → call (.fn (.func 16) [] []) [v] H = some (.ret (twoS (A.leak c)), H, [])
  floats : ∀ {H v c}, cutOf H v = some c → ∀ b n d, call (.fn (.func 18) [] []) [v, .int .i64 b, .int .i64 n, .int .i64 d] H = some (.ret (twoA (A.floats c b n d)), H, [])
  loads : ∀ {H v c}, cutOf H v = some c → ∀ b d, call (.fn (.func 20) [] []) [v, .int .i64 b, .int .i64 d] H = some (.ret (three (A.loads c b d)), H, [])
  days : ∀ {H v c}, cutOf H v = some c → ∀ b n, call (.fn (.func 22) [] []) [v, .int .i64 b, .int .i64 n] H = some (.ret (three (A.days c b n)), H, [])
  wait : ∀ {H v c}, cutOf H v = some c → ∀ b n d, call (.fn (.func 24) [] []) [v, .int .i64 b, .int .i64 n, .int .i64 d] H = some (.ret (twoA (A.wait c b n d)), H, [])
  together : ∀ {H v c}, cutOf H v = some c → ∀ d, call (.fn (.func 26) [] []) [v, .int .i64 d] H = some (.ret (twoA (A.together c d)), H, [])
  clash : ∀ {H v c}, cutOf H v = some c → call (.fn (.func 28) [] []) [v] H = some (.ret (twoA (A.clash c)), H, [])
  fine : ∀ {H v c}, cutOf H v = some c → call (.fn (.func 30) [] []) [v] H = some (.ret (.bool (A.fine c)), H, [])
  awake : ∀ {H}, call (.fn (.func 13) [] []) [] H = some (.ret (.bool true), H, [])
  far : ∀ {H v c}, cutOf H v = some c → call (.fn (.func 34) [] []) [v] H = some (.ret (.bool (A.far c)), H, [])
  valid : ∀ {H v c}, cutOf H v = some c → call (.fn (.func 35) [] []) [v] H = some (.ret (.bool (A.valid c)), H, [])
  span : ∀ {H} {a b : Int}, call (.fn (.func 36) [] []) [.int .i64 a, .int .i64 b] H = some (.ret (.agg [.int .i64 a, .int .i64 b]), H, [])
  look : ∀ {H} {d a b : Int}, call (.fn (.func 37) [] []) [.int .i64 d, .int .i64 a, .int .i64 b] H = some (.ret (.agg [.int .i64 d, .int .i64 a, .int .i64 b]), H, [])
  inside : ∀ {H} {n a b : Int}, call (.fn (.func 33) [] []) [.int .i64 n, .agg [.int .i64 a, .int .i64 b]] H = some (.ret (.bool (Cut.within n a b)), H, [])
theorem cutOf_mk (H : List AB) (a b k l m : Int) (r : List (Int × Int)) (bs : List Boat) (ls : List Look) :
    cutOf H (.agg [.int .i64 a, .int .i64 b, .int .i64 k, .int .i64 l, .vs 2 (r.map spanE), .int .i64 m, .vs 4 (bs.map boatE), .vs 3 (ls.map lookE)]) = some ⟨(a, b), (k, l), r, m, bs, ls⟩ := cutOf_cutA H ⟨(a, b), (k, l), r, m, bs, ls⟩
/-- Numbers that are small enough are what they are. -/
theorem wrap_in {n : Int} (h1 : -9223372036854775808 ≤ n) (h2 : n ≤ 9223372036854775807) : IntKind.i64.wrap n = n := by
  simp [IntKind.wrap, IntKind.bits, IntKind.signed]
  split <;> omega
end Ev
end Go.Proofs.YtlkhjnpflohfeaaDoor

/- The law CutWaits: what it comes to; how a law ends. -/
namespace Go.Proofs.YtlkhjnpflohfeaaDoor
open Go
namespace Ev
set_option maxRecDepth 100000
/-- A fact that simp does not see. -/
structure Hidden (p : Prop) : Prop where
  out : p
theorem hideP {p : Prop} (h : p) : Hidden p := ⟨h⟩
/-- A law's end: it answers true. -/
def Yes (t : Nat) (e : AExit) (st : St) : Prop := e = .ret ∧ st.df = [] ∧ st.tm.getD t .unk = .bool true
/-- What all boats by themselves can have, up to the k-th. -/
def sumTo (f : Nat → Int) : Nat → Int
  | 0 => 0
  | k + 1 => sumTo f k + max 0 (f k)
/-- The plain law of a boat, with some loads, from a day, or one before. -/
structure WaitsB (A : Api) (c : CutD) (bi dn : Nat) (ld back : Int) : Prop where
  err : (A.days c bi ld).2 = 0
  days : ∃ D : Nat, (A.days c bi ld).1.1 = D ∧ D < 1048576 ∧ ((A.wait c bi ld dn).2 = 0 ∧ (A.wait c bi ld back).2 = 0 ∧ (A.wait c bi ld back).1 ≤ (A.wait c bi ld dn).1 ∧ (∃ t : Nat, (A.wait c bi ld dn).1 = t ∧ dn ≤ t ∧ t ≤ c.rain.length ∧ D.testBit t = true ∧ ∀ j, dn ≤ j → j < t → D.testBit j = false) ∨
    (A.wait c bi ld dn).2 = 4 ∧ (A.wait c bi ld dn).1 = 0 ∧ ∀ j, dn ≤ j → j ≤ c.rain.length → D.testBit j = false)
/-- The plain law, on a day. -/
structure Waits (A : Api) (c : CutD) (dn : Nat) (w1 w2 w4 : Int) : Prop where
  rain : c.rain.length ≤ 8
  day : dn ≤ c.rain.length
  boats : c.boats.length ≤ 4
  err : ∀ i : Nat, i < c.boats.length → (A.loads c i dn).2 = (A.together c dn).2
  big : ∀ i : Nat, i < c.boats.length → -1 ≤ (A.loads c i dn).1.1 ∧ (A.loads c i dn).1.1 ≤ 100
  bad : (A.together c dn).2 = 0 ∨ (A.together c dn).2 = 10 ∧ (A.together c dn).1 = 0
  sum : (A.together c dn).2 = 0 → (A.together c dn).1 = sumTo (fun i => (A.loads c i dn).1.1) c.boats.length
  boat : (A.together c dn).2 = 0 → ∀ (bi : Nat) (h : bi < c.boats.length), w1 % c.boats.length = bi → 0 ≤ c.boats[bi].room ∧ c.boats[bi].room ≤ 10 ∧ WaitsB A c bi dn (w2 % (c.boats[bi].room + 1)) (max 0 (dn - w4 % 4))
theorem sumTo_le {f : Nat → Int} {n : Nat} (h : ∀ i, i < n → -1 ≤ f i ∧ f i ≤ 100) : ∀ k, k ≤ n → 0 ≤ sumTo f k ∧ sumTo f k ≤ 100 * k
  | 0, _ => by simp [sumTo]
  | k + 1, hk => by
    have := sumTo_le h k (by omega)
    have := h k (by omega)
    simp only [sumTo]
    omega
/-- A function's end: it answers v, and turned nothing. -/
def Gives (t : Nat) (v : AV) (e : AExit) (st : St) : Prop := e = .ret ∧ st.df = [] ∧ st.tc = [] ∧ st.tm.getD t .unk = v
end Ev
end Go.Proofs.YtlkhjnpflohfeaaDoor

/- The plain law of CutWaits. -/
namespace Go.Proofs.YtlkhjnpflohfeaaDoor
open Go
/-- What the exported functions answer. -/
def specApi : Ev.Api := ⟨depthR, leakR, floatsR, loadsR, daysR, untilR, togetherR, clashR, fineD, farD, Cut.valid⟩
namespace Cut
end Cut
end Go.Proofs.YtlkhjnpflohfeaaDoor

/- Small lemmas for the walks: blocks known whole, frames that leave out one block, readings of slices. -/
namespace Go.Proofs.YtlkhjnpflohfeaaDoor
open Go Go.Proofs Go.RowKit

theorem ret_int {k : IntKind} {a b : Int} (h : a = b) : Ending.returned (.int k a) = .returned (.int k b) := by rw [h]
theorem ret_bool {a b : Bool} (h : a = b) : Ending.returned (.bool a) = .returned (.bool b) := by rw [h]
theorem hide {p : Prop} (h : p) : Hid p := h
theorem run_max_i64 {P : Program} (ts : Array TypeId) (t : TypeId) (x y : Int) (w : World) : (Builtin.max_ ts t #[.int .i64 x, .int .i64 y]).run P w = .ok (.int .i64 (max x y)) w := by
  have : (if y > x then y else x) = max x y := by omega
  simp [run_max_int2, this]
theorem run_min_i64 {P : Program} (ts : Array TypeId) (t : TypeId) (x y : Int) (w : World) : (Builtin.min_ ts t #[.int .i64 x, .int .i64 y]).run P w = .ok (.int .i64 (min x y)) w := by
  have : (if y < x then y else x) = min x y := by omega
  simp [run_min_int2, this]

theorem bit_u64 (set k : Nat) (h : set < 18446744073709551616) : bits BinOp.and IntKind.u64 ((set : Int) / 2 ^ k) 1 = if set.testBit k then 1 else 0 := by
  have h0 : ((set : Int) / 2 ^ k) = ((set / 2 ^ k : Nat) : Int) := by simp
  have h1 : set / 2 ^ k ≤ set := Nat.div_le_self _ _
  rw [h0, Nat.testBit_eq_decide_div_mod_eq]
  generalize set / 2 ^ k = q at *
  rw [and_one_u64 _ (by omega) (by omega)]
  simp only [decide_eq_true_eq]
  split <;> omega

/-- Below block N, but for block M, the world is as it was. -/
structure Bel (M N : Nat) (w w' : World) : Prop where
  os : w'.os = w.os
  tape : w'.tape = w.tape
  output : w'.output = w.output
  size : w.heap.size ≤ w'.heap.size
  block : ∀ k, k < N → k ≠ M → w'.heap[k]? = w.heap[k]?

section
variable {M N N' : Nat} {w w' w'' : World}
theorem Bel.refl (M N : Nat) (w : World) : Bel M N w w := ⟨rfl, rfl, rfl, Nat.le_refl _, fun _ _ _ => rfl⟩
theorem Bel.trans (h : Bel M N w w') (k : Bel M N w' w'') : Bel M N w w'' :=
  ⟨k.os.trans h.os, k.tape.trans h.tape, k.output.trans h.output, Nat.le_trans h.size k.size, fun i hi hm => (k.block i hi hm).trans (h.block i hi hm)⟩
theorem Bel.mono (h : Bel M N w w') (hN : N' ≤ N) : Bel M N' w w' := ⟨h.os, h.tape, h.output, h.size, fun k hk hm => h.block k (Nat.lt_of_lt_of_le hk hN) hm⟩
theorem Bel.drew (h : Bel M N w w') : Bel M N w w'.drew := ⟨h.os, h.tape, h.output, h.size, h.block⟩
theorem Bel.drewN (h : Bel M N w w') (n : Nat) : Bel M N w (w'.drewN n) := ⟨h.os, h.tape, h.output, h.size, h.block⟩
theorem Bel.alloc (h : Bel M N w w') (hN : N ≤ w'.heap.size) (o : Obj) : Bel M N w (w'.alloc o) :=
  h.trans ⟨rfl, rfl, rfl, by simp, fun k hk _ => Below.heap_alloc _ _ _ (by omega)⟩
theorem Bel.setCell (h : Bel M N w w') {p : Addr} (hp : N ≤ p.block ∨ p.block = M) (u : Value) : Bel M N w (w'.setCell p u) :=
  h.trans ⟨rfl, rfl, rfl, by simp [World.setCell], fun k hk hm => Below.heap_setCell _ _ _ _ (by omega)⟩
theorem Bel.putObj (h : Bel M N w w') {l : Nat} (hl : N ≤ l ∨ l = M) (o : Obj) : Bel M N w (w'.putObj l o) :=
  h.trans ⟨rfl, rfl, rfl, by simp, fun k hk hm => World.putObj_heap_other (by omega)⟩
theorem Bel.of_below (h : Below N w w') : Bel M N w w' := ⟨h.os, h.tape, h.output, h.size, fun k hk _ => h.block k hk⟩
theorem Bel.below (h : Bel M N w w') (hM : N ≤ M) : Below N w w' := ⟨h.os, h.tape, h.output, h.size, fun k hk => h.block k hk (by omega)⟩
theorem Bel.below_lt (h : Bel M N w w') (hM : N' ≤ M) (hN : N' ≤ N) : Below N' w w' := ⟨h.os, h.tape, h.output, h.size, fun k hk => h.block k (by omega) (by omega)⟩
theorem Bel.cell (h : Bel M N w w') {p : Addr} (hp : p.block < N) (hm : p.block ≠ M) : w'.cell? p = w.cell? p := World.cell?_of_block (w := w) (h.block p.block hp hm)
theorem Bel.frozen (h : Bel M N w w') {p : Addr} (hp : p.block < N) (hm : p.block ≠ M) : w'.frozen? p = w.frozen? p := World.frozen?_of_block (w := w) (h.block p.block hp hm)
end

theorem Below.putObj {N l : Nat} {w : World} (hl : N ≤ l) (o : Obj) : Below N w (w.putObj l o) := ⟨rfl, rfl, rfl, by simp, fun k hk => World.putObj_heap_other (by omega)⟩

/-- Block B is a row of cells, known whole, none of them frozen. -/
def Blk (w : World) (B : Nat) (T : TypeId) (cs : List Value) : Prop := w.heap[B]? = some (.cells cs.toArray T (0, 0))
section
variable {w w' : World} {B : Nat} {T : TypeId} {cs : List Value}
theorem Blk.lt (h : Blk w B T cs) : B < w.heap.size := by
  obtain ⟨h1, _⟩ := Array.getElem?_eq_some_iff.1 h; exact h1
theorem Blk.cell (h : Blk w B T cs) (i : Nat) {v : Value} (hi : cs[i]? = some v) : w.cell? ⟨B, i, none⟩ = some v := by
  unfold World.cell?; rw [show w.heap[(⟨B, i, none⟩ : Addr).block]? = _ from h]; simpa using hi
theorem Blk.free (h : Blk w B T cs) (i : Nat) : w.frozen? ⟨B, i, none⟩ = false := by
  unfold World.frozen?; rw [show w.heap[(⟨B, i, none⟩ : Addr).block]? = _ from h]; simp
theorem Blk.new (w : World) (cs : List Value) (T : TypeId) : Blk (w.alloc (.cells cs.toArray T (0, 0))) w.heap.size T cs := World.alloc_heap_new w _
theorem Blk.new' {B : Nat} (w : World) (cs : List Value) (T : TypeId) (hB : B = w.heap.size) : Blk (w.alloc (.cells cs.toArray T (0, 0))) B T cs := by subst hB; exact Blk.new w cs T
theorem Blk.alloc (h : Blk w B T cs) (o : Obj) : Blk (w.alloc o) B T cs := (Below.heap_alloc w o B h.lt).trans h
theorem Blk.drew (h : Blk w B T cs) : Blk w.drew B T cs := h
theorem Blk.drewN (h : Blk w B T cs) (n : Nat) : Blk (w.drewN n) B T cs := h
theorem Blk.set (h : Blk w B T cs) (i : Nat) (v : Value) : Blk (w.setCell ⟨B, i, none⟩ v) B T (cs.set i v) := by
  have hlt := h.lt
  unfold Blk World.setCell at *
  simp only [Array.getElem?_modify, if_true]
  rw [h]; simp
theorem Blk.other {C : Nat} (hne : B ≠ C) (i : Nat) (v : Value) (h : Blk w B T cs) : Blk (w.setCell ⟨C, i, none⟩ v) B T cs := (Below.heap_setCell w ⟨C, i, none⟩ v B hne).trans h
theorem Blk.bel {M N : Nat} (h : Blk w B T cs) (hb : Bel M N w w') (hN : B < N) (hM : B ≠ M) : Blk w' B T cs := (hb.block B hN hM).trans h
theorem Blk.below {N : Nat} (h : Blk w B T cs) (hb : Below N w w') (hN : B < N) : Blk w' B T cs := (hb.block B hN).trans h
theorem Blk.put {l : Nat} {o : Obj} (h : Blk w B T cs) (hl : B ≠ l) : Blk (w.putObj l o) B T cs := (World.putObj_heap_other hl).trans h
end

/-- The package's variable dry reads as its initialiser laid it. -/
structure Dry (w : World) : Prop where
  lt : 0 < w.heap.size
  c0 : w.cell? ⟨0, 0, none⟩ = some (.int .i64 1048576)
  c1 : w.cell? ⟨0, 1, none⟩ = some (.int .i64 (-1048576))
theorem Dry.bel {M : Nat} {w w' : World} (h : Dry w) (hb : Bel M w.heap.size w w') (hM : 0 ≠ M) : Dry w' :=
  ⟨Nat.lt_of_lt_of_le h.lt hb.size, (hb.cell (p := ⟨0, 0, none⟩) h.lt hM).trans h.c0, (hb.cell (p := ⟨0, 1, none⟩) h.lt hM).trans h.c1⟩

theorem Dry.below {w w' : World} (h : Dry w) (hb : Below w.heap.size w w') : Dry w' :=
  ⟨Nat.lt_of_lt_of_le h.lt hb.size, (hb.cell (p := ⟨0, 0, none⟩) h.lt).trans h.c0, (hb.cell (p := ⟨0, 1, none⟩) h.lt).trans h.c1⟩
theorem Dry.drew {w : World} (h : Dry w) : Dry w.drew := ⟨h.lt, h.c0, h.c1⟩
theorem Dry.drewN {w : World} (h : Dry w) (n : Nat) : Dry (w.drewN n) := ⟨h.lt, h.c0, h.c1⟩
theorem bcellN {N : Nat} {W w1 : World} (hb : Below N W w1) : (∀ b o, b < N → w1.cell? ⟨b, o, none⟩ = W.cell? ⟨b, o, none⟩) ∧ (∀ b o, b < N → w1.frozen? ⟨b, o, none⟩ = W.frozen? ⟨b, o, none⟩) :=
  ⟨fun b o h => hb.cell (p := ⟨b, o, none⟩) h, fun b o h => hb.frozen (p := ⟨b, o, none⟩) h⟩
theorem below_drewN {N n : Nat} {w w' : World} (h : Below N (w.drewN n) w') : Below N w w' := ⟨h.os, h.tape, h.output, h.size, h.block⟩
theorem below_drewN_r {N : Nat} {w w' : World} (h : Below N w w') (n : Nat) : Below N w (w'.drewN n) := ⟨h.os, h.tape, h.output, h.size, h.block⟩
theorem bcell {W w1 : World} (hb : Below W.heap.size W w1) : (∀ b o, b < W.heap.size → w1.cell? ⟨b, o, none⟩ = W.cell? ⟨b, o, none⟩) ∧ (∀ b o, b < W.heap.size → w1.frozen? ⟨b, o, none⟩ = W.frozen? ⟨b, o, none⟩) :=
  ⟨fun b o h => hb.cell (p := ⟨b, o, none⟩) h, fun b o h => hb.frozen (p := ⟨b, o, none⟩) h⟩

/-- A span: its two ends. -/
abbrev Sp := Int × Int

/-- The value v is a slice of n elements of k cells each; cell j of element i holds f i j. -/
def RowOf (w : World) (v : Value) (n k : Nat) (f : Nat → Nat → Value) : Prop :=
  ∃ cap : Nat, n ≤ cap ∧ cap ≤ 9223372036854775807 ∧ ((n = 0 ∧ ∃ a, v = .slice a 0 cap) ∨ (∃ b off, v = .slice (some ⟨b, off, none⟩) n cap ∧ b < w.heap.size ∧ ∀ i j, i < n → j < k → w.cell? ⟨b, off + i * k + j, none⟩ = some (f i j)))

theorem RowOf.keep {w w' : World} {v : Value} {n k : Nat} {f : Nat → Nat → Value} (h : RowOf w v n k f) (hs : w.heap.size ≤ w'.heap.size) (hb : ∀ b, b < w.heap.size → (∀ i j, i < n → j < k → ∀ off, w.cell? ⟨b, off + i * k + j, none⟩ = some (f i j) → w'.cell? ⟨b, off + i * k + j, none⟩ = some (f i j))) : RowOf w' v n k f := by
  obtain ⟨cap, h1, h2, h3⟩ := h
  refine ⟨cap, h1, h2, ?_⟩
  rcases h3 with h3 | ⟨b, off, hv, hlt, hc⟩
  · exact .inl h3
  · exact .inr ⟨b, off, hv, by omega, fun i j hi hj => hb b hlt i j hi hj off (hc i j hi hj)⟩

end Go.Proofs.YtlkhjnpflohfeaaDoor

/- Contracts of the small functions of package cut. -/
namespace Go.Proofs.YtlkhjnpflohfeaaDoor
open Go Go.Proofs Go.RowKit

set_option maxHeartbeats 400000 in
theorem within_any (a b c : Int) (w : World) :
    Calls Tryd.prog 82 #[.int .i64 a, .int .i64 b, .int .i64 c] w fun e w' => e = .returned (.bool (Cut.within a b c)) ∧ w = w' := by
  by_cases h : b ≤ a
  · go_enter Tryd.func82, Tryd.ntmps82
    go_wp2
    go_ret
    exact ⟨ret_bool (by grind [Cut.within]), rfl⟩
  · have hd : decide (b ≤ a) = false := by simpa using h
    go_enter Tryd.func82, Tryd.ntmps82
    go_wp2
    go_ret
    exact ⟨ret_bool (by grind [Cut.within]), rfl⟩

set_option maxHeartbeats 400000 in
theorem isSpan_any (a b low high : Int) (w : World) :
    Calls Tryd.prog 83 #[.agg #[.int .i64 a, .int .i64 b], .int .i64 low, .int .i64 high] w fun e w' => e = .returned (.bool (Cut.isSpan (a, b) low high)) ∧ Below w.heap.size w w' := by
  go_enter Tryd.func83, Tryd.ntmps83
  go_wp2
  all_goals go_ret
  all_goals refine ⟨ret_bool ?_, by (repeat' first | (with_reducible assumption) | (with_reducible exact Below.refl _ _) | (with_reducible refine Below.drew ?_) | (with_reducible refine Below.setCell ?_ ?_ _) | (with_reducible refine Below.alloc ?_ ?_ _) | (refine Below.trans ?_ (Below.mono (by assumption) ?_)) | omega | (simp only [World.size_alloc, World.size_setCell, World.size_drew] at *; omega))⟩
  all_goals grind [Cut.isSpan]

set_option maxHeartbeats 400000 in
theorem some_any (a b : Int) (w : World) :
    Calls Tryd.prog 55 #[.agg #[.int .i64 a, .int .i64 b]] w fun e w' => e = .returned (.bool (Cut.some (a, b))) ∧ Below w.heap.size w w' := by
  go_enter Tryd.func55, Tryd.ntmps55
  go_wp2
  all_goals go_ret
  all_goals refine ⟨ret_bool ?_, by (repeat' first | (with_reducible assumption) | (with_reducible exact Below.refl _ _) | (with_reducible refine Below.drew ?_) | (with_reducible refine Below.setCell ?_ ?_ _) | (with_reducible refine Below.alloc ?_ ?_ _) | (refine Below.trans ?_ (Below.mono (by assumption) ?_)) | omega | (simp only [World.size_alloc, World.size_setCell, World.size_drew] at *; omega))⟩
  all_goals grind [Cut.some]

end Go.Proofs.YtlkhjnpflohfeaaDoor

/- Contracts of the small functions of package cut: spans of water, and the steps. -/
namespace Go.Proofs.YtlkhjnpflohfeaaDoor
open Go Go.Proofs Go.RowKit
attribute [local go_sem ↓] run_max_i64 run_min_i64

set_option maxHeartbeats 400000 in
theorem common_any (a b c d : Int) (w : World) (hdr : Dry w) :
    Calls Tryd.prog 89 #[.agg #[.int .i64 a, .int .i64 b], .agg #[.int .i64 c, .int .i64 d]] w fun e w' => e = .returned (.agg #[.int .i64 (Cut.common (a, b) (c, d)).1, .int .i64 (Cut.common (a, b) (c, d)).2]) ∧ Below w.heap.size w w' := by
  obtain ⟨h0, h1, h2⟩ := hdr
  by_cases hc : max a c ≤ min b d
  · have HD : Hid (Cut.common (a, b) (c, d) = (max a c, min b d)) := if_pos hc
    have hs : Cut.some (max a c, min b d) = true := by simpa [Cut.some] using hc
    go_enter Tryd.func89, Tryd.ntmps89
    go_wp2_with (go_at_call 55; refine (some_any _ _ _).mono ?_; rintro e w' ⟨rfl, hb⟩; rw [hs]; obtain ⟨hc, hf⟩ := bcell hb; have hz := hb.size; simp at hz)
    refine bodyPost_ret (v := .agg #[.int .i64 (max a c), .int .i64 (min b d)]) (by simp [results, Tryd.results89, go_sem, *]) rfl ⟨by rw [HD.out], ?_⟩
    (repeat' first | (with_reducible assumption) | (with_reducible exact Below.refl _ _) | (with_reducible refine Below.drew ?_) | (with_reducible refine Below.setCell ?_ ?_ _) | (with_reducible refine Below.alloc ?_ ?_ _) | (refine Below.trans ?_ (Below.mono (by assumption) ?_)) | omega | (simp only [World.size_alloc] at *; omega))
  · have HD : Hid (Cut.common (a, b) (c, d) = Cut.dry) := if_neg hc
    have hs : Cut.some (max a c, min b d) = false := by simpa [Cut.some] using hc
    go_enter Tryd.func89, Tryd.ntmps89
    go_wp2_with (go_at_call 55; refine (some_any _ _ _).mono ?_; rintro e w' ⟨rfl, hb⟩; rw [hs]; obtain ⟨hc, hf⟩ := bcell hb; have hz := hb.size; simp at hz)
    refine bodyPost_ret (v := .agg #[.int .i64 1048576, .int .i64 (-1048576)]) (by simp [results, Tryd.results89, go_sem, *]) rfl ⟨by rw [HD.out]; rfl, ?_⟩
    (repeat' first | (with_reducible assumption) | (with_reducible exact Below.refl _ _) | (with_reducible refine Below.drew ?_) | (with_reducible refine Below.setCell ?_ ?_ _) | (with_reducible refine Below.alloc ?_ ?_ _) | (refine Below.trans ?_ (Below.mono (by assumption) ?_)) | omega | (simp only [World.size_alloc] at *; omega))

end Go.Proofs.YtlkhjnpflohfeaaDoor

/- A region that draws its order: the operations before the last ones are quiet in a class of worlds; the last ones stand in one forced order. One walk of the text's order serves every order; the last ones are walked in whatever world of the class. -/
namespace Go.Proofs.YtlkhjnpflohfeaaDoor
open Go
/-- The worlds of which p holds. -/
structure Cls (p : World → Prop) where
  W : World
  ok : p W

theorem Cls.step {N : Nat} {W w2 : World} (s : Cls (RowKit.Below N W)) (hN : N ≤ W.heap.size) (hb : RowKit.Below s.W.heap.size s.W w2) : ∃ s' : Cls (RowKit.Below N W), w2 = s'.W :=
  ⟨⟨w2, s.ok.trans (hb.mono (Nat.le_trans hN s.ok.size))⟩, rfl⟩

section
variable {P : Program} {ops : Array Oper} {md : Region.Mode} {C : World → Prop}

def anyHead (P : Program) (md : Region.Mode) (ops : Array Oper) (C : World → Prop) (n : Nat) (L : Array Bool → Act → Prop) : Nat → Array Bool → Act → Prop
  | 0, listed, a => L listed a
  | f + 1, listed, a =>
    Region.ready md ops listed ≠ [] ∧ ∀ i ∈ Region.ready md ops listed, i < n ∧ qOp P ops C i (anyHead P md ops C n L f (listed.setIfInBounds i true)) a

theorem wpAny_of_anyHead {n g : Nat} {L : Array Bool → Act → Prop} {Q' : Exit → Act → World → Prop} (hL : ∀ listed a w, C w → L listed a → wpAny P md ops Q' g listed a w) :
    ∀ (f : Nat) (listed : Array Bool) (a : Act) (w : World), C w → anyHead P md ops C n L f listed a → wpAny P md ops Q' (f + g) listed a w
  | 0, listed, a, w, hw, h => by rw [Nat.zero_add]; exact hL _ _ _ hw h
  | f + 1, listed, a, w, hw, h => by
    rw [show f + 1 + g = (f + g) + 1 by omega]
    exact ⟨fun h0 => absurd h0 h.1, fun i hi => wpOp_of_qOp hw (fun a' w' hw' h' => wpAny_of_anyHead hL f _ a' w' hw' h') (h.2 i hi).2⟩

theorem anyHead_first {n i : Nat} {oi : Oper} {v : Value} {L : Array Bool → Act → Prop} (hi : ops[i]? = some oi) (hsel : ∀ (j : Nat) (o : Oper) cs b, ops[j]? = some o → o.op ≠ .select cs b)
    (hs : Region.sinkB md ops n = true) (hc : Region.chainB md ops n = true) (hn : n < ops.size) (hin : i < n)
    (hdone : ∀ listed a, L listed a → ∀ j ∈ Region.ready md ops listed, n ≤ j) :
    ∀ (f : Nat) (listed : Array Bool) (a : Act), HeadInv md ops n listed →
      (∀ j oj, ops[j]? = some oj → j ≠ i → listed.getD j true = false → (∀ e ∈ oj.after, Region.binds md e = true → e.on ≠ i) → oi.apart ops oj = true) →
      i ∈ Region.ready md ops listed → YieldsIn P ops C oi v a →
      anyHead P md ops C n L f (listed.setIfInBounds i true) (a.put oi.dst v) → anyHead P md ops C n L (f + 1) listed a := by
  intro f
  induction f with
  | zero =>
    intro listed a inv _ hr hy H
    have hun := (mem_ready.1 hr).1
    refine ⟨fun h => (by rw [h] at hr; cases hr), fun j hj => ?_⟩
    have hjn : j < n := (Nat.lt_or_ge j n).elim id fun h => absurd hj (tail_waits hs hc hn inv _ i rfl hin hun j h)
    refine ⟨hjn, ?_⟩
    by_cases hji : j = i
    · subst hji; exact hy.qOp hi H
    · have := hdone _ _ H j (ready_mono hj hji)
      omega
  | succ f ih =>
    intro listed a inv hfree hr hy H
    have hun := (mem_ready.1 hr).1
    refine ⟨fun h => (by rw [h] at hr; cases hr), fun j hj => ?_⟩
    have hjn : j < n := (Nat.lt_or_ge j n).elim id fun h => absurd hj (tail_waits hs hc hn inv _ i rfl hin hun j h)
    refine ⟨hjn, ?_⟩
    by_cases hji : j = i
    · subst hji; exact hy.qOp hi H
    · have h1 := (H.2 j (ready_mono hj hji)).2
      obtain ⟨hjun, oj, hoj, hall⟩ := mem_ready.1 hj
      have hnot : ∀ e ∈ oj.after, Region.binds md e = true → e.on ≠ i := fun e he hb heq => by
        have h1 := hall e he hb
        rw [heq, getD_both hun] at h1
        cases h1
      have h2 := qOp_put hoj (hfree j oj hoj hji hjun hnot) (fun cs b => hsel i oi cs b hi) (fun cs b => hsel j oj cs b hoj) hy h1
      have hfree' : ∀ k ok, ops[k]? = some ok → k ≠ i → (listed.setIfInBounds j true).getD k true = false →
          (∀ e ∈ ok.after, Region.binds md e = true → e.on ≠ i) → oi.apart ops ok = true := fun k ok hk hki hun hno => by
        refine hfree k ok hk hki ?_ hno
        by_cases hjk : j = k
        · subst hjk; exact hjun
        · rw [getD_set_ne true hjk] at hun; exact hun
      refine qOp_mono (fun a' h3 => ih (listed.setIfInBounds j true) a' (inv.set hj hjn) hfree' (ready_mono hr (Ne.symm hji)) h3.1 ?_) h2
      rw [Array.setIfInBounds_comm _ _ hji]
      exact h3.2

theorem anyHead_lex {n g : Nat} {Lq : Act → Prop} (hsel : Region.noSelect ops = true) (hs : Region.sinkB md ops n = true) (hc : Region.chainB md ops n = true) (hn : n < ops.size) :
    ∀ (l : List Oper) (k : Nat) (listed : Array Bool) (a : Act), (∀ j, j < l.length → l[j]? = ops[k + j]?) → k + l.length = n → HeadInv md ops n listed →
    Region.lexHead md ops g l.length k listed = true → wpQuiet P ops C Lq l a →
    anyHead P md ops C n (fun listed' a' => Region.seqB md ops g n listed' = true ∧ Lq a') l.length listed a
  | [], k, listed, a, _, hk, _, hB, h => by
    have : k = n := by simpa using hk
    subst this
    exact ⟨by simpa [Region.lexHead] using hB, h⟩
  | o :: l, k, listed, a, hl, hk, inv, hB, h => by
    have h0 : ops[k]? = some o := by simpa using (hl 0 (by simp)).symm
    simp only [List.length_cons, Region.lexHead, Bool.and_eq_true] at hB
    obtain ⟨⟨hr, hf⟩, hB'⟩ := hB
    have hkn : k < n := by simp only [List.length_cons] at hk; omega
    have hr' : k ∈ Region.ready md ops listed := by simpa using hr
    have hst : qOp P ops C k (wpQuiet P ops C Lq l) a := by unfold qOp; simp only [h0]; exact h
    obtain ⟨v, hy, hK⟩ := yieldsIn_of_qOp h0 hst
    exact anyHead_first h0 (Region.noSelect_spec hsel) hs hc hn hkn (fun listed' a' hL => seqB_ready hL.1) l.length listed a inv (Region.free_spec h0 hf) hr' hy
      (anyHead_lex hsel hs hc hn l (k + 1) _ _ (fun j hj => by have := hl (j + 1) (by simp; omega); simpa [Nat.add_assoc, Nat.add_comm 1 j] using this) (by simp only [List.length_cons] at hk; omega) (inv.set hr' hkn) hB' hK)

/-- The class: the worlds that f gives. The first n operations are quiet in it; the others come one after the other. -/
theorem any_quiet_tail {S : Type} (f : S → World) {Q : Exit → Act → World → Prop} {a : Act} {w : World} {l : List Oper} (n : Nat) (hB : Region.lexTailB .any l.toArray n = true)
    (hC : ∃ s, w.drew = f s)
    (h : wpQuiet P l.toArray (fun w' => ∃ s, w' = f s) (fun a' => ∀ s, wpList P l.toArray Q (l.drop n) a' (f s)) (l.take n) a) : wpAny P .any l.toArray Q l.toArray.size (Array.replicate l.toArray.size false) a w.drew := by
  simp only [Region.lexTailB, Bool.and_eq_true, decide_eq_true_eq] at hB
  obtain ⟨⟨⟨⟨hsel, hn⟩, hs⟩, hc⟩, hlex⟩ := hB
  have hn' : n < l.length := by simpa using hn
  have htl : (l.take n).length = n := by simp; omega
  have hdl : (l.drop n).length = l.toArray.size - n := by simp
  have inv0 : HeadInv .any l.toArray n (Array.replicate l.toArray.size false) :=
    ⟨by simp, fun j oj _ hl => (by rw [getD_replicate_false] at hl; cases hl), fun t _ ht => getD_in (by simpa using ht) (getD_replicate_false _ _)⟩
  have H := anyHead_lex (md := .any) (C := fun w' => ∃ s, w' = f s) (g := l.toArray.size - n) hsel hs hc hn (l.take n) 0 _ a (fun j hj => by
    have hj' : j < n := by rw [htl] at hj; exact hj
    simp [hj']) (by simpa using htl) inv0 (by rw [htl]; exact hlex) h
  have := wpAny_of_anyHead (C := fun w' => ∃ s, w' = f s) (Q' := Q) (g := l.toArray.size - n) (fun listed a' w' hw' hL => by
    obtain ⟨s, rfl⟩ := hw'
    have := wpAny_of_seq (md := .any) (Q' := Q) (l.drop n) n listed a' (f s) (fun j => by simp [List.getElem?_drop]) (by rw [hdl]; exact hL.1) (hL.2 s)
    rwa [hdl] at this) _ _ _ w.drew hC H
  rw [htl, show n + (l.toArray.size - n) = l.toArray.size by omega] at this
  exact this

theorem wp_region_quiet_tail {S : Type} (f : S → World) {id : Nat} {Q : Exit → Act → World → Prop} {a : Act} {w : World} {l : List Oper} (n : Nat) (hm : P.follows .mixedOrders = true) (hB : Region.lexTailB .any l.toArray n = true)
    (hC : ∃ s, w.drew = f s)
    (h : wpQuiet P l.toArray (fun w' => ∃ s, w' = f s) (fun a' => ∀ s, wpList P l.toArray Q (l.drop n) a' (f s)) (l.take n) a) : (Code.region id l.toArray true).wp P Q a w :=
  wp_region_any hm (any_quiet_tail f n hB hC h)

/-- The same where all operations are quiet. -/
theorem wp_region_quiet_all {S : Type} (f : S → World) {id : Nat} {Q : Exit → Act → World → Prop} {a : Act} {w : World} {l : List Oper} (hm : P.follows .mixedOrders = true) (hB : Region.lexB .any l.toArray = true)
    (hC : ∃ s, w.drew = f s)
    (h : wpQuiet P l.toArray (fun w' => ∃ s, w' = f s) (fun a' => ∀ s, Q .normal a' (f s)) l a) : (Code.region id l.toArray true).wp P Q a w :=
  wp_region_quiet hm hB hC (by
    have : (fun a' => ∀ s, Q .normal a' (f s)) = (fun a' => ∀ w', (∃ s, w' = f s) → Q .normal a' w') := by funext a'; simp
    rw [this] at h; exact h)
end
end Go.Proofs.YtlkhjnpflohfeaaDoor

/- Contracts of the steps of package cut. -/
namespace Go.Proofs.YtlkhjnpflohfeaaDoor
open Go Go.Proofs Go.RowKit
attribute [local go_sem ↓] run_max_i64 run_min_i64

set_option maxHeartbeats 400000 in
theorem held_any (n : Int) (B : Nat) (most : Int) (w : World) (hc : w.cell? ⟨B, 2, none⟩ = some (.int .i64 most)) :
    Calls Tryd.prog 122 #[.int .i64 n, .pointer (some ⟨B, 0, none⟩)] w fun e w' => e = .returned (.int .i64 (Cut.held most n)) ∧ w' = w := by
  go_enter Tryd.func122, Tryd.ntmps122
  go_wp2
  go_ret
  exact ⟨rfl, rfl⟩

set_option maxHeartbeats 800000 in
set_option maxRecDepth 100000 in
theorem after_any (s1 s2 most v1 v2 : Int) (w : World) (hdr : Dry w) (b1 : -4611686018427387904 ≤ v1 + s1) (b2 : v1 + s1 ≤ 4611686018427387904) (b3 : -4611686018427387904 ≤ v2 + s2) (b4 : v2 + s2 ≤ 4611686018427387904) :
    Calls Tryd.prog 120 #[.agg #[.int .i64 s1, .int .i64 s2, .int .i64 most], .agg #[.int .i64 v1, .int .i64 v2]] w fun e w' => e = .returned (.agg #[.int .i64 (Cut.after (s1, s2) most (v1, v2)).1, .int .i64 (Cut.after (s1, s2) most (v1, v2)).2]) ∧ Below w.heap.size w w' := by
  obtain ⟨h0, h1, h2⟩ := hdr
  by_cases hs : Cut.some (v1, v2) = true
  · have HD : Hid (Cut.after (s1, s2) most (v1, v2) = (Cut.held most (v1 + s1), Cut.held most (v2 + s2))) := if_pos (by simpa [Cut.some] using hs)
    go_enter Tryd.func120, Tryd.ntmps120
    go_wp2_with (go_at_call 55; refine (some_any _ _ _).mono ?_; rintro e w' ⟨rfl, hb⟩; rw [hs]; obtain ⟨hc, hf⟩ := bcell hb; have hz := hb.size; simp at hz)
    have e1 : IntKind.i64.wrap (v1 + s1) = v1 + s1 := IntWalk.i64_in _ (by omega)
    have e2 : IntKind.i64.wrap (v2 + s2) = v2 + s2 := IntWalk.i64_in _ (by omega)
    have hcl : ∃ s : Cls (Below (w.heap.size + 1 + 1 + 1) w'), w'.drew = s.W := ⟨⟨_, (Below.refl _ _).drew⟩, rfl⟩
    have hne : Nonempty (Cls (Below (w.heap.size + 1 + 1 + 1) w')) := ⟨⟨_, Below.refl _ _⟩⟩
    have hS : ∀ (s : Cls (Below (w.heap.size + 1 + 1 + 1) w')) (b o : Nat), b < w.heap.size + 1 + 1 + 1 → s.W.cell? ⟨b, o, none⟩ = w'.cell? ⟨b, o, none⟩ := fun s b o h => s.ok.cell (p := ⟨b, o, none⟩) h
    have hSf : ∀ (s : Cls (Below (w.heap.size + 1 + 1 + 1) w')) (b o : Nat), b < w.heap.size + 1 + 1 + 1 → s.W.frozen? ⟨b, o, none⟩ = w'.frozen? ⟨b, o, none⟩ := fun s b o h => s.ok.frozen (p := ⟨b, o, none⟩) h
    clear h0 h1 h2
    refine wp_region_quiet_tail (S := Cls (Below (w.heap.size + 1 + 1 + 1) w')) Cls.W 20 (by kernel_rfl) (by kernel_rfl) hcl ?_
    simp only [List.take_succ_cons, List.take_zero, List.drop_succ_cons, List.drop_zero]
    clear hcl
    repeat (quiet_step ((go_at_call 122; refine (held_any _ _ most _ ?_).mono ?_; go_simp; rintro e w2 ⟨rfl, rfl⟩; exact ⟨rfl, _, rfl⟩)))
    refine wpQuiet_nil ?_
    intro s'
    go_wp2
    have hz2 := s'.ok.size
    refine bodyPost_ret (v := .agg #[.int .i64 (Cut.held most (v1 + s1)), .int .i64 (Cut.held most (v2 + s2))]) (by simp [results, Tryd.results120, go_sem, *]) rfl ⟨by rw [HD.out], ?_⟩
    have h3 := s'.ok.mono (show w.heap.size ≤ w.heap.size + 1 + 1 + 1 by omega)
    have h4 := hb.mono (show w.heap.size ≤ _ by simp; omega)
    have h5 := h4.trans h3
    (repeat' first | (with_reducible assumption) | (with_reducible exact Below.refl _ _) | (with_reducible refine Below.drew ?_) | (with_reducible refine Below.setCell ?_ ?_ _) | (with_reducible refine Below.alloc ?_ ?_ _) | (refine Below.trans ?_ (Below.mono (by assumption) ?_)) | omega | (simp only [World.size_alloc] at *; omega))
  · have HD : Hid (Cut.after (s1, s2) most (v1, v2) = Cut.dry) := if_neg (by simpa [Cut.some] using hs)
    replace hs : Cut.some (v1, v2) = false := by simpa using hs
    go_enter Tryd.func120, Tryd.ntmps120
    go_wp2_with (go_at_call 55; refine (some_any _ _ _).mono ?_; rintro e w' ⟨rfl, hb⟩; rw [hs]; obtain ⟨hc, hf⟩ := bcell hb; have hz := hb.size; simp at hz)
    refine bodyPost_ret (v := .agg #[.int .i64 1048576, .int .i64 (-1048576)]) (by simp [results, Tryd.results120, go_sem, *]) rfl ⟨by rw [HD.out]; rfl, ?_⟩
    (repeat' first | (with_reducible assumption) | (with_reducible exact Below.refl _ _) | (with_reducible refine Below.drew ?_) | (with_reducible refine Below.setCell ?_ ?_ _) | (with_reducible refine Below.alloc ?_ ?_ _) | (refine Below.trans ?_ (Below.mono (by assumption) ?_)) | omega | (simp only [World.size_alloc] at *; omega))

set_option maxHeartbeats 800000 in
set_option maxRecDepth 100000 in
theorem before_any (s1 s2 most v1 v2 : Int) (w : World) (hdr : Dry w) (b1 : -2000000 ≤ v1 ∧ v1 ≤ 2000000) (b2 : -2000000 ≤ v2 ∧ v2 ≤ 2000000) (b3 : -2000000 ≤ s1 ∧ s1 ≤ 2000000) (b4 : -2000000 ≤ s2 ∧ s2 ≤ 2000000) :
    Calls Tryd.prog 121 #[.agg #[.int .i64 s1, .int .i64 s2, .int .i64 most], .agg #[.int .i64 v1, .int .i64 v2]] w fun e w' => e = .returned (.agg #[.int .i64 (Cut.before (s1, s2) most (v1, v2)).1, .int .i64 (Cut.before (s1, s2) most (v1, v2)).2]) ∧ Below w.heap.size w w' := by
  have hdr' := hide hdr
  obtain ⟨h0, h1, h2⟩ := hdr
  by_cases hs : Cut.some (v1, v2) = true
  · have HD : Hid (Cut.before (s1, s2) most (v1, v2) = Cut.common (0, most) ((if v1 = 0 then -65536 else v1) - s2, (if v2 = most then 65536 else v2) - s1)) := if_pos (by simpa [Cut.some] using hs)
    obtain rfl | c1 := Classical.em (v1 = 0)
    all_goals obtain rfl | c2 := Classical.em (most = v2)
    all_goals (try (have c1' : (v1 == 0) = false := by simpa using c1))
    all_goals (try (have c2' : (v2 == most) = false := by simpa using (fun h => c2 h.symm)))
    all_goals (try (have c2'' : ¬ v2 = most := fun h => c2 h.symm))
    all_goals (try clear c1)
    all_goals (try clear c2)
    all_goals (try clear c2'')
    all_goals go_enter Tryd.func121, Tryd.ntmps121
    all_goals go_wp2_with (go_at_call 55; refine (some_any _ _ _).mono ?_; rintro e w' ⟨rfl, hb⟩; rw [hs]; obtain ⟨hc, hf⟩ := bcell hb; have hz := hb.size; simp at hz)
    all_goals go_quiet (fail)
    all_goals have hbw : Below w.heap.size w w' := by (repeat' first | (with_reducible assumption) | (with_reducible exact Below.refl _ _) | (with_reducible refine Below.drew ?_) | (with_reducible refine Below.setCell ?_ ?_ _) | (with_reducible refine Below.alloc ?_ ?_ _) | (refine Below.trans ?_ (Below.mono (by assumption) ?_)) | omega | (simp only [World.size_alloc] at *; omega))
    all_goals have hdw := hide (hdr'.out.below hbw)
    all_goals go_wp2_with (go_at_call 89; refine (common_any _ _ _ _ _ (hdw.out.drewN nq)).mono ?_; rintro e w2 ⟨rfl, hb2⟩; have hb3 := below_drewN (hb2.mono (show w.heap.size + 1 + 1 + 1 ≤ _ by simp; omega)); obtain ⟨hc2, hf2⟩ := bcellN hb3; clear hb2; have hz2 := hb3.size)
    all_goals refine bodyPost_ret (by simp [results, Tryd.results121, go_sem, *]; rfl) rfl ⟨by rw [HD.out]; grind, ?_⟩
    all_goals have hb4 := hbw.trans (hb3.mono (show w.heap.size ≤ _ by omega))
    all_goals (repeat' first | (with_reducible assumption) | (with_reducible exact Below.refl _ _) | (with_reducible refine Below.drew ?_) | (with_reducible refine Below.setCell ?_ ?_ _) | (with_reducible refine Below.alloc ?_ ?_ _) | (refine Below.trans ?_ (Below.mono (by assumption) ?_)) | omega | (simp only [World.size_alloc] at *; omega))
  · have HD : Hid (Cut.before (s1, s2) most (v1, v2) = Cut.dry) := if_neg (by simpa [Cut.some] using hs)
    replace hs : Cut.some (v1, v2) = false := by simpa using hs
    go_enter Tryd.func121, Tryd.ntmps121
    go_wp2_with (go_at_call 55; refine (some_any _ _ _).mono ?_; rintro e w' ⟨rfl, hb⟩; rw [hs]; obtain ⟨hc, hf⟩ := bcell hb; have hz := hb.size; simp at hz)
    refine bodyPost_ret (v := .agg #[.int .i64 1048576, .int .i64 (-1048576)]) (by simp [results, Tryd.results121, go_sem, *]) rfl ⟨by rw [HD.out]; rfl, ?_⟩
    (repeat' first | (with_reducible assumption) | (with_reducible exact Below.refl _ _) | (with_reducible refine Below.drew ?_) | (with_reducible refine Below.setCell ?_ ?_ _) | (with_reducible refine Below.alloc ?_ ?_ _) | (refine Below.trans ?_ (Below.mono (by assumption) ?_)) | omega | (simp only [World.size_alloc] at *; omega))

end Go.Proofs.YtlkhjnpflohfeaaDoor

/- A cut that is looked at, in memory. -/
namespace Go.Proofs.YtlkhjnpflohfeaaDoor
open Go Go.Proofs Go.RowKit

/-- A slice's array at ra: n elements of k cells each, in a block that is there and is not M. -/
def Elems (w : World) (M : Nat) (ra : Option Addr) (n k : Nat) (f : Nat → Nat → Value) : Prop :=
  n = 0 ∨ ∃ b off, ra = some ⟨b, off, none⟩ ∧ b < w.heap.size ∧ b ≠ M ∧ ∀ i j, i < n → j < k → w.cell? ⟨b, off + i * k + j, none⟩ = some (f i j)
theorem Elems.bel {w w' : World} {M : Nat} {ra : Option Addr} {n k : Nat} {f : Nat → Nat → Value} (h : Elems w M ra n k f) (hb : Bel M w.heap.size w w') : Elems w' M ra n k f := by
  rcases h with h | ⟨b, off, hr, hlt, hM, hc⟩
  · exact .inl h
  · exact .inr ⟨b, off, hr, Nat.lt_of_lt_of_le hlt hb.size, hM, fun i j hi hj => (hb.cell (p := ⟨b, _, none⟩) hlt hM).trans (hc i j hi hj)⟩

def spanCell (l : List (Int × Int)) (i j : Nat) : Value := if j = 0 then .int .i64 (Cut.spanAt l i).1 else .int .i64 (Cut.spanAt l i).2
def boatCell (l : List Boat) (i j : Nat) : Value :=
  if j = 0 then .int .i64 (Cut.boatAt l i).draws.1 else if j = 1 then .int .i64 (Cut.boatAt l i).draws.2 else if j = 2 then .int .i64 (Cut.boatAt l i).per else .int .i64 (Cut.boatAt l i).room
def lookCell (l : List Look) (i j : Nat) : Value :=
  if j = 0 then .int .i64 (Cut.lookAt l i).day else if j = 1 then .int .i64 (Cut.lookAt l i).depth.1 else .int .i64 (Cut.lookAt l i).depth.2
def spanCells : List (Int × Int) → List Value
  | [] => []
  | s :: l => .int .i64 s.1 :: .int .i64 s.2 :: spanCells l

/-- The map of what is known already: each entry is right. -/
def Kept (w : World) (M : Nat) (x : CutD) : Prop :=
  ∃ es clock, w.heap[M]? = some (.map es clock) ∧ ∀ e ∈ es.toList, ∃ (k : Int) (s : Nat), e.key = .agg #[.int .i64 k, .int .u64 s] ∧ e.val = .agg (spanCells (Cut.season x k s)).toArray

/-- The cut x at block B, its map at M; the slices' arrays and capacities. -/
structure CutAt (w : World) (B M : Nat) (x : CutD) (ra ba la : Option Addr) (rc bc lc : Nat) : Prop where
  blk : Blk w B 118 [.int .i64 x.depth.1, .int .i64 x.depth.2, .int .i64 x.leak.1, .int .i64 x.leak.2, .slice ra x.rain.length rc, .int .i64 x.most, .slice ba x.boats.length bc, .slice la x.looks.length lc, .map (some M)]
  rain : Elems w M ra x.rain.length 2 (spanCell x.rain)
  boats : Elems w M ba x.boats.length 4 (boatCell x.boats)
  looks : Elems w M la x.looks.length 3 (lookCell x.looks)
  kept : Kept w M x
  ne : B ≠ M
  dry : Dry w
  nd : 0 ≠ M
section
variable {w w' : World} {B M : Nat} {x : CutD} {ra ba la : Option Addr} {rc bc lc : Nat}
theorem CutAt.bel (h : CutAt w B M x ra ba la rc bc lc) (hb : Bel M w.heap.size w w') (hk : Kept w' M x) : CutAt w' B M x ra ba la rc bc lc :=
  ⟨h.blk.bel hb h.blk.lt h.ne, h.rain.bel hb, h.boats.bel hb, h.looks.bel hb, hk, h.ne, h.dry.bel hb h.nd, h.nd⟩
theorem Kept.lt (h : Kept w M x) : M < w.heap.size := by
  obtain ⟨_, _, h, _⟩ := h; exact (Array.getElem?_eq_some_iff.1 h).1
theorem Kept.below {N : Nat} (h : Kept w M x) (hb : Below N w w') (hN : M < N) : Kept w' M x := by
  obtain ⟨es, c, h1, h2⟩ := h; exact ⟨es, c, (hb.block M hN).trans h1, h2⟩
theorem CutAt.below (h : CutAt w B M x ra ba la rc bc lc) (hb : Below w.heap.size w w') : CutAt w' B M x ra ba la rc bc lc :=
  h.bel (Bel.of_below hb) (h.kept.below hb h.kept.lt)
theorem CutAt.alloc (h : CutAt w B M x ra ba la rc bc lc) (o : Obj) : CutAt (w.alloc o) B M x ra ba la rc bc lc := h.below ((Below.refl _ _).alloc (Nat.le_refl _) _)
theorem CutAt.drew (h : CutAt w B M x ra ba la rc bc lc) : CutAt w.drew B M x ra ba la rc bc lc := h.below (Below.refl _ _).drew
/-- A store into a block that was not there. -/
theorem CutAt.far {w0 : World} (h0 : CutAt w0 B M x ra ba la rc bc lc) (hb : Bel M w0.heap.size w0 w) (hk : Kept w M x) : CutAt w B M x ra ba la rc bc lc := h0.bel hb hk
end

end Go.Proofs.YtlkhjnpflohfeaaDoor

/- The map of what is known already: looking up, writing. -/
namespace Go.Proofs.YtlkhjnpflohfeaaDoor
open Go Go.Proofs Go.RowKit

theorem eqIn_int {P : Program} (d : Nat) {t : TypeId} {k : IntKind} (h : P.underlying t = some (.int k)) (a b : Int) (W : World) : (Op.equalIn (d + 1) t (.int k a) (.int k b)).run P W = .ok (a == b) W := by
  simp [Op.equalIn, run_underlying h]
theorem eqIn_two {P : Program} (d : Nat) {t : TypeId} {f0 f1 : Field} {k0 k1 : IntKind} (h : P.underlying t = some (.struct #[f0, f1])) (hst : P.stoodInHeld t = false) (n0 : f0.name ≠ "_") (n1 : f1.name ≠ "_")
    (h0 : P.underlying f0.type = some (.int k0)) (h1 : P.underlying f1.type = some (.int k1)) (a b c e : Int) (xs ys : Array Value) (W : World)
    (p0 : (part f0.type xs f0.offset).run P W = .ok (.int k0 a) W) (p1 : (part f1.type xs f1.offset).run P W = .ok (.int k1 b) W)
    (q0 : (part f0.type ys f0.offset).run P W = .ok (.int k0 c) W) (q1 : (part f1.type ys f1.offset).run P W = .ok (.int k1 e) W) :
    (Op.equalIn (d + 2) t (.agg xs) (.agg ys)).run P W = .ok (a == c && b == e) W := by
  have e0 := eqIn_int (P := P) d h0 a c W
  have e1 := eqIn_int (P := P) d h1 b e W
  unfold Op.equalIn
  simp only [Sem.run_bind, run_underlying h, Result.andThen, Sem.run, program]
  simp [hst, n0, n1, p0, p1, q0, q1, e0, e1]
  by_cases h1 : a = c <;> by_cases h2 : b = e <;> simp [*]
theorem check_int {P : Program} (em : Bool) (d : Nat) {t : TypeId} {k : IntKind} (h : P.underlying t = some (.int k)) (a : Int) (W : World) : (Instr.checkKey em (d + 1) t (.int k a)).run P W = .ok () W := by
  simp [Instr.checkKey, run_underlying h]
theorem check_two {P : Program} (em : Bool) (d : Nat) {t : TypeId} {f0 f1 : Field} {k0 k1 : IntKind} (h : P.underlying t = some (.struct #[f0, f1])) (n0 : f0.name ≠ "_") (n1 : f1.name ≠ "_")
    (h0 : P.underlying f0.type = some (.int k0)) (h1 : P.underlying f1.type = some (.int k1)) (a b : Int) (xs : Array Value) (W : World)
    (p0 : (part f0.type xs f0.offset).run P W = .ok (.int k0 a) W) (p1 : (part f1.type xs f1.offset).run P W = .ok (.int k1 b) W) :
    (Instr.checkKey em (d + 2) t (.agg xs)).run P W = .ok () W := by
  have e0 := check_int (P := P) em d h0 a W
  have e1 := check_int (P := P) em d h1 b W
  unfold Instr.checkKey
  simp only [Sem.run_bind, run_underlying h, Result.andThen]
  simp [n0, n1, p0, p1, e0, e1]

abbrev keyV (k : Int) (s : Nat) : Value := .agg #[.int .i64 k, .int .u64 s]
abbrev seasonV (x : CutD) (k : Int) (s : Nat) : Value := .agg (spanCells (Cut.season x k s)).toArray

theorem key_eq (k k' : Int) (s s' : Nat) (W : World) : (Op.equal 90 (keyV k s) (keyV k' s')).run Tryd.prog W = .ok (k == k' && (s : Int) == (s' : Int)) W :=
  eqIn_two 9998 Tryd.underlying90 (by kernel_rfl) (by decide) (by decide) Tryd.underlying3 Tryd.underlying87 k s k' s' _ _ W (by kernel_rfl) (by kernel_rfl) (by kernel_rfl) (by kernel_rfl)
theorem key_check (em : Bool) (k : Int) (s : Nat) (W : World) : (Instr.checkKey em 10000 90 (keyV k s)).run Tryd.prog W = .ok () W :=
  check_two em 9998 Tryd.underlying90 (by decide) (by decide) Tryd.underlying3 Tryd.underlying87 k s _ W (by kernel_rfl) (by kernel_rfl)

def Entry (x : CutD) (e : MapEntry) : Prop := ∃ (k : Int) (s : Nat), e.key = keyV k s ∧ e.val = seasonV x k s

theorem find_kept (x : CutD) (k : Int) (s : Nat) : ∀ (es : List MapEntry) (i : Nat), (∀ e ∈ es, Entry x e) →
    ∃ r, (∀ W, (Instr.findAsking 90 (keyV k s) es i).run Tryd.prog W = .ok r W) ∧ (r = none ∨ ∃ j, i ≤ j ∧ r = some (j, seasonV x k s) ∧ ∃ e, es[j - i]? = some e ∧ e.key = keyV k s)
  | [], i, _ => ⟨none, fun _ => rfl, .inl rfl⟩
  | e :: es, i, h => by
    obtain ⟨k', s', hk, hv⟩ := h e (by simp)
    unfold Instr.findAsking
    rw [hk]
    simp only [Sem.run_bind, key_eq, Result.andThen]
    by_cases hh : k = k' ∧ s = s'
    · obtain ⟨rfl, rfl⟩ := hh
      refine ⟨some (i, e.val), fun W => by simp, .inr ⟨i, Nat.le_refl _, by rw [hv], e, by simp, hk⟩⟩
    · have hf : (k == k' && (s : Int) == (s' : Int)) = false := by
        cases hb : (k == k' && (s : Int) == (s' : Int)) with
        | false => rfl
        | true => simp at hb; exact absurd ⟨hb.1, by omega⟩ hh
      rw [hf]
      obtain ⟨r, hr, hrr⟩ := find_kept x k s es (i + 1) (fun e he => h e (by simp [he]))
      refine ⟨r, fun W => by simpa using hr W, ?_⟩
      rcases hrr with rfl | ⟨j, hj, rfl, e', he', hk'⟩
      · exact .inl rfl
      · refine .inr ⟨j, by omega, rfl, e', ?_, hk'⟩
        rw [show j - i = (j - (i + 1)) + 1 by omega]; simpa using he'

theorem findKey_kept (x : CutD) (k : Int) (s : Nat) (es : List MapEntry) (h : ∀ e ∈ es, Entry x e) :
    ∃ r, (∀ W, (Instr.findKey 90 (keyV k s) es).run Tryd.prog W = .ok r W) ∧ (r = none ∨ ∃ j, r = some (j, seasonV x k s) ∧ ∃ e, es[j]? = some e ∧ e.key = keyV k s) := by
  cases es with
  | nil =>
    refine ⟨none, fun W => ?_, .inl rfl⟩
    unfold Instr.findKey
    simp [run_underlying Tryd.underlying90, Instr.findNow]
  | cons e es =>
    obtain ⟨r, hr, hrr⟩ := find_kept x k s (e :: es) 0 h
    refine ⟨r, fun W => ?_, ?_⟩
    · unfold Instr.findKey
      simp [Sem.run_bind, run_underlying Tryd.underlying90, Instr.findNow, Instr.sameNow, hr]
    · rcases hrr with rfl | ⟨j, _, rfl, e', he', hk'⟩
      · exact .inl rfl
      · exact .inr ⟨j, rfl, e', by simpa using he', hk'⟩

/-- Looking up: what is found is right; or nothing is found. -/
theorem lookup_kept {w : World} {M : Nat} {x : CutD} (hk : Kept w M x) (k : Int) (s : Nat) :
    ∃ hit : Bool, ∀ W : World, W.heap[M]? = w.heap[M]? →
      (Instr.lookup 116 (.map (some M)) (keyV k s) true).run Tryd.prog W = .ok (.tuple #[if hit then seasonV x k s else .agg (Array.replicate 18 (.int .i64 0)), .bool hit]) W := by
  obtain ⟨es, clock, h1, h2⟩ := hk
  have hE : ∀ e ∈ es.toList, Entry x e := h2
  obtain ⟨r, hr, hrr⟩ := findKey_kept x k s es.toList hE
  have zero : ∀ W : World, (zeroValue 85).run Tryd.prog W = .ok (.agg (Array.replicate 18 (.int .i64 0))) W := fun W => by rw [Tryd.zeroValue85]; rfl
  refine ⟨r.isSome, fun W hW => ?_⟩
  rw [h1] at hW
  unfold Instr.lookup
  rcases hrr with rfl | ⟨j, rfl, _⟩
  · simp [Sem.run_bind, run_underlying Tryd.underlying116, Result.andThen, getObj, Sem.run, hW, key_check, hr, zero]
  · simp [Sem.run_bind, run_underlying Tryd.underlying116, Result.andThen, getObj, Sem.run, hW, key_check, hr]

theorem same_key (k k' : Int) (s s' : Nat) (h : keyV k' s' = keyV k s) : Instr.sameBits 10000 (keyV k' s') (keyV k s) = true := by
  rw [h]; simp [Instr.sameBits]

/-- Writing what is right: all that is in the map is right then, too. -/
theorem update_kept {w : World} {M : Nat} {x : CutD} (hk : Kept w M x) (k : Int) (s : Nat) :
    ∃ o, (Instr.mapUpdate 116 (.map (some M)) (keyV k s) (seasonV x k s)).run Tryd.prog w = .ok () (w.putObj M o) ∧ Kept (w.putObj M o) M x := by
  have hlt := hk.lt
  obtain ⟨es, clock, h1, h2⟩ := hk
  have hE : ∀ e ∈ es.toList, Entry x e := h2
  obtain ⟨r, hr, hrr⟩ := findKey_kept x k s es.toList hE
  rcases hrr with rfl | ⟨j, rfl, e, he, hke⟩
  · refine ⟨.map (es.push { key := keyV k s, val := seasonV x k s, born := clock }) (clock + 1), ?_, ?_⟩
    · unfold Instr.mapUpdate
      simp [Sem.run_bind, run_underlying Tryd.underlying116, Result.andThen, getObj, setObj, Sem.run, h1, key_check, hr, World.putObj]
    · refine ⟨_, _, World.putObj_heap_same hlt, ?_⟩
      intro e he
      simp at he
      rcases he with he | rfl
      · exact h2 e (by simpa using he)
      · exact ⟨k, s, rfl, rfl⟩
  · have hes : es[j]? = some e := by simpa using he
    have hsb : Instr.sameBits 10000 (((es[j]?).map (·.key)).getD (keyV k s)) (keyV k s) = true := by rw [hes]; simp only [Option.map_some, Option.getD_some, hke]; exact same_key _ _ _ _ rfl
    refine ⟨.map (es.modify j fun e => { e with key := keyV k s, val := seasonV x k s }) clock, ?_, ?_⟩
    · unfold Instr.mapUpdate
      simp only [Sem.run_bind, run_underlying Tryd.underlying116, Result.andThen, getObj, setObj, Sem.run, h1, key_check, hr, Instr.keyThatStays, hsb]
      simp [World.putObj, h1]
    · refine ⟨_, _, World.putObj_heap_same hlt, ?_⟩
      intro e' he'
      obtain ⟨i, hi, rfl⟩ := Array.mem_iff_getElem.1 (Array.mem_toList_iff.1 he')
      rw [Array.getElem_modify]
      split
      · exact ⟨k, s, rfl, rfl⟩
      · exact h2 _ (by simp)

end Go.Proofs.YtlkhjnpflohfeaaDoor

/- Contracts of look.after, look.before, looked. -/
namespace Go.Proofs.YtlkhjnpflohfeaaDoor
open Go Go.Proofs Go.RowKit
attribute [local go_sem ↓] run_max_i64 run_min_i64

set_option maxHeartbeats 400000 in
theorem lookAfter_any (a b c d : Int) (w : World) (hdr : Dry w) :
    Calls Tryd.prog 123 #[.agg #[.int .i64 a, .int .i64 b], .agg #[.int .i64 c, .int .i64 d]] w fun e w' => e = .returned (.agg #[.int .i64 (Cut.common (c, d) (a, b)).1, .int .i64 (Cut.common (c, d) (a, b)).2]) ∧ Below w.heap.size w w' := by
  have hdr' := hide hdr
  clear hdr
  go_enter Tryd.func123, Tryd.ntmps123
  go_wp2_with (go_at_call 89; refine (common_any _ _ _ _ _ ((((hdr'.out.below ((Below.refl _ _).alloc (Nat.le_refl _) _)).below ((Below.refl _ _).alloc (Nat.le_refl _) _)).below ((Below.refl _ _).alloc (Nat.le_refl _) _)))).mono ?_; rintro e w' ⟨rfl, hb⟩; obtain ⟨hc, hf⟩ := bcell hb; have hz := hb.size; simp at hz)
  refine bodyPost_ret (by simp [results, Tryd.results123, go_sem, *]) rfl ⟨rfl, ?_⟩
  (repeat' first | (with_reducible assumption) | (with_reducible exact Below.refl _ _) | (with_reducible refine Below.drew ?_) | (with_reducible refine Below.setCell ?_ ?_ _) | (with_reducible refine Below.alloc ?_ ?_ _) | (refine Below.trans ?_ (Below.mono (by assumption) ?_)) | omega | (simp only [World.size_alloc] at *; omega))

section
variable {B M : Nat} {x : CutD} {ra ba la : Option Addr} {rc bc lc : Nat}

set_option maxHeartbeats 400000 in
theorem looked_any (v1 v2 d : Int) (set : Nat) (w : World) (h : CutAt w B M x ra ba la rc bc lc) (hv : x.looks.length ≤ 5) (hset : set < 18446744073709551616) :
    Calls Tryd.prog 88 #[.pointer (some ⟨B, 0, none⟩), .agg #[.int .i64 v1, .int .i64 v2], .int .i64 d, .int .u64 set] w fun e w' =>
      e = .returned (.agg #[.int .i64 (Cut.looked x.looks d set (v1, v2)).1, .int .i64 (Cut.looked x.looks d set (v1, v2)).2]) ∧ Below w.heap.size w w' := by
  have c7 := h.blk.cell 7 rfl
  have H := hide h
  rcases h.looks with h0 | ⟨bb, off, rfl, hlt, hM, hc⟩
  · have hw : Cut.looked x.looks d set (v1, v2) = (v1, v2) := by unfold Cut.looked; rw [h0]; rfl
    have hBlt := h.blk.lt
    rw [h0] at c7
    have HW := hide hw
    clear h hw h0
    go_enter Tryd.func88, Tryd.ntmps88
    go_wp2
    refine wp_loop_rounds 1 ?_
    rw [rounds_succ]
    go_wp2
    refine bodyPost_ret (v := .agg #[.int .i64 v1, .int .i64 v2]) (by simp [results, Tryd.results88, go_sem, *]) rfl ⟨by rw [HW.out], ?_⟩
    (repeat' first | (with_reducible assumption) | (with_reducible exact Below.refl _ _) | (with_reducible refine Below.drew ?_) | (with_reducible refine Below.setCell ?_ ?_ _) | (with_reducible refine Below.alloc ?_ ?_ _) | (refine Below.trans ?_ (Below.mono (by assumption) ?_)) | omega | (simp only [World.size_alloc] at *; omega))
  have HC := hide hc
  have hBlt := h.blk.lt
  clear h hc
  go_enter Tryd.func88, Tryd.ntmps88
  go_wp2
  go_loopw [9, 10, 11, 18, 19, 20, 21, 22, 23, 24, 25, 26, 27, 28, 29, 30, 31, 32, 33, 34, 35, 36, 37, 38, 39, 40, 41, 42] (fun _ _ _ i _ _ _ _ _ _ _ _ _ _ _ _ _ _ _ _ _ _ _ _ _ _ _ _ wr => ∃ k : Nat, k ≤ x.looks.length ∧ i = .int .i64 k ∧ Below w.heap.size w wr ∧
      Blk wr w.heap.size 83 [.int .i64 (Cut.lookedTo x.looks d set (v1, v2) k).1, .int .i64 (Cut.lookedTo x.looks d set (v1, v2) k).2] ∧ Blk wr (w.heap.size + 1) 83 [.int .i64 0, .int .i64 0]) (fun _ _ _ i _ _ _ _ _ _ _ _ _ _ _ _ _ _ _ _ _ _ _ _ _ _ _ _ _ => x.looks.length - (intOf i).toNat)
  case atStart =>
    exact ⟨0, by omega, rfl, by (repeat' first | (with_reducible assumption) | (with_reducible exact Below.refl _ _) | (with_reducible refine Below.drew ?_) | (with_reducible refine Below.setCell ?_ ?_ _) | (with_reducible refine Below.alloc ?_ ?_ _) | (refine Below.trans ?_ (Below.mono (by assumption) ?_)) | omega | (simp only [World.size_alloc] at *; omega)), (Blk.new' _ [_, _] _ (by simp)).alloc _, Blk.new' _ [_, _] _ (by simp)⟩
  case round =>
    obtain ⟨k, hk, rfl, hB, b0, b1⟩ := hrel
    have c00 := b0.cell 0 rfl
    have c01 := b0.cell 1 rfl
    have c10 := b1.cell 0 rfl
    have c11 := b1.cell 1 rfl
    have f00 := b0.free 0
    have f01 := b0.free 1
    have f10 := b1.free 0
    have f11 := b1.free 1
    by_cases hkl : k < x.looks.length
    · have k0 := HC.out k 0 hkl (by omega)
      have k1 := HC.out k 1 hkl (by omega)
      have k2 := HC.out k 2 hkl (by omega)
      rw [← hB.cell (p := ⟨bb, _, none⟩) hlt] at k0 k1 k2
      simp [lookCell] at k0 k1 k2
      have hdw := hide ((H.out.below hB).dry)
      have hbit := bit_u64 set k hset
      have hl0 := b0.lt
      have hl1 := b1.lt
      by_cases ht : set.testBit k = true
      · by_cases hd : (Cut.lookAt x.looks k).day = d
        · have HU : Hid (Cut.lookedTo x.looks d set (v1, v2) (k + 1) = Cut.common (Cut.lookedTo x.looks d set (v1, v2) k) (Cut.lookAt x.looks k).depth) := by show Cut.lookedTo _ _ _ _ _ = _; simp [Cut.lookedTo, ht, hd]
          have hd' : ((Cut.lookAt x.looks k).day == d) = true := by simpa using hd
          rw [ht] at hbit
          simp only [if_true] at hbit
          clear hd ht
          go_wp2_with (go_at_call 123; refine (lookAfter_any _ _ _ _ _ (hdw.out.below ((Below.refl _ _).alloc (Nat.le_refl _) _))).mono ?_; rintro e w' ⟨rfl, hb⟩; obtain ⟨hc, hf⟩ := bcell hb; have hz := hb.size; simp at hz)
          have b0' := (b0.alloc (Obj.cells #[.int .i64 (Cut.lookAt x.looks k).day, .int .i64 (Cut.lookAt x.looks k).depth.1, .int .i64 (Cut.lookAt x.looks k).depth.2] 55)).below hb (by simp; omega)
          have b1' := (b1.alloc (Obj.cells #[.int .i64 (Cut.lookAt x.looks k).day, .int .i64 (Cut.lookAt x.looks k).depth.1, .int .i64 (Cut.lookAt x.looks k).depth.2] 55)).below hb (by simp; omega)
          refine ⟨⟨k + 1, by omega, by go_num, by (repeat' first | (with_reducible assumption) | (with_reducible exact Below.refl _ _) | (with_reducible refine Below.drew ?_) | (with_reducible refine Below.setCell ?_ ?_ _) | (with_reducible refine Below.alloc ?_ ?_ _) | (refine Below.trans ?_ (Below.mono (by assumption) ?_)) | omega | (simp only [World.size_alloc] at *; omega)), ?_, by (repeat' first | (with_reducible assumption) | (with_reducible exact Blk.new _ _ _) | (with_reducible refine Blk.drew ?_) | (with_reducible refine Blk.set ?_ _ _) | (with_reducible refine Blk.other ?_ _ _ ?_) | (with_reducible refine Blk.alloc ?_ _) | omega | (simp only [World.size_alloc, World.size_setCell, World.size_drew]; omega))⟩, by simp [intOf]; omega⟩
          rw [HU.out]
          exact ((b0'.set 0 _).set 1 _)
        · have HU : Hid (Cut.lookedTo x.looks d set (v1, v2) (k + 1) = Cut.lookedTo x.looks d set (v1, v2) k) := by show Cut.lookedTo _ _ _ _ _ = _; simp [Cut.lookedTo, hd]
          have hd' : ((Cut.lookAt x.looks k).day == d) = false := by simpa using hd
          rw [ht] at hbit
          simp only [if_true] at hbit
          clear hd ht
          go_wp2
          refine ⟨⟨k + 1, by omega, by go_num, by (repeat' first | (with_reducible assumption) | (with_reducible exact Below.refl _ _) | (with_reducible refine Below.drew ?_) | (with_reducible refine Below.setCell ?_ ?_ _) | (with_reducible refine Below.alloc ?_ ?_ _) | (refine Below.trans ?_ (Below.mono (by assumption) ?_)) | omega | (simp only [World.size_alloc, World.size_setCell, World.size_drew] at *; omega)), ?_, by (repeat' first | (with_reducible assumption) | (with_reducible exact Blk.new _ _ _) | (with_reducible refine Blk.drew ?_) | (with_reducible refine Blk.set ?_ _ _) | (with_reducible refine Blk.other ?_ _ _ ?_) | (with_reducible refine Blk.alloc ?_ _) | omega | (simp only [World.size_alloc, World.size_setCell, World.size_drew]; omega))⟩, by simp [intOf]; omega⟩
          rw [HU.out]; (repeat' first | (with_reducible assumption) | (with_reducible exact Blk.new _ _ _) | (with_reducible refine Blk.drew ?_) | (with_reducible refine Blk.set ?_ _ _) | (with_reducible refine Blk.other ?_ _ _ ?_) | (with_reducible refine Blk.alloc ?_ _) | omega | (simp only [World.size_alloc, World.size_setCell, World.size_drew]; omega))
      · have HU : Hid (Cut.lookedTo x.looks d set (v1, v2) (k + 1) = Cut.lookedTo x.looks d set (v1, v2) k) := by show Cut.lookedTo _ _ _ _ _ = _; simp [Cut.lookedTo, ht]
        replace ht : set.testBit k = false := by simpa using ht
        rw [ht] at hbit
        simp only [Bool.false_eq_true, if_false] at hbit
        clear ht
        go_wp2
        refine ⟨⟨k + 1, by omega, by go_num, by (repeat' first | (with_reducible assumption) | (with_reducible exact Below.refl _ _) | (with_reducible refine Below.drew ?_) | (with_reducible refine Below.setCell ?_ ?_ _) | (with_reducible refine Below.alloc ?_ ?_ _) | (refine Below.trans ?_ (Below.mono (by assumption) ?_)) | omega | (simp only [World.size_alloc, World.size_setCell, World.size_drew] at *; omega)), ?_, by (repeat' first | (with_reducible assumption) | (with_reducible exact Blk.new _ _ _) | (with_reducible refine Blk.drew ?_) | (with_reducible refine Blk.set ?_ _ _) | (with_reducible refine Blk.other ?_ _ _ ?_) | (with_reducible refine Blk.alloc ?_ _) | omega | (simp only [World.size_alloc, World.size_setCell, World.size_drew]; omega))⟩, by simp [intOf]; omega⟩
        rw [HU.out]; (repeat' first | (with_reducible assumption) | (with_reducible exact Blk.new _ _ _) | (with_reducible refine Blk.drew ?_) | (with_reducible refine Blk.set ?_ _ _) | (with_reducible refine Blk.other ?_ _ _ ?_) | (with_reducible refine Blk.alloc ?_ _) | omega | (simp only [World.size_alloc, World.size_setCell, World.size_drew]; omega))
    · obtain rfl : k = x.looks.length := by omega
      go_wp2
      refine bodyPost_ret (v := .agg #[.int .i64 (Cut.lookedTo x.looks d set (v1, v2) x.looks.length).1, .int .i64 (Cut.lookedTo x.looks d set (v1, v2) x.looks.length).2]) (by simp [results, Tryd.results88, go_sem, *]) rfl ⟨rfl, ?_⟩
      (repeat' first | (with_reducible assumption) | (with_reducible exact Below.refl _ _) | (with_reducible refine Below.drew ?_) | (with_reducible refine Below.setCell ?_ ?_ _) | (with_reducible refine Below.alloc ?_ ?_ _) | (refine Below.trans ?_ (Below.mono (by assumption) ?_)) | omega | (simp only at *; omega))
end
end Go.Proofs.YtlkhjnpflohfeaaDoor

/- A region that draws its order and lays one new variable (operation p): the variable's address is not known ahead, for others may lay blocks before it. All operations before the last ones, but p, are quiet in both classes of worlds: those before p, those behind it. -/
namespace Go.Proofs.YtlkhjnpflohfeaaDoor
open Go
section
variable {P : Program} {ops : Array Oper} {md : Region.Mode} {D : Option Nat → World → Prop}

def qOpF (P : Program) (ops : Array Oper) (D : Option Nat → World → Prop) (i : Nat) (K : Act → Prop) (a : Act) : Prop :=
  match ops[i]? with
  | none => K a
  | some o => if Region.wanted o (yielded ops a.tmps) then ∃ v, (∀ d w, D d w → o.quietAt P a (D d) w v) ∧ K (a.put o.dst v) else K (a.put o.dst undef)

def YieldsF (P : Program) (ops : Array Oper) (D : Option Nat → World → Prop) (o : Oper) (v : Value) (a : Act) : Prop :=
  (Region.wanted o (yielded ops a.tmps) = true ∧ ∀ d w, D d w → o.quietAt P a (D d) w v) ∨ (Region.wanted o (yielded ops a.tmps) = false ∧ v = undef)

theorem YieldsF.qOpF {i : Nat} {o : Oper} {v : Value} {a : Act} (hi : ops[i]? = some o) (hy : YieldsF P ops D o v a) {K : Act → Prop} (h : K (a.put o.dst v)) : qOpF P ops D i K a := by
  unfold YtlkhjnpflohfeaaDoor.qOpF
  simp only [hi]
  rcases hy with ⟨hw, hv⟩ | ⟨hw, rfl⟩
  · simp only [hw, if_true]; exact ⟨v, hv, h⟩
  · simp only [hw, Bool.false_eq_true, if_false]; exact h
theorem yieldsF_of {i : Nat} {o : Oper} {a : Act} {K : Act → Prop} (hi : ops[i]? = some o) (h : qOpF P ops D i K a) : ∃ v, YieldsF P ops D o v a ∧ K (a.put o.dst v) := by
  unfold qOpF at h
  simp only [hi] at h
  by_cases hw : Region.wanted o (yielded ops a.tmps) = true
  · simp only [hw, if_true] at h
    obtain ⟨v, h1, h2⟩ := h
    exact ⟨v, .inl ⟨hw, h1⟩, h2⟩
  · simp only [hw] at h
    exact ⟨undef, .inr ⟨by simpa using hw, rfl⟩, h⟩
theorem qOpF_mono {i : Nat} {a : Act} {K K' : Act → Prop} (h : ∀ a, K a → K' a) (hh : qOpF P ops D i K a) : qOpF P ops D i K' a := by
  unfold qOpF at *
  split
  · exact h _ (by simpa [*] using hh)
  · rename_i o ho
    simp only [ho] at hh
    split
    · rename_i hw; simp only [hw, if_true] at hh; obtain ⟨v, h1, h2⟩ := hh; exact ⟨v, h1, h _ h2⟩
    · rename_i hw; simp only [hw] at hh; exact h _ hh
theorem YieldsF.of_same {o : Oper} {v : Value} {a a' : Act} (hy : YieldsF P ops D o v a) (he : execOp a'.eval o = execOp a.eval o)
    (hw : Region.wanted o (yielded ops a'.tmps) = Region.wanted o (yielded ops a.tmps)) : YieldsF P ops D o v a' := by
  unfold YieldsF Oper.quietAt at *
  rw [he, hw]
  exact hy
theorem qOpF_put {j : Nat} {oi oj : Oper} {v : Value} (hj : ops[j]? = some oj) (hap : oi.apart ops oj = true)
    (hsi : ∀ cs b, oi.op ≠ .select cs b) (hsj : ∀ cs b, oj.op ≠ .select cs b) {K : Act → Prop} {a : Act}
    (hy : YieldsF P ops D oi v a) (h : qOpF P ops D j K (a.put oi.dst v)) :
    qOpF P ops D j (fun a' => YieldsF P ops D oi v a' ∧ K (a'.put oi.dst v)) a := by
  obtain ⟨h1, h2, h3⟩ := Oper.apart_spec hap
  have keep : ∀ (a : Act), YieldsF P ops D oi v a → ∀ u, YieldsF P ops D oi v (a.put oj.dst u) := fun a hy u =>
    hy.of_same (execOp_put oi hsi a oj.dst u h3) (wanted_put oi a oj.dst u h3)
  obtain ⟨u, hu, hK⟩ := yieldsF_of hj h
  refine YieldsF.qOpF hj (v := u) (hu.of_same (execOp_put oj hsj a oi.dst v h1).symm (wanted_put oj a oi.dst v h1).symm) ⟨keep a hy u, ?_⟩
  rw [← Act.put_comm a v u h2]; exact hK

def anyF (P : Program) (md : Region.Mode) (ops : Array Oper) (D : Option Nat → World → Prop) (p n : Nat) (L : Array Bool → Act → Prop) : Nat → Array Bool → Act → Prop
  | 0, listed, a => L listed a
  | f + 1, listed, a =>
    Region.ready md ops listed ≠ [] ∧ ∀ i ∈ Region.ready md ops listed, i < n ∧
      if i = p then anyF P md ops D p n L f (listed.setIfInBounds i true) a else qOpF P ops D i (anyF P md ops D p n L f (listed.setIfInBounds i true)) a

/-- What is asked of the new variable: before it the class none, behind it the class of its address. -/
structure Lays (P : Program) (ops : Array Oper) (D : Option Nat → World → Prop) (p n : Nat) (op : Oper) (V : Nat → Value) : Prop where
  at' : ops[p]? = some op
  guard : op.guard = none
  apart : ∀ j oj, ops[j]? = some oj → j < n → j ≠ p → op.apart ops oj = true
  run : ∀ a w, D none w → ∃ b w', (execOp (Act.eval a) op).run P w = .ok (.value (V b)) w' ∧ D (some b) w'

def fr (op : Oper) (V : Nat → Value) (d : Option Nat) (a : Act) : Act := match d with | none => a | some b => a.put op.dst (V b)

theorem wpAny_of_anyF {p n g : Nat} {op : Oper} {V : Nat → Value} {L : Array Bool → Act → Prop} {Q' : Exit → Act → World → Prop} (hp : Lays P ops D p n op V) (hps : p < ops.size)
    (hsel : ∀ (j : Nat) (o : Oper) cs b, ops[j]? = some o → o.op ≠ .select cs b)
    (hL : ∀ listed a d w, D d w → d.isSome = listed.getD p false → L listed a → wpAny P md ops Q' g listed (fr op V d a) w) :
    ∀ (f : Nat) (listed : Array Bool) (a : Act) (d : Option Nat) (w : World), listed.size = ops.size → D d w → d.isSome = listed.getD p false → anyF P md ops D p n L f listed a → wpAny P md ops Q' (f + g) listed (fr op V d a) w
  | 0, listed, a, d, w, _, hw, hd, h => by rw [Nat.zero_add]; exact hL _ _ _ _ hw hd h
  | f + 1, listed, a, d, w, hs, hw, hd, h => by
    rw [show f + 1 + g = (f + g) + 1 by omega]
    refine ⟨fun h0 => absurd h0 h.1, fun i hi => ?_⟩
    obtain ⟨hin, h2⟩ := h.2 i hi
    by_cases hip : i = p
    · subst hip
      rw [if_pos rfl] at h2
      have hun := (mem_ready.1 hi).1
      rw [getD_both hun] at hd
      cases d with
      | some b => simp at hd
      | none =>
        obtain ⟨b, w', hr, hD⟩ := hp.run (fr op V none a) w hw
        unfold wpOp
        simp only [hp.at']
        have hwt : Region.wanted op (yielded ops (fr op V none a).tmps) = true := by simp [Region.wanted, hp.guard]
        simp only [hwt, if_true]
        refine .inl ?_
        unfold Oper.wp
        rw [hr]
        refine wpAny_of_anyF hp hps hsel hL f _ a (some b) w' (by simp [hs]) hD ?_ h2
        rw [Array.getD_eq_getD_getElem?, Array.getElem?_setIfInBounds_self_of_lt (by omega)]; rfl
    · rw [if_neg hip] at h2
      have hd' : d.isSome = (listed.setIfInBounds i true).getD p false := by rw [getD_set_ne false hip]; exact hd
      obtain ⟨hun, oi, hoi, hall⟩ := mem_ready.1 hi
      obtain ⟨v, hy, hK⟩ := yieldsF_of hoi h2
      have hap := hp.apart i oi hoi hin hip
      obtain ⟨h1, h2', h3⟩ := Oper.apart_spec hap
      have he : ∀ u, execOp (a.put op.dst u).eval oi = execOp a.eval oi := fun u => execOp_put oi (fun cs b => hsel i oi cs b hoi) a op.dst u h1
      have hwt : ∀ u, Region.wanted oi (yielded ops (a.put op.dst u).tmps) = Region.wanted oi (yielded ops a.tmps) := fun u => wanted_put oi a op.dst u h1
      have he' : execOp (fr op V d a).eval oi = execOp a.eval oi := by cases d with | none => rfl | some b => exact he _
      have hwt' : Region.wanted oi (yielded ops (fr op V d a).tmps) = Region.wanted oi (yielded ops a.tmps) := by cases d with | none => rfl | some b => exact hwt _
      have hfr : ∀ u, (fr op V d a).put oi.dst u = fr op V d (a.put oi.dst u) := fun u => by cases d with | none => rfl | some b => exact Act.put_comm a (V b) u h2'
      unfold wpOp
      simp only [hoi]
      rcases hy with ⟨hw1, hq⟩ | ⟨hw1, rfl⟩
      · simp only [hwt', hw1, if_true]
        refine .inl ?_
        have hq' := hq d w hw
        unfold Oper.quietAt at hq'
        unfold Oper.wp
        rw [he']
        generalize (execOp a.eval oi).run P w = r at *
        cases r with
        | ok nx w' =>
          cases nx <;> simp only [Oper.quietUpon] at hq' <;> simp only [Oper.upon]
          case value u =>
            obtain ⟨e1, e2⟩ := hq'
            rw [e1, e2, hfr]
            exact wpAny_of_anyF hp hps hsel hL f _ _ d w (by simp [hs]) hw hd' hK
          case skip =>
            obtain ⟨e1, e2⟩ := hq'
            rw [e1, ← e2, hfr]
            exact wpAny_of_anyF hp hps hsel hL f _ _ d w (by simp [hs]) hw hd' hK
          case enter g' args =>
            obtain ⟨e1, hc⟩ := hq'
            rw [e1]
            exact hc.mono fun e w'' ⟨he, hw''⟩ => by
              subst he
              show wpAny P md ops Q' (f + g) _ ((fr op V d a).put oi.dst v) w''
              rw [hfr]
              exact wpAny_of_anyF hp hps hsel hL f _ _ d w'' (by simp [hs]) hw'' hd' hK
        | halt x w' => simp only [Oper.quietUpon] at hq'
      · simp only [hwt', hw1, Bool.false_eq_true, if_false]
        rw [hfr]
        exact wpAny_of_anyF hp hps hsel hL f _ _ d w (by simp [hs]) hw hd' hK

theorem anyF_first {p n i : Nat} {oi : Oper} {v : Value} {L : Array Bool → Act → Prop} (hi : ops[i]? = some oi) (hsel : ∀ (j : Nat) (o : Oper) cs b, ops[j]? = some o → o.op ≠ .select cs b)
    (hs : Region.sinkB md ops n = true) (hc : Region.chainB md ops n = true) (hn : n < ops.size) (hin : i < n) (hip : i ≠ p)
    (hdone : ∀ listed a, L listed a → ∀ j ∈ Region.ready md ops listed, n ≤ j) :
    ∀ (f : Nat) (listed : Array Bool) (a : Act), HeadInv md ops n listed →
      (∀ j oj, ops[j]? = some oj → j ≠ i → listed.getD j true = false → (∀ e ∈ oj.after, Region.binds md e = true → e.on ≠ i) → oi.apart ops oj = true) →
      i ∈ Region.ready md ops listed → YieldsF P ops D oi v a →
      anyF P md ops D p n L f (listed.setIfInBounds i true) (a.put oi.dst v) → anyF P md ops D p n L (f + 1) listed a := by
  intro f
  induction f with
  | zero =>
    intro listed a inv _ hr hy H
    have hun := (mem_ready.1 hr).1
    refine ⟨fun h => (by rw [h] at hr; cases hr), fun j hj => ?_⟩
    have hjn : j < n := (Nat.lt_or_ge j n).elim id fun h => absurd hj (tail_waits hs hc hn inv _ i rfl hin hun j h)
    refine ⟨hjn, ?_⟩
    by_cases hji : j = i
    · subst hji; rw [if_neg hip]; exact hy.qOpF hi H
    · have := hdone _ _ H j (ready_mono hj hji)
      omega
  | succ f ih =>
    intro listed a inv hfree hr hy H
    have hun := (mem_ready.1 hr).1
    refine ⟨fun h => (by rw [h] at hr; cases hr), fun j hj => ?_⟩
    have hjn : j < n := (Nat.lt_or_ge j n).elim id fun h => absurd hj (tail_waits hs hc hn inv _ i rfl hin hun j h)
    refine ⟨hjn, ?_⟩
    by_cases hji : j = i
    · subst hji; rw [if_neg hip]; exact hy.qOpF hi H
    · have h1 := (H.2 j (ready_mono hj hji)).2
      obtain ⟨hjun, oj, hoj, hall⟩ := mem_ready.1 hj
      have hnot : ∀ e ∈ oj.after, Region.binds md e = true → e.on ≠ i := fun e he hb heq => by
        have h1 := hall e he hb
        rw [heq, getD_both hun] at h1
        cases h1
      have hfree' : ∀ k ok, ops[k]? = some ok → k ≠ i → (listed.setIfInBounds j true).getD k true = false →
          (∀ e ∈ ok.after, Region.binds md e = true → e.on ≠ i) → oi.apart ops ok = true := fun k ok hk hki hun hno => by
        refine hfree k ok hk hki ?_ hno
        by_cases hjk : j = k
        · subst hjk; exact hjun
        · rw [getD_set_ne true hjk] at hun; exact hun
      by_cases hjp : j = p
      · rw [if_pos hjp] at h1 ⊢
        refine ih (listed.setIfInBounds j true) a (inv.set hj hjn) hfree' (ready_mono hr (Ne.symm hji)) hy ?_
        rw [Array.setIfInBounds_comm _ _ hji]
        exact h1
      · rw [if_neg hjp] at h1 ⊢
        have h2 := qOpF_put hoj (hfree j oj hoj hji hjun hnot) (fun cs b => hsel i oi cs b hi) (fun cs b => hsel j oj cs b hoj) hy h1
        refine qOpF_mono (fun a' h3 => ih (listed.setIfInBounds j true) a' (inv.set hj hjn) hfree' (ready_mono hr (Ne.symm hji)) h3.1 ?_) h2
        rw [Array.setIfInBounds_comm _ _ hji]
        exact h3.2

theorem anyF_lay {p n : Nat} {L : Array Bool → Act → Prop}
    (hs : Region.sinkB md ops n = true) (hc : Region.chainB md ops n = true) (hn : n < ops.size) (hin : p < n)
    (hdone : ∀ listed a, L listed a → ∀ j ∈ Region.ready md ops listed, n ≤ j) :
    ∀ (f : Nat) (listed : Array Bool) (a : Act), HeadInv md ops n listed →
      p ∈ Region.ready md ops listed →
      anyF P md ops D p n L f (listed.setIfInBounds p true) a → anyF P md ops D p n L (f + 1) listed a := by
  intro f
  induction f with
  | zero =>
    intro listed a inv hr H
    have hun := (mem_ready.1 hr).1
    refine ⟨fun h => (by rw [h] at hr; cases hr), fun j hj => ?_⟩
    have hjn : j < n := (Nat.lt_or_ge j n).elim id fun h => absurd hj (tail_waits hs hc hn inv _ p rfl hin hun j h)
    refine ⟨hjn, ?_⟩
    by_cases hji : j = p
    · subst hji; rw [if_pos rfl]; exact H
    · have := hdone _ _ H j (ready_mono hj hji)
      omega
  | succ f ih =>
    intro listed a inv hr H
    have hun := (mem_ready.1 hr).1
    refine ⟨fun h => (by rw [h] at hr; cases hr), fun j hj => ?_⟩
    have hjn : j < n := (Nat.lt_or_ge j n).elim id fun h => absurd hj (tail_waits hs hc hn inv _ p rfl hin hun j h)
    refine ⟨hjn, ?_⟩
    by_cases hji : j = p
    · subst hji; rw [if_pos rfl]; exact H
    · have h1 := (H.2 j (ready_mono hj hji)).2
      rw [if_neg hji] at h1 ⊢
      refine qOpF_mono (fun a' h3 => ih (listed.setIfInBounds j true) a' (inv.set hj hjn) (ready_mono hr (Ne.symm hji)) ?_) h1
      rw [Array.setIfInBounds_comm _ _ hji]
      exact h3

/-- The walk of the text's order; at place p the new variable is passed over. -/
def wpQuietF (P : Program) (ops : Array Oper) (D : Option Nat → World → Prop) (Q : Act → Prop) : Nat → List Oper → Act → Prop
  | _, [], a => Q a
  | 0, _ :: rest, a => wpQuietF P ops D Q (rest.length + 1) rest a
  | k + 1, o :: rest, a => if Region.wanted o (yielded ops a.tmps) then ∃ v, (∀ d w, D d w → o.quietAt P a (D d) w v) ∧ wpQuietF P ops D Q k rest (a.put o.dst v) else wpQuietF P ops D Q k rest (a.put o.dst undef)

theorem anyF_lex {p n g : Nat} {Lq : Act → Prop} (hsel : Region.noSelect ops = true) (hs : Region.sinkB md ops n = true) (hc : Region.chainB md ops n = true) (hn : n < ops.size) (hpn : p < n) :
    ∀ (l : List Oper) (k q : Nat) (listed : Array Bool) (a : Act), (∀ j, j < l.length → l[j]? = ops[k + j]?) → k + l.length = n → (k ≤ p → q = p - k) → (p < k → l.length ≤ q) → (p < k → listed.getD p false = true) → HeadInv md ops n listed →
    Region.lexHead md ops g l.length k listed = true → wpQuietF P ops D Lq q l a →
    anyF P md ops D p n (fun listed' a' => Region.seqB md ops g n listed' = true ∧ listed'.getD p false = true ∧ Lq a') l.length listed a
  | [], k, q, listed, a, _, hk, _, _, hpl, _, hB, h => by
    have : k = n := by simpa using hk
    subst this
    exact ⟨by simpa [Region.lexHead] using hB, hpl hpn, by unfold wpQuietF at h; exact h⟩
  | o :: l, k, q, listed, a, hl, hk, hq1, hq2, hpl, inv, hB, h => by
    have h0 : ops[k]? = some o := by simpa using (hl 0 (by simp)).symm
    simp only [List.length_cons, Region.lexHead, Bool.and_eq_true] at hB
    obtain ⟨⟨hr, hf⟩, hB'⟩ := hB
    have hkn : k < n := by simp only [List.length_cons] at hk; omega
    have hr' : k ∈ Region.ready md ops listed := by simpa using hr
    have hlen : k + 1 + l.length = n := by simp only [List.length_cons] at hk; omega
    have hl' : ∀ j, j < l.length → l[j]? = ops[k + 1 + j]? := fun j hj => by have := hl (j + 1) (by simp; omega); simpa [Nat.add_assoc, Nat.add_comm 1 j] using this
    by_cases hkp : k = p
    · subst hkp
      have hq : q = 0 := by have := hq1 (Nat.le_refl _); omega
      subst hq
      unfold wpQuietF at h
      exact anyF_lay hs hc hn hpn (fun listed' a' hL => seqB_ready hL.1) l.length listed a inv hr'
        (anyF_lex hsel hs hc hn hpn l (k + 1) (l.length + 1) _ _ hl' hlen (by omega) (by omega) (fun _ => by rw [Array.getD_eq_getD_getElem?, Array.getElem?_setIfInBounds_self_of_lt (by rw [inv.size]; omega)]; rfl) (inv.set hr' hkn) hB' h)
    · obtain ⟨q', rfl⟩ : ∃ q', q = q' + 1 := by
        rcases Nat.lt_or_ge p k with h1 | h1
        · have := hq2 h1; simp only [List.length_cons] at this; exact ⟨q - 1, by omega⟩
        · have := hq1 h1; exact ⟨q - 1, by omega⟩
      have hst : qOpF P ops D k (wpQuietF P ops D Lq q' l) a := by unfold qOpF; simp only [h0]; unfold wpQuietF at h; exact h
      obtain ⟨v, hy, hK⟩ := yieldsF_of h0 hst
      exact anyF_first h0 (Region.noSelect_spec hsel) hs hc hn hkn hkp (fun listed' a' hL => seqB_ready hL.1) l.length listed a inv (Region.free_spec h0 hf) hr' hy
        (anyF_lex hsel hs hc hn hpn l (k + 1) q' _ _ hl' hlen (fun h1 => by have := hq1 (by omega); omega) (fun h1 => by
          rcases Nat.lt_or_ge p k with h2 | h2
          · have := hq2 h2; simp only [List.length_cons] at this; omega
          · omega) (fun h1 => getD_set_true (hpl (by omega))) (inv.set hr' hkn) hB' hK)

theorem any_float {Q : Exit → Act → World → Prop} {a : Act} {w : World} {l : List Oper} {op : Oper} {V : Nat → Value} (p n : Nat) (hB : Region.lexTailB .any l.toArray n = true) (hpn : p < n)
    (hp : Lays P l.toArray D p n op V) (hw : D none w.drew)
    (h : wpQuietF P l.toArray D (fun a' => ∀ b w', D (some b) w' → wpList P l.toArray Q (l.drop n) (a'.put op.dst (V b)) w') p (l.take n) a) : wpAny P .any l.toArray Q l.toArray.size (Array.replicate l.toArray.size false) a w.drew := by
  simp only [Region.lexTailB, Bool.and_eq_true, decide_eq_true_eq] at hB
  obtain ⟨⟨⟨⟨hsel, hn⟩, hs⟩, hc⟩, hlex⟩ := hB
  have hn' : n < l.length := by simpa using hn
  have htl : (l.take n).length = n := by simp; omega
  have hdl : (l.drop n).length = l.toArray.size - n := by simp
  have inv0 : HeadInv .any l.toArray n (Array.replicate l.toArray.size false) :=
    ⟨by simp, fun j oj _ hl => (by rw [getD_replicate_false] at hl; cases hl), fun t _ ht => getD_in (by simpa using ht) (getD_replicate_false _ _)⟩
  have H := anyF_lex (md := .any) (D := D) (g := l.toArray.size - n) hsel hs hc hn hpn (l.take n) 0 p _ a (fun j hj => by
    have hj' : j < n := by rw [htl] at hj; exact hj
    simp [hj']) (by simpa using htl) (fun _ => rfl) (by omega) (by omega) inv0 (by rw [htl]; exact hlex) h
  have := wpAny_of_anyF (Q' := Q) (g := l.toArray.size - n) hp (by omega) (Region.noSelect_spec hsel) (fun listed a' d w' hw' hd hL => by
    rw [hL.2.1] at hd
    cases d with
    | none => simp at hd
    | some b =>
      have := wpAny_of_seq (md := .any) (Q' := Q) (l.drop n) n listed (a'.put op.dst (V b)) w' (fun j => by simp [List.getElem?_drop]) (by rw [hdl]; exact hL.1) (hL.2.2 b w' hw')
      rwa [hdl] at this) _ _ a none w.drew (by simp) hw (by rw [getD_replicate_false]; rfl) H
  rw [htl, show n + (l.toArray.size - n) = l.toArray.size by omega] at this
  exact this

/-- The worlds before the new variable (b: none) and behind it (b: its block). -/
structure Fl (p0 : World → Prop) (p1 : Nat → World → Prop) where
  W : World
  b : Option Nat
  ok : match b with | none => p0 W | some b => p1 b W
def FlD (p0 : World → Prop) (p1 : Nat → World → Prop) (d : Option Nat) (w : World) : Prop := ∃ s : Fl p0 p1, s.b = d ∧ w = s.W

/-- One operation of the text's order that leaves the world alone. -/
theorem quietF_val {p0 : World → Prop} {p1 : Nat → World → Prop} {Q : Act → Prop} {k : Nat} {o : Oper} {rest : List Oper} {a : Act} {v : Value}
    (h : ∀ s : Fl p0 p1, (execOp a.eval o).run P s.W = .ok (.value v) s.W) (hg : Region.wanted o (yielded ops a.tmps) = true) (hq : wpQuietF P ops (FlD p0 p1) Q k rest (a.put o.dst v)) : wpQuietF P ops (FlD p0 p1) Q (k + 1) (o :: rest) a := by
  unfold wpQuietF
  rw [if_pos hg]
  refine ⟨v, ?_, hq⟩
  rintro d w ⟨s, rfl, rfl⟩
  unfold Oper.quietAt
  rw [h s]
  exact ⟨rfl, rfl⟩
/-- One operation that calls. -/
theorem quietF_call {p0 : World → Prop} {p1 : Nat → World → Prop} {Q : Act → Prop} {k : Nat} {o : Oper} {rest : List Oper} {a : Act} {v : Value} {f : FuncId} {args : Array Value}
    (h : ∀ s : Fl p0 p1, (execOp a.eval o).run P s.W = .ok (.enter f args) s.W) (hc : ∀ s : Fl p0 p1, Calls P f args s.W fun e w' => e = .returned v ∧ ∃ s' : Fl p0 p1, s'.b = s.b ∧ w' = s'.W) (hg : Region.wanted o (yielded ops a.tmps) = true)
    (hq : wpQuietF P ops (FlD p0 p1) Q k rest (a.put o.dst v)) : wpQuietF P ops (FlD p0 p1) Q (k + 1) (o :: rest) a := by
  unfold wpQuietF
  rw [if_pos hg]
  refine ⟨v, ?_, hq⟩
  rintro d w ⟨s, rfl, rfl⟩
  unfold Oper.quietAt
  rw [h s]
  exact ⟨rfl, hc s⟩
def apartB (ops : Array Oper) (p n : Nat) (op : Oper) : Bool := (List.range n).all fun j => j == p || match ops[j]? with | some oj => op.apart ops oj | none => true
theorem Lays.mk' {p n : Nat} {op : Oper} {V : Nat → Value} (h : ops[p]? = some op) (hg : op.guard = none) (hB : apartB ops p n op = true)
    (hr : ∀ a w, D none w → ∃ b w', (execOp (Act.eval a) op).run P w = .ok (.value (V b)) w' ∧ D (some b) w') : Lays P ops D p n op V :=
  ⟨h, hg, fun j oj hj hjn hjp => by
    have := List.all_eq_true.1 hB j (List.mem_range.2 hjn)
    simpa [hjp, hj] using this, hr⟩
/-- The new variable is laid by 'alloc'. -/
theorem Lays.alloc {p0 : World → Prop} {p1 : Nat → World → Prop} {p n : Nat} {op : Oper} {o : Obj} (h : ops[p]? = some op) (hg : op.guard = none) (hB : apartB ops p n op = true)
    (hr : ∀ a w, (execOp (Act.eval a) op).run P w = .ok (.value (.pointer (some ⟨w.heap.size, 0, none⟩))) (w.alloc o)) (hp : ∀ w, p0 w → p1 w.heap.size (w.alloc o)) :
    Lays P ops (FlD p0 p1) p n op (fun b => .pointer (some ⟨b, 0, none⟩)) :=
  Lays.mk' h hg hB fun a w hw => by
    obtain ⟨s, hb, rfl⟩ := hw
    have ok := s.ok
    rw [hb] at ok
    exact ⟨_, _, hr a s.W, ⟨⟨_, some _, hp s.W ok⟩, rfl, rfl⟩⟩
theorem quietF_nil {Q : Act → Prop} {k : Nat} {a : Act} (h : Q a) : wpQuietF P ops D Q k [] a := by cases k <;> exact h
theorem quietF_pass {Q : Act → Prop} {o : Oper} {rest : List Oper} {a : Act} (h : wpQuietF P ops D Q (rest.length + 1) rest a) : wpQuietF P ops D Q 0 (o :: rest) a := h
end
end Go.Proofs.YtlkhjnpflohfeaaDoor
