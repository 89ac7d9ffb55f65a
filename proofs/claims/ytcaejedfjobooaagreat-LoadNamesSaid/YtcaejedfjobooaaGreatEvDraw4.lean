/- Regions that draw their order: the theorem. -/
import Derived.Test.YtcaejedfjobooaaGreatEvDraw3
namespace Go.Proofs.YtcaejedfjobooaaGreat
open Go Go.RowKit
namespace Ev
section
variable {P : Program} {E : Ent} {C : Cfg} {call : CallF} {ops : Array Oper} {l : List AOp} {S : Nat → St} {FL : Nat → List (Nat × List Nat)} {m : Nat}

/-- The end: all is done. -/
theorem Dw.ends (h : Dw P E C call ops l S FL m) {D : Array Bool} {a : Act} {W : World} {q : Nat} {L : Nat → Prop} {μ : Mu} {tm : List AV} (hpos : Pos ops l m D q) (hv : Vals P E C l S m D a W q L μ tm)
    (hr : Region.ready .any ops D = []) : m = l.length ∧ SR P C E (S m) a W := by
  have hall : ∀ (p : Nat) (o : AOp), l[p]? = some o → isdone D o := fun p o ho => h.alldone hpos.size hr (p + 1) p o (by omega) ho
  have hq : q = l.length := by
    rcases hpos.at_ with e | ⟨o, e1, _⟩
    · exact e
    · exact (not_both (hall q o e1) (hpos.new q o (Nat.le_refl _) e1)).elim
  have hm : m = l.length := by have := h.tr.le; have := hpos.le; omega
  have hqm : q = m := by omega
  subst hqm
  refine ⟨hm, L, μ, hv.hp, ⟨hv.env.tmps.weaken (by rw [hv.len]; exact (h.tr.tmlen _ (Nat.le_refl _)).1) fun t => .inr ?_, hv.env.glob⟩, ?_⟩
  · by_cases hex : ∃ (p : Nat) (o : AOp), l[p]? = some o ∧ o.dst = some t
    · obtain ⟨p, o, e1, e2⟩ := hex
      exact (hv.wr p o t e1 (hall p o e1) e2).symm
    · rw [hv.nw t fun p o e1 _ e3 => hex ⟨p, o, e1, e3⟩]
      exact (h.tr.tm_at h.ok (t := t) (Nat.le_refl q)).2 fun p o _ e1 e3 => hex ⟨p, o, e1, e3⟩
  · rw [(h.tr.tmlen _ (Nat.le_refl _)).2]; exact hv.df

theorem draw_any (h : Dw P E C call ops l S FL m) {F : Fence} (hF : Wide (P := P) F) {Q : Exit → Act → World → Prop}
    (hend : ∀ a W, m = l.length → SR P C E (S m) a W → Q .normal a W)
    (hpan : ∀ (v : AV) (o : AOp) (hp : List AB) (tc : List Nat) (w : Value) (a : Act) (W : World), l[m]? = some o → wantG (val C (S m).tm) o.guard = some true → spineK o.op = true → spine call (val C (S m).tm) (S m).hp o.op = some (.pan v, hp, tc) →
      SRx P C E { S m with tm := forget (l.filterMap (·.dst)) (S m).tm, hp := hp, tc := tc.filter (· < E.pin) ++ (S m).tc } v w a W → Q (.panic (one w)) a W)
    (hm : m = l.length ∨ ∃ (v : AV) (o : AOp) (hp : List AB) (tc : List Nat), l[m]? = some o ∧ wantG (val C (S m).tm) o.guard = some true ∧ spineK o.op = true ∧ spine call (val C (S m).tm) (S m).hp o.op = some (.pan v, hp, tc)) :
    ∀ (n : Nat) (D : Array Bool) (a : Act) (W : World) (q : Nat) (L : Nat → Prop) (μ : Mu) (tm : List AV), Pos ops l m D q → Vals P E C l S m D a W q L μ tm → left D ≤ n → wpAnyIn F 0 P .any ops Q n D a W := by
  intro n
  induction n with
  | zero =>
    intro D a W q L μ tm hpos hv hn
    have hr : Region.ready .any ops D = [] := by
      refine List.eq_nil_iff_forall_not_mem.2 fun i hi => ?_
      have := (ready_deps hpos.closed hi).1
      rw [left_zero (by omega)] at this; cases this
    obtain ⟨e1, e2⟩ := h.ends hpos hv hr
    exact ⟨hr, hend _ _ e1 e2⟩
  | succ n ih =>
    intro D a W q L μ tm hpos hv hn
    refine ⟨fun hr => ?_, fun i hi => ?_⟩
    · obtain ⟨e1, e2⟩ := h.ends hpos hv hr
      exact hend _ _ e1 e2
    · obtain ⟨hu0, ⟨oo, hoo⟩, hr⟩ := ready_deps hpos.closed hi
      have hlt : i < D.size := by rw [hpos.size]; exact (Array.getElem?_eq_some_iff.1 hoo).1
      obtain ⟨p, o, hp, rfl⟩ := h.all i (by rw [← hpos.size]; exact hlt)
      obtain ⟨oo', e0, c1, c2, c3, _, c6⟩ := compAt_ok (h.comp o (List.mem_of_getElem? hp))
      rw [hoo] at e0; cases e0
      have hleft : left (D.setIfInBounds o.ix true) ≤ n := by have := left_set hu0; omega
      have hu : undone D o := by
        unfold undone
        rw [Array.getD_eq_getD_getElem?, Array.getElem?_eq_getElem hlt] at hu0 ⊢
        exact hu0
      have hrd : ∀ k, o.deps.testBit k = true → D.getD k false = true := by rw [h.deps hp]; exact hr
      have hpq : p ≤ q := by
        rcases Nat.lt_or_ge q p with hl | hl
        · exfalso
          rcases hpos.at_ with e | ⟨oq, e1, e2⟩
          · have := (List.getElem?_eq_some_iff.1 hp).1; omega
          · have hb := h.spdep e1 hp hl e2
            exact not_both (hrd _ hb) (hpos.new q oq (Nat.le_refl _) e1)
        · exact hl
      have hpm : p ≤ m := Nat.le_trans hpq hpos.le
      have hag : ∀ t, t ∈ o.names → tm.getD t .unk = (S p).tm.getD t .unk := fun t ht => h.agree hpos hv hp hu hpq hrd ht
      have hag1 : ∀ t, t ∈ o.op.tmps → tm.getD t .unk = (S p).tm.getD t .unk := fun t ht => hag t (by unfold AOp.names; simp [ht])
      have hwg : wantG (val C tm) o.guard = wantG (val C (S p).tm) o.guard := wantG_congr fun t ht => hag t (by unfold AOp.names; exact List.mem_append_right _ ht)
      unfold wpOpIn
      rw [hoo]
      simp only
      -- the end by a panic
      by_cases hpan' : p = m
      · have hqm : q = m := Nat.le_antisymm hpos.le (by omega)
        rcases hm with e | ⟨v, o', hp', tc', e1, e2, e3, e4⟩
        · have := (List.getElem?_eq_some_iff.1 hp).1; omega
        · subst hpan'
          rw [hp] at e1; cases e1
          subst hqm
          rw [want_ok c2 hv.env (hwg.trans e2)]
          simp only [if_true]
          have hsp : spine call (val C tm) (S q).hp o.op = some (.pan v, hp', tc') := by rw [spine_congr hag1]; exact e4
          refine spine_run h.hcall c1 hv.hp hv.env hsp hF (fun _ _ _ _ _ e => by cases e) (fun v' w W' L' μ' e d1 d2 d3 d4 d5 d6 => ?_)
          cases e
          refine hpan v o hp' tc' w a W' hp e2 e3 e4 ⟨L', μ', d2, ⟨(hv.env.mono d3 d4).tmps.weaken ?_ fun t => ?_, (hv.env.mono d3 d4).glob⟩, ?_, d1⟩
          · simp only [forget_len]; rw [hv.len]; exact (h.tr.tmlen q (Nat.le_refl _)).1
          · rcases forget_get (l.filterMap (·.dst)) (S q).tm t with h' | ⟨h1, h2⟩
            · exact .inl h'
            · right
              have hnw : ∀ (p : Nat) (o : AOp), l[p]? = some o → o.dst ≠ some t := fun p o e1 e3 => h1 (List.mem_filterMap.2 ⟨o, List.mem_of_getElem? e1, e3⟩)
              rw [hv.nw t fun p o e1 _ => hnw p o e1]
              exact Eq.trans h2 ((h.tr.tm_at h.ok (t := t) (Nat.le_refl q)).2 fun p o _ e1 => hnw p o e1)
          · show DR W' L' μ' (S q).df _
            rw [(h.tr.tmlen q (Nat.le_refl _)).2]; exact hv.df.mono d3 d4
      · have hlm : p < m := by omega
        obtain ⟨o', ft, s1, s2, s3⟩ := h.tr.step p hlm
        rw [hp] at s1; cases s1
        have hdone : ∀ (p' : Nat) (o' : AOp), l[p']? = some o' → p' ≠ p → (D.setIfInBounds o.ix true).getD o'.ix false = D.getD o'.ix false := fun p' o' e1 e2 => setD_other (h.ixne hp e1 (fun e => e2 e.symm))
        -- a step that is not of the spine, before the next one that is
        have hstay : p < q → ∀ {a' : Act} {W' : World} {L' : Nat → Prop} {μ' : Mu} {v : AV}, (S (p + 1)).tm = putT (S p).tm o.dst v → Hp P E (S q).tc W' L' μ' (S q).hp → Env C W' L' μ' (putT tm o.dst v) a' → DR W' L' μ' (S 0).df a'.defers →
            (∀ (p' : Nat) (o' : AOp), p' < q → l[p']? = some o' → p' ≠ p → undone D o' → (S p').hp.length < (S (p' + 1)).hp.length → μ' (S p').hp.length = .no) → wpAnyIn F 0 P .any ops Q n (D.setIfInBounds o.ix true) a' W' := by
          intro hlq a' W' L' μ' v t1 t2 t3 t4 t5
          obtain ⟨x1, x2, x3⟩ := h.tmstep hlt hp hlm hv.len t1 hv.wr hv.nw
          refine ih _ _ _ q L' μ' (putT tm o.dst v) ⟨by simp; exact hpos.size, hpos.closed.set hr, hpos.le, hpos.at_, fun p' o' e1 e2 e3 => ?_, fun p' o' e1 e2 => ?_⟩ ⟨t2, t3, t4, x1, x2, x3, fun p' o' e1 e2 e3 e4 => ?_⟩ hleft
          · by_cases he : p' = p
            · subst he; rw [hp] at e2; cases e2; exact setD_self hlt
            · unfold isdone; rw [hdone p' o' e2 he]; exact hpos.old p' o' e1 e2 e3
          · unfold undone; rw [hdone p' o' e2 (by omega)]; exact hpos.new p' o' e1 e2
          · by_cases he : p' = p
            · subst he; rw [hp] at e2; cases e2; exact (not_both (setD_self hlt) e3).elim
            · refine t5 p' o' e1 e2 he ?_ e4
              unfold undone at e3 ⊢; rwa [hdone p' o' e2 he] at e3
        -- a step of the spine
        have hgo : p = q → ∀ {a' : Act} {W' : World} {L' : Nat → Prop} {μ' : Mu} {v : AV}, (S (p + 1)).tm = putT (S p).tm o.dst v → Hp P E (S (q + 1)).tc W' L' μ' (S (q + 1)).hp → Env C W' L' μ' (putT tm o.dst v) a' → DR W' L' μ' (S 0).df a'.defers →
            (∀ i, i < (S q).hp.length → μ i = .no → μ' i = .no) → wpAnyIn F 0 P .any ops Q n (D.setIfInBounds o.ix true) a' W' := by
          rintro rfl a' W' L' μ' v t1 t2 t3 t4 t5
          obtain ⟨x1, x2, x3⟩ := h.tmstep hlt hp hlm hv.len t1 hv.wr hv.nw
          obtain ⟨q', y1, y2⟩ := h.advance hpos hp hlm hlt hr t2 t3 t4 x1 x2 x3 fun p' o' e1 e2 e3 e4 => t5 _ (Nat.lt_of_lt_of_le e4 (h.tr.mono' h.hcall.fr (by omega) hpos.le)) (hv.no p' o' e1 e2 e3 e4)
          exact ih _ _ _ q' L' μ' (putT tm o.dst v) y1 y2 hleft
        generalize hS1 : S (p + 1) = st' at s2
        cases s2 with
        | skip hw =>
          rw [want_ok c2 hv.env (hwg.trans hw)]
          simp only [Bool.false_eq_true, if_false]
          refine ⟨fun f _ => hF.fn f, ?_⟩
          rw [← c3]
          have henv : Env C W L μ (putT tm o.dst .unk) (a.put o.dst undef) := hv.env.put .unk _
          have hdf : DR W L μ (S 0).df (a.put o.dst undef).defers := by rw [put_defers]; exact hv.df
          rcases Nat.lt_or_ge p q with hl | hl
          · exact hstay hl (by rw [hS1]) hv.hp henv hdf fun p' o' e1 e2 _ e3 e4 => hv.no p' o' e1 e2 e3 e4
          · have he : p = q := by omega
            refine hgo he (by rw [hS1]) ?_ henv hdf fun i _ hi => hi
            subst he
            rw [hS1]; exact hv.hp
        | @spine v hp' tc' hw hs hsp hap =>
          have he : p = q := by
            rcases Nat.lt_or_ge p q with hl | hl
            · exact (not_both (hpos.old p o hl hp hs) hu).elim
            · omega
          rw [want_ok c2 hv.env (hwg.trans hw)]
          simp only [if_true]
          have hsp' : Ev.spine call (val C tm) (S q).hp o.op = some (.ret v, hp', tc') := by rw [← he, spine_congr hag1]; exact hsp
          refine spine_run h.hcall c1 hv.hp hv.env hsp' hF (fun v' w W' L' μ' e d1 d2 d3 d4 d5 d6 => ?_) (fun _ _ _ _ _ e => by cases e)
          cases e
          rw [← c3]
          refine hgo he (by rw [hS1]) ?_ ((hv.env.mono d3 d4).put d1 _) (by rw [put_defers]; exact hv.df.mono d3 d4) d6
          subst he
          rw [hS1]; exact d2
        | @float v hp' ft' hw hs hfl =>
          have hl : p < q := by
            rcases Nat.lt_or_ge p q with hl | hl
            · exact hl
            · have he : p = q := by omega
              subst he
              rcases hpos.at_ with e | ⟨oq, e1, e2⟩
              · have := (List.getElem?_eq_some_iff.1 hp).1; omega
              · rw [hp] at e1; cases e1; rw [hs] at e2; cases e2
          rw [want_ok c2 hv.env (hwg.trans hw)]
          simp only [if_true]
          have hnd : ∀ c, oo.op ≠ .defer c := compOpM_nodefer c1 (by intro f args e; rw [e] at hs; cases hs)
          have hfl' : Ev.float (val C tm) (S p).hp o.op = some (v, hp', ft') := by rw [float_congr hag1]; exact hfl
          have hkept : ∀ b, b ∈ ft' → (S q).hp[b]? = hp'[b]? := fun b hb => by
            have hlt' : ∀ b, b ∈ ft' → b < (S (p + 1)).hp.length := fun b hb => by
              rw [hS1]
              rcases float_hp hfl' with ⟨blk, mk, _, _, rfl, rfl⟩ | ⟨_, rfl, _, g⟩
              · simp at hb ⊢; omega
              · exact g b hb
            have := h.tr.kept h.hcall.fr hp s3 hlt' (q - (p + 1)) (by have := hpos.le; omega) (fun i o' h1 h2 h3 h4 => by
              cases hb : o'.deps.testBit o.ix with
              | false => rfl
              | true => exact (not_both (h.down hpos.closed h3 (hpos.old i o' (by omega) h3 h4) hb) hu).elim) b hb
            rw [show p + 1 + (q - (p + 1)) = q by omega, hS1] at this
            exact this
          have hSt : (S (p + 1)).tm = putT (S p).tm o.dst v := by rw [hS1]
          rcases float_hp hfl' with ⟨blk, mk, n1, rfl, rfl, rfl⟩ | ⟨n1, rfl, n3, _⟩
          · have hlen1 : (S p).hp.length < (S (p + 1)).hp.length := by rw [hS1]; simp
            refine new_wp c1 hv.hp hv.env n1 (j := (S p).hp.length) ?_ (hv.no p o hl hp hu hlen1) (Nat.le_trans h.pin (h.tr.mono' h.hcall.fr (Nat.zero_le _) hpm)) hF hnd (fun w W' d1 d2 d3 d4 => ?_)
            · rw [hkept _ (List.mem_cons_self ..)]; simp
            · rw [← c3]
              refine hstay hl hSt d2 ((hv.env.mono d3 d4).put d1 _) (by rw [put_defers]; exact hv.df.mono d3 d4) fun p' o' e1 e2 e3 e4 e5 => ?_
              rw [updM_ne]
              · exact hv.no p' o' e1 e2 e4 e5
              · rcases Nat.lt_or_gt_of_ne e3 with hl' | hl'
                · have := h.tr.mono' h.hcall.fr (p := p' + 1) (q := p) (by omega) hpm; omega
                · have := h.tr.mono' h.hcall.fr (p := p + 1) (q := p') (by omega) (by have := hpos.le; omega); omega
          · refine float_wp c1 hv.hp hv.env (xval_congr n3 hkept) hF hnd (fun w d1 => ?_)
            rw [← c3]
            exact hstay hl hSt hv.hp (hv.env.put d1 _) (by rw [put_defers]; exact hv.df) fun p' o' e1 e2 _ e4 e5 => hv.no p' o' e1 e2 e4 e5
end
end Ev
end Go.Proofs.YtcaejedfjobooaaGreat
