/- Code. -/
import Derived.Test.YtcaejedfjobooaaGreatEvGc
import Derived.Test.YtcaejedfjobooaaGreatEvScope
namespace Go.Proofs.YtcaejedfjobooaaGreat
open Go Go.RowKit
namespace Ev
section
variable {P : Program} {E : Ent} {C : Cfg} {call : CallF}

/-- What the evaluator's end says of the model's. -/
def Sees (P : Program) (C : Cfg) (E : Ent) (e : AExit) (st : St) : Exit → Act → World → Prop
  | .normal, a, W => e = .normal ∧ SR P C E st a W
  | .exit j, a, W => e = .exit j ∧ SR P C E st a W
  | .ret, a, W => e = .ret ∧ SR P C E st a W
  | .panic ch, a, W => ∃ v w, e = .panic v ∧ ch = one w ∧ SRx P C E st v w a W
  | .goto _, _, _ => False
  | .outgrown, _, _ => False

/-- A loop, by a number that goes down. -/
theorem wpIn_loopI {F : Fence} {n : Nat} {Q : Exit → Act → World → Prop} {a : Act} {w : World} {c : Code} (I : Nat → Act → World → Prop) {k0 : Nat} (h0 : I k0 a w)
    (hround : ∀ k a w, I k a w → c.wpIn F n P (Exit.then (fun a' w' => ∃ k', k' < k ∧ I k' a' w') Q) a w) : (Code.loop c).wpIn F n P Q a w := by
  classical
  have hmin : ∀ a w, (∃ k, I k a w) → ∃ k, I k a w ∧ ∀ j, I j a w → k ≤ j := by
    rintro a w ⟨k, hk⟩
    induction k using Nat.strongRecOn with
    | _ k ih =>
      by_cases hj : ∃ j, j < k ∧ I j a w
      · obtain ⟨j, hj, hi⟩ := hj; exact ih j hj hi
      · exact ⟨k, hk, fun j hi => Nat.le_of_not_lt fun hl => hj ⟨j, hl, hi⟩⟩
  let m : Act → World → Nat := fun a w => if h : ∃ k, I k a w then Classical.choose (hmin a w h) else 0
  have hm : ∀ a w, (∃ k, I k a w) → I (m a w) a w ∧ ∀ j, I j a w → m a w ≤ j := fun a w h => by
    have : m a w = Classical.choose (hmin a w h) := dif_pos h
    rw [this]; exact Classical.choose_spec (hmin a w h)
  refine wpIn_loop (fun a w => ∃ k, I k a w) m ⟨k0, h0⟩ fun a w hI => ?_
  refine wpIn_mono (hround _ a w (hm a w hI).1) ?_
  intro e a' w' hq
  cases e <;> try exact hq
  obtain ⟨k', hk', hi⟩ := hq
  exact ⟨⟨k', hi⟩, Nat.lt_of_le_of_lt ((hm a' w' ⟨k', hi⟩).2 k' hi) hk'⟩

/-- What is told of ranges over functions. -/
def RangeOk (P : Program) (E : Ent) (C : Cfg) (call : CallF) (F : Fence) (rd : Option Nat) : Prop :=
  ∀ (g : Opnd) (ps : List Nat) (as bd : AC) (g0 : Operand) (ps0 : Array Tmp) (as0 bd0 : Code) (st st' : St) (e : AExit) (a : Act) (W : World),
    ev C call E.pin rd (.rangeF g ps as bd) st = some (e, st') → compCode P (.rangeFunc g0 ps0 as0 bd0) = some (strip (.rangeF g ps as bd)) → SR P C E st a W → (Code.rangeFunc g0 ps0 as0 bd0).wpIn F 0 P (Sees P C E e st') a W

theorem Sees.ofPanic {v : AV} {st : St} {w : Value} {a : Act} {W : World} (h : SRx P C E st v w a W) : Sees P C E (.panic v) st (.panic (one w)) a W := ⟨v, w, rfl, rfl, h⟩

theorem greedy_any {Q : AOp → Prop} {l acc : List AOp} {n done : Nat} {l' : List AOp} (h : greedy l n l acc done = some l') (h1 : ∀ o, o ∈ l → Q o) (h2 : ∀ o, o ∈ acc → Q o) : ∀ o, o ∈ l' → Q o := fun o ho =>
  (greedy_mem h o ho).elim (h1 o) (h2 o)

theorem draw_code (hcall : CallOk P C call) {F : Fence} (hF : Wide (P := P) F) {rd : Option Nat} {id : Nat} {ops : Array Oper} {l0 l : List AOp} (h0 : compOps P ops (Region.before ops) (List.range ops.size) = some l0)
    (h1 : greedy l0 ops.size l0 [] 0 = some l) (h2 : okDraw 0 [] l = true) (h3 : ((List.range ops.size).all fun i => l.any (·.ix == i)) = true) (h4 : P.follows .mixedOrders = true)
    {st st' : St} {e : AExit} {a : Act} {W : World} (hx : ev C call E.pin rd (.draw l) st = some (e, st')) (hs : SR P C E st a W) : (Code.region id ops true).wpIn F 0 P (Sees P C E e st') a W := by
  simp only [ev] at hx
  obtain ⟨⟨r, st1⟩, hr, hx⟩ := Option.map_eq_some_iff.1 hx
  obtain ⟨S, FL, m, s0, f0, ht, hend⟩ := evOps_tr hr
  refine wpIn_region_any h4 ?_
  obtain ⟨L, μ, g1, g2, g3⟩ := hs
  obtain ⟨g1', hl⟩ := g1.env' (W' := { W with drawn := W.drawn + 1 }) rfl ⟨rfl, rfl, rfl⟩
  have hdw : Dw P E C call ops l S FL m := by
    refine ⟨hcall, ht, h2, fun i hi => ?_, fun o ho => ?_, ?_, by rw [s0]; exact g1.len⟩
    · rw [List.all_eq_true] at h3
      have := h3 i (List.mem_range.2 hi)
      rw [List.any_eq_true] at this
      obtain ⟨o, ho, he⟩ := this
      obtain ⟨p, hp⟩ := List.getElem?_of_mem ho
      exact ⟨p, o, hp, by simpa using he⟩
    · rcases greedy_mem h1 o ho with hm | hm
      · obtain ⟨i, _, hc⟩ := compOps_mem h0 o hm
        obtain ⟨_, _, _, _, _, h5, _⟩ := compAt_ok hc
        rw [h5]; exact hc
      · cases hm
    · rcases hend with ⟨_, h, _⟩ | ⟨v, o, hp, tc, _, h, _, h', _⟩
      · exact .inl h
      · exact .inr ⟨o, h, h'⟩
  have hpos : ∃ q, Pos ops l m (Array.replicate ops.size false) q ∧ Vals P E C l S m (Array.replicate ops.size false) a { W with drawn := W.drawn + 1 } q L μ st.tm := by
    have hnd : ∀ o : AOp, ¬ isdone (Array.replicate ops.size false) o := fun o h => by
      unfold isdone at h
      rw [Array.getD_eq_getD_getElem?, Array.getElem?_replicate] at h
      split at h <;> cases h
    have hun : ∀ o : AOp, undone (Array.replicate ops.size false) o := fun o => (done_or _ o).resolve_left (hnd o)
    obtain ⟨q, q1, q2, q3, q4⟩ := nextSpine ht.le hdw.fin m 0 (by omega)
    refine ⟨q, ⟨by simp, fun i k hi => ?_, q2, q4, fun p o hp ho hsp => ?_, fun p o _ _ => hun o⟩, ⟨?_, ⟨(g2.mono hl (Ext.refl _)).tmps, (g2.mono hl (Ext.refl _)).glob⟩, by rw [s0]; exact g3.mono hl (Ext.refl _), by rw [s0], fun p o t _ hd => absurd hd (hnd o), fun t _ => by rw [s0], fun p o hp ho _ hlt => ?_⟩⟩
    · rw [Array.getD_eq_getD_getElem?, Array.getElem?_replicate] at hi
      split at hi <;> cases hi
    · rw [q3 p o (Nat.zero_le _) hp ho] at hsp; cases hsp
    · have := ht.float_push (P := P) (E := E) (W := { W with drawn := W.drawn + 1 }) (L := L) (μ := μ) (p := 0) q (by omega) (fun i o h1 h2 h3 => q3 i o h1 (by omega) h3) (by rw [s0]; exact g1')
      rwa [Nat.zero_add] at this
    · have h0 := ht.mono' hcall.fr (p := 0) (q := p) (Nat.zero_le _) (by omega)
      rw [s0] at h0
      exact g1'.sim.out _ h0
  obtain ⟨q, hp, hv⟩ := hpos
  refine draw_any hdw hF (fun a W hm hs => ?_) (fun v o hp tc w a W e1 e2 e3 e4 hs => ?_) ?_ ops.size _ a _ q L μ st.tm hp hv (by unfold left; simp)
  · rcases hend with ⟨h, _, h'⟩ | ⟨v, o, hp, tc, _, h, _⟩
    · subst h h'; cases hx; exact ⟨rfl, hs⟩
    · rw [hm] at h; simp at h
  · rcases hend with ⟨_, h, _⟩ | ⟨v', o', hp', tc', k1, k2, k3, k4, k5, k6⟩
    · rw [h] at e1; simp at e1
    · rw [e1] at k2; cases k2
      rw [e4] at k5; cases k5
      subst k1 k6
      cases hx
      exact .ofPanic hs
  · rcases hend with ⟨_, h, _⟩ | ⟨v', o', hp', tc', k1, k2, k3, k4, k5, k6⟩
    · exact .inl h
    · exact .inr ⟨v', o', hp', tc', k2, k3, k4, k5⟩

theorem loop_code {F : Fence} {rd : Option Nat} {c : Code} {ac : AC} {live : List Nat} (hbody : ∀ (st st' : St) (e : AExit) (a : Act) (W : World), ev C call E.pin rd ac st = some (e, st') → SR P C E st a W → c.wpIn F 0 P (Sees P C E e st') a W)
    {st st' : St} {e : AExit} {a : Act} {W : World} (hx : ev C call E.pin rd (.loop live ac) st = some (e, st')) (hs : SR P C E st a W) : (Code.loop c).wpIn F 0 P (Sees P C E e st') a W := by
  simp only [ev] at hx
  refine wpIn_loopI (fun k a W => ∃ st, loopN (ev C call E.pin rd ac) (fun st => gcC C E.pin { st with tm := keepT live st.tm }) k st = some (e, st') ∧ SR P C E st a W) (k0 := fuelL) ⟨st, hx, hs⟩ ?_
  rintro k a W ⟨st, hx, hs⟩
  cases k with
  | zero => simp [loopN] at hx
  | succ k =>
    simp only [loopN] at hx
    have hs' := gcC_sr (keepT_sr live hs)
    split at hx
    · rename_i st1 h1
      refine wpIn_mono (hbody _ _ _ _ _ h1 hs') ?_
      intro e' a' w' hq
      cases e' <;> simp [Sees] at hq
      exact ⟨k, Nat.lt_succ_self k, st1, hx, hq⟩
    · rename_i r h1
      refine wpIn_mono (hbody _ _ _ _ _ hx hs') ?_
      intro e' a' w' hq
      cases e' <;> try exact hq
      obtain ⟨rfl, _⟩ := hq
      exact absurd hx (h1 st')

/-- What is not taken finds nothing. -/
theorem dead_no {pin : Nat} {rd : Option Nat} {ac : AC} {st : St} {r : AExit × St} (hx : ev C call pin rd ac st = some r) (h : dead = strip ac) : False := by
  unfold dead at h
  cases ac <;> simp [strip] at h
  obtain ⟨rfl, _⟩ := h
  simp [ev, val] at hx

/-- Code. -/
theorem ev_ok (hcall : CallOk P C call) {F : Fence} (hF : Wide (P := P) F) {rd : Option Nat} (hrd : rd.isSome = false → F.round = none) (hrange : RangeOk P E C call F rd) :
    ∀ (code : Code) (ac : AC) (st st' : St) (e : AExit) (a : Act) (W : World), ev C call E.pin rd ac st = some (e, st') → compCode P code = some (strip ac) → SR P C E st a W → code.wpIn F 0 P (Sees P C E e st') a W := by
  intro code
  induction code with
  | skip =>
    intro ac st st' e a W hx hc hs
    simp only [compCode] at hc
    cases ac <;> simp [strip] at hc
    cases hx
    exact wpIn_skip ⟨rfl, hs⟩
  | region id ops drawn =>
    intro ac st st' e a W hx hc hs
    cases drawn with
    | false =>
      simp only [compCode] at hc
      split at hc
      case h_2 => exact (dead_no hx (Option.some.inj hc)).elim
      rename_i l hl
      cases ac <;> simp [strip] at hc
      subst hc
      simp only [ev] at hx
      obtain ⟨⟨r, st1⟩, hr, hx⟩ := Option.map_eq_some_iff.1 hx
      refine wpIn_region (evOps_wp hcall hF hrd hl hr hs (fun a' W' e1 hs' => ?_) (fun v w a' W' e1 hs' => ?_))
      · subst e1; cases hx; exact ⟨rfl, hs'⟩
      · subst e1; cases hx; exact .ofPanic hs'
    | true =>
      simp only [compCode] at hc
      split at hc
      · rename_i l0 h0
        split at hc
        · rename_i l h1
          split at hc
          · rename_i hcond
            cases ac <;> simp [strip] at hc
            subst hc
            exact draw_code hcall hF h0 h1 hcond.1 hcond.2.1 hcond.2.2 hx hs
          · cases hc
        · exact (dead_no hx (Option.some.inj hc)).elim
      · exact (dead_no hx (Option.some.inj hc)).elim
  | seq x y ihx ihy =>
    intro ac st st' e a W hx hc hs
    simp only [compCode] at hc
    split at hc <;> cases hc' : ac <;> rw [hc'] at hc <;> simp [strip] at hc
    rename_i x' y' h1 h2 ax ay
    subst hc'
    obtain ⟨rfl, rfl⟩ := hc
    simp only [ev] at hx
    refine wpIn_seq ?_
    split at hx
    · rename_i st1 hx1
      refine wpIn_mono (ihx ax st st1 .normal a W hx1 h1 hs) ?_
      intro e' a' w' hq
      cases e' <;> simp [Sees] at hq
      exact ihy ay st1 st' e a' w' hx h2 hq
    · rename_i r hn
      refine wpIn_mono (ihx ax st st' e a W hx h1 hs) ?_
      intro e' a' w' hq
      cases e' <;> try exact hq
      obtain ⟨rfl, _⟩ := hq
      exact absurd hx (hn st')
  | cond c x y ihx ihy =>
    intro ac st st' e a W hx hc hs
    simp only [compCode] at hc
    split at hc <;> cases hc' : ac <;> rw [hc'] at hc <;> simp [strip] at hc
    rename_i c' x' y' h0 h1 h2 cc ax ay
    subst hc'
    obtain ⟨rfl, rfl, rfl⟩ := hc
    simp only [ev] at hx
    split at hx
    · rename_i t hv
      obtain ⟨L, μ, g1, g2, g3⟩ := hs
      have hb := opnd_ok g2 h0
      rw [hv] at hb
      refine wpIn_cond (vr_bool hb) ?_
      cases t
      · exact ihy ay st st' e a W hx h2 ⟨L, μ, g1, g2, g3⟩
      · exact ihx ax st st' e a W hx h1 ⟨L, μ, g1, g2, g3⟩
    · cases hx
  | block id c ih =>
    intro ac st st' e a W hx hc hs
    simp only [compCode] at hc
    obtain ⟨c', h1, hk⟩ := Option.map_eq_some_iff.1 hc
    clear hc
    cases hc' : ac <;> rw [hc'] at hk <;> simp [strip] at hk
    rename_i id' ac'
    subst hc'
    obtain ⟨rfl, rfl⟩ := hk
    simp only [ev] at hx
    refine wpIn_block ?_
    split at hx
    · rename_i i st1 hx1
      refine wpIn_mono (ih ac' st st1 (.exit i) a W hx1 h1 hs) ?_
      intro e' a' w' hq
      cases e' <;> simp [Sees] at hq
      obtain ⟨rfl, hq⟩ := hq
      simp only [Exit.inBlock]
      split at hx <;> cases hx
      · rename_i hid; rw [if_pos hid]; exact ⟨rfl, hq⟩
      · rename_i hid; rw [if_neg hid]; exact ⟨rfl, hq⟩
    · rename_i r hn
      refine wpIn_mono (ih ac' st st' e a W hx h1 hs) ?_
      intro e' a' w' hq
      cases e' <;> try exact hq
      obtain ⟨rfl, _⟩ := hq
      exact absurd hx (hn _ st')
  | loop c ih =>
    intro ac st st' e a W hx hc hs
    simp only [compCode] at hc
    obtain ⟨c', h1, hk⟩ := Option.map_eq_some_iff.1 hc
    clear hc
    cases hc' : ac <;> rw [hc'] at hk <;> simp [strip] at hk
    rename_i live ac'
    subst hc' hk
    exact loop_code (fun st st' e a W hx hs => ih ac' st st' e a W hx h1 hs) hx hs
  | rangeFunc g ps x y _ _ =>
    intro ac st st' e a W hx hc hs
    have hc' := hc
    simp only [compCode] at hc
    split at hc <;> cases hc' : ac <;> rw [hc'] at hc <;> simp [strip] at hc
    subst hc'
    exact hrange _ _ _ _ _ _ _ _ _ _ _ _ _ hx (by assumption) hs
  | exit id =>
    intro ac st st' e a W hx hc hs
    simp only [compCode] at hc
    cases ac <;> simp [strip] at hc
    subst hc
    cases hx
    exact wpIn_exit ⟨rfl, hs⟩
  | label l =>
    intro ac st st' e a W hx hc hs
    simp only [compCode] at hc
    cases ac <;> simp [strip] at hc
    cases hx
    exact wpIn_label ⟨rfl, hs⟩
  | scope c ih =>
    intro ac st st' e a W hx hc hs
    simp only [compCode] at hc
    refine wpIn_scope_straight (wpIn_mono (ih ac st st' e a W hx hc hs) ?_)
    intro e' a' w' hq
    cases e' <;> first | exact hq | exact hq.elim
  | ret =>
    intro ac st st' e a W hx hc hs
    simp only [compCode] at hc
    cases ac <;> simp [strip] at hc
    cases hx
    exact wpIn_ret ⟨rfl, hs⟩
  | _ => intro ac st st' e a W hx hc hs; simp [compCode] at hc
end
end Ev
end Go.Proofs.YtcaejedfjobooaaGreat
