/- Operations that only compute or look: all of them together; what they hang on; operations that lay a block. -/
import Derived.Test.YtcaejedfjobooaaGreatEvVal5
import Derived.Great.BuildSlice
namespace Go.Proofs.YtcaejedfjobooaaGreat
open Go Go.RowKit
namespace Ev
section
variable {P : Program} {W : World} {L : Nat → Prop} {μ : Mu} {H : List AB} {C : Cfg} {tm : List AV} {a : Act}

theorem up {s : Sem Value} {v : AV} (h : ∃ z, s.run P W = .ok z W ∧ VR W L μ v z) : ∃ z, (do pure (.value (← s)) : Sem Next).run P W = .ok (.value z) W ∧ VR W L μ v z := by
  obtain ⟨z, h1, h2⟩ := h
  exact ⟨z, by simp [h1], h2⟩

theorem xval_op {o : Oper} {k : AK} (hc : compOp P o = some k) (hs : Sim P W L μ H) (he : Env C W L μ tm a) {v : AV} {ft : List Nat} (hx : xval H (val C tm) k = some (v, ft)) :
    ∃ z, (execOp a.eval o).run P W = .ok (.value z) W ∧ VR W L μ v z := by
  unfold compOp at hc
  cases ho : o.op <;> rw [ho] at hc <;> simp only at hc
  case move x =>
    cases h : opnd x <;> rw [h] at hc <;> cases hc
    simp only [xval] at hx; cases hx
    exact ⟨a.eval x, by simp [execOp, ho], opnd_ok he h⟩
  case assign x =>
    cases h : opnd x <;> rw [h] at hc <;> cases hc
    simp only [xval] at hx; cases hx
    exact ⟨a.eval x, by simp [execOp, ho], opnd_ok he h⟩
  case pick c x y =>
    obtain ⟨z, h1, h2⟩ := up (P := P) (pick_ok he hc hx)
    refine ⟨z, ?_, h2⟩
    simp only [execOp, ho]
    simpa using h1
  case alloc t => cases h : zeroT P t <;> rw [h] at hc <;> cases hc; simp [xval] at hx
  case box t x => cases h : opnd x <;> rw [h] at hc <;> cases hc; simp [xval] at hx
  case build t parts =>
    split at hc
    · rename_i z fs hz hu
      split at hc
      · rename_i places hp
        cases hq : partsOf (fun i => places[i]?) parts.toList with
        | none => rw [hq] at hc; cases hc
        | some ps =>
          rw [hq] at hc; cases hc
          have := up (P := P) (build_ok he hz (.inl ⟨fs, places, hu, hp, hq⟩) hx)
          simpa only [execOp, ho] using this
      · cases hc
    · rename_i z n e hz hu
      split at hc
      · rename_i s hsz
        cases hq : partsOf (fun i => some (i * s, s)) parts.toList with
        | none => rw [hq] at hc; cases hc
        | some ps =>
          rw [hq] at hc; cases hc
          have := up (P := P) (build_ok he hz (.inr ⟨n, e, s, hu, hsz, hq⟩) hx)
          simpa only [execOp, ho] using this
      · cases hc
    · cases hc
  case buildSlice t len parts =>
    split at hc
    · split at hc
      · split at hc <;> cases hc; simp [xval] at hx
      · cases hc
    · cases hc
  case load t x =>
    split at hc <;> cases hc
    rename_i k' x' h1 h2
    have := up (P := P) (load_ok hs he h1 h2 hx)
    simpa only [execOp, ho] using this
  case store t x y => split at hc <;> cases hc; simp [xval] at hx
  case nilCheck x =>
    cases h : opnd x <;> rw [h] at hc <;> cases hc
    exact nilck_ok ho hs he h hx
  case binOp op t x y yt =>
    split at hc
    · rename_i x' y' h1 h2
      split at hc
      · cases hc
        have := up (P := P) (bin_ok (t := t) (yt := yt) he h1 h2 hx)
        simpa only [execOp, ho] using this
      · rename_i hint
        have go : ∀ {op}, (op = BinOp.eql ∨ op = BinOp.neq) → (match P.underlying t with
            | some .bool => some (AK.eq .bool (isNeq op) x' y')
            | some (.struct _) => (match flatT P 5 t with
              | some s => if P.eqGuardType P.depth t = false then some (.eq (.agg s) (isNeq op) x' y') else none
              | _ => none)
            | some (.interface _) => if isNil x || isNil y then some (.eq .nilI (isNeq op) x' y') else none
            | some (.func _ _ _) => if isNil x || isNil y then some (.eq .nilF (isNeq op) x' y') else none
            | some (.slice _) => if isNilS y then some (.isnil (isNeq op) x') else none
            | _ => none) = some k → ∃ z, (do eqGuard op t x y (a.eval x) (a.eval y); binOp op t (a.eval x) (a.eval y) : Sem Value).run P W = .ok z W ∧ VR W L μ v z := by
          intro op hop hc
          split at hc
          · rename_i hu
            cases hc
            exact eq_ok hop he (by simp) (.inl (by simp [keyT, hu])) (by simp) (by simp) h1 h2 hx
          · rename_i fs hu
            split at hc
            · rename_i s hf
              split at hc
              · rename_i hg
                cases hc
                exact eq_ok hop he (by simp) (.inl (by simp [keyT, hu, hf])) (fun _ _ => hg) (by simp) h1 h2 hx
              · cases hc
            · cases hc
          · rename_i m hu
            split at hc
            · rename_i hn
              cases hc
              exact eq_ok hop he (by simp) (.inr (.inl ⟨rfl, m, hu⟩)) (by simp) (fun _ => by simpa using hn) h1 h2 hx
            · cases hc
          · rename_i p q r hu
            split at hc
            · cases hc
              exact eq_ok hop he (by simp) (.inr (.inr ⟨rfl, p, q, r, hu⟩)) (by simp) (by simp) h1 h2 hx
            · cases hc
          · rename_i e hu
            split at hc
            · rename_i hn
              cases hc
              exact isnil_ok hop hs he hu hn h1 hx
            · cases hc
          · cases hc
        cases op <;> simp only at hc <;> first
          | (have := up (P := P) (go (.inl rfl) hc); simpa only [execOp, ho] using this)
          | (have := up (P := P) (go (.inr rfl) hc); simpa only [execOp, ho] using this)
          | cases hc
    · cases hc
  case unOp op t x =>
    cases op <;> simp only at hc
    all_goals first
      | (cases hc; done)
      | skip
    all_goals (cases h : opnd x <;> rw [h] at hc <;> cases hc)
    all_goals first
      | (have := up (P := P) (not_ok he h hx); simpa only [execOp, ho] using this)
      | (have := up (P := P) (neg_ok he h hx); simpa only [execOp, ho] using this)
  case convert s d x =>
    split at hc
    · rename_i i k' x' hus hud h1
      cases hc
      have := up (P := P) (conv_ok (s := s) (d := d) he hus hud h1 hx)
      simpa only [execOp, ho] using this
    · cases hc
  case makeInterface t x =>
    split at hc
    · cases hc
    · rename_i d x' hn hu h1
      cases hc
      have := up (P := P) (mkiface_ok he hu (fun m hm => hn m (hm ▸ rfl)) h1 hx)
      simpa only [execOp, ho] using this
    · cases hc
  case makeFunc f as bs =>
    split at hc
    · rename_i f' as' bs' h1 h2
      cases hc
      have := up (P := P) (mkfn_ok he (by simp) h1 h2 hx)
      simpa only [execOp, ho] using this
    · rename_i f' as' bs' h1 h2
      cases hc
      have := up (P := P) (mkfn_ok he (by simp) h1 h2 hx)
      simpa only [execOp, ho] using this
    · cases hc
  case makeMap t r =>
    cases r <;> simp only at hc <;> cases hc
    simp [xval] at hx
  case makeSlice t l c =>
    split at hc
    · split at hc
      · split at hc <;> cases hc; simp [xval] at hx
      · cases hc
    · cases hc
  case slice t x lo hi mx =>
    cases mx with
    | some q => simp only at hc; cases hc
    | none =>
      simp only at hc
      split at hc
      · rename_i n e hu
        split at hc
        · rename_i k' x' lo' hi' h0 h1 h2 h3
          cases hc
          have := up (P := P) (sliceA_ok hs he hu h0 (Nat.succ_pos _) h1 h2 h3 hx)
          simpa only [execOp, ho, Option.map_none] using this
        · cases hc
      split at hc
      · rename_i e k' by' x' lo' hi' h0 h1 h2 h3
        split at hc <;> cases hc
        have := up (P := P) (slice_ok hs he h0 h1 h2 h3 hx)
        simpa only [execOp, ho, Option.map_none] using this
      · cases hc
  case fieldAddr t x f =>
    split at hc
    · rename_i fs x' h0 h1
      split at hc
      · rename_i g hg
        split at hc
        · rename_i s hsz
          cases hc
          have := up (P := P) (fieldA_ok hs he h0 hg hsz h1 hx)
          simpa only [execOp, ho] using this
        · cases hc
      · cases hc
    · cases hc
  case field t x f =>
    split at hc
    · rename_i fs x' h0 h1
      split at hc
      · rename_i g hg
        cases hk : formT P g.type with
        | none => rw [hk] at hc; cases hc
        | some kk =>
          rw [hk] at hc; cases hc
          have := up (P := P) (fieldV_ok he h0 hg hk h1 hx)
          simpa only [execOp, ho] using this
      · cases hc
    · cases hc
  case indexAddr t x i =>
    split at hc
    · rename_i e x' i' hu h1 h2
      split at hc
      · rename_i k' hsz
        cases hc
        have := up (P := P) (indexA_sl hs he hu hsz h1 h2 hx)
        simpa only [execOp, ho] using this
      · cases hc
    · rename_i n e x' i' hu h1 h2
      split at hc
      · rename_i k' hsz
        cases hc
        have := up (P := P) (indexA_arr hs he hu hsz h1 h2 hx)
        simpa only [execOp, ho] using this
      · cases hc
    · cases hc
  case index t x i =>
    split at hc
    · rename_i n e x' i' hu h1 h2
      split at hc
      · rename_i s k' hsz hk
        cases hc
        have := up (P := P) (indexV_ok he hu hsz hk h1 h2 hx)
        simpa only [execOp, ho] using this
      · cases hc
    · cases hc
  case lookup t m key ok =>
    split at hc
    · rename_i k' e m' key' hu h1 h2
      split at hc
      · rename_i kn hk
        cases hz : zeroV P e with
        | none => rw [hz] at hc; cases hc
        | some z =>
          rw [hz] at hc; cases hc
          have := up (P := P) (lookup_ok hs he hu hk hz h1 h2 hx)
          simpa only [execOp, ho] using this
      · cases hc
    · cases hc
  case mapUpdate t m key x =>
    split at hc
    · split at hc <;> cases hc; simp [xval] at hx
    · cases hc
  case typeAssert x xt t ok =>
    cases ok <;> simp only at hc
    · cases hc
    · split at hc
      · cases hc
      · rename_i d z x' hn hu hz h1
        cases hc
        have := up (P := P) (tassert_ok (xt := xt) he hu (fun m hm => hn m (hm ▸ rfl)) hz h1 hx)
        simpa only [execOp, ho] using this
      · cases hc
  case extract x i =>
    cases h : opnd x <;> rw [h] at hc <;> cases hc
    have := up (P := P) (extract_ok he h hx)
    simpa only [execOp, ho] using this
  case call c =>
    split at hc
    · split at hc <;> cases hc; simp [xval] at hx
    · split at hc <;> cases hc; simp [xval] at hx
    · rename_i b hcal
      split at hc
      · rename_i x t hargs htys
        split at hc
        · rename_i e x' hu h1
          cases hc
          obtain ⟨z, h2, h3⟩ := len_ok hs he hu h1 hx o.type
          refine ⟨z, ?_, h3⟩
          have ha : c.args = #[x] := Array.ext' (by simpa using hargs)
          have ht : c.argTypes = #[t] := Array.ext' (by simpa using htys)
          simp [execOp, ho, resolve, hcal, ha, ht, invoke, builtin, h2]
        · cases hc
      · split at hc
        · split at hc <;> cases hc; simp [xval] at hx
        · cases hc
      · split at hc
        · split at hc <;> cases hc; simp [xval] at hx
        · cases hc
      · cases ha : opndL c.args.toList with
        | none => rw [ha] at hc; cases hc
        | some l =>
          rw [ha] at hc; cases hc
          obtain ⟨z, h2, h3⟩ := max_ok (P := P) he ha hx c.argTypes o.type
          exact ⟨z, by simp [execOp, ho, resolve, hcal, invoke, builtin, h2], h3⟩
      · cases ha : opndL c.args.toList with
        | none => rw [ha] at hc; cases hc
        | some l =>
          rw [ha] at hc; cases hc
          obtain ⟨z, h2, h3⟩ := min_ok (P := P) he ha hx c.argTypes o.type
          exact ⟨z, by simp [execOp, ho, resolve, hcal, invoke, builtin, h2], h3⟩
      · cases hc
  case defer c =>
    split at hc
    · split at hc <;> cases hc; simp [xval] at hx
    · cases hc
  case panic x => cases h : opnd x <;> rw [h] at hc <;> cases hc; simp [xval] at hx
  all_goals cases hc

/-- What is looked at decides. -/
theorem alive_congr {H H' : List AB} {b : Nat} (h : H'[b]? = H[b]?) : alive H' b = alive H b := by unfold alive; rw [h]
theorem slLen_congr {H H' : List AB} {v : AV} (h : ∀ b, b ∈ slFt v → H'[b]? = H[b]?) : slLen H' v = slLen H v := by
  unfold slLen
  cases v <;> simp [slFt] at h ⊢
  rw [alive_congr h]
theorem xval_congr {H H' : List AB} {ρ : Opnd → AV} {k : AK} {v : AV} {ft : List Nat} (hx : xval H ρ k = some (v, ft)) (h : ∀ b, b ∈ ft → H'[b]? = H[b]?) : xval H' ρ k = some (v, ft) := by
  cases k with
  | load k x =>
    simp only [xval] at hx ⊢
    cases hu : ρ x <;> rw [hu] at hx <;> (try simp only at hx ⊢) <;> first | exact hx | skip
    rename_i b off
    cases hb : H[b]? with
    | none => rw [hb] at hx; cases hx
    | some blk =>
      cases blk <;> rw [hb] at hx <;> simp only at hx <;> first | (cases hx; done) | skip
      rename_i cs
      cases hp : pickC k cs off with
      | none => rw [hp] at hx; cases hx
      | some u => rw [hp] at hx; cases hx; rw [h b (by simp), hb]; simp [hp]
  | nilck x =>
    simp only [xval] at hx ⊢
    cases hu : ρ x <;> rw [hu] at hx <;> (try simp only at hx ⊢) <;> first | exact hx | skip
    · split at hx <;> cases hx
      rename_i ha
      rw [alive_congr (h _ (by simp)), ha]; rfl
    · rename_i f _ _
      cases f <;> exact hx
  | fieldA off x =>
    simp only [xval] at hx ⊢
    cases hu : ρ x <;> rw [hu] at hx <;> (try simp only at hx ⊢) <;> first | exact hx | skip
    split at hx <;> cases hx
    rename_i ha
    rw [alive_congr (h _ (by simp)), ha]; rfl
  | indexA k arr x i =>
    simp only [xval] at hx ⊢
    cases hi : ρ i <;> rw [hi] at hx <;> simp only at hx ⊢ <;> first | exact hx | skip
    cases arr <;> cases hu : ρ x <;> rw [hu] at hx <;> (try simp only at hx ⊢) <;> first | exact hx | skip
    · split at hx <;> cases hx
      rename_i ha
      rw [alive_congr (h _ (by simp)), if_pos ha]
    · split at hx <;> cases hx
      rename_i ha
      rw [alive_congr (h _ (by simp)), if_pos ha]
  | lookup kn ok z m key =>
    simp only [xval] at hx ⊢
    cases hu : ρ m <;> rw [hu] at hx <;> (try simp only at hx ⊢) <;> first | exact hx | skip
    rename_i b
    cases hb : H[b]? with
    | none => rw [hb] at hx; cases hx
    | some blk =>
      cases blk <;> rw [hb] at hx <;> simp only at hx <;> first | (cases hx; done) | skip
      split at hx
      case isFalse => cases hx
      rename_i es hk
      cases hp : findA kn (ρ key) es with
      | none => rw [hp] at hx; cases hx
      | some u =>
        have hft : ft = [b] := by rw [hp] at hx; cases u <;> cases hx <;> rfl
        rw [h b (by simp [hft]), hb]
        simp only
        rw [if_pos hk]; exact hx
  | len x =>
    simp only [xval] at hx ⊢
    cases hp : slLen H (ρ x) with
    | none => rw [hp] at hx; cases hx
    | some n => rw [hp] at hx; cases hx; rw [slLen_congr h, hp]; rfl
  | isnil neg x =>
    simp only [xval] at hx ⊢
    cases hu : ρ x <;> rw [hu] at hx <;> (try simp only at hx ⊢) <;> first | exact hx | skip
    · split at hx <;> cases hx
      rename_i ha
      rw [alive_congr (h _ (by simp)), if_pos ha]
    · rename_i k es
      cases es <;> first | exact hx | cases hx
  | sliceA k m x lo hi =>
    simp only [xval] at hx ⊢
    split at hx
    case h_2 => cases hx
    rename_i b o kl l kh h0 hp hl hh
    try rw [hp, hl, hh]
    try simp only
    split at hx
    case isFalse => cases hx
    rename_i hc
    rw [if_pos hc]
    split at hx
    case h_2 => cases hx
    rename_i cs hb
    split at hx
    case isFalse => cases hx
    rename_i hc2
    have hft : b ∈ ft := by cases hx; simp
    rw [h b hft, hb]
    simp only
    rw [if_pos hc2]; exact hx
  | slice k x lo hi =>
    simp only [xval] at hx ⊢
    cases hp : slLen H (ρ x) with
    | none => rw [hp] at hx; cases hx
    | some n =>
      have hft : ∀ b, b ∈ slFt (ρ x) → b ∈ ft := by
        intro b hb
        rw [hp] at hx
        split at hx
        case h_2 => cases hx
        split at hx
        case isFalse => cases hx
        split at hx
        · cases hx; exact hb
        · cases hu : ρ x <;> rw [hu] at hb hx <;> simp [slFt] at hb
          subst hb
          simp only at hx
          split at hx <;> cases hx
          simp
      have hp' : slLen H' (ρ x) = some n := by rw [slLen_congr fun b hb => h b (hft b hb), hp]
      rw [hp] at hx
      rw [hp']
      split at hx
      case h_2 => cases hx
      rename_i h1 h2 h3
      cases h1
      try rw [h2, h3]
      try simp only
      split at hx
      case isFalse => cases hx
      rename_i hc
      rw [if_pos hc]
      split at hx
      · rename_i h0; rw [if_pos h0]; exact hx
      · rename_i h0
        rw [if_neg h0]
        cases hu : ρ x <;> rw [hu] at hx <;> (try simp only at hx ⊢) <;> first | exact hx | skip
        split at hx <;> cases hx
        rename_i ha
        rw [alive_congr (h _ (by simp)), if_pos ha]
  | _ => simpa only [xval] using hx
end
end Ev
end Go.Proofs.YtcaejedfjobooaaGreat
