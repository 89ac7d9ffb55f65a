/- The quick evaluator: its operations are those of the first one. -/
import Derived.Test.YtcaejedfjobooaaGreatEvQ1
namespace Go.Proofs.YtcaejedfjobooaaGreat
open Go
namespace Ev
namespace Q
section
variable {C : Cfg} {N : Nat}
theorem okO_of {x : Opnd} (h : ∀ t, t ∈ tmpsO x → t < N) : okO N x = true := by
  cases x with
  | tmp t => exact Nat.ble_eq_true_of_le (h t (by simp [tmpsO]))
  | val v => rfl
  | glob g => rfl

/-- A floating operation does what the first evaluator's does. -/
def FOk (C : Cfg) (N : Nat) (f : FO) (k : AK) : Prop := ∀ (tr : T AV) (hp : T AB) (n : Nat) (K : FK), WT N tr → WH n hp → (∀ t, t ∈ k.tmps → t < N) →
  f N tr hp n K = .no ∨ ∃ v hp' n' ft, f N tr hp n K = K v hp' n' ft ∧ WH n' hp' ∧ float (Ev.val C (listT N tr)) (listH n hp) k = some (v, listH n' hp', ft)

theorem float_x {ρ : Opnd → AV} {H : List AB} {k : AK} (hk : xnew ρ k = none) {v : AV} {ft : List Nat} (hx : xval H ρ k = some (v, ft)) (hf : (ft.all fun b => decide (b < H.length)) = true) : float ρ H k = some (v, H, ft) := by
  unfold float; rw [hk, hx]; simp only; rw [if_pos hf]
theorem float_1 {ρ : Opnd → AV} {H : List AB} {k : AK} (hk : xnew ρ k = none) {v : AV} {b : Nat} (hx : xval H ρ k = some (v, [b])) (hb : b < H.length) : float ρ H k = some (v, H, [b]) :=
  float_x hk hx (by simpa using hb)
theorem float_0 {ρ : Opnd → AV} {H : List AB} {k : AK} (hk : xnew ρ k = none) {v : AV} (hx : xval H ρ k = some (v, [])) : float ρ H k = some (v, H, []) := float_x hk hx rfl
theorem float_n {ρ : Opnd → AV} {H : List AB} {k : AK} {blk : AB} {mk : Nat → AV} (hk : xnew ρ k = some (blk, mk)) : float ρ H k = some (mk H.length, H ++ [blk], [H.length]) := by
  unfold float; rw [hk]

theorem lt_of_get {H : List AB} {b : Nat} {x : AB} (h : H[b]? = some x) : b < H.length := (List.getElem?_eq_some_iff.1 h).1
theorem lt_of_alive {H : List AB} {b : Nat} (h : alive H b = true) : b < H.length := by
  unfold alive at h
  cases hb : H[b]? with
  | none => rw [hb] at h; cases h
  | some x => exact lt_of_get hb

theorem oSlowV_ok (hC : ∀ g, C.glob g = none) {k : AK} (hk : ∀ ρ, xnew ρ k = none) : FOk C N (oSlowV k) k := by
  intro tr hp n K ht hh _
  unfold oSlowV
  rw [val_eq N tr hC]
  cases hx : xval (listH n hp) (Ev.val C (listT N tr)) k with
  | none => exact .inl rfl
  | some p =>
    obtain ⟨v, ft⟩ := p
    cases hf : (ft.all fun b => decide (b < (listH n hp).length)) with
    | false =>
      left
      show (Bool.rec R.no _ (ft.all fun b => decide (b < (listH n hp).length)) : R) = _
      rw [hf]
    | true =>
      refine .inr ⟨v, hp, n, ft, ?_, hh, float_x (hk _) hx hf⟩
      show (Bool.rec R.no (forceV v fun v => forceNs ft fun ft => K v hp n ft) (ft.all fun b => decide (b < (listH n hp).length)) : R) = _
      rw [hf]
      simp

theorem oSlowN_ok (hC : ∀ g, C.glob g = none) {k : AK} : FOk C N (oSlowN k) k := by
  intro tr hp n K ht hh _
  unfold oSlowN
  rw [val_eq N tr hC]
  cases hx : xnew (Ev.val C (listT N tr)) k with
  | none => exact .inl rfl
  | some p =>
    obtain ⟨blk, mk⟩ := p
    show (forceB blk fun b => pushK hp n b fun hp m => forceV (mk n) fun v => K v hp m [n]) = R.no ∨ _
    simp only [forceB_eq, forceV_eq]
    rcases pushK_spec hh blk fun hp m => K (mk n) hp m [n] with h | ⟨hp', h1, h2, h3⟩
    · exact .inl h
    · exact .inr ⟨mk n, hp', n + 1, [n], h1, h2, by rw [float_n hx, listH_len, h3]⟩

theorem pickK_eq (k : Option Nat) (cs : List AV) (off : Nat) (K : AV → R) : pickK k cs off K = (match pickC k cs off with | some v => K v | none => .no) := by
  cases k with
  | none => exact cellAt_eq cs off K
  | some k =>
    show partK cs off k (fun l => K (.agg l)) = _
    rw [partK_eq]
    unfold pickC
    by_cases h : off + k ≤ cs.length
    · simp only [if_pos h]
    · simp only [if_neg h]

theorem oMov_ok (x : Opnd) : FOk C N (oMov x) (.mov x) := by
  intro tr hp n K ht hh hk
  unfold oMov
  rcases valK_eq (C := C) (okO_of hk) (tr := tr) fun v => K v hp n [] with h | h
  · exact .inl h
  · exact .inr ⟨_, hp, n, [], h, hh, float_0 rfl rfl⟩

theorem oAlloc_ok (z : List AV) : FOk C N (oAlloc z) (.alloc z) := by
  intro tr hp n K ht hh hk
  unfold oAlloc
  rcases pushK_spec hh (.cells z) fun hp m => K (.ptr n 0) hp m [n] with h | ⟨hp', h1, h2, h3⟩
  · exact .inl h
  · exact .inr ⟨.ptr n 0, hp', n + 1, [n], h1, h2, by rw [float_n rfl, listH_len, h3]⟩

theorem oBox_ok (x : Opnd) : FOk C N (oBox x) (.box x) := by
  intro tr hp n K ht hh hk
  unfold oBox
  rcases valK_eq (C := C) (okO_of hk) (tr := tr) fun v => cellsK v fun cs => pushK hp n (.cells cs) fun hp m => K (.ptr n 0) hp m [n] with h | h
  · exact .inl h
  · rw [h, cellsK_eq]
    cases hc : cellsOf (Ev.val C (listT N tr) x) with
    | none => exact .inl rfl
    | some cs =>
      simp only
      rcases pushK_spec hh (.cells cs) fun hp m => K (.ptr n 0) hp m [n] with h | ⟨hp', h1, h2, h3⟩
      · exact .inl h
      · refine .inr ⟨.ptr n 0, hp', n + 1, [n], h1, h2, ?_⟩
        rw [float_n (blk := .cells cs) (mk := fun j => .ptr j 0) (by simp [xnew, hc]), listH_len, h3]

theorem oLoad_ok (hC : ∀ g, C.glob g = none) (k : Option Nat) (a : Opnd) : FOk C N (oLoad k a) (.load k a) := by
  intro tr hp n K ht hh hk
  have hs := oSlowV_ok (N := N) hC (k := .load k a) (fun _ => rfl) tr hp n K ht hh hk
  unfold oLoad
  rcases valK_eq (C := C) (okO_of hk) (tr := tr) fun v => asPtr v (fun b off => cellsAt hp n b fun cs => pickK k cs off fun v => K v hp n [b]) (oSlowV (.load k a) N tr hp n K) with h | h
  · exact .inl h
  · rw [h, asPtr_eq]
    split
    · rename_i b off hv
      rw [cellsAt_eq hh]
      split
      · rename_i cs hb
        rw [pickK_eq]
        cases hp' : pickC k cs off with
        | none => exact .inl rfl
        | some v => exact .inr ⟨v, hp, n, [b], rfl, hh, float_1 rfl (by simp [xval, hv, hb, hp']) (lt_of_get hb)⟩
      · exact .inl rfl
    · exact hs

theorem oNilck_ok (hC : ∀ g, C.glob g = none) (x : Opnd) : FOk C N (oNilck x) (.nilck x) := by
  intro tr hp n K ht hh hk
  have hs := oSlowV_ok (N := N) hC (k := .nilck x) (fun _ => rfl) tr hp n K ht hh hk
  unfold oNilck
  rcases valK_eq (C := C) (okO_of hk) (tr := tr) fun v => asPtr v (fun b off => aliveAt hp n b (K (.ptr b off) hp n [b])) (oSlowV (.nilck x) N tr hp n K) with h | h
  · exact .inl h
  · rw [h, asPtr_eq]
    split
    · rename_i b off hv
      rw [aliveAt_eq hh]
      split
      · rename_i ha
        exact .inr ⟨_, hp, n, [b], rfl, hh, float_1 rfl (by simp [xval, hv, ha]) (lt_of_alive ha)⟩
      · exact .inl rfl
    · exact hs

theorem two {x y : Opnd} (h : ∀ t, t ∈ tmpsO x ++ tmpsO y → t < N) : okO N x = true ∧ okO N y = true :=
  ⟨okO_of fun t ht => h t (List.mem_append_left _ ht), okO_of fun t ht => h t (List.mem_append_right _ ht)⟩

theorem slowBin_eq (op : BinOp) (k : IntKind) (x : Int) (k' : IntKind) (y : Int) (K : AV → R) : slowBin op k x k' y K = .no ∨ ∃ v, slowBin op k x k' y K = K v ∧ binI op k x k' y = some v := by
  unfold slowBin
  cases hb : binI op k x k' y with
  | none => exact .inl rfl
  | some v => exact .inr ⟨v, forceV_eq v K, rfl⟩
theorem fBin_eq (op : BinOp) (k : IntKind) (x : Int) (k' : IntKind) (y : Int) (K : AV → R) : fBin op k x k' y K = .no ∨ ∃ v, fBin op k x k' y K = K v ∧ binI op k x k' y = some v := by
  unfold fBin
  rw [kix_eq]
  by_cases hk : k = k'
  · subst hk
    simp only [decide_true]
    cases op <;> simp only [wrapK_eq, boolK_eq, notB_eq, addI_eq, negI_eq, leI_eq, eqI_eq] <;>
      first
      | exact slowBin_eq _ _ _ _ _ _
      | (refine .inr ⟨_, rfl, ?_⟩; simp [binI, Int.sub_eq_add_neg]; done)
      | (refine .inr ⟨_, rfl, ?_⟩; simp [binI, bne]; done)
      | (refine .inr ⟨_, rfl, ?_⟩; simp only [binI, if_true, Option.some.injEq, AV.bool.injEq]; rw [Bool.eq_iff_iff]; simp; done)
      | (refine .inr ⟨_, rfl, ?_⟩; simp only [binI, if_true, Option.some.injEq, AV.bool.injEq]; rw [Bool.eq_iff_iff]; simp; omega)
  · simp only [hk, decide_false]
    exact slowBin_eq _ _ _ _ _ _

theorem oBin_ok (op : BinOp) (x y : Opnd) : FOk C N (oBin op x y) (.bin op x y) := by
  intro tr hp n K ht hh hk
  obtain ⟨o1, o2⟩ := two hk
  unfold oBin
  rcases valK_eq (C := C) o1 (tr := tr) fun v => valK y tr fun w => asInt v fun k a => asInt w fun k' b => fBin op k a k' b fun v => K v hp n [] with h | h
  · exact .inl h
  · rw [h]
    rcases valK_eq (C := C) o2 (tr := tr) fun w => asInt (Ev.val C (listT N tr) x) fun k a => asInt w fun k' b => fBin op k a k' b fun v => K v hp n [] with h | h
    · exact .inl h
    · rw [h, asInt_eq]
      split
      · rename_i k a hx
        rw [asInt_eq]
        split
        · rename_i k' b hy
          rcases fBin_eq op k a k' b fun v => K v hp n [] with h | ⟨v, h, hv⟩
          · exact .inl h
          · exact .inr ⟨v, hp, n, [], h, hh, float_0 rfl (by simp [xval, hx, hy, hv])⟩
        · exact .inl rfl
      · exact .inl rfl

theorem oNot_ok (x : Opnd) : FOk C N (oNot x) (.not x) := by
  intro tr hp n K ht hh hk
  unfold oNot
  rcases valK_eq (C := C) (okO_of hk) (tr := tr) fun v => asBool v fun b => boolK (notB b) fun b => K (.bool b) hp n [] with h | h
  · exact .inl h
  · rw [h, asBool_eq]
    split
    · rename_i b hv
      simp only [boolK_eq, notB_eq]
      exact .inr ⟨_, hp, n, [], rfl, hh, float_0 rfl (by simp [xval, hv])⟩
    · exact .inl rfl
theorem oConv_ok (k : IntKind) (x : Opnd) : FOk C N (oConv k x) (.conv k x) := by
  intro tr hp n K ht hh hk
  unfold oConv
  rcases valK_eq (C := C) (okO_of hk) (tr := tr) fun v => asInt v fun _ i => wrapK k i fun i => K (.int k i) hp n [] with h | h
  · exact .inl h
  · rw [h, asInt_eq]
    split
    · rename_i k' b hv
      simp only [wrapK_eq]
      exact .inr ⟨_, hp, n, [], rfl, hh, float_0 rfl (by simp [xval, hv])⟩
    · exact .inl rfl
theorem oIface_ok (t : Nat) (x : Opnd) : FOk C N (oIface t x) (.iface t x) := by
  intro tr hp n K ht hh hk
  unfold oIface
  rcases valK_eq (C := C) (okO_of hk) (tr := tr) fun v => K (.iface t v) hp n [] with h | h
  · exact .inl h
  · exact .inr ⟨_, hp, n, [], h, hh, float_0 rfl rfl⟩
theorem oFieldA_ok (hC : ∀ g, C.glob g = none) (off : Nat) (x : Opnd) : FOk C N (oFieldA off x) (.fieldA off x) := by
  intro tr hp n K ht hh hk
  have hs := oSlowV_ok (N := N) hC (k := .fieldA off x) (fun _ => rfl) tr hp n K ht hh hk
  unfold oFieldA
  rcases valK_eq (C := C) (okO_of hk) (tr := tr) fun v => asPtr v (fun b o => aliveAt hp n b (natK (Nat.add o off) fun o => K (.ptr b o) hp n [b])) (oSlowV (.fieldA off x) N tr hp n K) with h | h
  · exact .inl h
  · rw [h, asPtr_eq]
    split
    · rename_i b o hv
      rw [aliveAt_eq hh]
      split
      · rename_i ha
        simp only [natK_eq]
        exact .inr ⟨_, hp, n, [b], rfl, hh, float_1 rfl (by simp [xval, hv, ha]) (lt_of_alive ha)⟩
      · exact .inl rfl
    · exact hs
theorem oFieldV_ok (off : Nat) (k : Option Nat) (x : Opnd) : FOk C N (oFieldV off k x) (.fieldV off k x) := by
  intro tr hp n K ht hh hk
  unfold oFieldV
  rcases valK_eq (C := C) (okO_of hk) (tr := tr) fun v => asAgg v fun cs => pickK k cs off fun v => K v hp n [] with h | h
  · exact .inl h
  · rw [h, asAgg_eq]
    split
    · rename_i cs hv
      rw [pickK_eq]
      cases hp' : pickC k cs off with
      | none => exact .inl rfl
      | some v => exact .inr ⟨v, hp, n, [], rfl, hh, float_0 rfl (by simp [xval, hv, hp'])⟩
    · exact .inl rfl
theorem oExtract_ok (x : Opnd) (i : Nat) : FOk C N (oExtract x i) (.extract x i) := by
  intro tr hp n K ht hh hk
  unfold oExtract
  rcases valK_eq (C := C) (okO_of hk) (tr := tr) fun v => asTup v fun l => cellAt l i fun v => K v hp n [] with h | h
  · exact .inl h
  · rw [h, asTup_eq]
    split
    · rename_i l hv
      rw [cellAt_eq]
      cases hl : l[i]? with
      | none => exact .inl rfl
      | some v => exact .inr ⟨v, hp, n, [], rfl, hh, float_0 rfl (by simp [xval, hv, hl])⟩
    · exact .inl rfl
theorem oLen_ok (hC : ∀ g, C.glob g = none) (x : Opnd) : FOk C N (oLen x) (.len x) := by
  intro tr hp n K ht hh hk
  have hs := oSlowV_ok (N := N) hC (k := .len x) (fun _ => rfl) tr hp n K ht hh hk
  unfold oLen
  rcases valK_eq (C := C) (okO_of hk) (tr := tr) fun v => asSl v (fun b _ m _ => aliveAt hp n b (K (.int .i64 (Int.ofNat m)) hp n [b])) (oSlowV (.len x) N tr hp n K) with h | h
  · exact .inl h
  · rw [h, asSl_eq]
    split
    · rename_i b o m k' hv
      rw [aliveAt_eq hh]
      split
      · rename_i ha
        exact .inr ⟨_, hp, n, [b], rfl, hh, float_1 rfl (by simp [xval, hv, slLen, ha, slFt]) (lt_of_alive ha)⟩
      · exact .inl rfl
    · exact hs
theorem oPick_ok (c a b : Opnd) : FOk C N (oPick c a b) (.pick c a b) := by
  intro tr hp n K ht hh hk
  simp only [AK.tmps] at hk
  have o1 : okO N c = true := okO_of fun t ht => hk t (List.mem_append_left _ (List.mem_append_left _ ht))
  have o2 : okO N a = true := okO_of fun t ht => hk t (List.mem_append_left _ (List.mem_append_right _ ht))
  have o3 : okO N b = true := okO_of fun t ht => hk t (List.mem_append_right _ ht)
  unfold oPick
  rcases valK_eq (C := C) o1 (tr := tr) fun vc => asBool vc fun t => valK a tr fun x => valK b tr fun y => boolK t fun t => Bool.rec (K y hp n []) (K x hp n []) t with h | h
  · exact .inl h
  · rw [h, asBool_eq]
    split
    · rename_i t hv
      rcases valK_eq (C := C) o2 (tr := tr) fun x => valK b tr fun y => boolK t fun t => Bool.rec (K y hp n []) (K x hp n []) t with h | h
      · exact .inl h
      · rw [h]
        rcases valK_eq (C := C) o3 (tr := tr) fun y => boolK t fun t => Bool.rec (K y hp n []) (K (Ev.val C (listT N tr) a) hp n []) t with h | h
        · exact .inl h
        · rw [h, boolK_eq]
          refine .inr ⟨bif t then Ev.val C (listT N tr) a else Ev.val C (listT N tr) b, hp, n, [], by cases t <;> rfl, hh, float_0 rfl ?_⟩
          simp only [xval, hv]
          split
          · rename_i p q e1 e2; rw [e1, e2]; cases t <;> rfl
          · rfl
    · exact .inl rfl
theorem oIndexA_ok (hC : ∀ g, C.glob g = none) (k : Nat) (arr : Option Nat) (x i : Opnd) : FOk C N (oIndexA k arr x i) (.indexA k arr x i) := by
  intro tr hp n K ht hh hk
  have hs := oSlowV_ok (N := N) hC (k := .indexA k arr x i) (fun _ => rfl) tr hp n K ht hh hk
  obtain ⟨o1, o2⟩ := two hk
  unfold oIndexA
  refine (valK_eq (C := C) o2 (tr := tr) _).elim .inl fun h => ?_
  rw [h, asInt_eq]
  split
  · rename_i ki i' hi
    cases i' with
    | negSucc j => exact .inl rfl
    | ofNat j =>
      show (valK x tr _) = R.no ∨ _
      refine (valK_eq (C := C) o1 (tr := tr) _).elim .inl fun h => ?_
      rw [show asNatI (Int.ofNat j) = fun K => K j from rfl]
      simp only
      rw [h]
      cases arr with
      | none =>
        simp only
        rw [asSl_eq]
        split
        · rename_i b off m k' hv
          rw [boolRec_if]
          split
          · rename_i hc
            simp only [andB_eq, ble_iff, Bool.and_eq_true, decide_eq_true_eq] at hc
            have hk' : k = k' := Nat.eq_of_beq_eq_true hc.2
            subst hk'
            rw [aliveAt_eq hh]
            split
            · rename_i ha
              simp only [natK_eq]
              refine .inr ⟨_, hp, n, [b], rfl, hh, float_1 rfl ?_ (lt_of_alive ha)⟩
              have : (j : Int) < m := by omega
              simp [xval, hi, hv, ha, this]
            · exact .inl rfl
          · exact .inl rfl
        · exact hs
      | some m =>
        simp only
        rw [asPtr_eq]
        split
        · rename_i b off hv
          rw [boolRec_if]
          split
          · rename_i hc
            simp only [ble_iff, decide_eq_true_eq] at hc
            rw [aliveAt_eq hh]
            split
            · rename_i ha
              simp only [natK_eq]
              refine .inr ⟨_, hp, n, [b], rfl, hh, float_1 rfl ?_ (lt_of_alive ha)⟩
              have : (j : Int) < m := by omega
              simp [xval, hi, hv, ha, this]
            · exact .inl rfl
          · exact .inl rfl
        · exact hs
  · exact .inl rfl

theorem fillK_eq {tr : T AV} : ∀ {l : List (Nat × Nat × Opnd)} {cs : List AV} (K : List AV → R), (∀ p, p ∈ l → okO N p.2.2 = true) → fillK l cs tr K = .no ∨ ∃ out, fillK l cs tr K = K out ∧ fillA cs (l.map fun p => (p.1, p.2.1, Ev.val C (listT N tr) p.2.2)) = some out
  | [], cs, K, _ => .inr ⟨cs, rfl, rfl⟩
  | (off, sz, x) :: l, cs, K, h => by
    have e : fillK ((off, sz, x) :: l) cs tr K = valK x tr fun v => cellsK v fun w => Bool.rec .no (putK cs off w fun cs => fillK l cs tr K) (andB (Nat.beq (lenL w) sz) (Nat.ble (Nat.add off sz) (lenL cs))) := rfl
    rw [e]
    refine (valK_eq (C := C) (h _ (List.mem_cons_self ..)) (tr := tr) _).elim .inl fun h1 => ?_
    rw [h1, cellsK_eq]
    cases hc : cellsOf (Ev.val C (listT N tr) x) with
    | none => exact .inl rfl
    | some w =>
      simp only [lenL_eq]
      rw [boolRec_if]
      split
      · rename_i hcond
        simp only [andB_eq, ble_iff, Bool.and_eq_true, decide_eq_true_eq] at hcond
        have e1 : w.length = sz := Nat.eq_of_beq_eq_true hcond.1
        have e2 : off + sz ≤ cs.length := hcond.2
        rw [putK_eq, if_pos (by omega)]
        rcases fillK_eq (l := l) (cs := setAt cs off w) K (fun p hp => h p (List.mem_cons_of_mem _ hp)) with h2 | ⟨out, h2, h3⟩
        · exact .inl h2
        · refine .inr ⟨out, h2, ?_⟩
          simp only [List.map_cons, fillA, hc]
          rw [if_pos ⟨e1, e2⟩]; exact h3
      · exact .inl rfl
theorem oBuild_ok (z : List AV) (parts : List (Nat × Nat × Opnd)) : FOk C N (oBuild z parts) (.build z parts) := by
  intro tr hp n K ht hh hk
  unfold oBuild
  rcases fillK_eq (C := C) (N := N) (tr := tr) (l := parts) (cs := z) (fun cs => K (.agg cs) hp n []) (fun p hp => okO_of fun t ht => hk t (by
    simp only [AK.tmps, List.mem_flatMap]; exact ⟨p, hp, ht⟩)) with h | ⟨out, h1, h2⟩
  · exact .inl h
  · exact .inr ⟨_, hp, n, [], h1, hh, float_0 rfl (by simp [xval, h2])⟩
theorem oEq_ok (e : EK) (neg : Bool) (x y : Opnd) : FOk C N (oEq e neg x y) (.eq e neg x y) := by
  intro tr hp n K ht hh hk
  obtain ⟨o1, o2⟩ := two hk
  unfold oEq
  refine (valK_eq (C := C) o1 (tr := tr) _).elim .inl fun h => ?_
  rw [h]
  refine (valK_eq (C := C) o2 (tr := tr) _).elim .inl fun h => ?_
  rw [h]
  cases ha : aeqK e (Ev.val C (listT N tr) x) (Ev.val C (listT N tr) y) with
  | none => exact .inl rfl
  | some b =>
    refine .inr ⟨.bool (bif neg then !b else b), hp, n, [], ?_, hh, float_0 rfl (by simp [xval, ha])⟩
    show boolK _ _ = _
    rw [boolK_eq]
    cases neg <;> simp
end
end Q
end Ev
end Go.Proofs.YtcaejedfjobooaaGreat
