/- The quick evaluator: regions. -/
import Derived.Test.YtcaejedfjobooaaGreatEvQ2
namespace Go.Proofs.YtcaejedfjobooaaGreat
open Go
namespace Ev
namespace Q

/-- What a call comes to. -/
inductive CR : R → Option (CRes × List AB × List Nat) → Prop
  | no {o : Option (CRes × List AB × List Nat)} : CR .no o
  | ret {v : AV} {hp : T AB} {n : Nat} {tc : List Nat} : WH n hp → CR (.cret v hp n tc) (some (.ret v, listH n hp, tc))
  | pan {v : AV} {hp : T AB} {n : Nat} {tc : List Nat} : WH n hp → CR (.cpan v hp n tc) (some (.pan v, listH n hp, tc))
def CQ (call' : CallQ) (call : CallF) : Prop := ∀ (f : AV) (args : List AV) (hp : T AB) (n : Nat), WH n hp → CR (call' f args hp n) (call f args (listH n hp))

section
variable {C : Cfg} {N : Nat} {call' : CallQ} {call : CallF}

def SOk (C : Cfg) (N : Nat) (call' : CallQ) (call : CallF) (f : SO) (k : AK) : Prop := ∀ (tr : T AV) (hp : T AB) (n : Nat) (K P : FK), WT N tr → WH n hp → (∀ t, t ∈ k.tmps → t < N) →
  f call' N tr hp n K P = .no ∨ (∃ v hp' n' tc, f call' N tr hp n K P = K v hp' n' tc ∧ WH n' hp' ∧ spine call (Ev.val C (listT N tr)) (listH n hp) k = some (.ret v, listH n' hp', tc)) ∨
    (∃ v hp' n' tc, f call' N tr hp n K P = P v hp' n' tc ∧ WH n' hp' ∧ spine call (Ev.val C (listT N tr)) (listH n hp) k = some (.pan v, listH n' hp', tc))

theorem plainL_eq : ∀ l : List AV, plainL l = l.all AV.plain
  | [] => rfl
  | x :: l => by
    show andB (AV.plain x) (plainL l) = _
    rw [andB_eq, plainL_eq l]; rfl

theorem oStore_ok (k : Nat) (a x : Opnd) : SOk C N call' call (oStore k a x) (.store k a x) := by
  intro tr hp n K P ht hh hk
  obtain ⟨o1, o2⟩ := two hk
  unfold oStore
  refine (valK_eq (C := C) o1 (tr := tr) _).elim .inl fun h => ?_
  rw [h, asPtr_eq]
  split
  · rename_i b off hv
    refine (valK_eq (C := C) o2 (tr := tr) _).elim .inl fun h => ?_
    rw [h, cellsK_eq]
    cases hc : cellsOf (Ev.val C (listT N tr) x) with
    | none => exact .inl rfl
    | some l =>
      simp only
      rw [cellsAt_eq hh]
      split
      · rename_i cs hb
        rw [boolRec_if]
        split
        · rename_i hcond
          simp only [andB_eq, lenL_eq, plainL_eq, Bool.and_eq_true] at hcond
          have e1 : l.length = k := Nat.eq_of_beq_eq_true hcond.1
          rw [putK_eq]
          split
          · rename_i hle
            obtain ⟨hp', s1, s2, s3⟩ := setH_spec hh (by rw [← listH_len n hp]; exact lt_of_get hb) (.cells (setAt cs off l))
            rw [s1]
            refine .inr (.inl ⟨.unk, hp', n, [b], rfl, s2, ?_⟩)
            rw [s3]
            simp only [spine, xeff, hv, hc, hb]
            rw [if_pos ⟨e1, hle, hcond.2⟩]; rfl
          · exact .inl rfl
        · exact .inl rfl
      · exact .inl rfl
  · exact .inl rfl

theorem oEff_ok (hC : ∀ g, C.glob g = none) {k : AK} (hk : ∀ ρ H, spine call ρ H k = (xeff H ρ k).map fun r => (.ret r.v, r.hp, r.tc)) : SOk C N call' call (oEff k) k := by
  intro tr hp n K P ht hh _
  rw [hk]
  cases hx : xeff (listH n hp) (Ev.val C (listT N tr)) k with
  | none => left; unfold oEff; rw [val_eq N tr hC, hx]
  | some r =>
    have e : oEff k call' N tr hp n K P = ofH r.hp fun hp n => forceNs r.tc fun tc => K r.v hp n tc := by
      unfold oEff; rw [val_eq N tr hC, hx]; exact forceV_eq _ _
    rw [e]
    rcases ofH_spec r.hp fun hp n => forceNs r.tc fun tc => K r.v hp n tc with h | ⟨hp', n', h1, h2, h3⟩
    · exact .inl h
    · refine .inr (.inl ⟨r.v, hp', n', r.tc, by rw [h1, forceNs_eq], h2, by rw [h3]; rfl⟩)

theorem ends_spec {r : R} {o : Option (CRes × List AB × List Nat)} (h : CR r o) (K P : FK) : ends r K P = .no ∨ (∃ v hp' n' tc, ends r K P = K v hp' n' tc ∧ WH n' hp' ∧ o = some (.ret v, listH n' hp', tc)) ∨
    (∃ v hp' n' tc, ends r K P = P v hp' n' tc ∧ WH n' hp' ∧ o = some (.pan v, listH n' hp', tc)) := by
  cases h with
  | no => exact .inl rfl
  | ret h => exact .inr (.inl ⟨_, _, _, _, rfl, h, rfl⟩)
  | pan h => exact .inr (.inr ⟨_, _, _, _, rfl, h, rfl⟩)

theorem tmpsL_mem {x : Opnd} {t : Nat} : ∀ {l : List Opnd}, x ∈ l → t ∈ tmpsO x → t ∈ tmpsL l
  | y :: l, h, ht => by
    simp only [tmpsL, List.mem_append]
    rcases List.mem_cons.1 h with rfl | h
    · exact .inl ht
    · exact .inr (tmpsL_mem h ht)

theorem oCall_ok (hcall : CQ call' call) (f : Opnd) (args : List Opnd) : SOk C N call' call (oCall f args) (.call f args) := by
  intro tr hp n K P ht hh hk
  simp only [AK.tmps] at hk
  have o1 : okO N f = true := okO_of fun t ht => hk t (List.mem_append_left _ ht)
  have o2 : ∀ x, x ∈ args → okO N x = true := fun x hx => okO_of fun t ht => hk t (List.mem_append_right _ (tmpsL_mem hx ht))
  unfold oCall
  refine (valK_eq (C := C) o1 (tr := tr) _).elim .inl fun h => ?_
  rw [h]
  refine (argsK_eq (C := C) (tr := tr) _ o2).elim .inl fun h => ?_
  rw [h]
  simp only [spine]
  exact ends_spec (hcall _ _ _ _ hh) K P

theorem lookK_eq : ∀ {l : List (Nat × Nat)} {t : Nat} (K : Nat → R), lookK l t K = (match l.lookup t with | some f => K f | none => .no)
  | [], _, _ => rfl
  | (a, b) :: l, t, K => by
    show (Bool.rec (lookK l t K) (K b) (Nat.beq t a) : R) = _
    rw [List.lookup_cons, lookK_eq (l := l)]
    cases h : Nat.beq t a with
    | true =>
      have : t = a := Nat.eq_of_beq_eq_true h
      subst this; simp
    | false =>
      have : (t == a) = false := by simpa using Nat.ne_of_beq_eq_false h
      rw [this]

theorem oInvoke_ok (hcall : CQ call' call) (x : Opnd) (tbl : List (Nat × Nat)) (args : List Opnd) : SOk C N call' call (oInvoke x tbl args) (.invoke x tbl args) := by
  intro tr hp n K P ht hh hk
  simp only [AK.tmps] at hk
  have o1 : okO N x = true := okO_of fun t ht => hk t (List.mem_append_left _ ht)
  have o2 : ∀ x, x ∈ args → okO N x = true := fun x hx => okO_of fun t ht => hk t (List.mem_append_right _ (tmpsL_mem hx ht))
  unfold oInvoke
  refine (valK_eq (C := C) o1 (tr := tr) _).elim .inl fun h => ?_
  rw [h, asIface_eq]
  split
  · rename_i t v hv
    rw [lookK_eq]
    split
    · rename_i f hl
      refine (argsK_eq (C := C) (tr := tr) _ o2).elim .inl fun h => ?_
      rw [h]
      simp only [spine, hv, hl]
      exact ends_spec (hcall _ _ _ _ hh) K P
    · exact .inl rfl
  · exact .inl rfl

theorem oPanic_ok (x : Opnd) : SOk C N call' call (oPanic x) (.panic x) := by
  intro tr hp n K P ht hh hk
  unfold oPanic
  refine (valK_eq (C := C) (okO_of hk) (tr := tr) _).elim .inl fun h => ?_
  rw [h, asIface_eq]
  split
  · rename_i t v hv
    exact .inr (.inr ⟨_, hp, n, [], rfl, hh, by simp only [spine, hv]⟩)
  · exact .inl rfl

/-! One operation. -/
theorem apartN_eq (ys : List Nat) : ∀ xs : List Nat, apartN ys xs = apart xs ys
  | [] => rfl
  | x :: xs => by
    have hin : ∀ l : List Nat, (List.rec (motive := fun _ => Bool) true (fun y _ ih => andB (notB (Nat.beq x y)) ih) l) = !l.contains x := fun l => by
      induction l with
      | nil => rfl
      | cons y l ih =>
        show andB (notB (Nat.beq x y)) _ = _
        rw [ih, andB_eq, notB_eq]
        cases h : Nat.beq x y with
        | true =>
          have := Nat.eq_of_beq_eq_true h
          subst this; simp
        | false =>
          have := Nat.ne_of_beq_eq_false h
          simp [this]
    show andB (List.rec (motive := fun _ => Bool) true (fun y _ ih => andB (notB (Nat.beq x y)) ih) ys) (apartN ys xs) = _
    rw [hin, apartN_eq ys xs, andB_eq]
    rfl
theorem flOk_ok {fl : List (Nat × List Nat)} {deps : Nat} {tc : List Nat} (h : flOk fl deps tc = true) : fl.all (fun p => deps.testBit p.1 || apart p.2 tc) = true := by
  cases tc with
  | nil =>
    rw [List.all_eq_true]
    intro p _
    have : apart p.2 [] = true := by unfold apart; simp
    simp [this]
  | cons x tc =>
    have h' : (List.rec (motive := fun _ => Bool) true (fun p _ ih => andB (bitR deps p.1 (apartN (x :: tc) p.2) true) ih) fl) = true := h
    clear h
    induction fl with
    | nil => rfl
    | cons p fl ih =>
      have h2 : andB (bitR deps p.1 (apartN (x :: tc) p.2) true) (List.rec (motive := fun _ => Bool) true (fun p _ ih => andB (bitR deps p.1 (apartN (x :: tc) p.2) true) ih) fl) = true := h'
      rw [andB_eq, Bool.and_eq_true, bit_if, apartN_eq] at h2
      rw [List.all_cons, ih h2.2, Bool.and_true]
      have h1 := h2.1
      split at h1
      · rename_i hb; simp [hb]
      · rw [h1]; simp
theorem filterN_eq (pin : Nat) : ∀ (t tc : List Nat) (K : List Nat → R), filterN pin t tc K = K (t.filter (· < pin) ++ tc)
  | [], tc, K => rfl
  | x :: t, tc, K => by
    show filterN pin t tc (fun r => Bool.rec (K r) (K (x :: r)) (Nat.ble (Nat.succ x) pin)) = _
    rw [filterN_eq pin t tc, boolRec_if, ble_iff]
    by_cases h : x < pin
    · rw [if_pos (by simp; omega), List.filter_cons_of_pos (by simpa using h)]; rfl
    · rw [if_neg (by simp; omega), List.filter_cons_of_neg (by simpa using h)]
theorem putT'_spec {tr : T AV} (ht : WT N tr) {dst : Option Nat} (hd : ∀ d, dst = some d → d < N) (v : AV) : ∃ tr', (∀ K, putT' tr dst v K = K tr') ∧ WT N tr' ∧ listT N tr' = putT (listT N tr) dst v := by
  cases dst with
  | none => exact ⟨tr, fun _ => rfl, ht, rfl⟩
  | some d => exact setT_spec ht (hd d rfl) v

/-- What one operation comes to. -/
inductive SR1 (C : Cfg) (call : CallF) (pin N : Nat) (nod drawn : Bool) (o : AOp) (flq : List (Nat × List Nat)) (tr : T AV) (df : List ADef) (hp : T AB) (n : Nat) (tc : List Nat) (K : OK) : R → Prop
  | no : SR1 C call pin N nod drawn o flq tr df hp n tc K .no
  | next {flq' : List (Nat × List Nat)} {tr' : T AV} {df' : List ADef} {hp' : T AB} {n' : Nat} {tc' : List Nat} : WT N tr' → WH n' hp' →
      (∀ fl, (drawn = true → flq = fl) → ∃ ft, ev1 C call pin nod drawn fl o (St.mk (listT N tr) df (listH n hp) tc) = some (.next ft (St.mk (listT N tr') df' (listH n' hp') tc')) ∧ (drawn = true → flq' = addFl o.ix ft fl)) →
      SR1 C call pin N nod drawn o flq tr df hp n tc K (K flq' tr' df' hp' n' tc')
  | pan {v : AV} {tr' : T AV} {df' : List ADef} {hp' : T AB} {n' : Nat} {tc' : List Nat} : WT N tr' → WH n' hp' →
      (∀ fl, (drawn = true → flq = fl) → ev1 C call pin nod drawn fl o (St.mk (listT N tr) df (listH n hp) tc) = some (.pan v (St.mk (listT N tr') df' (listH n' hp') tc'))) →
      SR1 C call pin N nod drawn o flq tr df hp n tc K (.pan v tr' df' hp' n' tc')

variable {pin n : Nat} {nod drawn : Bool} {o : AOp} {fl : List (Nat × List Nat)} {tr : T AV} {df : List ADef} {hp : T AB} {tc : List Nat} {K : OK}

theorem okOp_spec (h : okOp N o = true) : (∀ d, o.dst = some d → d < N) ∧ (∀ t, t ∈ o.op.tmps → t < N) ∧ ∀ t w, o.guard = some (t, w) → t < N := by
  unfold okOp at h
  rw [List.all_eq_true] at h
  have h' : ∀ t, t ∈ o.names → t < N := fun t ht => Nat.le_of_ble_eq_true (h t ht)
  refine ⟨fun d hd => h' d (by simp [AOp.names, hd]), fun t ht => h' t (by simp [AOp.names, ht]), fun t w hg => h' t (by simp [AOp.names, hg])⟩

theorem ev1_nd {st : St} (hg : wantG (Ev.val C st.tm) o.guard = some true) (hnd : ∀ f args, o.op ≠ .defer f args) : ev1 C call pin nod drawn fl o st =
    (bif spineK o.op then (match spine call (Ev.val C st.tm) st.hp o.op with
        | some (.ret v, hp, tc) => bif !drawn || fl.all (fun p => o.deps.testBit p.1 || apart p.2 tc) then
            some (.next none { st with hp := hp, tm := putT st.tm o.dst v, tc := tc.filter (· < pin) ++ st.tc }) else none
        | some (.pan v, hp, tc) => bif !drawn || fl.all (fun p => o.deps.testBit p.1 || apart p.2 tc) then
            some (.pan v { st with hp := hp, tc := tc.filter (· < pin) ++ st.tc }) else none
        | none => none)
      else (match float (Ev.val C st.tm) st.hp o.op with
        | some (v, hp, ft) => some (.next (some ft) { st with hp := hp, tm := putT st.tm o.dst v })
        | none => none)) := by
  unfold ev1
  rw [hg]
  generalize o.op = k at hnd ⊢
  cases k <;> first | rfl | exact absurd rfl (hnd _ _)

theorem goF_ok {f : FO} (hf : FOk C N f o.op) (hs : spineK o.op = false) (hnd : ∀ f args, o.op ≠ .defer f args) (hok : okOp N o = true) (hg : wantG (Ev.val C (listT N tr)) o.guard = some true) (ht : WT N tr) (hh : WH n hp) :
    SR1 C call pin N nod drawn o fl tr df hp n tc K (goF f call' pin N nod drawn o fl tr df hp n tc K) := by
  obtain ⟨k1, k2, _⟩ := okOp_spec hok
  unfold goF
  rcases hf tr hp n (fun v hp n ft => putT' tr o.dst v fun tr => Bool.rec (K fl tr df hp n tc) (K ((o.ix, ft) :: fl) tr df hp n tc) drawn) ht hh k2 with h | ⟨v, hp', n', ft, h1, h2, h3⟩
  · rw [h]; exact .no
  · rw [h1]
    obtain ⟨tr', p1, p2, p3⟩ := putT'_spec ht k1 v
    rw [p1]
    have hev : ∀ fl, ev1 C call pin nod drawn fl o (St.mk (listT N tr) df (listH n hp) tc) = some (.next (some ft) (St.mk (listT N tr') df (listH n' hp') tc)) := fun fl => by
      rw [ev1_nd hg hnd]
      simp only [hs, cond_false, h3, p3]
    cases hd : drawn with
    | false =>
      subst hd
      exact .next p2 h2 fun fl' _ => ⟨some ft, hev fl', fun h => by cases h⟩
    | true =>
      subst hd
      exact .next p2 h2 fun fl' he => ⟨some ft, hev fl', fun _ => by rw [he rfl]; rfl⟩

theorem goS_ok {f : SO} (hf : SOk C N call' call f o.op) (hs : spineK o.op = true) (hnd : ∀ f args, o.op ≠ .defer f args) (hok : okOp N o = true) (hg : wantG (Ev.val C (listT N tr)) o.guard = some true) (ht : WT N tr) (hh : WH n hp) :
    SR1 C call pin N nod drawn o fl tr df hp n tc K (goS f call' pin N nod drawn o fl tr df hp n tc K) := by
  obtain ⟨k1, k2, _⟩ := okOp_spec hok
  unfold goS
  have hcond : ∀ t, (Bool.rec true (flOk fl o.deps t) drawn : Bool) = true → ∀ fl', (drawn = true → fl = fl') → (!drawn || fl'.all fun p => o.deps.testBit p.1 || apart p.2 t) = true := fun t h fl' he => by
    cases hd : drawn with
    | false => rfl
    | true =>
      rw [hd] at h
      have := flOk_ok (h : flOk fl o.deps t = true)
      rw [← he hd, this]; rfl
  rcases hf tr hp n (fun v hp n t => Bool.rec .no (filterN pin t tc fun tc => putT' tr o.dst v fun tr => K fl tr df hp n tc) (Bool.rec true (flOk fl o.deps t) drawn)) (fun v hp n t => Bool.rec .no (filterN pin t tc fun tc => .pan v tr df hp n tc) (Bool.rec true (flOk fl o.deps t) drawn)) ht hh k2 with h | ⟨v, hp', n', t, h1, h2, h3⟩ | ⟨v, hp', n', t, h1, h2, h3⟩
  · rw [h]; exact .no
  · rw [h1, boolRec_if]
    split
    · rename_i hc
      rw [filterN_eq]
      obtain ⟨tr', p1, p2, p3⟩ := putT'_spec ht k1 v
      rw [p1]
      refine .next p2 h2 fun fl' he => ⟨none, ?_, fun hd => (he hd).trans rfl⟩
      rw [ev1_nd hg hnd]
      simp only [hs, cond_true, h3, hcond t hc fl' he, p3]
    · exact .no
  · rw [h1, boolRec_if]
    split
    · rename_i hc
      rw [filterN_eq]
      refine .pan ht h2 fun fl' he => ?_
      rw [ev1_nd hg hnd]
      simp only [hs, cond_true, h3, hcond t hc fl' he]
    · exact .no

theorem goD_ok {f : Opnd} {args : List Opnd} (ho : o.op = .defer f args) (hok : okOp N o = true) (hg : wantG (Ev.val C (listT N tr)) o.guard = some true) (ht : WT N tr) (hh : WH n hp) :
    SR1 C call pin N nod drawn o fl tr df hp n tc K (goD f args call' pin N nod drawn o fl tr df hp n tc K) := by
  obtain ⟨k1, k2, _⟩ := okOp_spec hok
  rw [ho] at k2
  simp only [AK.tmps] at k2
  have o1 : okO N f = true := okO_of fun t ht => k2 t (List.mem_append_left _ ht)
  have o2 : ∀ x, x ∈ args → okO N x = true := fun x hx => okO_of fun t ht => k2 t (List.mem_append_right _ (tmpsL_mem hx ht))
  unfold goD
  cases drawn with
  | true => exact .no
  | false =>
    cases nod with
    | true => exact .no
    | false =>
      simp only
      refine (valK_eq (C := C) o1 (tr := tr) _).elim (fun h => by rw [h]; exact .no) fun h => ?_
      rw [h, asFn_eq]
      split
      · rename_i f' first captured hv
        rw [fnK_eq]
        split
        · rename_i f''
          cases first with
          | cons a l => exact .no
          | nil =>
            simp only
            refine (argsK_eq (C := C) (tr := tr) _ o2).elim (fun h => by rw [h]; exact .no) fun h => ?_
            rw [h, catL_eq]
            obtain ⟨tr', p1, p2, p3⟩ := putT'_spec ht k1 .unk
            rw [p1]
            refine .next p2 hh fun fl' _ => ⟨none, ?_, fun hd => by cases hd⟩
            unfold ev1
            simp only [hg, ho, hv, Bool.or_self, cond_false, p3]
        · exact .no
      · exact .no
      · exact .no

theorem opT_ok (hC : ∀ g, C.glob g = none) (hcall : CQ call' call) (hok : okOp N o = true) (hg : wantG (Ev.val C (listT N tr)) o.guard = some true) (ht : WT N tr) (hh : WH n hp) :
    SR1 C call pin N nod drawn o fl tr df hp n tc K (opT o.op call' pin N nod drawn o fl tr df hp n tc K) := by
  cases ho : o.op
  case mov x => exact goF_ok (call' := call') (call := call) (by rw [ho]; exact oMov_ok x) (by rw [ho]; rfl) (by rw [ho]; intro f a h; cases h) hok hg ht hh
  case pick a b c => exact goF_ok (call' := call') (call := call) (by rw [ho]; exact oPick_ok a b c) (by rw [ho]; rfl) (by rw [ho]; intro f a h; cases h) hok hg ht hh
  case alloc z => exact goF_ok (call' := call') (call := call) (by rw [ho]; exact oAlloc_ok z) (by rw [ho]; rfl) (by rw [ho]; intro f a h; cases h) hok hg ht hh
  case box x => exact goF_ok (call' := call') (call := call) (by rw [ho]; exact oBox_ok x) (by rw [ho]; rfl) (by rw [ho]; intro f a h; cases h) hok hg ht hh
  case build z p => exact goF_ok (call' := call') (call := call) (by rw [ho]; exact oBuild_ok z p) (by rw [ho]; rfl) (by rw [ho]; intro f a h; cases h) hok hg ht hh
  case buildSl k l z p => exact goF_ok (call' := call') (call := call) (by rw [ho]; exact oSlowN_ok hC) (by rw [ho]; rfl) (by rw [ho]; intro f a h; cases h) hok hg ht hh
  case load k a => exact goF_ok (call' := call') (call := call) (by rw [ho]; exact oLoad_ok hC k a) (by rw [ho]; rfl) (by rw [ho]; intro f a h; cases h) hok hg ht hh
  case store k a x => exact goS_ok (call' := call') (call := call) (by rw [ho]; exact oStore_ok k a x) (by rw [ho]; rfl) (by rw [ho]; intro f a h; cases h) hok hg ht hh
  case nilck x => exact goF_ok (call' := call') (call := call) (by rw [ho]; exact oNilck_ok hC x) (by rw [ho]; rfl) (by rw [ho]; intro f a h; cases h) hok hg ht hh
  case nilckM m t x => exact goF_ok (call' := call') (call := call) (by rw [ho]; exact oSlowV_ok hC fun _ => rfl) (by rw [ho]; rfl) (by rw [ho]; intro f a h; cases h) hok hg ht hh
  case bin op x y => exact goF_ok (call' := call') (call := call) (by rw [ho]; exact oBin_ok op x y) (by rw [ho]; rfl) (by rw [ho]; intro f a h; cases h) hok hg ht hh
  case eq e n x y => exact goF_ok (call' := call') (call := call) (by rw [ho]; exact oEq_ok e n x y) (by rw [ho]; rfl) (by rw [ho]; intro f a h; cases h) hok hg ht hh
  case not x => exact goF_ok (call' := call') (call := call) (by rw [ho]; exact oNot_ok x) (by rw [ho]; rfl) (by rw [ho]; intro f a h; cases h) hok hg ht hh
  case neg x => exact goF_ok (call' := call') (call := call) (by rw [ho]; exact oSlowV_ok hC fun _ => rfl) (by rw [ho]; rfl) (by rw [ho]; intro f a h; cases h) hok hg ht hh
  case conv k x => exact goF_ok (call' := call') (call := call) (by rw [ho]; exact oConv_ok k x) (by rw [ho]; rfl) (by rw [ho]; intro f a h; cases h) hok hg ht hh
  case iface t x => exact goF_ok (call' := call') (call := call) (by rw [ho]; exact oIface_ok t x) (by rw [ho]; rfl) (by rw [ho]; intro f a h; cases h) hok hg ht hh
  case mkfn f a b => exact goF_ok (call' := call') (call := call) (by rw [ho]; exact oSlowV_ok hC fun _ => rfl) (by rw [ho]; rfl) (by rw [ho]; intro f a h; cases h) hok hg ht hh
  case mkmap => exact goF_ok (call' := call') (call := call) (by rw [ho]; exact oSlowN_ok hC) (by rw [ho]; rfl) (by rw [ho]; intro f a h; cases h) hok hg ht hh
  case mksl k z l c => exact goF_ok (call' := call') (call := call) (by rw [ho]; exact oSlowN_ok hC) (by rw [ho]; rfl) (by rw [ho]; intro f a h; cases h) hok hg ht hh
  case slice k x l h => exact goF_ok (call' := call') (call := call) (by rw [ho]; exact oSlowV_ok hC fun _ => rfl) (by rw [ho]; rfl) (by rw [ho]; intro f a h; cases h) hok hg ht hh
  case fieldA k x => exact goF_ok (call' := call') (call := call) (by rw [ho]; exact oFieldA_ok hC k x) (by rw [ho]; rfl) (by rw [ho]; intro f a h; cases h) hok hg ht hh
  case fieldV a k x => exact goF_ok (call' := call') (call := call) (by rw [ho]; exact oFieldV_ok a k x) (by rw [ho]; rfl) (by rw [ho]; intro f a h; cases h) hok hg ht hh
  case indexA a k x i => exact goF_ok (call' := call') (call := call) (by rw [ho]; exact oIndexA_ok hC a k x i) (by rw [ho]; rfl) (by rw [ho]; intro f a h; cases h) hok hg ht hh
  case indexV => exact goF_ok (call' := call') (call := call) (by rw [ho]; exact oSlowV_ok hC fun _ => rfl) (by rw [ho]; rfl) (by rw [ho]; intro f a h; cases h) hok hg ht hh
  case lookup => exact goF_ok (call' := call') (call := call) (by rw [ho]; exact oSlowV_ok hC fun _ => rfl) (by rw [ho]; rfl) (by rw [ho]; intro f a h; cases h) hok hg ht hh
  case mapupd => exact goS_ok (call' := call') (call := call) (by rw [ho]; exact oEff_ok hC fun _ _ => rfl) (by rw [ho]; rfl) (by rw [ho]; intro f a h; cases h) hok hg ht hh
  case tassert => exact goF_ok (call' := call') (call := call) (by rw [ho]; exact oSlowV_ok hC fun _ => rfl) (by rw [ho]; rfl) (by rw [ho]; intro f a h; cases h) hok hg ht hh
  case extract x i => exact goF_ok (call' := call') (call := call) (by rw [ho]; exact oExtract_ok x i) (by rw [ho]; rfl) (by rw [ho]; intro f a h; cases h) hok hg ht hh
  case len x => exact goF_ok (call' := call') (call := call) (by rw [ho]; exact oLen_ok hC x) (by rw [ho]; rfl) (by rw [ho]; intro f a h; cases h) hok hg ht hh
  case append => exact goS_ok (call' := call') (call := call) (by rw [ho]; exact oEff_ok hC fun _ _ => rfl) (by rw [ho]; rfl) (by rw [ho]; intro f a h; cases h) hok hg ht hh
  case copy => exact goS_ok (call' := call') (call := call) (by rw [ho]; exact oEff_ok hC fun _ _ => rfl) (by rw [ho]; rfl) (by rw [ho]; intro f a h; cases h) hok hg ht hh
  case max => exact goF_ok (call' := call') (call := call) (by rw [ho]; exact oSlowV_ok hC fun _ => rfl) (by rw [ho]; rfl) (by rw [ho]; intro f a h; cases h) hok hg ht hh
  case min => exact goF_ok (call' := call') (call := call) (by rw [ho]; exact oSlowV_ok hC fun _ => rfl) (by rw [ho]; rfl) (by rw [ho]; intro f a h; cases h) hok hg ht hh
  case call f l => exact goS_ok (call' := call') (call := call) (by rw [ho]; exact oCall_ok hcall f l) (by rw [ho]; rfl) (by rw [ho]; intro f a h; cases h) hok hg ht hh
  case invoke x t l => exact goS_ok (call' := call') (call := call) (by rw [ho]; exact oInvoke_ok hcall x t l) (by rw [ho]; rfl) (by rw [ho]; intro f a h; cases h) hok hg ht hh
  case defer f l => exact goD_ok (call' := call') ho hok hg ht hh
  case isnil => exact goF_ok (call' := call') (call := call) (by rw [ho]; exact oSlowV_ok hC fun _ => rfl) (by rw [ho]; rfl) (by rw [ho]; intro f a h; cases h) hok hg ht hh
  case sliceA => exact goF_ok (call' := call') (call := call) (by rw [ho]; exact oSlowV_ok hC fun _ => rfl) (by rw [ho]; rfl) (by rw [ho]; intro f a h; cases h) hok hg ht hh
  case panic x => exact goS_ok (call' := call') (call := call) (by rw [ho]; exact oPanic_ok x) (by rw [ho]; rfl) (by rw [ho]; intro f a h; cases h) hok hg ht hh

theorem opG_ok (hC : ∀ g, C.glob g = none) (hcall : CQ call' call) (hok : okOp N o = true) (ht : WT N tr) (hh : WH n hp) :
    SR1 C call pin N nod drawn o fl tr df hp n tc K (opG call' pin N nod drawn o fl tr df hp n tc K) := by
  obtain ⟨k1, k2, k3⟩ := okOp_spec hok
  cases hgd : o.guard with
  | none =>
    have e : opG call' pin N nod drawn o fl tr df hp n tc K = opT o.op call' pin N nod drawn o fl tr df hp n tc K := by unfold opG; rw [hgd]; rfl
    rw [e]
    exact opT_ok hC hcall hok (by rw [hgd]; rfl) ht hh
  | some g =>
    obtain ⟨t, want⟩ := g
    have e : opG call' pin N nod drawn o fl tr df hp n tc K = getK tr t .no fun v => asBool v fun b => Bool.rec (putT' tr o.dst .unk fun tr => K fl tr df hp n tc) (opT o.op call' pin N nod drawn o fl tr df hp n tc K) (Bool.rec (notB b) b want) := by unfold opG; rw [hgd]; rfl
    rw [e, getK_eq]
    cases hat : at? tr t with
    | none => exact .no
    | some x =>
      simp only
      rw [asBool_eq]
      have hv : Ev.val C (listT N tr) (.tmp t) = x := by simp only [Ev.val]; rw [listT_getD tr (k3 t want hgd), hat]; rfl
      split
      · rename_i b
        have hw : wantG (Ev.val C (listT N tr)) o.guard = some (b == want) := by rw [hgd]; simp only [wantG, hv]
        have hb : (Bool.rec (notB b) b want : Bool) = (b == want) := by cases want <;> cases b <;> rfl
        rw [hb, boolRec_if]
        split
        · rename_i hbw
          exact opT_ok hC hcall hok (by rw [hw, hbw]) ht hh
        · rename_i hbw
          obtain ⟨tr', p1, p2, p3⟩ := putT'_spec ht k1 .unk
          rw [p1]
          refine .next p2 hh fun fl' he => ⟨none, ?_, fun hd => (he hd).trans rfl⟩
          unfold ev1
          simp only [hw, show (b == want) = false by simpa using hbw, p3]
      · exact .no

/-- What code comes to. -/
inductive ER (N : Nat) : R → Option (AExit × St) → Prop
  | no {o : Option (AExit × St)} : ER N .no o
  | norm {tr : T AV} {df : List ADef} {hp : T AB} {n : Nat} {tc : List Nat} : WT N tr → WH n hp → ER N (.norm tr df hp n tc) (some (.normal, St.mk (listT N tr) df (listH n hp) tc))
  | exit {i : Nat} {tr : T AV} {df : List ADef} {hp : T AB} {n : Nat} {tc : List Nat} : WT N tr → WH n hp → ER N (.exit i tr df hp n tc) (some (.exit i, St.mk (listT N tr) df (listH n hp) tc))
  | ret {tr : T AV} {df : List ADef} {hp : T AB} {n : Nat} {tc : List Nat} : WT N tr → WH n hp → ER N (.ret tr df hp n tc) (some (.ret, St.mk (listT N tr) df (listH n hp) tc))
  | pan {v : AV} {tr : T AV} {df : List ADef} {hp : T AB} {n : Nat} {tc : List Nat} : WT N tr → WH n hp → ER N (.pan v tr df hp n tc) (some (.panic v, St.mk (listT N tr) df (listH n hp) tc))

def opsO : Option AV × St → AExit × St
  | (none, st) => (.normal, st)
  | (some v, st) => (.panic v, st)

theorem opsQ_ok (hC : ∀ g, C.glob g = none) (hcall : CQ call' call) : ∀ {l : List AOp} {flq fl : List (Nat × List Nat)} {tr : T AV} {df : List ADef} {hp : T AB} {n : Nat} {tc : List Nat}, l.all (okOp N) = true → (drawn = true → flq = fl) → WT N tr → WH n hp →
    ER N (opsQ call' pin N nod drawn l flq tr df hp n tc) ((evOps C call pin nod drawn l fl (St.mk (listT N tr) df (listH n hp) tc)).map opsO)
  | [], flq, fl, tr, df, hp, n, tc, _, _, ht, hh => .norm ht hh
  | o :: l, flq, fl, tr, df, hp, n, tc, hok, hf, ht, hh => by
    rw [List.all_cons, Bool.and_eq_true] at hok
    have e : opsQ call' pin N nod drawn (o :: l) flq tr df hp n tc = opG call' pin N nod drawn o flq tr df hp n tc (opsQ call' pin N nod drawn l) := rfl
    rw [e]
    have h1 := opG_ok (call' := call') (pin := pin) (nod := nod) (drawn := drawn) (fl := flq) (df := df) (tc := tc) (K := opsQ call' pin N nod drawn l) hC hcall hok.1 ht hh
    generalize opG call' pin N nod drawn o flq tr df hp n tc (opsQ call' pin N nod drawn l) = r at h1
    cases h1 with
    | no => exact .no
    | next w1 w2 w3 =>
      obtain ⟨ft, e1, e2⟩ := w3 fl hf
      simp only [evOps, e1]
      exact opsQ_ok hC hcall hok.2 e2 w1 w2
    | pan w1 w2 w3 =>
      simp only [evOps, w3 fl hf]
      exact .pan w1 w2
end
end Q
end Ev
end Go.Proofs.YtcaejedfjobooaaGreat
