/- Calls that see a part of the heap, told by a table: what was found of them once is so wherever the part lies. -/
import Derived.Test.YtcaejedfjobooaaGreatEvTab
namespace Go.Proofs.YtcaejedfjobooaaGreat
open Go Go.RowKit
namespace Ev

section
variable {σ : Nat → Option Nat}
mutual
theorem refs_ren (hσ : ∀ i, ∃ j, σ i = some j) : ∀ v : AV, refs (ren σ v) = [] → refs v = []
  | .ptr b o, h => by obtain ⟨j, hj⟩ := hσ b; simp [ren, hj, refs] at h
  | .sl b o n k, h => by obtain ⟨j, hj⟩ := hσ b; simp [ren, hj, refs] at h
  | .map b, h => by obtain ⟨j, hj⟩ := hσ b; simp [ren, hj, refs] at h
  | .yield b, h => by obtain ⟨j, hj⟩ := hσ b; simp [ren, hj, refs] at h
  | .fn f a c, h => by
    simp only [ren, refs, List.append_eq_nil_iff] at h ⊢
    exact ⟨refsL_ren hσ a h.1, refsL_ren hσ c h.2⟩
  | .iface t v, h => by simp only [ren, refs] at h ⊢; exact refs_ren hσ v h
  | .agg l, h => by simp only [ren, refs] at h ⊢; exact refsL_ren hσ l h
  | .tup l, h => by simp only [ren, refs] at h ⊢; exact refsL_ren hσ l h
  | .unk, _ | .bool _, _ | .int _ _, _ | .nilp, _ | .rp _, _ | .nils, _ | .vs _ _, _ | .nilmap, _ | .nilfn, _ | .nilif, _ => by simp [refs]
theorem refsL_ren (hσ : ∀ i, ∃ j, σ i = some j) : ∀ l : List AV, refsL (renL σ l) = [] → refsL l = []
  | [], _ => by simp [refsL]
  | v :: l, h => by
    simp only [renL, refsL, List.append_eq_nil_iff] at h ⊢
    exact ⟨refs_ren hσ v h.1, refsL_ren hσ l h.2⟩
end
mutual
theorem ren_bare : ∀ v : AV, refs v = [] → ren σ v = v
  | .ptr b o, h => by simp [refs] at h
  | .sl b o n k, h => by simp [refs] at h
  | .map b, h => by simp [refs] at h
  | .yield b, h => by simp [refs] at h
  | .fn f a c, h => by
    simp only [refs, List.append_eq_nil_iff] at h
    simp only [ren, renL_bare a h.1, renL_bare c h.2]
  | .iface t v, h => by simp only [refs] at h; simp only [ren, ren_bare v h]
  | .agg l, h => by simp only [refs] at h; simp only [ren, renL_bare l h]
  | .tup l, h => by simp only [refs] at h; simp only [ren, renL_bare l h]
  | .unk, _ | .bool _, _ | .int _ _, _ | .nilp, _ | .rp _, _ | .nils, _ | .vs _ _, _ | .nilmap, _ | .nilfn, _ | .nilif, _ => by simp [ren]
theorem renL_bare : ∀ l : List AV, refsL l = [] → renL σ l = l
  | [], _ => by simp [renL]
  | v :: l, h => by
    simp only [refsL, List.append_eq_nil_iff] at h
    simp only [renL, ren_bare v h.1, renL_bare l h.2]
end
end

/-- A call of one function: its arguments, the part of the heap that it sees, its answer. -/
structure PRow where
  args : List AV
  H : List AB
  v : AV
/-- What a row's call comes to; the blocks are numbered as a part's are. -/
structure PRowOk (C : Cfg) (call : CallF) (f : Nat) (r : PRow) : Prop where
  call : enter C call f r.args r.H = some (.ret r.v, r.H, [])
  bare : refs r.v = []
  part : reach r.H fuelR (refsL r.args) [] = List.range r.H.length
  args : renL (place (List.range r.H.length)) r.args = r.args
  heap : restrict r.H (List.range r.H.length) = r.H

theorem backN_some (N : Nat) (r : List Nat) (i : Nat) : ∃ j, backN N r i = some j := by
  unfold backN
  split <;> exact ⟨_, rfl⟩

theorem part_lift {C : Cfg} {call : CallF} {f : Nat} {fn : AFunc} (hx : C.ext f = none) (hxh : C.exth f = none) (hf : C.fns f = some fn) (hw : C.whole f = false) {r : PRow} (hr : PRowOk C call f r) {args : List AV} {H : List AB}
    (h1 : renL (place (reach H fuelR (refsL args) [])) args = r.args) (h2 : restrict H (reach H fuelR (refsL args) []) = r.H) : enter C call f args H = some (.ret r.v, H, []) := by
  obtain ⟨hc, hb, p1, p2, p3⟩ := hr
  unfold enter at hc ⊢
  rw [hx, hxh, hf, hw] at hc ⊢
  simp only [cond_false] at hc ⊢
  rw [p1, p2, p3] at hc
  generalize hrr : reach H fuelR (refsL args) [] = rr at h1 h2 ⊢
  have hal : args.length = r.args.length := by rw [← h1, renL_eq, List.length_map]
  rw [h1, h2, hal]
  have hlen : rr.length = r.H.length := by rw [← h2]; simp [restrict]
  rw [List.length_range] at hc
  rw [hlen]
  split at hc
  case h_2 => cases hc
  rename_i e st hev
  try rw [hev]
  try simp only
  split at hc
  case h_2 => cases hc
  rename_i x st' hfin
  try rw [hfin]
  try simp only
  cases htd : tidy r.H.length x st'.hp with
  | mk x2 hp2 =>
  rw [htd] at hc
  simp only [Option.some.injEq, Prod.mk.injEq] at hc
  obtain ⟨c1, c2, c3⟩ := hc
  have htc : st'.tc = [] := List.map_eq_nil_iff.1 c3
  rw [htc] at c2 ⊢
  simp only [backH, List.map_nil] at c2 ⊢
  have hd : hp2.drop r.H.length = [] := by
    have := congrArg List.length c2
    simp only [List.length_append, List.length_map] at this
    exact List.eq_nil_of_length_eq_zero (by omega)
  rw [hd]
  cases x2 with
  | pan v2 => cases c1
  | ret v2 =>
    simp only [CRes.map, CRes.ret.injEq] at c1 ⊢
    have hv2 : refs v2 = [] := refs_ren (backN_some _ _) v2 (by rw [c1]; exact hb)
    rw [ren_bare v2 hv2] at c1 ⊢
    subst c1
    simp

noncomputable def findP : List PRow → List AV → List AB → Option AV
  | [], _, _ => none
  | r :: l, args, H => bif Q.eqL r.args args && eqHs r.H H then some r.v else findP l args H
where
  eqHs : List AB → List AB → Bool
    | [], [] => true
    | x :: l, y :: m => Q.eqB x y && eqHs l m
    | _, _ => false
theorem eqHs_of : ∀ {x y : List AB}, findP.eqHs x y = true → x = y
  | [], [], _ => rfl
  | _ :: _, _ :: _, h => by simp only [findP.eqHs, Bool.and_eq_true] at h; rw [Q.eqB_of h.1, eqHs_of h.2]
theorem findP_mem : ∀ {l : List PRow} {args : List AV} {H : List AB} {v : AV}, findP l args H = some v → ∃ r, r ∈ l ∧ r.args = args ∧ r.H = H ∧ r.v = v
  | w :: l, args, H, v, h => by
    simp only [findP] at h
    cases hk : (Q.eqL w.args args && findP.eqHs w.H H) with
    | false =>
      rw [hk] at h
      obtain ⟨r, h1, h2⟩ := findP_mem h
      exact ⟨r, List.mem_cons_of_mem _ h1, h2⟩
    | true =>
      rw [hk] at h; cases h
      rw [Bool.and_eq_true] at hk
      exact ⟨w, List.mem_cons_self .., Q.eqL_of hk.1, eqHs_of hk.2, rfl⟩
/-- What a table tells. -/
noncomputable def toldP (tab : List PRow) (args : List AV) (H : List AB) : Option AV :=
  findP tab (renL (place (reach H fuelR (refsL args) [])) args) (restrict H (reach H fuelR (refsL args) []))

/-- The same, the rows in groups by a number that is quickly found. -/
noncomputable def findK : List (Nat × List PRow) → Nat → List AV → List AB → Option AV
  | [], _, _, _ => none
  | (k, rows) :: t, n, args, H => Bool.rec (findK t n args H) (findP rows args H) (Nat.beq k n)
theorem findK_mem : ∀ {t : List (Nat × List PRow)} {n : Nat} {args : List AV} {H : List AB} {v : AV}, findK t n args H = some v → ∃ r, r ∈ t.flatMap (·.2) ∧ r.args = args ∧ r.H = H ∧ r.v = v
  | (k, rows) :: t, n, args, H, v, h => by
    simp only [findK] at h
    cases hk : Nat.beq k n with
    | false =>
      rw [hk] at h
      obtain ⟨r, h1, h2⟩ := findK_mem (t := t) h
      exact ⟨r, by rw [List.flatMap_cons]; exact List.mem_append_right _ h1, h2⟩
    | true =>
      rw [hk] at h
      obtain ⟨r, h1, h2⟩ := findP_mem h
      exact ⟨r, by rw [List.flatMap_cons]; exact List.mem_append_left _ h1, h2⟩
noncomputable def toldK (key : List AV → Nat) (tab : List (Nat × List PRow)) (args : List AV) (H : List AB) : Option AV :=
  findK tab (key args) (renL (place (reach H fuelR (refsL args) [])) args) (restrict H (reach H fuelR (refsL args) []))

/-- Values that are the same in every world. -/
def flatV : AV → Bool
  | .bool _ | .int _ _ => true
  | .tup l => l.all fun | .bool _ | .int _ _ => true | _ => false
  | _ => false
theorem flatV_ok {W W' : World} {L L' : Nat → Prop} {μ μ' : Mu} {v : AV} {x : Value} (hf : flatV v = true) (h : VR W L μ v x) : VR W' L' μ' v x := by
  cases v <;> simp only [flatV, Bool.false_eq_true] at hf
  · rw [vr_bool h]; exact .bool
  · rw [vr_int h]; exact .int
  · rename_i l
    obtain ⟨rs, rfl, h2⟩ := vr_tup h
    refine tup_ok ⟨h2.1, fun i y r hy hr => ?_⟩
    have hv := h2.2 i y r hy hr
    rw [List.all_eq_true] at hf
    have := hf y (List.mem_of_getElem? hy)
    cases y <;> simp only [Bool.false_eq_true] at this
    · rw [vr_bool hv]; exact .bool
    · rw [vr_int hv]; exact .int

theorem flatV_refs {v : AV} (hf : flatV v = true) : refs v = [] := by
  cases v <;> simp only [flatV, Bool.false_eq_true] at hf <;> try simp [refs]
  rename_i l
  rw [List.all_eq_true] at hf
  induction l with
  | nil => simp [refsL]
  | cons y l ih =>
    have := hf y (List.mem_cons_self ..)
    simp only [refsL, List.append_eq_nil_iff]
    exact ⟨by cases y <;> simp only [Bool.false_eq_true] at this <;> simp [refs], ih fun z hz => hf z (List.mem_cons_of_mem _ hz)⟩

/-- A call that is found is what the program does, where nothing is turned. -/
theorem sound_still {P : Program} {C : Cfg} (hT : TblOk P C) {m f : Nat} {v : AV} {args : List AV} {H : List AB} (h : enter C (Ev.call C m) f args H = some (.ret v, H, [])) (hf : flatV v = true)
    {rargs : Array Value} {W : World} {L : Nat → Prop} {μ : Mu} (hv : VL W L μ args rargs.toList) (hs : Sim P W L μ H) (hG : Globs C W L) :
    CallsIn Fence.wide 0 P f rargs W fun e W' => (∃ w, e = .returned w ∧ VR W' L nomu v w) ∧ Below W.heap.size W W' := by
  have h' : Ev.call C (m + 1) (.fn (.func f) [] []) args H = some (.ret v, H, []) := by
    simp only [Ev.call, List.nil_append, List.append_nil]; exact h
  have hok := call_ok hT (m + 1)
  obtain ⟨r, W1, h1, h2⟩ := hok.sound (tc0 := []) h' (Hp.start (P := P) hs) hG (rf := .func (.func f) #[] #[]) (rargs := rargs) (.fn (rf := []) (rc := []) (by intro l; simp) rfl (by intro i x r h; simp at h) rfl (by intro i x r h; simp at h)) hv
  have e : (do let d ← Deferred.ofValue (.func (.func f) #[] #[]) rargs; invoke d.target d.args : Sem Next).run P W = .ok (.enter f rargs) W := by
    simp only [Deferred.ofValue, Sem.run_bind, Sem.run_pure, Result.andThen, invoke, Array.empty_append, Array.append_empty]
    exact hok.fn h' _ _
  rw [e] at h1
  cases h1
  refine CallsIn.mono h2 ?_
  rintro en W' ⟨L', μ', c1, c2, _⟩
  cases en <;> simp only [CRel] at c1
  refine ⟨⟨_, rfl, flatV_ok hf c1⟩, c2.env.1, c2.env.2.1, c2.env.2.2, c2.size, fun k hk => c2.same k hk fun i hi _ => ?_⟩
  simp at hi

/-- What a table tells is so. -/
theorem toldP_ok {P : Program} {C : Cfg} (hT : TblOk P C) {m f : Nat} {fn : AFunc} (hx : C.ext f = none) (hxh : C.exth f = none) (hf : C.fns f = some fn) (hw : C.whole f = false) {tab : List PRow} (htab : ∀ r ∈ tab, PRowOk C (Ev.call C m) f r ∧ flatV r.v = true)
    {args : List AV} {H : List AB} {v : AV} {rargs : Array Value} {W : World} {L : Nat → Prop} {μ : Mu} (h : toldP tab args H = some v) (hv : VL W L μ args rargs.toList) (hs : Sim P W L μ H) (hG : Globs C W L) :
    CallsIn Fence.wide 0 P f rargs W fun e W' => (∃ w, e = .returned w ∧ VR W' L nomu v w) ∧ Below W.heap.size W W' := by
  obtain ⟨r, h1, h2, h3, rfl⟩ := findP_mem h
  obtain ⟨h4, h5⟩ := htab r h1
  exact sound_still hT (part_lift hx hxh hf hw h4 h2.symm h3.symm) h5 hv hs hG

theorem toldK_ok {P : Program} {C : Cfg} (hT : TblOk P C) {m f : Nat} {fn : AFunc} (hx : C.ext f = none) (hxh : C.exth f = none) (hf : C.fns f = some fn) (hw : C.whole f = false) {key : List AV → Nat} {tab : List (Nat × List PRow)} (htab : ∀ r ∈ tab.flatMap (·.2), PRowOk C (Ev.call C m) f r ∧ flatV r.v = true)
    {args : List AV} {H : List AB} {v : AV} {rargs : Array Value} {W : World} {L : Nat → Prop} {μ : Mu} (h : toldK key tab args H = some v) (hv : VL W L μ args rargs.toList) (hs : Sim P W L μ H) (hG : Globs C W L) :
    CallsIn Fence.wide 0 P f rargs W fun e W' => (∃ w, e = .returned w ∧ VR W' L nomu v w) ∧ Below W.heap.size W W' := by
  obtain ⟨r, h1, h2, h3, rfl⟩ := findK_mem h
  obtain ⟨h4, h5⟩ := htab r h1
  exact sound_still hT (part_lift hx hxh hf hw h4 h2.symm h3.symm) h5 hv hs hG

namespace Q
/-- A row from the quick evaluator. -/
noncomputable def rowQ (C : Cfg) (m f : Nat) (r : PRow) : R := ofH r.H fun hp n => enterQ C (callQ C m) f r.args hp n
noncomputable def isRow? (r : PRow) (x : R) : Bool := R.rec false (fun _ _ _ _ _ => false) (fun _ _ _ _ _ _ => false) (fun _ _ _ _ _ => false) (fun _ _ _ _ _ _ => false)
  (fun v hp n tc => List.rec (eqV r.v v && findP.eqHs r.H (listH n hp)) (fun _ _ _ => false) tc) (fun _ _ _ _ => false) x
noncomputable def okRow (C : Cfg) (m f : Nat) (r : PRow) : Bool := isRow? r (rowQ C m f r)
noncomputable def wellRow (r : PRow) : Bool := flatV r.v && eqN (reach r.H fuelR (refsL r.args) []) (List.range r.H.length) && eqL (renL (place (List.range r.H.length)) r.args) r.args && findP.eqHs (restrict r.H (List.range r.H.length)) r.H
theorem row_ok {C : Cfg} (hQ : Quick C) {m f : Nat} {r : PRow} (h : okRow C m f r = true) (hw : wellRow r = true) : PRowOk C (Ev.call C m) f r ∧ flatV r.v = true := by
  unfold wellRow at hw
  simp only [Bool.and_eq_true] at hw
  obtain ⟨⟨⟨w1, w2⟩, w3⟩, w4⟩ := hw
  refine ⟨⟨?_, flatV_refs w1, eqNs_of w2, eqL_of w3, eqHs_of w4⟩, w1⟩
  unfold okRow rowQ at h
  rcases ofH_spec r.H (fun hp n => enterQ C (callQ C m) f r.args hp n) with e | ⟨hp, n, e, h1, h2⟩
  · rw [e] at h; cases h
  · rw [e] at h
    have := enterQ_ok hQ (callQ_ok hQ m) (f := f) (args := r.args) h1
    rw [h2] at this
    generalize enterQ C (callQ C m) f r.args hp n = x at h this
    generalize enter C (Ev.call C m) f r.args r.H = o at this
    cases this with
    | no => cases h
    | pan _ => cases h
    | @ret v hp' n' tc w =>
      cases tc with
      | cons _ _ => cases h
      | nil =>
        have h' : (eqV r.v v && findP.eqHs r.H (listH n' hp')) = true := h
        rw [Bool.and_eq_true] at h'
        rw [eqV_of h'.1, ← eqHs_of h'.2]
end Q
end Ev
end Go.Proofs.YtcaejedfjobooaaGreat
