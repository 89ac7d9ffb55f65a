/- Operations that only compute or look. Part 5: building, maps, assertions; all of them together. -/
import Derived.Test.YtcaejedfjobooaaGreatEvVal4
namespace Go.Proofs.YtcaejedfjobooaaGreat
open Go Go.RowKit
namespace Ev
section
variable {P : Program} {W : World} {L : Nat → Prop} {μ : Mu} {H : List AB} {C : Cfg} {tm : List AV} {a : Act}

theorem vr_plain {v : AV} {x : Value} (hp : v.plain = true) (h : VR W L μ v x) : x.oneCell' = true := by
  cases h <;> first | assumption | rfl | (simp [AV.plain] at hp)
theorem vl_plain {as : List AV} {rs : List Value} (hp : as.all AV.plain = true) (h : VL W L μ as rs) : ∀ u ∈ rs, u.oneCell' = true := by
  intro u hu
  obtain ⟨i, hi, rfl⟩ := List.getElem_of_mem hu
  have hi' : i < as.length := by rw [h.1]; exact hi
  exact vr_plain (List.all_eq_true.1 hp _ (List.getElem_mem hi')) (h.2 i as[i] _ (List.getElem?_eq_getElem hi') (List.getElem?_eq_getElem hi))
theorem cells_one {x : Value} (h : x.oneCell' = true) : x.cells = #[x] := by cases x <;> first | rfl | simp [Value.oneCell'] at h
theorem cellsOf_ok {v : AV} {x : Value} {l : List AV} (h : VR W L μ v x) (hc : cellsOf v = some l) : VL W L μ l x.cells.toList := by
  unfold cellsOf at hc
  split at hc
  · cases hc
  · cases hc
  · cases hc
    obtain ⟨rs, rfl, hv⟩ := vr_agg h
    simpa [Value.cells] using hv
  · rename_i n1 n2 n3
    cases hc
    have hp : v.plain = true := by cases v <;> first | rfl | exact absurd rfl n1 | exact absurd rfl (n2 _) | exact absurd rfl (n3 _)
    rw [cells_one (vr_plain hp h)]
    exact VL.cons h VL.nil

theorem VL.setAt {cs l : List AV} {rs xs : List Value} (h : VL W L μ cs rs) (hl : VL W L μ l xs) (off : Nat) : VL W L μ (setAt cs off l) (rs.take off ++ xs ++ rs.drop (off + xs.length)) := by
  unfold Ev.setAt
  rw [hl.1]
  exact ((h.take off).append hl).append (h.drop _)

theorem foldl_setL (off : Nat) : ∀ (vs : List Value) (k : Nat) (cs : Array Value), off + k + vs.length ≤ cs.size →
    ((vs.zipIdx k).foldl (fun cs (p : Value × Nat) => cs.setIfInBounds (off + p.2) p.1) cs).toList = cs.toList.take (off + k) ++ vs ++ cs.toList.drop (off + k + vs.length)
  | [], k, cs, h => by simp
  | v :: vs, k, cs, h => by
    simp only [List.length_cons] at h
    rw [List.zipIdx_cons, List.foldl_cons, foldl_setL off vs (k + 1) _ (by simp; omega)]
    have e := list_seg_step cs.toList (off + k) v vs (by simp; omega)
    simpa [Array.toList_setIfInBounds, Nat.add_assoc, Nat.add_comm 1] using e

/-- The parts of a literal, the evaluator's and the model's. -/
inductive PR (W : World) (L : Nat → Prop) (μ : Mu) (place : Nat → Option (Nat × Nat)) : List (Nat × Nat × AV) → List (Nat × Value) → Prop
  | nil : PR W L μ place [] []
  | cons {i off size : Nat} {x : AV} {v : Value} {ps : List (Nat × Nat × AV)} {qs : List (Nat × Value)} : place i = some (off, size) → VR W L μ x v → PR W L μ place ps qs → PR W L μ place ((off, size, x) :: ps) ((i, v) :: qs)

theorem fill_ok {place : Nat → Option (Nat × Nat)} {ps : List (Nat × Nat × AV)} {qs : List (Nat × Value)} (h : PR W L μ place ps qs) : ∀ {cs out : List AV} {rs : Array Value}, VL W L μ cs rs.toList → fillA cs ps = some out →
    ∃ rs', Instr.fill place rs qs = some rs' ∧ VL W L μ out rs'.toList := by
  induction h with
  | nil => intro cs out rs hv hf; cases hf; exact ⟨rs, rfl, hv⟩
  | @cons i off size x v ps qs hp hx _ ih =>
    intro cs out rs hv hf
    unfold fillA at hf
    split at hf
    · rename_i l hl
      split at hf
      · rename_i hc
        have hcv := cellsOf_ok hx hl
        have hsz : v.cells.size = l.length := by have := hcv.1; simpa using this.symm
        have hrs : rs.size = cs.length := by have := hv.1; simpa using this.symm
        have hfold : VL W L μ (Ev.setAt cs off l) ((v.cells.zipIdx.foldl (fun cs (p : Value × Nat) => cs.setIfInBounds (off + p.2) p.1) rs).toList) := by
          have e := foldl_setL off v.cells.toList 0 rs (by simp; omega)
          have := hv.setAt hcv off
          rw [← Array.foldl_toList, Array.toList_zipIdx, e]
          simpa using this
        obtain ⟨rs', h1, h2⟩ := ih hfold hf
        refine ⟨rs', ?_, h2⟩
        unfold Instr.fill
        rw [hp]
        simp only
        rw [if_neg (by simp; omega)]
        exact h1
      · cases hf
    · cases hf

theorem zeroT_ok {t : Nat} {z : List AV} (h : zeroT P t = some z) : ∃ i v, P.info? t = some i ∧ i.zero = some v ∧ VL W L μ z v.cells.toList := by
  unfold zeroT at h
  cases hi : P.info? t with
  | none => rw [hi] at h; cases h
  | some i =>
    rw [hi] at h
    simp only at h
    cases hz : i.zero with
    | none => rw [hz] at h; cases h
    | some v => rw [hz] at h; exact ⟨i, v, rfl, hz, cstL_ok h⟩
theorem zeroV_ok {t : Nat} {z : AV} (h : zeroV P t = some z) : ∃ v, (zeroValue t).run P W = .ok v W ∧ VR W L μ z v := by
  unfold zeroV at h
  cases hi : P.info? t with
  | none => rw [hi] at h; cases h
  | some i =>
    rw [hi] at h
    simp only at h
    split at h
    · rename_i cs hz
      cases hc : cstL cs.toList with
      | none => rw [hc] at h; cases h
      | some l => rw [hc] at h; cases h; exact ⟨_, by simp [zeroValue, typeInfo, hi, hz], agg_ok (cstL_ok hc)⟩
    · rename_i z' hz
      exact ⟨_, by simp [zeroValue, typeInfo, hi, hz], cstA_ok h⟩
    · cases h

theorem partsOf_ok (he : Env C W L μ tm a) {places : Nat → Option (Nat × Nat)} : ∀ {ps : List (Nat × Operand)} {qs : List (Nat × Nat × Opnd)}, partsOf places ps = some qs →
    PR W L μ places (qs.map fun p => (p.1, p.2.1, val C tm p.2.2)) (ps.map fun p => (p.1, a.eval p.2))
  | [], qs, h => by cases h; exact .nil
  | (i, x) :: l, qs, h => by
    unfold partsOf at h
    split at h
    · rename_i off size x' l' h1 h2 h3
      cases h
      exact .cons h1 (opnd_ok he h2) (partsOf_ok he h3)
    · cases h

theorem build_ok {t : Nat} {parts : Array (Nat × Operand)} {z : List AV} {ps : List (Nat × Nat × Opnd)} (he : Env C W L μ tm a) (hz : zeroT P t = some z)
    (hc : (∃ fs places, P.underlying t = some (.struct fs) ∧ fs.toList.mapM (fun f => (P.info? f.type).map fun i => (f.offset, i.size)) = some places ∧ partsOf (fun i => places[i]?) parts.toList = some ps) ∨
      (∃ n e s, P.underlying t = some (.array n e) ∧ sizeT P e = some s ∧ partsOf (fun i => some (i * s, s)) parts.toList = some ps))
    {v : AV} {ft : List Nat} (hx : xval H (val C tm) (.build z ps) = some (v, ft)) :
    ∃ w, (Instr.build t (parts.map fun (i, x) => (i, a.eval x))).run P W = .ok w W ∧ VR W L μ v w := by
  obtain ⟨i, zv, h1, h2, h3⟩ := zeroT_ok (W := W) (L := L) (μ := μ) hz
  simp only [xval] at hx
  cases hf : fillA z (ps.map fun p => (p.1, p.2.1, val C tm p.2.2)) with
  | none => rw [hf] at hx; cases hx
  | some cs =>
    rw [hf] at hx; cases hx
    have hmap : (parts.map fun (i, x) => (i, a.eval x)).toList = parts.toList.map fun p => (p.1, a.eval p.2) := by simp
    rcases hc with ⟨fs, places, g1, g2, g3⟩ | ⟨n, e, s, g1, g2, g3⟩
    · obtain ⟨rs, f1, f2⟩ := fill_ok (partsOf_ok he g3) h3 hf
      refine ⟨.agg rs, run_build W t _ rs ?_, agg_ok f2⟩
      simp only [Program.built, h1, g1, h2, g2, hmap]
      simpa using f1
    · obtain ⟨rs, f1, f2⟩ := fill_ok (partsOf_ok he g3) h3 hf
      refine ⟨.agg rs, run_build W t _ rs ?_, agg_ok f2⟩
      unfold sizeT at g2
      cases hi : P.info? e with
      | none => rw [hi] at g2; cases g2
      | some ie =>
        rw [hi] at g2; cases g2
        simp only [Program.built, h1, g1, h2, hi, hmap]
        exact f1

theorem tassert_ok {t xt : Nat} {z : AV} {x : Operand} {x' : Opnd} {d : TypeDesc} (he : Env C W L μ tm a) (hu : P.underlying t = some d) (hn : ∀ m, d ≠ .interface m) (hz : zeroV P t = some z) (h1 : opnd x = some x')
    {v : AV} {ft : List Nat} (hx : xval H (val C tm) (.tassert t z x') = some (v, ft)) :
    ∃ w, (Instr.typeAssert (a.eval x) xt t true).run P W = .ok w W ∧ VR W L μ v w := by
  have e1 := opnd_ok he h1
  obtain ⟨zv, hzr, hzv⟩ := zeroV_ok (P := P) (W := W) (L := L) (μ := μ) hz
  have no : VR W L μ (.tup [z, .bool false]) (.tuple #[zv, .bool false]) := tup_ok (VL.cons hzv (VL.cons .bool VL.nil))
  simp only [xval] at hx
  split at hx
  · rename_i t' u hb
    cases hx
    rw [hb] at e1
    obtain ⟨y, h2, hy⟩ := vr_iface e1
    by_cases ht : t' = t
    · subst ht
      rw [if_pos rfl]
      refine ⟨.tuple #[y, .bool true], ?_, tup_ok (VL.cons hy (VL.cons .bool VL.nil))⟩
      cases d <;> first | exact absurd rfl (hn _) | simp [Instr.typeAssert, run_underlying hu, h2]
    · rw [if_neg ht]
      refine ⟨_, ?_, no⟩
      cases d <;> first | exact absurd rfl (hn _) | simp [Instr.typeAssert, run_underlying hu, h2, ht, hzr]
  · rename_i hb
    cases hx
    rw [hb] at e1
    refine ⟨_, ?_, no⟩
    cases d <;> first | exact absurd rfl (hn _) | simp [Instr.typeAssert, run_underlying hu, vr_nilif e1, hzr]
  · cases hx

theorem part_cell {t : Nat} {T : TypeDesc} (hu : P.underlying t = some T) (hT : (∃ k, T = .int k) ∨ T = .bool) {X : Array Value} {off : Nat} {l : List AV} (hl : l.length = 1) (hv : VL W L μ l ((X.toList.drop off).take 1)) :
    ∃ v, (part t X off).run P W = .ok v W := by
  match l, hl with
  | [x], _ =>
    obtain ⟨r, hr, _⟩ := hv.get (i := 0) rfl
    have hr' : X[off]? = some r := by rw [List.getElem?_take_of_lt (by omega), List.getElem?_drop] at hr; simpa using hr
    have hagg : (isAgg t).run P W = .ok false W := by rcases hT with ⟨k, rfl⟩ | rfl <;> simp [isAgg, run_underlying hu]
    exact ⟨r, by simp [part, hagg, hr']⟩

def ChkOk (P : Program) (N : Nat) (t n : Nat) : Prop :=
  ∀ (W : World) (L : Nat → Prop) (μ : Mu) (X : Array Value) (off : Nat) (l : List AV), l.length = n → VL W L μ l ((X.toList.drop off).take n) → ∃ v, (part t X off).run P W = .ok v W ∧ ∀ e, (Instr.checkKey e N t v).run P W = .ok () W

theorem chkFields_ok {N : Nat} {flat : Nat → Option (List Bool)} (hf : ∀ t s, flat t = some s → ChkOk P N t s.length) (e : Bool) : ∀ {fs : List Field} {off : Nat} {s : List Bool}, flatF flat off fs = some s →
    ∀ (W : World) (L : Nat → Prop) (μ : Mu) (X : Array Value) (l : List AV), l.length = s.length → VL W L μ l ((X.toList.drop off).take s.length) →
      (forIn fs PUnit.unit (fun (f : Field) (_ : PUnit) => (if f.name ≠ "_" then do let p ← part f.type X f.offset; Instr.checkKey e N f.type p; pure (ForInStep.yield PUnit.unit) else pure (ForInStep.yield PUnit.unit) : Sem (ForInStep PUnit)))).run P W = .ok PUnit.unit W
  | [], off, s, h, W, L, μ, X, l, _, _ => by simp
  | f :: fs, off, s, h, W, L, μ, X, l, hl, hv => by
    unfold flatF at h
    split at h
    · rename_i hn
      split at h
      · rename_i s1 hq
        cases hr : flatF flat (off + s1.length) fs with
        | none => rw [hr] at h; cases h
        | some s2 =>
          rw [hr] at h; cases h
          simp only [List.length_append] at hl hv
          have hv1 : VL W L μ (l.take s1.length) ((X.toList.drop off).take s1.length) := by
            have := hv.take s1.length
            rwa [List.take_take, show min s1.length (s1.length + s2.length) = s1.length by omega] at this
          have hd1 : VL W L μ (l.drop s1.length) ((X.toList.drop (off + s1.length)).take s2.length) := by
            have := hv.drop s1.length
            rw [List.drop_take, List.drop_drop] at this
            simpa using this
          obtain ⟨p, p1, p2⟩ := hf f.type s1 hq W L μ X off _ (by simp; omega) hv1
          have ih := chkFields_ok hf e hr W L μ X (l.drop s1.length) (by simp; omega) hd1
          simp only [List.forIn_cons, Sem.run_bind, if_pos hn.1, hn.2, p1, p2 e, Result.andThen_ok, Sem.run_pure, ih]
      · cases h
    · cases h

theorem chkItems_ok {N e : Nat} {s : List Bool} (hf : ChkOk P N e s.length) (hse : sizeT P e = some s.length) (ee : Bool) (W : World) (L : Nat → Prop) (μ : Mu) (X : Array Value) : ∀ (k j : Nat) (l : List AV), l.length = k * s.length → VL W L μ l ((X.toList.drop (j * s.length)).take (k * s.length)) →
    (forIn (List.range' j k) PUnit.unit (fun (i : Nat) (_ : PUnit) => (do let c ← sizeOf e; let p ← part e X (i * c); Instr.checkKey ee N e p; pure (ForInStep.yield PUnit.unit) : Sem (ForInStep PUnit)))).run P W = .ok PUnit.unit W
  | 0, j, l, _, _ => by simp
  | k + 1, j, l, hl, hv => by
    rw [Nat.succ_mul] at hl hv
    have hv1 : VL W L μ (l.take s.length) ((X.toList.drop (j * s.length)).take s.length) := by
      have := hv.take s.length
      rwa [List.take_take, show min s.length (k * s.length + s.length) = s.length by omega] at this
    have hd1 : VL W L μ (l.drop s.length) ((X.toList.drop ((j + 1) * s.length)).take (k * s.length)) := by
      have := hv.drop s.length
      rw [List.drop_take, List.drop_drop] at this
      rw [Nat.succ_mul]
      simpa using this
    obtain ⟨p, p1, p2⟩ := hf W L μ X (j * s.length) _ (by simp; omega) hv1
    have ih := chkItems_ok hf hse ee W L μ X k (j + 1) (l.drop s.length) (by simp; omega) hd1
    rw [List.range'_succ]
    simp only [List.forIn_cons, Sem.run_bind, sizeT_run hse, p1, p2 ee, Result.andThen_ok, Sem.run_pure, ih]

theorem chk_ok : ∀ {d t : Nat} {s : List Bool}, flatT P d t = some s → ∀ N, d ≤ N → ChkOk P N t s.length
  | 0, t, s, h => by cases h
  | d + 1, t, s, h => by
    intro N hN W L μ X off l hl hv
    obtain ⟨N, rfl⟩ : ∃ N', N = N' + 1 := ⟨N - 1, by omega⟩
    unfold flatT at h
    split at h
    · rename_i fs hu
      split at h
      · cases h
      · split at h
        · rename_i s' hf
          split at h
          · rename_i hsz
            cases h
            have hagg : (isAgg t).run P W = .ok true W := by simp [isAgg, run_underlying hu]
            refine ⟨.agg (X.extract off (off + s.length)), by simp [part, hagg, sizeT_run hsz], fun e => ?_⟩
            have := chkFields_ok (N := N) (fun t' n' ht => chk_ok ht N (by omega)) e hf W L μ (X.extract off (off + s.length)) l hl (by simpa [Array.toList_extract, List.take_take] using hv)
            simp only [Instr.checkKey, Sem.run_bind, run_underlying hu, Result.andThen_ok]
            rw [← Array.forIn_toList, this]
            rfl
          · cases h
        · cases h
    · rename_i k hu
      split at h <;> cases h
      obtain ⟨v, hv'⟩ := part_cell hu (.inl ⟨k, rfl⟩) hl hv
      exact ⟨v, hv', fun e => by simp [Instr.checkKey, run_underlying hu]⟩
    · rename_i hu
      split at h <;> cases h
      obtain ⟨v, hv'⟩ := part_cell hu (.inr rfl) hl hv
      exact ⟨v, hv', fun e => by simp [Instr.checkKey, run_underlying hu]⟩
    · rename_i n e hu
      split at h
      · rename_i s' hf
        split at h <;> cases h
        rename_i hsz
        obtain ⟨hsz, hse⟩ := hsz
        rw [flat_len] at hl hv
        have hagg : (isAgg t).run P W = .ok true W := by simp [isAgg, run_underlying hu]
        refine ⟨.agg (X.extract off (off + n * s'.length)), by simp [part, hagg, sizeT_run hsz], fun ee => ?_⟩
        have := chkItems_ok (chk_ok hf N (by omega)) hse ee W L μ (X.extract off (off + n * s'.length)) n 0 l hl (by simpa [Array.toList_extract, List.take_take] using hv)
        simp only [Instr.checkKey, Sem.run_bind, run_underlying hu, Result.andThen_ok]
        simp only [Std.Legacy.Range.forIn_eq_forIn_range', Std.Legacy.Range.size, Nat.sub_zero, Nat.add_one_sub_one, Nat.div_one]
        rw [this]
        rfl
      · cases h
    · cases h

theorem checkKey_int {t : Nat} {T : TypeDesc} (hu : P.underlying t = some T) (hT : (∃ k, T = .int k) ∨ T = .bool) (e : Bool) (n : Nat) (v : Value) (W : World) : (Instr.checkKey e (n + 1) t v).run P W = .ok () W := by
  rcases hT with ⟨k, rfl⟩ | rfl <;> simp [Instr.checkKey, run_underlying hu]

theorem checkKey_ok {t : Nat} {kn : EK} (hk : keyT P t = some kn) {key : AV} (ho : keyOK kn key = true) {vk : Value} (hv : VR W L μ key vk) (e : Bool) : (Instr.checkKey e 10000 t vk).run P W = .ok () W := by
  unfold keyT at hk
  split at hk
  · rename_i k hu; exact checkKey_int hu (.inl ⟨k, rfl⟩) e 9999 vk W
  · rename_i hu; exact checkKey_int hu (.inr rfl) e 9999 vk W
  · rename_i fs hu
    cases hf : flatT P 5 t with
    | none => rw [hf] at hk; cases hk
    | some s =>
      rw [hf] at hk; cases hk
      unfold keyOK at ho
      split at ho
      · rename_i h0; cases h0
      · rename_i h0; cases h0
      · rename_i s' l h0
        cases h0
        have hl : l.length = s.length := by simpa using ho
        obtain ⟨xs, rfl, hxs⟩ := vr_agg hv
        have hxl : xs.length = s.length := hxs.1.symm.trans hl
        obtain ⟨v, p1, p2⟩ := chk_ok hf 10000 (by omega) W L μ xs.toArray 0 l hl (by simpa [List.take_of_length_le (Nat.le_of_eq hxl)] using hxs)
        have hagg : (isAgg t).run P W = .ok true W := by simp [isAgg, run_underlying hu]
        have hsz : sizeT P t = some s.length := by
          unfold flatT at hf
          rw [hu] at hf
          simp only at hf
          split at hf
          · cases hf
          · split at hf
            · split at hf
              · rename_i hh; cases hf; exact hh
              · cases hf
            · cases hf
        simp [part, hagg, sizeT_run hsz, ← hxl] at p1
        rw [← p1] at p2
        exact p2 e
      · cases ho
  · cases hk

/-- The entries of a map, the evaluator's and the model's. -/
def ER (W : World) (L : Nat → Prop) (μ : Mu) : List (AV × AV) → List MapEntry → Prop
  | [], [] => True
  | (k, v) :: es, e :: res => VR W L μ k e.key ∧ VR W L μ v e.val ∧ ER W L μ es res
  | _, _ => False

/-- What is found. -/
def FR (W : World) (L : Nat → Prop) (μ : Mu) (kn : EK) (key : AV) (es : List (AV × AV)) (i : Nat) : Option AV → Option (Nat × Value) → Prop
  | none, none => True
  | some v, some (j, x) => VR W L μ v x ∧ i ≤ j ∧ (∃ k, es[j - i]? = some (k, v) ∧ aeqK kn key k = some true) ∧ ∀ q, q < j - i → ∀ k' u', es[q]? = some (k', u') → aeqK kn key k' = some false
  | _, _ => False

theorem FR.cons {kn : EK} {key : AV} {es : List (AV × AV)} {p : AV × AV} {i : Nat} {r : Option AV} {r' : Option (Nat × Value)} (hp : aeqK kn key p.1 = some false) (h : FR W L μ kn key es (i + 1) r r') : FR W L μ kn key (p :: es) i r r' := by
  cases r with
  | none => cases r' with
    | none => trivial
    | some q => exact h.elim
  | some v => cases r' with
    | none => exact h.elim
    | some q =>
      obtain ⟨j, x⟩ := q
      obtain ⟨h1, h2, ⟨k, h3, h4⟩, h5⟩ := h
      have e : j - i = (j - (i + 1)) + 1 := by omega
      refine ⟨h1, by omega, ⟨k, by rw [e, List.getElem?_cons_succ]; exact h3, h4⟩, fun q hq k' u' hk => ?_⟩
      cases q with
      | zero => simp at hk; rw [hk] at hp; exact hp
      | succ q => exact h5 q (by omega) k' u' (by simpa using hk)

theorem findAsking_ok {t : Nat} {kn : EK} (hk : keyT P t = some kn) {key : AV} {vk : Value} (hv : VR W L μ key vk) : ∀ {es : List (AV × AV)} {res : List MapEntry} {r : Option AV} (i : Nat), ER W L μ es res → findA kn key es = some r →
    ∃ r', (Instr.findAsking t vk res i).run P W = .ok r' W ∧ FR W L μ kn key es i r r'
  | [], [], r, i, _, h => by cases h; exact ⟨none, by simp [Instr.findAsking], trivial⟩
  | [], _ :: _, r, i, he, h => he.elim
  | _ :: _, [], r, i, he, h => he.elim
  | (k, v) :: es, e :: res, r, i, he, h => by
    obtain ⟨e1, e2, e3⟩ := he
    unfold findA at h
    split at h
    · rename_i hq
      cases h
      have := keq_ok (.inl hk) hq hv e1
      exact ⟨some (i, e.val), by simp [Instr.findAsking, this], e2, Nat.le_refl _, ⟨k, by simp, hq⟩, fun q hq => by omega⟩
    · rename_i hq
      have := keq_ok (.inl hk) hq hv e1
      obtain ⟨r', h1, h2⟩ := findAsking_ok hk hv (i + 1) e3 h
      exact ⟨r', by simp [Instr.findAsking, this, h1], h2.cons hq⟩
    · cases h

theorem findNow_ok {d : TypeDesc} {kn : EK} (hd : (∃ k, d = .int k ∧ kn = .int) ∨ (d = .bool ∧ kn = .bool)) {key : AV} {vk : Value} (hv : VR W L μ key vk) : ∀ {es : List (AV × AV)} {res : List MapEntry} {r : Option AV} (i : Nat), ER W L μ es res → findA kn key es = some r →
    ∃ r', Instr.findNow d vk res i = some r' ∧ FR W L μ kn key es i r r'
  | [], [], r, i, _, h => by cases h; exact ⟨none, by simp [Instr.findNow], trivial⟩
  | [], _ :: _, r, i, he, h => he.elim
  | _ :: _, [], r, i, he, h => he.elim
  | (k, v) :: es, e :: res, r, i, he, h => by
    obtain ⟨e1, e2, e3⟩ := he
    have same : ∀ b, aeqK kn key k = some b → Instr.sameNow d vk e.key = some b := by
      intro b hb
      rcases hd with ⟨kk, rfl, rfl⟩ | ⟨rfl, rfl⟩
      · unfold aeqK at hb
        split at hb
        all_goals first
          | (rename_i h0; cases h0; done)
          | (rename_i h0 _; cases h0; done)
          | skip
        · rename_i k1 p k2 q h0
          split at hb <;> cases hb
          rename_i hkk; subst hkk
          simp [vr_int hv, vr_int e1, Instr.sameNow]
        · cases hb
      · unfold aeqK at hb
        split at hb
        all_goals first
          | (rename_i h0; cases h0; done)
          | (rename_i h0 _; cases h0; done)
          | skip
        · cases hb
          simp [vr_bool hv, vr_bool e1, Instr.sameNow]
        · cases hb
    unfold findA at h
    split at h
    · rename_i hq
      cases h
      exact ⟨some (i, e.val), by simp [Instr.findNow, same _ hq], e2, Nat.le_refl _, ⟨k, by simp, hq⟩, fun q hq => by omega⟩
    · rename_i hq
      obtain ⟨r', h1, h2⟩ := findNow_ok hd hv (i + 1) e3 h
      exact ⟨r', by simp [Instr.findNow, same _ hq, h1], h2.cons hq⟩
    · cases h

theorem findKey_ok {t : Nat} {kn : EK} (hk : keyT P t = some kn) {key : AV} (hko : keyOK kn key = true) {vk : Value} (hv : VR W L μ key vk) {es : List (AV × AV)} {res : List MapEntry} {r : Option AV} (he : ER W L μ es res) (h : findA kn key es = some r) :
    ∃ r', (Instr.findKey t vk res).run P W = .ok r' W ∧ FR W L μ kn key es 0 r r' := by
  have hk' := hk
  unfold keyT at hk
  split at hk
  · rename_i k hu
    cases hk
    obtain ⟨r', h1, h2⟩ := findNow_ok (.inl ⟨k, rfl, rfl⟩) hv 0 he h
    exact ⟨r', by simp [Instr.findKey, run_underlying hu, h1], h2⟩
  · rename_i hu
    cases hk
    obtain ⟨r', h1, h2⟩ := findNow_ok (.inr ⟨rfl, rfl⟩) hv 0 he h
    exact ⟨r', by simp [Instr.findKey, run_underlying hu, h1], h2⟩
  · rename_i fs hu
    obtain ⟨r', h1, h2⟩ := findAsking_ok hk' hv 0 he h
    cases es with
    | nil => cases res with
      | nil => cases h; exact ⟨none, by simp [Instr.findKey, run_underlying hu, Instr.findNow], trivial⟩
      | cons e res => exact he.elim
    | cons p es => cases res with
      | nil => exact he.elim
      | cons e res => exact ⟨r', by simp [Instr.findKey, run_underlying hu, Instr.findNow, Instr.sameNow, h1], h2⟩
  · cases hk

theorem er_of_br {es : List (AV × AV)} : ∀ {res : List MapEntry}, es.length = res.length → (∀ (i : Nat) (k v : AV) (e : MapEntry), es[i]? = some (k, v) → res[i]? = some e → VR W L μ k e.key ∧ VR W L μ v e.val) → ER W L μ es res := by
  induction es with
  | nil => intro res h _; cases res with
    | nil => trivial
    | cons _ _ => simp at h
  | cons p es ih =>
    intro res h hv
    cases res with
    | nil => simp at h
    | cons e res =>
      obtain ⟨k, v⟩ := p
      have h0 := hv 0 k v e rfl rfl
      exact ⟨h0.1, h0.2, ih (by simpa using h) fun i k v e h1 h2 => hv (i + 1) k v e (by simpa using h1) (by simpa using h2)⟩

theorem map_at (hs : Sim P W L μ H) {b : Nat} {x : Value} (h : VR W L μ (.map b) x) {es : List (AV × AV)} (hb : H[b]? = some (.map es)) :
    ∃ B res clk, μ b = .at B ∧ x = .map (some B) ∧ W.heap[B]? = some (.map res clk) ∧ es.length = res.size ∧ ER W L μ es res.toList := by
  cases h with
  | @dead _ _ _ b' h hd _ =>
    simp [headRef] at h; subst h
    cases hs.dead _ _ hd hb
  | @map _ _ B hm =>
    obtain ⟨_, _, blk, o, e1, e2, e3⟩ := hs.live _ _ hm
    rw [hb] at e1; cases e1
    cases e3 with
    | @map _ res clk h1 h2 => exact ⟨B, res, clk, hm, rfl, e2, h1, er_of_br (by simpa using h1) (fun i k v e a b => h2 i k v e a (by simpa using b))⟩

theorem lookup_ok {t k e : Nat} {kn : EK} {ok : Bool} {z : AV} {m key : Operand} {m' key' : Opnd} (hs : Sim P W L μ H) (he : Env C W L μ tm a) (hu : P.underlying t = some (.map k e)) (hk : keyT P k = some kn) (hz : zeroV P e = some z)
    (h1 : opnd m = some m') (h2 : opnd key = some key') {v : AV} {ft : List Nat} (hx : xval H (val C tm) (.lookup kn ok z m' key') = some (v, ft)) :
    ∃ w, (Instr.lookup t (a.eval m) (a.eval key) ok).run P W = .ok w W ∧ VR W L μ v w := by
  have e1 := opnd_ok he h1
  have e2 := opnd_ok he h2
  obtain ⟨zv, hzr, hzv⟩ := zeroV_ok (P := P) (W := W) (L := L) (μ := μ) hz
  simp only [xval] at hx
  split at hx
  · rename_i b hb
    rw [hb] at e1
    split at hx
    · rename_i es hes
      split at hx
      · rename_i hko
        obtain ⟨B, res, clk, g1, g2, g3, g4, g5⟩ := map_at hs e1 hes
        cases hf : findA kn (val C tm key') es with
        | none => rw [hf] at hx; cases hx
        | some r =>
          rw [hf] at hx
          obtain ⟨r', f1, f2⟩ := findKey_ok hk hko e2 g5 hf
          have hc := checkKey_ok hk hko e2 (P := P)
          have hg : (getObj B).run P W = .ok (.map res clk) W := by simp [getObj, Sem.run, g3]
          cases r with
          | none =>
            cases hx
            cases r' with
            | some q => exact f2.elim
            | none =>
              cases ok
              · exact ⟨zv, by simp [Instr.lookup, run_underlying hu, g2, hg, hc, f1, hzr], hzv⟩
              · exact ⟨.tuple #[zv, .bool false], by simp [Instr.lookup, run_underlying hu, g2, hg, hc, f1, hzr], tup_ok (VL.cons hzv (VL.cons .bool VL.nil))⟩
          | some u =>
            cases hx
            cases r' with
            | none => exact f2.elim
            | some q =>
              obtain ⟨j, y⟩ := q
              have f3 : VR W L μ u y := f2.1
              cases ok
              · exact ⟨y, by simp [Instr.lookup, run_underlying hu, g2, hg, hc, f1], f3⟩
              · exact ⟨.tuple #[y, .bool true], by simp [Instr.lookup, run_underlying hu, g2, hg, hc, f1], tup_ok (VL.cons f3 (VL.cons .bool VL.nil))⟩
      · cases hx
    · cases hx
  · cases hx
end
end Ev
end Go.Proofs.YtcaejedfjobooaaGreat
