/- Operations that only compute or look. Part 3: equality, slices, nil checks, building, maps, assertions. -/
import Derived.Test.YtcaejedfjobooaaGreatEvVal2
import Derived.ChangeKeysEq
import Derived.Laws.StructEq
namespace Go.Proofs.YtcaejedfjobooaaGreat
open Go Go.RowKit
namespace Ev
section
variable {P : Program} {W : World} {L : Nat → Prop} {μ : Mu} {H : List AB} {C : Cfg} {tm : List AV} {a : Act}

theorem aeqS_split : ∀ {s1 s2 : List Bool} {l1 l2 m1 m2 : List AV} {b : Bool}, l1.length = s1.length → m1.length = s1.length → aeqS (s1 ++ s2) (l1 ++ l2) (m1 ++ m2) = some b → ∃ b1 b2, aeqS s1 l1 m1 = some b1 ∧ aeqS s2 l2 m2 = some b2 ∧ b = (b1 && b2)
  | [], s2, [], l2, [], m2, b, _, _, h => ⟨true, b, rfl, h, rfl⟩
  | [], s2, _ :: _, l2, _, m2, b, hl, _, _ => by simp at hl
  | [], s2, _, l2, _ :: _, m2, b, _, hl, _ => by simp at hl
  | _ :: _, s2, [], l2, _, m2, b, hl, _, _ => by simp at hl
  | _ :: _, s2, _, l2, [], m2, b, _, hl, _ => by simp at hl
  | q :: s1, s2, x :: l1, l2, y :: m1, m2, b, hl, hm, h => by
    have hl' : l1.length = s1.length := by simpa using hl
    have hm' : m1.length = s1.length := by simpa using hm
    simp only [List.cons_append] at h
    unfold aeqS at h
    split at h
    · rename_i h0 _ _; cases h0
    · rename_i s k p l k' q m h0 h1 h2
      cases h0; cases h1; cases h2
      split at h
      · rename_i hk
        cases hr : aeqS (s1 ++ s2) (l1 ++ l2) (m1 ++ m2) with
        | none => rw [hr] at h; cases h
        | some c =>
          rw [hr] at h; cases h
          obtain ⟨b1, b2, e1, e2, rfl⟩ := aeqS_split hl' hm' hr
          exact ⟨(p == q) && b1, b2, by simp [aeqS, hk, e1], e2, by simp [Bool.and_assoc]⟩
      · cases h
    · rename_i s p l q m h0 h1 h2
      cases h0; cases h1; cases h2
      cases hr : aeqS (s1 ++ s2) (l1 ++ l2) (m1 ++ m2) with
      | none => rw [hr] at h; cases h
      | some c =>
        rw [hr] at h; cases h
        obtain ⟨b1, b2, e1, e2, rfl⟩ := aeqS_split hl' hm' hr
        exact ⟨(p == q) && b1, b2, by simp [aeqS, e1], e2, by simp [Bool.and_assoc]⟩
    · cases h
theorem aeqS_len : ∀ {s : List Bool} {l m : List AV} {b : Bool}, aeqS s l m = some b → l.length = s.length ∧ m.length = s.length
  | s, l, m, b, h => by
    unfold aeqS at h
    split at h
    · exact ⟨rfl, rfl⟩
    · split at h
      · rename_i s k p l k' q m _
        cases hr : aeqS s l m with
        | none => rw [hr] at h; cases h
        | some c => have := aeqS_len hr; simp [this]
      · cases h
    · rename_i s p l q m
      cases hr : aeqS s l m with
      | none => rw [hr] at h; cases h
      | some c => have := aeqS_len hr; simp [this]
    · cases h

/-- What 'flatT' is good for, at one type. -/
def FlatOk (P : Program) (D : Nat) (t : Nat) (s : List Bool) : Prop :=
  ∀ (W : World) (L : Nat → Prop) (μ : Mu) (X Y : Array Value) (off : Nat) (l m : List AV) (b : Bool), VL W L μ l ((X.toList.drop off).take s.length) → VL W L μ m ((Y.toList.drop off).take s.length) → aeqS s l m = some b →
    ∃ vx vy, (part t X off).run P W = .ok vx W ∧ (part t Y off).run P W = .ok vy W ∧ (Op.equalIn D t vx vy).run P W = .ok b W

theorem eqFields_ok {D : Nat} {flat : Nat → Option (List Bool)} (hf : ∀ t s, flat t = some s → FlatOk P D t s) : ∀ {fs : List Field} {off : Nat} {s : List Bool}, flatF flat off fs = some s →
    ∀ (W : World) (L : Nat → Prop) (μ : Mu) (X Y : Array Value) (l m : List AV) (b : Bool), VL W L μ l ((X.toList.drop (off)).take s.length) → VL W L μ m ((Y.toList.drop (off)).take s.length) → aeqS s l m = some b →
      (Op.eqFields D X Y fs).run P W = .ok b W
  | [], off, s, h, W, L, μ, X, Y, l, m, b, _, _, hb => by
    simp [flatF] at h
    subst h
    have hl := aeqS_len hb
    have : l = [] := List.eq_nil_of_length_eq_zero (by simpa using hl.1)
    subst this
    have : m = [] := List.eq_nil_of_length_eq_zero (by simpa using hl.2)
    subst this
    cases hb
    simp [Op.eqFields]
  | f :: fs, off, s, h, W, L, μ, X, Y, l, m, b, h3, h4, hb => by
    unfold flatF at h
    split at h
    · rename_i hn
      split at h
      · rename_i s1 hq
        cases hr : flatF flat (off + s1.length) fs with
        | none => rw [hr] at h; cases h
        | some s2 =>
          rw [hr] at h; cases h
          have hl := aeqS_len hb
          simp only [List.length_append] at hl h3 h4
          have e1 : l = l.take s1.length ++ l.drop s1.length := (List.take_append_drop _ l).symm
          have e2 : m = m.take s1.length ++ m.drop s1.length := (List.take_append_drop _ m).symm
          rw [e1, e2] at hb
          obtain ⟨b1, b2, g1, g2, rfl⟩ := aeqS_split (by simp; omega) (by simp; omega) hb
          have hv1 : VL W L μ (l.take s1.length) ((X.toList.drop off).take s1.length) := by
            have := h3.take s1.length
            rwa [List.take_take, show min s1.length (s1.length + s2.length) = s1.length by omega] at this
          have hv2 : VL W L μ (m.take s1.length) ((Y.toList.drop off).take s1.length) := by
            have := h4.take s1.length
            rwa [List.take_take, show min s1.length (s1.length + s2.length) = s1.length by omega] at this
          obtain ⟨vx, vy, p1, p2, p3⟩ := hf f.type s1 hq W L μ X Y off _ _ _ hv1 hv2 g1
          have hd1 : VL W L μ (l.drop s1.length) ((X.toList.drop (off + s1.length)).take s2.length) := by
            have := h3.drop s1.length
            rw [List.drop_take, List.drop_drop] at this
            simpa using this
          have hd2 : VL W L μ (m.drop s1.length) ((Y.toList.drop (off + s1.length)).take s2.length) := by
            have := h4.drop s1.length
            rw [List.drop_take, List.drop_drop] at this
            simpa using this
          have ih := eqFields_ok hf hr W L μ X Y (l.drop s1.length) (m.drop s1.length) b2 hd1 hd2 g2
          cases b1
          · simp [Op.eqFields, hn.1, hn.2, p1, p2, p3]
          · simp [Op.eqFields, hn.1, hn.2, p1, p2, p3, ih]
      · cases h
    · cases h

theorem flat_len (n : Nat) (s : List Bool) : (List.replicate n s).flatten.length = n * s.length := by
  induction n with
  | zero => simp
  | succ n ih => rw [List.replicate_succ, List.flatten_cons, List.length_append, ih, Nat.succ_mul, Nat.add_comm]

/-- The elements of an array, one by one. -/
theorem eqItems_ok {D e : Nat} {s : List Bool} (hf : FlatOk P D e s) (W : World) (L : Nat → Prop) (μ : Mu) (X Y : Array Value) : ∀ (k j : Nat) (l m : List AV) (b : Bool),
    VL W L μ l ((X.toList.drop (j * s.length)).take (k * s.length)) → VL W L μ m ((Y.toList.drop (j * s.length)).take (k * s.length)) → aeqS (List.replicate k s).flatten l m = some b → (Op.eqItems D e s.length X Y (List.range' j k)).run P W = .ok b W
  | 0, j, l, m, b, _, _, h => by
    have hl := aeqS_len h
    have : l = [] := List.eq_nil_of_length_eq_zero (by simpa using hl.1)
    subst this
    have : m = [] := List.eq_nil_of_length_eq_zero (by simpa using hl.2)
    subst this
    cases h
    simp [Op.eqItems]
  | k + 1, j, l, m, b, h3, h4, hb => by
    have hl := aeqS_len hb
    rw [flat_len] at hl
    rw [Nat.succ_mul] at hl h3 h4
    have e1 : l = l.take s.length ++ l.drop s.length := (List.take_append_drop _ l).symm
    have e2 : m = m.take s.length ++ m.drop s.length := (List.take_append_drop _ m).symm
    rw [List.replicate_succ, List.flatten_cons, e1, e2] at hb
    obtain ⟨b1, b2, g1, g2, rfl⟩ := aeqS_split (by simp; omega) (by simp; omega) hb
    have hv1 : VL W L μ (l.take s.length) ((X.toList.drop (j * s.length)).take s.length) := by
      have := h3.take s.length
      rwa [List.take_take, show min s.length (k * s.length + s.length) = s.length by omega] at this
    have hv2 : VL W L μ (m.take s.length) ((Y.toList.drop (j * s.length)).take s.length) := by
      have := h4.take s.length
      rwa [List.take_take, show min s.length (k * s.length + s.length) = s.length by omega] at this
    obtain ⟨vx, vy, p1, p2, p3⟩ := hf W L μ X Y (j * s.length) _ _ _ hv1 hv2 g1
    have hd1 : VL W L μ (l.drop s.length) ((X.toList.drop ((j + 1) * s.length)).take (k * s.length)) := by
      have := h3.drop s.length
      rw [List.drop_take, List.drop_drop] at this
      rw [Nat.succ_mul]
      simpa using this
    have hd2 : VL W L μ (m.drop s.length) ((Y.toList.drop ((j + 1) * s.length)).take (k * s.length)) := by
      have := h4.drop s.length
      rw [List.drop_take, List.drop_drop] at this
      rw [Nat.succ_mul]
      simpa using this
    have ih := eqItems_ok hf W L μ X Y k (j + 1) (l.drop s.length) (m.drop s.length) b2 hd1 hd2 g2
    rw [List.range'_succ]
    simp only [Op.eqItems, Sem.run_bind, p1, p2, p3, Result.andThen_ok]
    cases b1
    · simp
    · simpa using ih

theorem flat_ok : ∀ {d t : Nat} {s : List Bool}, flatT P d t = some s → ∀ D, d ≤ D → FlatOk P D t s
  | 0, t, s, h => by cases h
  | d + 1, t, s, h => by
    intro D hD W L μ X Y off l m b h3 h4 h5
    obtain ⟨D, rfl⟩ : ∃ D', D = D' + 1 := ⟨D - 1, by omega⟩
    have hl := aeqS_len h5
    unfold flatT at h
    have one : ∀ {l : List AV} {X : Array Value}, l.length = 1 → VL W L μ l ((X.toList.drop off).take 1) → ∃ x r, l = [x] ∧ X[off]? = some r ∧ VR W L μ x r := by
      intro l X h1 h2
      match l, h1 with
      | [x], _ =>
        obtain ⟨r, hr, hvr⟩ := h2.get (i := 0) rfl
        exact ⟨x, r, rfl, by rw [List.getElem?_take_of_lt (by omega), List.getElem?_drop] at hr; simpa using hr, hvr⟩
    split at h
    · rename_i fs hu
      split at h
      · cases h
      · rename_i hp
        split at h
        · rename_i s' hf
          split at h
          · rename_i hsz
            cases h
            have hagg : (isAgg t).run P W = .ok true W := by simp [isAgg, run_underlying hu]
            have hfo : P.fieldsOf t = fs := by simp [Program.fieldsOf, hu]
            refine ⟨.agg (X.extract off (off + s.length)), .agg (Y.extract off (off + s.length)), by simp [part, hagg, sizeT_run hsz], by simp [part, hagg, sizeT_run hsz], ?_⟩
            have hu' : P.underlying t = some (.struct (P.fieldsOf t)) := by rw [hfo]; exact hu
            rw [run_equalIn_struct W D t _ _ hu' (by simpa using hp), hfo]
            refine eqFields_ok (fun t' n' ht => flat_ok ht D (by omega)) hf W L μ _ _ l m b ?_ ?_ h5
            · simpa [Array.toList_extract, List.take_take] using h3
            · simpa [Array.toList_extract, List.take_take] using h4
          · cases h
        · cases h
    · rename_i k hu
      split at h <;> cases h
      obtain ⟨x, r, rfl, hr, hvr⟩ := one (by simpa using hl.1) (by simpa using h3)
      obtain ⟨y, q, rfl, hq, hvq⟩ := one (by simpa using hl.2) (by simpa using h4)
      have hagg : (isAgg t).run P W = .ok false W := by simp [isAgg, run_underlying hu]
      refine ⟨r, q, by simp [part, hagg, hr], by simp [part, hagg, hq], ?_⟩
      unfold aeqS at h5
      split at h5
      · rename_i h0 _ _; cases h0
      · rename_i s k' p l' k'' q' m' e0 e1 e2
        cases e0; cases e1; cases e2
        split at h5
        · rename_i hk; subst hk
          simp [aeqS] at h5; subst h5
          rw [vr_int hvr, vr_int hvq]
          exact run_equalIn_int W D t k' k p q' hu
        · cases h5
      · rename_i e0 _ _; cases e0
      · cases h5
    · rename_i hu
      split at h <;> cases h
      obtain ⟨x, r, rfl, hr, hvr⟩ := one (by simpa using hl.1) (by simpa using h3)
      obtain ⟨y, q, rfl, hq, hvq⟩ := one (by simpa using hl.2) (by simpa using h4)
      have hagg : (isAgg t).run P W = .ok false W := by simp [isAgg, run_underlying hu]
      refine ⟨r, q, by simp [part, hagg, hr], by simp [part, hagg, hq], ?_⟩
      unfold aeqS at h5
      split at h5
      · rename_i h0 _ _; cases h0
      · rename_i e0 _ _; cases e0
      · rename_i s p l' q' m' e0 e1 e2
        cases e0; cases e1; cases e2
        simp [aeqS] at h5; subst h5
        rw [vr_bool hvr, vr_bool hvq]
        exact run_equalIn_bool W D t p q' hu
      · cases h5
    · rename_i n e hu
      split at h
      · rename_i s' hf
        split at h <;> cases h
        rename_i hsz
        obtain ⟨hsz, hse⟩ := hsz
        have hagg : (isAgg t).run P W = .ok true W := by simp [isAgg, run_underlying hu]
        have hc : P.cellsOf e = s'.length := by
          unfold Program.cellsOf
          unfold sizeT at hse
          rw [hse]; rfl
        obtain ⟨i, hi, _⟩ : ∃ i, P.info? e = some i ∧ i.size = s'.length := by
          unfold sizeT at hse
          exact Option.map_eq_some_iff.1 hse
        rw [flat_len] at h3 h4
        refine ⟨.agg (X.extract off (off + n * s'.length)), .agg (Y.extract off (off + n * s'.length)), by simp [part, hagg, sizeT_run hsz], by simp [part, hagg, sizeT_run hsz], ?_⟩
        rw [run_equalIn_array W D _ _ hu hi, hc, List.range_eq_range']
        refine eqItems_ok (flat_ok hf D (by omega)) W L μ _ _ n 0 l m b ?_ ?_ h5
        · simpa [Array.toList_extract, List.take_take] using h3
        · simpa [Array.toList_extract, List.take_take] using h4
      · cases h
    · cases h

theorem eq_iface' {t : Nat} {m : Array (String × TypeId)} (hu : P.underlying t = some (.interface m)) (W : World) (d : Nat) : (Op.equalIn (d + 1) t .nilIface .nilIface).run P W = .ok true W ∧ (∀ u v, (Op.equalIn (d + 1) t .nilIface (.iface u v)).run P W = .ok false W) ∧ (∀ u v, (Op.equalIn (d + 1) t (.iface u v) .nilIface).run P W = .ok false W) :=
  ⟨by simp only [Op.equalIn, Sem.run_bind, run_underlying hu, Result.andThen_ok, Sem.run_pure], fun u v => by simp only [Op.equalIn, Sem.run_bind, run_underlying hu, Result.andThen_ok, Sem.run_pure], fun u v => by simp only [Op.equalIn, Sem.run_bind, run_underlying hu, Result.andThen_ok, Sem.run_pure]⟩
theorem eq_func' {t : Nat} {p q : Array TypeId} {r : Bool} (hu : P.underlying t = some (.func p q r)) (W : World) (d : Nat) : (Op.equalIn (d + 1) t .nilFunc .nilFunc).run P W = .ok true W ∧ (∀ f u v, (Op.equalIn (d + 1) t .nilFunc (.func f u v)).run P W = .ok false W) ∧ (∀ f u v, (Op.equalIn (d + 1) t (.func f u v) .nilFunc).run P W = .ok false W) :=
  ⟨by simp only [Op.equalIn, Sem.run_bind, run_underlying hu, Result.andThen_ok, Sem.run_pure], fun f u v => by simp only [Op.equalIn, Sem.run_bind, run_underlying hu, Result.andThen_ok, Sem.run_pure], fun f u v => by simp only [Op.equalIn, Sem.run_bind, run_underlying hu, Result.andThen_ok, Sem.run_pure]⟩
theorem eq_iface {t : Nat} {m : Array (String × TypeId)} (hu : P.underlying t = some (.interface m)) (W : World) : (Op.equal t .nilIface .nilIface).run P W = .ok true W ∧ (∀ u v, (Op.equal t .nilIface (.iface u v)).run P W = .ok false W) ∧ (∀ u v, (Op.equal t (.iface u v) .nilIface).run P W = .ok false W) := eq_iface' hu W 9999
theorem eq_func {t : Nat} {p q : Array TypeId} {r : Bool} (hu : P.underlying t = some (.func p q r)) (W : World) : (Op.equal t .nilFunc .nilFunc).run P W = .ok true W ∧ (∀ f u v, (Op.equal t .nilFunc (.func f u v)).run P W = .ok false W) ∧ (∀ f u v, (Op.equal t (.func f u v) .nilFunc).run P W = .ok false W) := eq_func' hu W 9999

/-- Keys of maps, and all that '==' compares but integers. -/
theorem keq_ok {t : Nat} {kn : EK} (hk : keyT P t = some kn ∨ (kn = .nilI ∧ ∃ m, P.underlying t = some (.interface m)) ∨ (kn = .nilF ∧ ∃ p q r, P.underlying t = some (.func p q r))) {x y : AV} {b : Bool} (h : aeqK kn x y = some b) {vx vy : Value} (hx : VR W L μ x vx) (hy : VR W L μ y vy) : (Op.equal t vx vy).run P W = .ok b W := by
  rcases hk with hk | ⟨rfl, m, hu⟩ | ⟨rfl, p, q, r, hu⟩
  · unfold keyT at hk
    split at hk
    · rename_i k hu
      cases hk
      unfold aeqK at h
      split at h
      all_goals first
        | (rename_i h0; cases h0; done)
        | (rename_i k1 p k2 q _
           split at h <;> cases h
           rename_i e; subst e
           rw [vr_int hx, vr_int hy]
           exact run_equalIn_int W _ t _ _ p q hu)
        | cases h
    · rename_i hu
      cases hk
      unfold aeqK at h
      split at h
      all_goals first
        | (rename_i h0; cases h0; done)
        | (rename_i p q _
           cases h
           rw [vr_bool hx, vr_bool hy]
           exact run_equalIn_bool W _ t p q hu)
        | cases h
    · rename_i fs hu
      cases hf : flatT P 5 t with
      | none => rw [hf] at hk; cases hk
      | some s =>
        rw [hf] at hk; cases hk
        unfold aeqK at h
        split at h
        all_goals first
          | (rename_i h0; cases h0; done)
          | cases h; done
          | skip
        rename_i s' l m h0
        cases h0
        obtain ⟨xs, rfl, hxs⟩ := vr_agg hx
        obtain ⟨ys, rfl, hys⟩ := vr_agg hy
        have hl := aeqS_len h
        have hxl : xs.length = s.length := hxs.1.symm.trans hl.1
        have hyl : ys.length = s.length := hys.1.symm.trans hl.2
        obtain ⟨vx, vy, p1, p2, p3⟩ := flat_ok hf 10000 (by omega) W L μ xs.toArray ys.toArray 0 l m b (by simpa [List.take_of_length_le (Nat.le_of_eq hxl)] using hxs) (by simpa [List.take_of_length_le (Nat.le_of_eq hyl)] using hys) h
        have hagg : (isAgg t).run P W = .ok true W := by simp [isAgg, run_underlying hu]
        have hsz : sizeT P t = some s.length := by
          unfold flatT at hf
          rw [hu] at hf
          simp only at hf
          split at hf
          · cases hf
          · split at hf
            · split at hf
              · rename_i hh; cases hf; exact hh
              · cases hf
            · cases hf
        simp [part, hagg, sizeT_run hsz, ← hxl] at p1
        simp [part, hagg, sizeT_run hsz, ← hyl] at p2
        rw [← p1, ← p2] at p3
        exact p3
    · cases hk
  · unfold aeqK at h
    split at h
    all_goals first
      | (rename_i h0; cases h0; done)
      | (rename_i h0 _; cases h0; done)
      | (rename_i h0 _ _; cases h0; done)
      | (cases h; rw [vr_nilif hx, vr_nilif hy]; exact (eq_iface hu W).1)
      | (cases h; obtain ⟨_, f2, _⟩ := vr_iface hy; rw [vr_nilif hx, f2]; exact (eq_iface hu W).2.1 _ _)
      | (cases h; obtain ⟨_, f2, _⟩ := vr_iface hx; rw [vr_nilif hy, f2]; exact (eq_iface hu W).2.2 _ _)
      | cases h
  · unfold aeqK at h
    split at h
    all_goals first
      | (rename_i h0; cases h0; done)
      | (rename_i h0 _; cases h0; done)
      | (rename_i h0 _ _; cases h0; done)
      | (cases h; rw [vr_nilfn hx, vr_nilfn hy]; exact (eq_func hu W).1)
      | (cases h; obtain ⟨_, _, f2, _⟩ := vr_fn hy; rw [vr_nilfn hx, f2]; exact (eq_func hu W).2.1 _ _ _)
      | (cases h; obtain ⟨_, _, f2, _⟩ := vr_fn hx; rw [vr_nilfn hy, f2]; exact (eq_func hu W).2.2 _ _ _)
      | cases h

theorem eq_ok {op : BinOp} (hop : op = .eql ∨ op = .neq) {t : Nat} {x y : Operand} {x' y' : Opnd} {kn : EK} (he : Env C W L μ tm a) (kint : kn ≠ .int)
    (hk : keyT P t = some kn ∨ (kn = .nilI ∧ ∃ m, P.underlying t = some (.interface m)) ∨ (kn = .nilF ∧ ∃ p q r, P.underlying t = some (.func p q r)))
    (hk2 : ∀ s, kn = .agg s → P.eqGuardType P.depth t = false) (hk3 : kn = .nilI → isNil x = true ∨ isNil y = true)
    (h1 : opnd x = some x') (h2 : opnd y = some y') {v : AV} {ft : List Nat} (hx : xval H (val C tm) (.eq kn (isNeq op) x' y') = some (v, ft)) :
    ∃ z, (do eqGuard op t x y (a.eval x) (a.eval y); binOp op t (a.eval x) (a.eval y) : Sem Value).run P W = .ok z W ∧ VR W L μ v z := by
  have e1 := opnd_ok he h1
  have e2 := opnd_ok he h2
  simp only [xval] at hx
  cases hb : aeqK kn (val C tm x') (val C tm y') with
  | none => rw [hb] at hx; cases hx
  | some b =>
    rw [hb] at hx; cases hx
    have goal : ∀ {vx vy : Value}, (eqGuard op t x y vx vy).run P W = .ok () W → (∀ w, (binOp op t vx vy).run P w = ((Op.equal t vx vy).run P w).andThen fun b w' => .ok (.bool (bif isNeq op then !b else b)) w') → (Op.equal t vx vy).run P W = .ok b W →
        (do eqGuard op t x y vx vy; binOp op t vx vy : Sem Value).run P W = .ok (.bool (bif isNeq op then !b else b)) W := by
      intro vx vy g1 g2 g3
      simp [g1, g2, g3]
    have hq := keq_ok hk hb e1 e2
    refine ⟨_, goal ?_ ?_ hq, .bool⟩
    · clear goal hq
      unfold aeqK at hb
      split at hb
      · rename_i hp hq'; rw [hp] at e1; rw [hq'] at e2
        rw [vr_nilif e1, vr_nilif e2]
        have hcon : ((match x with | .const _ => true | _ => false) || (match y with | .const _ => true | _ => false)) = true := by
          rcases hk3 rfl with kx | kx
          · cases x <;> simp_all [isNil]
          · cases y <;> simp_all [isNil]
        rcases hop with rfl | rfl <;> simp [eqGuard] <;> (intro g1 g2; cases x <;> cases y <;> simp_all)
      · rename_i hp hq'; rw [hp] at e1; rw [hq'] at e2
        obtain ⟨w2, f2, _⟩ := vr_iface e2
        rw [vr_nilif e1, f2]
        rcases hop with rfl | rfl <;> simp [eqGuard]
      · rename_i hp hq'; rw [hp] at e1; rw [hq'] at e2
        obtain ⟨w2, f2, _⟩ := vr_iface e1
        rw [vr_nilif e2, f2]
        rcases hop with rfl | rfl <;> simp [eqGuard]
      · rename_i hp hq'; rw [hp] at e1; rw [hq'] at e2
        rw [vr_nilfn e1, vr_nilfn e2]
        rcases hop with rfl | rfl <;> simp [eqGuard]
      · rename_i hp hq'; rw [hp] at e1; rw [hq'] at e2
        obtain ⟨_, _, f2, _⟩ := vr_fn e2
        rw [vr_nilfn e1, f2]
        rcases hop with rfl | rfl <;> simp [eqGuard]
      · rename_i hp hq'; rw [hp] at e1; rw [hq'] at e2
        obtain ⟨_, _, f2, _⟩ := vr_fn e1
        rw [vr_nilfn e2, f2]
        rcases hop with rfl | rfl <;> simp [eqGuard]
      · rename_i p q hp hq'; rw [hp] at e1; rw [hq'] at e2
        rw [vr_bool e1, vr_bool e2]
        rcases hop with rfl | rfl <;> simp [eqGuard]
      · exact absurd rfl kint
      · rename_i s l m hp hq'; rw [hp] at e1; rw [hq'] at e2
        obtain ⟨xs, f1, _⟩ := vr_agg e1
        obtain ⟨ys, f2, _⟩ := vr_agg e2
        rw [f1, f2]
        exact run_eqGuard_agg W op t x y _ _ (hk2 s rfl)
      · cases hb
    · intro w
      unfold aeqK at hb
      split at hb
      · rename_i hp hq'; rw [hp] at e1; rw [hq'] at e2
        rw [vr_nilif e1, vr_nilif e2]
        rcases hop with rfl | rfl <;> simp [binOp, isNeq]
      · rename_i hp hq'; rw [hp] at e1; rw [hq'] at e2
        obtain ⟨w2, f2, _⟩ := vr_iface e2
        rw [vr_nilif e1, f2]
        rcases hop with rfl | rfl <;> simp [binOp, isNeq]
      · rename_i hp hq'; rw [hp] at e1; rw [hq'] at e2
        obtain ⟨w2, f2, _⟩ := vr_iface e1
        rw [vr_nilif e2, f2]
        rcases hop with rfl | rfl <;> simp [binOp, isNeq]
      · rename_i hp hq'; rw [hp] at e1; rw [hq'] at e2
        rw [vr_nilfn e1, vr_nilfn e2]
        rcases hop with rfl | rfl <;> simp [binOp, isNeq]
      · rename_i hp hq'; rw [hp] at e1; rw [hq'] at e2
        obtain ⟨_, _, f2, _⟩ := vr_fn e2
        rw [vr_nilfn e1, f2]
        rcases hop with rfl | rfl <;> simp [binOp, isNeq]
      · rename_i hp hq'; rw [hp] at e1; rw [hq'] at e2
        obtain ⟨_, _, f2, _⟩ := vr_fn e1
        rw [vr_nilfn e2, f2]
        rcases hop with rfl | rfl <;> simp [binOp, isNeq]
      · rename_i p q hp hq'; rw [hp] at e1; rw [hq'] at e2
        rw [vr_bool e1, vr_bool e2]
        rcases hop with rfl | rfl <;> simp [binOp, isNeq]
      · exact absurd rfl kint
      · rename_i s l m hp hq'; rw [hp] at e1; rw [hq'] at e2
        obtain ⟨xs, f1, _⟩ := vr_agg e1
        obtain ⟨ys, f2, _⟩ := vr_agg e2
        rw [f1, f2]
        rcases hop with rfl | rfl <;> simp [binOp, isNeq]
      · cases hb
end
end Ev
end Go.Proofs.YtcaejedfjobooaaGreat
