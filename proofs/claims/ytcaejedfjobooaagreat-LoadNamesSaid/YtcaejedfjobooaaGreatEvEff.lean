/- Operations that write: stores, maps. -/
import Derived.Test.YtcaejedfjobooaaGreatEvNew
namespace Go.Proofs.YtcaejedfjobooaaGreat
open Go Go.RowKit
namespace Ev
section
variable {P : Program} {E : Ent} {tc : List Nat} {W : World} {L : Nat → Prop} {μ : Mu} {H : List AB} {C : Cfg} {tm : List AV} {a : Act}

/-- How an operation of the model's ends that is no call. -/
def NX (nx : Next) (x : Value) : Prop := nx = .value x ∨ (nx = .skip ∧ x = undef)

theorem setRow_upd {g : Nat} {cur cs : Array Value} {t : TypeId} {fz : Nat × Nat} (hg : W.heap[g]? = some (.cells cur t fz)) : Upd g (.cells cs t fz) W (W.setRow g cs) := by
  refine ⟨by simp [World.setRow], setRow_heap W g cur cs t fz hg, fun b hb => ?_, rfl, rfl, rfl⟩
  simp only [World.setRow, Array.getElem?_modify]
  rw [if_neg (fun h => hb h.symm)]

theorem vl_prefix {cs : List AV} {rs : Array Value} {t : TypeId} (h : BR P W L μ (.cells cs) (.cells rs t (0, 0))) : VL W L μ cs (rs.toList.take cs.length) := by
  cases h with
  | cells h1 h2 => exact ⟨by simp; omega, fun i x r hx hr => by
      have hi : i < cs.length := (List.getElem?_eq_some_iff.1 hx).1
      rw [List.getElem?_take_of_lt hi] at hr
      exact h2 i x r hx (by simpa using hr)⟩
theorem br_prefix {cs : List AV} {xs ys : List Value} {t : TypeId} (h : VL W L μ cs xs) : BR P W L μ (.cells cs) (.cells (xs ++ ys).toArray t (0, 0)) := by
  have hl := h.1
  refine .cells (by simp; omega) fun i x r hx hr => ?_
  have hi : i < cs.length := (List.getElem?_eq_some_iff.1 hx).1
  rw [List.getElem?_toArray, List.getElem?_append_left (by omega)] at hr
  exact h.2 i x r hx hr

theorem splice_split (rs vs : List Value) (n off : Nat) (h1 : off + vs.length ≤ n) (h2 : n ≤ rs.length) :
    rs.take off ++ vs ++ rs.drop (off + vs.length) = ((rs.take n).take off ++ vs ++ (rs.take n).drop (off + vs.length)) ++ rs.drop n := by
  rw [List.take_take, Nat.min_eq_left (by omega), List.append_assoc, List.append_assoc, List.append_assoc, List.drop_take]
  congr 2
  have : rs.drop (off + vs.length) = (rs.drop (off + vs.length)).take (n - (off + vs.length)) ++ (rs.drop (off + vs.length)).drop (n - (off + vs.length)) := (List.take_append_drop _ _).symm
  rw [List.drop_drop] at this
  rw [show off + vs.length + (n - (off + vs.length)) = n by omega] at this
  exact this

/-- Cells of a block are written. -/
theorem Hp.write (h : Hp P E tc W L μ H) {b B : Nat} {cs l : List AV} (hb : H[b]? = some (.cells cs)) (hm : μ b = .at B) {vs : List Value} (hv : VL W L μ l vs) (h1 : ∀ u ∈ vs, u.oneCell' = true) {off : Nat} (hl : off + l.length ≤ cs.length) :
    ∃ W', (storeCells ⟨B, off, none⟩ vs).run P W = .ok () W' ∧ Hp P E ([b].filter (· < E.pin) ++ tc) W' L μ (H.set b (.cells (setAt cs off l))) ∧ Later L L W W' := by
  obtain ⟨hB, hlt, blk, o, e1, e2, e3⟩ := h.sim.live b B hm
  rw [hb] at e1; cases e1
  obtain ⟨rs, t, rfl⟩ : ∃ rs t, o = .cells rs t (0, 0) := by cases e3 with | @cells _ rs t _ _ => exact ⟨rs, t, rfl⟩
  have hpre := vl_prefix e3
  have hsz : cs.length ≤ rs.size := by cases e3 with | cells h1 _ => exact h1
  have hvl := hv.1
  have hrun := run_storeCells_at P B off t vs 0 rs W e2 (by simpa using (by omega : off + vs.length ≤ rs.size)) h1
  refine ⟨_, hrun, ?_⟩
  have e := splice_split rs.toList vs cs.length off (by omega) (by simpa using hsz)
  simp only [Nat.add_zero]
  rw [e]
  exact h.put hm e2 (setRow_upd e2) (fun rs' t' f hc => by cases hc; exact ⟨_, rfl, by simp; omega⟩) (br_prefix (hpre.setAt hv off))

theorem store_ok {t k : Nat} {x y : Operand} {x' y' : Opnd} (h : Hp P E tc W L μ H) (he : Env C W L μ tm a) (hsz : sizeT P t = some k) (h1 : opnd x = some x') (h2 : opnd y = some y') {r : XR} (hx : xeff H (val C tm) (.store k x' y') = some r) :
    ∃ W', (Instr.storeAt t (a.eval x) (a.eval y)).run P W = .ok () W' ∧ r.v = .unk ∧ Hp P E (r.tc.filter (· < E.pin) ++ tc) W' L μ r.hp ∧ Later L L W W' := by
  have e1 := opnd_ok he h1
  have e2 := opnd_ok he h2
  simp only [xeff] at hx
  split at hx
  · rename_i b off l hb hl
    rw [hb] at e1
    split at hx
    · rename_i cs hcs
      split at hx <;> cases hx
      rename_i hc
      obtain ⟨c1, c2, c3⟩ := hc
      obtain ⟨B, hm, g1, _⟩ := rd_ptr h.sim e1 hcs
      have hv := cellsOf_ok e2 hl
      obtain ⟨W', f1, f2, f3⟩ := h.write hcs hm hv (vl_plain c3 hv) c2
      refine ⟨W', ?_, rfl, f2, f3⟩
      have hs : (a.eval y).cells.size = k := by have := hv.1; simp at this; omega
      simp [Instr.storeAt, g1, Instr.sureAddr, storeVar, sizeT_run hsz, hs, f1]
    · cases hx
  · cases hx

/-- Writing into a map. -/
theorem putA_spec {kn : EK} {key v : AV} : ∀ {es es' : List (AV × AV)}, putA kn key v es = some es' → (findA kn key es = some none ∧ es' = es ++ [(key, v)]) ∨ (∃ i k u, es[i]? = some (k, u) ∧ findA kn key es = some (some u) ∧ es' = es.set i (key, v) ∧ aeqK kn key k = some true ∧ ∀ j k' u', j < i → es[j]? = some (k', u') → aeqK kn key k' = some false)
  | [], es', h => by cases h; exact .inl ⟨rfl, rfl⟩
  | (k, u) :: es, es', h => by
    unfold putA at h
    split at h
    · rename_i hq
      cases h
      exact .inr ⟨0, k, u, rfl, by simp [findA, hq], rfl, hq, fun j _ _ hj => by omega⟩
    · rename_i hq
      cases hr : putA kn key v es with
      | none => rw [hr] at h; cases h
      | some es2 =>
        rw [hr] at h; cases h
        rcases putA_spec hr with ⟨h1, rfl⟩ | ⟨i, k', u', h1, h2, rfl, h3, h4⟩
        · exact .inl ⟨by simp [findA, hq, h1], rfl⟩
        · refine .inr ⟨i + 1, k', u', by simpa using h1, by simp [findA, hq, h2], by simp, h3, fun j k2 u2 hj hjk => ?_⟩
          cases j with
          | zero => simp at hjk; obtain ⟨rfl, rfl⟩ := hjk; exact hq
          | succ j => exact h4 j k2 u2 (by omega) (by simpa using hjk)
    · cases h

theorem sameBits_ok {n : Nat} : ∀ {s : List Bool} {l m : List AV} {xs ys : List Value}, aeqS s l m = some true → VL W L μ l xs → VL W L μ m ys → ((ys.zip xs).all fun (x, y) => Instr.sameBits n x y) = true
  | s, l, m, xs, ys, h, hx, hy => by
    unfold aeqS at h
    split at h
    · cases ys with
      | nil => rfl
      | cons y ys => have := hy.1; simp at this
    · rename_i s k p l k' q m
      split at h
      case isFalse => cases h
      rename_i hk
      cases hr : aeqS s l m with
      | none => rw [hr] at h; cases h
      | some c =>
        rw [hr] at h
        simp at h
        obtain ⟨h1, rfl⟩ := h
        cases xs with
        | nil => have := hx.1; simp at this
        | cons x xs => cases ys with
          | nil => have := hy.1; simp at this
          | cons y ys =>
            have ih := sameBits_ok (n := n) hr hx.tail hy.tail
            simp only [List.zip_cons_cons, List.all_cons, Bool.and_eq_true]
            refine ⟨?_, ih⟩
            rw [vr_int hx.head, vr_int hy.head]
            cases n <;> simp [Instr.sameBits, hk, h1]
    · rename_i s p l q m
      cases hr : aeqS s l m with
      | none => rw [hr] at h; cases h
      | some c =>
        rw [hr] at h
        simp at h
        obtain ⟨h1, rfl⟩ := h
        cases xs with
        | nil => have := hx.1; simp at this
        | cons x xs => cases ys with
          | nil => have := hy.1; simp at this
          | cons y ys =>
            have ih := sameBits_ok (n := n) hr hx.tail hy.tail
            simp only [List.zip_cons_cons, List.all_cons, Bool.and_eq_true]
            refine ⟨?_, ih⟩
            rw [vr_bool hx.head, vr_bool hy.head]
            cases n <;> simp [Instr.sameBits, h1]
    · cases h

theorem keyStays_ok {t : Nat} {kn : EK} (hk : keyT P t = some kn) {x y : AV} (h : aeqK kn x y = some true) {vx vy : Value} (hx : VR W L μ x vx) (hy : VR W L μ y vy) : (Instr.keyThatStays vy vx).run P W = .ok vx W := by
  have hs : Instr.sameBits (9999 + 1) vy vx = true := by
    unfold aeqK at h
    split at h
    all_goals first
      | (exfalso; unfold keyT at hk; revert hk; (repeat' split) <;> intro hk <;> first | contradiction | (cases hk; done) | (obtain ⟨y, _, h0⟩ := Option.map_eq_some_iff.1 hk; cases h0; done))
      | (rw [vr_bool hx, vr_bool hy]; cases h; rename_i h0; simp [Instr.sameBits] at *; exact h0.symm)
      | skip
    · rw [vr_bool hx, vr_bool hy]; simp at h; simp [Instr.sameBits, h]
    · split at h
      · rename_i hkk
        subst hkk
        rw [vr_int hx, vr_int hy]; simp at h; simp [Instr.sameBits, h]
      · cases h
    · rename_i s l m
      obtain ⟨xs, rfl, hxs⟩ := vr_agg hx
      obtain ⟨ys, rfl, hys⟩ := vr_agg hy
      have hl := aeqS_len h
      have := sameBits_ok (n := 9999) h hxs hys
      simp only [Instr.sameBits]
      simp [this, hxs.1.symm, hys.1.symm, hl.1, hl.2]
  have hs' : Instr.sameBits 10000 vy vx = true := hs
  simp [Instr.keyThatStays, hs']

theorem br_map {es : List (AV × AV)} {res : Array MapEntry} {clk : Nat} (h : ER W L μ es res.toList) : BR P W L μ (.map es) (.map res clk) := by
  have len : ∀ {es : List (AV × AV)} {rs : List MapEntry}, ER W L μ es rs → es.length = rs.length := by
    intro es
    induction es with
    | nil => intro rs h; cases rs with
      | nil => rfl
      | cons _ _ => exact h.elim
    | cons p es ih => intro rs h; cases rs with
      | nil => exact h.elim
      | cons r rs => simp [ih h.2.2]
  have get : ∀ {es : List (AV × AV)} {rs : List MapEntry}, ER W L μ es rs → ∀ (i : Nat) (k v : AV) (e : MapEntry), es[i]? = some (k, v) → rs[i]? = some e → VR W L μ k e.key ∧ VR W L μ v e.val := by
    intro es
    induction es with
    | nil => intro rs _ i k v e h; simp at h
    | cons p es ih => intro rs h i k v e h1 h2; cases rs with
      | nil => exact h.elim
      | cons r rs =>
        cases i with
        | zero => simp at h1 h2; subst h1 h2; exact ⟨h.1, h.2.1⟩
        | succ i => exact ih h.2.2 i k v e (by simpa using h1) (by simpa using h2)
  exact .map (by simpa using len h) fun i k v e h1 h2 => get h i k v e h1 (by simpa using h2)
theorem ER.append {es : List (AV × AV)} {k v : AV} {e : MapEntry} (hk : VR W L μ k e.key) (hv : VR W L μ v e.val) : ∀ {rs : List MapEntry}, ER W L μ es rs → ER W L μ (es ++ [(k, v)]) (rs ++ [e]) := by
  induction es with
  | nil => intro rs h; cases rs with
    | nil => exact ⟨hk, hv, trivial⟩
    | cons _ _ => exact h.elim
  | cons p es ih => intro rs h; cases rs with
    | nil => exact h.elim
    | cons r rs => exact ⟨h.1, h.2.1, ih h.2.2⟩
theorem ER.set {es : List (AV × AV)} {k v : AV} {e : MapEntry} (hk : VR W L μ k e.key) (hv : VR W L μ v e.val) : ∀ {rs : List MapEntry} (i : Nat), ER W L μ es rs → ER W L μ (es.set i (k, v)) (rs.set i e) := by
  induction es with
  | nil => intro rs i h; cases rs with
    | nil => trivial
    | cons _ _ => exact h.elim
  | cons p es ih => intro rs i h; cases rs with
    | nil => exact h.elim
    | cons r rs =>
      cases i with
      | zero => exact ⟨hk, hv, h.2.2⟩
      | succ i => exact ⟨h.1, h.2.1, ih i h.2.2⟩

theorem setObj_upd {r : Nat} {o o' : Obj} (h : W.heap[r]? = some o) (hn : ∀ c t f, o ≠ .cells c t f) : (setObj r o').run P W = .ok () { W with heap := W.heap.setIfInBounds r o' } ∧ Upd r o' W { W with heap := W.heap.setIfInBounds r o' } := by
  have hlt : r < W.heap.size := (Array.getElem?_eq_some_iff.1 h).1
  refine ⟨?_, by simp, by simp [hlt], fun b hb => by simp [Array.getElem?_setIfInBounds, Ne.symm hb], rfl, rfl, rfl⟩
  cases o <;> first | exact absurd rfl (hn _ _ _) | simp [setObj, Sem.run, h]

theorem mapupd_ok {t k e : Nat} {kn : EK} {m key y : Operand} {m' key' y' : Opnd} (h : Hp P E tc W L μ H) (he : Env C W L μ tm a) (hu : P.underlying t = some (.map k e)) (hk : keyT P k = some kn) (h1 : opnd m = some m') (h2 : opnd key = some key') (h3 : opnd y = some y')
    {r : XR} (hx : xeff H (val C tm) (.mapupd kn m' key' y') = some r) :
    ∃ W', (Instr.mapUpdate t (a.eval m) (a.eval key) (a.eval y)).run P W = .ok () W' ∧ r.v = .unk ∧ Hp P E (r.tc.filter (· < E.pin) ++ tc) W' L μ r.hp ∧ Later L L W W' := by
  have e1 := opnd_ok he h1
  have e2 := opnd_ok he h2
  have e3 := opnd_ok he h3
  simp only [xeff] at hx
  split at hx
  · rename_i b hb
    rw [hb] at e1
    split at hx
    · rename_i es hes
      split at hx
      case isFalse => cases hx
      rename_i hko
      cases hp : putA kn (val C tm key') (val C tm y') es with
      | none => rw [hp] at hx; cases hx
      | some es' =>
        rw [hp] at hx; cases hx
        obtain ⟨B, res, clk, hm, g2, g3, g4, g5⟩ := map_at h.sim e1 hes
        have hg : (getObj B).run P W = .ok (.map res clk) W := by simp [getObj, Sem.run, g3]
        have hc := checkKey_ok hk hko e2 (P := P) false
        rcases putA_spec hp with ⟨f1, rfl⟩ | ⟨i, k', u', f1, f2, rfl, f3, f4⟩
        · obtain ⟨r', p1, p2⟩ := findKey_ok (P := P) hk hko e2 g5 f1
          cases r' with
          | some q => exact p2.elim
          | none =>
            obtain ⟨s1, s2⟩ := setObj_upd (P := P) (o' := .map (res.push { key := a.eval key, val := a.eval y, born := clk }) (clk + 1)) g3 (fun _ _ _ => by simp)
            refine ⟨_, ?_, rfl, h.put hm g3 s2 (fun rs t f hh => by cases hh) (br_map ?_)⟩
            · simp [Instr.mapUpdate, run_underlying hu, g2, hg, hc, p1, s1]
            · rw [Array.toList_push]; exact ER.append e2 e3 g5
        · obtain ⟨r', p1, p2⟩ := findKey_ok (P := P) hk hko e2 g5 f2
          cases r' with
          | none => exact p2.elim
          | some q =>
            obtain ⟨j, x⟩ := q
            obtain ⟨_, _, ⟨k2, q1, q2⟩, q3⟩ := p2
            simp only [Nat.sub_zero] at q1 q3
            have hij : j = i := by
              rcases Nat.lt_trichotomy j i with hlt | heq | hgt
              · have := f4 j k2 _ hlt q1; rw [q2] at this; cases this
              · exact heq
              · have := q3 i hgt k' u' f1; rw [f3] at this; cases this
            subst hij
            have hjl : j < res.size := by rw [← g4]; exact (List.getElem?_eq_some_iff.1 f1).1
            have hrj : res[j]? = some res[j] := Array.getElem?_eq_getElem hjl
            have hkey : VR W L μ k' res[j].key := by
              have := br_map (P := P) (clk := clk) g5
              cases this with
              | map _ hh => exact (hh j k' u' _ f1 hrj).1
            have hst := keyStays_ok (P := P) hk f3 e2 hkey
            obtain ⟨s1, s2⟩ := setObj_upd (P := P) (o' := .map (res.modify j fun e => { e with key := a.eval key, val := a.eval y }) clk) g3 (fun _ _ _ => by simp)
            refine ⟨_, ?_, rfl, h.put hm g3 s2 (fun rs t f hh => by cases hh) (br_map ?_)⟩
            · simp [Instr.mapUpdate, run_underlying hu, g2, hg, hc, p1, hrj, hst, s1]
            · have : (res.modify j fun e => { e with key := a.eval key, val := a.eval y }).toList = res.toList.set j { res[j] with key := a.eval key, val := a.eval y } := by
                apply List.ext_getElem?
                intro q
                rw [Array.getElem?_toList, Array.getElem?_modify, List.getElem?_set]
                by_cases hq : j = q
                · subst hq; simp [hjl]
                · simp [hq]
              rw [this]
              exact ER.set e2 e3 j g5
    · cases hx
  · cases hx
end
end Ev
end Go.Proofs.YtcaejedfjobooaaGreat
