/- Calls that a table tells: a long run in parts. -/
import Derived.Test.YtcaejedfjobooaaGreatEvTop
import Derived.Test.YtcaejedfjobooaaGreatEvPiece
namespace Go.Proofs.YtcaejedfjobooaaGreat
open Go Go.RowKit
namespace Ev
namespace Q
/-! Are two values alike? -/
def eqN : List Nat → List Nat → Bool
  | [], [] => true
  | x :: l, y :: m => Nat.beq x y && eqN l m
  | _, _ => false
mutual
noncomputable def eqV : AV → AV → Bool
  | .unk, .unk => true
  | .bool a, .bool b => Bool.rec (Bool.rec true false b) b a
  | .int k n, .int k' n' => Nat.beq (kix k) (kix k') && eqI n n'
  | .nilp, .nilp => true
  | .ptr b o, .ptr b' o' => Nat.beq b b' && Nat.beq o o'
  | .nils, .nils => true
  | .sl b o n k, .sl b' o' n' k' => Nat.beq b b' && Nat.beq o o' && Nat.beq n n' && Nat.beq k k'
  | .nilmap, .nilmap => true
  | .map b, .map b' => Nat.beq b b'
  | .nilfn, .nilfn => true
  | .fn (.func f) a c, .fn (.func f') a' c' => Nat.beq f f' && eqL a a' && eqL c c'
  | .yield b, .yield b' => Nat.beq b b'
  | .nilif, .nilif => true
  | .iface t v, .iface t' v' => Nat.beq t t' && eqV v v'
  | .agg l, .agg l' => eqL l l'
  | .tup l, .tup l' => eqL l l'
  | _, _ => false
noncomputable def eqL : List AV → List AV → Bool
  | [], [] => true
  | x :: l, y :: m => eqV x y && eqL l m
  | _, _ => false
end
noncomputable def eqE : List (AV × AV) → List (AV × AV) → Bool
  | [], [] => true
  | (a, b) :: l, (c, d) :: m => eqV a c && eqV b d && eqE l m
  | _, _ => false
noncomputable def eqB : AB → AB → Bool
  | .cells l, .cells m => eqL l m
  | .map l, .map m => eqE l m
  | .dfr, .dfr => true
  | .dead, .dead => true
  | _, _ => false
theorem eqN_of {a b : Nat} (h : Nat.beq a b = true) : a = b := Nat.eq_of_beq_eq_true h
theorem eqI_of {a b : Int} (h : eqI a b = true) : a = b := by
  cases a <;> cases b <;> simp only [eqI, Bool.false_eq_true] at h
  · rw [eqN_of h]
  · rw [eqN_of h]
mutual
theorem eqV_of : ∀ {x y : AV}, eqV x y = true → x = y := by
  intro x y h
  match x, y, h with
  | .unk, .unk, _ => rfl
  | .bool a, .bool b, h => cases a <;> cases b <;> first | rfl | cases h
  | .int k n, .int k' n', h =>
    simp only [eqV, Bool.and_eq_true] at h
    rw [eqI_of h.2, show k = k' from by have := h.1; rw [kix_eq] at this; exact of_decide_eq_true this]
  | .nilp, .nilp, _ => rfl
  | .ptr .., .ptr .., h => simp only [eqV, Bool.and_eq_true] at h; rw [eqN_of h.1, eqN_of h.2]
  | .nils, .nils, _ => rfl
  | .sl .., .sl .., h => simp only [eqV, Bool.and_eq_true] at h; rw [eqN_of h.1.1.1, eqN_of h.1.1.2, eqN_of h.1.2, eqN_of h.2]
  | .nilmap, .nilmap, _ => rfl
  | .map _, .map _, h => simp only [eqV] at h; rw [eqN_of h]
  | .nilfn, .nilfn, _ => rfl
  | .fn (.func _) _ _, .fn (.func _) _ _, h => simp only [eqV, Bool.and_eq_true] at h; rw [eqN_of h.1.1, eqL_of h.1.2, eqL_of h.2]
  | .yield _, .yield _, h => simp only [eqV] at h; rw [eqN_of h]
  | .nilif, .nilif, _ => rfl
  | .iface _ _, .iface _ _, h => simp only [eqV, Bool.and_eq_true] at h; rw [eqN_of h.1, eqV_of h.2]
  | .agg _, .agg _, h => simp only [eqV] at h; rw [eqL_of h]
  | .tup _, .tup _, h => simp only [eqV] at h; rw [eqL_of h]
theorem eqL_of : ∀ {x y : List AV}, eqL x y = true → x = y := by
  intro x y h
  match x, y, h with
  | [], [], _ => rfl
  | _ :: _, _ :: _, h => simp only [eqL, Bool.and_eq_true] at h; rw [eqV_of h.1, eqL_of h.2]
end
theorem eqE_of : ∀ {x y : List (AV × AV)}, eqE x y = true → x = y
  | [], [], _ => rfl
  | (_, _) :: _, (_, _) :: _, h => by simp only [eqE, Bool.and_eq_true] at h; rw [eqV_of h.1.1, eqV_of h.1.2, eqE_of h.2]
theorem eqB_of : ∀ {x y : AB}, eqB x y = true → x = y
  | .cells _, .cells _, h => by simp only [eqB] at h; rw [eqL_of h]
  | .map _, .map _, h => by simp only [eqB] at h; rw [eqE_of h]
  | .dfr, .dfr, _ => rfl
  | .dead, .dead, _ => rfl

/-! A heap with a hole. -/
def fillT (b : AB) : T (Option AB) → T AB
  | .e k => .e k
  | .v o => .v (match o with | some x => x | none => b)
  | .n k l r => .n k (fillT b l) (fillT b r)
def joinO : Option (Option AB) → Option (Option AB) → Option (Option AB)
  | some none, o => o
  | some (some x), some none => some (some x)
  | _, _ => none
noncomputable def matchT : T (Option AB) → T AB → Option (Option AB)
  | .e k, .e k' => bif Nat.beq k k' then some none else none
  | .v none, .v x => some (some x)
  | .v (some y), .v x => bif eqB y x then some none else none
  | .n k l r, .n k' l' r' => bif Nat.beq k k' then joinO (matchT l l') (matchT r r') else none
  | _, _ => none
theorem joinO_some {a b : Option (Option AB)} {o : Option AB} (h : joinO a b = some o) : ∃ x y, a = some x ∧ b = some y ∧ (∀ z, o = none ∨ o = some z → (x = none ∨ x = some z) ∧ (y = none ∨ y = some z)) := by
  match a, b, h with
  | some none, some y, h => cases h; exact ⟨none, _, rfl, rfl, fun z hz => ⟨.inl rfl, hz⟩⟩
  | some (some x), some none, h => cases h; exact ⟨some x, none, rfl, rfl, fun z hz => ⟨hz, .inl rfl⟩⟩
theorem match_fill : ∀ {t : T (Option AB)} {H : T AB} {o : Option AB}, matchT t H = some o → ∀ b, o = none ∨ o = some b → fillT b t = H
  | .e k, .e k', o, h, b, _ => by
    simp only [matchT] at h
    cases hk : Nat.beq k k' with
    | false => rw [hk] at h; cases h
    | true => rw [eqN_of hk]; rfl
  | .v none, .v x, o, h, b, hb => by
    cases h
    rcases hb with h | h
    · cases h
    · cases h; rfl
  | .v (some y), .v x, o, h, b, _ => by
    simp only [matchT] at h
    cases hk : eqB y x with
    | false => rw [hk] at h; cases h
    | true => rw [eqB_of hk]; rfl
  | .n k l r, .n k' l' r', o, h, b, hb => by
    simp only [matchT] at h
    cases hk : Nat.beq k k' with
    | false => rw [hk] at h; cases h
    | true =>
      rw [hk] at h
      obtain ⟨x, y, h1, h2, h3⟩ := joinO_some h
      obtain ⟨h4, h5⟩ := h3 b hb
      simp only [fillT]
      rw [eqN_of hk, match_fill h1 b h4, match_fill h2 b h5]

/-! The table. -/
/-- A call: its arguments, its answer, the loop that is under way. -/
structure Row where
  args : List AV
  v : AV
  tm : List AV
  params : List Nat
  dfr : Nat
def Row.loop (r : Row) (a b : AC) : AB := .loop ⟨.busy, none, r.tm, r.params, a, b, r.dfr⟩
/-- Calls of one function at one depth, in one heap but for the loop under way, that answer a value and leave no trace. -/
structure Ent where
  lvl : Nat
  g : Nat
  first : List AV
  cap : List AV
  n : Nat
  tpl : T (Option AB)
  tab : List Row
noncomputable def findA : List Row → List AV → Option Row
  | [], _ => none
  | r :: l, args => bif eqL r.args args then some r else findA l args
theorem findA_mem : ∀ {l : List Row} {args : List AV} {r : Row}, findA l args = some r → r ∈ l ∧ r.args = args
  | w :: l, args, r, h => by
    simp only [findA] at h
    cases hk : eqL w.args args with
    | false => rw [hk] at h; exact ⟨List.mem_cons_of_mem _ (findA_mem h).1, (findA_mem h).2⟩
    | true => rw [hk] at h; cases h; exact ⟨List.mem_cons_self .., eqL_of hk⟩
/-- Is a block the loop of a row? -/
noncomputable def isRow (r : Row) : Option AB → Bool
  | some (.loop ⟨.busy, none, tm, params, _, _, dfr⟩) => eqL r.tm tm && eqN r.params params && Nat.beq r.dfr dfr
  | _ => false
theorem eqNs_of : ∀ {x y : List Nat}, eqN x y = true → x = y
  | [], [], _ => rfl
  | _ :: _, _ :: _, h => by simp only [eqN, Bool.and_eq_true] at h; rw [eqN_of h.1, eqNs_of h.2]
theorem isRow_of {r : Row} {o : Option AB} (h : isRow r o = true) : ∃ a b, o = some (r.loop a b) := by
  unfold isRow at h
  split at h
  · rename_i tm params a b dfr
    simp only [Bool.and_eq_true] at h
    refine ⟨a, b, ?_⟩
    rw [← eqL_of h.1.1, ← eqNs_of h.1.2, ← eqN_of h.2]
    rfl
  · cases h
noncomputable def hit (e : Ent) (m : Nat) (f : AV) (args : List AV) (hp : T AB) (n : Nat) : Option AV :=
  bif Nat.beq m e.lvl then
    match f with
    | .fn (.func g) a c => bif Nat.beq g e.g then
        bif eqL a e.first && eqL c e.cap && Nat.beq n e.n then
          match findA e.tab args with
          | none => none
          | some r => match matchT e.tpl hp with
            | some o => bif isRow r o then some r.v else none
            | none => none
        else none
      else none
    | _ => none
  else none
noncomputable def look : List Ent → Nat → AV → List AV → T AB → Nat → R → R
  | [], _, _, _, _, _, D => D
  | e :: l, m, f, args, hp, n, D => match hit e m f args hp n with
    | some v => .cret v hp n []
    | none => look l m f args hp n D
noncomputable def callT (C : Cfg) (T : List Ent) : Nat → CallQ := fun n => Nat.rec (motive := fun _ => CallQ) (fun _ _ _ _ => .no) (fun m ih f args hp n => look T (Nat.succ m) f args hp n
  (asFn f (fun f a b => fnK f fun f => catL args b fun l => catL a l fun l => enterQ C ih f l hp n) (fun l => roundQ C ih l args hp n))) n
def EntOk (C : Cfg) (e : Ent) : Prop := ∀ r, r ∈ e.tab → ∀ a b, callQ C e.lvl (.fn (.func e.g) e.first e.cap) r.args (fillT (r.loop a b) e.tpl) e.n = .cret r.v (fillT (r.loop a b) e.tpl) e.n []
theorem hit_ok {C : Cfg} (hQ : Quick C) {e : Ent} (he : EntOk C e) {m : Nat} {f : AV} {args : List AV} {hp : T AB} {n : Nat} {v : AV} (h : hit e m f args hp n = some v) (hh : WH n hp) : CR (.cret v hp n []) (Ev.call C m f args (listH n hp)) := by
  unfold hit at h
  cases h1 : Nat.beq m e.lvl with
  | false => rw [h1] at h; cases h
  | true =>
  rw [h1] at h
  simp only [cond_true] at h
  split at h
  · rename_i g a c
    cases h2 : Nat.beq g e.g with
    | false => rw [h2] at h; cases h
    | true =>
    cases h3 : (eqL a e.first && eqL c e.cap && Nat.beq n e.n) with
    | false => rw [h2, h3] at h; cases h
    | true =>
    rw [h2, h3] at h
    simp only [cond_true] at h
    cases h4 : findA e.tab args with
    | none => rw [h4] at h; cases h
    | some w =>
    rw [h4] at h
    simp only at h
    cases h5 : matchT e.tpl hp with
    | none => rw [h5] at h; cases h
    | some o =>
    rw [h5] at h
    simp only at h
    cases h6 : isRow w o with
    | false => rw [h6] at h; cases h
    | true =>
    rw [h6] at h
    cases h
    obtain ⟨a1, b1, rfl⟩ := isRow_of h6
    simp only [Bool.and_eq_true] at h3
    have e1 := eqN_of h1
    have e2 := eqN_of h2
    have e3 := eqL_of h3.1.1
    have e4 := eqL_of h3.1.2
    have e5 := eqN_of h3.2
    subst e1 e2 e3 e4 e5
    have e6 := match_fill h5 _ (.inr rfl)
    have := callQ_ok hQ e.lvl (.fn (.func e.g) e.first e.cap) args hp e.n hh
    obtain ⟨m1, m2⟩ := findA_mem h4
    rw [← e6, ← m2, he w m1 a1 b1, e6, m2] at this
    exact this
  · cases h
theorem look_ok {C : Cfg} (hQ : Quick C) {m : Nat} {f : AV} {args : List AV} {hp : T AB} {n : Nat} (hh : WH n hp) {D : R} (hD : CR D (Ev.call C m f args (listH n hp))) : ∀ {T : List Ent}, (∀ e ∈ T, EntOk C e) → CR (look T m f args hp n D) (Ev.call C m f args (listH n hp))
  | [], _ => hD
  | e :: l, hT => by
    simp only [look]
    split
    · rename_i v hv
      exact hit_ok hQ (hT e (List.mem_cons_self ..)) hv hh
    · exact look_ok hQ hh hD fun e' h' => hT e' (List.mem_cons_of_mem _ h')
theorem callT_ok {C : Cfg} (hQ : Quick C) {T : List Ent} (hT : ∀ e ∈ T, EntOk C e) : ∀ m, CQ (callT C T m) (Ev.call C m)
  | 0 => fun f args hp n _ => .no
  | m + 1 => fun f args hp n hh => by
    have ih := callT_ok hQ hT m
    have e : callT C T (m + 1) f args hp n = look T (m + 1) f args hp n (asFn f (fun f a b => fnK f fun f => catL args b fun l => catL a l fun l => enterQ C (callT C T m) f l hp n) (fun l => roundQ C (callT C T m) l args hp n)) := rfl
    rw [e]
    refine look_ok hQ hh ?_ hT
    rw [asFn_eq]
    simp only [Ev.call]
    split
    · rename_i f' a b
      rw [fnK_eq]
      cases f' with
      | func f'' =>
        simp only [catL_eq]
        rw [List.append_assoc]
        exact enterQ_ok hQ ih hh
      | _ => exact .no
    · exact roundQ_ok hQ ih hh
    · exact .no
end Q
theorem call_runT {C : Cfg} {T : List Q.Ent} {m f k : Nat} {fn : AFunc} {tr' : Q.T AV} {df' : List ADef} {hp' : Q.T AB} {n' : Nat} {tc' : List Nat} {r : Q.R} (hx : C.ext f = none) (hf : C.fns f = some fn) (hw : C.whole f = true) (hk : Nat.log2 fn.ntmps + 1 = k) (hxh : C.exth f = none)
    (hb : Q.evQ C (Q.callT C T m) 0 fn.ntmps none (restP 0 fn.body) (.e k) [] (.e Q.cap) 0 [] = .ret tr' df' hp' n' tc') (hr : Q.outQ C 0 (.e Q.cap) (Q.finQ C 0 fn.ntmps fn (.ret tr' df' hp' n' tc')) = r) :
    Q.enterQ C (Q.callT C T m) f [] (.e Q.cap) 0 = r := by
  unfold Q.enterQ
  rw [hx, hxh, hf]
  show (Bool.rec (Q.slowRun C (Q.callT C T m) fn [] (.e Q.cap) 0) (Q.runQ C (Q.callT C T m) fn [] (.e Q.cap) 0) (C.whole f) : Q.R) = r
  rw [hw]
  show Q.runQ C (Q.callT C T m) fn [] (.e Q.cap) 0 = r
  unfold Q.runQ
  rw [show Nat.ble (Q.lenL []) fn.ntmps = true from by rw [Q.ble_iff]; simp]
  show Q.newT fn.ntmps (fun tr => Q.outQ C 0 (.e Q.cap) (Q.finQ C 0 fn.ntmps fn (Q.evQ C (Q.callT C T m) 0 fn.ntmps none fn.body tr [] (.e Q.cap) 0 []))) = r
  rw [(Q.newT_spec fn.ntmps _).1, hk]
  rw [show Q.evQ C (Q.callT C T m) 0 fn.ntmps none fn.body (.e k) [] (.e Q.cap) 0 [] = .ret tr' df' hp' n' tc' from hb]
  exact hr
theorem top_table {P : Program} {C : Cfg} {T : List Q.Ent} (hT : TblOk P C) (hQ : Q.Quick C) (hE : ∀ e ∈ T, Q.EntOk C e) {m f n : Nat} {b : Bool} {hp : Q.T AB} {tc : List Nat} (h : Q.enterQ C (Q.callT C T m) f [] (.e Q.cap) 0 = .cret (.bool b) hp n tc) (W : World) (hG : Globs C W (fun _ => False)) :
    CallsIn Fence.wide 0 P f #[] W fun e W' => e = .returned (.bool b) ∧ Below W.heap.size W W' := by
  have := Q.enterQ_ok hQ (Q.callT_ok hQ hE m) (f := f) (args := []) (H := .e Q.cap) (n := 0) Q.wh_empty
  rw [h] at this
  have e : Ev.call C (m + 1) (.fn (.func f) [] []) [] [] = enter C (Ev.call C m) f [] (Q.listH 0 (.e Q.cap)) := rfl
  generalize hg : enter C (Ev.call C m) f [] (Q.listH 0 (.e Q.cap)) = o at this e
  cases this with
  | ret w => exact top_bool hT e W hG
end Ev
end Go.Proofs.YtcaejedfjobooaaGreat
