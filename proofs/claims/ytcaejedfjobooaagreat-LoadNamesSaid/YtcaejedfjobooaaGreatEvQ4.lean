/- The quick evaluator: code and calls. -/
import Derived.Test.YtcaejedfjobooaaGreatEvQ3
namespace Go.Proofs.YtcaejedfjobooaaGreat
open Go
namespace Ev
namespace Q
section
variable {C : Cfg} {N pin : Nat} {rd : Option Nat} {call' : CallQ} {call : CallF}

theorem forgetK_spec : ∀ {l : List Nat} {tr : T AV}, (∀ t, t ∈ l → t < N) → WT N tr → ∃ tr', (∀ K, forgetK l tr K = K tr') ∧ WT N tr' ∧ listT N tr' = forget l (listT N tr)
  | [], tr, _, ht => ⟨tr, fun _ => rfl, ht, rfl⟩
  | t :: l, tr, h, ht => by
    obtain ⟨tr1, a1, a2, a3⟩ := setT_spec ht (h t (List.mem_cons_self ..)) .unk
    obtain ⟨tr2, b1, b2, b3⟩ := forgetK_spec (l := l) (fun x hx => h x (List.mem_cons_of_mem _ hx)) a2
    refine ⟨tr2, fun K => ?_, b2, by rw [b3, a3]; rfl⟩
    show setK tr t .unk (fun tr => forgetK l tr K) = _
    rw [a1, b1]

theorem keepK_spec {tr : T AV} : ∀ {l : List Nat} {acc : T AV}, (∀ t, t ∈ l → t < N) → WT N acc → (∀ s, s < N → (listT N acc).getD s .unk = .unk ∨ (listT N acc).getD s .unk = (listT N tr).getD s .unk) →
    ∃ tr', (∀ K, keepK l tr acc K = K tr') ∧ WT N tr' ∧ listT N tr' = l.foldl (fun acc t => acc.set t ((listT N tr).getD t .unk)) (listT N acc)
  | [], acc, _, ha, _ => ⟨acc, fun _ => rfl, ha, rfl⟩
  | t :: l, acc, h, ha, hs => by
    have ht := h t (List.mem_cons_self ..)
    have e : ∀ K, keepK (t :: l) tr acc K = getK tr t (keepK l tr acc K) fun v => setK acc t v fun acc => keepK l tr acc K := fun _ => rfl
    cases hat : at? tr t with
    | none =>
      have hu : (listT N tr).getD t .unk = .unk := by rw [listT_getD tr ht, hat]; rfl
      have hself : (listT N acc).set t .unk = listT N acc := by
        refine List.ext_getElem? fun s => ?_
        by_cases hst : t = s
        · subst hst
          have h1 := hs t ht
          rw [hu, or_self, List.getD_eq_getElem?_getD, listT_get acc ht] at h1
          rw [List.getElem?_set_self (by rw [listT_len]; exact ht), listT_get acc ht]
          simpa using h1.symm
        · rw [List.getElem?_set_ne hst]
      obtain ⟨tr', a1, a2, a3⟩ := keepK_spec (l := l) (fun x hx => h x (List.mem_cons_of_mem _ hx)) ha hs
      refine ⟨tr', fun K => by rw [e, getK_eq, hat]; exact a1 K, a2, ?_⟩
      rw [a3, List.foldl_cons, hu, hself]
    | some v =>
      have hu : (listT N tr).getD t .unk = v := by rw [listT_getD tr ht, hat]; rfl
      obtain ⟨acc', b1, b2, b3⟩ := setT_spec ha ht v
      obtain ⟨tr', a1, a2, a3⟩ := keepK_spec (tr := tr) (l := l) (acc := acc') (fun x hx => h x (List.mem_cons_of_mem _ hx)) b2 (fun s hsN => by
        rw [b3]
        by_cases hst : t = s
        · subst hst
          right
          rw [List.getD_eq_getElem?_getD, List.getElem?_set_self (by rw [listT_len]; exact ht), hu]; rfl
        · rw [List.getD_eq_getElem?_getD, List.getElem?_set_ne hst, ← List.getD_eq_getElem?_getD]; exact hs s hsN)
      refine ⟨tr', fun K => by rw [e, getK_eq, hat]; simp only; rw [b1]; exact a1 K, a2, ?_⟩
      rw [a3, List.foldl_cons, hu, b3]

theorem laysK_spec : ∀ {l : List AV} {i : Nat} {tr : T AV}, i + l.length ≤ N → WT N tr → ∃ tr', (∀ K, laysK l i tr K = K tr') ∧ WT N tr' ∧ listT N tr' = (listT N tr).take i ++ l ++ (listT N tr).drop (i + l.length)
  | [], i, tr, _, ht => ⟨tr, fun _ => rfl, ht, by simp⟩
  | v :: l, i, tr, h, ht => by
    simp only [List.length_cons] at h
    obtain ⟨tr1, a1, a2, a3⟩ := setT_spec ht (show i < N by omega) v
    obtain ⟨tr2, b1, b2, b3⟩ := laysK_spec (l := l) (i := i + 1) (by omega) a2
    refine ⟨tr2, fun K => ?_, b2, ?_⟩
    · show setK tr i v (fun tr => laysK l (i + 1) tr K) = _
      rw [a1, b1]
    · rw [b3, a3]
      have hl : (listT N tr).length = N := listT_len N tr
      rw [List.take_succ_eq_append_getElem (by simp; omega), List.take_set_of_le (Nat.le_refl _), List.drop_set_of_lt (by omega)]
      simp [show i + 1 + l.length = i + (l.length + 1) by omega]
theorem ofL_spec {l : List AV} (h : l.length = N) : ∃ tr', (∀ K, ofL N l K = K tr') ∧ WT N tr' ∧ listT N tr' = l := by
  obtain ⟨tr', a1, a2, a3⟩ := laysK_spec (l := l) (i := 0) (by omega) (newT_spec N (fun _ => .no)).2.1
  refine ⟨tr', fun K => by show newT N (fun tr => laysK l 0 tr K) = _; rw [(newT_spec N _).1, a1], a2, ?_⟩
  rw [a3, (newT_spec N (fun _ => .no)).2.2]
  simp [h]

theorem ofDfs_eq : ∀ (l : List ADef) (K : List ADef → R), ofDfs l K = K l
  | [], _ => rfl
  | d :: l, K => by
    show ofDf d (fun d => ofDfs l fun l => K (d :: l)) = _
    cases d with
    | mark d =>
      have h1 : ofDf (.mark d) (fun d => ofDfs l fun l => K (d :: l)) = ofDfs l fun l => K (.mark d :: l) := natK_eq d fun d => ofDfs l fun l => K (.mark d :: l)
      rw [h1, ofDfs_eq]
    | call f a =>
      have h1 : ofDf (.call f a) (fun d => ofDfs l fun l => K (d :: l)) = ofDfs l fun l => K (.call f a :: l) := forceL_eq a fun a => ofDfs l fun l => K (.call f a :: l)
      rw [h1, ofDfs_eq]
theorem ofSt_spec {st : St} (h : st.tm.length = N) (K : SQ) : ofSt N st K = .no ∨ ∃ tr hp n, ofSt N st K = K tr st.df hp n st.tc ∧ WT N tr ∧ WH n hp ∧ St.mk (listT N tr) st.df (listH n hp) st.tc = st := by
  obtain ⟨tm, df, hp, tc⟩ := st
  obtain ⟨tr', a1, a2, a3⟩ := ofL_spec h
  have e : ofSt N ⟨tm, df, hp, tc⟩ K = ofH hp fun hp n => K tr' df hp n tc := by
    show forceL tm _ = _
    rw [forceL_eq, a1, ofDfs_eq]
    simp only [forceNs_eq]
  rw [e]
  rcases ofH_spec hp fun hp n => K tr' df hp n tc with h1 | ⟨hp', n', h1, h2, h3⟩
  · exact .inl h1
  · exact .inr ⟨tr', hp', n', h1, a2, h2, by simp only at a3; rw [a3, h3]⟩

theorem renL_len (σ : Nat → Option Nat) : ∀ l : List AV, (renL σ l).length = l.length
  | [] => rfl
  | v :: l => by simp [renL, renL_len σ l]
theorem gc_len {st : St} : (gc pin st).tm.length = st.tm.length := by
  unfold gc
  simp only
  split
  · simp [renL_len]
  · rfl

theorem headQ_spec {live : List Nat} {tr : T AV} {df : List ADef} {hp : T AB} {n : Nat} {tc : List Nat} (hl : ∀ t, t ∈ live → t < N) (ht : WT N tr) (hh : WH n hp) (K : SQ) :
    headQ C pin N live K tr df hp n tc = .no ∨ ∃ tr' df' hp' n' tc', headQ C pin N live K tr df hp n tc = K tr' df' hp' n' tc' ∧ WT N tr' ∧ WH n' hp' ∧
      St.mk (listT N tr') df' (listH n' hp') tc' = gcC C pin { St.mk (listT N tr) df (listH n hp) tc with tm := keepT live (listT N tr) } := by
  obtain ⟨n1, n2, n3⟩ := newT_spec N (fun _ => .no)
  obtain ⟨tr1, a1, a2, a3⟩ := keepK_spec (tr := tr) (l := live) hl n2 (fun s hs => by
    left; rw [n3, List.getD_eq_getElem?_getD, List.getElem?_replicate, if_pos hs]; rfl)
  have e : headQ C pin N live K tr df hp n tc = Bool.rec (ofSt N (gc pin { tm := listT N tr1, df := df, hp := listH n hp, tc := tc }) K) (K tr1 df hp n tc) (Nat.ble n (Nat.add pin C.gcAt)) := by
    show newT N _ = _
    rw [(newT_spec N _).1, a1]
  have hk : listT N tr1 = keepT live (listT N tr) := by
    rw [a3, n3]; unfold keepT; rw [listT_len]
  rw [e, boolRec_if]
  unfold gcC
  simp only [← hk]
  rw [listH_len]
  show (if Nat.ble n (pin + C.gcAt) = true then _ else _) = R.no ∨ _
  cases hb : Nat.ble n (pin + C.gcAt) with
  | true =>
    rw [if_pos rfl]
    exact .inr ⟨tr1, df, hp, n, tc, rfl, a2, hh, rfl⟩
  | false =>
    rw [if_neg (by simp)]
    rcases ofSt_spec (N := N) (st := gc pin { tm := listT N tr1, df := df, hp := listH n hp, tc := tc }) (by rw [gc_len]; exact listT_len N tr1) K with h | ⟨tr', hp', n', h1, h2, h3, h4⟩
    · exact .inl h
    · exact .inr ⟨tr', _, hp', n', _, h1, h2, h3, h4⟩

theorem all_lt {l : List Nat} (h : (l.all fun t => Nat.ble (Nat.succ t) N) = true) : ∀ t, t ∈ l → t < N := fun t ht => by
  rw [List.all_eq_true] at h
  exact Nat.le_of_ble_eq_true (h t ht)
theorem dst_lt {l : List AOp} (h : l.all (okOp N) = true) : ∀ t, t ∈ l.filterMap (·.dst) → t < N := fun t ht => by
  rw [List.all_eq_true] at h
  obtain ⟨o, ho, hd⟩ := List.mem_filterMap.1 ht
  exact (okOp_spec (h o ho)).1 t hd

theorem loopQ_ok {head : SQ → SQ} {body : SQ} {headF : St → St} {bodyF : St → Option (AExit × St)}
    (hhead : ∀ (tr : T AV) (df : List ADef) (hp : T AB) (n : Nat) (tc : List Nat) (K : SQ), WT N tr → WH n hp → head K tr df hp n tc = .no ∨ ∃ tr' df' hp' n' tc', head K tr df hp n tc = K tr' df' hp' n' tc' ∧ WT N tr' ∧ WH n' hp' ∧ St.mk (listT N tr') df' (listH n' hp') tc' = headF (St.mk (listT N tr) df (listH n hp) tc))
    (hbody : ∀ (tr : T AV) (df : List ADef) (hp : T AB) (n : Nat) (tc : List Nat), WT N tr → WH n hp → ER N (body tr df hp n tc) (bodyF (St.mk (listT N tr) df (listH n hp) tc))) :
    ∀ (m : Nat) (tr : T AV) (df : List ADef) (hp : T AB) (n : Nat) (tc : List Nat), WT N tr → WH n hp → ER N (loopQ head body m tr df hp n tc) (loopN bodyF headF m (St.mk (listT N tr) df (listH n hp) tc))
  | 0, _, _, _, _, _, _, _ => .no
  | m + 1, tr, df, hp, n, tc, ht, hh => by
    have e : loopQ head body (m + 1) tr df hp n tc = head (fun tr df hp n tc => seqR (body tr df hp n tc) (loopQ head body m)) tr df hp n tc := rfl
    rw [e]
    rcases hhead tr df hp n tc (fun tr df hp n tc => seqR (body tr df hp n tc) (loopQ head body m)) ht hh with h | ⟨tr', df', hp', n', tc', h1, h2, h3, h4⟩
    · rw [h]; exact .no
    · rw [h1]
      simp only [loopN]
      rw [← h4]
      have hb := hbody tr' df' hp' n' tc' h2 h3
      generalize body tr' df' hp' n' tc' = r at hb
      generalize bodyF (St.mk (listT N tr') df' (listH n' hp') tc') = o at hb
      cases hb with
      | no => exact .no
      | norm a b => exact loopQ_ok hhead hbody m _ _ _ _ _ a b
      | exit a b => exact .exit a b
      | ret a b => exact .ret a b
      | pan a b => exact .pan a b

theorem jumpQ_ok {pend : Option AExit} {tr : T AV} {df : List ADef} {hp : T AB} {n : Nat} {tc : List Nat} (ht : WT N tr) (hh : WH n hp) : ER N (jumpQ pend tr df hp n tc) (some (pend.getD .normal, St.mk (listT N tr) df (listH n hp) tc)) := by
  cases pend with
  | none => exact .norm ht hh
  | some e => cases e with
    | normal => exact .norm ht hh
    | exit i => exact .exit ht hh
    | ret => exact .ret ht hh
    | panic v => exact .no

theorem rangeGo_ok (hcall : CQ call' call) {gf : Nat} {first captured : List AV} {ps : List Nat} {as bd : AC} {tr : T AV} {tc : List Nat} {d : Nat} {df df0 : List ADef} {hp0 hpx : T AB} {n0 nx : Nat} (ht : WT N tr) (hh : WH n0 hp0) :
    ER N (rangeGo call' pin N gf first captured ps as bd tr tc d df hp0 n0) (match call (.fn (.func gf) first captured) [.yield (listH n0 hp0).length] (listH n0 hp0 ++ [.loop ⟨.ready, none, listT N tr, ps, as, bd, d⟩]) with
      | some (.ret _, hp', t) => (match hp'[(listH n0 hp0).length]? with
        | some (.loop r) => if r.st = .busy then none else some (r.pend.getD .normal, { St.mk (listT N tr) df0 (listH nx hpx) tc with df := df, hp := hp'.set (listH n0 hp0).length .dead, tc := t.filter (· < pin) ++ tc })
        | _ => none)
      | some (.pan v, hp', t) => some (.panic v, { St.mk (listT N tr) df0 (listH nx hpx) tc with df := df, hp := hp', tc := t.filter (· < pin) ++ tc })
      | none => none) := by
  unfold rangeGo
  rw [forceL_eq]
  rcases pushK_spec hh (.loop ⟨.ready, none, listT N tr, ps, as, bd, d⟩) (fun hp1 n1 => ends (call' (.fn (.func gf) first captured) [.yield n0] hp1 n1)
    (fun _ hp' n' t => loopAt hp' n' n0 fun r => notBusy r.st <| setK hp' n0 .dead fun hp' => filterN pin t tc fun tc => jumpQ r.pend tr df hp' n' tc)
    (fun v hp' n' t => filterN pin t tc fun tc => .pan v tr df hp' n' tc)) with h | ⟨hp1, h1, h2, h3⟩
  · rw [h]; exact .no
  · rw [h1]
    have hc := hcall (.fn (.func gf) first captured) [.yield n0] hp1 (n0 + 1) h2
    rw [h3] at hc
    rw [listH_len]
    generalize call' (.fn (.func gf) first captured) [.yield n0] hp1 (n0 + 1) = r at hc
    generalize call (.fn (.func gf) first captured) [.yield n0] (listH n0 hp0 ++ [.loop ⟨.ready, none, listT N tr, ps, as, bd, d⟩]) = o at hc
    cases hc with
    | no => exact .no
    | @ret v hp' n' t w =>
      show ER N (loopAt hp' n' n0 _) _
      rw [loopAt_eq w]
      simp only
      cases hr : (listH n' hp')[n0]? with
      | none => exact .no
      | some blk =>
        cases blk with
        | loop r =>
          have hlt : n0 < n' := by rw [← listH_len n' hp']; exact lt_of_get hr
          obtain ⟨hp2, s1, s2, s3⟩ := setH_spec w hlt .dead
          have e : notBusy r.st (setK hp' n0 .dead fun hp' => filterN pin t tc fun tc => jumpQ r.pend tr df hp' n' tc) = if r.st = .busy then .no else jumpQ r.pend tr df hp2 n' (t.filter (· < pin) ++ tc) := by
            rw [s1, filterN_eq]
            cases r.st <;> rfl
          simp only
          rw [e]
          split
          · exact .no
          · rw [← s3]; exact jumpQ_ok ht s2
        | _ => exact .no
    | @pan v hp' n' t w =>
      show ER N (filterN pin t tc _) _
      rw [filterN_eq]
      exact .pan ht w

theorem evQ_ok (hC : ∀ g, C.glob g = none) (hcall : CQ call' call) : ∀ (c : AC), okC N c = true → ∀ (tr : T AV) (df : List ADef) (hp : T AB) (n : Nat) (tc : List Nat), WT N tr → WH n hp →
    ER N (evQ C call' pin N rd c tr df hp n tc) (ev C call pin rd c (St.mk (listT N tr) df (listH n hp) tc)) := by
  intro c
  induction c with
  | skip => intro _ tr df hp n tc ht hh; exact .norm ht hh
  | ops l =>
    intro hok tr df hp n tc ht hh
    have h := opsQ_ok (C := C) (pin := pin) (nod := rd.isSome) (drawn := false) (df := df) (tc := tc) (flq := []) (fl := []) hC hcall hok (fun h => by cases h) ht hh
    simp only [ev]
    show ER N (opsQ call' pin N rd.isSome false l [] tr df hp n tc) _
    cases ho : evOps C call pin rd.isSome false l [] (St.mk (listT N tr) df (listH n hp) tc) with
    | none => rw [ho] at h; exact h
    | some p =>
      rw [ho] at h
      obtain ⟨p, st⟩ := p
      cases p <;> exact h
  | draw l =>
    intro hok tr df hp n tc ht hh
    have h := opsQ_ok (C := C) (pin := pin) (nod := rd.isSome) (drawn := true) (df := df) (tc := tc) (flq := []) (fl := []) hC hcall hok (fun _ => rfl) ht hh
    simp only [ev]
    show ER N (panR l (opsQ call' pin N rd.isSome true l [] tr df hp n tc)) _
    generalize opsQ call' pin N rd.isSome true l [] tr df hp n tc = r at h
    cases ho : evOps C call pin rd.isSome true l [] (St.mk (listT N tr) df (listH n hp) tc) with
    | none =>
      rw [ho] at h
      cases h; exact .no
    | some p =>
      rw [ho] at h
      obtain ⟨p, st⟩ := p
      cases p with
      | none =>
        cases h with
        | no => exact .no
        | norm a b => exact .norm a b
      | some v =>
        cases h with
        | no => exact .no
        | @pan v tr' df' hp' n' tc' a b =>
          obtain ⟨tr2, f1, f2, f3⟩ := forgetK_spec (dst_lt hok) a
          show ER N (forgetK (l.filterMap (·.dst)) tr' _) _
          rw [f1]
          simp only [Option.map_some]
          rw [← f3]
          exact .pan f2 b
  | seq a b iha ihb =>
    intro hok tr df hp n tc ht hh
    simp only [okC, Bool.and_eq_true] at hok
    have h := iha hok.1 tr df hp n tc ht hh
    simp only [ev]
    show ER N (seqR (evQ C call' pin N rd a tr df hp n tc) (evQ C call' pin N rd b)) _
    generalize evQ C call' pin N rd a tr df hp n tc = r at h
    generalize ev C call pin rd a (St.mk (listT N tr) df (listH n hp) tc) = o at h
    cases h with
    | no => exact .no
    | norm x y => exact ihb hok.2 _ _ _ _ _ x y
    | exit x y => exact .exit x y
    | ret x y => exact .ret x y
    | pan x y => exact .pan x y
  | cond c a b iha ihb =>
    intro hok tr df hp n tc ht hh
    simp only [okC, Bool.and_eq_true] at hok
    simp only [ev]
    show ER N (valK c tr fun v => asBool v fun t => Bool.rec (evQ C call' pin N rd b tr df hp n tc) (evQ C call' pin N rd a tr df hp n tc) t) _
    refine (valK_eq (C := C) hok.1 (tr := tr) _).elim (fun h => by rw [h]; exact .no) fun h => ?_
    rw [h, asBool_eq]
    split
    · rename_i t hv
      rw [hv]
      cases t with
      | true => exact iha hok.2.1 tr df hp n tc ht hh
      | false => exact ihb hok.2.2 tr df hp n tc ht hh
    · exact .no
  | block id c ih =>
    intro hok tr df hp n tc ht hh
    have h := ih hok tr df hp n tc ht hh
    simp only [ev]
    show ER N (blockR id (evQ C call' pin N rd c tr df hp n tc)) _
    generalize evQ C call' pin N rd c tr df hp n tc = r at h
    generalize ev C call pin rd c (St.mk (listT N tr) df (listH n hp) tc) = o at h
    cases h with
    | no => exact .no
    | norm x y => exact .norm x y
    | @exit i _ _ _ _ _ x y =>
      simp only
      show ER N (Bool.rec _ _ (Nat.beq i id)) _
      rw [boolRec_if]
      by_cases hi : i = id
      · subst hi; rw [if_pos (Nat.beq_refl i), if_pos rfl]; exact .norm x y
      · rw [if_neg (fun h => hi (Nat.eq_of_beq_eq_true h)), if_neg hi]; exact .exit x y
    | ret x y => exact .ret x y
    | pan x y => exact .pan x y
  | loop live c ih =>
    intro hok tr df hp n tc ht hh
    simp only [okC, Bool.and_eq_true] at hok
    simp only [ev]
    exact loopQ_ok (headF := fun st => gcC C pin { st with tm := keepT live st.tm }) (fun tr df hp n tc K ht hh => headQ_spec (all_lt hok.1) ht hh K) (fun tr df hp n tc ht hh => ih hok.2 tr df hp n tc ht hh) fuelL tr df hp n tc ht hh
  | rangeF g ps as bd _ _ =>
    intro hok tr df hp n tc ht hh
    simp only [okC] at hok
    simp only [ev]
    show ER N (rangeQ call' pin N rd g ps as bd tr df hp n tc) _
    unfold rangeQ
    refine (valK_eq (C := C) hok (tr := tr) _).elim (fun h => by rw [h]; exact .no) fun h => ?_
    rw [h, asFn_eq]
    split
    · rename_i f first captured hv
      rw [fnK_eq]
      cases f with
      | func gf =>
        simp only
        cases rd with
        | none =>
          show ER N (pushK hp n .dfr fun hp m => rangeGo call' pin N gf first captured ps as bd tr tc n (.mark n :: df) hp m) _
          rcases pushK_spec hh .dfr (fun hp m => rangeGo call' pin N gf first captured ps as bd tr tc n (.mark n :: df) hp m) with h | ⟨hp1, h1, h2, h3⟩
          · rw [h]; exact .no
          · rw [h1]
            have := rangeGo_ok (pin := pin) (call' := call') (call := call) (gf := gf) (first := first) (captured := captured) (ps := ps) (as := as) (bd := bd) (tc := tc) (d := n) (df := .mark n :: df) (df0 := df) (hpx := hp) (nx := n) hcall ht h2
            rw [h3] at this
            rw [hv]
            simp only
            rw [listH_len n hp]
            exact this
        | some l =>
          show ER N (loopAt hp n l fun r => rangeGo call' pin N gf first captured ps as bd tr tc r.dfr df hp n) _
          rw [loopAt_eq hh, hv]
          simp only
          cases hl : (listH n hp)[l]? with
          | none => exact .no
          | some blk =>
            cases blk with
            | loop r => exact rangeGo_ok (pin := pin) (df0 := df) (hpx := hp) (nx := n) hcall ht hh
            | _ => exact .no
      | _ => exact .no
    · exact .no
    · exact .no
  | exit id => intro _ tr df hp n tc ht hh; exact .exit ht hh
  | ret => intro _ tr df hp n tc ht hh; exact .ret ht hh
end
end Q
end Ev
end Go.Proofs.YtcaejedfjobooaaGreat
