/- From what the evaluator finds to what a call of the program comes to: a function without parameters that answers a bool. -/
import Derived.Test.YtimgnlellflciaaCmED
/- The quick evaluator: code and calls. -/
namespace Go.Proofs.Ytimgnlellflciaa
open Go
namespace Ev
namespace Q
section
variable {C : Cfg} {N pin : Nat} {rd : Option Nat} {call' : CallQ} {call : CallF}

theorem zhr : ∀ {l : List Nat} {tr : T AV}, (∀ t, t ∈ l → t < N) → WT N tr → ∃ tr', (∀ K, forgetK l tr K = K tr') ∧ WT N tr' ∧ listT N tr' = forget l (listT N tr)
  | [], tr, _, ht => ⟨tr, fun _ => rfl, ht, rfl⟩
  | t :: l, tr, h, ht => by
    obtain ⟨tr1, a1, a2, a3⟩ := zer ht (h t (List.mem_cons_self ..)) .unk
    obtain ⟨tr2, b1, b2, b3⟩ := zhr (l := l) (fun x hx => h x (List.mem_cons_of_mem _ hx)) a2
    refine ⟨tr2, fun K => ?_, b2, by rw [b3, a3]; rfl⟩
    show setK tr t .unk (fun tr => forgetK l tr K) = _
    rw [a1, b1]

theorem zhc {tr : T AV} : ∀ {l : List Nat} {acc : T AV}, (∀ t, t ∈ l → t < N) → WT N acc → (∀ s, s < N → (listT N acc).getD s .unk = .unk ∨ (listT N acc).getD s .unk = (listT N tr).getD s .unk) →
    ∃ tr', (∀ K, keepK l tr acc K = K tr') ∧ WT N tr' ∧ listT N tr' = l.foldl (fun acc t => acc.set t ((listT N tr).getD t .unk)) (listT N acc)
  | [], acc, _, ha, _ => ⟨acc, fun _ => rfl, ha, rfl⟩
  | t :: l, acc, h, ha, hs => by
    have ht := h t (List.mem_cons_self ..)
    have e : ∀ K, keepK (t :: l) tr acc K = getK tr t (keepK l tr acc K) fun v => setK acc t v fun acc => keepK l tr acc K := fun _ => rfl
    cases hat : at? tr t with
    | none =>
      have hu : (listT N tr).getD t .unk = .unk := by rw [zcl tr ht, hat]; rfl
      have hself : (listT N acc).set t .unk = listT N acc := by
        refine List.ext_getElem? fun s => ?_
        by_cases hst : t = s
        · subst hst
          have h1 := hs t ht
          rw [hu, or_self, List.getD_eq_getElem?_getD, zdw acc ht] at h1
          rw [List.getElem?_set_self (by rw [zbv]; exact ht), zdw acc ht]
          simpa using h1.symm
        · rw [List.getElem?_set_ne hst]
      obtain ⟨tr', a1, a2, a3⟩ := zhc (l := l) (fun x hx => h x (List.mem_cons_of_mem _ hx)) ha hs
      refine ⟨tr', fun K => by rw [e, zey, hat]; exact a1 K, a2, ?_⟩
      rw [a3, List.foldl_cons, hu, hself]
    | some v =>
      have hu : (listT N tr).getD t .unk = v := by rw [zcl tr ht, hat]; rfl
      obtain ⟨acc', b1, b2, b3⟩ := zer ha ht v
      obtain ⟨tr', a1, a2, a3⟩ := zhc (tr := tr) (l := l) (acc := acc') (fun x hx => h x (List.mem_cons_of_mem _ hx)) b2 (fun s hsN => by
        rw [b3]
        by_cases hst : t = s
        · subst hst
          right
          rw [List.getD_eq_getElem?_getD, List.getElem?_set_self (by rw [zbv]; exact ht), hu]; rfl
        · rw [List.getD_eq_getElem?_getD, List.getElem?_set_ne hst, ← List.getD_eq_getElem?_getD]; exact hs s hsN)
      refine ⟨tr', fun K => by rw [e, zey, hat]; simp only; rw [b1]; exact a1 K, a2, ?_⟩
      rw [a3, List.foldl_cons, hu, b3]

theorem zfg : ∀ {l : List AV} {i : Nat} {tr : T AV}, i + l.length ≤ N → WT N tr → ∃ tr', (∀ K, laysK l i tr K = K tr') ∧ WT N tr' ∧ listT N tr' = (listT N tr).take i ++ l ++ (listT N tr).drop (i + l.length)
  | [], i, tr, _, ht => ⟨tr, fun _ => rfl, ht, by simp⟩
  | v :: l, i, tr, h, ht => by
    simp only [List.length_cons] at h
    obtain ⟨tr1, a1, a2, a3⟩ := zer ht (show i < N by omega) v
    obtain ⟨tr2, b1, b2, b3⟩ := zfg (l := l) (i := i + 1) (by omega) a2
    refine ⟨tr2, fun K => ?_, b2, ?_⟩
    · show setK tr i v (fun tr => laysK l (i + 1) tr K) = _
      rw [a1, b1]
    · rw [b3, a3]
      have hl : (listT N tr).length = N := zbv N tr
      rw [List.take_succ_eq_append_getElem (by simp; omega), List.take_set_of_le (Nat.le_refl _), List.drop_set_of_lt (by omega)]
      simp [show i + 1 + l.length = i + (l.length + 1) by omega]
theorem zpy {l : List AV} (h : l.length = N) : ∃ tr', (∀ K, ofL N l K = K tr') ∧ WT N tr' ∧ listT N tr' = l := by
  obtain ⟨tr', a1, a2, a3⟩ := zfg (l := l) (i := 0) (by omega) (zcf N (fun _ => .no)).2.1
  refine ⟨tr', fun K => by show newT N (fun tr => laysK l 0 tr K) = _; rw [(zcf N _).1, a1], a2, ?_⟩
  rw [a3, (zcf N (fun _ => .no)).2.2]
  simp [h]

theorem zlh : ∀ (l : List ADef) (K : List ADef → R), ofDfs l K = K l
  | [], _ => rfl
  | d :: l, K => by
    show ofDf d (fun d => ofDfs l fun l => K (d :: l)) = _
    cases d with
    | mark d =>
      have h1 : ofDf (.mark d) (fun d => ofDfs l fun l => K (d :: l)) = ofDfs l fun l => K (.mark d :: l) := zbu d fun d => ofDfs l fun l => K (.mark d :: l)
      rw [h1, zlh]
    | call f a =>
      have h1 : ofDf (.call f a) (fun d => ofDfs l fun l => K (d :: l)) = ofDfs l fun l => K (.call f a :: l) := zez a fun a => ofDfs l fun l => K (.call f a :: l)
      rw [h1, zlh]
theorem zuu {st : St} (h : st.tm.length = N) (K : SQ) : ofSt N st K = .no ∨ ∃ tr hp n, ofSt N st K = K tr st.df hp n st.tc ∧ WT N tr ∧ WH n hp ∧ St.mk (listT N tr) st.df (listH n hp) st.tc = st := by
  obtain ⟨tm, df, hp, tc⟩ := st
  obtain ⟨tr', a1, a2, a3⟩ := zpy h
  have e : ofSt N ⟨tm, df, hp, tc⟩ K = ofH hp fun hp n => K tr' df hp n tc := by
    show forceL tm _ = _
    rw [zez, a1, zlh]
    simp only [zcc]
  rw [e]
  rcases zdi hp fun hp n => K tr' df hp n tc with h1 | ⟨hp', n', h1, h2, h3⟩
  · exact .inl h1
  · exact .inr ⟨tr', hp', n', h1, a2, h2, by simp only at a3; rw [a3, h3]⟩

theorem zlb (σ : Nat → Option Nat) : ∀ l : List AV, (renL σ l).length = l.length
  | [] => rfl
  | v :: l => by simp [renL, zlb σ l]
theorem gc_len {st : St} : (gc pin st).tm.length = st.tm.length := by
  unfold gc
  simp only
  split
  · simp [zlb]
  · rfl

theorem zsi {live : List Nat} {tr : T AV} {df : List ADef} {hp : T AB} {n : Nat} {tc : List Nat} (hl : ∀ t, t ∈ live → t < N) (_ht : WT N tr) (hh : WH n hp) (K : SQ) :
    headQ C pin N live K tr df hp n tc = .no ∨ ∃ tr' df' hp' n' tc', headQ C pin N live K tr df hp n tc = K tr' df' hp' n' tc' ∧ WT N tr' ∧ WH n' hp' ∧
      St.mk (listT N tr') df' (listH n' hp') tc' = gcC C pin { St.mk (listT N tr) df (listH n hp) tc with tm := keepT live (listT N tr) } := by
  obtain ⟨n1, n2, n3⟩ := zcf N (fun _ => .no)
  obtain ⟨tr1, a1, a2, a3⟩ := zhc (tr := tr) (l := live) hl n2 (fun s hs => by
    left; rw [n3, List.getD_eq_getElem?_getD, List.getElem?_replicate, if_pos hs]; rfl)
  have e : headQ C pin N live K tr df hp n tc = Bool.rec (ofSt N (gc pin { tm := listT N tr1, df := df, hp := listH n hp, tc := tc }) K) (K tr1 df hp n tc) ((C.calm || Nat.ble n (Nat.add pin C.gcAt))) := by
    show newT N _ = _
    rw [(zcf N _).1, a1]
  have hk : listT N tr1 = keepT live (listT N tr) := by
    rw [a3, n3]; unfold keepT; rw [zbv]
  rw [e, zbf]
  unfold gcC
  simp only [← hk]
  rw [zax]
  show (if (C.calm || Nat.ble n (pin + C.gcAt)) = true then _ else _) = R.no ∨ _
  cases hb : (C.calm || Nat.ble n (pin + C.gcAt)) with
  | true =>
    rw [if_pos rfl]
    exact .inr ⟨tr1, df, hp, n, tc, rfl, a2, hh, rfl⟩
  | false =>
    rw [if_neg (by simp)]
    rcases zuu (N := N) (st := gc pin { tm := listT N tr1, df := df, hp := listH n hp, tc := tc }) (by rw [gc_len]; exact zbv N tr1) K with h | ⟨tr', hp', n', h1, h2, h3, h4⟩
    · exact .inl h
    · exact .inr ⟨tr', _, hp', n', _, h1, h2, h3, h4⟩

theorem all_lt {l : List Nat} (h : (l.all fun t => Nat.ble (Nat.succ t) N) = true) : ∀ t, t ∈ l → t < N := fun t ht => by
  rw [List.all_eq_true] at h
  exact Nat.le_of_ble_eq_true (h t ht)
theorem dst_lt {l : List AOp} (h : l.all (okOp N) = true) : ∀ t, t ∈ l.filterMap (·.dst) → t < N := fun t ht => by
  rw [List.all_eq_true] at h
  obtain ⟨o, ho, hd⟩ := List.mem_filterMap.1 ht
  exact (zew (h o ho)).1 t hd

theorem zqd {head : SQ → SQ} {body : SQ} {headF : St → St} {bodyF : St → Option (AExit × St)}
    (hhead : ∀ (tr : T AV) (df : List ADef) (hp : T AB) (n : Nat) (tc : List Nat) (K : SQ), WT N tr → WH n hp → head K tr df hp n tc = .no ∨ ∃ tr' df' hp' n' tc', head K tr df hp n tc = K tr' df' hp' n' tc' ∧ WT N tr' ∧ WH n' hp' ∧ St.mk (listT N tr') df' (listH n' hp') tc' = headF (St.mk (listT N tr) df (listH n hp) tc))
    (hbody : ∀ (tr : T AV) (df : List ADef) (hp : T AB) (n : Nat) (tc : List Nat), WT N tr → WH n hp → ER N (body tr df hp n tc) (bodyF (St.mk (listT N tr) df (listH n hp) tc))) :
    ∀ (m : Nat) (tr : T AV) (df : List ADef) (hp : T AB) (n : Nat) (tc : List Nat), WT N tr → WH n hp → ER N (loopQ head body m tr df hp n tc) (loopN bodyF headF m (St.mk (listT N tr) df (listH n hp) tc))
  | 0, _, _, _, _, _, _, _ => .no
  | m + 1, tr, df, hp, n, tc, ht, hh => by
    have e : loopQ head body (m + 1) tr df hp n tc = head (fun tr df hp n tc => seqR (body tr df hp n tc) (loopQ head body m)) tr df hp n tc := rfl
    rw [e]
    rcases hhead tr df hp n tc (fun tr df hp n tc => seqR (body tr df hp n tc) (loopQ head body m)) ht hh with h | ⟨tr', df', hp', n', tc', h1, h2, h3, h4⟩
    · rw [h]; exact .no
    · rw [h1]
      simp only [loopN]
      rw [← h4]
      have hb := hbody tr' df' hp' n' tc' h2 h3
      generalize body tr' df' hp' n' tc' = r at hb
      generalize bodyF (St.mk (listT N tr') df' (listH n' hp') tc') = o at hb
      cases hb with
      | no => exact .no
      | norm a b => exact zqd hhead hbody m _ _ _ _ _ a b
      | exit a b => exact .exit a b
      | ret a b => exact .ret a b
      | pan a b => exact .pan a b

theorem zyq {pend : Option AExit} {tr : T AV} {df : List ADef} {hp : T AB} {n : Nat} {tc : List Nat} (ht : WT N tr) (hh : WH n hp) : ER N (jumpQ pend tr df hp n tc) (some (pend.getD .normal, St.mk (listT N tr) df (listH n hp) tc)) := by
  cases pend with
  | none => exact .norm ht hh
  | some e => cases e with
    | normal => exact .norm ht hh
    | exit i => exact .exit ht hh
    | ret => exact .ret ht hh
    | panic v => exact .no

theorem zkc (hcall : CQ call' call) {gf : Nat} {first captured : List AV} {ps : List Nat} {as bd : AC} {tr : T AV} {tc : List Nat} {d : Nat} {df df0 : List ADef} {hp0 hpx : T AB} {n0 nx : Nat} (ht : WT N tr) (hh : WH n0 hp0) :
    ER N (rangeGo call' pin N gf first captured ps as bd tr tc d df hp0 n0) (match call (.fn (.func gf) first captured) [.yield (listH n0 hp0).length] (listH n0 hp0 ++ [.loop ⟨.ready, none, listT N tr, ps, as, bd, d⟩]) with
      | some (.ret _, hp', t) => (match hp'[(listH n0 hp0).length]? with
        | some (.loop r) => if r.st = .busy then none else some (r.pend.getD .normal, { St.mk (listT N tr) df0 (listH nx hpx) tc with df := df, hp := hp'.set (listH n0 hp0).length .dead, tc := t.filter (· < pin) ++ tc })
        | _ => none)
      | some (.pan v, hp', t) => some (.panic v, { St.mk (listT N tr) df0 (listH nx hpx) tc with df := df, hp := hp', tc := t.filter (· < pin) ++ tc })
      | none => none) := by
  unfold rangeGo
  rw [zez]
  rcases zcx hh (.loop ⟨.ready, none, listT N tr, ps, as, bd, d⟩) (fun hp1 n1 => ends (call' (.fn (.func gf) first captured) [.yield n0] hp1 n1)
    (fun _ hp' n' t => loopAt hp' n' n0 fun r => notBusy r.st <| setK hp' n0 .dead fun hp' => filterN pin t tc fun tc => jumpQ r.pend tr df hp' n' tc)
    (fun v hp' n' t => filterN pin t tc fun tc => .pan v tr df hp' n' tc)) with h | ⟨hp1, h1, h2, h3⟩
  · rw [h]; exact .no
  · rw [h1]
    have hc := hcall (.fn (.func gf) first captured) [.yield n0] hp1 (n0 + 1) h2
    rw [h3] at hc
    rw [zax]
    generalize call' (.fn (.func gf) first captured) [.yield n0] hp1 (n0 + 1) = r at hc
    generalize call (.fn (.func gf) first captured) [.yield n0] (listH n0 hp0 ++ [.loop ⟨.ready, none, listT N tr, ps, as, bd, d⟩]) = o at hc
    cases hc with
    | no => exact .no
    | @ret v hp' n' t w =>
      show ER N (loopAt hp' n' n0 _) _
      rw [zbq w]
      simp only
      cases hr : (listH n' hp')[n0]? with
      | none => exact .no
      | some blk =>
        cases blk with
        | loop r =>
          have hlt : n0 < n' := by rw [← zax n' hp']; exact zda hr
          obtain ⟨hp2, s1, s2, s3⟩ := zes w hlt .dead
          have e : notBusy r.st (setK hp' n0 .dead fun hp' => filterN pin t tc fun tc => jumpQ r.pend tr df hp' n' tc) = if r.st = .busy then .no else jumpQ r.pend tr df hp2 n' (t.filter (· < pin) ++ tc) := by
            rw [s1, zea]
            cases r.st <;> rfl
          simp only
          rw [e]
          split
          · exact .no
          · rw [← s3]; exact zyq ht s2
        | _ => exact .no
    | @pan v hp' n' t w =>
      show ER N (filterN pin t tc _) _
      rw [zea]
      exact .pan ht w

theorem evQ_ok (hC : ∀ g, C.glob g = none) (hcall : CQ call' call) : ∀ (c : AC), okC N c = true → ∀ (tr : T AV) (df : List ADef) (hp : T AB) (n : Nat) (tc : List Nat), WT N tr → WH n hp →
    ER N (evQ C call' pin N rd c tr df hp n tc) (ev C call pin rd c (St.mk (listT N tr) df (listH n hp) tc)) := by
  intro c
  induction c with
  | skip => intro _ tr df hp n tc ht hh; exact .norm ht hh
  | ops l =>
    intro hok tr df hp n tc ht hh
    have h := zof (C := C) (pin := pin) (nod := rd.isSome) (drawn := false) (df := df) (tc := tc) (flq := []) (fl := []) hC hcall hok (fun h => by cases h) ht hh
    simp only [ev]
    show ER N (opsQ call' pin N rd.isSome false l [] tr df hp n tc) _
    cases ho : evOps C call pin rd.isSome false l [] (St.mk (listT N tr) df (listH n hp) tc) with
    | none => rw [ho] at h; exact h
    | some p =>
      rw [ho] at h
      obtain ⟨p, st⟩ := p
      cases p <;> exact h
  | draw l =>
    intro hok tr df hp n tc ht hh
    have h := zof (C := C) (pin := pin) (nod := rd.isSome) (drawn := true) (df := df) (tc := tc) (flq := []) (fl := []) hC hcall hok (fun _ => rfl) ht hh
    simp only [ev]
    show ER N (panR l (opsQ call' pin N rd.isSome true l [] tr df hp n tc)) _
    generalize opsQ call' pin N rd.isSome true l [] tr df hp n tc = r at h
    cases ho : evOps C call pin rd.isSome true l [] (St.mk (listT N tr) df (listH n hp) tc) with
    | none =>
      rw [ho] at h
      cases h; exact .no
    | some p =>
      rw [ho] at h
      obtain ⟨p, st⟩ := p
      cases p with
      | none =>
        cases h with
        | no => exact .no
        | norm a b => exact .norm a b
      | some v =>
        cases h with
        | no => exact .no
        | @pan v tr' df' hp' n' tc' a b =>
          obtain ⟨tr2, f1, f2, f3⟩ := zhr (dst_lt hok) a
          show ER N (forgetK (l.filterMap (·.dst)) tr' _) _
          rw [f1]
          simp only [Option.map_some]
          rw [← f3]
          exact .pan f2 b
  | seq a b iha ihb =>
    intro hok tr df hp n tc ht hh
    simp only [okC, Bool.and_eq_true] at hok
    have h := iha hok.1 tr df hp n tc ht hh
    simp only [ev]
    show ER N (seqR (evQ C call' pin N rd a tr df hp n tc) (evQ C call' pin N rd b)) _
    generalize evQ C call' pin N rd a tr df hp n tc = r at h
    generalize ev C call pin rd a (St.mk (listT N tr) df (listH n hp) tc) = o at h
    cases h with
    | no => exact .no
    | norm x y => exact ihb hok.2 _ _ _ _ _ x y
    | exit x y => exact .exit x y
    | ret x y => exact .ret x y
    | pan x y => exact .pan x y
  | cond c a b iha ihb =>
    intro hok tr df hp n tc ht hh
    simp only [okC, Bool.and_eq_true] at hok
    simp only [ev]
    show ER N (valK c tr fun v => asBool v fun t => Bool.rec (evQ C call' pin N rd b tr df hp n tc) (evQ C call' pin N rd a tr df hp n tc) t) _
    refine (zbh (C := C) hok.1 (tr := tr) _).elim (fun h => by rw [h]; exact .no) fun h => ?_
    rw [h, zjv]
    split
    · rename_i t hv
      rw [hv]
      cases t with
      | true => exact iha hok.2.1 tr df hp n tc ht hh
      | false => exact ihb hok.2.2 tr df hp n tc ht hh
    · exact .no
  | block id c ih =>
    intro hok tr df hp n tc ht hh
    have h := ih hok tr df hp n tc ht hh
    simp only [ev]
    show ER N (blockR id (evQ C call' pin N rd c tr df hp n tc)) _
    generalize evQ C call' pin N rd c tr df hp n tc = r at h
    generalize ev C call pin rd c (St.mk (listT N tr) df (listH n hp) tc) = o at h
    cases h with
    | no => exact .no
    | norm x y => exact .norm x y
    | @exit i _ _ _ _ _ x y =>
      simp only
      show ER N (Bool.rec _ _ (Nat.beq i id)) _
      rw [zbf]
      by_cases hi : i = id
      · subst hi; rw [if_pos (Nat.beq_refl i), if_pos rfl]; exact .norm x y
      · rw [if_neg (fun h => hi (Nat.eq_of_beq_eq_true h)), if_neg hi]; exact .exit x y
    | ret x y => exact .ret x y
    | pan x y => exact .pan x y
  | loop live c ih =>
    intro hok tr df hp n tc ht hh
    simp only [okC, Bool.and_eq_true] at hok
    simp only [ev]
    exact zqd (headF := fun st => gcC C pin { st with tm := keepT live st.tm }) (fun tr df hp n tc K ht hh => zsi (all_lt hok.1) ht hh K) (fun tr df hp n tc ht hh => ih hok.2 tr df hp n tc ht hh) fuelL tr df hp n tc ht hh
  | rangeF g ps as bd _ _ =>
    intro hok tr df hp n tc ht hh
    simp only [okC] at hok
    simp only [ev]
    show ER N (rangeQ call' pin N rd g ps as bd tr df hp n tc) _
    unfold rangeQ
    refine (zbh (C := C) hok (tr := tr) _).elim (fun h => by rw [h]; exact .no) fun h => ?_
    rw [h, zpf]
    split
    · rename_i f first captured hv
      rw [fnK_eq]
      cases f with
      | func gf =>
        simp only
        cases rd with
        | none =>
          show ER N (pushK hp n .dfr fun hp m => rangeGo call' pin N gf first captured ps as bd tr tc n (.mark n :: df) hp m) _
          rcases zcx hh .dfr (fun hp m => rangeGo call' pin N gf first captured ps as bd tr tc n (.mark n :: df) hp m) with h | ⟨hp1, h1, h2, h3⟩
          · rw [h]; exact .no
          · rw [h1]
            have := zkc (pin := pin) (call' := call') (call := call) (gf := gf) (first := first) (captured := captured) (ps := ps) (as := as) (bd := bd) (tc := tc) (d := n) (df := .mark n :: df) (df0 := df) (hpx := hp) (nx := n) hcall ht h2
            rw [h3] at this
            rw [hv]
            simp only
            rw [zax n hp]
            exact this
        | some l =>
          show ER N (loopAt hp n l fun r => rangeGo call' pin N gf first captured ps as bd tr tc r.dfr df hp n) _
          rw [zbq hh, hv]
          simp only
          cases hl : (listH n hp)[l]? with
          | none => exact .no
          | some blk =>
            cases blk with
            | loop r => exact zkc (pin := pin) (df0 := df) (hpx := hp) (nx := n) hcall ht hh
            | _ => exact .no
      | _ => exact .no
    · exact .no
    · exact .no
  | exit id => intro _ tr df hp n tc ht hh; exact .exit ht hh
  | ret => intro _ tr df hp n tc ht hh; exact .ret ht hh
end
end Q
end Ev
end Go.Proofs.Ytimgnlellflciaa

/- The quick evaluator: ends of functions, calls; what it comes to is what the first one does. -/
namespace Go.Proofs.Ytimgnlellflciaa
open Go
namespace Ev
namespace Q
section
variable {C : Cfg} {N pin : Nat} {rd : Option Nat} {call' : CallQ} {call : CallF}

theorem zis {tr : T AV} {df : List ADef} {hp : T AB} {n : Nat} {tc : List Nat} (hh : WH n hp) : ∀ {l : List ARes} (K : List AV → R), l.all (okR N) = true → resK tr hp n l K = .no ∨ ∃ vs, resK tr hp n l K = K vs ∧ resL (St.mk (listT N tr) df (listH n hp) tc) l = some vs
  | [], K, _ => .inr ⟨[], rfl, rfl⟩
  | r :: l, K, h => by
    rw [List.all_cons, Bool.and_eq_true] at h
    cases r with
    | tmp t =>
      have ht : t < N := Nat.le_of_ble_eq_true h.1
      have e : resK tr hp n (.tmp t :: l) K = getK tr t (resK tr hp n l fun l => K (.unk :: l)) fun v => resK tr hp n l fun l => K (v :: l) := rfl
      have e2 : resK tr hp n (.tmp t :: l) K = resK tr hp n l fun l => K ((listT N tr).getD t .unk :: l) := by
        rw [e, zey, zcl tr ht]
        cases at? tr t <;> rfl
      rw [e2]
      rcases zis (df := df) (tc := tc) hh (l := l) (fun l => K ((listT N tr).getD t .unk :: l)) h.2 with h1 | ⟨vs, h1, h2⟩
      · exact .inl h1
      · exact .inr ⟨_, h1, by simp only [resL, resOf, h2]⟩
    | cell t k =>
      have ht : t < N := Nat.le_of_ble_eq_true h.1
      have e : resK tr hp n (.cell t k :: l) K = getK tr t .no fun v => asPtr v (fun b off => cellsAt hp n b fun cs => pickK k cs off fun v => resK tr hp n l fun l => K (v :: l)) .no := rfl
      rw [e, zey]
      cases hat : at? tr t with
      | none => exact .inl rfl
      | some x =>
        have hu : (listT N tr).getD t .unk = x := by rw [zcl tr ht, hat]; rfl
        simp only
        rw [zfm]
        split
        · rename_i b off
          rw [zhk hh]
          split
          · rename_i cs hb
            rw [zle]
            cases hp' : pickC k cs off with
            | none => exact .inl rfl
            | some v =>
              simp only
              rcases zis (df := df) (tc := tc) hh (l := l) (fun l => K (v :: l)) h.2 with h1 | ⟨vs, h1, h2⟩
              · exact .inl h1
              · exact .inr ⟨_, h1, by simp only [resL, resOf, hu, hb, hp', h2]⟩
          · exact .inl rfl
        · exact .inl rfl
theorem zxq (l : List AV) (K : AV → R) : resVK l K = K (resV l) := by
  match l with
  | [] => rfl
  | [v] => rfl
  | a :: b :: l => rfl

inductive FR : R → Option (CRes × St) → Prop
  | no {o : Option (CRes × St)} : FR .no o
  | ret {v : AV} {hp : T AB} {n : Nat} {st : St} : WH n hp → st.hp = listH n hp → FR (.cret v hp n st.tc) (some (.ret v, st))
  | pan {v : AV} {hp : T AB} {n : Nat} {st : St} : WH n hp → st.hp = listH n hp → FR (.cpan v hp n st.tc) (some (.pan v, st))

theorem zgu {fn : AFunc} {e : AExit} {tr : T AV} {df : List ADef} {hp : T AB} {n : Nat} {tc : List Nat} : FR (slowFin C pin N fn e tr df hp n tc) (finish C pin fn e (St.mk (listT N tr) df (listH n hp) tc)) := by
  unfold slowFin
  cases finish C pin fn e (St.mk (listT N tr) df (listH n hp) tc) with
  | none => exact .no
  | some p =>
    obtain ⟨x, st⟩ := p
    cases x with
    | ret v =>
      simp only [zbj, zcc]
      rcases zdi st.hp (fun hp n => .cret v hp n st.tc) with h | ⟨hp', n', h1, h2, h3⟩
      · rw [h]; exact .no
      · rw [h1]; exact .ret h2 h3.symm
    | pan v =>
      simp only [zbj, zcc]
      rcases zdi st.hp (fun hp n => .cpan v hp n st.tc) with h | ⟨hp', n', h1, h2, h3⟩
      · rw [h]; exact .no
      · rw [h1]; exact .pan h2 h3.symm

theorem zwb {fn : AFunc} (hres : fn.res.all (okR N) = true) {r : R} {o : Option (AExit × St)} (h : ER N r o) : FR (finQ C pin N fn r) (match (generalizing := false) o with | some (e, st) => finish C pin fn e st | none => none) := by
  have hnil : ∀ (e : AExit) (tr : T AV) (hp : T AB) (n : Nat) (tc : List Nat), (e = .normal ∨ e = .ret) → WH n hp → FR (resK tr hp n fn.res fun l => resVK l fun v => .cret v hp n tc) (finish C pin fn e (St.mk (listT N tr) [] (listH n hp) tc)) := by
    intro e tr hp n tc he hh
    rcases zis (df := []) (tc := tc) hh (l := fn.res) (fun l => resVK l fun v => .cret v hp n tc) hres with h1 | ⟨vs, h1, h2⟩
    · rw [h1]; exact .no
    · rw [h1, zxq]
      have hf : finish C pin fn e (St.mk (listT N tr) [] (listH n hp) tc) = some (.ret (resV vs), St.mk (listT N tr) [] (listH n hp) tc) := by
        rcases he with rfl | rfl <;> simp only [finish, runDefs, h2] <;> rfl
      rw [hf]
      exact FR.ret (st := St.mk (listT N tr) [] (listH n hp) tc) hh rfl
  cases h with
  | no => exact .no
  | @norm tr df hp n tc a b =>
    cases df with
    | nil => exact hnil .normal tr hp n tc (.inl rfl) b
    | cons d df => exact zgu
  | exit a b => exact .no
  | @ret tr df hp n tc a b =>
    cases df with
    | nil => exact hnil .ret tr hp n tc (.inr rfl) b
    | cons d df => exact zgu
  | @pan v tr df hp n tc a b =>
    cases df with
    | nil =>
      have hf : finish C pin fn (.panic v) (St.mk (listT N tr) [] (listH n hp) tc) = some (.pan v, St.mk (listT N tr) [] (listH n hp) tc) := by simp only [finish, runDefs]
      simp only
      rw [hf]
      exact FR.pan (st := St.mk (listT N tr) [] (listH n hp) tc) b rfl
    | cons d df => exact zgu

theorem zkg {H hp : T AB} {n : Nat} (hH : WH N H) (hh : WH n hp) : ∀ {tc : List Nat} (K : T AB → R), overQ H N hp n tc K = .no ∨ ∃ H', overQ H N hp n tc K = K H' ∧ WH N H' ∧ listH N H' = overH (listH N H) (listH n hp) tc
  | [], K => .inr ⟨H, rfl, hH, rfl⟩
  | j :: tc, K => by
    have e : overQ H N hp n (j :: tc) K = overQ H N hp n tc fun H' => Bool.rec (K H') (blockK hp n j fun b => setK H' j b K) (Nat.ble (Nat.succ j) N) := rfl
    rw [e]
    rcases zkg hH hh (tc := tc) (fun H' => Bool.rec (K H') (blockK hp n j fun b => setK H' j b K) (Nat.ble (Nat.succ j) N)) with h | ⟨H1, h1, h2, h3⟩
    · exact .inl h
    · rw [h1, zbf, zdq]
      split
      · rename_i hj
        have hj : j < N := by simp at hj; omega
        rw [zgn hh]
        cases hb : (listH n hp)[j]? with
        | none => exact .inl rfl
        | some b =>
          obtain ⟨H2, s1, s2, s3⟩ := zes h2 hj b
          refine .inr ⟨H2, s1 K, s2, ?_⟩
          rw [s3, h3]
          simp only [overH]
          rw [List.getD_eq_getElem?_getD, hb]; rfl
      · rename_i hj
        have hj : N ≤ j := by simp at hj; omega
        refine .inr ⟨H1, rfl, h2, ?_⟩
        simp only [overH]
        rw [← h3, List.set_eq_of_length_le (by rw [zax]; exact hj)]

theorem zhw {hp : T AB} {n : Nat} (hh : WH n hp) : ∀ {k i : Nat} {H : T AB} (K : T AB → Nat → R), i + k ≤ n → WH i H → behindQ hp k i H K = .no ∨ ∃ H', behindQ hp k i H K = K H' (i + k) ∧ WH (i + k) H' ∧ listH (i + k) H' = listH i H ++ ((listH n hp).drop i).take k
  | 0, i, H, K, _, hH => .inr ⟨H, rfl, hH, by simp⟩
  | k + 1, i, H, K, hle, hH => by
    have e : behindQ hp (k + 1) i H K = getK hp i .no fun b => setK H i b fun H => behindQ hp k (Nat.succ i) H K := rfl
    rw [e, zey]
    cases hat : at? hp i with
    | none => exact .inl rfl
    | some b =>
      have hn := hh.le
      obtain ⟨H1, a1, a2, a3⟩ := zgb hH.wf i b
      simp only
      rw [a1]
      have hc : (2 : Nat) ^ cap = 128 := rfl
      have hw : WH (i + 1) H1 := ⟨a2, by omega, fun j hj => by
        rw [a3]
        split
        · rfl
        · rename_i hne
          refine hH.there j ?_
          rcases Nat.lt_or_ge j i with hl | hl
          · exact hl
          · exact absurd (by rw [show j = i by omega]) hne⟩
      have hl : listH (i + 1) H1 = listH i H ++ [b] := List.ext_getElem? fun s => by
        rw [zcs hw]
        rcases Nat.lt_trichotomy s i with hs | hs | hs
        · rw [if_pos (by omega), a3, Nat.mod_eq_of_lt (by omega), Nat.mod_eq_of_lt (by omega : i < 2 ^ cap), if_neg (by omega), List.getElem?_append_left (by rw [zax]; exact hs), zcs hH, if_pos hs]
        · subst hs
          rw [if_pos (by omega), a3, if_pos rfl, List.getElem?_append_right (by rw [zax]; omega), zax]; simp
        · rw [if_neg (by omega), List.getElem?_eq_none (by simp [zax]; omega)]
      rcases zhw hh (k := k) (i := i + 1) (H := H1) K (by omega) hw with h | ⟨H', h1, h2, h3⟩
      · exact .inl h
      · have ha : i + 1 + k = i + (k + 1) := by omega
        rw [ha] at h1 h2 h3
        refine .inr ⟨H', h1, h2, ?_⟩
        rw [h3, hl]
        have hi : (listH n hp)[i]? = some b := by rw [zcs hh, if_pos (by omega), hat]
        have : (listH n hp).drop i = b :: (listH n hp).drop (i + 1) := by
          have hlt := zda hi
          rw [List.drop_eq_getElem_cons hlt]
          rw [List.getElem?_eq_getElem hlt] at hi
          rw [Option.some.inj hi]
        rw [this, List.take_succ_cons]
        simp

theorem zhl {H hp : T AB} {n : Nat} {tc : List Nat} (hH : WH N H) (hh : WH n hp) (K : T AB → Nat → R) : backQ H N hp n tc K = .no ∨ ∃ H' n', backQ H N hp n tc K = K H' n' ∧ WH n' H' ∧ listH n' H' = overH (listH N H) (listH n hp) tc ++ (listH n hp).drop N := by
  unfold backQ
  rcases zkg hH hh (tc := tc) (fun H => behindQ hp (Nat.sub n N) N H K) with h | ⟨H1, h1, h2, h3⟩
  · exact .inl h
  · rw [h1]
    by_cases hle : N ≤ n
    · have hs : N + (n - N) = n := by omega
      rcases zhw hh (k := n - N) (i := N) (H := H1) K (by omega) h2 with h | ⟨H', k1, k2, k3⟩
      · exact .inl h
      · refine .inr ⟨H', N + (n - N), k1, k2, ?_⟩
        rw [k3, h3]
        congr 1
        rw [List.take_of_length_le (by simp [zax])]
    · have h0 : Nat.sub n N = 0 := by show n - N = 0; omega
      rw [h0]
      exact .inr ⟨H1, N, rfl, h2, by rw [h3, List.drop_eq_nil_of_le (by rw [zax]; omega), List.append_nil]⟩

theorem zgq {x : CRes} {hp : T AB} {n : Nat} (hh : WH n hp) (K : AV → T AB → Nat → R) : tidyQ C pin x x.val hp n K = .no ∨ ∃ x2 hp2 n2, tidyQ C pin x x.val hp n K = K x2.val hp2 n2 ∧ WH n2 hp2 ∧ tidyC C pin x (listH n hp) = (x2, listH n2 hp2) := by
  unfold tidyQ tidyC
  rw [zbf, zax]
  show (if (C.calm || Nat.ble n (pin + C.gcAt)) = true then _ else _) = R.no ∨ _
  cases hb : (C.calm || Nat.ble n (pin + C.gcAt)) with
  | true =>
    rw [if_pos rfl]
    exact .inr ⟨x, hp, n, rfl, hh, rfl⟩
  | false =>
    rw [if_neg (by simp)]
    unfold slowTidy
    cases ht : tidy pin x (listH n hp) with
    | mk x2 l2 =>
    simp only [zbj]
    rcases zdi l2 (fun hp n => K x2.val hp n) with h | ⟨hp2, n2, h1, h2, h3⟩
    · exact .inl h
    · exact .inr ⟨x2, hp2, n2, h1, h2, by rw [h3]; rfl⟩
theorem zgr {x x2 : CRes} {H H2 : List AB} (h : tidyC C pin x H = (x2, H2)) : (∀ v, x = .ret v → ∃ w, x2 = .ret w) ∧ (∀ v, x = .pan v → ∃ w, x2 = .pan w) := by
  unfold tidyC at h
  cases hb : (C.calm || Nat.ble H.length (pin + C.gcAt)) <;> rw [hb] at h
  · unfold tidy at h
    cases h
    exact ⟨fun v hv => by subst hv; exact ⟨_, rfl⟩, fun v hv => by subst hv; exact ⟨_, rfl⟩⟩
  · cases h
    exact ⟨fun v hv => ⟨v, hv⟩, fun v hv => ⟨v, hv⟩⟩

theorem zww (v : AV) (tc : List Nat) : bare v tc = bareQ v tc := by
  unfold bare bareQ
  cases tc with
  | nil => cases h : refs v <;> simp
  | cons a l => simp

def outF (C : Cfg) (H : List AB) : Option (CRes × St) → Option (CRes × List AB × List Nat)
  | some (x, st) => bif bareQ x.val st.tc then some (x, H, []) else
      let (x, hp) := tidyC C H.length x st.hp
      some (x, overH H hp st.tc ++ hp.drop H.length, st.tc)
  | none => none
theorem zzw {H : T AB} (hH : WH N H) {r : R} {o : Option (CRes × St)} (h : FR r o) : CR (outQ C N H r) (outF C (listH N H) o) := by
  cases h with
  | no => exact .no
  | @ret v hp n st a b =>
    show CR (Bool.rec _ _ (bare v st.tc)) _
    rw [zbf, zww]
    unfold outF
    simp only [CRes.val]
    cases bareQ v st.tc with
    | true => rw [if_pos rfl]; exact .ret hH
    | false =>
      rw [if_neg (by simp), b]
      simp only [cond_false]
      rcases zgq (C := C) (pin := N) (x := .ret v) a (fun v hp n => backQ H N hp n st.tc fun H n => .cret v H n st.tc) with h | ⟨x2, hp2, n2, h1, h2, h3⟩
      · rw [show CRes.val (.ret v) = v from rfl] at h; rw [h]; exact .no
      · rw [show CRes.val (.ret v) = v from rfl] at h1
        rw [h1, zax, h3]
        obtain ⟨w, rfl⟩ := (zgr h3).1 v rfl
        rcases zhl (tc := st.tc) hH h2 (fun H n => .cret w H n st.tc) with h | ⟨H', n', k1, k2, k3⟩
        · rw [show CRes.val (.ret w) = w from rfl, h]; exact .no
        · rw [show CRes.val (.ret w) = w from rfl, k1]
          simp only
          rw [← k3]; exact .ret k2
  | @pan v hp n st a b =>
    show CR (Bool.rec _ _ (bare v st.tc)) _
    rw [zbf, zww]
    unfold outF
    simp only [CRes.val]
    cases bareQ v st.tc with
    | true => rw [if_pos rfl]; exact .pan hH
    | false =>
      rw [if_neg (by simp), b]
      simp only [cond_false]
      rcases zgq (C := C) (pin := N) (x := .pan v) a (fun v hp n => backQ H N hp n st.tc fun H n => .cpan v H n st.tc) with h | ⟨x2, hp2, n2, h1, h2, h3⟩
      · rw [show CRes.val (.pan v) = v from rfl] at h; rw [h]; exact .no
      · rw [show CRes.val (.pan v) = v from rfl] at h1
        rw [h1, zax, h3]
        obtain ⟨w, rfl⟩ := (zgr h3).2 v rfl
        rcases zhl (tc := st.tc) hH h2 (fun H n => .cpan w H n st.tc) with h | ⟨H', n', k1, k2, k3⟩
        · rw [show CRes.val (.pan w) = w from rfl, h]; exact .no
        · rw [show CRes.val (.pan w) = w from rfl, k1]
          simp only
          rw [← k3]; exact .pan k2

structure Quick (C : Cfg) : Prop where
  glob : ∀ g, C.glob g = none
  ok : ∀ f fn, C.fns f = some fn → okF fn = true

theorem zwk (hQ : Quick C) (hcall : CQ call' call) {f : Nat} {args : List AV} {H : T AB} {n : Nat} (hH : WH n H) : CR (enterQ C call' f args H n) (enter C call f args (listH n H)) := by
  unfold enterQ enter
  cases hext : C.ext f with
  | some g =>
    simp only
    cases hg : g args with
    | none => exact .no
    | some v =>
      show CR (forceV v _) _
      rw [zbj]
      exact .ret hH
  | none =>
    cases hexh : C.exth f with
    | some g =>
      simp only
      cases hg : g args (listH n H) with
      | none => exact .no
      | some v =>
        show CR (forceV v _) _
        rw [zbj]
        exact .ret hH
    | none =>
    simp only
    cases hf : C.fns f with
    | none => exact .no
    | some fn =>
      simp only
      have hok := hQ.ok f fn hf
      unfold okF at hok
      rw [Bool.and_eq_true] at hok
      show CR (Bool.rec (slowRun C call' fn args H n) (runQ C call' fn args H n) (C.whole f)) _
      cases hw : C.whole f with
      | true =>
        rw [cond_true]
        unfold runQ
        rw [zbf, zhb, zdq]
        split
        · rename_i hle
          have hle : args.length ≤ fn.ntmps := by simpa using hle
          obtain ⟨_, n2, n3⟩ := zcf fn.ntmps (fun _ => .no)
          obtain ⟨tr, l1, l2, l3⟩ := zfg (N := fn.ntmps) (l := args) (i := 0) (by omega) n2
          rw [(zcf fn.ntmps _).1, l1]
          have htm : listT fn.ntmps tr = args ++ List.replicate (fn.ntmps - args.length) .unk := by
            rw [l3, n3]; simp
          have hev := evQ_ok (C := C) (pin := n) (rd := none) hQ.glob hcall fn.body hok.1 tr [] H n [] l2 hH
          rw [htm] at hev
          have hfin := zwb (C := C) (pin := n) (fn := fn) hok.2 hev
          have hout := zzw (C := C) hH hfin
          rw [zax]
          have e : ∀ o : Option (AExit × St), outF C (listH n H) (match o with | some (e, st) => finish C n fn e st | none => none) =
              (match o with
              | some (e, st) => (match finish C n fn e st with
                | some (x, st) => bif bareQ x.val st.tc then some (x, listH n H, []) else
                  let (x, hp) := tidyC C n x st.hp
                  some (x, overH (listH n H) hp st.tc ++ hp.drop n, st.tc)
                | none => none)
              | none => none) := fun o => by
            cases o with
            | none => rfl
            | some p =>
              obtain ⟨e, st⟩ := p
              simp only
              cases finish C n fn e st with
              | none => rfl
              | some q => obtain ⟨x, st⟩ := q; simp only [outF, zax]
          exact Eq.mp (congrArg (fun o => CR (outQ C n H (finQ C n fn.ntmps fn (evQ C call' n fn.ntmps none fn.body tr [] H n []))) o) (e (ev C call n none fn.body { tm := args ++ List.replicate (fn.ntmps - args.length) .unk, df := [], hp := listH n H, tc := [] }))) hout
        · exact .no
      | false =>
        rw [cond_false]
        show CR (slowRun C call' fn args H n) _
        unfold slowRun
        rw [zbf, zhb, zdq]
        split
        · rename_i hle
          have hle : args.length ≤ fn.ntmps := by simpa using hle
          simp only [zcc, zez]
          generalize reach (listH n H) fuelR (refsL args) [] = r
          rcases zdi (restrict (listH n H) r) (fun H0 n0 => newT fn.ntmps fun tr => laysK (renL (place r) args) 0 tr fun tr => partGo (listH n H) r (finQ C n0 fn.ntmps fn (evQ C call' n0 fn.ntmps none fn.body tr [] H0 n0 []))) with h | ⟨H0, n0, h1, h2, h3⟩
          · rw [h]; exact .no
          · rw [h1]
            have hn0 : n0 = r.length := by rw [← zax n0 H0, h3]; simp [restrict]
            subst hn0
            obtain ⟨_, n2, n3⟩ := zcf fn.ntmps (fun _ => .no)
            have hrl : (renL (place r) args).length = args.length := zlb _ _
            obtain ⟨tr, l1, l2, l3⟩ := zfg (N := fn.ntmps) (l := renL (place r) args) (i := 0) (by omega) n2
            rw [(zcf fn.ntmps _).1, l1]
            have htm : listT fn.ntmps tr = renL (place r) args ++ List.replicate (fn.ntmps - args.length) .unk := by
              rw [l3, n3]; simp [hrl]
            have hev := evQ_ok (C := C) (pin := r.length) (rd := none) hQ.glob hcall fn.body hok.1 tr [] H0 r.length [] l2 h2
            rw [htm, h3] at hev
            have hfin := zwb (C := C) (pin := r.length) (fn := fn) hok.2 hev
            have hpart : ∀ (R0 : R) (o : Option (CRes × St)), FR R0 o → CR (partGo (listH n H) r R0) (match o with
                | some (x, st) => some (partOut (listH n H) r x st.hp st.tc)
                | none => none) := by
              intro R0 o h
              have hK : ∀ p : CRes × List AB × List Nat, CR (partR p) (some p) := by
                rintro ⟨x, l, t⟩
                cases x with
                | ret v =>
                  simp only [partR, zbj, zcc]
                  rcases zdi l (fun hp n => .cret v hp n t) with h | ⟨hp', n', k1, k2, k3⟩
                  · rw [h]; exact .no
                  · rw [k1, ← k3]; exact .ret k2
                | pan v =>
                  simp only [partR, zbj, zcc]
                  rcases zdi l (fun hp n => .cpan v hp n t) with h | ⟨hp', n', k1, k2, k3⟩
                  · rw [h]; exact .no
                  · rw [k1, ← k3]; exact .pan k2
              cases h with
              | no => exact .no
              | @ret v hp m st a b => simp only; rw [b]; exact hK (partOut (listH n H) r (.ret v) (listH m hp) st.tc)
              | @pan v hp m st a b => simp only; rw [b]; exact hK (partOut (listH n H) r (.pan v) (listH m hp) st.tc)
            have hout := hpart _ _ hfin
            have e : ∀ o : Option (AExit × St), (match (generalizing := false) (match (generalizing := false) o with | some (e, st) => finish C r.length fn e st | none => none) with
                | some (x, st) => some (partOut (listH n H) r x st.hp st.tc)
                | none => none) = (match (generalizing := false) o with
                | some (e, st) => (match (generalizing := false) finish C r.length fn e st with
                  | some (x, st) =>
                    let (x, hp) := tidy r.length x st.hp
                    some (x.map (ren (backN (listH n H).length r)), backH (listH n H) r hp st.tc ++ (hp.drop r.length).map (renB (backN (listH n H).length r)), st.tc.map fun j => r.getD j (listH n H).length)
                  | none => none)
                | none => none) := fun o => by
              cases o with
              | none => rfl
              | some p =>
                obtain ⟨e, st⟩ := p
                simp only
                cases finish C r.length fn e st with
                | none => rfl
                | some q => obtain ⟨x, st⟩ := q; rfl
            exact Eq.mp (congrArg (fun o => CR (partGo (listH n H) r (finQ C r.length fn.ntmps fn (evQ C call' r.length fn.ntmps none fn.body tr [] H0 r.length []))) o) (e (ev C call r.length none fn.body { tm := renL (place r) args ++ List.replicate (fn.ntmps - args.length) .unk, df := [], hp := restrict (listH n H) r, tc := [] }))) hout
        · exact .no

theorem zkf : ∀ {ps : List Nat} {as : List AV} {tr : T AV}, (∀ p, p ∈ ps → p < N) → WT N tr → ∃ tr', (∀ K, parsK ps as tr K = K tr') ∧ WT N tr' ∧ listT N tr' = setParams (listT N tr) ps as
  | [], as, tr, _, ht => ⟨tr, fun _ => rfl, ht, by simp [setParams]⟩
  | p :: ps, [], tr, _, ht => ⟨tr, fun _ => rfl, ht, by simp [setParams]⟩
  | p :: ps, a :: as, tr, h, ht => by
    obtain ⟨tr1, a1, a2, a3⟩ := zer ht (h p (List.mem_cons_self ..)) a
    obtain ⟨tr2, b1, b2, b3⟩ := zkf (ps := ps) (as := as) (fun x hx => h x (List.mem_cons_of_mem _ hx)) a2
    refine ⟨tr2, fun K => ?_, b2, by rw [b3, a3]; rfl⟩
    show setK tr p a (fun tr => parsK ps as tr K) = _
    rw [a1, b1]

theorem zlo {l : Nat} {H hp : T AB} {n : Nat} {p : Option AExit} {tc : List Nat} (hH : WH N H) (hh : WH n hp) {r2 : ALoop} (hl : (listH n hp)[l]? = some (.loop r2)) :
    CR (endRd C l N H p p.isNone hp n tc) (let hp := (listH n hp).set l (.loop { r2 with st := if p.isNone then .ready else .done, pend := p })
              let (x, hp) := tidyC C N (.ret (.bool p.isNone)) hp
              some (x, overH (listH N H) hp (l :: tc) ++ hp.drop N, l :: tc)) := by
  unfold endRd
  rw [zbq hh, hl]
  simp only [yag]
  obtain ⟨hp1, s1, s2, s3⟩ := zes hh (show l < n by rw [← zax n hp]; exact zda hl) (.loop ⟨Bool.rec .done .ready p.isNone, p, r2.tm, r2.params, r2.assign, r2.body, r2.dfr⟩)
  rw [s1]
  have he : (if p.isNone = true then LSt.ready else LSt.done) = (Bool.rec .done .ready p.isNone : LSt) := by cases p.isNone <;> rfl
  rw [he, ← s3]
  rcases zgq (C := C) (pin := N) (x := .ret (.bool p.isNone)) s2 (fun v hp n => backQ H N hp n (l :: tc) fun H n => .cret v H n (l :: tc)) with h | ⟨x2, hp2, n2, h1, h2, h3⟩
  · rw [show CRes.val (.ret (.bool p.isNone)) = .bool p.isNone from rfl] at h; rw [h]; exact .no
  · rw [show CRes.val (.ret (.bool p.isNone)) = .bool p.isNone from rfl] at h1
    rw [h1, h3]
    obtain ⟨w, rfl⟩ := (zgr h3).1 _ rfl
    rcases zhl (tc := l :: tc) hH h2 (fun H n => .cret w H n (l :: tc)) with h | ⟨H', n', k1, k2, k3⟩
    · rw [show CRes.val (.ret w) = w from rfl, h]; exact .no
    · rw [show CRes.val (.ret w) = w from rfl, k1]
      simp only
      rw [← k3]; exact .ret k2

theorem zkh (s : LSt) (K : R) : isReady s K = if s = .ready then K else .no := by cases s <;> rfl

theorem zug (hQ : Quick C) (hcall : CQ call' call) {l : Nat} {args : List AV} {H : T AB} {n : Nat} (hH : WH n H) : CR (roundQ C call' l args H n) (round C call l args (listH n H)) := by
  unfold roundQ round
  rw [zbq hH]
  cases hl : (listH n H)[l]? with
  | none => exact .no
  | some blk =>
    cases blk with
    | loop r =>
      simp only
      rw [zkh]
      by_cases hst : r.st = .ready
      · rw [if_pos hst, zbf]
        simp only [zhb, zqg]
        split
        · rename_i hlen
          have hlen : args.length = r.params.length := Nat.eq_of_beq_eq_true hlen
          rw [if_pos ⟨hst, hlen⟩, zbu, zbf]
          split
          · rename_i hc
            simp only [andB_eq, Bool.and_eq_true] at hc
            obtain ⟨c1, c2, c3⟩ := hc
            obtain ⟨tr, a1, a2, a3⟩ := zpy (N := r.tm.length) (l := r.tm) rfl
            rw [a1]
            obtain ⟨tr1, b1, b2, b3⟩ := zkf (ps := r.params) (as := args) (all_lt c3) a2
            rw [b1]
            have hev := evQ_ok (C := C) (pin := n) (rd := some l) hQ.glob hcall r.assign c1 tr1 [] H n [] b2 hH
            rw [b3, a3] at hev
            rw [zax]
            generalize evQ C call' n r.tm.length (some l) r.assign tr1 [] H n [] = R1 at hev
            generalize ev C call n (some l) r.assign { tm := setParams r.tm r.params args, df := [], hp := listH n H, tc := [] } = o1 at hev
            cases hev with
            | no => exact .no
            | @norm tr2 df hp m tc w1 w2 =>
              show CR (loopAt hp m l _) _
              rw [zbq w2]
              simp only
              cases hl1 : (listH m hp)[l]? with
              | none => exact .no
              | some blk1 =>
                cases blk1 with
                | loop r1 =>
                  simp only
                  rw [zkh]
                  by_cases hst1 : r1.st = .ready
                  · rw [if_pos hst1, if_pos hst1]
                    obtain ⟨hp1, s1, s2, s3⟩ := zes w2 (show l < m by rw [← zax m hp]; exact zda hl1) (.loop ⟨.busy, r1.pend, r1.tm, r1.params, r1.assign, r1.body, r1.dfr⟩)
                    rw [s1]
                    have hev2 := evQ_ok (C := C) (pin := n) (rd := some l) hQ.glob hcall r.body c2 tr2 df hp1 m (l :: tc) w1 s2
                    rw [s3] at hev2
                    generalize evQ C call' n r.tm.length (some l) r.body tr2 df hp1 m (l :: tc) = R2 at hev2
                    generalize ev C call n (some l) r.body { tm := listT r.tm.length tr2, df := df, hp := (listH m hp).set l (.loop ⟨.busy, r1.pend, r1.tm, r1.params, r1.assign, r1.body, r1.dfr⟩), tc := l :: tc } = o2 at hev2
                    cases hev2 with
                    | no => exact .no
                    | @norm tr3 df3 hp3 m3 tc3 x1 x2 =>
                      show CR (endRd C l n H none true hp3 m3 tc3) _
                      simp only
                      cases hl3 : (listH m3 hp3)[l]? with
                      | none => unfold endRd; rw [zbq x2, hl3]; exact .no
                      | some blk3 =>
                        cases blk3 with
                        | loop r3 => exact zlo (p := none) hH x2 hl3
                        | _ => unfold endRd; rw [zbq x2, hl3]; exact .no
                    | @exit i tr3 df3 hp3 m3 tc3 x1 x2 =>
                      show CR (endRd C l n H (some (.exit i)) false hp3 m3 tc3) _
                      simp only
                      cases hl3 : (listH m3 hp3)[l]? with
                      | none => unfold endRd; rw [zbq x2, hl3]; exact .no
                      | some blk3 =>
                        cases blk3 with
                        | loop r3 => exact zlo (p := some (.exit i)) hH x2 hl3
                        | _ => unfold endRd; rw [zbq x2, hl3]; exact .no
                    | @ret tr3 df3 hp3 m3 tc3 x1 x2 =>
                      show CR (endRd C l n H (some .ret) false hp3 m3 tc3) _
                      simp only
                      cases hl3 : (listH m3 hp3)[l]? with
                      | none => unfold endRd; rw [zbq x2, hl3]; exact .no
                      | some blk3 =>
                        cases blk3 with
                        | loop r3 => exact zlo (p := some .ret) hH x2 hl3
                        | _ => unfold endRd; rw [zbq x2, hl3]; exact .no
                    | pan x1 x2 => exact .no
                  · rw [if_neg hst1]; exact .no
                | _ => exact .no
            | exit w1 w2 => exact .no
            | ret w1 w2 => exact .no
            | pan w1 w2 => exact .no
          · exact .no
        · exact .no
      · rw [if_neg hst]; exact .no
    | _ => exact .no

theorem zqy (hQ : Quick C) : ∀ m, CQ (callQ C m) (Ev.call C m)
  | 0 => fun f args hp n _ => .no
  | m + 1 => fun f args hp n hh => by
    have ih := zqy hQ m
    have e : callQ C (m + 1) f args hp n = asFn f (fun f a b => fnK f fun f => catL args b fun l => catL a l fun l => enterQ C (callQ C m) f l hp n) (fun l => roundQ C (callQ C m) l args hp n) := rfl
    rw [e, zpf]
    simp only [Ev.call]
    split
    · rename_i f' a b
      rw [fnK_eq]
      cases f' with
      | func f'' =>
        simp only [zpd]
        rw [List.append_assoc]
        exact zwk hQ ih hh
      | _ => exact .no
    · exact zug hQ ih hh
    · exact .no

theorem found (hQ : Quick C) {m : Nat} {f : AV} {args : List AV} {hp hp' : T AB} {n n' : Nat} {v : AV} {tc : List Nat} (hh : WH n hp) (h : callQ C m f args hp n = .cret v hp' n' tc) : Ev.call C m f args (listH n hp) = some (.ret v, listH n' hp', tc) ∧ WH n' hp' := by
  have := zqy hQ m f args hp n hh
  rw [h] at this
  generalize Ev.call C m f args (listH n hp) = o at this
  cases this with
  | ret w => exact ⟨rfl, w⟩
end
end Q
end Ev
end Go.Proofs.Ytimgnlellflciaa

/- From what the evaluator finds to what a call of the program comes to: a function without parameters that answers a bool. -/
namespace Go.Proofs.Ytimgnlellflciaa
open Go Go.RowKit
namespace Ev

theorem zxd {P : Program} {C : Cfg} (hT : TblOk P C) {m f : Nat} {b : Bool} {H' : List AB} {tc : List Nat} (h : Ev.call C m (.fn (.func f) [] []) [] [] = some (.ret (.bool b), H', tc)) (W : World) (hG : Globs C W (fun _ => False)) :
    CallsIn Fence.wide 0 P f #[] W fun e W' => e = .returned (.bool b) ∧ Below W.heap.size W W' := by
  have hok := zpe hT m
  have hsim : Sim P W (fun _ => False) nomu [] := { live := fun i B h => (by cases h), dead := fun i b h _ => (by cases h), out := fun _ _ => rfl, inj := fun i j B h _ => (by cases h), lt := fun b h => h.elim }
  obtain ⟨r, W1, h1, h2⟩ := hok.sound (tc0 := []) h (Hp.start (P := P) hsim) hG
    (rf := .func (.func f) #[] #[]) (rargs := #[]) (.fn (rf := []) (rc := []) (by intro l; simp) rfl (by intro i x r h; simp at h) rfl (by intro i x r h; simp at h)) VL.nil
  have e : (do let d ← Deferred.ofValue (.func (.func f) #[] #[]) #[]; invoke d.target d.args : Sem Next).run P W = .ok (.enter f #[]) W := by
    simp only [Deferred.ofValue, Sem.run_bind, Sem.run_pure, Result.andThen, invoke]
    exact hok.fn h _ _
  rw [e] at h1
  cases h1
  refine CallsIn.mono h2 ?_
  rintro en W' ⟨L', μ', c1, c2, _⟩
  cases en <;> simp only [CRel] at c1
  refine ⟨by rw [zbk c1], c2.env.1, c2.env.2.1, c2.env.2.2, c2.size, fun k hk => c2.same k hk fun i _ hi => by cases hi⟩

end Ev
end Go.Proofs.Ytimgnlellflciaa
