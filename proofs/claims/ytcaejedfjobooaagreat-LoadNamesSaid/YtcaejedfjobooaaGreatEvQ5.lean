/- The quick evaluator: ends of functions, calls; what it comes to is what the first one does. -/
import Derived.Test.YtcaejedfjobooaaGreatEvQ4
namespace Go.Proofs.YtcaejedfjobooaaGreat
open Go
namespace Ev
namespace Q
section
variable {C : Cfg} {N pin : Nat} {rd : Option Nat} {call' : CallQ} {call : CallF}

theorem resK_spec {tr : T AV} {df : List ADef} {hp : T AB} {n : Nat} {tc : List Nat} (hh : WH n hp) : ∀ {l : List ARes} (K : List AV → R), l.all (okR N) = true → resK tr hp n l K = .no ∨ ∃ vs, resK tr hp n l K = K vs ∧ resL (St.mk (listT N tr) df (listH n hp) tc) l = some vs
  | [], K, _ => .inr ⟨[], rfl, rfl⟩
  | r :: l, K, h => by
    rw [List.all_cons, Bool.and_eq_true] at h
    cases r with
    | tmp t =>
      have ht : t < N := Nat.le_of_ble_eq_true h.1
      have e : resK tr hp n (.tmp t :: l) K = getK tr t (resK tr hp n l fun l => K (.unk :: l)) fun v => resK tr hp n l fun l => K (v :: l) := rfl
      have e2 : resK tr hp n (.tmp t :: l) K = resK tr hp n l fun l => K ((listT N tr).getD t .unk :: l) := by
        rw [e, getK_eq, listT_getD tr ht]
        cases at? tr t <;> rfl
      rw [e2]
      rcases resK_spec (df := df) (tc := tc) hh (l := l) (fun l => K ((listT N tr).getD t .unk :: l)) h.2 with h1 | ⟨vs, h1, h2⟩
      · exact .inl h1
      · exact .inr ⟨_, h1, by simp only [resL, resOf, h2]⟩
    | cell t k =>
      have ht : t < N := Nat.le_of_ble_eq_true h.1
      have e : resK tr hp n (.cell t k :: l) K = getK tr t .no fun v => asPtr v (fun b off => cellsAt hp n b fun cs => pickK k cs off fun v => resK tr hp n l fun l => K (v :: l)) .no := rfl
      rw [e, getK_eq]
      cases hat : at? tr t with
      | none => exact .inl rfl
      | some x =>
        have hu : (listT N tr).getD t .unk = x := by rw [listT_getD tr ht, hat]; rfl
        simp only
        rw [asPtr_eq]
        split
        · rename_i b off
          rw [cellsAt_eq hh]
          split
          · rename_i cs hb
            rw [pickK_eq]
            cases hp' : pickC k cs off with
            | none => exact .inl rfl
            | some v =>
              simp only
              rcases resK_spec (df := df) (tc := tc) hh (l := l) (fun l => K (v :: l)) h.2 with h1 | ⟨vs, h1, h2⟩
              · exact .inl h1
              · exact .inr ⟨_, h1, by simp only [resL, resOf, hu, hb, hp', h2]⟩
          · exact .inl rfl
        · exact .inl rfl
theorem resVK_eq (l : List AV) (K : AV → R) : resVK l K = K (resV l) := by
  match l with
  | [] => rfl
  | [v] => rfl
  | a :: b :: l => rfl

/-- What a function's end comes to. -/
inductive FR : R → Option (CRes × St) → Prop
  | no {o : Option (CRes × St)} : FR .no o
  | ret {v : AV} {hp : T AB} {n : Nat} {st : St} : WH n hp → st.hp = listH n hp → FR (.cret v hp n st.tc) (some (.ret v, st))
  | pan {v : AV} {hp : T AB} {n : Nat} {st : St} : WH n hp → st.hp = listH n hp → FR (.cpan v hp n st.tc) (some (.pan v, st))

theorem slowFin_ok {fn : AFunc} {e : AExit} {tr : T AV} {df : List ADef} {hp : T AB} {n : Nat} {tc : List Nat} : FR (slowFin C pin N fn e tr df hp n tc) (finish C pin fn e (St.mk (listT N tr) df (listH n hp) tc)) := by
  unfold slowFin
  cases finish C pin fn e (St.mk (listT N tr) df (listH n hp) tc) with
  | none => exact .no
  | some p =>
    obtain ⟨x, st⟩ := p
    cases x with
    | ret v =>
      simp only [forceV_eq, forceNs_eq]
      rcases ofH_spec st.hp (fun hp n => .cret v hp n st.tc) with h | ⟨hp', n', h1, h2, h3⟩
      · rw [h]; exact .no
      · rw [h1]; exact .ret h2 h3.symm
    | pan v =>
      simp only [forceV_eq, forceNs_eq]
      rcases ofH_spec st.hp (fun hp n => .cpan v hp n st.tc) with h | ⟨hp', n', h1, h2, h3⟩
      · rw [h]; exact .no
      · rw [h1]; exact .pan h2 h3.symm

theorem finQ_ok {fn : AFunc} (hres : fn.res.all (okR N) = true) {r : R} {o : Option (AExit × St)} (h : ER N r o) : FR (finQ C pin N fn r) (match (generalizing := false) o with | some (e, st) => finish C pin fn e st | none => none) := by
  have hnil : ∀ (e : AExit) (tr : T AV) (hp : T AB) (n : Nat) (tc : List Nat), (e = .normal ∨ e = .ret) → WH n hp → FR (resK tr hp n fn.res fun l => resVK l fun v => .cret v hp n tc) (finish C pin fn e (St.mk (listT N tr) [] (listH n hp) tc)) := by
    intro e tr hp n tc he hh
    rcases resK_spec (df := []) (tc := tc) hh (l := fn.res) (fun l => resVK l fun v => .cret v hp n tc) hres with h1 | ⟨vs, h1, h2⟩
    · rw [h1]; exact .no
    · rw [h1, resVK_eq]
      have hf : finish C pin fn e (St.mk (listT N tr) [] (listH n hp) tc) = some (.ret (resV vs), St.mk (listT N tr) [] (listH n hp) tc) := by
        rcases he with rfl | rfl <;> simp only [finish, runDefs, h2] <;> rfl
      rw [hf]
      exact FR.ret (st := St.mk (listT N tr) [] (listH n hp) tc) hh rfl
  cases h with
  | no => exact .no
  | @norm tr df hp n tc a b =>
    cases df with
    | nil => exact hnil .normal tr hp n tc (.inl rfl) b
    | cons d df => exact slowFin_ok
  | exit a b => exact .no
  | @ret tr df hp n tc a b =>
    cases df with
    | nil => exact hnil .ret tr hp n tc (.inr rfl) b
    | cons d df => exact slowFin_ok
  | @pan v tr df hp n tc a b =>
    cases df with
    | nil =>
      have hf : finish C pin fn (.panic v) (St.mk (listT N tr) [] (listH n hp) tc) = some (.pan v, St.mk (listT N tr) [] (listH n hp) tc) := by simp only [finish, runDefs]
      simp only
      rw [hf]
      exact FR.pan (st := St.mk (listT N tr) [] (listH n hp) tc) b rfl
    | cons d df => exact slowFin_ok

theorem overQ_spec {H hp : T AB} {n : Nat} (hH : WH N H) (hh : WH n hp) : ∀ {tc : List Nat} (K : T AB → R), overQ H N hp n tc K = .no ∨ ∃ H', overQ H N hp n tc K = K H' ∧ WH N H' ∧ listH N H' = overH (listH N H) (listH n hp) tc
  | [], K => .inr ⟨H, rfl, hH, rfl⟩
  | j :: tc, K => by
    have e : overQ H N hp n (j :: tc) K = overQ H N hp n tc fun H' => Bool.rec (K H') (blockK hp n j fun b => setK H' j b K) (Nat.ble (Nat.succ j) N) := rfl
    rw [e]
    rcases overQ_spec hH hh (tc := tc) (fun H' => Bool.rec (K H') (blockK hp n j fun b => setK H' j b K) (Nat.ble (Nat.succ j) N)) with h | ⟨H1, h1, h2, h3⟩
    · exact .inl h
    · rw [h1, boolRec_if, ble_iff]
      split
      · rename_i hj
        have hj : j < N := by simp at hj; omega
        rw [blockK_eq hh]
        cases hb : (listH n hp)[j]? with
        | none => exact .inl rfl
        | some b =>
          obtain ⟨H2, s1, s2, s3⟩ := setH_spec h2 hj b
          refine .inr ⟨H2, s1 K, s2, ?_⟩
          rw [s3, h3]
          simp only [overH]
          rw [List.getD_eq_getElem?_getD, hb]; rfl
      · rename_i hj
        have hj : N ≤ j := by simp at hj; omega
        refine .inr ⟨H1, rfl, h2, ?_⟩
        simp only [overH]
        rw [← h3, List.set_eq_of_length_le (by rw [listH_len]; exact hj)]

theorem behindQ_spec {hp : T AB} {n : Nat} (hh : WH n hp) : ∀ {k i : Nat} {H : T AB} (K : T AB → Nat → R), i + k ≤ n → WH i H → behindQ hp k i H K = .no ∨ ∃ H', behindQ hp k i H K = K H' (i + k) ∧ WH (i + k) H' ∧ listH (i + k) H' = listH i H ++ ((listH n hp).drop i).take k
  | 0, i, H, K, _, hH => .inr ⟨H, rfl, hH, by simp⟩
  | k + 1, i, H, K, hle, hH => by
    have e : behindQ hp (k + 1) i H K = getK hp i .no fun b => setK H i b fun H => behindQ hp k (Nat.succ i) H K := rfl
    rw [e, getK_eq]
    cases hat : at? hp i with
    | none => exact .inl rfl
    | some b =>
      have hn := hh.le
      obtain ⟨H1, a1, a2, a3⟩ := setK_spec hH.wf i b
      simp only
      rw [a1]
      have hc : (2 : Nat) ^ cap = 128 := rfl
      have hw : WH (i + 1) H1 := ⟨a2, by omega, fun j hj => by
        rw [a3]
        split
        · rfl
        · rename_i hne
          refine hH.there j ?_
          rcases Nat.lt_or_ge j i with hl | hl
          · exact hl
          · exact absurd (by rw [show j = i by omega]) hne⟩
      have hl : listH (i + 1) H1 = listH i H ++ [b] := List.ext_getElem? fun s => by
        rw [listH_get hw]
        rcases Nat.lt_trichotomy s i with hs | hs | hs
        · rw [if_pos (by omega), a3, Nat.mod_eq_of_lt (by omega), Nat.mod_eq_of_lt (by omega : i < 2 ^ cap), if_neg (by omega), List.getElem?_append_left (by rw [listH_len]; exact hs), listH_get hH, if_pos hs]
        · subst hs
          rw [if_pos (by omega), a3, if_pos rfl, List.getElem?_append_right (by rw [listH_len]; omega), listH_len]; simp
        · rw [if_neg (by omega), List.getElem?_eq_none (by simp [listH_len]; omega)]
      rcases behindQ_spec hh (k := k) (i := i + 1) (H := H1) K (by omega) hw with h | ⟨H', h1, h2, h3⟩
      · exact .inl h
      · have ha : i + 1 + k = i + (k + 1) := by omega
        rw [ha] at h1 h2 h3
        refine .inr ⟨H', h1, h2, ?_⟩
        rw [h3, hl]
        have hi : (listH n hp)[i]? = some b := by rw [listH_get hh, if_pos (by omega), hat]
        have : (listH n hp).drop i = b :: (listH n hp).drop (i + 1) := by
          have hlt := lt_of_get hi
          rw [List.drop_eq_getElem_cons hlt]
          rw [List.getElem?_eq_getElem hlt] at hi
          rw [Option.some.inj hi]
        rw [this, List.take_succ_cons]
        simp

theorem backQ_spec {H hp : T AB} {n : Nat} {tc : List Nat} (hH : WH N H) (hh : WH n hp) (K : T AB → Nat → R) : backQ H N hp n tc K = .no ∨ ∃ H' n', backQ H N hp n tc K = K H' n' ∧ WH n' H' ∧ listH n' H' = overH (listH N H) (listH n hp) tc ++ (listH n hp).drop N := by
  unfold backQ
  rcases overQ_spec hH hh (tc := tc) (fun H => behindQ hp (Nat.sub n N) N H K) with h | ⟨H1, h1, h2, h3⟩
  · exact .inl h
  · rw [h1]
    by_cases hle : N ≤ n
    · have hs : N + (n - N) = n := by omega
      rcases behindQ_spec hh (k := n - N) (i := N) (H := H1) K (by omega) h2 with h | ⟨H', k1, k2, k3⟩
      · exact .inl h
      · refine .inr ⟨H', N + (n - N), k1, k2, ?_⟩
        rw [k3, h3]
        congr 1
        rw [List.take_of_length_le (by simp [listH_len])]
    · have h0 : Nat.sub n N = 0 := by show n - N = 0; omega
      rw [h0]
      exact .inr ⟨H1, N, rfl, h2, by rw [h3, List.drop_eq_nil_of_le (by rw [listH_len]; omega), List.append_nil]⟩

theorem tidyQ_spec {x : CRes} {hp : T AB} {n : Nat} (hh : WH n hp) (K : AV → T AB → Nat → R) : tidyQ C pin x x.val hp n K = .no ∨ ∃ x2 hp2 n2, tidyQ C pin x x.val hp n K = K x2.val hp2 n2 ∧ WH n2 hp2 ∧ tidyC C pin x (listH n hp) = (x2, listH n2 hp2) := by
  unfold tidyQ tidyC
  rw [boolRec_if, listH_len]
  show (if Nat.ble n (pin + C.gcAt) = true then _ else _) = R.no ∨ _
  cases hb : Nat.ble n (pin + C.gcAt) with
  | true =>
    rw [if_pos rfl]
    exact .inr ⟨x, hp, n, rfl, hh, rfl⟩
  | false =>
    rw [if_neg (by simp)]
    unfold slowTidy
    cases ht : tidy pin x (listH n hp) with
    | mk x2 l2 =>
    simp only [forceV_eq]
    rcases ofH_spec l2 (fun hp n => K x2.val hp n) with h | ⟨hp2, n2, h1, h2, h3⟩
    · exact .inl h
    · exact .inr ⟨x2, hp2, n2, h1, h2, by rw [h3]; rfl⟩
theorem tidyC_kind {x x2 : CRes} {H H2 : List AB} (h : tidyC C pin x H = (x2, H2)) : (∀ v, x = .ret v → ∃ w, x2 = .ret w) ∧ (∀ v, x = .pan v → ∃ w, x2 = .pan w) := by
  unfold tidyC at h
  cases hb : Nat.ble H.length (pin + C.gcAt) <;> rw [hb] at h
  · unfold tidy at h
    cases h
    exact ⟨fun v hv => by subst hv; exact ⟨_, rfl⟩, fun v hv => by subst hv; exact ⟨_, rfl⟩⟩
  · cases h
    exact ⟨fun v hv => ⟨v, hv⟩, fun v hv => ⟨v, hv⟩⟩

theorem bare_eq (v : AV) (tc : List Nat) : bare v tc = bareQ v tc := by
  unfold bare bareQ
  cases tc with
  | nil => cases h : refs v <;> simp
  | cons a l => simp

/-- What is handed back of a call whose heap was seen whole. -/
def outF (C : Cfg) (H : List AB) : Option (CRes × St) → Option (CRes × List AB × List Nat)
  | some (x, st) => bif bareQ x.val st.tc then some (x, H, []) else
      let (x, hp) := tidyC C H.length x st.hp
      some (x, overH H hp st.tc ++ hp.drop H.length, st.tc)
  | none => none
theorem outQ_ok {H : T AB} (hH : WH N H) {r : R} {o : Option (CRes × St)} (h : FR r o) : CR (outQ C N H r) (outF C (listH N H) o) := by
  cases h with
  | no => exact .no
  | @ret v hp n st a b =>
    show CR (Bool.rec _ _ (bare v st.tc)) _
    rw [boolRec_if, bare_eq]
    unfold outF
    simp only [CRes.val]
    cases bareQ v st.tc with
    | true => rw [if_pos rfl]; exact .ret hH
    | false =>
      rw [if_neg (by simp), b]
      simp only [cond_false]
      rcases tidyQ_spec (C := C) (pin := N) (x := .ret v) a (fun v hp n => backQ H N hp n st.tc fun H n => .cret v H n st.tc) with h | ⟨x2, hp2, n2, h1, h2, h3⟩
      · rw [show CRes.val (.ret v) = v from rfl] at h; rw [h]; exact .no
      · rw [show CRes.val (.ret v) = v from rfl] at h1
        rw [h1, listH_len, h3]
        obtain ⟨w, rfl⟩ := (tidyC_kind h3).1 v rfl
        rcases backQ_spec (tc := st.tc) hH h2 (fun H n => .cret w H n st.tc) with h | ⟨H', n', k1, k2, k3⟩
        · rw [show CRes.val (.ret w) = w from rfl, h]; exact .no
        · rw [show CRes.val (.ret w) = w from rfl, k1]
          simp only
          rw [← k3]; exact .ret k2
  | @pan v hp n st a b =>
    show CR (Bool.rec _ _ (bare v st.tc)) _
    rw [boolRec_if, bare_eq]
    unfold outF
    simp only [CRes.val]
    cases bareQ v st.tc with
    | true => rw [if_pos rfl]; exact .pan hH
    | false =>
      rw [if_neg (by simp), b]
      simp only [cond_false]
      rcases tidyQ_spec (C := C) (pin := N) (x := .pan v) a (fun v hp n => backQ H N hp n st.tc fun H n => .cpan v H n st.tc) with h | ⟨x2, hp2, n2, h1, h2, h3⟩
      · rw [show CRes.val (.pan v) = v from rfl] at h; rw [h]; exact .no
      · rw [show CRes.val (.pan v) = v from rfl] at h1
        rw [h1, listH_len, h3]
        obtain ⟨w, rfl⟩ := (tidyC_kind h3).2 v rfl
        rcases backQ_spec (tc := st.tc) hH h2 (fun H n => .cpan w H n st.tc) with h | ⟨H', n', k1, k2, k3⟩
        · rw [show CRes.val (.pan w) = w from rfl, h]; exact .no
        · rw [show CRes.val (.pan w) = w from rfl, k1]
          simp only
          rw [← k3]; exact .pan k2

/-- What the quick evaluator asks of what it is told. -/
structure Quick (C : Cfg) : Prop where
  glob : ∀ g, C.glob g = none
  ok : ∀ f fn, C.fns f = some fn → okF fn = true

theorem enterQ_ok (hQ : Quick C) (hcall : CQ call' call) {f : Nat} {args : List AV} {H : T AB} {n : Nat} (hH : WH n H) : CR (enterQ C call' f args H n) (enter C call f args (listH n H)) := by
  unfold enterQ enter
  cases hext : C.ext f with
  | some g =>
    simp only
    cases hg : g args with
    | none => exact .no
    | some v =>
      show CR (forceV v _) _
      rw [forceV_eq]
      exact .ret hH
  | none =>
    cases hexh : C.exth f with
    | some g =>
      simp only
      cases hg : g args (listH n H) with
      | none => exact .no
      | some v =>
        show CR (forceV v _) _
        rw [forceV_eq]
        exact .ret hH
    | none =>
    simp only
    cases hf : C.fns f with
    | none => exact .no
    | some fn =>
      simp only
      have hok := hQ.ok f fn hf
      unfold okF at hok
      rw [Bool.and_eq_true] at hok
      show CR (Bool.rec (slowRun C call' fn args H n) (runQ C call' fn args H n) (C.whole f)) _
      cases hw : C.whole f with
      | true =>
        rw [cond_true]
        unfold runQ
        rw [boolRec_if, lenL_eq, ble_iff]
        split
        · rename_i hle
          have hle : args.length ≤ fn.ntmps := by simpa using hle
          obtain ⟨_, n2, n3⟩ := newT_spec fn.ntmps (fun _ => .no)
          obtain ⟨tr, l1, l2, l3⟩ := laysK_spec (N := fn.ntmps) (l := args) (i := 0) (by omega) n2
          rw [(newT_spec fn.ntmps _).1, l1]
          have htm : listT fn.ntmps tr = args ++ List.replicate (fn.ntmps - args.length) .unk := by
            rw [l3, n3]; simp
          have hev := evQ_ok (C := C) (pin := n) (rd := none) hQ.glob hcall fn.body hok.1 tr [] H n [] l2 hH
          rw [htm] at hev
          have hfin := finQ_ok (C := C) (pin := n) (fn := fn) hok.2 hev
          have hout := outQ_ok (C := C) hH hfin
          rw [listH_len]
          have e : ∀ o : Option (AExit × St), outF C (listH n H) (match o with | some (e, st) => finish C n fn e st | none => none) =
              (match o with
              | some (e, st) => (match finish C n fn e st with
                | some (x, st) => bif bareQ x.val st.tc then some (x, listH n H, []) else
                  let (x, hp) := tidyC C n x st.hp
                  some (x, overH (listH n H) hp st.tc ++ hp.drop n, st.tc)
                | none => none)
              | none => none) := fun o => by
            cases o with
            | none => rfl
            | some p =>
              obtain ⟨e, st⟩ := p
              simp only
              cases finish C n fn e st with
              | none => rfl
              | some q => obtain ⟨x, st⟩ := q; simp only [outF, listH_len]
          exact Eq.mp (congrArg (fun o => CR (outQ C n H (finQ C n fn.ntmps fn (evQ C call' n fn.ntmps none fn.body tr [] H n []))) o) (e (ev C call n none fn.body { tm := args ++ List.replicate (fn.ntmps - args.length) .unk, df := [], hp := listH n H, tc := [] }))) hout
        · exact .no
      | false =>
        rw [cond_false]
        show CR (slowRun C call' fn args H n) _
        unfold slowRun
        rw [boolRec_if, lenL_eq, ble_iff]
        split
        · rename_i hle
          have hle : args.length ≤ fn.ntmps := by simpa using hle
          simp only [forceNs_eq, forceL_eq]
          generalize reach (listH n H) fuelR (refsL args) [] = r
          rcases ofH_spec (restrict (listH n H) r) (fun H0 n0 => newT fn.ntmps fun tr => laysK (renL (place r) args) 0 tr fun tr => partGo (listH n H) r (finQ C n0 fn.ntmps fn (evQ C call' n0 fn.ntmps none fn.body tr [] H0 n0 []))) with h | ⟨H0, n0, h1, h2, h3⟩
          · rw [h]; exact .no
          · rw [h1]
            have hn0 : n0 = r.length := by rw [← listH_len n0 H0, h3]; simp [restrict]
            subst hn0
            obtain ⟨_, n2, n3⟩ := newT_spec fn.ntmps (fun _ => .no)
            have hrl : (renL (place r) args).length = args.length := renL_len _ _
            obtain ⟨tr, l1, l2, l3⟩ := laysK_spec (N := fn.ntmps) (l := renL (place r) args) (i := 0) (by omega) n2
            rw [(newT_spec fn.ntmps _).1, l1]
            have htm : listT fn.ntmps tr = renL (place r) args ++ List.replicate (fn.ntmps - args.length) .unk := by
              rw [l3, n3]; simp [hrl]
            have hev := evQ_ok (C := C) (pin := r.length) (rd := none) hQ.glob hcall fn.body hok.1 tr [] H0 r.length [] l2 h2
            rw [htm, h3] at hev
            have hfin := finQ_ok (C := C) (pin := r.length) (fn := fn) hok.2 hev
            have hpart : ∀ (R0 : R) (o : Option (CRes × St)), FR R0 o → CR (partGo (listH n H) r R0) (match o with
                | some (x, st) => some (partOut (listH n H) r x st.hp st.tc)
                | none => none) := by
              intro R0 o h
              have hK : ∀ p : CRes × List AB × List Nat, CR (partR p) (some p) := by
                rintro ⟨x, l, t⟩
                cases x with
                | ret v =>
                  simp only [partR, forceV_eq, forceNs_eq]
                  rcases ofH_spec l (fun hp n => .cret v hp n t) with h | ⟨hp', n', k1, k2, k3⟩
                  · rw [h]; exact .no
                  · rw [k1, ← k3]; exact .ret k2
                | pan v =>
                  simp only [partR, forceV_eq, forceNs_eq]
                  rcases ofH_spec l (fun hp n => .cpan v hp n t) with h | ⟨hp', n', k1, k2, k3⟩
                  · rw [h]; exact .no
                  · rw [k1, ← k3]; exact .pan k2
              cases h with
              | no => exact .no
              | @ret v hp m st a b => simp only; rw [b]; exact hK (partOut (listH n H) r (.ret v) (listH m hp) st.tc)
              | @pan v hp m st a b => simp only; rw [b]; exact hK (partOut (listH n H) r (.pan v) (listH m hp) st.tc)
            have hout := hpart _ _ hfin
            have e : ∀ o : Option (AExit × St), (match (generalizing := false) (match (generalizing := false) o with | some (e, st) => finish C r.length fn e st | none => none) with
                | some (x, st) => some (partOut (listH n H) r x st.hp st.tc)
                | none => none) = (match (generalizing := false) o with
                | some (e, st) => (match (generalizing := false) finish C r.length fn e st with
                  | some (x, st) =>
                    let (x, hp) := tidy r.length x st.hp
                    some (x.map (ren (backN (listH n H).length r)), backH (listH n H) r hp st.tc ++ (hp.drop r.length).map (renB (backN (listH n H).length r)), st.tc.map fun j => r.getD j (listH n H).length)
                  | none => none)
                | none => none) := fun o => by
              cases o with
              | none => rfl
              | some p =>
                obtain ⟨e, st⟩ := p
                simp only
                cases finish C r.length fn e st with
                | none => rfl
                | some q => obtain ⟨x, st⟩ := q; rfl
            exact Eq.mp (congrArg (fun o => CR (partGo (listH n H) r (finQ C r.length fn.ntmps fn (evQ C call' r.length fn.ntmps none fn.body tr [] H0 r.length []))) o) (e (ev C call r.length none fn.body { tm := renL (place r) args ++ List.replicate (fn.ntmps - args.length) .unk, df := [], hp := restrict (listH n H) r, tc := [] }))) hout
        · exact .no

theorem parsK_spec : ∀ {ps : List Nat} {as : List AV} {tr : T AV}, (∀ p, p ∈ ps → p < N) → WT N tr → ∃ tr', (∀ K, parsK ps as tr K = K tr') ∧ WT N tr' ∧ listT N tr' = setParams (listT N tr) ps as
  | [], as, tr, _, ht => ⟨tr, fun _ => rfl, ht, by simp [setParams]⟩
  | p :: ps, [], tr, _, ht => ⟨tr, fun _ => rfl, ht, by simp [setParams]⟩
  | p :: ps, a :: as, tr, h, ht => by
    obtain ⟨tr1, a1, a2, a3⟩ := setT_spec ht (h p (List.mem_cons_self ..)) a
    obtain ⟨tr2, b1, b2, b3⟩ := parsK_spec (ps := ps) (as := as) (fun x hx => h x (List.mem_cons_of_mem _ hx)) a2
    refine ⟨tr2, fun K => ?_, b2, by rw [b3, a3]; rfl⟩
    show setK tr p a (fun tr => parsK ps as tr K) = _
    rw [a1, b1]

theorem endRd_ok {l : Nat} {H hp : T AB} {n : Nat} {p : Option AExit} {tc : List Nat} (hH : WH N H) (hh : WH n hp) {r2 : ALoop} (hl : (listH n hp)[l]? = some (.loop r2)) :
    CR (endRd C l N H p p.isNone hp n tc) (let hp := (listH n hp).set l (.loop { r2 with st := if p.isNone then .ready else .done, pend := p })
              let (x, hp) := tidyC C N (.ret (.bool p.isNone)) hp
              some (x, overH (listH N H) hp (l :: tc) ++ hp.drop N, l :: tc)) := by
  unfold endRd
  rw [loopAt_eq hh, hl]
  simp only [lstK_eq]
  obtain ⟨hp1, s1, s2, s3⟩ := setH_spec hh (show l < n by rw [← listH_len n hp]; exact lt_of_get hl) (.loop ⟨Bool.rec .done .ready p.isNone, p, r2.tm, r2.params, r2.assign, r2.body, r2.dfr⟩)
  rw [s1]
  have he : (if p.isNone = true then LSt.ready else LSt.done) = (Bool.rec .done .ready p.isNone : LSt) := by cases p.isNone <;> rfl
  rw [he, ← s3]
  rcases tidyQ_spec (C := C) (pin := N) (x := .ret (.bool p.isNone)) s2 (fun v hp n => backQ H N hp n (l :: tc) fun H n => .cret v H n (l :: tc)) with h | ⟨x2, hp2, n2, h1, h2, h3⟩
  · rw [show CRes.val (.ret (.bool p.isNone)) = .bool p.isNone from rfl] at h; rw [h]; exact .no
  · rw [show CRes.val (.ret (.bool p.isNone)) = .bool p.isNone from rfl] at h1
    rw [h1, h3]
    obtain ⟨w, rfl⟩ := (tidyC_kind h3).1 _ rfl
    rcases backQ_spec (tc := l :: tc) hH h2 (fun H n => .cret w H n (l :: tc)) with h | ⟨H', n', k1, k2, k3⟩
    · rw [show CRes.val (.ret w) = w from rfl, h]; exact .no
    · rw [show CRes.val (.ret w) = w from rfl, k1]
      simp only
      rw [← k3]; exact .ret k2

theorem isReady_eq (s : LSt) (K : R) : isReady s K = if s = .ready then K else .no := by cases s <;> rfl

theorem roundQ_ok (hQ : Quick C) (hcall : CQ call' call) {l : Nat} {args : List AV} {H : T AB} {n : Nat} (hH : WH n H) : CR (roundQ C call' l args H n) (round C call l args (listH n H)) := by
  unfold roundQ round
  rw [loopAt_eq hH]
  cases hl : (listH n H)[l]? with
  | none => exact .no
  | some blk =>
    cases blk with
    | loop r =>
      simp only
      rw [isReady_eq]
      by_cases hst : r.st = .ready
      · rw [if_pos hst, boolRec_if]
        simp only [lenL_eq, lenNs_eq]
        split
        · rename_i hlen
          have hlen : args.length = r.params.length := Nat.eq_of_beq_eq_true hlen
          rw [if_pos ⟨hst, hlen⟩, natK_eq, boolRec_if]
          split
          · rename_i hc
            simp only [andB_eq, Bool.and_eq_true] at hc
            obtain ⟨c1, c2, c3⟩ := hc
            obtain ⟨tr, a1, a2, a3⟩ := ofL_spec (N := r.tm.length) (l := r.tm) rfl
            rw [a1]
            obtain ⟨tr1, b1, b2, b3⟩ := parsK_spec (ps := r.params) (as := args) (all_lt c3) a2
            rw [b1]
            have hev := evQ_ok (C := C) (pin := n) (rd := some l) hQ.glob hcall r.assign c1 tr1 [] H n [] b2 hH
            rw [b3, a3] at hev
            rw [listH_len]
            generalize evQ C call' n r.tm.length (some l) r.assign tr1 [] H n [] = R1 at hev
            generalize ev C call n (some l) r.assign { tm := setParams r.tm r.params args, df := [], hp := listH n H, tc := [] } = o1 at hev
            cases hev with
            | no => exact .no
            | @norm tr2 df hp m tc w1 w2 =>
              show CR (loopAt hp m l _) _
              rw [loopAt_eq w2]
              simp only
              cases hl1 : (listH m hp)[l]? with
              | none => exact .no
              | some blk1 =>
                cases blk1 with
                | loop r1 =>
                  simp only
                  rw [isReady_eq]
                  by_cases hst1 : r1.st = .ready
                  · rw [if_pos hst1, if_pos hst1]
                    obtain ⟨hp1, s1, s2, s3⟩ := setH_spec w2 (show l < m by rw [← listH_len m hp]; exact lt_of_get hl1) (.loop ⟨.busy, r1.pend, r1.tm, r1.params, r1.assign, r1.body, r1.dfr⟩)
                    rw [s1]
                    have hev2 := evQ_ok (C := C) (pin := n) (rd := some l) hQ.glob hcall r.body c2 tr2 df hp1 m (l :: tc) w1 s2
                    rw [s3] at hev2
                    generalize evQ C call' n r.tm.length (some l) r.body tr2 df hp1 m (l :: tc) = R2 at hev2
                    generalize ev C call n (some l) r.body { tm := listT r.tm.length tr2, df := df, hp := (listH m hp).set l (.loop ⟨.busy, r1.pend, r1.tm, r1.params, r1.assign, r1.body, r1.dfr⟩), tc := l :: tc } = o2 at hev2
                    cases hev2 with
                    | no => exact .no
                    | @norm tr3 df3 hp3 m3 tc3 x1 x2 =>
                      show CR (endRd C l n H none true hp3 m3 tc3) _
                      simp only
                      cases hl3 : (listH m3 hp3)[l]? with
                      | none => unfold endRd; rw [loopAt_eq x2, hl3]; exact .no
                      | some blk3 =>
                        cases blk3 with
                        | loop r3 => exact endRd_ok (p := none) hH x2 hl3
                        | _ => unfold endRd; rw [loopAt_eq x2, hl3]; exact .no
                    | @exit i tr3 df3 hp3 m3 tc3 x1 x2 =>
                      show CR (endRd C l n H (some (.exit i)) false hp3 m3 tc3) _
                      simp only
                      cases hl3 : (listH m3 hp3)[l]? with
                      | none => unfold endRd; rw [loopAt_eq x2, hl3]; exact .no
                      | some blk3 =>
                        cases blk3 with
                        | loop r3 => exact endRd_ok (p := some (.exit i)) hH x2 hl3
                        | _ => unfold endRd; rw [loopAt_eq x2, hl3]; exact .no
                    | @ret tr3 df3 hp3 m3 tc3 x1 x2 =>
                      show CR (endRd C l n H (some .ret) false hp3 m3 tc3) _
                      simp only
                      cases hl3 : (listH m3 hp3)[l]? with
                      | none => unfold endRd; rw [loopAt_eq x2, hl3]; exact .no
                      | some blk3 =>
                        cases blk3 with
                        | loop r3 => exact endRd_ok (p := some .ret) hH x2 hl3
                        | _ => unfold endRd; rw [loopAt_eq x2, hl3]; exact .no
                    | pan x1 x2 => exact .no
                  · rw [if_neg hst1]; exact .no
                | _ => exact .no
            | exit w1 w2 => exact .no
            | ret w1 w2 => exact .no
            | pan w1 w2 => exact .no
          · exact .no
        · exact .no
      · rw [if_neg hst]; exact .no
    | _ => exact .no

theorem callQ_ok (hQ : Quick C) : ∀ m, CQ (callQ C m) (Ev.call C m)
  | 0 => fun f args hp n _ => .no
  | m + 1 => fun f args hp n hh => by
    have ih := callQ_ok hQ m
    have e : callQ C (m + 1) f args hp n = asFn f (fun f a b => fnK f fun f => catL args b fun l => catL a l fun l => enterQ C (callQ C m) f l hp n) (fun l => roundQ C (callQ C m) l args hp n) := rfl
    rw [e, asFn_eq]
    simp only [Ev.call]
    split
    · rename_i f' a b
      rw [fnK_eq]
      cases f' with
      | func f'' =>
        simp only [catL_eq]
        rw [List.append_assoc]
        exact enterQ_ok hQ ih hh
      | _ => exact .no
    · exact roundQ_ok hQ ih hh
    · exact .no

/-- What the quick evaluator finds, the first one finds. -/
theorem found (hQ : Quick C) {m : Nat} {f : AV} {args : List AV} {hp hp' : T AB} {n n' : Nat} {v : AV} {tc : List Nat} (hh : WH n hp) (h : callQ C m f args hp n = .cret v hp' n' tc) : Ev.call C m f args (listH n hp) = some (.ret v, listH n' hp', tc) ∧ WH n' hp' := by
  have := callQ_ok hQ m f args hp n hh
  rw [h] at this
  generalize Ev.call C m f args (listH n hp) = o at this
  cases this with
  | ret w => exact ⟨rfl, w⟩
end
end Q
end Ev
end Go.Proofs.YtcaejedfjobooaaGreat
