/- The reference of chapter 06: what its table of depths means. -/
import Derived.Test.YtlkhjnpflohfeaaDoorShRD
import Derived.Test.YtlkhjnpflohfeaaDoorShRH
/- Truths of a cut: what the spans of package cut mean. No program in sight. -/
namespace Go.Proofs.YtlkhjnpflohfeaaDoor
namespace Cut
def inS (w : Int × Int) (v : Int) : Prop := w.1 ≤ v ∧ v ≤ w.2
theorem not_dry (v : Int) : ¬ inS dry v := by unfold inS dry; simp only; omega
theorem common_in (a b : Int × Int) (v : Int) : inS (common a b) v ↔ inS a v ∧ inS b v := by
  unfold common
  split
  · unfold inS; simp only; omega
  · constructor
    · intro h; exact absurd h (not_dry v)
    · rintro ⟨h1, h2⟩; unfold inS at *; omega
theorem some_iff (w : Int × Int) : some w = true ↔ ∃ v, inS w v := by
  unfold some inS
  simp only [decide_eq_true_eq]
  exact ⟨fun h => ⟨w.1, by omega, h⟩, fun ⟨v, h1, h2⟩ => by omega⟩
/-- The looks of a day that are in a set hold. -/
def Looks (l : List Look) (set : Nat) (d : Nat) (v : Int) : Prop := ∀ i, i < l.length → set.testBit i = true → (lookAt l i).day = d → inS (lookAt l i).depth v
theorem lookedTo_in (l : List Look) (d : Int) (set : Nat) (w : Int × Int) (v : Int) : ∀ k, inS (lookedTo l d set w k) v ↔ inS w v ∧ ∀ i, i < k → set.testBit i = true → (lookAt l i).day = d → inS (lookAt l i).depth v
  | 0 => by simp [lookedTo]
  | k + 1 => by
    have ih := lookedTo_in l d set w v k
    unfold lookedTo
    by_cases h : (set.testBit k && decide ((lookAt l k).day = d)) = true
    · rw [if_pos h, common_in, ih]
      rw [Bool.and_eq_true, decide_eq_true_eq] at h
      constructor
      · rintro ⟨⟨h1, h2⟩, h3⟩
        refine ⟨h1, fun i hi => ?_⟩
        by_cases hik : i = k
        · subst hik; exact fun _ _ => h3
        · exact h2 i (by omega)
      · rintro ⟨h1, h2⟩
        exact ⟨⟨h1, fun i hi => h2 i (by omega)⟩, h2 k (by omega) h.1 h.2⟩
    · rw [if_neg h, ih]
      constructor
      · rintro ⟨h1, h2⟩
        refine ⟨h1, fun i hi a b => ?_⟩
        by_cases hik : i = k
        · subst hik; exact absurd (by rw [a, b]; simp) h
        · exact h2 i (by omega) a b
      · rintro ⟨h1, h2⟩
        exact ⟨h1, fun i hi => h2 i (by omega)⟩
theorem looked_in (l : List Look) (d : Nat) (set : Nat) (w : Int × Int) (v : Int) : inS (looked l d set w) v ↔ inS w v ∧ Looks l set d v := lookedTo_in l d set w v _
/-- From a depth to that of the next day. -/
def Step (x : CutD) (leak : Int) (d : Nat) (u v : Int) : Prop := ∃ r, inS (spanAt x.rain d) r ∧ v = held x.most (u + r - leak)
theorem after_in {x : CutD} (h : Valid x) (leak : Int) (d : Nat) (hd : d < x.rain.length) (w : Int × Int) (v : Int) : inS (after (stepBy x leak d) x.most w) v ↔ ∃ u, inS w u ∧ Step x leak d u v := by
  have hr := h.rain d hd
  have hm := h.m1
  unfold after Step
  by_cases hw : w.1 ≤ w.2
  · rw [if_pos hw]
    unfold stepBy held inS
    simp only
    generalize spanAt x.rain d = s at *
    constructor
    · rintro ⟨h1, h2⟩
      have key : ∃ z, w.1 + s.1 ≤ z ∧ z ≤ w.2 + s.2 ∧ v = max 0 (min x.most (z - leak)) := by
        by_cases c1 : w.1 + s.1 - leak ≤ v
        · by_cases c2 : v ≤ w.2 + s.2 - leak
          · exact ⟨v + leak, by omega, by omega, by omega⟩
          · exact ⟨w.2 + s.2, by omega, by omega, by omega⟩
        · exact ⟨w.1 + s.1, by omega, by omega, by omega⟩
      obtain ⟨z, z1, z2, z3⟩ := key
      by_cases c : z - s.1 ≤ w.2
      · exact ⟨z - s.1, by omega, s.1, by omega, by rw [z3]; congr 2; omega⟩
      · exact ⟨w.2, by omega, z - w.2, by omega, by rw [z3]; congr 2; omega⟩
    · rintro ⟨u, h1, r, h2, rfl⟩
      omega
  · rw [if_neg hw]
    constructor
    · intro hx; exact absurd hx (not_dry v)
    · rintro ⟨u, h1, _⟩; unfold inS at h1; omega
theorem before_in {x : CutD} (h : Valid x) (leak : Int) (hl0 : 0 ≤ leak) (hl1 : leak ≤ 10) (d : Nat) (hd : d < x.rain.length) (w : Int × Int) (hw : ∀ v, inS w v → 0 ≤ v ∧ v ≤ x.most) (u : Int) : inS (before (stepBy x leak d) x.most w) u ↔ (0 ≤ u ∧ u ≤ x.most) ∧ ∃ v, Step x leak d u v ∧ inS w v := by
  have hr := h.rain d hd
  have hm := h.m1
  have hm1 := h.m100
  unfold before Step
  by_cases hn : w.1 ≤ w.2
  · rw [if_pos hn, common_in]
    have w1 := hw w.1 ⟨by omega, hn⟩
    have w2 := hw w.2 ⟨hn, by omega⟩
    clear hw
    unfold stepBy held inS
    simp only
    generalize spanAt x.rain d = s at *
    constructor
    · rintro ⟨h1, h2, h3⟩
      refine ⟨h1, ?_⟩
      have a1 : w.1 ≤ max 0 (min x.most (u + s.2 - leak)) := by split at h2 <;> omega
      have a2 : max 0 (min x.most (u + s.1 - leak)) ≤ w.2 := by split at h3 <;> omega
      by_cases c1 : w.1 ≤ max 0 (min x.most (u + s.1 - leak))
      · exact ⟨_, ⟨s.1, by omega, rfl⟩, c1, a2⟩
      · exact ⟨w.1, ⟨w.1 - u + leak, by omega, by omega⟩, by omega, hn⟩
    · rintro ⟨h1, v, ⟨r, h2, rfl⟩, h3⟩
      refine ⟨h1, ?_, ?_⟩
      · split <;> omega
      · split <;> omega
  · rw [if_neg hn]
    constructor
    · intro hx; exact absurd hx (not_dry u)
    · rintro ⟨_, v, _, h1⟩; unfold inS at h1; omega
/-- The depth of a day that some truth of the days before has. -/
def FR (x : CutD) (leak : Int) (set : Nat) : Nat → Int → Prop
  | 0, v => inS x.depth v ∧ Looks x.looks set 0 v
  | d + 1, v => (∃ u, FR x leak set d u ∧ Step x leak d u v) ∧ Looks x.looks set (d + 1) v
/-- The depth, so many days from the end n, from which some truth goes on. -/
def BR (x : CutD) (leak : Int) (set n : Nat) : Nat → Int → Prop
  | 0, _ => True
  | k + 1, v => ∃ u, Step x leak (n - (k + 1)) v u ∧ Looks x.looks set (n - k) u ∧ BR x leak set n k u
theorem forth_in {x : CutD} (h : Valid x) (leak : Int) (set : Nat) : ∀ d, d ≤ x.rain.length → ∀ v, inS (forth x leak set d) v ↔ FR x leak set d v
  | 0, _, v => by
    unfold forth FR
    exact looked_in x.looks 0 set x.depth v
  | d + 1, hd, v => by
    unfold forth FR
    rw [looked_in, after_in h leak d (by omega)]
    simp only [forth_in h leak set d (by omega)]
theorem FR_in {x : CutD} (h : Valid x) {leak : Int} {set : Nat} : ∀ {d : Nat} {v : Int}, FR x leak set d v → 0 ≤ v ∧ v ≤ x.most
  | 0, v, hv => by
    have := h.d0; have := h.d2
    have := hv.1; unfold inS at this; omega
  | d + 1, v, hv => by
    obtain ⟨⟨u, _, r, _, rfl⟩, _⟩ := hv
    have := h.m1
    unfold held; omega
theorem back_in {x : CutD} (h : Valid x) (leak : Int) (hl0 : 0 ≤ leak) (hl1 : leak ≤ 10) (set n : Nat) (hn : n = x.rain.length) : ∀ k, k ≤ n → ∀ v, inS (back x leak set n k) v ↔ FR x leak set (n - k) v ∧ BR x leak set n k v
  | 0, _, v => by
    unfold back BR
    rw [forth_in h leak set n (by omega)]
    simp
  | k + 1, hk, v => by
    have ih := back_in h leak hl0 hl1 set n hn k (by omega)
    unfold back
    rw [common_in, forth_in h leak set _ (by omega), before_in h leak hl0 hl1 _ (by omega) _ (fun v hv => FR_in h ((ih v).1 hv).1)]
    constructor
    · rintro ⟨h1, _, u, h2, h3⟩
      have h4 := (ih u).1 h3
      refine ⟨h1, ?_⟩
      unfold BR
      refine ⟨u, h2, ?_, h4.2⟩
      have h5 := h4.1
      have e : n - k = (n - (k + 1)) + 1 := by omega
      rw [e] at h5 ⊢
      exact h5.2
    · rintro ⟨h1, h2⟩
      unfold BR at h2
      obtain ⟨u, h3, h4, h5⟩ := h2
      refine ⟨h1, FR_in h h1, u, h3, (ih u).2 ⟨?_, h5⟩⟩
      have e : n - k = (n - (k + 1)) + 1 := by omega
      rw [e] at h4 ⊢
      exact ⟨⟨v, h1, h3⟩, h4⟩
/-- How deep the water is each day. -/
structure Truth (x : CutD) (leak : Int) (set : Nat) (t : Nat → Int) : Prop where
  start : inS x.depth (t 0)
  step : ∀ d, d < x.rain.length → Step x leak d (t d) (t (d + 1))
  looks : ∀ d, d ≤ x.rain.length → Looks x.looks set d (t d)
theorem Truth.fr {x : CutD} {leak : Int} {set : Nat} {t : Nat → Int} (h : Truth x leak set t) : ∀ d, d ≤ x.rain.length → FR x leak set d (t d)
  | 0, _ => ⟨h.start, h.looks 0 (by omega)⟩
  | d + 1, hd => ⟨⟨t d, h.fr d (by omega), h.step d (by omega)⟩, h.looks (d + 1) hd⟩
theorem Truth.br {x : CutD} {leak : Int} {set : Nat} {t : Nat → Int} (h : Truth x leak set t) : ∀ k, k ≤ x.rain.length → BR x leak set x.rain.length k (t (x.rain.length - k))
  | 0, _ => trivial
  | k + 1, hk => by
    unfold BR
    refine ⟨t (x.rain.length - k), ?_, h.looks _ (by omega), h.br k (by omega)⟩
    have e : x.rain.length - k = (x.rain.length - (k + 1)) + 1 := by omega
    rw [e]
    exact h.step _ (by omega)
theorem fr_path {x : CutD} {leak : Int} {set : Nat} : ∀ (d : Nat) (v : Int), FR x leak set d v → ∃ t : Nat → Int, t d = v ∧ inS x.depth (t 0) ∧ (∀ i, i < d → Step x leak i (t i) (t (i + 1))) ∧ ∀ i, i ≤ d → Looks x.looks set i (t i)
  | 0, v, h => ⟨fun _ => v, rfl, h.1, fun i hi => by omega, fun i hi => by
      have : i = 0 := by omega
      subst this; exact h.2⟩
  | d + 1, v, h => by
    obtain ⟨⟨u, h1, h2⟩, h3⟩ := h
    obtain ⟨t, t1, t2, t3, t4⟩ := fr_path d u h1
    refine ⟨fun i => if i ≤ d then t i else v, if_neg (by omega), by simpa using t2, fun i hi => ?_, fun i hi => ?_⟩
    · by_cases c : i = d
      · subst c
        simp only [Nat.le_refl, if_true]
        rw [if_neg (by omega), t1]; exact h2
      · simp only
        rw [if_pos (by omega), if_pos (by omega)]; exact t3 i (by omega)
    · by_cases c : i ≤ d
      · simp only [c, if_true]; exact t4 i c
      · have : i = d + 1 := by omega
        subst this
        simp only [c, if_false]; exact h3
theorem br_path {x : CutD} {leak : Int} {set n : Nat} : ∀ (k : Nat) (v : Int), k ≤ n → BR x leak set n k v → ∃ t : Nat → Int, t (n - k) = v ∧ (∀ i, n - k ≤ i → i < n → Step x leak i (t i) (t (i + 1))) ∧ ∀ i, n - k < i → i ≤ n → Looks x.looks set i (t i)
  | 0, v, _, _ => ⟨fun _ => v, rfl, fun i h1 h2 => by omega, fun i h1 h2 => by omega⟩
  | k + 1, v, hk, h => by
    unfold BR at h
    obtain ⟨u, h1, h2, h3⟩ := h
    obtain ⟨t, t1, t2, t3⟩ := br_path k u (by omega) h3
    refine ⟨fun i => if i = n - (k + 1) then v else t i, by simp, fun i a b => ?_, fun i a b => ?_⟩
    · simp only
      rw [if_neg (show ¬ i + 1 = n - (k + 1) by omega)]
      by_cases c : i = n - (k + 1)
      · rw [if_pos c]
        have e : i + 1 = n - k := by omega
        rw [e, t1, c]; exact h1
      · rw [if_neg c]; exact t2 i (by omega) b
    · simp only
      rw [if_neg (by omega)]
      by_cases c : i = n - k
      · subst c; rw [t1]; exact h2
      · exact t3 i (by omega) b
theorem truth_of {x : CutD} {leak : Int} {set d : Nat} {v : Int} (hd : d ≤ x.rain.length) (h1 : FR x leak set d v) (h2 : BR x leak set x.rain.length (x.rain.length - d) v) : ∃ t, Truth x leak set t ∧ t d = v := by
  obtain ⟨t, t1, t2, t3, t4⟩ := fr_path d v h1
  obtain ⟨s, s1, s2, s3⟩ := br_path _ v (by omega) h2
  have e : x.rain.length - (x.rain.length - d) = d := by omega
  rw [e] at s1 s2 s3
  refine ⟨fun i => if i ≤ d then t i else s i, ⟨?_, ?_, ?_⟩, by simp [t1]⟩
  · simpa using t2
  · intro i hi
    show Step x leak i (if i ≤ d then t i else s i) (if i + 1 ≤ d then t (i + 1) else s (i + 1))
    by_cases c : i < d
    · rw [if_pos (by omega), if_pos (by omega)]; exact t3 i c
    · rw [if_neg (show ¬ i + 1 ≤ d by omega)]
      by_cases c' : i = d
      · subst c'
        rw [if_pos (Nat.le_refl _), t1, ← s1]; exact s2 i (by omega) hi
      · rw [if_neg (by omega)]; exact s2 i (by omega) hi
  · intro i hi
    by_cases c : i ≤ d
    · simp only [c, if_true]; exact t4 i c
    · simp only [c, if_false]; exact s3 i (by omega) hi
/-- What a season's span means. -/
theorem season_in {x : CutD} (h : Valid x) (leak : Int) (hl0 : 0 ≤ leak) (hl1 : leak ≤ 10) (set d : Nat) (hd : d ≤ x.rain.length) (v : Int) : inS (seasonAt x leak set d) v ↔ ∃ t, Truth x leak set t ∧ t d = v := by
  unfold seasonAt
  rw [if_pos hd, back_in h leak hl0 hl1 set _ rfl _ (by omega)]
  have e : x.rain.length - (x.rain.length - d) = d := by omega
  rw [e]
  constructor
  · rintro ⟨h1, h2⟩; exact truth_of hd h1 h2
  · rintro ⟨t, ht, rfl⟩
    refine ⟨ht.fr d hd, ?_⟩
    have := ht.br (x.rain.length - d) (by omega)
    rw [e] at this; exact this
theorem can_iff {x : CutD} (h : Valid x) (set : Nat) : can x set = true ↔ ∃ leak, inS x.leak leak ∧ ∃ t, Truth x leak set t := by
  unfold can
  rw [List.any_eq_true]
  have hl : ∀ leak, leak ∈ leaks x ↔ inS x.leak leak := by
    intro leak
    unfold leaks inS
    rw [List.mem_map]
    constructor
    · rintro ⟨i, hi, rfl⟩
      rw [List.mem_range] at hi
      omega
    · rintro ⟨h1, h2⟩
      exact ⟨(leak - x.leak.1).toNat, by rw [List.mem_range]; omega, by omega⟩
  have := h.l0; have := h.l2
  constructor
  · rintro ⟨leak, h1, h2⟩
    have h3 := (hl leak).1 h1
    refine ⟨leak, h3, ?_⟩
    obtain ⟨v, hv⟩ := (some_iff _).1 h2
    unfold inS at h3
    obtain ⟨t, ht, _⟩ := (season_in h leak (by omega) (by omega) set 0 (by omega) v).1 hv
    exact ⟨t, ht⟩
  · rintro ⟨leak, h3, t, ht⟩
    refine ⟨leak, (hl leak).2 h3, (some_iff _).2 ⟨t 0, ?_⟩⟩
    unfold inS at h3
    exact (season_in h leak (by omega) (by omega) set 0 (by omega) _).2 ⟨t, ht, rfl⟩
end Cut
end Go.Proofs.YtlkhjnpflohfeaaDoor

/- The reference of chapter 06, gone through: its small functions. -/
namespace Go.Proofs.YtlkhjnpflohfeaaDoor
open Go
namespace Ev
namespace R
set_option maxRecDepth 100000
def atP : List Nat → AC → AC
  | 0 :: p, .seq a _ => atP p a
  | 1 :: p, .seq _ b => atP p b
  | _ :: p, .block _ c => atP p c
  | _ :: p, .loop _ c => atP p c
  | 0 :: p, .cond _ a _ => atP p a
  | 1 :: p, .cond _ _ b => atP p b
  | _, c => c
/-- A function that answers a bare value. -/
theorem bare_call {C : Cfg} {n f t : Nat} {fn : AFunc} {args : List AV} {H : List AB} {v : AV} (hc : C.calm = true) (hx : C.ext f = none) (hxh : C.exth f = none) (hf : C.fns f = some fn) (hw : C.whole f = true) (hres : fn.res = [.tmp t]) (hlen : args.length ≤ fn.ntmps) (hv : refs v = [])
    (h : Does (ev C (Ev.call C n) H.length none fn.body { tm := tmA fn.ntmps (zipI 0 args []), df := [], hp := H, tc := [] }) (Gives t v)) : Ev.call C (n + 1) (.fn (.func f) [] []) args H = some (.ret v, H, []) := by
  have := call_fn (n := n) (first := []) (captured := []) (args := args) (H := H) (R := fun x H' tc => x = .ret v ∧ H' = H ∧ tc = []) hc hx hxh hf hw (by simpa using hlen) (by
    rw [List.nil_append, List.append_nil]
    refine h.mono fun e st ⟨h1, h2, h3, h4⟩ => ?_
    subst h1
    refine ⟨.ret v, st, ?_, ?_⟩
    · have e1 : runDefs C H.length st.df none st = some (none, st) := by rw [h2]; rfl
      show (match runDefs C H.length st.df none st with
        | some (none, st) => (resL st fn.res).map fun vs => (CRes.ret (resV vs), st)
        | _ => none) = _
      rw [e1, hres]
      show (resL st [.tmp t]).map (fun vs => (CRes.ret (resV vs), st)) = _
      simp only [resL, resOf, h4]
      rfl
    · unfold Left
      rw [h3, if_pos (by unfold bareQ; simp [CRes.val, hv])]
      exact ⟨rfl, rfl, rfl⟩)
  obtain ⟨x, H', tc, h1, rfl, rfl, rfl⟩ := this
  exact h1
/-- What a configuration knows of a function of the table. -/
structure Has (C : Cfg) (f : Nat) (fn : AFunc) : Prop where
  ext : C.ext f = none
  exth : C.exth f = none
  fns : C.fns f = some fn
  whole : C.whole f = true
theorem in_fun (C : Cfg) (call : CallF) (n a b : Int) (H : List AB) : Does (ev C call H.length none af80.body { tm := tmA 15 (zipI 0 [.int .i64 n, .int .i64 a, .int .i64 b] []), df := [], hp := H, tc := [] }) (Gives 6 (.bool (Cut.within n a b))) := by
  unfold af80
  simp only [zipI]
  by_cases h : a ≤ n
  · (repeat (first | (with_reducible apply ops_cons; (focus ((conv => lhs; simp [ev1, wantG, spineK, spine, float, xnew, xval, xeff, val_tmA_cons, val_tmA_nil, val_val, putT_some, putT_none, addFl, cellsOf, pickC, alive, slLen, slFt, binI, maxA, maxK, minA, minK, aeqK, aeqS, AV.cells, slCells_sl, boatE, spanE, lookE, fillA, setAt, bitsI, nat_nn, AV.plain, apart, Nat.testBit_eq_decide_div_mod_eq, *]) <;> exact rfl)); simp only [addFl]) | ((first | with_reducible refine does_seq ?_ | with_reducible refine does_ops ?_ | with_reducible refine does_draw ?_ | with_reducible refine does_skip ?_ | with_reducible refine does_block ?_ | with_reducible refine does_ret ?_ | with_reducible refine does_exit ?_ | with_reducible refine ops_nil ?_ | (with_reducible apply does_true; (focus (simp [val_tmA_cons, *]; done))) | (with_reducible apply does_false; (focus (simp [val_tmA_cons, *]; done)))); try simp only [Then, Ops, OutB, reduceIte])))
    exact ⟨by first | trivial | rfl, by first | trivial | rfl, by first | trivial | rfl, by simp only [tmA_getD_cons]; simp [Cut.within, h]⟩
  · (repeat (first | (with_reducible apply ops_cons; (focus ((conv => lhs; simp [ev1, wantG, spineK, spine, float, xnew, xval, xeff, val_tmA_cons, val_tmA_nil, val_val, putT_some, putT_none, addFl, cellsOf, pickC, alive, slLen, slFt, binI, maxA, maxK, minA, minK, aeqK, aeqS, AV.cells, slCells_sl, boatE, spanE, lookE, fillA, setAt, bitsI, nat_nn, AV.plain, apart, Nat.testBit_eq_decide_div_mod_eq, *]) <;> exact rfl)); simp only [addFl]) | ((first | with_reducible refine does_seq ?_ | with_reducible refine does_ops ?_ | with_reducible refine does_draw ?_ | with_reducible refine does_skip ?_ | with_reducible refine does_block ?_ | with_reducible refine does_ret ?_ | with_reducible refine does_exit ?_ | with_reducible refine ops_nil ?_ | (with_reducible apply does_true; (focus (simp [val_tmA_cons, *]; done))) | (with_reducible apply does_false; (focus (simp [val_tmA_cons, *]; done)))); try simp only [Then, Ops, OutB, reduceIte])))
    exact ⟨by first | trivial | rfl, by first | trivial | rfl, by first | trivial | rfl, by simp only [tmA_getD_cons]; simp [Cut.within, h]⟩
theorem power_fun (C : Cfg) (hC : C.calm = true) (call : CallF) (n : Nat) (hn : n ≤ 20) (H : List AB) : Does (ev C call H.length none af68.body { tm := tmA 13 (zipI 0 [.int .i64 n] []), df := [], hp := H, tc := [] }) (Gives 2 (.int .i64 (2 ^ n : Nat))) := by
  unfold af68
  simp only [zipI]
  (repeat (first | (with_reducible apply ops_cons; (focus ((conv => lhs; simp [ev1, wantG, spineK, spine, float, xnew, xval, xeff, val_tmA_cons, val_tmA_nil, val_val, putT_some, putT_none, addFl, cellsOf, pickC, alive, slLen, slFt, binI, maxA, maxK, minA, minK, aeqK, aeqS, AV.cells, slCells_sl, boatE, spanE, lookE, fillA, setAt, bitsI, nat_nn, AV.plain, apart, Nat.testBit_eq_decide_div_mod_eq, *]) <;> exact rfl)); simp only [addFl]) | ((first | with_reducible refine does_seq ?_ | with_reducible refine does_ops ?_ | with_reducible refine does_draw ?_ | with_reducible refine does_skip ?_ | with_reducible refine does_block ?_ | with_reducible refine does_ret ?_ | with_reducible refine does_exit ?_ | with_reducible refine ops_nil ?_ | (with_reducible apply does_true; (focus (simp [val_tmA_cons, *]; done))) | (with_reducible apply does_false; (focus (simp [val_tmA_cons, *]; done)))); try simp only [Then, Ops, OutB, reduceIte])))
  refine does_loop (fun q st => ∃ i : Nat, i + q = n ∧ st = { tm := tmA 13 [(4, .int .i64 i), (3, .int .i64 (2 ^ i : Nat)), (0, .int .i64 n)], df := [], hp := H, tc := [] }) n (by unfold fuelL; omega) ?_ ?_
  · refine ⟨0, by omega, ?_⟩
    simp only [gcC_calm hC]
    exact st_eq (by simp [keepT_tmA, lk_cons]) rfl rfl rfl
  · rintro q st ⟨i, hq, rfl⟩
    by_cases hi : i < n
    · have hw : IntKind.i64.wrap ((i : Int) + 1) = (i : Int) + 1 := wrap_in (by omega) (by omega)
      have hp : (2 : Nat) ^ i ≤ 2 ^ 20 := Nat.pow_le_pow_right (by decide) (by omega)
      have hy2 : (2 : Nat) ^ (i + 1) = 2 ^ i * 2 := Nat.pow_succ ..
      generalize hx : (2 ^ i : Nat) = x at *
      generalize hy : (2 ^ (i + 1) : Nat) = y at *
      have hm : IntKind.i64.wrap (2 * (x : Int)) = (y : Int) := by
        rw [wrap_in (by omega) (by omega)]; omega
      clear hy2
      clear hp hx
      (repeat (first | (with_reducible apply ops_cons; (focus ((conv => lhs; simp [ev1, wantG, spineK, spine, float, xnew, xval, xeff, val_tmA_cons, val_tmA_nil, val_val, putT_some, putT_none, addFl, cellsOf, pickC, alive, slLen, slFt, binI, maxA, maxK, minA, minK, aeqK, aeqS, AV.cells, slCells_sl, boatE, spanE, lookE, fillA, setAt, bitsI, nat_nn, AV.plain, apart, Nat.testBit_eq_decide_div_mod_eq, *]) <;> exact rfl)); simp only [addFl]) | ((first | with_reducible refine does_seq ?_ | with_reducible refine does_ops ?_ | with_reducible refine does_draw ?_ | with_reducible refine does_skip ?_ | with_reducible refine does_block ?_ | with_reducible refine does_ret ?_ | with_reducible refine does_exit ?_ | with_reducible refine ops_nil ?_ | (with_reducible apply does_true; (focus (simp [val_tmA_cons, *]; done))) | (with_reducible apply does_false; (focus (simp [val_tmA_cons, *]; done)))); try simp only [Then, Ops, OutB, reduceIte])))
      refine ⟨q - 1, by omega, i + 1, by omega, ?_⟩
      simp only [gcC_calm hC]
      rw [hy]
      exact st_eq (by simp [keepT_tmA, lk_cons]) rfl rfl rfl
    · obtain rfl : i = n := by omega
      generalize (2 ^ i : Nat) = x at *
      (repeat (first | (with_reducible apply ops_cons; (focus ((conv => lhs; simp [ev1, wantG, spineK, spine, float, xnew, xval, xeff, val_tmA_cons, val_tmA_nil, val_val, putT_some, putT_none, addFl, cellsOf, pickC, alive, slLen, slFt, binI, maxA, maxK, minA, minK, aeqK, aeqS, AV.cells, slCells_sl, boatE, spanE, lookE, fillA, setAt, bitsI, nat_nn, AV.plain, apart, Nat.testBit_eq_decide_div_mod_eq, *]) <;> exact rfl)); simp only [addFl]) | ((first | with_reducible refine does_seq ?_ | with_reducible refine does_ops ?_ | with_reducible refine does_draw ?_ | with_reducible refine does_skip ?_ | with_reducible refine does_block ?_ | with_reducible refine does_ret ?_ | with_reducible refine does_exit ?_ | with_reducible refine ops_nil ?_ | (with_reducible apply does_true; (focus (simp [val_tmA_cons, *]; done))) | (with_reducible apply does_false; (focus (simp [val_tmA_cons, *]; done)))); try simp only [Then, Ops, OutB, reduceIte])))
      exact ⟨by first | trivial | rfl, by first | trivial | rfl, by first | trivial | rfl, by simp only [tmA_getD_cons]; simp⟩
def PowerC (call : CallF) : Prop := ∀ (H : List AB) (n : Nat), n ≤ 20 → call (.fn (.func 68) [] []) [.int .i64 n] H = some (.ret (.int .i64 (2 ^ n : Nat)), H, [])
theorem has_fun (C : Cfg) (call : CallF) (hP : PowerC call) (s n : Nat) (hs : s < 1048576) (hn : n ≤ 20) (H : List AB) : Does (ev C call H.length none af103.body { tm := tmA 11 (zipI 0 [.int .i64 s, .int .i64 n] []), df := [], hp := H, tc := [] }) (Gives 4 (.bool (s.testBit n))) := by
  have h1 := hP H n hn
  have hp0 : (2 : Nat) ^ n ≠ 0 := Nat.ne_of_gt (Nat.pow_pos (by decide))
  have e0 : s.testBit n = decide (s / 2 ^ n % 2 = 1) := Nat.testBit_eq_decide_div_mod_eq
  have hle := Nat.div_le_self s (2 ^ n)
  rw [e0]
  generalize (2 ^ n : Nat) = x at *
  have h2 : ¬ ((x : Int) = 0) := by omega
  have h2' : ¬ x = 0 := hp0
  have h3 : (s : Int).tdiv x = ((s / x : Nat) : Int) := by rw [Int.tdiv_eq_ediv_of_nonneg (by omega)]; rfl
  generalize s / x = q at *
  have h4 : IntKind.i64.wrap (q : Int) = q := wrap_in (by omega) (by omega)
  have h5 : (q : Int).tmod 2 = ((q % 2 : Nat) : Int) := by rw [Int.tmod_eq_emod_of_nonneg (by omega)]; rfl
  have h6 : IntKind.i64.wrap ((q % 2 : Nat) : Int) = ((q % 2 : Nat) : Int) := wrap_in (by omega) (by omega)
  have h7 : (((q % 2 : Nat) : Int) == 1) = decide (q % 2 = 1) := by
    rcases Nat.mod_two_eq_zero_or_one q with h | h <;> rw [h] <;> rfl
  generalize (q % 2 : Nat) = y at *
  clear hle e0 hp0 hP hs hn
  unfold af103
  simp only [zipI]
  (repeat (first | (with_reducible apply ops_cons; (focus ((conv => lhs; simp [ev1, wantG, spineK, spine, float, xnew, xval, xeff, val_tmA_cons, val_tmA_nil, val_val, putT_some, putT_none, addFl, cellsOf, pickC, alive, slLen, slFt, binI, maxA, maxK, minA, minK, aeqK, aeqS, AV.cells, slCells_sl, boatE, spanE, lookE, fillA, setAt, bitsI, nat_nn, AV.plain, apart, Nat.testBit_eq_decide_div_mod_eq, *]) <;> exact rfl)); simp only [addFl]) | ((first | with_reducible refine does_seq ?_ | with_reducible refine does_ops ?_ | with_reducible refine does_draw ?_ | with_reducible refine does_skip ?_ | with_reducible refine does_block ?_ | with_reducible refine does_ret ?_ | with_reducible refine does_exit ?_ | with_reducible refine ops_nil ?_ | (with_reducible apply does_true; (focus (simp [val_tmA_cons, *]; done))) | (with_reducible apply does_false; (focus (simp [val_tmA_cons, *]; done)))); try simp only [Then, Ops, OutB, reduceIte])))
  exact ⟨by first | trivial | rfl, by first | trivial | rfl, by first | trivial | rfl, by simp only [tmA_getD_cons]; simp [h7]⟩
end R
end Ev
end Go.Proofs.YtlkhjnpflohfeaaDoor

/- The reference of chapter 06, gone through: its functions of a cut that answer a bare value. -/
namespace Go.Proofs.YtlkhjnpflohfeaaDoor
open Go
namespace Ev
namespace R
set_option maxRecDepth 100000
open Classical in
/-- Does one depth go to another one in a day? -/
noncomputable def stepB (x : CutD) (leak : Int) (d : Nat) (u v : Int) : Bool := decide (Cut.Step x leak d u v)
open Classical in
/-- Is a depth right on a day? -/
noncomputable def looksB (x : CutD) (s d : Nat) (v : Int) : Bool := decide (Cut.Looks x.looks s d v)
def InC (call : CallF) : Prop := ∀ (H : List AB) (n a b : Int), call (.fn (.func 80) [] []) [.int .i64 n, .int .i64 a, .int .i64 b] H = some (.ret (.bool (Cut.within n a b)), H, [])
def HasC (call : CallF) : Prop := ∀ (H : List AB) (s n : Nat), s < 1048576 → n ≤ 20 → call (.fn (.func 103) [] []) [.int .i64 s, .int .i64 n] H = some (.ret (.bool (s.testBit n)), H, [])
def NextC (call : CallF) : Prop := ∀ (H : List AB) (a b k l m : Int) (r : List (Int × Int)) (bs : List Boat) (ls : List Look) (n q lk : Int), -1000 ≤ n → n ≤ 1000 → -1000 ≤ q → q ≤ 1000 → -1000 ≤ lk → lk ≤ 1000 →
  call (.fn (.func 102) [] []) [.agg [.int .i64 a, .int .i64 b, .int .i64 k, .int .i64 l, .vs 2 (r.map spanE), .int .i64 m, .vs 4 (bs.map boatE), .vs 3 (ls.map lookE)], .int .i64 n, .int .i64 q, .int .i64 lk] H = some (.ret (.int .i64 (max 0 (min m (n + q - lk)))), H, [])
def GoesC (call : CallF) : Prop := ∀ (H : List AB) (a b k l m : Int) (r : List (Int × Int)) (bs : List Boat) (ls : List Look), Cut.Valid ⟨(a, b), (k, l), r, m, bs, ls⟩ → ∀ (d : Nat), d < r.length → ∀ (u v lk : Int), 0 ≤ u → u ≤ 100 → 0 ≤ lk → lk ≤ 10 →
  call (.fn (.func 99) [] []) [.agg [.int .i64 a, .int .i64 b, .int .i64 k, .int .i64 l, .vs 2 (r.map spanE), .int .i64 m, .vs 4 (bs.map boatE), .vs 3 (ls.map lookE)], .int .i64 d, .int .i64 u, .int .i64 v, .int .i64 lk] H = some (.ret (.bool (stepB ⟨(a, b), (k, l), r, m, bs, ls⟩ lk d u v)), H, [])
def FitsC (call : CallF) : Prop := ∀ (H : List AB) (a b k l m : Int) (r : List (Int × Int)) (bs : List Boat) (ls : List Look), ls.length ≤ 5 → ∀ (s d : Nat) (v : Int), s < 1048576 →
  call (.fn (.func 100) [] []) [.agg [.int .i64 a, .int .i64 b, .int .i64 k, .int .i64 l, .vs 2 (r.map spanE), .int .i64 m, .vs 4 (bs.map boatE), .vs 3 (ls.map lookE)], .int .i64 s, .int .i64 d, .int .i64 v] H = some (.ret (.bool (looksB ⟨(a, b), (k, l), r, m, bs, ls⟩ s d v)), H, [])
theorem next_fun (C : Cfg) (call : CallF) (H : List AB) (a b k l m : Int) (r : List (Int × Int)) (bs : List Boat) (ls : List Look) (n q lk : Int) (h1 : -1000 ≤ n) (h2 : n ≤ 1000) (h3 : -1000 ≤ q) (h4 : q ≤ 1000) (h5 : -1000 ≤ lk) (h6 : lk ≤ 1000) :
    Does (ev C call H.length none af102.body { tm := tmA 18 (zipI 0 [.agg [.int .i64 a, .int .i64 b, .int .i64 k, .int .i64 l, .vs 2 (r.map spanE), .int .i64 m, .vs 4 (bs.map boatE), .vs 3 (ls.map lookE)], .int .i64 n, .int .i64 q, .int .i64 lk] []), df := [], hp := H, tc := [] }) (Gives 8 (.int .i64 (max 0 (min m (n + q - lk))))) := by
  have w1 : IntKind.i64.wrap (n + q) = n + q := wrap_in (by omega) (by omega)
  have w2 : IntKind.i64.wrap (n + q - lk) = n + q - lk := wrap_in (by omega) (by omega)
  clear h1 h2 h3 h4 h5 h6
  unfold af102
  simp only [zipI]
  (repeat (first | (with_reducible apply ops_cons; (focus ((conv => lhs; simp [ev1, wantG, spineK, spine, float, xnew, xval, xeff, val_tmA_cons, val_tmA_nil, val_val, putT_some, putT_none, addFl, cellsOf, pickC, alive, slLen, slFt, binI, maxA, maxK, minA, minK, aeqK, aeqS, AV.cells, slCells_sl, boatE, spanE, lookE, fillA, setAt, bitsI, nat_nn, AV.plain, apart, Nat.testBit_eq_decide_div_mod_eq, *]) <;> exact rfl)); simp only [addFl]) | ((first | with_reducible refine does_seq ?_ | with_reducible refine does_ops ?_ | with_reducible refine does_draw ?_ | with_reducible refine does_skip ?_ | with_reducible refine does_block ?_ | with_reducible refine does_ret ?_ | with_reducible refine does_exit ?_ | with_reducible refine ops_nil ?_ | (with_reducible apply does_true; (focus (simp [val_tmA_cons, *]; done))) | (with_reducible apply does_false; (focus (simp [val_tmA_cons, *]; done)))); try simp only [Then, Ops, OutB, reduceIte])))
  exact ⟨by first | trivial | rfl, by first | trivial | rfl, by first | trivial | rfl, by simp only [tmA_getD_cons]; simp⟩
set_option maxHeartbeats 8000000 in
theorem goes_fun (C : Cfg) (hC : C.calm = true) (call : CallF) (hN : NextC call) (H : List AB) (a b k l m : Int) (r : List (Int × Int)) (bs : List Boat) (ls : List Look) (V : Cut.Valid ⟨(a, b), (k, l), r, m, bs, ls⟩) (d : Nat) (hd : d < r.length) (u v lk : Int) (u0 : 0 ≤ u) (u1 : u ≤ 100) (k0 : 0 ≤ lk) (k1 : lk ≤ 10) :
    Does (ev C call H.length none af99.body { tm := tmA 35 (zipI 0 [.agg [.int .i64 a, .int .i64 b, .int .i64 k, .int .i64 l, .vs 2 (r.map spanE), .int .i64 m, .vs 4 (bs.map boatE), .vs 3 (ls.map lookE)], .int .i64 d, .int .i64 u, .int .i64 v, .int .i64 lk] []), df := [], hp := H, tc := [] }) (Gives 10 (.bool (stepB ⟨(a, b), (k, l), r, m, bs, ls⟩ lk d u v))) := by
  have hr : 0 ≤ (Cut.spanAt r d).1 ∧ (Cut.spanAt r d).1 ≤ (Cut.spanAt r d).2 ∧ (Cut.spanAt r d).2 ≤ 30 := V.rain d hd
  have hs : ∀ b', stepB ⟨(a, b), (k, l), r, m, bs, ls⟩ lk d u v = b' ↔ (b' = true ↔ ∃ q, (r[d].1 ≤ q ∧ q ≤ r[d].2) ∧ v = max 0 (min m (u + q - lk))) := by
    intro b'
    have e : Cut.spanAt r d = r[d] := by simp [Cut.spanAt, hd]
    unfold stepB Cut.Step Cut.inS Cut.held
    cases b' <;> simp [e]
  have e : Cut.spanAt r d = r[d] := by simp [Cut.spanAt, hd]
  rw [e] at hr
  generalize stepB ⟨(a, b), (k, l), r, m, bs, ls⟩ lk d u v = sb at *
  have hN' := fun H q (h1 : 0 ≤ q) (h2 : q ≤ 31) => hN H a b k l m r bs ls u q lk (by omega) (by omega) (by omega) (by omega) (by omega) (by omega)
  have HR := hideP hr
  have HN := hideP hN'
  clear V hN hN' hr e u0 u1 k0 k1
  have HS := hideP hs
  clear hs
  unfold af99
  simp only [zipI]
  (repeat (first | (with_reducible apply ops_cons; (focus ((conv => lhs; simp [ev1, wantG, spineK, spine, float, xnew, xval, xeff, val_tmA_cons, val_tmA_nil, val_val, putT_some, putT_none, addFl, cellsOf, pickC, alive, slLen, slFt, binI, maxA, maxK, minA, minK, aeqK, aeqS, AV.cells, slCells_sl, boatE, spanE, lookE, fillA, setAt, bitsI, nat_nn, AV.plain, apart, Nat.testBit_eq_decide_div_mod_eq, *]) <;> exact rfl)); simp only [addFl]) | ((first | with_reducible refine does_seq ?_ | with_reducible refine does_ops ?_ | with_reducible refine does_draw ?_ | with_reducible refine does_skip ?_ | with_reducible refine does_block ?_ | with_reducible refine does_ret ?_ | with_reducible refine does_exit ?_ | with_reducible refine ops_nil ?_ | (with_reducible apply does_true; (focus (simp [val_tmA_cons, *]; done))) | (with_reducible apply does_false; (focus (simp [val_tmA_cons, *]; done)))); try simp only [Then, Ops, OutB, reduceIte])))
  obtain ⟨r0, r1, r2⟩ := HR.out
  refine does_loop (fun q st => ∃ i : Int, (q : Int) = r[d].2 + 1 - i ∧ r[d].1 ≤ i ∧ i ≤ r[d].2 + 1 ∧ (∀ j, r[d].1 ≤ j → j < i → v ≠ max 0 (min m (u + j - lk))) ∧ st = { tm := tmA 35 [(11, .int .i64 i), (5, .ptr H.length 0), (4, .int .i64 lk), (3, .int .i64 v), (2, .int .i64 u), (1, .int .i64 d)], df := [], hp := H ++ [.cells [.int .i64 a, .int .i64 b, .int .i64 k, .int .i64 l, .vs 2 (r.map spanE), .int .i64 m, .vs 4 (bs.map boatE), .vs 3 (ls.map lookE)]], tc := [] }) (r[d].2 + 1 - r[d].1).toNat (by unfold fuelL; omega) ?_ ?_
  · refine ⟨r[d].1, by omega, by omega, by omega, fun j h1 h2 => by omega, ?_⟩
    simp only [gcC_calm hC]
    exact st_eq (by simp [keepT_tmA, lk_cons]) rfl rfl rfl
  · rintro q st ⟨i, hq, h1, h2, h3, rfl⟩
    by_cases hi : i ≤ r[d].2
    · have hw : IntKind.i64.wrap (i + 1) = i + 1 := wrap_in (by omega) (by omega)
      have hn := fun H => HN.out H i (by omega) (by omega)
      have HQ := hideP (And.intro hq (And.intro h1 (And.intro h2 h3)))
      clear hq h1 h2 h3 r0 r1 r2
      by_cases hv : max 0 (min m (u + i - lk)) = v
      · have he : sb = true := (HS.out true).2 ⟨fun _ => ⟨i, ⟨HQ.out.2.1, hi⟩, hv.symm⟩, fun _ => rfl⟩
        (repeat (first | (with_reducible apply ops_cons; (focus ((conv => lhs; simp [ev1, wantG, spineK, spine, float, xnew, xval, xeff, val_tmA_cons, val_tmA_nil, val_val, putT_some, putT_none, addFl, cellsOf, pickC, alive, slLen, slFt, binI, maxA, maxK, minA, minK, aeqK, aeqS, AV.cells, slCells_sl, boatE, spanE, lookE, fillA, setAt, bitsI, nat_nn, AV.plain, apart, Nat.testBit_eq_decide_div_mod_eq, *]) <;> exact rfl)); simp only [addFl]) | ((first | with_reducible refine does_seq ?_ | with_reducible refine does_ops ?_ | with_reducible refine does_draw ?_ | with_reducible refine does_skip ?_ | with_reducible refine does_block ?_ | with_reducible refine does_ret ?_ | with_reducible refine does_exit ?_ | with_reducible refine ops_nil ?_ | (with_reducible apply does_true; (focus (simp [val_tmA_cons, *]; done))) | (with_reducible apply does_false; (focus (simp [val_tmA_cons, *]; done)))); try simp only [Then, Ops, OutB, reduceIte])))
        exact ⟨by first | trivial | rfl, by first | trivial | rfl, by first | trivial | rfl, by simp only [tmA_getD_cons]; simp [he]⟩
      · have hv' : (max 0 (min m (u + i - lk)) == v) = false := beq_eq_false_iff_ne.2 hv
        generalize hmx : max 0 (min m (u + i - lk)) = w at *
        (repeat (first | (with_reducible apply ops_cons; (focus ((conv => lhs; simp [ev1, wantG, spineK, spine, float, xnew, xval, xeff, val_tmA_cons, val_tmA_nil, val_val, putT_some, putT_none, addFl, cellsOf, pickC, alive, slLen, slFt, binI, maxA, maxK, minA, minK, aeqK, aeqS, AV.cells, slCells_sl, boatE, spanE, lookE, fillA, setAt, bitsI, nat_nn, AV.plain, apart, Nat.testBit_eq_decide_div_mod_eq, *]) <;> exact rfl)); simp only [addFl]) | ((first | with_reducible refine does_seq ?_ | with_reducible refine does_ops ?_ | with_reducible refine does_draw ?_ | with_reducible refine does_skip ?_ | with_reducible refine does_block ?_ | with_reducible refine does_ret ?_ | with_reducible refine does_exit ?_ | with_reducible refine ops_nil ?_ | (with_reducible apply does_true; (focus (simp [val_tmA_cons, *]; done))) | (with_reducible apply does_false; (focus (simp [val_tmA_cons, *]; done)))); try simp only [Then, Ops, OutB, reduceIte])))
        obtain ⟨hq, h1, h2, h3⟩ := HQ.out
        refine ⟨q - 1, by omega, i + 1, by omega, by omega, by omega, fun j j1 j2 => ?_, ?_⟩
        · rcases (show j < i ∨ j = i by omega) with h | rfl
          · exact h3 j j1 h
          · rw [hmx]; exact fun h => hv h.symm
        · simp only [gcC_calm hC]
          exact st_eq (by simp [keepT_tmA, lk_cons]) rfl rfl rfl
    · have he : sb = false := (HS.out false).2 (by
        simp only [Bool.false_eq_true, false_iff]
        rintro ⟨j, ⟨j1, j2⟩, j3⟩
        exact h3 j j1 (by omega) j3)
      clear hq h1 h2 h3
      (repeat (first | (with_reducible apply ops_cons; (focus ((conv => lhs; simp [ev1, wantG, spineK, spine, float, xnew, xval, xeff, val_tmA_cons, val_tmA_nil, val_val, putT_some, putT_none, addFl, cellsOf, pickC, alive, slLen, slFt, binI, maxA, maxK, minA, minK, aeqK, aeqS, AV.cells, slCells_sl, boatE, spanE, lookE, fillA, setAt, bitsI, nat_nn, AV.plain, apart, Nat.testBit_eq_decide_div_mod_eq, *]) <;> exact rfl)); simp only [addFl]) | ((first | with_reducible refine does_seq ?_ | with_reducible refine does_ops ?_ | with_reducible refine does_draw ?_ | with_reducible refine does_skip ?_ | with_reducible refine does_block ?_ | with_reducible refine does_ret ?_ | with_reducible refine does_exit ?_ | with_reducible refine ops_nil ?_ | (with_reducible apply does_true; (focus (simp [val_tmA_cons, *]; done))) | (with_reducible apply does_false; (focus (simp [val_tmA_cons, *]; done)))); try simp only [Then, Ops, OutB, reduceIte])))
      exact ⟨by first | trivial | rfl, by first | trivial | rfl, by first | trivial | rfl, by simp only [tmA_getD_cons]; simp [he]⟩
end R
end Ev
end Go.Proofs.YtlkhjnpflohfeaaDoor

/- fits -/
namespace Go.Proofs.YtlkhjnpflohfeaaDoor
open Go
namespace Ev
namespace R
set_option maxRecDepth 100000
set_option maxHeartbeats 8000000 in
theorem fits_fun (C : Cfg) (hC : C.calm = true) (call : CallF) (hI : InC call) (hH : HasC call) (H : List AB) (a b k l m : Int) (r : List (Int × Int)) (bs : List Boat) (ls : List Look) (k5 : ls.length ≤ 5) (s d : Nat) (v : Int) (hs : s < 1048576) :
    Does (ev C call H.length none af100.body { tm := tmA 43 (zipI 0 [.agg [.int .i64 a, .int .i64 b, .int .i64 k, .int .i64 l, .vs 2 (r.map spanE), .int .i64 m, .vs 4 (bs.map boatE), .vs 3 (ls.map lookE)], .int .i64 s, .int .i64 d, .int .i64 v] []), df := [], hp := H, tc := [] }) (Gives 8 (.bool (looksB ⟨(a, b), (k, l), r, m, bs, ls⟩ s d v))) := by
  have hb : ∀ b', looksB ⟨(a, b), (k, l), r, m, bs, ls⟩ s d v = b' ↔ (b' = true ↔ ∀ i (h : i < ls.length), s.testBit i = true → ls[i].day = d → ls[i].depth.1 ≤ v ∧ v ≤ ls[i].depth.2) := by
    intro b'
    have e : (∀ i, i < ls.length → s.testBit i = true → (Cut.lookAt ls i).day = d → Cut.inS (Cut.lookAt ls i).depth v) ↔ ∀ i (h : i < ls.length), s.testBit i = true → ls[i].day = d → ls[i].depth.1 ≤ v ∧ v ≤ ls[i].depth.2 := by
      have e1 : ∀ i (h : i < ls.length), Cut.lookAt ls i = ls[i] := fun i h => by simp [Cut.lookAt, h]
      constructor
      · intro h i hi; have := h i hi; rw [e1 i hi] at this; exact this
      · intro h i hi; rw [e1 i hi]; exact h i hi
    rw [← e]
    unfold looksB Cut.Looks
    cases b' <;> simp
  generalize looksB ⟨(a, b), (k, l), r, m, bs, ls⟩ s d v = sb at *
  have HS := hideP hb
  have h1 := fun H i (h : i < ls.length) => hH H s i hs (by omega)
  have HH := hideP h1
  unfold InC at hI
  clear hb h1 hH hs
  unfold af100
  simp only [zipI]
  (repeat (first | (with_reducible apply ops_cons; (focus ((conv => lhs; simp [ev1, wantG, spineK, spine, float, xnew, xval, xeff, val_tmA_cons, val_tmA_nil, val_val, putT_some, putT_none, addFl, cellsOf, pickC, alive, slLen, slFt, binI, maxA, maxK, minA, minK, aeqK, aeqS, AV.cells, slCells_sl, boatE, spanE, lookE, fillA, setAt, bitsI, nat_nn, AV.plain, apart, Nat.testBit_eq_decide_div_mod_eq, *]) <;> exact rfl)); simp only [addFl]) | ((first | with_reducible refine does_seq ?_ | with_reducible refine does_ops ?_ | with_reducible refine does_draw ?_ | with_reducible refine does_skip ?_ | with_reducible refine does_block ?_ | with_reducible refine does_ret ?_ | with_reducible refine does_exit ?_ | with_reducible refine ops_nil ?_ | (with_reducible apply does_true; (focus (simp [val_tmA_cons, *]; done))) | (with_reducible apply does_false; (focus (simp [val_tmA_cons, *]; done)))); try simp only [Then, Ops, OutB, reduceIte])))
  refine does_loop (fun q st => ∃ (i : Nat) (J : List AB), i + q = ls.length ∧ (∀ j (h : j < ls.length), j < i → s.testBit j = true → ls[j].day = d → ls[j].depth.1 ≤ v ∧ v ≤ ls[j].depth.2) ∧ st = { tm := tmA 43 [(9, .int .i64 i), (4, .ptr H.length 0), (3, .int .i64 v), (2, .int .i64 d), (1, .int .i64 s)], df := [], hp := H ++ .cells [.int .i64 a, .int .i64 b, .int .i64 k, .int .i64 l, .vs 2 (r.map spanE), .int .i64 m, .vs 4 (bs.map boatE), .vs 3 (ls.map lookE)] :: J, tc := [] }) ls.length (by unfold fuelL; omega) ?_ ?_
  · refine ⟨0, [], by omega, fun j _ h => by omega, ?_⟩
    simp only [gcC_calm hC]
    exact st_eq (by simp [keepT_tmA, lk_cons]) rfl rfl rfl
  · rintro q st ⟨i, J, hq, h3, rfl⟩
    by_cases hi : i < ls.length
    · have hw : IntKind.i64.wrap ((i : Int) + 1) = (i : Int) + 1 := wrap_in (by omega) (by omega)
      have hh := fun H => HH.out H i hi
      have HQ := hideP (And.intro hq h3)
      clear hq h3 k5
      have hcase : (s.testBit i = false) ∨ (s.testBit i = true ∧ ¬ ls[i].day = d) ∨ (s.testBit i = true ∧ ls[i].day = d ∧ Cut.within v ls[i].depth.1 ls[i].depth.2 = true) ∨ (s.testBit i = true ∧ ls[i].day = d ∧ Cut.within v ls[i].depth.1 ls[i].depth.2 = false) := by
        cases s.testBit i <;> simp
        by_cases hd : ls[i].day = d <;> simp [hd]
      have next : (s.testBit i = true → ls[i].day = d → ls[i].depth.1 ≤ v ∧ v ≤ ls[i].depth.2) → ∀ j (h : j < ls.length), j < i + 1 → s.testBit j = true → ls[j].day = d → ls[j].depth.1 ≤ v ∧ v ≤ ls[j].depth.2 := by
        intro hx j hj hji
        rcases (show j < i ∨ j = i by omega) with h | rfl
        · exact HQ.out.2 j hj h
        · exact hx
      generalize hbt : s.testBit i = tb at hh hcase next
      have HNX := hideP next
      have HBT := hideP hbt
      clear next hbt
      rcases hcase with c1 | ⟨c1, c2⟩ | ⟨c1, c2, c3⟩ | ⟨c1, c2, c3⟩
      · (repeat (first | (with_reducible apply ops_cons; (focus ((conv => lhs; simp [ev1, wantG, spineK, spine, float, xnew, xval, xeff, val_tmA_cons, val_tmA_nil, val_val, putT_some, putT_none, addFl, cellsOf, pickC, alive, slLen, slFt, binI, maxA, maxK, minA, minK, aeqK, aeqS, AV.cells, slCells_sl, boatE, spanE, lookE, fillA, setAt, bitsI, nat_nn, AV.plain, apart, Nat.testBit_eq_decide_div_mod_eq, *]) <;> exact rfl)); simp only [addFl]) | ((first | with_reducible refine does_seq ?_ | with_reducible refine does_ops ?_ | with_reducible refine does_draw ?_ | with_reducible refine does_skip ?_ | with_reducible refine does_block ?_ | with_reducible refine does_ret ?_ | with_reducible refine does_exit ?_ | with_reducible refine ops_nil ?_ | (with_reducible apply does_true; (focus (simp [val_tmA_cons, *]; done))) | (with_reducible apply does_false; (focus (simp [val_tmA_cons, *]; done)))); try simp only [Then, Ops, OutB, reduceIte])))
        have hq := HQ.out.1
        refine ⟨q - 1, by omega, i + 1, ?_⟩
        apply Exists.intro
        refine ⟨by omega, HNX.out (fun h => absurd h (by rw [c1]; decide)), ?_⟩
        simp only [gcC_calm hC]
        exact st_eq (by simp [keepT_tmA, lk_cons]) rfl rfl rfl
      · have c2' : (ls[i].day == (d : Int)) = false := beq_eq_false_iff_ne.2 c2
        (repeat (first | (with_reducible apply ops_cons; (focus ((conv => lhs; simp [ev1, wantG, spineK, spine, float, xnew, xval, xeff, val_tmA_cons, val_tmA_nil, val_val, putT_some, putT_none, addFl, cellsOf, pickC, alive, slLen, slFt, binI, maxA, maxK, minA, minK, aeqK, aeqS, AV.cells, slCells_sl, boatE, spanE, lookE, fillA, setAt, bitsI, nat_nn, AV.plain, apart, Nat.testBit_eq_decide_div_mod_eq, *]) <;> exact rfl)); simp only [addFl]) | ((first | with_reducible refine does_seq ?_ | with_reducible refine does_ops ?_ | with_reducible refine does_draw ?_ | with_reducible refine does_skip ?_ | with_reducible refine does_block ?_ | with_reducible refine does_ret ?_ | with_reducible refine does_exit ?_ | with_reducible refine ops_nil ?_ | (with_reducible apply does_true; (focus (simp [val_tmA_cons, *]; done))) | (with_reducible apply does_false; (focus (simp [val_tmA_cons, *]; done)))); try simp only [Then, Ops, OutB, reduceIte])))
        have hq := HQ.out.1
        refine ⟨q - 1, by omega, i + 1, ?_⟩
        apply Exists.intro
        refine ⟨by omega, HNX.out (fun _ h => absurd h c2), ?_⟩
        simp only [gcC_calm hC]
        exact st_eq (by simp [keepT_tmA, lk_cons]) rfl rfl rfl
      · have c2' : (ls[i].day == (d : Int)) = true := beq_iff_eq.2 c2
        have HC := hideP c2
        clear c2
        (repeat (first | (with_reducible apply ops_cons; (focus ((conv => lhs; simp [ev1, wantG, spineK, spine, float, xnew, xval, xeff, val_tmA_cons, val_tmA_nil, val_val, putT_some, putT_none, addFl, cellsOf, pickC, alive, slLen, slFt, binI, maxA, maxK, minA, minK, aeqK, aeqS, AV.cells, slCells_sl, boatE, spanE, lookE, fillA, setAt, bitsI, nat_nn, AV.plain, apart, Nat.testBit_eq_decide_div_mod_eq, *]) <;> exact rfl)); simp only [addFl]) | ((first | with_reducible refine does_seq ?_ | with_reducible refine does_ops ?_ | with_reducible refine does_draw ?_ | with_reducible refine does_skip ?_ | with_reducible refine does_block ?_ | with_reducible refine does_ret ?_ | with_reducible refine does_exit ?_ | with_reducible refine ops_nil ?_ | (with_reducible apply does_true; (focus (simp [val_tmA_cons, *]; done))) | (with_reducible apply does_false; (focus (simp [val_tmA_cons, *]; done)))); try simp only [Then, Ops, OutB, reduceIte])))
        have hq := HQ.out.1
        refine ⟨q - 1, by omega, i + 1, ?_⟩
        apply Exists.intro
        refine ⟨by omega, HNX.out (fun _ _ => by simpa [Cut.within] using c3), ?_⟩
        simp only [gcC_calm hC]
        exact st_eq (by simp [keepT_tmA, lk_cons]) rfl rfl rfl
      · have c2' : (ls[i].day == (d : Int)) = true := beq_iff_eq.2 c2
        have he : sb = false := (HS.out false).2 (by
          simp only [Bool.false_eq_true, false_iff]
          intro h
          have := h i hi (HBT.out.trans c1) c2
          rw [show Cut.within v ls[i].depth.1 ls[i].depth.2 = true by simpa [Cut.within] using this] at c3
          cases c3)
        clear c2
        (repeat (first | (with_reducible apply ops_cons; (focus ((conv => lhs; simp [ev1, wantG, spineK, spine, float, xnew, xval, xeff, val_tmA_cons, val_tmA_nil, val_val, putT_some, putT_none, addFl, cellsOf, pickC, alive, slLen, slFt, binI, maxA, maxK, minA, minK, aeqK, aeqS, AV.cells, slCells_sl, boatE, spanE, lookE, fillA, setAt, bitsI, nat_nn, AV.plain, apart, Nat.testBit_eq_decide_div_mod_eq, *]) <;> exact rfl)); simp only [addFl]) | ((first | with_reducible refine does_seq ?_ | with_reducible refine does_ops ?_ | with_reducible refine does_draw ?_ | with_reducible refine does_skip ?_ | with_reducible refine does_block ?_ | with_reducible refine does_ret ?_ | with_reducible refine does_exit ?_ | with_reducible refine ops_nil ?_ | (with_reducible apply does_true; (focus (simp [val_tmA_cons, *]; done))) | (with_reducible apply does_false; (focus (simp [val_tmA_cons, *]; done)))); try simp only [Then, Ops, OutB, reduceIte])))
        exact ⟨by first | trivial | rfl, by first | trivial | rfl, by first | trivial | rfl, by simp only [tmA_getD_cons]; simp [he]⟩
    · have he : sb = true := (HS.out true).2 ⟨fun _ j hj => h3 j hj (by omega), fun _ => rfl⟩
      clear h3
      (repeat (first | (with_reducible apply ops_cons; (focus ((conv => lhs; simp [ev1, wantG, spineK, spine, float, xnew, xval, xeff, val_tmA_cons, val_tmA_nil, val_val, putT_some, putT_none, addFl, cellsOf, pickC, alive, slLen, slFt, binI, maxA, maxK, minA, minK, aeqK, aeqS, AV.cells, slCells_sl, boatE, spanE, lookE, fillA, setAt, bitsI, nat_nn, AV.plain, apart, Nat.testBit_eq_decide_div_mod_eq, *]) <;> exact rfl)); simp only [addFl]) | ((first | with_reducible refine does_seq ?_ | with_reducible refine does_ops ?_ | with_reducible refine does_draw ?_ | with_reducible refine does_skip ?_ | with_reducible refine does_block ?_ | with_reducible refine does_ret ?_ | with_reducible refine does_exit ?_ | with_reducible refine ops_nil ?_ | (with_reducible apply does_true; (focus (simp [val_tmA_cons, *]; done))) | (with_reducible apply does_false; (focus (simp [val_tmA_cons, *]; done)))); try simp only [Then, Ops, OutB, reduceIte])))
      exact ⟨by first | trivial | rfl, by first | trivial | rfl, by first | trivial | rfl, by simp only [tmA_getD_cons]; simp [he]⟩
end R
end Ev
end Go.Proofs.YtlkhjnpflohfeaaDoor

/- The reference of chapter 06, gone through: whether a depth comes from one of the day before, or goes on. -/
namespace Go.Proofs.YtlkhjnpflohfeaaDoor
open Go
namespace Ev
namespace R
set_option maxRecDepth 100000
theorem lk_val (C : Cfg) (N : Nat) (L : List (Nat × AV)) (t : Nat) : val C (tmA N L) (.tmp t) = lk N L t := rfl
/-- Does a depth come from one of those before i? -/
noncomputable def fromB (x : CutD) (lk : Int) (d n : Nat) (fp : Nat → Bool) (i : Nat) : Bool := (List.range i).any fun u => fp u && stepB x lk d u n
/-- Does a depth go on to one of those before i? -/
noncomputable def ontoB (x : CutD) (lk : Int) (d n : Nat) (fn : Nat → Bool) (i : Nat) : Bool := (List.range i).any fun v => fn v && stepB x lk d n v
theorem any_succ (p : Nat → Bool) (i : Nat) : (List.range (i + 1)).any p = ((List.range i).any p || p i) := by
  rw [List.range_succ, List.any_append]; simp
theorem any_true {p : Nat → Bool} {i j : Nat} (h : (List.range i).any p = true) (hij : i ≤ j) : (List.range j).any p = true := by
  rw [List.any_eq_true] at h ⊢
  obtain ⟨x, h1, h2⟩ := h
  exact ⟨x, by rw [List.mem_range] at *; omega, h2⟩
set_option maxHeartbeats 8000000 in
theorem d4 (C : Cfg) (hC : C.calm = true) (call : CallF) (hG : GoesC call) (a b k l : Int) (mn : Nat) (r : List (Int × Int)) (bs : List Boat) (ls : List Look) (V : Cut.Valid ⟨(a, b), (k, l), r, mn, bs, ls⟩) (lkv : Int) (lk0 : 0 ≤ lkv) (lk1 : lkv ≤ 10)
    (G : List AB) (B : Nat) (gB : G[B]? = some (.cells [.int .i64 a, .int .i64 b, .int .i64 k, .int .i64 l, .vs 2 (r.map spanE), .int .i64 mn, .vs 4 (bs.map boatE), .vs 3 (ls.map lookE)])) (L : List (Nat × AV)) (tc : List Nat) (pin : Nat)
    (d n : Nat) (hd : d ≤ r.length) (f0 : Bool) (fp : Nat → Bool) (x1 x7 x9 : AV)
    (hrow : 0 < d → ∃ ob oc rb rc, x7 = .sl ob 0 d 1 ∧ G[ob]? = some (.cells oc) ∧ oc[d - 1]? = some (.sl rb 0 (mn + 1) 1) ∧ G[rb]? = some (.cells rc) ∧ ∀ i, i ≤ mn → rc[i]? = some (.bool (fp i)))
    (l1 : lk 162 L 1 = x1) (l2 : lk 162 L 2 = .int .i64 lkv) (l3 : lk 162 L 3 = .ptr B 0) (l7 : lk 162 L 7 = x7) (l8 : lk 162 L 8 = .int .i64 d) (l9 : lk 162 L 9 = x9) (l10 : lk 162 L 10 = .int .i64 n) (l11 : lk 162 L 11 = .bool f0) (l12 : lk 162 L 12 = .int .i64 0) :
    Does (ev C call pin none (atP [1, 1, 0, 1, 0, 0, 1, 0, 0, 1, 0, 1, 0, 0, 1, 0, 0, 1, 0, 1, 0] af95.body) { tm := tmA 162 L, df := [], hp := G, tc := tc })
      (fun e st => e = .exit 4 ∧ ∃ L', lk 162 L' 1 = x1 ∧ lk 162 L' 2 = .int .i64 lkv ∧ lk 162 L' 3 = .ptr B 0 ∧ lk 162 L' 7 = x7 ∧ lk 162 L' 8 = .int .i64 d ∧ lk 162 L' 9 = x9 ∧ lk 162 L' 10 = .int .i64 n ∧
        lk 162 L' 11 = .bool (f0 || (decide (0 < d) && fromB ⟨(a, b), (k, l), r, mn, bs, ls⟩ lkv (d - 1) n fp (mn + 1))) ∧ st = { tm := tmA 162 L', df := [], hp := G, tc := tc }) := by
  have m100 : (mn : Int) ≤ 100 := V.m100
  have n8 : r.length ≤ 8 := V.n8
  have hgo := fun H d' (h : d' < r.length) (u : Nat) (hu : u ≤ mn) => hG H a b k l mn r bs ls V d' h u n lkv (by omega) (by omega) lk0 lk1
  generalize hcd : (⟨(a, b), (k, l), r, mn, bs, ls⟩ : CutD) = c at *
  obtain ⟨nB, eB⟩ := List.getElem?_eq_some_iff.1 gB
  simp only [af95, atP]
  refine does_loop (fun q st => ∃ (i : Nat), i + q = mn + 1 ∧ st = { tm := tmA 162 [(12, .int .i64 i), (11, .bool (f0 || (decide (0 < d) && fromB c lkv (d - 1) n fp i))), (10, .int .i64 n), (9, x9), (8, .int .i64 d), (7, x7), (3, .ptr B 0), (2, .int .i64 lkv), (1, x1)], df := [], hp := G, tc := tc }) (mn + 1) (by unfold fuelL; omega) ?_ ?_
  · refine ⟨0, by omega, ?_⟩
    simp only [gcC_calm hC]
    exact st_eq (by simp [keepT_tmA, lk_cons, fromB, *]) rfl rfl rfl
  · rintro q st ⟨i, hq, rfl⟩
    clear l1 l2 l3 l7 l8 l9 l10 l11 l12
    have fin : ∀ (v : Bool), (f0 || (decide (0 < d) && fromB c lkv (d - 1) n fp i)) = v → (f0 || (decide (0 < d) && fromB c lkv (d - 1) n fp (mn + 1))) = v → (f0 || (decide (0 < d) && fromB c lkv (d - 1) n fp i)) = (f0 || (decide (0 < d) && fromB c lkv (d - 1) n fp (mn + 1))) := fun v h1 h2 => h1.trans h2.symm
    by_cases hi : i ≤ mn
    · by_cases hd0 : 0 < d
      · obtain ⟨ob, oc, rb, rc, rfl, gO, hoc, gR, hrc⟩ := hrow hd0
        obtain ⟨nO, eO⟩ := List.getElem?_eq_some_iff.1 gO
        obtain ⟨nR, eR⟩ := List.getElem?_eq_some_iff.1 gR
        cases hb : (f0 || (decide (0 < d) && fromB c lkv (d - 1) n fp i)) with
        | true =>
          have hb2 : (f0 || (decide (0 < d) && fromB c lkv (d - 1) n fp (mn + 1))) = true := by
            cases f0 with
            | true => rfl
            | false =>
              rw [decide_eq_true hd0] at hb ⊢
              simp only [Bool.false_or, Bool.true_and] at hb ⊢
              exact any_true hb (by omega)
          clear hrow fin hgo hrc hoc hq hb
          (repeat (first | (with_reducible apply ops_cons; (focus ((conv => lhs; simp [ev1, wantG, spineK, spine, float, xnew, xval, xeff, val_tmA_cons, val_tmA_nil, val_val, putT_some, putT_none, addFl, cellsOf, pickC, alive, slLen, slFt, binI, maxA, maxK, minA, minK, aeqK, aeqS, AV.cells, slCells_sl, boatE, spanE, lookE, fillA, setAt, bitsI, nat_nn, AV.plain, apart, Nat.testBit_eq_decide_div_mod_eq, *]) <;> exact rfl)); simp only [addFl]) | ((first | with_reducible refine does_seq ?_ | with_reducible refine does_ops ?_ | with_reducible refine does_draw ?_ | with_reducible refine does_skip ?_ | with_reducible refine does_block ?_ | with_reducible refine does_ret ?_ | with_reducible refine does_exit ?_ | with_reducible refine ops_nil ?_ | (with_reducible apply does_true; (focus (simp [val_tmA_cons, *]; done))) | (with_reducible apply does_false; (focus (simp [val_tmA_cons, *]; done)))); try simp only [Then, Ops, OutB, reduceIte])))
          refine ⟨by first | trivial | rfl, ?_⟩
          apply Exists.intro
          refine ⟨?_, ?_, ?_, ?_, ?_, ?_, ?_, ?_, rfl⟩ <;> simp [lk_cons, hb2]
        | false =>
          have h1 := hrc i hi
          have h2 := fun H => hgo H (d - 1) (by omega) i hi
          have hw : IntKind.i64.wrap ((i : Int) + 1) = (i : Int) + 1 := wrap_in (by omega) (by omega)
          have hw1 : IntKind.i64.wrap ((d : Int) - 1) = ((d - 1 : Nat) : Int) := by rw [wrap_in (by omega) (by omega)]; omega
          have hed : d - 1 < d := by omega
          have hi' : i < mn + 1 := by omega
          have hi'' : (i : Int) < (mn : Int) + 1 := by omega
          have hnext : (f0 || (decide (0 < d) && fromB c lkv (d - 1) n fp (i + 1))) = (fp i && stepB c lkv (d - 1) i n) := by
            have hb' := hb
            rw [decide_eq_true hd0] at hb' ⊢
            simp only [Bool.or_eq_false_iff, Bool.true_and] at hb'
            unfold fromB at hb' ⊢
            rw [any_succ, hb'.1, hb'.2]; simp
          have HN := hideP hnext
          have HQ := hideP hq
          generalize d - 1 = e at *
          clear hrow fin hgo hrc hnext hq hcd V hG m100
          cases hfp : fp i with
          | false =>
            rw [hfp] at h1
            (repeat (first | (with_reducible apply ops_cons; (focus ((conv => lhs; simp [ev1, wantG, spineK, spine, float, xnew, xval, xeff, val_tmA_cons, val_tmA_nil, val_val, putT_some, putT_none, addFl, cellsOf, pickC, alive, slLen, slFt, binI, maxA, maxK, minA, minK, aeqK, aeqS, AV.cells, slCells_sl, boatE, spanE, lookE, fillA, setAt, bitsI, nat_nn, AV.plain, apart, Nat.testBit_eq_decide_div_mod_eq, *]) <;> exact rfl)); simp only [addFl]) | ((first | with_reducible refine does_seq ?_ | with_reducible refine does_ops ?_ | with_reducible refine does_draw ?_ | with_reducible refine does_skip ?_ | with_reducible refine does_block ?_ | with_reducible refine does_ret ?_ | with_reducible refine does_exit ?_ | with_reducible refine ops_nil ?_ | (with_reducible apply does_true; (focus (simp [val_tmA_cons, *]; done))) | (with_reducible apply does_false; (focus (simp [val_tmA_cons, *]; done)))); try simp only [Then, Ops, OutB, reduceIte])))
            have hq := HQ.out
            refine ⟨q - 1, by omega, i + 1, by omega, ?_⟩
            simp only [gcC_calm hC]
            rw [HN.out, hfp]
            exact st_eq (by simp [keepT_tmA, lk_cons]) rfl rfl rfl
          | true =>
            rw [hfp] at h1
            (repeat (first | (with_reducible apply ops_cons; (focus ((conv => lhs; simp [ev1, wantG, spineK, spine, float, xnew, xval, xeff, val_tmA_cons, val_tmA_nil, val_val, putT_some, putT_none, addFl, cellsOf, pickC, alive, slLen, slFt, binI, maxA, maxK, minA, minK, aeqK, aeqS, AV.cells, slCells_sl, boatE, spanE, lookE, fillA, setAt, bitsI, nat_nn, AV.plain, apart, Nat.testBit_eq_decide_div_mod_eq, *]) <;> exact rfl)); simp only [addFl]) | ((first | with_reducible refine does_seq ?_ | with_reducible refine does_ops ?_ | with_reducible refine does_draw ?_ | with_reducible refine does_skip ?_ | with_reducible refine does_block ?_ | with_reducible refine does_ret ?_ | with_reducible refine does_exit ?_ | with_reducible refine ops_nil ?_ | (with_reducible apply does_true; (focus (simp [val_tmA_cons, *]; done))) | (with_reducible apply does_false; (focus (simp [val_tmA_cons, *]; done)))); try simp only [Then, Ops, OutB, reduceIte])))
            have hq := HQ.out
            refine ⟨q - 1, by omega, i + 1, by omega, ?_⟩
            simp only [gcC_calm hC]
            rw [HN.out, hfp]
            exact st_eq (by simp [keepT_tmA, lk_cons]) rfl rfl rfl
      · have hd0' : d = 0 := by omega
        subst hd0'
        clear hrow fin hgo hq
        (repeat (first | (with_reducible apply ops_cons; (focus ((conv => lhs; simp [ev1, wantG, spineK, spine, float, xnew, xval, xeff, val_tmA_cons, val_tmA_nil, val_val, putT_some, putT_none, addFl, cellsOf, pickC, alive, slLen, slFt, binI, maxA, maxK, minA, minK, aeqK, aeqS, AV.cells, slCells_sl, boatE, spanE, lookE, fillA, setAt, bitsI, nat_nn, AV.plain, apart, Nat.testBit_eq_decide_div_mod_eq, *]) <;> exact rfl)); simp only [addFl]) | ((first | with_reducible refine does_seq ?_ | with_reducible refine does_ops ?_ | with_reducible refine does_draw ?_ | with_reducible refine does_skip ?_ | with_reducible refine does_block ?_ | with_reducible refine does_ret ?_ | with_reducible refine does_exit ?_ | with_reducible refine ops_nil ?_ | (with_reducible apply does_true; (focus (simp [val_tmA_cons, *]; done))) | (with_reducible apply does_false; (focus (simp [val_tmA_cons, *]; done)))); try simp only [Then, Ops, OutB, reduceIte])))
        refine ⟨by first | trivial | rfl, ?_⟩
        apply Exists.intro
        refine ⟨?_, ?_, ?_, ?_, ?_, ?_, ?_, ?_, rfl⟩ <;> simp [lk_cons]
    · obtain rfl : i = mn + 1 := by omega
      clear hrow fin hgo hq
      generalize (f0 || (decide (0 < d) && fromB c lkv (d - 1) n fp (mn + 1))) = v at *
      have hx : ¬ ((mn : Int) + 1 ≤ mn) := by omega
      (repeat (first | (with_reducible apply ops_cons; (focus ((conv => lhs; simp [ev1, wantG, spineK, spine, float, xnew, xval, xeff, val_tmA_cons, val_tmA_nil, val_val, putT_some, putT_none, addFl, cellsOf, pickC, alive, slLen, slFt, binI, maxA, maxK, minA, minK, aeqK, aeqS, AV.cells, slCells_sl, boatE, spanE, lookE, fillA, setAt, bitsI, nat_nn, AV.plain, apart, Nat.testBit_eq_decide_div_mod_eq, *]) <;> exact rfl)); simp only [addFl]) | ((first | with_reducible refine does_seq ?_ | with_reducible refine does_ops ?_ | with_reducible refine does_draw ?_ | with_reducible refine does_skip ?_ | with_reducible refine does_block ?_ | with_reducible refine does_ret ?_ | with_reducible refine does_exit ?_ | with_reducible refine ops_nil ?_ | (with_reducible apply does_true; (focus (simp [val_tmA_cons, *]; done))) | (with_reducible apply does_false; (focus (simp [val_tmA_cons, *]; done)))); try simp only [Then, Ops, OutB, reduceIte])))
      refine ⟨by first | trivial | rfl, ?_⟩
      apply Exists.intro
      refine ⟨?_, ?_, ?_, ?_, ?_, ?_, ?_, ?_, rfl⟩ <;> simp [lk_cons]
end R
end Ev
end Go.Proofs.YtlkhjnpflohfeaaDoor

/- The reference of chapter 06, gone through: whether a depth goes on to one of the day after. -/
namespace Go.Proofs.YtlkhjnpflohfeaaDoor
open Go
namespace Ev
namespace R
set_option maxRecDepth 100000
set_option maxHeartbeats 8000000 in
theorem d10 (C : Cfg) (hC : C.calm = true) (call : CallF) (hG : GoesC call) (a b k l : Int) (mn : Nat) (r : List (Int × Int)) (bs : List Boat) (ls : List Look) (V : Cut.Valid ⟨(a, b), (k, l), r, mn, bs, ls⟩) (lkv : Int) (lk0 : 0 ≤ lkv) (lk1 : lkv ≤ 10)
    (G : List AB) (B : Nat) (gB : G[B]? = some (.cells [.int .i64 a, .int .i64 b, .int .i64 k, .int .i64 l, .vs 2 (r.map spanE), .int .i64 mn, .vs 4 (bs.map boatE), .vs 3 (ls.map lookE)])) (L : List (Nat × AV)) (tc : List Nat) (pin : Nat)
    (d u : Nat) (hd : d < r.length) (hu : u ≤ mn) (fa : Bool) (fn : Nat → Bool) (ob ra rb : Nat) (oc ac bc : List AV)
    (gO : G[ob]? = some (.cells oc)) (ho1 : oc[d]? = some (.sl ra 0 (mn + 1) 1)) (ho2 : oc[d + 1]? = some (.sl rb 0 (mn + 1) 1)) (gR : G[ra]? = some (.cells ac)) (hac : ac[u]? = some (.bool fa)) (gS : G[rb]? = some (.cells bc)) (hbc : ∀ i, i ≤ mn → bc[i]? = some (.bool (fn i)))
    (l2 : lk 162 L 2 = .int .i64 lkv) (l3 : lk 162 L 3 = .ptr B 0) (l7 : lk 162 L 7 = .sl ob 0 (r.length + 1) 1) (l13 : lk 162 L 13 = .int .i64 d) (l14 : lk 162 L 14 = .int .i64 u) (l15 : lk 162 L 15 = .bool false) (l16 : lk 162 L 16 = .int .i64 0) :
    Does (ev C call pin none (atP [1, 1, 1, 0, 1, 0, 0, 1, 0, 0, 1, 0, 0, 1, 0, 0, 1, 0, 1, 0] af95.body) { tm := tmA 162 L, df := [], hp := G, tc := tc })
      (fun e st => e = .exit 10 ∧ ∃ L', lk 162 L' 2 = .int .i64 lkv ∧ lk 162 L' 3 = .ptr B 0 ∧ lk 162 L' 7 = .sl ob 0 (r.length + 1) 1 ∧ lk 162 L' 13 = .int .i64 d ∧ lk 162 L' 14 = .int .i64 u ∧
        lk 162 L' 15 = .bool (fa && ontoB ⟨(a, b), (k, l), r, mn, bs, ls⟩ lkv d u fn (mn + 1)) ∧ st = { tm := tmA 162 L', df := [], hp := G, tc := tc }) := by
  have m100 : (mn : Int) ≤ 100 := V.m100
  have n8 : r.length ≤ 8 := V.n8
  have hgo := fun H (v : Int) => hG H a b k l mn r bs ls V d hd u v lkv (by omega) (by omega) lk0 lk1
  generalize hcd : (⟨(a, b), (k, l), r, mn, bs, ls⟩ : CutD) = c at *
  obtain ⟨nB, eB⟩ := List.getElem?_eq_some_iff.1 gB
  obtain ⟨nO, eO⟩ := List.getElem?_eq_some_iff.1 gO
  obtain ⟨nR, eR⟩ := List.getElem?_eq_some_iff.1 gR
  obtain ⟨nS, eS⟩ := List.getElem?_eq_some_iff.1 gS
  simp only [af95, atP]
  refine does_loop (fun q st => ∃ (i : Nat), i + q = mn + 1 ∧ st = { tm := tmA 162 [(16, .int .i64 i), (15, .bool (fa && ontoB c lkv d u fn i)), (14, .int .i64 u), (13, .int .i64 d), (7, .sl ob 0 (r.length + 1) 1), (3, .ptr B 0), (2, .int .i64 lkv)], df := [], hp := G, tc := tc }) (mn + 1) (by unfold fuelL; omega) ?_ ?_
  · refine ⟨0, by omega, ?_⟩
    simp only [gcC_calm hC]
    exact st_eq (by simp [keepT_tmA, lk_cons, ontoB, *]) rfl rfl rfl
  · rintro q st ⟨i, hq, rfl⟩
    clear l2 l3 l7 l13 l14 l15 l16
    have hdd : (d : Int) < (r.length : Int) + 1 := by omega
    have hdr : d < r.length + 1 := by omega
    have hd0 : 0 ≤ (d : Int) + 1 := by omega
    have huu : (u : Int) < (mn : Int) + 1 := by omega
    have hwd : IntKind.i64.wrap ((d : Int) + 1) = (d : Int) + 1 := wrap_in (by omega) (by omega)
    have hw : IntKind.i64.wrap ((i : Int) + 1) = (i : Int) + 1 := wrap_in (by omega) (by omega)
    by_cases hi : i ≤ mn
    · cases fa with
      | false =>
        clear hgo hbc hq V hG
        simp only [Bool.false_and]
        (repeat (first | (with_reducible apply ops_cons; (focus ((conv => lhs; simp [ev1, wantG, spineK, spine, float, xnew, xval, xeff, val_tmA_cons, val_tmA_nil, val_val, putT_some, putT_none, addFl, cellsOf, pickC, alive, slLen, slFt, binI, maxA, maxK, minA, minK, aeqK, aeqS, AV.cells, slCells_sl, boatE, spanE, lookE, fillA, setAt, bitsI, nat_nn, AV.plain, apart, Nat.testBit_eq_decide_div_mod_eq, *]) <;> exact rfl)); simp only [addFl]) | ((first | with_reducible refine does_seq ?_ | with_reducible refine does_ops ?_ | with_reducible refine does_draw ?_ | with_reducible refine does_skip ?_ | with_reducible refine does_block ?_ | with_reducible refine does_ret ?_ | with_reducible refine does_exit ?_ | with_reducible refine ops_nil ?_ | (with_reducible apply does_true; (focus (simp [val_tmA_cons, *]; done))) | (with_reducible apply does_false; (focus (simp [val_tmA_cons, *]; done)))); try simp only [Then, Ops, OutB, reduceIte])))
        refine ⟨by first | trivial | rfl, ?_⟩
        apply Exists.intro
        refine ⟨?_, ?_, ?_, ?_, ?_, ?_, rfl⟩ <;> simp [lk_cons]
      | true =>
        simp only [Bool.true_and]
        cases hb : ontoB c lkv d u fn i with
        | true =>
          have hb2 : ontoB c lkv d u fn (mn + 1) = true := any_true hb (by omega)
          clear hgo hbc hq hb V hG
          (repeat (first | (with_reducible apply ops_cons; (focus ((conv => lhs; simp [ev1, wantG, spineK, spine, float, xnew, xval, xeff, val_tmA_cons, val_tmA_nil, val_val, putT_some, putT_none, addFl, cellsOf, pickC, alive, slLen, slFt, binI, maxA, maxK, minA, minK, aeqK, aeqS, AV.cells, slCells_sl, boatE, spanE, lookE, fillA, setAt, bitsI, nat_nn, AV.plain, apart, Nat.testBit_eq_decide_div_mod_eq, *]) <;> exact rfl)); simp only [addFl]) | ((first | with_reducible refine does_seq ?_ | with_reducible refine does_ops ?_ | with_reducible refine does_draw ?_ | with_reducible refine does_skip ?_ | with_reducible refine does_block ?_ | with_reducible refine does_ret ?_ | with_reducible refine does_exit ?_ | with_reducible refine ops_nil ?_ | (with_reducible apply does_true; (focus (simp [val_tmA_cons, *]; done))) | (with_reducible apply does_false; (focus (simp [val_tmA_cons, *]; done)))); try simp only [Then, Ops, OutB, reduceIte])))
          refine ⟨by first | trivial | rfl, ?_⟩
          apply Exists.intro
          refine ⟨?_, ?_, ?_, ?_, ?_, ?_, rfl⟩ <;> simp [lk_cons, hb2]
        | false =>
          have h1 := hbc i hi
          have h2 := fun H => hgo H i
          have hi'' : (i : Int) < (mn : Int) + 1 := by omega
          have hnext : ontoB c lkv d u fn (i + 1) = (fn i && stepB c lkv d u i) := by
            unfold ontoB at hb ⊢
            rw [any_succ, hb]; simp
          have HN := hideP hnext
          have HQ := hideP hq
          clear hgo hbc hnext hq hcd V hG m100
          cases hfp : fn i with
          | false =>
            rw [hfp] at h1
            (repeat (first | (with_reducible apply ops_cons; (focus ((conv => lhs; simp [ev1, wantG, spineK, spine, float, xnew, xval, xeff, val_tmA_cons, val_tmA_nil, val_val, putT_some, putT_none, addFl, cellsOf, pickC, alive, slLen, slFt, binI, maxA, maxK, minA, minK, aeqK, aeqS, AV.cells, slCells_sl, boatE, spanE, lookE, fillA, setAt, bitsI, nat_nn, AV.plain, apart, Nat.testBit_eq_decide_div_mod_eq, *]) <;> exact rfl)); simp only [addFl]) | ((first | with_reducible refine does_seq ?_ | with_reducible refine does_ops ?_ | with_reducible refine does_draw ?_ | with_reducible refine does_skip ?_ | with_reducible refine does_block ?_ | with_reducible refine does_ret ?_ | with_reducible refine does_exit ?_ | with_reducible refine ops_nil ?_ | (with_reducible apply does_true; (focus (simp [val_tmA_cons, *]; done))) | (with_reducible apply does_false; (focus (simp [val_tmA_cons, *]; done)))); try simp only [Then, Ops, OutB, reduceIte])))
            have hq := HQ.out
            refine ⟨q - 1, by omega, i + 1, by omega, ?_⟩
            simp only [gcC_calm hC]
            rw [HN.out, hfp]
            exact st_eq (by simp [keepT_tmA, lk_cons]) rfl rfl rfl
          | true =>
            rw [hfp] at h1
            (repeat (first | (with_reducible apply ops_cons; (focus ((conv => lhs; simp [ev1, wantG, spineK, spine, float, xnew, xval, xeff, val_tmA_cons, val_tmA_nil, val_val, putT_some, putT_none, addFl, cellsOf, pickC, alive, slLen, slFt, binI, maxA, maxK, minA, minK, aeqK, aeqS, AV.cells, slCells_sl, boatE, spanE, lookE, fillA, setAt, bitsI, nat_nn, AV.plain, apart, Nat.testBit_eq_decide_div_mod_eq, *]) <;> exact rfl)); simp only [addFl]) | ((first | with_reducible refine does_seq ?_ | with_reducible refine does_ops ?_ | with_reducible refine does_draw ?_ | with_reducible refine does_skip ?_ | with_reducible refine does_block ?_ | with_reducible refine does_ret ?_ | with_reducible refine does_exit ?_ | with_reducible refine ops_nil ?_ | (with_reducible apply does_true; (focus (simp [val_tmA_cons, *]; done))) | (with_reducible apply does_false; (focus (simp [val_tmA_cons, *]; done)))); try simp only [Then, Ops, OutB, reduceIte])))
            have hq := HQ.out
            refine ⟨q - 1, by omega, i + 1, by omega, ?_⟩
            simp only [gcC_calm hC]
            rw [HN.out, hfp]
            exact st_eq (by simp [keepT_tmA, lk_cons]) rfl rfl rfl
    · obtain rfl : i = mn + 1 := by omega
      have hx : ¬ ((mn : Int) + 1 ≤ mn) := by omega
      clear hgo hbc hq V hG
      generalize (fa && ontoB c lkv d u fn (mn + 1)) = v at *
      (repeat (first | (with_reducible apply ops_cons; (focus ((conv => lhs; simp [ev1, wantG, spineK, spine, float, xnew, xval, xeff, val_tmA_cons, val_tmA_nil, val_val, putT_some, putT_none, addFl, cellsOf, pickC, alive, slLen, slFt, binI, maxA, maxK, minA, minK, aeqK, aeqS, AV.cells, slCells_sl, boatE, spanE, lookE, fillA, setAt, bitsI, nat_nn, AV.plain, apart, Nat.testBit_eq_decide_div_mod_eq, *]) <;> exact rfl)); simp only [addFl]) | ((first | with_reducible refine does_seq ?_ | with_reducible refine does_ops ?_ | with_reducible refine does_draw ?_ | with_reducible refine does_skip ?_ | with_reducible refine does_block ?_ | with_reducible refine does_ret ?_ | with_reducible refine does_exit ?_ | with_reducible refine ops_nil ?_ | (with_reducible apply does_true; (focus (simp [val_tmA_cons, *]; done))) | (with_reducible apply does_false; (focus (simp [val_tmA_cons, *]; done)))); try simp only [Then, Ops, OutB, reduceIte])))
      refine ⟨by first | trivial | rfl, ?_⟩
      apply Exists.intro
      refine ⟨?_, ?_, ?_, ?_, ?_, ?_, rfl⟩ <;> simp [lk_cons]
end R
end Ev
end Go.Proofs.YtlkhjnpflohfeaaDoor

/- The reference of chapter 06, gone through: the depths of a day, by those of the day before. -/
namespace Go.Proofs.YtlkhjnpflohfeaaDoor
open Go
namespace Ev
namespace R
set_option maxRecDepth 100000
/-- The cells of a row that is filled up to n. -/
def rowC (mn : Nat) (F : Nat → Bool) (n : Nat) : List AV := (List.range (mn + 1)).map fun i => .bool (if i < n then F i else false)
theorem rowC_len (mn : Nat) (F : Nat → Bool) (n : Nat) : (rowC mn F n).length = mn + 1 := by simp [rowC]
theorem rowC_get (mn : Nat) (F : Nat → Bool) (n i : Nat) (h : i ≤ mn) : (rowC mn F n)[i]? = some (.bool (if i < n then F i else false)) := by
  unfold rowC
  rw [List.getElem?_map, List.getElem?_range (by omega)]; rfl
theorem rowC_set (mn : Nat) (F : Nat → Bool) (n : Nat) (h : n ≤ mn) : (rowC mn F n).take n ++ .bool (F n) :: (rowC mn F n).drop (n + 1) = rowC mn F (n + 1) := by
  have e : (rowC mn F n).take n ++ .bool (F n) :: (rowC mn F n).drop (n + 1) = (rowC mn F n).set n (.bool (F n)) := by
    rw [List.set_eq_take_append_cons_drop, if_pos (by rw [rowC_len]; omega)]
  rw [e]
  apply List.ext_getElem?
  intro i
  by_cases hi : i ≤ mn
  · rw [rowC_get mn F (n + 1) i hi]
    by_cases hin : n = i
    · subst hin
      rw [List.getElem?_set_self (by rw [rowC_len]; omega), if_pos (by omega)]
    · rw [List.getElem?_set_ne hin, rowC_get mn F n i hi]
      by_cases h1 : i < n
      · rw [if_pos h1, if_pos (by omega)]
      · rw [if_neg h1, if_neg (by omega)]
  · rw [List.getElem?_eq_none (by simp [rowC_len]; omega), List.getElem?_eq_none (by simp [rowC_len]; omega)]
theorem rowC_full (mn : Nat) (F : Nat → Bool) : rowC mn F (mn + 1) = (List.range (mn + 1)).map fun i => .bool (F i) := by
  unfold rowC
  apply List.map_congr_left
  intro i hi
  rw [List.mem_range] at hi
  rw [if_pos hi]
theorem rowC_zero (mn : Nat) (F : Nat → Bool) : rowC mn F 0 = List.replicate (mn + 1) (.bool false) := by
  apply List.ext_getElem?
  intro i
  by_cases hi : i ≤ mn
  · rw [rowC_get mn F 0 i hi, if_neg (by omega), List.getElem?_replicate, if_pos (by omega)]
  · rw [List.getElem?_eq_none (by simp [rowC_len]; omega), List.getElem?_eq_none (by simp; omega)]
theorem set_same {α : Type} {l : List α} {i : Nat} {v : α} (h : l[i]? = some v) : l.set i v = l := by
  obtain ⟨h1, h2⟩ := List.getElem?_eq_some_iff.1 h
  rw [← h2]; exact List.set_getElem_self h1
/-- Whether a depth can be, on a day, by those of the day before. -/
noncomputable def forB (x : CutD) (lk : Int) (s : Nat) (mn d : Nat) (fp : Nat → Bool) (n : Nat) : Bool :=
  (((d == 0) && Cut.within n x.depth.1 x.depth.2) || (decide (0 < d) && fromB x lk (d - 1) n fp (mn + 1))) && looksB x s d n
set_option maxHeartbeats 8000000 in
theorem d2 (C : Cfg) (hC : C.calm = true) (call : CallF) (hG : GoesC call) (hI : InC call) (hF : FitsC call) (a b k l : Int) (mn : Nat) (r : List (Int × Int)) (bs : List Boat) (ls : List Look) (V : Cut.Valid ⟨(a, b), (k, l), r, mn, bs, ls⟩) (lkv : Int) (lk0 : 0 ≤ lkv) (lk1 : lkv ≤ 10) (s : Nat) (hs : s < 1048576)
    (G : List AB) (B rr : Nat) (gB : G[B]? = some (.cells [.int .i64 a, .int .i64 b, .int .i64 k, .int .i64 l, .vs 2 (r.map spanE), .int .i64 mn, .vs 4 (bs.map boatE), .vs 3 (ls.map lookE)])) (L : List (Nat × AV)) (tc : List Nat) (pin : Nat) (hpin : pin ≤ rr) (hBr : B ≠ rr)
    (gR : G[rr]? = some (.cells (List.replicate (mn + 1) (.bool false))))
    (d : Nat) (hd : d ≤ r.length) (fp : Nat → Bool) (x7 : AV)
    (hrow : 0 < d → ∃ ob oc rb rc, x7 = .sl ob 0 d 1 ∧ ob ≠ rr ∧ rb ≠ rr ∧ G[ob]? = some (.cells oc) ∧ oc[d - 1]? = some (.sl rb 0 (mn + 1) 1) ∧ G[rb]? = some (.cells rc) ∧ ∀ i, i ≤ mn → rc[i]? = some (.bool (fp i)))
    (l1 : lk 162 L 1 = .int .i64 s) (l2 : lk 162 L 2 = .int .i64 lkv) (l3 : lk 162 L 3 = .ptr B 0) (l7 : lk 162 L 7 = x7) (l8 : lk 162 L 8 = .int .i64 d) (l9 : lk 162 L 9 = .sl rr 0 (mn + 1) 1) (l10 : lk 162 L 10 = .int .i64 0) :
    Does (ev C call pin none (atP [1, 1, 0, 1, 0, 0, 1, 0, 0, 1, 0, 1, 0] af95.body) { tm := tmA 162 L, df := [], hp := G, tc := tc })
      (fun e st => e = .exit 2 ∧ ∃ L', lk 162 L' 1 = .int .i64 s ∧ lk 162 L' 2 = .int .i64 lkv ∧ lk 162 L' 3 = .ptr B 0 ∧ lk 162 L' 7 = x7 ∧ lk 162 L' 8 = .int .i64 d ∧ lk 162 L' 9 = .sl rr 0 (mn + 1) 1 ∧
        st = { tm := tmA 162 L', df := [], hp := G.set rr (.cells (rowC mn (forB ⟨(a, b), (k, l), r, mn, bs, ls⟩ lkv s mn d fp) (mn + 1))), tc := tc }) := by
  have m100 : (mn : Int) ≤ 100 := V.m100
  have n8 : r.length ≤ 8 := V.n8
  have hfit := fun H (n : Int) => hF H a b k l mn r bs ls V.k5 s d n hs
  have hd4 := fun (n : Nat) (f0 : Bool) (v : AB) L => d4 C hC call hG a b k l mn r bs ls V lkv lk0 lk1 (G.set rr v) B (by rw [List.getElem?_set_ne (Ne.symm hBr)]; exact gB) L tc pin d n hd f0 fp (.int .i64 s) x7 (.sl rr 0 (mn + 1) 1) (fun h0 => by
    obtain ⟨ob, oc, rb, rc, h1, h2, h3, h4, h5, h6, h7⟩ := hrow h0
    exact ⟨ob, oc, rb, rc, h1, by rw [List.getElem?_set_ne (Ne.symm h2)]; exact h4, h5, by rw [List.getElem?_set_ne (Ne.symm h3)]; exact h6, h7⟩)
  simp only [af95, atP] at hd4
  have hFn : ∀ n : Nat, forB ⟨(a, b), (k, l), r, mn, bs, ls⟩ lkv s mn d fp n = ((((d == 0) && Cut.within n a b) || (decide (0 < d) && fromB ⟨(a, b), (k, l), r, mn, bs, ls⟩ lkv (d - 1) n fp (mn + 1))) && looksB ⟨(a, b), (k, l), r, mn, bs, ls⟩ s d n) := fun n => rfl
  generalize hcd : (⟨(a, b), (k, l), r, mn, bs, ls⟩ : CutD) = c at *
  obtain ⟨nB, eB⟩ := List.getElem?_eq_some_iff.1 gB
  obtain ⟨nR, -⟩ := List.getElem?_eq_some_iff.1 gR
  have hBr' : ¬ rr = B := Ne.symm hBr
  have hBr'' : ¬ B = rr := hBr
  generalize forB c lkv s mn d fp = F at *
  simp only [af95, atP]
  refine does_loop (fun q st => ∃ (n : Nat), n + q = mn + 1 ∧ st = { tm := tmA 162 [(10, .int .i64 n), (9, .sl rr 0 (mn + 1) 1), (8, .int .i64 d), (7, x7), (3, .ptr B 0), (2, .int .i64 lkv), (1, .int .i64 s)], df := [], hp := G.set rr (.cells (rowC mn F n)), tc := tc }) (mn + 1) (by unfold fuelL; omega) ?_ ?_
  · refine ⟨0, by omega, ?_⟩
    simp only [gcC_calm hC]
    exact st_eq (by simp [keepT_tmA, lk_cons, *]) rfl (by rw [rowC_zero]; exact (set_same gR).symm) rfl
  · rintro q st ⟨n, hq, rfl⟩
    clear l1 l2 l3 l7 l8 l9 l10 hrow gR
    by_cases hn : n ≤ mn
    · have hw : IntKind.i64.wrap ((n : Int) + 1) = (n : Int) + 1 := wrap_in (by omega) (by omega)
      have hset := rowC_set mn F n hn
      have hlen := rowC_len mn F n
      have hn1 : n + 1 ≤ mn + 1 := by omega
      have hn2 : (n : Int) < (mn : Int) + 1 := by omega
      have hn3 : n < mn + 1 := by omega
      have hpin' : ¬ rr < pin := by omega
      have hFn' := hFn n
      have HQ := hideP hq
      have HF := hideP hfit
      have HD := hideP hd4
      unfold InC at hI
      generalize hf0 : ((d == 0) && Cut.within n a b) = f0 at hFn'
      generalize hfr : (f0 || (decide (0 < d) && fromB c lkv (d - 1) n fp (mn + 1))) = fr at hFn'
      generalize rowC mn F n = rw0 at *
      have HFR := hideP hfr
      clear hfit hd4 hF hG V hcd hFn hq m100 hfr
      by_cases hd0 : d = 0
      · have hdi : ((d : Int) == 0) = true := beq_iff_eq.2 (by omega)
        have hw0 : Cut.within n a b = f0 := by rw [← hf0, hd0]; rfl
        clear hf0 hd0
        (repeat (first | (with_reducible apply ops_cons; (focus ((conv => lhs; simp [ev1, wantG, spineK, spine, float, xnew, xval, xeff, val_tmA_cons, val_tmA_nil, val_val, putT_some, putT_none, addFl, cellsOf, pickC, alive, slLen, slFt, binI, maxA, maxK, minA, minK, aeqK, aeqS, AV.cells, slCells_sl, boatE, spanE, lookE, fillA, setAt, bitsI, nat_nn, AV.plain, apart, Nat.testBit_eq_decide_div_mod_eq, *]) <;> exact rfl)); simp only [addFl]) | ((first | with_reducible refine does_seq ?_ | with_reducible refine does_ops ?_ | with_reducible refine does_draw ?_ | with_reducible refine does_skip ?_ | with_reducible refine does_block ?_ | with_reducible refine does_ret ?_ | with_reducible refine does_exit ?_ | with_reducible refine ops_nil ?_ | (with_reducible apply does_true; (focus (simp [val_tmA_cons, *]; done))) | (with_reducible apply does_false; (focus (simp [val_tmA_cons, *]; done)))); try simp only [Then, Ops, OutB, reduceIte])))
        refine Does.mono (HD.out n f0 _ _ ?_ ?_ ?_ ?_ ?_ ?_ ?_ ?_ ?_) ?_
        iterate 9 (focus (simp [lk_cons]; done))
        rintro e1 st ⟨rfl, L', k1, k2, k3, k7, k8, k9, k10, k11, rfl⟩
        rw [HFR.out] at k11
        have u1 := fun C => (lk_val C 162 L' 1).trans k1
        have u3 := fun C => (lk_val C 162 L' 3).trans k3
        have u8 := fun C => (lk_val C 162 L' 8).trans k8
        have u9 := fun C => (lk_val C 162 L' 9).trans k9
        have u10 := fun C => (lk_val C 162 L' 10).trans k10
        have u11 := fun C => (lk_val C 162 L' 11).trans k11
        have h1 := fun H => HF.out H n
        simp only [OutB, Then, reduceIte]
        cases fr with
        | false =>
          rw [show F n = false from hFn'] at hset
          (repeat (first | (with_reducible apply ops_cons; (focus ((conv => lhs; simp [ev1, wantG, spineK, spine, float, xnew, xval, xeff, val_tmA_cons, val_tmA_nil, val_val, putT_some, putT_none, addFl, cellsOf, pickC, alive, slLen, slFt, binI, maxA, maxK, minA, minK, aeqK, aeqS, AV.cells, slCells_sl, boatE, spanE, lookE, fillA, setAt, bitsI, nat_nn, AV.plain, apart, Nat.testBit_eq_decide_div_mod_eq, *]) <;> exact rfl)); simp only [addFl]) | ((first | with_reducible refine does_seq ?_ | with_reducible refine does_ops ?_ | with_reducible refine does_draw ?_ | with_reducible refine does_skip ?_ | with_reducible refine does_block ?_ | with_reducible refine does_ret ?_ | with_reducible refine does_exit ?_ | with_reducible refine ops_nil ?_ | (with_reducible apply does_true; (focus (simp [val_tmA_cons, *]; done))) | (with_reducible apply does_false; (focus (simp [val_tmA_cons, *]; done)))); try simp only [Then, Ops, OutB, reduceIte])))
          have hq := HQ.out
          refine ⟨q - 1, by omega, n + 1, by omega, ?_⟩
          simp only [gcC_calm hC]
          exact st_eq (by simp [keepT_tmA, lk_cons, *]) rfl rfl (by simp)
        | true =>
          have hFl : looksB c s d n = F n := by rw [hFn']; rfl
          clear hFn'
          (repeat (first | (with_reducible apply ops_cons; (focus ((conv => lhs; simp [ev1, wantG, spineK, spine, float, xnew, xval, xeff, val_tmA_cons, val_tmA_nil, val_val, putT_some, putT_none, addFl, cellsOf, pickC, alive, slLen, slFt, binI, maxA, maxK, minA, minK, aeqK, aeqS, AV.cells, slCells_sl, boatE, spanE, lookE, fillA, setAt, bitsI, nat_nn, AV.plain, apart, Nat.testBit_eq_decide_div_mod_eq, *]) <;> exact rfl)); simp only [addFl]) | ((first | with_reducible refine does_seq ?_ | with_reducible refine does_ops ?_ | with_reducible refine does_draw ?_ | with_reducible refine does_skip ?_ | with_reducible refine does_block ?_ | with_reducible refine does_ret ?_ | with_reducible refine does_exit ?_ | with_reducible refine ops_nil ?_ | (with_reducible apply does_true; (focus (simp [val_tmA_cons, *]; done))) | (with_reducible apply does_false; (focus (simp [val_tmA_cons, *]; done)))); try simp only [Then, Ops, OutB, reduceIte])))
          have hq := HQ.out
          refine ⟨q - 1, by omega, n + 1, by omega, ?_⟩
          simp only [gcC_calm hC]
          exact st_eq (by simp [keepT_tmA, lk_cons, *]) rfl rfl (by simp)
      · have hdi : ((d : Int) == 0) = false := beq_eq_false_iff_ne.2 (by omega)
        obtain rfl : f0 = false := by rw [← hf0, beq_eq_false_iff_ne.2 hd0]; rfl
        clear hf0
        (repeat (first | (with_reducible apply ops_cons; (focus ((conv => lhs; simp [ev1, wantG, spineK, spine, float, xnew, xval, xeff, val_tmA_cons, val_tmA_nil, val_val, putT_some, putT_none, addFl, cellsOf, pickC, alive, slLen, slFt, binI, maxA, maxK, minA, minK, aeqK, aeqS, AV.cells, slCells_sl, boatE, spanE, lookE, fillA, setAt, bitsI, nat_nn, AV.plain, apart, Nat.testBit_eq_decide_div_mod_eq, *]) <;> exact rfl)); simp only [addFl]) | ((first | with_reducible refine does_seq ?_ | with_reducible refine does_ops ?_ | with_reducible refine does_draw ?_ | with_reducible refine does_skip ?_ | with_reducible refine does_block ?_ | with_reducible refine does_ret ?_ | with_reducible refine does_exit ?_ | with_reducible refine ops_nil ?_ | (with_reducible apply does_true; (focus (simp [val_tmA_cons, *]; done))) | (with_reducible apply does_false; (focus (simp [val_tmA_cons, *]; done)))); try simp only [Then, Ops, OutB, reduceIte])))
        refine Does.mono (HD.out n false _ _ ?_ ?_ ?_ ?_ ?_ ?_ ?_ ?_ ?_) ?_
        iterate 9 (focus (simp [lk_cons]; done))
        rintro e1 st ⟨rfl, L', k1, k2, k3, k7, k8, k9, k10, k11, rfl⟩
        rw [HFR.out] at k11
        have u1 := fun C => (lk_val C 162 L' 1).trans k1
        have u3 := fun C => (lk_val C 162 L' 3).trans k3
        have u8 := fun C => (lk_val C 162 L' 8).trans k8
        have u9 := fun C => (lk_val C 162 L' 9).trans k9
        have u10 := fun C => (lk_val C 162 L' 10).trans k10
        have u11 := fun C => (lk_val C 162 L' 11).trans k11
        have h1 := fun H => HF.out H n
        simp only [OutB, Then, reduceIte]
        cases fr with
        | false =>
          rw [show F n = false from hFn'] at hset
          (repeat (first | (with_reducible apply ops_cons; (focus ((conv => lhs; simp [ev1, wantG, spineK, spine, float, xnew, xval, xeff, val_tmA_cons, val_tmA_nil, val_val, putT_some, putT_none, addFl, cellsOf, pickC, alive, slLen, slFt, binI, maxA, maxK, minA, minK, aeqK, aeqS, AV.cells, slCells_sl, boatE, spanE, lookE, fillA, setAt, bitsI, nat_nn, AV.plain, apart, Nat.testBit_eq_decide_div_mod_eq, *]) <;> exact rfl)); simp only [addFl]) | ((first | with_reducible refine does_seq ?_ | with_reducible refine does_ops ?_ | with_reducible refine does_draw ?_ | with_reducible refine does_skip ?_ | with_reducible refine does_block ?_ | with_reducible refine does_ret ?_ | with_reducible refine does_exit ?_ | with_reducible refine ops_nil ?_ | (with_reducible apply does_true; (focus (simp [val_tmA_cons, *]; done))) | (with_reducible apply does_false; (focus (simp [val_tmA_cons, *]; done)))); try simp only [Then, Ops, OutB, reduceIte])))
          have hq := HQ.out
          refine ⟨q - 1, by omega, n + 1, by omega, ?_⟩
          simp only [gcC_calm hC]
          exact st_eq (by simp [keepT_tmA, lk_cons, *]) rfl rfl (by simp)
        | true =>
          have hFl : looksB c s d n = F n := by rw [hFn']; rfl
          clear hFn'
          (repeat (first | (with_reducible apply ops_cons; (focus ((conv => lhs; simp [ev1, wantG, spineK, spine, float, xnew, xval, xeff, val_tmA_cons, val_tmA_nil, val_val, putT_some, putT_none, addFl, cellsOf, pickC, alive, slLen, slFt, binI, maxA, maxK, minA, minK, aeqK, aeqS, AV.cells, slCells_sl, boatE, spanE, lookE, fillA, setAt, bitsI, nat_nn, AV.plain, apart, Nat.testBit_eq_decide_div_mod_eq, *]) <;> exact rfl)); simp only [addFl]) | ((first | with_reducible refine does_seq ?_ | with_reducible refine does_ops ?_ | with_reducible refine does_draw ?_ | with_reducible refine does_skip ?_ | with_reducible refine does_block ?_ | with_reducible refine does_ret ?_ | with_reducible refine does_exit ?_ | with_reducible refine ops_nil ?_ | (with_reducible apply does_true; (focus (simp [val_tmA_cons, *]; done))) | (with_reducible apply does_false; (focus (simp [val_tmA_cons, *]; done)))); try simp only [Then, Ops, OutB, reduceIte])))
          have hq := HQ.out
          refine ⟨q - 1, by omega, n + 1, by omega, ?_⟩
          simp only [gcC_calm hC]
          exact st_eq (by simp [keepT_tmA, lk_cons, *]) rfl rfl (by simp)
    · obtain rfl : n = mn + 1 := by omega
      have hx : ¬ ((mn : Int) + 1 ≤ mn) := by omega
      clear hfit hd4 hFn hq hI hF hG V
      (repeat (first | (with_reducible apply ops_cons; (focus ((conv => lhs; simp [ev1, wantG, spineK, spine, float, xnew, xval, xeff, val_tmA_cons, val_tmA_nil, val_val, putT_some, putT_none, addFl, cellsOf, pickC, alive, slLen, slFt, binI, maxA, maxK, minA, minK, aeqK, aeqS, AV.cells, slCells_sl, boatE, spanE, lookE, fillA, setAt, bitsI, nat_nn, AV.plain, apart, Nat.testBit_eq_decide_div_mod_eq, *]) <;> exact rfl)); simp only [addFl]) | ((first | with_reducible refine does_seq ?_ | with_reducible refine does_ops ?_ | with_reducible refine does_draw ?_ | with_reducible refine does_skip ?_ | with_reducible refine does_block ?_ | with_reducible refine does_ret ?_ | with_reducible refine does_exit ?_ | with_reducible refine ops_nil ?_ | (with_reducible apply does_true; (focus (simp [val_tmA_cons, *]; done))) | (with_reducible apply does_false; (focus (simp [val_tmA_cons, *]; done)))); try simp only [Then, Ops, OutB, reduceIte])))
      refine ⟨by first | trivial | rfl, ?_⟩
      apply Exists.intro
      refine ⟨?_, ?_, ?_, ?_, ?_, ?_, rfl⟩ <;> simp [lk_cons]
end R
end Ev
end Go.Proofs.YtlkhjnpflohfeaaDoor

/- The reference of chapter 06, gone through: the depths of all days, forwards. -/
namespace Go.Proofs.YtlkhjnpflohfeaaDoor
open Go
namespace Ev
namespace R
set_option maxRecDepth 100000
theorem get_app' {H K : List AB} {i : Nat} {x : AB} (h : H[i]? = some x) : (H ++ K)[i]? = some x := by
  rw [List.getElem?_append_left (List.getElem?_eq_some_iff.1 h).1]; exact h
/-- Rows of a table, and where they lie. -/
structure Rows (G : List AB) (W ob n mn : Nat) (rb : Nat → Nat) (f : Nat → Nat → Bool) : Prop where
  out : G[ob]? = some (.cells ((List.range n).map fun d => .sl (rb d) 0 (mn + 1) 1))
  row : ∀ d, d < n → G[rb d]? = some (.cells ((List.range (mn + 1)).map fun i => .bool (f d i)))
  inj : ∀ d e, d < n → e < n → rb d = rb e → d = e
  ne : ∀ d, d < n → rb d ≠ ob ∧ W ≤ rb d
  low : W ≤ ob
/-- A heap that begins so. -/
def Pre (Hp G : List AB) : Prop := ∃ T, G = Hp ++ T
theorem Pre.app {Hp G : List AB} (h : Pre Hp G) (K : List AB) : Pre Hp (G ++ K) := by
  obtain ⟨T, rfl⟩ := h; exact ⟨T ++ K, by simp⟩
theorem Pre.set {Hp G : List AB} (h : Pre Hp G) {i : Nat} (hi : Hp.length ≤ i) (v : AB) : Pre Hp (G.set i v) := by
  obtain ⟨T, rfl⟩ := h
  exact ⟨T.set (i - Hp.length) v, by rw [List.set_append_right _ _ hi]⟩
theorem Pre.len {Hp G : List AB} (h : Pre Hp G) : Hp.length ≤ G.length := by
  obtain ⟨T, rfl⟩ := h; simp
theorem Pre.get {Hp G : List AB} (h : Pre Hp G) {i : Nat} {x : AB} (hi : Hp[i]? = some x) : G[i]? = some x := by
  obtain ⟨T, rfl⟩ := h
  rw [List.getElem?_append_left (List.getElem?_eq_some_iff.1 hi).1]; exact hi
/-- The depths of all days, forwards. -/
noncomputable def fwd (x : CutD) (lk : Int) (s mn : Nat) : Nat → Nat → Bool
  | 0 => forB x lk s mn 0 fun _ => false
  | d + 1 => forB x lk s mn (d + 1) (fwd x lk s mn d)
theorem fwd_eq (x : CutD) (lk : Int) (s mn d : Nat) : forB x lk s mn d (fwd x lk s mn (d - 1)) = fwd x lk s mn d := by
  cases d with
  | zero => funext i; unfold fwd forB; simp
  | succ d => rfl
theorem rows_next {G Hp : List AB} {ob d mn : Nat} {rb : Nat → Nat} {f : Nat → Nat → Bool} {row : List AV} {X : AB} (hP : Pre Hp G) (hf : row = (List.range (mn + 1)).map fun i => .bool (f d i)) (h : 0 < d → Rows G Hp.length ob d mn rb f) :
    Rows ((if d = 0 then G else G.set ob .dead) ++ [.cells row, X, .cells ((List.range d).map (fun e => AV.sl (rb e) 0 (mn + 1) 1) ++ [.sl G.length 0 (mn + 1) 1])]) Hp.length (G.length + 2) (d + 1) mn (fun e => if e = d then G.length else rb e) f := by
  have hl : (if d = 0 then G else G.set ob .dead).length = G.length := by split <;> simp
  have hlow := hP.len
  have hrb : ∀ e, e < d → rb e < G.length := fun e he => (List.getElem?_eq_some_iff.1 ((h (by omega)).row e he)).1
  refine ⟨?_, ?_, ?_, ?_, by omega⟩
  · rw [List.getElem?_append_right (by rw [hl]; omega), hl, show G.length + 2 - G.length = 2 by omega]
    simp only [List.getElem?_cons_succ, List.getElem?_cons_zero, List.range_succ, List.map_append, List.map_cons, List.map_nil, if_true]
    congr 3
    apply List.map_congr_left
    intro e he
    rw [List.mem_range] at he
    rw [if_neg (by omega)]
  · intro e he
    by_cases hed : e = d
    · subst hed
      simp only [if_true]
      rw [List.getElem?_append_right (by rw [hl]; omega), hl, Nat.sub_self, hf]; rfl
    · simp only [if_neg hed]
      have hr := (h (by omega)).row e (by omega)
      have hn := ((h (by omega)).ne e (by omega)).1
      rw [List.getElem?_append_left (by rw [hl]; exact hrb e (by omega)), if_neg (by omega), List.getElem?_set_ne (Ne.symm hn)]
      exact hr
  · intro e e' he he' hee
    by_cases h1 : e = d <;> by_cases h2 : e' = d
    · omega
    · simp only [if_pos h1, if_neg h2] at hee
      have := hrb e' (by omega); omega
    · simp only [if_pos h2, if_neg h1] at hee
      have := hrb e (by omega); omega
    · simp only [if_neg h1, if_neg h2] at hee
      exact (h (by omega)).inj e e' (by omega) (by omega) hee
  · intro e he
    by_cases hed : e = d
    · simp only [if_pos hed]; omega
    · simp only [if_neg hed]
      have := hrb e (by omega)
      have := (h (by omega)).ne e (by omega)
      omega
set_option maxHeartbeats 8000000 in
theorem d0 (C : Cfg) (hC : C.calm = true) (call : CallF) (hG : GoesC call) (hI : InC call) (hF : FitsC call) (a b k l : Int) (mn : Nat) (r : List (Int × Int)) (bs : List Boat) (ls : List Look) (V : Cut.Valid ⟨(a, b), (k, l), r, mn, bs, ls⟩) (lkv : Int) (lk0 : 0 ≤ lkv) (lk1 : lkv ≤ 10) (s : Nat) (hs : s < 1048576)
    (Hp G0 : List AB) (B : Nat) (hW : Hp.length = B + 1) (hB : Hp[B]? = some (.cells [.int .i64 a, .int .i64 b, .int .i64 k, .int .i64 l, .vs 2 (r.map spanE), .int .i64 mn, .vs 4 (bs.map boatE), .vs 3 (ls.map lookE)])) (hP : Pre Hp G0) (L : List (Nat × AV)) (tc : List Nat) (pin : Nat) (hpin : pin ≤ B)
    (l1 : lk 162 L 1 = .int .i64 s) (l2 : lk 162 L 2 = .int .i64 lkv) (l3 : lk 162 L 3 = .ptr B 0) (l7 : lk 162 L 7 = .nils) (l8 : lk 162 L 8 = .int .i64 0) :
    Does (ev C call pin none (atP [1, 1, 0, 1, 0] af95.body) { tm := tmA 162 L, df := [], hp := G0, tc := tc })
      (fun e st => e = .exit 0 ∧ ∃ L' G ob rb, lk 162 L' 2 = .int .i64 lkv ∧ lk 162 L' 3 = .ptr B 0 ∧ lk 162 L' 7 = .sl ob 0 (r.length + 1) 1 ∧ Pre Hp G ∧ Rows G Hp.length ob (r.length + 1) mn rb (fwd ⟨(a, b), (k, l), r, mn, bs, ls⟩ lkv s mn) ∧
        st = { tm := tmA 162 L', df := [], hp := G, tc := tc }) := by
  have m100 : (mn : Int) ≤ 100 := V.m100
  have n8 : r.length ≤ 8 := V.n8
  have hd2 := fun (G : List AB) (gB : G[B]? = some (.cells [.int .i64 a, .int .i64 b, .int .i64 k, .int .i64 l, .vs 2 (r.map spanE), .int .i64 mn, .vs 4 (bs.map boatE), .vs 3 (ls.map lookE)])) (rr : Nat) (h1 : B < rr) L (gR : G[rr]? = some (.cells (List.replicate (mn + 1) (.bool false)))) d hd fp x7 hrow =>
    d2 C hC call hG hI hF a b k l mn r bs ls V lkv lk0 lk1 s hs G B rr gB L tc pin (by omega) (by omega) gR d hd fp x7 hrow
  simp only [af95, atP] at hd2
  simp only [af95, atP]
  generalize hcd : (⟨(a, b), (k, l), r, mn, bs, ls⟩ : CutD) = c at *
  refine does_loop (fun q st => ∃ (d : Nat) (G : List AB) (ob : Nat) (rb : Nat → Nat) (x7 : AV), d + q = r.length + 1 ∧ Pre Hp G ∧ x7 = (if d = 0 then .nils else .sl ob 0 d 1) ∧ (0 < d → Rows G Hp.length ob d mn rb (fwd c lkv s mn)) ∧ st = { tm := tmA 162 [(8, .int .i64 d), (7, x7), (3, .ptr B 0), (2, .int .i64 lkv), (1, .int .i64 s)], df := [], hp := G, tc := tc }) (r.length + 1) (by unfold fuelL; omega) ?_ ?_
  · refine ⟨0, G0, 0, fun _ => 0, .nils, by omega, hP, rfl, fun h => by omega, ?_⟩
    simp only [gcC_calm hC]
    exact st_eq (by simp [keepT_tmA, lk_cons, *]) rfl rfl rfl
  · rintro q st ⟨d, G, ob, rb, x7, hq, hPG, hx7, hR, rfl⟩
    clear l1 l2 l3 l7 l8 hP
    have gB := hPG.get hB
    have hlen := hPG.len
    obtain ⟨nB, eB⟩ := List.getElem?_eq_some_iff.1 gB
    by_cases hd : d ≤ r.length
    · have gB' : ∀ K, (G ++ K)[B]? = some (.cells [.int .i64 a, .int .i64 b, .int .i64 k, .int .i64 l, .vs 2 (r.map spanE), .int .i64 mn, .vs 4 (bs.map boatE), .vs 3 (ls.map lookE)]) := fun K => by rw [List.getElem?_append_left nB]; exact gB
      have nB' : ∀ n, B < G.length + n := fun n => by omega
      have hw : IntKind.i64.wrap ((d : Int) + 1) = (d : Int) + 1 := wrap_in (by omega) (by omega)
      have hwm : IntKind.i64.wrap ((mn : Int) + 1) = (mn : Int) + 1 := wrap_in (by omega) (by omega)
      have hbm : (mn : Int) + 1 ≤ bound := by unfold bound; omega
      have hm0 : 0 ≤ (mn : Int) + 1 := by omega
      have HQ := hideP hq
      have HR := hideP hR
      have HP := hideP hPG
      have HX := hideP hx7
      have HD := hideP (hd2 (G ++ [.cells (List.replicate (mn + 1) (.bool false))]) (gB' _) G.length (by omega))
      have HL := hideP hlen
      clear hq hR hPG hx7 hd2 hlen V hcd hG hI hF m100
      (repeat (first | (with_reducible apply ops_cons; (focus ((conv => lhs; simp [ev1, wantG, spineK, spine, float, xnew, xval, xeff, val_tmA_cons, val_tmA_nil, val_val, putT_some, putT_none, addFl, cellsOf, pickC, alive, slLen, slFt, binI, maxA, maxK, minA, minK, aeqK, aeqS, AV.cells, slCells_sl, boatE, spanE, lookE, fillA, setAt, bitsI, nat_nn, AV.plain, apart, Nat.testBit_eq_decide_div_mod_eq, *]) <;> exact rfl)); simp only [addFl]) | ((first | with_reducible refine does_seq ?_ | with_reducible refine does_ops ?_ | with_reducible refine does_draw ?_ | with_reducible refine does_skip ?_ | with_reducible refine does_block ?_ | with_reducible refine does_ret ?_ | with_reducible refine does_exit ?_ | with_reducible refine ops_nil ?_ | (with_reducible apply does_true; (focus (simp [val_tmA_cons, *]; done))) | (with_reducible apply does_false; (focus (simp [val_tmA_cons, *]; done)))); try simp only [Then, Ops, OutB, reduceIte])))
      refine Does.mono (HD.out _ (by simp) d hd (fwd c lkv s mn (d - 1)) x7 (fun h0 => ?_) ?_ ?_ ?_ ?_ ?_ ?_ ?_) ?_
      · have h := HR.out h0
        refine ⟨ob, ((List.range d).map fun d => .sl (rb d) 0 (mn + 1) 1), rb (d - 1), ((List.range (mn + 1)).map fun i => .bool (fwd c lkv s mn (d - 1) i)), by rw [HX.out, if_neg (by omega)], ?_, ?_, ?_, ?_, ?_, ?_⟩
        · have := (List.getElem?_eq_some_iff.1 h.out).1; omega
        · have := (List.getElem?_eq_some_iff.1 (h.row (d - 1) (by omega))).1; omega
        · exact get_app' h.out
        · rw [List.getElem?_map, List.getElem?_range (by omega)]; rfl
        · exact get_app' (h.row (d - 1) (by omega))
        · intro i hi
          rw [List.getElem?_map, List.getElem?_range (by omega)]; rfl
      iterate 7 (focus (simp [lk_cons]; done))
      rintro e1 st ⟨rfl, L', k1, k2, k3, k7, k8, k9, rfl⟩
      rw [fwd_eq, rowC_full]
      have hn := rows_next (X := .cells [.sl G.length 0 (mn + 1) 1]) (f := fwd c lkv s mn) HP.out rfl HR.out
      have u1 := fun C => (lk_val C 162 L' 1).trans k1
      have u3 := fun C => (lk_val C 162 L' 3).trans k3
      have u7 := fun C => (lk_val C 162 L' 7).trans k7
      have u8 := fun C => (lk_val C 162 L' 8).trans k8
      have u9 := fun C => (lk_val C 162 L' 9).trans k9
      simp only [app_set0, List.set_cons_zero, OutB, Then, reduceIte]
      generalize ((List.range (mn + 1)).map fun i => AV.bool (fwd c lkv s mn d i)) = row at *
      have HN := hideP hn
      clear hn gB gB' nB' eB nB
      have hb1 : 1 ≤ bound := by decide
      have hx7 := HX.out
      by_cases hd0 : d = 0
      · rw [if_pos hd0] at hx7
        subst hx7
        have hw0 : IntKind.i64.wrap 1 = 1 := by decide
        (repeat (first | (with_reducible apply ops_cons; (focus ((conv => lhs; simp [ev1, wantG, spineK, spine, float, xnew, xval, xeff, val_tmA_cons, val_tmA_nil, val_val, putT_some, putT_none, addFl, cellsOf, pickC, alive, slLen, slFt, binI, maxA, maxK, minA, minK, aeqK, aeqS, AV.cells, slCells_sl, boatE, spanE, lookE, fillA, setAt, bitsI, nat_nn, AV.plain, apart, Nat.testBit_eq_decide_div_mod_eq, *]) <;> exact rfl)); simp only [addFl]) | ((first | with_reducible refine does_seq ?_ | with_reducible refine does_ops ?_ | with_reducible refine does_draw ?_ | with_reducible refine does_skip ?_ | with_reducible refine does_block ?_ | with_reducible refine does_ret ?_ | with_reducible refine does_exit ?_ | with_reducible refine ops_nil ?_ | (with_reducible apply does_true; (focus (simp [val_tmA_cons, *]; done))) | (with_reducible apply does_false; (focus (simp [val_tmA_cons, *]; done)))); try simp only [Then, Ops, OutB, reduceIte])))
        have hq := HQ.out
        refine ⟨q - 1, by omega, d + 1, G ++ [.cells row, .cells [.sl G.length 0 (mn + 1) 1], .cells [.sl G.length 0 (mn + 1) 1]], G.length + 2, fun e => if e = d then G.length else rb e, .sl (G.length + 2) 0 (d + 1) 1, by omega, HP.out.app _, by rw [if_neg (by omega)], fun _ => ?_, ?_⟩
        · have := HN.out
          rw [if_pos hd0] at this
          subst hd0
          exact this
        · simp only [gcC_calm hC]
          subst hd0
          exact st_eq (by simp [keepT_tmA, lk_cons, *]) rfl rfl rfl
      · rw [if_neg hd0] at hx7
        subst hx7
        have hR := HR.out (by omega)
        have gO := hR.out
        have hol : ((List.range d).map fun e => AV.sl (rb e) 0 (mn + 1) 1).length = d := by simp
        obtain ⟨nO, -⟩ := List.getElem?_eq_some_iff.1 gO
        have hlow := hR.low
        have hpo : ¬ ob < pin := by omega
        clear hR
        generalize hoc : ((List.range d).map fun e => AV.sl (rb e) 0 (mn + 1) 1) = oc at gO hol
        have gO' := fun K => get_app' (K := K) gO
        have nO' : ∀ n, ob < G.length + n := fun n => by omega
        have eO' : ∀ K (h : ob < (G ++ K).length), (G ++ K)[ob]'h = .cells oc := fun K h => by
          have := gO' K
          rw [List.getElem?_eq_getElem h] at this; exact Option.some.inj this
        have sO : ∀ K v, (G ++ K).set ob v = G.set ob v ++ K := fun K v => List.set_append_left _ _ nO
        have hbd : d + 1 ≤ bound := by unfold bound; omega
        have HO := hideP (And.intro hoc hlow)
        clear hoc hlow gO nO
        (repeat (first | (with_reducible apply ops_cons; (focus ((conv => lhs; simp [ev1, wantG, spineK, spine, float, xnew, xval, xeff, val_tmA_cons, val_tmA_nil, val_val, putT_some, putT_none, addFl, cellsOf, pickC, alive, slLen, slFt, binI, maxA, maxK, minA, minK, aeqK, aeqS, AV.cells, slCells_sl, boatE, spanE, lookE, fillA, setAt, bitsI, nat_nn, AV.plain, apart, Nat.testBit_eq_decide_div_mod_eq, *]) <;> exact rfl)); simp only [addFl]) | ((first | with_reducible refine does_seq ?_ | with_reducible refine does_ops ?_ | with_reducible refine does_draw ?_ | with_reducible refine does_skip ?_ | with_reducible refine does_block ?_ | with_reducible refine does_ret ?_ | with_reducible refine does_exit ?_ | with_reducible refine ops_nil ?_ | (with_reducible apply does_true; (focus (simp [val_tmA_cons, *]; done))) | (with_reducible apply does_false; (focus (simp [val_tmA_cons, *]; done)))); try simp only [Then, Ops, OutB, reduceIte])))
        have hq := HQ.out
        refine ⟨q - 1, by omega, d + 1, G.set ob .dead ++ [.cells row, .cells [.sl G.length 0 (mn + 1) 1], .cells (oc ++ [.sl G.length 0 (mn + 1) 1])], G.length + 2, fun e => if e = d then G.length else rb e, .sl (G.length + 2) 0 (d + 1) 1, by omega, (HP.out.set (by have := HO.out.2; omega) _).app _, by rw [if_neg (by omega)], fun _ => ?_, ?_⟩
        · have := HN.out
          rw [if_neg hd0, HO.out.1] at this
          exact this
        · simp only [gcC_calm hC]
          exact st_eq (by simp [keepT_tmA, lk_cons, *]) rfl (by simp) rfl
    · obtain rfl : d = r.length + 1 := by omega
      have hx : ¬ ((r.length : Int) + 1 ≤ r.length) := by omega
      rw [if_neg (by omega)] at hx7
      subst hx7
      have hR' := hR (by omega)
      have HR := hideP hR'
      clear hR hR' hd2 V hcd hG hI hF hq hd
      (repeat (first | (with_reducible apply ops_cons; (focus ((conv => lhs; simp [ev1, wantG, spineK, spine, float, xnew, xval, xeff, val_tmA_cons, val_tmA_nil, val_val, putT_some, putT_none, addFl, cellsOf, pickC, alive, slLen, slFt, binI, maxA, maxK, minA, minK, aeqK, aeqS, AV.cells, slCells_sl, boatE, spanE, lookE, fillA, setAt, bitsI, nat_nn, AV.plain, apart, Nat.testBit_eq_decide_div_mod_eq, *]) <;> exact rfl)); simp only [addFl]) | ((first | with_reducible refine does_seq ?_ | with_reducible refine does_ops ?_ | with_reducible refine does_draw ?_ | with_reducible refine does_skip ?_ | with_reducible refine does_block ?_ | with_reducible refine does_ret ?_ | with_reducible refine does_exit ?_ | with_reducible refine ops_nil ?_ | (with_reducible apply does_true; (focus (simp [val_tmA_cons, *]; done))) | (with_reducible apply does_false; (focus (simp [val_tmA_cons, *]; done)))); try simp only [Then, Ops, OutB, reduceIte])))
      refine ⟨by first | trivial | rfl, ?_⟩
      apply Exists.intro
      refine ⟨G, ob, rb, ?_, ?_, ?_, hPG, HR.out, rfl⟩ <;> simp [lk_cons]
end R
end Ev
end Go.Proofs.YtlkhjnpflohfeaaDoor

/- The reference of chapter 06, gone through: the depths of a day, by those of the day after. -/
namespace Go.Proofs.YtlkhjnpflohfeaaDoor
open Go
namespace Ev
namespace R
set_option maxRecDepth 100000
/-- The cells of a row that is turned up to n. -/
def mixC (mn : Nat) (F O : Nat → Bool) (n : Nat) : List AV := (List.range (mn + 1)).map fun i => .bool (if i < n then F i else O i)
theorem mixC_len (mn : Nat) (F O : Nat → Bool) (n : Nat) : (mixC mn F O n).length = mn + 1 := by simp [mixC]
theorem mixC_get (mn : Nat) (F O : Nat → Bool) (n i : Nat) (h : i ≤ mn) : (mixC mn F O n)[i]? = some (.bool (if i < n then F i else O i)) := by
  unfold mixC
  rw [List.getElem?_map, List.getElem?_range (by omega)]; rfl
theorem mixC_set (mn : Nat) (F O : Nat → Bool) (n : Nat) (h : n ≤ mn) : (mixC mn F O n).take n ++ .bool (F n) :: (mixC mn F O n).drop (n + 1) = mixC mn F O (n + 1) := by
  have e : (mixC mn F O n).take n ++ .bool (F n) :: (mixC mn F O n).drop (n + 1) = (mixC mn F O n).set n (.bool (F n)) := by
    rw [List.set_eq_take_append_cons_drop, if_pos (by rw [mixC_len]; omega)]
  rw [e]
  apply List.ext_getElem?
  intro i
  by_cases hi : i ≤ mn
  · rw [mixC_get mn F O (n + 1) i hi]
    by_cases hin : n = i
    · subst hin
      rw [List.getElem?_set_self (by rw [mixC_len]; omega), if_pos (by omega)]
    · rw [List.getElem?_set_ne hin, mixC_get mn F O n i hi]
      by_cases h1 : i < n
      · rw [if_pos h1, if_pos (by omega)]
      · rw [if_neg h1, if_neg (by omega)]
  · rw [List.getElem?_eq_none (by simp [mixC_len]; omega), List.getElem?_eq_none (by simp [mixC_len]; omega)]
theorem mixC_full (mn : Nat) (F O : Nat → Bool) : mixC mn F O (mn + 1) = (List.range (mn + 1)).map fun i => .bool (F i) := by
  unfold mixC
  apply List.map_congr_left
  intro i hi
  rw [List.mem_range] at hi
  rw [if_pos hi]
theorem mixC_zero (mn : Nat) (F O : Nat → Bool) : mixC mn F O 0 = (List.range (mn + 1)).map fun i => .bool (O i) := by
  unfold mixC
  apply List.map_congr_left
  intro i hi
  rw [if_neg (by omega)]
/-- Whether a depth can be, on a day, by those of the day after. -/
noncomputable def bakB (x : CutD) (lk : Int) (mn d : Nat) (fa fn : Nat → Bool) (u : Nat) : Bool := fa u && ontoB x lk d u fn (mn + 1)
set_option maxHeartbeats 8000000 in
theorem d8 (C : Cfg) (hC : C.calm = true) (call : CallF) (hG : GoesC call) (a b k l : Int) (mn : Nat) (r : List (Int × Int)) (bs : List Boat) (ls : List Look) (V : Cut.Valid ⟨(a, b), (k, l), r, mn, bs, ls⟩) (lkv : Int) (lk0 : 0 ≤ lkv) (lk1 : lkv ≤ 10)
    (G : List AB) (B rr : Nat) (gB : G[B]? = some (.cells [.int .i64 a, .int .i64 b, .int .i64 k, .int .i64 l, .vs 2 (r.map spanE), .int .i64 mn, .vs 4 (bs.map boatE), .vs 3 (ls.map lookE)])) (L : List (Nat × AV)) (tc : List Nat) (pin : Nat) (hpin : pin ≤ rr)
    (d : Nat) (hd : d < r.length) (fa fn : Nat → Bool) (ob rb : Nat) (oc bc : List AV) (hBr : B ≠ rr) (hOr : ob ≠ rr) (hSr : rb ≠ rr)
    (gO : G[ob]? = some (.cells oc)) (ho1 : oc[d]? = some (.sl rr 0 (mn + 1) 1)) (ho2 : oc[d + 1]? = some (.sl rb 0 (mn + 1) 1)) (gR : G[rr]? = some (.cells ((List.range (mn + 1)).map fun i => .bool (fa i)))) (gS : G[rb]? = some (.cells bc)) (hbc : ∀ i, i ≤ mn → bc[i]? = some (.bool (fn i)))
    (l2 : lk 162 L 2 = .int .i64 lkv) (l3 : lk 162 L 3 = .ptr B 0) (l7 : lk 162 L 7 = .sl ob 0 (r.length + 1) 1) (l13 : lk 162 L 13 = .int .i64 d) (l14 : lk 162 L 14 = .int .i64 0) :
    Does (ev C call pin none (atP [1, 1, 1, 0, 1, 0, 0, 1, 0, 0, 1, 0] af95.body) { tm := tmA 162 L, df := [], hp := G, tc := tc })
      (fun e st => e = .exit 8 ∧ ∃ L', lk 162 L' 2 = .int .i64 lkv ∧ lk 162 L' 3 = .ptr B 0 ∧ lk 162 L' 7 = .sl ob 0 (r.length + 1) 1 ∧ lk 162 L' 13 = .int .i64 d ∧
        st = { tm := tmA 162 L', df := [], hp := G.set rr (.cells ((List.range (mn + 1)).map fun i => .bool (bakB ⟨(a, b), (k, l), r, mn, bs, ls⟩ lkv mn d fa fn i))), tc := tc }) := by
  have m100 : (mn : Int) ≤ 100 := V.m100
  have n8 : r.length ≤ 8 := V.n8
  obtain ⟨nB, eB⟩ := List.getElem?_eq_some_iff.1 gB
  obtain ⟨nO, eO⟩ := List.getElem?_eq_some_iff.1 gO
  obtain ⟨nR, -⟩ := List.getElem?_eq_some_iff.1 gR
  have h10 := fun (u : Nat) (hu : u ≤ mn) (ac : List AV) (hac : ac[u]? = some (.bool (fa u))) L => d10 C hC call hG a b k l mn r bs ls V lkv lk0 lk1 (G.set rr (.cells ac)) B (by rw [List.getElem?_set_ne (Ne.symm hBr)]; exact gB) L tc pin d u hd hu (fa u) fn ob rr rb oc ac bc
    (by rw [List.getElem?_set_ne (Ne.symm hOr)]; exact gO) ho1 ho2 (List.getElem?_set_self nR) hac (by rw [List.getElem?_set_ne (Ne.symm hSr)]; exact gS) hbc
  simp only [af95, atP] at h10
  have hFn : ∀ u : Nat, bakB ⟨(a, b), (k, l), r, mn, bs, ls⟩ lkv mn d fa fn u = (fa u && ontoB ⟨(a, b), (k, l), r, mn, bs, ls⟩ lkv d u fn (mn + 1)) := fun u => rfl
  generalize hcd : (⟨(a, b), (k, l), r, mn, bs, ls⟩ : CutD) = c at *
  have hBr' : ¬ rr = B := Ne.symm hBr
  have hBr'' : ¬ B = rr := hBr
  have hOr' : ¬ rr = ob := Ne.symm hOr
  have hOr'' : ¬ ob = rr := hOr
  generalize bakB c lkv mn d fa fn = F at *
  simp only [af95, atP]
  refine does_loop (fun q st => ∃ (n : Nat), n + q = mn + 1 ∧ st = { tm := tmA 162 [(14, .int .i64 n), (13, .int .i64 d), (7, .sl ob 0 (r.length + 1) 1), (3, .ptr B 0), (2, .int .i64 lkv)], df := [], hp := G.set rr (.cells (mixC mn F fa n)), tc := tc }) (mn + 1) (by unfold fuelL; omega) ?_ ?_
  · refine ⟨0, by omega, ?_⟩
    simp only [gcC_calm hC]
    exact st_eq (by simp [keepT_tmA, lk_cons, *]) rfl (by rw [mixC_zero]; exact (set_same gR).symm) rfl
  · rintro q st ⟨n, hq, rfl⟩
    clear l2 l3 l7 l13 l14 gR
    by_cases hn : n ≤ mn
    · have hw : IntKind.i64.wrap ((n : Int) + 1) = (n : Int) + 1 := wrap_in (by omega) (by omega)
      have hset := mixC_set mn F fa n hn
      have hlen := mixC_len mn F fa n
      have hn1 : n + 1 ≤ mn + 1 := by omega
      have hn2 : (n : Int) < (mn : Int) + 1 := by omega
      have hn3 : n < mn + 1 := by omega
      have hd2 : (d : Int) < (r.length : Int) + 1 := by omega
      have hpin' : ¬ rr < pin := by omega
      have hac : (mixC mn F fa n)[n]? = some (.bool (fa n)) := by rw [mixC_get mn F fa n n hn, if_neg (by omega)]
      have HD := hideP (h10 n hn _ hac)
      have HQ := hideP (And.intro hq (hFn n))
      generalize mixC mn F fa n = rw0 at *
      clear h10 hFn hq hG V hcd m100 hac hbc ho2 gS
      (repeat (first | (with_reducible apply ops_cons; (focus ((conv => lhs; simp [ev1, wantG, spineK, spine, float, xnew, xval, xeff, val_tmA_cons, val_tmA_nil, val_val, putT_some, putT_none, addFl, cellsOf, pickC, alive, slLen, slFt, binI, maxA, maxK, minA, minK, aeqK, aeqS, AV.cells, slCells_sl, boatE, spanE, lookE, fillA, setAt, bitsI, nat_nn, AV.plain, apart, Nat.testBit_eq_decide_div_mod_eq, *]) <;> exact rfl)); simp only [addFl]) | ((first | with_reducible refine does_seq ?_ | with_reducible refine does_ops ?_ | with_reducible refine does_draw ?_ | with_reducible refine does_skip ?_ | with_reducible refine does_block ?_ | with_reducible refine does_ret ?_ | with_reducible refine does_exit ?_ | with_reducible refine ops_nil ?_ | (with_reducible apply does_true; (focus (simp [val_tmA_cons, *]; done))) | (with_reducible apply does_false; (focus (simp [val_tmA_cons, *]; done)))); try simp only [Then, Ops, OutB, reduceIte])))
      refine Does.mono (HD.out _ ?_ ?_ ?_ ?_ ?_ ?_ ?_) ?_
      iterate 7 (focus (simp [lk_cons]; done))
      rintro e1 st ⟨rfl, L', k2, k3, k7, k13, k14, k15, rfl⟩
      rw [← HQ.out.2] at k15
      have u7 := fun C => (lk_val C 162 L' 7).trans k7
      have u13 := fun C => (lk_val C 162 L' 13).trans k13
      have u14 := fun C => (lk_val C 162 L' 14).trans k14
      have u15 := fun C => (lk_val C 162 L' 15).trans k15
      simp only [OutB, Then, reduceIte]
      (repeat (first | (with_reducible apply ops_cons; (focus ((conv => lhs; simp [ev1, wantG, spineK, spine, float, xnew, xval, xeff, val_tmA_cons, val_tmA_nil, val_val, putT_some, putT_none, addFl, cellsOf, pickC, alive, slLen, slFt, binI, maxA, maxK, minA, minK, aeqK, aeqS, AV.cells, slCells_sl, boatE, spanE, lookE, fillA, setAt, bitsI, nat_nn, AV.plain, apart, Nat.testBit_eq_decide_div_mod_eq, *]) <;> exact rfl)); simp only [addFl]) | ((first | with_reducible refine does_seq ?_ | with_reducible refine does_ops ?_ | with_reducible refine does_draw ?_ | with_reducible refine does_skip ?_ | with_reducible refine does_block ?_ | with_reducible refine does_ret ?_ | with_reducible refine does_exit ?_ | with_reducible refine ops_nil ?_ | (with_reducible apply does_true; (focus (simp [val_tmA_cons, *]; done))) | (with_reducible apply does_false; (focus (simp [val_tmA_cons, *]; done)))); try simp only [Then, Ops, OutB, reduceIte])))
      have hq := HQ.out.1
      refine ⟨q - 1, by omega, n + 1, by omega, ?_⟩
      simp only [gcC_calm hC]
      exact st_eq (by simp [keepT_tmA, lk_cons, *]) rfl (by simp) rfl
    · obtain rfl : n = mn + 1 := by omega
      have hx : ¬ ((mn : Int) + 1 ≤ mn) := by omega
      rw [mixC_full]
      clear h10 hFn hq hG V hbc
      (repeat (first | (with_reducible apply ops_cons; (focus ((conv => lhs; simp [ev1, wantG, spineK, spine, float, xnew, xval, xeff, val_tmA_cons, val_tmA_nil, val_val, putT_some, putT_none, addFl, cellsOf, pickC, alive, slLen, slFt, binI, maxA, maxK, minA, minK, aeqK, aeqS, AV.cells, slCells_sl, boatE, spanE, lookE, fillA, setAt, bitsI, nat_nn, AV.plain, apart, Nat.testBit_eq_decide_div_mod_eq, *]) <;> exact rfl)); simp only [addFl]) | ((first | with_reducible refine does_seq ?_ | with_reducible refine does_ops ?_ | with_reducible refine does_draw ?_ | with_reducible refine does_skip ?_ | with_reducible refine does_block ?_ | with_reducible refine does_ret ?_ | with_reducible refine does_exit ?_ | with_reducible refine ops_nil ?_ | (with_reducible apply does_true; (focus (simp [val_tmA_cons, *]; done))) | (with_reducible apply does_false; (focus (simp [val_tmA_cons, *]; done)))); try simp only [Then, Ops, OutB, reduceIte])))
      refine ⟨by first | trivial | rfl, ?_⟩
      apply Exists.intro
      refine ⟨?_, ?_, ?_, ?_, rfl⟩ <;> simp [lk_cons]
end R
end Ev
end Go.Proofs.YtlkhjnpflohfeaaDoor

/- The reference of chapter 06, gone through: the depths of all days. -/
namespace Go.Proofs.YtlkhjnpflohfeaaDoor
open Go
namespace Ev
namespace R
set_option maxRecDepth 100000
/-- The table, when j days have been gone through backwards. -/
noncomputable def tab (x : CutD) (lk : Int) (s mn : Nat) : Nat → Nat → Nat → Bool
  | 0 => fwd x lk s mn
  | j + 1 => fun e => if e = x.rain.length - 1 - j then bakB x lk mn e (tab x lk s mn j e) (tab x lk s mn j (e + 1)) else tab x lk s mn j e
theorem Rows.set {G : List AB} {W ob n mn : Nat} {rb : Nat → Nat} {f : Nat → Nat → Bool} (h : Rows G W ob n mn rb f) {d : Nat} (hd : d < n) (g : Nat → Bool) : Rows (G.set (rb d) (.cells ((List.range (mn + 1)).map fun i => .bool (g i)))) W ob n mn rb (fun e => if e = d then g else f e) := by
  refine ⟨?_, ?_, h.inj, h.ne, h.low⟩
  · rw [List.getElem?_set_ne (h.ne d hd).1]; exact h.out
  · intro e he
    by_cases hed : e = d
    · subst hed
      simp only [if_true]
      exact List.getElem?_set_self (List.getElem?_eq_some_iff.1 (h.row e he)).1
    · simp only [if_neg hed]
      rw [List.getElem?_set_ne (fun hh => hed (h.inj e d he hd hh.symm))]
      exact h.row e he
set_option maxHeartbeats 8000000 in
theorem d6 (C : Cfg) (hC : C.calm = true) (call : CallF) (hG : GoesC call) (a b k l : Int) (mn : Nat) (r : List (Int × Int)) (bs : List Boat) (ls : List Look) (V : Cut.Valid ⟨(a, b), (k, l), r, mn, bs, ls⟩) (lkv : Int) (lk0 : 0 ≤ lkv) (lk1 : lkv ≤ 10) (s : Nat)
    (Hp G0 : List AB) (B ob : Nat) (rb : Nat → Nat) (hW : Hp.length = B + 1) (hB : Hp[B]? = some (.cells [.int .i64 a, .int .i64 b, .int .i64 k, .int .i64 l, .vs 2 (r.map spanE), .int .i64 mn, .vs 4 (bs.map boatE), .vs 3 (ls.map lookE)])) (hP : Pre Hp G0) (hR : Rows G0 Hp.length ob (r.length + 1) mn rb (fwd ⟨(a, b), (k, l), r, mn, bs, ls⟩ lkv s mn)) (L : List (Nat × AV)) (tc : List Nat) (pin : Nat) (hpin : pin ≤ B)
    (l2 : lk 162 L 2 = .int .i64 lkv) (l3 : lk 162 L 3 = .ptr B 0) (l7 : lk 162 L 7 = .sl ob 0 (r.length + 1) 1) (l13 : lk 162 L 13 = .int .i64 ((r.length : Int) - 1)) :
    Does (ev C call pin none (atP [1, 1, 1, 0, 1, 0] af95.body) { tm := tmA 162 L, df := [], hp := G0, tc := tc })
      (fun e st => e = .exit 6 ∧ ∃ L' G, lk 162 L' 3 = .ptr B 0 ∧ lk 162 L' 7 = .sl ob 0 (r.length + 1) 1 ∧ Pre Hp G ∧ Rows G Hp.length ob (r.length + 1) mn rb (tab ⟨(a, b), (k, l), r, mn, bs, ls⟩ lkv s mn r.length) ∧
        st = { tm := tmA 162 L', df := [], hp := G, tc := tc }) := by
  have n8 : r.length ≤ 8 := V.n8
  have htab : ∀ j, tab ⟨(a, b), (k, l), r, mn, bs, ls⟩ lkv s mn (j + 1) = fun e => if e = r.length - 1 - j then bakB ⟨(a, b), (k, l), r, mn, bs, ls⟩ lkv mn e (tab ⟨(a, b), (k, l), r, mn, bs, ls⟩ lkv s mn j e) (tab ⟨(a, b), (k, l), r, mn, bs, ls⟩ lkv s mn j (e + 1)) else tab ⟨(a, b), (k, l), r, mn, bs, ls⟩ lkv s mn j e := fun j => rfl
  have htab0 : tab ⟨(a, b), (k, l), r, mn, bs, ls⟩ lkv s mn 0 = fwd ⟨(a, b), (k, l), r, mn, bs, ls⟩ lkv s mn := rfl
  have h8 := fun (G : List AB) (hPG : Pre Hp G) (f : Nat → Nat → Bool) (h : Rows G Hp.length ob (r.length + 1) mn rb f) (d : Nat) (hd : d < r.length) L => d8 C hC call hG a b k l mn r bs ls V lkv lk0 lk1 G B (rb d) (hPG.get hB) L tc pin (by have := (h.ne d (by omega)).2; omega) d hd (f d) (f (d + 1)) ob (rb (d + 1)) _ _
    (by have := (h.ne d (by omega)).2; omega) (Ne.symm (h.ne d (by omega)).1) (fun hh => by have := h.inj _ _ (by omega) (by omega) hh; omega) h.out (by rw [List.getElem?_map, List.getElem?_range (by omega)]; rfl) (by rw [List.getElem?_map, List.getElem?_range (by omega)]; rfl) (h.row d (by omega)) (h.row (d + 1) (by omega)) (fun i hi => by rw [List.getElem?_map, List.getElem?_range (by omega)]; rfl)
  simp only [af95, atP] at h8
  generalize hcd : (⟨(a, b), (k, l), r, mn, bs, ls⟩ : CutD) = c at *
  simp only [af95, atP]
  refine does_loop (fun q st => ∃ (j : Nat) (G : List AB), j + q = r.length ∧ Pre Hp G ∧ Rows G Hp.length ob (r.length + 1) mn rb (tab c lkv s mn j) ∧ st = { tm := tmA 162 [(13, .int .i64 ((r.length : Int) - 1 - j)), (7, .sl ob 0 (r.length + 1) 1), (3, .ptr B 0), (2, .int .i64 lkv)], df := [], hp := G, tc := tc }) r.length (by unfold fuelL; omega) ?_ ?_
  · refine ⟨0, G0, by omega, hP, by rw [htab0]; exact hR, ?_⟩
    simp only [gcC_calm hC]
    exact st_eq (by simp [keepT_tmA, lk_cons, *]) rfl rfl rfl
  · rintro q st ⟨j, G, hq, hPG, hRG, rfl⟩
    clear l2 l3 l7 l13 hP hR htab0
    by_cases hj : j < r.length
    · have hd : r.length - 1 - j < r.length := by omega
      have hdi : ((r.length : Int) - 1 - j) = ((r.length - 1 - j : Nat) : Int) := by omega
      have hw : IntKind.i64.wrap (((r.length - 1 - j : Nat) : Int) - 1) = (r.length : Int) - 1 - ((j + 1 : Nat) : Int) := by rw [wrap_in (by omega) (by omega)]; omega
      have HD := hideP (h8 G hPG _ hRG _ hd)
      have HN := hideP (hRG.set (d := r.length - 1 - j) (by omega) (bakB c lkv mn (r.length - 1 - j) (tab c lkv s mn j (r.length - 1 - j)) (tab c lkv s mn j (r.length - 1 - j + 1))))
      have hlow := (hRG.ne (r.length - 1 - j) (by omega)).2
      have HQ := hideP (And.intro hq (And.intro hPG (And.intro hlow (htab j))))
      rw [hdi]
      clear h8 htab hq hPG hRG hlow hdi V hG hcd
      generalize hdd : r.length - 1 - j = d at *
      (repeat (first | (with_reducible apply ops_cons; (focus ((conv => lhs; simp [ev1, wantG, spineK, spine, float, xnew, xval, xeff, val_tmA_cons, val_tmA_nil, val_val, putT_some, putT_none, addFl, cellsOf, pickC, alive, slLen, slFt, binI, maxA, maxK, minA, minK, aeqK, aeqS, AV.cells, slCells_sl, boatE, spanE, lookE, fillA, setAt, bitsI, nat_nn, AV.plain, apart, Nat.testBit_eq_decide_div_mod_eq, *]) <;> exact rfl)); simp only [addFl]) | ((first | with_reducible refine does_seq ?_ | with_reducible refine does_ops ?_ | with_reducible refine does_draw ?_ | with_reducible refine does_skip ?_ | with_reducible refine does_block ?_ | with_reducible refine does_ret ?_ | with_reducible refine does_exit ?_ | with_reducible refine ops_nil ?_ | (with_reducible apply does_true; (focus (simp [val_tmA_cons, *]; done))) | (with_reducible apply does_false; (focus (simp [val_tmA_cons, *]; done)))); try simp only [Then, Ops, OutB, reduceIte])))
      refine Does.mono (HD.out _ ?_ ?_ ?_ ?_ ?_) ?_
      iterate 5 (focus (simp [lk_cons]; done))
      rintro e1 st ⟨rfl, L', k2, k3, k7, k13, rfl⟩
      have u13 := fun C => (lk_val C 162 L' 13).trans k13
      simp only [OutB, Then, reduceIte]
      (repeat (first | (with_reducible apply ops_cons; (focus ((conv => lhs; simp [ev1, wantG, spineK, spine, float, xnew, xval, xeff, val_tmA_cons, val_tmA_nil, val_val, putT_some, putT_none, addFl, cellsOf, pickC, alive, slLen, slFt, binI, maxA, maxK, minA, minK, aeqK, aeqS, AV.cells, slCells_sl, boatE, spanE, lookE, fillA, setAt, bitsI, nat_nn, AV.plain, apart, Nat.testBit_eq_decide_div_mod_eq, *]) <;> exact rfl)); simp only [addFl]) | ((first | with_reducible refine does_seq ?_ | with_reducible refine does_ops ?_ | with_reducible refine does_draw ?_ | with_reducible refine does_skip ?_ | with_reducible refine does_block ?_ | with_reducible refine does_ret ?_ | with_reducible refine does_exit ?_ | with_reducible refine ops_nil ?_ | (with_reducible apply does_true; (focus (simp [val_tmA_cons, *]; done))) | (with_reducible apply does_false; (focus (simp [val_tmA_cons, *]; done)))); try simp only [Then, Ops, OutB, reduceIte])))
      obtain ⟨hq, hPG, hlow, hT⟩ := HQ.out
      refine ⟨q - 1, by omega, j + 1, G.set (rb d) (.cells ((List.range (mn + 1)).map fun i => .bool (bakB c lkv mn d (tab c lkv s mn j d) (tab c lkv s mn j (d + 1)) i))), by omega, hPG.set hlow _, ?_, ?_⟩
      · rw [hT]
        have := HN.out
        have e : (fun e => if e = d then bakB c lkv mn e (tab c lkv s mn j e) (tab c lkv s mn j (e + 1)) else tab c lkv s mn j e) = (fun e => if e = d then bakB c lkv mn d (tab c lkv s mn j d) (tab c lkv s mn j (d + 1)) else tab c lkv s mn j e) := by
          funext e
          by_cases h : e = d
          · rw [if_pos h, if_pos h, h]
          · rw [if_neg h, if_neg h]
        rw [e]; exact this
      · simp only [gcC_calm hC]
        exact st_eq (by simp [keepT_tmA, lk_cons, *]) rfl rfl rfl
    · obtain rfl : j = r.length := by omega
      rw [show (r.length : Int) - 1 - r.length = -1 by omega]
      clear h8 htab hq hG V
      have HR := hideP hRG
      clear hRG
      (repeat (first | (with_reducible apply ops_cons; (focus ((conv => lhs; simp [ev1, wantG, spineK, spine, float, xnew, xval, xeff, val_tmA_cons, val_tmA_nil, val_val, putT_some, putT_none, addFl, cellsOf, pickC, alive, slLen, slFt, binI, maxA, maxK, minA, minK, aeqK, aeqS, AV.cells, slCells_sl, boatE, spanE, lookE, fillA, setAt, bitsI, nat_nn, AV.plain, apart, Nat.testBit_eq_decide_div_mod_eq, *]) <;> exact rfl)); simp only [addFl]) | ((first | with_reducible refine does_seq ?_ | with_reducible refine does_ops ?_ | with_reducible refine does_draw ?_ | with_reducible refine does_skip ?_ | with_reducible refine does_block ?_ | with_reducible refine does_ret ?_ | with_reducible refine does_exit ?_ | with_reducible refine ops_nil ?_ | (with_reducible apply does_true; (focus (simp [val_tmA_cons, *]; done))) | (with_reducible apply does_false; (focus (simp [val_tmA_cons, *]; done)))); try simp only [Then, Ops, OutB, reduceIte])))
      refine ⟨by first | trivial | rfl, ?_⟩
      apply Exists.intro
      refine ⟨G, ?_, ?_, hPG, HR.out, rfl⟩ <;> simp [lk_cons]
/-- Is there a truth at all? -/
noncomputable def someB (x : CutD) (lk : Int) (s mn : Nat) : Bool := (List.range (mn + 1)).any (tab x lk s mn x.rain.length 0)
set_option maxHeartbeats 8000000 in
theorem depths_fun (C : Cfg) (hC : C.calm = true) (call : CallF) (hG : GoesC call) (hI : InC call) (hF : FitsC call) (a b k l : Int) (mn : Nat) (r : List (Int × Int)) (bs : List Boat) (ls : List Look) (V : Cut.Valid ⟨(a, b), (k, l), r, mn, bs, ls⟩) (lkv : Int) (lk0 : 0 ≤ lkv) (lk1 : lkv ≤ 10) (s : Nat) (hs : s < 1048576) (H : List AB) :
    Does (ev C call H.length none af95.body { tm := tmA 162 (zipI 0 [.agg [.int .i64 a, .int .i64 b, .int .i64 k, .int .i64 l, .vs 2 (r.map spanE), .int .i64 mn, .vs 4 (bs.map boatE), .vs 3 (ls.map lookE)], .int .i64 s, .int .i64 lkv] []), df := [], hp := H, tc := [] })
      (fun e st => e = .ret ∧ st.df = [] ∧ st.tc = [] ∧ ((someB ⟨(a, b), (k, l), r, mn, bs, ls⟩ lkv s mn = true ∧ ∃ ob rb, st.tm.getD 6 .unk = .sl ob 0 (r.length + 1) 1 ∧ Pre (H ++ [.cells [.int .i64 a, .int .i64 b, .int .i64 k, .int .i64 l, .vs 2 (r.map spanE), .int .i64 mn, .vs 4 (bs.map boatE), .vs 3 (ls.map lookE)]]) st.hp ∧
        Rows st.hp (H.length + 1) ob (r.length + 1) mn rb (tab ⟨(a, b), (k, l), r, mn, bs, ls⟩ lkv s mn r.length)) ∨ (someB ⟨(a, b), (k, l), r, mn, bs, ls⟩ lkv s mn = false ∧ st.tm.getD 6 .unk = .nils))) := by
  have n8 : r.length ≤ 8 := V.n8
  have m100 : (mn : Int) ≤ 100 := V.m100
  have hB : (H ++ [.cells [.int .i64 a, .int .i64 b, .int .i64 k, .int .i64 l, .vs 2 (r.map spanE), .int .i64 mn, .vs 4 (bs.map boatE), .vs 3 (ls.map lookE)]])[H.length]? = some (AB.cells [.int .i64 a, .int .i64 b, .int .i64 k, .int .i64 l, .vs 2 (r.map spanE), .int .i64 mn, .vs 4 (bs.map boatE), .vs 3 (ls.map lookE)]) := by simp
  have hWl : (H ++ [AB.cells [.int .i64 a, .int .i64 b, .int .i64 k, .int .i64 l, .vs 2 (r.map spanE), .int .i64 mn, .vs 4 (bs.map boatE), .vs 3 (ls.map lookE)]]).length = H.length + 1 := by simp
  generalize hHp : H ++ [AB.cells [.int .i64 a, .int .i64 b, .int .i64 k, .int .i64 l, .vs 2 (r.map spanE), .int .i64 mn, .vs 4 (bs.map boatE), .vs 3 (ls.map lookE)]] = Hp at *
  have H0 := fun L => d0 C hC call hG hI hF a b k l mn r bs ls V lkv lk0 lk1 s hs Hp Hp H.length hWl hB ⟨[], by simp⟩ L [] H.length (Nat.le_refl _)
  have H6 := fun G0 ob rb hP hR L => d6 C hC call hG a b k l mn r bs ls V lkv lk0 lk1 s Hp G0 H.length ob rb hWl hB hP hR L [] H.length (Nat.le_refl _)
  simp only [af95, atP] at H0 H6
  have HS : someB ⟨(a, b), (k, l), r, mn, bs, ls⟩ lkv s mn = (List.range (mn + 1)).any (tab ⟨(a, b), (k, l), r, mn, bs, ls⟩ lkv s mn r.length 0) := rfl
  generalize someB ⟨(a, b), (k, l), r, mn, bs, ls⟩ lkv s mn = sb at *
  generalize hcd : (⟨(a, b), (k, l), r, mn, bs, ls⟩ : CutD) = c at *
  have H0' := hideP H0
  have H6' := hideP H6
  have HS' := hideP HS
  clear H0 H6 HS V hcd hG hI hF
  unfold af95
  simp only [zipI]
  (repeat (first | (with_reducible apply ops_cons; (focus ((conv => lhs; simp [ev1, wantG, spineK, spine, float, xnew, xval, xeff, val_tmA_cons, val_tmA_nil, val_val, putT_some, putT_none, addFl, cellsOf, pickC, alive, slLen, slFt, binI, maxA, maxK, minA, minK, aeqK, aeqS, AV.cells, slCells_sl, boatE, spanE, lookE, fillA, setAt, bitsI, nat_nn, AV.plain, apart, Nat.testBit_eq_decide_div_mod_eq, *]) <;> exact rfl)); simp only [addFl]) | ((first | with_reducible refine does_seq ?_ | with_reducible refine does_ops ?_ | with_reducible refine does_draw ?_ | with_reducible refine does_skip ?_ | with_reducible refine does_block ?_ | with_reducible refine does_ret ?_ | with_reducible refine does_exit ?_ | with_reducible refine ops_nil ?_ | (with_reducible apply does_true; (focus (simp [val_tmA_cons, *]; done))) | (with_reducible apply does_false; (focus (simp [val_tmA_cons, *]; done)))); try simp only [Then, Ops, OutB, reduceIte])))
  refine Does.mono (H0'.out _ ?_ ?_ ?_ ?_ ?_) ?_
  iterate 5 (focus (simp [lk_cons]; done))
  rintro e1 st ⟨rfl, L1, G1, ob, rb, k2, k3, k7, hP1, hR1, rfl⟩
  have u3 := fun C => (lk_val C 162 L1 3).trans k3
  have u7 := fun C => (lk_val C 162 L1 7).trans k7
  have hw1 : IntKind.i64.wrap ((r.length : Int) - 1) = (r.length : Int) - 1 := wrap_in (by omega) (by omega)
  have gB := hP1.get hB
  obtain ⟨nB, eB⟩ := List.getElem?_eq_some_iff.1 gB
  have HR1 := hideP hR1
  have HP1 := hideP hP1
  clear hR1 hP1
  simp only [OutB, Then, reduceIte]
  (repeat (first | (with_reducible apply ops_cons; (focus ((conv => lhs; simp [ev1, wantG, spineK, spine, float, xnew, xval, xeff, val_tmA_cons, val_tmA_nil, val_val, putT_some, putT_none, addFl, cellsOf, pickC, alive, slLen, slFt, binI, maxA, maxK, minA, minK, aeqK, aeqS, AV.cells, slCells_sl, boatE, spanE, lookE, fillA, setAt, bitsI, nat_nn, AV.plain, apart, Nat.testBit_eq_decide_div_mod_eq, *]) <;> exact rfl)); simp only [addFl]) | ((first | with_reducible refine does_seq ?_ | with_reducible refine does_ops ?_ | with_reducible refine does_draw ?_ | with_reducible refine does_skip ?_ | with_reducible refine does_block ?_ | with_reducible refine does_ret ?_ | with_reducible refine does_exit ?_ | with_reducible refine ops_nil ?_ | (with_reducible apply does_true; (focus (simp [val_tmA_cons, *]; done))) | (with_reducible apply does_false; (focus (simp [val_tmA_cons, *]; done)))); try simp only [Then, Ops, OutB, reduceIte])))
  refine Does.mono (H6'.out G1 ob rb HP1.out HR1.out _ ?_ ?_ ?_ ?_) ?_
  iterate 4 (focus (simp [lk_cons, *]; done))
  rintro e1 st ⟨rfl, L2, G2, k3', k7', hP2, hR2, rfl⟩
  clear u3 u7 k2 k3 k7 HR1 HP1 gB nB eB
  have u3 := fun C => (lk_val C 162 L2 3).trans k3'
  have u7 := fun C => (lk_val C 162 L2 7).trans k7'
  have gB := hP2.get hB
  obtain ⟨nB, eB⟩ := List.getElem?_eq_some_iff.1 gB
  have gO := hR2.out
  have gR := hR2.row 0 (by omega)
  obtain ⟨nO, eO⟩ := List.getElem?_eq_some_iff.1 gO
  obtain ⟨nR, eR⟩ := List.getElem?_eq_some_iff.1 gR
  have ho0 : ((List.range (r.length + 1)).map fun d => AV.sl (rb d) 0 (mn + 1) 1)[0]? = some (.sl (rb 0) 0 (mn + 1) 1) := by rw [List.getElem?_map, List.getElem?_range (by omega)]; rfl
  have hr0 : ∀ i, i ≤ mn → ((List.range (mn + 1)).map fun i => AV.bool (tab c lkv s mn r.length 0 i))[i]? = some (.bool (tab c lkv s mn r.length 0 i)) := fun i hi => by rw [List.getElem?_map, List.getElem?_range (by omega)]; rfl
  have HR2 := hideP hR2
  have HP2 := hideP hP2
  generalize ((List.range (r.length + 1)).map fun d => AV.sl (rb d) 0 (mn + 1) 1) = oc at *
  generalize ((List.range (mn + 1)).map fun i => AV.bool (tab c lkv s mn r.length 0 i)) = rc at *
  have HR0 := hideP hr0
  clear hR2 hP2 hr0
  simp only [OutB, Then, reduceIte]
  (repeat (first | (with_reducible apply ops_cons; (focus ((conv => lhs; simp [ev1, wantG, spineK, spine, float, xnew, xval, xeff, val_tmA_cons, val_tmA_nil, val_val, putT_some, putT_none, addFl, cellsOf, pickC, alive, slLen, slFt, binI, maxA, maxK, minA, minK, aeqK, aeqS, AV.cells, slCells_sl, boatE, spanE, lookE, fillA, setAt, bitsI, nat_nn, AV.plain, apart, Nat.testBit_eq_decide_div_mod_eq, *]) <;> exact rfl)); simp only [addFl]) | ((first | with_reducible refine does_seq ?_ | with_reducible refine does_ops ?_ | with_reducible refine does_draw ?_ | with_reducible refine does_skip ?_ | with_reducible refine does_block ?_ | with_reducible refine does_ret ?_ | with_reducible refine does_exit ?_ | with_reducible refine ops_nil ?_ | (with_reducible apply does_true; (focus (simp [val_tmA_cons, *]; done))) | (with_reducible apply does_false; (focus (simp [val_tmA_cons, *]; done)))); try simp only [Then, Ops, OutB, reduceIte])))
  refine does_loop (fun q st => ∃ (i : Nat), i + q = mn + 1 ∧ (List.range i).any (tab c lkv s mn r.length 0) = false ∧ st = { tm := tmA 162 [(17, .int .i64 i), (7, .sl ob 0 (r.length + 1) 1), (3, .ptr H.length 0)], df := [], hp := G2, tc := [] }) (mn + 1) (by unfold fuelL; omega) ?_ ?_
  · refine ⟨0, by omega, by simp, ?_⟩
    simp only [gcC_calm hC]
    exact st_eq (by simp [keepT_tmA, lk_cons, *]) rfl rfl rfl
  · rintro q st ⟨i, hq, hany, rfl⟩
    clear u3 u7 k3' k7'
    by_cases hi : i ≤ mn
    · have hw : IntKind.i64.wrap ((i : Int) + 1) = (i : Int) + 1 := wrap_in (by omega) (by omega)
      have hi'' : (i : Int) < (mn : Int) + 1 := by omega
      have hr0 := HR0.out i hi
      have HQ := hideP (And.intro hq hany)
      have hne : (0 : Int) < (r.length : Int) + 1 := by omega
      clear hq hany
      have hnx := any_succ (tab c lkv s mn r.length 0) i
      cases hb : tab c lkv s mn r.length 0 i with
      | true =>
        rw [hb] at hr0 hnx
        have hsb : sb = true := by rw [HS'.out]; exact any_true (i := i + 1) (by rw [hnx]; simp) (by omega)
        clear hb hnx
        (repeat (first | (with_reducible apply ops_cons; (focus ((conv => lhs; simp [ev1, wantG, spineK, spine, float, xnew, xval, xeff, val_tmA_cons, val_tmA_nil, val_val, putT_some, putT_none, addFl, cellsOf, pickC, alive, slLen, slFt, binI, maxA, maxK, minA, minK, aeqK, aeqS, AV.cells, slCells_sl, boatE, spanE, lookE, fillA, setAt, bitsI, nat_nn, AV.plain, apart, Nat.testBit_eq_decide_div_mod_eq, *]) <;> exact rfl)); simp only [addFl]) | ((first | with_reducible refine does_seq ?_ | with_reducible refine does_ops ?_ | with_reducible refine does_draw ?_ | with_reducible refine does_skip ?_ | with_reducible refine does_block ?_ | with_reducible refine does_ret ?_ | with_reducible refine does_exit ?_ | with_reducible refine ops_nil ?_ | (with_reducible apply does_true; (focus (simp [val_tmA_cons, *]; done))) | (with_reducible apply does_false; (focus (simp [val_tmA_cons, *]; done)))); try simp only [Then, Ops, OutB, reduceIte])))
        refine ⟨by first | trivial | rfl, by first | trivial | rfl, by first | trivial | rfl, .inl ⟨hsb, ob, rb, ?_, HP2.out, ?_⟩⟩
        · simp only [tmA_getD_cons]; simp
        · have := HR2.out; rw [hWl] at this; exact this
      | false =>
        rw [hb] at hr0 hnx
        clear hb
        have HX := hideP hnx
        clear hnx
        (repeat (first | (with_reducible apply ops_cons; (focus ((conv => lhs; simp [ev1, wantG, spineK, spine, float, xnew, xval, xeff, val_tmA_cons, val_tmA_nil, val_val, putT_some, putT_none, addFl, cellsOf, pickC, alive, slLen, slFt, binI, maxA, maxK, minA, minK, aeqK, aeqS, AV.cells, slCells_sl, boatE, spanE, lookE, fillA, setAt, bitsI, nat_nn, AV.plain, apart, Nat.testBit_eq_decide_div_mod_eq, *]) <;> exact rfl)); simp only [addFl]) | ((first | with_reducible refine does_seq ?_ | with_reducible refine does_ops ?_ | with_reducible refine does_draw ?_ | with_reducible refine does_skip ?_ | with_reducible refine does_block ?_ | with_reducible refine does_ret ?_ | with_reducible refine does_exit ?_ | with_reducible refine ops_nil ?_ | (with_reducible apply does_true; (focus (simp [val_tmA_cons, *]; done))) | (with_reducible apply does_false; (focus (simp [val_tmA_cons, *]; done)))); try simp only [Then, Ops, OutB, reduceIte])))
        obtain ⟨hq, hany⟩ := HQ.out
        refine ⟨q - 1, by omega, i + 1, by omega, by rw [HX.out, hany]; rfl, ?_⟩
        simp only [gcC_calm hC]
        exact st_eq (by simp [keepT_tmA, lk_cons]) rfl rfl rfl
    · obtain rfl : i = mn + 1 := by omega
      have hx : ¬ ((mn : Int) + 1 ≤ mn) := by omega
      have hsb : sb = false := by rw [HS'.out]; exact hany
      clear hany hq
      (repeat (first | (with_reducible apply ops_cons; (focus ((conv => lhs; simp [ev1, wantG, spineK, spine, float, xnew, xval, xeff, val_tmA_cons, val_tmA_nil, val_val, putT_some, putT_none, addFl, cellsOf, pickC, alive, slLen, slFt, binI, maxA, maxK, minA, minK, aeqK, aeqS, AV.cells, slCells_sl, boatE, spanE, lookE, fillA, setAt, bitsI, nat_nn, AV.plain, apart, Nat.testBit_eq_decide_div_mod_eq, *]) <;> exact rfl)); simp only [addFl]) | ((first | with_reducible refine does_seq ?_ | with_reducible refine does_ops ?_ | with_reducible refine does_draw ?_ | with_reducible refine does_skip ?_ | with_reducible refine does_block ?_ | with_reducible refine does_ret ?_ | with_reducible refine does_exit ?_ | with_reducible refine ops_nil ?_ | (with_reducible apply does_true; (focus (simp [val_tmA_cons, *]; done))) | (with_reducible apply does_false; (focus (simp [val_tmA_cons, *]; done)))); try simp only [Then, Ops, OutB, reduceIte])))
      refine ⟨by first | trivial | rfl, by first | trivial | rfl, by first | trivial | rfl, .inr ⟨hsb, ?_⟩⟩
      simp only [tmA_getD_cons]; simp
end R
end Ev
end Go.Proofs.YtlkhjnpflohfeaaDoor

/- What the exported functions' spans mean, by truths. -/
namespace Go.Proofs.YtlkhjnpflohfeaaDoor
namespace Cut
theorem fold_spec : ∀ (l : List (Int × Int)) (x : Int × Int),
    let j := l.foldl (fun s y => (min s.1 y.1, max s.2 y.2)) x
    (j.1 ≤ x.1 ∧ x.2 ≤ j.2 ∧ (∀ s ∈ l, j.1 ≤ s.1 ∧ s.2 ≤ j.2)) ∧ (j.1 = x.1 ∨ ∃ s ∈ l, j.1 = s.1) ∧ (j.2 = x.2 ∨ ∃ s ∈ l, j.2 = s.2)
  | [], x => by simp
  | y :: l, x => by
    have ih := fold_spec l (min x.1 y.1, max x.2 y.2)
    simp only [List.foldl_cons, List.mem_cons] at ih ⊢
    generalize List.foldl _ _ l = j at ih ⊢
    obtain ⟨⟨h1, h2, h3⟩, h4, h5⟩ := ih
    refine ⟨⟨by clear h4 h5; omega, by clear h4 h5; omega, ?_⟩, ?_, ?_⟩
    · clear h4 h5
      rintro s (rfl | hs)
      · omega
      · exact h3 s hs
    · clear h5
      rcases h4 with h4 | ⟨s, hs, h4⟩
      · by_cases c : x.1 ≤ y.1
        · exact .inl (by omega)
        · exact .inr ⟨y, .inl rfl, by omega⟩
      · exact .inr ⟨s, .inr hs, h4⟩
    · clear h4
      rcases h5 with h5 | ⟨s, hs, h5⟩
      · by_cases c : y.2 ≤ x.2
        · exact .inl (by omega)
        · exact .inr ⟨y, .inl rfl, by omega⟩
      · exact .inr ⟨s, .inr hs, h5⟩
theorem joined_spec {l : List (Int × Int)} (hl : 0 < l.length) : (∀ s ∈ l, (joined l).1 ≤ s.1 ∧ s.2 ≤ (joined l).2) ∧ (∃ s ∈ l, (joined l).1 = s.1) ∧ (∃ s ∈ l, (joined l).2 = s.2) := by
  cases l with
  | nil => simp at hl
  | cons x l =>
    have h := fold_spec l x
    simp only at h
    rw [show joined (x :: l) = l.foldl (fun s y => (min s.1 y.1, max s.2 y.2)) x from rfl]
    generalize List.foldl _ _ l = j at h ⊢
    obtain ⟨⟨h1, h2, h3⟩, h4, h5⟩ := h
    refine ⟨?_, ?_, ?_⟩
    · clear h4 h5
      intro s hs
      rcases List.mem_cons.1 hs with rfl | hs
      · omega
      · exact h3 s hs
    · rcases h4 with h4 | ⟨s, hs, h4⟩
      · exact ⟨x, List.mem_cons_self, h4⟩
      · exact ⟨s, List.mem_cons_of_mem _ hs, h4⟩
    · rcases h5 with h5 | ⟨s, hs, h5⟩
      · exact ⟨x, List.mem_cons_self, h5⟩
      · exact ⟨s, List.mem_cons_of_mem _ hs, h5⟩
theorem mem_leaks (x : CutD) (leak : Int) : leak ∈ leaks x ↔ inS x.leak leak := by
  unfold leaks inS
  rw [List.mem_map]
  constructor
  · rintro ⟨i, hi, rfl⟩
    rw [List.mem_range] at hi
    omega
  · rintro ⟨h1, h2⟩
    exact ⟨(leak - x.leak.1).toNat, by rw [List.mem_range]; omega, by omega⟩
/-- A day's depths: all truths are within, both ends are those of one. -/
theorem water_spec {x : CutD} (h : Valid x) (hc : can x (every x) = true) (d : Nat) (hd : d ≤ x.rain.length) :
    (∀ leak t, inS x.leak leak → Truth x leak (every x) t → inS (water x d) (t d)) ∧
    (∃ leak t, inS x.leak leak ∧ Truth x leak (every x) t ∧ t d = (water x d).1) ∧ ∃ leak t, inS x.leak leak ∧ Truth x leak (every x) t ∧ t d = (water x d).2 := by
  have hpos : 0 < (((leaks x).map fun k => seasonAt x k (every x) d).filter some).length := by
    obtain ⟨leak, h1, t, ht⟩ := (can_iff h _).1 hc
    refine List.length_pos_of_mem (a := seasonAt x leak (every x) d) (List.mem_filter.2 ⟨List.mem_map.2 ⟨leak, (mem_leaks x leak).2 h1, rfl⟩, ?_⟩)
    have := h.l0; have := h.l2; unfold inS at h1
    exact (some_iff _).2 ⟨t d, (season_in h leak (by omega) (by omega) _ d hd _).2 ⟨t, ht, rfl⟩⟩
  obtain ⟨j1, j2, j3⟩ := joined_spec hpos
  have l0 := h.l0
  have l2 := h.l2
  have key : ∀ s, s ∈ (((leaks x).map fun k => seasonAt x k (every x) d).filter some) → ∃ leak, inS x.leak leak ∧ s = seasonAt x leak (every x) d ∧ s.1 ≤ s.2 := by
    intro s hs
    obtain ⟨h1, h2⟩ := List.mem_filter.1 hs
    obtain ⟨leak, h3, rfl⟩ := List.mem_map.1 h1
    exact ⟨leak, (mem_leaks x leak).1 h3, rfl, by simpa [some] using h2⟩
  refine ⟨?_, ?_, ?_⟩
  · intro leak t hl ht
    have hin : inS (seasonAt x leak (every x) d) (t d) := by
      unfold inS at hl
      exact (season_in h leak (by omega) (by omega) _ d hd _).2 ⟨t, ht, rfl⟩
    have := j1 (seasonAt x leak (every x) d) (List.mem_filter.2 ⟨List.mem_map.2 ⟨leak, (mem_leaks x leak).2 hl, rfl⟩, (some_iff _).2 ⟨_, hin⟩⟩)
    unfold water inS at *
    omega
  · obtain ⟨s, hs, e⟩ := j2
    obtain ⟨leak, hl, rfl, hle⟩ := key s hs
    have hl' := hl
    unfold inS at hl'
    obtain ⟨t, ht, et⟩ := (season_in h leak (by omega) (by omega) (every x) d hd (seasonAt x leak (every x) d).1).1 ⟨by omega, hle⟩
    exact ⟨leak, t, hl, ht, et.trans e.symm⟩
  · obtain ⟨s, hs, e⟩ := j3
    obtain ⟨leak, hl, rfl, hle⟩ := key s hs
    have hl' := hl
    unfold inS at hl'
    obtain ⟨t, ht, et⟩ := (season_in h leak (by omega) (by omega) (every x) d hd (seasonAt x leak (every x) d).2).1 ⟨hle, by omega⟩
    exact ⟨leak, t, hl, ht, et.trans e.symm⟩
/-- What leaks: all truths are within, both ends are those of one. -/
theorem leak_spec {x : CutD} (h : Valid x) (hc : can x (every x) = true) :
    (∀ leak t, inS x.leak leak → Truth x leak (every x) t → inS (leakSpan x) leak) ∧
    (inS x.leak (leakSpan x).1 ∧ ∃ t, Truth x (leakSpan x).1 (every x) t) ∧ inS x.leak (leakSpan x).2 ∧ ∃ t, Truth x (leakSpan x).2 (every x) t := by
  obtain ⟨j1, j2, j3⟩ := joined_spec (leakSpans_pos x hc)
  have l0 := h.l0
  have l2 := h.l2
  have key : ∀ s, s ∈ leakSpans x ↔ ∃ leak, inS x.leak leak ∧ s = (leak, leak) ∧ ∃ t, Truth x leak (every x) t := by
    intro s
    unfold leakSpans
    rw [List.mem_map]
    constructor
    · rintro ⟨leak, hl, rfl⟩
      obtain ⟨h1, h2⟩ := List.mem_filter.1 hl
      have h3 := (mem_leaks x leak).1 h1
      obtain ⟨v, hv⟩ := (some_iff _).1 h2
      have h4 := h3
      unfold inS at h4
      obtain ⟨t, ht, _⟩ := (season_in h leak (by omega) (by omega) _ 0 (by omega) v).1 hv
      exact ⟨leak, h3, rfl, t, ht⟩
    · rintro ⟨leak, h3, rfl, t, ht⟩
      have h4 := h3
      unfold inS at h4
      exact ⟨leak, List.mem_filter.2 ⟨(mem_leaks x leak).2 h3, (some_iff _).2 ⟨t 0, (season_in h leak (by omega) (by omega) _ 0 (by omega) _).2 ⟨t, ht, rfl⟩⟩⟩, rfl⟩
  refine ⟨?_, ?_, ?_⟩
  · intro leak t hl ht
    have := j1 (leak, leak) ((key _).2 ⟨leak, hl, rfl, t, ht⟩)
    unfold leakSpan inS
    simpa using this
  · obtain ⟨s, hs, e⟩ := j2
    obtain ⟨leak, hl, rfl, ht⟩ := (key _).1 hs
    unfold leakSpan
    rw [e]; exact ⟨hl, ht⟩
  · obtain ⟨s, hs, e⟩ := j3
    obtain ⟨leak, hl, rfl, ht⟩ := (key _).1 hs
    unfold leakSpan
    rw [e]; exact ⟨hl, ht⟩
end Cut
end Go.Proofs.YtlkhjnpflohfeaaDoor

/- The reference of chapter 06: what its table of depths means. -/
namespace Go.Proofs.YtlkhjnpflohfeaaDoor
open Go
namespace Ev
namespace R
theorem stepB_iff {x : CutD} {lk : Int} {d : Nat} {u v : Int} : stepB x lk d u v = true ↔ Cut.Step x lk d u v := by unfold stepB; simp
theorem looksB_iff {x : CutD} {s d : Nat} {v : Int} : looksB x s d v = true ↔ Cut.Looks x.looks s d v := by unfold looksB; simp
theorem fwd_iff {x : CutD} (V : Cut.Valid x) {lk : Int} {s mn : Nat} (hm : x.most = mn) : ∀ (d : Nat), ∀ i, i ≤ mn → (fwd x lk s mn d i = true ↔ Cut.FR x lk s d (i : Int))
  | 0, i, hi => by
    unfold fwd forB Cut.FR
    simp only [Bool.and_eq_true, looksB_iff]
    have : ((((0 == 0) && Cut.within (i : Int) x.depth.1 x.depth.2) || (decide (0 < 0) && fromB x lk (0 - 1) i (fun _ => false) (mn + 1))) = true) ↔ Cut.inS x.depth i := by
      simp [Cut.within, Cut.inS]
    exact and_congr this Iff.rfl
  | d + 1, i, hi => by
    have ih := fwd_iff V (lk := lk) (s := s) hm d
    show forB x lk s mn (d + 1) (fwd x lk s mn d) i = true ↔ _
    unfold forB Cut.FR
    simp only [Bool.and_eq_true, looksB_iff]
    refine and_congr ?_ Iff.rfl
    have e0 : ((d + 1 == 0) && Cut.within (i : Int) x.depth.1 x.depth.2) = false := by simp
    rw [e0, Bool.false_or, decide_eq_true (by omega), Bool.true_and]
    unfold fromB
    rw [List.any_eq_true]
    constructor
    · rintro ⟨u, h1, h2⟩
      rw [List.mem_range] at h1
      rw [Bool.and_eq_true, stepB_iff] at h2
      exact ⟨u, (ih u (by omega)).1 h2.1, h2.2⟩
    · rintro ⟨u, h1, h2⟩
      have hu := Cut.FR_in V h1
      obtain ⟨un, rfl⟩ := Int.eq_ofNat_of_zero_le hu.1
      refine ⟨un, List.mem_range.2 (by omega), ?_⟩
      rw [Bool.and_eq_true, stepB_iff]
      exact ⟨(ih un (by omega)).2 h1, h2⟩
theorem tab_iff {x : CutD} (V : Cut.Valid x) {lk : Int} {s mn : Nat} (hm : x.most = mn) : ∀ (j : Nat), j ≤ x.rain.length → ∀ e, e ≤ x.rain.length → ∀ i, i ≤ mn →
    (tab x lk s mn j e i = true ↔ Cut.FR x lk s e (i : Int) ∧ (x.rain.length - j ≤ e → Cut.BR x lk s x.rain.length (x.rain.length - e) (i : Int)))
  | 0, _, e, he, i, hi => by
    show fwd x lk s mn e i = true ↔ _
    rw [fwd_iff V hm e i hi]
    constructor
    · intro h
      refine ⟨h, fun h1 => ?_⟩
      have : e = x.rain.length := by omega
      subst this
      rw [Nat.sub_self]; trivial
    · exact fun h => h.1
  | j + 1, hj, e, he, i, hi => by
    have ih := tab_iff V (lk := lk) (s := s) hm j (by omega)
    show (if e = x.rain.length - 1 - j then bakB x lk mn e (tab x lk s mn j e) (tab x lk s mn j (e + 1)) else tab x lk s mn j e) i = true ↔ _
    by_cases hej : e = x.rain.length - 1 - j
    · rw [if_pos hej]
      unfold bakB ontoB
      rw [Bool.and_eq_true, List.any_eq_true, ih e he i hi]
      have hk : x.rain.length - e = (x.rain.length - (e + 1)) + 1 := by omega
      constructor
      · rintro ⟨⟨h1, _⟩, v, h2, h3⟩
        rw [List.mem_range] at h2
        rw [Bool.and_eq_true, stepB_iff, ih (e + 1) (by omega) v (by omega)] at h3
        refine ⟨h1, fun _ => ?_⟩
        rw [hk]
        obtain ⟨⟨h4, h5⟩, h6⟩ := h3
        have h7 := h5 (by omega)
        refine ⟨v, ?_, ?_, h7⟩
        · rw [show x.rain.length - (x.rain.length - (e + 1) + 1) = e by omega]; exact h6
        · rw [show x.rain.length - (x.rain.length - (e + 1)) = e + 1 by omega]; exact h4.2
      · rintro ⟨h1, h2⟩
        have h3 := h2 (by omega)
        rw [hk] at h3
        obtain ⟨v, h4, h5, h6⟩ := h3
        rw [show x.rain.length - (x.rain.length - (e + 1) + 1) = e by omega] at h4
        rw [show x.rain.length - (x.rain.length - (e + 1)) = e + 1 by omega] at h5
        have hf : Cut.FR x lk s (e + 1) v := ⟨⟨_, h1, h4⟩, h5⟩
        have hv := Cut.FR_in V hf
        obtain ⟨vn, rfl⟩ := Int.eq_ofNat_of_zero_le hv.1
        refine ⟨⟨h1, fun h => by omega⟩, vn, List.mem_range.2 (by omega), ?_⟩
        rw [Bool.and_eq_true, stepB_iff, ih (e + 1) (by omega) vn (by omega)]
        exact ⟨⟨hf, fun _ => h6⟩, h4⟩
    · rw [if_neg hej, ih e he i hi]
      refine and_congr Iff.rfl ⟨fun h h1 => h (by omega), fun h h1 => h (by omega)⟩
/-- The table holds just the depths of truths. -/
theorem tab_truth {x : CutD} (V : Cut.Valid x) {lk : Int} {s mn : Nat} (hm : x.most = mn) {e i : Nat} (he : e ≤ x.rain.length) (hi : i ≤ mn) : tab x lk s mn x.rain.length e i = true ↔ ∃ t, Cut.Truth x lk s t ∧ t e = i := by
  rw [tab_iff V hm _ (Nat.le_refl _) e he i hi]
  constructor
  · rintro ⟨h1, h2⟩
    exact Cut.truth_of he h1 (h2 (by omega))
  · rintro ⟨t, h1, h2⟩
    have a1 := h1.fr e he
    have a2 := h1.br (x.rain.length - e) (by omega)
    rw [h2] at a1
    rw [show x.rain.length - (x.rain.length - e) = e by omega, h2] at a2
    exact ⟨a1, fun _ => a2⟩
theorem some_truth {x : CutD} (V : Cut.Valid x) {lk : Int} {s mn : Nat} (hm : x.most = mn) : someB x lk s mn = true ↔ ∃ t, Cut.Truth x lk s t := by
  unfold someB
  rw [List.any_eq_true]
  constructor
  · rintro ⟨i, h1, h2⟩
    rw [List.mem_range] at h1
    obtain ⟨t, h3, _⟩ := (tab_truth V hm (Nat.zero_le _) (by omega)).1 h2
    exact ⟨t, h3⟩
  · rintro ⟨t, h⟩
    have h0 := Cut.FR_in V (h.fr 0 (Nat.zero_le _))
    obtain ⟨i, hi⟩ := Int.eq_ofNat_of_zero_le h0.1
    exact ⟨i, List.mem_range.2 (by omega), (tab_truth V hm (Nat.zero_le _) (by omega)).2 ⟨t, h, hi⟩⟩
end R
end Ev
end Go.Proofs.YtlkhjnpflohfeaaDoor
