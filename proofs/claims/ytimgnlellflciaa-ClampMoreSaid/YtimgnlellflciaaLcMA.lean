/- ClampMore, gone through: its end. -/
import Derived.Test.YtimgnlellflciaaCmEA
import Derived.Test.YtimgnlellflciaaCmPE
import Derived.Test.YtimgnlellflciaaCmPD
/- The code of functions of the laws, for the evaluator. Printed by program. -/
namespace Go.Proofs.Ytimgnlellflciaa
open Go
namespace Ev
end Ev
end Go.Proofs.Ytimgnlellflciaa

/- The code of functions of the laws, for the evaluator. Printed by program. -/
namespace Go.Proofs.Ytimgnlellflciaa
open Go
namespace Ev
def af28 : AFunc := ⟨14, [(.cell 4 (some 4))], (.seq (.ops [⟨0, (some 2), (.box (.tmp 0)), none, 0⟩, ⟨1, (some 3), (.box (.tmp 1)), none, 0⟩, ⟨2, (some 4), (.alloc [.nils, (.int .i64 0), (.int .i64 0), .nils]), none, 0⟩]) (.seq (.draw [⟨0, (some 5), (.buildSl 4 0 [(.int .i64 0), (.int .i64 0), (.int .i64 0), (.int .i64 0)] []), none, 0⟩, ⟨1, (some 6), (.fieldA 3 (.tmp 2)), none, 0⟩, ⟨2, (some 7), (.load none (.tmp 6)), none, 2⟩, ⟨4, (some 9), (.load (some 4) (.tmp 3)), none, 0⟩, ⟨5, (some 10), (.buildSl 4 1 [(.int .i64 0), (.int .i64 0), (.int .i64 0), (.int .i64 0)] [(0, (.tmp 9))]), none, 16⟩, ⟨3, (some 8), (.append 4 (.tmp 5) (.tmp 7)), none, 7⟩, ⟨6, (some 11), (.append 4 (.tmp 8) (.tmp 10)), none, 63⟩, ⟨7, (some 12), (.fieldA 3 (.tmp 2)), none, 127⟩, ⟨8, none, (.store 1 (.tmp 12) (.tmp 11)), none, 255⟩]) (.seq (.ops [⟨0, (some 13), (.load (some 4) (.tmp 2)), none, 0⟩, ⟨1, none, (.store 4 (.tmp 4) (.tmp 13)), none, 0⟩]) .ret)))⟩
end Ev
end Go.Proofs.Ytimgnlellflciaa

/- Chapter 09, gone through: small functions of the laws. -/
namespace Go.Proofs.Ytimgnlellflciaa
open Go
namespace Ev
namespace K
attribute [local simp] ev1 wantG spineK spine float xnew xval xeff zaa zaq zbc zav zaw addFl cellsOf pickC alive slLen slFt binI maxA maxK minA minK aeqK aeqS AV.cells spA zar fillA setAt bitsI nat_nn zbg AV.plain apart
set_option maxRecDepth 100000
set_option maxHeartbeats 4000000
theorem zbo (fl : List (Nat × List Nat)) (d : Nat) : (fl.all fun p => d.testBit p.1 || apart p.2 []) = true := by simp [apart]
def atP : List Nat → AC → AC
  | 0 :: p, .seq a _ => atP p a
  | 1 :: p, .seq _ b => atP p b
  | _ :: p, .block _ c => atP p c
  | _ :: p, .loop _ c => atP p c
  | 0 :: p, .cond _ a _ => atP p a
  | 1 :: p, .cond _ _ b => atP p b
  | _, c => c
def SaleC (call : CallF) : Prop := ∀ (H : List AB) (n a b : Int), call (.fn (.func 34) [] []) [.int .i64 n, .int .i64 a, .int .i64 b] H = some (.ret (.agg [.int .i64 0, .int .i64 n, .int .i64 a, .int .i64 b]), H, [])
theorem zxn (C : Cfg) (call : CallF) (hA : LApi call) (H : List AB) (n a b : Int) : Does (ev C call H.length none af34.body { tm := tmA af34.ntmps (zipI 0 [.int .i64 n, .int .i64 a, .int .i64 b] []), df := [], hp := H, tc := [] })
    (Ends C H.length af34.res fun v _hp tc => v = .agg [.int .i64 0, .int .i64 n, .int .i64 a, .int .i64 b] ∧ tc = []) := by
  have hs := fun H a b => hA.span (H := H) a b
  clear hA
  unfold af34
  simp only [zipI]
  (repeat (first | (with_reducible apply zah; (focus ((conv => lhs; simp [Nat.testBit_eq_decide_div_mod_eq, *]) <;> exact rfl)); simp only [addFl]) | ((with_reducible first | apply zai | apply zak | apply zag | apply zae | apply zac | apply zaj | apply zaf | apply zam | (apply zad; · simp [zaa, *]) | (apply zab; · simp [zaa, *])); try simp only [Then, Ops]) | simp only [Nat.reduceEqDiff, reduceIte, OutB, Then]))
  exact zao (v := .agg [.int .i64 0, .int .i64 n, .int .i64 a, .int .i64 b]) (.inl rfl) rfl (by simp) (by simp only [resL, resOf, zal]; simp [pickC, resV, *]) ⟨rfl, rfl⟩
def withK (n : Nat) (pv : AV) (a b : Int) (cs : List AV) (m : Nat) (x0 x1 x2 x3 : Int) : List AB :=
  [.cells [pv, .int .i64 a, .int .i64 b, .sl (n + 6) 0 (m + 1) 4], .cells [.int .i64 x0, .int .i64 x1, .int .i64 x2, .int .i64 x3], .cells [pv, .int .i64 a, .int .i64 b, .sl (n + 6) 0 (m + 1) 4], .dead, .cells [.int .i64 x0, .int .i64 x1, .int .i64 x2, .int .i64 x3], .dead, .cells (cs ++ [.int .i64 x0, .int .i64 x1, .int .i64 x2, .int .i64 x3])]
def EvIn (H : List AB) (lv : AV) (es : List Clm.Evt) : Prop := lv = .vs 4 (es.map evtE) ∨ ∃ b, lv = .sl b 0 es.length 4 ∧ H[b]? = some (.cells (evtCs es))
theorem zxb (C : Cfg) (call : CallF) (H : List AB) (ps : List Clm.Pl) (a b : Int) (lv : AV) (es : List Clm.Evt) (hev : EvIn H lv es) (hes : es.length ≤ 1000) (x0 x1 x2 x3 : Int) :
    Does (ev C call H.length none af28.body { tm := tmA af28.ntmps (zipI 0 [.agg [.vs 6 (ps.map pileE), .int .i64 a, .int .i64 b, lv], .agg [.int .i64 x0, .int .i64 x1, .int .i64 x2, .int .i64 x3]] []), df := [], hp := H, tc := [] })
    (Ends C H.length af28.res fun v hp tc => v = .agg [.vs 6 (ps.map pileE), .int .i64 a, .int .i64 b, .sl (H.length + 6) 0 (es.length + 1) 4] ∧ hp = H ++ withK H.length (.vs 6 (ps.map pileE)) a b (evtCs es) es.length x0 x1 x2 x3 ∧ tc = []) := by
  have hb2 : es.length + 1 ≤ bound := by unfold bound; omega
  have hb3 : es.length ≤ bound := by unfold bound; omega
  have hle := zbn es
  have hpl := zby es
  clear hes
  unfold withK
  rcases hev with rfl | ⟨q, rfl, hq⟩
  · have hs : ∀ H, slCells 4 H (.vs 4 (es.map evtE)) = some (evtCs es) := fun H => zih H es
    unfold af28
    simp only [zipI]
    (repeat (first | (with_reducible apply zah; (focus ((conv => lhs; simp [↓zbo, Nat.testBit_eq_decide_div_mod_eq, *]) <;> exact rfl)); simp only [addFl]) | ((with_reducible first | apply zai | apply zak | apply zag | apply zae | apply zac | apply zaj | apply zaf | apply zam | (apply zad; · simp [zaa, *]) | (apply zab; · simp [zaa, *])); try simp only [Then, Ops]) | simp only [Nat.reduceEqDiff, reduceIte, OutB, Then]))
    refine zao (.inl rfl) rfl (by simp) (by simp only [resL, resOf, zal]; simp [pickC, resV, *]) ⟨rfl, ?_, rfl⟩
    simp
  · obtain ⟨b0, b1, b2, b3, b4, b5⟩ := bk' hq
    have htk : List.take (es.length * 4) (evtCs es) = evtCs es := List.take_of_length_le (by rw [zbn]; omega)
    clear hq
    unfold af28
    simp only [zipI]
    (repeat (first | (with_reducible apply zah; (focus ((conv => lhs; simp [↓zbo, Nat.testBit_eq_decide_div_mod_eq, *]) <;> exact rfl)); simp only [addFl]) | ((with_reducible first | apply zai | apply zak | apply zag | apply zae | apply zac | apply zaj | apply zaf | apply zam | (apply zad; · simp [zaa, *]) | (apply zab; · simp [zaa, *])); try simp only [Then, Ops]) | simp only [Nat.reduceEqDiff, reduceIte, OutB, Then]))
    refine zao (.inl rfl) rfl (by simp) (by simp only [resL, resOf, zal]; simp [pickC, resV, *]) ⟨rfl, ?_, rfl⟩
    simp
end K
end Ev
end Go.Proofs.Ytimgnlellflciaa

/- The code of functions of the laws, for the evaluator. Printed by program. -/
namespace Go.Proofs.Ytimgnlellflciaa
open Go
namespace Ev
end Ev
end Go.Proofs.Ytimgnlellflciaa

/- ClampTrue, gone through: numbers by remainders. -/
namespace Go.Proofs.Ytimgnlellflciaa
open Go
namespace Ev
namespace K
set_option maxRecDepth 100000
set_option maxHeartbeats 4000000
structure HB (G : List AB) (q : Nat) (x : AB) : Prop where
  get : G[q]? = some x
  lt : q < G.length
  lts : ∀ n, q < G.length + n
theorem hb {G : List AB} {q : Nat} {x : AB} (h : G[q]? = some x) : HB G q x := ⟨h, get_lt h, fun n => by have := get_lt h; omega⟩
theorem HB.set {G : List AB} {q r : Nat} {x : AB} (h : HB G q x) (v : AB) (hne : r ≠ q) : HB (G.set r v) q x := hb (by rw [List.getElem?_set_ne hne]; exact h.get)
theorem HB.here {G : List AB} {q : Nat} {x : AB} (h : HB G q x) (v : AB) : HB (G.set q v) q v := hb (by rw [List.getElem?_set_self h.lt])
theorem HB.app {G : List AB} {q : Nat} {x : AB} (h : HB G q x) (K : List AB) : HB (G ++ K) q x := hb (by rw [List.getElem?_append_left h.lt]; exact h.get)
theorem zbb {C : Cfg} {call : CallF} {pin : Nat} {nod : Bool} {fl : List (Nat × List Nat)} {o : AOp} {st : St} {v : AV} {hp : List AB} {tc : List Nat} (hg : o.guard = Option.none) (hk : spineK o.op = true)
    (hs : spine call (val C st.tm) st.hp o.op = some (.ret v, hp, tc)) (hd0 : Nat.beq o.deps (Nat.sub (Nat.pow 2 o.ix) 1) = true) (hf0 : (fl.all fun p => Nat.ble (p.1 + 1) o.ix) = true) :
    ev1 C call pin nod true fl o st = some (.next Option.none { st with hp := hp, tm := putT st.tm o.dst v, tc := tc.filter (· < pin) ++ st.tc }) := by
  have hd : o.deps = 2 ^ o.ix - 1 := Nat.eq_of_beq_eq_true hd0
  clear hd0
  obtain ⟨ix, dst, op, guard, deps⟩ := o
  dsimp only at hg hk hs hd hf0
  have hf : (fl.all fun p => deps.testBit p.1) = true := by
    rw [List.all_eq_true] at hf0 ⊢
    intro p hp
    have := Nat.le_of_ble_eq_true (hf0 p hp)
    rw [hd, Nat.testBit_two_pow_sub_one]
    exact decide_eq_true (by omega)
  subst hg
  have h1 : (fl.all fun p => deps.testBit p.1 || apart p.2 tc) = true := by
    rw [List.all_eq_true] at hf ⊢
    intro p hp
    rw [hf p hp, Bool.true_or]
  unfold ev1
  simp only [wantG]
  cases op <;> first | (simp only [spine] at hs; cases hs; done) | (simp only [spineK] at hk; cases hk; done) | (simp only [hs, h1, Bool.or_true, spineK, cond_true])
end K
end Ev
end Go.Proofs.Ytimgnlellflciaa

/- The plain law of ClampAll. -/
namespace Go.Proofs.Ytimgnlellflciaa
open Go
namespace Clm
def hasC (c : Cl) (i : Nat) : Sp := ofAll c i fun _ => leftW c
theorem zge {c : Cl} (hc : Fine c) {counts : Nat} {k : Int} (h : k ∈ packs c counts) : 0 ≤ k ∧ k ≤ 5 ∧ c.pack.lo ≤ k ∧ k ≤ c.pack.hi ∧ ∀ i, i < c.piles.length → ways c i k counts ≠ [] := by
  unfold packs at h
  rw [List.mem_filter, mem_span] at h
  have := hc.pack
  simp only [Sp.has] at h
  refine ⟨by omega, by omega, by omega, by omega, fun i hi => ?_⟩
  have h2 := List.all_eq_true.1 h.2 i (by simpa using hi)
  simpa using h2
theorem zfc {c : Cl} {s : Nat} (h : can c s = true) : packs c s ≠ [] := by
  unfold can at h
  intro e
  rw [e] at h; cases h
def fullC (c : Cl) : Nat := 2 ^ c.piles.length - 1
theorem zyu (c : Cl) {i : Nat} (h : i < c.piles.length) : bit (fullC c) i = true := by
  unfold bit fullC; rw [Nat.testBit_two_pow_sub_one]; simpa using h
theorem zwm : ∀ (l : List Bf) (s : Sp), s.lo ≤ s.hi → (∀ e ∈ l, e.fine) → 0 ≤ s.lo → (ends l s).some = true → (ends l s).hi ≤ s.hi
  | [], s, _, _, _, _ => Int.le_refl _
  | e :: l, s, hs, hf, h0, hso => by
    simp only [ends, List.foldl_cons] at hso ⊢
    have he := hf e (by simp)
    by_cases hc : (e.after s).lo ≤ (e.after s).hi
    · have ih := zwm l (e.after s) hc (fun e h => hf e (by simp [h])) (zfn e s h0) hso
      simp only [ends] at ih
      have : (e.after s).hi ≤ s.hi := by
        cases e with
        | nil => exact Int.le_refl _
        | sale t =>
          simp only [Bf.fine] at he
          unfold Bf.after at hc ⊢
          simp only at hc ⊢
          split
          · rename_i hh; rw [if_pos hh] at hc; simp only [Sp.no] at hc; omega
          · simp only; omega
        | count t =>
          unfold Bf.after Sp.both at hc ⊢
          simp only at hc ⊢
          split
          · rename_i hh; rw [if_pos hh] at hc; simp only [Sp.no] at hc; omega
          · simp only; omega
      omega
    · exfalso
      have hn : ∀ (l : List Bf) (t : Sp), (∀ e ∈ l, e.fine) → 0 ≤ t.lo → t.hi < t.lo → (ends l t).some = false := by
        intro l
        induction l with
        | nil => intro t _ _ h; show decide (t.lo ≤ t.hi) = false; exact decide_eq_false (by omega)
        | cons e l ih =>
          intro t hf h0 h
          simp only [ends, List.foldl_cons]
          refine ih (e.after t) (fun e h => hf e (by simp [h])) (zfn e t h0) ?_
          cases e with
          | nil => exact h
          | sale u =>
            unfold Bf.after
            simp only
            rw [if_pos (.inl (by unfold Sp.some; simp; omega))]
            decide
          | count u =>
            unfold Bf.after Sp.both
            simp only
            split
            · decide
            · rename_i hh; simp only; omega
      have := hn l (e.after s) (fun e h => hf e (by simp [h])) (zfn e s h0) (by omega)
      simp only [ends] at this
      rw [this] at hso; cases hso
end Clm
end Go.Proofs.Ytimgnlellflciaa

/- The plain law of ClampClash. -/
namespace Go.Proofs.Ytimgnlellflciaa
open Go
namespace Clm
def keepN {α : Type} (p : Nat → α → Bool) (l : List α) (i : Nat) : List α := ((l.take i).zipIdx.filter fun q => p q.2 q.1).map (·.1)
def isIn (s : Nat) (i : Nat) (v : Evt) : Bool := decide (v.kind ≠ 1) || s.testBit i
def only (c : Cl) (s : Nat) : Cl := { c with events := keepN (isIn s) c.events c.events.length }
def bfOf (n : Int) (v : Evt) : Bf := if v.clamp ≠ n then .nil else if v.kind = 0 then .sale v.sods else .count v.sods
theorem zcd (c : Cl) (_hk : ∀ v ∈ c.events, v.kind = 0 ∨ v.kind = 1) (n : Int) : befell c n (every c) = c.events.map (bfOf n) := by
  have : befell c n (every c) = c.events.zipIdx.map fun p => bfOf n p.1 := by
    unfold befell
    refine List.map_congr_left fun p hp => ?_
    obtain ⟨v, i⟩ := p
    obtain ⟨_, h2, h3⟩ := List.mem_zipIdx hp
    simp only at h2 h3 ⊢
    unfold bfOf bit
    rw [zng, decide_eq_true (by omega), if_pos rfl]
  rw [this, ← Function.comp_def (bfOf n) Prod.fst, ← List.map_map]
  congr 1
  simp
end Clm
end Go.Proofs.Ytimgnlellflciaa

/- The plain law of ClampEnds: what a clamp has, and a count more. -/
namespace Go.Proofs.Ytimgnlellflciaa
open Go
namespace Clm
open Ev.K (builtG soldG)
theorem left_way {c : Cl} (hc : Fine c) {i : Nat} (hi : i < c.piles.length) {k : Int} (h0 : 0 ≤ k) (h5 : k ≤ 5) {w : Way} (hw : w ∈ ways c i k (every c)) : 0 ≤ (leftW c w).lo ∧ (leftW c w).lo ≤ (leftW c w).hi ∧ (leftW c w).hi ≤ w.size.sods k ∧ 0 ≤ w.size.sods k ∧ w.size.sods k ≤ 5000 := by
  obtain ⟨h1, h2, y, h3⟩ := (mem_ways hc hi h0 _ w).1 hw
  obtain ⟨s0, s1⟩ := ztt hc hi h0 h5 h1
  have hf := zde hc i (every c)
  have e2 : leftW c w = ends (befell c i (every c)) ⟨w.size.sods k, w.size.sods k⟩ := by
    rw [← zon]; obtain ⟨a, b⟩ := w; simp only at h2; subst h2; rfl
  have hh := (zgj _ _ y hf s0).2 h3
  have hs := (zic _).2 ⟨y, hh⟩
  have h4 := zwm (befell c i (every c)) ⟨w.size.sods k, w.size.sods k⟩ (Int.le_refl _) hf s0 hs
  have h5 := zwl (befell c i (every c)) ⟨w.size.sods k, w.size.sods k⟩ s0
  rw [zfz] at hs
  rw [e2]
  exact ⟨h5, hs, h4, s0, s1⟩
theorem zif {c : Cl} (hc : Fine c) (hcan : can c (every c) = true) {i : Nat} (hi : i < c.piles.length) : Hull (hasC c i) fun y => ∃ k ∈ packs c (every c), ∃ n, Poss c i k (every c) n y :=
  zdc (fun k => spanOf c i k (leftW c)) (fun k y => ∃ n, Poss c i k (every c) n y) _ (zfc hcan) fun k hk => by
    obtain ⟨h0, _, _, _, hw⟩ := zge hc hk
    exact zmx hc hi h0 (hw i hi)
def plus (c : Cl) (v : Evt) : Cl := { c with events := c.events ++ [v] }
theorem plus_fine {c : Cl} (hc : Fine c) (h6 : c.events.length < 6) {v : Evt} (hv : (0 ≤ v.clamp ∧ v.clamp < c.piles.length) ∧ (v.kind = 0 ∨ v.kind = 1) ∧ 0 ≤ v.sods.lo ∧ v.sods.lo ≤ v.sods.hi ∧ v.sods.hi ≤ 5000 ∧ v.sods.hi - v.sods.lo ≤ (if v.kind = 0 then 3 else 5000)) : Fine (plus c v) :=
  ⟨hc.piles, hc.pack, by simp [plus]; omega, hc.pile, fun u hu => by
    simp only [plus, List.mem_append, List.mem_singleton] at hu
    rcases hu with hu | rfl
    · exact hc.event u hu
    · exact hv⟩
theorem zcm : ∀ (l : List Bf) (e : Bf) (x y : Int), Goes (l ++ [e]) x y ↔ ∃ z, Goes l x z ∧ Goes [e] z y
  | [], e, x, y => ⟨fun h => ⟨x, rfl, h⟩, fun ⟨z, h1, h2⟩ => by have h1 : z = x := h1; subst h1; exact h2⟩
  | a :: l, e, x, y => by
    rw [List.cons_append, zdd]
    constructor
    · rintro ⟨z, h1, h2⟩
      obtain ⟨u, h3, h4⟩ := (zcm l e z y).1 h2
      exact ⟨u, (zdd ..).2 ⟨z, h1, h3⟩, h4⟩
    · rintro ⟨u, h1, h2⟩
      obtain ⟨z, h3, h4⟩ := (zdd ..).1 h1
      exact ⟨z, h3, (zcm l e z y).2 ⟨u, h4, h2⟩⟩
theorem zel {c : Cl} {v : Evt} (hk : ∀ u ∈ (plus c v).events, u.kind = 0 ∨ u.kind = 1) (n : Int) : befell (plus c v) n (every (plus c v)) = befell c n (every c) ++ [bfOf n v] := by
  rw [zcd _ hk, zcd c fun u hu => hk u (by simp [plus, hu])]
  simp [plus]
theorem zgf {c : Cl} (hc : Fine c) (s : Nat) (k : Int) : k ∈ packs c s ↔ c.pack.has k ∧ ∀ i, i < c.piles.length → ∃ n y, Poss c i k s n y := by
  have hp := hc.pack
  constructor
  · intro hk
    obtain ⟨h0, _, h1, h2, h3⟩ := zge hc hk
    exact ⟨⟨h1, h2⟩, fun i hi => (zns hc hi h0 s).1 (h3 i hi)⟩
  · rintro ⟨hk, h⟩
    simp only [Sp.has] at hk
    unfold packs
    rw [List.mem_filter, mem_span]
    refine ⟨hk, List.all_eq_true.2 fun i hi => ?_⟩
    have hi' : i < c.piles.length := by simpa using hi
    simpa using (zns hc hi' (by omega) s).2 (h i hi')
end Clm
end Go.Proofs.Ytimgnlellflciaa

/- What is returned, as hulls of what truths have. -/
namespace Go.Proofs.Ytimgnlellflciaa
open Go
namespace Clm
open Ev.K (builtG soldG)
theorem Hull.le_of {s t : Sp} {P Q : Int → Prop} (h : Hull s P) (g : Hull t Q) (hi : ∀ x, P x → Q x) : t.lo ≤ s.lo ∧ s.hi ≤ t.hi := by
  have h1 := g.all _ (hi _ h.lo); have h2 := g.all _ (hi _ h.hi)
  simp only [Sp.has] at h1 h2; omega
theorem zfk {c : Cl} (hc : Fine c) (hcan : can c (every c) = true) {i : Nat} (hi : i < c.piles.length) : Hull (ofAll c i builtG) fun x => ∃ k ∈ packs c (every c), ∃ y, Poss c i k (every c) x y :=
  zdc (fun k => spanOf c i k (builtG k)) (fun k x => ∃ y, Poss c i k (every c) x y) _ (zfc hcan) fun k hk => by
    obtain ⟨h0, _, _, _, hw⟩ := zge hc hk
    refine (zdc (builtG k) (fun w x => x = w.size.sods k) _ (hw i hi) fun w _ => ?_).congr fun x => ?_
    · exact ⟨rfl, rfl, fun x e => by subst e; exact ⟨Int.le_refl _, Int.le_refl _⟩⟩
    · constructor
      · rintro ⟨w, hw, rfl⟩
        obtain ⟨h1, _, y, h3⟩ := (mem_ways hc hi h0 _ w).1 hw
        exact ⟨y, w.size, h1, rfl, h3⟩
      · rintro ⟨y, s, h1, rfl, h3⟩
        exact ⟨⟨s, logOf c i k (every c) s⟩, (mem_ways hc hi h0 _ _).2 ⟨h1, rfl, y, h3⟩, rfl⟩
theorem zxc {c : Cl} (hc : Fine c) {i : Nat} (hi : i < c.piles.length) {k : Int} (h0 : 0 ≤ k) {w : Way} (hw : w ∈ ways c i k (every c)) : Hull (leftW c w) fun y => Goes (befell c i (every c)) (w.size.sods k) y := by
  obtain ⟨h1, h2, h3⟩ := (mem_ways hc hi h0 _ w).1 hw
  have hf := zde hc i (every c)
  have hn := zid hc hi h0 h1
  have e : leftW c w = ends (befell c i (every c)) ⟨w.size.sods k, w.size.sods k⟩ := by
    rw [← zon]; obtain ⟨a, b⟩ := w; simp only at h2; subst h2; rfl
  rw [e]
  refine (zna ?_).congr fun y => zgj _ _ y hf hn
  obtain ⟨y, hy⟩ := h3
  exact (zic _).2 ⟨y, (zgj _ _ y hf hn).2 hy⟩
theorem zga {c : Cl} (hc : Fine c) (hcan : can c (every c) = true) {i : Nat} (hi : i < c.piles.length) : Hull (ofAll c i (soldG c)) fun x => ∃ k ∈ packs c (every c), ∃ n y, Poss c i k (every c) n y ∧ x = n - y :=
  zdc (fun k => spanOf c i k (soldG c k)) (fun k x => ∃ n y, Poss c i k (every c) n y ∧ x = n - y) _ (zfc hcan) fun k hk => by
    obtain ⟨h0, _, _, _, hw⟩ := zge hc hk
    refine (zdc (soldG c k) (fun w x => ∃ y, Goes (befell c i (every c)) (w.size.sods k) y ∧ x = w.size.sods k - y) _ (hw i hi) fun w hw => ?_).congr fun x => ?_
    · have hh := zxc hc hi h0 hw
      exact ⟨⟨_, hh.hi, rfl⟩, ⟨_, hh.lo, rfl⟩, fun x ⟨y, hy, e⟩ => by
        have := hh.all y hy; simp only [Sp.has, soldG] at this ⊢; omega⟩
    · constructor
      · rintro ⟨w, hw, y, h3, rfl⟩
        obtain ⟨h1, _, _⟩ := (mem_ways hc hi h0 _ w).1 hw
        exact ⟨_, y, ⟨w.size, h1, rfl, h3⟩, rfl⟩
      · rintro ⟨n, y, ⟨s, h1, rfl, h3⟩, rfl⟩
        exact ⟨⟨s, logOf c i k (every c) s⟩, (mem_ways hc hi h0 _ _).2 ⟨h1, rfl, y, h3⟩, y, h3, rfl⟩
def sumF (set : Nat) (f : Nat → Int) : Nat → Int
  | 0 => 0
  | n + 1 => if bit set n then sumF set f n + f n else sumF set f n
theorem zgs (set : Nat) {f g : Nat → Int} : ∀ n, (∀ j, j < n → f j = g j) → sumF set f n = sumF set g n
  | 0, _ => rfl
  | n + 1, h => by
    unfold sumF
    rw [zgs set n fun j hj => h j (by omega), h n (by omega)]
theorem zpr {c : Cl} (hc : Fine c) {k : Int} (hk : k ∈ packs c (every c)) (set : Nat) : ∀ m, m ≤ c.piles.length → Hull (sumTo c set k m) fun x => ∃ f : Nat → Int, (∀ j, j < m → ∃ n, Poss c j k (every c) n (f j)) ∧ x = sumF set f m
  | 0, _ => ⟨⟨fun _ => 0, fun j h => absurd h (by omega), rfl⟩, ⟨fun _ => 0, fun j h => absurd h (by omega), rfl⟩, fun x ⟨f, _, e⟩ => by subst e; exact ⟨Int.le_refl _, Int.le_refl _⟩⟩
  | m + 1, h => by
    have ih := zpr hc hk set m (by omega)
    obtain ⟨h0, _, _, _, hw⟩ := zge hc hk
    have hl := zmx hc (i := m) (by omega) h0 (hw m (by omega))
    rw [sumTo_succ]
    by_cases hb : bit set m = true
    · rw [if_pos hb]
      refine (ih.add hl).congr fun x => ?_
      constructor
      · rintro ⟨y, z, ⟨f, h1, rfl⟩, h2, rfl⟩
        refine ⟨fun j => if j = m then z else f j, fun j hj => ?_, ?_⟩
        · by_cases hjm : j = m
          · subst hjm; simpa using h2
          · simp only [if_neg hjm]; exact h1 j (by omega)
        · have e := zgs set (f := fun j => if j = m then z else f j) (g := f) m fun j hj => if_neg (by omega)
          show _ = if bit set m then sumF set (fun j => if j = m then z else f j) m + (if m = m then z else f m) else _
          rw [if_pos hb, if_pos rfl, e]
      · rintro ⟨f, h1, rfl⟩
        refine ⟨_, _, ⟨f, fun j hj => h1 j (by omega), rfl⟩, h1 m (by omega), ?_⟩
        rw [sumF, if_pos hb]
    · rw [if_neg hb]
      refine ih.congr fun x => ?_
      constructor
      · rintro ⟨f, h1, rfl⟩
        obtain ⟨n, z, hz⟩ := (zns hc (i := m) (by omega) h0 _).1 (hw m (by omega))
        refine ⟨fun j => if j = m then z else f j, fun j hj => ?_, ?_⟩
        · by_cases hjm : j = m
          · subst hjm; exact ⟨n, by simpa using hz⟩
          · simp only [if_neg hjm]; exact h1 j (by omega)
        · have e := zgs set (f := fun j => if j = m then z else f j) (g := f) m fun j hj => if_neg (by omega)
          show _ = if bit set m then _ else sumF set (fun j => if j = m then z else f j) m
          rw [if_neg hb, e]
      · rintro ⟨f, h1, rfl⟩
        refine ⟨f, fun j hj => h1 j (by omega), ?_⟩
        rw [sumF, if_neg hb]
theorem zib {c : Cl} (hc : Fine c) (hcan : can c (every c) = true) (set : Nat) : Hull (together c set) fun x => ∃ k ∈ packs c (every c), ∃ f : Nat → Int, (∀ j, j < c.piles.length → ∃ n, Poss c j k (every c) n (f j)) ∧ x = sumF set f c.piles.length := by
  rw [together_eq]
  exact zdc (fun k => sumTo c set k c.piles.length) _ _ (zfc hcan) fun k hk => zpr hc hk set _ (Nat.le_refl _)
structure Less (c d : Cl) : Prop where
  many : c.piles.length = d.piles.length
  pack : c.pack = d.pack
  poss : ∀ i, i < c.piles.length → ∀ k n y, Poss c i k (every c) n y → Poss d i k (every d) n y
theorem Less.packs {c d : Cl} (h : Less c d) (hc : Fine c) (hd : Fine d) {k : Int} (hk : k ∈ packs c (every c)) : k ∈ Clm.packs d (every d) := by
  obtain ⟨h1, h2⟩ := (zgf hc _ k).1 hk
  refine (zgf hd _ k).2 ⟨by rw [← h.pack]; exact h1, fun i hi => ?_⟩
  rw [← h.many] at hi
  obtain ⟨n, y, h3⟩ := h2 i hi
  exact ⟨n, y, h.poss i hi k n y h3⟩
theorem Less.can {c d : Cl} (h : Less c d) (hc : Fine c) (hd : Fine d) (hcan : can c (every c) = true) : Clm.can d (every d) = true := by
  obtain ⟨k, hk⟩ := List.exists_mem_of_ne_nil _ (zfc hcan)
  have := h.packs hc hd hk
  unfold Clm.can
  cases h' : Clm.packs d (every d) with
  | nil => rw [h'] at this; cases this
  | cons a l => rfl
def In (a b : Sp) : Prop := b.lo ≤ a.lo ∧ a.hi ≤ b.hi
theorem Less.all {c d : Cl} (h : Less c d) (hc : Fine c) (hd : Fine d) (hcan : Clm.can c (every c) = true) : (∀ i, i < c.piles.length → In (ofAll c i builtG) (ofAll d i builtG) ∧ In (hasC c i) (hasC d i) ∧ In (ofAll c i (soldG c)) (ofAll d i (soldG d))) ∧ ∀ set, In (together c set) (together d set) := by
  have hcan' := h.can hc hd hcan
  constructor
  · intro i hi
    have hi' : i < d.piles.length := by rw [← h.many]; exact hi
    refine ⟨(zfk hc hcan hi).le_of (zfk hd hcan' hi') ?_, (zif hc hcan hi).le_of (zif hd hcan' hi') ?_, (zga hc hcan hi).le_of (zga hd hcan' hi') ?_⟩
    · rintro x ⟨k, hk, y, hp⟩; exact ⟨k, h.packs hc hd hk, y, h.poss i hi k x y hp⟩
    · rintro x ⟨k, hk, n, hp⟩; exact ⟨k, h.packs hc hd hk, n, h.poss i hi k n x hp⟩
    · rintro x ⟨k, hk, n, y, hp, e⟩; exact ⟨k, h.packs hc hd hk, n, y, h.poss i hi k n y hp, e⟩
  · intro set
    refine (zib hc hcan set).le_of (zib hd hcan' set) ?_
    rintro x ⟨k, hk, f, hf, rfl⟩
    refine ⟨k, h.packs hc hd hk, f, fun j hj => ?_, by rw [h.many]⟩
    rw [← h.many] at hj
    obtain ⟨n, hn⟩ := hf j hj
    exact ⟨n, h.poss j hj k n _ hn⟩
end Clm
end Go.Proofs.Ytimgnlellflciaa

/- The plain law of ClampMore: narrower sales, a count more, two sales as one, clamps numbered otherwise. -/
namespace Go.Proofs.Ytimgnlellflciaa
open Go
namespace Clm
def setTo {α : Type} (f : Nat → α → α) (l : List α) : Nat → List α
  | 0 => l
  | i + 1 => match l[i]? with
    | some v => (setTo f l i).set i (f i v)
    | none => setTo f l i
theorem setTo_len {α : Type} (f : Nat → α → α) (l : List α) : ∀ i, (setTo f l i).length = l.length
  | 0 => rfl
  | i + 1 => by
    unfold setTo
    split
    · rw [List.length_set, setTo_len f l i]
    · exact setTo_len f l i
theorem setTo_succ {α : Type} {f : Nat → α → α} {l : List α} {i : Nat} {v : α} (h : l[i]? = some v) : setTo f l (i + 1) = (setTo f l i).set i (f i v) := by
  show (match l[i]? with | some v => (setTo f l i).set i (f i v) | none => setTo f l i) = _
  rw [h]
theorem setTo_get {α : Type} (f : Nat → α → α) (l : List α) : ∀ i j, (setTo f l i)[j]? = if j < i then l[j]?.map (f j) else l[j]?
  | 0, j => by simp [setTo]
  | i + 1, j => by
    have ih := setTo_get f l i j
    have hl := setTo_len f l i
    cases h : l[i]? with
    | some v =>
      have hi := (List.getElem?_eq_some_iff.1 h).1
      rw [setTo_succ h, List.getElem?_set]
      by_cases hji : i = j
      · subst hji
        rw [if_pos rfl, if_pos (by omega), if_pos (by omega), h]; rfl
      · rw [if_neg hji, ih]
        by_cases hlt : j < i
        · rw [if_pos hlt, if_pos (by omega)]
        · rw [if_neg hlt, if_neg (by omega)]
    | none =>
      have hi := List.getElem?_eq_none_iff.1 h
      have e : setTo f l (i + 1) = setTo f l i := by
        show (match l[i]? with | some v => _ | none => _) = _
        rw [h]
      rw [e, ih]
      by_cases hlt : j < i
      · rw [if_pos hlt, if_pos (by omega)]
      · rw [if_neg hlt]
        have hn : l[j]? = none := List.getElem?_eq_none (by omega)
        rw [hn]; simp
theorem zqm : ∀ {l m : List Bf}, l.length = m.length → (∀ (i : Nat) a b, l[i]? = some a → m[i]? = some b → ∀ x y, Goes [a] x y → Goes [b] x y) → ∀ x y, Goes l x y → Goes m x y
  | [], [], _, _, _, _, h => h
  | [], b :: m, hl, _, _, _, _ => by simp at hl
  | a :: l, [], hl, _, _, _, _ => by simp at hl
  | a :: l, b :: m, hl, hs, x, y, h => by
    obtain ⟨z, h1, h2⟩ := (zdd ..).1 h
    exact (zdd ..).2 ⟨z, hs 0 a b rfl rfl x z h1, zqm (by simpa using hl) (fun i a b ha hb => hs (i + 1) a b (by simpa using ha) (by simpa using hb)) z y h2⟩
def narE (w : Nat) (k : Nat) (v : Evt) : Evt := if v.kind = 0 then (if (w + k) % 2 = 0 then ⟨v.kind, v.clamp, ⟨min v.sods.hi (v.sods.lo + 1), v.sods.hi⟩⟩ else ⟨v.kind, v.clamp, ⟨v.sods.lo, max v.sods.lo (v.sods.hi - 1)⟩⟩) else v
def narrow (c : Cl) (w : Nat) : Cl := { c with events := setTo (narE w) c.events c.events.length }
theorem yaf {c : Cl} {w k : Nat} {v : Evt} (h : (0 ≤ v.clamp ∧ v.clamp < c.piles.length) ∧ (v.kind = 0 ∨ v.kind = 1) ∧ 0 ≤ v.sods.lo ∧ v.sods.lo ≤ v.sods.hi ∧ v.sods.hi ≤ 5000 ∧ v.sods.hi - v.sods.lo ≤ (if v.kind = 0 then 3 else 5000)) :
    (0 ≤ (narE w k v).clamp ∧ (narE w k v).clamp < c.piles.length) ∧ ((narE w k v).kind = 0 ∨ (narE w k v).kind = 1) ∧ 0 ≤ (narE w k v).sods.lo ∧ (narE w k v).sods.lo ≤ (narE w k v).sods.hi ∧ (narE w k v).sods.hi ≤ 5000 ∧ (narE w k v).sods.hi - (narE w k v).sods.lo ≤ (if (narE w k v).kind = 0 then 3 else 5000) := by
  obtain ⟨h1, h2, h3, h4, h5, h6⟩ := h
  unfold narE
  by_cases hk : v.kind = 0
  · rw [if_pos hk] at h6 ⊢
    by_cases hw : (w + k) % 2 = 0
    · rw [if_pos hw]
      exact ⟨h1, h2, by simp only; omega, by simp only; omega, h5, by simp only; rw [if_pos hk]; omega⟩
    · rw [if_neg hw]
      exact ⟨h1, h2, h3, by simp only; omega, by simp only; omega, by simp only; rw [if_pos hk]; omega⟩
  · rw [if_neg hk]
    exact ⟨h1, h2, h3, h4, h5, h6⟩
theorem zoi {c : Cl} (hc : Fine c) (w : Nat) : Fine (narrow c w) :=
  ⟨hc.piles, hc.pack, by show (setTo _ _ _).length ≤ 6; rw [setTo_len]; exact hc.events, hc.pile, fun v hv => by
    obtain ⟨j, hj⟩ := List.getElem?_of_mem hv
    have := setTo_get (narE w) c.events c.events.length j
    rw [show (setTo (narE w) c.events c.events.length)[j]? = some v from hj] at this
    split at this
    · obtain ⟨u, h1, h2⟩ := Option.map_eq_some_iff.1 this.symm
      subst h2
      exact yaf (hc.event u (List.mem_of_getElem? h1))
    · exact hc.event v (List.mem_of_getElem? this.symm)⟩
theorem narrow_less {c : Cl} (hc : Fine c) (w : Nat) : Less (narrow c w) c := by
  refine ⟨rfl, rfl, fun i hi k n y ⟨s, h1, h2, h3⟩ => ⟨s, h1, h2, ?_⟩⟩
  rw [zcd _ fun v hv => ((zoi hc w).event v hv).2.1] at h3
  rw [zcd _ fun v hv => (hc.event v hv).2.1]
  refine zqm (by rw [List.length_map, List.length_map]; exact setTo_len _ _ _) (fun j a b ha hb x y hg => ?_) n y h3
  rw [List.getElem?_map] at ha hb
  obtain ⟨v, hv, rfl⟩ := Option.map_eq_some_iff.1 hb
  obtain ⟨u, hu, rfl⟩ := Option.map_eq_some_iff.1 ha
  have hj := (List.getElem?_eq_some_iff.1 hv).1
  have e := setTo_get (narE w) c.events c.events.length j
  rw [show (setTo (narE w) c.events c.events.length)[j]? = some u from hu, if_pos hj, hv] at e
  have e : u = narE w j v := Option.some.inj e
  subst e
  have hok := hc.event v (List.mem_of_getElem? hv)
  unfold narE at hg
  by_cases hk : v.kind = 0
  · rw [if_pos hk] at hg
    unfold bfOf at hg ⊢
    by_cases hw : (w + j) % 2 = 0
    · rw [if_pos hw] at hg
      simp only at hg
      by_cases hcl : v.clamp = (i : Int)
      · rw [if_neg (by simpa using hcl), if_pos hk] at hg ⊢
        obtain ⟨d, d1, d2, d3, d4⟩ := hg
        exact ⟨d, by simp only at d1; omega, d2, d3, d4⟩
      · rw [if_pos hcl] at hg ⊢; exact hg
    · rw [if_neg hw] at hg
      simp only at hg
      by_cases hcl : v.clamp = (i : Int)
      · rw [if_neg (by simpa using hcl), if_pos hk] at hg ⊢
        obtain ⟨d, d1, d2, d3, d4⟩ := hg
        exact ⟨d, d1, by simp only at d2; omega, d3, d4⟩
      · rw [if_pos hcl] at hg ⊢; exact hg
  · rw [if_neg hk] at hg; exact hg
theorem plus_less {c : Cl} {v : Evt} (hf : Fine (plus c v)) (hv : v.kind = 1) : Less (plus c v) c := by
  refine ⟨rfl, rfl, fun i hi k n y ⟨s, h1, h2, h3⟩ => ⟨s, h1, h2, ?_⟩⟩
  rw [zel fun u hu => (hf.event u hu).2.1, zcm] at h3
  obtain ⟨z, h4, h5⟩ := h3
  unfold bfOf at h5
  have hyz : y = z := by
    by_cases hcl : v.clamp = (i : Int)
    · rw [if_neg (by simpa using hcl), if_neg (by omega)] at h5; exact h5.2.2
    · rw [if_pos hcl] at h5; exact h5
  rw [hyz]; exact h4
def sl (i : Nat) (a : Int) : Evt := ⟨0, i, ⟨a, a⟩⟩
theorem zvw (i j : Nat) (a x y : Int) : Goes [bfOf j (sl i a)] x y ↔ if i = j then a ≤ x ∧ y = x - a else y = x := by
  unfold bfOf sl
  simp only
  by_cases h : (i : Int) = j
  · rw [if_neg (by simpa using h), if_pos trivial, if_pos (by omega)]
    simp only [Goes]
    exact ⟨fun ⟨k, h1, h2, h3, h4⟩ => by omega, fun ⟨h1, h2⟩ => ⟨a, Int.le_refl _, Int.le_refl _, h1, h2⟩⟩
  · rw [if_pos h, if_neg (by omega)]
    simp only [Goes]
theorem two_less {c : Cl} {i : Nat} {a b : Int} (_ha : 0 ≤ a) (hb : 0 ≤ b) (h1 : Fine (plus (plus c (sl i a)) (sl i b))) (h2 : Fine (plus c (sl i (a + b)))) : Less (plus (plus c (sl i a)) (sl i b)) (plus c (sl i (a + b))) ∧ Less (plus c (sl i (a + b))) (plus (plus c (sl i a)) (sl i b)) := by
  have k1 : ∀ u ∈ (plus (plus c (sl i a)) (sl i b)).events, u.kind = 0 ∨ u.kind = 1 := fun u hu => (h1.event u hu).2.1
  have k2 : ∀ u ∈ (plus c (sl i a)).events, u.kind = 0 ∨ u.kind = 1 := fun u hu => k1 u (by simp only [plus, List.mem_append]; exact .inl (by simpa [plus] using hu))
  have k3 : ∀ u ∈ (plus c (sl i (a + b))).events, u.kind = 0 ∨ u.kind = 1 := fun u hu => (h2.event u hu).2.1
  have key : ∀ (j : Nat) (n y : Int), Goes (befell (plus (plus c (sl i a)) (sl i b)) j (every (plus (plus c (sl i a)) (sl i b)))) n y ↔ Goes (befell (plus c (sl i (a + b))) j (every (plus c (sl i (a + b))))) n y := by
    intro j n y
    rw [zel k1, zel k2, zel k3, zcm, zcm]
    simp only [zcm, zvw]
    by_cases h : i = j
    · simp only [if_pos h]
      exact ⟨fun ⟨z, ⟨u, g1, g2, g3⟩, g4, g5⟩ => ⟨u, g1, by omega, by omega⟩, fun ⟨u, g1, g2, g3⟩ => ⟨u - a, ⟨u, g1, by omega, rfl⟩, by omega, by omega⟩⟩
    · simp only [if_neg h]
      exact ⟨fun ⟨z, ⟨u, g1, g2⟩, g3⟩ => ⟨u, g1, by omega⟩, fun ⟨u, g1, g2⟩ => ⟨u, ⟨u, g1, rfl⟩, g2⟩⟩
  exact ⟨⟨rfl, rfl, fun j _ k n y ⟨s, g1, g2, g3⟩ => ⟨s, g1, g2, (key j n y).1 g3⟩⟩, ⟨rfl, rfl, fun j _ k n y ⟨s, g1, g2, g3⟩ => ⟨s, g1, g2, (key j n y).2 g3⟩⟩⟩
end Clm
end Go.Proofs.Ytimgnlellflciaa

/- The plain law of ClampMore: clamps numbered otherwise. -/
namespace Go.Proofs.Ytimgnlellflciaa
open Go
namespace Clm
def revE (n : Nat) (v : Evt) : Evt := ⟨v.kind, (n : Int) - 1 - v.clamp, v.sods⟩
def revC (c : Cl) : Cl := { c with piles := c.piles.reverse, events := c.events.map (revE c.piles.length) }
theorem revC_len (c : Cl) : (revC c).piles.length = c.piles.length := by simp [revC]
theorem revC_fine {c : Cl} (hc : Fine c) : Fine (revC c) :=
  ⟨by rw [revC_len]; exact hc.piles, hc.pack, by show (c.events.map _).length ≤ 6; rw [List.length_map]; exact hc.events, fun p hp => hc.pile p (by simpa [revC] using hp), fun v hv => by
    obtain ⟨u, hu, rfl⟩ := List.mem_map.1 hv
    obtain ⟨h1, h2⟩ := hc.event u hu
    exact ⟨by rw [revC_len]; simp only [revE]; omega, h2⟩⟩
theorem zuh {c : Cl} {i : Nat} (hi : i < c.piles.length) : (revC c).piles.getD i default = c.piles.getD (c.piles.length - 1 - i) default := by
  simp only [revC, List.getD_eq_getElem?_getD]
  rw [List.getElem?_reverse hi]
theorem ztc {n m : Int} {v u : Evt} (h : v.clamp = n ↔ u.clamp = m) (hk : v.kind = u.kind) (hs : v.sods = u.sods) : bfOf n v = bfOf m u := by
  unfold bfOf
  by_cases g : u.clamp = m
  · have e := h.2 g
    simp [e, g, hk, hs]
  · rw [if_pos (show v.clamp ≠ n from fun q => g (h.1 q)), if_pos (show u.clamp ≠ m from g)]
theorem zgc {c : Cl} (hc : Fine c) {i : Nat} (hi : i < c.piles.length) (k n y : Int) : Poss (revC c) i k (every (revC c)) n y ↔ Poss c (c.piles.length - 1 - i) k (every c) n y := by
  unfold Poss
  rw [zuh hi, zcd _ fun v hv => ((revC_fine hc).event v hv).2.1, zcd _ fun v hv => (hc.event v hv).2.1]
  have : (revC c).events.map (bfOf i) = c.events.map (bfOf ((c.piles.length - 1 - i : Nat) : Int)) := by
    show (c.events.map (revE c.piles.length)).map (bfOf i) = _
    rw [List.map_map]
    refine List.map_congr_left fun v hv => ?_
    have hv := (hc.event v hv).1
    refine ztc ?_ rfl rfl
    show (c.piles.length : Int) - 1 - v.clamp = (i : Int) ↔ v.clamp = ((c.piles.length - 1 - i : Nat) : Int)
    omega
  rw [this]
theorem zds {c : Cl} (hc : Fine c) (k : Int) : k ∈ packs (revC c) (every (revC c)) ↔ k ∈ packs c (every c) := by
  rw [zgf (revC_fine hc), zgf hc]
  refine and_congr_right fun _ => ⟨fun h i hi => ?_, fun h i hi => ?_⟩
  · obtain ⟨n, y, h1⟩ := h (c.piles.length - 1 - i) (by rw [revC_len]; omega)
    rw [zgc hc (by omega), show c.piles.length - 1 - (c.piles.length - 1 - i) = i by omega] at h1
    exact ⟨n, y, h1⟩
  · rw [revC_len] at hi
    obtain ⟨n, y, h1⟩ := h (c.piles.length - 1 - i) (by omega)
    exact ⟨n, y, (zgc hc hi k n y).2 h1⟩
theorem revC_can {c : Cl} (hc : Fine c) : can (revC c) (every (revC c)) = can c (every c) := by
  have h : ∀ {d : Cl}, can d (every d) = true ↔ ∃ k, k ∈ packs d (every d) := fun {d} => by
    unfold can
    cases packs d (every d) with
    | nil => simp
    | cons a l => simp
  rw [Bool.eq_iff_iff, h, h]
  simp only [zds hc]
theorem zep {f : Nat → Int} {s : Nat} : ∀ n, (∀ j, j < n → bit s j = true) → sumF s f n = (List.range n).foldl (fun a j => a + f j) 0
  | 0, _ => rfl
  | n + 1, h => by
    rw [List.range_succ, List.foldl_append, ← zep n fun j hj => h j (by omega)]
    show (if bit s n then _ else _) = _
    rw [if_pos (h n (by omega))]; rfl
theorem ztp {f : Nat → Int} {n : Nat} (h : n ≤ 4) : (List.range n).foldl (fun a j => a + f (n - 1 - j)) 0 = (List.range n).foldl (fun a j => a + f j) 0 := by
  match n, h with
  | 0, _ => rfl
  | 1, _ => rfl
  | 2, _ => show 0 + f 1 + f 0 = 0 + f 0 + f 1; omega
  | 3, _ => show 0 + f 2 + f 1 + f 0 = 0 + f 0 + f 1 + f 2; omega
  | 4, _ => show 0 + f 3 + f 2 + f 1 + f 0 = 0 + f 0 + f 1 + f 2 + f 3; omega
theorem revC_all {c : Cl} (hc : Fine c) (hcan : can c (every c) = true) : (∀ i, i < c.piles.length → ofAll (revC c) (c.piles.length - 1 - i) Ev.K.builtG = ofAll c i Ev.K.builtG ∧ hasC (revC c) (c.piles.length - 1 - i) = hasC c i ∧ ofAll (revC c) (c.piles.length - 1 - i) (Ev.K.soldG (revC c)) = ofAll c i (Ev.K.soldG c)) ∧ together (revC c) (fullC (revC c)) = together c (fullC c) := by
  have hf := revC_fine hc
  have hcan' : can (revC c) (every (revC c)) = true := by rw [revC_can hc]; exact hcan
  have hl := revC_len c
  have hp : ∀ i, i < c.piles.length → ∀ k n y, Poss (revC c) (c.piles.length - 1 - i) k (every (revC c)) n y ↔ Poss c i k (every c) n y := fun i hi k n y => by
    rw [zgc hc (by omega), show c.piles.length - 1 - (c.piles.length - 1 - i) = i by omega]
  constructor
  · intro i hi
    have hi' : c.piles.length - 1 - i < (revC c).piles.length := by omega
    refine ⟨((zfk hf hcan' hi').congr fun x => ?_).uniq (zfk hc hcan hi), ((zif hf hcan' hi').congr fun x => ?_).uniq (zif hc hcan hi), ((zga hf hcan' hi').congr fun x => ?_).uniq (zga hc hcan hi)⟩
    · simp only [zds hc, hp i hi]
    · simp only [zds hc, hp i hi]
    · simp only [zds hc, hp i hi]
  · have hfb : ∀ j, j < c.piles.length → bit (fullC c) j = true := fun j hj => zyu c hj
    have hfe : fullC (revC c) = fullC c := by unfold fullC; rw [hl]
    rw [hfe]
    refine ((zib hf hcan' (fullC c)).congr fun x => ?_).uniq (zib hc hcan (fullC c))
    simp only [zds hc, hl]
    refine exists_congr fun k => and_congr_right fun _ => ?_
    constructor
    · rintro ⟨f, h1, rfl⟩
      refine ⟨fun j => f (c.piles.length - 1 - j), fun j hj => ?_, ?_⟩
      · obtain ⟨n, hn⟩ := h1 (c.piles.length - 1 - j) (by omega)
        exact ⟨n, (hp j hj k n _).1 hn⟩
      · rw [zep _ hfb, zep _ hfb, ztp hc.piles.2]
    · rintro ⟨f, h1, rfl⟩
      refine ⟨fun j => f (c.piles.length - 1 - j), fun j hj => ?_, ?_⟩
      · obtain ⟨n, hn⟩ := h1 (c.piles.length - 1 - j) (by omega)
        exact ⟨n, (zgc hc hj k n _).2 hn⟩
      · rw [zep _ hfb, zep _ hfb, ztp hc.piles.2]
end Clm
end Go.Proofs.Ytimgnlellflciaa

/- The code of functions of the laws, for the evaluator. Printed by program. -/
namespace Go.Proofs.Ytimgnlellflciaa
open Go
namespace Ev
def af9 : AFunc := ⟨481, [(.tmp 10)], (.seq (.ops [⟨0, (some 5), (.box (.tmp 0)), none, 0⟩, ⟨1, (some 6), (.box (.tmp 1)), none, 0⟩, ⟨2, (some 10), (.mov (.val (.bool false))), none, 0⟩]) (.seq (.seq (.ops [⟨0, (some 62), (.load (some 4) (.tmp 5)), none, 0⟩, ⟨1, (some 63), (.call (.val (.fn (Fn.func 21) [] [])) [(.tmp 62)]), none, 0⟩, ⟨2, (some 64), (.mov (.tmp 63)), none, 0⟩, ⟨3, (some 65), (.load (some 4) (.tmp 5)), (some (64, false)), 0⟩, ⟨4, (some 66), (.call (.val (.fn (Fn.func 22) [] [])) [(.tmp 65)]), (some (64, false)), 0⟩, ⟨5, (some 67), (.not (.tmp 66)), (some (64, false)), 0⟩, ⟨6, (some 68), (.pick (.tmp 64) (.val (.bool true)) (.tmp 67)), none, 0⟩]) (.cond (.tmp 68) (.seq (.ops [⟨0, (some 69), (.call (.val (.fn (Fn.func 19) [] [])) []), none, 0⟩, ⟨1, (some 10), (.mov (.tmp 69)), none, 0⟩]) .ret) .skip)) (.seq (.ops [⟨0, (some 70), (.fieldA 0 (.tmp 5)), none, 0⟩, ⟨1, (some 71), (.load none (.tmp 70)), none, 0⟩, ⟨2, (some 72), (.len (.tmp 71)), none, 0⟩, ⟨3, (some 11), (.mov (.tmp 72)), none, 0⟩]) (.seq (.ops [⟨0, (some 73), (.mov (.tmp 2)), none, 0⟩, ⟨1, (some 74), (.conv .i64 (.tmp 73)), none, 0⟩, ⟨2, (some 75), (.mov (.tmp 11)), none, 0⟩, ⟨3, (some 76), (.bin .rem (.tmp 74) (.tmp 75)), none, 0⟩, ⟨4, (some 12), (.mov (.tmp 76)), none, 0⟩]) (.seq (.ops [⟨0, (some 77), (.fieldA 0 (.tmp 6)), none, 0⟩, ⟨1, none, (.store 1 (.tmp 77) (.val (.int .i64 1))), none, 0⟩]) (.seq (.draw [⟨0, (some 78), (.load (some 4) (.tmp 5)), none, 0⟩, ⟨1, (some 79), (.load (some 4) (.tmp 6)), none, 0⟩, ⟨3, (some 81), (.load (some 4) (.tmp 5)), none, 0⟩, ⟨4, (some 82), (.load (some 4) (.tmp 5)), none, 0⟩, ⟨5, (some 13), (.alloc [.nils, (.int .i64 0), (.int .i64 0), .nils]), none, 0⟩, ⟨6, (some 14), (.alloc [.nils, (.int .i64 0), (.int .i64 0), .nils]), none, 0⟩, ⟨7, (some 15), (.alloc [.nils, (.int .i64 0), (.int .i64 0), .nils]), none, 0⟩, ⟨2, (some 80), (.call (.val (.fn (Fn.func 28) [] [])) [(.tmp 78), (.tmp 79)]), none, 3⟩, ⟨8, none, (.store 4 (.tmp 13) (.tmp 80)), none, 231⟩, ⟨9, none, (.store 4 (.tmp 14) (.tmp 81)), none, 495⟩, ⟨10, none, (.store 4 (.tmp 15) (.tmp 82)), none, 1023⟩]) (.seq (.ops [⟨0, (some 83), (.buildSl 4 0 [(.int .i64 0), (.int .i64 0), (.int .i64 0), (.int .i64 0)] []), none, 0⟩, ⟨1, (some 84), (.fieldA 3 (.tmp 5)), none, 0⟩, ⟨2, (some 85), (.load none (.tmp 84)), none, 0⟩, ⟨3, (some 86), (.append 4 (.tmp 83) (.tmp 85)), none, 0⟩, ⟨4, (some 87), (.fieldA 3 (.tmp 14)), none, 0⟩, ⟨5, none, (.store 1 (.tmp 87) (.tmp 86)), none, 0⟩]) (.seq (.seq (.ops [⟨0, (some 88), (.fieldA 3 (.tmp 14)), none, 0⟩, ⟨1, (some 89), (.load none (.tmp 88)), none, 0⟩, ⟨2, (some 90), (.len (.tmp 89)), none, 0⟩, ⟨3, (some 91), (.mov (.val (.int .i64 0))), none, 0⟩]) (.block 0 (.loop [2, 3, 4, 5, 11, 12, 13, 14, 15, 90, 91] (.seq (.ops [⟨0, (some 92), (.bin .lss (.tmp 91) (.tmp 90)), none, 0⟩]) (.seq (.cond (.tmp 92) .skip (.exit 0)) (.seq (.block 1 (.seq (.ops [⟨0, (some 93), (.mov (.tmp 91)), none, 0⟩, ⟨1, (some 16), (.mov (.tmp 93)), none, 0⟩]) (.seq (.ops [⟨0, (some 94), (.fieldA 3 (.tmp 14)), none, 0⟩, ⟨1, (some 95), (.load none (.tmp 94)), none, 0⟩, ⟨2, (some 96), (.mov (.tmp 16)), none, 0⟩, ⟨3, (some 97), (.indexA 4 none (.tmp 95) (.tmp 96)), none, 0⟩, ⟨4, (some 98), (.fieldA 2 (.tmp 97)), none, 0⟩, ⟨5, (some 17), (.mov (.tmp 98)), none, 0⟩]) (.seq (.ops [⟨0, (some 99), (.fieldA 3 (.tmp 14)), none, 0⟩, ⟨1, (some 100), (.load none (.tmp 99)), none, 0⟩, ⟨2, (some 101), (.mov (.tmp 16)), none, 0⟩, ⟨3, (some 102), (.indexA 4 none (.tmp 100) (.tmp 101)), none, 0⟩, ⟨4, (some 103), (.fieldA 0 (.tmp 102)), none, 0⟩, ⟨5, (some 104), (.load none (.tmp 103)), none, 0⟩, ⟨6, (some 105), (.bin .eql (.tmp 104) (.val (.int .i64 0))), none, 0⟩]) (.cond (.tmp 105) (.seq (.ops [⟨0, (some 106), (.mov (.tmp 2)), none, 0⟩, ⟨1, (some 107), (.conv .i64 (.tmp 106)), none, 0⟩, ⟨2, (some 108), (.mov (.tmp 16)), none, 0⟩, ⟨3, (some 109), (.bin .add (.tmp 107) (.tmp 108)), none, 0⟩, ⟨4, (some 110), (.bin .rem (.tmp 109) (.val (.int .i64 2))), none, 0⟩, ⟨5, (some 111), (.bin .eql (.tmp 110) (.val (.int .i64 0))), none, 0⟩]) (.cond (.tmp 111) (.draw [⟨0, (some 112), (.mov (.tmp 17)), none, 0⟩, ⟨1, (some 113), (.mov (.tmp 17)), none, 0⟩, ⟨2, (some 114), (.nilck (.tmp 113)), none, 2⟩, ⟨3, (some 115), (.fieldA 1 (.tmp 114)), none, 6⟩, ⟨4, (some 116), (.load none (.tmp 115)), none, 14⟩, ⟨5, (some 117), (.mov (.tmp 17)), none, 0⟩, ⟨6, (some 118), (.nilck (.tmp 117)), none, 32⟩, ⟨7, (some 119), (.fieldA 0 (.tmp 118)), none, 96⟩, ⟨8, (some 120), (.load none (.tmp 119)), none, 224⟩, ⟨9, (some 121), (.bin .add (.tmp 120) (.val (.int .i64 1))), none, 480⟩, ⟨10, (some 122), (.min [(.tmp 116), (.tmp 121)]), none, 1022⟩, ⟨11, (some 123), (.nilck (.tmp 112)), none, 2047⟩, ⟨12, (some 124), (.fieldA 0 (.tmp 123)), none, 4095⟩, ⟨13, none, (.store 1 (.tmp 124) (.tmp 122)), none, 8191⟩]) (.draw [⟨0, (some 125), (.mov (.tmp 17)), none, 0⟩, ⟨1, (some 126), (.mov (.tmp 17)), none, 0⟩, ⟨2, (some 127), (.nilck (.tmp 126)), none, 2⟩, ⟨3, (some 128), (.fieldA 0 (.tmp 127)), none, 6⟩, ⟨4, (some 129), (.load none (.tmp 128)), none, 14⟩, ⟨5, (some 130), (.mov (.tmp 17)), none, 0⟩, ⟨6, (some 131), (.nilck (.tmp 130)), none, 32⟩, ⟨7, (some 132), (.fieldA 1 (.tmp 131)), none, 96⟩, ⟨8, (some 133), (.load none (.tmp 132)), none, 224⟩, ⟨9, (some 134), (.bin .sub (.tmp 133) (.val (.int .i64 1))), none, 480⟩, ⟨10, (some 135), (.max [(.tmp 129), (.tmp 134)]), none, 1022⟩, ⟨11, (some 136), (.nilck (.tmp 125)), none, 2047⟩, ⟨12, (some 137), (.fieldA 1 (.tmp 136)), none, 4095⟩, ⟨13, none, (.store 1 (.tmp 137) (.tmp 135)), none, 8191⟩]))) .skip))))) (.ops [⟨0, (some 138), (.bin .add (.tmp 91) (.val (.int .i64 1))), none, 0⟩, ⟨1, (some 91), (.mov (.tmp 138)), none, 0⟩]))))))) (.seq (.ops [⟨0, (some 139), (.fieldA 0 (.tmp 15)), none, 0⟩, ⟨1, none, (.store 1 (.tmp 139) (.val .nils)), none, 0⟩, ⟨2, (some 140), (.fieldA 3 (.tmp 15)), none, 0⟩, ⟨3, none, (.store 1 (.tmp 140) (.val .nils)), none, 0⟩]) (.seq (.seq (.ops [⟨0, (some 141), (.fieldA 0 (.tmp 5)), none, 0⟩, ⟨1, (some 142), (.load none (.tmp 141)), none, 0⟩, ⟨2, (some 143), (.len (.tmp 142)), none, 0⟩, ⟨3, (some 144), (.mov (.val (.int .i64 0))), none, 0⟩]) (.block 2 (.loop [3, 4, 5, 11, 12, 13, 14, 15, 143, 144] (.seq (.ops [⟨0, (some 145), (.bin .lss (.tmp 144) (.tmp 143)), none, 0⟩]) (.seq (.cond (.tmp 145) .skip (.exit 2)) (.seq (.block 3 (.seq (.ops [⟨0, (some 146), (.mov (.tmp 144)), none, 0⟩, ⟨1, (some 18), (.mov (.tmp 146)), none, 0⟩]) (.draw [⟨0, (some 147), (.fieldA 0 (.tmp 15)), none, 0⟩, ⟨1, (some 148), (.load none (.tmp 147)), none, 1⟩, ⟨2, (some 149), (.fieldA 0 (.tmp 5)), none, 0⟩, ⟨3, (some 150), (.load none (.tmp 149)), none, 4⟩, ⟨4, (some 151), (.mov (.tmp 11)), none, 0⟩, ⟨5, (some 152), (.bin .sub (.tmp 151) (.val (.int .i64 1))), none, 16⟩, ⟨6, (some 153), (.mov (.tmp 18)), none, 0⟩, ⟨7, (some 154), (.bin .sub (.tmp 152) (.tmp 153)), none, 112⟩, ⟨8, (some 155), (.indexA 6 none (.tmp 150) (.tmp 154)), none, 252⟩, ⟨9, (some 156), (.load (some 6) (.tmp 155)), none, 508⟩, ⟨10, (some 157), (.buildSl 6 1 [(.int .i64 0), (.int .i64 0), (.int .i64 0), (.int .i64 0), (.int .i64 0), (.int .i64 0)] [(0, (.tmp 156))]), none, 1020⟩, ⟨11, (some 158), (.append 6 (.tmp 148) (.tmp 157)), none, 2047⟩, ⟨12, (some 159), (.fieldA 0 (.tmp 15)), none, 4095⟩, ⟨13, none, (.store 1 (.tmp 159) (.tmp 158)), none, 8191⟩]))) (.ops [⟨0, (some 160), (.bin .add (.tmp 144) (.val (.int .i64 1))), none, 0⟩, ⟨1, (some 144), (.mov (.tmp 160)), none, 0⟩]))))))) (.seq (.seq (.ops [⟨0, (some 161), (.fieldA 3 (.tmp 5)), none, 0⟩, ⟨1, (some 162), (.load none (.tmp 161)), none, 0⟩, ⟨2, (some 163), (.len (.tmp 162)), none, 0⟩, ⟨3, (some 164), (.mov (.val (.int .i64 0))), none, 0⟩]) (.block 4 (.loop [3, 4, 5, 11, 12, 13, 14, 15, 162, 163, 164] (.seq (.ops [⟨0, (some 165), (.bin .lss (.tmp 164) (.tmp 163)), none, 0⟩]) (.seq (.cond (.tmp 165) .skip (.exit 4)) (.seq (.block 5 (.seq (.ops [⟨0, (some 166), (.indexA 4 none (.tmp 162) (.tmp 164)), none, 0⟩, ⟨1, (some 167), (.load (some 4) (.tmp 166)), none, 0⟩, ⟨2, (some 20), (.alloc [(.int .i64 0), (.int .i64 0), (.int .i64 0), (.int .i64 0)]), none, 0⟩, ⟨3, none, (.store 4 (.tmp 20) (.tmp 167)), none, 0⟩]) (.seq (.ops [⟨0, (some 168), (.mov (.tmp 11)), none, 0⟩, ⟨1, (some 169), (.bin .sub (.tmp 168) (.val (.int .i64 1))), none, 0⟩, ⟨2, (some 170), (.fieldA 1 (.tmp 20)), none, 0⟩, ⟨3, (some 171), (.load none (.tmp 170)), none, 0⟩, ⟨4, (some 172), (.bin .sub (.tmp 169) (.tmp 171)), none, 0⟩, ⟨5, (some 173), (.fieldA 1 (.tmp 20)), none, 0⟩, ⟨6, none, (.store 1 (.tmp 173) (.tmp 172)), none, 0⟩]) (.ops [⟨0, (some 174), (.fieldA 3 (.tmp 15)), none, 0⟩, ⟨1, (some 175), (.load none (.tmp 174)), none, 0⟩, ⟨2, (some 176), (.load (some 4) (.tmp 20)), none, 0⟩, ⟨3, (some 177), (.buildSl 4 1 [(.int .i64 0), (.int .i64 0), (.int .i64 0), (.int .i64 0)] [(0, (.tmp 176))]), none, 0⟩, ⟨4, (some 178), (.append 4 (.tmp 175) (.tmp 177)), none, 0⟩, ⟨5, (some 179), (.fieldA 3 (.tmp 15)), none, 0⟩, ⟨6, none, (.store 1 (.tmp 179) (.tmp 178)), none, 0⟩])))) (.ops [⟨0, (some 180), (.bin .add (.tmp 164) (.val (.int .i64 1))), none, 0⟩, ⟨1, (some 164), (.mov (.tmp 180)), none, 0⟩]))))))) (.seq (.draw [⟨0, (some 181), (.buildSl 6 0 [(.int .i64 0), (.int .i64 0), (.int .i64 0), (.int .i64 0), (.int .i64 0), (.int .i64 0)] []), none, 0⟩, ⟨1, (some 182), (.fieldA 0 (.tmp 5)), none, 0⟩, ⟨2, (some 183), (.load none (.tmp 182)), none, 2⟩, ⟨4, (some 185), (.buildSl 4 0 [(.int .i64 0), (.int .i64 0), (.int .i64 0), (.int .i64 0)] []), none, 0⟩, ⟨5, (some 186), (.fieldA 3 (.tmp 5)), none, 0⟩, ⟨6, (some 187), (.load none (.tmp 186)), none, 32⟩, ⟨3, (some 184), (.append 6 (.tmp 181) (.tmp 183)), none, 7⟩, ⟨7, (some 188), (.append 4 (.tmp 185) (.tmp 187)), none, 127⟩, ⟨8, (some 21), (.mov (.tmp 184)), none, 255⟩, ⟨9, (some 22), (.mov (.tmp 188)), none, 511⟩]) (.seq (.ops [⟨0, (some 190), (.load (some 4) (.tmp 5)), none, 0⟩, ⟨1, (some 191), (.mov (.tmp 12)), none, 0⟩, ⟨2, (some 192), (.call (.val (.fn (Fn.func 10) [] [])) [(.tmp 190), (.tmp 191)]), none, 0⟩, ⟨3, (some 189), (.mov (.tmp 192)), none, 0⟩, ⟨4, (some 193), (.extract (.tmp 189) 0), none, 0⟩, ⟨5, (some 194), (.extract (.tmp 189) 1), none, 0⟩, ⟨6, (some 23), (.alloc [(.int .i64 0), (.int .i64 0)]), none, 0⟩, ⟨7, none, (.store 2 (.tmp 23) (.tmp 193)), none, 0⟩, ⟨8, (some 24), (.mov (.tmp 194)), none, 0⟩]) (.seq (.ops [⟨0, (some 196), (.load (some 4) (.tmp 5)), none, 0⟩, ⟨1, (some 197), (.mov (.tmp 12)), none, 0⟩, ⟨2, (some 198), (.call (.val (.fn (Fn.func 12) [] [])) [(.tmp 196), (.tmp 197)]), none, 0⟩, ⟨3, (some 195), (.mov (.tmp 198)), none, 0⟩, ⟨4, (some 199), (.extract (.tmp 195) 0), none, 0⟩, ⟨5, (some 200), (.extract (.tmp 195) 1), none, 0⟩, ⟨6, (some 25), (.alloc [(.int .i64 0), (.int .i64 0)]), none, 0⟩, ⟨7, none, (.store 2 (.tmp 25) (.tmp 199)), none, 0⟩, ⟨8, (some 26), (.mov (.tmp 200)), none, 0⟩]) (.seq (.ops [⟨0, (some 202), (.load (some 4) (.tmp 5)), none, 0⟩, ⟨1, (some 203), (.mov (.tmp 12)), none, 0⟩, ⟨2, (some 204), (.call (.val (.fn (Fn.func 13) [] [])) [(.tmp 202), (.tmp 203)]), none, 0⟩, ⟨3, (some 201), (.mov (.tmp 204)), none, 0⟩, ⟨4, (some 205), (.extract (.tmp 201) 0), none, 0⟩, ⟨5, (some 206), (.extract (.tmp 201) 1), none, 0⟩, ⟨6, (some 27), (.alloc [(.int .i64 0), (.int .i64 0)]), none, 0⟩, ⟨7, none, (.store 2 (.tmp 27) (.tmp 205)), none, 0⟩, ⟨8, (some 28), (.mov (.tmp 206)), none, 0⟩]) (.seq (.ops [⟨0, (some 208), (.load (some 4) (.tmp 5)), none, 0⟩, ⟨1, (some 209), (.call (.val (.fn (Fn.func 25) [] [])) [(.tmp 208)]), none, 0⟩, ⟨2, (some 207), (.mov (.tmp 209)), none, 0⟩, ⟨3, (some 210), (.extract (.tmp 207) 0), none, 0⟩, ⟨4, (some 211), (.extract (.tmp 207) 1), none, 0⟩, ⟨5, (some 29), (.alloc [(.int .i64 0), (.int .i64 0)]), none, 0⟩, ⟨6, none, (.store 2 (.tmp 29) (.tmp 210)), none, 0⟩, ⟨7, (some 30), (.mov (.tmp 211)), none, 0⟩]) (.seq (.ops [⟨0, (some 31), (.mov (.val (.fn (Fn.func 33) [] []))), none, 0⟩]) (.seq (.seq (.ops [⟨0, (some 212), (.load (some 4) (.tmp 13)), none, 0⟩, ⟨1, (some 213), (.load (some 4) (.tmp 14)), none, 0⟩, ⟨2, (some 214), (.buildSl 4 2 [.nils, (.int .i64 0), (.int .i64 0), .nils] [(0, (.tmp 212)), (1, (.tmp 213))]), none, 0⟩, ⟨3, (some 215), (.len (.tmp 214)), none, 0⟩, ⟨4, (some 216), (.mov (.val (.int .i64 0))), none, 0⟩]) (.block 6 (.loop [3, 4, 5, 11, 12, 15, 21, 22, 23, 24, 25, 26, 27, 28, 29, 30, 31, 214, 215, 216] (.seq (.ops [⟨0, (some 217), (.bin .lss (.tmp 216) (.tmp 215)), none, 0⟩]) (.seq (.cond (.tmp 217) .skip (.exit 6)) (.seq (.block 7 (.seq (.ops [⟨0, (some 218), (.indexA 4 none (.tmp 214) (.tmp 216)), none, 0⟩, ⟨1, (some 219), (.load (some 4) (.tmp 218)), none, 0⟩, ⟨2, (some 33), (.alloc [.nils, (.int .i64 0), (.int .i64 0), .nils]), none, 0⟩, ⟨3, none, (.store 4 (.tmp 33) (.tmp 219)), none, 0⟩]) (.seq (.seq (.ops [⟨0, (some 220), (.load (some 4) (.tmp 33)), none, 0⟩, ⟨1, (some 221), (.call (.val (.fn (Fn.func 22) [] [])) [(.tmp 220)]), none, 0⟩, ⟨2, (some 222), (.not (.tmp 221)), none, 0⟩]) (.cond (.tmp 222) (.exit 7) .skip)) (.seq (.ops [⟨0, (some 224), (.load (some 4) (.tmp 33)), none, 0⟩, ⟨1, (some 225), (.mov (.tmp 12)), none, 0⟩, ⟨2, (some 226), (.call (.val (.fn (Fn.func 10) [] [])) [(.tmp 224), (.tmp 225)]), none, 0⟩, ⟨3, (some 223), (.mov (.tmp 226)), none, 0⟩, ⟨4, (some 227), (.extract (.tmp 223) 0), none, 0⟩, ⟨5, (some 228), (.extract (.tmp 223) 1), none, 0⟩, ⟨6, (some 34), (.alloc [(.int .i64 0), (.int .i64 0)]), none, 0⟩, ⟨7, none, (.store 2 (.tmp 34) (.tmp 227)), none, 0⟩, ⟨8, (some 35), (.mov (.tmp 228)), none, 0⟩]) (.seq (.ops [⟨0, (some 230), (.load (some 4) (.tmp 33)), none, 0⟩, ⟨1, (some 231), (.mov (.tmp 12)), none, 0⟩, ⟨2, (some 232), (.call (.val (.fn (Fn.func 12) [] [])) [(.tmp 230), (.tmp 231)]), none, 0⟩, ⟨3, (some 229), (.mov (.tmp 232)), none, 0⟩, ⟨4, (some 233), (.extract (.tmp 229) 0), none, 0⟩, ⟨5, (some 234), (.extract (.tmp 229) 1), none, 0⟩, ⟨6, (some 36), (.alloc [(.int .i64 0), (.int .i64 0)]), none, 0⟩, ⟨7, none, (.store 2 (.tmp 36) (.tmp 233)), none, 0⟩, ⟨8, (some 37), (.mov (.tmp 234)), none, 0⟩]) (.seq (.ops [⟨0, (some 236), (.load (some 4) (.tmp 33)), none, 0⟩, ⟨1, (some 237), (.mov (.tmp 12)), none, 0⟩, ⟨2, (some 238), (.call (.val (.fn (Fn.func 13) [] [])) [(.tmp 236), (.tmp 237)]), none, 0⟩, ⟨3, (some 235), (.mov (.tmp 238)), none, 0⟩, ⟨4, (some 239), (.extract (.tmp 235) 0), none, 0⟩, ⟨5, (some 240), (.extract (.tmp 235) 1), none, 0⟩, ⟨6, (some 38), (.alloc [(.int .i64 0), (.int .i64 0)]), none, 0⟩, ⟨7, none, (.store 2 (.tmp 38) (.tmp 239)), none, 0⟩, ⟨8, (some 39), (.mov (.tmp 240)), none, 0⟩]) (.seq (.ops [⟨0, (some 242), (.load (some 4) (.tmp 33)), none, 0⟩, ⟨1, (some 243), (.call (.val (.fn (Fn.func 25) [] [])) [(.tmp 242)]), none, 0⟩, ⟨2, (some 241), (.mov (.tmp 243)), none, 0⟩, ⟨3, (some 244), (.extract (.tmp 241) 0), none, 0⟩, ⟨4, (some 245), (.extract (.tmp 241) 1), none, 0⟩, ⟨5, (some 40), (.alloc [(.int .i64 0), (.int .i64 0)]), none, 0⟩, ⟨6, none, (.store 2 (.tmp 40) (.tmp 244)), none, 0⟩, ⟨7, (some 41), (.mov (.tmp 245)), none, 0⟩]) (.seq (.ops [⟨0, (some 246), (.mov (.tmp 37)), none, 0⟩, ⟨1, (some 247), (.mov (.tmp 35)), none, 0⟩, ⟨2, (some 248), (.bin .neq (.tmp 246) (.tmp 247)), none, 0⟩, ⟨3, (some 249), (.mov (.tmp 248)), none, 0⟩, ⟨4, (some 250), (.mov (.tmp 39)), (some (249, false)), 0⟩, ⟨5, (some 251), (.mov (.tmp 35)), (some (249, false)), 0⟩, ⟨6, (some 252), (.bin .neq (.tmp 250) (.tmp 251)), (some (249, false)), 0⟩, ⟨7, (some 253), (.pick (.tmp 249) (.val (.bool true)) (.tmp 252)), none, 0⟩, ⟨8, (some 254), (.mov (.tmp 253)), none, 0⟩, ⟨9, (some 255), (.mov (.tmp 41)), (some (254, false)), 0⟩, ⟨10, (some 256), (.mov (.tmp 35)), (some (254, false)), 0⟩, ⟨11, (some 257), (.bin .neq (.tmp 255) (.tmp 256)), (some (254, false)), 0⟩, ⟨12, (some 258), (.pick (.tmp 254) (.val (.bool true)) (.tmp 257)), none, 0⟩, ⟨13, (some 259), (.mov (.tmp 258)), none, 0⟩, ⟨14, (some 260), (.mov (.tmp 35)), (some (259, false)), 0⟩, ⟨15, (some 261), (.bin .neq (.tmp 260) (.val (.int .i64 0))), (some (259, false)), 0⟩, ⟨16, (some 262), (.mov (.tmp 261)), (some (259, false)), 0⟩, ⟨17, (some 263), (.mov (.tmp 35)), (some (262, true)), 0⟩, ⟨18, (some 264), (.bin .neq (.tmp 263) (.val (.int .i64 10))), (some (262, true)), 0⟩, ⟨19, (some 265), (.pick (.tmp 262) (.tmp 264) (.val (.bool false))), (some (259, false)), 0⟩, ⟨20, (some 266), (.pick (.tmp 259) (.val (.bool true)) (.tmp 265)), none, 0⟩, ⟨21, (some 267), (.mov (.tmp 266)), none, 0⟩, ⟨22, (some 268), (.mov (.tmp 35)), (some (267, false)), 0⟩, ⟨23, (some 269), (.bin .eql (.tmp 268) (.val (.int .i64 0))), (some (267, false)), 0⟩, ⟨24, (some 270), (.mov (.tmp 269)), (some (267, false)), 0⟩, ⟨25, (some 271), (.mov (.tmp 24)), (some (270, true)), 0⟩, ⟨26, (some 272), (.bin .neq (.tmp 271) (.val (.int .i64 0))), (some (270, true)), 0⟩, ⟨27, (some 273), (.mov (.tmp 272)), (some (270, true)), 0⟩, ⟨28, (some 274), (.mov (.tmp 31)), (some (273, false)), 0⟩, ⟨29, (some 275), (.load (some 2) (.tmp 34)), (some (273, false)), 0⟩, ⟨30, (some 276), (.load (some 2) (.tmp 23)), (some (273, false)), 0⟩, ⟨31, (some 277), (.call (.tmp 274) [(.tmp 275), (.tmp 276)]), (some (273, false)), 0⟩, ⟨32, (some 278), (.not (.tmp 277)), (some (273, false)), 0⟩, ⟨33, (some 279), (.pick (.tmp 273) (.val (.bool true)) (.tmp 278)), (some (270, true)), 0⟩, ⟨34, (some 280), (.mov (.tmp 279)), (some (270, true)), 0⟩, ⟨35, (some 281), (.mov (.tmp 31)), (some (280, false)), 0⟩, ⟨36, (some 282), (.load (some 2) (.tmp 36)), (some (280, false)), 0⟩, ⟨37, (some 283), (.load (some 2) (.tmp 25)), (some (280, false)), 0⟩, ⟨38, (some 284), (.call (.tmp 281) [(.tmp 282), (.tmp 283)]), (some (280, false)), 0⟩, ⟨39, (some 285), (.not (.tmp 284)), (some (280, false)), 0⟩, ⟨40, (some 286), (.pick (.tmp 280) (.val (.bool true)) (.tmp 285)), (some (270, true)), 0⟩, ⟨41, (some 287), (.mov (.tmp 286)), (some (270, true)), 0⟩, ⟨42, (some 288), (.mov (.tmp 31)), (some (287, false)), 0⟩, ⟨43, (some 289), (.load (some 2) (.tmp 38)), (some (287, false)), 0⟩, ⟨44, (some 290), (.load (some 2) (.tmp 27)), (some (287, false)), 0⟩, ⟨45, (some 291), (.call (.tmp 288) [(.tmp 289), (.tmp 290)]), (some (287, false)), 0⟩, ⟨46, (some 292), (.not (.tmp 291)), (some (287, false)), 0⟩, ⟨47, (some 293), (.pick (.tmp 287) (.val (.bool true)) (.tmp 292)), (some (270, true)), 0⟩, ⟨48, (some 294), (.mov (.tmp 293)), (some (270, true)), 0⟩, ⟨49, (some 295), (.mov (.tmp 31)), (some (294, false)), 0⟩, ⟨50, (some 296), (.load (some 2) (.tmp 40)), (some (294, false)), 0⟩, ⟨51, (some 297), (.load (some 2) (.tmp 29)), (some (294, false)), 0⟩, ⟨52, (some 298), (.call (.tmp 295) [(.tmp 296), (.tmp 297)]), (some (294, false)), 0⟩, ⟨53, (some 299), (.not (.tmp 298)), (some (294, false)), 0⟩, ⟨54, (some 300), (.pick (.tmp 294) (.val (.bool true)) (.tmp 299)), (some (270, true)), 0⟩, ⟨55, (some 301), (.pick (.tmp 270) (.tmp 300) (.val (.bool false))), (some (267, false)), 0⟩, ⟨56, (some 302), (.pick (.tmp 267) (.val (.bool true)) (.tmp 301)), none, 0⟩]) (.cond (.tmp 302) (.seq (.ops [⟨0, (some 10), (.mov (.val (.bool false))), none, 0⟩]) .ret) .skip))))))))) (.ops [⟨0, (some 303), (.bin .add (.tmp 216) (.val (.int .i64 1))), none, 0⟩, ⟨1, (some 216), (.mov (.tmp 303)), none, 0⟩]))))))) (.seq (.ops [⟨0, (some 305), (.load (some 4) (.tmp 15)), none, 0⟩, ⟨1, (some 306), (.mov (.tmp 11)), none, 0⟩, ⟨2, (some 307), (.bin .sub (.tmp 306) (.val (.int .i64 1))), none, 0⟩, ⟨3, (some 308), (.mov (.tmp 12)), none, 0⟩, ⟨4, (some 309), (.bin .sub (.tmp 307) (.tmp 308)), none, 0⟩, ⟨5, (some 310), (.call (.val (.fn (Fn.func 10) [] [])) [(.tmp 305), (.tmp 309)]), none, 0⟩, ⟨6, (some 304), (.mov (.tmp 310)), none, 0⟩, ⟨7, (some 311), (.extract (.tmp 304) 0), none, 0⟩, ⟨8, (some 312), (.extract (.tmp 304) 1), none, 0⟩, ⟨9, (some 42), (.alloc [(.int .i64 0), (.int .i64 0)]), none, 0⟩, ⟨10, none, (.store 2 (.tmp 42) (.tmp 311)), none, 0⟩, ⟨11, (some 43), (.mov (.tmp 312)), none, 0⟩]) (.seq (.ops [⟨0, (some 314), (.load (some 4) (.tmp 15)), none, 0⟩, ⟨1, (some 315), (.mov (.tmp 11)), none, 0⟩, ⟨2, (some 316), (.bin .sub (.tmp 315) (.val (.int .i64 1))), none, 0⟩, ⟨3, (some 317), (.mov (.tmp 12)), none, 0⟩, ⟨4, (some 318), (.bin .sub (.tmp 316) (.tmp 317)), none, 0⟩, ⟨5, (some 319), (.call (.val (.fn (Fn.func 12) [] [])) [(.tmp 314), (.tmp 318)]), none, 0⟩, ⟨6, (some 313), (.mov (.tmp 319)), none, 0⟩, ⟨7, (some 320), (.extract (.tmp 313) 0), none, 0⟩, ⟨8, (some 321), (.extract (.tmp 313) 1), none, 0⟩, ⟨9, (some 44), (.alloc [(.int .i64 0), (.int .i64 0)]), none, 0⟩, ⟨10, none, (.store 2 (.tmp 44) (.tmp 320)), none, 0⟩, ⟨11, (some 45), (.mov (.tmp 321)), none, 0⟩]) (.seq (.ops [⟨0, (some 323), (.load (some 4) (.tmp 15)), none, 0⟩, ⟨1, (some 324), (.mov (.tmp 11)), none, 0⟩, ⟨2, (some 325), (.bin .sub (.tmp 324) (.val (.int .i64 1))), none, 0⟩, ⟨3, (some 326), (.mov (.tmp 12)), none, 0⟩, ⟨4, (some 327), (.bin .sub (.tmp 325) (.tmp 326)), none, 0⟩, ⟨5, (some 328), (.call (.val (.fn (Fn.func 13) [] [])) [(.tmp 323), (.tmp 327)]), none, 0⟩, ⟨6, (some 322), (.mov (.tmp 328)), none, 0⟩, ⟨7, (some 329), (.extract (.tmp 322) 0), none, 0⟩, ⟨8, (some 330), (.extract (.tmp 322) 1), none, 0⟩, ⟨9, (some 46), (.alloc [(.int .i64 0), (.int .i64 0)]), none, 0⟩, ⟨10, none, (.store 2 (.tmp 46) (.tmp 329)), none, 0⟩, ⟨11, (some 47), (.mov (.tmp 330)), none, 0⟩]) (.seq (.ops [⟨0, (some 332), (.load (some 4) (.tmp 15)), none, 0⟩, ⟨1, (some 333), (.call (.val (.fn (Fn.func 25) [] [])) [(.tmp 332)]), none, 0⟩, ⟨2, (some 331), (.mov (.tmp 333)), none, 0⟩, ⟨3, (some 334), (.extract (.tmp 331) 0), none, 0⟩, ⟨4, (some 335), (.extract (.tmp 331) 1), none, 0⟩, ⟨5, (some 48), (.alloc [(.int .i64 0), (.int .i64 0)]), none, 0⟩, ⟨6, none, (.store 2 (.tmp 48) (.tmp 334)), none, 0⟩, ⟨7, (some 49), (.mov (.tmp 335)), none, 0⟩]) (.seq (.seq (.ops [⟨0, (some 336), (.load (some 2) (.tmp 42)), none, 0⟩, ⟨1, (some 337), (.load (some 2) (.tmp 23)), none, 0⟩, ⟨2, (some 338), (.eq (.agg [true, true]) true (.tmp 336) (.tmp 337)), none, 0⟩, ⟨3, (some 339), (.mov (.tmp 338)), none, 0⟩, ⟨4, (some 340), (.mov (.tmp 43)), (some (339, false)), 0⟩, ⟨5, (some 341), (.mov (.tmp 24)), (some (339, false)), 0⟩, ⟨6, (some 342), (.bin .neq (.tmp 340) (.tmp 341)), (some (339, false)), 0⟩, ⟨7, (some 343), (.pick (.tmp 339) (.val (.bool true)) (.tmp 342)), none, 0⟩, ⟨8, (some 344), (.mov (.tmp 343)), none, 0⟩, ⟨9, (some 345), (.load (some 2) (.tmp 44)), (some (344, false)), 0⟩, ⟨10, (some 346), (.load (some 2) (.tmp 25)), (some (344, false)), 0⟩, ⟨11, (some 347), (.eq (.agg [true, true]) true (.tmp 345) (.tmp 346)), (some (344, false)), 0⟩, ⟨12, (some 348), (.pick (.tmp 344) (.val (.bool true)) (.tmp 347)), none, 0⟩, ⟨13, (some 349), (.mov (.tmp 348)), none, 0⟩, ⟨14, (some 350), (.mov (.tmp 45)), (some (349, false)), 0⟩, ⟨15, (some 351), (.mov (.tmp 26)), (some (349, false)), 0⟩, ⟨16, (some 352), (.bin .neq (.tmp 350) (.tmp 351)), (some (349, false)), 0⟩, ⟨17, (some 353), (.pick (.tmp 349) (.val (.bool true)) (.tmp 352)), none, 0⟩, ⟨18, (some 354), (.mov (.tmp 353)), none, 0⟩, ⟨19, (some 355), (.load (some 2) (.tmp 46)), (some (354, false)), 0⟩, ⟨20, (some 356), (.load (some 2) (.tmp 27)), (some (354, false)), 0⟩, ⟨21, (some 357), (.eq (.agg [true, true]) true (.tmp 355) (.tmp 356)), (some (354, false)), 0⟩, ⟨22, (some 358), (.pick (.tmp 354) (.val (.bool true)) (.tmp 357)), none, 0⟩, ⟨23, (some 359), (.mov (.tmp 358)), none, 0⟩, ⟨24, (some 360), (.mov (.tmp 47)), (some (359, false)), 0⟩, ⟨25, (some 361), (.mov (.tmp 28)), (some (359, false)), 0⟩, ⟨26, (some 362), (.bin .neq (.tmp 360) (.tmp 361)), (some (359, false)), 0⟩, ⟨27, (some 363), (.pick (.tmp 359) (.val (.bool true)) (.tmp 362)), none, 0⟩, ⟨28, (some 364), (.mov (.tmp 363)), none, 0⟩, ⟨29, (some 365), (.load (some 2) (.tmp 48)), (some (364, false)), 0⟩, ⟨30, (some 366), (.load (some 2) (.tmp 29)), (some (364, false)), 0⟩, ⟨31, (some 367), (.eq (.agg [true, true]) true (.tmp 365) (.tmp 366)), (some (364, false)), 0⟩, ⟨32, (some 368), (.pick (.tmp 364) (.val (.bool true)) (.tmp 367)), none, 0⟩, ⟨33, (some 369), (.mov (.tmp 368)), none, 0⟩, ⟨34, (some 370), (.mov (.tmp 49)), (some (369, false)), 0⟩, ⟨35, (some 371), (.mov (.tmp 30)), (some (369, false)), 0⟩, ⟨36, (some 372), (.bin .neq (.tmp 370) (.tmp 371)), (some (369, false)), 0⟩, ⟨37, (some 373), (.pick (.tmp 369) (.val (.bool true)) (.tmp 372)), none, 0⟩]) (.cond (.tmp 373) (.seq (.ops [⟨0, (some 10), (.mov (.val (.bool false))), none, 0⟩]) .ret) .skip)) (.seq (.seq (.ops [⟨0, (some 374), (.fieldA 3 (.tmp 5)), none, 0⟩, ⟨1, (some 375), (.load none (.tmp 374)), none, 0⟩, ⟨2, (some 376), (.len (.tmp 375)), none, 0⟩, ⟨3, (some 377), (.bin .add (.tmp 376) (.val (.int .i64 2))), none, 0⟩, ⟨4, (some 378), (.bin .leq (.tmp 377) (.val (.int .i64 6))), none, 0⟩]) (.cond (.tmp 378) (.seq (.draw [⟨0, (some 379), (.load (some 4) (.tmp 5)), none, 0⟩, ⟨1, (some 380), (.mov (.tmp 12)), none, 0⟩, ⟨2, (some 381), (.mov (.tmp 3)), none, 0⟩, ⟨3, (some 382), (.conv .i64 (.tmp 381)), none, 4⟩, ⟨4, (some 383), (.mov (.tmp 3)), none, 0⟩, ⟨5, (some 384), (.conv .i64 (.tmp 383)), none, 16⟩, ⟨8, (some 387), (.mov (.tmp 12)), none, 0⟩, ⟨9, (some 388), (.mov (.tmp 4)), none, 0⟩, ⟨10, (some 389), (.conv .i64 (.tmp 388)), none, 512⟩, ⟨11, (some 390), (.mov (.tmp 4)), none, 0⟩, ⟨12, (some 391), (.conv .i64 (.tmp 390)), none, 2048⟩, ⟨15, (some 50), (.alloc [.nils, (.int .i64 0), (.int .i64 0), .nils]), none, 0⟩, ⟨6, (some 385), (.call (.val (.fn (Fn.func 34) [] [])) [(.tmp 380), (.tmp 382), (.tmp 384)]), none, 62⟩, ⟨7, (some 386), (.call (.val (.fn (Fn.func 28) [] [])) [(.tmp 379), (.tmp 385)]), none, 127⟩, ⟨13, (some 392), (.call (.val (.fn (Fn.func 34) [] [])) [(.tmp 387), (.tmp 389), (.tmp 391)]), none, 8191⟩, ⟨14, (some 393), (.call (.val (.fn (Fn.func 28) [] [])) [(.tmp 386), (.tmp 392)]), none, 16383⟩, ⟨16, none, (.store 4 (.tmp 50) (.tmp 393)), none, 65535⟩]) (.seq (.draw [⟨0, (some 394), (.load (some 4) (.tmp 5)), none, 0⟩, ⟨1, (some 395), (.mov (.tmp 12)), none, 0⟩, ⟨2, (some 396), (.mov (.tmp 3)), none, 0⟩, ⟨3, (some 397), (.conv .i64 (.tmp 396)), none, 4⟩, ⟨4, (some 398), (.mov (.tmp 4)), none, 0⟩, ⟨5, (some 399), (.conv .i64 (.tmp 398)), none, 16⟩, ⟨6, (some 400), (.bin .add (.tmp 397) (.tmp 399)), none, 60⟩, ⟨7, (some 401), (.mov (.tmp 3)), none, 0⟩, ⟨8, (some 402), (.conv .i64 (.tmp 401)), none, 128⟩, ⟨9, (some 403), (.mov (.tmp 4)), none, 0⟩, ⟨10, (some 404), (.conv .i64 (.tmp 403)), none, 512⟩, ⟨11, (some 405), (.bin .add (.tmp 402) (.tmp 404)), none, 1920⟩, ⟨14, (some 51), (.alloc [.nils, (.int .i64 0), (.int .i64 0), .nils]), none, 0⟩, ⟨12, (some 406), (.call (.val (.fn (Fn.func 34) [] [])) [(.tmp 395), (.tmp 400), (.tmp 405)]), none, 4094⟩, ⟨13, (some 407), (.call (.val (.fn (Fn.func 28) [] [])) [(.tmp 394), (.tmp 406)]), none, 8191⟩, ⟨15, none, (.store 4 (.tmp 51) (.tmp 407)), none, 32767⟩]) (.seq (.ops [⟨0, (some 409), (.load (some 4) (.tmp 50)), none, 0⟩, ⟨1, (some 410), (.mov (.tmp 12)), none, 0⟩, ⟨2, (some 411), (.call (.val (.fn (Fn.func 12) [] [])) [(.tmp 409), (.tmp 410)]), none, 0⟩, ⟨3, (some 408), (.mov (.tmp 411)), none, 0⟩, ⟨4, (some 412), (.extract (.tmp 408) 0), none, 0⟩, ⟨5, (some 413), (.extract (.tmp 408) 1), none, 0⟩, ⟨6, (some 52), (.alloc [(.int .i64 0), (.int .i64 0)]), none, 0⟩, ⟨7, none, (.store 2 (.tmp 52) (.tmp 412)), none, 0⟩, ⟨8, (some 53), (.mov (.tmp 413)), none, 0⟩]) (.seq (.ops [⟨0, (some 415), (.load (some 4) (.tmp 51)), none, 0⟩, ⟨1, (some 416), (.mov (.tmp 12)), none, 0⟩, ⟨2, (some 417), (.call (.val (.fn (Fn.func 12) [] [])) [(.tmp 415), (.tmp 416)]), none, 0⟩, ⟨3, (some 414), (.mov (.tmp 417)), none, 0⟩, ⟨4, (some 418), (.extract (.tmp 414) 0), none, 0⟩, ⟨5, (some 419), (.extract (.tmp 414) 1), none, 0⟩, ⟨6, (some 54), (.alloc [(.int .i64 0), (.int .i64 0)]), none, 0⟩, ⟨7, none, (.store 2 (.tmp 54) (.tmp 418)), none, 0⟩, ⟨8, (some 55), (.mov (.tmp 419)), none, 0⟩]) (.seq (.ops [⟨0, (some 421), (.load (some 4) (.tmp 50)), none, 0⟩, ⟨1, (some 422), (.call (.val (.fn (Fn.func 25) [] [])) [(.tmp 421)]), none, 0⟩, ⟨2, (some 420), (.mov (.tmp 422)), none, 0⟩, ⟨3, (some 423), (.extract (.tmp 420) 0), none, 0⟩, ⟨4, (some 424), (.extract (.tmp 420) 1), none, 0⟩, ⟨5, (some 56), (.alloc [(.int .i64 0), (.int .i64 0)]), none, 0⟩, ⟨6, none, (.store 2 (.tmp 56) (.tmp 423)), none, 0⟩, ⟨7, (some 57), (.mov (.tmp 424)), none, 0⟩]) (.seq (.ops [⟨0, (some 426), (.load (some 4) (.tmp 51)), none, 0⟩, ⟨1, (some 427), (.call (.val (.fn (Fn.func 25) [] [])) [(.tmp 426)]), none, 0⟩, ⟨2, (some 425), (.mov (.tmp 427)), none, 0⟩, ⟨3, (some 428), (.extract (.tmp 425) 0), none, 0⟩, ⟨4, (some 429), (.extract (.tmp 425) 1), none, 0⟩, ⟨5, (some 58), (.alloc [(.int .i64 0), (.int .i64 0)]), none, 0⟩, ⟨6, none, (.store 2 (.tmp 58) (.tmp 428)), none, 0⟩, ⟨7, (some 59), (.mov (.tmp 429)), none, 0⟩]) (.seq (.ops [⟨0, (some 430), (.load (some 2) (.tmp 52)), none, 0⟩, ⟨1, (some 431), (.load (some 2) (.tmp 54)), none, 0⟩, ⟨2, (some 432), (.eq (.agg [true, true]) true (.tmp 430) (.tmp 431)), none, 0⟩, ⟨3, (some 433), (.mov (.tmp 432)), none, 0⟩, ⟨4, (some 434), (.mov (.tmp 53)), (some (433, false)), 0⟩, ⟨5, (some 435), (.mov (.tmp 55)), (some (433, false)), 0⟩, ⟨6, (some 436), (.bin .neq (.tmp 434) (.tmp 435)), (some (433, false)), 0⟩, ⟨7, (some 437), (.pick (.tmp 433) (.val (.bool true)) (.tmp 436)), none, 0⟩, ⟨8, (some 438), (.mov (.tmp 437)), none, 0⟩, ⟨9, (some 439), (.load (some 2) (.tmp 56)), (some (438, false)), 0⟩, ⟨10, (some 440), (.load (some 2) (.tmp 58)), (some (438, false)), 0⟩, ⟨11, (some 441), (.eq (.agg [true, true]) true (.tmp 439) (.tmp 440)), (some (438, false)), 0⟩, ⟨12, (some 442), (.pick (.tmp 438) (.val (.bool true)) (.tmp 441)), none, 0⟩, ⟨13, (some 443), (.mov (.tmp 442)), none, 0⟩, ⟨14, (some 444), (.mov (.tmp 57)), (some (443, false)), 0⟩, ⟨15, (some 445), (.mov (.tmp 59)), (some (443, false)), 0⟩, ⟨16, (some 446), (.bin .neq (.tmp 444) (.tmp 445)), (some (443, false)), 0⟩, ⟨17, (some 447), (.pick (.tmp 443) (.val (.bool true)) (.tmp 446)), none, 0⟩]) (.cond (.tmp 447) (.seq (.ops [⟨0, (some 10), (.mov (.val (.bool false))), none, 0⟩]) .ret) .skip)))))))) .skip)) (.seq (.seq (.ops [⟨0, (some 448), (.mov (.tmp 21)), none, 0⟩, ⟨1, (some 449), (.len (.tmp 448)), none, 0⟩, ⟨2, (some 450), (.mov (.val (.int .i64 0))), none, 0⟩]) (.block 8 (.loop [5, 21, 22, 449, 450] (.seq (.ops [⟨0, (some 451), (.bin .lss (.tmp 450) (.tmp 449)), none, 0⟩]) (.seq (.cond (.tmp 451) .skip (.exit 8)) (.seq (.block 9 (.seq (.ops [⟨0, (some 452), (.mov (.tmp 450)), none, 0⟩, ⟨1, (some 60), (.mov (.tmp 452)), none, 0⟩]) (.seq (.draw [⟨0, (some 453), (.mov (.tmp 21)), none, 0⟩, ⟨1, (some 454), (.mov (.tmp 60)), none, 0⟩, ⟨2, (some 455), (.indexA 6 none (.tmp 453) (.tmp 454)), none, 3⟩, ⟨3, (some 456), (.load (some 6) (.tmp 455)), none, 7⟩, ⟨4, (some 457), (.fieldA 0 (.tmp 5)), none, 0⟩, ⟨5, (some 458), (.load none (.tmp 457)), none, 16⟩, ⟨6, (some 459), (.mov (.tmp 60)), none, 0⟩, ⟨7, (some 460), (.indexA 6 none (.tmp 458) (.tmp 459)), none, 112⟩, ⟨8, (some 461), (.load (some 6) (.tmp 460)), none, 240⟩, ⟨9, (some 462), (.eq (.agg [true, true, true, true, true, true]) true (.tmp 456) (.tmp 461)), none, 511⟩]) (.cond (.tmp 462) (.seq (.ops [⟨0, (some 10), (.mov (.val (.bool false))), none, 0⟩]) .ret) .skip)))) (.ops [⟨0, (some 463), (.bin .add (.tmp 450) (.val (.int .i64 1))), none, 0⟩, ⟨1, (some 450), (.mov (.tmp 463)), none, 0⟩]))))))) (.seq (.seq (.ops [⟨0, (some 464), (.mov (.tmp 22)), none, 0⟩, ⟨1, (some 465), (.len (.tmp 464)), none, 0⟩, ⟨2, (some 466), (.mov (.val (.int .i64 0))), none, 0⟩]) (.block 10 (.loop [5, 22, 465, 466] (.seq (.ops [⟨0, (some 467), (.bin .lss (.tmp 466) (.tmp 465)), none, 0⟩]) (.seq (.cond (.tmp 467) .skip (.exit 10)) (.seq (.block 11 (.seq (.ops [⟨0, (some 468), (.mov (.tmp 466)), none, 0⟩, ⟨1, (some 61), (.mov (.tmp 468)), none, 0⟩]) (.seq (.draw [⟨0, (some 469), (.mov (.tmp 22)), none, 0⟩, ⟨1, (some 470), (.mov (.tmp 61)), none, 0⟩, ⟨2, (some 471), (.indexA 4 none (.tmp 469) (.tmp 470)), none, 3⟩, ⟨3, (some 472), (.load (some 4) (.tmp 471)), none, 7⟩, ⟨4, (some 473), (.fieldA 3 (.tmp 5)), none, 0⟩, ⟨5, (some 474), (.load none (.tmp 473)), none, 16⟩, ⟨6, (some 475), (.mov (.tmp 61)), none, 0⟩, ⟨7, (some 476), (.indexA 4 none (.tmp 474) (.tmp 475)), none, 112⟩, ⟨8, (some 477), (.load (some 4) (.tmp 476)), none, 240⟩, ⟨9, (some 478), (.eq (.agg [true, true, true, true]) true (.tmp 472) (.tmp 477)), none, 511⟩]) (.cond (.tmp 478) (.seq (.ops [⟨0, (some 10), (.mov (.val (.bool false))), none, 0⟩]) .ret) .skip)))) (.ops [⟨0, (some 479), (.bin .add (.tmp 466) (.val (.int .i64 1))), none, 0⟩, ⟨1, (some 466), (.mov (.tmp 479)), none, 0⟩]))))))) (.seq (.ops [⟨0, (some 480), (.call (.val (.fn (Fn.func 19) [] [])) []), none, 0⟩, ⟨1, (some 10), (.mov (.tmp 480)), none, 0⟩]) .ret)))))))))))))))))))))))))))⟩
def af33 : AFunc := ⟨17, [(.tmp 4)], (.seq (.ops [⟨0, (some 2), (.box (.tmp 0)), none, 0⟩, ⟨1, (some 3), (.box (.tmp 1)), none, 0⟩, ⟨2, (some 4), (.mov (.val (.bool false))), none, 0⟩]) (.seq (.ops [⟨0, (some 5), (.fieldA 0 (.tmp 2)), none, 0⟩, ⟨1, (some 6), (.load none (.tmp 5)), none, 0⟩, ⟨2, (some 7), (.fieldA 0 (.tmp 3)), none, 0⟩, ⟨3, (some 8), (.load none (.tmp 7)), none, 0⟩, ⟨4, (some 9), (.bin .geq (.tmp 6) (.tmp 8)), none, 0⟩, ⟨5, (some 10), (.mov (.tmp 9)), none, 0⟩, ⟨6, (some 11), (.fieldA 1 (.tmp 2)), (some (10, true)), 0⟩, ⟨7, (some 12), (.load none (.tmp 11)), (some (10, true)), 0⟩, ⟨8, (some 13), (.fieldA 1 (.tmp 3)), (some (10, true)), 0⟩, ⟨9, (some 14), (.load none (.tmp 13)), (some (10, true)), 0⟩, ⟨10, (some 15), (.bin .leq (.tmp 12) (.tmp 14)), (some (10, true)), 0⟩, ⟨11, (some 16), (.pick (.tmp 10) (.tmp 15) (.val (.bool false))), none, 0⟩, ⟨12, (some 4), (.mov (.tmp 16)), none, 0⟩]) .ret))⟩
end Ev
end Go.Proofs.Ytimgnlellflciaa

/- ClampMore, gone through: what lies within what. -/
namespace Go.Proofs.Ytimgnlellflciaa
open Go
namespace Ev
namespace K
attribute [local simp] ev1 wantG spineK spine float xnew xval xeff zaa zaq zbc zav zaw addFl cellsOf pickC alive slLen slFt binI maxA maxK minA minK aeqK aeqS AV.cells spA zar fillA setAt bitsI nat_nn zbg AV.plain apart
set_option maxRecDepth 100000
set_option maxHeartbeats 4000000
def InC (call : CallF) : Prop := ∀ (H : List AB) (a b c d : Int), call (.fn (.func 33) [] []) [.agg [.int .i64 a, .int .i64 b], .agg [.int .i64 c, .int .i64 d]] H = some (.ret (.bool (decide (c ≤ a ∧ b ≤ d))), H, [])
theorem in_fun (C : Cfg) (call : CallF) (H : List AB) (a b c d : Int) : Does (ev C call H.length none af33.body { tm := tmA af33.ntmps (zipI 0 [.agg [.int .i64 a, .int .i64 b], .agg [.int .i64 c, .int .i64 d]] []), df := [], hp := H, tc := [] })
    (Ends C H.length af33.res fun v _hp tc => v = .bool (decide (c ≤ a ∧ b ≤ d)) ∧ tc = []) := by
  unfold af33
  simp only [zipI]
  by_cases h : c ≤ a
  · (repeat (first | (with_reducible apply zah; (focus ((conv => lhs; simp [Nat.testBit_eq_decide_div_mod_eq, *]) <;> exact rfl)); simp only [addFl]) | ((with_reducible first | apply zai | apply zak | apply zag | apply zae | apply zac | apply zaj | apply zaf | apply zam | (apply zad; · simp [zaa, *]) | (apply zab; · simp [zaa, *])); try simp only [Then, Ops]) | simp only [Nat.reduceEqDiff, reduceIte, OutB, Then]))
    exact zao (v := .bool (decide (b ≤ d))) (.inl rfl) rfl (by simp) (by simp only [resL, resOf, zal]; simp [resV, *]) ⟨by simp [h], rfl⟩
  · (repeat (first | (with_reducible apply zah; (focus ((conv => lhs; simp [Nat.testBit_eq_decide_div_mod_eq, *]) <;> exact rfl)); simp only [addFl]) | ((with_reducible first | apply zai | apply zak | apply zag | apply zae | apply zac | apply zaj | apply zaf | apply zam | (apply zad; · simp [zaa, *]) | (apply zab; · simp [zaa, *])); try simp only [Then, Ops]) | simp only [Nat.reduceEqDiff, reduceIte, OutB, Then]))
    exact zao (v := .bool false) (.inl rfl) rfl (by simp) (by simp only [resL, resOf, zal]; simp [resV, *]) ⟨by simp [h], rfl⟩
end K
end Ev
end Go.Proofs.Ytimgnlellflciaa

/- Sizes of sets, one bit at a time. -/
namespace Go.Proofs.Ytimgnlellflciaa
namespace Clm
end Clm
end Go.Proofs.Ytimgnlellflciaa

/- The code of functions of the laws, for the evaluator. Printed by program. -/
namespace Go.Proofs.Ytimgnlellflciaa
open Go
namespace Ev
end Ev
end Go.Proofs.Ytimgnlellflciaa

/- Chapter 09, gone through: the reference's size of a set, and bits as the laws ask for them. -/
namespace Go.Proofs.Ytimgnlellflciaa
open Go
namespace Ev
namespace K
set_option maxRecDepth 100000
set_option maxHeartbeats 4000000
end K
end Ev
end Go.Proofs.Ytimgnlellflciaa

/- ClampMore, gone through: sales that are known better. -/
namespace Go.Proofs.Ytimgnlellflciaa
open Go
namespace Ev
namespace K
attribute [local simp] ev1 wantG spineK spine float xnew xval xeff zaa zaq zbc zav zaw addFl cellsOf pickC alive slLen slFt binI maxA maxK minA minK aeqK aeqS AV.cells spA zar fillA setAt bitsI nat_nn zbg AV.plain apart
set_option maxRecDepth 100000
set_option maxHeartbeats 4000000
theorem znf : ∀ (xs : List Clm.Evt) (i : Nat) (v : Clm.Evt), xs[i]? = some v → (evtCs xs)[i * 4]? = some (.int .i64 v.kind) ∧ (evtCs xs)[i * 4 + 2]? = some (.int .i64 v.sods.lo) ∧ (evtCs xs)[i * 4 + 3]? = some (.int .i64 v.sods.hi)
  | [], i, v, h => by simp at h
  | e :: l, 0, v, h => by
    simp only [List.getElem?_cons_zero, Option.some.injEq] at h
    subst h
    simp [evtCs]
  | e :: l, i + 1, v, h => by
    have ih := znf l i v (by simpa using h)
    rw [show (i + 1) * 4 = i * 4 + 1 + 1 + 1 + 1 by omega, show i * 4 + 1 + 1 + 1 + 1 + 2 = i * 4 + 2 + 1 + 1 + 1 + 1 by omega, show i * 4 + 1 + 1 + 1 + 1 + 3 = i * 4 + 3 + 1 + 1 + 1 + 1 by omega]
    simpa [evtCs] using ih
theorem zjj : ∀ (xs : List Clm.Evt) (i : Nat) (v : Clm.Evt) (a : Int), xs[i]? = some v → (evtCs xs).take (i * 4 + 2) ++ .int .i64 a :: (evtCs xs).drop (i * 4 + 3) = evtCs (xs.set i ⟨v.kind, v.clamp, ⟨a, v.sods.hi⟩⟩)
  | [], i, v, a, h => by simp at h
  | e :: l, 0, v, a, h => by
    simp only [List.getElem?_cons_zero, Option.some.injEq] at h
    subst h
    simp [evtCs]
  | e :: l, i + 1, v, a, h => by
    have ih := zjj l i v a (by simpa using h)
    rw [show (i + 1) * 4 + 2 = i * 4 + 2 + 1 + 1 + 1 + 1 by omega, show (i + 1) * 4 + 3 = i * 4 + 3 + 1 + 1 + 1 + 1 by omega]
    simpa [evtCs] using ih
theorem zjk : ∀ (xs : List Clm.Evt) (i : Nat) (v : Clm.Evt) (a : Int), xs[i]? = some v → (evtCs xs).take (i * 4 + 3) ++ .int .i64 a :: (evtCs xs).drop (i * 4 + 4) = evtCs (xs.set i ⟨v.kind, v.clamp, ⟨v.sods.lo, a⟩⟩)
  | [], i, v, a, h => by simp at h
  | e :: l, 0, v, a, h => by
    simp only [List.getElem?_cons_zero, Option.some.injEq] at h
    subst h
    simp [evtCs]
  | e :: l, i + 1, v, a, h => by
    have ih := zjk l i v a (by simpa using h)
    rw [show (i + 1) * 4 + 3 = i * 4 + 3 + 1 + 1 + 1 + 1 by omega, show (i + 1) * 4 + 4 = i * 4 + 4 + 1 + 1 + 1 + 1 by omega]
    simpa [evtCs] using ih
def moSt (a5 a13 a14 a15 n nP iw : Nat) (w wa wb : Int) (i : Nat) (G : List AB) : St := { tm := tmA 481 [(91, .int .i64 i), (90, .int .i64 n), (15, .ptr a15 0), (14, .ptr a14 0), (13, .ptr a13 0), (12, .int .i64 iw), (11, .int .i64 nP), (5, .ptr a5 0), (4, .int .u8 wb), (3, .int .u8 wa), (2, .int .u8 w)], df := [], hp := G, tc := [] }
theorem zom (C : Cfg) (call : CallF) (c : Clm.Cl) (hc : Clm.Fine c) (H : List AB) (a5 a13 a14 a15 qe nP iw : Nat) (w : Nat) (hw : w ≤ 255) (wa wb : Int) (i : Nat) (hi : i < c.events.length) (G : List AB) (hq : H.length ≤ qe) (_hne : qe ≠ a14)
    (h14 : HB G a14 (.cells [.vs 6 (c.piles.map pileE), .int .i64 c.pack.lo, .int .i64 c.pack.hi, .sl qe 0 c.events.length 4])) (hE : HB G qe (.cells (evtCs (Clm.setTo (Clm.narE w) c.events i)))) :
    Does (ev C call H.length none (atP [1, 1, 1, 1, 1, 1, 1, 0, 1, 0, 0] af9.body) (moSt a5 a13 a14 a15 c.events.length nP iw w wa wb i G))
      (fun e st => e = .normal ∧ { st with tm := keepT [2, 3, 4, 5, 11, 12, 13, 14, 15, 90, 91] st.tm } = moSt a5 a13 a14 a15 c.events.length nP iw w wa wb (i + 1) (G.set qe (.cells (evtCs (Clm.setTo (Clm.narE w) c.events (i + 1)))))) := by
  have hgv : c.events[i]? = some c.events[i] := List.getElem?_eq_getElem hi
  have hok := hc.event c.events[i] (List.getElem_mem hi)
  generalize c.events[i] = v at hgv hok
  have hxv : (Clm.setTo (Clm.narE w) c.events i)[i]? = some v := by rw [Clm.setTo_get, if_neg (by omega), hgv]
  have hxl := Clm.setTo_len (Clm.narE w) c.events i
  rw [Clm.setTo_succ hgv]
  generalize Clm.setTo (Clm.narE w) c.events i = xs at *
  have he6 := hc.events
  obtain ⟨⟨_, _⟩, hk, k0, k1, k2, k3⟩ := hok
  obtain ⟨r1, r2, r3⟩ := znf xs i v hxv
  have r1' := ge_of r1
  have r2' := ge_of r2
  have r3' := ge_of r3
  have s1 := zjj xs i v (min v.sods.hi (v.sods.lo + 1)) hxv
  have s2 := zjk xs i v (max v.sods.lo (v.sods.hi - 1)) hxv
  have hlen : (evtCs xs).length = c.events.length * 4 := by rw [zbn, hxl]
  have e1 : i * 4 + 2 + 1 ≤ c.events.length * 4 := by omega
  have e2 : i * 4 + 3 + 1 ≤ c.events.length * 4 := by omega
  have e5 : (i : Int) < c.events.length := by omega
  have hwi : IntKind.i64.wrap (↑i + 1) = ↑i + 1 := zas (by omega) (by omega)
  have w1 : IntKind.i64.wrap (v.sods.lo + 1) = v.sods.lo + 1 := zas (by omega) (by omega)
  have w2 : IntKind.i64.wrap (v.sods.hi - 1) = v.sods.hi - 1 := zas (by omega) (by omega)
  have w3 : IntKind.i64.wrap (w : Int) = w := zas (by omega) (by omega)
  have w4 : IntKind.i64.wrap ((w : Int) + i) = w + i := zas (by omega) (by omega)
  have t1 : ((w : Int) + i).tmod 2 = (((w + i) % 2 : Nat) : Int) := by rw [Int.tmod_eq_emod_of_nonneg (by omega)]; omega
  have g1 : ¬ (qe < H.length) := by omega
  obtain ⟨A1, A2, A3⟩ := h14
  obtain ⟨E1, E2, E3⟩ := hE
  have hset : xs.set i v = xs := by
    apply List.ext_getElem?
    intro j
    rw [List.getElem?_set]
    by_cases hj : i = j
    · subst hj; rw [if_pos rfl, hxv, if_pos (by omega)]
    · rw [if_neg hj]
  have HX := hideP hset
  clear hc k0 k1 k2 k3 hxv he6 hset hxl
  unfold Clm.narE
  by_cases h0 : v.kind = 0
  · rw [if_pos h0]
    by_cases h2 : (w + i) % 2 = 0
    · rw [if_pos h2]
      rw [h2] at t1
      unfold af9 moSt
      simp only [atP]
      (repeat (first | ((with_reducible apply zah); (focus ((with_reducible apply zbb); (focus rfl); (focus rfl); (focus ((conv => lhs; simp [List.getElem?_append_right, List.set_append_right, List.getElem?_cons_zero, List.getElem?_append_left, List.set_append_left, -getElem?_pos, Nat.testBit_eq_decide_div_mod_eq, *]) <;> exact rfl)); (focus rfl); (focus rfl))); simp only [addFl]) | (with_reducible apply zah; (focus ((conv => lhs; simp [List.getElem?_append_right, List.set_append_right, List.getElem?_cons_zero, List.getElem?_append_left, List.set_append_left, -getElem?_pos, Nat.testBit_eq_decide_div_mod_eq, *]) <;> exact rfl)); simp only [addFl]) | ((with_reducible first | apply zai | apply zak | apply zag | apply zae | apply zac | apply zaj | apply zaf | apply zam | (apply zad; · simp [zaa, *]) | (apply zab; · simp [zaa, *])); try simp only [Then, Ops, OutB]) | simp only [Nat.reduceEqDiff, reduceIte, OutB, Then]))
      refine ⟨by first | rfl | trivial, ?_⟩
      (refine st_is ?_ ?_ ?_ ?_; (focus (simp [zan, zap])); (focus rfl); (focus (first | rfl | (simp; done) | (simp [*]; done) | (simp; rfl) | (simp [*]; omega) | (simp; omega))); (focus (first | rfl | simp)))
    · rw [if_neg h2]
      have h2' : (w + i) % 2 = 1 := by omega
      rw [h2'] at t1
      unfold af9 moSt
      simp only [atP]
      (repeat (first | ((with_reducible apply zah); (focus ((with_reducible apply zbb); (focus rfl); (focus rfl); (focus ((conv => lhs; simp [List.getElem?_append_right, List.set_append_right, List.getElem?_cons_zero, List.getElem?_append_left, List.set_append_left, -getElem?_pos, Nat.testBit_eq_decide_div_mod_eq, *]) <;> exact rfl)); (focus rfl); (focus rfl))); simp only [addFl]) | (with_reducible apply zah; (focus ((conv => lhs; simp [List.getElem?_append_right, List.set_append_right, List.getElem?_cons_zero, List.getElem?_append_left, List.set_append_left, -getElem?_pos, Nat.testBit_eq_decide_div_mod_eq, *]) <;> exact rfl)); simp only [addFl]) | ((with_reducible first | apply zai | apply zak | apply zag | apply zae | apply zac | apply zaj | apply zaf | apply zam | (apply zad; · simp [zaa, *]) | (apply zab; · simp [zaa, *])); try simp only [Then, Ops, OutB]) | simp only [Nat.reduceEqDiff, reduceIte, OutB, Then]))
      refine ⟨by first | rfl | trivial, ?_⟩
      (refine st_is ?_ ?_ ?_ ?_; (focus (simp [zan, zap])); (focus rfl); (focus (first | rfl | (simp; done) | (simp [*]; done) | (simp; rfl) | (simp [*]; omega) | (simp; omega))); (focus (first | rfl | simp)))
  · rw [if_neg h0]
    have h0' : (v.kind == 0) = false := beq_false_of_ne h0
    unfold af9 moSt
    simp only [atP]
    (repeat (first | ((with_reducible apply zah); (focus ((with_reducible apply zbb); (focus rfl); (focus rfl); (focus ((conv => lhs; simp [List.getElem?_append_right, List.set_append_right, List.getElem?_cons_zero, List.getElem?_append_left, List.set_append_left, -getElem?_pos, Nat.testBit_eq_decide_div_mod_eq, *]) <;> exact rfl)); (focus rfl); (focus rfl))); simp only [addFl]) | (with_reducible apply zah; (focus ((conv => lhs; simp [List.getElem?_append_right, List.set_append_right, List.getElem?_cons_zero, List.getElem?_append_left, List.set_append_left, -getElem?_pos, Nat.testBit_eq_decide_div_mod_eq, *]) <;> exact rfl)); simp only [addFl]) | ((with_reducible first | apply zai | apply zak | apply zag | apply zae | apply zac | apply zaj | apply zaf | apply zam | (apply zad; · simp [zaa, *]) | (apply zab; · simp [zaa, *])); try simp only [Then, Ops, OutB]) | simp only [Nat.reduceEqDiff, reduceIte, OutB, Then]))
    refine ⟨by first | rfl | trivial, ?_⟩
    have hG : G.set qe (.cells (evtCs xs)) = G := by
      apply List.ext_getElem?
      intro j
      rw [List.getElem?_set]
      by_cases hj : qe = j
      · subst hj; rw [if_pos rfl, E1, if_pos E2]
      · rw [if_neg hj]
    rw [HX.out, hG]
    (refine st_is ?_ ?_ ?_ ?_; (focus (simp [zan, zap])); (focus rfl); (focus (first | rfl | (simp; done) | (simp [*]; done) | (simp; rfl) | (simp [*]; omega) | (simp; omega))); (focus (first | rfl | simp)))
end K
end Ev
end Go.Proofs.Ytimgnlellflciaa

/- ClampMore, gone through: clamps numbered otherwise. -/
namespace Go.Proofs.Ytimgnlellflciaa
open Go
namespace Ev
namespace K
attribute [local simp] ev1 wantG spineK spine float xnew xval xeff zaa zaq zbc zav zaw addFl cellsOf pickC alive slLen slFt binI maxA maxK minA minK aeqK aeqS AV.cells spA zar fillA setAt bitsI nat_nn zbg AV.plain apart
set_option maxRecDepth 100000
set_option maxHeartbeats 4000000
inductive Grw (lo k : Nat) (G : List AB) (cs : List AV) (n : Nat) : AV → Prop
  | none : cs = [] → n = 0 → Grw lo k G cs n .nils
  | some (q : Nat) : lo ≤ q → HB G q (.cells cs) → cs.length = n * k → Grw lo k G cs n (.sl q 0 n k)
def mo2St (a5 a13 a14 a15 n nP iw : Nat) (wa wb : Int) (i : Nat) (G : List AB) : St := { tm := tmA 481 [(144, .int .i64 i), (143, .int .i64 n), (15, .ptr a15 0), (14, .ptr a14 0), (13, .ptr a13 0), (12, .int .i64 iw), (11, .int .i64 nP), (5, .ptr a5 0), (4, .int .u8 wb), (3, .int .u8 wa)], df := [], hp := G, tc := [] }
theorem zol (C : Cfg) (call : CallF) (c : Clm.Cl) (hc : Clm.Fine c) (H : List AB) (a5 a13 a14 a15 iw lo : Nat) (wa wb : Int) (i : Nat) (hi : i < c.piles.length) (G : List AB) (_h5 : a5 < lo) (h15 : a15 < lo) (hlo : lo ≤ G.length) (_hH : H.length ≤ lo) (hHa : H.length ≤ a15) (hne : a5 ≠ a15) (lv lv2 : AV)
    (hA5 : HB G a5 (.cells (clampCs c))) (hA15 : HB G a15 (.cells [lv, .int .i64 c.pack.lo, .int .i64 c.pack.hi, lv2])) (hev : lv2 = .nils) (hg : Grw lo 6 G (pileCs (c.piles.reverse.take i)) i lv) :
    Does (ev C call H.length none (atP [1, 1, 1, 1, 1, 1, 1, 1, 1, 0, 1, 0, 0] af9.body) (mo2St a5 a13 a14 a15 c.piles.length c.piles.length iw wa wb i G))
      (fun e st => e = .normal ∧ ∃ G' lv', G.length ≤ G'.length ∧ (∀ r x, r < lo → r ≠ a15 → HB G r x → HB G' r x) ∧ HB G' a15 (.cells [lv', .int .i64 c.pack.lo, .int .i64 c.pack.hi, lv2]) ∧ Grw lo 6 G' (pileCs (c.piles.reverse.take (i + 1))) (i + 1) lv' ∧ { st with tm := keepT [3, 4, 5, 11, 12, 13, 14, 15, 143, 144] st.tm } = mo2St a5 a13 a14 a15 c.piles.length c.piles.length iw wa wb (i + 1) G') := by
  subst hev
  have hgp : c.piles[c.piles.length - 1 - i]? = some c.piles[c.piles.length - 1 - i] := List.getElem?_eq_getElem (by omega)
  have hrv : c.piles.reverse[i]? = some c.piles[c.piles.length - 1 - i] := by rw [List.getElem?_reverse hi]; exact hgp
  generalize c.piles[c.piles.length - 1 - i] = p at hgp hrv
  have ht : c.piles.reverse.take (i + 1) = c.piles.reverse.take i ++ [p] := by rw [List.take_add_one, hrv]; rfl
  have htl : (c.piles.reverse.take i).length = i := by simp; omega
  rw [ht, zkd]
  generalize c.piles.reverse.take i = L at *
  have hp4 := hc.piles
  have w1 : IntKind.i64.wrap ((c.piles.length : Int) - 1) = (c.piles.length : Int) - 1 := zas (by omega) (by omega)
  obtain ⟨j, hj, hj2⟩ : ∃ j : Nat, c.piles.length - 1 - i = j ∧ (c.piles.length : Int) - 1 - i = (j : Int) := ⟨_, rfl, by omega⟩
  rw [hj] at hgp
  have w2 : IntKind.i64.wrap ((c.piles.length : Int) - 1 - i) = (j : Int) := by rw [hj2]; exact zas (by omega) (by omega)
  have hjl : (j : Int) < c.piles.length := by omega
  have hgp' := ge_of hgp
  have hwi : IntKind.i64.wrap (↑i + 1) = ↑i + 1 := zas (by omega) (by omega)
  have e5 : (i : Int) < c.piles.length := by omega
  have g0 : ¬ (a15 < H.length) := by omega
  have gG : ∀ n, ¬ (G.length + n < H.length) := fun n => by omega
  have gG0 : ¬ (G.length < H.length) := by omega
  have hb1 : 1 ≤ bound := by decide
  have hbi : i + 1 ≤ bound := by unfold bound; omega
  have h15' := hA15
  have h5' := hA5
  obtain ⟨A1, A2, A3⟩ := hA15
  obtain ⟨B1, B2, B3⟩ := hA5
  have HX := hideP (And.intro h15' (And.intro hlo htl))
  clear h15' h5' hlo ht htl hrv hc hp4 hj hj2
  have hne' : a15 ≠ a5 := Ne.symm hne
  have hpp := zdg L
  cases hg with
  | none h0 hi0 =>
    have HY := hideP hi0
    clear hi0
    rw [h0] at *
    clear h0
    unfold af9 mo2St
    simp only [atP, clampCs] at *
    (repeat (first | ((with_reducible apply zah); (focus ((with_reducible apply zbb); (focus rfl); (focus rfl); (focus ((conv => lhs; simp [List.getElem?_append_right, List.set_append_right, List.getElem?_cons_zero, List.getElem?_append_left, List.set_append_left, -getElem?_pos, pileE, Nat.testBit_eq_decide_div_mod_eq, *]) <;> exact rfl)); (focus rfl); (focus rfl))); simp only [addFl]) | (with_reducible apply zah; (focus ((conv => lhs; simp [List.getElem?_append_right, List.set_append_right, List.getElem?_cons_zero, List.getElem?_append_left, List.set_append_left, -getElem?_pos, pileE, Nat.testBit_eq_decide_div_mod_eq, *]) <;> exact rfl)); simp only [addFl]) | ((with_reducible first | apply zai | apply zak | apply zag | apply zae | apply zac | apply zaj | apply zaf | apply zam | (apply zad; · simp [zaa, *]) | (apply zab; · simp [zaa, *])); try simp only [Then, Ops, OutB]) | simp only [Nat.reduceEqDiff, reduceIte, OutB, Then]))
    obtain ⟨h15', hlo, htl⟩ := HX.out
    have hi0 := HY.out
    subst hi0
    refine ⟨by first | rfl | trivial, G.set a15 (.cells [.sl (G.length + 1) 0 1 6, .int .i64 c.pack.lo, .int .i64 c.pack.hi, .nils]) ++ [.cells [.int .i64 p.long.lo, .int .i64 p.long.hi, .int .i64 p.wide.lo, .int .i64 p.wide.hi, .int .i64 p.high.lo, .int .i64 p.high.hi], .cells [.int .i64 p.long.lo, .int .i64 p.long.hi, .int .i64 p.wide.lo, .int .i64 p.wide.hi, .int .i64 p.high.lo, .int .i64 p.high.hi]], .sl (G.length + 1) 0 1 6, by simp, fun r x _ hr h => (h.set _ (Ne.symm hr)).app _, (h15'.here _).app _, .some _ (by omega) (hb (by rw [List.getElem?_append_right (by simp)]; simp [pileCs])) (by simp [pileCs]), ?_⟩
    (refine st_is ?_ ?_ ?_ ?_; (focus (simp [zan, zap])); (focus rfl); (focus (first | rfl | (simp; done) | (simp [*]; done) | (simp; rfl) | (simp [*]; omega) | (simp; omega))); (focus (first | rfl | simp)))
  | some q l1 h1 hl =>
    have n1 : a15 ≠ q := by omega
    have n3 : q ≠ a15 := by omega
    have n2 : ¬ (q < H.length) := by omega
    have h1' := h1
    obtain ⟨Q1, Q2, Q3⟩ := h1
    have HY := hideP (And.intro h1' hl)
    clear h1'
    unfold af9 mo2St
    simp only [atP, clampCs] at *
    (repeat (first | ((with_reducible apply zah); (focus ((with_reducible apply zbb); (focus rfl); (focus rfl); (focus ((conv => lhs; simp [List.getElem?_append_right, List.set_append_right, List.getElem?_cons_zero, List.getElem?_append_left, List.set_append_left, -getElem?_pos, pileE, Nat.testBit_eq_decide_div_mod_eq, *]) <;> exact rfl)); (focus rfl); (focus rfl))); simp only [addFl]) | (with_reducible apply zah; (focus ((conv => lhs; simp [List.getElem?_append_right, List.set_append_right, List.getElem?_cons_zero, List.getElem?_append_left, List.set_append_left, -getElem?_pos, pileE, Nat.testBit_eq_decide_div_mod_eq, *]) <;> exact rfl)); simp only [addFl]) | ((with_reducible first | apply zai | apply zak | apply zag | apply zae | apply zac | apply zaj | apply zaf | apply zam | (apply zad; · simp [zaa, *]) | (apply zab; · simp [zaa, *])); try simp only [Then, Ops, OutB]) | simp only [Nat.reduceEqDiff, reduceIte, OutB, Then]))
    obtain ⟨h15', hlo, htl⟩ := HX.out
    obtain ⟨h1', hl⟩ := HY.out
    refine ⟨by first | rfl | trivial, (G.set q .dead).set a15 (.cells [.sl (G.length + 1) 0 (i + 1) 6, .int .i64 c.pack.lo, .int .i64 c.pack.hi, .nils]) ++ [.cells [.int .i64 p.long.lo, .int .i64 p.long.hi, .int .i64 p.wide.lo, .int .i64 p.wide.hi, .int .i64 p.high.lo, .int .i64 p.high.hi], .cells (pileCs L ++ [.int .i64 p.long.lo, .int .i64 p.long.hi, .int .i64 p.wide.lo, .int .i64 p.wide.hi, .int .i64 p.high.lo, .int .i64 p.high.hi])], .sl (G.length + 1) 0 (i + 1) 6, by simp, fun r x hlt hr h => ((h.set _ (by omega)).set _ (Ne.symm hr)).app _, ((h15'.set _ n3).here _).app _, .some _ (by omega) (hb (by rw [List.getElem?_append_right (by simp)]; simp [pileCs])) (by simp only [List.length_append, hl]; simp [pileCs]; omega), ?_⟩
    (refine st_is ?_ ?_ ?_ ?_; (focus (simp [zan, zap])); (focus rfl); (focus (first | rfl | (simp; done) | (simp [*]; done) | (simp; rfl) | (simp [*]; omega) | (simp; omega))); (focus (first | rfl | simp)))
end K
end Ev
end Go.Proofs.Ytimgnlellflciaa

/- ClampMore, gone through: events of clamps numbered otherwise. -/
namespace Go.Proofs.Ytimgnlellflciaa
open Go
namespace Ev
namespace K
attribute [local simp] ev1 wantG spineK spine float xnew xval xeff zaa zaq zbc zav zaw addFl cellsOf pickC alive slLen slFt binI maxA maxK minA minK aeqK aeqS AV.cells spA zar fillA setAt bitsI nat_nn zbg AV.plain apart
set_option maxRecDepth 100000
set_option maxHeartbeats 4000000
def mo3St (a5 a13 a14 a15 : Nat) (es : List Clm.Evt) (nP iw : Nat) (wa wb : Int) (i : Nat) (G : List AB) : St := { tm := tmA 481 [(164, .int .i64 i), (163, .int .i64 es.length), (162, .vs 4 (es.map evtE)), (15, .ptr a15 0), (14, .ptr a14 0), (13, .ptr a13 0), (12, .int .i64 iw), (11, .int .i64 nP), (5, .ptr a5 0), (4, .int .u8 wb), (3, .int .u8 wa)], df := [], hp := G, tc := [] }
theorem zok (C : Cfg) (call : CallF) (c : Clm.Cl) (hc : Clm.Fine c) (H : List AB) (a5 a13 a14 a15 iw lo : Nat) (wa wb : Int) (i : Nat) (hi : i < c.events.length) (G : List AB) (h15 : a15 < lo) (hlo : lo ≤ G.length) (_hH : H.length ≤ lo) (hHa : H.length ≤ a15) (lv pv : AV)
    (hA15 : HB G a15 (.cells [pv, .int .i64 c.pack.lo, .int .i64 c.pack.hi, lv])) (hg : Grw lo 4 G (evtCs ((c.events.map (Clm.revE c.piles.length)).take i)) i lv) :
    Does (ev C call H.length none (atP [1, 1, 1, 1, 1, 1, 1, 1, 1, 1, 0, 1, 0, 0] af9.body) (mo3St a5 a13 a14 a15 c.events c.piles.length iw wa wb i G))
      (fun e st => e = .normal ∧ ∃ G' lv', G.length ≤ G'.length ∧ (∀ r x, r < lo → r ≠ a15 → HB G r x → HB G' r x) ∧ HB G' a15 (.cells [pv, .int .i64 c.pack.lo, .int .i64 c.pack.hi, lv']) ∧ Grw lo 4 G' (evtCs ((c.events.map (Clm.revE c.piles.length)).take (i + 1))) (i + 1) lv' ∧ { st with tm := keepT [3, 4, 5, 11, 12, 13, 14, 15, 162, 163, 164] st.tm } = mo3St a5 a13 a14 a15 c.events c.piles.length iw wa wb (i + 1) G') := by
  have hgv : c.events[i]? = some c.events[i] := List.getElem?_eq_getElem hi
  have hok := (hc.event c.events[i] (List.getElem_mem hi)).1
  generalize c.events[i] = v at hgv hok
  have hgv' := ge_of hgv
  have ht : (c.events.map (Clm.revE c.piles.length)).take (i + 1) = (c.events.map (Clm.revE c.piles.length)).take i ++ [Clm.revE c.piles.length v] := by rw [List.take_add_one, List.getElem?_map, hgv]; rfl
  rw [ht, zct]
  generalize (c.events.map (Clm.revE c.piles.length)).take i = L at *
  have hp4 := hc.piles
  have he6 := hc.events
  have w1 : IntKind.i64.wrap ((c.piles.length : Int) - 1) = (c.piles.length : Int) - 1 := zas (by omega) (by omega)
  have w2 : IntKind.i64.wrap ((c.piles.length : Int) - 1 - v.clamp) = (c.piles.length : Int) - 1 - v.clamp := zas (by omega) (by omega)
  have hwi : IntKind.i64.wrap (↑i + 1) = ↑i + 1 := zas (by omega) (by omega)
  have e5 : (i : Int) < c.events.length := by omega
  have g0 : ¬ (a15 < H.length) := by omega
  have gG : ∀ n, ¬ (G.length + n < H.length) := fun n => by omega
  have gG0 : ¬ (G.length < H.length) := by omega
  have hb1 : 1 ≤ bound := by decide
  have hbi : i + 1 ≤ bound := by unfold bound; omega
  have h15' := hA15
  obtain ⟨A1, A2, A3⟩ := hA15
  have HX := hideP (And.intro h15' hlo)
  clear h15' hlo ht hc hp4 he6 hok
  have hpp := zby L
  cases hg with
  | none h0 hi0 =>
    have HY := hideP hi0
    clear hi0
    rw [h0] at *
    clear h0
    unfold af9 mo3St
    simp only [atP] at *
    (repeat (first | ((with_reducible apply zah); (focus ((with_reducible apply zbb); (focus rfl); (focus rfl); (focus ((conv => lhs; simp [List.getElem?_append_right, List.set_append_right, List.getElem?_cons_zero, List.getElem?_append_left, List.set_append_left, -getElem?_pos, evtE, Nat.testBit_eq_decide_div_mod_eq, *]) <;> exact rfl)); (focus rfl); (focus rfl))); simp only [addFl]) | (with_reducible apply zah; (focus ((conv => lhs; simp [List.getElem?_append_right, List.set_append_right, List.getElem?_cons_zero, List.getElem?_append_left, List.set_append_left, -getElem?_pos, evtE, Nat.testBit_eq_decide_div_mod_eq, *]) <;> exact rfl)); simp only [addFl]) | ((with_reducible first | apply zai | apply zak | apply zag | apply zae | apply zac | apply zaj | apply zaf | apply zam | (apply zad; · simp [zaa, *]) | (apply zab; · simp [zaa, *])); try simp only [Then, Ops, OutB]) | simp only [Nat.reduceEqDiff, reduceIte, OutB, Then]))
    obtain ⟨h15', hlo⟩ := HX.out
    have hi0 := HY.out
    subst hi0
    refine ⟨by first | rfl | trivial, G.set a15 (.cells [pv, .int .i64 c.pack.lo, .int .i64 c.pack.hi, .sl (G.length + 2) 0 1 4]) ++ [.cells [.int .i64 v.kind, .int .i64 ((c.piles.length : Int) - 1 - v.clamp), .int .i64 v.sods.lo, .int .i64 v.sods.hi], .cells [.int .i64 v.kind, .int .i64 ((c.piles.length : Int) - 1 - v.clamp), .int .i64 v.sods.lo, .int .i64 v.sods.hi], .cells [.int .i64 v.kind, .int .i64 ((c.piles.length : Int) - 1 - v.clamp), .int .i64 v.sods.lo, .int .i64 v.sods.hi]], .sl (G.length + 2) 0 1 4, by simp, fun r x _ hr h => (h.set _ (Ne.symm hr)).app _, (h15'.here _).app _, .some _ (by omega) (hb (by rw [List.getElem?_append_right (by simp)]; simp [evtCs, Clm.revE])) (by simp [evtCs]), ?_⟩
    (refine st_is ?_ ?_ ?_ ?_; (focus (simp [zan, zap])); (focus rfl); (focus (first | rfl | (simp; done) | (simp [*]; done) | (simp; rfl) | (simp [*]; omega) | (simp; omega))); (focus (first | rfl | simp)))
  | some q l1 h1 hl =>
    have n1 : a15 ≠ q := by omega
    have n3 : q ≠ a15 := by omega
    have n2 : ¬ (q < H.length) := by omega
    have h1' := h1
    obtain ⟨Q1, Q2, Q3⟩ := h1
    have HY := hideP (And.intro h1' hl)
    clear h1'
    unfold af9 mo3St
    simp only [atP] at *
    (repeat (first | ((with_reducible apply zah); (focus ((with_reducible apply zbb); (focus rfl); (focus rfl); (focus ((conv => lhs; simp [List.getElem?_append_right, List.set_append_right, List.getElem?_cons_zero, List.getElem?_append_left, List.set_append_left, -getElem?_pos, evtE, Nat.testBit_eq_decide_div_mod_eq, *]) <;> exact rfl)); (focus rfl); (focus rfl))); simp only [addFl]) | (with_reducible apply zah; (focus ((conv => lhs; simp [List.getElem?_append_right, List.set_append_right, List.getElem?_cons_zero, List.getElem?_append_left, List.set_append_left, -getElem?_pos, evtE, Nat.testBit_eq_decide_div_mod_eq, *]) <;> exact rfl)); simp only [addFl]) | ((with_reducible first | apply zai | apply zak | apply zag | apply zae | apply zac | apply zaj | apply zaf | apply zam | (apply zad; · simp [zaa, *]) | (apply zab; · simp [zaa, *])); try simp only [Then, Ops, OutB]) | simp only [Nat.reduceEqDiff, reduceIte, OutB, Then]))
    obtain ⟨h15', hlo⟩ := HX.out
    obtain ⟨h1', hl⟩ := HY.out
    refine ⟨by first | rfl | trivial, (G.set q .dead).set a15 (.cells [pv, .int .i64 c.pack.lo, .int .i64 c.pack.hi, .sl (G.length + 2) 0 (i + 1) 4]) ++ [.cells [.int .i64 v.kind, .int .i64 ((c.piles.length : Int) - 1 - v.clamp), .int .i64 v.sods.lo, .int .i64 v.sods.hi], .cells [.int .i64 v.kind, .int .i64 ((c.piles.length : Int) - 1 - v.clamp), .int .i64 v.sods.lo, .int .i64 v.sods.hi], .cells (evtCs L ++ [.int .i64 v.kind, .int .i64 ((c.piles.length : Int) - 1 - v.clamp), .int .i64 v.sods.lo, .int .i64 v.sods.hi])], .sl (G.length + 2) 0 (i + 1) 4, by simp, fun r x hlt hr h => ((h.set _ (by omega)).set _ (Ne.symm hr)).app _, ((h15'.set _ n3).here _).app _, .some _ (by omega) (hb (by rw [List.getElem?_append_right (by simp)]; simp [evtCs, Clm.revE])) (by simp only [List.length_append, hl]; simp [evtCs]; omega), ?_⟩
    (refine st_is ?_ ?_ ?_ ?_; (focus (simp [zan, zap])); (focus rfl); (focus (first | rfl | (simp; done) | (simp [*]; done) | (simp; rfl) | (simp [*]; omega) | (simp; omega))); (focus (first | rfl | simp)))
end K
end Ev
end Go.Proofs.Ytimgnlellflciaa

/- ClampMore, gone through: clamps of which more is known. -/
namespace Go.Proofs.Ytimgnlellflciaa
open Go
namespace Ev
namespace K
attribute [local simp] ev1 wantG spineK spine float xnew xval xeff zaa zaq zbc zav zaw addFl cellsOf pickC alive slLen slFt binI maxA maxK minA minK aeqK aeqS AV.cells spA zar fillA setAt bitsI nat_nn zbg AV.plain apart
set_option maxRecDepth 100000
set_option maxHeartbeats 4000000
def QFacts (call : CallF) (i : Nat) (e : Int) (bs hs ss al : Clm.Sp) (G : List AB) (qv : AV) : Prop :=
  ((∀ K, call (.fn (.func 22) [] []) [qv] (G ++ K) = some (.ret (.bool false), G ++ K, [])) ∨
   ((∀ K, call (.fn (.func 22) [] []) [qv] (G ++ K) = some (.ret (.bool true), G ++ K, [])) ∧
    ∃ (k l o r : Clm.Sp) (er : Int), (∀ K, call (.fn (.func 10) [] []) [qv, .int .i64 i] (G ++ K) = some (.ret (.tup [.agg [.int .i64 k.lo, .int .i64 k.hi], .int .i64 er]), G ++ K, [])) ∧
      (∀ K, call (.fn (.func 12) [] []) [qv, .int .i64 i] (G ++ K) = some (.ret (.tup [.agg [.int .i64 l.lo, .int .i64 l.hi], .int .i64 er]), G ++ K, [])) ∧
      (∀ K, call (.fn (.func 13) [] []) [qv, .int .i64 i] (G ++ K) = some (.ret (.tup [.agg [.int .i64 o.lo, .int .i64 o.hi], .int .i64 er]), G ++ K, [])) ∧
      (∀ K, call (.fn (.func 25) [] []) [qv] (G ++ K) = some (.ret (.tup [.agg [.int .i64 r.lo, .int .i64 r.hi], .int .i64 er]), G ++ K, [])) ∧
      (er = 10 ∨ (er = 0 ∧ e = 0 ∧ Clm.In k bs ∧ Clm.In l hs ∧ Clm.In o ss ∧ Clm.In r al))))
def mo4St (a5 a15 a23 a25 a27 a29 q nP iw : Nat) (e : Int) (bv pv : AV) (wa wb : Int) (j : Nat) (G : List AB) : St := { tm := tmA 481 [(216, .int .i64 j), (215, .int .i64 2), (214, .sl q 0 2 4), (31, .fn (.func 33) [] []), (30, .int .i64 e), (29, .ptr a29 0), (28, .int .i64 e), (27, .ptr a27 0), (26, .int .i64 e), (25, .ptr a25 0), (24, .int .i64 e), (23, .ptr a23 0), (22, pv), (21, bv), (15, .ptr a15 0), (12, .int .i64 iw), (11, .int .i64 nP), (5, .ptr a5 0), (4, .int .u8 wb), (3, .int .u8 wa)], df := [], hp := G, tc := [] }
theorem ziz (C : Cfg) (call : CallF) (hI : InC call) (H : List AB) (a5 a15 a23 a25 a27 a29 q nP iw : Nat) (e : Int) (bv pv : AV) (wa wb : Int) (bs hs ss al : Clm.Sp) (j : Nat) (hj : j < 2) (G K : List AB) (hG : H.length ≤ G.length) (cs : List AV) (x0 x1 x2 x3 : AV) (hcs : HB G q (.cells cs)) (hlen : cs.length = 8) (hcj : (cs.drop (j * 4)).take 4 = [x0, x1, x2, x3]) (hpl : [x0, x1, x2, x3].all AV.plain = true)
    (h23 : HB G a23 (.cells [.int .i64 bs.lo, .int .i64 bs.hi])) (h25 : HB G a25 (.cells [.int .i64 hs.lo, .int .i64 hs.hi])) (h27 : HB G a27 (.cells [.int .i64 ss.lo, .int .i64 ss.hi])) (h29 : HB G a29 (.cells [.int .i64 al.lo, .int .i64 al.hi])) (hF : QFacts call iw e bs hs ss al G (.agg [x0, x1, x2, x3])) :
    Does (ev C call H.length none (atP [1, 1, 1, 1, 1, 1, 1, 1, 1, 1, 1, 1, 1, 1, 1, 1, 1, 0, 1, 0, 0] af9.body) (mo4St a5 a15 a23 a25 a27 a29 q nP iw e bv pv wa wb j (G ++ K)))
      (fun ex st => ex = .normal ∧ ∃ K, { st with tm := keepT [3, 4, 5, 11, 12, 15, 21, 22, 23, 24, 25, 26, 27, 28, 29, 30, 31, 214, 215, 216] st.tm } = mo4St a5 a15 a23 a25 a27 a29 q nP iw e bv pv wa wb (j + 1) (G ++ K)) := by
  have e5 : (j : Int) < 2 := by omega
  have hwj : IntKind.i64.wrap (↑j + 1) = ↑j + 1 := zas (by omega) (by omega)
  have e8 : j * 4 + 4 ≤ 8 := by omega
  have gG : ∀ n, ¬ (G.length + n < H.length) := fun n => by omega
  obtain ⟨Q1, Q2, Q3⟩ := hcs
  obtain ⟨A1, A2, A3⟩ := h23
  obtain ⟨B1, B2, B3⟩ := h25
  obtain ⟨D1, D2, D3⟩ := h27
  obtain ⟨E1, E2, E3⟩ := h29
  clear hG hj
  rcases hF with hv | ⟨hv, k, l, o, r, er, f1, f2, f3, f4, hc⟩
  · unfold af9 mo4St
    simp only [atP]
    (repeat (first | ((with_reducible apply zah); (focus ((with_reducible apply zbb); (focus rfl); (focus rfl); (focus ((conv => lhs; simp [List.getElem?_append_right, List.set_append_right, List.getElem?_cons_zero, List.getElem?_append_left, List.set_append_left, -getElem?_pos, Nat.testBit_eq_decide_div_mod_eq, *]) <;> exact rfl)); (focus rfl); (focus rfl))); simp only [addFl]) | (with_reducible apply zah; (focus ((conv => lhs; simp [List.getElem?_append_right, List.set_append_right, List.getElem?_cons_zero, List.getElem?_append_left, List.set_append_left, -getElem?_pos, Nat.testBit_eq_decide_div_mod_eq, *]) <;> exact rfl)); simp only [addFl]) | ((with_reducible first | apply zai | apply zak | apply zag | apply zae | apply zac | apply zaj | apply zaf | apply zam | (apply zad; · simp [zaa, *]) | (apply zab; · simp [zaa, *])); try simp only [Then, Ops, OutB, reduceIte]) | simp only [Nat.reduceEqDiff, reduceIte, OutB, Then]))
    refine ⟨by first | rfl | trivial, K ++ [.cells [x0, x1, x2, x3]], ?_⟩
    (refine st_is ?_ ?_ ?_ ?_; (focus (simp [zan, zap])); (focus rfl); (focus (first | rfl | (simp; done) | (simp [*]; done) | (simp; rfl) | (simp [*]; omega) | (simp; omega))); (focus (first | rfl | simp)))
  · have i1 := fun H => hI H k.lo k.hi bs.lo bs.hi
    have i2 := fun H => hI H l.lo l.hi hs.lo hs.hi
    have i3 := fun H => hI H o.lo o.hi ss.lo ss.hi
    have i4 := fun H => hI H r.lo r.hi al.lo al.hi
    clear hI
    rcases hc with rfl | ⟨rfl, rfl, c1, c2, c3, c4⟩
    · unfold af9 mo4St
      simp only [atP]
      (repeat (first | ((with_reducible apply zah); (focus ((with_reducible apply zbb); (focus rfl); (focus rfl); (focus ((conv => lhs; simp [List.getElem?_append_right, List.set_append_right, List.getElem?_cons_zero, List.getElem?_append_left, List.set_append_left, -getElem?_pos, Nat.testBit_eq_decide_div_mod_eq, *]) <;> exact rfl)); (focus rfl); (focus rfl))); simp only [addFl]) | (with_reducible apply zah; (focus ((conv => lhs; simp [List.getElem?_append_right, List.set_append_right, List.getElem?_cons_zero, List.getElem?_append_left, List.set_append_left, -getElem?_pos, Nat.testBit_eq_decide_div_mod_eq, *]) <;> exact rfl)); simp only [addFl]) | ((with_reducible first | apply zai | apply zak | apply zag | apply zae | apply zac | apply zaj | apply zaf | apply zam | (apply zad; · simp [zaa, *]) | (apply zab; · simp [zaa, *])); try simp only [Then, Ops, OutB]) | simp only [Nat.reduceEqDiff, reduceIte, OutB, Then]))
      refine ⟨by first | rfl | trivial, K ++ [.cells [x0, x1, x2, x3], .cells [.int .i64 k.lo, .int .i64 k.hi], .cells [.int .i64 l.lo, .int .i64 l.hi], .cells [.int .i64 o.lo, .int .i64 o.hi], .cells [.int .i64 r.lo, .int .i64 r.hi]], ?_⟩
      (refine st_is ?_ ?_ ?_ ?_; (focus (simp [zan, zap])); (focus rfl); (focus (first | rfl | (simp; done) | (simp [*]; done) | (simp; rfl) | (simp [*]; omega) | (simp; omega))); (focus (first | rfl | simp)))
    · unfold Clm.In at c1 c2 c3 c4
      rw [decide_eq_true c1] at i1
      rw [decide_eq_true c2] at i2
      rw [decide_eq_true c3] at i3
      rw [decide_eq_true c4] at i4
      clear c1 c2 c3 c4
      unfold af9 mo4St
      simp only [atP]
      (repeat (first | ((with_reducible apply zah); (focus ((with_reducible apply zbb); (focus rfl); (focus rfl); (focus ((conv => lhs; simp [List.getElem?_append_right, List.set_append_right, List.getElem?_cons_zero, List.getElem?_append_left, List.set_append_left, -getElem?_pos, Nat.testBit_eq_decide_div_mod_eq, *]) <;> exact rfl)); (focus rfl); (focus rfl))); simp only [addFl]) | (with_reducible apply zah; (focus ((conv => lhs; simp [List.getElem?_append_right, List.set_append_right, List.getElem?_cons_zero, List.getElem?_append_left, List.set_append_left, -getElem?_pos, Nat.testBit_eq_decide_div_mod_eq, *]) <;> exact rfl)); simp only [addFl]) | ((with_reducible first | apply zai | apply zak | apply zag | apply zae | apply zac | apply zaj | apply zaf | apply zam | (apply zad; · simp [zaa, *]) | (apply zab; · simp [zaa, *])); try simp only [Then, Ops, OutB]) | simp only [Nat.reduceEqDiff, reduceIte, OutB, Then]))
      refine ⟨by first | rfl | trivial, K ++ [.cells [x0, x1, x2, x3], .cells [.int .i64 k.lo, .int .i64 k.hi], .cells [.int .i64 l.lo, .int .i64 l.hi], .cells [.int .i64 o.lo, .int .i64 o.hi], .cells [.int .i64 r.lo, .int .i64 r.hi]], ?_⟩
      (refine st_is ?_ ?_ ?_ ?_; (focus (simp [zan, zap])); (focus rfl); (focus (first | rfl | (simp; done) | (simp [*]; done) | (simp; rfl) | (simp [*]; omega) | (simp; omega))); (focus (first | rfl | simp)))
end K
end Ev
end Go.Proofs.Ytimgnlellflciaa

/- ClampMore, gone through: what is told of its clamps. -/
namespace Go.Proofs.Ytimgnlellflciaa
open Go
namespace Ev
namespace K
set_option maxRecDepth 100000
set_option maxHeartbeats 4000000
def sp0 (c : Clm.Cl) (s : Clm.Sp) : Clm.Sp := if errOf c true = 0 then s else ⟨0, 0⟩
structure SFacts (call : CallF) (i : Nat) (e : Int) (bs hs ss al : Clm.Sp) (G : List AB) (v : AV) : Prop where
  built : ∀ K, call (.fn (.func 10) [] []) [v, .int .i64 i] (G ++ K) = some (.ret (.tup [.agg [.int .i64 bs.lo, .int .i64 bs.hi], .int .i64 e]), G ++ K, [])
  has : ∀ K, call (.fn (.func 12) [] []) [v, .int .i64 i] (G ++ K) = some (.ret (.tup [.agg [.int .i64 hs.lo, .int .i64 hs.hi], .int .i64 e]), G ++ K, [])
  sold : ∀ K, call (.fn (.func 13) [] []) [v, .int .i64 i] (G ++ K) = some (.ret (.tup [.agg [.int .i64 ss.lo, .int .i64 ss.hi], .int .i64 e]), G ++ K, [])
  all : ∀ K, call (.fn (.func 25) [] []) [v] (G ++ K) = some (.ret (.tup [.agg [.int .i64 al.lo, .int .i64 al.hi], .int .i64 e]), G ++ K, [])
theorem znz {call : CallF} (hA : LApi call) {c : Clm.Cl} {i : Nat} (hi : i < c.piles.length) {G : List AB} {v : AV} (hcl : ∀ K, clOf (G ++ K) v = some c) :
    SFacts call i (errOf c true) (sp0 c (Clm.ofAll c i builtG)) (sp0 c (Clm.hasC c i)) (sp0 c (Clm.ofAll c i (soldG c))) (sp0 c (Clm.together c (fullP c))) G v := by
  have hP : isP c (i : Int) = true := decide_eq_true ⟨by omega, by omega⟩
  refine ⟨fun K => ?_, fun K => ?_, fun K => ?_, fun K => ?_⟩
  · rw [hA.built (hcl K)]; unfold spanR; rw [hP]; rfl
  · rw [hA.has (hcl K)]; unfold spanR; rw [hP]; rfl
  · rw [hA.sold (hcl K)]; unfold spanR; rw [hP]; rfl
  · rw [hA.all (hcl K)]; rfl
theorem p_has {call : CallF} (hA : LApi call) {c : Clm.Cl} {i : Nat} (hi : i < c.piles.length) {H : List AB} {v : AV} (hcl : clOf H v = some c) : call (.fn (.func 12) [] []) [v, .int .i64 i] H = some (.ret (.tup [.agg [.int .i64 (sp0 c (Clm.hasC c i)).lo, .int .i64 (sp0 c (Clm.hasC c i)).hi], .int .i64 (errOf c true)]), H, []) := by
  have hP : isP c (i : Int) = true := decide_eq_true ⟨by omega, by omega⟩
  rw [hA.has hcl]; unfold spanR; rw [hP]; rfl
theorem p_all {call : CallF} (hA : LApi call) {c : Clm.Cl} {H : List AB} {v : AV} (hcl : clOf H v = some c) : call (.fn (.func 25) [] []) [v] H = some (.ret (.tup [.agg [.int .i64 (sp0 c (Clm.together c (fullP c))).lo, .int .i64 (sp0 c (Clm.together c (fullP c))).hi], .int .i64 (errOf c true)]), H, []) := by
  rw [hA.all hcl]; rfl
theorem err_of {c : Clm.Cl} (h : Clm.Fine c) : errOf c true = if Clm.can c (Clm.every c) then 0 else 10 := by
  unfold errOf; rw [(Clm.valid_iff c).2 h]
  cases Clm.can c (Clm.every c) <;> rfl
theorem zuj {call : CallF} (hA : LApi call) {c d : Clm.Cl} (hc : Clm.Fine c) (hl : Clm.Fine d → Clm.Less d c) (hpl : d.piles.length = c.piles.length) {i : Nat} (hi : i < c.piles.length) {G : List AB} {v : AV} (hcl : ∀ K, clOf (G ++ K) v = some d) :
    QFacts call i (errOf c true) (sp0 c (Clm.ofAll c i builtG)) (sp0 c (Clm.hasC c i)) (sp0 c (Clm.ofAll c i (soldG c))) (sp0 c (Clm.together c (fullP c))) G v := by
  cases hv : Clm.valid d with
  | false => exact .inl fun K => by rw [hA.valid (hcl K), hv]
  | true =>
    have hd := (Clm.valid_iff d).1 hv
    have hS := znz hA (i := i) (by omega) hcl
    refine .inr ⟨fun K => by rw [hA.valid (hcl K), hv], _, _, _, _, _, hS.built, hS.has, hS.sold, hS.all, ?_⟩
    have hL := hl hd
    cases hcan : Clm.can d (Clm.every d) with
    | false => exact .inl (by rw [err_of hd, hcan]; rfl)
    | true =>
      have hcc := hL.can hd hc hcan
      have e1 : errOf d true = 0 := by rw [err_of hd, hcan]; rfl
      have e2 : errOf c true = 0 := by rw [err_of hc, hcc]; rfl
      obtain ⟨h1, h2⟩ := hL.all hd hc hcan
      obtain ⟨h3, h4, h5⟩ := h1 i (by omega)
      unfold sp0
      rw [e1, e2]
      simp only [if_pos]
      have hf : fullP d = fullP c := by unfold fullP; rw [hpl]
      rw [hf]
      exact .inr ⟨trivial, trivial, h3, h4, h5, h2 _⟩
theorem zzm {call : CallF} (hA : LApi call) {c : Clm.Cl} (hc : Clm.Fine c) {i : Nat} (hi : i < c.piles.length) {G : List AB} {v : AV} (hcl : ∀ K, clOf (G ++ K) v = some (Clm.revC c)) :
    SFacts call (c.piles.length - 1 - i) (errOf c true) (sp0 c (Clm.ofAll c i builtG)) (sp0 c (Clm.hasC c i)) (sp0 c (Clm.ofAll c i (soldG c))) (sp0 c (Clm.together c (fullP c))) G v := by
  have hz := Clm.revC_fine hc
  have hS := znz hA (i := c.piles.length - 1 - i) (by rw [Clm.revC_len]; omega) hcl
  have he : errOf (Clm.revC c) true = errOf c true := by rw [err_of hz, err_of hc, Clm.revC_can hc]
  have hsp : ∀ s, sp0 (Clm.revC c) s = sp0 c s := fun s => by unfold sp0; rw [he]
  simp only [he, hsp] at hS
  cases hcan : Clm.can c (Clm.every c) with
  | false =>
    have e2 : errOf c true = 10 := by rw [err_of hc, hcan]; rfl
    have hn : ∀ s, sp0 c s = ⟨0, 0⟩ := fun s => by unfold sp0; rw [e2]; rfl
    simp only [hn] at hS ⊢
    exact hS
  | true =>
    obtain ⟨h1, h2⟩ := Clm.revC_all hc hcan
    obtain ⟨h3, h4, h5⟩ := h1 i hi
    have h2' : Clm.together (Clm.revC c) (fullP (Clm.revC c)) = Clm.together c (fullP c) := h2
    rw [h3, h4, h5, h2'] at hS
    exact hS
structure EFacts (call : CallF) (i : Nat) (t u : Clm.Cl) (e : Int) (hs al : Clm.Sp) : Prop where
  has : ∀ {G v d}, d = t ∨ d = u → clOf G v = some d → call (.fn (.func 12) [] []) [v, .int .i64 i] G = some (.ret (.tup [.agg [.int .i64 hs.lo, .int .i64 hs.hi], .int .i64 e]), G, [])
  all : ∀ {G v d}, d = t ∨ d = u → clOf G v = some d → call (.fn (.func 25) [] []) [v] G = some (.ret (.tup [.agg [.int .i64 al.lo, .int .i64 al.hi], .int .i64 e]), G, [])
theorem in_eq {a b : Clm.Sp} (h : Clm.In a b) (g : Clm.In b a) : a = b := by
  obtain ⟨h1, h2⟩ := h
  obtain ⟨h3, h4⟩ := g
  cases a; cases b
  simp only at *
  rw [Clm.Sp.mk.injEq]
  omega
theorem yam {call : CallF} (hA : LApi call) {t u : Clm.Cl} (ht : Clm.Fine t) (hu : Clm.Fine u) (h1 : Clm.Less t u) (h2 : Clm.Less u t) (hpl : t.piles.length = u.piles.length) {i : Nat} (hi : i < t.piles.length) :
    EFacts call i t u (errOf t true) (sp0 t (Clm.hasC t i)) (sp0 t (Clm.together t (fullP t))) := by
  have he : errOf u true = errOf t true ∧ sp0 u (Clm.hasC u i) = sp0 t (Clm.hasC t i) ∧ sp0 u (Clm.together u (fullP u)) = sp0 t (Clm.together t (fullP t)) := by
    cases hcan : Clm.can t (Clm.every t) with
    | false =>
      have hcu : Clm.can u (Clm.every u) = false := by
        cases h : Clm.can u (Clm.every u) with
        | false => rfl
        | true => rw [h2.can hu ht h] at hcan; exact hcan
      have e1 : errOf t true = 10 := by rw [err_of ht, hcan]; rfl
      have e2 : errOf u true = 10 := by rw [err_of hu, hcu]; rfl
      unfold sp0
      rw [e1, e2]
      exact ⟨rfl, rfl, rfl⟩
    | true =>
      have hcu := h1.can ht hu hcan
      have e1 : errOf t true = 0 := by rw [err_of ht, hcan]; rfl
      have e2 : errOf u true = 0 := by rw [err_of hu, hcu]; rfl
      obtain ⟨a1, a2⟩ := h1.all ht hu hcan
      obtain ⟨b1, b2⟩ := h2.all hu ht hcu
      have hf : fullP u = fullP t := by unfold fullP; rw [hpl]
      unfold sp0
      rw [e1, e2, hf, in_eq (a1 i hi).2.1 (b1 i (by omega)).2.1, in_eq (a2 (fullP t)) (b2 (fullP t))]
      exact ⟨rfl, rfl, rfl⟩
  refine ⟨fun {G v d} hd hcl => ?_, fun {G v d} hd hcl => ?_⟩
  · rcases hd with rfl | rfl
    · exact p_has hA hi hcl
    · rw [p_has hA (by omega) hcl, he.1, he.2.1]
  · rcases hd with rfl | rfl
    · exact p_all hA hcl
    · rw [p_all hA hcl, he.1, he.2.2]
end K
end Ev
end Go.Proofs.Ytimgnlellflciaa

/- ClampMore, gone through: nothing that was given has changed. -/
namespace Go.Proofs.Ytimgnlellflciaa
open Go
namespace Ev
namespace K
attribute [local simp] ev1 wantG spineK spine float xnew xval xeff zaa zaq zbc zav zaw addFl cellsOf pickC alive slLen slFt binI maxA maxK minA minK aeqK aeqS AV.cells spA zar fillA setAt bitsI nat_nn zbg AV.plain apart
set_option maxRecDepth 100000
set_option maxHeartbeats 4000000
theorem zmj : ∀ (ps : List Clm.Pl) (i : Nat) (p : Clm.Pl), ps[i]? = some p → ((pileCs ps).drop (i * 6)).take 6 = [.int .i64 p.long.lo, .int .i64 p.long.hi, .int .i64 p.wide.lo, .int .i64 p.wide.hi, .int .i64 p.high.lo, .int .i64 p.high.hi]
  | [], i, v, h => by simp at h
  | e :: l, 0, v, h => by
    simp only [List.getElem?_cons_zero, Option.some.injEq] at h
    subst h
    simp [pileCs]
  | e :: l, i + 1, v, h => by
    have ih := zmj l i v (by simpa using h)
    rw [show (i + 1) * 6 = i * 6 + 1 + 1 + 1 + 1 + 1 + 1 by omega]
    simpa [pileCs] using ih
theorem zqt : ∀ (xs : List Clm.Evt) (i : Nat) (v : Clm.Evt), xs[i]? = some v → ((evtCs xs).drop (i * 4)).take 4 = [.int .i64 v.kind, .int .i64 v.clamp, .int .i64 v.sods.lo, .int .i64 v.sods.hi]
  | [], i, v, h => by simp at h
  | e :: l, 0, v, h => by
    simp only [List.getElem?_cons_zero, Option.some.injEq] at h
    subst h
    simp [evtCs]
  | e :: l, i + 1, v, h => by
    have ih := zqt l i v (by simpa using h)
    rw [show (i + 1) * 4 = i * 4 + 1 + 1 + 1 + 1 by omega]
    simpa [evtCs] using ih
def mo5St (a5 q n : Nat) (ev : AV) (i : Nat) (G : List AB) : St := { tm := tmA 481 [(450, .int .i64 i), (449, .int .i64 n), (22, ev), (21, .sl q 0 n 6), (5, .ptr a5 0)], df := [], hp := G, tc := [] }
def mo6St (a5 q n : Nat) (i : Nat) (G : List AB) : St := { tm := tmA 481 [(466, .int .i64 i), (465, .int .i64 n), (22, .sl q 0 n 4), (5, .ptr a5 0)], df := [], hp := G, tc := [] }
theorem ziy (C : Cfg) (call : CallF) (c : Clm.Cl) (np : Nat) (hnp : np = c.piles.length) (hp4 : np ≤ 4) (n0 a5 q : Nat) (ev0 : AV) (i : Nat) (hi : i < np) (G K : List AB) (h5 : HB G a5 (.cells (clampCs c))) (hq : HB G q (.cells (pileCs c.piles))) :
    Does (ev C call n0 none (atP [1, 1, 1, 1, 1, 1, 1, 1, 1, 1, 1, 1, 1, 1, 1, 1, 1, 1, 1, 1, 1, 1, 1, 1, 0, 1, 0, 0] af9.body) (mo5St a5 q np ev0 i (G ++ K)))
      (fun ex st => ex = .normal ∧ { st with tm := keepT [5, 21, 22, 449, 450] st.tm } = mo5St a5 q np ev0 (i + 1) (G ++ K)) := by
  have hgp : c.piles[i]? = some c.piles[i] := List.getElem?_eq_getElem (by omega)
  generalize c.piles[i] = p at hgp
  have hgp' := ge_of hgp
  have hat := zmj _ _ _ hgp
  have e5 : (i : Int) < np := by omega
  have hwi : IntKind.i64.wrap (↑i + 1) = ↑i + 1 := zas (by omega) (by omega)
  have hl : (pileCs c.piles).length = np * 6 := by rw [zck, hnp]
  have hnl : c.piles.length = np := hnp.symm
  have e6 : i * 6 + 6 ≤ np * 6 := by omega
  obtain ⟨A1, A2, A3⟩ := h5
  obtain ⟨B1, B2, B3⟩ := hq
  have HX := hideP hnp
  clear hnp hp4
  unfold af9 mo5St
  simp only [atP, clampCs] at *
  (repeat (first | ((with_reducible apply zah); (focus ((with_reducible apply zbb); (focus rfl); (focus rfl); (focus ((conv => lhs; simp [List.getElem?_append_right, List.set_append_right, List.getElem?_cons_zero, List.getElem?_append_left, List.set_append_left, -getElem?_pos, pileE, Nat.testBit_eq_decide_div_mod_eq, *]) <;> exact rfl)); (focus rfl); (focus rfl))); simp only [addFl]) | (with_reducible apply zah; (focus ((conv => lhs; simp [List.getElem?_append_right, List.set_append_right, List.getElem?_cons_zero, List.getElem?_append_left, List.set_append_left, -getElem?_pos, pileE, Nat.testBit_eq_decide_div_mod_eq, *]) <;> exact rfl)); simp only [addFl]) | ((with_reducible first | apply zai | apply zak | apply zag | apply zae | apply zac | apply zaj | apply zaf | apply zam | (apply zad; · simp [zaa, *]) | (apply zab; · simp [zaa, *])); try simp only [Then, Ops, OutB]) | simp only [Nat.reduceEqDiff, reduceIte, OutB, Then]))
  refine ⟨by first | rfl | trivial, ?_⟩
  (refine st_is ?_ ?_ ?_ ?_; (focus (simp [zan, zap])); (focus rfl); (focus (first | rfl | (simp; done) | (simp [*]; done) | (simp; rfl) | (simp [*]; omega) | (simp; omega))); (focus (first | rfl | simp)))
theorem zix (C : Cfg) (call : CallF) (c : Clm.Cl) (np : Nat) (hnp : np = c.events.length) (hp4 : np ≤ 6) (n0 a5 q : Nat) (i : Nat) (hi : i < np) (G K : List AB) (h5 : HB G a5 (.cells (clampCs c))) (hq : HB G q (.cells (evtCs c.events))) :
    Does (ev C call n0 none (atP [1, 1, 1, 1, 1, 1, 1, 1, 1, 1, 1, 1, 1, 1, 1, 1, 1, 1, 1, 1, 1, 1, 1, 1, 1, 0, 1, 0, 0] af9.body) (mo6St a5 q np i (G ++ K)))
      (fun ex st => ex = .normal ∧ { st with tm := keepT [5, 22, 465, 466] st.tm } = mo6St a5 q np (i + 1) (G ++ K)) := by
  have hgp : c.events[i]? = some c.events[i] := List.getElem?_eq_getElem (by omega)
  generalize c.events[i] = p at hgp
  have hgp' := ge_of hgp
  have hat := zqt _ _ _ hgp
  have e5 : (i : Int) < np := by omega
  have hwi : IntKind.i64.wrap (↑i + 1) = ↑i + 1 := zas (by omega) (by omega)
  have hl : (evtCs c.events).length = np * 4 := by rw [zbn, hnp]
  have hnl : c.events.length = np := hnp.symm
  have e6 : i * 4 + 4 ≤ np * 4 := by omega
  obtain ⟨A1, A2, A3⟩ := h5
  obtain ⟨B1, B2, B3⟩ := hq
  have HX := hideP hnp
  clear hnp hp4
  unfold af9 mo6St
  simp only [atP, clampCs] at *
  (repeat (first | ((with_reducible apply zah); (focus ((with_reducible apply zbb); (focus rfl); (focus rfl); (focus ((conv => lhs; simp [List.getElem?_append_right, List.set_append_right, List.getElem?_cons_zero, List.getElem?_append_left, List.set_append_left, -getElem?_pos, evtE, Nat.testBit_eq_decide_div_mod_eq, *]) <;> exact rfl)); (focus rfl); (focus rfl))); simp only [addFl]) | (with_reducible apply zah; (focus ((conv => lhs; simp [List.getElem?_append_right, List.set_append_right, List.getElem?_cons_zero, List.getElem?_append_left, List.set_append_left, -getElem?_pos, evtE, Nat.testBit_eq_decide_div_mod_eq, *]) <;> exact rfl)); simp only [addFl]) | ((with_reducible first | apply zai | apply zak | apply zag | apply zae | apply zac | apply zaj | apply zaf | apply zam | (apply zad; · simp [zaa, *]) | (apply zab; · simp [zaa, *])); try simp only [Then, Ops, OutB]) | simp only [Nat.reduceEqDiff, reduceIte, OutB, Then]))
  refine ⟨by first | rfl | trivial, ?_⟩
  (refine st_is ?_ ?_ ?_ ?_; (focus (simp [zan, zap])); (focus rfl); (focus (first | rfl | (simp; done) | (simp [*]; done) | (simp; rfl) | (simp [*]; omega) | (simp; omega))); (focus (first | rfl | simp)))
end K
end Ev
end Go.Proofs.Ytimgnlellflciaa

/- ClampMore, gone through: its end. -/
namespace Go.Proofs.Ytimgnlellflciaa
open Go
namespace Ev
namespace K
attribute [local simp] ev1 wantG spineK spine float xnew xval xeff zaa zaq zbc zav zaw addFl cellsOf pickC alive slLen slFt binI maxA maxK minA minK aeqK aeqS AV.cells spA zar fillA setAt bitsI nat_nn zbg AV.plain apart
set_option maxRecDepth 100000
set_option maxHeartbeats 4000000
def WthC (call : CallF) : Prop := ∀ (H : List AB) (ps : List Clm.Pl) (a b : Int) (lv : AV) (es : List Clm.Evt), EvIn H lv es → es.length ≤ 1000 → ∀ x0 x1 x2 x3 : Int,
  call (.fn (.func 28) [] []) [.agg [.vs 6 (ps.map pileE), .int .i64 a, .int .i64 b, lv], .agg [.int .i64 x0, .int .i64 x1, .int .i64 x2, .int .i64 x3]] H =
    some (.ret (.agg [.vs 6 (ps.map pileE), .int .i64 a, .int .i64 b, .sl (H.length + 6) 0 (es.length + 1) 4]), H ++ withK H.length (.vs 6 (ps.map pileE)) a b (evtCs es) es.length x0 x1 x2 x3, [])
def withL (g n : Nat) (pv : AV) (a b : Int) (cs : List AV) (m : Nat) (x0 x1 x2 x3 : Int) : List AB :=
  [.cells [pv, .int .i64 a, .int .i64 b, .sl (g + (n + 6)) 0 (m + 1) 4], .cells [.int .i64 x0, .int .i64 x1, .int .i64 x2, .int .i64 x3], .cells [pv, .int .i64 a, .int .i64 b, .sl (g + (n + 6)) 0 (m + 1) 4], .dead, .cells [.int .i64 x0, .int .i64 x1, .int .i64 x2, .int .i64 x3], .dead, .cells (cs ++ [.int .i64 x0, .int .i64 x1, .int .i64 x2, .int .i64 x3])]
theorem WthC.far {call : CallF} (hW : WthC call) (G J : List AB) (ps : List Clm.Pl) (a b : Int) (lv : AV) (es : List Clm.Evt) (h1 : EvIn (G ++ J) lv es) (h2 : es.length ≤ 1000) (x0 x1 x2 x3 : Int) :
    call (.fn (.func 28) [] []) [.agg [.vs 6 (ps.map pileE), .int .i64 a, .int .i64 b, lv], .agg [.int .i64 x0, .int .i64 x1, .int .i64 x2, .int .i64 x3]] (G ++ J) =
      some (.ret (.agg [.vs 6 (ps.map pileE), .int .i64 a, .int .i64 b, .sl (G.length + (J.length + 6)) 0 (es.length + 1) 4]), G ++ (J ++ withL G.length J.length (.vs 6 (ps.map pileE)) a b (evtCs es) es.length x0 x1 x2 x3), []) := by
  rw [hW (G ++ J) ps a b lv es h1 h2, List.length_append, Nat.add_assoc, List.append_assoc]
  unfold withK withL
  rw [Nat.add_assoc]
theorem far_get {G J : List AB} {k : Nat} : (G ++ J)[G.length + k]? = J[k]? := by
  rw [List.getElem?_append_right (by omega), Nat.add_sub_cancel_left]
def mo4Ex (a5 a15 a23 a25 a27 a29 q nP iw : Nat) (e : Int) (bv pv : AV) (wa wb : Int) (G : List AB) : St := { tm := tmA 481 [(217, .bool false), (216, .int .i64 2), (215, .int .i64 2), (214, .sl q 0 2 4), (31, .fn (.func 33) [] []), (30, .int .i64 e), (29, .ptr a29 0), (28, .int .i64 e), (27, .ptr a27 0), (26, .int .i64 e), (25, .ptr a25 0), (24, .int .i64 e), (23, .ptr a23 0), (22, pv), (21, bv), (15, .ptr a15 0), (12, .int .i64 iw), (11, .int .i64 nP), (5, .ptr a5 0), (4, .int .u8 wb), (3, .int .u8 wa)], df := [], hp := G, tc := [] }
theorem zyi (C : Cfg) (hC : C.calm = true) (call : CallF) (hA : LApi call) (hW : WthC call) (hS : SaleC call) (c : Clm.Cl) (hc : Clm.Fine c) (H : List AB) (a5 a15 a23 a25 a27 a29 q6 iw qp qe : Nat) (wa wb : Nat) (hwa : wa ≤ 255) (hwb : wb ≤ 255) (hi : iw < c.piles.length) (e : Int) (bs hs ss al : Clm.Sp) (G : List AB) (hG : H.length ≤ G.length) (z0 z1 z2 z3 : AV)
    (h5 : HB G a5 (.cells (clampCs c))) (h15 : HB G a15 (.cells [z0, z1, z2, z3])) (h23 : HB G a23 (.cells [.int .i64 bs.lo, .int .i64 bs.hi])) (h25 : HB G a25 (.cells [.int .i64 hs.lo, .int .i64 hs.hi])) (h27 : HB G a27 (.cells [.int .i64 ss.lo, .int .i64 ss.hi])) (h29 : HB G a29 (.cells [.int .i64 al.lo, .int .i64 al.hi]))
    (hqp : HB G qp (.cells (pileCs c.piles))) (hqe : HB G qe (.cells (evtCs c.events)))
    (hz : SFacts call (c.piles.length - 1 - iw) e bs hs ss al G (.agg [z0, z1, z2, z3])) :
    Does (ev C call H.length none (atP [1, 1, 1, 1, 1, 1, 1, 1, 1, 1, 1, 1, 1, 1, 1, 1, 1, 1] af9.body) (mo4Ex a5 a15 a23 a25 a27 a29 q6 c.piles.length iw e (.sl qp 0 c.piles.length 6) (.sl qe 0 c.events.length 4) wa wb G))
      (Ends C H.length af9.res fun v _ _ => v = .bool true) := by
  have ha := fun H => hA.alive (H := H)
  have hp4 := hc.piles
  have he6 := hc.events
  obtain ⟨f1, f2, f3, f4⟩ := hz
  obtain ⟨j, hj, hj2⟩ : ∃ j : Nat, c.piles.length - 1 - iw = j ∧ (c.piles.length : Int) - 1 - iw = (j : Int) := ⟨_, rfl, by omega⟩
  rw [hj] at f1 f2 f3
  have w1 : IntKind.i64.wrap ((c.piles.length : Int) - 1) = (c.piles.length : Int) - 1 := zas (by omega) (by omega)
  have w2 : IntKind.i64.wrap ((c.piles.length : Int) - 1 - iw) = (j : Int) := by rw [hj2]; exact zas (by omega) (by omega)
  have w3 : IntKind.i64.wrap ((c.events.length : Int) + 2) = (c.events.length : Int) + 2 := zas (by omega) (by omega)
  have w4 : IntKind.i64.wrap (wa : Int) = wa := zas (by omega) (by omega)
  have w5 : IntKind.i64.wrap (wb : Int) = wb := zas (by omega) (by omega)
  have w6 : IntKind.i64.wrap ((wa : Int) + wb) = (wa : Int) + wb := zas (by omega) (by omega)
  have gG : ∀ n, ¬ (G.length + n < H.length) := fun n => by omega
  have gG0 : ¬ (G.length < H.length) := by omega
  have hS1 := fun H => hS H iw wa wa
  have hS2 := fun H => hS H iw wb wb
  have hS3 := fun H => hS H iw ((wa : Int) + wb) ((wa : Int) + wb)
  have hW1 : ∀ (J : List AB) (a : Int), call (.fn (.func 28) [] []) [.agg (clampCs c), .agg [.int .i64 0, .int .i64 iw, .int .i64 a, .int .i64 a]] (G ++ J) = some (.ret (.agg [.vs 6 (c.piles.map pileE), .int .i64 c.pack.lo, .int .i64 c.pack.hi, .sl (G.length + (J.length + 6)) 0 (c.events.length + 1) 4]), G ++ (J ++ withL G.length J.length (.vs 6 (c.piles.map pileE)) c.pack.lo c.pack.hi (evtCs c.events) c.events.length 0 iw a a), []) := fun J a =>
    hW.far G J c.piles c.pack.lo c.pack.hi _ c.events (.inl rfl) (by omega) 0 iw a a
  have hW2 : ∀ (J : List AB) (k : Nat), J[k]? = some (.cells (evtCs c.events ++ [.int .i64 0, .int .i64 iw, .int .i64 wa, .int .i64 wa])) → call (.fn (.func 28) [] []) [.agg [.vs 6 (c.piles.map pileE), .int .i64 c.pack.lo, .int .i64 c.pack.hi, .sl (G.length + k) 0 (c.events.length + 1) 4], .agg [.int .i64 0, .int .i64 iw, .int .i64 wb, .int .i64 wb]] (G ++ J) = some (.ret (.agg [.vs 6 (c.piles.map pileE), .int .i64 c.pack.lo, .int .i64 c.pack.hi, .sl (G.length + (J.length + 6)) 0 (c.events.length + 2) 4]), G ++ (J ++ withL G.length J.length (.vs 6 (c.piles.map pileE)) c.pack.lo c.pack.hi (evtCs c.events ++ [.int .i64 0, .int .i64 iw, .int .i64 wa, .int .i64 wa]) (c.events.length + 1) 0 iw wb wb), []) := fun J k hq => by
    have h := hW.far G J c.piles c.pack.lo c.pack.hi (.sl (G.length + k) 0 (c.events.length + 1) 4) (c.events ++ [Clm.sl iw wa]) (.inr ⟨G.length + k, by simp, by rw [far_get, hq, zct]; rfl⟩) (by simp; omega) 0 iw wb wb
    rw [zct, List.length_append] at h
    exact h
  have hEx : ∃ (e' : Int) (hs' as' : Clm.Sp), c.events.length + 2 ≤ 6 →
      (∀ (J : List AB) (k : Nat), J[k]? = some (.cells (evtCs c.events ++ [.int .i64 0, .int .i64 iw, .int .i64 wa, .int .i64 wa, .int .i64 0, .int .i64 iw, .int .i64 wb, .int .i64 wb])) → call (.fn (.func 12) [] []) [.agg [.vs 6 (c.piles.map pileE), .int .i64 c.pack.lo, .int .i64 c.pack.hi, .sl (G.length + k) 0 (c.events.length + 2) 4], .int .i64 iw] (G ++ J) = some (.ret (.tup [.agg [.int .i64 hs'.lo, .int .i64 hs'.hi], .int .i64 e']), G ++ J, [])) ∧
      (∀ (J : List AB) (k : Nat), J[k]? = some (.cells (evtCs c.events ++ [.int .i64 0, .int .i64 iw, .int .i64 wa, .int .i64 wa, .int .i64 0, .int .i64 iw, .int .i64 wb, .int .i64 wb])) → call (.fn (.func 25) [] []) [.agg [.vs 6 (c.piles.map pileE), .int .i64 c.pack.lo, .int .i64 c.pack.hi, .sl (G.length + k) 0 (c.events.length + 2) 4]] (G ++ J) = some (.ret (.tup [.agg [.int .i64 as'.lo, .int .i64 as'.hi], .int .i64 e']), G ++ J, [])) ∧
      (∀ (J : List AB) (k : Nat), J[k]? = some (.cells (evtCs c.events ++ [.int .i64 0, .int .i64 iw, .int .i64 ((wa : Int) + wb), .int .i64 ((wa : Int) + wb)])) → call (.fn (.func 12) [] []) [.agg [.vs 6 (c.piles.map pileE), .int .i64 c.pack.lo, .int .i64 c.pack.hi, .sl (G.length + k) 0 (c.events.length + 1) 4], .int .i64 iw] (G ++ J) = some (.ret (.tup [.agg [.int .i64 hs'.lo, .int .i64 hs'.hi], .int .i64 e']), G ++ J, [])) ∧
      (∀ (J : List AB) (k : Nat), J[k]? = some (.cells (evtCs c.events ++ [.int .i64 0, .int .i64 iw, .int .i64 ((wa : Int) + wb), .int .i64 ((wa : Int) + wb)])) → call (.fn (.func 25) [] []) [.agg [.vs 6 (c.piles.map pileE), .int .i64 c.pack.lo, .int .i64 c.pack.hi, .sl (G.length + k) 0 (c.events.length + 1) 4]] (G ++ J) = some (.ret (.tup [.agg [.int .i64 as'.lo, .int .i64 as'.hi], .int .i64 e']), G ++ J, [])) := by
    by_cases h6 : c.events.length + 2 ≤ 6
    · have t1 : Clm.Fine (Clm.plus c (Clm.sl iw wa)) := Clm.plus_fine hc (by omega) ⟨⟨by simp [Clm.sl], by simp [Clm.sl]; omega⟩, .inl rfl, by simp [Clm.sl], by simp [Clm.sl], by simp [Clm.sl]; omega, by simp [Clm.sl]⟩
      have t2 : Clm.Fine (Clm.plus (Clm.plus c (Clm.sl iw wa)) (Clm.sl iw wb)) := Clm.plus_fine t1 (by simp [Clm.plus]; omega) ⟨⟨by simp [Clm.sl], by simp [Clm.sl, Clm.plus]; omega⟩, .inl rfl, by simp [Clm.sl], by simp [Clm.sl], by simp [Clm.sl]; omega, by simp [Clm.sl]⟩
      have t3 : Clm.Fine (Clm.plus c (Clm.sl iw ((wa : Int) + wb))) := Clm.plus_fine hc (by omega) ⟨⟨by simp [Clm.sl], by simp [Clm.sl]; omega⟩, .inl rfl, by simp [Clm.sl]; omega, by simp [Clm.sl], by simp [Clm.sl]; omega, by simp [Clm.sl]⟩
      obtain ⟨l1, l2⟩ := Clm.two_less (c := c) (i := iw) (a := wa) (b := wb) (by omega) (by omega) t2 t3
      have hE := yam hA t2 t3 l1 l2 rfl (i := iw) hi
      have c1 : ∀ (G : List AB) (q : Nat), G[q]? = some (.cells (evtCs c.events ++ [.int .i64 0, .int .i64 iw, .int .i64 wa, .int .i64 wa, .int .i64 0, .int .i64 iw, .int .i64 wb, .int .i64 wb])) → clOf G (.agg [.vs 6 (c.piles.map pileE), .int .i64 c.pack.lo, .int .i64 c.pack.hi, .sl q 0 (c.events.length + 2) 4]) = some (Clm.plus (Clm.plus c (Clm.sl iw wa)) (Clm.sl iw wb)) := fun G q hq =>
        zhi (zdv G c.piles) (zgi (l := (c.events ++ [Clm.sl iw wa]) ++ [Clm.sl iw wb]) (by rw [hq, zct, zct, List.append_assoc]; rfl) (by simp)) (ps := c.piles) (a := c.pack.lo) (b := c.pack.hi) (by omega) (by show (c.events ++ [Clm.sl iw wa] ++ [Clm.sl iw wb]).length ≤ 41; simp only [List.length_append, List.length_cons, List.length_nil]; omega)
      have c2 : ∀ (G : List AB) (q : Nat), G[q]? = some (.cells (evtCs c.events ++ [.int .i64 0, .int .i64 iw, .int .i64 ((wa : Int) + wb), .int .i64 ((wa : Int) + wb)])) → clOf G (.agg [.vs 6 (c.piles.map pileE), .int .i64 c.pack.lo, .int .i64 c.pack.hi, .sl q 0 (c.events.length + 1) 4]) = some (Clm.plus c (Clm.sl iw ((wa : Int) + wb))) := fun G q hq =>
        zhi (zdv G c.piles) (zgi (l := c.events ++ [Clm.sl iw ((wa : Int) + wb)]) (by rw [hq, zct]; rfl) (by simp)) (ps := c.piles) (a := c.pack.lo) (b := c.pack.hi) (by omega) (by show (c.events ++ [Clm.sl iw ((wa : Int) + wb)]).length ≤ 41; simp only [List.length_append, List.length_cons, List.length_nil]; omega)
      exact ⟨_, _, _, fun _ => ⟨fun J k hq => hE.has (.inl rfl) (c1 _ _ (far_get.trans hq)), fun J k hq => hE.all (.inl rfl) (c1 _ _ (far_get.trans hq)), fun J k hq => hE.has (.inr rfl) (c2 _ _ (far_get.trans hq)), fun J k hq => hE.all (.inr rfl) (c2 _ _ (far_get.trans hq))⟩⟩
    · exact ⟨0, ⟨0, 0⟩, ⟨0, 0⟩, fun h => absurd h h6⟩
  obtain ⟨e', hs', as', hEx⟩ := hEx
  have HX := hideP (And.intro h5 (And.intro hqp (And.intro hqe (And.intro hG (And.intro hp4 (And.intro he6 (And.intro hc hC)))))))
  obtain ⟨A1, A2, A3⟩ := h5
  obtain ⟨B1, B2, B3⟩ := h15
  obtain ⟨D1, D2, D3⟩ := h23
  obtain ⟨E1, E2, E3⟩ := h25
  obtain ⟨F1, F2, F3⟩ := h27
  obtain ⟨J1, J2, J3⟩ := h29
  obtain ⟨P1, P2, P3⟩ := hqp
  obtain ⟨Q1, Q2, Q3⟩ := hqe
  have f1' := f1 []
  have f2' := f2 []
  have f3' := f3 []
  have f4' := f4 []
  rw [List.append_nil] at f1' f2' f3' f4'
  clear hG hp4 he6 hj hj2 hA hW hS hi hwa hwb hc
  by_cases h6 : (c.events.length : Int) + 2 ≤ 6
  · obtain ⟨g1, g2, g3, g4⟩ := hEx (by omega)
    clear hEx
    unfold af9 mo4Ex
    simp only [atP, clampCs] at *
    (repeat (first | ((with_reducible apply zah); (focus ((with_reducible apply zbb); (focus rfl); (focus rfl); (focus ((conv => lhs; simp [List.getElem?_append_right, List.set_append_right, List.getElem?_cons_zero, List.getElem?_append_left, List.set_append_left, -getElem?_pos, ↓zbo, withL, Nat.testBit_eq_decide_div_mod_eq, *]) <;> exact rfl)); (focus rfl); (focus rfl))); simp only [addFl]) | (with_reducible apply zah; (focus ((conv => lhs; simp [List.getElem?_append_right, List.set_append_right, List.getElem?_cons_zero, List.getElem?_append_left, List.set_append_left, -getElem?_pos, ↓zbo, withL, Nat.testBit_eq_decide_div_mod_eq, *]) <;> exact rfl)); simp only [addFl]) | ((with_reducible first | apply zai | apply zak | apply zag | apply zae | apply zac | apply zaj | apply zaf | apply zam | (apply zad; · simp [zaa, *]) | (apply zab; · simp [zaa, *])); try simp only [Then, Ops]) | simp only [Nat.reduceEqDiff, reduceIte, OutB, Then]))
    clear g1 g2 g3 g4 hW1 hW2 hS1 hS2 hS3 f1 f2 f3 f4 f1' f2' f3' f4'
    with_reducible refine zaz hC c.piles.length (by have := HX.out.2.2.2.2.1; unfold fuelL; omega) (fun i st => ∃ K, st = mo5St a5 qp c.piles.length (.sl qe 0 c.events.length 4) i (G ++ K)) ?_ ?_ ?_
    · apply Exists.intro
      unfold mo5St
      (refine st_is ?_ ?_ ?_ ?_; (focus (simp [zan, zap])); (focus rfl); (focus (first | rfl | (simp; done) | (simp [*]; done) | (simp; rfl) | (simp [*]; omega) | (simp; omega))); (focus (first | rfl | simp)))
    · rintro i st hil ⟨K, rfl⟩
      obtain ⟨h5, hqp, hqe, hG, hp4, he6, hc, hC⟩ := HX.out
      have hr := ziy C call c c.piles.length rfl hp4.2 H.length a5 qp (.sl qe 0 c.events.length 4) i hil G K h5 hqp
      refine Does.mono hr ?_
      rintro e st ⟨rfl, h⟩
      exact ⟨K, h⟩
    · rintro st ⟨K, rfl⟩
      unfold mo5St
      (repeat (first | ((with_reducible apply zah); (focus ((with_reducible apply zbb); (focus rfl); (focus rfl); (focus ((conv => lhs; simp [List.getElem?_append_right, List.set_append_right, List.getElem?_cons_zero, List.getElem?_append_left, List.set_append_left, -getElem?_pos, Nat.testBit_eq_decide_div_mod_eq, *]) <;> exact rfl)); (focus rfl); (focus rfl))); simp only [addFl]) | (with_reducible apply zah; (focus ((conv => lhs; simp [List.getElem?_append_right, List.set_append_right, List.getElem?_cons_zero, List.getElem?_append_left, List.set_append_left, -getElem?_pos, Nat.testBit_eq_decide_div_mod_eq, *]) <;> exact rfl)); simp only [addFl]) | ((with_reducible first | apply zai | apply zak | apply zag | apply zae | apply zac | apply zaj | apply zaf | apply zam | (apply zad; · simp [zaa, *]) | (apply zab; · simp [zaa, *])); try simp only [Then, Ops, OutB, reduceIte]) | simp only [Nat.reduceEqDiff, reduceIte, OutB, Then]))
      with_reducible refine zaz hC c.events.length (by have := HX.out.2.2.2.2.2.1; unfold fuelL; omega) (fun i st => ∃ K, st = mo6St a5 qe c.events.length i (G ++ K)) ?_ ?_ ?_
      · apply Exists.intro
        unfold mo6St
        (refine st_is ?_ ?_ ?_ ?_; (focus (simp [zan, zap])); (focus rfl); (focus (first | rfl | (simp; done) | (simp [*]; done) | (simp; rfl) | (simp [*]; omega) | (simp; omega))); (focus (first | rfl | simp)))
      · rintro i st hil ⟨K, rfl⟩
        obtain ⟨h5, hqp, hqe, hG, hp4, he6, hc, hC⟩ := HX.out
        have hr := zix C call c c.events.length rfl he6 H.length a5 qe i hil G K h5 hqe
        refine Does.mono hr ?_
        rintro e st ⟨rfl, h⟩
        exact ⟨K, h⟩
      · rintro st ⟨K, rfl⟩
        have hG := HX.out.2.2.2.1
        unfold mo6St
        (repeat (first | ((with_reducible apply zah); (focus ((with_reducible apply zbb); (focus rfl); (focus rfl); (focus ((conv => lhs; simp [List.getElem?_append_right, List.set_append_right, List.getElem?_cons_zero, List.getElem?_append_left, List.set_append_left, -getElem?_pos, Nat.testBit_eq_decide_div_mod_eq, *]) <;> exact rfl)); (focus rfl); (focus rfl))); simp only [addFl]) | (with_reducible apply zah; (focus ((conv => lhs; simp [List.getElem?_append_right, List.set_append_right, List.getElem?_cons_zero, List.getElem?_append_left, List.set_append_left, -getElem?_pos, Nat.testBit_eq_decide_div_mod_eq, *]) <;> exact rfl)); simp only [addFl]) | ((with_reducible first | apply zai | apply zak | apply zag | apply zae | apply zac | apply zaj | apply zaf | apply zam | (apply zad; · simp [zaa, *]) | (apply zab; · simp [zaa, *])); try simp only [Then, Ops, OutB, reduceIte]) | simp only [Nat.reduceEqDiff, reduceIte, OutB, Then]))
        exact zao (v := .bool true) (.inl rfl) rfl (by simp only [List.length_append]; omega) (by simp only [resL, resOf, zal]; simp [resV, *]) rfl
  · clear hEx hW1 hW2 hS1 hS2 hS3
    unfold af9 mo4Ex
    simp only [atP, clampCs] at *
    (repeat (first | ((with_reducible apply zah); (focus ((with_reducible apply zbb); (focus rfl); (focus rfl); (focus ((conv => lhs; simp [List.getElem?_append_right, List.set_append_right, List.getElem?_cons_zero, List.getElem?_append_left, List.set_append_left, -getElem?_pos, ↓zbo, Nat.testBit_eq_decide_div_mod_eq, *]) <;> exact rfl)); (focus rfl); (focus rfl))); simp only [addFl]) | (with_reducible apply zah; (focus ((conv => lhs; simp [List.getElem?_append_right, List.set_append_right, List.getElem?_cons_zero, List.getElem?_append_left, List.set_append_left, -getElem?_pos, ↓zbo, Nat.testBit_eq_decide_div_mod_eq, *]) <;> exact rfl)); simp only [addFl]) | ((with_reducible first | apply zai | apply zak | apply zag | apply zae | apply zac | apply zaj | apply zaf | apply zam | (apply zad; · simp [zaa, *]) | (apply zab; · simp [zaa, *])); try simp only [Then, Ops]) | simp only [Nat.reduceEqDiff, reduceIte, OutB, Then]))
    clear f1 f2 f3 f4 f1' f2' f3' f4'
    with_reducible refine zaz hC c.piles.length (by have := HX.out.2.2.2.2.1; unfold fuelL; omega) (fun i st => ∃ K, st = mo5St a5 qp c.piles.length (.sl qe 0 c.events.length 4) i (G ++ K)) ?_ ?_ ?_
    · apply Exists.intro
      unfold mo5St
      (refine st_is ?_ ?_ ?_ ?_; (focus (simp [zan, zap])); (focus rfl); (focus (first | rfl | (simp; done) | (simp [*]; done) | (simp; rfl) | (simp [*]; omega) | (simp; omega))); (focus (first | rfl | simp)))
    · rintro i st hil ⟨K, rfl⟩
      obtain ⟨h5, hqp, hqe, hG, hp4, he6, hc, hC⟩ := HX.out
      have hr := ziy C call c c.piles.length rfl hp4.2 H.length a5 qp (.sl qe 0 c.events.length 4) i hil G K h5 hqp
      refine Does.mono hr ?_
      rintro e st ⟨rfl, h⟩
      exact ⟨K, h⟩
    · rintro st ⟨K, rfl⟩
      unfold mo5St
      (repeat (first | ((with_reducible apply zah); (focus ((with_reducible apply zbb); (focus rfl); (focus rfl); (focus ((conv => lhs; simp [List.getElem?_append_right, List.set_append_right, List.getElem?_cons_zero, List.getElem?_append_left, List.set_append_left, -getElem?_pos, Nat.testBit_eq_decide_div_mod_eq, *]) <;> exact rfl)); (focus rfl); (focus rfl))); simp only [addFl]) | (with_reducible apply zah; (focus ((conv => lhs; simp [List.getElem?_append_right, List.set_append_right, List.getElem?_cons_zero, List.getElem?_append_left, List.set_append_left, -getElem?_pos, Nat.testBit_eq_decide_div_mod_eq, *]) <;> exact rfl)); simp only [addFl]) | ((with_reducible first | apply zai | apply zak | apply zag | apply zae | apply zac | apply zaj | apply zaf | apply zam | (apply zad; · simp [zaa, *]) | (apply zab; · simp [zaa, *])); try simp only [Then, Ops, OutB, reduceIte]) | simp only [Nat.reduceEqDiff, reduceIte, OutB, Then]))
      with_reducible refine zaz hC c.events.length (by have := HX.out.2.2.2.2.2.1; unfold fuelL; omega) (fun i st => ∃ K, st = mo6St a5 qe c.events.length i (G ++ K)) ?_ ?_ ?_
      · apply Exists.intro
        unfold mo6St
        (refine st_is ?_ ?_ ?_ ?_; (focus (simp [zan, zap])); (focus rfl); (focus (first | rfl | (simp; done) | (simp [*]; done) | (simp; rfl) | (simp [*]; omega) | (simp; omega))); (focus (first | rfl | simp)))
      · rintro i st hil ⟨K, rfl⟩
        obtain ⟨h5, hqp, hqe, hG, hp4, he6, hc, hC⟩ := HX.out
        have hr := zix C call c c.events.length rfl he6 H.length a5 qe i hil G K h5 hqe
        refine Does.mono hr ?_
        rintro e st ⟨rfl, h⟩
        exact ⟨K, h⟩
      · rintro st ⟨K, rfl⟩
        have hG := HX.out.2.2.2.1
        unfold mo6St
        (repeat (first | ((with_reducible apply zah); (focus ((with_reducible apply zbb); (focus rfl); (focus rfl); (focus ((conv => lhs; simp [List.getElem?_append_right, List.set_append_right, List.getElem?_cons_zero, List.getElem?_append_left, List.set_append_left, -getElem?_pos, Nat.testBit_eq_decide_div_mod_eq, *]) <;> exact rfl)); (focus rfl); (focus rfl))); simp only [addFl]) | (with_reducible apply zah; (focus ((conv => lhs; simp [List.getElem?_append_right, List.set_append_right, List.getElem?_cons_zero, List.getElem?_append_left, List.set_append_left, -getElem?_pos, Nat.testBit_eq_decide_div_mod_eq, *]) <;> exact rfl)); simp only [addFl]) | ((with_reducible first | apply zai | apply zak | apply zag | apply zae | apply zac | apply zaj | apply zaf | apply zam | (apply zad; · simp [zaa, *]) | (apply zab; · simp [zaa, *])); try simp only [Then, Ops, OutB, reduceIte]) | simp only [Nat.reduceEqDiff, reduceIte, OutB, Then]))
        exact zao (v := .bool true) (.inl rfl) rfl (by simp only [List.length_append]; omega) (by simp only [resL, resOf, zal]; simp [resV, *]) rfl
end K
end Ev
end Go.Proofs.Ytimgnlellflciaa
