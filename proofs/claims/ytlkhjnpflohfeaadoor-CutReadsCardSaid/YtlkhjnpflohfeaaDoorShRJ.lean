/- An argument that is a cut: from its reading to its cells. -/
import Derived.Test.YtlkhjnpflohfeaaDoorShRI
import Derived.Test.YtlkhjnpflohfeaaDoorShRD
import Derived.Test.YtlkhjnpflohfeaaDoorShRH
import Derived.OpenShut
import Derived.Deep.Slices
import Derived.Deep.Fields
import Derived.ChangeSame
/- The reference of chapter 06, gone through: all ways. -/
namespace Go.Proofs.YtlkhjnpflohfeaaDoor
open Go
namespace Ev
namespace R
set_option maxRecDepth 100000
/-- A table of bools. -/
def TableAt (G : List AB) (v : AV) (n mn : Nat) (f : Nat → Nat → Bool) : Prop := ∃ (ob : Nat) (rb : Nat → Nat), v = .sl ob 0 n 1 ∧ G[ob]? = some (.cells ((List.range n).map fun d => .sl (rb d) 0 (mn + 1) 1)) ∧ ∀ d, d < n → G[rb d]? = some (.cells ((List.range (mn + 1)).map fun i => .bool (f d i)))
theorem TableAt.app {G : List AB} {v : AV} {n mn : Nat} {f : Nat → Nat → Bool} (h : TableAt G v n mn f) (K : List AB) : TableAt (G ++ K) v n mn f := by
  obtain ⟨ob, rb, h1, h2, h3⟩ := h
  exact ⟨ob, rb, h1, get_app' h2, fun d hd => get_app' (h3 d hd)⟩
theorem TableAt.set {G : List AB} {v : AV} {n mn : Nat} {f : Nat → Nat → Bool} (h : TableAt G v (n + 1) mn f) {w : Nat} {z : Int} {cs : List AV} (hw : G[w]? = some (.cells (.int .i64 z :: cs))) (X : AB) : TableAt (G.set w X) v (n + 1) mn f := by
  obtain ⟨ob, rb, h1, h2, h3⟩ := h
  refine ⟨ob, rb, h1, ?_, fun d hd => ?_⟩
  · rw [List.getElem?_set_ne]; exact h2
    rintro rfl
    rw [hw, List.range_succ_eq_map] at h2
    simp at h2
  · rw [List.getElem?_set_ne]; exact h3 d hd
    rintro rfl
    have := h3 d hd
    rw [hw, List.range_succ_eq_map] at this
    simp at this
def DepthsC (call : CallF) : Prop := ∀ (H : List AB) (a b k l : Int) (mn : Nat) (r : List (Int × Int)) (bs : List Boat) (ls : List Look), Cut.Valid ⟨(a, b), (k, l), r, mn, bs, ls⟩ → ∀ (s : Nat), s < 1048576 → ∀ (lkv : Int), 0 ≤ lkv → lkv ≤ 10 →
  (someB ⟨(a, b), (k, l), r, mn, bs, ls⟩ lkv s mn = false ∧ call (.fn (.func 95) [] []) [.agg [.int .i64 a, .int .i64 b, .int .i64 k, .int .i64 l, .vs 2 (r.map spanE), .int .i64 mn, .vs 4 (bs.map boatE), .vs 3 (ls.map lookE)], .int .i64 s, .int .i64 lkv] H = some (.ret .nils, H, [])) ∨
  (someB ⟨(a, b), (k, l), r, mn, bs, ls⟩ lkv s mn = true ∧ ∃ K ob, call (.fn (.func 95) [] []) [.agg [.int .i64 a, .int .i64 b, .int .i64 k, .int .i64 l, .vs 2 (r.map spanE), .int .i64 mn, .vs 4 (bs.map boatE), .vs 3 (ls.map lookE)], .int .i64 s, .int .i64 lkv] H = some (.ret (.sl ob 0 (r.length + 1) 1), H ++ K, []) ∧
    H.length ≤ ob ∧ TableAt (H ++ K) (.sl ob 0 (r.length + 1) 1) (r.length + 1) mn (tab ⟨(a, b), (k, l), r, mn, bs, ls⟩ lkv s mn r.length))
theorem depths_call {C : Cfg} {n : Nat} (hc : C.calm = true) (h : Has C 95 af95) (hG : GoesC (Ev.call C n)) (hI : InC (Ev.call C n)) (hF : FitsC (Ev.call C n)) : DepthsC (Ev.call C (n + 1)) := by
  intro H a b k l mn r bs ls V s hs lkv k0 k1
  have := call_fn (n := n) (first := []) (captured := []) (args := [.agg [.int .i64 a, .int .i64 b, .int .i64 k, .int .i64 l, .vs 2 (r.map spanE), .int .i64 mn, .vs 4 (bs.map boatE), .vs 3 (ls.map lookE)], .int .i64 s, .int .i64 lkv]) (H := H)
    (R := fun x H' tc => tc = [] ∧ ((someB ⟨(a, b), (k, l), r, mn, bs, ls⟩ lkv s mn = false ∧ x = .ret .nils ∧ H' = H) ∨ (someB ⟨(a, b), (k, l), r, mn, bs, ls⟩ lkv s mn = true ∧ ∃ K ob, x = .ret (.sl ob 0 (r.length + 1) 1) ∧ H' = H ++ K ∧ H.length ≤ ob ∧ TableAt (H ++ K) (.sl ob 0 (r.length + 1) 1) (r.length + 1) mn (tab ⟨(a, b), (k, l), r, mn, bs, ls⟩ lkv s mn r.length))))
    hc h.ext h.exth h.fns h.whole (show (3 : Nat) ≤ 162 by omega) (by
    refine (depths_fun C hc (Ev.call C n) hG hI hF a b k l mn r bs ls V lkv k0 k1 s hs H).mono fun e st ⟨h1, h2, h3, h4⟩ => ?_
    subst h1
    have e1 : ∀ p, runDefs C p st.df none st = some (none, st) := fun p => by rw [h2]; rfl
    rcases h4 with ⟨hs', ob, rb, h5, ⟨T, h6⟩, h7⟩ | ⟨hs', h5⟩
    · refine ⟨.ret (.sl ob 0 (r.length + 1) 1), st, ?_, ?_⟩
      · show (match runDefs C H.length st.df none st with
          | some (none, st) => (resL st [.tmp 6]).map fun vs => (CRes.ret (resV vs), st)
          | _ => none) = _
        rw [e1]
        show (resL st [.tmp 6]).map (fun vs => (CRes.ret (resV vs), st)) = _
        simp only [resL, resOf, h5]; rfl
      · unfold Left
        rw [h3, if_neg (by unfold bareQ; simp [CRes.val, refs])]
        have e2 : overH H st.hp [] ++ st.hp.drop H.length = st.hp := by
          rw [h6]; simp [overH]
        rw [e2]
        refine ⟨rfl, .inr ⟨hs', .cells [.int .i64 a, .int .i64 b, .int .i64 k, .int .i64 l, .vs 2 (r.map spanE), .int .i64 mn, .vs 4 (bs.map boatE), .vs 3 (ls.map lookE)] :: T, ob, rfl, by rw [h6]; simp, by have := h7.low; omega, ?_⟩⟩
        have e3 : H ++ .cells [.int .i64 a, .int .i64 b, .int .i64 k, .int .i64 l, .vs 2 (r.map spanE), .int .i64 mn, .vs 4 (bs.map boatE), .vs 3 (ls.map lookE)] :: T = st.hp := by rw [h6]; simp
        rw [e3]
        exact ⟨ob, rb, rfl, h7.out, h7.row⟩
    · refine ⟨.ret .nils, st, ?_, ?_⟩
      · show (match runDefs C H.length st.df none st with
          | some (none, st) => (resL st [.tmp 6]).map fun vs => (CRes.ret (resV vs), st)
          | _ => none) = _
        rw [e1]
        show (resL st [.tmp 6]).map (fun vs => (CRes.ret (resV vs), st)) = _
        simp only [resL, resOf, h5]; rfl
      · unfold Left
        rw [h3, if_pos (by unfold bareQ; simp [CRes.val, refs])]
        exact ⟨rfl, .inl ⟨hs', rfl, rfl⟩⟩)
  obtain ⟨x, H', tc, h1, rfl, h2⟩ := this
  rcases h2 with ⟨h2, rfl, rfl⟩ | ⟨h2, K, ob, rfl, rfl, h3, h4⟩
  · exact .inl ⟨h2, h1⟩
  · exact .inr ⟨h2, K, ob, h1, h3, h4⟩
/-! All ways. -/
def waysCs : List (Int × AV) → List AV
  | [] => []
  | p :: l => .int .i64 p.1 :: p.2 :: waysCs l
theorem waysCs_app : ∀ l m, waysCs (l ++ m) = waysCs l ++ waysCs m
  | [], m => rfl
  | p :: l, m => by simp [waysCs, waysCs_app l m]
theorem waysCs_len : ∀ l, (waysCs l).length = l.length * 2
  | [] => rfl
  | p :: l => by simp [waysCs, waysCs_len l]; omega
/-- How much can leak away, of so many numbers. -/
noncomputable def waysL (x : CutD) (s mn : Nat) : Nat → List Int
  | 0 => []
  | i + 1 => waysL x s mn i ++ (if someB x (x.leak.1 + i) s mn = true then [x.leak.1 + i] else [])
/-- Ways, and where they lie. -/
structure WaysAt (G : List AB) (v : AV) (x : CutD) (s mn low : Nat) (l : List (Int × AV)) : Prop where
  head : (l = [] ∧ v = .nils) ∨ (l ≠ [] ∧ ∃ w, v = .sl w 0 l.length 2 ∧ G[w]? = some (.cells (waysCs l)) ∧ low ≤ w)
  tabs : ∀ p ∈ l, TableAt G p.2 (x.rain.length + 1) mn (tab x p.1 s mn x.rain.length)
set_option maxHeartbeats 8000000 in
theorem ways_fun (C : Cfg) (hC : C.calm = true) (call : CallF) (hD : DepthsC call) (a b k l : Int) (mn : Nat) (r : List (Int × Int)) (bs : List Boat) (ls : List Look) (V : Cut.Valid ⟨(a, b), (k, l), r, mn, bs, ls⟩) (s : Nat) (hs : s < 1048576) (H : List AB) :
    Does (ev C call H.length none af77.body { tm := tmA 32 (zipI 0 [.agg [.int .i64 a, .int .i64 b, .int .i64 k, .int .i64 l, .vs 2 (r.map spanE), .int .i64 mn, .vs 4 (bs.map boatE), .vs 3 (ls.map lookE)], .int .i64 s] []), df := [], hp := H, tc := [] })
      (fun e st => e = .ret ∧ st.df = [] ∧ st.tc = [] ∧ ∃ lw, lw.map (·.1) = waysL ⟨(a, b), (k, l), r, mn, bs, ls⟩ s mn (l - k + 1).toNat ∧ WaysAt st.hp (st.tm.getD 4 .unk) ⟨(a, b), (k, l), r, mn, bs, ls⟩ s mn (H.length + 1) lw ∧ ∃ T, st.hp = H ++ T) := by
  have l0 : 0 ≤ k := V.l0
  have l1 : k ≤ l := V.l1
  have l2 : l ≤ 10 := V.l2
  have hd := fun H lkv (h0 : 0 ≤ lkv) (h1 : lkv ≤ 10) => hD H a b k l mn r bs ls V s hs lkv h0 h1
  have hwl : ∀ i, waysL ⟨(a, b), (k, l), r, mn, bs, ls⟩ s mn (i + 1) = waysL ⟨(a, b), (k, l), r, mn, bs, ls⟩ s mn i ++ (if someB ⟨(a, b), (k, l), r, mn, bs, ls⟩ (k + i) s mn = true then [k + i] else []) := fun i => rfl
  have hwl0 : waysL ⟨(a, b), (k, l), r, mn, bs, ls⟩ s mn 0 = [] := rfl
  have hrl : (⟨(a, b), (k, l), r, mn, bs, ls⟩ : CutD).rain.length = r.length := rfl
  generalize hcd : (⟨(a, b), (k, l), r, mn, bs, ls⟩ : CutD) = c at *
  have HD := hideP hd
  have HL := hideP (And.intro hwl (And.intro hwl0 hrl))
  clear hd hwl hwl0 hrl hD V hcd
  unfold af77
  simp only [zipI]
  (repeat (first | (with_reducible apply ops_cons; (focus ((conv => lhs; simp [ev1, wantG, spineK, spine, float, xnew, xval, xeff, val_tmA_cons, val_tmA_nil, val_val, putT_some, putT_none, addFl, cellsOf, pickC, alive, slLen, slFt, binI, maxA, maxK, minA, minK, aeqK, aeqS, AV.cells, slCells_sl, boatE, spanE, lookE, fillA, setAt, bitsI, nat_nn, AV.plain, apart, Nat.testBit_eq_decide_div_mod_eq, *]) <;> exact rfl)); simp only [addFl]) | ((first | with_reducible refine does_seq ?_ | with_reducible refine does_ops ?_ | with_reducible refine does_draw ?_ | with_reducible refine does_skip ?_ | with_reducible refine does_block ?_ | with_reducible refine does_ret ?_ | with_reducible refine does_exit ?_ | with_reducible refine ops_nil ?_ | (with_reducible apply does_true; (focus (simp [val_tmA_cons, *]; done))) | (with_reducible apply does_false; (focus (simp [val_tmA_cons, *]; done)))); try simp only [Then, Ops, OutB, reduceIte])))
  refine does_loop (fun q st => ∃ (i : Nat) (G : List AB) (v : AV) (lw : List (Int × AV)), i + q = (l - k + 1).toNat ∧ (∃ T, G = H ++ .cells [.int .i64 a, .int .i64 b, .int .i64 k, .int .i64 l, .vs 2 (r.map spanE), .int .i64 mn, .vs 4 (bs.map boatE), .vs 3 (ls.map lookE)] :: T) ∧ lw.map (·.1) = waysL c s mn i ∧ WaysAt G v c s mn (H.length + 1) lw ∧ st = { tm := tmA 32 [(6, .int .i64 (k + i)), (5, v), (2, .ptr H.length 0), (1, .int .i64 s)], df := [], hp := G, tc := [] }) (l - k + 1).toNat (by unfold fuelL; omega) ?_ ?_
  · refine ⟨0, _, .nils, [], by omega, ⟨[], rfl⟩, by rw [HL.out.2.1]; rfl, ⟨.inl ⟨rfl, rfl⟩, fun p hp => by cases hp⟩, ?_⟩
    simp only [gcC_calm hC]
    exact st_eq (by simp [keepT_tmA, lk_cons]) rfl rfl rfl
  · rintro q st ⟨i, G, v, lw, hq, ⟨T, hT⟩, hmap, hW, rfl⟩
    have gB : G[H.length]? = some (.cells [.int .i64 a, .int .i64 b, .int .i64 k, .int .i64 l, .vs 2 (r.map spanE), .int .i64 mn, .vs 4 (bs.map boatE), .vs 3 (ls.map lookE)]) := by rw [hT]; simp
    obtain ⟨nB, eB⟩ := List.getElem?_eq_some_iff.1 gB
    by_cases hi : k + i ≤ l
    · have hw : IntKind.i64.wrap (k + i + 1) = k + i + 1 := wrap_in (by omega) (by omega)
      have hci : k + ((i + 1 : Nat) : Int) = k + i + 1 := by omega
      have hwl := HL.out.1 i
      rcases HD.out G (k + i) (by omega) (by omega) with ⟨hs1, hcall⟩ | ⟨hs1, K, ob, hcall, hob, hT1⟩
      · rw [hs1, if_neg (by decide), List.append_nil] at hwl
        have HQ := hideP (And.intro hq (And.intro hT (And.intro (hmap.trans hwl.symm) hW)))
        clear hq hT hmap hW hwl
        (repeat (first | (with_reducible apply ops_cons; (focus ((conv => lhs; simp [ev1, wantG, spineK, spine, float, xnew, xval, xeff, val_tmA_cons, val_tmA_nil, val_val, putT_some, putT_none, addFl, cellsOf, pickC, alive, slLen, slFt, binI, maxA, maxK, minA, minK, aeqK, aeqS, AV.cells, slCells_sl, boatE, spanE, lookE, fillA, setAt, bitsI, nat_nn, AV.plain, apart, Nat.testBit_eq_decide_div_mod_eq, *]) <;> exact rfl)); simp only [addFl]) | ((first | with_reducible refine does_seq ?_ | with_reducible refine does_ops ?_ | with_reducible refine does_draw ?_ | with_reducible refine does_skip ?_ | with_reducible refine does_block ?_ | with_reducible refine does_ret ?_ | with_reducible refine does_exit ?_ | with_reducible refine ops_nil ?_ | (with_reducible apply does_true; (focus (simp [val_tmA_cons, *]; done))) | (with_reducible apply does_false; (focus (simp [val_tmA_cons, *]; done)))); try simp only [Then, Ops, OutB, reduceIte])))
        obtain ⟨hq, hT, hm, hW⟩ := HQ.out
        refine ⟨q - 1, by omega, i + 1, G, v, lw, by omega, ⟨T, hT⟩, hm, hW, ?_⟩
        simp only [gcC_calm hC]
        rw [hci]
        exact st_eq (by simp [keepT_tmA, lk_cons]) rfl rfl rfl
      · rw [hs1, if_pos rfl] at hwl
        have gB1 := get_app' (K := K) gB
        have hW1 : WaysAt (G ++ K) v c s mn (H.length + 1) lw := ⟨by
          rcases hW.head with h | ⟨h0, w, h1, h2, h3⟩
          · exact .inl h
          · exact .inr ⟨h0, w, h1, get_app' h2, h3⟩, fun p hp => (hW.tabs p hp).app K⟩
        obtain ⟨ob', rb, hsl, gO, -⟩ := id hT1
        obtain rfl : ob = ob' := by injection hsl
        have hT2 : ∃ T', G ++ K = H ++ .cells [.int .i64 a, .int .i64 b, .int .i64 k, .int .i64 l, .vs 2 (r.map spanE), .int .i64 mn, .vs 4 (bs.map boatE), .vs 3 (ls.map lookE)] :: T' := ⟨T ++ K, by rw [hT]; simp⟩
        generalize G ++ K = G1 at *
        obtain ⟨T', hT2⟩ := hT2
        have hlen1 : H.length < G1.length := (List.getElem?_eq_some_iff.1 gB1).1
        obtain ⟨nO, eO⟩ := List.getElem?_eq_some_iff.1 gO
        have hnew : (lw ++ [(k + (i : Int), AV.sl ob 0 (r.length + 1) 1)]).map (·.1) = waysL c s mn (i + 1) := by rw [hwl, List.map_append, hmap]; rfl
        have hrl := HL.out.2.2
        have HQ := hideP (And.intro hq (And.intro hT2 (And.intro hnew (And.intro hW1 (And.intro hT1 (And.intro hlen1 hrl))))))
        have hb1 : 1 ≤ bound := by decide
        have hr0 : (0 : Int) < (r.length : Int) + 1 := by omega
        rcases hW1.head with ⟨h0, h1⟩ | ⟨h0, w, h1, gW, h3⟩
        · subst h0 h1
          clear hq hT hmap hW hW1 hwl hT2 hnew hT1 hob hsl hrl hlen1
          (repeat (first | (with_reducible apply ops_cons; (focus ((conv => lhs; simp [ev1, wantG, spineK, spine, float, xnew, xval, xeff, val_tmA_cons, val_tmA_nil, val_val, putT_some, putT_none, addFl, cellsOf, pickC, alive, slLen, slFt, binI, maxA, maxK, minA, minK, aeqK, aeqS, AV.cells, slCells_sl, boatE, spanE, lookE, fillA, setAt, bitsI, nat_nn, AV.plain, apart, Nat.testBit_eq_decide_div_mod_eq, *]) <;> exact rfl)); simp only [addFl]) | ((first | with_reducible refine does_seq ?_ | with_reducible refine does_ops ?_ | with_reducible refine does_draw ?_ | with_reducible refine does_skip ?_ | with_reducible refine does_block ?_ | with_reducible refine does_ret ?_ | with_reducible refine does_exit ?_ | with_reducible refine ops_nil ?_ | (with_reducible apply does_true; (focus (simp [val_tmA_cons, *]; done))) | (with_reducible apply does_false; (focus (simp [val_tmA_cons, *]; done)))); try simp only [Then, Ops, OutB, reduceIte])))
          obtain ⟨hq, hT2, hnew, hW1, hT1, hlen1, hrl⟩ := HQ.out
          refine ⟨q - 1, by omega, i + 1, G1 ++ [.cells [.int .i64 (k + i), .sl ob 0 (r.length + 1) 1], .cells [.int .i64 (k + i), .sl ob 0 (r.length + 1) 1]], .sl (G1.length + 1) 0 1 2, _, by omega, ⟨_, by rw [hT2, List.append_assoc, List.cons_append]⟩, hnew, ⟨.inr ⟨by simp, G1.length + 1, rfl, by simp [waysCs], by omega⟩, fun p hp => ?_⟩, ?_⟩
          · simp only [List.nil_append, List.mem_singleton] at hp
            subst hp
            rw [hrl]
            exact hT1.app _
          · simp only [gcC_calm hC]
            rw [hci]
            exact st_eq (by simp [keepT_tmA, lk_cons]) rfl rfl rfl
        · subst h1
          obtain ⟨nW, -⟩ := List.getElem?_eq_some_iff.1 gW
          have gW' := fun K => get_app' (K := K) gW
          have nW' : ∀ n, w < G1.length + n := fun n => by omega
          have eW' : ∀ K (h : w < (G1 ++ K).length), (G1 ++ K)[w]'h = .cells (waysCs lw) := fun K h => by
            have := gW' K
            rw [List.getElem?_eq_getElem h] at this; exact Option.some.inj this
          have sW : ∀ K v, (G1 ++ K).set w v = G1.set w v ++ K := fun K v => List.set_append_left _ _ nW
          have hwc := waysCs_len lw
          have hll : lw.length + 1 ≤ bound := by
            have : lw.length ≤ i := by
              have e1 : lw.length = (waysL c s mn i).length := by rw [← hmap, List.length_map]
              have e2 : ∀ j, (waysL c s mn j).length ≤ j := by
                intro j
                induction j with
                | zero => simp [waysL]
                | succ j ih => unfold waysL; rw [List.length_append]; split <;> simp <;> omega
              have := e2 i; omega
            unfold bound; omega
          have hpw : ¬ w < H.length := by omega
          obtain ⟨p0, lw0, hlw⟩ := List.exists_cons_of_ne_nil h0
          have HZ := hideP (And.intro gW (And.intro h3 hlw))
          clear hq hT hmap hW hW1 hwl hT2 hnew hT1 hob hsl hrl hlen1 gW h3 hlw h0
          generalize hwcs : waysCs lw = wc at *
          (repeat (first | (with_reducible apply ops_cons; (focus ((conv => lhs; simp [ev1, wantG, spineK, spine, float, xnew, xval, xeff, val_tmA_cons, val_tmA_nil, val_val, putT_some, putT_none, addFl, cellsOf, pickC, alive, slLen, slFt, binI, maxA, maxK, minA, minK, aeqK, aeqS, AV.cells, slCells_sl, boatE, spanE, lookE, fillA, setAt, bitsI, nat_nn, AV.plain, apart, Nat.testBit_eq_decide_div_mod_eq, *]) <;> exact rfl)); simp only [addFl]) | ((first | with_reducible refine does_seq ?_ | with_reducible refine does_ops ?_ | with_reducible refine does_draw ?_ | with_reducible refine does_skip ?_ | with_reducible refine does_block ?_ | with_reducible refine does_ret ?_ | with_reducible refine does_exit ?_ | with_reducible refine ops_nil ?_ | (with_reducible apply does_true; (focus (simp [val_tmA_cons, *]; done))) | (with_reducible apply does_false; (focus (simp [val_tmA_cons, *]; done)))); try simp only [Then, Ops, OutB, reduceIte])))
          obtain ⟨hq, hT2, hnew, hW1, hT1, hlen1, hrl⟩ := HQ.out
          obtain ⟨gW, h3, hlw⟩ := HZ.out
          have htab : ∀ p : Int × AV, TableAt G1 p.2 (c.rain.length + 1) mn (tab c p.1 s mn c.rain.length) → TableAt (G1.set w .dead ++ [.cells [.int .i64 (k + i), .sl ob 0 (r.length + 1) 1], .cells (wc ++ [.int .i64 (k + i), .sl ob 0 (r.length + 1) 1])]) p.2 (c.rain.length + 1) mn (tab c p.1 s mn c.rain.length) := fun p hp =>
            (hp.set (w := w) (z := p0.1) (cs := p0.2 :: waysCs lw0) (by rw [gW, ← hwcs, hlw]; rfl) .dead).app _
          refine ⟨q - 1, by omega, i + 1, G1.set w .dead ++ [.cells [.int .i64 (k + i), .sl ob 0 (r.length + 1) 1], .cells (wc ++ [.int .i64 (k + i), .sl ob 0 (r.length + 1) 1])], .sl (G1.length + 1) 0 (lw.length + 1) 2, lw ++ [(k + (i : Int), AV.sl ob 0 (r.length + 1) 1)], by omega, ⟨T'.set (w - H.length - 1) .dead ++ [.cells [.int .i64 (k + i), .sl ob 0 (r.length + 1) 1], .cells (wc ++ [.int .i64 (k + i), .sl ob 0 (r.length + 1) 1])], ?_⟩, hnew, ⟨.inr ⟨by simp, G1.length + 1, by simp, ?_, by omega⟩, fun p hp => ?_⟩, ?_⟩
          · rw [hT2, List.set_append_right _ _ (by omega), show w - H.length = (w - H.length - 1) + 1 by omega, List.set_cons_succ, List.append_assoc, List.cons_append]; rfl
          · rw [List.getElem?_append_right (by simp), waysCs_app, hwcs]
            simp [waysCs]
          · rcases List.mem_append.1 hp with hp | hp
            · exact htab p (hW1.tabs p hp)
            · rw [List.mem_singleton] at hp
              subst hp
              exact htab _ (by rw [hrl]; exact hT1)
          · simp only [gcC_calm hC]
            rw [hci]
            exact st_eq (by simp [keepT_tmA, lk_cons]) rfl (by simp) rfl
    · obtain rfl : i = (l - k + 1).toNat := by omega
      have HQ := hideP (And.intro hT (And.intro hmap hW))
      rw [show k + (((l - k + 1).toNat : Nat) : Int) = l + 1 by omega]
      have hx : ¬ (l + 1 ≤ l) := by omega
      clear hq hT hmap hW hi
      (repeat (first | (with_reducible apply ops_cons; (focus ((conv => lhs; simp [ev1, wantG, spineK, spine, float, xnew, xval, xeff, val_tmA_cons, val_tmA_nil, val_val, putT_some, putT_none, addFl, cellsOf, pickC, alive, slLen, slFt, binI, maxA, maxK, minA, minK, aeqK, aeqS, AV.cells, slCells_sl, boatE, spanE, lookE, fillA, setAt, bitsI, nat_nn, AV.plain, apart, Nat.testBit_eq_decide_div_mod_eq, *]) <;> exact rfl)); simp only [addFl]) | ((first | with_reducible refine does_seq ?_ | with_reducible refine does_ops ?_ | with_reducible refine does_draw ?_ | with_reducible refine does_skip ?_ | with_reducible refine does_block ?_ | with_reducible refine does_ret ?_ | with_reducible refine does_exit ?_ | with_reducible refine ops_nil ?_ | (with_reducible apply does_true; (focus (simp [val_tmA_cons, *]; done))) | (with_reducible apply does_false; (focus (simp [val_tmA_cons, *]; done)))); try simp only [Then, Ops, OutB, reduceIte])))
      obtain ⟨hT, hmap, hW⟩ := HQ.out
      refine ⟨by first | trivial | rfl, by first | trivial | rfl, by first | trivial | rfl, lw, hmap, ?_, _, hT⟩
      simp only [tmA_getD_cons]
      simpa using hW
end R
end Ev
end Go.Proofs.YtlkhjnpflohfeaaDoor

/- The reference of chapter 06, gone through: the span of a day's depths. -/
namespace Go.Proofs.YtlkhjnpflohfeaaDoor
open Go
namespace Ev
namespace R
set_option maxRecDepth 100000
theorem waysCs_at : ∀ (l : List (Int × AV)) (i : Nat) (h : i < l.length), (waysCs l)[i * 2]? = some (.int .i64 l[i].1) ∧ (waysCs l)[i * 2 + 1]? = some l[i].2
  | [], i, h => by simp at h
  | p :: l, 0, h => by simp [waysCs]
  | p :: l, i + 1, h => by
    have ih := waysCs_at l i (by simpa using h)
    rw [show (i + 1) * 2 = i * 2 + 1 + 1 by omega]
    simpa [waysCs] using ih
/-- What has been seen of some ways lies between two numbers, which are both seen, or those of the beginning. -/
structure Seen (mn : Nat) (P : Nat → Prop) (lo hi : Int) : Prop where
  all : ∀ n, P n → lo ≤ n ∧ (n : Int) ≤ hi
  lo0 : lo = mn ∨ ∃ n, P n ∧ lo = n
  hi0 : hi = 0 ∨ ∃ n, P n ∧ hi = n
  in0 : lo ≤ mn ∧ 0 ≤ hi
theorem Seen.next {mn : Nat} {P Q : Nat → Prop} {lo hi : Int} (h : Seen mn P lo hi) {n : Nat} (hn : n ≤ mn) (hQ : ∀ i, Q i ↔ P i ∨ i = n) : Seen mn Q (min lo n) (max hi n) := by
  refine ⟨fun i hi' => ?_, ?_, ?_, ?_⟩
  · rcases (hQ i).1 hi' with h1 | rfl
    · have := h.all i h1; omega
    · omega
  · rcases (show min lo (n : Int) = lo ∨ min lo (n : Int) = n by omega) with e | e
    · rw [e]
      rcases h.lo0 with h1 | ⟨i, h1, h2⟩
      · exact .inl h1
      · exact .inr ⟨i, (hQ i).2 (.inl h1), h2⟩
    · rw [e]; exact .inr ⟨n, (hQ n).2 (.inr rfl), rfl⟩
  · rcases (show max hi (n : Int) = hi ∨ max hi (n : Int) = n by omega) with e | e
    · rw [e]
      rcases h.hi0 with h1 | ⟨i, h1, h2⟩
      · exact .inl h1
      · exact .inr ⟨i, (hQ i).2 (.inl h1), h2⟩
    · rw [e]; exact .inr ⟨n, (hQ n).2 (.inr rfl), rfl⟩
  · have := h.in0; omega
theorem Seen.same {mn : Nat} {P Q : Nat → Prop} {lo hi : Int} (h : Seen mn P lo hi) (hQ : ∀ i, Q i ↔ P i) : Seen mn Q lo hi :=
  ⟨fun i hi' => h.all i ((hQ i).1 hi'), h.lo0.imp id fun ⟨i, h1, h2⟩ => ⟨i, (hQ i).2 h1, h2⟩, h.hi0.imp id fun ⟨i, h1, h2⟩ => ⟨i, (hQ i).2 h1, h2⟩, h.in0⟩
set_option maxHeartbeats 8000000 in
theorem water_fun (C : Cfg) (hC : C.calm = true) (call : CallF) (a b k l : Int) (mn : Nat) (hm100 : mn ≤ 100) (r : List (Int × Int)) (bs : List Boat) (ls : List Look) (G : List AB) (v : AV) (x : CutD) (hx : x.rain.length = r.length) (s low d : Nat) (hd : d ≤ r.length) (lw : List (Int × AV)) (hW : WaysAt G v x s mn low lw) (hne : lw ≠ []) (hll : lw.length ≤ 20) :
    Does (ev C call G.length none af50.body { tm := tmA 46 (zipI 0 [.agg [.int .i64 a, .int .i64 b, .int .i64 k, .int .i64 l, .vs 2 (r.map spanE), .int .i64 mn, .vs 4 (bs.map boatE), .vs 3 (ls.map lookE)], v, .int .i64 d] []), df := [], hp := G, tc := [] })
      (fun e st => e = .ret ∧ st.df = [] ∧ st.tc = [] ∧ ∃ lo hi B6, st.tm.getD 6 .unk = .ptr B6 0 ∧ st.hp[B6]? = some (.cells [.int .i64 lo, .int .i64 hi]) ∧ Seen mn (fun n => n ≤ mn ∧ ∃ j, ∃ h : j < lw.length, tab x lw[j].1 s mn x.rain.length d n = true) lo hi) := by
  obtain ⟨w, hv, gW, -⟩ : ∃ w, v = .sl w 0 lw.length 2 ∧ G[w]? = some (.cells (waysCs lw)) ∧ low ≤ w := by
    rcases hW.head with h | h
    · exact absurd h.1 hne
    · exact h.2
  subst hv
  have htabs := hW.tabs
  obtain ⟨nW, -⟩ := List.getElem?_eq_some_iff.1 gW
  have gW' := fun K => get_app' (K := K) gW
  have nW' : ∀ n, w < G.length + n := fun n => by omega
  have eW' : ∀ K (h : w < (G ++ K).length), (G ++ K)[w]'h = .cells (waysCs lw) := fun K h => by
    have := gW' K
    rw [List.getElem?_eq_getElem h] at this; exact Option.some.inj this
  have HT := hideP htabs
  have HX := hideP (And.intro hx hd)
  clear hW htabs hx gW
  unfold af50
  simp only [zipI]
  (repeat (first | (with_reducible apply ops_cons; (focus ((conv => lhs; simp [ev1, wantG, spineK, spine, float, xnew, xval, xeff, val_tmA_cons, val_tmA_nil, val_val, putT_some, putT_none, addFl, cellsOf, pickC, alive, slLen, slFt, binI, maxA, maxK, minA, minK, aeqK, aeqS, AV.cells, slCells_sl, boatE, spanE, lookE, fillA, setAt, bitsI, nat_nn, AV.plain, apart, Nat.testBit_eq_decide_div_mod_eq, *]) <;> exact rfl)); simp only [addFl]) | ((first | with_reducible refine does_seq ?_ | with_reducible refine does_ops ?_ | with_reducible refine does_draw ?_ | with_reducible refine does_skip ?_ | with_reducible refine does_block ?_ | with_reducible refine does_ret ?_ | with_reducible refine does_exit ?_ | with_reducible refine ops_nil ?_ | (with_reducible apply does_true; (focus (simp [val_tmA_cons, *]; done))) | (with_reducible apply does_false; (focus (simp [val_tmA_cons, *]; done)))); try simp only [Then, Ops, OutB, reduceIte])))
  refine does_loop (fun q st => ∃ (i : Nat) (lo hi : Int), i + q = lw.length ∧ Seen mn (fun n => n ≤ mn ∧ ∃ j, ∃ h : j < lw.length, j < i ∧ tab x lw[j].1 s mn x.rain.length d n = true) lo hi ∧ st = { tm := tmA 46 [(8, .int .i64 i), (7, .ptr (G.length + 2) 0), (6, .ptr (G.length + 1) 0), (3, .ptr G.length 0), (2, .int .i64 d), (1, .sl w 0 lw.length 2)], df := [], hp := G ++ [.cells [.int .i64 a, .int .i64 b, .int .i64 k, .int .i64 l, .vs 2 (r.map spanE), .int .i64 mn, .vs 4 (bs.map boatE), .vs 3 (ls.map lookE)], .cells [.int .i64 0, .int .i64 0], .cells [.int .i64 lo, .int .i64 hi]], tc := [] }) lw.length (by unfold fuelL; omega) ?_ ?_
  · refine ⟨0, mn, 0, by omega, ⟨fun n hn => (by obtain ⟨_, j, h, h1, _⟩ := hn; omega), .inl rfl, .inl rfl, by omega⟩, ?_⟩
    simp only [gcC_calm hC]
    exact st_eq (by simp [keepT_tmA, lk_cons]) rfl rfl rfl
  · rintro q st ⟨i, lo, hi, hq, hS, rfl⟩
    by_cases hi' : i < lw.length
    · have hw : IntKind.i64.wrap ((i : Int) + 1) = (i : Int) + 1 := wrap_in (by omega) (by omega)
      obtain ⟨ob, rb, hsl, gO, gR⟩ := HT.out _ (List.getElem_mem hi')
      obtain ⟨hx, hd⟩ := HX.out
      have gR := gR d (by omega)
      have ho1 : ((List.range (x.rain.length + 1)).map fun d => AV.sl (rb d) 0 (mn + 1) 1)[d]? = some (.sl (rb d) 0 (mn + 1) 1) := by rw [List.getElem?_map, List.getElem?_range (by omega)]; rfl
      have hr0 : ∀ n, n ≤ mn → ((List.range (mn + 1)).map fun n => AV.bool (tab x lw[i].1 s mn x.rain.length d n))[n]? = some (.bool (tab x lw[i].1 s mn x.rain.length d n)) := fun n hn => by rw [List.getElem?_map, List.getElem?_range (by omega)]; rfl
      have hwc := (waysCs_at lw i hi').2
      rw [hsl] at hwc
      obtain ⟨nO, -⟩ := List.getElem?_eq_some_iff.1 gO
      obtain ⟨nR, -⟩ := List.getElem?_eq_some_iff.1 gR
      generalize ((List.range (x.rain.length + 1)).map fun d => AV.sl (rb d) 0 (mn + 1) 1) = oc at *
      generalize ((List.range (mn + 1)).map fun n => AV.bool (tab x lw[i].1 s mn x.rain.length d n)) = rc at *
      generalize rb d = rd at *
      have gO' := fun K => get_app' (K := K) gO
      have nO' : ∀ n, ob < G.length + n := fun n => by omega
      have eO' : ∀ K (h : ob < (G ++ K).length), (G ++ K)[ob]'h = .cells oc := fun K h => by
        have := gO' K
        rw [List.getElem?_eq_getElem h] at this; exact Option.some.inj this
      have gR' := fun K => get_app' (K := K) gR
      have nR' : ∀ n, rd < G.length + n := fun n => by omega
      have eR' : ∀ K (h : rd < (G ++ K).length), (G ++ K)[rd]'h = .cells rc := fun K h => by
        have := gR' K
        rw [List.getElem?_eq_getElem h] at this; exact Option.some.inj this
      have hdn : (d : Int) < (x.rain.length : Int) + 1 := by omega
      have HR := hideP hr0
      have HQ := hideP (And.intro hq hS)
      rw [hx] at hdn hsl
      rw [hx] at hwc
      clear hq hS hr0 gO gR hsl hx hd
      (repeat (first | (with_reducible apply ops_cons; (focus ((conv => lhs; simp [ev1, wantG, spineK, spine, float, xnew, xval, xeff, val_tmA_cons, val_tmA_nil, val_val, putT_some, putT_none, addFl, cellsOf, pickC, alive, slLen, slFt, binI, maxA, maxK, minA, minK, aeqK, aeqS, AV.cells, slCells_sl, boatE, spanE, lookE, fillA, setAt, bitsI, nat_nn, AV.plain, apart, Nat.testBit_eq_decide_div_mod_eq, *]) <;> exact rfl)); simp only [addFl]) | ((first | with_reducible refine does_seq ?_ | with_reducible refine does_ops ?_ | with_reducible refine does_draw ?_ | with_reducible refine does_skip ?_ | with_reducible refine does_block ?_ | with_reducible refine does_ret ?_ | with_reducible refine does_exit ?_ | with_reducible refine ops_nil ?_ | (with_reducible apply does_true; (focus (simp [val_tmA_cons, *]; done))) | (with_reducible apply does_false; (focus (simp [val_tmA_cons, *]; done)))); try simp only [Then, Ops, OutB, reduceIte])))
      refine does_loop (fun q' st => ∃ (n : Nat) (lo hi : Int), n + q' = mn + 1 ∧ Seen mn (fun m => m ≤ mn ∧ ((∃ j, ∃ h : j < lw.length, j < i ∧ tab x lw[j].1 s mn x.rain.length d m = true) ∨ m < n ∧ tab x lw[i].1 s mn x.rain.length d m = true)) lo hi ∧ st = { tm := tmA 46 [(9, .int .i64 n), (8, .int .i64 i), (7, .ptr (G.length + 2) 0), (6, .ptr (G.length + 1) 0), (3, .ptr G.length 0), (2, .int .i64 d), (1, .sl w 0 lw.length 2)], df := [], hp := G ++ [.cells [.int .i64 a, .int .i64 b, .int .i64 k, .int .i64 l, .vs 2 (r.map spanE), .int .i64 mn, .vs 4 (bs.map boatE), .vs 3 (ls.map lookE)], .cells [.int .i64 0, .int .i64 0], .cells [.int .i64 lo, .int .i64 hi]], tc := [] }) (mn + 1) (by unfold fuelL; omega) ?_ ?_
      · refine ⟨0, lo, hi, by omega, HQ.out.2.same fun m => ?_, ?_⟩
        · constructor
          · rintro ⟨h1, h2 | ⟨h2, _⟩⟩
            · exact ⟨h1, h2⟩
            · omega
          · rintro ⟨h1, h2⟩; exact ⟨h1, .inl h2⟩
        · simp only [gcC_calm hC]
          exact st_eq (by simp [keepT_tmA, lk_cons]) rfl rfl rfl
      · rintro q' st ⟨n, lo', hi2, hq', hS', rfl⟩
        by_cases hn : n ≤ mn
        · have hwn : IntKind.i64.wrap ((n : Int) + 1) = (n : Int) + 1 := wrap_in (by omega) (by omega)
          have hn' : (n : Int) < (mn : Int) + 1 := by omega
          have hin : (i : Int) < (lw.length : Int) := by omega
          have h1 := HR.out n hn
          have HQ' := hideP (And.intro hq' hS')
          clear hq' hS'
          cases hb : tab x lw[i].1 s mn x.rain.length d n with
          | true =>
            rw [hb] at h1
            have HB := hideP hb
            clear hb
            (repeat (first | (with_reducible apply ops_cons; (focus ((conv => lhs; simp [ev1, wantG, spineK, spine, float, xnew, xval, xeff, val_tmA_cons, val_tmA_nil, val_val, putT_some, putT_none, addFl, cellsOf, pickC, alive, slLen, slFt, binI, maxA, maxK, minA, minK, aeqK, aeqS, AV.cells, slCells_sl, boatE, spanE, lookE, fillA, setAt, bitsI, nat_nn, AV.plain, apart, Nat.testBit_eq_decide_div_mod_eq, *]) <;> exact rfl)); simp only [addFl]) | ((first | with_reducible refine does_seq ?_ | with_reducible refine does_ops ?_ | with_reducible refine does_draw ?_ | with_reducible refine does_skip ?_ | with_reducible refine does_block ?_ | with_reducible refine does_ret ?_ | with_reducible refine does_exit ?_ | with_reducible refine ops_nil ?_ | (with_reducible apply does_true; (focus (simp [val_tmA_cons, *]; done))) | (with_reducible apply does_false; (focus (simp [val_tmA_cons, *]; done)))); try simp only [Then, Ops, OutB, reduceIte])))
            obtain ⟨hq', hS'⟩ := HQ'.out
            refine ⟨q' - 1, by omega, n + 1, _, _, by omega, hS'.next (n := n) hn fun m => ?_, ?_⟩
            · constructor
              · rintro ⟨h1, h2 | ⟨h2, h3⟩⟩
                · exact .inl ⟨h1, .inl h2⟩
                · rcases (show m < n ∨ m = n by omega) with h | h
                  · exact .inl ⟨h1, .inr ⟨h, h3⟩⟩
                  · exact .inr h
              · rintro (⟨h1, h2 | ⟨h2, h3⟩⟩ | rfl)
                · exact ⟨h1, .inl h2⟩
                · exact ⟨h1, .inr ⟨by omega, h3⟩⟩
                · exact ⟨hn, .inr ⟨by omega, HB.out⟩⟩
            · simp only [gcC_calm hC]
              exact st_eq (by simp [keepT_tmA, lk_cons]) rfl (by simp) rfl
          | false =>
            rw [hb] at h1
            have HB := hideP hb
            clear hb
            (repeat (first | (with_reducible apply ops_cons; (focus ((conv => lhs; simp [ev1, wantG, spineK, spine, float, xnew, xval, xeff, val_tmA_cons, val_tmA_nil, val_val, putT_some, putT_none, addFl, cellsOf, pickC, alive, slLen, slFt, binI, maxA, maxK, minA, minK, aeqK, aeqS, AV.cells, slCells_sl, boatE, spanE, lookE, fillA, setAt, bitsI, nat_nn, AV.plain, apart, Nat.testBit_eq_decide_div_mod_eq, *]) <;> exact rfl)); simp only [addFl]) | ((first | with_reducible refine does_seq ?_ | with_reducible refine does_ops ?_ | with_reducible refine does_draw ?_ | with_reducible refine does_skip ?_ | with_reducible refine does_block ?_ | with_reducible refine does_ret ?_ | with_reducible refine does_exit ?_ | with_reducible refine ops_nil ?_ | (with_reducible apply does_true; (focus (simp [val_tmA_cons, *]; done))) | (with_reducible apply does_false; (focus (simp [val_tmA_cons, *]; done)))); try simp only [Then, Ops, OutB, reduceIte])))
            obtain ⟨hq', hS'⟩ := HQ'.out
            refine ⟨q' - 1, by omega, n + 1, lo', hi2, by omega, hS'.same fun m => ?_, ?_⟩
            · constructor
              · rintro ⟨h1, h2 | ⟨h2, h3⟩⟩
                · exact ⟨h1, .inl h2⟩
                · rcases (show m < n ∨ m = n by omega) with h | rfl
                  · exact ⟨h1, .inr ⟨h, h3⟩⟩
                  · rw [HB.out] at h3; cases h3
              · rintro ⟨h1, h2 | ⟨h2, h3⟩⟩
                · exact ⟨h1, .inl h2⟩
                · exact ⟨h1, .inr ⟨by omega, h3⟩⟩
            · simp only [gcC_calm hC]
              exact st_eq (by simp [keepT_tmA, lk_cons]) rfl rfl rfl
        · obtain rfl : n = mn + 1 := by omega
          have hx1 : ¬ ((mn : Int) + 1 ≤ mn) := by omega
          have HS := hideP hS'
          clear hS' hq'
          (repeat (first | (with_reducible apply ops_cons; (focus ((conv => lhs; simp [ev1, wantG, spineK, spine, float, xnew, xval, xeff, val_tmA_cons, val_tmA_nil, val_val, putT_some, putT_none, addFl, cellsOf, pickC, alive, slLen, slFt, binI, maxA, maxK, minA, minK, aeqK, aeqS, AV.cells, slCells_sl, boatE, spanE, lookE, fillA, setAt, bitsI, nat_nn, AV.plain, apart, Nat.testBit_eq_decide_div_mod_eq, *]) <;> exact rfl)); simp only [addFl]) | ((first | with_reducible refine does_seq ?_ | with_reducible refine does_ops ?_ | with_reducible refine does_draw ?_ | with_reducible refine does_skip ?_ | with_reducible refine does_block ?_ | with_reducible refine does_ret ?_ | with_reducible refine does_exit ?_ | with_reducible refine ops_nil ?_ | (with_reducible apply does_true; (focus (simp [val_tmA_cons, *]; done))) | (with_reducible apply does_false; (focus (simp [val_tmA_cons, *]; done)))); try simp only [Then, Ops, OutB, reduceIte])))
          obtain ⟨hq, -⟩ := HQ.out
          refine ⟨q - 1, by omega, i + 1, lo', hi2, by omega, HS.out.same fun m => ?_, ?_⟩
          · constructor
            · rintro ⟨h1, j, h2, h3, h4⟩
              rcases (show j < i ∨ j = i by omega) with h | rfl
              · exact ⟨h1, .inl ⟨j, h2, h, h4⟩⟩
              · exact ⟨h1, .inr ⟨by omega, h4⟩⟩
            · rintro ⟨h1, ⟨j, h2, h3, h4⟩ | ⟨h2, h3⟩⟩
              · exact ⟨h1, j, h2, by omega, h4⟩
              · exact ⟨h1, i, hi', by omega, h3⟩
          · simp only [gcC_calm hC]
            exact st_eq (by simp [keepT_tmA, lk_cons]) rfl rfl rfl
    · obtain rfl : i = lw.length := by omega
      have HS := hideP hS
      clear hS hq
      (repeat (first | (with_reducible apply ops_cons; (focus ((conv => lhs; simp [ev1, wantG, spineK, spine, float, xnew, xval, xeff, val_tmA_cons, val_tmA_nil, val_val, putT_some, putT_none, addFl, cellsOf, pickC, alive, slLen, slFt, binI, maxA, maxK, minA, minK, aeqK, aeqS, AV.cells, slCells_sl, boatE, spanE, lookE, fillA, setAt, bitsI, nat_nn, AV.plain, apart, Nat.testBit_eq_decide_div_mod_eq, *]) <;> exact rfl)); simp only [addFl]) | ((first | with_reducible refine does_seq ?_ | with_reducible refine does_ops ?_ | with_reducible refine does_draw ?_ | with_reducible refine does_skip ?_ | with_reducible refine does_block ?_ | with_reducible refine does_ret ?_ | with_reducible refine does_exit ?_ | with_reducible refine ops_nil ?_ | (with_reducible apply does_true; (focus (simp [val_tmA_cons, *]; done))) | (with_reducible apply does_false; (focus (simp [val_tmA_cons, *]; done)))); try simp only [Then, Ops, OutB, reduceIte])))
      refine ⟨by first | trivial | rfl, by first | trivial | rfl, by first | trivial | rfl, lo, hi, G.length + 1, by simp only [tmA_getD_cons]; simp, by simp, HS.out.same fun m => ?_⟩
      constructor
      · rintro ⟨h1, j, h2, h3⟩; exact ⟨h1, j, h2, h2, h3⟩
      · rintro ⟨h1, j, h2, _, h3⟩; exact ⟨h1, j, h2, h3⟩
end R
end Ev
end Go.Proofs.YtlkhjnpflohfeaaDoor

/- The reference of chapter 06, gone through: all ways, or why there are none. -/
namespace Go.Proofs.YtlkhjnpflohfeaaDoor
open Go
namespace Ev
namespace R
set_option maxRecDepth 100000
/-! Plain laws. -/
theorem mem_waysL {x : CutD} {s mn : Nat} {v : Int} : ∀ {cnt : Nat}, v ∈ waysL x s mn cnt ↔ ∃ i : Nat, i < cnt ∧ v = x.leak.1 + i ∧ someB x v s mn = true
  | 0 => by simp [waysL]
  | c + 1 => by
    unfold waysL
    rw [List.mem_append, mem_waysL (cnt := c)]
    constructor
    · rintro (⟨i, h1, h2, h3⟩ | h)
      · exact ⟨i, by omega, h2, h3⟩
      · split at h
        · rename_i hb
          rw [List.mem_singleton] at h
          subst h
          exact ⟨c, by omega, rfl, hb⟩
        · cases h
    · rintro ⟨i, h1, h2, h3⟩
      rcases (show i < c ∨ i = c by omega) with h | rfl
      · exact .inl ⟨i, h, h2, h3⟩
      · right
        rw [h2] at h3 ⊢
        rw [if_pos h3]; exact List.mem_singleton.2 rfl
theorem waysL_sorted {x : CutD} {s mn : Nat} : ∀ cnt : Nat, (waysL x s mn cnt).Pairwise (· < ·)
  | 0 => List.Pairwise.nil
  | c + 1 => by
    unfold waysL
    rw [List.pairwise_append]
    refine ⟨waysL_sorted c, by split <;> simp, fun a ha b hb => ?_⟩
    obtain ⟨i, h1, h2, _⟩ := mem_waysL.1 ha
    split at hb
    · rw [List.mem_singleton] at hb; omega
    · cases hb
theorem leak_truth {x : CutD} (V : Cut.Valid x) {s mn : Nat} (hm : x.most = mn) {v : Int} : v ∈ waysL x s mn (x.leak.2 - x.leak.1 + 1).toNat ↔ Cut.inS x.leak v ∧ ∃ t, Cut.Truth x v s t := by
  have := V.l1
  rw [mem_waysL]
  unfold Cut.inS
  constructor
  · rintro ⟨i, h1, h2, h3⟩
    exact ⟨by omega, (some_truth V hm).1 h3⟩
  · rintro ⟨h1, h2⟩
    exact ⟨(v - x.leak.1).toNat, by omega, by omega, (some_truth V hm).2 h2⟩
theorem waysL_can {x : CutD} (V : Cut.Valid x) {s mn : Nat} (hm : x.most = mn) : waysL x s mn (x.leak.2 - x.leak.1 + 1).toNat = [] ↔ Cut.can x s = false := by
  cases hc : Cut.can x s with
  | true =>
    obtain ⟨leak, h1, t, h2⟩ := (Cut.can_iff V s).1 hc
    have := (leak_truth V hm).2 ⟨h1, t, h2⟩
    constructor
    · intro h; rw [h] at this; cases this
    · intro h; cases h
  | false =>
    refine ⟨fun _ => rfl, fun _ => ?_⟩
    rw [List.eq_nil_iff_forall_not_mem]
    intro v hv
    obtain ⟨h1, t, h2⟩ := (leak_truth V hm).1 hv
    rw [(Cut.can_iff V s).2 ⟨v, h1, t, h2⟩] at hc
    cases hc
/-- What was seen of a day is the water's span. -/
theorem seen_water {x : CutD} (V : Cut.Valid x) {mn : Nat} (hm : x.most = mn) (hc : Cut.can x (Cut.every x) = true) {d : Nat} (hd : d ≤ x.rain.length) {lw : List (Int × AV)} (hl : lw.map (·.1) = waysL x (Cut.every x) mn (x.leak.2 - x.leak.1 + 1).toNat) {lo hi : Int}
    (h : Seen mn (fun n => n ≤ mn ∧ ∃ j, ∃ h : j < lw.length, tab x lw[j].1 (Cut.every x) mn x.rain.length d n = true) lo hi) : lo = (Cut.water x d).1 ∧ hi = (Cut.water x d).2 := by
  have hP : ∀ n : Nat, (n ≤ mn ∧ ∃ j, ∃ h : j < lw.length, tab x lw[j].1 (Cut.every x) mn x.rain.length d n = true) ↔ ∃ leak t, Cut.inS x.leak leak ∧ Cut.Truth x leak (Cut.every x) t ∧ t d = (n : Int) := by
    intro n
    constructor
    · rintro ⟨h1, j, h2, h3⟩
      obtain ⟨t, h4, h5⟩ := (tab_truth V hm hd h1).1 h3
      have hmem : lw[j].1 ∈ waysL x (Cut.every x) mn (x.leak.2 - x.leak.1 + 1).toNat := by rw [← hl]; exact List.mem_map.2 ⟨lw[j], List.getElem_mem h2, rfl⟩
      exact ⟨lw[j].1, t, ((leak_truth V hm).1 hmem).1, h4, h5⟩
    · rintro ⟨leak, t, h1, h2, h3⟩
      have hb := Cut.FR_in V (h2.fr d hd)
      have hn : n ≤ mn := by omega
      refine ⟨hn, ?_⟩
      have hmem := (leak_truth V hm).2 ⟨h1, t, h2⟩
      rw [← hl] at hmem
      obtain ⟨p, hp, rfl⟩ := List.mem_map.1 hmem
      obtain ⟨j, hj, rfl⟩ := List.getElem_of_mem hp
      exact ⟨j, hj, (tab_truth V hm hd hn).2 ⟨t, h2, h3⟩⟩
  obtain ⟨w1, ⟨k1, t1, a1, a2, a3⟩, k2, t2, b1, b2, b3⟩ := Cut.water_spec V hc d hd
  have f1 := Cut.FR_in V (a2.fr d hd)
  have f2 := Cut.FR_in V (b2.fr d hd)
  obtain ⟨n1, e1⟩ := Int.eq_ofNat_of_zero_le f1.1
  obtain ⟨n2, e2⟩ := Int.eq_ofNat_of_zero_le f2.1
  have s1 := h.all n1 ((hP n1).2 ⟨k1, t1, a1, a2, e1⟩)
  have s2 := h.all n2 ((hP n2).2 ⟨k2, t2, b1, b2, e2⟩)
  have in0 := h.in0
  constructor
  · rcases h.lo0 with h0 | ⟨n, h0, h00⟩
    · omega
    · obtain ⟨lk, t, c1, c2, c3⟩ := (hP n).1 h0
      have := w1 lk t c1 c2
      unfold Cut.inS at this
      omega
  · rcases h.hi0 with h0 | ⟨n, h0, h00⟩
    · omega
    · obtain ⟨lk, t, c1, c2, c3⟩ := (hP n).1 h0
      have := w1 lk t c1 c2
      unfold Cut.inS at this
      omega
/-- The first and the last way. -/
theorem ends_leak {x : CutD} (V : Cut.Valid x) {mn : Nat} (hm : x.most = mn) (hc : Cut.can x (Cut.every x) = true) {lw : List (Int × AV)} (hl : lw.map (·.1) = waysL x (Cut.every x) mn (x.leak.2 - x.leak.1 + 1).toNat) (h0 : 0 < lw.length) :
    lw[0].1 = (Cut.leakSpan x).1 ∧ (lw[lw.length - 1]'(by omega)).1 = (Cut.leakSpan x).2 := by
  obtain ⟨w1, ⟨a1, a2⟩, b1, b2⟩ := Cut.leak_spec V hc
  have hs := waysL_sorted (x := x) (s := Cut.every x) (mn := mn) (x.leak.2 - x.leak.1 + 1).toNat
  rw [← hl, List.pairwise_map, List.pairwise_iff_getElem] at hs
  have hin : ∀ j (h : j < lw.length), Cut.inS (Cut.leakSpan x) lw[j].1 := fun j h => by
    have hmem : lw[j].1 ∈ waysL x (Cut.every x) mn (x.leak.2 - x.leak.1 + 1).toNat := by rw [← hl]; exact List.mem_map.2 ⟨lw[j], List.getElem_mem h, rfl⟩
    obtain ⟨h1, t, h2⟩ := (leak_truth V hm).1 hmem
    exact w1 _ t h1 h2
  have hex : ∀ v, Cut.inS x.leak v → (∃ t, Cut.Truth x v (Cut.every x) t) → ∃ j, ∃ h : j < lw.length, lw[j].1 = v := fun v h1 h2 => by
    have hmem := (leak_truth V hm).2 ⟨h1, h2⟩
    rw [← hl] at hmem
    obtain ⟨p, hp, rfl⟩ := List.mem_map.1 hmem
    obtain ⟨j, hj, rfl⟩ := List.getElem_of_mem hp
    exact ⟨j, hj, rfl⟩
  obtain ⟨j1, c1, c2⟩ := hex _ a1 a2
  obtain ⟨j2, d1, d2⟩ := hex _ b1 b2
  have i1 := hin 0 h0
  have i2 := hin (lw.length - 1) (by omega)
  unfold Cut.inS at i1 i2
  constructor
  · rcases (show j1 = 0 ∨ 0 < j1 by omega) with rfl | h
    · exact c2
    · have := hs 0 j1 h0 c1 h; omega
  · rcases (show j2 = lw.length - 1 ∨ j2 < lw.length - 1 by omega) with rfl | h
    · exact d2
    · have := hs j2 (lw.length - 1) d1 (by omega) h; omega
end R
end Ev
end Go.Proofs.YtlkhjnpflohfeaaDoor

/- The reference of chapter 06, gone through: all ways, or the error; what they tell of a day. -/
namespace Go.Proofs.YtlkhjnpflohfeaaDoor
open Go
namespace Ev
namespace R
set_option maxRecDepth 100000
def WaysC (call : CallF) : Prop := ∀ (H : List AB) (a b k l : Int) (mn : Nat) (r : List (Int × Int)) (bs : List Boat) (ls : List Look), Cut.Valid ⟨(a, b), (k, l), r, mn, bs, ls⟩ → ∀ (s : Nat), s < 1048576 →
  ∃ K v lw, call (.fn (.func 77) [] []) [.agg [.int .i64 a, .int .i64 b, .int .i64 k, .int .i64 l, .vs 2 (r.map spanE), .int .i64 mn, .vs 4 (bs.map boatE), .vs 3 (ls.map lookE)], .int .i64 s] H = some (.ret v, H ++ K, []) ∧
    lw.map (·.1) = waysL ⟨(a, b), (k, l), r, mn, bs, ls⟩ s mn (l - k + 1).toNat ∧ WaysAt (H ++ K) v ⟨(a, b), (k, l), r, mn, bs, ls⟩ s mn (H.length + 1) lw
theorem ways_call {C : Cfg} {n : Nat} (hc : C.calm = true) (h : Has C 77 af77) (hD : DepthsC (Ev.call C n)) : WaysC (Ev.call C (n + 1)) := by
  intro H a b k l mn r bs ls V s hs
  have := call_fn (n := n) (first := []) (captured := []) (args := [.agg [.int .i64 a, .int .i64 b, .int .i64 k, .int .i64 l, .vs 2 (r.map spanE), .int .i64 mn, .vs 4 (bs.map boatE), .vs 3 (ls.map lookE)], .int .i64 s]) (H := H)
    (R := fun x H' tc => tc = [] ∧ ∃ K v lw, x = .ret v ∧ H' = H ++ K ∧ lw.map (·.1) = waysL ⟨(a, b), (k, l), r, mn, bs, ls⟩ s mn (l - k + 1).toNat ∧ WaysAt (H ++ K) v ⟨(a, b), (k, l), r, mn, bs, ls⟩ s mn (H.length + 1) lw)
    hc h.ext h.exth h.fns h.whole (show (2 : Nat) ≤ 32 by omega) (by
    refine (ways_fun C hc (Ev.call C n) hD a b k l mn r bs ls V s hs H).mono fun e st ⟨h1, h2, h3, lw, h4, h5, T, h6⟩ => ?_
    subst h1
    have e1 : ∀ p, runDefs C p st.df none st = some (none, st) := fun p => by rw [h2]; rfl
    refine ⟨.ret (st.tm.getD 4 .unk), st, ?_, ?_⟩
    · show (match runDefs C H.length st.df none st with
        | some (none, st) => (resL st [.tmp 4]).map fun vs => (CRes.ret (resV vs), st)
        | _ => none) = _
      rw [e1]; rfl
    · unfold Left
      rw [h3]
      rcases h5.head with ⟨g1, g2⟩ | ⟨g1, w, g2, g3, g4⟩
      · rw [if_pos (by rw [g2]; rfl)]
        exact ⟨rfl, [], _, lw, rfl, by simp, h4, ⟨.inl ⟨g1, g2⟩, fun p hp => by rw [g1] at hp; cases hp⟩⟩
      · rw [if_neg (by rw [g2]; unfold bareQ; simp [CRes.val, refs])]
        have e2 : overH H st.hp [] ++ st.hp.drop H.length = H ++ T := by
          rw [h6]; simp [overH]
        rw [e2]
        exact ⟨rfl, T, _, lw, rfl, rfl, h4, by rw [← h6]; exact h5⟩)
  obtain ⟨x, H', tc, h1, rfl, K, v, lw, rfl, rfl, h2, h3⟩ := this
  exact ⟨K, v, lw, h1, h2, h3⟩
def EveryC (call : CallF) : Prop := ∀ (H : List AB) (a b k l m : Int) (r : List (Int × Int)) (bs : List Boat) (ls : List Look), ls.length ≤ 5 →
  call (.fn (.func 78) [] []) [.agg [.int .i64 a, .int .i64 b, .int .i64 k, .int .i64 l, .vs 2 (r.map spanE), .int .i64 m, .vs 4 (bs.map boatE), .vs 3 (ls.map lookE)]] H = some (.ret (.int .i64 (2 ^ ls.length - 1 : Nat)), H, [])
theorem every_fun (C : Cfg) (call : CallF) (hP : PowerC call) (H : List AB) (a b k l m : Int) (r : List (Int × Int)) (bs : List Boat) (ls : List Look) (h5 : ls.length ≤ 5) :
    Does (ev C call H.length none af78.body { tm := tmA 8 (zipI 0 [.agg [.int .i64 a, .int .i64 b, .int .i64 k, .int .i64 l, .vs 2 (r.map spanE), .int .i64 m, .vs 4 (bs.map boatE), .vs 3 (ls.map lookE)]] []), df := [], hp := H, tc := [] }) (Gives 2 (.int .i64 (2 ^ ls.length - 1 : Nat))) := by
  have h1 := fun H => hP H ls.length (by omega)
  have hp : (2 : Nat) ^ ls.length ≤ 2 ^ 5 := Nat.pow_le_pow_right (by decide) h5
  have hp1 : 0 < (2 : Nat) ^ ls.length := Nat.pow_pos (by decide)
  generalize (2 : Nat) ^ ls.length = p at *
  have hw : IntKind.i64.wrap ((p : Int) - 1) = ((p - 1 : Nat) : Int) := by rw [wrap_in (by omega) (by omega)]; omega
  generalize p - 1 = p1 at *
  clear hP hp hp1 h5
  unfold af78
  simp only [zipI]
  (repeat (first | (with_reducible apply ops_cons; (focus ((conv => lhs; simp [ev1, wantG, spineK, spine, float, xnew, xval, xeff, val_tmA_cons, val_tmA_nil, val_val, putT_some, putT_none, addFl, cellsOf, pickC, alive, slLen, slFt, binI, maxA, maxK, minA, minK, aeqK, aeqS, AV.cells, slCells_sl, boatE, spanE, lookE, fillA, setAt, bitsI, nat_nn, AV.plain, apart, Nat.testBit_eq_decide_div_mod_eq, *]) <;> exact rfl)); simp only [addFl]) | ((first | with_reducible refine does_seq ?_ | with_reducible refine does_ops ?_ | with_reducible refine does_draw ?_ | with_reducible refine does_skip ?_ | with_reducible refine does_block ?_ | with_reducible refine does_ret ?_ | with_reducible refine does_exit ?_ | with_reducible refine ops_nil ?_ | (with_reducible apply does_true; (focus (simp [val_tmA_cons, *]; done))) | (with_reducible apply does_false; (focus (simp [val_tmA_cons, *]; done)))); try simp only [Then, Ops, OutB, reduceIte])))
  exact ⟨by first | trivial | rfl, by first | trivial | rfl, by first | trivial | rfl, by simp only [tmA_getD_cons]; simp⟩
end R
end Ev
end Go.Proofs.YtlkhjnpflohfeaaDoor

/- told -/
namespace Go.Proofs.YtlkhjnpflohfeaaDoor
open Go
namespace Ev
namespace R
set_option maxRecDepth 100000
set_option maxHeartbeats 8000000 in
theorem told_fun (C : Cfg) (call : CallF) (a b k l m : Int) (r : List (Int × Int)) (bs : List Boat) (ls : List Look) (hV : ∀ H, call (.fn (.func 35) [] []) [.agg [.int .i64 a, .int .i64 b, .int .i64 k, .int .i64 l, .vs 2 (r.map spanE), .int .i64 m, .vs 4 (bs.map boatE), .vs 3 (ls.map lookE)]] H = some (.ret (.bool (Cut.valid ⟨(a, b), (k, l), r, m, bs, ls⟩)), H, [])) (hE : EveryC call) (hWy : WaysC call) (vb : Bool) (H : List AB) :
    Does (ev C call H.length none af48.body { tm := tmA 20 (zipI 0 [.agg [.int .i64 a, .int .i64 b, .int .i64 k, .int .i64 l, .vs 2 (r.map spanE), .int .i64 m, .vs 4 (bs.map boatE), .vs 3 (ls.map lookE)], .bool vb] []), df := [], hp := H, tc := [] })
      (fun e st => e = .ret ∧ st.df = [] ∧ st.tc = [] ∧ ((toldErr ⟨(a, b), (k, l), r, m, bs, ls⟩ vb ≠ 0 ∧ st.tm.getD 4 .unk = .nils ∧ st.tm.getD 5 .unk = .int .i64 (toldErr ⟨(a, b), (k, l), r, m, bs, ls⟩ vb)) ∨
        (toldErr ⟨(a, b), (k, l), r, m, bs, ls⟩ vb = 0 ∧ ∃ mn : Nat, m = mn ∧ ∃ lw, st.tm.getD 5 .unk = .int .i64 0 ∧ lw ≠ [] ∧ lw.map (·.1) = waysL ⟨(a, b), (k, l), r, m, bs, ls⟩ (Cut.every ⟨(a, b), (k, l), r, m, bs, ls⟩) mn (l - k + 1).toNat ∧ WaysAt st.hp (st.tm.getD 4 .unk) ⟨(a, b), (k, l), r, m, bs, ls⟩ (Cut.every ⟨(a, b), (k, l), r, m, bs, ls⟩) mn (H.length + 2) lw ∧ ∃ T, st.hp = H ++ T))) := by
  cases hv : Cut.valid ⟨(a, b), (k, l), r, m, bs, ls⟩ with
  | false =>
    have ht := toldErr_bad (b := vb) hv
    rw [ht]
    rw [hv] at hV
    clear hv ht
    unfold af48
    simp only [zipI]
    (repeat (first | (with_reducible apply ops_cons; (focus ((conv => lhs; simp [ev1, wantG, spineK, spine, float, xnew, xval, xeff, val_tmA_cons, val_tmA_nil, val_val, putT_some, putT_none, addFl, cellsOf, pickC, alive, slLen, slFt, binI, maxA, maxK, minA, minK, aeqK, aeqS, AV.cells, slCells_sl, boatE, spanE, lookE, fillA, setAt, bitsI, nat_nn, AV.plain, apart, Nat.testBit_eq_decide_div_mod_eq, *]) <;> exact rfl)); simp only [addFl]) | ((first | with_reducible refine does_seq ?_ | with_reducible refine does_ops ?_ | with_reducible refine does_draw ?_ | with_reducible refine does_skip ?_ | with_reducible refine does_block ?_ | with_reducible refine does_ret ?_ | with_reducible refine does_exit ?_ | with_reducible refine ops_nil ?_ | (with_reducible apply does_true; (focus (simp [val_tmA_cons, *]; done))) | (with_reducible apply does_false; (focus (simp [val_tmA_cons, *]; done)))); try simp only [Then, Ops, OutB, reduceIte])))
    exact ⟨by first | trivial | rfl, by first | trivial | rfl, by first | trivial | rfl, .inl ⟨by decide, by simp only [tmA_getD_cons]; simp, by simp only [tmA_getD_cons]; simp⟩⟩
  | true =>
    have hv' := hv
    rw [hv] at hV
    cases vb with
    | false =>
      have ht := toldErr_range hv
      rw [ht]
      clear hv hv' ht
      unfold af48
      simp only [zipI]
      (repeat (first | (with_reducible apply ops_cons; (focus ((conv => lhs; simp [ev1, wantG, spineK, spine, float, xnew, xval, xeff, val_tmA_cons, val_tmA_nil, val_val, putT_some, putT_none, addFl, cellsOf, pickC, alive, slLen, slFt, binI, maxA, maxK, minA, minK, aeqK, aeqS, AV.cells, slCells_sl, boatE, spanE, lookE, fillA, setAt, bitsI, nat_nn, AV.plain, apart, Nat.testBit_eq_decide_div_mod_eq, *]) <;> exact rfl)); simp only [addFl]) | ((first | with_reducible refine does_seq ?_ | with_reducible refine does_ops ?_ | with_reducible refine does_draw ?_ | with_reducible refine does_skip ?_ | with_reducible refine does_block ?_ | with_reducible refine does_ret ?_ | with_reducible refine does_exit ?_ | with_reducible refine ops_nil ?_ | (with_reducible apply does_true; (focus (simp [val_tmA_cons, *]; done))) | (with_reducible apply does_false; (focus (simp [val_tmA_cons, *]; done)))); try simp only [Then, Ops, OutB, reduceIte])))
      exact ⟨by first | trivial | rfl, by first | trivial | rfl, by first | trivial | rfl, .inl ⟨by decide, by simp only [tmA_getD_cons]; simp, by simp only [tmA_getD_cons]; simp⟩⟩
    | true =>
      have V := Cut.valid_of hv
      have hm1 : 1 ≤ m := V.m1
      obtain ⟨mn, rfl⟩ := Int.eq_ofNat_of_zero_le (show 0 ≤ m by omega)
      have hev : Cut.every ⟨(a, b), (k, l), r, (mn : Int), bs, ls⟩ = 2 ^ ls.length - 1 := rfl
      have k5 : ls.length ≤ 5 := V.k5
      have hp : (2 : Nat) ^ ls.length ≤ 2 ^ 5 := Nat.pow_le_pow_right (by decide) k5
      have h1 := fun H => hE H a b k l mn r bs ls k5
      rw [← hev] at h1
      obtain ⟨K, v, lw, h2, h3, h4⟩ := hWy (H ++ [.cells [.int .i64 a, .int .i64 b, .int .i64 k, .int .i64 l, .vs 2 (r.map spanE), .int .i64 mn, .vs 4 (bs.map boatE), .vs 3 (ls.map lookE)]]) a b k l mn r bs ls V (Cut.every ⟨(a, b), (k, l), r, mn, bs, ls⟩) (by omega)
      have hcan : lw = [] ↔ Cut.can ⟨(a, b), (k, l), r, mn, bs, ls⟩ (Cut.every ⟨(a, b), (k, l), r, mn, bs, ls⟩) = false := by
        rw [← waysL_can V (mn := mn) rfl]
        show lw = [] ↔ waysL _ _ mn (l - k + 1).toNat = []
        rw [← h3]; simp
      have htk := fun hc => toldErr_ok hv hc
      have htc := fun hc => toldErr_clash hv hc
      have hlen : (H ++ [AB.cells [.int .i64 a, .int .i64 b, .int .i64 k, .int .i64 l, .vs 2 (r.map spanE), .int .i64 mn, .vs 4 (bs.map boatE), .vs 3 (ls.map lookE)]]).length + 1 = H.length + 2 := by simp
      rw [hlen] at h4
      have hG : H ++ [AB.cells [.int .i64 a, .int .i64 b, .int .i64 k, .int .i64 l, .vs 2 (r.map spanE), .int .i64 mn, .vs 4 (bs.map boatE), .vs 3 (ls.map lookE)]] ++ K = H ++ (AB.cells [.int .i64 a, .int .i64 b, .int .i64 k, .int .i64 l, .vs 2 (r.map spanE), .int .i64 mn, .vs 4 (bs.map boatE), .vs 3 (ls.map lookE)] :: K) := by simp
      rw [hG] at h2 h4
      generalize Cut.every ⟨(a, b), (k, l), r, (mn : Int), bs, ls⟩ = s at *
      generalize (⟨(a, b), (k, l), r, (mn : Int), bs, ls⟩ : CutD) = c at *
      generalize hTT : (AB.cells [.int .i64 a, .int .i64 b, .int .i64 k, .int .i64 l, .vs 2 (r.map spanE), .int .i64 (mn : Int), .vs 4 (bs.map boatE), .vs 3 (ls.map lookE)] :: K) = TT at h2 h4
      rcases h4.head with ⟨g1, g2⟩ | ⟨g1, w, g2, g3, g4⟩
      · have hcf := hcan.1 g1
        have ht := htc hcf
        rw [ht]
        subst g2
        clear V hm1 hE hWy h3 h4 hcan htk htc hlen hG hp hev k5 hTT hv hv' hcf ht g1
        unfold af48
        simp only [zipI]
        (repeat (first | (with_reducible apply ops_cons; (focus ((conv => lhs; simp [ev1, wantG, spineK, spine, float, xnew, xval, xeff, val_tmA_cons, val_tmA_nil, val_val, putT_some, putT_none, addFl, cellsOf, pickC, alive, slLen, slFt, binI, maxA, maxK, minA, minK, aeqK, aeqS, AV.cells, slCells_sl, boatE, spanE, lookE, fillA, setAt, bitsI, nat_nn, AV.plain, apart, Nat.testBit_eq_decide_div_mod_eq, *]) <;> exact rfl)); simp only [addFl]) | ((first | with_reducible refine does_seq ?_ | with_reducible refine does_ops ?_ | with_reducible refine does_draw ?_ | with_reducible refine does_skip ?_ | with_reducible refine does_block ?_ | with_reducible refine does_ret ?_ | with_reducible refine does_exit ?_ | with_reducible refine ops_nil ?_ | (with_reducible apply does_true; (focus (simp [val_tmA_cons, *]; done))) | (with_reducible apply does_false; (focus (simp [val_tmA_cons, *]; done)))); try simp only [Then, Ops, OutB, reduceIte])))
        exact ⟨by first | trivial | rfl, by first | trivial | rfl, by first | trivial | rfl, .inl ⟨by decide, by simp only [tmA_getD_cons]; simp, by simp only [tmA_getD_cons]; simp⟩⟩
      · have hct : Cut.can c s = true := by
          cases hc : Cut.can c s with
          | true => rfl
          | false => exact absurd (hcan.2 hc) g1
        have ht := htk hct
        rw [ht]
        subst g2
        have hl0 : 0 < lw.length := List.length_pos_iff.2 g1
        generalize hG2 : H ++ TT = G2 at h2 g3 h4
        obtain ⟨nW, eW⟩ := List.getElem?_eq_some_iff.1 g3
        have HF := hideP (And.intro h3 (And.intro h4 (And.intro g1 hG2)))
        have hl1 : ¬ lw = [] := g1
        clear V hm1 hE hWy h3 h4 hcan htk htc hlen hG hp hev k5 hTT hv hv' hct ht g1 hG2
        unfold af48
        simp only [zipI]
        (repeat (first | (with_reducible apply ops_cons; (focus ((conv => lhs; simp [ev1, wantG, spineK, spine, float, xnew, xval, xeff, val_tmA_cons, val_tmA_nil, val_val, putT_some, putT_none, addFl, cellsOf, pickC, alive, slLen, slFt, binI, maxA, maxK, minA, minK, aeqK, aeqS, AV.cells, slCells_sl, boatE, spanE, lookE, fillA, setAt, bitsI, nat_nn, AV.plain, apart, Nat.testBit_eq_decide_div_mod_eq, *]) <;> exact rfl)); simp only [addFl]) | ((first | with_reducible refine does_seq ?_ | with_reducible refine does_ops ?_ | with_reducible refine does_draw ?_ | with_reducible refine does_skip ?_ | with_reducible refine does_block ?_ | with_reducible refine does_ret ?_ | with_reducible refine does_exit ?_ | with_reducible refine ops_nil ?_ | (with_reducible apply does_true; (focus (simp [val_tmA_cons, *]; done))) | (with_reducible apply does_false; (focus (simp [val_tmA_cons, *]; done)))); try simp only [Then, Ops, OutB, reduceIte])))
        obtain ⟨h3, h4, g1, hG2⟩ := HF.out
        exact ⟨by first | trivial | rfl, by first | trivial | rfl, by first | trivial | rfl, .inr ⟨by first | trivial | rfl, mn, rfl, lw, by simp only [tmA_getD_cons]; simp, g1, h3, by simp only [tmA_getD_cons]; simpa using h4, TT, hG2.symm⟩⟩
end R
end Ev
end Go.Proofs.YtlkhjnpflohfeaaDoor

/- The reference of chapter 06: all ways, or the error, and what they tell of a day, as calls. -/
namespace Go.Proofs.YtlkhjnpflohfeaaDoor
open Go
namespace Ev
namespace R
set_option maxRecDepth 100000
def ToldC (call : CallF) : Prop := ∀ (H : List AB) (a b k l m : Int) (r : List (Int × Int)) (bs : List Boat) (ls : List Look) (vb : Bool),
  (toldErr ⟨(a, b), (k, l), r, m, bs, ls⟩ vb ≠ 0 ∧ call (.fn (.func 48) [] []) [.agg [.int .i64 a, .int .i64 b, .int .i64 k, .int .i64 l, .vs 2 (r.map spanE), .int .i64 m, .vs 4 (bs.map boatE), .vs 3 (ls.map lookE)], .bool vb] H = some (.ret (.tup [.nils, .int .i64 (toldErr ⟨(a, b), (k, l), r, m, bs, ls⟩ vb)]), H, [])) ∨
  (toldErr ⟨(a, b), (k, l), r, m, bs, ls⟩ vb = 0 ∧ ∃ K w cnt cs, call (.fn (.func 48) [] []) [.agg [.int .i64 a, .int .i64 b, .int .i64 k, .int .i64 l, .vs 2 (r.map spanE), .int .i64 m, .vs 4 (bs.map boatE), .vs 3 (ls.map lookE)], .bool vb] H = some (.ret (.tup [.sl w 0 (cnt + 1) 2, .int .i64 0]), H ++ K, []) ∧
    (H ++ K)[w]? = some (.cells cs) ∧ cs[0]? = some (.int .i64 (Cut.leakSpan ⟨(a, b), (k, l), r, m, bs, ls⟩).1) ∧ cs[cnt * 2]? = some (.int .i64 (Cut.leakSpan ⟨(a, b), (k, l), r, m, bs, ls⟩).2) ∧ cnt ≤ 20 ∧
    ∀ K' (d : Nat), d ≤ r.length → call (.fn (.func 50) [] []) [.agg [.int .i64 a, .int .i64 b, .int .i64 k, .int .i64 l, .vs 2 (r.map spanE), .int .i64 m, .vs 4 (bs.map boatE), .vs 3 (ls.map lookE)], .sl w 0 (cnt + 1) 2, .int .i64 d] (H ++ K ++ K') =
      some (.ret (.agg [.int .i64 (Cut.water ⟨(a, b), (k, l), r, m, bs, ls⟩ d).1, .int .i64 (Cut.water ⟨(a, b), (k, l), r, m, bs, ls⟩ d).2]), H ++ K ++ K', []))
theorem told_call {C : Cfg} {n : Nat} (hc : C.calm = true) (h : Has C 48 af48) (hw : Has C 50 af50) (hV : ∀ (H : List AB) (a b k l m : Int) (r : List (Int × Int)) (bs : List Boat) (ls : List Look), Ev.call C n (.fn (.func 35) [] []) [.agg [.int .i64 a, .int .i64 b, .int .i64 k, .int .i64 l, .vs 2 (r.map spanE), .int .i64 m, .vs 4 (bs.map boatE), .vs 3 (ls.map lookE)]] H = some (.ret (.bool (Cut.valid ⟨(a, b), (k, l), r, m, bs, ls⟩)), H, []))
    (hE : EveryC (Ev.call C n)) (hWy : WaysC (Ev.call C n)) : ToldC (Ev.call C (n + 1)) := by
  intro H a b k l m r bs ls vb
  have := call_fn (n := n) (first := []) (captured := []) (args := [.agg [.int .i64 a, .int .i64 b, .int .i64 k, .int .i64 l, .vs 2 (r.map spanE), .int .i64 m, .vs 4 (bs.map boatE), .vs 3 (ls.map lookE)], .bool vb]) (H := H)
    (R := fun x H' tc => tc = [] ∧ ((toldErr ⟨(a, b), (k, l), r, m, bs, ls⟩ vb ≠ 0 ∧ x = .ret (.tup [.nils, .int .i64 (toldErr ⟨(a, b), (k, l), r, m, bs, ls⟩ vb)]) ∧ H' = H) ∨
      (toldErr ⟨(a, b), (k, l), r, m, bs, ls⟩ vb = 0 ∧ ∃ mn : Nat, m = mn ∧ ∃ lw v K, x = .ret (.tup [v, .int .i64 0]) ∧ H' = H ++ K ∧ lw ≠ [] ∧ lw.map (·.1) = waysL ⟨(a, b), (k, l), r, m, bs, ls⟩ (Cut.every ⟨(a, b), (k, l), r, m, bs, ls⟩) mn (l - k + 1).toNat ∧ WaysAt (H ++ K) v ⟨(a, b), (k, l), r, m, bs, ls⟩ (Cut.every ⟨(a, b), (k, l), r, m, bs, ls⟩) mn (H.length + 2) lw)))
    hc h.ext h.exth h.fns h.whole (show (2 : Nat) ≤ 20 by omega) (by
    refine (told_fun C (Ev.call C n) a b k l m r bs ls (fun H => hV H a b k l m r bs ls) hE hWy vb H).mono fun e st ⟨h1, h2, h3, h4⟩ => ?_
    subst h1
    have e1 : ∀ p, runDefs C p st.df none st = some (none, st) := fun p => by rw [h2]; rfl
    have e0 : finish C H.length af48 .ret st = some (.ret (.tup [st.tm.getD 4 .unk, st.tm.getD 5 .unk]), st) := by
      show (match runDefs C H.length st.df none st with
        | some (none, st) => (resL st [.tmp 4, .tmp 5]).map fun vs => (CRes.ret (resV vs), st)
        | _ => none) = _
      rw [e1]; rfl
    refine ⟨_, st, e0, ?_⟩
    unfold Left
    rw [h3]
    rcases h4 with ⟨g1, g2, g3⟩ | ⟨g1, mn, hm, lw, g2, g3, g4, g5, T, g6⟩
    · rw [g2, g3, if_pos (by unfold bareQ; simp [CRes.val, refs, refsL])]
      exact ⟨rfl, .inl ⟨g1, rfl, rfl⟩⟩
    · obtain ⟨w, hw1, -, -⟩ : ∃ w, st.tm.getD 4 .unk = .sl w 0 lw.length 2 ∧ st.hp[w]? = some (.cells (waysCs lw)) ∧ H.length + 2 ≤ w := by
        rcases g5.head with h | h
        · exact absurd h.1 g3
        · exact h.2
      rw [if_neg (by rw [hw1]; unfold bareQ; simp [CRes.val, refs, refsL])]
      have e2 : overH H st.hp [] ++ st.hp.drop H.length = H ++ T := by rw [g6]; simp [overH]
      rw [e2, g2]
      exact ⟨rfl, .inr ⟨g1, mn, hm, lw, _, T, rfl, rfl, g3, g4, by rw [← g6]; exact g5⟩⟩)
  obtain ⟨x, H', tc, h1, rfl, h2⟩ := this
  rcases h2 with ⟨h2, rfl, rfl⟩ | ⟨h2, mn, rfl, lw, v, K, rfl, rfl, g3, g4, g5⟩
  · exact .inl ⟨h2, h1⟩
  · refine .inr ⟨h2, ?_⟩
    have hv : Cut.valid ⟨(a, b), (k, l), r, (mn : Int), bs, ls⟩ = true := by
      cases hv : Cut.valid ⟨(a, b), (k, l), r, (mn : Int), bs, ls⟩ with
      | true => rfl
      | false => rw [toldErr_bad hv] at h2; cases h2
    have V := Cut.valid_of hv
    have hcan : Cut.can ⟨(a, b), (k, l), r, (mn : Int), bs, ls⟩ (Cut.every ⟨(a, b), (k, l), r, (mn : Int), bs, ls⟩) = true := by
      cases hc' : Cut.can ⟨(a, b), (k, l), r, (mn : Int), bs, ls⟩ (Cut.every ⟨(a, b), (k, l), r, (mn : Int), bs, ls⟩) with
      | true => rfl
      | false =>
        have := (waysL_can V (mn := mn) rfl).2 hc'
        have e : lw.map (·.1) = [] := g4.trans this
        exact absurd (List.map_eq_nil_iff.1 e) g3
    obtain ⟨w, hw1, hw2, -⟩ : ∃ w, v = .sl w 0 lw.length 2 ∧ (H ++ K)[w]? = some (.cells (waysCs lw)) ∧ H.length + 2 ≤ w := by
      rcases g5.head with h | h
      · exact absurd h.1 g3
      · exact h.2
    obtain ⟨p0, lw0, hlw⟩ := List.exists_cons_of_ne_nil g3
    have hlen : lw.length = lw0.length + 1 := by rw [hlw]; rfl
    have hl0 : 0 < lw.length := by omega
    have he := ends_leak V rfl hcan g4 hl0
    have hcnt : lw.length ≤ 11 := by
      have e1 : lw.length = (waysL ⟨(a, b), (k, l), r, (mn : Int), bs, ls⟩ (Cut.every ⟨(a, b), (k, l), r, (mn : Int), bs, ls⟩) mn (l - k + 1).toNat).length := by rw [← g4, List.length_map]
      have e2 : ∀ x s mn j, (waysL x s mn j).length ≤ j := by
        intro x s mn j
        induction j with
        | zero => simp [waysL]
        | succ j ih => unfold waysL; rw [List.length_append]; split <;> simp <;> omega
      have := e2 ⟨(a, b), (k, l), r, (mn : Int), bs, ls⟩ (Cut.every ⟨(a, b), (k, l), r, (mn : Int), bs, ls⟩) mn (l - k + 1).toNat
      have h0 : 0 ≤ k := V.l0
      have h2 : l ≤ 10 := V.l2
      omega
    have hm100 : (mn : Int) ≤ 100 := V.m100
    refine ⟨K, w, lw0.length, waysCs lw, by rw [h1, hw1, hlen], hw2, ?_, ?_, by omega, fun K' d hd => ?_⟩
    · rw [← he.1]
      have := (waysCs_at lw 0 hl0).1
      exact this
    · rw [← he.2]
      have := (waysCs_at lw (lw.length - 1) (by omega)).1
      rw [show lw0.length = lw.length - 1 by omega]
      exact this
    · have hW' : WaysAt (H ++ K ++ K') v ⟨(a, b), (k, l), r, (mn : Int), bs, ls⟩ (Cut.every ⟨(a, b), (k, l), r, (mn : Int), bs, ls⟩) mn (H.length + 2) lw := ⟨by
        rcases g5.head with h | ⟨h0, w, h1, h2, h3⟩
        · exact .inl h
        · exact .inr ⟨h0, w, h1, get_app' h2, h3⟩, fun p hp => (g5.tabs p hp).app K'⟩
      have := call_fn (n := n) (first := []) (captured := []) (args := [.agg [.int .i64 a, .int .i64 b, .int .i64 k, .int .i64 l, .vs 2 (r.map spanE), .int .i64 (mn : Int), .vs 4 (bs.map boatE), .vs 3 (ls.map lookE)], v, .int .i64 d]) (H := H ++ K ++ K')
        (R := fun x H' tc => x = .ret (.agg [.int .i64 (Cut.water ⟨(a, b), (k, l), r, (mn : Int), bs, ls⟩ d).1, .int .i64 (Cut.water ⟨(a, b), (k, l), r, (mn : Int), bs, ls⟩ d).2]) ∧ H' = H ++ K ++ K' ∧ tc = [])
        hc hw.ext hw.exth hw.fns hw.whole (show (3 : Nat) ≤ 46 by omega) (by
        refine (water_fun C hc (Ev.call C n) a b k l mn (by omega) r bs ls (H ++ K ++ K') v ⟨(a, b), (k, l), r, (mn : Int), bs, ls⟩ rfl (Cut.every ⟨(a, b), (k, l), r, (mn : Int), bs, ls⟩) (H.length + 2) d hd lw hW' g3 (by omega)).mono fun e st ⟨h1, h2, h3, lo, hi, B6, h4, h5, h6⟩ => ?_
        subst h1
        obtain ⟨rfl, rfl⟩ := seen_water V rfl hcan hd g4 h6
        have e1 : ∀ p, runDefs C p st.df none st = some (none, st) := fun p => by rw [h2]; rfl
        refine ⟨.ret (.agg [.int .i64 (Cut.water ⟨(a, b), (k, l), r, (mn : Int), bs, ls⟩ d).1, .int .i64 (Cut.water ⟨(a, b), (k, l), r, (mn : Int), bs, ls⟩ d).2]), st, ?_, ?_⟩
        · show (match runDefs C (H ++ K ++ K').length st.df none st with
            | some (none, st) => (resL st [.cell 6 (some 2)]).map fun vs => (CRes.ret (resV vs), st)
            | _ => none) = _
          rw [e1]
          show (resL st [.cell 6 (some 2)]).map (fun vs => (CRes.ret (resV vs), st)) = _
          simp only [resL, resOf, h4, h5]; rfl
        · unfold Left
          rw [h3, if_pos (by unfold bareQ; simp [CRes.val, refs, refsL])]
          exact ⟨rfl, rfl, rfl⟩)
      obtain ⟨x, H', tc, k1, rfl, rfl, rfl⟩ := this
      rw [← hlen, ← hw1]
      exact k1
end R
end Ev
end Go.Proofs.YtlkhjnpflohfeaaDoor

/- The reference of chapter 06, gone through: is a number that of a day, a boat, loads of a boat; how a boat floats, and with how many loads. -/
namespace Go.Proofs.YtlkhjnpflohfeaaDoor
open Go
namespace Ev
namespace R
set_option maxRecDepth 100000
def DayC (call : CallF) : Prop := ∀ (H : List AB) (a b k l m : Int) (r : List (Int × Int)) (bs : List Boat) (ls : List Look) (d : Int),
  call (.fn (.func 49) [] []) [.agg [.int .i64 a, .int .i64 b, .int .i64 k, .int .i64 l, .vs 2 (r.map spanE), .int .i64 m, .vs 4 (bs.map boatE), .vs 3 (ls.map lookE)], .int .i64 d] H = some (.ret (.bool (Cut.isDay ⟨(a, b), (k, l), r, m, bs, ls⟩ d)), H, [])
def BoatC (call : CallF) : Prop := ∀ (H : List AB) (a b k l m : Int) (r : List (Int × Int)) (bs : List Boat) (ls : List Look) (d : Int), bs.length ≤ 40 →
  call (.fn (.func 65) [] []) [.agg [.int .i64 a, .int .i64 b, .int .i64 k, .int .i64 l, .vs 2 (r.map spanE), .int .i64 m, .vs 4 (bs.map boatE), .vs 3 (ls.map lookE)], .int .i64 d] H = some (.ret (.bool (Cut.isBoat ⟨(a, b), (k, l), r, m, bs, ls⟩ d)), H, [])
def LoadsC (call : CallF) : Prop := ∀ (H : List AB) (a b k l m : Int) (r : List (Int × Int)) (bs : List Boat) (ls : List Look) (d n : Int), bs.length ≤ 40 →
  call (.fn (.func 60) [] []) [.agg [.int .i64 a, .int .i64 b, .int .i64 k, .int .i64 l, .vs 2 (r.map spanE), .int .i64 m, .vs 4 (bs.map boatE), .vs 3 (ls.map lookE)], .int .i64 d, .int .i64 n] H = some (.ret (.bool (Cut.isLoads ⟨(a, b), (k, l), r, m, bs, ls⟩ d n)), H, [])
/-- A boat that is valid. -/
def BoatOk (b : Boat) : Prop := 0 ≤ b.draws.1 ∧ b.draws.1 ≤ b.draws.2 ∧ b.draws.2 ≤ 100 ∧ 0 ≤ b.per ∧ b.per ≤ 10 ∧ 0 ≤ b.room ∧ b.room ≤ 10
def FloatsC (call : CallF) : Prop := ∀ (H : List AB) (b : Boat), BoatOk b → ∀ (n lo hi : Int), 0 ≤ n → n ≤ 10 →
  call (.fn (.func 61) [] []) [.agg [.int .i64 b.draws.1, .int .i64 b.draws.2, .int .i64 b.per, .int .i64 b.room], .int .i64 n, .agg [.int .i64 lo, .int .i64 hi]] H = some (.ret (.int .i64 (Cut.floats b n (lo, hi))), H, [])
def MostC (call : CallF) : Prop := ∀ (H : List AB) (b : Boat), BoatOk b → ∀ (lo hi sure : Int), lo ≤ hi →
  call (.fn (.func 66) [] []) [.agg [.int .i64 b.draws.1, .int .i64 b.draws.2, .int .i64 b.per, .int .i64 b.room], .agg [.int .i64 lo, .int .i64 hi], .int .i64 sure] H = some (.ret (.int .i64 ((Cut.lead (fun i => decide (sure ≤ Cut.floats b i (lo, hi))) (b.room.toNat + 1) : Nat) - 1)), H, [])
theorem day_fun (C : Cfg) (call : CallF) (hI : InC call) (H : List AB) (a b k l m : Int) (r : List (Int × Int)) (bs : List Boat) (ls : List Look) (d : Int) :
    Does (ev C call H.length none af49.body { tm := tmA 10 (zipI 0 [.agg [.int .i64 a, .int .i64 b, .int .i64 k, .int .i64 l, .vs 2 (r.map spanE), .int .i64 m, .vs 4 (bs.map boatE), .vs 3 (ls.map lookE)], .int .i64 d] []), df := [], hp := H, tc := [] }) (Gives 4 (.bool (Cut.isDay ⟨(a, b), (k, l), r, m, bs, ls⟩ d))) := by
  unfold InC at hI
  unfold af49
  simp only [zipI]
  (repeat (first | (with_reducible apply ops_cons; (focus ((conv => lhs; simp [ev1, wantG, spineK, spine, float, xnew, xval, xeff, val_tmA_cons, val_tmA_nil, val_val, putT_some, putT_none, addFl, cellsOf, pickC, alive, slLen, slFt, binI, maxA, maxK, minA, minK, aeqK, aeqS, AV.cells, slCells_sl, boatE, spanE, lookE, fillA, setAt, bitsI, nat_nn, AV.plain, apart, Nat.testBit_eq_decide_div_mod_eq, *]) <;> exact rfl)); simp only [addFl]) | ((first | with_reducible refine does_seq ?_ | with_reducible refine does_ops ?_ | with_reducible refine does_draw ?_ | with_reducible refine does_skip ?_ | with_reducible refine does_block ?_ | with_reducible refine does_ret ?_ | with_reducible refine does_exit ?_ | with_reducible refine ops_nil ?_ | (with_reducible apply does_true; (focus (simp [val_tmA_cons, *]; done))) | (with_reducible apply does_false; (focus (simp [val_tmA_cons, *]; done)))); try simp only [Then, Ops, OutB, reduceIte])))
  exact ⟨by first | trivial | rfl, by first | trivial | rfl, by first | trivial | rfl, by simp only [tmA_getD_cons]; simp [Cut.isDay]⟩
theorem boat_fun (C : Cfg) (call : CallF) (hI : InC call) (H : List AB) (a b k l m : Int) (r : List (Int × Int)) (bs : List Boat) (ls : List Look) (d : Int) (hb : bs.length ≤ 40) :
    Does (ev C call H.length none af65.body { tm := tmA 11 (zipI 0 [.agg [.int .i64 a, .int .i64 b, .int .i64 k, .int .i64 l, .vs 2 (r.map spanE), .int .i64 m, .vs 4 (bs.map boatE), .vs 3 (ls.map lookE)], .int .i64 d] []), df := [], hp := H, tc := [] }) (Gives 4 (.bool (Cut.isBoat ⟨(a, b), (k, l), r, m, bs, ls⟩ d))) := by
  unfold InC at hI
  have hw : IntKind.i64.wrap ((bs.length : Int) - 1) = (bs.length : Int) - 1 := wrap_in (by omega) (by omega)
  clear hb
  unfold af65
  simp only [zipI]
  (repeat (first | (with_reducible apply ops_cons; (focus ((conv => lhs; simp [ev1, wantG, spineK, spine, float, xnew, xval, xeff, val_tmA_cons, val_tmA_nil, val_val, putT_some, putT_none, addFl, cellsOf, pickC, alive, slLen, slFt, binI, maxA, maxK, minA, minK, aeqK, aeqS, AV.cells, slCells_sl, boatE, spanE, lookE, fillA, setAt, bitsI, nat_nn, AV.plain, apart, Nat.testBit_eq_decide_div_mod_eq, *]) <;> exact rfl)); simp only [addFl]) | ((first | with_reducible refine does_seq ?_ | with_reducible refine does_ops ?_ | with_reducible refine does_draw ?_ | with_reducible refine does_skip ?_ | with_reducible refine does_block ?_ | with_reducible refine does_ret ?_ | with_reducible refine does_exit ?_ | with_reducible refine ops_nil ?_ | (with_reducible apply does_true; (focus (simp [val_tmA_cons, *]; done))) | (with_reducible apply does_false; (focus (simp [val_tmA_cons, *]; done)))); try simp only [Then, Ops, OutB, reduceIte])))
  exact ⟨by first | trivial | rfl, by first | trivial | rfl, by first | trivial | rfl, by simp only [tmA_getD_cons]; simp [Cut.isBoat]⟩
theorem loads_fun (C : Cfg) (call : CallF) (hI : InC call) (hB : BoatC call) (H : List AB) (a b k l m : Int) (r : List (Int × Int)) (bs : List Boat) (ls : List Look) (d n : Int) (hb : bs.length ≤ 40) :
    Does (ev C call H.length none af60.body { tm := tmA 20 (zipI 0 [.agg [.int .i64 a, .int .i64 b, .int .i64 k, .int .i64 l, .vs 2 (r.map spanE), .int .i64 m, .vs 4 (bs.map boatE), .vs 3 (ls.map lookE)], .int .i64 d, .int .i64 n] []), df := [], hp := H, tc := [] }) (Gives 6 (.bool (Cut.isLoads ⟨(a, b), (k, l), r, m, bs, ls⟩ d n))) := by
  unfold InC at hI
  have h1 := fun H => hB H a b k l m r bs ls d hb
  have hld : Cut.isLoads ⟨(a, b), (k, l), r, m, bs, ls⟩ d n = (Cut.isBoat ⟨(a, b), (k, l), r, m, bs, ls⟩ d && Cut.within n 0 (Cut.boatAt bs d.toNat).room) := rfl
  cases hib : Cut.isBoat ⟨(a, b), (k, l), r, m, bs, ls⟩ d with
  | false =>
    rw [hld, hib]
    rw [hib] at h1
    clear hB hld hib hb
    unfold af60
    simp only [zipI]
    (repeat (first | (with_reducible apply ops_cons; (focus ((conv => lhs; simp [ev1, wantG, spineK, spine, float, xnew, xval, xeff, val_tmA_cons, val_tmA_nil, val_val, putT_some, putT_none, addFl, cellsOf, pickC, alive, slLen, slFt, binI, maxA, maxK, minA, minK, aeqK, aeqS, AV.cells, slCells_sl, boatE, spanE, lookE, fillA, setAt, bitsI, nat_nn, AV.plain, apart, Nat.testBit_eq_decide_div_mod_eq, *]) <;> exact rfl)); simp only [addFl]) | ((first | with_reducible refine does_seq ?_ | with_reducible refine does_ops ?_ | with_reducible refine does_draw ?_ | with_reducible refine does_skip ?_ | with_reducible refine does_block ?_ | with_reducible refine does_ret ?_ | with_reducible refine does_exit ?_ | with_reducible refine ops_nil ?_ | (with_reducible apply does_true; (focus (simp [val_tmA_cons, *]; done))) | (with_reducible apply does_false; (focus (simp [val_tmA_cons, *]; done)))); try simp only [Then, Ops, OutB, reduceIte])))
    exact ⟨by first | trivial | rfl, by first | trivial | rfl, by first | trivial | rfl, by simp only [tmA_getD_cons]; simp⟩
  | true =>
    have hd : 0 ≤ d ∧ d < bs.length := by
      have : Cut.within d 0 ((bs.length : Int) - 1) = true := hib
      simp [Cut.within] at this; omega
    obtain ⟨dn, rfl⟩ := Int.eq_ofNat_of_zero_le hd.1
    have hdn : dn < bs.length := by omega
    have e : Cut.boatAt bs dn = bs[dn] := by simp [Cut.boatAt, hdn]
    rw [hld, hib, Int.toNat_natCast, e]
    rw [hib] at h1
    clear hB hld hib hb hd e
    unfold af60
    simp only [zipI]
    (repeat (first | (with_reducible apply ops_cons; (focus ((conv => lhs; simp [ev1, wantG, spineK, spine, float, xnew, xval, xeff, val_tmA_cons, val_tmA_nil, val_val, putT_some, putT_none, addFl, cellsOf, pickC, alive, slLen, slFt, binI, maxA, maxK, minA, minK, aeqK, aeqS, AV.cells, slCells_sl, boatE, spanE, lookE, fillA, setAt, bitsI, nat_nn, AV.plain, apart, Nat.testBit_eq_decide_div_mod_eq, *]) <;> exact rfl)); simp only [addFl]) | ((first | with_reducible refine does_seq ?_ | with_reducible refine does_ops ?_ | with_reducible refine does_draw ?_ | with_reducible refine does_skip ?_ | with_reducible refine does_block ?_ | with_reducible refine does_ret ?_ | with_reducible refine does_exit ?_ | with_reducible refine ops_nil ?_ | (with_reducible apply does_true; (focus (simp [val_tmA_cons, *]; done))) | (with_reducible apply does_false; (focus (simp [val_tmA_cons, *]; done)))); try simp only [Then, Ops, OutB, reduceIte])))
    exact ⟨by first | trivial | rfl, by first | trivial | rfl, by first | trivial | rfl, by simp only [tmA_getD_cons]; simp⟩
theorem floats_fun (C : Cfg) (call : CallF) (H : List AB) (b : Boat) (hb : BoatOk b) (n lo hi : Int) (n0 : 0 ≤ n) (n1 : n ≤ 10) :
    Does (ev C call H.length none af61.body { tm := tmA 29 (zipI 0 [.agg [.int .i64 b.draws.1, .int .i64 b.draws.2, .int .i64 b.per, .int .i64 b.room], .int .i64 n, .agg [.int .i64 lo, .int .i64 hi]] []), df := [], hp := H, tc := [] }) (Gives 6 (.int .i64 (Cut.floats b n (lo, hi)))) := by
  obtain ⟨b1, b2, b3, b4, b5, b6, b7⟩ := hb
  have hp : 0 ≤ b.per * n ∧ b.per * n ≤ 100 := by
    refine ⟨Int.mul_nonneg b4 n0, ?_⟩
    have := Int.mul_le_mul b5 n1 n0 (show (0 : Int) ≤ 10 by decide)
    omega
  have w1 : IntKind.i64.wrap (b.per * n) = b.per * n := wrap_in (by omega) (by omega)
  have w2 : IntKind.i64.wrap (b.draws.2 + b.per * n) = b.draws.2 + b.per * n := wrap_in (by omega) (by omega)
  have w3 : IntKind.i64.wrap (b.draws.1 + b.per * n) = b.draws.1 + b.per * n := wrap_in (by omega) (by omega)
  unfold Cut.floats
  simp only
  clear b1 b2 b3 b4 b5 b6 b7 hp n0 n1
  by_cases h1 : b.draws.2 + b.per * n ≤ lo
  · rw [if_pos h1]
    unfold af61
    simp only [zipI]
    (repeat (first | (with_reducible apply ops_cons; (focus ((conv => lhs; simp [ev1, wantG, spineK, spine, float, xnew, xval, xeff, val_tmA_cons, val_tmA_nil, val_val, putT_some, putT_none, addFl, cellsOf, pickC, alive, slLen, slFt, binI, maxA, maxK, minA, minK, aeqK, aeqS, AV.cells, slCells_sl, boatE, spanE, lookE, fillA, setAt, bitsI, nat_nn, AV.plain, apart, Nat.testBit_eq_decide_div_mod_eq, *]) <;> exact rfl)); simp only [addFl]) | ((first | with_reducible refine does_seq ?_ | with_reducible refine does_ops ?_ | with_reducible refine does_draw ?_ | with_reducible refine does_skip ?_ | with_reducible refine does_block ?_ | with_reducible refine does_ret ?_ | with_reducible refine does_exit ?_ | with_reducible refine ops_nil ?_ | (with_reducible apply does_true; (focus (simp [val_tmA_cons, *]; done))) | (with_reducible apply does_false; (focus (simp [val_tmA_cons, *]; done)))); try simp only [Then, Ops, OutB, reduceIte])))
    exact ⟨by first | trivial | rfl, by first | trivial | rfl, by first | trivial | rfl, by simp only [tmA_getD_cons]; simp⟩
  · rw [if_neg h1]
    by_cases h2 : b.draws.1 + b.per * n ≤ hi
    · rw [if_pos h2]
      have h3 : ¬ (hi < b.draws.1 + b.per * n) := by omega
      unfold af61
      simp only [zipI]
      (repeat (first | (with_reducible apply ops_cons; (focus ((conv => lhs; simp [ev1, wantG, spineK, spine, float, xnew, xval, xeff, val_tmA_cons, val_tmA_nil, val_val, putT_some, putT_none, addFl, cellsOf, pickC, alive, slLen, slFt, binI, maxA, maxK, minA, minK, aeqK, aeqS, AV.cells, slCells_sl, boatE, spanE, lookE, fillA, setAt, bitsI, nat_nn, AV.plain, apart, Nat.testBit_eq_decide_div_mod_eq, *]) <;> exact rfl)); simp only [addFl]) | ((first | with_reducible refine does_seq ?_ | with_reducible refine does_ops ?_ | with_reducible refine does_draw ?_ | with_reducible refine does_skip ?_ | with_reducible refine does_block ?_ | with_reducible refine does_ret ?_ | with_reducible refine does_exit ?_ | with_reducible refine ops_nil ?_ | (with_reducible apply does_true; (focus (simp [val_tmA_cons, *]; done))) | (with_reducible apply does_false; (focus (simp [val_tmA_cons, *]; done)))); try simp only [Then, Ops, OutB, reduceIte])))
      exact ⟨by first | trivial | rfl, by first | trivial | rfl, by first | trivial | rfl, by simp only [tmA_getD_cons]; simp⟩
    · rw [if_neg h2]
      have h3 : hi < b.draws.1 + b.per * n := by omega
      clear h2
      unfold af61
      simp only [zipI]
      (repeat (first | (with_reducible apply ops_cons; (focus ((conv => lhs; simp [ev1, wantG, spineK, spine, float, xnew, xval, xeff, val_tmA_cons, val_tmA_nil, val_val, putT_some, putT_none, addFl, cellsOf, pickC, alive, slLen, slFt, binI, maxA, maxK, minA, minK, aeqK, aeqS, AV.cells, slCells_sl, boatE, spanE, lookE, fillA, setAt, bitsI, nat_nn, AV.plain, apart, Nat.testBit_eq_decide_div_mod_eq, *]) <;> exact rfl)); simp only [addFl]) | ((first | with_reducible refine does_seq ?_ | with_reducible refine does_ops ?_ | with_reducible refine does_draw ?_ | with_reducible refine does_skip ?_ | with_reducible refine does_block ?_ | with_reducible refine does_ret ?_ | with_reducible refine does_exit ?_ | with_reducible refine ops_nil ?_ | (with_reducible apply does_true; (focus (simp [val_tmA_cons, *]; done))) | (with_reducible apply does_false; (focus (simp [val_tmA_cons, *]; done)))); try simp only [Then, Ops, OutB, reduceIte])))
      exact ⟨by first | trivial | rfl, by first | trivial | rfl, by first | trivial | rfl, by simp only [tmA_getD_cons]; simp⟩
theorem floats_anti {b : Boat} (hb : BoatOk b) {n n' lo hi : Int} (hlh : lo ≤ hi) (h : n ≤ n') : Cut.floats b n' (lo, hi) ≤ Cut.floats b n (lo, hi) := by
  have : b.per * n ≤ b.per * n' := Int.mul_le_mul_of_nonneg_left h hb.2.2.2.1
  have := hb.2.1
  unfold Cut.floats
  simp only
  split <;> split <;> (try split) <;> (try split) <;> omega
theorem lead_next {p : Nat → Bool} (hp : ∀ i j, i ≤ j → p j = true → p i = true) (i : Nat) : Cut.lead p (i + 1) = if p i = true then i + 1 else Cut.lead p i := by
  by_cases h : p i = true
  · rw [if_pos h]
    exact Cut.lead_all p _ fun j hj => hp j i (by omega) h
  · rw [if_neg h]
    show (if Cut.lead p i = i ∧ p i = true then i + 1 else Cut.lead p i) = _
    rw [if_neg (fun hh => h hh.2)]
set_option maxHeartbeats 8000000 in
theorem most_fun (C : Cfg) (hC : C.calm = true) (call : CallF) (hF : FloatsC call) (H : List AB) (b : Boat) (hb : BoatOk b) (lo hi sure : Int) (hlh : lo ≤ hi) :
    Does (ev C call H.length none af66.body { tm := tmA 23 (zipI 0 [.agg [.int .i64 b.draws.1, .int .i64 b.draws.2, .int .i64 b.per, .int .i64 b.room], .agg [.int .i64 lo, .int .i64 hi], .int .i64 sure] []), df := [], hp := H, tc := [] }) (Gives 6 (.int .i64 ((Cut.lead (fun i => decide (sure ≤ Cut.floats b i (lo, hi))) (b.room.toNat + 1) : Nat) - 1))) := by
  have h1 := fun H (n : Nat) (hn : (n : Int) ≤ 10) => hF H b hb n lo hi (by omega) hn
  have hp : ∀ i j : Nat, i ≤ j → decide (sure ≤ Cut.floats b j (lo, hi)) = true → decide (sure ≤ Cut.floats b i (lo, hi)) = true := fun i j hij h => by
    have := floats_anti hb hlh (show (i : Int) ≤ j by omega)
    rw [decide_eq_true_eq] at h ⊢
    omega
  have hnx := lead_next (p := fun i : Nat => decide (sure ≤ Cut.floats b i (lo, hi))) hp
  have hz : Cut.lead (fun i : Nat => decide (sure ≤ Cut.floats b i (lo, hi))) 0 = 0 := rfl
  have r0 := hb.2.2.2.2.2.1
  have r1 := hb.2.2.2.2.2.2
  have HN := hideP hnx
  have HZ := hideP hz
  have H1 := hideP h1
  clear hF hb hlh hp hnx hz h1
  unfold af66
  simp only [zipI]
  (repeat (first | (with_reducible apply ops_cons; (focus ((conv => lhs; simp [ev1, wantG, spineK, spine, float, xnew, xval, xeff, val_tmA_cons, val_tmA_nil, val_val, putT_some, putT_none, addFl, cellsOf, pickC, alive, slLen, slFt, binI, maxA, maxK, minA, minK, aeqK, aeqS, AV.cells, slCells_sl, boatE, spanE, lookE, fillA, setAt, bitsI, nat_nn, AV.plain, apart, Nat.testBit_eq_decide_div_mod_eq, *]) <;> exact rfl)); simp only [addFl]) | ((first | with_reducible refine does_seq ?_ | with_reducible refine does_ops ?_ | with_reducible refine does_draw ?_ | with_reducible refine does_skip ?_ | with_reducible refine does_block ?_ | with_reducible refine does_ret ?_ | with_reducible refine does_exit ?_ | with_reducible refine ops_nil ?_ | (with_reducible apply does_true; (focus (simp [val_tmA_cons, *]; done))) | (with_reducible apply does_false; (focus (simp [val_tmA_cons, *]; done)))); try simp only [Then, Ops, OutB, reduceIte])))
  refine does_loop (fun q st => ∃ i : Nat, (i : Int) + q = b.room + 1 ∧ st = { tm := tmA 23 [(8, .int .i64 i), (7, .int .i64 ((Cut.lead (fun i => decide (sure ≤ Cut.floats b i (lo, hi))) i : Nat) - 1)), (4, .ptr (H.length + 1) 0), (3, .ptr H.length 0), (2, .int .i64 sure)], df := [], hp := H ++ [.cells [.int .i64 b.draws.1, .int .i64 b.draws.2, .int .i64 b.per, .int .i64 b.room], .cells [.int .i64 lo, .int .i64 hi]], tc := [] }) (b.room + 1).toNat (by unfold fuelL; omega) ?_ ?_
  · refine ⟨0, by omega, ?_⟩
    simp only [gcC_calm hC]
    rw [HZ.out]
    exact st_eq (by simp [keepT_tmA, lk_cons]) rfl rfl rfl
  · rintro q st ⟨i, hq, rfl⟩
    by_cases hi' : (i : Int) ≤ b.room
    · have hw : IntKind.i64.wrap ((i : Int) + 1) = (i : Int) + 1 := wrap_in (by omega) (by omega)
      have h1 := fun H => H1.out H i (by omega)
      have hn := HN.out i
      generalize Cut.floats b i (lo, hi) = f at *
      generalize Cut.lead (fun i => decide (sure ≤ Cut.floats b i (lo, hi))) i = li at *
      by_cases hs : sure ≤ f
      · rw [if_pos (decide_eq_true hs)] at hn
        have HQ := hideP (And.intro hq hn)
        clear hn hq r0 r1
        (repeat (first | (with_reducible apply ops_cons; (focus ((conv => lhs; simp [ev1, wantG, spineK, spine, float, xnew, xval, xeff, val_tmA_cons, val_tmA_nil, val_val, putT_some, putT_none, addFl, cellsOf, pickC, alive, slLen, slFt, binI, maxA, maxK, minA, minK, aeqK, aeqS, AV.cells, slCells_sl, boatE, spanE, lookE, fillA, setAt, bitsI, nat_nn, AV.plain, apart, Nat.testBit_eq_decide_div_mod_eq, *]) <;> exact rfl)); simp only [addFl]) | ((first | with_reducible refine does_seq ?_ | with_reducible refine does_ops ?_ | with_reducible refine does_draw ?_ | with_reducible refine does_skip ?_ | with_reducible refine does_block ?_ | with_reducible refine does_ret ?_ | with_reducible refine does_exit ?_ | with_reducible refine ops_nil ?_ | (with_reducible apply does_true; (focus (simp [val_tmA_cons, *]; done))) | (with_reducible apply does_false; (focus (simp [val_tmA_cons, *]; done)))); try simp only [Then, Ops, OutB, reduceIte])))
        obtain ⟨hq, hn⟩ := HQ.out
        refine ⟨q - 1, by omega, i + 1, by omega, ?_⟩
        simp only [gcC_calm hC]
        rw [hn]
        exact st_eq (by simp [keepT_tmA, lk_cons]) rfl rfl rfl
      · rw [if_neg (by simpa using hs)] at hn
        have HQ := hideP (And.intro hq hn)
        clear hn hq r0 r1
        (repeat (first | (with_reducible apply ops_cons; (focus ((conv => lhs; simp [ev1, wantG, spineK, spine, float, xnew, xval, xeff, val_tmA_cons, val_tmA_nil, val_val, putT_some, putT_none, addFl, cellsOf, pickC, alive, slLen, slFt, binI, maxA, maxK, minA, minK, aeqK, aeqS, AV.cells, slCells_sl, boatE, spanE, lookE, fillA, setAt, bitsI, nat_nn, AV.plain, apart, Nat.testBit_eq_decide_div_mod_eq, *]) <;> exact rfl)); simp only [addFl]) | ((first | with_reducible refine does_seq ?_ | with_reducible refine does_ops ?_ | with_reducible refine does_draw ?_ | with_reducible refine does_skip ?_ | with_reducible refine does_block ?_ | with_reducible refine does_ret ?_ | with_reducible refine does_exit ?_ | with_reducible refine ops_nil ?_ | (with_reducible apply does_true; (focus (simp [val_tmA_cons, *]; done))) | (with_reducible apply does_false; (focus (simp [val_tmA_cons, *]; done)))); try simp only [Then, Ops, OutB, reduceIte])))
        obtain ⟨hq, hn⟩ := HQ.out
        refine ⟨q - 1, by omega, i + 1, by omega, ?_⟩
        simp only [gcC_calm hC]
        rw [hn]
        exact st_eq (by simp [keepT_tmA, lk_cons]) rfl rfl rfl
    · have hir : b.room.toNat + 1 = i := by omega
      rw [hir]
      clear hq hir
      generalize Cut.lead (fun i => decide (sure ≤ Cut.floats b i (lo, hi))) i = li at *
      (repeat (first | (with_reducible apply ops_cons; (focus ((conv => lhs; simp [ev1, wantG, spineK, spine, float, xnew, xval, xeff, val_tmA_cons, val_tmA_nil, val_val, putT_some, putT_none, addFl, cellsOf, pickC, alive, slLen, slFt, binI, maxA, maxK, minA, minK, aeqK, aeqS, AV.cells, slCells_sl, boatE, spanE, lookE, fillA, setAt, bitsI, nat_nn, AV.plain, apart, Nat.testBit_eq_decide_div_mod_eq, *]) <;> exact rfl)); simp only [addFl]) | ((first | with_reducible refine does_seq ?_ | with_reducible refine does_ops ?_ | with_reducible refine does_draw ?_ | with_reducible refine does_skip ?_ | with_reducible refine does_block ?_ | with_reducible refine does_ret ?_ | with_reducible refine does_exit ?_ | with_reducible refine ops_nil ?_ | (with_reducible apply does_true; (focus (simp [val_tmA_cons, *]; done))) | (with_reducible apply does_false; (focus (simp [val_tmA_cons, *]; done)))); try simp only [Then, Ops, OutB, reduceIte])))
      exact ⟨by first | trivial | rfl, by first | trivial | rfl, by first | trivial | rfl, by simp only [tmA_getD_cons]; simp⟩
end R
end Ev
end Go.Proofs.YtlkhjnpflohfeaaDoor

/- The reference of chapter 06: how deep, and how much leaks away, as calls. -/
namespace Go.Proofs.YtlkhjnpflohfeaaDoor
open Go
namespace Ev
namespace R
set_option maxRecDepth 100000
/-- A function's end: it answers v, and turned nothing. -/
def Ends (fn : AFunc) (v : AV) (e : AExit) (st : St) : Prop := e = .ret ∧ st.df = [] ∧ st.tc = [] ∧ (resL st fn.res).map resV = some v
theorem bare_res {C : Cfg} {n f : Nat} {fn : AFunc} {args : List AV} {H : List AB} {v : AV} (hc : C.calm = true) (h : Has C f fn) (hlen : args.length ≤ fn.ntmps) (hv : refs v = [])
    (hd : Does (ev C (Ev.call C n) H.length none fn.body { tm := tmA fn.ntmps (zipI 0 args []), df := [], hp := H, tc := [] }) (Ends fn v)) : Ev.call C (n + 1) (.fn (.func f) [] []) args H = some (.ret v, H, []) := by
  have := call_fn (n := n) (first := []) (captured := []) (args := args) (H := H) (R := fun x H' tc => x = .ret v ∧ H' = H ∧ tc = []) hc h.ext h.exth h.fns h.whole (by simpa using hlen) (by
    rw [List.nil_append, List.append_nil]
    refine hd.mono fun e st ⟨h1, h2, h3, h4⟩ => ?_
    subst h1
    refine ⟨.ret v, st, ?_, ?_⟩
    · have e1 : runDefs C H.length st.df none st = some (none, st) := by rw [h2]; rfl
      show (match runDefs C H.length st.df none st with
        | some (none, st) => (resL st fn.res).map fun vs => (CRes.ret (resV vs), st)
        | _ => none) = _
      rw [e1]
      obtain ⟨vs, h5, h6⟩ := Option.map_eq_some_iff.1 h4
      show (resL st fn.res).map (fun vs => (CRes.ret (resV vs), st)) = _
      rw [h5, ← h6]; rfl
    · unfold Left
      rw [h3, if_pos (by unfold bareQ; simp [CRes.val, hv])]
      exact ⟨rfl, rfl, rfl⟩)
  obtain ⟨x, H', tc, h1, rfl, rfl, rfl⟩ := this
  exact h1
theorem day_nat {a b k l m : Int} {r : List (Int × Int)} {bs : List Boat} {ls : List Look} {d : Int} (h : Cut.isDay ⟨(a, b), (k, l), r, m, bs, ls⟩ d = true) : ∃ dn : Nat, d = dn ∧ dn ≤ r.length := by
  have : Cut.within d 0 (r.length : Int) = true := h
  simp [Cut.within] at this
  exact ⟨d.toNat, by omega, by omega⟩
theorem told_day {c : CutD} {vb : Bool} (h : toldErr c vb = 0) : vb = true := by
  cases vb with
  | true => rfl
  | false =>
    unfold toldErr at h
    split at h
    · cases h
    · simp at h
set_option maxHeartbeats 8000000 in
theorem depth_fun (C : Cfg) (call : CallF) (hT : ToldC call) (hDy : DayC call) (H : List AB) (a b k l m : Int) (r : List (Int × Int)) (bs : List Boat) (ls : List Look) (d : Int) :
    Does (ev C call H.length none af15.body { tm := tmA 24 (zipI 0 [.agg [.int .i64 a, .int .i64 b, .int .i64 k, .int .i64 l, .vs 2 (r.map spanE), .int .i64 m, .vs 4 (bs.map boatE), .vs 3 (ls.map lookE)], .int .i64 d] []), df := [], hp := H, tc := [] }) (Ends af15 (twoS (depthR ⟨(a, b), (k, l), r, m, bs, ls⟩ d))) := by
  have h1 := fun H => hDy H a b k l m r bs ls d
  have hday := fun h => @day_nat a b k l m r bs ls d h
  rcases hT (H ++ [.cells [.int .i64 a, .int .i64 b, .int .i64 k, .int .i64 l, .vs 2 (r.map spanE), .int .i64 m, .vs 4 (bs.map boatE), .vs 3 (ls.map lookE)], .cells [.int .i64 0, .int .i64 0]]) a b k l m r bs ls (Cut.isDay ⟨(a, b), (k, l), r, m, bs, ls⟩ d) with ⟨h2, h3⟩ | ⟨h2, K, w, cnt, cs, h3, h4, h5, h6, h7, h8⟩
  · have hr : depthR ⟨(a, b), (k, l), r, m, bs, ls⟩ d = ((0, 0), toldErr ⟨(a, b), (k, l), r, m, bs, ls⟩ (Cut.isDay ⟨(a, b), (k, l), r, m, bs, ls⟩ d)) := by unfold depthR; rw [if_neg h2]
    rw [hr]
    generalize Cut.isDay ⟨(a, b), (k, l), r, m, bs, ls⟩ d = vb at *
    generalize toldErr ⟨(a, b), (k, l), r, m, bs, ls⟩ vb = e at *
    clear hr hT hDy hday
    unfold af15
    simp only [zipI]
    (repeat (first | (with_reducible apply ops_cons; (focus ((conv => lhs; simp [ev1, wantG, spineK, spine, float, xnew, xval, xeff, val_tmA_cons, val_tmA_nil, val_val, putT_some, putT_none, addFl, cellsOf, pickC, alive, slLen, slFt, binI, maxA, maxK, minA, minK, aeqK, aeqS, AV.cells, slCells_sl, boatE, spanE, lookE, fillA, setAt, bitsI, nat_nn, AV.plain, apart, Nat.testBit_eq_decide_div_mod_eq, *]) <;> exact rfl)); simp only [addFl]) | ((first | with_reducible refine does_seq ?_ | with_reducible refine does_ops ?_ | with_reducible refine does_draw ?_ | with_reducible refine does_skip ?_ | with_reducible refine does_block ?_ | with_reducible refine does_ret ?_ | with_reducible refine does_exit ?_ | with_reducible refine ops_nil ?_ | (with_reducible apply does_true; (focus (simp [val_tmA_cons, *]; done))) | (with_reducible apply does_false; (focus (simp [val_tmA_cons, *]; done)))); try simp only [Then, Ops, OutB, reduceIte])))
    exact ⟨by first | trivial | rfl, by first | trivial | rfl, by first | trivial | rfl, by simp only [resL, resOf, tmA_getD_cons]; simp [pickC, resV, twoS]⟩
  · have hvb := told_day h2
    obtain ⟨dn, rfl, hdn⟩ := hday hvb
    have hr : depthR ⟨(a, b), (k, l), r, m, bs, ls⟩ dn = (Cut.water ⟨(a, b), (k, l), r, m, bs, ls⟩ dn, 0) := by unfold depthR; rw [if_pos h2, Int.toNat_natCast]
    rw [hr]
    have h8 := h8 [] dn hdn
    rw [hvb] at h1 h3
    simp only [List.append_nil, List.append_assoc, List.cons_append, List.nil_append] at h3 h8
    generalize Cut.water ⟨(a, b), (k, l), r, m, bs, ls⟩ dn = wt at *
    clear hr hT hDy hday h2 h4 h5 h6 h7 hvb hdn
    unfold af15
    simp only [zipI]
    (repeat (first | (with_reducible apply ops_cons; (focus ((conv => lhs; simp [ev1, wantG, spineK, spine, float, xnew, xval, xeff, val_tmA_cons, val_tmA_nil, val_val, putT_some, putT_none, addFl, cellsOf, pickC, alive, slLen, slFt, binI, maxA, maxK, minA, minK, aeqK, aeqS, AV.cells, slCells_sl, boatE, spanE, lookE, fillA, setAt, bitsI, nat_nn, AV.plain, apart, Nat.testBit_eq_decide_div_mod_eq, *]) <;> exact rfl)); simp only [addFl]) | ((first | with_reducible refine does_seq ?_ | with_reducible refine does_ops ?_ | with_reducible refine does_draw ?_ | with_reducible refine does_skip ?_ | with_reducible refine does_block ?_ | with_reducible refine does_ret ?_ | with_reducible refine does_exit ?_ | with_reducible refine ops_nil ?_ | (with_reducible apply does_true; (focus (simp [val_tmA_cons, *]; done))) | (with_reducible apply does_false; (focus (simp [val_tmA_cons, *]; done)))); try simp only [Then, Ops, OutB, reduceIte])))
    exact ⟨by first | trivial | rfl, by first | trivial | rfl, by first | trivial | rfl, by simp only [resL, resOf, tmA_getD_cons]; simp [pickC, resV, twoS]⟩
set_option maxHeartbeats 8000000 in
theorem leak_fun (C : Cfg) (call : CallF) (hT : ToldC call) (H : List AB) (a b k l m : Int) (r : List (Int × Int)) (bs : List Boat) (ls : List Look) :
    Does (ev C call H.length none af17.body { tm := tmA 27 (zipI 0 [.agg [.int .i64 a, .int .i64 b, .int .i64 k, .int .i64 l, .vs 2 (r.map spanE), .int .i64 m, .vs 4 (bs.map boatE), .vs 3 (ls.map lookE)]] []), df := [], hp := H, tc := [] }) (Ends af17 (twoS (leakR ⟨(a, b), (k, l), r, m, bs, ls⟩))) := by
  rcases hT (H ++ [.cells [.int .i64 a, .int .i64 b, .int .i64 k, .int .i64 l, .vs 2 (r.map spanE), .int .i64 m, .vs 4 (bs.map boatE), .vs 3 (ls.map lookE)], .cells [.int .i64 0, .int .i64 0]]) a b k l m r bs ls true with ⟨h2, h3⟩ | ⟨h2, K, w, cnt, cs, h3, h4, h5, h6, h7, h8⟩
  · have hr : leakR ⟨(a, b), (k, l), r, m, bs, ls⟩ = ((0, 0), toldErr ⟨(a, b), (k, l), r, m, bs, ls⟩ true) := by unfold leakR; rw [if_neg h2]
    rw [hr]
    generalize toldErr ⟨(a, b), (k, l), r, m, bs, ls⟩ true = e at *
    clear hr hT
    unfold af17
    simp only [zipI]
    (repeat (first | (with_reducible apply ops_cons; (focus ((conv => lhs; simp [ev1, wantG, spineK, spine, float, xnew, xval, xeff, val_tmA_cons, val_tmA_nil, val_val, putT_some, putT_none, addFl, cellsOf, pickC, alive, slLen, slFt, binI, maxA, maxK, minA, minK, aeqK, aeqS, AV.cells, slCells_sl, boatE, spanE, lookE, fillA, setAt, bitsI, nat_nn, AV.plain, apart, Nat.testBit_eq_decide_div_mod_eq, *]) <;> exact rfl)); simp only [addFl]) | ((first | with_reducible refine does_seq ?_ | with_reducible refine does_ops ?_ | with_reducible refine does_draw ?_ | with_reducible refine does_skip ?_ | with_reducible refine does_block ?_ | with_reducible refine does_ret ?_ | with_reducible refine does_exit ?_ | with_reducible refine ops_nil ?_ | (with_reducible apply does_true; (focus (simp [val_tmA_cons, *]; done))) | (with_reducible apply does_false; (focus (simp [val_tmA_cons, *]; done)))); try simp only [Then, Ops, OutB, reduceIte])))
    exact ⟨by first | trivial | rfl, by first | trivial | rfl, by first | trivial | rfl, by simp only [resL, resOf, tmA_getD_cons]; simp [pickC, resV, twoS]⟩
  · have hr : leakR ⟨(a, b), (k, l), r, m, bs, ls⟩ = (Cut.leakSpan ⟨(a, b), (k, l), r, m, bs, ls⟩, 0) := by unfold leakR; rw [if_pos h2]
    rw [hr]
    generalize Cut.leakSpan ⟨(a, b), (k, l), r, m, bs, ls⟩ = sp at *
    have hw : IntKind.i64.wrap (((cnt : Int) + 1) - 1) = (cnt : Int) := by rw [wrap_in (by omega) (by omega)]; omega
    have hw' : IntKind.i64.wrap (cnt : Int) = (cnt : Int) := wrap_in (by omega) (by omega)
    have hc : (cnt : Int) < (cnt : Int) + 1 := by omega
    have hc0 : (0 : Int) < (cnt : Int) + 1 := by omega
    simp only [List.append_assoc, List.cons_append, List.nil_append] at h3 h4
    obtain ⟨n4, e4⟩ := List.getElem?_eq_some_iff.1 h4
    simp only [List.length_append, List.length_cons] at n4
    clear hr hT h2 h7 h8
    unfold af17
    simp only [zipI]
    (repeat (first | (with_reducible apply ops_cons; (focus ((conv => lhs; simp [ev1, wantG, spineK, spine, float, xnew, xval, xeff, val_tmA_cons, val_tmA_nil, val_val, putT_some, putT_none, addFl, cellsOf, pickC, alive, slLen, slFt, binI, maxA, maxK, minA, minK, aeqK, aeqS, AV.cells, slCells_sl, boatE, spanE, lookE, fillA, setAt, bitsI, nat_nn, AV.plain, apart, Nat.testBit_eq_decide_div_mod_eq, *]) <;> exact rfl)); simp only [addFl]) | ((first | with_reducible refine does_seq ?_ | with_reducible refine does_ops ?_ | with_reducible refine does_draw ?_ | with_reducible refine does_skip ?_ | with_reducible refine does_block ?_ | with_reducible refine does_ret ?_ | with_reducible refine does_exit ?_ | with_reducible refine ops_nil ?_ | (with_reducible apply does_true; (focus (simp [val_tmA_cons, *]; done))) | (with_reducible apply does_false; (focus (simp [val_tmA_cons, *]; done)))); try simp only [Then, Ops, OutB, reduceIte])))
    exact ⟨by first | trivial | rfl, by first | trivial | rfl, by first | trivial | rfl, by simp only [resL, resOf, tmA_getD_cons]; simp [pickC, resV, twoS]⟩
end R
end Ev
end Go.Proofs.YtlkhjnpflohfeaaDoor

/- The reference of chapter 06: how a boat floats, and with how many loads, as calls. -/
namespace Go.Proofs.YtlkhjnpflohfeaaDoor
open Go
namespace Ev
namespace R
set_option maxRecDepth 100000
theorem told_ok {c : CutD} {vb : Bool} (h : toldErr c vb = 0) : Cut.Valid c ∧ Cut.can c (Cut.every c) = true := by
  have hvb := told_day h
  subst hvb
  have hv : Cut.valid c = true := by
    cases hv : Cut.valid c with
    | true => rfl
    | false => rw [toldErr_bad hv] at h; cases h
  refine ⟨Cut.valid_of hv, ?_⟩
  cases hc : Cut.can c (Cut.every c) with
  | true => rfl
  | false => rw [toldErr_clash hv hc] at h; cases h
theorem water_le {c : CutD} (V : Cut.Valid c) (hc : Cut.can c (Cut.every c) = true) {d : Nat} (hd : d ≤ c.rain.length) : (Cut.water c d).1 ≤ (Cut.water c d).2 := by
  obtain ⟨w1, ⟨k1, t1, a1, a2, a3⟩, -⟩ := Cut.water_spec V hc d hd
  have := w1 k1 t1 a1 a2
  unfold Cut.inS at this
  omega
theorem boat_ok {a b k l m : Int} {r : List (Int × Int)} {bs : List Boat} {ls : List Look} (V : Cut.Valid ⟨(a, b), (k, l), r, m, bs, ls⟩) {i : Nat} (h : i < bs.length) : BoatOk bs[i] := by
  have := V.boat i h
  have e : Cut.boatAt bs i = bs[i] := by simp [Cut.boatAt, h]
  rw [show (⟨(a, b), (k, l), r, m, bs, ls⟩ : CutD).boats = bs from rfl, e] at this
  exact this
theorem boat_nat {a b k l m : Int} {r : List (Int × Int)} {bs : List Boat} {ls : List Look} {d : Int} (h : Cut.isBoat ⟨(a, b), (k, l), r, m, bs, ls⟩ d = true) : ∃ dn : Nat, d = dn ∧ dn < bs.length := by
  have : Cut.within d 0 ((bs.length : Int) - 1) = true := h
  simp [Cut.within] at this
  exact ⟨d.toNat, by omega, by omega⟩
theorem loads_nat {a b k l m : Int} {r : List (Int × Int)} {bs : List Boat} {ls : List Look} (V : Cut.Valid ⟨(a, b), (k, l), r, m, bs, ls⟩) {d n : Int} (h : Cut.isLoads ⟨(a, b), (k, l), r, m, bs, ls⟩ d n = true) : ∃ (dn : Nat), d = dn ∧ ∃ h : dn < bs.length, BoatOk bs[dn] ∧ 0 ≤ n ∧ n ≤ 10 := by
  have h1 : (Cut.isBoat ⟨(a, b), (k, l), r, m, bs, ls⟩ d && Cut.within n 0 (Cut.boatAt bs d.toNat).room) = true := h
  rw [Bool.and_eq_true] at h1
  obtain ⟨dn, rfl, hdn⟩ := boat_nat h1.1
  have hb := boat_ok V hdn
  have e : Cut.boatAt bs dn = bs[dn] := by simp [Cut.boatAt, hdn]
  have h2 := h1.2
  rw [Int.toNat_natCast, e] at h2
  simp [Cut.within] at h2
  have := hb.2.2.2.2.2.2
  exact ⟨dn, rfl, hdn, hb, h2.1, by omega⟩
set_option maxHeartbeats 8000000 in
theorem floatsx_fun (C : Cfg) (call : CallF) (hT : ToldC call) (hDy : DayC call) (hL : LoadsC call) (hF : FloatsC call) (H : List AB) (a b k l m : Int) (r : List (Int × Int)) (bs : List Boat) (ls : List Look) (h40 : bs.length ≤ 40) (bo n d : Int) :
    Does (ev C call H.length none af19.body { tm := tmA 40 (zipI 0 [.agg [.int .i64 a, .int .i64 b, .int .i64 k, .int .i64 l, .vs 2 (r.map spanE), .int .i64 m, .vs 4 (bs.map boatE), .vs 3 (ls.map lookE)], .int .i64 bo, .int .i64 n, .int .i64 d] []), df := [], hp := H, tc := [] }) (Ends af19 (twoA (floatsR ⟨(a, b), (k, l), r, m, bs, ls⟩ bo n d))) := by
  have h0 := fun H => hL H a b k l m r bs ls bo n h40
  have h1 := fun H => hDy H a b k l m r bs ls d
  have hday := fun h => @day_nat a b k l m r bs ls d h
  have hBd : isB ⟨(a, b), (k, l), r, m, bs, ls⟩ bo n d = (Cut.isLoads ⟨(a, b), (k, l), r, m, bs, ls⟩ bo n && Cut.isDay ⟨(a, b), (k, l), r, m, bs, ls⟩ d) := rfl
  have hTt := hT (H ++ [.cells [.int .i64 a, .int .i64 b, .int .i64 k, .int .i64 l, .vs 2 (r.map spanE), .int .i64 m, .vs 4 (bs.map boatE), .vs 3 (ls.map lookE)]]) a b k l m r bs ls (isB ⟨(a, b), (k, l), r, m, bs, ls⟩ bo n d)
  rcases hTt with ⟨h2, h3⟩ | ⟨h2, K, w, cnt, cs, h3, h4, h5, h6, h7, h8⟩
  · have hr : floatsR ⟨(a, b), (k, l), r, m, bs, ls⟩ bo n d = (0, toldErr ⟨(a, b), (k, l), r, m, bs, ls⟩ (isB ⟨(a, b), (k, l), r, m, bs, ls⟩ bo n d)) := by unfold floatsR; rw [if_neg h2]
    rw [hr]
    generalize toldErr ⟨(a, b), (k, l), r, m, bs, ls⟩ (isB ⟨(a, b), (k, l), r, m, bs, ls⟩ bo n d) = e at *
    rw [hBd] at h3
    generalize Cut.isDay ⟨(a, b), (k, l), r, m, bs, ls⟩ d = vb at *
    cases hlb : Cut.isLoads ⟨(a, b), (k, l), r, m, bs, ls⟩ bo n with
    | false =>
      rw [hlb] at h0 h3
      rw [Bool.false_and] at h3
      clear hr hT hDy hday hL hF hBd hlb
      unfold af19
      simp only [zipI]
      (repeat (first | (with_reducible apply ops_cons; (focus ((conv => lhs; simp [ev1, wantG, spineK, spine, float, xnew, xval, xeff, val_tmA_cons, val_tmA_nil, val_val, putT_some, putT_none, addFl, cellsOf, pickC, alive, slLen, slFt, binI, maxA, maxK, minA, minK, aeqK, aeqS, AV.cells, slCells_sl, boatE, spanE, lookE, fillA, setAt, bitsI, nat_nn, AV.plain, apart, Nat.testBit_eq_decide_div_mod_eq, *]) <;> exact rfl)); simp only [addFl]) | ((first | with_reducible refine does_seq ?_ | with_reducible refine does_ops ?_ | with_reducible refine does_draw ?_ | with_reducible refine does_skip ?_ | with_reducible refine does_block ?_ | with_reducible refine does_ret ?_ | with_reducible refine does_exit ?_ | with_reducible refine ops_nil ?_ | (with_reducible apply does_true; (focus (simp [val_tmA_cons, *]; done))) | (with_reducible apply does_false; (focus (simp [val_tmA_cons, *]; done)))); try simp only [Then, Ops, OutB, reduceIte])))
      exact ⟨by first | trivial | rfl, by first | trivial | rfl, by first | trivial | rfl, by simp only [resL, resOf, tmA_getD_cons]; simp [resV, twoA]⟩
    | true =>
      rw [hlb] at h0 h3
      rw [Bool.true_and] at h3
      clear hr hT hDy hday hL hF hBd hlb
      unfold af19
      simp only [zipI]
      (repeat (first | (with_reducible apply ops_cons; (focus ((conv => lhs; simp [ev1, wantG, spineK, spine, float, xnew, xval, xeff, val_tmA_cons, val_tmA_nil, val_val, putT_some, putT_none, addFl, cellsOf, pickC, alive, slLen, slFt, binI, maxA, maxK, minA, minK, aeqK, aeqS, AV.cells, slCells_sl, boatE, spanE, lookE, fillA, setAt, bitsI, nat_nn, AV.plain, apart, Nat.testBit_eq_decide_div_mod_eq, *]) <;> exact rfl)); simp only [addFl]) | ((first | with_reducible refine does_seq ?_ | with_reducible refine does_ops ?_ | with_reducible refine does_draw ?_ | with_reducible refine does_skip ?_ | with_reducible refine does_block ?_ | with_reducible refine does_ret ?_ | with_reducible refine does_exit ?_ | with_reducible refine ops_nil ?_ | (with_reducible apply does_true; (focus (simp [val_tmA_cons, *]; done))) | (with_reducible apply does_false; (focus (simp [val_tmA_cons, *]; done)))); try simp only [Then, Ops, OutB, reduceIte])))
      exact ⟨by first | trivial | rfl, by first | trivial | rfl, by first | trivial | rfl, by simp only [resL, resOf, tmA_getD_cons]; simp [resV, twoA]⟩
  · have hvb := told_day h2
    obtain ⟨V, hcan⟩ := told_ok h2
    have hvb' := hvb
    rw [hBd, Bool.and_eq_true] at hvb'
    obtain ⟨dn, rfl, hdn⟩ := hday hvb'.2
    obtain ⟨bn, rfl, hbn, hbok, n0, n1⟩ := loads_nat V hvb'.1
    have hr : floatsR ⟨(a, b), (k, l), r, m, bs, ls⟩ bn n dn = (Cut.floats bs[bn] n (Cut.water ⟨(a, b), (k, l), r, m, bs, ls⟩ dn), 0) := by
      unfold floatsR; rw [if_pos h2, Int.toNat_natCast, Int.toNat_natCast]
      rw [show Cut.boatAt (⟨(a, b), (k, l), r, m, bs, ls⟩ : CutD).boats bn = bs[bn] by simp [Cut.boatAt, hbn]]
    rw [hr]
    have h8 := h8 [] dn hdn
    have hf := fun H => hF H bs[bn] hbok n (Cut.water ⟨(a, b), (k, l), r, m, bs, ls⟩ dn).1 (Cut.water ⟨(a, b), (k, l), r, m, bs, ls⟩ dn).2 n0 n1
    rw [hvb'.1] at h0
    rw [hvb'.2] at h1
    rw [hvb] at h3
    simp only [List.append_nil, List.append_assoc, List.cons_append, List.nil_append] at h3 h8
    rw [show ((Cut.water ⟨(a, b), (k, l), r, m, bs, ls⟩ dn).1, (Cut.water ⟨(a, b), (k, l), r, m, bs, ls⟩ dn).2) = Cut.water ⟨(a, b), (k, l), r, m, bs, ls⟩ dn from rfl] at hf
    generalize Cut.water ⟨(a, b), (k, l), r, m, bs, ls⟩ dn = wt at *
    generalize Cut.floats bs[bn] n wt = fl at *
    clear hr hT hDy hday h2 h4 h5 h6 h7 hvb hdn V hcan hvb' hL hF hBd hbok n0 n1
    unfold af19
    simp only [zipI]
    (repeat (first | (with_reducible apply ops_cons; (focus ((conv => lhs; simp [ev1, wantG, spineK, spine, float, xnew, xval, xeff, val_tmA_cons, val_tmA_nil, val_val, putT_some, putT_none, addFl, cellsOf, pickC, alive, slLen, slFt, binI, maxA, maxK, minA, minK, aeqK, aeqS, AV.cells, slCells_sl, boatE, spanE, lookE, fillA, setAt, bitsI, nat_nn, AV.plain, apart, Nat.testBit_eq_decide_div_mod_eq, *]) <;> exact rfl)); simp only [addFl]) | ((first | with_reducible refine does_seq ?_ | with_reducible refine does_ops ?_ | with_reducible refine does_draw ?_ | with_reducible refine does_skip ?_ | with_reducible refine does_block ?_ | with_reducible refine does_ret ?_ | with_reducible refine does_exit ?_ | with_reducible refine ops_nil ?_ | (with_reducible apply does_true; (focus (simp [val_tmA_cons, *]; done))) | (with_reducible apply does_false; (focus (simp [val_tmA_cons, *]; done)))); try simp only [Then, Ops, OutB, reduceIte])))
    exact ⟨by first | trivial | rfl, by first | trivial | rfl, by first | trivial | rfl, by simp only [resL, resOf, tmA_getD_cons]; simp [resV, twoA]⟩
set_option maxHeartbeats 8000000 in
theorem loadsx_fun (C : Cfg) (call : CallF) (hT : ToldC call) (hDy : DayC call) (hB : BoatC call) (hM : MostC call) (H : List AB) (a b k l m : Int) (r : List (Int × Int)) (bs : List Boat) (ls : List Look) (h40 : bs.length ≤ 40) (bo d : Int) :
    Does (ev C call H.length none af21.body { tm := tmA 46 (zipI 0 [.agg [.int .i64 a, .int .i64 b, .int .i64 k, .int .i64 l, .vs 2 (r.map spanE), .int .i64 m, .vs 4 (bs.map boatE), .vs 3 (ls.map lookE)], .int .i64 bo, .int .i64 d] []), df := [], hp := H, tc := [] }) (Ends af21 (three (loadsR ⟨(a, b), (k, l), r, m, bs, ls⟩ bo d))) := by
  have h0 := fun H => hB H a b k l m r bs ls bo h40
  have h1 := fun H => hDy H a b k l m r bs ls d
  have hday := fun h => @day_nat a b k l m r bs ls d h
  have hTt := hT (H ++ [.cells [.int .i64 a, .int .i64 b, .int .i64 k, .int .i64 l, .vs 2 (r.map spanE), .int .i64 m, .vs 4 (bs.map boatE), .vs 3 (ls.map lookE)]]) a b k l m r bs ls (Cut.isBoat ⟨(a, b), (k, l), r, m, bs, ls⟩ bo && Cut.isDay ⟨(a, b), (k, l), r, m, bs, ls⟩ d)
  rcases hTt with ⟨h2, h3⟩ | ⟨h2, K, w, cnt, cs, h3, h4, h5, h6, h7, h8⟩
  · have hr : loadsR ⟨(a, b), (k, l), r, m, bs, ls⟩ bo d = ((0, 0), toldErr ⟨(a, b), (k, l), r, m, bs, ls⟩ (Cut.isBoat ⟨(a, b), (k, l), r, m, bs, ls⟩ bo && Cut.isDay ⟨(a, b), (k, l), r, m, bs, ls⟩ d)) := by unfold loadsR; rw [if_neg h2]
    rw [hr]
    generalize toldErr ⟨(a, b), (k, l), r, m, bs, ls⟩ (Cut.isBoat ⟨(a, b), (k, l), r, m, bs, ls⟩ bo && Cut.isDay ⟨(a, b), (k, l), r, m, bs, ls⟩ d) = e at *
    generalize Cut.isDay ⟨(a, b), (k, l), r, m, bs, ls⟩ d = vb at *
    cases hlb : Cut.isBoat ⟨(a, b), (k, l), r, m, bs, ls⟩ bo with
    | false =>
      rw [hlb] at h0 h3
      rw [Bool.false_and] at h3
      clear hr hT hDy hday hB hM hlb
      unfold af21
      simp only [zipI]
      (repeat (first | (with_reducible apply ops_cons; (focus ((conv => lhs; simp [ev1, wantG, spineK, spine, float, xnew, xval, xeff, val_tmA_cons, val_tmA_nil, val_val, putT_some, putT_none, addFl, cellsOf, pickC, alive, slLen, slFt, binI, maxA, maxK, minA, minK, aeqK, aeqS, AV.cells, slCells_sl, boatE, spanE, lookE, fillA, setAt, bitsI, nat_nn, AV.plain, apart, Nat.testBit_eq_decide_div_mod_eq, *]) <;> exact rfl)); simp only [addFl]) | ((first | with_reducible refine does_seq ?_ | with_reducible refine does_ops ?_ | with_reducible refine does_draw ?_ | with_reducible refine does_skip ?_ | with_reducible refine does_block ?_ | with_reducible refine does_ret ?_ | with_reducible refine does_exit ?_ | with_reducible refine ops_nil ?_ | (with_reducible apply does_true; (focus (simp [val_tmA_cons, *]; done))) | (with_reducible apply does_false; (focus (simp [val_tmA_cons, *]; done)))); try simp only [Then, Ops, OutB, reduceIte])))
      exact ⟨by first | trivial | rfl, by first | trivial | rfl, by first | trivial | rfl, by simp only [resL, resOf, tmA_getD_cons]; simp [resV, three]⟩
    | true =>
      rw [hlb] at h0 h3
      rw [Bool.true_and] at h3
      clear hr hT hDy hday hB hM hlb
      unfold af21
      simp only [zipI]
      (repeat (first | (with_reducible apply ops_cons; (focus ((conv => lhs; simp [ev1, wantG, spineK, spine, float, xnew, xval, xeff, val_tmA_cons, val_tmA_nil, val_val, putT_some, putT_none, addFl, cellsOf, pickC, alive, slLen, slFt, binI, maxA, maxK, minA, minK, aeqK, aeqS, AV.cells, slCells_sl, boatE, spanE, lookE, fillA, setAt, bitsI, nat_nn, AV.plain, apart, Nat.testBit_eq_decide_div_mod_eq, *]) <;> exact rfl)); simp only [addFl]) | ((first | with_reducible refine does_seq ?_ | with_reducible refine does_ops ?_ | with_reducible refine does_draw ?_ | with_reducible refine does_skip ?_ | with_reducible refine does_block ?_ | with_reducible refine does_ret ?_ | with_reducible refine does_exit ?_ | with_reducible refine ops_nil ?_ | (with_reducible apply does_true; (focus (simp [val_tmA_cons, *]; done))) | (with_reducible apply does_false; (focus (simp [val_tmA_cons, *]; done)))); try simp only [Then, Ops, OutB, reduceIte])))
      exact ⟨by first | trivial | rfl, by first | trivial | rfl, by first | trivial | rfl, by simp only [resL, resOf, tmA_getD_cons]; simp [resV, three]⟩
  · have hvb := told_day h2
    obtain ⟨V, hcan⟩ := told_ok h2
    have hvb' := hvb
    rw [Bool.and_eq_true] at hvb'
    obtain ⟨dn, rfl, hdn⟩ := hday hvb'.2
    obtain ⟨bn, rfl, hbn⟩ := boat_nat hvb'.1
    have hbok := boat_ok V hbn
    have hbat : Cut.boatAt (⟨(a, b), (k, l), r, m, bs, ls⟩ : CutD).boats bn = bs[bn] := by simp [Cut.boatAt, hbn]
    have hr : loadsR ⟨(a, b), (k, l), r, m, bs, ls⟩ bn dn = ((((Cut.lead (fun i => decide ((2 : Int) ≤ Cut.floats bs[bn] i (Cut.water ⟨(a, b), (k, l), r, m, bs, ls⟩ dn))) (bs[bn].room.toNat + 1) : Nat) : Int) - 1, ((Cut.lead (fun i => decide ((1 : Int) ≤ Cut.floats bs[bn] i (Cut.water ⟨(a, b), (k, l), r, m, bs, ls⟩ dn))) (bs[bn].room.toNat + 1) : Nat) : Int) - 1), 0) := by
      unfold loadsR; rw [if_pos h2, Int.toNat_natCast, Int.toNat_natCast]
      unfold Cut.loads Cut.suits
      rw [hbat]
    rw [hr]
    have h8 := h8 [] dn hdn
    have hlh := water_le V hcan (d := dn) hdn
    have hf := fun H sure => hM H bs[bn] hbok (Cut.water ⟨(a, b), (k, l), r, m, bs, ls⟩ dn).1 (Cut.water ⟨(a, b), (k, l), r, m, bs, ls⟩ dn).2 sure hlh
    rw [hvb'.1] at h0
    rw [hvb'.2] at h1
    rw [hvb] at h3
    simp only [List.append_nil, List.append_assoc, List.cons_append, List.nil_append] at h3 h8
    rw [show ((Cut.water ⟨(a, b), (k, l), r, m, bs, ls⟩ dn).1, (Cut.water ⟨(a, b), (k, l), r, m, bs, ls⟩ dn).2) = Cut.water ⟨(a, b), (k, l), r, m, bs, ls⟩ dn from rfl] at hf
    generalize Cut.water ⟨(a, b), (k, l), r, m, bs, ls⟩ dn = wt at *
    have hf2 := fun H => hf H 2
    have hf1 := fun H => hf H 1
    generalize (((Cut.lead (fun i => decide ((2 : Int) ≤ Cut.floats bs[bn] i wt)) (bs[bn].room.toNat + 1) : Nat) : Int) - 1) = f2 at *
    generalize (((Cut.lead (fun i => decide ((1 : Int) ≤ Cut.floats bs[bn] i wt)) (bs[bn].room.toNat + 1) : Nat) : Int) - 1) = f1 at *
    clear hr hT hDy hday h2 h4 h5 h6 h7 hvb hdn V hcan hvb' hB hM hbok hbat hlh hf
    unfold af21
    simp only [zipI]
    (repeat (first | (with_reducible apply ops_cons; (focus ((conv => lhs; simp [ev1, wantG, spineK, spine, float, xnew, xval, xeff, val_tmA_cons, val_tmA_nil, val_val, putT_some, putT_none, addFl, cellsOf, pickC, alive, slLen, slFt, binI, maxA, maxK, minA, minK, aeqK, aeqS, AV.cells, slCells_sl, boatE, spanE, lookE, fillA, setAt, bitsI, nat_nn, AV.plain, apart, Nat.testBit_eq_decide_div_mod_eq, *]) <;> exact rfl)); simp only [addFl]) | ((first | with_reducible refine does_seq ?_ | with_reducible refine does_ops ?_ | with_reducible refine does_draw ?_ | with_reducible refine does_skip ?_ | with_reducible refine does_block ?_ | with_reducible refine does_ret ?_ | with_reducible refine does_exit ?_ | with_reducible refine ops_nil ?_ | (with_reducible apply does_true; (focus (simp [val_tmA_cons, *]; done))) | (with_reducible apply does_false; (focus (simp [val_tmA_cons, *]; done)))); try simp only [Then, Ops, OutB, reduceIte])))
    exact ⟨by first | trivial | rfl, by first | trivial | rfl, by first | trivial | rfl, by simp only [resL, resOf, tmA_getD_cons]; simp [resV, three]⟩
end R
end Ev
end Go.Proofs.YtlkhjnpflohfeaaDoor

/- The law CutReads, gone through. -/
namespace Go.Proofs.YtlkhjnpflohfeaaDoor
open Go
namespace Ev
namespace R
set_option maxRecDepth 100000
/-- The functions of package cut that CutReads calls answer so. -/
structure ApiS (call : CallF) (A : Api) : Prop where
  depth : ∀ {H v c}, cutOf H v = some c → ∀ d, call (.fn (.func 14) [] []) [v, .int .i64 d] H = some (.ret (twoS (A.depth c d)), H, [])
  leak : ∀ {H v c}, cutOf H v = some c → call (.fn (.func 16) [] []) [v] H = some (.ret (twoS (A.leak c)), H, [])
  floats : ∀ {H v c}, cutOf H v = some c → ∀ b n d, call (.fn (.func 18) [] []) [v, .int .i64 b, .int .i64 n, .int .i64 d] H = some (.ret (twoA (A.floats c b n d)), H, [])
  loads : ∀ {H v c}, cutOf H v = some c → ∀ b d, call (.fn (.func 20) [] []) [v, .int .i64 b, .int .i64 d] H = some (.ret (three (A.loads c b d)), H, [])
  awake : ∀ {H}, call (.fn (.func 13) [] []) [] H = some (.ret (.bool true), H, [])
  far : ∀ {H v c}, cutOf H v = some c → call (.fn (.func 34) [] []) [v] H = some (.ret (.bool (A.far c)), H, [])
  valid : ∀ {H v c}, cutOf H v = some c → call (.fn (.func 35) [] []) [v] H = some (.ret (.bool (A.valid c)), H, [])
/-- The reference answers so. -/
structure RefOk (call : CallF) (A : Api) : Prop where
  depth : ∀ (H : List AB) (a b k l m : Int) (r : List (Int × Int)) (bs : List Boat) (ls : List Look), bs.length ≤ 40 → ∀ d : Int, call (.fn (.func 15) [] []) [.agg [.int .i64 a, .int .i64 b, .int .i64 k, .int .i64 l, .vs 2 (r.map spanE), .int .i64 m, .vs 4 (bs.map boatE), .vs 3 (ls.map lookE)], .int .i64 d] H = some (.ret (twoS (A.depth ⟨(a, b), (k, l), r, m, bs, ls⟩ d)), H, [])
  leak : ∀ (H : List AB) (a b k l m : Int) (r : List (Int × Int)) (bs : List Boat) (ls : List Look), bs.length ≤ 40 → call (.fn (.func 17) [] []) [.agg [.int .i64 a, .int .i64 b, .int .i64 k, .int .i64 l, .vs 2 (r.map spanE), .int .i64 m, .vs 4 (bs.map boatE), .vs 3 (ls.map lookE)]] H = some (.ret (twoS (A.leak ⟨(a, b), (k, l), r, m, bs, ls⟩)), H, [])
  floats : ∀ (H : List AB) (a b k l m : Int) (r : List (Int × Int)) (bs : List Boat) (ls : List Look), bs.length ≤ 40 → ∀ o n d : Int, call (.fn (.func 19) [] []) [.agg [.int .i64 a, .int .i64 b, .int .i64 k, .int .i64 l, .vs 2 (r.map spanE), .int .i64 m, .vs 4 (bs.map boatE), .vs 3 (ls.map lookE)], .int .i64 o, .int .i64 n, .int .i64 d] H = some (.ret (twoA (A.floats ⟨(a, b), (k, l), r, m, bs, ls⟩ o n d)), H, [])
  loads : ∀ (H : List AB) (a b k l m : Int) (r : List (Int × Int)) (bs : List Boat) (ls : List Look), bs.length ≤ 40 → ∀ o d : Int, call (.fn (.func 21) [] []) [.agg [.int .i64 a, .int .i64 b, .int .i64 k, .int .i64 l, .vs 2 (r.map spanE), .int .i64 m, .vs 4 (bs.map boatE), .vs 3 (ls.map lookE)], .int .i64 o, .int .i64 d] H = some (.ret (three (A.loads ⟨(a, b), (k, l), r, m, bs, ls⟩ o d)), H, [])
def HeavyC (call : CallF) (A : Api) : Prop := ∀ (H : List AB) (a b k l m : Int) (r : List (Int × Int)) (bs : List Boat) (ls : List Look) (q : Int), call (.fn (.func 12) [] []) [.agg [.int .i64 a, .int .i64 b, .int .i64 k, .int .i64 l, .vs 2 (r.map spanE), .int .i64 m, .vs 4 (bs.map boatE), .vs 3 (ls.map lookE)], .int .i64 q] H =
  some (.ret (.bool (A.far ⟨(a, b), (k, l), r, m, bs, ls⟩ || (A.valid ⟨(a, b), (k, l), r, m, bs, ls⟩ && decide (q < m)))), H, [])
theorem heavy_fun (C : Cfg) (call : CallF) (A : Api) (hA : ApiS call A) (H : List AB) (a b k l m : Int) (r : List (Int × Int)) (bs : List Boat) (ls : List Look) (q : Int) :
    Does (ev C call H.length none af12.body { tm := tmA 17 (zipI 0 [.agg [.int .i64 a, .int .i64 b, .int .i64 k, .int .i64 l, .vs 2 (r.map spanE), .int .i64 m, .vs 4 (bs.map boatE), .vs 3 (ls.map lookE)], .int .i64 q] []), df := [], hp := H, tc := [] }) (Gives 4 (.bool (A.far ⟨(a, b), (k, l), r, m, bs, ls⟩ || (A.valid ⟨(a, b), (k, l), r, m, bs, ls⟩ && decide (q < m))))) := by
  have h1 := fun H => hA.far (cutOf_mk H a b k l m r bs ls)
  have h2 := fun H => hA.valid (cutOf_mk H a b k l m r bs ls)
  generalize (⟨(a, b), (k, l), r, m, bs, ls⟩ : CutD) = c at *
  clear hA
  cases hf : A.far c <;> rw [hf] at h1 <;> clear hf
  · cases hv : A.valid c <;> rw [hv] at h2 <;> clear hv
    · unfold af12
      simp only [zipI]
      (repeat (first | (with_reducible apply ops_cons; (focus ((conv => lhs; simp [ev1, wantG, spineK, spine, float, xnew, xval, xeff, val_tmA_cons, val_tmA_nil, val_val, putT_some, putT_none, addFl, cellsOf, pickC, alive, slLen, slFt, binI, maxA, maxK, minA, minK, aeqK, aeqS, AV.cells, slCells_sl, boatE, spanE, lookE, fillA, setAt, bitsI, nat_nn, AV.plain, apart, Nat.testBit_eq_decide_div_mod_eq, *]) <;> exact rfl)); simp only [addFl]) | ((first | with_reducible refine does_seq ?_ | with_reducible refine does_ops ?_ | with_reducible refine does_draw ?_ | with_reducible refine does_skip ?_ | with_reducible refine does_block ?_ | with_reducible refine does_ret ?_ | with_reducible refine does_exit ?_ | with_reducible refine ops_nil ?_ | (with_reducible apply does_true; (focus (simp [val_tmA_cons, *]; done))) | (with_reducible apply does_false; (focus (simp [val_tmA_cons, *]; done)))); try simp only [Then, Ops, OutB, reduceIte])))
      exact ⟨by first | trivial | rfl, by first | trivial | rfl, by first | trivial | rfl, by simp only [tmA_getD_cons]; simp⟩
    · unfold af12
      simp only [zipI]
      (repeat (first | (with_reducible apply ops_cons; (focus ((conv => lhs; simp [ev1, wantG, spineK, spine, float, xnew, xval, xeff, val_tmA_cons, val_tmA_nil, val_val, putT_some, putT_none, addFl, cellsOf, pickC, alive, slLen, slFt, binI, maxA, maxK, minA, minK, aeqK, aeqS, AV.cells, slCells_sl, boatE, spanE, lookE, fillA, setAt, bitsI, nat_nn, AV.plain, apart, Nat.testBit_eq_decide_div_mod_eq, *]) <;> exact rfl)); simp only [addFl]) | ((first | with_reducible refine does_seq ?_ | with_reducible refine does_ops ?_ | with_reducible refine does_draw ?_ | with_reducible refine does_skip ?_ | with_reducible refine does_block ?_ | with_reducible refine does_ret ?_ | with_reducible refine does_exit ?_ | with_reducible refine ops_nil ?_ | (with_reducible apply does_true; (focus (simp [val_tmA_cons, *]; done))) | (with_reducible apply does_false; (focus (simp [val_tmA_cons, *]; done)))); try simp only [Then, Ops, OutB, reduceIte])))
      exact ⟨by first | trivial | rfl, by first | trivial | rfl, by first | trivial | rfl, by simp only [tmA_getD_cons]; simp⟩
  · unfold af12
    simp only [zipI]
    (repeat (first | (with_reducible apply ops_cons; (focus ((conv => lhs; simp [ev1, wantG, spineK, spine, float, xnew, xval, xeff, val_tmA_cons, val_tmA_nil, val_val, putT_some, putT_none, addFl, cellsOf, pickC, alive, slLen, slFt, binI, maxA, maxK, minA, minK, aeqK, aeqS, AV.cells, slCells_sl, boatE, spanE, lookE, fillA, setAt, bitsI, nat_nn, AV.plain, apart, Nat.testBit_eq_decide_div_mod_eq, *]) <;> exact rfl)); simp only [addFl]) | ((first | with_reducible refine does_seq ?_ | with_reducible refine does_ops ?_ | with_reducible refine does_draw ?_ | with_reducible refine does_skip ?_ | with_reducible refine does_block ?_ | with_reducible refine does_ret ?_ | with_reducible refine does_exit ?_ | with_reducible refine ops_nil ?_ | (with_reducible apply does_true; (focus (simp [val_tmA_cons, *]; done))) | (with_reducible apply does_false; (focus (simp [val_tmA_cons, *]; done)))); try simp only [Then, Ops, OutB, reduceIte])))
    exact ⟨by first | trivial | rfl, by first | trivial | rfl, by first | trivial | rfl, by simp only [tmA_getD_cons]; simp⟩
set_option maxHeartbeats 8000000 in
theorem reads_main (C : Cfg) (call : CallF) (A : Api) (hA : ApiS call A) (hH : HeavyC call A) (hR : RefOk call A) (a b k l m : Int) (r : List (Int × Int)) (bs : List Boat) (ls : List Look) (hfar : A.far ⟨(a, b), (k, l), r, m, bs, ls⟩ = false → bs.length ≤ 40) (o n d : Int) :
    Does (ev C call 0 none af3.body { tm := tmA 130 (zipI 0 [.agg [.int .i64 a, .int .i64 b, .int .i64 k, .int .i64 l, .vs 2 (r.map spanE), .int .i64 m, .vs 4 (bs.map boatE), .vs 3 (ls.map lookE)], .int .i64 o, .int .i64 n, .int .i64 d] []), df := [], hp := [], tc := [] }) (Yes 8) := by
  have h0 := fun H => hH H a b k l m r bs ls 30
  have h9 := fun H => hA.awake (H := H)
  cases hh : (A.far ⟨(a, b), (k, l), r, m, bs, ls⟩ || (A.valid ⟨(a, b), (k, l), r, m, bs, ls⟩ && decide (30 < m))) with
  | true =>
    rw [hh] at h0
    clear hA hH hR hfar hh
    unfold af3
    simp only [zipI]
    (repeat (first | (with_reducible apply ops_cons; (focus ((conv => lhs; simp [ev1, wantG, spineK, spine, float, xnew, xval, xeff, val_tmA_cons, val_tmA_nil, val_val, putT_some, putT_none, addFl, cellsOf, pickC, alive, slLen, slFt, binI, maxA, maxK, minA, minK, aeqK, aeqS, AV.cells, slCells_sl, boatE, spanE, lookE, fillA, setAt, bitsI, nat_nn, AV.plain, apart, Nat.testBit_eq_decide_div_mod_eq, *]) <;> exact rfl)); simp only [addFl]) | ((first | with_reducible refine does_seq ?_ | with_reducible refine does_ops ?_ | with_reducible refine does_draw ?_ | with_reducible refine does_skip ?_ | with_reducible refine does_block ?_ | with_reducible refine does_ret ?_ | with_reducible refine does_exit ?_ | with_reducible refine ops_nil ?_ | (with_reducible apply does_true; (focus (simp [val_tmA_cons, *]; done))) | (with_reducible apply does_false; (focus (simp [val_tmA_cons, *]; done)))); try simp only [Then, Ops, OutB, reduceIte])))
    exact ⟨by first | trivial | rfl, by first | trivial | rfl, by simp only [tmA_getD_cons]; simp⟩
  | false =>
    rw [hh] at h0
    have h40 := hfar (by rw [Bool.or_eq_false_iff] at hh; exact hh.1)
    have h1 := fun H => hA.depth (cutOf_mk H a b k l m r bs ls) d
    have h2 := fun H => hR.depth H a b k l m r bs ls h40 d
    have h3 := fun H => hA.leak (cutOf_mk H a b k l m r bs ls)
    have h4 := fun H => hR.leak H a b k l m r bs ls h40
    have h5 := fun H => hA.floats (cutOf_mk H a b k l m r bs ls) o n d
    have h6 := fun H => hR.floats H a b k l m r bs ls h40 o n d
    have h7 := fun H => hA.loads (cutOf_mk H a b k l m r bs ls) o d
    have h8 := fun H => hR.loads H a b k l m r bs ls h40 o d
    clear hA hH hR hfar hh h40
    generalize (⟨(a, b), (k, l), r, m, bs, ls⟩ : CutD) = c at *
    generalize A.depth c d = x1 at *
    generalize A.leak c = x2 at *
    generalize A.floats c o n d = x3 at *
    generalize A.loads c o d = x4 at *
    unfold twoS at h1 h2 h3 h4
    unfold twoA at h5 h6
    unfold three at h7 h8
    unfold af3
    simp only [zipI]
    (repeat (first | (with_reducible apply ops_cons; (focus ((conv => lhs; simp [ev1, wantG, spineK, spine, float, xnew, xval, xeff, val_tmA_cons, val_tmA_nil, val_val, putT_some, putT_none, addFl, cellsOf, pickC, alive, slLen, slFt, binI, maxA, maxK, minA, minK, aeqK, aeqS, AV.cells, slCells_sl, boatE, spanE, lookE, fillA, setAt, bitsI, nat_nn, AV.plain, apart, Nat.testBit_eq_decide_div_mod_eq, *]) <;> exact rfl)); simp only [addFl]) | ((first | with_reducible refine does_seq ?_ | with_reducible refine does_ops ?_ | with_reducible refine does_draw ?_ | with_reducible refine does_skip ?_ | with_reducible refine does_block ?_ | with_reducible refine does_ret ?_ | with_reducible refine does_exit ?_ | with_reducible refine ops_nil ?_ | (with_reducible apply does_true; (focus (simp [val_tmA_cons, *]; done))) | (with_reducible apply does_false; (focus (simp [val_tmA_cons, *]; done)))); try simp only [Then, Ops, OutB, reduceIte])))
    exact ⟨by first | trivial | rfl, by first | trivial | rfl, by simp only [tmA_getD_cons]; simp⟩
end R
end Ev
end Go.Proofs.YtlkhjnpflohfeaaDoor

/- The reference of chapter 06, as the laws call it. -/
namespace Go.Proofs.YtlkhjnpflohfeaaDoor
open Go Go.Proofs Go.RowKit
namespace Ev
namespace R
set_option maxRecDepth 100000
/-- The functions that are told. -/
def exthR (f : Nat) : Option (List AV → List AB → Option AV) :=
  if f = 14 then some (gCut sDepth) else if f = 16 then some (gCut sLeak) else if f = 18 then some (gCut sFloats) else if f = 20 then some (gCut sLoads) else
  if f = 34 then some (gCut sFar) else if f = 35 then some (gCut sValid) else if f = 13 then some gAwake else none
theorem exthR_ok (C : Cfg) : ∀ f g, exthR f = some g → Known f ∧
    ∀ (args : List AV) (H : List AB) (v : AV) (rargs : Array Value) (W : World) (L : Nat → Prop) (μ : Mu), g args H = some v → VL W L μ args rargs.toList → Sim Tryd.prog W L μ H → Globs C W L →
      CallsIn Fence.wide 0 Tryd.prog f rargs W fun e W' => (∃ w, e = .returned w ∧ VR W' L nomu v w) ∧ Below W.heap.size W W' := by
  intro f g h
  unfold exthR at h
  by_cases hf : f = 14
  · rw [if_pos hf] at h; subst hf; cases h; exact ⟨⟨_, Tryd.func14, by kernel_rfl, by kernel_rfl⟩, gcut_ok depth_ok⟩
  rw [if_neg hf] at h; clear hf
  by_cases hf : f = 16
  · rw [if_pos hf] at h; subst hf; cases h; exact ⟨⟨_, Tryd.func16, by kernel_rfl, by kernel_rfl⟩, gcut_ok leak_ok⟩
  rw [if_neg hf] at h; clear hf
  by_cases hf : f = 18
  · rw [if_pos hf] at h; subst hf; cases h; exact ⟨⟨_, Tryd.func18, by kernel_rfl, by kernel_rfl⟩, gcut_ok floats_ok⟩
  rw [if_neg hf] at h; clear hf
  by_cases hf : f = 20
  · rw [if_pos hf] at h; subst hf; cases h; exact ⟨⟨_, Tryd.func20, by kernel_rfl, by kernel_rfl⟩, gcut_ok loads_ok⟩
  rw [if_neg hf] at h; clear hf
  by_cases hf : f = 34
  · rw [if_pos hf] at h; subst hf; cases h; exact ⟨⟨_, Tryd.func34, by kernel_rfl, by kernel_rfl⟩, gcut_ok far_ok⟩
  rw [if_neg hf] at h; clear hf
  by_cases hf : f = 35
  · rw [if_pos hf] at h; subst hf; cases h; exact ⟨⟨_, Tryd.func35, by kernel_rfl, by kernel_rfl⟩, gcut_ok valid_ok⟩
  rw [if_neg hf] at h; clear hf
  by_cases hf : f = 13
  · rw [if_pos hf] at h; subst hf; cases h
    refine ⟨⟨_, Tryd.func13, by kernel_rfl, by kernel_rfl⟩, fun args H v rargs W L μ h hv hs hG => ?_⟩
    unfold gAwake at h
    split at h <;> cases h
    obtain rfl := toArray_nil hv
    exact (callsIn_wide.2 (awake_any W (dry_of_globs hG))).mono fun e W' ⟨h1, h2⟩ => ⟨⟨_, h1, .bool⟩, h2⟩
  · rw [if_neg hf] at h; cases h
/-- What the evaluator is told of the laws that compare. -/
noncomputable def cfgR : Cfg where
  fns := FT.find fnTree
  glob := fun _ => none
  dfk := fun _ => none
  ext := fun _ => none
  exth := exthR
  calm := true
  whole := fun _ => true
theorem tblR : TblOk Tryd.prog cfgR := ⟨fun f fn h => FT.find_all tree_is h, fun _ _ h => (by cases h), fun f g h => exthR_ok cfgR f g h, fun _ _ _ h => (by cases h)⟩
theorem told_callR {n f : Nat} {g : List AV → List AB → Option AV} (hg : exthR f = some g) (args : List AV) (H : List AB) (v : AV) (h : g args H = some v) : Ev.call cfgR (n + 1) (.fn (.func f) [] []) args H = some (.ret v, H, []) := by
  show enter cfgR (Ev.call cfgR n) f ([] ++ args ++ []) H = _
  rw [List.nil_append, List.append_nil]
  have e1 : cfgR.ext f = none := rfl
  have e2 : cfgR.exth f = some g := hg
  simp only [enter, e1, e2, h, Option.map_some]
theorem apiR (n : Nat) : ApiS (Ev.call cfgR (n + 1)) specApi where
  depth hc d := told_callR rfl _ _ _ (by simp only [gCut, hc]; rfl)
  leak hc := told_callR rfl _ _ _ (by simp only [gCut, hc]; rfl)
  floats hc b n' d := told_callR rfl _ _ _ (by simp only [gCut, hc]; rfl)
  loads hc b d := told_callR rfl _ _ _ (by simp only [gCut, hc]; rfl)
  awake := told_callR rfl _ _ _ rfl
  far hc := told_callR rfl _ _ _ (by simp only [gCut, hc]; rfl)
  valid hc := told_callR rfl _ _ _ (by simp only [gCut, hc]; rfl)
theorem inR (n : Nat) : InC (Ev.call cfgR (n + 1)) := fun H k a b => bare_call rfl rfl rfl (by kernel_rfl) rfl rfl (show (3 : Nat) ≤ 15 by omega) rfl (in_fun cfgR _ k a b H)
theorem powR (n : Nat) : PowerC (Ev.call cfgR (n + 1)) := fun H k hk => bare_call rfl rfl rfl (by kernel_rfl) rfl rfl (show (1 : Nat) ≤ 13 by omega) rfl (power_fun cfgR rfl _ k hk H)
theorem hasR (n : Nat) : HasC (Ev.call cfgR (n + 2)) := fun H s k hs hk => bare_call rfl rfl rfl (by kernel_rfl) rfl rfl (show (2 : Nat) ≤ 11 by omega) rfl (has_fun cfgR _ (powR n) s k hs hk H)
theorem nextR (n : Nat) : NextC (Ev.call cfgR (n + 1)) := fun H a b k l m r bs ls u q lk h1 h2 h3 h4 h5 h6 => bare_call rfl rfl rfl (by kernel_rfl) rfl rfl (show (4 : Nat) ≤ 18 by omega) rfl (next_fun cfgR _ H a b k l m r bs ls u q lk h1 h2 h3 h4 h5 h6)
theorem goesR (n : Nat) : GoesC (Ev.call cfgR (n + 2)) := fun H a b k l m r bs ls V d hd u v lk u0 u1 k0 k1 => bare_call rfl rfl rfl (by kernel_rfl) rfl rfl (show (5 : Nat) ≤ 35 by omega) rfl (goes_fun cfgR rfl _ (nextR n) H a b k l m r bs ls V d hd u v lk u0 u1 k0 k1)
theorem fitsR (n : Nat) : FitsC (Ev.call cfgR (n + 3)) := fun H a b k l m r bs ls k5 s d v hs => bare_call rfl rfl rfl (by kernel_rfl) rfl rfl (show (4 : Nat) ≤ 43 by omega) rfl (fits_fun cfgR rfl _ (inR (n + 1)) (hasR n) H a b k l m r bs ls k5 s d v hs)
theorem depthsR (n : Nat) : DepthsC (Ev.call cfgR (n + 4)) := depths_call rfl ⟨rfl, rfl, by kernel_rfl, rfl⟩ (goesR (n + 1)) (inR (n + 2)) (fitsR n)
theorem waysR (n : Nat) : WaysC (Ev.call cfgR (n + 5)) := ways_call rfl ⟨rfl, rfl, by kernel_rfl, rfl⟩ (depthsR n)
theorem everyR (n : Nat) : EveryC (Ev.call cfgR (n + 2)) := fun H a b k l m r bs ls h5 => bare_call rfl rfl rfl (by kernel_rfl) rfl rfl (show (1 : Nat) ≤ 8 by omega) rfl (every_fun cfgR _ (powR n) H a b k l m r bs ls h5)
theorem toldR (n : Nat) : ToldC (Ev.call cfgR (n + 6)) := told_call rfl ⟨rfl, rfl, by kernel_rfl, rfl⟩ ⟨rfl, rfl, by kernel_rfl, rfl⟩ (fun H a b k l m r bs ls => (apiR (n + 4)).valid (cutOf_mk H a b k l m r bs ls)) (everyR (n + 3)) (waysR n)
theorem dayR (n : Nat) : DayC (Ev.call cfgR (n + 2)) := fun H a b k l m r bs ls d => bare_call rfl rfl rfl (by kernel_rfl) rfl rfl (show (2 : Nat) ≤ 10 by omega) rfl (day_fun cfgR _ (inR n) H a b k l m r bs ls d)
theorem boatR (n : Nat) : BoatC (Ev.call cfgR (n + 2)) := fun H a b k l m r bs ls d h => bare_call rfl rfl rfl (by kernel_rfl) rfl rfl (show (2 : Nat) ≤ 11 by omega) rfl (boat_fun cfgR _ (inR n) H a b k l m r bs ls d h)
theorem isloR (n : Nat) : LoadsC (Ev.call cfgR (n + 3)) := fun H a b k l m r bs ls d q h => bare_call rfl rfl rfl (by kernel_rfl) rfl rfl (show (3 : Nat) ≤ 20 by omega) rfl (loads_fun cfgR _ (inR (n + 1)) (boatR n) H a b k l m r bs ls d q h)
theorem floR (n : Nat) : FloatsC (Ev.call cfgR (n + 1)) := fun H b hb q lo hi h0 h1 => bare_call rfl rfl rfl (by kernel_rfl) rfl rfl (show (3 : Nat) ≤ 29 by omega) rfl (floats_fun cfgR _ H b hb q lo hi h0 h1)
theorem mostR (n : Nat) : MostC (Ev.call cfgR (n + 2)) := fun H b hb lo hi sure hlh => bare_call rfl rfl rfl (by kernel_rfl) rfl rfl (show (3 : Nat) ≤ 23 by omega) rfl (most_fun cfgR rfl _ (floR n) H b hb lo hi sure hlh)
theorem refR (n : Nat) : RefOk (Ev.call cfgR (n + 7)) specApi where
  depth H a b k l m r bs ls _ d := bare_res rfl ⟨rfl, rfl, by kernel_rfl, rfl⟩ (show (2 : Nat) ≤ 24 by omega) rfl (depth_fun cfgR _ (toldR n) (dayR (n + 4)) H a b k l m r bs ls d)
  leak H a b k l m r bs ls _ := bare_res rfl ⟨rfl, rfl, by kernel_rfl, rfl⟩ (show (1 : Nat) ≤ 27 by omega) rfl (leak_fun cfgR _ (toldR n) H a b k l m r bs ls)
  floats H a b k l m r bs ls h o q d := bare_res rfl ⟨rfl, rfl, by kernel_rfl, rfl⟩ (show (4 : Nat) ≤ 40 by omega) rfl (floatsx_fun cfgR _ (toldR n) (dayR (n + 4)) (isloR (n + 3)) (floR (n + 5)) H a b k l m r bs ls h o q d)
  loads H a b k l m r bs ls h o d := bare_res rfl ⟨rfl, rfl, by kernel_rfl, rfl⟩ (show (3 : Nat) ≤ 46 by omega) rfl (loadsx_fun cfgR _ (toldR n) (dayR (n + 4)) (boatR (n + 4)) (mostR (n + 4)) H a b k l m r bs ls h o d)
theorem heavyR (n : Nat) : HeavyC (Ev.call cfgR (n + 2)) specApi := fun H a b k l m r bs ls q => bare_call rfl rfl rfl (by kernel_rfl) rfl rfl (show (2 : Nat) ≤ 17 by omega) rfl (heavy_fun cfgR _ specApi (apiR n) H a b k l m r bs ls q)
theorem far_40 {a b k l m : Int} {r : List (Int × Int)} {bs : List Boat} {ls : List Look} (h : farD ⟨(a, b), (k, l), r, m, bs, ls⟩ = false) : bs.length ≤ 40 := by
  unfold farD at h
  rw [decide_eq_false_iff_not] at h
  simp only at h
  omega
end R
end Ev
end Go.Proofs.YtlkhjnpflohfeaaDoor

/- CutReads answers true. -/
namespace Go.Proofs.YtlkhjnpflohfeaaDoor
open Go Go.Proofs Go.RowKit
open Ev
set_option maxRecDepth 100000 in
theorem reads_found (c : CutD) (o n d : Int) : ∃ H' tc, Ev.call R.cfgR 8 (.fn (.func 3) [] []) [cutA c, .int .i64 o, .int .i64 n, .int .i64 d] [] = some (.ret (.bool true), H', tc) := by
  refine yes_call (t := 8) (n := 7) (fn := R.af3) rfl rfl rfl (by kernel_rfl) rfl rfl (show (4 : Nat) ≤ 130 by omega) ?_
  obtain ⟨⟨a, b⟩, ⟨k, l⟩, r, m, bs, ls⟩ := c
  exact R.reads_main R.cfgR _ specApi (R.apiR 6) (R.heavyR 5) (R.refR 0) a b k l m r bs ls (fun h => R.far_40 h) o n d
theorem lawCutReads (c : CutD) (ra ba la : Option Addr) (rc bc lc : Nat) {W : World} (hin : CutIn W c ra ba la) (h1 : c.rain.length ≤ rc) (h2 : c.boats.length ≤ bc) (h3 : c.looks.length ≤ lc) (x1 : Int) (_wf1 : (Lit.int .i64 x1).wf = true) (x2 : Int) (_wf2 : (Lit.int .i64 x2).wf = true) (x3 : Int) (_wf3 : (Lit.int .i64 x3).wf = true) :
    Calls Tryd.prog 3 #[cutVal c ra ba la rc bc lc, .int .i64 x1, .int .i64 x2, .int .i64 x3] W fun e W' => e = .returned (.bool true) ∧ Below W.heap.size W W' := by
  obtain ⟨H', tc, h⟩ := reads_found c x1 x2 x3
  exact callsIn_wide.1 (top_args R.tblR h W (globs_of_dry hin.dry) (VL.cons (cut_vr hin h1 h2 h3) (VL.cons .int (VL.cons .int (VL.cons .int VL.nil)))))
end Go.Proofs.YtlkhjnpflohfeaaDoor

/- An argument that is a cut: from its reading to its cells. -/
namespace Go.Proofs.YtlkhjnpflohfeaaDoor
open Go Go.Proofs Go.RowKit Go.ChangeShapes Go.WideShapes Go.Deep
section
variable {H : Type} {enc : TypeId × Value → H} {w : World} {base : Nat} {spare : Nat → Bool} {held : Bool} {fuel : Nat} {cs : List Value} {x : DataW H × List MemPlace}

theorem list2 {cs : List Value} (h : cs.length = 2) : ∃ a b, cs = [a, b] := by
  match cs, h with | [a, b], _ => exact ⟨a, b, rfl⟩
theorem list3 {cs : List Value} (h : cs.length = 3) : ∃ a b c, cs = [a, b, c] := by
  match cs, h with | [a, b, c], _ => exact ⟨a, b, c, rfl⟩
theorem list4 {cs : List Value} (h : cs.length = 4) : ∃ a b c d, cs = [a, b, c, d] := by
  match cs, h with | [a, b, c, d], _ => exact ⟨a, b, c, d, rfl⟩
theorem list8 {cs : List Value} (h : cs.length = 8) : ∃ a b c d e f g i, cs = [a, b, c, d, e, f, g, i] := by
  match cs, h with | [a, b, c, d, e, f, g, i], _ => exact ⟨a, b, c, d, e, f, g, i, rfl⟩
theorem cells_int : Tryd.prog.cellsOf 3 = 1 := by kernel_rfl
theorem cells_span : Tryd.prog.cellsOf 23 = 2 := by kernel_rfl
theorem cells_boat : Tryd.prog.cellsOf 51 = 4 := by kernel_rfl
theorem cells_look : Tryd.prog.cellsOf 55 = 3 := by kernel_rfl

theorem trod_i (h : ∃ y, DataW.trod enc Tryd.prog w base spare held fuel 3 cs = some y) : ∃ n, cs = [.int .i64 n] ∧ (Lit.int .i64 n).wf = true := by
  obtain ⟨y, h⟩ := h
  obtain ⟨n, h1, _, h2⟩ := DataW.trod_int Tryd.underlying3 h
  exact ⟨n, h1, h2⟩
theorem trod_span (h : ∃ y, DataW.trod enc Tryd.prog w base spare held fuel 23 cs = some y) : ∃ a b, cs = [.int .i64 a, .int .i64 b] := by
  obtain ⟨y, h⟩ := h
  obtain ⟨xs, n, rfl, _, hl, hx, hf⟩ := DataW.trod_struct Tryd.underlying23 h
  rw [cells_span] at hl
  have hx : xs.length = 2 := hx
  obtain ⟨c0, c1, rfl⟩ := list2 hl
  clear hl
  obtain ⟨a, ha, _⟩ := trod_i ⟨_, (hf 0 _ rfl).trans (List.getElem?_eq_getElem (by omega))⟩
  obtain ⟨b, hb, _⟩ := trod_i ⟨_, (hf 1 _ rfl).trans (List.getElem?_eq_getElem (by omega))⟩
  simp [cells_int] at ha hb
  exact ⟨a, b, by rw [ha, hb]⟩
theorem trod_boat (h : ∃ y, DataW.trod enc Tryd.prog w base spare held fuel 51 cs = some y) : ∃ a b p r, cs = [.int .i64 a, .int .i64 b, .int .i64 p, .int .i64 r] := by
  obtain ⟨y, h⟩ := h
  obtain ⟨xs, n, rfl, _, hl, hx, hf⟩ := DataW.trod_struct Tryd.underlying51 h
  rw [cells_boat] at hl
  have hx : xs.length = 3 := hx
  obtain ⟨c0, c1, c2, c3, rfl⟩ := list4 hl
  clear hl
  obtain ⟨a, b, hab⟩ := trod_span ⟨_, (hf 0 _ rfl).trans (List.getElem?_eq_getElem (by omega))⟩
  obtain ⟨p, hp, _⟩ := trod_i ⟨_, (hf 1 _ rfl).trans (List.getElem?_eq_getElem (by omega))⟩
  obtain ⟨r, hr, _⟩ := trod_i ⟨_, (hf 2 _ rfl).trans (List.getElem?_eq_getElem (by omega))⟩
  simp [cells_int, cells_span] at hab hp hr
  exact ⟨a, b, p, r, by rw [hab.1, hab.2, hp, hr]⟩
theorem trod_look (h : ∃ y, DataW.trod enc Tryd.prog w base spare held fuel 55 cs = some y) : ∃ d a b, cs = [.int .i64 d, .int .i64 a, .int .i64 b] := by
  obtain ⟨y, h⟩ := h
  obtain ⟨xs, n, rfl, _, hl, hx, hf⟩ := DataW.trod_struct Tryd.underlying55 h
  rw [cells_look] at hl
  have hx : xs.length = 2 := hx
  obtain ⟨c0, c1, c2, rfl⟩ := list3 hl
  clear hl
  obtain ⟨d, hd, _⟩ := trod_i ⟨_, (hf 0 _ rfl).trans (List.getElem?_eq_getElem (by omega))⟩
  obtain ⟨a, b, hab⟩ := trod_span ⟨_, (hf 1 _ rfl).trans (List.getElem?_eq_getElem (by omega))⟩
  simp [cells_int, cells_span] at hab hd
  exact ⟨d, a, b, by rw [hab.1, hab.2, hd]⟩

theorem block_lt {W : World} {a : Addr} {v : Value} (h : W.cell? a = some v) : a.block < W.heap.size := by
  apply Classical.byContradiction
  intro hn
  have : W.heap[a.block]? = none := by simp; omega
  simp [World.cell?, this] at h

/-- A slice of elements of k cells each, as a list of what they are. -/
theorem row_of {α : Type} {t e : TypeId} {k : Nat} (d : α) (g : α → List Value) (hk : 0 < k) (hg : ∀ y, (g y).length = k) (ht : Tryd.prog.underlying t = some (.slice e)) (hc : Tryd.prog.cellsOf e = k)
    (he : ∀ (fuel : Nat) (cs : List Value), (∃ y, DataW.trod enc Tryd.prog w base spare held fuel e cs = some y) → ∃ y, cs = g y)
    (h : ∃ y, DataW.trod enc Tryd.prog w base spare held fuel t cs = some y) :
    ∃ (ra : Option Addr) (l : List α) (rc : Nat), cs = [.slice ra l.length rc] ∧ l.length ≤ rc ∧ rc ≤ maxLen ∧ ElemsR w ra l.length k (fun i j => (g (l.getD i d)).getD j undef) := by
  obtain ⟨y, h⟩ := h
  rcases open_slice ht h with ⟨rfl, _⟩ | ⟨a, len, cap, m, n, D, Pl, rfl, hb, hl, hm, hmm, hx, hi⟩
  · exact ⟨none, [], 0, rfl, Nat.le_refl _, Nat.zero_le _, .inl rfl⟩
  · have hml : len ≤ m := by rw [hmm]; split <;> omega
    have : ∀ i, ∃ y : α, i < len → ∀ j, j < k → w.cell? (a.add (i * k + j)) = some ((g y).getD j undef) := by
      intro i
      by_cases hlt : i < len
      · obtain ⟨cs', h1, h2⟩ := hi i (by omega)
        obtain ⟨y, rfl⟩ := he n cs' ⟨_, h2⟩
        rw [hc] at h1
        obtain ⟨_, _, h3⟩ := World.cells?_some h1
        refine ⟨y, fun _ j hj => ?_⟩
        rw [← Go.Deep.add_add, h3 j hj, List.getElem?_eq_getElem (by rw [hg]; exact hj)]
        simp [hg, hj]
      · exact ⟨d, fun h => absurd h hlt⟩
    obtain ⟨f, hf⟩ := Classical.skolem.1 this
    refine ⟨some a, (List.range len).map f, cap, by simp, by simpa using hl, hm, ?_⟩
    by_cases h0 : len = 0
    · exact .inl (by simp [h0])
    · have h00 := hf 0 (by omega) 0 hk
      have hs := World.cell?_spot h00
      have hb := block_lt h00
      obtain ⟨b, off, sp⟩ := a
      obtain rfl : sp = none := by simpa [Addr.add] using hs
      have hadd : ∀ u, Addr.add ⟨b, off, none⟩ u = ⟨b, off + u, none⟩ := fun u => by simp [Addr.add]
      rw [hadd] at hb
      refine .inr ⟨b, off, rfl, hb, fun i j hi hj => ?_⟩
      simp only [List.length_map, List.length_range] at hi
      have := hf i hi j hj
      rw [hadd, ← Nat.add_assoc] at this
      rw [this]
      simp [hi]

def spanC (s : Int × Int) : List Value := [.int .i64 s.1, .int .i64 s.2]
def boatC (b : Boat) : List Value := [.int .i64 b.draws.1, .int .i64 b.draws.2, .int .i64 b.per, .int .i64 b.room]
def lookC (l : Look) : List Value := [.int .i64 l.day, .int .i64 l.depth.1, .int .i64 l.depth.2]
theorem elems_to {W : World} {ra : Option Addr} {n k : Nat} {f g : Nat → Nat → Value} (h : ElemsR W ra n k f) (he : ∀ i j, i < n → j < k → f i j = g i j) : ElemsR W ra n k g := by
  rcases h with h | ⟨b, off, h1, h2, h3⟩
  · exact .inl h
  · exact .inr ⟨b, off, h1, h2, fun i j hi hj => (h3 i j hi hj).trans (by rw [he i j hi hj])⟩
theorem trod_rain (h : ∃ y, DataW.trod enc Tryd.prog w base spare held fuel 24 cs = some y) : ∃ (ra : Option Addr) (l : List (Int × Int)) (rc : Nat), cs = [.slice ra l.length rc] ∧ l.length ≤ rc ∧ rc ≤ maxLen ∧ ElemsR w ra l.length 2 (spanCell l) := by
  obtain ⟨ra, l, rc, h1, h2, h3, h4⟩ := row_of (k := 2) (0, 0) spanC (by omega) (fun _ => rfl) Tryd.underlying24 cells_span (fun _ _ h => by obtain ⟨a, b, h⟩ := trod_span h; exact ⟨(a, b), h⟩) h
  refine ⟨ra, l, rc, h1, h2, h3, elems_to h4 fun i j _ hj => ?_⟩
  have : j = 0 ∨ j = 1 := by omega
  rcases this with rfl | rfl <;> rfl
theorem trod_boats (h : ∃ y, DataW.trod enc Tryd.prog w base spare held fuel 25 cs = some y) : ∃ (ra : Option Addr) (l : List Boat) (rc : Nat), cs = [.slice ra l.length rc] ∧ l.length ≤ rc ∧ rc ≤ maxLen ∧ ElemsR w ra l.length 4 (boatCell l) := by
  obtain ⟨ra, l, rc, h1, h2, h3, h4⟩ := row_of (k := 4) Cut.nobody boatC (by omega) (fun _ => rfl) Tryd.underlying25 cells_boat (fun _ _ h => by obtain ⟨a, b, p, r, h⟩ := trod_boat h; exact ⟨⟨(a, b), p, r⟩, h⟩) h
  refine ⟨ra, l, rc, h1, h2, h3, elems_to h4 fun i j _ hj => ?_⟩
  have : j = 0 ∨ j = 1 ∨ j = 2 ∨ j = 3 := by omega
  rcases this with rfl | rfl | rfl | rfl <;> rfl
theorem trod_looks (h : ∃ y, DataW.trod enc Tryd.prog w base spare held fuel 26 cs = some y) : ∃ (ra : Option Addr) (l : List Look) (rc : Nat), cs = [.slice ra l.length rc] ∧ l.length ≤ rc ∧ rc ≤ maxLen ∧ ElemsR w ra l.length 3 (lookCell l) := by
  obtain ⟨ra, l, rc, h1, h2, h3, h4⟩ := row_of (k := 3) Cut.noLook lookC (by omega) (fun _ => rfl) Tryd.underlying26 cells_look (fun _ _ h => by obtain ⟨d, a, b, h⟩ := trod_look h; exact ⟨⟨d, (a, b)⟩, h⟩) h
  refine ⟨ra, l, rc, h1, h2, h3, elems_to h4 fun i j _ hj => ?_⟩
  have : j = 0 ∨ j = 1 ∨ j = 2 := by omega
  rcases this with rfl | rfl | rfl <;> rfl

theorem cells_cut : Tryd.prog.cellsOf 28 = 8 := by kernel_rfl
theorem cells_rain : Tryd.prog.cellsOf 24 = 1 := by kernel_rfl
theorem cells_boats : Tryd.prog.cellsOf 25 = 1 := by kernel_rfl
theorem cells_looks : Tryd.prog.cellsOf 26 = 1 := by kernel_rfl
theorem trod_cut (h : ∃ y, DataW.trod enc Tryd.prog w base spare held fuel 28 cs = some y) : ∃ (c : CutD) (ra ba la : Option Addr) (rc bc lc : Nat), cs = cutCells c ra ba la rc bc lc ∧ (c.rain.length ≤ rc ∧ c.boats.length ≤ bc ∧ c.looks.length ≤ lc) ∧
    ElemsR w ra c.rain.length 2 (spanCell c.rain) ∧ ElemsR w ba c.boats.length 4 (boatCell c.boats) ∧ ElemsR w la c.looks.length 3 (lookCell c.looks) := by
  obtain ⟨y, h⟩ := h
  obtain ⟨xs, n, rfl, _, hl, hx, hf⟩ := DataW.trod_struct Tryd.underlying28 h
  rw [cells_cut] at hl
  have hx : xs.length = 6 := hx
  obtain ⟨c0, c1, c2, c3, c4, c5, c6, c7, rfl⟩ := list8 hl
  clear hl
  obtain ⟨d1, d2, hd⟩ := trod_span ⟨_, (hf 0 _ rfl).trans (List.getElem?_eq_getElem (by omega))⟩
  obtain ⟨e1, e2, he⟩ := trod_span ⟨_, (hf 1 _ rfl).trans (List.getElem?_eq_getElem (by omega))⟩
  obtain ⟨ra, rain, rc, hr, kr, _, hra⟩ := trod_rain ⟨_, (hf 2 _ rfl).trans (List.getElem?_eq_getElem (by omega))⟩
  obtain ⟨m, hm, _⟩ := trod_i ⟨_, (hf 3 _ rfl).trans (List.getElem?_eq_getElem (by omega))⟩
  obtain ⟨ba, boats, bc, hb, kb, _, hba⟩ := trod_boats ⟨_, (hf 4 _ rfl).trans (List.getElem?_eq_getElem (by omega))⟩
  obtain ⟨la, looks, lc, hlk, kl, _, hla⟩ := trod_looks ⟨_, (hf 5 _ rfl).trans (List.getElem?_eq_getElem (by omega))⟩
  simp [cells_int, cells_span, cells_rain, cells_boats, cells_looks] at hd he hr hm hb hlk
  exact ⟨⟨(d1, d2), (e1, e2), rain, m, boats, looks⟩, ra, ba, la, rc, bc, lc, by rw [hd.1, hd.2, he.1, he.2, hr, hm, hb, hlk]; rfl, ⟨kr, kb, kl⟩, hra, hba, hla⟩
end
end Go.Proofs.YtlkhjnpflohfeaaDoor
