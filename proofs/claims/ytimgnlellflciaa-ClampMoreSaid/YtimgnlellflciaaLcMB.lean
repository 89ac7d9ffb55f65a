/- The Go function ClampMore returns true, for every argument, in every world in which it is called; nothing that was there is turned. No condition. -/
import Derived.Test.YtimgnlellflciaaLcMA
import Derived.Test.YtimgnlellflciaaCmEA
import Derived.Test.YtimgnlellflciaaProg
import Derived.KernelRfl
import Derived.Test.YtimgnlellflciaaCmPE
import Derived.Test.YtimgnlellflciaaCmPF
/- ClampMore, gone through: its middle. -/
namespace Go.Proofs.Ytimgnlellflciaa
open Go
namespace Ev
namespace K
attribute [local simp] ev1 wantG spineK spine float xnew xval xeff zaa zaq zbc zav zaw addFl cellsOf pickC alive slLen slFt binI maxA maxK minA minK aeqK aeqS AV.cells spA zar fillA setAt bitsI nat_nn zbg AV.plain apart
set_option maxRecDepth 100000
set_option maxHeartbeats 4000000
theorem QFacts.app {call : CallF} {i : Nat} {e : Int} {bs hs ss al : Clm.Sp} {G : List AB} {v : AV} (h : QFacts call i e bs hs ss al G v) (J : List AB) : QFacts call i e bs hs ss al (G ++ J) v := by
  have a : ∀ K, G ++ J ++ K = G ++ (J ++ K) := fun K => List.append_assoc ..
  rcases h with h | ⟨h, k, l, o, r, er, f1, f2, f3, f4, h5⟩
  · exact .inl fun K => by rw [a]; exact h _
  · exact .inr ⟨fun K => by rw [a]; exact h _, k, l, o, r, er, fun K => by rw [a]; exact f1 _, fun K => by rw [a]; exact f2 _, fun K => by rw [a]; exact f3 _, fun K => by rw [a]; exact f4 _, h5⟩
theorem SFacts.app {call : CallF} {i : Nat} {e : Int} {bs hs ss al : Clm.Sp} {G : List AB} {v : AV} (h : SFacts call i e bs hs ss al G v) (J : List AB) : SFacts call i e bs hs ss al (G ++ J) v := by
  have a : ∀ K, G ++ J ++ K = G ++ (J ++ K) := fun K => List.append_assoc ..
  obtain ⟨f1, f2, f3, f4⟩ := h
  exact ⟨fun K => by rw [a]; exact f1 _, fun K => by rw [a]; exact f2 _, fun K => by rw [a]; exact f3 _, fun K => by rw [a]; exact f4 _⟩
theorem zvv {lo : Nat} {G : List AB} {ps : List Clm.Pl} {n : Nat} {v : AV} (h : Grw lo 6 G (pileCs ps) n v) (K : List AB) : pilesV (G ++ K) v ps := by
  cases h with
  | none h0 _ =>
    cases ps with
    | nil => exact zrs _
    | cons p l => simp [pileCs] at h0
  | some q _ h1 h2 => exact zuk (h1.app K).get (by rw [zck] at h2; omega)
theorem zyt {lo : Nat} {G : List AB} {es : List Clm.Evt} {n : Nat} {v : AV} (h : Grw lo 4 G (evtCs es) n v) (K : List AB) : evtsV (G ++ K) v es := by
  cases h with
  | none h0 _ =>
    cases es with
    | nil => exact zwe _
    | cons p l => simp [evtCs] at h0
  | some q _ h1 h2 => exact zgi (h1.app K).get (by rw [zbn] at h2; omega)
def mo3Ex (a5 a13 a14 a15 : Nat) (es : List Clm.Evt) (nP iw : Nat) (wa wb : Int) (G : List AB) : St := { tm := tmA 481 [(165, .bool false), (164, .int .i64 es.length), (163, .int .i64 es.length), (162, .vs 4 (es.map evtE)), (15, .ptr a15 0), (14, .ptr a14 0), (13, .ptr a13 0), (12, .int .i64 iw), (11, .int .i64 nP), (5, .ptr a5 0), (4, .int .u8 wb), (3, .int .u8 wa)], df := [], hp := G, tc := [] }
theorem zyh (C : Cfg) (hC : C.calm = true) (call : CallF) (hA : LApi call) (hI : InC call) (hW : WthC call) (hS : SaleC call) (c : Clm.Cl) (hc : Clm.Fine c) (w : Nat) (H : List AB) (a5 a13 a14 a15 qx qy lo iw : Nat) (wa wb : Nat) (hwa : wa ≤ 255) (hwb : wb ≤ 255) (hi : iw < c.piles.length) (G : List AB) (hG : H.length ≤ G.length) (lvp lve : AV) (v1 v2 v3 : Int)
    (h5 : HB G a5 (.cells (clampCs c))) (h13 : HB G a13 (.cells [.vs 6 (c.piles.map pileE), .int .i64 c.pack.lo, .int .i64 c.pack.hi, .sl qx 0 (c.events.length + 1) 4])) (hqx : HB G qx (.cells (evtCs c.events ++ [.int .i64 1, .int .i64 v1, .int .i64 v2, .int .i64 v3])))
    (h14 : HB G a14 (.cells [.vs 6 (c.piles.map pileE), .int .i64 c.pack.lo, .int .i64 c.pack.hi, .sl qy 0 c.events.length 4])) (hqy : HB G qy (.cells (evtCs (Clm.narrow c w).events)))
    (h15 : HB G a15 (.cells [lvp, .int .i64 c.pack.lo, .int .i64 c.pack.hi, lve])) (hgp : Grw lo 6 G (pileCs c.piles.reverse) c.piles.length lvp) (hge : Grw lo 4 G (evtCs (c.events.map (Clm.revE c.piles.length))) c.events.length lve) (_hl1 : lvp.plain = true) (_hl2 : lve.plain = true) :
    Does (ev C call H.length none (atP [1, 1, 1, 1, 1, 1, 1, 1, 1, 1, 1] af9.body) (mo3Ex a5 a13 a14 a15 c.events c.piles.length iw wa wb G))
      (Ends C H.length af9.res fun v _ _ => v = .bool true) := by
  have hp4 := hc.piles
  have he6 := hc.events
  have kx : ∀ K, clOf (G ++ K) (.agg [.vs 6 (c.piles.map pileE), .int .i64 c.pack.lo, .int .i64 c.pack.hi, .sl qx 0 (c.events.length + 1) 4]) = some (Clm.plus c ⟨1, v1, ⟨v2, v3⟩⟩) := fun K =>
    zhi (zdv _ c.piles) (zgi (l := c.events ++ [⟨1, v1, ⟨v2, v3⟩⟩]) (by rw [(hqx.app K).get, zct]; rfl) (by simp)) (a := c.pack.lo) (b := c.pack.hi) (by omega) (by simp; omega)
  have ky : ∀ K, clOf (G ++ K) (.agg [.vs 6 (c.piles.map pileE), .int .i64 c.pack.lo, .int .i64 c.pack.hi, .sl qy 0 c.events.length 4]) = some (Clm.narrow c w) := fun K =>
    zhi (zdv _ c.piles) (zgi (hqy.app K).get (by rw [Clm.setTo_len])) (a := c.pack.lo) (b := c.pack.hi) (by omega) (by rw [Clm.setTo_len]; omega)
  have kz : ∀ K, clOf (G ++ K) (.agg [lvp, .int .i64 c.pack.lo, .int .i64 c.pack.hi, lve]) = some (Clm.revC c) := fun K =>
    zhi (zvv hgp K) (zyt hge K) (a := c.pack.lo) (b := c.pack.hi) (by simp; omega) (by simp; omega)
  have qxf := zuj hA hc (fun hf => Clm.plus_less hf rfl) rfl hi kx
  have qyf := zuj hA hc (fun _ => Clm.narrow_less hc w) rfl hi ky
  have qzf := zzm hA hc hi kz
  have hcl := fun H => zwq H c (by omega) (by omega)
  have s0 := znz hA (G := []) hi (v := .agg (clampCs c)) (fun K => hcl K)
  obtain ⟨f1, f2, f3, f4⟩ := s0
  simp only [List.nil_append] at f1 f2 f3 f4
  have gG : ∀ n, ¬ (G.length + n < H.length) := fun n => by omega
  have gG0 : ¬ (G.length < H.length) := by omega
  have hbd : c.events.length ≤ bound := by unfold bound; omega
  have hbp : c.piles.length ≤ bound := by unfold bound; omega
  have hsE : ∀ H, slCells 4 H (.vs 4 (c.events.map evtE)) = some (evtCs c.events) := fun H => zih H c.events
  have hsP : ∀ H, slCells 6 H (.vs 6 (c.piles.map pileE)) = some (pileCs c.piles) := fun H => zdv H c.piles
  have h5' := h5
  have h15' := h15
  generalize sp0 c (Clm.ofAll c iw builtG) = bs at *
  generalize sp0 c (Clm.hasC c iw) = hs at *
  generalize sp0 c (Clm.ofAll c iw (soldG c)) = ss at *
  generalize sp0 c (Clm.together c (fullP c)) = al at *
  generalize errOf c true = e at *
  have HX := hideP (And.intro qxf (And.intro qyf (And.intro qzf (And.intro h5' (And.intro h15' (And.intro hG (And.intro hp4 (And.intro he6 hc))))))))
  obtain ⟨A1, A2, A3⟩ := h5
  obtain ⟨B1, B2, B3⟩ := h15
  obtain ⟨D1, D2, D3⟩ := h13
  obtain ⟨E1, E2, E3⟩ := h14
  have n5 : ¬ (a5 = G.length) := by omega
  have n6 : ∀ n, ¬ (a5 = G.length + n) := fun n => by omega
  have HY := hideP (And.intro hA (And.intro hI (And.intro hW (And.intro hS (And.intro hi (And.intro hwa hwb))))))
  clear hqx hqy hgp hge h5' h15' qxf qyf qzf hG hp4 he6 hcl kx ky kz hc hA hI hW hS hi hwa hwb
  unfold af9 mo3Ex
  simp only [atP, clampCs] at *
  (repeat (first | ((with_reducible apply zah); (focus ((with_reducible apply zbb); (focus rfl); (focus rfl); (focus ((conv => lhs; simp [List.getElem?_append_right, List.set_append_right, List.getElem?_cons_zero, List.getElem?_append_left, List.set_append_left, -getElem?_pos, ↓zbo, zby, zdg, zbn, zck, Nat.testBit_eq_decide_div_mod_eq, *]) <;> exact rfl)); (focus rfl); (focus rfl))); simp only [addFl]) | (with_reducible apply zah; (focus ((conv => lhs; simp [List.getElem?_append_right, List.set_append_right, List.getElem?_cons_zero, List.getElem?_append_left, List.set_append_left, -getElem?_pos, ↓zbo, zby, zdg, zbn, zck, Nat.testBit_eq_decide_div_mod_eq, *]) <;> exact rfl)); simp only [addFl]) | ((with_reducible first | apply zai | apply zak | apply zag | apply zae | apply zac | apply zaj | apply zaf | apply zam | (apply zad; · simp [zaa, *]) | (apply zab; · simp [zaa, *])); try simp only [Then, Ops]) | simp only [Nat.reduceEqDiff, reduceIte, OutB, Then]))
  clear f1 f2 f3 f4 hsE hsP n5 n6 A1 A2 A3 B1 B2 B3 D1 D2 D3 E1 E2 E3 gG gG0 hbd hbp
  have g8 : HB (G ++ [.dead, .dead, .cells (pileCs c.piles), .cells (evtCs c.events), .cells [.int .i64 bs.lo, .int .i64 bs.hi], .cells [.int .i64 hs.lo, .int .i64 hs.hi], .cells [.int .i64 ss.lo, .int .i64 ss.hi], .cells [.int .i64 al.lo, .int .i64 al.hi], .cells [.vs 6 (c.piles.map pileE), .int .i64 c.pack.lo, .int .i64 c.pack.hi, .sl qx 0 (c.events.length + 1) 4, .vs 6 (c.piles.map pileE), .int .i64 c.pack.lo, .int .i64 c.pack.hi, .sl qy 0 c.events.length 4]]) (G.length + 8) (.cells [.vs 6 (c.piles.map pileE), .int .i64 c.pack.lo, .int .i64 c.pack.hi, .sl qx 0 (c.events.length + 1) 4, .vs 6 (c.piles.map pileE), .int .i64 c.pack.lo, .int .i64 c.pack.hi, .sl qy 0 c.events.length 4]) := hb (by rw [far_get]; rfl)
  have g4 : HB (G ++ [.dead, .dead, .cells (pileCs c.piles), .cells (evtCs c.events), .cells [.int .i64 bs.lo, .int .i64 bs.hi], .cells [.int .i64 hs.lo, .int .i64 hs.hi], .cells [.int .i64 ss.lo, .int .i64 ss.hi], .cells [.int .i64 al.lo, .int .i64 al.hi], .cells [.vs 6 (c.piles.map pileE), .int .i64 c.pack.lo, .int .i64 c.pack.hi, .sl qx 0 (c.events.length + 1) 4, .vs 6 (c.piles.map pileE), .int .i64 c.pack.lo, .int .i64 c.pack.hi, .sl qy 0 c.events.length 4]]) (G.length + 4) (.cells [.int .i64 bs.lo, .int .i64 bs.hi]) := hb (by rw [far_get]; rfl)
  have g5 : HB (G ++ [.dead, .dead, .cells (pileCs c.piles), .cells (evtCs c.events), .cells [.int .i64 bs.lo, .int .i64 bs.hi], .cells [.int .i64 hs.lo, .int .i64 hs.hi], .cells [.int .i64 ss.lo, .int .i64 ss.hi], .cells [.int .i64 al.lo, .int .i64 al.hi], .cells [.vs 6 (c.piles.map pileE), .int .i64 c.pack.lo, .int .i64 c.pack.hi, .sl qx 0 (c.events.length + 1) 4, .vs 6 (c.piles.map pileE), .int .i64 c.pack.lo, .int .i64 c.pack.hi, .sl qy 0 c.events.length 4]]) (G.length + 5) (.cells [.int .i64 hs.lo, .int .i64 hs.hi]) := hb (by rw [far_get]; rfl)
  have g6 : HB (G ++ [.dead, .dead, .cells (pileCs c.piles), .cells (evtCs c.events), .cells [.int .i64 bs.lo, .int .i64 bs.hi], .cells [.int .i64 hs.lo, .int .i64 hs.hi], .cells [.int .i64 ss.lo, .int .i64 ss.hi], .cells [.int .i64 al.lo, .int .i64 al.hi], .cells [.vs 6 (c.piles.map pileE), .int .i64 c.pack.lo, .int .i64 c.pack.hi, .sl qx 0 (c.events.length + 1) 4, .vs 6 (c.piles.map pileE), .int .i64 c.pack.lo, .int .i64 c.pack.hi, .sl qy 0 c.events.length 4]]) (G.length + 6) (.cells [.int .i64 ss.lo, .int .i64 ss.hi]) := hb (by rw [far_get]; rfl)
  have g7 : HB (G ++ [.dead, .dead, .cells (pileCs c.piles), .cells (evtCs c.events), .cells [.int .i64 bs.lo, .int .i64 bs.hi], .cells [.int .i64 hs.lo, .int .i64 hs.hi], .cells [.int .i64 ss.lo, .int .i64 ss.hi], .cells [.int .i64 al.lo, .int .i64 al.hi], .cells [.vs 6 (c.piles.map pileE), .int .i64 c.pack.lo, .int .i64 c.pack.hi, .sl qx 0 (c.events.length + 1) 4, .vs 6 (c.piles.map pileE), .int .i64 c.pack.lo, .int .i64 c.pack.hi, .sl qy 0 c.events.length 4]]) (G.length + 7) (.cells [.int .i64 al.lo, .int .i64 al.hi]) := hb (by rw [far_get]; rfl)
  have g2 : HB (G ++ [.dead, .dead, .cells (pileCs c.piles), .cells (evtCs c.events), .cells [.int .i64 bs.lo, .int .i64 bs.hi], .cells [.int .i64 hs.lo, .int .i64 hs.hi], .cells [.int .i64 ss.lo, .int .i64 ss.hi], .cells [.int .i64 al.lo, .int .i64 al.hi], .cells [.vs 6 (c.piles.map pileE), .int .i64 c.pack.lo, .int .i64 c.pack.hi, .sl qx 0 (c.events.length + 1) 4, .vs 6 (c.piles.map pileE), .int .i64 c.pack.lo, .int .i64 c.pack.hi, .sl qy 0 c.events.length 4]]) (G.length + 2) (.cells (pileCs c.piles)) := hb (by rw [far_get]; rfl)
  have g3 : HB (G ++ [.dead, .dead, .cells (pileCs c.piles), .cells (evtCs c.events), .cells [.int .i64 bs.lo, .int .i64 bs.hi], .cells [.int .i64 hs.lo, .int .i64 hs.hi], .cells [.int .i64 ss.lo, .int .i64 ss.hi], .cells [.int .i64 al.lo, .int .i64 al.hi], .cells [.vs 6 (c.piles.map pileE), .int .i64 c.pack.lo, .int .i64 c.pack.hi, .sl qx 0 (c.events.length + 1) 4, .vs 6 (c.piles.map pileE), .int .i64 c.pack.lo, .int .i64 c.pack.hi, .sl qy 0 c.events.length 4]]) (G.length + 3) (.cells (evtCs c.events)) := hb (by rw [far_get]; rfl)
  with_reducible refine zaz hC 2 (by decide) (fun j st => ∃ K, st = mo4St a5 a15 (G.length + 4) (G.length + 5) (G.length + 6) (G.length + 7) (G.length + 8) c.piles.length iw e (.sl (G.length + 2) 0 c.piles.length 6) (.sl (G.length + 3) 0 c.events.length 4) wa wb j ((G ++ [.dead, .dead, .cells (pileCs c.piles), .cells (evtCs c.events), .cells [.int .i64 bs.lo, .int .i64 bs.hi], .cells [.int .i64 hs.lo, .int .i64 hs.hi], .cells [.int .i64 ss.lo, .int .i64 ss.hi], .cells [.int .i64 al.lo, .int .i64 al.hi], .cells [.vs 6 (c.piles.map pileE), .int .i64 c.pack.lo, .int .i64 c.pack.hi, .sl qx 0 (c.events.length + 1) 4, .vs 6 (c.piles.map pileE), .int .i64 c.pack.lo, .int .i64 c.pack.hi, .sl qy 0 c.events.length 4]]) ++ K)) ?_ ?_ ?_
  · refine ⟨[], ?_⟩
    unfold mo4St
    (refine st_is ?_ ?_ ?_ ?_; (focus (simp [zan, zap])); (focus rfl); (focus (first | rfl | (simp; done) | (simp [*]; done) | (simp; rfl) | (simp [*]; omega) | (simp; omega))); (focus (first | rfl | simp)))
  · rintro j st hj ⟨K, rfl⟩
    obtain ⟨qxf, qyf, qzf, h5, h15, hG, hp4, he6, hc⟩ := HX.out
    obtain ⟨hA, hI, hW, hS, hi, hwa, hwb⟩ := HY.out
    obtain rfl | rfl : j = 0 ∨ j = 1 := by omega
    · have hr := ziz C call hI H a5 a15 (G.length + 4) (G.length + 5) (G.length + 6) (G.length + 7) (G.length + 8) c.piles.length iw e (.sl (G.length + 2) 0 c.piles.length 6) (.sl (G.length + 3) 0 c.events.length 4) wa wb bs hs ss al 0 (by omega) (G ++ [.dead, .dead, .cells (pileCs c.piles), .cells (evtCs c.events), .cells [.int .i64 bs.lo, .int .i64 bs.hi], .cells [.int .i64 hs.lo, .int .i64 hs.hi], .cells [.int .i64 ss.lo, .int .i64 ss.hi], .cells [.int .i64 al.lo, .int .i64 al.hi], .cells [.vs 6 (c.piles.map pileE), .int .i64 c.pack.lo, .int .i64 c.pack.hi, .sl qx 0 (c.events.length + 1) 4, .vs 6 (c.piles.map pileE), .int .i64 c.pack.lo, .int .i64 c.pack.hi, .sl qy 0 c.events.length 4]]) K (by simp only [List.length_append]; omega) _ _ _ _ _ g8 rfl rfl rfl g4 g5 g6 g7 (qxf.app _)
      refine Does.mono hr ?_
      rintro e st ⟨rfl, K', h⟩
      exact ⟨K', h⟩
    · have hr := ziz C call hI H a5 a15 (G.length + 4) (G.length + 5) (G.length + 6) (G.length + 7) (G.length + 8) c.piles.length iw e (.sl (G.length + 2) 0 c.piles.length 6) (.sl (G.length + 3) 0 c.events.length 4) wa wb bs hs ss al 1 (by omega) (G ++ [.dead, .dead, .cells (pileCs c.piles), .cells (evtCs c.events), .cells [.int .i64 bs.lo, .int .i64 bs.hi], .cells [.int .i64 hs.lo, .int .i64 hs.hi], .cells [.int .i64 ss.lo, .int .i64 ss.hi], .cells [.int .i64 al.lo, .int .i64 al.hi], .cells [.vs 6 (c.piles.map pileE), .int .i64 c.pack.lo, .int .i64 c.pack.hi, .sl qx 0 (c.events.length + 1) 4, .vs 6 (c.piles.map pileE), .int .i64 c.pack.lo, .int .i64 c.pack.hi, .sl qy 0 c.events.length 4]]) K (by simp only [List.length_append]; omega) _ _ _ _ _ g8 rfl rfl rfl g4 g5 g6 g7 (qyf.app _)
      refine Does.mono hr ?_
      rintro e st ⟨rfl, K', h⟩
      exact ⟨K', h⟩
  · rintro st ⟨K, rfl⟩
    obtain ⟨qxf, qyf, qzf, h5, h15, hG, hp4, he6, hc⟩ := HX.out
    obtain ⟨hA, hI, hW, hS, hi, hwa, hwb⟩ := HY.out
    have hend := zyi C hC call hA hW hS c hc H a5 a15 (G.length + 4) (G.length + 5) (G.length + 6) (G.length + 7) (G.length + 8) iw (G.length + 2) (G.length + 3) wa wb hwa hwb hi e bs hs ss al ((G ++ [.dead, .dead, .cells (pileCs c.piles), .cells (evtCs c.events), .cells [.int .i64 bs.lo, .int .i64 bs.hi], .cells [.int .i64 hs.lo, .int .i64 hs.hi], .cells [.int .i64 ss.lo, .int .i64 ss.hi], .cells [.int .i64 al.lo, .int .i64 al.hi], .cells [.vs 6 (c.piles.map pileE), .int .i64 c.pack.lo, .int .i64 c.pack.hi, .sl qx 0 (c.events.length + 1) 4, .vs 6 (c.piles.map pileE), .int .i64 c.pack.lo, .int .i64 c.pack.hi, .sl qy 0 c.events.length 4]]) ++ K) (by simp only [List.length_append]; omega) _ _ _ _ ((h5.app _).app _) ((h15.app _).app _) (g4.app _) (g5.app _) (g6.app _) (g7.app _) (g2.app _) (g3.app _) ((qzf.app _).app _)
    clear qxf qyf qzf h5 h15 hG hp4 he6 hc hA hI hW hS hi hwa hwb g8 g4 g5 g6 g7 g2 g3
    unfold af9 mo4Ex at hend
    simp only [atP, List.append_assoc, List.cons_append, List.nil_append] at hend
    have HE := hideP hend
    clear hend
    unfold mo4St
    (iterate 7 (first | ((with_reducible apply zah); (focus ((with_reducible apply zbb); (focus rfl); (focus rfl); (focus ((conv => lhs; simp [List.getElem?_append_right, List.set_append_right, List.getElem?_cons_zero, List.getElem?_append_left, List.set_append_left, -getElem?_pos, Nat.testBit_eq_decide_div_mod_eq, *]) <;> exact rfl)); (focus rfl); (focus rfl))); simp only [addFl]) | (with_reducible apply zah; (focus ((conv => lhs; simp [List.getElem?_append_right, List.set_append_right, List.getElem?_cons_zero, List.getElem?_append_left, List.set_append_left, -getElem?_pos, Nat.testBit_eq_decide_div_mod_eq, *]) <;> exact rfl)); simp only [addFl]) | ((with_reducible first | apply zai | apply zak | apply zag | apply zae | apply zac | apply zaj | apply zaf | apply zam | (apply zad; · simp [zaa, *]) | (apply zab; · simp [zaa, *])); try simp only [Then, Ops, OutB, reduceIte]) | simp only [Nat.reduceEqDiff, reduceIte, OutB, Then]))
    with_reducible exact HE.out
end K
end Ev
end Go.Proofs.Ytimgnlellflciaa

/- ClampMore, gone through. -/
namespace Go.Proofs.Ytimgnlellflciaa
open Go
namespace Ev
namespace K
attribute [local simp] ev1 wantG spineK spine float xnew xval xeff zaa zaq zbc zav zaw addFl cellsOf pickC alive slLen slFt binI maxA maxK minA minK aeqK aeqS AV.cells spA zar fillA setAt bitsI nat_nn zbg AV.plain apart
set_option maxRecDepth 100000
set_option maxHeartbeats 4000000
theorem Grw.move {lo k : Nat} {G G' : List AB} {cs : List AV} {n a lo' : Nat} {v : AV} (h : Grw lo k G cs n v) (ha : a < lo) (hl : G.length ≤ lo') (hm : ∀ r x, r < lo' → r ≠ a → HB G r x → HB G' r x) : Grw lo k G' cs n v := by
  cases h with
  | none h0 h1 => exact .none h0 h1
  | some q h0 h1 h2 => exact .some q h0 (hm _ _ (by have := h1.lt; omega) (by omega) h1) h2
theorem Grw.mono {lo lo' k : Nat} {G : List AB} {cs : List AV} {n : Nat} {v : AV} (h : Grw lo k G cs n v) (hl : lo' ≤ lo) : Grw lo' k G cs n v := by
  cases h with
  | none h0 h1 => exact .none h0 h1
  | some q h0 h1 h2 => exact .some q (by omega) h1 h2
theorem Grw.plain {lo k : Nat} {G : List AB} {cs : List AV} {n : Nat} {v : AV} (h : Grw lo k G cs n v) : v.plain = true := by
  cases h with
  | none h0 h1 => rfl
  | some q h0 h1 h2 => rfl
structure MoI (H : List AB) (c : Clm.Cl) (v1 v2 v3 : Int) (G : List AB) : Prop where
  c0 : HB G H.length (.cells (clampCs c))
  x0 : HB G (H.length + 2) (.cells [.vs 6 (c.piles.map pileE), .int .i64 c.pack.lo, .int .i64 c.pack.hi, .sl (H.length + 5 + 6) 0 (c.events.length + 1) 4])
  y0 : HB G (H.length + 3) (.cells [.vs 6 (c.piles.map pileE), .int .i64 c.pack.lo, .int .i64 c.pack.hi, .sl (H.length + 13) 0 c.events.length 4])
  x1 : HB G (H.length + 5 + 6) (.cells (evtCs c.events ++ [.int .i64 1, .int .i64 v1, .int .i64 v2, .int .i64 v3]))
theorem MoI.move {H : List AB} {c : Clm.Cl} {v1 v2 v3 : Int} {G G' : List AB} (h : MoI H c v1 v2 v3 G) (hm : ∀ r x, r < H.length + 13 → r ≠ H.length + 4 → HB G r x → HB G' r x) : MoI H c v1 v2 v3 G' :=
  ⟨hm _ _ (by omega) (by omega) h.c0, hm _ _ (by omega) (by omega) h.x0, hm _ _ (by omega) (by omega) h.y0, hm _ _ (by omega) (by omega) h.x1⟩
theorem zsd (C : Cfg) (hC : C.calm = true) (call : CallF) (hA : LApi call) (hI : InC call) (hW : WthC call) (hS : SaleC call) (c : Clm.Cl) (v0 v1 v2 v3 : Int) (w : Int) (hw0 : 0 ≤ w ∧ w ≤ 255) (wa : Int) (hwa : 0 ≤ wa ∧ wa ≤ 255) (wb : Int) (hwb : 0 ≤ wb ∧ wb ≤ 255) (H : List AB) :
    Does (ev C call H.length none af9.body { tm := tmA af9.ntmps (zipI 0 [.agg (clampCs c), .agg [.int .i64 v0, .int .i64 v1, .int .i64 v2, .int .i64 v3], .int .u8 w, .int .u8 wa, .int .u8 wb] []), df := [], hp := H, tc := [] })
      (Ends C H.length af9.res fun v _ _ => v = .bool true) := by
  obtain ⟨w, rfl⟩ : ∃ n : Nat, w = n := ⟨w.toNat, by omega⟩
  obtain ⟨wa, rfl⟩ : ∃ n : Nat, wa = n := ⟨wa.toNat, by omega⟩
  obtain ⟨wb, rfl⟩ : ∃ n : Nat, wb = n := ⟨wb.toNat, by omega⟩
  have hl := fun H => hA.long (H := H) c
  have ha := fun H => hA.alive (H := H)
  by_cases hlen : max c.piles.length c.events.length > 40
  · rw [decide_eq_true hlen] at hl
    clear hA hlen hW hw0 hwa hwb hI hS
    unfold af9
    simp only [zipI, clampCs] at *
    (repeat (first | (with_reducible apply zah; (focus ((conv => lhs; simp [Nat.testBit_eq_decide_div_mod_eq, *]) <;> exact rfl)); simp only [addFl]) | ((with_reducible first | apply zai | apply zak | apply zag | apply zae | apply zac | apply zaj | apply zaf | apply zam | (apply zad; · simp [zaa, *]) | (apply zab; · simp [zaa, *])); try simp only [Then, Ops]) | simp only [Nat.reduceEqDiff, reduceIte, OutB, Then]))
    exact zao (v := .bool true) (.inl rfl) rfl (by simp) (by simp only [resL, resOf, zal]; simp [resV, *]) rfl
  rw [decide_eq_false hlen] at hl
  have hcl := fun H => zwq H c (by omega) (by omega)
  have hv := fun H => hA.valid (hcl H)
  cases hval : Clm.valid c with
  | false =>
    rw [hval] at hv
    clear hA hlen hW hw0 hwa hwb hI hS hcl hval
    unfold af9
    simp only [zipI, clampCs] at *
    (repeat (first | (with_reducible apply zah; (focus ((conv => lhs; simp [Nat.testBit_eq_decide_div_mod_eq, *]) <;> exact rfl)); simp only [addFl]) | ((with_reducible first | apply zai | apply zak | apply zag | apply zae | apply zac | apply zaj | apply zaf | apply zam | (apply zad; · simp [zaa, *]) | (apply zab; · simp [zaa, *])); try simp only [Then, Ops]) | simp only [Nat.reduceEqDiff, reduceIte, OutB, Then]))
    exact zao (v := .bool true) (.inl rfl) rfl (by simp) (by simp only [resL, resOf, zal]; simp [resV, *]) rfl
  | true =>
  rw [hval] at hv
  have hc := (Clm.valid_iff c).1 hval
  have hp4 := hc.piles
  have he6 := hc.events
  have hwc : IntKind.i64.wrap (w : Int) = w := zas (by omega) (by omega)
  have hl0 : ¬ c.piles = [] := fun e => by rw [e] at hp4; simp at hp4
  obtain ⟨iw, hi, hmi⟩ : ∃ i : Nat, i < c.piles.length ∧ (w : Int).tmod (c.piles.length : Int) = (i : Int) := by
    have h1 := Int.tmod_nonneg (c.piles.length : Int) hw0.1
    have h2 := Int.tmod_lt_of_pos w (show (0 : Int) < (c.piles.length : Int) by omega)
    exact ⟨((w : Int).tmod (c.piles.length : Int)).toNat, by omega, by omega⟩
  have hW1 : ∀ (H : List AB), call (.fn (.func 28) [] []) [.agg (clampCs c), .agg [.int .i64 1, .int .i64 v1, .int .i64 v2, .int .i64 v3]] H = some (.ret (.agg [.vs 6 (c.piles.map pileE), .int .i64 c.pack.lo, .int .i64 c.pack.hi, .sl (H.length + 6) 0 (c.events.length + 1) 4]), H ++ withK H.length (.vs 6 (c.piles.map pileE)) c.pack.lo c.pack.hi (evtCs c.events) c.events.length 1 v1 v2 v3, []) := fun H =>
    hW H c.piles c.pack.lo c.pack.hi _ c.events (.inl rfl) (by omega) 1 v1 v2 v3
  have hbd : c.events.length ≤ bound := by unfold bound; omega
  have hsE : ∀ H, slCells 4 H (.vs 4 (c.events.map evtE)) = some (evtCs c.events) := fun H => zih H c.events
  have HX := hideP (And.intro hc (And.intro hA (And.intro hI (And.intro hW (And.intro hS (And.intro hi (And.intro hp4 (And.intro he6 (And.intro hw0 (And.intro hwa hwb))))))))))
  clear hc hA hI hW hS hi hp4 he6 hlen hcl hval hw0 hwa hwb
  unfold af9
  simp only [zipI, clampCs] at *
  (repeat (first | ((with_reducible apply zah); (focus ((with_reducible apply zbb); (focus rfl); (focus rfl); (focus ((conv => lhs; simp [List.getElem?_append_right, List.set_append_right, List.getElem?_cons_zero, List.getElem?_append_left, List.set_append_left, -getElem?_pos, ↓zbo, withK, zby, zbn, Nat.testBit_eq_decide_div_mod_eq, *]) <;> exact rfl)); (focus rfl); (focus rfl))); simp only [addFl]) | (with_reducible apply zah; (focus ((conv => lhs; simp [List.getElem?_append_right, List.set_append_right, List.getElem?_cons_zero, List.getElem?_append_left, List.set_append_left, -getElem?_pos, ↓zbo, withK, zby, zbn, Nat.testBit_eq_decide_div_mod_eq, *]) <;> exact rfl)); simp only [addFl]) | ((with_reducible first | apply zai | apply zak | apply zag | apply zae | apply zac | apply zaj | apply zaf | apply zam | (apply zad; · simp [zaa, *]) | (apply zab; · simp [zaa, *])); try simp only [Then, Ops]) | simp only [Nat.reduceEqDiff, reduceIte, OutB, Then]))
  clear hW1 hsE hv hl
  with_reducible refine zaz hC c.events.length (by have := HX.out.2.2.2.2.2.2.2.1; unfold fuelL; omega) (fun i st => ∃ G, MoI H c v1 v2 v3 G ∧ HB G (H.length + 13) (.cells (evtCs (Clm.setTo (Clm.narE w) c.events i))) ∧ HB G (H.length + 4) (.cells (clampCs c)) ∧ H.length + 14 ≤ G.length ∧ st = moSt H.length (H.length + 2) (H.length + 3) (H.length + 4) c.events.length c.piles.length iw w wa wb i G) ?_ ?_ ?_
  · refine ⟨H ++ [.cells (clampCs c), .cells [.int .i64 1, .int .i64 v1, .int .i64 v2, .int .i64 v3], .cells [.vs 6 (c.piles.map pileE), .int .i64 c.pack.lo, .int .i64 c.pack.hi, .sl (H.length + 5 + 6) 0 (c.events.length + 1) 4], .cells [.vs 6 (c.piles.map pileE), .int .i64 c.pack.lo, .int .i64 c.pack.hi, .sl (H.length + 13) 0 c.events.length 4], .cells (clampCs c), .cells [.vs 6 (c.piles.map pileE), .int .i64 c.pack.lo, .int .i64 c.pack.hi, .sl (H.length + 5 + 6) 0 (c.events.length + 1) 4], .cells [.int .i64 1, .int .i64 v1, .int .i64 v2, .int .i64 v3], .cells [.vs 6 (c.piles.map pileE), .int .i64 c.pack.lo, .int .i64 c.pack.hi, .sl (H.length + 5 + 6) 0 (c.events.length + 1) 4], .dead, .cells [.int .i64 1, .int .i64 v1, .int .i64 v2, .int .i64 v3], .dead, .cells (evtCs c.events ++ [.int .i64 1, .int .i64 v1, .int .i64 v2, .int .i64 v3]), .dead, .cells (evtCs c.events)], ⟨hb (by rw [List.getElem?_append_right (by omega), Nat.sub_self]; rfl), hb far_get, hb far_get, hb ?_⟩, hb ?_, hb far_get, ?_, ?_⟩
    · rw [Nat.add_assoc]; exact far_get
    · exact far_get
    · simp only [List.length_append, List.length_cons, List.length_nil]; omega
    · unfold moSt
      (refine st_is ?_ ?_ ?_ ?_; (focus (simp [zan, zap])); (focus rfl); (focus (first | rfl | (simp; done) | (simp [*]; done) | (simp; rfl) | (simp [*]; omega) | (simp; omega))); (focus (first | rfl | simp)))
  · rintro i st hil ⟨G, hM, hE, hZ, hlG, rfl⟩
    obtain ⟨hc, hA, hI, hW, hS, hi, hp4, he6, hw0, hwa, hwb⟩ := HX.out
    have hr := zom C call c hc H H.length (H.length + 2) (H.length + 3) (H.length + 4) (H.length + 13) c.piles.length iw w (by omega) wa wb i hil G (by omega) (by omega) hM.y0 hE
    refine Does.mono hr ?_
    rintro e st ⟨rfl, h⟩
    exact ⟨_, hM.move (fun r x h1 h2 h3 => h3.set _ (by omega)), hE.here _, hZ.set _ (by omega), by rw [List.length_set]; exact hlG, h⟩
  · rintro st ⟨G, hM, hE, hZ, hlG, rfl⟩
    have hM' := hM
    have hE' := hE
    have hZ' := hZ
    obtain ⟨⟨A1, A2, A3⟩, _, _, _⟩ := hM
    obtain ⟨Z1, Z2, Z3⟩ := hZ
    have HY := hideP (And.intro hM' (And.intro hE' (And.intro hZ' hlG)))
    have gz : ¬ (H.length + 4 < H.length) := by omega
    clear hM' hE' hZ' hE hlG
    unfold moSt
    simp only [clampCs] at *
    (repeat (first | ((with_reducible apply zah); (focus ((with_reducible apply zbb); (focus rfl); (focus rfl); (focus ((conv => lhs; simp [List.getElem?_append_right, List.set_append_right, List.getElem?_cons_zero, List.getElem?_append_left, List.set_append_left, -getElem?_pos, Nat.testBit_eq_decide_div_mod_eq, *]) <;> exact rfl)); (focus rfl); (focus rfl))); simp only [addFl]) | (with_reducible apply zah; (focus ((conv => lhs; simp [List.getElem?_append_right, List.set_append_right, List.getElem?_cons_zero, List.getElem?_append_left, List.set_append_left, -getElem?_pos, Nat.testBit_eq_decide_div_mod_eq, *]) <;> exact rfl)); simp only [addFl]) | ((with_reducible first | apply zai | apply zak | apply zag | apply zae | apply zac | apply zaj | apply zaf | apply zam | (apply zad; · simp [zaa, *]) | (apply zab; · simp [zaa, *])); try simp only [Then, Ops, OutB, reduceIte]) | simp only [Nat.reduceEqDiff, reduceIte, OutB, Then]))
    clear A1 A2 A3 Z1 Z2 Z3 gz
    with_reducible refine zaz hC c.piles.length (by have := HX.out.2.2.2.2.2.2.1; unfold fuelL; omega) (fun i st => ∃ G lv, MoI H c v1 v2 v3 G ∧ HB G (H.length + 13) (.cells (evtCs (Clm.narrow c w).events)) ∧ HB G (H.length + 4) (.cells [lv, .int .i64 c.pack.lo, .int .i64 c.pack.hi, .nils]) ∧ Grw (H.length + 14) 6 G (pileCs (c.piles.reverse.take i)) i lv ∧ H.length + 14 ≤ G.length ∧ st = mo2St H.length (H.length + 2) (H.length + 3) (H.length + 4) c.piles.length c.piles.length iw wa wb i G) ?_ ?_ ?_
    · obtain ⟨hM, hE, hZ, hlG⟩ := HY.out
      refine ⟨_, .nils, hM.move (fun r x h1 h2 h3 => h3.set _ (Ne.symm h2)), hE.set _ (by omega), hZ.here _, .none rfl rfl, by rw [List.length_set]; exact hlG, ?_⟩
      unfold mo2St
      (refine st_is ?_ ?_ ?_ ?_; (focus (simp [zan, zap])); (focus rfl); (focus (first | rfl | (simp; done) | (simp [*]; done) | (simp; rfl) | (simp [*]; omega) | (simp; omega))); (focus (first | rfl | simp)))
    · rintro i st hil ⟨G, lv, hM, hE, hZ, hg, hlG, rfl⟩
      obtain ⟨hc, hA, hI, hW, hS, hi, hp4, he6, hw0, hwa, hwb⟩ := HX.out
      have hr := zol C call c hc H H.length (H.length + 2) (H.length + 3) (H.length + 4) iw (H.length + 14) wa wb i hil G (by omega) (by omega) hlG (by omega) (by omega) (by omega) lv .nils hM.c0 hZ rfl hg
      refine Does.mono hr ?_
      rintro e st ⟨rfl, G', lv', h1, h2, h3, h4, h5⟩
      exact ⟨G', lv', hM.move (fun r x a b d => h2 r x (by omega) b d), h2 _ _ (by omega) (by omega) hE, h3, h4, by omega, h5⟩
    · rintro st ⟨G, lvp, hM, hE, hZ, hgp, hlG, rfl⟩
      rw [List.take_of_length_le (by simp)] at hgp
      have hM' := hM
      obtain ⟨⟨A1, A2, A3⟩, _, _, _⟩ := hM
      have HZ := hideP (And.intro hM' (And.intro hE (And.intro hZ (And.intro hgp hlG))))
      clear hM' hE hZ hgp hlG HY
      unfold mo2St
      simp only [clampCs] at *
      (repeat (first | ((with_reducible apply zah); (focus ((with_reducible apply zbb); (focus rfl); (focus rfl); (focus ((conv => lhs; simp [List.getElem?_append_right, List.set_append_right, List.getElem?_cons_zero, List.getElem?_append_left, List.set_append_left, -getElem?_pos, Nat.testBit_eq_decide_div_mod_eq, *]) <;> exact rfl)); (focus rfl); (focus rfl))); simp only [addFl]) | (with_reducible apply zah; (focus ((conv => lhs; simp [List.getElem?_append_right, List.set_append_right, List.getElem?_cons_zero, List.getElem?_append_left, List.set_append_left, -getElem?_pos, Nat.testBit_eq_decide_div_mod_eq, *]) <;> exact rfl)); simp only [addFl]) | ((with_reducible first | apply zai | apply zak | apply zag | apply zae | apply zac | apply zaj | apply zaf | apply zam | (apply zad; · simp [zaa, *]) | (apply zab; · simp [zaa, *])); try simp only [Then, Ops, OutB, reduceIte]) | simp only [Nat.reduceEqDiff, reduceIte, OutB, Then]))
      clear A1 A2 A3
      with_reducible refine zaz hC c.events.length (by have := HX.out.2.2.2.2.2.2.2.1; unfold fuelL; omega) (fun i st => ∃ G' lv, (∀ r x, r < G.length → r ≠ H.length + 4 → HB G r x → HB G' r x) ∧ HB G' (H.length + 4) (.cells [lvp, .int .i64 c.pack.lo, .int .i64 c.pack.hi, lv]) ∧ Grw G.length 4 G' (evtCs ((c.events.map (Clm.revE c.piles.length)).take i)) i lv ∧ G.length ≤ G'.length ∧ st = mo3St H.length (H.length + 2) (H.length + 3) (H.length + 4) c.events c.piles.length iw wa wb i G') ?_ ?_ ?_
      · obtain ⟨hM, hE, hZ, hgp, hlG⟩ := HZ.out
        refine ⟨G, .nils, fun r x _ _ h => h, hZ, .none rfl rfl, Nat.le_refl _, ?_⟩
        unfold mo3St
        (refine st_is ?_ ?_ ?_ ?_; (focus (simp [zan, zap])); (focus rfl); (focus (first | rfl | (simp; done) | (simp [*]; done) | (simp; rfl) | (simp [*]; omega) | (simp; omega))); (focus (first | rfl | simp)))
      · rintro i st hil ⟨G', lv, hm, hZ, hg, hl2, rfl⟩
        have hlG := HZ.out.2.2.2.2
        obtain ⟨hc, hA, hI, hW, hS, hi, hp4, he6, hw0, hwa, hwb⟩ := HX.out
        have hr := zok C call c hc H H.length (H.length + 2) (H.length + 3) (H.length + 4) iw G.length wa wb i hil G' (by omega) hl2 (by omega) (by omega) lv lvp hZ hg
        refine Does.mono hr ?_
        rintro e st ⟨rfl, G2, lv', h1, h2, h3, h4, h5⟩
        exact ⟨G2, lv', fun r x a b d => h2 r x a b (hm r x a b d), h3, h4, by omega, h5⟩
      · rintro st ⟨G', lve, hm, hZ, hge, hl2, rfl⟩
        obtain ⟨hM, hE, _, hgp, hlG⟩ := HZ.out
        replace hM := hM.move (fun r x a b d => hm r x (by omega) b d)
        replace hE := hm _ _ (by omega) (by omega) hE
        replace hgp := hgp.move (by omega) (Nat.le_refl _) hm
        obtain ⟨hc, hA, hI, hW, hS, hi, hp4, he6, hw0, hwa, hwb⟩ := HX.out
        rw [List.take_of_length_le (by simp)] at hge
        have hend := zyh C hC call hA hI hW hS c hc w H H.length (H.length + 2) (H.length + 3) (H.length + 4) (H.length + 5 + 6) (H.length + 13) (H.length + 14) iw wa wb (by omega) (by omega) hi G' (by omega) lvp lve v1 v2 v3 hM.c0 hM.x0 hM.x1 hM.y0 hE hZ hgp (hge.mono (by omega)) hgp.plain hge.plain
        clear hc hA hI hW hS hi hp4 he6 hw0 hwa hwb hM hE hZ hgp hge hl2 hlG HX HZ hm
        unfold af9 mo3Ex at hend
        simp only [atP] at hend
        have HE := hideP hend
        clear hend
        unfold mo3St
        (iterate 7 (first | ((with_reducible apply zah); (focus ((with_reducible apply zbb); (focus rfl); (focus rfl); (focus ((conv => lhs; simp [List.getElem?_append_right, List.set_append_right, List.getElem?_cons_zero, List.getElem?_append_left, List.set_append_left, -getElem?_pos, Nat.testBit_eq_decide_div_mod_eq, *]) <;> exact rfl)); (focus rfl); (focus rfl))); simp only [addFl]) | (with_reducible apply zah; (focus ((conv => lhs; simp [List.getElem?_append_right, List.set_append_right, List.getElem?_cons_zero, List.getElem?_append_left, List.set_append_left, -getElem?_pos, Nat.testBit_eq_decide_div_mod_eq, *]) <;> exact rfl)); simp only [addFl]) | ((with_reducible first | apply zai | apply zak | apply zag | apply zae | apply zac | apply zaj | apply zaf | apply zam | (apply zad; · simp [zaa, *]) | (apply zab; · simp [zaa, *])); try simp only [Then, Ops, OutB, reduceIte]) | simp only [Nat.reduceEqDiff, reduceIte, OutB, Then]))
        with_reducible exact HE.out
end K
end Ev
end Go.Proofs.Ytimgnlellflciaa

/- The code of functions of the laws is that of the program. Printed by program. -/
namespace Go.Proofs.Ytimgnlellflciaa
open Go Go.Proofs
namespace Ev
set_option maxRecDepth 1000000
theorem is9 : ∃ F, Try.prog.funcs[9]? = some F ∧ (F.name == "runtime.NumGoroutine") = false ∧ compFn Try.prog F = some af9.strip := ⟨_, Try.func9, by kernel_rfl, by kernel_rfl⟩
theorem is33 : ∃ F, Try.prog.funcs[33]? = some F ∧ (F.name == "runtime.NumGoroutine") = false ∧ compFn Try.prog F = some af33.strip := ⟨_, Try.func33, by kernel_rfl, by kernel_rfl⟩
end Ev
end Go.Proofs.Ytimgnlellflciaa

/- The code of functions of the laws is that of the program. Printed by program. -/
namespace Go.Proofs.Ytimgnlellflciaa
open Go Go.Proofs
namespace Ev
set_option maxRecDepth 1000000
theorem is28 : ∃ F, Try.prog.funcs[28]? = some F ∧ (F.name == "runtime.NumGoroutine") = false ∧ compFn Try.prog F = some af28.strip := ⟨_, Try.func28, by kernel_rfl, by kernel_rfl⟩
end Ev
end Go.Proofs.Ytimgnlellflciaa

/- The functions that the law ClampMore goes through itself. Printed by program. -/
namespace Go.Proofs.Ytimgnlellflciaa
open Go Go.Proofs
namespace Ev
def treeClampMore : FT := (.node 28 af28 (.node 20 af20 (.node 9 af9 .leaf .leaf) (.node 21 af21 .leaf .leaf)) (.node 33 af33 (.node 29 af29 .leaf .leaf) (.node 34 af34 .leaf .leaf)))
theorem zhy : FT.All (fun k af => ∃ F, Try.prog.funcs[k]? = some F ∧ (F.name == "runtime.NumGoroutine") = false ∧ compFn Try.prog F = some af.strip) treeClampMore :=
  ⟨is28, ⟨is20, ⟨is9, trivial, trivial⟩, ⟨is21, trivial, trivial⟩⟩, ⟨is33, ⟨is29, trivial, trivial⟩, ⟨is34, trivial, trivial⟩⟩⟩
end Ev
end Go.Proofs.Ytimgnlellflciaa

/- The Go function ClampMore returns true, for every argument, in every world in which it is called; nothing that was there is turned. No condition. -/
namespace Go.Proofs.Ytimgnlellflciaa
open Go Go.Proofs Go.ChangeShapes Go.WideShapes Go.ChangeAt Go.RowKit
namespace Ev
namespace K
theorem lawClampMore (W : World) (c : Clm.Cl) {v0 : Value} (hv0 : VR W (fun _ => False) nomu (.agg (clampCs c)) v0) (x1 : Clm.Evt) {v1 : Value} (hv1 : VR W (fun _ => False) nomu (evtE x1) v1) (x2 : Int) (b2 : (Lit.int .u8 x2).wf = true) {v2 : Value} (hv2 : VR W (fun _ => False) nomu (.int .u8 x2) v2) (x3 : Int) (b3 : (Lit.int .u8 x3).wf = true) {v3 : Value} (hv3 : VR W (fun _ => False) nomu (.int .u8 x3) v3) (x4 : Int) (b4 : (Lit.int .u8 x4).wf = true) {v4 : Value} (hv4 : VR W (fun _ => False) nomu (.int .u8 x4) v4) : CallsIn Fence.wide 0 Try.prog 9 #[v0, v1, v2, v3, v4] W fun e W' => e = .returned (.bool true) ∧ Below W.heap.size W W' := by
  have hz : ∀ {f : Nat} {af : AFunc}, (cfgL treeClampMore).exth f = none → FT.find treeClampMore f = some af → Has (cfgL treeClampMore) f af := fun h1 h2 => has_of rfl h1 h2 rfl
  have la := fun n => lapi (t := treeClampMore) (hz rfl (by kernel_rfl)) (hz rfl (by kernel_rfl)) n
  have k : Has (cfgL treeClampMore) 9 af9 := hz rfl (by kernel_rfl)
  obtain ⟨v, hp, tc, H', h1, h2, _⟩ := zco (C := cfgL treeClampMore) (n := 4) (first := []) (captured := []) (args := [.agg (clampCs c), evtE x1, .int .u8 x2, .int .u8 x3, .int .u8 x4]) (H := []) (Q := fun v _ _ => v = .bool true) rfl k.ext k.exth k.fns k.whole (le' rfl) (zsd (cfgL treeClampMore) rfl _ (la 3) (fun H a0 a1 a2 a3 => zbd rfl (hz rfl (by kernel_rfl)) (le' rfl) rfl (in_fun (cfgL treeClampMore) _ H a0 a1 a2 a3)) (fun H ps a b lv es hev he a0 a1 a2 a3 => zli rfl (hz rfl (by kernel_rfl)) (le' rfl) (by simp [refs, refsL]) (zxb (cfgL treeClampMore) _ H ps a b lv es hev he a0 a1 a2 a3)) (fun H n a b => zbd rfl (hz rfl (by kernel_rfl)) (le' rfl) rfl (zxn (cfgL treeClampMore) _ (la 2) H n a b)) c x1.kind x1.clamp x1.sods.lo x1.sods.hi x2 (zjt b2) x3 (zjt b3) x4 (zjt b4) [])
  subst h2
  refine (zlx (tblL zhy) h1 trivial (zdx _ _ _) (rargs := #[v0, v1, v2, v3, v4]) ⟨rfl, fun i y r hy hr => ?_⟩).mono ?_
  · match i, hy, hr with
    | 0, hy, hr => cases hy; cases hr; exact hv0
    | 1, hy, hr => cases hy; cases hr; exact hv1
    | 2, hy, hr => cases hy; cases hr; exact hv2
    | 3, hy, hr => cases hy; cases hr; exact hv3
    | 4, hy, hr => cases hy; cases hr; exact hv4
    | i + 5, hy, hr => simp at hy
  · rintro e W' ⟨⟨w, rfl, hw⟩, bel⟩
    exact ⟨by rw [yap hw W], bel⟩
end K
end Ev
set_option maxRecDepth 100000 in
theorem zia (os : Os) (started : os.Started) (H : Type) (enc : TypeId × Value → H) :
    ReturnsInHanded {} Try.checked os 9 .any (Rows.clampMoreSpec.pre6 enc Try.prog Try.f9 Rows.clampMoreRow.domain false) (Rows.clampMoreSpec.post enc Try.prog Try.f9 false true false false) := by
  refine returnsInHanded_of_change (C := Try.checked) zoe started (by kernel_rfl) Try.func9
    (ChangeSpec.witness6 (enc := enc) (C := Try.checked) false ⟨#[], #[noClamp, .agg #[.int .i64 0, .int .i64 0, .int .i64 0, .int .i64 0], .int .u8 0, .int .u8 0, .int .u8 0], []⟩ 8 (by kernel_rfl) (by kernel_rfl) (by kernel_rfl) (by kernel_rfl)) ?_
  intro W base args ds gs before hval0 hW hcnd _
  have hval : ∀ (j : Nat) t v, Try.f9.params[j]? = some t → args[j]? = some v → Value.okWide Try.prog W .any base t v := hval0
  have hW' := hW
  obtain ⟨p, q, hA0, hV, rfl, hfz, hnd⟩ := hW
  have hA : DataW.TrodAll enc Try.prog W 0 (fun _ => true) true Try.f9.params.toList args.toList ds p := hA0
  rw [Try.params9] at hA hval
  obtain ⟨v0, vs0, d0, ds0, p0, q0, hargs0, rfl, rfl, h0, hA1⟩ := trodAll_cons hA
  obtain ⟨v1, vs1, d1, ds1, p1, q1, rfl, rfl, rfl, h1, hA2⟩ := trodAll_cons hA1
  obtain ⟨v2, vs2, d2, ds2, p2, q2, rfl, rfl, rfl, h2, hA3⟩ := trodAll_cons hA2
  obtain ⟨v3, vs3, d3, ds3, p3, q3, rfl, rfl, rfl, h3, hA4⟩ := trodAll_cons hA3
  obtain ⟨v4, vs4, d4, ds4, p4, q4, rfl, rfl, rfl, h4, hA5⟩ := trodAll_cons hA4
  obtain ⟨rfl, rfl, rfl⟩ := trodAll_nil hA5
  obtain rfl : args = #[v0, v1, v2, v3, v4] := Array.ext' hargs0
  obtain ⟨rfl, rfl, rfl⟩ := trodVars_none hV
  clear hA0 hval0
  obtain ⟨c, hx0⟩ := zrv (hval 0 30 v0 rfl rfl) h0
  obtain ⟨x1, hx1⟩ := zxx (hval 1 54 v1 rfl rfl) h1
  obtain ⟨x2, rfl, rfl, rfl, wf2⟩ := open_int Try.underlying5 (hval 2 5 v2 rfl rfl) h2
  obtain ⟨x3, rfl, rfl, rfl, wf3⟩ := open_int Try.underlying5 (hval 3 5 v3 rfl rfl) h3
  obtain ⟨x4, rfl, rfl, rfl, wf4⟩ := open_int Try.underlying5 (hval 4 5 v4 rfl rfl) h4
  simp only [List.append_nil] at hW'
  have hlt : ∀ x ∈ (p0 ++ (p1 ++ ([] ++ ([] ++ ([] ++ []))))), x.block < W.heap.size := fun x hx => by simpa using hW'.lt x (by simpa using hx)
  refine (callsIn_wide.1 (Ev.K.lawClampMore W c hx0 x1 hx1 x2 wf2 .int x3 wf3 .int x4 wf4 .int)).mono fun e W' ⟨he, bel⟩ => ?_
  subst he
  refine ⟨_, rfl, _, _, _, [], (p0 ++ (p1 ++ ([] ++ ([] ++ ([] ++ []))))), [], by simpa using hW', ?_, ?_, ?_, bel.frame _, fun h => by cases h⟩
  · exact trodAll_mk1 (shut_bool Try.underlying4 true)
  · exact trodAll_cons_mk (Below.trod laidOut' (by kernel_rfl) (of_decide_eq_true (by kernel_rfl)) h0 bel (fun x hx => hlt x (by simp [hx]))) (trodAll_cons_mk (Below.trod laidOut' (by kernel_rfl) (of_decide_eq_true (by kernel_rfl)) h1 bel (fun x hx => hlt x (by simp [hx]))) (trodAll_cons_mk (shut_int Try.underlying5 wf2) (trodAll_cons_mk (shut_int Try.underlying5 wf3) (trodAll_cons_mk (shut_int Try.underlying5 wf4) (trodAll_mk0)))))
  · exact rfl
theorem clampMore_holds : Rows.ClampMoreSaid :=
  OpenClaim.holds_of_wide 9 Try.f9 rfl rfl rfl rfl rfl rfl rfl ⟨rfl, rfl, rfl, rfl, rfl⟩ rfl rfl rfl rfl rfl (by kernel_rfl) Try.func9 (by kernel_rfl)
    (of_decide_eq_true (by kernel_rfl)) (by unfold Func.isWrapper; first | (rw [if_pos (by decide +kernel)]; kernel_rfl) | (rw [if_neg (by decide +kernel)]; exact ⟨rfl, rfl⟩))
    (fun os started H enc _ => zia os started H enc)
#print axioms clampMore_holds
end Go.Proofs.Ytimgnlellflciaa
