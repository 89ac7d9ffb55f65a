/- What the rows of chapter 09 share. -/
import Derived.Test.YtimgnlellflciaaCmPE
import Derived.Test.YtimgnlellflciaaRows
import Derived.WalkKit
import Derived.ProofKit
import Derived.OpenShut
import Derived.KernelRfl
import Derived.Deep.Slices
import Derived.Deep.Fields
import Derived.ChangeSame
/- An argument that is clamps: from its reading to the evaluator's value. -/
namespace Go.Proofs.Ytimgnlellflciaa
open Go Go.Proofs Go.RowKit Go.ChangeShapes Go.WideShapes Go.Deep
namespace Ev
namespace K
section
variable {H : Type} {enc : TypeId × Value → H} {w : World} {base : Nat} {spare : Nat → Bool} {held : Bool} {fuel : Nat} {cs : List Value}
theorem list2 {cs : List Value} (h : cs.length = 2) : ∃ a b, cs = [a, b] := by
  match cs, h with | [a, b], _ => exact ⟨a, b, rfl⟩
theorem list4 {cs : List Value} (h : cs.length = 4) : ∃ a b c d, cs = [a, b, c, d] := by
  match cs, h with | [a, b, c, d], _ => exact ⟨a, b, c, d, rfl⟩
theorem list6 {cs : List Value} (h : cs.length = 6) : ∃ a b c d e f, cs = [a, b, c, d, e, f] := by
  match cs, h with | [a, b, c, d, e, f], _ => exact ⟨a, b, c, d, e, f, rfl⟩
theorem znm : Try.prog.cellsOf 3 = 1 := by kernel_rfl
theorem zfj : Try.prog.cellsOf 23 = 2 := by kernel_rfl
theorem zkq : Try.prog.cellsOf 58 = 6 := by kernel_rfl
theorem zjq : Try.prog.cellsOf 54 = 4 := by kernel_rfl
theorem zpb : Try.prog.cellsOf 30 = 4 := by kernel_rfl
theorem zpa : Try.prog.cellsOf 27 = 1 := by kernel_rfl
theorem znn : Try.prog.cellsOf 28 = 1 := by kernel_rfl
theorem trod_i (h : ∃ y, DataW.trod enc Try.prog w base spare held fuel 3 cs = some y) : ∃ n, cs = [.int .i64 n] := by
  obtain ⟨y, h⟩ := h
  obtain ⟨n, h1, _, h2⟩ := DataW.trod_int Try.underlying3 h
  exact ⟨n, h1⟩
theorem zeo (h : ∃ y, DataW.trod enc Try.prog w base spare held fuel 23 cs = some y) : ∃ a b, cs = [.int .i64 a, .int .i64 b] := by
  obtain ⟨y, h⟩ := h
  obtain ⟨xs, n, rfl, _, hl, hx, hf⟩ := DataW.trod_struct Try.underlying23 h
  rw [zfj] at hl
  have hx : xs.length = 2 := hx
  obtain ⟨c0, c1, rfl⟩ := list2 hl
  clear hl
  obtain ⟨a, ha⟩ := trod_i ⟨_, (hf 0 _ rfl).trans (List.getElem?_eq_getElem (by omega))⟩
  obtain ⟨b, hb⟩ := trod_i ⟨_, (hf 1 _ rfl).trans (List.getElem?_eq_getElem (by omega))⟩
  simp [znm] at ha hb
  exact ⟨a, b, by rw [ha, hb]⟩
def pileR (p : Clm.Pl) : List Value := [.int .i64 p.long.lo, .int .i64 p.long.hi, .int .i64 p.wide.lo, .int .i64 p.wide.hi, .int .i64 p.high.lo, .int .i64 p.high.hi]
def evtR (e : Clm.Evt) : List Value := [.int .i64 e.kind, .int .i64 e.clamp, .int .i64 e.sods.lo, .int .i64 e.sods.hi]
theorem ztl (h : ∃ y, DataW.trod enc Try.prog w base spare held fuel 58 cs = some y) : ∃ p, cs = pileR p := by
  obtain ⟨y, h⟩ := h
  obtain ⟨xs, n, rfl, _, hl, hx, hf⟩ := DataW.trod_struct Try.underlying58 h
  rw [zkq] at hl
  have hx : xs.length = 3 := hx
  obtain ⟨c0, c1, c2, c3, c4, c5, rfl⟩ := list6 hl
  clear hl
  obtain ⟨a, b, hab⟩ := zeo ⟨_, (hf 0 _ rfl).trans (List.getElem?_eq_getElem (by omega))⟩
  obtain ⟨d, e, hde⟩ := zeo ⟨_, (hf 1 _ rfl).trans (List.getElem?_eq_getElem (by omega))⟩
  obtain ⟨f, g, hfg⟩ := zeo ⟨_, (hf 2 _ rfl).trans (List.getElem?_eq_getElem (by omega))⟩
  simp [zfj] at hab hde hfg
  exact ⟨⟨⟨a, b⟩, ⟨d, e⟩, ⟨f, g⟩⟩, by rw [hab.1, hab.2, hde.1, hde.2, hfg.1, hfg.2]; rfl⟩
theorem trod_event (h : ∃ y, DataW.trod enc Try.prog w base spare held fuel 54 cs = some y) : ∃ p, cs = evtR p := by
  obtain ⟨y, h⟩ := h
  obtain ⟨xs, n, rfl, _, hl, hx, hf⟩ := DataW.trod_struct Try.underlying54 h
  rw [zjq] at hl
  have hx : xs.length = 3 := hx
  obtain ⟨c0, c1, c2, c3, rfl⟩ := list4 hl
  clear hl
  obtain ⟨a, ha⟩ := trod_i ⟨_, (hf 0 _ rfl).trans (List.getElem?_eq_getElem (by omega))⟩
  obtain ⟨b, hb⟩ := trod_i ⟨_, (hf 1 _ rfl).trans (List.getElem?_eq_getElem (by omega))⟩
  obtain ⟨f, g, hfg⟩ := zeo ⟨_, (hf 2 _ rfl).trans (List.getElem?_eq_getElem (by omega))⟩
  simp [znm, zfj] at ha hb hfg
  exact ⟨⟨a, b, ⟨f, g⟩⟩, by rw [ha, hb, hfg.1, hfg.2]; rfl⟩
theorem row_vr {α : Type} {t e : TypeId} {k : Nat} (d : α) (g : α → List Value) (G : α → AV) (hk : 0 < k) (hg : ∀ y, (g y).length = k) (hG : ∀ y, (G y).cells.length = k) (hv : ∀ (y : α) (j : Nat) (x : AV) (r : Value), (G y).cells[j]? = some x → (g y)[j]? = some r → VR w (fun _ => False) nomu x r)
    (ht : Try.prog.underlying t = some (.slice e)) (hc : Try.prog.cellsOf e = k)
    (he : ∀ (fuel : Nat) (cs : List Value), (∃ y, DataW.trod enc Try.prog w base spare held fuel e cs = some y) → ∃ y, cs = g y)
    (h : ∃ y, DataW.trod enc Try.prog w base spare held fuel t cs = some y) :
    ∃ (l : List α) (x : Value), cs = [x] ∧ VR w (fun _ => False) nomu (.vs k (l.map G)) x := by
  obtain ⟨y, h⟩ := h
  rcases open_slice ht h with ⟨rfl, _⟩ | ⟨a, len, cap, m, n, D, Pl, rfl, hb, hl, hm, hmm, hx, hi⟩
  · exact ⟨[], _, rfl, .vs0⟩
  · have hml : len ≤ m := by rw [hmm]; split <;> omega
    have : ∀ i, ∃ y : α, i < len → ∀ j, j < k → ∃ r, (g y)[j]? = some r ∧ w.cell? (a.add (i * k + j)) = some r := by
      intro i
      by_cases hlt : i < len
      · obtain ⟨cs', h1, h2⟩ := hi i (by omega)
        obtain ⟨y, rfl⟩ := he n cs' ⟨_, h2⟩
        rw [hc] at h1
        obtain ⟨_, _, h3⟩ := World.cells?_some h1
        refine ⟨y, fun _ j hj => ⟨(g y)[j]'(by rw [hg]; exact hj), List.getElem?_eq_getElem _, ?_⟩⟩
        rw [← Go.Deep.add_add, h3 j hj, List.getElem?_eq_getElem (by rw [hg]; exact hj)]
      · exact ⟨d, fun h => absurd h hlt⟩
    obtain ⟨f, hf⟩ := Classical.skolem.1 this
    refine ⟨(List.range len).map f, _, rfl, ?_⟩
    by_cases h0 : len = 0
    · subst h0; exact .vs0
    · obtain ⟨r0, _, h00⟩ := hf 0 (by omega) 0 hk
      have hs := World.cell?_spot h00
      obtain ⟨b, off, sp⟩ := a
      obtain rfl : sp = none := by simpa [Addr.add] using hs
      have hadd : ∀ u, Addr.add ⟨b, off, none⟩ u = ⟨b, off + u, none⟩ := fun u => by simp [Addr.add]
      have hlen : (((List.range len).map f).map G).length = len := by simp
      have hat : ∀ (i : Nat) (e : AV), (((List.range len).map f).map G)[i]? = some e → i < len ∧ e = G (f i) := by
        intro i e h
        have hi : i < len := by have := (List.getElem?_eq_some_iff.1 h).1; simpa using this
        simp [hi] at h
        exact ⟨hi, h.symm⟩
      have key : VR w (fun _ => False) nomu (.vs k (((List.range len).map f).map G)) (.slice (some ⟨b, off, none⟩) (((List.range len).map f).map G).length cap) := by
        refine .vs (fun i j => (g (f i)).getD j .nilFunc) (by rw [hlen]; exact hl) (fun i e h => ?_) (fun i e j x h hx => ⟨id, ?_⟩) (fun i e j x h hx => ?_)
        · obtain ⟨_, rfl⟩ := hat i e h; exact hG _
        · obtain ⟨hi, rfl⟩ := hat i e h
          have hj : j < k := by have := (List.getElem?_eq_some_iff.1 hx).1; rwa [hG] at this
          obtain ⟨r, h1, h2⟩ := hf i hi j hj
          rw [hadd, ← Nat.add_assoc] at h2
          rw [h2, List.getD_eq_getElem?_getD, h1]; rfl
        · obtain ⟨hi, rfl⟩ := hat i e h
          have hj : j < k := by have := (List.getElem?_eq_some_iff.1 hx).1; rwa [hG] at this
          obtain ⟨r, h1, h2⟩ := hf i hi j hj
          rw [List.getD_eq_getElem?_getD, h1]
          exact hv _ j x r hx h1
      rw [hlen] at key
      exact key
theorem zpm {l : List AV} {m : List Value} (h : ∀ (j : Nat) (x : AV) (r : Value), l[j]? = some x → m[j]? = some r → ∃ n, x = .int .i64 n ∧ r = .int .i64 n) (j : Nat) (x : AV) (r : Value) (h1 : l[j]? = some x) (h2 : m[j]? = some r) : VR w (fun _ => False) nomu x r := by
  obtain ⟨n, rfl, rfl⟩ := h j x r h1 h2; exact .int
theorem zrf (h : ∃ y, DataW.trod enc Try.prog w base spare held fuel 27 cs = some y) : ∃ (l : List Clm.Pl) (x : Value), cs = [x] ∧ VR w (fun _ => False) nomu (.vs 6 (l.map pileE)) x :=
  row_vr (k := 6) default pileR pileE (by decide) (fun _ => rfl) (fun _ => rfl) (fun y => zpm fun j x r h1 h2 => by
    match j, h1, h2 with
    | 0, h1, h2 => cases h1; cases h2; exact ⟨_, rfl, rfl⟩
    | 1, h1, h2 => cases h1; cases h2; exact ⟨_, rfl, rfl⟩
    | 2, h1, h2 => cases h1; cases h2; exact ⟨_, rfl, rfl⟩
    | 3, h1, h2 => cases h1; cases h2; exact ⟨_, rfl, rfl⟩
    | 4, h1, h2 => cases h1; cases h2; exact ⟨_, rfl, rfl⟩
    | 5, h1, h2 => cases h1; cases h2; exact ⟨_, rfl, rfl⟩
    | j + 6, h1, h2 => simp [pileR] at h2) Try.underlying27 zkq (fun _ _ h => ztl h) h
theorem znu (h : ∃ y, DataW.trod enc Try.prog w base spare held fuel 28 cs = some y) : ∃ (l : List Clm.Evt) (x : Value), cs = [x] ∧ VR w (fun _ => False) nomu (.vs 4 (l.map evtE)) x :=
  row_vr (k := 4) default evtR evtE (by decide) (fun _ => rfl) (fun _ => rfl) (fun y => zpm fun j x r h1 h2 => by
    match j, h1, h2 with
    | 0, h1, h2 => cases h1; cases h2; exact ⟨_, rfl, rfl⟩
    | 1, h1, h2 => cases h1; cases h2; exact ⟨_, rfl, rfl⟩
    | 2, h1, h2 => cases h1; cases h2; exact ⟨_, rfl, rfl⟩
    | 3, h1, h2 => cases h1; cases h2; exact ⟨_, rfl, rfl⟩
    | j + 4, h1, h2 => simp [evtR] at h2) Try.underlying28 zjq (fun _ _ h => trod_event h) h
theorem trod_clamp (h : ∃ y, DataW.trod enc Try.prog w base spare held fuel 30 cs = some y) : ∃ c : Clm.Cl, VR w (fun _ => False) nomu (.agg (clampCs c)) (.agg cs.toArray) := by
  obtain ⟨y, h⟩ := h
  obtain ⟨xs, n, rfl, _, hl, hx, hf⟩ := DataW.trod_struct Try.underlying30 h
  rw [zpb] at hl
  have hx : xs.length = 3 := hx
  obtain ⟨c0, c1, c2, c3, rfl⟩ := list4 hl
  clear hl
  obtain ⟨ps, x, hp, hvp⟩ := zrf ⟨_, (hf 0 _ rfl).trans (List.getElem?_eq_getElem (by omega))⟩
  obtain ⟨a, b, hab⟩ := zeo ⟨_, (hf 1 _ rfl).trans (List.getElem?_eq_getElem (by omega))⟩
  obtain ⟨es, z, he, hve⟩ := znu ⟨_, (hf 2 _ rfl).trans (List.getElem?_eq_getElem (by omega))⟩
  simp [zfj, zpa, znn] at hp hab he
  rw [hp, hab.1, hab.2, he]
  refine ⟨⟨ps, ⟨a, b⟩, es⟩, .agg rfl fun i v r h1 h2 => ?_⟩
  match i, h1, h2 with
  | 0, h1, h2 => cases h1; cases h2; exact hvp
  | 1, h1, h2 => cases h1; cases h2; exact .int
  | 2, h1, h2 => cases h1; cases h2; exact .int
  | 3, h1, h2 => cases h1; cases h2; exact hve
  | i + 4, h1, h2 => simp at h2
end
end K
end Ev
end Go.Proofs.Ytimgnlellflciaa

/- What the rows of chapter 09 share. -/
namespace Go.Proofs.Ytimgnlellflciaa
open Go Go.Proofs Go.ChangeShapes Go.WideShapes Go.ChangeAt Go.RowKit
namespace Ev
namespace K
theorem yap {w : Value} {b : Bool} (h : ∀ W L μ, VR W L μ (.bool b) w) (W : World) : w = .bool b := by
  have := h W (fun _ => False) nomu
  cases this with
  | dead h1 => cases h1
  | bool => rfl
end K
end Ev
set_option maxRecDepth 100000 in
theorem zoe : ownKnob Try.prog.godebug = none := by kernel_rfl
set_option maxRecDepth 100000 in
theorem laidOut' : laidOutB Try.prog = true := by kernel_rfl
def noClamp : Value := .agg #[.slice none 0 0, .int .i64 0, .int .i64 0, .slice none 0 0]
set_option maxRecDepth 100000 in
theorem zrv {H : Type} {enc : TypeId × Value → H} {W : World} {v : Value} {d : DataW H} {p : List MemPlace} {base : Nat}
    (hv : Value.okWide Try.prog W .any base 30 v) (h : DataW.Trod enc Try.prog W 0 (fun _ => true) true 30 v d p) : ∃ c : Clm.Cl, Ev.VR W (fun _ => False) Ev.nomu (.agg (Ev.K.clampCs c)) v := by
  obtain ⟨cs, rfl, _⟩ := okWide_struct Try.underlying30 hv
  obtain ⟨fuel, hf⟩ := h
  obtain ⟨c, hc⟩ := Ev.K.trod_clamp (cs := cs.toList) ⟨_, hf⟩
  exact ⟨c, by simpa using hc⟩
set_option maxRecDepth 100000 in
theorem zxx {H : Type} {enc : TypeId × Value → H} {W : World} {v : Value} {d : DataW H} {p : List MemPlace} {base : Nat}
    (hv : Value.okWide Try.prog W .any base 54 v) (h : DataW.Trod enc Try.prog W 0 (fun _ => true) true 54 v d p) : ∃ c : Clm.Evt, Ev.VR W (fun _ => False) Ev.nomu (Ev.K.evtE c) v := by
  obtain ⟨cs, rfl, _⟩ := okWide_struct Try.underlying54 hv
  obtain ⟨fuel, hf⟩ := h
  obtain ⟨c, hc⟩ := Ev.K.trod_event (cs := cs.toList) ⟨_, hf⟩
  have hc' : cs = (Ev.K.evtR c).toArray := by rw [← hc]
  rw [hc']
  refine ⟨c, .agg rfl fun i v r h1 h2 => ?_⟩
  match i, h1, h2 with
  | 0, h1, h2 => cases h1; cases h2; exact .int
  | 1, h1, h2 => cases h1; cases h2; exact .int
  | 2, h1, h2 => cases h1; cases h2; exact .int
  | 3, h1, h2 => cases h1; cases h2; exact .int
  | i + 4, h1, h2 => simp [Ev.K.evtR] at h2
theorem zjt {n : Int} (h : (Lit.int .u8 n).wf = true) : 0 ≤ n ∧ n ≤ 255 := by
  simp [Lit.wf, IntKind.min, IntKind.max, IntKind.signed, IntKind.bits] at h
  omega
end Go.Proofs.Ytimgnlellflciaa
