/- The stable sort of Go's library, of 32 sets: found by the evaluator. -/
import Derived.Test.YtlkhjnpflohfeaaDoorSkMD
import Derived.Test.YtlkhjnpflohfeaaDoorCoreD
/- The stable sort of Go's library, of 32 sets: found by the evaluator. -/
namespace Go.Proofs.YtlkhjnpflohfeaaDoor
open Go Go.Proofs Go.RowKit
namespace Ev
set_option maxRecDepth 100000
noncomputable def smallN (x : Int) : Option Nat := Int.rec (fun n => Bool.rec none (some n) (Nat.ble n 1023)) (fun _ => none) x
noncomputable def bySizeG (args : List AV) : Option AV := match args with
  | [.int .u64 a, .int .u64 b] => (match smallN a, smallN b with | some m, some n => some (.int .i64 (Srt.bySize m n)) | _, _ => none)
  | _ => none
noncomputable def cfgS : Cfg where
  fns := FT.find fnTree
  glob := fun _ => none
  dfk := fun _ => none
  ext := fun f => Bool.rec none (some bySizeG) (Nat.beq f 74)
  gcAt := 20
  whole := fun _ => true
theorem smallN_eq {x : Int} {n : Nat} (h : smallN x = some n) : x = n ∧ n < 1024 := by
  cases x with
  | ofNat m =>
    have e : smallN (Int.ofNat m) = (Bool.rec none (some m) (Nat.ble m 1023) : Option Nat) := rfl
    rw [e] at h
    cases hb : Nat.ble m 1023 with
    | false => rw [hb] at h; cases h
    | true => rw [hb] at h; cases h; exact ⟨rfl, by have := Nat.le_of_ble_eq_true hb; omega⟩
  | negSucc m => cases h
theorem extS_ok : ∀ f g, cfgS.ext f = some g → (∃ F, Tryd.prog.funcs[f]? = some F ∧ (F.name == "runtime.NumGoroutine") = false ∧ F.body.isNone = false) ∧
    ∀ (args : List AV) (v : AV) (rargs : Array Value) (W : World) (L : Nat → Prop) (μ : Mu), g args = some v → VL W L μ args rargs.toList →
      CallsIn Fence.wide 0 Tryd.prog f rargs W fun e W' => (∃ w, e = .returned w ∧ ∀ W L μ, VR W L μ v w) ∧ Below W.heap.size W W' := by
  intro f g h
  have e : cfgS.ext f = (Bool.rec none (some bySizeG) (Nat.beq f 74) : Option (List AV → Option AV)) := rfl
  rw [e] at h
  cases hb : Nat.beq f 74 with
  | false => rw [hb] at h; cases h
  | true =>
    rw [hb] at h
    cases h
    obtain rfl := Nat.eq_of_beq_eq_true hb
    refine ⟨⟨_, Tryd.func74, by kernel_rfl, by kernel_rfl⟩, fun args v rargs W L μ hg hv => ?_⟩
    unfold bySizeG at hg
    split at hg
    · rename_i a b
      split at hg
      · rename_i m n h1 h2
        cases hg
        obtain ⟨rfl, hm⟩ := smallN_eq h1
        obtain ⟨rfl, hn⟩ := smallN_eq h2
        obtain ⟨xs, hxs⟩ : ∃ xs, rargs.toList = xs := ⟨_, rfl⟩
        rw [hxs] at hv
        match xs, hv.1, hv with
        | [x0, x1], _, hv =>
          have e0 := vr_int hv.head
          have e1 := vr_int hv.tail.head
          subst e0 e1
          have e : rargs = #[.int .u64 m, .int .u64 n] := Array.ext' hxs
          subst e
          refine (callsIn_wide.2 (bySize_any m n hm hn W)).mono ?_
          rintro e W' ⟨rfl, rfl⟩
          exact ⟨⟨_, rfl, fun _ _ _ => .int⟩, Below.refl _ _⟩
      · cases hg
    · cases hg
theorem tblS : TblOk Tryd.prog cfgS := ⟨fun f fn h => FT.find_all tree_is h, extS_ok, fun _ _ h => (by cases h), fun _ _ _ h => (by cases h)⟩
def setsA : List Nat → List AV := fun l => l.map fun (n : Nat) => .int .u64 (n : Int)
def L32 : List AV := [.int .u64 0, .int .u64 1, .int .u64 2, .int .u64 3, .int .u64 4, .int .u64 5, .int .u64 6, .int .u64 7, .int .u64 8, .int .u64 9, .int .u64 10, .int .u64 11, .int .u64 12, .int .u64 13, .int .u64 14, .int .u64 15, .int .u64 16, .int .u64 17, .int .u64 18, .int .u64 19, .int .u64 20, .int .u64 21, .int .u64 22, .int .u64 23, .int .u64 24, .int .u64 25, .int .u64 26, .int .u64 27, .int .u64 28, .int .u64 29, .int .u64 30, .int .u64 31]
def S32 : List AV := [.int .u64 0, .int .u64 1, .int .u64 2, .int .u64 4, .int .u64 8, .int .u64 16, .int .u64 3, .int .u64 5, .int .u64 6, .int .u64 9, .int .u64 10, .int .u64 12, .int .u64 17, .int .u64 18, .int .u64 20, .int .u64 24, .int .u64 7, .int .u64 11, .int .u64 13, .int .u64 14, .int .u64 19, .int .u64 21, .int .u64 22, .int .u64 25, .int .u64 26, .int .u64 28, .int .u64 15, .int .u64 23, .int .u64 27, .int .u64 29, .int .u64 30, .int .u64 31]
theorem L32_eq : L32 = setsA (List.range 32) := by kernel_rfl
theorem S32_eq : S32 = setsA (Srt.sizeSets 5) := by kernel_rfl
def eqCs : List AV → List AV → Bool
  | [], [] => true
  | .int .u64 a :: l, .int .u64 b :: m => (match a, b with | .ofNat x, .ofNat y => Nat.beq x y && eqCs l m | _, _ => false)
  | _, _ => false
theorem eqCs_of : ∀ {l m : List AV}, eqCs l m = true → l = m := by
  intro l
  induction l with
  | nil => intro m h; unfold eqCs at h; split at h <;> first | rfl | contradiction | (cases h; done)
  | cons v l ih =>
    intro m h
    unfold eqCs at h
    split at h
    · contradiction
    · rename_i a l' b m' e1
      cases e1
      split at h
      · simp only [Bool.and_eq_true] at h
        rw [Nat.eq_of_beq_eq_true h.1, ih h.2]
      · cases h
    · cases h
def argsS : List AV := [.sl 0 0 32 1, .int .i64 32, .fn (.func 74) [] []]
noncomputable def sortedB (o : Option (CRes × List AB × List Nat)) : Bool := match o with
  | some (.ret (.tup []), .cells cs :: _, _) => eqCs cs S32
  | _ => false
theorem sort_true : sortedB (Ev.call cfgS 12 (.fn (.func 92) [] []) argsS [.cells L32]) = true := by kernel_rfl
theorem sort_found : ∃ H' tc, Ev.call cfgS 12 (.fn (.func 92) [] []) argsS [.cells L32] = some (.ret (.tup []), H', tc) ∧ H'[0]? = some (.cells S32) := by
  have h := sort_true
  generalize Ev.call cfgS 12 (.fn (.func 92) [] []) argsS [.cells L32] = o at h
  unfold sortedB at h
  split at h
  · exact ⟨_, _, rfl, by rw [eqCs_of h]; rfl⟩
  · cases h
end Ev
theorem stable_32 : StableOk 32 (List.range 32) (Srt.sizeSets 5) := by
  intro tl A cp w hl hc1 hc2 hd hdA hbl
  obtain ⟨H', tc, hcall, hH'⟩ := Ev.sort_found
  have hok := Ev.call_ok Ev.tblS 12
  have hlen : (dCells tl (List.range 32)).length = 32 + tl.length := by simp [dCells, uCells]
  let μ : Ev.Mu := fun i => if i = 0 then .at A else .no
  have hμ0 : μ 0 = .at A := rfl
  have hμ : ∀ i B, μ i = .at B → i = 0 ∧ B = A := by
    intro i B h
    by_cases h0 : i = 0
    · subst h0; rw [hμ0] at h; cases h; exact ⟨rfl, rfl⟩
    · simp only [μ, if_neg h0] at h; cases h
  have hvals : ∀ (i : Nat) (x : Ev.AV), Ev.L32[i]? = some x → i < 32 ∧ ∃ m : Nat, x = .int .u64 m ∧ m = Srt.at' (List.range 32) i := by
    intro i x hx
    rw [Ev.L32_eq] at hx
    unfold Ev.setsA at hx
    rw [List.getElem?_map] at hx
    obtain ⟨m, h1, rfl⟩ := Option.map_eq_some_iff.1 hx
    have hi := (List.getElem?_eq_some_iff.1 h1).1
    rw [List.length_range] at hi
    exact ⟨hi, m, rfl, by unfold Srt.at'; rw [List.getD_eq_getElem?_getD, h1]; rfl⟩
  have hsim : Ev.Sim Tryd.prog w (fun b => b = A) μ [.cells Ev.L32] := {
    live := fun i B h => by
      obtain ⟨rfl, rfl⟩ := hμ i B h
      refine ⟨rfl, hbl.lt, _, _, rfl, hbl, .cells ?_ ?_⟩
      · rw [Ev.L32_eq]; simp [Ev.setsA, hlen]
      · intro i x r hx hr
        obtain ⟨hi, m, rfl, rfl⟩ := hvals i x hx
        have := dCells_get tl (List.range 32) i (by simpa using hi)
        rw [List.getElem?_toArray, this] at hr
        cases hr; exact .int
    dead := fun i b h => by
      by_cases h0 : i = 0
      · subst h0; rw [hμ0] at h; cases h
      · simp only [μ, if_neg h0] at h; cases h
    out := fun i h => by
      have : i ≠ 0 := by simp at h; omega
      simp only [μ, if_neg this]
    inj := fun i j B h1 h2 => by rw [(hμ i B h1).1, (hμ j B h2).1]
    lt := fun b h => by rw [h]; exact hbl.lt }
  have hG : Ev.Globs Ev.cfgS w (fun b => b = A) := by
    intro g cs hg
    unfold Ev.globA at hg
    cases hb : Nat.beq g 0 with
    | false => simp only [hb] at hg; cases hg
    | true =>
      simp only [hb] at hg
      cases hg
      obtain rfl := Nat.eq_of_beq_eq_true hb
      refine .rp (fun j => if j = 0 then .int .i64 1048576 else .int .i64 (-1048576)) (fun j x hx => ⟨hdA, ?_⟩) (fun j x hx => ?_)
      · match j, hx with
        | 0, hx => exact hd.c0
        | 1, hx => exact hd.c1
        | j + 2, hx => simp at hx
      · match j, hx with
        | 0, hx => cases hx; exact .int
        | 1, hx => cases hx; exact .int
        | j + 2, hx => simp at hx
  have hfv : ∀ f, Ev.VR w (fun b => b = A) μ (.fn (.func f) [] []) (.func (.func f) #[] #[]) := fun f => .fn (rf := []) (rc := []) (by intro l; simp) rfl (by intro i x r h; simp at h) rfl (by intro i x r h; simp at h)
  have hVL : Ev.VL w (fun b => b = A) μ Ev.argsS [.slice (some ⟨A, 0, none⟩) 32 cp, .int .i64 32, .func (.func 74) #[] #[]] :=
    Ev.VL.cons (.sl hμ0 hc1 hbl (by simp [hlen]; omega)) (Ev.VL.cons .int (Ev.VL.cons (hfv _) Ev.VL.nil))
  obtain ⟨r, W1, h1, h2⟩ := hok.sound (tc0 := []) hcall (Ev.Hp.start (P := Tryd.prog) hsim) hG
    (rf := .func (.func 92) #[] #[]) (rargs := #[.slice (some ⟨A, 0, none⟩) 32 cp, .int .i64 32, .func (.func 74) #[] #[]]) (hfv _) hVL
  have e : (do let d ← Deferred.ofValue (.func (.func 92) #[] #[]) #[.slice (some ⟨A, 0, none⟩) 32 cp, .int .i64 32, .func (.func 74) #[] #[]]; invoke d.target d.args : Sem Next).run Tryd.prog w = .ok (.enter 92 #[.slice (some ⟨A, 0, none⟩) 32 cp, .int .i64 32, .func (.func 74) #[] #[]]) w := by
    simp only [Deferred.ofValue, Sem.run_bind, Sem.run_pure, Result.andThen, invoke]
    exact hok.fn hcall _ _
  rw [e] at h1
  cases h1
  refine callsIn_wide.1 (CallsIn.mono h2 ?_)
  rintro en W' ⟨L', μ', c1, c2, c3, c4, _⟩
  cases en <;> simp only [Ev.CRel] at c1
  rename_i v
  have hv : v = .tuple #[] := by
    cases c1 with
    | dead h => simp [Ev.headRef] at h
    | @tup _ _ rs hl0 _ =>
      match rs, hl0 with
      | [], _ => rfl
  subst hv
  have hm : μ' 0 = .at A := by
    rcases c4 0 (by rw [hμ0]; simp) with h | h
    · rw [h, hμ0]
    · have := c2.sim.dead 0 _ h hH'
      cases this
  obtain ⟨_, _, blk, o, e1, e2, e3⟩ := c2.sim.live 0 A hm
  rw [hH'] at e1
  cases e1
  obtain ⟨o', e4, e5⟩ := c2.shape A _ hbl
  rw [e2] at e4
  cases e4
  obtain ⟨rs', e6, e7⟩ := e5.1 _ _ _ rfl
  subst e6
  cases e3 with
  | cells hsz hcs =>
    refine ⟨rfl, ⟨c2.env.1, c2.env.2.1, c2.env.2.2, c2.size, fun k hk hkA => c2.same k hk fun i _ hi => ?_⟩, rs'.toList.drop 32, ?_⟩
    · exact hkA (hμ i k hi).2
    · unfold Blk dCells
      rw [e2]
      have hS : Ev.S32.length = 32 := by rw [Ev.S32_eq]; kernel_rfl
      have htake : rs'.toList.take 32 = uCells (Srt.sizeSets 5) := by
        apply List.ext_getElem?
        intro i
        by_cases hi : i < 32
        · rw [List.getElem?_take, if_pos hi]
          obtain ⟨x, hx⟩ : ∃ x, Ev.S32[i]? = some x := ⟨_, List.getElem?_eq_getElem (by rw [hS]; exact hi)⟩
          obtain ⟨y, hy⟩ : ∃ y, rs'[i]? = some y := ⟨_, Array.getElem?_eq_getElem (by omega)⟩
          have := hcs i x y hx hy
          rw [Ev.S32_eq] at hx
          unfold Ev.setsA at hx
          rw [List.getElem?_map] at hx
          obtain ⟨m, q1, rfl⟩ := Option.map_eq_some_iff.1 hx
          rw [Ev.vr_int this] at hy
          rw [Array.getElem?_toList, hy]
          unfold uCells
          rw [List.getElem?_map, q1]; rfl
        · rw [List.getElem?_eq_none (by simp; omega), List.getElem?_eq_none (by rw [uCells_length, show (Srt.sizeSets 5).length = 32 by kernel_rfl]; omega)]
      rw [← htake, List.take_append_drop]
theorem all_sorted (k : Nat) (hk : k ≤ 5) : StableOk (2 ^ k) (List.range (2 ^ k)) (Srt.sizeSets k) := by
  by_cases h4 : k ≤ 4
  · exact small_sorted k h4
  · obtain rfl : k = 5 := by omega
    exact stable_32
end Go.Proofs.YtlkhjnpflohfeaaDoor
