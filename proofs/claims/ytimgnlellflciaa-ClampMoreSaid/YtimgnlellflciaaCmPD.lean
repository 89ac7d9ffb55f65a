/- Package clamp, gone through: Share. -/
import Derived.Test.YtimgnlellflciaaCmPC
import Derived.Test.YtimgnlellflciaaCmPB
/- Package clamp, gone through: spans of something of a clamp, and of all clamps of a set. -/
namespace Go.Proofs.Ytimgnlellflciaa
open Go
namespace Ev
namespace K
attribute [local simp] ev1 wantG spineK spine float xnew xval xeff zaa zaq zbc zav zaw addFl cellsOf pickC alive slLen slFt binI maxA maxK minA minK aeqK aeqS AV.cells spA zar fillA setAt bitsI nat_nn zbg AV.plain apart
set_option maxRecDepth 100000
set_option maxHeartbeats 4000000
theorem WayF.app {call : CallF} {F : AV} {c : Clm.Cl} {yb mb n : Nat} {pack : Int} {H : List AB} {g : Clm.Way → Clm.Sp} (h : WayF call F c yb mb n pack H g) {H' : List AB} (k : Kp [mb] H H') : WayF call F c yb mb n pack H' g :=
  fun G hG => h G (k.trans hG)
def SpanC (C : Cfg) (n : Nat) (c : Clm.Cl) : Prop := ∀ (H : List AB) (yb mb : Nat), Yd c yb mb H → ∀ i, i < c.piles.length → ∀ pack, 0 ≤ pack → pack ≤ 5 → ∀ (F : AV) (g : Clm.Way → Clm.Sp), WayF (Ev.call C n) F c yb mb i pack H g → Clm.ways c i pack (Clm.every c) ≠ [] →
  ∃ H' tc, Ev.call C (n + 1) (.fn (.func 74) [] []) [.ptr yb 0, .int .i64 i, .int .i64 pack, F] H = some (.ret (.agg [.int .i64 (Clm.spanOf c i pack g).lo, .int .i64 (Clm.spanOf c i pack g).hi]), H', tc) ∧ (∀ j ∈ tc, j = mb) ∧ Kp tc H H' ∧ Yd c yb mb H'
def HullC (C : Cfg) (n : Nat) (c : Clm.Cl) : Prop := ∀ (H : List AB) (yb mb : Nat), Yd c yb mb H → ∀ (fl : Fn) (fa fb : List AV) (g : Int → Clm.Sp), PackF (Ev.call C n) (.fn fl fa fb) c yb mb H g →
  ∃ H' tc, Ev.call C (n + 3) (.fn (.func 72) [] []) [.ptr yb 0, .fn fl fa fb] H = some (.ret (.agg [.int .i64 (Clm.hull ((Clm.packs c (Clm.every c)).map g)).lo, .int .i64 (Clm.hull ((Clm.packs c (Clm.every c)).map g)).hi]), H', tc) ∧ (∀ j ∈ tc, j = mb) ∧ Kp tc H H' ∧ Yd c yb mb H'
theorem zdn {C : Cfg} {n f : Nat} {fn : AFunc} {first captured args : List AV} {H : List AB} {c : Clm.Cl} {yb mb : Nat} {v : AV} (hc : C.calm = true) (h0 : Has C f fn) (hlen : first.length + args.length + captured.length ≤ fn.ntmps) (hY : Yd c yb mb H)
    (h : Does (ev C (Ev.call C n) H.length none fn.body { tm := tmA fn.ntmps (zipI 0 (first ++ args ++ captured) []), df := [], hp := H, tc := [] }) (Ends C H.length fn.res fun w hp tc => w = v ∧ (∀ j ∈ tc, j = mb) ∧ Kp tc H hp ∧ Yd c yb mb hp)) :
    ∃ H' tc, Ev.call C (n + 1) (.fn (.func f) first captured) args H = some (.ret v, H', tc) ∧ (∀ j ∈ tc, j = mb) ∧ Kp tc H H' ∧ Yd c yb mb H' := by
  obtain ⟨w, hp, tc, H', c1, ⟨rfl, c2, c3, c4⟩, c5, _, _⟩ := zco hc h0.ext h0.exth h0.fns h0.whole (by simp; omega) h
  have hs := c5.same c3
  obtain ⟨es, m1, m2⟩ := hY.m
  obtain ⟨es2, m3, m4⟩ := c4.m
  exact ⟨H', tc, c1, c2, ⟨c5.len, fun b hb ht => (hs b hb).trans (c3.get b hb ht)⟩, hY.ne, (hs _ (get_lt hY.y)).trans c4.y, es2, (hs _ (get_lt m1)).trans m3, m4⟩
theorem zlf {c : Clm.Cl} (hc : Clm.Fine c) {counts : Nat} {k : Int} (h : k ∈ Clm.packs c counts) : 0 ≤ k ∧ k ≤ 5 ∧ ∀ i, i < c.piles.length → Clm.ways c i k counts ≠ [] := by
  unfold Clm.packs at h
  rw [List.mem_filter, Clm.mem_span] at h
  have := hc.pack
  simp only [Clm.Sp.has] at h
  refine ⟨by omega, by omega, fun i hi => ?_⟩
  have h2 := List.all_eq_true.1 h.2 i (by simpa using hi)
  simpa using h2
theorem zya (C : Cfg) (n : Nat) (c : Clm.Cl) (hc : Clm.Fine c) (hS : SpanC C n c) (H : List AB) (yb mb : Nat) (hY : Yd c yb mb H) (i : Nat) (hi : i < c.piles.length) (F : AV) (_hFc : AV.plain F = true) (g : Int → Clm.Way → Clm.Sp) (b1 b2 b3 : Nat) (h1 : H[b1]? = some (.cells [.ptr yb 0])) (h2 : H[b2]? = some (.cells [.int .i64 i])) (h3 : H[b3]? = some (.cells [F])) (k : Int) (hk : k ∈ Clm.packs c (Clm.every c)) (hF : WayF (Ev.call C n) F c yb mb i k H (g k)) :
    Does (ev C (Ev.call C (n + 1)) H.length none af73.body { tm := tmA af73.ntmps (zipI 0 [.int .i64 k, .ptr b1 0, .ptr b2 0, .ptr b3 0] []), df := [], hp := H, tc := [] })
      (Ends C H.length af73.res fun v hp tc => v = spA (Clm.spanOf c i k (g k)) ∧ (∀ j ∈ tc, j = mb) ∧ Kp tc H hp ∧ Yd c yb mb hp) := by
  obtain ⟨p0, p1, hw⟩ := zlf hc hk
  have hml : mb < H.length := by obtain ⟨es, hm, _⟩ := hY.m; exact get_lt hm
  have hyl := get_lt hY.y
  obtain ⟨H1, tc1, c1, c2, c3, c4⟩ := hS (H ++ [.cells [.int .i64 0, .int .i64 0]]) yb mb (hY.app _) i hi k p0 p1 F (g k) (hF.app (Kp.app _ _)) (hw i hi)
  have e1 : H1[H.length]? = some (.cells [.int .i64 0, .int .i64 0]) := c3.at (by simp) (fun h => by have := c2 _ h; omega)
  obtain ⟨x0, x1, x2, x3, x4, x5⟩ := bk' h1
  obtain ⟨y0, y1, y2, y3, y4, y5⟩ := bk' h2
  obtain ⟨z0, z1, z2, z3, z4, z5⟩ := bk' h3
  obtain ⟨f0, f1, f2, f3, f4, f5⟩ := bk' e1
  have n1 : ¬ H.length < H.length := by omega
  have HA := hideP (And.intro c2 (And.intro c3 c4))
  clear hS hF hY c2 c3 c4 hc
  unfold af73
  simp only [zipI] at *
  generalize Clm.spanOf c i k (g k) = sp at *
  (repeat (first | (with_reducible apply zah; (focus ((conv => lhs; simp [Nat.testBit_eq_decide_div_mod_eq, *]) <;> exact rfl)); simp only [addFl]) | ((with_reducible first | apply zai | apply zak | apply zag | apply zae | apply zac | apply zaj | apply zaf | apply zam | (apply zad; · simp [zaa, *]) | (apply zab; · simp [zaa, *])); try simp only [Then, Ops]) | simp only [Nat.reduceEqDiff, reduceIte, OutB, Then]))
  obtain ⟨c2, c3, c4⟩ := HA.out
  have hf : tc1.filter (· < H.length) = tc1 := List.filter_eq_self.2 fun j hj => by have := c2 j hj; simp; omega
  rw [hf]
  refine zao (v := spA sp) (.inl rfl) rfl (by simp; omega) (by simp only [resL, resOf, zal]; simp [resV, pickC, spA, f0]) ⟨rfl, c2, c3.pre.set _ _ (by omega), c4.kp ((Kp.refl [H.length] _).set _ _ (by simp)) (by simp <;> omega) (by simp <;> omega)⟩
theorem zzx (C : Cfg) (n : Nat) (hC : C.calm = true) (h73 : Has C 73 af73) (c : Clm.Cl) (hc : Clm.Fine c) (hS : SpanC C n c) (hH : HullC C (n + 2) c) (H : List AB) (yb mb : Nat) (hY : Yd c yb mb H) (i : Nat) (hi : i < c.piles.length) (fl : Fn) (fa fb : List AV) (g : Int → Clm.Way → Clm.Sp) (hF : ∀ k ∈ Clm.packs c (Clm.every c), WayF (Ev.call C n) (.fn fl fa fb) c yb mb i k H (g k)) :
    Does (ev C (Ev.call C (n + 5)) H.length none af38.body { tm := tmA af38.ntmps (zipI 0 [.ptr yb 0, .int .i64 i, .fn fl fa fb] []), df := [], hp := H, tc := [] })
      (Ends C H.length af38.res fun v hp tc => v = spA (Clm.ofAll c i g) ∧ (∀ j ∈ tc, j = mb) ∧ Kp tc H hp ∧ Yd c yb mb hp) := by
  have hml : mb < H.length := by obtain ⟨es, hm, _⟩ := hY.m; exact get_lt hm
  have hyl := get_lt hY.y
  obtain ⟨H0, hH0⟩ : ∃ H0, H0 = H ++ [.cells [.ptr yb 0], .cells [.int .i64 i], .cells [.fn fl fa fb], .cells [.int .i64 0, .int .i64 0]] := ⟨_, rfl⟩
  obtain ⟨H1, tc1, c1, c2, c3, c4⟩ := hH H0 yb mb (by rw [hH0]; exact hY.app _) (.func 73) [] [.ptr H.length 0, .ptr (H.length + 1) 0, .ptr (H.length + 2) 0] (fun k => Clm.spanOf c i k (g k)) (by
    intro G hG hYG k hk
    have hat : ∀ {j x}, H0[j]? = some x → H.length ≤ j → G[j]? = some x := fun hx hj => hG.at hx (by simp; omega)
    exact zdn hC h73 (Nat.le_of_ble_eq_true rfl) hYG (zya C n c hc hS G yb mb hYG i hi (.fn fl fa fb) rfl g H.length (H.length + 1) (H.length + 2) (hat (by rw [hH0]; simp) (by omega)) (hat (by rw [hH0]; simp) (by omega)) (hat (by rw [hH0]; simp) (by omega)) k hk ((hF k hk).app (by rw [hH0] at hG; exact hG.pre))))
  have e1 : H1[H.length + 3]? = some (.cells [.int .i64 0, .int .i64 0]) := c3.at (by rw [hH0]; simp) (fun h => by have := c2 _ h; omega)
  obtain ⟨f0, f1, f2, f3, f4, f5⟩ := bk' e1
  have n1 : ∀ n, ¬ H.length + n < H.length := by omega
  rw [hH0] at c1 c3
  have hall : Clm.ofAll c i g = Clm.hull ((Clm.packs c (Clm.every c)).map fun k => Clm.spanOf c i k (g k)) := rfl
  rw [hall]
  generalize Clm.hull ((Clm.packs c (Clm.every c)).map fun k => Clm.spanOf c i k (g k)) = sp at *
  have HA := hideP (And.intro c2 (And.intro c3 c4))
  clear hS hF hY c2 c3 c4 hc hH hH0 hall
  unfold af38
  simp only [zipI] at *
  (repeat (first | (with_reducible apply zah; (focus ((conv => lhs; simp [Nat.testBit_eq_decide_div_mod_eq, *]) <;> exact rfl)); simp only [addFl]) | ((with_reducible first | apply zai | apply zak | apply zag | apply zae | apply zac | apply zaj | apply zaf | apply zam | (apply zad; · simp [zaa, *]) | (apply zab; · simp [zaa, *])); try simp only [Then, Ops]) | simp only [Nat.reduceEqDiff, reduceIte, OutB, Then]))
  obtain ⟨c2, c3, c4⟩ := HA.out
  have hf : tc1.filter (· < H.length) = tc1 := List.filter_eq_self.2 fun j hj => by have := c2 j hj; simp; omega
  rw [hf]
  refine zao (v := spA sp) (.inl rfl) rfl (by simp; omega) (by simp only [resL, resOf, zal]; simp [resV, pickC, spA, f0]) ⟨rfl, c2, c3.pre.set _ _ (by omega), c4.kp ((Kp.refl [H.length + 3] _).set _ _ (by simp)) (by simp <;> omega) (by simp <;> omega)⟩
end K
end Ev
end Go.Proofs.Ytimgnlellflciaa

/- Spans that are returned are of small numbers. -/
namespace Go.Proofs.Ytimgnlellflciaa
open Go
namespace Clm
theorem zsc {s t : Sp} (h : Low s) (g : Low t) : Low (s.either t) := by
  obtain ⟨a, b, c, d⟩ := h
  obtain ⟨a', b', c', d'⟩ := g
  exact ⟨by simp only [Sp.either]; omega, by simp only [Sp.either]; omega, by simp only [Sp.either]; omega, by simp only [Sp.either]; omega⟩
theorem zqc : ∀ (l : List Sp) (s : Sp), Low s → (∀ x ∈ l, Low x) → Low (l.foldl (fun k x => k.either x) s)
  | [], _, h, _ => h
  | x :: l, s, h, hl => zqc l _ (zsc h (hl x (by simp))) fun y hy => hl y (by simp [hy])
theorem zyk (l : List Sp) (hl : ∀ x ∈ l, Low x) : Low (hull l) := by
  cases l with
  | nil => exact ⟨by decide, by decide, by decide, by decide⟩
  | cons x l => exact zqc l x (hl x (by simp)) fun y hy => hl y (by simp [hy])
theorem ziw {x y A B : Int} (h1 : 0 ≤ x) (h2 : x ≤ A) (h3 : 0 ≤ y) (h4 : y ≤ B) : 0 ≤ x * y ∧ x * y ≤ A * B := ⟨Int.mul_nonneg h1 h3, Int.mul_le_mul h2 h4 h3 (by omega)⟩
theorem ztt {c : Cl} (hc : Fine c) {i : Nat} (hi : i < c.piles.length) {k : Int} (h0 : 0 ≤ k) (h5 : k ≤ 5) {s : Size} (hs : s ∈ sizes (c.piles.getD i default)) : 0 ≤ s.sods k ∧ s.sods k ≤ 5000 := by
  have h1 := hc.pile _ (pile_mem hi)
  rw [mem_sizes] at hs
  simp only [Sp.has] at hs
  obtain ⟨a0, a1⟩ := ziw (x := s.l) (y := s.w) (A := 10) (B := 10) (by omega) (by omega) (by omega) (by omega)
  obtain ⟨b0, b1⟩ := ziw (x := s.l * s.w) (y := s.h) (A := 10 * 10) (B := 10) a0 a1 (by omega) (by omega)
  obtain ⟨c0, c1⟩ := ziw (x := s.l * s.w * s.h) (y := k) (A := 10 * 10 * 10) (B := 5) b0 b1 h0 h5
  exact ⟨c0, by unfold Size.sods; omega⟩
theorem way_low {c : Cl} (hc : Fine c) {i : Nat} (hi : i < c.piles.length) {k : Int} (h0 : 0 ≤ k) (h5 : k ≤ 5) {counts : Nat} {w : Way} (hw : w ∈ ways c i k counts) : (∀ j, Low (w.log.getD j ⟨0, 0⟩)) ∧ 0 ≤ w.size.sods k ∧ w.size.sods k ≤ 5000 := by
  obtain ⟨h1, h2, h3⟩ := (mem_ways hc hi h0 counts w).1 hw
  obtain ⟨s0, s1⟩ := ztt hc hi h0 h5 h1
  refine ⟨fun j => ?_, s0, s1⟩
  rw [h2]
  exact low_bwd (befell_low hc i counts) ⟨s0, by simp only; omega, s0, by simp only; omega⟩ j
theorem zsb {c : Cl} (_hc : Fine c) {i : Nat} (_hi : i < c.piles.length) {k : Int} (_h0 : 0 ≤ k) (_h5 : k ≤ 5) (f : Way → Sp) (hf : ∀ w ∈ ways c i k (every c), Low (f w)) : Low (spanOf c i k f) := by
  refine zyk _ fun x hx => ?_
  obtain ⟨w, hw, rfl⟩ := List.mem_map.1 hx
  exact hf w hw
theorem low_left {c : Cl} (hc : Fine c) {i : Nat} (hi : i < c.piles.length) {k : Int} (h0 : 0 ≤ k) (h5 : k ≤ 5) : Low (spanOf c i k (leftW c)) := zsb hc hi h0 h5 _ fun _w hw => (way_low hc hi h0 h5 hw).1 _
def sumTo (c : Cl) (set : Nat) (k : Int) (n : Nat) : Sp := (List.range n).foldl (fun acc i => if bit set i then ⟨acc.lo + (spanOf c i k (leftW c)).lo, acc.hi + (spanOf c i k (leftW c)).hi⟩ else acc) ⟨0, 0⟩
theorem sumTo_succ (c : Cl) (set : Nat) (k : Int) (n : Nat) : sumTo c set k (n + 1) = if bit set n then ⟨(sumTo c set k n).lo + (spanOf c n k (leftW c)).lo, (sumTo c set k n).hi + (spanOf c n k (leftW c)).hi⟩ else sumTo c set k n := by
  unfold sumTo; rw [List.range_succ, List.foldl_append]; rfl
theorem sumTo_low {c : Cl} (hc : Fine c) {set : Nat} {k : Int} (h0 : 0 ≤ k) (h5 : k ≤ 5) : ∀ n, n ≤ c.piles.length → 0 ≤ (sumTo c set k n).lo ∧ (sumTo c set k n).lo ≤ 10000 * n ∧ 0 ≤ (sumTo c set k n).hi ∧ (sumTo c set k n).hi ≤ 10000 * n
  | 0, _ => by simp [sumTo]
  | n + 1, h => by
    have ih := sumTo_low hc (set := set) h0 h5 n (by omega)
    obtain ⟨a, b, d, e⟩ := low_left hc (i := n) (by omega) h0 h5
    rw [sumTo_succ]
    split
    · simp only; omega
    · omega
theorem together_eq (c : Cl) (set : Nat) : together c set = hull ((packs c (every c)).map fun k => sumTo c set k c.piles.length) := rfl
end Clm
end Go.Proofs.Ytimgnlellflciaa

/- Package clamp, gone through: what the clamps of a set have together. -/
namespace Go.Proofs.Ytimgnlellflciaa
open Go
namespace Ev
namespace K
attribute [local simp] ev1 wantG spineK spine float xnew xval xeff zaa zaq zbc zav zaw addFl cellsOf pickC alive slLen slFt binI maxA maxK minA minK aeqK aeqS AV.cells spA zar fillA setAt bitsI nat_nn zbg AV.plain apart
set_option maxRecDepth 100000
set_option maxHeartbeats 4000000
theorem ztn (C : Cfg) (n : Nat) (hC : C.calm = true) (c : Clm.Cl) (hc : Clm.Fine c) (hS : SpanC C n c) (H : List AB) (yb mb : Nat) (hY : Yd c yb mb H) (F : AV) (_hFc : AV.plain F = true) (set : Nat) (b1 b2 b3 : Nat) (h1 : H[b1]? = some (.cells [.ptr yb 0])) (h2 : H[b2]? = some (.cells [.int .u64 set])) (h3 : H[b3]? = some (.cells [F])) (hb : b1 ≠ mb ∧ b2 ≠ mb ∧ b3 ≠ mb) (k : Int) (hk : k ∈ Clm.packs c (Clm.every c)) (hF : ∀ i, i < c.piles.length → WayF (Ev.call C n) F c yb mb i k H (Clm.leftW c)) :
    Does (ev C (Ev.call C (n + 1)) H.length none af78.body { tm := tmA af78.ntmps (zipI 0 [.int .i64 k, .ptr b1 0, .ptr b2 0, .ptr b3 0] []), df := [], hp := H, tc := [] })
      (Ends C H.length af78.res fun v hp tc => v = spA (Clm.sumTo c set k c.piles.length) ∧ (∀ j ∈ tc, j = mb) ∧ Kp tc H hp ∧ Yd c yb mb hp) := by
  obtain ⟨p0, p1, hw⟩ := zlf hc hk
  have hml : mb < H.length := by obtain ⟨es, hm, _⟩ := hY.m; exact get_lt hm
  have hyl := get_lt hY.y
  have hpn := hc.piles
  obtain ⟨Inv, hInv⟩ : ∃ Inv : Clm.Sp → List AB → List Nat → Prop, ∀ s hp tc, Inv s hp tc ↔ ((∀ j ∈ tc, j = mb) ∧ Kp tc H hp ∧ Yd c yb mb hp ∧ hp[H.length]? = some (.cells [.int .i64 s.lo, .int .i64 s.hi])) := ⟨fun s hp tc => _, fun s hp tc => Iff.rfl⟩
  have hI : Inv ⟨0, 0⟩ (H ++ [.cells [.int .i64 0, .int .i64 0]]) [] := (hInv _ _ _).2 ⟨by simp, Kp.app _ _, hY.app _, by simp⟩
  have hfacts : ∀ s hp tc, Inv s hp tc → Bk hp b1 (.cells [.ptr yb 0]) ∧ Bk hp b2 (.cells [.int .u64 set]) ∧ Bk hp b3 (.cells [F]) ∧ Bk hp H.length (.cells [.int .i64 s.lo, .int .i64 s.hi]) ∧ Bk hp yb (.cells (clampCs c ++ [.map mb])) := by
    intro s hp tc hi
    obtain ⟨k0, k1, k2, k3⟩ := (hInv _ _ _).1 hi
    exact ⟨bk' (k1.at h1 fun h => hb.1 (k0 _ h)), bk' (k1.at h2 fun h => hb.2.1 (k0 _ h)), bk' (k1.at h3 fun h => hb.2.2 (k0 _ h)), bk' k3, bk' k2.y⟩
  have hspan : ∀ s hp tc, Inv s hp tc → ∀ i, i < c.piles.length → ∃ hp' tc', Ev.call C (n + 1) (.fn (.func 74) [] []) [.ptr yb 0, .int .i64 i, .int .i64 k, F] hp = some (.ret (.agg [.int .i64 (Clm.spanOf c i k (Clm.leftW c)).lo, .int .i64 (Clm.spanOf c i k (Clm.leftW c)).hi]), hp', tc') ∧ H.length < hp'.length ∧ hp'[H.length]? = some (.cells [.int .i64 s.lo, .int .i64 s.hi]) ∧ ∀ t K, Inv t (hp'.set H.length (.cells [.int .i64 t.lo, .int .i64 t.hi]) ++ K) (tc'.filter (· < H.length) ++ tc) := by
    intro s hp tc hi i hil
    obtain ⟨k0, k1, k2, k3⟩ := (hInv _ _ _).1 hi
    obtain ⟨hp', tc', s1, s2, s3, s4⟩ := hS hp yb mb k2 i hil k p0 p1 F (Clm.leftW c) ((hF i hil).app (k1.mono fun j _ h => by simpa using k0 j h)) (hw i hil)
    have k3' := s3.at k3 fun h => by have := s2 _ h; omega
    have hl := get_lt k3'
    refine ⟨hp', tc', s1, hl, k3', fun t K => (hInv _ _ _).2 ⟨?_, ?_, ?_, ?_⟩⟩
    · intro j hj
      rcases List.mem_append.1 hj with h | h
      · exact s2 j (List.mem_filter.1 h).1
      · exact k0 j h
    · exact ((k1.trans2 s3).set _ _ (by omega)).trans (Kp.app _ _)
    · exact (s4.kp ((Kp.refl [H.length] _).set _ _ (by simp)) (by simp <;> omega) (by simp <;> omega)).app _
    · rw [List.getElem?_append_left (by simpa using hl), List.getElem?_set_self hl]
  have hback : ∀ s hp tc, Inv s hp tc → (∀ j ∈ tc, j = mb) ∧ Kp tc H hp ∧ Yd c yb mb hp ∧ hp[H.length]? = some (.cells [.int .i64 s.lo, .int .i64 s.hi]) := fun s hp tc h => (hInv _ _ _).1 h
  have hsb := fun m (hm : m ≤ c.piles.length) => Clm.sumTo_low hc (set := set) p0 p1 m hm
  have hsl := fun m (hm : m < c.piles.length) => Clm.low_left hc hm p0 p1
  obtain ⟨f0, f1, f2, f3, f4, f5⟩ := bk' h1
  obtain ⟨r0, r1, r2, r3, r4, r5⟩ := bk' hY.y
  have HFa := hideP hfacts
  have HSp := hideP hspan
  have HBk := hideP hback
  have HSb := hideP (And.intro hsb hsl)
  clear hfacts hspan hback hInv hS hF hY hc h1 h2 h3 hb hw hk hsb hsl
  unfold af78
  simp only [zipI, clampCs, List.cons_append, List.nil_append] at *
  (repeat (first | (with_reducible apply zah; (focus ((conv => lhs; simp [Nat.testBit_eq_decide_div_mod_eq, *]) <;> exact rfl)); simp only [addFl]) | ((with_reducible first | apply zai | apply zak | apply zag | apply zae | apply zac | apply zaj | apply zaf | apply zam | (apply zad; · simp [zaa, *]) | (apply zab; · simp [zaa, *])); try simp only [Then, Ops]) | simp only [Nat.reduceEqDiff, reduceIte, OutB, Then]))
  with_reducible refine zaz hC c.piles.length (by unfold fuelL; omega) (fun i st => ∃ hp tc, Inv (Clm.sumTo c set k i) hp tc ∧ st = { tm := tmA 45 [(14, .int .i64 i), (13, .int .i64 c.piles.length), (5, .ptr H.length 0), (3, .ptr b3 0), (2, .ptr b2 0), (1, .ptr b1 0), (0, .int .i64 k)], df := [], hp := hp, tc := tc }) ?_ ?_ ?_
  · refine ⟨_, _, hI, ?_⟩
    (refine st_is ?_ ?_ ?_ ?_; (focus (simp [zan, zap])); (focus rfl); (focus (first | rfl | (simp; done) | (simp; rfl))); (focus rfl))
  · clear f0 f1 f2 f3 f4 f5 r0 r1 r2 r3 r4 r5 hI
    rintro i st hi ⟨hp, tc, hV, rfl⟩
    obtain ⟨⟨f0, f1, f2, f3, f4, f5⟩, ⟨g0, g1, g2, g3, g4, g5⟩, ⟨o0, o1, o2, o3, o4, o5⟩, ⟨q0, q1, q2, q3, q4, q5⟩, ⟨r0, r1, r2, r3, r4, r5⟩⟩ := HFa.out _ _ _ hV
    have hbit := zwu (n := set) (d := i) (by omega)
    have hwi : IntKind.i64.wrap (↑i + 1) = ↑i + 1 := zas (by omega) (by omega)
    obtain ⟨a0, a1, a2, a3⟩ := HSb.out.1 i (by omega)
    obtain ⟨l0, l1, l2, l3⟩ := HSb.out.2 i hi
    have hsuc := Clm.sumTo_succ c set k i
    cases hb : set.testBit i with
    | false =>
      rw [hb] at hbit
      rw [if_neg (show ¬ (Clm.bit set i = true) by unfold Clm.bit; rw [hb]; decide)] at hsuc
      rw [← hsuc] at hV
      simp at hbit
      clear hsuc
      generalize Clm.sumTo c set k i = s at *
      (repeat (first | (with_reducible apply zah; (focus ((conv => lhs; simp [Nat.testBit_eq_decide_div_mod_eq, *]) <;> exact rfl)); simp only [addFl]) | ((with_reducible first | apply zai | apply zak | apply zag | apply zae | apply zac | apply zaj | apply zaf | apply zam | (apply zad; · simp [zaa, *]) | (apply zab; · simp [zaa, *])); try simp only [Then, Ops, OutB]) | simp only [Nat.reduceEqDiff, reduceIte, OutB, Then]))
      with_reducible refine ⟨_, _, hV, ?_⟩
      (refine st_is ?_ ?_ ?_ ?_; (focus (simp [zan, zap])); (focus rfl); (focus (first | rfl | (simp; done) | (simp; rfl))); (focus rfl))
    | true =>
      rw [hb] at hbit
      rw [if_pos (show Clm.bit set i = true from hb)] at hsuc
      simp at hbit
      obtain ⟨hp', tc', s1, s2, s3, s4⟩ := HSp.out _ _ _ hV i hi
      obtain ⟨x0, x1, x2, x3, x4, x5⟩ := bk' s3
      have w1 : IntKind.i64.wrap ((Clm.sumTo c set k i).lo + (Clm.spanOf c i k (Clm.leftW c)).lo) = (Clm.sumTo c set k i).lo + (Clm.spanOf c i k (Clm.leftW c)).lo := zas (by omega) (by omega)
      have w2 : IntKind.i64.wrap ((Clm.sumTo c set k i).hi + (Clm.spanOf c i k (Clm.leftW c)).hi) = (Clm.sumTo c set k i).hi + (Clm.spanOf c i k (Clm.leftW c)).hi := zas (by omega) (by omega)
      have n1 : ¬ hp'.length < H.length := by omega
      have n2 : ¬ H.length < H.length := by omega
      have hn := s4 (Clm.sumTo c set k (i + 1))
      rw [hsuc] at hn
      simp only at hn
      have HN := hideP (And.intro hn hsuc)
      clear hn hsuc a0 a1 a2 a3 l0 l1 l2 l3 s4
      generalize Clm.sumTo c set k i = s at *
      generalize Clm.spanOf c i k (Clm.leftW c) = t at *
      (repeat (first | (with_reducible apply zah; (focus ((conv => lhs; simp [Nat.testBit_eq_decide_div_mod_eq, *]) <;> exact rfl)); simp only [addFl]) | ((with_reducible first | apply zai | apply zak | apply zag | apply zae | apply zac | apply zaj | apply zaf | apply zam | (apply zad; · simp [zaa, *]) | (apply zab; · simp [zaa, *])); try simp only [Then, Ops, OutB]) | simp only [Nat.reduceEqDiff, reduceIte, OutB, Then]))
      obtain ⟨hn, hsuc⟩ := HN.out
      have hn2 := hn [.cells [.int .i64 t.lo, .int .i64 t.hi]]
      rw [← hsuc] at hn2
      with_reducible refine ⟨_, _, hn2, ?_⟩
      (refine st_is ?_ ?_ ?_ ?_; (focus (simp [zan, zap])); (focus rfl); (focus (first | rfl | (simp; done) | (simp; rfl))); (focus rfl))
  · clear f0 f1 f2 f3 f4 f5 r0 r1 r2 r3 r4 r5 hI
    rintro st ⟨hp, tc, hV, rfl⟩
    obtain ⟨⟨f0, f1, f2, f3, f4, f5⟩, ⟨g0, g1, g2, g3, g4, g5⟩, ⟨o0, o1, o2, o3, o4, o5⟩, ⟨q0, q1, q2, q3, q4, q5⟩, ⟨r0, r1, r2, r3, r4, r5⟩⟩ := HFa.out _ _ _ hV
    have n2 : ¬ H.length < H.length := by omega
    generalize Clm.sumTo c set k c.piles.length = s at *
    (repeat (first | (with_reducible apply zah; (focus ((conv => lhs; simp [Nat.testBit_eq_decide_div_mod_eq, *]) <;> exact rfl)); simp only [addFl]) | ((with_reducible first | apply zai | apply zak | apply zag | apply zae | apply zac | apply zaj | apply zaf | apply zam | (apply zad; · simp [zaa, *]) | (apply zab; · simp [zaa, *])); try simp only [Then, Ops, OutB, reduceIte]) | simp only [Nat.reduceEqDiff, reduceIte, OutB, Then]))
    obtain ⟨k0, k1, k2, k3⟩ := HBk.out _ _ _ hV
    refine zao (v := spA s) (.inl rfl) rfl (by simp; omega) (by simp only [resL, resOf, zal]; simp [resV, pickC, spA, q0]) ⟨rfl, k0, k1.set _ _ (by omega), k2.kp ((Kp.refl [H.length] _).set _ _ (by simp)) (by simp <;> omega) (by simp <;> omega)⟩
def LeftC (call : CallF) (c : Clm.Cl) : Prop := ∀ (H : List AB) (yb : Nat) (w : AV), H[yb]? = some (.cells (clampCs c ++ [w])) → ∀ (n : Nat) (pack : Int) (wy : Clm.Way), call (.fn (.func 44) [.ptr yb 0] []) [.agg (wayCs n pack wy)] H = some (.ret (.agg [.int .i64 (Clm.leftW c wy).lo, .int .i64 (Clm.leftW c wy).hi]), H, [])
theorem left_way {call : CallF} {c : Clm.Cl} (h : LeftC call c) (yb mb n : Nat) (pack : Int) (H0 : List AB) : WayF call (.fn (.func 44) [.ptr yb 0] []) c yb mb n pack H0 (Clm.leftW c) :=
  fun G _ hY w _ => h G yb _ hY.y n pack w
theorem zxe (C : Cfg) (n : Nat) (hC : C.calm = true) (h78 : Has C 78 af78) (c : Clm.Cl) (hc : Clm.Fine c) (hL : LeftC (Ev.call C n) c) (hS : SpanC C n c) (hH : HullC C (n + 2) c) (H : List AB) (yb mb : Nat) (hY : Yd c yb mb H) (set : Nat) :
    Does (ev C (Ev.call C (n + 5)) H.length none af53.body { tm := tmA af53.ntmps (zipI 0 [.ptr yb 0, .int .u64 set] []), df := [], hp := H, tc := [] })
      (Ends C H.length af53.res fun v hp tc => v = spA (Clm.together c set) ∧ (∀ j ∈ tc, j = mb) ∧ Kp tc H hp ∧ Yd c yb mb hp) := by
  have hml : mb < H.length := by obtain ⟨es, hm, _⟩ := hY.m; exact get_lt hm
  have hyl := get_lt hY.y
  obtain ⟨H0, hH0⟩ : ∃ H0, H0 = H ++ [.cells [.ptr yb 0], .cells [.int .u64 set], .cells [.int .i64 0, .int .i64 0], .cells [.fn (.func 44) [.ptr yb 0] []]] := ⟨_, rfl⟩
  obtain ⟨H1, tc1, c1, c2, c3, c4⟩ := hH H0 yb mb (by rw [hH0]; exact hY.app _) (.func 78) [] [.ptr H.length 0, .ptr (H.length + 1) 0, .ptr (H.length + 3) 0] (fun k => Clm.sumTo c set k c.piles.length) (by
    intro G hG hYG k hk
    have hat : ∀ {j x}, H0[j]? = some x → H.length ≤ j → G[j]? = some x := fun hx hj => hG.at hx (by simp; omega)
    exact zdn hC h78 (Nat.le_of_ble_eq_true rfl) hYG (ztn C n hC c hc hS G yb mb hYG (.fn (.func 44) [.ptr yb 0] []) rfl set H.length (H.length + 1) (H.length + 3) (hat (by rw [hH0]; simp) (by omega)) (hat (by rw [hH0]; simp) (by omega)) (hat (by rw [hH0]; simp) (by omega)) ⟨by omega, by omega, by omega⟩ k hk fun i _ => left_way hL yb mb i k G))
  have e1 : H1[H.length + 2]? = some (.cells [.int .i64 0, .int .i64 0]) := c3.at (by rw [hH0]; simp) (fun h => by have := c2 _ h; omega)
  obtain ⟨f0, f1, f2, f3, f4, f5⟩ := bk' e1
  have n1 : ∀ n, ¬ H.length + n < H.length := by omega
  rw [hH0] at c1 c3
  rw [Clm.together_eq]
  generalize Clm.hull ((Clm.packs c (Clm.every c)).map fun k => Clm.sumTo c set k c.piles.length) = sp at *
  have HA := hideP (And.intro c2 (And.intro c3 c4))
  clear hS hY c2 c3 c4 hc hH hH0 hL
  unfold af53
  simp only [zipI] at *
  (repeat (first | (with_reducible apply zah; (focus ((conv => lhs; simp [Nat.testBit_eq_decide_div_mod_eq, *]) <;> exact rfl)); simp only [addFl]) | ((with_reducible first | apply zai | apply zak | apply zag | apply zae | apply zac | apply zaj | apply zaf | apply zam | (apply zad; · simp [zaa, *]) | (apply zab; · simp [zaa, *])); try simp only [Then, Ops]) | simp only [Nat.reduceEqDiff, reduceIte, OutB, Then]))
  obtain ⟨c2, c3, c4⟩ := HA.out
  have hf : tc1.filter (· < H.length) = tc1 := List.filter_eq_self.2 fun j hj => by have := c2 j hj; simp; omega
  rw [hf]
  refine zao (v := spA sp) (.inl rfl) rfl (by simp; omega) (by simp only [resL, resOf, zal]; simp [resV, pickC, spA, f0]) ⟨rfl, c2, c3.pre.set _ _ (by omega), c4.kp ((Kp.refl [H.length + 2] _).set _ _ (by simp)) (by simp <;> omega) (by simp <;> omega)⟩
end K
end Ev
end Go.Proofs.Ytimgnlellflciaa

/- Package clamp, gone through: open, which panics unless clamps are valid. -/
namespace Go.Proofs.Ytimgnlellflciaa
open Go
namespace Ev
namespace K
attribute [local simp] ev1 wantG spineK spine float xnew xval xeff zaa zaq zbc zav zaw addFl cellsOf pickC alive slLen slFt binI maxA maxK minA minK aeqK aeqS AV.cells spA zar fillA setAt bitsI nat_nn zbg AV.plain apart
set_option maxRecDepth 100000
set_option maxHeartbeats 4000000
def stopV (e : Int) : AV := .iface 102 (.agg [.int .i64 e])
structure MustC (call : CallF) : Prop where
  t : ∀ H e, call (.fn (.func 61) [] []) [.bool true, .int .i64 e] H = some (.ret (.tup []), H, [])
  f : ∀ H e, call (.fn (.func 61) [] []) [.bool false, .int .i64 e] H = some (.pan (.iface 102 (.agg [.int .i64 e])), H, [])
def IsSpanC (call : CallF) : Prop := ∀ (H : List AB) (s : Clm.Sp) (a b w : Int), a = 0 ∨ a = 1 → b ≤ 5000 → call (.fn (.func 76) [] []) [.agg [.int .i64 s.lo, .int .i64 s.hi], .int .i64 a, .int .i64 b, .int .i64 w] H = some (.ret (.bool (Clm.isSpan s a b w)), H, [])
def IsPileC (call : CallF) (c : Clm.Cl) : Prop := ∀ (H : List AB) (yb : Nat) (w : AV), H[yb]? = some (.cells (clampCs c ++ [w])) → ∀ n : Int, call (.fn (.func 50) [] []) [.ptr yb 0, .int .i64 n] H = some (.ret (.bool (decide (0 ≤ n ∧ n < c.piles.length))), H, [])
def Fin (C : Cfg) (pin : Nat) (fn : AFunc) (Q : CRes → List AB → List Nat → Prop) (e : AExit) (st : St) : Prop := ∃ x st', finish C pin fn e st = some (x, st') ∧ pin ≤ st'.hp.length ∧ Q x st'.hp st'.tc
theorem zbp {C : Cfg} {pin : Nat} {fn : AFunc} {Q : CRes → List AB → List Nat → Prop} {v : AV} {st : St} (hd : st.df = []) (hl : pin ≤ st.hp.length) (hq : Q (.pan v) st.hp st.tc) : Fin C pin fn Q (.panic v) st := ⟨_, _, zrt hd, hl, hq⟩
theorem zji {C : Cfg} {pin : Nat} {fn : AFunc} {Q : CRes → List AB → List Nat → Prop} {e : AExit} {st : St} {v : AV} (he : e = .ret ∨ e = .normal) (hd : st.df = []) (hl : pin ≤ st.hp.length) (hr : (resL st fn.res).map resV = some v) (hq : Q (.ret v) st.hp st.tc) : Fin C pin fn Q e st := by
  obtain ⟨x, st', h1, h2, v', h3, h4⟩ := zjm (Q := fun v hp tc => Q (.ret v) hp tc) (zao he hd hl hr hq)
  exact ⟨x, st', h1, h2, by rw [h3]; exact h4⟩
def pileOk (p : Clm.Pl) : Bool := Clm.isSpan p.long 1 10 1 && Clm.isSpan p.wide 1 10 1 && Clm.isSpan p.high 1 10 1
def evtOk (c : Clm.Cl) (v : Clm.Evt) : Bool := decide (0 ≤ v.clamp ∧ v.clamp < c.piles.length) && decide (v.kind = 0 ∨ v.kind = 1) && Clm.isSpan v.sods 0 5000 (if v.kind = 0 then 3 else 5000)
def headOk (c : Clm.Cl) : Bool := decide (1 ≤ c.piles.length ∧ c.piles.length ≤ 4) && Clm.isSpan c.pack 1 5 2 && decide (c.events.length ≤ 6)
theorem zpp (c : Clm.Cl) : Clm.valid c = (headOk c && c.piles.all pileOk && c.events.all (evtOk c)) := rfl
def OpenQ (c : Clm.Cl) (is : Bool) (H : List AB) (x : CRes) (hp : List AB) (tc : List Nat) : Prop :=
  tc = [] ∧ ((Clm.valid c = false ∧ x = .pan (stopV 1)) ∨ (Clm.valid c = true ∧ is = false ∧ x = .pan (stopV 2)) ∨ (Clm.valid c = true ∧ is = true ∧ ∃ yb mb, x = .ret (.ptr yb 0) ∧ Kp [] H hp ∧ Yd c yb mb hp ∧ H.length ≤ yb ∧ H.length ≤ mb))
theorem zut (C : Cfg) (hC : C.calm = true) (call : CallF) (hM : MustC call) (hS : IsSpanC call) (hWi : WithinC call) (c : Clm.Cl) (hP : c.piles.length ≤ 4 → IsPileC call c) (hbig : c.piles.length ≤ 1000000 ∧ c.events.length ≤ 1000000) (H : List AB) (F : AV) (is : Bool) (hF : Clm.valid c = true → ∀ G yb mb, Kp [] H G → Yd c yb mb G → call F [.ptr yb 0] G = some (.ret (.bool is), G, [])) :
    Does (ev C call H.length none af48.body { tm := tmA af48.ntmps (zipI 0 [.agg (clampCs c), F] []), df := [], hp := H, tc := [] })
      (Fin C H.length af48 (OpenQ c is H)) := by
  have hmt := hM.t
  have hmf := hM.f
  have hw1 := fun H => hWi H (c.piles.length : Int) 1 4
  have hs1 := fun H => hS H c.pack 1 5 2 (.inr rfl) (by decide)
  have e1 : decide ((1 : Int) ≤ c.piles.length ∧ (c.piles.length : Int) ≤ 4) = decide (1 ≤ c.piles.length ∧ c.piles.length ≤ 4) := by congr 1; simp; omega
  rw [e1] at hw1
  have hhead : headOk c = (decide (1 ≤ c.piles.length ∧ c.piles.length ≤ 4) && Clm.isSpan c.pack 1 5 2 && decide (c.events.length ≤ 6)) := rfl
  have hv := zpp c
  rw [hhead] at hv
  have hS1 := fun H s => hS H s 1 10 1 (.inr rfl) (by decide)
  have hS2 := fun H s w => hS H s 0 5000 w (.inl rfl) (by decide)
  have hWk := fun H n => hWi H n 0 1
  have HH := hideP (And.intro hF (And.intro hbig (And.intro hWk (And.intro hS2 (And.intro hS1 (And.intro hP hv))))))
  clear e1 hhead hF hM hS hWi hP hbig hS1 hS2 hWk
  unfold af48
  simp only [zipI, clampCs] at *
  cases h1 : decide (1 ≤ c.piles.length ∧ c.piles.length ≤ 4) with
  | false =>
    rw [h1] at hw1 hv
    have HV := hideP hv
    clear h1 hv
    (repeat (first | (with_reducible apply zah; (focus ((conv => lhs; simp [Nat.testBit_eq_decide_div_mod_eq, *]) <;> exact rfl)); simp only [addFl]) | (with_reducible apply zau; (focus ((conv => lhs; simp [Nat.testBit_eq_decide_div_mod_eq, *]) <;> exact rfl)); (try simp only [Ops, Then]); (try dsimp only)) | ((with_reducible first | apply zai | apply zak | apply zag | apply zae | apply zac | apply zaj | apply zaf | apply zam | (apply zad; · simp [zaa, *]) | (apply zab; · simp [zaa, *])); try simp only [Then, Ops]) | simp only [Nat.reduceEqDiff, reduceIte, OutB, Then]))
    exact zbp rfl (by simp) ⟨rfl, .inl ⟨by rw [HV.out]; rfl, rfl⟩⟩
  | true =>
    rw [h1] at hw1 hv
    have h1 := of_decide_eq_true h1
    cases h2 : Clm.isSpan c.pack 1 5 2 with
    | false =>
      rw [h2] at hs1 hv
      have HV := hideP hv
      clear h1 h2 hv
      (repeat (first | (with_reducible apply zah; (focus ((conv => lhs; simp [Nat.testBit_eq_decide_div_mod_eq, *]) <;> exact rfl)); simp only [addFl]) | (with_reducible apply zau; (focus ((conv => lhs; simp [Nat.testBit_eq_decide_div_mod_eq, *]) <;> exact rfl)); (try simp only [Ops, Then]); (try dsimp only)) | ((with_reducible first | apply zai | apply zak | apply zag | apply zae | apply zac | apply zaj | apply zaf | apply zam | (apply zad; · simp [zaa, *]) | (apply zab; · simp [zaa, *])); try simp only [Then, Ops]) | simp only [Nat.reduceEqDiff, reduceIte, OutB, Then]))
      exact zbp rfl (by simp) ⟨rfl, .inl ⟨by rw [HV.out]; rfl, rfl⟩⟩
    | true =>
      rw [h2] at hs1 hv
      clear h2
      by_cases h3 : c.events.length ≤ 6
      · have h3' : (c.events.length : Int) ≤ 6 := by omega
        rw [decide_eq_true h3] at hv
        simp only [Bool.true_and] at hv
        have HV := hideP hv
        clear hv
        (repeat (first | (with_reducible apply zah; (focus ((conv => lhs; simp [Nat.testBit_eq_decide_div_mod_eq, *]) <;> exact rfl)); simp only [addFl]) | (with_reducible apply zau; (focus ((conv => lhs; simp [Nat.testBit_eq_decide_div_mod_eq, *]) <;> exact rfl)); (try simp only [Ops, Then, OutB]); (try dsimp only)) | ((with_reducible first | apply zai | apply zak | apply zag | apply zae | apply zac | apply zaj | apply zaf | apply zam | (apply zad; · simp [zaa, *]) | (apply zab; · simp [zaa, *])); try simp only [Then, Ops]) | simp only [Nat.reduceEqDiff, reduceIte, OutB, Then]))
        clear hw1 hs1
        obtain ⟨hF, hbig, hWk, hS2, hS1, hP, _⟩ := HH.out
        clear HH
        have HH := hideP (And.intro hF (And.intro hbig (And.intro hWk (And.intro hS2 hP))))
        clear hF hWk hS2 hP
        have hpb := hbig.1
        with_reducible refine zaz hC c.piles.length (by unfold fuelL; omega) (fun i st => ∃ J, (∀ j p, j < i → c.piles[j]? = some p → pileOk p = true) ∧ st = { tm := tmA 93 [(34, .int .i64 i), (33, .int .i64 c.piles.length), (32, .vs 6 (c.piles.map pileE)), (5, .fn (.func 76) [] []), (2, .ptr H.length 0), (1, F)], df := [], hp := H ++ .cells [.vs 6 (c.piles.map pileE), .int .i64 c.pack.lo, .int .i64 c.pack.hi, .vs 4 (c.events.map evtE)] :: J, tc := [] }) ?_ ?_ ?_
        · refine ⟨[], by simp, ?_⟩
          (refine st_is ?_ ?_ ?_ ?_; (focus (simp [zan, zap])); (focus rfl); (focus (first | rfl | (simp; done) | (simp; rfl))); (focus rfl))
        · rintro i st hi ⟨J, hok, rfl⟩
          have hgp : c.piles[i]? = some c.piles[i] := List.getElem?_eq_getElem hi
          generalize c.piles[i] = p at hgp
          have hgp' := ge_of hgp
          have hwi : IntKind.i64.wrap (↑i + 1) = ↑i + 1 := zas (by omega) (by omega)
          have HO := hideP hok
          clear hok
          (repeat (first | (with_reducible apply zah; (focus ((conv => lhs; simp [pileE, Nat.testBit_eq_decide_div_mod_eq, *]) <;> exact rfl)); simp only [addFl]) | ((with_reducible first | apply zai | apply zak | apply zag | apply zae | apply zac | apply zaj | apply zaf | apply zam | (apply zad; · simp [zaa, *]) | (apply zab; · simp [zaa, *])); try simp only [Then, Ops, OutB]) | simp only [Nat.reduceEqDiff, reduceIte, OutB, Then]))
          obtain ⟨C0, hC0⟩ : ∃ C0 : AB, C0 = .cells [.vs 6 (c.piles.map pileE), .int .i64 c.pack.lo, .int .i64 c.pack.hi, .vs 4 (c.events.map evtE)] := ⟨_, rfl⟩
          obtain ⟨G2, hG2⟩ : ∃ G2 : List AB, G2 = H ++ C0 :: (J ++ [.cells [.int .i64 p.long.lo, .int .i64 p.long.hi, .int .i64 p.wide.lo, .int .i64 p.wide.hi, .int .i64 p.high.lo, .int .i64 p.high.hi], .cells [.int .i64 p.long.lo, .int .i64 p.long.hi, .int .i64 p.wide.lo, .int .i64 p.wide.hi, .int .i64 p.high.lo, .int .i64 p.high.hi]]) := ⟨_, rfl⟩
          have hsb : G2[H.length + (J.length + 1 + 1)]? = some (.cells [.int .i64 p.long.lo, .int .i64 p.long.hi, .int .i64 p.wide.lo, .int .i64 p.wide.hi, .int .i64 p.high.lo, .int .i64 p.high.hi]) := by rw [hG2]; simp
          obtain ⟨f0, f1, f2, f3, f4, f5⟩ := bk' hsb
          have hlG : H.length < G2.length := by omega
          have nG : ∀ n, ¬ G2.length + n < H.length := by omega
          refine zaz hC 3 (by decide) (fun j st => ∃ J2, (1 ≤ j → Clm.isSpan p.long 1 10 1 = true) ∧ (2 ≤ j → Clm.isSpan p.wide 1 10 1 = true) ∧ (3 ≤ j → Clm.isSpan p.high 1 10 1 = true) ∧ st = { tm := tmA 93 [(46, .int .i64 j), (45, .int .i64 3), (44, .sl (H.length + (J.length + 1 + 1)) 0 3 2), (34, .int .i64 i), (33, .int .i64 c.piles.length), (32, .vs 6 (c.piles.map pileE)), (5, .fn (.func 76) [] []), (2, .ptr H.length 0), (1, F)], df := [], hp := G2 ++ J2, tc := [] }) ?_ ?_ ?_
          · refine ⟨[], fun h => by omega, fun h => by omega, fun h => by omega, ?_⟩
            refine st_is ?_ rfl ?_ rfl
            · simp [zan, zap]
            · rw [hG2, hC0]; simp
          · rintro j st hj ⟨J2, q1, q2, q3, rfl⟩
            have hbad : ∀ X : Prop, pileOk p = false → Clm.valid c = false := fun _ h => by
              rw [HV.out]
              have : c.piles.all pileOk = false := by
                rw [List.all_eq_false]
                exact ⟨p, List.mem_of_getElem? hgp, by rw [h]; decide⟩
              rw [this]; simp
            have HB := hideP hbad
            have HQ := hideP (And.intro q1 (And.intro q2 q3))
            obtain rfl | rfl | rfl : j = 0 ∨ j = 1 ∨ j = 2 := by omega
            · have hs := fun H => hS1 H p.long
              have w1 : IntKind.i64.wrap 1 = 1 := by decide
              clear hbad q1 q2 q3 hG2 hC0 hS1 hgp hgp'
              cases hb : Clm.isSpan p.long 1 10 1 with
              | false =>
                rw [hb] at hs
                (repeat (first | (with_reducible apply zah; (focus ((conv => lhs; simp [Nat.testBit_eq_decide_div_mod_eq, *]) <;> exact rfl)); simp only [addFl]) | (with_reducible apply zau; (focus ((conv => lhs; simp [Nat.testBit_eq_decide_div_mod_eq, *]) <;> exact rfl)); (try simp only [Ops, Then, OutB]); (try dsimp only)) | ((with_reducible first | apply zai | apply zak | apply zag | apply zae | apply zac | apply zaj | apply zaf | apply zam | (apply zad; · simp [zaa, *]) | (apply zab; · simp [zaa, *])); try simp only [Then, Ops, OutB]) | simp only [Nat.reduceEqDiff, reduceIte, OutB, Then]))
                exact zbp rfl (by simp; omega) ⟨rfl, .inl ⟨HB.out True (by unfold pileOk; rw [hb]; rfl), rfl⟩⟩
              | true =>
                rw [hb] at hs
                (repeat (first | (with_reducible apply zah; (focus ((conv => lhs; simp [Nat.testBit_eq_decide_div_mod_eq, *]) <;> exact rfl)); simp only [addFl]) | (with_reducible apply zau; (focus ((conv => lhs; simp [Nat.testBit_eq_decide_div_mod_eq, *]) <;> exact rfl)); (try simp only [Ops, Then, OutB]); (try dsimp only)) | ((with_reducible first | apply zai | apply zak | apply zag | apply zae | apply zac | apply zaj | apply zaf | apply zam | (apply zad; · simp [zaa, *]) | (apply zab; · simp [zaa, *])); try simp only [Then, Ops, OutB]) | simp only [Nat.reduceEqDiff, reduceIte, OutB, Then]))
                with_reducible refine ⟨?_, fun _ => (by first | trivial | exact hb), fun h => absurd h (by omega), fun h => absurd h (by omega), ?_⟩
                rotate_left
                (refine st_is ?_ ?_ ?_ ?_; (focus (simp [zan, zap])); (focus rfl); (focus (first | rfl | (simp; done) | (simp; rfl))); (focus rfl))
            · have hs := fun H => hS1 H p.wide
              have w1 : IntKind.i64.wrap 2 = 2 := by decide
              have hb1 := q1 (by omega)
              clear hbad q1 q2 q3 hG2 hC0 hS1 hgp hgp'
              cases hb : Clm.isSpan p.wide 1 10 1 with
              | false =>
                rw [hb] at hs
                (repeat (first | (with_reducible apply zah; (focus ((conv => lhs; simp [Nat.testBit_eq_decide_div_mod_eq, *]) <;> exact rfl)); simp only [addFl]) | (with_reducible apply zau; (focus ((conv => lhs; simp [Nat.testBit_eq_decide_div_mod_eq, *]) <;> exact rfl)); (try simp only [Ops, Then, OutB]); (try dsimp only)) | ((with_reducible first | apply zai | apply zak | apply zag | apply zae | apply zac | apply zaj | apply zaf | apply zam | (apply zad; · simp [zaa, *]) | (apply zab; · simp [zaa, *])); try simp only [Then, Ops, OutB]) | simp only [Nat.reduceEqDiff, reduceIte, OutB, Then]))
                exact zbp rfl (by simp; omega) ⟨rfl, .inl ⟨HB.out True (by unfold pileOk; rw [hb]; simp), rfl⟩⟩
              | true =>
                rw [hb] at hs
                (repeat (first | (with_reducible apply zah; (focus ((conv => lhs; simp [Nat.testBit_eq_decide_div_mod_eq, *]) <;> exact rfl)); simp only [addFl]) | (with_reducible apply zau; (focus ((conv => lhs; simp [Nat.testBit_eq_decide_div_mod_eq, *]) <;> exact rfl)); (try simp only [Ops, Then, OutB]); (try dsimp only)) | ((with_reducible first | apply zai | apply zak | apply zag | apply zae | apply zac | apply zaj | apply zaf | apply zam | (apply zad; · simp [zaa, *]) | (apply zab; · simp [zaa, *])); try simp only [Then, Ops, OutB]) | simp only [Nat.reduceEqDiff, reduceIte, OutB, Then]))
                with_reducible refine ⟨?_, fun _ => hb1, fun _ => (by first | trivial | exact hb), fun h => absurd h (by omega), ?_⟩
                rotate_left
                (refine st_is ?_ ?_ ?_ ?_; (focus (simp [zan, zap])); (focus rfl); (focus (first | rfl | (simp; done) | (simp; rfl))); (focus rfl))
            · have hs := fun H => hS1 H p.high
              have w1 : IntKind.i64.wrap 3 = 3 := by decide
              have hb1 := q1 (by omega)
              have hb2 := q2 (by omega)
              clear hbad q1 q2 q3 hG2 hC0 hS1 hgp hgp'
              cases hb : Clm.isSpan p.high 1 10 1 with
              | false =>
                rw [hb] at hs
                (repeat (first | (with_reducible apply zah; (focus ((conv => lhs; simp [Nat.testBit_eq_decide_div_mod_eq, *]) <;> exact rfl)); simp only [addFl]) | (with_reducible apply zau; (focus ((conv => lhs; simp [Nat.testBit_eq_decide_div_mod_eq, *]) <;> exact rfl)); (try simp only [Ops, Then, OutB]); (try dsimp only)) | ((with_reducible first | apply zai | apply zak | apply zag | apply zae | apply zac | apply zaj | apply zaf | apply zam | (apply zad; · simp [zaa, *]) | (apply zab; · simp [zaa, *])); try simp only [Then, Ops, OutB]) | simp only [Nat.reduceEqDiff, reduceIte, OutB, Then]))
                exact zbp rfl (by simp; omega) ⟨rfl, .inl ⟨HB.out True (by unfold pileOk; rw [hb]; simp), rfl⟩⟩
              | true =>
                rw [hb] at hs
                (repeat (first | (with_reducible apply zah; (focus ((conv => lhs; simp [Nat.testBit_eq_decide_div_mod_eq, *]) <;> exact rfl)); simp only [addFl]) | (with_reducible apply zau; (focus ((conv => lhs; simp [Nat.testBit_eq_decide_div_mod_eq, *]) <;> exact rfl)); (try simp only [Ops, Then, OutB]); (try dsimp only)) | ((with_reducible first | apply zai | apply zak | apply zag | apply zae | apply zac | apply zaj | apply zaf | apply zam | (apply zad; · simp [zaa, *]) | (apply zab; · simp [zaa, *])); try simp only [Then, Ops, OutB]) | simp only [Nat.reduceEqDiff, reduceIte, OutB, Then]))
                with_reducible refine ⟨?_, fun _ => hb1, fun _ => hb2, fun _ => (by first | trivial | exact hb), ?_⟩
                rotate_left
                (refine st_is ?_ ?_ ?_ ?_; (focus (simp [zan, zap])); (focus rfl); (focus (first | rfl | (simp; done) | (simp; rfl))); (focus rfl))
          · rintro st ⟨J2, q1, q2, q3, rfl⟩
            have hpo : pileOk p = true := by unfold pileOk; rw [q1 (by omega), q2 (by omega), q3 (by omega)]; rfl
            clear q1 q2 q3
            have hnext : ∀ j q, j < i + 1 → c.piles[j]? = some q → pileOk q = true := by
              intro j q hj hq
              by_cases h : j = i
              · subst h; rw [hgp] at hq; cases hq; exact hpo
              · exact HO.out j q (by omega) hq
            have HN := hideP hnext
            clear hnext hS1 hgp hgp'
            have HG := hideP (And.intro hG2 hC0)
            clear hG2 hC0
            (repeat (first | (with_reducible apply zah; (focus ((conv => lhs; simp [Nat.testBit_eq_decide_div_mod_eq, *]) <;> exact rfl)); simp only [addFl]) | ((with_reducible first | apply zai | apply zak | apply zag | apply zae | apply zac | apply zaj | apply zaf | apply zam | (apply zad; · simp [zaa, *]) | (apply zab; · simp [zaa, *])); try simp only [Then, Ops, OutB, reduceIte]) | simp only [Nat.reduceEqDiff, reduceIte, OutB, Then]))
            obtain ⟨hG2, hC0⟩ := HG.out
            with_reducible refine ⟨J ++ [.cells [.int .i64 p.long.lo, .int .i64 p.long.hi, .int .i64 p.wide.lo, .int .i64 p.wide.hi, .int .i64 p.high.lo, .int .i64 p.high.hi], .cells [.int .i64 p.long.lo, .int .i64 p.long.hi, .int .i64 p.wide.lo, .int .i64 p.wide.hi, .int .i64 p.high.lo, .int .i64 p.high.hi]] ++ J2, HN.out, ?_⟩
            refine st_is ?_ rfl ?_ rfl
            · simp [zan, zap]
            · rw [hG2, hC0]; simp
        · rintro st ⟨J, hok, rfl⟩
          obtain ⟨hF, hbig, hWk, hS2, hP⟩ := HH.out
          have hPi := hP h1.2
          clear hS1 hP
          have hall : c.piles.all pileOk = true := by
            rw [List.all_eq_true]
            intro p hp
            obtain ⟨j, hj⟩ := List.mem_iff_getElem?.1 hp
            exact hok j p (List.getElem?_eq_some_iff.1 hj).1 hj
          have hv := HV.out
          rw [hall, Bool.true_and] at hv
          obtain ⟨C0, hC0⟩ : ∃ C0 : AB, C0 = .cells [.vs 6 (c.piles.map pileE), .int .i64 c.pack.lo, .int .i64 c.pack.hi, .vs 4 (c.events.map evtE)] := ⟨_, rfl⟩
          obtain ⟨G, hG⟩ : ∃ G, G = H ++ C0 :: J := ⟨_, rfl⟩
          have h0 : G[H.length]? = some (.cells [.vs 6 (c.piles.map pileE), .int .i64 c.pack.lo, .int .i64 c.pack.hi, .vs 4 (c.events.map evtE)]) := by rw [hG, hC0]; simp
          have hKG : Kp [] H G := by rw [hG]; exact Kp.app _ _
          rw [← hC0, ← hG]
          obtain ⟨f0, f1, f2, f3, f4, f5⟩ := bk' h0
          have nG : ∀ n, ¬ G.length + n < H.length := by omega
          have nG0 : ¬ G.length < H.length := by omega
          have HX := hideP (And.intro hF (And.intro hWk (And.intro hS2 (And.intro hPi (And.intro hv hKG)))))
          clear hF hWk hS2 hPi hv hKG HH HV hok hall hG hC0 J h0
          (repeat (first | (with_reducible apply zah; (focus ((conv => lhs; simp [Nat.testBit_eq_decide_div_mod_eq, *]) <;> exact rfl)); simp only [addFl]) | ((with_reducible first | apply zai | apply zak | apply zag | apply zae | apply zac | apply zaj | apply zaf | apply zam | (apply zad; · simp [zaa, *]) | (apply zab; · simp [zaa, *])); try simp only [Then, Ops, OutB, reduceIte]) | simp only [Nat.reduceEqDiff, reduceIte, OutB, Then]))
          obtain ⟨G3, hG3⟩ : ∃ G3, G3 = G ++ [.map [], .cells [.vs 6 (c.piles.map pileE), .int .i64 c.pack.lo, .int .i64 c.pack.hi, .vs 4 (c.events.map evtE), .map G.length]] := ⟨_, rfl⟩
          have hlen3 : G3.length = G.length + 2 := by rw [hG3]; simp
          have hYd3 : Yd c (G.length + 1) G.length G3 := ⟨by omega, by rw [hG3]; simp [clampCs], [], by rw [hG3]; simp, by intro p hp; cases hp⟩
          have nG3 : ∀ n, ¬ G3.length + n < H.length := by omega
          have hlG3 : H.length < G3.length := by omega
          have hpb := hbig.2
          with_reducible refine zaz hC c.events.length (by unfold fuelL; omega) (fun i st => ∃ J, (∀ j v, j < i → c.events[j]? = some v → evtOk c v = true) ∧ st = { tm := tmA 93 [(63, .int .i64 i), (62, .int .i64 c.events.length), (61, .vs 4 (c.events.map evtE)), (10, .ptr (G.length + 1) 0), (5, .fn (.func 76) [] []), (1, F)], df := [], hp := G3 ++ J, tc := [] }) ?_ ?_ ?_
          · refine ⟨[], by simp, ?_⟩
            refine st_is ?_ rfl ?_ rfl
            · simp [zan, zap]
            · rw [hG3]; simp
          · rintro i st hi ⟨J, hok, rfl⟩
            obtain ⟨hF, hWk, hS2, hPi, hv, hKG⟩ := HX.out
            have hgv : c.events[i]? = some c.events[i] := List.getElem?_eq_getElem hi
            generalize c.events[i] = v at hgv
            have hgv' := ge_of hgv
            have hwi : IntKind.i64.wrap (↑i + 1) = ↑i + 1 := zas (by omega) (by omega)
            have hpi := fun K => hPi (G3 ++ K) (G.length + 1) _ (hYd3.app K).y v.clamp
            have hwk := fun H => hWk H v.kind
            have hkk : decide (v.kind = 0 ∨ v.kind = 1) = decide (0 ≤ v.kind ∧ v.kind ≤ 1) := by congr 1; simp; omega
            have hbad : evtOk c v = false → Clm.valid c = false := fun h => by
              rw [hv, List.all_eq_false]
              exact ⟨v, List.mem_of_getElem? hgv, by rw [h]; decide⟩
            have hnext : evtOk c v = true → ∀ j q, j < i + 1 → c.events[j]? = some q → evtOk c q = true := by
              intro ho j q hj hq
              by_cases h : j = i
              · subst h; rw [hgv] at hq; cases hq; exact ho
              · exact hok j q (by omega) hq
            have HB := hideP hbad
            have HO := hideP hnext
            clear hbad hnext hok hF hWk hPi hv hKG hG3 hYd3 hlen3 hgv f0 f1 f2 f3 f4 f5
            by_cases hk0 : v.kind = 0
            · have hs := fun H => hS2 H v.sods 3
              clear hS2
              simp only [hk0] at hwk
              simp at hwk
              cases hb1 : decide (0 ≤ v.clamp ∧ v.clamp < c.piles.length) with
              | false =>
                rw [hb1] at hpi
                have hev : evtOk c v = false := by unfold evtOk; rw [hb1]; rfl
                have HE := hideP hev
                clear hev hb1 hkk
                (repeat (first | (with_reducible apply zah; (focus ((conv => lhs; simp [evtE, Nat.testBit_eq_decide_div_mod_eq, *]) <;> exact rfl)); simp only [addFl]) | (with_reducible apply zau; (focus ((conv => lhs; simp [evtE, Nat.testBit_eq_decide_div_mod_eq, *]) <;> exact rfl)); (try simp only [Ops, Then, OutB]); (try dsimp only)) | ((with_reducible first | apply zai | apply zak | apply zag | apply zae | apply zac | apply zaj | apply zaf | apply zam | (apply zad; · simp [zaa, *]) | (apply zab; · simp [zaa, *])); try simp only [Then, Ops, OutB]) | simp only [Nat.reduceEqDiff, reduceIte, OutB, Then]))
                exact zbp rfl (by simp; omega) ⟨rfl, .inl ⟨HB.out HE.out, rfl⟩⟩
              | true =>
                rw [hb1] at hpi
                cases hb3 : Clm.isSpan v.sods 0 5000 3 with
                | false =>
                  rw [hb3] at hs
                  have hev : evtOk c v = false := by unfold evtOk; rw [if_pos hk0, hb3]; simp
                  have HE := hideP hev
                  clear hev hb1 hb3 hkk
                  (repeat (first | (with_reducible apply zah; (focus ((conv => lhs; simp [evtE, Nat.testBit_eq_decide_div_mod_eq, *]) <;> exact rfl)); simp only [addFl]) | (with_reducible apply zau; (focus ((conv => lhs; simp [evtE, Nat.testBit_eq_decide_div_mod_eq, *]) <;> exact rfl)); (try simp only [Ops, Then, OutB]); (try dsimp only)) | ((with_reducible first | apply zai | apply zak | apply zag | apply zae | apply zac | apply zaj | apply zaf | apply zam | (apply zad; · simp [zaa, *]) | (apply zab; · simp [zaa, *])); try simp only [Then, Ops, OutB]) | simp only [Nat.reduceEqDiff, reduceIte, OutB, Then]))
                  exact zbp rfl (by simp; omega) ⟨rfl, .inl ⟨HB.out HE.out, rfl⟩⟩
                | true =>
                  rw [hb3] at hs
                  have hev : evtOk c v = true := by unfold evtOk; rw [if_pos hk0, hb1, hb3, hk0]; rfl
                  have HE := hideP hev
                  clear hev hb1 hb3 hkk
                  (repeat (first | (with_reducible apply zah; (focus ((conv => lhs; simp [evtE, Nat.testBit_eq_decide_div_mod_eq, *]) <;> exact rfl)); simp only [addFl]) | (with_reducible apply zau; (focus ((conv => lhs; simp [evtE, Nat.testBit_eq_decide_div_mod_eq, *]) <;> exact rfl)); (try simp only [Ops, Then, OutB]); (try dsimp only)) | ((with_reducible first | apply zai | apply zak | apply zag | apply zae | apply zac | apply zaj | apply zaf | apply zam | (apply zad; · simp [zaa, *]) | (apply zab; · simp [zaa, *])); try simp only [Then, Ops, OutB]) | simp only [Nat.reduceEqDiff, reduceIte, OutB, Then]))
                  with_reducible refine ⟨?_, HO.out HE.out, ?_⟩
                  rotate_left
                  (refine st_is ?_ ?_ ?_ ?_; (focus (simp [zan, zap])); (focus rfl); (focus (first | rfl | (simp; done) | (simp; rfl))); (focus rfl))
            · have hs := fun H => hS2 H v.sods 5000
              clear hS2
              cases hb1 : decide (0 ≤ v.clamp ∧ v.clamp < c.piles.length) with
              | false =>
                rw [hb1] at hpi
                have hev : evtOk c v = false := by unfold evtOk; rw [hb1]; rfl
                have HE := hideP hev
                clear hev hb1 hkk
                (repeat (first | (with_reducible apply zah; (focus ((conv => lhs; simp [evtE, Nat.testBit_eq_decide_div_mod_eq, *]) <;> exact rfl)); simp only [addFl]) | (with_reducible apply zau; (focus ((conv => lhs; simp [evtE, Nat.testBit_eq_decide_div_mod_eq, *]) <;> exact rfl)); (try simp only [Ops, Then, OutB]); (try dsimp only)) | ((with_reducible first | apply zai | apply zak | apply zag | apply zae | apply zac | apply zaj | apply zaf | apply zam | (apply zad; · simp [zaa, *]) | (apply zab; · simp [zaa, *])); try simp only [Then, Ops, OutB]) | simp only [Nat.reduceEqDiff, reduceIte, OutB, Then]))
                exact zbp rfl (by simp; omega) ⟨rfl, .inl ⟨HB.out HE.out, rfl⟩⟩
              | true =>
                rw [hb1] at hpi
                cases hb2 : decide (0 ≤ v.kind ∧ v.kind ≤ 1) with
                | false =>
                  rw [hb2] at hwk
                  have hev : evtOk c v = false := by unfold evtOk; rw [hkk, hb2]; simp
                  have HE := hideP hev
                  clear hev hb1 hb2 hkk
                  (repeat (first | (with_reducible apply zah; (focus ((conv => lhs; simp [evtE, Nat.testBit_eq_decide_div_mod_eq, *]) <;> exact rfl)); simp only [addFl]) | (with_reducible apply zau; (focus ((conv => lhs; simp [evtE, Nat.testBit_eq_decide_div_mod_eq, *]) <;> exact rfl)); (try simp only [Ops, Then, OutB]); (try dsimp only)) | ((with_reducible first | apply zai | apply zak | apply zag | apply zae | apply zac | apply zaj | apply zaf | apply zam | (apply zad; · simp [zaa, *]) | (apply zab; · simp [zaa, *])); try simp only [Then, Ops, OutB]) | simp only [Nat.reduceEqDiff, reduceIte, OutB, Then]))
                  exact zbp rfl (by simp; omega) ⟨rfl, .inl ⟨HB.out HE.out, rfl⟩⟩
                | true =>
                  rw [hb2] at hwk
                  cases hb3 : Clm.isSpan v.sods 0 5000 5000 with
                  | false =>
                    rw [hb3] at hs
                    have hev : evtOk c v = false := by unfold evtOk; rw [if_neg hk0, hb3]; simp
                    have HE := hideP hev
                    clear hev hb1 hb2 hb3 hkk
                    (repeat (first | (with_reducible apply zah; (focus ((conv => lhs; simp [evtE, Nat.testBit_eq_decide_div_mod_eq, *]) <;> exact rfl)); simp only [addFl]) | (with_reducible apply zau; (focus ((conv => lhs; simp [evtE, Nat.testBit_eq_decide_div_mod_eq, *]) <;> exact rfl)); (try simp only [Ops, Then, OutB]); (try dsimp only)) | ((with_reducible first | apply zai | apply zak | apply zag | apply zae | apply zac | apply zaj | apply zaf | apply zam | (apply zad; · simp [zaa, *]) | (apply zab; · simp [zaa, *])); try simp only [Then, Ops, OutB]) | simp only [Nat.reduceEqDiff, reduceIte, OutB, Then]))
                    exact zbp rfl (by simp; omega) ⟨rfl, .inl ⟨HB.out HE.out, rfl⟩⟩
                  | true =>
                    rw [hb3] at hs
                    have hev : evtOk c v = true := by unfold evtOk; rw [if_neg hk0, hb1, hkk, hb2, hb3]; rfl
                    have HE := hideP hev
                    clear hev hb1 hb2 hb3 hkk
                    (repeat (first | (with_reducible apply zah; (focus ((conv => lhs; simp [evtE, Nat.testBit_eq_decide_div_mod_eq, *]) <;> exact rfl)); simp only [addFl]) | (with_reducible apply zau; (focus ((conv => lhs; simp [evtE, Nat.testBit_eq_decide_div_mod_eq, *]) <;> exact rfl)); (try simp only [Ops, Then, OutB]); (try dsimp only)) | ((with_reducible first | apply zai | apply zak | apply zag | apply zae | apply zac | apply zaj | apply zaf | apply zam | (apply zad; · simp [zaa, *]) | (apply zab; · simp [zaa, *])); try simp only [Then, Ops, OutB]) | simp only [Nat.reduceEqDiff, reduceIte, OutB, Then]))
                    with_reducible refine ⟨?_, HO.out HE.out, ?_⟩
                    rotate_left
                    (refine st_is ?_ ?_ ?_ ?_; (focus (simp [zan, zap])); (focus rfl); (focus (first | rfl | (simp; done) | (simp; rfl))); (focus rfl))
          · rintro st ⟨J, hok, rfl⟩
            obtain ⟨hF, hWk, hS2, hPi, hv, hKG⟩ := HX.out
            have hval : Clm.valid c = true := by
              rw [hv, List.all_eq_true]
              intro v hv'
              obtain ⟨j, hj⟩ := List.mem_iff_getElem?.1 hv'
              exact hok j v (List.getElem?_eq_some_iff.1 hj).1 hj
            have hKG3 : Kp [] H G3 := by rw [hG3]; exact hKG.trans (Kp.app _ _)
            have hF2 := hF hval (G3 ++ J) (G.length + 1) G.length (hKG3.trans (Kp.app _ _)) (hYd3.app J)
            have HQ := hideP (And.intro hval (And.intro hKG3 hYd3))
            clear hF hWk hS2 hPi hv hKG hok hG3 hval hKG3 hYd3 HX hlen3 f0 f1 f2 f3 f4 f5
            cases is with
            | false =>
              (repeat (first | (with_reducible apply zah; (focus ((conv => lhs; simp [Nat.testBit_eq_decide_div_mod_eq, *]) <;> exact rfl)); simp only [addFl]) | (with_reducible apply zau; (focus ((conv => lhs; simp [Nat.testBit_eq_decide_div_mod_eq, *]) <;> exact rfl)); (try simp only [Ops, Then]); (try dsimp only)) | ((with_reducible first | apply zai | apply zak | apply zag | apply zae | apply zac | apply zaj | apply zaf | apply zam | (apply zad; · simp [zaa, *]) | (apply zab; · simp [zaa, *])); try simp only [Then, Ops, OutB, reduceIte]) | simp only [Nat.reduceEqDiff, reduceIte, OutB, Then]))
              exact zbp rfl (by simp; omega) ⟨rfl, .inr (.inl ⟨HQ.out.1, rfl, rfl⟩)⟩
            | true =>
              (repeat (first | (with_reducible apply zah; (focus ((conv => lhs; simp [Nat.testBit_eq_decide_div_mod_eq, *]) <;> exact rfl)); simp only [addFl]) | (with_reducible apply zau; (focus ((conv => lhs; simp [Nat.testBit_eq_decide_div_mod_eq, *]) <;> exact rfl)); (try simp only [Ops, Then, OutB]); (try dsimp only)) | ((with_reducible first | apply zai | apply zak | apply zag | apply zae | apply zac | apply zaj | apply zaf | apply zam | (apply zad; · simp [zaa, *]) | (apply zab; · simp [zaa, *])); try simp only [Then, Ops, OutB, reduceIte]) | simp only [Nat.reduceEqDiff, reduceIte, OutB, Then]))
              obtain ⟨k1, k2, k3⟩ := HQ.out
              exact zji (v := .ptr (G.length + 1) 0) (.inl rfl) rfl (by simp; omega) (by simp only [resL, resOf, zal]; simp [resV, *]) ⟨rfl, .inr (.inr ⟨k1, rfl, _, _, rfl, k2.trans (Kp.app _ _), k3.app _, by omega, by omega⟩)⟩
      · have h3' : ¬ (c.events.length : Int) ≤ 6 := by omega
        rw [decide_eq_false h3] at hv
        have HV := hideP hv
        clear hv
        (repeat (first | (with_reducible apply zah; (focus ((conv => lhs; simp [Nat.testBit_eq_decide_div_mod_eq, *]) <;> exact rfl)); simp only [addFl]) | (with_reducible apply zau; (focus ((conv => lhs; simp [Nat.testBit_eq_decide_div_mod_eq, *]) <;> exact rfl)); (try simp only [Ops, Then]); (try dsimp only)) | ((with_reducible first | apply zai | apply zak | apply zag | apply zae | apply zac | apply zaj | apply zaf | apply zam | (apply zad; · simp [zaa, *]) | (apply zab; · simp [zaa, *])); try simp only [Then, Ops]) | simp only [Nat.reduceEqDiff, reduceIte, OutB, Then]))
        exact zbp rfl (by simp) ⟨rfl, .inl ⟨by rw [HV.out]; rfl, rfl⟩⟩
end K
end Ev
end Go.Proofs.Ytimgnlellflciaa

/- Package clamp, gone through: clamps that have a truth. -/
namespace Go.Proofs.Ytimgnlellflciaa
open Go
namespace Ev
namespace K
attribute [local simp] ev1 wantG spineK spine float xnew xval xeff zaa zaq zbc zav zaw addFl cellsOf pickC alive slLen slFt binI maxA maxK minA minK aeqK aeqS AV.cells spA zar fillA setAt bitsI nat_nn zbg AV.plain apart
set_option maxRecDepth 100000
set_option maxHeartbeats 4000000
def errOf (c : Clm.Cl) (is : Bool) : Int := if Clm.valid c = false then 1 else if is = false then 2 else if Clm.can c (Clm.every c) = false then 10 else 0
def CanC (call : CallF) (c : Clm.Cl) : Prop := ∀ (H : List AB) (yb mb : Nat), Yd c yb mb H → ∀ counts : Nat, ∃ H' tc, call (.fn (.func 62) [] []) [.ptr yb 0, .int .u64 counts] H = some (.ret (.bool (Clm.can c counts)), H', tc) ∧ (∀ j ∈ tc, j = mb) ∧ Kp tc H H' ∧ Yd c yb mb H'
theorem ztm (C : Cfg) (call : CallF) (hM : MustC call) (c : Clm.Cl) (hE : EveryC call c) (hCn : CanC call c) (H : List AB) (yb mb : Nat) (hY : Yd c yb mb H) :
    Does (ev C call H.length none af52.body { tm := tmA af52.ntmps (zipI 0 [.ptr yb 0] []), df := [], hp := H, tc := [] })
      (Fin C H.length af52 fun x hp tc => (∀ j ∈ tc, j = mb) ∧ Kp tc H hp ∧ Yd c yb mb hp ∧ x = if Clm.can c (Clm.every c) then .ret (.ptr yb 0) else .pan (stopV 10)) := by
  have hml : mb < H.length := by obtain ⟨es, hm, _⟩ := hY.m; exact get_lt hm
  have hev := hE H yb _ hY.y
  obtain ⟨H1, tc1, c1, c2, c3, c4⟩ := hCn H yb mb hY (Clm.every c)
  have hmt := hM.t
  have hmf := hM.f
  have hf : tc1.filter (· < H.length) = tc1 := List.filter_eq_self.2 fun j hj => by have := c2 j hj; simp; omega
  have HA := hideP (And.intro c2 (And.intro c3 c4))
  clear hE hCn hM c2 c3 c4 hY
  unfold af52
  simp only [zipI]
  cases hcan : Clm.can c (Clm.every c) with
  | true =>
    rw [hcan] at c1
    (repeat (first | (with_reducible apply zah; (focus ((conv => lhs; simp [Nat.testBit_eq_decide_div_mod_eq, *]) <;> exact rfl)); simp only [addFl]) | (with_reducible apply zau; (focus ((conv => lhs; simp [Nat.testBit_eq_decide_div_mod_eq, *]) <;> exact rfl)); (try simp only [Ops, Then, OutB]); (try dsimp only)) | ((with_reducible first | apply zai | apply zak | apply zag | apply zae | apply zac | apply zaj | apply zaf | apply zam | (apply zad; · simp [zaa, *]) | (apply zab; · simp [zaa, *])); try simp only [Then, Ops, reduceIte]) | simp only [Nat.reduceEqDiff, reduceIte, OutB, Then]))
    obtain ⟨c2, c3, c4⟩ := HA.out
    exact zji (v := .ptr yb 0) (.inl rfl) rfl c3.len (by simp only [resL, resOf, zal]; simp [resV, *]) ⟨c2, c3, c4, rfl⟩
  | false =>
    rw [hcan] at c1
    (repeat (first | (with_reducible apply zah; (focus ((conv => lhs; simp [Nat.testBit_eq_decide_div_mod_eq, *]) <;> exact rfl)); simp only [addFl]) | (with_reducible apply zau; (focus ((conv => lhs; simp [Nat.testBit_eq_decide_div_mod_eq, *]) <;> exact rfl)); (try simp only [Ops, Then]); (try dsimp only)) | ((with_reducible first | apply zai | apply zak | apply zag | apply zae | apply zac | apply zaj | apply zaf | apply zam | (apply zad; · simp [zaa, *]) | (apply zab; · simp [zaa, *])); try simp only [Then, Ops]) | simp only [Nat.reduceEqDiff, reduceIte, OutB, Then]))
    obtain ⟨c2, c3, c4⟩ := HA.out
    exact zbp rfl c3.len ⟨c2, c3, c4, rfl⟩
def OpenCall (call call1 : CallF) (c : Clm.Cl) : Prop := ∀ (H : List AB) (F : AV) (is : Bool), (Clm.valid c = true → ∀ G yb mb, Kp [] H G → Yd c yb mb G → call1 F [.ptr yb 0] G = some (.ret (.bool is), G, [])) →
  (Clm.valid c = false ∧ call (.fn (.func 48) [] []) [.agg (clampCs c), F] H = some (.pan (stopV 1), H, [])) ∨ (Clm.valid c = true ∧ is = false ∧ call (.fn (.func 48) [] []) [.agg (clampCs c), F] H = some (.pan (stopV 2), H, [])) ∨
  (Clm.valid c = true ∧ is = true ∧ ∃ H' yb mb, call (.fn (.func 48) [] []) [.agg (clampCs c), F] H = some (.ret (.ptr yb 0), H', []) ∧ Kp [] H H' ∧ Yd c yb mb H' ∧ H.length ≤ yb ∧ H.length ≤ mb)
def ToldCall (call : CallF) (c : Clm.Cl) : Prop := ∀ (H : List AB) (yb mb : Nat), Yd c yb mb H → ∃ H' tc, (∀ j ∈ tc, j = mb) ∧ Kp tc H H' ∧ Yd c yb mb H' ∧ call (.fn (.func 52) [] []) [.ptr yb 0] H = some (if Clm.can c (Clm.every c) then .ret (.ptr yb 0) else .pan (stopV 10), H', tc)
def OneCall (call : CallF) (c : Clm.Cl) : Prop := ∀ (H : List AB) (n : Int), (errOf c (decide (0 ≤ n ∧ n < c.piles.length)) ≠ 0 ∧ ∃ H', call (.fn (.func 37) [] []) [.agg (clampCs c), .int .i64 n] H = some (.pan (stopV (errOf c (decide (0 ≤ n ∧ n < c.piles.length)))), H', []) ∧ Kp [] H H') ∨
  (errOf c (decide (0 ≤ n ∧ n < c.piles.length)) = 0 ∧ ∃ H' yb mb, call (.fn (.func 37) [] []) [.agg (clampCs c), .int .i64 n] H = some (.ret (.ptr yb 0), H', []) ∧ Kp [] H H' ∧ Yd c yb mb H' ∧ H.length ≤ yb ∧ H.length ≤ mb)
theorem zxz (C : Cfg) (call : CallF) (c : Clm.Cl) (hP : IsPileC call c) (H : List AB) (yb : Nat) (w : AV) (hy : H[yb]? = some (.cells (clampCs c ++ [w]))) (n : Int) (b : Nat) (hb : H[b]? = some (.cells [.int .i64 n])) : Does (ev C call H.length none af71.body { tm := tmA af71.ntmps (zipI 0 [.ptr yb 0, .ptr b 0] []), df := [], hp := H, tc := [] })
    (Ends C H.length af71.res fun v _hp tc => v = .bool (decide (0 ≤ n ∧ n < c.piles.length)) ∧ tc = []) := by
  have hp := hP H yb w hy n
  obtain ⟨f0, f1, f2, f3, f4, f5⟩ := bk' hb
  generalize decide (0 ≤ n ∧ n < (c.piles.length : Int)) = bb at *
  clear hP hy
  unfold af71
  simp only [zipI]
  (repeat (first | (with_reducible apply zah; (focus ((conv => lhs; simp [Nat.testBit_eq_decide_div_mod_eq, *]) <;> exact rfl)); simp only [addFl]) | ((with_reducible first | apply zai | apply zak | apply zag | apply zae | apply zac | apply zaj | apply zaf | apply zam | (apply zad; · simp [zaa, *]) | (apply zab; · simp [zaa, *])); try simp only [Then, Ops]) | simp only [Nat.reduceEqDiff, reduceIte, OutB, Then]))
  exact zao (.inl rfl) rfl (by simp) (by simp only [resL, resOf, zal]; simp [resV, *]) ⟨rfl, rfl⟩
theorem zxy (C : Cfg) (call call1 : CallF) (c : Clm.Cl) (hO : OpenCall call call1 c) (hT : Clm.valid c = true → ToldCall call c) (H : List AB) (n : Int) (hF : Clm.valid c = true → ∀ G yb mb, Kp [] (H ++ [.cells (clampCs c), .cells [.int .i64 n]]) G → Yd c yb mb G → call1 (.fn (.func 71) [] [.ptr (H.length + 1) 0]) [.ptr yb 0] G = some (.ret (.bool (decide (0 ≤ n ∧ n < c.piles.length))), G, [])) :
    Does (ev C call H.length none af37.body { tm := tmA af37.ntmps (zipI 0 [.agg (clampCs c), .int .i64 n] []), df := [], hp := H, tc := [] })
      (Fin C H.length af37 fun x hp tc => tc = [] ∧ Kp [] H hp ∧ ((errOf c (decide (0 ≤ n ∧ n < c.piles.length)) ≠ 0 ∧ x = .pan (stopV (errOf c (decide (0 ≤ n ∧ n < c.piles.length))))) ∨ (errOf c (decide (0 ≤ n ∧ n < c.piles.length)) = 0 ∧ ∃ yb mb, x = .ret (.ptr yb 0) ∧ Yd c yb mb hp ∧ H.length ≤ yb ∧ H.length ≤ mb))) := by
  have ho := hO (H ++ [.cells (clampCs c), .cells [.int .i64 n]]) (.fn (.func 71) [] [.ptr (H.length + 1) 0]) _ hF
  generalize decide (0 ≤ n ∧ n < (c.piles.length : Int)) = is at *
  clear hF hO
  unfold errOf
  unfold af37
  rcases ho with ⟨h1, h2⟩ | ⟨h1, h2, h3⟩ | ⟨h1, h2, H1, yb, mb, h3, h4, h5, h6, h7⟩
  · rw [h1]
    clear hT h1
    simp only [zipI, clampCs, stopV] at *
    (repeat (first | (with_reducible apply zah; (focus ((conv => lhs; simp [Nat.testBit_eq_decide_div_mod_eq, *]) <;> exact rfl)); simp only [addFl]) | (with_reducible apply zau; (focus ((conv => lhs; simp [Nat.testBit_eq_decide_div_mod_eq, *]) <;> exact rfl)); (try simp only [Ops, Then]); (try dsimp only)) | ((with_reducible first | apply zai | apply zak | apply zag | apply zae | apply zac | apply zaj | apply zaf | apply zam | (apply zad; · simp [zaa, *]) | (apply zab; · simp [zaa, *])); try simp only [Then, Ops, reduceIte]) | simp only [Nat.reduceEqDiff, reduceIte, OutB, Then]))
    exact zbp rfl (by simp) ⟨rfl, Kp.app _ _, .inl ⟨by simp, rfl⟩⟩
  · rw [h1, h2]
    clear hT h1 h2
    simp only [zipI, clampCs, stopV] at *
    (repeat (first | (with_reducible apply zah; (focus ((conv => lhs; simp [Nat.testBit_eq_decide_div_mod_eq, *]) <;> exact rfl)); simp only [addFl]) | (with_reducible apply zau; (focus ((conv => lhs; simp [Nat.testBit_eq_decide_div_mod_eq, *]) <;> exact rfl)); (try simp only [Ops, Then]); (try dsimp only)) | ((with_reducible first | apply zai | apply zak | apply zag | apply zae | apply zac | apply zaj | apply zaf | apply zam | (apply zad; · simp [zaa, *]) | (apply zab; · simp [zaa, *])); try simp only [Then, Ops, reduceIte]) | simp only [Nat.reduceEqDiff, reduceIte, OutB, Then]))
    exact zbp rfl (by simp) ⟨rfl, Kp.app _ _, .inl ⟨by simp, rfl⟩⟩
  · obtain ⟨H2, tc, k1, k2, k3, k4⟩ := hT h1 H1 yb mb h5
    rw [h1, h2]
    have hl := h4.len
    have hk4 : Kp [] H H1 := h4.pre
    have hf : tc.filter (· < H.length) = [] := List.filter_eq_nil_iff.2 fun j hj => by have := k1 j hj; simp at h7 ⊢; omega
    have hkp : Kp [] H H2 := ⟨by have := hk4.len; have := k2.len; omega, fun b hb hs => by
      rw [k2.get b (by have := hk4.len; omega) (fun h => by have := k1 b h; simp at h7; omega)]; exact hk4.get b hb hs⟩
    have HA := hideP (And.intro hkp (And.intro k3 (And.intro h6 h7)))
    clear hT h1 h2 h4 h5 h6 h7 k1 k2 k3 hl hk4 hkp
    cases hcan : Clm.can c (Clm.every c) with
    | false =>
      rw [hcan] at k4
      simp only [zipI, clampCs, stopV, Bool.false_eq_true, if_false] at *
      (repeat (first | (with_reducible apply zah; (focus ((conv => lhs; simp [Nat.testBit_eq_decide_div_mod_eq, *]) <;> exact rfl)); simp only [addFl]) | (with_reducible apply zau; (focus ((conv => lhs; simp [Nat.testBit_eq_decide_div_mod_eq, *]) <;> exact rfl)); (try simp only [Ops, Then]); (try dsimp only)) | ((with_reducible first | apply zai | apply zak | apply zag | apply zae | apply zac | apply zaj | apply zaf | apply zam | (apply zad; · simp [zaa, *]) | (apply zab; · simp [zaa, *])); try simp only [Then, Ops, reduceIte]) | simp only [Nat.reduceEqDiff, reduceIte, OutB, Then]))
      obtain ⟨hkp, k3, h6, h7⟩ := HA.out
      exact zbp rfl hkp.len ⟨rfl, hkp, .inl ⟨by simp, by simp⟩⟩
    | true =>
      rw [hcan] at k4
      simp only [zipI, clampCs, stopV, if_true] at *
      (repeat (first | (with_reducible apply zah; (focus ((conv => lhs; simp [Nat.testBit_eq_decide_div_mod_eq, *]) <;> exact rfl)); simp only [addFl]) | (with_reducible apply zau; (focus ((conv => lhs; simp [Nat.testBit_eq_decide_div_mod_eq, *]) <;> exact rfl)); (try simp only [Ops, Then, OutB]); (try dsimp only)) | ((with_reducible first | apply zai | apply zak | apply zag | apply zae | apply zac | apply zaj | apply zaf | apply zam | (apply zad; · simp [zaa, *]) | (apply zab; · simp [zaa, *])); try simp only [Then, Ops]) | simp only [Nat.reduceEqDiff, reduceIte, OutB, Then]))
      obtain ⟨hkp, k3, h6, h7⟩ := HA.out
      simp at h6 h7
      exact zji (v := .ptr yb 0) (.inl rfl) rfl hkp.len (by simp only [resL, resOf, zal]; simp [resV, *]) ⟨rfl, hkp, .inr ⟨by simp, yb, mb, rfl, k3, by omega, by omega⟩⟩
end K
end Ev
end Go.Proofs.Ytimgnlellflciaa

/- Package clamp, gone through: exported functions. -/
namespace Go.Proofs.Ytimgnlellflciaa
open Go
namespace Ev
namespace K
attribute [local simp] ev1 wantG spineK spine float xnew xval xeff zaa zaq zbc zav zaw addFl cellsOf pickC alive slLen slFt binI maxA maxK minA minK aeqK aeqS AV.cells spA zar fillA setAt bitsI nat_nn zbg AV.plain apart
set_option maxRecDepth 100000
set_option maxHeartbeats 4000000
theorem zcg {C : Cfg} {fn : AFunc} {Q : CRes → List AB → List Nat → Prop} {f t b : Nat} {e : Int} {x : AV} {st : St} {v : AV} (hk : C.dfk f = some (t, true)) (hd : st.df = [.call f [.ptr b 0]]) (hb : st.hp[b]? = some (.cells [x]))
    (hr : (resL { st with hp := st.hp.set b (.cells [.int .i64 e]) } fn.res).map resV = some v) (hq : Q (.ret v) (st.hp.set b (.cells [.int .i64 e])) st.tc) : Fin C 0 fn Q (.panic (.iface t (.agg [.int .i64 e]))) st := by
  refine ⟨.ret v, { st with hp := st.hp.set b (.cells [.int .i64 e]) }, ?_, Nat.zero_le _, hq⟩
  show (match runDefs C 0 st.df (some (.iface t (.agg [.int .i64 e]))) st with
    | some (none, st) => (resL st fn.res).map fun vs => (CRes.ret (resV vs), st)
    | some (some v, st) => some (.pan v, st)
    | none => none) = _
  have : runDefs C 0 st.df (some (.iface t (.agg [.int .i64 e]))) st = some (none, { st with hp := st.hp.set b (.cells [.int .i64 e]) }) := by
    conv => lhs; rw [hd]
    simp only [runDefs, hk, codeOf, hb]
    simp [setAt]
  rw [this]
  simp only
  cases h : resL { st with hp := st.hp.set b (.cells [.int .i64 e]) } fn.res with
  | none => rw [h] at hr; cases hr
  | some vs => rw [h] at hr; cases hr; rfl
theorem zdp {C : Cfg} {pin : Nat} {fn : AFunc} {Q : CRes → List AB → List Nat → Prop} {f b : Nat} {k : Nat × Bool} {e : AExit} {st : St} {v : AV} (he : e = .ret ∨ e = .normal) (hk : C.dfk f = some k) (hd : st.df = [.call f [.ptr b 0]]) (hl : pin ≤ st.hp.length)
    (hr : (resL st fn.res).map resV = some v) (hq : Q (.ret v) st.hp st.tc) : Fin C pin fn Q e st := by
  refine ⟨.ret v, st, ?_, hl, hq⟩
  have h1 : runDefs C pin st.df none st = some (none, st) := by
    conv => lhs; rw [hd]
    simp only [runDefs, hk]
  have : (match runDefs C pin st.df none st with
    | some (none, st) => (resL st fn.res).map fun vs => (CRes.ret (resV vs), st)
    | _ => none) = some (.ret v, st) := by
    rw [h1]
    simp only
    cases hr' : resL st fn.res with
    | none => rw [hr'] at hr; cases hr
    | some vs => rw [hr'] at hr; cases hr; rfl
  rcases he with rfl | rfl <;> exact this
def Ans (v : AV) (x : CRes) (_ : List AB) (tc : List Nat) : Prop := x = .ret v ∧ tc = []
def isP (c : Clm.Cl) (n : Int) : Bool := decide (0 ≤ n ∧ n < c.piles.length)
def spanR (c : Clm.Cl) (is : Bool) (s : Clm.Sp) : AV := .tup [spA (if errOf c is = 0 then s else ⟨0, 0⟩), .int .i64 (errOf c is)]
def OfCall (C : Cfg) (n : Nat) (c : Clm.Cl) : Prop := ∀ (H : List AB) (yb mb : Nat), Yd c yb mb H → ∀ i, i < c.piles.length → ∀ (fl : Fn) (fa fb : List AV) (g : Int → Clm.Way → Clm.Sp), (∀ k ∈ Clm.packs c (Clm.every c), WayF (Ev.call C n) (.fn fl fa fb) c yb mb i k H (g k)) →
  ∃ H' tc, Ev.call C (n + 6) (.fn (.func 38) [] []) [.ptr yb 0, .int .i64 i, .fn fl fa fb] H = some (.ret (.agg [.int .i64 (Clm.ofAll c i g).lo, .int .i64 (Clm.ofAll c i g).hi]), H', tc) ∧ (∀ j ∈ tc, j = mb) ∧ Kp tc H H' ∧ Yd c yb mb H'
theorem zll {c : Clm.Cl} {n : Int} (h : isP c n = true) : ∃ i : Nat, n = i ∧ i < c.piles.length := by
  have := of_decide_eq_true h
  exact ⟨n.toNat, by omega, by omega⟩
def builtG (k : Int) (w : Clm.Way) : Clm.Sp := ⟨w.size.sods k, w.size.sods k⟩
def soldG (c : Clm.Cl) (k : Int) (w : Clm.Way) : Clm.Sp := ⟨w.size.sods k - (Clm.leftW c w).hi, w.size.sods k - (Clm.leftW c w).lo⟩
theorem err_ok {c : Clm.Cl} {is : Bool} (h : errOf c is = 0) : Clm.valid c = true ∧ is = true ∧ Clm.can c (Clm.every c) = true := by
  unfold errOf at h
  split at h
  · cases h
  · rename_i h1
    split at h
    · cases h
    · rename_i h2
      split at h
      · cases h
      · rename_i h3
        exact ⟨by simpa using h1, by simpa using h2, by simpa using h3⟩
theorem zsy (C : Cfg) (n : Nat) (c : Clm.Cl) (hdf : C.dfk 35 = some (102, true)) (hO : OneCall (Ev.call C (n + 6)) c) (hOf : Clm.valid c = true → OfCall C n c) (num : Int)
    (hG : ∀ H yb mb i, i < c.piles.length → Clm.valid c = true → ∀ k ∈ Clm.packs c (Clm.every c), WayF (Ev.call C n) (.fn (.func 39) [] []) c yb mb i k H (builtG k)) :
    Does (ev C (Ev.call C (n + 6)) ([] : List AB).length none af10.body { tm := tmA af10.ntmps (zipI 0 [.agg (clampCs c), .int .i64 num] []), df := [], hp := [], tc := [] })
      (Fin C ([] : List AB).length af10 (Ans (spanR c (isP c num) (Clm.ofAll c num.toNat builtG)))) := by
  have ho := hO [.cells (clampCs c), .cells [.int .i64 0, .int .i64 0], .cells [.int .i64 0]] num
  unfold spanR isP
  unfold af10
  rcases ho with ⟨h1, H1, h2, h3⟩ | ⟨h1, H1, yb, mb, h2, h3, h4, h5, h6⟩
  · generalize errOf c (decide (0 ≤ num ∧ num < (c.piles.length : Int))) = e at *
    have e0 : H1[0]? = some (.cells (clampCs c)) := h3.at rfl (by simp)
    have e1 : H1[1]? = some (.cells [.int .i64 0, .int .i64 0]) := h3.at rfl (by simp)
    have e2 : H1[2]? = some (.cells [.int .i64 0]) := h3.at rfl (by simp)
    rw [if_neg h1]
    clear hO hOf hG h3 h1
    simp only [zipI, clampCs, stopV] at *
    (repeat (first | (with_reducible apply zah; (focus ((conv => lhs; simp [Nat.testBit_eq_decide_div_mod_eq, *]) <;> exact rfl)); simp only [addFl]) | (with_reducible apply zau; (focus ((conv => lhs; simp [Nat.testBit_eq_decide_div_mod_eq, *]) <;> exact rfl)); (try simp only [Ops, Then]); (try dsimp only)) | ((with_reducible first | apply zai | apply zak | apply zag | apply zae | apply zac | apply zaj | apply zaf | apply zam | (apply zad; · simp [zaa, *]) | (apply zab; · simp [zaa, *])); try simp only [Then, Ops]) | simp only [Nat.reduceEqDiff, reduceIte, OutB, Then]))
    refine zcg hdf rfl e2 (by simp only [resL, resOf, zal]; simp [resV, pickC, List.getElem?_set_ne, e1, List.getElem?_set_self (get_lt e2)]; rfl) ⟨by simp [spA], by simp⟩
  · obtain ⟨hv, hi, hcan⟩ := err_ok h1
    rw [h1, if_pos rfl]
    obtain ⟨i, rfl, hil⟩ := zll hi
    obtain ⟨H2, tc2, k1, k2, k3, k4⟩ := hOf hv H1 yb mb h4 i hil (.func 39) [] [] builtG (fun k hk => hG H1 yb mb i hil hv k hk)
    have e1 : H2[1]? = some (.cells [.int .i64 0, .int .i64 0]) := k3.at (h3.at rfl (by simp)) (fun h => by have := k2 _ h; simp at h6; omega)
    have e2 : H2[2]? = some (.cells [.int .i64 0]) := k3.at (h3.at rfl (by simp)) (fun h => by have := k2 _ h; simp at h6; omega)
    obtain ⟨f0, f1, f2, f3, f4, f5⟩ := bk' e1
    obtain ⟨g0, g1, g2, g3, g4, g5⟩ := bk' e2
    rw [Int.toNat_natCast]
    generalize Clm.ofAll c i builtG = sp at *
    clear hO hOf hG h3 h1 h4 h5 h6 hi hcan hv k2 k3 k4
    simp only [zipI, clampCs] at *
    (repeat (first | (with_reducible apply zah; (focus ((conv => lhs; simp [Nat.testBit_eq_decide_div_mod_eq, *]) <;> exact rfl)); simp only [addFl]) | (with_reducible apply zau; (focus ((conv => lhs; simp [Nat.testBit_eq_decide_div_mod_eq, *]) <;> exact rfl)); (try simp only [Ops, Then, OutB]); (try dsimp only)) | ((with_reducible first | apply zai | apply zak | apply zag | apply zae | apply zac | apply zaj | apply zaf | apply zam | (apply zad; · simp [zaa, *]) | (apply zab; · simp [zaa, *])); try simp only [Then, Ops]) | simp only [Nat.reduceEqDiff, reduceIte, OutB, Then]))
    refine zdp (v := .tup [spA sp, .int .i64 0]) (.inl rfl) hdf rfl (by simp) (by simp only [resL, resOf, zal]; simp [resV, pickC, spA, f0, g0]) ⟨rfl, by simp⟩
end K
end Ev
end Go.Proofs.Ytimgnlellflciaa

/- Package clamp, gone through: exported functions, on. -/
namespace Go.Proofs.Ytimgnlellflciaa
open Go
namespace Ev
namespace K
attribute [local simp] ev1 wantG spineK spine float xnew xval xeff zaa zaq zbc zav zaw addFl cellsOf pickC alive slLen slFt binI maxA maxK minA minK aeqK aeqS AV.cells spA zar fillA setAt bitsI nat_nn zbg AV.plain apart
set_option maxRecDepth 100000
set_option maxHeartbeats 4000000
theorem zys (C : Cfg) (n : Nat) (c : Clm.Cl) (hdf : C.dfk 43 = some (102, true)) (hO : OneCall (Ev.call C (n + 6)) c) (hOf : Clm.valid c = true → OfCall C n c) (num : Int) (hL : Clm.valid c = true → LeftC (Ev.call C n) c) :
    Does (ev C (Ev.call C (n + 6)) ([] : List AB).length none af12.body { tm := tmA af12.ntmps (zipI 0 [.agg (clampCs c), .int .i64 num] []), df := [], hp := [], tc := [] })
      (Fin C ([] : List AB).length af12 (Ans (spanR c (isP c num) (Clm.ofAll c num.toNat fun _ => Clm.leftW c)))) := by
  have ho := hO [.cells (clampCs c), .cells [.int .i64 0, .int .i64 0], .cells [.int .i64 0]] num
  unfold spanR isP
  unfold af12
  rcases ho with ⟨h1, H1, h2, h3⟩ | ⟨h1, H1, yb, mb, h2, h3, h4, h5, h6⟩
  · generalize errOf c (decide (0 ≤ num ∧ num < (c.piles.length : Int))) = e at *
    have e0 : H1[0]? = some (.cells (clampCs c)) := h3.at rfl (by simp)
    have e1 : H1[1]? = some (.cells [.int .i64 0, .int .i64 0]) := h3.at rfl (by simp)
    have e2 : H1[2]? = some (.cells [.int .i64 0]) := h3.at rfl (by simp)
    rw [if_neg h1]
    clear hO hOf hL h3 h1
    simp only [zipI, clampCs, stopV] at *
    (repeat (first | (with_reducible apply zah; (focus ((conv => lhs; simp [Nat.testBit_eq_decide_div_mod_eq, *]) <;> exact rfl)); simp only [addFl]) | (with_reducible apply zau; (focus ((conv => lhs; simp [Nat.testBit_eq_decide_div_mod_eq, *]) <;> exact rfl)); (try simp only [Ops, Then]); (try dsimp only)) | ((with_reducible first | apply zai | apply zak | apply zag | apply zae | apply zac | apply zaj | apply zaf | apply zam | (apply zad; · simp [zaa, *]) | (apply zab; · simp [zaa, *])); try simp only [Then, Ops]) | simp only [Nat.reduceEqDiff, reduceIte, OutB, Then]))
    refine zcg hdf rfl e2 (by simp only [resL, resOf, zal]; simp [resV, pickC, List.getElem?_set_ne, e1, List.getElem?_set_self (get_lt e2)]; rfl) ⟨by simp [spA], by simp⟩
  · obtain ⟨hv, hi, hcan⟩ := err_ok h1
    rw [h1, if_pos rfl]
    obtain ⟨i, rfl, hil⟩ := zll hi
    obtain ⟨H2, tc2, k1, k2, k3, k4⟩ := hOf hv H1 yb mb h4 i hil (.func 44) [.ptr yb 0] [] (fun _ => Clm.leftW c) (fun k _ => left_way (hL hv) yb mb i k H1)
    have e1 : H2[1]? = some (.cells [.int .i64 0, .int .i64 0]) := k3.at (h3.at rfl (by simp)) (fun h => by have := k2 _ h; simp at h6; omega)
    have e2 : H2[2]? = some (.cells [.int .i64 0]) := k3.at (h3.at rfl (by simp)) (fun h => by have := k2 _ h; simp at h6; omega)
    obtain ⟨f0, f1, f2, f3, f4, f5⟩ := bk' e1
    obtain ⟨g0, g1, g2, g3, g4, g5⟩ := bk' e2
    rw [Int.toNat_natCast]
    generalize Clm.ofAll c i (fun _ => Clm.leftW c) = sp at *
    clear hO hOf hL h3 h1 h4 h5 h6 hi hcan hv k2 k3 k4
    simp only [zipI, clampCs] at *
    (repeat (first | (with_reducible apply zah; (focus ((conv => lhs; simp [Nat.testBit_eq_decide_div_mod_eq, *]) <;> exact rfl)); simp only [addFl]) | (with_reducible apply zau; (focus ((conv => lhs; simp [Nat.testBit_eq_decide_div_mod_eq, *]) <;> exact rfl)); (try simp only [Ops, Then, OutB]); (try dsimp only)) | ((with_reducible first | apply zai | apply zak | apply zag | apply zae | apply zac | apply zaj | apply zaf | apply zam | (apply zad; · simp [zaa, *]) | (apply zab; · simp [zaa, *])); try simp only [Then, Ops]) | simp only [Nat.reduceEqDiff, reduceIte, OutB, Then]))
    refine zdp (v := .tup [spA sp, .int .i64 0]) (.inl rfl) hdf rfl (by simp) (by simp only [resL, resOf, zal]; simp [resV, pickC, spA, f0, g0]) ⟨rfl, by simp⟩
theorem zts (C : Cfg) (call : CallF) (c : Clm.Cl) (hSd : SodsC call) (H : List AB) (yb : Nat) (w0 : AV) (hy : H[yb]? = some (.cells (clampCs c ++ [w0]))) (b : Nat) (hb : H[b]? = some (.cells [.ptr yb 0])) (n : Nat) (pack : Int) (w : Clm.Way) (hq : QOk ⟨n, w.size, pack, 0⟩) (hlow : Clm.Low (Clm.leftW c w))
    (hL2 : ∀ H, H[yb]? = some (.cells (clampCs c ++ [w0])) → call (.fn (.func 44) [] []) [.ptr yb 0, .agg (wayCs n pack w)] H = some (.ret (.agg [.int .i64 (Clm.leftW c w).lo, .int .i64 (Clm.leftW c w).hi]), H, [])) :
    Does (ev C call H.length none af46.body { tm := tmA af46.ntmps (zipI 0 [.agg (wayCs n pack w), .ptr b 0] []), df := [], hp := H, tc := [] })
      (Ends C H.length af46.res fun v _hp tc => v = spA (soldG c pack w) ∧ tc = []) := by
  have hs := fun H => hSd H n w.size.l w.size.w w.size.h pack hq.l0 hq.l1 hq.w0 hq.w1 hq.h0 hq.h1 hq.p0 (by have := hq.p1; simp only at this; omega)
  have hle := fun K => hL2 (H ++ K) ((Kp.app (S := []) H K).at hy (by simp))
  obtain ⟨s0, s1⟩ := hq.sods
  have hse : w.size.l * w.size.w * w.size.h * pack = w.size.sods pack := rfl
  rw [hse] at hs
  obtain ⟨l0, l1, l2, l3⟩ := hlow
  have s0 : 0 ≤ w.size.sods pack := s0
  have s1 : w.size.sods pack ≤ 5000 := s1
  have w1 : IntKind.i64.wrap (w.size.sods pack - (Clm.leftW c w).hi) = w.size.sods pack - (Clm.leftW c w).hi := zas (by omega) (by omega)
  have w2 : IntKind.i64.wrap (w.size.sods pack - (Clm.leftW c w).lo) = w.size.sods pack - (Clm.leftW c w).lo := zas (by omega) (by omega)
  have hg : soldG c pack w = ⟨w.size.sods pack - (Clm.leftW c w).hi, w.size.sods pack - (Clm.leftW c w).lo⟩ := rfl
  rw [hg]
  obtain ⟨f0, f1, f2, f3, f4, f5⟩ := bk' hb
  have t0 := zdl (fun i => w.log.getD i ⟨0, 0⟩)
  have t1 := zil (fun i => w.log.getD i ⟨0, 0⟩)
  unfold af46
  simp only [zipI, wayCs, List.cons_append, List.nil_append] at *
  generalize arr7 (fun i => w.log.getD i ⟨0, 0⟩) = R at *
  generalize w.size.sods pack = sd at *
  generalize Clm.leftW c w = lw at *
  clear hSd hL2 hq s0 s1 l0 l1 l2 l3 hse hg hy
  (repeat (first | (with_reducible apply zah; (focus ((conv => lhs; simp [Nat.testBit_eq_decide_div_mod_eq, *]) <;> exact rfl)); simp only [addFl]) | ((with_reducible first | apply zai | apply zak | apply zag | apply zae | apply zac | apply zaj | apply zaf | apply zam | (apply zad; · simp [zaa, *]) | (apply zab; · simp [zaa, *])); try simp only [Then, Ops]) | simp only [Nat.reduceEqDiff, reduceIte, OutB, Then]))
  refine zao (v := spA ⟨sd - lw.hi, sd - lw.lo⟩) (.inl rfl) rfl (by simp) (by simp only [resL, resOf, zal]; simp [resV, pickC, spA]) ⟨rfl, by simp⟩
theorem ztr (C : Cfg) (n : Nat) (c : Clm.Cl) (hdf : C.dfk 45 = some (102, true)) (hO : OneCall (Ev.call C (n + 6)) c) (hOf : Clm.valid c = true → OfCall C n c) (num : Int)
    (hG : ∀ H yb mb i b, H[b]? = some (.cells [.ptr yb 0]) → b ≠ mb → i < c.piles.length → Clm.valid c = true → ∀ k ∈ Clm.packs c (Clm.every c), WayF (Ev.call C n) (.fn (.func 46) [] [.ptr b 0]) c yb mb i k H (soldG c k)) :
    Does (ev C (Ev.call C (n + 6)) ([] : List AB).length none af13.body { tm := tmA af13.ntmps (zipI 0 [.agg (clampCs c), .int .i64 num] []), df := [], hp := [], tc := [] })
      (Fin C ([] : List AB).length af13 (Ans (spanR c (isP c num) (Clm.ofAll c num.toNat (soldG c))))) := by
  have ho := hO [.cells (clampCs c), .cells [.int .i64 0, .int .i64 0], .cells [.int .i64 0]] num
  unfold spanR isP
  unfold af13
  rcases ho with ⟨h1, H1, h2, h3⟩ | ⟨h1, H1, yb, mb, h2, h3, h4, h5, h6⟩
  · generalize errOf c (decide (0 ≤ num ∧ num < (c.piles.length : Int))) = e at *
    have e0 : H1[0]? = some (.cells (clampCs c)) := h3.at rfl (by simp)
    have e1 : H1[1]? = some (.cells [.int .i64 0, .int .i64 0]) := h3.at rfl (by simp)
    have e2 : H1[2]? = some (.cells [.int .i64 0]) := h3.at rfl (by simp)
    rw [if_neg h1]
    clear hO hOf hG h3 h1
    simp only [zipI, clampCs, stopV] at *
    (repeat (first | (with_reducible apply zah; (focus ((conv => lhs; simp [Nat.testBit_eq_decide_div_mod_eq, *]) <;> exact rfl)); simp only [addFl]) | (with_reducible apply zau; (focus ((conv => lhs; simp [Nat.testBit_eq_decide_div_mod_eq, *]) <;> exact rfl)); (try simp only [Ops, Then]); (try dsimp only)) | ((with_reducible first | apply zai | apply zak | apply zag | apply zae | apply zac | apply zaj | apply zaf | apply zam | (apply zad; · simp [zaa, *]) | (apply zab; · simp [zaa, *])); try simp only [Then, Ops]) | simp only [Nat.reduceEqDiff, reduceIte, OutB, Then]))
    refine zcg hdf rfl e2 (by simp only [resL, resOf, zal]; simp [resV, pickC, List.getElem?_set_ne, e1, List.getElem?_set_self (get_lt e2)]; rfl) ⟨by simp [spA], by simp⟩
  · obtain ⟨hv, hi, hcan⟩ := err_ok h1
    rw [h1, if_pos rfl]
    obtain ⟨i, rfl, hil⟩ := zll hi
    obtain ⟨es, hm, _⟩ := h4.m
    obtain ⟨H2, tc2, k1, k2, k3, k4⟩ := hOf hv (H1 ++ [.cells [.ptr yb 0]]) yb mb (h4.app _) i hil (.func 46) [] [.ptr H1.length 0] (soldG c) (fun k hk => hG _ yb mb i H1.length (by simp) (by have := get_lt hm; omega) hil hv k hk)
    have e1 : H2[1]? = some (.cells [.int .i64 0, .int .i64 0]) := k3.at ((Kp.app (S := []) _ _).at (h3.at rfl (by simp)) (by simp)) (fun h => by have := k2 _ h; simp at h6; omega)
    have e2 : H2[2]? = some (.cells [.int .i64 0]) := k3.at ((Kp.app (S := []) _ _).at (h3.at rfl (by simp)) (by simp)) (fun h => by have := k2 _ h; simp at h6; omega)
    obtain ⟨f0, f1, f2, f3, f4, f5⟩ := bk' e1
    obtain ⟨g0, g1, g2, g3, g4, g5⟩ := bk' e2
    rw [Int.toNat_natCast]
    generalize Clm.ofAll c i (soldG c) = sp at *
    clear hO hOf hG h3 h1 h4 h5 h6 hi hcan hv k2 k3 k4 hm
    simp only [zipI, clampCs] at *
    (repeat (first | (with_reducible apply zah; (focus ((conv => lhs; simp [Nat.testBit_eq_decide_div_mod_eq, *]) <;> exact rfl)); simp only [addFl]) | (with_reducible apply zau; (focus ((conv => lhs; simp [Nat.testBit_eq_decide_div_mod_eq, *]) <;> exact rfl)); (try simp only [Ops, Then, OutB]); (try dsimp only)) | ((with_reducible first | apply zai | apply zak | apply zag | apply zae | apply zac | apply zaj | apply zaf | apply zam | (apply zad; · simp [zaa, *]) | (apply zab; · simp [zaa, *])); try simp only [Then, Ops]) | simp only [Nat.reduceEqDiff, reduceIte, OutB, Then]))
    refine zdp (v := .tup [spA sp, .int .i64 0]) (.inl rfl) hdf rfl (by simp) (by simp only [resL, resOf, zal]; simp [resV, pickC, spA, f0, g0]) ⟨rfl, by simp⟩
end K
end Ev
end Go.Proofs.Ytimgnlellflciaa

/- Package clamp, gone through: exported functions of all clamps. -/
namespace Go.Proofs.Ytimgnlellflciaa
open Go
namespace Ev
namespace K
attribute [local simp] ev1 wantG spineK spine float xnew xval xeff zaa zaq zbc zav zaw addFl cellsOf pickC alive slLen slFt binI maxA maxK minA minK aeqK aeqS AV.cells spA zar fillA setAt bitsI nat_nn zbg AV.plain apart
set_option maxRecDepth 100000
set_option maxHeartbeats 4000000
theorem zfh (N : Nat) : ∀ (dead : List Nat) (l : List (Nat × AV)), forget dead (tmA N l) = tmA N (dead.foldl (fun l t => (t, .unk) :: l) l)
  | [], _ => rfl
  | t :: d, l => by
    have := zfh N d ((t, .unk) :: l)
    simp only [forget, List.foldl_cons] at this ⊢
    exact this
def AlwaysC (call : CallF) : Prop := ∀ (H : List AB) (v : AV), call (.fn (.func 60) [] []) [v] H = some (.ret (.bool true), H, [])
theorem ztf (C : Cfg) (call : CallF) (H : List AB) (v : AV) : Does (ev C call H.length none af60.body { tm := tmA af60.ntmps (zipI 0 [v] []), df := [], hp := H, tc := [] })
    (Ends C H.length af60.res fun w _hp tc => w = .bool true ∧ tc = []) := by
  unfold af60
  simp only [zipI]
  (repeat (first | (with_reducible apply zah; (focus ((conv => lhs; simp [Nat.testBit_eq_decide_div_mod_eq, *]) <;> exact rfl)); simp only [addFl]) | ((with_reducible first | apply zai | apply zak | apply zag | apply zae | apply zac | apply zaj | apply zaf | apply zam | (apply zad; · simp [zaa, *]) | (apply zab; · simp [zaa, *])); try simp only [Then, Ops]) | simp only [Nat.reduceEqDiff, reduceIte, OutB, Then]))
  exact zao (v := .bool true) (.inl rfl) rfl (by simp) (by simp only [resL, resOf, zal]; simp [resV, *]) ⟨rfl, rfl⟩
def TogCall (call : CallF) (c : Clm.Cl) : Prop := ∀ (H : List AB) (yb mb : Nat), Yd c yb mb H → ∀ set : Nat, ∃ H' tc, call (.fn (.func 53) [] []) [.ptr yb 0, .int .u64 set] H = some (.ret (.agg [.int .i64 (Clm.together c set).lo, .int .i64 (Clm.together c set).hi]), H', tc) ∧ (∀ j ∈ tc, j = mb) ∧ Kp tc H H' ∧ Yd c yb mb H'
def HeadCall (call call1 : CallF) (c : Clm.Cl) : Prop := ∀ (H : List AB) (F : AV) (is : Bool), (Clm.valid c = true → ∀ G yb mb, Kp [] H G → Yd c yb mb G → call1 F [.ptr yb 0] G = some (.ret (.bool is), G, [])) →
  (errOf c is ≠ 0 ∧ errOf c is ≠ 10 ∧ call (.fn (.func 48) [] []) [.agg (clampCs c), F] H = some (.pan (stopV (errOf c is)), H, [])) ∨
  (errOf c is = 10 ∧ ∃ H1 yb H2 tc, call (.fn (.func 48) [] []) [.agg (clampCs c), F] H = some (.ret (.ptr yb 0), H1, []) ∧ call (.fn (.func 52) [] []) [.ptr yb 0] H1 = some (.pan (stopV 10), H2, tc) ∧ Kp [] H H2 ∧ (∀ j ∈ tc, H.length ≤ j)) ∨
  (errOf c is = 0 ∧ ∃ H1 yb mb H2 tc, call (.fn (.func 48) [] []) [.agg (clampCs c), F] H = some (.ret (.ptr yb 0), H1, []) ∧ call (.fn (.func 52) [] []) [.ptr yb 0] H1 = some (.ret (.ptr yb 0), H2, tc) ∧ Kp [] H H2 ∧ Yd c yb mb H2 ∧ H.length ≤ yb ∧ H.length ≤ mb ∧ (∀ j ∈ tc, H.length ≤ j))
theorem yaj {call call1 : CallF} {c : Clm.Cl} (hO : OpenCall call call1 c) (hT : Clm.valid c = true → ToldCall call c) : HeadCall call call1 c := by
  intro H F is hF
  unfold errOf
  rcases hO H F is hF with ⟨h1, h2⟩ | ⟨h1, h2, h3⟩ | ⟨h1, h2, H1, yb, mb, h3, h4, h5, h6, h7⟩
  · rw [h1, if_pos rfl]; exact .inl ⟨by decide, by decide, h2⟩
  · rw [h1, h2, if_neg (by decide), if_pos rfl]; exact .inl ⟨by decide, by decide, h3⟩
  · obtain ⟨H2, tc, k1, k2, k3, k4⟩ := hT h1 H1 yb mb h5
    have hl := h4.len
    have hkp : Kp [] H H2 := ⟨by have := k2.len; omega, fun b hb hs => by
      rw [k2.get b (by omega) (fun h => by have := k1 b h; omega)]; exact h4.get b hb hs⟩
    have ht : ∀ j ∈ tc, H.length ≤ j := fun j hj => by have := k1 j hj; omega
    rw [h1, h2, if_neg (by decide), if_neg (by decide)]
    cases hcan : Clm.can c (Clm.every c) with
    | false =>
      rw [hcan] at k4
      rw [if_pos rfl]
      exact .inr (.inl ⟨rfl, H1, yb, H2, tc, h3, k4, hkp, ht⟩)
    | true =>
      rw [hcan] at k4
      rw [if_neg (by decide)]
      exact .inr (.inr ⟨rfl, H1, yb, mb, H2, tc, h3, k4, hkp, k3, h6, h7, ht⟩)
def fullP (c : Clm.Cl) : Nat := 2 ^ c.piles.length - 1
theorem zzl (C : Cfg) (call call1 : CallF) (c : Clm.Cl) (hbig : c.piles.length ≤ 40) (hdf : C.dfk 69 = some (102, true)) (hA : AlwaysC call1) (hH : HeadCall call call1 c) (hT : Clm.valid c = true → TogCall call c) :
    Does (ev C call ([] : List AB).length none af25.body { tm := tmA af25.ntmps (zipI 0 [.agg (clampCs c)] []), df := [], hp := [], tc := [] })
      (Fin C ([] : List AB).length af25 (Ans (spanR c true (Clm.together c (fullP c))))) := by
  have hh := hH [.cells (clampCs c), .cells [.int .i64 0, .int .i64 0], .cells [.int .i64 0]] (.fn (.func 60) [] []) true (fun _ G yb mb _ _ => hA G _)
  obtain ⟨s1, s2, s3⟩ := zir (d := c.piles.length) (by omega)
  have hp : 0 < 2 ^ c.piles.length := Nat.pow_pos (by decide)
  have hp2 : 2 ^ c.piles.length ≤ 2 ^ 40 := Nat.pow_le_pow_right (by decide) hbig
  have hev : ((fullP c : Nat) : Int) = ((2 ^ c.piles.length : Nat) : Int) - 1 := by unfold fullP; omega
  have hw : IntKind.u64.wrap (((2 ^ c.piles.length : Nat) : Int) - 1) = ((2 ^ c.piles.length : Nat) : Int) - 1 := zpj (by omega) (by omega)
  unfold spanR
  unfold af25
  rcases hh with ⟨h1, h2, h3⟩ | ⟨h1, H1, yb, H2, tc, h2, h3, h4, h5⟩ | ⟨h1, H1, yb, mb, H2, tc, h2, h3, h4, h5, h6, h7, h8⟩
  · generalize errOf c true = e at *
    rw [if_neg h1]
    clear hH hT hA h1 h2 hev hp hp2 hbig
    generalize 2 ^ c.piles.length = P at s1 s2 s3 hw
    simp only [zipI, clampCs, stopV] at *
    (repeat (first | (with_reducible apply zah; (focus ((conv => lhs; simp [Nat.testBit_eq_decide_div_mod_eq, *]) <;> exact rfl)); simp only [addFl]) | (with_reducible apply zau; (focus ((conv => lhs; simp [Nat.testBit_eq_decide_div_mod_eq, *]) <;> exact rfl)); (try simp only); (try dsimp only)) | ((with_reducible first | apply zai | apply zak | apply zag | apply zae | apply zac | apply zaj | apply zaf | apply zam | (apply zad; · simp [zaa, *]) | (apply zab; · simp [zaa, *])); try simp only [Then, Ops]) | simp only [Nat.reduceEqDiff, reduceIte, OutB, Then]))
    simp only [List.filterMap_cons, List.filterMap_nil, zfh, List.foldl_cons, List.foldl_nil]
    refine zcg hdf rfl rfl (by simp only [resL, resOf, zal]; simp [resV, pickC]; rfl) ⟨by simp [spA], by simp⟩
  · rw [h1, if_neg (by decide)]
    have e1 : H2[1]? = some (.cells [.int .i64 0, .int .i64 0]) := h4.at rfl (by simp)
    have e2 : H2[2]? = some (.cells [.int .i64 0]) := h4.at rfl (by simp)
    have t0 : ¬ (0 ∈ tc) := fun h => by have := h5 _ h; simp at this
    clear hH hT hA h1 h4 h5 hev hp hp2 hbig
    generalize 2 ^ c.piles.length = P at s1 s2 s3 hw
    simp only [zipI, clampCs, stopV] at *
    (repeat (first | (with_reducible apply zah; (focus ((conv => lhs; simp [Nat.testBit_eq_decide_div_mod_eq, *]) <;> exact rfl)); simp only [addFl]) | (with_reducible apply zau; (focus ((conv => lhs; simp [Nat.testBit_eq_decide_div_mod_eq, *]) <;> exact rfl)); (try simp only); (try dsimp only)) | ((with_reducible first | apply zai | apply zak | apply zag | apply zae | apply zac | apply zaj | apply zaf | apply zam | (apply zad; · simp [zaa, *]) | (apply zab; · simp [zaa, *])); try simp only [Then, Ops]) | simp only [Nat.reduceEqDiff, reduceIte, OutB, Then]))
    simp only [List.filterMap_cons, List.filterMap_nil, zfh, List.foldl_cons, List.foldl_nil]
    refine zcg hdf rfl e2 (by simp only [resL, resOf, zal]; simp [resV, pickC, List.getElem?_set_ne, e1, List.getElem?_set_self (get_lt e2)]; rfl) ⟨by simp [spA], by simp⟩
  · obtain ⟨hv, _, hcan⟩ := err_ok h1
    rw [h1, if_pos rfl]
    obtain ⟨H3, tc3, k1, k2, k3, k4⟩ := hT hv H2 yb mb h5 (fullP c)
    have e1 : H3[1]? = some (.cells [.int .i64 0, .int .i64 0]) := k3.at (h4.at rfl (by simp)) (fun h => by have := k2 _ h; simp at h7; omega)
    have e2 : H3[2]? = some (.cells [.int .i64 0]) := k3.at (h4.at rfl (by simp)) (fun h => by have := k2 _ h; simp at h7; omega)
    obtain ⟨f0, f1, f2, f3, f4, f5⟩ := bk' e1
    obtain ⟨g0, g1, g2, g3, g4, g5⟩ := bk' e2
    have t0 : ¬ (0 ∈ tc) := fun h => by have := h8 _ h; simp at this
    have t1 : ¬ (0 ∈ tc3) := fun h => by have := k2 _ h; simp at h7; omega
    rw [hev] at k1
    generalize Clm.together c (fullP c) = sp at *
    generalize 2 ^ c.piles.length = P at s1 s2 s3 hw k1
    clear hH hT hA h1 h4 h5 h6 h7 h8 hcan hv k2 k3 k4 hev hp hp2 hbig
    simp only [zipI, clampCs] at *
    (repeat (first | (with_reducible apply zah; (focus ((conv => lhs; simp [Nat.testBit_eq_decide_div_mod_eq, *]) <;> exact rfl)); simp only [addFl]) | (with_reducible apply zau; (focus ((conv => lhs; simp [Nat.testBit_eq_decide_div_mod_eq, *]) <;> exact rfl)); (try simp only [Ops, Then, OutB]); (try dsimp only)) | ((with_reducible first | apply zai | apply zak | apply zag | apply zae | apply zac | apply zaj | apply zaf | apply zam | (apply zad; · simp [zaa, *]) | (apply zab; · simp [zaa, *])); try simp only [Then, Ops]) | simp only [Nat.reduceEqDiff, reduceIte, OutB, Then]))
    refine zdp (v := .tup [spA sp, .int .i64 0]) (.inl rfl) hdf rfl (by simp) (by simp only [resL, resOf, zal]; simp [resV, pickC, spA, f0, g0]) ⟨rfl, by simp⟩
theorem zgw {H : List AB} {i : Nat} (h : i < H.length) (X : AB) (K : List AB) : (H.set i X ++ K)[i]? = some X := by
  rw [List.getElem?_append_left (by simpa using h), List.getElem?_set_self h]
def isS (n : Int) : Bool := decide (0 ≤ n ∧ n ≤ 20000)
def AreSodsC (call : CallF) : Prop := ∀ (H : List AB) (n : Int), call (.fn (.func 51) [] []) [.int .i64 n] H = some (.ret (.bool (decide (0 ≤ n ∧ n ≤ 20000))), H, [])
theorem zow (C : Cfg) (call : CallF) (c : Clm.Cl) (hP : IsPileC call c) (hA : AreSodsC call) (H : List AB) (yb : Nat) (w : AV) (hy : H[yb]? = some (.cells (clampCs c ++ [w]))) (n s : Int) (b1 b2 : Nat) (hb1 : H[b1]? = some (.cells [.int .i64 n])) (hb2 : H[b2]? = some (.cells [.int .i64 s])) :
    Does (ev C call H.length none af49.body { tm := tmA af49.ntmps (zipI 0 [.ptr yb 0, .ptr b1 0, .ptr b2 0] []), df := [], hp := H, tc := [] })
      (Ends C H.length af49.res fun v _hp tc => v = .bool (isP c n && isS s) ∧ tc = []) := by
  have hp := hP H yb w hy n
  have ha := fun H => hA H s
  obtain ⟨f0, f1, f2, f3, f4, f5⟩ := bk' hb1
  obtain ⟨g0, g1, g2, g3, g4, g5⟩ := bk' hb2
  unfold isP isS
  generalize decide (0 ≤ s ∧ s ≤ 20000) = b2 at *
  clear hP hy hA
  unfold af49
  simp only [zipI]
  cases hbb : decide (0 ≤ n ∧ n < (c.piles.length : Int)) with
  | true =>
    rw [hbb] at hp
    clear hbb
    (repeat (first | (with_reducible apply zah; (focus ((conv => lhs; simp [Nat.testBit_eq_decide_div_mod_eq, *]) <;> exact rfl)); simp only [addFl]) | ((with_reducible first | apply zai | apply zak | apply zag | apply zae | apply zac | apply zaj | apply zaf | apply zam | (apply zad; · simp [zaa, *]) | (apply zab; · simp [zaa, *])); try simp only [Then, Ops]) | simp only [Nat.reduceEqDiff, reduceIte, OutB, Then]))
    exact zao (v := .bool b2) (.inl rfl) rfl (by simp) (by simp only [resL, resOf, zal]; simp [resV, *]) ⟨by simp, rfl⟩
  | false =>
    rw [hbb] at hp
    clear hbb
    (repeat (first | (with_reducible apply zah; (focus ((conv => lhs; simp [Nat.testBit_eq_decide_div_mod_eq, *]) <;> exact rfl)); simp only [addFl]) | ((with_reducible first | apply zai | apply zak | apply zag | apply zae | apply zac | apply zaj | apply zaf | apply zam | (apply zad; · simp [zaa, *]) | (apply zab; · simp [zaa, *])); try simp only [Then, Ops]) | simp only [Nat.reduceEqDiff, reduceIte, OutB, Then]))
    exact zao (v := .bool false) (.inl rfl) rfl (by simp) (by simp only [resL, resOf, zal]; simp [resV, *]) ⟨by simp, rfl⟩
def enoughN (s : Clm.Sp) (n : Int) : Int := if s.lo ≥ n then 2 else if s.hi < n then 0 else 1
def numR (c : Clm.Cl) (is : Bool) (n : Int) : AV := .tup [.int .i64 (if errOf c is = 0 then n else 0), .int .i64 (errOf c is)]
theorem zov (C : Cfg) (call call1 : CallF) (c : Clm.Cl) (hdf : C.dfk 47 = some (102, true)) (hH : HeadCall call call1 c) (hT : Clm.valid c = true → TogCall call c) (num s : Int)
    (hF : Clm.valid c = true → ∀ G yb mb, Kp [] [.cells (clampCs c), .cells [.int .i64 num], .cells [.int .i64 s], .cells [.int .i64 0]] G → Yd c yb mb G → call1 (.fn (.func 49) [] [.ptr 1 0, .ptr 2 0]) [.ptr yb 0] G = some (.ret (.bool (isP c num && isS s)), G, [])) :
    Does (ev C call ([] : List AB).length none af14.body { tm := tmA af14.ntmps (zipI 0 [.agg (clampCs c), .int .i64 num, .int .i64 s] []), df := [], hp := [], tc := [] })
      (Fin C ([] : List AB).length af14 (Ans (numR c (isP c num && isS s) (enoughN (Clm.together c (2 ^ num.toNat)) s)))) := by
  have hh := hH [.cells (clampCs c), .cells [.int .i64 num], .cells [.int .i64 s], .cells [.int .i64 0]] (.fn (.func 49) [] [.ptr 1 0, .ptr 2 0]) _ hF
  unfold numR
  unfold af14
  generalize hisdef : (isP c num && isS s) = is at *
  rcases hh with ⟨h1, h2, h3⟩ | ⟨h1, H1, yb, H2, tc, h2, h3, h4, h5⟩ | ⟨h1, H1, yb, mb, H2, tc, h2, h3, h4, h5, h6, h7, h8⟩
  · generalize errOf c is = e at *
    rw [if_neg h1]
    clear hH hT hF h1 h2 hisdef
    simp only [zipI, clampCs, stopV] at *
    (repeat (first | (with_reducible apply zah; (focus ((conv => lhs; simp [Nat.testBit_eq_decide_div_mod_eq, *]) <;> exact rfl)); simp only [addFl]) | (with_reducible apply zau; (focus ((conv => lhs; simp [Nat.testBit_eq_decide_div_mod_eq, *]) <;> exact rfl)); (try simp only [Ops, Then]); (try dsimp only)) | ((with_reducible first | apply zai | apply zak | apply zag | apply zae | apply zac | apply zaj | apply zaf | apply zam | (apply zad; · simp [zaa, *]) | (apply zab; · simp [zaa, *])); try simp only [Then, Ops]) | simp only [Nat.reduceEqDiff, reduceIte, OutB, Then]))
    refine zcg hdf rfl rfl (by simp only [resL, resOf, zal]; simp [resV, pickC]; rfl) ⟨by simp, by simp⟩
  · rw [h1, if_neg (by decide)]
    have e2 : H2[3]? = some (.cells [.int .i64 0]) := h4.at rfl (by simp)
    clear hH hT hF h1 h4 h5 hisdef
    simp only [zipI, clampCs, stopV] at *
    (repeat (first | (with_reducible apply zah; (focus ((conv => lhs; simp [Nat.testBit_eq_decide_div_mod_eq, *]) <;> exact rfl)); simp only [addFl]) | (with_reducible apply zau; (focus ((conv => lhs; simp [Nat.testBit_eq_decide_div_mod_eq, *]) <;> exact rfl)); (try simp only [Ops, Then]); (try dsimp only)) | ((with_reducible first | apply zai | apply zak | apply zag | apply zae | apply zac | apply zaj | apply zaf | apply zam | (apply zad; · simp [zaa, *]) | (apply zab; · simp [zaa, *])); try simp only [Then, Ops]) | simp only [Nat.reduceEqDiff, reduceIte, OutB, Then]))
    refine zcg hdf rfl e2 (by simp only [resL, resOf, zal]; simp [resV, pickC, List.getElem?_set_self (get_lt e2)]; rfl) ⟨by simp, by simp⟩
  · obtain ⟨hv, hist, hcan⟩ := err_ok h1
    rw [h1, if_pos rfl]
    subst hist
    simp only [Bool.and_eq_true] at hisdef
    obtain ⟨i, rfl, hil⟩ := zll hisdef.1
    obtain ⟨s1, s2, s3⟩ := zir (d := i) (by have := ((Clm.valid_iff c).1 hv).piles; omega)
    rw [Int.toNat_natCast]
    obtain ⟨H3, tc3, k1, k2, k3, k4⟩ := hT hv H2 yb mb h5 (2 ^ i)
    have e0 : H2[1]? = some (.cells [.int .i64 i]) := h4.at rfl (by simp)
    have e2 : H3[2]? = some (.cells [.int .i64 s]) := k3.at (h4.at rfl (by simp)) (fun h => by have := k2 _ h; simp at h7; omega)
    have e3 : H3[3]? = some (.cells [.int .i64 0]) := k3.at (h4.at rfl (by simp)) (fun h => by have := k2 _ h; simp at h7; omega)
    obtain ⟨o0, o1, o2, o3, o4, o5⟩ := bk' e0
    obtain ⟨f0, f1, f2, f3, f4, f5⟩ := bk' e2
    obtain ⟨g0, g1, g2, g3, g4, g5⟩ := bk' e3
    generalize Clm.together c (2 ^ i) = sp at *
    generalize 2 ^ i = P at s1 s2 s3 k1
    clear hH hT hF h1 h4 h5 h6 h7 h8 hcan hv k2 k3 k4 hisdef
    simp only [zipI, clampCs] at *
    by_cases q1 : s ≤ sp.lo
    · have hN : enoughN sp s = 2 := if_pos q1
      rw [hN]
      clear hN
      (repeat (first | (with_reducible apply zah; (focus ((conv => lhs; simp [Nat.testBit_eq_decide_div_mod_eq, *]) <;> exact rfl)); simp only [addFl]) | (with_reducible apply zau; (focus ((conv => lhs; simp [Nat.testBit_eq_decide_div_mod_eq, *]) <;> exact rfl)); (try simp only [Ops, Then, OutB]); (try dsimp only)) | ((with_reducible first | apply zai | apply zak | apply zag | apply zae | apply zac | apply zaj | apply zaf | apply zam | (apply zad; · simp [zaa, *]) | (apply zab; · simp [zaa, *])); try simp only [Then, Ops, OutB]) | simp only [Nat.reduceEqDiff, reduceIte, OutB, Then]))
      refine zdp (v := .tup [.int .i64 2, .int .i64 0]) (.inl rfl) hdf rfl (by simp) (by simp only [resL, resOf, zal]; simp [resV, pickC, zgw, g0]) ⟨rfl, by simp⟩
    · by_cases q2 : sp.hi < s
      · have hN : enoughN sp s = 0 := by unfold enoughN; rw [if_neg q1, if_pos q2]
        rw [hN]
        clear hN
        (repeat (first | (with_reducible apply zah; (focus ((conv => lhs; simp [Nat.testBit_eq_decide_div_mod_eq, *]) <;> exact rfl)); simp only [addFl]) | (with_reducible apply zau; (focus ((conv => lhs; simp [Nat.testBit_eq_decide_div_mod_eq, *]) <;> exact rfl)); (try simp only [Ops, Then, OutB]); (try dsimp only)) | ((with_reducible first | apply zai | apply zak | apply zag | apply zae | apply zac | apply zaj | apply zaf | apply zam | (apply zad; · simp [zaa, *]) | (apply zab; · simp [zaa, *])); try simp only [Then, Ops, OutB]) | simp only [Nat.reduceEqDiff, reduceIte, OutB, Then]))
        refine zdp (v := .tup [.int .i64 0, .int .i64 0]) (.inl rfl) hdf rfl (by simp) (by simp only [resL, resOf, zal]; simp [resV, pickC, zgw, g0]) ⟨rfl, by simp⟩
      · have hN : enoughN sp s = 1 := by unfold enoughN; rw [if_neg q1, if_neg q2]
        rw [hN]
        clear hN
        (repeat (first | (with_reducible apply zah; (focus ((conv => lhs; simp [Nat.testBit_eq_decide_div_mod_eq, *]) <;> exact rfl)); simp only [addFl]) | (with_reducible apply zau; (focus ((conv => lhs; simp [Nat.testBit_eq_decide_div_mod_eq, *]) <;> exact rfl)); (try simp only [Ops, Then, OutB]); (try dsimp only)) | ((with_reducible first | apply zai | apply zak | apply zag | apply zae | apply zac | apply zaj | apply zaf | apply zam | (apply zad; · simp [zaa, *]) | (apply zab; · simp [zaa, *])); try simp only [Then, Ops, OutB]) | simp only [Nat.reduceEqDiff, reduceIte, OutB, Then]))
        refine zdp (v := .tup [.int .i64 1, .int .i64 0]) (.inl rfl) hdf rfl (by simp) (by simp only [resL, resOf, zal]; simp [resV, pickC, zgw, g0]) ⟨rfl, by simp⟩
end K
end Ev
end Go.Proofs.Ytimgnlellflciaa

/- Sets, by their sizes. No program in sight. -/
namespace Go.Proofs.Ytimgnlellflciaa
namespace Clm
set_option maxRecDepth 100000
def cntF : Nat → Nat → Nat
  | 0, _ => 0
  | f + 1, n => n % 2 + cntF f (n / 2)
def sizeN (n : Nat) : Nat := cntF 16 n
def setsBy (k : Nat) : List Nat := (List.range (k + 1)).flatMap fun s => (List.range (2 ^ k)).filter fun n => sizeN n == s
def ltS (a b : Nat) : Bool := decide (sizeN a < sizeN b) || (sizeN a == sizeN b && decide (a < b))
def pairB : List Nat → Bool
  | [] => true
  | a :: l => l.all (ltS a) && pairB l
def goodB (k : Nat) : Bool := pairB (setsBy k) && (List.range (2 ^ k)).all (fun n => (setsBy k).contains n) && (setsBy k).all (fun n => decide (n < 2 ^ k)) && (setsBy k).length == 2 ^ k
theorem zql : ∀ k, k < 7 → goodB k = true := by decide +kernel
theorem mem_sets {k : Nat} (hk : k ≤ 6) (n : Nat) : n ∈ setsBy k ↔ n < 2 ^ k := by
  have h := zql k (by omega)
  simp only [goodB, Bool.and_eq_true, List.all_eq_true, decide_eq_true_eq] at h
  constructor
  · exact fun hn => h.1.2 n hn
  · intro hn
    have := h.1.1.2 n (by simpa using hn)
    simpa using this
theorem sets_len {k : Nat} (hk : k ≤ 6) : (setsBy k).length = 2 ^ k := by
  have h := zql k (by omega)
  simp only [goodB, Bool.and_eq_true] at h
  simpa using h.2
theorem zsn {k : Nat} (hk : k ≤ 6) {p : Nat → Bool} (h : (setsBy k).find? p = none) : ∀ o, o < 2 ^ k → p o = false := by
  intro o ho
  rw [List.find?_eq_none] at h
  simpa using h o ((mem_sets hk o).2 ho)
theorem first_some {k : Nat} (hk : k ≤ 6) {p : Nat → Bool} {o : Nat} (ho : o < 2 ^ k) (hp : p o = true) : ∃ S, (setsBy k).find? p = some S := by
  cases h : (setsBy k).find? p with
  | some S => exact ⟨S, rfl⟩
  | none => rw [zsn hk h o ho] at hp; cases hp
end Clm
end Go.Proofs.Ytimgnlellflciaa

/- Sets as numbers. -/
namespace Go.Proofs.Ytimgnlellflciaa
open Go
namespace Clm
def setOf (p : Nat → Bool) : Nat → Nat
  | 0 => 0
  | i + 1 => if p i then setOf p i + 2 ^ i else setOf p i
theorem zcn (p : Nat → Bool) : ∀ n, setOf p n < 2 ^ n
  | 0 => by simp [setOf]
  | n + 1 => by
    have := zcn p n
    unfold setOf
    rw [Nat.pow_succ]
    split <;> omega
theorem zmc (p : Nat → Bool) : ∀ n i, (setOf p n).testBit i = (decide (i < n) && p i)
  | 0, i => by simp [setOf]
  | n + 1, i => by
    have ih := zmc p n i
    have hl := zcn p n
    have hl1 := zcn p (n + 1)
    rcases Nat.lt_trichotomy i n with h | h | h
    · have e : (setOf p (n + 1)).testBit i = (setOf p n).testBit i := by
        show (if p n then setOf p n + 2 ^ n else setOf p n).testBit i = _
        split
        · rw [Nat.add_comm, Nat.testBit_two_pow_add_gt h]
        · rfl
      rw [e, ih]
      congr 1
      simp; omega
    · subst h
      have h0 : (setOf p i).testBit i = false := Nat.testBit_lt_two_pow hl
      have e : (setOf p (i + 1)).testBit i = p i := by
        show (if p i then setOf p i + 2 ^ i else setOf p i).testBit i = _
        split
        · rename_i hp
          rw [Nat.add_comm, Nat.testBit_two_pow_add_eq, h0, hp]; rfl
        · rename_i hp
          rw [h0]; simpa using hp
      rw [e]; simp
    · rw [Nat.testBit_lt_two_pow (Nat.lt_of_lt_of_le hl1 (Nat.pow_le_pow_right (by decide) (by omega)))]
      simp; omega
def countsN (c : Cl) : Nat := setOf (fun i => decide ((c.events.getD i default).kind = 1)) c.events.length
theorem zng (c : Cl) (i : Nat) : (every c).testBit i = decide (i < c.events.length) := by
  unfold every; rw [Nat.testBit_two_pow_sub_one]
theorem znq {c : Cl} (hc : Fine c) (n : Int) {s t : Nat} (h : ∀ i v, c.events[i]? = some v → v.kind = 1 → s.testBit i = t.testBit i) : befell c n s = befell c n t := by
  unfold befell
  refine List.map_congr_left fun p hp => ?_
  obtain ⟨v, i⟩ := p
  obtain ⟨h1, h2, h3⟩ := List.mem_zipIdx hp
  simp only [Nat.sub_zero] at h3
  have hge : c.events[i]? = some v := by rw [List.getElem?_eq_getElem (by omega), h3]
  simp only
  split
  · rfl
  · split
    · rfl
    · rename_i hk
      have hv := hc.event v (List.mem_of_getElem? hge)
      unfold bit
      rw [h i v hge (by omega)]
theorem zre {c : Cl} {s t : Nat} (h : ∀ n : Int, befell c n s = befell c n t) (i : Nat) (k : Int) : ways c i k s = ways c i k t := by
  unfold ways logOf; rw [h i]
theorem zod {c : Cl} {s t : Nat} (h : ∀ n : Int, befell c n s = befell c n t) : packs c s = packs c t := by
  unfold packs
  congr 1
  funext k
  congr 1
  funext i
  rw [zre h]
theorem zws {c : Cl} {s t : Nat} (h : ∀ n : Int, befell c n s = befell c n t) : can c s = can c t := by
  unfold can; rw [zod h]
theorem can_counts {c : Cl} (hc : Fine c) : can c (countsN c) = can c (every c) := by
  refine zws fun n => znq hc n fun i v hv hk => ?_
  have hi := (List.getElem?_eq_some_iff.1 hv).1
  rw [zng]
  unfold countsN
  rw [zmc, List.getD_eq_getElem?_getD, hv]
  simp [hi, hk]
end Clm
end Go.Proofs.Ytimgnlellflciaa

/- Package clamp, gone through: which clamps are empty. -/
namespace Go.Proofs.Ytimgnlellflciaa
open Go
namespace Ev
namespace K
attribute [local simp] ev1 wantG spineK spine float xnew xval xeff zaa zaq zbc zav zaw addFl cellsOf pickC alive slLen slFt binI maxA maxK minA minK aeqK aeqS AV.cells spA zar fillA setAt bitsI nat_nn zbg AV.plain apart
open Clm (setOf zcn)
set_option maxRecDepth 100000
set_option maxHeartbeats 4000000
theorem zzq {d : Nat} (h : d ≤ 40) : IntKind.i64.wrap (1 * 2 ^ (min ((d : Int).toNat) IntKind.i64.bits)) = ((2 ^ d : Nat) : Int) ∧ IntKind.i64.wrap (2 ^ (min ((d : Int).toNat) IntKind.i64.bits)) = ((2 ^ d : Nat) : Int) ∧ IntKind.i64.wrap (2 ^ (min d IntKind.i64.bits)) = ((2 ^ d : Nat) : Int) := by
  have hb : IntKind.i64.bits = 64 := rfl
  have h1 : min ((d : Int).toNat) IntKind.i64.bits = d := by rw [hb]; omega
  have h1' : min d IntKind.i64.bits = d := by rw [hb]; omega
  have h2 : (2 : Int) ^ d = ((2 ^ d : Nat) : Int) := by simp
  have h3 : 2 ^ d ≤ 2 ^ 40 := Nat.pow_le_pow_right (by decide) h
  have h4 : ∀ q : Nat, q ≤ 2 ^ 40 → IntKind.i64.wrap (q : Int) = q := by
    intro q hq
    exact zas (by omega) (by omega)
  rw [h1, h1', Int.one_mul, h2]
  exact ⟨h4 _ h3, h4 _ h3, h4 _ h3⟩
theorem zpx : ∀ i, i < 7 → ∀ a, a < 2 ^ i → IntKind.i64.wrap ((BitVec.ofInt IntKind.i64.bits ((a : Nat) : Int) ||| BitVec.ofInt IntKind.i64.bits ((2 ^ i : Nat) : Int)).toNat) = ((a + 2 ^ i : Nat) : Int) := by decide +kernel
theorem zxw : ∀ i, i < 7 → ∀ a, a < 2 ^ i → IntKind.u64.wrap ((BitVec.ofInt IntKind.u64.bits ((a : Nat) : Int) ||| BitVec.ofInt IntKind.u64.bits ((2 ^ i : Nat) : Int)).toNat) = ((a + 2 ^ i : Nat) : Int) := by decide +kernel
def emptyS (c : Clm.Cl) : Nat := setOf (fun i => decide ((Clm.together c (2 ^ i)).hi = 0)) c.piles.length
def emptyP (c : Clm.Cl) : Nat := setOf (fun i => decide ((Clm.together c (2 ^ i)).lo = 0)) c.piles.length
def emptyR (c : Clm.Cl) : AV := .tup [.int .i64 (if errOf c true = 0 then (emptyS c : Int) else 0), .int .i64 (if errOf c true = 0 then (emptyP c : Int) else 0), .int .i64 (errOf c true)]
theorem zss (C : Cfg) (hC : C.calm = true) (call call1 : CallF) (c : Clm.Cl) (hdf : C.dfk 70 = some (102, true)) (hA : AlwaysC call1) (hH : HeadCall call call1 c) (hT : Clm.valid c = true → TogCall call c) :
    Does (ev C call ([] : List AB).length none af26.body { tm := tmA af26.ntmps (zipI 0 [.agg (clampCs c)] []), df := [], hp := [], tc := [] })
      (Fin C ([] : List AB).length af26 (Ans (emptyR c))) := by
  have hh := hH [.cells (clampCs c), .cells [.int .i64 0]] (.fn (.func 60) [] []) true (fun _ G yb mb _ _ => hA G _)
  unfold emptyR
  unfold af26
  rcases hh with ⟨h1, h2, h3⟩ | ⟨h1, H1, yb, H2, tc, h2, h3, h4, h5⟩ | ⟨h1, H1, yb, mb, H2, tc, h2, h3, h4, h5, h6, h7, h8⟩
  · generalize errOf c true = e at *
    simp only [if_neg h1]
    clear hH hT hA h1 h2
    simp only [zipI, clampCs, stopV] at *
    (repeat (first | (with_reducible apply zah; (focus ((conv => lhs; simp [Nat.testBit_eq_decide_div_mod_eq, *]) <;> exact rfl)); simp only [addFl]) | (with_reducible apply zau; (focus ((conv => lhs; simp [Nat.testBit_eq_decide_div_mod_eq, *]) <;> exact rfl)); (try simp only [Ops, Then]); (try dsimp only)) | ((with_reducible first | apply zai | apply zak | apply zag | apply zae | apply zac | apply zaj | apply zaf | apply zam | (apply zad; · simp [zaa, *]) | (apply zab; · simp [zaa, *])); try simp only [Then, Ops]) | simp only [Nat.reduceEqDiff, reduceIte, OutB, Then]))
    refine zcg hdf rfl rfl (by simp only [resL, resOf, zal]; simp [resV, pickC]; rfl) ⟨by simp, by simp⟩
  · rw [h1]
    simp only [if_neg (show ¬ ((10 : Int) = 0) by decide)]
    have e2 : H2[1]? = some (.cells [.int .i64 0]) := h4.at rfl (by simp)
    clear hH hT hA h1 h4 h5
    simp only [zipI, clampCs, stopV] at *
    (repeat (first | (with_reducible apply zah; (focus ((conv => lhs; simp [Nat.testBit_eq_decide_div_mod_eq, *]) <;> exact rfl)); simp only [addFl]) | (with_reducible apply zau; (focus ((conv => lhs; simp [Nat.testBit_eq_decide_div_mod_eq, *]) <;> exact rfl)); (try simp only [Ops, Then]); (try dsimp only)) | ((with_reducible first | apply zai | apply zak | apply zag | apply zae | apply zac | apply zaj | apply zaf | apply zam | (apply zad; · simp [zaa, *]) | (apply zab; · simp [zaa, *])); try simp only [Then, Ops]) | simp only [Nat.reduceEqDiff, reduceIte, OutB, Then]))
    refine zcg hdf rfl e2 (by simp only [resL, resOf, zal]; simp [resV, pickC, List.getElem?_set_self (get_lt e2)]; rfl) ⟨by simp, by simp⟩
  · obtain ⟨hv, _, hcan⟩ := err_ok h1
    have hpn := ((Clm.valid_iff c).1 hv).piles
    rw [h1]
    simp only
    have hT' := hT hv
    have e0 : H2[0]? = some (.cells (clampCs c)) := h4.at rfl (by simp)
    have e2 : H2[1]? = some (.cells [.int .i64 0]) := h4.at rfl (by simp)
    obtain ⟨f0, f1, f2, f3, f4, f5⟩ := bk' e0
    have HX := hideP (And.intro hT' (And.intro h5 (And.intro h6 (And.intro h7 e2))))
    clear hH hT hA h1 h4 h5 h6 h7 h8 hcan hv hT' e2 e0
    simp only [zipI, clampCs] at *
    (repeat (first | (with_reducible apply zah; (focus ((conv => lhs; simp [Nat.testBit_eq_decide_div_mod_eq, *]) <;> exact rfl)); simp only [addFl]) | (with_reducible apply zau; (focus ((conv => lhs; simp [Nat.testBit_eq_decide_div_mod_eq, *]) <;> exact rfl)); (try simp only [Ops, Then, OutB]); (try dsimp only)) | ((with_reducible first | apply zai | apply zak | apply zag | apply zae | apply zac | apply zaj | apply zaf | apply zam | (apply zad; · simp [zaa, *]) | (apply zab; · simp [zaa, *])); try simp only [Then, Ops, reduceIte]) | simp only [Nat.reduceEqDiff, reduceIte, OutB, Then]))
    have hml : mb < H2.length := by obtain ⟨es, hm, _⟩ := HX.out.2.1.m; exact get_lt hm
    with_reducible refine zaz hC c.piles.length (by unfold fuelL; omega) (fun i st => ∃ hp, Yd c yb mb hp ∧ hp[1]? = some (.cells [.int .i64 0]) ∧ st = { tm := tmA 41 [(17, .int .i64 i), (16, .int .i64 c.piles.length), (7, .int .i64 (setOf (fun i => decide ((Clm.together c (2 ^ i)).lo = 0)) i)), (6, .int .i64 (setOf (fun i => decide ((Clm.together c (2 ^ i)).hi = 0)) i)), (5, .ptr yb 0), (4, .ptr 1 0)], df := [.call 70 [.ptr 1 0]], hp := hp, tc := [] }) ?_ ?_ ?_
    · refine ⟨H2, HX.out.2.1, HX.out.2.2.2.2, ?_⟩
      refine st_is ?_ ?_ ?_ ?_
      · simp [zan, zap, setOf]
      · rfl
      · rfl
      · simp
    · rintro i st hi ⟨hp, hY, h1p, rfl⟩
      obtain ⟨hT, _, h6, h7, _⟩ := HX.out
      obtain ⟨H3, tc3, k1, k2, k3, k4⟩ := hT hp yb mb hY (2 ^ i)
      have e3 : H3[1]? = some (.cells [.int .i64 0]) := k3.at h1p (fun h => by have := k2 _ h; simp at h7; omega)
      have hl3 : 2 ≤ H3.length := by have := get_lt e3; omega
      obtain ⟨s1, s2, s3⟩ := zir (d := i) (by omega)
      obtain ⟨t1, t2, t3⟩ := zzq (d := i) (by omega)
      have o1 := zpx i (by omega) _ (zcn (fun i => decide ((Clm.together c (2 ^ i)).hi = 0)) i)
      have o2 := zpx i (by omega) _ (zcn (fun i => decide ((Clm.together c (2 ^ i)).lo = 0)) i)
      have n1 : setOf (fun i => decide ((Clm.together c (2 ^ i)).hi = 0)) (i + 1) = if decide ((Clm.together c (2 ^ i)).hi = 0) = true then setOf (fun i => decide ((Clm.together c (2 ^ i)).hi = 0)) i + 2 ^ i else setOf (fun i => decide ((Clm.together c (2 ^ i)).hi = 0)) i := rfl
      have n2 : setOf (fun i => decide ((Clm.together c (2 ^ i)).lo = 0)) (i + 1) = if decide ((Clm.together c (2 ^ i)).lo = 0) = true then setOf (fun i => decide ((Clm.together c (2 ^ i)).lo = 0)) i + 2 ^ i else setOf (fun i => decide ((Clm.together c (2 ^ i)).lo = 0)) i := rfl
      have hwi : IntKind.i64.wrap (↑i + 1) = ↑i + 1 := zas (by omega) (by omega)
      have hY3 : ∀ K, Yd c yb mb (H3 ++ K) ∧ (H3 ++ K)[1]? = some (.cells [.int .i64 0]) := fun K => ⟨k4.app K, (Kp.app (S := []) H3 K).at e3 (by simp)⟩
      rw [n1, n2]
      have HN := hideP hY3
      clear n1 n2 hY3 k2 k3 k4 e3 hT h6 h7 HX h1p hY
      generalize Clm.together c (2 ^ i) = sp at *
      generalize setOf (fun i => decide ((Clm.together c (2 ^ i)).hi = 0)) i = A at *
      generalize setOf (fun i => decide ((Clm.together c (2 ^ i)).lo = 0)) i = B at *
      generalize 2 ^ i = P at s1 s2 s3 t1 t2 t3 o1 o2 k1 ⊢
      simp at o1 o2
      by_cases q1 : sp.hi = 0
      · by_cases q2 : sp.lo = 0
        · simp only [q1, q2, decide_true, if_true]
          (repeat (first | (with_reducible apply zah; (focus ((conv => lhs; simp [Nat.testBit_eq_decide_div_mod_eq, *]) <;> exact rfl)); simp only [addFl]) | (with_reducible apply zau; (focus ((conv => lhs; simp [Nat.testBit_eq_decide_div_mod_eq, *]) <;> exact rfl)); (try simp only [Ops, Then, OutB]); (try dsimp only)) | ((with_reducible first | apply zai | apply zak | apply zag | apply zae | apply zac | apply zaj | apply zaf | apply zam | (apply zad; · simp [zaa, *]) | (apply zab; · simp [zaa, *])); try simp only [Then, Ops, OutB]) | simp only [Nat.reduceEqDiff, reduceIte, OutB, Then]))
          refine ⟨_, (HN.out [.cells [.int .i64 sp.lo, .int .i64 sp.hi]]).1, (HN.out _).2, ?_⟩
          (refine st_is ?_ ?_ ?_ ?_; (focus (simp [zan, zap])); (focus rfl); (focus (first | rfl | (simp; done) | (simp [*]; done) | (simp; rfl) | (simp [*]; omega) | (simp; omega))); (focus (first | rfl | simp)))
        · simp only [q1, q2, decide_true, decide_false, if_true, Bool.false_eq_true, if_false]
          have q2' : (sp.lo == 0) = false := by simpa using q2
          (repeat (first | (with_reducible apply zah; (focus ((conv => lhs; simp [Nat.testBit_eq_decide_div_mod_eq, *]) <;> exact rfl)); simp only [addFl]) | (with_reducible apply zau; (focus ((conv => lhs; simp [Nat.testBit_eq_decide_div_mod_eq, *]) <;> exact rfl)); (try simp only [Ops, Then, OutB]); (try dsimp only)) | ((with_reducible first | apply zai | apply zak | apply zag | apply zae | apply zac | apply zaj | apply zaf | apply zam | (apply zad; · simp [zaa, *]) | (apply zab; · simp [zaa, *])); try simp only [Then, Ops, OutB]) | simp only [Nat.reduceEqDiff, reduceIte, OutB, Then]))
          refine ⟨_, (HN.out [.cells [.int .i64 sp.lo, .int .i64 sp.hi]]).1, (HN.out _).2, ?_⟩
          (refine st_is ?_ ?_ ?_ ?_; (focus (simp [zan, zap])); (focus rfl); (focus (first | rfl | (simp; done) | (simp [*]; done) | (simp; rfl) | (simp [*]; omega) | (simp; omega))); (focus (first | rfl | simp)))
      · have q1' : (sp.hi == 0) = false := by simpa using q1
        by_cases q2 : sp.lo = 0
        · simp only [q1, q2, decide_true, decide_false, if_true, Bool.false_eq_true, if_false]
          (repeat (first | (with_reducible apply zah; (focus ((conv => lhs; simp [Nat.testBit_eq_decide_div_mod_eq, *]) <;> exact rfl)); simp only [addFl]) | (with_reducible apply zau; (focus ((conv => lhs; simp [Nat.testBit_eq_decide_div_mod_eq, *]) <;> exact rfl)); (try simp only [Ops, Then, OutB]); (try dsimp only)) | ((with_reducible first | apply zai | apply zak | apply zag | apply zae | apply zac | apply zaj | apply zaf | apply zam | (apply zad; · simp [zaa, *]) | (apply zab; · simp [zaa, *])); try simp only [Then, Ops, OutB]) | simp only [Nat.reduceEqDiff, reduceIte, OutB, Then]))
          refine ⟨_, (HN.out [.cells [.int .i64 sp.lo, .int .i64 sp.hi]]).1, (HN.out _).2, ?_⟩
          (refine st_is ?_ ?_ ?_ ?_; (focus (simp [zan, zap])); (focus rfl); (focus (first | rfl | (simp; done) | (simp [*]; done) | (simp; rfl) | (simp [*]; omega) | (simp; omega))); (focus (first | rfl | simp)))
        · simp only [q1, q2, decide_false, Bool.false_eq_true, if_false]
          have q2' : (sp.lo == 0) = false := by simpa using q2
          (repeat (first | (with_reducible apply zah; (focus ((conv => lhs; simp [Nat.testBit_eq_decide_div_mod_eq, *]) <;> exact rfl)); simp only [addFl]) | (with_reducible apply zau; (focus ((conv => lhs; simp [Nat.testBit_eq_decide_div_mod_eq, *]) <;> exact rfl)); (try simp only [Ops, Then, OutB]); (try dsimp only)) | ((with_reducible first | apply zai | apply zak | apply zag | apply zae | apply zac | apply zaj | apply zaf | apply zam | (apply zad; · simp [zaa, *]) | (apply zab; · simp [zaa, *])); try simp only [Then, Ops, OutB]) | simp only [Nat.reduceEqDiff, reduceIte, OutB, Then]))
          refine ⟨_, (HN.out [.cells [.int .i64 sp.lo, .int .i64 sp.hi]]).1, (HN.out _).2, ?_⟩
          (refine st_is ?_ ?_ ?_ ?_; (focus (simp [zan, zap])); (focus rfl); (focus (first | rfl | (simp; done) | (simp [*]; done) | (simp; rfl) | (simp [*]; omega) | (simp; omega))); (focus (first | rfl | simp)))
    · rintro st ⟨hp, hY, h1p, rfl⟩
      have hS : setOf (fun i => decide ((Clm.together c (2 ^ i)).hi = 0)) c.piles.length = emptyS c := rfl
      have hS2 : setOf (fun i => decide ((Clm.together c (2 ^ i)).lo = 0)) c.piles.length = emptyP c := rfl
      rw [hS, hS2]
      obtain ⟨g0, g1, g2, g3, g4, g5⟩ := bk' h1p
      generalize emptyS c = A at *
      generalize emptyP c = B at *
      clear hS hS2 HX hY f0 f1 f2 f3 f4 f5
      (repeat (first | (with_reducible apply zah; (focus ((conv => lhs; simp [Nat.testBit_eq_decide_div_mod_eq, *]) <;> exact rfl)); simp only [addFl]) | (with_reducible apply zau; (focus ((conv => lhs; simp [Nat.testBit_eq_decide_div_mod_eq, *]) <;> exact rfl)); (try simp only [Ops, Then, OutB]); (try dsimp only)) | ((with_reducible first | apply zai | apply zak | apply zag | apply zae | apply zac | apply zaj | apply zaf | apply zam | (apply zad; · simp [zaa, *]) | (apply zab; · simp [zaa, *])); try simp only [Then, Ops, OutB, reduceIte]) | simp only [Nat.reduceEqDiff, reduceIte, OutB, Then]))
      refine zdp (v := .tup [.int .i64 A, .int .i64 B, .int .i64 0]) (.inl rfl) hdf rfl (by simp) (by simp only [resL, resOf, zal]; simp [resV, pickC, g0]) ⟨rfl, by simp⟩
end K
end Ev
end Go.Proofs.Ytimgnlellflciaa

/- Package clamp, gone through: the first set of which something is so. -/
namespace Go.Proofs.Ytimgnlellflciaa
open Go
namespace Ev
namespace K
attribute [local simp] ev1 wantG spineK spine float xnew xval xeff zaa zaq zbc zav zaw addFl cellsOf pickC alive slLen slFt binI maxA maxK minA minK aeqK aeqS AV.cells spA zar fillA setAt bitsI nat_nn zbg AV.plain apart
set_option maxRecDepth 100000
set_option maxHeartbeats 4000000
def SetF (call : CallF) (F : AV) (c : Clm.Cl) (yb mb : Nat) (H0 : List AB) (p : Nat → Bool) (L : List Nat) : Prop := ∀ G, Kp [mb] H0 G → Yd c yb mb G → ∀ s ∈ L, ∃ G' tc, call F [.int .u64 s] G = some (.ret (.bool (p s)), G', tc) ∧ (∀ j ∈ tc, j = mb) ∧ Kp tc G G' ∧ Yd c yb mb G'
def setE (s : Nat) : AV := .int .u64 s
def firstIx (p : Nat → Bool) (L : List Nat) : Int := match L.findIdx? p with | some i => i | none => -1
theorem zsg (C : Cfg) (hC : C.calm = true) (call : CallF) (c : Clm.Cl) (H : List AB) (yb mb : Nat) (hY : Yd c yb mb H) (F : AV) (p : Nat → Bool) (L : List Nat) (hL : L.length ≤ 1000) (hF : SetF call F c yb mb H p L) :
    Does (ev C call H.length none af79.body { tm := tmA af79.ntmps (zipI 0 [.vs 1 (L.map setE), F] []), df := [], hp := H, tc := [] })
      (Ends C H.length af79.res fun v hp tc => v = .int .i64 (firstIx p L) ∧ (∀ j ∈ tc, j = mb) ∧ Kp tc H hp ∧ Yd c yb mb hp) := by
  have hml : mb < H.length := by obtain ⟨es, hm, _⟩ := hY.m; exact get_lt hm
  have HF := hideP hF
  have HY := hideP hY
  clear hF hY
  unfold af79
  simp only [zipI]
  (repeat (first | (with_reducible apply zah; (focus ((conv => lhs; simp [Nat.testBit_eq_decide_div_mod_eq, *]) <;> exact rfl)); simp only [addFl]) | ((with_reducible first | apply zai | apply zak | apply zag | apply zae | apply zac | apply zaj | apply zaf | apply zam | (apply zad; · simp [zaa, *]) | (apply zab; · simp [zaa, *])); try simp only [Then, Ops]) | simp only [Nat.reduceEqDiff, reduceIte, OutB, Then]))
  with_reducible refine zaz hC L.length (by unfold fuelL; omega) (fun i st => ∃ hp tc, (∀ j ∈ tc, j = mb) ∧ Kp tc H hp ∧ Yd c yb mb hp ∧ (∀ j s, j < i → L[j]? = some s → p s = false) ∧ st = { tm := tmA 19 [(8, .int .i64 i), (7, .int .i64 L.length), (1, F), (0, .vs 1 (L.map setE))], df := [], hp := hp, tc := tc }) ?_ ?_ ?_
  · refine ⟨H, [], by simp, Kp.refl _ _, HY.out, by simp, ?_⟩
    (refine st_is ?_ ?_ ?_ ?_; (focus (simp [zan, zap])); (focus rfl); (focus (first | rfl | (simp; done) | (simp [*]; done) | (simp; rfl) | (simp [*]; omega) | (simp; omega))); (focus (first | rfl | simp)))
  · rintro i st hi ⟨hp, tc, h1, h2, h3, h4, rfl⟩
    have hgs : L[i]? = some L[i] := List.getElem?_eq_getElem hi
    generalize L[i] = s at hgs
    have hgs' := ge_of hgs
    obtain ⟨hp', tc', k1, k2, k3, k4⟩ := HF.out hp (h2.mono fun b _ h => by simpa using h1 b h) h3 s (List.mem_of_getElem? hgs)
    have hwi : IntKind.i64.wrap (↑i + 1) = ↑i + 1 := zas (by omega) (by omega)
    have htc : ∀ j ∈ tc'.filter (· < H.length) ++ tc, j = mb := by
      intro j hj
      rcases List.mem_append.1 hj with h | h
      · exact k2 j (List.mem_filter.1 h).1
      · exact h1 j h
    have hkp := h2.trans2 k3
    have hix : p s = true → firstIx p L = i := by
      intro hps
      unfold firstIx
      have : L.findIdx? p = some i := by
        rw [List.findIdx?_eq_some_iff_getElem]
        refine ⟨hi, ?_, fun j hj => ?_⟩
        · rw [hgs' hi]; exact hps
        · have := h4 j (L[j]'(by omega)) hj (List.getElem?_eq_getElem _)
          simpa using this
      rw [this]
    have hnext : p s = false → ∀ j t, j < i + 1 → L[j]? = some t → p t = false := by
      intro hps j t hj ht
      by_cases h : j = i
      · subst h; rw [hgs] at ht; cases ht; exact hps
      · exact h4 j t (by omega) ht
    have HX := hideP (And.intro hix hnext)
    clear hix hnext h1 h2 h3 h4 k2 k3
    cases hps : p s with
    | true =>
      rw [hps] at k1
      (repeat (first | (with_reducible apply zah; (focus ((conv => lhs; simp [setE, Nat.testBit_eq_decide_div_mod_eq, *]) <;> exact rfl)); simp only [addFl]) | ((with_reducible first | apply zai | apply zak | apply zag | apply zae | apply zac | apply zaj | apply zaf | apply zam | (apply zad; · simp [zaa, *]) | (apply zab; · simp [zaa, *])); try simp only [Then, Ops, OutB]) | simp only [Nat.reduceEqDiff, reduceIte, OutB, Then]))
      refine zao (v := .int .i64 (firstIx p L)) (.inl rfl) rfl hkp.len (by rw [HX.out.1 hps]; exact (by simp only [resL, resOf, zal]; simp [resV, *])) ⟨rfl, htc, hkp, k4⟩
    | false =>
      rw [hps] at k1
      (repeat (first | (with_reducible apply zah; (focus ((conv => lhs; simp [setE, Nat.testBit_eq_decide_div_mod_eq, *]) <;> exact rfl)); simp only [addFl]) | ((with_reducible first | apply zai | apply zak | apply zag | apply zae | apply zac | apply zaj | apply zaf | apply zam | (apply zad; · simp [zaa, *]) | (apply zab; · simp [zaa, *])); try simp only [Then, Ops, OutB]) | simp only [Nat.reduceEqDiff, reduceIte, OutB, Then]))
      refine ⟨_, _, htc, hkp, k4, HX.out.2 hps, ?_⟩
      (refine st_is ?_ ?_ ?_ ?_; (focus (simp [zan, zap])); (focus rfl); (focus (first | rfl | (simp; done) | (simp [*]; done) | (simp; rfl) | (simp [*]; omega) | (simp; omega))); (focus (first | rfl | simp)))
  · rintro st ⟨hp, tc, h1, h2, h3, h4, rfl⟩
    have hix : firstIx p L = -1 := by
      unfold firstIx
      have : L.findIdx? p = none := by
        rw [List.findIdx?_eq_none_iff]
        intro s hs
        obtain ⟨j, hj⟩ := List.mem_iff_getElem?.1 hs
        exact h4 j s (List.getElem?_eq_some_iff.1 hj).1 hj
      rw [this]
    have HX := hideP (And.intro h1 (And.intro h2 h3))
    rw [hix]
    clear h1 h2 h3 h4 hix
    (repeat (first | (with_reducible apply zah; (focus ((conv => lhs; simp [Nat.testBit_eq_decide_div_mod_eq, *]) <;> exact rfl)); simp only [addFl]) | ((with_reducible first | apply zai | apply zak | apply zag | apply zae | apply zac | apply zaj | apply zaf | apply zam | (apply zad; · simp [zaa, *]) | (apply zab; · simp [zaa, *])); try simp only [Then, Ops, OutB, reduceIte]) | simp only [Nat.reduceEqDiff, reduceIte, OutB, Then]))
    obtain ⟨h1, h2, h3⟩ := HX.out
    exact zao (v := .int .i64 (-1)) (.inl rfl) rfl h2.len (by simp only [resL, resOf, zal]; simp [resV, *]) ⟨rfl, h1, h2, h3⟩
theorem zso (p : Nat → Bool) (L : List Nat) : (L.find? p = none ∧ firstIx p L = -1) ∨ ∃ i s, L.find? p = some s ∧ firstIx p L = (i : Nat) ∧ L[i]? = some s := by
  unfold firstIx
  cases h : L.findIdx? p with
  | none =>
    refine .inl ⟨?_, rfl⟩
    rw [List.findIdx?_eq_none_iff] at h
    rw [List.find?_eq_none]
    intro x hx
    simp [h x hx]
  | some i =>
    obtain ⟨h1, h2, h3⟩ := List.findIdx?_eq_some_iff_getElem.1 h
    refine .inr ⟨i, L[i], ?_, rfl, List.getElem?_eq_getElem h1⟩
    rw [List.find?_eq_some_iff_getElem]
    exact ⟨h2, i, h1, rfl, fun j hj => by simpa using h3 j hj⟩
def IndexCall (call : CallF) (c : Clm.Cl) (call1 : CallF) : Prop := ∀ (H : List AB) (yb mb : Nat), Yd c yb mb H → ∀ (F : AV) (p : Nat → Bool) (L : List Nat), L.length ≤ 1000 → SetF call1 F c yb mb H p L →
  ∃ H' tc, call (.fn (.func 79) [] []) [.vs 1 (L.map setE), F] H = some (.ret (.int .i64 (firstIx p L)), H', tc) ∧ (∀ j ∈ tc, j = mb) ∧ Kp tc H H' ∧ Yd c yb mb H'
theorem zsm (C : Cfg) (call call1 : CallF) (hM : MustC call) (c : Clm.Cl) (hI : IndexCall call c call1) (H : List AB) (yb mb : Nat) (hY : Yd c yb mb H) (fl : Fn) (fa fb : List AV) (p : Nat → Bool) (L : List Nat) (hL : L.length ≤ 1000) (hF : SetF call1 (.fn fl fa fb) c yb mb H p L) :
    Does (ev C call H.length none af56.body { tm := tmA af56.ntmps (zipI 0 [.vs 1 (L.map setE), .agg [.fn fl fa fb]] []), df := [], hp := H, tc := [] })
      (Fin C H.length af56 fun x hp tc => (∀ j ∈ tc, j = mb) ∧ Kp tc H hp ∧ Yd c yb mb hp ∧ x = match L.find? p with | some s => .ret (.int .u64 s) | none => .pan (stopV 4)) := by
  have hml : mb < H.length := by obtain ⟨es, hm, _⟩ := hY.m; exact get_lt hm
  obtain ⟨H1, tc1, c1, c2, c3, c4⟩ := hI (H ++ [.cells [.fn fl fa fb]]) yb mb (hY.app _) (.fn fl fa fb) p L hL (fun G hG => hF G ((Kp.app _ _).trans hG))
  have hmt := hM.t
  have hmf := hM.f
  have hf : tc1.filter (· < H.length) = tc1 := List.filter_eq_self.2 fun j hj => by have := c2 j hj; simp; omega
  have HA := hideP (And.intro c2 (And.intro c3.pre c4))
  have hff := zso p L
  clear hI hF hY hM c2 c3 c4
  unfold af56
  simp only [zipI]
  rcases hff with ⟨h1, h2⟩ | ⟨i, s, h1, h2, h3⟩
  · rw [h1]
    rw [h2] at c1
    clear h1 h2
    (repeat (first | (with_reducible apply zah; (focus ((conv => lhs; simp [Nat.testBit_eq_decide_div_mod_eq, *]) <;> exact rfl)); simp only [addFl]) | (with_reducible apply zau; (focus ((conv => lhs; simp [Nat.testBit_eq_decide_div_mod_eq, *]) <;> exact rfl)); (try simp only [Ops, Then]); (try dsimp only)) | ((with_reducible first | apply zai | apply zak | apply zag | apply zae | apply zac | apply zaj | apply zaf | apply zam | (apply zad; · simp [zaa, *]) | (apply zab; · simp [zaa, *])); try simp only [Then, Ops]) | simp only [Nat.reduceEqDiff, reduceIte, OutB, Then]))
    obtain ⟨c2, c3, c4⟩ := HA.out
    exact zbp rfl c3.len ⟨c2, c3, c4, rfl⟩
  · rw [h1]
    rw [h2] at c1
    have h3' := ge_of h3
    have h4 := (List.getElem?_eq_some_iff.1 h3).1
    clear h1 h2
    (repeat (first | (with_reducible apply zah; (focus ((conv => lhs; simp [setE, Nat.testBit_eq_decide_div_mod_eq, *]) <;> exact rfl)); simp only [addFl]) | (with_reducible apply zau; (focus ((conv => lhs; simp [setE, Nat.testBit_eq_decide_div_mod_eq, *]) <;> exact rfl)); (try simp only [Ops, Then, OutB]); (try dsimp only)) | ((with_reducible first | apply zai | apply zak | apply zag | apply zae | apply zac | apply zaj | apply zaf | apply zam | (apply zad; · simp [zaa, *]) | (apply zab; · simp [zaa, *])); try simp only [Then, Ops]) | simp only [Nat.reduceEqDiff, reduceIte, OutB, Then]))
    obtain ⟨c2, c3, c4⟩ := HA.out
    exact zji (v := .int .u64 s) (.inl rfl) rfl c3.len (by simp only [resL, resOf, zal]; simp [resV, *]) ⟨c2, c3, c4, rfl⟩
end K
end Ev
end Go.Proofs.Ytimgnlellflciaa

/- Package clamp, gone through: Share. -/
namespace Go.Proofs.Ytimgnlellflciaa
open Go
namespace Ev
namespace K
attribute [local simp] ev1 wantG spineK spine float xnew xval xeff zaa zaq zbc zav zaw addFl cellsOf pickC alive slLen slFt binI maxA maxK minA minK aeqK aeqS AV.cells spA zar fillA setAt bitsI nat_nn zbg AV.plain apart
set_option maxRecDepth 100000
set_option maxHeartbeats 4000000
def SetsC (call : CallF) : Prop := ∀ (H : List AB) (k : Nat), k ≤ 6 → call (.fn (.func 57) [] []) [.int .i64 k] H = some (.ret (.vs 1 ((Clm.setsBy k).map setE)), H, [])
def FirstC (call call1 : CallF) (c : Clm.Cl) : Prop := ∀ (H : List AB) (yb mb : Nat), Yd c yb mb H → ∀ (fl : Fn) (fa fb : List AV) (p : Nat → Bool) (L : List Nat), L.length ≤ 1000 → SetF call1 (.fn fl fa fb) c yb mb H p L →
  ∃ H' tc, (∀ j ∈ tc, j = mb) ∧ Kp tc H H' ∧ Yd c yb mb H' ∧ call (.fn (.func 56) [] []) [.vs 1 (L.map setE), .agg [.fn fl fa fb]] H = some (match L.find? p with | some s => .ret (.int .u64 s) | none => .pan (stopV 4), H', tc)
theorem znx (C : Cfg) (call : CallF) (c : Clm.Cl) (hT : TogCall call c) (H : List AB) (yb mb : Nat) (hY : Yd c yb mb H) (set : Nat) (n : Int) (b1 b2 : Nat) (hb1 : H[b1]? = some (.cells [.ptr yb 0])) (hb2 : H[b2]? = some (.cells [.int .i64 n])) (hne : b1 ≠ mb ∧ b2 ≠ mb) :
    Does (ev C call H.length none af58.body { tm := tmA af58.ntmps (zipI 0 [.int .u64 set, .ptr b1 0, .ptr b2 0] []), df := [], hp := H, tc := [] })
      (Ends C H.length af58.res fun v hp tc => v = .bool (decide ((Clm.together c set).lo ≥ n)) ∧ (∀ j ∈ tc, j = mb) ∧ Kp tc H hp ∧ Yd c yb mb hp) := by
  have hml : mb < H.length := by obtain ⟨es, hm, _⟩ := hY.m; exact get_lt hm
  obtain ⟨H1, tc1, c1, c2, c3, c4⟩ := hT H yb mb hY set
  obtain ⟨f0, f1, f2, f3, f4, f5⟩ := bk' hb1
  obtain ⟨g0, g1, g2, g3, g4, g5⟩ := bk' hb2
  have hf : tc1.filter (· < H.length) = tc1 := List.filter_eq_self.2 fun j hj => by have := c2 j hj; simp; omega
  have t1 : ¬ b1 ∈ tc1 := fun h => hne.1 (c2 _ h)
  have t2 : ¬ b2 ∈ tc1 := fun h => hne.2 (c2 _ h)
  have HA := hideP (And.intro c2 (And.intro c3 c4))
  clear hT hY hb1 hb2 hne c2 c3 c4
  generalize Clm.together c set = sp at *
  unfold af58
  simp only [zipI]
  (repeat (first | (with_reducible apply zah; (focus ((conv => lhs; simp [Nat.testBit_eq_decide_div_mod_eq, *]) <;> exact rfl)); simp only [addFl]) | ((with_reducible first | apply zai | apply zak | apply zag | apply zae | apply zac | apply zaj | apply zaf | apply zam | (apply zad; · simp [zaa, *]) | (apply zab; · simp [zaa, *])); try simp only [Then, Ops]) | simp only [Nat.reduceEqDiff, reduceIte, OutB, Then]))
  obtain ⟨c2, c3, c4⟩ := HA.out
  exact zao (v := .bool (decide (sp.lo ≥ n))) (.inl rfl) rfl c3.len (by simp only [resL, resOf, zal]; simp [resV, *]) ⟨rfl, c2, c3, c4⟩
theorem zrk (C : Cfg) (call : CallF) (hA : AreSodsC call) (H : List AB) (v : AV) (s : Int) (b2 : Nat) (hb2 : H[b2]? = some (.cells [.int .i64 s])) :
    Does (ev C call H.length none af55.body { tm := tmA af55.ntmps (zipI 0 [v, .ptr b2 0] []), df := [], hp := H, tc := [] })
      (Ends C H.length af55.res fun v _hp tc => v = .bool (isS s) ∧ tc = []) := by
  have ha := fun H => hA H s
  obtain ⟨g0, g1, g2, g3, g4, g5⟩ := bk' hb2
  unfold isS
  generalize decide (0 ≤ s ∧ s ≤ 20000) = b2 at *
  clear hA
  unfold af55
  simp only [zipI]
  (repeat (first | (with_reducible apply zah; (focus ((conv => lhs; simp [Nat.testBit_eq_decide_div_mod_eq, *]) <;> exact rfl)); simp only [addFl]) | ((with_reducible first | apply zai | apply zak | apply zag | apply zae | apply zac | apply zaj | apply zaf | apply zam | (apply zad; · simp [zaa, *]) | (apply zab; · simp [zaa, *])); try simp only [Then, Ops]) | simp only [Nat.reduceEqDiff, reduceIte, OutB, Then]))
  exact zao (v := .bool b2) (.inl rfl) rfl (by simp) (by simp only [resL, resOf, zal]; simp [resV, *]) ⟨rfl, rfl⟩
def shareP (c : Clm.Cl) (n : Int) (set : Nat) : Bool := decide ((Clm.together c set).lo ≥ n)
def shareF (c : Clm.Cl) (n : Int) : Option Nat := (Clm.setsBy c.piles.length).find? (shareP c n)
def shareE (c : Clm.Cl) (n : Int) : Int := if errOf c (isS n) = 0 then (match shareF c n with | some _ => 0 | none => 4) else errOf c (isS n)
def shareV (c : Clm.Cl) (n : Int) : Int := if errOf c (isS n) = 0 then (match shareF c n with | some s => (s : Int) | none => 0) else 0
def shareR (c : Clm.Cl) (n : Int) : AV := .tup [.int .i64 (shareV c n), .int .i64 (shareE c n)]
theorem zrj (C : Cfg) (call call1 call2 : CallF) (c : Clm.Cl) (hdf : C.dfk 54 = some (102, true)) (hH : HeadCall call call2 c) (hSe : SetsC call) (hFi : Clm.valid c = true → FirstC call call1 c) (s : Int)
    (hF : Clm.valid c = true → ∀ G yb mb, Kp [] [.cells (clampCs c), .cells [.int .i64 s], .cells [.int .i64 0]] G → Yd c yb mb G → call2 (.fn (.func 55) [] [.ptr 1 0]) [.ptr yb 0] G = some (.ret (.bool (isS s)), G, []))
    (hG : Clm.valid c = true → ∀ H yb mb b1 b2, H[b1]? = some (.cells [.ptr yb 0]) → H[b2]? = some (.cells [.int .i64 s]) → b1 ≠ mb → b2 ≠ mb → ∀ L, SetF call1 (.fn (.func 58) [] [.ptr b1 0, .ptr b2 0]) c yb mb H (shareP c s) L) :
    Does (ev C call ([] : List AB).length none af15.body { tm := tmA af15.ntmps (zipI 0 [.agg (clampCs c), .int .i64 s] []), df := [], hp := [], tc := [] })
      (Fin C ([] : List AB).length af15 (Ans (shareR c s))) := by
  have hh := hH [.cells (clampCs c), .cells [.int .i64 s], .cells [.int .i64 0]] (.fn (.func 55) [] [.ptr 1 0]) _ hF
  unfold shareR shareV shareE
  unfold af15
  rcases hh with ⟨h1, h2, h3⟩ | ⟨h1, H1, yb, H2, tc, h2, h3, h4, h5⟩ | ⟨h1, H1, yb, mb, H2, tc, h2, h3, h4, h5, h6, h7, h8⟩
  · generalize errOf c (isS s) = e at *
    simp only [if_neg h1]
    clear hH hF hG hSe hFi h1 h2
    simp only [zipI, clampCs, stopV] at *
    (repeat (first | (with_reducible apply zah; (focus ((conv => lhs; simp [Nat.testBit_eq_decide_div_mod_eq, *]) <;> exact rfl)); simp only [addFl]) | (with_reducible apply zau; (focus ((conv => lhs; simp [Nat.testBit_eq_decide_div_mod_eq, *]) <;> exact rfl)); (try simp only [Ops, Then]); (try dsimp only)) | ((with_reducible first | apply zai | apply zak | apply zag | apply zae | apply zac | apply zaj | apply zaf | apply zam | (apply zad; · simp [zaa, *]) | (apply zab; · simp [zaa, *])); try simp only [Then, Ops]) | simp only [Nat.reduceEqDiff, reduceIte, OutB, Then]))
    refine zcg hdf rfl rfl (by simp only [resL, resOf, zal]; simp [resV, pickC]; rfl) ⟨by simp, by simp⟩
  · rw [h1]
    simp only [if_neg (show ¬ ((10 : Int) = 0) by decide)]
    have e2 : H2[2]? = some (.cells [.int .i64 0]) := h4.at rfl (by simp)
    clear hH hF hG hSe hFi h1 h4 h5
    simp only [zipI, clampCs, stopV] at *
    (repeat (first | (with_reducible apply zah; (focus ((conv => lhs; simp [Nat.testBit_eq_decide_div_mod_eq, *]) <;> exact rfl)); simp only [addFl]) | (with_reducible apply zau; (focus ((conv => lhs; simp [Nat.testBit_eq_decide_div_mod_eq, *]) <;> exact rfl)); (try simp only [Ops, Then]); (try dsimp only)) | ((with_reducible first | apply zai | apply zak | apply zag | apply zae | apply zac | apply zaj | apply zaf | apply zam | (apply zad; · simp [zaa, *]) | (apply zab; · simp [zaa, *])); try simp only [Then, Ops]) | simp only [Nat.reduceEqDiff, reduceIte, OutB, Then]))
    refine zcg hdf rfl e2 (by simp only [resL, resOf, zal]; simp [resV, pickC, List.getElem?_set_self (get_lt e2)]; rfl) ⟨by simp, by simp⟩
  · obtain ⟨hv, hist, hcan⟩ := err_ok h1
    rw [h1]
    simp only
    have hpn := ((Clm.valid_iff c).1 hv).piles
    have hml : mb < H2.length := by obtain ⟨es, hm, _⟩ := h5.m; exact get_lt hm
    have hl2 := h4.len
    simp only [List.length_cons, List.length_nil] at hl2 h6 h7
    have e0 : H2[0]? = some (.cells (clampCs c)) := h4.at rfl (by simp)
    have hse := fun H => hSe H c.piles.length (by omega)
    have hlen : (Clm.setsBy c.piles.length).length ≤ 1000 := by
      rw [Clm.sets_len (by omega)]
      have : 2 ^ c.piles.length ≤ 2 ^ 4 := Nat.pow_le_pow_right (by decide) hpn.2
      omega
    obtain ⟨H3, tc3, k1, k2, k3, k4⟩ := hFi hv (H2 ++ [.cells [.ptr yb 0]]) yb mb (h5.app _) (.func 58) [] [.ptr H2.length 0, .ptr 1 0] (shareP c s) (Clm.setsBy c.piles.length) hlen (hG hv _ yb mb H2.length 1 (by simp) ((Kp.app (S := []) _ _).at (h4.at rfl (by simp)) (by simp)) (by omega) (by omega) _)
    have e3 : H3[2]? = some (.cells [.int .i64 0]) := k2.at ((Kp.app (S := []) _ _).at (h4.at rfl (by simp)) (by simp)) (fun h => by have := k1 _ h; omega)
    have hfd : (Clm.setsBy c.piles.length).find? (shareP c s) = shareF c s := rfl
    have hsm : ∀ S, shareF c s = some S → S < 2 ^ c.piles.length := fun S h => (Clm.mem_sets (by omega) S).1 (List.mem_of_find?_eq_some h)
    rw [hfd] at k4
    obtain ⟨f0, f1, f2, f3, f4, f5⟩ := bk' e0
    obtain ⟨g0, g1, g2, g3, g4, g5⟩ := bk' e3
    generalize Clm.setsBy c.piles.length = SB at *
    have hp2 : 2 ^ c.piles.length ≤ 2 ^ 4 := Nat.pow_le_pow_right (by decide) hpn.2
    clear hH hF hG hSe hFi h1 h4 h5 h6 h7 h8 hcan hv k1 k2 k3 hlen hfd hist
    simp only [zipI, clampCs] at *
    cases hsf : shareF c s with
    | none =>
      rw [hsf] at k4
      simp only [stopV] at *
      clear hsm
      (repeat (first | (with_reducible apply zah; (focus ((conv => lhs; simp [Nat.testBit_eq_decide_div_mod_eq, *]) <;> exact rfl)); simp only [addFl]) | (with_reducible apply zau; (focus ((conv => lhs; simp [Nat.testBit_eq_decide_div_mod_eq, *]) <;> exact rfl)); (try simp only [Ops, Then]); (try dsimp only)) | ((with_reducible first | apply zai | apply zak | apply zag | apply zae | apply zac | apply zaj | apply zaf | apply zam | (apply zad; · simp [zaa, *]) | (apply zab; · simp [zaa, *])); try simp only [Then, Ops, reduceIte]) | simp only [Nat.reduceEqDiff, reduceIte, OutB, Then]))
      refine zcg hdf rfl e3 (by simp only [resL, resOf, zal]; simp [resV, pickC, List.getElem?_set_self (get_lt e3)]) ⟨rfl, by simp⟩
    | some S =>
      rw [hsf] at k4
      have hS := hsm S hsf
      have hw : IntKind.i64.wrap (S : Int) = S := zas (by omega) (by omega)
      clear hsm hS hp2
      simp only at k4 ⊢
      (repeat (first | (with_reducible apply zah; (focus ((conv => lhs; simp [Nat.testBit_eq_decide_div_mod_eq, *]) <;> exact rfl)); simp only [addFl]) | (with_reducible apply zau; (focus ((conv => lhs; simp [Nat.testBit_eq_decide_div_mod_eq, *]) <;> exact rfl)); (try simp only [Ops, Then, OutB]); (try dsimp only)) | ((with_reducible first | apply zai | apply zak | apply zag | apply zae | apply zac | apply zaj | apply zaf | apply zam | (apply zad; · simp [zaa, *]) | (apply zab; · simp [zaa, *])); try simp only [Then, Ops, reduceIte]) | simp only [Nat.reduceEqDiff, reduceIte, OutB, Then]))
      refine zdp (v := .tup [.int .i64 S, .int .i64 0]) (.inl rfl) hdf rfl (by simp) (by simp only [resL, resOf, zal]; simp [resV, pickC, g0]) ⟨rfl, by simp⟩
end K
end Ev
end Go.Proofs.Ytimgnlellflciaa
