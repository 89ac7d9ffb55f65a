/- Package clamp, gone through: the hull of something, over all packs. -/
import Derived.Test.YtimgnlellflciaaCmPB
/- Package clamp, gone through: the log of a clamp, which is kept. -/
namespace Go.Proofs.Ytimgnlellflciaa
open Go
namespace Ev
namespace K
attribute [local simp] ev1 wantG spineK spine float xnew xval xeff zaa zaq zbc zav zaw addFl cellsOf pickC alive slLen slFt binI maxA maxK minA minK aeqK aeqS AV.cells spA zar fillA setAt bitsI nat_nn zbg AV.plain apart
set_option maxRecDepth 100000
set_option maxHeartbeats 4000000
def zero14 : List AV := [.int .i64 0, .int .i64 0, .int .i64 0, .int .i64 0, .int .i64 0, .int .i64 0, .int .i64 0, .int .i64 0, .int .i64 0, .int .i64 0, .int .i64 0, .int .i64 0, .int .i64 0, .int .i64 0]
def EventsC (call : CallF) (c : Clm.Cl) : Prop := ∀ (H : List AB) (yb : Nat) (w : AV), H[yb]? = some (.cells (clampCs c ++ [w])) → ∀ (number : Int) (counts : Nat),
  ∃ J, call (.fn (.func 97) [] []) [.ptr yb 0, .int .i64 number, .int .u64 counts] H = some (.ret (.sl H.length 0 c.events.length 1), H ++ .cells ((Clm.befell c number counts).map bfA) :: J, [])
def SodsC (call : CallF) : Prop := ∀ (H : List AB) (i l w h p : Int), 0 ≤ l → l ≤ 10 → 0 ≤ w → w ≤ 10 → 0 ≤ h → h ≤ 10 → 0 ≤ p → p ≤ 10 →
  call (.fn (.func 41) [] []) [.agg [.int .i64 i, .int .i64 l, .int .i64 w, .int .i64 h, .int .i64 p]] H = some (.ret (.int .i64 (l * w * h * p)), H, [])
structure EvtC (call : CallF) : Prop where
  sa : ∀ H (s k : Clm.Sp), Clm.Low k → (Clm.Bf.sale s).low → call (.fn (.func 117) [] []) [.agg [.int .i64 s.lo, .int .i64 s.hi], .agg [.int .i64 k.lo, .int .i64 k.hi]] H = some (.ret (.agg [.int .i64 ((Clm.Bf.sale s).after k).lo, .int .i64 ((Clm.Bf.sale s).after k).hi]), H, [])
  sb : ∀ H (s k : Clm.Sp), Clm.Low k → (Clm.Bf.sale s).low → call (.fn (.func 118) [] []) [.agg [.int .i64 s.lo, .int .i64 s.hi], .agg [.int .i64 k.lo, .int .i64 k.hi]] H = some (.ret (.agg [.int .i64 ((Clm.Bf.sale s).before k).lo, .int .i64 ((Clm.Bf.sale s).before k).hi]), H, [])
  ca : ∀ H (s k : Clm.Sp), call (.fn (.func 119) [] []) [.agg [.int .i64 s.lo, .int .i64 s.hi], .agg [.int .i64 k.lo, .int .i64 k.hi]] H = some (.ret (.agg [.int .i64 ((Clm.Bf.count s).after k).lo, .int .i64 ((Clm.Bf.count s).after k).hi]), H, [])
  cb : ∀ H (s k : Clm.Sp), call (.fn (.func 120) [] []) [.agg [.int .i64 s.lo, .int .i64 s.hi], .agg [.int .i64 k.lo, .int .i64 k.hi]] H = some (.ret (.agg [.int .i64 ((Clm.Bf.count s).before k).lo, .int .i64 ((Clm.Bf.count s).before k).hi]), H, [])
theorem yah (C : Cfg) (call : CallF) (c : Clm.Cl) (H : List AB) (yb mb : Nat) (hY : Yd c yb mb H) (q : Qn) (es : List (AV × AV)) (hm : H[mb]? = some (.map es)) (hf : findA (.agg [true, true, true, true, true, true]) (qA q) es = some (some (logA c q))) :
    Does (ev C call H.length none af93.body { tm := tmA af93.ntmps (zipI 0 [.ptr yb 0, qA q] []), df := [], hp := H, tc := [] }) (Ends C H.length af93.res fun v _hp tc => v = logA c q ∧ tc = []) := by
  obtain ⟨y0, y1, y2, y3, y4⟩ := bk hY.y
  obtain ⟨m0, m1, m2, m3, m4⟩ := bk hm
  unfold af93
  have hlen := zdl (logF c q)
  have hall := zil (logF c q)
  have hpl := zhn (logF c q)
  simp only [zipI, clampCs, List.cons_append, List.nil_append, qA, logA] at *
  generalize arr7 (logF c q) = R at *
  (repeat (first | (with_reducible apply zah; (focus ((conv => lhs; simp [keyOK, Nat.testBit_eq_decide_div_mod_eq, *]) <;> exact rfl)); simp only [addFl]) | ((with_reducible first | apply zai | apply zak | apply zag | apply zae | apply zac | apply zaj | apply zaf | apply zam | (apply zad; · simp [zaa, *]) | (apply zab; · simp [zaa, *])); try simp only [Then, Ops]) | simp only [Nat.reduceEqDiff, reduceIte, OutB, Then]))
  exact zao (.inl rfl) rfl (by simp) (by simp only [resL, resOf, zal]; simp [pickC, resV, *]) ⟨rfl, rfl⟩
theorem zyn (C : Cfg) (hC : C.calm = true) (call : CallF) (c : Clm.Cl) (hc : Clm.Fine c) (hEv : EventsC call c) (hSd : SodsC call) (hEt : EvtC call) (hB : BothC call) (H : List AB) (yb mb : Nat) (hY : Yd c yb mb H) (q : Qn) (hq : QOk q) (es es' : List (AV × AV)) (hm : H[mb]? = some (.map es)) (hf : findA (.agg [true, true, true, true, true, true]) (qA q) es = some none) (hput : putA (.agg [true, true, true, true, true, true]) (qA q) (logA c q) es = some es') :
    Does (ev C call H.length none af93.body { tm := tmA af93.ntmps (zipI 0 [.ptr yb 0, qA q] []), df := [], hp := H, tc := [] }) (Ends C H.length af93.res fun v hp tc => v = logA c q ∧ tc = [mb] ∧ hp[mb]? = some (.map es')) := by
  obtain ⟨y0, y1, y2, y3, y4⟩ := bk hY.y
  obtain ⟨m0, m1, m2, m3, m4⟩ := bk hm
  have hev : ∀ K, ∃ J, call (.fn (.func 97) [] []) [.ptr yb 0, .int .i64 q.num, .int .u64 q.counts] (H ++ K) = some (.ret (.sl (H ++ K).length 0 c.events.length 1), (H ++ K) ++ .cells ((Clm.befell c q.num q.counts).map bfA) :: J, []) := fun K => hEv _ yb _ ((hY.app K).y) q.num q.counts
  obtain ⟨J, hJ⟩ := Classical.skolem.1 hev
  clear hev
  have hsd := fun H => hSd H q.num q.size.l q.size.w q.size.h q.pack hq.l0 hq.l1 hq.w0 hq.w1 hq.h0 hq.h1 hq.p0 (by have := hq.p1; omega)
  have hsq := hq.sods
  have hsq' : q.size.l * q.size.w * q.size.h * q.pack = q.sods := rfl
  rw [hsq'] at hsd
  have hn := hc.events
  have hput' := hideP hput
  unfold af93
  simp only [zipI, clampCs, List.cons_append, List.nil_append, qA, List.append_assoc, List.length_append] at *
  clear hEv hSd hsq' hput
  (repeat (first | (with_reducible apply zah; (focus ((conv => lhs; simp [keyOK, Nat.testBit_eq_decide_div_mod_eq, *]) <;> exact rfl)); simp only [addFl]) | ((with_reducible first | apply zai | apply zak | apply zag | apply zae | apply zac | apply zaj | apply zaf | apply zam | (apply zad; · simp [zaa, *]) | (apply zab; · simp [zaa, *])); try simp only [Then, Ops]) | simp only [Nat.reduceEqDiff, reduceIte, OutB, Then]))
  obtain ⟨J0, hJ0⟩ : ∃ J0, J0 = J [.cells [.int .i64 q.num, .int .i64 q.size.l, .int .i64 q.size.w, .int .i64 q.size.h, .int .i64 q.pack, .int .u64 q.counts], .cells zero14, .cells zero14] := ⟨_, rfl⟩
  obtain ⟨G, hG⟩ : ∃ G, G = H ++ .cells [.int .i64 q.num, .int .i64 q.size.l, .int .i64 q.size.w, .int .i64 q.size.h, .int .i64 q.pack, .int .u64 q.counts] :: .cells zero14 :: .cells zero14 :: .cells ((Clm.befell c q.num q.counts).map bfA) :: J0 := ⟨_, rfl⟩
  have e0 : G[yb]? = some (.cells [.vs 6 (c.piles.map pileE), .int .i64 c.pack.lo, .int .i64 c.pack.hi, .vs 4 (c.events.map evtE), .map mb]) := by rw [hG]; exact (List.getElem?_append_left y0).trans hY.y
  have e1 : G[mb]? = some (.map es) := by rw [hG]; exact (List.getElem?_append_left m0).trans hm
  have e2 : G[H.length]? = some (.cells [.int .i64 q.num, .int .i64 q.size.l, .int .i64 q.size.w, .int .i64 q.size.h, .int .i64 q.pack, .int .u64 q.counts]) := by rw [hG]; simp
  have e3 : G[H.length + 1]? = some (.cells zero14) := by rw [hG]; simp
  have e4 : G[H.length + 3]? = some (.cells ((Clm.befell c q.num q.counts).map bfA)) := by rw [hG]; simp
  have gl : G.length = H.length + (J0.length + 1 + 1 + 1 + 1) := by rw [hG]; simp
  clear y0 y1 y2 y3 y4 m0 m1 m2 m3 m4
  obtain ⟨y0, y1, y2, y3, y4⟩ := bk e0
  obtain ⟨m0, m1, m2, m3, m4⟩ := bk e1
  obtain ⟨b0, b1, b2, b3, b4⟩ := bk e2
  obtain ⟨d0, d1, d2, d3, d4⟩ := bk e3
  obtain ⟨v0, v1, v2, v3, v4⟩ := bk e4
  have g1 : ¬ G.length < H.length := by omega
  have g2 : ∀ n, ¬ G.length + n < H.length := by omega
  have mH : mb < H.length := get_lt hm
  have hbl := Clm.befell_len c q.num q.counts
  have hlow := Clm.befell_low hc q.num q.counts
  have hls : Clm.Low ⟨q.sods, q.sods⟩ := ⟨hsq.1, by simp only; omega, hsq.1, by simp only; omega⟩
  with_reducible refine zaz hC c.events.length (by unfold fuelL; omega) (fun i st => ∃ f, (∀ j, j ≤ i → f j = Clm.fwd (Clm.befell c q.num q.counts) ⟨q.sods, q.sods⟩ j) ∧ (∀ j, i < j → f j = ⟨0, 0⟩) ∧ st = { tm := tmA 102 [(43, .int .i64 i), (42, .int .i64 c.events.length), (41, .sl (H.length + 3) 0 c.events.length 1), (8, .ptr G.length 0), (7, .sl (H.length + 3) 0 c.events.length 1), (4, .ptr (H.length + 1) 0), (3, .ptr H.length 0), (0, .ptr yb 0)], df := [], hp := G ++ [.cells (arr7 f)], tc := [] }) ?_ ?_ ?_
  · refine ⟨fun j => if j = 0 then ⟨q.sods, q.sods⟩ else ⟨0, 0⟩, fun j hj => ?_, fun j hj => ?_, ?_⟩
    · obtain rfl : j = 0 := by omega
      rfl
    · exact if_neg (by omega)
    · refine st_is ?_ rfl ?_ rfl
      · rw [gl, hJ0]; simp [zan, zap, zero14]
      · rw [hG, hJ0]; simp [arr7, zero14]
  · rintro i st hi ⟨f, f1, f2, rfl⟩
    have hi7 : i < 7 := by omega
    have hi8 : i + 1 < 7 := by omega
    have hn1 : i + 1 ≤ c.events.length := hi
    have hwi : IntKind.i64.wrap (↑i + 1) = ↑i + 1 := zas (by omega) (by omega)
    have hge : (Clm.befell c q.num q.counts)[i]? = some ((Clm.befell c q.num q.counts)[i]'(by omega)) := List.getElem?_eq_getElem _
    generalize (Clm.befell c q.num q.counts)[i]'(by omega) = e at hge
    have hfs := Clm.fwd_succ (k := ⟨q.sods, q.sods⟩) hge
    rw [← f1 i (Nat.le_refl _)] at hfs
    have hlf : Clm.Low (f i) := by rw [f1 i (Nat.le_refl _)]; exact Clm.low_fwd hlow hls i
    have hle := hlow e (List.mem_of_getElem? hge)
    have t1 := zed f hi7
    have hup : ∀ s, upd f (i + 1) s i = f i := fun s => if_neg (by omega)
    have t2 := fun a b => zls f hi8 a b
    have t3 := fun s => zed (upd f (i + 1) s) hi7
    simp only [hup] at t3
    have t4 := fun s a b => zls (upd f (i + 1) s) hi8 a b
    have t5 := zdl
    have k1 : i * 2 + 2 ≤ 14 := by omega
    have k2 : (i + 1) * 2 + 2 ≤ 14 := by omega
    have HS := hideP (And.intro f1 (And.intro f2 hfs))
    have hi7' : (i : Int) < 7 := by omega
    have hi8' : (i : Int) + 1 < 7 := by omega
    have hge' := ge_of hge
    clear hG
    clear f1 f2 hq hsq hput' hc hsd hJ hJ0 gl hlow hls hY hm
    have next : ∀ s, s = Clm.Bf.after e (f i) → (∀ j, j ≤ i + 1 → upd f (i + 1) s j = Clm.fwd (Clm.befell c q.num q.counts) ⟨q.sods, q.sods⟩ j) ∧ (∀ j, i + 1 < j → upd f (i + 1) s j = ⟨0, 0⟩) := by
      obtain ⟨f1, f2, hfs⟩ := HS.out
      rintro s rfl
      refine ⟨fun j hj => ?_, fun j hj => ?_⟩
      · by_cases h : j = i + 1
        · subst h; rw [hfs]; exact if_pos rfl
        · exact (if_neg h).trans (f1 j (by omega))
      · exact (if_neg (by omega)).trans (f2 j (by omega))
    have next2 : ∀ s t, t = Clm.Bf.after e (f i) → upd (upd f (i + 1) s) (i + 1) t = upd f (i + 1) t := by
      intro s t _
      funext j
      unfold upd
      split <;> rfl
    have HN := hideP (And.intro next next2)
    clear next next2 HS hfs
    cases e with
    | nil =>
      clear hEt
      (repeat (first | (with_reducible apply zah; (focus ((conv => lhs; simp [keyOK, bfA, List.lookup, Nat.testBit_eq_decide_div_mod_eq, *]) <;> exact rfl)); simp only [addFl]) | ((with_reducible first | apply zai | apply zak | apply zag | apply zae | apply zac | apply zaj | apply zaf | apply zam | (apply zad; · simp [zaa, *]) | (apply zab; · simp [zaa, *])); try simp only [Then, Ops, OutB]) | simp only [Nat.reduceEqDiff, reduceIte, OutB, Then]))
      obtain ⟨next, next2⟩ := HN.out
      with_reducible refine ⟨_, (next _ rfl).1, (next _ rfl).2, ?_⟩
      refine st_is ?_ rfl ?_ rfl
      · simp [zan, zap]
      · rfl
    | sale s =>
      have sa := fun H => hEt.sa H s (f i) hlf hle
      clear hEt hlf hle
      (repeat (first | (with_reducible apply zah; (focus ((conv => lhs; simp [keyOK, bfA, List.lookup, Nat.testBit_eq_decide_div_mod_eq, *]) <;> exact rfl)); simp only [addFl]) | ((with_reducible first | apply zai | apply zak | apply zag | apply zae | apply zac | apply zaj | apply zaf | apply zam | (apply zad; · simp [zaa, *]) | (apply zab; · simp [zaa, *])); try simp only [Then, Ops, OutB]) | simp only [Nat.reduceEqDiff, reduceIte, OutB, Then]))
      obtain ⟨next, next2⟩ := HN.out
      with_reducible refine ⟨_, (next _ rfl).1, (next _ rfl).2, ?_⟩
      refine st_is ?_ rfl ?_ rfl
      · simp [zan, zap]
      · rw [next2 _ _ rfl]
    | count s =>
      have sa := fun H => hEt.ca H s (f i)
      clear hEt hlf hle
      (repeat (first | (with_reducible apply zah; (focus ((conv => lhs; simp [keyOK, bfA, List.lookup, Nat.testBit_eq_decide_div_mod_eq, *]) <;> exact rfl)); simp only [addFl]) | ((with_reducible first | apply zai | apply zak | apply zag | apply zae | apply zac | apply zaj | apply zaf | apply zam | (apply zad; · simp [zaa, *]) | (apply zab; · simp [zaa, *])); try simp only [Then, Ops, OutB]) | simp only [Nat.reduceEqDiff, reduceIte, OutB, Then]))
      obtain ⟨next, next2⟩ := HN.out
      with_reducible refine ⟨_, (next _ rfl).1, (next _ rfl).2, ?_⟩
      refine st_is ?_ rfl ?_ rfl
      · simp [zan, zap]
      · rw [next2 _ _ rfl]
  · rintro st ⟨f, f1, f2, rfl⟩
    have hwn : IntKind.i64.wrap (↑c.events.length - 1) = ↑c.events.length - 1 := zas (by omega) (by omega)
    clear hG gl hJ0 hJ
    have HF := hideP (And.intro f1 f2)
    clear f1 f2
    (repeat (first | (with_reducible apply zah; (focus ((conv => lhs; simp [keyOK, Nat.testBit_eq_decide_div_mod_eq, *]) <;> exact rfl)); simp only [addFl]) | ((with_reducible first | apply zai | apply zak | apply zag | apply zae | apply zac | apply zaj | apply zaf | apply zam | (apply zad; · simp [zaa, *]) | (apply zab; · simp [zaa, *])); try simp only [Then, Ops, OutB, reduceIte]) | simp only [Nat.reduceEqDiff, reduceIte, OutB, Then]))
    obtain ⟨f1, f2⟩ := HF.out
    with_reducible refine zaz hC c.events.length (by unfold fuelL; omega) (fun r st => ∃ f J, (∀ j, j < c.events.length - r → f j = Clm.fwd (Clm.befell c q.num q.counts) ⟨q.sods, q.sods⟩ j) ∧ (∀ j, c.events.length - r ≤ j → f j = Clm.bwd (Clm.befell c q.num q.counts) ⟨q.sods, q.sods⟩ j) ∧ st = { tm := tmA 102 [(12, .int .i64 (((c.events.length - r : Nat) : Int) - 1)), (8, .ptr G.length 0), (7, .sl (H.length + 3) 0 c.events.length 1), (4, .ptr (H.length + 1) 0), (3, .ptr H.length 0), (0, .ptr yb 0)], df := [], hp := G ++ .cells (arr7 f) :: J, tc := [] }) ?_ ?_ ?_
    · refine ⟨f, [], fun j hj => f1 j (by omega), fun j hj => ?_, ?_⟩
      · rw [Nat.sub_zero] at hj
        rcases Nat.lt_or_eq_of_le hj with h | h
        · rw [f2 j h, Clm.bwd_out (by omega)]
        · subst h
          rw [f1 _ (Nat.le_refl _)]
          have := Clm.bwd_last (Clm.befell c q.num q.counts) ⟨q.sods, q.sods⟩
          rw [hbl] at this; exact this.symm
      · refine st_is ?_ rfl rfl rfl
        simp [zan, zap]
    · clear f1 f2 HF f
      rintro r st hr ⟨f, J, f1, f2, rfl⟩
      obtain ⟨i, hi⟩ : ∃ i, c.events.length - r = i + 1 := ⟨c.events.length - r - 1, by omega⟩
      have hin : i < c.events.length := by omega
      rw [hi] at f1 f2
      have hi7 : i < 7 := by omega
      have hi8 : i + 1 < 7 := by omega
      have hi7' : (i : Int) < 7 := by omega
      have hi8' : (i : Int) + 1 < 7 := by omega
      have hn1 : i + 1 ≤ c.events.length := hin
      have hwi : IntKind.i64.wrap (↑i + 1) = ↑i + 1 := zas (by omega) (by omega)
      have hwj : IntKind.i64.wrap (↑i - 1) = ↑i - 1 := zas (by omega) (by omega)
      have hge : (Clm.befell c q.num q.counts)[i]? = some ((Clm.befell c q.num q.counts)[i]'(by omega)) := List.getElem?_eq_getElem _
      generalize (Clm.befell c q.num q.counts)[i]'(by omega) = e at hge
      have hge' := ge_of hge
      have hfs := Clm.bwd_step (k := ⟨q.sods, q.sods⟩) hge
      rw [← f1 i (by omega), ← f2 (i + 1) (by omega)] at hfs
      have hlf : Clm.Low (f (i + 1)) := by rw [f2 (i + 1) (by omega)]; exact Clm.low_bwd hlow hls _
      have hle := hlow e (List.mem_of_getElem? hge)
      have t1 := zed f hi7
      have t2 := zed f hi8
      have t4 := fun a b => zls f hi7 a b
      have t5 := zdl
      have k1 : i * 2 + 2 ≤ 14 := by omega
      have k2 : (i + 1) * 2 + 2 ≤ 14 := by omega
      have hbt := fun H => hB H (f i) (e.before (f (i + 1)))
      have next : ∀ s, s = (f i).both (e.before (f (i + 1))) → (∀ j, j < c.events.length - (r + 1) → upd f i s j = Clm.fwd (Clm.befell c q.num q.counts) ⟨q.sods, q.sods⟩ j) ∧ (∀ j, c.events.length - (r + 1) ≤ j → upd f i s j = Clm.bwd (Clm.befell c q.num q.counts) ⟨q.sods, q.sods⟩ j) := by
        rintro s rfl
        rw [show c.events.length - (r + 1) = i by omega]
        refine ⟨fun j hj => (if_neg (by omega)).trans (f1 j (by omega)), fun j hj => ?_⟩
        by_cases h : j = i
        · subst h; rw [hfs]; exact if_pos rfl
        · exact (if_neg h).trans (f2 j (by omega))
      have hr1 : c.events.length - (r + 1) = i := by omega
      rw [hi, show ((i + 1 : Nat) : Int) - 1 = i by omega]
      have HN := hideP (And.intro next hr1)
      clear next hfs f1 f2 hq hsq hput' hc hsd hlow hls hY hm hi hr1 hwn
      cases e with
      | nil =>
        clear hEt
        simp only [Clm.Bf.before] at hbt
        (repeat (first | (with_reducible apply zah; (focus ((conv => lhs; simp [keyOK, bfA, List.lookup, Nat.testBit_eq_decide_div_mod_eq, *]) <;> exact rfl)); simp only [addFl]) | ((with_reducible first | apply zai | apply zak | apply zag | apply zae | apply zac | apply zaj | apply zaf | apply zam | (apply zad; · simp [zaa, *]) | (apply zab; · simp [zaa, *])); try simp only [Then, Ops, OutB]) | simp only [Nat.reduceEqDiff, reduceIte, OutB, Then]))
        obtain ⟨next, hr1⟩ := HN.out
        with_reducible refine ⟨_, ?_, (next _ rfl).1, (next _ rfl).2, ?_⟩
        rotate_left
        · refine st_is ?_ ?_ ?_ ?_
          · simp [zan, zap, hr1]
          · rfl
          · rfl
          · rfl
      | sale s =>
        have sa := fun H => hEt.sb H s (f (i + 1)) hlf hle
        clear hEt hlf hle
        (repeat (first | (with_reducible apply zah; (focus ((conv => lhs; simp [keyOK, bfA, List.lookup, Nat.testBit_eq_decide_div_mod_eq, *]) <;> exact rfl)); simp only [addFl]) | ((with_reducible first | apply zai | apply zak | apply zag | apply zae | apply zac | apply zaj | apply zaf | apply zam | (apply zad; · simp [zaa, *]) | (apply zab; · simp [zaa, *])); try simp only [Then, Ops, OutB]) | simp only [Nat.reduceEqDiff, reduceIte, OutB, Then]))
        obtain ⟨next, hr1⟩ := HN.out
        with_reducible refine ⟨_, ?_, (next _ rfl).1, (next _ rfl).2, ?_⟩
        rotate_left
        · refine st_is ?_ ?_ ?_ ?_
          · simp [zan, zap, hr1]
          · rfl
          · rfl
          · rfl
      | count s =>
        have sa := fun H => hEt.cb H s (f (i + 1))
        clear hEt hlf hle
        (repeat (first | (with_reducible apply zah; (focus ((conv => lhs; simp [keyOK, bfA, List.lookup, Nat.testBit_eq_decide_div_mod_eq, *]) <;> exact rfl)); simp only [addFl]) | ((with_reducible first | apply zai | apply zak | apply zag | apply zae | apply zac | apply zaj | apply zaf | apply zam | (apply zad; · simp [zaa, *]) | (apply zab; · simp [zaa, *])); try simp only [Then, Ops, OutB]) | simp only [Nat.reduceEqDiff, reduceIte, OutB, Then]))
        obtain ⟨next, hr1⟩ := HN.out
        with_reducible refine ⟨_, ?_, (next _ rfl).1, (next _ rfl).2, ?_⟩
        rotate_left
        · refine st_is ?_ ?_ ?_ ?_
          · simp [zan, zap, hr1]
          · rfl
          · rfl
          · rfl
    · clear f1 f2 HF f
      rintro st ⟨f, J, f1, f2, rfl⟩
      have hall : arr7 f = arr7 (logF c q) := zzj fun j _ => f2 j (by omega)
      rw [hall, Nat.sub_self]
      have hput := hput'.out
      clear f1 f2 hq hsq hc hsd hlow hls hY hEt hB hwn hall hput'
      simp only [logA] at *
      have t1 := zdl (logF c q)
      have t2 := zil (logF c q)
      have t3 := zhn (logF c q)
      generalize arr7 (logF c q) = R at *
      have n1 : ∀ n, ¬ mb = H.length + n := by omega
      have n2 : ∀ n, ¬ H.length + n = mb := by omega
      have n3 : ∀ n, ¬ H.length + n < H.length := by omega
      (repeat (first | (with_reducible apply zah; (focus ((conv => lhs; simp [keyOK, zero14, Nat.testBit_eq_decide_div_mod_eq, *]) <;> exact rfl)); simp only [addFl]) | ((with_reducible first | apply zai | apply zak | apply zag | apply zae | apply zac | apply zaj | apply zaf | apply zam | (apply zad; · simp [zaa, *]) | (apply zab; · simp [zaa, *])); try simp only [Then, Ops, OutB, reduceIte]) | simp only [Nat.reduceEqDiff, reduceIte, OutB, Then]))
      refine zao (.inl rfl) rfl (by simp; omega) (by simp only [resL, resOf, zal]; simp [pickC, resV, *]) ⟨rfl, by simp, ?_⟩
      simp [*]
end K
end Ev
end Go.Proofs.Ytimgnlellflciaa

/- Loops over functions that yield, with values that are not known. -/
namespace Go.Proofs.Ytimgnlellflciaa
open Go
namespace Ev
structure Yields {α : Type} (call : CallF) (l : Nat) (T : List Nat) (arg : α → AV) (L : List α) (S : List Nat) (U : List AB → Prop) (J : List α → List Nat → List AB → Prop) (E : List α → List AB → Prop) : Prop where
  stable : ∀ d W H H', J d W H → Kp S H H' → U H' → J d W H'
  step : ∀ d s W H, d ++ [s] <+: L → J d W H → ∃ b H' tc W', call (.yield l) [arg s] H = some (.ret (.bool b), H', tc) ∧ l ∈ tc ∧ (∀ j ∈ tc, j ∈ T ++ W) ∧ Kp tc H H' ∧ (∀ j ∈ W', j ∈ W ∨ H.length ≤ j) ∧ (b = true → J (d ++ [s]) W' H') ∧ (b = false → E (d ++ [s]) H')
theorem Rnd.same {H hp : List AB} {tc : List Nat} {l : Nat} {r : ALoop} {H' : List AB} (h : Rnd H hp tc l r H') (k : Kp tc H hp) (j : Nat) (hj : j ≠ l) : H'[j]? = hp[j]? := by
  by_cases hl : j < H.length
  · by_cases ht : j ∈ tc
    · exact h.got j hl ht hj
    · rw [h.old j hl ht hj, k.get j hl ht]
  · exact h.new j (by omega)
theorem Rnd.kp {H hp : List AB} {tc : List Nat} {l : Nat} {r : ALoop} {H' : List AB} (h : Rnd H hp tc l r H') : Kp (l :: tc) H H' := ⟨h.len, fun b hb hs => by
  simp only [List.mem_cons, not_or] at hs
  exact h.old b hb hs.2 hs.1⟩
theorem setP1 (N t : Nat) (v : AV) (l : List (Nat × AV)) : setParams (tmA N l) [t] [v] = tmA N ((t, v) :: l) := rfl
theorem zgk {C : Cfg} {pin D : Nat} {res : List ARes} {Q : AV → List AB → List Nat → Prop} {e : AExit} {st : St} {v : AV} (he : e = .ret ∨ e = .normal) (hd : st.df = [.mark D]) (hD : st.hp[D]? = some .dfr) (hp : pin ≤ D) (hl : pin ≤ st.hp.length) (hr : (resL { st with hp := st.hp.set D .dead } res).map resV = some v) (hq : Q v (st.hp.set D .dead) st.tc) : Ends C pin res Q e st := by
  refine ⟨he, { st with hp := st.hp.set D .dead }, ?_, by simpa using hl, v, hr, hq⟩
  conv => lhs; rw [hd]
  have : ¬ D < pin := by omega
  simp only [runDefs, hD, List.filter_cons, List.filter_nil, this, decide_false, Bool.false_eq_true, if_false, List.nil_append]
theorem zht {C : Cfg} {call : CallF} {pin : Nat} {Q : AExit → St → Prop} {st : St} {g : Opnd} {ps : List Nat} {as bd : AC} {gf : Nat} {first captured : List AV} (hg : val C st.tm g = .fn (.func gf) first captured)
    (h : ∀ r : ALoop, r = ⟨.ready, none, st.tm, ps, as, bd, st.hp.length⟩ → ∃ x H tc, call (.fn (.func gf) first captured) [.yield (st.hp.length + 1)] (st.hp ++ [.dfr, .loop r]) = some (x, H, tc) ∧ RgEnd pin (st.hp.length + 1) (.mark st.hp.length :: st.df) st Q x H tc) :
    Does (ev C call pin none (.rangeF g ps as bd) st) Q := by
  refine zsu hg ?_
  have := h _ rfl
  rw [List.append_assoc]
  exact this
def IterC {α : Type} (C : Cfg) (n : Nat) (gf : Nat) (first captured : List AV) (arg : α → AV) (L : List α) (S : List Nat) (Y : List AB → Prop) (pre : List AB → List Nat → Prop) : Prop :=
  ∀ (H : List AB) (l : Nat) (T : List Nat) (J : List α → List Nat → List AB → Prop) (E : List α → List AB → Prop), pre H T → (∀ j ∈ T, j < H.length) → l ∈ T → J [] [] H → (∀ d W G, J d W G → Y G) → Yields (Ev.call C n) l T arg L S Y J E →
    ∃ H' tc, Ev.call C (n + 1) (.fn (.func gf) first captured) [.yield l] H = some (.ret (.tup []), H', tc) ∧ (∀ j ∈ tc, j ∈ S ++ T) ∧ Kp tc H H' ∧ ((∃ W, (∀ j ∈ W, H.length ≤ j) ∧ J L W H') ∨ ∃ d, d <+: L ∧ E d H')
theorem lft_eq {H hp : List AB} {tc : List Nat} {H' : List AB} {v : AV} (h : Lft H hp tc H') (k : Kp tc H hp) (n : refs v ≠ [] ∨ tc ≠ [] → H'.length = hp.length ∧ ∀ j, H.length ≤ j → H'[j]? = hp[j]?) (hn : refs v ≠ [] ∨ tc ≠ []) : H' = hp := by
  obtain ⟨_, n2⟩ := n hn
  refine List.ext_getElem? fun j => ?_
  by_cases hj : j < H.length
  · exact h.same k j hj
  · exact n2 j (by omega)
theorem zvq {α : Type} {C : Cfg} {n gf : Nat} {fn : AFunc} {first captured : List AV} {arg : α → AV} {L : List α} {S : List Nat} {Y : List AB → Prop} {pre : List AB → List Nat → Prop} (hc : C.calm = true) (hx : C.ext gf = none) (hxh : C.exth gf = none) (hf : C.fns gf = some fn) (hw : C.whole gf = true) (hlen : first.length + 1 + captured.length ≤ fn.ntmps)
    (h : ∀ (H : List AB) (l : Nat) (T : List Nat) (J : List α → List Nat → List AB → Prop) (E : List α → List AB → Prop), pre H T → (∀ j ∈ T, j < H.length) → l ∈ T → J [] [] H → (∀ d W G, J d W G → Y G) → Yields (Ev.call C n) l T arg L S Y J E →
      Does (ev C (Ev.call C n) H.length none fn.body { tm := tmA fn.ntmps (zipI 0 (first ++ [.yield l] ++ captured) []), df := [], hp := H, tc := [] })
        (Ends C H.length fn.res fun v hp tc => v = .tup [] ∧ (∀ j ∈ tc, j ∈ S ++ T) ∧ Kp tc H hp ∧ ((∃ W, (∀ j ∈ W, H.length ≤ j) ∧ J L W hp ∧ (L = [] ∨ l ∈ tc)) ∨ ∃ d, d <+: L ∧ E d hp ∧ l ∈ tc))) : IterC C n gf first captured arg L S Y pre := by
  intro H l T J E h1 h2 h3 h4 h5 h6
  obtain ⟨v, hp, tc, H', c1, ⟨rfl, c2, c3, c4⟩, c5, c6, c7⟩ := zco hc hx hxh hf hw (by simp; omega) (h H l T J E h1 h2 h3 h4 h5 h6)
  refine ⟨H', tc, c1, c2, c5.same c3 |> fun hs => ⟨c5.len, fun b hb ht => (hs b hb).trans (c3.get b hb ht)⟩, ?_⟩
  rcases c4 with ⟨W, w1, w2, w3⟩ | ⟨d, d1, d2, d3⟩
  · rcases w3 with w3 | w3
    · by_cases ht : tc = []
      · rw [c7 rfl ht]; subst w3; exact .inl ⟨[], by simp, h4⟩
      · rw [lft_eq c5 c3 c6 (.inr ht)]; exact .inl ⟨W, w1, w2⟩
    · rw [lft_eq c5 c3 c6 (.inr (by intro h; rw [h] at w3; cases w3))]; exact .inl ⟨W, w1, w2⟩
  · rw [lft_eq c5 c3 c6 (.inr (by intro h; rw [h] at d3; cases d3))]; exact .inr ⟨d, d1, d2⟩
def RoundTo {α : Type} (l : Nat) (rz : ALoop) (T S W : List Nat) (Y : List AB → Prop) (G : List AB) (J : List Nat → List AB → Prop) (E : AExit → List AB → Prop) (_a : Option α) (e : AExit) (st : St) : Prop :=
  (∀ v, e ≠ .panic v) ∧ st.hp[l]? = some (.loop rz) ∧ G.length ≤ st.hp.length ∧ (∀ j ∈ st.tc, j = l ∨ j ∈ T ∨ j ∈ S ∨ j ∈ W) ∧ Kp st.tc G st.hp ∧ Y st.hp ∧ (e = .normal → ∃ W', (∀ j ∈ W', j ∈ W ∨ G.length ≤ j) ∧ J W' st.hp) ∧ (e ≠ .normal → E e st.hp)
theorem znl {α : Type} {C : Cfg} (hC : C.calm = true) {n gf : Nat} {first captured : List AV} {arg : α → AV} {L : List α} {S : List Nat} {Y : List AB → Prop} {pre : List AB → List Nat → Prop} (hI : IterC C (n + 1) gf first captured arg L S Y pre)
    {pin : Nat} {st : St} {g : Opnd} {ps : List Nat} {as bd : AC} {Q : AExit → St → Prop} (hg : val C st.tm g = .fn (.func gf) first captured) (hps : ps.length = 1) (T : List Nat) (hT : ∀ j ∈ T, j < st.hp.length) (hS : ∀ j ∈ S, j < st.hp.length)
    (J : List α → List Nat → List AB → Prop) (E : AExit → List α → List AB → Prop)
    (hpre : ∀ r : ALoop, pre (st.hp ++ [.dfr, .loop r]) ((st.hp.length + 1) :: (T ++ S)))
    (hYs : ∀ G G', Y G → (∀ j, j ≠ st.hp.length + 1 → G'[j]? = G[j]?) → Y G')
    (hJ0 : ∀ r : ALoop, J [] [] (st.hp ++ [.dfr, .loop r])) (hY0 : ∀ r : ALoop, Y (st.hp ++ [.dfr, .loop r]))
    (hJs : ∀ d W G G', J d W G → (∀ j, j < G.length → j ∉ S → j ≠ st.hp.length + 1 → G'[j]? = G[j]?) → J d W G')
    (hEs : ∀ e d G G', E e d G → (∀ j, j ≠ st.hp.length + 1 → G'[j]? = G[j]?) → E e d G')
    (hround : ∀ d s W G rz, d ++ [s] <+: L → J d W G → Y G → st.hp.length + 2 ≤ G.length → (∀ j ∈ W, st.hp.length + 2 ≤ j) →
      Does (ev C (Ev.call C n) G.length (some (st.hp.length + 1)) as { tm := setParams st.tm ps [arg s], df := [], hp := G, tc := [] }) fun e st1 => e = .normal ∧ st1.hp[st.hp.length + 1]? = G[st.hp.length + 1]? ∧
        Does (ev C (Ev.call C n) G.length (some (st.hp.length + 1)) bd { st1 with hp := st1.hp.set (st.hp.length + 1) (.loop rz), tc := (st.hp.length + 1) :: st1.tc }) (RoundTo (st.hp.length + 1) rz T S W Y G (J (d ++ [s])) (fun e => E e (d ++ [s])) (some s)))
    (hQ : ∀ H' tc W, (∀ j ∈ tc, j < st.hp.length → j ∈ S ++ T) → Kp tc st.hp H' → Y H' → H'[st.hp.length]? = some .dfr → st.hp.length + 2 ≤ H'.length → (∀ j ∈ W, st.hp.length + 2 ≤ j) → J L W H' → Q .normal { st with df := .mark st.hp.length :: st.df, hp := H', tc := tc.filter (· < pin) ++ st.tc })
    (hE : ∀ e d H' tc, e ≠ .normal → (∀ j ∈ tc, j < st.hp.length → j ∈ S ++ T) → Kp tc st.hp H' → Y H' → H'[st.hp.length]? = some .dfr → st.hp.length + 2 ≤ H'.length → d <+: L → E e d H' → Q e { st with df := .mark st.hp.length :: st.df, hp := H', tc := tc.filter (· < pin) ++ st.tc }) :
    Does (ev C (Ev.call C (n + 2)) pin none (.rangeF g ps as bd) st) Q := by
  refine zht hg fun r hr => ?_
  have ra := congrArg ALoop.assign hr
  have rb := congrArg ALoop.body hr
  have rt := congrArg ALoop.tm hr
  have rp := congrArg ALoop.params hr
  have rs := congrArg ALoop.st hr
  have rq := congrArg ALoop.pend hr
  clear hr
  simp only at ra rb rt rp rs rq
  have hlen0 : (st.hp ++ [.dfr, .loop r] : List AB).length = st.hp.length + 2 := by simp
  have hstep : Yields (Ev.call C (n + 1)) (st.hp.length + 1) ((st.hp.length + 1) :: (T ++ S)) arg L S Y
      (fun d W G => J d W G ∧ Y G ∧ G[st.hp.length + 1]? = some (.loop r) ∧ G[st.hp.length]? = some .dfr ∧ ∀ j ∈ W, st.hp.length + 2 ≤ j)
      (fun d G => ∃ e, e ≠ .normal ∧ E e d G ∧ G[st.hp.length + 1]? = some (.loop { r with st := .done, pend := some e }) ∧ G[st.hp.length]? = some .dfr ∧ Y G) := by
    refine ⟨fun d W G G' ⟨h1, h2, h3, h4, h5⟩ k hy => ⟨hJs d W G G' h1 fun j hj hs _ => k.get j hj hs, hy, k.at h3 fun h => by have := hS _ h; omega, k.at h4 fun h => by have := hS _ h; omega, h5⟩, ?_⟩
    rintro d s W G hpr ⟨h1, h2, h3, h4, h5⟩
    have hGl := get_lt h3
    obtain ⟨b, e, hp, tc, H', c1, c2, ⟨c3, c4, c5, c6, c7, c8⟩, c9⟩ := zjx (C := C) (n := n) (l := st.hp.length + 1) (args := [arg s]) (H := G) (r := r)
      (Q := fun e hp tc => (∀ v, e ≠ .panic v) ∧ (∀ j ∈ tc, j = st.hp.length + 1 ∨ j ∈ T ∨ j ∈ S ∨ j ∈ W) ∧ Kp tc G hp ∧ Y hp ∧ (e = .normal → ∃ W', (∀ j ∈ W', j ∈ W ∨ G.length ≤ j) ∧ J (d ++ [s]) W' hp) ∧ (e ≠ .normal → E e (d ++ [s]) hp)) hC h3 rs rq (by rw [rp]; simp [hps]) (by
        have := hround d s W G { r with st := .busy } hpr h1 h2 (by omega) h5
        rw [← ra, ← rb, ← rt, ← rp] at this
        refine this.mono fun e st1 ⟨g1, g2, g3⟩ => ⟨g1, g2.trans h3, g3.mono fun e st2 ⟨k1, k2, k3, k4, k5, k6, k7, k8⟩ => ⟨k1, k2, k3, k1, k4, k5, k6, k7, k8⟩⟩)
    have hsm := c9.same c5
    have hd : H'[st.hp.length]? = some .dfr := by
      rw [hsm _ (by omega), c5.get _ (by omega) (fun h => ?_), h4]
      rcases c4 _ h with h | h | h | h
      · omega
      · have := hT _ h; omega
      · have := hS _ h; omega
      · have := h5 _ h; omega
    have hl9 : st.hp.length + 1 ∈ (st.hp.length + 1) :: tc := by simp
    have hall : ∀ j ∈ (st.hp.length + 1) :: tc, j ∈ (st.hp.length + 1) :: (T ++ S) ++ W := by
      intro j hj
      simp only [List.cons_append, List.append_assoc, List.mem_cons, List.mem_append]
      rcases List.mem_cons.1 hj with h | h
      · exact .inl h
      · rcases c4 j h with h | h | h | h
        · exact .inl h
        · exact .inr (.inl h)
        · exact .inr (.inr (.inl h))
        · exact .inr (.inr (.inr h))
    by_cases he : e = .normal
    · have hb := c2.2 he
      obtain ⟨W', w1, w2⟩ := c7 he
      subst hb
      rw [if_pos rfl] at c9
      refine ⟨true, H', _, W', c1, hl9, hall, c9.kp, w1, fun _ => ⟨hJs _ _ _ _ w2 fun j _ _ hj => hsm j hj, hYs _ _ c6 hsm, c9.here, hd, fun j hj => ?_⟩, fun h => by cases h⟩
      rcases w1 j hj with h | h
      · exact h5 j h
      · omega
    · have hb : b = false := by
        cases b with
        | false => rfl
        | true => exact absurd (c2.1 rfl) he
      subst hb
      rw [if_neg (by decide)] at c9
      exact ⟨false, H', _, [], c1, hl9, hall, c9.kp, by simp, (fun h => by cases h), fun _ => ⟨e, he, hEs _ _ _ _ (c8 he) hsm, c9.here, hd, hYs _ _ c6 hsm⟩⟩
  obtain ⟨H2, tc, c1, c2, c3, c4⟩ := hI (st.hp ++ [.dfr, .loop r]) (st.hp.length + 1) ((st.hp.length + 1) :: (T ++ S)) _ _ (hpre r) (by
    intro j hj
    rw [hlen0]
    rcases List.mem_cons.1 hj with h | h
    · omega
    · rcases List.mem_append.1 h with h | h
      · have := hT j h; omega
      · have := hS j h; omega) (by simp) ⟨hJ0 r, hY0 r, by simp, by simp, by simp⟩ (fun d W G h => h.2.1) hstep
  refine ⟨_, H2, tc, c1, ?_⟩
  have hlen2 : st.hp.length + 2 ≤ H2.length := by have := c3.len; rw [hlen0] at this; exact this
  have hk : Kp tc st.hp (H2.set (st.hp.length + 1) .dead) := ⟨by simp; omega, fun b hb ht => by
    rw [List.getElem?_set_ne (by omega)]; exact c3.pre.get b hb ht⟩
  have htc : ∀ j ∈ tc, j < st.hp.length → j ∈ S ++ T := by
    intro j hj hl
    rcases List.mem_append.1 (c2 j hj) with h | h
    · exact List.mem_append_left _ h
    · rcases List.mem_cons.1 h with h | h
      · omega
      · exact List.mem_append.2 (List.mem_append.1 h).symm
  have hset : ∀ j, j ≠ st.hp.length + 1 → (H2.set (st.hp.length + 1) .dead)[j]? = H2[j]? := fun j hj => by rw [List.getElem?_set_ne (by omega)]
  rcases c4 with ⟨W, w1, h1, h2, h3, h4, h5⟩ | ⟨d, d1, e, h0, h1, h2, h3, h4⟩
  · refine ⟨r, h3, by rw [rs]; simp, ?_⟩
    rw [rq]
    exact hQ _ tc W htc hk (hYs _ _ h2 hset) ((hset _ (by omega)).trans h4) (by simp; omega) h5 (hJs _ _ _ _ h1 fun j _ _ hj => hset j hj)
  · refine ⟨_, h2, by simp, ?_⟩
    exact hE e d _ tc h0 htc hk (hYs _ _ h4 hset) ((hset _ (by omega)).trans h3) (by simp; omega) d1 (hEs _ _ _ _ h1 hset)
end Ev
end Go.Proofs.Ytimgnlellflciaa

/- Package clamp, gone through: the sizes of a clamp, yielded. -/
namespace Go.Proofs.Ytimgnlellflciaa
open Go
namespace Clm
theorem span_len (s : Sp) : (spanL s).length = (s.hi + 1 - s.lo).toNat := by simp [spanL]
theorem span_get (s : Sp) {i : Nat} (h : i < (spanL s).length) : (spanL s)[i] = s.lo + i := by simp [spanL]
theorem zpv {α β : Type} (f : α → List β) {xs : List α} {i : Nat} {x : α} (h : xs[i]? = some x) {q : List β} (hq : q <+: f x) : (xs.take i).flatMap f ++ q <+: xs.flatMap f := by
  obtain ⟨t, ht⟩ := hq
  have hi := (List.getElem?_eq_some_iff.1 h).1
  have hx := (List.getElem?_eq_some_iff.1 h).2
  refine ⟨t ++ (xs.drop (i + 1)).flatMap f, ?_⟩
  conv => rhs; rw [← List.take_append_drop i xs, List.drop_eq_getElem_cons hi, hx]
  simp [← ht]
theorem zzu {α β : Type} (f : α → β) {xs : List α} {i : Nat} {x : α} (h : xs[i]? = some x) : (xs.take i).map f ++ [f x] <+: xs.map f := by
  have hi := (List.getElem?_eq_some_iff.1 h).1
  have hx := (List.getElem?_eq_some_iff.1 h).2
  refine ⟨(xs.drop (i + 1)).map f, ?_⟩
  conv => rhs; rw [← List.take_append_drop i xs, List.drop_eq_getElem_cons hi, hx]
  simp
theorem znd {α β : Type} (f : α → List β) {xs : List α} {i : Nat} {x : α} (h : xs[i]? = some x) : (xs.take (i + 1)).flatMap f = (xs.take i).flatMap f ++ f x := by
  rw [List.take_add_one, h]; simp
theorem zyj {α β : Type} (f : α → β) {xs : List α} {i : Nat} {x : α} (h : xs[i]? = some x) : (xs.take (i + 1)).map f = (xs.take i).map f ++ [f x] := by
  rw [List.take_add_one, h]; simp
def szH (p : Pl) (l w : Int) (k : Nat) : List Size := ((spanL p.high).take k).map fun h => ⟨l, w, h⟩
def szW (p : Pl) (l : Int) (k : Nat) : List Size := ((spanL p.wide).take k).flatMap fun w => (spanL p.high).map fun h => ⟨l, w, h⟩
def szL (p : Pl) (k : Nat) : List Size := ((spanL p.long).take k).flatMap fun l => (spanL p.wide).flatMap fun w => (spanL p.high).map fun h => ⟨l, w, h⟩
theorem sz_all (p : Pl) : szL p (spanL p.long).length = sizes p := by unfold szL sizes; rw [List.take_length]
theorem sz_pre {p : Pl} {i j k : Nat} {l w h : Int} (hl : (spanL p.long)[i]? = some l) (hw : (spanL p.wide)[j]? = some w) (hh : (spanL p.high)[k]? = some h) : (szL p i ++ szW p l j ++ szH p l w k) ++ [⟨l, w, h⟩] <+: sizes p := by
  unfold szL szW szH sizes
  rw [List.append_assoc, List.append_assoc]
  refine zpv _ hl ?_
  refine zpv _ hw ?_
  exact zzu _ hh
theorem szH_succ {p : Pl} {k : Nat} {h : Int} (l w : Int) (hh : (spanL p.high)[k]? = some h) : szH p l w (k + 1) = szH p l w k ++ [⟨l, w, h⟩] := zyj _ hh
theorem szW_succ {p : Pl} {k : Nat} {w : Int} (l : Int) (hw : (spanL p.wide)[k]? = some w) : szW p l (k + 1) = szW p l k ++ szH p l w (spanL p.high).length := by
  unfold szW szH; rw [znd _ hw, List.take_length]
theorem szL_succ {p : Pl} {k : Nat} {l : Int} (hl : (spanL p.long)[k]? = some l) : szL p (k + 1) = szL p k ++ szW p l (spanL p.wide).length := by
  unfold szL szW; rw [znd _ hl, List.take_length]
end Clm
namespace Ev
namespace K
attribute [local simp] ev1 wantG spineK spine float xnew xval xeff zaa zaq zbc zav zaw addFl cellsOf pickC alive slLen slFt binI maxA maxK minA minK aeqK aeqS AV.cells spA zar fillA setAt bitsI nat_nn zbg AV.plain apart
set_option maxRecDepth 100000
set_option maxHeartbeats 4000000
def sizeA (n : Int) (s : Clm.Size) (pack : Int) : AV := .agg [.int .i64 n, .int .i64 s.l, .int .i64 s.w, .int .i64 s.h, .int .i64 pack]
theorem zri (C : Cfg) (hC : C.calm = true) (call : CallF) (c : Clm.Cl) (hc : Clm.Fine c) (H : List AB) (yb : Nat) (w0 : AV) (hy : H[yb]? = some (.cells (clampCs c ++ [w0]))) (n : Nat) (hn : n < c.piles.length) (pack : Int) (b1 b2 b3 l : Nat)
    (h1 : H[b1]? = some (.cells [.ptr yb 0])) (h2 : H[b2]? = some (.cells [.int .i64 n])) (h3 : H[b3]? = some (.cells [.int .i64 pack])) (T : List Nat) (J : List Clm.Size → List Nat → List AB → Prop) (E : List Clm.Size → List AB → Prop)
    (hT : ∀ j ∈ T, j < H.length) (hb2 : b2 ∉ T) (hb3 : b3 ∉ T) (hJ0 : J [] [] H)
    (hY : Yields call l T (fun s => sizeA n s pack) (Clm.sizes c.piles[n]) [] (fun _ => True) J E) :
    Does (ev C call H.length none af96.body { tm := tmA af96.ntmps (zipI 0 [.yield l, .ptr b1 0, .ptr b2 0, .ptr b3 0] []), df := [], hp := H, tc := [] })
      (Ends C H.length af96.res fun v hp tc => v = .tup [] ∧ (∀ j ∈ tc, j ∈ T) ∧ Kp tc H hp ∧ ((∃ W, (∀ j ∈ W, H.length < j) ∧ J (Clm.sizes c.piles[n]) W hp) ∨ ∃ d, d <+: Clm.sizes c.piles[n] ∧ E d hp)) := by
  have hpl := hc.pile _ (List.getElem_mem hn)
  have hge : c.piles[n]? = some c.piles[n] := List.getElem?_eq_getElem hn
  generalize c.piles[n] = p at *
  have hge' := ge_of hge
  have hn' : (n : Int) < c.piles.length := by omega
  obtain ⟨y0, y1, y2, y3, y4⟩ := bk hy
  obtain ⟨p0, p1, p2, p3, p4⟩ := bk h1
  obtain ⟨q0, q1, q2, q3, q4⟩ := bk h2
  obtain ⟨r0, r1, r2, r3, r4⟩ := bk h3
  have HY := hideP hY
  have HJ := hideP hJ0
  clear hY hJ0
  unfold af96
  simp only [zipI, clampCs, List.cons_append, List.nil_append] at *
  (repeat (first | (with_reducible apply zah; (focus ((conv => lhs; simp [pileE, Nat.testBit_eq_decide_div_mod_eq, *]) <;> exact rfl)); simp only [addFl]) | ((with_reducible first | apply zai | apply zak | apply zag | apply zae | apply zac | apply zaj | apply zaf | apply zam | (apply zad; · simp [zaa, *]) | (apply zab; · simp [zaa, *])); try simp only [Then, Ops]) | simp only [Nat.reduceEqDiff, reduceIte, OutB, Then]))
  have hY := HY.out
  have hnl := Clm.span_len p.long
  have hnw := Clm.span_len p.wide
  have hnh := Clm.span_len p.high
  have gl := fun i (h : i < (Clm.spanL p.long).length) => (List.getElem?_eq_getElem h).trans (congrArg some (Clm.span_get p.long h))
  have gw := fun i (h : i < (Clm.spanL p.wide).length) => (List.getElem?_eq_getElem h).trans (congrArg some (Clm.span_get p.wide h))
  have gh := fun i (h : i < (Clm.spanL p.high).length) => (List.getElem?_eq_getElem h).trans (congrArg some (Clm.span_get p.high h))
  obtain ⟨Inv, hInv⟩ : ∃ Inv : List Clm.Size → List AB → List Nat → Prop, ∀ d hp tc, Inv d hp tc ↔ (∃ W, (∀ j ∈ W, H.length < j) ∧ Kp tc H hp ∧ hp[H.length]? = some (.cells [.int .i64 p.long.lo, .int .i64 p.long.hi, .int .i64 p.wide.lo, .int .i64 p.wide.hi, .int .i64 p.high.lo, .int .i64 p.high.hi]) ∧ J d W hp ∧ ∀ j ∈ tc, j ∈ T) := ⟨fun d hp tc => _, fun d hp tc => Iff.rfl⟩
  obtain ⟨I0, hI0⟩ : ∃ I0 : List AB, I0 = H ++ [.cells [.int .i64 p.long.lo, .int .i64 p.long.hi, .int .i64 p.wide.lo, .int .i64 p.wide.hi, .int .i64 p.high.lo, .int .i64 p.high.hi]] := ⟨_, rfl⟩
  have hI : Inv [] I0 [] := (hInv _ _ _).2 ⟨[], by simp, by rw [hI0]; exact Kp.app _ _, by rw [hI0]; simp, hY.stable _ _ _ _ HJ.out (by rw [hI0]; exact Kp.app _ _) trivial, by simp⟩
  have hstep : ∀ d s hp tc, Inv d hp tc → d ++ [s] <+: Clm.sizes p → ∃ b hp' tc', call (.yield l) [.agg [.int .i64 n, .int .i64 s.l, .int .i64 s.w, .int .i64 s.h, .int .i64 pack]] hp = some (.ret (.bool b), hp', tc') ∧ (b = true → Inv (d ++ [s]) hp' (tc'.filter (· < H.length) ++ tc)) ∧ (b = false → Kp (tc'.filter (· < H.length) ++ tc) H hp' ∧ E (d ++ [s]) hp' ∧ ∀ j ∈ tc'.filter (· < H.length) ++ tc, j ∈ T) := by
    intro d s hp tc hi hpre
    obtain ⟨W, k0, k1, k2, k3, k4⟩ := (hInv _ _ _).1 hi
    obtain ⟨b, hp', tc', W', s1, _, s2, s3, s6, s4, s5⟩ := hY.step d s W hp hpre k3
    have hn : ∀ j ∈ tc'.filter (· < H.length) ++ tc, j ∈ T := by
      intro j hj
      rcases List.mem_append.1 hj with h | h
      · obtain ⟨g1, g2⟩ := List.mem_filter.1 h
        have g2 : j < H.length := by simpa using g2
        rcases List.mem_append.1 (s2 j g1) with g | g
        · exact g
        · have := k0 j g; omega
      · exact k4 j h
    have hk := k1.trans2 s3
    refine ⟨b, hp', tc', s1, fun h => (hInv _ _ _).2 ⟨W', ?_, hk, ?_, s4 h, hn⟩, fun h => ⟨hk, s5 h, hn⟩⟩
    · intro j hj
      have := get_lt k2
      rcases s6 j hj with h | h
      · exact k0 j h
      · omega
    · refine s3.at k2 fun h => ?_
      rcases List.mem_append.1 (s2 _ h) with h | h
      · have := hT _ h; omega
      · have := k0 _ h; omega
  have hfacts : ∀ d hp tc, Inv d hp tc → Bk hp b2 (.cells [.int .i64 n]) ∧ Bk hp b3 (.cells [.int .i64 pack]) ∧ Bk hp H.length (.cells [.int .i64 p.long.lo, .int .i64 p.long.hi, .int .i64 p.wide.lo, .int .i64 p.wide.hi, .int .i64 p.high.lo, .int .i64 p.high.hi]) := by
    intro d hp tc hi
    obtain ⟨W, k0, k1, k2, k3, k4⟩ := (hInv _ _ _).1 hi
    exact ⟨bk' (k1.at h2 fun h => hb2 (k4 _ h)), bk' (k1.at h3 fun h => hb3 (k4 _ h)), bk' k2⟩
  clear y0 y1 y2 y3 y4 p0 p1 p2 p3 p4 q0 q1 q2 q3 q4 r0 r1 r2 r3 r4 hc HY HJ hge hge' hy h1 h2 h3 hn'
  with_reducible refine zaz hC (Clm.spanL p.long).length (by unfold fuelL; omega) (fun i st => ∃ hp tc, Inv (Clm.szL p i) hp tc ∧ st = { tm := tmA 56 [(6, .int .i64 (p.long.lo + i)), (5, .ptr H.length 0), (3, .ptr b3 0), (2, .ptr b2 0), (0, .yield l)], df := [], hp := hp, tc := tc }) ?_ ?_ ?_
  · refine ⟨_, _, hI, ?_⟩
    refine st_is ?_ rfl ?_ rfl
    · simp [zan, zap]
    · rw [hI0]
  · rintro i st hi ⟨hp, tc, hV, rfl⟩
    obtain ⟨⟨f0, f1, f2, f3, f4, f5⟩, ⟨g0, g1, g2, g3, g4, g5⟩, ⟨h0, h1, h2, h3, h4, h5⟩⟩ := hfacts _ _ _ hV
    have e1 : p.long.lo + (i : Int) ≤ p.long.hi := by omega
    (repeat (first | (with_reducible apply zah; (focus ((conv => lhs; simp [Nat.testBit_eq_decide_div_mod_eq, *]) <;> exact rfl)); simp only [addFl]) | ((with_reducible first | apply zai | apply zak | apply zag | apply zae | apply zac | apply zaj | apply zaf | apply zam | (apply zad; · simp [zaa, *]) | (apply zab; · simp [zaa, *])); try simp only [Then, Ops, OutB]) | simp only [Nat.reduceEqDiff, reduceIte, OutB, Then]))
    with_reducible refine zaz hC (Clm.spanL p.wide).length (by unfold fuelL; omega) (fun j st => ∃ hp tc, Inv (Clm.szL p i ++ Clm.szW p (p.long.lo + i) j) hp tc ∧ st = { tm := tmA 56 [(7, .int .i64 (p.wide.lo + j)), (6, .int .i64 (p.long.lo + i)), (5, .ptr H.length 0), (3, .ptr b3 0), (2, .ptr b2 0), (0, .yield l)], df := [], hp := hp, tc := tc }) ?_ ?_ ?_
    · refine ⟨_, _, by simpa [Clm.szW] using hV, ?_⟩
      refine st_is ?_ rfl rfl rfl
      simp [zan, zap]
    · clear hV f0 f1 f2 f3 f4 f5 g0 g1 g2 g3 g4 g5 h0 h1 h2 h3 h4 h5 hp tc
      rintro j st hj ⟨hp, tc, hV, rfl⟩
      obtain ⟨⟨f0, f1, f2, f3, f4, f5⟩, ⟨g0, g1, g2, g3, g4, g5⟩, ⟨h0, h1, h2, h3, h4, h5⟩⟩ := hfacts _ _ _ hV
      have e2 : p.wide.lo + (j : Int) ≤ p.wide.hi := by omega
      (repeat (first | (with_reducible apply zah; (focus ((conv => lhs; simp [Nat.testBit_eq_decide_div_mod_eq, *]) <;> exact rfl)); simp only [addFl]) | ((with_reducible first | apply zai | apply zak | apply zag | apply zae | apply zac | apply zaj | apply zaf | apply zam | (apply zad; · simp [zaa, *]) | (apply zab; · simp [zaa, *])); try simp only [Then, Ops, OutB]) | simp only [Nat.reduceEqDiff, reduceIte, OutB, Then]))
      with_reducible refine zaz hC (Clm.spanL p.high).length (by unfold fuelL; omega) (fun k st => ∃ hp tc, Inv (Clm.szL p i ++ Clm.szW p (p.long.lo + i) j ++ Clm.szH p (p.long.lo + i) (p.wide.lo + j) k) hp tc ∧ st = { tm := tmA 56 [(8, .int .i64 (p.high.lo + k)), (7, .int .i64 (p.wide.lo + j)), (6, .int .i64 (p.long.lo + i)), (5, .ptr H.length 0), (3, .ptr b3 0), (2, .ptr b2 0), (0, .yield l)], df := [], hp := hp, tc := tc }) ?_ ?_ ?_
      · refine ⟨_, _, by simpa [Clm.szH] using hV, ?_⟩
        refine st_is ?_ rfl rfl rfl
        simp [zan, zap]
      · clear hV f0 f1 f2 f3 f4 f5 g0 g1 g2 g3 g4 g5 h0 h1 h2 h3 h4 h5 hp tc
        rintro k st hk ⟨hp, tc, hV, rfl⟩
        obtain ⟨⟨f0, f1, f2, f3, f4, f5⟩, ⟨g0, g1, g2, g3, g4, g5⟩, ⟨h0, h1, h2, h3, h4, h5⟩⟩ := hfacts _ _ _ hV
        have e3 : p.high.lo + (k : Int) ≤ p.high.hi := by omega
        have hpre := Clm.sz_pre (gl i hi) (gw j hj) (gh k hk)
        obtain ⟨b, hp', tc', s1, s2, s3⟩ := hstep _ _ _ _ hV hpre
        have hw : IntKind.i64.wrap (p.high.lo + ↑k + 1) = p.high.lo + ↑k + 1 := zas (by omega) (by omega)
        have HS := hideP (And.intro hpre (And.intro s2 s3))
        clear s2 s3 hpre hV hfacts hstep hY hInv hI
        cases b with
        | true =>
          (repeat (first | (with_reducible apply zah; (focus ((conv => lhs; simp [Nat.testBit_eq_decide_div_mod_eq, *]) <;> exact rfl)); simp only [addFl]) | ((with_reducible first | apply zai | apply zak | apply zag | apply zae | apply zac | apply zaj | apply zaf | apply zam | (apply zad; · simp [zaa, *]) | (apply zab; · simp [zaa, *])); try simp only [Then, Ops, OutB]) | simp only [Nat.reduceEqDiff, reduceIte, OutB, Then]))
          obtain ⟨hpre, s2, s3⟩ := HS.out
          have hn := s2 rfl
          rw [List.append_assoc, ← Clm.szH_succ _ _ (gh k hk)] at hn
          with_reducible refine ⟨_, _, hn, ?_⟩
          refine st_is ?_ rfl rfl rfl
          simp [zan, zap, Int.add_assoc]
        | false =>
          (repeat (first | (with_reducible apply zah; (focus ((conv => lhs; simp [Nat.testBit_eq_decide_div_mod_eq, *]) <;> exact rfl)); simp only [addFl]) | ((with_reducible first | apply zai | apply zak | apply zag | apply zae | apply zac | apply zaj | apply zaf | apply zam | (apply zad; · simp [zaa, *]) | (apply zab; · simp [zaa, *])); try simp only [Then, Ops, OutB, reduceIte]) | simp only [Nat.reduceEqDiff, reduceIte]))
          obtain ⟨hpre, s2, s3⟩ := HS.out
          obtain ⟨t1, t2, t3⟩ := s3 rfl
          exact zao (.inr rfl) rfl t1.len (by simp only [resL]; rfl) ⟨rfl, t3, t1, .inr ⟨_, hpre, t2⟩⟩
      · clear hV f0 f1 f2 f3 f4 f5 g0 g1 g2 g3 g4 g5 h0 h1 h2 h3 h4 h5 hp tc
        rintro st ⟨hp, tc, hV, rfl⟩
        obtain ⟨⟨f0, f1, f2, f3, f4, f5⟩, ⟨g0, g1, g2, g3, g4, g5⟩, ⟨h0, h1, h2, h3, h4, h5⟩⟩ := hfacts _ _ _ hV
        rw [List.append_assoc, ← Clm.szW_succ _ (gw j hj)] at hV
        have e3 : ¬ (p.high.lo + ((Clm.spanL p.high).length : Int) ≤ p.high.hi) := by omega
        have hw : IntKind.i64.wrap (p.wide.lo + ↑j + 1) = p.wide.lo + ↑j + 1 := zas (by omega) (by omega)
        clear hnh hnw hnl
        (repeat (first | (with_reducible apply zah; (focus ((conv => lhs; simp [Nat.testBit_eq_decide_div_mod_eq, *]) <;> exact rfl)); simp only [addFl]) | ((with_reducible first | apply zai | apply zak | apply zag | apply zae | apply zac | apply zaj | apply zaf | apply zam | (apply zad; · simp [zaa, *]) | (apply zab; · simp [zaa, *])); try simp only [Then, Ops, OutB, reduceIte]) | simp only [Nat.reduceEqDiff, reduceIte, OutB, Then]))
        with_reducible refine ⟨_, _, hV, ?_⟩
        refine st_is ?_ rfl rfl rfl
        simp [zan, zap, Int.add_assoc]
    · clear hV f0 f1 f2 f3 f4 f5 g0 g1 g2 g3 g4 g5 h0 h1 h2 h3 h4 h5 hp tc
      rintro st ⟨hp, tc, hV, rfl⟩
      obtain ⟨⟨f0, f1, f2, f3, f4, f5⟩, ⟨g0, g1, g2, g3, g4, g5⟩, ⟨h0, h1, h2, h3, h4, h5⟩⟩ := hfacts _ _ _ hV
      rw [← Clm.szL_succ (gl i hi)] at hV
      have e3 : ¬ (p.wide.lo + ((Clm.spanL p.wide).length : Int) ≤ p.wide.hi) := by omega
      have hw : IntKind.i64.wrap (p.long.lo + ↑i + 1) = p.long.lo + ↑i + 1 := zas (by omega) (by omega)
      clear hnh hnw hnl
      (repeat (first | (with_reducible apply zah; (focus ((conv => lhs; simp [Nat.testBit_eq_decide_div_mod_eq, *]) <;> exact rfl)); simp only [addFl]) | ((with_reducible first | apply zai | apply zak | apply zag | apply zae | apply zac | apply zaj | apply zaf | apply zam | (apply zad; · simp [zaa, *]) | (apply zab; · simp [zaa, *])); try simp only [Then, Ops, OutB, reduceIte]) | simp only [Nat.reduceEqDiff, reduceIte, OutB, Then]))
      with_reducible refine ⟨_, _, hV, ?_⟩
      refine st_is ?_ rfl rfl rfl
      simp [zan, zap, Int.add_assoc]
  · rintro st ⟨hp, tc, hV, rfl⟩
    obtain ⟨⟨f0, f1, f2, f3, f4, f5⟩, ⟨g0, g1, g2, g3, g4, g5⟩, ⟨h0, h1, h2, h3, h4, h5⟩⟩ := hfacts _ _ _ hV
    rw [Clm.sz_all] at hV
    obtain ⟨W, t0, t1, t2, t3, t4⟩ := (hInv _ _ _).1 hV
    have e3 : ¬ (p.long.lo + ((Clm.spanL p.long).length : Int) ≤ p.long.hi) := by omega
    clear hnh hnw hnl
    (repeat (first | (with_reducible apply zah; (focus ((conv => lhs; simp [Nat.testBit_eq_decide_div_mod_eq, *]) <;> exact rfl)); simp only [addFl]) | ((with_reducible first | apply zai | apply zak | apply zag | apply zae | apply zac | apply zaj | apply zaf | apply zam | (apply zad; · simp [zaa, *]) | (apply zab; · simp [zaa, *])); try simp only [Then, Ops, OutB, reduceIte]) | simp only [Nat.reduceEqDiff, reduceIte, OutB, Then]))
    exact zao (.inr rfl) rfl t1.len (by simp only [resL]; rfl) ⟨rfl, t4, t1, .inl ⟨W, t0, t3⟩⟩
end K
end Ev
end Go.Proofs.Ytimgnlellflciaa

/- Package clamp, gone through: the ways in which a clamp can be. -/
namespace Go.Proofs.Ytimgnlellflciaa
open Go
namespace Ev
namespace K
attribute [local simp] ev1 wantG spineK spine float xnew xval xeff zaa zaq zbc zav zaw addFl cellsOf pickC alive slLen slFt binI maxA maxK minA minK aeqK aeqS AV.cells spA zar fillA setAt bitsI nat_nn zbg AV.plain apart
set_option maxRecDepth 100000
set_option maxHeartbeats 4000000
def LogC (call : CallF) (c : Clm.Cl) : Prop := ∀ (H : List AB) (yb mb : Nat), Yd c yb mb H → ∀ q, QOk q → q.num < c.piles.length →
  ∃ H' tc, call (.fn (.func 93) [] []) [.ptr yb 0, qA q] H = some (.ret (logA c q), H', tc) ∧ (∀ j ∈ tc, j = mb) ∧ Kp tc H H' ∧ Yd c yb mb H'
def SizesC (call : CallF) : Prop := ∀ (H : List AB) (yb : Nat) (n pack : Int), call (.fn (.func 92) [] []) [.ptr yb 0, .int .i64 n, .int .i64 pack] H = some (.ret (.fn (.func 96) [] [.ptr H.length 0, .ptr (H.length + 1) 0, .ptr (H.length + 2) 0]), H ++ [.cells [.ptr yb 0], .cells [.int .i64 n], .cells [.int .i64 pack]], [])
def wayCs (n : Nat) (pack : Int) (w : Clm.Way) : List AV := [.int .i64 n, .int .i64 w.size.l, .int .i64 w.size.w, .int .i64 w.size.h, .int .i64 pack] ++ arr7 fun i => w.log.getD i ⟨0, 0⟩
theorem zen (n : Nat) (pack : Int) (w : Clm.Way) : (wayCs n pack w).length = 19 := rfl
inductive WaysV (n : Nat) (pack : Int) (H : List AB) (lo : Nat) : AV → List Clm.Way → Prop
  | none : WaysV n pack H lo .nils []
  | some (b : Nat) (ws : List Clm.Way) : lo ≤ b → H[b]? = some (.cells (ws.flatMap (wayCs n pack))) → ws ≠ [] → WaysV n pack H lo (.sl b 0 ws.length 19) ws
def filt (c : Clm.Cl) (n : Nat) (pack : Int) (counts : Nat) (d : List Clm.Size) : List Clm.Way := d.filterMap fun s => if ((Clm.logOf c n pack counts s).headD Clm.Sp.no).some then some ⟨s, Clm.logOf c n pack counts s⟩ else none
theorem zqp (c : Clm.Cl) (n : Nat) (pack : Int) (counts : Nat) (d : List Clm.Size) : (filt c n pack counts d).length ≤ d.length := List.length_filterMap_le _ _
theorem zyv (c : Clm.Cl) (n : Nat) (pack : Int) (counts : Nat) (d : List Clm.Size) (s : Clm.Size) : filt c n pack counts (d ++ [s]) = filt c n pack counts d ++ (if ((Clm.logOf c n pack counts s).headD Clm.Sp.no).some then [⟨s, Clm.logOf c n pack counts s⟩] else []) := by
  unfold filt
  rw [List.filterMap_append]
  congr 1
  simp only [List.filterMap_cons, List.filterMap_nil]
  split <;> (rename_i h; split at h <;> simp_all)
inductive Lst (n : Nat) (pack : Int) (lo : Nat) (G : List AB) : List Nat → List Clm.Way → AV → Prop
  | none : Lst n pack lo G [] [] .nils
  | some (b : Nat) (ws : List Clm.Way) : lo < b → G[b]? = some (.cells (ws.flatMap (wayCs n pack))) → ws ≠ [] → Lst n pack lo G [b] ws (.sl b 0 ws.length 19)
theorem Lst.kp {n : Nat} {pack : Int} {lo : Nat} {G G' : List AB} {W : List Nat} {ws : List Clm.Way} {v : AV} (h : Lst n pack lo G W ws v) {S : List Nat} (k : Kp S G G') (hs : ∀ j ∈ W, j ∉ S) : Lst n pack lo G' W ws v := by
  cases h with
  | none => exact .none
  | some b ws h1 h2 h3 => exact .some b ws h1 (k.at h2 (hs b (by simp))) h3
structure WJ (c : Clm.Cl) (n : Nat) (pack : Int) (counts yb mb o : Nat) (r : ALoop) (d : List Clm.Size) (W : List Nat) (G : List AB) : Prop where
  yd : Yd c yb mb G
  b0 : G[o]? = some (.cells [.ptr yb 0])
  b1 : G[o + 1]? = some (.cells [.int .u64 counts])
  b3 : G[o + 3]? = some (.cells [.fn (.func 91) [] []])
  bd : G[o + 7]? = some .dfr
  bl : G[o + 8]? = some (.loop r)
  b2 : ∃ lv, G[o + 2]? = some (.cells [lv]) ∧ Lst n pack (o + 8) G W (filt c n pack counts d) lv
theorem zhf (n : Nat) (pack : Int) : ∀ ws : List Clm.Way, (ws.flatMap (wayCs n pack)).length = ws.length * 19
  | [] => rfl
  | w :: ws => by rw [List.flatMap_cons, List.length_append, zhf n pack ws, zen, List.length_cons]; omega
theorem zgt {s : Clm.Sp} (h : s.hi - s.lo ≤ 1) : (Clm.spanL s).length ≤ 2 := by rw [Clm.span_len]; omega
theorem flat_len {α β : Type} (f : α → List β) (k : Nat) : ∀ (l : List α), (∀ a ∈ l, (f a).length ≤ k) → (l.flatMap f).length ≤ l.length * k
  | [], _ => by simp
  | a :: l, h => by
    have h1 := flat_len f k l fun b hb => h b (by simp [hb])
    have h2 := h a (by simp)
    simp only [List.flatMap_cons, List.length_append, List.length_cons, Nat.add_mul, Nat.one_mul]
    omega
theorem zmb {c : Clm.Cl} (hc : Clm.Fine c) {n : Nat} (hn : n < c.piles.length) : (Clm.sizes c.piles[n]).length ≤ 8 := by
  have hpl := hc.pile _ (List.getElem_mem hn)
  generalize c.piles[n] = p at hpl
  have h1 := zgt (s := p.long) (by omega)
  have h2 := zgt (s := p.wide) (by omega)
  have h3 := zgt (s := p.high) (by omega)
  unfold Clm.sizes
  refine Nat.le_trans (flat_len _ 4 _ fun l _ => Nat.le_trans (flat_len _ 2 _ fun w _ => ?_) ?_) ?_
  · simpa using h3
  · omega
  · omega
theorem ztk (C : Cfg) (hC : C.calm = true) (m : Nat) (h96 : Has C 96 af96) (c : Clm.Cl) (hc : Clm.Fine c) (hSz : SizesC (Ev.call C (m + 2))) (hLog : LogC (Ev.call C m) c) (hSome : SomeC (Ev.call C m)) (H : List AB) (yb mb : Nat) (hY : Yd c yb mb H) (n : Nat) (hn : n < c.piles.length) (pack : Int) (hp0 : 0 ≤ pack) (hp1 : pack ≤ 5) (counts : Nat) :
    Does (ev C (Ev.call C (m + 2)) H.length none af86.body { tm := tmA af86.ntmps (zipI 0 [.ptr yb 0, .int .i64 n, .int .i64 pack, .int .u64 counts] []), df := [], hp := H, tc := [] })
      (Ends C H.length af86.res fun v hp tc => (∀ j ∈ tc, j = mb) ∧ Kp tc H hp ∧ Yd c yb mb hp ∧ WaysV n pack hp H.length v (Clm.ways c n pack counts)) := by
  unfold af86
  simp only [zipI]
  unfold SizesC at hSz
  (repeat (first | (with_reducible apply zah; (focus ((conv => lhs; simp [Nat.testBit_eq_decide_div_mod_eq, *]) <;> exact rfl)); simp only [addFl]) | ((with_reducible first | apply zai | apply zak | apply zag | apply zae | apply zac | apply zaj | apply zaf | apply zam | (apply zad; · simp [zaa, *]) | (apply zab; · simp [zaa, *])); try simp only [Then, Ops]) | simp only [Nat.reduceEqDiff, reduceIte, OutB, Then]))
  with_reducible apply zht (gf := 96) (first := []) (captured := [.ptr (H.length + 4) 0, .ptr (H.length + 4 + 1) 0, .ptr (H.length + 4 + 2) 0])
  · simp [zaa]
  · intro r hr
    have ra := congrArg ALoop.assign hr
    have rb := congrArg ALoop.body hr
    have rt := congrArg ALoop.tm hr
    have rp := congrArg ALoop.params hr
    have rs := congrArg ALoop.st hr
    have rq := congrArg ALoop.pend hr
    clear hr
    simp only at ra rb rt rp rs rq
    simp only [List.length_append, List.length_cons, List.length_nil, Nat.zero_add, Nat.add_assoc, Nat.reduceAdd]
    have hyl := get_lt hY.y
    obtain ⟨es, hm, hes⟩ := hY.m
    have hml := get_lt hm
    have hgn : c.piles[n]? = some c.piles[n] := List.getElem?_eq_getElem hn
    obtain ⟨H1, hH1⟩ : ∃ H1, H1 = H ++ [.cells [.ptr yb 0], .cells [.int .u64 counts], .cells [.nils], .cells [.fn (.func 91) [] []], .cells [.ptr yb 0], .cells [.int .i64 n], .cells [.int .i64 pack], .dfr, .loop r] := ⟨_, rfl⟩
    have hY1 : Yd c yb mb H1 := by rw [hH1]; exact hY.app _
    have hlen1 : H1.length = H.length + 9 := by rw [hH1]; simp
    have hJ0 : WJ c n pack counts yb mb H.length r [] [] H1 := ⟨hY1, by rw [hH1]; simp, by rw [hH1]; simp, by rw [hH1]; simp, by rw [hH1]; simp, by rw [hH1]; simp, .nils, by rw [hH1]; simp, .none⟩
    have hstep : Yields (Ev.call C (m + 1)) (H.length + 8) [mb, H.length + 2, H.length + 8] (fun s => sizeA n s pack) (Clm.sizes c.piles[n]) [] (fun _ => True) (WJ c n pack counts yb mb H.length r) (fun _ _ => False) := by
      refine ⟨fun d W G G' h k _ => ?_, ?_⟩
      · obtain ⟨lv, l1, l2⟩ := h.b2
        exact ⟨h.yd.kp k (by simp) (by simp), k.at h.b0 (by simp), k.at h.b1 (by simp), k.at h.b3 (by simp), k.at h.bd (by simp), k.at h.bl (by simp), lv, k.at l1 (by simp), l2.kp k (by simp)⟩
      · intro d s W G hpre hJ
        obtain ⟨lv, l1, l2⟩ := hJ.b2
        have hsz : (filt c n pack counts d).length + 1 ≤ bound := by
          have h1 := zqp c n pack counts d
          have h2 := hpre.length_le
          have h3 := zmb hc hn
          rw [List.length_append] at h2
          simp at h2
          unfold bound; omega
        have hms : s ∈ Clm.sizes c.piles[n] := hpre.subset (by simp)
        rw [Clm.mem_sizes] at hms
        have hpl := hc.pile _ (List.getElem_mem hn)
        simp only [Clm.Sp.has] at hms
        have hqk : QOk ⟨n, s, pack, counts⟩ := ⟨by simp only; omega, by simp only; omega, by simp only; omega, by simp only; omega, by simp only; omega, by simp only; omega, hp0, hp1⟩
        have hlW : ∀ j ∈ W, H.length + 8 < j := by
          generalize filt c n pack counts d = ws at l2
          cases l2 with
          | none => simp
          | some b ws q1 q2 q3 => simpa using q1
        have hround := zjx (C := C) (n := m) (l := H.length + 8) (args := [sizeA n s pack]) (H := G) (r := r)
          (Q := fun e hp tc => e = .normal ∧ (∀ j ∈ tc, j = H.length + 8 ∨ j = H.length + 2 ∨ j = mb ∨ j ∈ W) ∧ Kp tc G hp ∧ (∃ W', (∀ j ∈ W', j ∈ W ∨ G.length ≤ j) ∧ WJ c n pack counts yb mb H.length { r with st := .busy } (d ++ [s]) W' hp)) hC hJ.bl rs rq (by rw [rp]; rfl) (by
          generalize hrz : ({ r with st := .busy } : ALoop) = rz
          rw [ra, rb, rt, rp]
          rw [setP1]
          simp only [sizeA]
          obtain ⟨f0, f1, f2, f3, f4, f5⟩ := bk' hJ.b0
          have hbl := hJ.bl
          have hlG := get_lt hbl
          (repeat (first | (with_reducible apply zah; (focus ((conv => lhs; simp [Nat.testBit_eq_decide_div_mod_eq, *]) <;> exact rfl)); simp only [addFl]) | ((with_reducible first | apply zai | apply zak | apply zag | apply zae | apply zac | apply zaj | apply zaf | apply zam | (apply zad; · simp [zaa, *]) | (apply zab; · simp [zaa, *])); try simp only [Ops]) | simp only [Nat.reduceEqDiff, reduceIte, OutB, Then]))
          refine ⟨trivial, (List.getElem?_append_left hlG).trans hbl, ?_⟩
          obtain ⟨G2, hG2⟩ : ∃ G2, G2 = (G ++ [AB.cells [.int .i64 n, .int .i64 s.l, .int .i64 s.w, .int .i64 s.h, .int .i64 pack]]).set (H.length + 8) (.loop rz) := ⟨_, rfl⟩
          have atG : ∀ {j x}, G[j]? = some x → j ≠ H.length + 8 → G2[j]? = some x := fun hx hj => by
            rw [hG2, List.getElem?_set_ne (by omega), List.getElem?_append_left (get_lt hx)]; exact hx
          have k0 := atG hJ.b0 (by omega)
          have k1 := atG hJ.b1 (by omega)
          have k2 := atG l1 (by omega)
          have k3 := atG hJ.b3 (by omega)
          have kd := atG hJ.bd (by omega)
          have kl : G2[H.length + 8]? = some (.loop rz) := by rw [hG2, List.getElem?_set_self (by simp; omega)]
          have ks : G2[G.length]? = some (.cells [.int .i64 n, .int .i64 s.l, .int .i64 s.w, .int .i64 s.h, .int .i64 pack]) := by
            rw [hG2, List.getElem?_set_ne (by omega)]; simp
          have hY2 : Yd c yb mb G2 := by
            obtain ⟨es3, m1, m2⟩ := hJ.yd.m
            exact ⟨hY.ne, atG hJ.yd.y (by omega), es3, atG m1 (by omega), m2⟩
          have hlen2 : G2.length = G.length + 1 := by rw [hG2]; simp
          have hK2 : Kp [H.length + 8] G G2 := by rw [hG2]; exact (Kp.app G _).set _ _ (by simp)
          have k2W : Lst n pack (H.length + 8) G2 W (filt c n pack counts d) lv := l2.kp hK2 fun j hj => by have := hlW j hj; simp; omega
          rw [← hG2]
          clear f0 f1 f2 f3 f4 f5
          obtain ⟨G3, tc3, c1, c2, c3', c4⟩ := hLog G2 yb mb hY2 ⟨n, s, pack, counts⟩ hqk hn
          have c3 : Kp [mb] G2 G3 := c3'.mono fun b _ h => by simpa using c2 b h
          simp only [qA, logA] at c1
          have hsm := fun H => hSome H (logF c ⟨n, s, pack, counts⟩ 0)
          have nl : ∀ {j}, H.length ≤ j → j ∉ [mb] := fun h => by simp; omega
          obtain ⟨e0, e1, e2, e3, e4, e5⟩ := bk' k0
          obtain ⟨f0, f1, f2, f3, f4, f5⟩ := bk' k1
          obtain ⟨g0, g1, g2, g3, g4, g5⟩ := bk' ks
          obtain ⟨o0, o1, o2, o3, o4, o5⟩ := bk' (c3.at k3 (nl (by omega)))
          obtain ⟨p0, p1, p2, p3, p4, p5⟩ := bk' (c3.at k2 (nl (by omega)))
          obtain ⟨q0, q1, q2, q3, q4, q5⟩ := bk' (c3.at ks (nl (by omega)))
          have kl3 := c3.at kl (nl (by omega))
          have kd3 := c3.at kd (nl (by omega))
          have k03 := c3.at k0 (nl (by omega))
          have k13 := c3.at k1 (nl (by omega))
          have k33 := c3.at k3 (nl (by omega))
          have k2W3 : Lst n pack (H.length + 8) G3 W (filt c n pack counts d) lv := k2W.kp c3 fun j hj => by have := hlW j hj; simp; omega
          have hl3 : G.length + 1 ≤ G3.length := by have := c3.len; omega
          have h1 : G.length < G3.length := by omega
          have t5 := zdl (logF c ⟨n, s, pack, counts⟩)
          have t6 := zil (logF c ⟨n, s, pack, counts⟩)
          have t7 := zhn (logF c ⟨n, s, pack, counts⟩)
          have t8 := zed (logF c ⟨n, s, pack, counts⟩) (i := 0) (by decide)
          simp only [Nat.zero_mul, List.drop_zero] at t8
          have hfil := zyv c n pack counts d s
          have hhead : (Clm.logOf c n pack counts s).headD Clm.Sp.no = logF c ⟨n, s, pack, counts⟩ 0 := (Clm.bwd_head _ _).symm
          rw [hhead] at hfil
          have hway : wayCs n pack ⟨s, Clm.logOf c n pack counts s⟩ = [.int .i64 n, .int .i64 s.l, .int .i64 s.w, .int .i64 s.h, .int .i64 pack] ++ arr7 (logF c ⟨n, s, pack, counts⟩) := rfl
          have HA := hideP (And.intro hJ (And.intro k03 (And.intro k13 (And.intro k33 (And.intro kd3 (And.intro kl3 (And.intro k2W3 (And.intro hfil (And.intro hway (And.intro c2 (And.intro c3' (And.intro c4 (And.intro hK2 (And.intro hlW (And.intro hl3 hlen2)))))))))))))))
          have hyl2 : yb < G2.length := get_lt hY2.y
          cases hso : (logF c ⟨n, s, pack, counts⟩ 0).some with
          | false =>
            simp only [hso] at hsm
            clear hfil hway c2 c3 c3' c4 hK2 hlW hl3 hlen2 k0 k1 k2 k3 kd kl ks kl3 kd3 k03 k13 k33 k2W k2W3 hJ hG2 atG hhead hY1 hH1 hlen1 ra rb rt rp rs rq hY hm hes hSz hLog hSome l2 l1
            clear hrz
            (repeat (first | (with_reducible apply zah; (focus ((conv => lhs; simp [Nat.testBit_eq_decide_div_mod_eq, *]) <;> exact rfl)); simp only [addFl]) | ((with_reducible first | apply zai | apply zak | apply zag | apply zae | apply zac | apply zaj | apply zaf | apply zam | (apply zad; · simp [zaa, *]) | (apply zab; · simp [zaa, *])); try simp only [Then, Ops, OutB]) | simp only [Nat.reduceEqDiff, reduceIte, OutB, Then]))
            obtain ⟨hJ, k03, k13, k33, kd3, kl3, k2W3, hfil, hway, c2, c3', c4, hK2, hlW, hl3, hlen2⟩ := HA.out
            rw [hso] at hfil
            simp only [Bool.false_eq_true, if_false, List.append_nil] at hfil
            refine ⟨by simp, (List.getElem?_append_left (get_lt kl3)).trans kl3, by simp; omega, trivial, ?_, ?_, W, fun j hj => .inl hj, ?_⟩
            · intro j hj
              simp only [List.mem_append, List.mem_filter, decide_eq_true_eq, List.mem_singleton] at hj
              rcases hj with ⟨rfl, h⟩ | ⟨h, _⟩ | h
              · omega
              · exact .inr (.inr (.inl (c2 j h)))
              · exact .inl h
            · exact (((hK2.trans2 c3').trans (Kp.app _ _))).mono fun b _ h => List.mem_append_right _ h
            · refine ⟨c4.app _, (Kp.app (S := []) _ _).at k03 (by simp), (Kp.app (S := []) _ _).at k13 (by simp), (Kp.app (S := []) _ _).at k33 (by simp), (Kp.app (S := []) _ _).at kd3 (by simp), (Kp.app (S := []) _ _).at kl3 (by simp), lv, (Kp.app (S := []) _ _).at p1 (by simp), ?_⟩
              rw [hfil]
              exact k2W3.kp (Kp.app (S := []) _ _) (by simp)
          | true =>
            simp only [hso] at hsm
            have hcl := zhf n pack (filt c n pack counts d)
            clear hfil hway c2 c3 c3' c4 hK2 hlW hl3 hlen2 k0 k1 k2 k3 kd kl ks kl3 kd3 k03 k13 k33 k2W hJ hG2 atG hhead hY1 hH1 hlen1 ra rb rt rp rs rq hY hm hes hSz hLog hSome l2 l1
            clear hrz
            rw [hso] at HA
            simp only [if_true] at HA
            have hb2 : ∀ n, H.length + 2 < G3.length + n := by omega
            have hb1 : 1 ≤ bound := by decide
            generalize filt c n pack counts d = ws at *
            cases k2W3 with
            | none =>
              (repeat (first | (with_reducible apply zah; (focus ((conv => lhs; simp [Nat.testBit_eq_decide_div_mod_eq, *]) <;> exact rfl)); simp only [addFl]) | ((with_reducible first | apply zai | apply zak | apply zag | apply zae | apply zac | apply zaj | apply zaf | apply zam | (apply zad; · simp [zaa, *]) | (apply zab; · simp [zaa, *])); try simp only [Then, Ops, OutB]) | simp only [Nat.reduceEqDiff, reduceIte, OutB, Then]))
              obtain ⟨hJ, k03, k13, k33, kd3, kl3, k2W3, hfil, hway, c2, c3', c4, hK2, hlW, hl3, hlen2⟩ := HA.out
              have hk3 := hK2.trans2 c3'
              obtain ⟨hp', hhp⟩ : ∃ hp', hp' = G3.set (H.length + 2) (.cells [.sl (G3.length + 2) 0 1 19]) ++ [.cells (arr7 (logF c ⟨n, s, pack, counts⟩)), .cells (.int .i64 n :: .int .i64 s.l :: .int .i64 s.w :: .int .i64 s.h :: .int .i64 pack :: arr7 (logF c ⟨n, s, pack, counts⟩)), .cells (.int .i64 n :: .int .i64 s.l :: .int .i64 s.w :: .int .i64 s.h :: .int .i64 pack :: arr7 (logF c ⟨n, s, pack, counts⟩))] := ⟨_, rfl⟩
              have at5 : ∀ {j x}, G3[j]? = some x → j ≠ H.length + 2 → hp'[j]? = some x := fun hx h1 => by
                rw [hhp, List.getElem?_append_left (by simpa using get_lt hx), List.getElem?_set_ne (by omega)]; exact hx
              have h2' : hp'[H.length + 2]? = some (.cells [.sl (G3.length + 2) 0 (1) 19]) := by
                rw [hhp, List.getElem?_append_left (by simpa using p0), List.getElem?_set_self (by simpa using p0)]
              have hnew : hp'[G3.length + 2]? = some (.cells (.int .i64 n :: .int .i64 s.l :: .int .i64 s.w :: .int .i64 s.h :: .int .i64 pack :: arr7 (logF c ⟨n, s, pack, counts⟩))) := by
                rw [hhp, List.getElem?_append_right (by simp)]; simp
              rw [← hhp]
              have hlen5 : hp'.length = G3.length + 3 := by rw [hhp]; simp
              obtain ⟨es5, m51, m52⟩ := c4.m
              refine ⟨by simp, at5 kl3 (by omega), by omega, trivial, ?_, ?_, [G3.length + 2], fun j hj => by simp at hj; omega, ?_⟩
              · intro j hj
                simp only [List.mem_append, List.mem_filter, decide_eq_true_eq, List.mem_singleton] at hj ⊢
                rcases hj with ⟨h, _⟩ | ⟨rfl, h⟩ | ⟨h, _⟩ | h
                · exact .inr (.inl h)
                · omega
                · exact .inr (.inr (.inl (c2 j h)))
                · exact .inl h
              · rw [hhp]
                refine Kp.trans ?_ (Kp.app _ _)
                refine Kp.set ?_ _ _ (fun h => List.mem_append_left _ (List.mem_filter.2 ⟨by simp, by simpa using h⟩))
                exact hk3.mono fun j _ h => List.mem_append_right _ (List.mem_append_right _ h)
              · refine ⟨⟨hY2.ne, at5 c4.y (by omega), es5, at5 m51 (by omega), m52⟩, at5 k03 (by omega), at5 k13 (by omega), at5 k33 (by omega), at5 kd3 (by omega), at5 kl3 (by omega), _, h2', ?_⟩
                rw [hfil]
                have hne := List.append_ne_nil_of_right_ne_nil ([] : List Clm.Way) (show [(⟨s, Clm.logOf c n pack counts s⟩ : Clm.Way)] ≠ [] by simp)
                have := Lst.some (n := n) (pack := pack) (lo := H.length + 8) (G := hp') (G3.length + 2) (([] : List Clm.Way) ++ [⟨s, Clm.logOf c n pack counts s⟩]) (by omega) (by rw [hnew, List.flatMap_append, List.flatMap_cons, hway, List.flatMap_nil]; simp) hne
                simpa using this
            | some b ws z1 z2 z3 =>
              generalize hcs : ws.flatMap (wayCs n pack) = cs at *
              have HC := hideP hcs
              clear hcs
              obtain ⟨x0, x1, x2, x3, x4, x5⟩ := bk' z2
              have hbb : ¬ b = H.length + 2 := by omega
              (repeat (first | (with_reducible apply zah; (focus ((conv => lhs; simp [Nat.testBit_eq_decide_div_mod_eq, *]) <;> exact rfl)); simp only [addFl]) | ((with_reducible first | apply zai | apply zak | apply zag | apply zae | apply zac | apply zaj | apply zaf | apply zam | (apply zad; · simp [zaa, *]) | (apply zab; · simp [zaa, *])); try simp only [Then, Ops, OutB]) | simp only [Nat.reduceEqDiff, reduceIte, OutB, Then]))
              have hcs := HC.out
              obtain ⟨hJ, k03, k13, k33, kd3, kl3, k2W3, hfil, hway, c2, c3', c4, hK2, hlW, hl3, hlen2⟩ := HA.out
              have hk3 := hK2.trans2 c3'
              obtain ⟨hp', hhp⟩ : ∃ hp', hp' = (G3.set b .dead).set (H.length + 2) (.cells [.sl (G3.length + 2) 0 (ws.length + 1) 19]) ++ [.cells (arr7 (logF c ⟨n, s, pack, counts⟩)), .cells (.int .i64 n :: .int .i64 s.l :: .int .i64 s.w :: .int .i64 s.h :: .int .i64 pack :: arr7 (logF c ⟨n, s, pack, counts⟩)), .cells (cs ++ .int .i64 n :: .int .i64 s.l :: .int .i64 s.w :: .int .i64 s.h :: .int .i64 pack :: arr7 (logF c ⟨n, s, pack, counts⟩))] := ⟨_, rfl⟩
              have at5 : ∀ {j x}, G3[j]? = some x → j ≠ H.length + 2 → j ≠ b → hp'[j]? = some x := fun hx h1 h2 => by
                rw [hhp, List.getElem?_append_left (by simpa using get_lt hx), List.getElem?_set_ne (by omega), List.getElem?_set_ne (by omega)]; exact hx
              have h2' : hp'[H.length + 2]? = some (.cells [.sl (G3.length + 2) 0 (ws.length + 1) 19]) := by
                rw [hhp, List.getElem?_append_left (by simpa using p0), List.getElem?_set_self (by simpa using p0)]
              have hnew : hp'[G3.length + 2]? = some (.cells (cs ++ .int .i64 n :: .int .i64 s.l :: .int .i64 s.w :: .int .i64 s.h :: .int .i64 pack :: arr7 (logF c ⟨n, s, pack, counts⟩))) := by
                rw [hhp, List.getElem?_append_right (by simp)]; simp
              rw [← hhp]
              have hlen5 : hp'.length = G3.length + 3 := by rw [hhp]; simp
              obtain ⟨es5, m51, m52⟩ := c4.m
              refine ⟨by simp, at5 kl3 (by omega) (by omega), by omega, trivial, ?_, ?_, [G3.length + 2], fun j hj => by simp at hj; omega, ?_⟩
              · intro j hj
                simp only [List.mem_append, List.mem_filter, decide_eq_true_eq, List.mem_singleton] at hj ⊢
                rcases hj with ⟨h, _⟩ | ⟨h, _⟩ | ⟨rfl, h⟩ | ⟨h, _⟩ | h
                · exact .inr (.inl h)
                · exact .inr (.inr (.inr h))
                · omega
                · exact .inr (.inr (.inl (c2 j h)))
                · exact .inl h
              · rw [hhp]
                refine Kp.trans ?_ (Kp.app _ _)
                refine Kp.set ?_ _ _ (fun h => List.mem_append_left _ (List.mem_filter.2 ⟨by simp, by simpa using h⟩))
                refine Kp.set ?_ _ _ (fun h => List.mem_append_right _ (List.mem_append_left _ (List.mem_filter.2 ⟨by simp, by simpa using h⟩)))
                exact hk3.mono fun j _ h => List.mem_append_right _ (List.mem_append_right _ (List.mem_append_right _ h))
              · refine ⟨⟨hY2.ne, at5 c4.y (by omega) (by omega), es5, at5 m51 (by omega) (by omega), m52⟩, at5 k03 (by omega) (by omega), at5 k13 (by omega) (by omega), at5 k33 (by omega) (by omega), at5 kd3 (by omega) (by omega), at5 kl3 (by omega) (by omega), _, h2', ?_⟩
                rw [hfil]
                have hne := List.append_ne_nil_of_right_ne_nil ws (show [(⟨s, Clm.logOf c n pack counts s⟩ : Clm.Way)] ≠ [] by simp)
                have := Lst.some (n := n) (pack := pack) (lo := H.length + 8) (G := hp') (G3.length + 2) (ws ++ [⟨s, Clm.logOf c n pack counts s⟩]) (by omega) (by rw [hnew, List.flatMap_append, List.flatMap_cons, hway, List.flatMap_nil]; simp [hcs]) hne
                simpa using this)
        obtain ⟨b, e, hp, tc, H', c1, c2, ⟨c3, c4, c5, W', c6, c7⟩, c8⟩ := hround
        subst c3
        have hb : b = true := c2.2 rfl
        subst hb
        rw [if_pos rfl] at c8
        have hsm := c8.same c5
        refine ⟨true, H', _, W', c1, by simp, ?_, c8.kp, c6, fun _ => ?_, fun h => by cases h⟩
        · intro j hj
          simp only [List.mem_cons] at hj
          simp only [List.mem_append, List.mem_cons, List.not_mem_nil, or_false]
          rcases hj with h | h
          · omega
          · rcases c4 j h with h | h | h | h
            · omega
            · omega
            · omega
            · exact .inr h
        · obtain ⟨lv', m1, m2⟩ := c7.b2
          obtain ⟨es5, m51, m52⟩ := c7.yd.m
          refine ⟨⟨hY.ne, (hsm _ (by omega)).trans c7.yd.y, es5, (hsm _ (by omega)).trans m51, m52⟩, (hsm _ (by omega)).trans c7.b0, (hsm _ (by omega)).trans c7.b1, (hsm _ (by omega)).trans c7.b3, (hsm _ (by omega)).trans c7.bd, c8.here, lv', (hsm _ (by omega)).trans m1, ?_⟩
          generalize filt c n pack counts (d ++ [s]) = ws at m2 ⊢
          cases m2 with
          | none => exact .none
          | some b ws z1 z2 z3 => exact .some b ws z1 ((hsm _ (by omega)).trans z2) z3
    have hwalk := zco (n := m + 1) (first := []) (captured := [.ptr (H.length + 4) 0, .ptr (H.length + 5) 0, .ptr (H.length + 6) 0]) (args := [.yield (H.length + 8)]) hC h96.ext h96.exth h96.fns h96.whole (Nat.le_of_ble_eq_true rfl)
      (zri C hC (Ev.call C (m + 1)) c hc H1 yb _ hY1.y n hn pack (H.length + 4) (H.length + 5) (H.length + 6) (H.length + 8) (by rw [hH1]; simp) (by rw [hH1]; simp) (by rw [hH1]; simp) [mb, H.length + 2, H.length + 8] (WJ c n pack counts yb mb H.length r) (fun _ _ => False)
        (by rw [hlen1]; intro j hj; simp at hj; omega) (by simp; omega) (by simp; omega) hJ0 hstep)
    obtain ⟨v, hp, tc, H2, e1, ⟨e2, e3, e4, e5⟩, e6, e7, _⟩ := hwalk
    obtain ⟨W, w1, w2⟩ : ∃ W, (∀ j ∈ W, H1.length < j) ∧ WJ c n pack counts yb mb H.length r (Clm.sizes c.piles[n]) W hp := by
      rcases e5 with h | ⟨d, _, h⟩
      · exact h
      · exact h.elim
    have hways : filt c n pack counts (Clm.sizes c.piles[n]) = Clm.ways c n pack counts := by unfold filt Clm.ways; rw [List.getD_eq_getElem?_getD, hgn]; rfl
    have hsame := e6.same e4
    have at2 : ∀ {j x}, j < H1.length → hp[j]? = some x → H2[j]? = some x := fun hj hx => (hsame _ hj).trans hx
    obtain ⟨lv, l1, l2⟩ := w2.b2
    rw [hways] at l2
    have l3 : Lst n pack (H.length + 8) H2 W (Clm.ways c n pack counts) lv := by
      generalize Clm.ways c n pack counts = ws at l2 ⊢
      cases l2 with
      | none => exact .none
      | some b ws q1 q2 q3 =>
        refine .some b _ q1 ?_ q3
        have htc : tc ≠ [] := by
          intro ht
          have := e4.get (H.length + 2) (by omega) (by rw [ht]; simp)
          rw [l1, hH1] at this
          simp at this
        rw [(e7 (.inr htc)).2 b (by omega)]; exact q2
    obtain ⟨es2, m1, m2⟩ := w2.yd.m
    have hlen2 : H1.length ≤ H2.length := e6.len
    have gl := at2 (by omega) w2.bl
    refine ⟨.ret v, H2, tc, by rw [hH1] at e1; simpa using e1, r, gl, by rw [rs]; simp, ?_⟩
    rw [rq]
    obtain ⟨G, hG⟩ : ∃ G, G = H2.set (H.length + 8) .dead := ⟨_, rfl⟩
    have atG : ∀ {j x}, j < H.length + 8 → hp[j]? = some x → G[j]? = some x := fun hj hx => by
      rw [hG, List.getElem?_set_ne (by omega)]; exact at2 (by omega) hx
    have g2 := bk' (atG (by omega) l1)
    have gd := bk' (atG (by omega) w2.bd)
    have hYG : Yd c yb mb G := by
      obtain ⟨es2, m1, m2⟩ := w2.yd.m
      exact ⟨hY.ne, atG (by omega) w2.yd.y, es2, atG (by omega) m1, m2⟩
    have hlenG : H.length + 9 ≤ G.length := by rw [hG]; simp; omega
    have hKG : Kp (tc.filter (· < H.length)) H G := by
      refine ⟨by omega, fun b hb hs => ?_⟩
      rw [hG, List.getElem?_set_ne (by omega), hsame _ (by omega), e4.get b (by omega) (fun h => hs (List.mem_filter.2 ⟨h, by simpa using hb⟩)), hH1, List.getElem?_append_left hb]
    have htc : ∀ j ∈ tc.filter (· < H.length), j = mb := by
      intro j hj
      obtain ⟨j1, j2⟩ := List.mem_filter.1 hj
      have := e3 j j1
      simp at this j2
      omega
    have l4 : Lst n pack (H.length + 8) G W (Clm.ways c n pack counts) lv := by
      generalize Clm.ways c n pack counts = ws at l3 ⊢
      cases l3 with
      | none => exact .none
      | some b ws q1 q2 q3 => exact .some b _ q1 (by rw [hG, List.getElem?_set_ne (by omega)]; exact q2) q3
    have hlv : lv = .nils ∨ ∃ b k, lv = .sl b 0 k 19 := by
      generalize Clm.ways c n pack counts = ws at l4
      cases l4 with
      | none => exact .inl rfl
      | some b ws q1 q2 q3 => exact .inr ⟨b, _, rfl⟩
    obtain ⟨f0, f1, f2, f3, f4, f5⟩ := g2
    obtain ⟨d0, d1, d2, d3, d4, d5⟩ := gd
    rw [← hG]
    have HF := hideP (And.intro hYG (And.intro hKG (And.intro htc (And.intro l4 hlenG))))
    clear hYG hKG htc l4 hlenG l3 l2 l1 w2 w1 e1 e2 e3 e4 e5 e6 e7 hsame at2 atG hG gl hJ0 hstep hY1 hH1 hlen1 hlen2 ra rb rt rp rs rq hY hm hes hSz hLog hSome
    simp only [OutB, Then, Option.getD_none, List.append_nil]
    have hback : ∀ X, X = G.set (H.length + 2) (.cells [lv]) → X = G := by
      rintro X rfl
      refine List.ext_getElem? fun j => ?_
      rw [List.getElem?_set]
      split
      · rename_i h; subst h; rw [f1]; first | done | simp [f0]
      · rfl
    have hn3 : ∀ n, ¬ H.length + n < H.length := by omega
    have HB := hideP hback
    clear hback
    have hdone : ∀ G', G' = G → Ends C H.length [ARes.cell 8 none] (fun v hp tc => (∀ j ∈ tc, j = mb) ∧ Kp tc H hp ∧ Yd c yb mb hp ∧ WaysV n pack hp H.length v (Clm.ways c n pack counts)) AExit.ret { tm := tmA 33 [(32, lv), (15, .fn (.func 96) [] [.ptr (H.length + 4) 0, .ptr (H.length + 5) 0, .ptr (H.length + 6) 0]), (14, .int .i64 pack), (13, .int .i64 n), (12, .ptr yb 0), (9, .ptr (H.length + 3) 0), (8, .ptr (H.length + 2) 0), (7, .ptr (H.length + 1) 0), (4, .ptr H.length 0), (3, .int .u64 counts), (2, .int .i64 pack), (1, .int .i64 n), (0, .ptr yb 0)], df := [.mark (H.length + 7)], hp := G', tc := tc.filter (· < H.length) } := by
      rintro G' rfl
      obtain ⟨k1, k2, k3, k4, k5⟩ := HF.out
      refine zgk (v := lv) (.inl rfl) rfl d1 (by omega) (by show H.length ≤ G'.length; omega) ?_ ⟨k3, ?_, ?_, ?_⟩
      · simp only [resL, resOf, zal]
        simp [pickC, resV, List.getElem?_set_ne, f1]
      · exact k2.set _ _ (by omega)
      · exact k1.kp ((Kp.refl [H.length + 7] G').set _ _ (by simp)) (by simp <;> omega) (by simp <;> omega)
      · generalize Clm.ways c n pack counts = ws at k4 ⊢
        cases k4 with
        | none => exact .none
        | some b ws q1 q2 q3 => exact .some b ws (by omega) (by rw [List.getElem?_set_ne (by omega)]; exact q2) q3
    have HD := hideP hdone
    clear hdone HF
    rcases hlv with rfl | ⟨b, k, rfl⟩
    · (repeat (first | (with_reducible apply zah; (focus ((conv => lhs; simp [Nat.testBit_eq_decide_div_mod_eq, *]) <;> exact rfl)); simp only [addFl]) | ((with_reducible first | apply zai | apply zak | apply zag | apply zae | apply zac | apply zaj | apply zaf | apply zam | (apply zad; · simp [zaa, *]) | (apply zab; · simp [zaa, *])); try simp only [Then, Ops]) | simp only [Nat.reduceEqDiff, reduceIte, OutB, Then]))
      refine HD.out _ (HB.out _ ?_)
      rfl
    · (repeat (first | (with_reducible apply zah; (focus ((conv => lhs; simp [Nat.testBit_eq_decide_div_mod_eq, *]) <;> exact rfl)); simp only [addFl]) | ((with_reducible first | apply zai | apply zak | apply zag | apply zae | apply zac | apply zaj | apply zaf | apply zam | (apply zad; · simp [zaa, *]) | (apply zab; · simp [zaa, *])); try simp only [Then, Ops]) | simp only [Nat.reduceEqDiff, reduceIte, OutB, Then]))
      refine HD.out _ (HB.out _ ?_)
      rfl
end K
end Ev
end Go.Proofs.Ytimgnlellflciaa

/- Package clamp, gone through: the packs with which there is a truth, yielded. -/
namespace Go.Proofs.Ytimgnlellflciaa
open Go
namespace Ev
namespace K
attribute [local simp] ev1 wantG spineK spine float xnew xval xeff zaa zaq zbc zav zaw addFl cellsOf pickC alive slLen slFt binI maxA maxK minA minK aeqK aeqS AV.cells spA zar fillA setAt bitsI nat_nn zbg AV.plain apart
set_option maxRecDepth 100000
set_option maxHeartbeats 4000000
def WaysC (call : CallF) (c : Clm.Cl) : Prop := ∀ (H : List AB) (yb mb : Nat), Yd c yb mb H → ∀ n, n < c.piles.length → ∀ pack, 0 ≤ pack → pack ≤ 5 → ∀ counts : Nat,
  ∃ v H' tc, call (.fn (.func 86) [] []) [.ptr yb 0, .int .i64 n, .int .i64 pack, .int .u64 counts] H = some (.ret v, H', tc) ∧ (∀ j ∈ tc, j = mb) ∧ Kp tc H H' ∧ Yd c yb mb H' ∧ WaysV n pack H' H.length v (Clm.ways c n pack counts)
def okPack (c : Clm.Cl) (counts : Nat) (k : Int) : Bool := (List.range c.piles.length).all fun i => !(Clm.ways c i k counts).isEmpty
def packsTo (c : Clm.Cl) (counts : Nat) (i : Nat) : List Int := ((Clm.spanL c.pack).take i).filter (okPack c counts)
theorem zmo (c : Clm.Cl) (counts : Nat) : packsTo c counts (Clm.spanL c.pack).length = Clm.packs c counts := by unfold packsTo Clm.packs; rw [List.take_length]; rfl
theorem zgz {c : Clm.Cl} {counts i : Nat} {k : Int} (h : (Clm.spanL c.pack)[i]? = some k) : packsTo c counts (i + 1) = packsTo c counts i ++ if okPack c counts k then [k] else [] := by
  unfold packsTo
  rw [List.take_add_one, h, List.filter_append]
  congr 1
  simp only [Option.toList_some, List.filter_cons, List.filter_nil]
theorem zuq {c : Clm.Cl} {counts i : Nat} {k : Int} (h : (Clm.spanL c.pack)[i]? = some k) (hk : okPack c counts k = true) : packsTo c counts i ++ [k] <+: Clm.packs c counts := by
  have e := zgz (counts := counts) h
  rw [if_pos hk] at e
  rw [← e, ← zmo]
  unfold packsTo
  have hi := (List.getElem?_eq_some_iff.1 h).1
  refine ⟨((Clm.spanL c.pack).drop (i + 1)).filter (okPack c counts), ?_⟩
  rw [← List.filter_append, List.take_append_drop, List.take_length]
theorem zru (C : Cfg) (hC : C.calm = true) (call : CallF) (c : Clm.Cl) (hc : Clm.Fine c) (hW : WaysC call c) (H : List AB) (yb mb : Nat) (counts : Nat) (b1 b2 l : Nat)
    (h1 : H[b1]? = some (.cells [.ptr yb 0])) (h2 : H[b2]? = some (.cells [.int .u64 counts])) (T : List Nat) (J : List Int → List Nat → List AB → Prop) (E : List Int → List AB → Prop)
    (hT : ∀ j ∈ T, j < H.length) (hlT : l ∈ T) (hb1 : b1 ∉ T) (hb2 : b2 ∉ T) (hm1 : b1 ≠ mb) (hm2 : b2 ≠ mb) (hJ0 : J [] [] H) (hJY : ∀ d W G, J d W G → Yd c yb mb G)
    (hY : Yields call l T (fun k => .int .i64 k) (Clm.packs c counts) [mb] (Yd c yb mb) J E) :
    Does (ev C call H.length none af90.body { tm := tmA af90.ntmps (zipI 0 [.yield l, .ptr b1 0, .ptr b2 0] []), df := [], hp := H, tc := [] })
      (Ends C H.length af90.res fun v hp tc => v = .tup [] ∧ (∀ j ∈ tc, j ∈ mb :: T) ∧ Kp tc H hp ∧ ((∃ W, (∀ j ∈ W, H.length ≤ j) ∧ J (Clm.packs c counts) W hp ∧ (Clm.packs c counts = [] ∨ l ∈ tc)) ∨ ∃ d, d <+: Clm.packs c counts ∧ E d hp ∧ l ∈ tc)) := by
  have hpk := hc.pack
  have hpn := hc.piles
  have hnk := Clm.span_len c.pack
  have gk := fun i (h : i < (Clm.spanL c.pack).length) => (List.getElem?_eq_getElem h).trans (congrArg some (Clm.span_get c.pack h))
  obtain ⟨Inv, hInv⟩ : ∃ Inv : List Int → List AB → List Nat → Prop, ∀ d hp tc, Inv d hp tc ↔ (∃ W, (∀ j ∈ W, H.length ≤ j) ∧ Kp tc H hp ∧ J d W hp ∧ (∀ j ∈ tc, j ∈ mb :: T) ∧ (d = [] ∨ l ∈ tc)) := ⟨fun d hp tc => _, fun d hp tc => Iff.rfl⟩
  have hI : Inv [] H [] := (hInv _ _ _).2 ⟨[], by simp, Kp.refl _ _, hJ0, by simp, .inl rfl⟩
  have hfacts : ∀ d hp tc, Inv d hp tc → Bk hp b1 (.cells [.ptr yb 0]) ∧ Bk hp b2 (.cells [.int .u64 counts]) ∧ Yd c yb mb hp ∧ Bk hp yb (.cells (clampCs c ++ [.map mb])) := by
    intro d hp tc hi
    obtain ⟨W, k0, k1, k2, k3, k9⟩ := (hInv _ _ _).1 hi
    refine ⟨bk' (k1.at h1 fun h => ?_), bk' (k1.at h2 fun h => ?_), hJY _ _ _ k2, bk' (hJY _ _ _ k2).y⟩
    · rcases List.mem_cons.1 (k3 _ h) with h | h
      · exact hm1 h
      · exact hb1 h
    · rcases List.mem_cons.1 (k3 _ h) with h | h
      · exact hm2 h
      · exact hb2 h
  have hways : ∀ d hp tc, Inv d hp tc → ∀ n, n < c.piles.length → ∀ pack, 0 ≤ pack → pack ≤ 5 → ∃ v hp' tc', call (.fn (.func 86) [] []) [.ptr yb 0, .int .i64 n, .int .i64 pack, .int .u64 counts] hp = some (.ret v, hp', tc') ∧ Inv d hp' (tc'.filter (· < H.length) ++ tc) ∧ ((v = .nils ∧ Clm.ways c n pack counts = []) ∨ ∃ b cs k, v = .sl b 0 (k + 1) 19 ∧ Bk hp' b (.cells cs) ∧ Clm.ways c n pack counts ≠ []) := by
    intro d hp tc hi n hn pack p0 p1
    obtain ⟨W, k0, k1, k2, k3, k9⟩ := (hInv _ _ _).1 hi
    obtain ⟨v, hp', tc', s1, s2, s3, s4, s5⟩ := hW hp yb mb (hJY _ _ _ k2) n hn pack p0 p1 counts
    refine ⟨v, hp', tc', s1, (hInv _ _ _).2 ⟨W, k0, k1.trans2 s3, hY.stable _ _ _ _ k2 (s3.mono fun b _ h => by simpa using s2 b h) s4, ?_, k9.imp id fun h => List.mem_append_right _ h⟩, ?_⟩
    · intro j hj
      rcases List.mem_append.1 hj with h | h
      · rw [s2 j (List.mem_filter.1 h).1]; simp
      · exact k3 j h
    · generalize Clm.ways c n pack counts = ws at s5
      cases s5 with
      | none => exact .inl ⟨rfl, rfl⟩
      | some b ws z1 z2 z3 =>
        cases ws with
        | nil => exact absurd rfl z3
        | cons w ws => exact .inr ⟨b, _, ws.length, by simp, bk' z2, by simp⟩
  have hstep : ∀ d s hp tc, Inv d hp tc → d ++ [s] <+: Clm.packs c counts → ∃ b hp' tc', call (.yield l) [.int .i64 s] hp = some (.ret (.bool b), hp', tc') ∧ (b = true → Inv (d ++ [s]) hp' (tc'.filter (· < H.length) ++ tc)) ∧ (b = false → Kp (tc'.filter (· < H.length) ++ tc) H hp' ∧ E (d ++ [s]) hp' ∧ (∀ j ∈ tc'.filter (· < H.length) ++ tc, j ∈ mb :: T) ∧ l ∈ tc'.filter (· < H.length) ++ tc) := by
    intro d s hp tc hi hpre
    obtain ⟨W, k0, k1, k3, k4, _⟩ := (hInv _ _ _).1 hi
    obtain ⟨b, hp', tc', W', s1, s9, s2, s3, s6, s4, s5⟩ := hY.step d s W hp hpre k3
    have hl9 : l ∈ tc'.filter (· < H.length) ++ tc := List.mem_append_left _ (List.mem_filter.2 ⟨s9, by simpa using hT _ hlT⟩)
    have hn : ∀ j ∈ tc'.filter (· < H.length) ++ tc, j ∈ mb :: T := by
      intro j hj
      rcases List.mem_append.1 hj with h | h
      · obtain ⟨g1, g2⟩ := List.mem_filter.1 h
        have g2 : j < H.length := by simpa using g2
        rcases List.mem_append.1 (s2 j g1) with g | g
        · exact List.mem_cons_of_mem _ g
        · have := k0 j g; omega
      · exact k4 j h
    have hk := k1.trans2 s3
    refine ⟨b, hp', tc', s1, fun h => (hInv _ _ _).2 ⟨W', ?_, hk, s4 h, hn, .inr hl9⟩, fun h => ⟨hk, s5 h, hn, hl9⟩⟩
    intro j hj
    have := k1.len
    rcases s6 j hj with h | h
    · exact k0 j h
    · omega
  obtain ⟨⟨f0, f1, f2, f3, f4, f5⟩, ⟨g0, g1, g2, g3, g4, g5⟩, hYd, ⟨y0, y1, y2, y3, y4, y5⟩⟩ := hfacts _ _ _ hI
  have HW := hideP hways
  have HSt := hideP hstep
  have HFa := hideP hfacts
  have HI := hideP hInv
  clear hways hstep hfacts hInv hY hJY hW hc hJ0 h1 h2
  unfold af90
  simp only [zipI, clampCs, List.cons_append, List.nil_append] at *
  (repeat (first | (with_reducible apply zah; (focus ((conv => lhs; simp [Nat.testBit_eq_decide_div_mod_eq, *]) <;> exact rfl)); simp only [addFl]) | ((with_reducible first | apply zai | apply zak | apply zag | apply zae | apply zac | apply zaj | apply zaf | apply zam | (apply zad; · simp [zaa, *]) | (apply zab; · simp [zaa, *])); try simp only [Then, Ops]) | simp only [Nat.reduceEqDiff, reduceIte, OutB, Then]))
  with_reducible refine zaz hC (Clm.spanL c.pack).length (by unfold fuelL; omega) (fun i st => ∃ hp tc, Inv (packsTo c counts i) hp tc ∧ st = { tm := tmA 43 [(4, .int .i64 (c.pack.lo + i)), (2, .ptr b2 0), (1, .ptr b1 0), (0, .yield l)], df := [], hp := hp, tc := tc }) ?_ ?_ ?_
  · refine ⟨_, _, hI, ?_⟩
    refine st_is ?_ rfl rfl rfl
    simp [zan, zap]
  · clear f0 f1 f2 f3 f4 f5 g0 g1 g2 g3 g4 g5 hYd y0 y1 y2 y3 y4 y5 hI
    rintro i st hi ⟨hp, tc, hV, rfl⟩
    obtain ⟨⟨f0, f1, f2, f3, f4, f5⟩, ⟨g0, g1, g2, g3, g4, g5⟩, hYd, ⟨y0, y1, y2, y3, y4, y5⟩⟩ := HFa.out _ _ _ hV
    have e1 : c.pack.lo + (i : Int) ≤ c.pack.hi := by omega
    have hw : IntKind.i64.wrap (c.pack.lo + ↑i + 1) = c.pack.lo + ↑i + 1 := zas (by omega) (by omega)
    (repeat (first | (with_reducible apply zah; (focus ((conv => lhs; simp [Nat.testBit_eq_decide_div_mod_eq, *]) <;> exact rfl)); simp only [addFl]) | ((with_reducible first | apply zai | apply zak | apply zag | apply zae | apply zac | apply zaj | apply zaf | apply zam | (apply zad; · simp [zaa, *]) | (apply zab; · simp [zaa, *])); try simp only [Then, Ops, OutB]) | simp only [Nat.reduceEqDiff, reduceIte, OutB, Then]))
    with_reducible refine zaz hC c.piles.length (by unfold fuelL; omega) (fun j st => ∃ hp tc, Inv (packsTo c counts i) hp tc ∧ (∀ x, x < j → Clm.ways c x (c.pack.lo + i) counts ≠ []) ∧ st = { tm := tmA 43 [(28, .int .i64 j), (27, .int .i64 c.piles.length), (4, .int .i64 (c.pack.lo + i)), (2, .ptr b2 0), (1, .ptr b1 0), (0, .yield l)], df := [], hp := hp, tc := tc }) ?_ ?_ ?_
    · refine ⟨_, _, hV, by simp, ?_⟩
      refine st_is ?_ rfl rfl rfl
      simp [zan, zap]
    · clear hV f0 f1 f2 f3 f4 f5 g0 g1 g2 g3 g4 g5 hYd y0 y1 y2 y3 y4 y5 hp tc
      rintro j st hj ⟨hp, tc, hV, hne, rfl⟩
      obtain ⟨⟨f0, f1, f2, f3, f4, f5⟩, ⟨g0, g1, g2, g3, g4, g5⟩, hYd, ⟨y0, y1, y2, y3, y4, y5⟩⟩ := HFa.out _ _ _ hV
      obtain ⟨v, hp', tc', s1, s2, s3⟩ := HW.out _ _ _ hV j hj (c.pack.lo + i) (by omega) (by omega)
      have hwj : IntKind.i64.wrap (↑j + 1) = ↑j + 1 := zas (by omega) (by omega)
      rcases s3 with ⟨rfl, e2⟩ | ⟨b, cs, k, rfl, ⟨z0, z1, z2, z3, z4, z5⟩, e2⟩
      · (repeat (first | (with_reducible apply zah; (focus ((conv => lhs; simp [Nat.testBit_eq_decide_div_mod_eq, *]) <;> exact rfl)); simp only [addFl]) | ((with_reducible first | apply zai | apply zak | apply zag | apply zae | apply zac | apply zaj | apply zaf | apply zam | (apply zad; · simp [zaa, *]) | (apply zab; · simp [zaa, *])); try simp only [Then, Ops, OutB, reduceIte]) | simp only [Nat.reduceEqDiff, reduceIte]))
        have hno : okPack c counts (c.pack.lo + i) = false := by
          unfold okPack
          rw [List.all_eq_false]
          exact ⟨j, by simpa using hj, by rw [e2]; simp⟩
        have hn := s2
        rw [← List.append_nil (packsTo c counts i), show ([] : List Int) = if okPack c counts (c.pack.lo + i) then [c.pack.lo + (i : Int)] else [] by rw [hno]; rfl, ← zgz (gk i hi)] at hn
        with_reducible refine ⟨_, _, hn, ?_⟩
        refine st_is ?_ rfl rfl rfl
        simp [zan, zap, Int.add_assoc]
      · have hk : ¬ ((k : Int) + 1 = 0) := by omega
        (repeat (first | (with_reducible apply zah; (focus ((conv => lhs; simp [Nat.testBit_eq_decide_div_mod_eq, *]) <;> exact rfl)); simp only [addFl]) | ((with_reducible first | apply zai | apply zak | apply zag | apply zae | apply zac | apply zaj | apply zaf | apply zam | (apply zad; · simp [zaa, *]) | (apply zab; · simp [zaa, *])); try simp only [Then, Ops, OutB]) | simp only [Nat.reduceEqDiff, reduceIte, OutB, Then]))
        have hne' : ∀ x, x < j + 1 → Clm.ways c x (c.pack.lo + i) counts ≠ [] := by
          intro x hx
          by_cases h : x = j
          · rw [h]; exact e2
          · exact hne x (by omega)
        with_reducible refine ⟨_, _, s2, hne', ?_⟩
        refine st_is ?_ rfl rfl rfl
        simp [zan, zap]
    · clear hV f0 f1 f2 f3 f4 f5 g0 g1 g2 g3 g4 g5 hYd y0 y1 y2 y3 y4 y5 hp tc
      rintro st ⟨hp, tc, hV, hne, rfl⟩
      have hyes : okPack c counts (c.pack.lo + i) = true := by
        unfold okPack
        rw [List.all_eq_true]
        intro x hx
        have := hne x (by simpa using hx)
        simpa using this
      have hpre := zuq (gk i hi) hyes
      obtain ⟨b, hp', tc', s1, s2, s3⟩ := HSt.out _ _ _ _ hV hpre
      have HS := hideP (And.intro hpre (And.intro s2 s3))
      clear s2 s3 hpre hV hne
      cases b with
      | true =>
        (repeat (first | (with_reducible apply zah; (focus ((conv => lhs; simp [Nat.testBit_eq_decide_div_mod_eq, *]) <;> exact rfl)); simp only [addFl]) | ((with_reducible first | apply zai | apply zak | apply zag | apply zae | apply zac | apply zaj | apply zaf | apply zam | (apply zad; · simp [zaa, *]) | (apply zab; · simp [zaa, *])); try simp only [Then, Ops, OutB, reduceIte]) | simp only [Nat.reduceEqDiff, reduceIte, OutB, Then]))
        obtain ⟨hpre, s2, s3⟩ := HS.out
        have hn := s2 rfl
        rw [show [c.pack.lo + (i : Int)] = if okPack c counts (c.pack.lo + i) then [c.pack.lo + (i : Int)] else [] by rw [hyes]; rfl, ← zgz (gk i hi)] at hn
        with_reducible refine ⟨_, _, hn, ?_⟩
        refine st_is ?_ rfl rfl rfl
        simp [zan, zap, Int.add_assoc]
      | false =>
        (repeat (first | (with_reducible apply zah; (focus ((conv => lhs; simp [Nat.testBit_eq_decide_div_mod_eq, *]) <;> exact rfl)); simp only [addFl]) | ((with_reducible first | apply zai | apply zak | apply zag | apply zae | apply zac | apply zaj | apply zaf | apply zam | (apply zad; · simp [zaa, *]) | (apply zab; · simp [zaa, *])); try simp only [Then, Ops, OutB, reduceIte]) | simp only [Nat.reduceEqDiff, reduceIte, OutB, Then]))
        obtain ⟨hpre, s2, s3⟩ := HS.out
        obtain ⟨t1, t2, t3, t4⟩ := s3 rfl
        exact zao (.inl rfl) rfl t1.len (by simp only [resL]; rfl) ⟨rfl, t3, t1, .inr ⟨_, hpre, t2, t4⟩⟩
  · clear f0 f1 f2 f3 f4 f5 g0 g1 g2 g3 g4 g5 hYd y0 y1 y2 y3 y4 y5 hI
    rintro st ⟨hp, tc, hV, rfl⟩
    obtain ⟨⟨f0, f1, f2, f3, f4, f5⟩, ⟨g0, g1, g2, g3, g4, g5⟩, hYd, ⟨y0, y1, y2, y3, y4, y5⟩⟩ := HFa.out _ _ _ hV
    rw [zmo] at hV
    obtain ⟨W, t0, t1, t2, t3, t4⟩ := (HI.out _ _ _).1 hV
    have e3 : ¬ (c.pack.lo + ((Clm.spanL c.pack).length : Int) ≤ c.pack.hi) := by omega
    clear hnk
    (repeat (first | (with_reducible apply zah; (focus ((conv => lhs; simp [Nat.testBit_eq_decide_div_mod_eq, *]) <;> exact rfl)); simp only [addFl]) | ((with_reducible first | apply zai | apply zak | apply zag | apply zae | apply zac | apply zaj | apply zaf | apply zam | (apply zad; · simp [zaa, *]) | (apply zab; · simp [zaa, *])); try simp only [Then, Ops, OutB, reduceIte]) | simp only [Nat.reduceEqDiff, reduceIte, OutB, Then]))
    exact zao (.inr rfl) rfl t1.len (by simp only [resL]; rfl) ⟨rfl, t3, t1, .inl ⟨W, t0, t2, t4⟩⟩
end K
end Ev
end Go.Proofs.Ytimgnlellflciaa

/- Package clamp, gone through: is there a truth? -/
namespace Go.Proofs.Ytimgnlellflciaa
open Go
namespace Ev
namespace K
attribute [local simp] ev1 wantG spineK spine float xnew xval xeff zaa zaq zbc zav zaw addFl cellsOf pickC alive slLen slFt binI maxA maxK minA minK aeqK aeqS AV.cells spA zar fillA setAt bitsI nat_nn zbg AV.plain apart
set_option maxRecDepth 100000
set_option maxHeartbeats 4000000
theorem zty {G : List AB} {l : Nat} (x : AB) (hl : l < G.length) : ∃ G2, G2 = G.set l x ∧ G2.length = G.length ∧ G2[l]? = some x ∧ (∀ j, j ≠ l → G2[j]? = G[j]?) ∧ Kp [l] G G2 :=
  ⟨_, rfl, by simp, List.getElem?_set_self hl, fun j hj => List.getElem?_set_ne (by omega), (Kp.refl [l] G).set _ _ (by simp)⟩
def PkPre (yb mb counts b1 b2 : Nat) (H : List AB) (T : List Nat) : Prop := H[b1]? = some (.cells [.ptr yb 0]) ∧ H[b2]? = some (.cells [.int .u64 counts]) ∧ b1 ∉ T ∧ b2 ∉ T ∧ b1 ≠ mb ∧ b2 ≠ mb
def PackI (C : Cfg) (n : Nat) (c : Clm.Cl) : Prop := ∀ yb mb counts b1 b2, IterC C n 90 [] [.ptr b1 0, .ptr b2 0] (fun k : Int => .int .i64 k) (Clm.packs c counts) [mb] (Yd c yb mb) (PkPre yb mb counts b1 b2)
theorem zus {C : Cfg} (hC : C.calm = true) {n : Nat} {c : Clm.Cl} (hc : Clm.Fine c) (h90 : Has C 90 af90) (hW : WaysC (Ev.call C n) c) : PackI C n c := by
  intro yb mb counts b1 b2
  refine zvq hC h90.ext h90.exth h90.fns h90.whole (Nat.le_of_ble_eq_true rfl) ?_
  intro H l T J E ⟨p1, p2, p3, p4, p5, p6⟩ h2 h3 h4 h5 h6
  exact zru C hC _ c hc hW H yb mb counts b1 b2 l p1 p2 T J E h2 h3 p3 p4 p5 p6 h4 h5 h6
def PacksC (call : CallF) : Prop := ∀ (H : List AB) (yb counts : Nat), call (.fn (.func 83) [] []) [.ptr yb 0, .int .u64 counts] H = some (.ret (.fn (.func 90) [] [.ptr H.length 0, .ptr (H.length + 1) 0]), H ++ [.cells [.ptr yb 0], .cells [.int .u64 counts]], [])
theorem zze (C : Cfg) (hC : C.calm = true) (n : Nat) (c : Clm.Cl) (hP : PacksC (Ev.call C (n + 2))) (hI : PackI C (n + 1) c) (H : List AB) (yb mb : Nat) (hY : Yd c yb mb H) (counts : Nat) :
    Does (ev C (Ev.call C (n + 2)) H.length none af62.body { tm := tmA af62.ntmps (zipI 0 [.ptr yb 0, .int .u64 counts] []), df := [], hp := H, tc := [] })
      (Ends C H.length af62.res fun v hp tc => v = .bool (Clm.can c counts) ∧ (∀ j ∈ tc, j = mb) ∧ Kp tc H hp ∧ Yd c yb mb hp) := by
  unfold PacksC at hP
  have hyl := get_lt hY.y
  obtain ⟨es, hm, hes⟩ := hY.m
  have hml := get_lt hm
  unfold af62
  simp only [zipI]
  (repeat (first | (with_reducible apply zah; (focus ((conv => lhs; simp [Nat.testBit_eq_decide_div_mod_eq, *]) <;> exact rfl)); simp only [addFl]) | ((with_reducible first | apply zai | apply zak | apply zag | apply zae | apply zac | apply zaj | apply zaf | apply zam | (apply zad; · simp [zaa, *]) | (apply zab; · simp [zaa, *])); try simp only [Then, Ops]) | simp only [Nat.reduceEqDiff, reduceIte, OutB, Then]))
  have hn3 : ∀ n, ¬ H.length + n < H.length := by omega
  have hn4 : ¬ H.length < H.length := by omega
  refine znl hC (hI yb mb counts (H.length + 1) (H.length + 2)) (by simp [zaa]) rfl [H.length] (by simp) (by simp; omega)
    (fun d W G => d = [] ∧ W = [] ∧ G[H.length]? = some (.cells [.bool false])) (fun e d G => e = .ret ∧ d ≠ [] ∧ G[H.length]? = some (.cells [.bool true]))
    (fun r => ?_) (fun G G' h k => ?_) (fun r => ?_) (fun r => ?_) (fun d W G G' h k => ?_) (fun e d G G' h k => ?_) ?_ ?_ ?_
  · refine ⟨by simp, by simp, by simp <;> omega, by simp <;> omega, by omega, by omega⟩
  · obtain ⟨es, m1, m2⟩ := h.m
    refine ⟨h.ne, (k _ (by simp; omega)).trans h.y, es, (k _ (by simp; omega)).trans m1, m2⟩
  · refine ⟨rfl, rfl, by simp⟩
  · exact (hY.app _).app _
  · refine ⟨h.1, h.2.1, (k _ (get_lt h.2.2) (by simp; omega) (by simp <;> omega)).trans h.2.2⟩
  · refine ⟨h.1, h.2.1, (k _ (by simp <;> omega)).trans h.2.2⟩
  · rintro d s W G rz hpr ⟨rfl, rfl, h1⟩ h2 h3 h4
    rw [setP1]
    simp only [List.length_append, List.length_cons, List.length_nil, Nat.zero_add, Nat.add_assoc, Nat.reduceAdd] at h3 ⊢
    (repeat (first | (with_reducible apply zah; (focus ((conv => lhs; simp [Nat.testBit_eq_decide_div_mod_eq, *]) <;> exact rfl)); simp only [addFl]) | ((with_reducible first | apply zai | apply zak | apply zag | apply zae | apply zac | apply zaj | apply zaf | apply zam | (apply zad; · simp [zaa, *]) | (apply zab; · simp [zaa, *])); try simp only) | simp only [Nat.reduceEqDiff, reduceIte, OutB, Then]))
    refine ⟨trivial, trivial, ?_⟩
    obtain ⟨G2, hG2, k1, k2, k3, k4⟩ := zty (G := G) (l := H.length + 4) (.loop rz) (by omega)
    rw [← hG2]
    clear hG2
    have e1 := (k3 H.length (by omega)).trans h1
    have hYd2 : Yd c yb mb G2 := h2.kp k4 (by simp <;> omega) (by simp <;> omega)
    obtain ⟨f0, f1, f2, f3, f4, f5⟩ := bk' e1
    clear hY hm hP hI
    (repeat (first | (with_reducible apply zah; (focus ((conv => lhs; simp [Nat.testBit_eq_decide_div_mod_eq, *]) <;> exact rfl)); simp only [addFl]) | ((with_reducible first | apply zai | apply zak | apply zag | apply zae | apply zac | apply zaj | apply zaf | apply zam | (apply zad; · simp [zaa, *]) | (apply zab; · simp [zaa, *])); try simp only [Then, Ops, OutB]) | simp only [Nat.reduceEqDiff, reduceIte, OutB, Then]))
    refine ⟨by simp, ?_, by simp; omega, ?_, ?_, ?_, by simp, fun _ => ⟨rfl, by simp, ?_⟩⟩
    · rw [List.getElem?_set_ne (by omega)]; exact k2
    · intro j hj
      simp only [List.mem_append, List.mem_filter, List.mem_singleton] at hj
      rcases hj with ⟨h, _⟩ | h
      · exact .inr (.inl (by simp [h]))
      · exact .inl h
    · exact (k4.mono fun b _ h => List.mem_append_right _ h).set _ _ (fun h => by simp [h])
    · exact hYd2.kp ((Kp.refl [H.length] G2).set _ _ (by simp)) (by simp <;> omega) (by simp <;> omega)
    · rw [List.getElem?_set_self (by omega)]
  · rintro H' tc W h1 h2 h3 h4 h5 h6 ⟨h7, h8, h9⟩
    simp only [List.length_append, List.length_cons, List.length_nil, Nat.zero_add, Nat.add_assoc, Nat.reduceAdd] at h1 h4 h5 ⊢
    have hcan : Clm.can c counts = false := by unfold Clm.can; rw [h7]; rfl
    have hkp := h2.pre
    have htc : ∀ j ∈ tc.filter (· < H.length), j = mb := by
      intro j hj
      obtain ⟨q1, q2⟩ := List.mem_filter.1 hj
      have q2 : j < H.length := by simpa using q2
      have := h1 j q1 (by omega)
      simp at this
      omega
    have hkp2 : Kp (tc.filter (· < H.length)) H H' := hkp.mono fun b hb h => List.mem_filter.2 ⟨h, by simpa using hb⟩
    obtain ⟨f0, f1, f2, f3, f4, f5⟩ := bk' h9
    have HQ := hideP (And.intro htc (And.intro hkp2 h3))
    clear htc hkp2 h3 h1 h2 hkp hY hm hP hI h6
    simp only [List.append_nil]
    (repeat (first | (with_reducible apply zah; (focus ((conv => lhs; simp [Nat.testBit_eq_decide_div_mod_eq, *]) <;> exact rfl)); simp only [addFl]) | ((with_reducible first | apply zai | apply zak | apply zag | apply zae | apply zac | apply zaj | apply zaf | apply zam | (apply zad; · simp [zaa, *]) | (apply zab; · simp [zaa, *])); try simp only [Then, Ops]) | simp only [OutB, Then]))
    obtain ⟨q1, q2, q3⟩ := HQ.out
    have hset : ∀ {S}, Kp S H H' → Kp S H ((H'.set H.length (.cells [.bool false])).set (H.length + 3) .dead) := fun k => (k.set _ _ (by omega)).set _ _ (by omega)
    refine zgk (.inl rfl) rfl (by rw [List.getElem?_set_ne (by omega)]; exact h4) (by omega) (by simp; omega) (by simp only [resL, resOf, zal]; simp [resV, pickC, f0]; rfl) ⟨by rw [hcan], q1, hset q2, ?_⟩
    exact (q3.kp ((Kp.refl [H.length] H').set _ _ (by simp)) (by simp <;> omega) (by simp <;> omega)).kp ((Kp.refl [H.length + 3] _).set _ _ (by simp)) (by simp <;> omega) (by simp <;> omega)
  · rintro e d H' tc he h1 h2 h3 h4 h5 hd ⟨rfl, h8, h9⟩
    simp only [List.length_append, List.length_cons, List.length_nil, Nat.zero_add, Nat.add_assoc, Nat.reduceAdd] at h1 h4 h5 ⊢
    have hcan : Clm.can c counts = true := by
      unfold Clm.can
      cases hp : Clm.packs c counts with
      | nil => rw [hp] at hd; exact absurd (List.prefix_nil.1 hd) h8
      | cons a l => rfl
    have hkp := h2.pre
    have htc : ∀ j ∈ tc.filter (· < H.length), j = mb := by
      intro j hj
      obtain ⟨q1, q2⟩ := List.mem_filter.1 hj
      have q2 : j < H.length := by simpa using q2
      have := h1 j q1 (by omega)
      simp at this
      omega
    have hkp2 : Kp (tc.filter (· < H.length)) H H' := hkp.mono fun b hb h => List.mem_filter.2 ⟨h, by simpa using hb⟩
    simp only [List.append_nil, OutB, Then]
    have hset : ∀ {S}, Kp S H H' → Kp S H (H'.set (H.length + 3) .dead) := fun k => k.set _ _ (by omega)
    refine zgk (.inl rfl) rfl h4 (by omega) (by simp; omega) (by simp only [resL, resOf, zal]; simp [resV, pickC, List.getElem?_set_ne, h9]; rfl) ⟨by rw [hcan], htc, hset hkp2, ?_⟩
    exact h3.kp ((Kp.refl [H.length + 3] H').set _ _ (by simp)) (by simp <;> omega) (by simp <;> omega)
end K
end Ev
end Go.Proofs.Ytimgnlellflciaa

/- Package clamp, gone through: small functions of a yard. -/
namespace Go.Proofs.Ytimgnlellflciaa
open Go
namespace Ev
namespace K
attribute [local simp] ev1 wantG spineK spine float xnew xval xeff zaa zaq zbc zav zaw addFl cellsOf pickC alive slLen slFt binI maxA maxK minA minK aeqK aeqS AV.cells spA zar fillA setAt bitsI nat_nn zbg AV.plain apart
set_option maxRecDepth 100000
set_option maxHeartbeats 4000000
theorem zli {C : Cfg} {n f : Nat} {fn : AFunc} {first captured args : List AV} {H K : List AB} {v : AV} (hc : C.calm = true) (h0 : Has C f fn) (hlen : (first ++ args ++ captured).length ≤ fn.ntmps) (hv : refs v ≠ [])
    (h : Does (ev C (Ev.call C n) H.length none fn.body { tm := tmA fn.ntmps (zipI 0 (first ++ args ++ captured) []), df := [], hp := H, tc := [] }) (Ends C H.length fn.res fun w hp tc => w = v ∧ hp = H ++ K ∧ tc = [])) :
    Ev.call C (n + 1) (.fn (.func f) first captured) args H = some (.ret v, H ++ K, []) := by
  obtain ⟨w, hp, tc, H', c1, ⟨rfl, rfl, rfl⟩, c5, c6, _⟩ := zco hc h0.ext h0.exth h0.fns h0.whole hlen h
  rw [c1, lft_eq c5 (Kp.app _ _) c6 (.inl hv)]
theorem zbd {C : Cfg} {n f : Nat} {fn : AFunc} {first captured args : List AV} {H : List AB} {v : AV} (hc : C.calm = true) (h0 : Has C f fn) (hlen : (first ++ args ++ captured).length ≤ fn.ntmps) (hv : refs v = [])
    (h : Does (ev C (Ev.call C n) H.length none fn.body { tm := tmA fn.ntmps (zipI 0 (first ++ args ++ captured) []), df := [], hp := H, tc := [] }) (Ends C H.length fn.res fun w _hp tc => w = v ∧ tc = [])) :
    Ev.call C (n + 1) (.fn (.func f) first captured) args H = some (.ret v, H, []) := by
  obtain ⟨w, hp, tc, H', c1, ⟨rfl, rfl⟩, _, _, c7⟩ := zco hc h0.ext h0.exth h0.fns h0.whole hlen h
  rw [c1, c7 hv rfl]
theorem ztw (C : Cfg) (call : CallF) (H : List AB) (yb : Nat) (n pack : Int) : Does (ev C call H.length none af92.body { tm := tmA af92.ntmps (zipI 0 [.ptr yb 0, .int .i64 n, .int .i64 pack] []), df := [], hp := H, tc := [] })
    (Ends C H.length af92.res fun w hp tc => w = .fn (.func 96) [] [.ptr H.length 0, .ptr (H.length + 1) 0, .ptr (H.length + 2) 0] ∧ hp = H ++ [.cells [.ptr yb 0], .cells [.int .i64 n], .cells [.int .i64 pack]] ∧ tc = []) := by
  unfold af92
  simp only [zipI]
  (repeat (first | (with_reducible apply zah; (focus ((conv => lhs; simp [Nat.testBit_eq_decide_div_mod_eq, *]) <;> exact rfl)); simp only [addFl]) | ((with_reducible first | apply zai | apply zak | apply zag | apply zae | apply zac | apply zaj | apply zaf | apply zam | (apply zad; · simp [zaa, *]) | (apply zab; · simp [zaa, *])); try simp only [Then, Ops]) | simp only [Nat.reduceEqDiff, reduceIte, OutB, Then]))
  exact zao (.inl rfl) rfl (by simp) (by simp only [resL, resOf, zal]; simp [resV, *]) ⟨rfl, rfl, rfl⟩
theorem zur (C : Cfg) (call : CallF) (H : List AB) (yb counts : Nat) : Does (ev C call H.length none af83.body { tm := tmA af83.ntmps (zipI 0 [.ptr yb 0, .int .u64 counts] []), df := [], hp := H, tc := [] })
    (Ends C H.length af83.res fun w hp tc => w = .fn (.func 90) [] [.ptr H.length 0, .ptr (H.length + 1) 0] ∧ hp = H ++ [.cells [.ptr yb 0], .cells [.int .u64 counts]] ∧ tc = []) := by
  unfold af83
  simp only [zipI]
  (repeat (first | (with_reducible apply zah; (focus ((conv => lhs; simp [Nat.testBit_eq_decide_div_mod_eq, *]) <;> exact rfl)); simp only [addFl]) | ((with_reducible first | apply zai | apply zak | apply zag | apply zae | apply zac | apply zaj | apply zaf | apply zam | (apply zad; · simp [zaa, *]) | (apply zab; · simp [zaa, *])); try simp only [Then, Ops]) | simp only [Nat.reduceEqDiff, reduceIte, OutB, Then]))
  exact zao (.inl rfl) rfl (by simp) (by simp only [resL, resOf, zal]; simp [resV, *]) ⟨rfl, rfl, rfl⟩
theorem zir {d : Nat} (h : d ≤ 40) : IntKind.u64.wrap (1 * 2 ^ (min ((d : Int).toNat) IntKind.u64.bits)) = ((2 ^ d : Nat) : Int) ∧ IntKind.u64.wrap (2 ^ (min ((d : Int).toNat) IntKind.u64.bits)) = ((2 ^ d : Nat) : Int) ∧ IntKind.u64.wrap (2 ^ (min d IntKind.u64.bits)) = ((2 ^ d : Nat) : Int) := by
  have hb : IntKind.u64.bits = 64 := rfl
  have h1 : min ((d : Int).toNat) IntKind.u64.bits = d := by rw [hb]; omega
  have h1' : min d IntKind.u64.bits = d := by rw [hb]; omega
  have h2 : (2 : Int) ^ d = ((2 ^ d : Nat) : Int) := by simp
  have h3 : 2 ^ d ≤ 2 ^ 40 := Nat.pow_le_pow_right (by decide) h
  have h4 : ∀ q : Nat, q ≤ 2 ^ 40 → IntKind.u64.wrap (q : Int) = q := by
    intro q hq
    simp [IntKind.wrap, IntKind.bits, IntKind.signed]
    omega
  rw [h1, h1', Int.one_mul, h2]
  exact ⟨h4 _ h3, h4 _ h3, h4 _ h3⟩
theorem zpj {n : Int} (h1 : 0 ≤ n) (h2 : n < 18446744073709551616) : IntKind.u64.wrap n = n := by
  simp [IntKind.wrap, IntKind.bits, IntKind.signed]
  omega
theorem zwf (C : Cfg) (call : CallF) (c : Clm.Cl) (hc : Clm.Fine c) (H : List AB) (yb : Nat) (w : AV) (hy : H[yb]? = some (.cells (clampCs c ++ [w]))) : Does (ev C call H.length none af63.body { tm := tmA af63.ntmps (zipI 0 [.ptr yb 0] []), df := [], hp := H, tc := [] })
    (Ends C H.length af63.res fun v _hp tc => v = .int .u64 ((Clm.every c : Nat) : Int) ∧ tc = []) := by
  obtain ⟨y0, y1, y2, y3, y4, y5⟩ := bk' hy
  have hn := hc.events
  obtain ⟨s1, s2, s3⟩ := zir (d := c.events.length) (by omega)
  have hp : 0 < 2 ^ c.events.length := Nat.pow_pos (by decide)
  have hp2 : 2 ^ c.events.length ≤ 2 ^ 6 := Nat.pow_le_pow_right (by decide) hn
  have hev : ((Clm.every c : Nat) : Int) = ((2 ^ c.events.length : Nat) : Int) - 1 := by unfold Clm.every; omega
  rw [hev]
  unfold af63
  simp only [zipI, clampCs, List.cons_append, List.nil_append] at *
  generalize 2 ^ c.events.length = P at *
  have hw : IntKind.u64.wrap ((P : Int) - 1) = (P : Int) - 1 := zpj (by omega) (by omega)
  clear hev hp hp2
  (repeat (first | (with_reducible apply zah; (focus ((conv => lhs; simp [Nat.testBit_eq_decide_div_mod_eq, *]) <;> exact rfl)); simp only [addFl]) | ((with_reducible first | apply zai | apply zak | apply zag | apply zae | apply zac | apply zaj | apply zaf | apply zam | (apply zad; · simp [zaa, *]) | (apply zab; · simp [zaa, *])); try simp only [Then, Ops]) | simp only [Nat.reduceEqDiff, reduceIte, OutB, Then]))
  exact zao (.inl rfl) rfl (by simp) (by simp only [resL, resOf, zal]; simp [resV, *]) ⟨rfl, rfl⟩
theorem zki (C : Cfg) (call : CallF) (hW : WithinC call) (c : Clm.Cl) (hc : c.piles.length ≤ 4) (H : List AB) (yb : Nat) (w : AV) (hy : H[yb]? = some (.cells (clampCs c ++ [w]))) (n : Int) : Does (ev C call H.length none af50.body { tm := tmA af50.ntmps (zipI 0 [.ptr yb 0, .int .i64 n] []), df := [], hp := H, tc := [] })
    (Ends C H.length af50.res fun v _hp tc => v = .bool (decide (0 ≤ n ∧ n < c.piles.length)) ∧ tc = []) := by
  obtain ⟨y0, y1, y2, y3, y4, y5⟩ := bk' hy
  have hw : IntKind.i64.wrap ((c.piles.length : Int) - 1) = (c.piles.length : Int) - 1 := zas (by omega) (by omega)
  have e : decide (0 ≤ n ∧ n < c.piles.length) = decide (0 ≤ n ∧ n ≤ (c.piles.length : Int) - 1) := by congr 1; simp; omega
  have hW' := fun H => hW H n 0 ((c.piles.length : Int) - 1)
  rw [e]
  clear hW e hc
  unfold af50
  simp only [zipI, clampCs, List.cons_append, List.nil_append] at *
  (repeat (first | (with_reducible apply zah; (focus ((conv => lhs; simp [Nat.testBit_eq_decide_div_mod_eq, *]) <;> exact rfl)); simp only [addFl]) | ((with_reducible first | apply zai | apply zak | apply zag | apply zae | apply zac | apply zaj | apply zaf | apply zam | (apply zad; · simp [zaa, *]) | (apply zab; · simp [zaa, *])); try simp only [Then, Ops]) | simp only [Nat.reduceEqDiff, reduceIte, OutB, Then]))
  exact zao (.inl rfl) rfl (by simp) (by simp only [resL, resOf, zal]; simp [resV, *]) ⟨rfl, rfl⟩
theorem zqi (C : Cfg) (call : CallF) (c : Clm.Cl) (hc : Clm.Fine c) (H : List AB) (yb : Nat) (w : AV) (hy : H[yb]? = some (.cells (clampCs c ++ [w]))) (n : Nat) (pack : Int) (wy : Clm.Way) : Does (ev C call H.length none af44.body { tm := tmA af44.ntmps (zipI 0 [.ptr yb 0, .agg (wayCs n pack wy)] []), df := [], hp := H, tc := [] })
    (Ends C H.length af44.res fun v _hp tc => v = spA (Clm.leftW c wy) ∧ tc = []) := by
  obtain ⟨y0, y1, y2, y3, y4, y5⟩ := bk' hy
  have hn := hc.events
  unfold Clm.leftW
  have e1 : (c.events.length : Int) < 7 := by omega
  have e2 : c.events.length < 7 := by omega
  unfold af44
  simp only [zipI, clampCs, List.cons_append, List.nil_append, wayCs] at *
  have t0 := zdl (fun i => wy.log.getD i ⟨0, 0⟩)
  have t1 := zed (fun i => wy.log.getD i ⟨0, 0⟩) e2
  generalize arr7 (fun i => wy.log.getD i ⟨0, 0⟩) = R at *
  generalize wy.log.getD c.events.length ⟨0, 0⟩ = sp at *
  have k1 : 5 + c.events.length * 2 + 2 ≤ 19 := by omega
  have k2 : List.drop (5 + c.events.length * 2) (.int .i64 n :: .int .i64 wy.size.l :: .int .i64 wy.size.w :: .int .i64 wy.size.h :: .int .i64 pack :: R) = List.drop (c.events.length * 2) R := by
    rw [show 5 + c.events.length * 2 = c.events.length * 2 + 5 by omega]; rfl
  clear hn hc
  (repeat (first | (with_reducible apply zah; (focus ((conv => lhs; simp [Nat.testBit_eq_decide_div_mod_eq, *]) <;> exact rfl)); simp only [addFl]) | ((with_reducible first | apply zai | apply zak | apply zag | apply zae | apply zac | apply zaj | apply zaf | apply zam | (apply zad; · simp [zaa, *]) | (apply zab; · simp [zaa, *])); try simp only [Then, Ops]) | simp only [Nat.reduceEqDiff, reduceIte, OutB, Then]))
  exact zao (v := spA sp) (.inl rfl) rfl (by simp) (by simp only [resL, resOf, zal]; simp [pickC, resV, spA, *]) ⟨rfl, rfl⟩
end K
end Ev
end Go.Proofs.Ytimgnlellflciaa

/- Package clamp, gone through: the span of something of a clamp, with a pack. -/
namespace Go.Proofs.Ytimgnlellflciaa
open Go
namespace Ev
namespace K
attribute [local simp] ev1 wantG spineK spine float xnew xval xeff zaa zaq zbc zav zaw addFl cellsOf pickC alive slLen slFt binI maxA maxK minA minK aeqK aeqS AV.cells spA zar fillA setAt bitsI nat_nn zbg AV.plain apart
set_option maxRecDepth 100000
set_option maxHeartbeats 4000000
def EveryC (call : CallF) (c : Clm.Cl) : Prop := ∀ (H : List AB) (yb : Nat) (w : AV), H[yb]? = some (.cells (clampCs c ++ [w])) → call (.fn (.func 63) [] []) [.ptr yb 0] H = some (.ret (.int .u64 ((Clm.every c : Nat) : Int)), H, [])
def EitherC (call : CallF) : Prop := ∀ (H : List AB) (s t : Clm.Sp), call (.fn (.func 85) [] []) [.agg [.int .i64 s.lo, .int .i64 s.hi], .agg [.int .i64 t.lo, .int .i64 t.hi]] H = some (.ret (.agg [.int .i64 (s.either t).lo, .int .i64 (s.either t).hi]), H, [])
def WayF (call : CallF) (F : AV) (c : Clm.Cl) (yb mb n : Nat) (pack : Int) (H0 : List AB) (g : Clm.Way → Clm.Sp) : Prop := ∀ G, Kp [mb] H0 G → Yd c yb mb G → ∀ w ∈ Clm.ways c n pack (Clm.every c), call F [.agg (wayCs n pack w)] G = some (.ret (.agg [.int .i64 (g w).lo, .int .i64 (g w).hi]), G, [])
theorem way_at (n : Nat) (pack : Int) : ∀ (ws : List Clm.Way) (i : Nat) (w : Clm.Way), ws[i]? = some w → List.take 19 (List.drop (i * 19) (ws.flatMap (wayCs n pack))) = wayCs n pack w
  | [], i, w, h => by simp at h
  | v :: ws, 0, w, h => by
    simp at h; subst h
    rw [List.flatMap_cons, Nat.zero_mul, List.drop_zero, List.take_append_of_le_length (by rw [zen]; omega), List.take_of_length_le (by rw [zen]; omega)]
  | v :: ws, i + 1, w, h => by
    have ih := way_at n pack ws i w (by simpa using h)
    rw [List.flatMap_cons, show (i + 1) * 19 = (wayCs n pack v).length + i * 19 by rw [zen]; omega, ← List.drop_drop, List.drop_left]
    exact ih
def foldE (g : Clm.Way → Clm.Sp) (ws : List Clm.Way) (s : Clm.Sp) : Clm.Sp := (ws.map g).foldl (fun k x => k.either x) s
theorem zsk (g : Clm.Way → Clm.Sp) (ws : List Clm.Way) (s : Clm.Sp) {i : Nat} {w : Clm.Way} (h : ws[i]? = some w) : foldE g (ws.take (i + 1)) s = (foldE g (ws.take i) s).either (g w) := by
  unfold foldE
  rw [List.take_add_one, h]; simp
theorem ztq (C : Cfg) (hC : C.calm = true) (call : CallF) (c : Clm.Cl) (hc : Clm.Fine c) (hE : EveryC call c) (hW : WaysC call c) (hEi : EitherC call) (H : List AB) (yb mb : Nat) (hY : Yd c yb mb H) (n : Nat) (hn : n < c.piles.length) (pack : Int) (hp0 : 0 ≤ pack) (hp1 : pack ≤ 5) (F : AV) (g : Clm.Way → Clm.Sp) (hF : WayF call F c yb mb n pack H g) (hne : Clm.ways c n pack (Clm.every c) ≠ []) :
    Does (ev C call H.length none af74.body { tm := tmA af74.ntmps (zipI 0 [.ptr yb 0, .int .i64 n, .int .i64 pack, F] []), df := [], hp := H, tc := [] })
      (Ends C H.length af74.res fun v hp tc => v = spA (Clm.spanOf c n pack g) ∧ (∀ j ∈ tc, j = mb) ∧ Kp tc H hp ∧ Yd c yb mb hp) := by
  have hml : mb < H.length := by obtain ⟨es, hm, _⟩ := hY.m; exact get_lt hm
  have hyl := get_lt hY.y
  have hev := fun K => hE (H ++ K) yb _ (hY.app K).y
  obtain ⟨H1, tc1, c2, c3, c4, w0, ws, b, hws, c6, c7, c1⟩ : ∃ H1 tc1, (∀ j ∈ tc1, j = mb) ∧ Kp tc1 (H ++ [.cells [.int .i64 0, .int .i64 0]]) H1 ∧ Yd c yb mb H1 ∧ ∃ w0 ws b, Clm.ways c n pack (Clm.every c) = w0 :: ws ∧ H.length + 1 ≤ b ∧ H1[b]? = some (.cells ((w0 :: ws).flatMap (wayCs n pack))) ∧ call (.fn (.func 86) [] []) [.ptr yb 0, .int .i64 n, .int .i64 pack, .int .u64 ((Clm.every c : Nat) : Int)] (H ++ [.cells [.int .i64 0, .int .i64 0]]) = some (.ret (.sl b 0 (ws.length + 1) 19), H1, tc1) := by
    obtain ⟨v, H1, tc1, c1, c2, c3, c4, c5⟩ := hW (H ++ [.cells [.int .i64 0, .int .i64 0]]) yb mb (hY.app _) n hn pack hp0 hp1 (Clm.every c)
    generalize Clm.ways c n pack (Clm.every c) = wss at c5 hne
    cases c5 with
    | none => exact absurd rfl hne
    | some b _ z1 z2 z3 =>
      cases wss with
      | nil => exact absurd rfl hne
      | cons w ws => exact ⟨H1, tc1, c2, c3, c4, w, ws, b, rfl, by simpa using z1, z2, c1⟩
  have hw8 : ws.length < fuelL ∧ ws.length ≤ 1000 := by
    have h1 := zqp c n pack (Clm.every c) (Clm.sizes (c.piles.getD n default))
    have h2 := zmb hc hn
    have h3 : (Clm.ways c n pack (Clm.every c)).length ≤ (Clm.sizes (c.piles.getD n default)).length := h1
    rw [List.getD_eq_getElem?_getD, List.getElem?_eq_getElem hn, hws] at h3
    simp only [List.length_cons, Option.getD_some] at h3
    unfold fuelL; omega
  have hspan : Clm.spanOf c n pack g = foldE g ws (g w0) := by unfold Clm.spanOf; rw [hws]; rfl
  have c3' : Kp [mb] (H ++ [.cells [.int .i64 0, .int .i64 0]]) H1 := c3.mono fun j _ h => by simpa using c2 j h
  have r8 : H1[H.length]? = some (.cells [.int .i64 0, .int .i64 0]) := c3'.at (by simp) (by simp; omega)
  have hF1 : ∀ K w, w ∈ w0 :: ws → call F [.agg (wayCs n pack w)] (H1 ++ K) = some (.ret (.agg [.int .i64 (g w).lo, .int .i64 (g w).hi]), H1 ++ K, []) := fun K w hw => hF _ (c3'.pre.trans (Kp.app _ _)) (c4.app _) w (by rw [hws]; exact hw)
  have hF2 := hF1 [] w0 (by simp)
  rw [List.append_nil] at hF2
  have wl := zhf n pack (w0 :: ws)
  have w1 := way_at n pack (w0 :: ws)
  have w2 := w1 0 w0 rfl
  rw [Nat.zero_mul, List.drop_zero] at w2
  obtain ⟨x0, x1, x2, x3, x4, x5⟩ := bk' c7
  obtain ⟨y0, y1, y2, y3, y4, y5⟩ := bk' r8
  rw [hspan]
  have HA := hideP (And.intro c2 (And.intro c3 (And.intro c4 (And.intro c3' hspan))))
  clear hE hW hF hY hne hws c2 c3 c4 c3' hspan hc c6
  simp only [List.length_cons] at wl
  generalize (w0 :: ws).flatMap (wayCs n pack) = cs at *
  unfold af74
  simp only [zipI] at *
  have k1 : 19 ≤ (ws.length + 1) * 19 := by omega
  have k3 : 1 ≤ (ws.length : Int) + 1 := by omega
  have n1 : ∀ n, ¬ H1.length + n < H.length := by omega
  have n2 : ¬ H1.length < H.length := by omega
  have n4 : ∀ n, ¬ H.length + n < H.length := by omega
  have fin : ∀ (J : List AB) (lo hi : Int), lo = (foldE g ws (g w0)).lo → hi = (foldE g ws (g w0)).hi → ∀ tm : List (Nat × AV), (tmA 38 tm).getD 8 .unk = .ptr H.length 0 → Ends C H.length [ARes.cell 8 (some 2)] (fun v hp tc => v = spA (foldE g ws (g w0)) ∧ (∀ j ∈ tc, j = mb) ∧ Kp tc H hp ∧ Yd c yb mb hp) AExit.ret { tm := tmA 38 tm, df := [], hp := (H1 ++ J).set H.length (.cells [.int .i64 lo, .int .i64 hi]), tc := tc1.filter (· < H.length) } := by
    rintro J lo hi rfl rfl tm ht
    obtain ⟨c2, c3, c4, c3', hspan⟩ := HA.out
    refine zao (v := spA (foldE g ws (g w0))) (.inl rfl) rfl (by simp; omega) (by
      simp only [resL, resOf, ht]
      rw [List.getElem?_set_self (by simp; omega)]
      simp [pickC, resV, spA]) ⟨rfl, fun j hj => c2 j (List.mem_filter.1 hj).1, ?_, ?_⟩
    · refine Kp.set ?_ _ _ (by omega)
      exact (c3.pre.mono fun j hj h => List.mem_filter.2 ⟨h, by simpa using hj⟩).trans (Kp.app _ _)
    · exact (c4.app J).kp ((Kp.refl [H.length] _).set _ _ (by simp)) (by simp <;> omega) (by simp <;> omega)
  have HF := hideP fin
  clear fin HA
  have hset : ∀ X, H1.set H.length X ++ [] = (H1 ++ []).set H.length X := by simp
  by_cases hw : ws = []
  · subst hw
    simp only [List.length_nil] at *
    (repeat (first | (with_reducible apply zah; (focus ((conv => lhs; simp [Nat.testBit_eq_decide_div_mod_eq, *]) <;> exact rfl)); simp only [addFl]) | ((with_reducible first | apply zai | apply zak | apply zag | apply zae | apply zac | apply zaj | apply zaf | apply zam | (apply zad; · simp [zaa, *]) | (apply zab; · simp [zaa, *])); try simp only [Then, Ops]) | simp only [Nat.reduceEqDiff, reduceIte, OutB, Then]))
    refine zaz hC 0 (by decide) (fun i st => ∃ J, st = { tm := tmA 38 [(27, .int .i64 i), (26, .int .i64 0), (25, .vs 19 []), (10, .ptr H1.length 0), (8, .ptr H.length 0), (3, F)], df := [], hp := H1 ++ .cells [.int .i64 (g w0).lo, .int .i64 (g w0).hi] :: J, tc := tc1.filter (· < H.length) }) ?_ (fun i st hi => absurd hi (by omega)) ?_
    · refine ⟨[], ?_⟩
      (refine st_is ?_ ?_ ?_ ?_; (focus (simp [zan, zap])); (focus rfl); (focus (first | rfl | (simp; done) | (simp; rfl))); (focus rfl))
    · rintro st ⟨J, rfl⟩
      (repeat (first | (with_reducible apply zah; (focus ((conv => lhs; simp [Nat.testBit_eq_decide_div_mod_eq, *]) <;> exact rfl)); simp only [addFl]) | ((with_reducible first | apply zai | apply zak | apply zag | apply zae | apply zac | apply zaj | apply zaf | apply zam | (apply zad; · simp [zaa, *]) | (apply zab; · simp [zaa, *])); try simp only [Then, Ops, OutB, reduceIte]) | simp only [Nat.reduceEqDiff, reduceIte, OutB, Then]))
      rw [← ztz y0]
      exact HF.out _ _ _ rfl rfl _ rfl
  · have hwl : 0 < ws.length := by
      cases ws with
      | nil => exact absurd rfl hw
      | cons _ _ => simp
    (repeat (first | (with_reducible apply zah; (focus ((conv => lhs; simp [Nat.testBit_eq_decide_div_mod_eq, *]) <;> exact rfl)); simp only [addFl]) | ((with_reducible first | apply zai | apply zak | apply zag | apply zae | apply zac | apply zaj | apply zaf | apply zam | (apply zad; · simp [zaa, *]) | (apply zab; · simp [zaa, *])); try simp only [Then, Ops]) | simp only [Nat.reduceEqDiff, reduceIte, OutB, Then]))
    refine zaz hC ws.length hw8.1 (fun i st => ∃ J, st = { tm := tmA 38 [(27, .int .i64 i), (26, .int .i64 ws.length), (25, .sl b 19 ws.length 19), (10, .ptr H1.length 0), (8, .ptr H.length 0), (3, F)], df := [], hp := H1 ++ .cells [.int .i64 (foldE g (ws.take i) (g w0)).lo, .int .i64 (foldE g (ws.take i) (g w0)).hi] :: J, tc := tc1.filter (· < H.length) }) ?_ ?_ ?_
    · refine ⟨[], ?_⟩
      (refine st_is ?_ ?_ ?_ ?_; (focus (simp [zan, zap])); (focus rfl); (focus (first | rfl | (simp; done) | (simp; rfl))); (focus rfl))
    · rintro i st hi ⟨J, rfl⟩
      have hgi : ws[i]? = some ws[i] := List.getElem?_eq_getElem hi
      generalize ws[i] = w at hgi
      have hm := List.mem_of_getElem? hgi
      have hFw := fun K => hF1 K w (by simp [hm])
      have e1 := w1 (i + 1) w (by simpa using hgi)
      rw [show (i + 1) * 19 = 19 + i * 19 by omega] at e1
      have e2 := zsk g ws (g w0) hgi
      have e3 := fun H => hEi H (foldE g (ws.take i) (g w0)) (g w)
      rw [← e2] at e3
      generalize foldE g (ws.take i) (g w0) = s0 at *
      generalize foldE g (ws.take (i + 1)) (g w0) = s1 at *
      have e4 : 19 + i * 19 + 19 ≤ (ws.length + 1) * 19 := by omega
      have e5 : (i : Int) < ws.length := by omega
      have e6 := zen n pack w
      have e7 : (wayCs n pack w).all AV.plain = true := rfl
      have e8 : List.take 19 (wayCs n pack w) = wayCs n pack w := rfl
      have hwi : IntKind.i64.wrap (↑i + 1) = ↑i + 1 := zas (by omega) (by have := hw8.2; omega)
      generalize wayCs n pack w = R at *
      clear hF1 hF2 w1 w2 e2 hgi hm
      (repeat (first | (with_reducible apply zah; (focus ((conv => lhs; simp [Nat.testBit_eq_decide_div_mod_eq, *]) <;> exact rfl)); simp only [addFl]) | ((with_reducible first | apply zai | apply zak | apply zag | apply zae | apply zac | apply zaj | apply zaf | apply zam | (apply zad; · simp [zaa, *]) | (apply zab; · simp [zaa, *])); try simp only [Then, Ops, OutB]) | simp only [Nat.reduceEqDiff, reduceIte, OutB, Then]))
      refine ⟨J ++ [.cells R], ?_⟩
      (refine st_is ?_ ?_ ?_ ?_; (focus (simp [zan, zap])); (focus rfl); (focus (first | rfl | (simp; done) | (simp; rfl))); (focus rfl))
    · rintro st ⟨J, rfl⟩
      rw [List.take_length]
      have e5 : ¬ ((ws.length : Int) < ws.length) := by omega
      clear hF1 hF2 w1 w2
      (repeat (first | (with_reducible apply zah; (focus ((conv => lhs; simp [Nat.testBit_eq_decide_div_mod_eq, *]) <;> exact rfl)); simp only [addFl]) | ((with_reducible first | apply zai | apply zak | apply zag | apply zae | apply zac | apply zaj | apply zaf | apply zam | (apply zad; · simp [zaa, *]) | (apply zab; · simp [zaa, *])); try simp only [Then, Ops, OutB, reduceIte]) | simp only [Nat.reduceEqDiff, reduceIte, OutB, Then]))
      rw [← ztz y0]
      exact HF.out _ _ _ rfl rfl _ rfl
end K
end Ev
end Go.Proofs.Ytimgnlellflciaa

/- Package clamp, gone through: the hull of something, over all packs. -/
namespace Go.Proofs.Ytimgnlellflciaa
open Go
namespace Ev
namespace K
attribute [local simp] ev1 wantG spineK spine float xnew xval xeff zaa zaq zbc zav zaw addFl cellsOf pickC alive slLen slFt binI maxA maxK minA minK aeqK aeqS AV.cells spA zar fillA setAt bitsI nat_nn zbg AV.plain apart
set_option maxRecDepth 100000
set_option maxHeartbeats 4000000
def PackF (call : CallF) (F : AV) (c : Clm.Cl) (yb mb : Nat) (H0 : List AB) (g : Int → Clm.Sp) : Prop := ∀ G, Kp [mb] H0 G → Yd c yb mb G → ∀ k ∈ Clm.packs c (Clm.every c), ∃ G' tc, call F [.int .i64 k] G = some (.ret (.agg [.int .i64 (g k).lo, .int .i64 (g k).hi]), G', tc) ∧ (∀ j ∈ tc, j = mb) ∧ Kp tc G G' ∧ Yd c yb mb G'
theorem zvu (d : List Clm.Sp) (x : Clm.Sp) (h : d ≠ []) : Clm.hull (d ++ [x]) = x.either (Clm.hull d) := by
  cases d with
  | nil => exact absurd rfl h
  | cons a d => simp only [List.cons_append, Clm.hull, List.foldl_append, List.foldl_cons, List.foldl_nil]; exact Clm.either_comm _ _
theorem zvt (C : Cfg) (hC : C.calm = true) (n : Nat) (c : Clm.Cl) (hE : EveryC (Ev.call C (n + 2)) c) (hP : PacksC (Ev.call C (n + 2))) (hI : PackI C (n + 1) c) (hEi : EitherC (Ev.call C n)) (H : List AB) (yb mb : Nat) (hY : Yd c yb mb H) (fl : Fn) (fa fb : List AV) (g : Int → Clm.Sp) (hF : PackF (Ev.call C n) (.fn fl fa fb) c yb mb H g) :
    Does (ev C (Ev.call C (n + 2)) H.length none af72.body { tm := tmA af72.ntmps (zipI 0 [.ptr yb 0, .fn fl fa fb] []), df := [], hp := H, tc := [] })
      (Ends C H.length af72.res fun v hp tc => v = spA (Clm.hull ((Clm.packs c (Clm.every c)).map g)) ∧ (∀ j ∈ tc, j = mb) ∧ Kp tc H hp ∧ Yd c yb mb hp) := by
  unfold PacksC at hP
  have hyl := get_lt hY.y
  obtain ⟨es, hm, hes⟩ := hY.m
  have hml := get_lt hm
  have hev := fun K => hE (H ++ K) yb _ (hY.app K).y
  clear hE
  unfold af72
  simp only [zipI]
  (repeat (first | (with_reducible apply zah; (focus ((conv => lhs; simp [Nat.testBit_eq_decide_div_mod_eq, *]) <;> exact rfl)); simp only [addFl]) | ((with_reducible first | apply zai | apply zak | apply zag | apply zae | apply zac | apply zaj | apply zaf | apply zam | (apply zad; · simp [zaa, *]) | (apply zab; · simp [zaa, *])); try simp only [Then, Ops]) | simp only [Nat.reduceEqDiff, reduceIte, OutB, Then]))
  refine znl hC (hI yb mb (Clm.every c) (H.length + 4) (H.length + 4 + 1)) (by simp [zaa]) rfl [H.length + 2, H.length + 3] (by simp) (by simp; omega)
    (fun d W G => W = [] ∧ Kp [mb] H G ∧ G[H.length]? = some (.cells [.fn fl fa fb]) ∧ G[H.length + 2]? = some (.cells [.int .i64 (Clm.hull (d.map g)).lo, .int .i64 (Clm.hull (d.map g)).hi]) ∧ G[H.length + 3]? = some (.cells [.bool d.isEmpty])) (fun e d G => False)
    (fun r => ?_) (fun G G' h k => ?_) (fun r => ?_) (fun r => ?_) (fun d W G G' h k => ?_) (fun e d G G' h k => h) ?_ ?_ (fun _ _ _ _ _ _ _ _ _ _ _ h => h.elim)
  · refine ⟨by simp, by simp [Nat.add_assoc], by simp <;> omega, by simp <;> omega, by omega, by omega⟩
  · obtain ⟨es, m1, m2⟩ := h.m
    refine ⟨h.ne, (k _ (by simp; omega)).trans h.y, es, (k _ (by simp; omega)).trans m1, m2⟩
  · refine ⟨rfl, ?_, by simp, by simp [Clm.hull], by simp⟩
    rw [List.append_assoc]; exact Kp.app _ _
  · exact (hY.app _).app _
  · simp only [List.length_append, List.length_cons, List.length_nil, Nat.zero_add, Nat.add_assoc, Nat.reduceAdd] at k
    obtain ⟨h1, h2, h3, h4, h5⟩ := h
    have := h2.len
    refine ⟨h1, ⟨?_, fun b hb hs => ?_⟩, (k _ (get_lt h3) (by simp; omega) (by omega)).trans h3, (k _ (get_lt h4) (by simp; omega) (by omega)).trans h4, (k _ (get_lt h5) (by simp; omega) (by omega)).trans h5⟩
    · have := (k _ (get_lt h3) (by simp; omega) (by omega)).trans h3
      have := get_lt this; omega
    · rw [k b (by omega) hs (by omega)]; exact h2.get b hb hs
  · rintro d s W G rz hpr ⟨rfl, h1, h5, h6, h7⟩ h2 h3 h4
    rw [setP1]
    simp only [List.length_append, List.length_cons, List.length_nil, Nat.zero_add, Nat.add_assoc, Nat.reduceAdd] at h3 ⊢
    (repeat (first | (with_reducible apply zah; (focus ((conv => lhs; simp [Nat.testBit_eq_decide_div_mod_eq, *]) <;> exact rfl)); simp only [addFl]) | ((with_reducible first | apply zai | apply zak | apply zag | apply zae | apply zac | apply zaj | apply zaf | apply zam | (apply zad; · simp [zaa, *]) | (apply zab; · simp [zaa, *])); try simp only [Ops]) | simp only [Nat.reduceEqDiff, reduceIte, OutB, Then]))
    refine ⟨trivial, trivial, ?_⟩
    obtain ⟨G2, hG2, k1, k2, k3, k4⟩ := zty (G := G) (l := H.length + 7) (.loop rz) (by omega)
    rw [← hG2]
    clear hG2
    have e1 := (k3 H.length (by omega)).trans h5
    have e2 := (k3 (H.length + 2) (by omega)).trans h6
    have e3 := (k3 (H.length + 3) (by omega)).trans h7
    have hYd2 : Yd c yb mb G2 := h2.kp k4 (by simp <;> omega) (by simp <;> omega)
    have hK2 : Kp [mb] H G2 := ⟨by omega, fun b hb hs => by rw [k3 b (by omega)]; exact h1.get b hb hs⟩
    obtain ⟨G3, tc3, c1, c2, c3, c4⟩ := hF G2 hK2 hYd2 s (hpr.subset (by simp))
    have nt : ∀ {j}, H.length ≤ j → j ∉ tc3 := fun hj ht => by have := c2 _ ht; omega
    obtain ⟨f0, f1, f2, f3, f4, f5⟩ := bk' e1
    obtain ⟨g0, g1, g2, g3, g4, g5⟩ := bk' (c3.at e2 (nt (by omega)))
    obtain ⟨o0, o1, o2, o3, o4, o5⟩ := bk' (c3.at e3 (nt (by omega)))
    have k23 := c3.at k2 (nt (by omega))
    have e13 := c3.at e1 (nt (by omega))
    have hlen3 := c3.len
    have HA := hideP (And.intro hK2 (And.intro c2 (And.intro c3 (And.intro c4 (And.intro k4 (And.intro h1 (And.intro e13 (And.intro k23 (And.intro k1 hlen3)))))))))
    clear hY hm hP hI hF hK2 c2 c3 c4 hYd2 h2 h1 e13 k4 k3 hev hpr k1 hlen3 h3
    have hhs := zvu (d.map g) (g s)
    have HH := hideP hhs
    clear hhs
    have hei := fun H => hEi H (g s) (Clm.hull (d.map g))
    generalize Clm.hull (d.map g) = hd at *
    cases d with
    | nil =>
      simp only [List.isEmpty_nil] at *
      (repeat (first | (with_reducible apply zah; (focus ((conv => lhs; simp [Nat.testBit_eq_decide_div_mod_eq, *]) <;> exact rfl)); simp only [addFl]) | ((with_reducible first | apply zai | apply zak | apply zag | apply zae | apply zac | apply zaj | apply zaf | apply zam | (apply zad; · simp [zaa, *]) | (apply zab; · simp [zaa, *])); try simp only [Then, Ops, OutB]) | simp only [Nat.reduceEqDiff, reduceIte, OutB, Then]))
      obtain ⟨hK2, c2, c3, c4, k4, h1, e13, k23, k1, hlen3⟩ := HA.out
      have hG3 : G.length ≤ G3.length := by omega
      have h13 : H.length ≤ G.length := h1.len
      have hh : H.length + 7 < G3.length := get_lt k23
      have hcc : ∀ {j x}, G3[j]? = some x → j ≠ H.length + 2 → j ≠ H.length + 3 → ∀ X Y K, ((G3.set (H.length + 2) X).set (H.length + 3) Y ++ K)[j]? = some x := fun hx h1 h2 X Y K => by
        rw [List.getElem?_append_left (by simpa using get_lt hx), List.getElem?_set_ne (by omega), List.getElem?_set_ne (by omega)]; exact hx
      have hkk : ∀ {S X Y K}, Kp S G G3 → (H.length + 2 < G.length → H.length + 2 ∈ S) → (H.length + 3 < G.length → H.length + 3 ∈ S) → Kp S G ((G3.set (H.length + 2) X).set (H.length + 3) Y ++ K) := fun k h1 h2 => ((k.set _ _ h1).set _ _ h2).trans (Kp.app _ _)
      refine ⟨by simp, hcc k23 (by omega) (by omega) _ _ _, by simp; omega, ?_, ?_, ?_, fun _ => ⟨[], by simp, rfl, ?_, hcc e13 (by omega) (by omega) _ _ _, ?_, ?_⟩, fun h => absurd rfl h⟩
      · intro j hj
        simp only [List.mem_append, List.mem_filter, List.mem_singleton, decide_eq_true_eq] at hj
        simp only [List.mem_cons, List.not_mem_nil, or_false]
        rcases hj with h | h | h | h | h
        · omega
        · omega
        · omega
        · exact .inr (.inr (c2 j h.1))
        · exact .inl h
      · refine hkk ((k4.trans2 c3).mono fun b _ h => ?_) (fun h => ?_) (fun h => ?_)
        · exact List.mem_append_right _ (List.mem_append_right _ (List.mem_append_right _ h))
        · exact List.mem_append_right _ (List.mem_append_left _ (List.mem_filter.2 ⟨by simp, by simpa using h⟩))
        · exact List.mem_append_left _ (List.mem_filter.2 ⟨by simp, by simpa using h⟩)
      · have k := ((Kp.refl [H.length + 2, H.length + 3] G3).set (H.length + 2) (.cells [.int .i64 (g s).lo, .int .i64 (g s).hi]) (by simp)).set (H.length + 3) (.cells [.bool false]) (by simp)
        exact (c4.kp k (by simp <;> omega) (by simp <;> omega)).app _
      · have k3 : Kp [mb] H G3 := ⟨by omega, fun b hb hs => by rw [c3.get b (by omega) (fun h => hs (by simpa using c2 b h))]; exact hK2.get b hb hs⟩
        exact (((k3.set _ _ (by omega)).set _ _ (by omega))).trans (Kp.app _ _)
      · rw [List.getElem?_append_left (by simp; omega), List.getElem?_set_ne (by omega), List.getElem?_set_self (by omega)]
        simp [Clm.hull]
      · rw [List.getElem?_append_left (by simp; omega), List.getElem?_set_self (by simp; omega)]
        simp
    | cons a d =>
      simp only [List.isEmpty_cons] at *
      (repeat (first | (with_reducible apply zah; (focus ((conv => lhs; simp [Nat.testBit_eq_decide_div_mod_eq, *]) <;> exact rfl)); simp only [addFl]) | ((with_reducible first | apply zai | apply zak | apply zag | apply zae | apply zac | apply zaj | apply zaf | apply zam | (apply zad; · simp [zaa, *]) | (apply zab; · simp [zaa, *])); try simp only [Then, Ops, OutB]) | simp only [Nat.reduceEqDiff, reduceIte, OutB, Then]))
      obtain ⟨hK2, c2, c3, c4, k4, h1, e13, k23, k1, hlen3⟩ := HA.out
      have hG3 : G.length ≤ G3.length := by omega
      have h13 : H.length ≤ G.length := h1.len
      have hh : H.length + 7 < G3.length := get_lt k23
      have hcc : ∀ {j x}, G3[j]? = some x → j ≠ H.length + 2 → j ≠ H.length + 3 → ∀ X Y K, ((G3.set (H.length + 2) X).set (H.length + 3) Y ++ K)[j]? = some x := fun hx h1 h2 X Y K => by
        rw [List.getElem?_append_left (by simpa using get_lt hx), List.getElem?_set_ne (by omega), List.getElem?_set_ne (by omega)]; exact hx
      have hkk : ∀ {S X Y K}, Kp S G G3 → (H.length + 2 < G.length → H.length + 2 ∈ S) → (H.length + 3 < G.length → H.length + 3 ∈ S) → Kp S G ((G3.set (H.length + 2) X).set (H.length + 3) Y ++ K) := fun k h1 h2 => ((k.set _ _ h1).set _ _ h2).trans (Kp.app _ _)
      refine ⟨by simp, hcc k23 (by omega) (by omega) _ _ _, by simp; omega, ?_, ?_, ?_, fun _ => ⟨[], by simp, rfl, ?_, hcc e13 (by omega) (by omega) _ _ _, ?_, ?_⟩, fun h => absurd rfl h⟩
      · intro j hj
        simp only [List.mem_append, List.mem_filter, List.mem_singleton, decide_eq_true_eq] at hj
        simp only [List.mem_cons, List.not_mem_nil, or_false]
        rcases hj with h | h | h | h | h | h
        · omega
        · omega
        · omega
        · omega
        · exact .inr (.inr (c2 j h.1))
        · exact .inl h
      · refine hkk ((k4.trans2 c3).mono fun b _ h => ?_) (fun h => ?_) (fun h => ?_)
        · exact List.mem_append_right _ (List.mem_append_right _ (List.mem_append_right _ (List.mem_append_right _ h)))
        · exact List.mem_append_right _ (List.mem_append_left _ (List.mem_filter.2 ⟨by simp, by simpa using h⟩))
        · exact List.mem_append_left _ (List.mem_filter.2 ⟨by simp, by simpa using h⟩)
      · have k := ((Kp.refl [H.length + 2, H.length + 3] G3).set (H.length + 2) (.cells [.int .i64 ((g s).either hd).lo, .int .i64 ((g s).either hd).hi]) (by simp)).set (H.length + 3) (.cells [.bool false]) (by simp)
        exact (c4.kp k (by simp <;> omega) (by simp <;> omega)).app _
      · have k3 : Kp [mb] H G3 := ⟨by omega, fun b hb hs => by rw [c3.get b (by omega) (fun h => hs (by simpa using c2 b h))]; exact hK2.get b hb hs⟩
        exact (((k3.set _ _ (by omega)).set _ _ (by omega))).trans (Kp.app _ _)
      · rw [List.getElem?_append_left (by simp; omega), List.getElem?_set_ne (by omega), List.getElem?_set_self (by omega)]
        have := HH.out (by simp)
        simp only [List.map_append, List.map_cons, List.map_nil] at this ⊢
        rw [this]
      · rw [List.getElem?_append_left (by simp; omega), List.getElem?_set_self (by simp; omega)]
        simp
  · rintro H' tc W h1 h2 h3 h4 h5 h6 ⟨rfl, h7, h8, h9, h10⟩
    simp only [List.length_append, List.length_cons, List.length_nil, Nat.zero_add, Nat.add_assoc, Nat.reduceAdd] at h1 h4 h5 ⊢
    have hkp := h2.pre
    have htc : ∀ j ∈ tc.filter (· < H.length), j = mb := by
      intro j hj
      obtain ⟨q1, q2⟩ := List.mem_filter.1 hj
      have q2 : j < H.length := by simpa using q2
      have := h1 j q1 (by omega)
      simp at this
      omega
    have hkp2 : Kp (tc.filter (· < H.length)) H H' := hkp.mono fun b hb h => List.mem_filter.2 ⟨h, by simpa using hb⟩
    generalize Clm.hull ((Clm.packs c (Clm.every c)).map g) = hd at *
    have e1 : ∃ x y, H'[H.length + 1]? = some (.cells [x, y]) := by
      have := h2.get (H.length + 1) (by simp) (fun h => by have := h1 _ h (by omega); simp at this; omega)
      rw [this]
      exact ⟨_, _, by simp; exact ⟨rfl, rfl⟩⟩
    obtain ⟨x, y, e1⟩ := e1
    obtain ⟨f0, f1, f2, f3, f4, f5⟩ := bk' h9
    obtain ⟨g0, g1, g2, g3, g4, g5⟩ := bk' e1
    have HQ := hideP (And.intro htc (And.intro hkp2 (And.intro h3 (And.intro h4 h5))))
    clear htc hkp2 h3 h1 h2 hkp hY hm hP hI h6 h7 h4 h5 hF
    simp only [List.append_nil]
    (repeat (first | (with_reducible apply zah; (focus ((conv => lhs; simp [Nat.testBit_eq_decide_div_mod_eq, *]) <;> exact rfl)); simp only [addFl]) | ((with_reducible first | apply zai | apply zak | apply zag | apply zae | apply zac | apply zaj | apply zaf | apply zam | (apply zad; · simp [zaa, *]) | (apply zab; · simp [zaa, *])); try simp only [Then, Ops]) | simp only [OutB, Then]))
    obtain ⟨q1, q2, q3, h4, h5⟩ := HQ.out
    refine zgk (v := spA hd) (.inl rfl) rfl (by rw [List.getElem?_set_ne (by omega)]; exact h4) (by omega) (by simp; omega) (by
      simp only [resL, resOf, zal]
      simp only [reduceIte, Nat.reduceEqDiff, Nat.reduceLT]
      rw [List.getElem?_set_ne (by omega), List.getElem?_set_self (by omega)]
      simp [pickC, resV, spA]) ⟨rfl, q1, (q2.set _ _ (by omega)).set _ _ (by omega), ?_⟩
    exact (q3.kp ((Kp.refl [H.length + 1] H').set _ _ (by simp)) (by simp <;> omega) (by simp <;> omega)).kp ((Kp.refl [H.length + 6] _).set _ _ (by simp)) (by simp <;> omega) (by simp <;> omega)
end K
end Ev
end Go.Proofs.Ytimgnlellflciaa
