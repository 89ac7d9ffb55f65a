/- Operations that write: append, copy. -/
import Derived.Test.YtcaejedfjobooaaGreatEvEff
namespace Go.Proofs.YtcaejedfjobooaaGreat
open Go Go.RowKit
namespace Ev
section
variable {P : Program} {E : Ent} {tc : List Nat} {W : World} {L : Nat → Prop} {μ : Mu} {H : List AB} {C : Cfg} {tm : List AV} {a : Act}

theorem elemCells_get {k : Nat} (hk : 0 < k) : ∀ {es : List AV}, (∀ (i : Nat) (e : AV), es[i]? = some e → e.cells.length = k) → (elemCells es).length = es.length * k ∧ ∀ q x, (elemCells es)[q]? = some x → ∃ e, es[q / k]? = some e ∧ e.cells[q % k]? = some x
  | [], _ => ⟨by simp [elemCells], fun q x h => by simp [elemCells] at h⟩
  | e :: es, h => by
    have h0 := h 0 e rfl
    obtain ⟨h1, h2⟩ := elemCells_get hk (es := es) fun i e he => h (i + 1) e (by simpa using he)
    refine ⟨by simp [elemCells, h1, h0, Nat.add_mul, Nat.add_comm], fun q x hx => ?_⟩
    simp only [elemCells] at hx
    by_cases hq : q < k
    · rw [List.getElem?_append_left (by omega)] at hx
      exact ⟨e, by simp [Nat.div_eq_of_lt hq], by rw [Nat.mod_eq_of_lt hq]; exact hx⟩
    · rw [List.getElem?_append_right (by omega), h0] at hx
      obtain ⟨e', g1, g2⟩ := h2 _ _ hx
      refine ⟨e', ?_, by rwa [Nat.mod_eq_sub_mod (by omega)]⟩
      rw [Nat.div_eq_sub_div hk (by omega)]
      simpa using g1

/-- The cells of a slice, as the model has them. -/
theorem slCells_ok (hs : Sim P W L μ H) {k : Nat} (hk : 0 < k) {v : AV} {x : Value} (hv : VR W L μ v x) {news : List AV} {n : Nat} (hc : slCells k H v = some news) (hn : slLen H v = some n) :
    ∃ p cap, x = .slice p n cap ∧ news.length = n * k ∧ n ≤ cap ∧ (n = 0 ∨ ∃ b o, p = some ⟨b, o, none⟩ ∧ Rd W L μ news b o) := by
  unfold slCells at hc
  split at hc
  · cases hc; cases hn
    exact ⟨none, 0, vr_nils hv, by simp, Nat.le_refl _, .inl rfl⟩
  · rename_i k' es
    simp [slLen] at hn; subst hn
    split at hc <;> cases hc
    rename_i hk'
    cases hv with
    | dead h => simp [headRef] at h
    | vs0 => exact ⟨_, _, rfl, by simp [elemCells], Nat.zero_le _, .inl rfl⟩
    | @vs _ _ b o cap _ rs g1 g2 g3 g4 =>
      by_cases h0 : es = []
      · subst h0; exact ⟨_, _, rfl, by simp [elemCells], Nat.zero_le _, .inl rfl⟩
      · have hkk : k = k' := by rcases hk' with h | h; exact h; exact absurd (by simpa using h) h0
        subst hkk
        obtain ⟨f1, f2⟩ := elemCells_get hk g2
        refine ⟨_, _, rfl, f1, g1, .inr ⟨b, o, rfl, fun q x hx => ?_⟩⟩
        obtain ⟨e, e1, e2⟩ := f2 q x hx
        refine ⟨rs (q / k) (q % k), ?_, (g4 _ _ _ _ e1 e2).lift⟩
        have := (g3 _ _ _ _ e1 e2).2
        rwa [Nat.add_assoc, show q / k * k + q % k = q by rw [Nat.mul_comm]; exact Nat.div_add_mod q k] at this
  · rename_i b off n' k'
    split at hc
    case isFalse => cases hc
    rename_i hkk
    subst hkk
    split at hc
    · rename_i cs hcs
      split at hc <;> cases hc
      rename_i hle
      have ha : alive H b = true := by unfold alive; rw [hcs]
      simp [slLen, ha] at hn; subst hn
      obtain ⟨B, cap, rs, t, g1, g2, g3, g4, g5⟩ := sl_alive hs hv ha
      refine ⟨_, _, g2, by simp; omega, g3, ?_⟩
      by_cases h0 : n' = 0
      · exact .inl h0
      · refine .inr ⟨B, off, rfl, ?_⟩
        obtain ⟨_, _, blk, o, e1, e2, e3⟩ := hs.live b B g1
        rw [hcs] at e1; cases e1
        rw [g4] at e2; cases e2
        have hrd : Rd W L μ cs B 0 := fun j x hx => by
          cases e3 with
          | cells l1 l2 =>
            have hj := (List.getElem?_eq_some_iff.1 hx).1
            exact ⟨rs[j], by simp [World.cell?, g4], l2 j x _ hx (Array.getElem?_eq_getElem (by omega))⟩
        have := (hrd.drop off).take (n' * k)
        simpa using this
    · cases hc
  · cases hc

theorem vals_one {news : List AV} {b o : Nat} (hp : news.all AV.plain = true) (h : Rd W L μ news b o) : ∀ u ∈ cellsW W b o news.length, u.oneCell' = true := vl_plain hp h.vl

/-- Appending nothing to what is one's own. -/
theorem run_append_zero {t e ty : Nat} {i : TypeInfo} (hu : P.underlying t = some (.slice e)) (hi : P.info? e = some i) (q : Option Addr) (n cap : Nat) (p : Option Addr) (c : Nat) (hn : n ≤ cap) :
    (Builtin.append_ #[t, t] ty #[.slice q n cap, .slice p 0 c]).run P W = .ok (.slice q n cap) W := by
  cases p <;> cases q <;> simp [Builtin.append_, run_underlying hu, sizeOf, typeInfo, hi, Builtin.lenOf, hn, Builtin.firstCells, loadCells, loadCellsFrom, storeCells]

/-- Nobody speaks of the block of one that is dead. -/
theorem free_after_kill (hs : Sim P W L μ H) {b B : Nat} (hm : μ b = .at B) : ∀ i, updM μ b .dead i ≠ .at B := by
  intro i h
  by_cases hi : i = b
  · subst hi; rw [updM_same] at h; cases h
  · rw [updM_ne _ _ hi] at h; exact hi (hs.inj i b B h hm)

theorem Hp.ownAt (h : Hp P E tc W L μ H) {b B : Nat} (hm : μ b = .at B) : E.W.heap.size ≤ B ∨ ∃ i, i ∈ [b].filter (· < E.pin) ++ tc ∧ E.μ i = .at B := by
  by_cases hb : b < E.pin
  · rcases h.pins b hb with e | ⟨e, _⟩
    · exact .inr ⟨b, List.mem_append_left _ (by simp [hb]), e.symm.trans hm⟩
    · rw [hm] at e; cases e
  · rcases h.own b B (by omega) hm with e | ⟨i, e, f⟩
    · exact .inl e
    · exact .inr ⟨i, List.mem_append_right _ e, f⟩

theorem run_append_room' {t e ty t' : Nat} {i : TypeInfo} (ht : P.underlying t = some (.slice e)) (hi : P.info? e = some i) (w : World)
    (g sLen sCap : Nat) (cur : Array Value) (hg : w.heap[g]? = some (.cells cur t' (0, 0)))
    (a : Addr) (m c : Nat) (news : List Value) (hl : news.length = m * i.size) (hnews : ∀ j u, news[j]? = some u → w.cell? (a.add j) = some u) (h1 : ∀ u ∈ news, u.oneCell' = true)
    (hroom : sLen + m ≤ sCap) (hfit : sLen * i.size + news.length ≤ cur.size) :
    (Builtin.append_ #[t, t] ty #[.slice (some ⟨g, 0, none⟩) sLen sCap, .slice (some a) m c]).run P w =
      .ok (.slice (some ⟨g, 0, none⟩) (sLen + m) sCap) (w.setRow g (cur.toList.take (sLen * i.size) ++ news ++ cur.toList.drop (sLen * i.size + news.length)).toArray) := by
  have hf := run_firstCells_some (P := P) w i.size m a m c news hl hnews
  have hst := run_storeCells_at P g (sLen * i.size) t' news 0 cur w hg (by simpa using hfit) h1
  simp only [Nat.add_zero] at hst
  simp [Builtin.append_, run_underlying ht, sizeOf, typeInfo, hi, Builtin.lenOf, hroom, hf, Addr.add_lit, hst]

/-- What lies nowhere yet goes on to do so. -/
def Stays (N : Nat) (μ μ' : Mu) : Prop := ∀ j, j < N → μ j = .no → μ' j = .no
theorem Stays.new {N : Nat} {r : MR} {μ : Mu} : Stays N μ (updM μ N r) := fun j hj h => by rw [updM_ne _ _ (by omega)]; exact h
theorem Stays.kill_new {N b B : Nat} {r : MR} {μ : Mu} (hb : μ b = .at B) : Stays N μ (updM (updM μ b .dead) N r) := fun j hj h => by
  rw [updM_ne _ _ (by omega), updM_ne]
  · exact h
  · rintro rfl; rw [hb] at h; cases h

theorem append_ok {t e k by' : Nat} {x y : Operand} {x' y' : Opnd} {z : List AV} (h : Hp P E tc W L μ H) (he : Env C W L μ tm a) (hu : slElem P t = some (e, k, by')) (hk : 0 < k) (hby : by' ≤ 134217728) (hz : zeroT P e = some z) (hzk : z.length = k)
    (h1 : opnd x = some x') (h2 : opnd y = some y') {r : XR} (hx : xeff H (val C tm) (.append k x' y') = some r) (ty : Nat) :
    ∃ w W' L' μ', (Builtin.append_ #[t, t] ty #[a.eval x, a.eval y]).run P W = .ok w W' ∧ VR W' L' μ' r.v w ∧ Hp P E (r.tc.filter (· < E.pin) ++ tc) W' L' μ' r.hp ∧ Later L L' W W' ∧ Ext μ μ' ∧ (∀ b, L b → L' b) ∧ Stays H.length μ μ' := by
  have e1 := opnd_ok he h1
  have e2 := opnd_ok he h2
  obtain ⟨u1, u2, i, hi, hik, hib⟩ := slElem_ok hu
  obtain ⟨i', zv, z1, z2, z3⟩ := zeroT_ok (W := W) (L := L) (μ := μ) hz
  rw [hi] at z1; cases z1
  have hzs : zv.cells.size = k := by have := z3.1; simp at this; omega
  simp only [xeff] at hx
  split at hx
  case h_2 => cases hx
  rename_i news m hnews hm
  obtain ⟨p, cap, f1, f2, f3, f4⟩ := slCells_ok h.sim hk e2 hnews hm
  have hbound : bound = 1048576 := rfl
  split at hx
  · rename_i hb
    rw [hb] at e1
    have g1 := vr_nils e1
    split at hx
    · rename_i h0
      cases hx
      subst h0
      refine ⟨.slice none 0 0, W, L, μ, ?_, .nils, by simpa using h, Later.refl _ _, Ext.refl _, fun _ hb => hb, fun _ _ h => h⟩
      rw [g1, f1]
      exact run_append_zero u1 hi none 0 0 p cap (Nat.le_refl _)
    · rename_i h0
      split at hx <;> cases hx
      rename_i hb'
      rw [hbound] at hb'
      rcases f4 with h' | ⟨b, o, rfl, hrd⟩
      · exact absurd h' h0
      · have hlen : (cellsW W b o news.length).length = m * i.size := by simp [cellsW, f2, hik]
        have hmul : m * i.bytes ≤ 1048576 * 134217728 := Nat.mul_le_mul hb' (by omega)
        have hrun := run_append_nil (P := P) W t ty e i zv u1 hi z2 ⟨b, o, none⟩ m cap _ hlen hrd.cells (by omega) (by omega) (by omega)
        have hcap : m ≤ grownCap W m 0 e := grownCap_ge W m 0 e
        obtain ⟨hh, hl⟩ := h.env' (W' := W.drew) rfl ⟨rfl, rfl, rfl⟩
        have hpu := hh.push [.cells news]
        have hvl : VL W.drew L μ news (cellsW W b o news.length) := (hrd.vl).mono hl (Ext.refl _)
        have hbr : BR P W.drew L μ (.cells news) (.cells ((cellsW W b o news.length).toArray ++ Builtin.zeroCells zv.cells (grownCap W m 0 e - m)) e (0, 0)) := by
          have := br_prefix (P := P) (t := e) (ys := (Builtin.zeroCells zv.cells (grownCap W m 0 e - m)).toList) hvl
          rwa [show ((cellsW W b o news.length).toArray ++ Builtin.zeroCells zv.cells (grownCap W m 0 e - m)) = (cellsW W b o news.length ++ (Builtin.zeroCells zv.cells (grownCap W m 0 e - m)).toList).toArray from Array.ext' (by simp)]
        obtain ⟨m1, m2, m3⟩ := hpu.mat (j := H.length) (by simp) (h.sim.out _ (Nat.le_refl _)) h.len hbr
        refine ⟨_, _, _, _, by rw [g1, f1]; exact hrun, ?_, by simpa using m1, hl.trans (fun _ hb => hb) m2, m3, fun _ hb => .inl hb, Stays.new⟩
        refine .sl (updM_same ..) hcap (World.alloc_heap_new _ _) ?_
        rw [Array.size_append, size_zeroCells, hzs]
        simp [hlen, hik]
        rw [← Nat.add_mul, show m + (grownCap W m 0 e - m) = grownCap W m 0 e by omega]
        exact Nat.le_refl _
  · rename_i b off n k' hb
    rw [hb] at e1
    split at hx
    case isFalse => cases hx
    rename_i hc
    obtain ⟨rfl, rfl⟩ := hc
    split at hx
    · rename_i cs hcs
      split at hx <;> cases hx
      rename_i hc
      obtain ⟨c1, c2, c3⟩ := hc
      rw [hbound] at c2
      have ha : alive H b = true := by unfold alive; rw [hcs]
      obtain ⟨B, cp, rs, t', g1, g2, g3, g4, g5⟩ := sl_alive h.sim e1 ha
      obtain ⟨hLB, _, blk, ob, q1, q2, q3⟩ := h.sim.live b B g1
      rw [hcs] at q1; cases q1
      rw [g4] at q2; cases q2
      have hb0 : b < H.length := (List.getElem?_eq_some_iff.1 hcs).1
      have hblen : (H.set b AB.dead).length = H.length := by simp
      have hset : ∀ blk, (H.set b blk).set b AB.dead = H.set b AB.dead := fun blk => by simp
      have hpre := vl_prefix q3
      by_cases hroom : n + m ≤ cp
      · -- there is room: the same block
        have hres : ∃ W', (Builtin.append_ #[t, t] ty #[a.eval x, a.eval y]).run P W = .ok (.slice (some ⟨B, 0, none⟩) (n + m) cp) W' ∧ Hp P E ([b].filter (· < E.pin) ++ tc) W' L μ (H.set b (.cells (cs ++ news))) ∧ Later L L W W' ∧
            (∃ rs', W'.heap[B]? = some (.cells rs' t' (0, 0)) ∧ rs'.size = rs.size ∧ BR P W' L μ (.cells (cs ++ news)) (.cells rs' t' (0, 0))) := by
          rcases f4 with h0 | ⟨b2, o2, rfl, hrd⟩
          · subst h0
            have hnil : news = [] := List.eq_nil_of_length_eq_zero (by simpa using f2)
            subst hnil
            refine ⟨W, by rw [g2, f1]; exact run_append_zero u1 hi _ n cp p cap g3, ?_, Later.refl _ _, rs, g4, rfl, by simpa using q3⟩
            have := (h.more (tc' := [b].filter (· < E.pin) ++ tc) fun i hi => List.mem_append_right _ hi)
            rw [List.append_nil, show H.set b (.cells cs) = H from by
              apply List.ext_getElem?; intro j
              rw [List.getElem?_set]
              by_cases hj : b = j
              · subst hj; simp [hb0]; exact (Option.some.inj ((List.getElem?_eq_getElem hb0).symm.trans hcs)).symm
              · simp [hj]]
            exact this
          · have hlen : (cellsW W b2 o2 news.length).length = m * i.size := by simp [cellsW, f2, hik]
            have hcl : cs.length ≤ rs.size := by cases q3 with | cells l1 _ => exact l1
            have hcapk : (n + m) * k ≤ cp * k := Nat.mul_le_mul_right k hroom
            rw [Nat.add_mul] at hcapk
            have hlen' : (cellsW W b2 o2 news.length).length = m * k := by rw [hlen, hik]
            have hfit : n * i.size + (cellsW W b2 o2 news.length).length ≤ rs.size := by rw [hik, hlen']; omega
            have hrun := run_append_room' (P := P) (ty := ty) u1 hi W B n cp rs g4 ⟨b2, o2, none⟩ m cap _ hlen hrd.cells (vals_one c3 hrd) hroom hfit
            rw [hik, hlen'] at hrun
            have hsp : rs.toList.take (n * k) ++ cellsW W b2 o2 news.length ++ rs.toList.drop (n * k + m * k) = (rs.toList.take cs.length ++ cellsW W b2 o2 news.length) ++ rs.toList.drop (n * k + m * k) := by rw [c1]
            rw [hsp] at hrun
            have hbr : BR P W L μ (.cells (cs ++ news)) (.cells ((rs.toList.take cs.length ++ cellsW W b2 o2 news.length) ++ rs.toList.drop (n * k + m * k)).toArray t' (0, 0)) := br_prefix (hpre.append hrd.vl)
            have hsz' : ((rs.toList.take cs.length ++ cellsW W b2 o2 news.length) ++ rs.toList.drop (n * k + m * k)).toArray.size = rs.size := by simp [hlen']; omega
            obtain ⟨p1, p2⟩ := h.put g1 g4 (setRow_upd g4) (fun rs' t2 f hh => by cases hh; exact ⟨_, rfl, hsz'⟩) hbr
            exact ⟨_, by rw [g2, f1]; exact hrun, p1, p2, _, setRow_heap W B rs _ t' (0, 0) g4, hsz', hbr.mono p2 (Ext.refl _)⟩
        obtain ⟨W', r1, r2, r3, rs', r4, r5, r6⟩ := hres
        obtain ⟨k1, k2⟩ := r2.kill b (by simpa using hb0) (by rw [g1]; simp)
        rw [hset] at k1
        have k3 := k1.push [.cells (cs ++ news)]
        have hno : updM μ b .dead H.length = .no := by rw [updM_ne _ _ (by omega)]; exact h.sim.out _ (Nat.le_refl _)
        have hown : E.W.heap.size ≤ B ∨ ∃ i, i ∈ [b].filter (· < E.pin) ++ ([b].filter (· < E.pin) ++ tc) ∧ E.μ i = .at B := by
          rcases h.ownAt g1 with h' | ⟨i, h1, h2⟩
          · exact .inl h'
          · exact .inr ⟨i, List.mem_append_right _ h1, h2⟩
        obtain ⟨k4, k5⟩ := k3.reuse (j := H.length) (B := B) (blk := .cells (cs ++ news)) (by rw [List.getElem?_append_right (by simp)]; simp) hno h.len hLB r4 (free_after_kill h.sim g1) hown (r6.mono (Later.refl _ _) k2)
        refine ⟨_, W', L, _, r1, ?_, ?_, r3, k2.trans k5, fun _ hb => hb, Stays.kill_new g1⟩
        · exact .sl (updM_same ..) hroom r4 (by rw [r5]; exact g5)
        · exact k4.more fun i hi => by
            simp only [List.mem_append] at hi ⊢
            rcases hi with h | h | h
            · exact .inl h
            · exact .inl h
            · exact .inr h
      · -- there is none: a new block
        rcases f4 with h0 | ⟨b2, o2, rfl, hrd⟩
        · omega
        · have hlen : (cellsW W b2 o2 news.length).length = m * i.size := by simp [cellsW, f2, hik]
          have hmul : (n + m) * i.bytes ≤ 1048576 * 134217728 := Nat.mul_le_mul c2 (by omega)
          have hold : Rd W L μ cs B 0 := fun j x hx => by
            cases q3 with
            | cells l1 l2 =>
              have hj := (List.getElem?_eq_some_iff.1 hx).1
              exact ⟨rs[j], by simp [World.cell?, g4], l2 j x _ hx (Array.getElem?_eq_getElem (by omega))⟩
          have holen : (cellsW W B 0 cs.length).length = n * i.size := by simp [cellsW, c1, hik]
          have hrun := run_append_grow (P := P) W t ty e i zv u1 hi z2 ⟨B, 0, none⟩ n cp _ holen hold.cells ⟨b2, o2, none⟩ m cap _ hlen hrd.cells (by omega) (by omega) (growslice_fits (by omega) (by omega))
          have hcap : n + m ≤ grownCap W (n + m) cp e := grownCap_ge W (n + m) cp e
          obtain ⟨hh, hl⟩ := h.env' (W' := W.drew) rfl ⟨rfl, rfl, rfl⟩
          obtain ⟨k1, k2⟩ := hh.kill b hb0 (by rw [g1]; simp)
          have k3 := k1.push [.cells (cs ++ news)]
          have hno : updM μ b .dead H.length = .no := by rw [updM_ne _ _ (by omega)]; exact h.sim.out _ (Nat.le_refl _)
          have hvl : VL W.drew L (updM μ b .dead) (cs ++ news) (cellsW W B 0 cs.length ++ cellsW W b2 o2 news.length) := (hold.vl.append hrd.vl).mono hl k2
          have hbr : BR P W.drew L (updM μ b .dead) (.cells (cs ++ news)) (.cells ((cellsW W B 0 cs.length).toArray ++ (cellsW W b2 o2 news.length).toArray ++ Builtin.zeroCells zv.cells (grownCap W (n + m) cp e - (n + m))) e (0, 0)) := by
            have := br_prefix (P := P) (t := e) (ys := (Builtin.zeroCells zv.cells (grownCap W (n + m) cp e - (n + m))).toList) hvl
            rwa [show ((cellsW W B 0 cs.length).toArray ++ (cellsW W b2 o2 news.length).toArray ++ Builtin.zeroCells zv.cells (grownCap W (n + m) cp e - (n + m))) = ((cellsW W B 0 cs.length ++ cellsW W b2 o2 news.length) ++ (Builtin.zeroCells zv.cells (grownCap W (n + m) cp e - (n + m))).toList).toArray from Array.ext' (by simp)]
          obtain ⟨m1, m2, m3⟩ := k3.mat (j := H.length) (by rw [List.getElem?_append_right (by simp)]; simp) hno h.len hbr
          refine ⟨_, _, _, _, by rw [g2, f1]; exact hrun, ?_, m1, hl.trans (fun _ hb => hb) m2, k2.trans m3, fun _ hb => .inl hb, Stays.kill_new g1⟩
          refine .sl (updM_same ..) hcap (World.alloc_heap_new _ _) ?_
          rw [Array.size_append, size_zeroCells, hzs]
          simp [hlen, holen, hik]
          rw [← Nat.add_mul, ← Nat.add_mul, show n + m + (grownCap W (n + m) cp e - (n + m)) = grownCap W (n + m) cp e by omega]
          exact Nat.le_refl _
    · cases hx
  · cases hx

theorem setAt_nil (cs : List AV) (off : Nat) : setAt cs off [] = cs := by simp [setAt]

theorem copy_ok {t u e e' k k2 by' by2 : Nat} {x y : Operand} {x' y' : Opnd} (h : Hp P E tc W L μ H) (he : Env C W L μ tm a) (hu : slElem P t = some (e, k, by')) (hk : 0 < k)
    (h1 : opnd x = some x') (h2 : opnd y = some y') {r : XR} (hx : xeff H (val C tm) (.copy k x' y') = some r) (ty : Nat) :
    ∃ w W', (Builtin.copy_ #[t, u] ty #[a.eval x, a.eval y]).run P W = .ok w W' ∧ VR W' L μ r.v w ∧ Hp P E (r.tc.filter (· < E.pin) ++ tc) W' L μ r.hp ∧ Later L L W W' := by
  have e1 := opnd_ok he h1
  have e2 := opnd_ok he h2
  obtain ⟨u1, u2, i, hi, hik, hib⟩ := slElem_ok hu
  simp only [xeff] at hx
  split at hx
  case h_2 => cases hx
  rename_i d off n k' src m hd hsrc hm
  rw [hd] at e1
  split at hx
  case isFalse => cases hx
  rename_i hkk
  subst hkk
  split at hx
  case h_2 => cases hx
  rename_i cs hcs
  split at hx
  case isFalse => cases hx
  rename_i hc
  obtain ⟨c1, c2⟩ := hc
  cases hx
  have ha : alive H d = true := by unfold alive; rw [hcs]
  obtain ⟨B, cp, rs, t', g1, g2, g3, g4, g5⟩ := sl_alive h.sim e1 ha
  obtain ⟨p, cap, f1, f2, f3, f4⟩ := slCells_ok h.sim hk e2 hsrc hm
  have hmin : Nat.min m n = min m n := rfl
  have hd0 : d < H.length := (List.getElem?_eq_some_iff.1 hcs).1
  by_cases h0 : min m n = 0
  · refine ⟨goInt 0, W, ?_, by rw [h0]; exact .int, ?_, Later.refl _ _⟩
    · rw [g2, f1]
      cases p <;> simp [Builtin.copy_, run_underlying u1, Builtin.lenOf, Builtin.firstCells, hmin, h0, sizeT_run u2, loadCells, loadCellsFrom, storeCells]
    · rw [h0]
      simp only [Nat.zero_mul, List.take_zero, setAt_nil]
      rw [show H.set d (.cells cs) = H from by
        apply List.ext_getElem?; intro j
        rw [List.getElem?_set]
        by_cases hj : d = j
        · subst hj; simp [hd0]; exact (Option.some.inj ((List.getElem?_eq_getElem hd0).symm.trans hcs)).symm
        · simp [hj]]
      exact h.more fun i hi => List.mem_append_right _ hi
  · rcases f4 with h' | ⟨b, o, rfl, hrd⟩
    · omega
    · have hnk : min m n * k ≤ m * k := Nat.mul_le_mul_right k (by omega)
      have hnk2 : min m n * k ≤ n * k := Nat.mul_le_mul_right k (by omega)
      have htl : (src.take (min m n * k)).length = min m n * k := by simp; omega
      have hr2 := hrd.take (min m n * k)
      have hp2 : (src.take (min m n * k)).all AV.plain = true := by
        rw [List.all_eq_true] at c2 ⊢
        exact fun x hx => c2 x (List.mem_of_mem_take hx)
      have hf := run_firstCells_some (P := P) W k (min m n) ⟨b, o, none⟩ m cap (cellsW W b o (src.take (min m n * k)).length) (by simp [cellsW, htl]) hr2.cells
      obtain ⟨W', w1, w2, w3⟩ := h.write hcs g1 hr2.vl (vals_one hp2 hr2) (off := off) (by rw [htl]; omega)
      refine ⟨goInt (min m n : Nat), W', ?_, .int, w2, w3⟩
      rw [htl] at hf w1
      rw [g2, f1]
      simp [Builtin.copy_, run_underlying u1, Builtin.lenOf, hmin, sizeT_run u2, hf, w1]

/-- Operations that write, all together. -/
theorem xeff_op {o : Oper} {k : AK} (hc : compOp P o = some k) (h : Hp P E tc W L μ H) (he : Env C W L μ tm a) {r : XR} (hx : xeff H (val C tm) k = some r) :
    ∃ nx x W' L' μ', (execOp a.eval o).run P W = .ok nx W' ∧ NX nx x ∧ VR W' L' μ' r.v x ∧ Hp P E (r.tc.filter (· < E.pin) ++ tc) W' L' μ' r.hp ∧ Later L L' W W' ∧ Ext μ μ' ∧ (∀ b, L b → L' b) ∧ Stays H.length μ μ' := by
  have hk : (∃ k' x y, k = .store k' x y) ∨ (∃ kn m key v, k = .mapupd kn m key v) ∨ (∃ k' x y, k = .append k' x y) ∨ (∃ k' x y, k = .copy k' x y) := by
    cases k <;> simp [xeff] at hx <;> simp
  unfold compOp at hc
  cases ho : o.op <;> rw [ho] at hc <;> simp only at hc
  case store t x y =>
    split at hc <;> cases hc
    rename_i k' x' y' h0 h1 h2
    obtain ⟨W', p1, p2, p3, p4⟩ := store_ok h he h0 h1 h2 hx
    refine ⟨.skip, undef, W', L, μ, by simp [execOp, ho, p1], .inr ⟨rfl, rfl⟩, by rw [p2]; exact .unk, p3, p4, Ext.refl _, fun _ hb => hb, fun _ _ h => h⟩
  case mapUpdate t m key y =>
    split at hc
    · rename_i kt e m' key' y' hu h1 h2 h3
      split at hc <;> cases hc
      rename_i kn hkn
      obtain ⟨W', p1, p2, p3, p4⟩ := mapupd_ok h he hu hkn h1 h2 h3 hx
      exact ⟨.skip, undef, W', L, μ, by simp [execOp, ho, p1], .inr ⟨rfl, rfl⟩, by rw [p2]; exact .unk, p3, p4, Ext.refl _, fun _ hb => hb, fun _ _ h => h⟩
    · cases hc
  case call c =>
    split at hc
    · split at hc <;> cases hc; simp [xeff] at hx
    · split at hc <;> cases hc; simp [xeff] at hx
    · rename_i b hcal
      split at hc
      · split at hc <;> cases hc; simp [xeff] at hx
      · rename_i x y t u hargs htys
        split at hc
        · rename_i e k' by' q x' y' hu hq h1 h2
          split at hc <;> cases hc
          rename_i hcond
          obtain ⟨c1, c2, rfl, c4⟩ := hcond
          cases hz : zeroT P e with
          | none => rw [hz] at c4; cases c4
          | some z =>
            rw [hz] at c4; simp at c4
            obtain ⟨w, W', L', μ', p1, p2, p3, p4, p5, p6⟩ := append_ok h he hu c1 c2 hz c4 h1 h2 hx o.type
            have ha : c.args = #[x, y] := Array.ext' (by simpa using hargs)
            have ht : c.argTypes = #[t, t] := Array.ext' (by simpa using htys)
            exact ⟨.value w, w, W', L', μ', by simp [execOp, ho, resolve, hcal, ha, ht, invoke, builtin, p1], .inl rfl, p2, p3, p4, p5, p6⟩
        · cases hc
      · rename_i x y t u hargs htys
        split at hc
        · rename_i e k' by' e' k2 by2 x' y' hu hq h1 h2
          split at hc <;> cases hc
          rename_i hcond
          obtain ⟨w, W', p1, p2, p3, p4⟩ := copy_ok (u := u) (e' := e') (k2 := k2) (by2 := by2) h he hu hcond.1 h1 h2 hx o.type
          have ha : c.args = #[x, y] := Array.ext' (by simpa using hargs)
          have ht : c.argTypes = #[t, u] := Array.ext' (by simpa using htys)
          exact ⟨.value w, w, W', L, μ, by simp [execOp, ho, resolve, hcal, ha, ht, invoke, builtin, p1], .inl rfl, p2, p3, p4, Ext.refl _, fun _ hb => hb, fun _ _ h => h⟩
        · cases hc
      · obtain ⟨y, _, rfl⟩ := Option.map_eq_some_iff.1 hc; simp [xeff] at hx
      · obtain ⟨y, _, rfl⟩ := Option.map_eq_some_iff.1 hc; simp [xeff] at hx
      · cases hc
  case unOp op t x => cases op <;> simp only at hc <;> first | (cases hc; done) | (obtain ⟨y, _, rfl⟩ := Option.map_eq_some_iff.1 hc; simp [xeff] at hx; done)
  all_goals (exfalso; revert hc; (repeat' split) <;> intro hc <;> first | contradiction | (cases hc; done) | (cases hc; simp [xeff] at hx; done) | (obtain ⟨y, _, rfl⟩ := Option.map_eq_some_iff.1 hc; simp [xeff] at hx; done))
end
end Ev
end Go.Proofs.YtcaejedfjobooaaGreat
