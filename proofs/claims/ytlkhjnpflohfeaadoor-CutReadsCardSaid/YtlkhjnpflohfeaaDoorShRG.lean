/- Contract of Days. -/
import Derived.Test.YtlkhjnpflohfeaaDoorShRF
import Derived.Test.YtlkhjnpflohfeaaDoorShRD
import Derived.RegionTactic
import Derived.BigRegion
import Derived.Laws.Bits64b
/- A region that draws its order: the first n operations are quiet, or lay new variables (their values hang on when they come); the others come one after the other. -/
namespace Go.Proofs.YtlkhjnpflohfeaaDoor
open Go
section
variable {P : Program} {ops : Array Oper} {D : (Nat → Option Value) → World → Prop}

def flSet (fl : Nat → Option Value) (i : Nat) (v : Value) : Nat → Option Value := fun j => if j = i then some v else fl j

/-- Operation i waits for j, at the f-th hand at most. -/
def reachB (ops : Array Oper) : Nat → Nat → Nat → Bool
  | 0, _, _ => false
  | f + 1, i, j => match ops[i]? with | some o => o.after.any fun e => Region.binds .any e && (e.on == j || reachB ops f e.on j) | none => false
theorem reachB_spec {listed : Array Bool} (hcl : ∀ k o, ops[k]? = some o → listed.getD k false = true → ∀ e ∈ o.after, Region.binds .any e = true → listed.getD e.on false = true) :
    ∀ (f i j : Nat) (o : Oper), ops[i]? = some o → (∀ e ∈ o.after, Region.binds .any e = true → listed.getD e.on false = true) → reachB ops f i j = true → listed.getD j false = true
  | 0, _, _, _, _, _, h => by cases h
  | f + 1, i, j, o, ho, hall, h => by
    unfold reachB at h
    simp only [ho] at h
    obtain ⟨e, he, hb⟩ := Array.any_eq_true'.1 h
    simp only [Bool.and_eq_true, Bool.or_eq_true, beq_iff_eq] at hb
    have h1 := hall e he hb.1
    rcases hb.2 with rfl | h2
    · exact h1
    · cases ho2 : ops[e.on]? with
      | none => cases f <;> simp [reachB, ho2] at h2
      | some o2 => exact reachB_spec hcl f e.on j o2 ho2 (hcl e.on o2 ho2 h1) h2
/-- What the kernel looks at: hs: the quiet operations; fs: those that lay a variable; both are the first n. -/
def flB (ops : Array Oper) (N : Nat) (hs fs : List Nat) (n : Nat) : Bool :=
  Region.noSelect ops && decide (hs.Pairwise (· < ·)) && (hs.all fun i => !fs.contains i) && decide (n ≤ ops.size) && ((hs ++ fs).all fun i => decide (i < n)) &&
  ((List.range n).all fun i => hs.contains i || fs.contains i) &&
  ((List.range n).all fun i => match ops[i]? with | some o => o.guard == none && o.after.all fun e => !Region.binds .any e || decide (e.on < i) | none => false) &&
  ((List.range ops.size).all fun i => decide (i < n) || match ops[i]? with | some o => ((List.range n).all fun j => reachB ops 12 i j) || (List.range i).any fun k => decide (n ≤ k) && edgeB o k | none => false) &&
  ((hs ++ fs).all fun j => match dstOf ops j with | some d => decide (d < N) && (hs ++ fs).all fun k => k == j || dstOf ops k != some d | none => true) &&
  (hs.all fun i => match ops[i]? with | some o => (o.looksAt ops).all fun d => (hs.all fun j => dstOf ops j != some d || (decide (j < i) && edgeB o j)) && fs.all fun j => dstOf ops j != some d | none => false) &&
  Region.seqB .any ops (ops.size - n) n ((List.replicate n true ++ List.replicate (ops.size - n) false).toArray)

/-- What is there when all of the head is done. -/
def flAct (ops : Array Oper) (fs : List Nat) (fl : Nat → Option Value) (a : Act) : Act := fs.foldl (fun a i => a.put (dstOf ops i) ((fl i).getD undef)) a

abbrev wpFl (P : Program) (ops : Array Oper) (D : (Nat → Option Value) → World → Prop) (Pan : Act → Prop) : List Nat → Act → Prop := wpPanG ops (fun o a v => ∀ fl w, D fl w → o.quietAt P a (D fl) w v) Pan

structure AgreeF (ops : Array Oper) (vals : Nat → Value) (a0 : Act) (hs fs : List Nat) (S : Nat → Prop) (fl : Nat → Option Value) (a : Act) : Prop where
  size : a.tmps.size = a0.tmps.size
  defers : a.defers = a0.defers
  done : ∀ j d, j ∈ hs → S j → dstOf ops j = some d → a.tmps.getD d undef = vals j
  flt : ∀ j d v, j ∈ fs → fl j = some v → dstOf ops j = some d → a.tmps.getD d undef = v
  left : ∀ d, (∀ j, j ∈ hs ++ fs → dstOf ops j ≠ some d) → a.tmps.getD d undef = a0.tmps.getD d undef

abbrev DstOk (ops : Array Oper) (N : Nat) (hs fs : List Nat) : Prop := ∀ j d, j ∈ hs ++ fs → dstOf ops j = some d → d < N ∧ ∀ k, k ∈ hs ++ fs → k ≠ j → dstOf ops k ≠ some d

theorem AgreeF.put {vals : Nat → Value} {a0 a : Act} {hs fs : List Nat} {S : Nat → Prop} {fl : Nat → Option Value} (h : AgreeF ops vals a0 hs fs S fl a) {i : Nat} (hi : i ∈ hs) (hif : i ∉ fs)
    (hd : DstOk ops a0.tmps.size hs fs) : AgreeF ops vals a0 hs fs (fun j => S j ∨ j = i) fl (a.put (dstOf ops i) (vals i)) := by
  cases he : dstOf ops i with
  | none =>
    refine ⟨h.size, h.defers, fun j d hj hS hjd => ?_, h.flt, h.left⟩
    rcases hS with hS | rfl
    · exact h.done j d hj hS hjd
    · rw [he] at hjd; cases hjd
  | some e =>
    refine ⟨by simp [Act.put, h.size], h.defers, fun j d hj hS hjd => ?_, fun j d v hj hv hjd => ?_, fun d hn => ?_⟩
    · by_cases hji : j = i
      · subst hji
        rw [he] at hjd; cases hjd
        exact getD_set_self (by rw [h.size]; exact (hd _ _ (List.mem_append_left _ hj) he).1)
      · have hne : e ≠ d := fun e' => (hd i e (List.mem_append_left _ hi) he).2 j (List.mem_append_left _ hj) hji (by rw [e']; exact hjd)
        show ((a.tmps.setIfInBounds e (vals i)).getD d undef) = _
        rw [getD_set_other hne]
        rcases hS with hS | rfl
        · exact h.done j d hj hS hjd
        · exact absurd rfl hji
    · have hne : e ≠ d := fun e' => (hd i e (List.mem_append_left _ hi) he).2 j (List.mem_append_right _ hj) (fun e2 => hif (e2 ▸ hj)) (by rw [e']; exact hjd)
      show ((a.tmps.setIfInBounds e (vals i)).getD d undef) = _
      rw [getD_set_other hne]; exact h.flt j d v hj hv hjd
    · have hne : e ≠ d := fun e' => hn i (List.mem_append_left _ hi) (by rw [he, e'])
      show ((a.tmps.setIfInBounds e (vals i)).getD d undef) = _
      rw [getD_set_other hne]; exact h.left d hn
theorem AgreeF.lay {vals : Nat → Value} {a0 a : Act} {hs fs : List Nat} {S : Nat → Prop} {fl : Nat → Option Value} (h : AgreeF ops vals a0 hs fs S fl a) {i : Nat} (hi : i ∈ fs) (hih : i ∉ hs) (v : Value)
    (hd : DstOk ops a0.tmps.size hs fs) : AgreeF ops vals a0 hs fs S (flSet fl i v) (a.put (dstOf ops i) v) := by
  cases he : dstOf ops i with
  | none =>
    refine ⟨h.size, h.defers, h.done, fun j d u hj hu hjd => ?_, h.left⟩
    by_cases hji : j = i
    · subst hji; rw [he] at hjd; cases hjd
    · unfold flSet at hu; rw [if_neg hji] at hu; exact h.flt j d u hj hu hjd
  | some e =>
    refine ⟨by simp [Act.put, h.size], h.defers, fun j d hj hS hjd => ?_, fun j d u hj hu hjd => ?_, fun d hn => ?_⟩
    · have hne : e ≠ d := fun e' => (hd i e (List.mem_append_right _ hi) he).2 j (List.mem_append_left _ hj) (fun e2 => hih (e2 ▸ hj)) (by rw [e']; exact hjd)
      show ((a.tmps.setIfInBounds e v).getD d undef) = _
      rw [getD_set_other hne]; exact h.done j d hj hS hjd
    · by_cases hji : j = i
      · subst hji
        rw [he] at hjd; cases hjd
        unfold flSet at hu; rw [if_pos rfl] at hu; cases hu
        exact getD_set_self (by rw [h.size]; exact (hd _ _ (List.mem_append_right _ hj) he).1)
      · have hne : e ≠ d := fun e' => (hd i e (List.mem_append_right _ hi) he).2 j (List.mem_append_right _ hj) hji (by rw [e']; exact hjd)
        show ((a.tmps.setIfInBounds e v).getD d undef) = _
        rw [getD_set_other hne]
        unfold flSet at hu; rw [if_neg hji] at hu; exact h.flt j d u hj hu hjd
    · have hne : e ≠ d := fun e' => hn i (List.mem_append_right _ hi) (by rw [he, e'])
      show ((a.tmps.setIfInBounds e v).getD d undef) = _
      rw [getD_set_other hne]; exact h.left d hn
theorem AgreeF.puts {vals : Nat → Value} {a0 : Act} {hs fs : List Nat} (hd : DstOk ops a0.tmps.size hs fs) (hhf : ∀ i, i ∈ hs → i ∉ fs) {fl : Nat → Option Value} :
    ∀ (l : List Nat) (a : Act) (S : Nat → Prop), (∀ j ∈ l, j ∈ hs) → AgreeF ops vals a0 hs fs S fl a → AgreeF ops vals a0 hs fs (fun j => S j ∨ j ∈ l) fl (puts ops vals a l)
  | [], a, S, _, h => ⟨h.size, h.defers, fun j d hj hS => h.done j d hj (by simpa using hS), h.flt, h.left⟩
  | i :: l, a, S, hl, h => by
    have h1 := AgreeF.puts hd hhf l (a.put (dstOf ops i) (vals i)) _ (fun j hj => hl j (by simp [hj])) (h.put (hl i (by simp)) (hhf i (hl i (by simp))) hd)
    refine ⟨h1.size, h1.defers, fun j d hj hS => h1.done j d hj ?_, h1.flt, h1.left⟩
    rcases hS with hS | hS
    · exact .inl (.inl hS)
    · rcases List.mem_cons.1 hS with rfl | hS
      · exact .inl (.inr rfl)
      · exact .inr hS
theorem AgreeF.lays {vals : Nat → Value} {a0 : Act} {hs fs : List Nat} (hd : DstOk ops a0.tmps.size hs fs) (hhf : ∀ i, i ∈ hs → i ∉ fs) {S : Nat → Prop} (fl' : Nat → Option Value) :
    ∀ (l : List Nat) (a : Act) (fl : Nat → Option Value), (∀ j ∈ l, j ∈ fs ∧ (fl' j).isSome) → AgreeF ops vals a0 hs fs S fl a → AgreeF ops vals a0 hs fs S (fun j => if j ∈ l then fl' j else fl j) (flAct ops l fl' a)
  | [], a, fl, _, h => by simpa [flAct] using h
  | i :: l, a, fl, hl, h => by
    obtain ⟨v, hv⟩ := Option.isSome_iff_exists.1 (hl i (by simp)).2
    have hif := (hl i (by simp)).1
    have h1 := AgreeF.lays hd hhf fl' l (a.put (dstOf ops i) v) _ (fun j hj => hl j (by simp [hj])) (h.lay hif (fun h' => hhf i h' hif) v hd)
    have e : flAct ops (i :: l) fl' a = flAct ops l fl' (a.put (dstOf ops i) v) := by simp [flAct, hv]
    rw [e]
    refine ⟨h1.size, h1.defers, h1.done, fun j d u hj hu hjd => h1.flt j d u hj ?_ hjd, h1.left⟩
    by_cases hjl : j ∈ l
    · rw [if_pos hjl]; rwa [if_pos (by simp [hjl])] at hu
    · rw [if_neg hjl]
      by_cases hji : j = i
      · subst hji; rw [if_pos (by simp)] at hu; unfold flSet; rw [if_pos rfl, ← hv]; exact hu
      · rw [if_neg (by simp [hjl, hji])] at hu; unfold flSet; rw [if_neg hji]; exact hu
theorem AgreeF.eq {vals : Nat → Value} {a0 a b : Act} {hs fs : List Nat} {S S' : Nat → Prop} {fl fl' : Nat → Option Value} (h : AgreeF ops vals a0 hs fs S fl a) (h' : AgreeF ops vals a0 hs fs S' fl' b)
    (hS : ∀ j, j ∈ hs → S j ∧ S' j) (hf : ∀ j, j ∈ fs → ∃ v, fl j = some v ∧ fl' j = some v) : a = b := by
  have ht : a.tmps = b.tmps := by
    refine Array.ext (h.size.trans h'.size.symm) fun i h1 h2 => ?_
    have : a.tmps.getD i undef = b.tmps.getD i undef := by
      by_cases hex : ∃ j, j ∈ hs ++ fs ∧ dstOf ops j = some i
      · obtain ⟨j, hj, hji⟩ := hex
        rcases List.mem_append.1 hj with hj | hj
        · rw [h.done j i hj (hS j hj).1 hji, h'.done j i hj (hS j hj).2 hji]
        · obtain ⟨v, hv, hv'⟩ := hf j hj
          rw [h.flt j i v hj hv hji, h'.flt j i v hj hv' hji]
      · have hn : ∀ j, j ∈ hs ++ fs → dstOf ops j ≠ some i := fun j hj e => hex ⟨j, hj, e⟩
        rw [h.left i hn, h'.left i hn]
    simpa [h1, h2] using this
  have hd := h.defers.trans h'.defers.symm
  cases a; cases b
  simp only at ht hd
  rw [ht, hd]

theorem cnt_all (listed : Array Bool) (n m : Nat) (hsz : listed.size = m) (hn : n ≤ m) (h1 : ∀ i, i < n → listed.getD i false = true) (h2 : ∀ i, n ≤ i → i < m → listed.getD i true = false) :
    listed = (List.replicate n true ++ List.replicate (m - n) false).toArray := by
  refine Array.ext (by simp [hsz]; omega) fun i hi hi' => ?_
  simp only [List.getElem_toArray]
  by_cases hin : i < n
  · rw [List.getElem_append_left (by simpa using hin)]
    have := h1 i hin
    simpa [hi] using this
  · rw [List.getElem_append_right (by simp; omega)]
    have := h2 i (by omega) (by omega)
    simpa [hi] using this
theorem cnt_ge (f : Nat → Bool) (n m : Nat) (hn : n ≤ m) (h1 : ∀ i, i < n → f i = false) (h2 : ∀ i, n ≤ i → i < m → f i = true) : ((List.range m).filter f).length = m - n := by
  induction m with
  | zero => simp
  | succ m ih =>
    rw [List.range_succ, List.filter_append, List.length_append]
    by_cases hm : n ≤ m
    · rw [ih hm (fun i hi hi' => h2 i hi (by omega))]
      simp [h2 m hm (by omega)]; omega
    · have hnm : n = m + 1 := by omega
      subst hnm
      have h3 : ∀ k, k ≤ m → ((List.range k).filter f).length = 0 := by
        intro k hk
        rw [List.length_eq_zero_iff, List.filter_eq_nil_iff]
        intro i hi
        rw [h1 i (by have := List.mem_range.1 hi; omega)]; simp
      rw [h3 m (Nat.le_refl _)]
      simp [h1 m (by omega)]
theorem cnt_set (f g : Nat → Bool) : ∀ (n i : Nat), i < n → (∀ j, j ≠ i → g j = f j) → f i = true → g i = false → ((List.range n).filter f).length = ((List.range n).filter g).length + 1
  | 0, i, hi, _, _, _ => by omega
  | n + 1, i, hi, h, h1, h2 => by
    rw [List.range_succ, List.filter_append, List.filter_append, List.length_append, List.length_append]
    by_cases hin : i = n
    · subst hin
      have : (List.range i).filter g = (List.range i).filter f := List.filter_congr fun j hj => h j (by have := List.mem_range.1 hj; omega)
      rw [this]; simp [h1, h2]
    · rw [cnt_set f g n i (by omega) h h1 h2]
      have : ([n].filter g) = [n].filter f := List.filter_congr fun j hj => h j (by rw [List.mem_singleton.1 hj]; omega)
      rw [this]; omega

theorem any_floats {Q : Exit → Act → World → Prop} {a0 : Act} {w0 : World} {ol : List Oper} (hs fs : List Nat) (n : Nat) (hB : flB ol.toArray a0.tmps.size hs fs n = true)
    (hlay : ∀ i ∈ fs, ∀ o, ol.toArray[i]? = some o → ∀ a fl w, D fl w → fl i = none → ∃ v w', (execOp (Act.eval a) o).run P w = .ok (.value v) w' ∧ D (flSet fl i v) w')
    (hD : D (fun _ => none) w0)
    (h : wpFl P ol.toArray D (fun a => ∀ fl w, D fl w → (∀ i ∈ fs, (fl i).isSome = true) → wpList P ol.toArray Q (ol.drop n) (flAct ol.toArray fs fl a) w) hs a0) :
    wpAny P .any ol.toArray Q ol.toArray.size (Array.replicate ol.toArray.size false) a0 w0 := by
  generalize hops : ol.toArray = ops at *
  simp only [flB, Bool.and_eq_true, decide_eq_true_eq] at hB
  obtain ⟨⟨⟨⟨⟨⟨⟨⟨⟨⟨hsel, hpw⟩, hhf⟩, hn⟩, hltn⟩, hpart⟩, hgd⟩, htl⟩, hdst⟩, hlkh⟩, hseq⟩ := hB
  have hns := Region.noSelect_spec hsel
  have hhf' : ∀ i, i ∈ hs → i ∉ fs := fun i hi h => by
    have := List.all_eq_true.1 hhf i hi
    rw [List.contains_iff_mem.2 h] at this; cases this
  have hd : DstOk ops a0.tmps.size hs fs := fun j d hj hjd => by
    have := List.all_eq_true.1 hdst j hj
    simp only [hjd, Bool.and_eq_true, decide_eq_true_eq] at this
    refine ⟨this.1, fun k hk hkj => ?_⟩
    have h2 := List.all_eq_true.1 this.2 k hk
    simpa [hkj] using h2
  have hlt : ∀ i, i ∈ hs ++ fs → i < n := fun i hi => by simpa using List.all_eq_true.1 hltn i hi
  have hkind : ∀ i, i < n → i ∈ hs ∨ i ∈ fs := fun i hi => by
    have := List.all_eq_true.1 hpart i (List.mem_range.2 hi)
    simpa using this
  have hlook : ∀ i o, i ∈ hs → ops[i]? = some o → ∀ d ∈ o.looksAt ops, (∀ j, j ∈ hs → dstOf ops j = some d → j < i ∧ edgeB o j = true) ∧ ∀ j, j ∈ fs → dstOf ops j ≠ some d := fun i o hi ho d hdl => by
    have := List.all_eq_true.1 hlkh i hi
    simp only [ho] at this
    have h2 := List.all_eq_true.1 this d hdl
    simp only [Bool.and_eq_true] at h2
    refine ⟨fun j hj hjd => ?_, fun j hj hjd => ?_⟩
    · have h3 := List.all_eq_true.1 h2.1 j hj
      simp only [hjd, bne_self_eq_false, Bool.false_or, Bool.and_eq_true, decide_eq_true_eq] at h3
      exact h3
    · have h3 := List.all_eq_true.1 h2.2 j hj
      simp [hjd] at h3
  have hguard : ∀ i o, i < n → ops[i]? = some o → o.guard = none ∧ ∀ e ∈ o.after, Region.binds .any e = true → e.on < i := fun i o hi ho => by
    have := List.all_eq_true.1 hgd i (List.mem_range.2 hi)
    simp only [ho, Bool.and_eq_true] at this
    refine ⟨?_, fun e he hb => ?_⟩
    · cases hg : o.guard with
      | none => rfl
      | some g => rw [hg] at this; simp at this
    · have h2 := Array.all_eq_true'.1 this.2 e he
      simpa [hb] using h2
  have hedge : ∀ (o : Oper) (j : Nat) (listed : Array Bool), edgeB o j = true → (∀ e ∈ o.after, Region.binds .any e = true → listed.getD e.on false = true) → listed.getD j false = true := fun o j listed he hall => by
    obtain ⟨e, hem, hb⟩ := Array.any_eq_true'.1 he
    simp only [Bool.and_eq_true, beq_iff_eq] at hb
    rw [← hb.2]; exact hall e hem hb.1
  -- the tail waits
  have htail : ∀ (listed : Array Bool) (u : Nat), u < n → listed.getD u false = false → (∀ i, n ≤ i → listed.getD i false = false) → (∀ k o, ops[k]? = some o → listed.getD k false = true → ∀ e ∈ o.after, Region.binds .any e = true → listed.getD e.on false = true) → ∀ i ∈ Region.ready .any ops listed, i < n := fun listed u hu hun htf hcl i hi => by
    rcases Nat.lt_or_ge i n with h' | h'
    · exact h'
    · exfalso
      obtain ⟨_, o, ho, hall⟩ := mem_ready.1 hi
      have hilt := (Array.getElem?_eq_some_iff.1 ho).1
      have := List.all_eq_true.1 htl i (List.mem_range.2 hilt)
      simp only [ho, Bool.or_eq_true, decide_eq_true_eq] at this
      rcases this with h1 | h1 | h1
      · omega
      · have h2 := reachB_spec hcl 12 i u o ho hall (List.all_eq_true.1 h1 u (List.mem_range.2 hu))
        rw [hun] at h2; cases h2
      · obtain ⟨k, _, hk⟩ := List.any_eq_true.1 h1
        simp only [Bool.and_eq_true, decide_eq_true_eq] at hk
        have h2 := hedge o k listed hk.2 hall
        rw [htf k hk.1] at h2; cases h2
  obtain ⟨vals, hv, hP⟩ := wpPan_vals hs a0 hpw h
  have base : AgreeF ops vals a0 hs fs (fun _ => False) (fun _ => none) a0 := ⟨rfl, rfl, fun _ _ _ hF => hF.elim, fun _ _ _ _ hF => (by cases hF), fun _ _ => rfl⟩
  have main : ∀ (f : Nat) (listed : Array Bool) (a : Act) (fl : Nat → Option Value) (w : World), listed.size = ops.size → (∀ i, n ≤ i → listed.getD i false = false) → (∀ k o, ops[k]? = some o → listed.getD k false = true → ∀ e ∈ o.after, Region.binds .any e = true → listed.getD e.on false = true) → ((List.range ops.size).filter fun i => !listed.getD i true).length = f →
      AgreeF ops vals a0 hs fs (fun i => listed.getD i false = true) fl a → (∀ i ∈ fs, (fl i).isSome = listed.getD i false) → D fl w → wpAny P .any ops Q f listed a w := by
    intro f
    induction f using Nat.strongRecOn with
    | ind f ih =>
      intro listed a fl w hsz htf hcl hcnt hag hfl hw
      by_cases hall : ∀ i, i < n → listed.getD i false = true
      · -- the head is done
        have htf' : ∀ i, n ≤ i → i < ops.size → listed.getD i true = false := fun i hi hi' => by
          have := htf i hi
          have h4 : i < listed.size := by omega
          simp [h4] at this ⊢; exact this
        have hL := cnt_all listed n ops.size hsz hn hall htf'
        have hf : f = ops.size - n := by
          rw [← hcnt]
          refine cnt_ge _ n ops.size hn (fun i hi => ?_) (fun i hi hi' => by rw [htf' i hi hi']; rfl)
          have := hall i hi
          have h4 : i < listed.size := by omega
          simp [h4] at this ⊢; exact this
        have hact : a = flAct ops fs fl (puts ops vals a0 hs) := by
          have h1 := AgreeF.puts hd hhf' hs a0 _ (fun j hj => hj) base
          have h2 := AgreeF.lays hd hhf' fl fs _ _ (fun j hj => ⟨hj, by rw [hfl j hj]; exact hall j (hlt j (List.mem_append_right _ hj))⟩) h1
          refine hag.eq h2 (fun j hj => ⟨hall j (hlt j (List.mem_append_left _ hj)), .inr hj⟩) (fun j hj => ?_)
          obtain ⟨v, hv⟩ := Option.isSome_iff_exists.1 (by rw [hfl j hj]; exact hall j (hlt j (List.mem_append_right _ hj)) : (fl j).isSome = true)
          exact ⟨v, hv, (if_pos hj).trans hv⟩
        have hlen : (ol.drop n).length = ops.size - n := by rw [← hops]; simp
        have := wpAny_of_seq (md := .any) (Q' := Q) (ops := ops) (ol.drop n) n listed a w (fun j => by rw [← hops]; simp [List.getElem?_drop]) (by rw [hlen, hL]; exact hseq)
          (by rw [hact]; exact hP fl w hw (fun i hi => by rw [hfl i hi]; exact hall i (hlt i (List.mem_append_right _ hi))))
        rw [hlen] at this
        rw [hf]; exact this
      · obtain ⟨u, hu⟩ : ∃ u, u < n ∧ listed.getD u false = false := by
          apply Classical.byContradiction
          intro hc
          apply hall
          intro i hi
          cases hq : listed.getD i false with
          | true => rfl
          | false => exact absurd ⟨i, hi, hq⟩ hc
        have hlive : Region.ready .any ops listed ≠ [] := by
          have : ∀ k i, i < k → i < n → listed.getD i false = false → Region.ready .any ops listed ≠ [] := by
            intro k
            induction k with
            | zero => intro i hi; omega
            | succ k ihk =>
              intro i hi hin hun
              have hilt : i < ops.size := by omega
              by_cases hex : ∃ e ∈ ops[i].after, Region.binds .any e = true ∧ listed.getD e.on false = false
              · obtain ⟨e, he, hb, hel⟩ := hex
                have h2 := (hguard i ops[i] hin (by simp [hilt])).2 e he hb
                exact ihk e.on (by omega) (by omega) hel
              · have : i ∈ Region.ready .any ops listed := mem_ready.2 ⟨by
                    have h4 : i < listed.size := by omega
                    simp [h4] at hun ⊢; exact hun, ops[i], by simp [hilt], fun e he hb => by
                  cases hq : listed.getD e.on false with
                  | true => rfl
                  | false => exact absurd ⟨e, he, hb, hq⟩ hex⟩
                intro h0; rw [h0] at this; cases this
          exact this (u + 1) u (by omega) hu.1 hu.2
        have hstep : ∀ i ∈ Region.ready .any ops listed, ∃ f', f = f' + 1 ∧ ((List.range ops.size).filter fun j => !(listed.setIfInBounds i true).getD j true).length = f' := fun i hi => by
          obtain ⟨hun, o, ho, _⟩ := mem_ready.1 hi
          have hilt := (Array.getElem?_eq_some_iff.1 ho).1
          have := cnt_set (fun j => !listed.getD j true) (fun j => !(listed.setIfInBounds i true).getD j true) ops.size i hilt (fun j hj => by
            show (!_) = (!_); rw [getD_set_ne true (Ne.symm hj)]) (by simp only [hun]; rfl) (by simp [hsz, hilt])
          exact ⟨_, by omega, rfl⟩
        cases f with
        | zero =>
          exfalso
          obtain ⟨i, hi⟩ := List.exists_mem_of_ne_nil _ hlive
          obtain ⟨f', hf', _⟩ := hstep i hi
          omega
        | succ f =>
          refine ⟨fun h0 => absurd h0 hlive, fun i hi => ?_⟩
          obtain ⟨f', hf', hcnt'⟩ := hstep i hi
          have hff : f' = f := by omega
          subst hff
          have hin := htail listed u hu.1 hu.2 htf hcl i hi
          obtain ⟨hun, o, ho, hall'⟩ := mem_ready.1 hi
          have hilt := (Array.getElem?_eq_some_iff.1 ho).1
          have hg := (hguard i o hin ho).1
          have hwt : Region.wanted o (yielded ops a.tmps) = true := by unfold Region.wanted; rw [hg]
          have hdi : dstOf ops i = o.dst := by unfold dstOf; rw [ho]; rfl
          have hset : ∀ j, (listed.setIfInBounds i true).getD j false = true → listed.getD j false = true ∨ j = i := fun j hj => by
            by_cases hij : i = j
            · exact .inr hij.symm
            · rw [getD_set_ne false hij] at hj; exact .inl hj
          have htf2 : ∀ j, n ≤ j → (listed.setIfInBounds i true).getD j false = false := fun j hj => by rw [getD_set_ne false (by omega)]; exact htf j hj
          have hcl2 : ∀ k o, ops[k]? = some o → (listed.setIfInBounds i true).getD k false = true → ∀ e ∈ o.after, Region.binds .any e = true → (listed.setIfInBounds i true).getD e.on false = true := fun k o2 ho2 hk e he hb => by
            have h1 : listed.getD e.on false = true := by
              rcases hset k hk with h' | rfl
              · exact hcl k o2 ho2 h' e he hb
              · rw [ho] at ho2; cases ho2; exact hall' e he hb
            by_cases hie : i = e.on
            · rw [← hie] at h1 ⊢
              have h4 : i < listed.size := by omega
              simp [h4]
            · rw [getD_set_ne false hie]; exact h1
          rcases hkind i hin with hk | hk
          · obtain ⟨l, r, e⟩ := List.append_of_mem hk
            obtain ⟨o', ho', hq⟩ := hv l i r e
            rw [ho] at ho'; cases ho'
            have hlin : ∀ j ∈ l, j ∈ hs := fun j hj => by rw [e]; exact List.mem_append_left _ hj
            have hag2 := AgreeF.puts hd hhf' l a0 _ hlin base
            have hsame : execOp a.eval o = execOp (puts ops vals a0 l).eval o := execOp_congr o (hns i o · · ho) fun x hx => by
              cases x with
              | const v => rfl
              | global g => rfl
              | func f => rfl
              | tmp t =>
                have ht : t ∈ o.looksAt ops := List.mem_append_left _ (List.mem_filterMap.2 ⟨.tmp t, by simpa using hx, rfl⟩)
                obtain ⟨h1, h2⟩ := hlook i o hk ho t ht
                show a.tmps.getD t undef = (puts ops vals a0 l).tmps.getD t undef
                by_cases hex : ∃ j, j ∈ hs ∧ dstOf ops j = some t
                · obtain ⟨j, hj, hjt⟩ := hex
                  rw [hag.done j t hj (hedge o j listed (h1 j hj hjt).2 hall') hjt]
                  refine (hag2.done j t hj (.inr ?_) hjt).symm
                  have hji := (h1 j hj hjt).1
                  rw [e] at hj hpw
                  rcases List.mem_append.1 hj with h4 | h4
                  · exact h4
                  · rcases List.mem_cons.1 h4 with rfl | h4
                    · omega
                    · have := (List.pairwise_cons.1 (List.pairwise_append.1 hpw).2.1).1 j h4
                      omega
                · have hnn : ∀ j, j ∈ hs ++ fs → dstOf ops j ≠ some t := fun j hj e' => by
                    rcases List.mem_append.1 hj with hj | hj
                    · exact hex ⟨j, hj, e'⟩
                    · exact h2 j hj e'
                  rw [hag.left t hnn, hag2.left t hnn]
            refine wpOp_quiet (C := D fl) (v := vals i) ho hg ?_ (fun w' hw' => ?_) hw
            · unfold Oper.quietAt; rw [hsame]; exact hq fl w hw
            · rw [← hdi]
              refine ih _ (by omega) _ _ fl _ (by simp [hsz]) htf2 hcl2 hcnt' ?_ (fun j hj => ?_) hw'
              · have h5 := hag.put hk (hhf' i hk) hd
                exact ⟨h5.size, h5.defers, fun j d hj hS hjd => h5.done j d hj (hset j hS) hjd, h5.flt, h5.left⟩
              · have hji : j ≠ i := fun e' => hhf' i hk (e' ▸ hj)
                rw [getD_set_ne false (Ne.symm hji)]; exact hfl j hj
          · have hih : i ∉ hs := fun h' => hhf' i h' hk
            have hfn : fl i = none := by
              have := hfl i hk
              have hun' : listed.getD i false = false := by
                have h4 : i < listed.size := by omega
                simp [h4] at hun ⊢; exact hun
              rw [hun'] at this
              exact Option.not_isSome_iff_eq_none.1 (by rw [this]; simp)
            obtain ⟨v, w', hrun, hw'⟩ := hlay i hk o ho a fl w hw hfn
            unfold wpOp
            simp only [ho]
            rw [if_pos hwt]
            left
            unfold Oper.wp
            rw [hrun]
            show wpAny _ _ _ _ _ _ _ _
            rw [← hdi]
            refine ih _ (by omega) _ _ (flSet fl i v) _ (by simp [hsz]) htf2 hcl2 hcnt' ?_ (fun j hj => ?_) hw'
            · have h5 := hag.lay hk hih v hd
              refine ⟨h5.size, h5.defers, fun j d hj hS hjd => h5.done j d hj ((hset j hS).elim id fun e => absurd (e ▸ hj) hih) hjd, h5.flt, h5.left⟩
            · by_cases hji : j = i
              · subst hji; unfold flSet; rw [if_pos rfl]; simp [hsz, hilt]
              · unfold flSet; rw [if_neg hji, getD_set_ne false (Ne.symm hji)]; exact hfl j hj
  refine main ops.size _ a0 (fun _ => none) w0 (by simp) (fun i _ => ?_) (fun k _ _ hk => (rep_false ops.size k hk).elim) ?_ ⟨base.size, base.defers, fun j d _ hS => (rep_false ops.size j hS).elim, base.flt, base.left⟩ (fun i _ => ?_) hD
  · cases hq : (Array.replicate ops.size false).getD i false with
    | false => rfl
    | true => exact (rep_false ops.size i hq).elim
  · have := cnt_ge (fun i => !(Array.replicate ops.size false).getD i true) 0 ops.size (by omega) (fun i hi => by omega) (fun i _ hi => by simp [hi])
    simpa using this
  · cases hq : (Array.replicate ops.size false).getD i false with
    | false => rfl
    | true => exact (rep_false ops.size i hq).elim

theorem wp_region_floats {id : Nat} {Q : Exit → Act → World → Prop} {a0 : Act} {w0 : World} {ol : List Oper} (hs fs : List Nat) (n : Nat) (hm : P.follows .mixedOrders = true) (hB : flB ol.toArray a0.tmps.size hs fs n = true)
    (hlay : ∀ i ∈ fs, ∀ o, ol.toArray[i]? = some o → ∀ a fl w, D fl w → fl i = none → ∃ v w', (execOp (Act.eval a) o).run P w = .ok (.value v) w' ∧ D (flSet fl i v) w')
    (hD : D (fun _ => none) w0.drew)
    (h : wpFl P ol.toArray D (fun a => ∀ fl w, D fl w → (∀ i ∈ fs, (fl i).isSome = true) → wpList P ol.toArray Q (ol.drop n) (flAct ol.toArray fs fl a) w) hs a0) :
    (Code.region id ol.toArray true).wp P Q a0 w0 := wp_region_any hm (any_floats hs fs n hB hlay hD h)
theorem wpIn_region_floats {id : Nat} {Q : Exit → Act → World → Prop} {a0 : Act} {w0 : World} {ol : List Oper} (hs fs : List Nat) (n l m : Nat) (hm : P.follows .mixedOrders = true) (hnd : noDefer ol.toArray = true) (hB : flB ol.toArray a0.tmps.size hs fs n = true)
    (hlay : ∀ i ∈ fs, ∀ o, ol.toArray[i]? = some o → ∀ a fl w, D fl w → fl i = none → ∃ v w', (execOp (Act.eval a) o).run P w = .ok (.value v) w' ∧ D (flSet fl i v) w')
    (hD : D (fun _ => none) w0.drew)
    (h : wpFl P ol.toArray D (fun a => ∀ fl w, D fl w → (∀ i ∈ fs, (fl i).isSome = true) → wpList P ol.toArray (NoOut Q) (ol.drop n) (flAct ol.toArray fs fl a) w) hs a0) :
    (Code.region id ol.toArray true).wpIn (Fence.wide.inRound l) m P Q a0 w0 := wpIn_region_of_any l m hm hnd (any_floats hs fs n hB hlay hD h)
end
end Go.Proofs.YtlkhjnpflohfeaaDoor

/- New variables of a region, and what is known of the cut beside them. -/
namespace Go.Proofs.YtlkhjnpflohfeaaDoor
open Go Go.Proofs Go.RowKit

/-- The new variable, if it is there: a block of its own. -/
def FVar (W : World) (N : Nat) (T : TypeId) (cs : List Value) (o : Option Value) : Prop := ∀ v, o = some v → ∃ b, v = .pointer (some ⟨b, 0, none⟩) ∧ Blk W b T cs ∧ N ≤ b
theorem FVar.nil {W : World} {N : Nat} {T : TypeId} {cs : List Value} : FVar W N T cs none := fun v h => by cases h
theorem FVar.bel {W W' : World} {N M : Nat} {T : TypeId} {cs : List Value} {o : Option Value} (h : FVar W N T cs o) (hb : Bel M W.heap.size W W') (hM : M < N) : FVar W' N T cs o := fun v hv => by
  obtain ⟨b, h1, h2, h3⟩ := h v hv
  exact ⟨b, h1, h2.bel hb h2.lt (by omega), h3⟩
theorem FVar.below {W W' : World} {N : Nat} {T : TypeId} {cs : List Value} {o : Option Value} (h : FVar W N T cs o) (hb : Below W.heap.size W W') : FVar W' N T cs o := fun v hv => by
  obtain ⟨b, h1, h2, h3⟩ := h v hv
  exact ⟨b, h1, h2.below hb h2.lt, h3⟩
theorem FVar.new {W : World} {N : Nat} {T : TypeId} {cs : List Value} (hN : N ≤ W.heap.size) : FVar (W.alloc (.cells cs.toArray T (0, 0))) N T cs (some (.pointer (some ⟨W.heap.size, 0, none⟩))) := fun v h => by
  cases h; exact ⟨_, rfl, Blk.new _ _ _, hN⟩

theorem Kept.set {w : World} {M : Nat} {x : CutD} (h : Kept w M x) {p : Addr} (hp : p.block ≠ M) (u : Value) : Kept (w.setCell p u) M x := by
  obtain ⟨es, c, h1, h2⟩ := h
  exact ⟨es, c, (Below.heap_setCell _ _ _ _ (Ne.symm hp)).trans h1, h2⟩
theorem Kept.drew {w : World} {M : Nat} {x : CutD} (h : Kept w M x) : Kept w.drew M x := h
theorem Kept.alloc {w : World} {M : Nat} {x : CutD} (h : Kept w M x) (o : Obj) : Kept (w.alloc o) M x := h.below ((Below.refl _ _).alloc (Nat.le_refl _) _) h.lt
structure FCls (D : (Nat → Option Value) → World → Prop) where
  fl : Nat → Option Value
  W : World
  ok : D fl W
section
variable {P : Program} {ops : Array Oper} {D : (Nat → Option Value) → World → Prop} {Pan : Act → Prop}
theorem fl_cls {i : Nat} {rest : List Nat} {a : Act} {o : Oper} {v : Value} (ho : ops[i]? = some o) (hr : ∀ s : FCls D, (execOp a.eval o).run P s.W = .ok (.value v) s.W) (h : wpFl P ops D Pan rest (a.put o.dst v)) : wpFl P ops D Pan (i :: rest) a := by
  unfold wpFl wpPanG
  simp only [ho]
  refine ⟨v, fun fl w hw => ?_, h⟩
  unfold Oper.quietAt
  rw [hr ⟨fl, w, hw⟩]; exact ⟨rfl, rfl⟩
theorem fl_call {i : Nat} {rest : List Nat} {a : Act} {o : Oper} {v : Value} (f : FuncId) (args : Array Value) (ho : ops[i]? = some o) (hr : ∀ s : FCls D, (execOp a.eval o).run P s.W = .ok (.enter f args) s.W)
    (hc : ∀ s : FCls D, Calls P f args s.W fun e w' => e = .returned v ∧ D s.fl w') (h : wpFl P ops D Pan rest (a.put o.dst v)) : wpFl P ops D Pan (i :: rest) a := by
  unfold wpFl wpPanG
  simp only [ho]
  refine ⟨v, fun fl w hw => ?_, h⟩
  unfold Oper.quietAt
  rw [hr ⟨fl, w, hw⟩]; exact ⟨rfl, hc ⟨fl, w, hw⟩⟩
theorem fl_nil {a : Act} (h : Pan a) : wpFl P ops D Pan [] a := h
end
end Go.Proofs.YtlkhjnpflohfeaaDoor

/- Contract of Leak. -/
namespace Go.Proofs.YtlkhjnpflohfeaaDoor
open Go Go.Proofs Go.RowKit
attribute [local go_sem] Oper.semAt_some

namespace Cut
end Cut
def leakF (x : CutD) (l : List (Fin 11)) : List (Int × Int) := (l.filter fun y => Cut.some (Cut.seasonAt x (lv y) (Cut.every x) 0)).map fun y => (lv y, lv y)
theorem leakF_all {x : CutD} (hv : Cut.valid x = true) : leakF x (leaksF x) = Cut.leakSpans x := by
  unfold leakF Cut.leakSpans
  rw [← leaksF_map (Cut.valid_of hv), List.filter_map, List.map_map]; rfl
theorem leakF_yes {x : CutD} (l : List (Fin 11)) (y : Fin 11) (h : Cut.some (Cut.seasonAt x (lv y) (Cut.every x) 0) = true) : leakF x (l ++ [y]) = leakF x l ++ [(lv y, lv y)] := by
  unfold leakF; rw [List.filter_append, List.map_append]; simp [h]
theorem leakF_no {x : CutD} (l : List (Fin 11)) (y : Fin 11) (h : Cut.some (Cut.seasonAt x (lv y) (Cut.every x) 0) = false) : leakF x (l ++ [y]) = leakF x l := by
  unfold leakF; rw [List.filter_append, List.map_append]; simp [h]
theorem leakF_le {x : CutD} (l : List (Fin 11)) : (leakF x l).length ≤ l.length := by
  unfold leakF
  rw [List.length_map]; exact List.length_filter_le _ _

set_option maxHeartbeats 2000000 in
set_option maxRecDepth 100000 in
theorem Leak_any (x : CutD) (ra ba la : Option Addr) (rc bc lc : Nat) (w : World) (hin : CutIn w x ra ba la) :
    Calls Tryd.prog 16 #[cutVal x ra ba la rc bc lc] w fun e w' => e = .returned (.tuple #[.agg #[.int .i64 (leakR x).1.1, .int .i64 (leakR x).1.2], .int .i64 (leakR x).2]) ∧ Below w.heap.size w w' := by
  have HIN := hide hin
  clear hin
  unfold cutVal
  refine (callsIn_wide (n := 4)).1 ?_
  refine callsIn_of_wp_marks Tryd.func16 rfl trivial ?_ rfl
  simp only [Tryd.ntmps16, List.size_toArray, List.length_cons, List.length_nil, Nat.reduceAdd, Nat.reduceSub, Array.replicate_succ, Array.replicate_zero, List.push_toArray, List.append_toArray, List.nil_append, List.cons_append]
  gi_wp2_with fail
  obtain ⟨w3, hw3⟩ : ∃ w3, (((w.alloc (Obj.cells (cutCells x ra ba la rc bc lc).toArray 28)).alloc (Obj.cells #[Value.int IntKind.i64 0, Value.int IntKind.i64 0] 23)).alloc (Obj.cells #[Value.int IntKind.i64 0] 31)) = w3 := ⟨_, rfl⟩
  simp only [cutCells] at hw3
  rw [hw3]
  have hz3 : w3.heap.size = w.heap.size + 1 + 1 + 1 := by rw [← hw3]; simp
  have hb3 : Below w.heap.size w w3 := by rw [← hw3]; (repeat' first | (with_reducible assumption) | (with_reducible exact Below.refl _ _) | (with_reducible refine Below.drew ?_) | (with_reducible refine Below.setCell ?_ ?_ _) | (with_reducible refine Below.alloc ?_ ?_ _) | (refine Below.trans ?_ (Below.mono (by assumption) ?_)) | omega | (simp only [World.size_alloc] at *; omega))
  have b1 : Blk w3 (w.heap.size + 1) 23 [.int .i64 0, .int .i64 0] := by rw [← hw3]; exact (Blk.new' _ [_, _] _ (by simp)).alloc _
  have b2 : Blk w3 (w.heap.size + 1 + 1) 31 [.int .i64 0] := by rw [← hw3]; exact Blk.new' _ [_] _ (by simp)
  have HIN3 := hide (HIN.out.below hb3)
  clear hw3
  refine ⟨trivial, ?_⟩
  refine (callsIn_wide.2 (open_any _ x ra ba la rc bc lc true _ HIN3.out ?_)).mono ?_
  · exact ⟨_, _, rfl, enters_of Tryd.func51 (by kernel_rfl) rfl, fun B M la lc w' _ _ _ _ _ => always_any B w'⟩
  rintro e w5 ⟨hb5, h⟩
  have c1 := b1.below hb5 (by omega)
  have c2 := b2.below hb5 (by omega)
  have hb5' := hb3.trans (hb5.mono (show w.heap.size ≤ w3.heap.size by omega))
  rcases h with ⟨hv, rfl⟩ | ⟨hv, hbf, rfl⟩ | ⟨hv, hbt, B, M, la', lc', hB, hM, rfl, hcut⟩
  · refine leavesM_refused (c2.cell 0 rfl) (c2.free 0) rfl (results2 rfl (read_blk (w.heap.size + 1) 23 _ _ rfl (c1.other (by omega) _ _) Tryd.underlying23 rfl (by kernel_rfl)) (read_cell1 (w.heap.size + 1 + 1) _ rfl ((c2.set 0 _).cell 0 rfl) (by kernel_rfl))) ⟨?_, hb5'.setCell (p := ⟨w.heap.size + 1 + 1, 0, none⟩) (show w.heap.size ≤ w.heap.size + 1 + 1 by omega) _⟩
    unfold leakR
    rw [toldErr_bad hv]; rfl
  · cases hbf
  · have HCut := hide hcut
    clear hcut
    gi_wp2_with fail
    refine ⟨trivial, ?_⟩
    cases hcan : Cut.can x (Cut.every x) with
    | false =>
      refine (callsIn_wide.2 (told_no w5 HCut.out hv hcan)).mono ?_
      rintro e w6 ⟨rfl, hb6, hk6⟩
      have hb6' := hb6.below_lt (N' := w3.heap.size) hM hb5.size
      have d1 := c1.below hb6' (by omega)
      have d2 := c2.below hb6' (by omega)
      refine leavesM_refused (d2.cell 0 rfl) (d2.free 0) rfl (results2 rfl (read_blk (w.heap.size + 1) 23 _ _ rfl (d1.other (by omega) _ _) Tryd.underlying23 rfl (by kernel_rfl)) (read_cell1 (w.heap.size + 1 + 1) _ rfl ((d2.set 0 _).cell 0 rfl) (by kernel_rfl))) ⟨?_, (hb5'.trans (hb6'.mono (by omega))).setCell (p := ⟨w.heap.size + 1 + 1, 0, none⟩) (show w.heap.size ≤ w.heap.size + 1 + 1 by omega) _⟩
      unfold leakR
      rw [toldErr_clash hv hcan]; rfl
    | true =>
      refine (callsIn_wide.2 (told_yes w5 HCut.out hv hcan)).mono ?_
      rintro e w6 ⟨rfl, hb6, hk6⟩
      have hb6' := hb6.below_lt (N' := w3.heap.size) hM hb5.size
      have HC6 := hide (HCut.out.bel hb6 hk6)
      have d1 := c1.below hb6' (by omega)
      have d2 := c2.below hb6' (by omega)
      have hz6 := hb6.size
      have hz5 := hb5.size
      have hM6 := HC6.out.kept.lt
      have hB6 := HC6.out.blk.lt
      have hBM := HC6.out.ne
      have hfin : Hid (leakR x = (Cut.leakSpan x, 0)) := by
        unfold leakR
        rw [toldErr_ok hv hcan, if_pos rfl]; rfl
      have hbw6 : Hid (Below w.heap.size w w6) := hb5'.trans (hb6'.mono (by omega))
      have HP := hide (Cut.leakSpans_pos x hcan)
      have HS := hide (leakF_all hv)
      clear b1 b2 c1 c2 hk6 hb6 hb6' hb5' hb5
      gi_wp2_with (refine ⟨trivial, ?_⟩; gi_at_call 52; refine (callsIn_wide.2 (leaks_any _)).mono ?_; rintro e w' ⟨rfl, rfl⟩)
      obtain ⟨w9, hw9⟩ : ∃ w9, (((w6.alloc (Obj.cells #[Value.pointer (some ⟨B, 0, none⟩)] 70)).alloc (Obj.cells #[Value.slice none 0 0] 24)).alloc (Obj.cells #[Value.pointer (some ⟨B, 0, none⟩)] 70)) = w9 := ⟨_, rfl⟩
      rw [hw9]
      have hz9 : w9.heap.size = w6.heap.size + 1 + 1 + 1 := by rw [← hw9]; simp
      have hb9 : Below w6.heap.size w6 w9 := by rw [← hw9]; (repeat' first | (with_reducible assumption) | (with_reducible exact Below.refl _ _) | (with_reducible refine Below.drew ?_) | (with_reducible refine Below.setCell ?_ ?_ _) | (with_reducible refine Below.alloc ?_ ?_ _) | (refine Below.trans ?_ (Below.mono (by assumption) ?_)) | omega | (simp only [World.size_alloc] at *; omega))
      have b0 : Blk w9 w6.heap.size 70 [.pointer (some ⟨B, 0, none⟩)] := by rw [← hw9]; exact ((Blk.new' _ [_] _ rfl).alloc _).alloc _
      have b3 : Blk w9 (w6.heap.size + 1) 24 [.slice none 0 0] := by rw [← hw9]; exact (Blk.new' _ [_] _ (by simp)).alloc _
      have b4 : Blk w9 (w6.heap.size + 1 + 1) 70 [.pointer (some ⟨B, 0, none⟩)] := by rw [← hw9]; exact Blk.new' _ [_] _ (by simp)
      have HC9 := hide (HC6.out.below hb9)
      have e1 := d1.below hb9 (by omega)
      have e2 := d2.below hb9 (by omega)
      clear hw9 d1 d2
      refine wpIn_rangeFunc_ownG rfl (by omega) (gf := 86) (lb := #[.pointer (some ⟨w6.heap.size + 1 + 1, 0, none⟩)]) rfl trivial (enters_of Tryd.func86 (by kernel_rfl) rfl)
        (leaks_stops2 hv 3 (w6.heap.size + 1 + 1) w9 b4 HC9.out.blk.lt (HC9.out.blk.cell 2 rfl) (HC9.out.blk.cell 3 rfl)) (fun h k => h.trans k) (fun W l o o' hl _ _ _ => ⟨World.putObj_heap_other (by omega), World.putObj_heap_other (by omega)⟩) (Below.refl _ _) (fun _ => rfl)
        (fun pre W => ∃ v, WI w9 B (w6.heap.size + 1) (w6.heap.size + 1 + 1) M x v (leakF x pre) W)
        (fun c pre W => False)
        (fun s X Y row hs hg hr => by
          obtain ⟨v, h1, h2, h3, h4, h5, h6⟩ := hs
          exact ⟨v, h1.grown hg (by omega) (by omega) (fun r e => (hr r e).1), h2.grown (B0 := w9.heap.size) hg (by omega) (fun r e => (hr r e).1), h3.grown (B0 := w9.heap.size) hg (by omega) (fun r e => (hr r e).1), h4.grown hg (fun r e => (hr r e).2), Nat.le_trans h5 hg.size, h6.grown (B0 := w9.heap.size) hg (by omega) (fun r e => (hr r e).1)⟩)
        (fun c s X Y row hs hg hr => hs.elim)
        ⟨_, Bel.refl _ _ _, HC9.out.kept, b3, OwnsS.nil _ _, Nat.le_refl _, b4⟩
        (fun y => { tmps := #[.agg #[.int .i64 x.depth.1, .int .i64 x.depth.2, .int .i64 x.leak.1, .int .i64 x.leak.2, .slice ra x.rain.length rc, .int .i64 x.most, .slice ba x.boats.length bc, .slice la x.looks.length lc], .pointer (some ⟨w.heap.size, 0, none⟩), .pointer (some ⟨w.heap.size + 1, 0, none⟩), .pointer (some ⟨w.heap.size + 1 + 1, 0, none⟩), .pointer (some ⟨w6.heap.size, 0, none⟩), .pointer (some ⟨w6.heap.size + 1, 0, none⟩), .int .i64 (lv y), .agg #[.int .i64 x.depth.1, .int .i64 x.depth.2, .int .i64 x.leak.1, .int .i64 x.leak.2, .slice ra x.rain.length rc, .int .i64 x.most, .slice ba x.boats.length bc, .slice la x.looks.length lc], .pointer (some ⟨B, 0, none⟩), .pointer (some ⟨B, 0, none⟩), .pointer (some ⟨B, 0, none⟩), .func (.func 86) #[] #[.pointer (some ⟨w6.heap.size + 1 + 1, 0, none⟩)], .int .i64 (lv y), undef, undef, undef, undef, undef, undef, undef, undef, undef, undef, undef, undef, undef, undef, undef, undef], defers := [] }) ?assign ?body ?done ?stop
      case assign =>
        intro l y W K hK
        gi_wp2
        exact hK
      case body =>
        rintro l pre y W ⟨v, hWI⟩ hpre
        obtain ⟨hB', hkept, d3, hown, hsz, d4⟩ := id hWI
        have HCW := hide (HC6.out.bel ((Bel.of_below hb9).trans (hB'.mono (by omega))) hkept)
        have e0 := b0.bel hB' (by omega) (by omega)
        have hMW : M < W.heap.size := by omega
        have HWI := hide hWI
        clear hWI hown d3 d4 hkept
        gi_wp2_with fail
        have q0 : ∀ s : FCls (fun _ W' => KBase W M x W'), s.W.cell? ⟨w6.heap.size, 0, none⟩ = some (.pointer (some ⟨B, 0, none⟩)) := fun s => (e0.bel s.ok.1 e0.lt (by omega)).cell 0 rfl
        have ix : ∀ W : World, (Instr.index 85 (.agg (cells18 (Cut.seasonAt x (lv y) (Cut.every x))).toArray) (.int .i64 0)).run Tryd.prog W = .ok (.agg #[.int .i64 (Cut.seasonAt x (lv y) (Cut.every x) 0).1, .int .i64 (Cut.seasonAt x (lv y) (Cut.every x) 0).2]) W := fun W => index_c18 _ 0 (by omega) W
        refine wpIn_region_floats (D := fun _ W' => KBase W M x W') [0, 1, 2, 3, 4, 5, 6, 7] [] 8 l _ (by kernel_rfl) (by kernel_rfl) (by kernel_rfl) (fun i hi => by cases hi) ⟨(Bel.refl _ _ _).drew, HCW.out.kept.drew⟩ ?_
        iterate 3 (apply fl_cls; rfl; (intro s; first | (go_simp; rfl) | (go_simp; done)))
        refine fl_call 54 #[.pointer (some ⟨B, 0, none⟩)] (v := .int .u64 (Cut.every x : Nat)) rfl (fun s => ?_) (fun s => ?_) ?_
        · (first | (go_simp; rfl) | (go_simp; done))
        · refine (every_any _ (HCW.out.bel s.ok.1 s.ok.2) (Cut.valid_of hv).k5).mono ?_
          rintro e w' ⟨rfl, rfl⟩
          exact ⟨rfl, s.ok⟩
        iterate 1 (apply fl_cls; rfl; (intro s; first | (go_simp; rfl) | (go_simp; done)))
        refine fl_call 53 #[.pointer (some ⟨B, 0, none⟩), .agg #[.int .i64 (lv y), .int .u64 (Cut.every x : Nat)]] (v := .agg (cells18 (Cut.seasonAt x (lv y) (Cut.every x))).toArray) rfl (fun s => ?_) (fun s => ?_) ?_
        · (first | (go_simp; rfl) | (go_simp; done))
        · refine (season_any _ _ _ (HCW.out.bel s.ok.1 s.ok.2) hv (lv_le y) (every_lt hv)).mono ?_
          rintro e w' ⟨rfl, hb, hk⟩
          exact ⟨rfl, s.ok.1.trans (hb.mono s.ok.1.size), hk⟩
        iterate 1 (apply fl_cls; rfl; (intro s; first | (go_simp; rfl) | (go_simp; done)))
        refine fl_call 55 #[.agg #[.int .i64 (Cut.seasonAt x (lv y) (Cut.every x) 0).1, .int .i64 (Cut.seasonAt x (lv y) (Cut.every x) 0).2]] (v := .bool (Cut.some (Cut.seasonAt x (lv y) (Cut.every x) 0))) rfl (fun s => ?_) (fun s => ?_) ?_
        · (first | (go_simp; rfl) | (go_simp; done))
        · refine (some_any _ _ _).mono ?_
          rintro e w' ⟨rfl, hb⟩
          exact ⟨rfl, s.ok.1.trans (Bel.of_below (hb.mono s.ok.1.size)), s.ok.2.below hb s.ok.2.lt⟩
        refine fl_nil ?_
        clear q0 ix
        intro fl w8 hD _
        (simp only [flAct, dstOf, Act.put, List.foldl_nil, List.getElem?_toArray, List.getElem_toArray, List.getElem_cons_succ, List.getElem_cons_zero, List.setIfInBounds_toArray, List.set_cons_succ, List.set_cons_zero])
        obtain ⟨hW8, hk8⟩ := hD
        have hI8 := HWI.out.go hW8 hk8 (by omega) (by omega) (by omega)
        have d38 := hI8.cell.cell 0 rfl
        have f38 := hI8.cell.free 0
        have hl8 := hI8.cell.lt
        have HI8 := hide hI8
        clear hI8
        simp only [List.drop_succ_cons, List.drop_zero]
        go_wp2
        simp only [NoOut]
        have hlen := leakF_le (x := x) pre
        have h58 : w9.heap.size ≤ w8.heap.size := HI8.out.size
        cases hsm : Cut.some (Cut.seasonAt x (lv y) (Cut.every x) 0) with
        | true =>
          have HN := hide (leakF_yes pre y hsm)
          clear hsm
          obtain ⟨i0, hi, hz0, hz1, hz2⟩ := info_parts span_info
          have HOB := hide ((HI8.out.own).alloc (Obj.cells #[Value.int IntKind.i64 (lv y), Value.int IntKind.i64 (lv y)] 23))
          have hc1 : Hid (∀ j u, [Value.int IntKind.i64 (lv y), Value.int IntKind.i64 (lv y)][j]? = some u → (w8.alloc (Obj.cells #[Value.int IntKind.i64 (lv y), Value.int IntKind.i64 (lv y)] 23)).cell? (Addr.add ⟨w8.heap.size, 0, none⟩ j) = some u) := fun j u hj => by
            have := (Blk.new w8 [Value.int IntKind.i64 (lv y), Value.int IntKind.i64 (lv y)] 23).cell j hj
            rwa [show Addr.add ⟨w8.heap.size, 0, none⟩ j = ⟨w8.heap.size, j, none⟩ by simp [Addr.add]; exact fun h => h.symm]
          have hc2 : Hid (∀ u ∈ [Value.int IntKind.i64 (lv y), Value.int IntKind.i64 (lv y)], u.oneCell' = true) := by
            intro u hu; simp only [List.mem_cons, List.not_mem_nil, or_false] at hu; rcases hu with rfl | rfl <;> rfl
          gi_wp2_with (gi_at_builtin; refine wpListIn_append_own _ rfl (.tmp 21) (.tmp 25) 24 rfl w9.heap.size 23 i0 _ 2 16 Tryd.underlying24 hi hz0 hz1 hz2 rfl (by decide) v _ _ rfl HOB.out ⟨w8.heap.size, 0, none⟩ 1 1 _ rfl rfl hc1.out hc2.out (by unfold maxLen; omega) (by omega) (by simp; omega) ?_; intro v' w10 hown9 hg9 _; obtain ⟨sa, sn, sc, rfl⟩ := ownsRow_slice hown9; have HO9 := hide (OwnsS.snoc (s := (lv y, lv y)) hown9); have HG9 := hide hg9; have k9 := (HI8.out.cell.alloc _).grown (B0 := w9.heap.size) hg9 (by omega) (fun r hr => OwnsS.from HI8.out.own hr); have kc9 := k9.cell 0 rfl; have kf9 := k9.free 0; clear hown9 hg9)
          refine ⟨(hW8.keeps (by omega)).trans (HI8.out.keepsPush _ HG9.out), (WI.keep2 hW8 (by omega) (by omega) (by omega) (by omega)).trans (HI8.out.keep2Push _ (by omega) (by omega) (by omega) (by omega) (by omega) HG9.out), ⟨.slice sa sn sc, ?_⟩⟩
          rw [HN.out]
          exact HI8.out.push _ (by omega) (by omega) (by omega) HG9.out HO9.out
        | false =>
          have HN := hide (leakF_no pre y hsm)
          clear hsm
          gi_wp2
          refine ⟨hW8.keeps (by omega), WI.keep2 hW8 (by omega) (by omega) (by omega) (by omega), ⟨v, ?_⟩⟩
          rw [HN.out]
          exact HI8.out
      case done =>
        rintro D ys W hD rfl ⟨v, hI⟩ hK
        rw [HS.out] at hI
        obtain ⟨g, cap, rfl, hg, hlc, hcap, hgl, hcells⟩ := hI.own.row HP.out
        have q5 := hI.cell.cell 0 rfl
        have f1 := e1.bel hI.bel (by omega) (by omega)
        have f2 := e2.bel hI.bel (by omega) (by omega)
        have HI := hide hI
        have HCe := hide hcells
        have hsz := hI.size
        clear hI hcells
        gi_wp2_with (refine ⟨trivial, ?_⟩; gi_at_call 56; refine (callsIn_wide.2 (joined_any (Cut.leakSpans x) g 0 cap _ HP.out hlc hcap hgl HCe.out)).mono ?_; rintro e w10 ⟨rfl, hb10⟩; have h1 := f1.below hb10 f1.lt; have h2 := f2.below hb10 f2.lt; have k0 := h1.cell 0 rfl; have k1 := h1.cell 1 rfl; have k2 := h1.free 0; have k3 := h1.free 1; have k4 := h2.cell 0 rfl; have k5 := h2.free 0)
        have hDW : D < W.heap.size := (Array.getElem?_eq_some_iff.1 hK).1
        have hD9 : ((((w10.setCell ⟨w.heap.size + 1, 0, none⟩ (.int .i64 (Cut.joined (Cut.leakSpans x)).1)).setCell ⟨w.heap.size + 1, 1, none⟩ (.int .i64 (Cut.joined (Cut.leakSpans x)).2))).setCell ⟨w.heap.size + 1 + 1, 0, none⟩ (.int .i64 0)).heap[D]? = some (.deferred (some [])) :=
          (Below.heap_setCell _ ⟨w.heap.size + 1 + 1, 0, none⟩ _ D (by show D ≠ w.heap.size + 1 + 1; omega)).trans ((Below.heap_setCell _ ⟨w.heap.size + 1, 1, none⟩ _ D (by show D ≠ w.heap.size + 1; omega)).trans ((Below.heap_setCell _ ⟨w.heap.size + 1, 0, none⟩ _ D (by show D ≠ w.heap.size + 1; omega)).trans ((hb10.block D hDW).trans hK)))
        have t1 := ((((h1.set 0 (.int .i64 (Cut.joined (Cut.leakSpans x)).1)).set 1 (.int .i64 (Cut.joined (Cut.leakSpans x)).2))).other (show w.heap.size + 1 ≠ w.heap.size + 1 + 1 by omega) 0 (.int .i64 0)).put (l := D) (o := .deferred none) (by omega)
        have t2 := (((h2.other (show w.heap.size + 1 + 1 ≠ w.heap.size + 1 by omega) 0 (.int .i64 (Cut.joined (Cut.leakSpans x)).1)).other (show w.heap.size + 1 + 1 ≠ w.heap.size + 1 by omega) 1 (.int .i64 (Cut.joined (Cut.leakSpans x)).2)).set 0 (.int .i64 0)).put (l := D) (o := .deferred none) (by omega)
        simp only [List.set_cons_zero, List.set_cons_succ] at t1
        have hbw : Below w.heap.size w w10 := ((hbw6.out.trans (hb9.mono (by omega))).trans ((HI.out.bel.below_lt (by omega) (by omega)))).trans (hb10.mono (by omega))
        have hbx := (((hbw.setCell (p := ⟨w.heap.size + 1, 0, none⟩) (by show w.heap.size ≤ w.heap.size + 1; omega) (.int .i64 (Cut.joined (Cut.leakSpans x)).1)).setCell (p := ⟨w.heap.size + 1, 1, none⟩) (by show w.heap.size ≤ w.heap.size + 1; omega) (.int .i64 (Cut.joined (Cut.leakSpans x)).2)).setCell (p := ⟨w.heap.size + 1 + 1, 0, none⟩) (by show w.heap.size ≤ w.heap.size + 1 + 1; omega) (.int .i64 0)).trans (Below.putObj (N := w.heap.size) (l := D) (by omega) (.deferred none))
        refine ⟨by simp, .inl ⟨_, _, rfl, run_takeDeferred hD9, ?_⟩⟩
        refine leavesM_idle rfl (results2 rfl (read_blk (w.heap.size + 1) 23 _ _ rfl t1 Tryd.underlying23 rfl (by kernel_rfl)) (read_cell1 (w.heap.size + 1 + 1) (.int .i64 0) rfl (t2.cell 0 rfl) (by kernel_rfl))) ⟨?_, hbx⟩
        rw [hfin.out]; rfl
      case stop =>
        rintro D c pre W hD hpre hF hK
        exact hF.elim
end Go.Proofs.YtlkhjnpflohfeaaDoor

/- Contract of the method floats. -/
namespace Go.Proofs.YtlkhjnpflohfeaaDoor
open Go Go.Proofs Go.RowKit

namespace Cut
end Cut

def FlBoat (w0 : World) (M : Nat) (x : CutD) (fl : Nat → Option Value) (W : World) : Prop :=
  KBase w0 M x W ∧ FVar W w0.heap.size 51 [.int .i64 0, .int .i64 0, .int .i64 0, .int .i64 0] (fl 11) ∧ FVar W w0.heap.size 23 [.int .i64 0, .int .i64 0] (fl 12)
theorem FlBoat.step {w0 : World} {M : Nat} {x : CutD} {fl : Nat → Option Value} {W W' : World} (h : FlBoat w0 M x fl W) (hM : M < w0.heap.size) (hb : Bel M W.heap.size W W') (hk : Kept W' M x) : FlBoat w0 M x fl W' :=
  ⟨⟨h.1.1.trans (hb.mono h.1.1.size), hk⟩, h.2.1.bel hb hM, h.2.2.bel hb hM⟩

theorem Blk.ne_type {w : World} {B C : Nat} {T U : TypeId} {cs ds : List Value} (h : Blk w B T cs) (k : Blk w C U ds) (hT : T ≠ U) : B ≠ C := by
  rintro rfl
  unfold Blk at h k
  rw [h] at k
  cases k; exact hT rfl
section
variable {B M : Nat} {x : CutD} {ra ba la : Option Addr} {rc bc lc : Nat}

set_option maxHeartbeats 2000000 in
set_option maxRecDepth 100000 in
theorem floats_any (k : Nat) (loads : Int) (d : Nat) (w : World) (h : CutAt w B M x ra ba la rc bc lc) (hv : Cut.valid x = true) (hc : Cut.can x (Cut.every x) = true) (hd : d ≤ x.rain.length) (hk : k < x.boats.length) (hl : 0 ≤ loads ∧ loads ≤ 10) :
    Calls Tryd.prog 59 #[.pointer (some ⟨B, 0, none⟩), .int .i64 k, .int .i64 loads, .int .i64 d] w fun e w' =>
      e = .returned (.int .i64 (Cut.floats (Cut.boatAt x.boats k) loads (Cut.water x d))) ∧ Bel M w.heap.size w w' ∧ Kept w' M x := by
  have hV := Cut.valid_of hv
  have hbt := hV.boat k hk
  have hb4 := hV.b4
  have hMl := h.kept.lt
  have hBM := h.ne
  rcases h.boats with h0 | ⟨bb, off, rfl, hlt, hM, hcl⟩
  · omega
  have HC := hide h
  have HCL := hide hcl
  clear h hcl
  have hkl : (k : Int) < x.boats.length := by omega
  go_enter Tryd.func59, Tryd.ntmps59
  go_wp2_with fail
  have q6 : ∀ s : FCls (FlBoat w M x), s.W.cell? ⟨B, 6, none⟩ = some (.slice (some ⟨bb, off, none⟩) x.boats.length bc) := fun s => (HC.out.bel s.ok.1.1 s.ok.1.2).blk.cell 6 rfl
  have k0 : ∀ s : FCls (FlBoat w M x), s.W.cell? ⟨bb, off + k * 4, none⟩ = some (.int .i64 (Cut.boatAt x.boats k).draws.1) := fun s => (s.ok.1.1.cell (p := ⟨bb, _, none⟩) hlt hM).trans (HCL.out k 0 hk (by omega))
  have k1 : ∀ s : FCls (FlBoat w M x), s.W.cell? ⟨bb, off + k * 4 + 1, none⟩ = some (.int .i64 (Cut.boatAt x.boats k).draws.2) := fun s => (s.ok.1.1.cell (p := ⟨bb, _, none⟩) hlt hM).trans (HCL.out k 1 hk (by omega))
  have k2 : ∀ s : FCls (FlBoat w M x), s.W.cell? ⟨bb, off + k * 4 + 2, none⟩ = some (.int .i64 (Cut.boatAt x.boats k).per) := fun s => (s.ok.1.1.cell (p := ⟨bb, _, none⟩) hlt hM).trans (HCL.out k 2 hk (by omega))
  have k3 : ∀ s : FCls (FlBoat w M x), s.W.cell? ⟨bb, off + k * 4 + 3, none⟩ = some (.int .i64 (Cut.boatAt x.boats k).room) := fun s => (s.ok.1.1.cell (p := ⟨bb, _, none⟩) hlt hM).trans (HCL.out k 3 hk (by omega))
  refine wp_region_floats (D := FlBoat w M x) [0, 1, 2, 3, 4, 5, 6, 7, 8, 9, 10] [11, 12] 13 (by kernel_rfl) (by kernel_rfl) ?_ ⟨⟨(Bel.refl _ _ _).drew, HC.out.kept.below (Below.refl _ _).drew hMl⟩, FVar.nil, FVar.nil⟩ ?_
  · intro i hi o ho a fl W hW hn
    have hsz := hW.1.1.size
    simp only [List.mem_cons, List.not_mem_nil, or_false] at hi
    rcases hi with rfl | rfl
    · cases ho
      refine ⟨_, _, by kernel_rfl, ⟨hW.1.1.alloc hsz _, hW.1.2.below ((Below.refl _ _).alloc (Nat.le_refl _) _) hW.1.2.lt⟩, FVar.new (cs := [.int .i64 0, .int .i64 0, .int .i64 0, .int .i64 0]) hsz, hW.2.2.below ((Below.refl _ _).alloc (Nat.le_refl _) _)⟩
    · cases ho
      refine ⟨_, _, by kernel_rfl, ⟨hW.1.1.alloc hsz _, hW.1.2.below ((Below.refl _ _).alloc (Nat.le_refl _) _) hW.1.2.lt⟩, hW.2.1.below ((Below.refl _ _).alloc (Nat.le_refl _) _), FVar.new (cs := [.int .i64 0, .int .i64 0]) hsz⟩
  iterate 10 (apply fl_cls; rfl; (intro s; first | (go_simp; rfl) | (go_simp; done)))
  refine fl_call 47 #[.pointer (some ⟨B, 0, none⟩), .int .i64 d] (v := .agg #[.int .i64 (Cut.water x d).1, .int .i64 (Cut.water x d).2]) rfl (fun s => ?_) (fun s => ?_) ?_
  · (first | (go_simp; rfl) | (go_simp; done))
  · refine (water_any d s.W (HC.out.bel s.ok.1.1 s.ok.1.2) hv hc hd).mono ?_
    rintro e w' ⟨rfl, hb, hk⟩
    exact ⟨rfl, s.ok.step hMl hb hk⟩
  refine fl_nil ?_
  clear q6 k0 k1 k2 k3
  intro fl w2 hD hall
  obtain ⟨v1, hv1⟩ := Option.isSome_iff_exists.1 (hall 11 (by simp))
  obtain ⟨v2, hv2⟩ := Option.isSome_iff_exists.1 (hall 12 (by simp))
  obtain ⟨b1, rfl, k1, hN1⟩ := hD.2.1 v1 hv1
  obtain ⟨b2, rfl, k2, hN2⟩ := hD.2.2 v2 hv2
  (simp only [flAct, dstOf, Act.put, List.foldl_cons, List.foldl_nil, List.getElem?_toArray, List.getElem?_cons_succ, List.getElem?_cons_zero, Option.bind_some, List.getElem_toArray, List.getElem_cons_succ, List.getElem_cons_zero, List.setIfInBounds_toArray, List.set_cons_succ, List.set_cons_zero])
  rw [hv1, hv2]
  have hne : b1 ≠ b2 := k1.ne_type k2 (by decide)
  have hbw := hD.1.1
  have hkw := hD.1.2
  clear hD hall hv1 hv2 fl
  simp only [Option.getD_some, List.drop_succ_cons, List.drop_zero]
  have r0 := k1.cell 0 rfl
  have r1 := k1.cell 1 rfl
  have r2 := k1.cell 2 rfl
  have r3 := k1.cell 3 rfl
  have r4 := k1.free 0
  have r5 := k1.free 1
  have r6 := k1.free 2
  have r7 := k1.free 3
  have s0 := k2.cell 0 rfl
  have s1 := k2.cell 1 rfl
  have s2 := k2.free 0
  have s3 := k2.free 1
  have hp0 : 0 ≤ (Cut.boatAt x.boats k).per * loads := Int.mul_nonneg (by omega) (by omega)
  have hp1 : (Cut.boatAt x.boats k).per * loads ≤ 100 := Int.le_trans (Int.mul_le_mul (show _ ≤ 10 by omega) (show loads ≤ 10 by omega) (by omega) (by omega)) (by decide)
  have hl1 := k1.lt
  have hl2 := k2.lt
  have hfin : Hid (Cut.floats (Cut.boatAt x.boats k) loads (Cut.water x d) = if (Cut.boatAt x.boats k).draws.2 + (Cut.boatAt x.boats k).per * loads ≤ (Cut.water x d).1 then 2 else if (Cut.boatAt x.boats k).draws.1 + (Cut.boatAt x.boats k).per * loads ≤ (Cut.water x d).2 then 1 else 0) := rfl
  clear k1 k2
  by_cases hA : (Cut.boatAt x.boats k).draws.2 + (Cut.boatAt x.boats k).per * loads ≤ (Cut.water x d).1
  · go_wp2
    go_ret
    refine ⟨ret_int (a := 2) (by rw [hfin.out, if_pos hA]), ?_, ?_⟩
    · (repeat' first | (with_reducible assumption) | (with_reducible exact Bel.refl _ _ _) | (with_reducible refine Bel.drew ?_) | (with_reducible refine Bel.setCell ?_ ?_ _) | (with_reducible refine Bel.alloc ?_ ?_ _) | omega | (simp only at *; omega))
    · (repeat' first | (with_reducible assumption) | (with_reducible refine Kept.set ?_ ?_ _) | omega | (dsimp only; omega))
  · by_cases hB : (Cut.boatAt x.boats k).draws.1 + (Cut.boatAt x.boats k).per * loads ≤ (Cut.water x d).2
    · go_wp2
      go_ret
      refine ⟨ret_int (a := 1) (by rw [hfin.out, if_neg (by omega), if_pos hB]), ?_, ?_⟩
      · (repeat' first | (with_reducible assumption) | (with_reducible exact Bel.refl _ _ _) | (with_reducible refine Bel.drew ?_) | (with_reducible refine Bel.setCell ?_ ?_ _) | (with_reducible refine Bel.alloc ?_ ?_ _) | omega | (simp only at *; omega))
      · (repeat' first | (with_reducible assumption) | (with_reducible refine Kept.set ?_ ?_ _) | omega | (dsimp only; omega))
    · go_wp2
      go_ret
      refine ⟨ret_int (a := 0) (by rw [hfin.out, if_neg (by omega), if_neg (by omega)]), ?_, ?_⟩
      · (repeat' first | (with_reducible assumption) | (with_reducible exact Bel.refl _ _ _) | (with_reducible refine Bel.drew ?_) | (with_reducible refine Bel.setCell ?_ ?_ _) | (with_reducible refine Bel.alloc ?_ ?_ _) | omega | (simp only at *; omega))
      · (repeat' first | (with_reducible assumption) | (with_reducible refine Kept.set ?_ ?_ _) | omega | (dsimp only; omega))
end
end Go.Proofs.YtlkhjnpflohfeaaDoor

/- Contract of last, of a slice of numbers. -/
namespace Go.Proofs.YtlkhjnpflohfeaaDoor
open Go Go.Proofs Go.RowKit

namespace Cut
end Cut

/-- What is asked of a test's function. -/
structure TestOk (g : FuncId) (first cap : Array Value) (n M : Nat) (val : Nat → Value) (p : Nat → Bool) (I : World → Prop) : Prop where
  enters : ∀ args w, (callFunc g args).run Tryd.prog w = .ok (.enter g args) w
  below : ∀ W W', I W → Below W.heap.size W W' → I W'
  calls : ∀ i, i < n → ∀ W, I W → Calls Tryd.prog g (first ++ #[val i] ++ cap) W fun e W' => e = .returned (.bool (p i)) ∧ I W' ∧ Bel M W.heap.size W W'

set_option maxHeartbeats 1000000 in
set_option maxRecDepth 100000 in
theorem lastInt_any (b n cp : Nat) (g : FuncId) (cap : Array Value) (M : Nat) (p : Nat → Bool) (I : World → Prop) (w : World) (hn : n ≤ 1000) (hI : I w) (hM : M < w.heap.size)
    (hb : ∀ W, I W → b < W.heap.size ∧ ∀ i, i < n → W.cell? ⟨b, i, none⟩ = some (.int .i64 i)) (ht : TestOk g #[] cap n M (fun i => .int .i64 i) p I) :
    Calls Tryd.prog 90 #[.slice (some ⟨b, 0, none⟩) n cp, .agg #[.func (.func g) #[] cap]] w fun e w' => e = .returned (.int .i64 ((Cut.lead p n : Nat) - 1)) ∧ I w' ∧ Bel M w.heap.size w w' := by
  have HT := hide ht
  have HB := hide hb
  have HI := hide hI
  clear ht hb hI
  go_enter Tryd.func90, Tryd.ntmps90
  go_wp2_with fail
  go_loopw [5, 6, 9, 10, 11, 12, 13, 14, 15, 16, 17, 18, 19, 20] (fun _ _ v9 _ _ _ _ _ _ _ _ _ _ _ wr => ∃ k : Nat, k ≤ n ∧ v9 = .int .i64 k ∧ Hid (I wr) ∧ Blk wr w.heap.size 133 [.func (.func g) #[] cap] ∧ Bel M w.heap.size w wr ∧ Hid (∀ j, j < k → p j = true)) (fun _ _ v9 _ _ _ _ _ _ _ _ _ _ _ _ => n - (intOf v9).toNat)
  case atStart => exact ⟨0, by omega, rfl, HT.out.below _ _ HI.out ((Below.refl _ _).alloc (Nat.le_refl _) _), Blk.new' _ [_] _ rfl, (Bel.refl _ _ _).alloc (Nat.le_refl _) _, fun j hj => by omega⟩
  case round =>
    obtain ⟨k, hk, rfl, hI, b0, hB, hall⟩ := hrel
    by_cases hlt : k < n
    · have hc := (HB.out wr hI.out).2 k hlt
      have hbl := (HB.out wr hI.out).1
      have c0 := b0.cell 0 rfl
      have hl0 := b0.lt
      have heg := HT.out.enters
      go_wp2_with fail
      clear heg
      have hcall := HT.out.calls k hlt wr hI.out
      rw [Array.empty_append] at hcall
      refine hcall.mono ?_
      clear hcall
      rintro e w2 ⟨rfl, hI2, hB2⟩
      have b2 := b0.bel hB2 hl0 (by omega)
      have HI2 := hide hI2
      clear hI2 hc c0 b0
      cases hp : p k with
      | true =>
        have HP := hide hp
        clear hp
        go_wp2
        refine ⟨⟨k + 1, by omega, by go_num, HI2, b2, hB.trans (hB2.mono hB.size), fun j hj => ?_⟩, by simp [intOf]; omega⟩
        by_cases hjk : j < k
        · exact hall.out j hjk
        · obtain rfl : j = k := by omega
          exact HP.out
      | false =>
        have HP := hide (Cut.lead_stop p k hp hall.out n hlt)
        clear hp
        go_wp2
        go_ret
        exact ⟨ret_int (by rw [HP.out]), HI2.out, hB.trans (hB2.mono hB.size)⟩
    · obtain rfl : k = n := by omega
      go_wp2
      go_ret
      refine ⟨ret_int (by rw [Cut.lead_all p k hall.out]), hI.out, hB⟩
end Go.Proofs.YtlkhjnpflohfeaaDoor

/- Contract of the method loads. -/
namespace Go.Proofs.YtlkhjnpflohfeaaDoor
open Go Go.Proofs Go.RowKit
namespace Cut
end Cut
section
variable {B M : Nat} {x : CutD} {ra ba la : Option Addr} {rc bc lc : Nat}

set_option maxHeartbeats 1000000 in
set_option maxRecDepth 100000 in
theorem loads1_any (k d n : Nat) (sure : Int) (K1 K2 K3 K4 : Nat) (w : World) (h : CutAt w B M x ra ba la rc bc lc) (hv : Cut.valid x = true) (hc : Cut.can x (Cut.every x) = true) (hd : d ≤ x.rain.length) (hk : k < x.boats.length) (hn : n ≤ 10)
    (b1 : Blk w K1 70 [.pointer (some ⟨B, 0, none⟩)]) (b2 : Blk w K2 3 [.int .i64 k]) (b3 : Blk w K3 3 [.int .i64 d]) (b4 : Blk w K4 3 [.int .i64 sure]) (h1 : K1 ≠ M) (h2 : K2 ≠ M) (h3 : K3 ≠ M) (h4 : K4 ≠ M) :
    Calls Tryd.prog 91 #[.int .i64 n, .pointer (some ⟨K1, 0, none⟩), .pointer (some ⟨K2, 0, none⟩), .pointer (some ⟨K3, 0, none⟩), .pointer (some ⟨K4, 0, none⟩)] w fun e w' =>
      e = .returned (.bool (Cut.suits x k d sure n)) ∧ Bel M w.heap.size w w' ∧ Kept w' M x := by
  have hMl := h.kept.lt
  have HC := hide h
  clear h
  go_enter Tryd.func91, Tryd.ntmps91
  go_wp2_with fail
  have q1 : ∀ s : FCls (fun _ W => KBase w M x W), s.W.cell? ⟨K1, 0, none⟩ = some (.pointer (some ⟨B, 0, none⟩)) := fun s => (b1.bel s.ok.1 b1.lt h1).cell 0 rfl
  have q2 : ∀ s : FCls (fun _ W => KBase w M x W), s.W.cell? ⟨K2, 0, none⟩ = some (.int .i64 k) := fun s => (b2.bel s.ok.1 b2.lt h2).cell 0 rfl
  have q3 : ∀ s : FCls (fun _ W => KBase w M x W), s.W.cell? ⟨K3, 0, none⟩ = some (.int .i64 d) := fun s => (b3.bel s.ok.1 b3.lt h3).cell 0 rfl
  have q4 : ∀ s : FCls (fun _ W => KBase w M x W), s.W.cell? ⟨K4, 0, none⟩ = some (.int .i64 sure) := fun s => (b4.bel s.ok.1 b4.lt h4).cell 0 rfl
  refine wp_region_floats (D := fun _ W => KBase w M x W) [0, 1, 2, 3, 4, 5, 6, 7] [] 8 (by kernel_rfl) (by kernel_rfl) (fun i hi => by cases hi) ⟨(Bel.refl _ _ _).drew, HC.out.kept.drew⟩ ?_
  iterate 4 (apply fl_cls; rfl; (intro s; first | (go_simp; rfl) | (go_simp; done)))
  refine fl_call 59 #[.pointer (some ⟨B, 0, none⟩), .int .i64 k, .int .i64 n, .int .i64 d] (v := .int .i64 (Cut.floats (Cut.boatAt x.boats k) n (Cut.water x d))) rfl (fun s => ?_) (fun s => ?_) ?_
  · (first | (go_simp; rfl) | (go_simp; done))
  · refine (floats_any k n d s.W (HC.out.bel s.ok.1 s.ok.2) hv hc hd hk ⟨by omega, by omega⟩).mono ?_
    rintro e w' ⟨rfl, hb, hk⟩
    exact ⟨rfl, s.ok.1.trans (hb.mono s.ok.1.size), hk⟩
  iterate 3 (apply fl_cls; rfl; (intro s; first | (go_simp; rfl) | (go_simp; done)))
  refine fl_nil ?_
  clear q1 q2 q3 q4 b1 b2 b3 b4
  intro fl w2 hD _
  (simp only [flAct, dstOf, Act.put, List.foldl_nil, List.getElem?_toArray, List.getElem_toArray, List.getElem_cons_succ, List.getElem_cons_zero, List.setIfInBounds_toArray, List.set_cons_succ, List.set_cons_zero])
  obtain ⟨hbw, hkw⟩ := hD
  have hs : Hid (Cut.suits x k d sure n = decide (sure ≤ Cut.floats (Cut.boatAt x.boats k) n (Cut.water x d))) := rfl
  simp only [List.drop_succ_cons, List.drop_zero]
  go_wp2
  go_ret
  exact ⟨ret_bool (by rw [hs.out]), hbw, hkw⟩

theorem int_info : (Tryd.prog.info? 3).map (fun i => (i.zero, i.size, i.bytes)) = some (some (.int .i64 0), 1, 8) := by kernel_rfl

set_option maxHeartbeats 2000000 in
set_option maxRecDepth 100000 in
theorem loads_any (k d : Nat) (sure : Int) (w : World) (h : CutAt w B M x ra ba la rc bc lc) (hv : Cut.valid x = true) (hc : Cut.can x (Cut.every x) = true) (hd : d ≤ x.rain.length) (hk : k < x.boats.length) :
    Calls Tryd.prog 64 #[.pointer (some ⟨B, 0, none⟩), .int .i64 k, .int .i64 d, .int .i64 sure] w fun e w' => e = .returned (.int .i64 (Cut.loads x k d sure)) ∧ Bel M w.heap.size w w' ∧ Kept w' M x := by
  have hMl := h.kept.lt
  have hBl := h.blk.lt
  have hbt := (Cut.valid_of hv).boat k hk
  rcases h.boats with h0 | ⟨bb, off, rfl, hlt, hM, hcl⟩
  · omega
  obtain ⟨r, hr⟩ := Int.eq_ofNat_of_zero_le hbt.2.2.2.2.2.1
  have hr10 : r ≤ 10 := by omega
  have hcl3 := hcl k 3 hk (by omega)
  simp [boatCell] at hcl3
  rw [hr] at hcl3
  have hfin : Hid (Cut.loads x k d sure = (Cut.lead (Cut.suits x k d sure) (r + 1) : Nat) - 1) := by unfold Cut.loads; rw [hr]; rfl
  clear hr hbt
  have hkl : (k : Int) < x.boats.length := by omega
  have HC := hide h
  clear h hcl
  go_enter Tryd.func64, Tryd.ntmps64
  go_wp2_with fail
  obtain ⟨w4, hw4⟩ : ∃ w4, ((((w.alloc (Obj.cells #[.pointer (some ⟨B, 0, none⟩)] 70)).alloc (Obj.cells #[Value.int IntKind.i64 k] 3)).alloc (Obj.cells #[Value.int IntKind.i64 d] 3)).alloc (Obj.cells #[Value.int IntKind.i64 sure] 3)) = w4 := ⟨_, rfl⟩
  rw [hw4]
  have hz4 : w4.heap.size = w.heap.size + 1 + 1 + 1 + 1 := by rw [← hw4]; simp
  have hb4 : Below w.heap.size w w4 := by rw [← hw4]; (repeat' first | (with_reducible assumption) | (with_reducible exact Below.refl _ _) | (with_reducible refine Below.drew ?_) | (with_reducible refine Below.setCell ?_ ?_ _) | (with_reducible refine Below.alloc ?_ ?_ _) | (refine Below.trans ?_ (Below.mono (by assumption) ?_)) | omega | (simp only [World.size_alloc] at *; omega))
  have b0 : Blk w4 w.heap.size 70 [.pointer (some ⟨B, 0, none⟩)] := by rw [← hw4]; exact ((((Blk.new' _ [_] _ rfl).alloc _).alloc _).alloc _)
  have b1 : Blk w4 (w.heap.size + 1) 3 [.int .i64 k] := by rw [← hw4]; exact (((Blk.new' _ [_] _ (by simp)).alloc _).alloc _)
  have b2 : Blk w4 (w.heap.size + 1 + 1) 3 [.int .i64 d] := by rw [← hw4]; exact (Blk.new' _ [_] _ (by simp)).alloc _
  have b3 : Blk w4 (w.heap.size + 1 + 1 + 1) 3 [.int .i64 sure] := by rw [← hw4]; exact Blk.new' _ [_] _ (by simp)
  have HC4 := hide (HC.out.below hb4)
  clear hw4
  have q0 : ∀ s : FCls (fun _ W => W = w4.drew), s.W.cell? ⟨w.heap.size, 0, none⟩ = some (.pointer (some ⟨B, 0, none⟩)) := fun s => by rw [s.ok]; exact b0.cell 0 rfl
  have q1 : ∀ s : FCls (fun _ W => W = w4.drew), s.W.cell? ⟨w.heap.size + 1, 0, none⟩ = some (.int .i64 k) := fun s => by rw [s.ok]; exact b1.cell 0 rfl
  have q2 : ∀ s : FCls (fun _ W => W = w4.drew), s.W.cell? ⟨B, 6, none⟩ = some (.slice (some ⟨bb, off, none⟩) x.boats.length bc) := fun s => by rw [s.ok]; exact HC4.out.blk.cell 6 rfl
  have q3 : ∀ s : FCls (fun _ W => W = w4.drew), s.W.cell? ⟨bb, off + k * 4 + 3, none⟩ = some (.int .i64 r) := fun s => by rw [s.ok]; exact (hb4.cell (p := ⟨bb, _, none⟩) hlt).trans hcl3
  refine wp_region_floats (D := fun _ W => W = w4.drew) [0, 1, 2, 3, 4, 5, 6, 7, 8, 9] [] 10 (by kernel_rfl) (by kernel_rfl) (fun i hi => by cases hi) rfl ?_
  clear hcl3
  iterate 9 (apply fl_cls; rfl; (intro s; first | (go_simp; rfl) | (go_simp; done)))
  have hadd : IntKind.i64.wrap ((r : Int) + 1) = (r : Int) + 1 := IntWalk.i64_in _ (by omega)
  iterate 1 (apply fl_cls; rfl; (intro s; first | (go_simp; rfl) | (go_simp; done)))
  refine fl_nil ?_
  clear q0 q1 q2 q3 hadd
  rintro fl w5 rfl _
  (simp only [flAct, dstOf, Act.put, List.foldl_nil, List.getElem?_toArray, List.getElem_toArray, List.getElem_cons_succ, List.getElem_cons_zero, List.setIfInBounds_toArray, List.set_cons_succ, List.set_cons_zero])
  simp only [List.drop_succ_cons, List.drop_zero]
  obtain ⟨i0, hi, hz0, hz1, hz2⟩ := info_parts int_info
  have hmk : ∀ w, (Instr.makeSlice 46 (.int .i64 ((r : Int) + 1)) (.int .i64 ((r : Int) + 1))).run Tryd.prog w = .ok (.slice (some ⟨w.heap.size, 0, none⟩) (r + 1) (r + 1)) (w.alloc (.cells (madeCells (Value.int .i64 0).cells ((r + 1) * 1)).toList.toArray 3)) := fun w => by
    have := run_make_rowN (P := Tryd.prog) 46 3 i0 _ Tryd.underlying46 hi hz0 .i64 .i64 (r + 1) (by rw [hz2]; omega) (by omega) w
    rw [hz1] at this; exact this
  generalize hmc : (madeCells (Value.int .i64 0).cells ((r + 1) * 1)).toList = mc at hmk
  have hml : mc.length = r + 1 := by rw [← hmc, madeCells_length]; omega
  have HML := hide hml
  clear hmc
  go_wp2_with fail
  have a0 : Blk (w4.alloc (Obj.cells mc.toArray 3)).drew (w.heap.size + 1 + 1 + 1 + 1) 3 mc := (Blk.new' _ _ _ (by omega)).drew
  have hb5 : Below w4.heap.size w4 (w4.alloc (Obj.cells mc.toArray 3)).drew := ((Below.refl _ _).alloc (Nat.le_refl _) _).drew
  have hz5 : (w4.alloc (Obj.cells mc.toArray 3)).drew.heap.size = w4.heap.size + 1 := by simp
  generalize (w4.alloc (Obj.cells mc.toArray 3)).drew = w5 at *
  go_loopw [10, 24, 25, 26, 27, 28, 29, 30, 31] (fun _ v24 _ _ _ _ _ _ _ wr => ∃ (j : Nat) (cs : List Value), j ≤ r + 1 ∧ v24 = .int .i64 j ∧ Below w4.heap.size w4 wr ∧ Blk wr (w.heap.size + 1 + 1 + 1 + 1) 3 cs ∧ Hid (cs.length = r + 1 ∧ ∀ i, i < j → cs[i]? = some (.int .i64 i))) (fun _ v24 _ _ _ _ _ _ _ _ => r + 1 - (intOf v24).toNat)
  case atStart => exact ⟨0, mc, by omega, rfl, hb5, a0, HML.out, fun i hi => by omega⟩
  case round =>
    clear a0 hb5 hz5 hml
    obtain ⟨j, cs, hj, rfl, hB, a1, hcs⟩ := hrel
    by_cases hlt2 : j < r + 1
    · obtain ⟨cv, hcv⟩ : ∃ cv, cs[j]? = some cv := ⟨cs[j]'(by rw [hcs.out.1]; exact hlt2), by simp [hcs.out.1, hlt2]⟩
      have hcell := a1.cell j hcv
      have hfr := a1.free j
      have hle : (j : Int) < (r : Int) + 1 := by omega
      clear hcv
      go_wp2
      refine ⟨⟨j + 1, cs.set j (.int .i64 j), by omega, by go_num, hB.setCell (p := ⟨w.heap.size + 1 + 1 + 1 + 1, j, none⟩) (by show w4.heap.size ≤ w.heap.size + 1 + 1 + 1 + 1; omega) _, a1.set j _, by simp [hcs.out.1], fun i hi => ?_⟩, by simp [intOf]; omega⟩
      by_cases hij : j = i
      · subst hij; simp [hcs.out.1, hlt2]
      · rw [List.getElem?_set_ne hij]; exact hcs.out.2 i (by omega)
    · obtain rfl : j = r + 1 := by omega
      have hMw : M < wr.heap.size := by have := hB.size; omega
      have HB := hide hB
      have hwz := hB.size
      have hal := a1.lt
      have c0 := b0.below hB (by omega)
      have c1 := b1.below hB (by omega)
      have c2 := b2.below hB (by omega)
      have c3 := b3.below hB (by omega)
      clear b0 b1 b2 b3
      have HCr := hide (HC4.out.below hB)
      have hgt : ¬ ((r + 1 : Nat) : Int) < (r : Int) + 1 := by omega
      go_wp2_with fail
      refine (lastInt_any (w.heap.size + 1 + 1 + 1 + 1) (r + 1) (r + 1) 91 _ M (Cut.suits x k d sure) (KBase wr M x) wr (by omega) ⟨Bel.refl _ _ _, HCr.out.kept⟩ hMw (fun W hW => ?_) ?_).mono ?_
      · have := a1.bel hW.1 hal (by omega)
        exact ⟨this.lt, fun i hi => this.cell i (hcs.out.2 i hi)⟩
      · refine ⟨enters_of Tryd.func91 (by kernel_rfl) rfl, fun W W' hI hb => ⟨hI.1.trans (Bel.of_below (hb.mono hI.1.size)), hI.2.below hb hI.2.lt⟩, fun i hi W hW => ?_⟩
        refine (loads1_any k d i sure (w.heap.size) (w.heap.size + 1) (w.heap.size + 1 + 1) (w.heap.size + 1 + 1 + 1) W (HCr.out.bel hW.1 hW.2) hv hc hd hk (by omega) (c0.bel hW.1 c0.lt (by omega)) (c1.bel hW.1 c1.lt (by omega)) (c2.bel hW.1 c2.lt (by omega)) (c3.bel hW.1 c3.lt (by omega)) (by omega) (by omega) (by omega) (by omega)).mono ?_
        rintro e W' ⟨he, hb, hk⟩
        exact ⟨he, ⟨hW.1.trans (hb.mono hW.1.size), hk⟩, hb⟩
      rintro e w7 ⟨rfl, ⟨hb7, hk7⟩, _⟩
      go_wp2
      go_ret
      exact ⟨ret_int (by rw [hfin.out]), ((Bel.of_below hb4).trans (Bel.of_below (HB.out.mono (by omega)))).trans (hb7.mono (by omega)), hk7⟩
end
end Go.Proofs.YtlkhjnpflohfeaaDoor

/- Contract of Loads. -/
namespace Go.Proofs.YtlkhjnpflohfeaaDoor
open Go Go.Proofs Go.RowKit

set_option maxHeartbeats 2000000 in
theorem Loads_any (x : CutD) (b d : Int) (ra ba la : Option Addr) (rc bc lc : Nat) (w : World) (hin : CutIn w x ra ba la) :
    Calls Tryd.prog 20 #[cutVal x ra ba la rc bc lc, .int .i64 b, .int .i64 d] w fun e w' => e = .returned (.tuple #[.int .i64 (loadsR x b d).1.1, .int .i64 (loadsR x b d).1.2, .int .i64 (loadsR x b d).2]) ∧ Below w.heap.size w w' := by
  have HIN := hide hin
  clear hin
  unfold cutVal
  go_enter_defers Tryd.func20, Tryd.ntmps20
  go_wp2_with fail
  obtain ⟨w4, hw4⟩ : ∃ w4, ((((w.alloc (Obj.cells (cutCells x ra ba la rc bc lc).toArray 28)).alloc (Obj.cells #[Value.int IntKind.i64 b] 3)).alloc (Obj.cells #[Value.int IntKind.i64 d] 3)).alloc (Obj.cells #[Value.int IntKind.i64 0] 31)) = w4 := ⟨_, rfl⟩
  simp only [cutCells] at hw4
  rw [hw4]
  have hz4 : w4.heap.size = w.heap.size + 1 + 1 + 1 + 1 := by rw [← hw4]; simp
  have hb4 : Below w.heap.size w w4 := by rw [← hw4]; (repeat' first | (with_reducible assumption) | (with_reducible exact Below.refl _ _) | (with_reducible refine Below.drew ?_) | (with_reducible refine Below.setCell ?_ ?_ _) | (with_reducible refine Below.alloc ?_ ?_ _) | (refine Below.trans ?_ (Below.mono (by assumption) ?_)) | omega | (simp only [World.size_alloc] at *; omega))
  have b1 : Blk w4 (w.heap.size + 1) 3 [.int .i64 b] := by rw [← hw4]; exact (((Blk.new' _ [_] _ (by simp)).alloc _).alloc _)
  have b2 : Blk w4 (w.heap.size + 1 + 1) 3 [.int .i64 d] := by rw [← hw4]; exact (Blk.new' _ [_] _ (by simp)).alloc _
  have b3 : Blk w4 (w.heap.size + 1 + 1 + 1) 31 [.int .i64 0] := by rw [← hw4]; exact Blk.new' _ [_] _ (by simp)
  have HIN4 := hide (HIN.out.below hb4)
  clear hw4
  refine (open_any _ x ra ba la rc bc lc (Cut.isBoat x b && Cut.isDay x d) _ HIN4.out ?_).mono ?_
  · exact ⟨_, _, rfl, enters_of Tryd.func62 (by kernel_rfl) rfl, fun B M la lc w' hv hb _ _ hc => loadsE1_any b d (w.heap.size + 1) (w.heap.size + 1 + 1) w' hc (Cut.valid_of hv).b4 (b1.below hb (by omega)) (b2.below hb (by omega))⟩
  rintro e w5 ⟨hb5, h⟩
  have c1 := b1.below hb5 (by omega)
  have c2 := b2.below hb5 (by omega)
  have c3 := b3.below hb5 (by omega)
  have hb5' := hb4.trans (hb5.mono (show w.heap.size ≤ w4.heap.size by omega))
  rcases h with ⟨hv, rfl⟩ | ⟨hv, hbf, rfl⟩ | ⟨hv, hbt, B, M, la', lc', hB, hM, rfl, hcut⟩
  · refine leaves_refused (c3.cell 0 rfl) (c3.free 0) rfl (results3 rfl (read_tmp rfl) (read_tmp rfl) (read_cell1 (w.heap.size + 1 + 1 + 1) _ rfl ((c3.set 0 _).cell 0 rfl) (by kernel_rfl))) ⟨?_, hb5'.setCell (p := ⟨w.heap.size + 1 + 1 + 1, 0, none⟩) (show w.heap.size ≤ w.heap.size + 1 + 1 + 1 by omega) _⟩
    unfold loadsR
    rw [toldErr_bad hv]; rfl
  · refine leaves_refused (c3.cell 0 rfl) (c3.free 0) rfl (results3 rfl (read_tmp rfl) (read_tmp rfl) (read_cell1 (w.heap.size + 1 + 1 + 1) _ rfl ((c3.set 0 _).cell 0 rfl) (by kernel_rfl))) ⟨?_, hb5'.setCell (p := ⟨w.heap.size + 1 + 1 + 1, 0, none⟩) (show w.heap.size ≤ w.heap.size + 1 + 1 + 1 by omega) _⟩
    unfold loadsR
    rw [hbf, toldErr_range hv]; rfl
  · have HCut := hide hcut
    clear hcut
    go_wp2_with fail
    cases hcan : Cut.can x (Cut.every x) with
    | false =>
      refine (told_no w5 HCut.out hv hcan).mono ?_
      rintro e w6 ⟨rfl, hb6, hk6⟩
      have hb6' := hb6.below_lt (N' := w4.heap.size) hM hb5.size
      have d3 := c3.below hb6' (by omega)
      refine leaves_refused (d3.cell 0 rfl) (d3.free 0) rfl (results3 rfl (read_tmp rfl) (read_tmp rfl) (read_cell1 (w.heap.size + 1 + 1 + 1) _ rfl ((d3.set 0 _).cell 0 rfl) (by kernel_rfl))) ⟨?_, (hb5'.trans (hb6'.mono (by omega))).setCell (p := ⟨w.heap.size + 1 + 1 + 1, 0, none⟩) (show w.heap.size ≤ w.heap.size + 1 + 1 + 1 by omega) _⟩
      unfold loadsR
      rw [hbt, toldErr_clash hv hcan]; rfl
    | true =>
      refine (told_yes w5 HCut.out hv hcan).mono ?_
      rintro e w6 ⟨rfl, hb6, hk6⟩
      have hb6' := hb6.below_lt (N' := w4.heap.size) hM hb5.size
      have HC6 := hide (HCut.out.bel hb6 hk6)
      have d1 := c1.below hb6' (by omega)
      have d2 := c2.below hb6' (by omega)
      have d3 := c3.below hb6' (by omega)
      have hbb : Cut.isBoat x b = true ∧ Cut.isDay x d = true := by simpa using hbt
      obtain ⟨k, rfl, hk⟩ := boat_of hbb.1
      obtain ⟨j, rfl, hj⟩ := day_of hbb.2
      have hz6 := hb6'.size
      have hM6 := HC6.out.kept.lt
      have hfin : Hid (loadsR x k j = ((Cut.loads x k j 2, Cut.loads x k j 1), 0)) := by
        unfold loadsR
        rw [hbt, toldErr_ok hv hcan, if_pos rfl]; rfl
      have hbw6 : Hid (Below w.heap.size w w6) := hb5'.trans (hb6'.mono (by omega))
      clear hbb hbt b1 b2 b3 c1 c2 c3 hk6
      go_wp2_with fail
      have q1 : ∀ s : FCls (fun _ W => KBase w6 M x W), s.W.cell? ⟨w.heap.size + 1, 0, none⟩ = some (.int .i64 k) := fun s => (d1.bel s.ok.1 (by omega) (by omega)).cell 0 rfl
      have q2 : ∀ s : FCls (fun _ W => KBase w6 M x W), s.W.cell? ⟨w.heap.size + 1 + 1, 0, none⟩ = some (.int .i64 j) := fun s => (d2.bel s.ok.1 (by omega) (by omega)).cell 0 rfl
      refine wp_region_floats (D := fun _ W => KBase w6 M x W) [0, 1, 2, 3, 4, 5, 6, 7] [] 8 (by kernel_rfl) (by kernel_rfl) (fun i hi => by cases hi) ⟨(Bel.refl _ _ _).drew, HC6.out.kept.drew⟩ ?_
      iterate 3 (apply fl_cls; rfl; (intro s; first | (go_simp; rfl) | (go_simp; done)))
      refine fl_call 64 #[.pointer (some ⟨B, 0, none⟩), .int .i64 k, .int .i64 j, .int .i64 2] (v := .int .i64 (Cut.loads x k j 2)) rfl (fun s => ?_) (fun s => ?_) ?_
      · (first | (go_simp; rfl) | (go_simp; done))
      · refine (loads_any k j 2 s.W (HC6.out.bel s.ok.1 s.ok.2) hv hcan hj hk).mono ?_
        rintro e w' ⟨rfl, hb, hk⟩
        exact ⟨rfl, s.ok.1.trans (hb.mono s.ok.1.size), hk⟩
      iterate 3 (apply fl_cls; rfl; (intro s; first | (go_simp; rfl) | (go_simp; done)))
      refine fl_call 64 #[.pointer (some ⟨B, 0, none⟩), .int .i64 k, .int .i64 j, .int .i64 1] (v := .int .i64 (Cut.loads x k j 1)) rfl (fun s => ?_) (fun s => ?_) ?_
      · (first | (go_simp; rfl) | (go_simp; done))
      · refine (loads_any k j 1 s.W (HC6.out.bel s.ok.1 s.ok.2) hv hcan hj hk).mono ?_
        rintro e w' ⟨rfl, hb, hk⟩
        exact ⟨rfl, s.ok.1.trans (hb.mono s.ok.1.size), hk⟩
      refine fl_nil ?_
      clear q1 q2
      intro fl w7 hD _
      (simp only [flAct, dstOf, Act.put, List.foldl_nil, List.getElem?_toArray, List.getElem_toArray, List.getElem_cons_succ, List.getElem_cons_zero, List.setIfInBounds_toArray, List.set_cons_succ, List.set_cons_zero])
      obtain ⟨hb7, hk7⟩ := hD
      have e3 := d3.bel hb7 (by omega) (by omega)
      have r3 := e3.cell 0 rfl
      have r4 := e3.free 0
      have hlt3 := e3.lt
      simp only [List.drop_succ_cons, List.drop_zero]
      go_wp2
      refine leaves_idle rfl (results3 rfl (read_tmp rfl) (read_tmp rfl) (read_cell1 (w.heap.size + 1 + 1 + 1) (.int .i64 0) rfl ((e3.set 0 _).cell 0 rfl) (by kernel_rfl))) ⟨?_, (hbw6.out.trans (hb7.below_lt (by omega) (by omega))).setCell (p := ⟨w.heap.size + 1 + 1 + 1, 0, none⟩) (show w.heap.size ≤ w.heap.size + 1 + 1 + 1 by omega) _⟩
      rw [hfin.out]; rfl
end Go.Proofs.YtlkhjnpflohfeaaDoor

/- Contract of Floats. -/
namespace Go.Proofs.YtlkhjnpflohfeaaDoor
open Go Go.Proofs Go.RowKit

/-- What the region of Floats reads. -/
abbrev FloCls (n0 : Nat) (x : CutD) (ra ba la : Option Addr) (rc bc lc : Nat) (b n d : Int) (W : World) : Prop :=
  Blk W n0 28 (cutCells x ra ba la rc bc lc) ∧ Blk W (n0 + 1) 3 [.int .i64 b] ∧ Blk W (n0 + 1 + 1) 3 [.int .i64 n] ∧ Blk W (n0 + 1 + 1 + 1) 3 [.int .i64 d]

set_option maxHeartbeats 2000000 in
set_option maxRecDepth 100000 in
theorem Floats_any (x : CutD) (b n d : Int) (ra ba la : Option Addr) (rc bc lc : Nat) (w : World) (hin : CutIn w x ra ba la) :
    Calls Tryd.prog 18 #[cutVal x ra ba la rc bc lc, .int .i64 b, .int .i64 n, .int .i64 d] w fun e w' => e = .returned (.tuple #[.int .i64 (floatsR x b n d).1, .int .i64 (floatsR x b n d).2]) ∧ Below w.heap.size w w' := by
  have HIN := hide hin
  clear hin
  unfold cutVal
  go_enter_defers Tryd.func18, Tryd.ntmps18
  go_wp2_with fail
  obtain ⟨w5, hw5⟩ : ∃ w5, (((((w.alloc (Obj.cells (cutCells x ra ba la rc bc lc).toArray 28)).alloc (Obj.cells #[Value.int IntKind.i64 b] 3)).alloc (Obj.cells #[Value.int IntKind.i64 n] 3)).alloc (Obj.cells #[Value.int IntKind.i64 d] 3)).alloc (Obj.cells #[Value.int IntKind.i64 0] 31)) = w5 := ⟨_, rfl⟩
  simp only [cutCells] at hw5
  rw [hw5]
  have hz5 : w5.heap.size = w.heap.size + 1 + 1 + 1 + 1 + 1 := by rw [← hw5]; simp
  have hb5 : Below w.heap.size w w5 := by rw [← hw5]; (repeat' first | (with_reducible assumption) | (with_reducible exact Below.refl _ _) | (with_reducible refine Below.drew ?_) | (with_reducible refine Below.setCell ?_ ?_ _) | (with_reducible refine Below.alloc ?_ ?_ _) | (refine Below.trans ?_ (Below.mono (by assumption) ?_)) | omega | (simp only [World.size_alloc] at *; omega))
  have b0 : Blk w5 w.heap.size 28 (cutCells x ra ba la rc bc lc) := by rw [← hw5]; exact (((((Blk.new' _ (cutCells x ra ba la rc bc lc) _ rfl).alloc _).alloc _).alloc _).alloc _)
  have b1 : Blk w5 (w.heap.size + 1) 3 [.int .i64 b] := by rw [← hw5]; exact ((((Blk.new' _ [_] _ (by simp)).alloc _).alloc _).alloc _)
  have b2 : Blk w5 (w.heap.size + 1 + 1) 3 [.int .i64 n] := by rw [← hw5]; exact (((Blk.new' _ [_] _ (by simp)).alloc _).alloc _)
  have b3 : Blk w5 (w.heap.size + 1 + 1 + 1) 3 [.int .i64 d] := by rw [← hw5]; exact (Blk.new' _ [_] _ (by simp)).alloc _
  have b4 : Blk w5 (w.heap.size + 1 + 1 + 1 + 1) 31 [.int .i64 0] := by rw [← hw5]; exact Blk.new' _ [_] _ (by simp)
  have HIN5 := hide (HIN.out.below hb5)
  clear hw5
  have hcls : ∀ W, Below w5.heap.size w5 W → FloCls w.heap.size x ra ba la rc bc lc b n d W := fun W hW => ⟨b0.below hW (by omega), b1.below hW (by omega), b2.below hW (by omega), b3.below hW (by omega)⟩
  refine wp_region_spine (C := FloCls w.heap.size x ra ba la rc bc lc b n d) (QP := fun i c W => (i = 2 ∨ i = 3) ∧ c = [{ v := .iface 114 (.int .i64 (toldErr x (isB x b n d))), recovered := false }] ∧ toldErr x (isB x b n d) ≠ 0 ∧ Below w5.heap.size w5 W) [0, 1, 4, 5, 6] [2, 3, 7, 8, 9] (by kernel_rfl) (by kernel_rfl) (hcls _ (Below.refl _ _).drew) ?_ ?_
  · have q0 : ∀ s : Cls (FloCls w.heap.size x ra ba la rc bc lc b n d), s.W.cell? ⟨w.heap.size, 0, none⟩ = some (.int .i64 x.depth.1) := fun s => s.ok.1.cell 0 rfl
    have q1 : ∀ s : Cls (FloCls w.heap.size x ra ba la rc bc lc b n d), s.W.cell? ⟨w.heap.size, 1, none⟩ = some (.int .i64 x.depth.2) := fun s => s.ok.1.cell 1 rfl
    have q2 : ∀ s : Cls (FloCls w.heap.size x ra ba la rc bc lc b n d), s.W.cell? ⟨w.heap.size, 2, none⟩ = some (.int .i64 x.leak.1) := fun s => s.ok.1.cell 2 rfl
    have q3 : ∀ s : Cls (FloCls w.heap.size x ra ba la rc bc lc b n d), s.W.cell? ⟨w.heap.size, 3, none⟩ = some (.int .i64 x.leak.2) := fun s => s.ok.1.cell 3 rfl
    have q4 : ∀ s : Cls (FloCls w.heap.size x ra ba la rc bc lc b n d), s.W.cell? ⟨w.heap.size, 4, none⟩ = some (.slice ra x.rain.length rc) := fun s => s.ok.1.cell 4 rfl
    have q5 : ∀ s : Cls (FloCls w.heap.size x ra ba la rc bc lc b n d), s.W.cell? ⟨w.heap.size, 5, none⟩ = some (.int .i64 x.most) := fun s => s.ok.1.cell 5 rfl
    have q6 : ∀ s : Cls (FloCls w.heap.size x ra ba la rc bc lc b n d), s.W.cell? ⟨w.heap.size, 6, none⟩ = some (.slice ba x.boats.length bc) := fun s => s.ok.1.cell 6 rfl
    have q7 : ∀ s : Cls (FloCls w.heap.size x ra ba la rc bc lc b n d), s.W.cell? ⟨w.heap.size, 7, none⟩ = some (.slice la x.looks.length lc) := fun s => s.ok.1.cell 7 rfl
    have q8 : ∀ s : Cls (FloCls w.heap.size x ra ba la rc bc lc b n d), s.W.cell? ⟨w.heap.size + 1, 0, none⟩ = some (.int .i64 b) := fun s => s.ok.2.1.cell 0 rfl
    have q9 : ∀ s : Cls (FloCls w.heap.size x ra ba la rc bc lc b n d), s.W.cell? ⟨w.heap.size + 1 + 1, 0, none⟩ = some (.int .i64 n) := fun s => s.ok.2.2.1.cell 0 rfl
    have q10 : ∀ s : Cls (FloCls w.heap.size x ra ba la rc bc lc b n d), s.W.cell? ⟨w.heap.size + 1 + 1 + 1, 0, none⟩ = some (.int .i64 d) := fun s => s.ok.2.2.2.cell 0 rfl
    iterate 5 (apply pan_cls; rfl; (intro s; first | (go_simp; rfl) | (go_simp; done)))
    refine pan_nil ?_
    clear q0 q1 q2 q3 q4 q5 q6 q7 q8 q9 q10
    simp only [Act.put, List.getElem_toArray, List.getElem_cons_succ, List.getElem_cons_zero, List.setIfInBounds_toArray, List.set_cons_succ, List.set_cons_zero]
    refine sp_call 43 #[cutVal x ra ba la rc bc lc, .func (.func 57) #[] #[.pointer (some ⟨w.heap.size + 1, 0, none⟩), .pointer (some ⟨w.heap.size + 1 + 1, 0, none⟩), .pointer (some ⟨w.heap.size + 1 + 1 + 1, 0, none⟩)]] rfl ?_ ?_
    · (first | (go_simp; rfl) | (go_simp; done))
    refine open_sp _ x ra ba la rc bc lc (isB x b n d) _ (HIN5.out.below (Below.refl _ _).drew) ?_ ?_ ?_
    · refine ⟨_, _, rfl, enters_of Tryd.func57 (by kernel_rfl) rfl, fun B M la lc w' hv hb _ _ hc => ?_⟩
      exact floats1_any b n d (w.heap.size + 1) (w.heap.size + 1 + 1) (w.heap.size + 1 + 1 + 1) w' hc (Cut.valid_of hv).b4 (b1.below (below_dr hb) (by show _ < w5.heap.size; omega)) (b2.below (below_dr hb) (by show _ < w5.heap.size; omega)) (b3.below (below_dr hb) (by show _ < w5.heap.size; omega))
    · rintro n w' rfl hn hb
      exact ⟨.inl rfl, rfl, hn, below_dr hb⟩
    intro B M la' lc' w6 hv hday hB hM hb6' hcut
    have hb6 := below_dr hb6'
    clear hb6'
    refine ⟨hcls _ hb6, ?_⟩
    refine sp_call 46 #[.pointer (some ⟨B, 0, none⟩)] rfl ?_ ?_
    · (first | (go_simp; rfl) | (go_simp; done))
    refine told_sp w6 hcut hv ?_ ?_
    · intro w7 he hb7
      rw [hday, he]
      exact ⟨.inr rfl, rfl, by decide, hb6.trans (hb7.below_lt hM (by exact hb6.size))⟩
    intro w7 hcan hb7 hcut7
    have hb7' : Below w5.heap.size w5 w7 := hb6.trans (hb7.below_lt hM hb6.size)
    refine ⟨hcls _ hb7', ?_⟩
    have hbb : Cut.isLoads x b n = true ∧ Cut.isDay x d = true := by simpa [isB] using hday
    obtain ⟨k, m, rfl, hk, rfl, hm, hm10⟩ := loads_of hv hbb.1
    obtain ⟨j, rfl, hj⟩ := day_of hbb.2
    refine sp_call 59 #[.pointer (some ⟨B, 0, none⟩), .int .i64 k, .int .i64 m, .int .i64 j] rfl ?_ ?_
    · (first | (go_simp; rfl) | (go_simp; done))
    refine (floats_any k m j w7 hcut7 hv hcan hj hk ⟨by omega, by omega⟩).mono ?_
    rintro e w8 ⟨rfl, hb8, hk8⟩
    have hb8' : Below w5.heap.size w5 w8 := hb7'.trans (hb8.below_lt hM hb7'.size)
    have e4 := b4.below hb8' (by omega)
    refine ⟨hcls _ hb8', ?_⟩
    have r4 := e4.cell 0 rfl
    have r5 := e4.free 0
    refine sp_val (w' := w8) (v := .int .i64 (Cut.floats (Cut.boatAt x.boats k) m (Cut.water x j))) rfl ?_ (hcls _ hb8') ?_
    · (first | (go_simp; rfl) | (go_simp; done))
    refine sp_skip (w' := w8.setCell ⟨w.heap.size + 1 + 1 + 1 + 1, 0, none⟩ (.int .i64 0)) rfl ?_ ?_ ?_
    · (first | (go_simp; rfl) | (go_simp; done))
    · have := hcls _ hb8'
      exact ⟨this.1.other (by omega) _ _, this.2.1.other (by omega) _ _, this.2.2.1.other (by omega) _ _, this.2.2.2.other (by omega) _ _⟩
    refine sp_nil ?_
    simp only [Act.put, List.getElem_toArray, List.getElem_cons_succ, List.getElem_cons_zero, List.setIfInBounds_toArray, List.set_cons_succ, List.set_cons_zero]
    have hfin : Hid (floatsR x k m j = (Cut.floats (Cut.boatAt x.boats k) m (Cut.water x j), 0)) := by
      unfold floatsR
      rw [hday, toldErr_ok hv hcan, if_pos rfl]; rfl
    have s3 := e4.set 0 (.int .i64 0)
    have hbf := (hb5.trans (hb8'.mono (by omega))).setCell (p := ⟨w.heap.size + 1 + 1 + 1 + 1, 0, none⟩) (show w.heap.size ≤ w.heap.size + 1 + 1 + 1 + 1 by omega) (.int .i64 0)
    clear r4 r5 b0 b1 b2 b3 b4 hcls
    go_wp2
    refine leaves_idle rfl (results2 rfl (read_tmp rfl) (read_cell1 (w.heap.size + 1 + 1 + 1 + 1) (.int .i64 0) rfl (s3.cell 0 rfl) (by kernel_rfl))) ⟨?_, hbf⟩
    rw [hfin.out]; rfl
  · rintro i c w' a' ⟨hi, rfl, hne, hb⟩ hdef hsl
    have hb' := hb5.trans (hb.mono (by omega))
    have c4 := b4.below hb (by omega)
    have t9 := hsl 9 (by rcases hi with rfl | rfl <;> kernel_rfl)
    simp only [Exit.then]
    show Leaves Tryd.prog Tryd.f18 a'.tmps _ a'.defers (.panicking _) w'
    rw [hdef]
    have t8 := hsl 8 (by rcases hi with rfl | rfl <;> kernel_rfl)
    refine leaves_refused (c4.cell 0 rfl) (c4.free 0) rfl (results2 rfl (read_tmp t8) (read_cell1 (w.heap.size + 1 + 1 + 1 + 1) _ (by rw [t9]; rfl) ((c4.set 0 _).cell 0 rfl) (by kernel_rfl))) ⟨?_, hb'.setCell (p := ⟨w.heap.size + 1 + 1 + 1 + 1, 0, none⟩) (show w.heap.size ≤ w.heap.size + 1 + 1 + 1 + 1 by omega) _⟩
    unfold floatsR
    rw [if_neg hne]; rfl
end Go.Proofs.YtlkhjnpflohfeaaDoor

/- The contract of sample. -/
namespace Go.Proofs.YtlkhjnpflohfeaaDoor
open Go Go.Proofs Go.RowKit

theorem blk_setRow {w : World} {g : Nat} {T : TypeId} {cs : List Value} (h : Blk w g T cs) (ds : List Value) : Blk (w.setRow g ds.toArray) g T ds := setRow_heap w g _ _ T (0, 0) h
theorem heap_setRow_other (w : World) (g k : Nat) (cs : Array Value) (h : k ≠ g) : (w.setRow g cs).heap[k]? = w.heap[k]? := by
  unfold World.setRow; simp [Array.getElem?_modify, Ne.symm h]
theorem size_setRow (w : World) (g : Nat) (cs : Array Value) : (w.setRow g cs).heap.size = w.heap.size := by unfold World.setRow; simp
theorem blk_setRow_other {w : World} {g b : Nat} {T : TypeId} {cs : List Value} (h : Blk w b T cs) (hn : b ≠ g) (ds : Array Value) : Blk (w.setRow g ds) b T cs := (heap_setRow_other w g b ds hn).trans h
theorem below_setRow {N : Nat} {w w' : World} (h : Below N w w') (g : Nat) (hg : N ≤ g) (cs : Array Value) : Below N w (w'.setRow g cs) :=
  ⟨h.os, h.tape, h.output, by rw [size_setRow]; exact h.size, fun k hk => (heap_setRow_other w' g k cs (by omega)).trans (h.block k hk)⟩

/-- The cut of the document's examples, with looks. -/
def sampleD (ls : List Look) : CutD := ⟨(10, 12), (1, 2), [(3, 5), (0, 0), (0, 4), (8, 9)], 20, [⟨(6, 7), 3, 4⟩, ⟨(13, 13), 2, 2⟩], ls⟩

set_option maxHeartbeats 1000000 in
set_option maxRecDepth 100000 in
theorem sample_any (ls : List Look) (la : Option Addr) (lc : Nat) (w : World) (hl : ElemsR w la ls.length 3 (lookCell ls)) (hd : Dry w) :
    Calls Tryd.prog 41 #[.slice la ls.length lc] w fun e w' => ∃ ra ba, e = .returned (cutVal (sampleD ls) ra ba la 4 2 lc) ∧ Below w.heap.size w w' ∧ CutIn w' (sampleD ls) ra ba la := by
  have HL := hide hl
  have HD := hide hd
  clear hl hd
  go_enter Tryd.func41, Tryd.ntmps41
  go_wp2_with fail
  refine (lawSpan_any _ _ _).mono ?_
  rintro e w1 ⟨rfl, hb⟩
  have z1 : Blk w1 w.heap.size 28 [.int .i64 0, .int .i64 0, .int .i64 0, .int .i64 0, .slice none 0 0, .int .i64 0, .slice none 0 0, .slice none 0 0] := Blk.below (Blk.new _ _ _) hb (by simp)
  have b1 : Below w.heap.size w w1 := by (repeat' first | (with_reducible assumption) | (with_reducible exact Below.refl _ _) | (with_reducible refine Below.drew ?_) | (with_reducible refine Below.setCell ?_ ?_ _) | (with_reducible refine Below.alloc ?_ ?_ _) | (refine Below.trans ?_ (Below.mono (by assumption) ?_)) | omega | (simp only [World.size_alloc] at *; omega))
  have l1 := z1.lt
  clear hb
  go_wp2_with fail
  refine (lawSpan_any _ _ _).mono ?_
  rintro e w2 ⟨rfl, hb⟩
  have z2 := z1.below hb l1
  have b2 := b1.trans (hb.mono b1.size)
  have l2 := z2.lt
  clear hb z1 b1 l1
  go_wp2_with fail
  refine (lawSpan_any _ _ _).mono ?_
  rintro e w3 ⟨rfl, hb⟩
  have z3 := z2.below hb l2
  have b3 := b2.trans (hb.mono b2.size)
  have l3 := z3.lt
  clear hb z2 b2 l2
  go_wp2_with fail
  refine (lawSpan_any _ _ _).mono ?_
  rintro e w4 ⟨rfl, hb⟩
  have z4 := z3.below hb l3
  have b4 := b3.trans (hb.mono b3.size)
  have l4 := z4.lt
  clear hb z3 b3 l3
  go_wp2_with fail
  refine (lawSpan_any _ _ _).mono ?_
  rintro e w5 ⟨rfl, hb⟩
  have z5 := z4.below hb l4
  have b5 := b4.trans (hb.mono b4.size)
  have l5 := z5.lt
  clear hb z4 b4 l4
  go_wp2_with fail
  refine (lawSpan_any _ _ _).mono ?_
  rintro e w6 ⟨rfl, hb⟩
  have z6 := z5.below hb l5
  have b6 := b5.trans (hb.mono b5.size)
  have l6 := z6.lt
  clear hb z5 b5 l5
  go_wp2_with fail
  refine (lawSpan_any _ _ _).mono ?_
  rintro e w7 ⟨rfl, hb⟩
  have hz6 := l6
  have r7 : Blk w7 w6.heap.size 23 [.int .i64 3, .int .i64 5, .int .i64 0, .int .i64 0, .int .i64 0, .int .i64 4, .int .i64 8, .int .i64 9] := Blk.below (Blk.new _ _ _) hb (by simp)
  have z7 := (z6.alloc _).below hb (by simp; omega)
  have b7 : Below w.heap.size w w7 := by (repeat' first | (with_reducible assumption) | (with_reducible exact Below.refl _ _) | (with_reducible refine Below.drew ?_) | (with_reducible refine Below.setCell ?_ ?_ _) | (with_reducible refine Below.alloc ?_ ?_ _) | (refine Below.trans ?_ (Below.mono (by assumption) ?_)) | omega | (simp only [World.size_alloc] at *; omega))
  have l7 := z7.lt
  clear hb
  go_wp2_with fail
  refine (lawSpan_any _ _ _).mono ?_
  rintro e w8 ⟨rfl, hb⟩
  have z8 := z7.below hb l7
  have b8 := b7.trans (hb.mono b7.size)
  have r8 := r7.below hb r7.lt
  have lr8 := r8.lt
  have l8 := z8.lt
  clear hb z7 b7 l7 r7 z6 b6 l6
  have hb8 := hide b8
  go_wp2_with (refine wpList_store_row rfl 28 (.tmp 2) (.tmp 16) rfl w.heap.size _ rfl rfl _ _ (z8.alloc _) (by kernel_rfl) rfl (by first | rfl | simp [Value.oneCell']) ?_)
  have rr := blk_setRow_other (r8.alloc (Obj.cells #[.int .i64 6, .int .i64 7, .int .i64 3, .int .i64 4, .int .i64 13, .int .i64 13, .int .i64 2, .int .i64 2] 51)) (show w6.heap.size ≠ w.heap.size by omega) (cutCells (sampleD ls) (some ⟨w6.heap.size, 0, none⟩) (some ⟨w8.heap.size, 0, none⟩) la 4 2 lc).toArray
  have rb := blk_setRow_other (Blk.new w8 [.int .i64 6, .int .i64 7, .int .i64 3, .int .i64 4, .int .i64 13, .int .i64 13, .int .i64 2, .int .i64 2] 51) (show w8.heap.size ≠ w.heap.size by omega) (cutCells (sampleD ls) (some ⟨w6.heap.size, 0, none⟩) (some ⟨w8.heap.size, 0, none⟩) la 4 2 lc).toArray
  have zz := blk_setRow (z8.alloc (Obj.cells #[.int .i64 6, .int .i64 7, .int .i64 3, .int .i64 4, .int .i64 13, .int .i64 13, .int .i64 2, .int .i64 2] 51)) (cutCells (sampleD ls) (some ⟨w6.heap.size, 0, none⟩) (some ⟨w8.heap.size, 0, none⟩) la 4 2 lc)
  have bb := below_setRow (hb8.out.alloc (by omega) (Obj.cells #[.int .i64 6, .int .i64 7, .int .i64 3, .int .i64 4, .int .i64 13, .int .i64 13, .int .i64 2, .int .i64 2] 51)) w.heap.size (by omega) (cutCells (sampleD ls) (some ⟨w6.heap.size, 0, none⟩) (some ⟨w8.heap.size, 0, none⟩) la 4 2 lc).toArray
  clear z8 r8 b8 hb8
  have hW : ∀ u : List Value, Obj.cells u.toArray 51 (0, 0) = Obj.cells u.toArray 51 := fun _ => rfl
  generalize hg : (w8.alloc (Obj.cells #[.int .i64 6, .int .i64 7, .int .i64 3, .int .i64 4, .int .i64 13, .int .i64 13, .int .i64 2, .int .i64 2] 51)).setRow w.heap.size (cutCells (sampleD ls) (some ⟨w6.heap.size, 0, none⟩) (some ⟨w8.heap.size, 0, none⟩) la 4 2 lc).toArray = W at zz bb rr rb
  have hg' := hg
  simp only [cutCells, sampleD, List.length_cons, List.length_nil] at hg'
  rw [show (0 + 1 + 1 + 1 + 1 : Nat) = 4 from rfl] at hg'
  rw [hg']
  clear hg hg'
  have hlt := zz.lt
  have c0 := zz.cell 0 rfl
  have c1 := zz.cell 1 rfl
  have c2 := zz.cell 2 rfl
  have c3 := zz.cell 3 rfl
  have c4 := zz.cell 4 rfl
  have c5 := zz.cell 5 rfl
  have c6 := zz.cell 6 rfl
  have c7 := zz.cell 7 rfl
  refine bodyPost_ret (v := cutVal (sampleD ls) (some ⟨w6.heap.size, 0, none⟩) (some ⟨w8.heap.size, 0, none⟩) la 4 2 lc) (by unfold cutVal; simp [results, Tryd.results41, go_sem, *]) rfl ⟨_, _, rfl, bb, ?_, ?_, HL.out.below bb, HD.out.below bb⟩
  · refine .inr ⟨w6.heap.size, 0, rfl, rr.lt, fun i j hi hj => ?_⟩
    have hi' : i < 4 := hi
    have : (i = 0 ∨ i = 1 ∨ i = 2 ∨ i = 3) ∧ (j = 0 ∨ j = 1) := by omega
    obtain ⟨rfl | rfl | rfl | rfl, rfl | rfl⟩ := this
    all_goals exact rr.cell _ rfl
  · refine .inr ⟨w8.heap.size, 0, rfl, rb.lt, fun i j hi hj => ?_⟩
    have hi' : i < 2 := hi
    have : (i = 0 ∨ i = 1) ∧ (j = 0 ∨ j = 1 ∨ j = 2 ∨ j = 3) := by omega
    obtain ⟨rfl | rfl, rfl | rfl | rfl | rfl⟩ := this
    all_goals exact rb.cell _ rfl
end Go.Proofs.YtlkhjnpflohfeaaDoor

/- Contract of the insertion sort of Go's library, of a slice of uint. -/
namespace Go.Proofs.YtlkhjnpflohfeaaDoor
open Go Go.Proofs Go.RowKit

def uCells (l : List Nat) : List Value := l.map fun (v : Nat) => .int .u64 (v : Int)
theorem uCells_get (l : List Nat) (i : Nat) (h : i < l.length) : (uCells l)[i]? = some (.int .u64 (Srt.at' l i : Nat)) := by simp [uCells, Srt.at', h]
theorem uCells_length (l : List Nat) : (uCells l).length = l.length := by simp [uCells]
theorem uCells_swap (l : List Nat) (i j : Nat) : ((uCells l).set i (.int .u64 (Srt.at' l j : Nat))).set j (.int .u64 (Srt.at' l i : Nat)) = uCells (Srt.swap l i j) := by
  simp [uCells, Srt.swap, List.map_set]
/-- The cells of a list, and those behind it. -/
def dCells (tl : List Value) (l : List Nat) : List Value := uCells l ++ tl
theorem dCells_get (tl : List Value) (l : List Nat) (i : Nat) (h : i < l.length) : (dCells tl l)[i]? = some (.int .u64 (Srt.at' l i : Nat)) := by
  unfold dCells; rw [List.getElem?_append_left (by rw [uCells_length]; exact h)]; exact uCells_get l i h
theorem dCells_swap (tl : List Value) (l : List Nat) (i j : Nat) (hi : i < l.length) (hj : j < l.length) : ((dCells tl l).set i (.int .u64 (Srt.at' l j : Nat))).set j (.int .u64 (Srt.at' l i : Nat)) = dCells tl (Srt.swap l i j) := by
  unfold dCells
  rw [List.set_append_left _ _ (by rw [uCells_length]; exact hi), List.set_append_left _ _ (by simp [uCells_length]; exact hj), uCells_swap]
/-- What is asked of the comparing function. -/
structure CmpOk (g : FuncId) (c : Nat → Nat → Int) (D : Nat → Prop) : Prop where
  enters : ∀ args w, (callFunc g args).run Tryd.prog w = .ok (.enter g args) w
  calls : ∀ a b, D a → D b → ∀ W, Calls Tryd.prog g #[.int .u64 (a : Nat), .int .u64 (b : Nat)] W fun e W' => e = .returned (.int .i64 (c a b)) ∧ W = W'

section
variable {g : FuncId} {c : Nat → Nat → Int} {D : Nat → Prop}
set_option maxHeartbeats 2000000 in
set_option maxRecDepth 100000 in
theorem insertion_any (hc : CmpOk g c D) (tl : List Value) (l : List Nat) (A cp a b : Nat) (w : World) (hl : Blk w A 87 (dCells tl l)) (hD : Srt.All D l) (hab : a < b) (hb : b ≤ l.length) (hn : l.length ≤ 100000) :
    Calls Tryd.prog 97 #[.slice (some ⟨A, 0, none⟩) l.length cp, .int .i64 a, .int .i64 b, .func (.func g) #[] #[]] w fun e w' => e = .returned (.tuple #[]) ∧ Bel A w.heap.size w w' ∧ Blk w' A 87 (dCells tl (Srt.insertion c l a b)) := by
  have HC := hide hc
  have HD := hide hD
  clear hc hD
  have hA := hl.lt
  go_enter Tryd.func97, Tryd.ntmps97
  go_wp2_with fail
  go_loopw [8, 9, 12, 13, 14, 15, 16, 17, 18, 19, 20, 21, 22, 23, 24, 25, 26, 27, 28, 29, 30, 31, 32, 33, 34, 35, 36, 37, 38, 39, 40, 41, 42, 43, 44, 45, 46, 47, 48, 49, 50, 51, 52] (fun v8 _ _ _ _ _ _ _ _ _ _ _ _ _ _ _ _ _ _ _ _ _ _ _ _ _ _ _ _ _ _ _ _ _ _ _ _ _ _ _ _ _ _ wr => ∃ m : Nat, a + 1 + m ≤ b ∧ v8 = .int .i64 ((a + 1 + m : Nat) : Int) ∧ Bel A w.heap.size w wr ∧ Hid (Blk wr A 87 (dCells tl (Srt.insTo c a l m)))) (fun v8 _ _ _ _ _ _ _ _ _ _ _ _ _ _ _ _ _ _ _ _ _ _ _ _ _ _ _ _ _ _ _ _ _ _ _ _ _ _ _ _ _ _ _ => b - (intOf v8).toNat)
  case atStart => exact ⟨0, by omega, by go_num, Bel.refl _ _ _, hl⟩
  case round =>
    obtain ⟨m, hm, rfl, hB, hbl⟩ := hrel
    obtain ⟨i, hi⟩ : ∃ i : Nat, i = a + 1 + m := ⟨_, rfl⟩
    have hlen := Srt.insTo_length c a l m
    have hall := Srt.All.insTo c a l HD.out m (by omega)
    rw [← hi]
    have HI := hide hi
    have hia : a + 1 ≤ i := by omega
    have HE := hide hlen
    have HAl := hide hall
    clear hi hlen hall
    by_cases hlt : i < b
    · have hlti : (i : Int) < b := by omega
      go_wp2_with fail
      go_loopw [9, 18, 19, 20, 21, 22, 23, 24, 25, 26, 27, 28, 29, 30, 31, 32, 33, 34, 35, 36, 37, 38, 39, 40, 41, 42, 43, 44, 45, 46, 47, 48, 49, 50, 51, 52] (fun v9 _ _ _ _ _ _ _ _ _ _ _ _ _ _ _ _ _ _ _ _ _ _ _ _ _ _ _ _ _ _ _ _ _ _ _ wr => ∃ (j : Nat) (cur : List Nat), a ≤ j ∧ j ≤ i ∧ v9 = .int .i64 j ∧ Bel A w.heap.size w wr ∧ Hid (Blk wr A 87 (dCells tl cur)) ∧ Hid (cur.length = l.length ∧ Srt.All D cur ∧ Srt.insDown c a cur (j - a) = Srt.insTo c a l (m + 1))) (fun v9 _ _ _ _ _ _ _ _ _ _ _ _ _ _ _ _ _ _ _ _ _ _ _ _ _ _ _ _ _ _ _ _ _ _ _ _ => (intOf v9).toNat - a)
      case atStart => exact ⟨i, _, by omega, Nat.le_refl _, rfl, hB, hbl.out, HE.out, HAl.out, by have := HI.out; rw [show i - a = m + 1 by omega]; rfl⟩
      case round =>
        clear hbl hB
        obtain ⟨j, cur, haj, hji, rfl, hB, hbl, hcur⟩ := hrel
        by_cases hj : a < j
        · have hlen := hcur.out.1
          have g0 := hbl.out.cell j (dCells_get tl cur j (by omega))
          have g1 := hbl.out.cell (j - 1) (dCells_get tl cur (j - 1) (by omega))
          have hj0 : (a : Int) < j := by omega
          have hjl : j < l.length := by omega
          clear hlen
          by_cases hlt2 : c (Srt.at' cur j) (Srt.at' cur (j - 1)) < 0
          · have heg := HC.out.enters
            go_wp2_with fail
            have hw1 : IntKind.i64.wrap ((j : Int) - 1) = (j : Int) - 1 := IntWalk.i64_in _ (by omega)
            have hw2 : (0 : Int) ≤ (j : Int) - 1 := by omega
            have hw3 : (j : Int) - 1 < l.length := by omega
            have hw4 : ((j : Int) - 1).toNat = j - 1 := by omega
            have hw5 : (j : Int) < l.length := by omega
            have hw6 : (1 : Int) ≤ j := by omega
            have HCall : Hid (∀ n, Calls Tryd.prog g #[.int .u64 (Srt.at' cur j : Nat), .int .u64 (Srt.at' cur (j - 1) : Nat)] (wr.drewN n) fun e w' => e = .returned (.int .i64 (c (Srt.at' cur j) (Srt.at' cur (j - 1)))) ∧ w' = wr.drewN n) := fun n =>
              (HC.out.calls _ _ (hcur.out.2.1 j (by have := hcur.out.1; omega)) (hcur.out.2.1 (j - 1) (by have := hcur.out.1; omega)) _).mono fun e W' ⟨he, hw⟩ => ⟨he, hw.symm⟩
            go_quiet ((exact Calls.quiet_of_same (HCall.out _)))
            clear heg
            go_wp2_with fail
            have h0 := hbl.out.free j
            have h1 := hbl.out.free (j - 1)
            have hAl := hbl.out.lt
            go_region
            clear hw1 hw2 hw3 hw4 hw5 hw6 h0 h1 g0 g1
            go_wp2
            have hsw := ((hbl.out.drewN (nq + 1)).set j (.int .u64 (Srt.at' cur (j - 1) : Nat))).set (j - 1) (.int .u64 (Srt.at' cur j : Nat))
            rw [dCells_swap tl cur j (j - 1) (by have := hcur.out.1; omega) (by have := hcur.out.1; omega)] at hsw
            have hlen := hcur.out.1
            refine ⟨⟨j - 1, Srt.swap cur j (j - 1), by omega, by omega, by rw [show ((j - 1 : Nat) : Int) = (j : Int) - 1 by omega], ?_, hsw, by rw [Srt.swap_length]; exact hlen, hcur.out.2.1.swap (by omega) (by omega), ?_⟩, by simp [intOf]; omega⟩
            · exact ((hB.drewN _).setCell (p := ⟨A, j, none⟩) (.inr rfl) _).setCell (p := ⟨A, j - 1, none⟩) (.inr rfl) _
            · have := hcur.out.2.2
              obtain ⟨q, hq⟩ : ∃ q, j - a = q + 1 := ⟨j - a - 1, by omega⟩
              rw [hq] at this
              unfold Srt.insDown at this
              rw [show a + (q + 1) = j by omega, show a + q = j - 1 by omega, if_pos hlt2] at this
              rw [show j - 1 - a = q by omega]; exact this
          · have hge : (c (Srt.at' cur j) (Srt.at' cur (j - 1)) < 0) = False := by simpa using hlt2
            have hdec : decide (c (Srt.at' cur j) (Srt.at' cur (j - 1)) < 0) = false := by simpa using hlt2
            have heg := HC.out.enters
            go_wp2_with fail
            have hw1 : IntKind.i64.wrap ((j : Int) - 1) = (j : Int) - 1 := IntWalk.i64_in _ (by omega)
            have hw2 : (0 : Int) ≤ (j : Int) - 1 := by omega
            have hw3 : (j : Int) - 1 < l.length := by omega
            have hw4 : ((j : Int) - 1).toNat = j - 1 := by omega
            have hw5 : (j : Int) < l.length := by omega
            have hw6 : (1 : Int) ≤ j := by omega
            have HCall : Hid (∀ n, Calls Tryd.prog g #[.int .u64 (Srt.at' cur j : Nat), .int .u64 (Srt.at' cur (j - 1) : Nat)] (wr.drewN n) fun e w' => e = .returned (.int .i64 (c (Srt.at' cur j) (Srt.at' cur (j - 1)))) ∧ w' = wr.drewN n) := fun n =>
              (HC.out.calls _ _ (hcur.out.2.1 j (by have := hcur.out.1; omega)) (hcur.out.2.1 (j - 1) (by have := hcur.out.1; omega)) _).mono fun e W' ⟨he, hw⟩ => ⟨he, hw.symm⟩
            go_quiet ((exact Calls.quiet_of_same (HCall.out _)))
            clear hw1 hw2 hw3 hw4 hw5 hw6 heg g0 g1
            go_wp2
            have hfin : cur = Srt.insTo c a l (m + 1) := by
              have := hcur.out.2.2
              obtain ⟨q, hq⟩ : ∃ q, j - a = q + 1 := ⟨j - a - 1, by omega⟩
              rw [hq] at this
              unfold Srt.insDown at this
              rw [show a + (q + 1) = j by omega, show a + q = j - 1 by omega, if_neg (by omega)] at this
              exact this
            have hmi := HI.out
            exact ⟨⟨m + 1, by omega, by rw [show ((a + 1 + (m + 1) : Nat) : Int) = (i : Int) + 1 by omega], hB.drewN _, by rw [← hfin]; exact hbl.out.drewN _⟩, by simp [intOf]; omega⟩
        · obtain rfl : j = a := by omega
          have hd : decide ((j : Int) < j) = false := by simp
          go_wp2_with fail
          go_quiet (fail)
          go_wp2
          have hfin : cur = Srt.insTo c j l (m + 1) := by
            have := hcur.out.2.2
            rw [Nat.sub_self] at this; exact this
          have hmi := HI.out
          exact ⟨⟨m + 1, by omega, by rw [show ((j + 1 + (m + 1) : Nat) : Int) = (i : Int) + 1 by omega], hB.drewN _, by rw [← hfin]; exact hbl.out.drewN _⟩, by simp [intOf]; omega⟩
    · have hge : ¬ (i : Int) < b := by omega
      go_wp2
      go_end0
      have hmi := HI.out
      refine ⟨rfl, hB, ?_⟩
      unfold Srt.insertion
      rw [show b - a - 1 = m by omega]; exact hbl.out
end
end Go.Proofs.YtlkhjnpflohfeaaDoor

/- Contracts of math/bits' OnesCount64, OnesCount, and of the function that compares two sets by size. -/
namespace Go.Proofs.YtlkhjnpflohfeaaDoor
open Go Go.Proofs Go.RowKit

set_option maxHeartbeats 4000000 in
set_option maxRecDepth 100000 in
theorem ones64_any (v : Nat) (hv : v < 1024) (w : World) : Calls Tryd.prog 94 #[.int .u64 v] w fun e w' => e = .returned (.int .i64 (Srt.popc v : Nat)) ∧ w = w' := by
  go_enter Tryd.func94, Tryd.ntmps94
  go_wp2
  go_ret
  refine ⟨ret_int ?_, rfl⟩
  revert hv
  revert v
  decide +kernel
set_option maxHeartbeats 400000 in
theorem ones_any (v : Nat) (hv : v < 1024) (w : World) : Calls Tryd.prog 75 #[.int .u64 v] w fun e w' => e = .returned (.int .i64 (Srt.popc v : Nat)) ∧ w = w' := by
  go_enter Tryd.func75, Tryd.ntmps75
  go_wp2_with (go_at_call 94; refine (ones64_any v hv _).mono ?_; rintro e w' ⟨rfl, rfl⟩)
  go_ret
  exact ⟨rfl, rfl⟩
set_option maxHeartbeats 400000 in
theorem bySize_any (a b : Nat) (ha : a < 1024) (hb : b < 1024) (w : World) : Calls Tryd.prog 74 #[.int .u64 a, .int .u64 b] w fun e w' => e = .returned (.int .i64 (Srt.bySize a b)) ∧ w = w' := by
  have h1 := Srt.popc_le a
  have h2 := Srt.popc_le b
  have HS : Hid (Srt.bySize a b = (Srt.popc a : Int) - (Srt.popc b : Int)) := rfl
  go_enter Tryd.func74, Tryd.ntmps74
  go_wp2_with fail
  refine (ones_any a ha _).mono ?_
  rintro e w' ⟨rfl, rfl⟩
  go_wp2_with fail
  refine (ones_any b hb _).mono ?_
  rintro e w' ⟨rfl, rfl⟩
  go_wp2
  go_ret
  exact ⟨ret_int (by rw [HS.out]), rfl⟩
theorem bySize_ok : CmpOk 74 Srt.bySize (fun v => v < 1024) := ⟨enters_of Tryd.func74 (by kernel_rfl) rfl, fun a b ha hb W => bySize_any a b ha hb W⟩
end Go.Proofs.YtlkhjnpflohfeaaDoor

/- Contract of Go's stable sort, of fewer than 20 sets. -/
namespace Go.Proofs.YtlkhjnpflohfeaaDoor
open Go Go.Proofs Go.RowKit

/-- What is asked of the stable sort of n sets: it leaves the list srt. -/
def StableOk (n : Nat) (l srt : List Nat) : Prop := ∀ (tl : List Value) (A cp : Nat) (w : World), l.length = n → n ≤ cp → cp ≤ n + tl.length → Dry w → 0 ≠ A → Blk w A 87 (dCells tl l) →
  Calls Tryd.prog 92 #[.slice (some ⟨A, 0, none⟩) n cp, .int .i64 n, .func (.func 74) #[] #[]] w fun e w' => e = .returned (.tuple #[]) ∧ Bel A w.heap.size w w' ∧ ∃ tl', Blk w' A 87 (dCells tl' srt)

set_option maxHeartbeats 1000000 in
set_option maxRecDepth 100000 in
theorem stable_small (n : Nat) (l : List Nat) (hD : Srt.All (fun v => v < 1024) l) (h1 : 1 ≤ n) (h20 : n < 20) : StableOk n l (Srt.insertion Srt.bySize l 0 n) := by
  intro tl A cp w hl _ _ _ _ hbl
  subst hl
  have HD := hide hD
  have HB := hide hbl
  clear hD hbl
  go_enter Tryd.func92, Tryd.ntmps92
  go_wp2
  refine wp_loop_rounds 1 ?_
  rw [rounds_succ]
  have hgt : ¬ (20 : Int) ≤ l.length := by omega
  go_wp2_with fail
  refine (insertion_any bySize_ok tl l A cp 0 l.length _ HB.out HD.out (by omega) (Nat.le_refl _) (by omega)).mono ?_
  rintro e w' ⟨rfl, hb, hbl⟩
  go_wp2
  refine wp_loop_rounds 1 ?_
  rw [rounds_succ]
  have hgt2 : ¬ (20 : Int) < l.length := by omega
  go_wp2
  go_end0
  exact ⟨rfl, hb, tl, hbl⟩

set_option maxHeartbeats 400000 in
theorem sortStable_any (n : Nat) (l srt : List Nat) (h : StableOk n l srt) (hl : l.length = n) (_hn : n ≤ 100000) (tl : List Value) (A cp : Nat) (w : World) (hc1 : n ≤ cp) (hc2 : cp ≤ n + tl.length) (hd1 : Dry w) (hd2 : 0 ≠ A) (hbl : Blk w A 87 (dCells tl l)) :
    Calls Tryd.prog 73 #[.slice (some ⟨A, 0, none⟩) n cp, .func (.func 74) #[] #[]] w fun e w' => e = .returned (.tuple #[]) ∧ Bel A w.heap.size w w' ∧ ∃ tl', Blk w' A 87 (dCells tl' srt) := by
  have H := hide h
  have HB := hide hbl
  have HL := hide hl
  have HC1 := hide hc1
  have HC2 := hide hc2
  have HD1 := hide hd1
  have HD2 := hide hd2
  clear h hbl hl hc1 hc2 hd1 hd2
  go_enter Tryd.func73, Tryd.ntmps73
  go_wp2_with fail
  refine (H.out tl A cp _ HL.out HC1.out HC2.out HD1.out HD2.out HB.out).mono ?_
  rintro e w' ⟨rfl, hb, tl', hk⟩
  go_wp2
  go_end0
  exact ⟨rfl, hb, tl', hk⟩
end Go.Proofs.YtlkhjnpflohfeaaDoor

/- Contract of last, of a slice of sets. -/
namespace Go.Proofs.YtlkhjnpflohfeaaDoor
open Go Go.Proofs Go.RowKit

set_option maxHeartbeats 1000000 in
set_option maxRecDepth 100000 in
theorem lastUint_any (b n cp : Nat) (g : FuncId) (first : Array Value) (l : List Nat) (M : Nat) (p : Nat → Bool) (I : World → Prop) (w : World) (hn : n ≤ 1000) (hI : I w) (hM : M < w.heap.size)
    (hb : ∀ W, I W → b < W.heap.size ∧ ∀ i, i < n → W.cell? ⟨b, i, none⟩ = some (.int .u64 (Srt.at' l i : Nat))) (ht : TestOk g first #[] n M (fun i => .int .u64 (Srt.at' l i : Nat)) p I) :
    Calls Tryd.prog 76 #[.slice (some ⟨b, 0, none⟩) n cp, .agg #[.func (.func g) first #[]]] w fun e w' => e = .returned (.int .i64 ((Cut.lead p n : Nat) - 1)) ∧ I w' ∧ Bel M w.heap.size w w' := by
  have HT := hide ht
  have HB := hide hb
  have HI := hide hI
  clear ht hb hI
  go_enter Tryd.func76, Tryd.ntmps76
  go_wp2_with fail
  go_loopw [5, 6, 9, 10, 11, 12, 13, 14, 15, 16, 17, 18, 19, 20] (fun _ _ v9 _ _ _ _ _ _ _ _ _ _ _ wr => ∃ k : Nat, k ≤ n ∧ v9 = .int .i64 k ∧ Hid (I wr) ∧ Blk wr w.heap.size 108 [.func (.func g) first #[]] ∧ Bel M w.heap.size w wr ∧ Hid (∀ j, j < k → p j = true)) (fun _ _ v9 _ _ _ _ _ _ _ _ _ _ _ _ => n - (intOf v9).toNat)
  case atStart => exact ⟨0, by omega, rfl, HT.out.below _ _ HI.out ((Below.refl _ _).alloc (Nat.le_refl _) _), Blk.new' _ [_] _ rfl, (Bel.refl _ _ _).alloc (Nat.le_refl _) _, fun j hj => by omega⟩
  case round =>
    obtain ⟨k, hk, rfl, hI, b0, hB, hall⟩ := hrel
    by_cases hlt : k < n
    · have hc := (HB.out wr hI.out).2 k hlt
      have hbl := (HB.out wr hI.out).1
      have c0 := b0.cell 0 rfl
      have hl0 := b0.lt
      have heg := HT.out.enters
      go_wp2_with fail
      clear heg
      have hcall := HT.out.calls k hlt wr hI.out
      rw [Array.append_empty] at hcall
      refine hcall.mono ?_
      clear hcall
      rintro e w2 ⟨rfl, hI2, hB2⟩
      have b2 := b0.bel hB2 hl0 (by omega)
      have HI2 := hide hI2
      clear hI2 hc c0 b0
      cases hp : p k with
      | true =>
        have HP := hide hp
        clear hp
        go_wp2
        refine ⟨⟨k + 1, by omega, by go_num, HI2, b2, hB.trans (hB2.mono hB.size), fun j hj => ?_⟩, by simp [intOf]; omega⟩
        by_cases hjk : j < k
        · exact hall.out j hjk
        · obtain rfl : j = k := by omega
          exact HP.out
      | false =>
        have HP := hide (Cut.lead_stop p k hp hall.out n hlt)
        clear hp
        go_wp2
        go_ret
        exact ⟨ret_int (by rw [HP.out]), HI2.out, hB.trans (hB2.mono hB.size)⟩
    · obtain rfl : k = n := by omega
      go_wp2
      go_ret
      refine ⟨ret_int (by rw [Cut.lead_all p k hall.out]), hI.out, hB⟩
end Go.Proofs.YtlkhjnpflohfeaaDoor

/- Contract of Clash. -/
namespace Go.Proofs.YtlkhjnpflohfeaaDoor
open Go Go.Proofs Go.RowKit

theorem sizeSets_facts (k : Nat) (hk : k ≤ 5) : (Srt.sizeSets k).length = 2 ^ k ∧ (∀ i, i < 2 ^ k → Srt.at' (Srt.sizeSets k) i < 2 ^ k) ∧ (∃ i, i < 2 ^ k ∧ Srt.at' (Srt.sizeSets k) i = 2 ^ k - 1) := by
  have : k = 0 ∨ k = 1 ∨ k = 2 ∨ k = 3 ∨ k = 4 ∨ k = 5 := by omega
  rcases this with rfl | rfl | rfl | rfl | rfl | rfl
  · exact ⟨by decide +kernel, by decide +kernel, 0, by decide +kernel⟩
  · exact ⟨by decide +kernel, by decide +kernel, 1, by decide +kernel⟩
  · exact ⟨by decide +kernel, by decide +kernel, 3, by decide +kernel⟩
  · exact ⟨by decide +kernel, by decide +kernel, 7, by decide +kernel⟩
  · exact ⟨by decide +kernel, by decide +kernel, 15, by decide +kernel⟩
  · exact ⟨by decide +kernel, by decide +kernel, 31, by decide +kernel⟩
theorem small_sorted (k : Nat) (hk : k ≤ 4) : StableOk (2 ^ k) (List.range (2 ^ k)) (Srt.sizeSets k) := by
  have : k = 0 ∨ k = 1 ∨ k = 2 ∨ k = 3 ∨ k = 4 := by omega
  rcases this with rfl | rfl | rfl | rfl | rfl
  · have h : Srt.insertion Srt.bySize (List.range (2 ^ 0)) 0 (2 ^ 0) = Srt.sizeSets 0 := by decide +kernel
    rw [← h]; exact stable_small _ _ (by unfold Srt.All; decide +kernel) (by omega) (by omega)
  · have h : Srt.insertion Srt.bySize (List.range (2 ^ 1)) 0 (2 ^ 1) = Srt.sizeSets 1 := by decide +kernel
    rw [← h]; exact stable_small _ _ (by unfold Srt.All; decide +kernel) (by omega) (by omega)
  · have h : Srt.insertion Srt.bySize (List.range (2 ^ 2)) 0 (2 ^ 2) = Srt.sizeSets 2 := by decide +kernel
    rw [← h]; exact stable_small _ _ (by unfold Srt.All; decide +kernel) (by omega) (by omega)
  · have h : Srt.insertion Srt.bySize (List.range (2 ^ 3)) 0 (2 ^ 3) = Srt.sizeSets 3 := by decide +kernel
    rw [← h]; exact stable_small _ _ (by unfold Srt.All; decide +kernel) (by omega) (by omega)
  · have h : Srt.insertion Srt.bySize (List.range (2 ^ 4)) 0 (2 ^ 4) = Srt.sizeSets 4 := by decide +kernel
    rw [← h]; exact stable_small _ _ (by unfold Srt.All; decide +kernel) (by omega) (by omega)

/-- v is a slice of the sets l, in a block from base on. -/
def OwnsU (W : World) (base : Nat) (v : Value) (l : List Nat) : Prop := W.ownsRow base 87 1 v l.length (uCells l)
theorem OwnsU.nil (W : World) (base : Nat) : OwnsU W base (.slice none 0 0) [] := ⟨rfl, .inl ⟨rfl, rfl⟩⟩
theorem OwnsU.below {W W' : World} {base : Nat} {v : Value} {l : List Nat} (h : OwnsU W base v l) (hb : Below W.heap.size W W') : OwnsU W' base v l := by
  obtain ⟨h1, h2⟩ := h
  refine ⟨h1, ?_⟩
  rcases h2 with h2 | ⟨g, cap, cur, a1, a2, a3, a4⟩
  · exact .inl h2
  · exact .inr ⟨g, cap, cur, a1, a2, (hb.block g (Array.getElem?_eq_some_iff.1 a3).1).trans a3, a4⟩
theorem OwnsU.row {W : World} {base : Nat} {v : Value} {l : List Nat} (h : OwnsU W base v l) (hl : 0 < l.length) : ∃ g cap tl, v = .slice (some ⟨g, 0, none⟩) l.length cap ∧ base ≤ g ∧ Blk W g 87 (dCells tl l) ∧ l.length ≤ cap ∧ cap ≤ l.length + tl.length := by
  obtain ⟨h1, h2⟩ := h
  rcases h2 with ⟨_, h2⟩ | ⟨g, cap, cur, a1, a2, a3, a4, a5, a6, a7⟩
  · omega
  · refine ⟨g, cap, cur.toList.drop (l.length * 1), a1, a2, ?_, a4, by simp; omega⟩
    unfold Blk dCells
    rw [← a7, List.take_append_drop]; exact a3
theorem OwnsU.snoc {W : World} {base : Nat} {v : Value} {l : List Nat} {s : Nat} (h : W.ownsRow base 87 1 v (l.length + 1) (uCells l ++ [.int .u64 (s : Nat)])) : OwnsU W base v (l ++ [s]) := by
  unfold OwnsU uCells
  rw [List.map_append, List.length_append]; exact h
theorem OwnsU.from {W : World} {base : Nat} {v : Value} {l : List Nat} (h : OwnsU W base v l) {j : Nat} (hj : v.ownBlock = some j) : base ≤ j := by
  obtain ⟨h1, h2⟩ := h
  rcases h2 with ⟨rfl, _⟩ | ⟨g, cap, cur, rfl, a2, a3, a4⟩
  · cases hj
  · simp only [Value.ownBlock, Option.some.injEq] at hj; omega
theorem uint_info : (Tryd.prog.info? 87).map (fun i => (i.zero, i.size, i.bytes)) = some (some (.int .u64 0), 1, 8) := by kernel_rfl

namespace Cut
theorem lead_lt (p : Nat → Bool) (n i : Nat) (hi : i < n) (hp : p i = false) : lead p n < n := by
  induction n with
  | zero => omega
  | succ n ih =>
    have hle : ∀ m, lead p m ≤ m := by
      intro m; induction m with
      | zero => exact Nat.le_refl _
      | succ m ihm => unfold lead; split <;> omega
    unfold lead
    split
    · rename_i h
      exfalso
      by_cases hin : i = n
      · subst hin; rw [hp] at h; cases h.2
      · have := ih (by omega); omega
    · have := hle n; omega
end Cut

set_option maxHeartbeats 2000000 in
set_option maxRecDepth 100000 in
theorem Clash_any (x : CutD) (ra ba la : Option Addr) (rc bc lc : Nat) (w : World) (hin : CutIn w x ra ba la) (hst : Cut.valid x = true → StableOk (2 ^ x.looks.length) (List.range (2 ^ x.looks.length)) (Srt.sizeSets x.looks.length)) :
    Calls Tryd.prog 28 #[cutVal x ra ba la rc bc lc] w fun e w' => e = .returned (.tuple #[.int .i64 (clashR x).1, .int .i64 (clashR x).2]) ∧ Below w.heap.size w w' := by
  have HIN := hide hin
  have HST := hide hst
  clear hin hst
  unfold cutVal
  go_enter_defers Tryd.func28, Tryd.ntmps28
  go_wp2_with fail
  obtain ⟨w2, hw2⟩ : ∃ w2, ((w.alloc (Obj.cells (cutCells x ra ba la rc bc lc).toArray 28)).alloc (Obj.cells #[Value.int IntKind.i64 0] 31)) = w2 := ⟨_, rfl⟩
  simp only [cutCells] at hw2
  rw [hw2]
  have hz2 : w2.heap.size = w.heap.size + 1 + 1 := by rw [← hw2]; simp
  have hb2 : Below w.heap.size w w2 := by rw [← hw2]; (repeat' first | (with_reducible assumption) | (with_reducible exact Below.refl _ _) | (with_reducible refine Below.drew ?_) | (with_reducible refine Below.setCell ?_ ?_ _) | (with_reducible refine Below.alloc ?_ ?_ _) | (refine Below.trans ?_ (Below.mono (by assumption) ?_)) | omega | (simp only [World.size_alloc] at *; omega))
  have b3 : Blk w2 (w.heap.size + 1) 31 [.int .i64 0] := by rw [← hw2]; exact Blk.new' _ [_] _ (by simp)
  have HIN2 := hide (HIN.out.below hb2)
  clear hw2
  refine (open_any _ x ra ba la rc bc lc true _ HIN2.out ?_).mono ?_
  · exact ⟨_, _, rfl, enters_of Tryd.func51 (by kernel_rfl) rfl, fun B M la lc w' _ _ _ _ _ => always_any B w'⟩
  rintro e w5 ⟨hb5, h⟩
  have c3 := b3.below hb5 (by omega)
  have hb5' := hb2.trans (hb5.mono (show w.heap.size ≤ w2.heap.size by omega))
  rcases h with ⟨hv, rfl⟩ | ⟨hv, hbf, rfl⟩ | ⟨hv, hbt, B, M, la', lc', hB, hM, rfl, hcut⟩
  · refine leaves_refused (c3.cell 0 rfl) (c3.free 0) rfl (results2 rfl (read_tmp rfl) (read_cell1 (w.heap.size + 1) _ rfl ((c3.set 0 _).cell 0 rfl) (by kernel_rfl))) ⟨?_, hb5'.setCell (p := ⟨w.heap.size + 1, 0, none⟩) (show w.heap.size ≤ w.heap.size + 1 by omega) _⟩
    unfold clashR
    rw [if_pos hv]; rfl
  · cases hbf
  · have HCut := hide hcut
    have hk5 := (Cut.valid_of hv).k5
    have hev := every_lt hv
    clear hcut
    go_wp2_with fail
    refine (every_any _ HCut.out hk5).mono ?_
    rintro e w' ⟨rfl, rfl⟩
    go_wp2_with fail
    refine (can_any _ _ HCut.out hv hev).mono ?_
    rintro e w6 ⟨rfl, hb6, hk6⟩
    have hb6' := hb6.below_lt (N' := w2.heap.size) hM hb5.size
    have d3 := c3.below hb6' (by omega)
    have HC6 := hide (HCut.out.bel hb6 hk6)
    have hz6 := hb6.size
    have hz5 := hb5.size
    cases hcan : Cut.can x (Cut.every x) with
    | true =>
      go_wp2_with fail
      refine (ask_no _ _).mono ?_
      rintro e w' ⟨rfl, rfl⟩
      refine leaves_refused (d3.cell 0 rfl) (d3.free 0) rfl (results2 rfl (read_tmp rfl) (read_cell1 (w.heap.size + 1) _ rfl ((d3.set 0 _).cell 0 rfl) (by kernel_rfl))) ⟨?_, (hb5'.trans (hb6'.mono (by omega))).setCell (p := ⟨w.heap.size + 1, 0, none⟩) (show w.heap.size ≤ w.heap.size + 1 by omega) _⟩
      unfold clashR
      rw [if_neg (by simp [hv]), if_pos hcan]; rfl
    | false =>
      have hfin : Hid (clashR x = (((clashSet x : Nat) : Int), 0)) := by
        unfold clashR
        rw [if_neg (by simp [hv]), if_neg (by simp [hcan])]; rfl
      have hbw6 : Hid (Below w.heap.size w w6) := hb5'.trans (hb6'.mono (by omega))
      go_wp2_with fail
      refine (ask_yes _ _).mono ?_
      rintro e w' ⟨rfl, rfl⟩
      go_wp2_with fail
      refine (every_any _ HC6.out hk5).mono ?_
      rintro e w' ⟨rfl, rfl⟩
      obtain ⟨n, hn⟩ : ∃ n, n = 2 ^ x.looks.length := ⟨_, rfl⟩
      have hpow : n ≤ 2 ^ 5 := by rw [hn]; exact Nat.pow_le_pow_right (by omega) hk5
      have hpos : 0 < n := by rw [hn]; exact Nat.pow_pos (by omega)
      have hevn : Cut.every x = n - 1 := by unfold Cut.every; rw [hn]
      have HN := hide hn
      have HEV := hide hevn
      have hM6 := HC6.out.kept.lt
      rw [hevn]
      have hn1 : ((n - 1 : Nat) : Int) + 1 = (n : Int) := by omega
      clear hn hevn hev
      generalize hq : ((n - 1 : Nat) : Int) = q at *
      have hq0 : 0 ≤ q := by omega
      have hq1 : q ≤ 31 := by omega
      have HQ := hide hq
      have HQ1 := hide hn1
      clear hq hn1
      go_wp2_with fail
      go_loopw [5, 6, 19, 20, 21, 22, 23, 24, 25, 26] (fun v5 _ v19 _ _ _ _ _ _ _ wr => ∃ j : Nat, j ≤ n ∧ v19 = .int .u64 j ∧ Hid (OwnsU wr w6.heap.size v5 (List.range j)) ∧ Bel M w6.heap.size w6 wr ∧ Hid (Kept wr M x)) (fun _ _ v19 _ _ _ _ _ _ _ _ => n - (intOf v19).toNat)
      case atStart => exact ⟨0, by omega, rfl, OwnsU.nil _ _, Bel.refl _ _ _, HC6.out.kept⟩
      case round =>
        obtain ⟨j, hj, rfl, hown, hB', hkr⟩ := hrel
        have hqa : (n : Int) ≤ q + 1 := by have := HQ1.out; omega
        have hqb : q + 1 ≤ (n : Int) := by have := HQ1.out; omega
        by_cases hlt : j < n
        · have hlt' : (j : Int) < q + 1 := by omega
          obtain ⟨i0, hi, hz0, hz1, hz2⟩ := info_parts uint_info
          have hwz := hB'.size
          have HOB := hide (OwnsU.below hown.out ((Below.refl _ _).alloc (Nat.le_refl _) (Obj.cells #[Value.int IntKind.u64 j] 87)))
          have hc1 : Hid (∀ i u, [Value.int IntKind.u64 (j : Int)][i]? = some u → (wr.alloc (Obj.cells #[Value.int IntKind.u64 j] 87)).cell? (Addr.add ⟨wr.heap.size, 0, none⟩ i) = some u) := fun i u hi => by
            have := (Blk.new wr [Value.int IntKind.u64 (j : Int)] 87).cell i hi
            rwa [show Addr.add ⟨wr.heap.size, 0, none⟩ i = ⟨wr.heap.size, i, none⟩ by simp [Addr.add]; exact fun h => h.symm]
          have hc2 : Hid (∀ u ∈ [Value.int IntKind.u64 (j : Int)], u.oneCell' = true) := by
            intro u hu; simp only [List.mem_cons, List.not_mem_nil, or_false] at hu; subst hu; rfl
          have hjr : Hid ((List.range j).length = j) := List.length_range
          go_wp2_with (at_builtin; refine wpList_append_own _ rfl (.tmp 22) (.tmp 24) 102 rfl w6.heap.size 87 i0 _ 1 8 Tryd.underlying102 hi hz0 hz1 hz2 rfl (by decide) u5 _ _ rfl HOB.out ⟨wr.heap.size, 0, none⟩ 1 1 _ rfl rfl hc1.out hc2.out (by rw [hjr.out]; unfold maxLen; omega) (by rw [hjr.out]; omega) (by simp; omega) ?_; intro v' w9 hown9 hg9 _; have HO9 := hide (OwnsU.snoc (l := List.range j) (s := j) hown9); have HG9 := hide hg9; clear hown9 hg9)
          have hr : ∀ r, u5.ownBlock = some r → w6.heap.size ≤ r := fun r hr => OwnsU.from hown.out hr
          refine ⟨⟨j + 1, by omega, by go_num, by rw [List.range_succ]; exact HO9.out, ((hB'.alloc (by omega) _).grown HG9.out (Nat.le_refl _) (Nat.le_refl _) hr), (hkr.out.alloc _).grown (B0 := w6.heap.size) HG9.out (by omega) hr⟩, by simp [intOf]; omega⟩
        · obtain rfl : j = n := by omega
          obtain ⟨gb, cap, tl, rfl, hgb, hblk, hcp1, hcp2⟩ := OwnsU.row hown.out (by rw [List.length_range]; omega)
          rw [List.length_range] at hcp1 hcp2 ⊢
          have HC1 := hide hcp1
          have HC2 := hide hcp2
          clear hcp1 hcp2
          have HD1 := hide (HC6.out.dry.bel hB' HC6.out.nd)
          have HD2 := hide (show 0 ≠ gb by have := HC6.out.dry.lt; omega)
          have hge : ¬ (j : Int) < q + 1 := by omega
          have HBl := hide hblk
          have hgl := hblk.lt
          clear hblk
          have hsf := sizeSets_facts x.looks.length hk5
          rw [← HN.out] at hsf
          have hwz := hB'.size
          go_wp2_with fail
          refine (sortStable_any j (List.range j) (Srt.sizeSets x.looks.length) (by rw [HN.out]; exact HST.out hv) List.length_range (by omega) tl gb cap _ HC1.out HC2.out HD1.out HD2.out HBl.out).mono ?_
          rintro e w8 ⟨rfl, hb8, tl, hbl8⟩
          have hB8 : Bel M w6.heap.size w6 w8 := hB'.trans (Bel.of_below (hb8.below_lt hgb (by omega)))
          have HC8 := hide (HC6.out.bel hB8 (hkr.out.below (hb8.below_lt (N' := w6.heap.size) hgb (by omega)) hM6))
          have hz8 := hb8.size
          obtain ⟨hs1, hs2, hs3⟩ := hsf
          obtain ⟨i1, hi1, hi2⟩ := hs3
          have hL := Cut.lead_lt (fun i => Cut.can x (Srt.at' (Srt.sizeSets x.looks.length) i)) j i1 hi1 (by rw [hi2, ← HEV.out]; exact hcan)
          have hset : Hid (clashSet x = Srt.at' (Srt.sizeSets x.looks.length) (Cut.lead (fun i => Cut.can x (Srt.at' (Srt.sizeSets x.looks.length) i)) j)) := by
            unfold clashSet; rw [← HN.out]; rfl
          have hval := hs2 _ hL
          clear hi2
          go_wp2_with fail
          refine (lastUint_any gb j cap 72 #[.pointer (some ⟨B, 0, none⟩)] (Srt.sizeSets x.looks.length) M (fun i => Cut.can x (Srt.at' (Srt.sizeSets x.looks.length) i)) (KBase w8 M x) w8 (by omega) ⟨Bel.refl _ _ _, HC8.out.kept⟩ (by omega) (fun W hW => ?_) ?_).mono ?_
          · have := hbl8.bel hW.1 (by omega) (by omega)
            exact ⟨this.lt, fun i hi => this.cell i (dCells_get tl _ i (by rw [hs1]; exact hi))⟩
          · refine ⟨enters_of Tryd.func72 (by kernel_rfl) rfl, fun W W' hI hb => ⟨hI.1.trans (Bel.of_below (hb.mono hI.1.size)), hI.2.below hb hI.2.lt⟩, fun i hi W hW => ?_⟩
            refine (can_any (Srt.at' (Srt.sizeSets x.looks.length) i) W (HC8.out.bel hW.1 hW.2) hv (by have := hs2 i hi; omega)).mono ?_
            rintro e W' ⟨he, hb, hk⟩
            exact ⟨he, ⟨hW.1.trans (hb.mono hW.1.size), hk⟩, hb⟩
          rintro e w9 ⟨rfl, ⟨hb9, hk9⟩, _⟩
          have hbl9 := hbl8.bel hb9 (by omega) (by omega)
          generalize Cut.lead (fun i => Cut.can x (Srt.at' (Srt.sizeSets x.looks.length) i)) j = L at *
          have hcell := hbl9.cell L (dCells_get tl _ L (by rw [hs1]; exact hL))
          have e3 := ((d3.bel hB8 (by omega) (by omega)).bel hb9 (by omega) (by omega))
          have r3 := e3.cell 0 rfl
          have r4 := e3.free 0
          have hlt3 := e3.lt
          generalize Srt.at' (Srt.sizeSets x.looks.length) L = V at *
          clear hs1 hs2 hbl8 hbl9 HBl
          have hLi : (L : Int) < j := by omega
          go_wp2
          refine leaves_idle rfl (results2 rfl (read_tmp rfl) (read_cell1 (w.heap.size + 1) (.int .i64 0) rfl ((e3.set 0 _).cell 0 rfl) (by kernel_rfl))) ⟨?_, (hbw6.out.trans ((hB8.below_lt (by omega) (by omega)).trans (hb9.below_lt (by omega) (by omega)))).setCell (p := ⟨w.heap.size + 1, 0, none⟩) (show w.heap.size ≤ w.heap.size + 1 by omega) _⟩
          rw [hfin.out, hset.out]; rfl
end Go.Proofs.YtlkhjnpflohfeaaDoor

/- Bit operations of int on numbers that are not negative. -/
namespace Go.Proofs.YtlkhjnpflohfeaaDoor
open Go Go.Proofs Go.RowKit
theorem ofInt_nat (a : Nat) (ha : a < 9223372036854775808) : (BitVec.ofInt 64 (a : Int)).toNat = a := by
  rw [BitVec.toNat_ofInt]; omega
theorem bits_or_i64_nat (a b : Nat) (ha : a < 9223372036854775808) (hb : b < 9223372036854775808) : bits BinOp.or IntKind.i64 (a : Int) (b : Int) = ((a ||| b : Nat) : Int) := by
  have h1 : (BitVec.ofInt 64 (a : Int) ||| BitVec.ofInt 64 (b : Int)).toNat = a ||| b := by rw [BitVec.toNat_or, ofInt_nat a ha, ofInt_nat b hb]
  have h2 : a ||| b < 2 ^ 63 := Nat.or_lt_two_pow (by omega) (by omega)
  show IntKind.i64.wrap ((BitVec.ofInt 64 (a : Int) ||| BitVec.ofInt 64 (b : Int)).toNat : Int) = _
  rw [h1]
  exact IntWalk.i64_in _ (by omega)
theorem or_pow (a k : Nat) (h : a < 2 ^ k) (hk : k ≤ 20) : bits BinOp.or IntKind.i64 (a : Int) (wrap64 ((2 : Int) ^ k)) = ((a + 2 ^ k : Nat) : Int) := by
  have h1 : (2 : Nat) ^ k ≤ 2 ^ 20 := Nat.pow_le_pow_right (by omega) hk
  have h2 : ((2 : Int) ^ k) = ((2 ^ k : Nat) : Int) := by simp
  rw [h2, show wrap64 ((2 ^ k : Nat) : Int) = ((2 ^ k : Nat) : Int) from IntWalk.wrap64_in _ (by omega), bits_or_i64_nat _ _ (by omega) (by omega)]
  have h3 := Nat.two_pow_add_eq_or_of_lt h 1
  rw [Nat.mul_one] at h3
  rw [Nat.or_comm, ← h3, Nat.add_comm]
end Go.Proofs.YtlkhjnpflohfeaaDoor

/- Contract of Days. -/
namespace Go.Proofs.YtlkhjnpflohfeaaDoor
open Go Go.Proofs Go.RowKit
namespace Cut
end Cut
set_option maxHeartbeats 2000000 in
set_option maxRecDepth 100000 in
theorem Days_any (x : CutD) (b n : Int) (ra ba la : Option Addr) (rc bc lc : Nat) (w : World) (hin : CutIn w x ra ba la) :
    Calls Tryd.prog 22 #[cutVal x ra ba la rc bc lc, .int .i64 b, .int .i64 n] w fun e w' => e = .returned (.tuple #[.int .i64 (daysR x b n).1.1, .int .i64 (daysR x b n).1.2, .int .i64 (daysR x b n).2]) ∧ Below w.heap.size w w' := by
  have HIN := hide hin
  clear hin
  unfold cutVal
  go_enter_defers Tryd.func22, Tryd.ntmps22
  go_wp2_with fail
  obtain ⟨w4, hw4⟩ : ∃ w4, ((((w.alloc (Obj.cells (cutCells x ra ba la rc bc lc).toArray 28)).alloc (Obj.cells #[Value.int IntKind.i64 b] 3)).alloc (Obj.cells #[Value.int IntKind.i64 n] 3)).alloc (Obj.cells #[Value.int IntKind.i64 0] 31)) = w4 := ⟨_, rfl⟩
  simp only [cutCells] at hw4
  rw [hw4]
  have hz4 : w4.heap.size = w.heap.size + 1 + 1 + 1 + 1 := by rw [← hw4]; simp
  have hb4 : Below w.heap.size w w4 := by rw [← hw4]; (repeat' first | (with_reducible assumption) | (with_reducible exact Below.refl _ _) | (with_reducible refine Below.drew ?_) | (with_reducible refine Below.setCell ?_ ?_ _) | (with_reducible refine Below.alloc ?_ ?_ _) | (refine Below.trans ?_ (Below.mono (by assumption) ?_)) | omega | (simp only [World.size_alloc] at *; omega))
  have b0 : Blk w4 w.heap.size 28 (cutCells x ra ba la rc bc lc) := by rw [← hw4]; exact ((((Blk.new' _ (cutCells x ra ba la rc bc lc) _ rfl).alloc _).alloc _).alloc _)
  have b1 : Blk w4 (w.heap.size + 1) 3 [.int .i64 b] := by rw [← hw4]; exact (((Blk.new' _ [_] _ (by simp)).alloc _).alloc _)
  have b2 : Blk w4 (w.heap.size + 1 + 1) 3 [.int .i64 n] := by rw [← hw4]; exact (Blk.new' _ [_] _ (by simp)).alloc _
  have b3 : Blk w4 (w.heap.size + 1 + 1 + 1) 31 [.int .i64 0] := by rw [← hw4]; exact Blk.new' _ [_] _ (by simp)
  have HIN4 := hide (HIN.out.below hb4)
  clear hw4
  refine (open_any _ x ra ba la rc bc lc (Cut.isLoads x b n) _ HIN4.out ?_).mono ?_
  · exact ⟨_, _, rfl, enters_of Tryd.func67 (by kernel_rfl) rfl, fun B M la lc w' hv hb _ _ hc => days1_any b n (w.heap.size + 1) (w.heap.size + 1 + 1) w' hc (Cut.valid_of hv).b4 (b1.below hb (by omega)) (b2.below hb (by omega))⟩
  rintro e w5 ⟨hb5, h⟩
  have c0 := b0.below hb5 (by omega)
  have c1 := b1.below hb5 (by omega)
  have c2 := b2.below hb5 (by omega)
  have c3 := b3.below hb5 (by omega)
  have hb5' := hb4.trans (hb5.mono (show w.heap.size ≤ w4.heap.size by omega))
  rcases h with ⟨hv, rfl⟩ | ⟨hv, hbf, rfl⟩ | ⟨hv, hbt, B, M, la', lc', hB, hM, rfl, hcut⟩
  · refine leaves_refused (c3.cell 0 rfl) (c3.free 0) rfl (results3 rfl (read_tmp rfl) (read_tmp rfl) (read_cell1 (w.heap.size + 1 + 1 + 1) _ rfl ((c3.set 0 _).cell 0 rfl) (by kernel_rfl))) ⟨?_, hb5'.setCell (p := ⟨w.heap.size + 1 + 1 + 1, 0, none⟩) (show w.heap.size ≤ w.heap.size + 1 + 1 + 1 by omega) _⟩
    unfold daysR
    rw [toldErr_bad hv]; rfl
  · refine leaves_refused (c3.cell 0 rfl) (c3.free 0) rfl (results3 rfl (read_tmp rfl) (read_tmp rfl) (read_cell1 (w.heap.size + 1 + 1 + 1) _ rfl ((c3.set 0 _).cell 0 rfl) (by kernel_rfl))) ⟨?_, hb5'.setCell (p := ⟨w.heap.size + 1 + 1 + 1, 0, none⟩) (show w.heap.size ≤ w.heap.size + 1 + 1 + 1 by omega) _⟩
    unfold daysR
    rw [hbf, toldErr_range hv]; rfl
  · have HCut := hide hcut
    clear hcut
    go_wp2_with fail
    cases hcan : Cut.can x (Cut.every x) with
    | false =>
      refine (told_no w5 HCut.out hv hcan).mono ?_
      rintro e w6 ⟨rfl, hb6, hk6⟩
      have hb6' := hb6.below_lt (N' := w4.heap.size) hM hb5.size
      have d3 := c3.below hb6' (by omega)
      refine leaves_refused (d3.cell 0 rfl) (d3.free 0) rfl (results3 rfl (read_tmp rfl) (read_tmp rfl) (read_cell1 (w.heap.size + 1 + 1 + 1) _ rfl ((d3.set 0 _).cell 0 rfl) (by kernel_rfl))) ⟨?_, (hb5'.trans (hb6'.mono (by omega))).setCell (p := ⟨w.heap.size + 1 + 1 + 1, 0, none⟩) (show w.heap.size ≤ w.heap.size + 1 + 1 + 1 by omega) _⟩
      unfold daysR
      rw [hbt, toldErr_clash hv hcan]; rfl
    | true =>
      refine (told_yes w5 HCut.out hv hcan).mono ?_
      rintro e w6 ⟨rfl, hb6, hk6⟩
      have hb6' := hb6.below_lt (N' := w4.heap.size) hM hb5.size
      have HC6 := hide (HCut.out.bel hb6 hk6)
      have d0 := c0.below hb6' (by omega)
      have d1 := c1.below hb6' (by omega)
      have d2 := c2.below hb6' (by omega)
      have d3 := c3.below hb6' (by omega)
      obtain ⟨k, m, rfl, hk, rfl, hm, hm10⟩ := loads_of hv hbt
      have hz6 := hb6'.size
      have hM6 := HC6.out.kept.lt
      have hn8 := (Cut.valid_of hv).n8
      have hfin : Hid (daysR x k m = ((((Cut.daysAll x k m : Nat) : Int), ((Cut.daysSome x k m : Nat) : Int)), 0)) := by
        unfold daysR
        rw [hbt, toldErr_ok hv hcan, if_pos rfl]; rfl
      have hbw6 : Hid (Below w.heap.size w w6) := hb5'.trans (hb6'.mono (by omega))
      have d04 := d0.cell 4 rfl
      clear hbt b0 b1 b2 b3 c0 c1 c2 c3 hk6
      go_wp2_with fail
      go_loopw [10, 11, 12, 13, 22, 23, 24, 25, 26, 27, 28, 29, 30, 31, 32, 33, 34, 35, 36, 37, 38, 39, 40, 41, 42] (fun v10 v11 _ _ v22 _ _ _ _ _ _ _ _ _ _ _ _ _ _ _ _ _ _ _ _ wr => ∃ j : Nat, j ≤ x.rain.length + 1 ∧ v22 = .int .i64 j ∧ v10 = .int .i64 (Cut.setTo (fun d => Cut.floatsOn x k m d == 2) j : Nat) ∧ v11 = .int .i64 (Cut.setTo (fun d => Cut.floatsOn x k m d != 0) j : Nat) ∧ Bel M w6.heap.size w6 wr ∧ Hid (Kept wr M x)) (fun _ _ _ _ v22 _ _ _ _ _ _ _ _ _ _ _ _ _ _ _ _ _ _ _ _ _ => x.rain.length + 1 - (intOf v22).toNat)
      case atStart => exact ⟨0, by omega, rfl, rfl, rfl, Bel.refl _ _ _, HC6.out.kept⟩
      case round =>
        obtain ⟨j, hj, rfl, rfl, rfl, hB', hkr⟩ := hrel
        by_cases hlt : j < x.rain.length + 1
        · have e1 := (d1.bel hB' (by omega) (by omega)).cell 0 rfl
          have e2 := (d2.bel hB' (by omega) (by omega)).cell 0 rfl
          have HCr := hide (HC6.out.bel hB' hkr.out)
          have hlt' : (j : Int) < (x.rain.length : Int) + 1 := by omega
          rcases Cut.floats_or (Cut.boatAt x.boats k) m (Cut.water x j) with h0 | h0 | h0
          · have HU1 : Hid (Cut.setTo (fun d => Cut.floatsOn x k m d == 2) (j + 1) = Cut.setTo (fun d => Cut.floatsOn x k m d == 2) j) := by show Cut.setTo _ _ = _; simp [Cut.setTo, Cut.floatsOn, h0]
            have HU2 : Hid (Cut.setTo (fun d => Cut.floatsOn x k m d != 0) (j + 1) = Cut.setTo (fun d => Cut.floatsOn x k m d != 0) j) := by show Cut.setTo _ _ = _; simp [Cut.setTo, Cut.floatsOn, h0]
            go_wp2_with (go_at_call 59; refine (floats_any k m j _ HCr.out hv hcan (by omega) hk ⟨by omega, by omega⟩).mono ?_; rintro e w' ⟨rfl, hb, hk'⟩; rw [h0])
            refine ⟨⟨j + 1, by omega, by go_num, by rw [HU1.out], by rw [HU2.out], hB'.trans (hb.mono hB'.size), hk'⟩, by simp [intOf]; omega⟩
          · have HU1 : Hid (Cut.setTo (fun d => Cut.floatsOn x k m d == 2) (j + 1) = Cut.setTo (fun d => Cut.floatsOn x k m d == 2) j) := by show Cut.setTo _ _ = _; simp [Cut.setTo, Cut.floatsOn, h0]
            have HU2 : Hid (Cut.setTo (fun d => Cut.floatsOn x k m d != 0) (j + 1) = Cut.setTo (fun d => Cut.floatsOn x k m d != 0) j + 2 ^ j) := by show Cut.setTo _ _ = _; simp [Cut.setTo, Cut.floatsOn, h0]
            go_wp2_with (go_at_call 59; refine (floats_any k m j _ HCr.out hv hcan (by omega) hk ⟨by omega, by omega⟩).mono ?_; rintro e w' ⟨rfl, hb, hk'⟩; rw [h0])
            have HO := or_pow _ j (Cut.setTo_lt (fun d => Cut.floatsOn x k m d != 0) j) (by omega)
            refine ⟨⟨j + 1, by omega, by go_num, by rw [HU1.out], by rw [HU2.out, HO], hB'.trans (hb.mono hB'.size), hk'⟩, by simp [intOf]; omega⟩
          · have HU1 : Hid (Cut.setTo (fun d => Cut.floatsOn x k m d == 2) (j + 1) = Cut.setTo (fun d => Cut.floatsOn x k m d == 2) j + 2 ^ j) := by show Cut.setTo _ _ = _; simp [Cut.setTo, Cut.floatsOn, h0]
            have HU2 : Hid (Cut.setTo (fun d => Cut.floatsOn x k m d != 0) (j + 1) = Cut.setTo (fun d => Cut.floatsOn x k m d != 0) j + 2 ^ j) := by show Cut.setTo _ _ = _; simp [Cut.setTo, Cut.floatsOn, h0]
            go_wp2_with (go_at_call 59; refine (floats_any k m j _ HCr.out hv hcan (by omega) hk ⟨by omega, by omega⟩).mono ?_; rintro e w' ⟨rfl, hb, hk'⟩; rw [h0])
            have HO := or_pow _ j (Cut.setTo_lt (fun d => Cut.floatsOn x k m d != 0) j) (by omega)
            have HO2 := or_pow _ j (Cut.setTo_lt (fun d => Cut.floatsOn x k m d == 2) j) (by omega)
            refine ⟨⟨j + 1, by omega, by go_num, by rw [HU1.out, HO2], by rw [HU2.out, HO], hB'.trans (hb.mono hB'.size), hk'⟩, by simp [intOf]; omega⟩
        · obtain rfl : j = x.rain.length + 1 := by omega
          have e3 := d3.bel hB' (by omega) (by omega)
          have r3 := e3.cell 0 rfl
          have r4 := e3.free 0
          have hlt3 := e3.lt
          have hgt : ¬ ((x.rain.length + 1 : Nat) : Int) < (x.rain.length : Int) + 1 := by omega
          go_wp2
          refine leaves_idle rfl (results3 rfl (read_tmp rfl) (read_tmp rfl) (read_cell1 (w.heap.size + 1 + 1 + 1) (.int .i64 0) rfl ((e3.set 0 _).cell 0 rfl) (by kernel_rfl))) ⟨?_, (hbw6.out.trans (hB'.below_lt (by omega) (by omega))).setCell (p := ⟨w.heap.size + 1 + 1 + 1, 0, none⟩) (show w.heap.size ≤ w.heap.size + 1 + 1 + 1 by omega) _⟩
          rw [hfin.out]; rfl
end Go.Proofs.YtlkhjnpflohfeaaDoor
