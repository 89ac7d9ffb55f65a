/- A deferred function that recovers, and hands on to another one. -/
import Derived.RecoverIn
import Derived.Below
import Derived.ProofKit
namespace Go.Proofs.YtcaejedfjobooaaGreat
open Go Go.RowKit
section
variable {P : Program} {n : Nat} {Q : Exit → Act → List Frame → World → Prop} {a : Act} {cs cs' : List Frame} {w : World}

/-- A region whose first operation recovers: the rest is walked over the stack as it then is. -/
theorem wpSIn_region_recover {id : Nat} {ops : Array Oper} {o : Oper} {rest : List Nat} {v : Value} (hl : List.range ops.size = 0 :: rest) (ho : ops[0]? = some o) (hg : Region.wanted o (yielded ops a.tmps) = true)
    (hrun : (execOp a.eval o).run P w = .ok .recover w) (hrec : recoverD cs = some (v, cs') ∨ (recoverD cs = none ∧ v = .nilIface ∧ cs' = cs))
    (h : wpOpsIn Fence.wide n P ops (fun e a' w' => Q e a' cs' w') rest (a.put o.dst v) w) : (Code.region id ops false).wpSIn Fence.wide n P Q a cs w := by
  intro b k hb hro hF hroom
  have hlen : cs'.length = cs.length := by
    rcases hrec with h | ⟨_, _, h⟩
    · exact recoverD_length h
    · rw [h]
  obtain ⟨e, a', w', hq, harr⟩ := wp_opsIn rest _ _ h b k cs' hro hF (by rw [hlen]; exact hroom)
  have h0 : (lone (b.atR a (.inRegion ops (0 :: rest) :: k)) cs w).fenced P Fence.wide := fenced_oper hF hroom ho fun _ _ => trivial
  have hgo := stepGR_op (P := P) (b := b) (k := k) (cs := cs) (w := w) (rest := rest) ho hg
  rw [hro, Oper.semAt_none] at hgo
  have hfin : ∀ v, (b.atR a (.inRegion ops (0 :: rest) :: k)).finish v = b.atR (a.put o.dst v) (.inRegion ops rest :: k) := by
    intro v; rw [Frame.finish_atR, ho]; rfl
  have hk : (b.atR a (.inRegion ops (0 :: rest) :: k)).kind = .deferred := hb
  have htr := tryRecover_deferred hk cs
  refine ⟨e, a', cs', w', hlen, hq, .of_steps (.head (fenced_calm hF hroom rfl) (stepR_region) (.one (by rw [hl]; exact h0) (step_lone_go ?_))) harr⟩
  rw [hl, hgo, ← hfin]
  rcases hrec with hrec | ⟨hrec, rfl, rfl⟩
  · simp only [Frame.atR, hro] at htr ⊢
    simp [stepG.apply, hrun, htr, hrec]
  · simp only [Frame.atR, hro] at htr ⊢
    simp [stepG.apply, hrun, htr, hrec]
end
end Go.Proofs.YtcaejedfjobooaaGreat
