/- A call of a function with arguments, run in pieces; a loop, run some rounds at a time. -/
import Derived.Test.YtcaejedfjobooaaGreatEvPart
namespace Go.Proofs.YtcaejedfjobooaaGreat
open Go
namespace Ev
/-- Where a call begins, with arguments and a part of the heap. -/
noncomputable def startL (N : Nat) (args : List AV) (H : List AB) : Q.R := Q.ofH H fun hp n => Q.newT N fun tr => Q.laysK args 0 tr fun tr => .norm tr [] hp n []
/-- A call that sees a part of the heap, whatever runs its body. -/
noncomputable def slowG (C : Cfg) (run : Nat → Q.SQ) (fn : AFunc) (args : List AV) (H : Q.T AB) (n : Nat) : Q.R := Bool.rec .no
  (Q.forceNs (reach (Q.listH n H) fuelR (refsL args) []) fun r => Q.forceL (renL (place r) args) fun args' => Q.ofH (restrict (Q.listH n H) r) fun H0 n0 =>
    Q.newT fn.ntmps fun tr => Q.laysK args' 0 tr fun tr => Q.partGo (Q.listH n H) r (Q.finQ C n0 fn.ntmps fn (run n0 tr [] H0 n0 []))) (Nat.ble (Q.lenL args) fn.ntmps)
theorem slow_g (C : Cfg) (call : Q.CallQ) (fn : AFunc) (args : List AV) (H : Q.T AB) (n : Nat) : Q.slowRun C call fn args H n = slowG C (fun n0 => Q.evQ C call n0 fn.ntmps none fn.body) fn args H n := rfl
/-- A row, from its run: where the body begins, where it ends, what it leaves. -/
theorem row_run {C : Cfg} (hQ : Q.Quick C) {m f : Nat} {fn : AFunc} {r : PRow} {tr tr' : Q.T AV} {hp hp' : Q.T AB} {n n' : Nat} {df' : List ADef} {tc' : List Nat} (hx : C.ext f = none) (hxh : C.exth f = none) (hf : C.fns f = some fn) (hw : C.whole f = false)
    (h0 : ∀ K : Q.T AB → Nat → Q.R, Q.ofH r.H K = K hp n) (h1 : ∀ run : Nat → Q.SQ, slowG C run fn r.args hp n = Q.partGo (Q.listH n hp) (List.range n) (Q.finQ C n fn.ntmps fn (run n tr [] hp n [])))
    (h2 : Q.evQ C (Q.callQ C m) n fn.ntmps none fn.body tr [] hp n [] = .ret tr' df' hp' n' tc')
    (h3 : Q.isRow? r (Q.partGo (Q.listH n hp) (List.range n) (Q.finQ C n fn.ntmps fn (.ret tr' df' hp' n' tc'))) = true) (hwell : Q.wellRow r = true) : PRowOk C (Ev.call C m) f r ∧ flatV r.v = true := by
  refine Q.row_ok hQ ?_ hwell
  unfold Q.okRow Q.rowQ
  rw [h0]
  unfold Q.enterQ
  rw [hx, hxh, hf]
  show Q.isRow? r (Bool.rec (Q.slowRun C (Q.callQ C m) fn r.args hp n) (Q.runQ C (Q.callQ C m) fn r.args hp n) (C.whole f)) = true
  rw [hw]
  show Q.isRow? r (Q.slowRun C (Q.callQ C m) fn r.args hp n) = true
  rw [slow_g, h1, h2]
  exact h3
theorem seq_ret {C : Cfg} {call : Q.CallQ} {pin N : Nat} {rd : Option Nat} {a b : AC} {tr tr' : Q.T AV} {df df' : List ADef} {hp hp' : Q.T AB} {n n' : Nat} {tc tc' : List Nat} (h1 : Q.evQ C call pin N rd a tr df hp n tc = .ret tr' df' hp' n' tc') : Q.evQ C call pin N rd (.seq a b) tr df hp n tc = .ret tr' df' hp' n' tc' := by
  show Q.seqR (Q.evQ C call pin N rd a tr df hp n tc) (Q.evQ C call pin N rd b) = _
  rw [h1]; rfl
theorem block_ret {C : Cfg} {call : Q.CallQ} {pin N id : Nat} {rd : Option Nat} {a : AC} {tr tr' : Q.T AV} {df df' : List ADef} {hp hp' : Q.T AB} {n n' : Nat} {tc tc' : List Nat} (h1 : Q.evQ C call pin N rd a tr df hp n tc = .ret tr' df' hp' n' tc') : Q.evQ C call pin N rd (.block id a) tr df hp n tc = .ret tr' df' hp' n' tc' := by
  show Q.blockR id (Q.evQ C call pin N rd a tr df hp n tc) = _
  rw [h1]; rfl
theorem seq_of {c : AC} (h : isSeqP c = true) : c = .seq (fstP c) (sndP c) := by
  cases c <;> first | rfl | cases h
def blkP : AC → AC
  | .block _ c => c
  | c => c
def idP : AC → Nat
  | .block i _ => i
  | _ => 0
def isBlkP : AC → Bool
  | .block _ _ => true
  | _ => false
theorem blk_of {c : AC} (h : isBlkP c = true) : c = .block (idP c) (blkP c) := by
  cases c <;> first | rfl | cases h
def liveP : AC → List Nat
  | .loop l _ => l
  | _ => []
def bodyP : AC → AC
  | .loop _ c => c
  | c => c
def isLoopP : AC → Bool
  | .loop _ _ => true
  | _ => false
theorem loop_of {c : AC} (h : isLoopP c = true) : c = .loop (liveP c) (bodyP c) := by
  cases c <;> first | rfl | cases h
/-- The last piece: a loop that ends with a return. -/
theorem loop_piece {C : Cfg} {call : Q.CallQ} {pin N k : Nat} {rd : Option Nat} {c : AC} {tr tr1 tr' : Q.T AV} {df df1 df' : List ADef} {hp hp1 hp' : Q.T AB} {n n1 n' : Nat} {tc tc1 tc' : List Nat}
    (hs : isSeqP (restP k c) = true) (hs2 : isSeqP (fstP (restP k c)) = true) (hb : isBlkP (sndP (fstP (restP k c))) = true) (hl : isLoopP (blkP (sndP (fstP (restP k c)))) = true)
    (h1 : Q.evQ C call pin N rd (fstP (fstP (restP k c))) tr df hp n tc = .norm tr1 df1 hp1 n1 tc1)
    (h2 : Q.loopQ (Q.headQ C pin N (liveP (blkP (sndP (fstP (restP k c)))))) (Q.evQ C call pin N rd (bodyP (blkP (sndP (fstP (restP k c)))))) fuelL tr1 df1 hp1 n1 tc1 = .ret tr' df' hp' n' tc') :
    Q.evQ C call pin N rd (restP k c) tr df hp n tc = .ret tr' df' hp' n' tc' := by
  rw [seq_of hs]
  refine seq_ret ?_
  rw [seq_of hs2]
  refine seq_step h1 ?_
  rw [blk_of hb]
  refine block_ret ?_
  rw [loop_of hl]
  exact h2
end Ev
end Go.Proofs.YtcaejedfjobooaaGreat
