/- Pieces of code. -/
import Derived.Test.YtcaejedfjobooaaGreatEvQ5
namespace Go.Proofs.YtcaejedfjobooaaGreat
open Go
namespace Ev
def fstP : AC → AC
  | .seq a _ => a
  | c => c
def sndP : AC → AC
  | .seq _ b => b
  | c => c
def isSeqP : AC → Bool
  | .seq _ _ => true
  | _ => false
def restP : Nat → AC → AC
  | 0, c => c
  | k + 1, c => sndP (restP k c)
theorem piece_step {C : Cfg} {call : Q.CallQ} {pin N k : Nat} {rd : Option Nat} {c : AC} {tr tr' : Q.T AV} {df df' : List ADef} {hp hp' : Q.T AB} {n n' : Nat} {tc tc' : List Nat} {r : Q.R} (hs : isSeqP (restP k c) = true)
    (h1 : Q.evQ C call pin N rd (fstP (restP k c)) tr df hp n tc = .norm tr' df' hp' n' tc') (h2 : Q.evQ C call pin N rd (restP (k + 1) c) tr' df' hp' n' tc' = r) : Q.evQ C call pin N rd (restP k c) tr df hp n tc = r := by
  simp only [restP] at h2
  generalize restP k c = d at *
  cases d <;> simp only [isSeqP, Bool.false_eq_true] at hs
  rename_i a b
  show Q.seqR (Q.evQ C call pin N rd a tr df hp n tc) (Q.evQ C call pin N rd b) = r
  rw [show Q.evQ C call pin N rd a tr df hp n tc = .norm tr' df' hp' n' tc' from h1]; exact h2
theorem call_run {C : Cfg} {m f k : Nat} {fn : AFunc} {tr' : Q.T AV} {df' : List ADef} {hp' : Q.T AB} {n' : Nat} {tc' : List Nat} {r : Q.R} (hx : C.ext f = none) (hf : C.fns f = some fn) (hw : C.whole f = true) (hk : Nat.log2 fn.ntmps + 1 = k) (hxh : C.exth f = none)
    (hb : Q.evQ C (Q.callQ C m) 0 fn.ntmps none (restP 0 fn.body) (.e k) [] (.e Q.cap) 0 [] = .ret tr' df' hp' n' tc') (hr : Q.outQ C 0 (.e Q.cap) (Q.finQ C 0 fn.ntmps fn (.ret tr' df' hp' n' tc')) = r) :
    Q.callQ C (m + 1) (.fn (.func f) [] []) [] (.e Q.cap) 0 = r := by
  show Q.enterQ C (Q.callQ C m) f [] (.e Q.cap) 0 = r
  unfold Q.enterQ
  rw [hx, hxh, hf]
  show (Bool.rec (Q.slowRun C (Q.callQ C m) fn [] (.e Q.cap) 0) (Q.runQ C (Q.callQ C m) fn [] (.e Q.cap) 0) (C.whole f) : Q.R) = r
  rw [hw]
  show Q.runQ C (Q.callQ C m) fn [] (.e Q.cap) 0 = r
  unfold Q.runQ
  rw [show Nat.ble (Q.lenL []) fn.ntmps = true from by rw [Q.ble_iff]; simp]
  show Q.newT fn.ntmps (fun tr => Q.outQ C 0 (.e Q.cap) (Q.finQ C 0 fn.ntmps fn (Q.evQ C (Q.callQ C m) 0 fn.ntmps none fn.body tr [] (.e Q.cap) 0 []))) = r
  rw [(Q.newT_spec fn.ntmps _).1, hk]
  rw [show Q.evQ C (Q.callQ C m) 0 fn.ntmps none fn.body (.e k) [] (.e Q.cap) 0 [] = .ret tr' df' hp' n' tc' from hb]
  exact hr
end Ev
end Go.Proofs.YtcaejedfjobooaaGreat
