/- From what the evaluator finds to what a call of the program comes to: a function without parameters that answers a bool. -/
import Derived.Test.YtlcjlcllbgjplaaRmEA
import Derived.Test.YtlcjlcllbgjplaaRmEC
/- The evaluator once more, quick for the kernel: temporaries and heaps in trees, all that is computed is brought into its last form at once. Definitions. -/
namespace Go.Proofs.Ytlcjlcllbgjplaa
open Go
namespace Ev
namespace Q
set_option linter.unusedVariables false
inductive T (α:Type) where
  |e (k:Nat)
  |v (x:α)
  |n (k:Nat) (l r:T α)

inductive R where
  |no
  |norm (tr:T AV) (df:List ADef) (hp:T AB) (n:Nat) (tc:List Nat)
  |exit (id:Nat) (tr:T AV) (df:List ADef) (hp:T AB) (n:Nat) (tc:List Nat)
  |ret (tr:T AV) (df:List ADef) (hp:T AB) (n:Nat) (tc:List Nat)
  |pan (v:AV) (tr:T AV) (df:List ADef) (hp:T AB) (n:Nat) (tc:List Nat)
  |cret (v:AV) (hp:T AB) (n:Nat) (tc:List Nat)
  |cpan (v:AV) (hp:T AB) (n:Nat) (tc:List Nat)

section
variable {α:Type}
noncomputable def getP:T α→Nat→α→α:=fun tr=>T.rec (motive:=fun _=>Nat→α→α) (fun _ _ d=>d) (fun x _ _=>x) (fun k _ _ ihl ihr t d=>Nat.rec (ihl t d) (fun _ _=>ihr t d) (Nat.land t (Nat.pow 2 k))) tr
noncomputable def getK:T α→Nat→R→(α→R)→R:=fun tr=>T.rec (motive:=fun _=>Nat→R→(α→R)→R) (fun _ _ D _=>D) (fun x _ _ K=>K x) (fun k _ _ ihl ihr t D K=>Nat.rec (ihl t D K) (fun _ _=>ihr t D K) (Nat.land t (Nat.pow 2 k))) tr
noncomputable def setE:Nat→Nat→α→(T α→R)→R:=fun k=>Nat.rec (motive:=fun _=>Nat→α→(T α→R)→R) (fun _ v K=>K (.v v))
  (fun k ih t v K=>Nat.rec (ih t v fun l=>K (.n k l (.e k))) (fun _ _=>ih t v fun r=>K (.n k (.e k) r)) (Nat.land t (Nat.pow 2 k))) k
noncomputable def setK:T α→Nat→α→(T α→R)→R:=fun tr=>T.rec (motive:=fun _=>Nat→α→(T α→R)→R) (fun k t v K=>setE k t v K) (fun _ _ v K=>K (.v v))
  (fun k l r ihl ihr t v K=>Nat.rec (ihl t v fun l'=>K (.n k l' r)) (fun _ _=>ihr t v fun r'=>K (.n k l r')) (Nat.land t (Nat.pow 2 k))) tr
end

noncomputable def natK (n:Nat)(K:Nat→R):R:=Nat.rec (K 0) (fun m _=>K (Nat.succ m)) n
noncomputable def boolK (b:Bool)(K:Bool→R):R:=Bool.rec (K false) (K true) b
noncomputable def intK (n:Int)(K:Int→R):R:=Int.rec (fun m=>natK m fun m=>K (Int.ofNat m)) (fun m=>natK m fun m=>K (Int.negSucc m)) n
noncomputable def forceV:AV→(AV→R)→R:=fun v=>AV.rec (motive_1:=fun _=>(AV→R)→R) (motive_2:=fun _=>(List AV→R)→R)
  (fun K=>K .unk) (fun b K=>boolK b fun b=>K (.bool b)) (fun k n K=>intK n fun n=>K (.int k n)) (fun K=>K .nilp)
  (fun b off K=>natK b fun b=>natK off fun off=>K (.ptr b off)) (fun cs _ K=>K (.rp cs)) (fun K=>K .nils)
  (fun b off n k K=>natK b fun b=>natK off fun off=>natK n fun n=>natK k fun k=>K (.sl b off n k)) (fun k es _ K=>K (.vs k es)) (fun K=>K .nilmap)
  (fun b K=>natK b fun b=>K (.map b)) (fun K=>K .nilfn) (fun f _ _ ih1 ih2 K=>ih1 fun a=>ih2 fun b=>K (.fn f a b)) (fun b K=>natK b fun b=>K (.yield b)) (fun K=>K .nilif)
  (fun t _ ih K=>ih fun v=>K (.iface t v)) (fun _ ih K=>ih fun l=>K (.agg l)) (fun _ ih K=>ih fun l=>K (.tup l)) (fun b i K=>natK b fun b=>natK i fun i=>K (.stamp b i))
  (fun K=>K []) (fun _ _ ihv ihl K=>ihv fun v=>ihl fun l=>K (v::l)) v
noncomputable def forceL:List AV→(List AV→R)→R:=fun l=>List.rec (motive:=fun _=>(List AV→R)→R) (fun K=>K []) (fun x _ ih K=>forceV x fun v=>ih fun l=>K (v::l)) l
noncomputable def forceNs:List Nat→(List Nat→R)→R:=fun l=>List.rec (motive:=fun _=>(List Nat→R)→R) (fun K=>K []) (fun x _ ih K=>natK x fun v=>ih fun l=>K (v::l)) l
noncomputable def forceE:List (AV × AV)→(List (AV × AV)→R)→R:=fun l=>List.rec (motive:=fun _=>(List (AV × AV)→R)→R) (fun K=>K []) (fun x _ ih K=>Prod.rec (fun a b=>forceV a fun a=>forceV b fun b=>ih fun l=>K ((a,b)::l)) x) l
noncomputable def lstK (s:LSt)(K:LSt→R):R:=LSt.rec (K .ready) (K .busy) (K .done) (K .exhausted) s
noncomputable def optK (p:Option AExit)(K:Option AExit→R):R:=Option.rec (K none) (fun e=>K (some e)) p
noncomputable def forceLp (r:ALoop)(K:ALoop→R):R:=ALoop.rec (fun st pend tm params assign body dfr=>lstK st fun st=>optK pend fun pend=>forceL tm fun tm=>natK dfr fun d=>K ⟨st,pend,tm,params,assign,body,d⟩) r
noncomputable def forceB (b:AB)(K:AB→R):R:=AB.rec (fun cs=>forceL cs fun cs=>K (.cells cs)) (fun es=>forceE es fun es=>K (.map es)) (fun r=>forceLp r fun r=>K (.loop r)) (K .dfr) (K .dead) b

noncomputable def cellAt:List AV→Nat→(AV→R)→R:=fun l=>List.rec (motive:=fun _=>Nat→(AV→R)→R) (fun _ _=>.no) (fun x _ ih i K=>Nat.rec (K x) (fun i _=>ih i K) i) l
noncomputable def takeK:List AV→Nat→(List AV→R)→R:=fun l=>List.rec (motive:=fun _=>Nat→(List AV→R)→R) (fun n K=>Nat.rec (K []) (fun _ _=>.no) n)
  (fun x _ ih n K=>Nat.rec (K []) (fun n _=>ih n fun l=>K (x::l)) n) l
noncomputable def partK:List AV→Nat→Nat→(List AV→R)→R:=fun l=>List.rec (motive:=fun _=>Nat→Nat→(List AV→R)→R) (fun i n K=>Nat.rec (takeK [] n K) (fun _ _=>.no) i)
  (fun x r ih i n K=>Nat.rec (takeK (x::r) n K) (fun i _=>ih i n K) i) l
noncomputable def overK:List AV→List AV→(List AV→R)→R:=fun l=>List.rec (motive:=fun _=>List AV→(List AV→R)→R) (fun cs K=>K cs)
  (fun y _ ih cs K=>List.rec .no (fun _ r _=>ih r fun l=>K (y::l)) cs) l
noncomputable def putK:List AV→Nat→List AV→(List AV→R)→R:=fun cs=>List.rec (motive:=fun _=>Nat→List AV→(List AV→R)→R) (fun i l K=>Nat.rec (overK l [] K) (fun _ _=>.no) i)
  (fun x r ih i l K=>Nat.rec (overK l (x::r) K) (fun i _=>ih i l fun cs=>K (x::cs)) i) cs
noncomputable def catL:List AV→List AV→(List AV→R)→R:=fun l=>List.rec (motive:=fun _=>List AV→(List AV→R)→R) (fun m K=>K m) (fun x _ ih m K=>ih m fun l=>K (x::l)) l
noncomputable def lenL:List AV→Nat:=fun l=>List.rec (motive:=fun _=>Nat) 0 (fun _ _ ih=>Nat.succ ih) l
noncomputable def lenNs:List Nat→Nat:=fun l=>List.rec (motive:=fun _=>Nat) 0 (fun _ _ ih=>Nat.succ ih) l

noncomputable def blockK (hp:T AB)(n b:Nat)(K:AB→R):R:=Bool.rec .no (getK hp b .no K) (Nat.ble (Nat.succ b) n)
noncomputable def cellsAt (hp:T AB)(n b:Nat)(K:List AV→R):R:=blockK hp n b fun x=>AB.rec (fun cs=>K cs) (fun _=>.no) (fun _=>.no) .no .no x
noncomputable def loopAt (hp:T AB)(n b:Nat)(K:ALoop→R):R:=blockK hp n b fun x=>AB.rec (fun _=>.no) (fun _=>.no) (fun r=>K r) .no .no x
noncomputable def aliveAt (hp:T AB)(n b:Nat)(K:R):R:=blockK hp n b fun x=>AB.rec (fun _=>K) (fun _=>K) (fun _=>K) K .no x
def cap:Nat:=7
noncomputable def pushK (hp:T AB)(n:Nat)(b:AB)(K:T AB→Nat→R):R:=Bool.rec .no (setK hp n b fun hp=>K hp (Nat.succ n)) (Nat.ble n 127)
noncomputable def listT (N:Nat)(tr:T AV):List AV:=(List.range N).map fun i=>getP tr i .unk
noncomputable def listH (n:Nat)(hp:T AB):List AB:=(List.range n).map fun i=>getP hp i .dead
noncomputable def pushAll:List AB→T AB→Nat→(T AB→Nat→R)→R:=fun l=>List.rec (motive:=fun _=>T AB→Nat→(T AB→Nat→R)→R) (fun hp n K=>K hp n) (fun b _ ih hp n K=>forceB b fun b=>pushK hp n b fun hp n=>ih hp n K) l
noncomputable def ofH (l:List AB)(K:T AB→Nat→R):R:=pushAll l (.e cap) 0 K

noncomputable def valK:Opnd→T AV→(AV→R)→R:=fun x=>Opnd.rec (motive:=fun _=>T AV→(AV→R)→R) (fun t tr K=>getK tr t (K .unk) K) (fun v _ K=>K v) (fun _ _ _=>.no) x
noncomputable def val (N:Nat)(tr:T AV)(x:Opnd):AV:=Opnd.rec (fun t=>Bool.rec .unk (getP tr t .unk) (Nat.ble (Nat.succ t) N)) (fun v=>v) (fun _=>.unk) x
noncomputable def asInt (v:AV)(K:IntKind→Int→R):R:=AV.rec (motive_1:=fun _=>R) (motive_2:=fun _=>Unit) .no (fun _=>.no) (fun k n=>K k n) .no (fun _ _=>.no) (fun _ _=>.no) .no (fun _ _ _ _=>.no) (fun _ _ _=>.no) .no (fun _=>.no) .no (fun _ _ _ _ _=>.no) (fun _=>.no) .no (fun _ _ _=>.no) (fun _ _=>.no) (fun _ _=>.no) (fun _ _=>.no) () (fun _ _ _ _=>()) v
noncomputable def asBool (v:AV)(K:Bool→R):R:=AV.rec (motive_1:=fun _=>R) (motive_2:=fun _=>Unit) .no (fun b=>K b) (fun _ _=>.no) .no (fun _ _=>.no) (fun _ _=>.no) .no (fun _ _ _ _=>.no) (fun _ _ _=>.no) .no (fun _=>.no) .no (fun _ _ _ _ _=>.no) (fun _=>.no) .no (fun _ _ _=>.no) (fun _ _=>.no) (fun _ _=>.no) (fun _ _=>.no) () (fun _ _ _ _=>()) v
noncomputable def asBT (v:AV)(K:Bool→R)(S:R):R:=AV.rec (motive_1:=fun _=>R) (motive_2:=fun _=>Unit) .no (fun b=>K b) (fun _ _=>.no) .no (fun _ _=>.no) (fun _ _=>.no) .no (fun _ _ _ _=>.no) (fun _ _ _=>.no) .no (fun _=>.no) .no (fun _ _ _ _ _=>.no) (fun _=>.no) .no (fun _ _ _=>.no) (fun _ _=>.no) (fun l _=>List.rec S (fun _ _ _=>.no) l) (fun _ _=>.no) () (fun _ _ _ _=>()) v
noncomputable def asTup (v:AV)(K:List AV→R):R:=AV.rec (motive_1:=fun _=>R) (motive_2:=fun _=>Unit) .no (fun _=>.no) (fun _ _=>.no) .no (fun _ _=>.no) (fun _ _=>.no) .no (fun _ _ _ _=>.no) (fun _ _ _=>.no) .no (fun _=>.no) .no (fun _ _ _ _ _=>.no) (fun _=>.no) .no (fun _ _ _=>.no) (fun _ _=>.no) (fun l _=>K l) (fun _ _=>.no) () (fun _ _ _ _=>()) v
noncomputable def asAgg (v:AV)(K:List AV→R):R:=AV.rec (motive_1:=fun _=>R) (motive_2:=fun _=>Unit) .no (fun _=>.no) (fun _ _=>.no) .no (fun _ _=>.no) (fun _ _=>.no) .no (fun _ _ _ _=>.no) (fun _ _ _=>.no) .no (fun _=>.no) .no (fun _ _ _ _ _=>.no) (fun _=>.no) .no (fun _ _ _=>.no) (fun l _=>K l) (fun _ _=>.no) (fun _ _=>.no) () (fun _ _ _ _=>()) v
noncomputable def asPtr (v:AV)(K:Nat→Nat→R)(O:R):R:=AV.rec (motive_1:=fun _=>R) (motive_2:=fun _=>Unit) O (fun _=>O) (fun _ _=>O) O (fun b o=>K b o) (fun _ _=>O) O (fun _ _ _ _=>O) (fun _ _ _=>O) O (fun _=>O) O (fun _ _ _ _ _=>O) (fun _=>O) O (fun _ _ _=>O) (fun _ _=>O) (fun _ _=>O) (fun _ _=>O) () (fun _ _ _ _=>()) v
noncomputable def asSl (v:AV)(K:Nat→Nat→Nat→Nat→R)(O:R):R:=AV.rec (motive_1:=fun _=>R) (motive_2:=fun _=>Unit) O (fun _=>O) (fun _ _=>O) O (fun _ _=>O) (fun _ _=>O) O (fun b o n k=>K b o n k) (fun _ _ _=>O) O (fun _=>O) O (fun _ _ _ _ _=>O) (fun _=>O) O (fun _ _ _=>O) (fun _ _=>O) (fun _ _=>O) (fun _ _=>O) () (fun _ _ _ _=>()) v
noncomputable def asIface (v:AV)(K:Nat→AV→R)(O:R):R:=AV.rec (motive_1:=fun _=>R) (motive_2:=fun _=>Unit) O (fun _=>O) (fun _ _=>O) O (fun _ _=>O) (fun _ _=>O) O (fun _ _ _ _=>O) (fun _ _ _=>O) O (fun _=>O) O (fun _ _ _ _ _=>O) (fun _=>O) O (fun t v _=>K t v) (fun _ _=>O) (fun _ _=>O) (fun _ _=>O) () (fun _ _ _ _=>()) v
noncomputable def asFn (v:AV)(K:Fn→List AV→List AV→R)(Y:Nat→R):R:=AV.rec (motive_1:=fun _=>R) (motive_2:=fun _=>Unit) .no (fun _=>.no) (fun _ _=>.no) .no (fun _ _=>.no) (fun _ _=>.no) .no (fun _ _ _ _=>.no) (fun _ _ _=>.no) .no (fun _=>.no) .no (fun f a b _ _=>K f a b) (fun l=>Y l) .no (fun _ _ _=>.no) (fun _ _=>.no) (fun _ _=>.no) (fun _ _=>.no) () (fun _ _ _ _=>()) v
noncomputable def cellsK (v:AV)(K:List AV→R):R:=AV.rec (motive_1:=fun _=>R) (motive_2:=fun _=>Unit) (.no) (fun a=>K [.bool a]) (fun a b=>K [.int a b]) (K [.nilp]) (fun a b=>K [.ptr a b]) (fun a b=>K [.rp a]) (K [.nils]) (fun a b c d=>K [.sl a b c d]) (fun a b c=>K [.vs a b]) (K [.nilmap]) (fun a=>K [.map a]) (K [.nilfn]) (fun a b c d f=>K [.fn a b c]) (fun a=>K [.yield a]) (K [.nilif]) (fun a b c=>K [.iface a b]) (fun l _=>K l) (fun _ _=>.no) (fun a b=>K [.stamp a b]) () (fun _ _ _ _=>()) v

noncomputable def kix:IntKind→Nat:=fun k=>IntKind.rec 0 1 2 3 4 5 6 7 k
noncomputable def fits:IntKind→Int→Bool:=fun k n=>Int.rec
  (fun m=>Nat.ble m (IntKind.rec 127 32767 2147483647 9223372036854775807 255 65535 4294967295 18446744073709551615 k))
  (fun m=>Nat.ble (Nat.succ m) (IntKind.rec 128 32768 2147483648 9223372036854775808 0 0 0 0 k)) n
noncomputable def wrapK (k:IntKind)(n:Int)(K:Int→R):R:=intK n fun n=>Bool.rec (intK (k.wrap n) K) (K n) (fits k n)
noncomputable def subNN (m n:Nat):Int:=Nat.rec (Int.ofNat (Nat.sub m n)) (fun d _=>Int.negSucc d) (Nat.sub n m)
noncomputable def addI (x y:Int):Int:=Int.rec (fun a=>Int.rec (fun b=>Int.ofNat (Nat.add a b)) (fun b=>subNN a (Nat.succ b)) y) (fun a=>Int.rec (fun b=>subNN b (Nat.succ a)) (fun b=>Int.negSucc (Nat.succ (Nat.add a b))) y) x
noncomputable def negI (x:Int):Int:=Int.rec (fun a=>Nat.rec (Int.ofNat 0) (fun m _=>Int.negSucc m) a) (fun a=>Int.ofNat (Nat.succ a)) x
noncomputable def leI (x y:Int):Bool:=Int.rec (fun a=>Int.rec (fun b=>Nat.ble a b) (fun _=>false) y) (fun a=>Int.rec (fun _=>true) (fun b=>Nat.ble b a) y) x
noncomputable def eqI (x y:Int):Bool:=Int.rec (fun a=>Int.rec (fun b=>Nat.beq a b) (fun _=>false) y) (fun a=>Int.rec (fun _=>false) (fun b=>Nat.beq a b) y) x
noncomputable def notB (b:Bool):Bool:=Bool.rec true false b
noncomputable def andB (a b:Bool):Bool:=Bool.rec false b a
noncomputable def asNatI (n:Int)(K:Nat→R):R:=Int.rec (fun m=>K m) (fun _=>.no) n

abbrev FK:=AV→T AB→Nat→List Nat→R
abbrev FO:=Nat→T AV→T AB→Nat→FK→R
noncomputable def oSlowV (k:AK):FO:=fun N tr hp n K=>Option.rec .no (fun p=>Prod.rec (fun v ft=>Bool.rec .no (forceV v fun v=>forceNs ft fun ft=>K v hp n ft) (ft.all fun b=>decide (b<(listH n hp).length))) p) (xval (listH n hp) (val N tr) k)
noncomputable def oSlowN (k:AK):FO:=fun N tr hp n K=>Option.rec .no (fun p=>Prod.rec (fun b mk=>forceB b fun b=>pushK hp n b fun hp m=>forceV (mk n) fun v=>K v hp m [n]) p) (xnew (val N tr) k)
noncomputable def slowBin (op:BinOp)(k:IntKind)(x:Int)(k':IntKind)(y:Int)(K:AV→R):R:=Option.rec .no (fun v=>forceV v K) (binI op k x k' y)
noncomputable def fBin (op:BinOp)(k:IntKind)(x:Int)(k':IntKind)(y:Int)(K:AV→R):R:=
  Bool.rec (slowBin op k x k' y K)
    (BinOp.rec (motive := fun _ => R) (wrapK k (addI x y) fun n => K (.int k n)) (wrapK k (addI x (negI y)) fun n => K (.int k n))
      (slowBin op k x k' y K) (slowBin op k x k' y K) (slowBin op k x k' y K) (slowBin op k x k' y K) (slowBin op k x k' y K) (slowBin op k x k' y K) (slowBin op k x k' y K) (slowBin op k x k' y K) (slowBin op k x k' y K)
      (boolK (eqI x y) fun b=>K (.bool b)) (boolK (notB (eqI x y)) fun b=>K (.bool b)) (boolK (notB (leI y x)) fun b=>K (.bool b)) (boolK (leI x y) fun b=>K (.bool b)) (boolK (notB (leI x y)) fun b=>K (.bool b)) (boolK (leI y x) fun b=>K (.bool b)) op)
    (Nat.beq (kix k) (kix k'))
noncomputable def pickK (k:Option Nat)(cs:List AV)(off:Nat)(K:AV→R):R:=Option.rec (cellAt cs off K) (fun k=>partK cs off k fun l=>K (.agg l)) k

noncomputable def oMov (x:Opnd):FO:=fun N tr hp n K=>valK x tr fun v=>K v hp n []
noncomputable def oAlloc (z:List AV):FO:=fun N tr hp n K=>pushK hp n (.cells z) fun hp m=>K (.ptr n 0) hp m [n]
noncomputable def oBox (x:Opnd):FO:=fun N tr hp n K=>valK x tr fun v=>cellsK v fun cs=>pushK hp n (.cells cs) fun hp m=>K (.ptr n 0) hp m [n]
noncomputable def oLoad (k:Option Nat)(a:Opnd):FO:=fun N tr hp n K=>valK a tr fun v=>asPtr v (fun b off=>cellsAt hp n b fun cs=>pickK k cs off fun v=>K v hp n [b]) (oSlowV (.load k a) N tr hp n K)
noncomputable def oNilck (x:Opnd):FO:=fun N tr hp n K=>valK x tr fun v=>asPtr v (fun b off=>aliveAt hp n b (K (.ptr b off) hp n [b])) (oSlowV (.nilck x) N tr hp n K)
noncomputable def oBin (op:BinOp)(x y:Opnd):FO:=fun N tr hp n K=>valK x tr fun v=>valK y tr fun w=>asInt v fun k a=>asInt w fun k' b=>fBin op k a k' b fun v=>K v hp n []
noncomputable def oNot (x:Opnd):FO:=fun N tr hp n K=>valK x tr fun v=>asBool v fun b=>boolK (notB b) fun b=>K (.bool b) hp n []
noncomputable def oConv (k:IntKind)(x:Opnd):FO:=fun N tr hp n K=>valK x tr fun v=>asInt v fun _ i=>wrapK k i fun i=>K (.int k i) hp n []
noncomputable def oIface (t:Nat)(x:Opnd):FO:=fun N tr hp n K=>valK x tr fun v=>K (.iface t v) hp n []
noncomputable def oFieldA (off:Nat)(x:Opnd):FO:=fun N tr hp n K=>valK x tr fun v=>asPtr v (fun b o=>aliveAt hp n b (natK (Nat.add o off) fun o=>K (.ptr b o) hp n [b])) (oSlowV (.fieldA off x) N tr hp n K)
noncomputable def oFieldV (off:Nat)(k:Option Nat)(x:Opnd):FO:=fun N tr hp n K=>valK x tr fun v=>asAgg v fun cs=>pickK k cs off fun v=>K v hp n []
noncomputable def oIndexA (k:Nat)(arr:Option Nat)(x i:Opnd):FO:=fun N tr hp n K=>
  valK i tr fun vi=>asInt vi fun _ i'=>asNatI i' fun j=>valK x tr fun v=>Option.rec
    (asSl v (fun b off m k'=>Bool.rec .no (aliveAt hp n b (natK (Nat.add off (Nat.mul j k)) fun o=>K (.ptr b o) hp n [b])) (andB (Nat.ble (Nat.succ j) m) (Nat.beq k k'))) (oSlowV (.indexA k none x i) N tr hp n K))
    (fun m=>asPtr v (fun b o=>Bool.rec .no (aliveAt hp n b (natK (Nat.add o (Nat.mul j k)) fun o=>K (.ptr b o) hp n [b])) (Nat.ble (Nat.succ j) m)) (oSlowV (.indexA k (some m) x i) N tr hp n K)) arr
noncomputable def oExtract (x:Opnd)(i:Nat):FO:=fun N tr hp n K=>valK x tr fun v=>asTup v fun l=>cellAt l i fun v=>K v hp n []
noncomputable def oLen (x:Opnd):FO:=fun N tr hp n K=>valK x tr fun v=>asSl v (fun b _ m _=>aliveAt hp n b (K (.int .i64 (Int.ofNat m)) hp n [b])) (oSlowV (.len x) N tr hp n K)
noncomputable def oPick (c a b:Opnd):FO:=fun N tr hp n K=>valK c tr fun vc=>asBool vc fun t=>valK a tr fun x=>valK b tr fun y=>boolK t fun t=>Bool.rec (K y hp n []) (K x hp n []) t
noncomputable def fillK:List (Nat × Nat × Opnd)→List AV→T AV→(List AV→R)→R:=fun l=>List.rec (motive:=fun _=>List AV→T AV→(List AV→R)→R) (fun cs _ K=>K cs)
  (fun p _ ih cs tr K=>valK p.2.2 tr fun v=>cellsK v fun l=>Bool.rec .no (putK cs p.1 l fun cs=>ih cs tr K) (andB (Nat.beq (lenL l) p.2.1) (Nat.ble (Nat.add p.1 p.2.1) (lenL cs)))) l
noncomputable def oBuild (z:List AV)(parts:List (Nat × Nat × Opnd)):FO:=fun N tr hp n K=>fillK parts z tr fun cs=>K (.agg cs) hp n []
noncomputable def oEq (e:EK)(neg:Bool)(x y:Opnd):FO:=fun N tr hp n K=>valK x tr fun v=>valK y tr fun w=>Option.rec .no (fun b=>boolK (Bool.rec b (notB b) neg) fun b=>K (.bool b) hp n []) (aeqK e v w)

abbrev CallQ:=AV→List AV→T AB→Nat→R
abbrev SO:=CallQ→Nat→T AV→T AB→Nat→FK→FK→R
noncomputable def plainL:List AV→Bool:=fun l=>List.rec true (fun x _ ih=>andB (AV.plain x) ih) l
noncomputable def oStore (k:Nat)(a x:Opnd):SO:=fun _ N tr hp n K _=>
  valK a tr fun va=>asPtr va (fun b off=>valK x tr fun vx=>cellsK vx fun l=>cellsAt hp n b fun cs=>Bool.rec .no (putK cs off l fun cs'=>setK hp b (.cells cs') fun hp'=>K .unk hp' n [b]) (andB (Nat.beq (lenL l) k) (plainL l))) .no
noncomputable def oEff (k:AK):SO:=fun _ N tr hp n K _=>Option.rec .no (fun r:XR=>forceV r.v fun v=>ofH r.hp fun hp n=>forceNs r.tc fun tc=>K v hp n tc) (xeff (listH n hp) (val N tr) k)
noncomputable def ends (r:R)(K P:FK):R:=R.rec .no (fun _ _ _ _ _=>.no) (fun _ _ _ _ _ _=>.no) (fun _ _ _ _ _=>.no) (fun _ _ _ _ _ _=>.no) (fun v hp n tc=>K v hp n tc) (fun v hp n tc=>P v hp n tc) r
noncomputable def argsK:List Opnd→T AV→(List AV→R)→R:=fun l=>List.rec (motive:=fun _=>T AV→(List AV→R)→R) (fun _ K=>K []) (fun x _ ih tr K=>valK x tr fun v=>ih tr fun l=>K (v::l)) l
noncomputable def oCall (f:Opnd)(args:List Opnd):SO:=fun call N tr hp n K P=>valK f tr fun f=>argsK args tr fun l=>ends (call f l hp n) K P
noncomputable def lookK:List (Nat × Nat)→Nat→(Nat→R)→R:=fun l=>List.rec (motive:=fun _=>Nat→(Nat→R)→R) (fun _ _=>.no) (fun p _ ih t K=>Bool.rec (ih t K) (K p.2) (Nat.beq t p.1)) l
noncomputable def oInvoke (x:Opnd)(tbl:List (Nat × Nat))(args:List Opnd):SO:=fun call N tr hp n K P=>
  valK x tr fun v=>asIface v (fun t v=>lookK tbl t fun f=>argsK args tr fun l=>ends (call (.fn (.func f) [] []) (v::l) hp n) K P) .no
noncomputable def oPanic (x:Opnd):SO:=fun _ N tr hp n K P=>valK x tr fun v=>asIface v (fun t v=>P (.iface t v) hp n []) .no

noncomputable def apartN:List Nat→List Nat→Bool:=fun ys xs=>List.rec true (fun x _ ih=>andB (List.rec true (fun y _ ih=>andB (notB (Nat.beq x y)) ih) ys) ih) xs
noncomputable def flOk:List (Nat × List Nat)→Nat→List Nat→Bool:=fun fl deps tc=>List.rec true (fun _ _ _=>List.rec true (fun p _ ih=>andB (Nat.rec (apartN tc p.2) (fun _ _=>true) (Nat.land deps (Nat.pow 2 p.1))) ih) fl) tc
noncomputable def putT' (tr:T AV)(dst:Option Nat)(v:AV)(K:T AV→R):R:=Option.rec (K tr) (fun d=>setK tr d v K) dst
noncomputable def filterN (pin:Nat):List Nat→List Nat→(List Nat→R)→R:=fun l=>List.rec (motive:=fun _=>List Nat→(List Nat→R)→R) (fun tc K=>K tc)
  (fun x _ ih tc K=>ih tc fun r=>Bool.rec (K r) (K (x::r)) (Nat.ble (Nat.succ x) pin)) l
abbrev OK:=List (Nat × List Nat)→T AV→List ADef→T AB→Nat→List Nat→R
abbrev OG:=CallQ→Nat→Nat→Bool→Bool→AOp→List (Nat × List Nat)→T AV→List ADef→T AB→Nat→List Nat→OK→R
noncomputable def goF (f:FO):OG:=fun call pin N nod drawn o fl tr df hp n tc K=>f N tr hp n fun v hp n ft=>putT' tr o.dst v fun tr=>Bool.rec (K fl tr df hp n tc) (K ((o.ix,ft)::fl) tr df hp n tc) drawn
noncomputable def goS (f:SO):OG:=fun call pin N nod drawn o fl tr df hp n tc K=>f call N tr hp n
  (fun v hp n t=>Bool.rec .no (filterN pin t tc fun tc=>putT' tr o.dst v fun tr=>K fl tr df hp n tc) (Bool.rec true (flOk fl o.deps t) drawn))
  (fun v hp n t=>Bool.rec .no (filterN pin t tc fun tc=>.pan v tr df hp n tc) (Bool.rec true (flOk fl o.deps t) drawn))
noncomputable def fnK (f:Fn)(K:Nat→R):R:=match f with
  |.func f=>K f
  |_=>.no
noncomputable def goD (f : Opnd) (args : List Opnd) : OG := fun call pin N nod drawn o fl tr df hp n tc K => Bool.rec (Bool.rec
  (valK f tr fun v=>asFn v (fun f first captured=>fnK f fun f=>List.rec (argsK args tr fun l=>catL l captured fun l=>putT' tr o.dst .unk fun tr=>K fl tr (.call f l::df) hp n tc) (fun _ _ _=>.no) first) (fun _=>.no)) .no nod) .no drawn
noncomputable def opT:AK→OG:=fun k=>AK.rec (motive:=fun _=>OG)
  (fun x=>goF (oMov x)) (fun c a b=>goF (oPick c a b)) (fun z=>goF (oAlloc z)) (fun x=>goF (oBox x)) (fun z p=>goF (oBuild z p)) (fun k n z p=>goF (oSlowN (.buildSl k n z p))) (fun k a=>goF (oLoad k a)) (fun k a x=>goS (oStore k a x)) (fun x=>goF (oNilck x)) (fun m tbl x=>goF (oSlowV (.nilckM m tbl x)))
  (fun op x y=>goF (oBin op x y)) (fun e n x y=>goF (oEq e n x y)) (fun x=>goF (oNot x)) (fun x=>goF (oSlowV (.neg x))) (fun k x=>goF (oConv k x)) (fun t x=>goF (oIface t x)) (fun f a b=>goF (oSlowV (.mkfn f a b))) (goF (oSlowN .mkmap)) (fun k z l c=>goF (oSlowN (.mksl k z l c))) (fun k x l h=>goF (oSlowV (.slice k x l h)))
  (fun off x=>goF (oFieldA off x)) (fun off k x=>goF (oFieldV off k x)) (fun k arr x i=>goF (oIndexA k arr x i)) (fun n s k x i=>goF (oSlowV (.indexV n s k x i))) (fun e o z m k=>goF (oSlowV (.lookup e o z m k))) (fun e m k x=>goS (oEff (.mapupd e m k x))) (fun t z x=>goF (oSlowV (.tassert t z x))) (fun x i=>goF (oExtract x i)) (fun x=>goF (oLen x))
  (fun k a b=>goS (oEff (.append k a b))) (fun k a b=>goS (oEff (.copy k a b))) (fun l=>goF (oSlowV (.max l))) (fun l=>goF (oSlowV (.min l))) (fun f l=>goS (oCall f l)) (fun x tbl l=>goS (oInvoke x tbl l)) (fun f l=>goD f l) (fun x=>goS (oPanic x)) (fun n x=>goF (oSlowV (.isnil n x))) (fun k m x l h=>goF (oSlowV (.sliceA k m x l h))) (fun e z m k=>goS (oEff (.mapent e z m k))) (fun m s x=>goS (oEff (.entst m s x))) k
noncomputable def opGo:OG:=fun call pin N nod drawn o=>opT o.op call pin N nod drawn o
noncomputable def opGuard (g:Nat × Bool):OG:=fun call pin N nod drawn o fl tr df hp n tc K=>getK tr g.1 .no fun v=>asBT v (fun b=>Bool.rec (putT' tr o.dst (.tup []) fun tr=>K fl tr df hp n tc) (opT o.op call pin N nod drawn o fl tr df hp n tc K) (Bool.rec (notB b) b g.2)) (putT' tr o.dst (.tup []) fun tr=>K fl tr df hp n tc)
noncomputable def opG:OG:=fun call pin N nod drawn o=>Option.rec (motive:=fun _=>CallQ→Nat→Nat→Bool→Bool→AOp→List (Nat × List Nat)→T AV→List ADef→T AB→Nat→List Nat→OK→R) opGo opGuard o.guard call pin N nod drawn o
noncomputable def opsQ (call:CallQ)(pin N:Nat)(nod drawn:Bool):List AOp→OK:=fun l=>List.rec (motive:=fun _=>OK) (fun _ tr df hp n tc=>.norm tr df hp n tc)
  (fun o _ ih fl tr df hp n tc=>opG call pin N nod drawn o fl tr df hp n tc ih) l

noncomputable def forgetK:List Nat→T AV→(T AV→R)→R:=fun l=>List.rec (motive:=fun _=>T AV→(T AV→R)→R) (fun tr K=>K tr) (fun t _ ih tr K=>setK tr t .unk fun tr=>ih tr K) l
noncomputable def keepK:List Nat→T AV→T AV→(T AV→R)→R:=fun l=>List.rec (motive:=fun _=>T AV→T AV→(T AV→R)→R) (fun _ acc K=>K acc) (fun t _ ih tr acc K=>getK tr t (ih tr acc K) fun v=>setK acc t v fun acc=>ih tr acc K) l
abbrev SQ:=T AV→List ADef→T AB→Nat→List Nat→R
noncomputable def seqR (r:R)(K:SQ):R:=R.rec .no (fun tr df hp n tc=>K tr df hp n tc) (fun i tr df hp n tc=>.exit i tr df hp n tc) (fun tr df hp n tc=>.ret tr df hp n tc) (fun v tr df hp n tc=>.pan v tr df hp n tc) (fun _ _ _ _=>.no) (fun _ _ _ _=>.no) r
noncomputable def normR (r:R)(K:SQ):R:=R.rec .no (fun tr df hp n tc=>K tr df hp n tc) (fun _ _ _ _ _ _=>.no) (fun _ _ _ _ _=>.no) (fun _ _ _ _ _ _=>.no) (fun _ _ _ _=>.no) (fun _ _ _ _=>.no) r
noncomputable def blockR (id:Nat)(r:R):R:=R.rec .no (fun tr df hp n tc=>.norm tr df hp n tc) (fun i tr df hp n tc=>Bool.rec (.exit i tr df hp n tc) (.norm tr df hp n tc) (Nat.beq i id)) (fun tr df hp n tc=>.ret tr df hp n tc) (fun v tr df hp n tc=>.pan v tr df hp n tc) (fun _ _ _ _=>.no) (fun _ _ _ _=>.no) r
noncomputable def panR (l:List AOp)(r:R):R:=R.rec .no (fun tr df hp n tc=>.norm tr df hp n tc) (fun _ _ _ _ _ _=>.no) (fun _ _ _ _ _=>.no) (fun v tr df hp n tc=>forgetK (l.filterMap (·.dst)) tr fun tr=>.pan v tr df hp n tc) (fun _ _ _ _=>.no) (fun _ _ _ _=>.no) r
noncomputable def loopQ (head:SQ→SQ)(body:SQ):Nat→SQ:=fun m=>Nat.rec (fun _ _ _ _ _=>.no) (fun _ ih=>head fun tr df hp n tc=>seqR (body tr df hp n tc) ih) m
noncomputable def laysK:List AV→Nat→T AV→(T AV→R)→R:=fun l=>List.rec (motive:=fun _=>Nat→T AV→(T AV→R)→R) (fun _ tr K=>K tr) (fun v _ ih i tr K=>setK tr i v fun tr=>ih (Nat.succ i) tr K) l
noncomputable def parsK:List Nat→List AV→T AV→(T AV→R)→R:=fun l=>List.rec (motive:=fun _=>List AV→T AV→(T AV→R)→R) (fun _ tr K=>K tr) (fun p _ ih as tr K=>List.rec (K tr) (fun a as _=>setK tr p a fun tr=>ih as tr K) as) l
noncomputable def newT (N:Nat)(K:T AV→R):R:=natK (Nat.succ (Nat.log2 N)) fun k=>K (.e k)
noncomputable def ofL (N:Nat)(l:List AV)(K:T AV→R):R:=newT N fun tr=>laysK l 0 tr K
noncomputable def ofDf (d:ADef)(K:ADef→R):R:=ADef.rec (fun d=>natK d fun d=>K (.mark d)) (fun f args=>forceL args fun l=>K (.call f l)) d
noncomputable def ofDfs:List ADef→(List ADef→R)→R:=fun l=>List.rec (motive:=fun _=>(List ADef→R)→R) (fun K=>K []) (fun d _ ih K=>ofDf d fun d=>ih fun l=>K (d::l)) l
noncomputable def ofSt (N:Nat)(st:St)(K:SQ):R:=St.rec (fun tm df hp tc=>forceL tm fun tm=>ofL N tm fun tr=>ofDfs df fun df=>ofH hp fun hp n=>forceNs tc fun tc=>K tr df hp n tc) st

def okO (N:Nat):Opnd→Bool
  |.tmp t=>Nat.ble (Nat.succ t) N
  |_=>true
def okOp (N:Nat)(o:AOp):Bool:=o.names.all fun t=>Nat.ble (Nat.succ t) N
def okC (N:Nat):AC→Bool
  |.ops l|.draw l=>l.all (okOp N)
  |.seq a b=>okC N a&&okC N b
  |.cond c a b=>okO N c&&(okC N a&&okC N b)
  |.block _ c=>okC N c
  |.loop live c=>(live.all fun t=>Nat.ble (Nat.succ t) N)&&okC N c
  |.rangeF g _ _ _=>okO N g
  |.skip|.exit _|.ret=>true
def okR (N:Nat):ARes→Bool
  |.tmp t=>Nat.ble (Nat.succ t) N
  |.cell t _=>Nat.ble (Nat.succ t) N
def okF (fn:AFunc):Bool:=okC fn.ntmps fn.body&&fn.res.all (okR fn.ntmps)
section
variable (C:Cfg) (call:CallQ)
noncomputable def headQ (pin N:Nat)(live:List Nat)(K:SQ):SQ:=fun tr df hp n tc=>newT N fun acc=>keepK live tr acc fun tr=>
  Bool.rec (ofSt N (gc pin { tm:=listT N tr,df:=df,hp:=listH n hp,tc:=tc }) K) (K tr df hp n tc) ((C.calm || Nat.ble n (Nat.add pin C.gcAt)))
noncomputable def jumpQ (pend:Option AExit)(tr:T AV)(df:List ADef)(hp:T AB)(n:Nat)(tc:List Nat):R:=
  Option.rec (.norm tr df hp n tc) (fun e=>AExit.rec (.norm tr df hp n tc) (fun i=>.exit i tr df hp n tc) (.ret tr df hp n tc) (fun _=>.no) e) pend
noncomputable def notBusy (s:LSt)(K:R):R:=LSt.rec K .no K K s
noncomputable def isReady (s:LSt)(K:R):R:=LSt.rec K .no .no .no s
noncomputable def rangeGo (pin N:Nat)(gf:Nat)(first captured:List AV)(ps:List Nat)(as bd:AC)(tr:T AV)(tc:List Nat)(d:Nat)(df:List ADef)(hp0:T AB)(n0:Nat):R:=
  forceL (listT N tr) fun tm=>pushK hp0 n0 (.loop ⟨.ready,none,tm,ps,as,bd,d⟩) fun hp1 n1=>ends (call (.fn (.func gf) first captured) [.yield n0] hp1 n1)
    (fun _ hp' n' t=>loopAt hp' n' n0 fun r=>notBusy r.st <| setK hp' n0 .dead fun hp'=>filterN pin t tc fun tc=>jumpQ r.pend tr df hp' n' tc)
    (fun v hp' n' t=>filterN pin t tc fun tc=>.pan v tr df hp' n' tc)
noncomputable def rangeQ (pin N:Nat)(rd:Option Nat)(g:Opnd)(ps:List Nat)(as bd:AC):SQ:=fun tr df hp n tc=>
  valK g tr fun v => asFn v (fun f first captured => fnK f fun gf =>
    Option.rec (pushK hp n .dfr fun hp m=>rangeGo call pin N gf first captured ps as bd tr tc n (.mark n::df) hp m) (fun l=>loopAt hp n l fun r=>rangeGo call pin N gf first captured ps as bd tr tc r.dfr df hp n) rd) (fun _=>.no)
noncomputable def evQ (pin N:Nat)(rd:Option Nat):AC→SQ:=fun c=>AC.rec (motive:=fun _=>SQ) (fun tr df hp n tc=>.norm tr df hp n tc)
  (fun l tr df hp n tc=>opsQ call pin N rd.isSome false l [] tr df hp n tc)
  (fun l tr df hp n tc=>panR l (opsQ call pin N rd.isSome true l [] tr df hp n tc))
  (fun _ _ iha ihb tr df hp n tc=>seqR (iha tr df hp n tc) ihb)
  (fun c _ _ iha ihb tr df hp n tc=>valK c tr fun v=>asBool v fun t=>Bool.rec (ihb tr df hp n tc) (iha tr df hp n tc) t)
  (fun id _ ih tr df hp n tc=>blockR id (ih tr df hp n tc))
  (fun live _ ih=>loopQ (headQ C pin N live) ih fuelL)
  (fun g ps as bd _ _=>rangeQ call pin N rd g ps as bd)
  (fun id tr df hp n tc=>.exit id tr df hp n tc)
  (fun tr df hp n tc=>.ret tr df hp n tc) c

noncomputable def resK (tr:T AV)(hp:T AB)(n:Nat):List ARes→(List AV→R)→R:=fun l=>List.rec (motive:=fun _=>(List AV→R)→R) (fun K=>K [])
  (fun r _ ih K=>ARes.rec (fun t=>getK tr t (ih fun l=>K (.unk::l)) fun v=>ih fun l=>K (v::l)) (fun t k=>getK tr t .no fun v=>asPtr v (fun b off=>cellsAt hp n b fun cs=>pickK k cs off fun v=>ih fun l=>K (v::l)) .no) r) l
noncomputable def resVK (l:List AV)(K:AV→R):R:=List.rec (K (.tup [])) (fun v r _=>List.rec (K v) (fun _ _ _=>K (.tup l)) r) l
noncomputable def slowFin (pin N:Nat)(fn:AFunc)(e:AExit)(tr:T AV)(df:List ADef)(hp:T AB)(n:Nat)(tc:List Nat):R:=
  match finish C pin fn e { tm:=listT N tr,df:=df,hp:=listH n hp,tc:=tc } with
  |some (.ret v,st)=>forceV v fun v=>ofH st.hp fun hp n=>forceNs st.tc fun tc=>.cret v hp n tc
  |some (.pan v,st)=>forceV v fun v=>ofH st.hp fun hp n=>forceNs st.tc fun tc=>.cpan v hp n tc
  |none=>.no
noncomputable def finQ (pin N:Nat)(fn:AFunc)(r:R):R:=R.rec .no
  (fun tr df hp n tc=>List.rec (resK tr hp n fn.res fun l=>resVK l fun v=>.cret v hp n tc) (fun _ _ _=>slowFin C pin N fn .normal tr df hp n tc) df)
  (fun _ _ _ _ _ _=>.no)
  (fun tr df hp n tc=>List.rec (resK tr hp n fn.res fun l=>resVK l fun v=>.cret v hp n tc) (fun _ _ _=>slowFin C pin N fn .ret tr df hp n tc) df)
  (fun v tr df hp n tc=>List.rec (.cpan v hp n tc) (fun _ _ _=>slowFin C pin N fn (.panic v) tr df hp n tc) df)
  (fun _ _ _ _=>.no) (fun _ _ _ _=>.no) r
noncomputable def overQ (H:T AB)(N:Nat)(hp:T AB)(n:Nat):List Nat→(T AB→R)→R:=fun tc=>List.rec (motive:=fun _=>(T AB→R)→R) (fun K=>K H) (fun j _ ih K=>ih fun H'=>Bool.rec (K H') (blockK hp n j fun b=>setK H' j b K) (Nat.ble (Nat.succ j) N)) tc
noncomputable def behindQ (hp:T AB):Nat→Nat→T AB→(T AB→Nat→R)→R:=fun k=>Nat.rec (motive:=fun _=>Nat→T AB→(T AB→Nat→R)→R) (fun i H K=>K H i) (fun _ ih i H K=>getK hp i .no fun b=>setK H i b fun H=>ih (Nat.succ i) H K) k
noncomputable def backQ (H:T AB)(N:Nat)(hp:T AB)(n:Nat)(tc:List Nat)(K:T AB→Nat→R):R:=overQ H N hp n tc fun H=>behindQ hp (Nat.sub n N) N H K
noncomputable def slowTidy (pin:Nat)(x:CRes)(hp:T AB)(n:Nat)(K:AV→T AB→Nat→R):R:=match tidy pin x (listH n hp) with
  |(x,hp)=>forceV x.val fun v=>ofH hp fun hp n=>K v hp n
noncomputable def tidyQ (pin:Nat)(x:CRes)(v:AV)(hp:T AB)(n:Nat)(K:AV→T AB→Nat→R):R:=
  Bool.rec (slowTidy pin x hp n K) (K v hp n) ((C.calm || Nat.ble n (Nat.add pin C.gcAt)))
noncomputable def bare (v:AV)(tc:List Nat):Bool:=List.rec (List.rec true (fun _ _ _=>false) (refs v)) (fun _ _ _=>false) tc
noncomputable def outQ (N:Nat)(H:T AB)(r:R):R:=R.rec .no (fun _ _ _ _ _=>.no) (fun _ _ _ _ _ _=>.no) (fun _ _ _ _ _=>.no) (fun _ _ _ _ _ _=>.no)
  (fun v hp n tc=>Bool.rec (tidyQ C N (.ret v) v hp n fun v hp n=>backQ H N hp n tc fun H n=>.cret v H n tc) (.cret v H N []) (bare v tc))
  (fun v hp n tc=>Bool.rec (tidyQ C N (.pan v) v hp n fun v hp n=>backQ H N hp n tc fun H n=>.cpan v H n tc) (.cpan v H N []) (bare v tc)) r
noncomputable def runQ (fn:AFunc)(args:List AV)(H:T AB)(n:Nat):R:=Bool.rec .no
  (newT fn.ntmps fun tr=>laysK args 0 tr fun tr=>outQ C n H (finQ C n fn.ntmps fn (evQ C call n fn.ntmps none fn.body tr [] H n []))) (Nat.ble (lenL args) fn.ntmps)
noncomputable def partOut (H:List AB)(r:List Nat)(x:CRes)(hp:List AB)(tc:List Nat):CRes × List AB × List Nat:=
  match tidy r.length x hp with
  |(x,hp)=>(x.map (ren (backN H.length r)),backH H r hp tc++(hp.drop r.length).map (renB (backN H.length r)),tc.map fun j=>r.getD j H.length)
noncomputable def partR (p:CRes × List AB × List Nat):R:=match p with
  |(.ret v,hp,tc)=>forceV v fun v=>ofH hp fun hp n=>forceNs tc fun tc=>.cret v hp n tc
  |(.pan v,hp,tc)=>forceV v fun v=>ofH hp fun hp n=>forceNs tc fun tc=>.cpan v hp n tc
noncomputable def partGo (H:List AB)(r:List Nat)(x:R):R:=R.rec .no (fun _ _ _ _ _=>.no) (fun _ _ _ _ _ _=>.no) (fun _ _ _ _ _=>.no) (fun _ _ _ _ _ _=>.no)
  (fun v hp n tc=>partR (partOut H r (.ret v) (listH n hp) tc)) (fun v hp n tc=>partR (partOut H r (.pan v) (listH n hp) tc)) x
noncomputable def slowRun (fn:AFunc)(args:List AV)(H:T AB)(n:Nat):R:=Bool.rec .no
  (forceNs (reach (listH n H) fuelR (refsL args) []) fun r => forceL (renL (place r) args) fun args' => ofH (restrict (listH n H) r) fun H0 n0 =>
    newT fn.ntmps fun tr=>laysK args' 0 tr fun tr=>partGo (listH n H) r (finQ C n0 fn.ntmps fn (evQ C call n0 fn.ntmps none fn.body tr [] H0 n0 []))) (Nat.ble (lenL args) fn.ntmps)
noncomputable def enterQ (f:Nat)(args:List AV)(H:T AB)(n:Nat):R:=
  Option.rec (Option.rec (Option.rec .no (fun fn=>Bool.rec (slowRun C call fn args H n) (runQ C call fn args H n) (C.whole f)) (C.fns f)) (fun g=>Option.rec .no (fun v=>forceV v fun v=>.cret v H n []) (g args (listH n H))) (C.exth f)) (fun g=>Option.rec .no (fun v=>forceV v fun v=>.cret v H n []) (g args)) (C.ext f)
noncomputable def endRd (l:Nat)(N:Nat)(H:T AB)(p:Option AExit)(b:Bool)(hp:T AB)(n:Nat)(tc:List Nat):R:=
  loopAt hp n l fun r=>lstK (Bool.rec .done .ready b) fun s=>setK hp l (.loop ⟨s,p,r.tm,r.params,r.assign,r.body,r.dfr⟩) fun hp=>
    tidyQ C N (.ret (.bool b)) (.bool b) hp n fun v hp n=>backQ H N hp n (l::tc) fun H n=>.cret v H n (l::tc)
noncomputable def roundQ (l:Nat)(args:List AV)(H:T AB)(n:Nat):R:=loopAt H n l fun r=>isReady r.st <| Bool.rec .no
  (natK (lenL r.tm) fun N => Bool.rec .no (ofL N r.tm fun tr => parsK r.params args tr fun tr =>
    normR (evQ C call n N (some l) r.assign tr [] H n []) fun tr df hp m tc=>loopAt hp m l fun r1=>isReady r1.st <|
      setK hp l (.loop ⟨.busy,r1.pend,r1.tm,r1.params,r1.assign,r1.body,r1.dfr⟩) fun hp=>
        R.rec .no (fun _ _ hp m tc=>endRd C l n H none true hp m tc) (fun i _ _ hp m tc=>endRd C l n H (some (.exit i)) false hp m tc) (fun _ _ hp m tc=>endRd C l n H (some .ret) false hp m tc) (fun _ _ _ _ _ _=>.no) (fun _ _ _ _=>.no) (fun _ _ _ _=>.no)
          (evQ C call n N (some l) r.body tr df hp m (l::tc))) (andB (okC N r.assign) (andB (okC N r.body) (r.params.all fun t=>Nat.ble (Nat.succ t) N))))
  (Nat.beq (lenL args) (lenNs r.params))
end
noncomputable def callQ (C : Cfg) : Nat → CallQ := fun n => Nat.rec (motive := fun _ => CallQ) (fun _ _ _ _ => .no) (fun _ ih f args hp n =>
  asFn f (fun f a b=>fnK f fun f=>catL args b fun l=>catL a l fun l=>enterQ C ih f l hp n) (fun l=>roundQ C ih l args hp n)) n
end Q
end Ev
end Go.Proofs.Ytlcjlcllbgjplaa

/- The quick evaluator: what its parts come to. -/
namespace Go.Proofs.Ytlcjlcllbgjplaa
open Go
namespace Ev
namespace Q
section
variable {α:Type}
def at?:T α→Nat→Option α
  |.e _,_=>none
  |.v x,_=>some x
  |.n k l r,t=>if t.testBit k then at? r t else at? l t
inductive WF:Nat→T α→Prop
  |e (k:Nat):WF k (.e k)
  |v (x:α):WF 0 (.v x)
  |n {k:Nat} {l r:T α}:WF k l→WF k r→WF (k+1) (.n k l r)

theorem zwr {β:Type}(m:Nat)(a b:β):(Nat.rec (motive:=fun _=>β) a (fun _ _=>b) m)=if m=0 then a else b:=by
  cases m with
  |zero=>show a=_;simp
  |succ m=>show b=_;simp
theorem zhy (t k:Nat):Nat.land t (Nat.pow 2 k)=0↔¬ t.testBit k=true:=by
  show t&&&2 ^ k=0↔_
  constructor
  · intro h hb
    have:=congrArg (fun x=>x.testBit k) h
    simp[hb] at this
  · intro h
    apply Nat.eq_of_testBit_eq
    intro i
    simp only[Nat.testBit_and,Nat.testBit_two_pow,Nat.zero_testBit]
    by_cases hi:k=i
    · subst hi;simp at h;simp[h]
    · simp[hi]
abbrev bitR {β:Type} (t k:Nat) (a b:β):β:=Nat.rec (motive:=fun _=>β) a (fun _ _=>b) (Nat.land t (Nat.pow 2 k))
theorem bit_if {β:Type}(t k:Nat)(a b:β):bitR t k a b=if t.testBit k then b else a:=by
  unfold bitR
  rw[zwr]
  by_cases h:t.testBit k=true
  · rw[if_pos h,if_neg (fun e=>(zhy t k).1 e h)]
  · rw[if_neg h,if_pos ((zhy t k).2 h)]

theorem zpb (tr:T α)(t:Nat)(d:α):getP tr t d=(at? tr t).getD d:=by
  induction tr with
  |e k=>rfl
  |v x=>rfl
  |n k l r ihl ihr=>
    show bitR t k (getP l t d) (getP r t d)=_
    rw[bit_if,ihl,ihr]
    simp only[at?]
    split<;>rfl
theorem zfc (tr:T α)(t:Nat)(D:R)(K:α→R):getK tr t D K=(match at? tr t with|none=>D|some x=>K x):=by
  induction tr with
  |e k=>rfl
  |v x=>rfl
  |n k l r ihl ihr=>
    show bitR t k (getK l t D K) (getK r t D K)=_
    rw[bit_if,ihl,ihr]
    simp only[at?]
    split<;>rfl

theorem zdq (s t k:Nat):s % 2 ^ (k+1)=t % 2 ^ (k+1)↔s.testBit k=t.testBit k∧s % 2 ^ k=t % 2 ^ k:=by
  have key:∀ x:Nat,x % 2 ^ (k+1)=x % 2 ^ k+2 ^ k * (x.testBit k).toNat:=fun x=>by
    rw[Nat.pow_succ,Nat.mod_mul,Nat.testBit_eq_decide_div_mod_eq]
    rcases Nat.mod_two_eq_zero_or_one (x / 2 ^ k) with h|h<;>rw[h]<;>simp
  have h1:=key s
  have h2:=key t
  have l1:=Nat.mod_lt s (Nat.two_pow_pos k)
  have l2:=Nat.mod_lt t (Nat.two_pow_pos k)
  rw[h1,h2]
  cases s.testBit k<;>cases t.testBit k<;>simp<;>omega

theorem zmp (t:Nat)(v:α):∀ k,∃ tr',(∀ K,setE k t v K=K tr')∧WF k tr'∧∀ s,at? tr' s=if s % 2 ^ k=t % 2 ^ k then some v else none
  |0=>⟨.v v,fun _=>rfl,.v v,fun s=>by simp[at?,Nat.mod_one]⟩
  |k+1=>by
    obtain ⟨tr,h1,h2,h3⟩:=zmp t v k
    have hr:∀ K,setE (k+1) t v K=if t.testBit k then K (.n k (.e k) tr) else K (.n k tr (.e k)):=fun K=>by
      show bitR t k (setE k t v fun l=>K (.n k l (.e k))) (setE k t v fun r=>K (.n k (.e k) r))=_
      rw[bit_if,h1,h1]
    by_cases hb:t.testBit k
    · refine ⟨.n k (.e k) tr,fun K=>by rw[hr,if_pos hb],.n (.e k) h2,fun s=>?_⟩
      simp only[at?,h3,zdq,hb]
      cases hs:s.testBit k<;>simp
    · refine ⟨.n k tr (.e k),fun K=>by rw[hr,if_neg hb],.n h2 (.e k),fun s=>?_⟩
      simp only[at?,h3,zdq]
      simp at hb
      rw[hb]
      cases hs:s.testBit k<;>simp

theorem zgk {k:Nat}{tr:T α}(h:WF k tr)(t:Nat)(v:α):∃ tr',(∀ K,setK tr t v K=K tr')∧WF k tr'∧∀ s,at? tr' s=if s % 2 ^ k=t % 2 ^ k then some v else at? tr s:=by
  induction h with
  |e k=>
    obtain ⟨tr,h1,h2,h3⟩:=zmp t v k
    exact ⟨tr,fun K=>h1 K,h2,fun s=>by rw[h3];rfl⟩
  |v x=>exact ⟨.v v,fun _=>rfl,.v v,fun s=>by simp[at?,Nat.mod_one]⟩
  |@n k l r hl hr ihl ihr=>
    obtain ⟨l',a1,a2,a3⟩:=ihl
    obtain ⟨r',b1,b2,b3⟩:=ihr
    have hr':∀ K,setK (.n k l r) t v K=if t.testBit k then K (.n k l r') else K (.n k l' r):=fun K=>by
      show bitR t k (setK l t v fun l'=>K (.n k l' r)) (setK r t v fun r'=>K (.n k l r'))=_
      rw[bit_if,a1,b1]
    by_cases hb:t.testBit k
    · refine ⟨.n k l r',fun K=>by rw[hr',if_pos hb],.n hl b2,fun s=>?_⟩
      simp only[at?,b3,zdq,hb]
      cases hs:s.testBit k<;>simp
    · refine ⟨.n k l' r,fun K=>by rw[hr',if_neg hb],.n a2 hr,fun s=>?_⟩
      simp only[at?,a3,zdq]
      simp at hb
      rw[hb]
      cases hs:s.testBit k<;>simp
end

def WT (N:Nat)(tr:T AV):Prop:=∃ k,WF k tr∧N≤2 ^ k
theorem zbz (N:Nat)(tr:T AV):(listT N tr).length=N:=by simp[listT]
theorem zdz {N t:Nat}(tr:T AV)(h:t<N):(listT N tr)[t]?=some ((at? tr t).getD .unk):=by
  unfold listT;rw[List.getElem?_map,List.getElem?_range h];simp[zpb]
theorem zco {N t:Nat}(tr:T AV)(h:t<N):(listT N tr).getD t .unk=(at? tr t).getD .unk:=by
  rw[List.getD_eq_getElem?_getD,zdz tr h];rfl
theorem zeu {N t:Nat}{tr:T AV}(h:WT N tr)(ht:t<N)(v:AV):∃ tr',(∀ K,setK tr t v K=K tr')∧WT N tr'∧listT N tr'=(listT N tr).set t v:=by
  obtain ⟨k,h1,h2⟩:=h
  obtain ⟨tr',a1,a2,a3⟩:=zgk h1 t v
  refine ⟨tr',a1,⟨k,a2,h2⟩,List.ext_getElem? fun s=>?_⟩
  by_cases hs:s<N
  · rw[zdz tr' hs,a3,Nat.mod_eq_of_lt (by omega),Nat.mod_eq_of_lt (by omega:t<2 ^ k)]
    by_cases hst:s=t
    · subst hst;rw[if_pos rfl,List.getElem?_set_self (by rw[zbz];exact hs)];rfl
    · rw[if_neg hst,List.getElem?_set_ne (fun e=>hst e.symm),zdz tr hs]
  · rw[List.getElem?_eq_none (by rw[zbz];omega),List.getElem?_eq_none (by rw[List.length_set,zbz];omega)]
theorem zcl (N:Nat)(K:T AV→R):newT N K=K (.e (Nat.log2 N+1))∧WT N (.e (Nat.log2 N+1))∧listT N (.e (Nat.log2 N+1))=List.replicate N .unk:=by
  refine ⟨rfl,⟨_,.e _,Nat.le_of_lt Nat.lt_log2_self⟩,List.ext_getElem? fun s=>?_⟩
  by_cases hs:s<N
  · rw[zdz _ hs,List.getElem?_replicate,if_pos hs];rfl
  · rw[List.getElem?_eq_none (by rw[zbz];omega),List.getElem?_eq_none (by simp;omega)]

structure WH (n:Nat) (hp:T AB):Prop where
  wf:WF cap hp
  le:n≤2 ^ cap
  there:∀ i,i<n→(at? hp i).isSome=true
theorem zba (n:Nat)(hp:T AB):(listH n hp).length=n:=by simp[listH]
theorem zcv {n:Nat}{hp:T AB}(h:WH n hp)(b:Nat):(listH n hp)[b]?=if b<n then at? hp b else none:=by
  unfold listH
  rw[List.getElem?_map]
  by_cases hb:b<n
  · rw[List.getElem?_range hb,if_pos hb]
    obtain ⟨x,hx⟩:=Option.isSome_iff_exists.1 (h.there b hb)
    simp[zpb,hx]
  · rw[List.getElem?_eq_none (by simp;omega),if_neg hb];rfl
theorem zgt {n:Nat}{hp:T AB}(h:WH n hp)(b:Nat)(K:AB→R):blockK hp n b K=(match (listH n hp)[b]? with|some x=>K x|none=>.no):=by
  unfold blockK
  rw[zcv h]
  by_cases hb:b<n
  · rw[if_pos hb,show Nat.ble (Nat.succ b) n=true from Nat.ble_eq_true_of_le hb]
    simp only[zfc]
    cases at? hp b<;>rfl
  · have:Nat.ble (Nat.succ b) n=false:=by
      cases hx:Nat.ble (Nat.succ b) n with
      |false=>rfl
      |true=>exact absurd (Nat.le_of_ble_eq_true hx) (by omega)
    rw[if_neg hb,this]
theorem zhn {n:Nat}{hp:T AB}(h:WH n hp)(b:Nat)(K:List AV→R):cellsAt hp n b K=(match (listH n hp)[b]? with|some (.cells cs)=>K cs|_=>.no):=by
  unfold cellsAt
  rw[zgt h]
  cases (listH n hp)[b]? with
  |none=>rfl
  |some x=>cases x<;>rfl
theorem zbs {n:Nat}{hp:T AB}(h:WH n hp)(b:Nat)(K:ALoop→R):loopAt hp n b K=(match (listH n hp)[b]? with|some (.loop cs)=>K cs|_=>.no):=by
  unfold loopAt
  rw[zgt h]
  cases (listH n hp)[b]? with
  |none=>rfl
  |some x=>cases x<;>rfl
theorem zeh {n:Nat}{hp:T AB}(h:WH n hp)(b:Nat)(K:R):aliveAt hp n b K=if alive (listH n hp) b=true then K else .no:=by
  unfold aliveAt
  rw[zgt h]
  unfold alive
  cases (listH n hp)[b]? with
  |none=>simp
  |some x=>cases x<;>simp
theorem zev {n b:Nat}{hp:T AB}(h:WH n hp)(hb:b<n)(x:AB):∃ hp',(∀ K,setK hp b x K=K hp')∧WH n hp'∧listH n hp'=(listH n hp).set b x:=by
  obtain ⟨hp',a1,a2,a3⟩:=zgk h.wf b x
  have hle:=h.le
  have hw : WH n hp' := ⟨a2, h.le, fun i hi => by
    rw[a3]
    split
    · rfl
    · exact h.there i hi⟩
  refine ⟨hp',a1,hw,List.ext_getElem? fun s=>?_⟩
  rw[zcv hw]
  by_cases hs:s<n
  · rw[if_pos hs,a3,Nat.mod_eq_of_lt (by omega),Nat.mod_eq_of_lt (by omega:b<2 ^ cap)]
    by_cases hst:s=b
    · subst hst;rw[if_pos rfl,List.getElem?_set_self (by rw[zba];exact hs)]
    · rw[if_neg hst,List.getElem?_set_ne (fun e=>hst e.symm),zcv h,if_pos hs]
  · rw[if_neg hs,List.getElem?_eq_none (by rw[List.length_set,zba];omega)]
theorem zda {n:Nat}{hp:T AB}(h:WH n hp)(x:AB)(K:T AB→Nat→R):pushK hp n x K=.no∨∃ hp',pushK hp n x K=K hp' (n+1)∧WH (n+1) hp'∧listH (n+1) hp'=listH n hp++[x]:=by
  unfold pushK
  cases hx:Nat.ble n 127 with
  |false=>exact .inl rfl
  |true=>
    right
    have hn:n≤127:=Nat.le_of_ble_eq_true hx
    obtain ⟨hp',a1,a2,a3⟩:=zgk h.wf n x
    have hc:(2:Nat) ^ cap=128:=rfl
    have hw : WH (n + 1) hp' := ⟨a2, by omega, fun i hi => by
      rw[a3]
      split
      · rfl
      · rename_i hne
        refine h.there i ?_
        rcases Nat.lt_or_ge i n with hl|hl
        · exact hl
        · exact absurd (by rw[show i=n by omega]) hne⟩
    refine ⟨hp',by simp only[a1],hw,List.ext_getElem? fun s=>?_⟩
    rw[zcv hw]
    rcases Nat.lt_trichotomy s n with hs|hs|hs
    · rw[if_pos (by omega),a3,Nat.mod_eq_of_lt (by omega),Nat.mod_eq_of_lt (by omega:n<2 ^ cap),if_neg (by omega),List.getElem?_append_left (by rw[zba];exact hs),zcv h,if_pos hs]
    · subst hs
      rw[if_pos (by omega),a3,if_pos rfl,List.getElem?_append_right (by rw[zba];omega),zba];simp
    · rw[if_neg (by omega),List.getElem?_eq_none (by simp[zba];omega)]

@[simp] theorem zbx (n:Nat) (K:Nat→R):natK n K=K n:=by cases n<;>rfl
@[simp] theorem zii (b:Bool) (K:Bool→R):boolK b K=K b:=by cases b<;>rfl
@[simp] theorem zoy (n:Int) (K:Int→R):intK n K=K n:=by cases n<;>simp[intK]
mutual
theorem zbk:∀ (v:AV) (K:AV→R),forceV v K=K v
  |.unk,_=>rfl
  |.bool b,K=>by cases b<;>rfl
  |.int k n,K=>zoy n fun n=>K (.int k n)
  |.nilp,_=>rfl
  |.ptr b off,K=>(zbx b fun b=>natK off fun off=>K (.ptr b off)).trans (zbx off _)
  |.rp cs,_=>rfl
  |.nils,_=>rfl
  |.sl b off n k,K=>(zbx b fun b=>natK off fun off=>natK n fun n=>natK k fun k=>K (.sl b off n k)).trans ((zbx off _).trans ((zbx n _).trans (zbx k _)))
  |.vs k es,_=>rfl
  |.nilmap,_=>rfl
  |.map b,K=>zbx b fun b=>K (.map b)
  |.nilfn,_=>rfl
  |.fn f a b,K=>(zec a fun a=>_).trans (zec b _)
  |.yield b,K=>zbx b fun b=>K (.yield b)
  |.nilif,_=>rfl
  |.iface t v,K=>zbk v fun v=>K (.iface t v)
  |.agg l,K=>zec l fun l=>K (.agg l)
  |.tup l,K=>zec l fun l=>K (.tup l)
  |.stamp b i,K=>(zbx b fun b=>natK i fun i=>K (.stamp b i)).trans (zbx i _)
theorem zec : ∀ (l : List AV) (K : List AV → R), (AV.rec_1 (motive_1 := fun _ => (AV → R) → R) (motive_2 := fun _ => (List AV → R) → R)
  (fun K=>K .unk) (fun b K=>boolK b fun b=>K (.bool b)) (fun k n K=>intK n fun n=>K (.int k n)) (fun K=>K .nilp)
  (fun b off K=>natK b fun b=>natK off fun off=>K (.ptr b off)) (fun cs _ K=>K (.rp cs)) (fun K=>K .nils)
  (fun b off n k K=>natK b fun b=>natK off fun off=>natK n fun n=>natK k fun k=>K (.sl b off n k)) (fun k es _ K=>K (.vs k es)) (fun K=>K .nilmap)
  (fun b K=>natK b fun b=>K (.map b)) (fun K=>K .nilfn) (fun f _ _ ih1 ih2 K=>ih1 fun a=>ih2 fun b=>K (.fn f a b)) (fun b K=>natK b fun b=>K (.yield b)) (fun K=>K .nilif)
  (fun t _ ih K=>ih fun v=>K (.iface t v)) (fun _ ih K=>ih fun l=>K (.agg l)) (fun _ ih K=>ih fun l=>K (.tup l)) (fun b i K=>natK b fun b=>natK i fun i=>K (.stamp b i))
  (fun K=>K []) (fun _ _ ihv ihl K=>ihv fun v=>ihl fun l=>K (v::l)) l) K=K l
  |[],_=>rfl
  |v::l,_K=>(zbk v fun _v=>_).trans (zec l _)
end
attribute [simp] zbk
@[simp] theorem zfd:∀ (l:List AV) (K:List AV→R),forceL l K=K l
  |[],_=>rfl
  |v::l,_K=>(zbk v fun _v=>_).trans (zfd l _)
@[simp] theorem zch:∀ (l:List Nat) (K:List Nat→R),forceNs l K=K l
  |[],_=>rfl
  |v::l,K=>by
    show natK v (fun v=>forceNs l fun l=>K (v::l))=_
    rw[zbx,zch]
@[simp] theorem zxz:∀ (l:List (AV × AV)) (K:List (AV × AV)→R),forceE l K=K l
  |[],_=>rfl
  |(a,b)::l,_K=>(zbk a fun _a=>_).trans ((zbk b fun _b=>_).trans (zxz l _))
@[simp] theorem ycu (s:LSt) (K:LSt→R):lstK s K=K s:=by cases s<;>rfl
@[simp] theorem ydr (p:Option AExit) (K:Option AExit→R):optK p K=K p:=by cases p<;>rfl
@[simp] theorem ydq (r:ALoop) (K:ALoop→R):forceLp r K=K r:=by cases r;simp[forceLp]
@[simp] theorem zns (b:AB) (K:AB→R):forceB b K=K b:=by cases b<;>simp[forceB]

theorem zjq:∀ (l:List AV) (i:Nat) (K:AV→R),cellAt l i K=(match l[i]? with|some x=>K x|none=>.no)
  |[],_,_=>rfl
  |x::l,0,_=>rfl
  |x::l,i+1,K=>(zjq l i K).trans (by simp)
theorem zlh:∀ (l:List AV) (n:Nat) (K:List AV→R),takeK l n K=if n≤l.length then K (l.take n) else .no
  |[],0,_=>rfl
  |[],n+1,_=>rfl
  |x::l,0,_=>rfl
  |x::l,n+1,K=>(zlh l n fun l=>K (x::l)).trans (by simp)
theorem zqn:∀ (l:List AV) (i n:Nat) (K:List AV→R),partK l i n K=if i+n≤l.length then K ((l.drop i).take n) else .no
  |[],0,n,K=>(zlh [] n K).trans (by simp)
  |[],i+1,n,K=>by
    rw[if_neg (by simp)];rfl
  |x::l,0,n,K=>(zlh (x::l) n K).trans (by simp)
  | x :: l, i + 1, n, K => (zqn l i n K).trans (by
    simp only[List.length_cons,List.drop_succ_cons]
    by_cases h:i+n≤l.length
    · rw[if_pos h,if_pos (by omega)]
    · rw[if_neg h,if_neg (by omega)])
theorem zlp:∀ (l cs:List AV) (K:List AV→R),overK l cs K=if l.length≤cs.length then K (l++cs.drop l.length) else .no
  |[],cs,K=>by simp[overK]
  |y::l,[],K=>rfl
  |y::l,c::cs,K=>(zlp l cs fun l=>K (y::l)).trans (by simp)
theorem zon:∀ (cs:List AV) (i:Nat) (l:List AV) (K:List AV→R),putK cs i l K=if i+l.length≤cs.length then K (setAt cs i l) else .no
  |[],0,l,K=>(zlp l [] K).trans (by simp[setAt])
  |[],i+1,l,K=>by rw[if_neg (by simp)];rfl
  |x::cs,0,l,K=>(zlp l (x::cs) K).trans (by simp[setAt])
  | x :: cs, i + 1, l, K => (zon cs i l fun cs => K (x :: cs)).trans (by
    simp only[List.length_cons]
    by_cases h:i+l.length≤cs.length
    · rw[if_pos h,if_pos (by omega)]
      congr 1
      simp only[setAt,List.take_succ_cons,List.cons_append]
      congr 2
      rw[show i+1+l.length=(i+l.length)+1 by omega,List.drop_succ_cons]
    · rw[if_neg h,if_neg (by omega)])
@[simp] theorem zpp:∀ (l m:List AV) (K:List AV→R),catL l m K=K (l++m)
  |[],_,_=>rfl
  |x::l,m,K=>zpp l m fun l=>K (x::l)
@[simp] theorem zhe:∀ l:List AV,lenL l=l.length
  |[]=>rfl
  |_x::l=>congrArg Nat.succ (zhe l)
@[simp] theorem zqv:∀ l:List Nat,lenNs l=l.length
  |[]=>rfl
  |_x::l=>congrArg Nat.succ (zqv l)

theorem zhr:∀ (l:List AB) {hp:T AB} {n:Nat} (K:T AB→Nat→R),WH n hp→pushAll l hp n K=.no∨∃ hp' n',pushAll l hp n K=K hp' n'∧WH n' hp'∧listH n' hp'=listH n hp++l
  |[],hp,n,K,h=>.inr ⟨hp,n,rfl,h,by simp⟩
  |b::l,hp,n,K,h=>by
    have e:pushAll (b::l) hp n K=pushK hp n b fun hp n=>pushAll l hp n K:=(zns b fun b=>pushK hp n b fun hp n=>pushAll l hp n K)
    rw[e]
    rcases zda h b fun hp n=>pushAll l hp n K with h1|⟨hp1,h1,h2,h3⟩
    · exact .inl h1
    · rw[h1]
      rcases zhr l K h2 with h4|⟨hp',n',h4,h5,h6⟩
      · exact .inl h4
      · exact .inr ⟨hp',n',h4,h5,by rw[h6,h3,List.append_assoc];rfl⟩
theorem wh_empty:WH 0 (.e cap):=⟨.e _,by simp,fun i hi=>absurd hi (by omega)⟩
theorem zdo (l:List AB)(K:T AB→Nat→R):ofH l K=.no∨∃ hp n,ofH l K=K hp n∧WH n hp∧listH n hp=l:=by
  rcases zhr l K wh_empty with h|⟨hp,n,h1,h2,h3⟩
  · exact .inl h
  · exact .inr ⟨hp,n,h1,h2,by rw[h3];rfl⟩

theorem zdt (a b:Nat):Nat.ble a b=decide (a≤b):=by
  by_cases h:a≤b
  · simp[h,Nat.ble_eq_true_of_le h]
  · cases hx:Nat.ble a b with
    |true=>exact absurd (Nat.le_of_ble_eq_true hx) h
    |false=>simp[h]

theorem zbi {C:Cfg}{N:Nat}{tr:T AV}{x:Opnd}(hx:okO N x=true)(K:AV→R):valK x tr K=.no∨valK x tr K=K (Ev.val C (listT N tr) x):=by
  cases x with
  |tmp t=>
    right
    have ht:t<N:=Nat.le_of_ble_eq_true hx
    show getK tr t (K .unk) K=_
    rw[zfc]
    simp only[Ev.val,zco tr ht]
    cases at? tr t<;>rfl
  |val v=>exact .inr rfl
  |glob g=>exact .inl rfl
theorem val_eq {C:Cfg}(N:Nat)(tr:T AV)(hC:∀ g,C.glob g=none):val N tr=Ev.val C (listT N tr):=by
  funext x
  cases x with
  |tmp t=>
    show (Bool.rec .unk (getP tr t .unk) (Nat.ble (Nat.succ t) N):AV)=_
    simp only[Ev.val]
    by_cases h:t<N
    · rw[show Nat.ble (Nat.succ t) N=true from Nat.ble_eq_true_of_le h,zco tr h,zpb]
    · have:Nat.ble (Nat.succ t) N=false:=by rw[zdt];simp;omega
      rw[this,List.getD_eq_getElem?_getD,List.getElem?_eq_none (by rw[zbz];omega)];rfl
  |val v=>rfl
  |glob g=>simp[val,Ev.val,hC]
theorem zik {C:Cfg}{N:Nat}{tr:T AV}:∀ {l:List Opnd} (K:List AV→R),(∀ x,x∈l→okO N x=true)→argsK l tr K=.no∨argsK l tr K=K (l.map (Ev.val C (listT N tr)))
  |[],_,_=>.inr rfl
  |x::l,K,h=>by
    have e:argsK (x::l) tr K=valK x tr fun v=>argsK l tr fun l=>K (v::l):=rfl
    rw[e]
    rcases zbi (C:=C) (h x (List.mem_cons_self ..)) (tr:=tr) fun v=>argsK l tr fun l=>K (v::l) with h1|h1
    · exact .inl h1
    · rw[h1]
      rcases zik (C:=C) (fun l=>K (Ev.val C (listT N tr) x::l)) (fun y hy=>h y (List.mem_cons_of_mem _ hy)) with h2|h2
      · exact .inl h2
      · exact .inr (by rw[h2];rfl)

theorem zij (v:AV)(K:IntKind→Int→R):asInt v K=(match v with|.int k n=>K k n|_=>.no):=by cases v<;>rfl
theorem zju (v:AV)(K:Bool→R):asBool v K=(match v with|.bool b=>K b|_=>.no):=by cases v<;>rfl
theorem ydn (v:AV)(K:Bool→R)(S:R):asBT v K S=(match v with|.bool b=>K b|.tup []=>S|_=>.no):=by
  cases v<;>first|rfl|(rename_i l;cases l<;>rfl)
theorem ybl (v:AV)(K:List AV→R):asTup v K=(match v with|.tup l=>K l|_=>.no):=by cases v<;>rfl
theorem ybm (v:AV)(K:List AV→R):asAgg v K=(match v with|.agg l=>K l|_=>.no):=by cases v<;>rfl
theorem zft (v:AV)(K:Nat→Nat→R)(O:R):asPtr v K O=(match v with|.ptr b o=>K b o|_=>O):=by cases v<;>rfl
theorem zza (v:AV)(K:Nat→Nat→Nat→Nat→R)(O:R):asSl v K O=(match v with|.sl b o n k=>K b o n k|_=>O):=by cases v<;>rfl
theorem zkx (v:AV)(K:Nat→AV→R)(O:R):asIface v K O=(match v with|.iface t v=>K t v|_=>O):=by cases v<;>rfl
theorem zps (v:AV)(K:Fn→List AV→List AV→R)(Y:Nat→R):asFn v K Y=(match v with|.fn f a b=>K f a b|.yield l=>Y l|_=>.no):=by cases v<;>rfl
theorem zjp (v:AV)(K:List AV→R):cellsK v K=(match cellsOf v with|some l=>K l|none=>.no):=by cases v<;>rfl
theorem fnK_eq (f:Fn)(K:Nat→R):fnK f K=(match f with|.func f=>K f|_=>.no):=rfl

theorem zzq (m n:Nat):subNN m n=(m:Int) - n:=by
  unfold subNN
  have h:Nat.sub n m=n - m:=rfl
  have h':Nat.sub m n=m - n:=rfl
  rw[h,h']
  cases hx:n - m with
  |zero=>show Int.ofNat (m - n)=_;simp;omega
  |succ d=>show Int.negSucc d=_;omega
theorem addI_eq (x y:Int):addI x y=x+y:=by
  cases x<;>cases y<;>simp only[addI,zzq]
  · rfl
  · simp;omega
  · simp;omega
  · rename_i a b;show Int.negSucc (a+b+1)=_;omega
theorem ycr (x:Int):negI x=-x:=by
  cases x with
  |ofNat a=>cases a with
    |zero=>rfl
    |succ m=>rfl
  |negSucc a=>rfl
theorem leI_eq (x y:Int):leI x y=decide (x≤y):=by
  cases x<;>cases y<;>simp only[leI,zdt]<;>simp<;>omega
theorem eqI_eq (x y:Int):eqI x y=(x==y):=by
  have h:∀ a b:Nat,Nat.beq a b=decide (a=b):=fun a b=>by
    cases hx:Nat.beq a b
    · have:=Nat.ne_of_beq_eq_false hx;simp[this]
    · have:=Nat.eq_of_beq_eq_true hx;simp[this]
  cases x<;>cases y<;>simp only[eqI,h]
  · rw[Bool.eq_iff_iff];simp;omega
  · rfl
  · rfl
  · rw[Bool.eq_iff_iff];simp
theorem kix_eq (k k':IntKind):Nat.beq (kix k) (kix k')=decide (k=k'):=by cases k<;>cases k'<;>rfl
theorem fits_wrap {k:IntKind}{n:Int}(h:fits k n=true):k.wrap n=n:=by
  cases k<;>cases n<;>simp only[fits,zdt,decide_eq_true_eq] at h <;>
    simp only [Int.ofNat_eq_natCast, IntKind.wrap, IntKind.bits, IntKind.signed, Bool.true_and, Bool.false_and, decide_eq_true_eq, show (2 : Int) ^ 8 = 256 from rfl, show (2 : Int) ^ 16 = 65536 from rfl, show (2 : Int) ^ 32 = 4294967296 from rfl, show (2 : Int) ^ 64 = 18446744073709551616 from rfl,
      show (2:Int) ^ (8 - 1)=128 from rfl,show (2:Int) ^ (16 - 1)=32768 from rfl,show (2:Int) ^ (32 - 1)=2147483648 from rfl,show (2:Int) ^ (64 - 1)=9223372036854775808 from rfl,Bool.false_eq_true,if_false] <;>
    (try split)<;>omega
@[simp] theorem zpv (k:IntKind) (n:Int) (K:Int→R):wrapK k n K=K (k.wrap n):=by
  unfold wrapK
  rw[zoy]
  cases h:fits k n with
  |false=>exact zoy _ _
  |true=>rw[fits_wrap h]
@[simp] theorem zor (b:Bool):notB b=!b:=by cases b<;>rfl
@[simp] theorem andB_eq (a b:Bool):andB a b=(a&&b):=by cases a<;>rfl
theorem zbh {β:Type}(b:Bool)(x y:β):(Bool.rec (motive:=fun _=>β) x y b)=if b=true then y else x:=by cases b<;>rfl
end Q
end Ev
end Go.Proofs.Ytlcjlcllbgjplaa

/- The quick evaluator: its operations are those of the first one. -/
namespace Go.Proofs.Ytlcjlcllbgjplaa
open Go
namespace Ev
namespace Q
section
variable {C:Cfg} {N:Nat}
theorem okO_of {x:Opnd}(h:∀ t,t∈tmpsO x→t<N):okO N x=true:=by
  cases x with
  |tmp t=>exact Nat.ble_eq_true_of_le (h t (by simp[tmpsO]))
  |val v=>rfl
  |glob g=>rfl

def FOk (C:Cfg)(N:Nat)(f:FO)(k:AK):Prop:=∀ (tr:T AV) (hp:T AB) (n:Nat) (K:FK),WT N tr→WH n hp→(∀ t,t∈k.tmps→t<N) →
  f N tr hp n K=.no∨∃ v hp' n' ft,f N tr hp n K=K v hp' n' ft∧WH n' hp'∧float (Ev.val C (listT N tr)) (listH n hp) k=some (v,listH n' hp',ft)

theorem zpc {ρ:Opnd→AV}{H:List AB}{k:AK}(hk:xnew ρ k=none){v:AV}{ft:List Nat}(hx:xval H ρ k=some (v,ft))(hf:(ft.all fun b=>decide (b<H.length))=true):float ρ H k=some (v,H,ft):=by
  unfold float;rw[hk,hx];simp only;rw[if_pos hf]
theorem zhi {ρ:Opnd→AV}{H:List AB}{k:AK}(hk:xnew ρ k=none){v:AV}{b:Nat}(hx:xval H ρ k=some (v,[b]))(hb:b<H.length):float ρ H k=some (v,H,[b]):=
  zpc hk hx (by simpa using hb)
theorem zds {ρ:Opnd→AV}{H:List AB}{k:AK}(hk:xnew ρ k=none){v:AV}(hx:xval H ρ k=some (v,[])):float ρ H k=some (v,H,[]):=zpc hk hx rfl
theorem zpd {ρ:Opnd→AV}{H:List AB}{k:AK}{blk:AB}{mk:Nat→AV}(hk:xnew ρ k=some (blk,mk)):float ρ H k=some (mk H.length,H++[blk],[H.length]):=by
  unfold float;rw[hk]

theorem zdd {H:List AB}{b:Nat}{x:AB}(h:H[b]?=some x):b<H.length:=(List.getElem?_eq_some_iff.1 h).1
theorem zde {H:List AB}{b:Nat}(h:alive H b=true):b<H.length:=by
  unfold alive at h
  cases hb:H[b]? with
  |none=>rw[hb] at h;cases h
  |some x=>exact zdd hb

theorem zbj (hC:∀ g,C.glob g=none){k:AK}(hk:∀ ρ,xnew ρ k=none):FOk C N (oSlowV k) k:=by
  intro tr hp n K ht hh _
  unfold oSlowV
  rw[val_eq N tr hC]
  cases hx:xval (listH n hp) (Ev.val C (listT N tr)) k with
  |none=>exact .inl rfl
  |some p=>
    obtain ⟨v,ft⟩:=p
    cases hf:(ft.all fun b=>decide (b<(listH n hp).length)) with
    |false=>
      left
      show (Bool.rec R.no _ (ft.all fun b=>decide (b<(listH n hp).length)):R)=_
      rw[hf]
    |true=>
      refine .inr ⟨v,hp,n,ft,?_,hh,zpc (hk _) hx hf⟩
      show (Bool.rec R.no (forceV v fun v=>forceNs ft fun ft=>K v hp n ft) (ft.all fun b=>decide (b<(listH n hp).length)):R)=_
      rw[hf]
      simp

theorem ziu (hC:∀ g,C.glob g=none){k:AK}:FOk C N (oSlowN k) k:=by
  intro tr hp n K ht hh _
  unfold oSlowN
  rw[val_eq N tr hC]
  cases hx:xnew (Ev.val C (listT N tr)) k with
  |none=>exact .inl rfl
  |some p=>
    obtain ⟨blk,mk⟩:=p
    show (forceB blk fun b=>pushK hp n b fun hp m=>forceV (mk n) fun v=>K v hp m [n])=R.no∨_
    simp only[zns,zbk]
    rcases zda hh blk fun hp m=>K (mk n) hp m [n] with h|⟨hp',h1,h2,h3⟩
    · exact .inl h
    · exact .inr ⟨mk n,hp',n+1,[n],h1,h2,by rw[zpd hx,zba,h3]⟩

theorem zlo (k:Option Nat)(cs:List AV)(off:Nat)(K:AV→R):pickK k cs off K=(match pickC k cs off with|some v=>K v|none=>.no):=by
  cases k with
  |none=>exact zjq cs off K
  |some k=>
    show partK cs off k (fun l=>K (.agg l))=_
    rw[zqn]
    unfold pickC
    by_cases h:off+k≤cs.length
    · simp only[if_pos h]
    · simp only[if_neg h]

theorem ycm (x:Opnd):FOk C N (oMov x) (.mov x):=by
  intro tr hp n K ht hh hk
  unfold oMov
  rcases zbi (C:=C) (okO_of hk) (tr:=tr) fun v=>K v hp n [] with h|h
  · exact .inl h
  · exact .inr ⟨_,hp,n,[],h,hh,zds rfl rfl⟩

theorem zwp (z:List AV):FOk C N (oAlloc z) (.alloc z):=by
  intro tr hp n K ht hh hk
  unfold oAlloc
  rcases zda hh (.cells z) fun hp m=>K (.ptr n 0) hp m [n] with h|⟨hp',h1,h2,h3⟩
  · exact .inl h
  · exact .inr ⟨.ptr n 0,hp',n+1,[n],h1,h2,by rw[zpd rfl,zba,h3]⟩

theorem yco (x:Opnd):FOk C N (oBox x) (.box x):=by
  intro tr hp n K ht hh hk
  unfold oBox
  rcases zbi (C:=C) (okO_of hk) (tr:=tr) fun v=>cellsK v fun cs=>pushK hp n (.cells cs) fun hp m=>K (.ptr n 0) hp m [n] with h|h
  · exact .inl h
  · rw[h,zjp]
    cases hc:cellsOf (Ev.val C (listT N tr) x) with
    |none=>exact .inl rfl
    |some cs=>
      simp only
      rcases zda hh (.cells cs) fun hp m=>K (.ptr n 0) hp m [n] with h|⟨hp',h1,h2,h3⟩
      · exact .inl h
      · refine .inr ⟨.ptr n 0,hp',n+1,[n],h1,h2,?_⟩
        rw[zpd (blk:=.cells cs) (mk:=fun j=>.ptr j 0) (by simp[xnew,hc]),zba,h3]

theorem yak (hC:∀ g,C.glob g=none)(k:Option Nat)(a:Opnd):FOk C N (oLoad k a) (.load k a):=by
  intro tr hp n K ht hh hk
  have hs:=zbj (N:=N) hC (k:=.load k a) (fun _=>rfl) tr hp n K ht hh hk
  unfold oLoad
  rcases zbi (C:=C) (okO_of hk) (tr:=tr) fun v=>asPtr v (fun b off=>cellsAt hp n b fun cs=>pickK k cs off fun v=>K v hp n [b]) (oSlowV (.load k a) N tr hp n K) with h|h
  · exact .inl h
  · rw[h,zft]
    split
    · rename_i b off hv
      rw[zhn hh]
      split
      · rename_i cs hb
        rw[zlo]
        cases hp':pickC k cs off with
        |none=>exact .inl rfl
        |some v=>exact .inr ⟨v,hp,n,[b],rfl,hh,zhi rfl (by simp[xval,hv,hb,hp']) (zdd hb)⟩
      · exact .inl rfl
    · exact hs

theorem zwm (hC:∀ g,C.glob g=none)(x:Opnd):FOk C N (oNilck x) (.nilck x):=by
  intro tr hp n K ht hh hk
  have hs:=zbj (N:=N) hC (k:=.nilck x) (fun _=>rfl) tr hp n K ht hh hk
  unfold oNilck
  rcases zbi (C:=C) (okO_of hk) (tr:=tr) fun v=>asPtr v (fun b off=>aliveAt hp n b (K (.ptr b off) hp n [b])) (oSlowV (.nilck x) N tr hp n K) with h|h
  · exact .inl h
  · rw[h,zft]
    split
    · rename_i b off hv
      rw[zeh hh]
      split
      · rename_i ha
        exact .inr ⟨_,hp,n,[b],rfl,hh,zhi rfl (by simp[xval,hv,ha]) (zde ha)⟩
      · exact .inl rfl
    · exact hs

theorem two {x y:Opnd}(h:∀ t,t∈tmpsO x++tmpsO y→t<N):okO N x=true∧okO N y=true:=
  ⟨okO_of fun t ht=>h t (List.mem_append_left _ ht),okO_of fun t ht=>h t (List.mem_append_right _ ht)⟩

theorem zjx (op:BinOp)(k:IntKind)(x:Int)(k':IntKind)(y:Int)(K:AV→R):slowBin op k x k' y K=.no∨∃ v,slowBin op k x k' y K=K v∧binI op k x k' y=some v:=by
  unfold slowBin
  cases hb:binI op k x k' y with
  |none=>exact .inl rfl
  |some v=>exact .inr ⟨v,zbk v K,rfl⟩
theorem ydb (op:BinOp)(k:IntKind)(x:Int)(k':IntKind)(y:Int)(K:AV→R):fBin op k x k' y K=.no∨∃ v,fBin op k x k' y K=K v∧binI op k x k' y=some v:=by
  unfold fBin
  rw[kix_eq]
  by_cases hk:k=k'
  · subst hk
    simp only[decide_true]
    cases op<;>simp only[zpv,zii,zor,addI_eq,ycr,leI_eq,eqI_eq] <;>
      first
      |exact zjx _ _ _ _ _ _
      |(refine .inr ⟨_,rfl,?_⟩;simp[binI,Int.sub_eq_add_neg];done)
      |(refine .inr ⟨_,rfl,?_⟩;simp[binI,bne];done)
      |(refine .inr ⟨_,rfl,?_⟩;simp only[binI,if_true,Option.some.injEq,AV.bool.injEq];rw[Bool.eq_iff_iff];simp;done)
      |(refine .inr ⟨_,rfl,?_⟩;simp only[binI,if_true,Option.some.injEq,AV.bool.injEq];rw[Bool.eq_iff_iff];simp;omega)
  · simp only[hk,decide_false]
    exact zjx _ _ _ _ _ _

theorem ycp (op:BinOp)(x y:Opnd):FOk C N (oBin op x y) (.bin op x y):=by
  intro tr hp n K ht hh hk
  obtain ⟨o1,o2⟩:=two hk
  unfold oBin
  rcases zbi (C:=C) o1 (tr:=tr) fun v=>valK y tr fun w=>asInt v fun k a=>asInt w fun k' b=>fBin op k a k' b fun v=>K v hp n [] with h|h
  · exact .inl h
  · rw[h]
    rcases zbi (C:=C) o2 (tr:=tr) fun w=>asInt (Ev.val C (listT N tr) x) fun k a=>asInt w fun k' b=>fBin op k a k' b fun v=>K v hp n [] with h|h
    · exact .inl h
    · rw[h,zij]
      split
      · rename_i k a hx
        rw[zij]
        split
        · rename_i k' b hy
          rcases ydb op k a k' b fun v=>K v hp n [] with h|⟨v,h,hv⟩
          · exact .inl h
          · exact .inr ⟨v,hp,n,[],h,hh,zds rfl (by simp[xval,hx,hy,hv])⟩
        · exact .inl rfl
      · exact .inl rfl

theorem ycl (x:Opnd):FOk C N (oNot x) (.not x):=by
  intro tr hp n K ht hh hk
  unfold oNot
  rcases zbi (C:=C) (okO_of hk) (tr:=tr) fun v=>asBool v fun b=>boolK (notB b) fun b=>K (.bool b) hp n [] with h|h
  · exact .inl h
  · rw[h,zju]
    split
    · rename_i b hv
      simp only[zii,zor]
      exact .inr ⟨_,hp,n,[],rfl,hh,zds rfl (by simp[xval,hv])⟩
    · exact .inl rfl
theorem yal (k:IntKind)(x:Opnd):FOk C N (oConv k x) (.conv k x):=by
  intro tr hp n K ht hh hk
  unfold oConv
  rcases zbi (C:=C) (okO_of hk) (tr:=tr) fun v=>asInt v fun _ i=>wrapK k i fun i=>K (.int k i) hp n [] with h|h
  · exact .inl h
  · rw[h,zij]
    split
    · rename_i k' b hv
      simp only[zpv]
      exact .inr ⟨_,hp,n,[],rfl,hh,zds rfl (by simp[xval,hv])⟩
    · exact .inl rfl
theorem zwn (t:Nat)(x:Opnd):FOk C N (oIface t x) (.iface t x):=by
  intro tr hp n K ht hh hk
  unfold oIface
  rcases zbi (C:=C) (okO_of hk) (tr:=tr) fun v=>K (.iface t v) hp n [] with h|h
  · exact .inl h
  · exact .inr ⟨_,hp,n,[],h,hh,zds rfl rfl⟩
theorem zsw (hC:∀ g,C.glob g=none)(off:Nat)(x:Opnd):FOk C N (oFieldA off x) (.fieldA off x):=by
  intro tr hp n K ht hh hk
  have hs:=zbj (N:=N) hC (k:=.fieldA off x) (fun _=>rfl) tr hp n K ht hh hk
  unfold oFieldA
  rcases zbi (C:=C) (okO_of hk) (tr:=tr) fun v=>asPtr v (fun b o=>aliveAt hp n b (natK (Nat.add o off) fun o=>K (.ptr b o) hp n [b])) (oSlowV (.fieldA off x) N tr hp n K) with h|h
  · exact .inl h
  · rw[h,zft]
    split
    · rename_i b o hv
      rw[zeh hh]
      split
      · rename_i ha
        simp only[zbx]
        exact .inr ⟨_,hp,n,[b],rfl,hh,zhi rfl (by simp[xval,hv,ha]) (zde ha)⟩
      · exact .inl rfl
    · exact hs
theorem zsv (off:Nat)(k:Option Nat)(x:Opnd):FOk C N (oFieldV off k x) (.fieldV off k x):=by
  intro tr hp n K ht hh hk
  unfold oFieldV
  rcases zbi (C:=C) (okO_of hk) (tr:=tr) fun v=>asAgg v fun cs=>pickK k cs off fun v=>K v hp n [] with h|h
  · exact .inl h
  · rw[h,ybm]
    split
    · rename_i cs hv
      rw[zlo]
      cases hp':pickC k cs off with
      |none=>exact .inl rfl
      |some v=>exact .inr ⟨v,hp,n,[],rfl,hh,zds rfl (by simp[xval,hv,hp'])⟩
    · exact .inl rfl
theorem zoq (x:Opnd)(i:Nat):FOk C N (oExtract x i) (.extract x i):=by
  intro tr hp n K ht hh hk
  unfold oExtract
  rcases zbi (C:=C) (okO_of hk) (tr:=tr) fun v=>asTup v fun l=>cellAt l i fun v=>K v hp n [] with h|h
  · exact .inl h
  · rw[h,ybl]
    split
    · rename_i l hv
      rw[zjq]
      cases hl:l[i]? with
      |none=>exact .inl rfl
      |some v=>exact .inr ⟨v,hp,n,[],rfl,hh,zds rfl (by simp[xval,hv,hl])⟩
    · exact .inl rfl
theorem ycn (hC:∀ g,C.glob g=none)(x:Opnd):FOk C N (oLen x) (.len x):=by
  intro tr hp n K ht hh hk
  have hs:=zbj (N:=N) hC (k:=.len x) (fun _=>rfl) tr hp n K ht hh hk
  unfold oLen
  rcases zbi (C:=C) (okO_of hk) (tr:=tr) fun v=>asSl v (fun b _ m _=>aliveAt hp n b (K (.int .i64 (Int.ofNat m)) hp n [b])) (oSlowV (.len x) N tr hp n K) with h|h
  · exact .inl h
  · rw[h,zza]
    split
    · rename_i b o m k' hv
      rw[zeh hh]
      split
      · rename_i ha
        exact .inr ⟨_,hp,n,[b],rfl,hh,zhi rfl (by simp[xval,hv,slLen,ha,slFt]) (zde ha)⟩
      · exact .inl rfl
    · exact hs
theorem yaj (c a b:Opnd):FOk C N (oPick c a b) (.pick c a b):=by
  intro tr hp n K ht hh hk
  simp only[AK.tmps] at hk
  have o1:okO N c=true:=okO_of fun t ht=>hk t (List.mem_append_left _ (List.mem_append_left _ ht))
  have o2:okO N a=true:=okO_of fun t ht=>hk t (List.mem_append_left _ (List.mem_append_right _ ht))
  have o3:okO N b=true:=okO_of fun t ht=>hk t (List.mem_append_right _ ht)
  unfold oPick
  rcases zbi (C:=C) o1 (tr:=tr) fun vc=>asBool vc fun t=>valK a tr fun x=>valK b tr fun y=>boolK t fun t=>Bool.rec (K y hp n []) (K x hp n []) t with h|h
  · exact .inl h
  · rw[h,zju]
    split
    · rename_i t hv
      rcases zbi (C:=C) o2 (tr:=tr) fun x=>valK b tr fun y=>boolK t fun t=>Bool.rec (K y hp n []) (K x hp n []) t with h|h
      · exact .inl h
      · rw[h]
        rcases zbi (C:=C) o3 (tr:=tr) fun y=>boolK t fun t=>Bool.rec (K y hp n []) (K (Ev.val C (listT N tr) a) hp n []) t with h|h
        · exact .inl h
        · rw[h,zii]
          refine .inr ⟨bif t then Ev.val C (listT N tr) a else Ev.val C (listT N tr) b,hp,n,[],by cases t<;>rfl,hh,zds rfl ?_⟩
          simp only[xval,hv]
          split
          · rename_i p q e1 e2;rw[e1,e2];cases t<;>rfl
          · rfl
    · exact .inl rfl
theorem zsu (hC:∀ g,C.glob g=none)(k:Nat)(arr:Option Nat)(x i:Opnd):FOk C N (oIndexA k arr x i) (.indexA k arr x i):=by
  intro tr hp n K ht hh hk
  have hs:=zbj (N:=N) hC (k:=.indexA k arr x i) (fun _=>rfl) tr hp n K ht hh hk
  obtain ⟨o1,o2⟩:=two hk
  unfold oIndexA
  refine (zbi (C:=C) o2 (tr:=tr) _).elim .inl fun h=>?_
  rw[h,zij]
  split
  · rename_i ki i' hi
    cases i' with
    |negSucc j=>exact .inl rfl
    |ofNat j=>
      show (valK x tr _)=R.no∨_
      refine (zbi (C:=C) o1 (tr:=tr) _).elim .inl fun h=>?_
      rw[show asNatI (Int.ofNat j)=fun K=>K j from rfl]
      simp only
      rw[h]
      cases arr with
      |none=>
        simp only
        rw[zza]
        split
        · rename_i b off m k' hv
          rw[zbh]
          split
          · rename_i hc
            simp only[andB_eq,zdt,Bool.and_eq_true,decide_eq_true_eq] at hc
            have hk':k=k':=Nat.eq_of_beq_eq_true hc.2
            subst hk'
            rw[zeh hh]
            split
            · rename_i ha
              simp only[zbx]
              refine .inr ⟨_,hp,n,[b],rfl,hh,zhi rfl ?_ (zde ha)⟩
              have:(j:Int)<m:=by omega
              simp[xval,hi,hv,ha,this]
            · exact .inl rfl
          · exact .inl rfl
        · exact hs
      |some m=>
        simp only
        rw[zft]
        split
        · rename_i b off hv
          rw[zbh]
          split
          · rename_i hc
            simp only[zdt,decide_eq_true_eq] at hc
            rw[zeh hh]
            split
            · rename_i ha
              simp only[zbx]
              refine .inr ⟨_,hp,n,[b],rfl,hh,zhi rfl ?_ (zde ha)⟩
              have:(j:Int)<m:=by omega
              simp[xval,hi,hv,ha,this]
            · exact .inl rfl
          · exact .inl rfl
        · exact hs
  · exact .inl rfl

theorem zrd {tr:T AV}:∀ {l:List (Nat × Nat × Opnd)} {cs:List AV} (K:List AV→R),(∀ p,p∈l→okO N p.2.2=true)→fillK l cs tr K=.no∨∃ out,fillK l cs tr K=K out∧fillA cs (l.map fun p=>(p.1,p.2.1,Ev.val C (listT N tr) p.2.2))=some out
  |[],cs,K,_=>.inr ⟨cs,rfl,rfl⟩
  |(off,sz,x)::l,cs,K,h=>by
    have e:fillK ((off,sz,x)::l) cs tr K=valK x tr fun v=>cellsK v fun w=>Bool.rec .no (putK cs off w fun cs=>fillK l cs tr K) (andB (Nat.beq (lenL w) sz) (Nat.ble (Nat.add off sz) (lenL cs))):=rfl
    rw[e]
    refine (zbi (C:=C) (h _ (List.mem_cons_self ..)) (tr:=tr) _).elim .inl fun h1=>?_
    rw[h1,zjp]
    cases hc:cellsOf (Ev.val C (listT N tr) x) with
    |none=>exact .inl rfl
    |some w=>
      simp only[zhe]
      rw[zbh]
      split
      · rename_i hcond
        simp only[andB_eq,zdt,Bool.and_eq_true,decide_eq_true_eq] at hcond
        have e1:w.length=sz:=Nat.eq_of_beq_eq_true hcond.1
        have e2:off+sz≤cs.length:=hcond.2
        rw[zon,if_pos (by omega)]
        rcases zrd (l:=l) (cs:=setAt cs off w) K (fun p hp=>h p (List.mem_cons_of_mem _ hp)) with h2|⟨out,h2,h3⟩
        · exact .inl h2
        · refine .inr ⟨out,h2,?_⟩
          simp only[List.map_cons,fillA,hc]
          rw[if_pos ⟨e1,e2⟩];exact h3
      · exact .inl rfl
theorem zwo (z:List AV)(parts:List (Nat × Nat × Opnd)):FOk C N (oBuild z parts) (.build z parts):=by
  intro tr hp n K ht hh hk
  unfold oBuild
  rcases zrd (C := C) (N := N) (tr := tr) (l := parts) (cs := z) (fun cs => K (.agg cs) hp n []) (fun p hp => okO_of fun t ht => hk t (by
    simp only[AK.tmps,List.mem_flatMap];exact ⟨p,hp,ht⟩)) with h|⟨out,h1,h2⟩
  · exact .inl h
  · exact .inr ⟨_,hp,n,[],h1,hh,zds rfl (by simp[xval,h2])⟩
theorem oEq_ok (e:EK)(neg:Bool)(x y:Opnd):FOk C N (oEq e neg x y) (.eq e neg x y):=by
  intro tr hp n K ht hh hk
  obtain ⟨o1,o2⟩:=two hk
  unfold oEq
  refine (zbi (C:=C) o1 (tr:=tr) _).elim .inl fun h=>?_
  rw[h]
  refine (zbi (C:=C) o2 (tr:=tr) _).elim .inl fun h=>?_
  rw[h]
  cases ha:aeqK e (Ev.val C (listT N tr) x) (Ev.val C (listT N tr) y) with
  |none=>exact .inl rfl
  |some b=>
    refine .inr ⟨.bool (bif neg then !b else b),hp,n,[],?_,hh,zds rfl (by simp[xval,ha])⟩
    show boolK _ _=_
    rw[zii]
    cases neg<;>simp
end
end Q
end Ev
end Go.Proofs.Ytlcjlcllbgjplaa

/- The quick evaluator: regions. -/
namespace Go.Proofs.Ytlcjlcllbgjplaa
open Go
namespace Ev
namespace Q

inductive CR:R→Option (CRes × List AB × List Nat)→Prop
  |no {o:Option (CRes × List AB × List Nat)}:CR .no o
  |ret {v:AV} {hp:T AB} {n:Nat} {tc:List Nat}:WH n hp→CR (.cret v hp n tc) (some (.ret v,listH n hp,tc))
  |pan {v:AV} {hp:T AB} {n:Nat} {tc:List Nat}:WH n hp→CR (.cpan v hp n tc) (some (.pan v,listH n hp,tc))
def CQ (call':CallQ)(call:CallF):Prop:=∀ (f:AV) (args:List AV) (hp:T AB) (n:Nat),WH n hp→CR (call' f args hp n) (call f args (listH n hp))

section
variable {C:Cfg} {N:Nat} {call':CallQ} {call:CallF}

def SOk (C:Cfg)(N:Nat)(call':CallQ)(call:CallF)(f:SO)(k:AK):Prop:=∀ (tr:T AV) (hp:T AB) (n:Nat) (K P:FK),WT N tr→WH n hp→(∀ t,t∈k.tmps→t<N) →
  f call' N tr hp n K P=.no∨(∃ v hp' n' tc,f call' N tr hp n K P=K v hp' n' tc∧WH n' hp'∧spine call (Ev.val C (listT N tr)) (listH n hp) k=some (.ret v,listH n' hp',tc)) ∨
    (∃ v hp' n' tc,f call' N tr hp n K P=P v hp' n' tc∧WH n' hp'∧spine call (Ev.val C (listT N tr)) (listH n hp) k=some (.pan v,listH n' hp',tc))

theorem zmv:∀ l:List AV,plainL l=l.all AV.plain
  |[]=>rfl
  |x::l=>by
    show andB (AV.plain x) (plainL l)=_
    rw[andB_eq,zmv l];rfl

theorem zwk (k:Nat)(a x:Opnd):SOk C N call' call (oStore k a x) (.store k a x):=by
  intro tr hp n K P ht hh hk
  obtain ⟨o1,o2⟩:=two hk
  unfold oStore
  refine (zbi (C:=C) o1 (tr:=tr) _).elim .inl fun h=>?_
  rw[h,zft]
  split
  · rename_i b off hv
    refine (zbi (C:=C) o2 (tr:=tr) _).elim .inl fun h=>?_
    rw[h,zjp]
    cases hc:cellsOf (Ev.val C (listT N tr) x) with
    |none=>exact .inl rfl
    |some l=>
      simp only
      rw[zhn hh]
      split
      · rename_i cs hb
        rw[zbh]
        split
        · rename_i hcond
          simp only[andB_eq,zhe,zmv,Bool.and_eq_true] at hcond
          have e1:l.length=k:=Nat.eq_of_beq_eq_true hcond.1
          rw[zon]
          split
          · rename_i hle
            obtain ⟨hp',s1,s2,s3⟩:=zev hh (by rw[← zba n hp];exact zdd hb) (.cells (setAt cs off l))
            rw[s1]
            refine .inr (.inl ⟨.unk,hp',n,[b],rfl,s2,?_⟩)
            rw[s3]
            simp only[spine,xeff,hv,hc,hb]
            rw[if_pos ⟨e1,hle,hcond.2⟩];rfl
          · exact .inl rfl
        · exact .inl rfl
      · exact .inl rfl
  · exact .inl rfl

theorem ziv (hC:∀ g,C.glob g=none){k:AK}(hk:∀ ρ H,spine call ρ H k=(xeff H ρ k).map fun r=>(.ret r.v,r.hp,r.tc)):SOk C N call' call (oEff k) k:=by
  intro tr hp n K P ht hh _
  rw[hk]
  cases hx:xeff (listH n hp) (Ev.val C (listT N tr)) k with
  |none=>left;unfold oEff;rw[val_eq N tr hC,hx]
  |some r=>
    have e:oEff k call' N tr hp n K P=ofH r.hp fun hp n=>forceNs r.tc fun tc=>K r.v hp n tc:=by
      unfold oEff;rw[val_eq N tr hC,hx];exact zbk _ _
    rw[e]
    rcases zdo r.hp fun hp n=>forceNs r.tc fun tc=>K r.v hp n tc with h|⟨hp',n',h1,h2,h3⟩
    · exact .inl h
    · refine .inr (.inl ⟨r.v,hp',n',r.tc,by rw[h1,zch],h2,by rw[h3];rfl⟩)

theorem znx {r:R}{o:Option (CRes × List AB × List Nat)}(h:CR r o)(K P:FK):ends r K P=.no∨(∃ v hp' n' tc,ends r K P=K v hp' n' tc∧WH n' hp'∧o=some (.ret v,listH n' hp',tc)) ∨
    (∃ v hp' n' tc,ends r K P=P v hp' n' tc∧WH n' hp'∧o=some (.pan v,listH n' hp',tc)):=by
  cases h with
  |no=>exact .inl rfl
  |ret h=>exact .inr (.inl ⟨_,_,_,_,rfl,h,rfl⟩)
  |pan h=>exact .inr (.inr ⟨_,_,_,_,rfl,h,rfl⟩)

theorem zgi {x:Opnd}{t:Nat}:∀ {l:List Opnd},x∈l→t∈tmpsO x→t∈tmpsL l
  |y::l,h,ht=>by
    simp only[tmpsL,List.mem_append]
    rcases List.mem_cons.1 h with rfl|h
    · exact .inl ht
    · exact .inr (zgi h ht)

theorem yam (hcall:CQ call' call)(f:Opnd)(args:List Opnd):SOk C N call' call (oCall f args) (.call f args):=by
  intro tr hp n K P ht hh hk
  simp only[AK.tmps] at hk
  have o1:okO N f=true:=okO_of fun t ht=>hk t (List.mem_append_left _ ht)
  have o2:∀ x,x∈args→okO N x=true:=fun x hx=>okO_of fun t ht=>hk t (List.mem_append_right _ (zgi hx ht))
  unfold oCall
  refine (zbi (C:=C) o1 (tr:=tr) _).elim .inl fun h=>?_
  rw[h]
  refine (zik (C:=C) (tr:=tr) _ o2).elim .inl fun h=>?_
  rw[h]
  simp only[spine]
  exact znx (hcall _ _ _ _ hh) K P

theorem zqu:∀ {l:List (Nat × Nat)} {t:Nat} (K:Nat→R),lookK l t K=(match l.lookup t with|some f=>K f|none=>.no)
  |[],_,_=>rfl
  |(a,b)::l,t,K=>by
    show (Bool.rec (lookK l t K) (K b) (Nat.beq t a):R)=_
    rw[List.lookup_cons,zqu (l:=l)]
    cases h:Nat.beq t a with
    |true=>
      have:t=a:=Nat.eq_of_beq_eq_true h
      subst this;simp
    |false=>
      have:(t==a)=false:=by simpa using Nat.ne_of_beq_eq_false h
      rw[this]

theorem zst (hcall:CQ call' call)(x:Opnd)(tbl:List (Nat × Nat))(args:List Opnd):SOk C N call' call (oInvoke x tbl args) (.invoke x tbl args):=by
  intro tr hp n K P ht hh hk
  simp only[AK.tmps] at hk
  have o1:okO N x=true:=okO_of fun t ht=>hk t (List.mem_append_left _ ht)
  have o2:∀ x,x∈args→okO N x=true:=fun x hx=>okO_of fun t ht=>hk t (List.mem_append_right _ (zgi hx ht))
  unfold oInvoke
  refine (zbi (C:=C) o1 (tr:=tr) _).elim .inl fun h=>?_
  rw[h,zkx]
  split
  · rename_i t v hv
    rw[zqu]
    split
    · rename_i f hl
      refine (zik (C:=C) (tr:=tr) _ o2).elim .inl fun h=>?_
      rw[h]
      simp only[spine,hv,hl]
      exact znx (hcall _ _ _ _ hh) K P
    · exact .inl rfl
  · exact .inl rfl

theorem zwl (x:Opnd):SOk C N call' call (oPanic x) (.panic x):=by
  intro tr hp n K P ht hh hk
  unfold oPanic
  refine (zbi (C:=C) (okO_of hk) (tr:=tr) _).elim .inl fun h=>?_
  rw[h,zkx]
  split
  · rename_i t v hv
    exact .inr (.inr ⟨_,hp,n,[],rfl,hh,by simp only[spine,hv]⟩)
  · exact .inl rfl

theorem zof (ys:List Nat):∀ xs:List Nat,apartN ys xs=apart xs ys
  |[]=>rfl
  |x::xs=>by
    have hin:∀ l:List Nat,(List.rec (motive:=fun _=>Bool) true (fun y _ ih=>andB (notB (Nat.beq x y)) ih) l)=!l.contains x:=fun l=>by
      induction l with
      |nil=>rfl
      |cons y l ih=>
        show andB (notB (Nat.beq x y)) _=_
        rw[ih,andB_eq,zor]
        cases h:Nat.beq x y with
        |true=>
          have:=Nat.eq_of_beq_eq_true h
          subst this;simp
        |false=>
          have:=Nat.ne_of_beq_eq_false h
          simp[this]
    show andB (List.rec (motive:=fun _=>Bool) true (fun y _ ih=>andB (notB (Nat.beq x y)) ih) ys) (apartN ys xs)=_
    rw[hin,zof ys xs,andB_eq]
    rfl
theorem ycz {fl:List (Nat × List Nat)}{deps:Nat}{tc:List Nat}(h:flOk fl deps tc=true):fl.all (fun p=>deps.testBit p.1 || apart p.2 tc)=true:=by
  cases tc with
  |nil=>
    rw[List.all_eq_true]
    intro p _
    have:apart p.2 []=true:=by unfold apart;simp
    simp[this]
  |cons x tc=>
    have h':(List.rec (motive:=fun _=>Bool) true (fun p _ ih=>andB (bitR deps p.1 (apartN (x::tc) p.2) true) ih) fl)=true:=h
    clear h
    induction fl with
    |nil=>rfl
    |cons p fl ih=>
      have h2:andB (bitR deps p.1 (apartN (x::tc) p.2) true) (List.rec (motive:=fun _=>Bool) true (fun p _ ih=>andB (bitR deps p.1 (apartN (x::tc) p.2) true) ih) fl)=true:=h'
      rw[andB_eq,Bool.and_eq_true,bit_if,zof] at h2
      rw[List.all_cons,ih h2.2,Bool.and_true]
      have h1:=h2.1
      split at h1
      · rename_i hb;simp[hb]
      · rw[h1];simp
theorem zee (pin:Nat):∀ (t tc:List Nat) (K:List Nat→R),filterN pin t tc K=K (t.filter (·<pin)++tc)
  |[],tc,K=>rfl
  |x::t,tc,K=>by
    show filterN pin t tc (fun r=>Bool.rec (K r) (K (x::r)) (Nat.ble (Nat.succ x) pin))=_
    rw[zee pin t tc,zbh,zdt]
    by_cases h:x<pin
    · rw[if_pos (by simp;omega),List.filter_cons_of_pos (by simpa using h)];rfl
    · rw[if_neg (by simp;omega),List.filter_cons_of_neg (by simpa using h)]
theorem zdy {tr:T AV}(ht:WT N tr){dst:Option Nat}(hd:∀ d,dst=some d→d<N)(v:AV):∃ tr',(∀ K,putT' tr dst v K=K tr')∧WT N tr'∧listT N tr'=putT (listT N tr) dst v:=by
  cases dst with
  |none=>exact ⟨tr,fun _=>rfl,ht,rfl⟩
  |some d=>exact zeu ht (hd d rfl) v

inductive SR1 (C:Cfg) (call:CallF) (pin N:Nat) (nod drawn:Bool) (o:AOp) (flq:List (Nat × List Nat)) (tr:T AV) (df:List ADef) (hp:T AB) (n:Nat) (tc:List Nat) (K:OK):R→Prop
  |no:SR1 C call pin N nod drawn o flq tr df hp n tc K .no
  |next {flq':List (Nat × List Nat)} {tr':T AV} {df':List ADef} {hp':T AB} {n':Nat} {tc':List Nat}:WT N tr'→WH n' hp' →
      (∀ fl,(drawn=true→flq=fl)→∃ ft,ev1 C call pin nod drawn fl o (St.mk (listT N tr) df (listH n hp) tc)=some (.next ft (St.mk (listT N tr') df' (listH n' hp') tc'))∧(drawn=true→flq'=addFl o.ix ft fl)) →
      SR1 C call pin N nod drawn o flq tr df hp n tc K (K flq' tr' df' hp' n' tc')
  |pan {v:AV} {tr':T AV} {df':List ADef} {hp':T AB} {n':Nat} {tc':List Nat}:WT N tr'→WH n' hp' →
      (∀ fl,(drawn=true→flq=fl)→ev1 C call pin nod drawn fl o (St.mk (listT N tr) df (listH n hp) tc)=some (.pan v (St.mk (listT N tr') df' (listH n' hp') tc'))) →
      SR1 C call pin N nod drawn o flq tr df hp n tc K (.pan v tr' df' hp' n' tc')

variable {pin n:Nat} {nod drawn:Bool} {o:AOp} {fl:List (Nat × List Nat)} {tr:T AV} {df:List ADef} {hp:T AB} {tc:List Nat} {K:OK}

theorem zez (h:okOp N o=true):(∀ d,o.dst=some d→d<N)∧(∀ t,t∈o.op.tmps→t<N)∧∀ t w,o.guard=some (t,w)→t<N:=by
  unfold okOp at h
  rw[List.all_eq_true] at h
  have h':∀ t,t∈o.names→t<N:=fun t ht=>Nat.le_of_ble_eq_true (h t ht)
  refine ⟨fun d hd=>h' d (by simp[AOp.names,hd]),fun t ht=>h' t (by simp[AOp.names,ht]),fun t w hg=>h' t (by simp[AOp.names,hg])⟩

theorem ev1_nd {st:St}(hg:wantG (Ev.val C st.tm) o.guard=some true)(hnd:∀ f args,o.op≠.defer f args):ev1 C call pin nod drawn fl o st=
    (bif spineK o.op then (match spine call (Ev.val C st.tm) st.hp o.op with
        |some (.ret v,hp,tc)=>bif !drawn || fl.all (fun p=>o.deps.testBit p.1 || apart p.2 tc) then
            some (.next none { st with hp:=hp,tm:=putT st.tm o.dst v,tc:=tc.filter (·<pin)++st.tc }) else none
        |some (.pan v,hp,tc)=>bif !drawn || fl.all (fun p=>o.deps.testBit p.1 || apart p.2 tc) then
            some (.pan v { st with hp:=hp,tc:=tc.filter (·<pin)++st.tc }) else none
        |none=>none)
      else (match float (Ev.val C st.tm) st.hp o.op with
        |some (v,hp,ft)=>some (.next (some ft) { st with hp:=hp,tm:=putT st.tm o.dst v })
        |none=>none)):=by
  unfold ev1
  rw[hg]
  generalize o.op=k at hnd ⊢
  cases k<;>first|rfl|exact absurd rfl (hnd _ _)

theorem goF_ok {f:FO}(hf:FOk C N f o.op)(hs:spineK o.op=false)(hnd:∀ f args,o.op≠.defer f args)(hok:okOp N o=true)(hg:wantG (Ev.val C (listT N tr)) o.guard=some true)(ht:WT N tr)(hh:WH n hp):
    SR1 C call pin N nod drawn o fl tr df hp n tc K (goF f call' pin N nod drawn o fl tr df hp n tc K):=by
  obtain ⟨k1,k2,_⟩:=zez hok
  unfold goF
  rcases hf tr hp n (fun v hp n ft=>putT' tr o.dst v fun tr=>Bool.rec (K fl tr df hp n tc) (K ((o.ix,ft)::fl) tr df hp n tc) drawn) ht hh k2 with h|⟨v,hp',n',ft,h1,h2,h3⟩
  · rw[h];exact .no
  · rw[h1]
    obtain ⟨tr',p1,p2,p3⟩:=zdy ht k1 v
    rw[p1]
    have hev:∀ fl,ev1 C call pin nod drawn fl o (St.mk (listT N tr) df (listH n hp) tc)=some (.next (some ft) (St.mk (listT N tr') df (listH n' hp') tc)):=fun fl=>by
      rw[ev1_nd hg hnd]
      simp only[hs,cond_false,h3,p3]
    cases hd:drawn with
    |false=>
      subst hd
      exact .next p2 h2 fun fl' _=>⟨some ft,hev fl',fun h=>by cases h⟩
    |true=>
      subst hd
      exact .next p2 h2 fun fl' he=>⟨some ft,hev fl',fun _=>by rw[he rfl];rfl⟩

theorem goS_ok {f:SO}(hf:SOk C N call' call f o.op)(hs:spineK o.op=true)(hnd:∀ f args,o.op≠.defer f args)(hok:okOp N o=true)(hg:wantG (Ev.val C (listT N tr)) o.guard=some true)(ht:WT N tr)(hh:WH n hp):
    SR1 C call pin N nod drawn o fl tr df hp n tc K (goS f call' pin N nod drawn o fl tr df hp n tc K):=by
  obtain ⟨k1,k2,_⟩:=zez hok
  unfold goS
  have hcond:∀ t,(Bool.rec true (flOk fl o.deps t) drawn:Bool)=true→∀ fl',(drawn=true→fl=fl')→(!drawn || fl'.all fun p=>o.deps.testBit p.1 || apart p.2 t)=true:=fun t h fl' he=>by
    cases hd:drawn with
    |false=>rfl
    |true=>
      rw[hd] at h
      have:=ycz (h:flOk fl o.deps t=true)
      rw[← he hd,this];rfl
  rcases hf tr hp n (fun v hp n t=>Bool.rec .no (filterN pin t tc fun tc=>putT' tr o.dst v fun tr=>K fl tr df hp n tc) (Bool.rec true (flOk fl o.deps t) drawn)) (fun v hp n t=>Bool.rec .no (filterN pin t tc fun tc=>.pan v tr df hp n tc) (Bool.rec true (flOk fl o.deps t) drawn)) ht hh k2 with h|⟨v,hp',n',t,h1,h2,h3⟩|⟨v,hp',n',t,h1,h2,h3⟩
  · rw[h];exact .no
  · rw[h1,zbh]
    split
    · rename_i hc
      rw[zee]
      obtain ⟨tr',p1,p2,p3⟩:=zdy ht k1 v
      rw[p1]
      refine .next p2 h2 fun fl' he=>⟨none,?_,fun hd=>(he hd).trans rfl⟩
      rw[ev1_nd hg hnd]
      simp only[hs,cond_true,h3,hcond t hc fl' he,p3]
    · exact .no
  · rw[h1,zbh]
    split
    · rename_i hc
      rw[zee]
      refine .pan ht h2 fun fl' he=>?_
      rw[ev1_nd hg hnd]
      simp only[hs,cond_true,h3,hcond t hc fl' he]
    · exact .no

theorem goD_ok {f:Opnd}{args:List Opnd}(ho:o.op=.defer f args)(hok:okOp N o=true)(hg:wantG (Ev.val C (listT N tr)) o.guard=some true)(ht:WT N tr)(hh:WH n hp):
    SR1 C call pin N nod drawn o fl tr df hp n tc K (goD f args call' pin N nod drawn o fl tr df hp n tc K):=by
  obtain ⟨k1,k2,_⟩:=zez hok
  rw[ho] at k2
  simp only[AK.tmps] at k2
  have o1:okO N f=true:=okO_of fun t ht=>k2 t (List.mem_append_left _ ht)
  have o2:∀ x,x∈args→okO N x=true:=fun x hx=>okO_of fun t ht=>k2 t (List.mem_append_right _ (zgi hx ht))
  unfold goD
  cases drawn with
  |true=>exact .no
  |false=>
    cases nod with
    |true=>exact .no
    |false=>
      simp only
      refine (zbi (C:=C) o1 (tr:=tr) _).elim (fun h=>by rw[h];exact .no) fun h=>?_
      rw[h,zps]
      split
      · rename_i f' first captured hv
        rw[fnK_eq]
        split
        · rename_i f''
          cases first with
          |cons a l=>exact .no
          |nil=>
            simp only
            refine (zik (C:=C) (tr:=tr) _ o2).elim (fun h=>by rw[h];exact .no) fun h=>?_
            rw[h,zpp]
            obtain ⟨tr',p1,p2,p3⟩:=zdy ht k1 .unk
            rw[p1]
            refine .next p2 hh fun fl' _=>⟨none,?_,fun hd=>by cases hd⟩
            unfold ev1
            simp only[hg,ho,hv,Bool.or_self,cond_false,p3]
        · exact .no
      · exact .no
      · exact .no

theorem opT_ok (hC:∀ g,C.glob g=none)(hcall:CQ call' call)(hok:okOp N o=true)(hg:wantG (Ev.val C (listT N tr)) o.guard=some true)(ht:WT N tr)(hh:WH n hp):
    SR1 C call pin N nod drawn o fl tr df hp n tc K (opT o.op call' pin N nod drawn o fl tr df hp n tc K):=by
  cases ho:o.op
  case mov x=>exact goF_ok (call':=call') (call:=call) (by rw[ho];exact ycm x) (by rw[ho];rfl) (by rw[ho];intro f a h;cases h) hok hg ht hh
  case pick a b c=>exact goF_ok (call':=call') (call:=call) (by rw[ho];exact yaj a b c) (by rw[ho];rfl) (by rw[ho];intro f a h;cases h) hok hg ht hh
  case alloc z=>exact goF_ok (call':=call') (call:=call) (by rw[ho];exact zwp z) (by rw[ho];rfl) (by rw[ho];intro f a h;cases h) hok hg ht hh
  case box x=>exact goF_ok (call':=call') (call:=call) (by rw[ho];exact yco x) (by rw[ho];rfl) (by rw[ho];intro f a h;cases h) hok hg ht hh
  case build z p=>exact goF_ok (call':=call') (call:=call) (by rw[ho];exact zwo z p) (by rw[ho];rfl) (by rw[ho];intro f a h;cases h) hok hg ht hh
  case buildSl k l z p=>exact goF_ok (call':=call') (call:=call) (by rw[ho];exact ziu hC) (by rw[ho];rfl) (by rw[ho];intro f a h;cases h) hok hg ht hh
  case load k a=>exact goF_ok (call':=call') (call:=call) (by rw[ho];exact yak hC k a) (by rw[ho];rfl) (by rw[ho];intro f a h;cases h) hok hg ht hh
  case store k a x=>exact goS_ok (call':=call') (call:=call) (by rw[ho];exact zwk k a x) (by rw[ho];rfl) (by rw[ho];intro f a h;cases h) hok hg ht hh
  case nilck x=>exact goF_ok (call':=call') (call:=call) (by rw[ho];exact zwm hC x) (by rw[ho];rfl) (by rw[ho];intro f a h;cases h) hok hg ht hh
  case nilckM m t x=>exact goF_ok (call':=call') (call:=call) (by rw[ho];exact zbj hC fun _=>rfl) (by rw[ho];rfl) (by rw[ho];intro f a h;cases h) hok hg ht hh
  case bin op x y=>exact goF_ok (call':=call') (call:=call) (by rw[ho];exact ycp op x y) (by rw[ho];rfl) (by rw[ho];intro f a h;cases h) hok hg ht hh
  case eq e n x y=>exact goF_ok (call':=call') (call:=call) (by rw[ho];exact oEq_ok e n x y) (by rw[ho];rfl) (by rw[ho];intro f a h;cases h) hok hg ht hh
  case not x=>exact goF_ok (call':=call') (call:=call) (by rw[ho];exact ycl x) (by rw[ho];rfl) (by rw[ho];intro f a h;cases h) hok hg ht hh
  case neg x=>exact goF_ok (call':=call') (call:=call) (by rw[ho];exact zbj hC fun _=>rfl) (by rw[ho];rfl) (by rw[ho];intro f a h;cases h) hok hg ht hh
  case conv k x=>exact goF_ok (call':=call') (call:=call) (by rw[ho];exact yal k x) (by rw[ho];rfl) (by rw[ho];intro f a h;cases h) hok hg ht hh
  case iface t x=>exact goF_ok (call':=call') (call:=call) (by rw[ho];exact zwn t x) (by rw[ho];rfl) (by rw[ho];intro f a h;cases h) hok hg ht hh
  case mkfn f a b=>exact goF_ok (call':=call') (call:=call) (by rw[ho];exact zbj hC fun _=>rfl) (by rw[ho];rfl) (by rw[ho];intro f a h;cases h) hok hg ht hh
  case mkmap=>exact goF_ok (call':=call') (call:=call) (by rw[ho];exact ziu hC) (by rw[ho];rfl) (by rw[ho];intro f a h;cases h) hok hg ht hh
  case mksl k z l c=>exact goF_ok (call':=call') (call:=call) (by rw[ho];exact ziu hC) (by rw[ho];rfl) (by rw[ho];intro f a h;cases h) hok hg ht hh
  case slice k x l h=>exact goF_ok (call':=call') (call:=call) (by rw[ho];exact zbj hC fun _=>rfl) (by rw[ho];rfl) (by rw[ho];intro f a h;cases h) hok hg ht hh
  case fieldA k x=>exact goF_ok (call':=call') (call:=call) (by rw[ho];exact zsw hC k x) (by rw[ho];rfl) (by rw[ho];intro f a h;cases h) hok hg ht hh
  case fieldV a k x=>exact goF_ok (call':=call') (call:=call) (by rw[ho];exact zsv a k x) (by rw[ho];rfl) (by rw[ho];intro f a h;cases h) hok hg ht hh
  case indexA a k x i=>exact goF_ok (call':=call') (call:=call) (by rw[ho];exact zsu hC a k x i) (by rw[ho];rfl) (by rw[ho];intro f a h;cases h) hok hg ht hh
  case indexV=>exact goF_ok (call':=call') (call:=call) (by rw[ho];exact zbj hC fun _=>rfl) (by rw[ho];rfl) (by rw[ho];intro f a h;cases h) hok hg ht hh
  case lookup=>exact goF_ok (call':=call') (call:=call) (by rw[ho];exact zbj hC fun _=>rfl) (by rw[ho];rfl) (by rw[ho];intro f a h;cases h) hok hg ht hh
  case mapupd=>exact goS_ok (call':=call') (call:=call) (by rw[ho];exact ziv hC fun _ _=>rfl) (by rw[ho];rfl) (by rw[ho];intro f a h;cases h) hok hg ht hh
  case tassert=>exact goF_ok (call':=call') (call:=call) (by rw[ho];exact zbj hC fun _=>rfl) (by rw[ho];rfl) (by rw[ho];intro f a h;cases h) hok hg ht hh
  case extract x i=>exact goF_ok (call':=call') (call:=call) (by rw[ho];exact zoq x i) (by rw[ho];rfl) (by rw[ho];intro f a h;cases h) hok hg ht hh
  case len x=>exact goF_ok (call':=call') (call:=call) (by rw[ho];exact ycn hC x) (by rw[ho];rfl) (by rw[ho];intro f a h;cases h) hok hg ht hh
  case append=>exact goS_ok (call':=call') (call:=call) (by rw[ho];exact ziv hC fun _ _=>rfl) (by rw[ho];rfl) (by rw[ho];intro f a h;cases h) hok hg ht hh
  case copy=>exact goS_ok (call':=call') (call:=call) (by rw[ho];exact ziv hC fun _ _=>rfl) (by rw[ho];rfl) (by rw[ho];intro f a h;cases h) hok hg ht hh
  case max=>exact goF_ok (call':=call') (call:=call) (by rw[ho];exact zbj hC fun _=>rfl) (by rw[ho];rfl) (by rw[ho];intro f a h;cases h) hok hg ht hh
  case min=>exact goF_ok (call':=call') (call:=call) (by rw[ho];exact zbj hC fun _=>rfl) (by rw[ho];rfl) (by rw[ho];intro f a h;cases h) hok hg ht hh
  case call f l=>exact goS_ok (call':=call') (call:=call) (by rw[ho];exact yam hcall f l) (by rw[ho];rfl) (by rw[ho];intro f a h;cases h) hok hg ht hh
  case invoke x t l=>exact goS_ok (call':=call') (call:=call) (by rw[ho];exact zst hcall x t l) (by rw[ho];rfl) (by rw[ho];intro f a h;cases h) hok hg ht hh
  case defer f l=>exact goD_ok (call':=call') ho hok hg ht hh
  case mapent=>exact goS_ok (call':=call') (call:=call) (by rw[ho];exact ziv hC fun _ _=>rfl) (by rw[ho];rfl) (by rw[ho];intro f a h;cases h) hok hg ht hh
  case entst=>exact goS_ok (call':=call') (call:=call) (by rw[ho];exact ziv hC fun _ _=>rfl) (by rw[ho];rfl) (by rw[ho];intro f a h;cases h) hok hg ht hh
  case isnil=>exact goF_ok (call':=call') (call:=call) (by rw[ho];exact zbj hC fun _=>rfl) (by rw[ho];rfl) (by rw[ho];intro f a h;cases h) hok hg ht hh
  case sliceA=>exact goF_ok (call':=call') (call:=call) (by rw[ho];exact zbj hC fun _=>rfl) (by rw[ho];rfl) (by rw[ho];intro f a h;cases h) hok hg ht hh
  case panic x=>exact goS_ok (call':=call') (call:=call) (by rw[ho];exact zwl x) (by rw[ho];rfl) (by rw[ho];intro f a h;cases h) hok hg ht hh

theorem opG_ok (hC:∀ g,C.glob g=none)(hcall:CQ call' call)(hok:okOp N o=true)(ht:WT N tr)(hh:WH n hp):
    SR1 C call pin N nod drawn o fl tr df hp n tc K (opG call' pin N nod drawn o fl tr df hp n tc K):=by
  obtain ⟨k1,k2,k3⟩:=zez hok
  cases hgd:o.guard with
  |none=>
    have e:opG call' pin N nod drawn o fl tr df hp n tc K=opT o.op call' pin N nod drawn o fl tr df hp n tc K:=by unfold opG;rw[hgd];rfl
    rw[e]
    exact opT_ok hC hcall hok (by rw[hgd];rfl) ht hh
  |some g=>
    obtain ⟨t,want⟩:=g
    have e:opG call' pin N nod drawn o fl tr df hp n tc K=getK tr t .no fun v=>asBT v (fun b=>Bool.rec (putT' tr o.dst (.tup []) fun tr=>K fl tr df hp n tc) (opT o.op call' pin N nod drawn o fl tr df hp n tc K) (Bool.rec (notB b) b want)) (putT' tr o.dst (.tup []) fun tr=>K fl tr df hp n tc):=by unfold opG;rw[hgd];rfl
    rw[e,zfc]
    cases hat:at? tr t with
    |none=>exact .no
    |some x=>
      simp only
      rw[ydn]
      have hv:Ev.val C (listT N tr) (.tmp t)=x:=by simp only[Ev.val];rw[zco tr (k3 t want hgd),hat];rfl
      split
      · rename_i b
        have hw:wantG (Ev.val C (listT N tr)) o.guard=some (b==want):=by rw[hgd];simp only[wantG,hv]
        have hb:(Bool.rec (notB b) b want:Bool)=(b==want):=by cases want<;>cases b<;>rfl
        rw[hb,zbh]
        split
        · rename_i hbw
          exact opT_ok hC hcall hok (by rw[hw,hbw]) ht hh
        · rename_i hbw
          obtain ⟨tr',p1,p2,p3⟩:=zdy ht k1 (.tup [])
          rw[p1]
          refine .next p2 hh fun fl' he=>⟨none,?_,fun hd=>(he hd).trans rfl⟩
          unfold ev1
          simp only[hw,show (b==want)=false by simpa using hbw,p3]
      · have hw:wantG (Ev.val C (listT N tr)) o.guard=some false:=by rw[hgd];simp only[wantG,hv]
        obtain ⟨tr',p1,p2,p3⟩:=zdy ht k1 (.tup [])
        rw[p1]
        refine .next p2 hh fun fl' he=>⟨none,?_,fun hd=>(he hd).trans rfl⟩
        unfold ev1
        simp only[hw,p3]
      · exact .no

inductive ER (N:Nat):R→Option (AExit × St)→Prop
  |no {o:Option (AExit × St)}:ER N .no o
  |norm {tr:T AV} {df:List ADef} {hp:T AB} {n:Nat} {tc:List Nat}:WT N tr→WH n hp→ER N (.norm tr df hp n tc) (some (.normal,St.mk (listT N tr) df (listH n hp) tc))
  |exit {i:Nat} {tr:T AV} {df:List ADef} {hp:T AB} {n:Nat} {tc:List Nat}:WT N tr→WH n hp→ER N (.exit i tr df hp n tc) (some (.exit i,St.mk (listT N tr) df (listH n hp) tc))
  |ret {tr:T AV} {df:List ADef} {hp:T AB} {n:Nat} {tc:List Nat}:WT N tr→WH n hp→ER N (.ret tr df hp n tc) (some (.ret,St.mk (listT N tr) df (listH n hp) tc))
  |pan {v:AV} {tr:T AV} {df:List ADef} {hp:T AB} {n:Nat} {tc:List Nat}:WT N tr→WH n hp→ER N (.pan v tr df hp n tc) (some (.panic v,St.mk (listT N tr) df (listH n hp) tc))

def opsO:Option AV × St→AExit × St
  |(none,st)=>(.normal,st)
  |(some v,st)=>(.panic v,st)

theorem zop (hC:∀ g,C.glob g=none)(hcall:CQ call' call):∀ {l:List AOp} {flq fl:List (Nat × List Nat)} {tr:T AV} {df:List ADef} {hp:T AB} {n:Nat} {tc:List Nat},l.all (okOp N)=true→(drawn=true→flq=fl)→WT N tr→WH n hp →
    ER N (opsQ call' pin N nod drawn l flq tr df hp n tc) ((evOps C call pin nod drawn l fl (St.mk (listT N tr) df (listH n hp) tc)).map opsO)
  |[],flq,fl,tr,df,hp,n,tc,_,_,ht,hh=>.norm ht hh
  |o::l,flq,fl,tr,df,hp,n,tc,hok,hf,ht,hh=>by
    rw[List.all_cons,Bool.and_eq_true] at hok
    have e:opsQ call' pin N nod drawn (o::l) flq tr df hp n tc=opG call' pin N nod drawn o flq tr df hp n tc (opsQ call' pin N nod drawn l):=rfl
    rw[e]
    have h1:=opG_ok (call':=call') (pin:=pin) (nod:=nod) (drawn:=drawn) (fl:=flq) (df:=df) (tc:=tc) (K:=opsQ call' pin N nod drawn l) hC hcall hok.1 ht hh
    generalize opG call' pin N nod drawn o flq tr df hp n tc (opsQ call' pin N nod drawn l)=r at h1
    cases h1 with
    |no=>exact .no
    |next w1 w2 w3=>
      obtain ⟨ft,e1,e2⟩:=w3 fl hf
      simp only[evOps,e1]
      exact zop hC hcall hok.2 e2 w1 w2
    |pan w1 w2 w3=>
      simp only[evOps,w3 fl hf]
      exact .pan w1 w2
end
end Q
end Ev
end Go.Proofs.Ytlcjlcllbgjplaa

/- The quick evaluator: code and calls. -/
namespace Go.Proofs.Ytlcjlcllbgjplaa
open Go
namespace Ev
namespace Q
section
variable {C:Cfg} {N pin:Nat} {rd:Option Nat} {call':CallQ} {call:CallF}

theorem zht:∀ {l:List Nat} {tr:T AV},(∀ t,t∈l→t<N)→WT N tr→∃ tr',(∀ K,forgetK l tr K=K tr')∧WT N tr'∧listT N tr'=forget l (listT N tr)
  |[],tr,_,ht=>⟨tr,fun _=>rfl,ht,rfl⟩
  |t::l,tr,h,ht=>by
    obtain ⟨tr1,a1,a2,a3⟩:=zeu ht (h t (List.mem_cons_self ..)) .unk
    obtain ⟨tr2,b1,b2,b3⟩:=zht (l:=l) (fun x hx=>h x (List.mem_cons_of_mem _ hx)) a2
    refine ⟨tr2,fun K=>?_,b2,by rw[b3,a3];rfl⟩
    show setK tr t .unk (fun tr=>forgetK l tr K)=_
    rw[a1,b1]

theorem zhf {tr:T AV}:∀ {l:List Nat} {acc:T AV},(∀ t,t∈l→t<N)→WT N acc→(∀ s,s<N→(listT N acc).getD s .unk=.unk∨(listT N acc).getD s .unk=(listT N tr).getD s .unk) →
    ∃ tr',(∀ K,keepK l tr acc K=K tr')∧WT N tr'∧listT N tr'=l.foldl (fun acc t=>acc.set t ((listT N tr).getD t .unk)) (listT N acc)
  |[],acc,_,ha,_=>⟨acc,fun _=>rfl,ha,rfl⟩
  |t::l,acc,h,ha,hs=>by
    have ht:=h t (List.mem_cons_self ..)
    have e:∀ K,keepK (t::l) tr acc K=getK tr t (keepK l tr acc K) fun v=>setK acc t v fun acc=>keepK l tr acc K:=fun _=>rfl
    cases hat:at? tr t with
    |none=>
      have hu:(listT N tr).getD t .unk=.unk:=by rw[zco tr ht,hat];rfl
      have hself:(listT N acc).set t .unk=listT N acc:=by
        refine List.ext_getElem? fun s=>?_
        by_cases hst:t=s
        · subst hst
          have h1:=hs t ht
          rw[hu,or_self,List.getD_eq_getElem?_getD,zdz acc ht] at h1
          rw[List.getElem?_set_self (by rw[zbz];exact ht),zdz acc ht]
          simpa using h1.symm
        · rw[List.getElem?_set_ne hst]
      obtain ⟨tr',a1,a2,a3⟩:=zhf (l:=l) (fun x hx=>h x (List.mem_cons_of_mem _ hx)) ha hs
      refine ⟨tr',fun K=>by rw[e,zfc,hat];exact a1 K,a2,?_⟩
      rw[a3,List.foldl_cons,hu,hself]
    |some v=>
      have hu:(listT N tr).getD t .unk=v:=by rw[zco tr ht,hat];rfl
      obtain ⟨acc',b1,b2,b3⟩:=zeu ha ht v
      obtain ⟨tr', a1, a2, a3⟩ := zhf (tr := tr) (l := l) (acc := acc') (fun x hx => h x (List.mem_cons_of_mem _ hx)) b2 (fun s hsN => by
        rw[b3]
        by_cases hst:t=s
        · subst hst
          right
          rw[List.getD_eq_getElem?_getD,List.getElem?_set_self (by rw[zbz];exact ht),hu];rfl
        · rw[List.getD_eq_getElem?_getD,List.getElem?_set_ne hst,← List.getD_eq_getElem?_getD];exact hs s hsN)
      refine ⟨tr',fun K=>by rw[e,zfc,hat];simp only;rw[b1];exact a1 K,a2,?_⟩
      rw[a3,List.foldl_cons,hu,b3]

theorem zfo:∀ {l:List AV} {i:Nat} {tr:T AV},i+l.length≤N→WT N tr→∃ tr',(∀ K,laysK l i tr K=K tr')∧WT N tr'∧listT N tr'=(listT N tr).take i++l++(listT N tr).drop (i+l.length)
  |[],i,tr,_,ht=>⟨tr,fun _=>rfl,ht,by simp⟩
  |v::l,i,tr,h,ht=>by
    simp only[List.length_cons] at h
    obtain ⟨tr1,a1,a2,a3⟩:=zeu ht (show i<N by omega) v
    obtain ⟨tr2,b1,b2,b3⟩:=zfo (l:=l) (i:=i+1) (by omega) a2
    refine ⟨tr2,fun K=>?_,b2,?_⟩
    · show setK tr i v (fun tr=>laysK l (i+1) tr K)=_
      rw[a1,b1]
    · rw[b3,a3]
      have hl:(listT N tr).length=N:=zbz N tr
      rw[List.take_succ_eq_append_getElem (by simp;omega),List.take_set_of_le (Nat.le_refl _),List.drop_set_of_lt (by omega)]
      simp[show i+1+l.length=i+(l.length+1) by omega]
theorem zqo {l:List AV}(h:l.length=N):∃ tr',(∀ K,ofL N l K=K tr')∧WT N tr'∧listT N tr'=l:=by
  obtain ⟨tr',a1,a2,a3⟩:=zfo (l:=l) (i:=0) (by omega) (zcl N (fun _=>.no)).2.1
  refine ⟨tr',fun K=>by show newT N (fun tr=>laysK l 0 tr K)=_;rw[(zcl N _).1,a1],a2,?_⟩
  rw[a3,(zcl N (fun _=>.no)).2.2]
  simp[h]

theorem zlq:∀ (l:List ADef) (K:List ADef→R),ofDfs l K=K l
  |[],_=>rfl
  |d::l,K=>by
    show ofDf d (fun d=>ofDfs l fun l=>K (d::l))=_
    cases d with
    |mark d=>
      have h1:ofDf (.mark d) (fun d=>ofDfs l fun l=>K (d::l))=ofDfs l fun l=>K (.mark d::l):=zbx d fun d=>ofDfs l fun l=>K (.mark d::l)
      rw[h1,zlq]
    |call f a=>
      have h1:ofDf (.call f a) (fun d=>ofDfs l fun l=>K (d::l))=ofDfs l fun l=>K (.call f a::l):=zfd a fun a=>ofDfs l fun l=>K (.call f a::l)
      rw[h1,zlq]
theorem zwj {st:St}(h:st.tm.length=N)(K:SQ):ofSt N st K=.no∨∃ tr hp n,ofSt N st K=K tr st.df hp n st.tc∧WT N tr∧WH n hp∧St.mk (listT N tr) st.df (listH n hp) st.tc=st:=by
  obtain ⟨tm,df,hp,tc⟩:=st
  obtain ⟨tr',a1,a2,a3⟩:=zqo h
  have e:ofSt N ⟨tm,df,hp,tc⟩ K=ofH hp fun hp n=>K tr' df hp n tc:=by
    show forceL tm _=_
    rw[zfd,a1,zlq]
    simp only[zch]
  rw[e]
  rcases zdo hp fun hp n=>K tr' df hp n tc with h1|⟨hp',n',h1,h2,h3⟩
  · exact .inl h1
  · exact .inr ⟨tr',hp',n',h1,a2,h2,by simp only at a3;rw[a3,h3]⟩

theorem zll (σ:Nat→Option Nat):∀ l:List AV,(renL σ l).length=l.length
  |[]=>rfl
  |v::l=>by simp[renL,zll σ l]
theorem gc_len {st:St}:(gc pin st).tm.length=st.tm.length:=by
  unfold gc
  simp only
  split
  · simp[zll]
  · rfl

theorem ztp {live:List Nat}{tr:T AV}{df:List ADef}{hp:T AB}{n:Nat}{tc:List Nat}(hl:∀ t,t∈live→t<N)(_ht:WT N tr)(hh:WH n hp)(K:SQ):
    headQ C pin N live K tr df hp n tc=.no∨∃ tr' df' hp' n' tc',headQ C pin N live K tr df hp n tc=K tr' df' hp' n' tc'∧WT N tr'∧WH n' hp' ∧
      St.mk (listT N tr') df' (listH n' hp') tc'=gcC C pin { St.mk (listT N tr) df (listH n hp) tc with tm:=keepT live (listT N tr) }:=by
  obtain ⟨n1,n2,n3⟩:=zcl N (fun _=>.no)
  obtain ⟨tr1, a1, a2, a3⟩ := zhf (tr := tr) (l := live) hl n2 (fun s hs => by
    left;rw[n3,List.getD_eq_getElem?_getD,List.getElem?_replicate,if_pos hs];rfl)
  have e:headQ C pin N live K tr df hp n tc=Bool.rec (ofSt N (gc pin { tm:=listT N tr1,df:=df,hp:=listH n hp,tc:=tc }) K) (K tr1 df hp n tc) ((C.calm || Nat.ble n (Nat.add pin C.gcAt))):=by
    show newT N _=_
    rw[(zcl N _).1,a1]
  have hk:listT N tr1=keepT live (listT N tr):=by
    rw[a3,n3];unfold keepT;rw[zbz]
  rw[e,zbh]
  unfold gcC
  simp only[← hk]
  rw[zba]
  show (if (C.calm || Nat.ble n (pin+C.gcAt))=true then _ else _)=R.no∨_
  cases hb:(C.calm || Nat.ble n (pin+C.gcAt)) with
  |true=>
    rw[if_pos rfl]
    exact .inr ⟨tr1,df,hp,n,tc,rfl,a2,hh,rfl⟩
  |false=>
    rw[if_neg (by simp)]
    rcases zwj (N:=N) (st:=gc pin { tm:=listT N tr1,df:=df,hp:=listH n hp,tc:=tc }) (by rw[gc_len];exact zbz N tr1) K with h|⟨tr',hp',n',h1,h2,h3,h4⟩
    · exact .inl h
    · exact .inr ⟨tr',_,hp',n',_,h1,h2,h3,h4⟩

theorem all_lt {l:List Nat}(h:(l.all fun t=>Nat.ble (Nat.succ t) N)=true):∀ t,t∈l→t<N:=fun t ht=>by
  rw[List.all_eq_true] at h
  exact Nat.le_of_ble_eq_true (h t ht)
theorem dst_lt {l:List AOp}(h:l.all (okOp N)=true):∀ t,t∈l.filterMap (·.dst)→t<N:=fun t ht=>by
  rw[List.all_eq_true] at h
  obtain ⟨o,ho,hd⟩:=List.mem_filterMap.1 ht
  exact (zez (h o ho)).1 t hd

theorem zqt {head:SQ→SQ}{body:SQ}{headF:St→St}{bodyF:St→Option (AExit × St)}
    (hhead:∀ (tr:T AV) (df:List ADef) (hp:T AB) (n:Nat) (tc:List Nat) (K:SQ),WT N tr→WH n hp→head K tr df hp n tc=.no∨∃ tr' df' hp' n' tc',head K tr df hp n tc=K tr' df' hp' n' tc'∧WT N tr'∧WH n' hp'∧St.mk (listT N tr') df' (listH n' hp') tc'=headF (St.mk (listT N tr) df (listH n hp) tc))
    (hbody:∀ (tr:T AV) (df:List ADef) (hp:T AB) (n:Nat) (tc:List Nat),WT N tr→WH n hp→ER N (body tr df hp n tc) (bodyF (St.mk (listT N tr) df (listH n hp) tc))):
    ∀ (m:Nat) (tr:T AV) (df:List ADef) (hp:T AB) (n:Nat) (tc:List Nat),WT N tr→WH n hp→ER N (loopQ head body m tr df hp n tc) (loopN bodyF headF m (St.mk (listT N tr) df (listH n hp) tc))
  |0,_,_,_,_,_,_,_=>.no
  |m+1,tr,df,hp,n,tc,ht,hh=>by
    have e:loopQ head body (m+1) tr df hp n tc=head (fun tr df hp n tc=>seqR (body tr df hp n tc) (loopQ head body m)) tr df hp n tc:=rfl
    rw[e]
    rcases hhead tr df hp n tc (fun tr df hp n tc=>seqR (body tr df hp n tc) (loopQ head body m)) ht hh with h|⟨tr',df',hp',n',tc',h1,h2,h3,h4⟩
    · rw[h];exact .no
    · rw[h1]
      simp only[loopN]
      rw[← h4]
      have hb:=hbody tr' df' hp' n' tc' h2 h3
      generalize body tr' df' hp' n' tc'=r at hb
      generalize bodyF (St.mk (listT N tr') df' (listH n' hp') tc')=o at hb
      cases hb with
      |no=>exact .no
      |norm a b=>exact zqt hhead hbody m _ _ _ _ _ a b
      |exit a b=>exact .exit a b
      |ret a b=>exact .ret a b
      |pan a b=>exact .pan a b

theorem yax {pend:Option AExit}{tr:T AV}{df:List ADef}{hp:T AB}{n:Nat}{tc:List Nat}(ht:WT N tr)(hh:WH n hp):ER N (jumpQ pend tr df hp n tc) (some (pend.getD .normal,St.mk (listT N tr) df (listH n hp) tc)):=by
  cases pend with
  |none=>exact .norm ht hh
  |some e=>cases e with
    |normal=>exact .norm ht hh
    |exit i=>exact .exit ht hh
    |ret=>exact .ret ht hh
    |panic v=>exact .no

theorem zkd (hcall:CQ call' call){gf:Nat}{first captured:List AV}{ps:List Nat}{as bd:AC}{tr:T AV}{tc:List Nat}{d:Nat}{df df0:List ADef}{hp0 hpx:T AB}{n0 nx:Nat}(ht:WT N tr)(hh:WH n0 hp0):
    ER N (rangeGo call' pin N gf first captured ps as bd tr tc d df hp0 n0) (match call (.fn (.func gf) first captured) [.yield (listH n0 hp0).length] (listH n0 hp0 ++ [.loop ⟨.ready, none, listT N tr, ps, as, bd, d⟩]) with
      | some (.ret _, hp', t) => (match hp'[(listH n0 hp0).length]? with
        |some (.loop r)=>if r.st=.busy then none else some (r.pend.getD .normal,{ St.mk (listT N tr) df0 (listH nx hpx) tc with df:=df,hp:=hp'.set (listH n0 hp0).length .dead,tc:=t.filter (·<pin)++tc })
        |_=>none)
      |some (.pan v,hp',t)=>some (.panic v,{ St.mk (listT N tr) df0 (listH nx hpx) tc with df:=df,hp:=hp',tc:=t.filter (·<pin)++tc })
      |none=>none):=by
  unfold rangeGo
  rw[zfd]
  rcases zda hh (.loop ⟨.ready, none, listT N tr, ps, as, bd, d⟩) (fun hp1 n1 => ends (call' (.fn (.func gf) first captured) [.yield n0] hp1 n1)
    (fun _ hp' n' t=>loopAt hp' n' n0 fun r=>notBusy r.st <| setK hp' n0 .dead fun hp'=>filterN pin t tc fun tc=>jumpQ r.pend tr df hp' n' tc)
    (fun v hp' n' t=>filterN pin t tc fun tc=>.pan v tr df hp' n' tc)) with h|⟨hp1,h1,h2,h3⟩
  · rw[h];exact .no
  · rw[h1]
    have hc:=hcall (.fn (.func gf) first captured) [.yield n0] hp1 (n0+1) h2
    rw[h3] at hc
    rw[zba]
    generalize call' (.fn (.func gf) first captured) [.yield n0] hp1 (n0+1)=r at hc
    generalize call (.fn (.func gf) first captured) [.yield n0] (listH n0 hp0++[.loop ⟨.ready,none,listT N tr,ps,as,bd,d⟩])=o at hc
    cases hc with
    |no=>exact .no
    |@ret v hp' n' t w=>
      show ER N (loopAt hp' n' n0 _) _
      rw[zbs w]
      simp only
      cases hr:(listH n' hp')[n0]? with
      |none=>exact .no
      |some blk=>
        cases blk with
        |loop r=>
          have hlt:n0<n':=by rw[← zba n' hp'];exact zdd hr
          obtain ⟨hp2,s1,s2,s3⟩:=zev w hlt .dead
          have e:notBusy r.st (setK hp' n0 .dead fun hp'=>filterN pin t tc fun tc=>jumpQ r.pend tr df hp' n' tc)=if r.st=.busy then .no else jumpQ r.pend tr df hp2 n' (t.filter (·<pin)++tc):=by
            rw[s1,zee]
            cases r.st<;>rfl
          simp only
          rw[e]
          split
          · exact .no
          · rw[← s3];exact yax ht s2
        |_=>exact .no
    |@pan v hp' n' t w=>
      show ER N (filterN pin t tc _) _
      rw[zee]
      exact .pan ht w

theorem evQ_ok (hC:∀ g,C.glob g=none)(hcall:CQ call' call):∀ (c:AC),okC N c=true→∀ (tr:T AV) (df:List ADef) (hp:T AB) (n:Nat) (tc:List Nat),WT N tr→WH n hp →
    ER N (evQ C call' pin N rd c tr df hp n tc) (ev C call pin rd c (St.mk (listT N tr) df (listH n hp) tc)):=by
  intro c
  induction c with
  |skip=>intro _ tr df hp n tc ht hh;exact .norm ht hh
  |ops l=>
    intro hok tr df hp n tc ht hh
    have h:=zop (C:=C) (pin:=pin) (nod:=rd.isSome) (drawn:=false) (df:=df) (tc:=tc) (flq:=[]) (fl:=[]) hC hcall hok (fun h=>by cases h) ht hh
    simp only[ev]
    show ER N (opsQ call' pin N rd.isSome false l [] tr df hp n tc) _
    cases ho:evOps C call pin rd.isSome false l [] (St.mk (listT N tr) df (listH n hp) tc) with
    |none=>rw[ho] at h;exact h
    |some p=>
      rw[ho] at h
      obtain ⟨p,st⟩:=p
      cases p<;>exact h
  |draw l=>
    intro hok tr df hp n tc ht hh
    have h:=zop (C:=C) (pin:=pin) (nod:=rd.isSome) (drawn:=true) (df:=df) (tc:=tc) (flq:=[]) (fl:=[]) hC hcall hok (fun _=>rfl) ht hh
    simp only[ev]
    show ER N (panR l (opsQ call' pin N rd.isSome true l [] tr df hp n tc)) _
    generalize opsQ call' pin N rd.isSome true l [] tr df hp n tc=r at h
    cases ho:evOps C call pin rd.isSome true l [] (St.mk (listT N tr) df (listH n hp) tc) with
    |none=>
      rw[ho] at h
      cases h;exact .no
    |some p=>
      rw[ho] at h
      obtain ⟨p,st⟩:=p
      cases p with
      |none=>
        cases h with
        |no=>exact .no
        |norm a b=>exact .norm a b
      |some v=>
        cases h with
        |no=>exact .no
        |@pan v tr' df' hp' n' tc' a b=>
          obtain ⟨tr2,f1,f2,f3⟩:=zht (dst_lt hok) a
          show ER N (forgetK (l.filterMap (·.dst)) tr' _) _
          rw[f1]
          simp only[Option.map_some]
          rw[← f3]
          exact .pan f2 b
  |seq a b iha ihb=>
    intro hok tr df hp n tc ht hh
    simp only[okC,Bool.and_eq_true] at hok
    have h:=iha hok.1 tr df hp n tc ht hh
    simp only[ev]
    show ER N (seqR (evQ C call' pin N rd a tr df hp n tc) (evQ C call' pin N rd b)) _
    generalize evQ C call' pin N rd a tr df hp n tc=r at h
    generalize ev C call pin rd a (St.mk (listT N tr) df (listH n hp) tc)=o at h
    cases h with
    |no=>exact .no
    |norm x y=>exact ihb hok.2 _ _ _ _ _ x y
    |exit x y=>exact .exit x y
    |ret x y=>exact .ret x y
    |pan x y=>exact .pan x y
  |cond c a b iha ihb=>
    intro hok tr df hp n tc ht hh
    simp only[okC,Bool.and_eq_true] at hok
    simp only[ev]
    show ER N (valK c tr fun v=>asBool v fun t=>Bool.rec (evQ C call' pin N rd b tr df hp n tc) (evQ C call' pin N rd a tr df hp n tc) t) _
    refine (zbi (C:=C) hok.1 (tr:=tr) _).elim (fun h=>by rw[h];exact .no) fun h=>?_
    rw[h,zju]
    split
    · rename_i t hv
      rw[hv]
      cases t with
      |true=>exact iha hok.2.1 tr df hp n tc ht hh
      |false=>exact ihb hok.2.2 tr df hp n tc ht hh
    · exact .no
  |block id c ih=>
    intro hok tr df hp n tc ht hh
    have h:=ih hok tr df hp n tc ht hh
    simp only[ev]
    show ER N (blockR id (evQ C call' pin N rd c tr df hp n tc)) _
    generalize evQ C call' pin N rd c tr df hp n tc=r at h
    generalize ev C call pin rd c (St.mk (listT N tr) df (listH n hp) tc)=o at h
    cases h with
    |no=>exact .no
    |norm x y=>exact .norm x y
    |@exit i _ _ _ _ _ x y=>
      simp only
      show ER N (Bool.rec _ _ (Nat.beq i id)) _
      rw[zbh]
      by_cases hi:i=id
      · subst hi;rw[if_pos (Nat.beq_refl i),if_pos rfl];exact .norm x y
      · rw[if_neg (fun h=>hi (Nat.eq_of_beq_eq_true h)),if_neg hi];exact .exit x y
    |ret x y=>exact .ret x y
    |pan x y=>exact .pan x y
  |loop live c ih=>
    intro hok tr df hp n tc ht hh
    simp only[okC,Bool.and_eq_true] at hok
    simp only[ev]
    exact zqt (headF:=fun st=>gcC C pin { st with tm:=keepT live st.tm }) (fun tr df hp n tc K ht hh=>ztp (all_lt hok.1) ht hh K) (fun tr df hp n tc ht hh=>ih hok.2 tr df hp n tc ht hh) fuelL tr df hp n tc ht hh
  |rangeF g ps as bd _ _=>
    intro hok tr df hp n tc ht hh
    simp only[okC] at hok
    simp only[ev]
    show ER N (rangeQ call' pin N rd g ps as bd tr df hp n tc) _
    unfold rangeQ
    refine (zbi (C:=C) hok (tr:=tr) _).elim (fun h=>by rw[h];exact .no) fun h=>?_
    rw[h,zps]
    split
    · rename_i f first captured hv
      rw[fnK_eq]
      cases f with
      |func gf=>
        simp only
        cases rd with
        |none=>
          show ER N (pushK hp n .dfr fun hp m=>rangeGo call' pin N gf first captured ps as bd tr tc n (.mark n::df) hp m) _
          rcases zda hh .dfr (fun hp m=>rangeGo call' pin N gf first captured ps as bd tr tc n (.mark n::df) hp m) with h|⟨hp1,h1,h2,h3⟩
          · rw[h];exact .no
          · rw[h1]
            have:=zkd (pin:=pin) (call':=call') (call:=call) (gf:=gf) (first:=first) (captured:=captured) (ps:=ps) (as:=as) (bd:=bd) (tc:=tc) (d:=n) (df:=.mark n::df) (df0:=df) (hpx:=hp) (nx:=n) hcall ht h2
            rw[h3] at this
            rw[hv]
            simp only
            rw[zba n hp]
            exact this
        |some l=>
          show ER N (loopAt hp n l fun r=>rangeGo call' pin N gf first captured ps as bd tr tc r.dfr df hp n) _
          rw[zbs hh,hv]
          simp only
          cases hl:(listH n hp)[l]? with
          |none=>exact .no
          |some blk=>
            cases blk with
            |loop r=>exact zkd (pin:=pin) (df0:=df) (hpx:=hp) (nx:=n) hcall ht hh
            |_=>exact .no
      |_=>exact .no
    · exact .no
    · exact .no
  |exit id=>intro _ tr df hp n tc ht hh;exact .exit ht hh
  |ret=>intro _ tr df hp n tc ht hh;exact .ret ht hh
end
end Q
end Ev
end Go.Proofs.Ytlcjlcllbgjplaa

/- The quick evaluator: ends of functions, calls; what it comes to is what the first one does. -/
namespace Go.Proofs.Ytlcjlcllbgjplaa
open Go
namespace Ev
namespace Q
section
variable {C:Cfg} {N pin:Nat} {rd:Option Nat} {call':CallQ} {call:CallF}

theorem zis {tr:T AV}{df:List ADef}{hp:T AB}{n:Nat}{tc:List Nat}(hh:WH n hp):∀ {l:List ARes} (K:List AV→R),l.all (okR N)=true→resK tr hp n l K=.no∨∃ vs,resK tr hp n l K=K vs∧resL (St.mk (listT N tr) df (listH n hp) tc) l=some vs
  |[],K,_=>.inr ⟨[],rfl,rfl⟩
  |r::l,K,h=>by
    rw[List.all_cons,Bool.and_eq_true] at h
    cases r with
    |tmp t=>
      have ht:t<N:=Nat.le_of_ble_eq_true h.1
      have e:resK tr hp n (.tmp t::l) K=getK tr t (resK tr hp n l fun l=>K (.unk::l)) fun v=>resK tr hp n l fun l=>K (v::l):=rfl
      have e2:resK tr hp n (.tmp t::l) K=resK tr hp n l fun l=>K ((listT N tr).getD t .unk::l):=by
        rw[e,zfc,zco tr ht]
        cases at? tr t<;>rfl
      rw[e2]
      rcases zis (df:=df) (tc:=tc) hh (l:=l) (fun l=>K ((listT N tr).getD t .unk::l)) h.2 with h1|⟨vs,h1,h2⟩
      · exact .inl h1
      · exact .inr ⟨_,h1,by simp only[resL,resOf,h2]⟩
    |cell t k=>
      have ht:t<N:=Nat.le_of_ble_eq_true h.1
      have e:resK tr hp n (.cell t k::l) K=getK tr t .no fun v=>asPtr v (fun b off=>cellsAt hp n b fun cs=>pickK k cs off fun v=>resK tr hp n l fun l=>K (v::l)) .no:=rfl
      rw[e,zfc]
      cases hat:at? tr t with
      |none=>exact .inl rfl
      |some x=>
        have hu:(listT N tr).getD t .unk=x:=by rw[zco tr ht,hat];rfl
        simp only
        rw[zft]
        split
        · rename_i b off
          rw[zhn hh]
          split
          · rename_i cs hb
            rw[zlo]
            cases hp':pickC k cs off with
            |none=>exact .inl rfl
            |some v=>
              simp only
              rcases zis (df:=df) (tc:=tc) hh (l:=l) (fun l=>K (v::l)) h.2 with h1|⟨vs,h1,h2⟩
              · exact .inl h1
              · exact .inr ⟨_,h1,by simp only[resL,resOf,hu,hb,hp',h2]⟩
          · exact .inl rfl
        · exact .inl rfl
theorem yab (l:List AV)(K:AV→R):resVK l K=K (resV l):=by
  match l with
  |[]=>rfl
  |[v]=>rfl
  |a::b::l=>rfl

inductive FR:R→Option (CRes × St)→Prop
  |no {o:Option (CRes × St)}:FR .no o
  |ret {v:AV} {hp:T AB} {n:Nat} {st:St}:WH n hp→st.hp=listH n hp→FR (.cret v hp n st.tc) (some (.ret v,st))
  |pan {v:AV} {hp:T AB} {n:Nat} {st:St}:WH n hp→st.hp=listH n hp→FR (.cpan v hp n st.tc) (some (.pan v,st))

theorem zgy {fn:AFunc}{e:AExit}{tr:T AV}{df:List ADef}{hp:T AB}{n:Nat}{tc:List Nat}:FR (slowFin C pin N fn e tr df hp n tc) (finish C pin fn e (St.mk (listT N tr) df (listH n hp) tc)):=by
  unfold slowFin
  cases finish C pin fn e (St.mk (listT N tr) df (listH n hp) tc) with
  |none=>exact .no
  |some p=>
    obtain ⟨x,st⟩:=p
    cases x with
    |ret v=>
      simp only[zbk,zch]
      rcases zdo st.hp (fun hp n=>.cret v hp n st.tc) with h|⟨hp',n',h1,h2,h3⟩
      · rw[h];exact .no
      · rw[h1];exact .ret h2 h3.symm
    |pan v=>
      simp only[zbk,zch]
      rcases zdo st.hp (fun hp n=>.cpan v hp n st.tc) with h|⟨hp',n',h1,h2,h3⟩
      · rw[h];exact .no
      · rw[h1];exact .pan h2 h3.symm

theorem zye {fn:AFunc}(hres:fn.res.all (okR N)=true){r:R}{o:Option (AExit × St)}(h:ER N r o):FR (finQ C pin N fn r) (match (generalizing:=false) o with|some (e,st)=>finish C pin fn e st|none=>none):=by
  have hnil:∀ (e:AExit) (tr:T AV) (hp:T AB) (n:Nat) (tc:List Nat),(e=.normal∨e=.ret)→WH n hp→FR (resK tr hp n fn.res fun l=>resVK l fun v=>.cret v hp n tc) (finish C pin fn e (St.mk (listT N tr) [] (listH n hp) tc)):=by
    intro e tr hp n tc he hh
    rcases zis (df:=[]) (tc:=tc) hh (l:=fn.res) (fun l=>resVK l fun v=>.cret v hp n tc) hres with h1|⟨vs,h1,h2⟩
    · rw[h1];exact .no
    · rw[h1,yab]
      have hf:finish C pin fn e (St.mk (listT N tr) [] (listH n hp) tc)=some (.ret (resV vs),St.mk (listT N tr) [] (listH n hp) tc):=by
        rcases he with rfl|rfl<;>simp only[finish,runDefs,h2]<;>rfl
      rw[hf]
      exact FR.ret (st:=St.mk (listT N tr) [] (listH n hp) tc) hh rfl
  cases h with
  |no=>exact .no
  |@norm tr df hp n tc a b=>
    cases df with
    |nil=>exact hnil .normal tr hp n tc (.inl rfl) b
    |cons d df=>exact zgy
  |exit a b=>exact .no
  |@ret tr df hp n tc a b=>
    cases df with
    |nil=>exact hnil .ret tr hp n tc (.inr rfl) b
    |cons d df=>exact zgy
  |@pan v tr df hp n tc a b=>
    cases df with
    |nil=>
      have hf:finish C pin fn (.panic v) (St.mk (listT N tr) [] (listH n hp) tc)=some (.pan v,St.mk (listT N tr) [] (listH n hp) tc):=by simp only[finish,runDefs]
      simp only
      rw[hf]
      exact FR.pan (st:=St.mk (listT N tr) [] (listH n hp) tc) b rfl
    |cons d df=>exact zgy

theorem zkh {H hp:T AB}{n:Nat}(hH:WH N H)(hh:WH n hp):∀ {tc:List Nat} (K:T AB→R),overQ H N hp n tc K=.no∨∃ H',overQ H N hp n tc K=K H'∧WH N H'∧listH N H'=overH (listH N H) (listH n hp) tc
  |[],K=>.inr ⟨H,rfl,hH,rfl⟩
  |j::tc,K=>by
    have e:overQ H N hp n (j::tc) K=overQ H N hp n tc fun H'=>Bool.rec (K H') (blockK hp n j fun b=>setK H' j b K) (Nat.ble (Nat.succ j) N):=rfl
    rw[e]
    rcases zkh hH hh (tc:=tc) (fun H'=>Bool.rec (K H') (blockK hp n j fun b=>setK H' j b K) (Nat.ble (Nat.succ j) N)) with h|⟨H1,h1,h2,h3⟩
    · exact .inl h
    · rw[h1,zbh,zdt]
      split
      · rename_i hj
        have hj:j<N:=by simp at hj;omega
        rw[zgt hh]
        cases hb:(listH n hp)[j]? with
        |none=>exact .inl rfl
        |some b=>
          obtain ⟨H2,s1,s2,s3⟩:=zev h2 hj b
          refine .inr ⟨H2,s1 K,s2,?_⟩
          rw[s3,h3]
          simp only[overH]
          rw[List.getD_eq_getElem?_getD,hb];rfl
      · rename_i hj
        have hj:N≤j:=by simp at hj;omega
        refine .inr ⟨H1,rfl,h2,?_⟩
        simp only[overH]
        rw[← h3,List.set_eq_of_length_le (by rw[zba];exact hj)]

theorem zhx {hp:T AB}{n:Nat}(hh:WH n hp):∀ {k i:Nat} {H:T AB} (K:T AB→Nat→R),i+k≤n→WH i H→behindQ hp k i H K=.no∨∃ H',behindQ hp k i H K=K H' (i+k)∧WH (i+k) H'∧listH (i+k) H'=listH i H++((listH n hp).drop i).take k
  |0,i,H,K,_,hH=>.inr ⟨H,rfl,hH,by simp⟩
  |k+1,i,H,K,hle,hH=>by
    have e:behindQ hp (k+1) i H K=getK hp i .no fun b=>setK H i b fun H=>behindQ hp k (Nat.succ i) H K:=rfl
    rw[e,zfc]
    cases hat:at? hp i with
    |none=>exact .inl rfl
    |some b=>
      have hn:=hh.le
      obtain ⟨H1,a1,a2,a3⟩:=zgk hH.wf i b
      simp only
      rw[a1]
      have hc:(2:Nat) ^ cap=128:=rfl
      have hw : WH (i + 1) H1 := ⟨a2, by omega, fun j hj => by
        rw[a3]
        split
        · rfl
        · rename_i hne
          refine hH.there j ?_
          rcases Nat.lt_or_ge j i with hl|hl
          · exact hl
          · exact absurd (by rw[show j=i by omega]) hne⟩
      have hl:listH (i+1) H1=listH i H++[b]:=List.ext_getElem? fun s=>by
        rw[zcv hw]
        rcases Nat.lt_trichotomy s i with hs|hs|hs
        · rw[if_pos (by omega),a3,Nat.mod_eq_of_lt (by omega),Nat.mod_eq_of_lt (by omega:i<2 ^ cap),if_neg (by omega),List.getElem?_append_left (by rw[zba];exact hs),zcv hH,if_pos hs]
        · subst hs
          rw[if_pos (by omega),a3,if_pos rfl,List.getElem?_append_right (by rw[zba];omega),zba];simp
        · rw[if_neg (by omega),List.getElem?_eq_none (by simp[zba];omega)]
      rcases zhx hh (k:=k) (i:=i+1) (H:=H1) K (by omega) hw with h|⟨H',h1,h2,h3⟩
      · exact .inl h
      · have ha:i+1+k=i+(k+1):=by omega
        rw[ha] at h1 h2 h3
        refine .inr ⟨H',h1,h2,?_⟩
        rw[h3,hl]
        have hi:(listH n hp)[i]?=some b:=by rw[zcv hh,if_pos (by omega),hat]
        have:(listH n hp).drop i=b::(listH n hp).drop (i+1):=by
          have hlt:=zdd hi
          rw[List.drop_eq_getElem_cons hlt]
          rw[List.getElem?_eq_getElem hlt] at hi
          rw[Option.some.inj hi]
        rw[this,List.take_succ_cons]
        simp

theorem zho {H hp:T AB}{n:Nat}{tc:List Nat}(hH:WH N H)(hh:WH n hp)(K:T AB→Nat→R):backQ H N hp n tc K=.no∨∃ H' n',backQ H N hp n tc K=K H' n'∧WH n' H'∧listH n' H'=overH (listH N H) (listH n hp) tc++(listH n hp).drop N:=by
  unfold backQ
  rcases zkh hH hh (tc:=tc) (fun H=>behindQ hp (Nat.sub n N) N H K) with h|⟨H1,h1,h2,h3⟩
  · exact .inl h
  · rw[h1]
    by_cases hle:N≤n
    · have hs:N+(n - N)=n:=by omega
      rcases zhx hh (k:=n - N) (i:=N) (H:=H1) K (by omega) h2 with h|⟨H',k1,k2,k3⟩
      · exact .inl h
      · refine .inr ⟨H',N+(n - N),k1,k2,?_⟩
        rw[k3,h3]
        congr 1
        rw[List.take_of_length_le (by simp[zba])]
    · have h0:Nat.sub n N=0:=by show n - N=0;omega
      rw[h0]
      exact .inr ⟨H1,N,rfl,h2,by rw[h3,List.drop_eq_nil_of_le (by rw[zba];omega),List.append_nil]⟩

theorem zgw {x:CRes}{hp:T AB}{n:Nat}(hh:WH n hp)(K:AV→T AB→Nat→R):tidyQ C pin x x.val hp n K=.no∨∃ x2 hp2 n2,tidyQ C pin x x.val hp n K=K x2.val hp2 n2∧WH n2 hp2∧tidyC C pin x (listH n hp)=(x2,listH n2 hp2):=by
  unfold tidyQ tidyC
  rw[zbh,zba]
  show (if (C.calm || Nat.ble n (pin+C.gcAt))=true then _ else _)=R.no∨_
  cases hb:(C.calm || Nat.ble n (pin+C.gcAt)) with
  |true=>
    rw[if_pos rfl]
    exact .inr ⟨x,hp,n,rfl,hh,rfl⟩
  |false=>
    rw[if_neg (by simp)]
    unfold slowTidy
    cases ht:tidy pin x (listH n hp) with
    |mk x2 l2=>
    simp only[zbk]
    rcases zdo l2 (fun hp n=>K x2.val hp n) with h|⟨hp2,n2,h1,h2,h3⟩
    · exact .inl h
    · exact .inr ⟨x2,hp2,n2,h1,h2,by rw[h3];rfl⟩
theorem zgx {x x2:CRes}{H H2:List AB}(h:tidyC C pin x H=(x2,H2)):(∀ v,x=.ret v→∃ w,x2=.ret w)∧(∀ v,x=.pan v→∃ w,x2=.pan w):=by
  unfold tidyC at h
  cases hb:(C.calm || Nat.ble H.length (pin+C.gcAt))<;>rw[hb] at h
  · unfold tidy at h
    cases h
    exact ⟨fun v hv=>by subst hv;exact ⟨_,rfl⟩,fun v hv=>by subst hv;exact ⟨_,rfl⟩⟩
  · cases h
    exact ⟨fun v hv=>⟨v,hv⟩,fun v hv=>⟨v,hv⟩⟩

theorem zyx (v:AV)(tc:List Nat):bare v tc=bareQ v tc:=by
  unfold bare bareQ
  cases tc with
  |nil=>cases h:refs v<;>simp
  |cons a l=>simp

def outF (C:Cfg)(H:List AB):Option (CRes × St)→Option (CRes × List AB × List Nat)
  |some (x,st)=>bif bareQ x.val st.tc then some (x,H,[]) else
      let (x,hp):=tidyC C H.length x st.hp
      some (x,overH H hp st.tc++hp.drop H.length,st.tc)
  |none=>none
theorem yci {H:T AB}(hH:WH N H){r:R}{o:Option (CRes × St)}(h:FR r o):CR (outQ C N H r) (outF C (listH N H) o):=by
  cases h with
  |no=>exact .no
  |@ret v hp n st a b=>
    show CR (Bool.rec _ _ (bare v st.tc)) _
    rw[zbh,zyx]
    unfold outF
    simp only[CRes.val]
    cases bareQ v st.tc with
    |true=>rw[if_pos rfl];exact .ret hH
    |false=>
      rw[if_neg (by simp),b]
      simp only[cond_false]
      rcases zgw (C:=C) (pin:=N) (x:=.ret v) a (fun v hp n=>backQ H N hp n st.tc fun H n=>.cret v H n st.tc) with h|⟨x2,hp2,n2,h1,h2,h3⟩
      · rw[show CRes.val (.ret v)=v from rfl] at h;rw[h];exact .no
      · rw[show CRes.val (.ret v)=v from rfl] at h1
        rw[h1,zba,h3]
        obtain ⟨w,rfl⟩:=(zgx h3).1 v rfl
        rcases zho (tc:=st.tc) hH h2 (fun H n=>.cret w H n st.tc) with h|⟨H',n',k1,k2,k3⟩
        · rw[show CRes.val (.ret w)=w from rfl,h];exact .no
        · rw[show CRes.val (.ret w)=w from rfl,k1]
          simp only
          rw[← k3];exact .ret k2
  |@pan v hp n st a b=>
    show CR (Bool.rec _ _ (bare v st.tc)) _
    rw[zbh,zyx]
    unfold outF
    simp only[CRes.val]
    cases bareQ v st.tc with
    |true=>rw[if_pos rfl];exact .pan hH
    |false=>
      rw[if_neg (by simp),b]
      simp only[cond_false]
      rcases zgw (C:=C) (pin:=N) (x:=.pan v) a (fun v hp n=>backQ H N hp n st.tc fun H n=>.cpan v H n st.tc) with h|⟨x2,hp2,n2,h1,h2,h3⟩
      · rw[show CRes.val (.pan v)=v from rfl] at h;rw[h];exact .no
      · rw[show CRes.val (.pan v)=v from rfl] at h1
        rw[h1,zba,h3]
        obtain ⟨w,rfl⟩:=(zgx h3).2 v rfl
        rcases zho (tc:=st.tc) hH h2 (fun H n=>.cpan w H n st.tc) with h|⟨H',n',k1,k2,k3⟩
        · rw[show CRes.val (.pan w)=w from rfl,h];exact .no
        · rw[show CRes.val (.pan w)=w from rfl,k1]
          simp only
          rw[← k3];exact .pan k2

structure Quick (C:Cfg):Prop where
  glob:∀ g,C.glob g=none
  ok:∀ f fn,C.fns f=some fn→okF fn=true

theorem zyp (hQ:Quick C)(hcall:CQ call' call){f:Nat}{args:List AV}{H:T AB}{n:Nat}(hH:WH n H):CR (enterQ C call' f args H n) (enter C call f args (listH n H)):=by
  unfold enterQ enter
  cases hext:C.ext f with
  |some g=>
    simp only
    cases hg:g args with
    |none=>exact .no
    |some v=>
      show CR (forceV v _) _
      rw[zbk]
      exact .ret hH
  |none=>
    cases hexh:C.exth f with
    |some g=>
      simp only
      cases hg:g args (listH n H) with
      |none=>exact .no
      |some v=>
        show CR (forceV v _) _
        rw[zbk]
        exact .ret hH
    |none=>
    simp only
    cases hf:C.fns f with
    |none=>exact .no
    |some fn=>
      simp only
      have hok:=hQ.ok f fn hf
      unfold okF at hok
      rw[Bool.and_eq_true] at hok
      show CR (Bool.rec (slowRun C call' fn args H n) (runQ C call' fn args H n) (C.whole f)) _
      cases hw:C.whole f with
      |true=>
        rw[cond_true]
        unfold runQ
        rw[zbh,zhe,zdt]
        split
        · rename_i hle
          have hle:args.length≤fn.ntmps:=by simpa using hle
          obtain ⟨_,n2,n3⟩:=zcl fn.ntmps (fun _=>.no)
          obtain ⟨tr,l1,l2,l3⟩:=zfo (N:=fn.ntmps) (l:=args) (i:=0) (by omega) n2
          rw[(zcl fn.ntmps _).1,l1]
          have htm:listT fn.ntmps tr=args++List.replicate (fn.ntmps - args.length) .unk:=by
            rw[l3,n3];simp
          have hev:=evQ_ok (C:=C) (pin:=n) (rd:=none) hQ.glob hcall fn.body hok.1 tr [] H n [] l2 hH
          rw[htm] at hev
          have hfin:=zye (C:=C) (pin:=n) (fn:=fn) hok.2 hev
          have hout:=yci (C:=C) hH hfin
          rw[zba]
          have e:∀ o:Option (AExit × St),outF C (listH n H) (match o with|some (e,st)=>finish C n fn e st|none=>none)=
              (match o with
              | some (e, st) => (match finish C n fn e st with
                |some (x,st)=>bif bareQ x.val st.tc then some (x,listH n H,[]) else
                  let (x,hp):=tidyC C n x st.hp
                  some (x,overH (listH n H) hp st.tc++hp.drop n,st.tc)
                |none=>none)
              |none=>none):=fun o=>by
            cases o with
            |none=>rfl
            |some p=>
              obtain ⟨e,st⟩:=p
              simp only
              cases finish C n fn e st with
              |none=>rfl
              |some q=>obtain ⟨x,st⟩:=q;simp only[outF,zba]
          exact Eq.mp (congrArg (fun o=>CR (outQ C n H (finQ C n fn.ntmps fn (evQ C call' n fn.ntmps none fn.body tr [] H n []))) o) (e (ev C call n none fn.body { tm:=args++List.replicate (fn.ntmps - args.length) .unk,df:=[],hp:=listH n H,tc:=[] }))) hout
        · exact .no
      |false=>
        rw[cond_false]
        show CR (slowRun C call' fn args H n) _
        unfold slowRun
        rw[zbh,zhe,zdt]
        split
        · rename_i hle
          have hle:args.length≤fn.ntmps:=by simpa using hle
          simp only[zch,zfd]
          generalize reach (listH n H) fuelR (refsL args) []=r
          rcases zdo (restrict (listH n H) r) (fun H0 n0=>newT fn.ntmps fun tr=>laysK (renL (place r) args) 0 tr fun tr=>partGo (listH n H) r (finQ C n0 fn.ntmps fn (evQ C call' n0 fn.ntmps none fn.body tr [] H0 n0 []))) with h|⟨H0,n0,h1,h2,h3⟩
          · rw[h];exact .no
          · rw[h1]
            have hn0:n0=r.length:=by rw[← zba n0 H0,h3];simp[restrict]
            subst hn0
            obtain ⟨_,n2,n3⟩:=zcl fn.ntmps (fun _=>.no)
            have hrl:(renL (place r) args).length=args.length:=zll _ _
            obtain ⟨tr,l1,l2,l3⟩:=zfo (N:=fn.ntmps) (l:=renL (place r) args) (i:=0) (by omega) n2
            rw[(zcl fn.ntmps _).1,l1]
            have htm:listT fn.ntmps tr=renL (place r) args++List.replicate (fn.ntmps - args.length) .unk:=by
              rw[l3,n3];simp[hrl]
            have hev:=evQ_ok (C:=C) (pin:=r.length) (rd:=none) hQ.glob hcall fn.body hok.1 tr [] H0 r.length [] l2 h2
            rw[htm,h3] at hev
            have hfin:=zye (C:=C) (pin:=r.length) (fn:=fn) hok.2 hev
            have hpart : ∀ (R0 : R) (o : Option (CRes × St)), FR R0 o → CR (partGo (listH n H) r R0) (match o with
                |some (x,st)=>some (partOut (listH n H) r x st.hp st.tc)
                |none=>none):=by
              intro R0 o h
              have hK:∀ p:CRes × List AB × List Nat,CR (partR p) (some p):=by
                rintro ⟨x,l,t⟩
                cases x with
                |ret v=>
                  simp only[partR,zbk,zch]
                  rcases zdo l (fun hp n=>.cret v hp n t) with h|⟨hp',n',k1,k2,k3⟩
                  · rw[h];exact .no
                  · rw[k1,← k3];exact .ret k2
                |pan v=>
                  simp only[partR,zbk,zch]
                  rcases zdo l (fun hp n=>.cpan v hp n t) with h|⟨hp',n',k1,k2,k3⟩
                  · rw[h];exact .no
                  · rw[k1,← k3];exact .pan k2
              cases h with
              |no=>exact .no
              |@ret v hp m st a b=>simp only;rw[b];exact hK (partOut (listH n H) r (.ret v) (listH m hp) st.tc)
              |@pan v hp m st a b=>simp only;rw[b];exact hK (partOut (listH n H) r (.pan v) (listH m hp) st.tc)
            have hout:=hpart _ _ hfin
            have e : ∀ o : Option (AExit × St), (match (generalizing := false) (match (generalizing := false) o with | some (e, st) => finish C r.length fn e st | none => none) with
                |some (x,st)=>some (partOut (listH n H) r x st.hp st.tc)
                |none=>none)=(match (generalizing:=false) o with
                | some (e, st) => (match (generalizing := false) finish C r.length fn e st with
                  |some (x,st)=>
                    let (x,hp):=tidy r.length x st.hp
                    some (x.map (ren (backN (listH n H).length r)),backH (listH n H) r hp st.tc++(hp.drop r.length).map (renB (backN (listH n H).length r)),st.tc.map fun j=>r.getD j (listH n H).length)
                  |none=>none)
                |none=>none):=fun o=>by
              cases o with
              |none=>rfl
              |some p=>
                obtain ⟨e,st⟩:=p
                simp only
                cases finish C r.length fn e st with
                |none=>rfl
                |some q=>obtain ⟨x,st⟩:=q;rfl
            exact Eq.mp (congrArg (fun o=>CR (partGo (listH n H) r (finQ C r.length fn.ntmps fn (evQ C call' r.length fn.ntmps none fn.body tr [] H0 r.length []))) o) (e (ev C call r.length none fn.body { tm:=renL (place r) args++List.replicate (fn.ntmps - args.length) .unk,df:=[],hp:=restrict (listH n H) r,tc:=[] }))) hout
        · exact .no

theorem zkg:∀ {ps:List Nat} {as:List AV} {tr:T AV},(∀ p,p∈ps→p<N)→WT N tr→∃ tr',(∀ K,parsK ps as tr K=K tr')∧WT N tr'∧listT N tr'=setParams (listT N tr) ps as
  |[],as,tr,_,ht=>⟨tr,fun _=>rfl,ht,by simp[setParams]⟩
  |p::ps,[],tr,_,ht=>⟨tr,fun _=>rfl,ht,by simp[setParams]⟩
  |p::ps,a::as,tr,h,ht=>by
    obtain ⟨tr1,a1,a2,a3⟩:=zeu ht (h p (List.mem_cons_self ..)) a
    obtain ⟨tr2,b1,b2,b3⟩:=zkg (ps:=ps) (as:=as) (fun x hx=>h x (List.mem_cons_of_mem _ hx)) a2
    refine ⟨tr2,fun K=>?_,b2,by rw[b3,a3];rfl⟩
    show setK tr p a (fun tr=>parsK ps as tr K)=_
    rw[a1,b1]

theorem zmb {l:Nat}{H hp:T AB}{n:Nat}{p:Option AExit}{tc:List Nat}(hH:WH N H)(hh:WH n hp){r2:ALoop}(hl:(listH n hp)[l]?=some (.loop r2)):
    CR (endRd C l N H p p.isNone hp n tc) (let hp := (listH n hp).set l (.loop { r2 with st := if p.isNone then .ready else .done, pend := p })
              let (x,hp):=tidyC C N (.ret (.bool p.isNone)) hp
              some (x,overH (listH N H) hp (l::tc)++hp.drop N,l::tc)):=by
  unfold endRd
  rw[zbs hh,hl]
  simp only[ycu]
  obtain ⟨hp1,s1,s2,s3⟩:=zev hh (show l<n by rw[← zba n hp];exact zdd hl) (.loop ⟨Bool.rec .done .ready p.isNone,p,r2.tm,r2.params,r2.assign,r2.body,r2.dfr⟩)
  rw[s1]
  have he:(if p.isNone=true then LSt.ready else LSt.done)=(Bool.rec .done .ready p.isNone:LSt):=by cases p.isNone<;>rfl
  rw[he,← s3]
  rcases zgw (C:=C) (pin:=N) (x:=.ret (.bool p.isNone)) s2 (fun v hp n=>backQ H N hp n (l::tc) fun H n=>.cret v H n (l::tc)) with h|⟨x2,hp2,n2,h1,h2,h3⟩
  · rw[show CRes.val (.ret (.bool p.isNone))=.bool p.isNone from rfl] at h;rw[h];exact .no
  · rw[show CRes.val (.ret (.bool p.isNone))=.bool p.isNone from rfl] at h1
    rw[h1,h3]
    obtain ⟨w,rfl⟩:=(zgx h3).1 _ rfl
    rcases zho (tc:=l::tc) hH h2 (fun H n=>.cret w H n (l::tc)) with h|⟨H',n',k1,k2,k3⟩
    · rw[show CRes.val (.ret w)=w from rfl,h];exact .no
    · rw[show CRes.val (.ret w)=w from rfl,k1]
      simp only
      rw[← k3];exact .ret k2

theorem zki (s:LSt)(K:R):isReady s K=if s=.ready then K else .no:=by cases s<;>rfl

theorem zvt (hQ:Quick C)(hcall:CQ call' call){l:Nat}{args:List AV}{H:T AB}{n:Nat}(hH:WH n H):CR (roundQ C call' l args H n) (round C call l args (listH n H)):=by
  unfold roundQ round
  rw[zbs hH]
  cases hl:(listH n H)[l]? with
  |none=>exact .no
  |some blk=>
    cases blk with
    |loop r=>
      simp only
      rw[zki]
      by_cases hst:r.st=.ready
      · rw[if_pos hst,zbh]
        simp only[zhe,zqv]
        split
        · rename_i hlen
          have hlen:args.length=r.params.length:=Nat.eq_of_beq_eq_true hlen
          rw[if_pos ⟨hst,hlen⟩,zbx,zbh]
          split
          · rename_i hc
            simp only[andB_eq,Bool.and_eq_true] at hc
            obtain ⟨c1,c2,c3⟩:=hc
            obtain ⟨tr,a1,a2,a3⟩:=zqo (N:=r.tm.length) (l:=r.tm) rfl
            rw[a1]
            obtain ⟨tr1,b1,b2,b3⟩:=zkg (ps:=r.params) (as:=args) (all_lt c3) a2
            rw[b1]
            have hev:=evQ_ok (C:=C) (pin:=n) (rd:=some l) hQ.glob hcall r.assign c1 tr1 [] H n [] b2 hH
            rw[b3,a3] at hev
            rw[zba]
            generalize evQ C call' n r.tm.length (some l) r.assign tr1 [] H n []=R1 at hev
            generalize ev C call n (some l) r.assign { tm:=setParams r.tm r.params args,df:=[],hp:=listH n H,tc:=[] }=o1 at hev
            cases hev with
            |no=>exact .no
            |@norm tr2 df hp m tc w1 w2=>
              show CR (loopAt hp m l _) _
              rw[zbs w2]
              simp only
              cases hl1:(listH m hp)[l]? with
              |none=>exact .no
              |some blk1=>
                cases blk1 with
                |loop r1=>
                  simp only
                  rw[zki]
                  by_cases hst1:r1.st=.ready
                  · rw[if_pos hst1,if_pos hst1]
                    obtain ⟨hp1,s1,s2,s3⟩:=zev w2 (show l<m by rw[← zba m hp];exact zdd hl1) (.loop ⟨.busy,r1.pend,r1.tm,r1.params,r1.assign,r1.body,r1.dfr⟩)
                    rw[s1]
                    have hev2:=evQ_ok (C:=C) (pin:=n) (rd:=some l) hQ.glob hcall r.body c2 tr2 df hp1 m (l::tc) w1 s2
                    rw[s3] at hev2
                    generalize evQ C call' n r.tm.length (some l) r.body tr2 df hp1 m (l::tc)=R2 at hev2
                    generalize ev C call n (some l) r.body { tm:=listT r.tm.length tr2,df:=df,hp:=(listH m hp).set l (.loop ⟨.busy,r1.pend,r1.tm,r1.params,r1.assign,r1.body,r1.dfr⟩),tc:=l::tc }=o2 at hev2
                    cases hev2 with
                    |no=>exact .no
                    |@norm tr3 df3 hp3 m3 tc3 x1 x2=>
                      show CR (endRd C l n H none true hp3 m3 tc3) _
                      simp only
                      cases hl3:(listH m3 hp3)[l]? with
                      |none=>unfold endRd;rw[zbs x2,hl3];exact .no
                      |some blk3=>
                        cases blk3 with
                        |loop r3=>exact zmb (p:=none) hH x2 hl3
                        |_=>unfold endRd;rw[zbs x2,hl3];exact .no
                    |@exit i tr3 df3 hp3 m3 tc3 x1 x2=>
                      show CR (endRd C l n H (some (.exit i)) false hp3 m3 tc3) _
                      simp only
                      cases hl3:(listH m3 hp3)[l]? with
                      |none=>unfold endRd;rw[zbs x2,hl3];exact .no
                      |some blk3=>
                        cases blk3 with
                        |loop r3=>exact zmb (p:=some (.exit i)) hH x2 hl3
                        |_=>unfold endRd;rw[zbs x2,hl3];exact .no
                    |@ret tr3 df3 hp3 m3 tc3 x1 x2=>
                      show CR (endRd C l n H (some .ret) false hp3 m3 tc3) _
                      simp only
                      cases hl3:(listH m3 hp3)[l]? with
                      |none=>unfold endRd;rw[zbs x2,hl3];exact .no
                      |some blk3=>
                        cases blk3 with
                        |loop r3=>exact zmb (p:=some .ret) hH x2 hl3
                        |_=>unfold endRd;rw[zbs x2,hl3];exact .no
                    |pan x1 x2=>exact .no
                  · rw[if_neg hst1];exact .no
                |_=>exact .no
            |exit w1 w2=>exact .no
            |ret w1 w2=>exact .no
            |pan w1 w2=>exact .no
          · exact .no
        · exact .no
      · rw[if_neg hst];exact .no
    |_=>exact .no

theorem zrn (hQ:Quick C):∀ m,CQ (callQ C m) (Ev.call C m)
  |0=>fun f args hp n _=>.no
  |m+1=>fun f args hp n hh=>by
    have ih:=zrn hQ m
    have e:callQ C (m+1) f args hp n=asFn f (fun f a b=>fnK f fun f=>catL args b fun l=>catL a l fun l=>enterQ C (callQ C m) f l hp n) (fun l=>roundQ C (callQ C m) l args hp n):=rfl
    rw[e,zps]
    simp only[Ev.call]
    split
    · rename_i f' a b
      rw[fnK_eq]
      cases f' with
      |func f''=>
        simp only[zpp]
        rw[List.append_assoc]
        exact zyp hQ ih hh
      |_=>exact .no
    · exact zvt hQ ih hh
    · exact .no

theorem found (hQ:Quick C){m:Nat}{f:AV}{args:List AV}{hp hp':T AB}{n n':Nat}{v:AV}{tc:List Nat}(hh:WH n hp)(h:callQ C m f args hp n=.cret v hp' n' tc):Ev.call C m f args (listH n hp)=some (.ret v,listH n' hp',tc)∧WH n' hp':=by
  have:=zrn hQ m f args hp n hh
  rw[h] at this
  generalize Ev.call C m f args (listH n hp)=o at this
  cases this with
  |ret w=>exact ⟨rfl,w⟩
end
end Q
end Ev
end Go.Proofs.Ytlcjlcllbgjplaa

/- From what the evaluator finds to what a call of the program comes to: a function without parameters that answers a bool. -/
namespace Go.Proofs.Ytlcjlcllbgjplaa
open Go Go.RowKit
namespace Ev

theorem zzm {P:Program}{C:Cfg}(hT:TblOk P C){m f:Nat}{b:Bool}{H':List AB}{tc:List Nat}(h:Ev.call C m (.fn (.func f) [] []) [] []=some (.ret (.bool b),H',tc))(W:World)(hG:Globs C W (fun _=>False)):
    CallsIn Fence.wide 0 P f #[] W fun e W'=>e=.returned (.bool b)∧Below W.heap.size W W':=by
  have hok:=zpq hT m
  have hsim:Sim P W (fun _=>False) nomu []:={ live:=fun i B h=>(by cases h),dead:=fun i b h _=>(by cases h),out:=fun _ _=>rfl,inj:=fun i j B h _=>(by cases h),lt:=fun b h=>h.elim }
  obtain ⟨r,W1,h1,h2⟩:=hok.sound (tc0:=[]) h (Hp.start (P:=P) hsim) hG
    (rf:=.func (.func f) #[] #[]) (rargs:=#[]) (.fn (rf:=[]) (rc:=[]) (by intro l;simp) rfl (by intro i x r h;simp at h) rfl (by intro i x r h;simp at h)) VL.nil
  have e:(do let d ← Deferred.ofValue (.func (.func f) #[] #[]) #[];invoke d.target d.args:Sem Next).run P W=.ok (.enter f #[]) W:=by
    simp only[Deferred.ofValue,Sem.run_bind,Sem.run_pure,Result.andThen,invoke]
    exact hok.fn h _ _
  rw[e] at h1
  cases h1
  refine CallsIn.mono h2 ?_
  rintro en W' ⟨L',μ',c1,c2,_⟩
  cases en<;>simp only[CRel] at c1
  refine ⟨by rw[zbl c1],c2.env.1,c2.env.2.1,c2.env.2.2,c2.size,fun k hk=>c2.same k hk fun i _ hi=>by cases hi⟩

end Ev
end Go.Proofs.Ytlcjlcllbgjplaa
