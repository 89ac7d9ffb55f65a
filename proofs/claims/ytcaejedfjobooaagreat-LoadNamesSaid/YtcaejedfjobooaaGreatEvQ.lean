/- The evaluator once more, quick for the kernel: temporaries and heaps in trees, all that is computed is brought into its last form at once. Definitions. -/
import Derived.Test.YtcaejedfjobooaaGreatEvComp
namespace Go.Proofs.YtcaejedfjobooaaGreat
open Go
namespace Ev
namespace Q
set_option linter.unusedVariables false
/-- A row: none yet (of 2^k); one; two halves, by bit k. -/
inductive T (α : Type) where
  | e (k : Nat)
  | v (x : α)
  | n (k : Nat) (l r : T α)

inductive R where
  | no
  | norm (tr : T AV) (df : List ADef) (hp : T AB) (n : Nat) (tc : List Nat)
  | exit (id : Nat) (tr : T AV) (df : List ADef) (hp : T AB) (n : Nat) (tc : List Nat)
  | ret (tr : T AV) (df : List ADef) (hp : T AB) (n : Nat) (tc : List Nat)
  | pan (v : AV) (tr : T AV) (df : List ADef) (hp : T AB) (n : Nat) (tc : List Nat)
  | cret (v : AV) (hp : T AB) (n : Nat) (tc : List Nat)
  | cpan (v : AV) (hp : T AB) (n : Nat) (tc : List Nat)

section
variable {α : Type}
noncomputable def getP : T α → Nat → α → α := fun tr => T.rec (motive := fun _ => Nat → α → α) (fun _ _ d => d) (fun x _ _ => x) (fun k _ _ ihl ihr t d => Nat.rec (ihl t d) (fun _ _ => ihr t d) (Nat.land t (Nat.pow 2 k))) tr
/-- What lies at a place, handed on; D: nothing lies there. -/
noncomputable def getK : T α → Nat → R → (α → R) → R := fun tr => T.rec (motive := fun _ => Nat → R → (α → R) → R) (fun _ _ D _ => D) (fun x _ _ K => K x) (fun k _ _ ihl ihr t D K => Nat.rec (ihl t D K) (fun _ _ => ihr t D K) (Nat.land t (Nat.pow 2 k))) tr
noncomputable def setE : Nat → Nat → α → (T α → R) → R := fun k => Nat.rec (motive := fun _ => Nat → α → (T α → R) → R) (fun _ v K => K (.v v))
  (fun k ih t v K => Nat.rec (ih t v fun l => K (.n k l (.e k))) (fun _ _ => ih t v fun r => K (.n k (.e k) r)) (Nat.land t (Nat.pow 2 k))) k
noncomputable def setK : T α → Nat → α → (T α → R) → R := fun tr => T.rec (motive := fun _ => Nat → α → (T α → R) → R) (fun k t v K => setE k t v K) (fun _ _ v K => K (.v v))
  (fun k l r ihl ihr t v K => Nat.rec (ihl t v fun l' => K (.n k l' r)) (fun _ _ => ihr t v fun r' => K (.n k l r')) (Nat.land t (Nat.pow 2 k))) tr
end

/-! Into the last form. -/
noncomputable def natK (n : Nat) (K : Nat → R) : R := Nat.rec (K 0) (fun m _ => K (Nat.succ m)) n
noncomputable def boolK (b : Bool) (K : Bool → R) : R := Bool.rec (K false) (K true) b
noncomputable def intK (n : Int) (K : Int → R) : R := Int.rec (fun m => natK m fun m => K (Int.ofNat m)) (fun m => natK m fun m => K (Int.negSucc m)) n
noncomputable def forceV : AV → (AV → R) → R := fun v => AV.rec (motive_1 := fun _ => (AV → R) → R) (motive_2 := fun _ => (List AV → R) → R)
  (fun K => K .unk) (fun b K => boolK b fun b => K (.bool b)) (fun k n K => intK n fun n => K (.int k n)) (fun K => K .nilp)
  (fun b off K => natK b fun b => natK off fun off => K (.ptr b off)) (fun cs _ K => K (.rp cs)) (fun K => K .nils)
  (fun b off n k K => natK b fun b => natK off fun off => natK n fun n => natK k fun k => K (.sl b off n k)) (fun k es _ K => K (.vs k es)) (fun K => K .nilmap)
  (fun b K => natK b fun b => K (.map b)) (fun K => K .nilfn) (fun f _ _ ih1 ih2 K => ih1 fun a => ih2 fun b => K (.fn f a b)) (fun b K => natK b fun b => K (.yield b)) (fun K => K .nilif)
  (fun t _ ih K => ih fun v => K (.iface t v)) (fun _ ih K => ih fun l => K (.agg l)) (fun _ ih K => ih fun l => K (.tup l))
  (fun K => K []) (fun _ _ ihv ihl K => ihv fun v => ihl fun l => K (v :: l)) v
noncomputable def forceL : List AV → (List AV → R) → R := fun l => List.rec (motive := fun _ => (List AV → R) → R) (fun K => K []) (fun x _ ih K => forceV x fun v => ih fun l => K (v :: l)) l
noncomputable def forceNs : List Nat → (List Nat → R) → R := fun l => List.rec (motive := fun _ => (List Nat → R) → R) (fun K => K []) (fun x _ ih K => natK x fun v => ih fun l => K (v :: l)) l
noncomputable def forceE : List (AV × AV) → (List (AV × AV) → R) → R := fun l => List.rec (motive := fun _ => (List (AV × AV) → R) → R) (fun K => K []) (fun x _ ih K => Prod.rec (fun a b => forceV a fun a => forceV b fun b => ih fun l => K ((a, b) :: l)) x) l
noncomputable def lstK (s : LSt) (K : LSt → R) : R := LSt.rec (K .ready) (K .busy) (K .done) (K .exhausted) s
noncomputable def optK (p : Option AExit) (K : Option AExit → R) : R := Option.rec (K none) (fun e => K (some e)) p
noncomputable def forceLp (r : ALoop) (K : ALoop → R) : R := ALoop.rec (fun st pend tm params assign body dfr => lstK st fun st => optK pend fun pend => forceL tm fun tm => natK dfr fun d => K ⟨st, pend, tm, params, assign, body, d⟩) r
noncomputable def forceB (b : AB) (K : AB → R) : R := AB.rec (fun cs => forceL cs fun cs => K (.cells cs)) (fun es => forceE es fun es => K (.map es)) (fun r => forceLp r fun r => K (.loop r)) (K .dfr) (K .dead) b

/-! Lists of cells. -/
noncomputable def cellAt : List AV → Nat → (AV → R) → R := fun l => List.rec (motive := fun _ => Nat → (AV → R) → R) (fun _ _ => .no) (fun x _ ih i K => Nat.rec (K x) (fun i _ => ih i K) i) l
noncomputable def takeK : List AV → Nat → (List AV → R) → R := fun l => List.rec (motive := fun _ => Nat → (List AV → R) → R) (fun n K => Nat.rec (K []) (fun _ _ => .no) n)
  (fun x _ ih n K => Nat.rec (K []) (fun n _ => ih n fun l => K (x :: l)) n) l
noncomputable def partK : List AV → Nat → Nat → (List AV → R) → R := fun l => List.rec (motive := fun _ => Nat → Nat → (List AV → R) → R) (fun i n K => Nat.rec (takeK [] n K) (fun _ _ => .no) i)
  (fun x r ih i n K => Nat.rec (takeK (x :: r) n K) (fun i _ => ih i n K) i) l
noncomputable def overK : List AV → List AV → (List AV → R) → R := fun l => List.rec (motive := fun _ => List AV → (List AV → R) → R) (fun cs K => K cs)
  (fun y _ ih cs K => List.rec .no (fun _ r _ => ih r fun l => K (y :: l)) cs) l
noncomputable def putK : List AV → Nat → List AV → (List AV → R) → R := fun cs => List.rec (motive := fun _ => Nat → List AV → (List AV → R) → R) (fun i l K => Nat.rec (overK l [] K) (fun _ _ => .no) i)
  (fun x r ih i l K => Nat.rec (overK l (x :: r) K) (fun i _ => ih i l fun cs => K (x :: cs)) i) cs
noncomputable def catL : List AV → List AV → (List AV → R) → R := fun l => List.rec (motive := fun _ => List AV → (List AV → R) → R) (fun m K => K m) (fun x _ ih m K => ih m fun l => K (x :: l)) l
noncomputable def lenL : List AV → Nat := fun l => List.rec (motive := fun _ => Nat) 0 (fun _ _ ih => Nat.succ ih) l
noncomputable def lenNs : List Nat → Nat := fun l => List.rec (motive := fun _ => Nat) 0 (fun _ _ ih => Nat.succ ih) l

/-! Heaps: a tree, and how many blocks there are. -/
noncomputable def blockK (hp : T AB) (n b : Nat) (K : AB → R) : R := Bool.rec .no (getK hp b .no K) (Nat.ble (Nat.succ b) n)
noncomputable def cellsAt (hp : T AB) (n b : Nat) (K : List AV → R) : R := blockK hp n b fun x => AB.rec (fun cs => K cs) (fun _ => .no) (fun _ => .no) .no .no x
noncomputable def mapAt (hp : T AB) (n b : Nat) (K : List (AV × AV) → R) : R := blockK hp n b fun x => AB.rec (fun _ => .no) (fun es => K es) (fun _ => .no) .no .no x
noncomputable def loopAt (hp : T AB) (n b : Nat) (K : ALoop → R) : R := blockK hp n b fun x => AB.rec (fun _ => .no) (fun _ => .no) (fun r => K r) .no .no x
noncomputable def aliveAt (hp : T AB) (n b : Nat) (K : R) : R := blockK hp n b fun x => AB.rec (fun _ => K) (fun _ => K) (fun _ => K) K .no x
def cap : Nat := 7
/-- A block more. -/
noncomputable def pushK (hp : T AB) (n : Nat) (b : AB) (K : T AB → Nat → R) : R := Bool.rec .no (setK hp n b fun hp => K hp (Nat.succ n)) (Nat.ble n 127)
noncomputable def listT (N : Nat) (tr : T AV) : List AV := (List.range N).map fun i => getP tr i .unk
noncomputable def listH (n : Nat) (hp : T AB) : List AB := (List.range n).map fun i => getP hp i .dead
noncomputable def pushAll : List AB → T AB → Nat → (T AB → Nat → R) → R := fun l => List.rec (motive := fun _ => T AB → Nat → (T AB → Nat → R) → R) (fun hp n K => K hp n) (fun b _ ih hp n K => forceB b fun b => pushK hp n b fun hp n => ih hp n K) l
/-- A heap of the first evaluator's. -/
noncomputable def ofH (l : List AB) (K : T AB → Nat → R) : R := pushAll l (.e cap) 0 K

/-! What an operand is. -/
noncomputable def valK : Opnd → T AV → (AV → R) → R := fun x => Opnd.rec (motive := fun _ => T AV → (AV → R) → R) (fun t tr K => getK tr t (K .unk) K) (fun v _ K => K v) (fun _ _ _ => .no) x
noncomputable def val (N : Nat) (tr : T AV) (x : Opnd) : AV := Opnd.rec (fun t => Bool.rec .unk (getP tr t .unk) (Nat.ble (Nat.succ t) N)) (fun v => v) (fun _ => .unk) x
noncomputable def asInt (v : AV) (K : IntKind → Int → R) : R := AV.rec (motive_1 := fun _ => R) (motive_2 := fun _ => Unit) .no (fun _ => .no) (fun k n => K k n) .no (fun _ _ => .no) (fun _ _ => .no) .no (fun _ _ _ _ => .no) (fun _ _ _ => .no) .no (fun _ => .no) .no (fun _ _ _ _ _ => .no) (fun _ => .no) .no (fun _ _ _ => .no) (fun _ _ => .no) (fun _ _ => .no) () (fun _ _ _ _ => ()) v
noncomputable def asBool (v : AV) (K : Bool → R) : R := AV.rec (motive_1 := fun _ => R) (motive_2 := fun _ => Unit) .no (fun b => K b) (fun _ _ => .no) .no (fun _ _ => .no) (fun _ _ => .no) .no (fun _ _ _ _ => .no) (fun _ _ _ => .no) .no (fun _ => .no) .no (fun _ _ _ _ _ => .no) (fun _ => .no) .no (fun _ _ _ => .no) (fun _ _ => .no) (fun _ _ => .no) () (fun _ _ _ _ => ()) v
noncomputable def asTup (v : AV) (K : List AV → R) : R := AV.rec (motive_1 := fun _ => R) (motive_2 := fun _ => Unit) .no (fun _ => .no) (fun _ _ => .no) .no (fun _ _ => .no) (fun _ _ => .no) .no (fun _ _ _ _ => .no) (fun _ _ _ => .no) .no (fun _ => .no) .no (fun _ _ _ _ _ => .no) (fun _ => .no) .no (fun _ _ _ => .no) (fun _ _ => .no) (fun l _ => K l) () (fun _ _ _ _ => ()) v
noncomputable def asAgg (v : AV) (K : List AV → R) : R := AV.rec (motive_1 := fun _ => R) (motive_2 := fun _ => Unit) .no (fun _ => .no) (fun _ _ => .no) .no (fun _ _ => .no) (fun _ _ => .no) .no (fun _ _ _ _ => .no) (fun _ _ _ => .no) .no (fun _ => .no) .no (fun _ _ _ _ _ => .no) (fun _ => .no) .no (fun _ _ _ => .no) (fun l _ => K l) (fun _ _ => .no) () (fun _ _ _ _ => ()) v
noncomputable def asMap (v : AV) (K : Nat → R) : R := AV.rec (motive_1 := fun _ => R) (motive_2 := fun _ => Unit) .no (fun _ => .no) (fun _ _ => .no) .no (fun _ _ => .no) (fun _ _ => .no) .no (fun _ _ _ _ => .no) (fun _ _ _ => .no) .no (fun b => K b) .no (fun _ _ _ _ _ => .no) (fun _ => .no) .no (fun _ _ _ => .no) (fun _ _ => .no) (fun _ _ => .no) () (fun _ _ _ _ => ()) v
/-- A pointer into own memory, or elsewhere. -/
noncomputable def asPtr (v : AV) (K : Nat → Nat → R) (O : R) : R := AV.rec (motive_1 := fun _ => R) (motive_2 := fun _ => Unit) O (fun _ => O) (fun _ _ => O) O (fun b o => K b o) (fun _ _ => O) O (fun _ _ _ _ => O) (fun _ _ _ => O) O (fun _ => O) O (fun _ _ _ _ _ => O) (fun _ => O) O (fun _ _ _ => O) (fun _ _ => O) (fun _ _ => O) () (fun _ _ _ _ => ()) v
/-- A slice of own memory, or elsewhere. -/
noncomputable def asSl (v : AV) (K : Nat → Nat → Nat → Nat → R) (O : R) : R := AV.rec (motive_1 := fun _ => R) (motive_2 := fun _ => Unit) O (fun _ => O) (fun _ _ => O) O (fun _ _ => O) (fun _ _ => O) O (fun b o n k => K b o n k) (fun _ _ _ => O) O (fun _ => O) O (fun _ _ _ _ _ => O) (fun _ => O) O (fun _ _ _ => O) (fun _ _ => O) (fun _ _ => O) () (fun _ _ _ _ => ()) v
noncomputable def asIface (v : AV) (K : Nat → AV → R) (O : R) : R := AV.rec (motive_1 := fun _ => R) (motive_2 := fun _ => Unit) O (fun _ => O) (fun _ _ => O) O (fun _ _ => O) (fun _ _ => O) O (fun _ _ _ _ => O) (fun _ _ _ => O) O (fun _ => O) O (fun _ _ _ _ _ => O) (fun _ => O) O (fun t v _ => K t v) (fun _ _ => O) (fun _ _ => O) () (fun _ _ _ _ => ()) v
noncomputable def asFn (v : AV) (K : Fn → List AV → List AV → R) (Y : Nat → R) : R := AV.rec (motive_1 := fun _ => R) (motive_2 := fun _ => Unit) .no (fun _ => .no) (fun _ _ => .no) .no (fun _ _ => .no) (fun _ _ => .no) .no (fun _ _ _ _ => .no) (fun _ _ _ => .no) .no (fun _ => .no) .no (fun f a b _ _ => K f a b) (fun l => Y l) .no (fun _ _ _ => .no) (fun _ _ => .no) (fun _ _ => .no) () (fun _ _ _ _ => ()) v
/-- The cells of a value. -/
noncomputable def cellsK (v : AV) (K : List AV → R) : R := AV.rec (motive_1 := fun _ => R) (motive_2 := fun _ => Unit) (.no) (fun a => K [.bool a]) (fun a b => K [.int a b]) (K [.nilp]) (fun a b => K [.ptr a b]) (fun a b => K [.rp a]) (K [.nils]) (fun a b c d => K [.sl a b c d]) (fun a b c => K [.vs a b]) (K [.nilmap]) (fun a => K [.map a]) (K [.nilfn]) (fun a b c d f => K [.fn a b c]) (fun a => K [.yield a]) (K [.nilif]) (fun a b c => K [.iface a b]) (fun l _ => K l) (fun _ _ => .no) () (fun _ _ _ _ => ()) v

/-! Integers. -/
noncomputable def kix : IntKind → Nat := fun k => IntKind.rec 0 1 2 3 4 5 6 7 k
/-- Does a number fit a kind without more ado? -/
noncomputable def fits : IntKind → Int → Bool := fun k n => Int.rec
  (fun m => Nat.ble m (IntKind.rec 127 32767 2147483647 9223372036854775807 255 65535 4294967295 18446744073709551615 k))
  (fun m => Nat.ble (Nat.succ m) (IntKind.rec 128 32768 2147483648 9223372036854775808 0 0 0 0 k)) n
noncomputable def wrapK (k : IntKind) (n : Int) (K : Int → R) : R := intK n fun n => Bool.rec (intK (k.wrap n) K) (K n) (fits k n)
noncomputable def subNN (m n : Nat) : Int := Nat.rec (Int.ofNat (Nat.sub m n)) (fun d _ => Int.negSucc d) (Nat.sub n m)
noncomputable def addI (x y : Int) : Int := Int.rec (fun a => Int.rec (fun b => Int.ofNat (Nat.add a b)) (fun b => subNN a (Nat.succ b)) y) (fun a => Int.rec (fun b => subNN b (Nat.succ a)) (fun b => Int.negSucc (Nat.succ (Nat.add a b))) y) x
noncomputable def negI (x : Int) : Int := Int.rec (fun a => Nat.rec (Int.ofNat 0) (fun m _ => Int.negSucc m) a) (fun a => Int.ofNat (Nat.succ a)) x
noncomputable def leI (x y : Int) : Bool := Int.rec (fun a => Int.rec (fun b => Nat.ble a b) (fun _ => false) y) (fun a => Int.rec (fun _ => true) (fun b => Nat.ble b a) y) x
noncomputable def eqI (x y : Int) : Bool := Int.rec (fun a => Int.rec (fun b => Nat.beq a b) (fun _ => false) y) (fun a => Int.rec (fun _ => false) (fun b => Nat.beq a b) y) x
noncomputable def notB (b : Bool) : Bool := Bool.rec true false b
noncomputable def andB (a b : Bool) : Bool := Bool.rec false b a
noncomputable def asNatI (n : Int) (K : Nat → R) : R := Int.rec (fun m => K m) (fun _ => .no) n

abbrev FK := AV → T AB → Nat → List Nat → R
abbrev FO := Nat → T AV → T AB → Nat → FK → R
/-- An operation told by the first evaluator: a value alone. -/
noncomputable def oSlowV (k : AK) : FO := fun N tr hp n K => Option.rec .no (fun p => Prod.rec (fun v ft => Bool.rec .no (forceV v fun v => forceNs ft fun ft => K v hp n ft) (ft.all fun b => decide (b < (listH n hp).length))) p) (xval (listH n hp) (val N tr) k)
/-- The same, a new block. -/
noncomputable def oSlowN (k : AK) : FO := fun N tr hp n K => Option.rec .no (fun p => Prod.rec (fun b mk => forceB b fun b => pushK hp n b fun hp m => forceV (mk n) fun v => K v hp m [n]) p) (xnew (val N tr) k)
noncomputable def slowBin (op : BinOp) (k : IntKind) (x : Int) (k' : IntKind) (y : Int) (K : AV → R) : R := Option.rec .no (fun v => forceV v K) (binI op k x k' y)
noncomputable def fBin (op : BinOp) (k : IntKind) (x : Int) (k' : IntKind) (y : Int) (K : AV → R) : R :=
  Bool.rec (slowBin op k x k' y K)
    (BinOp.rec (motive := fun _ => R) (wrapK k (addI x y) fun n => K (.int k n)) (wrapK k (addI x (negI y)) fun n => K (.int k n))
      (slowBin op k x k' y K) (slowBin op k x k' y K) (slowBin op k x k' y K) (slowBin op k x k' y K) (slowBin op k x k' y K) (slowBin op k x k' y K) (slowBin op k x k' y K) (slowBin op k x k' y K) (slowBin op k x k' y K)
      (boolK (eqI x y) fun b => K (.bool b)) (boolK (notB (eqI x y)) fun b => K (.bool b)) (boolK (notB (leI y x)) fun b => K (.bool b)) (boolK (leI x y) fun b => K (.bool b)) (boolK (notB (leI x y)) fun b => K (.bool b)) (boolK (leI y x) fun b => K (.bool b)) op)
    (Nat.beq (kix k) (kix k'))
/-- A part of some cells. -/
noncomputable def pickK (k : Option Nat) (cs : List AV) (off : Nat) (K : AV → R) : R := Option.rec (cellAt cs off K) (fun k => partK cs off k fun l => K (.agg l)) k

/-! Floating operations. -/
noncomputable def oMov (x : Opnd) : FO := fun N tr hp n K => valK x tr fun v => K v hp n []
noncomputable def oAlloc (z : List AV) : FO := fun N tr hp n K => pushK hp n (.cells z) fun hp m => K (.ptr n 0) hp m [n]
noncomputable def oBox (x : Opnd) : FO := fun N tr hp n K => valK x tr fun v => cellsK v fun cs => pushK hp n (.cells cs) fun hp m => K (.ptr n 0) hp m [n]
noncomputable def oLoad (k : Option Nat) (a : Opnd) : FO := fun N tr hp n K => valK a tr fun v => asPtr v (fun b off => cellsAt hp n b fun cs => pickK k cs off fun v => K v hp n [b]) (oSlowV (.load k a) N tr hp n K)
noncomputable def oNilck (x : Opnd) : FO := fun N tr hp n K => valK x tr fun v => asPtr v (fun b off => aliveAt hp n b (K (.ptr b off) hp n [b])) (oSlowV (.nilck x) N tr hp n K)
noncomputable def oBin (op : BinOp) (x y : Opnd) : FO := fun N tr hp n K => valK x tr fun v => valK y tr fun w => asInt v fun k a => asInt w fun k' b => fBin op k a k' b fun v => K v hp n []
noncomputable def oNot (x : Opnd) : FO := fun N tr hp n K => valK x tr fun v => asBool v fun b => boolK (notB b) fun b => K (.bool b) hp n []
noncomputable def oConv (k : IntKind) (x : Opnd) : FO := fun N tr hp n K => valK x tr fun v => asInt v fun _ i => wrapK k i fun i => K (.int k i) hp n []
noncomputable def oIface (t : Nat) (x : Opnd) : FO := fun N tr hp n K => valK x tr fun v => K (.iface t v) hp n []
noncomputable def oFieldA (off : Nat) (x : Opnd) : FO := fun N tr hp n K => valK x tr fun v => asPtr v (fun b o => aliveAt hp n b (natK (Nat.add o off) fun o => K (.ptr b o) hp n [b])) (oSlowV (.fieldA off x) N tr hp n K)
noncomputable def oFieldV (off : Nat) (k : Option Nat) (x : Opnd) : FO := fun N tr hp n K => valK x tr fun v => asAgg v fun cs => pickK k cs off fun v => K v hp n []
noncomputable def oIndexA (k : Nat) (arr : Option Nat) (x i : Opnd) : FO := fun N tr hp n K =>
  valK i tr fun vi => asInt vi fun _ i' => asNatI i' fun j => valK x tr fun v => Option.rec
    (asSl v (fun b off m k' => Bool.rec .no (aliveAt hp n b (natK (Nat.add off (Nat.mul j k)) fun o => K (.ptr b o) hp n [b])) (andB (Nat.ble (Nat.succ j) m) (Nat.beq k k'))) (oSlowV (.indexA k none x i) N tr hp n K))
    (fun m => asPtr v (fun b o => Bool.rec .no (aliveAt hp n b (natK (Nat.add o (Nat.mul j k)) fun o => K (.ptr b o) hp n [b])) (Nat.ble (Nat.succ j) m)) (oSlowV (.indexA k (some m) x i) N tr hp n K)) arr
noncomputable def oExtract (x : Opnd) (i : Nat) : FO := fun N tr hp n K => valK x tr fun v => asTup v fun l => cellAt l i fun v => K v hp n []
noncomputable def oLen (x : Opnd) : FO := fun N tr hp n K => valK x tr fun v => asSl v (fun b _ m _ => aliveAt hp n b (K (.int .i64 (Int.ofNat m)) hp n [b])) (oSlowV (.len x) N tr hp n K)
noncomputable def oPick (c a b : Opnd) : FO := fun N tr hp n K => valK c tr fun vc => asBool vc fun t => valK a tr fun x => valK b tr fun y => boolK t fun t => Bool.rec (K y hp n []) (K x hp n []) t
noncomputable def fillK : List (Nat × Nat × Opnd) → List AV → T AV → (List AV → R) → R := fun l => List.rec (motive := fun _ => List AV → T AV → (List AV → R) → R) (fun cs _ K => K cs)
  (fun p _ ih cs tr K => valK p.2.2 tr fun v => cellsK v fun l => Bool.rec .no (putK cs p.1 l fun cs => ih cs tr K) (andB (Nat.beq (lenL l) p.2.1) (Nat.ble (Nat.add p.1 p.2.1) (lenL cs)))) l
noncomputable def oBuild (z : List AV) (parts : List (Nat × Nat × Opnd)) : FO := fun N tr hp n K => fillK parts z tr fun cs => K (.agg cs) hp n []
noncomputable def oEq (e : EK) (neg : Bool) (x y : Opnd) : FO := fun N tr hp n K => valK x tr fun v => valK y tr fun w => Option.rec .no (fun b => boolK (Bool.rec b (notB b) neg) fun b => K (.bool b) hp n []) (aeqK e v w)

/-! Operations of the spine: continuations for a value and for a panic. -/
abbrev CallQ := AV → List AV → T AB → Nat → R
abbrev SO := CallQ → Nat → T AV → T AB → Nat → FK → FK → R
noncomputable def plainL : List AV → Bool := fun l => List.rec true (fun x _ ih => andB (AV.plain x) ih) l
noncomputable def oStore (k : Nat) (a x : Opnd) : SO := fun _ N tr hp n K _ =>
  valK a tr fun va => asPtr va (fun b off => valK x tr fun vx => cellsK vx fun l => cellsAt hp n b fun cs => Bool.rec .no (putK cs off l fun cs' => setK hp b (.cells cs') fun hp' => K .unk hp' n [b]) (andB (Nat.beq (lenL l) k) (plainL l))) .no
/-- What writes, told by the first evaluator. -/
noncomputable def oEff (k : AK) : SO := fun _ N tr hp n K _ => Option.rec .no (fun r : XR => forceV r.v fun v => ofH r.hp fun hp n => forceNs r.tc fun tc => K v hp n tc) (xeff (listH n hp) (val N tr) k)
/-- The end of a call. -/
noncomputable def ends (r : R) (K P : FK) : R := R.rec .no (fun _ _ _ _ _ => .no) (fun _ _ _ _ _ _ => .no) (fun _ _ _ _ _ => .no) (fun _ _ _ _ _ _ => .no) (fun v hp n tc => K v hp n tc) (fun v hp n tc => P v hp n tc) r
noncomputable def argsK : List Opnd → T AV → (List AV → R) → R := fun l => List.rec (motive := fun _ => T AV → (List AV → R) → R) (fun _ K => K []) (fun x _ ih tr K => valK x tr fun v => ih tr fun l => K (v :: l)) l
noncomputable def oCall (f : Opnd) (args : List Opnd) : SO := fun call N tr hp n K P => valK f tr fun f => argsK args tr fun l => ends (call f l hp n) K P
noncomputable def lookK : List (Nat × Nat) → Nat → (Nat → R) → R := fun l => List.rec (motive := fun _ => Nat → (Nat → R) → R) (fun _ _ => .no) (fun p _ ih t K => Bool.rec (ih t K) (K p.2) (Nat.beq t p.1)) l
noncomputable def oInvoke (x : Opnd) (tbl : List (Nat × Nat)) (args : List Opnd) : SO := fun call N tr hp n K P =>
  valK x tr fun v => asIface v (fun t v => lookK tbl t fun f => argsK args tr fun l => ends (call (.fn (.func f) [] []) (v :: l) hp n) K P) .no
noncomputable def oPanic (x : Opnd) : SO := fun _ N tr hp n K P => valK x tr fun v => asIface v (fun t v => P (.iface t v) hp n []) .no

/-! Regions. -/
noncomputable def apartN : List Nat → List Nat → Bool := fun ys xs => List.rec true (fun x _ ih => andB (List.rec true (fun y _ ih => andB (notB (Nat.beq x y)) ih) ys) ih) xs
/-- Did nothing that floated before look at what was turned? -/
noncomputable def flOk : List (Nat × List Nat) → Nat → List Nat → Bool := fun fl deps tc => List.rec true (fun _ _ _ => List.rec true (fun p _ ih => andB (Nat.rec (apartN tc p.2) (fun _ _ => true) (Nat.land deps (Nat.pow 2 p.1))) ih) fl) tc
noncomputable def putT' (tr : T AV) (dst : Option Nat) (v : AV) (K : T AV → R) : R := Option.rec (K tr) (fun d => setK tr d v K) dst
noncomputable def filterN (pin : Nat) : List Nat → List Nat → (List Nat → R) → R := fun l => List.rec (motive := fun _ => List Nat → (List Nat → R) → R) (fun tc K => K tc)
  (fun x _ ih tc K => ih tc fun r => Bool.rec (K r) (K (x :: r)) (Nat.ble (Nat.succ x) pin)) l
abbrev OK := List (Nat × List Nat) → T AV → List ADef → T AB → Nat → List Nat → R
abbrev OG := CallQ → Nat → Nat → Bool → Bool → AOp → List (Nat × List Nat) → T AV → List ADef → T AB → Nat → List Nat → OK → R
noncomputable def goF (f : FO) : OG := fun call pin N nod drawn o fl tr df hp n tc K => f N tr hp n fun v hp n ft => putT' tr o.dst v fun tr => Bool.rec (K fl tr df hp n tc) (K ((o.ix, ft) :: fl) tr df hp n tc) drawn
noncomputable def goS (f : SO) : OG := fun call pin N nod drawn o fl tr df hp n tc K => f call N tr hp n
  (fun v hp n t => Bool.rec .no (filterN pin t tc fun tc => putT' tr o.dst v fun tr => K fl tr df hp n tc) (Bool.rec true (flOk fl o.deps t) drawn))
  (fun v hp n t => Bool.rec .no (filterN pin t tc fun tc => .pan v tr df hp n tc) (Bool.rec true (flOk fl o.deps t) drawn))
noncomputable def fnK (f : Fn) (K : Nat → R) : R := match f with
  | .func f => K f
  | _ => .no
/-- A deferred call. -/
noncomputable def goD (f : Opnd) (args : List Opnd) : OG := fun call pin N nod drawn o fl tr df hp n tc K => Bool.rec (Bool.rec
  (valK f tr fun v => asFn v (fun f first captured => fnK f fun f => List.rec (argsK args tr fun l => catL l captured fun l => putT' tr o.dst .unk fun tr => K fl tr (.call f l :: df) hp n tc) (fun _ _ _ => .no) first) (fun _ => .no)) .no nod) .no drawn
noncomputable def opT : AK → OG := fun k => AK.rec (motive := fun _ => OG)
  (fun x => goF (oMov x)) (fun c a b => goF (oPick c a b)) (fun z => goF (oAlloc z)) (fun x => goF (oBox x)) (fun z p => goF (oBuild z p)) (fun k n z p => goF (oSlowN (.buildSl k n z p))) (fun k a => goF (oLoad k a)) (fun k a x => goS (oStore k a x)) (fun x => goF (oNilck x)) (fun m tbl x => goF (oSlowV (.nilckM m tbl x)))
  (fun op x y => goF (oBin op x y)) (fun e n x y => goF (oEq e n x y)) (fun x => goF (oNot x)) (fun x => goF (oSlowV (.neg x))) (fun k x => goF (oConv k x)) (fun t x => goF (oIface t x)) (fun f a b => goF (oSlowV (.mkfn f a b))) (goF (oSlowN .mkmap)) (fun k z l c => goF (oSlowN (.mksl k z l c))) (fun k x l h => goF (oSlowV (.slice k x l h)))
  (fun off x => goF (oFieldA off x)) (fun off k x => goF (oFieldV off k x)) (fun k arr x i => goF (oIndexA k arr x i)) (fun n s k x i => goF (oSlowV (.indexV n s k x i))) (fun e o z m k => goF (oSlowV (.lookup e o z m k))) (fun e m k x => goS (oEff (.mapupd e m k x))) (fun t z x => goF (oSlowV (.tassert t z x))) (fun x i => goF (oExtract x i)) (fun x => goF (oLen x))
  (fun k a b => goS (oEff (.append k a b))) (fun k a b => goS (oEff (.copy k a b))) (fun l => goF (oSlowV (.max l))) (fun l => goF (oSlowV (.min l))) (fun f l => goS (oCall f l)) (fun x tbl l => goS (oInvoke x tbl l)) (fun f l => goD f l) (fun x => goS (oPanic x)) (fun n x => goF (oSlowV (.isnil n x))) (fun k m x l h => goF (oSlowV (.sliceA k m x l h))) k
noncomputable def opGo : OG := fun call pin N nod drawn o => opT o.op call pin N nod drawn o
noncomputable def opGuard (g : Nat × Bool) : OG := fun call pin N nod drawn o fl tr df hp n tc K => getK tr g.1 .no fun v => asBool v fun b => Bool.rec (putT' tr o.dst .unk fun tr => K fl tr df hp n tc) (opT o.op call pin N nod drawn o fl tr df hp n tc K) (Bool.rec (notB b) b g.2)
noncomputable def opG : OG := fun call pin N nod drawn o => Option.rec (motive := fun _ => CallQ → Nat → Nat → Bool → Bool → AOp → List (Nat × List Nat) → T AV → List ADef → T AB → Nat → List Nat → OK → R) opGo opGuard o.guard call pin N nod drawn o
noncomputable def opsQ (call : CallQ) (pin N : Nat) (nod drawn : Bool) : List AOp → OK := fun l => List.rec (motive := fun _ => OK) (fun _ tr df hp n tc => .norm tr df hp n tc)
  (fun o _ ih fl tr df hp n tc => opG call pin N nod drawn o fl tr df hp n tc ih) l

/-! Code. -/
noncomputable def forgetK : List Nat → T AV → (T AV → R) → R := fun l => List.rec (motive := fun _ => T AV → (T AV → R) → R) (fun tr K => K tr) (fun t _ ih tr K => setK tr t .unk fun tr => ih tr K) l
noncomputable def keepK : List Nat → T AV → T AV → (T AV → R) → R := fun l => List.rec (motive := fun _ => T AV → T AV → (T AV → R) → R) (fun _ acc K => K acc) (fun t _ ih tr acc K => getK tr t (ih tr acc K) fun v => setK acc t v fun acc => ih tr acc K) l
abbrev SQ := T AV → List ADef → T AB → Nat → List Nat → R
noncomputable def seqR (r : R) (K : SQ) : R := R.rec .no (fun tr df hp n tc => K tr df hp n tc) (fun i tr df hp n tc => .exit i tr df hp n tc) (fun tr df hp n tc => .ret tr df hp n tc) (fun v tr df hp n tc => .pan v tr df hp n tc) (fun _ _ _ _ => .no) (fun _ _ _ _ => .no) r
noncomputable def normR (r : R) (K : SQ) : R := R.rec .no (fun tr df hp n tc => K tr df hp n tc) (fun _ _ _ _ _ _ => .no) (fun _ _ _ _ _ => .no) (fun _ _ _ _ _ _ => .no) (fun _ _ _ _ => .no) (fun _ _ _ _ => .no) r
noncomputable def blockR (id : Nat) (r : R) : R := R.rec .no (fun tr df hp n tc => .norm tr df hp n tc) (fun i tr df hp n tc => Bool.rec (.exit i tr df hp n tc) (.norm tr df hp n tc) (Nat.beq i id)) (fun tr df hp n tc => .ret tr df hp n tc) (fun v tr df hp n tc => .pan v tr df hp n tc) (fun _ _ _ _ => .no) (fun _ _ _ _ => .no) r
noncomputable def panR (l : List AOp) (r : R) : R := R.rec .no (fun tr df hp n tc => .norm tr df hp n tc) (fun _ _ _ _ _ _ => .no) (fun _ _ _ _ _ => .no) (fun v tr df hp n tc => forgetK (l.filterMap (·.dst)) tr fun tr => .pan v tr df hp n tc) (fun _ _ _ _ => .no) (fun _ _ _ _ => .no) r
noncomputable def loopQ (head : SQ → SQ) (body : SQ) : Nat → SQ := fun m => Nat.rec (fun _ _ _ _ _ => .no) (fun _ ih => head fun tr df hp n tc => seqR (body tr df hp n tc) ih) m
/-- Values laid down from slot i on. -/
noncomputable def laysK : List AV → Nat → T AV → (T AV → R) → R := fun l => List.rec (motive := fun _ => Nat → T AV → (T AV → R) → R) (fun _ tr K => K tr) (fun v _ ih i tr K => setK tr i v fun tr => ih (Nat.succ i) tr K) l
noncomputable def parsK : List Nat → List AV → T AV → (T AV → R) → R := fun l => List.rec (motive := fun _ => List AV → T AV → (T AV → R) → R) (fun _ tr K => K tr) (fun p _ ih as tr K => List.rec (K tr) (fun a as _ => setK tr p a fun tr => ih as tr K) as) l
noncomputable def newT (N : Nat) (K : T AV → R) : R := natK (Nat.succ (Nat.log2 N)) fun k => K (.e k)
noncomputable def ofL (N : Nat) (l : List AV) (K : T AV → R) : R := newT N fun tr => laysK l 0 tr K
noncomputable def ofDf (d : ADef) (K : ADef → R) : R := ADef.rec (fun d => natK d fun d => K (.mark d)) (fun f args => forceL args fun l => K (.call f l)) d
noncomputable def ofDfs : List ADef → (List ADef → R) → R := fun l => List.rec (motive := fun _ => (List ADef → R) → R) (fun K => K []) (fun d _ ih K => ofDf d fun d => ih fun l => K (d :: l)) l
/-- A state of the first evaluator's, in its last form. -/
noncomputable def ofSt (N : Nat) (st : St) (K : SQ) : R := St.rec (fun tm df hp tc => forceL tm fun tm => ofL N tm fun tr => ofDfs df fun df => ofH hp fun hp n => forceNs tc fun tc => K tr df hp n tc) st

/-! Are all temporaries of a code below a number? -/
def okO (N : Nat) : Opnd → Bool
  | .tmp t => Nat.ble (Nat.succ t) N
  | _ => true
def okOp (N : Nat) (o : AOp) : Bool := o.names.all fun t => Nat.ble (Nat.succ t) N
def okC (N : Nat) : AC → Bool
  | .ops l | .draw l => l.all (okOp N)
  | .seq a b => okC N a && okC N b
  | .cond c a b => okO N c && (okC N a && okC N b)
  | .block _ c => okC N c
  | .loop live c => (live.all fun t => Nat.ble (Nat.succ t) N) && okC N c
  | .rangeF g _ _ _ => okO N g
  | .skip | .exit _ | .ret => true
def okR (N : Nat) : ARes → Bool
  | .tmp t => Nat.ble (Nat.succ t) N
  | .cell t _ => Nat.ble (Nat.succ t) N
def okF (fn : AFunc) : Bool := okC fn.ntmps fn.body && fn.res.all (okR fn.ntmps)
section
variable (C : Cfg) (call : CallQ)
noncomputable def headQ (pin N : Nat) (live : List Nat) (K : SQ) : SQ := fun tr df hp n tc => newT N fun acc => keepK live tr acc fun tr =>
  Bool.rec (ofSt N (gc pin { tm := listT N tr, df := df, hp := listH n hp, tc := tc }) K) (K tr df hp n tc) (Nat.ble n (Nat.add pin C.gcAt))
noncomputable def jumpQ (pend : Option AExit) (tr : T AV) (df : List ADef) (hp : T AB) (n : Nat) (tc : List Nat) : R :=
  Option.rec (.norm tr df hp n tc) (fun e => AExit.rec (.norm tr df hp n tc) (fun i => .exit i tr df hp n tc) (.ret tr df hp n tc) (fun _ => .no) e) pend
noncomputable def notBusy (s : LSt) (K : R) : R := LSt.rec K .no K K s
noncomputable def isReady (s : LSt) (K : R) : R := LSt.rec K .no .no .no s
noncomputable def rangeGo (pin N : Nat) (gf : Nat) (first captured : List AV) (ps : List Nat) (as bd : AC) (tr : T AV) (tc : List Nat) (d : Nat) (df : List ADef) (hp0 : T AB) (n0 : Nat) : R :=
  forceL (listT N tr) fun tm => pushK hp0 n0 (.loop ⟨.ready, none, tm, ps, as, bd, d⟩) fun hp1 n1 => ends (call (.fn (.func gf) first captured) [.yield n0] hp1 n1)
    (fun _ hp' n' t => loopAt hp' n' n0 fun r => notBusy r.st <| setK hp' n0 .dead fun hp' => filterN pin t tc fun tc => jumpQ r.pend tr df hp' n' tc)
    (fun v hp' n' t => filterN pin t tc fun tc => .pan v tr df hp' n' tc)
noncomputable def rangeQ (pin N : Nat) (rd : Option Nat) (g : Opnd) (ps : List Nat) (as bd : AC) : SQ := fun tr df hp n tc =>
  valK g tr fun v => asFn v (fun f first captured => fnK f fun gf =>
    Option.rec (pushK hp n .dfr fun hp m => rangeGo call pin N gf first captured ps as bd tr tc n (.mark n :: df) hp m) (fun l => loopAt hp n l fun r => rangeGo call pin N gf first captured ps as bd tr tc r.dfr df hp n) rd) (fun _ => .no)
noncomputable def evQ (pin N : Nat) (rd : Option Nat) : AC → SQ := fun c => AC.rec (motive := fun _ => SQ) (fun tr df hp n tc => .norm tr df hp n tc)
  (fun l tr df hp n tc => opsQ call pin N rd.isSome false l [] tr df hp n tc)
  (fun l tr df hp n tc => panR l (opsQ call pin N rd.isSome true l [] tr df hp n tc))
  (fun _ _ iha ihb tr df hp n tc => seqR (iha tr df hp n tc) ihb)
  (fun c _ _ iha ihb tr df hp n tc => valK c tr fun v => asBool v fun t => Bool.rec (ihb tr df hp n tc) (iha tr df hp n tc) t)
  (fun id _ ih tr df hp n tc => blockR id (ih tr df hp n tc))
  (fun live _ ih => loopQ (headQ C pin N live) ih fuelL)
  (fun g ps as bd _ _ => rangeQ call pin N rd g ps as bd)
  (fun id tr df hp n tc => .exit id tr df hp n tc)
  (fun tr df hp n tc => .ret tr df hp n tc) c

/-! A function's end. -/
noncomputable def resK (tr : T AV) (hp : T AB) (n : Nat) : List ARes → (List AV → R) → R := fun l => List.rec (motive := fun _ => (List AV → R) → R) (fun K => K [])
  (fun r _ ih K => ARes.rec (fun t => getK tr t (ih fun l => K (.unk :: l)) fun v => ih fun l => K (v :: l)) (fun t k => getK tr t .no fun v => asPtr v (fun b off => cellsAt hp n b fun cs => pickK k cs off fun v => ih fun l => K (v :: l)) .no) r) l
noncomputable def resVK (l : List AV) (K : AV → R) : R := List.rec (K (.tup [])) (fun v r _ => List.rec (K v) (fun _ _ _ => K (.tup l)) r) l
noncomputable def slowFin (pin N : Nat) (fn : AFunc) (e : AExit) (tr : T AV) (df : List ADef) (hp : T AB) (n : Nat) (tc : List Nat) : R :=
  match finish C pin fn e { tm := listT N tr, df := df, hp := listH n hp, tc := tc } with
  | some (.ret v, st) => forceV v fun v => ofH st.hp fun hp n => forceNs st.tc fun tc => .cret v hp n tc
  | some (.pan v, st) => forceV v fun v => ofH st.hp fun hp n => forceNs st.tc fun tc => .cpan v hp n tc
  | none => .no
noncomputable def finQ (pin N : Nat) (fn : AFunc) (r : R) : R := R.rec .no
  (fun tr df hp n tc => List.rec (resK tr hp n fn.res fun l => resVK l fun v => .cret v hp n tc) (fun _ _ _ => slowFin C pin N fn .normal tr df hp n tc) df)
  (fun _ _ _ _ _ _ => .no)
  (fun tr df hp n tc => List.rec (resK tr hp n fn.res fun l => resVK l fun v => .cret v hp n tc) (fun _ _ _ => slowFin C pin N fn .ret tr df hp n tc) df)
  (fun v tr df hp n tc => List.rec (.cpan v hp n tc) (fun _ _ _ => slowFin C pin N fn (.panic v) tr df hp n tc) df)
  (fun _ _ _ _ => .no) (fun _ _ _ _ => .no) r
noncomputable def overQ (H : T AB) (N : Nat) (hp : T AB) (n : Nat) : List Nat → (T AB → R) → R := fun tc => List.rec (motive := fun _ => (T AB → R) → R) (fun K => K H) (fun j _ ih K => ih fun H' => Bool.rec (K H') (blockK hp n j fun b => setK H' j b K) (Nat.ble (Nat.succ j) N)) tc
/-- The blocks from i on, k of them, laid behind. -/
noncomputable def behindQ (hp : T AB) : Nat → Nat → T AB → (T AB → Nat → R) → R := fun k => Nat.rec (motive := fun _ => Nat → T AB → (T AB → Nat → R) → R) (fun i H K => K H i) (fun _ ih i H K => getK hp i .no fun b => setK H i b fun H => ih (Nat.succ i) H K) k
/-- A heap seen whole: what was turned of it, and what is new. -/
noncomputable def backQ (H : T AB) (N : Nat) (hp : T AB) (n : Nat) (tc : List Nat) (K : T AB → Nat → R) : R := overQ H N hp n tc fun H => behindQ hp (Nat.sub n N) N H K
noncomputable def slowTidy (pin : Nat) (x : CRes) (hp : T AB) (n : Nat) (K : AV → T AB → Nat → R) : R := match tidy pin x (listH n hp) with
  | (x, hp) => forceV x.val fun v => ofH hp fun hp n => K v hp n
noncomputable def tidyQ (pin : Nat) (x : CRes) (v : AV) (hp : T AB) (n : Nat) (K : AV → T AB → Nat → R) : R :=
  Bool.rec (slowTidy pin x hp n K) (K v hp n) (Nat.ble n (Nat.add pin C.gcAt))
noncomputable def bare (v : AV) (tc : List Nat) : Bool := List.rec (List.rec true (fun _ _ _ => false) (refs v)) (fun _ _ _ => false) tc
noncomputable def outQ (N : Nat) (H : T AB) (r : R) : R := R.rec .no (fun _ _ _ _ _ => .no) (fun _ _ _ _ _ _ => .no) (fun _ _ _ _ _ => .no) (fun _ _ _ _ _ _ => .no)
  (fun v hp n tc => Bool.rec (tidyQ C N (.ret v) v hp n fun v hp n => backQ H N hp n tc fun H n => .cret v H n tc) (.cret v H N []) (bare v tc))
  (fun v hp n tc => Bool.rec (tidyQ C N (.pan v) v hp n fun v hp n => backQ H N hp n tc fun H n => .cpan v H n tc) (.cpan v H N []) (bare v tc)) r
noncomputable def runQ (fn : AFunc) (args : List AV) (H : T AB) (n : Nat) : R := Bool.rec .no
  (newT fn.ntmps fun tr => laysK args 0 tr fun tr => outQ C n H (finQ C n fn.ntmps fn (evQ C call n fn.ntmps none fn.body tr [] H n []))) (Nat.ble (lenL args) fn.ntmps)
/-- The end of a call that saw a part of the heap, told by the first evaluator. -/
noncomputable def partOut (H : List AB) (r : List Nat) (x : CRes) (hp : List AB) (tc : List Nat) : CRes × List AB × List Nat :=
  match tidy r.length x hp with
  | (x, hp) => (x.map (ren (backN H.length r)), backH H r hp tc ++ (hp.drop r.length).map (renB (backN H.length r)), tc.map fun j => r.getD j H.length)
noncomputable def partR (p : CRes × List AB × List Nat) : R := match p with
  | (.ret v, hp, tc) => forceV v fun v => ofH hp fun hp n => forceNs tc fun tc => .cret v hp n tc
  | (.pan v, hp, tc) => forceV v fun v => ofH hp fun hp n => forceNs tc fun tc => .cpan v hp n tc
noncomputable def partGo (H : List AB) (r : List Nat) (x : R) : R := R.rec .no (fun _ _ _ _ _ => .no) (fun _ _ _ _ _ _ => .no) (fun _ _ _ _ _ => .no) (fun _ _ _ _ _ _ => .no)
  (fun v hp n tc => partR (partOut H r (.ret v) (listH n hp) tc)) (fun v hp n tc => partR (partOut H r (.pan v) (listH n hp) tc)) x
noncomputable def slowRun (fn : AFunc) (args : List AV) (H : T AB) (n : Nat) : R := Bool.rec .no
  (forceNs (reach (listH n H) fuelR (refsL args) []) fun r => forceL (renL (place r) args) fun args' => ofH (restrict (listH n H) r) fun H0 n0 =>
    newT fn.ntmps fun tr => laysK args' 0 tr fun tr => partGo (listH n H) r (finQ C n0 fn.ntmps fn (evQ C call n0 fn.ntmps none fn.body tr [] H0 n0 []))) (Nat.ble (lenL args) fn.ntmps)
noncomputable def enterQ (f : Nat) (args : List AV) (H : T AB) (n : Nat) : R :=
  Option.rec (Option.rec (Option.rec .no (fun fn => Bool.rec (slowRun C call fn args H n) (runQ C call fn args H n) (C.whole f)) (C.fns f)) (fun g => Option.rec .no (fun v => forceV v fun v => .cret v H n []) (g args (listH n H))) (C.exth f)) (fun g => Option.rec .no (fun v => forceV v fun v => .cret v H n []) (g args)) (C.ext f)
noncomputable def endRd (l : Nat) (N : Nat) (H : T AB) (p : Option AExit) (b : Bool) (hp : T AB) (n : Nat) (tc : List Nat) : R :=
  loopAt hp n l fun r => lstK (Bool.rec .done .ready b) fun s => setK hp l (.loop ⟨s, p, r.tm, r.params, r.assign, r.body, r.dfr⟩) fun hp =>
    tidyQ C N (.ret (.bool b)) (.bool b) hp n fun v hp n => backQ H N hp n (l :: tc) fun H n => .cret v H n (l :: tc)
noncomputable def roundQ (l : Nat) (args : List AV) (H : T AB) (n : Nat) : R := loopAt H n l fun r => isReady r.st <| Bool.rec .no
  (natK (lenL r.tm) fun N => Bool.rec .no (ofL N r.tm fun tr => parsK r.params args tr fun tr =>
    normR (evQ C call n N (some l) r.assign tr [] H n []) fun tr df hp m tc => loopAt hp m l fun r1 => isReady r1.st <|
      setK hp l (.loop ⟨.busy, r1.pend, r1.tm, r1.params, r1.assign, r1.body, r1.dfr⟩) fun hp =>
        R.rec .no (fun _ _ hp m tc => endRd C l n H none true hp m tc) (fun i _ _ hp m tc => endRd C l n H (some (.exit i)) false hp m tc) (fun _ _ hp m tc => endRd C l n H (some .ret) false hp m tc) (fun _ _ _ _ _ _ => .no) (fun _ _ _ _ => .no) (fun _ _ _ _ => .no)
          (evQ C call n N (some l) r.body tr df hp m (l :: tc))) (andB (okC N r.assign) (andB (okC N r.body) (r.params.all fun t => Nat.ble (Nat.succ t) N))))
  (Nat.beq (lenL args) (lenNs r.params))
end
noncomputable def callQ (C : Cfg) : Nat → CallQ := fun n => Nat.rec (motive := fun _ => CallQ) (fun _ _ _ _ => .no) (fun _ ih f args hp n =>
  asFn f (fun f a b => fnK f fun f => catL args b fun l => catL a l fun l => enterQ C ih f l hp n) (fun l => roundQ C ih l args hp n)) n
end Q
end Ev
end Go.Proofs.YtcaejedfjobooaaGreat
