/- From the program's code to the evaluator's: what the types say is laid down once. -/
import Derived.Test.YtcaejedfjobooaaGreatEvGlob
namespace Go.Proofs.YtcaejedfjobooaaGreat
open Go
namespace Ev

/-- A constant of one cell. -/
def cstA : Value → Option AV
  | .bool b => some (.bool b)
  | .int k n => some (.int k n)
  | .pointer none => some .nilp
  | .slice none 0 0 => some .nils
  | .map none => some .nilmap
  | .nilFunc => some .nilfn
  | .nilIface => some .nilif
  | _ => none
def cstL : List Value → Option (List AV)
  | [] => some []
  | v :: l => match cstA v, cstL l with
    | some a, some as => some (a :: as)
    | _, _ => none
def opnd : Operand → Option Opnd
  | .tmp t => some (.tmp t)
  | .const (.agg cs) => (cstL cs.toList).map fun l => .val (.agg l)
  | .const v => (cstA v).map .val
  | .global g => (globA g).map fun cs => .val (.rp cs)
  | .func f => some (.val (.fn (.func f) [] []))
def opndL : List Operand → Option (List Opnd)
  | [] => some []
  | v :: l => match opnd v, opndL l with
    | some a, some as => some (a :: as)
    | _, _ => none

section
variable (P : Program)
def sizeT (t : Nat) : Option Nat := (P.info? t).map (·.size)
def aggT (t : Nat) : Bool := match P.underlying t with
  | some (.struct _) | some (.array _ _) => true
  | _ => false
/-- none: one cell; some k: k cells, an aggregate. -/
def formT (t : Nat) : Option (Option Nat) := match P.underlying t with
  | some (.struct _) | some (.array _ _) => (sizeT P t).map some
  | some _ => if sizeT P t = some 1 then some none else none
  | none => none
def zeroT (t : Nat) : Option (List AV) := match P.info? t with
  | some i => match i.zero with
    | some z => cstL z.cells.toList
    | none => none
  | none => none
/-- The zero as a value. -/
def zeroV (t : Nat) : Option AV := match P.info? t with
  | some i => match i.zero with
    | some (.agg cs) => (cstL cs.toList).map .agg
    | some z => cstA z
    | none => none
  | none => none
def fieldsT (t : Nat) : Option (List Field) := match P.underlying t with
  | some (.struct fs) => some fs.toList
  | _ => none
/-- Structs of integers and bools alone, that '==' compares cell by cell: which cells are integers. -/
def flatF (flat : Nat → Option (List Bool)) : Nat → List Field → Option (List Bool)
  | _, [] => some []
  | off, f :: l => if f.name ≠ "_" ∧ f.offset = off then
      (match flat f.type with
      | some s => (flatF flat (off + s.length) l).map (s ++ ·)
      | _ => none)
    else none
def flatT : Nat → Nat → Option (List Bool)
  | 0, _ => none
  | d + 1, t => match P.underlying t with
    | some (.struct fs) => if P.stoodInHeld t then none else (match flatF (flatT d) 0 fs.toList with
      | some s => if sizeT P t = some s.length then some s else none
      | none => none)
    | some (.int _) => if sizeT P t = some 1 then some [true] else none
    | some .bool => if sizeT P t = some 1 then some [false] else none
    | some (.array n e) => (match flatT d e with
      | some s => if sizeT P t = some (n * s.length) ∧ sizeT P e = some s.length then some (List.replicate n s).flatten else none
      | none => none)
    | _ => none
/-- What a type's keys look like. -/
def keyT (t : Nat) : Option EK := match P.underlying t with
  | some (.int _) => some .int
  | some .bool => some .bool
  | some (.struct _) => (flatT P 5 t).map .agg
  | _ => none
def partsOf (places : Nat → Option (Nat × Nat)) : List (Nat × Operand) → Option (List (Nat × Nat × Opnd))
  | [] => some []
  | (i, x) :: l => match places i, opnd x, partsOf places l with
    | some (off, size), some x, some l => some ((off, size, x) :: l)
    | _, _, _ => none
def partsS : List (Nat × Operand) → Option (List (Nat × Opnd))
  | [] => some []
  | (i, x) :: l => match opnd x, partsS l with
    | some x, some l => some ((i, x) :: l)
    | _, _ => none
def isNeq : BinOp → Bool
  | .neq => true
  | _ => false
def isNil : Operand → Bool
  | .const .nilIface | .const .nilFunc => true
  | _ => false
def isNilS : Operand → Bool
  | .const (.slice none 0 0) => true
  | _ => false
def intT (t : Nat) : Bool := match P.underlying t with
  | some (.int _) => true
  | _ => false
def methodOf (name : String) (t : Nat) : Option Nat := match P.info? t with
  | some i => match i.methods.find? (·.name == name) with
    | some m => match m.func with
      | some (f, ptr) => if m.path.isEmpty && (match P.underlying t with | some (.pointer _) => ptr | some _ => !ptr | none => false) then some f else none
      | none => none
    | none => none
  | none => none
def methodTbl (name : String) : Nat → List (Nat × Nat)
  | 0 => []
  | t + 1 => match methodOf P name t with
    | some f => (t, f) :: methodTbl name t
    | none => methodTbl name t

def slElem (t : Nat) : Option (Nat × Nat × Nat) := match P.underlying t with
  | some (.slice e) => match P.info? e with
    | some i => some (e, i.size, i.bytes)
    | none => none
  | _ => none

def compOp (o : Oper) : Option AK :=
  match o.op with
  | .move x | .assign x => (opnd x).map .mov
  | .pick c a b => match opnd c, opnd a, opnd b with
    | some c, some a, some b => some (.pick c a b)
    | _, _, _ => none
  | .alloc t => (zeroT P t).map .alloc
  | .box _ x => (opnd x).map .box
  | .build t parts => match zeroT P t, P.underlying t with
    | some z, some (.struct fs) => (match fs.toList.mapM (fun f => (P.info? f.type).map fun i => (f.offset, i.size)) with
      | some places => (partsOf (fun i => places[i]?) parts.toList).map (.build z)
      | none => none)
    | some z, some (.array _ e) => (match sizeT P e with
      | some s => (partsOf (fun i => some (i * s, s)) parts.toList).map (.build z)
      | none => none)
    | _, _ => none
  | .buildSlice t len parts => match slElem P t with
    | some (e, k, _) => (match zeroT P e, partsS parts.toList with
      | some z, some ps => if len * k ≤ 4096 ∧ z.length = k ∧ 0 < k then some (.buildSl k len z ps) else none
      | _, _ => none)
    | none => none
  | .load t a => match formT P t, opnd a with
    | some k, some a => some (.load k a)
    | _, _ => none
  | .store t a x => match sizeT P t, opnd a, opnd x with
    | some k, some a, some x => some (.store k a x)
    | _, _, _ => none
  | .nilCheck x => (opnd x).map .nilck
  | .binOp op t x y _ => match opnd x, opnd y with
    | some a, some b =>
      if intT P t then some (.bin op a b) else
      (match op with
      | .eql | .neq =>
        (match P.underlying t with
        | some .bool => some (.eq .bool (isNeq op) a b)
        | some (.struct _) => (match flatT P 5 t with
          | some s => if P.eqGuardType P.depth t = false then some (.eq (.agg s) (isNeq op) a b) else none
          | _ => none)
        | some (.interface _) => if isNil x || isNil y then some (.eq .nilI (isNeq op) a b) else none
        | some (.func _ _ _) => if isNil x || isNil y then some (.eq .nilF (isNeq op) a b) else none
        | some (.slice _) => if isNilS y then some (.isnil (isNeq op) a) else none
        | _ => none)
      | _ => none)
    | _, _ => none
  | .unOp .not _ x => (opnd x).map .not
  | .unOp .neg _ x => (opnd x).map .neg
  | .convert s d x => match P.underlying s, P.underlying d, opnd x with
    | some (.int _), some (.int k), some x => some (.conv k x)
    | _, _, _ => none
  | .makeInterface t x => match P.underlying t, opnd x with
    | some (.interface _), _ => none
    | some _, some x => some (.iface t x)
    | _, _ => none
  | .makeFunc fn first captured => match fn, opndL first.toList, opndL captured.toList with
    | .func f, some a, some b => some (.mkfn (.func f) a b)
    | .method m, some a, some b => some (.mkfn (.method m) a b)
    | _, _, _ => none
  | .makeMap _ none => some .mkmap
  | .makeSlice t len cap => match slElem P t with
    | some (e, k, bytes) => (match zeroT P e, opnd len, opnd cap with
      | some z, some l, some c => if z.length = k ∧ 0 < k ∧ bytes ≤ 134217728 then some (.mksl k z l c) else none
      | _, _, _ => none)
    | none => none
  | .slice t x lo hi none => match P.underlying t with
    | some (.array n e) => (match sizeT P e, opnd x, lo.elim (some none) (fun l => (opnd l).map some), hi.elim (some none) (fun l => (opnd l).map some) with
      | some (k + 1), some x, some lo, some hi => some (.sliceA (k + 1) n x lo hi)
      | _, _, _, _ => none)
    | _ => (match slElem P t, opnd x, lo.elim (some none) (fun l => (opnd l).map some), hi.elim (some none) (fun l => (opnd l).map some) with
      | some (_, k, _), some x, some lo, some hi => if 0 < k then some (.slice k x lo hi) else none
      | _, _, _, _ => none)
  | .fieldAddr t x f => match fieldsT P t, opnd x with
    | some fs, some x => (match fs[f]? with
      | some f => (match sizeT P f.type with
        | some (_ + 1) => some (.fieldA f.offset x)
        | _ => none)
      | none => none)
    | _, _ => none
  | .field t x f => match fieldsT P t, opnd x with
    | some fs, some x => (match fs[f]? with
      | some f => (formT P f.type).map fun k => .fieldV f.offset k x
      | none => none)
    | _, _ => none
  | .indexAddr t x i => match P.underlying t, opnd x, opnd i with
    | some (.slice e), some x, some i => (match sizeT P e with
      | some (k + 1) => some (.indexA (k + 1) none x i)
      | _ => none)
    | some (.array n e), some x, some i => (match sizeT P e with
      | some (k + 1) => some (.indexA (k + 1) (some n) x i)
      | _ => none)
    | _, _, _ => none
  | .index t x i => match P.underlying t, opnd x, opnd i with
    | some (.array n e), some x, some i => (match sizeT P e, formT P e with
      | some s, some k => some (.indexV n s k x i)
      | _, _ => none)
    | _, _, _ => none
  | .lookup t m key ok => match P.underlying t, opnd m, opnd key with
    | some (.map k e), some m, some key => match keyT P k with | some kn => (zeroV P e).map fun z => .lookup kn ok z m key | none => none
    | _, _, _ => none
  | .mapUpdate t m key v => match P.underlying t, opnd m, opnd key, opnd v with
    | some (.map k _), some m, some key, some v => match keyT P k with | some kn => some (.mapupd kn m key v) | none => none
    | _, _, _, _ => none
  | .typeAssert x _ t true => match P.underlying t, zeroV P t, opnd x with
    | some (.interface _), _, _ => none
    | some _, some z, some x => some (.tassert t z x)
    | _, _, _ => none
  | .extract x i => (opnd x).map fun x => .extract x i
  | .call c => match c.callee with
    | .value f => (match opnd f, opndL c.args.toList with
      | some f, some args => some (.call f args)
      | _, _ => none)
    | .invoke x name => (match opnd x, opndL c.args.toList with
      | some x, some args => some (.invoke x (methodTbl P name P.types.size) args)
      | _, _ => none)
    | .builtin b => (match b, c.args.toList, c.argTypes.toList with
      | .len, [x], [t] => (match P.underlying t, opnd x with
        | some (.slice _), some x => some (.len x)
        | _, _ => none)
      | .append, [x, y], [t, u] => (match slElem P t, slElem P u, opnd x, opnd y with
        | some (e, k, bytes), some _, some x, some y => if 0 < k ∧ bytes ≤ 134217728 ∧ t = u ∧ ((zeroT P e).map (·.length)) = some k then some (.append k x y) else none
        | _, _, _, _ => none)
      | .copy, [x, y], [t, u] => (match slElem P t, slElem P u, opnd x, opnd y with
        | some (e, k, _), some (e', _, _), some x, some y => if 0 < k ∧ e = e' then some (.copy k x y) else none
        | _, _, _, _ => none)
      | .max, args, _ => (opndL args).map .max
      | .min, args, _ => (opndL args).map .min
      | _, _, _ => none)
  | .defer c => match c.callee with
    | .value f => (match opnd f, opndL c.args.toList with
      | some f, some args => some (.defer f args)
      | _, _ => none)
    | _ => none
  | .panic x => (opnd x).map .panic
  | _ => none

def compGuard (ops : Array Oper) (o : Oper) : Option (Option (Nat × Bool)) := match o.guard with
  | none => some none
  | some (j, want) => match (ops[j]?).bind (·.dst) with
    | some t => some (some (t, want))
    | none => none

/-- The method whose value a temporary is laid to be. -/
def methAt (ops : Array Oper) (t : Nat) : Option String := ops.toList.findSome? fun o => match o.op with
  | .makeFunc (.method m) _ _ => if o.dst = some t then some m else none
  | _ => none
def compOpM (ops : Array Oper) (o : Oper) : Option AK := match o.op with
  | .nilCheck (.tmp t) => (match methAt ops t with
    | some m => some (.nilckM m ((methodTbl P m P.types.size).map (·.1)) (.tmp t))
    | none => compOp P o)
  | _ => compOp P o
def compAt (ops : Array Oper) (b : Array Nat) (i : Nat) : Option AOp := match ops[i]? with
  | none => none
  | some o => match compOpM P ops o, compGuard ops o with
    | some k, some g => some { ix := i, dst := o.dst, op := k, guard := g, deps := b.getD i 0 }
    | _, _ => none
def compOps (ops : Array Oper) (b : Array Nat) : List Nat → Option (List AOp)
  | [] => some []
  | i :: l => match compAt P ops b i, compOps ops b l with
    | some o, some os => some (o :: os)
    | _, _ => none

/-- The order in which a drawn region is gone through: what floats as soon as it can, then the next of the spine. -/
def greedy (ops : List AOp) : Nat → List AOp → List AOp → Nat → Option (List AOp)
  | 0, [], acc, _ => some acc.reverse
  | 0, _ :: _, _, _ => none
  | n + 1, todo, acc, done =>
    match todo with
    | [] => some acc.reverse
    | _ =>
      let ready := fun o : AOp => o.deps &&& done == o.deps
      match todo.find? (fun o => !spineK o.op && ready o) with
      | some o => greedy ops n (todo.filter (·.ix != o.ix)) (o :: acc) (done ||| 2 ^ o.ix)
      | none => match todo.find? ready with
        | some o => greedy ops n (todo.filter (·.ix != o.ix)) (o :: acc) (done ||| 2 ^ o.ix)
        | none => none

def tmpsO : Opnd → List Nat
  | .tmp t => [t]
  | _ => []
def tmpsL : List Opnd → List Nat
  | [] => []
  | x :: l => tmpsO x ++ tmpsL l
/-- The temporaries that an operation reads. -/
def AK.tmps : AK → List Nat
  | .mov x | .box x | .load _ x | .nilck x | .nilckM _ _ x | .not x | .neg x | .conv _ x | .iface _ x | .fieldA _ x | .fieldV _ _ x | .tassert _ _ x | .extract x _ | .len x | .panic x | .isnil _ x => tmpsO x
  | .pick a b c => tmpsO a ++ tmpsO b ++ tmpsO c
  | .alloc _ | .mkmap => []
  | .build _ ps => ps.flatMap fun p => tmpsO p.2.2
  | .buildSl _ _ _ ps => ps.flatMap fun p => tmpsO p.2
  | .store _ a b | .bin _ a b | .eq _ _ a b | .mksl _ _ a b | .indexA _ _ a b | .indexV _ _ _ a b | .lookup _ _ _ a b | .append _ a b | .copy _ a b => tmpsO a ++ tmpsO b
  | .mapupd _ a b c => tmpsO a ++ tmpsO b ++ tmpsO c
  | .mkfn _ a b => tmpsL a ++ tmpsL b
  | .slice _ x lo hi | .sliceA _ _ x lo hi => tmpsO x ++ lo.elim [] tmpsO ++ hi.elim [] tmpsO
  | .max l | .min l => tmpsL l
  | .call f l | .defer f l => tmpsO f ++ tmpsL l
  | .invoke x _ l => tmpsO x ++ tmpsL l
def AOp.names (o : AOp) : List Nat := o.dst.toList ++ o.op.tmps ++ (match o.guard with | some (t, _) => [t] | none => [])

/-- What one operation, gone through before another, must be like. -/
def okPair (p o : AOp) : Bool :=
  -- what an operation hangs on lies before
  !p.deps.testBit o.ix && p.ix != o.ix &&
  -- whoever writes a temporary, and whoever reads it, are in order
  (o.deps.testBit p.ix || ((match p.dst with | some t => !o.names.contains t | none => true) && (match o.dst with | some t => !p.names.contains t | none => true))) &&
  -- each lays its own
  (match p.dst with | some t => o.dst != some t | none => true) &&
  -- what stands behind one of the spine hangs on it
  (!spineK p.op || o.deps.testBit p.ix)
/-- What the order must be like: 'acc' (the last one first) lies before; 'done': their numbers. -/
def okDraw : Nat → List AOp → List AOp → Bool
  | _, _, [] => true
  | done, acc, o :: l => acc.all (okPair · o) && (o.deps &&& done == o.deps) && okDraw (done ||| 2 ^ o.ix) (o :: acc) l

/-- What is not taken: nothing is found of it. -/
def dead : AC := .cond (.val .nilp) .skip .skip

def compCode : Code → Option AC
  | .skip => some .skip
  | .region _ ops false => match compOps P ops #[] (List.range ops.size) with
    | some l => some (.ops l)
    | none => some dead
  | .region _ ops true => match compOps P ops (Region.before ops) (List.range ops.size) with
    | some l => (match greedy l ops.size l [] 0 with
      | some l => if okDraw 0 [] l = true ∧ ((List.range ops.size).all fun i => l.any (·.ix == i)) = true ∧ P.follows .mixedOrders = true then some (.draw l) else none
      | none => some dead)
    | none => some dead
  | .seq a b => match compCode a, compCode b with
    | some a, some b => some (.seq a b)
    | _, _ => none
  | .cond c a b => match opnd c, compCode a, compCode b with
    | some c, some a, some b => some (.cond c a b)
    | _, _, _ => none
  | .block id c => (compCode c).map (.block id)
  | .loop c => (compCode c).map (.loop [])
  | .rangeFunc g ps a b => match opnd g, compCode a, compCode b with
    | some g, some a, some b => some (.rangeF g ps.toList a b)
    | _, _, _ => none
  | .exit id => some (.exit id)
  | .label _ => some .skip
  | .scope c => compCode c
  | .ret => some .ret
  | _ => none

def compRes : List ResultVar → Option (List ARes)
  | [] => some []
  | .tmp t :: l => (compRes l).map (.tmp t :: ·)
  | .cell a t :: l => match formT P t, compRes l with
    | some k, some l => some (.cell a k :: l)
    | _, _ => none

def compFn (fn : Func) : Option AFunc := match fn.body, compRes P fn.results.toList with
  | some c, some r => (compCode P c).map fun c => { ntmps := fn.ntmps, res := r, body := c }
  | _, _ => none
end

/-- The code without what is forgotten at the heads of its loops. -/
def strip : AC → AC
  | .seq a b => .seq (strip a) (strip b)
  | .cond c a b => .cond c (strip a) (strip b)
  | .block id c => .block id (strip c)
  | .loop _ c => .loop [] (strip c)
  | .rangeF g ps a b => .rangeF g ps (strip a) (strip b)
  | c => c

def AFunc.strip (f : AFunc) : AFunc := { f with body := Ev.strip f.body }
end Ev
end Go.Proofs.YtcaejedfjobooaaGreat
