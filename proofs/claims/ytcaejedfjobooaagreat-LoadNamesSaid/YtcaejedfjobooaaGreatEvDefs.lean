/- A deterministic evaluator over values: definitions. No program in sight: what it computes is tied to the model in the texts Ev... behind it. -/
import Derived.CallsIn
import Derived.RangeFuncLeaves
namespace Go.Proofs.YtcaejedfjobooaaGreat
open Go
namespace Ev

/-- A value. 'ptr b off', 'sl b off n k', 'map b' and 'yield b' speak of block b of the evaluator's own heap; 'rp', 'vs' of memory that is only read. -/
inductive AV where
  | unk
  | bool (b : Bool)
  | int (k : IntKind) (n : Int)
  | nilp
  | ptr (b off : Nat)
  | rp (cs : List AV)
  | nils
  | sl (b off n k : Nat)
  | vs (k : Nat) (es : List AV)
  | nilmap
  | map (b : Nat)
  | nilfn
  | fn (f : Fn) (first captured : List AV)
  | yield (l : Nat)
  | nilif
  | iface (t : Nat) (v : AV)
  | agg (cs : List AV)
  | tup (vs : List AV)
  deriving Inhabited

def AV.cells : AV → List AV
  | .agg cs => cs
  | v => [v]

/-- The cells of a value that is known to be a value of cells. -/
def cellsOf : AV → Option (List AV)
  | .unk | .tup _ => none
  | .agg cs => some cs
  | v => some [v]

/-- May a value be stored in one cell? -/
def AV.plain : AV → Bool
  | .unk | .tup _ | .agg _ => false
  | _ => true

inductive Opnd where
  | tmp (t : Nat)
  | val (v : AV)
  | glob (g : Nat)
  deriving Inhabited

/-- What is compared: with nil; bools; integers; aggregates of integers (true) and bools (false). -/
inductive EK where
  | nilI | nilF | bool | int
  | agg (s : List Bool)
  deriving Inhabited

inductive AK where
  | mov (x : Opnd)
  | pick (c a b : Opnd)
  | alloc (z : List AV)
  | box (x : Opnd)
  | build (z : List AV) (parts : List (Nat × Nat × Opnd))
  | buildSl (k len : Nat) (z : List AV) (parts : List (Nat × Opnd))
  | load (k : Option Nat) (a : Opnd)
  | store (k : Nat) (a x : Opnd)
  | nilck (x : Opnd)
  | nilckM (m : String) (tbl : List Nat) (x : Opnd)
  | bin (op : BinOp) (x y : Opnd)
  | eq (kind : EK) (neg : Bool) (x y : Opnd)
  | not (x : Opnd)
  | neg (x : Opnd)
  | conv (k : IntKind) (x : Opnd)
  | iface (t : Nat) (x : Opnd)
  | mkfn (f : Fn) (first captured : List Opnd)
  | mkmap
  | mksl (k : Nat) (z : List AV) (len cap : Opnd)
  | slice (k : Nat) (x : Opnd) (lo hi : Option Opnd)
  | fieldA (off : Nat) (x : Opnd)
  | fieldV (off : Nat) (k : Option Nat) (x : Opnd)
  | indexA (k : Nat) (arr : Option Nat) (x i : Opnd)
  | indexV (n step : Nat) (k : Option Nat) (x i : Opnd)
  | lookup (kn : EK) (ok : Bool) (z : AV) (m key : Opnd)
  | mapupd (kn : EK) (m key v : Opnd)
  | tassert (t : Nat) (z : AV) (x : Opnd)
  | extract (x : Opnd) (i : Nat)
  | len (x : Opnd)
  | append (k : Nat) (a b : Opnd)
  | copy (k : Nat) (a b : Opnd)
  | max (args : List Opnd)
  | min (args : List Opnd)
  | call (f : Opnd) (args : List Opnd)
  | invoke (x : Opnd) (tbl : List (Nat × Nat)) (args : List Opnd)
  | defer (f : Opnd) (args : List Opnd)
  | panic (x : Opnd)
  | isnil (neg : Bool) (x : Opnd)
  | sliceA (k n : Nat) (x : Opnd) (lo hi : Option Opnd)
  deriving Inhabited

structure AOp where
  ix : Nat
  dst : Option Nat
  op : AK
  guard : Option (Nat × Bool)
  deps : Nat := 0
  deriving Inhabited

inductive AC where
  | skip
  | ops (l : List AOp)
  | draw (l : List AOp)
  | seq (a b : AC)
  | cond (c : Opnd) (a b : AC)
  | block (id : Nat) (c : AC)
  | loop (live : List Nat) (c : AC)
  | rangeF (g : Opnd) (params : List Nat) (assign body : AC)
  | exit (id : Nat)
  | ret
  deriving Inhabited

inductive AExit where
  | normal
  | exit (id : Nat)
  | ret
  | panic (v : AV)
  deriving Inhabited

inductive LSt where
  | ready | busy | done | exhausted
  deriving DecidableEq

structure ALoop where
  st : LSt
  pend : Option AExit
  tm : List AV
  params : List Nat
  assign : AC
  body : AC
  dfr : Nat

inductive AB where
  | cells (cs : List AV)
  | map (es : List (AV × AV))
  | loop (r : ALoop)
  | dfr
  | dead
  deriving Inhabited

inductive ADef where
  | mark (d : Nat)
  | call (f : Nat) (args : List AV)

structure St where
  tm : List AV
  df : List ADef
  hp : List AB
  tc : List Nat

inductive ARes where
  | tmp (t : Nat)
  | cell (t : Nat) (k : Option Nat)

structure AFunc where
  ntmps : Nat
  res : List ARes
  body : AC

inductive CRes where
  | ret (v : AV)
  | pan (v : AV)

structure Cfg where
  fns : Nat → Option AFunc
  glob : Nat → Option (List AV)
  /-- The deferred functions that turn a panic with a value of a type (true: a struct of one number) into an error. -/
  dfk : Nat → Option (Nat × Bool)
  /-- Functions that are told by what they come to. -/
  ext : Nat → Option (List AV → Option AV)
  /-- The same, by what lies in the heap. -/
  exth : Nat → Option (List AV → List AB → Option AV) := fun _ => none
  /-- So many blocks may lie about before what is no longer reached is dropped. -/
  gcAt : Nat := 0
  /-- Does a call of a function see the whole heap? -/
  whole : Nat → Bool := fun _ => false

/-! Renaming of blocks: what is not named is forgotten. -/
mutual
def ren (σ : Nat → Option Nat) : AV → AV
  | .ptr b off => match σ b with | some j => .ptr j off | none => .unk
  | .sl b off n k => match σ b with | some j => .sl j off n k | none => .unk
  | .map b => match σ b with | some j => .map j | none => .unk
  | .yield b => match σ b with | some j => .yield j | none => .unk
  | .fn f first captured => .fn f (renL σ first) (renL σ captured)
  | .iface t v => .iface t (ren σ v)
  | .agg cs => .agg (renL σ cs)
  | .tup vs => .tup (renL σ vs)
  | .unk => .unk
  | .bool b => .bool b
  | .int k n => .int k n
  | .nilp => .nilp
  | .rp cs => .rp cs
  | .nils => .nils
  | .vs k es => .vs k es
  | .nilmap => .nilmap
  | .nilfn => .nilfn
  | .nilif => .nilif
def renL (σ : Nat → Option Nat) : List AV → List AV
  | [] => []
  | v :: l => ren σ v :: renL σ l
end
def renE (σ : Nat → Option Nat) : List (AV × AV) → List (AV × AV)
  | [] => []
  | (k, v) :: l => (ren σ k, ren σ v) :: renE σ l
def renB (σ : Nat → Option Nat) : AB → AB
  | .cells cs => .cells (renL σ cs)
  | .map es => .map (renE σ es)
  | .loop r => match σ r.dfr with
    | some d => .loop { r with tm := renL σ r.tm, dfr := d }
    | none => .dead
  | .dfr => .dfr
  | .dead => .dead
def renD (σ : Nat → Option Nat) : ADef → Option ADef
  | .mark d => (σ d).map .mark
  | .call f args => some (.call f (renL σ args))

def renDs (σ : Nat → Option Nat) : List ADef → Option (List ADef)
  | [] => some []
  | d :: l => match renD σ d, renDs σ l with
    | some d, some l => some (d :: l)
    | _, _ => none

/-! The blocks that a value names. -/
mutual
def refs : AV → List Nat
  | .ptr b _ => [b]
  | .sl b _ _ _ => [b]
  | .map b => [b]
  | .yield b => [b]
  | .fn _ first captured => refsL first ++ refsL captured
  | .iface _ v => refs v
  | .agg cs => refsL cs
  | .tup vs => refsL vs
  | _ => []
def refsL : List AV → List Nat
  | [] => []
  | v :: l => refs v ++ refsL l
end
def refsE : List (AV × AV) → List Nat
  | [] => []
  | (k, v) :: l => refs k ++ (refs v ++ refsE l)
def refsB : AB → List Nat
  | .cells cs => refsL cs
  | .map es => refsE es
  | .loop r => r.dfr :: refsL r.tm
  | _ => []
/-- What is reached from some blocks, in order, behind those that are listed already. -/
def reach (H : List AB) : Nat → List Nat → List Nat → List Nat
  | 0, _, acc => acc
  | _ + 1, [], acc => acc
  | n + 1, b :: todo, acc => if acc.contains b then reach H n todo acc else reach H n (refsB (H.getD b .dead) ++ todo) (acc ++ [b])
def fuelR : Nat := 10000
/-- The place of a number in a list. -/
def place : List Nat → Nat → Option Nat
  | [], _ => none
  | x :: l, b => if x = b then some 0 else (place l b).map (· + 1)
def restrict (H : List AB) (r : List Nat) : List AB := r.map fun i => renB (place r) (H.getD i .dead)

/-! Operations. -/
def bitsI (op : BinOp) (k : IntKind) (x y : Int) : Option Int :=
  match op with
  | .and => some (k.wrap (BitVec.ofInt k.bits x &&& BitVec.ofInt k.bits y).toNat)
  | .or => some (k.wrap (BitVec.ofInt k.bits x ||| BitVec.ofInt k.bits y).toNat)
  | .xor => some (k.wrap (BitVec.ofInt k.bits x ^^^ BitVec.ofInt k.bits y).toNat)
  | .andNot => some (k.wrap (BitVec.ofInt k.bits x &&& ~~~ BitVec.ofInt k.bits y).toNat)
  | _ => none
def binI (op : BinOp) (k : IntKind) (x : Int) (yk : IntKind) (y : Int) : Option AV :=
  match op with
  | .shl => if y < 0 then none else some (.int k (k.wrap (x * 2 ^ (min y.toNat k.bits))))
  | .shr => if y < 0 then none else some (.int k (x.fdiv (2 ^ (min y.toNat k.bits))))
  | .add => if k = yk then some (.int k (k.wrap (x + y))) else none
  | .sub => if k = yk then some (.int k (k.wrap (x - y))) else none
  | .mul => if k = yk then some (.int k (k.wrap (x * y))) else none
  | .quo => if k = yk then (if y = 0 then none else some (.int k (k.wrap (x.tdiv y)))) else none
  | .rem => if k = yk then (if y = 0 then none else some (.int k (x.tmod y))) else none
  | .eql => if k = yk then some (.bool (x == y)) else none
  | .neq => if k = yk then some (.bool (x != y)) else none
  | .lss => if k = yk then some (.bool (decide (x < y))) else none
  | .leq => if k = yk then some (.bool (decide (x ≤ y))) else none
  | .gtr => if k = yk then some (.bool (decide (x > y))) else none
  | .geq => if k = yk then some (.bool (decide (x ≥ y))) else none
  | op => if k = yk then (bitsI op k x y).map (.int k) else none
/-- Are two lists of integers and bools alike? -/
def aeqS : List Bool → List AV → List AV → Option Bool
  | [], [], [] => some true
  | true :: s, .int k a :: l, .int k' b :: m => if k = k' then (aeqS s l m).map ((a == b) && ·) else none
  | false :: s, .bool a :: l, .bool b :: m => (aeqS s l m).map ((a == b) && ·)
  | _, _, _ => none
def aeqK : EK → AV → AV → Option Bool
  | .nilI, .nilif, .nilif => some true
  | .nilI, .nilif, .iface _ _ => some false
  | .nilI, .iface _ _, .nilif => some false
  | .nilF, .nilfn, .nilfn => some true
  | .nilF, .nilfn, .fn _ _ _ => some false
  | .nilF, .fn _ _ _, .nilfn => some false
  | .bool, .bool a, .bool b => some (a == b)
  | .int, .int k a, .int k' b => if k = k' then some (a == b) else none
  | .agg s, .agg l, .agg m => aeqS s l m
  | _, _, _ => none
def setAt (cs : List AV) (off : Nat) (l : List AV) : List AV := cs.take off ++ l ++ cs.drop (off + l.length)
def fillA : List AV → List (Nat × Nat × AV) → Option (List AV)
  | cs, [] => some cs
  | cs, (off, size, x) :: rest => match cellsOf x with
    | some l => if l.length = size ∧ off + size ≤ cs.length then fillA (setAt cs off l) rest else none
    | none => none
def pickC (k : Option Nat) (cs : List AV) (off : Nat) : Option AV :=
  match k with
  | none => cs[off]?
  | some k => if off + k ≤ cs.length then some (.agg ((cs.drop off).take k)) else none
/-- Does a key look as it should? -/
def keyOK : EK → AV → Bool
  | .int, .int _ _ => true
  | .bool, .bool _ => true
  | .agg s, .agg l => l.length == s.length
  | _, _ => false
def findA (kn : EK) (key : AV) : List (AV × AV) → Option (Option AV)
  | [] => some none
  | (k, v) :: l => match aeqK kn key k with
    | some true => some (some v)
    | some false => findA kn key l
    | none => none
def putA (kn : EK) (key v : AV) : List (AV × AV) → Option (List (AV × AV))
  | [] => some [(key, v)]
  | (k, u) :: l => match aeqK kn key k with
    | some true => some ((key, v) :: l)
    | some false => (putA kn key v l).map ((k, u) :: ·)
    | none => none
def elemCells : List AV → List AV
  | [] => []
  | e :: l => e.cells ++ elemCells l
/-- The cells of a slice, one behind the other, each element of k cells. -/
def slCells (k : Nat) (H : List AB) : AV → Option (List AV)
  | .nils => some []
  | .vs k' es => if k = k' ∨ es.isEmpty then some (elemCells es) else none
  | .sl b off n k' => if k = k' then (match H[b]? with
    | some (.cells cs) => if off + n * k ≤ cs.length then some ((cs.drop off).take (n * k)) else none
    | _ => none) else none
  | _ => none
def slFt : AV → List Nat
  | .sl b _ _ _ => [b]
  | _ => []
def maxK (k : IntKind) : Int → List AV → Option AV
  | a, [] => some (.int k a)
  | a, .int k' b :: l => if k = k' then maxK k (max a b) l else none
  | _, _ => none
def minK (k : IntKind) : Int → List AV → Option AV
  | a, [] => some (.int k a)
  | a, .int k' b :: l => if k = k' then minK k (min a b) l else none
  | _, _ => none
def maxA : List AV → Option AV
  | .int k a :: l => maxK k a l
  | _ => none
def minA : List AV → Option AV
  | .int k a :: l => minK k a l
  | _ => none

def bound : Nat := 1048576

/-- An operation that lays a new block: the block, and what names it. -/
def xnew (ρ : Opnd → AV) : AK → Option (AB × (Nat → AV))
  | .alloc z => some (.cells z, fun j => .ptr j 0)
  | .box x => some (.cells ((cellsOf (ρ x)).getD []), fun j => .ptr j 0)
  | .buildSl k len z parts => (fillA (List.replicate len z).flatten (parts.map fun p => (p.1 * k, k, ρ p.2))).map fun cs => (.cells cs, fun j => .sl j 0 len k)
  | .mkmap => some (.map [], fun j => .map j)
  | .mksl k z len cap => match ρ len, ρ cap with
    | .int _ n, .int _ m => if 0 ≤ n ∧ n = m ∧ n ≤ bound then some (.cells (List.replicate n.toNat z).flatten, fun j => .sl j 0 n.toNat k) else none
    | _, _ => none
  | _ => none

/-- Is a block there, and spoken of? -/
def alive (H : List AB) (b : Nat) : Bool := match H[b]? with
  | some .dead => false
  | some _ => true
  | none => false

def slLen (H : List AB) : AV → Option Nat
  | .nils => some 0
  | .vs _ es => some es.length
  | .sl b _ n _ => if alive H b then some n else none
  | _ => none

/-- An operation that only computes, or looks: its value, the blocks that it looked at. -/
def xval (H : List AB) (ρ : Opnd → AV) : AK → Option (AV × List Nat)
  | .mov x => some (ρ x, [])
  | .pick c a b => match ρ c with
    | .bool t => (match ρ a, ρ b with
      | .bool x, .bool y => some (.bool (bif t then x else y), [])
      | x, y => some (bif t then x else y, []))
    | _ => none
  | .build z parts => (fillA z (parts.map fun p => (p.1, p.2.1, ρ p.2.2))).map fun cs => (.agg cs, [])
  | .load k a => match ρ a with
    | .ptr b off => (match H[b]? with
      | some (.cells cs) => (pickC k cs off).map fun v => (v, [b])
      | _ => none)
    | .rp cs => (pickC k cs 0).map fun v => (v, [])
    | _ => none
  | .nilck x => match ρ x with
    | .ptr b off => if alive H b then some (.ptr b off, [b]) else none
    | .rp cs => some (.rp cs, [])
    | .fn (.func f) a b => some (.fn (.func f) a b, [])
    | _ => none
  | .nilckM m tbl x => match ρ x with
    | .fn (.method m') [.iface t v] b => if m' = m ∧ tbl.contains t = true then some (.fn (.method m') [.iface t v] b, []) else none
    | _ => none
  | .bin op x y => match ρ x, ρ y with
    | .int k a, .int k' b => (binI op k a k' b).map fun v => (v, [])
    | _, _ => none
  | .eq kind neg x y => (aeqK kind (ρ x) (ρ y)).map fun b => (.bool (bif neg then !b else b), [])
  | .not x => match ρ x with
    | .bool b => some (.bool !b, [])
    | _ => none
  | .neg x => match ρ x with
    | .int k n => some (.int k (k.wrap (0 - n)), [])
    | _ => none
  | .conv k x => match ρ x with
    | .int _ n => some (.int k (k.wrap n), [])
    | _ => none
  | .iface t x => some (.iface t (ρ x), [])
  | .mkfn f first captured => some (.fn f (first.map ρ) (captured.map ρ), [])
  | .slice k x lo hi => match slLen H (ρ x), lo.elim (AV.int .i64 0) ρ, hi.elim (.int .i64 ((slLen H (ρ x)).getD 0)) ρ with
    | some n, .int _ l, .int _ h =>
      if 0 ≤ l ∧ l ≤ h ∧ h ≤ n then
        (if h - l = 0 then some (.vs k [], slFt (ρ x)) else match ρ x with
          | .sl b off _ k' => if k = k' ∧ alive H b = true then some (.sl b (off + l.toNat * k) (h - l).toNat k, [b]) else none
          | .vs k' es => if k = k' then some (.vs k ((es.drop l.toNat).take (h - l).toNat), []) else none
          | _ => none)
      else none
    | _, _, _ => none
  | .fieldA off x => match ρ x with
    | .ptr b o => if alive H b then some (.ptr b (o + off), [b]) else none
    | .rp cs => some (.rp (cs.drop off), [])
    | _ => none
  | .fieldV off k x => match ρ x with
    | .agg cs => (pickC k cs off).map fun v => (v, [])
    | _ => none
  | .indexA k arr x i => match ρ i with
    | .int _ i => (match arr, ρ x with
      | some n, .ptr b o => if 0 ≤ i ∧ i < n ∧ alive H b = true then some (.ptr b (o + i.toNat * k), [b]) else none
      | some n, .rp cs => if 0 ≤ i ∧ i < n then some (.rp (cs.drop (i.toNat * k)), []) else none
      | none, .sl b off n k' => if 0 ≤ i ∧ i < n ∧ k = k' ∧ alive H b = true then some (.ptr b (off + i.toNat * k), [b]) else none
      | none, .vs k' es => if 0 ≤ i ∧ i < es.length ∧ k = k' then some (.rp (es.getD i.toNat .unk).cells, []) else none
      | _, _ => none)
    | _ => none
  | .indexV n step k x i => match ρ x, ρ i with
    | .agg cs, .int _ i => if 0 ≤ i ∧ i < n then (pickC k cs (i.toNat * step)).map fun v => (v, []) else none
    | _, _ => none
  | .lookup kn ok z m key => match ρ m with
    | .map b => (match H[b]? with
      | some (.map es) => if keyOK kn (ρ key) = true then (findA kn (ρ key) es).map (fun
        | some v => (if ok then .tup [v, .bool true] else v, [b])
        | none => (if ok then .tup [z, .bool false] else z, [b])) else none
      | _ => none)
    | _ => none
  | .tassert t z x => match ρ x with
    | .iface t' v => some (if t' = t then .tup [v, .bool true] else .tup [z, .bool false], [])
    | .nilif => some (.tup [z, .bool false], [])
    | _ => none
  | .extract x i => match ρ x with
    | .tup l => l[i]?.map fun v => (v, [])
    | _ => none
  | .len x => (slLen H (ρ x)).map fun n => (.int .i64 n, slFt (ρ x))
  | .max args => (maxA (args.map ρ)).map fun v => (v, [])
  | .min args => (minA (args.map ρ)).map fun v => (v, [])
  | .isnil neg x => match ρ x with
    | .nils => some (.bool !neg, [])
    | .vs _ (_ :: _) => some (.bool neg, [])
    | .sl b _ _ _ => if alive H b then some (.bool neg, [b]) else none
    | _ => none
  | .sliceA k m x lo hi => match ρ x, lo.elim (AV.int .i64 0) ρ, hi.elim (.int .i64 m) ρ with
    | .ptr b o, .int _ l, .int _ h =>
      if 0 ≤ l ∧ l ≤ h ∧ h ≤ m then
        (match H[b]? with
        | some (.cells cs) => if o + m * k ≤ cs.length then some (if h - l = 0 then .vs k [] else .sl b (o + l.toNat * k) (h - l).toNat k, [b]) else none
        | _ => none)
      else none
    | _, _, _ => none
  | _ => none

/-- What an operation comes to that writes: its value, the heap, the blocks that it turned. -/
structure XR where
  v : AV
  hp : List AB
  tc : List Nat

def xeff (H : List AB) (ρ : Opnd → AV) : AK → Option XR
  | .store k a x => match ρ a, cellsOf (ρ x) with
    | .ptr b off, some l => (match H[b]? with
      | some (.cells cs) => if l.length = k ∧ off + l.length ≤ cs.length ∧ l.all AV.plain = true then some ⟨.unk, H.set b (.cells (setAt cs off l)), [b]⟩ else none
      | _ => none)
    | _, _ => none
  | .mapupd kn m key v => match ρ m with
    | .map b => (match H[b]? with
      | some (.map es) => if keyOK kn (ρ key) = true then (putA kn (ρ key) (ρ v) es).map (fun es => ⟨.unk, H.set b (.map es), [b]⟩) else none
      | _ => none)
    | _ => none
  | .append k a b => match slCells k H (ρ b), slLen H (ρ b) with
    | some news, some m => (match ρ a with
      | .nils => if m = 0 then some ⟨.nils, H, []⟩ else if m ≤ bound then some ⟨.sl H.length 0 m k, H ++ [.cells news], []⟩ else none
      | .sl b off n k' => if k = k' ∧ off = 0 then (match H[b]? with
        | some (.cells cs) => if cs.length = n * k ∧ n + m ≤ bound ∧ news.all AV.plain = true then some ⟨.sl H.length 0 (n + m) k, H.set b .dead ++ [.cells (cs ++ news)], [b]⟩ else none
        | _ => none) else none
      | _ => none)
    | _, _ => none
  | .copy k a b => match ρ a, slCells k H (ρ b), slLen H (ρ b) with
    | .sl d off n k', some src, some m => if k = k' then (match H[d]? with
      | some (.cells cs) => if off + n * k ≤ cs.length ∧ src.all AV.plain = true then some ⟨.int .i64 (min m n : Nat), H.set d (.cells (setAt cs off (src.take (min m n * k)))), [d]⟩ else none
      | _ => none) else none
    | _, _, _ => none
  | _ => none

def spineK : AK → Bool
  | .store _ _ _ | .mapupd _ _ _ _ | .append _ _ _ | .copy _ _ _ | .call _ _ | .invoke _ _ _ | .defer _ _ | .panic _ => true
  | _ => false

/-- How a call is made: what is called, its arguments, the heap. -/
abbrev CallF := AV → List AV → List AB → Option (CRes × List AB × List Nat)

def val (C : Cfg) (tm : List AV) : Opnd → AV
  | .tmp t => tm.getD t .unk
  | .val v => v
  | .glob g => match C.glob g with | some cs => .rp cs | none => .unk

def putT (tm : List AV) (dst : Option Nat) (v : AV) : List AV :=
  match dst with
  | some d => tm.set d v
  | none => tm

def apart (xs ys : List Nat) : Bool := xs.all fun x => !ys.contains x

/-- What an operation of the spine comes to: one that writes, calls, or panics. -/
def spine (call : CallF) (ρ : Opnd → AV) (H : List AB) : AK → Option (CRes × List AB × List Nat)
  | .panic x => match ρ x with
    | .iface t v => some (.pan (.iface t v), H, [])
    | _ => none
  | .defer _ _ => none
  | .call f args => call (ρ f) (args.map ρ) H
  | .invoke x tbl args => match ρ x with
    | .iface t v => (match tbl.lookup t with
      | some f => call (.fn (.func f) [] []) (v :: args.map ρ) H
      | none => none)
    | _ => none
  | k => (xeff H ρ k).map fun r => (.ret r.v, r.hp, r.tc)

/-- What a floating operation comes to: its value, the heap, what it looked at. -/
def float (ρ : Opnd → AV) (H : List AB) (k : AK) : Option (AV × List AB × List Nat) :=
  match xnew ρ k with
  | some (blk, mk) => some (mk H.length, H ++ [blk], [H.length])
  | none => match xval H ρ k with
    | some (v, ft) => if ft.all (fun b => decide (b < H.length)) then some (v, H, ft) else none
    | none => none

inductive O1 where
  | next (ft : Option (List Nat)) (st : St)
  | pan (v : AV) (st : St)

/-- Is an operation to be done? -/
def wantG (ρ : Opnd → AV) : Option (Nat × Bool) → Option Bool
  | none => some true
  | some (t, want) => match ρ (.tmp t) with
    | .bool b => some (b == want)
    | _ => none

/-- One operation of a region. 'fl': what the floating ones before looked at; asked only where the order is drawn. -/
def ev1 (C : Cfg) (call : CallF) (pin : Nat) (nod drawn : Bool) (fl : List (Nat × List Nat)) (o : AOp) (st : St) : Option O1 :=
  match wantG (val C st.tm) o.guard with
  | none => none
  | some false => some (.next none { st with tm := putT st.tm o.dst .unk })
  | some true => match o.op with
    | .defer f args => (match val C st.tm f with
      | .fn (.func f) [] captured => bif drawn || nod then none else some (.next none { st with df := .call f ((args.map (val C st.tm)) ++ captured) :: st.df, tm := putT st.tm o.dst .unk })
      | _ => none)
    | k => bif spineK k then (match spine call (val C st.tm) st.hp k with
        | some (.ret v, hp, tc) => bif !drawn || fl.all (fun p => o.deps.testBit p.1 || apart p.2 tc) then
            some (.next none { st with hp := hp, tm := putT st.tm o.dst v, tc := tc.filter (· < pin) ++ st.tc }) else none
        | some (.pan v, hp, tc) => bif !drawn || fl.all (fun p => o.deps.testBit p.1 || apart p.2 tc) then
            some (.pan v { st with hp := hp, tc := tc.filter (· < pin) ++ st.tc }) else none
        | none => none)
      else (match float (val C st.tm) st.hp k with
        | some (v, hp, ft) => some (.next (some ft) { st with hp := hp, tm := putT st.tm o.dst v })
        | none => none)

def addFl (ix : Nat) (ft : Option (List Nat)) (fl : List (Nat × List Nat)) : List (Nat × List Nat) := match ft with
  | some f => (ix, f) :: fl
  | none => fl

/-- The operations of a region, one after the other. -/
def evOps (C : Cfg) (call : CallF) (pin : Nat) (nod drawn : Bool) : List AOp → List (Nat × List Nat) → St → Option (Option AV × St)
  | [], _, st => some (none, st)
  | o :: l, fl, st => match ev1 C call pin nod drawn fl o st with
    | some (.next ft st') => evOps C call pin nod drawn l (addFl o.ix ft fl) st'
    | some (.pan v st') => some (some v, st')
    | none => none

def forget (dead : List Nat) (tm : List AV) : List AV := dead.foldl (fun tm t => tm.set t .unk) tm
def keepT (live : List Nat) (tm : List AV) : List AV := live.foldl (fun acc t => acc.set t (tm.getD t .unk)) (List.replicate tm.length .unk)

/-- Blocks that are no longer reached are dropped; the first 'pin' stay where they are. -/
def gc (pin : Nat) (st : St) : St :=
  let r := reach st.hp fuelR (refsL st.tm ++ st.df.flatMap fun | .mark d => [d] | .call _ args => refsL args) (reach st.hp fuelR ((List.range pin).flatMap fun i => refsB (st.hp.getD i .dead)) (List.range pin))
  match renDs (place r) st.df with
  | some df => { tm := renL (place r) st.tm, df := df, hp := restrict st.hp r, tc := st.tc }
  | none => st

def gcC (C : Cfg) (pin : Nat) (st : St) : St := bif Nat.ble st.hp.length (pin + C.gcAt) then st else gc pin st

def loopN (body : St → Option (AExit × St)) (head : St → St) : Nat → St → Option (AExit × St)
  | 0, _ => none
  | n + 1, st => match body (head st) with
    | some (.normal, st') => loopN body head n st'
    | r => r

def fuelL : Nat := 1000000

def setParams (tm : List AV) : List Nat → List AV → List AV
  | p :: ps, a :: as => setParams (tm.set p a) ps as
  | _, _ => tm

def ev (C : Cfg) (call : CallF) (pin : Nat) (rd : Option Nat) : AC → St → Option (AExit × St)
  | .skip, st => some (.normal, st)
  | .ops l, st => (evOps C call pin rd.isSome false l [] st).map fun
    | (none, st) => (.normal, st)
    | (some v, st) => (.panic v, st)
  | .draw l, st => (evOps C call pin rd.isSome true l [] st).map fun
    | (none, st) => (.normal, st)
    | (some v, st) => (.panic v, { st with tm := forget (l.filterMap (·.dst)) st.tm })
  | .seq a b, st => match ev C call pin rd a st with
    | some (.normal, st) => ev C call pin rd b st
    | r => r
  | .cond c a b, st => match val C st.tm c with
    | .bool t => bif t then ev C call pin rd a st else ev C call pin rd b st
    | _ => none
  | .block id c, st => match ev C call pin rd c st with
    | some (.exit i, st) => if i = id then some (.normal, st) else some (.exit i, st)
    | r => r
  | .loop live c, st => loopN (ev C call pin rd c) (fun st => gcC C pin { st with tm := keepT live st.tm }) fuelL st
  | .rangeF g ps as bd, st => match val C st.tm g with
    | .fn (.func gf) first captured =>
      let d : Option (Nat × List AB × List ADef) := match rd with
        | none => some (st.hp.length, st.hp ++ [.dfr], .mark st.hp.length :: st.df)
        | some l => (match st.hp[l]? with
          | some (.loop r) => some (r.dfr, st.hp, st.df)
          | _ => none)
      match d with
      | some (d, hp, df) => (match call (.fn (.func gf) first captured) [.yield hp.length] (hp ++ [.loop ⟨.ready, none, st.tm, ps, as, bd, d⟩]) with
        | some (.ret _, hp', tc) => (match hp'[hp.length]? with
          | some (.loop r) => if r.st = .busy then none else some (r.pend.getD .normal, { st with df := df, hp := hp'.set hp.length .dead, tc := tc.filter (· < pin) ++ st.tc })
          | _ => none)
        | some (.pan v, hp', tc) => some (.panic v, { st with df := df, hp := hp', tc := tc.filter (· < pin) ++ st.tc })
        | none => none)
      | none => none
    | _ => none
  | .exit id, st => some (.exit id, st)
  | .ret, st => some (.ret, st)

/-- The payload of a refusal. -/
def codeOf : Bool → AV → Option AV
  | false, .int k n => some (.int k n)
  | true, .agg [.int k n] => some (.int k n)
  | _, _ => none

/-- The deferred calls: 'p': the panic on its way, if one is. -/
def runDefs (C : Cfg) (pin : Nat) : List ADef → Option AV → St → Option (Option AV × St)
  | [], p, st => some (p, st)
  | .mark d :: l, p, st => match st.hp[d]? with
    | some .dfr => runDefs C pin l p { st with hp := st.hp.set d .dead, tc := [d].filter (· < pin) ++ st.tc }
    | _ => none
  | .call f args :: l, p, st => match C.dfk f, args with
    | some (t, ag), [.ptr b off] => (match p with
      | none => runDefs C pin l none st
      | some (.iface t' v) => (match codeOf ag v, st.hp[b]? with
        | some c, some (.cells cs) => if t' = t ∧ off < cs.length then runDefs C pin l none { st with hp := st.hp.set b (.cells (setAt cs off [c])), tc := [b].filter (· < pin) ++ st.tc } else none
        | _, _ => none)
      | _ => none)
    | _, _ => none

def resOf (st : St) : ARes → Option AV
  | .tmp t => some (st.tm.getD t .unk)
  | .cell t k => match st.tm.getD t .unk with
    | .ptr b off => (match st.hp[b]? with
      | some (.cells cs) => pickC k cs off
      | _ => none)
    | _ => none
def resL (st : St) : List ARes → Option (List AV)
  | [] => some []
  | r :: l => match resOf st r, resL st l with
    | some v, some vs => some (v :: vs)
    | _, _ => none
def resV : List AV → AV
  | [v] => v
  | vs => .tup vs

/-- A function's end: its deferred calls, its result. -/
def finish (C : Cfg) (pin : Nat) (fn : AFunc) : AExit → St → Option (CRes × St)
  | .normal, st | .ret, st => (match runDefs C pin st.df none st with
    | some (none, st) => (resL st fn.res).map fun vs => (.ret (resV vs), st)
    | _ => none)
  | .panic v, st => (match runDefs C pin st.df (some v) st with
    | some (none, st) => (resL st fn.res).map fun vs => (.ret (resV vs), st)
    | some (some v, st) => some (.pan v, st)
    | none => none)
  | _, _ => none

def CRes.val : CRes → AV
  | .ret v => v
  | .pan v => v
def CRes.map (f : AV → AV) : CRes → CRes
  | .ret v => .ret (f v)
  | .pan v => .pan (f v)

/-- What a call leaves of its own heap: the blocks that it was handed, and what is reached from them and from its result. -/
def tidy (pin : Nat) (x : CRes) (hp : List AB) : CRes × List AB :=
  let r := reach hp fuelR (refs x.val) (reach hp fuelR ((List.range pin).flatMap fun i => refsB (hp.getD i .dead)) (List.range pin))
  (x.map (ren (place r)), restrict hp r)

def tidyC (C : Cfg) (pin : Nat) (x : CRes) (hp : List AB) : CRes × List AB := bif Nat.ble hp.length (pin + C.gcAt) then (x, hp) else tidy pin x hp

/-- Nothing was turned, and no block is named. -/
def bareQ (v : AV) (tc : List Nat) : Bool := tc.isEmpty && (refs v).isEmpty

/-- What was turned of a heap that was seen whole. -/
def overH (H : List AB) (hp : List AB) : List Nat → List AB
  | [] => H
  | j :: tc => (overH H hp tc).set j (hp.getD j .dead)

/-- From the numbers of a call's heap back to those of its caller's. -/
def backN (N : Nat) (r : List Nat) (j : Nat) : Option Nat :=
  match r[j]? with
  | some i => some i
  | none => some (N + (j - r.length))
def backH (H : List AB) (r : List Nat) (hp : List AB) : List Nat → List AB
  | [] => H
  | j :: tc => (backH H r hp tc).set (r.getD j H.length) (renB (backN H.length r) (hp.getD j .dead))

/-- A call of function f: it works on the part of the heap that its arguments reach. -/
def enter (C : Cfg) (call : CallF) (f : Nat) (args : List AV) (H : List AB) : Option (CRes × List AB × List Nat) :=
  match C.ext f with
  | some g => (g args).map fun v => (.ret v, H, [])
  | none =>
  match C.exth f with
  | some g => (g args H).map fun v => (.ret v, H, [])
  | none =>
  match C.fns f with
  | none => none
  | some fn =>
    bif C.whole f then
      (match ev C call H.length none fn.body { tm := args ++ List.replicate (fn.ntmps - args.length) .unk, df := [], hp := H, tc := [] } with
      | some (e, st) => (match finish C H.length fn e st with
        | some (x, st) =>
          bif bareQ x.val st.tc then some (x, H, []) else
          let (x, hp) := tidyC C H.length x st.hp
          some (x, overH H hp st.tc ++ hp.drop H.length, st.tc)
        | none => none)
      | none => none)
    else
    let r := reach H fuelR (refsL args) []
    match ev C call r.length none fn.body { tm := renL (place r) args ++ List.replicate (fn.ntmps - args.length) .unk, df := [], hp := restrict H r, tc := [] } with
    | some (e, st) => (match finish C r.length fn e st with
      | some (x, st) =>
        let (x, hp) := tidy r.length x st.hp
        some (x.map (ren (backN H.length r)), backH H r hp st.tc ++ (hp.drop r.length).map (renB (backN H.length r)), st.tc.map fun j => r.getD j H.length)
      | none => none)
    | none => none

/-- A round of a loop over a function. -/
def round (C : Cfg) (call : CallF) (l : Nat) (args : List AV) (H : List AB) : Option (CRes × List AB × List Nat) :=
  match H[l]? with
  | some (.loop r) =>
    if r.st = .ready ∧ args.length = r.params.length then
      match ev C call H.length (some l) r.assign { tm := setParams r.tm r.params args, df := [], hp := H, tc := [] } with
      | some (.normal, st) => (match st.hp[l]? with
        | some (.loop r1) => if r1.st = .ready then (match ev C call H.length (some l) r.body { st with hp := st.hp.set l (.loop { r1 with st := .busy }), tc := l :: st.tc } with
          | some (e, st) => (match e, st.hp[l]? with
            | .panic _, _ => none
            | e, some (.loop r2) =>
              let p : Option AExit := match e with | .normal => none | e => some e
              let hp := st.hp.set l (.loop { r2 with st := if p.isNone then .ready else .done, pend := p })
              let (x, hp) := tidyC C H.length (.ret (.bool p.isNone)) hp
              some (x, overH H hp (l :: st.tc) ++ hp.drop H.length, l :: st.tc)
            | _, _ => none)
          | none => none) else none
        | _ => none)
      | _ => none
    else none
  | _ => none

/-- A call, to a depth. -/
def call (C : Cfg) : Nat → CallF
  | 0, _, _, _ => none
  | n + 1, f, args, H => match f with
    | .fn (.func f) first captured => enter C (call C n) f (first ++ args ++ captured) H
    | .yield l => round C (call C n) l args H
    | _ => none

/-- A table, as a tree. -/
inductive FT where
  | leaf
  | node (k : Nat) (f : AFunc) (l r : FT)
noncomputable def FT.find : FT → Nat → Option AFunc := fun t => FT.rec (motive := fun _ => Nat → Option AFunc) (fun _ => none) (fun k f _ _ ihl ihr n => Bool.rec (Bool.rec (ihr n) (ihl n) (Nat.ble (Nat.succ n) k)) (some f) (Nat.beq n k)) t
end Ev
end Go.Proofs.YtcaejedfjobooaaGreat
