/- Operations that only compute or look. Part 4: slices, nil checks, building, maps, assertions. -/
import Derived.CallsIn
import Derived.RangeFuncLeaves
import Derived.Below
import Derived.Laws.NewBlocks
import Derived.RangeFuncRecord
import Derived.Laws.Cells
import Derived.Laws.CopyRow
import Derived.Laws.AppendOwn
import Derived.WideLaws
import Derived.ChangeKeysEq
import Derived.Laws.StructEq
import Derived.Laws.Tables
import Derived.MapKept
/- A deterministic evaluator over values: definitions. No program in sight: what it computes is tied to the model in the texts Ev... behind it. -/
namespace Go.Proofs.YtfpepkbflnendaaGreat
open Go
namespace Ev

inductive AV where
 |unk
 |bool (b:Bool)
 |int (k:IntKind) (n:Int)
 |nilp
 |ptr (b off:Nat)
 |rp (cs:List AV)
 |nils
 |sl (b off n k:Nat)
 |vs (k:Nat) (es:List AV)
 |nilmap
 |map (b:Nat)
 |nilfn
 |fn (f:Fn) (first captured:List AV)
 |yield (l:Nat)
 |nilif
 |iface (t:Nat) (v:AV)
 |agg (cs:List AV)
 |tup (vs:List AV)
 /-- What finds entry i of map b again. -/
 |stamp (b i:Nat)
 deriving Inhabited

def AV.cells:AV→List AV
 |.agg cs=>cs
 |v=>[v]

def cellsOf:AV→Option (List AV)
 |.unk|.tup _=>none
 |.agg cs=>some cs
 |v=>some [v]

def AV.plain:AV→Bool
 |.unk|.tup _|.agg _=>false
 |_=>true

inductive Opnd where
 |tmp (t:Nat)
 |val (v:AV)
 |glob (g:Nat)
 deriving Inhabited

inductive EK where
 |nilI|nilF|bool|int
 |agg (s:List Bool)
 deriving Inhabited

inductive AK where
 |mov (x:Opnd)
 |pick (c a b:Opnd)
 |alloc (z:List AV)
 |box (x:Opnd)
 |build (z:List AV) (parts:List (Nat × Nat × Opnd))
 |buildSl (k len:Nat) (z:List AV) (parts:List (Nat × Opnd))
 |load (k:Option Nat) (a:Opnd)
 |store (k:Nat) (a x:Opnd)
 |nilck (x:Opnd)
 |nilckM (m:String) (tbl:List Nat) (x:Opnd)
 |bin (op:BinOp) (x y:Opnd)
 |eq (kind:EK) (neg:Bool) (x y:Opnd)
 |not (x:Opnd)
 |neg (x:Opnd)
 |conv (k:IntKind) (x:Opnd)
 |iface (t:Nat) (x:Opnd)
 |mkfn (f:Fn) (first captured:List Opnd)
 |mkmap
 |mksl (k:Nat) (z:List AV) (len cap:Opnd)
 |slice (k:Nat) (x:Opnd) (lo hi:Option Opnd)
 |fieldA (off:Nat) (x:Opnd)
 |fieldV (off:Nat) (k:Option Nat) (x:Opnd)
 |indexA (k:Nat) (arr:Option Nat) (x i:Opnd)
 |indexV (n step:Nat) (k:Option Nat) (x i:Opnd)
 |lookup (kn:EK) (ok:Bool) (z:AV) (m key:Opnd)
 |mapupd (kn:EK) (m key v:Opnd)
 |tassert (t:Nat) (z:AV) (x:Opnd)
 |extract (x:Opnd) (i:Nat)
 |len (x:Opnd)
 |append (k:Nat) (a b:Opnd)
 |copy (k:Nat) (a b:Opnd)
 |max (args:List Opnd)
 |min (args:List Opnd)
 |call (f:Opnd) (args:List Opnd)
 |invoke (x:Opnd) (tbl:List (Nat × Nat)) (args:List Opnd)
 |defer (f:Opnd) (args:List Opnd)
 |panic (x:Opnd)
 |isnil (neg:Bool) (x:Opnd)
 |sliceA (k n:Nat) (x:Opnd) (lo hi:Option Opnd)
 |mapent (kn:EK) (z:AV) (m key:Opnd)
 |entst (m s v:Opnd)
 deriving Inhabited

structure AOp where
 ix:Nat
 dst:Option Nat
 op:AK
 guard:Option (Nat × Bool)
 deps:Nat:=0
 deriving Inhabited

inductive AC where
 |skip
 |ops (l:List AOp)
 |draw (l:List AOp)
 |seq (a b:AC)
 |cond (c:Opnd) (a b:AC)
 |block (id:Nat) (c:AC)
 |loop (live:List Nat) (c:AC)
 |rangeF (g:Opnd) (params:List Nat) (assign body:AC)
 |exit (id:Nat)
 |ret
 deriving Inhabited

inductive AExit where
 |normal
 |exit (id:Nat)
 |ret
 |panic (v:AV)
 deriving Inhabited

inductive LSt where
 |ready|busy|done|exhausted
 deriving DecidableEq

structure ALoop where
 st:LSt
 pend:Option AExit
 tm:List AV
 params:List Nat
 assign:AC
 body:AC
 dfr:Nat

inductive AB where
 |cells (cs:List AV)
 |map (es:List (AV × AV))
 |loop (r:ALoop)
 |dfr
 |dead
 deriving Inhabited

inductive ADef where
 |mark (d:Nat)
 |call (f:Nat) (args:List AV)

structure St where
 tm:List AV
 df:List ADef
 hp:List AB
 tc:List Nat

inductive ARes where
 |tmp (t:Nat)
 |cell (t:Nat) (k:Option Nat)

structure AFunc where
 ntmps:Nat
 res:List ARes
 body:AC

inductive CRes where
 |ret (v:AV)
 |pan (v:AV)

structure Cfg where
 fns:Nat→Option AFunc
 glob:Nat→Option (List AV)
 /-- The deferred functions that turn a panic with a value of a type (true: a struct of one number) into an error. -/
 dfk:Nat→Option (Nat × Bool)
 /-- Functions that are told by what they come to. -/
 ext:Nat→Option (List AV→Option AV)
 /-- The same, by what lies in the heap. -/
 exth:Nat→Option (List AV→List AB→Option AV):=fun _=>none
 /-- So many blocks may lie about before what is no longer reached is dropped. -/
 gcAt:Nat:=0
 /-- Nothing is dropped. -/
 calm:Bool:=false
 /-- Does a call of a function see the whole heap? -/
 whole:Nat→Bool:=fun _=>false

mutual
def ren (σ:Nat→Option Nat):AV→AV
 |.ptr b off=>match σ b with|some j=>.ptr j off|none=>.unk
 |.sl b off n k=>match σ b with|some j=>.sl j off n k|none=>.unk
 |.map b=>match σ b with|some j=>.map j|none=>.unk
 |.yield b=>match σ b with|some j=>.yield j|none=>.unk
 |.stamp b i=>match σ b with|some j=>.stamp j i|none=>.unk
 |.fn f first captured=>.fn f (renL σ first) (renL σ captured)
 |.iface t v=>.iface t (ren σ v)
 |.agg cs=>.agg (renL σ cs)
 |.tup vs=>.tup (renL σ vs)
 |.unk=>.unk
 |.bool b=>.bool b
 |.int k n=>.int k n
 |.nilp=>.nilp
 |.rp cs=>.rp cs
 |.nils=>.nils
 |.vs k es=>.vs k es
 |.nilmap=>.nilmap
 |.nilfn=>.nilfn
 |.nilif=>.nilif
def renL (σ:Nat→Option Nat):List AV→List AV
 |[]=>[]
 |v::l=>ren σ v::renL σ l
end
def renE (σ:Nat→Option Nat):List (AV × AV)→List (AV × AV)
 |[]=>[]
 |(k,v)::l=>(ren σ k,ren σ v)::renE σ l
def renB (σ:Nat→Option Nat):AB→AB
 |.cells cs=>.cells (renL σ cs)
 |.map es=>.map (renE σ es)
 |.loop r=>match σ r.dfr with
  |some d=>.loop { r with tm:=renL σ r.tm,dfr:=d }
  |none=>.dead
 |.dfr=>.dfr
 |.dead=>.dead
def renD (σ:Nat→Option Nat):ADef→Option ADef
 |.mark d=>(σ d).map .mark
 |.call f args=>some (.call f (renL σ args))

def renDs (σ:Nat→Option Nat):List ADef→Option (List ADef)
 |[]=>some []
 |d::l=>match renD σ d,renDs σ l with
  |some d,some l=>some (d::l)
  |_,_=>none

mutual
def refs:AV→List Nat
 |.ptr b _=>[b]
 |.sl b _ _ _=>[b]
 |.map b=>[b]
 |.yield b=>[b]
 |.stamp b _=>[b]
 |.fn _ first captured=>refsL first++refsL captured
 |.iface _ v=>refs v
 |.agg cs=>refsL cs
 |.tup vs=>refsL vs
 |_=>[]
def refsL:List AV→List Nat
 |[]=>[]
 |v::l=>refs v++refsL l
end
def refsE:List (AV × AV)→List Nat
 |[]=>[]
 |(k,v)::l=>refs k++(refs v++refsE l)
def refsB:AB→List Nat
 |.cells cs=>refsL cs
 |.map es=>refsE es
 |.loop r=>r.dfr::refsL r.tm
 |_=>[]
def reach (H:List AB):Nat→List Nat→List Nat→List Nat
 |0,_,acc=>acc
 |_+1,[],acc=>acc
 |n+1,b::todo,acc=>if acc.contains b then reach H n todo acc else reach H n (refsB (H.getD b .dead)++todo) (acc++[b])
def fuelR:Nat:=10000
def place:List Nat→Nat→Option Nat
 |[],_=>none
 |x::l,b=>if x=b then some 0 else (place l b).map (·+1)
def restrict (H:List AB)(r:List Nat):List AB:=r.map fun i=>renB (place r) (H.getD i .dead)

def bitsI (op:BinOp)(k:IntKind)(x y:Int):Option Int:=
 match op with
 |.and=>some (k.wrap (BitVec.ofInt k.bits x&&&BitVec.ofInt k.bits y).toNat)
 |.or=>some (k.wrap (BitVec.ofInt k.bits x ||| BitVec.ofInt k.bits y).toNat)
 |.xor=>some (k.wrap (BitVec.ofInt k.bits x ^^^ BitVec.ofInt k.bits y).toNat)
 |.andNot=>some (k.wrap (BitVec.ofInt k.bits x&&&~~~ BitVec.ofInt k.bits y).toNat)
 |_=>none
def binI (op:BinOp)(k:IntKind)(x:Int)(yk:IntKind)(y:Int):Option AV:=
 match op with
 |.shl=>if y<0 then none else some (.int k (k.wrap (x * 2 ^ (min y.toNat k.bits))))
 |.shr=>if y<0 then none else some (.int k (x.fdiv (2 ^ (min y.toNat k.bits))))
 |.add=>if k=yk then some (.int k (k.wrap (x+y))) else none
 |.sub=>if k=yk then some (.int k (k.wrap (x - y))) else none
 |.mul=>if k=yk then some (.int k (k.wrap (x * y))) else none
 |.quo=>if k=yk then (if y=0 then none else some (.int k (k.wrap (x.tdiv y)))) else none
 |.rem=>if k=yk then (if y=0 then none else some (.int k (x.tmod y))) else none
 |.eql=>if k=yk then some (.bool (x==y)) else none
 |.neq=>if k=yk then some (.bool (x != y)) else none
 |.lss=>if k=yk then some (.bool (decide (x<y))) else none
 |.leq=>if k=yk then some (.bool (decide (x≤y))) else none
 |.gtr=>if k=yk then some (.bool (decide (x > y))) else none
 |.geq=>if k=yk then some (.bool (decide (x≥y))) else none
 |op=>if k=yk then (bitsI op k x y).map (.int k) else none
def aeqS:List Bool→List AV→List AV→Option Bool
 |[],[],[]=>some true
 |true::s,.int k a::l,.int k' b::m=>if k=k' then (aeqS s l m).map ((a==b)&&·) else none
 |false::s,.bool a::l,.bool b::m=>(aeqS s l m).map ((a==b)&&·)
 |_,_,_=>none
def aeqK:EK→AV→AV→Option Bool
 |.nilI,.nilif,.nilif=>some true
 |.nilI,.nilif,.iface _ _=>some false
 |.nilI,.iface _ _,.nilif=>some false
 |.nilF,.nilfn,.nilfn=>some true
 |.nilF,.nilfn,.fn _ _ _=>some false
 |.nilF,.fn _ _ _,.nilfn=>some false
 |.bool,.bool a,.bool b=>some (a==b)
 |.int,.int k a,.int k' b=>if k=k' then some (a==b) else none
 |.agg s,.agg l,.agg m=>aeqS s l m
 |_,_,_=>none
def setAt (cs:List AV)(off:Nat)(l:List AV):List AV:=cs.take off++l++cs.drop (off+l.length)
def fillA:List AV→List (Nat × Nat × AV)→Option (List AV)
 |cs,[]=>some cs
 |cs,(off,size,x)::rest=>match cellsOf x with
  |some l=>if l.length=size∧off+size≤cs.length then fillA (setAt cs off l) rest else none
  |none=>none
def pickC (k:Option Nat)(cs:List AV)(off:Nat):Option AV:=
 match k with
 |none=>cs[off]?
 |some k=>if off+k≤cs.length then some (.agg ((cs.drop off).take k)) else none
def keyOK:EK→AV→Bool
 |.int,.int _ _=>true
 |.bool,.bool _=>true
 |.agg s,.agg l=>l.length==s.length
 |_,_=>false
def findA (kn:EK)(key:AV):List (AV × AV)→Option (Option AV)
 |[]=>some none
 |(k,v)::l=>match aeqK kn key k with
   |some true=>some (some v)
   |some false=>findA kn key l
   |none=>none
def putA (kn:EK)(key v:AV):List (AV × AV)→Option (List (AV × AV))
 |[]=>some [(key,v)]
 |(k,u)::l=>match aeqK kn key k with
   |some true=>some ((key,v)::l)
   |some false=>(putA kn key v l).map ((k,u)::·)
   |none=>none
def entA (kn:EK)(key z:AV):List (AV × AV)→Option (AV × Nat × List (AV × AV))
 |[]=>some (z,0,[(key,z)])
 |(k,u)::l=>match aeqK kn key k with
   |some true=>some (u,0,(key,u)::l)
   |some false=>(entA kn key z l).map fun r=>(r.1,r.2.1+1,(k,u)::r.2.2)
   |none=>none
def elemCells:List AV→List AV
 |[]=>[]
 |e::l=>e.cells++elemCells l
def slCells (k:Nat)(H:List AB):AV→Option (List AV)
 |.nils=>some []
 |.vs k' es=>if k=k'∨es.isEmpty then some (elemCells es) else none
 | .sl b off n k' => if k = k' then (match H[b]? with
  |some (.cells cs)=>if off+n * k≤cs.length then some ((cs.drop off).take (n * k)) else none
  |_=>none) else none
 |_=>none
def slFt:AV→List Nat
 |.sl b _ _ _=>[b]
 |_=>[]
def maxK (k:IntKind):Int→List AV→Option AV
 |a,[]=>some (.int k a)
 |a,.int k' b::l=>if k=k' then maxK k (max a b) l else none
 |_,_=>none
def minK (k:IntKind):Int→List AV→Option AV
 |a,[]=>some (.int k a)
 |a,.int k' b::l=>if k=k' then minK k (min a b) l else none
 |_,_=>none
def maxA:List AV→Option AV
 |.int k a::l=>maxK k a l
 |_=>none
def minA:List AV→Option AV
 |.int k a::l=>minK k a l
 |_=>none

def bound:Nat:=1048576

def xnew (ρ:Opnd→AV):AK→Option (AB × (Nat→AV))
 |.alloc z=>some (.cells z,fun j=>.ptr j 0)
 |.box x=>some (.cells ((cellsOf (ρ x)).getD []),fun j=>.ptr j 0)
 |.buildSl k len z parts=>(fillA (List.replicate len z).flatten (parts.map fun p=>(p.1 * k,k,ρ p.2))).map fun cs=>(.cells cs,fun j=>.sl j 0 len k)
 |.mkmap=>some (.map [],fun j=>.map j)
 |.mksl k z len cap=>match ρ len,ρ cap with
  |.int _ n,.int _ m=>if 0≤n∧n≤m∧m≤bound then some (.cells (List.replicate n.toNat z).flatten,fun j=>.sl j 0 n.toNat k) else none
  |_,_=>none
 |_=>none

def alive (H:List AB)(b:Nat):Bool:=match H[b]? with
 |some .dead=>false
 |some _=>true
 |none=>false

def slLen (H:List AB):AV→Option Nat
 |.nils=>some 0
 |.vs _ es=>some es.length
 |.sl b _ n _=>if alive H b then some n else none
 |_=>none

def xval (H:List AB)(ρ:Opnd→AV):AK→Option (AV × List Nat)
 |.mov x=>some (ρ x,[])
 |.pick c a b=>match ρ c with
  | .bool t => (match ρ a, ρ b with
   |.bool x,.bool y=>some (.bool (bif t then x else y),[])
   |x,y=>some (bif t then x else y,[]))
  |_=>none
 |.build z parts=>(fillA z (parts.map fun p=>(p.1,p.2.1,ρ p.2.2))).map fun cs=>(.agg cs,[])
 |.load k a=>match ρ a with
  | .ptr b off => (match H[b]? with
   |some (.cells cs)=>(pickC k cs off).map fun v=>(v,[b])
   |_=>none)
  |.rp cs=>(pickC k cs 0).map fun v=>(v,[])
  |_=>none
 |.nilck x=>match ρ x with
  |.ptr b off=>if alive H b then some (.ptr b off,[b]) else none
  |.rp cs=>some (.rp cs,[])
  |.fn (.func f) a b=>some (.fn (.func f) a b,[])
  |_=>none
 |.nilckM m tbl x=>match ρ x with
  |.fn (.method m') [.iface t v] b=>if m'=m∧tbl.contains t=true then some (.fn (.method m') [.iface t v] b,[]) else none
  |_=>none
 |.bin op x y=>match ρ x,ρ y with
  |.int k a,.int k' b=>(binI op k a k' b).map fun v=>(v,[])
  |_,_=>none
 |.eq kind neg x y=>(aeqK kind (ρ x) (ρ y)).map fun b=>(.bool (bif neg then !b else b),[])
 |.not x=>match ρ x with
  |.bool b=>some (.bool !b,[])
  |_=>none
 |.neg x=>match ρ x with
  |.int k n=>some (.int k (k.wrap (0 - n)),[])
  |_=>none
 |.conv k x=>match ρ x with
  |.int _ n=>some (.int k (k.wrap n),[])
  |_=>none
 |.iface t x=>some (.iface t (ρ x),[])
 |.mkfn f first captured=>some (.fn f (first.map ρ) (captured.map ρ),[])
 |.slice k x lo hi=>match slLen H (ρ x),lo.elim (AV.int .i64 0) ρ,hi.elim (.int .i64 ((slLen H (ρ x)).getD 0)) ρ with
  |some n,.int _ l,.int _ h=>
   if 0≤l∧l≤h∧h≤n then
    (if h - l = 0 then some (.vs k [], slFt (ρ x)) else match ρ x with
     |.sl b off _ k'=>if k=k'∧alive H b=true then some (.sl b (off+l.toNat * k) (h - l).toNat k,[b]) else none
     |.vs k' es=>if k=k' then some (.vs k ((es.drop l.toNat).take (h - l).toNat),[]) else none
     |_=>none)
   else none
  |_,_,_=>none
 |.fieldA off x=>match ρ x with
  |.ptr b o=>if alive H b then some (.ptr b (o+off),[b]) else none
  |.rp cs=>some (.rp (cs.drop off),[])
  |_=>none
 |.fieldV off k x=>match ρ x with
  |.agg cs=>(pickC k cs off).map fun v=>(v,[])
  |_=>none
 |.indexA k arr x i=>match ρ i with
  | .int _ i => (match arr, ρ x with
   |some n,.ptr b o=>if 0≤i∧i<n∧alive H b=true then some (.ptr b (o+i.toNat * k),[b]) else none
   |some n,.rp cs=>if 0≤i∧i<n then some (.rp (cs.drop (i.toNat * k)),[]) else none
   |none,.sl b off n k'=>if 0≤i∧i<n∧k=k'∧alive H b=true then some (.ptr b (off+i.toNat * k),[b]) else none
   |none,.vs k' es=>if 0≤i∧i<es.length∧k=k' then some (.rp (es.getD i.toNat .unk).cells,[]) else none
   |_,_=>none)
  |_=>none
 |.indexV n step k x i=>match ρ x,ρ i with
  |.agg cs,.int _ i=>if 0≤i∧i<n then (pickC k cs (i.toNat * step)).map fun v=>(v,[]) else none
  |_,_=>none
 |.lookup kn ok z m key=>match ρ m with
  | .map b => (match H[b]? with
   | some (.map es) => if keyOK kn (ρ key) = true then (findA kn (ρ key) es).map (fun
    |some v=>(if ok then .tup [v,.bool true] else v,[b])
    |none=>(if ok then .tup [z,.bool false] else z,[b])) else none
   |_=>none)
  |_=>none
 |.tassert t z x=>match ρ x with
  |.iface t' v=>some (if t'=t then .tup [v,.bool true] else .tup [z,.bool false],[])
  |.nilif=>some (.tup [z,.bool false],[])
  |_=>none
 |.extract x i=>match ρ x with
  |.tup l=>l[i]?.map fun v=>(v,[])
  |_=>none
 |.len x=>(slLen H (ρ x)).map fun n=>(.int .i64 n,slFt (ρ x))
 |.max args=>(maxA (args.map ρ)).map fun v=>(v,[])
 |.min args=>(minA (args.map ρ)).map fun v=>(v,[])
 |.isnil neg x=>match ρ x with
  |.nils=>some (.bool !neg,[])
  |.vs _ (_::_)=>some (.bool neg,[])
  |.sl b _ _ _=>if alive H b then some (.bool neg,[b]) else none
  |_=>none
 |.sliceA k m x lo hi=>match ρ x,lo.elim (AV.int .i64 0) ρ,hi.elim (.int .i64 m) ρ with
  |.ptr b o,.int _ l,.int _ h=>
   if 0≤l∧l≤h∧h≤m then
    (match H[b]? with
    |some (.cells cs)=>if o+m * k≤cs.length then some (if h - l=0 then .vs k [] else .sl b (o+l.toNat * k) (h - l).toNat k,[b]) else none
    |_=>none)
   else none
  |_,_,_=>none
 |_=>none

structure XR where
 v:AV
 hp:List AB
 tc:List Nat

def xeff (H:List AB)(ρ:Opnd→AV):AK→Option XR
 |.store k a x=>match ρ a,cellsOf (ρ x) with
  | .ptr b off, some l => (match H[b]? with
   |some (.cells cs)=>if l.length=k∧off+l.length≤cs.length∧l.all AV.plain=true then some ⟨.unk,H.set b (.cells (setAt cs off l)),[b]⟩ else none
   |_=>none)
  |_,_=>none
 |.mapupd kn m key v=>match ρ m with
  | .map b => (match H[b]? with
   |some (.map es)=>if keyOK kn (ρ key)=true then (putA kn (ρ key) (ρ v) es).map (fun es=>⟨.unk,H.set b (.map es),[b]⟩) else none
   |_=>none)
  |_=>none
 |.mapent kn z m key=>match ρ m with
  | .map b => (match H[b]? with
   |some (.map es)=>if keyOK kn (ρ key)=true then (entA kn (ρ key) z es).map (fun r=>⟨.tup [r.1,.stamp b r.2.1],H.set b (.map r.2.2),[b]⟩) else none
   |_=>none)
  |_=>none
 |.entst m s v=>match ρ m,ρ s with
  | .map b, .stamp b' i => if b = b' then (match H[b]? with
   | some (.map es) => (match es[i]? with
    |some (k,_)=>some ⟨.unk,H.set b (.map (es.set i (k,ρ v))),[b]⟩
    |none=>none)
   |_=>none) else none
  |_,_=>none
 |.append k a b=>match slCells k H (ρ b),slLen H (ρ b) with
  | some news, some m => (match ρ a with
   |.nils=>if m=0 then some ⟨.nils,H,[]⟩ else if m≤bound then some ⟨.sl H.length 0 m k,H++[.cells news],[]⟩ else none
   | .sl b off n k' => if k = k' ∧ off = 0 then (match H[b]? with
    |some (.cells cs)=>if cs.length=n * k∧n+m≤bound∧news.all AV.plain=true then some ⟨.sl H.length 0 (n+m) k,H.set b .dead++[.cells (cs++news)],[b]⟩ else none
    |_=>none) else none
   |_=>none)
  |_,_=>none
 |.copy k a b=>match ρ a,slCells k H (ρ b),slLen H (ρ b) with
  | .sl d off n k', some src, some m => if k = k' then (match H[d]? with
   |some (.cells cs)=>if off+n * k≤cs.length∧src.all AV.plain=true then some ⟨.int .i64 (min m n:Nat),H.set d (.cells (setAt cs off (src.take (min m n * k)))),[d]⟩ else none
   |_=>none) else none
  |_,_,_=>none
 |_=>none

def spineK:AK→Bool
 |.store _ _ _|.mapupd _ _ _ _|.mapent _ _ _ _|.entst _ _ _|.append _ _ _|.copy _ _ _|.call _ _|.invoke _ _ _|.defer _ _|.panic _=>true
 |_=>false

abbrev CallF:=AV→List AV→List AB→Option (CRes × List AB × List Nat)

def val (C:Cfg)(tm:List AV):Opnd→AV
 |.tmp t=>tm.getD t .unk
 |.val v=>v
 |.glob g=>match C.glob g with|some cs=>.rp cs|none=>.unk

def putT (tm:List AV)(dst:Option Nat)(v:AV):List AV:=
 match dst with
 |some d=>tm.set d v
 |none=>tm

def apart (xs ys:List Nat):Bool:=xs.all fun x=>!ys.contains x

def spine (call:CallF)(ρ:Opnd→AV)(H:List AB):AK→Option (CRes × List AB × List Nat)
 |.panic x=>match ρ x with
  |.iface t v=>some (.pan (.iface t v),H,[])
  |_=>none
 |.defer _ _=>none
 |.call f args=>call (ρ f) (args.map ρ) H
 |.invoke x tbl args=>match ρ x with
  | .iface t v => (match tbl.lookup t with
   |some f=>call (.fn (.func f) [] []) (v::args.map ρ) H
   |none=>none)
  |_=>none
 |k=>(xeff H ρ k).map fun r=>(.ret r.v,r.hp,r.tc)

def float (ρ:Opnd→AV)(H:List AB)(k:AK):Option (AV × List AB × List Nat):=
 match xnew ρ k with
 |some (blk,mk)=>some (mk H.length,H++[blk],[H.length])
 |none=>match xval H ρ k with
  |some (v,ft)=>if ft.all (fun b=>decide (b<H.length)) then some (v,H,ft) else none
  |none=>none

inductive O1 where
 |next (ft:Option (List Nat)) (st:St)
 |pan (v:AV) (st:St)

def wantG (ρ:Opnd→AV):Option (Nat × Bool)→Option Bool
 |none=>some true
 |some (t,want)=>match ρ (.tmp t) with
  |.bool b=>some (b==want)
  |.tup []=>some false
  |_=>none

def ev1 (C:Cfg)(call:CallF)(pin:Nat)(nod drawn:Bool)(fl:List (Nat × List Nat))(o:AOp)(st:St):Option O1:=
 match wantG (val C st.tm) o.guard with
 |none=>none
 |some false=>some (.next none { st with tm:=putT st.tm o.dst (.tup []) })
 |some true=>match o.op with
  | .defer f args => (match val C st.tm f with
   |.fn (.func f) [] captured=>bif drawn || nod then none else some (.next none { st with df:=.call f ((args.map (val C st.tm))++captured)::st.df,tm:=putT st.tm o.dst .unk })
   |_=>none)
  | k => bif spineK k then (match spine call (val C st.tm) st.hp k with
      |some (.ret v,hp,tc)=>bif !drawn || fl.all (fun p=>o.deps.testBit p.1 || apart p.2 tc) then
        some (.next none { st with hp:=hp,tm:=putT st.tm o.dst v,tc:=tc.filter (·<pin)++st.tc }) else none
      |some (.pan v,hp,tc)=>bif !drawn || fl.all (fun p=>o.deps.testBit p.1 || apart p.2 tc) then
        some (.pan v { st with hp:=hp,tc:=tc.filter (·<pin)++st.tc }) else none
      |none=>none)
   else (match float (val C st.tm) st.hp k with
    |some (v,hp,ft)=>some (.next (some ft) { st with hp:=hp,tm:=putT st.tm o.dst v })
    |none=>none)

def addFl (ix:Nat)(ft:Option (List Nat))(fl:List (Nat × List Nat)):List (Nat × List Nat):=match ft with
 |some f=>(ix,f)::fl
 |none=>fl

def evOps (C:Cfg)(call:CallF)(pin:Nat)(nod drawn:Bool):List AOp→List (Nat × List Nat)→St→Option (Option AV × St)
 |[],_,st=>some (none,st)
 |o::l,fl,st=>match ev1 C call pin nod drawn fl o st with
  |some (.next ft st')=>evOps C call pin nod drawn l (addFl o.ix ft fl) st'
  |some (.pan v st')=>some (some v,st')
  |none=>none

def forget (dead:List Nat)(tm:List AV):List AV:=dead.foldl (fun tm t=>tm.set t .unk) tm
def keepT (live:List Nat)(tm:List AV):List AV:=live.foldl (fun acc t=>acc.set t (tm.getD t .unk)) (List.replicate tm.length .unk)

def gc (pin:Nat)(st:St):St:=
 let r:=reach st.hp fuelR (refsL st.tm++st.df.flatMap fun|.mark d=>[d]|.call _ args=>refsL args) (reach st.hp fuelR ((List.range pin).flatMap fun i=>refsB (st.hp.getD i .dead)) (List.range pin))
 match renDs (place r) st.df with
 |some df=>{ tm:=renL (place r) st.tm,df:=df,hp:=restrict st.hp r,tc:=st.tc }
 |none=>st

def gcC (C:Cfg)(pin:Nat)(st:St):St:=bif (C.calm || Nat.ble st.hp.length (pin+C.gcAt)) then st else gc pin st

def loopN (body:St→Option (AExit × St))(head:St→St):Nat→St→Option (AExit × St)
 |0,_=>none
 |n+1,st=>match body (head st) with
  |some (.normal,st')=>loopN body head n st'
  |r=>r

def fuelL:Nat:=1000000

def setParams (tm:List AV):List Nat→List AV→List AV
 |p::ps,a::as=>setParams (tm.set p a) ps as
 |_,_=>tm

def ev (C:Cfg)(call:CallF)(pin:Nat)(rd:Option Nat):AC→St→Option (AExit × St)
 |.skip,st=>some (.normal,st)
 |.ops l,st=>(evOps C call pin rd.isSome false l [] st).map fun
  |(none,st)=>(.normal,st)
  |(some v,st)=>(.panic v,st)
 |.draw l,st=>(evOps C call pin rd.isSome true l [] st).map fun
  |(none,st)=>(.normal,st)
  |(some v,st)=>(.panic v,{ st with tm:=forget (l.filterMap (·.dst)) st.tm })
 |.seq a b,st=>match ev C call pin rd a st with
  |some (.normal,st)=>ev C call pin rd b st
  |r=>r
 |.cond c a b,st=>match val C st.tm c with
  |.bool t=>bif t then ev C call pin rd a st else ev C call pin rd b st
  |_=>none
 |.block id c,st=>match ev C call pin rd c st with
  |some (.exit i,st)=>if i=id then some (.normal,st) else some (.exit i,st)
  |r=>r
 |.loop live c,st=>loopN (ev C call pin rd c) (fun st=>gcC C pin { st with tm:=keepT live st.tm }) fuelL st
 |.rangeF g ps as bd,st=>match val C st.tm g with
  |.fn (.func gf) first captured=>
   let d:Option (Nat × List AB × List ADef):=match rd with
    |none=>some (st.hp.length,st.hp++[.dfr],.mark st.hp.length::st.df)
    | some l => (match st.hp[l]? with
     |some (.loop r)=>some (r.dfr,st.hp,st.df)
     |_=>none)
   match d with
   | some (d, hp, df) => (match call (.fn (.func gf) first captured) [.yield hp.length] (hp ++ [.loop ⟨.ready, none, st.tm, ps, as, bd, d⟩]) with
    | some (.ret _, hp', tc) => (match hp'[hp.length]? with
     |some (.loop r)=>if r.st=.busy then none else some (r.pend.getD .normal,{ st with df:=df,hp:=hp'.set hp.length .dead,tc:=tc.filter (·<pin)++st.tc })
     |_=>none)
    |some (.pan v,hp',tc)=>some (.panic v,{ st with df:=df,hp:=hp',tc:=tc.filter (·<pin)++st.tc })
    |none=>none)
   |none=>none
  |_=>none
 |.exit id,st=>some (.exit id,st)
 |.ret,st=>some (.ret,st)

def codeOf:Bool→AV→Option AV
 |false,.int k n=>some (.int k n)
 |true,.agg [.int k n]=>some (.int k n)
 |_,_=>none

def runDefs (C:Cfg)(pin:Nat):List ADef→Option AV→St→Option (Option AV × St)
 |[],p,st=>some (p,st)
 |.mark d::l,p,st=>match st.hp[d]? with
  |some .dfr=>runDefs C pin l p { st with hp:=st.hp.set d .dead,tc:=[d].filter (·<pin)++st.tc }
  |_=>none
 |.call f args::l,p,st=>match C.dfk f,args with
  | some (t, ag), [.ptr b off] => (match p with
   |none=>runDefs C pin l none st
   | some (.iface t' v) => (match codeOf ag v, st.hp[b]? with
    |some c,some (.cells cs)=>if t'=t∧off<cs.length then runDefs C pin l none { st with hp:=st.hp.set b (.cells (setAt cs off [c])),tc:=[b].filter (·<pin)++st.tc } else none
    |_,_=>none)
   |_=>none)
  |_,_=>none

def resOf (st:St):ARes→Option AV
 |.tmp t=>some (st.tm.getD t .unk)
 |.cell t k=>match st.tm.getD t .unk with
  | .ptr b off => (match st.hp[b]? with
   |some (.cells cs)=>pickC k cs off
   |_=>none)
  |_=>none
def resL (st:St):List ARes→Option (List AV)
 |[]=>some []
 |r::l=>match resOf st r,resL st l with
  |some v,some vs=>some (v::vs)
  |_,_=>none
def resV:List AV→AV
 |[v]=>v
 |vs=>.tup vs

def finish (C:Cfg)(pin:Nat)(fn:AFunc):AExit→St→Option (CRes × St)
 | .normal, st | .ret, st => (match runDefs C pin st.df none st with
  |some (none,st)=>(resL st fn.res).map fun vs=>(.ret (resV vs),st)
  |_=>none)
 | .panic v, st => (match runDefs C pin st.df (some v) st with
  |some (none,st)=>(resL st fn.res).map fun vs=>(.ret (resV vs),st)
  |some (some v,st)=>some (.pan v,st)
  |none=>none)
 |_,_=>none

def CRes.val:CRes→AV
 |.ret v=>v
 |.pan v=>v
def CRes.map (f:AV→AV):CRes→CRes
 |.ret v=>.ret (f v)
 |.pan v=>.pan (f v)

def tidy (pin:Nat)(x:CRes)(hp:List AB):CRes × List AB:=
 let r:=reach hp fuelR (refs x.val) (reach hp fuelR ((List.range pin).flatMap fun i=>refsB (hp.getD i .dead)) (List.range pin))
 (x.map (ren (place r)),restrict hp r)

def tidyC (C:Cfg)(pin:Nat)(x:CRes)(hp:List AB):CRes × List AB:=bif (C.calm || Nat.ble hp.length (pin+C.gcAt)) then (x,hp) else tidy pin x hp

def bareQ (v:AV)(tc:List Nat):Bool:=tc.isEmpty&&(refs v).isEmpty

def overH (H:List AB)(hp:List AB):List Nat→List AB
 |[]=>H
 |j::tc=>(overH H hp tc).set j (hp.getD j .dead)

def backN (N:Nat)(r:List Nat)(j:Nat):Option Nat:=
 match r[j]? with
 |some i=>some i
 |none=>some (N+(j - r.length))
def backH (H:List AB)(r:List Nat)(hp:List AB):List Nat→List AB
 |[]=>H
 |j::tc=>(backH H r hp tc).set (r.getD j H.length) (renB (backN H.length r) (hp.getD j .dead))

def enter (C:Cfg)(call:CallF)(f:Nat)(args:List AV)(H:List AB):Option (CRes × List AB × List Nat):=
 match C.ext f with
 |some g=>(g args).map fun v=>(.ret v,H,[])
 |none=>
 match C.exth f with
 |some g=>(g args H).map fun v=>(.ret v,H,[])
 |none=>
 match C.fns f with
 |none=>none
 |some fn=>
  bif C.whole f then
   (match ev C call H.length none fn.body { tm := args ++ List.replicate (fn.ntmps - args.length) .unk, df := [], hp := H, tc := [] } with
   | some (e, st) => (match finish C H.length fn e st with
    |some (x,st)=>
     bif bareQ x.val st.tc then some (x,H,[]) else
     let (x,hp):=tidyC C H.length x st.hp
     some (x,overH H hp st.tc++hp.drop H.length,st.tc)
    |none=>none)
   |none=>none)
  else
  let r:=reach H fuelR (refsL args) []
  match ev C call r.length none fn.body { tm:=renL (place r) args++List.replicate (fn.ntmps - args.length) .unk,df:=[],hp:=restrict H r,tc:=[] } with
  | some (e, st) => (match finish C r.length fn e st with
   |some (x,st)=>
    let (x,hp):=tidy r.length x st.hp
    some (x.map (ren (backN H.length r)),backH H r hp st.tc++(hp.drop r.length).map (renB (backN H.length r)),st.tc.map fun j=>r.getD j H.length)
   |none=>none)
  |none=>none

def round (C:Cfg)(call:CallF)(l:Nat)(args:List AV)(H:List AB):Option (CRes × List AB × List Nat):=
 match H[l]? with
 |some (.loop r)=>
  if r.st=.ready∧args.length=r.params.length then
   match ev C call H.length (some l) r.assign { tm:=setParams r.tm r.params args,df:=[],hp:=H,tc:=[] } with
   | some (.normal, st) => (match st.hp[l]? with
    | some (.loop r1) => if r1.st = .ready then (match ev C call H.length (some l) r.body { st with hp := st.hp.set l (.loop { r1 with st := .busy }), tc := l :: st.tc } with
     | some (e, st) => (match e, st.hp[l]? with
      |.panic _,_=>none
      |e,some (.loop r2)=>
       let p:Option AExit:=match e with|.normal=>none|e=>some e
       let hp:=st.hp.set l (.loop { r2 with st:=if p.isNone then .ready else .done,pend:=p })
       let (x,hp):=tidyC C H.length (.ret (.bool p.isNone)) hp
       some (x,overH H hp (l::st.tc)++hp.drop H.length,l::st.tc)
      |_,_=>none)
     |none=>none) else none
    |_=>none)
   |_=>none
  else none
 |_=>none

def call (C:Cfg):Nat→CallF
 |0,_,_,_=>none
 |n+1,f,args,H=>match f with
  |.fn (.func f) first captured=>enter C (call C n) f (first++args++captured) H
  |.yield l=>round C (call C n) l args H
  |_=>none

inductive FT where
 |leaf
 |node (k:Nat) (f:AFunc) (l r:FT)
noncomputable def FT.find:FT→Nat→Option AFunc:=fun t=>FT.rec (motive:=fun _=>Nat→Option AFunc) (fun _=>none) (fun k f _ _ ihl ihr n=>Bool.rec (Bool.rec (ihr n) (ihl n) (Nat.ble (Nat.succ n) k)) (some f) (Nat.beq n k)) t
def Zt (n:Nat):Opnd:=.tmp n
def Zn (n:Int):Opnd:=.val (.int .i64 n)
def Zi (n:Int):AV:=.int .i64 n
def Zc (f:Nat)(l:List Opnd):AK:=.call (.val (.fn (Fn.func f) [] [])) l
def Zo (i d:Nat)(k:AK):AOp:=⟨i,some d,k,none,0⟩
def Zs (i:Nat)(k:AK):AOp:=⟨i,none,k,none,0⟩
def Zd (i d q:Nat)(k:AK):AOp:=⟨i,some d,k,none,q⟩
def Ze (i q:Nat)(k:AK):AOp:=⟨i,none,k,none,q⟩
def Zm (i d t:Nat):AOp:=⟨i,some d,.mov (.tmp t),none,0⟩
def Zl (i d t:Nat):AOp:=⟨i,some d,.load none (.tmp t),none,0⟩
def Zq (l:List AOp)(c:AC):AC:=.seq (.ops l) c
def Zr (l:List AOp)(c:AC):AC:=.seq (.draw l) c
def Zu (t:Nat)(a b:AC):AC:=.cond (.tmp t) a b
def Zh (i d g q:Nat)(k:AK):AOp:=⟨i,some d,k,some (g,true),q⟩
def Zk (i d g q:Nat)(k:AK):AOp:=⟨i,some d,k,some (g,false),q⟩
def Za (o:BinOp)(s t:Nat):AK:=.bin o (.tmp s) (.tmp t)
def Zb (o:BinOp)(t:Nat)(n:Int):AK:=.bin o (.tmp t) (.val (.int .i64 n))
def Zf (k t:Nat):AK:=.fieldA k (.tmp t)
def Zg (k t:Nat):AK:=.load (some k) (.tmp t)
def Zx (t k:Nat):AK:=.extract (.tmp t) k
def Zj (k s t:Nat):AK:=.indexA k none (.tmp s) (.tmp t)
def Zy:Opnd:=.val (.bool false)
def Zw:Opnd:=.val (.bool true)
def globA:Nat→Option (List AV):=fun _=>none

def cstA:Value→Option AV
 |.bool b=>some (.bool b)
 |.int k n=>some (.int k n)
 |.pointer none=>some .nilp
 |.slice none 0 0=>some .nils
 |.map none=>some .nilmap
 |.nilFunc=>some .nilfn
 |.nilIface=>some .nilif
 |_=>none
def cstL:List Value→Option (List AV)
 |[]=>some []
 |v::l=>match cstA v,cstL l with
  |some a,some as=>some (a::as)
  |_,_=>none
def opnd:Operand→Option Opnd
 |.tmp t=>some (.tmp t)
 |.const (.agg cs)=>(cstL cs.toList).map fun l=>.val (.agg l)
 |.const v=>(cstA v).map .val
 |.global g=>(globA g).map fun cs=>.val (.rp cs)
 |.func f=>some (.val (.fn (.func f) [] []))
def opndL:List Operand→Option (List Opnd)
 |[]=>some []
 |v::l=>match opnd v,opndL l with
  |some a,some as=>some (a::as)
  |_,_=>none

section
variable (P:Program)
def sizeT (t:Nat):Option Nat:=(P.info? t).map (·.size)
def formT (t:Nat):Option (Option Nat):=match P.underlying t with
 |some (.struct _)|some (.array _ _)=>(sizeT P t).map some
 |some _=>if sizeT P t=some 1 then some none else none
 |none=>none
def zeroT (t:Nat):Option (List AV):=match P.info? t with
 |some i=>match i.zero with
  |some z=>cstL z.cells.toList
  |none=>none
 |none=>none
def zeroV (t:Nat):Option AV:=match P.info? t with
 |some i=>match i.zero with
  |some (.agg cs)=>(cstL cs.toList).map .agg
  |some z=>cstA z
  |none=>none
 |none=>none
def fieldsT (t:Nat):Option (List Field):=match P.underlying t with
 |some (.struct fs)=>some fs.toList
 |_=>none
def flatF (flat:Nat→Option (List Bool)):Nat→List Field→Option (List Bool)
 |_,[]=>some []
 |off,f::l=>if f.name≠ "_" ∧ f.offset=off then
   (match flat f.type with
   |some s=>(flatF flat (off+s.length) l).map (s++·)
   |_=>none)
  else none
def flatT:Nat→Nat→Option (List Bool)
 |0,_=>none
 |d+1,t=>match P.underlying t with
  | some (.struct fs) => if P.stoodInHeld t then none else (match flatF (flatT d) 0 fs.toList with
   |some s=>if sizeT P t=some s.length then some s else none
   |none=>none)
  |some (.int _)=>if sizeT P t=some 1 then some [true] else none
  |some .bool=>if sizeT P t=some 1 then some [false] else none
  | some (.array n e) => (match flatT d e with
   |some s=>if sizeT P t=some (n * s.length)∧sizeT P e=some s.length then some (List.replicate n s).flatten else none
   |none=>none)
  |_=>none
def keyT (t:Nat):Option EK:=match P.underlying t with
 |some (.int _)=>some .int
 |some .bool=>some .bool
 |some (.struct _)=>(flatT P 5 t).map .agg
 |_=>none
def partsOf (places:Nat→Option (Nat × Nat)):List (Nat × Operand)→Option (List (Nat × Nat × Opnd))
 |[]=>some []
 |(i,x)::l=>match places i,opnd x,partsOf places l with
   |some (off,size),some x,some l=>some ((off,size,x)::l)
   |_,_,_=>none
def partsS:List (Nat × Operand)→Option (List (Nat × Opnd))
 |[]=>some []
 |(i,x)::l=>match opnd x,partsS l with
   |some x,some l=>some ((i,x)::l)
   |_,_=>none
def isNeq:BinOp→Bool
 |.neq=>true
 |_=>false
def isNil:Operand→Bool
 |.const .nilIface|.const .nilFunc=>true
 |_=>false
def isNilS:Operand→Bool
 |.const (.slice none 0 0)=>true
 |_=>false
def intT (t:Nat):Bool:=match P.underlying t with
 |some (.int _)=>true
 |_=>false
def methodOf (name:String)(t:Nat):Option Nat:=match P.info? t with
 |some i=>match i.methods.find? (·.name==name) with
  |some m=>match m.func with
   |some (f,ptr)=>if m.path.isEmpty&&(match P.underlying t with|some (.pointer _)=>ptr|some _=>!ptr|none=>false) then some f else none
   |none=>none
  |none=>none
 |none=>none
def methodTbl (name:String):Nat→List (Nat × Nat)
 |0=>[]
 |t+1=>match methodOf P name t with
  |some f=>(t,f)::methodTbl name t
  |none=>methodTbl name t

def slElem (t:Nat):Option (Nat × Nat × Nat):=match P.underlying t with
 |some (.slice e)=>match P.info? e with
  |some i=>some (e,i.size,i.bytes)
  |none=>none
 |_=>none

def compOp (o:Oper):Option AK:=
 match o.op with
 |.move x|.assign x=>(opnd x).map .mov
 |.pick c a b=>match opnd c,opnd a,opnd b with
  |some c,some a,some b=>some (.pick c a b)
  |_,_,_=>none
 |.alloc t=>(zeroT P t).map .alloc
 |.box _ x=>(opnd x).map .box
 |.build t parts=>match zeroT P t,P.underlying t with
  | some z, some (.struct fs) => (match fs.toList.mapM (fun f => (P.info? f.type).map fun i => (f.offset, i.size)) with
   |some places=>(partsOf (fun i=>places[i]?) parts.toList).map (.build z)
   |none=>none)
  | some z, some (.array _ e) => (match sizeT P e with
   |some s=>(partsOf (fun i=>some (i * s,s)) parts.toList).map (.build z)
   |none=>none)
  |_,_=>none
 |.buildSlice t len parts=>match slElem P t with
  | some (e, k, _) => (match zeroT P e, partsS parts.toList with
   |some z,some ps=>if len * k≤4096∧z.length=k∧0<k then some (.buildSl k len z ps) else none
   |_,_=>none)
  |none=>none
 |.load t a=>match formT P t,opnd a with
  |some k,some a=>some (.load k a)
  |_,_=>none
 |.store t a x=>match sizeT P t,opnd a,opnd x with
  |some k,some a,some x=>some (.store k a x)
  |_,_,_=>none
 |.nilCheck x=>(opnd x).map .nilck
 |.binOp op t x y _=>match opnd x,opnd y with
  |some a,some b=>
   if intT P t then some (.bin op a b) else
   (match op with
   |.eql|.neq=>
    (match P.underlying t with
    |some .bool=>some (.eq .bool (isNeq op) a b)
    | some (.struct _) => (match flatT P 5 t with
     |some s=>if P.eqGuardType P.depth t=false then some (.eq (.agg s) (isNeq op) a b) else none
     |_=>none)
    |some (.interface _)=>if isNil x || isNil y then some (.eq .nilI (isNeq op) a b) else none
    |some (.func _ _ _)=>if isNil x || isNil y then some (.eq .nilF (isNeq op) a b) else none
    |some (.slice _)=>if isNilS y then some (.isnil (isNeq op) a) else none
    |_=>none)
   |_=>none)
  |_,_=>none
 |.unOp .not _ x=>(opnd x).map .not
 |.unOp .neg _ x=>(opnd x).map .neg
 |.convert s d x=>match P.underlying s,P.underlying d,opnd x with
  |some (.int _),some (.int k),some x=>some (.conv k x)
  |_,_,_=>none
 |.makeInterface t x=>match P.underlying t,opnd x with
  |some (.interface _),_=>none
  |some _,some x=>some (.iface t x)
  |_,_=>none
 |.makeFunc fn first captured=>match fn,opndL first.toList,opndL captured.toList with
  |.func f,some a,some b=>some (.mkfn (.func f) a b)
  |.method m,some a,some b=>some (.mkfn (.method m) a b)
  |_,_,_=>none
 |.makeMap _ none=>some .mkmap
 |.makeSlice t len cap=>match slElem P t with
  | some (e, k, bytes) => (match zeroT P e, opnd len, opnd cap with
   |some z,some l,some c=>if z.length=k∧0<k∧bytes≤134217728 then some (.mksl k z l c) else none
   |_,_,_=>none)
  |none=>none
 |.slice t x lo hi none=>match P.underlying t with
  | some (.array n e) => (match sizeT P e, opnd x, lo.elim (some none) (fun l => (opnd l).map some), hi.elim (some none) (fun l => (opnd l).map some) with
   |some (k+1),some x,some lo,some hi=>some (.sliceA (k+1) n x lo hi)
   |_,_,_,_=>none)
  | _ => (match slElem P t, opnd x, lo.elim (some none) (fun l => (opnd l).map some), hi.elim (some none) (fun l => (opnd l).map some) with
   |some (_,k,_),some x,some lo,some hi=>if 0<k then some (.slice k x lo hi) else none
   |_,_,_,_=>none)
 |.fieldAddr t x f=>match fieldsT P t,opnd x with
  | some fs, some x => (match fs[f]? with
   | some f => (match sizeT P f.type with
    |some (_+1)=>some (.fieldA f.offset x)
    |_=>none)
   |none=>none)
  |_,_=>none
 |.field t x f=>match fieldsT P t,opnd x with
  | some fs, some x => (match fs[f]? with
   |some f=>(formT P f.type).map fun k=>.fieldV f.offset k x
   |none=>none)
  |_,_=>none
 |.indexAddr t x i=>match P.underlying t,opnd x,opnd i with
  | some (.slice e), some x, some i => (match sizeT P e with
   |some (k+1)=>some (.indexA (k+1) none x i)
   |_=>none)
  | some (.array n e), some x, some i => (match sizeT P e with
   |some (k+1)=>some (.indexA (k+1) (some n) x i)
   |_=>none)
  |_,_,_=>none
 |.index t x i=>match P.underlying t,opnd x,opnd i with
  | some (.array n e), some x, some i => (match sizeT P e, formT P e with
   |some s,some k=>some (.indexV n s k x i)
   |_,_=>none)
  |_,_,_=>none
 |.lookup t m key ok=>match P.underlying t,opnd m,opnd key with
  |some (.map k e),some m,some key=>match keyT P k with|some kn=>(zeroV P e).map fun z=>.lookup kn ok z m key|none=>none
  |_,_,_=>none
 |.mapUpdate t m key v=>match P.underlying t,opnd m,opnd key,opnd v with
  |some (.map k _),some m,some key,some v=>match keyT P k with|some kn=>some (.mapupd kn m key v)|none=>none
  |_,_,_,_=>none
 |.mapEntry t m key=>match P.underlying t,opnd m,opnd key with
  |some (.map k e),some m,some key=>(match keyT P k,zeroV P e with|some kn,some z=>some (.mapent kn z m key)|_,_=>none)
  |_,_,_=>none
 |.entryStore _ m s v=>match opnd m,opnd s,opnd v with
  |some m,some s,some v=>some (.entst m s v)
  |_,_,_=>none
 |.typeAssert x _ t true=>match P.underlying t,zeroV P t,opnd x with
  |some (.interface _),_,_=>none
  |some _,some z,some x=>some (.tassert t z x)
  |_,_,_=>none
 |.extract x i=>(opnd x).map fun x=>.extract x i
 |.call c=>match c.callee with
  | .value f => (match opnd f, opndL c.args.toList with
   |some f,some args=>some (.call f args)
   |_,_=>none)
  | .invoke x name => (match opnd x, opndL c.args.toList with
   |some x,some args=>some (.invoke x (methodTbl P name P.types.size) args)
   |_,_=>none)
  | .builtin b => (match b, c.args.toList, c.argTypes.toList with
   | .len, [x], [t] => (match P.underlying t, opnd x with
    |some (.slice _),some x=>some (.len x)
    |_,_=>none)
   | .append, [x, y], [t, u] => (match slElem P t, slElem P u, opnd x, opnd y with
    |some (e,k,bytes),some _,some x,some y=>if 0<k∧bytes≤134217728∧t=u∧((zeroT P e).map (·.length))=some k then some (.append k x y) else none
    |_,_,_,_=>none)
   | .copy, [x, y], [t, u] => (match slElem P t, slElem P u, opnd x, opnd y with
    |some (e,k,_),some (e',_,_),some x,some y=>if 0<k∧e=e' then some (.copy k x y) else none
    |_,_,_,_=>none)
   |.max,args,_=>(opndL args).map .max
   |.min,args,_=>(opndL args).map .min
   |_,_,_=>none)
 |.defer c=>match c.callee with
  | .value f => (match opnd f, opndL c.args.toList with
   |some f,some args=>some (.defer f args)
   |_,_=>none)
  |_=>none
 |.panic x=>(opnd x).map .panic
 |_=>none

def compGuard (ops:Array Oper)(o:Oper):Option (Option (Nat × Bool)):=match o.guard with
 |none=>some none
 |some (j,want)=>match (ops[j]?).bind (·.dst) with
  |some t=>some (some (t,want))
  |none=>none

def methAt (ops:Array Oper)(t:Nat):Option String:=ops.toList.findSome? fun o=>match o.op with
 |.makeFunc (.method m) _ _=>if o.dst=some t then some m else none
 |_=>none
def compOpM (ops:Array Oper)(o:Oper):Option AK:=match o.op with
 | .nilCheck (.tmp t) => (match methAt ops t with
  |some m=>some (.nilckM m ((methodTbl P m P.types.size).map (·.1)) (.tmp t))
  |none=>compOp P o)
 |_=>compOp P o
def compAt (ops:Array Oper)(b:Array Nat)(i:Nat):Option AOp:=match ops[i]? with
 |none=>none
 |some o=>match compOpM P ops o,compGuard ops o with
  |some k,some g=>some { ix:=i,dst:=o.dst,op:=k,guard:=g,deps:=b.getD i 0 }
  |_,_=>none
def compOps (ops:Array Oper)(b:Array Nat):List Nat→Option (List AOp)
 |[]=>some []
 |i::l=>match compAt P ops b i,compOps ops b l with
  |some o,some os=>some (o::os)
  |_,_=>none

def greedy (ops:List AOp):Nat→List AOp→List AOp→Nat→Option (List AOp)
 |0,[],acc,_=>some acc.reverse
 |0,_::_,_,_=>none
 |n+1,todo,acc,done=>
  match todo with
  |[]=>some acc.reverse
  |_=>
   let ready:=fun o:AOp=>o.deps&&&done==o.deps
   match todo.find? (fun o=>!spineK o.op&&ready o) with
   |some o=>greedy ops n (todo.filter (·.ix != o.ix)) (o::acc) (done ||| 2 ^ o.ix)
   |none=>match todo.find? ready with
    |some o=>greedy ops n (todo.filter (·.ix != o.ix)) (o::acc) (done ||| 2 ^ o.ix)
    |none=>none

def tmpsO:Opnd→List Nat
 |.tmp t=>[t]
 |_=>[]
def tmpsL:List Opnd→List Nat
 |[]=>[]
 |x::l=>tmpsO x++tmpsL l
def AK.tmps:AK→List Nat
 |.mov x|.box x|.load _ x|.nilck x|.nilckM _ _ x|.not x|.neg x|.conv _ x|.iface _ x|.fieldA _ x|.fieldV _ _ x|.tassert _ _ x|.extract x _|.len x|.panic x|.isnil _ x=>tmpsO x
 |.pick a b c=>tmpsO a++tmpsO b++tmpsO c
 |.alloc _|.mkmap=>[]
 |.build _ ps=>ps.flatMap fun p=>tmpsO p.2.2
 |.buildSl _ _ _ ps=>ps.flatMap fun p=>tmpsO p.2
 |.store _ a b|.bin _ a b|.eq _ _ a b|.mksl _ _ a b|.indexA _ _ a b|.indexV _ _ _ a b|.lookup _ _ _ a b|.append _ a b|.copy _ a b=>tmpsO a++tmpsO b
 |.mapent _ _ a b=>tmpsO a++tmpsO b
 |.mapupd _ a b c|.entst a b c=>tmpsO a++tmpsO b++tmpsO c
 |.mkfn _ a b=>tmpsL a++tmpsL b
 |.slice _ x lo hi|.sliceA _ _ x lo hi=>tmpsO x++lo.elim [] tmpsO++hi.elim [] tmpsO
 |.max l|.min l=>tmpsL l
 |.call f l|.defer f l=>tmpsO f++tmpsL l
 |.invoke x _ l=>tmpsO x++tmpsL l
def AOp.names (o:AOp):List Nat:=o.dst.toList++o.op.tmps++(match o.guard with|some (t,_)=>[t]|none=>[])

def okPair (p o:AOp):Bool:=
 -- what an operation hangs on lies before
 !p.deps.testBit o.ix&&p.ix != o.ix &&
 -- whoever writes a temporary, and whoever reads it, are in order
 (o.deps.testBit p.ix || ((match p.dst with|some t=>!o.names.contains t|none=>true)&&(match o.dst with|some t=>!p.names.contains t|none=>true))) &&
 -- each lays its own
 (match p.dst with|some t=>o.dst != some t|none=>true) &&
 -- what stands behind one of the spine hangs on it
 (!spineK p.op || o.deps.testBit p.ix)
def okDraw:Nat→List AOp→List AOp→Bool
 |_,_,[]=>true
 |done,acc,o::l=>acc.all (okPair · o)&&(o.deps&&&done==o.deps)&&okDraw (done ||| 2 ^ o.ix) (o::acc) l

def dead:AC:=.cond (.val .nilp) .skip .skip

def compCode:Code→Option AC
 |.skip=>some .skip
 |.region _ ops false=>match compOps P ops #[] (List.range ops.size) with
  |some l=>some (.ops l)
  |none=>some dead
 |.region _ ops true=>match compOps P ops (Region.before ops) (List.range ops.size) with
  | some l => (match greedy l ops.size l [] 0 with
   |some l=>if okDraw 0 [] l=true∧((List.range ops.size).all fun i=>l.any (·.ix==i))=true∧P.follows .mixedOrders=true then some (.draw l) else none
   |none=>some dead)
  |none=>some dead
 |.seq a b=>match compCode a,compCode b with
  |some a,some b=>some (.seq a b)
  |_,_=>none
 |.cond c a b=>match opnd c,compCode a,compCode b with
  |some c,some a,some b=>some (.cond c a b)
  |_,_,_=>none
 |.block id c=>(compCode c).map (.block id)
 |.loop c=>(compCode c).map (.loop [])
 |.rangeFunc g ps a b=>match opnd g,compCode a,compCode b with
  |some g,some a,some b=>some (.rangeF g ps.toList a b)
  |_,_,_=>none
 |.exit id=>some (.exit id)
 |.label _=>some .skip
 |.scope c=>compCode c
 |.ret=>some .ret
 |_=>none

def compRes:List ResultVar→Option (List ARes)
 |[]=>some []
 |.tmp t::l=>(compRes l).map (.tmp t::·)
 |.cell a t::l=>match formT P t,compRes l with
  |some k,some l=>some (.cell a k::l)
  |_,_=>none

def compFn (fn:Func):Option AFunc:=match fn.body,compRes P fn.results.toList with
 |some c,some r=>(compCode P c).map fun c=>{ ntmps:=fn.ntmps,res:=r,body:=c }
 |_,_=>none
end

def strip:AC→AC
 |.seq a b=>.seq (strip a) (strip b)
 |.cond c a b=>.cond c (strip a) (strip b)
 |.block id c=>.block id (strip c)
 |.loop _ c=>.loop [] (strip c)
 |.rangeF g ps a b=>.rangeF g ps (strip a) (strip b)
 |c=>c

def AFunc.strip (f:AFunc):AFunc:={ f with body:=Ev.strip f.body }

inductive MR where
 |no|dead|at (B:Nat)
abbrev Mu:=Nat→MR
def nomu:Mu:=fun _=>.no

def headRef:AV→Option Nat
 |.ptr b _=>some b
 |.sl b _ _ _=>some b
 |.map b=>some b
 |.yield b=>some b
 |.stamp b _=>some b
 |_=>none

def bornAt (es:Array MapEntry)(n:Int):Option Nat:=es.findIdx? fun e=>(e.born:Int)==n

inductive VR (W:World) (L:Nat→Prop):Mu→AV→Value→Prop
 |unk {μ x}:VR W L μ .unk x
 |dead {μ v x b}:headRef v=some b→μ b=.dead→x.oneCell'=true→VR W L μ v x
 |bool {μ b}:VR W L μ (.bool b) (.bool b)
 |int {μ k n}:VR W L μ (.int k n) (.int k n)
 |nilp {μ}:VR W L μ .nilp (.pointer none)
 |ptr {μ b off B}:μ b=.at B→VR W L μ (.ptr b off) (.pointer (some ⟨B,off,none⟩))
 |rp {μ b o} {cs:List AV} (rs:Nat→Value):(∀ (j:Nat) (x:AV),cs[j]?=some x→¬ L b∧W.cell? ⟨b,o+j,none⟩=some (rs j))→(∀ (j:Nat) (x:AV),cs[j]?=some x→VR W L nomu x (rs j))→VR W L μ (.rp cs) (.pointer (some ⟨b,o,none⟩))
 |nils {μ}:VR W L μ .nils (.slice none 0 0)
 |sl {μ b off n k B cap} {rs:Array Value} {t:TypeId}:μ b=.at B→n≤cap→W.heap[B]?=some (.cells rs t (0,0))→off+cap * k≤rs.size→VR W L μ (.sl b off n k) (.slice (some ⟨B,off,none⟩) n cap)
 |vs {μ k b o cap} {es:List AV} (rs:Nat→Nat→Value):es.length≤cap→(∀ (i:Nat) (e:AV),es[i]?=some e→e.cells.length=k) →
     (∀ (i:Nat) (e:AV) (j:Nat) (x:AV),es[i]?=some e→e.cells[j]?=some x→¬ L b∧W.cell? ⟨b,o+i * k+j,none⟩=some (rs i j))→(∀ (i:Nat) (e:AV) (j:Nat) (x:AV),es[i]?=some e→e.cells[j]?=some x→VR W L nomu x (rs i j)) →
     VR W L μ (.vs k es) (.slice (some ⟨b,o,none⟩) es.length cap)
 |vs0 {μ k a cap}:VR W L μ (.vs k []) (.slice a 0 cap)
 |nilmap {μ}:VR W L μ .nilmap (.map none)
 |map {μ b B}:μ b=.at B→VR W L μ (.map b) (.map (some B))
 |nilfn {μ}:VR W L μ .nilfn .nilFunc
 |fn {μ f} {first captured:List AV} {rf rc:List Value}:(∀ l,f≠.yield l)→first.length=rf.length→(∀ (i:Nat) (x:AV) (r:Value),first[i]?=some x→rf[i]?=some r→VR W L μ x r) →
     captured.length=rc.length→(∀ (i:Nat) (x:AV) (r:Value),captured[i]?=some x→rc[i]?=some r→VR W L μ x r)→VR W L μ (.fn f first captured) (.func f rf.toArray rc.toArray)
 |yield {μ l B}:μ l=.at B→VR W L μ (.yield l) (.func (.yield B) #[] #[])
 |nilif {μ}:VR W L μ .nilif .nilIface
 |iface {μ t v x}:VR W L μ v x→VR W L μ (.iface t v) (.iface t x)
 |agg {μ} {cs:List AV} {rs:List Value}:cs.length=rs.length→(∀ (i:Nat) (x:AV) (r:Value),cs[i]?=some x→rs[i]?=some r→VR W L μ x r)→VR W L μ (.agg cs) (.agg rs.toArray)
 |tup {μ} {cs:List AV} {rs:List Value}:cs.length=rs.length→(∀ (i:Nat) (x:AV) (r:Value),cs[i]?=some x→rs[i]?=some r→VR W L μ x r)→VR W L μ (.tup cs) (.tuple rs.toArray)
 |stamp {μ b i B n clk} {es:Array MapEntry}:μ b=.at B→W.heap[B]?=some (.map es clk)→bornAt es n=some i→VR W L μ (.stamp b i) (.int .i64 n)

def Shp (o o':Obj):Prop:=(∀ (rs:Array Value) (t:TypeId) (f:Nat × Nat),o=.cells rs t f→∃ rs',o'=.cells rs' t f∧rs'.size=rs.size) ∧
 ∀ (es:Array MapEntry) (clk:Nat),o=.map es clk→∃ es' clk',o'=.map es' clk'∧∀ (n:Int) (i:Nat),bornAt es n=some i→bornAt es' n=some i
theorem Shp.refl (o:Obj):Shp o o:=⟨fun rs _ _ h=>⟨rs,h,rfl⟩,fun es clk h=>⟨es,clk,h,fun _ _ h=>h⟩⟩
theorem Shp.trans {a b c:Obj}(h:Shp a b)(k:Shp b c):Shp a c:=
 ⟨fun rs t f e => by
  obtain ⟨r1,e1,s1⟩:=h.1 rs t f e
  obtain ⟨r2,e2,s2⟩:=k.1 r1 t f e1
  exact ⟨r2,e2,s2.trans s1⟩,fun es clk e=>by
  obtain ⟨r1,c1,e1,s1⟩:=h.2 es clk e
  obtain ⟨r2,c2,e2,s2⟩:=k.2 r1 c1 e1
  exact ⟨r2,c2,e2,fun n i hn=>s2 n i (s1 n i hn)⟩⟩
theorem Shp.ofCells {o o':Obj}(h:∀ (rs:Array Value) (t:TypeId) (f:Nat × Nat),o=.cells rs t f→∃ rs',o'=.cells rs' t f∧rs'.size=rs.size)(hm:∀ es clk,o≠.map es clk):Shp o o':=⟨h,fun es clk e=>absurd e (hm es clk)⟩

def VL (W:World)(L:Nat→Prop)(μ:Mu)(as:List AV)(rs:List Value):Prop:=
 as.length=rs.length∧∀ (i:Nat) (x:AV) (r:Value),as[i]?=some x→rs[i]?=some r→VR W L μ x r

structure Later (L L':Nat→Prop) (W W':World):Prop where
 size:W.heap.size≤W'.heap.size
 same:∀ b,b<W.heap.size→¬ L b→W'.heap[b]?=W.heap[b]?
 shape:∀ (b:Nat) (o:Obj),W.heap[b]?=some o→∃ o',W'.heap[b]?=some o'∧Shp o o'
 new:∀ b,L' b→L b∨W.heap.size≤b

def Ext (μ μ':Mu):Prop:=∀ i,μ i≠.no→μ' i=μ i∨μ' i=.dead

theorem Ext.refl (μ:Mu):Ext μ μ:=fun _ _=>.inl rfl
theorem Ext.trans {a b c:Mu}(h:Ext a b)(k:Ext b c):Ext a c:=fun i hi=>by
 rcases h i hi with e|e
 ·have hb:b i≠.no:=by rw[e];exact hi
  rcases k i hb with f|f
  ·exact .inl (f.trans e)
  ·exact .inr f
 ·have hb:b i≠.no:=by rw[e];simp
  rcases k i hb with f|f
  ·exact .inr (f.trans e)
  ·exact .inr f
theorem Ext.nomu (μ:Mu):Ext nomu μ:=fun _i h=>absurd rfl h

theorem Later.refl (L:Nat→Prop)(W:World):Later L L W W:=⟨Nat.le_refl _,fun _ _ _=>rfl,fun _ o h=>⟨o,h,.refl o⟩,fun _ h=>.inl h⟩
theorem Later.trans {L L1 L2:Nat→Prop}{W W1 W2:World}(_hk:∀ b,L b→L1 b)(h:Later L L1 W W1)(k:Later L1 L2 W1 W2):Later L L2 W W2 where
 size:=Nat.le_trans h.size k.size
 same b hb hl:=by
  have h1:¬ L1 b:=fun h1=>by
   rcases h.new b h1 with x|x
   ·exact hl x
   ·omega
  rw[k.same b (Nat.lt_of_lt_of_le hb h.size) h1,h.same b hb hl]
 shape b o e:=by
  obtain ⟨o1,e1,s1⟩:=h.shape b o e
  obtain ⟨o2,e2,s2⟩:=k.shape b o1 e1
  exact ⟨o2,e2,s1.trans s2⟩
 new b h2:=by
  rcases k.new b h2 with x|x
  ·exact h.new b x
  ·exact .inr (Nat.le_trans h.size x)

theorem zmo {W:World}{b o:Nat}{v:Value}(h:W.cell? ⟨b,o,none⟩=some v):b<W.heap.size:=by
 unfold World.cell? at h
 cases hb:W.heap[b]? with
 |none=>simp[hb] at h
 |some x=>exact (Array.getElem?_eq_some_iff.1 hb).1

theorem Later.cell {L L':Nat→Prop}{W W':World}(h:Later L L' W W'){b o:Nat}{v:Value}(hl:¬ L b)(hc:W.cell? ⟨b,o,none⟩=some v):W'.cell? ⟨b,o,none⟩=some v:=by
 have hb:=zmo hc
 have:=h.same b hb hl
 unfold World.cell? at *
 simp only at *
 rw[this];exact hc

theorem Later.notL {L L':Nat→Prop}{W W':World}(h:Later L L' W W'){b:Nat}(hb:b<W.heap.size)(hl:¬ L b):¬ L' b:=fun h'=>by
 rcases h.new b h' with x|x
 ·exact hl x
 ·omega

theorem VR.mono {W W':World}{L L':Nat→Prop}{μ:Mu}{v:AV}{x:Value}(h:VR W L μ v x)(hl:Later L L' W W'):∀ {μ':Mu},Ext μ μ'→VR W' L' μ' v x:=by
 induction h with
 |unk=>intro μ' _;exact .unk
 |dead hr hd ho=>
   intro μ' he
   rcases he _ (by rw[hd];simp) with e|e
   ·exact .dead hr (e.trans hd) ho
   ·exact .dead hr e ho
 |bool=>intro μ' _;exact .bool
 |int=>intro μ' _;exact .int
 |nilp=>intro μ' _;exact .nilp
 |ptr hb=>
   intro μ' he
   rcases he _ (by rw[hb];simp) with e|e
   ·exact .ptr (e.trans hb)
   ·exact .dead rfl e rfl
 |rp rs hc hv ih=>intro μ' _;exact .rp rs (fun j x hx=>⟨hl.notL (zmo (hc j x hx).2) (hc j x hx).1,hl.cell (hc j x hx).1 (hc j x hx).2⟩) (fun j x hx=>ih j x hx (Ext.refl _))
 |nils=>intro μ' _;exact .nils
 |sl hb hn hw hs=>
     intro μ' he
     obtain ⟨o',hw',hs0⟩:=hl.shape _ _ hw
     obtain ⟨rs',rfl,hs'⟩:=hs0.1 _ _ _ rfl
     rcases he _ (by rw[hb];simp) with e|e
     ·exact .sl (e.trans hb) hn hw' (by omega)
     ·exact .dead rfl e rfl
 |vs rs hn hk hc hv ih=>intro μ' _;exact .vs rs hn hk (fun i e j x h1 h2=>⟨hl.notL (zmo (hc i e j x h1 h2).2) (hc i e j x h1 h2).1,hl.cell (hc i e j x h1 h2).1 (hc i e j x h1 h2).2⟩) (fun i e j x h1 h2=>ih i e j x h1 h2 (Ext.refl _))
 |vs0=>intro μ' _;exact .vs0
 |nilmap=>intro μ' _;exact .nilmap
 |map hb=>
   intro μ' he
   rcases he _ (by rw[hb];simp) with e|e
   ·exact .map (e.trans hb)
   ·exact .dead rfl e rfl
 |nilfn=>intro μ' _;exact .nilfn
 |fn hf h1 h2 h3 h4 ih1 ih2=>intro μ' he;exact .fn hf h1 (fun i x r a b=>ih1 i x r a b he) h3 (fun i x r a b=>ih2 i x r a b he)
 |yield hb=>
   intro μ' he
   rcases he _ (by rw[hb];simp) with e|e
   ·exact .yield (e.trans hb)
   ·exact .dead rfl e rfl
 |nilif=>intro μ' _;exact .nilif
 |iface _ ih=>intro μ' he;exact .iface (ih he)
 |agg h1 h2 ih=>intro μ' he;exact .agg h1 (fun i x r a b=>ih i x r a b he)
 |tup h1 h2 ih=>intro μ' he;exact .tup h1 (fun i x r a b=>ih i x r a b he)
 |stamp hb hw hn=>
   intro μ' he
   obtain ⟨o',hw',hs0⟩:=hl.shape _ _ hw
   obtain ⟨es',clk',rfl,hs1⟩:=hs0.2 _ _ rfl
   rcases he _ (by rw[hb];simp) with e|e
   ·exact .stamp (e.trans hb) hw' (hs1 _ _ hn)
   ·exact .dead rfl e rfl

theorem zdt (σ:Nat→Option Nat)(l:List AV):renL σ l=l.map (ren σ):=by
 induction l with
 |nil=>simp[renL]
 |cons a l ih=>simp[renL,ih]
theorem zto (σ:Nat→Option Nat)(l:List (AV × AV)):renE σ l=l.map fun p=>(ren σ p.1,ren σ p.2):=by
 induction l with
 |nil=>simp[renE]
 |cons a l ih=>simp[renE,ih]

theorem zec {σ:Nat→Option Nat}{l:List AV}{i:Nat}{x:AV}(h:(renL σ l)[i]?=some x):∃ y,l[i]?=some y∧x=ren σ y:=by
 rw[zdt,List.getElem?_map] at h
 cases hy:l[i]? with
 |none=>simp[hy] at h
 |some y=>simp[hy] at h;exact ⟨y,rfl,h.symm⟩

theorem VR.ren {W:World}{L:Nat→Prop}{μ:Mu}{v:AV}{x:Value}(h:VR W L μ v x)(σ:Nat→Option Nat):
  ∀ {μ':Mu},(∀ i j,σ i=some j→μ' j=μ i)→VR W L μ' (ren σ v) x:=by
 induction h with
 |unk=>intro μ' _;exact .unk
 |@dead μ v x b hr hd ho=>
  intro μ' hs
  cases v<;>simp[headRef] at hr<;>subst hr<;>simp only[Ev.ren]<;>split<;>first|exact .unk|exact .dead rfl ((hs _ _ (by assumption)).trans hd) ho
 |bool=>intro μ' _;exact .bool
 |int=>intro μ' _;exact .int
 |nilp=>intro μ' _;exact .nilp
 |ptr hb=>intro μ' hs;simp only[Ev.ren];split<;>first|exact .ptr ((hs _ _ (by assumption)).trans hb)|exact .unk
 |rp rs hc hv=>intro μ' _;exact .rp rs hc hv
 |nils=>intro μ' _;exact .nils
 |sl hb hn hw hsz=>intro μ' hs;simp only[Ev.ren];split<;>first|exact .sl ((hs _ _ (by assumption)).trans hb) hn hw hsz|exact .unk
 |vs rs hn hk hc hv=>intro μ' _;exact .vs rs hn hk hc hv
 |vs0=>intro μ' _;exact .vs0
 |nilmap=>intro μ' _;exact .nilmap
 |map hb=>intro μ' hs;simp only[Ev.ren];split<;>first|exact .map ((hs _ _ (by assumption)).trans hb)|exact .unk
 |nilfn=>intro μ' _;exact .nilfn
 |fn hf h1 h2 h3 h4 ih1 ih2=>
  intro μ' hs
  simp only[Ev.ren]
  refine .fn hf (by rw[zdt,List.length_map];exact h1) (fun i x r hx hr=>?_) (by rw[zdt,List.length_map];exact h3) (fun i x r hx hr=>?_)
  ·obtain ⟨y,hy,rfl⟩:=zec hx;exact ih1 i y r hy hr hs
  ·obtain ⟨y,hy,rfl⟩:=zec hx;exact ih2 i y r hy hr hs
 |yield hb=>intro μ' hs;simp only[Ev.ren];split<;>first|exact .yield ((hs _ _ (by assumption)).trans hb)|exact .unk
 |nilif=>intro μ' _;exact .nilif
 |iface _ ih=>intro μ' hs;simp only[Ev.ren];exact .iface (ih hs)
 |agg h1 h2 ih=>
  intro μ' hs
  simp only[Ev.ren]
  refine .agg (by rw[zdt,List.length_map];exact h1) (fun i x r hx hr=>?_)
  obtain ⟨y,hy,rfl⟩:=zec hx;exact ih i y r hy hr hs
 |tup h1 h2 ih=>
  intro μ' hs
  simp only[Ev.ren]
  refine .tup (by rw[zdt,List.length_map];exact h1) (fun i x r hx hr=>?_)
  obtain ⟨y,hy,rfl⟩:=zec hx;exact ih i y r hy hr hs
 |stamp hb hw hn=>intro μ' hs;simp only[Ev.ren];split<;>first|exact .stamp ((hs _ _ (by assumption)).trans hb) hw hn|exact .unk

theorem VL.ren {W:World}{L:Nat→Prop}{μ μ':Mu}{as:List AV}{rs:List Value}(h:VL W L μ as rs)(σ:Nat→Option Nat)(hs:∀ i j,σ i=some j→μ' j=μ i):VL W L μ' (renL σ as) rs:=
 ⟨by rw[zdt,List.length_map];exact h.1,fun i x r hx hr=>by obtain ⟨y,hy,rfl⟩:=zec hx;exact (h.2 i y r hy hr).ren σ hs⟩
theorem VL.mono {W W':World}{L L':Nat→Prop}{μ μ':Mu}{as:List AV}{rs:List Value}(h:VL W L μ as rs)(hl:Later L L' W W')(he:Ext μ μ'):VL W' L' μ' as rs:=
 ⟨h.1,fun i x r hx hr=>(h.2 i x r hx hr).mono hl he⟩
theorem VL.nil {W:World}{L:Nat→Prop}{μ:Mu}:VL W L μ [] []:=⟨rfl,fun i x r h=>by simp at h⟩
theorem VL.cons {W:World}{L:Nat→Prop}{μ:Mu}{a:AV}{as:List AV}{r:Value}{rs:List Value}(h:VR W L μ a r)(hs:VL W L μ as rs):VL W L μ (a::as) (r::rs):=
 ⟨by simp [hs.1], fun i x r' hx hr => by
  cases i with
  |zero=>simp at hx hr;subst hx hr;exact h
  |succ i=>simp at hx hr;exact hs.2 i x r' hx hr⟩
theorem VL.head {W:World}{L:Nat→Prop}{μ:Mu}{a:AV}{as:List AV}{r:Value}{rs:List Value}(h:VL W L μ (a::as) (r::rs)):VR W L μ a r:=h.2 0 a r rfl rfl
theorem VL.tail {W:World}{L:Nat→Prop}{μ:Mu}{a:AV}{as:List AV}{r:Value}{rs:List Value}(h:VL W L μ (a::as) (r::rs)):VL W L μ as rs:=
 ⟨by have:=h.1;simpa using this,fun i x r' hx hr=>h.2 (i+1) x r' (by simpa using hx) (by simpa using hr)⟩
theorem VL.append {W:World}{L:Nat→Prop}{μ:Mu}{as bs:List AV}{rs ss:List Value}(h:VL W L μ as rs)(k:VL W L μ bs ss):VL W L μ (as++bs) (rs++ss):=by
 induction as generalizing rs with
 |nil=>cases rs with
  |nil=>simpa using k
  |cons r rs=>have:=h.1;simp at this
 |cons a as ih=>cases rs with
  |nil=>have:=h.1;simp at this
  |cons r rs=>exact VL.cons h.head (ih h.tail)
theorem VL.get {W:World}{L:Nat→Prop}{μ:Mu}{as:List AV}{rs:List Value}(h:VL W L μ as rs){i:Nat}{x:AV}(hx:as[i]?=some x):∃ r,rs[i]?=some r∧VR W L μ x r:=by
 have hi:i<as.length:=(List.getElem?_eq_some_iff.1 hx).1
 rw[h.1] at hi
 exact ⟨rs[i],List.getElem?_eq_getElem hi,h.2 i x _ hx (List.getElem?_eq_getElem hi)⟩
theorem VL.drop {W:World}{L:Nat→Prop}{μ:Mu}{as:List AV}{rs:List Value}(h:VL W L μ as rs)(n:Nat):VL W L μ (as.drop n) (rs.drop n):=
 ⟨by simp[h.1],fun i x r hx hr=>h.2 (n+i) x r (by simpa using hx) (by simpa using hr)⟩
theorem VL.take {W:World}{L:Nat→Prop}{μ:Mu}{as:List AV}{rs:List Value}(h:VL W L μ as rs)(n:Nat):VL W L μ (as.take n) (rs.take n):=
 ⟨by simp [h.1], fun i x r hx hr => by
  by_cases hi:i<n
  ·rw[List.getElem?_take_of_lt hi] at hx hr;exact h.2 i x r hx hr
  ·rw[List.getElem?_take_eq_none (by omega)] at hx;cases hx⟩
theorem VL.set {W:World}{L:Nat→Prop}{μ:Mu}{as:List AV}{rs:List Value}(h:VL W L μ as rs)(n:Nat){a:AV}{r:Value}(hv:VR W L μ a r):VL W L μ (as.set n a) (rs.set n r):=
 ⟨by simp [h.1], fun i x r' hx hr => by
  by_cases hi:n=i
  ·subst hi
   rw[List.getElem?_set_self'] at hx hr
   cases ha:as[n]? with
   |none=>simp[ha] at hx
   |some y=>
    obtain ⟨q,hq,_⟩:=h.get ha
    simp[ha] at hx;simp[hq] at hr;subst hx hr;exact hv
  ·rw[List.getElem?_set_ne hi] at hx hr;exact h.2 i x r' hx hr⟩
theorem VL.replicate {W:World}{L:Nat→Prop}{μ:Mu}(n:Nat){a:AV}{r:Value}(hv:VR W L μ a r):VL W L μ (List.replicate n a) (List.replicate n r):=
 ⟨by simp, fun i x r' hx hr => by
  rw[List.getElem?_replicate] at hx hr
  split at hx<;>simp at hx hr
  obtain ⟨_,hr⟩:=hr
  subst hx hr;exact hv⟩

def LS:LSt→LoopState→Prop
 |.ready,.ready|.busy,.busy|.done,.done|.exhausted,.exhausted=>True
 |_,_=>False
def PE:Option AExit→Option Code→Prop
 |none,none=>True
 |some (.exit i),some (.exit j)=>i=j
 |some .ret,some .ret=>True
 |_,_=>False

def Born (es:Array MapEntry)(clk:Nat):Prop:=(∀ (i:Nat) (e:MapEntry),es[i]?=some e→e.born<clk)∧∀ (i j:Nat) (e f:MapEntry),i<j→es[i]?=some e→es[j]?=some f→e.born<f.born

inductive BR (P:Program) (W:World) (L:Nat→Prop) (μ:Mu):AB→Obj→Prop
 |cells {cs:List AV} {rs:Array Value} {t:TypeId}:cs.length≤rs.size→(∀ (i:Nat) (x:AV) (r:Value),cs[i]?=some x→rs[i]?=some r→VR W L μ x r)→BR P W L μ (.cells cs) (.cells rs t (0,0))
 |map {es:List (AV × AV)} {res:Array MapEntry} {clk:Nat}:Born res clk→es.length=res.size→(∀ (i:Nat) (k v:AV) (e:MapEntry),es[i]?=some (k,v)→res[i]?=some e→VR W L μ k e.key∧VR W L μ v e.val)→BR P W L μ (.map es) (.map res clk)
 |loop {r:ALoop} {R:Loop}:LS r.st R.state→PE r.pend R.pending→VL W L μ r.tm R.tmps.toList→R.params.toList=r.params→compCode P R.assign=some (strip r.assign)→compCode P R.body=some (strip r.body) →
   (μ r.dfr=.at R.defers∨μ r.dfr=.dead)→BR P W L μ (.loop r) (.loop R)
 |dfr:BR P W L μ .dfr (.deferred (some []))
 |dead {o:Obj}:BR P W L μ .dead o

theorem Ext.atd {μ μ':Mu}(he:Ext μ μ'){b B:Nat}(h:μ b=.at B∨μ b=.dead):μ' b=.at B∨μ' b=.dead:=by
 rcases h with h|h
 ·rcases he b (by rw[h];simp) with e|e
  ·exact .inl (e.trans h)
  ·exact .inr e
 ·rcases he b (by rw[h];simp) with e|e
  ·exact .inr (e.trans h)
  ·exact .inr e
theorem BR.mono {P:Program}{W W':World}{L L':Nat→Prop}{μ μ':Mu}{b:AB}{o:Obj}(h:BR P W L μ b o)(hl:Later L L' W W')(he:Ext μ μ'):BR P W' L' μ' b o:=by
 cases h with
 |cells h1 h2=>exact .cells h1 fun i x r a b=>(h2 i x r a b).mono hl he
 |map h0 h1 h2=>exact .map h0 h1 fun i k v e a b=>⟨(h2 i k v e a b).1.mono hl he,(h2 i k v e a b).2.mono hl he⟩
 |loop h1 h2 h3 h4 h5 h6 h7=>exact .loop h1 h2 (h3.mono hl he) h4 h5 h6 (he.atd h7)
 |dfr=>exact .dfr
 |dead=>exact .dead

structure Sim (P:Program) (W:World) (L:Nat→Prop) (μ:Mu) (H:List AB):Prop where
 live:∀ i B,μ i=.at B→L B∧B<W.heap.size∧∃ b o,H[i]?=some b∧W.heap[B]?=some o∧BR P W L μ b o
 dead:∀ i b,μ i=.dead→H[i]?=some b→b=.dead
 out:∀ i,H.length≤i→μ i=.no
 inj:∀ i j B,μ i=.at B→μ j=.at B→i=j
 lt:∀ b,L b→b<W.heap.size
end Ev
end Go.Proofs.YtfpepkbflnendaaGreat
namespace Go.Proofs.YtfpepkbflnendaaGreat
open Go Go.RowKit
namespace Ev

structure Upd (B:Nat) (o':Obj) (W W':World):Prop where
 size:W'.heap.size=W.heap.size
 at_:W'.heap[B]?=some o'
 other:∀ b,b≠B→W'.heap[b]?=W.heap[b]?
 env:W'.os=W.os∧W'.tape=W.tape∧W'.output=W.output

def updM (μ:Mu)(j:Nat)(r:MR):Mu:=fun i=>if i=j then r else μ i
@[simp] theorem zbc (μ:Mu) (j:Nat) (r:MR):updM μ j r j=r:=if_pos rfl
theorem zbd (μ:Mu){j i:Nat}(r:MR)(h:i≠j):updM μ j r i=μ i:=if_neg h

theorem Ext.upd {μ:Mu}{j:Nat}(r:MR)(h:μ j=.no):Ext μ (updM μ j r):=fun i hi=>by
 by_cases e:i=j
 ·subst e;exact absurd h hi
 ·exact .inl (zbd μ r e)
theorem Ext.kill (μ:Mu)(j:Nat):Ext μ (updM μ j .dead):=fun i hi=>by
 by_cases e:i=j
 ·subst e;exact .inr (zbc ..)
 ·exact .inl (zbd μ _ e)

structure Ent where
 W:World
 L:Nat→Prop
 μ:Mu
 pin:Nat

structure Hp (P:Program) (E:Ent) (tc:List Nat) (W:World) (L:Nat→Prop) (μ:Mu) (H:List AB):Prop where
 sim:Sim P W L μ H
 pins:∀ i,i<E.pin→μ i=E.μ i∨(μ i=.dead∧i∈tc∧E.μ i≠.no)
 own:∀ j B,E.pin≤j→μ j=.at B→E.W.heap.size≤B∨∃ i,i∈tc∧E.μ i=.at B
 same:∀ b,b<E.W.heap.size→(∀ i,i∈tc→E.μ i≠.at b)→W.heap[b]?=E.W.heap[b]?
 size:E.W.heap.size≤W.heap.size
 shape:∀ (b:Nat) (o:Obj),E.W.heap[b]?=some o→∃ o',W.heap[b]?=some o'∧Shp o o'
 keep:∀ b,E.L b→L b
 new:∀ b,L b→E.L b∨E.W.heap.size≤b
 env:W.os=E.W.os∧W.tape=E.W.tape∧W.output=E.W.output
 len:E.pin≤H.length

section
variable {P:Program} {E:Ent} {tc tc':List Nat} {W W':World} {L:Nat→Prop} {μ:Mu} {H:List AB}

theorem Hp.more (h:Hp P E tc W L μ H)(ht:∀ i,i∈tc→i∈tc'):Hp P E tc' W L μ H:=
 { h with
  pins:=fun i hi=>(h.pins i hi).imp id fun ⟨a,b,c⟩=>⟨a,ht _ b,c⟩
  own:=fun j B hj hm=>(h.own j B hj hm).imp id fun ⟨i,a,b⟩=>⟨i,ht _ a,b⟩
  same:=fun b hb hn=>h.same b hb fun i hi=>hn i (ht _ hi) }

theorem Hp.env' (h:Hp P E tc W L μ H)(h1:W'.heap=W.heap)(h2:W'.os=W.os∧W'.tape=W.tape∧W'.output=W.output):Hp P E tc W' L μ H∧Later L L W W':=by
 have hl:Later L L W W':=⟨by rw[h1];exact Nat.le_refl _,fun b _ _=>by rw[h1],fun b o e=>⟨o,by rw[h1];exact e,.refl o⟩,fun _ hb=>.inl hb⟩
 refine ⟨{ h with sim:=?_,same:=fun b hb hn=>by rw[h1];exact h.same b hb hn,size:=by rw[h1];exact h.size,shape:=fun b o e=>by rw[h1];exact h.shape b o e,env:=⟨h2.1.trans h.env.1,h2.2.1.trans h.env.2.1,h2.2.2.trans h.env.2.2⟩ },hl⟩
 exact { h.sim with
  live:=fun i B hm=>by
   obtain ⟨a,b,blk,o,e1,e2,e3⟩:=h.sim.live i B hm
   exact ⟨a,by rw[h1];exact b,blk,o,e1,by rw[h1];exact e2,e3.mono hl (Ext.refl _)⟩
  lt:=fun b hb=>by rw[h1];exact h.sim.lt b hb }

theorem Hp.push (h:Hp P E tc W L μ H)(bs:List AB):Hp P E tc W L μ (H++bs):=
 { h with
  sim := { h.sim with
   live:=fun i B hm=>by
    obtain ⟨a,b,blk,o,e1,e2,e3⟩:=h.sim.live i B hm
    exact ⟨a,b,blk,o,by rw[List.getElem?_append_left (List.getElem?_eq_some_iff.1 e1).1];exact e1,e2,e3⟩
   dead:=fun i b hd hb=>by
    by_cases hi:i<H.length
    ·rw[List.getElem?_append_left hi] at hb;exact h.sim.dead i b hd hb
    ·rw[h.sim.out i (by omega)] at hd;cases hd
   out:=fun i hi=>h.sim.out i (by simp at hi;omega) }
  len:=by simp;have:=h.len;omega }

theorem Later.alloc (L:Nat→Prop)(W:World)(o:Obj):Later L (fun b=>L b∨b=W.heap.size) W (W.alloc o) where
 size:=by simp
 same b hb _:=Below.heap_alloc _ _ _ hb
 shape b o' e:=⟨o',(Below.heap_alloc _ _ _ (Array.getElem?_eq_some_iff.1 e).1).trans e,.refl o'⟩
 new b hb:=hb.imp id fun e=>Nat.le_of_eq e.symm

theorem Hp.mat (h:Hp P E tc W L μ H){j:Nat}{blk:AB}{o:Obj}(hj:H[j]?=some blk)(hno:μ j=.no)(hpin:E.pin≤j)(hb:BR P W L μ blk o):
  Hp P E tc (W.alloc o) (fun b=>L b∨b=W.heap.size) (updM μ j (.at W.heap.size)) H∧Later L (fun b=>L b∨b=W.heap.size) W (W.alloc o)∧Ext μ (updM μ j (.at W.heap.size)):=by
 have hl:=Later.alloc L W o
 have he:Ext μ (updM μ j (.at W.heap.size)):=Ext.upd _ hno
 refine ⟨?_,hl,he⟩
 refine ⟨⟨?_,?_,?_,?_,?_⟩,?_,?_,?_,?_,?_,?_,?_,?_,h.len⟩
 ·intro i B hm
  by_cases e:i=j
  ·subst e
   rw[zbc] at hm
   cases hm
   exact ⟨.inr rfl,by simp,blk,o,hj,World.alloc_heap_new W o,hb.mono hl he⟩
  ·rw[zbd _ _ e] at hm
   obtain ⟨a,b,blk',o',e1,e2,e3⟩:=h.sim.live i B hm
   exact ⟨.inl a,by simp;omega,blk',o',e1,(Below.heap_alloc _ _ _ b).trans e2,e3.mono hl he⟩
 ·intro i b hd hb'
  by_cases e:i=j
  ·subst e;rw[zbc] at hd;cases hd
  ·rw[zbd _ _ e] at hd;exact h.sim.dead i b hd hb'
 ·intro i hi
  have:i≠j:=by rintro rfl;rw[List.getElem?_eq_none hi] at hj;cases hj
  rw[zbd _ _ this];exact h.sim.out i hi
 ·intro i k B hi hk
  by_cases e:i=j<;>by_cases f:k=j
  ·rw[e,f]
  ·subst e;rw[zbc] at hi;rw[zbd _ _ f] at hk;cases hi
   have:=(h.sim.live k _ hk).2.1;omega
  ·subst f;rw[zbc] at hk;rw[zbd _ _ e] at hi;cases hk
   have:=(h.sim.live i _ hi).2.1;omega
  ·rw[zbd _ _ e] at hi;rw[zbd _ _ f] at hk;exact h.sim.inj i k B hi hk
 ·rintro b (hb'|rfl)
  ·have:=h.sim.lt b hb';simp;omega
  ·simp
 ·intro i hi
  rw[zbd _ _ (by omega:i≠j)];exact h.pins i hi
 ·intro i B hi hm
  by_cases e:i=j
  ·subst e;rw[zbc] at hm;cases hm;exact .inl h.size
  ·rw[zbd _ _ e] at hm;exact h.own i B hi hm
 ·intro b hb' hn
  exact (Below.heap_alloc _ _ _ (Nat.lt_of_lt_of_le hb' h.size)).trans (h.same b hb' hn)
 ·simp;have:=h.size;omega
 ·intro b o0 e
  obtain ⟨rs',e',s'⟩:=h.shape b o0 e
  exact ⟨rs',(Below.heap_alloc _ _ _ (Array.getElem?_eq_some_iff.1 e').1).trans e',s'⟩
 ·exact fun b hb'=>.inl (h.keep b hb')
 ·rintro b (hb'|rfl)
  ·exact h.new b hb'
  ·exact .inr h.size
 ·exact h.env

theorem Upd.later {B:Nat}{o o':Obj}(hu:Upd B o' W W')(hB:L B)(ho:W.heap[B]?=some o)(hs:Shp o o'):Later L L W W' where
 size:=by rw[hu.size];exact Nat.le_refl _
 same b _ hn:=hu.other b (by rintro rfl;exact hn hB)
 shape b o0 e:=by
  by_cases hb:b=B
  ·subst hb
   rw[ho] at e
   cases e
   exact ⟨o',hu.at_,hs⟩
  ·exact ⟨o0,(hu.other b hb).trans e,.refl o0⟩
 new _ h:=.inl h

theorem Hp.put (h:Hp P E tc W L μ H){i B:Nat}{o o':Obj}{blk:AB}(hm:μ i=.at B)(ho:W.heap[B]?=some o)(hu:Upd B o' W W')
  (hs:Shp o o') (hb:BR P W L μ blk o'):
  Hp P E ([i].filter (·<E.pin)++tc) W' L μ (H.set i blk)∧Later L L W W':=by
 obtain ⟨hB,hlt,blk0,o0,e1,e2,e3⟩:=h.sim.live i B hm
 have hl:Later L L W W':=hu.later hB ho hs
 have hi:i<H.length:=(List.getElem?_eq_some_iff.1 e1).1
 refine ⟨?_,hl⟩
 refine ⟨⟨?_,?_,?_,h.sim.inj,?_⟩,?_,?_,?_,?_,?_,h.keep,h.new,⟨hu.env.1.trans h.env.1,hu.env.2.1.trans h.env.2.1,hu.env.2.2.trans h.env.2.2⟩,?_⟩
 ·intro k C hk
  by_cases e:k=i
  ·subst e
   rw[hm] at hk;cases hk
   exact ⟨hB,by rw[hu.size];exact hlt,blk,o',by rw[List.getElem?_set_self hi],hu.at_,hb.mono hl (Ext.refl _)⟩
  ·obtain ⟨a,b,blk',o'',f1,f2,f3⟩:=h.sim.live k C hk
   have hne:C≠B:=by rintro rfl;exact e (h.sim.inj k i C hk hm)
   exact ⟨a,by rw[hu.size];exact b,blk',o'',by rw[List.getElem?_set_ne (fun x=>e x.symm)];exact f1,(hu.other C hne).trans f2,f3.mono hl (Ext.refl _)⟩
 ·intro k b hd hb'
  by_cases e:k=i
  ·subst e;rw[hm] at hd;cases hd
  ·rw[List.getElem?_set_ne (fun x=>e x.symm)] at hb';exact h.sim.dead k b hd hb'
 ·intro k hk;exact h.sim.out k (by simpa using hk)
 ·intro b hb';rw[hu.size];exact h.sim.lt b hb'
 ·exact fun k hk=>(h.pins k hk).imp id fun ⟨a,b,c⟩=>⟨a,List.mem_append_right _ b,c⟩
 ·exact fun j C hj hk=>(h.own j C hj hk).imp id fun ⟨k,a,b⟩=>⟨k,List.mem_append_right _ a,b⟩
 ·intro b hb' hn
  have hne:b≠B:=by
   rintro rfl
   by_cases hp:i<E.pin
   ·rcases h.pins i hp with e|⟨e,_⟩
    ·exact hn i (List.mem_append_left _ (by simp[hp])) (e.symm.trans hm)
    ·rw[e] at hm;cases hm
   ·rcases h.own i b (by omega) hm with e|⟨k,e,f⟩
    ·omega
    ·exact hn k (List.mem_append_right _ e) f
  exact (hu.other b hne).trans (h.same b hb' fun k hk=>hn k (List.mem_append_right _ hk))
 ·rw[hu.size];exact h.size
 ·intro b o0 e
  obtain ⟨o1,f1,s1⟩:=h.shape b o0 e
  obtain ⟨o2,f2,s2⟩:=hl.shape b o1 f1
  exact ⟨o2,f2,s1.trans s2⟩
 ·simpa using h.len

theorem Hp.kill (h:Hp P E tc W L μ H)(i:Nat)(hi:i<H.length)(hno:μ i≠.no):Hp P E ([i].filter (·<E.pin)++tc) W L (updM μ i .dead) (H.set i .dead)∧Ext μ (updM μ i .dead):=by
 have he:=Ext.kill μ i
 refine ⟨?_,he⟩
 refine ⟨⟨?_,?_,?_,?_,h.sim.lt⟩,?_,?_,fun b hb hn=>h.same b hb fun k hk=>hn k (List.mem_append_right _ hk),h.size,h.shape,h.keep,h.new,h.env,by simpa using h.len⟩
 ·intro k C hk
  have e:k≠i:=by rintro rfl;rw[zbc] at hk;cases hk
  rw[zbd _ _ e] at hk
  obtain ⟨a,b,blk',o'',f1,f2,f3⟩:=h.sim.live k C hk
  exact ⟨a,b,blk',o'',by rw[List.getElem?_set_ne (fun x=>e x.symm)];exact f1,f2,f3.mono (Later.refl _ _) he⟩
 ·intro k b hd hb'
  by_cases e:k=i
  ·subst e;rw[List.getElem?_set_self hi] at hb';exact (Option.some.inj hb').symm
  ·rw[zbd _ _ e] at hd;rw[List.getElem?_set_ne (fun x=>e x.symm)] at hb';exact h.sim.dead k b hd hb'
 ·intro k hk
  have:k≠i:=by simp at hk;omega
  rw[zbd _ _ this];exact h.sim.out k (by simpa using hk)
 ·intro k l B hk hl
  have e:k≠i:=by rintro rfl;rw[zbc] at hk;cases hk
  have f:l≠i:=by rintro rfl;rw[zbc] at hl;cases hl
  rw[zbd _ _ e] at hk;rw[zbd _ _ f] at hl
  exact h.sim.inj k l B hk hl
 ·intro k hk
  by_cases e:k=i
  ·subst e
   refine .inr ⟨zbc ..,List.mem_append_left _ (by simp[hk]),?_⟩
   rcases h.pins k hk with e|⟨_,_,e⟩
   ·rw[← e];exact hno
   ·exact e
  ·rw[zbd _ _ e];exact (h.pins k hk).imp id fun ⟨a,b,c⟩=>⟨a,List.mem_append_right _ b,c⟩
 ·intro j B hj hk
  have e:j≠i:=by rintro rfl;rw[zbc] at hk;cases hk
  rw[zbd _ _ e] at hk
  exact (h.own j B hj hk).imp id fun ⟨k,a,b⟩=>⟨k,List.mem_append_right _ a,b⟩

theorem Hp.reuse (h:Hp P E tc W L μ H){j B:Nat}{blk:AB}{o:Obj}(hj:H[j]?=some blk)(hno:μ j=.no)(hpin:E.pin≤j)(hB:L B)(ho:W.heap[B]?=some o)(hfree:∀ i,μ i≠.at B)
  (hown:E.W.heap.size≤B∨∃ i,i∈tc∧E.μ i=.at B) (hb:BR P W L μ blk o):Hp P E tc W L (updM μ j (.at B)) H∧Ext μ (updM μ j (.at B)):=by
 have he:Ext μ (updM μ j (.at B)):=Ext.upd _ hno
 refine ⟨?_,he⟩
 refine ⟨⟨?_,?_,?_,?_,h.sim.lt⟩,?_,?_,h.same,h.size,h.shape,h.keep,h.new,h.env,h.len⟩
 ·intro i C hm
  by_cases e:i=j
  ·subst e;rw[zbc] at hm;cases hm
   exact ⟨hB,h.sim.lt B hB,blk,o,hj,ho,hb.mono (Later.refl _ _) he⟩
  ·rw[zbd _ _ e] at hm
   obtain ⟨a,b,blk',o',e1,e2,e3⟩:=h.sim.live i C hm
   exact ⟨a,b,blk',o',e1,e2,e3.mono (Later.refl _ _) he⟩
 ·intro i b hd hb'
  by_cases e:i=j
  ·subst e;rw[zbc] at hd;cases hd
  ·rw[zbd _ _ e] at hd;exact h.sim.dead i b hd hb'
 ·intro i hi
  have:i≠j:=by rintro rfl;rw[List.getElem?_eq_none hi] at hj;cases hj
  rw[zbd _ _ this];exact h.sim.out i hi
 ·intro i k C hi hk
  by_cases e:i=j<;>by_cases f:k=j
  ·rw[e,f]
  ·subst e;rw[zbc] at hi;rw[zbd _ _ f] at hk;cases hi;exact absurd hk (hfree k)
  ·subst f;rw[zbc] at hk;rw[zbd _ _ e] at hi;cases hk;exact absurd hi (hfree i)
  ·rw[zbd _ _ e] at hi;rw[zbd _ _ f] at hk;exact h.sim.inj i k C hi hk
 ·intro i hi
  rw[zbd _ _ (by omega:i≠j)];exact h.pins i hi
 ·intro i C hi hm
  by_cases e:i=j
  ·subst e;rw[zbc] at hm;cases hm;exact hown
  ·rw[zbd _ _ e] at hm;exact h.own i C hi hm

end

theorem zci (b o n:Nat):(⟨b,o,none⟩:Addr).add n=⟨b,o+n,none⟩:=by unfold Addr.add;split<;>simp_all

section
variable {P:Program} {W:World} {L:Nat→Prop} {μ:Mu} {H:List AB} {C:Cfg} {tm:List AV}

theorem zmk {v:Value}{a:AV}(h:cstA v=some a):VR W L μ a v:=by
 unfold cstA at h
 split at h<;>first|(cases h;first|exact .bool|exact .int|exact .nilp|exact .nils|exact .nilmap|exact .nilfn|exact .nilif)|cases h
theorem zjf:∀ {vs:List Value} {as:List AV},cstL vs=some as→VL W L μ as vs
 |[],as,h=>by cases h;exact VL.nil
 |v::l,as,h=>by
  unfold cstL at h
  split at h<;>cases h
  rename_i a as' h1 h2
  exact VL.cons (zmk h1) (zjf h2)

structure Env (C:Cfg) (W:World) (L:Nat→Prop) (μ:Mu) (tm:List AV) (a:Act):Prop where
 tmps:VL W L μ tm a.tmps.toList
 glob:∀ g cs,globA g=some cs→VR W L nomu (.rp cs) (.pointer (some ⟨g,0,none⟩))

theorem VR.lift {v:AV}{x:Value}(h:VR W L nomu v x):VR W L μ v x:=h.mono (Later.refl _ _) (Ext.nomu _)
theorem agg_ok {cs:List AV}{rs:Array Value}(h:VL W L μ cs rs.toList):VR W L μ (.agg cs) (.agg rs):=by
 have:=VR.agg (W:=W) (L:=L) (μ:=μ) h.1 h.2
 simpa using this
theorem tup_ok {cs:List AV}{rs:Array Value}(h:VL W L μ cs rs.toList):VR W L μ (.tup cs) (.tuple rs):=by
 have:=VR.tup (W:=W) (L:=L) (μ:=μ) h.1 h.2
 simpa using this

theorem zat {a:Act}(he:Env C W L μ tm a){y:Operand}{x:Opnd}(h:opnd y=some x):VR W L μ (val C tm x) (a.eval y):=by
 unfold opnd at h
 split at h
 ·rename_i t
  cases h
  simp only[val,Act.eval]
  cases ht:tm[t]? with
  |none=>rw[List.getD_eq_getElem?_getD,ht];exact .unk
  |some v=>
   obtain ⟨r,hr,hv⟩:=he.tmps.get ht
   rw[List.getD_eq_getElem?_getD,ht]
   rw[Array.getElem?_toList] at hr
   rw[Array.getD_eq_getD_getElem?,hr];exact hv
 ·rename_i cs
  cases hc:cstL cs.toList with
  |none=>rw[hc] at h;cases h
  |some l=>rw[hc] at h;cases h;exact agg_ok (zjf hc)
 ·rename_i v _
  cases hc:cstA v with
  |none=>rw[hc] at h;cases h
  |some l=>rw[hc] at h;cases h;exact zmk hc
 ·rename_i g
  obtain ⟨cs,hg,he'⟩:=Option.map_eq_some_iff.1 h
  cases he'
  simp only[val,Act.eval]
  exact (he.glob g cs hg).lift
 ·rename_i f
  cases h
  have:VR W L μ (.fn (.func f) [] []) (.func (.func f) ([]:List Value).toArray ([]:List Value).toArray):=.fn (fun l=>by simp) rfl (fun i x r h=>by simp at h) rfl (fun i x r h=>by simp at h)
  exact this

theorem zct {a:Act}(he:Env C W L μ tm a):∀ {ys:List Operand} {xs:List Opnd},opndL ys=some xs→VL W L μ (xs.map (val C tm)) (ys.map a.eval)
 |[],xs,h=>by cases h;exact VL.nil
 |y::l,xs,h=>by
  unfold opndL at h
  split at h<;>cases h
  rename_i a as' h1 h2
  exact VL.cons (zat he h1) (zct he h2)

theorem zbb {t k:Nat}(h:sizeT P t=some k)(w:World):(sizeOf t).run P w=.ok k w:=by
 unfold sizeT at h
 cases hi:P.info? t with
 |none=>simp[hi] at h
 |some i=>simp[hi] at h;simp[sizeOf,typeInfo,hi,h]
theorem zib {t k:Nat}(h:formT P t=some (some k))(w:World):(isAgg t).run P w=.ok true w∧sizeT P t=some k:=by
 unfold formT at h
 split at h
 ·rename_i fs hu
  refine ⟨by simp[isAgg,run_underlying hu],?_⟩
  cases hs:sizeT P t with
  |none=>simp[hs] at h
  |some j=>simp[hs] at h;rw[h]
 ·rename_i n e hu
  refine ⟨by simp[isAgg,run_underlying hu],?_⟩
  cases hs:sizeT P t with
  |none=>simp[hs] at h
  |some j=>simp[hs] at h;rw[h]
 ·split at h<;>simp at h
 ·cases h
theorem zic {t:Nat}(h:formT P t=some none)(w:World):(isAgg t).run P w=.ok false w∧sizeT P t=some 1:=by
 unfold formT at h
 split at h
 ·cases hs:sizeT P t<;>simp[hs] at h
 ·cases hs:sizeT P t<;>simp[hs] at h
 ·rename_i d hn1 hn2 hu
  split at h
  ·rename_i h1
   refine ⟨?_,h1⟩
   cases d<;>first|(simp[isAgg,run_underlying hu];done)|exact absurd rfl (hn1 _)|exact absurd rfl (hn2 _ _)
  ·cases h
 ·cases h

def Rd (W:World)(L:Nat→Prop)(μ:Mu)(cs:List AV)(b o:Nat):Prop:=∀ (j:Nat) (x:AV),cs[j]?=some x→∃ r,W.cell? ⟨b,o+j,none⟩=some r∧VR W L μ x r

theorem Rd.drop {cs:List AV}{b o:Nat}(h:Rd W L μ cs b o)(n:Nat):Rd W L μ (cs.drop n) b (o+n):=fun j x hx=>by
 rw[List.getElem?_drop] at hx
 obtain ⟨r,h1,h2⟩:=h (n+j) x hx
 exact ⟨r,by rw[Nat.add_assoc];exact h1,h2⟩
theorem Rd.take {cs:List AV}{b o:Nat}(h:Rd W L μ cs b o)(n:Nat):Rd W L μ (cs.take n) b o:=fun j x hx=>by
 by_cases hj:j<n
 ·rw[List.getElem?_take_of_lt hj] at hx;exact h j x hx
 ·rw[List.getElem?_take_eq_none (by omega)] at hx;cases hx

def cellsW (W:World)(b o n:Nat):List Value:=(List.range n).map fun j=>(W.cell? ⟨b,o+j,none⟩).getD undef
theorem Rd.vl {cs:List AV}{b o:Nat}(h:Rd W L μ cs b o):VL W L μ cs (cellsW W b o cs.length):=
 ⟨by simp [cellsW], fun j x r hx hr => by
  obtain ⟨r',h1,h2⟩:=h j x hx
  have hj:j<cs.length:=(List.getElem?_eq_some_iff.1 hx).1
  simp[cellsW,hj,h1] at hr
  subst hr;exact h2⟩
theorem Rd.cells {cs:List AV}{b o:Nat}(h:Rd W L μ cs b o):∀ j v,(cellsW W b o cs.length)[j]?=some v→W.cell? ((⟨b,o,none⟩:Addr).add j)=some v:=fun j v hv=>by
 have hj:j<cs.length:=by have:=(List.getElem?_eq_some_iff.1 hv).1;simpa [cellsW] using this
 obtain ⟨r',h1,h2⟩:=h j _ (List.getElem?_eq_getElem hj)
 simp[cellsW,hj,h1] at hv
 rw[zci,h1,hv]
theorem Rd.load {cs:List AV}{b o:Nat}(h:Rd W L μ cs b o){t:Nat}{k:Option Nat}(hf:formT P t=some k){v:AV}(hp:pickC k cs 0=some v):
  ∃ x,(loadVar t ⟨b,o,none⟩).run P W=.ok x W∧VR W L μ v x:=by
 cases k with
 |none=>
  obtain ⟨h1,h2⟩:=zic hf W
  obtain ⟨r,h3,h4⟩:=h 0 v hp
  exact ⟨r,by simp[loadVar,h1,show W.cell? ⟨b,o,none⟩=some r from h3],h4⟩
 |some k=>
  obtain ⟨h1,h2⟩:=zib hf W
  simp only[pickC,Nat.zero_add,List.drop_zero] at hp
  split at hp
  ·rename_i hk
   cases hp
   have hl:(cs.take k).length=k:=by simp;omega
   have hr:=run_loadCells_list (P:=P) W ⟨b,o,none⟩ (cellsW W b o (cs.take k).length) (h.take k).cells
   have hl':(cellsW W b o (cs.take k).length).length=k:=by simp[cellsW];omega
   rw[hl'] at hr
   refine ⟨.agg (cellsW W b o (cs.take k).length).toArray,?_,agg_ok (by simpa using (h.take k).vl)⟩
   simp[loadVar,h1,zbb h2,hr]
  ·cases hp

theorem rd_rp {cs:List AV}{x:Value}(h:VR W L μ (.rp cs) x):∃ b o,x=.pointer (some ⟨b,o,none⟩)∧Rd W L μ cs b o:=by
 cases h with
 |dead h=>simp[headRef] at h
 |@rp _ b o _ rs h1 h2=>exact ⟨b,o,rfl,fun j x hx=>⟨rs j,(h1 j x hx).2,(h2 j x hx).lift⟩⟩
theorem rd_ptr (hs:Sim P W L μ H){b off:Nat}{x:Value}(h:VR W L μ (.ptr b off) x){cs:List AV}(hb:H[b]?=some (.cells cs)):
  ∃ B,μ b=.at B∧x=.pointer (some ⟨B,off,none⟩)∧Rd W L μ (cs.drop off) B off:=by
 cases h with
 |@dead _ _ _ b' h hd _=>
  simp[headRef] at h;subst h
  cases hs.dead _ _ hd hb
 |@ptr _ _ _ B hm=>
  refine ⟨B,hm,rfl,fun j y hy=>?_⟩
  obtain ⟨_,hlt,blk,o,e1,e2,e3⟩:=hs.live _ _ hm
  rw[hb] at e1;cases e1
  cases e3 with
  |@cells _ rs t hl hv=>
   rw[List.getElem?_drop] at hy
   have hj:=(List.getElem?_eq_some_iff.1 hy).1
   refine ⟨rs[off+j],?_,hv _ _ _ hy (Array.getElem?_eq_getElem (by omega))⟩
   simp[World.cell?,e2]
theorem zxr {b off:Nat}{x:Value}(h:VR W L μ (.ptr b off) x):(∃ B,μ b=.at B∧x=.pointer (some ⟨B,off,none⟩))∨μ b=.dead:=by
 cases h with
 |@dead _ _ _ b' h hd _=>simp[headRef] at h;subst h;exact .inr hd
 |@ptr _ _ _ B hm=>exact .inl ⟨B,hm,rfl⟩

theorem zev (hs:Sim P W L μ H){b off:Nat}{x:Value}(h:VR W L μ (.ptr b off) x)(ha:alive H b=true):∃ B,μ b=.at B∧x=.pointer (some ⟨B,off,none⟩):=by
 rcases zxr h with h|hd
 ·exact h
 ·unfold alive at ha
  cases hb:H[b]? with
  |none=>rw[hb] at ha;cases ha
  |some blk=>rw[hb,hs.dead _ _ hd hb] at ha;cases ha
theorem zlq {cs:List AV}{x:Value}(h:VR W L μ (.rp cs) x):∃ b o,x=.pointer (some ⟨b,o,none⟩)∧∀ n,VR W L μ (.rp (cs.drop n)) (.pointer (some ⟨b,o+n,none⟩)):=by
 cases h with
 |dead h=>simp[headRef] at h
 |@rp _ b o _ rs h2 h3=>
  refine ⟨b,o,rfl,fun n=>.rp (fun j=>rs (n+j)) (fun j x hx=>?_) (fun j x hx=>?_)⟩
  ·rw[List.getElem?_drop] at hx
   have:=h2 _ x hx
   rw[Nat.add_assoc];exact this
  ·rw[List.getElem?_drop] at hx
   exact h3 _ x hx
theorem zdf (hs:Sim P W L μ H){b off n k:Nat}{x:Value}(h:VR W L μ (.sl b off n k) x)(ha:alive H b=true):
  ∃ B cap rs t,μ b=.at B∧x=.slice (some ⟨B,off,none⟩) n cap∧n≤cap∧W.heap[B]?=some (.cells rs t (0,0))∧off+cap * k≤rs.size:=by
 cases h with
 |@dead _ _ _ b' h hd _=>
  simp[headRef] at h;subst h
  unfold alive at ha
  cases hb:H[b]? with
  |none=>rw[hb] at ha;cases ha
  |some blk=>rw[hb,hs.dead _ _ hd hb] at ha;cases ha
 |@sl _ _ _ _ _ B cap rs t h1 h2 h3 h4=>exact ⟨B,cap,rs,t,h1,rfl,h2,h3,h4⟩
theorem zio {x:Value}(h:VR W L μ .nils x):x=.slice none 0 0:=by
 cases h with
 |dead h=>simp[headRef] at h
 |nils=>rfl
theorem znd (hs:Sim P W L μ H){v:AV}{x:Value}{n:Nat}(h:VR W L μ v x)(hn:slLen H v=some n):∃ p cap,x=.slice p n cap∧n≤cap:=by
 unfold slLen at hn
 split at hn
 ·cases hn;exact ⟨none,0,zio h,Nat.le_refl _⟩
 ·cases hn
  cases h with
  |dead h=>simp[headRef] at h
  |vs rs h1=>exact ⟨_,_,rfl,h1⟩
  |vs0=>exact ⟨_,_,rfl,Nat.zero_le _⟩
 ·split at hn<;>cases hn
  rename_i ha
  obtain ⟨B,cap,rs,t,h1,h2,h3,h4⟩:=zdf hs h ha
  exact ⟨_,_,h2,h3⟩
 ·cases hn

theorem zhz {k:Option Nat}{cs:List AV}{off:Nat}{v:AV}(h:pickC k cs off=some v):pickC k (cs.drop off) 0=some v:=by
 cases k with
 |none=>simpa [pickC] using h
 |some k=>
  simp only[pickC] at h ⊢
  split at h
  ·rw[if_pos (by simp;omega)];simpa using h
  ·cases h
end
section
variable {P:Program} {W:World} {L:Nat→Prop} {μ:Mu} {H:List AB} {C:Cfg} {tm:List AV} {a:Act}

theorem zbf {b:Bool}{x:Value}(h:VR W L μ (.bool b) x):x=.bool b:=by
 cases h with
 |dead h=>simp[headRef] at h
 |bool=>rfl
theorem vr_int {k:IntKind}{n:Int}{x:Value}(h:VR W L μ (.int k n) x):x=.int k n:=by
 cases h with
 |dead h=>simp[headRef] at h
 |int=>rfl
theorem vr_agg {cs:List AV}{x:Value}(h:VR W L μ (.agg cs) x):∃ rs:List Value,x=.agg rs.toArray∧VL W L μ cs rs:=by
 cases h with
 |dead h=>simp[headRef] at h
 |agg h1 h2=>exact ⟨_,rfl,h1,h2⟩
theorem vr_tup {cs:List AV}{x:Value}(h:VR W L μ (.tup cs) x):∃ rs:List Value,x=.tuple rs.toArray∧VL W L μ cs rs:=by
 cases h with
 |dead h=>simp[headRef] at h
 |tup h1 h2=>exact ⟨_,rfl,h1,h2⟩
theorem zbu {t:Nat}{v:AV}{x:Value}(h:VR W L μ (.iface t v) x):∃ y,x=.iface t y∧VR W L μ v y:=by
 cases h with
 |dead h=>simp[headRef] at h
 |iface h=>exact ⟨_,rfl,h⟩
theorem zbp {x:Value}(h:VR W L μ .nilif x):x=.nilIface:=by
 cases h with
 |dead h=>simp[headRef] at h
 |nilif=>rfl
theorem zbt {x:Value}(h:VR W L μ .nilfn x):x=.nilFunc:=by
 cases h with
 |dead h=>simp[headRef] at h
 |nilfn=>rfl
theorem vr_fn {f:Fn}{as bs:List AV}{x:Value}(h:VR W L μ (.fn f as bs) x):∃ rf rc:List Value,x=.func f rf.toArray rc.toArray∧(∀ l,f≠.yield l)∧VL W L μ as rf∧VL W L μ bs rc:=by
 cases h with
 |dead h=>simp[headRef] at h
 |fn h0 h1 h2 h3 h4=>exact ⟨_,_,rfl,h0,⟨h1,h2⟩,⟨h3,h4⟩⟩

theorem zzu {c x y:Operand}{k:AK}(he:Env C W L μ tm a)(hc:(match opnd c,opnd x,opnd y with|some c,some a,some b=>some (AK.pick c a b)|_,_,_=>none)=some k)
  {v:AV} {ft:List Nat} (hx:xval H (val C tm) k=some (v,ft)):∃ z,(do pure (if ← asBool (a.eval c) then a.eval x else a.eval y):Sem Value).run P W=.ok z W∧VR W L μ v z:=by
 split at hc<;>cases hc
 rename_i c' x' y' h1 h2 h3
 have e1:=zat he h1
 have e2:=zat he h2
 have e3:=zat he h3
 simp only[xval] at hx
 split at hx
 ·rename_i t ht
  rw[ht] at e1
  rw[zbf e1]
  split at hx
  ·rename_i p q hp hq
   cases hx
   rw[hp] at e2;rw[hq] at e3
   rw[zbf e2,zbf e3]
   refine ⟨.bool (bif t then p else q),?_,.bool⟩
   cases t<;>simp[asBool]
  ·cases hx
   refine ⟨if t then a.eval x else a.eval y,by simp[asBool],?_⟩
   cases t
   ·exact e3
   ·exact e2
 ·cases hx

theorem yat {op:BinOp}{k k':IntKind}{x y:Int}{v:AV}(t:Nat)(h:binI op k x k' y=some v):∃ z,(binOp op t (.int k x) (.int k' y)).run P W=.ok z W∧VR W L μ v z:=by
 cases op<;>simp only[binI,bitsI,Option.map_some] at h<;>(repeat' split at h)<;>cases h
 all_goals first
  |(refine ⟨_,?_,.int⟩;simp_all [binOp,Op.shift,Op.intArith,Op.intDiv,Op.intBits];done)
  |(refine ⟨_,?_,.bool⟩;simp_all [binOp,Op.intCmp];done)
  |(refine ⟨_,?_,.int⟩;simp_all [binOp,Op.shift];intro h;omega)

theorem bin_ok {op:BinOp}{t:Nat}{x y:Operand}{x' y':Opnd}(he:Env C W L μ tm a)(h1:opnd x=some x')(h2:opnd y=some y')
  {v:AV} {ft:List Nat} (hx:xval H (val C tm) (.bin op x' y')=some (v,ft)):∃ z,(do eqGuard op t x y (a.eval x) (a.eval y);binOp op t (a.eval x) (a.eval y):Sem Value).run P W=.ok z W∧VR W L μ v z:=by
 have e1:=zat he h1
 have e2:=zat he h2
 simp only[xval] at hx
 split at hx
 ·rename_i k p k' q hp hq
  rw[hp] at e1;rw[hq] at e2
  rw[vr_int e1,vr_int e2]
  cases hb:binI op k p k' q with
  |none=>rw[hb] at hx;cases hx
  |some u=>
   rw[hb] at hx;cases hx
   obtain ⟨z,h3,h4⟩:=yat (P:=P) (W:=W) (L:=L) (μ:=μ) t hb
   refine ⟨z,?_,h4⟩
   have hg:(eqGuard op t x y (.int k p) (.int k' q)).run P W=.ok () W:=by
    unfold eqGuard
    cases op<;>simp
   simp[hg,h3]
 ·cases hx

theorem not_ok {x:Operand}{x':Opnd}(he:Env C W L μ tm a)(h1:opnd x=some x'){v:AV}{ft:List Nat}(hx:xval H (val C tm) (.not x')=some (v,ft)):
  ∃ z,(Op.unary .not (a.eval x)).run P W=.ok z W∧VR W L μ v z:=by
 have e1:=zat he h1
 simp only[xval] at hx
 split at hx
 ·rename_i b hb
  cases hx
  rw[hb] at e1
  exact ⟨.bool !b,by simp[zbf e1,Op.unary],.bool⟩
 ·cases hx
theorem neg_ok {x:Operand}{x':Opnd}(he:Env C W L μ tm a)(h1:opnd x=some x'){v:AV}{ft:List Nat}(hx:xval H (val C tm) (.neg x')=some (v,ft)):
  ∃ z,(Op.unary .neg (a.eval x)).run P W=.ok z W∧VR W L μ v z:=by
 have e1:=zat he h1
 simp only[xval] at hx
 split at hx
 ·rename_i k n hb
  cases hx
  rw[hb] at e1
  exact ⟨.int k (k.wrap (0 - n)),by simp[vr_int e1,Op.unary,Op.intArith],.int⟩
 ·cases hx
theorem yam {s d:Nat}{i k:IntKind}{x:Operand}{x':Opnd}(he:Env C W L μ tm a)(hs:P.underlying s=some (.int i))(hd:P.underlying d=some (.int k))(h1:opnd x=some x'){v:AV}{ft:List Nat}(hx:xval H (val C tm) (.conv k x')=some (v,ft)):
  ∃ z,(convert s d (a.eval x)).run P W=.ok z W∧VR W L μ v z:=by
 have e1:=zat he h1
 simp only[xval] at hx
 split at hx
 ·rename_i k' n hb
  cases hx
  rw[hb] at e1
  exact ⟨.int k (k.wrap n),by simp[vr_int e1,convert,run_underlying hs,run_underlying hd,Conv.intToInt],.int⟩
 ·cases hx
theorem zqa {t:Nat}{d:TypeDesc}{x:Operand}{x':Opnd}(he:Env C W L μ tm a)(hd:P.underlying t=some d)(hn:∀ m,d≠.interface m)(h1:opnd x=some x'){v:AV}{ft:List Nat}(hx:xval H (val C tm) (.iface t x')=some (v,ft)):
  ∃ z,(Instr.makeInterface t (a.eval x)).run P W=.ok z W∧VR W L μ v z:=by
 have e1:=zat he h1
 simp only[xval] at hx
 cases hx
 refine ⟨.iface t (a.eval x),?_,.iface e1⟩
 cases d<;>simp[Instr.makeInterface,run_underlying hd]<;>exact absurd rfl (hn _)
theorem zuf {f:Fn}{as bs:Array Operand}{as' bs':List Opnd}(he:Env C W L μ tm a)(hf:∀ l,f≠.yield l)(h1:opndL as.toList=some as')(h2:opndL bs.toList=some bs'){v:AV}{ft:List Nat}(hx:xval H (val C tm) (.mkfn f as' bs')=some (v,ft)):
  ∃ z,(Instr.makeFunc f (as.map a.eval) (bs.map a.eval)).run P W=.ok z W∧VR W L μ v z:=by
 have e1:=zct he h1
 have e2:=zct he h2
 simp only[xval] at hx
 cases hx
 refine ⟨.func f (as.map a.eval) (bs.map a.eval),rfl,?_⟩
 have:=VR.fn (W:=W) (L:=L) (μ:=μ) hf e1.1 e1.2 e2.1 e2.2
 simpa [← Array.toList_map] using this

theorem yac {t:Nat}{x:Operand}{x':Opnd}{k:Option Nat}(hs:Sim P W L μ H)(he:Env C W L μ tm a)(hf:formT P t=some k)(h1:opnd x=some x'){v:AV}{ft:List Nat}(hx:xval H (val C tm) (.load k x')=some (v,ft)):
  ∃ z,(Instr.loadAt t (a.eval x)).run P W=.ok z W∧VR W L μ v z:=by
 have e1:=zat he h1
 simp only[xval] at hx
 split at hx
 ·rename_i b off hb
  rw[hb] at e1
  split at hx
  ·rename_i cs hcs
   cases hp:pickC k cs off with
   |none=>rw[hp] at hx;cases hx
   |some u=>
    rw[hp] at hx;cases hx
    obtain ⟨B,_,h2,h3⟩:=rd_ptr hs e1 hcs
    obtain ⟨z,h4,h5⟩:=h3.load hf (zhz hp)
    exact ⟨z,by simp[Instr.loadAt,h2,Instr.sureAddr,h4],h5⟩
  ·cases hx
 ·rename_i cs hb
  rw[hb] at e1
  cases hp:pickC k cs 0 with
  |none=>rw[hp] at hx;cases hx
  |some u=>
   rw[hp] at hx;cases hx
   obtain ⟨b,o,h2,h3⟩:=rd_rp e1
   obtain ⟨z,h4,h5⟩:=h3.load hf hp
   exact ⟨z,by simp[Instr.loadAt,h2,Instr.sureAddr,h4],h5⟩
 ·cases hx

theorem znx {t:Nat}{fs:List Field}(h:fieldsT P t=some fs):∃ gs:Array Field,P.underlying t=some (.struct gs)∧gs.toList=fs:=by
 unfold fieldsT at h
 split at h<;>cases h
 rename_i gs hg
 exact ⟨gs,hg,rfl⟩

theorem zvk {t f:Nat}{fs:List Field}{g:Field}{s:Nat}{x:Operand}{x':Opnd}(hs:Sim P W L μ H)(he:Env C W L μ tm a)(hf:fieldsT P t=some fs)(hg:fs[f]?=some g)(hsz:sizeT P g.type=some (s+1))(h1:opnd x=some x')
  {v:AV} {ft:List Nat} (hx:xval H (val C tm) (.fieldA g.offset x')=some (v,ft)):
  ∃ z,(Instr.fieldAt t (a.eval x) f).run P W=.ok z W∧VR W L μ v z:=by
 have e1:=zat he h1
 obtain ⟨gs,hu,rfl⟩:=znx hf
 rw[Array.getElem?_toList] at hg
 simp only[xval] at hx
 split at hx
 ·rename_i b o hb
  split at hx<;>cases hx
  rename_i ha
  rw[hb] at e1
  obtain ⟨B,hm,h2⟩:=zev hs e1 ha
  exact ⟨.pointer (some ⟨B,o+g.offset,none⟩),by simp[Instr.fieldAt,run_underlying hu,hg,h2,Instr.sureAddr,fieldPlace,zbb hsz,zci],.ptr hm⟩
 ·rename_i cs hb
  cases hx
  rw[hb] at e1
  obtain ⟨b,o,h2,h3⟩:=zlq e1
  exact ⟨.pointer (some ⟨b,o+g.offset,none⟩),by simp[Instr.fieldAt,run_underlying hu,hg,h2,Instr.sureAddr,fieldPlace,zbb hsz,zci],h3 _⟩
 ·cases hx

theorem zts {t:Nat}{k:Option Nat}(hf:formT P t=some k){cs:List AV}{rs:List Value}(h:VL W L μ cs rs){off:Nat}{v:AV}(hp:pickC k cs off=some v):
  ∃ z,(part t rs.toArray off).run P W=.ok z W∧VR W L μ v z:=by
 cases k with
 |none=>
  obtain ⟨h1,h2⟩:=zic hf W
  obtain ⟨r,h3,h4⟩:=h.get (i:=off) hp
  exact ⟨r,by simp[part,h1,h3],h4⟩
 |some k=>
  obtain ⟨h1,h2⟩:=zib hf W
  simp only[pickC] at hp
  split at hp
  ·rename_i hk
   cases hp
   refine ⟨.agg ((rs.drop off).take k).toArray,?_,agg_ok (by simpa using (h.drop off).take k)⟩
   simp[part,h1,zbb h2]
  ·cases hp

theorem zvj {t f:Nat}{fs:List Field}{g:Field}{k:Option Nat}{x:Operand}{x':Opnd}(he:Env C W L μ tm a)(hf:fieldsT P t=some fs)(hg:fs[f]?=some g)(hk:formT P g.type=some k)(h1:opnd x=some x')
  {v:AV} {ft:List Nat} (hx:xval H (val C tm) (.fieldV g.offset k x')=some (v,ft)):
  ∃ z,(Instr.field t (a.eval x) f).run P W=.ok z W∧VR W L μ v z:=by
 have e1:=zat he h1
 obtain ⟨gs,hu,rfl⟩:=znx hf
 rw[Array.getElem?_toList] at hg
 simp only[xval] at hx
 split at hx
 ·rename_i cs hb
  rw[hb] at e1
  cases hp:pickC k cs g.offset with
  |none=>rw[hp] at hx;cases hx
  |some u=>
   rw[hp] at hx;cases hx
   obtain ⟨rs,h2,h3⟩:=vr_agg e1
   obtain ⟨z,h4,h5⟩:=zts hk h3 hp
   exact ⟨z,by simp[Instr.field,run_underlying hu,hg,h2,asAgg,h4],h5⟩
 ·cases hx

theorem zqr {x:Operand}{x':Opnd}{i:Nat}(he:Env C W L μ tm a)(h1:opnd x=some x'){v:AV}{ft:List Nat}(hx:xval H (val C tm) (.extract x' i)=some (v,ft)):
  ∃ z,(Instr.extract (a.eval x) i).run P W=.ok z W∧VR W L μ v z:=by
 have e1:=zat he h1
 simp only[xval] at hx
 split at hx
 ·rename_i l hb
  rw[hb] at e1
  cases hp:l[i]? with
  |none=>rw[hp] at hx;cases hx
  |some u=>
   rw[hp] at hx;cases hx
   obtain ⟨rs,h2,h3⟩:=vr_tup e1
   obtain ⟨z,h4,h5⟩:=h3.get hp
   exact ⟨z,by simp[Instr.extract,h2,h4],h5⟩
 ·cases hx

theorem zuv {t n e s:Nat}{k:Option Nat}{x i:Operand}{x' i':Opnd}(he:Env C W L μ tm a)(hu:P.underlying t=some (.array n e))(hsz:sizeT P e=some s)(hk:formT P e=some k)(h1:opnd x=some x')(h2:opnd i=some i')
  {v:AV} {ft:List Nat} (hx:xval H (val C tm) (.indexV n s k x' i')=some (v,ft)):
  ∃ z,(Instr.index t (a.eval x) (a.eval i)).run P W=.ok z W∧VR W L μ v z:=by
 have e1:=zat he h1
 have e2:=zat he h2
 simp only[xval] at hx
 split at hx
 ·rename_i cs k' j hb hj
  rw[hb] at e1;rw[hj] at e2
  split at hx
  ·rename_i hin
   cases hp:pickC k cs (j.toNat * s) with
   |none=>rw[hp] at hx;cases hx
   |some u=>
    rw[hp] at hx;cases hx
    obtain ⟨rs,h3,h4⟩:=vr_agg e1
    obtain ⟨z,h5,h6⟩:=zts hk h4 hp
    exact ⟨z,by simp[Instr.index,vr_int e2,asIntOf,run_underlying hu,h3,hin.1,hin.2,zbb hsz,h5],h6⟩
  ·cases hx
 ·cases hx

theorem zuw {t e k:Nat}{x i:Operand}{x' i':Opnd}(hs:Sim P W L μ H)(he:Env C W L μ tm a)(hu:P.underlying t=some (.slice e))(hsz:sizeT P e=some k)(h1:opnd x=some x')(h2:opnd i=some i')
  {v:AV} {ft:List Nat} (hx:xval H (val C tm) (.indexA k none x' i')=some (v,ft)):
  ∃ z,(Instr.indexAt t (a.eval x) (a.eval i)).run P W=.ok z W∧VR W L μ v z:=by
 have e1:=zat he h1
 have e2:=zat he h2
 simp only[xval] at hx
 split at hx
 ·rename_i k' j hj
  rw[hj] at e2
  revert e1 hx
  generalize val C tm x'=u
  generalize a.eval x=X
  intro e1 hx
  cases u with
  |sl b off n k''=>
   dsimp only at hx
   split at hx<;>cases hx
   rename_i hin
   obtain ⟨B,cap,rs,t',h3,h4,h5,h6,h7⟩:=zdf hs e1 hin.2.2.2
   refine ⟨.pointer (some ⟨B,off+j.toNat * k,none⟩),?_,.ptr h3⟩
   simp[Instr.indexAt,vr_int e2,asIntOf,run_underlying hu,h4,hin.1,hin.2.1,zbb hsz,zci]
  |vs k'' es=>
   dsimp only at hx
   split at hx<;>cases hx
   rename_i hin
   obtain ⟨q1,q2,q3⟩:=hin
   have hlt:j.toNat<es.length:=by omega
   subst q3
   cases e1 with
   |dead h=>simp[headRef] at h
   |vs0=>simp at hlt
   |@vs _ _ b o cap _ rs g1 g2 g3 g4=>
    refine ⟨.pointer (some ⟨b,o+j.toNat * k,none⟩),?_,?_⟩
    ·simp[Instr.indexAt,vr_int e2,asIntOf,run_underlying hu,q1,q2,zbb hsz,zci]
    ·have hget:es[j.toNat]?=some (es.getD j.toNat .unk):=by rw[List.getD_eq_getElem?_getD,List.getElem?_eq_getElem hlt];rfl
     exact .rp (fun q=>rs j.toNat q) (fun q y hy=>g3 _ _ _ _ hget hy) (fun q y hy=>g4 _ _ _ _ hget hy)
  |_=>cases hx
 ·cases hx

theorem zqj {t n e k:Nat}{x i:Operand}{x' i':Opnd}(hs:Sim P W L μ H)(he:Env C W L μ tm a)(hu:P.underlying t=some (.array n e))(hsz:sizeT P e=some k)(h1:opnd x=some x')(h2:opnd i=some i')
  {v:AV} {ft:List Nat} (hx:xval H (val C tm) (.indexA k (some n) x' i')=some (v,ft)):
  ∃ z,(Instr.indexAt t (a.eval x) (a.eval i)).run P W=.ok z W∧VR W L μ v z:=by
 have e1:=zat he h1
 have e2:=zat he h2
 simp only[xval] at hx
 split at hx
 ·rename_i k' j hj
  rw[hj] at e2
  revert e1 hx
  generalize val C tm x'=u
  generalize a.eval x=X
  intro e1 hx
  cases u with
  |ptr b o=>
   dsimp only at hx
   split at hx<;>cases hx
   rename_i hin
   obtain ⟨B,h3,h4⟩:=zev hs e1 hin.2.2
   refine ⟨.pointer (some ⟨B,o+j.toNat * k,none⟩),?_,.ptr h3⟩
   simp[Instr.indexAt,vr_int e2,asIntOf,run_underlying hu,h4,Instr.sureAddr,hin.1,hin.2.1,zbb hsz,zci]
  |rp cs=>
   dsimp only at hx
   split at hx<;>cases hx
   rename_i hin
   obtain ⟨b,o,h3,h4⟩:=zlq e1
   refine ⟨.pointer (some ⟨b,o+j.toNat * k,none⟩),?_,h4 _⟩
   simp[Instr.indexAt,vr_int e2,asIntOf,run_underlying hu,h3,Instr.sureAddr,hin.1,hin.2,zbb hsz,zci]
  |_=>cases hx
 ·cases hx

theorem len_ok {t e:Nat}{x:Operand}{x':Opnd}(hs:Sim P W L μ H)(he:Env C W L μ tm a)(hu:P.underlying t=some (.slice e))(h1:opnd x=some x')
  {v:AV} {ft:List Nat} (hx:xval H (val C tm) (.len x')=some (v,ft)) (ty:Nat):
  ∃ z,(Builtin.len_ #[t] ty #[a.eval x]).run P W=.ok z W∧VR W L μ v z:=by
 have e1:=zat he h1
 simp only[xval] at hx
 cases hp:slLen H (val C tm x') with
 |none=>rw[hp] at hx;cases hx
 |some n=>
  rw[hp] at hx;cases hx
  obtain ⟨p,cap,h3,h4⟩:=znd hs e1 hp
  exact ⟨goInt n,by simp[Builtin.len_,run_underlying hu,h3],.int⟩

theorem zui {k:IntKind}:∀ {as:List AV} {rs:List Value} {acc:Int} {v:AV},VL W L μ as rs→maxK k acc as=some v→∃ z,(rs.foldlM Builtin.max2 (.int k acc)).run P W=.ok z W∧VR W L μ v z
 |[],rs,acc,v,h,hv=>by
   cases rs with
   |nil=>cases hv;exact ⟨.int k acc,by simp,.int⟩
   |cons r rs=>have:=h.1;simp at this
 |x::as,rs,acc,v,h,hv=>by
  cases rs with
  |nil=>have:=h.1;simp at this
  |cons r rs=>
   unfold maxK at hv
   split at hv
   ·rename_i heq;cases heq
   ·rename_i acc' k' b l heq
    cases heq
    split at hv
    case isFalse=>cases hv
    rename_i hk
    subst hk
    obtain ⟨z,h3,h4⟩:=zui h.tail hv
    refine ⟨z,?_,h4⟩
    have hmm:∀ p q:Int,(if q > p then q else p)=max p q:=fun p q=>by omega
    simp only[List.foldlM_cons,vr_int h.head,Builtin.max2,hmm,Sem.run_bind,Sem.run_pure,Result.andThen_ok]
    exact h3
   ·cases hv
theorem zug {k:IntKind}:∀ {as:List AV} {rs:List Value} {acc:Int} {v:AV},VL W L μ as rs→minK k acc as=some v→∃ z,(rs.foldlM Builtin.min2 (.int k acc)).run P W=.ok z W∧VR W L μ v z
 |[],rs,acc,v,h,hv=>by
   cases rs with
   |nil=>cases hv;exact ⟨.int k acc,by simp,.int⟩
   |cons r rs=>have:=h.1;simp at this
 |x::as,rs,acc,v,h,hv=>by
  cases rs with
  |nil=>have:=h.1;simp at this
  |cons r rs=>
   unfold minK at hv
   split at hv
   ·rename_i heq;cases heq
   ·rename_i acc' k' b l heq
    cases heq
    split at hv
    case isFalse=>cases hv
    rename_i hk
    subst hk
    obtain ⟨z,h3,h4⟩:=zug h.tail hv
    refine ⟨z,?_,h4⟩
    have hmm:∀ p q:Int,(if q<p then q else p)=min p q:=fun p q=>by omega
    simp only[List.foldlM_cons,vr_int h.head,Builtin.min2,hmm,Sem.run_bind,Sem.run_pure,Result.andThen_ok]
    exact h3
   ·cases hv
theorem max_ok {xs:Array Operand}{xs':List Opnd}(he:Env C W L μ tm a)(h1:opndL xs.toList=some xs'){v:AV}{ft:List Nat}(hx:xval H (val C tm) (.max xs')=some (v,ft))(ts:Array TypeId)(ty:Nat):
  ∃ z,(Builtin.max_ ts ty (xs.map a.eval)).run P W=.ok z W∧VR W L μ v z:=by
 have e1:=zct he h1
 simp only[xval] at hx
 revert hx e1
 generalize xs'.map (val C tm)=as
 rw[← Array.toList_map]
 generalize hR:(xs.map a.eval)=R
 intro hx e1
 cases hm:maxA as with
 |none=>rw[hm] at hx;cases hx
 |some u=>
  rw[hm] at hx;cases hx
  unfold maxA at hm
  split at hm
  ·rename_i k q l
   cases hR':R.toList with
   |nil=>rw[hR'] at e1;have:=e1.1;simp at this
   |cons r rs=>
    rw[hR'] at e1
    obtain ⟨z,h3,h4⟩:=zui (P:=P) e1.tail hm
    exact ⟨z,by simp[Builtin.max_,hR',vr_int e1.head,h3],h4⟩
  ·cases hm
theorem min_ok {xs:Array Operand}{xs':List Opnd}(he:Env C W L μ tm a)(h1:opndL xs.toList=some xs'){v:AV}{ft:List Nat}(hx:xval H (val C tm) (.min xs')=some (v,ft))(ts:Array TypeId)(ty:Nat):
  ∃ z,(Builtin.min_ ts ty (xs.map a.eval)).run P W=.ok z W∧VR W L μ v z:=by
 have e1:=zct he h1
 simp only[xval] at hx
 revert hx e1
 generalize xs'.map (val C tm)=as
 rw[← Array.toList_map]
 generalize hR:(xs.map a.eval)=R
 intro hx e1
 cases hm:minA as with
 |none=>rw[hm] at hx;cases hx
 |some u=>
  rw[hm] at hx;cases hx
  unfold minA at hm
  split at hm
  ·rename_i k q l
   cases hR':R.toList with
   |nil=>rw[hR'] at e1;have:=e1.1;simp at this
   |cons r rs=>
    rw[hR'] at e1
    obtain ⟨z,h3,h4⟩:=zug (P:=P) e1.tail hm
    exact ⟨z,by simp[Builtin.min_,hR',vr_int e1.head,h3],h4⟩
  ·cases hm
end
section
variable {P:Program} {W:World} {L:Nat→Prop} {μ:Mu} {H:List AB} {C:Cfg} {tm:List AV} {a:Act}

theorem zeg:∀ {s1 s2:List Bool} {l1 l2 m1 m2:List AV} {b:Bool},l1.length=s1.length→m1.length=s1.length→aeqS (s1++s2) (l1++l2) (m1++m2)=some b→∃ b1 b2,aeqS s1 l1 m1=some b1∧aeqS s2 l2 m2=some b2∧b=(b1&&b2)
 |[],s2,[],l2,[],m2,b,_,_,h=>⟨true,b,rfl,h,rfl⟩
 |[],s2,_::_,l2,_,m2,b,hl,_,_=>by simp at hl
 |[],s2,_,l2,_::_,m2,b,_,hl,_=>by simp at hl
 |_::_,s2,[],l2,_,m2,b,hl,_,_=>by simp at hl
 |_::_,s2,_,l2,[],m2,b,_,hl,_=>by simp at hl
 |q::s1,s2,x::l1,l2,y::m1,m2,b,hl,hm,h=>by
  have hl':l1.length=s1.length:=by simpa using hl
  have hm':m1.length=s1.length:=by simpa using hm
  simp only[List.cons_append] at h
  unfold aeqS at h
  split at h
  ·rename_i h0 _ _;cases h0
  ·rename_i s k p l k' q m h0 h1 h2
   cases h0;cases h1;cases h2
   split at h
   ·rename_i hk
    cases hr:aeqS (s1++s2) (l1++l2) (m1++m2) with
    |none=>rw[hr] at h;cases h
    |some c=>
     rw[hr] at h;cases h
     obtain ⟨b1,b2,e1,e2,rfl⟩:=zeg hl' hm' hr
     exact ⟨(p==q)&&b1,b2,by simp[aeqS,hk,e1],e2,by simp[Bool.and_assoc]⟩
   ·cases h
  ·rename_i s p l q m h0 h1 h2
   cases h0;cases h1;cases h2
   cases hr:aeqS (s1++s2) (l1++l2) (m1++m2) with
   |none=>rw[hr] at h;cases h
   |some c=>
    rw[hr] at h;cases h
    obtain ⟨b1,b2,e1,e2,rfl⟩:=zeg hl' hm' hr
    exact ⟨(p==q)&&b1,b2,by simp[aeqS,e1],e2,by simp[Bool.and_assoc]⟩
  ·cases h
theorem zcm:∀ {s:List Bool} {l m:List AV} {b:Bool},aeqS s l m=some b→l.length=s.length∧m.length=s.length
 |s,l,m,b,h=>by
  unfold aeqS at h
  split at h
  ·exact ⟨rfl,rfl⟩
  ·split at h
   ·rename_i s k p l k' q m _
    cases hr:aeqS s l m with
    |none=>rw[hr] at h;cases h
    |some c=>have:=zcm hr;simp[this]
   ·cases h
  ·rename_i s p l q m
   cases hr:aeqS s l m with
   |none=>rw[hr] at h;cases h
   |some c=>have:=zcm hr;simp[this]
  ·cases h

def FlatOk (P:Program)(D:Nat)(t:Nat)(s:List Bool):Prop:=
 ∀ (W:World) (L:Nat→Prop) (μ:Mu) (X Y:Array Value) (off:Nat) (l m:List AV) (b:Bool),VL W L μ l ((X.toList.drop off).take s.length)→VL W L μ m ((Y.toList.drop off).take s.length)→aeqS s l m=some b →
  ∃ vx vy,(part t X off).run P W=.ok vx W∧(part t Y off).run P W=.ok vy W∧(Op.equalIn D t vx vy).run P W=.ok b W

theorem zhd {D:Nat}{flat:Nat→Option (List Bool)}(hf:∀ t s,flat t=some s→FlatOk P D t s):∀ {fs:List Field} {off:Nat} {s:List Bool},flatF flat off fs=some s →
  ∀ (W:World) (L:Nat→Prop) (μ:Mu) (X Y:Array Value) (l m:List AV) (b:Bool),VL W L μ l ((X.toList.drop (off)).take s.length)→VL W L μ m ((Y.toList.drop (off)).take s.length)→aeqS s l m=some b →
   (Op.eqFields D X Y fs).run P W=.ok b W
 |[],off,s,h,W,L,μ,X,Y,l,m,b,_,_,hb=>by
   simp[flatF] at h
   subst h
   have hl:=zcm hb
   have:l=[]:=List.eq_nil_of_length_eq_zero (by simpa using hl.1)
   subst this
   have:m=[]:=List.eq_nil_of_length_eq_zero (by simpa using hl.2)
   subst this
   cases hb
   simp[Op.eqFields]
 |f::fs,off,s,h,W,L,μ,X,Y,l,m,b,h3,h4,hb=>by
  unfold flatF at h
  split at h
  ·rename_i hn
   split at h
   ·rename_i s1 hq
    cases hr:flatF flat (off+s1.length) fs with
    |none=>rw[hr] at h;cases h
    |some s2=>
     rw[hr] at h;cases h
     have hl:=zcm hb
     simp only[List.length_append] at hl h3 h4
     have e1:l=l.take s1.length++l.drop s1.length:=(List.take_append_drop _ l).symm
     have e2:m=m.take s1.length++m.drop s1.length:=(List.take_append_drop _ m).symm
     rw[e1,e2] at hb
     obtain ⟨b1,b2,g1,g2,rfl⟩:=zeg (by simp;omega) (by simp;omega) hb
     have hv1:VL W L μ (l.take s1.length) ((X.toList.drop off).take s1.length):=by
      have:=h3.take s1.length
      rwa [List.take_take,show min s1.length (s1.length+s2.length)=s1.length by omega] at this
     have hv2:VL W L μ (m.take s1.length) ((Y.toList.drop off).take s1.length):=by
      have:=h4.take s1.length
      rwa [List.take_take,show min s1.length (s1.length+s2.length)=s1.length by omega] at this
     obtain ⟨vx,vy,p1,p2,p3⟩:=hf f.type s1 hq W L μ X Y off _ _ _ hv1 hv2 g1
     have hd1:VL W L μ (l.drop s1.length) ((X.toList.drop (off+s1.length)).take s2.length):=by
      have:=h3.drop s1.length
      rw[List.drop_take,List.drop_drop] at this
      simpa using this
     have hd2:VL W L μ (m.drop s1.length) ((Y.toList.drop (off+s1.length)).take s2.length):=by
      have:=h4.drop s1.length
      rw[List.drop_take,List.drop_drop] at this
      simpa using this
     have ih:=zhd hf hr W L μ X Y (l.drop s1.length) (m.drop s1.length) b2 hd1 hd2 g2
     cases b1
     ·simp[Op.eqFields,hn.1,hn.2,p1,p2,p3]
     ·simp[Op.eqFields,hn.1,hn.2,p1,p2,p3,ih]
   ·cases h
  ·cases h

theorem zja (n:Nat)(s:List Bool):(List.replicate n s).flatten.length=n * s.length:=by
 induction n with
 |zero=>simp
 |succ n ih=>rw[List.replicate_succ,List.flatten_cons,List.length_append,ih,Nat.succ_mul,Nat.add_comm]

theorem zih {D e:Nat}{s:List Bool}(hf:FlatOk P D e s)(W:World)(L:Nat→Prop)(μ:Mu)(X Y:Array Value):∀ (k j:Nat) (l m:List AV) (b:Bool),
  VL W L μ l ((X.toList.drop (j * s.length)).take (k * s.length))→VL W L μ m ((Y.toList.drop (j * s.length)).take (k * s.length))→aeqS (List.replicate k s).flatten l m=some b→(Op.eqItems D e s.length X Y (List.range' j k)).run P W=.ok b W
 |0,j,l,m,b,_,_,h=>by
  have hl:=zcm h
  have:l=[]:=List.eq_nil_of_length_eq_zero (by simpa using hl.1)
  subst this
  have:m=[]:=List.eq_nil_of_length_eq_zero (by simpa using hl.2)
  subst this
  cases h
  simp[Op.eqItems]
 |k+1,j,l,m,b,h3,h4,hb=>by
  have hl:=zcm hb
  rw[zja] at hl
  rw[Nat.succ_mul] at hl h3 h4
  have e1:l=l.take s.length++l.drop s.length:=(List.take_append_drop _ l).symm
  have e2:m=m.take s.length++m.drop s.length:=(List.take_append_drop _ m).symm
  rw[List.replicate_succ,List.flatten_cons,e1,e2] at hb
  obtain ⟨b1,b2,g1,g2,rfl⟩:=zeg (by simp;omega) (by simp;omega) hb
  have hv1:VL W L μ (l.take s.length) ((X.toList.drop (j * s.length)).take s.length):=by
   have:=h3.take s.length
   rwa [List.take_take,show min s.length (k * s.length+s.length)=s.length by omega] at this
  have hv2:VL W L μ (m.take s.length) ((Y.toList.drop (j * s.length)).take s.length):=by
   have:=h4.take s.length
   rwa [List.take_take,show min s.length (k * s.length+s.length)=s.length by omega] at this
  obtain ⟨vx,vy,p1,p2,p3⟩:=hf W L μ X Y (j * s.length) _ _ _ hv1 hv2 g1
  have hd1:VL W L μ (l.drop s.length) ((X.toList.drop ((j+1) * s.length)).take (k * s.length)):=by
   have:=h3.drop s.length
   rw[List.drop_take,List.drop_drop] at this
   rw[Nat.succ_mul]
   simpa using this
  have hd2:VL W L μ (m.drop s.length) ((Y.toList.drop ((j+1) * s.length)).take (k * s.length)):=by
   have:=h4.drop s.length
   rw[List.drop_take,List.drop_drop] at this
   rw[Nat.succ_mul]
   simpa using this
  have ih:=zih hf W L μ X Y k (j+1) (l.drop s.length) (m.drop s.length) b2 hd1 hd2 g2
  rw[List.range'_succ]
  simp only[Op.eqItems,Sem.run_bind,p1,p2,p3,Result.andThen_ok]
  cases b1
  ·simp
  ·simpa using ih

theorem zme:∀ {d t:Nat} {s:List Bool},flatT P d t=some s→∀ D,d≤D→FlatOk P D t s
 |0,t,s,h=>by cases h
 |d+1,t,s,h=>by
  intro D hD W L μ X Y off l m b h3 h4 h5
  obtain ⟨D,rfl⟩:∃ D',D=D'+1:=⟨D - 1,by omega⟩
  have hl:=zcm h5
  unfold flatT at h
  have one:∀ {l:List AV} {X:Array Value},l.length=1→VL W L μ l ((X.toList.drop off).take 1)→∃ x r,l=[x]∧X[off]?=some r∧VR W L μ x r:=by
   intro l X h1 h2
   match l,h1 with
   |[x],_=>
     obtain ⟨r,hr,hvr⟩:=h2.get (i:=0) rfl
     exact ⟨x,r,rfl,by rw[List.getElem?_take_of_lt (by omega),List.getElem?_drop] at hr;simpa using hr,hvr⟩
  split at h
  ·rename_i fs hu
   split at h
   ·cases h
   ·rename_i hp
    split at h
    ·rename_i s' hf
     split at h
     ·rename_i hsz
      cases h
      have hagg:(isAgg t).run P W=.ok true W:=by simp[isAgg,run_underlying hu]
      have hfo:P.fieldsOf t=fs:=by simp[Program.fieldsOf,hu]
      refine ⟨.agg (X.extract off (off+s.length)),.agg (Y.extract off (off+s.length)),by simp[part,hagg,zbb hsz],by simp[part,hagg,zbb hsz],?_⟩
      have hu':P.underlying t=some (.struct (P.fieldsOf t)):=by rw[hfo];exact hu
      rw[run_equalIn_struct W D t _ _ hu' (by simpa using hp),hfo]
      refine zhd (fun t' n' ht=>zme ht D (by omega)) hf W L μ _ _ l m b ?_ ?_ h5
      ·simpa [Array.toList_extract,List.take_take] using h3
      ·simpa [Array.toList_extract,List.take_take] using h4
     ·cases h
    ·cases h
  ·rename_i k hu
   split at h<;>cases h
   obtain ⟨x,r,rfl,hr,hvr⟩:=one (by simpa using hl.1) (by simpa using h3)
   obtain ⟨y,q,rfl,hq,hvq⟩:=one (by simpa using hl.2) (by simpa using h4)
   have hagg:(isAgg t).run P W=.ok false W:=by simp[isAgg,run_underlying hu]
   refine ⟨r,q,by simp[part,hagg,hr],by simp[part,hagg,hq],?_⟩
   unfold aeqS at h5
   split at h5
   ·rename_i h0 _ _;cases h0
   ·rename_i s k' p l' k'' q' m' e0 e1 e2
    cases e0;cases e1;cases e2
    split at h5
    ·rename_i hk;subst hk
     simp[aeqS] at h5;subst h5
     rw[vr_int hvr,vr_int hvq]
     exact run_equalIn_int W D t k' k p q' hu
    ·cases h5
   ·rename_i e0 _ _;cases e0
   ·cases h5
  ·rename_i hu
   split at h<;>cases h
   obtain ⟨x,r,rfl,hr,hvr⟩:=one (by simpa using hl.1) (by simpa using h3)
   obtain ⟨y,q,rfl,hq,hvq⟩:=one (by simpa using hl.2) (by simpa using h4)
   have hagg:(isAgg t).run P W=.ok false W:=by simp[isAgg,run_underlying hu]
   refine ⟨r,q,by simp[part,hagg,hr],by simp[part,hagg,hq],?_⟩
   unfold aeqS at h5
   split at h5
   ·rename_i h0 _ _;cases h0
   ·rename_i e0 _ _;cases e0
   ·rename_i s p l' q' m' e0 e1 e2
    cases e0;cases e1;cases e2
    simp[aeqS] at h5;subst h5
    rw[zbf hvr,zbf hvq]
    exact run_equalIn_bool W D t p q' hu
   ·cases h5
  ·rename_i n e hu
   split at h
   ·rename_i s' hf
    split at h<;>cases h
    rename_i hsz
    obtain ⟨hsz,hse⟩:=hsz
    have hagg:(isAgg t).run P W=.ok true W:=by simp[isAgg,run_underlying hu]
    have hc:P.cellsOf e=s'.length:=by
     unfold Program.cellsOf
     unfold sizeT at hse
     rw[hse];rfl
    obtain ⟨i,hi,_⟩:∃ i,P.info? e=some i∧i.size=s'.length:=by
     unfold sizeT at hse
     exact Option.map_eq_some_iff.1 hse
    rw[zja] at h3 h4
    refine ⟨.agg (X.extract off (off+n * s'.length)),.agg (Y.extract off (off+n * s'.length)),by simp[part,hagg,zbb hsz],by simp[part,hagg,zbb hsz],?_⟩
    rw[run_equalIn_array W D _ _ hu hi,hc,List.range_eq_range']
    refine zih (zme hf D (by omega)) W L μ _ _ n 0 l m b ?_ ?_ h5
    ·simpa [Array.toList_extract,List.take_take] using h3
    ·simpa [Array.toList_extract,List.take_take] using h4
   ·cases h
  ·cases h

theorem zvo {t:Nat}{m:Array (String × TypeId)}(hu:P.underlying t=some (.interface m))(W:World)(d:Nat):(Op.equalIn (d+1) t .nilIface .nilIface).run P W=.ok true W∧(∀ u v,(Op.equalIn (d+1) t .nilIface (.iface u v)).run P W=.ok false W)∧(∀ u v,(Op.equalIn (d+1) t (.iface u v) .nilIface).run P W=.ok false W):=
 ⟨by simp only[Op.equalIn,Sem.run_bind,run_underlying hu,Result.andThen_ok,Sem.run_pure],fun u v=>by simp only[Op.equalIn,Sem.run_bind,run_underlying hu,Result.andThen_ok,Sem.run_pure],fun u v=>by simp only[Op.equalIn,Sem.run_bind,run_underlying hu,Result.andThen_ok,Sem.run_pure]⟩
theorem zym {t:Nat}{p q:Array TypeId}{r:Bool}(hu:P.underlying t=some (.func p q r))(W:World)(d:Nat):(Op.equalIn (d+1) t .nilFunc .nilFunc).run P W=.ok true W∧(∀ f u v,(Op.equalIn (d+1) t .nilFunc (.func f u v)).run P W=.ok false W)∧(∀ f u v,(Op.equalIn (d+1) t (.func f u v) .nilFunc).run P W=.ok false W):=
 ⟨by simp only[Op.equalIn,Sem.run_bind,run_underlying hu,Result.andThen_ok,Sem.run_pure],fun f u v=>by simp only[Op.equalIn,Sem.run_bind,run_underlying hu,Result.andThen_ok,Sem.run_pure],fun f u v=>by simp only[Op.equalIn,Sem.run_bind,run_underlying hu,Result.andThen_ok,Sem.run_pure]⟩
theorem zjd {t:Nat}{m:Array (String × TypeId)}(hu:P.underlying t=some (.interface m))(W:World):(Op.equal t .nilIface .nilIface).run P W=.ok true W∧(∀ u v,(Op.equal t .nilIface (.iface u v)).run P W=.ok false W)∧(∀ u v,(Op.equal t (.iface u v) .nilIface).run P W=.ok false W):=zvo hu W 9999
theorem zmh {t:Nat}{p q:Array TypeId}{r:Bool}(hu:P.underlying t=some (.func p q r))(W:World):(Op.equal t .nilFunc .nilFunc).run P W=.ok true W∧(∀ f u v,(Op.equal t .nilFunc (.func f u v)).run P W=.ok false W)∧(∀ f u v,(Op.equal t (.func f u v) .nilFunc).run P W=.ok false W):=zym hu W 9999

theorem keq_ok {t:Nat}{kn:EK}(hk:keyT P t=some kn∨(kn=.nilI∧∃ m,P.underlying t=some (.interface m))∨(kn=.nilF∧∃ p q r,P.underlying t=some (.func p q r))){x y:AV}{b:Bool}(h:aeqK kn x y=some b){vx vy:Value}(hx:VR W L μ x vx)(hy:VR W L μ y vy):(Op.equal t vx vy).run P W=.ok b W:=by
 rcases hk with hk|⟨rfl,m,hu⟩|⟨rfl,p,q,r,hu⟩
 ·unfold keyT at hk
  split at hk
  ·rename_i k hu
   cases hk
   unfold aeqK at h
   split at h
   all_goals first
    |(rename_i h0;cases h0;done)
    | (rename_i k1 p k2 q _
       split at h<;>cases h
       rename_i e;subst e
       rw[vr_int hx,vr_int hy]
       exact run_equalIn_int W _ t _ _ p q hu)
    |cases h
  ·rename_i hu
   cases hk
   unfold aeqK at h
   split at h
   all_goals first
    |(rename_i h0;cases h0;done)
    | (rename_i p q _
       cases h
       rw[zbf hx,zbf hy]
       exact run_equalIn_bool W _ t p q hu)
    |cases h
  ·rename_i fs hu
   cases hf:flatT P 5 t with
   |none=>rw[hf] at hk;cases hk
   |some s=>
    rw[hf] at hk;cases hk
    unfold aeqK at h
    split at h
    all_goals first
     |(rename_i h0;cases h0;done)
     |cases h;done
     |skip
    rename_i s' l m h0
    cases h0
    obtain ⟨xs,rfl,hxs⟩:=vr_agg hx
    obtain ⟨ys,rfl,hys⟩:=vr_agg hy
    have hl:=zcm h
    have hxl:xs.length=s.length:=hxs.1.symm.trans hl.1
    have hyl:ys.length=s.length:=hys.1.symm.trans hl.2
    obtain ⟨vx,vy,p1,p2,p3⟩:=zme hf 10000 (by omega) W L μ xs.toArray ys.toArray 0 l m b (by simpa [List.take_of_length_le (Nat.le_of_eq hxl)] using hxs) (by simpa [List.take_of_length_le (Nat.le_of_eq hyl)] using hys) h
    have hagg:(isAgg t).run P W=.ok true W:=by simp[isAgg,run_underlying hu]
    have hsz:sizeT P t=some s.length:=by
     unfold flatT at hf
     rw[hu] at hf
     simp only at hf
     split at hf
     ·cases hf
     ·split at hf
      ·split at hf
       ·rename_i hh;cases hf;exact hh
       ·cases hf
      ·cases hf
    simp[part,hagg,zbb hsz,← hxl] at p1
    simp[part,hagg,zbb hsz,← hyl] at p2
    rw[← p1,← p2] at p3
    exact p3
  ·cases hk
 ·unfold aeqK at h
  split at h
  all_goals first
   |(rename_i h0;cases h0;done)
   |(rename_i h0 _;cases h0;done)
   |(rename_i h0 _ _;cases h0;done)
   |(cases h;rw[zbp hx,zbp hy];exact (zjd hu W).1)
   |(cases h;obtain ⟨_,f2,_⟩:=zbu hy;rw[zbp hx,f2];exact (zjd hu W).2.1 _ _)
   |(cases h;obtain ⟨_,f2,_⟩:=zbu hx;rw[zbp hy,f2];exact (zjd hu W).2.2 _ _)
   |cases h
 ·unfold aeqK at h
  split at h
  all_goals first
   |(rename_i h0;cases h0;done)
   |(rename_i h0 _;cases h0;done)
   |(rename_i h0 _ _;cases h0;done)
   |(cases h;rw[zbt hx,zbt hy];exact (zmh hu W).1)
   |(cases h;obtain ⟨_,_,f2,_⟩:=vr_fn hy;rw[zbt hx,f2];exact (zmh hu W).2.1 _ _ _)
   |(cases h;obtain ⟨_,_,f2,_⟩:=vr_fn hx;rw[zbt hy,f2];exact (zmh hu W).2.2 _ _ _)
   |cases h

theorem eq_ok {op:BinOp}(hop:op=.eql∨op=.neq){t:Nat}{x y:Operand}{x' y':Opnd}{kn:EK}(he:Env C W L μ tm a)(kint:kn≠.int)
  (hk:keyT P t=some kn∨(kn=.nilI∧∃ m,P.underlying t=some (.interface m))∨(kn=.nilF∧∃ p q r,P.underlying t=some (.func p q r)))
  (hk2:∀ s,kn=.agg s→P.eqGuardType P.depth t=false) (hk3:kn=.nilI→isNil x=true∨isNil y=true)
  (h1:opnd x=some x') (h2:opnd y=some y') {v:AV} {ft:List Nat} (hx:xval H (val C tm) (.eq kn (isNeq op) x' y')=some (v,ft)):
  ∃ z,(do eqGuard op t x y (a.eval x) (a.eval y);binOp op t (a.eval x) (a.eval y):Sem Value).run P W=.ok z W∧VR W L μ v z:=by
 have e1:=zat he h1
 have e2:=zat he h2
 simp only[xval] at hx
 cases hb:aeqK kn (val C tm x') (val C tm y') with
 |none=>rw[hb] at hx;cases hx
 |some b=>
  rw[hb] at hx;cases hx
  have goal:∀ {vx vy:Value},(eqGuard op t x y vx vy).run P W=.ok () W→(∀ w,(binOp op t vx vy).run P w=((Op.equal t vx vy).run P w).andThen fun b w'=>.ok (.bool (bif isNeq op then !b else b)) w')→(Op.equal t vx vy).run P W=.ok b W →
    (do eqGuard op t x y vx vy;binOp op t vx vy:Sem Value).run P W=.ok (.bool (bif isNeq op then !b else b)) W:=by
   intro vx vy g1 g2 g3
   simp[g1,g2,g3]
  have hq:=keq_ok hk hb e1 e2
  refine ⟨_,goal ?_ ?_ hq,.bool⟩
  ·clear goal hq
   unfold aeqK at hb
   split at hb
   ·rename_i hp hq';rw[hp] at e1;rw[hq'] at e2
    rw[zbp e1,zbp e2]
    have hcon:((match x with|.const _=>true|_=>false) || (match y with|.const _=>true|_=>false))=true:=by
     rcases hk3 rfl with kx|kx
     ·cases x<;>simp_all [isNil]
     ·cases y<;>simp_all [isNil]
    rcases hop with rfl|rfl<;>simp[eqGuard]<;>(intro g1 g2;cases x<;>cases y<;>simp_all)
   ·rename_i hp hq';rw[hp] at e1;rw[hq'] at e2
    obtain ⟨w2,f2,_⟩:=zbu e2
    rw[zbp e1,f2]
    rcases hop with rfl|rfl<;>simp[eqGuard]
   ·rename_i hp hq';rw[hp] at e1;rw[hq'] at e2
    obtain ⟨w2,f2,_⟩:=zbu e1
    rw[zbp e2,f2]
    rcases hop with rfl|rfl<;>simp[eqGuard]
   ·rename_i hp hq';rw[hp] at e1;rw[hq'] at e2
    rw[zbt e1,zbt e2]
    rcases hop with rfl|rfl<;>simp[eqGuard]
   ·rename_i hp hq';rw[hp] at e1;rw[hq'] at e2
    obtain ⟨_,_,f2,_⟩:=vr_fn e2
    rw[zbt e1,f2]
    rcases hop with rfl|rfl<;>simp[eqGuard]
   ·rename_i hp hq';rw[hp] at e1;rw[hq'] at e2
    obtain ⟨_,_,f2,_⟩:=vr_fn e1
    rw[zbt e2,f2]
    rcases hop with rfl|rfl<;>simp[eqGuard]
   ·rename_i p q hp hq';rw[hp] at e1;rw[hq'] at e2
    rw[zbf e1,zbf e2]
    rcases hop with rfl|rfl<;>simp[eqGuard]
   ·exact absurd rfl kint
   ·rename_i s l m hp hq';rw[hp] at e1;rw[hq'] at e2
    obtain ⟨xs,f1,_⟩:=vr_agg e1
    obtain ⟨ys,f2,_⟩:=vr_agg e2
    rw[f1,f2]
    exact run_eqGuard_agg W op t x y _ _ (hk2 s rfl)
   ·cases hb
  ·intro w
   unfold aeqK at hb
   split at hb
   ·rename_i hp hq';rw[hp] at e1;rw[hq'] at e2
    rw[zbp e1,zbp e2]
    rcases hop with rfl|rfl<;>simp[binOp,isNeq]
   ·rename_i hp hq';rw[hp] at e1;rw[hq'] at e2
    obtain ⟨w2,f2,_⟩:=zbu e2
    rw[zbp e1,f2]
    rcases hop with rfl|rfl<;>simp[binOp,isNeq]
   ·rename_i hp hq';rw[hp] at e1;rw[hq'] at e2
    obtain ⟨w2,f2,_⟩:=zbu e1
    rw[zbp e2,f2]
    rcases hop with rfl|rfl<;>simp[binOp,isNeq]
   ·rename_i hp hq';rw[hp] at e1;rw[hq'] at e2
    rw[zbt e1,zbt e2]
    rcases hop with rfl|rfl<;>simp[binOp,isNeq]
   ·rename_i hp hq';rw[hp] at e1;rw[hq'] at e2
    obtain ⟨_,_,f2,_⟩:=vr_fn e2
    rw[zbt e1,f2]
    rcases hop with rfl|rfl<;>simp[binOp,isNeq]
   ·rename_i hp hq';rw[hp] at e1;rw[hq'] at e2
    obtain ⟨_,_,f2,_⟩:=vr_fn e1
    rw[zbt e2,f2]
    rcases hop with rfl|rfl<;>simp[binOp,isNeq]
   ·rename_i p q hp hq';rw[hp] at e1;rw[hq'] at e2
    rw[zbf e1,zbf e2]
    rcases hop with rfl|rfl<;>simp[binOp,isNeq]
   ·exact absurd rfl kint
   ·rename_i s l m hp hq';rw[hp] at e1;rw[hq'] at e2
    obtain ⟨xs,f1,_⟩:=vr_agg e1
    obtain ⟨ys,f2,_⟩:=vr_agg e2
    rw[f1,f2]
    rcases hop with rfl|rfl<;>simp[binOp,isNeq]
   ·cases hb
end
section
variable {P:Program} {W:World} {L:Nat→Prop} {μ:Mu} {H:List AB} {C:Cfg} {tm:List AV} {a:Act}

theorem zdq {t e k by':Nat}(h:slElem P t=some (e,k,by')):P.underlying t=some (.slice e)∧sizeT P e=some k∧∃ i,P.info? e=some i∧i.size=k∧i.bytes=by':=by
 unfold slElem at h
 split at h
 ·rename_i e' hu
  cases hi:P.info? e' with
  |none=>rw[hi] at h;cases h
  |some i=>rw[hi] at h;cases h;exact ⟨hu,by simp[sizeT,hi],i,hi,rfl,rfl⟩
 ·cases h

theorem zvn {t e:Nat}(hu:P.underlying t=some (.slice e))(W:World)(d:Nat)(p:Option Addr)(n c:Nat):(Op.equalIn (d+1) t (.slice p n c) (.slice none 0 0)).run P W=.ok p.isNone W:=by
 cases p<;>simp only[Op.equalIn,Sem.run_bind,run_underlying hu,Result.andThen_ok,Sem.run_pure]<;>rfl
theorem zyl {t e:Nat}(hu:P.underlying t=some (.slice e))(W:World)(p:Option Addr)(n c:Nat):(Op.equal t (.slice p n c) (.slice none 0 0)).run P W=.ok p.isNone W:=zvn hu W 9999 p n c
theorem zyf {op:BinOp}(hop:op=.eql∨op=.neq){t e:Nat}{x y:Operand}{x':Opnd}(hs:Sim P W L μ H)(he:Env C W L μ tm a)(hu:P.underlying t=some (.slice e))(hy:isNilS y=true)(h1:opnd x=some x')
  {v:AV} {ft:List Nat} (hx:xval H (val C tm) (.isnil (isNeq op) x')=some (v,ft)):
  ∃ z,(do eqGuard op t x y (a.eval x) (a.eval y);binOp op t (a.eval x) (a.eval y):Sem Value).run P W=.ok z W∧VR W L μ v z:=by
 have e1:=zat he h1
 have ey:a.eval y=.slice none 0 0:=by
  unfold isNilS at hy
  split at hy
  ·rfl
  ·cases hy
 rw[ey]
 simp only[xval] at hx
 revert e1 hx
 generalize val C tm x'=u
 generalize a.eval x=X
 intro hx e1
 have goal:∀ (p:Option Addr) (n c:Nat) (b:Bool),X=.slice p n c→p.isNone=b→(do eqGuard op t x y X (.slice none 0 0);binOp op t X (.slice none 0 0):Sem Value).run P W=.ok (.bool (bif isNeq op then !b else b)) W:=by
  intro p n c b hp hb
  subst hp hb
  have hg:(eqGuard op t x y (.slice p n c) (.slice none 0 0)).run P W=.ok () W:=by
   rcases hop with rfl|rfl<;>simp[eqGuard]
  rcases hop with rfl|rfl<;>simp[hg,binOp,zyl hu,isNeq]
 cases u with
 |nils=>
  cases hx
  exact ⟨_,goal _ _ _ true (zio e1) rfl,by cases isNeq op<;>exact .bool⟩
 |vs k es=>
  cases es with
  |nil=>cases hx
  |cons q es=>
   cases hx
   cases e1 with
   |dead h=>simp[headRef] at h
   |vs rs=>exact ⟨_,goal _ _ _ false rfl rfl,by cases isNeq op<;>exact .bool⟩
 |sl b off n k=>
  dsimp only at hx
  split at hx<;>cases hx
  rename_i ha
  obtain ⟨B,cap,rs,t',g1,g2,_⟩:=zdf hs e1 ha
  exact ⟨_,goal _ _ _ false g2 rfl,by cases isNeq op<;>exact .bool⟩
 |_=>cases hx

theorem zss {t e k m:Nat}{x:Operand}{x':Opnd}{lo hi:Option Operand}{lo' hi':Option Opnd}(hs:Sim P W L μ H)(he:Env C W L μ tm a)(hu:P.underlying t=some (.array m e))(hsz:sizeT P e=some k)(_hk:0<k)(h1:opnd x=some x')
  (h2:lo.elim (some none) (fun l=>(opnd l).map some)=some lo') (h3:hi.elim (some none) (fun l=>(opnd l).map some)=some hi')
  {v:AV} {ft:List Nat} (hx:xval H (val C tm) (.sliceA k m x' lo' hi')=some (v,ft)):
  ∃ z,(Instr.sliceAt t (a.eval x) (lo.map a.eval) (hi.map a.eval) none).run P W=.ok z W∧VR W L μ v z:=by
 have e1:=zat he h1
 simp only[xval] at hx
 split at hx
 case h_2=>cases hx
 rename_i b o kl l kh h hp hl hh
 rw[hp] at e1
 split at hx
 case isFalse=>cases hx
 rename_i hin
 obtain ⟨i1,i2,i3⟩:=hin
 split at hx
 case h_2=>cases hx
 rename_i cs hb
 split at hx
 case isFalse=>cases hx
 rename_i hlen
 obtain ⟨B,hm,hX⟩:=zev hs e1 (by unfold alive;rw[hb])
 obtain ⟨_,hlt,blk,ob,q1,q2,q3⟩:=hs.live _ _ hm
 rw[hb] at q1;cases q1
 cases q3 with
 |@cells _ rs t' hsz' hvs=>
 have hhi:(match hi.map a.eval with|some v=>Instr.sliceBound v m .sliceAlen|none=>pure m:Sem Nat).run P W=.ok h.toNat W:=by
  cases hi with
  |none=>
   simp at h3;subst h3
   simp at hh
   simp;omega
  |some q=>
   simp at h3
   obtain ⟨q',hq,rfl⟩:=h3
   have e3:=zat he hq
   simp at hh
   rw[hh] at e3
   have hc:0≤h∧h≤(m:Int):=⟨by omega,by omega⟩
   simp only[Option.map_some,Instr.sliceBound,vr_int e3,asIntOf,Sem.run_bind,Sem.run_pure,Result.andThen_ok,if_pos hc]
 have hlo:(match lo.map a.eval with|some v=>Instr.sliceBound v h.toNat .sliceB|none=>pure 0:Sem Nat).run P W=.ok l.toNat W:=by
  cases lo with
  |none=>
   simp at h2;subst h2
   simp at hl
   simp;omega
  |some q=>
   simp at h2
   obtain ⟨q',hq,rfl⟩:=h2
   have e3:=zat he hq
   simp at hl
   rw[hl] at e3
   have hc:0≤l∧l≤(h.toNat:Int):=⟨by omega,by omega⟩
   simp only[Option.map_some,Instr.sliceBound,vr_int e3,asIntOf,Sem.run_bind,Sem.run_pure,Result.andThen_ok,if_pos hc]
 have hb':(Instr.sliceBounds false m m (lo.map a.eval) (hi.map a.eval) none).run P W=.ok (l.toNat,h.toNat,m) W:=by
  unfold Instr.sliceBounds
  cases hlo':lo.map a.eval<;>cases hhi':hi.map a.eval<;>rw[hlo'] at hlo<;>rw[hhi'] at hhi<;>simp at hlo hhi<;>simp[hlo,hhi]
 have hrun:(Instr.sliceAt t (a.eval x) (lo.map a.eval) (hi.map a.eval) none).run P W=.ok (.slice (some (if m=l.toNat then ⟨B,o,none⟩ else ⟨B,o+l.toNat * k,none⟩)) (h.toNat - l.toNat) (m - l.toNat)) W:=by
  simp[Instr.sliceAt,Instr.sureAddr,run_underlying hu,hX,hb',zbb hsz,zci]
 refine ⟨_,hrun,?_⟩
 cases hx
 split
 ·rename_i h0
  rw[show h.toNat - l.toNat=0 by omega]
  exact .vs0
 ·rename_i h0
  have hne:m≠l.toNat:=by omega
  rw[if_neg hne,show h.toNat - l.toNat=(h - l).toNat by omega]
  refine .sl hm (by omega) q2 ?_
  have e:o+l.toNat * k+(m - l.toNat) * k=o+m * k:=by
   rw[Nat.add_assoc,← Nat.add_mul,show l.toNat+(m - l.toNat)=m by omega]
  omega

theorem zxe {t e k by':Nat}{x:Operand}{x':Opnd}{lo hi:Option Operand}{lo' hi':Option Opnd}(hs:Sim P W L μ H)(he:Env C W L μ tm a)(hu:slElem P t=some (e,k,by'))(h1:opnd x=some x')
  (h2:lo.elim (some none) (fun l=>(opnd l).map some)=some lo') (h3:hi.elim (some none) (fun l=>(opnd l).map some)=some hi')
  {v:AV} {ft:List Nat} (hx:xval H (val C tm) (.slice k x' lo' hi')=some (v,ft)):
  ∃ z,(Instr.sliceAt t (a.eval x) (lo.map a.eval) (hi.map a.eval) none).run P W=.ok z W∧VR W L μ v z:=by
 have e1:=zat he h1
 obtain ⟨u1,u2,_⟩:=zdq hu
 simp only[xval] at hx
 cases hn:slLen H (val C tm x') with
 |none=>rw[hn] at hx;cases hx
 |some n=>
  rw[hn] at hx
  simp only[Option.getD_some] at hx
  obtain ⟨p,cap,f1,f2⟩:=znd hs e1 hn
  split at hx
  case h_2=>cases hx
  rename_i n' kl l kh h hn' hl hh
  cases hn'
  split at hx
  case isFalse=>cases hx
  rename_i hin
  obtain ⟨i1,i2,i3⟩:=hin
  -- the bounds, as the model takes them
  have hhi:(match hi.map a.eval with|some v=>Instr.sliceBound v cap .sliceAcap|none=>pure n:Sem Nat).run P W=.ok h.toNat W:=by
   cases hi with
   |none=>
    simp at h3;subst h3
    simp at hh
    simp;omega
   |some q=>
    simp at h3
    obtain ⟨q',hq,rfl⟩:=h3
    have e3:=zat he hq
    simp at hh
    rw[hh] at e3
    have hc:0≤h∧h≤(cap:Int):=⟨by omega,by omega⟩
    simp only[Option.map_some,Instr.sliceBound,vr_int e3,asIntOf,Sem.run_bind,Sem.run_pure,Result.andThen_ok,if_pos hc]
  have hlo:(match lo.map a.eval with|some v=>Instr.sliceBound v h.toNat .sliceB|none=>pure 0:Sem Nat).run P W=.ok l.toNat W:=by
   cases lo with
   |none=>
    simp at h2;subst h2
    simp at hl
    simp;omega
   |some q=>
    simp at h2
    obtain ⟨q',hq,rfl⟩:=h2
    have e3:=zat he hq
    simp at hl
    rw[hl] at e3
    have hc:0≤l∧l≤(h.toNat:Int):=⟨by omega,by omega⟩
    simp only[Option.map_some,Instr.sliceBound,vr_int e3,asIntOf,Sem.run_bind,Sem.run_pure,Result.andThen_ok,if_pos hc]
  have hb:(Instr.sliceBounds true n cap (lo.map a.eval) (hi.map a.eval) none).run P W=.ok (l.toNat,h.toNat,cap) W:=by
   unfold Instr.sliceBounds
   cases hlo':lo.map a.eval<;>cases hhi':hi.map a.eval<;>rw[hlo'] at hlo<;>rw[hhi'] at hhi<;>simp at hlo hhi<;>simp[hlo,hhi]
  have hrun:(Instr.sliceAt t (a.eval x) (lo.map a.eval) (hi.map a.eval) none).run P W=.ok (.slice (if cap=l.toNat then p else p.map (·.add (l.toNat * k))) (h.toNat - l.toNat) (cap - l.toNat)) W:=by
   simp[Instr.sliceAt,Instr.slice,run_underlying u1,f1,hb,zbb u2]
  refine ⟨_,hrun,?_⟩
  split at hx
  ·cases hx
   rename_i h0
   rw[show h.toNat - l.toNat=0 by omega]
   exact .vs0
  ·rename_i h0
   have hne:cap≠l.toNat:=by omega
   rw[if_neg hne]
   revert e1 hx hn
   generalize val C tm x'=u
   intro e1 hn hx
   cases u with
   |sl b off n2 k'=>
    dsimp only at hx
    split at hx<;>cases hx
    rename_i hk
    obtain ⟨hk,ha⟩:=hk
    subst hk
    obtain ⟨B,cap',rs,t',g1,g2,g3,g4,g5⟩:=zdf hs e1 ha
    rw[f1] at g2;cases g2
    simp only[Option.map_some,zci]
    have hsub:h.toNat - l.toNat=(h - l).toNat:=by omega
    rw[hsub]
    refine .sl g1 (by omega) g4 ?_
    have e:off+l.toNat * k+(cap - l.toNat) * k=off+cap * k:=by
     rw[Nat.add_assoc,← Nat.add_mul,show l.toNat+(cap - l.toNat)=cap by omega]
    rw[e];exact g5
   |vs k' es=>
    dsimp only at hx
    split at hx<;>cases hx
    rename_i hk
    subst hk
    rw[f1] at e1
    simp[slLen] at hn
    subst hn
    cases e1 with
    |dead h=>simp[headRef] at h
    |vs0=>simp at i3;omega
    |@vs _ _ b o _ _ rs g1 g2 g3 g4=>
     simp only[Option.map_some,zci]
     have hlen:((es.drop l.toNat).take (h - l).toNat).length=h.toNat - l.toNat:=by simp;omega
     rw[← hlen]
     have hget:∀ {i:Nat} {e:AV},((es.drop l.toNat).take (h - l).toNat)[i]?=some e→es[l.toNat+i]?=some e:=by
      intro i e he
      by_cases hi:i<(h - l).toNat
      ·rw[List.getElem?_take_of_lt hi,List.getElem?_drop] at he;exact he
      ·rw[List.getElem?_take_eq_none (by omega)] at he;cases he
     refine .vs (fun i j=>rs (l.toNat+i) j) (by rw[hlen];omega) (fun i e he=>g2 _ _ (hget he)) (fun i e j y he hy=>?_) (fun i e j y he hy=>g4 _ _ _ _ (hget he) hy)
     have:=g3 _ _ _ _ (hget he) hy
     rwa [Nat.add_mul,← Nat.add_assoc] at this
   |_=>cases hx

theorem zxv {x:Operand}{x':Opnd}{o:Oper}(ho:o.op=.nilCheck x)(hs:Sim P W L μ H)(he:Env C W L μ tm a)(h1:opnd x=some x'){v:AV}{ft:List Nat}(hx:xval H (val C tm) (.nilck x')=some (v,ft)):
  ∃ z,(execOp a.eval o).run P W=.ok (.value z) W∧VR W L μ v z:=by
 have e1:=zat he h1
 simp only[xval] at hx
 split at hx
 ·rename_i b off hb
  split at hx<;>cases hx
  rename_i ha
  rw[hb] at e1
  obtain ⟨B,hm,h2⟩:=zev hs e1 ha
  exact ⟨_,by simp[execOp,ho,h2],.ptr hm⟩
 ·rename_i cs hb
  cases hx
  rw[hb] at e1
  obtain ⟨b,o',h2,h3⟩:=zlq e1
  have:=h3 0
  simp at this
  exact ⟨_,by simp[execOp,ho,h2],this⟩
 ·rename_i f u1 u2 hb
  cases hx
  rw[hb] at e1
  obtain ⟨rf,rc,h2,h3,h4,h5⟩:=vr_fn e1
  rw[h2] at e1
  exact ⟨_,by simp[execOp,ho,h2],e1⟩
 ·cases hx

theorem zck {m:String}:∀ {n t f:Nat},(t,f)∈methodTbl P m n→methodOf P m t=some f
 |0,t,f,h=>by simp[methodTbl] at h
 |n+1,t,f,h=>by
  unfold methodTbl at h
  split at h
  ·rename_i g hg
   rcases List.mem_cons.1 h with h|h
   ·cases h;exact hg
   ·exact zck h
  ·exact zck h

theorem zgs {m:String}{t f:Nat}(h:methodOf P m t=some f)(v:Value)(n:Nat):(method (n+1) t v m).run P W=.ok (f,v) W∧(nilAhead (n+1) t v m).run P W=.ok (some false) W:=by
 unfold methodOf at h
 cases hi:P.info? t with
 |none=>rw[hi] at h;cases h
 |some i=>
  rw[hi] at h
  simp only at h
  cases hf:i.methods.find? (·.name==m) with
  |none=>rw[hf] at h;cases h
  |some mt=>
   rw[hf] at h
   simp only at h
   cases hm:mt.func with
   |none=>rw[hm] at h;cases h
   |some fp=>
    obtain ⟨g,ptr⟩:=fp
    rw[hm] at h
    simp only at h
    rw[Option.ite_none_right_eq_some] at h
    obtain ⟨hc,hfg⟩:=h
    cases hfg
    simp only[Bool.and_eq_true] at hc
    obtain ⟨hp,hc⟩:=hc
    have hpl:mt.path.toList=[]:=by simpa using hp
    cases hu:P.underlying t with
    |none=>rw[hu] at hc;cases hc
    |some d=>
     rw[hu] at hc
     constructor
     ·cases d<;>simp at hc<;>subst hc<;>simp[method,typeInfo,hi,hf,hpl,follow,hm,receiverAt,run_underlying hu,Place.get]
     ·cases d<;>simp at hc<;>subst hc<;>simp[nilAhead,typeInfo,hi,hf,hpl,followBlind,hm,run_underlying hu]

theorem ztx {x:Operand}{x':Opnd}{o:Oper}{m:String}(ho:o.op=.nilCheck x)(_hs:Sim P W L μ H)(he:Env C W L μ tm a)(h1:opnd x=some x'){v:AV}{ft:List Nat}
  (hx:xval H (val C tm) (.nilckM m ((methodTbl P m P.types.size).map (·.1)) x')=some (v,ft)):
  ∃ z,(execOp a.eval o).run P W=.ok (.value z) W∧VR W L μ v z:=by
 have e1:=zat he h1
 simp only[xval] at hx
 split at hx
 ·rename_i m' t u b hb
  split at hx<;>cases hx
  rename_i hc
  obtain ⟨rfl,ht⟩:=hc
  simp at ht
  obtain ⟨f,hf⟩:=ht
  have hmo:=zck hf
  rw[hb] at e1
  have e1':=e1
  obtain ⟨rf,rc,h2,h3,h4,h5⟩:=vr_fn e1
  obtain ⟨r,hr,hvr⟩:=h4.get (i:=0) rfl
  obtain ⟨y,rfl,hy⟩:=zbu hvr
  rw[h2] at e1'
  refine ⟨_,?_,e1'⟩
  have hfu:P.types.size+Made.depth=(P.types.size+99)+1:=rfl
  simp[execOp,ho,h2,hr,hfu,(zgs hmo y (P.types.size+99)).2]
 ·cases hx
end
end Ev
end Go.Proofs.YtfpepkbflnendaaGreat
