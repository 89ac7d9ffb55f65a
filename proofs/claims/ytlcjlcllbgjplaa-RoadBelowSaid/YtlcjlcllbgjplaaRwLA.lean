/- The Go function RoadBelow returns true, for every argument, in every world in which it is called; nothing that was there is turned. No condition. -/
import Derived.Test.YtlcjlcllbgjplaaRwEA
import Derived.Test.YtlcjlcllbgjplaaRwPG
import Derived.Test.YtlcjlcllbgjplaaRwPE
import Derived.Test.YtlcjlcllbgjplaaProg
import Derived.KernelRfl
import Derived.Test.YtlcjlcllbgjplaaRwPF
/- The code of functions of the laws, for the evaluator. Printed by program. -/
namespace Go.Proofs.Ytlcjlcllbgjplaa
open Go
namespace Ev
end Ev
end Go.Proofs.Ytlcjlcllbgjplaa

/- The code of functions of the laws, for the evaluator. Printed by program. -/
namespace Go.Proofs.Ytlcjlcllbgjplaa
open Go
namespace Ev
end Ev
end Go.Proofs.Ytlcjlcllbgjplaa

/- RoadRest, gone through. -/
namespace Go.Proofs.Ytlcjlcllbgjplaa
open Go
namespace Ev
namespace Ro
open K
set_option maxRecDepth 100000
set_option maxHeartbeats 4000000
theorem num_no {r:Rd.Road}(hf:Rd.Fine r)(hcan:Rd.canR r (Rd.everyR r)=false)(n:Int):numRV r true n=.tup [.int .i64 0,.int .i64 10]:=by
 have he:Rd.errR r true=10:=by
  unfold Rd.errR
  rw[(Rd.valid_iff r).2 hf,hcan];rfl
 unfold numRV
 rw[he];rfl
theorem num_ok {r:Rd.Road}(hf:Rd.Fine r)(hcan:Rd.canR r (Rd.everyR r)=true)(n:Int):numRV r true n=.tup [.int .i64 n,.int .i64 0]:=by
 have he:Rd.errR r true=0:=by
  unfold Rd.errR
  rw[(Rd.valid_iff r).2 hf,hcan];rfl
 unfold numRV
 rw[he];rfl
end Ro
end Ev
end Go.Proofs.Ytlcjlcllbgjplaa

/- Chapter 05: what a road bears: plain. -/
namespace Go.Proofs.Ytlcjlcllbgjplaa
open Go
namespace Rd
open Clm (Sp Hull spanL mem_span setOf)
theorem set_low (p:Nat→Bool){n:Nat}(h:n≤10):setOf p n<1024:=Nat.lt_of_lt_of_le (Clm.setOf_lt p n) (by have:=Nat.pow_le_pow_right (show 1≤2 by decide) h;simpa using this)
end Rd
end Go.Proofs.Ytlcjlcllbgjplaa

/- The code of functions of the laws, for the evaluator. Printed by program. -/
namespace Go.Proofs.Ytlcjlcllbgjplaa
open Go
namespace Ev
end Ev
end Go.Proofs.Ytlcjlcllbgjplaa

/- RoadBears, gone through. -/
namespace Go.Proofs.Ytlcjlcllbgjplaa
open Go
namespace Ev
namespace Ro
open K
set_option maxRecDepth 100000
set_option maxHeartbeats 4000000
def LSpanC (call:CallF):Prop:=∀ (H:List AB) (a b:Int),call (.fn (.func 12) [] []) [.int .i64 a,.int .i64 b] H=some (.ret (.agg [.int .i64 a,.int .i64 b]),H,[])
end Ro
end Ev
end Go.Proofs.Ytlcjlcllbgjplaa

/- Chapter 05: what is below the water: plain. -/
namespace Go.Proofs.Ytlcjlcllbgjplaa
open Go
namespace Rd
open Clm (Sp Hull spanL mem_span setOf)
theorem surely_sub {r:Road}(hc:canR r (everyR r)=true):andn (surelyR r) (perhapsR r)=0:=by
 refine Nat.eq_of_testBit_eq fun v=>?_
 rw[andn_bit,Nat.zero_testBit]
 cases hs:(surelyR r).testBit v with
 |false=>rfl
 |true=>
  obtain ⟨hv,H⟩:=(surely_iff r v).1 hs
  obtain ⟨ls,hl⟩:=(can_iff r).1 hc
  obtain ⟨i,hi,h1⟩:=H ls hl
  obtain ⟨p,h,ht⟩:=hl.2 i hi
  rw[(perhaps_iff r v).2 ⟨hv,ls,hl,i,hi,p,h,ht,h1 p h ht⟩];rfl
theorem weak_lt {r:Road}(hr:Fine r):weakR r<r.parts.length:=by
 have:=hr.parts
 have:=(weakN_spec r (r.parts.length - 1)).1
 unfold weakR;omega
theorem weak_le {r:Road}{j:Nat}(hj:j<r.parts.length):(heightsR r (weakR r) r.events.length).lo≤(heightsR r j r.events.length).lo∧(j<weakR r→(heightsR r (weakR r) r.events.length).lo<(heightsR r j r.events.length).lo):=(weakN_spec r (r.parts.length - 1)).2 j (by omega)
theorem height_zero {r:Road}(hr:Fine r)(hc:canR r (everyR r)=true){i:Nat}(hi:i<r.parts.length)(he:r.events=[]):(heightsR r i 0).lo=(r.parts.getD i default).height.lo:=by
 have H:=height_tru hc hi 0
 have hp:=hr.part _ (part_mem hi)
 obtain ⟨ls,p,h,hl,ht,h0⟩:=H.lo
 have e:∀ p h ls,heightR r p h ls 0=h:=fun p h ls=>by unfold heightR;simp[after]
 rw[e] at h0
 have h1:=ht.2.1
 have h2:=H.all (r.parts.getD i default).height.lo ⟨ls,p,_,hl,⟨ht.1,⟨Int.le_refl _,hp.2.1.2.1⟩,fun j v hv=>by rw[he] at hv;simp at hv⟩,(e _ _ _).symm⟩
 simp only[Sp.has] at h1 h2
 omega
theorem low_iff {r:Road}(hc:canR r (everyR r)=true){v:Nat}(hv:v<r.events.length):(perhapsR r).testBit v=true↔∃ i,i<r.parts.length∧(heightsR r i (v+1)).lo<0:=by
 rw[perhaps_iff]
 constructor
 ·rintro ⟨_,ls,hl,i,hi,p,h,ht,h0⟩
  have:=(height_tru hc hi (v+1)).all _ ⟨ls,p,h,hl,ht,rfl⟩
  simp only[Sp.has] at this
  exact ⟨i,hi,by omega⟩
 ·rintro ⟨i,hi,h0⟩
  obtain ⟨ls,p,h,hl,ht,e⟩:=(height_tru hc hi (v+1)).lo
  exact ⟨hv,ls,hl,i,hi,p,h,ht,by omega⟩
theorem sure_low {r:Road}(hc:canR r (everyR r)=true){v:Nat}(hv:v<r.events.length){i:Nat}(hi:i<r.parts.length)(h:(heightsR r i (v+1)).hi<0):(surelyR r).testBit v=true:=by
 refine (surely_iff r v).2 ⟨hv,fun ls hl=>⟨i,hi,fun p h' ht=>?_⟩⟩
 have:=(height_tru hc hi (v+1)).all _ ⟨ls,p,h',hl,ht,rfl⟩
 simp only[Sp.has] at this
 omega
def dryL (n:Nat):List Evt:=(List.range n).map fun (i:Nat)=>lookE i 0 60
def dryR (r:Road)(m:Nat):Road:=⟨r.parts,r.events.take m++dryL r.parts.length++r.events.drop m⟩
theorem after_app (p:Tr):∀ (a b:List Evt) (l m:List Int) (h:Int),l.length=a.length→after p (a++b) (l++m) h=after p b m (after p a l h)
 |[],b,[],m,h,_=>rfl
 |[],b,x::l,m,h,hl=>by simp at hl
 |v::a,b,[],m,h,hl=>by simp at hl
 |v::a,b,x::l,m,h,hl=>by
  show after p (a++b) (l++m) (stepE v p h x)=after p b m (after p a l (stepE v p h x))
  exact after_app p a b l m _ (by simpa using hl)
theorem after_looks (p:Tr):∀ (a:List Evt) (l:List Int) (h:Int),(∀ v∈a,v.kind=2)→after p a l h=h
 |[],_,_,_=>rfl
 |v::a,l,h,H=>by
  have hk:=H v (by simp)
  show after p a l.tail (stepE v p h (l.headD 0))=h
  rw[show stepE v p h (l.headD 0)=h by unfold stepE;simp[hk]]
  exact after_looks p a _ h fun w hw=>H w (by simp[hw])
theorem lds_append:∀ (a b:List Evt) (ls:List Int),Lds (a++b) ls↔∃ l m,ls=l++m∧Lds a l∧Lds b m:=by
 intro a b ls
 constructor
 ·rintro ⟨h1,h2⟩
  have h1':ls.length=a.length+b.length:=by simpa using h1
  refine ⟨ls.take a.length,ls.drop a.length,(List.take_append_drop _ _).symm,⟨by simp;omega,fun i v hv=>?_⟩,⟨by simp;omega,fun i v hv=>?_⟩⟩
  ·have hi:=(List.getElem?_eq_some_iff.1 hv).1
   have:=h2 i v (by rw[List.getElem?_append_left hi];exact hv)
   rw[List.getD_eq_getElem?_getD] at this ⊢
   rw[List.getElem?_take_of_lt hi];exact this
  ·have:=h2 (a.length+i) v (by rw[List.getElem?_append_right (by omega),Nat.add_sub_cancel_left];exact hv)
   rw[List.getD_eq_getElem?_getD] at this ⊢
   rw[List.getElem?_drop];exact this
 ·rintro ⟨l,m,rfl,⟨h1,h2⟩,⟨h3,h4⟩⟩
  refine ⟨by simp[h1,h3],fun i v hv=>?_⟩
  by_cases hi:i<a.length
  ·rw[List.getElem?_append_left hi] at hv
   rw[getD_l (by omega)]
   exact h2 i v hv
  ·rw[List.getElem?_append_right (by omega)] at hv
   have:=h4 _ v hv
   rw[List.getD_eq_getElem?_getD] at this ⊢
   rw[List.getElem?_append_right (by omega),h1];exact this
section
variable (p:Tr) {a d b:List Evt} {l z m:List Int} (hl:l.length=a.length) (hz:z.length=d.length) (hd:∀ v∈d,v.kind=2) (h:Int)
include hl
theorem ins_lo {j:Nat}(hj:j≤a.length):after p ((a++d++b).take j) (l++z++m) h=after p ((a++b).take j) (l++m) h:=by
 rw[List.append_assoc,List.take_append_of_le_length hj,List.append_assoc,after_ls p _ _ _ _ (by simp;omega),List.take_append_of_le_length hj,after_ls p _ _ _ _ (by simp;omega)]
theorem at_all:after p ((a++b).take a.length) (l++m) h=after p a l h:=by
 rw[List.take_append_of_le_length (Nat.le_refl _),List.take_length,after_ls p _ _ _ _ (by omega)]
include hz hd
theorem ins_mid {j:Nat}(h1:a.length≤j)(h2:j≤a.length+d.length):after p ((a++d++b).take j) (l++z++m) h=after p ((a++b).take a.length) (l++m) h:=by
 rw[at_all p hl h,List.take_append_of_le_length (by simp;omega),List.take_append,List.take_of_length_le h1,after_ls p _ _ _ _ (by simp;omega),after_app p _ _ _ _ _ hl]
 exact after_looks p _ _ _ fun v hv=>hd v (List.mem_of_mem_take hv)
theorem ins_hi {j:Nat}(h1:a.length+d.length≤j):after p ((a++d++b).take j) (l++z++m) h=after p ((a++b).take (j - d.length)) (l++m) h:=by
 rw[List.take_append,List.take_of_length_le (by simpa using h1),after_app p _ _ _ _ _ (by simp[hl,hz]),after_app p _ _ _ _ _ hl,after_looks p d _ _ hd,List.take_append,List.take_of_length_le (l:=a) (by omega),after_app p _ _ _ _ _ hl]
 congr 2
 simp;omega
end
theorem dry_get {n j:Nat}{v:Evt}(h:(dryL n)[j]?=some v):j<n∧v=lookE j 0 60:=by
 unfold dryL at h
 rw[List.getElem?_map] at h
 obtain ⟨k,hk,rfl⟩:=Option.map_eq_some_iff.1 h
 obtain ⟨h1,h2⟩:=List.getElem?_eq_some_iff.1 hk
 simp at h1 h2
 exact ⟨h1,by rw[h2]⟩
theorem dry_len (n:Nat):(dryL n).length=n:=by simp[dryL]
theorem dry_kind (n:Nat):∀ v∈dryL n,v.kind=2:=by
 intro v hv
 unfold dryL at hv
 obtain ⟨k,_,rfl⟩:=List.mem_map.1 hv
 rfl
theorem dry_tru {r:Road}{m:Nat}(hm:m≤r.events.length){l z k:List Int}(hl:l.length=m)(hz:z.length=r.parts.length){i:Nat}(hi:i<r.parts.length)(p:Tr)(h:Int):Tru (dryR r m) (l++z++k) i p h↔Tru r (l++k) i p h∧0≤heightR r p h (l++k) m∧heightR r p h (l++k) m≤60:=by
 have hta:(r.events.take m).length=m:=by simp;omega
 have hdl:=dry_len r.parts.length
 have hab:r.events.take m++r.events.drop m=r.events:=List.take_append_drop _ _
 have e1:∀ {j:Nat},j≤m→heightR (dryR r m) p h (l++z++k) j=heightR r p h (l++k) j:=fun {j} hj=>by
  have:=ins_lo p (a:=r.events.take m) (d:=dryL r.parts.length) (b:=r.events.drop m) (l:=l) (z:=z) (m:=k) (by omega) h (j:=j) (by omega)
  rw[hab] at this;exact this
 have e2:∀ {j:Nat},m≤j→j≤m+r.parts.length→heightR (dryR r m) p h (l++z++k) j=heightR r p h (l++k) m:=fun {j} h1 h2=>by
  have:=ins_mid p (a:=r.events.take m) (d:=dryL r.parts.length) (b:=r.events.drop m) (l:=l) (z:=z) (m:=k) (by omega) (by omega) (dry_kind _) h (j:=j) (by omega) (by omega)
  rw[hab,hta] at this;exact this
 have e3:∀ {j:Nat},m+r.parts.length≤j→heightR (dryR r m) p h (l++z++k) j=heightR r p h (l++k) (j - r.parts.length):=fun {j} h1=>by
  have:=ins_hi p (a:=r.events.take m) (d:=dryL r.parts.length) (b:=r.events.drop m) (l:=l) (z:=z) (m:=k) (by omega) (by omega) (dry_kind _) h (j:=j) (by omega)
  rw[hab,hdl] at this;exact this
 have g1:∀ {j:Nat},j<m→(dryR r m).events[j]?=r.events[j]?:=fun {j} hj=>by
  show (r.events.take m++dryL r.parts.length++r.events.drop m)[j]?=_
  rw[List.append_assoc,List.getElem?_append_left (by omega),List.getElem?_take_of_lt hj]
 have g2:∀ {j:Nat},m≤j→j<m+r.parts.length→(dryR r m).events[j]?=(dryL r.parts.length)[j - m]?:=fun {j} h1 h2=>by
  show (r.events.take m++dryL r.parts.length++r.events.drop m)[j]?=_
  rw[List.append_assoc,List.getElem?_append_right (by omega),hta,List.getElem?_append_left (by omega)]
 have g3:∀ {j:Nat},m+r.parts.length≤j→(dryR r m).events[j]?=r.events[j - r.parts.length]?:=fun {j} h1=>by
  show (r.events.take m++dryL r.parts.length++r.events.drop m)[j]?=_
  rw[List.getElem?_append_right (by simp[hta,hdl];omega),List.getElem?_drop]
  congr 1
  simp only[List.length_append,hta,hdl]
  omega
 have e:rightE (dryR r m) i p (l++z++k) h↔rightE r i p (l++k) h∧0≤heightR r p h (l++k) m∧heightR r p h (l++k) m≤60:=by
  constructor
  ·intro H
   refine ⟨fun j v hv hk hp=>?_,?_⟩
   ·by_cases hj:j<m
    ·have:=H j v (by rw[g1 hj];exact hv) hk hp
     rwa [e1 (by omega)] at this
    ·have:=H (j+r.parts.length) v (by rw[g3 (by omega),Nat.add_sub_cancel];exact hv) hk hp
     rwa [e3 (by omega),Nat.add_sub_cancel] at this
   ·have:=H (m+i) (lookE i 0 60) (by rw[g2 (by omega) (by omega),Nat.add_sub_cancel_left];unfold dryL;simp[hi]) rfl rfl
    rw[e2 (by omega) (by omega)] at this
    exact this
  ·rintro ⟨H,h0,h6⟩ j v hv hk hp
   by_cases hj:j<m
   ·rw[g1 hj] at hv
    rw[e1 (by omega)]
    exact H j v hv hk hp
   ·by_cases hj2:j<m+r.parts.length
    ·rw[g2 (by omega) hj2] at hv
     obtain ⟨_,rfl⟩:=dry_get hv
     rw[e2 (by omega) (by omega)]
     exact ⟨h0,h6⟩
    ·rw[g3 (by omega)] at hv
     rw[e3 (by omega)]
     exact H _ v hv hk hp
 unfold Tru
 rw[e]
 show p∈partsR (r.parts.getD i default)∧(r.parts.getD i default).height.has h∧_↔_
 exact ⟨fun ⟨a,b,c,d⟩=>⟨⟨a,b,c⟩,d⟩,fun ⟨⟨a,b,c⟩,d⟩=>⟨a,b,c,d⟩⟩
theorem dry_can {r:Road}(hr:Fine r){v:Nat}(hv:v<r.events.length):canR (dryR r (v+1)) (everyR (dryR r (v+1)))=!(surelyR r).testBit v:=by
 rw[Bool.eq_iff_iff,can_iff,Bool.not_eq_true',← Bool.not_eq_true,surely_iff]
 have hta:(r.events.take (v+1)).length=v+1:=by simp;omega
 constructor
 ·rintro ⟨ls,h1,h2⟩ ⟨_,H⟩
  obtain ⟨lz,k,rfl,h3,h4⟩:=(lds_append _ _ _).1 h1
  obtain ⟨l,z,rfl,h5,h6⟩:=(lds_append _ _ _).1 h3
  have hall:Lds r.events (l++k):=by
   have:=(lds_append (r.events.take (v+1)) (r.events.drop (v+1)) (l++k)).2 ⟨l,k,rfl,h5,h4⟩
   rwa [List.take_append_drop] at this
  have hz:z.length=r.parts.length:=by rw[h6.1,dry_len]
  obtain ⟨i, hi, h7⟩ := H (l ++ k) ⟨hall, fun i hi => by
   obtain ⟨p,h,ht⟩:=h2 i hi
   exact ⟨p,h,((dry_tru (by omega) (by rw[h5.1,hta]) hz hi p h).1 ht).1⟩⟩
  obtain ⟨p,h,ht⟩:=h2 i hi
  obtain ⟨q1,q2,_⟩:=(dry_tru (by omega) (by rw[h5.1,hta]) hz hi p h).1 ht
  have:=h7 p h q1
  omega
 ·intro H
  refine Classical.byContradiction fun hn=>H ⟨hv,fun ls hl=>?_⟩
  refine Classical.byContradiction fun hm=>hn ?_
  have h1:=hl.1
  rw[← List.take_append_drop (v+1) r.events] at h1
  obtain ⟨l,k,rfl,h5,h4⟩:=(lds_append _ _ _).1 h1
  have hdz:Lds (dryL r.parts.length) (List.replicate r.parts.length 0):=by
   refine ⟨by simp[dry_len],fun i w hw=>?_⟩
   obtain ⟨hi,rfl⟩:=dry_get hw
   exact ⟨fun e=>by simp[lookE] at e,fun _=>by simp[List.getD_eq_getElem?_getD,hi]⟩
  refine ⟨l++List.replicate r.parts.length 0++k,(lds_append _ _ _).2 ⟨_,k,rfl,(lds_append _ _ _).2 ⟨l,_,rfl,h5,hdz⟩,h4⟩,fun i hi=>?_⟩
  have hi':i<r.parts.length:=hi
  refine Classical.byContradiction fun hx=>hm ⟨i,hi',fun p h ht=>?_⟩
  refine Int.not_le.1 fun h0=>hx ⟨p,h,(dry_tru (r:=r) (m:=v+1) (by omega) (by rw[h5.1,hta]) (by simp) hi' p h).2 ⟨ht,h0,?_⟩⟩
  have:=height_full hr hi' hl.1 ht (v+1)
  have:=tru_part hr hi' ht
  omega
theorem dry_fine {r:Road}(hr:Fine r)(m:Nat)(hx:(dryR r m).events.length≤10):Fine (dryR r m) where
 parts:=hr.parts
 events:=hx
 part:=hr.part
 event w hw:=by
  rcases List.mem_append.1 hw with hw|hw
  ·rcases List.mem_append.1 hw with hw|hw
   ·exact hr.event w (List.mem_of_mem_take hw)
   ·obtain ⟨j,hj⟩:=List.mem_iff_getElem?.1 hw
    obtain ⟨h1,rfl⟩:=dry_get hj
    refine .inr (.inr ⟨rfl,?_,?_⟩)
    ·show (0:Int)≤j∧(j:Int)<r.parts.length
     omega
    ·simp[lookE]
  ·exact hr.event w (List.mem_of_mem_drop hw)
 doubts:=by
  have h0:=hr.doubts
  have hd:∀ l:List Evt,(∀ v∈l,v.kind=2)→l.filter (fun v=>decide (v.kind=0∧v.load.lo<v.load.hi))=[]:=fun l h=>by
   rw[List.filter_eq_nil_iff]
   intro v hv
   simp[h v hv]
  show ((r.events.take m++dryL r.parts.length++r.events.drop m).filter _).length≤4
  rw[List.filter_append,List.filter_append,hd _ (dry_kind _),List.append_nil,← List.filter_append,List.take_append_drop]
  exact h0
end Rd
end Go.Proofs.Ytlcjlcllbgjplaa

/- The code of functions of the laws, for the evaluator. Printed by program. -/
namespace Go.Proofs.Ytlcjlcllbgjplaa
open Go
namespace Ev
def af8:AFunc:=⟨291,[(.tmp 4)],(.seq (.ops [⟨0,(some 2),(.box (.tmp 0)),none,0⟩,⟨1,(some 4),(.mov (.val (.bool false))),none,0⟩]) (.seq (.seq (.ops [⟨0,(some 28),(.load (some 2) (.tmp 2)),none,0⟩,⟨1,(some 29),(.call (.val (.fn (Fn.func 22) [] [])) [(.tmp 28)]),none,0⟩,⟨2,(some 30),(.mov (.tmp 29)),none,0⟩,⟨3,(some 31),(.load (some 2) (.tmp 2)),(some (30,false)),0⟩,⟨4,(some 32),(.call (.val (.fn (Fn.func 23) [] [])) [(.tmp 31)]),(some (30,false)),0⟩,⟨5,(some 33),(.not (.tmp 32)),(some (30,false)),0⟩,⟨6,(some 34),(.pick (.tmp 30) (.val (.bool true)) (.tmp 33)),none,0⟩]) (.cond (.tmp 34) (.seq (.ops [⟨0,(some 35),(.call (.val (.fn (Fn.func 21) [] [])) []),none,0⟩,⟨1,(some 4),(.mov (.tmp 35)),none,0⟩]) .ret) .skip)) (.seq (.ops [⟨0,(some 37),(.load (some 2) (.tmp 2)),none,0⟩,⟨1,(some 38),(.call (.val (.fn (Fn.func 26) [] [])) [(.tmp 37)]),none,0⟩,⟨2,(some 36),(.mov (.tmp 38)),none,0⟩,⟨3,(some 39),(.extract (.tmp 36) 0),none,0⟩,⟨4,(some 40),(.extract (.tmp 36) 1),none,0⟩,⟨5,(some 41),(.extract (.tmp 36) 2),none,0⟩,⟨6,(some 5),(.mov (.tmp 39)),none,0⟩,⟨7,(some 6),(.mov (.tmp 40)),none,0⟩,⟨8,(some 7),(.mov (.tmp 41)),none,0⟩]) (.seq (.ops [⟨0,(some 43),(.load (some 2) (.tmp 2)),none,0⟩,⟨1,(some 44),(.call (.val (.fn (Fn.func 34) [] [])) [(.tmp 43)]),none,0⟩,⟨2,(some 42),(.mov (.tmp 44)),none,0⟩,⟨3,(some 45),(.extract (.tmp 42) 0),none,0⟩,⟨4,(some 46),(.extract (.tmp 42) 1),none,0⟩,⟨5,(some 8),(.mov (.tmp 45)),none,0⟩,⟨6,(some 9),(.mov (.tmp 46)),none,0⟩]) (.seq (.seq (.ops [⟨0,(some 47),(.mov (.tmp 9)),none,0⟩,⟨1,(some 48),(.mov (.tmp 7)),none,0⟩,⟨2,(some 49),(.bin .neq (.tmp 47) (.tmp 48)),none,0⟩,⟨3,(some 50),(.mov (.tmp 49)),none,0⟩,⟨4,(some 51),(.mov (.tmp 5)),(some (50,false)),0⟩,⟨5,(some 52),(.mov (.tmp 6)),(some (50,false)),0⟩,⟨6,(some 53),(.bin .andNot (.tmp 51) (.tmp 52)),(some (50,false)),0⟩,⟨7,(some 54),(.bin .neq (.tmp 53) (.val (.int .i64 0))),(some (50,false)),0⟩,⟨8,(some 55),(.pick (.tmp 50) (.val (.bool true)) (.tmp 54)),none,0⟩,⟨9,(some 56),(.mov (.tmp 55)),none,0⟩,⟨10,(some 57),(.mov (.tmp 6)),(some (56,false)),0⟩,⟨11,(some 58),(.fieldA 1 (.tmp 2)),(some (56,false)),0⟩,⟨12,(some 59),(.load none (.tmp 58)),(some (56,false)),0⟩,⟨13,(some 60),(.len (.tmp 59)),(some (56,false)),0⟩,⟨14,(some 61),(.bin .shr (.tmp 57) (.tmp 60)),(some (56,false)),0⟩,⟨15,(some 62),(.bin .neq (.tmp 61) (.val (.int .i64 0))),(some (56,false)),0⟩,⟨16,(some 63),(.pick (.tmp 56) (.val (.bool true)) (.tmp 62)),none,0⟩,⟨17,(some 64),(.mov (.tmp 63)),none,0⟩,⟨18,(some 65),(.mov (.tmp 5)),(some (64,false)),0⟩,⟨19,(some 66),(.bin .lss (.tmp 65) (.val (.int .i64 0))),(some (64,false)),0⟩,⟨20,(some 67),(.pick (.tmp 64) (.val (.bool true)) (.tmp 66)),none,0⟩]) (.cond (.tmp 67) (.seq (.ops [⟨0,(some 4),(.mov (.val (.bool false))),none,0⟩]) .ret) .skip)) (.seq (.seq (.ops [⟨0,(some 68),(.mov (.tmp 7)),none,0⟩,⟨1,(some 69),(.bin .neq (.tmp 68) (.val (.int .i64 0))),none,0⟩]) (.cond (.tmp 69) (.seq (.ops [⟨0,(some 70),(.mov (.tmp 7)),none,0⟩,⟨1,(some 71),(.bin .eql (.tmp 70) (.val (.int .i64 10))),none,0⟩,⟨2,(some 72),(.mov (.tmp 71)),none,0⟩,⟨3,(some 73),(.mov (.tmp 5)),(some (72,true)),0⟩,⟨4,(some 74),(.bin .eql (.tmp 73) (.val (.int .i64 0))),(some (72,true)),0⟩,⟨5,(some 75),(.pick (.tmp 72) (.tmp 74) (.val (.bool false))),none,0⟩,⟨6,(some 76),(.mov (.tmp 75)),none,0⟩,⟨7,(some 77),(.mov (.tmp 6)),(some (76,true)),0⟩,⟨8,(some 78),(.bin .eql (.tmp 77) (.val (.int .i64 0))),(some (76,true)),0⟩,⟨9,(some 79),(.pick (.tmp 76) (.tmp 78) (.val (.bool false))),none,0⟩,⟨10,(some 80),(.mov (.tmp 79)),none,0⟩,⟨11,(some 81),(.mov (.tmp 8)),(some (80,true)),0⟩,⟨12,(some 82),(.bin .eql (.tmp 81) (.val (.int .i64 0))),(some (80,true)),0⟩,⟨13,(some 83),(.pick (.tmp 80) (.tmp 82) (.val (.bool false))),none,0⟩,⟨14,(some 84),(.mov (.tmp 83)),none,0⟩,⟨15,(some 85),(.call (.val (.fn (Fn.func 21) [] [])) []),(some (84,true)),0⟩,⟨16,(some 86),(.pick (.tmp 84) (.tmp 85) (.val (.bool false))),none,0⟩,⟨17,(some 4),(.mov (.tmp 86)),none,0⟩]) .ret) .skip)) (.seq (.seq (.ops [⟨0,(some 87),(.mov (.tmp 8)),none,0⟩,⟨1,(some 88),(.bin .lss (.tmp 87) (.val (.int .i64 0))),none,0⟩,⟨2,(some 89),(.mov (.tmp 88)),none,0⟩,⟨3,(some 90),(.mov (.tmp 8)),(some (89,false)),0⟩,⟨4,(some 91),(.fieldA 0 (.tmp 2)),(some (89,false)),0⟩,⟨5,(some 92),(.load none (.tmp 91)),(some (89,false)),0⟩,⟨6,(some 93),(.len (.tmp 92)),(some (89,false)),0⟩,⟨7,(some 94),(.bin .geq (.tmp 90) (.tmp 93)),(some (89,false)),0⟩,⟨8,(some 95),(.pick (.tmp 89) (.val (.bool true)) (.tmp 94)),none,0⟩]) (.cond (.tmp 95) (.seq (.ops [⟨0,(some 4),(.mov (.val (.bool false))),none,0⟩]) .ret) .skip)) (.seq (.seq (.ops [⟨0,(some 96),(.fieldA 1 (.tmp 2)),none,0⟩,⟨1,(some 97),(.load none (.tmp 96)),none,0⟩,⟨2,(some 98),(.len (.tmp 97)),none,0⟩,⟨3,(some 99),(.bin .eql (.tmp 98) (.val (.int .i64 0))),none,0⟩]) (.cond (.tmp 99) (.seq (.seq (.ops [⟨0,(some 100),(.fieldA 0 (.tmp 2)),none,0⟩,⟨1,(some 101),(.load none (.tmp 100)),none,0⟩,⟨2,(some 102),(.len (.tmp 101)),none,0⟩,⟨3,(some 103),(.mov (.val (.int .i64 0))),none,0⟩]) (.block 0 (.loop [2,8,101,102,103] (.seq (.ops [⟨0,(some 104),(.bin .lss (.tmp 103) (.tmp 102)),none,0⟩]) (.seq (.cond (.tmp 104) .skip (.exit 0)) (.seq (.block 1 (.seq (.ops [⟨0,(some 105),(.mov (.tmp 103)),none,0⟩,⟨1,(some 106),(.indexA 7 none (.tmp 101) (.tmp 103)),none,0⟩,⟨2,(some 107),(.load (some 7) (.tmp 106)),none,0⟩,⟨3,(some 11),(.alloc [(.int .i64 0),(.int .i64 0),(.int .i64 0),(.int .i64 0),(.int .i64 0),(.int .i64 0),(.int .i64 0)]),none,0⟩,⟨4,(some 10),(.mov (.tmp 105)),none,0⟩,⟨5,none,(.store 7 (.tmp 11) (.tmp 107)),none,0⟩]) (.seq (.ops [⟨0,(some 108),(.fieldA 0 (.tmp 2)),none,0⟩,⟨1,(some 109),(.load none (.tmp 108)),none,0⟩,⟨2,(some 110),(.mov (.tmp 8)),none,0⟩,⟨3,(some 111),(.indexA 7 none (.tmp 109) (.tmp 110)),none,0⟩,⟨4,(some 112),(.fieldA 0 (.tmp 111)),none,0⟩,⟨5,(some 113),(.fieldA 0 (.tmp 112)),none,0⟩,⟨6,(some 114),(.load none (.tmp 113)),none,0⟩,⟨7,(some 12),(.mov (.tmp 114)),none,0⟩]) (.seq (.ops [⟨0,(some 115),(.fieldA 0 (.tmp 11)),none,0⟩,⟨1,(some 116),(.fieldA 0 (.tmp 115)),none,0⟩,⟨2,(some 117),(.load none (.tmp 116)),none,0⟩,⟨3,(some 118),(.mov (.tmp 12)),none,0⟩,⟨4,(some 119),(.bin .lss (.tmp 117) (.tmp 118)),none,0⟩,⟨5,(some 120),(.mov (.tmp 119)),none,0⟩,⟨6,(some 121),(.fieldA 0 (.tmp 11)),(some (120,false)),0⟩,⟨7,(some 122),(.fieldA 0 (.tmp 121)),(some (120,false)),0⟩,⟨8,(some 123),(.load none (.tmp 122)),(some (120,false)),0⟩,⟨9,(some 124),(.mov (.tmp 12)),(some (120,false)),0⟩,⟨10,(some 125),(.bin .eql (.tmp 123) (.tmp 124)),(some (120,false)),0⟩,⟨11,(some 126),(.mov (.tmp 125)),(some (120,false)),0⟩,⟨12,(some 127),(.mov (.tmp 10)),(some (126,true)),0⟩,⟨13,(some 128),(.mov (.tmp 8)),(some (126,true)),0⟩,⟨14,(some 129),(.bin .lss (.tmp 127) (.tmp 128)),(some (126,true)),0⟩,⟨15,(some 130),(.pick (.tmp 126) (.tmp 129) (.val (.bool false))),(some (120,false)),0⟩,⟨16,(some 131),(.pick (.tmp 120) (.val (.bool true)) (.tmp 130)),none,0⟩]) (.cond (.tmp 131) (.seq (.ops [⟨0,(some 4),(.mov (.val (.bool false))),none,0⟩]) .ret) .skip))))) (.ops [⟨0,(some 132),(.bin .add (.tmp 103) (.val (.int .i64 1))),none,0⟩,⟨1,(some 103),(.mov (.tmp 132)),none,0⟩]))))))) (.seq (.ops [⟨0,(some 133),(.call (.val (.fn (Fn.func 21) [] [])) []),none,0⟩,⟨1,(some 4),(.mov (.tmp 133)),none,0⟩]) .ret)) .skip)) (.seq (.draw [⟨0,(some 134),(.mov (.tmp 1)),none,0⟩,⟨1,(some 135),(.conv .i64 (.tmp 134)),none,1⟩,⟨2,(some 136),(.fieldA 1 (.tmp 2)),none,0⟩,⟨3,(some 137),(.load none (.tmp 136)),none,4⟩,⟨4,(some 138),(.len (.tmp 137)),none,12⟩,⟨5,(some 139),(.bin .rem (.tmp 135) (.tmp 138)),none,31⟩,⟨6,(some 140),(.fieldA 1 (.tmp 2)),none,0⟩,⟨7,(some 141),(.load none (.tmp 140)),none,64⟩,⟨8,(some 142),(.len (.tmp 141)),none,192⟩,⟨9,(some 143),(.bin .sub (.tmp 142) (.val (.int .i64 1))),none,448⟩,⟨10,(some 13),(.mov (.tmp 139)),none,63⟩,⟨11,(some 14),(.mov (.tmp 143)),none,2047⟩]) (.seq (.ops [⟨0,(some 15),(.mov (.val (.bool false))),none,0⟩,⟨1,(some 16),(.mov (.val (.bool false))),none,0⟩]) (.seq (.ops [⟨0,(some 145),(.load (some 2) (.tmp 2)),none,0⟩,⟨1,(some 146),(.mov (.tmp 8)),none,0⟩,⟨2,(some 147),(.mov (.tmp 14)),none,0⟩,⟨3,(some 148),(.call (.val (.fn (Fn.func 14) [] [])) [(.tmp 145),(.tmp 146),(.tmp 147)]),none,0⟩,⟨4,(some 144),(.mov (.tmp 148)),none,0⟩,⟨5,(some 149),(.extract (.tmp 144) 0),none,0⟩,⟨6,(some 150),(.extract (.tmp 144) 1),none,0⟩,⟨7,(some 17),(.alloc [(.int .i64 0),(.int .i64 0)]),none,0⟩,⟨8,none,(.store 2 (.tmp 17) (.tmp 149)),none,0⟩,⟨9,(some 18),(.mov (.tmp 150)),none,0⟩]) (.seq (.seq (.ops [⟨0,(some 151),(.fieldA 0 (.tmp 2)),none,0⟩,⟨1,(some 152),(.load none (.tmp 151)),none,0⟩,⟨2,(some 153),(.len (.tmp 152)),none,0⟩,⟨3,(some 154),(.mov (.val (.int .i64 0))),none,0⟩]) (.block 2 (.loop [2,5,6,8,13,14,15,16,17,18,153,154] (.seq (.ops [⟨0,(some 155),(.bin .lss (.tmp 154) (.tmp 153)),none,0⟩]) (.seq (.cond (.tmp 155) .skip (.exit 2)) (.seq (.block 3 (.seq (.ops [⟨0,(some 156),(.mov (.tmp 154)),none,0⟩,⟨1,(some 19),(.mov (.tmp 156)),none,0⟩]) (.seq (.ops [⟨0,(some 158),(.load (some 2) (.tmp 2)),none,0⟩,⟨1,(some 159),(.mov (.tmp 19)),none,0⟩,⟨2,(some 160),(.mov (.tmp 13)),none,0⟩,⟨3,(some 161),(.call (.val (.fn (Fn.func 14) [] [])) [(.tmp 158),(.tmp 159),(.tmp 160)]),none,0⟩,⟨4,(some 157),(.mov (.tmp 161)),none,0⟩,⟨5,(some 162),(.extract (.tmp 157) 0),none,0⟩,⟨6,(some 163),(.extract (.tmp 157) 1),none,0⟩,⟨7,(some 20),(.alloc [(.int .i64 0),(.int .i64 0)]),none,0⟩,⟨8,none,(.store 2 (.tmp 20) (.tmp 162)),none,0⟩,⟨9,(some 21),(.mov (.tmp 163)),none,0⟩]) (.seq (.ops [⟨0,(some 165),(.load (some 2) (.tmp 2)),none,0⟩,⟨1,(some 166),(.mov (.tmp 19)),none,0⟩,⟨2,(some 167),(.mov (.tmp 14)),none,0⟩,⟨3,(some 168),(.call (.val (.fn (Fn.func 14) [] [])) [(.tmp 165),(.tmp 166),(.tmp 167)]),none,0⟩,⟨4,(some 164),(.mov (.tmp 168)),none,0⟩,⟨5,(some 169),(.extract (.tmp 164) 0),none,0⟩,⟨6,(some 170),(.extract (.tmp 164) 1),none,0⟩,⟨7,(some 22),(.alloc [(.int .i64 0),(.int .i64 0)]),none,0⟩,⟨8,none,(.store 2 (.tmp 22) (.tmp 169)),none,0⟩,⟨9,(some 23),(.mov (.tmp 170)),none,0⟩]) (.seq (.seq (.ops [⟨0,(some 171),(.mov (.tmp 18)),none,0⟩,⟨1,(some 172),(.bin .neq (.tmp 171) (.val (.int .i64 0))),none,0⟩,⟨2,(some 173),(.mov (.tmp 172)),none,0⟩,⟨3,(some 174),(.mov (.tmp 21)),(some (173,false)),0⟩,⟨4,(some 175),(.bin .neq (.tmp 174) (.val (.int .i64 0))),(some (173,false)),0⟩,⟨5,(some 176),(.pick (.tmp 173) (.val (.bool true)) (.tmp 175)),none,0⟩,⟨6,(some 177),(.mov (.tmp 176)),none,0⟩,⟨7,(some 178),(.mov (.tmp 23)),(some (177,false)),0⟩,⟨8,(some 179),(.bin .neq (.tmp 178) (.val (.int .i64 0))),(some (177,false)),0⟩,⟨9,(some 180),(.pick (.tmp 177) (.val (.bool true)) (.tmp 179)),none,0⟩,⟨10,(some 181),(.mov (.tmp 180)),none,0⟩,⟨11,(some 182),(.fieldA 0 (.tmp 22)),(some (181,false)),0⟩,⟨12,(some 183),(.load none (.tmp 182)),(some (181,false)),0⟩,⟨13,(some 184),(.fieldA 0 (.tmp 17)),(some (181,false)),0⟩,⟨14,(some 185),(.load none (.tmp 184)),(some (181,false)),0⟩,⟨15,(some 186),(.bin .lss (.tmp 183) (.tmp 185)),(some (181,false)),0⟩,⟨16,(some 187),(.pick (.tmp 181) (.val (.bool true)) (.tmp 186)),none,0⟩,⟨17,(some 188),(.mov (.tmp 187)),none,0⟩,⟨18,(some 189),(.fieldA 0 (.tmp 22)),(some (188,false)),0⟩,⟨19,(some 190),(.load none (.tmp 189)),(some (188,false)),0⟩,⟨20,(some 191),(.fieldA 0 (.tmp 17)),(some (188,false)),0⟩,⟨21,(some 192),(.load none (.tmp 191)),(some (188,false)),0⟩,⟨22,(some 193),(.bin .eql (.tmp 190) (.tmp 192)),(some (188,false)),0⟩,⟨23,(some 194),(.mov (.tmp 193)),(some (188,false)),0⟩,⟨24,(some 195),(.mov (.tmp 19)),(some (194,true)),0⟩,⟨25,(some 196),(.mov (.tmp 8)),(some (194,true)),0⟩,⟨26,(some 197),(.bin .lss (.tmp 195) (.tmp 196)),(some (194,true)),0⟩,⟨27,(some 198),(.pick (.tmp 194) (.tmp 197) (.val (.bool false))),(some (188,false)),0⟩,⟨28,(some 199),(.pick (.tmp 188) (.val (.bool true)) (.tmp 198)),none,0⟩]) (.cond (.tmp 199) (.seq (.ops [⟨0,(some 4),(.mov (.val (.bool false))),none,0⟩]) .ret) .skip)) (.draw [⟨0,(some 200),(.mov (.tmp 15)),none,0⟩,⟨1,(some 201),(.mov (.tmp 200)),none,1⟩,⟨2,(some 202),(.fieldA 0 (.tmp 20)),(some (201,false)),3⟩,⟨3,(some 203),(.load none (.tmp 202)),(some (201,false)),7⟩,⟨4,(some 204),(.bin .lss (.tmp 203) (.val (.int .i64 0))),(some (201,false)),15⟩,⟨5,(some 205),(.pick (.tmp 201) (.val (.bool true)) (.tmp 204)),none,31⟩,⟨6,(some 206),(.mov (.tmp 16)),none,0⟩,⟨7,(some 207),(.mov (.tmp 206)),none,67⟩,⟨8,(some 208),(.fieldA 1 (.tmp 20)),(some (207,false)),195⟩,⟨9,(some 209),(.load none (.tmp 208)),(some (207,false)),451⟩,⟨10,(some 210),(.bin .lss (.tmp 209) (.val (.int .i64 0))),(some (207,false)),963⟩,⟨11,(some 211),(.pick (.tmp 207) (.val (.bool true)) (.tmp 210)),none,1987⟩,⟨12,(some 15),(.mov (.tmp 205)),none,255⟩,⟨13,(some 16),(.mov (.tmp 211)),none,8191⟩])))))) (.ops [⟨0,(some 212),(.bin .add (.tmp 154) (.val (.int .i64 1))),none,0⟩,⟨1,(some 154),(.mov (.tmp 212)),none,0⟩]))))))) (.seq (.seq (.ops [⟨0,(some 213),(.mov (.tmp 6)),none,0⟩,⟨1,(some 214),(.mov (.tmp 13)),none,0⟩,⟨2,(some 215),(.bin .shr (.tmp 213) (.tmp 214)),none,0⟩,⟨3,(some 216),(.bin .and (.tmp 215) (.val (.int .i64 1))),none,0⟩,⟨4,(some 217),(.bin .eql (.tmp 216) (.val (.int .i64 1))),none,0⟩,⟨5,(some 218),(.mov (.tmp 15)),none,0⟩,⟨6,(some 219),(.eq .bool true (.tmp 217) (.tmp 218)),none,0⟩,⟨7,(some 220),(.mov (.tmp 219)),none,0⟩,⟨8,(some 221),(.mov (.tmp 16)),(some (220,false)),0⟩,⟨9,(some 222),(.mov (.tmp 221)),(some (220,false)),0⟩,⟨10,(some 223),(.mov (.tmp 5)),(some (222,true)),0⟩,⟨11,(some 224),(.mov (.tmp 13)),(some (222,true)),0⟩,⟨12,(some 225),(.bin .shr (.tmp 223) (.tmp 224)),(some (222,true)),0⟩,⟨13,(some 226),(.bin .and (.tmp 225) (.val (.int .i64 1))),(some (222,true)),0⟩,⟨14,(some 227),(.bin .eql (.tmp 226) (.val (.int .i64 0))),(some (222,true)),0⟩,⟨15,(some 228),(.pick (.tmp 222) (.tmp 227) (.val (.bool false))),(some (220,false)),0⟩,⟨16,(some 229),(.pick (.tmp 220) (.val (.bool true)) (.tmp 228)),none,0⟩]) (.cond (.tmp 229) (.seq (.ops [⟨0,(some 4),(.mov (.val (.bool false))),none,0⟩]) .ret) .skip)) (.seq (.ops [⟨0,(some 230),(.load (some 2) (.tmp 2)),none,0⟩,⟨1,(some 24),(.alloc [.nils,.nils]),none,0⟩,⟨2,none,(.store 2 (.tmp 24) (.tmp 230)),none,0⟩]) (.seq (.ops [⟨0,(some 231),(.buildSl 7 0 [(.int .i64 0),(.int .i64 0),(.int .i64 0),(.int .i64 0),(.int .i64 0),(.int .i64 0),(.int .i64 0)] []),none,0⟩,⟨1,(some 232),(.fieldA 1 (.tmp 2)),none,0⟩,⟨2,(some 233),(.load none (.tmp 232)),none,0⟩,⟨3,(some 234),(.mov (.tmp 13)),none,0⟩,⟨4,(some 235),(.bin .add (.tmp 234) (.val (.int .i64 1))),none,0⟩,⟨5,(some 236),(.slice 7 (.tmp 233) none (some (.tmp 235))),none,0⟩,⟨6,(some 237),(.append 7 (.tmp 231) (.tmp 236)),none,0⟩,⟨7,(some 238),(.fieldA 1 (.tmp 24)),none,0⟩,⟨8,none,(.store 1 (.tmp 238) (.tmp 237)),none,0⟩]) (.seq (.seq (.ops [⟨0,(some 239),(.fieldA 0 (.tmp 2)),none,0⟩,⟨1,(some 240),(.load none (.tmp 239)),none,0⟩,⟨2,(some 241),(.len (.tmp 240)),none,0⟩,⟨3,(some 242),(.mov (.val (.int .i64 0))),none,0⟩]) (.block 4 (.loop [2,5,13,24,241,242] (.seq (.ops [⟨0,(some 243),(.bin .lss (.tmp 242) (.tmp 241)),none,0⟩]) (.seq (.cond (.tmp 243) .skip (.exit 4)) (.seq (.block 5 (.seq (.ops [⟨0,(some 244),(.mov (.tmp 242)),none,0⟩,⟨1,(some 25),(.mov (.tmp 244)),none,0⟩]) (.draw [⟨0,(some 245),(.fieldA 1 (.tmp 24)),none,0⟩,⟨1,(some 246),(.load none (.tmp 245)),none,1⟩,⟨2,(some 247),(.mov (.tmp 25)),none,0⟩,⟨3,(some 248),(.call (.val (.fn (Fn.func 30) [] [])) [(.tmp 247),(.val (.int .i64 0)),(.val (.int .i64 60))]),none,4⟩,⟨4,(some 249),(.buildSl 7 1 [(.int .i64 0),(.int .i64 0),(.int .i64 0),(.int .i64 0),(.int .i64 0),(.int .i64 0),(.int .i64 0)] [(0,(.tmp 248))]),none,12⟩,⟨5,(some 250),(.append 7 (.tmp 246) (.tmp 249)),none,31⟩,⟨6,(some 251),(.fieldA 1 (.tmp 24)),none,63⟩,⟨7,none,(.store 1 (.tmp 251) (.tmp 250)),none,127⟩]))) (.ops [⟨0,(some 252),(.bin .add (.tmp 242) (.val (.int .i64 1))),none,0⟩,⟨1,(some 242),(.mov (.tmp 252)),none,0⟩]))))))) (.seq (.draw [⟨0,(some 253),(.fieldA 1 (.tmp 24)),none,0⟩,⟨1,(some 254),(.load none (.tmp 253)),none,1⟩,⟨2,(some 255),(.fieldA 1 (.tmp 2)),none,0⟩,⟨3,(some 256),(.load none (.tmp 255)),none,4⟩,⟨4,(some 257),(.mov (.tmp 13)),none,0⟩,⟨5,(some 258),(.bin .add (.tmp 257) (.val (.int .i64 1))),none,16⟩,⟨6,(some 259),(.slice 7 (.tmp 256) (some (.tmp 258)) none),none,60⟩,⟨7,(some 260),(.append 7 (.tmp 254) (.tmp 259)),none,127⟩,⟨8,(some 261),(.fieldA 1 (.tmp 24)),none,255⟩,⟨9,none,(.store 1 (.tmp 261) (.tmp 260)),none,511⟩]) (.seq (.seq (.ops [⟨0,(some 262),(.fieldA 1 (.tmp 24)),none,0⟩,⟨1,(some 263),(.load none (.tmp 262)),none,0⟩,⟨2,(some 264),(.len (.tmp 263)),none,0⟩,⟨3,(some 265),(.bin .gtr (.tmp 264) (.val (.int .i64 10))),none,0⟩]) (.cond (.tmp 265) (.seq (.ops [⟨0,(some 266),(.call (.val (.fn (Fn.func 21) [] [])) []),none,0⟩,⟨1,(some 4),(.mov (.tmp 266)),none,0⟩]) .ret) .skip)) (.seq (.ops [⟨0,(some 268),(.load (some 2) (.tmp 24)),none,0⟩,⟨1,(some 269),(.call (.val (.fn (Fn.func 34) [] [])) [(.tmp 268)]),none,0⟩,⟨2,(some 267),(.mov (.tmp 269)),none,0⟩,⟨3,(some 270),(.extract (.tmp 267) 0),none,0⟩,⟨4,(some 271),(.extract (.tmp 267) 1),none,0⟩,⟨5,(some 26),(.mov (.tmp 270)),none,0⟩,⟨6,(some 27),(.mov (.tmp 271)),none,0⟩]) (.seq (.ops [⟨0,(some 272),(.mov (.tmp 5)),none,0⟩,⟨1,(some 273),(.mov (.tmp 13)),none,0⟩,⟨2,(some 274),(.bin .shr (.tmp 272) (.tmp 273)),none,0⟩,⟨3,(some 275),(.bin .and (.tmp 274) (.val (.int .i64 1))),none,0⟩,⟨4,(some 276),(.bin .eql (.tmp 275) (.val (.int .i64 1))),none,0⟩,⟨5,(some 277),(.mov (.tmp 27)),none,0⟩,⟨6,(some 278),(.bin .eql (.tmp 277) (.val (.int .i64 10))),none,0⟩,⟨7,(some 279),(.eq .bool false (.tmp 276) (.tmp 278)),none,0⟩,⟨8,(some 280),(.mov (.tmp 279)),none,0⟩,⟨9,(some 281),(.mov (.tmp 27)),(some (280,true)),0⟩,⟨10,(some 282),(.bin .eql (.tmp 281) (.val (.int .i64 0))),(some (280,true)),0⟩,⟨11,(some 283),(.mov (.tmp 282)),(some (280,true)),0⟩,⟨12,(some 284),(.mov (.tmp 27)),(some (283,false)),0⟩,⟨13,(some 285),(.bin .eql (.tmp 284) (.val (.int .i64 10))),(some (283,false)),0⟩,⟨14,(some 286),(.pick (.tmp 283) (.val (.bool true)) (.tmp 285)),(some (280,true)),0⟩,⟨15,(some 287),(.pick (.tmp 280) (.tmp 286) (.val (.bool false))),none,0⟩,⟨16,(some 288),(.mov (.tmp 287)),none,0⟩,⟨17,(some 289),(.call (.val (.fn (Fn.func 21) [] [])) []),(some (288,true)),0⟩,⟨18,(some 290),(.pick (.tmp 288) (.tmp 289) (.val (.bool false))),none,0⟩,⟨19,(some 4),(.mov (.tmp 290)),none,0⟩]) .ret))))))))))))))))))))⟩
end Ev
end Go.Proofs.Ytlcjlcllbgjplaa

/- RoadBelow, gone through: the looks that say that all is dry. -/
namespace Go.Proofs.Ytlcjlcllbgjplaa
open Go
namespace Ev
namespace Ro
open K
attribute [local simp] ev1 wantG spineK spine float xnew xval xeff val_tmA_cons val_tmA_nil val_val putT_some putT_none addFl cellsOf pickC alive slLen slFt binI maxA maxK minA minK aeqK aeqS AV.cells spA slCells_sl fillA setAt bitsI nat_nn nat_nn1 AV.plain apart
set_option maxRecDepth 100000
set_option maxHeartbeats 4000000
def LLookC (call:CallF):Prop:=∀ (H:List AB) (n a b:Int),call (.fn (.func 30) [] []) [.int .i64 n,.int .i64 a,.int .i64 b] H=some (.ret (evE (Rd.lookE n a b)),H,[])
theorem below_tail (C:Cfg)(hC:C.calm=true)(call:CallF)(hA:LApi call)(hK:LLookC call)(r:Rd.Road)(hf:Rd.Fine r)(hcan:Rd.canR r (Rd.everyR r)=true)(H:List AB)(v S:Nat)(hv:v<r.events.length)(hS:S=Rd.surelyR r)(hSb:S<1024)(G:List AB)(hG:HB G H.length (.cells [.vs 7 (r.parts.map ptE),.vs 7 (r.events.map evE)]))(L:List (Nat × AV))(L2:lk 291 L 2=.ptr H.length 0)(L5:lk 291 L 5=.int .i64 S)(L13:lk 291 L 13=.int .i64 v):
  Does (ev C call H.length none (atP [1,1,1,1,1,1,1,1,1,1,1,1,1] af8.body) { tm:=tmA 291 L,df:=[],hp:=G,tc:=[] })
   (Ends C H.length af8.res fun v _ _=>v=.bool true):=by
 have hp4:=hf.parts
 have he10:=hf.events
 have ha:=fun H=>hA.alive (H:=H)
 have hwv:IntKind.i64.wrap ((v:Int)+1)=(v:Int)+1:=wrap_in (by omega) (by omega)
 have hbd:v+1≤bound:=by unfold bound;omega
 have hve:v+1≤r.events.length:=hv
 have g0:H.length<G.length:=hG.lt
 have gG:∀ n,¬ (G.length+n<H.length):=fun n=>by omega
 have gG0:¬ (G.length<H.length):=by omega
 have gn:¬ (G.length=H.length):=by omega
 have gn':¬ (H.length=G.length):=by omega
 obtain ⟨G1,G2,G3⟩:=hG
 have hsT:∀ H,slCells 7 H (.vs 7 (List.take (v+1) (r.events.map evE)))=some (evCs (r.events.take (v+1))):=fun H=>by rw[← List.map_take];exact evsV_vs H _
 have hvi:(v:Int)+1≤r.events.length:=by omega
 have hv0:¬ ((v:Int)+1=0):=by omega
 have hmin:min (v+1) r.events.length=v+1:=by omega
 have m2:val C (tmA 291 L) (.tmp 2)=.ptr H.length 0:=L2
 have m5:val C (tmA 291 L) (.tmp 5)=.int .i64 S:=L5
 have m13:val C (tmA 291 L) (.tmp 13)=.int .i64 v:=L13
 have HX:=hideP (And.intro hA (And.intro hK (And.intro hf (And.intro hS (And.intro hv (And.intro hcan (And.intro hSb (And.intro hp4 he10))))))))
 clear hA hK hf hS hv hcan hSb hp4 he10
 unfold af8
 simp only[atP] at *
 (repeat (first|((with_reducible apply ops_cons);(focus ((with_reducible apply ev1_spine);(focus rfl);(focus rfl);(focus ((conv=>lhs;simp[*,List.getElem?_append_right,List.set_append_right,List.getElem?_cons_zero,List.getElem?_append_left,List.set_append_left,-getElem?_pos,evCs_len,evCs_plain,lk_cons,Nat.testBit_eq_decide_div_mod_eq])<;>exact rfl));(focus rfl);(focus rfl)));simp only[addFl])|(with_reducible apply ops_cons;(focus ((conv=>lhs;simp[*,List.getElem?_append_right,List.set_append_right,List.getElem?_cons_zero,List.getElem?_append_left,List.set_append_left,-getElem?_pos,evCs_len,evCs_plain,lk_cons,Nat.testBit_eq_decide_div_mod_eq])<;>exact rfl));simp only[addFl])|((with_reducible first|apply does_seq|apply does_ops|apply does_draw|apply does_skip|apply does_block|apply does_ret|apply does_exit|apply ops_nil|(apply does_true;· simp[*,val_tmA_cons])|(apply does_false;· simp[*,val_tmA_cons]));try simp only[Then,Ops])|simp only[Nat.reduceEqDiff,reduceIte,OutB,Then]))
 with_reducible refine does_upto hC r.parts.length (by have:=HX.out.2.2.2.2.2.2.2.1;unfold fuelL;omega) (fun i st=>∃ G' q,HB G' H.length (.cells [.vs 7 (r.parts.map ptE),.vs 7 (r.events.map evE)])∧HB G' G.length (.cells [.vs 7 (r.parts.map ptE),.sl q 0 (v+1+i) 7])∧HB G' q (.cells (evCs (r.events.take (v+1)++(Rd.dryL r.parts.length).take i)))∧G.length<q∧st={ tm:=tmA 291 [(242,.int .i64 i),(241,.int .i64 r.parts.length),(24,.ptr G.length 0),(13,.int .i64 v),(5,.int .i64 S),(2,.ptr H.length 0)],df:=[],hp:=G',tc:=[] }) ?_ ?_ ?_
 ·refine ⟨_,G.length+2,?_,?_,?_,by omega,st_eq (by simp[*,keepT_tmA,lk_cons]) rfl rfl (by simp)⟩
  ·exact (hb G1).app _
  ·exact hb (by rw[List.getElem?_append_right (by omega)];simp)
  ·exact hb (by rw[List.getElem?_append_right (by omega)];simp)
 ·rintro i st hi ⟨G',q,A1,A2,A3,hq,rfl⟩
  obtain ⟨hA,hK,hf,hS,hv,hcan,hSb,hp4,he10⟩:=HX.out
  have hk:=fun H=>hK H i 0 60
  have hdt:(Rd.dryL r.parts.length).take (i+1)=(Rd.dryL r.parts.length).take i++[Rd.lookE i 0 60]:=by
   have:(Rd.dryL r.parts.length)[i]?=some (Rd.lookE i 0 60):=by unfold Rd.dryL;simp[hi]
   rw[List.take_add_one,this];rfl
  have hdl:((Rd.dryL r.parts.length).take i).length=i:=by simp[Rd.dry_len];omega
  have hcl:(evCs (r.events.take (v+1)++(Rd.dryL r.parts.length).take i)).length=(v+1+i) * 7:=by rw[evCs_len,List.length_append,hdl];simp;omega
  have hpl:=evCs_plain (r.events.take (v+1)++(Rd.dryL r.parts.length).take i)
  have hwi:IntKind.i64.wrap (↑i+1)=↑i+1:=wrap_in (by omega) (by omega)
  have hbi:v+1+i+1≤bound:=by unfold bound;omega
  have hb1:1≤bound:=by decide
  have hii:(i:Int)<r.parts.length:=by omega
  have A1':=A1
  have A2':=A2
  have A3':=A3
  have hGl:=A2.lt
  have hql:=A3.lt
  obtain ⟨B1,B2,B3⟩:=A1
  obtain ⟨C1,C2,C3⟩:=A2
  obtain ⟨D1,D2,D3⟩:=A3
  have n1:¬ (q<H.length):=by omega
  have n2:G.length≠q:=by omega
  have n3:q≠G.length:=by omega
  have n4:q≠H.length:=by omega
  have n5:H.length≠q:=by omega
  have n6:¬ (G'.length<H.length):=by omega
  have n7:∀ n,¬ (G'.length+n<H.length):=fun n=>by omega
  have HZ:=hideP (And.intro A1' (And.intro A2' (And.intro A3' (And.intro hdt (And.intro hdl (And.intro hGl hql))))))
  generalize hcs:evCs (r.events.take (v+1)++(Rd.dryL r.parts.length).take i)=cs at *
  have HC:=hideP hcs
  clear hA hK hf hS hv hcan hSb hp4 he10 A1' A2' A3' hdt hdl hGl hql hcs ha hwv hbd hve hvi hv0 hmin hsT m2 m5 m13 L2 L5 L13 G1 G2 G3
  simp only[Rd.lookE,evE] at hk
  (repeat (first|((with_reducible apply ops_cons);(focus ((with_reducible apply ev1_spine);(focus rfl);(focus rfl);(focus ((conv=>lhs;simp[*,List.getElem?_append_right,List.set_append_right,List.getElem?_cons_zero,List.getElem?_append_left,List.set_append_left,-getElem?_pos,hcl,hpl,Nat.testBit_eq_decide_div_mod_eq])<;>exact rfl));(focus rfl);(focus rfl)));simp only[addFl])|(with_reducible apply ops_cons;(focus ((conv=>lhs;simp[*,List.getElem?_append_right,List.set_append_right,List.getElem?_cons_zero,List.getElem?_append_left,List.set_append_left,-getElem?_pos,hcl,hpl,Nat.testBit_eq_decide_div_mod_eq])<;>exact rfl));simp only[addFl])|((with_reducible first|apply does_seq|apply does_ops|apply does_draw|apply does_skip|apply does_block|apply does_ret|apply does_exit|apply ops_nil|(apply does_true;· simp[*,val_tmA_cons])|(apply does_false;· simp[*,val_tmA_cons]));try simp only[Then,Ops,OutB])|simp only[Nat.reduceEqDiff,reduceIte,OutB,Then]))
  obtain ⟨A1',A2',A3',hdt,hdl,hGl,hql⟩:=HZ.out
  refine ⟨(G'.set q .dead).set G.length (.cells [.vs 7 (r.parts.map ptE),.sl (G'.length+1) 0 (v+1+i+1) 7])++[.cells [.int .i64 2,.int .i64 0,.int .i64 0,.int .i64 0,.int .i64 i,.int .i64 0,.int .i64 60],.cells (cs++[.int .i64 2,.int .i64 0,.int .i64 0,.int .i64 0,.int .i64 i,.int .i64 0,.int .i64 60])],G'.length+1,((A1'.set _ n4).set _ (by omega)).app _,((A2'.set _ n3).here _).app _,hb ?_,by omega,?_⟩
  rotate_left
  (refine st_is ?_ ?_ ?_ ?_;(focus (simp[keepT_tmA,lk_cons]));(focus rfl);(focus (first|rfl|(simp;done)|(simp[*];done)|(simp;rfl)|(simp[*];omega)|(simp;omega)));(focus (first|rfl|simp)))
  rw[List.getElem?_append_right (by simp)]
  rw[hdt,← List.append_assoc,evCs_app,HC.out]
  simp[evCs,Rd.lookE]
 ·rintro st ⟨G',q,A1,A2,A3,hq,rfl⟩
  obtain ⟨hA,hK,hf,hS,hv,hcan,hSb,hp4,he10⟩:=HX.out
  have hdl:((Rd.dryL r.parts.length).take r.parts.length)=Rd.dryL r.parts.length:=List.take_of_length_le (by rw[Rd.dry_len];omega)
  rw[hdl] at A3
  have hcl:(evCs (r.events.take (v+1)++Rd.dryL r.parts.length)).length=(v+1+r.parts.length) * 7:=by rw[evCs_len,List.length_append,Rd.dry_len];simp;omega
  have hpl:=evCs_plain (r.events.take (v+1)++Rd.dryL r.parts.length)
  have hsD:∀ H,slCells 7 H (.vs 7 (List.drop (v+1) (r.events.map evE)))=some (evCs (r.events.drop (v+1))):=fun H=>by rw[← List.map_drop];exact evsV_vs H _
  have hGl:=A2.lt
  have hql:=A3.lt
  have n1:¬ (q<H.length):=by omega
  have n2:G.length≠q:=by omega
  have n3:q≠G.length:=by omega
  have n4:q≠H.length:=by omega
  have n5:H.length≠q:=by omega
  have n6:¬ (G'.length<H.length):=by omega
  have n7:∀ n,¬ (G'.length+n<H.length):=fun n=>by omega
  have t1:=bit_i64 (n:=S) (d:=v) (by omega) (by omega)
  have hlen:v+1+r.parts.length+(r.events.length - (v+1))=r.events.length+r.parts.length:=by omega
  have A1':=A1
  have A2':=A2
  have A3':=A3
  obtain ⟨B1,B2,B3⟩:=A1
  obtain ⟨C1,C2,C3⟩:=A2
  obtain ⟨D1,D2,D3⟩:=A3
  have HZ:=hideP (And.intro A1' (And.intro A2' (And.intro A3' (And.intro hdl (And.intro hGl (And.intro hql (And.intro t1 (And.intro hcl (And.intro hpl HX)))))))))
  have hdm:List.drop (v+1) (r.events.map evE)=(r.events.drop (v+1)).map evE:=by rw[List.map_drop]
  have hdn:(r.events.drop (v+1)).length=r.events.length - (v+1):=by simp
  have hbt:v+1+r.parts.length+(r.events.length - (v+1))≤bound:=by unfold bound;omega
  have hpd:=evCs_plain (r.events.drop (v+1))
  have hpe:=evCs_len (r.events.drop (v+1))
  rw[hdn] at hpe
  generalize hcs:evCs (r.events.take (v+1)++Rd.dryL r.parts.length)=cs at *
  generalize hds:evCs (r.events.drop (v+1))=ds at *
  have HC:=hideP (And.intro hcs (And.intro hds (And.intro hlen hS)))
  have hS1:S<1024:=hSb
  clear hA hK hf hS hcan hSb hp4 he10 A1' A2' A3' hdl hGl hql hcs hds hsT m2 m5 m13 L2 L5 L13 G1 G2 G3 HX t1 hdm hdn
  have hbt2:r.events.length+r.parts.length≤bound:=by omega
  have hs0:∀ H,slCells 7 H (.vs 7 [])=some []:=fun _=>rfl
  have key:((r.events.length:Int) - (v+1)=0∧ds=[])∨(¬ ((r.events.length:Int) - (v+1)=0)∧List.take ((r.events.length:Int) - (v+1)).toNat (List.drop (v+1) (List.map evE r.events))=List.drop (v+1) (List.map evE r.events)):=by
   by_cases hlast:v+1=r.events.length
   ·exact .inl ⟨by omega,List.eq_nil_of_length_eq_zero (by rw[hpe,← hlast];simp)⟩
   ·exact .inr ⟨by omega,List.take_of_length_le (by simp;omega)⟩
  by_cases hbig:10<r.events.length+r.parts.length
  ·have hbig':(10:Int)<(r.events.length:Int)+r.parts.length:=by omega
   have hlq:v+1=r.events.length∨¬ v+1=r.events.length:=Classical.em _
   rcases key with ⟨hi1,hd0⟩|⟨hi1,hTk⟩<;>rcases hlq with hlast|hlast
   all_goals try omega
   all_goals
    (repeat (first|((with_reducible apply ops_cons);(focus ((with_reducible apply ev1_spine);(focus rfl);(focus rfl);(focus ((conv=>lhs;simp[*,List.getElem?_append_right,List.set_append_right,List.getElem?_cons_zero,List.getElem?_append_left,List.set_append_left,-getElem?_pos,hcl,hpl,Nat.testBit_eq_decide_div_mod_eq])<;>exact rfl));(focus rfl);(focus rfl)));simp only[addFl])|(with_reducible apply ops_cons;(focus ((conv=>lhs;simp[*,List.getElem?_append_right,List.set_append_right,List.getElem?_cons_zero,List.getElem?_append_left,List.set_append_left,-getElem?_pos,hcl,hpl,Nat.testBit_eq_decide_div_mod_eq])<;>exact rfl));simp only[addFl])|((with_reducible first|apply does_seq|apply does_ops|apply does_draw|apply does_skip|apply does_block|apply does_ret|apply does_exit|apply ops_nil|(apply does_true;· simp[*,val_tmA_cons])|(apply does_false;· simp[*,val_tmA_cons]));try simp only[Then,Ops,OutB,reduceIte])|simp only[Nat.reduceEqDiff,reduceIte,OutB,Then]))
    exact ends_plain (v:=.bool true) (.inl rfl) rfl (by simp;omega) (by simp only[resL,resOf,tmA_getD_cons];simp[*,resV]) rfl
  have hbig':¬ ((10:Int)<(r.events.length:Int)+r.parts.length):=by omega
  obtain ⟨hcs,hds,-,hS⟩:=HC.out
  have HX:=HZ.out.2.2.2.2.2.2.2.2.2
  obtain ⟨hA,-,hf,-,hv,hcan,-,hp4,he10⟩:=HX.out
  have hxl:(Rd.dryR r (v+1)).events.length=r.events.length+r.parts.length:=by
   show (r.events.take (v+1)++Rd.dryL r.parts.length++r.events.drop (v+1)).length=_
   simp only[List.length_append,Rd.dry_len,List.length_take,List.length_drop];omega
  have hcd:cs++ds=evCs (Rd.dryR r (v+1)).events:=by
   show _=evCs (r.events.take (v+1)++Rd.dryL r.parts.length++r.events.drop (v+1))
   rw[evCs_app,hcs,hds]
  have hro:roadOf ((G'.set q AB.dead).set G.length (AB.cells [AV.vs 7 (List.map ptE r.parts),AV.sl G'.length 0 (r.events.length+r.parts.length) 7])++[AB.cells (cs++ds)]) (.agg [.vs 7 (r.parts.map ptE),.sl G'.length 0 (r.events.length+r.parts.length) 7])=some (Rd.dryR r (v+1)):=by
   refine roadOf_of (ptsV_vs _ _) (evsV_sl ?_ hxl.symm) (by omega) (by show (Rd.dryR r (v+1)).events.length≤50;omega)
   rw[List.getElem?_append_right (by simp)]
   simp only[List.length_set,Nat.sub_self,List.getElem?_cons_zero]
   rw[hcd];rfl
  have hfx:=Rd.dry_fine hf (v+1) (by omega)
  have hwk:=hA.weak hro
  have hcx:=Rd.dry_can hf hv
  rw[← hS] at hcx
  have t1:=HZ.out.2.2.2.2.2.2.1
  clear hA hf hcan hp4 he10 hxl hro HX hS HZ HC hv hcs hds hcd
  have hends:∃ e:Int,call (.fn (.func 34) [] []) [.agg [.vs 7 (r.parts.map ptE),.sl G'.length 0 (r.events.length+r.parts.length) 7]] ((G'.set q AB.dead).set G.length (AB.cells [AV.vs 7 (List.map ptE r.parts),AV.sl G'.length 0 (r.events.length+r.parts.length) 7])++[AB.cells (cs++ds)])=some (.ret (.tup [.int .i64 e,.int .i64 (if S.testBit v then 10 else 0)]),(G'.set q AB.dead).set G.length (AB.cells [AV.vs 7 (List.map ptE r.parts),AV.sl G'.length 0 (r.events.length+r.parts.length) 7])++[AB.cells (cs++ds)],[]):=by
   cases hb:S.testBit v with
   |true=>
    rw[hb] at hcx
    have he:Rd.errR (Rd.dryR r (v+1)) true=10:=by
     unfold Rd.errR
     rw[(Rd.valid_iff _).2 hfx,hcx];rfl
    exact ⟨0,by rw[hwk];unfold numRV;rw[he];rfl⟩
   |false=>
    rw[hb] at hcx
    have he:Rd.errR (Rd.dryR r (v+1)) true=0:=by
     unfold Rd.errR
     rw[(Rd.valid_iff _).2 hfx,hcx];rfl
    exact ⟨_,by rw[hwk];unfold numRV;rw[he];rfl⟩
  obtain ⟨ew,hwk2⟩:=hends
  clear hwk hcx hfx
  have hlq:v+1=r.events.length∨¬ v+1=r.events.length:=Classical.em _
  rcases key with ⟨hi1,hd0⟩|⟨hi1,hTk⟩<;>rcases hlq with hlast|hlast<;>try omega
  all_goals try rw[hd0,List.append_nil] at hwk2
  all_goals
   cases hb:S.testBit v<;>simp[hb] at t1<;>simp only[hb,if_true,Bool.false_eq_true,if_false] at hwk2
  all_goals
   (repeat (first|((with_reducible apply ops_cons);(focus ((with_reducible apply ev1_spine);(focus rfl);(focus rfl);(focus ((conv=>lhs;simp[*,List.getElem?_append_right,List.set_append_right,List.getElem?_cons_zero,List.getElem?_append_left,List.set_append_left,-getElem?_pos,hcl,hpl,Nat.testBit_eq_decide_div_mod_eq])<;>exact rfl));(focus rfl);(focus rfl)));simp only[addFl])|(with_reducible apply ops_cons;(focus ((conv=>lhs;simp[*,List.getElem?_append_right,List.set_append_right,List.getElem?_cons_zero,List.getElem?_append_left,List.set_append_left,-getElem?_pos,hcl,hpl,Nat.testBit_eq_decide_div_mod_eq])<;>exact rfl));simp only[addFl])|((with_reducible first|apply does_seq|apply does_ops|apply does_draw|apply does_skip|apply does_block|apply does_ret|apply does_exit|apply ops_nil|(apply does_true;· simp[*,val_tmA_cons])|(apply does_false;· simp[*,val_tmA_cons]));try simp only[Then,Ops,OutB,reduceIte])|simp only[Nat.reduceEqDiff,reduceIte,OutB,Then]))
   exact ends_plain (v:=.bool true) (.inl rfl) rfl (by simp;omega) (by simp only[resL,resOf,tmA_getD_cons];simp[*,resV]) rfl
end Ro
end Ev
end Go.Proofs.Ytlcjlcllbgjplaa

/- RoadBelow, gone through. -/
namespace Go.Proofs.Ytlcjlcllbgjplaa
open Go
namespace Ev
namespace Ro
open K
attribute [local simp] ev1 wantG spineK spine float xnew xval xeff val_tmA_cons val_tmA_nil val_val putT_some putT_none addFl cellsOf pickC alive slLen slFt binI maxA maxK minA minK aeqK aeqS AV.cells spA slCells_sl fillA setAt bitsI nat_nn nat_nn1 AV.plain apart
set_option maxRecDepth 100000
set_option maxHeartbeats 4000000
theorem height_ok {call:CallF}(hA:LApi call){H:List AB}{v:AV}{r:Rd.Road}(hr:roadOf H v=some r)(hf:Rd.Fine r)(hcan:Rd.canR r (Rd.everyR r)=true){p m:Nat}(hp:p<r.parts.length)(hm:m<r.events.length):call (.fn (.func 14) [] []) [v,.int .i64 p,.int .i64 m] H=some (.ret (.tup [.agg [.int .i64 (Rd.heightsR r p (m+1)).lo,.int .i64 (Rd.heightsR r p (m+1)).hi],.int .i64 0]),H,[]):=by
 have h1:=hf.parts
 have h2:=hf.events
 rw[hA.height hr p m (by unfold i64n;omega) (by unfold i64n;omega)]
 have he:Rd.errR r (Rd.isPart r p&&Rd.isEvent r m)=0:=by
  unfold Rd.errR
  rw[(Rd.valid_iff r).2 hf,hcan,show Rd.isPart r p=true from decide_eq_true (by omega),show Rd.isEvent r m=true from decide_eq_true (by omega)];rfl
 unfold spanRV
 rw[he]
 simp[spA]
def lowB (r:Rd.Road)(v i:Nat):Bool:=(List.range i).any fun p=>decide ((Rd.heightsR r p (v+1)).lo<0)
def surB (r:Rd.Road)(v i:Nat):Bool:=(List.range i).any fun p=>decide ((Rd.heightsR r p (v+1)).hi<0)
theorem lowB_succ (r:Rd.Road)(v i:Nat):lowB r v (i+1)=(lowB r v i || decide ((Rd.heightsR r i (v+1)).lo<0)):=by unfold lowB;rw[List.range_succ,List.any_append];simp
theorem surB_succ (r:Rd.Road)(v i:Nat):surB r v (i+1)=(surB r v i || decide ((Rd.heightsR r i (v+1)).hi<0)):=by unfold surB;rw[List.range_succ,List.any_append];simp
theorem lbelow_walk (C:Cfg)(hC:C.calm=true)(call:CallF)(hA:LApi call)(hK:LLookC call)(r:Rd.Road)(x:Int)(hx:0≤x∧x≤255)(H:List AB):
  Does (ev C call H.length none af8.body { tm:=tmA af8.ntmps (zipI 0 [.agg (roadCs r),.int .u8 x] []),df:=[],hp:=H,tc:=[] })
   (Ends C H.length af8.res fun v _ _=>v=.bool true):=by
 have hl:=fun H=>hA.long (H:=H) r
 have ha:=fun H=>hA.alive (H:=H)
 by_cases hlen:max r.parts.length r.events.length > 40
 ·rw[decide_eq_true hlen] at hl
  clear hA hlen hx hK
  unfold af8
  simp only[zipI,roadCs] at *
  (repeat (first|(with_reducible apply ops_cons;(focus ((conv=>lhs;simp[*,Nat.testBit_eq_decide_div_mod_eq])<;>exact rfl));simp only[addFl])|((with_reducible first|apply does_seq|apply does_ops|apply does_draw|apply does_skip|apply does_block|apply does_ret|apply does_exit|apply ops_nil|(apply does_true;· simp[*,val_tmA_cons])|(apply does_false;· simp[*,val_tmA_cons]));try simp only[Then,Ops,OutB,reduceIte])|simp only[Nat.reduceEqDiff,reduceIte,OutB,Then]))
  exact ends_plain (v:=.bool true) (.inl rfl) rfl (by simp) (by simp only[resL,resOf,tmA_getD_cons];simp[*,pickC,resV,spA]) rfl
 rw[decide_eq_false hlen] at hl
 have hro:=fun H=>roadOf_r H r (by omega) (by omega)
 have hv:=fun H=>hA.valid (hro H)
 cases hval:Rd.valid r with
 |false=>
  rw[hval] at hv
  clear hA hlen hro hval hx hK
  unfold af8
  simp only[zipI,roadCs] at *
  (repeat (first|(with_reducible apply ops_cons;(focus ((conv=>lhs;simp[*,Nat.testBit_eq_decide_div_mod_eq])<;>exact rfl));simp only[addFl])|((with_reducible first|apply does_seq|apply does_ops|apply does_draw|apply does_skip|apply does_block|apply does_ret|apply does_exit|apply ops_nil|(apply does_true;· simp[*,val_tmA_cons])|(apply does_false;· simp[*,val_tmA_cons]));try simp only[Then,Ops,OutB,reduceIte])|simp only[Nat.reduceEqDiff,reduceIte,OutB,Then]))
  exact ends_plain (v:=.bool true) (.inl rfl) rfl (by simp) (by simp only[resL,resOf,tmA_getD_cons];simp[*,pickC,resV,spA]) rfl
 |true=>
 rw[hval] at hv
 have hf:=(Rd.valid_iff r).1 hval
 have he10:=hf.events
 have hp4:=hf.parts
 have r1:=fun H=>hA.below (hro H)
 have r2:=fun H=>hA.weak (hro H)
 cases hcan:Rd.canR r (Rd.everyR r) with
 |false=>
  have he:Rd.errR r true=10:=by
   unfold Rd.errR
   rw[hval,hcan];rfl
  have e1:belowRV r=.tup [.int .i64 0,.int .i64 0,.int .i64 10]:=by unfold belowRV;rw[he];rfl
  rw[e1] at r1
  rw[num_no hf hcan] at r2
  have q1:=andn_i64 (a:=0) (b:=0) (by decide) (by decide)
  have q2:(0:Int).fdiv (2 ^ (min r.events.length IntKind.i64.bits))=0:=by simp
  clear hA hlen hro hval hx hf hcan he10 hp4 he e1 hK
  rw[show andn 0 0=0 from rfl] at q1
  simp at q1
  unfold af8
  simp only[zipI,roadCs] at *
  (repeat (first|(with_reducible apply ops_cons;(focus ((conv=>lhs;simp[*,Nat.testBit_eq_decide_div_mod_eq])<;>exact rfl));simp only[addFl])|((with_reducible first|apply does_seq|apply does_ops|apply does_draw|apply does_skip|apply does_block|apply does_ret|apply does_exit|apply ops_nil|(apply does_true;· simp[*,val_tmA_cons])|(apply does_false;· simp[*,val_tmA_cons]));try simp only[Then,Ops,OutB,reduceIte])|simp only[Nat.reduceEqDiff,reduceIte,OutB,Then]))
  exact ends_plain (v:=.bool true) (.inl rfl) rfl (by simp) (by simp only[resL,resOf,tmA_getD_cons];simp[*,pickC,resV,spA]) rfl
 |true=>
 have e1:belowRV r=.tup [.int .i64 (Rd.surelyR r:Int),.int .i64 (Rd.perhapsR r:Int),.int .i64 0]:=by
  have he:Rd.errR r true=0:=by
   unfold Rd.errR
   rw[hval,hcan];rfl
  unfold belowRV;rw[he];rfl
 rw[e1] at r1
 rw[num_ok hf hcan] at r2
 clear e1
 have s1:Rd.surelyR r<1024:=Rd.set_low _ he10
 have s2:Rd.perhapsR r<1024:=Rd.set_low _ he10
 have q1:=andn_i64 (a:=Rd.surelyR r) (b:=Rd.perhapsR r) (by omega) (by omega)
 rw[Rd.surely_sub hcan] at q1
 have q2:((Rd.perhapsR r:Nat):Int).fdiv (2 ^ (min r.events.length IntKind.i64.bits))=0:=by
  have hb:IntKind.i64.bits=64:=rfl
  have hlt:Rd.perhapsR r<2 ^ r.events.length:=Clm.setOf_lt _ _
  rw[show min r.events.length IntKind.i64.bits=r.events.length by rw[hb];omega,Int.fdiv_eq_ediv_of_nonneg _ (Int.pow_nonneg (by decide))]
  have:((2:Int) ^ r.events.length)=((2 ^ r.events.length:Nat):Int):=by simp
  rw[this]
  exact Int.ediv_eq_zero_of_lt (by omega) (by exact_mod_cast hlt)
 have w1:=Rd.weak_lt hf
 have w2:¬ ((r.parts.length:Int)≤(Rd.weakR r:Int)):=by omega
 have w3:¬ (r.parts.length≤Rd.weakR r):=by omega
 have u1:¬ ((Rd.surelyR r:Int)<0):=by omega
 have u2:¬ ((Rd.weakR r:Int)<0):=by omega
 simp at q1
 by_cases hE:r.events=[]
 ·have z1:=fun i (hi:i<r.parts.length)=>Rd.height_zero hf hcan hi hE
  have z2:=fun j (hj:j<r.parts.length)=>Rd.weak_le (r:=r) hj
  have hE0:r.events.length=0:=by rw[hE];rfl
  rw[hE0] at z2
  have hgw:r.parts[Rd.weakR r]?=some r.parts[Rd.weakR r]:=List.getElem?_eq_getElem w1
  have hz:(r.parts[Rd.weakR r]).height.lo=(r.parts.getD (Rd.weakR r) default).height.lo:=by rw[List.getD_eq_getElem?_getD,hgw];rfl
  generalize r.parts[Rd.weakR r]=pw at *
  have hgw':=ge_of hgw
  have HH:=hideP (And.intro z1 (And.intro z2 (And.intro hz (And.intro hgw hp4))))
  have hS0:Rd.surelyR r=0:=by
   have:Rd.surelyR r<2 ^ r.events.length:=Clm.setOf_lt _ _
   rw[hE0] at this;omega
  have hP0:Rd.perhapsR r=0:=by
   have:Rd.perhapsR r<2 ^ r.events.length:=Clm.setOf_lt _ _
   rw[hE0] at this;omega
  rw[hS0,hP0] at r1
  have q1:=andn_i64 (a:=0) (b:=0) (by decide) (by decide)
  rw[show andn 0 0=0 from rfl] at q1
  simp at q1
  generalize Rd.weakR r=W at *
  clear hK hA hro hval hf hcan he10 hp4 z1 z2 hz hgw s1 s2 hlen hx hS0 hP0 q2 u1 hE0
  obtain ⟨ps,es⟩:=r
  simp only at hE
  subst hE
  unfold af8
  simp only[zipI,roadCs,List.map_nil,List.length_nil] at *
  (repeat (first|(with_reducible apply ops_cons;(focus ((conv=>lhs;simp[*,Nat.testBit_eq_decide_div_mod_eq])<;>exact rfl));simp only[addFl])|((with_reducible first|apply does_seq|apply does_ops|apply does_draw|apply does_skip|apply does_block|apply does_ret|apply does_exit|apply ops_nil|(apply does_true;· simp[*,val_tmA_cons])|(apply does_false;· simp[*,val_tmA_cons]));try simp only[Then,Ops,OutB,reduceIte])|simp only[Nat.reduceEqDiff,reduceIte,OutB,Then]))
  with_reducible refine does_upto hC ps.length (by have:=HH.out.2.2.2.2;unfold fuelL;omega) (fun i st=>∃ J,st={ tm:=tmA 291 [(103,.int .i64 i),(102,.int .i64 ps.length),(101,.vs 7 (ps.map ptE)),(8,.int .i64 W),(2,.ptr H.length 0)],df:=[],hp:=H++.cells [.vs 7 (ps.map ptE),.vs 7 []]::J,tc:=[] }) ?_ ?_ ?_
  ·refine ⟨[],?_⟩
   (refine st_is ?_ ?_ ?_ ?_;(focus (simp[keepT_tmA,lk_cons]));(focus rfl);(focus (first|rfl|(simp;done)|(simp[*];done)|(simp;rfl)|(simp[*];omega)|(simp;omega)));(focus (first|rfl|simp)))
  ·rintro i st hi ⟨J,rfl⟩
   have hgp:ps[i]?=some ps[i]:=List.getElem?_eq_getElem hi
   have hpz:(ps[i]).height.lo=(ps.getD i default).height.lo:=by rw[List.getD_eq_getElem?_getD,hgp];rfl
   generalize ps[i]=p at *
   have hgp':=ge_of hgp
   have hwi:IntKind.i64.wrap (↑i+1)=↑i+1:=wrap_in (by have:=HH.out.2.2.2.2;omega) (by have:=HH.out.2.2.2.2;omega)
   obtain ⟨z1,z2,hz,hgw,hp4⟩:=HH.out
   obtain ⟨y1,y2⟩:=z2 i hi
   rw[z1 i hi,z1 W w1] at y1 y2
   rw[← hpz,← hz] at y1 y2
   have n1:¬ (p.height.lo<pw.height.lo):=by omega
   have key:(p.height.lo=pw.height.lo∧¬ (i<W)∧¬ ((i:Int)<W))∨(¬ p.height.lo=pw.height.lo∧(p.height.lo==pw.height.lo)=false):=by
    by_cases hq:p.height.lo=pw.height.lo
    ·exact .inl ⟨hq,fun h=>by have:=y2 h;omega,fun h=>by have:=y2 (by omega);omega⟩
    ·exact .inr ⟨hq,by simpa using hq⟩
   clear z1 z2 hz y1 y2 hpz HH
   rcases key with ⟨hq,n2,n3⟩|⟨hq,hq'⟩
   all_goals
    (repeat (first|(with_reducible apply ops_cons;(focus ((conv=>lhs;simp[*,ptE,Nat.testBit_eq_decide_div_mod_eq])<;>exact rfl));simp only[addFl])|((with_reducible first|apply does_seq|apply does_ops|apply does_draw|apply does_skip|apply does_block|apply does_ret|apply does_exit|apply ops_nil|(apply does_true;· simp[*,val_tmA_cons])|(apply does_false;· simp[*,val_tmA_cons]));try simp only[Then,Ops,OutB,reduceIte])|simp only[Nat.reduceEqDiff,reduceIte,OutB,Then]))
    with_reducible refine ⟨?_,?_⟩
    rotate_left
    (refine st_is ?_ ?_ ?_ ?_;(focus (simp[keepT_tmA,lk_cons]));(focus rfl);(focus (first|rfl|(simp;done)|(simp[*];done)|(simp;rfl)|(simp[*];omega)|(simp;omega)));(focus (first|rfl|simp)))
  ·rintro st ⟨J,rfl⟩
   (repeat (first|(with_reducible apply ops_cons;(focus ((conv=>lhs;simp[*,Nat.testBit_eq_decide_div_mod_eq])<;>exact rfl));simp only[addFl])|((with_reducible first|apply does_seq|apply does_ops|apply does_draw|apply does_skip|apply does_block|apply does_ret|apply does_exit|apply ops_nil|(apply does_true;· simp[*,val_tmA_cons])|(apply does_false;· simp[*,val_tmA_cons]));try simp only[Then,Ops,OutB,reduceIte])|simp only[Nat.reduceEqDiff,reduceIte,OutB,Then]))
   exact ends_plain (v:=.bool true) (.inl rfl) rfl (by simp) (by simp only[resL,resOf,tmA_getD_cons];simp[*,pickC,resV,spA]) rfl
 have hlen1:1≤r.events.length:=by
  cases h:r.events with
  |nil=>exact absurd h hE
  |cons a l=>simp
 obtain ⟨v,hv,hmv⟩:∃ v:Nat,v<r.events.length∧x.tmod (r.events.length:Int)=(v:Int):=by
  have h1:=Int.tmod_nonneg (r.events.length:Int) hx.1
  have h2:=Int.tmod_lt_of_pos x (show (0:Int)<(r.events.length:Int) by omega)
  exact ⟨(x.tmod (r.events.length:Int)).toNat,by omega,by omega⟩
 have hwx:IntKind.i64.wrap x=x:=wrap_in (by omega) (by omega)
 have hwl:IntKind.i64.wrap ((r.events.length:Int) - 1)=(r.events.length:Int) - 1:=wrap_in (by omega) (by omega)
 have hlast:((r.events.length - 1:Nat):Int)=(r.events.length:Int) - 1:=by omega
 have hL1:r.events.length - 1+1=r.events.length:=by omega
 have hhw:=fun H=>height_ok hA (hro H) hf hcan w1 (m:=r.events.length - 1) (by omega)
 rw[hlast,hL1] at hhw
 have hpi:=fun H (p:Nat) (hp:p<r.parts.length)=>height_ok hA (hro H) hf hcan hp (m:=r.events.length - 1) (by omega)
 rw[hlast,hL1] at hpi
 have hpv:=fun H (p:Nat) (hp:p<r.parts.length)=>height_ok hA (hro H) hf hcan hp hv
 have z2:=fun j (hj:j<r.parts.length)=>Rd.weak_le (r:=r) hj
 have hlw:=Rd.low_iff hcan hv
 have hsw:=fun i (hi:i<r.parts.length)=>Rd.sure_low hcan hv hi
 have t1:=bit_i64 (n:=Rd.surelyR r) (d:=v) (by omega) (by omega)
 have t2:=bit_i64 (n:=Rd.perhapsR r) (d:=v) (by omega) (by omega)
 have HH:=hideP (And.intro hpi (And.intro hpv (And.intro z2 (And.intro hlw (And.intro hsw (And.intro t1 (And.intro t2 (And.intro hp4 (And.intro he10 (And.intro hA (And.intro hf (And.intro hcan (And.intro hv (And.intro s1 hK))))))))))))))
 clear hpi hpv z2 hlw hsw t1 t2 hp4 he10 hA hf hcan hv s1 s2 hK hro hval hlen hx hlast hL1 hlen1
 unfold af8
 simp only[zipI,roadCs] at *
 (repeat (first|((with_reducible apply ops_cons);(focus ((with_reducible apply ev1_spine);(focus rfl);(focus rfl);(focus ((conv=>lhs;simp[*,List.getElem?_append_right,List.set_append_right,List.getElem?_cons_zero,List.getElem?_append_left,List.set_append_left,-getElem?_pos,Nat.testBit_eq_decide_div_mod_eq])<;>exact rfl));(focus rfl);(focus rfl)));simp only[addFl])|(with_reducible apply ops_cons;(focus ((conv=>lhs;simp[*,List.getElem?_append_right,List.set_append_right,List.getElem?_cons_zero,List.getElem?_append_left,List.set_append_left,-getElem?_pos,Nat.testBit_eq_decide_div_mod_eq])<;>exact rfl));simp only[addFl])|((with_reducible first|apply does_seq|apply does_ops|apply does_draw|apply does_skip|apply does_block|apply does_ret|apply does_exit|apply ops_nil|(apply does_true;· simp[*,val_tmA_cons])|(apply does_false;· simp[*,val_tmA_cons]));try simp only[Then,Ops,OutB,reduceIte])|simp only[Nat.reduceEqDiff,reduceIte,OutB,Then]))
 with_reducible refine does_upto hC r.parts.length (by have:=HH.out.2.2.2.2.2.2.2.1;unfold fuelL;omega) (fun i st=>∃ J,st={ tm:=tmA 291 [(154,.int .i64 i),(153,.int .i64 r.parts.length),(18,.int .i64 0),(17,.ptr (H.length+1) 0),(16,.bool (surB r v i)),(15,.bool (lowB r v i)),(14,.int .i64 ((r.events.length:Int) - 1)),(13,.int .i64 v),(8,.int .i64 (Rd.weakR r)),(6,.int .i64 (Rd.perhapsR r)),(5,.int .i64 (Rd.surelyR r)),(2,.ptr H.length 0)],df:=[],hp:=H++.cells [.vs 7 (r.parts.map ptE),.vs 7 (r.events.map evE)]::.cells [.int .i64 (Rd.heightsR r (Rd.weakR r) r.events.length).lo,.int .i64 (Rd.heightsR r (Rd.weakR r) r.events.length).hi]::J,tc:=[] }) ?_ ?_ ?_
 ·refine ⟨[],?_⟩
  rw[show surB r v 0=false from rfl,show lowB r v 0=false from rfl]
  (refine st_is ?_ ?_ ?_ ?_;(focus (simp[keepT_tmA,lk_cons]));(focus rfl);(focus (first|rfl|(simp;done)|(simp[*];done)|(simp;rfl)|(simp[*];omega)|(simp;omega)));(focus (first|rfl|simp)))
 ·rintro i st hi ⟨J,rfl⟩
  have h1:=fun H=>HH.out.1 H i hi
  have h2:=fun H=>HH.out.2.1 H i hi
  obtain ⟨y1,y2⟩:=HH.out.2.2.1 i hi
  have hp4:=HH.out.2.2.2.2.2.2.2.1
  have hwi:IntKind.i64.wrap (↑i+1)=↑i+1:=wrap_in (by omega) (by omega)
  have hii:(i:Int)<r.parts.length:=by omega
  rw[surB_succ,lowB_succ]
  generalize surB r v i=sb at *
  generalize lowB r v i=lb at *
  generalize (Rd.heightsR r i r.events.length)=tI at *
  generalize (Rd.heightsR r i (v+1))=sI at *
  generalize (Rd.heightsR r (Rd.weakR r) r.events.length)=wI at *
  have n1:¬ (tI.lo<wI.lo):=by omega
  have key:(tI.lo=wI.lo∧¬ (i<Rd.weakR r)∧¬ ((i:Int)<Rd.weakR r))∨(¬ tI.lo=wI.lo∧(tI.lo==wI.lo)=false):=by
   by_cases hq:tI.lo=wI.lo
   ·exact .inl ⟨hq,fun h=>by have:=y2 h;omega,fun h=>by have:=y2 (by omega);omega⟩
   ·exact .inr ⟨hq,by simpa using hq⟩
  clear y1 y2 hp4 hhw r1 r2 ha hv
  rcases key with ⟨hq,n2,n3⟩|⟨hq,hq'⟩<;>cases lb<;>cases sb
  all_goals
   (repeat (first|((with_reducible apply ops_cons);(focus ((with_reducible apply ev1_spine);(focus rfl);(focus rfl);(focus ((conv=>lhs;simp[*,List.getElem?_append_right,List.set_append_right,List.getElem?_cons_zero,List.getElem?_append_left,List.set_append_left,-getElem?_pos,Nat.testBit_eq_decide_div_mod_eq])<;>exact rfl));(focus rfl);(focus rfl)));simp only[addFl])|(with_reducible apply ops_cons;(focus ((conv=>lhs;simp[*,List.getElem?_append_right,List.set_append_right,List.getElem?_cons_zero,List.getElem?_append_left,List.set_append_left,-getElem?_pos,Nat.testBit_eq_decide_div_mod_eq])<;>exact rfl));simp only[addFl])|((with_reducible first|apply does_seq|apply does_ops|apply does_draw|apply does_skip|apply does_block|apply does_ret|apply does_exit|apply ops_nil|(apply does_true;· simp[*,val_tmA_cons])|(apply does_false;· simp[*,val_tmA_cons]));try simp only[Then,Ops,OutB,reduceIte])|simp only[Nat.reduceEqDiff,reduceIte,OutB,Then]))
   with_reducible refine ⟨?_,?_⟩
   rotate_left
   (refine st_is ?_ ?_ ?_ ?_;(focus (simp[keepT_tmA,lk_cons]));(focus rfl);(focus (first|rfl|(simp;done)|(simp[*];done)|(simp;rfl)|(simp[*];omega)|(simp;omega)));(focus (first|rfl|simp)))
 ·rintro st ⟨J,rfl⟩
  obtain ⟨_,_,_,hlw,hsw,t1,t2,hp4,he10,hA,hf,hcan,hv',s1,hK⟩:=HH.out
  have hend:=fun L h2 h5 h13=>below_tail C hC call hA hK r hf hcan H v (Rd.surelyR r) hv' rfl s1 (H++.cells [.vs 7 (r.parts.map ptE),.vs 7 (r.events.map evE)]::.cells [.int .i64 (Rd.heightsR r (Rd.weakR r) r.events.length).lo,.int .i64 (Rd.heightsR r (Rd.weakR r) r.events.length).hi]::J) (hb (by simp)) L h2 h5 h13
  have hlow:(Rd.perhapsR r).testBit v=lowB r v r.parts.length:=by
   rw[Bool.eq_iff_iff,hlw]
   unfold lowB
   simp only[List.any_eq_true,List.mem_range,decide_eq_true_eq]
  have hsure:surB r v r.parts.length=true→(Rd.surelyR r).testBit v=true:=fun h=>by
   unfold surB at h
   simp only[List.any_eq_true,List.mem_range,decide_eq_true_eq] at h
   obtain ⟨p,h1,h2⟩:=h
   exact hsw p h1 h2
  rw[hlow] at t2
  generalize lowB r v r.parts.length=lb at *
  generalize surB r v r.parts.length=sb at *
  unfold af8 at hend
  simp only[atP] at hend
  have HE:=hideP hend
  have HT:=hideP (And.intro t1 (And.intro t2 hsure))
  clear hend t1 t2 hsure hlow hsw hlw hA hf hcan hv' s1 hK hp4 he10 hhw r1 r2 ha hv
  obtain ⟨t1,t2,hsure⟩:=HT.out
  cases sb<;>cases lb
  all_goals
   simp[hsure] at t1 t2
   clear hsure
   (repeat (first|(with_reducible refine HE.out _ ?_ ?_ ?_<;>simp[lk_cons])|((with_reducible apply ops_cons);(focus ((with_reducible apply ev1_spine);(focus rfl);(focus rfl);(focus ((conv=>lhs;simp[*,List.getElem?_append_right,List.set_append_right,List.getElem?_cons_zero,List.getElem?_append_left,List.set_append_left,-getElem?_pos,Nat.testBit_eq_decide_div_mod_eq])<;>exact rfl));(focus rfl);(focus rfl)));simp only[addFl])|(with_reducible apply ops_cons;(focus ((conv=>lhs;simp[*,List.getElem?_append_right,List.set_append_right,List.getElem?_cons_zero,List.getElem?_append_left,List.set_append_left,-getElem?_pos,Nat.testBit_eq_decide_div_mod_eq])<;>exact rfl));simp only[addFl])|((with_reducible first|apply does_seq|apply does_ops|apply does_draw|apply does_skip|apply does_block|apply does_ret|apply does_exit|apply ops_nil|(apply does_true;· simp[*,val_tmA_cons])|(apply does_false;· simp[*,val_tmA_cons]));try simp only[Then,Ops,OutB,reduceIte])|simp only[Nat.reduceEqDiff,reduceIte,OutB,Then]))
end Ro
end Ev
end Go.Proofs.Ytlcjlcllbgjplaa

/- Chapter 05: the law's look. -/
namespace Go.Proofs.Ytlcjlcllbgjplaa
open Go
namespace Ev
namespace Ro
open K
attribute [local simp] ev1 wantG spineK spine float xnew xval xeff val_tmA_cons val_tmA_nil val_val putT_some putT_none addFl cellsOf pickC alive slLen slFt binI maxA maxK minA minK aeqK aeqS AV.cells spA slCells_sl fillA setAt bitsI nat_nn nat_nn1 AV.plain apart
set_option maxRecDepth 100000
set_option maxHeartbeats 4000000
theorem llook_fun (C:Cfg)(call:CallF)(hS:LSpanC call)(H:List AB)(n a b:Int):Does (ev C call H.length none af30.body { tm:=tmA af30.ntmps (zipI 0 [.int .i64 n,.int .i64 a,.int .i64 b] []),df:=[],hp:=H,tc:=[] })
  (Ends C H.length af30.res fun v _hp tc=>v=evE (Rd.lookE n a b)∧tc=[]):=by
 have hs:=fun H=>hS H a b
 clear hS
 unfold af30
 simp only[zipI]
 (repeat (first|(with_reducible apply ops_cons;(focus ((conv=>lhs;simp[*,Nat.testBit_eq_decide_div_mod_eq])<;>exact rfl));simp only[addFl])|((with_reducible first|apply does_seq|apply does_ops|apply does_draw|apply does_skip|apply does_block|apply does_ret|apply does_exit|apply ops_nil|(apply does_true;· simp[*,val_tmA_cons])|(apply does_false;· simp[*,val_tmA_cons]));try simp only[Then,Ops])|simp only[Nat.reduceEqDiff,reduceIte,OutB,Then]))
 exact ends_plain (v:=.agg [.int .i64 2,.int .i64 0,.int .i64 0,.int .i64 0,.int .i64 n,.int .i64 a,.int .i64 b]) (.inl rfl) rfl (by simp) (by simp only[resL,resOf,tmA_getD_cons];simp[*,pickC,resV]) ⟨rfl,by simp⟩
end Ro
end Ev
end Go.Proofs.Ytlcjlcllbgjplaa

/- The code of functions of the laws is that of the program. Printed by program. -/
namespace Go.Proofs.Ytlcjlcllbgjplaa
open Go Go.Proofs
namespace Ev
set_option maxRecDepth 1000000
theorem is8 : ∃ F, Try.prog.funcs[8]? = some F ∧ (F.name == "runtime.NumGoroutine")=false∧compFn Try.prog F=some af8.strip:=⟨_,Try.func8,by kernel_rfl,by kernel_rfl⟩
end Ev
end Go.Proofs.Ytlcjlcllbgjplaa

/- The functions that the law RoadBelow goes through itself. Printed by program. -/
namespace Go.Proofs.Ytlcjlcllbgjplaa
open Go Go.Proofs
namespace Ev
def treeRoadBelow:FT:=(.node 22 af22 (.node 12 af12 (.node 8 af8 .leaf .leaf) .leaf) (.node 30 af30 .leaf .leaf))
theorem treeRoadBelow_is : FT.All (fun k af => ∃ F, Try.prog.funcs[k]? = some F ∧ (F.name == "runtime.NumGoroutine")=false∧compFn Try.prog F=some af.strip) treeRoadBelow:=
 ⟨is22,⟨is12,⟨is8,trivial,trivial⟩,trivial⟩,⟨is30,trivial,trivial⟩⟩
end Ev
end Go.Proofs.Ytlcjlcllbgjplaa

/- The Go function RoadBelow returns true, for every argument, in every world in which it is called; nothing that was there is turned. No condition. -/
namespace Go.Proofs.Ytlcjlcllbgjplaa
open Go Go.Proofs Go.ChangeShapes Go.WideShapes Go.ChangeAt Go.RowKit
namespace Ev
namespace Ro
open K
theorem lawRoadBelow (W:World)(r:Rd.Road){v0:Value}(hv0:VR W (fun _=>False) nomu (.agg (roadCs r)) v0)(x1:Int)(b1:(Lit.int .u8 x1).wf=true){v1:Value}(hv1:VR W (fun _=>False) nomu (.int .u8 x1) v1):CallsIn Fence.wide 0 Try.prog 8 #[v0,v1] W fun e W'=>e=.returned (.bool true)∧Below W.heap.size W W':=by
 have hz:∀ {f:Nat} {af:AFunc},(cfgL treeRoadBelow).exth f=none→FT.find treeRoadBelow f=some af→Has (cfgL treeRoadBelow) f af:=fun h1 h2=>has_of rfl h1 h2 rfl
 have la:=fun n=>lapi (t:=treeRoadBelow) (hz rfl (by kernel_rfl)) n
 have k:Has (cfgL treeRoadBelow) 8 af8:=hz rfl (by kernel_rfl)
 obtain ⟨v,hp,tc,H',h1,h2,_⟩:=ret_call (C:=cfgL treeRoadBelow) (n:=4) (first:=[]) (captured:=[]) (args:=[.agg (roadCs r),.int .u8 x1]) (H:=[]) (Q:=fun v _ _=>v=.bool true) rfl k.ext k.exth k.fns k.whole (le' rfl) (lbelow_walk (cfgL treeRoadBelow) rfl _ (la 3) (fun H n a b=>bare_call2 rfl (hz rfl (by kernel_rfl)) (le' rfl) rfl (llook_fun (cfgL treeRoadBelow) _ (fun H a b=>bare_call2 rfl (hz rfl (by kernel_rfl)) (le' rfl) rfl (lspan_fun (cfgL treeRoadBelow) _ H a b)) H n a b)) r x1 (bounds_u8 b1) [])
 subst h2
 refine (told_bare (tblL treeRoadBelow_is) h1 trivial (globs_all _ _ _) (rargs:=#[v0,v1]) ⟨rfl,fun i y r hy hr=>?_⟩).mono ?_
 ·match i,hy,hr with
  |0,hy,hr=>cases hy;cases hr;exact hv0
  |1,hy,hr=>cases hy;cases hr;exact hv1
  |i+2,hy,hr=>simp at hy
 ·rintro e W' ⟨⟨w,rfl,hw⟩,bel⟩
  exact ⟨by rw[bool_of hw W],bel⟩
end Ro
end Ev
set_option maxRecDepth 100000 in
theorem roadBelow_lifted (os:Os)(started:os.Started)(H:Type)(enc:TypeId × Value→H):
  ReturnsInHanded {} Try.checked os 8 .any (Rows.roadBelowSpec.pre6 enc Try.prog Try.f8 Rows.roadBelowRow.domain false) (Rows.roadBelowSpec.post enc Try.prog Try.f8 false true false false):=by
 refine returnsInHanded_of_change (C:=Try.checked) own_godebug started (by kernel_rfl) Try.func8
  (ChangeSpec.witness6 (enc:=enc) (C:=Try.checked) false ⟨#[],#[noRoad,.int .u8 0],[]⟩ 8 (by kernel_rfl) (by kernel_rfl) (by kernel_rfl) (by kernel_rfl)) ?_
 intro W base args ds gs before hval0 hW hcnd _
 have hval:∀ (j:Nat) t v,Try.f8.params[j]?=some t→args[j]?=some v→Value.okWide Try.prog W .any base t v:=hval0
 have hW':=hW
 obtain ⟨p,q,hA0,hV,rfl,hfz,hnd⟩:=hW
 have hA:DataW.TrodAll enc Try.prog W 0 (fun _=>true) true Try.f8.params.toList args.toList ds p:=hA0
 rw[Try.params8] at hA hval
 obtain ⟨v0,vs0,d0,ds0,p0,q0,hargs0,rfl,rfl,h0,hA1⟩:=trodAll_cons hA
 obtain ⟨v1,vs1,d1,ds1,p1,q1,rfl,rfl,rfl,h1,hA2⟩:=trodAll_cons hA1
 obtain ⟨rfl,rfl,rfl⟩:=trodAll_nil hA2
 obtain rfl:args=#[v0,v1]:=Array.ext' hargs0
 obtain ⟨rfl,rfl,rfl⟩:=trodVars_none hV
 clear hA0 hval0
 obtain ⟨r,hx0⟩:=open_road (hval 0 25 v0 rfl rfl) h0
 obtain ⟨x1,rfl,rfl,rfl,wf1⟩:=open_int Try.underlying5 (hval 1 5 v1 rfl rfl) h1
 simp only[List.append_nil] at hW'
 have hlt:∀ x∈(p0++([]++[])),x.block<W.heap.size:=fun x hx=>by simpa using hW'.lt x (by simpa using hx)
 refine (callsIn_wide.1 (Ev.Ro.lawRoadBelow W r hx0 x1 wf1 .int)).mono fun e W' ⟨he,bel⟩=>?_
 subst he
 refine ⟨_,rfl,_,_,_,[],(p0++([]++[])),[],by simpa using hW',?_,?_,?_,bel.frame _,fun h=>by cases h⟩
 ·exact trodAll_mk1 (shut_bool Try.underlying4 true)
 ·exact trodAll_cons_mk (Below.trod laidOut' (by kernel_rfl) (of_decide_eq_true (by kernel_rfl)) h0 bel (fun x hx=>hlt x (by simp[hx]))) (trodAll_cons_mk (shut_int Try.underlying5 wf1) (trodAll_mk0))
 ·exact rfl
theorem roadBelow_holds:Rows.RoadBelowSaid:=
 OpenClaim.holds_of_wide 8 Try.f8 rfl rfl rfl rfl rfl rfl rfl ⟨rfl,rfl,rfl,rfl,rfl⟩ rfl rfl rfl rfl rfl (by kernel_rfl) Try.func8 (by kernel_rfl)
  (of_decide_eq_true (by kernel_rfl)) (by unfold Func.isWrapper;first|(rw[if_pos (by decide +kernel)];kernel_rfl)|(rw[if_neg (by decide +kernel)];exact ⟨rfl,rfl⟩))
  (fun os started H enc _=>roadBelow_lifted os started H enc)
#print axioms roadBelow_holds
end Go.Proofs.Ytlcjlcllbgjplaa
