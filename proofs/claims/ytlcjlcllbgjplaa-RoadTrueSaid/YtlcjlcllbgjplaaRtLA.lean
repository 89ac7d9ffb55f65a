/- RoadTrue, gone through: its end. -/
import Derived.Test.YtlcjlcllbgjplaaRtEA
import Derived.Test.YtlcjlcllbgjplaaRtPF
/- The code of functions of the laws, for the evaluator. Printed by program. -/
namespace Go.Proofs.Ytlcjlcllbgjplaa
open Go
namespace Ev
end Ev
end Go.Proofs.Ytlcjlcllbgjplaa

/- The code of functions of the laws, for the evaluator. Printed by program. -/
namespace Go.Proofs.Ytlcjlcllbgjplaa
open Go
namespace Ev
end Ev
end Go.Proofs.Ytlcjlcllbgjplaa

/- RoadRest, gone through. -/
namespace Go.Proofs.Ytlcjlcllbgjplaa
open Go
namespace Ev
namespace Ro
open K
set_option maxRecDepth 100000
set_option maxHeartbeats 4000000
theorem zvb {r:Rd.Road}(hf:Rd.Fine r)(hcan:Rd.canR r (Rd.everyR r)=true)(o:Option Nat):findRV r true o=.tup [.int .i64 ((o.getD 0:Nat):Int),.int .i64 (if o.isSome then 0 else 4)]:=by
 have he:Rd.errR r true=0:=by
  unfold Rd.errR
  rw[(Rd.valid_iff r).2 hf,hcan];rfl
 unfold findRV
 rw[he];rfl
theorem num_ok {r:Rd.Road}(hf:Rd.Fine r)(hcan:Rd.canR r (Rd.everyR r)=true)(n:Int):numRV r true n=.tup [.int .i64 n,.int .i64 0]:=by
 have he:Rd.errR r true=0:=by
  unfold Rd.errR
  rw[(Rd.valid_iff r).2 hf,hcan];rfl
 unfold numRV
 rw[he];rfl
end Ro
end Ev
end Go.Proofs.Ytlcjlcllbgjplaa

/- Chapter 05: what a road bears: plain. -/
namespace Go.Proofs.Ytlcjlcllbgjplaa
open Go
namespace Rd
open Clm (Sp Hull spanL mem_span setOf)
theorem zwo {r:Road}(hc:canR r (everyR r)=true){load:Int}(h:sureR r 0 load=true):mayR r load=true:=by
 obtain ⟨ls,hl⟩:=(zms r).1 hc
 rw[zgd] at h
 rw[zuc]
 refine ⟨ls,hl,fun i hi=>?_⟩
 obtain ⟨p,h',ht⟩:=hl.2 i hi
 exact ⟨p,h',ht,h ls hl i hi p h' ht⟩
theorem zrj {r:Road}(hc:canR r (everyR r)=true)(load:Int):bearsR r load=0↔mayR r load=false:=by
 unfold bearsR
 cases h1:sureR r 0 load with
 |true=>simp[zwo hc h1]
 |false=>
  cases h2:mayR r load with
  |true=>simp
  |false=>simp
theorem ztv {r:Road}{m:Nat}(h:mostR r=some m):m≤60∧sureR r 0 m=true∧∀ j:Nat,m<j→j≤60→sureR r 0 j=false:=by
 unfold mostR at h
 obtain ⟨h1,i,h2,h3,h4⟩:=List.find?_eq_some_iff_getElem.1 h
 simp only[List.getElem_map,List.getElem_range] at h3
 simp only[List.length_map,List.length_range] at h2
 subst h3
 refine ⟨by omega,h1,fun j hj h60=>?_⟩
 have:=h4 (60 - j) (by omega)
 simp only[List.getElem_map,List.getElem_range] at this
 rw[show 60 - (60 - j)=j by omega] at this
 simpa using this
theorem ztw {r:Road}(h:mostR r=none):∀ j:Nat,j≤60→sureR r 0 j=false:=by
 unfold mostR at h
 rw[List.find?_eq_none] at h
 intro j hj
 have:=h j (List.mem_map.2 ⟨60 - j,List.mem_range.2 (by omega),by omega⟩)
 simpa using this
end Rd
end Go.Proofs.Ytlcjlcllbgjplaa

/- The code of functions of the laws, for the evaluator. Printed by program. -/
namespace Go.Proofs.Ytlcjlcllbgjplaa
open Go
namespace Ev
end Ev
end Go.Proofs.Ytlcjlcllbgjplaa

/- RoadBears, gone through. -/
namespace Go.Proofs.Ytlcjlcllbgjplaa
open Go
namespace Ev
namespace Ro
open K
set_option maxRecDepth 100000
set_option maxHeartbeats 4000000
def LSpanC (call:CallF):Prop:=∀ (H:List AB) (a b:Int),call (.fn (.func 12) [] []) [.int .i64 a,.int .i64 b] H=some (.ret (.agg [.int .i64 a,.int .i64 b]),H,[])
theorem zyh {call:CallF}(hA:LApi call){H:List AB}{v:AV}{r:Rd.Road}(hr:roadOf H v=some r)(hf:Rd.Fine r)(hcan:Rd.canR r (Rd.everyR r)=true):call (.fn (.func 26) [] []) [v] H=some (.ret (.tup [.int .i64 (Rd.surelyR r:Int),.int .i64 (Rd.perhapsR r:Int),.int .i64 0]),H,[]):=by
 rw[hA.below hr]
 have he:Rd.errR r true=0:=by
  unfold Rd.errR
  rw[(Rd.valid_iff r).2 hf,hcan];rfl
 unfold belowRV
 rw[he];rfl
end Ro
end Ev
end Go.Proofs.Ytlcjlcllbgjplaa

/- Chapter 05: both ends of what is returned: plain. -/
namespace Go.Proofs.Ytlcjlcllbgjplaa
open Go
namespace Rd
open Clm (Sp Hull spanL mem_span setOf)
variable {r:Road}
theorem sunk_le {p:Tr}(h1:1≤p.stiff){load:Int}(h0:0≤load):sunk p load≤load:=by
 unfold sunk
 have h2:load+p.stiff - 1<(load+1) * p.stiff:=by
  rw[Int.add_mul,Int.one_mul]
  have:=Int.mul_le_mul_of_nonneg_left h1 h0
  omega
 have:=Int.ediv_lt_of_lt_mul (by omega) h2
 omega
theorem zlk {p:Tr}(hs:1≤p.stiff)(hri:0≤p.rise):∀ (es:List Evt) (ls:List Int) (h:Int),h≤p.full→(∀ v∈es,v.kind=1→0≤v.days)→(∀ x∈ls,0≤x∧x≤60)→h - 60 * es.length≤after p es ls h∧after p es ls h≤p.full
 |[],ls,h,hf,_,_=>by simp only[after,List.length_nil];omega
 |v::l,ls,h,hf,hd,hl=>by
  have h0:0≤ls.headD 0∧ls.headD 0≤60:=by
   cases ls with
   |nil=>simp
   |cons a t=>exact hl a (by simp)
  have h1:h - 60≤stepE v p h (ls.headD 0)∧stepE v p h (ls.headD 0)≤p.full:=by
   unfold stepE
   split
   ·have:=sunk_le hs h0.1
    have:=sunk_nn hs h0.1
    omega
   ·split
    ·rename_i hk
     have:=Int.mul_nonneg (hd v (by simp) hk) hri
     unfold rested
     omega
    ·omega
  obtain ⟨h2,h3⟩:=zlk hs hri l ls.tail _ h1.2 (fun u hu=>hd u (by simp[hu])) fun x hx=>hl x (List.mem_of_mem_tail hx)
  rw[after]
  simp only[List.length_cons]
  omega
end Rd
end Go.Proofs.Ytlcjlcllbgjplaa

/- The code of functions of the laws, for the evaluator. Printed by program. -/
namespace Go.Proofs.Ytlcjlcllbgjplaa
open Go
namespace Ev
end Ev
end Go.Proofs.Ytlcjlcllbgjplaa

/- The code of functions of the laws, for the evaluator. Printed by program. -/
namespace Go.Proofs.Ytlcjlcllbgjplaa
open Go
namespace Ev
def af27:AFunc:=⟨15,[.tmp 4],Zq [Zo 0 3 (.box (Zt 1)),Zo 1 4 (.mov (.val (.bool false)))] (Zq [Zo 0 5 (.fieldA 0 (Zt 3)),Zl 1 6 5,Zm 2 7 0,Zo 3 8 (.bin .leq (Zt 6) (Zt 7)),Zm 4 9 8,⟨5,some 10,.mov (Zt 0),some (9,true),0⟩,⟨6,some 11,.fieldA 1 (Zt 3),some (9,true),0⟩,⟨7,some 12,.load none (Zt 11),some (9,true),0⟩,⟨8,some 13,.bin .leq (Zt 10) (Zt 12),some (9,true),0⟩,Zo 9 14 (.pick (Zt 9) (Zt 13) (.val (.bool false))),Zm 10 4 14] .ret)⟩
end Ev
end Go.Proofs.Ytlcjlcllbgjplaa

/- RoadEnds, gone through: looks, and a pass. -/
namespace Go.Proofs.Ytlcjlcllbgjplaa
open Go
namespace Ev
namespace Ro
open K
attribute [local simp] ev1 wantG spineK spine float xnew xval xeff zaa zas zbc zaw zav addFl cellsOf pickC alive slLen slFt binI maxA maxK minA minK aeqK aeqS AV.cells spA zat fillA setAt bitsI nat_nn zbd AV.plain apart
set_option maxRecDepth 100000
set_option maxHeartbeats 4000000
def InsideC (call:CallF):Prop:=∀ (H:List AB) (n a b:Int),call (.fn (.func 27) [] []) [.int .i64 n,.agg [.int .i64 a,.int .i64 b]] H=some (.ret (.bool (decide (a≤n∧n≤b))),H,[])
theorem zqi (C:Cfg)(call:CallF)(H:List AB)(n a b:Int):Does (ev C call H.length none af27.body { tm:=tmA af27.ntmps (zipI 0 [.int .i64 n,.agg [.int .i64 a,.int .i64 b]] []),df:=[],hp:=H,tc:=[] })
  (Ends C H.length af27.res fun v _hp tc=>v=.bool (decide (a≤n∧n≤b))∧tc=[]):=by
 unfold af27 Zq Zm Zl Zo Zt
 simp only[zipI]
 by_cases h:a≤n
 ·(repeat (first|(with_reducible apply zad;(focus ((conv=>lhs;simp[*,Nat.testBit_eq_decide_div_mod_eq])<;>exact rfl));simp only[addFl])|((with_reducible first|apply zai|apply zak|apply zah|apply zaf|apply zac|apply zaj|apply zag|apply zam|(apply zae;· simp[*,zaa])|(apply zab;· simp[*,zaa]));try simp only[Then,Ops])|simp only[Nat.reduceEqDiff,reduceIte,OutB,Then]))
  exact zao (v:=.bool (decide (n≤b))) (.inl rfl) rfl (by simp) (by simp only[resL,resOf,zal];simp[*,resV]) ⟨by simp[h],rfl⟩
 ·(repeat (first|(with_reducible apply zad;(focus ((conv=>lhs;simp[*,Nat.testBit_eq_decide_div_mod_eq])<;>exact rfl));simp only[addFl])|((with_reducible first|apply zai|apply zak|apply zah|apply zaf|apply zac|apply zaj|apply zag|apply zam|(apply zae;· simp[*,zaa])|(apply zab;· simp[*,zaa]));try simp only[Then,Ops])|simp only[Nat.reduceEqDiff,reduceIte,OutB,Then]))
  exact zao (v:=.bool false) (.inl rfl) rfl (by simp) (by simp only[resL,resOf,zal];simp[*,resV]) ⟨by simp[h],rfl⟩
theorem zwv {call:CallF}(hA:LApi call){H:List AB}{v:AV}{r:Rd.Road}(hr:roadOf H v=some r)(hf:Rd.Fine r){p m:Nat}(hp:p<r.parts.length)(hm:m<r.events.length):call (.fn (.func 14) [] []) [v,.int .i64 p,.int .i64 m] H=some (.ret (if Rd.canR r (Rd.everyR r)=true then .tup [.agg [.int .i64 (Rd.heightsR r p (m+1)).lo,.int .i64 (Rd.heightsR r p (m+1)).hi],.int .i64 0] else .tup [.agg [.int .i64 0,.int .i64 0],.int .i64 10]),H,[]):=by
 have h1:=hf.parts
 have h2:=hf.events
 rw[hA.height hr p m (by unfold i64n;omega) (by unfold i64n;omega)]
 have he:Rd.errR r (Rd.isPart r p&&Rd.isEvent r m)=if Rd.canR r (Rd.everyR r)=true then 0 else 10:=by
  unfold Rd.errR
  rw[(Rd.valid_iff r).2 hf,show Rd.isPart r p=true from decide_eq_true (by omega),show Rd.isEvent r m=true from decide_eq_true (by omega)]
  cases Rd.canR r (Rd.everyR r)<;>rfl
 unfold spanRV
 rw[he]
 cases Rd.canR r (Rd.everyR r)<;>simp[spA]
end Ro
end Ev
end Go.Proofs.Ytlcjlcllbgjplaa

/- How a road truly is, and looks that are right: plain. -/
namespace Go.Proofs.Ytlcjlcllbgjplaa
open Go
namespace Rd
open Clm (Sp Hull spanL mem_span setOf)
def nowR (r:Road)(ps:List (Tr × Int))(ls:List Int)(m:Nat):List Int:=ps.map fun q=>heightR r q.1 q.2 ls m
def seenE (v:Evt)(n:Int):Evt:=⟨v.kind,v.load,v.days,v.part,⟨n - min 2 (v.shows.hi - v.shows.lo),n⟩⟩
theorem zgx (r:Road)(p:Tr)(h:Int)(ls m:List Int){j:Nat}(hj:j≤ls.length):heightR r p h (ls++m) j=heightR r p h ls j:=zon p _ _ _ _ (by rw[List.length_take];omega)
theorem zgw {r:Road}{i:Nat}{v:Evt}(hv:r.events[i]?=some v)(p:Tr)(h:Int){ls:List Int}(hl:ls.length=i)(k:Int):heightR r p h (ls++[k]) (i+1)=stepE v p (heightR r p h ls i) k:=by
 obtain ⟨hi,rfl⟩:=List.getElem?_eq_some_iff.1 hv
 unfold heightR
 rw[← List.take_concat_get hi]
 simp only[List.concat_eq_append]
 exact zhq p _ k _ _ _ (by rw[List.length_take];omega)
def Parts (r:Road)(ps:List (Tr × Int)):Prop:=ps.length=r.parts.length∧∀ (i:Nat) (q:Tr × Int),ps[i]?=some q→q.1∈partsR (r.parts.getD i default)∧(r.parts.getD i default).height.has q.2
structure Truth (r:Road) (ps:List (Tr × Int)) (i:Nat) (ls:List Int) (xs:List Evt):Prop where
 ll:ls.length=i
 lds:∀ (j:Nat) (v:Evt),j<i→r.events[j]?=some v→(v.kind=0→v.load.has (ls.getD j 0))∧(v.kind≠0→ls.getD j 0=0)
 xl:xs.length=r.events.length
 rest:∀ j,i≤j→xs[j]?=r.events[j]?
 done:∀ (j:Nat) (v:Evt),j<i→r.events[j]?=some v→xs[j]?=some (if v.kind=2 then seenE v ((nowR r ps ls (j+1)).getD v.part.toNat 0) else v)
theorem truth_zero (r:Road)(ps:List (Tr × Int)):Truth r ps 0 [] r.events:=⟨rfl,fun j _ h=>absurd h (by omega),rfl,fun _ _=>rfl,fun j _ h=>absurd h (by omega)⟩
theorem now_ls (r:Road)(ps:List (Tr × Int))(ls m:List Int){j:Nat}(hj:j≤ls.length):nowR r ps (ls++m) j=nowR r ps ls j:=by
 unfold nowR
 simp only[zgx r _ _ ls m hj]
theorem truth_step {r:Road}{ps:List (Tr × Int)}{i:Nat}{ls:List Int}{xs:List Evt}(h:Truth r ps i ls xs){v:Evt}(hv:r.events[i]?=some v)(k:Int)(h0:v.kind=0→v.load.has k)(h1:v.kind≠0→k=0):Truth r ps (i+1) (ls++[k]) (if v.kind=2 then xs.set i (seenE v ((nowR r ps (ls++[k]) (i+1)).getD v.part.toNat 0)) else xs):=by
 have hi:=(List.getElem?_eq_some_iff.1 hv).1
 have hxl:=h.xl
 refine ⟨by simp[h.ll],fun j w hj hw=>?_,?_,fun j hj=>?_,fun j w hj hw=>?_⟩
 ·by_cases hji:j<i
  ·rw[getD_l (by rw[h.ll];exact hji)]
   exact h.lds j w hji hw
  ·have:j=i:=by omega
   subst this
   have e:w=v:=by rw[hv] at hw;exact (Option.some.inj hw).symm
   subst e
   have:=getD_r ls k
   rw[h.ll] at this
   rw[this]
   exact ⟨h0,h1⟩
 ·split<;>simp[h.xl]
 ·split
  ·rw[List.getElem?_set_ne (by omega)];exact h.rest j (by omega)
  ·exact h.rest j (by omega)
 ·by_cases hji:j<i
  ·have:=h.done j w hji hw
   rw[now_ls r ps ls [k] (j:=j+1) (by rw[h.ll];omega),← this]
   split
   ·rw[List.getElem?_set_ne (by omega)]
   ·rfl
  ·have:j=i:=by omega
   subst this
   have e:w=v:=by rw[hv] at hw;exact (Option.some.inj hw).symm
   subst e
   split
   ·rename_i hk
    rw[List.getElem?_set_self (by omega)]
   ·rename_i hk
    rw[h.rest j (Nat.le_refl _),hv]
theorem zio (p:Tr):∀ (a b:List Evt),a.length=b.length→(∀ (j:Nat) (v w:Evt),a[j]?=some v→b[j]?=some w→v.kind=w.kind∧v.days=w.days)→∀ (ls:List Int) (h:Int),after p a ls h=after p b ls h
 |[],[],_,_,_,_=>rfl
 |[],_::_,h,_,_,_=>by simp at h
 |_::_,[],h,_,_,_=>by simp at h
 |v::a,w::b,hl,hs,ls,h=>by
  obtain ⟨e1,e2⟩:=hs 0 v w rfl rfl
  have:stepE v p h (ls.headD 0)=stepE w p h (ls.headD 0):=by unfold stepE;rw[e1,e2]
  rw[after,after,this]
  exact zio p a b (by simpa using hl) (fun j v w h1 h2=>hs (j+1) v w h1 h2) _ _
def trueX (r:Road)(xs:List Evt):Road:=⟨r.parts,xs⟩
theorem zew {r:Road}{ps:List (Tr × Int)}{ls:List Int}{xs:List Evt}(h:Truth r ps r.events.length ls xs){j:Nat}{w:Evt}(hw:xs[j]?=some w):∃ v,r.events[j]?=some v∧w=if v.kind=2 then seenE v ((nowR r ps ls (j+1)).getD v.part.toNat 0) else v:=by
 have hj:=(List.getElem?_eq_some_iff.1 hw).1
 rw[h.xl] at hj
 have hv:r.events[j]?=some r.events[j]:=List.getElem?_eq_getElem hj
 refine ⟨_,hv,?_⟩
 have:=h.done j _ hj hv
 rw[hw] at this
 exact Option.some.inj this
theorem zdp (v:Evt)(n:Int):(if v.kind=2 then seenE v n else v).kind=v.kind∧(if v.kind=2 then seenE v n else v).days=v.days∧(if v.kind=2 then seenE v n else v).load=v.load∧(if v.kind=2 then seenE v n else v).part=v.part:=by
 split<;>exact ⟨rfl,rfl,rfl,rfl⟩
theorem zcp {r:Road}{ps:List (Tr × Int)}{ls:List Int}{xs:List Evt}(h:Truth r ps r.events.length ls xs)(p:Tr)(f:Int)(m:List Int)(j:Nat):heightR (trueX r xs) p f m j=heightR r p f m j:=by
 refine zio p _ _ (by simp[trueX,h.xl]) (fun j v w h1 h2=>?_) m f
 simp only[trueX,List.getElem?_take] at h1 h2
 split at h1
 ·rename_i hj
  rw[if_pos hj] at h2
  obtain ⟨u,hu,rfl⟩:=zew h h1
  rw[h2] at hu
  obtain rfl:=Option.some.inj hu
  exact ⟨(zdp _ _).1,(zdp _ _).2.1⟩
 ·cases h1
theorem zrx {r:Road}{ps:List (Tr × Int)}{ls:List Int}{xs:List Evt}(h:Truth r ps r.events.length ls xs):Lds r.events ls:=⟨h.ll,fun j v hv=>h.lds j v (List.getElem?_eq_some_iff.1 hv).1 hv⟩
theorem parts_bound {r:Road}(hr:Fine r){ps:List (Tr × Int)}(hp:Parts r ps){i:Nat}{q:Tr × Int}(hq:ps[i]?=some q):1≤q.1.stiff∧q.1.stiff≤10∧0≤q.1.rise∧q.1.rise≤5∧0≤q.2∧q.2≤q.1.full∧q.1.full≤60∧q.1.full=(r.parts.getD i default).full:=by
 have hi:i<r.parts.length:=by rw[← hp.1];exact (List.getElem?_eq_some_iff.1 hq).1
 obtain ⟨a,b,c,d,e,f⟩:=tr_fine hr hi (hp.2 i q hq).1
 have hpp:=hr.part _ (part_mem hi)
 have hh:=(hp.2 i q hq).2
 simp only[Sp.has] at hh
 omega
theorem now_bound {r:Road}(hr:Fine r){ps:List (Tr × Int)}(hp:Parts r ps){i:Nat}{ls:List Int}{xs:List Evt}(h:Truth r ps i ls xs)(hie:i≤r.events.length)(m:Nat){j:Nat}{n:Int}(hn:(nowR r ps ls m)[j]?=some n):-600≤n∧n≤60:=by
 unfold nowR at hn
 rw[List.getElem?_map] at hn
 cases hq:ps[j]? with
 |none=>rw[hq] at hn;cases hn
 |some q=>
  rw[hq] at hn
  obtain rfl:=Option.some.inj hn
  obtain ⟨q1,q2,q3,q4,q5,q6,q7,_⟩:=parts_bound hr hp hq
  have hls:∀ x∈ls,0≤x∧x≤60:=by
   intro x hx
   obtain ⟨k,hk,rfl⟩:=List.getElem_of_mem hx
   rw[h.ll] at hk
   have hg:ls.getD k 0=ls[k]:=by rw[List.getD_eq_getElem?_getD,List.getElem?_eq_getElem];rfl
   rw[← hg]
   have hv:r.events[k]?=some r.events[k]:=List.getElem?_eq_getElem (by omega)
   obtain ⟨l1,l2⟩:=h.lds k _ hk hv
   have hev:=hr.event _ (List.getElem_mem (show k<r.events.length by omega))
   by_cases h0:r.events[k].kind=0
   ·have:=l1 h0
    simp only[Sp.has] at this
    omega
   ·rw[l2 h0];omega
  have h1:=zlk q1 q3 (r.events.take m) ls q.2 q6 (zvr hr m) hls
  have h2:=hr.events
  have h3:(r.events.take m).length≤10:=by rw[List.length_take];omega
  show -600≤heightR r q.1 q.2 ls m∧heightR r q.1 q.2 ls m≤60
  unfold heightR
  omega
theorem now_get {r:Road}{ps:List (Tr × Int)}{ls:List Int}{m i:Nat}{q:Tr × Int}(hq:ps[i]?=some q):(nowR r ps ls m)[i]?=some (heightR r q.1 q.2 ls m):=by
 unfold nowR;rw[List.getElem?_map,hq];rfl
theorem zry {r:Road}(hr:Fine r){ps:List (Tr × Int)}(hp:Parts r ps){ls:List Int}{xs:List Evt}(h:Truth r ps r.events.length ls xs):Fine (trueX r xs):=by
 refine ⟨hr.parts,by show xs.length≤10;rw[h.xl];exact hr.events,hr.part,fun w hw=>?_,?_⟩
 ·obtain ⟨j,hj,rfl⟩:=List.getElem_of_mem (show w∈xs from hw)
  obtain ⟨v,hv,e⟩:=zew h (List.getElem?_eq_getElem hj)
  have hev:=hr.event v (List.mem_of_getElem? hv)
  show _∨_∨(_∧(_∧_<(r.parts.length:Int))∧_)
  rw[e]
  by_cases hk:v.kind=2
  ·rw[if_pos hk]
   have hpt:0≤v.part∧v.part<r.parts.length∧v.shows.lo≤v.shows.hi:=by omega
   have hlt:v.part.toNat<ps.length:=by rw[hp.1];omega
   have hg:=now_get (r:=r) (ls:=ls) (m:=j+1) (List.getElem?_eq_getElem hlt)
   have hb:=now_bound hr hp h (Nat.le_refl _) (j+1) hg
   rw[List.getD_eq_getElem?_getD,hg]
   simp only[Option.getD_some,seenE]
   omega
  ·rw[if_neg hk]
   omega
 ·have hd:(xs.map fun v=>decide (v.kind=0∧v.load.lo<v.load.hi))=r.events.map fun v=>decide (v.kind=0∧v.load.lo<v.load.hi):=by
   apply List.ext_getElem? 
   intro j
   rw[List.getElem?_map,List.getElem?_map]
   cases hx:xs[j]? with
   |none=>
    have:r.events.length≤j:=by rw[← h.xl];exact List.getElem?_eq_none_iff.1 hx
    rw[List.getElem?_eq_none_iff.2 this]
   |some w=>
    obtain ⟨v,hv,rfl⟩:=zew h hx
    rw[hv]
    obtain ⟨s1,_,s2,_⟩:=zdp v ((nowR r ps ls (j+1)).getD v.part.toNat 0)
    simp only[Option.map_some,s1,s2]
  have hc:∀ l:List Evt,(l.filter fun v=>decide (v.kind=0∧v.load.lo<v.load.hi)).length=((l.map fun v=>decide (v.kind=0∧v.load.lo<v.load.hi)).filter id).length:=by
   intro l
   rw[List.filter_map,List.length_map]
   rfl
  show (xs.filter _).length≤4
  rw[hc,hd,← hc]
  exact hr.doubts
theorem znc {r:Road}(hr:Fine r){ps:List (Tr × Int)}(hp:Parts r ps){ls:List Int}{xs:List Evt}(h:Truth r ps r.events.length ls xs){i:Nat}{q:Tr × Int}(hq:ps[i]?=some q):Tru (trueX r xs) ls i q.1 q.2:=by
 obtain ⟨h1,h2⟩:=hp.2 i q hq
 refine ⟨h1,h2,fun j w hw hk hpt=>?_⟩
 obtain ⟨v,hv,rfl⟩:=zew h (show xs[j]?=some w from hw)
 have hk2:v.kind=2:=by rw[← (zdp v ((nowR r ps ls (j+1)).getD v.part.toNat 0)).1];exact hk
 have hev:=hr.event v (List.mem_of_getElem? hv)
 rw[if_pos hk2] at hpt ⊢
 simp only[seenE] at hpt ⊢
 have e1:v.part.toNat=i:=by omega
 have e2:=now_get (r:=r) (ls:=ls) (m:=j+1) hq
 have e3:heightR r q.1 q.2 ls (j+1)=heightR r q.1 q.2 ls j:=by
  have hj:j<ls.length:=by rw[h.ll];exact (List.getElem?_eq_some_iff.1 hv).1
  have hst:=zgw hv q.1 q.2 (ls:=ls.take j) (by rw[List.length_take];omega) ls[j]
  have ha:heightR r q.1 q.2 (ls.take j++[ls[j]]++ls.drop (j+1)) (j+1)=heightR r q.1 q.2 (ls.take j++[ls[j]]) (j+1):=zgx r _ _ _ _ (by simp;omega)
  have hb:heightR r q.1 q.2 (ls.take j++ls.drop j) j=heightR r q.1 q.2 (ls.take j) j:=zgx r _ _ _ _ (by simp;omega)
  have hc:ls.take j++[ls[j]]++ls.drop (j+1)=ls:=by
   rw[List.append_assoc,List.singleton_append,List.getElem_cons_drop,List.take_append_drop]
  rw[hc] at ha
  rw[List.take_append_drop] at hb
  rw[ha,hst,hb]
  unfold stepE
  rw[if_neg (by omega),if_neg (by omega)]
 rw[zcp h,List.getD_eq_getElem?_getD,e1,e2,Option.getD_some,e3]
 have:v.shows.lo≤v.shows.hi:=by omega
 omega
theorem zwm {r:Road}(hr:Fine r){ps:List (Tr × Int)}(hp:Parts r ps){ls:List Int}{xs:List Evt}(h:Truth r ps r.events.length ls xs):All (trueX r xs) ls:=by
 refine ⟨⟨h.ll.trans h.xl.symm,fun j w hw=>?_⟩,fun i hi=>?_⟩
 ·obtain ⟨v,hv,rfl⟩:=zew h (show xs[j]?=some w from hw)
  obtain ⟨s1,_,s2,_⟩:=zdp v ((nowR r ps ls (j+1)).getD v.part.toNat 0)
  rw[s1,s2]
  exact (zrx h).2 j v hv
 ·have hlt:i<ps.length:=by rw[hp.1];exact hi
  exact ⟨_,_,znc hr hp h (List.getElem?_eq_getElem hlt)⟩
theorem ziu {r:Road}{ps:List (Tr × Int)}{ls:List Int}{xs:List Evt}(h:Truth r ps r.events.length ls xs)(p:Tr)(f:Int):endR (trueX r xs) p f ls=heightR r p f ls r.events.length:=by
 unfold endR
 rw[zcp h]
 show heightR r p f ls xs.length=_
 rw[h.xl]
structure TrueLaw (r:Road) (ps:List (Tr × Int)) (ls:List Int) (x:Road) (load:Int):Prop where
 fine:Fine x
 can:canR x (everyR x)=true
 parts:x.parts=r.parts
 len:x.events.length=r.events.length
 height:∀ (i:Nat) (q:Tr × Int),ps[i]?=some q→∀ m,(heightsR x i m).lo≤heightR r q.1 q.2 ls m∧heightR r q.1 q.2 ls m≤(heightsR x i m).hi
 sink:∀ (i:Nat) (q:Tr × Int),ps[i]?=some q→(sinksR x i load).lo≤sunk q.1 load∧sunk q.1 load≤(sinksR x i load).hi
 low:∀ v,v<r.events.length→(∃ n∈nowR r ps ls (v+1),n<0)→(perhapsR x).testBit v=true
 high:∀ v,v<r.events.length→(∀ n∈nowR r ps ls (v+1),0≤n)→(surelyR x).testBit v=false
 bears:bearsR x load=2→∀ (i:Nat) (q:Tr × Int),ps[i]?=some q→sunk q.1 load≤heightR r q.1 q.2 ls r.events.length
 never:bearsR x load=0→¬ ∀ (i:Nat) (q:Tr × Int),ps[i]?=some q→sunk q.1 load≤heightR r q.1 q.2 ls r.events.length
 rest:∀ d,restR x load=some d→∀ (i:Nat) (q:Tr × Int),ps[i]?=some q→sunk q.1 load≤min q.1.full (heightR r q.1 q.2 ls r.events.length+d * q.1.rise)
 most:∀ m,mostR x=some m→∀ n:Nat,n≤60→(load=n)→(bearsR x load=2↔n≤m)
 none:mostR x=none→∀ n:Nat,n≤60→load=n→bearsR x load≠2
theorem true_law {r:Road}(hr:Fine r){ps:List (Tr × Int)}(hp:Parts r ps){ls:List Int}{xs:List Evt}(h:Truth r ps r.events.length ls xs)(load:Int):TrueLaw r ps ls (trueX r xs) load:=by
 have hF:=zry hr hp h
 have hA:=zwm hr hp h
 have hC:canR (trueX r xs) (everyR (trueX r xs))=true:=(zms _).2 ⟨ls,hA⟩
 have hT:∀ (i:Nat) (q:Tr × Int),ps[i]?=some q→i<(trueX r xs).parts.length∧Tru (trueX r xs) ls i q.1 q.2:=fun i q hq=>⟨by show i<r.parts.length;rw[← hp.1];exact (List.getElem?_eq_some_iff.1 hq).1,znc hr hp h hq⟩
 have hG:∀ i,i<(trueX r xs).parts.length→∃ q,ps[i]?=some q:=fun i hi=>⟨_,List.getElem?_eq_getElem (show i<ps.length by rw[hp.1];exact hi)⟩
 refine ⟨hF,hC,rfl,h.xl,fun i q hq m=>?_,fun i q hq=>?_,fun v hv hn=>?_,fun v hv hn=>?_,fun hb i q hq=>?_,fun hb H=>?_,fun d hd i q hq=>?_,fun m hm n hn hl=>?_,fun hm n hn hl hb=>?_⟩
 ·obtain ⟨hi,ht⟩:=hT i q hq
  have:=(zql hC hi m).all (heightR (trueX r xs) q.1 q.2 ls m) ⟨ls,q.1,q.2,hA,ht,rfl⟩
  rwa [zcp h] at this
 ·obtain ⟨hi,ht⟩:=hT i q hq
  exact (zwz hC hi load).all _ ⟨ls,q.1,q.2,hA,ht,rfl⟩
 ·obtain ⟨n,hm,h0⟩:=hn
  unfold nowR at hm
  obtain ⟨q,hq,rfl⟩:=List.mem_map.1 hm
  obtain ⟨i,hi,rfl⟩:=List.getElem_of_mem hq
  obtain ⟨hi',ht⟩:=hT i _ (List.getElem?_eq_getElem hi)
  exact (zgr _ v).2 ⟨by show v<xs.length;rw[h.xl];exact hv,ls,hA,i,hi',_,_,ht,by rw[zcp h];exact h0⟩
 ·cases hs:(surelyR (trueX r xs)).testBit v with
  |false=>rfl
  |true=>
   obtain ⟨_,hs⟩:=(zhr _ v).1 hs
   obtain ⟨i,hi,hs⟩:=hs ls hA
   obtain ⟨q,hq⟩:=hG i hi
   have h1:=hs _ _ (hT i q hq).2
   rw[zcp h] at h1
   have h2:=hn _ (List.mem_of_getElem? (now_get (r:=r) (ls:=ls) (m:=v+1) hq))
   omega
 ·obtain ⟨hi,ht⟩:=hT i q hq
  have h1:=(zgd _ _ _).1 ((zhp _ _).1 hb) ls hA i hi q.1 q.2 ht
  rw[zgq hF hi hA.1 ht,ziu h] at h1
  omega
 ·have h1:=(zrj hC load).1 hb
  have h2 : mayR (trueX r xs) load = true := (zuc _ _).2 ⟨ls, hA, fun i hi => by
   obtain ⟨q,hq⟩:=hG i hi
   have ht:=(hT i q hq).2
   refine ⟨_,_,ht,?_⟩
   rw[zgq hF hi hA.1 ht,ziu h]
   have:=H i q hq
   omega⟩
  rw[h1] at h2
  cases h2
 ·obtain ⟨hi,ht⟩:=hT i q hq
  have h1:=(zgd _ _ _).1 (rest_some hd).2.1 ls hA i hi q.1 q.2 ht
  rw[ziu h] at h1
  unfold rested at h1
  omega
 ·obtain ⟨m1,m2,m3⟩:=ztv hm
  rw[zhp,hl]
  refine ⟨fun hs=>Nat.not_lt.1 fun hlt=>?_,fun hle=>zsj hF (by omega) m2⟩
  rw[m3 n hlt hn] at hs
  cases hs
 ·have:=ztw hm n hn
  rw[zhp,hl,this] at hb
  cases hb
end Rd
end Go.Proofs.Ytlcjlcllbgjplaa

/- The code of functions of the laws, for the evaluator. Printed by program. -/
namespace Go.Proofs.Ytlcjlcllbgjplaa
open Go
namespace Ev
def af25:AFunc:=⟨5,[.tmp 2],Zq [Zo 0 1 (.box (Zt 0)),Zo 1 2 (.mov (.val .nilfn))] (Zq [Zo 0 3 (.alloc [Zi 0]),Zs 1 (.store 1 (Zt 3) (Zn 0))] (Zq [Zo 0 4 (.mkfn (Fn.func 77) [] [Zt 3,Zt 1]),Zm 1 2 4] .ret))⟩
end Ev
end Go.Proofs.Ytlcjlcllbgjplaa

/- The code of functions of the laws, for the evaluator. Printed by program. -/
namespace Go.Proofs.Ytlcjlcllbgjplaa
open Go
namespace Ev
def af28:AFunc:=⟨14,[.tmp 4],Zq [Zo 0 4 (.mov (Zn 0))] (Zq [Zo 0 5 (.mov (Zn 0))] (.seq (.block 0 (.loop [0,1,5] (.seq (Zq [Zm 0 6 5,Zm 1 7 1,Zo 2 8 (.bin .mul (Zt 6) (Zt 7)),Zm 3 9 0,Zo 4 10 (.bin .lss (Zt 8) (Zt 9))] (.cond (Zt 10) .skip (.exit 0))) (.block 1 (.ops [Zm 0 11 5,Zo 1 12 (.bin .add (Zt 11) (Zn 1)),Zm 2 5 12]))))) (Zq [Zm 0 13 5,Zm 1 4 13] .ret)))⟩
end Ev
end Go.Proofs.Ytlcjlcllbgjplaa

/- The code of functions of the laws, for the evaluator. Printed by program. -/
namespace Go.Proofs.Ytlcjlcllbgjplaa
open Go
namespace Ev
def af77:AFunc:=⟨33,[.tmp 4],Zq [Zo 0 3 (.box (Zt 0)),Zo 1 4 (.mov (Zn 0))] (Zq [Zl 0 5 1,Zo 1 6 (.bin .add (Zt 5) (Zn 1)),Zs 2 (.store 1 (Zt 1) (Zt 6))] (.seq (Zq [Zl 0 7 2,Zo 1 8 (.len (Zt 7)),Zo 2 9 (.bin .eql (Zt 8) (Zn 0))] (.cond (Zt 9) (Zq [Zo 0 10 (.fieldA 0 (Zt 3)),Zl 1 11 10,Zm 2 4 11] .ret) .skip)) (.seq (.draw [Zo 0 12 (.fieldA 0 (Zt 3)),Zd 1 13 1 (.load none (Zt 12)),Zl 2 14 2,Zl 3 15 1,Zl 4 16 2,Zd 5 17 16 (.len (Zt 16)),Zd 6 18 56 (.bin .rem (Zt 15) (Zt 17)),Zd 7 19 124 (.indexA 1 none (Zt 14) (Zt 18)),Zd 8 20 252 (.load none (Zt 19)),Zd 9 21 508 (.conv .i64 (Zt 20)),Zl 10 22 1,Zd 11 23 1024 (.bin .mul (Zn 67) (Zt 22)),Zd 12 24 4092 (.bin .add (Zt 21) (Zt 23)),Zo 13 25 (.fieldA 1 (Zt 3)),Zd 14 26 8192 (.load none (Zt 25)),Zo 15 27 (.fieldA 0 (Zt 3)),Zd 16 28 32768 (.load none (Zt 27)),Zd 17 29 122880 (.bin .sub (Zt 26) (Zt 28)),Zd 18 30 253952 (.bin .add (Zt 29) (Zn 1)),Zd 19 31 524284 (.bin .rem (Zt 24) (Zt 30)),Zd 20 32 1048575 (.bin .add (Zt 13) (Zt 31)),Zd 21 4 2097151 (.mov (Zt 32))]) .ret)))⟩
end Ev
end Go.Proofs.Ytlcjlcllbgjplaa

/- RoadTrue, gone through: numbers by remainders, and how much is sunk. -/
namespace Go.Proofs.Ytlcjlcllbgjplaa
open Go
namespace Ev
namespace Ro
open K
attribute [local simp] ev1 wantG spineK spine float xnew xval xeff zaa zas zbc zaw zav addFl cellsOf pickC alive slLen slFt binI maxA maxK minA minK aeqK aeqS AV.cells spA zat fillA setAt bitsI nat_nn zbd AV.plain apart
set_option maxRecDepth 100000
set_option maxHeartbeats 4000000
def drawV (ns:List Int)(k lo hi:Int):Int:=if ns=[] then lo else lo+(ns.getD ((k+1) % (ns.length:Int)).toNat 0+67 * (k+1)) % (hi - lo+1)
theorem zfe (ns:List Int)(k:Int){lo hi:Int}(h:lo≤hi):lo≤drawV ns k lo hi∧drawV ns k lo hi≤hi:=by
 unfold drawV
 split
 ·omega
 ·have h1:=Int.emod_nonneg (ns.getD ((k+1) % (ns.length:Int)).toNat 0+67 * (k+1)) (show hi - lo+1≠0 by omega)
  have h2:=Int.emod_lt_of_pos (ns.getD ((k+1) % (ns.length:Int)).toNat 0+67 * (k+1)) (show 0<hi - lo+1 by omega)
  omega
def DrawC (call:CallF)(ns:List Int)(b u:Nat):Prop:=∀ (H:List AB) (k lo hi:Int),H[b]?=some (.cells [.int .i64 k])→H[u]?=some (.cells [.vs 1 (ns.map (AV.int .u16))])→0≤k→k≤1000→0≤lo→lo≤hi→hi≤10000 →
 call (.fn (.func 77) [] [.ptr b 0,.ptr u 0]) [.agg [.int .i64 lo,.int .i64 hi]] H=some (.ret (.int .i64 (drawV ns k lo hi)),H.set b (.cells [.int .i64 (k+1)])++[.cells [.int .i64 lo,.int .i64 hi]],[b])
theorem zye (C:Cfg)(call:CallF)(ns:List Int)(hns:∀ n∈ns,0≤n∧n≤65535)(b u:Nat)(H:List AB)(k lo hi:Int)(hb0:H[b]?=some (.cells [.int .i64 k]))(hu:H[u]?=some (.cells [.vs 1 (ns.map (AV.int .u16))]))(k0:0≤k)(hk:k≤1000)(h1:0≤lo)(h2:lo≤hi)(h3:hi≤10000):
  Does (ev C call H.length none af77.body { tm:=tmA af77.ntmps (zipI 0 [.agg [.int .i64 lo,.int .i64 hi],.ptr b 0,.ptr u 0] []),df:=[],hp:=H,tc:=[] })
   (Ends C H.length af77.res fun v hp tc=>v=.int .i64 (drawV ns k lo hi)∧hp=H.set b (.cells [.int .i64 (k+1)])++[.cells [.int .i64 lo,.int .i64 hi]]∧tc=[b]):=by
 have hw1:IntKind.i64.wrap (k+1)=k+1:=zau (by omega) (by omega)
 have hbu:b≠u:=fun e=>by rw[e,hu] at hb0;cases hb0
 obtain ⟨B1,B2,B3⟩:=hb hb0
 obtain ⟨U1,U2,U3⟩:=hb hu
 clear hb0 hu
 unfold af77 Zq Zm Zl Zo Zs Zd Zt Zn
 simp only[zipI]
 by_cases hn:ns=[]
 ·subst hn
  simp only[List.map_nil] at *
  clear h1 h2 h3 hk hns k0
  (repeat (first|(with_reducible apply zad;(focus ((conv=>lhs;simp[*,List.getElem?_append_right,List.set_append_right,List.getElem?_cons_zero,List.getElem?_append_left,List.set_append_left,-getElem?_pos,Nat.testBit_eq_decide_div_mod_eq])<;>exact rfl));simp only[addFl])|((with_reducible first|apply zai|apply zak|apply zah|apply zaf|apply zac|apply zaj|apply zag|apply zam|(apply zae;· simp[*,zaa])|(apply zab;· simp[*,zaa]));try simp only[Then,Ops])|simp only[Nat.reduceEqDiff,reduceIte,OutB,Then]))
  refine zao (v:=.int .i64 lo) (.inl rfl) rfl (by simp) (by simp only[resL,resOf,zal];simp[*,resV]) ⟨by simp[drawV],by simp,by simp⟩
 ·have hpos:0<ns.length:=List.length_pos_iff.2 hn
  have hn0:¬ ((ns.length:Int)=0):=by omega
  have hm0:0≤(k+1) % (ns.length:Int):=Int.emod_nonneg _ (by omega)
  have hm1:(k+1) % (ns.length:Int)<ns.length:=Int.emod_lt_of_pos _ (by omega)
  obtain ⟨i,hi0⟩:∃ i:Nat,(k+1) % (ns.length:Int)=i:=⟨((k+1) % (ns.length:Int)).toNat,by omega⟩
  have hlt:i<ns.length:=by omega
  have t1:(k+1).tmod ns.length=(i:Int):=by rw[Int.tmod_eq_emod_of_nonneg (by omega)];exact hi0
  have hv:drawV ns k lo hi=lo+(ns[i]+67 * (k+1)) % (hi - lo+1):=by
   unfold drawV;rw[if_neg hn,hi0];simp[hlt]
  have hbb:=hns _ (List.getElem_mem hlt)
  have h4:=zfe ns k h2
  have hgi:ns[i]?=some ns[i]:=List.getElem?_eq_getElem hlt
  rw[hv] at h4 ⊢
  generalize ns[i]=m at *
  have hgi':=ge_of hgi
  have hil:(i:Int)<ns.length:=by omega
  have w3:IntKind.i64.wrap m=m:=zau (by omega) (by omega)
  have w4:IntKind.i64.wrap (67 * (k+1))=67 * (k+1):=zau (by omega) (by omega)
  have w5:IntKind.i64.wrap (m+67 * (k+1))=m+67 * (k+1):=zau (by omega) (by omega)
  have w6:IntKind.i64.wrap (hi - lo)=hi - lo:=zau (by omega) (by omega)
  have w7:IntKind.i64.wrap (hi - lo+1)=hi - lo+1:=zau (by omega) (by omega)
  have t2:(m+67 * (k+1)).tmod (hi - lo+1)=(m+67 * (k+1)) % (hi - lo+1):=Int.tmod_eq_emod_of_nonneg (by omega)
  have n0:¬ (hi - lo+1=0):=by omega
  have w9:IntKind.i64.wrap (lo+(m+67 * (k+1)) % (hi - lo+1))=lo+(m+67 * (k+1)) % (hi - lo+1):=zau (by omega) (by omega)
  clear h1 h2 h3 h4 hk hbb hv hpos hi0 hns k0 hm0 hm1
  generalize (m+67 * (k+1)) % (hi - lo+1)=res at *
  (repeat (first|(with_reducible apply zad;(focus ((conv=>lhs;simp[*,List.getElem?_append_right,List.set_append_right,List.getElem?_cons_zero,List.getElem?_append_left,List.set_append_left,-getElem?_pos,Nat.testBit_eq_decide_div_mod_eq])<;>exact rfl));simp only[addFl])|((with_reducible first|apply zai|apply zak|apply zah|apply zaf|apply zac|apply zaj|apply zag|apply zam|(apply zae;· simp[*,zaa])|(apply zab;· simp[*,zaa]));try simp only[Then,Ops])|simp only[Nat.reduceEqDiff,reduceIte,OutB,Then]))
  refine zao (v:=.int .i64 (lo+res)) (.inl rfl) rfl (by simp) (by simp only[resL,resOf,zal];simp[*,resV]) ⟨rfl,by simp,by simp⟩
theorem zvo {C:Cfg}{n:Nat}(hC:C.calm=true)(h0:Has C 77 af77)(ns:List Int)(hns:∀ n∈ns,0≤n∧n≤65535)(b u:Nat):DrawC (Ev.call C (n+1)) ns b u:=by
 intro H k lo hi hb hu k0 k1 l0 l1 l2
 obtain ⟨v,hp,tc,G,c1,⟨rfl,h2,rfl⟩,c3,c4,_⟩:=zbw (first:=[]) (captured:=[.ptr b 0,.ptr u 0]) (args:=[.agg [.int .i64 lo,.int .i64 hi]]) (H:=H) hC h0.ext h0.exth h0.fns h0.whole (le' rfl) (zye C _ ns hns b u H k lo hi hb hu k0 k1 l0 l1 l2)
 rw[c1]
 obtain ⟨e1,e2⟩:=c4 (.inr (by simp))
 have:G=hp:=by
  apply List.ext_getElem?
  intro j
  by_cases hj:j<H.length
  ·by_cases hjb:j=b
   ·exact c3.got j hj (by simp[hjb])
   ·rw[c3.old j hj (by simp[hjb]),h2,List.getElem?_append_left (by simpa using hj),List.getElem?_set_ne (Ne.symm hjb)]
  ·exact e2 j (by omega)
 rw[this,h2]
theorem zvm (C:Cfg)(call:CallF)(ns:List Int)(H:List AB):Does (ev C call H.length none af25.body { tm:=tmA af25.ntmps (zipI 0 [.vs 1 (ns.map (AV.int .u16))] []),df:=[],hp:=H,tc:=[] })
  (Ends C H.length af25.res fun v hp tc=>v=.fn (.func 77) [] [.ptr (H.length+1) 0,.ptr H.length 0]∧hp=H++[.cells [.vs 1 (ns.map (AV.int .u16))],.cells [.int .i64 0]]∧tc=[]):=by
 unfold af25 Zq Zm Zo Zs Zt Zn Zi
 simp only[zipI]
 (repeat (first|(with_reducible apply zad;(focus ((conv=>lhs;simp[*,Nat.testBit_eq_decide_div_mod_eq])<;>exact rfl));simp only[addFl])|((with_reducible first|apply zai|apply zak|apply zah|apply zaf|apply zac|apply zaj|apply zag|apply zam|(apply zae;· simp[*,zaa])|(apply zab;· simp[*,zaa]));try simp only[Then,Ops])|simp only[Nat.reduceEqDiff,reduceIte,OutB,Then]))
 exact zao (.inl rfl) rfl (by simp) (by simp only[resL,resOf,zal];simp[*,resV]) ⟨rfl,by simp,rfl⟩
def LSunkC (call:CallF):Prop:=∀ (H:List AB) (p:Rd.Tr) (ld:Int),1≤p.stiff→p.stiff≤10→0≤ld→ld≤60→call (.fn (.func 28) [] []) [.int .i64 ld,.int .i64 p.stiff] H=some (.ret (.int .i64 (Rd.sunk p ld)),H,[])
theorem zkl (C:Cfg)(hC:C.calm=true)(call:CallF)(H:List AB)(p:Rd.Tr)(ld:Int)(h1:1≤p.stiff)(h2:p.stiff≤10)(h3:0≤ld)(h4:ld≤60):Does (ev C call H.length none af28.body { tm:=tmA af28.ntmps (zipI 0 [.int .i64 ld,.int .i64 p.stiff] []),df:=[],hp:=H,tc:=[] })
  (Ends C H.length af28.res fun v _hp tc=>v=.int .i64 (Rd.sunk p ld)∧tc=[]):=by
 obtain ⟨m,hm⟩:∃ m:Nat,Rd.sunk p ld=m:=⟨(Rd.sunk p ld).toNat,by have:=Rd.sunk_nn h1 h3;omega⟩
 have hm60:=Rd.sunk_le h1 h3
 have key:∀ i:Nat,(i:Int) * p.stiff<ld↔i<m:=fun i=>by
  have e:(i:Int)<m↔(i:Int)+1≤(ld+p.stiff - 1) / p.stiff:=by
   unfold Rd.sunk at hm;omega
  rw[Int.le_ediv_iff_mul_le (by omega),Int.add_mul] at e
  constructor<;>intro h<;>omega
 rw[hm] at hm60 ⊢
 unfold af28 Zq Zm Zo Zt Zn
 simp only[zipI] at *
 clear hm
 generalize p.stiff=s at *
 have hmul:∀ i:Nat,i≤m→IntKind.i64.wrap ((i:Int) * s)=(i:Int) * s:=fun i hi=>by
  have a:0≤(i:Int) * s:=Int.mul_nonneg (by omega) (by omega)
  have b:(i:Int) * s≤60 * 10:=Int.mul_le_mul (by omega) h2 (by omega) (by omega)
  exact zau (by omega) (by omega)
 have HX:=hideP (And.intro key hmul)
 clear key hmul
 (repeat (first|((with_reducible apply zad);(focus ((with_reducible apply zar);(focus rfl);(focus rfl);(focus ((conv=>lhs;simp[*,List.getElem?_append_right,List.set_append_right,List.getElem?_cons_zero,List.getElem?_append_left,List.set_append_left,-getElem?_pos,Nat.testBit_eq_decide_div_mod_eq])<;>exact rfl));(focus rfl);(focus rfl)));simp only[addFl])|(with_reducible apply zad;(focus ((conv=>lhs;simp[*,List.getElem?_append_right,List.set_append_right,List.getElem?_cons_zero,List.getElem?_append_left,List.set_append_left,-getElem?_pos,Nat.testBit_eq_decide_div_mod_eq])<;>exact rfl));simp only[addFl])|((with_reducible first|apply zai|apply zak|apply zah|apply zaf|apply zac|apply zaj|apply zag|apply zam|(apply zae;· simp[*,zaa])|(apply zab;· simp[*,zaa]));try simp only[Then,Ops])|simp only[Nat.reduceEqDiff,reduceIte,OutB,Then]))
 with_reducible refine zba hC m (by unfold fuelL;omega) (fun i st=>st={ tm:=tmA 14 [(5,.int .i64 i),(1,.int .i64 s),(0,.int .i64 ld)],df:=[],hp:=H,tc:=[] }) ?_ ?_ ?_
 ·(refine st_is ?_ ?_ ?_ ?_;(focus (simp[zap,zaq]));(focus rfl);(focus (first|rfl|(simp;done)|(simp[*];done)|(simp;rfl)|(simp[*];omega)|(simp;omega)));(focus (first|rfl|simp)))
 ·rintro i st hi rfl
  have k1:=(HX.out.1 i).2 hi
  have k2:=HX.out.2 i (by omega)
  have hwi:IntKind.i64.wrap (↑i+1)=↑i+1:=zau (by omega) (by omega)
  (repeat (first|((with_reducible apply zad);(focus ((with_reducible apply zar);(focus rfl);(focus rfl);(focus ((conv=>lhs;simp[*,List.getElem?_append_right,List.set_append_right,List.getElem?_cons_zero,List.getElem?_append_left,List.set_append_left,-getElem?_pos,Nat.testBit_eq_decide_div_mod_eq])<;>exact rfl));(focus rfl);(focus rfl)));simp only[addFl])|(with_reducible apply zad;(focus ((conv=>lhs;simp[*,List.getElem?_append_right,List.set_append_right,List.getElem?_cons_zero,List.getElem?_append_left,List.set_append_left,-getElem?_pos,Nat.testBit_eq_decide_div_mod_eq])<;>exact rfl));simp only[addFl])|((with_reducible first|apply zai|apply zak|apply zah|apply zaf|apply zac|apply zaj|apply zag|apply zam|(apply zae;· simp[*,zaa])|(apply zab;· simp[*,zaa]));try simp only[Then,Ops,OutB])|simp only[Nat.reduceEqDiff,reduceIte,OutB,Then]))
  (refine st_is ?_ ?_ ?_ ?_;(focus (simp[zap,zaq]));(focus rfl);(focus (first|rfl|(simp;done)|(simp[*];done)|(simp;rfl)|(simp[*];omega)|(simp;omega)));(focus (first|rfl|simp)))
 ·rintro st rfl
  have k1:=mt (HX.out.1 m).1 (Nat.lt_irrefl m)
  have k2:=HX.out.2 m (Nat.le_refl _)
  (repeat (first|((with_reducible apply zad);(focus ((with_reducible apply zar);(focus rfl);(focus rfl);(focus ((conv=>lhs;simp[*,List.getElem?_append_right,List.set_append_right,List.getElem?_cons_zero,List.getElem?_append_left,List.set_append_left,-getElem?_pos,Nat.testBit_eq_decide_div_mod_eq])<;>exact rfl));(focus rfl);(focus rfl)));simp only[addFl])|(with_reducible apply zad;(focus ((conv=>lhs;simp[*,List.getElem?_append_right,List.set_append_right,List.getElem?_cons_zero,List.getElem?_append_left,List.set_append_left,-getElem?_pos,Nat.testBit_eq_decide_div_mod_eq])<;>exact rfl));simp only[addFl])|((with_reducible first|apply zai|apply zak|apply zah|apply zaf|apply zac|apply zaj|apply zag|apply zam|(apply zae;· simp[*,zaa])|(apply zab;· simp[*,zaa]));try simp only[Then,Ops,OutB,reduceIte])|simp only[Nat.reduceEqDiff,reduceIte,OutB,Then]))
  exact zao (v:=.int .i64 m) (.inl rfl) rfl (by simp) (by simp only[resL,resOf,zal];simp[*,resV]) ⟨rfl,by simp⟩
end Ro
end Ev
end Go.Proofs.Ytlcjlcllbgjplaa

/- The code of functions of the laws, for the evaluator. Printed by program. -/
namespace Go.Proofs.Ytlcjlcllbgjplaa
open Go
namespace Ev
def af24:AFunc:=⟨151,[.cell 4 (some 2),.tmp 5,.tmp 6],Zq [Zo 0 2 (.box (Zt 0)),Zo 1 4 (.alloc [.nils,.nils]),Zo 2 5 (.mov (.val .nils)),Zo 3 6 (.mov (.val .nils))] (.seq (Zq [Zo 0 16 (.fieldA 0 (Zt 2)),Zl 1 17 16,Zo 2 18 (.len (Zt 17)),Zo 3 19 (.mov (Zn 0))] (.block 0 (.loop [1,2,4,5,6,17,18,19] (Zq [Zo 0 20 (.bin .lss (Zt 19) (Zt 18))] (.seq (.cond (Zt 20) .skip (.exit 0)) (.seq (.block 1 (Zq [Zo 0 21 (.indexA 7 none (Zt 17) (Zt 19)),Zo 1 22 (.load (some 7) (Zt 21)),Zo 2 8 (.alloc [Zi 0,Zi 0,Zi 0,Zi 0,Zi 0,Zi 0,Zi 0]),Zs 3 (.store 7 (Zt 8) (Zt 22))] (.draw [Zm 0 23 5,Zm 1 24 1,Zo 2 25 (.fieldA 2 (Zt 8)),Zd 3 26 4 (.load (some 2) (Zt 25)),Zm 5 28 1,Zo 6 29 (.fieldA 4 (Zt 8)),Zd 7 30 64 (.load (some 2) (Zt 29)),Zm 9 32 1,Zo 10 33 (.fieldA 0 (Zt 8)),Zd 11 34 1024 (.load (some 2) (Zt 33)),Zd 4 27 14 (.call (Zt 24) [Zt 26]),Zd 8 31 254 (.call (Zt 28) [Zt 30]),Zd 12 35 4094 (.call (Zt 32) [Zt 34]),Zd 13 36 8190 (.build [Zi 0,Zi 0,Zi 0] [(0,(1,Zt 27)),(1,(1,Zt 31)),(2,(1,Zt 35))]),Zd 14 37 16382 (.buildSl 3 1 [Zi 0,Zi 0,Zi 0] [(0,Zt 36)]),Zd 15 38 32767 (.append 3 (Zt 23) (Zt 37)),Zd 16 5 65535 (.mov (Zt 38))]))) (.ops [Zo 0 39 (.bin .add (Zt 19) (Zn 1)),Zm 1 19 39]))))))) (Zq [Zo 0 40 (.load (some 2) (Zt 2)),Zs 1 (.store 2 (Zt 4) (Zt 40))] (Zq [Zo 0 41 (.buildSl 7 0 [Zi 0,Zi 0,Zi 0,Zi 0,Zi 0,Zi 0,Zi 0] []),Zo 1 42 (.fieldA 1 (Zt 2)),Zl 2 43 42,Zo 3 44 (.append 7 (Zt 41) (Zt 43)),Zo 4 45 (.fieldA 1 (Zt 4)),Zs 5 (.store 1 (Zt 45) (Zt 44))] (.seq (Zq [Zo 0 46 (.fieldA 1 (Zt 2)),Zl 1 47 46,Zo 2 48 (.len (Zt 47)),Zo 3 49 (.mov (Zn 0))] (.block 2 (.loop [1,2,4,5,6,47,48,49] (Zq [Zo 0 50 (.bin .lss (Zt 49) (Zt 48))] (.seq (.cond (Zt 50) .skip (.exit 2)) (.seq (.block 3 (Zq [Zm 0 51 49,Zo 1 52 (.indexA 7 none (Zt 47) (Zt 49)),Zo 2 53 (.load (some 7) (Zt 52)),Zo 3 10 (.alloc [Zi 0,Zi 0,Zi 0,Zi 0,Zi 0,Zi 0,Zi 0]),Zm 4 9 51,Zs 5 (.store 7 (Zt 10) (Zt 53))] (Zq [Zo 0 11 (.mov (Zn 0))] (.seq (Zq [Zo 0 54 (.fieldA 0 (Zt 10)),Zl 1 55 54,Zo 2 56 (.bin .eql (Zt 55) (Zn 0))] (.cond (Zt 56) (.ops [Zm 0 57 1,Zo 1 58 (.fieldA 1 (Zt 10)),Zo 2 59 (.load (some 2) (Zt 58)),Zo 3 60 (.call (Zt 57) [Zt 59]),Zm 4 11 60]) .skip)) (Zq [Zo 0 12 (.mov (.val .nils))] (.seq (Zq [Zm 0 61 5,Zo 1 62 (.len (Zt 61)),Zo 2 63 (.mov (Zn 0))] (.block 4 (.loop [1,2,4,5,6,9,10,11,12,47,48,49,62,63] (Zq [Zo 0 64 (.bin .lss (Zt 63) (Zt 62))] (.seq (.cond (Zt 64) .skip (.exit 4)) (.seq (.block 5 (Zq [Zm 0 65 63,Zm 1 13 65] (Zq [Zm 0 66 5,Zm 1 67 13,Zo 2 68 (.indexA 3 none (Zt 66) (Zt 67)),Zm 3 14 68] (.seq (Zq [Zo 0 69 (.fieldA 0 (Zt 10)),Zl 1 70 69] (.block 6 (Zq [Zo 0 72 (.bin .eql (Zt 70) (Zn 0)),Zm 1 71 72] (.cond (Zt 71) (.draw [Zm 0 73 14,Zd 1 74 1 (.nilck (Zt 73)),Zd 2 75 3 (.fieldA 2 (Zt 74)),Zd 3 76 7 (.load none (Zt 75)),Zm 4 77 11,Zm 5 78 14,Zd 6 79 32 (.nilck (Zt 78)),Zd 7 80 96 (.fieldA 0 (Zt 79)),Zd 8 81 224 (.load none (Zt 80)),Zd 9 82 496 (Zc 28 [Zt 77,Zt 81]),Zd 10 83 1023 (.bin .sub (Zt 76) (Zt 82)),Zd 11 84 2047 (.nilck (Zt 73)),Zd 12 85 4095 (.fieldA 2 (Zt 84)),Ze 13 8191 (.store 1 (Zt 85) (Zt 83))]) (Zq [Zo 0 87 (.bin .eql (Zt 70) (Zn 1)),Zm 1 86 87] (.cond (Zt 86) (.draw [Zm 0 88 14,Zo 1 89 (.fieldA 0 (Zt 2)),Zd 2 90 2 (.load none (Zt 89)),Zm 3 91 13,Zd 4 92 14 (.indexA 7 none (Zt 90) (Zt 91)),Zd 5 93 30 (.fieldA 6 (Zt 92)),Zd 6 94 62 (.load none (Zt 93)),Zm 7 95 14,Zd 8 96 128 (.nilck (Zt 95)),Zd 9 97 384 (.fieldA 2 (Zt 96)),Zd 10 98 896 (.load none (Zt 97)),Zo 11 99 (.fieldA 3 (Zt 10)),Zd 12 100 2048 (.load none (Zt 99)),Zm 13 101 14,Zd 14 102 8192 (.nilck (Zt 101)),Zd 15 103 24576 (.fieldA 1 (Zt 102)),Zd 16 104 57344 (.load none (Zt 103)),Zd 17 105 129024 (.bin .mul (Zt 100) (Zt 104)),Zd 18 106 262016 (.bin .add (Zt 98) (Zt 105)),Zd 19 107 524286 (.min [Zt 94,Zt 106]),Zd 20 108 1048575 (.nilck (Zt 88)),Zd 21 109 2097151 (.fieldA 2 (Zt 108)),Ze 22 4194303 (.store 1 (Zt 109) (Zt 107))]) .skip)))))) (.ops [Zm 0 110 12,Zm 1 111 14,Zo 2 112 (.nilck (Zt 111)),Zo 3 113 (.fieldA 2 (Zt 112)),Zl 4 114 113,Zo 5 115 (.buildSl 1 1 [Zi 0] [(0,Zt 114)]),Zo 6 116 (.append 1 (Zt 110) (Zt 115)),Zm 7 12 116]))))) (.ops [Zo 0 117 (.bin .add (Zt 63) (Zn 1)),Zm 1 63 117]))))))) (.seq (Zq [Zo 0 118 (.fieldA 0 (Zt 10)),Zl 1 119 118,Zo 2 120 (.bin .eql (Zt 119) (Zn 2))] (.cond (Zt 120) (Zq [Zm 0 121 12,Zo 1 122 (.fieldA 4 (Zt 10)),Zl 2 123 122,Zo 3 124 (.indexA 1 none (Zt 121) (Zt 123)),Zl 4 125 124,Zm 5 15 125] (.draw [Zo 0 126 (.fieldA 1 (Zt 4)),Zd 1 127 1 (.load none (Zt 126)),Zm 2 128 9,Zm 3 129 15,Zo 4 130 (.fieldA 5 (Zt 10)),Zd 5 131 16 (.fieldA 1 (Zt 130)),Zd 6 132 48 (.load none (Zt 131)),Zo 7 133 (.fieldA 5 (Zt 10)),Zd 8 134 128 (.fieldA 0 (Zt 133)),Zd 9 135 384 (.load none (Zt 134)),Zd 10 136 1008 (.bin .sub (Zt 132) (Zt 135)),Zd 11 137 2032 (.min [Zn 2,Zt 136]),Zd 12 138 4088 (.bin .sub (Zt 129) (Zt 137)),Zm 13 139 15,Zd 14 140 16376 (Zc 12 [Zt 138,Zt 139]),Zd 15 141 32767 (.indexA 7 none (Zt 127) (Zt 128)),Zd 16 142 65535 (.fieldA 5 (Zt 141)),Ze 17 131071 (.store 2 (Zt 142) (Zt 140))])) .skip)) (.ops [Zm 0 143 6,Zm 1 144 12,Zo 2 145 (.buildSl 1 1 [.nils] [(0,Zt 144)]),Zo 3 146 (.append 1 (Zt 143) (Zt 145)),Zm 4 6 146])))))))) (.ops [Zo 0 147 (.bin .add (Zt 49) (Zn 1)),Zm 1 49 147]))))))) (Zq [Zo 0 148 (.load (some 2) (Zt 4)),Zm 1 149 5,Zm 2 150 6,Zs 3 (.store 2 (Zt 4) (Zt 148)),Zm 4 5 149,Zm 5 6 150] .ret)))))⟩
end Ev
end Go.Proofs.Ytlcjlcllbgjplaa

/- RoadTrue, gone through: how parts truly are. -/
namespace Go.Proofs.Ytlcjlcllbgjplaa
open Go
namespace Ev
namespace Ro
open K
attribute [local simp] ev1 wantG spineK spine float xnew xval xeff zaa zas zbc zaw zav addFl cellsOf pickC alive slLen slFt binI maxA maxK minA minK aeqK aeqS AV.cells spA zat fillA setAt bitsI nat_nn zbd AV.plain apart
set_option maxRecDepth 100000
set_option maxHeartbeats 4000000
def stCs:List (Rd.Tr × Int)→List AV
 |[]=>[]
 |q::l=>.int .i64 q.1.stiff::.int .i64 q.1.rise::.int .i64 q.2::stCs l
theorem zea:∀ l,(stCs l).length=l.length * 3
 |[]=>rfl
 |q::l=>by simp[stCs,zea l];omega
theorem zng:∀ l m,stCs (l++m)=stCs l++stCs m
 |[],_=>rfl
 |q::l,m=>by simp[stCs,zng l m]
theorem zhs:∀ l,(stCs l).all AV.plain=true
 |[]=>rfl
 |q::l=>by simp only[stCs,List.all_cons,zhs l];rfl
structure T1 (H:List AB) (r:Rd.Road) (ns:List Int) (b u:Nat) (G:List AB) (i:Nat) (T:List (Rd.Tr × Int)) (k:Int):Prop where
 b:HB G b (.cells [.int .i64 k])
 u:HB G u (.cells [.vs 1 (ns.map (AV.int .u16))])
 c0:HB G H.length (.cells (roadCs r))
 c1:HB G (H.length+1) (.cells [.nils,.nils])
 k0:0≤k
 k1:k≤3 * (i:Int)
 lt:T.length=i
 pt:∀ (j:Nat) (q:Rd.Tr × Int),T[j]?=some q→q.1∈Rd.partsR (r.parts.getD j default)∧(r.parts.getD j default).height.has q.2
inductive One3 (lo:Nat) (G:List AB) (T:List (Rd.Tr × Int)):AV→Prop
 |none:T=[]→One3 lo G T .nils
 |some (q:Nat):lo≤q→HB G q (.cells (stCs T))→One3 lo G T (.sl q 0 T.length 3)
theorem zjd (C:Cfg)(call:CallF)(ns:List Int)(b u:Nat)(hD:DrawC call ns b u)(r:Rd.Road)(hf:Rd.Fine r)(H:List AB)(hbu:b≠u)(hbH:b<H.length)(huH:u<H.length)(i:Nat)(hi:i<r.parts.length)(G:List AB)(T:List (Rd.Tr × Int))(k:Int)(lv:AV)(tcs:List Nat)(htc:∀ j∈tcs,j=b)(hI:T1 H r ns b u G i T k)(hT:One3 (H.length+2) G T lv):
  Does (ev C call H.length none (atP [1,0,1,0,0] af24.body) { tm:=tmA 151 [(19,.int .i64 i),(18,.int .i64 r.parts.length),(17,.vs 7 (r.parts.map ptE)),(6,.nils),(5,lv),(4,.ptr (H.length+1) 0),(2,.ptr H.length 0),(1,.fn (.func 77) [] [.ptr b 0,.ptr u 0])],df:=[],hp:=G,tc:=tcs })
   (fun e st=>e=.normal∧∃ G T k lv tcs,(∀ j∈tcs,j=b)∧T1 H r ns b u G (i+1) T k∧One3 (H.length+2) G T lv∧{ st with tm:=keepT [1,2,4,5,6,17,18,19] st.tm }=({ tm:=tmA 151 [(19,.int .i64 (i+1:Nat)),(18,.int .i64 r.parts.length),(17,.vs 7 (r.parts.map ptE)),(6,.nils),(5,lv),(4,.ptr (H.length+1) 0),(2,.ptr H.length 0),(1,.fn (.func 77) [] [.ptr b 0,.ptr u 0])],df:=[],hp:=G,tc:=tcs }:St)):=by
 have hgp:r.parts[i]?=some r.parts[i]:=List.getElem?_eq_getElem hi
 have hpl:=hf.part r.parts[i] (List.getElem_mem hi)
 have hgd:r.parts.getD i default=r.parts[i]:=by rw[List.getD_eq_getElem?_getD,hgp];rfl
 generalize hP:r.parts[i]=p at hgp hpl hgd
 have hgp':=ge_of hgp
 have hp4:=hf.parts
 obtain ⟨⟨B1,B2,B3⟩,⟨U1,U2,U3⟩,hc0,hc1,k0,k1,lb,hsz⟩:=hI
 obtain ⟨a1,ha1⟩:∃ a,drawV ns k p.stiff.lo p.stiff.hi=a:=⟨_,rfl⟩
 obtain ⟨a2,ha2⟩:∃ a,drawV ns (k+1) p.rise.lo p.rise.hi=a:=⟨_,rfl⟩
 obtain ⟨a3,ha3⟩:∃ a,drawV ns (k+1+1) p.height.lo p.height.hi=a:=⟨_,rfl⟩
 have i1:=zfe ns k (lo:=p.stiff.lo) (hi:=p.stiff.hi) (by omega)
 have i2:=zfe ns (k+1) (lo:=p.rise.lo) (hi:=p.rise.hi) (by omega)
 have i3:=zfe ns (k+1+1) (lo:=p.height.lo) (hi:=p.height.hi) (by omega)
 rw[ha1] at i1
 rw[ha2] at i2
 rw[ha3] at i3
 have hd1:∀ K,call (.fn (.func 77) [] [.ptr b 0,.ptr u 0]) [.agg [.int .i64 p.stiff.lo,.int .i64 p.stiff.hi]] (G++K)=some (.ret (.int .i64 a1),G.set b (.cells [.int .i64 (k+1)])++(K++[.cells [.int .i64 p.stiff.lo,.int .i64 p.stiff.hi]]),[b]):=fun K=>by
  rw[hD (G++K) k _ _ (by rw[List.getElem?_append_left B2];exact B1) (by rw[List.getElem?_append_left U2];exact U1) k0 (by omega) (by omega) (by omega) (by omega),ha1,List.set_append_left _ _ B2,List.append_assoc]
 have hd2:∀ K,call (.fn (.func 77) [] [.ptr b 0,.ptr u 0]) [.agg [.int .i64 p.rise.lo,.int .i64 p.rise.hi]] (G.set b (.cells [.int .i64 (k+1)])++K)=some (.ret (.int .i64 a2),G.set b (.cells [.int .i64 (k+1+1)])++(K++[.cells [.int .i64 p.rise.lo,.int .i64 p.rise.hi]]),[b]):=fun K=>by
  rw[hD (G.set b (.cells [.int .i64 (k+1)])++K) (k+1) _ _ (by rw[List.getElem?_append_left (by simpa using B2),List.getElem?_set_self B2]) (by rw[List.getElem?_append_left (by simpa using U2),List.getElem?_set_ne hbu];exact U1) (by omega) (by omega) (by omega) (by omega) (by omega),ha2,List.set_append_left _ _ (by simpa using B2),List.set_set,List.append_assoc]
 have hd3:∀ K,call (.fn (.func 77) [] [.ptr b 0,.ptr u 0]) [.agg [.int .i64 p.height.lo,.int .i64 p.height.hi]] (G.set b (.cells [.int .i64 (k+1+1)])++K)=some (.ret (.int .i64 a3),G.set b (.cells [.int .i64 (k+1+1+1)])++(K++[.cells [.int .i64 p.height.lo,.int .i64 p.height.hi]]),[b]):=fun K=>by
  rw[hD (G.set b (.cells [.int .i64 (k+1+1)])++K) (k+1+1) _ _ (by rw[List.getElem?_append_left (by simpa using B2),List.getElem?_set_self B2]) (by rw[List.getElem?_append_left (by simpa using U2),List.getElem?_set_ne hbu];exact U1) (by omega) (by omega) (by omega) (by omega) (by omega),ha3,List.set_append_left _ _ (by simpa using B2),List.set_set,List.append_assoc]
 have hwi:IntKind.i64.wrap (↑i+1)=↑i+1:=zau (by omega) (by omega)
 have e5:(i:Int)<r.parts.length:=by omega
 have hnew:∀ (j:Nat) (q:Rd.Tr × Int),(T++[(⟨a1,a2,p.full⟩,a3)])[j]?=some q→q.1∈Rd.partsR (r.parts.getD j default)∧(r.parts.getD j default).height.has q.2:=fun j q hq=>by
  by_cases hji:j<i
  ·rw[List.getElem?_append_left (by omega)] at hq;exact hsz j q hq
  ·rw[List.getElem?_append_right (by omega)] at hq
   have hj0:j=i:=by
    have:=(List.getElem?_eq_some_iff.1 hq).1
    simp at this;omega
   subst hj0
   rw[lb,Nat.sub_self] at hq
   obtain rfl:=Option.some.inj hq
   rw[hgd]
   exact ⟨List.mem_flatMap.2 ⟨a1,(Clm.mem_span _ _).2 ⟨i1.1,i1.2⟩,List.mem_map.2 ⟨a2,(Clm.mem_span _ _).2 ⟨i2.1,i2.2⟩,rfl⟩⟩,i3.1,i3.2⟩
 -- what is left behind
 have hend:∀ (G0:List AB) (K:List AB) (q1:Nat),(∀ q x,q≠b→q<H.length+2→HB G q x→HB G0 q x)→HB G0 b (.cells [.int .i64 (k+1+1+1)])→H.length+2≤q1→(G0++K)[q1]?=some (.cells (stCs T++[.int .i64 a1,.int .i64 a2,.int .i64 a3])) →
   T1 H r ns b u (G0++K) (i+1) (T++[(⟨a1,a2,p.full⟩,a3)]) (k+1+1+1)∧One3 (H.length+2) (G0++K) (T++[(⟨a1,a2,p.full⟩,a3)]) (.sl q1 0 (T.length+1) 3):=fun G0 K q1 h1 h2 h3 h6=>by
  refine ⟨⟨h2.app K,(h1 u _ (Ne.symm hbu) (by omega) ⟨U1,U2,U3⟩).app K,(h1 _ _ (by omega) (by omega) hc0).app K,(h1 _ _ (by omega) (by omega) hc1).app K,by omega,by omega,by simp[lb],hnew⟩,?_⟩
  have:=One3.some (lo:=H.length+2) (G:=G0++K) (T:=T++[(⟨a1,a2,p.full⟩,a3)]) q1 h3 (hb (by rw[h6,zng];rfl))
  rw[List.length_append] at this
  exact this
 have HX:=hideP (And.intro hend (And.intro htc (And.intro hc0 (And.intro hc1 lb))))
 clear lb hend htc hnew hsz hD ha1 ha2 ha3 i1 i2 i3 hgd hpl hf k0 k1 hc0 hc1 hP
 have hb1:1≤bound:=by decide
 have hgl:=HX.out.2.2.2.1.lt
 have g1:¬ (G.length<H.length):=by omega
 have g2:∀ n,¬ (G.length+n<H.length):=fun n=>by omega
 have g3:¬ (b=G.length):=by omega
 have g4:¬ (G.length=b):=by omega
 clear hgl
 have hplr:=zhs T
 have hlen3:=zea T
 have hfilt:decide (b<H.length)=true:=decide_eq_true hbH
 unfold af24 Zq Zm Zl Zo Zs Zd Ze Zc Zt Zn Zi
 simp only[atP]
 cases hT with
 |none h0=>
  subst h0
  clear hplr hlen3
  (repeat (first|((with_reducible apply zad);(focus ((with_reducible apply zar);(focus rfl);(focus rfl);(focus ((conv=>lhs;simp[*,List.getElem?_append_right,List.set_append_right,List.getElem?_cons_zero,List.getElem?_append_left,List.set_append_left,-getElem?_pos,↓zan,↓zaz,ptE,Nat.testBit_eq_decide_div_mod_eq])<;>exact rfl));(focus rfl);(focus rfl)));simp only[addFl])|(with_reducible apply zad;(focus ((conv=>lhs;simp[*,List.getElem?_append_right,List.set_append_right,List.getElem?_cons_zero,List.getElem?_append_left,List.set_append_left,-getElem?_pos,↓zan,↓zaz,ptE,Nat.testBit_eq_decide_div_mod_eq])<;>exact rfl));simp only[addFl])|((with_reducible first|apply zai|apply zak|apply zah|apply zaf|apply zac|apply zaj|apply zag|apply zam|(apply zae;· simp[*,zaa])|(apply zab;· simp[*,zaa]));try simp only[Then,Ops,OutB])|simp only[Nat.reduceEqDiff,reduceIte,OutB,Then]))
  obtain ⟨hend,htc,hc0,hc1,lb⟩:=HX.out
  have hl:=hc1.lt
  have h:=hend (G.set b (.cells [.int .i64 (k+1+1+1)])) [.cells [.int .i64 p.height.lo,.int .i64 p.height.hi,.int .i64 p.stiff.lo,.int .i64 p.stiff.hi,.int .i64 p.rise.lo,.int .i64 p.rise.hi,.int .i64 p.full],.cells [.int .i64 p.stiff.lo,.int .i64 p.stiff.hi],.cells [.int .i64 p.rise.lo,.int .i64 p.rise.hi],.cells [.int .i64 p.height.lo,.int .i64 p.height.hi],.cells [.int .i64 a1,.int .i64 a2,.int .i64 a3],.cells (stCs []++[.int .i64 a1,.int .i64 a2,.int .i64 a3])] (G.length+5) (fun q x hq _ h=>h.set _ (Ne.symm hq)) (HB.here ⟨B1,B2,B3⟩ _) (by omega) (by rw[List.getElem?_append_right (by simp),List.length_set,Nat.add_sub_cancel_left];rfl)
  refine ⟨by first|rfl|trivial,_,_,_,_,b::b::b::tcs,fun j hj=>by simp only[List.mem_cons] at hj;rcases hj with h|h|h|h<;>first|exact h|exact htc j h,h.1,h.2,?_⟩
  simp only[stCs,List.nil_append]
  (refine st_is ?_ ?_ ?_ ?_;(focus (simp[zap,zaq]));(focus rfl);(focus (first|rfl|(simp;done)|(simp[*];done)|(simp;rfl)|(simp[*];omega)|(simp;omega)));(focus (first|rfl|simp)))
 |some q1 l1 h1=>
  obtain ⟨Q1,Q2,Q3⟩:=h1
  have n1:b≠q1:=by omega
  have n3:¬ (q1<H.length):=by omega
  have hbl:T.length+1≤bound:=by have:=HX.out.2.2.2.2;unfold bound;omega
  (repeat (first|((with_reducible apply zad);(focus ((with_reducible apply zar);(focus rfl);(focus rfl);(focus ((conv=>lhs;simp[*,List.getElem?_append_right,List.set_append_right,List.getElem?_cons_zero,List.getElem?_append_left,List.set_append_left,-getElem?_pos,↓zan,↓zaz,ptE,Nat.testBit_eq_decide_div_mod_eq])<;>exact rfl));(focus rfl);(focus rfl)));simp only[addFl])|(with_reducible apply zad;(focus ((conv=>lhs;simp[*,List.getElem?_append_right,List.set_append_right,List.getElem?_cons_zero,List.getElem?_append_left,List.set_append_left,-getElem?_pos,↓zan,↓zaz,ptE,Nat.testBit_eq_decide_div_mod_eq])<;>exact rfl));simp only[addFl])|((with_reducible first|apply zai|apply zak|apply zah|apply zaf|apply zac|apply zaj|apply zag|apply zam|(apply zae;· simp[*,zaa])|(apply zab;· simp[*,zaa]));try simp only[Then,Ops,OutB])|simp only[Nat.reduceEqDiff,reduceIte,OutB,Then]))
  obtain ⟨hend,htc,hc0,hc1,lb⟩:=HX.out
  have hl:=hc1.lt
  have h:=hend ((G.set b (.cells [.int .i64 (k+1+1+1)])).set q1 .dead) [.cells [.int .i64 p.height.lo,.int .i64 p.height.hi,.int .i64 p.stiff.lo,.int .i64 p.stiff.hi,.int .i64 p.rise.lo,.int .i64 p.rise.hi,.int .i64 p.full],.cells [.int .i64 p.stiff.lo,.int .i64 p.stiff.hi],.cells [.int .i64 p.rise.lo,.int .i64 p.rise.hi],.cells [.int .i64 p.height.lo,.int .i64 p.height.hi],.cells [.int .i64 a1,.int .i64 a2,.int .i64 a3],.cells (stCs T++[.int .i64 a1,.int .i64 a2,.int .i64 a3])] (G.length+5) (fun q x hq hlt h=>(h.set _ (Ne.symm hq)).set _ (by omega)) ((HB.here ⟨B1,B2,B3⟩ _).set _ (Ne.symm n1)) (by omega) (by rw[List.getElem?_append_right (by simp)];simp only[List.length_set,Nat.add_sub_cancel_left];rfl)
  refine ⟨by first|rfl|trivial,_,_,_,_,b::b::b::tcs,fun j hj=>by simp only[List.mem_cons] at hj;rcases hj with h|h|h|h<;>first|exact h|exact htc j h,h.1,h.2,?_⟩
  (refine st_is ?_ ?_ ?_ ?_;(focus (simp[zap,zaq]));(focus rfl);(focus (first|rfl|(simp;done)|(simp[*];done)|(simp;rfl)|(simp[*];omega)|(simp;omega)));(focus (first|rfl|simp)))
end Ro
end Ev
end Go.Proofs.Ytlcjlcllbgjplaa

/- RoadTrue, gone through: an event befalls a part. -/
namespace Go.Proofs.Ytlcjlcllbgjplaa
open Go
namespace Ev
namespace Ro
open K
attribute [local simp] ev1 wantG spineK spine float xnew xval xeff zaa zas zbc zaw zav addFl cellsOf pickC alive slLen slFt binI maxA maxK minA minK aeqK aeqS AV.cells spA zat fillA setAt bitsI nat_nn zbd AV.plain apart
set_option maxRecDepth 100000
set_option maxHeartbeats 4000000
theorem zix:∀ (T:List (Rd.Tr × Int)) (i:Nat) (q:Rd.Tr × Int),T[i]?=some q→(stCs T)[i * 3]?=some (.int .i64 q.1.stiff)∧(stCs T)[i * 3+1]?=some (.int .i64 q.1.rise)∧(stCs T)[i * 3+2]?=some (.int .i64 q.2)
 |[],i,v,h=>by simp at h
 |e::l,0,v,h=>by
  simp only[List.getElem?_cons_zero,Option.some.injEq] at h
  subst h
  simp[stCs]
 |e::l,i+1,v,h=>by
  have ih:=zix l i v (by simpa using h)
  rw[show (i+1) * 3=i * 3+1+1+1 by omega,show i * 3+1+1+1+1=i * 3+1+1+1+1 by omega]
  simpa [stCs] using ih
theorem znf:∀ (T:List (Rd.Tr × Int)) (i:Nat) (p:Rd.Tr) (h n:Int),T[i]?=some (p,h)→(stCs T).take (i * 3+2)++.int .i64 n::(stCs T).drop (i * 3+3)=stCs (T.set i (p,n))
 |[],i,p,h,n,hh=>by simp at hh
 |e::l,0,p,h,n,hh=>by
  simp only[List.getElem?_cons_zero,Option.some.injEq] at hh
  subst hh
  simp[stCs]
 |e::l,i+1,p,h,n,hh=>by
  have ih:=znf l i p h n (by simpa using hh)
  rw[show (i+1) * 3+2=i * 3+2+1+1+1 by omega,show (i+1) * 3+3=i * 3+3+1+1+1 by omega]
  simpa [stCs] using ih
inductive One1 (lo:Nat) (G:List AB) (B:List Int):AV→Prop
 |none:B=[]→One1 lo G B .nils
 |some (q:Nat):lo≤q→HB G q (.cells (ints B))→One1 lo G B (.sl q 0 B.length 1)
structure TI (ql np:Nat) (G0:List AB) (T0 T1:List (Rd.Tr × Int)) (G:List AB) (m:Nat) (T:List (Rd.Tr × Int)) (B:List Int):Prop where
 keep:∀ q x,q<G0.length→q≠ql→HB G0 q x→HB G q x
 len:G0.length≤G.length
 st:HB G ql (.cells (stCs T))
 lt:T.length=np
 new:∀ j,j<m→T[j]?=T1[j]?
 old:∀ j,m≤j→T[j]?=T0[j]?
 bl:B.length=m
 bv:∀ (j:Nat) (q:Rd.Tr × Int),j<m→T1[j]?=some q→B[j]?=some q.2
def trIn (H:List AB)(r:Rd.Road)(b u ql a10 i:Nat)(ld:Int)(hv tv:AV)(m:Nat)(G:List AB)(tcs:List Nat):St:={ tm:=tmA 151 [(63,.int .i64 m),(62,.int .i64 r.parts.length),(49,.int .i64 i),(48,.int .i64 r.events.length),(47,.vs 7 (r.events.map evE)),(12,tv),(11,.int .i64 ld),(10,.ptr a10 0),(9,.int .i64 i),(6,hv),(5,.sl ql 0 r.parts.length 3),(4,.ptr (H.length+1) 0),(2,.ptr H.length 0),(1,.fn (.func 77) [] [.ptr b 0,.ptr u 0])],df:=[],hp:=G,tc:=tcs }
theorem zlw (C:Cfg)(call:CallF)(hS:LSunkC call)(r:Rd.Road)(hf:Rd.Fine r)(H:List AB)(b u ql a10 i:Nat)(v:Rd.Evt)(hvk:(v.kind=0∨v.kind=1∧1≤v.days∧v.days≤10)∨v.kind=2)(x:Int)(hx:0≤x∧x≤60)(hv tv:AV)(m:Nat)(hm:m<r.parts.length)(G0 G:List AB)(hG0:H.length+2≤G0.length)(hql:H.length≤ql∧ql<G0.length)(hqH:H.length≠ql)(h10:a10<G0.length∧a10≠ql)(hA0:HB G0 a10 (.cells [.int .i64 v.kind,.int .i64 v.load.lo,.int .i64 v.load.hi,.int .i64 v.days,.int .i64 v.part,.int .i64 v.shows.lo,.int .i64 v.shows.hi]))(hC0:HB G0 H.length (.cells (roadCs r)))
  (tcs:List Nat) (T0 T1 T:List (Rd.Tr × Int)) (B:List Int)
  (hst:∀ j,j<r.parts.length→∃ p h,T0[j]?=some (p,h)∧T1[j]?=some (p,Rd.stepE v p h x)∧1≤p.stiff∧p.stiff≤10∧0≤p.rise∧p.rise≤5∧-600≤h∧h≤60∧p.full=(r.parts.getD j default).full)
  (hI:TI ql r.parts.length G0 T0 T1 G m T B) (hT:One1 G0.length G B tv):
  Does (ev C call H.length none (atP [1,1,1,1,0,1,0,0,1,1,0,0,1,1,1,1,0,1,0,0] af24.body) (trIn H r b u ql a10 i x hv tv m G tcs))
   (fun e st=>e=.normal∧∃ G T B tv,TI ql r.parts.length G0 T0 T1 G (m+1) T B∧One1 G0.length G B tv∧{ st with tm:=keepT [1,2,4,5,6,9,10,11,12,47,48,49,62,63] st.tm }=trIn H r b u ql a10 i x hv tv (m+1) G tcs):=by
 obtain ⟨p,h,ht0,ht1,p1,p2,p3,p4,p5,p6,p7⟩:=hst m hm
 have hgp:r.parts[m]?=some r.parts[m]:=List.getElem?_eq_getElem hm
 have hgd:r.parts.getD m default=r.parts[m]:=by rw[List.getD_eq_getElem?_getD,hgp];rfl
 have hpp:=hf.part _ (List.getElem_mem hm)
 rw[hgd] at p7
 generalize r.parts[m]=pt at hgp hgd hpp p7
 have hgp':=ge_of hgp
 have hp4:=hf.parts
 obtain ⟨hkeep,hlen,hstH,hlt,hnew,hold,hbl,hbv⟩:=hI
 have htm:T[m]?=some (p,h):=by rw[hold m (Nat.le_refl _),ht0]
 obtain ⟨r1,r2,r3⟩:=zix T m (p,h) htm
 have r1':=ge_of r1
 have r2':=ge_of r2
 have r3':=ge_of r3
 obtain ⟨n,hn⟩:∃ n,Rd.stepE v p h x=n:=⟨_,rfl⟩
 rw[hn] at ht1
 have hset:=znf T m p h n htm
 have hmT:m<T.length:=by omega
 obtain ⟨-,-,s3⟩:=zix (T.set m (p,n)) m (p,n) (by rw[List.getElem?_set_self hmT])
 have s3':=ge_of s3
 have hl3:(stCs T).length=r.parts.length * 3:=by rw[zea,hlt]
 have hl3':(stCs (T.set m (p,n))).length=r.parts.length * 3:=by rw[zea,List.length_set,hlt]
 have e0:m * 3+2+1≤r.parts.length * 3:=by omega
 have e1:m * 3+2<r.parts.length * 3:=by omega
 have e5:(m:Int)<r.parts.length:=by omega
 have hwi:IntKind.i64.wrap (↑m+1)=↑m+1:=zau (by omega) (by omega)
 have hb1:1≤bound:=by decide
 have hbi:B.length+1≤bound:=by unfold bound;omega
 have hplr:=zib B
 have hil:(ints B).length=B.length:=by simp[ints]
 have hA:=hkeep _ _ h10.1 h10.2 hA0
 have hC:=hkeep _ _ (by have:=hC0.lt;exact this) hqH hC0
 -- what is left behind
 have fin:∀ (G2:List AB) (T2:List (Rd.Tr × Int)) (q:Nat),T2=T.set m (p,n)→(∀ q' x,q'<G0.length→q'≠ql→HB G q' x→HB G2 q' x)→G.length≤G2.length→HB G2 ql (.cells (stCs T2))→G0.length≤q→HB G2 q (.cells (ints (B++[n])))→∀ st:St,st=trIn H r b u ql a10 i x hv (.sl q 0 (B.length+1) 1) (m+1) G2 tcs→∃ G T B tv,TI ql r.parts.length G0 T0 T1 G (m+1) T B∧One1 G0.length G B tv∧st=trIn H r b u ql a10 i x hv tv (m+1) G tcs:=fun G2 T2 q f0 f1 f2 f3 f4 f5 st f6=>by
  subst f0
  refine ⟨G2,_,B++[n],_,⟨fun q' y h1 h2 h3=>f1 q' y h1 h2 (hkeep q' y h1 h2 h3),by omega,f3,by simp[hlt],fun j hj=>?_,fun j hj=>?_,by simp[hbl],fun j q' hj hq'=>?_⟩,.some q f4 f5,by rw[f6];simp⟩
  ·by_cases hjm:j=m
   ·subst hjm;rw[List.getElem?_set_self hmT,ht1]
   ·rw[List.getElem?_set_ne (Ne.symm hjm)];exact hnew j (by omega)
  ·rw[List.getElem?_set_ne (by omega)];exact hold j (by omega)
  ·by_cases hjm:j=m
   ·subst hjm
    rw[ht1] at hq'
    obtain rfl:=Option.some.inj hq'
    rw[List.getElem?_append_right (by omega),hbl,Nat.sub_self];rfl
   ·rw[List.getElem?_append_left (by omega)];exact hbv j q' (by omega) hq'
 have hGl:=hlen
 have nl1:¬ (ql<H.length):=by omega
 have gG:¬ (G.length<H.length):=by omega
 have gG':∀ n,¬ (G.length+n<H.length):=fun n=>by omega
 have hstH':=hstH
 have hqlG:=hstH.lt
 have gq:¬ (ql=G.length):=by omega
 have gq':∀ n,¬ (ql=G.length+n):=fun n=>by omega
 have n10:ql≠a10:=Ne.symm h10.2
 have nH:ql≠H.length:=Ne.symm hqH
 have wsub:∀ y,0≤y→y≤60→IntKind.i64.wrap (h - y)=h - y:=fun y h1 h2=>zau (by omega) (by omega)
 have wrest:v.kind=1→IntKind.i64.wrap (v.days * p.rise)=v.days * p.rise∧IntKind.i64.wrap (h+v.days * p.rise)=h+v.days * p.rise:=fun hk=>by
  have hd:1≤v.days∧v.days≤10:=by omega
  have m0:0≤v.days * p.rise:=Int.mul_nonneg (by omega) (by omega)
  have m1:v.days * p.rise≤10 * 5:=Int.mul_le_mul hd.2 p4 (by omega) (by omega)
  exact ⟨zau (by omega) (by omega),zau (by omega) (by omega)⟩
 have hsk:=fun H=>hS H p x p1 p2 hx.1 hx.2
 have hskb:=Rd.sunk_le p1 hx.1
 have hskn:=Rd.sunk_nn p1 hx.1
 have hsame:v.kind≠0→v.kind≠1→n=h:=fun h1 h2=>by rw[← hn];unfold Rd.stepE;rw[if_neg h1,if_neg h2]
 have hrest:v.kind=1→n=min pt.full (h+v.days * p.rise):=fun h1=>by rw[← hn,← p7];unfold Rd.stepE;rw[if_neg (by omega),if_pos h1];rfl
 have hpass:v.kind=0→n=h - Rd.sunk p x:=fun h1=>by rw[← hn];unfold Rd.stepE;rw[if_pos h1]
 obtain ⟨A1,A2,A3⟩:=hA
 obtain ⟨C1,C2,C3⟩:=hC
 obtain ⟨S1,S2,S3⟩:=hstH
 have HF:=hideP (And.intro fin (And.intro hstH' (And.intro hG0 (And.intro hlen (And.intro hbl (And.intro hql hx))))))
 clear fin hstH' hkeep hlt hnew hold hbv hf hst ht0 ht1 hgd hpp p1 p2 p3 p4 p5 p6 p7 hG0 hn hS h10 hA0 hC0 hbl hp4
 have hk3:v.kind=0∨v.kind=1∨v.kind=2:=by omega
 rcases hk3 with hk|hk|hk
 ·have hw:=wsub _ hskn (by omega)
  have hne:=hpass hk
  clear hmT htm wsub wrest hsame hrest hpass hskb hskn hvk hx
  generalize Rd.sunk p x=y at *
  subst hne
  unfold af24 Zq Zm Zl Zo Zs Zd Ze Zc Zt Zn Zi trIn
  simp only[atP,roadCs] at *
  cases hT with
  |none h0=>
   subst h0
   clear hplr hbi hil
   (repeat (first|((with_reducible apply zad);(focus ((with_reducible apply zar);(focus rfl);(focus rfl);(focus ((conv=>lhs;simp[*,List.getElem?_append_right,List.set_append_right,List.getElem?_cons_zero,List.getElem?_append_left,List.set_append_left,-getElem?_pos,↓zan,ptE,Nat.testBit_eq_decide_div_mod_eq])<;>exact rfl));(focus rfl);(focus rfl)));simp only[addFl])|(with_reducible apply zad;(focus ((conv=>lhs;simp[*,List.getElem?_append_right,List.set_append_right,List.getElem?_cons_zero,List.getElem?_append_left,List.set_append_left,-getElem?_pos,↓zan,ptE,Nat.testBit_eq_decide_div_mod_eq])<;>exact rfl));simp only[addFl])|((with_reducible first|apply zai|apply zak|apply zah|apply zaf|apply zac|apply zaj|apply zag|apply zam|(apply zae;· simp[*,zaa])|(apply zab;· simp[*,zaa]));try simp only[Then,Ops,OutB])|simp only[Nat.reduceEqDiff,reduceIte,OutB,Then]))
   obtain ⟨fin,hst,hG0,hlen,hbl,hql,hx⟩:=HF.out
   refine ⟨by first|rfl|trivial,fin (G.set ql (.cells (stCs (T.set m (p,h - y))))++[.cells [.int .i64 (h - y)],.cells [.int .i64 (h - y)]]) _ (G.length+1) rfl (fun q' x h1 h2 h3=>(h3.set _ (Ne.symm h2)).app _) (by simp) ((hst.here _).app _) (by omega) (hb (by rw[List.getElem?_append_right (by simp)];simp[ints])) _ ?_⟩
   unfold trIn
   (refine st_is ?_ ?_ ?_ ?_;(focus (simp[zap,zaq]));(focus rfl);(focus (first|rfl|(simp;done)|(simp[*];done)|(simp;rfl)|(simp[*];omega)|(simp;omega)));(focus (first|rfl|simp)))
  |some q l1 h1=>
   have h1':=h1
   obtain ⟨Q1,Q2,Q3⟩:=h1
   have n1:ql≠q:=by have:=HF.out.2.2.2.1;have:=HF.out.2.2.2.2.2.1;omega
   have n2:¬ (q<H.length):=by have:=HF.out.2.2.1;omega
   have n3:¬ (q=ql):=Ne.symm n1
   have n4:¬ (q=G.length):=by omega
   have n5:∀ n,¬ (q=G.length+n):=fun n=>by omega
   have HQ:=hideP (And.intro h1' (And.intro l1 n1))
   clear h1' n1 n3 l1
   have n1:ql≠q:=HQ.out.2.2
   (repeat (first|((with_reducible apply zad);(focus ((with_reducible apply zar);(focus rfl);(focus rfl);(focus ((conv=>lhs;simp[*,List.getElem?_append_right,List.set_append_right,List.getElem?_cons_zero,List.getElem?_append_left,List.set_append_left,-getElem?_pos,↓zan,ptE,Nat.testBit_eq_decide_div_mod_eq])<;>exact rfl));(focus rfl);(focus rfl)));simp only[addFl])|(with_reducible apply zad;(focus ((conv=>lhs;simp[*,List.getElem?_append_right,List.set_append_right,List.getElem?_cons_zero,List.getElem?_append_left,List.set_append_left,-getElem?_pos,↓zan,ptE,Nat.testBit_eq_decide_div_mod_eq])<;>exact rfl));simp only[addFl])|((with_reducible first|apply zai|apply zak|apply zah|apply zaf|apply zac|apply zaj|apply zag|apply zam|(apply zae;· simp[*,zaa])|(apply zab;· simp[*,zaa]));try simp only[Then,Ops,OutB])|simp only[Nat.reduceEqDiff,reduceIte,OutB,Then]))
   obtain ⟨fin,hst,hG0,hlen,hbl,hql,hx⟩:=HF.out
   have l1:=HQ.out.2.1
   refine ⟨by first|rfl|trivial,fin ((G.set ql (.cells (stCs (T.set m (p,h - y))))).set q .dead++[.cells [.int .i64 (h - y)],.cells (ints B++[.int .i64 (h - y)])]) _ (G.length+1) rfl (fun q' x h1 h2 h3=>((h3.set _ (Ne.symm h2)).set _ (by omega)).app _) (by simp) (((hst.here _).set _ (Ne.symm n1)).app _) (by omega) (hb (by rw[List.getElem?_append_right (by simp)];simp[ints])) _ ?_⟩
   unfold trIn
   (refine st_is ?_ ?_ ?_ ?_;(focus (simp[zap,zaq]));(focus rfl);(focus (first|rfl|(simp;done)|(simp[*];done)|(simp;rfl)|(simp[*];omega)|(simp;omega)));(focus (first|rfl|simp)))
 ·obtain ⟨w1,w2⟩:=wrest hk
  have hne:=hrest hk
  clear hmT htm wsub wrest hsame hrest hpass hskb hskn hvk hx hsk
  subst hne
  unfold af24 Zq Zm Zl Zo Zs Zd Ze Zc Zt Zn Zi trIn
  simp only[atP,roadCs] at *
  cases hT with
  |none h0=>
   subst h0
   clear hplr hbi hil
   (repeat (first|((with_reducible apply zad);(focus ((with_reducible apply zar);(focus rfl);(focus rfl);(focus ((conv=>lhs;simp[*,List.getElem?_append_right,List.set_append_right,List.getElem?_cons_zero,List.getElem?_append_left,List.set_append_left,-getElem?_pos,↓zan,ptE,Nat.testBit_eq_decide_div_mod_eq])<;>exact rfl));(focus rfl);(focus rfl)));simp only[addFl])|(with_reducible apply zad;(focus ((conv=>lhs;simp[*,List.getElem?_append_right,List.set_append_right,List.getElem?_cons_zero,List.getElem?_append_left,List.set_append_left,-getElem?_pos,↓zan,ptE,Nat.testBit_eq_decide_div_mod_eq])<;>exact rfl));simp only[addFl])|((with_reducible first|apply zai|apply zak|apply zah|apply zaf|apply zac|apply zaj|apply zag|apply zam|(apply zae;· simp[*,zaa])|(apply zab;· simp[*,zaa]));try simp only[Then,Ops,OutB])|simp only[Nat.reduceEqDiff,reduceIte,OutB,Then]))
   obtain ⟨fin,hst,hG0,hlen,hbl,hql,hx⟩:=HF.out
   refine ⟨by first|rfl|trivial,fin (G.set ql (.cells (stCs (T.set m (p,min pt.full (h+v.days * p.rise)))))++[.cells [.int .i64 (min pt.full (h+v.days * p.rise))],.cells [.int .i64 (min pt.full (h+v.days * p.rise))]]) _ (G.length+1) rfl (fun q' x h1 h2 h3=>(h3.set _ (Ne.symm h2)).app _) (by simp) ((hst.here _).app _) (by omega) (hb (by rw[List.getElem?_append_right (by simp)];simp[ints])) _ ?_⟩
   unfold trIn
   (refine st_is ?_ ?_ ?_ ?_;(focus (simp[zap,zaq]));(focus rfl);(focus (first|rfl|(simp;done)|(simp[*];done)|(simp;rfl)|(simp[*];omega)|(simp;omega)));(focus (first|rfl|simp)))
  |some q l1 h1=>
   have h1':=h1
   obtain ⟨Q1,Q2,Q3⟩:=h1
   have n1:ql≠q:=by have:=HF.out.2.2.2.1;have:=HF.out.2.2.2.2.2.1;omega
   have n2:¬ (q<H.length):=by have:=HF.out.2.2.1;omega
   have n3:¬ (q=ql):=Ne.symm n1
   have n4:¬ (q=G.length):=by omega
   have n5:∀ n,¬ (q=G.length+n):=fun n=>by omega
   have HQ:=hideP (And.intro h1' (And.intro l1 n1))
   clear h1' n1 n3 l1
   have n1:ql≠q:=HQ.out.2.2
   (repeat (first|((with_reducible apply zad);(focus ((with_reducible apply zar);(focus rfl);(focus rfl);(focus ((conv=>lhs;simp[*,List.getElem?_append_right,List.set_append_right,List.getElem?_cons_zero,List.getElem?_append_left,List.set_append_left,-getElem?_pos,↓zan,ptE,Nat.testBit_eq_decide_div_mod_eq])<;>exact rfl));(focus rfl);(focus rfl)));simp only[addFl])|(with_reducible apply zad;(focus ((conv=>lhs;simp[*,List.getElem?_append_right,List.set_append_right,List.getElem?_cons_zero,List.getElem?_append_left,List.set_append_left,-getElem?_pos,↓zan,ptE,Nat.testBit_eq_decide_div_mod_eq])<;>exact rfl));simp only[addFl])|((with_reducible first|apply zai|apply zak|apply zah|apply zaf|apply zac|apply zaj|apply zag|apply zam|(apply zae;· simp[*,zaa])|(apply zab;· simp[*,zaa]));try simp only[Then,Ops,OutB])|simp only[Nat.reduceEqDiff,reduceIte,OutB,Then]))
   obtain ⟨fin,hst,hG0,hlen,hbl,hql,hx⟩:=HF.out
   have l1:=HQ.out.2.1
   refine ⟨by first|rfl|trivial,fin ((G.set ql (.cells (stCs (T.set m (p,min pt.full (h+v.days * p.rise)))))).set q .dead++[.cells [.int .i64 (min pt.full (h+v.days * p.rise))],.cells (ints B++[.int .i64 (min pt.full (h+v.days * p.rise))])]) _ (G.length+1) rfl (fun q' x h1 h2 h3=>((h3.set _ (Ne.symm h2)).set _ (by omega)).app _) (by simp) (((hst.here _).set _ (Ne.symm n1)).app _) (by omega) (hb (by rw[List.getElem?_append_right (by simp)];simp[ints])) _ ?_⟩
   unfold trIn
   (refine st_is ?_ ?_ ?_ ?_;(focus (simp[zap,zaq]));(focus rfl);(focus (first|rfl|(simp;done)|(simp[*];done)|(simp;rfl)|(simp[*];omega)|(simp;omega)));(focus (first|rfl|simp)))
 ·have hne:=hsame (by omega) (by omega)
  clear wsub wrest hsame hrest hpass hskb hskn hvk hx hsk
  subst hne
  have hTs:T=T.set m (p,n):=by
   apply List.ext_getElem?
   intro j
   rw[List.getElem?_set]
   by_cases hj:m=j
   ·subst hj
    rw[if_pos rfl,if_pos hmT,htm]
   ·rw[if_neg hj]
  have HS:=hideP hTs
  clear hTs hmT htm hset s3 s3' hl3'
  unfold af24 Zq Zm Zl Zo Zs Zd Ze Zc Zt Zn Zi trIn
  simp only[atP,roadCs] at *
  cases hT with
  |none h0=>
   subst h0
   clear hplr hbi hil
   (repeat (first|((with_reducible apply zad);(focus ((with_reducible apply zar);(focus rfl);(focus rfl);(focus ((conv=>lhs;simp[*,List.getElem?_append_right,List.set_append_right,List.getElem?_cons_zero,List.getElem?_append_left,List.set_append_left,-getElem?_pos,↓zan,ptE,Nat.testBit_eq_decide_div_mod_eq])<;>exact rfl));(focus rfl);(focus rfl)));simp only[addFl])|(with_reducible apply zad;(focus ((conv=>lhs;simp[*,List.getElem?_append_right,List.set_append_right,List.getElem?_cons_zero,List.getElem?_append_left,List.set_append_left,-getElem?_pos,↓zan,ptE,Nat.testBit_eq_decide_div_mod_eq])<;>exact rfl));simp only[addFl])|((with_reducible first|apply zai|apply zak|apply zah|apply zaf|apply zac|apply zaj|apply zag|apply zam|(apply zae;· simp[*,zaa])|(apply zab;· simp[*,zaa]));try simp only[Then,Ops,OutB])|simp only[Nat.reduceEqDiff,reduceIte,OutB,Then]))
   obtain ⟨fin,hst,hG0,hlen,hbl,hql,hx⟩:=HF.out
   refine ⟨by first|rfl|trivial,fin (G++[.cells [.int .i64 (n)],.cells [.int .i64 (n)]]) _ (G.length+1) HS.out (fun q' x h1 h2 h3=>h3.app _) (by simp) (hst.app _) (by omega) (hb (by rw[List.getElem?_append_right (by simp)];simp[ints])) _ ?_⟩
   unfold trIn
   (refine st_is ?_ ?_ ?_ ?_;(focus (simp[zap,zaq]));(focus rfl);(focus (first|rfl|(simp;done)|(simp[*];done)|(simp;rfl)|(simp[*];omega)|(simp;omega)));(focus (first|rfl|simp)))
  |some q l1 h1=>
   have h1':=h1
   obtain ⟨Q1,Q2,Q3⟩:=h1
   have n1:ql≠q:=by have:=HF.out.2.2.2.1;have:=HF.out.2.2.2.2.2.1;omega
   have n2:¬ (q<H.length):=by have:=HF.out.2.2.1;omega
   have n3:¬ (q=ql):=Ne.symm n1
   have n4:¬ (q=G.length):=by omega
   have n5:∀ n,¬ (q=G.length+n):=fun n=>by omega
   have HQ:=hideP (And.intro h1' (And.intro l1 n1))
   clear h1' n1 n3 l1
   have n1:ql≠q:=HQ.out.2.2
   (repeat (first|((with_reducible apply zad);(focus ((with_reducible apply zar);(focus rfl);(focus rfl);(focus ((conv=>lhs;simp[*,List.getElem?_append_right,List.set_append_right,List.getElem?_cons_zero,List.getElem?_append_left,List.set_append_left,-getElem?_pos,↓zan,ptE,Nat.testBit_eq_decide_div_mod_eq])<;>exact rfl));(focus rfl);(focus rfl)));simp only[addFl])|(with_reducible apply zad;(focus ((conv=>lhs;simp[*,List.getElem?_append_right,List.set_append_right,List.getElem?_cons_zero,List.getElem?_append_left,List.set_append_left,-getElem?_pos,↓zan,ptE,Nat.testBit_eq_decide_div_mod_eq])<;>exact rfl));simp only[addFl])|((with_reducible first|apply zai|apply zak|apply zah|apply zaf|apply zac|apply zaj|apply zag|apply zam|(apply zae;· simp[*,zaa])|(apply zab;· simp[*,zaa]));try simp only[Then,Ops,OutB])|simp only[Nat.reduceEqDiff,reduceIte,OutB,Then]))
   obtain ⟨fin,hst,hG0,hlen,hbl,hql,hx⟩:=HF.out
   have l1:=HQ.out.2.1
   refine ⟨by first|rfl|trivial,fin (G.set q .dead++[.cells [.int .i64 (n)],.cells (ints B++[.int .i64 (n)])]) _ (G.length+1) HS.out (fun q' x h1 h2 h3=>(h3.set _ (by omega)).app _) (by simp) ((hst.set _ (Ne.symm n1)).app _) (by omega) (hb (by rw[List.getElem?_append_right (by simp)];simp[ints])) _ ?_⟩
   unfold trIn
   (refine st_is ?_ ?_ ?_ ?_;(focus (simp[zap,zaq]));(focus rfl);(focus (first|rfl|(simp;done)|(simp[*];done)|(simp;rfl)|(simp[*];omega)|(simp;omega)));(focus (first|rfl|simp)))
end Ro
end Ev
end Go.Proofs.Ytlcjlcllbgjplaa

/- RoadTrue, gone through: an event. -/
namespace Go.Proofs.Ytlcjlcllbgjplaa
open Go
namespace Rd
def curT (r:Road)(ps:List (Tr × Int))(ls:List Int)(i:Nat):List (Tr × Int):=ps.map fun q=>(q.1,heightR r q.1 q.2 ls i)
def htsOf (r:Road)(ps:List (Tr × Int))(ls:List Int)(i:Nat):List (List Int):=(List.range i).map fun j=>nowR r ps ls (j+1)
theorem hts_snoc {r:Road}{ps:List (Tr × Int)}{ls:List Int}{i:Nat}(h:ls.length=i)(k:Int):htsOf r ps (ls++[k]) (i+1)=htsOf r ps ls i++[nowR r ps (ls++[k]) (i+1)]:=by
 unfold htsOf
 rw[List.range_succ,List.map_append,List.map_cons,List.map_nil]
 congr 1
 refine List.map_congr_left fun j hj=>?_
 have:=List.mem_range.1 hj
 exact now_ls r ps ls [k] (by omega)
theorem cur_step {r:Road}(hr:Fine r){ps:List (Tr × Int)}(hp:Parts r ps){i:Nat}{ls:List Int}{xs:List Evt}(h:Truth r ps i ls xs){v:Evt}(hv:r.events[i]?=some v)(x:Int):∀ j,j<r.parts.length→∃ p f,(curT r ps ls i)[j]?=some (p,f)∧(curT r ps (ls++[x]) (i+1))[j]?=some (p,stepE v p f x)∧1≤p.stiff∧p.stiff≤10∧0≤p.rise∧p.rise≤5∧-600≤f∧f≤60∧p.full=(r.parts.getD j default).full:=by
 intro j hj
 obtain ⟨q,hq⟩:∃ q,ps[j]?=some q:=⟨_,List.getElem?_eq_getElem (by rw[hp.1];exact hj)⟩
 obtain ⟨b1,b2,b3,b4,b5,b6,b7,b8⟩:=parts_bound hr hp hq
 have hi:=(List.getElem?_eq_some_iff.1 hv).1
 obtain ⟨n1,n2⟩:=now_bound hr hp h (by omega) i (now_get (r:=r) (ls:=ls) (m:=i) hq)
 refine ⟨q.1,heightR r q.1 q.2 ls i,?_,?_,b1,b2,b3,b4,n1,n2,b8⟩
 ·unfold curT;rw[List.getElem?_map,hq];rfl
 ·unfold curT;rw[List.getElem?_map,hq,Option.map_some,zgw hv _ _ h.ll]
end Rd
namespace Ev
namespace Ro
open K
attribute [local simp] ev1 wantG spineK spine float xnew xval xeff zaa zas zbc zaw zav addFl cellsOf pickC alive slLen slFt binI maxA maxK minA minK aeqK aeqS AV.cells spA zat fillA setAt bitsI nat_nn zbd AV.plain apart
set_option maxRecDepth 100000
set_option maxHeartbeats 4000000
def HtE (lo qe ql np q:Nat)(G:List AB)(hss:List (List Int))(vs:List AV):Prop:=vs.length=hss.length∧∀ (j:Nat) (B:List Int),hss[j]?=some B→∃ p,vs[j]?=some (.sl p 0 np 1)∧lo≤p∧p≠qe∧p≠ql∧p≠q∧HB G p (.cells (ints B))
inductive Hts (lo qe ql np:Nat) (G:List AB) (hss:List (List Int)):AV→Prop
 |none:hss=[]→Hts lo qe ql np G hss .nils
 |some (q:Nat) (vs:List AV):lo≤q→q≠qe→q≠ql→HB G q (.cells vs)→vs.all AV.plain=true→HtE lo qe ql np q G hss vs→Hts lo qe ql np G hss (.sl q 0 hss.length 1)
theorem HtE.keep {lo qe ql np q q':Nat}{G G':List AB}{hss:List (List Int)}{vs:List AV}(h:HtE lo qe ql np q G hss vs)(hq:G.length≤q')(hm:∀ p x,lo≤p→p≠qe→p≠ql→p≠q→HB G p x→HB G' p x):HtE lo qe ql np q' G' hss vs:=by
 refine ⟨h.1,fun j B hB=>?_⟩
 obtain ⟨p,h1,h2,h3,h4,h5,h6⟩:=h.2 j B hB
 exact ⟨p,h1,h2,h3,h4,by have:=h6.lt;omega,hm p _ h2 h3 h4 h5 h6⟩
theorem HtE.keep' {lo qe ql np q:Nat}{G G':List AB}{hss:List (List Int)}{vs:List AV}(h:HtE lo qe ql np q G hss vs)(hm:∀ p x,lo≤p→p≠qe→p≠ql→HB G p x→HB G' p x):HtE lo qe ql np q G' hss vs:=by
 refine ⟨h.1,fun j B hB=>?_⟩
 obtain ⟨p,h1,h2,h3,h4,h5,h6⟩:=h.2 j B hB
 exact ⟨p,h1,h2,h3,h4,h5,hm p _ h2 h3 h4 h6⟩
theorem Hts.keep {lo qe ql np:Nat}{G G':List AB}{hss:List (List Int)}{v:AV}(h:Hts lo qe ql np G hss v)(hm:∀ p x,lo≤p→p≠qe→p≠ql→HB G p x→HB G' p x):Hts lo qe ql np G' hss v:=by
 cases h with
 |none h=>exact .none h
 |some q vs h1 h2 h3 h4 h5 h6=>exact .some q vs h1 h2 h3 (hm q _ h1 h2 h3 h4) h5 (h6.keep' hm)
theorem HtE.snoc {lo qe ql np q p:Nat}{G:List AB}{hss:List (List Int)}{vs:List AV}(h:HtE lo qe ql np q G hss vs){B:List Int}(h1:lo≤p)(h2:p≠qe)(h3:p≠ql)(h4:p≠q)(h5:HB G p (.cells (ints B))):HtE lo qe ql np q G (hss++[B]) (vs++[.sl p 0 np 1]):=by
 refine ⟨by simp[h.1],fun j B' hB=>?_⟩
 by_cases hj:j<hss.length
 ·rw[List.getElem?_append_left hj] at hB
  obtain ⟨p',g1,g2⟩:=h.2 j B' hB
  exact ⟨p',by rw[List.getElem?_append_left (by rw[h.1];exact hj)];exact g1,g2⟩
 ·have hj2:=(List.getElem?_eq_some_iff.1 hB).1
  rw[List.length_append,List.length_singleton] at hj2
  have e:j=hss.length:=by omega
  subst e
  rw[List.getElem?_append_right (Nat.le_refl _),Nat.sub_self] at hB
  obtain rfl:=Option.some.inj hB
  exact ⟨p,by rw[List.getElem?_append_right (by rw[h.1];exact Nat.le_refl _),h.1,Nat.sub_self];rfl,h1,h2,h3,h4,h5⟩
structure T2 (H:List AB) (r:Rd.Road) (ns:List Int) (b u qe ql:Nat) (ps:List (Rd.Tr × Int)) (G:List AB) (i:Nat) (xs:List Rd.Evt) (ls:List Int) (k:Int) (hv:AV):Prop where
 b:HB G b (.cells [.int .i64 k])
 u:HB G u (.cells [.vs 1 (ns.map (AV.int .u16))])
 c0:HB G H.length (.cells (roadCs r))
 c1:HB G (H.length+1) (.cells [.vs 7 (r.parts.map ptE),.sl qe 0 r.events.length 7])
 e:HB G qe (.cells (evCs xs))
 l:HB G ql (.cells (stCs (Rd.curT r ps ls i)))
 le:H.length+2≤qe
 l2:H.length+2≤ql
 n:qe≠ql
 k0:0≤k
 hs:Hts (H.length+2) qe ql r.parts.length G (Rd.htsOf r ps ls i) hv
 tr:Rd.Truth r ps i ls xs
theorem zlb:∀ (xs:List Rd.Evt) (i:Nat) (v:Rd.Evt) (a b:Int),xs[i]?=some v→(evCs xs).take (i * 7+5)++.int .i64 a::.int .i64 b::(evCs xs).drop (i * 7+7)=evCs (xs.set i ⟨v.kind,v.load,v.days,v.part,⟨a,b⟩⟩)
 |[],i,v,a,b,h=>by simp at h
 |e::l,0,v,a,b,h=>by
  simp only[List.getElem?_cons_zero,Option.some.injEq] at h
  subst h
  simp[evCs]
 |e::l,i+1,v,a,b,h=>by
  have ih:=zlb l i v a b (by simpa using h)
  rw[show (i+1) * 7+5=i * 7+5+1+1+1+1+1+1+1 by omega,show (i+1) * 7+7=i * 7+7+1+1+1+1+1+1+1 by omega]
  simpa [evCs] using ih
theorem zgu (C:Cfg)(hC:C.calm=true)(call:CallF)(hS:LSunkC call)(hsp:LSpanC call)(r:Rd.Road)(hf:Rd.Fine r)(ns:List Int)(H:List AB)(b u qe ql a10 i:Nat)(ps:List (Rd.Tr × Int))(hps:Rd.Parts r ps)(v:Rd.Evt)(hv:r.events[i]?=some v)(x:Int)(hx0:v.kind=0→v.load.has x)(hx1:v.kind≠0→x=0)
  (hbH:b<H.length) (huH:u<H.length) (G0:List AB) (h10:a10≠ql∧a10≠qe) (hA0:HB G0 a10 (.cells [.int .i64 v.kind,.int .i64 v.load.lo,.int .i64 v.load.hi,.int .i64 v.days,.int .i64 v.part,.int .i64 v.shows.lo,.int .i64 v.shows.hi])) (xs:List Rd.Evt) (ls:List Int) (k:Int) (hvv:AV) (hI:T2 H r ns b u qe ql ps G0 i xs ls k hvv) (tcs:List Nat)
  (L:List (Nat × AV)) (L1:lk 151 L 1=.fn (.func 77) [] [.ptr b 0,.ptr u 0]) (L2:lk 151 L 2=.ptr H.length 0) (L4:lk 151 L 4=.ptr (H.length+1) 0) (L5:lk 151 L 5=.sl ql 0 r.parts.length 3) (L6:lk 151 L 6=hvv) (L9:lk 151 L 9=.int .i64 i) (L10:lk 151 L 10=.ptr a10 0) (L11:lk 151 L 11=.int .i64 x) (L47:lk 151 L 47=.vs 7 (r.events.map evE)) (L48:lk 151 L 48=.int .i64 r.events.length) (L49:lk 151 L 49=.int .i64 i):
  Does (ev C call H.length none (atP [1,1,1,1,0,1,0,0,1,1,0,0,1,1,1] af24.body) { tm:=tmA 151 L,df:=[],hp:=G0,tc:=tcs })
   (fun e st=>e=.normal∧∃ G xs hvv L,T2 H r ns b u qe ql ps G (i+1) xs (ls++[x]) k hvv∧lk 151 L 1=.fn (.func 77) [] [.ptr b 0,.ptr u 0]∧lk 151 L 2=.ptr H.length 0∧lk 151 L 4=.ptr (H.length+1) 0∧lk 151 L 5=.sl ql 0 r.parts.length 3∧lk 151 L 6=hvv∧lk 151 L 47=.vs 7 (r.events.map evE)∧lk 151 L 48=.int .i64 r.events.length∧lk 151 L 49=.int .i64 i∧st={ tm:=tmA 151 L,df:=[],hp:=G,tc:=tcs }):=by
 have m1:val C (tmA 151 L) (.tmp 1)=.fn (.func 77) [] [.ptr b 0,.ptr u 0]:=L1
 have m2:val C (tmA 151 L) (.tmp 2)=.ptr H.length 0:=L2
 have m4:val C (tmA 151 L) (.tmp 4)=.ptr (H.length+1) 0:=L4
 have m5:val C (tmA 151 L) (.tmp 5)=.sl ql 0 r.parts.length 3:=L5
 have m6:val C (tmA 151 L) (.tmp 6)=hvv:=L6
 have m9:val C (tmA 151 L) (.tmp 9)=.int .i64 i:=L9
 have m10:val C (tmA 151 L) (.tmp 10)=.ptr a10 0:=L10
 have m11:val C (tmA 151 L) (.tmp 11)=.int .i64 x:=L11
 have hstep:=Rd.cur_step hf hps hI.tr hv x
 have hvo:=hf.event v (List.mem_of_getElem? hv)
 have hi:=(List.getElem?_eq_some_iff.1 hv).1
 have he10:=hf.events
 have hp4:=hf.parts
 have hx:0≤x∧x≤60:=by
  by_cases h:v.kind=0
  ·have:=hx0 h
   simp only[Clm.Sp.has] at this
   omega
  ·rw[hx1 h];omega
 obtain ⟨D1,D2,D3⟩:=hI.l
 have hl3:(stCs (Rd.curT r ps ls i)).length=r.parts.length * 3:=by rw[zea];unfold Rd.curT;rw[List.length_map,hps.1]
 have HX:=hideP (And.intro hI (And.intro hstep (And.intro hvo (And.intro hf (And.intro hsp hA0)))))
 clear hI hstep hvo hf hA0 hsp
 unfold af24 Zq Zm Zl Zo Zs Zd Ze Zc Zt Zn Zi
 simp only[atP]
 (repeat (first|((with_reducible apply zad);(focus ((with_reducible apply zar);(focus rfl);(focus rfl);(focus ((conv=>lhs;simp[*,List.getElem?_append_right,List.set_append_right,List.getElem?_cons_zero,List.getElem?_append_left,List.set_append_left,-getElem?_pos,Nat.testBit_eq_decide_div_mod_eq])<;>exact rfl));(focus rfl);(focus rfl)));simp only[addFl])|(with_reducible apply zad;(focus ((conv=>lhs;simp[*,List.getElem?_append_right,List.set_append_right,List.getElem?_cons_zero,List.getElem?_append_left,List.set_append_left,-getElem?_pos,Nat.testBit_eq_decide_div_mod_eq])<;>exact rfl));simp only[addFl])|((with_reducible first|apply zai|apply zak|apply zah|apply zaf|apply zac|apply zaj|apply zag|apply zam|(apply zae;· simp[*,zaa])|(apply zab;· simp[*,zaa]));try simp only[Then,Ops])|simp only[Nat.reduceEqDiff,reduceIte,OutB,Then]))
 with_reducible refine zba hC r.parts.length (by unfold fuelL;omega) (fun m st=>∃ G T B tv,TI ql r.parts.length G0 (Rd.curT r ps ls i) (Rd.curT r ps (ls++[x]) (i+1)) G m T B∧One1 G0.length G B tv∧st=trIn H r b u ql a10 i x hvv tv m G tcs) ?_ ?_ ?_
 ·obtain ⟨hI,hstep,hvo,hf,hsp,hA0⟩:=HX.out
  refine ⟨G0,_,[],.nils,⟨fun q x _ _ h=>h,Nat.le_refl _,hI.l,?_,fun j h=>absurd h (by omega),fun j _=>rfl,rfl,fun j q h=>absurd h (by omega)⟩,.none rfl,?_⟩
  ·unfold Rd.curT;rw[List.length_map,hps.1]
  ·unfold trIn
   exact st_eq (by simp[*,zap,zaq]) rfl rfl rfl
 ·rintro m st hm ⟨G,T,B,tv,hT,hO,rfl⟩
  obtain ⟨hI,hstep,hvo,hf,hsp,hA0⟩:=HX.out
  refine (zlw C call hS r hf H b u ql a10 i v (by omega) x hx hvv tv m hm G0 G (by have:=hI.e.lt;have:=hI.c1.lt;omega) ⟨by have:=hI.l2;omega,hI.l.lt⟩ (by have:=hI.l2;omega) ⟨hA0.lt,h10.1⟩ hA0 hI.c0 tcs _ _ T B hstep hT hO).mono ?_
  rintro e st ⟨rfl,h⟩
  exact h
 ·rintro st ⟨G,T,B,tv,hT,hO,rfl⟩
  obtain ⟨hI,hstep,hvo,hf,hsp,hA0⟩:=HX.out
  obtain ⟨hkeep,hlen,hstH,hlt,hnew,-,hbl,hbv⟩:=hT
  have hll:=hI.tr.ll
  -- all parts
  have hcl:(Rd.curT r ps (ls++[x]) (i+1)).length=r.parts.length:=by unfold Rd.curT;rw[List.length_map,hps.1]
  have hTe:T=Rd.curT r ps (ls++[x]) (i+1):=by
   apply List.ext_getElem?
   intro j
   by_cases hj:j<r.parts.length
   ·exact hnew j hj
   ·rw[List.getElem?_eq_none_iff.2 (by omega),List.getElem?_eq_none_iff.2 (by omega)]
  have hBe:B=Rd.nowR r ps (ls++[x]) (i+1):=by
   apply List.ext_getElem?
   intro j
   by_cases hj:j<r.parts.length
   ·obtain ⟨q,hq⟩:∃ q,ps[j]?=some q:=⟨_,List.getElem?_eq_getElem (by rw[hps.1];exact hj)⟩
    rw[hbv j (q.1,Rd.heightR r q.1 q.2 (ls++[x]) (i+1)) hj (by unfold Rd.curT;rw[List.getElem?_map,hq];rfl),Rd.now_get hq]
   ·rw[List.getElem?_eq_none_iff.2 (by omega),List.getElem?_eq_none_iff.2 (by unfold Rd.nowR;rw[List.length_map,hps.1];omega)]
  have htr:=Rd.truth_step hI.tr hv x hx0 hx1
  rw[← hBe] at htr
  subst hTe
  have hhs:=Rd.hts_snoc (r:=r) (ps:=ps) hll x
  rw[← hBe] at hhs
  have hnb:∀ (j:Nat) (n:Int),B[j]?=some n→-600≤n∧n≤60:=fun j n hn=>Rd.now_bound hf hps htr (by omega) (i+1) (by rw[← hBe];exact hn)
  cases hO with
  |none h0=>rw[h0] at hbl;simp at hbl;omega
  |some q l1 hq=>
  rw[hbl]
  -- what is left behind
  have hkp:∀ p y,p<H.length+2→HB G0 p y→HB G p y:=fun p y h1 h2=>hkeep p y h2.lt (by have:=hI.l2;omega) h2
  have fin:∀ (G2:List AB) (hv':AV) (xs':List Rd.Evt),xs'=(if v.kind=2 then xs.set i (Rd.seenE v (B.getD v.part.toNat 0)) else xs)→(∀ p y,p<H.length+2→HB G p y→HB G2 p y)→HB G2 qe (.cells (evCs xs'))→HB G2 ql (.cells (stCs (Rd.curT r ps (ls++[x]) (i+1))))→Hts (H.length+2) qe ql r.parts.length G2 (Rd.htsOf r ps ls i++[B]) hv'→T2 H r ns b u qe ql ps G2 (i+1) xs' (ls++[x]) k hv':=fun G2 hv' xs' f0 f1 f2 f3 f4=>by
   subst f0
   exact ⟨f1 _ _ (by omega) (hkp _ _ (by omega) hI.b),f1 _ _ (by omega) (hkp _ _ (by omega) hI.u),f1 _ _ (by omega) (hkp _ _ (by omega) hI.c0),f1 _ _ (by omega) (hkp _ _ (by omega) hI.c1),f2,f3,hI.le,hI.l2,hI.n,hI.k0,by rw[hhs];exact f4,htr⟩
  have hhl:(Rd.htsOf r ps ls i).length=i:=by simp[Rd.htsOf]
  have hHs:=hI.hs
  have hE:=hkeep _ _ hI.e.lt hI.n hI.e
  have hC1:=hkp _ _ (by omega) hI.c1
  have hA:=hkeep _ _ hA0.lt h10.1 hA0
  have hxi:xs[i]?=some v:=by rw[hI.tr.rest i (Nat.le_refl _),hv]
  have hxl:=hI.tr.xl
  have hqG:=hq.lt
  have hg0e:=hI.e.lt
  have hg0l:=hI.l.lt
  have hle:=hI.le
  have hl2:=hI.l2
  have hne:=hI.n
  have hq':=hq
  have hE':=hE
  obtain ⟨Q1,Q2,Q3⟩:=hq
  obtain ⟨E1,E2,E3⟩:=hE
  obtain ⟨C1,C2,C3⟩:=hC1
  obtain ⟨A1,A2,A3⟩:=hA
  have nq1:¬ (q<H.length):=by omega
  have nq2:q≠qe:=by omega
  have nq3:q≠ql:=by omega
  have ne1:¬ (qe<H.length):=by omega
  have gG:¬ (G.length<H.length):=by omega
  have gG':∀ n,¬ (G.length+n<H.length):=fun n=>by omega
  have ge1:¬ (qe=G.length):=by omega
  have ge2:∀ n,¬ (qe=G.length+n):=fun n=>by omega
  have gc1:qe≠H.length+1:=by omega
  have ga1:qe≠a10:=Ne.symm h10.2
  have hb1:1≤bound:=by decide
  have hbi:i+1≤bound:=by unfold bound;omega
  have hil:(ints B).length=r.parts.length:=by simp[ints,hbl]
  have hel:(evCs xs).length=r.events.length * 7:=by rw[zef,hxl]
  have e7:i * 7+5+2≤r.events.length * 7:=by omega
  have ei:(i:Int)<r.events.length:=by omega
  have HF:=hideP (And.intro fin (And.intro hstH (And.intro hq' (And.intro hE' (And.intro hkeep (And.intro hle (And.intro hl2 (And.intro hne (And.intro l1 hlen)))))))))
  have HB':=hideP (And.intro hbl hnb)
  clear fin hstH hq' hE' hI hstep hf hA0 hkeep hlt hnew hbv hll hcl hBe htr hhs hnb hkp hbl
  by_cases hk:v.kind=2
  ·obtain ⟨P,hP⟩:∃ P:Nat,v.part=P:=⟨v.part.toNat,by omega⟩
   have hPl:P<r.parts.length:=by omega
   obtain ⟨n,hn⟩:∃ n,B.getD P 0=n:=⟨_,rfl⟩
   have hBP:B[P]?=some n:=by rw[← hn,List.getD_eq_getElem?_getD,List.getElem?_eq_getElem (by rw[HB'.out.1];exact hPl)];rfl
   have hnn:=HB'.out.2 P n hBP
   have hiP:(ints B)[P]?=some (.int .i64 n):=by simp[ints,hBP]
   have hiP':=ge_of hiP
   have ePl:(P:Int)<r.parts.length:=by omega
   have w1:IntKind.i64.wrap (v.shows.hi - v.shows.lo)=v.shows.hi - v.shows.lo:=zau (by omega) (by omega)
   have w2:IntKind.i64.wrap (n - min 2 (v.shows.hi - v.shows.lo))=n - min 2 (v.shows.hi - v.shows.lo):=zau (by omega) (by omega)
   have hs2:=fun H=>hsp H (n - min 2 (v.shows.hi - v.shows.lo)) n
   have hset:=zlb xs i v (n - min 2 (v.shows.hi - v.shows.lo)) n hxi
   have hxs':xs.set i ⟨v.kind,v.load,v.days,v.part,⟨n - min 2 (v.shows.hi - v.shows.lo),n⟩⟩=(if v.kind=2 then xs.set i (Rd.seenE v (B.getD v.part.toNat 0)) else xs):=by rw[if_pos hk,show v.part.toNat=P by omega,hn];rfl
   generalize xs.set i ⟨v.kind,v.load,v.days,v.part,⟨n - min 2 (v.shows.hi - v.shows.lo),n⟩⟩=ys at hset hxs'
   have HY:=hideP hxs'
   rw[hP] at A1
   clear hxs' hnn hn hsp hvo hBP hx0 hx1 hxi hx hP hPl hS
   rw[hk] at A1
   unfold trIn
   cases hHs with
   |none h0=>
    clear hhl
    (repeat (first|((with_reducible apply zad);(focus ((with_reducible apply zar);(focus rfl);(focus rfl);(focus ((conv=>lhs;simp[*,List.getElem?_append_right,List.set_append_right,List.getElem?_cons_zero,List.getElem?_append_left,List.set_append_left,-getElem?_pos,↓zan,↓zaz,Nat.testBit_eq_decide_div_mod_eq])<;>exact rfl));(focus rfl);(focus rfl)));simp only[addFl])|(with_reducible apply zad;(focus ((conv=>lhs;simp[*,List.getElem?_append_right,List.set_append_right,List.getElem?_cons_zero,List.getElem?_append_left,List.set_append_left,-getElem?_pos,↓zan,↓zaz,Nat.testBit_eq_decide_div_mod_eq])<;>exact rfl));simp only[addFl])|((with_reducible first|apply zai|apply zak|apply zah|apply zaf|apply zac|apply zaj|apply zag|apply zam|(apply zae;· simp[*,zaa])|(apply zab;· simp[*,zaa]));try simp only[Then,Ops,OutB,reduceIte])|simp only[Nat.reduceEqDiff,reduceIte,OutB,Then]))
    obtain ⟨fin,hst,hq',hE',hkeep,hle,hl2,hne,l1,hlen⟩:=HF.out
    rw[h0] at fin
    have h4:=Hts.some (lo:=H.length+2) (qe:=qe) (ql:=ql) (np:=r.parts.length) (G:=G.set qe (.cells (evCs ys))++[.cells [.sl q 0 r.parts.length 1],(.cells [.sl q 0 r.parts.length 1])]) (hss:=[]++[B]) (G.length+1) [.sl q 0 r.parts.length 1] (by omega) (by omega) (by omega) (hb (by rw[List.getElem?_append_right (by simp)];simp)) rfl (HtE.snoc (hss:=[]) (vs:=[]) ⟨rfl,by simp⟩ (by omega) nq2 nq3 (by omega) ((hq'.set _ (Ne.symm nq2)).app _))
    have h5:=fin (G.set qe (.cells (evCs ys))++[.cells [.sl q 0 r.parts.length 1],(.cells [.sl q 0 r.parts.length 1])]) _ ys HY.out (fun p y h1 h2=>(h2.set _ (by omega)).app _) ((hE'.here _).app _) ((hst.set _ hne).app _) h4
    refine ⟨by first|rfl|trivial,_,_,_,_,h5,?_,?_,?_,?_,?_,?_,?_,?_,rfl⟩<;>simp[zaq]
   |some qh vs o1 o2 o3 o4 o5 o6=>
    have hvl:vs.length=i:=o6.1.trans hhl
    have o7:=o4.lt
    have nqh:qh≠q:=by have:=HF.out.2.2.2.2.2.2.2.2.1;omega
    have o4':=HF.out.2.2.2.2.1 _ _ o4.lt o3 o4
    obtain ⟨O1,O2,O3⟩:=o4'
    have nh1:¬ (qh<H.length):=by omega
    have nh2:¬ (qh=G.length):=by omega
    have nh3:∀ n,¬ (qh=G.length+n):=fun n=>by omega
    have nh4:qe≠qh:=Ne.symm o2
    have HO:=hideP (And.intro o1 (And.intro o3 (And.intro o4 (And.intro o6 (And.intro o7 (And.intro nqh nq3))))))
    clear o1 o3 o4 o6 o7
    simp only[hhl] at *
    (repeat (first|((with_reducible apply zad);(focus ((with_reducible apply zar);(focus rfl);(focus rfl);(focus ((conv=>lhs;simp[*,List.getElem?_append_right,List.set_append_right,List.getElem?_cons_zero,List.getElem?_append_left,List.set_append_left,-getElem?_pos,↓zan,↓zaz,Nat.testBit_eq_decide_div_mod_eq])<;>exact rfl));(focus rfl);(focus rfl)));simp only[addFl])|(with_reducible apply zad;(focus ((conv=>lhs;simp[*,List.getElem?_append_right,List.set_append_right,List.getElem?_cons_zero,List.getElem?_append_left,List.set_append_left,-getElem?_pos,↓zan,↓zaz,Nat.testBit_eq_decide_div_mod_eq])<;>exact rfl));simp only[addFl])|((with_reducible first|apply zai|apply zak|apply zah|apply zaf|apply zac|apply zaj|apply zag|apply zam|(apply zae;· simp[*,zaa])|(apply zab;· simp[*,zaa]));try simp only[Then,Ops,OutB,reduceIte])|simp only[Nat.reduceEqDiff,reduceIte,OutB,Then]))
    obtain ⟨o1,o3,o4,o6,o7,nqh,nq3⟩:=HO.out
    have hhl:(Rd.htsOf r ps ls i).length=i:=by simp[Rd.htsOf]
    obtain ⟨fin,hst,hq',hE',hkeep,hle,hl2,hne,l1,hlen⟩:=HF.out
    have h4:=Hts.some (lo:=H.length+2) (qe:=qe) (ql:=ql) (np:=r.parts.length) (G:=(G.set qe (.cells (evCs ys))).set qh .dead++[.cells [.sl q 0 r.parts.length 1],(.cells (vs++[.sl q 0 r.parts.length 1]))]) (hss:=Rd.htsOf r ps ls i++[B]) (G.length+1) (vs++[.sl q 0 r.parts.length 1]) (by omega) (by omega) (by omega) (hb (by rw[List.getElem?_append_right (by simp)];simp)) (by rw[List.all_append,o5];rfl) (HtE.snoc (o6.keep (q':=G.length+1) (by omega) fun p y h1 h2 h3 h4 h5=>(((hkeep p y h5.lt h3 h5).set _ (Ne.symm h2)).set _ (Ne.symm h4)).app _) (by omega) nq2 nq3 (by omega) (((hq'.set _ (Ne.symm nq2)).set _ nqh).app _))
    rw[List.length_append,hhl] at h4
    have h5:=fin ((G.set qe (.cells (evCs ys))).set qh .dead++[.cells [.sl q 0 r.parts.length 1],(.cells (vs++[.sl q 0 r.parts.length 1]))]) _ ys HY.out (fun p y h1 h2=>((h2.set _ (by omega)).set _ (by omega)).app _) (((hE'.here _).set _ o2).app _) (((hst.set _ hne).set _ o3).app _) h4
    refine ⟨by first|rfl|trivial,_,_,_,_,h5,?_,?_,?_,?_,?_,?_,?_,?_,rfl⟩<;>simp[zaq]
  ·have hk':(v.kind==2)=false:=beq_false_of_ne hk
   have hxs':xs=(if v.kind=2 then xs.set i (Rd.seenE v (B.getD v.part.toNat 0)) else xs):=by rw[if_neg hk]
   have HY:=hideP hxs'
   clear hxs' hsp hvo hx0 hx1 hxi hx hS hk
   unfold trIn
   cases hHs with
   |none h0=>
    clear hhl
    (repeat (first|((with_reducible apply zad);(focus ((with_reducible apply zar);(focus rfl);(focus rfl);(focus ((conv=>lhs;simp[*,List.getElem?_append_right,List.set_append_right,List.getElem?_cons_zero,List.getElem?_append_left,List.set_append_left,-getElem?_pos,↓zan,↓zaz,Nat.testBit_eq_decide_div_mod_eq])<;>exact rfl));(focus rfl);(focus rfl)));simp only[addFl])|(with_reducible apply zad;(focus ((conv=>lhs;simp[*,List.getElem?_append_right,List.set_append_right,List.getElem?_cons_zero,List.getElem?_append_left,List.set_append_left,-getElem?_pos,↓zan,↓zaz,Nat.testBit_eq_decide_div_mod_eq])<;>exact rfl));simp only[addFl])|((with_reducible first|apply zai|apply zak|apply zah|apply zaf|apply zac|apply zaj|apply zag|apply zam|(apply zae;· simp[*,zaa])|(apply zab;· simp[*,zaa]));try simp only[Then,Ops,OutB,reduceIte])|simp only[Nat.reduceEqDiff,reduceIte,OutB,Then]))
    obtain ⟨fin,hst,hq',hE',hkeep,hle,hl2,hne,l1,hlen⟩:=HF.out
    rw[h0] at fin
    have h4:=Hts.some (lo:=H.length+2) (qe:=qe) (ql:=ql) (np:=r.parts.length) (G:=G++[.cells [.sl q 0 r.parts.length 1],(.cells [.sl q 0 r.parts.length 1])]) (hss:=[]++[B]) (G.length+1) [.sl q 0 r.parts.length 1] (by omega) (by omega) (by omega) (hb (by rw[List.getElem?_append_right (by simp)];simp)) rfl (HtE.snoc (hss:=[]) (vs:=[]) ⟨rfl,by simp⟩ (by omega) nq2 nq3 (by omega) (hq'.app _))
    have h5:=fin (G++[.cells [.sl q 0 r.parts.length 1],(.cells [.sl q 0 r.parts.length 1])]) _ xs HY.out (fun p y h1 h2=>h2.app _) (hE'.app _) (hst.app _) h4
    refine ⟨by first|rfl|trivial,_,_,_,_,h5,?_,?_,?_,?_,?_,?_,?_,?_,rfl⟩<;>simp[zaq]
   |some qh vs o1 o2 o3 o4 o5 o6=>
    have hvl:vs.length=i:=o6.1.trans hhl
    have o7:=o4.lt
    have nqh:qh≠q:=by have:=HF.out.2.2.2.2.2.2.2.2.1;omega
    have o4':=HF.out.2.2.2.2.1 _ _ o4.lt o3 o4
    obtain ⟨O1,O2,O3⟩:=o4'
    have nh1:¬ (qh<H.length):=by omega
    have nh2:¬ (qh=G.length):=by omega
    have nh3:∀ n,¬ (qh=G.length+n):=fun n=>by omega
    have nh4:qe≠qh:=Ne.symm o2
    have HO:=hideP (And.intro o1 (And.intro o3 (And.intro o4 (And.intro o6 (And.intro o7 (And.intro nqh nq3))))))
    clear o1 o3 o4 o6 o7
    simp only[hhl] at *
    (repeat (first|((with_reducible apply zad);(focus ((with_reducible apply zar);(focus rfl);(focus rfl);(focus ((conv=>lhs;simp[*,List.getElem?_append_right,List.set_append_right,List.getElem?_cons_zero,List.getElem?_append_left,List.set_append_left,-getElem?_pos,↓zan,↓zaz,Nat.testBit_eq_decide_div_mod_eq])<;>exact rfl));(focus rfl);(focus rfl)));simp only[addFl])|(with_reducible apply zad;(focus ((conv=>lhs;simp[*,List.getElem?_append_right,List.set_append_right,List.getElem?_cons_zero,List.getElem?_append_left,List.set_append_left,-getElem?_pos,↓zan,↓zaz,Nat.testBit_eq_decide_div_mod_eq])<;>exact rfl));simp only[addFl])|((with_reducible first|apply zai|apply zak|apply zah|apply zaf|apply zac|apply zaj|apply zag|apply zam|(apply zae;· simp[*,zaa])|(apply zab;· simp[*,zaa]));try simp only[Then,Ops,OutB,reduceIte])|simp only[Nat.reduceEqDiff,reduceIte,OutB,Then]))
    obtain ⟨o1,o3,o4,o6,o7,nqh,nq3⟩:=HO.out
    have hhl:(Rd.htsOf r ps ls i).length=i:=by simp[Rd.htsOf]
    obtain ⟨fin,hst,hq',hE',hkeep,hle,hl2,hne,l1,hlen⟩:=HF.out
    have h4:=Hts.some (lo:=H.length+2) (qe:=qe) (ql:=ql) (np:=r.parts.length) (G:=G.set qh .dead++[.cells [.sl q 0 r.parts.length 1],(.cells (vs++[.sl q 0 r.parts.length 1]))]) (hss:=Rd.htsOf r ps ls i++[B]) (G.length+1) (vs++[.sl q 0 r.parts.length 1]) (by omega) (by omega) (by omega) (hb (by rw[List.getElem?_append_right (by simp)];simp)) (by rw[List.all_append,o5];rfl) (HtE.snoc (o6.keep (q':=G.length+1) (by omega) fun p y h1 h2 h3 h4 h5=>((hkeep p y h5.lt h3 h5).set _ (Ne.symm h4)).app _) (by omega) nq2 nq3 (by omega) ((hq'.set _ nqh).app _))
    rw[List.length_append,hhl] at h4
    have h5:=fin (G.set qh .dead++[.cells [.sl q 0 r.parts.length 1],(.cells (vs++[.sl q 0 r.parts.length 1]))]) _ xs HY.out (fun p y h1 h2=>(h2.set _ (by omega)).app _) ((hE'.set _ o2).app _) ((hst.set _ o3).app _) h4
    refine ⟨by first|rfl|trivial,_,_,_,_,h5,?_,?_,?_,?_,?_,?_,?_,?_,rfl⟩<;>simp[zaq]
end Ro
end Ev
end Go.Proofs.Ytlcjlcllbgjplaa

/- RoadTrue, gone through: events. -/
namespace Go.Proofs.Ytlcjlcllbgjplaa
open Go
namespace Ev
namespace Ro
open K
attribute [local simp] ev1 wantG spineK spine float xnew xval xeff zaa zas zbc zaw zav addFl cellsOf pickC alive slLen slFt binI maxA maxK minA minK aeqK aeqS AV.cells spA zat fillA setAt bitsI nat_nn zbd AV.plain apart
set_option maxRecDepth 100000
set_option maxHeartbeats 4000000
def trEv (H:List AB)(r:Rd.Road)(b u ql:Nat)(hv:AV)(i:Nat)(G:List AB)(tcs:List Nat):St:={ tm:=tmA 151 [(49,.int .i64 i),(48,.int .i64 r.events.length),(47,.vs 7 (r.events.map evE)),(6,hv),(5,.sl ql 0 r.parts.length 3),(4,.ptr (H.length+1) 0),(2,.ptr H.length 0),(1,.fn (.func 77) [] [.ptr b 0,.ptr u 0])],df:=[],hp:=G,tc:=tcs }
theorem T2.app {H:List AB}{r:Rd.Road}{ns:List Int}{b u qe ql:Nat}{ps:List (Rd.Tr × Int)}{G:List AB}{i:Nat}{xs:List Rd.Evt}{ls:List Int}{k:Int}{hv:AV}(h:T2 H r ns b u qe ql ps G i xs ls k hv)(K:List AB):T2 H r ns b u qe ql ps (G++K) i xs ls k hv:=
 ⟨h.b.app K,h.u.app K,h.c0.app K,h.c1.app K,h.e.app K,h.l.app K,h.le,h.l2,h.n,h.k0,h.hs.keep fun _ _ _ _ _ g=>g.app K,h.tr⟩
theorem T2.draw {H:List AB}{r:Rd.Road}{ns:List Int}{b u qe ql:Nat}{ps:List (Rd.Tr × Int)}{G:List AB}{i:Nat}{xs:List Rd.Evt}{ls:List Int}{k:Int}{hv:AV}(h:T2 H r ns b u qe ql ps G i xs ls k hv)(hbu:b≠u)(hbH:b<H.length):T2 H r ns b u qe ql ps (G.set b (.cells [.int .i64 (k+1)])) i xs ls (k+1) hv:=by
 have h1:=h.le
 have h2:=h.l2
 exact ⟨h.b.here _,h.u.set _ hbu,h.c0.set _ (by omega),h.c1.set _ (by omega),h.e.set _ (by omega),h.l.set _ (by omega),h.le,h.l2,h.n,by have:=h.k0;omega,h.hs.keep fun p _ g1 _ _ g=>g.set _ (by omega),h.tr⟩
theorem zpy (C:Cfg)(hC:C.calm=true)(call:CallF)(hS:LSunkC call)(hsp:LSpanC call)(r:Rd.Road)(hf:Rd.Fine r)(ns:List Int)(H:List AB)(b u qe ql i:Nat)(hD:DrawC call ns b u)(ps:List (Rd.Tr × Int))(hps:Rd.Parts r ps)(hi:i<r.events.length)(hbu:b≠u)(hbH:b<H.length)(huH:u<H.length)(G:List AB)(xs:List Rd.Evt)(ls:List Int)(k:Int)(hvv:AV)(hI:T2 H r ns b u qe ql ps G i xs ls k hvv)(hk:k≤12+(i:Int))(tcs:List Nat)(htc:∀ j∈tcs,j=b):
  Does (ev C call H.length none (atP [1,1,1,1,0,1,0,0] af24.body) (trEv H r b u ql hvv i G tcs))
   (fun e st=>e=.normal∧∃ G xs ls k hv tcs,(∀ j∈tcs,j=b)∧k≤12+(i:Int)+1∧T2 H r ns b u qe ql ps G (i+1) xs ls k hv∧{ st with tm:=keepT [1,2,4,5,6,47,48,49] st.tm }=trEv H r b u ql hv (i+1) G tcs):=by
 have hv:r.events[i]?=some r.events[i]:=List.getElem?_eq_getElem hi
 have hvo:=hf.event _ (List.getElem_mem hi)
 have he10:=hf.events
 generalize r.events[i]=v at hv hvo
 have hv':=ge_of hv
 have k0:=hI.k0
 have hwi:IntKind.i64.wrap (↑i+1)=↑i+1:=zau (by omega) (by omega)
 have e5:(i:Int)<r.events.length:=by omega
 have hql:=hI.l.lt
 have hqe:=hI.e.lt
 have hcl:=hI.c1.lt
 obtain ⟨B1,B2,B3⟩:=hI.b
 obtain ⟨U1,U2,U3⟩:=hI.u
 have g1:¬ (G.length<H.length):=by omega
 have g2:∀ n,¬ (G.length+n<H.length):=fun n=>by omega
 have g3:¬ (b=G.length):=by omega
 have g4:¬ (G.length=b):=by omega
 have hfilt:decide (b<H.length)=true:=decide_eq_true hbH
 by_cases h0:v.kind=0
 ·have hdr:∀ K,call (.fn (.func 77) [] [.ptr b 0,.ptr u 0]) [.agg [.int .i64 v.load.lo,.int .i64 v.load.hi]] (G++K)=some (.ret (.int .i64 (drawV ns k v.load.lo v.load.hi)),G.set b (.cells [.int .i64 (k+1)])++(K++[.cells [.int .i64 v.load.lo,.int .i64 v.load.hi]]),[b]):=fun K=>by
   rw[hD (G++K) k _ _ (by rw[List.getElem?_append_left B2];exact B1) (by rw[List.getElem?_append_left U2];exact U1) k0 (by omega) (by omega) (by omega) (by omega),List.set_append_left _ _ B2,List.append_assoc]
  have hd1:=zfe ns k (lo:=v.load.lo) (hi:=v.load.hi) (by omega)
  generalize drawV ns k v.load.lo v.load.hi=x at hdr hd1
  have hT:=(hI.draw hbu hbH).app [.cells [.int .i64 v.kind,.int .i64 v.load.lo,.int .i64 v.load.hi,.int .i64 v.days,.int .i64 v.part,.int .i64 v.shows.lo,.int .i64 v.shows.hi],.cells [.int .i64 v.load.lo,.int .i64 v.load.hi]]
  have hr:=zgu C hC call hS hsp r hf ns H b u qe ql G.length i ps hps v hv x (fun _=>hd1) (fun h=>absurd h0 h) hbH huH _ ⟨by omega,by omega⟩ (hb (by rw[List.getElem?_append_right (by simp)];simp)) xs ls (k+1) hvv hT (b::tcs)
  unfold af24 Zq Zm Zl Zo Zs Zd Ze Zc Zt Zn Zi at hr
  simp only[atP] at hr
  rw[h0] at hr
  have HR:=hideP hr
  have HX:=hideP (And.intro htc hk)
  clear hr hT hI hS hsp hf hps hD hvo hd1 htc hk k0 hql hqe hcl
  unfold af24 Zq Zm Zl Zo Zs Zd Ze Zc Zt Zn Zi trEv
  simp only[atP]
  (repeat (first|(with_reducible refine Does.mono (HR.out _ (by simp[zaq]) (by simp[zaq]) (by simp[zaq]) (by simp[zaq]) (by simp[zaq]) (by simp[zaq]) (by simp[zaq]) (by simp[zaq]) (by simp[zaq]) (by simp[zaq]) (by simp[zaq])) ?_)|((with_reducible apply zad);(focus ((with_reducible apply zar);(focus rfl);(focus rfl);(focus ((conv=>lhs;simp[*,List.getElem?_append_right,List.set_append_right,List.getElem?_cons_zero,List.getElem?_append_left,List.set_append_left,-getElem?_pos,↓zan,↓zaz,evE,Nat.testBit_eq_decide_div_mod_eq])<;>exact rfl));(focus rfl);(focus rfl)));simp only[addFl])|(with_reducible apply zad;(focus ((conv=>lhs;simp[*,List.getElem?_append_right,List.set_append_right,List.getElem?_cons_zero,List.getElem?_append_left,List.set_append_left,-getElem?_pos,↓zan,↓zaz,evE,Nat.testBit_eq_decide_div_mod_eq])<;>exact rfl));simp only[addFl])|((with_reducible first|apply zai|apply zak|apply zah|apply zaf|apply zac|apply zaj|apply zag|apply zam|(apply zae;· simp[*,zaa])|(apply zab;· simp[*,zaa]));try simp only[Then,Ops])|simp only[OutB,Then]))
  rintro e st ⟨rfl,G2,xs2,hv2,L,hT2,L1,L2,L4,L5,L6,L47,L48,L49,rfl⟩
  have m49:val C (tmA 151 L) (.tmp 49)=.int .i64 i:=L49
  obtain ⟨htc,hk⟩:=HX.out
  have HY:=hideP (And.intro hT2 (And.intro htc hk))
  clear hT2 htc hk HR hdr HX
  (repeat (first|((with_reducible apply zad);(focus ((with_reducible apply zar);(focus rfl);(focus rfl);(focus ((conv=>lhs;simp[*,List.getElem?_append_right,List.set_append_right,List.getElem?_cons_zero,List.getElem?_append_left,List.set_append_left,-getElem?_pos,Nat.testBit_eq_decide_div_mod_eq])<;>exact rfl));(focus rfl);(focus rfl)));simp only[addFl])|(with_reducible apply zad;(focus ((conv=>lhs;simp[*,List.getElem?_append_right,List.set_append_right,List.getElem?_cons_zero,List.getElem?_append_left,List.set_append_left,-getElem?_pos,Nat.testBit_eq_decide_div_mod_eq])<;>exact rfl));simp only[addFl])|((with_reducible first|apply zai|apply zak|apply zah|apply zaf|apply zac|apply zaj|apply zag|apply zam|(apply zae;· simp[*,zaa])|(apply zab;· simp[*,zaa]));try simp only[Ops])|simp only[Nat.reduceEqDiff,reduceIte,OutB,Then]))
  obtain ⟨hT2,htc,hk⟩:=HY.out
  refine ⟨by first|rfl|trivial,G2,xs2,_,k+1,hv2,b::tcs,fun j hj=>by simp only[List.mem_cons] at hj;rcases hj with h|h<;>first|exact h|exact htc j h,by omega,hT2,?_⟩
  exact st_eq (by simp[*,zap,zaq]) rfl rfl rfl
 ·have h0':(v.kind==0)=false:=beq_false_of_ne h0
  have hT:=hI.app [.cells [.int .i64 v.kind,.int .i64 v.load.lo,.int .i64 v.load.hi,.int .i64 v.days,.int .i64 v.part,.int .i64 v.shows.lo,.int .i64 v.shows.hi]]
  have hr:=zgu C hC call hS hsp r hf ns H b u qe ql G.length i ps hps v hv 0 (fun h=>absurd h h0) (fun _=>rfl) hbH huH _ ⟨by omega,by omega⟩ (hb (by simp)) xs ls k hvv hT tcs
  unfold af24 Zq Zm Zl Zo Zs Zd Ze Zc Zt Zn Zi at hr
  simp only[atP] at hr
  have HR:=hideP hr
  have HX:=hideP (And.intro htc hk)
  clear hr hT hI hS hsp hf hps hD hvo htc hk k0 hql hqe hcl h0
  unfold af24 Zq Zm Zl Zo Zs Zd Ze Zc Zt Zn Zi trEv
  simp only[atP]
  (repeat (first|(with_reducible refine Does.mono (HR.out _ (by simp[zaq]) (by simp[zaq]) (by simp[zaq]) (by simp[zaq]) (by simp[zaq]) (by simp[zaq]) (by simp[zaq]) (by simp[zaq]) (by simp[zaq]) (by simp[zaq]) (by simp[zaq])) ?_)|((with_reducible apply zad);(focus ((with_reducible apply zar);(focus rfl);(focus rfl);(focus ((conv=>lhs;simp[*,List.getElem?_append_right,List.set_append_right,List.getElem?_cons_zero,List.getElem?_append_left,List.set_append_left,-getElem?_pos,↓zan,↓zaz,evE,Nat.testBit_eq_decide_div_mod_eq])<;>exact rfl));(focus rfl);(focus rfl)));simp only[addFl])|(with_reducible apply zad;(focus ((conv=>lhs;simp[*,List.getElem?_append_right,List.set_append_right,List.getElem?_cons_zero,List.getElem?_append_left,List.set_append_left,-getElem?_pos,↓zan,↓zaz,evE,Nat.testBit_eq_decide_div_mod_eq])<;>exact rfl));simp only[addFl])|((with_reducible first|apply zai|apply zak|apply zah|apply zaf|apply zac|apply zaj|apply zag|apply zam|(apply zae;· simp[*,zaa])|(apply zab;· simp[*,zaa]));try simp only[Then,Ops])|simp only[OutB,Then]))
  rintro e st ⟨rfl,G2,xs2,hv2,L,hT2,L1,L2,L4,L5,L6,L47,L48,L49,rfl⟩
  have m49:val C (tmA 151 L) (.tmp 49)=.int .i64 i:=L49
  obtain ⟨htc,hk⟩:=HX.out
  have HY:=hideP (And.intro hT2 (And.intro htc hk))
  clear hT2 htc hk HR HX
  (repeat (first|((with_reducible apply zad);(focus ((with_reducible apply zar);(focus rfl);(focus rfl);(focus ((conv=>lhs;simp[*,List.getElem?_append_right,List.set_append_right,List.getElem?_cons_zero,List.getElem?_append_left,List.set_append_left,-getElem?_pos,Nat.testBit_eq_decide_div_mod_eq])<;>exact rfl));(focus rfl);(focus rfl)));simp only[addFl])|(with_reducible apply zad;(focus ((conv=>lhs;simp[*,List.getElem?_append_right,List.set_append_right,List.getElem?_cons_zero,List.getElem?_append_left,List.set_append_left,-getElem?_pos,Nat.testBit_eq_decide_div_mod_eq])<;>exact rfl));simp only[addFl])|((with_reducible first|apply zai|apply zak|apply zah|apply zaf|apply zac|apply zaj|apply zag|apply zam|(apply zae;· simp[*,zaa])|(apply zab;· simp[*,zaa]));try simp only[Ops])|simp only[Nat.reduceEqDiff,reduceIte,OutB,Then]))
  obtain ⟨hT2,htc,hk⟩:=HY.out
  refine ⟨by first|rfl|trivial,G2,xs2,_,k,hv2,tcs,htc,by omega,hT2,?_⟩
  exact st_eq (by simp[*,zap,zaq]) rfl rfl rfl
end Ro
end Ev
end Go.Proofs.Ytlcjlcllbgjplaa

/- RoadTrue, gone through: roads whose looks are right. -/
namespace Go.Proofs.Ytlcjlcllbgjplaa
open Go
namespace Rd
theorem cur_zero (r:Road)(ps:List (Tr × Int))(ls:List Int):curT r ps ls 0=ps:=by
 unfold curT heightR
 simp only[List.take_zero,after,List.map_id']
end Rd
namespace Ev
namespace Ro
open K
attribute [local simp] ev1 wantG spineK spine float xnew xval xeff zaa zas zbc zaw zav addFl cellsOf pickC alive slLen slFt binI maxA maxK minA minK aeqK aeqS AV.cells spA zat fillA setAt bitsI nat_nn zbd AV.plain apart
set_option maxRecDepth 100000
set_option maxHeartbeats 4000000
def TrulyR (H:List AB)(r:Rd.Road)(b:Nat)(v:AV)(hp:List AB)(tc:List Nat):Prop:=(∀ j∈tc,j=b) ∧
 ∃ (ps:List (Rd.Tr × Int)) (ls:List Int) (xs:List Rd.Evt) (qe ql:Nat) (hv:AV),Rd.Parts r ps∧Rd.Truth r ps r.events.length ls xs∧H.length≤qe∧H.length≤ql∧hp[qe]?=some (.cells (evCs xs))∧hp[ql]?=some (.cells (stCs (Rd.curT r ps ls r.events.length)))∧Hts H.length qe ql r.parts.length hp (Rd.htsOf r ps ls r.events.length) hv ∧
  v=.tup [.agg [.vs 7 (r.parts.map ptE),.sl qe 0 r.events.length 7],.sl ql 0 r.parts.length 3,hv]
theorem Hts.low {lo lo' qe ql np:Nat}{G:List AB}{hss:List (List Int)}{v:AV}(h:Hts lo qe ql np G hss v)(hl:lo'≤lo):Hts lo' qe ql np G hss v:=by
 cases h with
 |none h=>exact .none h
 |some q vs h1 h2 h3 h4 h5 h6=>
  refine .some q vs (by omega) h2 h3 h4 h5 ⟨h6.1,fun j B hB=>?_⟩
  obtain ⟨p,g1,g2,g3⟩:=h6.2 j B hB
  exact ⟨p,g1,by omega,g3⟩
theorem zpx (C:Cfg)(hC:C.calm=true)(call:CallF)(ns:List Int)(b u:Nat)(hD:DrawC call ns b u)(hS:LSunkC call)(hsp:LSpanC call)(r:Rd.Road)(hf:Rd.Fine r)(H:List AB)(hbu:b≠u)(hB:H[b]?=some (.cells [.int .i64 0]))(hU:H[u]?=some (.cells [.vs 1 (ns.map (AV.int .u16))])):
  Does (ev C call H.length none af24.body { tm:=tmA af24.ntmps (zipI 0 [.agg (roadCs r),.fn (.func 77) [] [.ptr b 0,.ptr u 0]] []),df:=[],hp:=H,tc:=[] })
   (Ends C H.length af24.res (TrulyR H r b)):=by
 obtain ⟨B1,B2,B3⟩:=hb hB
 obtain ⟨U1,U2,U3⟩:=hb hU
 have hp4:=hf.parts
 have he6:=hf.events
 have HX:=hideP (And.intro hf (And.intro hD (And.intro hsp (And.intro hS (And.intro hp4 he6)))))
 clear hD hsp hS hf
 unfold af24 Zq Zm Zl Zo Zs Zd Ze Zc Zt Zn Zi
 simp only[zipI,roadCs] at *
 (repeat (first|((with_reducible apply zad);(focus ((with_reducible apply zar);(focus rfl);(focus rfl);(focus ((conv=>lhs;simp[*,List.getElem?_append_right,List.set_append_right,List.getElem?_cons_zero,List.getElem?_append_left,List.set_append_left,-getElem?_pos,Nat.testBit_eq_decide_div_mod_eq])<;>exact rfl));(focus rfl);(focus rfl)));simp only[addFl])|(with_reducible apply zad;(focus ((conv=>lhs;simp[*,List.getElem?_append_right,List.set_append_right,List.getElem?_cons_zero,List.getElem?_append_left,List.set_append_left,-getElem?_pos,Nat.testBit_eq_decide_div_mod_eq])<;>exact rfl));simp only[addFl])|((with_reducible first|apply zai|apply zak|apply zah|apply zaf|apply zac|apply zaj|apply zag|apply zam|(apply zae;· simp[*,zaa])|(apply zab;· simp[*,zaa]));try simp only[Then,Ops])|simp only[Nat.reduceEqDiff,reduceIte,OutB,Then]))
 with_reducible refine zba hC r.parts.length (by unfold fuelL;omega) (fun i st=>∃ (G:List AB) (T:List (Rd.Tr × Int)) (k:Int) (lv:AV) (tcs:List Nat),(∀ j∈tcs,j=b)∧T1 H r ns b u G i T k∧One3 (H.length+2) G T lv∧st=({ tm:=tmA 151 [(19,.int .i64 i),(18,.int .i64 r.parts.length),(17,.vs 7 (r.parts.map ptE)),(6,.nils),(5,lv),(4,.ptr (H.length+1) 0),(2,.ptr H.length 0),(1,.fn (.func 77) [] [.ptr b 0,.ptr u 0])],df:=[],hp:=G,tc:=tcs }:St)) ?_ ?_ ?_
 ·refine ⟨H++[.cells (roadCs r),.cells [.nils,.nils]],[],0,.nils,[],by simp,⟨(hb hB).app _,(hb hU).app _,hb (by rw[List.getElem?_append_right (by simp)];simp),hb (by rw[List.getElem?_append_right (by simp)];simp),by omega,by omega,rfl,fun j q h=>by simp at h⟩,.none rfl,?_⟩
  unfold roadCs
  (refine st_is ?_ ?_ ?_ ?_;(focus (simp[zap,zaq]));(focus rfl);(focus (first|rfl|(simp;done)|(simp[*];done)|(simp;rfl)|(simp[*];omega)|(simp;omega)));(focus (first|rfl|simp)))
 ·rintro i st hi ⟨G,T,k,lv,tcs,htc,hI,hT,rfl⟩
  obtain ⟨hf,hD,hsp,hS,_⟩:=HX.out
  refine (zjd C call ns b u hD r hf H hbu B2 U2 i hi G T k lv tcs htc hI hT).mono ?_
  rintro e st ⟨rfl,h⟩
  exact h
 ·rintro st ⟨G0,ps,k,lv,tcs,htc,hI,hT,rfl⟩
  obtain ⟨hf,hD,hsp,hS,_⟩:=HX.out
  obtain ⟨hb',hu',hc0',hc1',k0,k1,lb,hpt⟩:=hI
  have hps:Rd.Parts r ps:=⟨lb,hpt⟩
  cases hT with
  |none h0=>rw[h0] at lb;simp at lb;omega
  |some ql l1 h1=>
  have hHG:=hc1'.lt
  -- what is ahead of the second loop
  have hI2:T2 H r ns b u (G0.length+1) ql ps (G0.set (H.length+1) (.cells [.vs 7 (r.parts.map ptE),.sl (G0.length+1) 0 r.events.length 7])++[.dead,.cells (evCs r.events)]) 0 r.events [] k .nils:=
   ⟨(hb'.set _ (by omega)).app _,(hu'.set _ (by omega)).app _,(hc0'.set _ (by omega)).app _,(hc1'.here _).app _,hb (by rw[List.getElem?_append_right (by simp)];simp),by rw[Rd.cur_zero];exact (h1.set _ (by omega)).app _,by omega,l1,by have:=h1.lt;omega,k0,.none rfl,Rd.truth_zero r ps⟩
  obtain ⟨C1,C2,C3⟩:=hc0'
  obtain ⟨D1,D2,D3⟩:=hc1'
  have g1:¬ (G0.length<H.length):=by omega
  have g2:∀ n,¬ (G0.length+n<H.length):=fun n=>by omega
  have g7:H.length≠H.length+1:=by omega
  have g7':H.length+1≠H.length:=by omega
  have g8:¬ (H.length+1<H.length):=by omega
  have g9:¬ (G0.length=H.length):=by omega
  have g10:¬ (G0.length=H.length+1):=by omega
  have g11:¬ (H.length+1=G0.length):=by omega
  have hs:∀ H,slCells 7 H (.vs 7 (r.events.map evE))=some (evCs r.events):=fun H=>zvh H r.events
  have hbd:r.events.length≤bound:=by unfold bound;omega
  have HY:=hideP (And.intro hI2 (And.intro htc (And.intro h1 (And.intro lb k1))))
  clear hI2 h1 hb' hu' hpt k0 k1 l1 htc
  rw[lb]
  clear lb
  simp only[roadCs] at *
  (repeat (first|((with_reducible apply zad);(focus ((with_reducible apply zar);(focus rfl);(focus rfl);(focus ((conv=>lhs;simp[*,List.getElem?_append_right,List.set_append_right,List.getElem?_cons_zero,List.getElem?_append_left,List.set_append_left,-getElem?_pos,↓zan,zfp,zef,Nat.testBit_eq_decide_div_mod_eq])<;>exact rfl));(focus rfl);(focus rfl)));simp only[addFl])|(with_reducible apply zad;(focus ((conv=>lhs;simp[*,List.getElem?_append_right,List.set_append_right,List.getElem?_cons_zero,List.getElem?_append_left,List.set_append_left,-getElem?_pos,↓zan,zfp,zef,Nat.testBit_eq_decide_div_mod_eq])<;>exact rfl));simp only[addFl])|((with_reducible first|apply zai|apply zak|apply zah|apply zaf|apply zac|apply zaj|apply zag|apply zam|(apply zae;· simp[*,zaa])|(apply zab;· simp[*,zaa]));try simp only[Then,Ops,OutB,reduceIte])|simp only[Nat.reduceEqDiff,reduceIte,OutB,Then]))
  with_reducible refine zba hC r.events.length (by unfold fuelL;omega) (fun i st=>∃ (G:List AB) (xs:List Rd.Evt) (ls:List Int) (k:Int) (hv:AV) (tcs:List Nat),(∀ j∈tcs,j=b)∧k≤12+(i:Int)∧T2 H r ns b u (G0.length+1) ql ps G i xs ls k hv∧st=trEv H r b u ql hv i G tcs) ?_ ?_ ?_
  ·obtain ⟨hI2,htc,h1,lb,k1⟩:=HY.out
   refine ⟨_,r.events,[],k,.nils,tcs,htc,by omega,hI2,?_⟩
   unfold trEv
   (refine st_is ?_ ?_ ?_ ?_;(focus (simp[zap,zaq]));(focus rfl);(focus (first|rfl|(simp;done)|(simp[*];done)|(simp;rfl)|(simp[*];omega)|(simp;omega)));(focus (first|rfl|simp)))
  ·rintro i st hi ⟨G,xs,ls,k,hv,tcs,htc,hk,hI,rfl⟩
   refine (zpy C hC call hS hsp r hf ns H b u _ ql i hD ps hps hi hbu B2 U2 G xs ls k hv hI hk tcs htc).mono ?_
   rintro e st ⟨rfl,G,xs,ls,k,hv,tcs,h1,h2,h3,h4⟩
   exact ⟨G,xs,ls,k,hv,tcs,h1,by omega,h3,h4⟩
  ·rintro st ⟨G,xs,ls,k,hv,tcs,htc,hk,hI,rfl⟩
   have hI':=hI
   obtain ⟨_,_,_,hc1,_,_,_,_,_,_,_,_⟩:=hI
   have hgl:=hc1.lt
   obtain ⟨D1,D2,D3⟩:=hc1
   have HZ:=hideP (And.intro htc (And.intro hI' hps))
   clear htc hI' HY hps
   unfold trEv
   (repeat (first|((with_reducible apply zad);(focus ((with_reducible apply zar);(focus rfl);(focus rfl);(focus ((conv=>lhs;simp[*,List.getElem?_append_right,List.set_append_right,List.getElem?_cons_zero,List.getElem?_append_left,List.set_append_left,-getElem?_pos,↓zan,Nat.testBit_eq_decide_div_mod_eq])<;>exact rfl));(focus rfl);(focus rfl)));simp only[addFl])|(with_reducible apply zad;(focus ((conv=>lhs;simp[*,List.getElem?_append_right,List.set_append_right,List.getElem?_cons_zero,List.getElem?_append_left,List.set_append_left,-getElem?_pos,↓zan,Nat.testBit_eq_decide_div_mod_eq])<;>exact rfl));simp only[addFl])|((with_reducible first|apply zai|apply zak|apply zah|apply zaf|apply zac|apply zaj|apply zag|apply zam|(apply zae;· simp[*,zaa])|(apply zab;· simp[*,zaa]));try simp only[Then,Ops,OutB,reduceIte])|simp only[Nat.reduceEqDiff,reduceIte,OutB,Then]))
   obtain ⟨htc,hI,hps⟩:=HZ.out
   have hle:=hI.le
   have hl2:=hI.l2
   refine zao (.inl rfl) rfl (by simp only[List.length_set];omega) (by simp only[resL,resOf,zal];simp[List.length_set,D2,pickC,resV]) ⟨htc,ps,ls,xs,_,ql,hv,hps,hI.tr,by omega,by omega,(hI.e.set _ (by omega)).get,(hI.l.set _ (by omega)).get,(hI.hs.keep fun p y h1 _ _ h4=>h4.set _ (by omega)).low (by omega),rfl⟩
def LTrulyC (call:CallF)(r:Rd.Road)(ns:List Int):Prop:=∀ (H:List AB) (b u:Nat),b≠u→H[b]?=some (.cells [.int .i64 0])→H[u]?=some (.cells [.vs 1 (ns.map (AV.int .u16))]) →
 ∃ v G tc,call (.fn (.func 24) [] []) [.agg (roadCs r),.fn (.func 77) [] [.ptr b 0,.ptr u 0]] H=some (.ret v,G,tc)∧TrulyR H r b v G tc∧Kp [b] H G
theorem zlx {C:Cfg}{n:Nat}(hC:C.calm=true)(h0:Has C 24 af24){ns:List Int}(hD:∀ b u,DrawC (Ev.call C n) ns b u)(hS:LSunkC (Ev.call C n))(hsp:LSpanC (Ev.call C n)){r:Rd.Road}(hf:Rd.Fine r):LTrulyC (Ev.call C (n+1)) r ns:=by
 intro H b u hbu hb0 hu
 obtain ⟨v,hp,tc,G,c1,⟨h1,ps,ls,xs,qe,ql,hv,k1,k2,k3,k4,k5,k6,k7,rfl⟩,c3,c4,c5⟩:=zbw (first:=[]) (captured:=[]) (args:=[.agg (roadCs r),.fn (.func 77) [] [.ptr b 0,.ptr u 0]]) (H:=H) hC h0.ext h0.exth h0.fns h0.whole (le' rfl) (zpx C hC _ ns b u (hD b u) hS hsp r hf H hbu hb0 hu)
 obtain ⟨_,c6⟩:=c4 (.inl (by simp[refs,refsL]))
 exact ⟨_,G,tc,c1,⟨h1,ps,ls,xs,qe,ql,hv,k1,k2,k3,k4,(c6 qe k3).trans k5,(c6 ql k4).trans k6,k7.keep fun p y g1 _ _ g4=>hb ((c6 p g1).trans g4.get),rfl⟩,c3.kp.mono fun j _ hj=>by simp[h1 j hj]⟩
end Ro
end Ev
end Go.Proofs.Ytlcjlcllbgjplaa

/- The code of functions of the laws, for the evaluator. Printed by program. -/
namespace Go.Proofs.Ytlcjlcllbgjplaa
open Go
namespace Ev
def af4:AFunc:=⟨266,[.tmp 6],Zq [Zo 0 3 (.box (Zt 0)),Zo 1 6 (.mov (.val (.bool false)))] (.seq (Zq [Zo 0 36 (.load (some 2) (Zt 3)),Zo 1 37 (Zc 22 [Zt 36]),Zm 2 38 37,⟨3,some 39,.load (some 2) (Zt 3),some (38,false),0⟩,⟨4,some 40,Zc 23 [Zt 39],some (38,false),0⟩,⟨5,some 41,.not (Zt 40),some (38,false),0⟩,Zo 6 42 (.pick (Zt 38) (.val (.bool true)) (Zt 41))] (.cond (Zt 42) (Zq [Zo 0 43 (Zc 21 []),Zm 1 6 43] .ret) .skip)) (.seq (.draw [Zo 0 45 (.load (some 2) (Zt 3)),Zm 1 46 1,Zo 8 7 (.alloc [.nils,.nils]),Zd 2 47 2 (Zc 25 [Zt 46]),Zd 3 48 7 (Zc 24 [Zt 45,Zt 47]),Zd 4 44 15 (.mov (Zt 48)),Zd 5 49 31 (.extract (Zt 44) 0),Zd 6 50 31 (.extract (Zt 44) 1),Zd 7 51 31 (.extract (Zt 44) 2),Ze 9 319 (.store 2 (Zt 7) (Zt 49)),Zd 10 8 895 (.mov (Zt 50)),Zd 11 9 2047 (.mov (Zt 51))]) (Zq [Zm 0 52 2,Zo 1 53 (.conv .i64 (Zt 52)),Zo 2 54 (.bin .rem (Zt 53) (Zn 61)),Zm 3 10 54] (Zq [Zo 0 56 (.load (some 2) (Zt 7)),Zo 1 57 (Zc 18 [Zt 56]),Zm 2 55 57,Zo 3 58 (.extract (Zt 55) 0),Zo 4 59 (.extract (Zt 55) 1),Zm 5 11 58,Zm 6 12 59] (Zq [Zo 0 61 (.load (some 2) (Zt 7)),Zo 1 62 (Zc 26 [Zt 61]),Zm 2 60 62,Zo 3 63 (.extract (Zt 60) 0),Zo 4 64 (.extract (Zt 60) 1),Zo 5 65 (.extract (Zt 60) 2),Zm 6 13 63,Zm 7 14 64,Zm 8 15 65] (Zq [Zo 0 67 (.load (some 2) (Zt 7)),Zm 1 68 10,Zo 2 69 (Zc 16 [Zt 67,Zt 68]),Zm 3 66 69,Zo 4 70 (.extract (Zt 66) 0),Zo 5 71 (.extract (Zt 66) 1),Zm 6 16 70,Zm 7 17 71] (Zq [Zo 0 73 (.load (some 2) (Zt 7)),Zo 1 74 (Zc 19 [Zt 73]),Zm 2 72 74,Zo 3 75 (.extract (Zt 72) 0),Zo 4 76 (.extract (Zt 72) 1),Zm 5 18 75,Zm 6 19 76] (Zq [Zo 0 78 (.load (some 2) (Zt 7)),Zm 1 79 10,Zo 2 80 (Zc 17 [Zt 78,Zt 79]),Zm 3 77 80,Zo 4 81 (.extract (Zt 77) 0),Zo 5 82 (.extract (Zt 77) 1),Zm 6 20 81,Zm 7 21 82] (.seq (Zq [Zm 0 83 12,Zo 1 84 (.bin .neq (Zt 83) (Zn 4)),Zm 2 85 84,⟨3,some 86,.mov (Zt 15),some (85,false),0⟩,⟨4,some 87,.bin .neq (Zt 86) (Zn 0),some (85,false),0⟩,Zo 5 88 (.pick (Zt 85) (.val (.bool true)) (Zt 87)),Zm 6 89 88,⟨7,some 90,.mov (Zt 13),some (89,false),0⟩,⟨8,some 91,.mov (Zt 14),some (89,false),0⟩,⟨9,some 92,.bin .andNot (Zt 90) (Zt 91),some (89,false),0⟩,⟨10,some 93,.bin .neq (Zt 92) (Zn 0),some (89,false),0⟩,Zo 11 94 (.pick (Zt 89) (.val (.bool true)) (Zt 93)),Zm 12 95 94,⟨13,some 96,.mov (Zt 17),some (95,false),0⟩,⟨14,some 97,.bin .neq (Zt 96) (Zn 0),some (95,false),0⟩,Zo 15 98 (.pick (Zt 95) (.val (.bool true)) (Zt 97)),Zm 16 99 98,⟨17,some 100,.mov (Zt 19),some (99,false),0⟩,⟨18,some 101,.bin .neq (Zt 100) (Zn 0),some (99,false),0⟩,⟨19,some 102,.mov (Zt 101),some (99,false),0⟩,⟨20,some 103,.mov (Zt 19),some (102,true),0⟩,⟨21,some 104,.bin .neq (Zt 103) (Zn 4),some (102,true),0⟩,⟨22,some 105,.pick (Zt 102) (Zt 104) (.val (.bool false)),some (99,false),0⟩,Zo 23 106 (.pick (Zt 99) (.val (.bool true)) (Zt 105)),Zm 24 107 106,⟨25,some 108,.mov (Zt 21),some (107,false),0⟩,⟨26,some 109,.bin .neq (Zt 108) (Zn 0),some (107,false),0⟩,⟨27,some 110,.mov (Zt 109),some (107,false),0⟩,⟨28,some 111,.mov (Zt 21),some (110,true),0⟩,⟨29,some 112,.bin .neq (Zt 111) (Zn 4),some (110,true),0⟩,⟨30,some 113,.pick (Zt 110) (Zt 112) (.val (.bool false)),some (107,false),0⟩,Zo 31 114 (.pick (Zt 107) (.val (.bool true)) (Zt 113)),Zm 32 115 114,⟨33,some 116,.mov (Zt 19),some (115,false),0⟩,⟨34,some 117,.bin .eql (Zt 116) (Zn 0),some (115,false),0⟩,⟨35,some 118,.mov (Zt 117),some (115,false),0⟩,⟨36,some 119,.mov (Zt 16),some (118,true),0⟩,⟨37,some 120,.bin .eql (Zt 119) (Zn 2),some (118,true),0⟩,⟨38,some 121,.mov (Zt 10),some (118,true),0⟩,⟨39,some 122,.mov (Zt 18),some (118,true),0⟩,⟨40,some 123,.bin .leq (Zt 121) (Zt 122),some (118,true),0⟩,⟨41,some 124,.eq .bool true (Zt 120) (Zt 123),some (118,true),0⟩,⟨42,some 125,.pick (Zt 118) (Zt 124) (.val (.bool false)),some (115,false),0⟩,Zo 43 126 (.pick (Zt 115) (.val (.bool true)) (Zt 125)),Zm 44 127 126,⟨45,some 128,.mov (Zt 19),some (127,false),0⟩,⟨46,some 129,.bin .neq (Zt 128) (Zn 0),some (127,false),0⟩,⟨47,some 130,.mov (Zt 129),some (127,false),0⟩,⟨48,some 131,.mov (Zt 16),some (130,true),0⟩,⟨49,some 132,.bin .eql (Zt 131) (Zn 2),some (130,true),0⟩,⟨50,some 133,.pick (Zt 130) (Zt 132) (.val (.bool false)),some (127,false),0⟩,Zo 51 134 (.pick (Zt 127) (.val (.bool true)) (Zt 133))] (.cond (Zt 134) (Zq [Zo 0 6 (.mov (.val (.bool false)))] .ret) .skip)) (.seq (Zq [Zm 0 135 9,Zo 1 136 (.len (Zt 135)),Zo 2 137 (.mov (Zn 0))] (.block 0 (.loop [3,7,8,10,13,14,16,20,21,135,136,137] (Zq [Zo 0 138 (.bin .lss (Zt 137) (Zt 136))] (.seq (.cond (Zt 138) .skip (.exit 0)) (.seq (.block 1 (Zq [Zm 0 139 137,Zo 1 140 (.indexA 1 none (Zt 135) (Zt 137)),Zl 2 141 140,Zm 3 22 139,Zm 4 23 141] (Zq [Zo 0 24 (.mov (.val (.bool false)))] (.seq (Zq [Zm 0 142 23,Zo 1 143 (.len (Zt 142)),Zo 2 144 (.mov (Zn 0))] (.block 2 (.loop [3,7,8,10,13,14,16,20,21,22,24,135,136,137,142,143,144] (Zq [Zo 0 145 (.bin .lss (Zt 144) (Zt 143))] (.seq (.cond (Zt 145) .skip (.exit 2)) (.seq (.block 3 (Zq [Zm 0 146 144,Zo 1 147 (.indexA 1 none (Zt 142) (Zt 144)),Zl 2 148 147,Zm 3 25 146,Zm 4 26 148] (Zq [Zo 0 150 (.load (some 2) (Zt 7)),Zm 1 151 25,Zm 2 152 22,Zo 3 153 (Zc 14 [Zt 150,Zt 151,Zt 152]),Zm 4 149 153,Zo 5 154 (.extract (Zt 149) 0),Zo 6 155 (.extract (Zt 149) 1),Zo 7 27 (.alloc [Zi 0,Zi 0]),Zs 8 (.store 2 (Zt 27) (Zt 154)),Zm 9 28 155] (.seq (Zq [Zm 0 156 28,Zo 1 157 (.bin .neq (Zt 156) (Zn 0)),Zm 2 158 157,⟨3,some 159,.mov (Zt 26),some (158,false),0⟩,⟨4,some 160,.load (some 2) (Zt 27),some (158,false),0⟩,⟨5,some 161,Zc 27 [Zt 159,Zt 160],some (158,false),0⟩,⟨6,some 162,.not (Zt 161),some (158,false),0⟩,Zo 7 163 (.pick (Zt 158) (.val (.bool true)) (Zt 162))] (.cond (Zt 163) (Zq [Zo 0 6 (.mov (.val (.bool false)))] .ret) .skip)) (.ops [Zm 0 164 24,Zm 1 165 164,⟨2,some 166,.mov (Zt 26),some (165,false),0⟩,⟨3,some 167,.bin .lss (Zt 166) (Zn 0),some (165,false),0⟩,Zo 4 168 (.pick (Zt 165) (.val (.bool true)) (Zt 167)),Zm 5 24 168]))))) (.ops [Zo 0 169 (.bin .add (Zt 144) (Zn 1)),Zm 1 144 169]))))))) (Zq [Zm 0 170 24,Zm 1 171 170,⟨2,some 172,.mov (Zt 14),some (171,true),0⟩,⟨3,some 173,.mov (Zt 22),some (171,true),0⟩,⟨4,some 174,.bin .shr (Zt 172) (Zt 173),some (171,true),0⟩,⟨5,some 175,.bin .and (Zt 174) (Zn 1),some (171,true),0⟩,⟨6,some 176,.bin .eql (Zt 175) (Zn 0),some (171,true),0⟩,Zo 7 177 (.pick (Zt 171) (Zt 176) (.val (.bool false))),Zm 8 178 177,⟨9,some 179,.mov (Zt 24),some (178,false),0⟩,⟨10,some 180,.not (Zt 179),some (178,false),0⟩,⟨11,some 181,.mov (Zt 180),some (178,false),0⟩,⟨12,some 182,.mov (Zt 13),some (181,true),0⟩,⟨13,some 183,.mov (Zt 22),some (181,true),0⟩,⟨14,some 184,.bin .shr (Zt 182) (Zt 183),some (181,true),0⟩,⟨15,some 185,.bin .and (Zt 184) (Zn 1),some (181,true),0⟩,⟨16,some 186,.bin .eql (Zt 185) (Zn 1),some (181,true),0⟩,⟨17,some 187,.pick (Zt 181) (Zt 186) (.val (.bool false)),some (178,false),0⟩,Zo 18 188 (.pick (Zt 178) (.val (.bool true)) (Zt 187))] (.cond (Zt 188) (Zq [Zo 0 6 (.mov (.val (.bool false)))] .ret) .skip)))))) (.ops [Zo 0 189 (.bin .add (Zt 137) (Zn 1)),Zm 1 137 189]))))))) (Zq [Zo 0 29 (.mov (.val (.bool true))),Zo 1 30 (.mov (.val (.bool true)))] (.seq (Zq [Zm 0 190 8,Zo 1 191 (.len (Zt 190)),Zo 2 192 (.mov (Zn 0))] (.block 4 (.loop [3,7,10,16,20,21,29,30,190,191,192] (Zq [Zo 0 193 (.bin .lss (Zt 192) (Zt 191))] (.seq (.cond (Zt 193) .skip (.exit 4)) (.seq (.block 5 (Zq [Zm 0 194 192,Zo 1 195 (.indexA 3 none (Zt 190) (Zt 192)),Zo 2 196 (.load (some 3) (Zt 195)),Zo 3 32 (.alloc [Zi 0,Zi 0,Zi 0]),Zm 4 31 194,Zs 5 (.store 3 (Zt 32) (Zt 196))] (Zq [Zm 0 197 10,Zo 1 198 (.fieldA 0 (Zt 32)),Zl 2 199 198,Zo 3 200 (Zc 28 [Zt 197,Zt 199]),Zm 4 33 200] (Zq [Zo 0 202 (.load (some 2) (Zt 7)),Zm 1 203 31,Zm 2 204 10,Zo 3 205 (Zc 15 [Zt 202,Zt 203,Zt 204]),Zm 4 201 205,Zo 5 206 (.extract (Zt 201) 0),Zo 6 207 (.extract (Zt 201) 1),Zo 7 34 (.alloc [Zi 0,Zi 0]),Zs 8 (.store 2 (Zt 34) (Zt 206)),Zm 9 35 207] (.seq (Zq [Zm 0 208 35,Zo 1 209 (.bin .neq (Zt 208) (Zn 0)),Zm 2 210 209,⟨3,some 211,.mov (Zt 33),some (210,false),0⟩,⟨4,some 212,.load (some 2) (Zt 34),some (210,false),0⟩,⟨5,some 213,Zc 27 [Zt 211,Zt 212],some (210,false),0⟩,⟨6,some 214,.not (Zt 213),some (210,false),0⟩,Zo 7 215 (.pick (Zt 210) (.val (.bool true)) (Zt 214))] (.cond (Zt 215) (Zq [Zo 0 6 (.mov (.val (.bool false)))] .ret) .skip)) (Zq [Zm 0 216 29,Zm 1 217 216,⟨2,some 218,.fieldA 2 (Zt 32),some (217,true),0⟩,⟨3,some 219,.load none (Zt 218),some (217,true),0⟩,⟨4,some 220,.mov (Zt 33),some (217,true),0⟩,⟨5,some 221,.bin .geq (Zt 219) (Zt 220),some (217,true),0⟩,Zo 6 222 (.pick (Zt 217) (Zt 221) (.val (.bool false))),Zm 7 29 222] (.draw [Zm 0 223 30,Zd 1 224 1 (.mov (Zt 223)),⟨2,some 225,.fieldA 0 (Zt 3),some (224,true),3⟩,⟨3,some 226,.load none (Zt 225),some (224,true),7⟩,⟨4,some 227,.mov (Zt 31),some (224,true),3⟩,⟨5,some 228,.indexA 7 none (Zt 226) (Zt 227),some (224,true),31⟩,⟨6,some 229,.fieldA 6 (Zt 228),some (224,true),63⟩,⟨7,some 230,.load none (Zt 229),some (224,true),127⟩,⟨8,some 231,.fieldA 2 (Zt 32),some (224,true),3⟩,⟨9,some 232,.load none (Zt 231),some (224,true),259⟩,⟨10,some 233,.mov (Zt 20),some (224,true),3⟩,⟨11,some 234,.fieldA 1 (Zt 32),some (224,true),3⟩,⟨12,some 235,.load none (Zt 234),some (224,true),2051⟩,⟨13,some 236,.bin .mul (Zt 233) (Zt 235),some (224,true),7171⟩,⟨14,some 237,.bin .add (Zt 232) (Zt 236),some (224,true),16131⟩,⟨15,some 238,.min [Zt 230,Zt 237],some (224,true),32767⟩,⟨16,some 239,.mov (Zt 33),some (224,true),3⟩,⟨17,some 240,.bin .geq (Zt 238) (Zt 239),some (224,true),131071⟩,Zd 18 241 262143 (.pick (Zt 224) (Zt 240) (.val (.bool false))),Zd 19 30 524287 (.mov (Zt 241))]))))))) (.ops [Zo 0 242 (.bin .add (Zt 192) (Zn 1)),Zm 1 192 242]))))))) (Zq [Zm 0 243 16,Zo 1 244 (.bin .neq (Zt 243) (Zn 2)),Zm 2 245 244,⟨3,some 246,.mov (Zt 29),some (245,false),0⟩,Zo 4 247 (.pick (Zt 245) (.val (.bool true)) (Zt 246)),Zm 5 248 247,⟨6,some 249,.mov (Zt 16),some (248,true),0⟩,⟨7,some 250,.bin .neq (Zt 249) (Zn 0),some (248,true),0⟩,⟨8,some 251,.mov (Zt 250),some (248,true),0⟩,⟨9,some 252,.mov (Zt 29),some (251,false),0⟩,⟨10,some 253,.not (Zt 252),some (251,false),0⟩,⟨11,some 254,.pick (Zt 251) (.val (.bool true)) (Zt 253),some (248,true),0⟩,Zo 12 255 (.pick (Zt 248) (Zt 254) (.val (.bool false))),Zm 13 256 255,⟨14,some 257,.mov (Zt 21),some (256,true),0⟩,⟨15,some 258,.bin .neq (Zt 257) (Zn 0),some (256,true),0⟩,⟨16,some 259,.mov (Zt 258),some (256,true),0⟩,⟨17,some 260,.mov (Zt 30),some (259,false),0⟩,⟨18,some 261,.pick (Zt 259) (.val (.bool true)) (Zt 260),some (256,true),0⟩,Zo 19 262 (.pick (Zt 256) (Zt 261) (.val (.bool false))),Zm 20 263 262,⟨21,some 264,Zc 21 [],some (263,true),0⟩,Zo 22 265 (.pick (Zt 263) (Zt 264) (.val (.bool false))),Zm 23 6 265] .ret)))))))))))))⟩
end Ev
end Go.Proofs.Ytlcjlcllbgjplaa

/- RoadTrue, gone through: its end. -/
namespace Go.Proofs.Ytlcjlcllbgjplaa
open Go
namespace Ev
namespace Ro
open K
attribute [local simp] ev1 wantG spineK spine float xnew xval xeff zaa zas zbc zaw zav addFl cellsOf pickC alive slLen slFt binI maxA maxK minA minK aeqK aeqS AV.cells spA zat fillA setAt bitsI nat_nn zbd AV.plain apart
set_option maxRecDepth 100000
set_option maxHeartbeats 4000000
theorem zsp:∀ (xs:List (Rd.Tr × Int)) (i:Nat) (q:Rd.Tr × Int),xs[i]?=some q→((stCs xs).drop (i * 3)).take 3=[.int .i64 q.1.stiff,.int .i64 q.1.rise,.int .i64 q.2]
 |[],i,v,h=>by simp at h
 |e::l,0,v,h=>by
  simp only[List.getElem?_cons_zero,Option.some.injEq] at h
  subst h
  simp[stCs]
 |e::l,i+1,v,h=>by
  have ih:=zsp l i v (by simpa using h)
  rw[show (i+1) * 3=i * 3+1+1+1 by omega]
  simpa [stCs] using ih
structure TrF (call:CallF) (r:Rd.Road) (ps:List (Rd.Tr × Int)) (ls:List Int) (ld:Int) (G:List AB) (xv:AV):Prop where
 height:∀ (p v:Nat) (q:Rd.Tr × Int),ps[p]?=some q→v<r.events.length→∃ lo hi:Int,(∀ K,call (.fn (.func 14) [] []) [xv,.int .i64 p,.int .i64 v] (G++K)=some (.ret (.tup [.agg [.int .i64 lo,.int .i64 hi],.int .i64 0]),G++K,[]))∧decide (lo≤Rd.heightR r q.1 q.2 ls (v+1)∧Rd.heightR r q.1 q.2 ls (v+1)≤hi)=true
 sinks:∀ (p:Nat) (q:Rd.Tr × Int),ps[p]?=some q→∃ lo hi:Int,(∀ K,call (.fn (.func 15) [] []) [xv,.int .i64 p,.int .i64 ld] (G++K)=some (.ret (.tup [.agg [.int .i64 lo,.int .i64 hi],.int .i64 0]),G++K,[]))∧decide (lo≤Rd.sunk q.1 ld∧Rd.sunk q.1 ld≤hi)=true
theorem TrF.app {call:CallF}{r:Rd.Road}{ps:List (Rd.Tr × Int)}{ls:List Int}{ld:Int}{G:List AB}{xv:AV}(h:TrF call r ps ls ld G xv)(J:List AB):TrF call r ps ls ld (G++J) xv:=by
 refine ⟨fun p v q h1 h2=>?_,fun p q h1=>?_⟩
 ·obtain ⟨lo,hi,a,b⟩:=h.height p v q h1 h2
  exact ⟨lo,hi,fun K=>by rw[List.append_assoc];exact a _,b⟩
 ·obtain ⟨lo,hi,a,b⟩:=h.sinks p q h1
  exact ⟨lo,hi,fun K=>by rw[List.append_assoc];exact a _,b⟩
def tsSt (a3 a7 ql np:Nat)(ld bz dz ez:Int)(A R:Bool)(m:Nat)(G:List AB):St:={ tm:=tmA 266 [(192,.int .i64 m),(191,.int .i64 np),(190,.sl ql 0 np 3),(30,.bool R),(29,.bool A),(21,.int .i64 ez),(20,.int .i64 dz),(16,.int .i64 bz),(10,.int .i64 ld),(7,.ptr a7 0),(3,.ptr a3 0)],df:=[],hp:=G,tc:=[] }
theorem zqa (C:Cfg)(call:CallF)(hI:InsideC call)(hS:LSunkC call)(r:Rd.Road)(hf:Rd.Fine r)(ps:List (Rd.Tr × Int))(hps:Rd.Parts r ps)(ls:List Int)(T:List (Rd.Tr × Int))(n0 a3 a7 ql qe np:Nat)(hnp:r.parts.length=np)(ld bz dz ez:Int)(hld:0≤ld∧ld≤60)(hdz:0≤dz∧dz≤10)(A R:Bool)(m:Nat)(q:Rd.Tr × Int)(hq:ps[m]?=some q)(h:Int)(hm:T[m]?=some (q.1,h))(hT:T.length=np)(hh:-600≤h∧h≤60)(G:List AB)(hn:n0≤G.length)
  (hF:TrF call r ps ls ld G (.agg [.vs 7 (r.parts.map ptE),.sl qe 0 r.events.length 7])) (h3:HB G a3 (.cells (roadCs r))) (h7:HB G a7 (.cells [.vs 7 (r.parts.map ptE),.sl qe 0 r.events.length 7])) (hl:HB G ql (.cells (stCs T))):
  Does (ev C call n0 none (atP [1,1,1,1,1,1,1,1,1,1,1,1,0,1,0,0] af4.body) (tsSt a3 a7 ql np ld bz dz ez A R m G))
   (fun e st=>e=.normal∧∃ K,{ st with tm:=keepT [3,7,10,16,20,21,29,30,190,191,192] st.tm }=tsSt a3 a7 ql np ld bz dz ez (A&&decide (Rd.sunk q.1 ld≤h)) (R&&decide (Rd.sunk q.1 ld≤min q.1.full (h+dz * q.1.rise))) (m+1) (G++K)):=by
 obtain ⟨p1,p2,p3,p4,p5,p6,p7,p8⟩:=Rd.parts_bound hf hps hq
 have hmp:m<r.parts.length:=by rw[← hps.1];exact (List.getElem?_eq_some_iff.1 hq).1
 have hgp:r.parts[m]?=some r.parts[m]:=List.getElem?_eq_getElem hmp
 have hgd:r.parts.getD m default=r.parts[m]:=by rw[List.getD_eq_getElem?_getD,hgp];rfl
 rw[hgd] at p8
 generalize r.parts[m]=pt at hgp p8
 have hgp':=ge_of hgp
 have hp4:=hf.parts
 obtain ⟨lo,hi,hsk,hin⟩:=hF.sinks m q hq
 have hin':=fun H=>hI H (Rd.sunk q.1 ld) lo hi
 rw[hin] at hin'
 have hsu:=fun H=>hS H q.1 ld p1 p2 hld.1 hld.2
 have hat:=zsp T m _ hm
 simp only at hat
 have hl3:(stCs T).length=np * 3:=by rw[zea,hT]
 have e0:m * 3+3≤np * 3:=by omega
 have e5:(m:Int)<np:=by omega
 have e6:(m:Int)<r.parts.length:=by omega
 have hwi:IntKind.i64.wrap (↑m+1)=↑m+1:=zau (by omega) (by omega)
 have m0:0≤dz * q.1.rise:=Int.mul_nonneg hdz.1 p3
 have m1:dz * q.1.rise≤10 * 5:=Int.mul_le_mul hdz.2 p4 p3 (by omega)
 have w1:IntKind.i64.wrap (dz * q.1.rise)=dz * q.1.rise:=zau (by omega) (by omega)
 have w2:IntKind.i64.wrap (h+dz * q.1.rise)=h+dz * q.1.rise:=zau (by omega) (by omega)
 rw[p8]
 generalize Rd.sunk q.1 ld=y at *
 have g0:¬ (G.length<n0):=by omega
 have g1:∀ n,¬ (G.length+n<n0):=fun n=>by omega
 have gl:=hl.lt
 have gq:¬ (ql=G.length):=by omega
 obtain ⟨A1,A2,A3⟩:=h3
 obtain ⟨B1,B2,B3⟩:=h7
 obtain ⟨D1,D2,D3⟩:=hl
 clear hF hI hS hf hps hq hm hT hh hin hld hdz p1 p2 p3 p4 p5 p6 p7 p8 hgd hp4 m0 m1 hn hnp gl
 generalize q.1.stiff=s1 at *
 generalize q.1.rise=s2 at *
 unfold af4 Zq Zm Zl Zo Zs Zd Ze Zc Zt Zn Zi tsSt
 simp only[atP,roadCs] at *
 cases A<;>cases R
 ·(repeat (first|((with_reducible apply zad);(focus ((with_reducible apply zar);(focus rfl);(focus rfl);(focus ((conv=>lhs;simp[*,List.getElem?_append_right,List.set_append_right,List.getElem?_cons_zero,List.getElem?_append_left,List.set_append_left,-getElem?_pos,↓zan,ptE,Nat.testBit_eq_decide_div_mod_eq])<;>exact rfl));(focus rfl);(focus rfl)));simp only[addFl])|(with_reducible apply zad;(focus ((conv=>lhs;simp[*,List.getElem?_append_right,List.set_append_right,List.getElem?_cons_zero,List.getElem?_append_left,List.set_append_left,-getElem?_pos,↓zan,ptE,Nat.testBit_eq_decide_div_mod_eq])<;>exact rfl));simp only[addFl])|((with_reducible first|apply zai|apply zak|apply zah|apply zaf|apply zac|apply zaj|apply zag|apply zam|(apply zae;· simp[*,zaa])|(apply zab;· simp[*,zaa]));try simp only[Then,Ops,OutB])|simp only[Nat.reduceEqDiff,reduceIte,OutB,Then]))
  refine ⟨by first|rfl|trivial,[.cells [.int .i64 s1,.int .i64 s2,.int .i64 h],.cells [.int .i64 lo,.int .i64 hi]],?_⟩
  simp only[Bool.false_and]
  (refine st_is ?_ ?_ ?_ ?_;(focus (simp[zap,zaq]));(focus rfl);(focus (first|rfl|(simp;done)|(simp[*];done)|(simp;rfl)|(simp[*];omega)|(simp;omega)));(focus (first|rfl|simp)))
 ·(repeat (first|((with_reducible apply zad);(focus ((with_reducible apply zar);(focus rfl);(focus rfl);(focus ((conv=>lhs;simp[*,List.getElem?_append_right,List.set_append_right,List.getElem?_cons_zero,List.getElem?_append_left,List.set_append_left,-getElem?_pos,↓zan,ptE,Nat.testBit_eq_decide_div_mod_eq])<;>exact rfl));(focus rfl);(focus rfl)));simp only[addFl])|(with_reducible apply zad;(focus ((conv=>lhs;simp[*,List.getElem?_append_right,List.set_append_right,List.getElem?_cons_zero,List.getElem?_append_left,List.set_append_left,-getElem?_pos,↓zan,ptE,Nat.testBit_eq_decide_div_mod_eq])<;>exact rfl));simp only[addFl])|((with_reducible first|apply zai|apply zak|apply zah|apply zaf|apply zac|apply zaj|apply zag|apply zam|(apply zae;· simp[*,zaa])|(apply zab;· simp[*,zaa]));try simp only[Then,Ops,OutB])|simp only[Nat.reduceEqDiff,reduceIte,OutB,Then]))
  refine ⟨by first|rfl|trivial,[.cells [.int .i64 s1,.int .i64 s2,.int .i64 h],.cells [.int .i64 lo,.int .i64 hi]],?_⟩
  simp only[Bool.false_and,Bool.true_and]
  (refine st_is ?_ ?_ ?_ ?_;(focus (simp[zap,zaq]));(focus rfl);(focus (first|rfl|(simp;done)|(simp[*];done)|(simp;rfl)|(simp[*];omega)|(simp;omega)));(focus (first|rfl|simp)))
 ·(repeat (first|((with_reducible apply zad);(focus ((with_reducible apply zar);(focus rfl);(focus rfl);(focus ((conv=>lhs;simp[*,List.getElem?_append_right,List.set_append_right,List.getElem?_cons_zero,List.getElem?_append_left,List.set_append_left,-getElem?_pos,↓zan,ptE,Nat.testBit_eq_decide_div_mod_eq])<;>exact rfl));(focus rfl);(focus rfl)));simp only[addFl])|(with_reducible apply zad;(focus ((conv=>lhs;simp[*,List.getElem?_append_right,List.set_append_right,List.getElem?_cons_zero,List.getElem?_append_left,List.set_append_left,-getElem?_pos,↓zan,ptE,Nat.testBit_eq_decide_div_mod_eq])<;>exact rfl));simp only[addFl])|((with_reducible first|apply zai|apply zak|apply zah|apply zaf|apply zac|apply zaj|apply zag|apply zam|(apply zae;· simp[*,zaa])|(apply zab;· simp[*,zaa]));try simp only[Then,Ops,OutB])|simp only[Nat.reduceEqDiff,reduceIte,OutB,Then]))
  refine ⟨by first|rfl|trivial,[.cells [.int .i64 s1,.int .i64 s2,.int .i64 h],.cells [.int .i64 lo,.int .i64 hi]],?_⟩
  simp only[Bool.false_and,Bool.true_and]
  (refine st_is ?_ ?_ ?_ ?_;(focus (simp[zap,zaq]));(focus rfl);(focus (first|rfl|(simp;done)|(simp[*];done)|(simp;rfl)|(simp[*];omega)|(simp;omega)));(focus (first|rfl|simp)))
 ·(repeat (first|((with_reducible apply zad);(focus ((with_reducible apply zar);(focus rfl);(focus rfl);(focus ((conv=>lhs;simp[*,List.getElem?_append_right,List.set_append_right,List.getElem?_cons_zero,List.getElem?_append_left,List.set_append_left,-getElem?_pos,↓zan,ptE,Nat.testBit_eq_decide_div_mod_eq])<;>exact rfl));(focus rfl);(focus rfl)));simp only[addFl])|(with_reducible apply zad;(focus ((conv=>lhs;simp[*,List.getElem?_append_right,List.set_append_right,List.getElem?_cons_zero,List.getElem?_append_left,List.set_append_left,-getElem?_pos,↓zan,ptE,Nat.testBit_eq_decide_div_mod_eq])<;>exact rfl));simp only[addFl])|((with_reducible first|apply zai|apply zak|apply zah|apply zaf|apply zac|apply zaj|apply zag|apply zam|(apply zae;· simp[*,zaa])|(apply zab;· simp[*,zaa]));try simp only[Then,Ops,OutB])|simp only[Nat.reduceEqDiff,reduceIte,OutB,Then]))
  refine ⟨by first|rfl|trivial,[.cells [.int .i64 s1,.int .i64 s2,.int .i64 h],.cells [.int .i64 lo,.int .i64 hi]],?_⟩
  simp only[Bool.true_and]
  (refine st_is ?_ ?_ ?_ ?_;(focus (simp[zap,zaq]));(focus rfl);(focus (first|rfl|(simp;done)|(simp[*];done)|(simp;rfl)|(simp[*];omega)|(simp;omega)));(focus (first|rfl|simp)))
end Ro
end Ev
end Go.Proofs.Ytlcjlcllbgjplaa
