/- The Go function RoadMore returns true, for every argument, in every world in which it is called; nothing that was there is turned. No condition. -/
import Derived.Test.YtlcjlcllbgjplaaRmPF
import Derived.Test.YtlcjlcllbgjplaaRmEA
import Derived.Test.YtlcjlcllbgjplaaProg
import Derived.KernelRfl
import Derived.Test.YtlcjlcllbgjplaaRmPE
/- Chapter 05: what a road bears: plain. -/
namespace Go.Proofs.Ytlcjlcllbgjplaa
open Go
namespace Rd
open Clm (Sp Hull spanL mem_span setOf)
theorem zzn {r:Road}(hc:canR r (everyR r)=true){load:Int}(h:sureR r 0 load=true):mayR r load=true:=by
 obtain ⟨ls,hl⟩:=(zjr r).1 hc
 rw[zcr] at h
 rw[zfb]
 refine ⟨ls,hl,fun i hi=>?_⟩
 obtain ⟨p,h',ht⟩:=hl.2 i hi
 exact ⟨p,h',ht,h ls hl i hi p h' ht⟩
theorem yai {r:Road}{load:Int}{ls:List Int}(h:All r ls):All (addR r (passE load load)) (ls++[load]):=(zdu (by simp[passE]) _).2 ⟨ls,load,rfl,h,fun _=>⟨Int.le_refl _,Int.le_refl _⟩,fun h=>absurd rfl h⟩
theorem ybo {r:Road}{load:Int}{ls:List Int}(h:All (addR r (passE load load)) ls):∃ l,ls=l++[load]∧All r l:=by
 obtain ⟨l,k,rfl,h1,h2,_⟩:=(zdu (by simp[passE]) ls).1 h
 have h3:=h2 rfl
 simp only[passE,Sp.has] at h3
 have:k=load:=by omega
 exact ⟨l,by rw[this],h1⟩
theorem zqm {r:Road}{load:Int}{l:List Int}(hl:l.length=r.events.length)(k:Int)(i:Nat)(p:Tr)(h:Int):Tru (addR r (passE load load)) (l++[k]) i p h↔Tru r l i p h:=by
 rw[zeq hl]
 exact ⟨fun h=>h.1,fun h=>⟨h,fun e=>by simp[passE] at e⟩⟩
theorem zne {r:Road}{m:Nat}(h:mostR r=some m):m≤60∧sureR r 0 m=true∧∀ j:Nat,m<j→j≤60→sureR r 0 j=false:=by
 unfold mostR at h
 obtain ⟨h1,i,h2,h3,h4⟩:=List.find?_eq_some_iff_getElem.1 h
 simp only[List.getElem_map,List.getElem_range] at h3
 simp only[List.length_map,List.length_range] at h2
 subst h3
 refine ⟨by omega,h1,fun j hj h60=>?_⟩
 have:=h4 (60 - j) (by omega)
 simp only[List.getElem_map,List.getElem_range] at this
 rw[show 60 - (60 - j)=j by omega] at this
 simpa using this
theorem zwy {r:Road}(h:mostR r=none):∀ j:Nat,j≤60→sureR r 0 j=false:=by
 unfold mostR at h
 rw[List.find?_eq_none] at h
 intro j hj
 have:=h j (List.mem_map.2 ⟨60 - j,List.mem_range.2 (by omega),by omega⟩)
 simpa using this
end Rd
end Go.Proofs.Ytlcjlcllbgjplaa

/- Chapter 05: more is known of a road: plain. -/
namespace Go.Proofs.Ytlcjlcllbgjplaa
open Go
namespace Rd
open Clm (Sp Hull spanL mem_span setOf)
theorem ycs {r:Road}{n:Nat}(hn:n≤60)(h:sureR r 0 n=true):∃ j,mostR r=some j∧n≤j:=by
 cases he:mostR r with
 |none=>rw[zwy he n hn] at h;cases h
 |some j=>
  refine ⟨j,rfl,Nat.not_lt.1 fun hj=>?_⟩
  rw[(zne he).2.2 n hj hn] at h;cases h
structure Sub (q r:Road):Prop where
 parts:q.parts.length=r.parts.length
 sub:∀ ls,All q ls→∃ l,All r l∧(∀ i p h,Tru q ls i p h→Tru r l i p h)∧(∀ p h,endR q p h ls=endR r p h l)∧∀ p h m,m≤r.events.length→heightR q p h ls m=heightR r p h l m
variable {q r:Road}
theorem Sub.can (hs:Sub q r)(h:canR q (everyR q)=true):canR r (everyR r)=true:=by
 obtain ⟨ls,hl⟩:=(zjr q).1 h
 obtain ⟨l,h1,_⟩:=hs.sub ls hl
 exact (zjr r).2 ⟨l,h1⟩
theorem Sub.sure (hs:Sub q r){d load:Int}(h:sureR r d load=true):sureR q d load=true:=by
 rw[zcr] at h ⊢
 intro ls hl i hi p h' ht
 obtain ⟨l,h1,h2,h3,_⟩:=hs.sub ls hl
 rw[h3]
 exact h l h1 i (by rw[← hs.parts];exact hi) p h' (h2 i p h' ht)
theorem Sub.may (hs:Sub q r){load:Int}(h:mayR q load=true):mayR r load=true:=by
 rw[zfb] at h ⊢
 obtain ⟨ls,hl,H⟩:=h
 obtain ⟨l,h1,h2,h3,_⟩:=hs.sub ls hl
 refine ⟨l,h1,fun i hi=>?_⟩
 obtain ⟨p,h',ht,h0⟩:=H i (by rw[hs.parts];exact hi)
 exact ⟨p,h',h2 i p h' ht,by rw[← h3];exact h0⟩
theorem Sub.bears (hs:Sub q r)(hc:canR q (everyR q)=true)(load:Int):bearsR r load=1∨bearsR q load=bearsR r load:=by
 unfold bearsR
 cases h1:sureR r 0 load with
 |true=>rw[hs.sure h1];exact .inr rfl
 |false=>
  cases h2:mayR r load with
  |true=>exact .inl rfl
  |false=>
   have h3:mayR q load=false:=by
    cases h:mayR q load with
    |false=>rfl
    |true=>rw[hs.may h] at h2;cases h2
   have h4:sureR q 0 load=false:=by
    cases h:sureR q 0 load with
    |false=>rfl
    |true=>rw[zzn hc h] at h3;cases h3
   rw[h3,h4];exact .inr rfl
theorem Sub.most (hs:Sub q r){m:Nat}(h:mostR r=some m):∃ j,mostR q=some j∧m≤j:=by
 obtain ⟨h1,h2,_⟩:=zne h
 exact ycs h1 (hs.sure h2)
theorem Sub.height (hs:Sub q r)(hc:canR q (everyR q)=true){i m:Nat}(hi:i<r.parts.length)(hm:m≤r.events.length):(heightsR r i m).lo≤(heightsR q i m).lo∧(heightsR q i m).hi≤(heightsR r i m).hi:=by
 have H:=zfp hc (by rw[hs.parts];exact hi:i<q.parts.length) m
 have K:=zfp (hs.can hc) hi m
 have e:∀ x,(∃ ls p h,All q ls∧Tru q ls i p h∧x=heightR q p h ls m)→(heightsR r i m).has x:=by
  rintro x ⟨ls,p,h,hl,ht,rfl⟩
  obtain ⟨l,h1,h2,_,h4⟩:=hs.sub ls hl
  exact K.all _ ⟨l,p,h,h1,h2 i p h ht,h4 p h m hm⟩
 have a:=e _ H.lo
 have b:=e _ H.hi
 simp only[Sp.has] at a b
 omega
theorem look_sub (r:Road){v:Evt}(hv:v.kind=2):Sub (addR r v) r:=by
 refine ⟨rfl,fun ls hl=>?_⟩
 obtain ⟨h1,h2⟩:=hl
 obtain ⟨l,k,rfl,h3,_⟩:=(zov r.events v ls).1 h1
 have ht:∀ i p h,Tru (addR r v) (l++[k]) i p h→Tru r l i p h:=fun i p h ht=>((zeq h3.1 k i p h).1 ht).1
 refine ⟨l,⟨h3,fun i hi=>?_⟩,ht,fun p h=>?_,fun p h m hm=>zea h3.1 k p h hm⟩
 ·obtain ⟨p,h,h4⟩:=h2 i hi
  exact ⟨p,h,ht i p h h4⟩
 ·have:=zhg (v:=v) h3.1 k p h
  unfold endR
  rw[show (addR r v).events.length=r.events.length+1 by simp[addR],this]
  unfold stepE
  rw[if_neg (by omega),if_neg (by omega)]
  rfl
theorem zfh (p:Tr):∀ (l:List Evt) (f:Nat→Evt→Evt) (_:∀ i e,(f i e).kind=e.kind∧(f i e).days=e.days) (ls:List Int) (h:Int) (m:Nat),after p ((l.mapIdx f).take m) ls h=after p (l.take m) ls h
 |[],f,_,ls,h,m=>by simp
 |e::l,f,hf,ls,h,0=>by simp
 |e::l,f,hf,ls,h,m+1=>by
  rw[List.mapIdx_cons,List.take_succ_cons,List.take_succ_cons]
  show after p _ ls.tail (stepE (f 0 e) p h (ls.headD 0))=after p _ ls.tail (stepE e p h (ls.headD 0))
  rw[zfh p l (fun i=>f (i+1)) (fun i e=>hf (i+1) e)]
  congr 1
  unfold stepE
  rw[(hf 0 e).1,(hf 0 e).2]
def narE (w i:Nat)(e:Evt):Evt:=if e.kind=0 then (if (w+i) % 2=0 then { e with load:=⟨min e.load.hi (e.load.lo+1),e.load.hi⟩ } else { e with load:=⟨e.load.lo,max e.load.lo (e.load.hi - 1)⟩ }) else e
theorem zlr (w i:Nat)(e:Evt):(narE w i e).kind=e.kind∧(narE w i e).days=e.days∧(narE w i e).part=e.part∧(narE w i e).shows=e.shows∧(e.kind=0→e.load.lo≤e.load.hi→e.load.lo≤(narE w i e).load.lo∧(narE w i e).load.lo≤(narE w i e).load.hi∧(narE w i e).load.hi≤e.load.hi):=by
 unfold narE
 split
 ·split
  ·exact ⟨rfl,rfl,rfl,rfl,fun _ h=>by simp only;omega⟩
  ·exact ⟨rfl,rfl,rfl,rfl,fun _ h=>by simp only;omega⟩
 ·exact ⟨rfl,rfl,rfl,rfl,fun h=>absurd h ‹_›⟩
def narR (w:Nat)(r:Road):Road:=⟨r.parts,r.events.mapIdx (narE w)⟩
theorem nar_sub (hr:Fine r)(w:Nat):Sub (narR w r) r:=by
 have hh:∀ p h ls m,heightR (narR w r) p h ls m=heightR r p h ls m:=fun p h ls m=>zfh p _ _ (fun i e=>⟨(zlr w i e).1,(zlr w i e).2.1⟩) ls h m
 have hlen:(narR w r).events.length=r.events.length:=by simp[narR]
 have hn:∀ {j e},r.events[j]?=some e→(narR w r).events[j]?=some (narE w j e):=fun {j e} h=>by
  unfold narR;simp only;rw[List.getElem?_mapIdx,h];rfl
 have ht:∀ ls i p h,Tru (narR w r) ls i p h→Tru r ls i p h:=by
  rintro ls i p h ⟨h1,h2,h3⟩
  refine ⟨h1,h2,fun j v hv hk hp=>?_⟩
  obtain ⟨a,_,c,d,_⟩:=zlr w j v
  have:=h3 j _ (hn hv) (by rw[a];exact hk) (by rw[c];exact hp)
  rwa [hh,d] at this
 refine ⟨rfl,fun ls hl=>⟨ls,⟨⟨by rw[hl.1.1,hlen],fun i v hv=>?_⟩,fun i hi=>?_⟩,ht ls,fun p h=>?_,fun p h m _=>hh p h ls m⟩⟩
 ·obtain ⟨h1,h2⟩:=hl.1.2 i _ (hn hv)
  obtain ⟨a,_,_,_,e⟩:=zlr w i v
  refine ⟨fun hk=>?_,fun hk=>h2 (by rw[a];exact hk)⟩
  have h3:=h1 (by rw[a];exact hk)
  have hv2:=hr.event v (List.mem_of_getElem? hv)
  have h4:=e hk (by rcases hv2 with h|h|h<;>omega)
  simp only[Sp.has] at h3 ⊢
  omega
 ·obtain ⟨p,h,h1⟩:=hl.2 i hi
  exact ⟨p,h,ht ls i p h h1⟩
 ·show heightR (narR w r) p h ls _=heightR r p h ls _
  rw[hh,hlen]
def turnE (n:Nat)(e:Evt):Evt:=if e.kind=2 then { e with part:=(n:Int) - 1 - e.part } else e
theorem zdi (n:Nat)(e:Evt):(turnE n e).kind=e.kind∧(turnE n e).days=e.days∧(turnE n e).shows=e.shows∧(turnE n e).load=e.load∧(e.kind=2→(turnE n e).part=(n:Int) - 1 - e.part):=by
 unfold turnE
 split
 ·exact ⟨rfl,rfl,rfl,rfl,fun _=>rfl⟩
 ·exact ⟨rfl,rfl,rfl,rfl,fun h=>absurd h ‹_›⟩
def turnR (r:Road):Road:=⟨r.parts.reverse,r.events.map (turnE r.parts.length)⟩
theorem zdb (r:Road)(p:Tr)(h:Int)(ls:List Int)(m:Nat):heightR (turnR r) p h ls m=heightR r p h ls m:=by
 have:=zfh p r.events (fun _=>turnE r.parts.length) (fun _ e=>⟨(zdi _ e).1,(zdi _ e).2.1⟩) ls h m
 unfold heightR turnR
 simp only
 rw[← this,List.mapIdx_eq_zipIdx_map]
 congr 2
 exact List.ext_getElem? fun i=>by simp;cases r.events[i]?<;>rfl
theorem turn_len (r:Road):(turnR r).parts.length=r.parts.length∧(turnR r).events.length=r.events.length:=by simp[turnR]
theorem zia (r:Road)(p:Tr)(h:Int)(ls:List Int):endR (turnR r) p h ls=endR r p h ls:=by unfold endR;rw[zdb,(turn_len r).2]
theorem zuu {i:Nat}(hi:i<r.parts.length):(turnR r).parts.getD i default=r.parts.getD (r.parts.length - 1 - i) default:=by
 unfold turnR
 simp only[List.getD_eq_getElem?_getD]
 rw[List.getElem?_reverse hi]
theorem turn_get (r:Road)(j:Nat):(turnR r).events[j]?=r.events[j]?.map (turnE r.parts.length):=by simp[turnR]
theorem zdg {i:Nat}(hi:i<r.parts.length)(ls:List Int)(p:Tr)(h:Int):Tru (turnR r) ls i p h↔Tru r ls (r.parts.length - 1 - i) p h:=by
 unfold Tru
 rw[zuu hi]
 have e:rightE (turnR r) i p ls h↔rightE r (r.parts.length - 1 - i:Nat) p ls h:=by
  constructor
  ·intro H j v hv hk hp
   obtain ⟨a,b,c,d,e⟩:=zdi r.parts.length v
   have:=H j (turnE r.parts.length v) (by rw[turn_get,hv];rfl) (by rw[a];exact hk) (by rw[e hk,hp];omega)
   rwa [zdb,c] at this
  ·intro H j v hv hk hp
   rw[turn_get] at hv
   obtain ⟨u,hu,rfl⟩:=Option.map_eq_some_iff.1 hv
   obtain ⟨a,b,c,d,e⟩:=zdi r.parts.length u
   rw[a] at hk
   rw[e hk] at hp
   rw[zdb,c]
   exact H j u hu hk (by omega)
 rw[e]
theorem zzl (r:Road)(ls:List Int):Lds (turnR r).events ls↔Lds r.events ls:=by
 unfold Lds
 rw[(turn_len r).2]
 refine and_congr_right fun _=>⟨fun H i v hv=>?_,fun H i v hv=>?_⟩
 ·obtain ⟨a,b,c,d,e⟩:=zdi r.parts.length v
  have:=H i (turnE r.parts.length v) (by rw[turn_get,hv];rfl)
  rwa [a,d] at this
 ·rw[turn_get] at hv
  obtain ⟨u,hu,rfl⟩:=Option.map_eq_some_iff.1 hv
  obtain ⟨a,b,c,d,e⟩:=zdi r.parts.length u
  rw[a,d]
  exact H i u hu
theorem zdh (r:Road)(ls:List Int):All (turnR r) ls↔All r ls:=by
 unfold All
 rw[zzl,(turn_len r).1]
 refine and_congr_right fun _=>⟨fun H i hi=>?_,fun H i hi=>?_⟩
 ·obtain ⟨p,h,ht⟩:=H (r.parts.length - 1 - i) (by omega)
  rw[zdg (by omega),show r.parts.length - 1 - (r.parts.length - 1 - i)=i by omega] at ht
  exact ⟨p,h,ht⟩
 ·obtain ⟨p,h,ht⟩:=H (r.parts.length - 1 - i) (by omega)
  exact ⟨p,h,(zdg hi ls p h).2 ht⟩
theorem turn_can (r:Road):canR (turnR r) (everyR (turnR r))=canR r (everyR r):=can_eq ⟨fun ⟨l,h⟩=>⟨l,(zdh r l).1 h⟩,fun ⟨l,h⟩=>⟨l,(zdh r l).2 h⟩⟩
theorem zmj (r:Road)(d load:Int):sureR (turnR r) d load=sureR r d load:=by
 rw[Bool.eq_iff_iff,zcr,zcr,(turn_len r).1]
 constructor
 ·intro H ls hl i hi p h ht
  have:=H ls ((zdh r ls).2 hl) (r.parts.length - 1 - i) (by omega) p h ((zdg (by omega) ls p h).2 (by rw[show r.parts.length - 1 - (r.parts.length - 1 - i)=i by omega];exact ht))
  rwa [zia] at this
 ·intro H ls hl i hi p h ht
  rw[zia]
  exact H ls ((zdh r ls).1 hl) _ (by omega) p h ((zdg hi ls p h).1 ht)
theorem zzk (r:Road)(load:Int):mayR (turnR r) load=mayR r load:=by
 rw[Bool.eq_iff_iff,zfb,zfb,(turn_len r).1]
 constructor
 ·rintro ⟨ls,hl,H⟩
  refine ⟨ls,(zdh r ls).1 hl,fun i hi=>?_⟩
  obtain ⟨p,h,ht,h0⟩:=H (r.parts.length - 1 - i) (by omega)
  rw[zdg (by omega),show r.parts.length - 1 - (r.parts.length - 1 - i)=i by omega] at ht
  exact ⟨p,h,ht,by rw[← zia];exact h0⟩
 ·rintro ⟨ls,hl,H⟩
  refine ⟨ls,(zdh r ls).2 hl,fun i hi=>?_⟩
  obtain ⟨p,h,ht,h0⟩:=H (r.parts.length - 1 - i) (by omega)
  exact ⟨p,h,(zdg hi ls p h).2 ht,by rw[zia];exact h0⟩
theorem turn_bears (r:Road)(load:Int):bearsR (turnR r) load=bearsR r load:=by unfold bearsR;rw[zmj,zzk]
theorem turn_most (r:Road):mostR (turnR r)=mostR r:=by unfold mostR;simp only[zmj]
theorem turn_heights (hc:canR r (everyR r)=true){i:Nat}(hi:i<r.parts.length)(m:Nat):heightsR (turnR r) (r.parts.length - 1 - i) m=heightsR r i m:=by
 refine (zfp (by rw[turn_can];exact hc) (by rw[(turn_len r).1];omega) m).uniq ((zfp hc hi m).congr fun x=>?_)
 constructor
 ·rintro ⟨ls,p,h,hl,ht,rfl⟩
  refine ⟨ls,p,h,(zdh r ls).2 hl,(zdg (by omega) ls p h).2 ?_,(zdb r p h ls m).symm⟩
  rw[show r.parts.length - 1 - (r.parts.length - 1 - i)=i by omega];exact ht
 ·rintro ⟨ls,p,h,hl,ht,rfl⟩
  rw[zdg (by omega),show r.parts.length - 1 - (r.parts.length - 1 - i)=i by omega] at ht
  exact ⟨ls,p,h,(zdh r ls).1 hl,ht,zdb r p h ls m⟩
theorem turn_fine (hr:Fine r):Fine (turnR r) where
 parts:=by rw[(turn_len r).1];exact hr.parts
 events:=by rw[(turn_len r).2];exact hr.events
 part p hp:=hr.part p (by simpa [turnR] using hp)
 event v hv:=by
  obtain ⟨u,hu,rfl⟩:=List.mem_map.1 hv
  obtain ⟨a,b,c,d,e⟩:=zdi r.parts.length u
  rw[a,b,c,d,(turn_len r).1]
  rcases hr.event u hu with h|h|h
  ·exact .inl h
  ·exact .inr (.inl h)
  ·exact .inr (.inr ⟨h.1,by rw[e h.1];omega,h.2.2⟩)
 doubts:=by
  have:=hr.doubts
  unfold turnR
  simp only[List.filter_map,List.length_map]
  rw [show ((fun v : Evt => decide (v.kind = 0 ∧ v.load.lo < v.load.hi)) ∘ turnE r.parts.length) = fun v => decide (v.kind = 0 ∧ v.load.lo < v.load.hi) from funext fun v => by
   obtain ⟨a,b,c,d,e⟩:=zdi r.parts.length v
   simp only[Function.comp,a,d]]
  exact this
theorem zgb {p:Tr}(h0:0≤p.rise){a b c d:Int}(h1:a≤b)(h2:c≤d):rested p a c≤rested p b d:=by
 have:=Int.mul_le_mul_of_nonneg_right h2 h0
 unfold rested;omega
theorem zzy (r:Road)(n load:Int):mayR (addR r (restE n)) load=true↔∃ ls,All r ls∧∀ i,i<r.parts.length→∃ p h,Tru r ls i p h∧0≤rested p (endR r p h ls) n - sunk p load:=by
 rw[zfb]
 constructor
 ·rintro ⟨ls,hl,H⟩
  obtain ⟨l,k,rfl,h1,_⟩:=(zdu (by simp[restE]) ls).1 hl
  refine ⟨l,h1,fun i hi=>?_⟩
  obtain ⟨p,h,ht,h0⟩:=H i hi
  rw[zif h1.1.1,zdl] at h0
  exact ⟨p,h,((zeq h1.1.1 k i p h).1 ht).1,h0⟩
 ·rintro ⟨l,hl,H⟩
  refine ⟨l++[0],(zdu (by simp[restE]) _).2 ⟨l,0,rfl,hl,by simp[restE],fun _=>rfl⟩,fun i hi=>?_⟩
  obtain ⟨p,h,ht,h0⟩:=H i hi
  exact ⟨p,h,(zeq hl.1.1 0 i p h).2 ⟨ht,by simp[restE]⟩,by rw[zif hl.1.1,zdl];exact h0⟩
theorem rest_bears (hr:Fine r)(load:Int):bearsR r load≤bearsR (addR r (restE 1)) load:=by
 have h1:sureR r 0 load=true→sureR (addR r (restE 1)) 0 load=true:=by
  rw[zvw,zcr,zcr]
  intro H ls hl i hi p h ht
  have:=H ls hl i hi p h ht
  have:=zgb (zlf hr hi ht).2.2.1 (Int.le_refl (endR r p h ls)) (show (0:Int)≤1 by omega)
  omega
 have h2:mayR r load=true→mayR (addR r (restE 1)) load=true:=by
  rw[zzy,zfb]
  rintro ⟨ls,hl,H⟩
  refine ⟨ls,hl,fun i hi=>?_⟩
  obtain ⟨p,h,ht,h0⟩:=H i hi
  have:=zgb (zlf hr hi ht).2.2.1 (Int.le_refl (endR r p h ls)) (show (0:Int)≤1 by omega)
  exact ⟨p,h,ht,by omega⟩
 unfold bearsR
 cases a:sureR r 0 load with
 |true=>rw[h1 a];simp
 |false=>
  cases b:mayR r load with
  |true=>rw[h2 b];simp;split<;>decide
  |false=>simp;split<;>(try split)<;>decide
theorem pass_bears (hr:Fine r)(load:Int):bearsR (addR r (passE 1 1)) load≤bearsR r load:=by
 have hs:∀ {ls i p h},i<r.parts.length→Tru r ls i p h→rested p (endR r p h ls - sunk p 1) 0≤rested p (endR r p h ls) 0:=fun {ls i p h} hi ht=>by
  have h0:=zlf hr hi ht
  exact zgb h0.2.2.1 (by have:=sunk_nn h0.1 (show (0:Int)≤1 by omega);omega) (Int.le_refl _)
 have h1:sureR (addR r (passE 1 1)) 0 load=true→sureR r 0 load=true:=by
  rw[zcr,zcr]
  intro H ls hl i hi p h ht
  have:=H _ (yai hl) i hi p h ((zqm hl.1.1 1 i p h).2 ht)
  rw[zrj hl.1.1] at this
  have:=hs hi ht
  omega
 have h2:mayR (addR r (passE 1 1)) load=true→mayR r load=true:=by
  rw[zfb,zfb]
  rintro ⟨ls,hl,H⟩
  obtain ⟨l,rfl,hl2⟩:=ybo hl
  refine ⟨l,hl2,fun i hi=>?_⟩
  obtain ⟨p,h,ht,h0⟩:=H i hi
  have ht2:=(zqm hl2.1.1 1 i p h).1 ht
  rw[zrj hl2.1.1] at h0
  have:=hs hi ht2
  exact ⟨p,h,ht2,by omega⟩
 unfold bearsR
 cases a:sureR (addR r (passE 1 1)) 0 load with
 |true=>rw[h1 a];simp
 |false=>
  cases b:mayR (addR r (passE 1 1)) load with
  |true=>rw[h2 b];simp;split<;>decide
  |false=>simp;split<;>(try split)<;>decide
end Rd
end Go.Proofs.Ytlcjlcllbgjplaa

/- The code of functions of the laws, for the evaluator. Printed by program. -/
namespace Go.Proofs.Ytlcjlcllbgjplaa
open Go
namespace Ev
def af10:AFunc:=⟨414,[.tmp 8],Zq [Zo 0 4 (.box (Zt 0)),Zo 1 5 (.box (Zt 1)),Zo 2 8 (.mov (.val (.bool false)))] (.seq (Zq [Zo 0 49 (.load (some 2) (Zt 4)),Zo 1 50 (Zc 22 [Zt 49]),Zm 2 51 50,⟨3,some 52,.load (some 2) (Zt 4),some (51,false),0⟩,⟨4,some 53,Zc 23 [Zt 52],some (51,false),0⟩,⟨5,some 54,.not (Zt 53),some (51,false),0⟩,Zo 6 55 (.pick (Zt 51) (.val (.bool true)) (Zt 54))] (.cond (Zt 55) (Zq [Zo 0 56 (Zc 21 []),Zm 1 8 56] .ret) .skip)) (Zq [Zo 0 57 (.fieldA 0 (Zt 4)),Zl 1 58 57,Zo 2 59 (.len (Zt 58)),Zm 3 60 3,Zo 4 61 (.conv .i64 (Zt 60)),Zo 5 62 (.bin .rem (Zt 61) (Zn 61)),Zm 6 9 59,Zm 7 10 62] (Zq [Zm 0 63 2,Zo 1 64 (.conv .i64 (Zt 63)),Zm 2 65 9,Zo 3 66 (.bin .rem (Zt 64) (Zt 65)),Zm 4 11 66] (Zq [Zo 0 67 (.fieldA 0 (Zt 5)),Zs 1 (.store 1 (Zt 67) (Zn 2))] (.seq (.draw [Zo 0 68 (.load (some 2) (Zt 4)),Zo 1 69 (.load (some 7) (Zt 5)),Zo 3 71 (.load (some 2) (Zt 4)),Zo 4 72 (.load (some 2) (Zt 4)),Zo 5 12 (.alloc [.nils,.nils]),Zo 6 13 (.alloc [.nils,.nils]),Zo 7 14 (.alloc [.nils,.nils]),Zd 2 70 3 (Zc 29 [Zt 68,Zt 69]),Ze 8 231 (.store 2 (Zt 12) (Zt 70)),Ze 9 495 (.store 2 (Zt 13) (Zt 71)),Ze 10 1023 (.store 2 (Zt 14) (Zt 72))]) (Zq [Zo 0 73 (.buildSl 7 0 [Zi 0,Zi 0,Zi 0,Zi 0,Zi 0,Zi 0,Zi 0] []),Zo 1 74 (.fieldA 1 (Zt 4)),Zl 2 75 74,Zo 3 76 (.append 7 (Zt 73) (Zt 75)),Zo 4 77 (.fieldA 1 (Zt 13)),Zs 5 (.store 1 (Zt 77) (Zt 76))] (.seq (Zq [Zo 0 78 (.fieldA 1 (Zt 13)),Zl 1 79 78,Zo 2 80 (.len (Zt 79)),Zo 3 81 (.mov (Zn 0))] (.block 0 (.loop [2,4,9,10,11,12,13,14,80,81] (Zq [Zo 0 82 (.bin .lss (Zt 81) (Zt 80))] (.seq (.cond (Zt 82) .skip (.exit 0)) (.seq (.block 1 (Zq [Zm 0 83 81,Zm 1 15 83] (Zq [Zo 0 84 (.fieldA 1 (Zt 13)),Zl 1 85 84,Zm 2 86 15,Zo 3 87 (.indexA 7 none (Zt 85) (Zt 86)),Zo 4 88 (.fieldA 1 (Zt 87)),Zm 5 16 88] (Zq [Zo 0 89 (.fieldA 1 (Zt 13)),Zl 1 90 89,Zm 2 91 15,Zo 3 92 (.indexA 7 none (Zt 90) (Zt 91)),Zo 4 93 (.fieldA 0 (Zt 92)),Zl 5 94 93,Zo 6 95 (.bin .eql (Zt 94) (Zn 0))] (.cond (Zt 95) (Zq [Zm 0 96 2,Zo 1 97 (.conv .i64 (Zt 96)),Zm 2 98 15,Zo 3 99 (.bin .add (Zt 97) (Zt 98)),Zo 4 100 (.bin .rem (Zt 99) (Zn 2)),Zo 5 101 (.bin .eql (Zt 100) (Zn 0))] (.cond (Zt 101) (.draw [Zm 0 102 16,Zm 1 103 16,Zd 2 104 2 (.nilck (Zt 103)),Zd 3 105 6 (.fieldA 1 (Zt 104)),Zd 4 106 14 (.load none (Zt 105)),Zm 5 107 16,Zd 6 108 32 (.nilck (Zt 107)),Zd 7 109 96 (.fieldA 0 (Zt 108)),Zd 8 110 224 (.load none (Zt 109)),Zd 9 111 480 (.bin .add (Zt 110) (Zn 1)),Zd 10 112 1022 (.min [Zt 106,Zt 111]),Zd 11 113 2047 (.nilck (Zt 102)),Zd 12 114 4095 (.fieldA 0 (Zt 113)),Ze 13 8191 (.store 1 (Zt 114) (Zt 112))]) (.draw [Zm 0 115 16,Zm 1 116 16,Zd 2 117 2 (.nilck (Zt 116)),Zd 3 118 6 (.fieldA 0 (Zt 117)),Zd 4 119 14 (.load none (Zt 118)),Zm 5 120 16,Zd 6 121 32 (.nilck (Zt 120)),Zd 7 122 96 (.fieldA 1 (Zt 121)),Zd 8 123 224 (.load none (Zt 122)),Zd 9 124 480 (.bin .sub (Zt 123) (Zn 1)),Zd 10 125 1022 (.max [Zt 119,Zt 124]),Zd 11 126 2047 (.nilck (Zt 115)),Zd 12 127 4095 (.fieldA 1 (Zt 126)),Ze 13 8191 (.store 1 (Zt 127) (Zt 125))]))) .skip))))) (.ops [Zo 0 128 (.bin .add (Zt 81) (Zn 1)),Zm 1 81 128]))))))) (Zq [Zo 0 129 (.fieldA 0 (Zt 14)),Zs 1 (.store 1 (Zt 129) (.val .nils)),Zo 2 130 (.fieldA 1 (Zt 14)),Zs 3 (.store 1 (Zt 130) (.val .nils))] (.seq (Zq [Zo 0 131 (.fieldA 0 (Zt 4)),Zl 1 132 131,Zo 2 133 (.len (Zt 132)),Zo 3 134 (.mov (Zn 0))] (.block 2 (.loop [4,9,10,11,12,13,14,133,134] (Zq [Zo 0 135 (.bin .lss (Zt 134) (Zt 133))] (.seq (.cond (Zt 135) .skip (.exit 2)) (.seq (.block 3 (Zq [Zm 0 136 134,Zm 1 17 136] (.draw [Zo 0 137 (.fieldA 0 (Zt 14)),Zd 1 138 1 (.load none (Zt 137)),Zo 2 139 (.fieldA 0 (Zt 4)),Zd 3 140 4 (.load none (Zt 139)),Zm 4 141 9,Zd 5 142 16 (.bin .sub (Zt 141) (Zn 1)),Zm 6 143 17,Zd 7 144 112 (.bin .sub (Zt 142) (Zt 143)),Zd 8 145 252 (.indexA 7 none (Zt 140) (Zt 144)),Zd 9 146 508 (.load (some 7) (Zt 145)),Zd 10 147 1020 (.buildSl 7 1 [Zi 0,Zi 0,Zi 0,Zi 0,Zi 0,Zi 0,Zi 0] [(0,Zt 146)]),Zd 11 148 2047 (.append 7 (Zt 138) (Zt 147)),Zd 12 149 4095 (.fieldA 0 (Zt 14)),Ze 13 8191 (.store 1 (Zt 149) (Zt 148))]))) (.ops [Zo 0 150 (.bin .add (Zt 134) (Zn 1)),Zm 1 134 150]))))))) (.seq (Zq [Zo 0 151 (.fieldA 1 (Zt 4)),Zl 1 152 151,Zo 2 153 (.len (Zt 152)),Zo 3 154 (.mov (Zn 0))] (.block 4 (.loop [4,9,10,11,12,13,14,152,153,154] (Zq [Zo 0 155 (.bin .lss (Zt 154) (Zt 153))] (.seq (.cond (Zt 155) .skip (.exit 4)) (.seq (.block 5 (Zq [Zo 0 156 (.indexA 7 none (Zt 152) (Zt 154)),Zo 1 157 (.load (some 7) (Zt 156)),Zo 2 19 (.alloc [Zi 0,Zi 0,Zi 0,Zi 0,Zi 0,Zi 0,Zi 0]),Zs 3 (.store 7 (Zt 19) (Zt 157))] (.seq (Zq [Zo 0 158 (.fieldA 0 (Zt 19)),Zl 1 159 158,Zo 2 160 (.bin .eql (Zt 159) (Zn 2))] (.cond (Zt 160) (.ops [Zm 0 161 9,Zo 1 162 (.bin .sub (Zt 161) (Zn 1)),Zo 2 163 (.fieldA 4 (Zt 19)),Zl 3 164 163,Zo 4 165 (.bin .sub (Zt 162) (Zt 164)),Zo 5 166 (.fieldA 4 (Zt 19)),Zs 6 (.store 1 (Zt 166) (Zt 165))]) .skip)) (.ops [Zo 0 167 (.fieldA 1 (Zt 14)),Zl 1 168 167,Zo 2 169 (.load (some 7) (Zt 19)),Zo 3 170 (.buildSl 7 1 [Zi 0,Zi 0,Zi 0,Zi 0,Zi 0,Zi 0,Zi 0] [(0,Zt 169)]),Zo 4 171 (.append 7 (Zt 168) (Zt 170)),Zo 5 172 (.fieldA 1 (Zt 14)),Zs 6 (.store 1 (Zt 172) (Zt 171))])))) (.ops [Zo 0 173 (.bin .add (Zt 154) (Zn 1)),Zm 1 154 173]))))))) (.seq (.draw [Zo 0 174 (.buildSl 7 0 [Zi 0,Zi 0,Zi 0,Zi 0,Zi 0,Zi 0,Zi 0] []),Zo 1 175 (.fieldA 0 (Zt 4)),Zd 2 176 2 (.load none (Zt 175)),Zo 4 178 (.buildSl 7 0 [Zi 0,Zi 0,Zi 0,Zi 0,Zi 0,Zi 0,Zi 0] []),Zo 5 179 (.fieldA 1 (Zt 4)),Zd 6 180 32 (.load none (Zt 179)),Zd 3 177 7 (.append 7 (Zt 174) (Zt 176)),Zd 7 181 127 (.append 7 (Zt 178) (Zt 180)),Zd 8 20 255 (.mov (Zt 177)),Zd 9 21 511 (.mov (Zt 181))]) (Zq [Zo 0 183 (.load (some 2) (Zt 4)),Zm 1 184 10,Zo 2 185 (Zc 16 [Zt 183,Zt 184]),Zm 3 182 185,Zo 4 186 (.extract (Zt 182) 0),Zo 5 187 (.extract (Zt 182) 1),Zm 6 22 186,Zm 7 23 187] (Zq [Zo 0 189 (.load (some 2) (Zt 4)),Zo 1 190 (Zc 19 [Zt 189]),Zm 2 188 190,Zo 3 191 (.extract (Zt 188) 0),Zo 4 192 (.extract (Zt 188) 1),Zm 5 24 191,Zm 6 25 192] (Zq [Zo 0 193 (.fieldA 1 (Zt 4)),Zl 1 194 193,Zo 2 195 (.len (Zt 194)),Zo 3 196 (.bin .sub (Zt 195) (Zn 1)),Zm 4 26 196] (Zq [Zo 0 198 (.load (some 2) (Zt 4)),Zm 1 199 11,Zm 2 200 26,Zo 3 201 (Zc 14 [Zt 198,Zt 199,Zt 200]),Zm 4 197 201,Zo 5 202 (.extract (Zt 197) 0),Zo 6 203 (.extract (Zt 197) 1),Zo 7 27 (.alloc [Zi 0,Zi 0]),Zs 8 (.store 2 (Zt 27) (Zt 202)),Zm 9 28 203] (.seq (Zq [Zo 0 204 (.load (some 2) (Zt 12)),Zo 1 205 (.load (some 2) (Zt 13)),Zo 2 206 (.buildSl 2 2 [.nils,.nils] [(0,Zt 204),(1,Zt 205)]),Zo 3 207 (.len (Zt 206)),Zo 4 208 (.mov (Zn 0))] (.block 6 (.loop [4,9,10,11,14,20,21,22,23,24,25,26,27,28,206,207,208] (Zq [Zo 0 209 (.bin .lss (Zt 208) (Zt 207))] (.seq (.cond (Zt 209) .skip (.exit 6)) (.seq (.block 7 (Zq [Zo 0 210 (.indexA 2 none (Zt 206) (Zt 208)),Zo 1 211 (.load (some 2) (Zt 210)),Zo 2 30 (.alloc [.nils,.nils]),Zs 3 (.store 2 (Zt 30) (Zt 211))] (.seq (Zq [Zo 0 212 (.load (some 2) (Zt 30)),Zo 1 213 (Zc 23 [Zt 212]),Zo 2 214 (.not (Zt 213))] (.cond (Zt 214) (.exit 7) .skip)) (Zq [Zo 0 216 (.load (some 2) (Zt 30)),Zm 1 217 10,Zo 2 218 (Zc 16 [Zt 216,Zt 217]),Zm 3 215 218,Zo 4 219 (.extract (Zt 215) 0),Zo 5 220 (.extract (Zt 215) 1),Zm 6 31 219,Zm 7 32 220] (Zq [Zo 0 222 (.load (some 2) (Zt 30)),Zo 1 223 (Zc 19 [Zt 222]),Zm 2 221 223,Zo 3 224 (.extract (Zt 221) 0),Zo 4 225 (.extract (Zt 221) 1),Zm 5 33 224,Zm 6 34 225] (Zq [Zo 0 227 (.load (some 2) (Zt 30)),Zm 1 228 11,Zm 2 229 26,Zo 3 230 (Zc 14 [Zt 227,Zt 228,Zt 229]),Zm 4 226 230,Zo 5 231 (.extract (Zt 226) 0),Zo 6 232 (.extract (Zt 226) 1),Zo 7 35 (.alloc [Zi 0,Zi 0]),Zs 8 (.store 2 (Zt 35) (Zt 231)),Zm 9 36 232] (Zq [Zm 0 233 32,Zo 1 234 (.bin .neq (Zt 233) (Zn 0)),Zm 2 235 234,⟨3,some 236,.mov (Zt 32),some (235,true),0⟩,⟨4,some 237,.bin .neq (Zt 236) (Zn 10),some (235,true),0⟩,Zo 5 238 (.pick (Zt 235) (Zt 237) (.val (.bool false))),Zm 6 239 238,⟨7,some 240,.mov (Zt 32),some (239,false),0⟩,⟨8,some 241,.bin .eql (Zt 240) (Zn 0),some (239,false),0⟩,⟨9,some 242,.mov (Zt 241),some (239,false),0⟩,⟨10,some 243,.mov (Zt 23),some (242,true),0⟩,⟨11,some 244,.bin .neq (Zt 243) (Zn 0),some (242,true),0⟩,⟨12,some 245,.mov (Zt 244),some (242,true),0⟩,⟨13,some 246,.mov (Zt 22),some (245,false),0⟩,⟨14,some 247,.bin .neq (Zt 246) (Zn 1),some (245,false),0⟩,⟨15,some 248,.mov (Zt 247),some (245,false),0⟩,⟨16,some 249,.mov (Zt 31),some (248,true),0⟩,⟨17,some 250,.mov (Zt 22),some (248,true),0⟩,⟨18,some 251,.bin .neq (Zt 249) (Zt 250),some (248,true),0⟩,⟨19,some 252,.pick (Zt 248) (Zt 251) (.val (.bool false)),some (245,false),0⟩,⟨20,some 253,.pick (Zt 245) (.val (.bool true)) (Zt 252),some (242,true),0⟩,⟨21,some 254,.mov (Zt 253),some (242,true),0⟩,⟨22,some 255,.mov (Zt 25),some (254,false),0⟩,⟨23,some 256,.bin .eql (Zt 255) (Zn 0),some (254,false),0⟩,⟨24,some 257,.mov (Zt 256),some (254,false),0⟩,⟨25,some 258,.mov (Zt 34),some (257,true),0⟩,⟨26,some 259,.bin .neq (Zt 258) (Zn 0),some (257,true),0⟩,⟨27,some 260,.mov (Zt 259),some (257,true),0⟩,⟨28,some 261,.mov (Zt 33),some (260,false),0⟩,⟨29,some 262,.mov (Zt 24),some (260,false),0⟩,⟨30,some 263,.bin .lss (Zt 261) (Zt 262),some (260,false),0⟩,⟨31,some 264,.pick (Zt 260) (.val (.bool true)) (Zt 263),some (257,true),0⟩,⟨32,some 265,.pick (Zt 257) (Zt 264) (.val (.bool false)),some (254,false),0⟩,⟨33,some 266,.pick (Zt 254) (.val (.bool true)) (Zt 265),some (242,true),0⟩,⟨34,some 267,.mov (Zt 266),some (242,true),0⟩,⟨35,some 268,.mov (Zt 26),some (267,false),0⟩,⟨36,some 269,.bin .geq (Zt 268) (Zn 0),some (267,false),0⟩,⟨37,some 270,.mov (Zt 269),some (267,false),0⟩,⟨38,some 271,.mov (Zt 36),some (270,true),0⟩,⟨39,some 272,.bin .neq (Zt 271) (Zn 0),some (270,true),0⟩,⟨40,some 273,.mov (Zt 272),some (270,true),0⟩,⟨41,some 274,.fieldA 0 (Zt 35),some (273,false),0⟩,⟨42,some 275,.load none (Zt 274),some (273,false),0⟩,⟨43,some 276,.fieldA 0 (Zt 27),some (273,false),0⟩,⟨44,some 277,.load none (Zt 276),some (273,false),0⟩,⟨45,some 278,.bin .lss (Zt 275) (Zt 277),some (273,false),0⟩,⟨46,some 279,.pick (Zt 273) (.val (.bool true)) (Zt 278),some (270,true),0⟩,⟨47,some 280,.mov (Zt 279),some (270,true),0⟩,⟨48,some 281,.fieldA 1 (Zt 35),some (280,false),0⟩,⟨49,some 282,.load none (Zt 281),some (280,false),0⟩,⟨50,some 283,.fieldA 1 (Zt 27),some (280,false),0⟩,⟨51,some 284,.load none (Zt 283),some (280,false),0⟩,⟨52,some 285,.bin .gtr (Zt 282) (Zt 284),some (280,false),0⟩,⟨53,some 286,.pick (Zt 280) (.val (.bool true)) (Zt 285),some (270,true),0⟩,⟨54,some 287,.pick (Zt 270) (Zt 286) (.val (.bool false)),some (267,false),0⟩,⟨55,some 288,.pick (Zt 267) (.val (.bool true)) (Zt 287),some (242,true),0⟩,⟨56,some 289,.pick (Zt 242) (Zt 288) (.val (.bool false)),some (239,false),0⟩,Zo 57 290 (.pick (Zt 239) (.val (.bool true)) (Zt 289))] (.cond (Zt 290) (Zq [Zo 0 8 (.mov (.val (.bool false)))] .ret) .skip)))))))) (.ops [Zo 0 291 (.bin .add (Zt 208) (Zn 1)),Zm 1 208 291]))))))) (Zq [Zo 0 293 (.load (some 2) (Zt 14)),Zm 1 294 10,Zo 2 295 (Zc 16 [Zt 293,Zt 294]),Zm 3 292 295,Zo 4 296 (.extract (Zt 292) 0),Zo 5 297 (.extract (Zt 292) 1),Zm 6 37 296,Zm 7 38 297] (Zq [Zo 0 299 (.load (some 2) (Zt 14)),Zo 1 300 (Zc 19 [Zt 299]),Zm 2 298 300,Zo 3 301 (.extract (Zt 298) 0),Zo 4 302 (.extract (Zt 298) 1),Zm 5 39 301,Zm 6 40 302] (Zq [Zo 0 304 (.load (some 2) (Zt 14)),Zm 1 305 9,Zo 2 306 (.bin .sub (Zt 305) (Zn 1)),Zm 3 307 11,Zo 4 308 (.bin .sub (Zt 306) (Zt 307)),Zm 5 309 26,Zo 6 310 (Zc 14 [Zt 304,Zt 308,Zt 309]),Zm 7 303 310,Zo 8 311 (.extract (Zt 303) 0),Zo 9 312 (.extract (Zt 303) 1),Zo 10 41 (.alloc [Zi 0,Zi 0]),Zs 11 (.store 2 (Zt 41) (Zt 311)),Zm 12 42 312] (.seq (Zq [Zm 0 313 37,Zm 1 314 22,Zo 2 315 (.bin .neq (Zt 313) (Zt 314)),Zm 3 316 315,⟨4,some 317,.mov (Zt 38),some (316,false),0⟩,⟨5,some 318,.mov (Zt 23),some (316,false),0⟩,⟨6,some 319,.bin .neq (Zt 317) (Zt 318),some (316,false),0⟩,Zo 7 320 (.pick (Zt 316) (.val (.bool true)) (Zt 319)),Zm 8 321 320,⟨9,some 322,.mov (Zt 39),some (321,false),0⟩,⟨10,some 323,.mov (Zt 24),some (321,false),0⟩,⟨11,some 324,.bin .neq (Zt 322) (Zt 323),some (321,false),0⟩,Zo 12 325 (.pick (Zt 321) (.val (.bool true)) (Zt 324)),Zm 13 326 325,⟨14,some 327,.mov (Zt 40),some (326,false),0⟩,⟨15,some 328,.mov (Zt 25),some (326,false),0⟩,⟨16,some 329,.bin .neq (Zt 327) (Zt 328),some (326,false),0⟩,Zo 17 330 (.pick (Zt 326) (.val (.bool true)) (Zt 329)),Zm 18 331 330,⟨19,some 332,.load (some 2) (Zt 41),some (331,false),0⟩,⟨20,some 333,.load (some 2) (Zt 27),some (331,false),0⟩,⟨21,some 334,.eq (.agg [true,true]) true (Zt 332) (Zt 333),some (331,false),0⟩,Zo 22 335 (.pick (Zt 331) (.val (.bool true)) (Zt 334)),Zm 23 336 335,⟨24,some 337,.mov (Zt 42),some (336,false),0⟩,⟨25,some 338,.mov (Zt 28),some (336,false),0⟩,⟨26,some 339,.bin .neq (Zt 337) (Zt 338),some (336,false),0⟩,Zo 27 340 (.pick (Zt 336) (.val (.bool true)) (Zt 339))] (.cond (Zt 340) (Zq [Zo 0 8 (.mov (.val (.bool false)))] .ret) .skip)) (.seq (Zq [Zo 0 341 (.fieldA 1 (Zt 4)),Zl 1 342 341,Zo 2 343 (.len (Zt 342)),Zo 3 344 (.bin .lss (Zt 343) (Zn 10)),Zm 4 345 344,⟨5,some 346,.mov (Zt 23),some (345,true),0⟩,⟨6,some 347,.bin .eql (Zt 346) (Zn 0),some (345,true),0⟩,Zo 7 348 (.pick (Zt 345) (Zt 347) (.val (.bool false)))] (.cond (Zt 348) (.seq (.draw [Zo 0 350 (.load (some 2) (Zt 4)),Zm 3 353 10,Zo 1 351 (Zc 33 [Zn 1]),Zd 2 352 3 (Zc 29 [Zt 350,Zt 351]),Zd 4 354 15 (Zc 16 [Zt 352,Zt 353]),Zd 5 349 31 (.mov (Zt 354)),Zd 6 355 63 (.extract (Zt 349) 0),Zd 7 356 63 (.extract (Zt 349) 1),Zd 8 43 127 (.mov (Zt 355)),Zd 9 44 511 (.mov (Zt 356))]) (.seq (.draw [Zo 0 358 (.load (some 2) (Zt 4)),Zm 3 361 10,Zo 1 359 (Zc 31 [Zn 1,Zn 1]),Zd 2 360 3 (Zc 29 [Zt 358,Zt 359]),Zd 4 362 15 (Zc 16 [Zt 360,Zt 361]),Zd 5 357 31 (.mov (Zt 362)),Zd 6 363 63 (.extract (Zt 357) 0),Zd 7 364 63 (.extract (Zt 357) 1),Zd 8 45 127 (.mov (Zt 363)),Zd 9 46 511 (.mov (Zt 364))]) (Zq [Zm 0 365 44,Zo 1 366 (.bin .neq (Zt 365) (Zn 0)),Zm 2 367 366,⟨3,some 368,.mov (Zt 43),some (367,false),0⟩,⟨4,some 369,.mov (Zt 22),some (367,false),0⟩,⟨5,some 370,.bin .lss (Zt 368) (Zt 369),some (367,false),0⟩,Zo 6 371 (.pick (Zt 367) (.val (.bool true)) (Zt 370)),Zm 7 372 371,⟨8,some 373,.mov (Zt 46),some (372,false),0⟩,⟨9,some 374,.bin .neq (Zt 373) (Zn 0),some (372,false),0⟩,Zo 10 375 (.pick (Zt 372) (.val (.bool true)) (Zt 374)),Zm 11 376 375,⟨12,some 377,.mov (Zt 45),some (376,false),0⟩,⟨13,some 378,.mov (Zt 22),some (376,false),0⟩,⟨14,some 379,.bin .gtr (Zt 377) (Zt 378),some (376,false),0⟩,Zo 15 380 (.pick (Zt 376) (.val (.bool true)) (Zt 379))] (.cond (Zt 380) (Zq [Zo 0 8 (.mov (.val (.bool false)))] .ret) .skip)))) .skip)) (.seq (Zq [Zm 0 381 20,Zo 1 382 (.len (Zt 381)),Zo 2 383 (.mov (Zn 0))] (.block 8 (.loop [4,20,21,382,383] (Zq [Zo 0 384 (.bin .lss (Zt 383) (Zt 382))] (.seq (.cond (Zt 384) .skip (.exit 8)) (.seq (.block 9 (Zq [Zm 0 385 383,Zm 1 47 385] (.seq (.draw [Zm 0 386 20,Zm 1 387 47,Zd 2 388 3 (.indexA 7 none (Zt 386) (Zt 387)),Zd 3 389 7 (.load (some 7) (Zt 388)),Zo 4 390 (.fieldA 0 (Zt 4)),Zd 5 391 16 (.load none (Zt 390)),Zm 6 392 47,Zd 7 393 112 (.indexA 7 none (Zt 391) (Zt 392)),Zd 8 394 240 (.load (some 7) (Zt 393)),Zd 9 395 511 (.eq (.agg [true,true,true,true,true,true,true]) true (Zt 389) (Zt 394))]) (.cond (Zt 395) (Zq [Zo 0 8 (.mov (.val (.bool false)))] .ret) .skip)))) (.ops [Zo 0 396 (.bin .add (Zt 383) (Zn 1)),Zm 1 383 396]))))))) (.seq (Zq [Zm 0 397 21,Zo 1 398 (.len (Zt 397)),Zo 2 399 (.mov (Zn 0))] (.block 10 (.loop [4,21,398,399] (Zq [Zo 0 400 (.bin .lss (Zt 399) (Zt 398))] (.seq (.cond (Zt 400) .skip (.exit 10)) (.seq (.block 11 (Zq [Zm 0 401 399,Zm 1 48 401] (.seq (.draw [Zm 0 402 21,Zm 1 403 48,Zd 2 404 3 (.indexA 7 none (Zt 402) (Zt 403)),Zd 3 405 7 (.load (some 7) (Zt 404)),Zo 4 406 (.fieldA 1 (Zt 4)),Zd 5 407 16 (.load none (Zt 406)),Zm 6 408 48,Zd 7 409 112 (.indexA 7 none (Zt 407) (Zt 408)),Zd 8 410 240 (.load (some 7) (Zt 409)),Zd 9 411 511 (.eq (.agg [true,true,true,true,true,true,true]) true (Zt 405) (Zt 410))]) (.cond (Zt 411) (Zq [Zo 0 8 (.mov (.val (.bool false)))] .ret) .skip)))) (.ops [Zo 0 412 (.bin .add (Zt 399) (Zn 1)),Zm 1 399 412]))))))) (Zq [Zo 0 413 (Zc 21 []),Zm 1 8 413] .ret))))))))))))))))))))))))⟩
end Ev
end Go.Proofs.Ytlcjlcllbgjplaa

/- RoadMore, gone through: nothing that was given has changed. -/
namespace Go.Proofs.Ytlcjlcllbgjplaa
open Go
namespace Ev
namespace Ro
open K
attribute [local simp] ev1 wantG spineK spine float xnew xval xeff zaa zar zbe zax zaw addFl cellsOf pickC alive slLen slFt binI maxA maxK minA minK aeqK aeqS AV.cells spA zat fillA setAt bitsI nat_nn zbf AV.plain apart
set_option maxRecDepth 100000
set_option maxHeartbeats 4000000
theorem zwa:∀ (ps:List Rd.Pt) (i:Nat) (p:Rd.Pt),ps[i]?=some p→((ptCs ps).drop (i * 7)).take 7=(ptE p).cells
 |[],i,v,h=>by simp at h
 |e::l,0,v,h=>by
  simp only[List.getElem?_cons_zero,Option.some.injEq] at h
  subst h
  simp[ptCs,ptE,AV.cells]
 |e::l,i+1,v,h=>by
  have ih:=zwa l i v (by simpa using h)
  rw[show (i+1) * 7=i * 7+1+1+1+1+1+1+1 by omega]
  simpa [ptCs] using ih
theorem zyl:∀ (xs:List Rd.Evt) (i:Nat) (v:Rd.Evt),xs[i]?=some v→((evCs xs).drop (i * 7)).take 7=(evE v).cells
 |[],i,v,h=>by simp at h
 |e::l,0,v,h=>by
  simp only[List.getElem?_cons_zero,Option.some.injEq] at h
  subst h
  simp[evCs,evE,AV.cells]
 |e::l,i+1,v,h=>by
  have ih:=zyl l i v (by simpa using h)
  rw[show (i+1) * 7=i * 7+1+1+1+1+1+1+1 by omega]
  simpa [evCs] using ih
theorem zxb (C:Cfg)(hC:C.calm=true)(call:CallF)(hA:LApi call)(r:Rd.Road)(hf:Rd.Fine r)(n0 a4 p e:Nat)(G:List AB)(h4:HB G a4 (.cells (roadCs r)))(hp:HB G p (.cells (ptCs r.parts)))(he:HB G e (.cells (evCs r.events)))(hn0:n0≤G.length)
  (L:List (Nat × AV)) (L4:lk 414 L 4=.ptr a4 0) (L20:lk 414 L 20=.sl p 0 r.parts.length 7) (L21:lk 414 L 21=.sl e 0 r.events.length 7):
  Does (ev C call n0 none (atP [1,1,1,1,1,1,1,1,1,1,1,1,1,1,1,1,1,1,1,1,1,1] af10.body) { tm:=tmA 414 L,df:=[],hp:=G,tc:=[] })
   (Ends C n0 af10.res fun v _ _=>v=.bool true):=by
 have ha:=fun H=>hA.alive (H:=H)
 have hp4:=hf.parts
 have he10:=hf.events
 have m4:val C (tmA 414 L) (.tmp 4)=.ptr a4 0:=L4
 have m20:val C (tmA 414 L) (.tmp 20)=.sl p 0 r.parts.length 7:=L20
 have m21:val C (tmA 414 L) (.tmp 21)=.sl e 0 r.events.length 7:=L21
 have hpl:=zgm r.parts
 have hel:=zdr r.events
 obtain ⟨A1,A2,A3⟩:=h4
 obtain ⟨B1,B2,B3⟩:=hp
 obtain ⟨D1,D2,D3⟩:=he
 have HX:=hideP (And.intro hp4 (And.intro he10 hn0))
 clear hA hf hp4 he10 hn0
 unfold af10 Zq Zm Zl Zo Zs Zd Ze Zc Zt Zn Zi
 simp only[atP,roadCs] at *
 (repeat (first|((with_reducible apply zah);(focus ((with_reducible apply zas);(focus rfl);(focus rfl);(focus ((conv=>lhs;simp[*,List.getElem?_append_right,List.set_append_right,List.getElem?_cons_zero,List.getElem?_append_left,List.set_append_left,-getElem?_pos,Nat.testBit_eq_decide_div_mod_eq])<;>exact rfl));(focus rfl);(focus rfl)));simp only[addFl])|(with_reducible apply zah;(focus ((conv=>lhs;simp[*,List.getElem?_append_right,List.set_append_right,List.getElem?_cons_zero,List.getElem?_append_left,List.set_append_left,-getElem?_pos,Nat.testBit_eq_decide_div_mod_eq])<;>exact rfl));simp only[addFl])|((with_reducible first|apply zai|apply zak|apply zag|apply zae|apply zac|apply zaj|apply zaf|apply zam|(apply zad;· simp[*,zaa])|(apply zab;· simp[*,zaa]));try simp only[Then,Ops])|simp only[Nat.reduceEqDiff,reduceIte,OutB,Then]))
 with_reducible refine zaz hC r.parts.length (by have:=HX.out.1;unfold fuelL;omega) (fun i st=>st={ tm:=tmA 414 [(383,.int .i64 i),(382,.int .i64 r.parts.length),(21,.sl e 0 r.events.length 7),(20,.sl p 0 r.parts.length 7),(4,.ptr a4 0)],df:=[],hp:=G,tc:=[] }) ?_ ?_ ?_
 ·exact st_eq (by simp[*,zao,zaq]) rfl rfl (by simp)
 ·rintro i st hi rfl
  have hp4:=HX.out.1
  have hgp:r.parts[i]?=some r.parts[i]:=List.getElem?_eq_getElem hi
  generalize r.parts[i]=p at hgp
  have hgp':=ge_of hgp
  have hat:=zwa _ _ _ hgp
  have e5:(i:Int)<r.parts.length:=by omega
  have hwi:IntKind.i64.wrap (↑i+1)=↑i+1:=zau (by omega) (by omega)
  have e6:i * 7+7≤r.parts.length * 7:=by omega
  clear hp4 m4 m20 m21 L4 L20 L21
  simp only[ptE,AV.cells] at hat
  (repeat (first|((with_reducible apply zah);(focus ((with_reducible apply zas);(focus rfl);(focus rfl);(focus ((conv=>lhs;simp[*,List.getElem?_append_right,List.set_append_right,List.getElem?_cons_zero,List.getElem?_append_left,List.set_append_left,-getElem?_pos,ptE,Nat.testBit_eq_decide_div_mod_eq])<;>exact rfl));(focus rfl);(focus rfl)));simp only[addFl])|(with_reducible apply zah;(focus ((conv=>lhs;simp[*,List.getElem?_append_right,List.set_append_right,List.getElem?_cons_zero,List.getElem?_append_left,List.set_append_left,-getElem?_pos,ptE,Nat.testBit_eq_decide_div_mod_eq])<;>exact rfl));simp only[addFl])|((with_reducible first|apply zai|apply zak|apply zag|apply zae|apply zac|apply zaj|apply zaf|apply zam|(apply zad;· simp[*,zaa])|(apply zab;· simp[*,zaa]));try simp only[Then,Ops,OutB])|simp only[Nat.reduceEqDiff,reduceIte,OutB,Then]))
  (refine st_is ?_ ?_ ?_ ?_;(focus (simp[zao,zaq]));(focus rfl);(focus (first|rfl|(simp;done)|(simp[*];done)|(simp;rfl)|(simp[*];omega)|(simp;omega)));(focus (first|rfl|simp)))
 ·rintro st rfl
  clear m4 m20 m21 L4 L20 L21
  (repeat (first|((with_reducible apply zah);(focus ((with_reducible apply zas);(focus rfl);(focus rfl);(focus ((conv=>lhs;simp[*,List.getElem?_append_right,List.set_append_right,List.getElem?_cons_zero,List.getElem?_append_left,List.set_append_left,-getElem?_pos,Nat.testBit_eq_decide_div_mod_eq])<;>exact rfl));(focus rfl);(focus rfl)));simp only[addFl])|(with_reducible apply zah;(focus ((conv=>lhs;simp[*,List.getElem?_append_right,List.set_append_right,List.getElem?_cons_zero,List.getElem?_append_left,List.set_append_left,-getElem?_pos,Nat.testBit_eq_decide_div_mod_eq])<;>exact rfl));simp only[addFl])|((with_reducible first|apply zai|apply zak|apply zag|apply zae|apply zac|apply zaj|apply zaf|apply zam|(apply zad;· simp[*,zaa])|(apply zab;· simp[*,zaa]));try simp only[Then,Ops,OutB,reduceIte])|simp only[Nat.reduceEqDiff,reduceIte,OutB,Then]))
  with_reducible refine zaz hC r.events.length (by have:=HX.out.2.1;unfold fuelL;omega) (fun i st=>st={ tm:=tmA 414 [(399,.int .i64 i),(398,.int .i64 r.events.length),(21,.sl e 0 r.events.length 7),(4,.ptr a4 0)],df:=[],hp:=G,tc:=[] }) ?_ ?_ ?_
  ·(refine st_is ?_ ?_ ?_ ?_;(focus (simp[zao,zaq]));(focus rfl);(focus (first|rfl|(simp;done)|(simp[*];done)|(simp;rfl)|(simp[*];omega)|(simp;omega)));(focus (first|rfl|simp)))
  ·rintro i st hi rfl
   have he10:=HX.out.2.1
   have hgp:r.events[i]?=some r.events[i]:=List.getElem?_eq_getElem hi
   generalize r.events[i]=v at hgp
   have hgp':=ge_of hgp
   have hat:=zyl _ _ _ hgp
   have e5:(i:Int)<r.events.length:=by omega
   have hwi:IntKind.i64.wrap (↑i+1)=↑i+1:=zau (by omega) (by omega)
   have e6:i * 7+7≤r.events.length * 7:=by omega
   clear he10
   simp only[evE,AV.cells] at hat
   (repeat (first|((with_reducible apply zah);(focus ((with_reducible apply zas);(focus rfl);(focus rfl);(focus ((conv=>lhs;simp[*,List.getElem?_append_right,List.set_append_right,List.getElem?_cons_zero,List.getElem?_append_left,List.set_append_left,-getElem?_pos,evE,Nat.testBit_eq_decide_div_mod_eq])<;>exact rfl));(focus rfl);(focus rfl)));simp only[addFl])|(with_reducible apply zah;(focus ((conv=>lhs;simp[*,List.getElem?_append_right,List.set_append_right,List.getElem?_cons_zero,List.getElem?_append_left,List.set_append_left,-getElem?_pos,evE,Nat.testBit_eq_decide_div_mod_eq])<;>exact rfl));simp only[addFl])|((with_reducible first|apply zai|apply zak|apply zag|apply zae|apply zac|apply zaj|apply zaf|apply zam|(apply zad;· simp[*,zaa])|(apply zab;· simp[*,zaa]));try simp only[Then,Ops,OutB])|simp only[Nat.reduceEqDiff,reduceIte,OutB,Then]))
   (refine st_is ?_ ?_ ?_ ?_;(focus (simp[zao,zaq]));(focus rfl);(focus (first|rfl|(simp;done)|(simp[*];done)|(simp;rfl)|(simp[*];omega)|(simp;omega)));(focus (first|rfl|simp)))
  ·rintro st rfl
   (repeat (first|((with_reducible apply zah);(focus ((with_reducible apply zas);(focus rfl);(focus rfl);(focus ((conv=>lhs;simp[*,List.getElem?_append_right,List.set_append_right,List.getElem?_cons_zero,List.getElem?_append_left,List.set_append_left,-getElem?_pos,Nat.testBit_eq_decide_div_mod_eq])<;>exact rfl));(focus rfl);(focus rfl)));simp only[addFl])|(with_reducible apply zah;(focus ((conv=>lhs;simp[*,List.getElem?_append_right,List.set_append_right,List.getElem?_cons_zero,List.getElem?_append_left,List.set_append_left,-getElem?_pos,Nat.testBit_eq_decide_div_mod_eq])<;>exact rfl));simp only[addFl])|((with_reducible first|apply zai|apply zak|apply zag|apply zae|apply zac|apply zaj|apply zaf|apply zam|(apply zad;· simp[*,zaa])|(apply zab;· simp[*,zaa]));try simp only[Then,Ops,OutB,reduceIte])|simp only[Nat.reduceEqDiff,reduceIte,OutB,Then]))
   exact zan (v:=.bool true) (.inl rfl) rfl HX.out.2.2 (by simp only[resL,resOf,zal];simp[*,resV]) rfl
end Ro
end Ev
end Go.Proofs.Ytlcjlcllbgjplaa

/- The code of functions of the laws, for the evaluator. Printed by program. -/
namespace Go.Proofs.Ytlcjlcllbgjplaa
open Go
namespace Ev
end Ev
end Go.Proofs.Ytlcjlcllbgjplaa

/- The code of functions of the laws, for the evaluator. Printed by program. -/
namespace Go.Proofs.Ytlcjlcllbgjplaa
open Go
namespace Ev
end Ev
end Go.Proofs.Ytlcjlcllbgjplaa

/- RoadRest, gone through. -/
namespace Go.Proofs.Ytlcjlcllbgjplaa
open Go
namespace Ev
namespace Ro
open K
set_option maxRecDepth 100000
set_option maxHeartbeats 4000000
def LRestC (call:CallF):Prop:=∀ (H:List AB) (n:Int),call (.fn (.func 33) [] []) [.int .i64 n] H=some (.ret (evE (Rd.restE n)),H,[])
theorem zrp {call:CallF}(hA:LApi call){H:List AB}{v:AV}{r:Rd.Road}(hr:roadOf H v=some r)(hf:Rd.Fine r)(hcan:Rd.canR r (Rd.everyR r)=true){load:Int}(hl:0≤load∧load≤60):call (.fn (.func 16) [] []) [v,.int .i64 load] H=some (.ret (.tup [.int .i64 (Rd.bearsR r load),.int .i64 0]),H,[]):=by
 rw[hA.bears hr load (by unfold i64n;omega)]
 have he:Rd.errR r (Rd.isLoad load)=0:=by
  unfold Rd.errR
  rw[(Rd.valid_iff r).2 hf,hcan,show Rd.isLoad load=true from decide_eq_true hl];rfl
 unfold numRV
 rw[he];rfl
theorem zyd {r:Rd.Road}(hf:Rd.Fine r)(hcan:Rd.canR r (Rd.everyR r)=true)(o:Option Nat):findRV r true o=.tup [.int .i64 ((o.getD 0:Nat):Int),.int .i64 (if o.isSome then 0 else 4)]:=by
 have he:Rd.errR r true=0:=by
  unfold Rd.errR
  rw[(Rd.valid_iff r).2 hf,hcan];rfl
 unfold findRV
 rw[he];rfl
theorem yda {r:Rd.Road}(hf:Rd.Fine r)(hcan:Rd.canR r (Rd.everyR r)=false)(o:Option Nat):findRV r true o=.tup [.int .i64 0,.int .i64 10]:=by
 have he:Rd.errR r true=10:=by
  unfold Rd.errR
  rw[(Rd.valid_iff r).2 hf,hcan];rfl
 unfold findRV
 rw[he];rfl
theorem num_no {r:Rd.Road}(hf:Rd.Fine r)(hcan:Rd.canR r (Rd.everyR r)=false)(n:Int):numRV r true n=.tup [.int .i64 0,.int .i64 10]:=by
 have he:Rd.errR r true=10:=by
  unfold Rd.errR
  rw[(Rd.valid_iff r).2 hf,hcan];rfl
 unfold numRV
 rw[he];rfl
theorem num_ok {r:Rd.Road}(hf:Rd.Fine r)(hcan:Rd.canR r (Rd.everyR r)=true)(n:Int):numRV r true n=.tup [.int .i64 n,.int .i64 0]:=by
 have he:Rd.errR r true=0:=by
  unfold Rd.errR
  rw[(Rd.valid_iff r).2 hf,hcan];rfl
 unfold numRV
 rw[he];rfl
end Ro
end Ev
end Go.Proofs.Ytlcjlcllbgjplaa

/- The code of functions of the laws, for the evaluator. Printed by program. -/
namespace Go.Proofs.Ytlcjlcllbgjplaa
open Go
namespace Ev
end Ev
end Go.Proofs.Ytlcjlcllbgjplaa

/- RoadBears, gone through. -/
namespace Go.Proofs.Ytlcjlcllbgjplaa
open Go
namespace Ev
namespace Ro
open K
attribute [local simp] ev1 wantG spineK spine float xnew xval xeff zaa zar zbe zax zaw addFl cellsOf pickC alive slLen slFt binI maxA maxK minA minK aeqK aeqS AV.cells spA zat fillA setAt bitsI nat_nn zbf AV.plain apart
set_option maxRecDepth 100000
set_option maxHeartbeats 4000000
def LSpanC (call:CallF):Prop:=∀ (H:List AB) (a b:Int),call (.fn (.func 12) [] []) [.int .i64 a,.int .i64 b] H=some (.ret (.agg [.int .i64 a,.int .i64 b]),H,[])
theorem zxp (C:Cfg)(call:CallF)(hS:LSpanC call)(H:List AB)(a b:Int):Does (ev C call H.length none af31.body { tm:=tmA af31.ntmps (zipI 0 [.int .i64 a,.int .i64 b] []),df:=[],hp:=H,tc:=[] })
  (Ends C H.length af31.res fun v _hp tc=>v=evE (Rd.passE a b)∧tc=[]):=by
 have hs:=fun H=>hS H a b
 clear hS
 unfold af31 Zq Zm Zo Zs Zc Zt Zn Zi
 simp only[zipI]
 (repeat (first|(with_reducible apply zah;(focus ((conv=>lhs;simp[*,Nat.testBit_eq_decide_div_mod_eq])<;>exact rfl));simp only[addFl])|((with_reducible first|apply zai|apply zak|apply zag|apply zae|apply zac|apply zaj|apply zaf|apply zam|(apply zad;· simp[*,zaa])|(apply zab;· simp[*,zaa]));try simp only[Then,Ops])|simp only[Nat.reduceEqDiff,reduceIte,OutB,Then]))
 exact zan (v:=.agg [.int .i64 0,.int .i64 a,.int .i64 b,.int .i64 0,.int .i64 0,.int .i64 0,.int .i64 0]) (.inl rfl) rfl (by simp) (by simp only[resL,resOf,zal];simp[*,pickC,resV]) ⟨rfl,by simp⟩
def LPassC (call:CallF):Prop:=∀ (H:List AB) (a b:Int),call (.fn (.func 31) [] []) [.int .i64 a,.int .i64 b] H=some (.ret (evE (Rd.passE a b)),H,[])
end Ro
end Ev
end Go.Proofs.Ytlcjlcllbgjplaa

/- RoadMore, gone through: a rest, a pass more. -/
namespace Go.Proofs.Ytlcjlcllbgjplaa
open Go
namespace Ev
namespace Ro
open K
attribute [local simp] ev1 wantG spineK spine float xnew xval xeff zaa zar zbe zax zaw addFl cellsOf pickC alive slLen slFt binI maxA maxK minA minK aeqK aeqS AV.cells spA zat fillA setAt bitsI nat_nn zbf AV.plain apart
set_option maxRecDepth 100000
set_option maxHeartbeats 4000000
theorem zxc (C:Cfg)(hC:C.calm=true)(call:CallF)(hA:LApi call)(r:Rd.Road)(hf:Rd.Fine r)(hW:WithC call r)(hR:LRestC call)(hP:LPassC call)(ld:Int)(hld:0≤ld∧ld≤60)(bz ez:Int)(hez:ez=10∨ez=0∧bz=Rd.bearsR r ld∧Rd.canR r (Rd.everyR r)=true)(n0 a4 p e:Nat)(G:List AB)(h4:HB G a4 (.cells (roadCs r)))(hp:HB G p (.cells (ptCs r.parts)))(he:HB G e (.cells (evCs r.events)))(hn0:n0≤G.length)
  (L:List (Nat × AV)) (L4:lk 414 L 4=.ptr a4 0) (L10:lk 414 L 10=.int .i64 ld) (L20:lk 414 L 20=.sl p 0 r.parts.length 7) (L21:lk 414 L 21=.sl e 0 r.events.length 7) (L22:lk 414 L 22=.int .i64 bz) (L23:lk 414 L 23=.int .i64 ez):
  Does (ev C call n0 none (atP [1,1,1,1,1,1,1,1,1,1,1,1,1,1,1,1,1,1,1,1,1] af10.body) { tm:=tmA 414 L,df:=[],hp:=G,tc:=[] })
   (Ends C n0 af10.res fun v _ _=>v=.bool true):=by
 have hend:=fun G h4 hp he hn0=>zxb C hC call hA r hf n0 a4 p e G h4 hp he hn0
 have m4:val C (tmA 414 L) (.tmp 4)=.ptr a4 0:=L4
 have m10:val C (tmA 414 L) (.tmp 10)=.int .i64 ld:=L10
 have m20:val C (tmA 414 L) (.tmp 20)=.sl p 0 r.parts.length 7:=L20
 have m21:val C (tmA 414 L) (.tmp 21)=.sl e 0 r.events.length 7:=L21
 have m22:val C (tmA 414 L) (.tmp 22)=.int .i64 bz:=L22
 have m23:val C (tmA 414 L) (.tmp 23)=.int .i64 ez:=L23
 have HX:=hideP (And.intro h4 (And.intro hp (And.intro he hn0)))
 obtain ⟨A1,A2,A3⟩:=h4
 unfold af10 Zq Zm Zl Zo Zs Zd Ze Zc Zt Zn Zi at hend
 simp only[atP] at hend
 have HE:=hideP hend
 clear hend
 have he10:=hf.events
 by_cases h10:r.events.length=10
 ·have hx:¬ ((r.events.length:Int)<10):=by omega
  clear hA hf hW hR hP hez hp he hn0 h10
  unfold af10 Zq Zm Zl Zo Zs Zd Ze Zc Zt Zn Zi
  simp only[atP,roadCs] at *
  (repeat (first|(with_reducible refine HE.out _ HX.out.1 HX.out.2.1 HX.out.2.2.1 HX.out.2.2.2 _ ?_ ?_ ?_<;>simp[*,zaq])|((with_reducible apply zah);(focus ((with_reducible apply zas);(focus rfl);(focus rfl);(focus ((conv=>lhs;simp[*,List.getElem?_append_right,List.set_append_right,List.getElem?_cons_zero,List.getElem?_append_left,List.set_append_left,-getElem?_pos,Nat.testBit_eq_decide_div_mod_eq])<;>exact rfl));(focus rfl);(focus rfl)));simp only[addFl])|(with_reducible apply zah;(focus ((conv=>lhs;simp[*,List.getElem?_append_right,List.set_append_right,List.getElem?_cons_zero,List.getElem?_append_left,List.set_append_left,-getElem?_pos,Nat.testBit_eq_decide_div_mod_eq])<;>exact rfl));simp only[addFl])|((with_reducible first|apply zai|apply zak|apply zag|apply zae|apply zac|apply zaj|apply zaf|apply zam|(apply zad;· simp[*,zaa])|(apply zab;· simp[*,zaa]));try simp only[Then,Ops])|simp only[Nat.reduceEqDiff,reduceIte,OutB,Then]))
 have hx:((r.events.length:Int)<10):=by omega
 rcases hez with rfl|⟨rfl,rfl,hcan⟩
 ·clear hA hf hW hR hP hp he hn0 h10
  unfold af10 Zq Zm Zl Zo Zs Zd Ze Zc Zt Zn Zi
  simp only[atP,roadCs] at *
  (repeat (first|(with_reducible refine HE.out _ HX.out.1 HX.out.2.1 HX.out.2.2.1 HX.out.2.2.2 _ ?_ ?_ ?_<;>simp[*,zaq])|((with_reducible apply zah);(focus ((with_reducible apply zas);(focus rfl);(focus rfl);(focus ((conv=>lhs;simp[*,List.getElem?_append_right,List.set_append_right,List.getElem?_cons_zero,List.getElem?_append_left,List.set_append_left,-getElem?_pos,Nat.testBit_eq_decide_div_mod_eq])<;>exact rfl));(focus rfl);(focus rfl)));simp only[addFl])|(with_reducible apply zah;(focus ((conv=>lhs;simp[*,List.getElem?_append_right,List.set_append_right,List.getElem?_cons_zero,List.getElem?_append_left,List.set_append_left,-getElem?_pos,Nat.testBit_eq_decide_div_mod_eq])<;>exact rfl));simp only[addFl])|((with_reducible first|apply zai|apply zak|apply zag|apply zae|apply zac|apply zaj|apply zaf|apply zam|(apply zad;· simp[*,zaa])|(apply zab;· simp[*,zaa]));try simp only[Then,Ops])|simp only[Nat.reduceEqDiff,reduceIte,OutB,Then]))
 have hR1:=fun H=>hR H 1
 have hP1:=fun H=>hP H 1 1
 obtain ⟨H1,b,c1,c2,c3,c4⟩:=hW G (Rd.restE 1)
 obtain ⟨H2,d,d1,d2,d3,d4⟩:=hW H1 (Rd.passE 1 1)
 have hro1:roadOf H1 (.agg [.vs 7 (r.parts.map ptE),.sl b 0 (r.events.length+1) 7])=some (Rd.addR r (Rd.restE 1)):=
  zdw (zhb _ _) (zjg c4 (by simp)) (by have:=hf.parts;omega) (by simp;omega)
 have hro2:roadOf H2 (.agg [.vs 7 (r.parts.map ptE),.sl d 0 (r.events.length+1) 7])=some (Rd.addR r (Rd.passE 1 1)):=
  zdw (zhb _ _) (zjg d4 (by simp)) (by have:=hf.parts;omega) (by simp;omega)
 have r1:=zrp hA hro1 (Rd.fine_rest hf (by omega) (by omega) (by omega)) (by rw[Rd.rest_can];exact hcan) hld
 have r2:=zrp hA hro2 (Rd.fine_pass hf (by omega) (by omega) (by omega)) (by rw[Rd.pass_can];exact hcan) hld
 have o1:=Rd.rest_bears hf ld
 have o2:=Rd.pass_bears hf ld
 generalize Rd.bearsR (Rd.addR r (Rd.restE 1)) ld=k1 at *
 generalize Rd.bearsR (Rd.addR r (Rd.passE 1 1)) ld=k2 at *
 generalize Rd.bearsR r ld=k0 at *
 have o1':¬ (k1<k0):=by omega
 have o2':¬ (k0<k2):=by omega
 have kk:∀ {q x},HB G q x→HB H1 q x∧HB H2 q x:=fun h=>⟨hb (c2.at h.get (by simp)),hb (d2.at (c2.at h.get (by simp)) (by simp))⟩
 obtain ⟨⟨U1,U2,U3⟩,⟨V1,V2,V3⟩⟩:=kk HX.out.1
 have HY:=hideP (And.intro (kk HX.out.1).2 (And.intro (kk HX.out.2.1).2 (And.intro (kk HX.out.2.2.1).2 (Nat.le_trans hn0 (Nat.le_trans c2.len d2.len)))))
 clear hA hf hW hR hP hp he hn0 h10 hro1 hro2 c2 c3 c4 d2 d3 d4 kk HX he10 hcan hld o1 o2
 simp only[Rd.restE,Rd.passE,evE] at hR1 hP1 c1 d1
 unfold af10 Zq Zm Zl Zo Zs Zd Ze Zc Zt Zn Zi
 simp only[atP,roadCs] at *
 (repeat (first|(with_reducible refine HE.out _ HY.out.1 HY.out.2.1 HY.out.2.2.1 HY.out.2.2.2 _ ?_ ?_ ?_<;>simp[*,zaq])|((with_reducible apply zah);(focus ((with_reducible apply zas);(focus rfl);(focus rfl);(focus ((conv=>lhs;simp[*,List.getElem?_append_right,List.set_append_right,List.getElem?_cons_zero,List.getElem?_append_left,List.set_append_left,-getElem?_pos,↓zap,Nat.testBit_eq_decide_div_mod_eq])<;>exact rfl));(focus rfl);(focus rfl)));simp only[addFl])|(with_reducible apply zah;(focus ((conv=>lhs;simp[*,List.getElem?_append_right,List.set_append_right,List.getElem?_cons_zero,List.getElem?_append_left,List.set_append_left,-getElem?_pos,↓zap,Nat.testBit_eq_decide_div_mod_eq])<;>exact rfl));simp only[addFl])|((with_reducible first|apply zai|apply zak|apply zag|apply zae|apply zac|apply zaj|apply zaf|apply zam|(apply zad;· simp[*,zaa])|(apply zab;· simp[*,zaa]));try simp only[Then,Ops])|simp only[Nat.reduceEqDiff,reduceIte,OutB,Then]))
end Ro
end Ev
end Go.Proofs.Ytlcjlcllbgjplaa

/- RoadMore, gone through: parts the other way round. -/
namespace Go.Proofs.Ytlcjlcllbgjplaa
open Go
namespace Ev
namespace Ro
open K
attribute [local simp] ev1 wantG spineK spine float xnew xval xeff zaa zar zbe zax zaw addFl cellsOf pickC alive slLen slFt binI maxA maxK minA minK aeqK aeqS AV.cells spA zat fillA setAt bitsI nat_nn zbf AV.plain apart
set_option maxRecDepth 100000
set_option maxHeartbeats 4000000
theorem zld {r:Rd.Road}(hf:Rd.Fine r)(b:Bool):Rd.errR (Rd.turnR r) b=Rd.errR r b:=by
 unfold Rd.errR
 rw[(Rd.valid_iff _).2 (Rd.turn_fine hf),(Rd.valid_iff _).2 hf,Rd.turn_can]
theorem zzj {r:Rd.Road}(hf:Rd.Fine r)(b:Bool)(ld:Int):numRV (Rd.turnR r) b (Rd.bearsR (Rd.turnR r) ld)=numRV r b (Rd.bearsR r ld):=by
 unfold numRV;rw[zld hf,Rd.turn_bears]
theorem zuv {r:Rd.Road}(hf:Rd.Fine r)(b:Bool):findRV (Rd.turnR r) b (Rd.mostR (Rd.turnR r))=findRV r b (Rd.mostR r):=by
 unfold findRV;rw[zld hf,Rd.turn_most]
theorem zut {r:Rd.Road}(hf:Rd.Fine r){i:Nat}(hi:i<r.parts.length)(last:Int):spanRV (Rd.turnR r) (Rd.isPart (Rd.turnR r) ((r.parts.length:Int) - 1 - i)&&Rd.isEvent (Rd.turnR r) last) (Rd.heightsR (Rd.turnR r) ((r.parts.length:Int) - 1 - i).toNat (last.toNat+1))=spanRV r (Rd.isPart r i&&Rd.isEvent r last) (Rd.heightsR r i (last.toNat+1)):=by
 have e1:Rd.isPart (Rd.turnR r) ((r.parts.length:Int) - 1 - i)=true:=decide_eq_true (by rw[(Rd.turn_len r).1];omega)
 have e2:Rd.isPart r i=true:=decide_eq_true (by omega)
 have e3:Rd.isEvent (Rd.turnR r) last=Rd.isEvent r last:=by unfold Rd.isEvent;rw[(Rd.turn_len r).2]
 unfold spanRV
 rw[e1,e2,e3,zld hf]
 by_cases h:Rd.errR r (true&&Rd.isEvent r last)=0
 ·obtain ⟨-,-,hc⟩:=Rd.errR_zero h
  rw[if_pos h,if_pos h,show ((r.parts.length:Int) - 1 - i).toNat=r.parts.length - 1 - i by omega,Rd.turn_heights hc hi]
 ·rw[if_neg h,if_neg h]
theorem zxa (C:Cfg)(hC:C.calm=true)(call:CallF)(hA:LApi call)(r:Rd.Road)(hf:Rd.Fine r)(hW:WithC call r)(hR:LRestC call)(hP:LPassC call)(ld:Int)(hld:0≤ld∧ld≤60)(bz ez mz fz sl sh gz:Int)(i:Nat)(hi:i<r.parts.length)
  (hez:ez=10∨ez=0∧bz=Rd.bearsR r ld∧Rd.canR r (Rd.everyR r)=true) (k1:numRV r true (Rd.bearsR r ld)=.tup [.int .i64 bz,.int .i64 ez]) (k2:findRV r true (Rd.mostR r)=.tup [.int .i64 mz,.int .i64 fz])
  (k3:spanRV r (Rd.isPart r i&&Rd.isEvent r ((r.events.length:Int) - 1)) (Rd.heightsR r i (((r.events.length:Int) - 1).toNat+1))=.tup [.agg [.int .i64 sl,.int .i64 sh],.int .i64 gz])
  (n0 a4 a14 a27 p e:Nat) (zp ze:AV) (G:List AB) (h4:HB G a4 (.cells (roadCs r))) (h14:HB G a14 (.cells [zp,ze])) (h27:HB G a27 (.cells [.int .i64 sl,.int .i64 sh])) (hzp:∀ K,ptsV (G++K) zp (Rd.turnR r).parts) (hze:∀ K,evsV (G++K) ze (Rd.turnR r).events) (hp:HB G p (.cells (ptCs r.parts))) (he:HB G e (.cells (evCs r.events))) (hn0:n0≤G.length)
  (L:List (Nat × AV)) (L4:lk 414 L 4=.ptr a4 0) (L9:lk 414 L 9=.int .i64 r.parts.length) (L10:lk 414 L 10=.int .i64 ld) (L11:lk 414 L 11=.int .i64 i) (L14:lk 414 L 14=.ptr a14 0) (L20:lk 414 L 20=.sl p 0 r.parts.length 7) (L21:lk 414 L 21=.sl e 0 r.events.length 7) (L22:lk 414 L 22=.int .i64 bz) (L23:lk 414 L 23=.int .i64 ez)
  (L24:lk 414 L 24=.int .i64 mz) (L25:lk 414 L 25=.int .i64 fz) (L26:lk 414 L 26=.int .i64 ((r.events.length:Int) - 1)) (L27:lk 414 L 27=.ptr a27 0) (L28:lk 414 L 28=.int .i64 gz):
  Does (ev C call n0 none (atP [1,1,1,1,1,1,1,1,1,1,1,1,1,1,1,1,1] af10.body) { tm:=tmA 414 L,df:=[],hp:=G,tc:=[] })
   (Ends C n0 af10.res fun v _ _=>v=.bool true):=by
 have hend:=fun G h4 hp he hn0=>zxc C hC call hA r hf hW hR hP ld hld bz ez hez n0 a4 p e G h4 hp he hn0
 have m4:val C (tmA 414 L) (.tmp 4)=.ptr a4 0:=L4
 have m9:val C (tmA 414 L) (.tmp 9)=.int .i64 r.parts.length:=L9
 have m10:val C (tmA 414 L) (.tmp 10)=.int .i64 ld:=L10
 have m11:val C (tmA 414 L) (.tmp 11)=.int .i64 i:=L11
 have m14:val C (tmA 414 L) (.tmp 14)=.ptr a14 0:=L14
 have m20:val C (tmA 414 L) (.tmp 20)=.sl p 0 r.parts.length 7:=L20
 have m21:val C (tmA 414 L) (.tmp 21)=.sl e 0 r.events.length 7:=L21
 have m22:val C (tmA 414 L) (.tmp 22)=.int .i64 bz:=L22
 have m23:val C (tmA 414 L) (.tmp 23)=.int .i64 ez:=L23
 have m24:val C (tmA 414 L) (.tmp 24)=.int .i64 mz:=L24
 have m25:val C (tmA 414 L) (.tmp 25)=.int .i64 fz:=L25
 have m26:val C (tmA 414 L) (.tmp 26)=.int .i64 ((r.events.length:Int) - 1):=L26
 have m27:val C (tmA 414 L) (.tmp 27)=.ptr a27 0:=L27
 have m28:val C (tmA 414 L) (.tmp 28)=.int .i64 gz:=L28
 have hp4:=hf.parts
 have he10:=hf.events
 have hro:∀ K,roadOf (G++K) (.agg [zp,ze])=some (Rd.turnR r):=fun K=>zdw (hzp K) (hze K) (by simp;omega) (by simp;omega)
 have r1:=fun K=>hA.bears (hro K) ld (by unfold i64n;omega)
 have r2:=fun K=>hA.most (hro K)
 have r3:=fun K=>hA.height (hro K) ((r.parts.length:Int) - 1 - i) ((r.events.length:Int) - 1) (by unfold i64n;omega) (by unfold i64n;omega)
 have hL:Rd.isLoad ld=true:=decide_eq_true hld
 rw[hL,zzj hf,k1] at r1
 rw[zuv hf,k2] at r2
 rw[zut hf hi,k3] at r3
 have r1':=r1 []
 have r2':=r2 []
 have r3':=r3 []
 simp only[List.append_nil] at r1' r2' r3'
 have w1:IntKind.i64.wrap ((r.parts.length:Int) - 1)=(r.parts.length:Int) - 1:=zau (by omega) (by omega)
 have w2:IntKind.i64.wrap ((r.parts.length:Int) - 1 - i)=(r.parts.length:Int) - 1 - i:=zau (by omega) (by omega)
 have HX:=hideP (And.intro (h4.app [.cells [.int .i64 sl,.int .i64 sh]]) (And.intro (hp.app [.cells [.int .i64 sl,.int .i64 sh]]) (And.intro (he.app [.cells [.int .i64 sl,.int .i64 sh]]) (show n0≤(G++[AB.cells [.int .i64 sl,.int .i64 sh]]).length by simp;omega))))
 have gG0:¬ (G.length<n0):=by omega
 obtain ⟨A1,A2,A3⟩:=h14
 obtain ⟨B1,B2,B3⟩:=h27
 unfold af10 Zq Zm Zl Zo Zs Zd Ze Zc Zt Zn Zi at hend
 simp only[atP] at hend
 have HE:=hideP hend
 clear hend hA hf hW hR hP hez k1 k2 k3 h4 hzp hze hp he hn0 hro hL hp4 he10 r1 r2 r3 hld hi
 unfold af10 Zq Zm Zl Zo Zs Zd Ze Zc Zt Zn Zi
 simp only[atP,roadCs] at *
 (repeat (first|(with_reducible refine HE.out _ HX.out.1 HX.out.2.1 HX.out.2.2.1 HX.out.2.2.2 _ ?_ ?_ ?_ ?_ ?_ ?_<;>simp[*,zaq])|((with_reducible apply zah);(focus ((with_reducible apply zas);(focus rfl);(focus rfl);(focus ((conv=>lhs;simp[*,List.getElem?_append_right,List.set_append_right,List.getElem?_cons_zero,List.getElem?_append_left,List.set_append_left,-getElem?_pos,Nat.testBit_eq_decide_div_mod_eq])<;>exact rfl));(focus rfl);(focus rfl)));simp only[addFl])|(with_reducible apply zah;(focus ((conv=>lhs;simp[*,List.getElem?_append_right,List.set_append_right,List.getElem?_cons_zero,List.getElem?_append_left,List.set_append_left,-getElem?_pos,Nat.testBit_eq_decide_div_mod_eq])<;>exact rfl));simp only[addFl])|((with_reducible first|apply zai|apply zak|apply zag|apply zae|apply zac|apply zaj|apply zaf|apply zam|(apply zad;· simp[*,zaa])|(apply zab;· simp[*,zaa]));try simp only[Then,Ops])|simp only[Nat.reduceEqDiff,reduceIte,OutB,Then]))
end Ro
end Ev
end Go.Proofs.Ytlcjlcllbgjplaa

/- RoadMore, gone through: roads of which more is known. -/
namespace Go.Proofs.Ytlcjlcllbgjplaa
open Go
namespace Ev
namespace Ro
open K
attribute [local simp] ev1 wantG spineK spine float xnew xval xeff zaa zar zbe zax zaw addFl cellsOf pickC alive slLen slFt binI maxA maxK minA minK aeqK aeqS AV.cells spA zat fillA setAt bitsI nat_nn zbf AV.plain apart
set_option maxRecDepth 100000
set_option maxHeartbeats 4000000
theorem zvj {Q r:Rd.Road}(hs:Rd.Sub Q r)(hf:Rd.Fine r)(hc:Rd.canR Q (Rd.everyR Q)=true){ld bz ez mz fz sl sh gz:Int}{i:Nat}(hi:i<r.parts.length)(k1:numRV r true (Rd.bearsR r ld)=.tup [.int .i64 bz,.int .i64 ez])(k2:findRV r true (Rd.mostR r)=.tup [.int .i64 mz,.int .i64 fz])
  (k3:spanRV r (Rd.isPart r i&&Rd.isEvent r ((r.events.length:Int) - 1)) (Rd.heightsR r i (((r.events.length:Int) - 1).toNat+1))=.tup [.agg [.int .i64 sl,.int .i64 sh],.int .i64 gz]):
  ez=0∧(bz=1∨Rd.bearsR Q ld=bz)∧(fz=4∨fz=0∧∃ j:Nat,Rd.mostR Q=some j∧mz≤j)∧(r.events.length=0∨sl≤(Rd.heightsR Q i r.events.length).lo∧(Rd.heightsR Q i r.events.length).hi≤sh):=by
 have hr:=hs.can hc
 rw[num_ok hf hr] at k1
 rw[zyd hf hr] at k2
 simp only[AV.tup.injEq,List.cons.injEq,AV.int.injEq,true_and,and_true] at k1 k2
 obtain ⟨rfl,rfl⟩:=k1
 obtain ⟨rfl,rfl⟩:=k2
 refine ⟨rfl,hs.bears hc ld,?_,?_⟩
 ·cases h:Rd.mostR r with
  |none=>exact .inl rfl
  |some m=>
   obtain ⟨j,h1,h2⟩:=hs.most h
   exact .inr ⟨rfl,j,h1,by simpa using h2⟩
 ·by_cases h0:r.events.length=0
  ·exact .inl h0
  ·refine .inr ?_
   have he:Rd.errR r (Rd.isPart r i&&Rd.isEvent r ((r.events.length:Int) - 1))=0:=by
    unfold Rd.errR
    rw[(Rd.valid_iff r).2 hf,hr,show Rd.isPart r i=true from decide_eq_true (by omega),show Rd.isEvent r ((r.events.length:Int) - 1)=true from decide_eq_true (by omega)];rfl
   unfold spanRV at k3
   rw[he,if_pos rfl,show ((r.events.length:Int) - 1).toNat+1=r.events.length by omega] at k3
   simp only[spA,AV.tup.injEq,List.cons.injEq,AV.agg.injEq,AV.int.injEq,true_and,and_true] at k3
   obtain ⟨⟨rfl,rfl⟩,-⟩:=k3
   exact hs.height hc hi (Nat.le_refl _)
def moQSt (a4 a14 a27 p e np ne i:Nat)(ld bz ez mz fz last gz:Int)(qv:AV)(j:Nat)(G:List AB):St:={ tm:=tmA 414 [(208,.int .i64 j),(207,.int .i64 2),(206,qv),(28,.int .i64 gz),(27,.ptr a27 0),(26,.int .i64 last),(25,.int .i64 fz),(24,.int .i64 mz),(23,.int .i64 ez),(22,.int .i64 bz),(21,.sl e 0 ne 7),(20,.sl p 0 np 7),(14,.ptr a14 0),(11,.int .i64 i),(10,.int .i64 ld),(9,.int .i64 np),(4,.ptr a4 0)],df:=[],hp:=G,tc:=[] }
theorem zot (C:Cfg)(_hC:C.calm=true)(call:CallF)(hA:LApi call)(r:Rd.Road)(hf:Rd.Fine r)(ld:Int)(hld:0≤ld∧ld≤60)(bz ez mz fz sl sh gz:Int)(i:Nat)(hi:i<r.parts.length)
  (k1:numRV r true (Rd.bearsR r ld)=.tup [.int .i64 bz,.int .i64 ez]) (k2:findRV r true (Rd.mostR r)=.tup [.int .i64 mz,.int .i64 fz])
  (k3:spanRV r (Rd.isPart r i&&Rd.isEvent r ((r.events.length:Int) - 1)) (Rd.heightsR r i (((r.events.length:Int) - 1).toNat+1))=.tup [.agg [.int .i64 sl,.int .i64 sh],.int .i64 gz])
  (Q:Rd.Road) (hs:Rd.Sub Q r) (hne:r.events.length≤Q.events.length) (pl:List AV) (b m:Nat) (aq:Nat) (qcs:List AV) (j:Nat) (hj:j<2) (hqj:(qcs.drop (j * 2)).take 2=[.vs 7 pl,.sl b 0 m 7]) (hql:qcs.length=2 * 2)
  (n0 a4 a14 a27 p e:Nat) (G:List AB) (hq:HB G aq (.cells qcs)) (hn0:n0≤G.length) (hro:∀ K,roadOf (G++K) (.agg [.vs 7 pl,.sl b 0 m 7])=some Q) (h27:HB G a27 (.cells [.int .i64 sl,.int .i64 sh])):
  Does (ev C call n0 none (atP [1,1,1,1,1,1,1,1,1,1,1,1,1,1,1,1,0,1,0,0] af10.body) (moQSt a4 a14 a27 p e r.parts.length r.events.length i ld bz ez mz fz ((r.events.length:Int) - 1) gz (.sl aq 0 2 2) j G))
   (fun ex st=>ex=.normal∧∃ J,{ st with tm:=keepT [4,9,10,11,14,20,21,22,23,24,25,26,27,28,206,207,208] st.tm }=moQSt a4 a14 a27 p e r.parts.length r.events.length i ld bz ez mz fz ((r.events.length:Int) - 1) gz (.sl aq 0 2 2) (j+1) (G++J)):=by
 have he10:=hf.events
 have hv:=fun K=>hA.valid (hro K)
 have r1:=fun K=>hA.bears (hro K) ld (by unfold i64n;omega)
 have r2:=fun K=>hA.most (hro K)
 have hp4:=hf.parts
 have r3:=fun K=>hA.height (hro K) i ((r.events.length:Int) - 1) (by unfold i64n;omega) (by unfold i64n;omega)
 have hL:Rd.isLoad ld=true:=decide_eq_true hld
 have hwj:IntKind.i64.wrap (↑j+1)=↑j+1:=zau (by omega) (by omega)
 have hjj:(j:Int)<2:=by omega
 have gG0:¬ (G.length<n0):=by omega
 have gG:∀ n,¬ (G.length+n<n0):=fun n=>by omega
 have hj2:j * 2+2≤2 * 2:=by omega
 obtain ⟨D1,D2,D3⟩:=hq
 rw[hL] at r1
 cases hval:Rd.valid Q with
 |false=>
  rw[hval] at hv
  clear hA hf hs hro k1 k2 k3 r1 r2 r3 hld he10 hp4 hval
  unfold af10 Zq Zm Zl Zo Zs Zd Ze Zc Zt Zn Zi moQSt
  simp only[atP] at *
  (repeat (first|((with_reducible apply zah);(focus ((with_reducible apply zas);(focus rfl);(focus rfl);(focus ((conv=>lhs;simp[*,List.getElem?_append_right,List.set_append_right,List.getElem?_cons_zero,List.getElem?_append_left,List.set_append_left,-getElem?_pos,Nat.testBit_eq_decide_div_mod_eq])<;>exact rfl));(focus rfl);(focus rfl)));simp only[addFl])|(with_reducible apply zah;(focus ((conv=>lhs;simp[*,List.getElem?_append_right,List.set_append_right,List.getElem?_cons_zero,List.getElem?_append_left,List.set_append_left,-getElem?_pos,Nat.testBit_eq_decide_div_mod_eq])<;>exact rfl));simp only[addFl])|((with_reducible first|apply zai|apply zak|apply zag|apply zae|apply zac|apply zaj|apply zaf|apply zam|(apply zad;· simp[*,zaa])|(apply zab;· simp[*,zaa]));try simp only[Then,Ops,OutB,reduceIte])|simp only[Nat.reduceEqDiff,reduceIte,OutB,Then]))
  refine ⟨by first|rfl|trivial,[AB.cells [.vs 7 pl,.sl b 0 m 7]],?_⟩
  (refine st_is ?_ ?_ ?_ ?_;(focus (simp[zao,zaq]));(focus rfl);(focus (first|rfl|(simp;done)|(simp[*];done)|(simp;rfl)|(simp[*];omega)|(simp;omega)));(focus (first|rfl|simp)))
 |true=>
 rw[hval] at hv
 have hqf:=(Rd.valid_iff Q).1 hval
 cases hcan:Rd.canR Q (Rd.everyR Q) with
 |false=>
  have he:∀ b,Rd.errR Q b≠0∧(b=true→Rd.errR Q b=10):=fun b=>by
   unfold Rd.errR
   rw[hval,hcan]
   cases b<;>simp
  have e1:∃ x y k z:Int,spanRV Q (Rd.isPart Q i&&Rd.isEvent Q ((r.events.length:Int) - 1)) (Rd.heightsR Q ((i:Int).toNat) (((r.events.length:Int) - 1).toNat+1))=.tup [.agg [.int .i64 x,.int .i64 y],.int .i64 z]∧k=0:=⟨_,_,0,_,rfl,rfl⟩
  obtain ⟨x,y,-,z,e1,-⟩:=e1
  rw[e1] at r3
  rw[num_no hqf hcan] at r1
  rw[yda hqf hcan] at r2
  clear hA hf hs hro k1 k2 k3 hld he10 hp4 hval he hqf hcan e1
  unfold af10 Zq Zm Zl Zo Zs Zd Ze Zc Zt Zn Zi moQSt
  simp only[atP] at *
  (repeat (first|((with_reducible apply zah);(focus ((with_reducible apply zas);(focus rfl);(focus rfl);(focus ((conv=>lhs;simp[*,List.getElem?_append_right,List.set_append_right,List.getElem?_cons_zero,List.getElem?_append_left,List.set_append_left,-getElem?_pos,Nat.testBit_eq_decide_div_mod_eq])<;>exact rfl));(focus rfl);(focus rfl)));simp only[addFl])|(with_reducible apply zah;(focus ((conv=>lhs;simp[*,List.getElem?_append_right,List.set_append_right,List.getElem?_cons_zero,List.getElem?_append_left,List.set_append_left,-getElem?_pos,Nat.testBit_eq_decide_div_mod_eq])<;>exact rfl));simp only[addFl])|((with_reducible first|apply zai|apply zak|apply zag|apply zae|apply zac|apply zaj|apply zaf|apply zam|(apply zad;· simp[*,zaa])|(apply zab;· simp[*,zaa]));try simp only[Then,Ops,OutB])|simp only[Nat.reduceEqDiff,reduceIte,OutB,Then]))
  refine ⟨by first|rfl|trivial,[AB.cells [.vs 7 pl,.sl b 0 m 7],AB.cells [.int .i64 x,.int .i64 y]],?_⟩
  (refine st_is ?_ ?_ ?_ ?_;(focus (simp[zao,zaq]));(focus rfl);(focus (first|rfl|(simp;done)|(simp[*];done)|(simp;rfl)|(simp[*];omega)|(simp;omega)));(focus (first|rfl|simp)))
 |true=>
 obtain ⟨rfl,o1,o2,o3⟩:=zvj hs hf hcan hi k1 k2 k3
 rw[num_ok hqf hcan] at r1
 rw[zyd hqf hcan] at r2
 generalize Rd.bearsR Q ld=kq at *
 have e3:∃ x y z:Int,spanRV Q (Rd.isPart Q i&&Rd.isEvent Q ((r.events.length:Int) - 1)) (Rd.heightsR Q ((i:Int).toNat) (((r.events.length:Int) - 1).toNat+1))=.tup [.agg [.int .i64 x,.int .i64 y],.int .i64 z]∧(¬ (0≤(r.events.length:Int) - 1)∨0≤(r.events.length:Int) - 1∧z=0∧¬ x<sl∧¬ sh<y):=by
  refine ⟨_,_,_,rfl,?_⟩
  rcases o3 with h0|⟨h1,h2⟩
  ·exact .inl (by omega)
  ·by_cases h0:r.events.length=0
   ·exact .inl (by omega)
   ·have he:Rd.errR Q (Rd.isPart Q i&&Rd.isEvent Q ((r.events.length:Int) - 1))=0:=by
     unfold Rd.errR
     rw[hval,hcan,show Rd.isPart Q i=true from decide_eq_true (by rw[hs.parts];omega),show Rd.isEvent Q ((r.events.length:Int) - 1)=true from decide_eq_true (by omega)];rfl
    refine .inr ⟨by omega,he,?_,?_⟩<;>rw[he,if_pos rfl,show ((r.events.length:Int) - 1).toNat+1=r.events.length by omega,show (i:Int).toNat=i from rfl]<;>omega
 obtain ⟨x,y,z,e3,e4⟩:=e3
 rw[e3] at r3
 have e2:∃ mq iq:Int,AV.tup [.int .i64 (((Rd.mostR Q).getD 0:Nat):Int),.int .i64 (if (Rd.mostR Q).isSome then 0 else 4)]=.tup [.int .i64 mq,.int .i64 iq]∧(fz=4∨fz=0∧iq=0∧¬ mq<mz):=by
  refine ⟨_,_,rfl,?_⟩
  rcases o2 with h|⟨h,j,h1,h2⟩
  ·exact .inl h
  ·rw[h1];exact .inr ⟨h,rfl,by simp;omega⟩
 obtain ⟨mq,iq,e2,e5⟩:=e2
 rw[e2] at r2
 have e1:bz=1∨(bz != 1)=true∧kq=bz:=by
  by_cases h:bz=1
  ·exact .inl h
  ·rcases o1 with h'|h'
   ·exact absurd h' h
   ·exact .inr ⟨by simpa using h,h'⟩
 clear hA hf hs hro k1 k2 k3 hld he10 hp4 hval hqf hcan e2 e3 o1 o2 o3 hL
 generalize (r.events.length:Int) - 1=la at *
 obtain ⟨B1,B2,B3⟩:=h27
 rcases e1 with rfl|⟨hb,rfl⟩<;>rcases e5 with rfl|⟨rfl,rfl,hm⟩<;>rcases e4 with hla|⟨hla,rfl,hx,hy⟩
 all_goals
  unfold af10 Zq Zm Zl Zo Zs Zd Ze Zc Zt Zn Zi moQSt
  simp only[atP] at *
  (repeat (first|((with_reducible apply zah);(focus ((with_reducible apply zas);(focus rfl);(focus rfl);(focus ((conv=>lhs;simp[*,List.getElem?_append_right,List.set_append_right,List.getElem?_cons_zero,List.getElem?_append_left,List.set_append_left,-getElem?_pos,Nat.testBit_eq_decide_div_mod_eq])<;>exact rfl));(focus rfl);(focus rfl)));simp only[addFl])|(with_reducible apply zah;(focus ((conv=>lhs;simp[*,List.getElem?_append_right,List.set_append_right,List.getElem?_cons_zero,List.getElem?_append_left,List.set_append_left,-getElem?_pos,Nat.testBit_eq_decide_div_mod_eq])<;>exact rfl));simp only[addFl])|((with_reducible first|apply zai|apply zak|apply zag|apply zae|apply zac|apply zaj|apply zaf|apply zam|(apply zad;· simp[*,zaa])|(apply zab;· simp[*,zaa]));try simp only[Then,Ops,OutB])|simp only[Nat.reduceEqDiff,reduceIte,OutB,Then]))
  refine ⟨by first|rfl|trivial,[AB.cells [.vs 7 pl,.sl b 0 m 7],AB.cells [.int .i64 x,.int .i64 y]],?_⟩
  (refine st_is ?_ ?_ ?_ ?_;(focus (simp[zao,zaq]));(focus rfl);(focus (first|rfl|(simp;done)|(simp[*];done)|(simp;rfl)|(simp[*];omega)|(simp;omega)));(focus (first|rfl|simp)))
end Ro
end Ev
end Go.Proofs.Ytlcjlcllbgjplaa

/- RoadMore, gone through: what is returned of the road itself. -/
namespace Go.Proofs.Ytlcjlcllbgjplaa
open Go
namespace Ev
namespace Ro
open K
attribute [local simp] ev1 wantG spineK spine float xnew xval xeff zaa zar zbe zax zaw addFl cellsOf pickC alive slLen slFt binI maxA maxK minA minK aeqK aeqS AV.cells spA zat fillA setAt bitsI nat_nn zbf AV.plain apart
set_option maxRecDepth 100000
set_option maxHeartbeats 4000000
theorem zxe (C:Cfg)(hC:C.calm=true)(call:CallF)(hA:LApi call)(r:Rd.Road)(hf:Rd.Fine r)(hW:WithC call r)(hR:LRestC call)(hP:LPassC call)(ld:Int)(hld:0≤ld∧ld≤60)(bz ez mz fz sl sh gz:Int)(i:Nat)(hi:i<r.parts.length)
  (hez:ez=10∨ez=0∧bz=Rd.bearsR r ld∧Rd.canR r (Rd.everyR r)=true) (k1:numRV r true (Rd.bearsR r ld)=.tup [.int .i64 bz,.int .i64 ez]) (k2:findRV r true (Rd.mostR r)=.tup [.int .i64 mz,.int .i64 fz])
  (k3:spanRV r (Rd.isPart r i&&Rd.isEvent r ((r.events.length:Int) - 1)) (Rd.heightsR r i (((r.events.length:Int) - 1).toNat+1))=.tup [.agg [.int .i64 sl,.int .i64 sh],.int .i64 gz])
  (X Y:Rd.Road) (hX:Rd.Sub X r) (hXe:r.events.length≤X.events.length) (hY:Rd.Sub Y r) (hYe:r.events.length≤Y.events.length)
  (n0 a4 a12 a13 a14 a27 p e:Nat) (zp ze:AV) (pl1 pl2:List AV) (b1 m1 b2 m2:Nat) (G:List AB) (h4:HB G a4 (.cells (roadCs r))) (h12:HB G a12 (.cells [.vs 7 pl1,.sl b1 0 m1 7])) (h13:HB G a13 (.cells [.vs 7 pl2,.sl b2 0 m2 7])) (h14:HB G a14 (.cells [zp,ze])) (h27:HB G a27 (.cells [.int .i64 sl,.int .i64 sh]))
  (hx:∀ K,roadOf (G++K) (.agg [.vs 7 pl1,.sl b1 0 m1 7])=some X) (hy:∀ K,roadOf (G++K) (.agg [.vs 7 pl2,.sl b2 0 m2 7])=some Y) (hzp:∀ K,ptsV (G++K) zp (Rd.turnR r).parts) (hze:∀ K,evsV (G++K) ze (Rd.turnR r).events) (hp:HB G p (.cells (ptCs r.parts))) (he:HB G e (.cells (evCs r.events))) (hn0:n0≤G.length)
  (L:List (Nat × AV)) (L4:lk 414 L 4=.ptr a4 0) (L9:lk 414 L 9=.int .i64 r.parts.length) (L10:lk 414 L 10=.int .i64 ld) (L11:lk 414 L 11=.int .i64 i) (L12:lk 414 L 12=.ptr a12 0) (L13:lk 414 L 13=.ptr a13 0) (L14:lk 414 L 14=.ptr a14 0) (L20:lk 414 L 20=.sl p 0 r.parts.length 7) (L21:lk 414 L 21=.sl e 0 r.events.length 7) (L22:lk 414 L 22=.int .i64 bz) (L23:lk 414 L 23=.int .i64 ez)
  (L24:lk 414 L 24=.int .i64 mz) (L25:lk 414 L 25=.int .i64 fz) (L26:lk 414 L 26=.int .i64 ((r.events.length:Int) - 1)) (L27:lk 414 L 27=.ptr a27 0) (L28:lk 414 L 28=.int .i64 gz):
  Does (ev C call n0 none (atP [1,1,1,1,1,1,1,1,1,1,1,1,1,1,1,1] af10.body) { tm:=tmA 414 L,df:=[],hp:=G,tc:=[] })
   (Ends C n0 af10.res fun v _ _=>v=.bool true):=by
 have m12:val C (tmA 414 L) (.tmp 12)=.ptr a12 0:=L12
 have m13:val C (tmA 414 L) (.tmp 13)=.ptr a13 0:=L13
 have HX:=hideP (And.intro hn0 (And.intro hX (And.intro hXe (And.intro hY (And.intro hYe (And.intro hx (And.intro hy (And.intro h27 (And.intro h4 (And.intro h14 (And.intro hzp (And.intro hze (And.intro hp he)))))))))))))
 obtain ⟨A1,A2,A3⟩:=h12
 obtain ⟨B1,B2,B3⟩:=h13
 have HK:=hideP (And.intro k1 (And.intro k2 (And.intro k3 (And.intro hA (And.intro hf (And.intro hez (And.intro hi hld)))))))
 clear k1 k2 k3 hX hXe hY hYe hx hy h27 h4 h14 hzp hze hp he hn0 hA hf hez hi hld
 unfold af10 Zq Zm Zl Zo Zs Zd Ze Zc Zt Zn Zi
 simp only[atP,roadCs] at *
 (repeat (first|((with_reducible apply zah);(focus ((with_reducible apply zas);(focus rfl);(focus rfl);(focus ((conv=>lhs;simp[*,List.getElem?_append_right,List.set_append_right,List.getElem?_cons_zero,List.getElem?_append_left,List.set_append_left,-getElem?_pos,Nat.testBit_eq_decide_div_mod_eq])<;>exact rfl));(focus rfl);(focus rfl)));simp only[addFl])|(with_reducible apply zah;(focus ((conv=>lhs;simp[*,List.getElem?_append_right,List.set_append_right,List.getElem?_cons_zero,List.getElem?_append_left,List.set_append_left,-getElem?_pos,Nat.testBit_eq_decide_div_mod_eq])<;>exact rfl));simp only[addFl])|((with_reducible first|apply zai|apply zak|apply zag|apply zae|apply zac|apply zaj|apply zaf|apply zam|(apply zad;· simp[*,zaa])|(apply zab;· simp[*,zaa]));try simp only[Then,Ops])|simp only[Nat.reduceEqDiff,reduceIte,OutB,Then]))
 with_reducible refine zaz hC 2 (by unfold fuelL;omega) (fun j st=>∃ J,st=moQSt a4 a14 a27 p e r.parts.length r.events.length i ld bz ez mz fz ((r.events.length:Int) - 1) gz (.sl G.length 0 2 2) j (G++.cells [.vs 7 pl1,.sl b1 0 m1 7,.vs 7 pl2,.sl b2 0 m2 7]::J)) ?_ ?_ ?_
 ·refine ⟨[],?_⟩
  unfold moQSt
  exact st_eq (by simp[*,zao,zaq]) rfl (by simp) (by simp)
 ·rintro j st hj ⟨J,rfl⟩
  obtain ⟨hn0,hX,hXe,hY,hYe,hx,hy,h27,h4,h14,hzp,hze,hp,he⟩:=HX.out
  obtain ⟨k1,k2,k3,hA,hf,hez,hi,hld⟩:=HK.out
  have hn1:n0≤(G++AB.cells [.vs 7 pl1,.sl b1 0 m1 7,.vs 7 pl2,.sl b2 0 m2 7]::J).length:=by simp;omega
  have hr:∀ (Q:Rd.Road) (hs:Rd.Sub Q r) (hne:r.events.length≤Q.events.length) (pl:List AV) (b m:Nat),([AV.vs 7 pl1,.sl b1 0 m1 7,.vs 7 pl2,.sl b2 0 m2 7].drop (j * 2)).take 2=[.vs 7 pl,.sl b 0 m 7]→(∀ K,roadOf (G++K) (.agg [.vs 7 pl,.sl b 0 m 7])=some Q)→_:=fun Q hs hne pl b m h1 h2=>
   zot C hC call hA r hf ld hld bz ez mz fz sl sh gz i hi k1 k2 k3 Q hs hne pl b m G.length [.vs 7 pl1,.sl b1 0 m1 7,.vs 7 pl2,.sl b2 0 m2 7] j hj h1 rfl n0 a4 a14 a27 p e (G++.cells [.vs 7 pl1,.sl b1 0 m1 7,.vs 7 pl2,.sl b2 0 m2 7]::J) (hb (by simp)) hn1 (fun K=>by rw[List.append_assoc];exact h2 _) (h27.app _)
  have hr2:∃ Q pl b m,([AV.vs 7 pl1,.sl b1 0 m1 7,.vs 7 pl2,.sl b2 0 m2 7].drop (j * 2)).take 2=[.vs 7 pl,.sl b 0 m 7]∧Rd.Sub Q r∧r.events.length≤Q.events.length∧∀ K,roadOf (G++K) (.agg [.vs 7 pl,.sl b 0 m 7])=some Q:=by
   rcases (by omega:j=0∨j=1) with rfl|rfl
   ·exact ⟨X,pl1,b1,m1,rfl,hX,hXe,hx⟩
   ·exact ⟨Y,pl2,b2,m2,rfl,hY,hYe,hy⟩
  obtain ⟨Q,pl,b,m,h1,h2,h3,h5⟩:=hr2
  refine Does.mono (hr Q h2 h3 pl b m h1 h5) ?_
  rintro ex st ⟨rfl,J',h⟩
  exact ⟨J++J',by rw[show G++AB.cells [.vs 7 pl1,.sl b1 0 m1 7,.vs 7 pl2,.sl b2 0 m2 7]::(J++J')=G++AB.cells [.vs 7 pl1,.sl b1 0 m1 7,.vs 7 pl2,.sl b2 0 m2 7]::J++J' by simp];exact h⟩
 ·rintro st ⟨J,rfl⟩
  obtain ⟨hn0,hX,hXe,hY,hYe,hx,hy,h27,h4,h14,hzp,hze,hp,he⟩:=HX.out
  obtain ⟨k1,k2,k3,hA,hf,hez,hi,hld⟩:=HK.out
  have hend:=zxa C hC call hA r hf hW hR hP ld hld bz ez mz fz sl sh gz i hi hez k1 k2 k3 n0 a4 a14 a27 p e zp ze (G++.cells [.vs 7 pl1,.sl b1 0 m1 7,.vs 7 pl2,.sl b2 0 m2 7]::J) (h4.app _) (h14.app _) (h27.app _) (fun K=>by rw[List.append_assoc];exact hzp _) (fun K=>by rw[List.append_assoc];exact hze _) (hp.app _) (he.app _) (by simp;omega)
  unfold af10 Zq Zm Zl Zo Zs Zd Ze Zc Zt Zn Zi at hend
  simp only[atP] at hend
  have HE:=hideP hend
  clear hend hn0 hX hXe hY hYe hx hy h27 h4 h14 hzp hze hp he k1 k2 k3 hA hf hez hi hld HK HX m12 m13 L4 L9 L10 L11 L12 L13 L14 L20 L21 L22 L23 L24 L25 L26 L27 L28 A1 A2 A3 B1 B2 B3
  unfold moQSt
  (repeat (first|(with_reducible refine HE.out _ ?_ ?_ ?_ ?_ ?_ ?_ ?_ ?_ ?_ ?_ ?_ ?_ ?_ ?_<;>simp[zaq])|((with_reducible apply zah);(focus ((with_reducible apply zas);(focus rfl);(focus rfl);(focus ((conv=>lhs;simp[*,List.getElem?_append_right,List.set_append_right,List.getElem?_cons_zero,List.getElem?_append_left,List.set_append_left,-getElem?_pos,Nat.testBit_eq_decide_div_mod_eq])<;>exact rfl));(focus rfl);(focus rfl)));simp only[addFl])|(with_reducible apply zah;(focus ((conv=>lhs;simp[*,List.getElem?_append_right,List.set_append_right,List.getElem?_cons_zero,List.getElem?_append_left,List.set_append_left,-getElem?_pos,Nat.testBit_eq_decide_div_mod_eq])<;>exact rfl));simp only[addFl])|((with_reducible first|apply zai|apply zak|apply zag|apply zae|apply zac|apply zaj|apply zaf|apply zam|(apply zad;· simp[*,zaa])|(apply zab;· simp[*,zaa]));try simp only[Then,Ops,OutB,reduceIte])|simp only[Nat.reduceEqDiff,reduceIte,OutB,Then]))
end Ro
end Ev
end Go.Proofs.Ytlcjlcllbgjplaa

/- RoadMore, gone through: copies, and what is returned of the road. -/
namespace Go.Proofs.Ytlcjlcllbgjplaa
open Go
namespace Ev
namespace Ro
open K
attribute [local simp] ev1 wantG spineK spine float xnew xval xeff zaa zar zbe zax zaw addFl cellsOf pickC alive slLen slFt binI maxA maxK minA minK aeqK aeqS AV.cells spA zat fillA setAt bitsI nat_nn zbf AV.plain apart
set_option maxRecDepth 100000
set_option maxHeartbeats 4000000
structure MoX (r:Rd.Road) (v:Rd.Evt) (w a4 a12 a13 b1 b2:Nat) (G:List AB):Prop where
 c0:HB G a4 (.cells (roadCs r))
 x0:HB G a12 (.cells [.vs 7 (r.parts.map ptE),.sl b1 0 (r.events.length+1) 7])
 x1:HB G b1 (.cells (evCs (r.events++[v])))
 y0:HB G a13 (.cells [.vs 7 (r.parts.map ptE),.sl b2 0 r.events.length 7])
 y1:HB G b2 (.cells (evCs (Rd.narR w r).events))
theorem MoX.move {r:Rd.Road}{v:Rd.Evt}{w a4 a12 a13 b1 b2:Nat}{G G':List AB}(h:MoX r v w a4 a12 a13 b1 b2 G)(lo:Nat)(h1:a4<lo)(h2:a12<lo)(h3:a13<lo)(h4:b1<lo)(h5:b2<lo)(a:Nat)(n1:a4≠a)(n2:a12≠a)(n3:a13≠a)(n4:b1≠a)(n5:b2≠a)(hm:∀ q x,q<lo→q≠a→HB G q x→HB G' q x):MoX r v w a4 a12 a13 b1 b2 G':=
 ⟨hm _ _ h1 n1 h.c0,hm _ _ h2 n2 h.x0,hm _ _ h4 n4 h.x1,hm _ _ h3 n3 h.y0,hm _ _ h5 n5 h.y1⟩
theorem MoX.app {r:Rd.Road}{v:Rd.Evt}{w a4 a12 a13 b1 b2:Nat}{G:List AB}(h:MoX r v w a4 a12 a13 b1 b2 G)(K:List AB):MoX r v w a4 a12 a13 b1 b2 (G++K):=
 ⟨h.c0.app K,h.x0.app K,h.x1.app K,h.y0.app K,h.y1.app K⟩
inductive Grw (lo:Nat) (G:List AB) (cs:List AV) (n:Nat):AV→Prop
 |none:cs=[]→n=0→Grw lo G cs n .nils
 |some (q:Nat):lo≤q→HB G q (.cells cs)→Grw lo G cs n (.sl q 0 n 7)
theorem Grw.move {lo lo':Nat}{G G':List AB}{cs:List AV}{n a:Nat}{v:AV}(h:Grw lo G cs n v)(ha:a<lo)(hl:G.length≤lo')(hm:∀ r x,r<lo'→r≠a→HB G r x→HB G' r x):Grw lo G' cs n v:=by
 cases h with
 |none h0 h1=>exact .none h0 h1
 |some q h0 h1=>exact .some q h0 (hm _ _ (by have:=h1.lt;omega) (by omega) h1)
theorem Grw.app {lo:Nat}{G:List AB}{cs:List AV}{n:Nat}{v:AV}(h:Grw lo G cs n v)(K:List AB):Grw lo (G++K) cs n v:=by
 cases h with
 |none h0 h1=>exact .none h0 h1
 |some q h0 h1=>exact .some q h0 (h1.app K)
theorem Grw.pts {lo:Nat}{G:List AB}{l:List Rd.Pt}{v:AV}(h:Grw lo G (ptCs l) l.length v):ptsV G v l:=by
 cases h with
 |none h0 h1=>
  have:l=[]:=List.length_eq_zero_iff.1 h1
  subst this;exact yae G
 |some q h0 h1=>exact yce h1.get rfl
theorem Grw.evs {lo:Nat}{G:List AB}{l:List Rd.Evt}{v:AV}(h:Grw lo G (evCs l) l.length v):evsV G v l:=by
 cases h with
 |none h0 h1=>
  have:l=[]:=List.length_eq_zero_iff.1 h1
  subst this;exact ybc G
 |some q h0 h1=>exact zjg h1.get rfl
theorem yao (C:Cfg)(hC:C.calm=true)(call:CallF)(hA:LApi call)(r:Rd.Road)(hf:Rd.Fine r)(hW:WithC call r)(hR:LRestC call)(hP:LPassC call)(ld:Int)(hld:0≤ld∧ld≤60)(i:Nat)(hi:i<r.parts.length)(v:Rd.Evt)(hv:v.kind=2)(w:Nat)
  (n0 a4 a12 a13 a14 b1 b2:Nat) (zp ze:AV) (G:List AB) (hM:MoX r v w a4 a12 a13 b1 b2 G) (h14:HB G a14 (.cells [zp,ze])) (lo:Nat) (hzp:Grw lo G (ptCs (Rd.turnR r).parts) r.parts.length zp) (hze:Grw lo G (evCs (Rd.turnR r).events) r.events.length ze) (hn0:n0≤G.length)
  (L:List (Nat × AV)) (L4:lk 414 L 4=.ptr a4 0) (L9:lk 414 L 9=.int .i64 r.parts.length) (L10:lk 414 L 10=.int .i64 ld) (L11:lk 414 L 11=.int .i64 i) (L12:lk 414 L 12=.ptr a12 0) (L13:lk 414 L 13=.ptr a13 0) (L14:lk 414 L 14=.ptr a14 0):
  Does (ev C call n0 none (atP [1,1,1,1,1,1,1,1,1,1,1] af10.body) { tm:=tmA 414 L,df:=[],hp:=G,tc:=[] })
   (Ends C n0 af10.res fun v _ _=>v=.bool true):=by
 have m4:val C (tmA 414 L) (.tmp 4)=.ptr a4 0:=L4
 have m10:val C (tmA 414 L) (.tmp 10)=.int .i64 ld:=L10
 have m11:val C (tmA 414 L) (.tmp 11)=.int .i64 i:=L11
 have hp4:=hf.parts
 have he10:=hf.events
 have hl:Rd.isLoad ld=true:=decide_eq_true hld
 have hro:=fun H=>zqh H r (by omega) (by omega)
 have r1:=fun H=>hA.bears (hro H) ld (by unfold i64n;omega)
 have r2:=fun H=>hA.most (hro H)
 have r3:=fun H=>hA.height (hro H) i ((r.events.length:Int) - 1) (by unfold i64n;omega) (by unfold i64n;omega)
 rw[hl] at r1
 obtain ⟨bz,ez,k1,hez⟩:∃ bz ez:Int,numRV r true (Rd.bearsR r ld)=.tup [.int .i64 bz,.int .i64 ez]∧(ez=10∨ez=0∧bz=Rd.bearsR r ld∧Rd.canR r (Rd.everyR r)=true):=by
  cases hc:Rd.canR r (Rd.everyR r) with
  |false=>exact ⟨_,_,num_no hf hc _,.inl rfl⟩
  |true=>exact ⟨_,_,num_ok hf hc _,.inr ⟨rfl,rfl,rfl⟩⟩
 obtain ⟨mz,fz,k2⟩:∃ mz fz:Int,findRV r true (Rd.mostR r)=.tup [.int .i64 mz,.int .i64 fz]:=⟨_,_,rfl⟩
 obtain ⟨sl,sh,gz,k3⟩:∃ sl sh gz:Int,spanRV r (Rd.isPart r i&&Rd.isEvent r ((r.events.length:Int) - 1)) (Rd.heightsR r i (((r.events.length:Int) - 1).toNat+1))=.tup [.agg [.int .i64 sl,.int .i64 sh],.int .i64 gz]:=⟨_,_,_,rfl⟩
 rw[k1] at r1
 rw[k2] at r2
 have r3':=fun H=>(r3 H).trans (congrArg (fun x=>some (CRes.ret x,H,[])) k3)
 clear r3
 have w1:IntKind.i64.wrap ((r.events.length:Int) - 1)=(r.events.length:Int) - 1:=zau (by omega) (by omega)
 have hsP:∀ H,slCells 7 H (.vs 7 (r.parts.map ptE))=some (ptCs r.parts):=fun H=>zhb H r.parts
 have hsE:∀ H,slCells 7 H (.vs 7 (r.events.map evE))=some (evCs r.events):=fun H=>zly H r.events
 have hbp:r.parts.length≤bound:=by unfold bound;omega
 have hbe:r.events.length≤bound:=by unfold bound;omega
 have hXY:∀ K,roadOf (G++K) (.agg [.vs 7 (r.parts.map ptE),.sl b1 0 (r.events.length+1) 7])=some (Rd.addR r v)∧roadOf (G++K) (.agg [.vs 7 (r.parts.map ptE),.sl b2 0 r.events.length 7])=some (Rd.narR w r):=fun K=>
  ⟨zdw (zhb _ _) (zjg (hM.x1.app K).get (by simp)) (by omega) (by simp;omega),zdw (zhb _ _) (zjg (hM.y1.app K).get (by simp)) (by omega) (by simp;omega)⟩
 have hend:=fun K h27 hp he hn0=>zxe C hC call hA r hf hW hR hP ld hld bz ez mz fz sl sh gz i hi hez k1 k2 k3 (Rd.addR r v) (Rd.narR w r) (Rd.look_sub r hv) (by simp[Rd.addR]) (Rd.nar_sub hf w) (by simp[Rd.narR]) n0 a4 a12 a13 a14 (G.length+4) (G.length+2) (G.length+3) zp ze (r.parts.map ptE) (r.parts.map ptE) b1 (r.events.length+1) b2 r.events.length (G++K) (hM.c0.app K) (hM.x0.app K) (hM.y0.app K) (h14.app K) h27
  (fun K'=>by rw[List.append_assoc];exact (hXY _).1) (fun K'=>by rw[List.append_assoc];exact (hXY _).2)
  (fun K'=>by rw[List.append_assoc];exact Grw.pts (by rw[(Rd.turn_len r).1];exact hzp.app _)) (fun K'=>by rw[List.append_assoc];exact Grw.evs (by rw[(Rd.turn_len r).2];exact hze.app _)) hp he hn0
 obtain ⟨A1,A2,A3⟩:=hM.c0
 have na:¬ (a4=G.length):=by omega
 have na':∀ n,¬ (a4=G.length+n):=fun n=>by omega
 have gG0:¬ (G.length<n0):=by omega
 have gG:∀ n,¬ (G.length+n<n0):=fun n=>by omega
 unfold af10 Zq Zm Zl Zo Zs Zd Ze Zc Zt Zn Zi at hend
 simp only[atP] at hend
 have HE:=hideP hend
 clear hend hA hf hW hR hP hld hi hp4 he10 hl hez k1 k2 k3 hXY hM h14 hzp hze hro
 unfold af10 Zq Zm Zl Zo Zs Zd Ze Zc Zt Zn Zi
 simp only[atP,roadCs] at *
 have hX:=hideP (HE.out [.dead,.dead,.cells (ptCs r.parts),.cells (evCs r.events),.cells [.int .i64 sl,.int .i64 sh]] (hb (by simp)) (hb (by simp)) (hb (by simp)) (by simp;omega))
 clear HE hn0
 (repeat (first|(with_reducible refine hX.out _ ?_ ?_ ?_ ?_ ?_ ?_ ?_ ?_ ?_ ?_ ?_ ?_ ?_ ?_ ?_ ?_<;>simp[*,zaq])|((with_reducible apply zah);(focus ((with_reducible apply zas);(focus rfl);(focus rfl);(focus ((conv=>lhs;simp[*,List.getElem?_append_right,List.set_append_right,List.getElem?_cons_zero,List.getElem?_append_left,List.set_append_left,-getElem?_pos,zfn,zci,Nat.testBit_eq_decide_div_mod_eq])<;>exact rfl));(focus rfl);(focus rfl)));simp only[addFl])|(with_reducible apply zah;(focus ((conv=>lhs;simp[*,List.getElem?_append_right,List.set_append_right,List.getElem?_cons_zero,List.getElem?_append_left,List.set_append_left,-getElem?_pos,zfn,zci,Nat.testBit_eq_decide_div_mod_eq])<;>exact rfl));simp only[addFl])|((with_reducible first|apply zai|apply zak|apply zag|apply zae|apply zac|apply zaj|apply zaf|apply zam|(apply zad;· simp[*,zaa])|(apply zab;· simp[*,zaa]));try simp only[Then,Ops])|simp only[Nat.reduceEqDiff,reduceIte,OutB,Then]))
end Ro
end Ev
end Go.Proofs.Ytlcjlcllbgjplaa

/- RoadMore, gone through: the looks of parts the other way round. -/
namespace Go.Proofs.Ytlcjlcllbgjplaa
open Go
namespace Ev
namespace Ro
open K
attribute [local simp] ev1 wantG spineK spine float xnew xval xeff zaa zar zbe zax zaw addFl cellsOf pickC alive slLen slFt binI maxA maxK minA minK aeqK aeqS AV.cells spA zat fillA setAt bitsI nat_nn zbf AV.plain apart
set_option maxRecDepth 100000
set_option maxHeartbeats 4000000
def moZSt (a4 a12 a13 a14 np i ne:Nat)(ld:Int)(ev0:AV)(j:Nat)(G:List AB):St:={ tm:=tmA 414 [(154,.int .i64 j),(153,.int .i64 ne),(152,ev0),(14,.ptr a14 0),(13,.ptr a13 0),(12,.ptr a12 0),(11,.int .i64 i),(10,.int .i64 ld),(9,.int .i64 np),(4,.ptr a4 0)],df:=[],hp:=G,tc:=[] }
theorem zsz (C:Cfg)(call:CallF)(r:Rd.Road)(hf:Rd.Fine r)(n0 a4 a12 a13 a14 np:Nat)(hnp:np=r.parts.length)(i lo:Nat)(ld:Int)(j:Nat)(hj:j<r.events.length)(G:List AB)(hlo:lo≤G.length)(h14:a14<lo)(hn:n0≤a14)(zp ze:AV)(_hzp:zp.plain=true)(hG:HB G a14 (.cells [zp,ze]))(hg:Grw lo G (evCs ((Rd.turnR r).events.take j)) j ze):
  Does (ev C call n0 none (atP [1,1,1,1,1,1,1,1,1,1,0,1,0,0] af10.body) (moZSt a4 a12 a13 a14 np i r.events.length ld (.vs 7 (r.events.map evE)) j G))
   (fun e st=>e=.normal∧∃ G' ze',G.length≤G'.length∧(∀ q x,q<lo→q≠a14→HB G q x→HB G' q x)∧HB G' a14 (.cells [zp,ze'])∧Grw lo G' (evCs ((Rd.turnR r).events.take (j+1))) (j+1) ze'∧{ st with tm:=keepT [4,9,10,11,12,13,14,152,153,154] st.tm }=moZSt a4 a12 a13 a14 np i r.events.length ld (.vs 7 (r.events.map evE)) (j+1) G'):=by
 have hgp:r.events[j]?=some r.events[j]:=List.getElem?_eq_getElem hj
 have hev:=hf.event _ (List.mem_of_getElem? hgp)
 have hrv:(Rd.turnR r).events[j]?=some (Rd.turnE np r.events[j]):=by rw[Rd.turn_get,hgp,hnp];rfl
 generalize r.events[j]=v at hgp hrv hev
 have ht:(Rd.turnR r).events.take (j+1)=(Rd.turnR r).events.take j++[Rd.turnE np v]:=by rw[List.take_add_one,hrv];rfl
 have htl:((Rd.turnR r).events.take j).length=j:=by simp[(Rd.turn_len r).2];omega
 rw[ht,zlz]
 generalize (Rd.turnR r).events.take j=L at *
 have hp4:=hf.parts
 have he10:=hf.events
 have w1:IntKind.i64.wrap ((np:Int) - 1)=(np:Int) - 1:=zau (by omega) (by omega)
 have hgp':=ge_of hgp
 have hwi:IntKind.i64.wrap (↑j+1)=↑j+1:=zau (by omega) (by omega)
 have e5:(j:Int)<r.events.length:=by omega
 have g0:¬ (a14<n0):=by omega
 have gG:∀ n,¬ (G.length+n<n0):=fun n=>by omega
 have gG0:¬ (G.length<n0):=by omega
 have hb1:1≤bound:=by decide
 have hbi:j+1≤bound:=by unfold bound;omega
 have hG':=hG
 obtain ⟨A1,A2,A3⟩:=hG
 have gl:∀ n,¬ (a14=G.length+n):=fun n=>by omega
 have gl0:¬ (a14=G.length):=by omega
 have gl1:¬ (G.length=a14):=by omega
 have gl2:∀ n,¬ (G.length+n=a14):=fun n=>by omega
 have hpp:=zci L
 have hcl:=zdr L
 rw[htl] at hcl
 have key:(¬ v.kind=2∧Rd.turnE np v=v)∨(v.kind=2∧IntKind.i64.wrap ((np:Int) - 1 - v.part)=(np:Int) - 1 - v.part∧Rd.turnE np v={ v with part:=(np:Int) - 1 - v.part }):=by
  by_cases hk:v.kind=2
  ·exact .inr ⟨hk,zau (by omega) (by omega),by unfold Rd.turnE;rw[if_pos hk]⟩
  ·exact .inl ⟨hk,by unfold Rd.turnE;rw[if_neg hk]⟩
 obtain ⟨k,⟨l1,l2⟩,d,pt,⟨s1,s2⟩⟩:=v
 simp only at key
 have HX:=hideP (And.intro hG' (And.intro hlo (And.intro h14 htl)))
 clear hG' hlo h14 htl hrv hp4 he10 hev hf ht hnp hn
 have hX:∃ X,X=(evE (Rd.turnE np { kind:=k,load:=⟨l1,l2⟩,days:=d,part:=pt,shows:=⟨s1,s2⟩ })).cells:=⟨_,rfl⟩
 obtain ⟨X,hX⟩:=hX
 rcases key with ⟨hk,hv⟩|⟨rfl,hw,hv⟩<;>rw[hv] at hX ⊢<;>clear hv
 all_goals
  simp only[evE,AV.cells] at hX
  have HV:=hideP hX
  clear hX
 all_goals
  cases hg with
  |none h0 hi0=>
   have HY:=hideP hi0
   clear hi0
   rw[h0] at *
   clear h0
   unfold af10 Zq Zm Zl Zo Zs Zd Ze Zc Zt Zn Zi moZSt
   simp only[atP] at *
   (repeat (first|((with_reducible apply zah);(focus ((with_reducible apply zas);(focus rfl);(focus rfl);(focus ((conv=>lhs;simp[*,List.getElem?_append_right,List.set_append_right,List.getElem?_cons_zero,List.getElem?_append_left,List.set_append_left,-getElem?_pos,evE,Nat.testBit_eq_decide_div_mod_eq])<;>exact rfl));(focus rfl);(focus rfl)));simp only[addFl])|(with_reducible apply zah;(focus ((conv=>lhs;simp[*,List.getElem?_append_right,List.set_append_right,List.getElem?_cons_zero,List.getElem?_append_left,List.set_append_left,-getElem?_pos,evE,Nat.testBit_eq_decide_div_mod_eq])<;>exact rfl));simp only[addFl])|((with_reducible first|apply zai|apply zak|apply zag|apply zae|apply zac|apply zaj|apply zaf|apply zam|(apply zad;· simp[*,zaa])|(apply zab;· simp[*,zaa]));try simp only[Then,Ops,OutB])|simp only[Nat.reduceEqDiff,reduceIte,OutB,Then]))
   obtain ⟨hG',hlo,h14,htl⟩:=HX.out
   have hi0:=HY.out
   subst hi0
   have hX:=HV.out
   refine ⟨by first|rfl|trivial,G.set a14 (.cells [zp,.sl (G.length+2) 0 1 7])++[.cells X,.cells X,.cells X],.sl (G.length+2) 0 1 7,by simp,fun q x _ hr h=>(h.set _ (Ne.symm hr)).app _,(hG'.here _).app _,.some _ (by omega) (hb (by rw[List.getElem?_append_right (by simp)];simp[evCs,hX])),?_⟩
   subst hX
   (refine st_is ?_ ?_ ?_ ?_;(focus (simp[zao,zaq]));(focus rfl);(focus (first|rfl|(simp;done)|(simp[*];done)|(simp;rfl)|(simp[*];omega)|(simp;omega)));(focus (first|rfl|simp)))
  |some q l1 h1=>
   have n1:a14≠q:=by have:=HX.out;omega
   have n3:q≠a14:=by omega
   have n2:¬ (q<n0):=by have:=HX.out;omega
   have h1':=h1
   obtain ⟨Q1,Q2,Q3⟩:=h1
   have ql:∀ n,¬ (q=G.length+n):=fun n=>by omega
   have ql0:¬ (q=G.length):=by omega
   have HY:=hideP h1'
   clear h1'
   unfold af10 Zq Zm Zl Zo Zs Zd Ze Zc Zt Zn Zi moZSt
   simp only[atP] at *
   (repeat (first|((with_reducible apply zah);(focus ((with_reducible apply zas);(focus rfl);(focus rfl);(focus ((conv=>lhs;simp[*,List.getElem?_append_right,List.set_append_right,List.getElem?_cons_zero,List.getElem?_append_left,List.set_append_left,-getElem?_pos,evE,hcl,hpp,Nat.testBit_eq_decide_div_mod_eq])<;>exact rfl));(focus rfl);(focus rfl)));simp only[addFl])|(with_reducible apply zah;(focus ((conv=>lhs;simp[*,List.getElem?_append_right,List.set_append_right,List.getElem?_cons_zero,List.getElem?_append_left,List.set_append_left,-getElem?_pos,evE,hcl,hpp,Nat.testBit_eq_decide_div_mod_eq])<;>exact rfl));simp only[addFl])|((with_reducible first|apply zai|apply zak|apply zag|apply zae|apply zac|apply zaj|apply zaf|apply zam|(apply zad;· simp[*,zaa])|(apply zab;· simp[*,zaa]));try simp only[Then,Ops,OutB])|simp only[Nat.reduceEqDiff,reduceIte,OutB,Then]))
   obtain ⟨hG',hlo,h14,htl⟩:=HX.out
   have h1':=HY.out
   have hX:=HV.out
   refine ⟨by first|rfl|trivial,(G.set q .dead).set a14 (.cells [zp,.sl (G.length+2) 0 (j+1) 7])++[.cells X,.cells X,.cells (evCs L++X)],.sl (G.length+2) 0 (j+1) 7,by simp,fun q x _ hr h=>((h.set _ (by omega)).set _ (Ne.symm hr)).app _,((hG'.set _ n3).here _).app _,.some _ (by omega) (hb (by rw[List.getElem?_append_right (by simp)];simp[evCs,hX])),?_⟩
   subst hX
   (refine st_is ?_ ?_ ?_ ?_;(focus (simp[zao,zaq]));(focus rfl);(focus (first|rfl|(simp;done)|(simp[*];done)|(simp;rfl)|(simp[*];omega)|(simp;omega)));(focus (first|rfl|simp)))
end Ro
end Ev
end Go.Proofs.Ytlcjlcllbgjplaa

/- RoadMore, gone through: the parts the other way round. -/
namespace Go.Proofs.Ytlcjlcllbgjplaa
open Go
namespace Ev
namespace Ro
open K
attribute [local simp] ev1 wantG spineK spine float xnew xval xeff zaa zar zbe zax zaw addFl cellsOf pickC alive slLen slFt binI maxA maxK minA minK aeqK aeqS AV.cells spA zat fillA setAt bitsI nat_nn zbf AV.plain apart
set_option maxRecDepth 100000
set_option maxHeartbeats 4000000
def moPSt (a4 a12 a13 a14 np i:Nat)(ld:Int)(j:Nat)(G:List AB):St:={ tm:=tmA 414 [(134,.int .i64 j),(133,.int .i64 np),(14,.ptr a14 0),(13,.ptr a13 0),(12,.ptr a12 0),(11,.int .i64 i),(10,.int .i64 ld),(9,.int .i64 np),(4,.ptr a4 0)],df:=[],hp:=G,tc:=[] }
theorem zsy (C:Cfg)(call:CallF)(r:Rd.Road)(hf:Rd.Fine r)(n0 a4 a12 a13 a14 np:Nat)(hnp:np=r.parts.length)(i lo:Nat)(ld:Int)(j:Nat)(hj:j<np)(G:List AB)(hlo:lo≤G.length)(h14:a14<lo)(h4:a4<lo)(hne:a4≠a14)(hn:n0≤a14)(zp:AV)(hG:HB G a14 (.cells [zp,.nils]))(hG4:HB G a4 (.cells (roadCs r)))(hg:Grw lo G (ptCs ((Rd.turnR r).parts.take j)) j zp):
  Does (ev C call n0 none (atP [1,1,1,1,1,1,1,1,1,0,1,0,0] af10.body) (moPSt a4 a12 a13 a14 np i ld j G))
   (fun e st=>e=.normal∧∃ G' zp',G.length≤G'.length∧(∀ q x,q<lo→q≠a14→HB G q x→HB G' q x)∧HB G' a14 (.cells [zp',.nils])∧Grw lo G' (ptCs ((Rd.turnR r).parts.take (j+1))) (j+1) zp'∧{ st with tm:=keepT [4,9,10,11,12,13,14,133,134] st.tm }=moPSt a4 a12 a13 a14 np i ld (j+1) G'):=by
 have hgp:r.parts[np - 1 - j]?=some r.parts[np - 1 - j]:=List.getElem?_eq_getElem (by omega)
 have hrv:(Rd.turnR r).parts[j]?=some r.parts[np - 1 - j]:=by unfold Rd.turnR;simp only;rw[List.getElem?_reverse (by omega),show r.parts.length - 1 - j=np - 1 - j by omega];exact hgp
 generalize r.parts[np - 1 - j]=p at hgp hrv
 have ht:(Rd.turnR r).parts.take (j+1)=(Rd.turnR r).parts.take j++[p]:=by rw[List.take_add_one,hrv];rfl
 have htl:((Rd.turnR r).parts.take j).length=j:=by simp[(Rd.turn_len r).1];omega
 rw[ht,zql]
 generalize (Rd.turnR r).parts.take j=L at *
 have hp4:=hf.parts
 have w1:IntKind.i64.wrap ((np:Int) - 1)=(np:Int) - 1:=zau (by omega) (by omega)
 obtain ⟨m,hm,hm2⟩:∃ m:Nat,np - 1 - j=m∧(np:Int) - 1 - j=(m:Int):=⟨_,rfl,by omega⟩
 rw[hm] at hgp
 have w2:IntKind.i64.wrap ((np:Int) - 1 - j)=(m:Int):=by rw[hm2];exact zau (by omega) (by omega)
 have hml:(m:Int)<r.parts.length:=by omega
 have hml':m<r.parts.length:=by omega
 have hgp':=ge_of hgp
 have hwi:IntKind.i64.wrap (↑j+1)=↑j+1:=zau (by omega) (by omega)
 have e5:(j:Int)<np:=by omega
 have g0:¬ (a14<n0):=by omega
 have gG:∀ n,¬ (G.length+n<n0):=fun n=>by omega
 have gG0:¬ (G.length<n0):=by omega
 have hb1:1≤bound:=by decide
 have hbi:j+1≤bound:=by unfold bound;omega
 have hG':=hG
 obtain ⟨A1,A2,A3⟩:=hG
 obtain ⟨B1,B2,B3⟩:=hG4
 have hne':a14≠a4:=Ne.symm hne
 have hpp:=zfn L
 have hcl:=zgm L
 rw[htl] at hcl
 obtain ⟨X,hX⟩:∃ X,X=(ptE p).cells:=⟨_,rfl⟩
 simp only[ptE,AV.cells] at hX
 have HV:=hideP hX
 have HX:=hideP (And.intro hG' (And.intro hlo (And.intro h14 htl)))
 clear hG' hlo h14 htl hrv hp4 hf ht hnp hn hm hm2 hX
 cases hg with
 |none h0 hi0=>
  have HY:=hideP hi0
  clear hi0
  rw[h0] at *
  clear h0
  unfold af10 Zq Zm Zl Zo Zs Zd Ze Zc Zt Zn Zi moPSt
  simp only[atP,roadCs] at *
  (repeat (first|((with_reducible apply zah);(focus ((with_reducible apply zas);(focus rfl);(focus rfl);(focus ((conv=>lhs;simp[*,List.getElem?_append_right,List.set_append_right,List.getElem?_cons_zero,List.getElem?_append_left,List.set_append_left,-getElem?_pos,ptE,Nat.testBit_eq_decide_div_mod_eq])<;>exact rfl));(focus rfl);(focus rfl)));simp only[addFl])|(with_reducible apply zah;(focus ((conv=>lhs;simp[*,List.getElem?_append_right,List.set_append_right,List.getElem?_cons_zero,List.getElem?_append_left,List.set_append_left,-getElem?_pos,ptE,Nat.testBit_eq_decide_div_mod_eq])<;>exact rfl));simp only[addFl])|((with_reducible first|apply zai|apply zak|apply zag|apply zae|apply zac|apply zaj|apply zaf|apply zam|(apply zad;· simp[*,zaa])|(apply zab;· simp[*,zaa]));try simp only[Then,Ops,OutB])|simp only[Nat.reduceEqDiff,reduceIte,OutB,Then]))
  obtain ⟨hG',hlo,h14,htl⟩:=HX.out
  have hi0:=HY.out
  subst hi0
  have hX:=HV.out
  refine ⟨by first|rfl|trivial,G.set a14 (.cells [.sl (G.length+1) 0 1 7,.nils])++[.cells X,.cells X],.sl (G.length+1) 0 1 7,by simp,fun q x _ hr h=>(h.set _ (Ne.symm hr)).app _,(hG'.here _).app _,.some _ (by omega) (hb (by rw[List.getElem?_append_right (by simp)];simp[ptCs,hX])),?_⟩
  subst hX
  (refine st_is ?_ ?_ ?_ ?_;(focus (simp[zao,zaq]));(focus rfl);(focus (first|rfl|(simp;done)|(simp[*];done)|(simp;rfl)|(simp[*];omega)|(simp;omega)));(focus (first|rfl|simp)))
 |some q l1 h1=>
  have n1:a14≠q:=by have:=HX.out;omega
  have n3:q≠a14:=by omega
  have n4:q≠a4:=by omega
  have n2:¬ (q<n0):=by have:=HX.out;omega
  have h1':=h1
  obtain ⟨Q1,Q2,Q3⟩:=h1
  have ql:∀ n,¬ (q=G.length+n):=fun n=>by omega
  have ql0:¬ (q=G.length):=by omega
  have HY:=hideP h1'
  clear h1'
  unfold af10 Zq Zm Zl Zo Zs Zd Ze Zc Zt Zn Zi moPSt
  simp only[atP,roadCs] at *
  (repeat (first|((with_reducible apply zah);(focus ((with_reducible apply zas);(focus rfl);(focus rfl);(focus ((conv=>lhs;simp[*,List.getElem?_append_right,List.set_append_right,List.getElem?_cons_zero,List.getElem?_append_left,List.set_append_left,-getElem?_pos,ptE,hcl,hpp,Nat.testBit_eq_decide_div_mod_eq])<;>exact rfl));(focus rfl);(focus rfl)));simp only[addFl])|(with_reducible apply zah;(focus ((conv=>lhs;simp[*,List.getElem?_append_right,List.set_append_right,List.getElem?_cons_zero,List.getElem?_append_left,List.set_append_left,-getElem?_pos,ptE,hcl,hpp,Nat.testBit_eq_decide_div_mod_eq])<;>exact rfl));simp only[addFl])|((with_reducible first|apply zai|apply zak|apply zag|apply zae|apply zac|apply zaj|apply zaf|apply zam|(apply zad;· simp[*,zaa])|(apply zab;· simp[*,zaa]));try simp only[Then,Ops,OutB])|simp only[Nat.reduceEqDiff,reduceIte,OutB,Then]))
  obtain ⟨hG',hlo,h14,htl⟩:=HX.out
  have h1':=HY.out
  have hX:=HV.out
  refine ⟨by first|rfl|trivial,(G.set q .dead).set a14 (.cells [.sl (G.length+1) 0 (j+1) 7,.nils])++[.cells X,.cells (ptCs L++X)],.sl (G.length+1) 0 (j+1) 7,by simp,fun q x _ hr h=>((h.set _ (by omega)).set _ (Ne.symm hr)).app _,((hG'.set _ n3).here _).app _,.some _ (by omega) (hb (by rw[List.getElem?_append_right (by simp)];simp[ptCs,hX])),?_⟩
  subst hX
  (refine st_is ?_ ?_ ?_ ?_;(focus (simp[zao,zaq]));(focus rfl);(focus (first|rfl|(simp;done)|(simp[*];done)|(simp;rfl)|(simp[*];omega)|(simp;omega)));(focus (first|rfl|simp)))
end Ro
end Ev
end Go.Proofs.Ytlcjlcllbgjplaa

/- RoadMore, gone through: loads that are known better. -/
namespace Go.Proofs.Ytlcjlcllbgjplaa
open Go
namespace Rd
def yTo (f:Nat→Evt→Evt)(l:List Evt)(i:Nat):List Evt:=(l.mapIdx f).take i++l.drop i
theorem yTo_zero (f:Nat→Evt→Evt)(l:List Evt):yTo f l 0=l:=by simp[yTo]
theorem yTo_all (f:Nat→Evt→Evt)(l:List Evt):yTo f l l.length=l.mapIdx f:=by unfold yTo;rw[List.take_of_length_le (by simp)];simp
theorem yTo_get {f:Nat→Evt→Evt}{l:List Evt}{i:Nat}{v:Evt}(h:l[i]?=some v):(yTo f l i)[i]?=some v∧(yTo f l i).length=l.length∧yTo f l (i+1)=(yTo f l i).set i (f i v):=by
 have hi:=(List.getElem?_eq_some_iff.1 h).1
 have e1:((l.mapIdx f).take i).length=i:=by simp;omega
 refine ⟨?_,by simp[yTo];omega,?_⟩
 ·unfold yTo
  rw[List.getElem?_append_right (by omega),e1,List.getElem?_drop]
  simpa using h
 ·unfold yTo
  rw[List.set_append_right _ _ (by omega),e1,Nat.sub_self,List.drop_eq_getElem_cons hi,List.set_cons_zero,List.take_add_one,List.getElem?_mapIdx,h]
  simp
end Rd
namespace Ev
namespace Ro
open K
attribute [local simp] ev1 wantG spineK spine float xnew xval xeff zaa zar zbe zax zaw addFl cellsOf pickC alive slLen slFt binI maxA maxK minA minK aeqK aeqS AV.cells spA zat fillA setAt bitsI nat_nn zbf AV.plain apart
set_option maxRecDepth 100000
set_option maxHeartbeats 4000000
theorem zri:∀ (xs:List Rd.Evt) (i:Nat) (v:Rd.Evt),xs[i]?=some v→(evCs xs)[i * 7]?=some (.int .i64 v.kind)∧(evCs xs)[i * 7+1]?=some (.int .i64 v.load.lo)∧(evCs xs)[i * 7+2]?=some (.int .i64 v.load.hi)
 |[],i,v,h=>by simp at h
 |e::l,0,v,h=>by
  simp only[List.getElem?_cons_zero,Option.some.injEq] at h
  subst h
  simp[evCs]
 |e::l,i+1,v,h=>by
  have ih:=zri l i v (by simpa using h)
  rw[show (i+1) * 7=i * 7+1+1+1+1+1+1+1 by omega,show i * 7+1+1+1+1+1+1+1+1=i * 7+1+1+1+1+1+1+1+1 by omega]
  simpa [evCs] using ih
theorem zkr:∀ (xs:List Rd.Evt) (i:Nat) (v:Rd.Evt) (a:Int),xs[i]?=some v→(evCs xs).take (i * 7+1)++.int .i64 a::(evCs xs).drop (i * 7+2)=evCs (xs.set i { v with load:=⟨a,v.load.hi⟩ })
 |[],i,v,a,h=>by simp at h
 |e::l,0,v,a,h=>by
  simp only[List.getElem?_cons_zero,Option.some.injEq] at h
  subst h
  simp[evCs]
 |e::l,i+1,v,a,h=>by
  have ih:=zkr l i v a (by simpa using h)
  rw[show (i+1) * 7+1=i * 7+1+1+1+1+1+1+1+1 by omega,show (i+1) * 7+2=i * 7+2+1+1+1+1+1+1+1 by omega]
  simpa [evCs] using ih
theorem zks:∀ (xs:List Rd.Evt) (i:Nat) (v:Rd.Evt) (a:Int),xs[i]?=some v→(evCs xs).take (i * 7+2)++.int .i64 a::(evCs xs).drop (i * 7+3)=evCs (xs.set i { v with load:=⟨v.load.lo,a⟩ })
 |[],i,v,a,h=>by simp at h
 |e::l,0,v,a,h=>by
  simp only[List.getElem?_cons_zero,Option.some.injEq] at h
  subst h
  simp[evCs]
 |e::l,i+1,v,a,h=>by
  have ih:=zks l i v a (by simpa using h)
  rw[show (i+1) * 7+2=i * 7+2+1+1+1+1+1+1+1 by omega,show (i+1) * 7+3=i * 7+3+1+1+1+1+1+1+1 by omega]
  simpa [evCs] using ih
def moYSt (a4 a12 a13 a14 np i w ne:Nat)(ld:Int)(j:Nat)(G:List AB):St:={ tm:=tmA 414 [(81,.int .i64 j),(80,.int .i64 ne),(14,.ptr a14 0),(13,.ptr a13 0),(12,.ptr a12 0),(11,.int .i64 i),(10,.int .i64 ld),(9,.int .i64 np),(4,.ptr a4 0),(2,.int .u8 w)],df:=[],hp:=G,tc:=[] }
theorem zxd (C:Cfg)(call:CallF)(r:Rd.Road)(hf:Rd.Fine r)(n0 a4 a12 a13 a14 np b2:Nat)(i:Nat)(w:Nat)(hw:w≤255)(ld:Int)(j:Nat)(hj:j<r.events.length)(G:List AB)(hn:n0≤b2)(_hne:b2≠a13)
  (h13:HB G a13 (.cells [.vs 7 (r.parts.map ptE),.sl b2 0 r.events.length 7])) (hE:HB G b2 (.cells (evCs (Rd.yTo (Rd.narE w) r.events j)))):
  Does (ev C call n0 none (atP [1,1,1,1,1,1,1,0,1,0,0] af10.body) (moYSt a4 a12 a13 a14 np i w r.events.length ld j G))
   (fun e st=>e=.normal∧{ st with tm:=keepT [2,4,9,10,11,12,13,14,80,81] st.tm }=moYSt a4 a12 a13 a14 np i w r.events.length ld (j+1) (G.set b2 (.cells (evCs (Rd.yTo (Rd.narE w) r.events (j+1)))))):=by
 have hgv:r.events[j]?=some r.events[j]:=List.getElem?_eq_getElem hj
 have hok:=hf.event _ (List.mem_of_getElem? hgv)
 generalize r.events[j]=v at hgv hok
 obtain ⟨hxv,hxl,hxs⟩:=Rd.yTo_get (f:=Rd.narE w) hgv
 rw[hxs]
 generalize Rd.yTo (Rd.narE w) r.events j=xs at *
 have he10:=hf.events
 obtain ⟨r1,r2,r3⟩:=zri xs j v hxv
 have r1':=ge_of r1
 have r2':=ge_of r2
 have r3':=ge_of r3
 have s1:=zkr xs j v (min v.load.hi (v.load.lo+1)) hxv
 have s2:=zks xs j v (max v.load.lo (v.load.hi - 1)) hxv
 have hlen:(evCs xs).length=r.events.length * 7:=by rw[zdr,hxl]
 have e0:j * 7+1≤r.events.length * 7:=by omega
 have e1:j * 7+1+1≤r.events.length * 7:=by omega
 have e2:j * 7+2+1≤r.events.length * 7:=by omega
 have e5:(j:Int)<r.events.length:=by omega
 have hwi:IntKind.i64.wrap (↑j+1)=↑j+1:=zau (by omega) (by omega)
 have w3:IntKind.i64.wrap (w:Int)=w:=zau (by omega) (by omega)
 have w4:IntKind.i64.wrap ((w:Int)+j)=w+j:=zau (by omega) (by omega)
 have t1:((w:Int)+j).tmod 2=(((w+j) % 2:Nat):Int):=by rw[Int.tmod_eq_emod_of_nonneg (by omega)];omega
 have g1:¬ (b2<n0):=by omega
 obtain ⟨A1,A2,A3⟩:=h13
 obtain ⟨E1,E2,E3⟩:=hE
 have hset:xs.set j v=xs:=by
  apply List.ext_getElem?
  intro k
  rw[List.getElem?_set]
  by_cases hj:j=k
  ·subst hj;rw[if_pos rfl,hxv,if_pos (by omega)]
  ·rw[if_neg hj]
 have HX:=hideP hset
 have HO:=hideP (And.intro hok he10)
 clear hf hok hxv he10 hset hxl hxs
 unfold Rd.narE
 by_cases h0:v.kind=0
 ·rw[if_pos h0]
  have w1:IntKind.i64.wrap (v.load.lo+1)=v.load.lo+1:=zau (by have:=HO.out.1;omega) (by have:=HO.out.1;omega)
  have w2:IntKind.i64.wrap (v.load.hi - 1)=v.load.hi - 1:=zau (by have:=HO.out.1;omega) (by have:=HO.out.1;omega)
  by_cases h2:(w+j) % 2=0
  ·rw[if_pos h2]
   rw[h2] at t1
   unfold af10 Zq Zm Zl Zo Zs Zd Ze Zc Zt Zn Zi moYSt
   simp only[atP]
   (repeat (first|((with_reducible apply zah);(focus ((with_reducible apply zas);(focus rfl);(focus rfl);(focus ((conv=>lhs;simp[*,List.getElem?_append_right,List.set_append_right,List.getElem?_cons_zero,List.getElem?_append_left,List.set_append_left,-getElem?_pos,Nat.testBit_eq_decide_div_mod_eq])<;>exact rfl));(focus rfl);(focus rfl)));simp only[addFl])|(with_reducible apply zah;(focus ((conv=>lhs;simp[*,List.getElem?_append_right,List.set_append_right,List.getElem?_cons_zero,List.getElem?_append_left,List.set_append_left,-getElem?_pos,Nat.testBit_eq_decide_div_mod_eq])<;>exact rfl));simp only[addFl])|((with_reducible first|apply zai|apply zak|apply zag|apply zae|apply zac|apply zaj|apply zaf|apply zam|(apply zad;· simp[*,zaa])|(apply zab;· simp[*,zaa]));try simp only[Then,Ops,OutB])|simp only[Nat.reduceEqDiff,reduceIte,OutB,Then]))
   refine ⟨by first|rfl|trivial,?_⟩
   (refine st_is ?_ ?_ ?_ ?_;(focus (simp[zao,zaq]));(focus rfl);(focus (first|rfl|(simp;done)|(simp[*];done)|(simp;rfl)|(simp[*];omega)|(simp;omega)));(focus (first|rfl|simp)))
  ·rw[if_neg h2]
   have h2':(w+j) % 2=1:=by omega
   rw[h2'] at t1
   unfold af10 Zq Zm Zl Zo Zs Zd Ze Zc Zt Zn Zi moYSt
   simp only[atP]
   (repeat (first|((with_reducible apply zah);(focus ((with_reducible apply zas);(focus rfl);(focus rfl);(focus ((conv=>lhs;simp[*,List.getElem?_append_right,List.set_append_right,List.getElem?_cons_zero,List.getElem?_append_left,List.set_append_left,-getElem?_pos,Nat.testBit_eq_decide_div_mod_eq])<;>exact rfl));(focus rfl);(focus rfl)));simp only[addFl])|(with_reducible apply zah;(focus ((conv=>lhs;simp[*,List.getElem?_append_right,List.set_append_right,List.getElem?_cons_zero,List.getElem?_append_left,List.set_append_left,-getElem?_pos,Nat.testBit_eq_decide_div_mod_eq])<;>exact rfl));simp only[addFl])|((with_reducible first|apply zai|apply zak|apply zag|apply zae|apply zac|apply zaj|apply zaf|apply zam|(apply zad;· simp[*,zaa])|(apply zab;· simp[*,zaa]));try simp only[Then,Ops,OutB])|simp only[Nat.reduceEqDiff,reduceIte,OutB,Then]))
   refine ⟨by first|rfl|trivial,?_⟩
   (refine st_is ?_ ?_ ?_ ?_;(focus (simp[zao,zaq]));(focus rfl);(focus (first|rfl|(simp;done)|(simp[*];done)|(simp;rfl)|(simp[*];omega)|(simp;omega)));(focus (first|rfl|simp)))
 ·rw[if_neg h0]
  have h0':(v.kind==0)=false:=beq_false_of_ne h0
  unfold af10 Zq Zm Zl Zo Zs Zd Ze Zc Zt Zn Zi moYSt
  simp only[atP]
  (repeat (first|((with_reducible apply zah);(focus ((with_reducible apply zas);(focus rfl);(focus rfl);(focus ((conv=>lhs;simp[*,List.getElem?_append_right,List.set_append_right,List.getElem?_cons_zero,List.getElem?_append_left,List.set_append_left,-getElem?_pos,Nat.testBit_eq_decide_div_mod_eq])<;>exact rfl));(focus rfl);(focus rfl)));simp only[addFl])|(with_reducible apply zah;(focus ((conv=>lhs;simp[*,List.getElem?_append_right,List.set_append_right,List.getElem?_cons_zero,List.getElem?_append_left,List.set_append_left,-getElem?_pos,Nat.testBit_eq_decide_div_mod_eq])<;>exact rfl));simp only[addFl])|((with_reducible first|apply zai|apply zak|apply zag|apply zae|apply zac|apply zaj|apply zaf|apply zam|(apply zad;· simp[*,zaa])|(apply zab;· simp[*,zaa]));try simp only[Then,Ops,OutB])|simp only[Nat.reduceEqDiff,reduceIte,OutB,Then]))
  refine ⟨by first|rfl|trivial,?_⟩
  have hG:G.set b2 (.cells (evCs xs))=G:=by
   apply List.ext_getElem?
   intro k
   rw[List.getElem?_set]
   by_cases hj:b2=k
   ·subst hj;rw[if_pos rfl,E1,if_pos E2]
   ·rw[if_neg hj]
  rw[HX.out,hG]
  (refine st_is ?_ ?_ ?_ ?_;(focus (simp[zao,zaq]));(focus rfl);(focus (first|rfl|(simp;done)|(simp[*];done)|(simp;rfl)|(simp[*];omega)|(simp;omega)));(focus (first|rfl|simp)))
end Ro
end Ev
end Go.Proofs.Ytlcjlcllbgjplaa

/- RoadMore, gone through. -/
namespace Go.Proofs.Ytlcjlcllbgjplaa
open Go
namespace Ev
namespace Ro
open K
attribute [local simp] ev1 wantG spineK spine float xnew xval xeff zaa zar zbe zax zaw addFl cellsOf pickC alive slLen slFt binI maxA maxK minA minK aeqK aeqS AV.cells spA zat fillA setAt bitsI nat_nn zbf AV.plain apart
set_option maxRecDepth 100000
set_option maxHeartbeats 4000000
theorem zta (C:Cfg)(hC:C.calm=true)(call:CallF)(hA:LApi call)(r:Rd.Road)(hf:Rd.Fine r)(hW:WithC call r)(hR:LRestC call)(hP:LPassC call)(ld:Int)(hld:0≤ld∧ld≤60)(i:Nat)(hi:i<r.parts.length)(v:Rd.Evt)(hv:v.kind=2)(w:Nat)
  (n0 a4 a12 a13 a14 b1 b2 lo:Nat) (hn4:n0≤a4) (hn:n0≤a14) (_h4:a4<lo) (h12:a12<lo) (h13:a13<lo) (h14:a14<lo) (hb1:b1<lo) (hb2:b2<lo) (e4:a4≠a14) (e12:a12≠a14) (e13:a13≠a14) (eb1:b1≠a14) (eb2:b2≠a14) (zp:AV) (hzpp:zp.plain=true) (G:List AB) (hlo:lo≤G.length) (hM:MoX r v w a4 a12 a13 b1 b2 G) (hG:HB G a14 (.cells [zp,.nils])) (hzp:Grw lo G (ptCs (Rd.turnR r).parts) r.parts.length zp)
  (L:List (Nat × AV)) (L4:lk 414 L 4=.ptr a4 0) (L9:lk 414 L 9=.int .i64 r.parts.length) (L10:lk 414 L 10=.int .i64 ld) (L11:lk 414 L 11=.int .i64 i) (L12:lk 414 L 12=.ptr a12 0) (L13:lk 414 L 13=.ptr a13 0) (L14:lk 414 L 14=.ptr a14 0):
  Does (ev C call n0 none (atP [1,1,1,1,1,1,1,1,1,1] af10.body) { tm:=tmA 414 L,df:=[],hp:=G,tc:=[] })
   (Ends C n0 af10.res fun v _ _=>v=.bool true):=by
 have m4:val C (tmA 414 L) (.tmp 4)=.ptr a4 0:=L4
 have hM':=hM.c0
 have HX:=hideP (And.intro hf (And.intro hM (And.intro hzp hG)))
 obtain ⟨A1,A2,A3⟩:=hM'
 clear hM hzp hG
 unfold af10 Zq Zm Zl Zo Zs Zd Ze Zc Zt Zn Zi
 simp only[atP,roadCs] at *
 (repeat (first|((with_reducible apply zah);(focus ((with_reducible apply zas);(focus rfl);(focus rfl);(focus ((conv=>lhs;simp[*,List.getElem?_append_right,List.set_append_right,List.getElem?_cons_zero,List.getElem?_append_left,List.set_append_left,-getElem?_pos,Nat.testBit_eq_decide_div_mod_eq])<;>exact rfl));(focus rfl);(focus rfl)));simp only[addFl])|(with_reducible apply zah;(focus ((conv=>lhs;simp[*,List.getElem?_append_right,List.set_append_right,List.getElem?_cons_zero,List.getElem?_append_left,List.set_append_left,-getElem?_pos,Nat.testBit_eq_decide_div_mod_eq])<;>exact rfl));simp only[addFl])|((with_reducible first|apply zai|apply zak|apply zag|apply zae|apply zac|apply zaj|apply zaf|apply zam|(apply zad;· simp[*,zaa])|(apply zab;· simp[*,zaa]));try simp only[Then,Ops])|simp only[Nat.reduceEqDiff,reduceIte,OutB,Then]))
 with_reducible refine zaz hC r.events.length (by have:=HX.out.1.events;unfold fuelL;omega) (fun j st=>∃ G' ze,(∀ q x,q<G.length→q≠a14→HB G q x→HB G' q x)∧HB G' a14 (.cells [zp,ze])∧Grw G.length G' (evCs ((Rd.turnR r).events.take j)) j ze∧G.length≤G'.length∧st=moZSt a4 a12 a13 a14 r.parts.length i r.events.length ld (.vs 7 (r.events.map evE)) j G') ?_ ?_ ?_
 ·obtain ⟨hf,hM,hzp,hG⟩:=HX.out
  refine ⟨G,.nils,fun _ _ _ _ h=>h,hG,.none rfl rfl,Nat.le_refl _,?_⟩
  unfold moZSt
  exact st_eq (by simp[*,zao,zaq]) rfl (by simp) (by simp)
 ·rintro j st hj ⟨G',ze,hm,hG,hg,hl,rfl⟩
  have hr:=zsz C call r hf n0 a4 a12 a13 a14 r.parts.length rfl i G.length ld j hj G' hl (by omega) hn zp ze hzpp hG hg
  refine Does.mono hr ?_
  rintro e st ⟨rfl,G2,ze',h1,h2,h3,h4,h5⟩
  exact ⟨G2,ze',fun q x a b d=>h2 q x a b (hm q x a b d),h3,h4,by omega,h5⟩
 ·rintro st ⟨G',ze,hm,hG,hg,hl,rfl⟩
  obtain ⟨-,hM,hzp,-⟩:=HX.out
  rw[List.take_of_length_le (by rw[(Rd.turn_len r).2];omega)] at hg
  have hend := yao C hC call hA r hf hW hR hP ld hld i hi v hv w n0 a4 a12 a13 a14 b1 b2 zp ze G' (hM.move G.length (by omega) (by omega) (by omega) (by omega) (by omega) a14 e4 e12 e13 eb1 eb2 hm) hG lo (hzp.move h14 (by omega) hm) (by
   cases hg with
   |none h0 h1=>exact .none h0 h1
   |some q h0 h1=>exact .some q (by omega) h1) (by omega)
  unfold af10 Zq Zm Zl Zo Zs Zd Ze Zc Zt Zn Zi at hend
  simp only[atP] at hend
  have HE:=hideP hend
  clear hend hf hM hzp hG hg hl hm HX hA hW hR hP hld hi hv m4 L4 L9 L10 L11 L12 L13 L14 A1 A2 A3
  unfold moZSt
  (repeat (first|(with_reducible refine HE.out _ ?_ ?_ ?_ ?_ ?_ ?_ ?_<;>simp[zaq])|((with_reducible apply zah);(focus ((with_reducible apply zas);(focus rfl);(focus rfl);(focus ((conv=>lhs;simp[*,List.getElem?_append_right,List.set_append_right,List.getElem?_cons_zero,List.getElem?_append_left,List.set_append_left,-getElem?_pos,Nat.testBit_eq_decide_div_mod_eq])<;>exact rfl));(focus rfl);(focus rfl)));simp only[addFl])|(with_reducible apply zah;(focus ((conv=>lhs;simp[*,List.getElem?_append_right,List.set_append_right,List.getElem?_cons_zero,List.getElem?_append_left,List.set_append_left,-getElem?_pos,Nat.testBit_eq_decide_div_mod_eq])<;>exact rfl));simp only[addFl])|((with_reducible first|apply zai|apply zak|apply zag|apply zae|apply zac|apply zaj|apply zaf|apply zam|(apply zad;· simp[*,zaa])|(apply zab;· simp[*,zaa]));try simp only[Then,Ops,OutB,reduceIte])|simp only[Nat.reduceEqDiff,reduceIte,OutB,Then]))
theorem ztb (C:Cfg)(hC:C.calm=true)(call:CallF)(hA:LApi call)(r:Rd.Road)(hf:Rd.Fine r)(hW:WithC call r)(hR:LRestC call)(hP:LPassC call)(ld:Int)(hld:0≤ld∧ld≤60)(i:Nat)(hi:i<r.parts.length)(v:Rd.Evt)(hv:v.kind=2)(w:Nat)
  (n0 a4 a12 a13 a14 b1 b2:Nat) (hn4:n0≤a4) (hn:n0≤a14) (e4:a4≠a14) (e12:a12≠a14) (e13:a13≠a14) (eb1:b1≠a14) (eb2:b2≠a14) (zp ze:AV) (G:List AB) (hM:MoX r v w a4 a12 a13 b1 b2 G) (hG:HB G a14 (.cells [zp,ze]))
  (L:List (Nat × AV)) (L4:lk 414 L 4=.ptr a4 0) (L9:lk 414 L 9=.int .i64 r.parts.length) (L10:lk 414 L 10=.int .i64 ld) (L11:lk 414 L 11=.int .i64 i) (L12:lk 414 L 12=.ptr a12 0) (L13:lk 414 L 13=.ptr a13 0) (L14:lk 414 L 14=.ptr a14 0):
  Does (ev C call n0 none (atP [1,1,1,1,1,1,1,1] af10.body) { tm:=tmA 414 L,df:=[],hp:=G,tc:=[] })
   (Ends C n0 af10.res fun v _ _=>v=.bool true):=by
 have m4:val C (tmA 414 L) (.tmp 4)=.ptr a4 0:=L4
 have m14:val C (tmA 414 L) (.tmp 14)=.ptr a14 0:=L14
 have HX:=hideP (And.intro hf (And.intro hM hG))
 have g0:¬ (a14<n0):=by omega
 have e4':a14≠a4:=Ne.symm e4
 have hl4:=hM.c0.lt
 have hl12:=hM.x0.lt
 have hl13:=hM.y0.lt
 have hlb1:=hM.x1.lt
 have hlb2:=hM.y1.lt
 have hl14:=hG.lt
 obtain ⟨A1,A2,A3⟩:=hM.c0
 obtain ⟨B1,B2,B3⟩:=hG
 clear hM
 unfold af10 Zq Zm Zl Zo Zs Zd Ze Zc Zt Zn Zi
 simp only[atP,roadCs] at *
 (repeat (first|((with_reducible apply zah);(focus ((with_reducible apply zas);(focus rfl);(focus rfl);(focus ((conv=>lhs;simp[*,List.getElem?_append_right,List.set_append_right,List.getElem?_cons_zero,List.getElem?_append_left,List.set_append_left,-getElem?_pos,Nat.testBit_eq_decide_div_mod_eq])<;>exact rfl));(focus rfl);(focus rfl)));simp only[addFl])|(with_reducible apply zah;(focus ((conv=>lhs;simp[*,List.getElem?_append_right,List.set_append_right,List.getElem?_cons_zero,List.getElem?_append_left,List.set_append_left,-getElem?_pos,Nat.testBit_eq_decide_div_mod_eq])<;>exact rfl));simp only[addFl])|((with_reducible first|apply zai|apply zak|apply zag|apply zae|apply zac|apply zaj|apply zaf|apply zam|(apply zad;· simp[*,zaa])|(apply zab;· simp[*,zaa]));try simp only[Then,Ops])|simp only[Nat.reduceEqDiff,reduceIte,OutB,Then]))
 with_reducible refine zaz hC r.parts.length (by have:=HX.out.1.parts;unfold fuelL;omega) (fun j st=>∃ G' zp,(∀ q x,q<G.length→q≠a14→HB G q x→HB G' q x)∧HB G' a14 (.cells [zp,.nils])∧Grw G.length G' (ptCs ((Rd.turnR r).parts.take j)) j zp∧G.length≤G'.length∧st=moPSt a4 a12 a13 a14 r.parts.length i ld j G') ?_ ?_ ?_
 ·obtain ⟨hf,hM,hG⟩:=HX.out
  refine ⟨G.set a14 (.cells [.nils,.nils]),.nils,fun q x _ hq h=>h.set _ (Ne.symm hq),hG.here _,.none rfl rfl,by simp,?_⟩
  unfold moPSt
  exact st_eq (by simp[*,zao,zaq]) rfl (by simp) (by simp)
 ·rintro j st hj ⟨G',zp,hm,hG,hg,hl,rfl⟩
  have hr:=zsy C call r hf n0 a4 a12 a13 a14 r.parts.length rfl i G.length ld j hj G' hl (by omega) (by omega) e4 hn zp hG (hm _ _ (by omega) e4 HX.out.2.1.c0) hg
  refine Does.mono hr ?_
  rintro e st ⟨rfl,G2,ze',h1,h2,h3,h4,h5⟩
  exact ⟨G2,ze',fun q x a b d=>h2 q x a b (hm q x a b d),h3,h4,by omega,h5⟩
 ·rintro st ⟨G',zp,hm,hG,hg,hl,rfl⟩
  obtain ⟨-,hM,-⟩:=HX.out
  rw[List.take_of_length_le (by rw[(Rd.turn_len r).1];omega)] at hg
  have hpl:zp.plain=true:=by cases hg<;>rfl
  have hend:=zta C hC call hA r hf hW hR hP ld hld i hi v hv w n0 a4 a12 a13 a14 b1 b2 G.length hn4 hn hl4 hl12 hl13 hl14 hlb1 hlb2 e4 e12 e13 eb1 eb2 zp hpl G' hl (hM.move G.length (by omega) (by omega) (by omega) (by omega) (by omega) a14 e4 e12 e13 eb1 eb2 hm) hG hg
  unfold af10 Zq Zm Zl Zo Zs Zd Ze Zc Zt Zn Zi at hend
  simp only[atP] at hend
  have HE:=hideP hend
  clear hend hf hM hG hg hl hm HX hA hW hR hP hld hi hv m4 m14 L4 L9 L10 L11 L12 L13 L14 A1 A2 A3 B1 B2 B3 hpl
  unfold moPSt
  (repeat (first|(with_reducible refine HE.out _ ?_ ?_ ?_ ?_ ?_ ?_ ?_<;>simp[zaq])|((with_reducible apply zah);(focus ((with_reducible apply zas);(focus rfl);(focus rfl);(focus ((conv=>lhs;simp[*,List.getElem?_append_right,List.set_append_right,List.getElem?_cons_zero,List.getElem?_append_left,List.set_append_left,-getElem?_pos,Nat.testBit_eq_decide_div_mod_eq])<;>exact rfl));(focus rfl);(focus rfl)));simp only[addFl])|(with_reducible apply zah;(focus ((conv=>lhs;simp[*,List.getElem?_append_right,List.set_append_right,List.getElem?_cons_zero,List.getElem?_append_left,List.set_append_left,-getElem?_pos,Nat.testBit_eq_decide_div_mod_eq])<;>exact rfl));simp only[addFl])|((with_reducible first|apply zai|apply zak|apply zag|apply zae|apply zac|apply zaj|apply zaf|apply zam|(apply zad;· simp[*,zaa])|(apply zab;· simp[*,zaa]));try simp only[Then,Ops,OutB,reduceIte])|simp only[Nat.reduceEqDiff,reduceIte,OutB,Then]))
theorem ztc (C:Cfg)(hC:C.calm=true)(call:CallF)(hA:LApi call)(r:Rd.Road)(hf:Rd.Fine r)(hW:WithC call r)(hR:LRestC call)(hP:LPassC call)(ld:Int)(hld:0≤ld∧ld≤60)(i:Nat)(hi:i<r.parts.length)(v:Rd.Evt)(hv:v.kind=2)(w:Nat)(hw:w≤255)
  (n0 a4 a12 a13 a14 b1 b2:Nat) (hn4:n0≤a4) (hn:n0≤a14) (hnb:n0≤b2) (e4:a4≠a14) (e12:a12≠a14) (e13:a13≠a14) (eb1:b1≠a14) (eb2:b2≠a14) (f4:a4≠b2) (f12:a12≠b2) (f13:a13≠b2) (fb1:b1≠b2) (zp ze:AV) (G:List AB)
  (c4:HB G a4 (.cells (roadCs r))) (x0:HB G a12 (.cells [.vs 7 (r.parts.map ptE),.sl b1 0 (r.events.length+1) 7])) (x1:HB G b1 (.cells (evCs (r.events++[v])))) (y0:HB G a13 (.cells [.vs 7 (r.parts.map ptE),.sl b2 0 r.events.length 7])) (y1:HB G b2 (.cells (evCs r.events))) (hG:HB G a14 (.cells [zp,ze]))
  (L:List (Nat × AV)) (L2:lk 414 L 2=.int .u8 w) (L4:lk 414 L 4=.ptr a4 0) (L9:lk 414 L 9=.int .i64 r.parts.length) (L10:lk 414 L 10=.int .i64 ld) (L11:lk 414 L 11=.int .i64 i) (L12:lk 414 L 12=.ptr a12 0) (L13:lk 414 L 13=.ptr a13 0) (L14:lk 414 L 14=.ptr a14 0):
  Does (ev C call n0 none (atP [1,1,1,1,1,1,1] af10.body) { tm:=tmA 414 L,df:=[],hp:=G,tc:=[] })
   (Ends C n0 af10.res fun v _ _=>v=.bool true):=by
 have m13:val C (tmA 414 L) (.tmp 13)=.ptr a13 0:=L13
 have y0':=y0
 have HX:=hideP (And.intro hf (And.intro c4 (And.intro x0 (And.intro x1 (And.intro y0' (And.intro y1 hG))))))
 obtain ⟨A1,A2,A3⟩:=y0
 obtain ⟨E1,E2,E3⟩:=y1
 clear c4 x0 x1 y0' hG
 unfold af10 Zq Zm Zl Zo Zs Zd Ze Zc Zt Zn Zi
 simp only[atP,roadCs] at *
 (repeat (first|((with_reducible apply zah);(focus ((with_reducible apply zas);(focus rfl);(focus rfl);(focus ((conv=>lhs;simp[*,List.getElem?_append_right,List.set_append_right,List.getElem?_cons_zero,List.getElem?_append_left,List.set_append_left,-getElem?_pos,Nat.testBit_eq_decide_div_mod_eq])<;>exact rfl));(focus rfl);(focus rfl)));simp only[addFl])|(with_reducible apply zah;(focus ((conv=>lhs;simp[*,List.getElem?_append_right,List.set_append_right,List.getElem?_cons_zero,List.getElem?_append_left,List.set_append_left,-getElem?_pos,Nat.testBit_eq_decide_div_mod_eq])<;>exact rfl));simp only[addFl])|((with_reducible first|apply zai|apply zak|apply zag|apply zae|apply zac|apply zaj|apply zaf|apply zam|(apply zad;· simp[*,zaa])|(apply zab;· simp[*,zaa]));try simp only[Then,Ops])|simp only[Nat.reduceEqDiff,reduceIte,OutB,Then]))
 with_reducible refine zaz hC r.events.length (by have:=HX.out.1.events;unfold fuelL;omega) (fun j st=>∃ G',(∀ q x,q≠b2→HB G q x→HB G' q x)∧HB G' b2 (.cells (evCs (Rd.yTo (Rd.narE w) r.events j)))∧st=moYSt a4 a12 a13 a14 r.parts.length i w r.events.length ld j G') ?_ ?_ ?_
 ·obtain ⟨hf,c4,x0,x1,y0,y1,hG⟩:=HX.out
  refine ⟨G,fun _ _ _ h=>h,by rw[Rd.yTo_zero];exact y1,?_⟩
  unfold moYSt
  exact st_eq (by simp[*,zao,zaq]) rfl (by simp) (by simp)
 ·rintro j st hj ⟨G',hm,hE,rfl⟩
  have hr:=zxd C call r hf n0 a4 a12 a13 a14 r.parts.length b2 i w hw ld j hj G' hnb (Ne.symm f13) (hm _ _ f13 HX.out.2.2.2.2.1) hE
  refine Does.mono hr ?_
  rintro e st ⟨rfl,h⟩
  exact ⟨_,fun q x hq h=>(hm q x hq h).set _ (Ne.symm hq),hE.here _,h⟩
 ·rintro st ⟨G',hm,hE,rfl⟩
  obtain ⟨-,c4,x0,x1,y0,y1,hG⟩:=HX.out
  rw[Rd.yTo_all] at hE
  have hend:=ztb C hC call hA r hf hW hR hP ld hld i hi v hv w n0 a4 a12 a13 a14 b1 b2 hn4 hn e4 e12 e13 eb1 eb2 zp ze G' ⟨hm _ _ f4 c4,hm _ _ f12 x0,hm _ _ fb1 x1,hm _ _ f13 y0,hE⟩ (hm _ _ (Ne.symm eb2) hG)
  unfold af10 Zq Zm Zl Zo Zs Zd Ze Zc Zt Zn Zi at hend
  simp only[atP] at hend
  have HE:=hideP hend
  clear hend hf c4 x0 x1 y0 y1 hG hE hm HX hA hW hR hP hld hi hv m13 L2 L4 L9 L10 L11 L12 L13 L14 A1 A2 A3 E1 E2 E3
  unfold moYSt
  (repeat (first|(with_reducible refine HE.out _ ?_ ?_ ?_ ?_ ?_ ?_ ?_<;>simp[zaq])|((with_reducible apply zah);(focus ((with_reducible apply zas);(focus rfl);(focus rfl);(focus ((conv=>lhs;simp[*,List.getElem?_append_right,List.set_append_right,List.getElem?_cons_zero,List.getElem?_append_left,List.set_append_left,-getElem?_pos,Nat.testBit_eq_decide_div_mod_eq])<;>exact rfl));(focus rfl);(focus rfl)));simp only[addFl])|(with_reducible apply zah;(focus ((conv=>lhs;simp[*,List.getElem?_append_right,List.set_append_right,List.getElem?_cons_zero,List.getElem?_append_left,List.set_append_left,-getElem?_pos,Nat.testBit_eq_decide_div_mod_eq])<;>exact rfl));simp only[addFl])|((with_reducible first|apply zai|apply zak|apply zag|apply zae|apply zac|apply zaj|apply zaf|apply zam|(apply zad;· simp[*,zaa])|(apply zab;· simp[*,zaa]));try simp only[Then,Ops,OutB,reduceIte])|simp only[Nat.reduceEqDiff,reduceIte,OutB,Then]))
end Ro
end Ev
end Go.Proofs.Ytlcjlcllbgjplaa

/- RoadMore, gone through: all. -/
namespace Go.Proofs.Ytlcjlcllbgjplaa
open Go
namespace Ev
namespace Ro
open K
attribute [local simp] ev1 wantG spineK spine float xnew xval xeff zaa zar zbe zax zaw addFl cellsOf pickC alive slLen slFt binI maxA maxK minA minK aeqK aeqS AV.cells spA zat fillA setAt bitsI nat_nn zbf AV.plain apart
set_option maxRecDepth 100000
set_option maxHeartbeats 4000000
theorem ztf (C:Cfg)(hC:C.calm=true)(call:CallF)(hA:LApi call)(r:Rd.Road)(hW:r.events.length≤40→WithC call r)(hR:LRestC call)(hP:LPassC call)(v:Rd.Evt)(x:Int)(hx:0≤x∧x≤255)(y:Int)(hy:0≤y∧y≤255)(H:List AB):
  Does (ev C call H.length none af10.body { tm:=tmA af10.ntmps (zipI 0 [.agg (roadCs r),evE v,.int .u8 x,.int .u8 y] []),df:=[],hp:=H,tc:=[] })
   (Ends C H.length af10.res fun v _ _=>v=.bool true):=by
 obtain ⟨w,rfl⟩:∃ n:Nat,x=n:=⟨x.toNat,by omega⟩
 have hl:=fun H=>hA.long (H:=H) r
 have ha:=fun H=>hA.alive (H:=H)
 by_cases hlen:max r.parts.length r.events.length > 40
 ·rw[decide_eq_true hlen] at hl
  clear hA hlen hW hP hx hR hy
  unfold af10 Zq Zm Zl Zo Zs Zd Ze Zc Zt Zn Zi
  simp only[zipI,roadCs] at *
  (repeat (first|(with_reducible apply zah;(focus ((conv=>lhs;simp[*,evE,Nat.testBit_eq_decide_div_mod_eq])<;>exact rfl));simp only[addFl])|((with_reducible first|apply zai|apply zak|apply zag|apply zae|apply zac|apply zaj|apply zaf|apply zam|(apply zad;· simp[*,zaa])|(apply zab;· simp[*,zaa]));try simp only[Then,Ops])|simp only[Nat.reduceEqDiff,reduceIte,OutB,Then]))
  exact zan (v:=.bool true) (.inl rfl) rfl (by simp) (by simp only[resL,resOf,zal];simp[*,resV]) rfl
 rw[decide_eq_false hlen] at hl
 have hro:=fun H=>zqh H r (by omega) (by omega)
 have hv:=fun H=>hA.valid (hro H)
 cases hval:Rd.valid r with
 |false=>
  rw[hval] at hv
  clear hA hlen hro hval hW hP hx hR hy
  unfold af10 Zq Zm Zl Zo Zs Zd Ze Zc Zt Zn Zi
  simp only[zipI,roadCs] at *
  (repeat (first|(with_reducible apply zah;(focus ((conv=>lhs;simp[*,evE,Nat.testBit_eq_decide_div_mod_eq])<;>exact rfl));simp only[addFl])|((with_reducible first|apply zai|apply zak|apply zag|apply zae|apply zac|apply zaj|apply zaf|apply zam|(apply zad;· simp[*,zaa])|(apply zab;· simp[*,zaa]));try simp only[Then,Ops])|simp only[Nat.reduceEqDiff,reduceIte,OutB,Then]))
  exact zan (v:=.bool true) (.inl rfl) rfl (by simp) (by simp only[resL,resOf,zal];simp[*,resV]) rfl
 |true=>
 rw[hval] at hv
 have hf:=(Rd.valid_iff r).1 hval
 have he10:=hf.events
 have hp4:=hf.parts
 have hwx:IntKind.i64.wrap (w:Int)=w:=zau (by omega) (by omega)
 have hwy:IntKind.i64.wrap y=y:=zau (by omega) (by omega)
 obtain ⟨ld,hld,hl0,hl1⟩:∃ ld,y.tmod 61=ld∧0≤ld∧ld≤60:=by
  refine ⟨_,rfl,Int.tmod_nonneg _ hy.1,?_⟩
  have:=Int.tmod_lt_of_pos y (show (0:Int)<61 by omega)
  omega
 have hp0:¬ ((r.parts.length:Int)=0):=by omega
 have hp0':¬ (r.parts=[]):=fun e=>by rw[e] at hp4;simp at hp4
 obtain ⟨i,hi,hmi⟩:∃ i:Nat,i<r.parts.length∧(w:Int).tmod (r.parts.length:Int)=(i:Int):=by
  have h1:=Int.tmod_nonneg (r.parts.length:Int) hx.1
  have h2:=Int.tmod_lt_of_pos (w:Int) (show (0:Int)<(r.parts.length:Int) by omega)
  exact ⟨((w:Int).tmod (r.parts.length:Int)).toNat,by omega,by omega⟩
 obtain ⟨k,⟨l1,l2⟩,d,pt,⟨s1,s2⟩⟩:=v
 obtain ⟨H1,b,c1,c2,c3,c4⟩:=hW (by omega) (H++[.cells (roadCs r),.cells [.int .i64 2,.int .i64 l1,.int .i64 l2,.int .i64 d,.int .i64 pt,.int .i64 s1,.int .i64 s2],.cells [.nils,.nils],.cells [.nils,.nils],.cells [.nils,.nils]]) ⟨2,⟨l1,l2⟩,d,pt,⟨s1,s2⟩⟩
 have z0:HB H1 H.length (.cells (roadCs r)):=hb (c2.at (by simp) (by simp))
 have z2:HB H1 (H.length+2) (.cells [.nils,.nils]):=hb (c2.at (by simp) (by simp))
 have z3:HB H1 (H.length+3) (.cells [.nils,.nils]):=hb (c2.at (by simp) (by simp))
 have z4:HB H1 (H.length+4) (.cells [.nils,.nils]):=hb (c2.at (by simp) (by simp))
 have zb:=hb c4
 have hbl:H.length+5≤b:=by simpa using c3
 have hHl:H.length+5≤H1.length:=by have:=zb.lt;omega
 have hsE:∀ H,slCells 7 H (.vs 7 (r.events.map evE))=some (evCs r.events):=fun H=>zly H r.events
 have hbe:r.events.length≤bound:=by unfold bound;omega
 have gH:¬ (H1.length<H.length):=by omega
 have gHn:∀ n,¬ (H1.length+n<H.length):=fun n=>by omega
 have hend:=fun (G:List AB) zp ze c4 x0 x1 y0 y1 hG=>ztc C hC call hA r hf (hW (by omega)) hR hP ld ⟨hl0,hl1⟩ i hi ⟨2,⟨l1,l2⟩,d,pt,⟨s1,s2⟩⟩ rfl w (by omega) H.length H.length (H.length+2) (H.length+3) (H.length+4) b (H1.length+1) (by omega) (by omega) (by omega) (by omega) (by omega) (by omega) (by omega) (by omega) (by omega) (by omega) (by omega) (by have:=zb.lt;omega) zp ze G c4 x0 x1 y0 y1 hG
 unfold af10 Zq Zm Zl Zo Zs Zd Ze Zc Zt Zn Zi at hend
 simp only[atP] at hend
 have HE:=hideP hend
 have HZ:=hideP (And.intro z0 (And.intro z2 (And.intro z3 (And.intro z4 (And.intro zb (And.intro hbl (And.intro hHl zb.lt)))))))
 have z0':=z0
 have z2':=z2
 have z3':=z3
 have z4':=z4
 obtain ⟨A1,A2,A3⟩:=z0'
 obtain ⟨B1,B2,B3⟩:=z2'
 obtain ⟨C1,C2,C3⟩:=z3'
 obtain ⟨D1,D2,D3⟩:=z4'
 have n2:¬ (H.length+2=H1.length):=by omega
 have n3:¬ (H.length+3=H1.length):=by omega
 have n4:¬ (H.length+4=H1.length):=by omega
 have n5:¬ (H.length=H1.length):=by omega
 have m2:¬ (H1.length=H.length+2):=by omega
 have m3:¬ (H1.length=H.length+3):=by omega
 have m4:¬ (H1.length=H.length+4):=by omega
 have m5:¬ (H1.length=H.length):=by omega
 clear hA hlen hro hval hW hP hx hR hy hend hf he10 hp4 hl0 hl1 hi c2 c3 c4 hbl hHl zb
 unfold af10 Zq Zm Zl Zo Zs Zd Ze Zc Zt Zn Zi
 simp only[zipI,roadCs,evE] at *
 (repeat (first|(with_reducible refine HE.out _ (.vs 7 (r.parts.map ptE)) (.vs 7 (r.events.map evE)) ?_ ?_ ?_ ?_ ?_ ?_ _ ?_ ?_ ?_ ?_ ?_ ?_ ?_ ?_)|((with_reducible apply zah);(focus ((with_reducible apply zas);(focus rfl);(focus rfl);(focus ((conv=>lhs;simp[*,List.getElem?_append_right,List.set_append_right,List.getElem?_cons_zero,List.getElem?_append_left,List.set_append_left,-getElem?_pos,↓zap,zci,Nat.testBit_eq_decide_div_mod_eq])<;>exact rfl));(focus rfl);(focus rfl)));simp only[addFl])|(with_reducible apply zah;(focus ((conv=>lhs;simp[*,List.getElem?_append_right,List.set_append_right,List.getElem?_cons_zero,List.getElem?_append_left,List.set_append_left,-getElem?_pos,↓zap,zci,Nat.testBit_eq_decide_div_mod_eq])<;>exact rfl));simp only[addFl])|((with_reducible first|apply zai|apply zak|apply zag|apply zae|apply zac|apply zaj|apply zaf|apply zam|(apply zad;· simp[*,zaa])|(apply zab;· simp[*,zaa]));try simp only[Then,Ops])|simp only[Nat.reduceEqDiff,reduceIte,OutB,Then]))
 ·exact ((((z0.set _ (by omega)).set _ (by omega)).set _ (by omega)).set _ (by omega)).app _
 ·exact ((((z2.here _).set _ (by omega)).set _ (by omega)).set _ (by omega)).app _
 ·obtain ⟨-,-,-,-,zb,hbl,-,-⟩:=HZ.out
  exact ((((zb.set _ (by omega)).set _ (by omega)).set _ (by omega)).set _ (by omega)).app _
 ·exact ((((z3.set _ (by omega)).here _).set _ (by omega)).here _).app _
 ·exact hb (by rw[List.getElem?_append_right (by simp)];simp)
 ·exact (((((z4.set _ (by omega)).set _ (by omega)).here _).set _ (by omega))).app _
 all_goals simp[zaq]
end Ro
end Ev
end Go.Proofs.Ytlcjlcllbgjplaa

/- The code of functions of the laws is that of the program. Printed by program. -/
namespace Go.Proofs.Ytlcjlcllbgjplaa
open Go Go.Proofs
namespace Ev
set_option maxRecDepth 1000000
theorem is10 : ∃ F, Try.prog.funcs[10]? = some F ∧ (F.name == "runtime.NumGoroutine")=false∧compFn Try.prog F=some af10.strip:=⟨_,Try.func10,by kernel_rfl,by kernel_rfl⟩
end Ev
end Go.Proofs.Ytlcjlcllbgjplaa

/- The code of functions of the laws is that of the program. Printed by program. -/
namespace Go.Proofs.Ytlcjlcllbgjplaa
open Go Go.Proofs
namespace Ev
set_option maxRecDepth 1000000
theorem is29 : ∃ F, Try.prog.funcs[29]? = some F ∧ (F.name == "runtime.NumGoroutine")=false∧compFn Try.prog F=some af29.strip:=⟨_,Try.func29,by kernel_rfl,by kernel_rfl⟩
end Ev
end Go.Proofs.Ytlcjlcllbgjplaa

/- The functions that the law RoadMore goes through itself. Printed by program. -/
namespace Go.Proofs.Ytlcjlcllbgjplaa
open Go Go.Proofs
namespace Ev
def treeRoadMore:FT:=(.node 29 af29 (.node 12 af12 (.node 10 af10 .leaf .leaf) (.node 22 af22 .leaf .leaf)) (.node 33 af33 (.node 31 af31 .leaf .leaf) .leaf))
theorem zil : FT.All (fun k af => ∃ F, Try.prog.funcs[k]? = some F ∧ (F.name == "runtime.NumGoroutine")=false∧compFn Try.prog F=some af.strip) treeRoadMore:=
 ⟨is29,⟨is12,⟨is10,trivial,trivial⟩,⟨is22,trivial,trivial⟩⟩,⟨is33,⟨is31,trivial,trivial⟩,trivial⟩⟩
end Ev
end Go.Proofs.Ytlcjlcllbgjplaa

/- The Go function RoadMore returns true, for every argument, in every world in which it is called; nothing that was there is turned. No condition. -/
namespace Go.Proofs.Ytlcjlcllbgjplaa
open Go Go.Proofs Go.ChangeShapes Go.WideShapes Go.ChangeAt Go.RowKit
namespace Ev
namespace Ro
open K
theorem lawRoadMore (W:World)(r:Rd.Road){v0:Value}(hv0:VR W (fun _=>False) nomu (.agg (roadCs r)) v0)(x1:Rd.Evt){v1:Value}(hv1:VR W (fun _=>False) nomu (evE x1) v1)(x2:Int)(b2:(Lit.int .u8 x2).wf=true){v2:Value}(hv2:VR W (fun _=>False) nomu (.int .u8 x2) v2)(x3:Int)(b3:(Lit.int .u8 x3).wf=true){v3:Value}(hv3:VR W (fun _=>False) nomu (.int .u8 x3) v3):CallsIn Fence.wide 0 Try.prog 10 #[v0,v1,v2,v3] W fun e W'=>e=.returned (.bool true)∧Below W.heap.size W W':=by
 have hz:∀ {f:Nat} {af:AFunc},(cfgL treeRoadMore).exth f=none→FT.find treeRoadMore f=some af→Has (cfgL treeRoadMore) f af:=fun h1 h2=>has_of rfl h1 h2 rfl
 have la:=fun n=>lapi (t:=treeRoadMore) (hz rfl (by kernel_rfl)) n
 have k:Has (cfgL treeRoadMore) 10 af10:=hz rfl (by kernel_rfl)
 obtain ⟨v,hp,tc,H',h1,h2,_⟩:=zdk (C:=cfgL treeRoadMore) (n:=4) (first:=[]) (captured:=[]) (args:=[.agg (roadCs r),evE x1,.int .u8 x2,.int .u8 x3]) (H:=[]) (Q:=fun v _ _=>v=.bool true) rfl k.ext k.exth k.fns k.whole (le' rfl) (ztf (cfgL treeRoadMore) rfl _ (la 3) r (fun h=>zuq rfl (hz rfl (by kernel_rfl)) (by omega) 3) (fun H n=>zay rfl (hz rfl (by kernel_rfl)) (le' rfl) rfl (zxo (cfgL treeRoadMore) _ H n)) (fun H a b=>zay rfl (hz rfl (by kernel_rfl)) (le' rfl) rfl (zxp (cfgL treeRoadMore) _ (fun H a b=>zay rfl (hz rfl (by kernel_rfl)) (le' rfl) rfl (zxl (cfgL treeRoadMore) _ H a b)) H a b)) x1 x2 (zoa b2) x3 (zoa b3) [])
 subst h2
 refine (zmk (tblL zil) h1 trivial (zbn _ _ _) (rargs:=#[v0,v1,v2,v3]) ⟨rfl,fun i y r hy hr=>?_⟩).mono ?_
 ·match i,hy,hr with
  |0,hy,hr=>cases hy;cases hr;exact hv0
  |1,hy,hr=>cases hy;cases hr;exact hv1
  |2,hy,hr=>cases hy;cases hr;exact hv2
  |3,hy,hr=>cases hy;cases hr;exact hv3
  |i+4,hy,hr=>simp at hy
 ·rintro e W' ⟨⟨w,rfl,hw⟩,bel⟩
  exact ⟨by rw[ydk hw W],bel⟩
end Ro
end Ev
set_option maxRecDepth 100000 in
theorem zir (os:Os)(started:os.Started)(H:Type)(enc:TypeId × Value→H):
  ReturnsInHanded {} Try.checked os 10 .any (Rows.roadMoreSpec.pre6 enc Try.prog Try.f10 Rows.roadMoreRow.domain false) (Rows.roadMoreSpec.post enc Try.prog Try.f10 false true false false):=by
 refine returnsInHanded_of_change (C:=Try.checked) zoo started (by kernel_rfl) Try.func10
  (ChangeSpec.witness6 (enc:=enc) (C:=Try.checked) false ⟨#[],#[noRoad,.agg #[.int .i64 0,.int .i64 0,.int .i64 0,.int .i64 0,.int .i64 0,.int .i64 0,.int .i64 0],.int .u8 0,.int .u8 0],[]⟩ 8 (by kernel_rfl) (by kernel_rfl) (by kernel_rfl) (by kernel_rfl)) ?_
 intro W base args ds gs before hval0 hW hcnd _
 have hval:∀ (j:Nat) t v,Try.f10.params[j]?=some t→args[j]?=some v→Value.okWide Try.prog W .any base t v:=hval0
 have hW':=hW
 obtain ⟨p,q,hA0,hV,rfl,hfz,hnd⟩:=hW
 have hA:DataW.TrodAll enc Try.prog W 0 (fun _=>true) true Try.f10.params.toList args.toList ds p:=hA0
 rw[Try.params10] at hA hval
 obtain ⟨v0,vs0,d0,ds0,p0,q0,hargs0,rfl,rfl,h0,hA1⟩:=trodAll_cons hA
 obtain ⟨v1,vs1,d1,ds1,p1,q1,rfl,rfl,rfl,h1,hA2⟩:=trodAll_cons hA1
 obtain ⟨v2,vs2,d2,ds2,p2,q2,rfl,rfl,rfl,h2,hA3⟩:=trodAll_cons hA2
 obtain ⟨v3,vs3,d3,ds3,p3,q3,rfl,rfl,rfl,h3,hA4⟩:=trodAll_cons hA3
 obtain ⟨rfl,rfl,rfl⟩:=trodAll_nil hA4
 obtain rfl:args=#[v0,v1,v2,v3]:=Array.ext' hargs0
 obtain ⟨rfl,rfl,rfl⟩:=trodVars_none hV
 clear hA0 hval0
 obtain ⟨r,hx0⟩:=zwg (hval 0 25 v0 rfl rfl) h0
 obtain ⟨x1,hx1⟩:=zwh (hval 1 60 v1 rfl rfl) h1
 obtain ⟨x2,rfl,rfl,rfl,wf2⟩:=open_int Try.underlying5 (hval 2 5 v2 rfl rfl) h2
 obtain ⟨x3,rfl,rfl,rfl,wf3⟩:=open_int Try.underlying5 (hval 3 5 v3 rfl rfl) h3
 simp only[List.append_nil] at hW'
 have hlt:∀ x∈(p0++(p1++([]++([]++[])))),x.block<W.heap.size:=fun x hx=>by simpa using hW'.lt x (by simpa using hx)
 refine (callsIn_wide.1 (Ev.Ro.lawRoadMore W r hx0 x1 hx1 x2 wf2 .int x3 wf3 .int)).mono fun e W' ⟨he,bel⟩=>?_
 subst he
 refine ⟨_,rfl,_,_,_,[],(p0++(p1++([]++([]++[])))),[],by simpa using hW',?_,?_,?_,bel.frame _,fun h=>by cases h⟩
 ·exact trodAll_mk1 (shut_bool Try.underlying4 true)
 ·exact trodAll_cons_mk (Below.trod laidOut' (by kernel_rfl) (of_decide_eq_true (by kernel_rfl)) h0 bel (fun x hx=>hlt x (by simp[hx]))) (trodAll_cons_mk (Below.trod laidOut' (by kernel_rfl) (of_decide_eq_true (by kernel_rfl)) h1 bel (fun x hx=>hlt x (by simp[hx]))) (trodAll_cons_mk (shut_int Try.underlying5 wf2) (trodAll_cons_mk (shut_int Try.underlying5 wf3) (trodAll_mk0))))
 ·exact rfl
theorem roadMore_holds:Rows.RoadMoreSaid:=
 OpenClaim.holds_of_wide 10 Try.f10 rfl rfl rfl rfl rfl rfl rfl ⟨rfl,rfl,rfl,rfl,rfl⟩ rfl rfl rfl rfl rfl (by kernel_rfl) Try.func10 (by kernel_rfl)
  (of_decide_eq_true (by kernel_rfl)) (by unfold Func.isWrapper;first|(rw[if_pos (by decide +kernel)];kernel_rfl)|(rw[if_neg (by decide +kernel)];exact ⟨rfl,rfl⟩))
  (fun os started H enc _=>zir os started H enc)
#print axioms roadMore_holds
end Go.Proofs.Ytlcjlcllbgjplaa
