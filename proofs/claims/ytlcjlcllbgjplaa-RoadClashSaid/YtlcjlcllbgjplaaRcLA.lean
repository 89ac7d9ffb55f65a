/- The Go function RoadClash returns true, for every argument, in every world in which it is called; nothing that was there is turned. No condition. -/
import Derived.Test.YtlcjlcllbgjplaaRcEA
import Derived.Test.YtlcjlcllbgjplaaRcPG
import Derived.Test.YtlcjlcllbgjplaaRcPF
import Derived.Test.YtlcjlcllbgjplaaRcPD
import Derived.Test.YtlcjlcllbgjplaaRcPB
import Derived.Test.YtlcjlcllbgjplaaProg
import Derived.KernelRfl
/- The code of functions of the laws, for the evaluator. Printed by program. -/
namespace Go.Proofs.Ytlcjlcllbgjplaa
open Go
namespace Ev
end Ev
end Go.Proofs.Ytlcjlcllbgjplaa

/- The code of functions of the laws, for the evaluator. Printed by program. -/
namespace Go.Proofs.Ytlcjlcllbgjplaa
open Go
namespace Ev
end Ev
end Go.Proofs.Ytlcjlcllbgjplaa

/- RoadRest, gone through. -/
namespace Go.Proofs.Ytlcjlcllbgjplaa
open Go
namespace Ev
namespace Ro
open K
set_option maxRecDepth 100000
set_option maxHeartbeats 4000000
theorem num_no {r:Rd.Road}(hf:Rd.Fine r)(hcan:Rd.canR r (Rd.everyR r)=false)(n:Int):numRV r true n=.tup [.int .i64 0,.int .i64 10]:=by
 have he:Rd.errR r true=10:=by
  unfold Rd.errR
  rw[(Rd.valid_iff r).2 hf,hcan];rfl
 unfold numRV
 rw[he];rfl
theorem num_ok {r:Rd.Road}(hf:Rd.Fine r)(hcan:Rd.canR r (Rd.everyR r)=true)(n:Int):numRV r true n=.tup [.int .i64 n,.int .i64 0]:=by
 have he:Rd.errR r true=0:=by
  unfold Rd.errR
  rw[(Rd.valid_iff r).2 hf,hcan];rfl
 unfold numRV
 rw[he];rfl
end Ro
end Ev
end Go.Proofs.Ytlcjlcllbgjplaa

/- Chapter 05: looks that clash: plain. -/
namespace Go.Proofs.Ytlcjlcllbgjplaa
open Go
namespace Rd
open Clm (Sp Hull spanL mem_span setOf)
theorem zmn (r:Road)(i:Nat)(p:Tr)(ls:List Int)(s:Nat)(h:Int):right r i p ls s h↔∀ (j:Nat) (v:Evt),r.events[j]?=some v→bit s j=true→v.kind=2→v.part=i→v.shows.lo≤heightR r p h ls j∧heightR r p h ls j≤v.shows.hi:=by
 unfold right
 constructor
 ·intro H j v hv hb hk hp
  exact H (v,j) (List.mem_zipIdx_iff_getElem?.2 hv) hb hk hp
 ·rintro H ⟨v,j⟩ hq hb hk hp
  exact H j v (List.mem_zipIdx_iff_getElem?.1 hq) hb hk hp
def AllS (r:Road)(s:Nat)(ls:List Int):Prop:=Lds r.events ls∧∀ i,i<r.parts.length→∃ p h,p∈partsR (r.parts.getD i default)∧(r.parts.getD i default).height.has h∧right r i p ls s h
theorem zlw (r:Road)(s:Nat):canR r s=true↔∃ ls,AllS r s ls:=by
 have e:∀ ls i,(waysR r i ls s).isEmpty=false↔∃ p h,p∈partsR (r.parts.getD i default)∧(r.parts.getD i default).height.has h∧right r i p ls s h:=by
  intro ls i
  constructor
  ·intro h
   cases hw:waysR r i ls s with
   |nil=>rw[hw] at h;cases h
   |cons w l=>
    obtain ⟨h1,h2,h3⟩:=(mem_ways r i ls s w).1 (by rw[hw];simp)
    have h4:w.first.has w.first.lo:=⟨Int.le_refl _,h3⟩
    rw[h2,zhx] at h4
    exact ⟨_,_,h1,h4.1,h4.2⟩
  ·rintro ⟨p,h,h1,h2,h3⟩
   have h4:(firstR r i p ls s).has h:=(zhx _ _ _ _ _ _).2 ⟨h2,h3⟩
   have h5:(⟨p,firstR r i p ls s⟩:Way)∈waysR r i ls s:=(mem_ways _ _ _ _ _).2 ⟨h1,rfl,Int.le_trans h4.1 h4.2⟩
   cases hw:waysR r i ls s with
   |nil=>rw[hw] at h5;cases h5
   |cons a b=>rfl
 have e2:∀ ls,ls∈toldR r s↔AllS r s ls:=by
  intro ls
  unfold toldR AllS
  rw[List.mem_filter,zxn,List.all_eq_true]
  refine and_congr_right fun _=>⟨fun h i hi=>(e ls i).1 ?_,fun h i hi=>?_⟩
  ·have:=h i (List.mem_range.2 hi)
   simpa using this
  ·have:=(e ls i).2 (h i (List.mem_range.1 hi))
   rw[this];rfl
 unfold canR
 constructor
 ·intro h
  cases ht:toldR r s with
  |nil=>rw[ht] at h;cases h
  |cons a b=>exact ⟨a,(e2 a).1 (by rw[ht];simp)⟩
 ·rintro ⟨ls,h⟩
  have:=(e2 ls).2 h
  cases ht:toldR r s with
  |nil=>rw[ht] at this;cases this
  |cons a b=>rfl
def keepL (s:Nat):Nat→List Evt→List Evt
 |_,[]=>[]
 |k,v::l=>if v.kind≠2∨bit s k=true then v::keepL s (k+1) l else keepL s (k+1) l
def keepM (s:Nat):Nat→List Evt→List Int→List Int
 |_,[],_=>[]
 |k,v::l,ls=>if v.kind≠2∨bit s k=true then ls.headD 0::keepM s (k+1) l ls.tail else keepM s (k+1) l ls.tail
def subR (r:Road)(s:Nat):Road:=⟨r.parts,keepL s 0 r.events⟩
def okS (s:Nat)(i:Nat)(p:Tr):Nat→List Evt→List Int→Int→Prop
 |_,[],_,_=>True
 |k,v::l,ls,h=>((v.kind=2∧v.part=i∧bit s k=true)→v.shows.lo≤h∧h≤v.shows.hi)∧okS s i p (k+1) l ls.tail (stepE v p h (ls.headD 0))
theorem zsc (s i:Nat)(p:Tr):∀ (es:List Evt) (k:Nat) (ls:List Int) (h:Int),okS s i p k es ls h↔∀ (j:Nat) (v:Evt),es[j]?=some v→bit s (k+j)=true→v.kind=2→v.part=i→v.shows.lo≤after p (es.take j) ls h∧after p (es.take j) ls h≤v.shows.hi
 |[],k,ls,h=>by simp[okS]
 |v::l,k,ls,h=>by
  rw[okS,zsc s i p l (k+1) ls.tail]
  constructor
  ·rintro ⟨h1,h2⟩ j w hw hb hk hp
   cases j with
   |zero=>
    simp only[List.getElem?_cons_zero,Option.some.injEq] at hw
    subst hw
    exact h1 ⟨hk,hp,hb⟩
   |succ j=>exact h2 j w (by simpa using hw) (by rw[show k+1+j=k+(j+1) by omega];exact hb) hk hp
  ·intro H
   refine ⟨fun ⟨a,b,c⟩=>H 0 v rfl c a b,fun j w hw hb hk hp=>?_⟩
   exact H (j+1) w (by simpa using hw) (by rw[show k+(j+1)=k+1+j by omega];exact hb) hk hp
theorem zmm (r:Road)(i:Nat)(p:Tr)(ls:List Int)(s:Nat)(h:Int):right r i p ls s h↔okS s i p 0 r.events ls h:=by
 rw[zmn,zsc]
 simp only[Nat.zero_add]
 rfl
theorem zld (s i:Nat)(p:Tr)(t:Nat)(ht:∀ j,j<t→bit (2 ^ t - 1) j=true):∀ (es:List Evt) (k k':Nat) (ls:List Int) (h:Int),k'+(keepL s k es).length≤t→(okS s i p k es ls h↔okS (2 ^ t - 1) i p k' (keepL s k es) (keepM s k es ls) h)
 |[],k,k',ls,h,_=>by simp[okS,keepL]
 |v::l,k,k',ls,h,hl=>by
  rw[okS,keepL,keepM]
  by_cases hc:v.kind≠2∨bit s k=true
  ·rw[keepL,if_pos hc,List.length_cons] at hl
   rw[if_pos hc,if_pos hc,okS]
   rw[zld s i p t ht l (k+1) (k'+1) ls.tail _ (by omega)]
   refine and_congr ?_ Iff.rfl
   constructor
   ·rintro H ⟨a,b,_⟩
    exact H ⟨a,b,hc.resolve_left fun h=>h a⟩
   ·rintro H ⟨a,b,_⟩
    exact H ⟨a,b,ht k' (by omega)⟩
  ·rw[keepL,if_neg hc] at hl
   rw[if_neg hc,if_neg hc]
   obtain ⟨h1,h2⟩:=not_or.1 hc
   have hk:v.kind=2:=Decidable.not_not.1 h1
   have e:stepE v p h (ls.headD 0)=h:=by unfold stepE;simp[hk]
   rw[e,zld s i p t ht l (k+1) k' ls.tail h hl]
   exact ⟨fun h=>h.2,fun h=>⟨fun hh=>absurd hh.2.2 h2,h⟩⟩
theorem zew (v:Evt)(es:List Evt)(ls:List Int):Lds (v::es) ls↔∃ x l,ls=x::l∧(v.kind=0→v.load.has x)∧(v.kind≠0→x=0)∧Lds es l:=by
 constructor
 ·rintro ⟨h1,h2⟩
  cases ls with
  |nil=>simp at h1
  |cons x l=>exact ⟨x,l,rfl,(h2 0 v rfl).1,(h2 0 v rfl).2,by simpa using h1,fun i w hw=>h2 (i+1) w (by simpa using hw)⟩
 ·rintro ⟨x,l,rfl,h1,h2,h3,h4⟩
  refine ⟨by simp[h3],fun i w hw=>?_⟩
  cases i with
  |zero=>
   simp only[List.getElem?_cons_zero,Option.some.injEq] at hw
   subst hw
   exact ⟨h1,h2⟩
  |succ i=>exact h4 i w (by simpa using hw)
theorem zmw (s:Nat):∀ (es:List Evt) (k:Nat) (ls:List Int),Lds es ls→Lds (keepL s k es) (keepM s k es ls)
 |[],k,ls,h=>by simp[keepL,keepM,Lds]
 |v::l,k,ls,h=>by
  obtain ⟨x,m,rfl,h1,h2,h3⟩:=(zew v l ls).1 h
  have ih:=zmw s l (k+1) m h3
  rw[keepL,keepM]
  by_cases hc:v.kind≠2∨bit s k=true
  ·rw[if_pos hc,if_pos hc]
   exact (zew _ _ _).2 ⟨x,_,rfl,h1,h2,ih⟩
  ·rw[if_neg hc,if_neg hc];exact ih
theorem zis (s:Nat):∀ (es:List Evt) (k:Nat) (l:List Int),Lds (keepL s k es) l→∃ ls,Lds es ls∧keepM s k es ls=l
 |[],k,l,h=>⟨[],by simp[Lds],(List.eq_nil_of_length_eq_zero (by have:=h.1;simpa [keepL] using this)).symm⟩
 |v::es,k,l,h=>by
  rw[keepL] at h
  by_cases hc:v.kind≠2∨bit s k=true
  ·rw[if_pos hc] at h
   obtain ⟨x,m,rfl,h1,h2,h3⟩:=(zew _ _ _).1 h
   obtain ⟨ls,h4,h5⟩:=zis s es (k+1) m h3
   refine ⟨x::ls,(zew _ _ _).2 ⟨x,ls,rfl,h1,h2,h4⟩,?_⟩
   rw[keepM,if_pos hc]
   simp[h5]
  ·rw[if_neg hc] at h
   obtain ⟨ls,h4,h5⟩:=zis s es (k+1) l h
   obtain ⟨h1,h2⟩:=not_or.1 hc
   have hk:v.kind=2:=Decidable.not_not.1 h1
   refine ⟨0::ls,(zew _ _ _).2 ⟨0,ls,rfl,fun h=>by omega,fun _=>rfl,h4⟩,?_⟩
   rw[keepM,if_neg hc]
   simpa using h5
theorem sub_can (r:Road)(s:Nat):canR (subR r s) (everyR (subR r s))=canR r s:=by
 have ht:∀ j,j<(subR r s).events.length→bit (2 ^ (subR r s).events.length - 1) j=true:=fun j hj=>every_bit (subR r s) hj
 have e:∀ i p ls h,right r i p ls s h↔right (subR r s) i p (keepM s 0 r.events ls) (everyR (subR r s)) h:=fun i p ls h=>by
  rw[zmm,zmm]
  exact zld s i p _ ht r.events 0 0 ls h (by rw[Nat.zero_add];exact Nat.le_refl _)
 rw[Bool.eq_iff_iff,zlw,zlw]
 constructor
 ·rintro ⟨l,h1,h2⟩
  obtain ⟨ls,h3,rfl⟩:=zis s r.events 0 l h1
  exact ⟨ls, h3, fun i hi => by
   obtain ⟨p,h,a,b,c⟩:=h2 i hi
   exact ⟨p,h,a,b,(e i p ls h).2 c⟩⟩
 ·rintro ⟨ls,h1,h2⟩
  exact ⟨_, zmw s r.events 0 ls h1, fun i hi => by
   obtain ⟨p,h,a,b,c⟩:=h2 i hi
   exact ⟨p,h,a,b,(e i p ls h).1 c⟩⟩
theorem zea (s:Nat):∀ (es:List Evt) (k:Nat),(keepL s k es).Sublist es
 |[],_=>by simp[keepL]
 |v::l,k=>by
  rw[keepL]
  split
  ·exact (zea s l (k+1)).cons_cons v
  ·exact (zea s l (k+1)).cons v
theorem sub_fine {r:Road}(hr:Fine r)(s:Nat):Fine (subR r s) where
 parts:=hr.parts
 events:=Nat.le_trans (zea s r.events 0).length_le hr.events
 part:=hr.part
 event v hv:=hr.event v ((zea s r.events 0).subset hv)
 doubts:=Nat.le_trans ((zea s r.events 0).filter _).length_le hr.doubts
theorem zkf (s:Nat):∀ (es:List Evt) (k:Nat) (v:Evt),keepL s k (es++[v])=keepL s k es++if v.kind≠2∨bit s (k+es.length)=true then [v] else []
 |[],k,v=>by simp[keepL]
 |w::l,k,v=>by
  rw[List.cons_append,keepL,keepL,zkf s l (k+1) v,show k+1+l.length=k+(w::l).length by simp;omega]
  split<;>simp
def keepN (r:Road)(s i:Nat):List Evt:=keepL s 0 (r.events.take i)
theorem keepN_succ {r:Road}{s i:Nat}{v:Evt}(h:r.events[i]?=some v):keepN r s (i+1)=keepN r s i++if v.kind≠2∨bit s i=true then [v] else []:=by
 have hi:=(List.getElem?_eq_some_iff.1 h).1
 unfold keepN
 rw[List.take_add_one,h]
 show keepL s 0 (r.events.take i++[v])=_
 rw[zkf]
 simp[Nat.min_eq_left (Nat.le_of_lt hi)]
theorem keepN_len (r:Road)(s i:Nat):(keepN r s i).length≤i:=Nat.le_trans (zea s _ 0).length_le (by simp;omega)
theorem keepN_all (r:Road)(s:Nat):keepN r s r.events.length=(subR r s).events:=by unfold keepN subR;rw[List.take_length]
theorem zwl {r:Road}(hr:Fine r):canR r 0=true:=by
 refine (zlw r 0).2 ⟨r.events.map fun v=>if v.kind=0 then v.load.lo else 0,⟨by simp,fun i v hv=>?_⟩,fun i hi=>?_⟩
 ·rw[List.getD_eq_getElem?_getD,List.getElem?_map,hv]
  have h:=hr.event v (List.mem_of_getElem? hv)
  refine ⟨fun hk=>?_,fun hk=>?_⟩
  ·simp only[Option.map_some,Option.getD_some,if_pos hk,Sp.has]
   omega
  ·simp[hk]
 ·have hp:=hr.part _ (part_mem hi)
  refine ⟨⟨(r.parts.getD i default).stiff.lo,(r.parts.getD i default).rise.lo,(r.parts.getD i default).full⟩,(r.parts.getD i default).height.lo,?_,⟨Int.le_refl _,hp.2.1.2.1⟩,?_⟩
  ·unfold partsR
   rw[List.mem_flatMap]
   exact ⟨_,(mem_span _ _).2 ⟨Int.le_refl _,hp.2.2.1.2.1⟩,List.mem_map.2 ⟨_,(mem_span _ _).2 ⟨Int.le_refl _,hp.2.2.2.2.1⟩,rfl⟩⟩
  ·rw[zmn]
   intro j v _ hb
   simp[bit] at hb
theorem zrj:∀ S,S<1024→∀ i,i<10→S.testBit i=true→Clm.sizeN (andn S (2 ^ i))<Clm.sizeN S:=by decide +kernel
theorem zuj {r:Road}{s t:Nat}(h:areLooks r s=true)(hb:∀ i,bit t i=true→bit s i=true):areLooks r t=true:=(zjb r t).2 fun i hi ht=>(zjb r s).1 h i hi (hb i ht)
theorem zyj {r:Road}{s:Nat}(h:areLooks r s=true)(hs:s<2 ^ r.events.length):andn s (looksR r)=0:=by
 refine Nat.eq_of_testBit_eq fun i=>?_
 rw[zfc,Nat.zero_testBit]
 cases hb:s.testBit i with
 |false=>rfl
 |true=>
  have hi:i<r.events.length:=Nat.lt_of_not_le fun hn=>by
   rw[Nat.testBit_lt_two_pow (Nat.lt_of_lt_of_le hs (Nat.pow_le_pow_right (by decide) hn))] at hb;cases hb
  have h2:=(zjb r s).1 h i hi hb
  have h3:=zgo r i
  unfold bit at h3
  rw[h3,decide_eq_true hi,decide_eq_true h2];rfl
theorem clash_law {r:Road}(hr:Fine r)(h:canR r (everyR r)=false):∃ S,clashFR r=some S∧S<1024∧1≤S∧andn S (looksR r)=0∧canR r S=false∧(∀ i,i<r.events.length→S.testBit i=true→canR r (andn S (2 ^ i))=true)∧∀ o,canR r (o&&&looksR r)=false→Clm.sizeN S<Clm.sizeN (o&&&looksR r)∨Clm.sizeN (o&&&looksR r)=Clm.sizeN S∧S≤o&&&looksR r:=by
 obtain ⟨S,h1,h2,h3,h4,h5⟩:=clash_some h
 have he:=hr.events
 have hp:2 ^ r.events.length≤2 ^ 10:=Nat.pow_le_pow_right (by decide) he
 refine ⟨S,h1,by omega,?_,zyj h3 h2,h4,fun i hi hb=>?_,fun o ho=>?_⟩
 ·refine Nat.pos_of_ne_zero fun e=>?_
  rw[e,zwl hr] at h4;cases h4
 ·cases hc:canR r (andn S (2 ^ i)) with
  |true=>rfl
  |false=>
   have ha:=zuj h3 (t:=andn S (2 ^ i)) fun j hj=>by
    unfold bit at hj ⊢
    rw[zfc,Bool.and_eq_true] at hj
    exact hj.1
   have h6:=h5 _ (Nat.lt_of_le_of_lt (zly _ _) h2) ha hc
   have h7:=zrj S (by omega) i (by omega) hb
   generalize Clm.sizeN S=a at *
   generalize Clm.sizeN (andn S (2 ^ i))=b at *
   omega
 ·have hl:o&&&looksR r≤looksR r:=Nat.and_le_right
  have hlt:looksR r<2 ^ r.events.length:=Clm.setOf_lt _ _
  have h6 := h5 (o &&& looksR r) (by omega) (zuj (zka r) fun j hj => by
   unfold bit at hj ⊢
   rw[Nat.testBit_and,Bool.and_eq_true] at hj
   exact hj.2) ho
  generalize Clm.sizeN S=a at *
  generalize Clm.sizeN (o&&&looksR r)=b at *
  omega
end Rd
end Go.Proofs.Ytlcjlcllbgjplaa

/- Lists of a road that grow. -/
namespace Go.Proofs.Ytlcjlcllbgjplaa
open Go
namespace Ev
namespace Ro
open K
set_option maxRecDepth 100000
set_option maxHeartbeats 4000000
inductive Grw (lo:Nat) (G:List AB) (cs:List AV) (n:Nat):AV→Prop
 |none:cs=[]→n=0→Grw lo G cs n .nils
 |some (q:Nat):lo≤q→HB G q (.cells cs)→Grw lo G cs n (.sl q 0 n 7)
theorem Grw.move {lo lo':Nat}{G G':List AB}{cs:List AV}{n a:Nat}{v:AV}(h:Grw lo G cs n v)(ha:a<lo)(hl:G.length≤lo')(hm:∀ r x,r<lo'→r≠a→HB G r x→HB G' r x):Grw lo G' cs n v:=by
 cases h with
 |none h0 h1=>exact .none h0 h1
 |some q h0 h1=>exact .some q h0 (hm _ _ (by have:=h1.lt;omega) (by omega) h1)
theorem Grw.app {lo:Nat}{G:List AB}{cs:List AV}{n:Nat}{v:AV}(h:Grw lo G cs n v)(K:List AB):Grw lo (G++K) cs n v:=by
 cases h with
 |none h0 h1=>exact .none h0 h1
 |some q h0 h1=>exact .some q h0 (h1.app K)
theorem Grw.evs {lo:Nat}{G:List AB}{l:List Rd.Evt}{v:AV}(h:Grw lo G (evCs l) l.length v):evsV G v l:=by
 cases h with
 |none h0 h1=>
  have:l=[]:=List.length_eq_zero_iff.1 h1
  subst this;exact zwd G
 |some q h0 h1=>exact zxx h1.get rfl
end Ro
end Ev
end Go.Proofs.Ytlcjlcllbgjplaa

/- The code of functions of the laws, for the evaluator. Printed by program. -/
namespace Go.Proofs.Ytlcjlcllbgjplaa
open Go
namespace Ev
def af35:AFunc:=⟨43,[.tmp 3],Zq [Zo 0 3 (.mov (.val (.bool false)))] (Zq [Zo 0 9 (.load (some 2) (Zt 1)),Zo 1 4 (.alloc [.nils,.nils]),Zs 2 (.store 2 (Zt 4) (Zt 9))] (Zq [Zo 0 10 (.fieldA 1 (Zt 4)),Zs 1 (.store 1 (Zt 10) (.val .nils))] (.seq (Zq [Zo 0 11 (.fieldA 1 (Zt 1)),Zl 1 12 11,Zo 2 13 (.len (Zt 12)),Zo 3 14 (.mov (Zn 0))] (.block 0 (.loop [0,4,12,13,14] (Zq [Zo 0 15 (.bin .lss (Zt 14) (Zt 13))] (.seq (.cond (Zt 15) .skip (.exit 0)) (.seq (.block 1 (Zq [Zm 0 16 14,Zo 1 17 (.indexA 7 none (Zt 12) (Zt 14)),Zo 2 18 (.load (some 7) (Zt 17)),Zo 3 6 (.alloc [Zi 0,Zi 0,Zi 0,Zi 0,Zi 0,Zi 0,Zi 0]),Zm 4 5 16,Zs 5 (.store 7 (Zt 6) (Zt 18))] (Zq [Zo 0 19 (.fieldA 0 (Zt 6)),Zl 1 20 19,Zo 2 21 (.bin .neq (Zt 20) (Zn 2)),Zm 3 22 21,⟨4,some 23,.mov (Zt 0),some (22,false),0⟩,⟨5,some 24,.mov (Zt 5),some (22,false),0⟩,⟨6,some 25,.bin .shr (Zt 23) (Zt 24),some (22,false),0⟩,⟨7,some 26,.bin .and (Zt 25) (Zn 1),some (22,false),0⟩,⟨8,some 27,.bin .eql (Zt 26) (Zn 1),some (22,false),0⟩,Zo 9 28 (.pick (Zt 22) (.val (.bool true)) (Zt 27))] (.cond (Zt 28) (.ops [Zo 0 29 (.fieldA 1 (Zt 4)),Zl 1 30 29,Zo 2 31 (.load (some 7) (Zt 6)),Zo 3 32 (.buildSl 7 1 [Zi 0,Zi 0,Zi 0,Zi 0,Zi 0,Zi 0,Zi 0] [(0,Zt 31)]),Zo 4 33 (.append 7 (Zt 30) (Zt 32)),Zo 5 34 (.fieldA 1 (Zt 4)),Zs 6 (.store 1 (Zt 34) (Zt 33))]) .skip)))) (.ops [Zo 0 35 (.bin .add (Zt 14) (Zn 1)),Zm 1 14 35]))))))) (Zq [Zo 0 37 (.load (some 2) (Zt 4)),Zo 1 38 (Zc 34 [Zt 37]),Zm 2 36 38,Zo 3 39 (.extract (Zt 36) 0),Zo 4 40 (.extract (Zt 36) 1),Zm 5 7 39,Zm 6 8 40] (Zq [Zm 0 41 8,Zo 1 42 (.bin .eql (Zt 41) (Zn 10)),Zm 2 3 42] .ret)))))⟩
end Ev
end Go.Proofs.Ytlcjlcllbgjplaa

/- RoadClash, gone through: the closure. -/
namespace Go.Proofs.Ytlcjlcllbgjplaa
open Go
namespace Ev
namespace Ro
open K
attribute [local simp] ev1 wantG spineK spine float xnew xval xeff zaa zat zbc zaw zav addFl cellsOf pickC alive slLen slFt binI maxA maxK minA minK aeqK aeqS AV.cells spA zau fillA setAt bitsI nat_nn zbd AV.plain apart
set_option maxRecDepth 100000
set_option maxHeartbeats 4000000
def ClosC (call:CallF)(r:Rd.Road):Prop:=∀ (H:List AB) (b s:Nat),s<1024→H[b]?=some (.cells (roadCs r))→call (.fn (.func 35) [] [.ptr b 0]) [.int .i64 s] H=some (.ret (.bool (!Rd.canR r s)),H,[])
theorem zwk (C:Cfg)(hC:C.calm=true)(call:CallF)(hA:LApi call)(r:Rd.Road)(hf:Rd.Fine r)(H:List AB)(b s:Nat)(hs:s<1024)(hb0:H[b]?=some (.cells (roadCs r))):
  Does (ev C call H.length none af35.body { tm:=tmA af35.ntmps (zipI 0 [.int .i64 s,.ptr b 0] []),df:=[],hp:=H,tc:=[] })
   (Ends C H.length af35.res fun v _hp tc=>v=.bool (!Rd.canR r s)∧tc=[]):=by
 have he10:=hf.events
 have hbl:=get_lt hb0
 obtain ⟨B1,B2,B3⟩:=hb hb0
 have HX:=hideP (And.intro hA (And.intro hf hb0))
 clear hA hf hb0
 unfold af35 Zq Zm Zl Zo Zs Zc Zt Zn Zi
 simp only[zipI,roadCs] at *
 (repeat (first|((with_reducible apply zad);(focus ((with_reducible apply zaq);(focus rfl);(focus rfl);(focus ((conv=>lhs;simp[*,List.getElem?_append_right,List.set_append_right,List.getElem?_cons_zero,List.getElem?_append_left,List.set_append_left,-getElem?_pos,Nat.testBit_eq_decide_div_mod_eq])<;>exact rfl));(focus rfl);(focus rfl)));simp only[addFl])|(with_reducible apply zad;(focus ((conv=>lhs;simp[*,List.getElem?_append_right,List.set_append_right,List.getElem?_cons_zero,List.getElem?_append_left,List.set_append_left,-getElem?_pos,Nat.testBit_eq_decide_div_mod_eq])<;>exact rfl));simp only[addFl])|((with_reducible first|apply zai|apply zak|apply zah|apply zaf|apply zac|apply zaj|apply zag|apply zal|(apply zae;· simp[*,zaa])|(apply zab;· simp[*,zaa]));try simp only[Then,Ops])|simp only[Nat.reduceEqDiff,reduceIte,OutB,Then]))
 with_reducible refine zaz hC r.events.length (by unfold fuelL;omega) (fun i st=>∃ G v,H.length≤G.length∧HB G H.length (.cells [.vs 7 (r.parts.map ptE),v])∧Grw (H.length+1) G (evCs (Rd.keepN r s i)) (Rd.keepN r s i).length v∧st={ tm:=tmA 43 [(14,.int .i64 i),(13,.int .i64 r.events.length),(12,.vs 7 (r.events.map evE)),(4,.ptr H.length 0),(0,.int .i64 s)],df:=[],hp:=G,tc:=[] }) ?_ ?_ ?_
 ·refine ⟨H++[.cells [.vs 7 (r.parts.map ptE),.nils]],.nils,by simp,hb (by simp),.none (by simp[Rd.keepN,Rd.keepL,evCs]) (by simp[Rd.keepN,Rd.keepL]),?_⟩
  (refine st_is ?_ ?_ ?_ ?_;(focus (simp[zan,zap]));(focus rfl);(focus (first|rfl|(simp;done)|(simp[*];done)|(simp;rfl)|(simp[*];omega)|(simp;omega)));(focus (first|rfl|simp)))
 ·rintro i st hi ⟨G,v,hl,hG,hg,rfl⟩
  have hgp:r.events[i]?=some r.events[i]:=List.getElem?_eq_getElem hi
  have hks:=Rd.keepN_succ (s:=s) hgp
  have hkl:=Rd.keepN_len r s i
  generalize r.events[i]=e at hgp hks
  have hgp':=ge_of hgp
  rw[hks]
  generalize Rd.keepN r s i=L at *
  have hbit:=zud (n:=s) (d:=i) (by omega) (by omega)
  have hwi:IntKind.i64.wrap (↑i+1)=↑i+1:=zas (by omega) (by omega)
  have e5:(i:Int)<r.events.length:=by omega
  have hb1:1≤bound:=by decide
  have hbi:L.length+1≤bound:=by unfold bound;omega
  have hpp:=zhz L
  have hcl:=zgd L
  have hG':=hG
  have hGl:=hG.lt
  obtain ⟨A1,A2,A3⟩:=hG
  have g0:∀ n,¬ (G.length+n<H.length):=fun n=>by omega
  have g00:¬ (G.length<H.length):=by omega
  have gl:∀ n,¬ (H.length=G.length+n):=fun n=>by omega
  have gl0:¬ (H.length=G.length):=by omega
  have key:((e.kind≠2∨Rd.bit s i=true)∧(¬ e.kind=2∧(e.kind != 2)=true∨e.kind=2∧s.testBit i=true))∨(¬ (e.kind≠2∨Rd.bit s i=true)∧e.kind=2∧s.testBit i=false):=by
   unfold Rd.bit
   by_cases hk:e.kind=2
   ·cases hb:s.testBit i with
    |true=>exact .inl ⟨.inr rfl,.inr ⟨hk,rfl⟩⟩
    |false=>exact .inr ⟨fun h=>h.elim (fun h=>h hk) (fun h=>by cases h),hk,rfl⟩
   ·exact .inl ⟨.inl hk,.inl ⟨hk,by simpa using hk⟩⟩
  obtain ⟨X,hX⟩:∃ X,X=(evE e).cells:=⟨_,rfl⟩
  simp only[evE,AV.cells] at hX
  have hev:evCs [e]=X:=by rw[hX];rfl
  have HV:=hideP (And.intro hX hev)
  have HG:=hideP (And.intro hG' (And.intro hl hg))
  clear hX hev hG' HX hs hi he10 hks
  rcases key with ⟨hin,hor⟩|⟨hin,hk,hb⟩
  ·rw[if_pos hin]
   clear hin
   have fin:∀ (G2:List AB) (q:Nat),G.length≤G2.length→HB G2 H.length (.cells [.vs 7 (r.parts.map ptE),.sl q 0 (L.length+1) 7])→H.length+1≤q→HB G2 q (.cells (evCs L++X))→∀ st:St,st={ tm:=tmA 43 [(14,.int .i64 (i+1:Nat)),(13,.int .i64 r.events.length),(12,.vs 7 (r.events.map evE)),(4,.ptr H.length 0),(0,.int .i64 s)],df:=[],hp:=G2,tc:=[] }→∃ G v,H.length≤G.length∧HB G H.length (.cells [.vs 7 (r.parts.map ptE),v])∧Grw (H.length+1) G (evCs (L++[e])) (L++[e]).length v∧st={ tm:=tmA 43 [(14,.int .i64 (i+1:Nat)),(13,.int .i64 r.events.length),(12,.vs 7 (r.events.map evE)),(4,.ptr H.length 0),(0,.int .i64 s)],df:=[],hp:=G,tc:=[] }:=fun G2 q h1 h2 h3 h4 st h5=>
    ⟨G2,.sl q 0 (L.length+1) 7,by have:=HG.out.2.1;omega,h2,by rw[zni,HV.out.2,List.length_append];exact .some q h3 h4,h5⟩
   have HF:=hideP fin
   clear fin
   cases hg with
   |none h0 h0'=>
    have hL0:L=[]:=List.eq_nil_of_length_eq_zero h0'
    subst hL0
    clear h0 h0' hpp hcl hkl hbi
    rcases hor with ⟨hk,hk'⟩|⟨hk,hbt⟩
    ·clear hbit
     (repeat (first|((with_reducible apply zad);(focus ((with_reducible apply zaq);(focus rfl);(focus rfl);(focus ((conv=>lhs;simp[*,List.getElem?_append_right,List.set_append_right,List.getElem?_cons_zero,List.getElem?_append_left,List.set_append_left,-getElem?_pos,evE,Nat.testBit_eq_decide_div_mod_eq])<;>exact rfl));(focus rfl);(focus rfl)));simp only[addFl])|(with_reducible apply zad;(focus ((conv=>lhs;simp[*,List.getElem?_append_right,List.set_append_right,List.getElem?_cons_zero,List.getElem?_append_left,List.set_append_left,-getElem?_pos,evE,Nat.testBit_eq_decide_div_mod_eq])<;>exact rfl));simp only[addFl])|((with_reducible first|apply zai|apply zak|apply zah|apply zaf|apply zac|apply zaj|apply zag|apply zal|(apply zae;· simp[*,zaa])|(apply zab;· simp[*,zaa]));try simp only[Then,Ops,OutB])|simp only[Nat.reduceEqDiff,reduceIte,OutB,Then]))
     obtain ⟨hX,-⟩:=HV.out
     refine HF.out (G.set H.length (.cells [.vs 7 (r.parts.map ptE),.sl (G.length+2) 0 1 7])++[.cells X,.cells X,.cells X]) (G.length+2) (by simp) ((HG.out.1.here _).app _) (by omega) (hb (by rw[List.getElem?_append_right (by simp)];simp[evCs])) _ ?_
     subst hX
     (refine st_is ?_ ?_ ?_ ?_;(focus (simp[zan,zap]));(focus rfl);(focus (first|rfl|(simp;done)|(simp[*];done)|(simp;rfl)|(simp[*];omega)|(simp;omega)));(focus (first|rfl|simp)))
    ·rw[hbt] at hbit
     simp at hbit
     clear hbt
     (repeat (first|((with_reducible apply zad);(focus ((with_reducible apply zaq);(focus rfl);(focus rfl);(focus ((conv=>lhs;simp[*,List.getElem?_append_right,List.set_append_right,List.getElem?_cons_zero,List.getElem?_append_left,List.set_append_left,-getElem?_pos,evE,Nat.testBit_eq_decide_div_mod_eq])<;>exact rfl));(focus rfl);(focus rfl)));simp only[addFl])|(with_reducible apply zad;(focus ((conv=>lhs;simp[*,List.getElem?_append_right,List.set_append_right,List.getElem?_cons_zero,List.getElem?_append_left,List.set_append_left,-getElem?_pos,evE,Nat.testBit_eq_decide_div_mod_eq])<;>exact rfl));simp only[addFl])|((with_reducible first|apply zai|apply zak|apply zah|apply zaf|apply zac|apply zaj|apply zag|apply zal|(apply zae;· simp[*,zaa])|(apply zab;· simp[*,zaa]));try simp only[Then,Ops,OutB])|simp only[Nat.reduceEqDiff,reduceIte,OutB,Then]))
     obtain ⟨hX,-⟩:=HV.out
     refine HF.out (G.set H.length (.cells [.vs 7 (r.parts.map ptE),.sl (G.length+2) 0 1 7])++[.cells X,.cells X,.cells X]) (G.length+2) (by simp) ((HG.out.1.here _).app _) (by omega) (hb (by rw[List.getElem?_append_right (by simp)];simp[evCs])) _ ?_
     subst hX
     (refine st_is ?_ ?_ ?_ ?_;(focus (simp[zan,zap]));(focus rfl);(focus (first|rfl|(simp;done)|(simp[*];done)|(simp;rfl)|(simp[*];omega)|(simp;omega)));(focus (first|rfl|simp)))
   |some q l1 h1=>
    have h1':=h1
    have hql:=h1.lt
    obtain ⟨Q1,Q2,Q3⟩:=h1
    have n1:H.length≠q:=by omega
    have n3:q≠H.length:=by omega
    have n2:¬ (q<H.length):=by omega
    have ql:∀ n,¬ (q=G.length+n):=fun n=>by omega
    have ql0:¬ (q=G.length):=by omega
    have HQ:=hideP (And.intro h1' n3)
    clear h1'
    rcases hor with ⟨hk,hk'⟩|⟨hk,hbt⟩
    ·clear hbit
     (repeat (first|((with_reducible apply zad);(focus ((with_reducible apply zaq);(focus rfl);(focus rfl);(focus ((conv=>lhs;simp[*,List.getElem?_append_right,List.set_append_right,List.getElem?_cons_zero,List.getElem?_append_left,List.set_append_left,-getElem?_pos,evE,hcl,hpp,Nat.testBit_eq_decide_div_mod_eq])<;>exact rfl));(focus rfl);(focus rfl)));simp only[addFl])|(with_reducible apply zad;(focus ((conv=>lhs;simp[*,List.getElem?_append_right,List.set_append_right,List.getElem?_cons_zero,List.getElem?_append_left,List.set_append_left,-getElem?_pos,evE,hcl,hpp,Nat.testBit_eq_decide_div_mod_eq])<;>exact rfl));simp only[addFl])|((with_reducible first|apply zai|apply zak|apply zah|apply zaf|apply zac|apply zaj|apply zag|apply zal|(apply zae;· simp[*,zaa])|(apply zab;· simp[*,zaa]));try simp only[Then,Ops,OutB])|simp only[Nat.reduceEqDiff,reduceIte,OutB,Then]))
     obtain ⟨hX,-⟩:=HV.out
     refine HF.out ((G.set q .dead).set H.length (.cells [.vs 7 (r.parts.map ptE),.sl (G.length+2) 0 (L.length+1) 7])++[.cells X,.cells X,.cells (evCs L++X)]) (G.length+2) (by simp) (((HG.out.1.set _ n3).here _).app _) (by omega) (hb (by rw[List.getElem?_append_right (by simp)];simp)) _ ?_
     subst hX
     (refine st_is ?_ ?_ ?_ ?_;(focus (simp[zan,zap]));(focus rfl);(focus (first|rfl|(simp;done)|(simp[*];done)|(simp;rfl)|(simp[*];omega)|(simp;omega)));(focus (first|rfl|simp)))
    ·rw[hbt] at hbit
     simp at hbit
     clear hbt
     (repeat (first|((with_reducible apply zad);(focus ((with_reducible apply zaq);(focus rfl);(focus rfl);(focus ((conv=>lhs;simp[*,List.getElem?_append_right,List.set_append_right,List.getElem?_cons_zero,List.getElem?_append_left,List.set_append_left,-getElem?_pos,evE,hcl,hpp,Nat.testBit_eq_decide_div_mod_eq])<;>exact rfl));(focus rfl);(focus rfl)));simp only[addFl])|(with_reducible apply zad;(focus ((conv=>lhs;simp[*,List.getElem?_append_right,List.set_append_right,List.getElem?_cons_zero,List.getElem?_append_left,List.set_append_left,-getElem?_pos,evE,hcl,hpp,Nat.testBit_eq_decide_div_mod_eq])<;>exact rfl));simp only[addFl])|((with_reducible first|apply zai|apply zak|apply zah|apply zaf|apply zac|apply zaj|apply zag|apply zal|(apply zae;· simp[*,zaa])|(apply zab;· simp[*,zaa]));try simp only[Then,Ops,OutB])|simp only[Nat.reduceEqDiff,reduceIte,OutB,Then]))
     obtain ⟨hX,-⟩:=HV.out
     refine HF.out ((G.set q .dead).set H.length (.cells [.vs 7 (r.parts.map ptE),.sl (G.length+2) 0 (L.length+1) 7])++[.cells X,.cells X,.cells (evCs L++X)]) (G.length+2) (by simp) (((HG.out.1.set _ n3).here _).app _) (by omega) (hb (by rw[List.getElem?_append_right (by simp)];simp)) _ ?_
     subst hX
     (refine st_is ?_ ?_ ?_ ?_;(focus (simp[zan,zap]));(focus rfl);(focus (first|rfl|(simp;done)|(simp[*];done)|(simp;rfl)|(simp[*];omega)|(simp;omega)));(focus (first|rfl|simp)))
  ·rw[if_neg hin,List.append_nil]
   rw[hb] at hbit
   simp at hbit
   clear hin hb hpp hcl hkl hbi hg
   (repeat (first|((with_reducible apply zad);(focus ((with_reducible apply zaq);(focus rfl);(focus rfl);(focus ((conv=>lhs;simp[*,List.getElem?_append_right,List.set_append_right,List.getElem?_cons_zero,List.getElem?_append_left,List.set_append_left,-getElem?_pos,evE,Nat.testBit_eq_decide_div_mod_eq])<;>exact rfl));(focus rfl);(focus rfl)));simp only[addFl])|(with_reducible apply zad;(focus ((conv=>lhs;simp[*,List.getElem?_append_right,List.set_append_right,List.getElem?_cons_zero,List.getElem?_append_left,List.set_append_left,-getElem?_pos,evE,Nat.testBit_eq_decide_div_mod_eq])<;>exact rfl));simp only[addFl])|((with_reducible first|apply zai|apply zak|apply zah|apply zaf|apply zac|apply zaj|apply zag|apply zal|(apply zae;· simp[*,zaa])|(apply zab;· simp[*,zaa]));try simp only[Then,Ops,OutB])|simp only[Nat.reduceEqDiff,reduceIte,OutB,Then]))
   obtain ⟨hG',hl,hg⟩:=HG.out
   obtain ⟨hX,-⟩:=HV.out
   refine ⟨G++[.cells X],v,by simp;omega,hG'.app _,hg.app _,?_⟩
   rw[hX,hk]
   (refine st_is ?_ ?_ ?_ ?_;(focus (simp[zan,zap]));(focus rfl);(focus (first|rfl|(simp;done)|(simp[*];done)|(simp;rfl)|(simp[*];omega)|(simp;omega)));(focus (first|rfl|simp)))
 ·rintro st ⟨G,v,hl,hG,hg,rfl⟩
  obtain ⟨hA,hf,hb0⟩:=HX.out
  rw[Rd.keepN_all] at hg
  have hfs:=Rd.sub_fine hf s
  have hro:roadOf G (.agg [.vs 7 (r.parts.map ptE),v])=some (Rd.subR r s):=zjl (zrv _ _) hg.evs (by have:=hf.parts;omega) (by have:=hfs.events;have:(Rd.subR r s).events=(Rd.subR r s).events:=rfl;show (Rd.keepL s 0 r.events).length≤50;have h2:(Rd.keepL s 0 r.events).length≤10:=hfs.events;omega)
  have hw:=hA.weak hro
  have hvp:v.plain=true:=by cases hg<;>rfl
  have hsc:=Rd.sub_can r s
  obtain ⟨A1,A2,A3⟩:=hG
  cases hc:Rd.canR r s with
  |true=>
   rw[hc] at hsc
   rw[num_ok hfs hsc] at hw
   clear hA hf hb0 hg hfs hro hsc hc
   (repeat (first|((with_reducible apply zad);(focus ((with_reducible apply zaq);(focus rfl);(focus rfl);(focus ((conv=>lhs;simp[*,List.getElem?_append_right,List.set_append_right,List.getElem?_cons_zero,List.getElem?_append_left,List.set_append_left,-getElem?_pos,Nat.testBit_eq_decide_div_mod_eq])<;>exact rfl));(focus rfl);(focus rfl)));simp only[addFl])|(with_reducible apply zad;(focus ((conv=>lhs;simp[*,List.getElem?_append_right,List.set_append_right,List.getElem?_cons_zero,List.getElem?_append_left,List.set_append_left,-getElem?_pos,Nat.testBit_eq_decide_div_mod_eq])<;>exact rfl));simp only[addFl])|((with_reducible first|apply zai|apply zak|apply zah|apply zaf|apply zac|apply zaj|apply zag|apply zal|(apply zae;· simp[*,zaa])|(apply zab;· simp[*,zaa]));try simp only[Then,Ops,OutB,reduceIte])|simp only[Nat.reduceEqDiff,reduceIte,OutB,Then]))
   exact zao (v:=.bool false) (.inl rfl) rfl hl (by simp only[resL,resOf,zam];simp[*,resV]) ⟨rfl,rfl⟩
  |false=>
   rw[hc] at hsc
   rw[num_no hfs hsc] at hw
   clear hA hf hb0 hg hfs hro hsc hc
   (repeat (first|((with_reducible apply zad);(focus ((with_reducible apply zaq);(focus rfl);(focus rfl);(focus ((conv=>lhs;simp[*,List.getElem?_append_right,List.set_append_right,List.getElem?_cons_zero,List.getElem?_append_left,List.set_append_left,-getElem?_pos,Nat.testBit_eq_decide_div_mod_eq])<;>exact rfl));(focus rfl);(focus rfl)));simp only[addFl])|(with_reducible apply zad;(focus ((conv=>lhs;simp[*,List.getElem?_append_right,List.set_append_right,List.getElem?_cons_zero,List.getElem?_append_left,List.set_append_left,-getElem?_pos,Nat.testBit_eq_decide_div_mod_eq])<;>exact rfl));simp only[addFl])|((with_reducible first|apply zai|apply zak|apply zah|apply zaf|apply zac|apply zaj|apply zag|apply zal|(apply zae;· simp[*,zaa])|(apply zab;· simp[*,zaa]));try simp only[Then,Ops,OutB,reduceIte])|simp only[Nat.reduceEqDiff,reduceIte,OutB,Then]))
   exact zao (v:=.bool true) (.inl rfl) rfl hl (by simp only[resL,resOf,zam];simp[*,resV]) ⟨rfl,rfl⟩
end Ro
end Ev
end Go.Proofs.Ytlcjlcllbgjplaa

/- Chapter 05: the reference's size of a set. -/
namespace Go.Proofs.Ytlcjlcllbgjplaa
open Go
namespace Ev
namespace Ro
open K
attribute [local simp] ev1 wantG spineK spine float xnew xval xeff zaa zat zbc zaw zav addFl cellsOf pickC alive slLen slFt binI maxA maxK minA minK aeqK aeqS AV.cells spA zau fillA setAt bitsI nat_nn zbd AV.plain apart
set_option maxRecDepth 100000
set_option maxHeartbeats 4000000
def RsizeC (call:CallF):Prop:=∀ (H:List AB) (s:Nat),s<65536→call (.fn (.func 36) [] []) [.int .i64 s] H=some (.ret (.int .i64 ((Clm.sizeN s:Nat):Int)),H,[])
theorem zrn (C:Cfg)(hC:C.calm=true)(call:CallF)(s:Nat)(hs:s<65536)(H:List AB):
  Does (ev C call H.length none af36.body { tm:=tmA af36.ntmps (zipI 0 [.int .i64 s] []),df:=[],hp:=H,tc:=[] })
   (Ends C H.length af36.res fun v _hp tc=>v=.int .i64 ((Clm.sizeN s:Nat):Int)∧tc=[]):=by
 unfold af36 Zq Zm Zo Zt Zn
 simp only[zipI]
 (repeat (first|(with_reducible apply zad;(focus ((conv=>lhs;simp[*,Nat.testBit_eq_decide_div_mod_eq])<;>exact rfl));simp only[addFl])|((with_reducible first|apply zai|apply zak|apply zah|apply zaf|apply zac|apply zaj|apply zag|apply zal|(apply zae;· simp[*,zaa])|(apply zab;· simp[*,zaa]));try simp only[Then,Ops])|simp only[Nat.reduceEqDiff,reduceIte,OutB,Then]))
 refine zgz (fun q st=>∃ n acc:Nat,n≤q∧n<65536∧acc≤16∧acc+Clm.sizeN n=Clm.sizeN s∧st={ tm:=tmA 13 [(3,.int .i64 acc),(0,.int .i64 n)],df:=[],hp:=H,tc:=[] }) s (by unfold fuelL;omega) ?_ ?_
 ·refine ⟨s,0,Nat.le_refl _,hs,by omega,by omega,?_⟩
  simp only[zdg hC]
  (refine st_is ?_ ?_ ?_ ?_;(focus (simp[zan,zap]));(focus rfl);(focus (first|rfl|(simp;done)|(simp[*];done)|(simp;rfl)|(simp[*];omega)|(simp;omega)));(focus (first|rfl|simp)))
 ·rintro q st ⟨n,acc,hq,hn,ha,he,rfl⟩
  by_cases h0:0<n
  ·have hst:=Clm.sizeN_step n hn
   have hle:=Clm.sizeN_le s
   have t1:(n:Int).tmod 2=((n % 2:Nat):Int):=by rw[Int.tmod_eq_emod_of_nonneg (by omega)];omega
   have t2:(n:Int).tdiv 2=((n / 2:Nat):Int):=by rw[Int.tdiv_eq_ediv_of_nonneg (by omega)];omega
   have hw1:IntKind.i64.wrap ((acc:Int)+((n % 2:Nat):Int))=((acc+n % 2:Nat):Int):=by rw[zas (by omega) (by omega)];omega
   have hw2:IntKind.i64.wrap ((n:Int).tdiv 2)=((n / 2:Nat):Int):=by rw[t2];exact zas (by omega) (by omega)
   have hw3:IntKind.i64.wrap ((n / 2:Nat):Int)=((n / 2:Nat):Int):=zas (by omega) (by omega)
   have hw4:IntKind.i64.wrap ((n % 2:Nat):Int)=((n % 2:Nat):Int):=zas (by omega) (by omega)
   have hlt:n / 2<n:=by omega
   have hlo:n % 2≤1:=by omega
   have HS:=hideP (And.intro hlt (And.intro hlo (And.intro hst (And.intro hle (And.intro hq (And.intro hn (And.intro ha (And.intro he h0))))))))
   have h0i:(0:Int)<(n:Int):=by omega
   generalize n % 2=lo at *
   generalize n / 2=hi at *
   clear hst hle hq hn ha he hlt hlo hs
   (repeat (first|(with_reducible apply zad;(focus ((conv=>lhs;simp[*,Nat.testBit_eq_decide_div_mod_eq])<;>exact rfl));simp only[addFl])|((with_reducible first|apply zai|apply zak|apply zah|apply zaf|apply zac|apply zaj|apply zag|apply zal|(apply zae;· simp[*,zaa])|(apply zab;· simp[*,zaa]));try simp only[Then,Ops,OutB])|simp only[Nat.reduceEqDiff,reduceIte,OutB,Then]))
   obtain ⟨g1,g2,g3,g4,g5,g6,g7,g8,g9⟩:=HS.out
   refine ⟨q - 1,by omega,hi,acc+lo,by omega,by omega,by omega,by omega,?_⟩
   simp only[zdg hC]
   (refine st_is ?_ ?_ ?_ ?_;(focus (simp[zan,zap]));(focus rfl);(focus (first|rfl|(simp;done)|(simp[*];done)|(simp;rfl)|(simp[*];omega)|(simp;omega)));(focus (first|rfl|simp)))
  ·obtain rfl:n=0:=by omega
   have:Clm.sizeN 0=0:=Clm.sizeN_zero
   obtain rfl:acc=Clm.sizeN s:=by omega
   clear hq hn ha he this h0 hs
   (repeat (first|(with_reducible apply zad;(focus ((conv=>lhs;simp[*,Nat.testBit_eq_decide_div_mod_eq])<;>exact rfl));simp only[addFl])|((with_reducible first|apply zai|apply zak|apply zah|apply zaf|apply zac|apply zaj|apply zag|apply zal|(apply zae;· simp[*,zaa])|(apply zab;· simp[*,zaa]));try simp only[Then,Ops,OutB,reduceIte])|simp only[Nat.reduceEqDiff,reduceIte,OutB,Then]))
   exact zao (v:=.int .i64 ((Clm.sizeN s:Nat):Int)) (.inl rfl) rfl (by simp) (by simp only[resL,resOf,zam];simp[*,resV]) ⟨rfl,rfl⟩
end Ro
end Ev
end Go.Proofs.Ytlcjlcllbgjplaa

/- The code of functions of the laws, for the evaluator. Printed by program. -/
namespace Go.Proofs.Ytlcjlcllbgjplaa
open Go
namespace Ev
def af9:AFunc:=⟨133,[.tmp 4],Zq [Zo 0 2 (.box (Zt 0)),Zo 1 4 (.mov (.val (.bool false)))] (.seq (Zq [Zo 0 14 (.load (some 2) (Zt 2)),Zo 1 15 (Zc 22 [Zt 14]),Zm 2 16 15,⟨3,some 17,.load (some 2) (Zt 2),some (16,false),0⟩,⟨4,some 18,Zc 23 [Zt 17],some (16,false),0⟩,⟨5,some 19,.not (Zt 18),some (16,false),0⟩,Zo 6 20 (.pick (Zt 16) (.val (.bool true)) (Zt 19))] (.cond (Zt 20) (Zq [Zo 0 21 (Zc 21 []),Zm 1 4 21] .ret) .skip)) (Zq [Zo 0 23 (.load (some 2) (Zt 2)),Zo 1 24 (Zc 18 [Zt 23]),Zm 2 22 24,Zo 3 25 (.extract (Zt 22) 0),Zo 4 26 (.extract (Zt 22) 1),Zm 5 5 25,Zm 6 6 26] (Zq [Zo 0 7 (.mov (Zn 0))] (.seq (Zq [Zo 0 27 (.fieldA 1 (Zt 2)),Zl 1 28 27,Zo 2 29 (.len (Zt 28)),Zo 3 30 (.mov (Zn 0))] (.block 0 (.loop [1,2,5,6,7,28,29,30] (Zq [Zo 0 31 (.bin .lss (Zt 30) (Zt 29))] (.seq (.cond (Zt 31) .skip (.exit 0)) (.seq (.block 1 (Zq [Zm 0 32 30,Zo 1 33 (.indexA 7 none (Zt 28) (Zt 30)),Zo 2 34 (.load (some 7) (Zt 33)),Zo 3 9 (.alloc [Zi 0,Zi 0,Zi 0,Zi 0,Zi 0,Zi 0,Zi 0]),Zm 4 8 32,Zs 5 (.store 7 (Zt 9) (Zt 34))] (Zq [Zo 0 35 (.fieldA 0 (Zt 9)),Zl 1 36 35,Zo 2 37 (.bin .eql (Zt 36) (Zn 2))] (.cond (Zt 37) (.ops [Zm 0 38 7,Zm 1 39 8,Zo 2 40 (.bin .shl (Zn 1) (Zt 39)),Zo 3 41 (.bin .or (Zt 38) (Zt 40)),Zm 4 7 41]) .skip)))) (.ops [Zo 0 42 (.bin .add (Zt 30) (Zn 1)),Zm 1 30 42]))))))) (Zq [Zo 0 43 (.mkfn (Fn.func 35) [] [Zt 2]),Zm 1 10 43] (.seq (Zq [Zm 0 44 6,Zo 1 45 (.bin .eql (Zt 44) (Zn 0)),Zm 2 46 10,Zm 3 47 7,Zo 4 48 (.call (Zt 46) [Zt 47]),Zo 5 49 (.eq .bool true (Zt 45) (Zt 48)),Zm 6 50 49,⟨7,some 51,.mov (Zt 6),some (50,false),0⟩,⟨8,some 52,.bin .neq (Zt 51) (Zn 0),some (50,false),0⟩,⟨9,some 53,.mov (Zt 52),some (50,false),0⟩,⟨10,some 54,.mov (Zt 6),some (53,true),0⟩,⟨11,some 55,.bin .neq (Zt 54) (Zn 4),some (53,true),0⟩,⟨12,some 56,.mov (Zt 55),some (53,true),0⟩,⟨13,some 57,.mov (Zt 5),some (56,false),0⟩,⟨14,some 58,.bin .neq (Zt 57) (Zn 0),some (56,false),0⟩,⟨15,some 59,.pick (Zt 56) (.val (.bool true)) (Zt 58),some (53,true),0⟩,⟨16,some 60,.pick (Zt 53) (Zt 59) (.val (.bool false)),some (50,false),0⟩,Zo 17 61 (.pick (Zt 50) (.val (.bool true)) (Zt 60))] (.cond (Zt 61) (Zq [Zo 0 4 (.mov (.val (.bool false)))] .ret) .skip)) (.seq (Zq [Zm 0 62 6,Zo 1 63 (.bin .neq (Zt 62) (Zn 0))] (.cond (Zt 63) (Zq [Zo 0 64 (Zc 21 []),Zm 1 4 64] .ret) .skip)) (.seq (Zq [Zm 0 65 5,Zo 1 66 (.bin .lss (Zt 65) (Zn 1)),Zm 2 67 66,⟨3,some 68,.mov (Zt 5),some (67,false),0⟩,⟨4,some 69,.mov (Zt 7),some (67,false),0⟩,⟨5,some 70,.bin .andNot (Zt 68) (Zt 69),some (67,false),0⟩,⟨6,some 71,.bin .neq (Zt 70) (Zn 0),some (67,false),0⟩,Zo 7 72 (.pick (Zt 67) (.val (.bool true)) (Zt 71)),Zm 8 73 72,⟨9,some 74,.mov (Zt 10),some (73,false),0⟩,⟨10,some 75,.mov (Zt 5),some (73,false),0⟩,⟨11,some 76,.call (Zt 74) [Zt 75],some (73,false),0⟩,⟨12,some 77,.not (Zt 76),some (73,false),0⟩,Zo 13 78 (.pick (Zt 73) (.val (.bool true)) (Zt 77))] (.cond (Zt 78) (Zq [Zo 0 4 (.mov (.val (.bool false)))] .ret) .skip)) (.seq (Zq [Zo 0 79 (.fieldA 1 (Zt 2)),Zl 1 80 79,Zo 2 81 (.len (Zt 80)),Zo 3 82 (.mov (Zn 0))] (.block 2 (.loop [1,5,7,10,81,82] (Zq [Zo 0 83 (.bin .lss (Zt 82) (Zt 81))] (.seq (.cond (Zt 83) .skip (.exit 2)) (.seq (.block 3 (Zq [Zm 0 84 82,Zm 1 11 84] (Zq [Zm 0 85 5,Zm 1 86 11,Zo 2 87 (.bin .shr (Zt 85) (Zt 86)),Zo 3 88 (.bin .and (Zt 87) (Zn 1)),Zo 4 89 (.bin .eql (Zt 88) (Zn 1)),Zm 5 90 89,⟨6,some 91,.mov (Zt 10),some (90,true),0⟩,⟨7,some 92,.mov (Zt 5),some (90,true),0⟩,⟨8,some 93,.mov (Zt 11),some (90,true),0⟩,⟨9,some 94,.bin .shl (Zn 1) (Zt 93),some (90,true),0⟩,⟨10,some 95,.bin .andNot (Zt 92) (Zt 94),some (90,true),0⟩,⟨11,some 96,.call (Zt 91) [Zt 95],some (90,true),0⟩,Zo 12 97 (.pick (Zt 90) (Zt 96) (.val (.bool false)))] (.cond (Zt 97) (Zq [Zo 0 4 (.mov (.val (.bool false)))] .ret) .skip)))) (.ops [Zo 0 98 (.bin .add (Zt 82) (Zn 1)),Zm 1 82 98]))))))) (Zq [Zm 0 99 1,Zo 1 100 (.conv .i64 (Zt 99)),Zm 2 101 7,Zo 3 102 (.bin .and (Zt 100) (Zt 101)),Zm 4 12 102,Zo 5 13 (.mov (.val (.fn (Fn.func 36) [] [])))] (Zq [Zm 0 103 10,Zm 1 104 12,Zo 2 105 (.call (Zt 103) [Zt 104]),Zo 3 106 (.not (Zt 105)),Zm 4 107 106,⟨5,some 108,.mov (Zt 13),some (107,false),0⟩,⟨6,some 109,.mov (Zt 12),some (107,false),0⟩,⟨7,some 110,.call (Zt 108) [Zt 109],some (107,false),0⟩,⟨8,some 111,.mov (Zt 13),some (107,false),0⟩,⟨9,some 112,.mov (Zt 5),some (107,false),0⟩,⟨10,some 113,.call (Zt 111) [Zt 112],some (107,false),0⟩,⟨11,some 114,.bin .gtr (Zt 110) (Zt 113),some (107,false),0⟩,Zo 12 115 (.pick (Zt 107) (.val (.bool true)) (Zt 114)),Zm 13 116 115,⟨14,some 117,.mov (Zt 13),some (116,false),0⟩,⟨15,some 118,.mov (Zt 12),some (116,false),0⟩,⟨16,some 119,.call (Zt 117) [Zt 118],some (116,false),0⟩,⟨17,some 120,.mov (Zt 13),some (116,false),0⟩,⟨18,some 121,.mov (Zt 5),some (116,false),0⟩,⟨19,some 122,.call (Zt 120) [Zt 121],some (116,false),0⟩,⟨20,some 123,.bin .eql (Zt 119) (Zt 122),some (116,false),0⟩,⟨21,some 124,.mov (Zt 123),some (116,false),0⟩,⟨22,some 125,.mov (Zt 12),some (124,true),0⟩,⟨23,some 126,.mov (Zt 5),some (124,true),0⟩,⟨24,some 127,.bin .geq (Zt 125) (Zt 126),some (124,true),0⟩,⟨25,some 128,.pick (Zt 124) (Zt 127) (.val (.bool false)),some (116,false),0⟩,Zo 26 129 (.pick (Zt 116) (.val (.bool true)) (Zt 128)),Zm 27 130 129,⟨28,some 131,Zc 21 [],some (130,true),0⟩,Zo 29 132 (.pick (Zt 130) (Zt 131) (.val (.bool false))),Zm 30 4 132] .ret)))))))))))⟩
end Ev
end Go.Proofs.Ytlcjlcllbgjplaa

/- RoadClash, gone through. -/
namespace Go.Proofs.Ytlcjlcllbgjplaa
open Go
namespace Ev
namespace Ro
open K
attribute [local simp] ev1 wantG spineK spine float xnew xval xeff zaa zat zbc zaw zav addFl cellsOf pickC alive slLen slFt binI maxA maxK minA minK aeqK aeqS AV.cells spA zau fillA setAt bitsI nat_nn zbd AV.plain apart
set_option maxRecDepth 100000
set_option maxHeartbeats 4000000
theorem zsz (C:Cfg)(hC:C.calm=true)(call:CallF)(hA:LApi call)(hZ:RsizeC call)(r:Rd.Road)(hK:Rd.Fine r→ClosC call r)(w:Int)(hw0:0≤w∧w≤255)(H:List AB):
  Does (ev C call H.length none af9.body { tm:=tmA af9.ntmps (zipI 0 [.agg (roadCs r),.int .u8 w] []),df:=[],hp:=H,tc:=[] })
   (Ends C H.length af9.res fun v _ _=>v=.bool true):=by
 have hl:=fun H=>hA.long (H:=H) r
 have ha:=fun H=>hA.alive (H:=H)
 by_cases hlen:max r.parts.length r.events.length > 40
 ·rw[decide_eq_true hlen] at hl
  clear hA hlen hK hw0
  unfold af9 Zq Zm Zl Zo Zs Zc Zt Zn Zi
  simp only[zipI,roadCs] at *
  (repeat (first|(with_reducible apply zad;(focus ((conv=>lhs;simp[*,Nat.testBit_eq_decide_div_mod_eq])<;>exact rfl));simp only[addFl])|((with_reducible first|apply zai|apply zak|apply zah|apply zaf|apply zac|apply zaj|apply zag|apply zal|(apply zae;· simp[*,zaa])|(apply zab;· simp[*,zaa]));try simp only[Then,Ops])|simp only[Nat.reduceEqDiff,reduceIte,OutB,Then]))
  exact zao (v:=.bool true) (.inl rfl) rfl (by simp) (by simp only[resL,resOf,zam];simp[*,resV]) rfl
 rw[decide_eq_false hlen] at hl
 have hro:=fun H=>zvh H r (by omega) (by omega)
 have hv:=fun H=>hA.valid (hro H)
 cases hval:Rd.valid r with
 |false=>
  rw[hval] at hv
  clear hA hlen hro hval hK hw0
  unfold af9 Zq Zm Zl Zo Zs Zc Zt Zn Zi
  simp only[zipI,roadCs] at *
  (repeat (first|(with_reducible apply zad;(focus ((conv=>lhs;simp[*,Nat.testBit_eq_decide_div_mod_eq])<;>exact rfl));simp only[addFl])|((with_reducible first|apply zai|apply zak|apply zah|apply zaf|apply zac|apply zaj|apply zag|apply zal|(apply zae;· simp[*,zaa])|(apply zab;· simp[*,zaa]));try simp only[Then,Ops])|simp only[Nat.reduceEqDiff,reduceIte,OutB,Then]))
  exact zao (v:=.bool true) (.inl rfl) rfl (by simp) (by simp only[resL,resOf,zam];simp[*,resV]) rfl
 |true=>
 rw[hval] at hv
 have hf:=(Rd.valid_iff r).1 hval
 have he:=hf.events
 have hk:=hK hf
 have hcla:=fun H=>hA.clash (hro H)
 obtain ⟨W,rfl⟩:∃ n:Nat,w=n:=⟨w.toNat,by omega⟩
 have hw:IntKind.i64.wrap (W:Int)=W:=zas (by omega) (by omega)
 obtain ⟨E,V,hEV⟩:∃ E V:Int,clashRV r=.tup [.int .i64 V,.int .i64 E]:=by
  unfold clashRV
  split
  ·exact ⟨_,_,rfl⟩
  ·split<;>exact ⟨_,_,rfl⟩
 rw[hEV] at hcla
 have HX:=hideP (And.intro hk (And.intro hf (And.intro hEV (And.intro hZ (And.intro hval (And.intro he hw0))))))
 clear hA hlen hro hval hK hw0 hEV hZ hk hf
 unfold af9 Zq Zm Zl Zo Zs Zc Zt Zn Zi
 simp only[zipI,roadCs] at *
 (repeat (first|(with_reducible apply zad;(focus ((conv=>lhs;simp[*,Nat.testBit_eq_decide_div_mod_eq])<;>exact rfl));simp only[addFl])|((with_reducible first|apply zai|apply zak|apply zah|apply zaf|apply zac|apply zaj|apply zag|apply zal|(apply zae;· simp[*,zaa])|(apply zab;· simp[*,zaa]));try simp only[Then,Ops])|simp only[Nat.reduceEqDiff,reduceIte,OutB,Then]))
 with_reducible refine zaz hC r.events.length (by unfold fuelL;omega) (fun i st=>∃ J,st={ tm:=tmA 133 [(30,.int .i64 i),(29,.int .i64 r.events.length),(28,.vs 7 (r.events.map evE)),(7,.int .i64 ((Clm.setOf (fun i=>decide ((r.events.getD i default).kind=2)) i:Nat):Int)),(6,.int .i64 E),(5,.int .i64 V),(2,.ptr H.length 0),(1,.int .u8 W)],df:=[],hp:=H++.cells [.vs 7 (r.parts.map ptE),.vs 7 (r.events.map evE)]::J,tc:=[] }) ?_ ?_ ?_
 ·refine ⟨[],?_⟩
  simp only[Clm.setOf]
  (refine st_is ?_ ?_ ?_ ?_;(focus (simp[zan,zap]));(focus rfl);(focus (first|rfl|(simp;done)|(simp[*];done)|(simp;rfl)|(simp[*];omega)|(simp;omega)));(focus (first|rfl|simp)))
 ·rintro i st hi ⟨J,rfl⟩
  have hgv:r.events[i]?=some r.events[i]:=List.getElem?_eq_getElem hi
  have hgd:r.events.getD i default=r.events[i]:=by rw[List.getD_eq_getElem?_getD,hgv];rfl
  have hAl:=Clm.setOf_lt (fun i=>decide ((r.events.getD i default).kind=2)) i
  have hp2:2 ^ i≤2 ^ 10:=Nat.pow_le_pow_right (by decide) (by omega)
  have n1:Clm.setOf (fun i=>decide ((r.events.getD i default).kind=2)) (i+1)=if decide (r.events[i].kind=2)=true then Clm.setOf (fun i=>decide ((r.events.getD i default).kind=2)) i ||| 2 ^ i else Clm.setOf (fun i=>decide ((r.events.getD i default).kind=2)) i:=by
   have e:=Nat.two_pow_add_eq_or_of_lt hAl 1
   rw[Nat.mul_one] at e
   rw[← hgd,Nat.or_comm,← e,Nat.add_comm (2 ^ i)]
   rfl
  rw[n1]
  clear n1 hgd
  generalize r.events[i]=v at hgv ⊢
  have hgv':=ge_of hgv
  have hwi:IntKind.i64.wrap (↑i+1)=↑i+1:=zas (by omega) (by omega)
  obtain ⟨s1,s2,s3⟩:=zgl (d:=i) (by omega)
  have o1:=or_i64 (a:=Clm.setOf (fun i=>decide ((r.events.getD i default).kind=2)) i) (b:=2 ^ i) (by omega) (by omega)
  generalize Clm.setOf (fun i=>decide ((r.events.getD i default).kind=2)) i=A at *
  generalize 2 ^ i=P at s1 s2 s3 o1 ⊢
  simp at o1
  clear hl hv hcla ha hAl hp2
  by_cases q1:v.kind=2
  ·simp only[q1,decide_true,if_true]
   (repeat (first|(with_reducible apply zad;(focus ((conv=>lhs;simp[*,evE,Nat.testBit_eq_decide_div_mod_eq])<;>exact rfl));simp only[addFl])|((with_reducible first|apply zai|apply zak|apply zah|apply zaf|apply zac|apply zaj|apply zag|apply zal|(apply zae;· simp[*,zaa])|(apply zab;· simp[*,zaa]));try simp only[Then,Ops,OutB])|simp only[Nat.reduceEqDiff,reduceIte,OutB,Then]))
   refine ⟨?_,?_⟩
   rotate_left
   (refine st_is ?_ ?_ ?_ ?_;(focus (simp[zan,zap]));(focus rfl);(focus (first|rfl|(simp;done)|(simp[*];done)|(simp;rfl)|(simp[*];omega)|(simp;omega)));(focus (first|rfl|simp)))
  ·simp only[q1,decide_false,Bool.false_eq_true,if_false]
   have hb:=beq_false_of_ne q1
   (repeat (first|(with_reducible apply zad;(focus ((conv=>lhs;simp[*,evE,Nat.testBit_eq_decide_div_mod_eq])<;>exact rfl));simp only[addFl])|((with_reducible first|apply zai|apply zak|apply zah|apply zaf|apply zac|apply zaj|apply zag|apply zal|(apply zae;· simp[*,zaa])|(apply zab;· simp[*,zaa]));try simp only[Then,Ops,OutB])|simp only[Nat.reduceEqDiff,reduceIte,OutB,Then]))
   refine ⟨?_,?_⟩
   rotate_left
   (refine st_is ?_ ?_ ?_ ?_;(focus (simp[zan,zap]));(focus rfl);(focus (first|rfl|(simp;done)|(simp[*];done)|(simp;rfl)|(simp[*];omega)|(simp;omega)));(focus (first|rfl|simp)))
 ·rintro st ⟨J,rfl⟩
  have hcn:Clm.setOf (fun i=>decide ((r.events.getD i default).kind=2)) r.events.length=Rd.looksR r:=rfl
  rw[hcn]
  obtain ⟨hk,hf,hEV,hZ,hval,_,hw0⟩:=HX.out
  have hk':=fun T s (hs:s<1024)=>hk (H++.cells [.vs 7 (r.parts.map ptE),.vs 7 (r.events.map evE)]::T) H.length s hs (by simp[roadCs])
  have hcA:=Rd.looks_can r
  have hAl:Rd.looksR r<2 ^ r.events.length:=Clm.setOf_lt _ _
  have hp2:2 ^ r.events.length≤2 ^ 10:=Nat.pow_le_pow_right (by decide) he
  unfold clashRV at hEV
  rw[if_neg (by rw[hval];decide)] at hEV
  cases hcan:Rd.canR r (Rd.everyR r) with
  |true=>
   rw[hcan] at hcA
   rw[if_pos hcan] at hEV
   simp only[AV.tup.injEq,List.cons.injEq,AV.int.injEq,true_and,and_true] at hEV
   obtain ⟨rfl,rfl⟩:=hEV
   have hk1:=fun T=>hk' T (Rd.looksR r) (by omega)
   rw[hcA] at hk1
   clear hk hk' hf hZ hval hcn hcA hAl hp2 hcan HX hl hv hcla hw0
   generalize Rd.looksR r=A at *
   (repeat (first|(with_reducible apply zad;(focus ((conv=>lhs;simp[*,Nat.testBit_eq_decide_div_mod_eq])<;>exact rfl));simp only[addFl])|((with_reducible first|apply zai|apply zak|apply zah|apply zaf|apply zac|apply zaj|apply zag|apply zal|(apply zae;· simp[*,zaa])|(apply zab;· simp[*,zaa]));try simp only[Then,Ops,OutB,reduceIte])|simp only[Nat.reduceEqDiff,reduceIte,OutB,Then]))
   exact zao (v:=.bool true) (.inl rfl) rfl (by simp) (by simp only[resL,resOf,zam];simp[*,resV]) rfl
  |false=>
   rw[hcan] at hcA
   rw[if_neg (by rw[hcan];decide)] at hEV
   obtain ⟨S,hS,l0,l1,l2,l3,l4,l5⟩:=Rd.clash_law hf hcan
   rw[hS] at hEV
   simp only[AV.tup.injEq,List.cons.injEq,AV.int.injEq,true_and,and_true,Option.getD_some,Option.isSome_some,if_true] at hEV
   obtain ⟨rfl,rfl⟩:=hEV
   have hk1:=fun T=>hk' T (Rd.looksR r) (by omega)
   rw[hcA] at hk1
   have hk2:=fun T=>hk' T S l0
   rw[l3] at hk2
   have an:=zjc (a:=S) (b:=Rd.looksR r) (by omega) (by omega)
   rw[l2] at an
   have o3:=zyl (a:=W) (b:=Rd.looksR r) (by omega) (by omega)
   have oc:=l5 W
   have hol:W&&&Rd.looksR r≤Rd.looksR r:=Nat.and_le_right
   generalize W&&&Rd.looksR r=o at *
   have hz1:=fun H=>hZ H S (by omega)
   have hz2:=fun H=>hZ H o (by omega)
   have hol2:o<1024:=by omega
   have HY:=hideP (And.intro l4 (And.intro oc (And.intro hk' (And.intro hz1 (And.intro hz2 (And.intro l0 hol2))))))
   have hS1:¬ (S:Int)<1:=by omega
   clear hk hk' hf hZ hval hcn hcA hAl hp2 hcan HX hl hv hcla hS l0 l1 l2 l3 l4 l5 oc hz1 hz2 hol hol2 hw0
   generalize Rd.looksR r=A at *
   simp at o3 an
   (repeat (first|(with_reducible apply zad;(focus ((conv=>lhs;simp[*,Nat.testBit_eq_decide_div_mod_eq])<;>exact rfl));simp only[addFl])|((with_reducible first|apply zai|apply zak|apply zah|apply zaf|apply zac|apply zaj|apply zag|apply zal|(apply zae;· simp[*,zaa])|(apply zab;· simp[*,zaa]));try simp only[Then,Ops,OutB,reduceIte])|simp only[Nat.reduceEqDiff,reduceIte,OutB,Then]))
   with_reducible refine zaz hC r.events.length (by unfold fuelL;omega) (fun i st=>st={ tm:=tmA 133 [(82,.int .i64 i),(81,.int .i64 r.events.length),(10,.fn (.func 35) [] [.ptr H.length 0]),(7,.int .i64 A),(5,.int .i64 S),(1,.int .u8 W)],df:=[],hp:=H++.cells [.vs 7 (r.parts.map ptE),.vs 7 (r.events.map evE)]::J,tc:=[] }) ?_ ?_ ?_
   ·(refine st_is ?_ ?_ ?_ ?_;(focus (simp[zan,zap]));(focus rfl);(focus (first|rfl|(simp;done)|(simp[*];done)|(simp;rfl)|(simp[*];omega)|(simp;omega)));(focus (first|rfl|simp)))
   ·rintro i st hi rfl
    obtain ⟨l4,oc,hk',hz1,hz2,hS64,hol⟩:=HY.out
    have hwi:IntKind.i64.wrap (↑i+1)=↑i+1:=zas (by omega) (by omega)
    have hbit:=zud (n:=S) (d:=i) (by omega) (by omega)
    obtain ⟨s1,s2,s3⟩:=zgl (d:=i) (by omega)
    cases hb:S.testBit i with
    |true=>
     have hp2:2 ^ i≤2 ^ 10:=Nat.pow_le_pow_right (by decide) (by omega)
     have han:=zjc (a:=S) (b:=2 ^ i) (by omega) (by omega)
     have hk3:=fun T=>hk' T (andn S (2 ^ i)) (by have:=zly S (2 ^ i);omega)
     rw[l4 i hi hb] at hk3
     rw[hb] at hbit
     generalize andn S (2 ^ i)=R at *
     generalize 2 ^ i=P at s1 s2 s3 han
     simp at hbit han
     clear l4 oc hk' hz1 hz2 hS64 hk1 hk2 an o3 ha hb HY hp2 hol
     (repeat (first|(with_reducible apply zad;(focus ((conv=>lhs;simp[*,Nat.testBit_eq_decide_div_mod_eq])<;>exact rfl));simp only[addFl])|((with_reducible first|apply zai|apply zak|apply zah|apply zaf|apply zac|apply zaj|apply zag|apply zal|(apply zae;· simp[*,zaa])|(apply zab;· simp[*,zaa]));try simp only[Then,Ops,OutB])|simp only[Nat.reduceEqDiff,reduceIte,OutB,Then]))
     (refine st_is ?_ ?_ ?_ ?_;(focus (simp[zan,zap]));(focus rfl);(focus (first|rfl|(simp;done)|(simp[*];done)|(simp;rfl)|(simp[*];omega)|(simp;omega)));(focus (first|rfl|simp)))
    |false=>
     rw[hb] at hbit
     simp at hbit
     clear l4 oc hk' hz1 hz2 hS64 hk1 hk2 an o3 ha hb HY s1 s2 s3 hol
     (repeat (first|(with_reducible apply zad;(focus ((conv=>lhs;simp[*,Nat.testBit_eq_decide_div_mod_eq])<;>exact rfl));simp only[addFl])|((with_reducible first|apply zai|apply zak|apply zah|apply zaf|apply zac|apply zaj|apply zag|apply zal|(apply zae;· simp[*,zaa])|(apply zab;· simp[*,zaa]));try simp only[Then,Ops,OutB])|simp only[Nat.reduceEqDiff,reduceIte,OutB,Then]))
     (refine st_is ?_ ?_ ?_ ?_;(focus (simp[zan,zap]));(focus rfl);(focus (first|rfl|(simp;done)|(simp[*];done)|(simp;rfl)|(simp[*];omega)|(simp;omega)));(focus (first|rfl|simp)))
   ·rintro st rfl
    obtain ⟨l4,oc,hk',hz1,hz2,hS64,hol⟩:=HY.out
    have hk3:=fun T=>hk' T o hol
    clear l4 hk' hS64 hk1 hk2 an HY hol
    cases hco:Rd.canR r o with
    |true=>
     rw[hco] at hk3
     clear oc hz1 hz2
     (repeat (first|(with_reducible apply zad;(focus ((conv=>lhs;simp[*,Nat.testBit_eq_decide_div_mod_eq])<;>exact rfl));simp only[addFl])|((with_reducible first|apply zai|apply zak|apply zah|apply zaf|apply zac|apply zaj|apply zag|apply zal|(apply zae;· simp[*,zaa])|(apply zab;· simp[*,zaa]));try simp only[Then,Ops,OutB,reduceIte])|simp only[Nat.reduceEqDiff,reduceIte,OutB,Then]))
     exact zao (v:=.bool true) (.inl rfl) rfl (by simp) (by simp only[resL,resOf,zam];simp[*,resV]) rfl
    |false=>
     rw[hco] at hk3
     rcases oc hco with g1|⟨g1,g2⟩
     ·clear oc
      (repeat (first|(with_reducible apply zad;(focus ((conv=>lhs;simp[*,Nat.testBit_eq_decide_div_mod_eq])<;>exact rfl));simp only[addFl])|((with_reducible first|apply zai|apply zak|apply zah|apply zaf|apply zac|apply zaj|apply zag|apply zal|(apply zae;· simp[*,zaa])|(apply zab;· simp[*,zaa]));try simp only[Then,Ops,OutB,reduceIte])|simp only[Nat.reduceEqDiff,reduceIte,OutB,Then]))
      exact zao (v:=.bool true) (.inl rfl) rfl (by simp) (by simp only[resL,resOf,zam];simp[*,resV]) rfl
     ·clear oc
      (repeat (first|(with_reducible apply zad;(focus ((conv=>lhs;simp[*,Nat.testBit_eq_decide_div_mod_eq])<;>exact rfl));simp only[addFl])|((with_reducible first|apply zai|apply zak|apply zah|apply zaf|apply zac|apply zaj|apply zag|apply zal|(apply zae;· simp[*,zaa])|(apply zab;· simp[*,zaa]));try simp only[Then,Ops,OutB,reduceIte])|simp only[Nat.reduceEqDiff,reduceIte,OutB,Then]))
      exact zao (v:=.bool true) (.inl rfl) rfl (by simp) (by simp only[resL,resOf,zam];simp[*,resV]) rfl
end Ro
end Ev
end Go.Proofs.Ytlcjlcllbgjplaa

/- The code of functions of the laws is that of the program. Printed by program. -/
namespace Go.Proofs.Ytlcjlcllbgjplaa
open Go Go.Proofs
namespace Ev
set_option maxRecDepth 1000000
theorem is9 : ∃ F, Try.prog.funcs[9]? = some F ∧ (F.name == "runtime.NumGoroutine")=false∧compFn Try.prog F=some af9.strip:=⟨_,Try.func9,by kernel_rfl,by kernel_rfl⟩
end Ev
end Go.Proofs.Ytlcjlcllbgjplaa

/- The code of functions of the laws is that of the program. Printed by program. -/
namespace Go.Proofs.Ytlcjlcllbgjplaa
open Go Go.Proofs
namespace Ev
set_option maxRecDepth 1000000
theorem is35 : ∃ F, Try.prog.funcs[35]? = some F ∧ (F.name == "runtime.NumGoroutine")=false∧compFn Try.prog F=some af35.strip:=⟨_,Try.func35,by kernel_rfl,by kernel_rfl⟩
end Ev
end Go.Proofs.Ytlcjlcllbgjplaa

/- The functions that the law RoadClash goes through itself. Printed by program. -/
namespace Go.Proofs.Ytlcjlcllbgjplaa
open Go Go.Proofs
namespace Ev
def treeRoadClash:FT:=(.node 35 af35 (.node 22 af22 (.node 9 af9 .leaf .leaf) .leaf) (.node 36 af36 .leaf .leaf))
theorem zfv : FT.All (fun k af => ∃ F, Try.prog.funcs[k]? = some F ∧ (F.name == "runtime.NumGoroutine")=false∧compFn Try.prog F=some af.strip) treeRoadClash:=
 ⟨is35,⟨is22,⟨is9,trivial,trivial⟩,trivial⟩,⟨is36,trivial,trivial⟩⟩
end Ev
end Go.Proofs.Ytlcjlcllbgjplaa

/- The Go function RoadClash returns true, for every argument, in every world in which it is called; nothing that was there is turned. No condition. -/
namespace Go.Proofs.Ytlcjlcllbgjplaa
open Go Go.Proofs Go.ChangeShapes Go.WideShapes Go.ChangeAt Go.RowKit
namespace Ev
namespace Ro
open K
theorem lawRoadClash (W:World)(r:Rd.Road){v0:Value}(hv0:VR W (fun _=>False) nomu (.agg (roadCs r)) v0)(x1:Int)(b1:(Lit.int .u8 x1).wf=true){v1:Value}(hv1:VR W (fun _=>False) nomu (.int .u8 x1) v1):CallsIn Fence.wide 0 Try.prog 9 #[v0,v1] W fun e W'=>e=.returned (.bool true)∧Below W.heap.size W W':=by
 have hz:∀ {f:Nat} {af:AFunc},(cfgL treeRoadClash).exth f=none→FT.find treeRoadClash f=some af→Has (cfgL treeRoadClash) f af:=fun h1 h2=>has_of rfl h1 h2 rfl
 have la:=fun n=>lapi (t:=treeRoadClash) (hz rfl (by kernel_rfl)) n
 have k:Has (cfgL treeRoadClash) 9 af9:=hz rfl (by kernel_rfl)
 obtain ⟨v,hp,tc,H',h1,h2,_⟩:=zbr (C:=cfgL treeRoadClash) (n:=4) (first:=[]) (captured:=[]) (args:=[.agg (roadCs r),.int .u8 x1]) (H:=[]) (Q:=fun v _ _=>v=.bool true) rfl k.ext k.exth k.fns k.whole (le' rfl) (zsz (cfgL treeRoadClash) rfl _ (la 3) (fun H s hs=>zay rfl (hz rfl (by kernel_rfl)) (le' rfl) rfl (zrn (cfgL treeRoadClash) rfl _ s hs H)) r (fun hf H b s hs hb=>zay (first:=[]) (captured:=[.ptr b 0]) rfl (hz rfl (by kernel_rfl)) (le' rfl) rfl (zwk (cfgL treeRoadClash) rfl _ (la 2) r hf H b s hs hb)) x1 (zua b1) [])
 subst h2
 refine (zjf (tblL zfv) h1 trivial (zbi _ _ _) (rargs:=#[v0,v1]) ⟨rfl,fun i y r hy hr=>?_⟩).mono ?_
 ·match i,hy,hr with
  |0,hy,hr=>cases hy;cases hr;exact hv0
  |1,hy,hr=>cases hy;cases hr;exact hv1
  |i+2,hy,hr=>simp at hy
 ·rintro e W' ⟨⟨w,rfl,hw⟩,bel⟩
  exact ⟨by rw[zyh hw W],bel⟩
end Ro
end Ev
set_option maxRecDepth 100000 in
theorem zfx (os:Os)(started:os.Started)(H:Type)(enc:TypeId × Value→H):
  ReturnsInHanded {} Try.checked os 9 .any (Rows.roadClashSpec.pre6 enc Try.prog Try.f9 Rows.roadClashRow.domain false) (Rows.roadClashSpec.post enc Try.prog Try.f9 false true false false):=by
 refine returnsInHanded_of_change (C:=Try.checked) zlc started (by kernel_rfl) Try.func9
  (ChangeSpec.witness6 (enc:=enc) (C:=Try.checked) false ⟨#[],#[noRoad,.int .u8 0],[]⟩ 8 (by kernel_rfl) (by kernel_rfl) (by kernel_rfl) (by kernel_rfl)) ?_
 intro W base args ds gs before hval0 hW hcnd _
 have hval:∀ (j:Nat) t v,Try.f9.params[j]?=some t→args[j]?=some v→Value.okWide Try.prog W .any base t v:=hval0
 have hW':=hW
 obtain ⟨p,q,hA0,hV,rfl,hfz,hnd⟩:=hW
 have hA:DataW.TrodAll enc Try.prog W 0 (fun _=>true) true Try.f9.params.toList args.toList ds p:=hA0
 rw[Try.params9] at hA hval
 obtain ⟨v0,vs0,d0,ds0,p0,q0,hargs0,rfl,rfl,h0,hA1⟩:=trodAll_cons hA
 obtain ⟨v1,vs1,d1,ds1,p1,q1,rfl,rfl,rfl,h1,hA2⟩:=trodAll_cons hA1
 obtain ⟨rfl,rfl,rfl⟩:=trodAll_nil hA2
 obtain rfl:args=#[v0,v1]:=Array.ext' hargs0
 obtain ⟨rfl,rfl,rfl⟩:=trodVars_none hV
 clear hA0 hval0
 obtain ⟨r,hx0⟩:=zsb (hval 0 25 v0 rfl rfl) h0
 obtain ⟨x1,rfl,rfl,rfl,wf1⟩:=open_int Try.underlying5 (hval 1 5 v1 rfl rfl) h1
 simp only[List.append_nil] at hW'
 have hlt:∀ x∈(p0++([]++[])),x.block<W.heap.size:=fun x hx=>by simpa using hW'.lt x (by simpa using hx)
 refine (callsIn_wide.1 (Ev.Ro.lawRoadClash W r hx0 x1 wf1 .int)).mono fun e W' ⟨he,bel⟩=>?_
 subst he
 refine ⟨_,rfl,_,_,_,[],(p0++([]++[])),[],by simpa using hW',?_,?_,?_,bel.frame _,fun h=>by cases h⟩
 ·exact trodAll_mk1 (shut_bool Try.underlying4 true)
 ·exact trodAll_cons_mk (Below.trod laidOut' (by kernel_rfl) (of_decide_eq_true (by kernel_rfl)) h0 bel (fun x hx=>hlt x (by simp[hx]))) (trodAll_cons_mk (shut_int Try.underlying5 wf1) (trodAll_mk0))
 ·exact rfl
theorem roadClash_holds:Rows.RoadClashSaid:=
 OpenClaim.holds_of_wide 9 Try.f9 rfl rfl rfl rfl rfl rfl rfl ⟨rfl,rfl,rfl,rfl,rfl⟩ rfl rfl rfl rfl rfl (by kernel_rfl) Try.func9 (by kernel_rfl)
  (of_decide_eq_true (by kernel_rfl)) (by unfold Func.isWrapper;first|(rw[if_pos (by decide +kernel)];kernel_rfl)|(rw[if_neg (by decide +kernel)];exact ⟨rfl,rfl⟩))
  (fun os started H enc _=>zfx os started H enc)
#print axioms roadClash_holds
end Go.Proofs.Ytlcjlcllbgjplaa
