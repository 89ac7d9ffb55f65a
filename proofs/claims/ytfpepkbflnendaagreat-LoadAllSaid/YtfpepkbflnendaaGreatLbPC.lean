/- Package road, gone through: does a road bear a load in some truth? -/
import Derived.Test.YtfpepkbflnendaaGreatLbPB
/- Package road, gone through: all loads that there can be, yielded. -/
namespace Go.Proofs.YtfpepkbflnendaaGreat
open Go
namespace Ev
namespace Ro
open K
attribute [local simp] ev1 wantG spineK spine float xnew xval xeff zab zae zau zah zai addFl cellsOf pickC alive slLen slFt binI maxA maxK minA minK aeqK aeqS AV.cells spA zad fillA setAt bitsI nat_nn zav AV.plain apart
set_option maxRecDepth 100000
set_option maxHeartbeats 4000000
def ldA (ls:List Int):AV:=.agg (arr10 (fnOf ls))
def tailL (r:Rd.Road)(f:Nat→Int)(n:Nat):List (List Int):=(Rd.allR (r.events.drop n)).map (lsOf n f++·)
theorem zul (n:Nat)(f:Nat→Int):lsOf (n+1) f=lsOf n f++[f n]:=by simp[lsOf,List.range_succ]
theorem znn (n:Nat)(f:Nat→Int)(k:Int):lsOf (n+1) (upd f n k)=lsOf n f++[k]:=by
 rw[zul]
 congr 1
 ·unfold lsOf
  refine List.map_congr_left fun i hi=>?_
  have:=List.mem_range.1 hi
  exact if_neg (by omega)
 ·simp[upd]
theorem zum {n:Nat}{f g:Nat→Int}(h:∀ i,i<n→f i=g i):lsOf n f=lsOf n g:=by
 unfold lsOf
 exact List.map_congr_left fun i hi=>h i (List.mem_range.1 hi)
theorem zos {r:Rd.Road}{n:Nat}{f g:Nat→Int}(h:∀ i,i<n→f i=g i):tailL r f n=tailL r g n:=by
 unfold tailL;rw[zum h]
theorem zgl (r:Rd.Road)(f:Nat→Int):tailL r f r.events.length=[lsOf r.events.length f]:=by
 unfold tailL
 rw[List.drop_eq_nil_of_le (Nat.le_refl _)]
 simp[Rd.allR]
theorem zor (r:Rd.Road)(f:Nat→Int):tailL r f 0=Rd.allR r.events:=by
 unfold tailL
 simp[lsOf]
theorem zge {r:Rd.Road}(f:Nat→Int){n:Nat}{v:Rd.Evt}(hv:r.events[n]?=some v)(hk:v.kind≠0):tailL r f n=tailL r (upd f n 0) (n+1):=by
 have hn:=(List.getElem?_eq_some_iff.1 hv).1
 have he:=(List.getElem?_eq_some_iff.1 hv).2
 unfold tailL
 rw[List.drop_eq_getElem_cons hn,he,Rd.allR,if_neg hk,List.map_map,znn]
 refine List.map_congr_left fun l _=>?_
 simp
theorem zsc {r:Rd.Road}(f:Nat→Int){n:Nat}{v:Rd.Evt}(hv:r.events[n]?=some v)(hk:v.kind=0):tailL r f n=(Clm.spanL v.load).flatMap fun k=>tailL r (upd f n k) (n+1):=by
 have hn:=(List.getElem?_eq_some_iff.1 hv).1
 have he:=(List.getElem?_eq_some_iff.1 hv).2
 unfold tailL
 rw[List.drop_eq_getElem_cons hn,he,Rd.allR,if_pos hk,List.map_flatMap]
 congr 1
 funext k
 rw[List.map_map,znn]
 refine List.map_congr_left fun l _=>?_
 simp
structure AllS (r:Rd.Road) (xb bX bY bA bF l base:Nat) (J:List (List Int)→List Nat→List AB→Prop) (d:List (List Int)) (W:List Nat) (hp:List AB) (f:Nat→Int):Prop where
 x:hp[bX]?=some (.cells [.ptr xb 0])
 y:hp[bY]?=some (.cells [.yield l])
 a:hp[bA]?=some (.cells (arr10 f))
 fn:hp[bF]?=some (.cells [.fn (.func 173) [] [.ptr bX 0,.ptr bY 0,.ptr bA 0,.ptr bF 0]])
 j:J d W hp
 w:∀ j∈W,base≤j
 z:∀ i,r.events.length≤i→f i=0
structure AllX (r:Rd.Road) (call:CallF) (xb mb eb bX bY bA bF l n0 base:Nat) (T:List Nat) (J:List (List Int)→List Nat→List AB→Prop) (E:List (List Int)→List AB→Prop) (M:List (List Int)→Nat→Prop):Prop where
 ys:Yields call l n0 T ldA (Rd.allR r.events) [] (Rx r xb mb eb) J E M
 hJ:∀ d W G,J d W G→Rx r xb mb eb G
 hT:∀ j∈T,j<n0
 hlT:l∈T
 xl:bX<n0
 xT:bX∉T
 e1:bY=n0
 e2:bA=n0+1
 e3:bF=n0+2
 e4:base=n0+3
 xx:bX≠xb∧bX≠mb∧bX≠eb
 xm:xb<n0∧mb<n0∧eb<n0
def OnQ (r:Rd.Road)(xb bX bY bA bF l n0 base:Nat)(T:List Nat)(J:List (List Int)→List Nat→List AB→Prop)(E:List (List Int)→List AB→Prop)(M:List (List Int)→Nat→Prop)(n:Nat)(d:List (List Int))(W:List Nat)(hp:List AB)(f:Nat→Int)(b:Bool)(hp':List AB)(tc:List Nat):Prop:=
 (∀ j∈tc,j=bA∨j∈T∨j∈W)∧(b=true→∃ W' f',AllS r xb bX bY bA bF l base J (d++tailL r f n) W' hp' f'∧(∀ i,i<n→f' i=f i)∧(∀ j∈W',j∈W∨hp.length≤j)∧(tailL r f n=[]∨l∈tc)∧∀ j,j<n0→M (d++tailL r f n) j→M d j∨j∈tc)∧(b=false→(∃ d',d' <+: Rd.allR r.events∧E d' hp'∧∀ j,j<n0→M d' j→M d j∨j∈tc)∧l∈tc)
def OnC (r:Rd.Road)(call:CallF)(xb bX bY bA bF l n0 base:Nat)(T:List Nat)(J:List (List Int)→List Nat→List AB→Prop)(E:List (List Int)→List AB→Prop)(M:List (List Int)→Nat→Prop)(n:Nat):Prop:=
 ∀ (d:List (List Int)) (W:List Nat) (hp:List AB) (f:Nat→Int),AllS r xb bX bY bA bF l base J d W hp f→d++tailL r f n <+: Rd.allR r.events →
  ∃ b hp' tc,call (.fn (.func 173) [] [.ptr bX 0,.ptr bY 0,.ptr bA 0,.ptr bF 0]) [.int .i64 n] hp=some (.ret (.bool b),hp',tc)∧Kp tc hp hp'∧OnQ r xb bX bY bA bF l n0 base T J E M n d W hp f b hp' tc
theorem AllS.len {r:Rd.Road}{call:CallF}{xb mb eb bX bY bA bF l n0 base:Nat}{T:List Nat}{J:List (List Int)→List Nat→List AB→Prop}{E:List (List Int)→List AB→Prop}{M:List (List Int)→Nat→Prop}(c:AllX r call xb mb eb bX bY bA bF l n0 base T J E M){d:List (List Int)}{W:List Nat}{hp:List AB}{f:Nat→Int}(h:AllS r xb bX bY bA bF l base J d W hp f):base≤hp.length:=by
 have:=get_lt h.fn
 have:=c.e3
 have:=c.e4
 omega
theorem AllS.set {r:Rd.Road}{call:CallF}{xb mb eb bX bY bA bF l n0 base:Nat}{T:List Nat}{J:List (List Int)→List Nat→List AB→Prop}{E:List (List Int)→List AB→Prop}{M:List (List Int)→Nat→Prop}(c:AllX r call xb mb eb bX bY bA bF l n0 base T J E M){d:List (List Int)}{W:List Nat}{hp:List AB}{f:Nat→Int}(h:AllS r xb bX bY bA bF l base J d W hp f){n:Nat}(hn:n<r.events.length)(k:Int):AllS r xb bX bY bA bF l base J d W (hp.set bA (.cells (arr10 (upd f n k)))) (upd f n k):=by
 obtain ⟨x,y,a,fn,j,w,z⟩:=h
 have h1:=c.e1;have h2:=c.e2;have h3:=c.e3;have h4:=c.e4;have h5:=c.xl;have h6:=c.xm
 have ne:∀ {q:Nat} {v:AB},q≠bA→hp[q]?=some v→(hp.set bA (.cells (arr10 (upd f n k))))[q]?=some v:=fun hq hv=>by rw[List.getElem?_set_ne (by omega)];exact hv
 refine ⟨ne (by omega) x,ne (by omega) y,by rw[List.getElem?_set_self (get_lt a)],ne (by omega) fn,?_,w,fun i hi=>by rw[upd,if_neg (by omega)];exact z i hi⟩
 refine c.ys.stable _ _ _ _ j (fun q _ hq _=>?_) ((c.hJ _ _ _ j).same fun q hq=>?_)
 ·rw[List.getElem?_set_ne]
  rcases hq with hq|hq
  ·omega
  ·have:=w q hq;omega
 ·rw[List.getElem?_set_ne]
  rcases hq with rfl|rfl|rfl<;>omega
theorem zzv (C:Cfg)(hC:C.calm=true)(call:CallF)(r:Rd.Road)(hr:Rd.Fine r)(xb mb eb bX bY bA bF l n0 base:Nat)(T:List Nat)(J:List (List Int)→List Nat→List AB→Prop)(E:List (List Int)→List AB→Prop)(M:List (List Int)→Nat→Prop)(n:Nat)
  (c:AllX r call xb mb eb bX bY bA bF l n0 base T J E M∨n<r.events.length∧∃ call',AllX r call' xb mb eb bX bY bA bF l n0 base T J E M) (hn:n≤r.events.length) (hO:n<r.events.length→OnC r call xb bX bY bA bF l n0 base T J E M (n+1)) (d:List (List Int)) (W:List Nat) (hp:List AB) (f:Nat→Int) (hA:AllS r xb bX bY bA bF l base J d W hp f) (hpre:d++tailL r f n <+: Rd.allR r.events):
  Wb C call hp af173 [.int .i64 n,.ptr bX 0,.ptr bY 0,.ptr bA 0,.ptr bF 0]
   (fun v hp' tc=>∃ b,v=.bool b∧OnQ r xb bX bY bA bF l n0 base T J E M n d W hp f b hp' tc):=by
 obtain ⟨x0,x1,x2,x3,x4,x5⟩:=bk' hA.x
 obtain ⟨y0,y1,y2,y3,y4,y5⟩:=bk' hA.y
 obtain ⟨a0,a1,a2,a3,a4,a5⟩:=bk' hA.a
 obtain ⟨f0,f1,f2,f3,f4,f5⟩:=bk' hA.fn
 have he10:=hr.events
 have hXx:hp[xb]?=some (.cells (roadCs r++[evL r eb,.map mb])):=by
  rcases c with c|⟨_,_,c⟩<;>exact (c.hJ _ _ _ hA.j).x
 obtain ⟨u0,u1,u2,u3,u4,u5⟩:=bk' hXx
 simp only[roadCs,List.cons_append,List.nil_append] at u1 u2 u4 u5
 by_cases hend:n=r.events.length
 ·subst hend
  have c:=c.resolve_right fun h=>by omega
  rw[zgl] at hpre
  have hls:ldA (lsOf r.events.length f)=.agg (arr10 f):=by
   unfold ldA
   rw[zwh fun i _=>?_]
   show (lsOf r.events.length f).getD i 0=f i
   rw[zey]
   split
   ·rfl
   ·exact (hA.z i (by omega)).symm
  obtain ⟨b,hp',tc',W',s1,s9,s2,s3,s6,s4,s5,s10⟩:=c.ys.step d _ W hp hpre hA.j
  rw[hls] at s1
  have hall:=zbs f
  have hl:=zbg f
  have lT:l<hp.length:=by have:=c.hT _ c.hlT;have:=hA.len c;have:=c.e4;omega
  have hm:∀ j,j<n0→M (d++[lsOf r.events.length f]) j→M d j∨j∈List.filter (fun x=>decide (x<hp.length)) tc':=fun j h1 h2=>(s10 j h1 h2).imp id fun h=>List.mem_filter.2 ⟨h,by have:=hA.len c;have:=c.e4;simp;omega⟩
  have HQ:=hideP (And.intro s2 (And.intro s3 (And.intro s6 (And.intro s4 (And.intro s5 (And.intro hA hm))))))
  have hlen:hp.length≤hp'.length:=s3.len
  clear s2 s3 s6 s4 s5 s10 hm hO hXx hA
  unfold Wb Wa af173 Zq Zu Zm Zl Zo Zs Za Zb Zf Zg Zj Zt Zn Zy Zw
  simp only[zipI]
  generalize hR:arr10 f=R at *
  refine gA ?_
  obtain ⟨s2,s3,s6,s4,s5,hA,hm⟩:=HQ.out
  have hlq:l∈List.filter (fun x=>decide (x<hp.length)) tc'++[]:=by rw[List.append_nil];exact List.mem_filter.2 ⟨s9,by simpa using lT⟩
  refine zac (v:=.bool b) (.inl rfl) rfl hlen (by simp only[resL,resOf,zaa];simp[*,resV]) ⟨b,rfl,fun j hj=>?_,fun hb=>⟨W',f,?_,fun _ _=>rfl,s6,.inr ?_,by rw[zgl];exact hm⟩,fun hb=>⟨⟨_,hpre,(s5 hb).1,hm⟩,?_⟩⟩
  ·change j∈List.filter (fun x=>decide (x<hp.length)) tc' at hj
   rcases List.mem_append.1 (s2 j (List.mem_filter.1 hj).1) with h|h
   ·exact .inr (.inl h)
   ·exact .inr (.inr h)
  ·have h1:=c.e1;have h2:=c.e2;have h3:=c.e3;have h4:=c.e4;have h5:=c.xl
   have nt:∀ {q},(∀ j∈T,q≠j)→q<base→q∉tc':=fun hq hb ht=>by
    rcases List.mem_append.1 (s2 _ ht) with h|h
    ·exact hq _ h rfl
    ·have:=hA.w _ h;omega
   have tl:∀ j∈T,j<n0:=c.hT
   refine ⟨s3.at hA.x (nt (fun j hj e=>c.xT (e ▸ hj)) (by omega)),s3.at hA.y (nt (fun j hj=>by have:=tl j hj;omega) (by omega)),s3.at (by rw[← hR] at *;exact hA.a) (nt (fun j hj=>by have:=tl j hj;omega) (by omega)),s3.at hA.fn (nt (fun j hj=>by have:=tl j hj;omega) (by omega)),?_,fun j hj=>?_,hA.z⟩
   ·rw[zgl];exact s4 hb
   ·rcases s6 j hj with h|h
    ·exact hA.w j h
    ·have:=hA.len c;omega
  ·simpa using hlq
  ·simpa using hlq
 ·have hlt:n<r.events.length:=by omega
  obtain ⟨call',c⟩:∃ call',AllX r call' xb mb eb bX bY bA bF l n0 base T J E M:=by
   rcases c with c|⟨_,c',c⟩
   ·exact ⟨_,c⟩
   ·exact ⟨_,c⟩
  have hO:=hO hlt
  have hv:r.events[n]?=some r.events[n]:=List.getElem?_eq_getElem hlt
  have hk:=hr.event _ (List.getElem_mem hlt)
  generalize r.events[n]=v at hv hk
  have hv':=ge_of hv
  have hnn:¬ ((n:Int)=r.events.length):=by omega
  have hnb:((n:Int)==r.events.length)=false:=by simpa using hnn
  have hn1:(n:Int)<r.events.length:=by omega
  have hn10:(n:Int)<10:=by omega
  have hn10':n<10:=by omega
  have hn9:n≤9:=by omega
  have hwn:IntKind.i64.wrap (↑n+1)=↑n+1:=zaf (by omega) (by omega)
  have hl:=zbg f
  obtain ⟨h9,h10,h11,h12,h13⟩:n0≤bY∧bY<bA∧bA<bF∧bF<base∧bX<n0:=by have h9:=c.e1;have h10:=c.e2;have h11:=c.e3;have h12:=c.e4;have h13:=c.xl;omega
  by_cases hkz:v.kind=0
  ·have hkb:(v.kind != 0)=false:=by simpa using hkz
   have hk0:v.load.hi - v.load.lo≤2∧0≤v.load.lo∧v.load.lo≤v.load.hi∧v.load.hi≤60:=by rcases hk with h|h|h<;>omega
   have hns:=Clm.span_len v.load
   have gs:=fun i (h:i<(Clm.spanL v.load).length)=>(List.getElem?_eq_getElem h).trans (congrArg some (Clm.span_get v.load h))
   obtain ⟨g,hg⟩:∃ g:Int→List (List Int),g=fun k=>tailL r (upd f n k) (n+1):=⟨_,rfl⟩
   have htl:tailL r f n=(Clm.spanL v.load).flatMap g:=by rw[hg];exact zsc f hv hkz
   have lT:l<hp.length:=by have:=c.hT _ c.hlT;have:=hA.len c;omega
   obtain ⟨Inv,hInv⟩:∃ Inv:Nat→List AB→List Nat→Prop,∀ i hp1 tc,Inv i hp1 tc↔(∃ W' f',AllS r xb bX bY bA bF l base J (d++((Clm.spanL v.load).take i).flatMap g) W' hp1 f'∧(∀ q,q<n→f' q=f q)∧(∀ j∈W',j∈W∨hp.length≤j)∧(∀ j∈tc,j=bA∨j∈T∨j∈W)∧(((Clm.spanL v.load).take i).flatMap g=[]∨l∈tc)∧hp.length≤hp1.length∧∀ j,j<n0→M (d++((Clm.spanL v.load).take i).flatMap g) j→M d j∨j∈tc):=⟨fun i hp1 tc=>_,fun i hp1 tc=>Iff.rfl⟩
   have hI0:Inv 0 hp []:=(hInv _ _ _).2 ⟨W,f,by simpa using hA,fun _ _=>rfl,fun j hj=>.inl hj,by simp,.inl rfl,Nat.le_refl _,fun j _ h=>.inl (by simpa using h)⟩
   have hfacts:∀ i hp1 tc,Inv i hp1 tc→Bk hp1 bX (.cells [.ptr xb 0])∧Bk hp1 xb (.cells [.vs 7 (r.parts.map ptE),.vs 7 (r.events.map evE),evL r eb,.map mb])∧bA<hp1.length:=by
    intro i hp1 tc h
    obtain ⟨W',f',k1,_⟩:=(hInv _ _ _).1 h
    exact ⟨bk' k1.x,bk' (c.hJ _ _ _ k1.j).x,get_lt k1.a⟩
   have hstep:∀ i hp1 tc,i<(Clm.spanL v.load).length→Inv i hp1 tc→∃ f' b hp' tc',Bk hp1 bA (.cells (arr10 f'))∧∃ G:List AB,G=hp1.set bA (.cells (List.take n (arr10 f')++.int .i64 (v.load.lo+i)::List.drop (n+1) (arr10 f')))∧Bk G bF (.cells [.fn (.func 173) [] [.ptr bX 0,.ptr bY 0,.ptr bA 0,.ptr bF 0]])∧call (.fn (.func 173) [] [.ptr bX 0,.ptr bY 0,.ptr bA 0,.ptr bF 0]) [.int .i64 (n+1)] G=some (.ret (.bool b),hp',tc')∧hp.length≤hp'.length∧(b=true→∀ tc1,(∀ j,j∈tc1↔(j∈tc'∧j<hp.length)∨j=bA∨j∈tc)→Inv (i+1) hp' tc1)∧(b=false→∀ tc1,(∀ j,j∈tc1↔(j∈tc'∧j<hp.length)∨j=bA∨j∈tc)→OnQ r xb bX bY bA bF l n0 base T J E M n d W hp f false hp' tc1):=by
    intro i hp1 tc hi h
    obtain ⟨W',f',k1,k2,k3,k4,k5,k6,k7⟩:=(hInv _ _ _).1 h
    have hbl:=hA.len c
    have hS:=k1.set c hlt (v.load.lo+i)
    have hcg:tailL r (upd f' n (v.load.lo+i)) (n+1)=g (v.load.lo+i):=by
     rw[hg]
     refine zos fun q hq=>?_
     unfold upd
     split
     ·rfl
     ·exact k2 q (by omega)
    have hpx:(d++((Clm.spanL v.load).take i).flatMap g)++tailL r (upd f' n (v.load.lo+i)) (n+1) <+: Rd.allR r.events:=by
     rw[hcg,List.append_assoc]
     refine List.IsPrefix.trans ((List.prefix_append_right_inj d).2 ?_) hpre
     rw[htl]
     exact Clm.pre_flat g (gs i hi) (List.prefix_refl _)
    obtain ⟨b,hp',tc',c1,c2,c3,c4,c5⟩:=hO _ W' _ _ hS hpx
    rw[← zle f' hn10' (v.load.lo+i)] at c1
    rw[show ((n+1:Nat):Int)=(n:Int)+1 by omega] at c1
    have hl':=c2.len
    rw[List.length_set] at hl'
    have tcs:∀ tc1:List Nat,(∀ j,j∈tc1↔(j∈tc'∧j<hp.length)∨j=bA∨j∈tc)→∀ j∈tc1,j=bA∨j∈T∨j∈W:=by
     intro tc1 ht j hj
     rcases (ht j).1 hj with ⟨h1,h2⟩|h1|h1
     ·rcases c3 j h1 with h|h|h
      ·exact .inl h
      ·exact .inr (.inl h)
      ·rcases k3 j h with h|h
       ·exact .inr (.inr h)
       ·omega
     ·exact .inl h1
     ·exact k4 j h1
    refine ⟨f',b,hp',tc',bk' k1.a,_,rfl,bk' (by rw[List.getElem?_set_ne (by omega)];exact k1.fn),c1,by omega,fun hb tc1 ht=>?_,fun hb tc1 ht=>?_⟩
    ·obtain ⟨W2,f2,q1,q2,q3,q4,q5⟩:=c4 hb
     refine (hInv _ _ _).2 ⟨W2,f2,?_,fun q hq=>?_,fun j hj=>?_,tcs tc1 ht,?_,by omega,fun j h1 h2=>?_⟩
     ·rw[Clm.flat_succ g (gs i hi),← hcg,← List.append_assoc];exact q1
     ·rw[q2 q (by omega),upd,if_neg (by omega)];exact k2 q hq
     ·rcases q3 j hj with h|h
      ·exact k3 j h
      ·rw[List.length_set] at h;exact .inr (by omega)
     ·rw[Clm.flat_succ g (gs i hi),← hcg]
      rcases k5 with k5|k5
      ·rcases q4 with q4|q4
       ·exact .inl (by rw[k5,q4];rfl)
       ·exact .inr ((ht _).2 (.inl ⟨q4,lT⟩))
      ·exact .inr ((ht _).2 (.inr (.inr k5)))
     ·rw[Clm.flat_succ g (gs i hi),← hcg,← List.append_assoc] at h2
      rcases q5 j h1 h2 with h|h
      ·exact (k7 j h1 h).imp id fun h=>(ht _).2 (.inr (.inr h))
      ·exact .inr ((ht _).2 (.inl ⟨h,by omega⟩))
    ·exact And.intro (tcs tc1 ht) (And.intro (fun h=>by cases h) (fun _=>⟨⟨(c5 hb).1.choose,(c5 hb).1.choose_spec.1,(c5 hb).1.choose_spec.2.1,fun j h1 h2=>((c5 hb).1.choose_spec.2.2 j h1 h2).elim (fun h=>(k7 j h1 h).imp id fun h=>(ht _).2 (.inr (.inr h))) fun h=>.inr ((ht _).2 (.inl ⟨h,by omega⟩))⟩,(ht _).2 (.inl ⟨(c5 hb).2,lT⟩)⟩))
   have HI:=hideP (And.intro hInv (And.intro htl hA))
   have HF:=hideP hfacts
   have HS:=hideP hstep
   clear hfacts hstep hInv htl hO hXx hpre hA hr
   unfold Wb Wa af173 Zq Zu Zm Zl Zo Zs Za Zb Zf Zg Zj Zt Zn Zy Zw
   simp only[zipI]
   refine gF ?_
   have w0:∀ i:Nat,IntKind.i64.wrap (v.load.lo+(i:Int)+1)=v.load.lo+(i:Int)+1∨100≤i:=fun i=>by
    by_cases h:i<100
    ·exact .inl (zaf (by omega) (by omega))
    ·exact .inr (by omega)
   with_reducible refine zan hC (Clm.spanL v.load).length (by unfold fuelL;omega) (fun i st=>∃ hp1 tc,Inv i hp1 tc∧st={ tm:=tmA 67 [(7,.int .i64 (v.load.lo+i)),(4,.ptr bF 0),(3,.ptr bA 0),(1,.ptr bX 0),(0,.int .i64 n)],df:=[],hp:=hp1,tc:=tc }) ?_ ?_ ?_
   ·refine ⟨_,_,hI0,?_⟩
    exact invP
   ·clear hI0 x0 x1 x2 x3 x4 x5 y0 y1 y2 y3 y4 y5 a1 a2 a4 a5 f0 f1 f2 f3 f4 f5 u0 u1 u2 u3 u4 u5
    rintro i st hi ⟨hp1,tc,hV,rfl⟩
    obtain ⟨⟨x0,x1,x2,x3,x4,x5⟩,⟨u0,u1,u2,u3,u4,u5⟩,a7⟩:=HF.out _ _ _ hV
    obtain ⟨f',b,hp',tc',⟨a0,a1,a2,a3,a4,a5⟩,G,hG,⟨g0,g1,g2,g3,g4,g5⟩,c1,hlen,c2,c3⟩:=HS.out _ _ _ hi hV
    have HG:=hideP hG
    have HC:=hideP (And.intro c2 (And.intro c3 hlen))
    have e1:v.load.lo+(i:Int)≤v.load.hi:=by omega
    have hw:=(w0 i).resolve_right (by omega)
    have hl':=zbg f'
    generalize arr10 f'=R at *
    clear c2 c3 hG hV w0 hlen
    cases b with
    |true=>
     (repeat (first|(with_reducible apply zak;(focus ((conv=>lhs;simp[*,evE,← HG.out,Nat.testBit_eq_decide_div_mod_eq])<;>exact rfl));simp only[addFl])|((with_reducible first|apply zaw|apply zay|apply zas|apply zaq|apply zao|apply zax|apply zar|apply zaz|(apply zap;· simp[*,zab])|(apply zam;· simp[*,zab]));try simp only[Then,Ops,OutB])|simp only[Nat.reduceEqDiff,reduceIte,OutB,Then]))
     have hn:=HC.out.1 rfl (List.filter (fun x=>decide (x<hp.length)) tc'++bA::tc) fun j=>by simp
     with_reducible refine ⟨_,_,hn,?_⟩
     refine st_is ?_ rfl rfl rfl
     simp[zag,zal,Int.add_assoc]
    |false=>
     (repeat (first|(with_reducible apply zak;(focus ((conv=>lhs;simp[*,evE,← HG.out,Nat.testBit_eq_decide_div_mod_eq])<;>exact rfl));simp only[addFl])|((with_reducible first|apply zaw|apply zay|apply zas|apply zaq|apply zao|apply zax|apply zar|apply zaz|(apply zap;· simp[*,zab])|(apply zam;· simp[*,zab]));try simp only[Then,Ops,OutB])|simp only[Nat.reduceEqDiff,reduceIte,OutB,Then]))
     have hn:=HC.out.2.1 rfl (List.filter (fun x=>decide (x<hp.length)) tc'++bA::tc) fun j=>by simp
     exact zac (v:=.bool false) (.inl rfl) rfl HC.out.2.2 endvP ⟨false,rfl,hn⟩
   ·clear hI0 x0 x1 x2 x3 x4 x5 y0 y1 y2 y3 y4 y5 a1 a2 a4 a5 f0 f1 f2 f3 f4 f5 u0 u1 u2 u3 u4 u5
    rintro st ⟨hp1,tc,hV,rfl⟩
    obtain ⟨⟨x0,x1,x2,x3,x4,x5⟩,⟨u0,u1,u2,u3,u4,u5⟩,a7⟩:=HF.out _ _ _ hV
    have e1:¬ (v.load.lo+((Clm.spanL v.load).length:Int)≤v.load.hi):=by omega
    clear hns w0
    have HV:=hideP hV
    clear hV
    refine gF ?_
    obtain ⟨hInv,htl,hA⟩:=HI.out
    obtain ⟨W',f',k1,k2,k3,k4,k5,k6,k7⟩:=(hInv _ _ _).1 HV.out
    rw[List.take_length,← htl] at k1 k5 k7
    exact zac (v:=.bool true) (.inl rfl) rfl k6 endvP ⟨true,rfl,And.intro k4 (And.intro (fun _=>⟨W',f',k1,k2,k3,k5,k7⟩) (fun h=>by cases h))⟩
  ·have hkb:(v.kind != 0)=true:=by simpa using hkz
   have hS:=hA.set c hlt 0
   rw[zge f hv hkz] at hpre
   obtain ⟨b,hp',tc',c1,c2,c3,c4,c5⟩:=hO d W _ _ hS hpre
   have hset:=zle f hn10' 0
   rw[← hset] at c1
   rw[show ((n+1:Nat):Int)=(n:Int)+1 by omega] at c1
   have hlen:hp.length≤hp'.length:=by have:=c2.len;simpa using this
   have HQ:=hideP (And.intro c2 (And.intro c3 (And.intro c4 (And.intro c5 hA))))
   obtain ⟨G,hG⟩:∃ G,G=hp.set bA (.cells (List.take n (arr10 f)++.int .i64 0::List.drop (n+1) (arr10 f))):=⟨_,rfl⟩
   have HG:=hideP hG
   have hgf:G[bF]?=some (.cells [.fn (.func 173) [] [.ptr bX 0,.ptr bY 0,.ptr bA 0,.ptr bF 0]]):=by
    rw[hG,List.getElem?_set_ne (by have:=c.e2;have:=c.e3;omega)];exact f1
   obtain ⟨g0,g1,g2,g3,g4,g5⟩:=bk' hgf
   rw[← hG] at c1
   have hback:∀ X,X=hp.set bA (.cells (List.take n (arr10 f)++.int .i64 0::List.drop (n+1) (arr10 f)))→X=G:=fun X h=>h.trans hG.symm
   clear c2 c3 c4 c5 hO hXx hS hset hA hpre hG hgf hr hk
   unfold Wb Wa af173 Zq Zu Zm Zl Zo Zs Za Zb Zf Zg Zj Zt Zn Zy Zw
   generalize hR:arr10 f=R at *
   simp only[zipI]
   (repeat (first|(with_reducible apply zak;(focus ((conv=>lhs;simp[*,evE,← HG.out,Nat.testBit_eq_decide_div_mod_eq])<;>exact rfl));simp only[addFl])|((with_reducible first|apply zaw|apply zay|apply zas|apply zaq|apply zao|apply zax|apply zar|apply zaz|(apply zap;· simp[*,zab])|(apply zam;· simp[*,zab]));try simp only[Then,Ops])|simp only[Nat.reduceEqDiff,reduceIte,OutB,Then]))
   obtain ⟨c2,c3,c4,c5,hA⟩:=HQ.out
   have lT:l<hp.length:=by have:=c.hT _ c.hlT;have:=hA.len c;have:=c.e4;omega
   refine zac (v:=.bool b) (.inl rfl) rfl hlen (by simp only[resL,resOf,zaa];simp[*,resV]) ⟨b,rfl,fun j hj=>?_,fun hb=>?_,fun hb=>⟨⟨(c5 hb).1.choose,(c5 hb).1.choose_spec.1,(c5 hb).1.choose_spec.2.1,fun j h1 h2=>((c5 hb).1.choose_spec.2.2 j h1 h2).imp id fun h=>List.mem_append_left _ (List.mem_filter.2 ⟨h,by have:=hA.len c;simp;omega⟩)⟩,?_⟩⟩
   ·rcases List.mem_append.1 hj with h|h
    ·exact c3 j (List.mem_filter.1 h).1
    ·exact .inl (by simpa using h)
   ·obtain ⟨W',f',k1,k2,k3,k4,k5⟩:=c4 hb
    refine ⟨W',f',by rw[zge f hv hkz];exact k1,fun i hi=>?_,fun j hj=>?_,?_,fun j h1 h2=>?_⟩
    ·rw[k2 i (by omega),upd,if_neg (by omega)]
    ·simpa using k3 j hj
    ·rw[zge f hv hkz]
     exact k4.imp id fun h=>List.mem_append_left _ (List.mem_filter.2 ⟨h,by simpa using lT⟩)
    ·rw[zge f hv hkz] at h2
     exact (k5 j h1 h2).imp id fun h=>List.mem_append_left _ (List.mem_filter.2 ⟨h,by have:=hA.len c;simp;omega⟩)
   ·exact List.mem_append_left _ (List.mem_filter.2 ⟨(c5 hb).2,by simpa using lT⟩)
theorem zzw {C:Cfg}(hC:C.calm=true)(hwh:∀ f,C.whole f=true){r:Rd.Road}(hr:Rd.Fine r)(h0:Has C 173 af173){xb mb eb bX bY bA bF l n0 base:Nat}{T:List Nat}{J:List (List Int)→List Nat→List AB→Prop}{E:List (List Int)→List AB→Prop}{M:List (List Int)→Nat→Prop}{m:Nat}
  (c:AllX r (Ev.call C m) xb mb eb bX bY bA bF l n0 base T J E M):∀ (k n:Nat),n+k=r.events.length→OnC r (Ev.call C (m+k+1)) xb bX bY bA bF l n0 base T J E M n:=by
 have main:∀ (k n:Nat),n≤r.events.length→(n=r.events.length→k=0)→(n<r.events.length→OnC r (Ev.call C (m+k)) xb bX bY bA bF l n0 base T J E M (n+1))→OnC r (Ev.call C (m+k+1)) xb bX bY bA bF l n0 base T J E M n:=by
  intro k n hn hz hO d W hp f hA hpre
  have hcx:AllX r (Ev.call C (m+k)) xb mb eb bX bY bA bF l n0 base T J E M∨n<r.events.length∧∃ call',AllX r call' xb mb eb bX bY bA bF l n0 base T J E M:=by
   by_cases h:n=r.events.length
   ·rw[hz h];exact .inl c
   ·exact .inr ⟨by omega,_,c⟩
  obtain ⟨v,hp1,tc,H',c1,⟨b,rfl,q1,q2,q3⟩,c3,c4,c5,c6⟩:=zcw (first:=[]) (captured:=[.ptr bX 0,.ptr bY 0,.ptr bA 0,.ptr bF 0]) (args:=[.int .i64 n]) (n:=m+k) hC hwh h0 (Nat.le_of_ble_eq_true rfl)
   (zzv C hC _ r hr xb mb eb bX bY bA bF l n0 base T J E M n hcx hn hO d W hp f hA hpre)
  refine ⟨b,H',tc,c1,c4,?_⟩
  by_cases ht:tc=[]
  ·have hH:H'=hp:=c6 rfl ht
   subst hH
   refine And.intro q1 (And.intro (fun hb=>?_) (fun hb=>?_))
   ·obtain ⟨W',f',_,_,_,k4,_⟩:=q2 hb
    have k4:tailL r f n=[]:=k4.resolve_right (by rw[ht];simp)
    exact ⟨W,f,by rw[k4,List.append_nil];exact hA,fun _ _=>rfl,fun j hj=>.inl hj,.inl k4,fun j _ h=>.inl (by rwa [k4,List.append_nil] at h)⟩
   ·have:=(q3 hb).2;rw[ht] at this;cases this
  ·have hH:H'=hp1:=c5 (.inr ht)
   subst hH
   exact And.intro q1 (And.intro q2 q3)
 intro k
 induction k with
 |zero=>exact fun n hn=>main 0 n (by omega) (fun _=>rfl) fun h=>by omega
 |succ k ih=>exact fun n hn=>main (k+1) n (by omega) (fun h=>by omega) fun _=>ih (n+1) (by omega)
def AlPre (xb mb eb bX:Nat)(H:List AB)(T:List Nat):Prop:=H[bX]?=some (.cells [.ptr xb 0])∧bX∉T∧bX≠xb∧bX≠mb∧bX≠eb
theorem zwn (C:Cfg)(call:CallF)(r:Rd.Road)(xb mb eb bX l:Nat)(H:List AB)(T:List Nat)(J:List (List Int)→List Nat→List AB→Prop)(E:List (List Int)→List AB→Prop)(M:List (List Int)→Nat→Prop)
  (hT:∀ j∈T,j<H.length) (hlT:l∈T) (hx:H[bX]?=some (.cells [.ptr xb 0]))
  (call':CallF) (c:AllX r call' xb mb eb bX H.length (H.length+1) (H.length+2) l H.length (H.length+3) T J E M) (hJ0:J [] [] H) (hM:∀ j,¬ M [] j) (hO:OnC r call xb bX H.length (H.length+1) (H.length+2) l H.length (H.length+3) T J E M 0):
  Wb C call H af172 [.yield l,.ptr bX 0]
   ((ItPost H l [] T J E M (Rd.allR r.events))):=by
 obtain ⟨G,hG⟩:∃ G:List AB,G=H++[.cells [.yield l],.cells (arr10 fun _=>0),.cells [.fn (.func 173) [] [.ptr bX 0,.ptr H.length 0,.ptr (H.length+1) 0,.ptr (H.length+2) 0]]]:=⟨_,rfl⟩
 have hS:AllS r xb bX H.length (H.length+1) (H.length+2) l (H.length+3) J [] [] G (fun _=>0):=by
  refine ⟨by rw[hG,List.getElem?_append_left (get_lt hx)];exact hx,by rw[hG];simp,by rw[hG];simp,by rw[hG];simp,?_,by simp,fun _ _=>rfl⟩
  refine c.ys.stable _ _ _ _ hJ0 (fun j hj _ _=>by rw[hG,List.getElem?_append_left hj]) ?_
  rw[hG];exact (c.hJ _ _ _ hJ0).app _
 have ht0:tailL r (fun _=>0) 0=Rd.allR r.events:=zor r _
 obtain ⟨b,hp',tc',c1,c2,c3,c4,c5⟩:=hO [] [] G _ hS (by rw[ht0];exact List.prefix_refl _)
 rw[ht0] at c4
 have hk:Kp (tc'.filter (·<H.length)) H hp':=by
  refine ⟨?_,fun b hb ht=>?_⟩
  ·have:=c2.len;rw[hG] at this;simp at this;omega
  ·rw[c2.get b (by rw[hG];simp;omega) fun h=>ht (List.mem_filter.2 ⟨h,by simpa using hb⟩),hG,List.getElem?_append_left hb]
 have hpost:ItPost H l [] T J E M (Rd.allR r.events) (.tup []) hp' (tc'.filter (·<H.length)):=by
  refine ⟨rfl,fun j hj=>?_,hk,?_⟩
  ·obtain ⟨h1,h2⟩:=List.mem_filter.1 hj
   have h2:j<H.length:=by simpa using h2
   rcases c3 j h1 with h|h|h
   ·omega
   ·exact h
   ·cases h
  ·cases b with
   |true=>
    obtain ⟨W',f',k1,_,k3,k4,k5⟩:=c4 rfl
    refine .inl ⟨W',fun j hj=>?_,by simpa using k1.j,k4.imp id fun h=>List.mem_filter.2 ⟨h,by simpa using hT l hlT⟩,fun j h1 h2=>List.mem_filter.2 ⟨(k5 j h1 (by simpa using h2)).resolve_left (hM j),by simpa using h1⟩⟩
    have:=k1.w j hj
    omega
   |false=>
    obtain ⟨⟨d',h1,h2,h4⟩,h3⟩:=c5 rfl
    exact .inr ⟨d',h1,h2,List.mem_filter.2 ⟨h3,by simpa using hT l hlT⟩,fun j g1 g2=>List.mem_filter.2 ⟨(h4 j g1 g2).resolve_left (hM j),by simpa using g1⟩⟩
 have hlen:H.length≤hp'.length:=hk.len
 have HP:=hideP hpost
 have c1':call (.fn (.func 173) [] [.ptr bX 0,.ptr H.length 0,.ptr (H.length+1) 0,.ptr (H.length+2) 0]) [.int .i64 0] G=some (.ret (.bool b),hp',tc'):=c1
 rw[hG] at c1'
 simp only[arr10] at c1'
 clear hpost c1 c2 c3 c4 c5 hS hG hO c hx hJ0 hk
 unfold Wb Wa af172 Zq Zl Zo Zs Zt Zn Zi
 simp only[zipI]
 refine gA ?_
 exact zac (.inr rfl) rfl hlen (by simp only[resL];rfl) HP.out
def AllI (C:Cfg)(m k:Nat)(r:Rd.Road):Prop:=∀ xb mb eb bX,IterG C m k 172 [] [.ptr bX 0] ldA (Rd.allR r.events) [] (Rx r xb mb eb) (AlPre xb mb eb bX)
theorem zyz {C:Cfg}(hC:C.calm=true)(hwh:∀ f,C.whole f=true){r:Rd.Road}(hr:Rd.Fine r)(h0:Has C 173 af173)(h1:Has C 172 af172)(m:Nat):AllI C m (m+r.events.length+2) r:=by
 intro xb mb eb bX
 refine zez (n:=m+r.events.length+1) hC h1.ext h1.exth h1.fns h1.whole (Nat.le_of_ble_eq_true rfl) ?_
 intro H l T J E M ⟨p1,p2,p3,p4,p5⟩ h2 h3 h4 h5 h7 h6
 have hx:=h5 _ _ _ h4
 have c:AllX r (Ev.call C m) xb mb eb bX H.length (H.length+1) (H.length+2) l H.length (H.length+3) T J E M:=⟨h6,h5,h2,h3,get_lt p1,p2,rfl,rfl,rfl,rfl,⟨p3,p4,p5⟩,⟨hx.xl,hx.ml,hx.el⟩⟩
 exact zwn C _ r xb mb eb bX l H T J E M h2 h3 p1 _ c h4 h7 (zzw hC hwh hr h0 c r.events.length 0 (by omega))
def WaysC (call:CallF)(r:Rd.Road):Prop:=∀ (H:List AB) (xb mb eb:Nat),Rx r xb mb eb H→∀ n,n<r.parts.length→∀ f,LdOk f→∀ looks:Nat,
 ∃ v H' tc,call (.fn (.func 139) [] []) [.ptr xb 0,.int .i64 n,.agg (arr10 f),.int .u64 looks] H=some (.ret v,H',tc)∧(∀ j∈tc,j=mb)∧Kp tc H H'∧Rx r xb mb eb H'∧WaysV r n f looks H.length v H'
def AllC (call:CallF):Prop:=∀ (H:List AB) (xb:Nat),call (.fn (.func 159) [] []) [.ptr xb 0] H=some (.ret (.fn (.func 172) [] [.ptr H.length 0]),H++[.cells [.ptr xb 0]],[])
theorem zzc (C:Cfg)(call:CallF)(H:List AB)(xb:Nat):Wb C call H af159 [.ptr xb 0]
  (fun w hp tc=>w=.fn (.func 172) [] [.ptr H.length 0]∧hp=H++[.cells [.ptr xb 0]]∧tc=[]):=by
 unfold Wb Wa af159 Zq Zm Zo Zt
 simp only[zipI]
 refine gA ?_
 exact zac (.inl rfl) rfl (by simp) (by simp only[resL,resOf,zaa];simp[*,resV]) ⟨rfl,rfl,rfl⟩
def okL (r:Rd.Road)(looks:Nat)(ls:List Int):Bool:=(List.range r.parts.length).all fun i=>!(Rd.waysR r i ls looks).isEmpty
theorem ziq (r:Rd.Road)(looks:Nat):Rd.toldR r looks=(Rd.allR r.events).filter (okL r looks):=rfl
theorem zhx {α:Type}(p:α→Bool){d L:List α}(h:d <+: L):d.filter p <+: L.filter p:=h.filter p
theorem all_ld {r:Rd.Road}(hr:Rd.Fine r){ls:List Int}(h:ls∈Rd.allR r.events):LdOk (fnOf ls)∧lsOf r.events.length (fnOf ls)=ls:=by
 refine ⟨fun i=>?_,yaa (Rd.mem_allR _ _ h).1⟩
 unfold fnOf
 rw[List.getD_eq_getElem?_getD]
 cases hi:ls[i]? with
 |none=>simp
 |some x=>exact Rd.load_nn hr h x (List.mem_of_getElem? hi)
def TdPre (xb mb eb bX bL looks:Nat)(H:List AB)(T:List Nat):Prop:=H[bX]?=some (.cells [.ptr xb 0])∧H[bL]?=some (.cells [.int .u64 looks])∧bX∉T∧bL∉T∧bX≠mb∧bL≠mb∧xb∉T∧eb∉T∧mb<H.length
theorem zrx (C:Cfg)(hC:C.calm=true)(hwh:∀ f,C.whole f=true)(n m:Nat)(r:Rd.Road)(hr:Rd.Fine r)(hAl:AllC (Ev.call C m))(hI:AllI C (n+1) m r)(hW:WaysC (Ev.call C n) r)(H:List AB)(xb mb eb bX bL looks l:Nat)(T:List Nat)(J:List (List Int)→List Nat→List AB→Prop)(E:List (List Int)→List AB→Prop)(M:List (List Int)→Nat→Prop)
  (hp:TdPre xb mb eb bX bL looks H T) (hT:∀ j∈T,j<H.length) (hlT:l∈T) (hJ0:J [] [] H) (hJY:∀ d W G,J d W G→Rx r xb mb eb G) (hM:∀ j,¬ M [] j) (hY:Yields (Ev.call C n) l H.length T ldA (Rd.toldR r looks) [mb] (Rx r xb mb eb) J E M):
  Wb C (Ev.call C m) H af158 [.yield l,.ptr bX 0,.ptr bL 0]
   ((ItPost2 H l [mb] T J E M (Rd.toldR r looks))):=by
 obtain ⟨hx,hL,px,pL,qx,qL,pxb,peb,pm⟩:=hp
 have hXX:=hJY _ _ _ hJ0
 have hxl:=hXX.xl
 have hel:=hXX.el
 obtain ⟨x0,x1,x2,x3,x4,x5⟩:=bk' hx
 unfold AllC at hAl
 have l0:=get_lt hx
 have l1:=get_lt hL
 unfold Wb Wa af158 Zq Zu Zm Zl Zo Zs Zc Za Zb Zf Zg Zt Zn Zi
 simp only[zipI]
 refine gA ?_
 refine zhf hC hwh (hI xb mb eb (H.length+1)) (by simp[zab]) rfl (mb::T) (by simp;exact ⟨by omega,fun j hj=>by have:=hT j hj;omega⟩) (by simp)
  (fun d W G=>J (d.filter (okL r looks)) W G) (fun e d G=>e=.ret∧d.filter (okL r looks)≠[]∧E (d.filter (okL r looks)) G) (fun d j=>j<H.length∧(M (d.filter (okL r looks)) j∨(j=l∧d.filter (okL r looks)≠[]))) (by simp;exact fun j _=>hM j)
  (fun rz=>?_) (fun G G' h k=>?_) (fun rz=>?_) (fun rz=>?_) (fun d W G G' h hw k=>?_) (fun e d G G' h k=>?_) ?_ ?_ ?_
 ·refine ⟨by simp,?_,by omega,by omega,by omega⟩
  intro h
  simp at h
  rcases h with h|h
  ·omega
  ·have:=hT _ h;omega
 ·refine h.same fun j hj=>k j ?_ ?_<;>(simp;omega)
 ·refine hY.stable _ _ _ _ hJ0 (fun j hj _ _=>?_) ((hXX.app _).app _)
  rw[List.append_assoc,List.getElem?_append_left hj]
 ·exact (hXX.app _).app _
 ·simp only[List.length_append,List.length_cons,List.length_nil,Nat.zero_add,Nat.add_assoc,Nat.reduceAdd] at k hw
  refine hY.stable _ _ _ _ h (fun j hj hj2 _=>k j hj ?_ (by simp) ?_) ((hJY _ _ _ h).same fun j hj=>?_)
  ·rcases hj2 with h|h
   ·exact .inl (by omega)
   ·exact .inr h
  ·rcases hj2 with h|h
   ·omega
   ·have:=hw j h;omega
  ·have hx1:=hJY _ _ _ h
   refine k j ?_ (.inl (by omega)) (by simp) (by omega)
   have:=hx1.xl;have:=hx1.ml;have:=hx1.el
   rcases hj with rfl|rfl|rfl<;>assumption
 ·simp only[List.length_append,List.length_cons,List.length_nil,Nat.zero_add,Nat.add_assoc,Nat.reduceAdd] at k
  exact ⟨h.1,h.2.1,hY.stableE _ _ _ h.2.2 fun j hj=>k j (by omega) (by omega)⟩
 ·rintro d s W G rz hpr hJ hYx hK hl hWb
  simp only[List.length_append,List.length_cons,List.length_nil,Nat.zero_add,Nat.add_assoc,Nat.reduceAdd] at hl hWb ⊢
  rw[setP1]
  have hs:s∈Rd.allR r.events:=hpr.subset (by simp)
  obtain ⟨hld,hls⟩:=all_ld hr hs
  have hW':=fun G h i hi=>hW G xb mb eb h i hi (fnOf s) hld looks
  have hRl:=zbg (fnOf s)
  have hRp:=zcr (fnOf s)
  have hRa:=zbs (fnOf s)
  obtain ⟨hok,hno⟩:(okL r looks s=true→(d++[s]).filter (okL r looks)=d.filter (okL r looks)++[s])∧(okL r looks s=false→(d++[s]).filter (okL r looks)=d.filter (okL r looks)):=by
   refine ⟨fun h=>?_,fun h=>?_⟩<;>simp[List.filter_append,h]
  have hstep:okL r looks s=true→∀ G',J (d.filter (okL r looks)) W G'→∃ b H' tc W',Ev.call C n (.yield l) [.agg (arr10 (fnOf s))] G'=some (.ret (.bool b),H',tc)∧l∈tc∧(∀ j∈tc,j∈T++W)∧Kp tc G' H'∧(∀ j∈W',j∈W∨G'.length≤j)∧(b=true→J (d.filter (okL r looks)++[s]) W' H')∧(b=false→E (d.filter (okL r looks)++[s]) H'∧Rx r xb mb eb H')∧∀ j,j<H.length→M (d.filter (okL r looks)++[s]) j→M (d.filter (okL r looks)) j∨j∈tc:=by
   intro h G' hJ'
   refine hY.step _ s W G' ?_ hJ'
   rw[← hok h]
   exact zhx _ hpr
  simp only[ldA]
  generalize arr10 (fnOf s)=R at *
  refine gA ?_
  refine ⟨trivial,?_,?_⟩
  ·rw[List.getElem?_append_left (by omega)]
  obtain ⟨G2,hG2,k1,k2,k3,k4⟩:=zdg (G:=G++[.cells R]) (l:=H.length+3) (.loop rz) (by simp;omega)
  rw[← hG2]
  clear hG2
  have j3:∀ {j x},G[j]?=some x→j≠H.length+3→G2[j]?=some x:=fun {j x} hx hj=>by rw[k3 _ hj,List.getElem?_append_left (get_lt hx)];exact hx
  have hKx:∀ {j x},(H++[.cells [.yield l],.cells [.ptr xb 0]]:List AB)[j]?=some x→j≠mb→j∉T→G[j]?=some x:=fun hx h1 h2=>hK.at hx (by simp;exact ⟨h1,h2⟩)
  have e0:=j3 (hKx (j:=bX) (x:=.cells [.ptr xb 0]) (by rw[List.getElem?_append_left l0];exact hx) qx px) (by omega)
  have e1:=j3 (hKx (j:=bL) (x:=.cells [.int .u64 looks]) (by rw[List.getElem?_append_left l1];exact hL) qL pL) (by omega)
  have e2:=j3 (hKx (j:=H.length) (x:=.cells [.yield l]) (by simp) (by omega) (fun h=>by have:=hT _ h;omega)) (by omega)
  have e5:G2[G.length]?=some (.cells R):=by rw[k3 _ (by omega)];simp
  have hX2:Rx r xb mb eb G2:=(hYx.app _).kp k4 (by simp;omega) (by simp;omega) (by simp;omega)
  have hJ2:J (d.filter (okL r looks)) W G2:=by
   refine hY.stable _ _ _ _ hJ (fun j hj hj2 _=>?_) hX2
   rw [k3 _ (by rcases hj2 with h | h; · omega
                ·have:=hWb j h;omega),List.getElem?_append_left hj]
  have kl2:G2.length=G.length+1:=by rw[k1];simp
  obtain ⟨Inv,hInv⟩:∃ Inv:List AB→List Nat→Prop,∀ hp tc,Inv hp tc↔(Kp [mb] G2 hp∧Rx r xb mb eb hp∧∀ j∈tc,j=mb∨j=H.length+3):=⟨fun hp tc=>_,fun hp tc=>Iff.rfl⟩
  have hI0:Inv G2 [H.length+3]:=(hInv _ _).2 ⟨Kp.refl _ _,hX2,by simp⟩
  have hfacts:∀ hp tc,Inv hp tc→Bk hp bX (.cells [.ptr xb 0])∧Bk hp bL (.cells [.int .u64 looks])∧Bk hp H.length (.cells [.yield l])∧Bk hp G.length (.cells R):=by
   intro hp tc h
   obtain ⟨q1,q2,q3⟩:=(hInv _ _).1 h
   exact ⟨bk' (q1.at e0 (by simpa using qx)),bk' (q1.at e1 (by simpa using qL)),bk' (q1.at e2 (by simp;omega)),bk' (q1.at e5 (by simp;omega))⟩
  have hways:∀ hp tc,Inv hp tc→∀ i,i<r.parts.length→∃ v hp' tc',Ev.call C n (.fn (.func 139) [] []) [.ptr xb 0,.int .i64 i,.agg R,.int .u64 looks] hp=some (.ret v,hp',tc')∧Inv hp' (tc'.filter (·<G.length)++tc)∧((v=.nils∧Rd.waysR r i s looks=[])∨∃ b cs k,v=.sl b 0 (k+1) 5∧Bk hp' b (.cells cs)∧Rd.waysR r i s looks≠[]):=by
   intro hp tc h i hi
   obtain ⟨q1,q2,q3⟩:=(hInv _ _).1 h
   obtain ⟨v,hp',tc',w1,w2,w3,w4,W0,w5⟩:=hW' hp q2 i hi
   rw[hls] at w5
   refine ⟨v,hp',tc',w1,(hInv _ _).2 ⟨q1.trans (w3.mono fun j _ h=>by simpa using w2 j h),w4,fun j hj=>?_⟩,?_⟩
   ·rcases List.mem_append.1 hj with h|h
    ·exact .inl (w2 j (List.mem_filter.1 h).1)
    ·exact q3 j h
   ·generalize Rd.waysR r i s looks=ws at w5
    cases w5 with
    |none=>exact .inl ⟨rfl,rfl⟩
    |some b _ z1 z2 z3=>
     cases ws with
     |nil=>exact absurd rfl z3
     |cons w ws=>exact .inr ⟨b,_,ws.length,by simp,bk' z2,by simp⟩
  have hend:∀ hp tc,Inv hp tc→Inv hp tc∧J (d.filter (okL r looks)) W hp∧hp[H.length+3]?=some (.loop rz)∧∀ j,j<G.length→j∉[mb,H.length+3]→hp[j]?=G[j]?:=by
   intro hp tc h
   obtain ⟨q1,q2,q3⟩:=(hInv _ _).1 h
   refine ⟨h,hY.stable _ _ _ _ hJ2 (fun j hj _ hn=>q1.get j hj hn) q2,q1.at k2 (by simp;omega),fun j hj hn=>?_⟩
   simp at hn
   rw[q1.get j (by omega) (by simp;omega),k3 _ hn.2,List.getElem?_append_left hj]
  have hnp:=hr.parts
  have lG:l<G.length:=by have:=hT _ hlT;omega
  obtain ⟨RT,hRT⟩:∃ RT:AExit→St→Prop,RT=RTo (H.length+3) rz (mb::T) [] W (Rx r xb mb eb) G.length (J ((d++[s]).filter (okL r looks))) (fun e G=>e=.ret∧(d++[s]).filter (okL r looks)≠[]∧E ((d++[s]).filter (okL r looks)) G) (fun j=>j<H.length∧(M (d.filter (okL r looks)) j∨j=l∧d.filter (okL r looks)≠[])) (fun j=>j<H.length∧(M ((d++[s]).filter (okL r looks)) j∨j=l∧(d++[s]).filter (okL r looks)≠[])):=⟨_,rfl⟩
  have hcont:okL r looks s=false→∀ hp tc,Inv hp tc→∀ tm df,RT .normal ⟨tm,df,hp,tc⟩:=by
   intro h hp tc hi tm df
   obtain ⟨_,g1,g2,g3⟩:=hend hp tc hi
   obtain ⟨q1,q2,q3⟩:=(hInv _ _).1 hi
   rw[hRT,hno h]
   exact ⟨by simp,g2,fun j hj=>(q3 j hj).elim (fun h=>.inr (.inl (by simp[h]))) .inl,q2,fun _=>⟨W,fun j h=>.inl h,g1⟩,fun h=>absurd rfl h,fun j _ h=>.inl h⟩
  have hyes:okL r looks s=true→∀ hp tc,Inv hp tc→∃ b H' tc',Ev.call C n (.yield l) [.agg R] hp=some (.ret (.bool b),H',tc')∧(b=true→∀ tm df,RT .normal ⟨tm,df,H',tc'.filter (·<G.length)++tc⟩)∧(b=false→∀ tm df,RT .ret ⟨tm,df,H',tc'.filter (·<G.length)++tc⟩):=by
   intro h hp tc hi
   obtain ⟨_,g1,g2,g3⟩:=hend hp tc hi
   obtain ⟨q1,q2,q3⟩:=(hInv _ _).1 hi
   obtain ⟨b,H',tc',W',s1,s2,s3,s4,s5,s6,s7,s8⟩:=hstep h hp g1
   have hl':=q1.len
   have tcs:∀ j∈tc'.filter (·<G.length)++tc,j=H.length+3∨j∈mb::T∨j∈([]:List Nat)∨j∈W:=fun j hj=>by
    rcases List.mem_append.1 hj with h|h
    ·rcases List.mem_append.1 (s3 j (List.mem_filter.1 h).1) with h|h
     ·exact .inr (.inl (List.mem_cons_of_mem _ h))
     ·exact .inr (.inr (.inr h))
    ·exact (q3 j h).elim (fun h=>.inr (.inl (by simp[h]))) .inl
   have hh:H'[H.length+3]?=some (.loop rz):=s4.at g2 fun h=>by
    rcases List.mem_append.1 (s3 _ h) with h|h
    ·have:=hT _ h;omega
    ·have:=hWb _ h;omega
   have hM':∀ j,j<H.length+3+1→(j<H.length∧(M (d.filter (okL r looks)++[s]) j∨j=l∧d.filter (okL r looks)++[s]≠[]))→(j<H.length∧(M (d.filter (okL r looks)) j∨j=l∧d.filter (okL r looks)≠[]))∨j∈tc'.filter (·<G.length)++tc:=by
    rintro j _ ⟨hj,h|⟨rfl,_⟩⟩
    ·rcases s8 j hj h with h|h
     ·exact .inl ⟨hj,.inl h⟩
     ·exact .inr (List.mem_append_left _ (List.mem_filter.2 ⟨h,by simp;omega⟩))
    ·exact .inr (List.mem_append_left _ (List.mem_filter.2 ⟨s2,by simpa using lG⟩))
   refine ⟨b,H',tc',s1,fun hb tm df=>?_,fun hb tm df=>?_⟩
   ·rw[hRT,hok h]
    refine ⟨by simp,hh,tcs,hJY _ _ _ (s6 hb),fun _=>⟨W',fun j hj=>?_,s6 hb⟩,fun h=>absurd rfl h,hM'⟩
    rcases s5 j hj with h|h
    ·exact .inl h
    ·exact .inr (by omega)
   ·rw[hRT,hok h]
    exact ⟨by simp,hh,tcs,(s7 hb).2,(fun h=>by cases h),fun _=>⟨rfl,by simp,(s7 hb).1⟩,hM'⟩
  have HW:=hideP hways
  have HF:=hideP hfacts
  have HE:=hideP (And.intro hcont hyes)
  have hxp:=hX2.x
  obtain ⟨u0,u1,u2,u3,u4,u5⟩:=bk' hxp
  obtain ⟨⟨b0,b1,b2,b3,b4,b5⟩,_⟩:=hfacts _ _ hI0
  clear hways hfacts hend hInv hok hno hstep hpr hWb kl2 hl hcont hyes hW' hW hJ hJ2 hYx hK hx hL hXX hY hJY hJ0 hAl hI k1 k2 k3 k4 j3 hKx e0 e1 e2 e5 hX2 hs hld hls hxp x0 x1 x2 x3 x4 x5 pxb peb pm px pL qx qL hxl hel l0 l1 hlT hT
  simp only[roadCs,List.cons_append,List.nil_append] at *
  refine gA ?_
  with_reducible refine zan hC r.parts.length (by unfold fuelL;omega) (fun i st=>∃ hp tc,Inv hp tc∧(∀ x,x<i→Rd.waysR r x s looks≠[])∧st={ tm:=tmA 30 [(15,.int .i64 i),(14,.int .i64 r.parts.length),(4,.ptr G.length 0),(3,.ptr H.length 0),(2,.ptr bL 0),(1,.ptr bX 0)],df:=[],hp:=hp,tc:=tc }) ?_ ?_ ?_
  ·refine ⟨_,_,hI0,by simp,?_⟩
   exact invP
  ·clear hI0 b0 b1 b2 b3 b4 b5 u0 u1 u2 u3 u4 u5
   rintro i st hi ⟨hp,tc,hV,hne,rfl⟩
   obtain ⟨⟨x0,x1,x2,x3,x4,x5⟩,⟨y0,y1,y2,y3,y4,y5⟩,⟨z0,z1,z2,z3,z4,z5⟩,⟨v0,v1,v2,v3,v4,v5⟩⟩:=HF.out _ _ hV
   obtain ⟨v,hp',tc',s1,s2,s3⟩:=HW.out _ _ hV i hi
   have hwi:IntKind.i64.wrap (↑i+1)=↑i+1:=zaf (by omega) (by omega)
   have HV:=hideP (And.intro hne s2)
   clear hV hne s2
   rcases s3 with ⟨rfl,e2⟩|⟨b,cs,k,rfl,⟨g0,g1,g2,g3,g4,g5⟩,e2⟩
   ·have hno:okL r looks s=false:=by
     unfold okL
     rw[List.all_eq_false]
     exact ⟨i,by simpa using hi,by rw[e2];simp⟩
    have HN:=hideP (And.intro hno e2)
    clear hno e2
    refine gA ?_
    rw[← hRT]
    exact HE.out.1 HN.out.1 _ _ HV.out.2 _ _
   ·have hk:¬ ((k:Int)+1=0):=by omega
    refine gA ?_
    have hne':∀ x,x<i+1→Rd.waysR r x s looks≠[]:=by
     intro x hx
     by_cases h:x=i
     ·rw[h];exact e2
     ·exact HV.out.1 x (by omega)
    with_reducible refine ⟨_,_,HV.out.2,hne',?_⟩
    exact invP
  ·clear hI0 b0 b1 b2 b3 b4 b5 u0 u1 u2 u3 u4 u5
   rintro st ⟨hp,tc,hV,hne,rfl⟩
   obtain ⟨⟨x0,x1,x2,x3,x4,x5⟩,⟨y0,y1,y2,y3,y4,y5⟩,⟨z0,z1,z2,z3,z4,z5⟩,⟨v0,v1,v2,v3,v4,v5⟩⟩:=HF.out _ _ hV
   have hyes:okL r looks s=true:=by
    unfold okL
    rw[List.all_eq_true]
    intro x hx
    have:=hne x (by simpa using hx)
    simpa using this
   obtain ⟨b,hp',tc',s1,s2,s3⟩:=HE.out.2 hyes _ _ hV
   have HV:=hideP (And.intro s2 s3)
   clear hV hne s2 s3 hyes
   cases b with
   |true=>
    refine gA ?_
    rw[← hRT]
    exact HV.out.1 rfl _ _
   |false=>
    refine gA ?_
    rw[← hRT]
    exact HV.out.2 rfl _ _
 ·rintro H' tc W h1 h2 h3 h4 h5 h6 h7 h8
  simp only[List.length_append,List.length_cons,List.length_nil,Nat.zero_add,Nat.add_assoc,Nat.reduceAdd,List.nil_append] at h1 h4 h5 h6 h8 ⊢
  simp only[OutB]
  have hset:∀ j,j≠H.length+2→(H'.set (H.length+2) .dead)[j]?=H'[j]?:=fun j hj=>by rw[List.getElem?_set_ne (by omega)]
  refine zbn (v:=.tup []) (.inr rfl) rfl h4 (by omega) (by simp only;omega) (by simp only[resL];rfl) ⟨rfl,fun j hj=>?_,.inl ⟨W,fun j hj=>by have:=h6 j hj;omega,?_,?_,fun j g1 g2=>?_⟩⟩
  ·obtain ⟨g1,g2⟩:=List.mem_filter.1 (by simpa using hj:j∈tc.filter (·<H.length))
   have g2:j<H.length:=by simpa using g2
   simpa using h1 j g1 (by omega)
  ·rw[ziq]
   refine hY.stable _ _ _ _ h7 (fun j hj hj2 _=>hset j ?_) (h3.same fun j hj=>hset j ?_)
   ·rcases hj2 with h|h
    ·omega
    ·have:=h6 j h;omega
   ·rcases hj with rfl|rfl|rfl<;>omega
  ·rw[ziq]
   by_cases he:(Rd.allR r.events).filter (okL r looks)=[]
   ·exact .inl he
   ·refine .inr ?_
    have:=hT l hlT
    simp[h8 l (by omega) ⟨this,.inr ⟨rfl,he⟩⟩,this]
  ·rw[ziq] at g2
   simp[h8 j (by omega) ⟨g1,.inl g2⟩,g1]
 ·rintro e d H' tc h0 h1 h2 h3 h4 h5 h6 ⟨rfl,h7,h8⟩ h9
  simp only[List.length_append,List.length_cons,List.length_nil,Nat.zero_add,Nat.add_assoc,Nat.reduceAdd,List.nil_append] at h1 h4 h5 h9 ⊢
  simp only[OutB]
  have hset:∀ j,j≠H.length+2→(H'.set (H.length+2) .dead)[j]?=H'[j]?:=fun j hj=>by rw[List.getElem?_set_ne (by omega)]
  have hl:=hT l hlT
  refine zbn (v:=.tup []) (.inl rfl) rfl h4 (by omega) (by simp only;omega) (by simp only[resL];rfl) ⟨rfl,fun j hj=>?_,.inr ⟨_,by rw[ziq];exact zhx _ h6,hY.stableE _ _ _ h8 fun j hj=>hset j (by omega),?_,fun j g1 g2=>?_⟩⟩
  ·obtain ⟨g1,g2⟩:=List.mem_filter.1 (by simpa using hj:j∈tc.filter (·<H.length))
   have g2:j<H.length:=by simpa using g2
   simpa using h1 j g1 (by omega)
  ·simp[h9 l (by omega) ⟨hl,.inr ⟨rfl,h7⟩⟩,hl]
  ·simp[h9 j (by omega) ⟨g1,.inl g2⟩,g1]
def ToldI (C:Cfg)(n k:Nat)(r:Rd.Road):Prop:=∀ xb mb eb bX bL looks,IterG C n k 158 [] [.ptr bX 0,.ptr bL 0] ldA (Rd.toldR r looks) [mb] (Rx r xb mb eb) (TdPre xb mb eb bX bL looks)
theorem zry {C:Cfg}(hC:C.calm=true)(hwh:∀ f,C.whole f=true){n m:Nat}{r:Rd.Road}(hr:Rd.Fine r)(h0:Has C 158 af158)(hAl:AllC (Ev.call C m))(hI:AllI C (n+1) m r)(hW:WaysC (Ev.call C n) r):ToldI C n (m+1) r:=by
 intro xb mb eb bX bL looks
 refine zqe hC hwh h0.ext h0.exth h0.fns (Nat.le_of_ble_eq_true rfl) ?_
 intro H l T J E M hp h2 h3 h4 h5 h7 h6
 exact zrx C hC hwh n m r hr hAl hI hW H xb mb eb bX bL looks l T J E M hp h2 h3 h4 h5 h7 h6
def stopV (e:Int):AV:=.iface 161 (.agg [.int .i64 e])
structure MustC (call:CallF):Prop where
 t:∀ H e,call (.fn (.func 132) [] []) [.bool true,.int .i64 e] H=some (.ret (.tup []),H,[])
 f:∀ H e,call (.fn (.func 132) [] []) [.bool false,.int .i64 e] H=some (.pan (.iface 161 (.agg [.int .i64 e])),H,[])
def ToldC (call:CallF):Prop:=∀ (H:List AB) (xb looks:Nat),call (.fn (.func 137) [] []) [.ptr xb 0,.int .u64 looks] H=some (.ret (.fn (.func 158) [] [.ptr H.length 0,.ptr (H.length+1) 0]),H++[.cells [.ptr xb 0],.cells [.int .u64 looks]],[])
theorem zsa (C:Cfg)(call:CallF)(H:List AB)(xb looks:Nat):Wb C call H af137 [.ptr xb 0,.int .u64 looks]
  (fun w hp tc=>w=.fn (.func 158) [] [.ptr H.length 0,.ptr (H.length+1) 0]∧hp=H++[.cells [.ptr xb 0],.cells [.int .u64 looks]]∧tc=[]):=by
 unfold Wb Wa af137 Zq Zm Zo Zt
 simp only[zipI]
 refine gA ?_
 exact zac (.inl rfl) rfl (by simp) (by simp only[resL,resOf,zaa];simp[*,resV]) ⟨rfl,rfl,rfl⟩
theorem zyt (C:Cfg)(hC:C.calm=true)(hwh:∀ f,C.whole f=true)(n m:Nat)(r:Rd.Road)(hTd:ToldC (Ev.call C m))(hI:ToldI C (n+1) m r)(H:List AB)(xb mb eb:Nat)(hX:Rx r xb mb eb H)(looks:Nat):
  Wb C (Ev.call C m) H af135 [.ptr xb 0,.int .u64 looks]
   (fun v hp tc=>v=.bool (Rd.canR r looks)∧(∀ j∈tc,j=mb)∧Rx r xb mb eb hp):=by
 have hx:=hX.xl
 have hm:=hX.ml
 have he:=hX.el
 have hne:=hX.ne
 have hne2:=hX.ne2
 unfold ToldC at hTd
 unfold Wb Wa af135 Zq Zm Zo Zs Zc Zt Zy Zw
 simp only[zipI]
 refine gA ?_
 refine zbz hC hwh (hI xb mb eb (H.length+1) (H.length+2) looks) (by simp[zab]) rfl [H.length] (by simp) (by simp;omega)
  (fun d W G=>d=[]∧W=[]∧G[H.length]?=some (.cells [.bool false])) (fun e d G=>e=.ret∧d≠[]∧G[H.length]?=some (.cells [.bool true]))
  (fun rz=>?_) (fun G G' h k=>h.same fun j hj=>k j (by simp;omega) (by simp;omega)) (fun rz=>⟨rfl,rfl,by simp⟩) (fun rz=>(hX.app _).app _) (fun d W G G' h _ k=>?_) (fun e d G G' h k=>?_) ?_ ?_ ?_
 ·refine ⟨by simp,by simp,?_,?_,by omega,by omega,?_,?_,by simp;omega⟩<;>(simp;omega)
 ·simp only[List.length_append,List.length_cons,List.length_nil,Nat.zero_add,Nat.add_assoc,Nat.reduceAdd] at k
  exact ⟨h.1,h.2.1,(k _ (get_lt h.2.2) (.inl (by omega)) (by simp;omega) (by omega)).trans h.2.2⟩
 ·simp only[List.length_append,List.length_cons,List.length_nil,Nat.zero_add,Nat.add_assoc,Nat.reduceAdd] at k
  exact ⟨h.1,h.2.1,(k _ (by omega) (by omega)).trans h.2.2⟩
 ·rintro d s W G rz hpr ⟨rfl,rfl,h1⟩ hYx hK hl hW
  simp only[List.length_append,List.length_cons,List.length_nil,Nat.zero_add,Nat.add_assoc,Nat.reduceAdd] at hl ⊢
  rw[setP1]
  refine gA ?_
  refine ⟨trivial,trivial,?_⟩
  obtain ⟨G2,hG2,k1,k2,k3,k4⟩:=zdg (G:=G) (l:=H.length+4) (.loop rz) (by omega)
  rw[← hG2]
  obtain ⟨f0,f1,f2,f3,f4,f5⟩:=bk' ((k3 H.length (by omega)).trans h1)
  have hX2:Rx r xb mb eb G2:=hYx.kp k4 (by simp;omega) (by simp;omega) (by simp;omega)
  have HA:=hideP (And.intro k2 hX2)
  have h99:¬ H.length=H.length+4:=by omega
  clear hYx hK hpr h1 hG2 k1 k2 k3 k4 hX2
  refine gA ?_
  obtain ⟨k2,hX2⟩:=HA.out
  have k:Kp [H.length] G2 (G2.set H.length (.cells [.bool true])):=(Kp.refl _ _).set _ _ (by simp)
  refine ⟨by simp,k.at k2 (by simp),fun j hj=>?_,hX2.kp k (by simp;omega) (by simp;omega) (by simp;omega),(fun h=>by cases h),fun _=>⟨rfl,by simp,by rw[List.getElem?_set_self f0]⟩,fun _ _ h=>h.elim⟩
  simp only[List.mem_append,List.mem_filter,decide_eq_true_eq,List.mem_cons,List.not_mem_nil,or_false] at hj ⊢
  omega
 ·rintro H' tc W h1 h2 h3 h4 h5 h6 ⟨h7,h8,h9⟩
  simp only[List.length_append,List.length_cons,List.length_nil,Nat.zero_add,Nat.add_assoc,Nat.reduceAdd,List.append_nil] at h1 h4 h5 h6 ⊢
  simp only[OutB,Then]
  have hc:Rd.canR r looks=false:=by unfold Rd.canR;rw[h7];rfl
  rw[hc]
  obtain ⟨f0,f1,f2,f3,f4,f5⟩:=bk' h9
  have HA:=hideP (And.intro h1 h3)
  have HD:=hideP h4
  clear h1 h2 h3 h4 h6 h7 h9 hTd hI hX
  refine gA ?_
  obtain ⟨h1,h3⟩:=HA.out
  refine zbn (v:=.bool false) (.inl rfl) rfl (by simp only;rw[List.getElem?_set_ne (by omega)];exact HD.out) (by omega) (by simp;omega) (by simp only[resL,resOf,zaa];simp[resV,pickC,f0]) ⟨rfl,fun j hj=>?_,h3.kp (((Kp.refl [H.length,H.length+3] H').set _ _ (by simp)).set _ _ (by simp)) (by simp;omega) (by simp;omega) (by simp;omega)⟩
  simp at hj
  have:=h1 j (by first|exact hj.1|(rcases hj with h|h;exact h.1;exact h.1)) (by omega)
  simp at this
  omega
 ·rintro e d H' tc h0 h1 h2 h3 h4 h5 h6 ⟨rfl,h7,h9⟩
  simp only[List.length_append,List.length_cons,List.length_nil,Nat.zero_add,Nat.add_assoc,Nat.reduceAdd,List.append_nil] at h1 h4 h5 ⊢
  simp only[OutB,Then]
  have hc:Rd.canR r looks=true:=by
   unfold Rd.canR
   have:=h6.ne_nil h7
   cases ht:Rd.toldR r looks with
   |nil=>exact absurd ht this
   |cons _ _=>rfl
  rw[hc]
  refine zbn (v:=.bool true) (.inl rfl) rfl h4 (by omega) (by simp;omega) (by simp only[resL,resOf,zaa];simp[resV,pickC,List.getElem?_set_ne,h9]) ⟨rfl,fun j hj=>?_,h3.kp ((Kp.refl [H.length+3] H').set _ _ (by simp)) (by simp;omega) (by simp;omega) (by simp;omega)⟩
  simp at hj
  have:=h1 j (by first|exact hj.1|(rcases hj with h|h;exact h.1;exact h.1)) (by omega)
  simp at this
  omega
def LwithinC (call:CallF):Prop:=∀ (H:List AB) (n a b:Int),call (.fn (.func 113) [] []) [.int .i64 n,.int .i64 a,.int .i64 b] H=some (.ret (.bool (decide (a≤n∧n≤b))),H,[])
theorem ydg (C:Cfg)(call:CallF)(H:List AB)(n a b:Int):Wb C call H af113 [.int .i64 n,.int .i64 a,.int .i64 b] (fun v _hp tc=>v=.bool (decide (a≤n∧n≤b))∧tc=[]):=by
 unfold Wb Wa af113 Zq Zm Zo Zh Za Zt Zy
 simp only[zipI]
 by_cases h:a≤n
 ·(refine gA ?_)
  exact zac (.inl rfl) rfl (by simp) (by simp only[resL,resOf,zaa];simp[*,resV]) ⟨rfl,rfl⟩
 ·(refine gA ?_)
  exact zac (.inl rfl) rfl (by simp) (by simp only[resL,resOf,zaa];simp[*,resV]) ⟨rfl,rfl⟩
theorem yfj (C:Cfg)(call:CallF)(H:List AB)(e:Int):Wa C call H af54 [.bool true,.int .i64 e] (Fin C H.length af54 fun x _ tc=>x=.ret (.tup [])∧tc=[]):=by
 unfold Wa af54 Zq Zu Zm Zo Zs Zt Zi
 simp only[zipI]
 refine gA ?_
 exact zmg (v:=.tup []) (.inr rfl) rfl (Nat.le_refl _) rfl ⟨rfl,rfl⟩
theorem yfk (C:Cfg)(call:CallF)(H:List AB)(e:Int):Wa C call H af54 [.bool false,.int .i64 e] (Fin C H.length af54 fun x _ tc=>x=.pan (.iface 131 (.agg [.int .i64 e]))∧tc=[]):=by
 unfold Wa af54 Zq Zu Zm Zo Zs Zt Zi
 simp only[zipI]
 refine gD ?_
 exact zbw rfl (Nat.le_refl _) ⟨rfl,rfl⟩
structure LmustC (call:CallF):Prop where
 t:∀ H e,call (.fn (.func 54) [] []) [.bool true,.int .i64 e] H=some (.ret (.tup []),H,[])
 f:∀ H e,call (.fn (.func 54) [] []) [.bool false,.int .i64 e] H=some (.pan (.iface 131 (.agg [.int .i64 e])),H,[])
theorem yfl (C:Cfg)(call:CallF)(hW:LwithinC call)(l:Ld.Lo)(hd:-1000000≤l.days∧l.days≤1000000)(H:List AB)(qb:Nat)(z:AV)(hq:H[qb]?=some (.cells (loadCs l++[z])))(n:Int):Wb C call H af90 [.ptr qb 0,.int .i64 n]
  (fun v _hp tc=>v=.bool (Ld.isDay l n)∧tc=[]):=by
 obtain ⟨y0,y1,y2,y3,y4,y5⟩:=bk' hq
 have hw:IntKind.i64.wrap (l.days - 1)=l.days - 1:=zaf (by omega) (by omega)
 have e:Ld.isDay l n=decide (0≤n∧n≤l.days - 1):=by unfold Ld.isDay;congr 1;simp;omega
 have hW':=fun H=>hW H n 0 (l.days - 1)
 rw[e]
 clear hW e hd
 unfold Wb Wa af90 Zq Zm Zl Zo Zc Zb Zf Zt Zn Zy
 simp only[zipI,loadCs,List.cons_append,List.nil_append] at *
 refine gA ?_
 exact zac (.inl rfl) rfl (by simp) (by simp only[resL,resOf,zaa];simp[*,resV]) ⟨rfl,rfl⟩
theorem ydj (C:Cfg)(call:CallF)(hW:LwithinC call)(l:Ld.Lo)(hd:l.carts.length≤1000000)(H:List AB)(qb:Nat)(z:AV)(hq:H[qb]?=some (.cells (loadCs l++[z])))(n:Int):Wb C call H af73 [.ptr qb 0,.int .i64 n]
  (fun v _hp tc=>v=.bool (Ld.isCart l n)∧tc=[]):=by
 obtain ⟨y0,y1,y2,y3,y4,y5⟩:=bk' hq
 have hw:IntKind.i64.wrap ((l.carts.length:Int) - 1)=(l.carts.length:Int) - 1:=zaf (by omega) (by omega)
 have e:Ld.isCart l n=decide (0≤n∧n≤(l.carts.length:Int) - 1):=by unfold Ld.isCart;congr 1;simp;omega
 have hW':=fun H=>hW H n 0 ((l.carts.length:Int) - 1)
 rw[e]
 clear hW e hd
 unfold Wb Wa af73 Zq Zm Zl Zo Zc Zb Zf Zt Zn Zy
 simp only[zipI,loadCs,List.cons_append,List.nil_append] at *
 refine gA ?_
 exact zac (.inl rfl) rfl (by simp) (by simp only[resL,resOf,zaa];simp[*,resV]) ⟨rfl,rfl⟩
theorem yjf (C:Cfg)(call:CallF)(l:Ld.Lo)(cb:Nat)(H:List AB)(qb mb:Nat)(hQ:Qy l cb qb mb H)(t:Tp)(i:Nat)(hi:i<l.carts.length):Wb C call H af200 [.agg [],.ptr qb 0,tpA t,.int .i64 i]
  (fun v _hp tc=>v=.bool (decide ((l.carts.getD i default).due<t.day))∧tc=[]):=by
 obtain ⟨cv,hq1,hq2⟩:=hQ.q
 obtain ⟨y0,y1,y2,y3,y4,y5⟩:=bk' hq1
 have hgv:l.carts[i]?=some l.carts[i]:=List.getElem?_eq_getElem hi
 have hgd:l.carts.getD i default=l.carts[i]:=by rw[List.getD_eq_getElem?_getD,hgv];rfl
 rw[hgd]
 generalize l.carts[i]=c at *
 have hgv':=ge_of hgv
 obtain ⟨hca,hcb⟩:=ycr hgv
 have hcl:=ybm l.carts
 have e5:(i:Int)<l.carts.length:=by omega
 obtain ⟨b,hb⟩:∃ b,decide (c.due<t.day)=b:=⟨_,rfl⟩
 rw[hb]
 clear hQ hgd hq1
 unfold Wb Wa af200 Zq Zr Zm Zo Zd Za Zf Zj Zt Zy
 simp only[zipI,tpA] at *
 rcases hq2 with rfl|⟨rfl,hcc⟩
 ·clear hca hcb hcl
  refine gS ?_
  exact zac (v:=.bool b) (.inl rfl) rfl (by simp) endvP ⟨rfl,by simp⟩
 ·obtain ⟨z0,z1,z2,z3,z4,z5⟩:=bk' hcc
  have e6:i * 2+1<(caCs l.carts).length:=by omega
  have e7:i * 2<(caCs l.carts).length:=by omega
  have hca':=ge_of hca
  have hcb':=ge_of hcb
  clear hcl hcc
  generalize caCs l.carts=cs at *
  refine gA ?_
  exact zac (v:=.bool b) (.inl rfl) rfl (by simp) endvP ⟨rfl,by simp⟩
theorem yhx (C:Cfg)(call:CallF)(H:List AB):Wb C call H af201 [.agg []]
  (fun v _hp tc=>v=.int .i64 1∧tc=[]):=by
 unfold Wb Wa af201 Zq Zo Zt Zn
 simp only[zipI]
 refine gA ?_
 exact zac (.inl rfl) rfl (by simp) (by simp only[resL,resOf,zaa];simp[*,resV]) ⟨rfl,rfl⟩
end Ro
end Ev
namespace Ld
open Rd (Evt restE passE)
def untilS (s:Int × List Evt)(day:Int):Int × List Evt:=if s.1<day then (day,s.2++[restE (day - s.1)]) else s
def goS (s:Int × List Evt)(x:Int × Int):Int × List Evt:=((untilS s x.1).1,(untilS s x.1).2++[passE x.2 x.2])
def ahS (s:Int × List Evt)(l:List (Int × Int)):Int × List Evt:=l.foldl goS s
theorem ahS_snoc (s:Int × List Evt)(l:List (Int × Int))(x:Int × Int):ahS s (l++[x])=goS (ahS s l) x:=by unfold ahS;rw[List.foldl_append];rfl
theorem ah_eq:∀ (l:List (Int × Int)) (s:Int × List Evt) (day:Int),s.2++aheadE s.1 l day=(untilS (ahS s l) day).2
 |[],s,day=>by
   show s.2++aheadE s.1 [] day=(untilS s day).2
   by_cases h:s.1<day
   ·have e:untilS s day=(day,s.2++[restE (day - s.1)]):=if_pos h
    rw[e,aheadE,if_pos h]
   ·have e:untilS s day=s:=if_neg h
    rw[e,aheadE,if_neg h,List.append_nil]
 |x::l,s,day=>by
  have ih:=ah_eq l (goS s x) day
  have e:ahS s (x::l)=ahS (goS s x) l:=rfl
  rw[e,← ih]
  rw[aheadE]
  by_cases h:s.1<x.1
  ·have e:goS s x=(x.1,s.2++[restE (x.1 - s.1)]++[passE x.2 x.2]):=by unfold goS untilS;rw[if_pos h]
   rw[e,if_pos h,if_pos h]
   simp only[List.append_assoc,List.cons_append,List.nil_append]
  ·have e:goS s x=(s.1,s.2++[passE x.2 x.2]):=by unfold goS untilS;rw[if_neg h]
   rw[e,if_neg h,if_neg h]
   simp only[List.append_assoc,List.cons_append,List.nil_append]
theorem ahead_eq (l:Lo)(w:List Int)(day:Int):(aheadR l w day).events=(untilS (ahS (0,l.road.events) (gone l w)) day).2:=ah_eq (gone l w) (0,l.road.events) day
theorem untilS_bd {s:Int × List Evt}{day:Int}(h0:0≤s.1)(h1:s.1≤10)(d1:day≤10):0≤(untilS s day).1∧(untilS s day).1≤10∧(untilS s day).2.length≤s.2.length+1:=by
 unfold untilS
 split
 ·simp only[List.length_append,List.length_cons,List.length_nil];omega
 ·exact ⟨h0,h1,by omega⟩
theorem ahS_bd:∀ (l:List (Int × Int)) (s:Int × List Evt),0≤s.1→s.1≤10→(∀ x∈l,x.1≤10)→0≤(ahS s l).1∧(ahS s l).1≤10∧(ahS s l).2.length≤s.2.length+2 * l.length
 |[],s,h0,h1,_=>⟨h0,h1,by simp[ahS]⟩
 |x::l,s,h0,h1,h=>by
  obtain ⟨a,b,c⟩:=untilS_bd h0 h1 (h x (by simp))
  obtain ⟨a',b',c'⟩:=ahS_bd l (goS s x) a b fun y hy=>h y (by simp[hy])
  refine ⟨a',b',?_⟩
  have e:(ahS s (x::l))=ahS (goS s x) l:=rfl
  rw[e]
  have:(goS s x).2.length≤s.2.length+2:=by unfold goS;simp only[List.length_append,List.length_cons,List.length_nil];omega
  simp only[List.length_cons]
  omega
theorem yiw (p:List Int)(d:Nat):(onDay p d).length≤p.length:=by
 have:=List.length_filter_le (fun i=>p.getD i 0==(d:Int)) (List.range p.length)
 rwa [List.length_range] at this
theorem days_le (p:List Int):∀ L:List Nat,(L.flatMap (onDay p)).length≤L.length * p.length
 |[]=>by simp
 |d::L=>by
  rw[List.flatMap_cons,List.length_append,List.length_cons,Nat.succ_mul]
  have:=yiw p d
  have:=days_le p L
  omega
end Ld
namespace Ev
namespace Ro
open K
set_option maxRecDepth 100000
def ptCs:List Rd.Pt→List AV
 |[]=>[]
 |p::l=>.int .i64 p.height.lo::.int .i64 p.height.hi::.int .i64 p.stiff.lo::.int .i64 p.stiff.hi::.int .i64 p.rise.lo::.int .i64 p.rise.hi::.int .i64 p.full::ptCs l
def evCs:List Rd.Evt→List AV
 |[]=>[]
 |v::l=>.int .i64 v.kind::.int .i64 v.load.lo::.int .i64 v.load.hi::.int .i64 v.days::.int .i64 v.part::.int .i64 v.shows.lo::.int .i64 v.shows.hi::evCs l
def ptsC:List AV→Option (List Rd.Pt)
 |[]=>some []
 |.int .i64 a::.int .i64 b::.int .i64 c::.int .i64 d::.int .i64 e::.int .i64 f::.int .i64 g::l=>(ptsC l).map (⟨⟨a,b⟩,⟨c,d⟩,⟨e,f⟩,g⟩::·)
 |_=>none
def evsC:List AV→Option (List Rd.Evt)
 |[]=>some []
 |.int .i64 a::.int .i64 b::.int .i64 c::.int .i64 d::.int .i64 e::.int .i64 f::.int .i64 g::l=>(evsC l).map (⟨a,⟨b,c⟩,d,e,⟨f,g⟩⟩::·)
 |_=>none
@[simp] theorem zzs:∀ l,ptsC (ptCs l)=some l
  |[]=>rfl
  |p::l=>by simp[ptCs,ptsC,zzs l]
@[simp] theorem yai:∀ l,evsC (evCs l)=some l
  |[]=>rfl
  |e::l=>by simp[evCs,evsC,yai l]
theorem zzt:∀ {cs l},ptsC cs=some l→cs=ptCs l:=by
 intro cs
 induction cs using ptsC.induct with
 |case1=>intro l h;cases h;rfl
 |case2 a b c d e f g cs ih=>
  intro l h
  obtain ⟨l',h1,rfl⟩:=Option.map_eq_some_iff.1 h
  rw[ih h1];rfl
 |case3 cs h1 h2=>intro l h;unfold ptsC at h;split at h<;>first|exact absurd rfl h1|exact (h2 _ _ _ _ _ _ _ _ rfl).elim|cases h
theorem yaj:∀ {cs l},evsC cs=some l→cs=evCs l:=by
 intro cs
 induction cs using evsC.induct with
 |case1=>intro l h;cases h;rfl
 |case2 a b c d e f g cs ih=>
  intro l h
  obtain ⟨l',h1,rfl⟩:=Option.map_eq_some_iff.1 h
  rw[ih h1];rfl
 |case3 cs h1 h2=>intro l h;unfold evsC at h;split at h<;>first|exact absurd rfl h1|exact (h2 _ _ _ _ _ _ _ _ rfl).elim|cases h
@[simp] theorem zob:∀ l:List Rd.Pt,elemCells (l.map ptE)=ptCs l
  |[]=>rfl
  |p::l=>by simp[elemCells,ptE,AV.cells,ptCs,zob l]
@[simp] theorem zoc:∀ l:List Rd.Evt,elemCells (l.map evE)=evCs l
  |[]=>rfl
  |p::l=>by simp[elemCells,evE,AV.cells,evCs,zoc l]
theorem ybl:∀ l,(evCs l).length=l.length * 7
 |[]=>rfl
 |p::l=>by simp[evCs,ybl l];omega
theorem ycq:∀ l m,evCs (l++m)=evCs l++evCs m
 |[],_=>rfl
 |p::l,m=>by simp[evCs,ycq l m]
theorem ybk:∀ l,(evCs l).all AV.plain=true
 |[]=>rfl
 |p::l=>by simp only[evCs,List.all_cons,ybk l];rfl
def ptsV (H:List AB)(v:AV)(l:List Rd.Pt):Prop:=slCells 7 H v=some (ptCs l)
def evsV (H:List AB)(v:AV)(l:List Rd.Evt):Prop:=slCells 7 H v=some (evCs l)
def roadOf (H:List AB)(v:AV):Option Rd.Road:=match v with
 | .agg [pv, ev] => (match (slCells 7 H pv).bind ptsC, (slCells 7 H ev).bind evsC with
  |some ps,some es=>if ps.length≤40∧es.length≤50 then some ⟨ps,es⟩ else none
  |_,_=>none)
 |_=>none
theorem ztf {H:List AB}{pv ev:AV}{ps:List Rd.Pt}{es:List Rd.Evt}(h1:ptsV H pv ps)(h2:evsV H ev es)(hp:ps.length≤40)(he:es.length≤50):roadOf H (.agg [pv,ev])=some ⟨ps,es⟩:=by
 unfold ptsV at h1
 unfold evsV at h2
 simp[roadOf,h1,h2,hp,he]
theorem zhu {H:List AB}{v:AV}{r:Rd.Road}(h:roadOf H v=some r):∃ pv ev,v=.agg [pv,ev]∧ptsV H pv r.parts∧evsV H ev r.events∧r.parts.length≤40∧r.events.length≤50:=by
 unfold roadOf at h
 split at h
 ·rename_i pv ev
  split at h
  ·rename_i ps es h1 h2
   split at h
   ·rename_i hb
    cases h
    obtain ⟨c1,e1,f1⟩:=Option.bind_eq_some_iff.1 h1
    obtain ⟨c2,e2,f2⟩:=Option.bind_eq_some_iff.1 h2
    exact ⟨pv,ev,rfl,by unfold ptsV;rw[e1,zzt f1],by unfold evsV;rw[e2,yaj f2],hb.1,hb.2⟩
   ·cases h
  ·cases h
 ·cases h
theorem zzr (H:List AB)(l:List Rd.Pt):ptsV H (.vs 7 (l.map ptE)) l:=by simp[ptsV,slCells]
theorem yah (H:List AB)(l:List Rd.Evt):evsV H (.vs 7 (l.map evE)) l:=by simp[evsV,slCells]
theorem ykb {H:List AB}{b n:Nat}{l:List Rd.Evt}(h:H[b]?=some (.cells (evCs l)))(hn:n=l.length):evsV H (.sl b 0 n 7) l:=by
 subst hn
 simp only[evsV,slCells,h,if_true,Nat.zero_add,ybl,Nat.le_refl,List.drop_zero]
 rw[List.take_of_length_le (by rw[ybl];omega)]
theorem zit (H:List AB)(r:Rd.Road)(hp:r.parts.length≤40)(he:r.events.length≤50):roadOf H (.agg (roadCs r))=some r:=ztf (zzr H r.parts) (yah H r.events) hp he
end Ro
namespace Ro
open K
attribute [local simp] ev1 wantG spineK spine float xnew xval xeff zab zae zau zah zai addFl cellsOf pickC alive slLen slFt binI maxA maxK minA minK aeqK aeqS AV.cells spA zad fillA setAt bitsI nat_nn zav AV.plain apart
set_option maxRecDepth 100000
set_option maxHeartbeats 4000000
structure GrR (l:Ld.Lo) (nb rb eb:Nat) (s:Int × List Rd.Evt) (G:List AB):Prop where
 n:HB G nb (.cells [.int .i64 s.1])
 r:HB G rb (.cells [.vs 7 (l.road.parts.map ptE),.sl eb 0 s.2.length 7])
 e:HB G eb (.cells (evCs s.2))
theorem GrR.kp {l:Ld.Lo}{nb rb eb:Nat}{s:Int × List Rd.Evt}{G G':List AB}(h:GrR l nb rb eb s G){S:List Nat}(k:Kp S G G')(h1:nb∉S)(h2:rb∉S)(h3:eb∉S):GrR l nb rb eb s G':=⟨hb (k.at h.n.get h1),hb (k.at h.r.get h2),hb (k.at h.e.get h3)⟩
def UntC (call:CallF)(l:Ld.Lo):Prop:=∀ (G:List AB) (nb rb eb:Nat) (s:Int × List Rd.Evt) (day:Int),GrR l nb rb eb s G→nb≠rb→eb≠rb→eb≠nb→0≤s.1→s.1≤10→-10≤day→day≤10→s.2.length≤100 →
 ∃ G' eb' tc,call (.fn (.func 206) [] [.ptr nb 0,.ptr rb 0]) [.int .i64 day] G=some (.ret (.tup []),G',tc)∧GrR l nb rb eb' (Ld.untilS s day) G'∧(eb'=eb∨G.length≤eb')∧Kp tc G G'∧(∀ j∈tc,j=rb∨j=nb∨j=eb)
theorem ygr (C:Cfg)(call:CallF)(l:Ld.Lo)(G:List AB)(nb rb eb:Nat)(s:Int × List Rd.Evt)(day:Int)(hG:GrR l nb rb eb s G)(hne:nb≠rb)(hne2:eb≠rb)(hne3:eb≠nb)(h0:0≤s.1)(h1:s.1≤10)(d0:-10≤day)(d1:day≤10)(hl:s.2.length≤100):
  Wb C call G af206 [.int .i64 day,.ptr nb 0,.ptr rb 0]
   (fun v hp tc=>v=.tup []∧(∃ eb',GrR l nb rb eb' (Ld.untilS s day) hp∧(eb'=eb∨G.length≤eb'))∧(∀ j∈tc,j=rb∨j=nb∨j=eb)∧(tc=[]→hp=G)):=by
 obtain ⟨now,es⟩:=s
 dsimp only at *
 obtain ⟨hn,hr,he⟩:=hG
 unfold Ld.untilS
 dsimp only
 by_cases h:now<day
 ·rw[if_pos h]
  have hres:GrR l nb rb (G.length+1) (day,es++[Rd.restE (day - now)]) ((((G.set eb .dead).set rb (.cells [.vs 7 (l.road.parts.map ptE),.sl (G.length+1) 0 (es.length+1) 7])).set nb (.cells [.int .i64 day]))++[.cells (evCs [Rd.restE (day - now)]),.cells (evCs es++evCs [Rd.restE (day - now)])]):=by
   refine ⟨(((hn.set _ hne3).set _ (Ne.symm hne)).here _).app _,?_,?_⟩
   ·have e:(es++[Rd.restE (day - now)]).length=es.length+1:=by simp
    dsimp only
    rw[e]
    exact (((hr.set _ hne2).here _).set _ hne).app _
   ·dsimp only
    rw[ycq]
    exact hb (by rw[List.getElem?_append_right (by simp)];simp)
  have HR:=hideP hres
  have hw:IntKind.i64.wrap (day - now)=day - now:=zaf (by omega) (by omega)
  have hpl:=ybk es
  have hel:=ybl es
  have hb1:1≤bound:=by decide
  have hb2:es.length+1≤bound:=by unfold bound;omega
  have n3:rb≠nb:=Ne.symm hne
  have n4:rb≠eb:=Ne.symm hne2
  have n5:nb≠eb:=Ne.symm hne3
  obtain ⟨A1,A2,A3⟩:=hn
  obtain ⟨B1,B2,B3⟩:=hr
  obtain ⟨D1,D2,D3⟩:=he
  have hlt:(now:Int)<day:=h
  clear hres hl d0 d1 h0 h1
  unfold Wb Wa af206 Zq Zu Zm Zl Zo Zs Za Zf Zt Zn Zi
  simp only[zipI] at *
  refine gB ?_
  refine zac (v:=.tup []) (.inr rfl) rfl (by simp) (by simp only[resL];simp[*,resV]) ⟨rfl,⟨G.length+1,?_,.inr (by omega)⟩,?_,?_⟩
  ·have:=HR.out
   rw[show evCs [Rd.restE (day - now)]=[.int .i64 1,.int .i64 0,.int .i64 0,.int .i64 (day - now),.int .i64 0,.int .i64 0,.int .i64 0] from rfl] at this
   simpa using this
  ·intro j hj
   simp at hj
   omega
  ·intro h;simp at h
 ·rw[if_neg h]
  have HR:=hideP (show GrR l nb rb eb (now,es) G from ⟨hn,hr,he⟩)
  obtain ⟨A1,A2,A3⟩:=hn
  clear hr he hl d0 d1 h0 h1
  unfold Wb Wa af206 Zq Zu Zm Zl Zo Zs Za Zf Zt Zn Zi
  simp only[zipI] at *
  refine gB ?_
  exact zac (v:=.tup []) (.inr rfl) rfl (by simp) (by simp only[resL];simp[*,resV]) ⟨rfl,⟨eb,HR.out,.inl rfl⟩,by simp,fun _=>rfl⟩
theorem yel {C:Cfg}{n0:Nat}(hC:C.calm=true)(hwh:∀ f,C.whole f=true)(h0:Has C 206 af206)(l:Ld.Lo):UntC (Ev.call C (n0+1)) l:=by
 intro G nb rb eb s day hG h1 h2 h3 h4 h5 h6 h7 h8
 obtain ⟨v,hp,tc,G',c1,⟨rfl,⟨eb',e1,e2⟩,e3,e4⟩,k1,k2,c3,c4⟩:=zcw (first:=[]) (captured:=[.ptr nb 0,.ptr rb 0]) (args:=[.int .i64 day]) (H:=G) hC hwh h0 (le' rfl) (ygr C (Ev.call C n0) l G nb rb eb s day hG h1 h2 h3 h4 h5 h6 h7 h8)
 by_cases ht:tc=[]
 ·have hG':G'=G:=c4 rfl ht
  have hhp:=e4 ht
  subst hhp
  rw[hG'] at c1 k2
  exact ⟨hp,eb',tc,c1,e1,e2,k2,e3⟩
 ·have hG':G'=hp:=c3 (.inr ht)
  subst hG'
  exact ⟨G',eb',tc,c1,e1,e2,k2,e3⟩
end Ro
end Ev
namespace Rd
theorem zoh {r:Road}:∀ (l:List Evt),(∀ v∈l,v.kind=0→v.load.hi - v.load.lo≤2)→(allR l).length≤3 ^ l.length
 |[],_=>by simp[allR]
 |v::l,h=>by
  have ih:=zoh (r:=r) l fun w hw=>h w (by simp[hw])
  rw[allR]
  split
  ·rename_i hk
   have h2:=h v (by simp) hk
   have:((Clm.spanL v.load).flatMap fun k=>(allR l).map (k::·)).length≤(Clm.spanL v.load).length * 3 ^ l.length:=Ev.Ro.flat_le _ _ _ fun k _=>by simpa using ih
   rw[Clm.span_len] at this
   have h3:(v.load.hi+1 - v.load.lo).toNat≤3:=by omega
   have h4:=Nat.mul_le_mul_right (3 ^ l.length) h3
   rw[List.length_cons,Nat.pow_succ]
   omega
  ·have:0<3 ^ l.length:=Nat.pow_pos (by decide)
   rw[List.length_map,List.length_cons,Nat.pow_succ]
   omega
theorem allR_few {r:Road}(hr:Fine r):(allR r.events).length≤59049:=by
 have h1:=zoh (r:=r) r.events fun v hv hk=>by rcases hr.event v hv with h|h|h<;>omega
 have h2:3 ^ r.events.length≤3 ^ 10:=Nat.pow_le_pow_right (by decide) hr.events
 omega
end Rd
namespace Ev
namespace Ro
open K
attribute [local simp] ev1 wantG spineK spine float xnew xval xeff zab zae zau zah zai addFl cellsOf pickC alive slLen slFt binI maxA maxK minA minK aeqK aeqS AV.cells spA zad fillA setAt bitsI nat_nn zav AV.plain apart
set_option maxRecDepth 100000
set_option maxHeartbeats 4000000
def spCs (s:Clm.Sp):List AV:=[.int .i64 s.lo,.int .i64 s.hi]
def SpsV (v:AV)(H:List AB)(ds:List Clm.Sp):Prop:=(v=.nils∧ds=[])∨∃ b,v=.sl b 0 ds.length 2∧H[b]?=some (.cells (ds.flatMap spCs))
theorem zux (ds:List Clm.Sp)(x:Clm.Sp):Clm.hull (ds++[x])=if ds=[] then x else (Clm.hull ds).either x:=by
 cases ds with
 |nil=>simp[Clm.hull]
 |cons a l=>simp[Clm.hull]
theorem zqd (C:Cfg)(hC:C.calm=true)(call:CallF)(H:List AB)(v:AV)(ds:List Clm.Sp)(hv:SpsV v H ds)(hl:ds.length≤900000):Wb C call H af175 [v]
  (fun w _hp tc=>w=spA (Clm.hull ds)∧tc=[]):=by
 unfold Wb Wa af175 Zq Zu Zm Zl Zo Zs Za Zb Zf Zg Zj Zt Zn Zi
 have n3:∀ n,¬ H.length+n<H.length:=by omega
 have n4:¬ H.length<H.length:=by omega
 rcases hv with ⟨rfl,rfl⟩|⟨b,rfl,hb⟩
 ·simp only[zipI,Clm.hull]
  refine gA ?_
  refine zan hC 0 (by decide) (fun i st=>st={ tm:=tmA 28 [(7,.int .i64 0),(6,.int .i64 0),(5,.nils),(2,.ptr H.length 0)],df:=[],hp:=H++[.cells [.int .i64 0,.int .i64 0]],tc:=[] }) ?_ (fun i st hi=>absurd hi (by omega)) ?_
  ·(exact invP)
  ·rintro st rfl
   refine gA ?_
   exact zac (.inl rfl) rfl (by simp) (by simp only[resL,resOf,zaa];simp[*,pickC,resV,spA]) ⟨rfl,rfl⟩
 ·obtain ⟨x0,x1,x2,x3,x4,x5⟩:=bk' hb
  have wl:=zbk spCs 2 (fun _=>rfl) ds
  have w1:=zfb spCs 2 (fun _=>rfl) ds
  have hH:=hideP hb
  clear hb
  generalize ds.flatMap spCs=cs at *
  simp only[zipI]
  refine gA ?_
  refine zan hC ds.length (by unfold fuelL;omega) (fun i st=>∃ J,st={ tm:=tmA 28 [(7,.int .i64 i),(6,.int .i64 ds.length),(5,.sl b 0 ds.length 2),(2,.ptr H.length 0)],df:=[],hp:=H++.cells [.int .i64 (Clm.hull (ds.take i)).lo,.int .i64 (Clm.hull (ds.take i)).hi]::J,tc:=[] }) ?_ ?_ ?_
  ·refine ⟨[],?_⟩
   exact invP
  ·rintro i st hi ⟨J,rfl⟩
   have hgi:ds[i]?=some ds[i]:=List.getElem?_eq_getElem hi
   generalize ds[i]=x at hgi
   have e1:=w1 i x hgi
   have hs:=zux (ds.take i) x
   have ht:ds.take (i+1)=ds.take i++[x]:=by rw[List.take_add_one,hgi];rfl
   rw[← ht] at hs
   have hwi:IntKind.i64.wrap (↑i+1)=↑i+1:=zaf (by omega) (by omega)
   have e4:i * 2+2≤ds.length * 2:=by omega
   simp only[spCs] at e1
   have hi0:ds.take i=[]↔i=0:=by
    rw[List.take_eq_nil_iff]
    constructor
    ·rintro (h|h)
     ·exact h
     ·subst h;simp at hi
    ·exact .inl
   have q1:i=0→Clm.hull (ds.take (i+1))=x:=fun h=>by rw[hs,if_pos (hi0.2 h)]
   have q2:i≠0→Clm.hull (ds.take (i+1))=(Clm.hull (ds.take i)).either x:=fun h=>by rw[hs,if_neg fun e=>h (hi0.1 e)]
   clear w1 hgi hs ht hi0
   generalize Clm.hull (ds.take (i+1))=t at *
   generalize Clm.hull (ds.take i)=s at *
   obtain ⟨lo,hi'⟩:=x
   by_cases h0:i=0
   ·rw[q1 h0]
    clear q1 q2
    subst h0
    have hw1:IntKind.i64.wrap 1=1:=by decide
    simp only[Int.natCast_zero,Nat.zero_mul,List.drop_zero] at *
    refine gA ?_
    with_reducible apply Exists.intro
    exact invP
   ·have h0':((i:Int)==0)=false:=by simp;omega
    rw[q2 h0]
    clear q1 q2
    simp only[Clm.Sp.either] at *
    refine gA ?_
    with_reducible apply Exists.intro
    exact invP
  ·rintro st ⟨J,rfl⟩
   rw[List.take_length]
   clear w1
   generalize Clm.hull ds=s at *
   refine gA ?_
   exact zac (v:=spA s) (.inl rfl) rfl (by simp) (by simp only[resL,resOf,zaa];simp[*,pickC,resV,spA]) ⟨rfl,rfl⟩
def EveryC (call:CallF)(r:Rd.Road):Prop:=∀ (H:List AB) (xb:Nat) (w z:AV),H[xb]?=some (.cells (roadCs r++[w,z]))→call (.fn (.func 136) [] []) [.ptr xb 0] H=some (.ret (.int .u64 ((Rd.everyR r:Nat):Int)),H,[])
def WayF (call:CallF)(F:AV)(r:Rd.Road)(xb mb eb n:Nat)(H0:List AB)(g:Rd.Way→List Int→Clm.Sp):Prop:=∀ G,Kp [mb] H0 G→Rx r xb mb eb G→∀ ls∈Rd.allR r.events,∀ w∈Rd.waysR r n ls (Rd.everyR r),call F [.agg (wayCs w),.agg (arr10 (fnOf ls))] G=some (.ret (.agg [.int .i64 (g w ls).lo,.int .i64 (g w ls).hi]),G,[])
def JoinC (call:CallF):Prop:=∀ (H:List AB) (v:AV) (ds:List Clm.Sp),SpsV v H ds→ds.length≤900000→call (.fn (.func 175) [] []) [v] H=some (.ret (.agg [.int .i64 (Clm.hull ds).lo,.int .i64 (Clm.hull ds).hi]),H,[])
def SJ (r:Rd.Road)(n:Nat)(g:Rd.Way→List Int→Clm.Sp)(o:Nat)(d:List (List Int))(W:List Nat)(G:List AB):Prop:=∃ lv,G[o+4]?=some (.cells [lv])∧Gl spCs 2 (o+9) G W (d.flatMap fun ls=>(Rd.waysR r n ls (Rd.everyR r)).map fun w=>g w ls) lv
theorem zdy {r:Rd.Road}(hr:Rd.Fine r){n:Nat}(hn:n<r.parts.length)(ls:List Int)(k:Nat):(Rd.waysR r n ls k).length≤9:=Nat.le_trans (List.length_filterMap_le _ _) (zjz hr hn)
structure SIn (r:Rd.Road) (xb mb eb:Nat) (H:List AB) (o gl b:Nat) (F:AV) (ws:List Rd.Way) (R:List AV) (rz:ALoop) (W0:List Nat) (n3:Nat) (W:List Nat) (ds:List Clm.Sp) (hp:List AB):Prop where
 x:Rx r xb mb eb hp
 f:hp[o+2]?=some (.cells [F])
 r:hp[gl]?=some (.cells R)
 w:hp[b]?=some (.cells (ws.flatMap wayCs))
 l:hp[o+8]?=some (.loop rz)
 g:∃ lv,hp[o+4]?=some (.cells [lv])∧Gl spCs 2 (o+9) hp W ds lv
 ww:∀ j∈W,j∈W0∨n3≤j
 k:Kp [mb] H hp
 len:n3≤hp.length
theorem zsp (C:Cfg)(hC:C.calm=true)(hwh:∀ f,C.whole f=true)(n0 m:Nat)(r:Rd.Road)(hr:Rd.Fine r)(hTd:ToldC (Ev.call C m))(hI:ToldI C (n0+1) m r)(hE:EveryC (Ev.call C m) r)(hE0:EveryC (Ev.call C n0) r)(hW:WaysC (Ev.call C n0) r)(hJo:JoinC (Ev.call C m))(H:List AB)(xb mb eb:Nat)(hX:Rx r xb mb eb H)(n:Nat)(hn:n<r.parts.length)(fl:Fn)(fa fb:List AV)(g:Rd.Way→List Int→Clm.Sp)(hF:WayF (Ev.call C n0) (.fn fl fa fb) r xb mb eb n H g):
  Wb C (Ev.call C m) H af166 [.ptr xb 0,.int .i64 n,.fn fl fa fb]
   (fun v hp tc=>v=spA (Rd.spanR r n g)∧(∀ j∈tc,j=mb)∧Rx r xb mb eb hp):=by
 have hx:=hX.xl
 have hm:=hX.ml
 have he:=hX.el
 have hne:=hX.ne
 have hne2:=hX.ne2
 have hev:=fun K=>hE (H++K) xb _ _ (hX.app K).x
 unfold ToldC at hTd
 unfold Wb Wa af166 Zq Zr Zu Zm Zl Zo Zs Zd Ze Zc Za Zb Zg Zj Zt Zn Zi
 simp only[zipI]
 have HF:=hideP (And.intro hF (And.intro hW (And.intro hE0 hJo)))
 clear hF hW hE hE0 hJo
 refine gE ?_
 refine zbz hC hwh (hI xb mb eb (H.length+5) (H.length+6) (Rd.everyR r)) (by simp[zab]) rfl [H.length+4] (by simp) (by simp;omega)
  (SJ r n g H.length) (fun _ _ _=>False) (fun rz=>?_) (fun G G' h k=>h.same fun j hj=>k j (by simp;omega) (by simp;omega))
  (fun rz=>⟨.nils,by simp,.none⟩) (fun rz=>(hX.app _).app _) (fun d W G G' ⟨lv,h1,h2⟩ _ k=>?_) (fun _ _ _ _ h _=>h) ?_ ?_ (fun _ _ _ _ _ _ _ _ _ _ _ h=>h.elim)
 ·refine ⟨by simp,by simp,?_,?_,by omega,by omega,?_,?_,by simp;omega⟩<;>(simp;omega)
 ·simp only[List.length_append,List.length_cons,List.length_nil,Nat.zero_add,Nat.add_assoc,Nat.reduceAdd] at k
  exact ⟨lv,(k _ (get_lt h1) (.inl (by omega)) (by simp;omega) (by omega)).trans h1,h2.same fun j hj hl=>k j hl (.inr hj) (by have:=h2.lt j hj;simp;omega) (by have:=h2.lt j hj;omega)⟩
 ·rintro d s W G rz hpr ⟨lv,h4,hG⟩ hY hK hl hWb
  simp only[List.length_append,List.length_cons,List.length_nil,Nat.zero_add,Nat.add_assoc,Nat.reduceAdd] at hl hWb ⊢
  rw[setP1]
  obtain ⟨hF,hW,hE0,hJo⟩:=HF.out
  have hst:s∈Rd.toldR r (Rd.everyR r):=hpr.subset (by simp)
  obtain ⟨hs,hsw⟩:=Rd.told_in hst
  obtain ⟨hld,hls⟩:=all_ld hr hs
  have hRl:=zbg (fnOf s)
  have hRp:=zcr (fnOf s)
  have hRa:=zbs (fnOf s)
  have hW':=fun G h=>hW G xb mb eb h n hn (fnOf s) hld (Rd.everyR r)
  have hF':=fun G k h=>hF G k h s hs
  have hwf:=zdy hr hn s (Rd.everyR r)
  have hdl:d.length+1≤59049:=by
   have h1:=hpr.length_le
   have h2:(Rd.toldR r (Rd.everyR r)).length≤(Rd.allR r.events).length:=List.length_filter_le _ _
   have:=Rd.allR_few hr
   simp at h1;omega
  have hdf:(d.flatMap fun ls=>(Rd.waysR r n ls (Rd.everyR r)).map fun w=>g w ls).length≤d.length * 9:=flat_le _ _ _ fun ls _=>by rw[List.length_map];exact zdy hr hn ls _
  simp only[ldA]
  generalize arr10 (fnOf s)=R at *
  refine gA ?_
  refine ⟨trivial,?_,?_⟩
  ·rw[List.getElem?_append_left (by omega)]
  obtain ⟨G2,hG2,k1,k2,k3,k4⟩:=zdg (G:=G++[.cells R]) (l:=H.length+8) (.loop rz) (by simp;omega)
  rw[← hG2]
  clear hG2
  have j3:∀ {j x},G[j]?=some x→j≠H.length+8→G2[j]?=some x:=fun {j x} hx hj=>by rw[k3 _ hj,List.getElem?_append_left (get_lt hx)];exact hx
  have e0:=j3 (hK.at (b:=H.length) (x:=.cells [.ptr xb 0]) (by simp) (by simp;omega)) (by omega)
  have e1:=j3 (hK.at (b:=H.length+1) (x:=.cells [.int .i64 n]) (by simp) (by simp;omega)) (by omega)
  have e2:=j3 (hK.at (b:=H.length+2) (x:=.cells [.fn fl fa fb]) (by simp) (by simp;omega)) (by omega)
  have e4:=j3 h4 (by omega)
  have e5:G2[G.length]?=some (.cells R):=by rw[k3 _ (by omega)];simp
  have kl2:G2.length=G.length+1:=by rw[k1];simp
  have hX2:Rx r xb mb eb G2:=(hY.app _).kp k4 (by simp;omega) (by simp;omega) (by simp;omega)
  have hKH : Kp [mb] H G2 := ⟨by omega, fun b hb hn => by
   rw[k3 b (by omega),List.getElem?_append_left (by omega),hK.get b (by simp;omega) (by simp at hn ⊢;omega),List.getElem?_append_left hb]⟩
  have hG2':Gl spCs 2 (H.length+9) G2 W (d.flatMap fun ls=>(Rd.waysR r n ls (Rd.everyR r)).map fun w=>g w ls) lv:=hG.same fun j hj hl=>by rw[k3 _ (by have:=hG.lt j hj;omega),List.getElem?_append_left hl]
  obtain ⟨v,H3,tc3,c1,c2,c3,c4,W3,c5⟩:=hW' G2 hX2
  have he0:=hE0 G2 xb _ _ hX2.x
  rw[hls] at c5
  have hne3:=hsw n hn
  generalize hws:Rd.waysR r n s (Rd.everyR r)=ws at *
  obtain ⟨b,hb1,hb2,rfl⟩:∃ b,G2.length≤b∧H3[b]?=some (.cells (ws.flatMap wayCs))∧v=.sl b 0 ws.length 5:=by
   cases c5 with
   |none=>exact absurd rfl hne3
   |some b _ z1 z2 z3=>exact ⟨b,z1,z2,rfl⟩
  have nt:∀ {j},H.length≤j→j∉tc3:=fun hj ht=>by have:=c2 _ ht;omega
  have c3':Kp [mb] G2 H3:=c3.mono fun j _ h=>by simpa using c2 j h
  obtain ⟨ds,hds⟩:∃ ds,ds=d.flatMap fun ls=>(Rd.waysR r n ls (Rd.everyR r)).map fun w=>g w ls:=⟨_,rfl⟩
  rw[← hds] at hG2' hdf
  have hS0:SIn r xb mb eb H H.length G.length b (.fn fl fa fb) ws R rz W H3.length W (ds++(ws.take 0).map fun w=>g w s) H3:=⟨c4,c3.at e2 (nt (by omega)),c3.at e5 (nt (by omega)),hb2,c3.at k2 (nt (by omega)),⟨lv,c3.at e4 (nt (by omega)),by simpa using hG2'.kp c3 fun j hj=>nt (by have:=hG2'.lt j hj;omega)⟩,fun j hj=>.inl hj,hKH.trans c3',Nat.le_refl _⟩
  have hl3:=c3.len
  have hWlt:∀ j∈W,j<G.length:=fun j hj=>(hG.lt j hj).2
  have hb3:=get_lt hb2
  obtain ⟨x0,x1,x2,x3,x4,x5⟩:=bk' e0
  obtain ⟨y0,y1,y2,y3,y4,y5⟩:=bk' e1
  obtain ⟨w0,w1,w2,w3,w4,w5⟩:=bk' e5
  obtain ⟨b0,b1,b2,b3,b4,b5⟩:=bk' hb2
  have HA:=hideP (And.intro hS0 (And.intro hpr (And.intro hds (And.intro hdf (And.intro hws (And.intro c2 (And.intro hF' (And.intro hWb (And.intro kl2 (And.intro hl (And.intro hb1 (And.intro hl3 (And.intro hWlt hb3)))))))))))))
  clear hS0 hpr hds hdf hws c2 hF' hWb kl2 hl hb1 hWlt hb3 hF hW hE0 hJo hst hs hsw hld hls hW' hK hY hG h4 e0 e1 e2 e4 e5 k1 k2 k3 k4 j3 hX2 hKH hG2' c3 c3' c4 c5 hl3 hne3 hb2 hX nt hTd hI hev
  refine gE ?_
  with_reducible refine zan hC ws.length (by unfold fuelL;omega) (fun i st=>∃ hp tc W',SIn r xb mb eb H H.length G.length b (.fn fl fa fb) ws R rz W H3.length W' (ds++(ws.take i).map fun w=>g w s) hp∧(∀ j∈tc,j=H.length+8∨j=H.length+4∨j=mb∨j∈W)∧st={ tm:=tmA 37 [(23,.int .i64 i),(22,.int .i64 ws.length),(21,.sl b 0 ws.length 5),(8,.ptr G.length 0),(7,.ptr (H.length+4) 0),(5,.ptr (H.length+2) 0)],df:=[],hp:=hp,tc:=tc }) ?_ ?_ ?_
  ·obtain ⟨hS0,_,_,_,_,c2,_⟩:=HA.out
   refine ⟨_,_,_,hS0,fun j hj=>?_,st_is (by simp[zag,zal]) rfl rfl rfl⟩
   rcases List.mem_append.1 hj with h|h
   ·exact .inr (.inr (.inl (c2 j (List.mem_filter.1 h).1)))
   ·exact .inl (by simpa using h)
  ·clear x0 x1 x2 x3 x4 x5 y0 y1 y2 y3 y4 y5 w0 w1 w2 w3 w4 w5 b0 b1 b2 b3 b4 b5
   rintro i st hi ⟨hp,tc,W',hS,htc,rfl⟩
   obtain ⟨_,hpr,hds,hdf,hws,c2,hF',hWb,kl2,hl,hb1,hl3,hWlt,hb3⟩:=HA.out
   have hgi:ws[i]?=some ws[i]:=List.getElem?_eq_getElem hi
   have hwm:ws[i]∈ws:=List.getElem_mem hi
   generalize ws[i]=w at hgi hwm
   have hFk:=fun K=>hF' (hp++K) (hS.k.trans (Kp.app _ _)) (hS.x.app K) w hwm
   have hat:=zfb wayCs 5 (fun _=>rfl) ws i w hgi
   have hcl:=zbk wayCs 5 (fun _=>rfl) ws
   have hwi:IntKind.i64.wrap (↑i+1)=↑i+1:=zaf (by omega) (by omega)
   have e4:i * 5+5≤ws.length * 5:=by omega
   have hnext:(ds++(ws.take i).map fun w=>g w s)++[g w s]=ds++(ws.take (i+1)).map fun w=>g w s:=by
    rw[List.take_add_one,hgi];simp
   have hdl2:(ds++(ws.take i).map fun w=>g w s).length+1≤bound:=by
    unfold bound
    simp only[List.length_append,List.length_map,List.length_take]
    omega
   obtain ⟨x0,x1,x2,x3,x4,x5⟩:=bk' hS.f
   obtain ⟨w0,w1,w2,w3,w4,w5⟩:=bk' hS.r
   obtain ⟨b0,b1,b2,b3,b4,b5⟩:=bk' hS.w
   obtain ⟨lv,hlv,hGl⟩:=hS.g
   obtain ⟨u0,u1,u2,u3,u4,u5⟩:=bk' hlv
   have hne1:¬ H.length+4=G.length:=by omega
   have HS:=hideP (And.intro hS (And.intro htc (And.intro hnext hGl)))
   have HB:=hideP (And.intro hWb (And.intro kl2 (And.intro hl (And.intro hb1 (And.intro hl3 (And.intro hWlt hb3))))))
   simp only[wayCs] at hat hFk
   generalize hDS:(ds++(ws.take i).map fun w=>g w s)=DS at *
   generalize ws.flatMap wayCs=cw at *
   clear hpr hds hdf hws c2 hF' hgi hwm hnext hDS htc hS hWb kl2 hl hb1 hl3 hWlt hb3
   have hb1':1≤bound:=by decide
   generalize g w s=sp at *
   have tcs:∀ (tc':List Nat),(∀ j∈tc',j∈tc∨j<G.length∧(j=H.length+4∨j∈W'∨hp.length≤j))→∀ j∈tc',j=H.length+8∨j=H.length+4∨j=mb∨j∈W:=fun tc' h j hj=>by
    obtain ⟨_,q2,_,_,q5,_,_⟩:=HB.out
    have:=HS.out.1.len
    rcases h j hj with g|⟨g1,g|g|g⟩
    ·exact HS.out.2.1 j g
    ·exact .inr (.inl g)
    ·rcases HS.out.1.ww j g with q|q
     ·exact .inr (.inr (.inr q))
     ·omega
    ·omega
   have HT:=hideP tcs
   clear tcs
   have hone:∀ (hp':List AB) (nb:Nat),Kp ((H.length+4)::W') hp hp'→(∀ j∈W',j=nb→False)→hp'[H.length+4]?=some (.cells [.sl nb 0 (DS.length+1) 2])→hp'[nb]?=some (.cells ((DS++[sp]).flatMap spCs))→hp.length≤nb→SIn r xb mb eb H H.length G.length b (.fn fl fa fb) ws R rz W H3.length [nb] (DS++[sp]) hp':=by
    intro hp' nb k1 _ k3 k4 k5
    obtain ⟨hS,htc,hnext,hGl⟩:=HS.out
    obtain ⟨q1,q2,q3,q4,q5,q6,q7⟩:=HB.out
    have nw:∀ {j},j<G.length+1∨G2.length≤j∧j<H3.length→j≠H.length+4→(j<H.length+9∨G.length≤j)→j∉(H.length+4)::W':=by
     intro j h1 h2 h3 h4
     rcases List.mem_cons.1 h4 with h|h
     ·exact h2 h
     ·rcases hS.ww j h with h|h
      ·have:=q1 j h;have:=q6 j h;omega
      ·omega
    have hl:=hS.len
    refine ⟨hS.x.kp k1 (nw (.inl (by omega)) (by omega) (.inl (by omega))) (nw (.inl (by omega)) (by omega) (.inl (by omega))) (nw (.inl (by omega)) (by omega) (.inl (by omega))),k1.at hS.f (nw (.inl (by omega)) (by omega) (.inl (by omega))),k1.at hS.r (nw (.inl (by omega)) (by omega) (.inr (by omega))),k1.at hS.w (nw (.inr ⟨by omega,by omega⟩) (by omega) (.inr (by omega))),k1.at hS.l (nw (.inl (by omega)) (by omega) (.inl (by omega))),⟨_,k3,?_⟩,fun j hj=>?_,⟨by have:=k1.len;have:=hS.k.len;omega,fun q hq hn=>(k1.get q (by have:=hS.k.len;omega) (nw (.inl (by omega)) (by omega) (.inl (by omega)))).trans (hS.k.get q hq hn)⟩,by have:=k1.len;omega⟩
    ·have:=Gl.some (f:=spCs) (k:=2) (lo:=H.length+9) (G:=hp') nb (DS++[sp]) (by omega) k4 (by simp)
     simpa using this
    ·simp at hj;subst hj;exact .inr (by omega)
   have HO:=hideP hone
   clear hone
   cases hGl with
   |none=>
    refine gG ?_
    obtain ⟨hp',hhp⟩:∃ hp',hp'=hp.set (H.length+4) (.cells [.sl (hp.length+2) 0 1 2])++[.cells [.int .i64 w.part.stiff,.int .i64 w.part.rise,.int .i64 w.part.full,.int .i64 w.first.lo,.int .i64 w.first.hi],.cells [.int .i64 sp.lo,.int .i64 sp.hi],.cells [.int .i64 sp.lo,.int .i64 sp.hi]]:=⟨_,rfl⟩
    have hn:=HO.out hp' (hp.length+2) (by rw[hhp];exact ((Kp.refl _ hp).set _ _ (by simp)).trans (Kp.app _ _)) (by simp) (by rw[hhp,List.getElem?_append_left (by simpa using u0),List.getElem?_set_self u0];rfl) (by rw[hhp,List.getElem?_append_right (by simp)];simp[spCs]) (by omega)
    rw[← hhp]
    rw[HS.out.2.2.1] at hn
    refine ⟨hp',List.filter (fun x=>decide (x<G.length)) [H.length+4]++(List.filter (fun x=>decide (x<G.length)) [hp.length]++tc),_,hn,HT.out _ fun j hj=>?_,st_is (by simp[zag,zal]) rfl rfl rfl⟩
    simp only[List.mem_append,List.mem_filter,List.mem_singleton,decide_eq_true_eq] at hj
    rcases hj with h|h|h
    ·exact .inr ⟨h.2,.inl h.1⟩
    ·exact .inr ⟨h.2,.inr (.inr (by omega))⟩
    ·exact .inl h
   |some bl _ g1 g2 g3=>
    have hcl2:=zbk spCs 2 (fun _=>rfl) DS
    have hcp:=zcg spCs (fun _=>rfl) DS
    obtain ⟨q0,q1,q2,q3,q4,q5⟩:=bk' g2
    have hbb:¬ bl=H.length+4:=by omega
    have hbb2:¬ H.length+4=bl:=by omega
    have hbg:bl≠G.length:=by
     obtain ⟨_,q2,_,_,q5,q6,q7⟩:=HB.out
     rcases HS.out.1.ww bl (by simp) with q|q
     ·have:=q6 bl q;omega
     ·omega
    have HC:=hideP (And.intro g1 (And.intro g2 g3))
    clear g1 g2 g3
    generalize hcs:DS.flatMap spCs=cs at *
    have HC2:=hideP hcs
    clear hcs
    refine gG ?_
    obtain ⟨g1,g2,g3⟩:=HC.out
    have hcs:=HC2.out
    obtain ⟨hp',hhp⟩:∃ hp',hp'=(hp.set bl .dead).set (H.length+4) (.cells [.sl (hp.length+2) 0 (DS.length+1) 2])++[.cells [.int .i64 w.part.stiff,.int .i64 w.part.rise,.int .i64 w.part.full,.int .i64 w.first.lo,.int .i64 w.first.hi],.cells [.int .i64 sp.lo,.int .i64 sp.hi],.cells (cs++[.int .i64 sp.lo,.int .i64 sp.hi])]:=⟨_,rfl⟩
    have hn:=HO.out hp' (hp.length+2) (by rw[hhp];exact (((Kp.refl _ hp).set _ _ (by simp)).set _ _ (by simp)).trans (Kp.app _ _)) (by simp;omega) (by rw[hhp,List.getElem?_append_left (by simpa using u0),List.getElem?_set_self (by simpa using u0)]) (by rw[hhp,List.getElem?_append_right (by simp),List.flatMap_append,hcs];simp[spCs]) (by omega)
    rw[← hhp]
    rw[HS.out.2.2.1] at hn
    refine ⟨hp',List.filter (fun x=>decide (x<G.length)) [H.length+4]++(List.filter (fun x=>decide (x<G.length)) [bl]++(List.filter (fun x=>decide (x<G.length)) [hp.length]++tc)),_,hn,HT.out _ fun j hj=>?_,st_is (by simp[zag,zal]) rfl rfl rfl⟩
    simp only[List.mem_append,List.mem_filter,List.mem_singleton,decide_eq_true_eq] at hj
    rcases hj with h|h|h|h
    ·exact .inr ⟨h.2,.inl h.1⟩
    ·exact .inr ⟨h.2,.inr (.inl (by simp[h.1]))⟩
    ·exact .inr ⟨h.2,.inr (.inr (by omega))⟩
    ·exact .inl h
  ·clear x0 x1 x2 x3 x4 x5 y0 y1 y2 y3 y4 y5 w0 w1 w2 w3 w4 w5 b0 b1 b2 b3 b4 b5
   rintro st ⟨hp,tc,W',hS,htc,rfl⟩
   rw[List.take_length] at hS
   have HS:=hideP (And.intro hS htc)
   clear hS htc
   refine gA ?_
   obtain ⟨hS,htc⟩:=HS.out
   obtain ⟨_,hpr,hds,hdf,hws,c2,hF',hWb,kl2,hl,hb1,hl3,hWlt,hb3⟩:=HA.out
   obtain ⟨lv',h1,h2⟩:=hS.g
   refine ⟨by simp,hS.l,fun j hj=>?_,hS.x,fun _=>⟨W',fun j hj=>?_,lv',h1,?_⟩,fun h=>absurd rfl h,fun _ _ h=>h.elim⟩
   ·rcases htc j hj with h|h|h|h
    ·exact .inl h
    ·exact .inr (.inl (by simp[h]))
    ·exact .inr (.inr (.inl (by simp[h])))
    ·exact .inr (.inr (.inr h))
   ·rcases hS.ww j hj with h|h
    ·exact .inl h
    ·exact .inr (by omega)
   ·rw[hds] at h2
    rw[List.flatMap_append,List.flatMap_cons,List.flatMap_nil,List.append_nil,hws]
    exact h2
 ·rintro H' tc W h1 h2 h3 h4 h5 h6 ⟨lv,h7,h8⟩
  simp only[List.length_append,List.length_cons,List.length_nil,Nat.zero_add,Nat.add_assoc,Nat.reduceAdd] at h1 h4 h5 h6 ⊢
  obtain ⟨hF,hW,hE0,hJo⟩:=HF.out
  obtain ⟨f0,f1,f2,f3,f4,f5⟩:=bk' h7
  have hH3:H'[H.length+3]?=some (.cells [.int .i64 0,.int .i64 0]):=h2.at (by simp) fun h=>by have:=h1 _ h (by omega);simp at this;omega
  obtain ⟨g0,g1,g2,g3,g4,g5⟩:=bk' hH3
  have hsp:Rd.spanR r n g=Clm.hull ((Rd.toldR r (Rd.everyR r)).flatMap fun ls=>(Rd.waysR r n ls (Rd.everyR r)).map fun w=>g w ls):=rfl
  have hlen:((Rd.toldR r (Rd.everyR r)).flatMap fun ls=>(Rd.waysR r n ls (Rd.everyR r)).map fun w=>g w ls).length≤900000:=by
   have h1:(Rd.toldR r (Rd.everyR r)).length≤(Rd.allR r.events).length:=List.length_filter_le _ _
   have h2:=Rd.allR_few hr
   have h3:=flat_le (fun ls=>(Rd.waysR r n ls (Rd.everyR r)).map fun w=>g w ls) 9 (Rd.toldR r (Rd.everyR r)) fun ls _=>by rw[List.length_map];exact zdy hr hn ls _
   omega
  rw[hsp]
  generalize ((Rd.toldR r (Rd.everyR r)).flatMap fun ls=>(Rd.waysR r n ls (Rd.everyR r)).map fun w=>g w ls)=ds at *
  have hjo := hJo H' lv ds (by
   cases h8 with
   |none=>exact .inl ⟨rfl,rfl⟩
   |some b _ q1 q2 q3=>exact .inr ⟨b,rfl,q2⟩) hlen
  have hlv:lv=.nils∨∃ b k,lv=.sl b 0 k 2:=by
   cases h8 with
   |none=>exact .inl rfl
   |some b _ q1 q2 q3=>exact .inr ⟨b,_,rfl⟩
  have HH:=hideP (And.intro h1 h3)
  have HD:=hideP h4
  clear h1 h2 h3 h6 h8 h4 h5 h7 hTd hI hX hF hW hE0 hJo hev hH3 hsp hlen HF
  simp only[OutB,Then]
  have hn4:¬ H.length+7=H.length+3:=by omega
  have fin:∀ tms,(tmA 37 tms).getD 6 .unk=.ptr (H.length+3) 0→∀ tc',(∀ j∈tc',j<H.length∧(j∈tc∨H.length≤j))→Ends C H.length [ARes.cell 6 (some 2)] (fun v hp tc=>v=spA (Clm.hull ds)∧(∀ j∈tc,j=mb)∧Rx r xb mb eb hp) AExit.ret { tm:=tmA 37 tms,df:=[.mark (H.length+7)],hp:=H'.set (H.length+3) (.cells [.int .i64 (Clm.hull ds).lo,.int .i64 (Clm.hull ds).hi]),tc:=tc' }:=by
   intro tms ht tc' htc
   obtain ⟨h1,h3⟩:=HH.out
   refine zbn (v := spA (Clm.hull ds)) (.inl rfl) rfl (by simp only; rw [List.getElem?_set_ne (by omega)]; exact HD.out) (by omega) (by simp; omega) (by
    simp only[resL,resOf,ht]
    rw[List.getElem?_set_ne (by omega),List.getElem?_set_self g0]
    simp[resV,pickC,spA]) ⟨rfl,fun j hj=>?_,h3.kp (((Kp.refl [H.length+3,H.length+7] H').set _ _ (by simp)).set _ _ (by simp)) (by simp;omega) (by simp;omega) (by simp;omega)⟩
   obtain ⟨q1,q2⟩:=htc j hj
   have:=h1 j (q2.resolve_right (by omega)) (by omega)
   simp at this
   omega
  have HN:=hideP fin
  clear fin HH
  rcases hlv with rfl|⟨b,k,rfl⟩
  ·(refine gA ?_)
   refine HN.out _ (by rfl) _ fun j hj=>?_
   simp at hj
   first|exact ⟨hj.2,.inl hj.1⟩|exact ⟨by omega,by rcases hj with h|h<;>first|exact .inr (by omega)|exact .inl h.1⟩
  ·(refine gA ?_)
   refine HN.out _ (by rfl) _ fun j hj=>?_
   simp at hj
   first|exact ⟨hj.2,.inl hj.1⟩|exact ⟨by omega,by rcases hj with h|h<;>first|exact .inr (by omega)|exact .inl h.1⟩
def RestedC (call:CallF):Prop:=∀ (H:List AB) (p:Rd.Tr),TrOk p→∀ h d:Int,-1000000≤h→h≤1000000→0≤d→d≤1000→call (.fn (.func 163) [.agg [.int .i64 p.stiff,.int .i64 p.rise,.int .i64 p.full]] []) [.int .i64 h,.int .i64 d] H=some (.ret (.int .i64 (Rd.rested p h d)),H,[])
theorem ztk {p:Rd.Tr}(hp:TrOk p){h d:Int}(h0:-1000000≤h)(h1:h≤1000000)(d0:0≤d):-1000000≤Rd.rested p h d∧Rd.rested p h d≤60:=by
 have:=Int.mul_nonneg d0 hp.r1
 have:=hp.f1;have:=hp.f2
 unfold Rd.rested
 generalize d * p.rise=y at *
 omega
theorem zzk {p:Rd.Tr}(hp:TrOk p){l:Int}(h0:0≤l)(h1:l≤1000):0≤Rd.sunk p l∧Rd.sunk p l≤2000:=by
 have:=hp.s1;have:=hp.s2
 have b1:Rd.sunk p l≤l+p.stiff - 1:=Int.ediv_le_self _ (by omega)
 exact ⟨Rd.sunk_nn hp.s1 h0,by omega⟩
structure LOk (days load:Int):Prop where
 d0:0≤days
 d1:days≤10
 l0:0≤load
 l1:load≤60
theorem zyd (C:Cfg)(call:CallF)(r:Rd.Road)(hr:Rd.Fine r)(hH:HeightC call r)(hR:RestedC call)(hS:SunkC call)(H:List AB)(xb mb eb:Nat)(hX:Rx r xb mb eb H)(w:Rd.Way)(hp:TrOk w.part)(h:Int)(b1:-1000≤h)(b2:h≤1000)(f:Nat→Int)(hf:LdOk f)(days load:Int)(hL:LOk days load):
  Wb C call H af141 [.ptr xb 0,.agg (wayCs w),.int .i64 h,.agg (arr10 f),.int .i64 days,.int .i64 load]
   (fun v _hp tc=>v=.int .i64 (Rd.leftR r w h (lsOf r.events.length f) days load)∧tc=[]):=by
 obtain ⟨d0,d1,l0,l1⟩:=hL
 have hhC:=fun K=>hH (H++K) xb mb eb (hX.app K) w.part hp h b1 b2 f hf r.events.length (Nat.le_refl _)
 have hbd:=Rd.heightR_bd hr hp.s1 hp.s2 hp.r1 hp.f1 hp.f2 (ls:=lsOf r.events.length f) (fun i=>by rw[zey];split;exact hf i;omega) b1 b2 r.events.length (Nat.le_refl _)
 have he10:=hr.events
 have e:Rd.leftR r w h (lsOf r.events.length f) days load=Rd.rested w.part (Rd.heightR r w.part h (lsOf r.events.length f) r.events.length) days - Rd.sunk w.part load:=rfl
 rw[e];clear e
 generalize Rd.heightR r w.part h (lsOf r.events.length f) r.events.length=y at *
 have hrC:=fun H=>hR H w.part hp y days (by omega) (by omega) d0 (by omega)
 have hrb:=ztk hp (h:=y) (by omega) (by omega) d0
 have hsC:=fun H=>hS H w.part hp load l0 (by omega)
 have hsb:=zzk hp l0 (by omega)
 generalize Rd.rested w.part y days=z at *
 generalize Rd.sunk w.part load=u at *
 have hw:IntKind.i64.wrap (z - u)=z - u:=zaf (by omega) (by omega)
 have hlen:slLen H (evL r eb)=some r.events.length:=by
  unfold evL
  by_cases hn:r.events=[]
  ·rw[if_pos hn,hn];rfl
  ·rw[if_neg hn]
   obtain ⟨x0,x1,x2,x3,x4,x5⟩:=bk' (hX.e hn)
   simp[slLen,alive,x1]
 have hev:(evL r eb=.nils∧r.events.length=0)∨(evL r eb=.sl eb 0 r.events.length 1∧H[eb]?=some (.cells (r.events.map ifA))):=by
  unfold evL
  by_cases hn:r.events=[]
  ·rw[if_pos hn];exact .inl ⟨rfl,by rw[hn];rfl⟩
  ·rw[if_neg hn];exact .inr ⟨rfl,hX.e hn⟩
 have hXx:=hX.x
 have hl:=zbg f
 have hall:=zbs f
 clear hH hR hS hX hrb hsb hbd hlen hp hf b1 b2 d0 d1 l0 l1
 unfold Wb Wa af141 Zq Zr Zm Zo Zd Zc Za Zf Zg Zt Zn
 generalize arr10 f=R at *
 rcases hev with ⟨h1,h2⟩|⟨h1,h2⟩
 ·rw[h1] at hXx
  obtain ⟨y0,y1,y2,y3,y4,y5⟩:=bk' hXx
  simp only[h2,Int.natCast_zero] at hhC
  simp only[zipI,roadCs,List.cons_append,List.nil_append,wayCs] at *
  clear hXx
  refine gE ?_
  exact zac (.inl rfl) rfl (by simp) (by simp only[resL,resOf,zaa];simp[*,resV]) ⟨rfl,rfl⟩
 ·rw[h1] at hXx
  obtain ⟨y0,y1,y2,y3,y4,y5⟩:=bk' hXx
  obtain ⟨x0,x1,x2,x3,x4,x5⟩:=bk' h2
  simp only[zipI,roadCs,List.cons_append,List.nil_append,wayCs] at *
  clear hXx h2
  refine gE ?_
  exact zac (.inl rfl) rfl (by simp) (by simp only[resL,resOf,zaa];simp[*,resV]) ⟨rfl,rfl⟩
def WsV (v:AV)(H:List AB)(ws:List Rd.Way):Prop:=(v=.nils∧ws=[])∨∃ b,v=.sl b 0 ws.length 5∧H[b]?=some (.cells (ws.flatMap wayCs))
theorem WaysV.ws {r:Rd.Road}{n:Nat}{f:Nat→Int}{looks lo:Nat}{v:AV}{H:List AB}(h:WaysV r n f looks lo v H):WsV v H (Rd.waysR r n (lsOf r.events.length f) looks):=by
 obtain ⟨W,h⟩:=h
 generalize Rd.waysR r n (lsOf r.events.length f) looks=ws at *
 cases h with
 |none=>exact .inl ⟨rfl,rfl⟩
 |some b _ z1 z2 z3=>exact .inr ⟨b,rfl,z2⟩
def IndexC (call:CallF)(call0:CallF):Prop:=∀ (H:List AB) (v:AV) (ws:List Rd.Way),WsV v H ws→ws.length≤1000→∀ (fl:Fn) (fa fb:List AV) (p:Rd.Way→Bool),(∀ w∈ws,call0 (.fn fl fa fb) [.agg (wayCs w)] H=some (.ret (.bool (p w)),H,[])) →
 ∃ k:Int,call (.fn (.func 160) [] []) [v,.fn fl fa fb] H=some (.ret (.int .i64 k),H,[])∧decide (0≤k)=ws.any p
theorem zqi (C:Cfg)(hC:C.calm=true)(call:CallF)(H:List AB)(v:AV)(ws:List Rd.Way)(hv:WsV v H ws)(hl:ws.length≤1000)(fl:Fn)(fa fb:List AV)(p:Rd.Way→Bool)(hF:∀ w∈ws,call (.fn fl fa fb) [.agg (wayCs w)] H=some (.ret (.bool (p w)),H,[])):
  Wb C call H af160 [v,.fn fl fa fb]
   (fun v _hp tc=>∃ k:Int,v=.int .i64 k∧decide (0≤k)=ws.any p∧tc=[]):=by
 unfold Wb Wa af160 Zq Zu Zm Zo Za Zb Zg Zj Zt Zn
 rcases hv with ⟨rfl,rfl⟩|⟨b,rfl,hb⟩
 ·simp only[zipI]
  refine gA ?_
  refine zan hC 0 (by decide) (fun i st=>st={ tm:=tmA 19 [(8,.int .i64 0),(7,.int .i64 0),(1,.fn fl fa fb),(0,.nils)],df:=[],hp:=H,tc:=[] }) ?_ (fun i st hi=>absurd hi (by omega)) ?_
  ·(exact invP)
  ·rintro st rfl
   refine gA ?_
   exact zac (v:=.int .i64 (-1)) (.inl rfl) rfl (by simp) endvP ⟨-1,rfl,by simp,rfl⟩
 ·obtain ⟨x0,x1,x2,x3,x4,x5⟩:=bk' hb
  have wl:=zbk wayCs 5 (fun _=>rfl) ws
  have w1:=zfb wayCs 5 (fun _=>rfl) ws
  have HB:=hideP hb
  clear hb
  generalize ws.flatMap wayCs=cs at *
  simp only[zipI]
  refine gA ?_
  refine zan hC ws.length (by unfold fuelL;omega) (fun i st=>(ws.take i).any p=false∧st={ tm:=tmA 19 [(8,.int .i64 i),(7,.int .i64 ws.length),(1,.fn fl fa fb),(0,.sl b 0 ws.length 5)],df:=[],hp:=H,tc:=[] }) ?_ ?_ ?_
  ·refine ⟨by simp,?_⟩
   exact invP
  ·rintro i st hi ⟨hp,rfl⟩
   have hgi:ws[i]?=some ws[i]:=List.getElem?_eq_getElem hi
   have hwm:ws[i]∈ws:=List.getElem_mem hi
   generalize ws[i]=w at hgi hwm
   have e1:=w1 i w hgi
   have hFw:=hF w hwm
   have hwi:IntKind.i64.wrap (↑i+1)=↑i+1:=zaf (by omega) (by omega)
   have e4:i * 5+5≤ws.length * 5:=by omega
   have hnx:(ws.take (i+1)).any p=((ws.take i).any p || p w):=by rw[List.take_add_one,hgi];simp
   have hmem:p w=true→ws.any p=true:=fun h=>List.any_eq_true.2 ⟨w,hwm,h⟩
   have HN:=hideP (And.intro hnx (And.intro hmem hp))
   simp only[wayCs] at e1 hFw
   clear w1 hgi hwm hF hnx hmem hp
   cases hpw:p w with
   |true=>
    rw[hpw] at hFw
    refine gA ?_
    exact zac (v:=.int .i64 i) (.inl rfl) rfl (by simp) endvP ⟨i,rfl,by rw[HN.out.2.1 hpw];simp,rfl⟩
   |false=>
    rw[hpw] at hFw
    refine gA ?_
    refine ⟨by rw[HN.out.1,HN.out.2.2,hpw];rfl,?_⟩
    exact invP
  ·rintro st ⟨hp,rfl⟩
   rw[List.take_length] at hp
   have HP:=hideP hp
   clear hp hF w1
   refine gA ?_
   exact zac (v:=.int .i64 (-1)) (.inl rfl) rfl (by simp) endvP ⟨-1,rfl,by rw[HP.out];simp,rfl⟩
def ContC (call:CallF)(call0:CallF):Prop:=∀ (H:List AB) (v:AV) (ws:List Rd.Way),WsV v H ws→ws.length≤1000→∀ (fl:Fn) (fa fb:List AV) (p:Rd.Way→Bool),(∀ w∈ws,call0 (.fn fl fa fb) [.agg (wayCs w)] H=some (.ret (.bool (p w)),H,[])) →
 call (.fn (.func 138) [] []) [v,.fn fl fa fb] H=some (.ret (.bool (ws.any p)),H,[])
theorem zvr (C:Cfg)(call call0:CallF)(hI:IndexC call call0)(H:List AB)(v:AV)(ws:List Rd.Way)(hv:WsV v H ws)(hl:ws.length≤1000)(fl:Fn)(fa fb:List AV)(p:Rd.Way→Bool)(hF:∀ w∈ws,call0 (.fn fl fa fb) [.agg (wayCs w)] H=some (.ret (.bool (p w)),H,[])):
  Wb C call H af138 [v,.fn fl fa fb]
   (fun v _hp tc=>v=.bool (ws.any p)∧tc=[]):=by
 obtain ⟨k,h1,h2⟩:=hI H v ws hv hl fl fa fb p hF
 rw[← h2]
 clear h2 hF hv hI
 unfold Wb Wa af138 Zq Zm Zo Zc Zb Zt Zy
 simp only[zipI]
 refine gA ?_
 exact zac (.inl rfl) rfl (by simp) (by simp only[resL,resOf,zaa];simp[*,resV]) ⟨rfl,rfl⟩
theorem way_ok {r:Rd.Road}(hr:Rd.Fine r){n:Nat}(hn:n<r.parts.length){ls:List Int}{k:Nat}{w:Rd.Way}(hw:w∈Rd.waysR r n ls k):TrOk w.part∧0≤w.first.lo∧w.first.lo≤w.first.hi∧w.first.hi≤60:=by
 obtain ⟨h1,h2,h3⟩:=(Rd.mem_ways r n ls k w).1 hw
 have hb:=Rd.firstT_bd hr hn w.part ls k r.events.length (Nat.le_refl _)
 rw[Rd.firstT_all,← h2] at hb
 exact ⟨tr_ok hr hn h1,hb.1,h3,hb.2⟩
def LeftC (call:CallF)(r:Rd.Road):Prop:=∀ (H:List AB) (xb mb eb:Nat),Rx r xb mb eb H→∀ w:Rd.Way,TrOk w.part→∀ h:Int,-1000≤h→h≤1000→∀ f,LdOk f→∀ days load:Int,LOk days load →
 call (.fn (.func 141) [] []) [.ptr xb 0,.agg [.int .i64 w.part.stiff,.int .i64 w.part.rise,.int .i64 w.part.full,.int .i64 w.first.lo,.int .i64 w.first.hi],.int .i64 h,.agg (arr10 f),.int .i64 days,.int .i64 load] H=some (.ret (.int .i64 (Rd.leftR r w h (lsOf r.events.length f) days load)),H,[])
theorem zsj (C:Cfg)(call:CallF)(r:Rd.Road)(hLf:LeftC call r)(H:List AB)(xb mb eb:Nat)(hX:Rx r xb mb eb H)(w:Rd.Way)(hp:TrOk w.part)(hw:0≤w.first.lo∧w.first.lo≤60)(f:Nat→Int)(hf:LdOk f)(days load:Int)(hL:LOk days load)(b1 b2 b3 b4:Nat)(h1:H[b1]?=some (.cells [.ptr xb 0]))(h2:H[b2]?=some (.cells (arr10 f)))(h3:H[b3]?=some (.cells [.int .i64 days]))(h4:H[b4]?=some (.cells [.int .i64 load])):
  Wb C call H af140 [.agg (wayCs w),.ptr b1 0,.ptr b2 0,.ptr b3 0,.ptr b4 0]
   (fun v _hp tc=>v=.bool (decide (Rd.leftR r w w.first.lo (lsOf r.events.length f) days load<0))∧tc=[]):=by
 have hc:=fun K=>hLf (H++K) xb mb eb (hX.app K) w hp w.first.lo (by omega) (by omega) f hf days load hL
 obtain ⟨x0,x1,x2,x3,x4,x5⟩:=bk' h1
 obtain ⟨y0,y1,y2,y3,y4,y5⟩:=bk' h2
 obtain ⟨z0,z1,z2,z3,z4,z5⟩:=bk' h3
 obtain ⟨w0,w1,w2,w3,w4,w5⟩:=bk' h4
 have hl:=zbg f
 have hall:=zbs f
 generalize Rd.leftR r w w.first.lo (lsOf r.events.length f) days load=u at *
 clear hLf h1 h2 h3 h4 hX hp hw hf hL
 unfold Wb Wa af140 Zq Zm Zl Zo Zc Zb Zf Zg Zt Zy
 generalize arr10 f=R at *
 simp only[zipI,wayCs] at *
 refine gA ?_
 exact zac (.inl rfl) rfl (by simp) (by simp only[resL,resOf,zaa];simp[*,resV]) ⟨rfl,rfl⟩
theorem zxx (C:Cfg)(call:CallF)(r:Rd.Road)(hLf:LeftC call r)(H:List AB)(xb mb eb:Nat)(hX:Rx r xb mb eb H)(w:Rd.Way)(hp:TrOk w.part)(hw:0≤w.first.hi∧w.first.hi≤60)(f:Nat→Int)(hf:LdOk f)(load:Int)(hL:LOk 0 load)(b1 b2 b4:Nat)(h1:H[b1]?=some (.cells [.ptr xb 0]))(h2:H[b2]?=some (.cells (arr10 f)))(h4:H[b4]?=some (.cells [.int .i64 load])):
  Wb C call H af142 [.agg (wayCs w),.ptr b1 0,.ptr b2 0,.ptr b4 0]
   (fun v _hp tc=>v=.bool (decide (0≤Rd.leftR r w w.first.hi (lsOf r.events.length f) 0 load))∧tc=[]):=by
 have hc:=fun K=>hLf (H++K) xb mb eb (hX.app K) w hp w.first.hi (by omega) (by omega) f hf 0 load hL
 obtain ⟨x0,x1,x2,x3,x4,x5⟩:=bk' h1
 obtain ⟨y0,y1,y2,y3,y4,y5⟩:=bk' h2
 obtain ⟨w0,w1,w2,w3,w4,w5⟩:=bk' h4
 have hl:=zbg f
 have hall:=zbs f
 generalize Rd.leftR r w w.first.hi (lsOf r.events.length f) 0 load=u at *
 clear hLf h1 h2 h4 hX hp hw hf hL
 unfold Wb Wa af142 Zq Zm Zl Zo Zc Zb Zf Zg Zt Zn Zy
 generalize arr10 f=R at *
 simp only[zipI,wayCs] at *
 refine gA ?_
 exact zac (.inl rfl) rfl (by simp) (by simp only[resL,resOf,zaa];simp[*,resV]) ⟨rfl,rfl⟩
def Sure1C (call:CallF)(r:Rd.Road):Prop:=∀ (H:List AB) (xb mb eb:Nat),Rx r xb mb eb H→∀ w:Rd.Way,TrOk w.part→0≤w.first.lo∧w.first.lo≤60→∀ f,LdOk f→∀ days load:Int,LOk days load→∀ b1 b2 b3 b4:Nat,H[b1]?=some (.cells [.ptr xb 0])→H[b2]?=some (.cells (arr10 f))→H[b3]?=some (.cells [.int .i64 days])→H[b4]?=some (.cells [.int .i64 load]) →
 call (.fn (.func 140) [] [.ptr b1 0,.ptr b2 0,.ptr b3 0,.ptr b4 0]) [.agg (wayCs w)] H=some (.ret (.bool (decide (Rd.leftR r w w.first.lo (lsOf r.events.length f) days load<0))),H,[])
def May1C (call:CallF)(r:Rd.Road):Prop:=∀ (H:List AB) (xb mb eb:Nat),Rx r xb mb eb H→∀ w:Rd.Way,TrOk w.part→0≤w.first.hi∧w.first.hi≤60→∀ f,LdOk f→∀ load:Int,LOk 0 load→∀ b1 b2 b4:Nat,H[b1]?=some (.cells [.ptr xb 0])→H[b2]?=some (.cells (arr10 f))→H[b4]?=some (.cells [.int .i64 load]) →
 call (.fn (.func 142) [] [.ptr b1 0,.ptr b2 0,.ptr b4 0]) [.agg (wayCs w)] H=some (.ret (.bool (decide (0≤Rd.leftR r w w.first.hi (lsOf r.events.length f) 0 load))),H,[])
def lowW (r:Rd.Road)(days load:Int)(ls:List Int)(w:Rd.Way):Bool:=decide (Rd.leftR r w w.first.lo ls days load<0)
def badL (r:Rd.Road)(days load:Int)(ls:List Int)(i:Nat):Bool:=(Rd.waysR r i ls (Rd.everyR r)).any (lowW r days load ls)
theorem zsi (r:Rd.Road)(days load:Int):Rd.sureR r days load=(Rd.toldR r (Rd.everyR r)).all fun ls=>(List.range r.parts.length).all fun i=>!badL r days load ls i:=by
 unfold Rd.sureR badL lowW
 congr 1;funext ls
 congr 1;funext i
 rw[List.not_any_eq_all_not]
 congr 1;funext w
 by_cases h:0≤Rd.leftR r w w.first.lo ls days load
 ·simp[h]<;>omega
 ·simp[h]<;>omega
theorem zsh (C:Cfg)(hC:C.calm=true)(hwh:∀ f,C.whole f=true)(n0 n1 m:Nat)(r:Rd.Road)(hr:Rd.Fine r)(hTd:ToldC (Ev.call C m))(hI:ToldI C (n0+1) m r)(hE:EveryC (Ev.call C m) r)(hE0:EveryC (Ev.call C n0) r)(hW:WaysC (Ev.call C n0) r)(hCo:ContC (Ev.call C n0) (Ev.call C n1))(hS1:Sure1C (Ev.call C n1) r)(H:List AB)(xb mb eb:Nat)(hX:Rx r xb mb eb H)(days load:Int)(hL:LOk days load):
  Wb C (Ev.call C m) H af103 [.ptr xb 0,.int .i64 days,.int .i64 load]
   (fun v hp tc=>v=.bool (Rd.sureR r days load)∧(∀ j∈tc,j=mb)∧Rx r xb mb eb hp):=by
 have hx:=hX.xl
 have hm:=hX.ml
 have he:=hX.el
 have hne:=hX.ne
 have hne2:=hX.ne2
 have hev:=fun K=>hE (H++K) xb _ _ (hX.app K).x
 unfold ToldC at hTd
 unfold Wb Wa af103 Zq Zr Zu Zm Zl Zo Zs Zd Zc Za Zb Zf Zg Zt Zn Zi Zy Zw
 simp only[zipI]
 have HF:=hideP (And.intro hW (And.intro hE0 (And.intro hCo hS1)))
 clear hW hE hE0 hCo hS1
 refine gE ?_
 refine zbz hC hwh (hI xb mb eb (H.length+4) (H.length+5) (Rd.everyR r)) (by simp[zab]) rfl [H.length+3] (by simp) (by simp;omega)
  (fun d W G=>W=[]∧G[H.length+3]?=some (.cells [.bool false])∧∀ ls∈d,∀ i,i<r.parts.length→badL r days load ls i=false) (fun e d G=>e=.ret∧(∃ ls∈d,∃ i,i<r.parts.length∧badL r days load ls i=true)∧G[H.length+3]?=some (.cells [.bool false])) (fun rz=>?_) (fun G G' h k=>h.same fun j hj=>k j (by simp;omega) (by simp;omega))
  (fun rz=>⟨rfl,by simp,by simp⟩) (fun rz=>(hX.app _).app _) (fun d W G G' h _ k=>?_) (fun e d G G' h k=>?_) ?_ ?_ ?_
 ·refine ⟨by simp,by simp,?_,?_,by omega,by omega,?_,?_,by simp;omega⟩<;>(simp;omega)
 ·simp only[List.length_append,List.length_cons,List.length_nil,Nat.zero_add,Nat.add_assoc,Nat.reduceAdd] at k
  exact ⟨h.1,(k _ (get_lt h.2.1) (.inl (by omega)) (by simp;omega) (by omega)).trans h.2.1,h.2.2⟩
 ·simp only[List.length_append,List.length_cons,List.length_nil,Nat.zero_add,Nat.add_assoc,Nat.reduceAdd] at k
  exact ⟨h.1,h.2.1,(k _ (by omega) (by omega)).trans h.2.2⟩
 ·rintro d s W G rz hpr ⟨rfl,hJ3,hJ⟩ hY hK hl hWb
  simp only[List.length_append,List.length_cons,List.length_nil,Nat.zero_add,Nat.add_assoc,Nat.reduceAdd] at hl ⊢
  rw[setP1]
  obtain ⟨hW,hE0,hCo,hS1⟩:=HF.out
  have hst:s∈Rd.toldR r (Rd.everyR r):=hpr.subset (by simp)
  obtain ⟨hs,hsw⟩:=Rd.told_in hst
  obtain ⟨hld,hls⟩:=all_ld hr hs
  have hRl:=zbg (fnOf s)
  have hRp:=zcr (fnOf s)
  have hRa:=zbs (fnOf s)
  obtain ⟨R,hR⟩:∃ R,R=arr10 (fnOf s):=⟨_,rfl⟩
  rw[← hR] at hRl hRp hRa
  simp only[ldA,← hR]
  have HR0:=hideP hR
  clear hR
  refine gA ?_
  refine ⟨trivial,?_,?_⟩
  ·rw[List.getElem?_append_left (by omega)]
  obtain ⟨G2,hG2,k1,k2,k3,k4⟩:=zdg (G:=G++[.cells R]) (l:=H.length+7) (.loop rz) (by simp;omega)
  rw[← hG2]
  clear hG2
  have j3:∀ {j x},G[j]?=some x→j≠H.length+7→G2[j]?=some x:=fun {j x} hx hj=>by rw[k3 _ hj,List.getElem?_append_left (get_lt hx)];exact hx
  have e0:=j3 (hK.at (b:=H.length) (x:=.cells [.ptr xb 0]) (by simp) (by simp;omega)) (by omega)
  have e1:=j3 (hK.at (b:=H.length+1) (x:=.cells [.int .i64 days]) (by simp) (by simp;omega)) (by omega)
  have e2:=j3 (hK.at (b:=H.length+2) (x:=.cells [.int .i64 load]) (by simp) (by simp;omega)) (by omega)
  have e5:G2[G.length]?=some (.cells R):=by rw[k3 _ (by omega)];simp
  have e6:=j3 hJ3 (by omega)
  have kl2:G2.length=G.length+1:=by rw[k1];simp
  have hX2:Rx r xb mb eb G2:=(hY.app _).kp k4 (by simp;omega) (by simp;omega) (by simp;omega)
  obtain ⟨Inv,hInv⟩:∃ Inv:List AB→List Nat→Prop,∀ hp tc,Inv hp tc↔(Kp [mb] G2 hp∧Rx r xb mb eb hp∧∀ j∈tc,j=mb∨j=H.length+7):=⟨fun hp tc=>_,fun hp tc=>Iff.rfl⟩
  have hI0:Inv G2 [H.length+7]:=(hInv _ _).2 ⟨Kp.refl _ _,hX2,by simp⟩
  have hR:=HR0.out
  have hround:∀ hp tc,Inv hp tc→∀ i,i<r.parts.length→Bk hp H.length (.cells [.ptr xb 0])∧Bk hp G.length (.cells R)∧Bk hp (H.length+3) (.cells [.bool false])∧(∃ w z,Bk hp xb (.cells (roadCs r++[w,z])))∧(∀ K,Ev.call C n0 (.fn (.func 136) [] []) [.ptr xb 0] (hp++K)=some (.ret (.int .u64 ((Rd.everyR r:Nat):Int)),hp++K,[]))∧Ev.call C n0 (.fn (.func 136) [] []) [.ptr xb 0] hp=some (.ret (.int .u64 ((Rd.everyR r:Nat):Int)),hp,[])∧∃ v H' tc',Ev.call C n0 (.fn (.func 139) [] []) [.ptr xb 0,.int .i64 i,.agg R,.int .u64 ((Rd.everyR r:Nat):Int)] hp=some (.ret v,H',tc')∧Inv H' (tc'.filter (·<G.length)++tc)∧(∀ j∈tc',j=mb)∧H'[H.length+7]?=some (.loop rz)∧Bk H' (H.length+3) (.cells [.bool false])∧Ev.call C n0 (.fn (.func 138) [] []) [v,.fn (.func 140) [] [.ptr H.length 0,.ptr G.length 0,.ptr (H.length+1) 0,.ptr (H.length+2) 0]] H'=some (.ret (.bool (badL r days load s i)),H',[]):=by
   intro hp tc h i hi
   obtain ⟨q1,q2,q3⟩:=(hInv _ _).1 h
   obtain ⟨v,H',tc',w1,w2,w3,w4,w5⟩:=hW hp xb mb eb q2 i hi (fnOf s) hld (Rd.everyR r)
   have w3':Kp [mb] G2 H':=q1.trans (w3.mono fun j _ h=>by simpa using w2 j h)
   have w6:=w5.ws
   rw[hls] at w6
   have hcc:=hCo H' v _ w6 (Nat.le_trans (zdy hr hi _ _) (by decide)) (.func 140) [] [.ptr H.length 0,.ptr G.length 0,.ptr (H.length+1) 0,.ptr (H.length+2) 0] (lowW r days load s) fun w hw=>by
    obtain ⟨o1,o2,o3,o4⟩:=way_ok hr hi hw
    have:=hS1 H' xb mb eb w4 w o1 ⟨o2,by omega⟩ (fnOf s) hld days load hL H.length G.length (H.length+1) (H.length+2) (w3'.at e0 (by simp;omega)) (by rw[← hR];exact w3'.at e5 (by simp;omega)) (w3'.at e1 (by simp;omega)) (w3'.at e2 (by simp;omega))
    rw[hls] at this
    exact this
   rw[← hR] at w1
   refine ⟨bk' (q1.at e0 (by simp;omega)),bk' (q1.at e5 (by simp;omega)),bk' (q1.at e6 (by simp;omega)),⟨_,_,bk' q2.x⟩,fun K=>hE0 _ xb _ _ (q2.app K).x,hE0 _ xb _ _ q2.x,v,H',tc',w1,(hInv _ _).2 ⟨w3',w4,fun j hj=>?_⟩,w2,w3'.at k2 (by simp;omega),bk' (w3'.at e6 (by simp;omega)),hcc⟩
   rcases List.mem_append.1 hj with h|h
   ·exact .inl (w2 j (List.mem_filter.1 h).1)
   ·exact q3 j h
  have hnp:=hr.parts
  have HR:=hideP hround
  have HB3:=hideP (show ∀ hp tc,Inv hp tc→hp[H.length+3]?=some (.cells [.bool false]) from fun hp tc h=>((hInv _ _).1 h).1.at e6 (by simp;omega))
  have HE:=hideP (And.intro hInv (And.intro hJ (And.intro k2 hl)))
  obtain ⟨⟨x0,x1,x2,x3,x4,x5⟩,_,_,⟨w9,z9,u0,u1,u2,u3,u4,u5⟩,_⟩:=hround _ _ hI0 0 (by omega)
  clear hround hR hInv hJ hJ3 k2 hl hW hE0 hCo hS1 hst hs hsw hld hls hK hY hpr hWb k1 k3 k4 j3 e0 e1 e2 e5 e6 kl2 hX2 hTd hI hev hX
  simp only[roadCs,List.cons_append,List.nil_append] at u1 u2 u4 u5
  refine gA ?_
  with_reducible refine zan hC r.parts.length (by unfold fuelL;omega) (fun i st=>∃ hp tc,Inv hp tc∧(∀ x,x<i→badL r days load s x=false)∧st={ tm:=tmA 32 [(20,.int .i64 i),(19,.int .i64 r.parts.length),(7,.ptr G.length 0),(6,.ptr (H.length+3) 0),(5,.ptr (H.length+2) 0),(4,.ptr (H.length+1) 0),(3,.ptr H.length 0)],df:=[],hp:=hp,tc:=tc }) ?_ ?_ ?_
  ·refine ⟨_,_,hI0,by simp,?_⟩
   exact invP
  ·clear hI0 x0 x1 x2 x3 x4 x5 u0 u1 u2 u3 u4 u5
   rintro i st hi ⟨hp,tc,hV,hgood,rfl⟩
   obtain ⟨⟨x0,x1,x2,x3,x4,x5⟩,⟨y0,y1,y2,y3,y4,y5⟩,⟨s0,s1,s2,s3,s4,s5⟩,⟨w9,z9,u0,u1,u2,u3,u4,u5⟩,hv1,hv2,v,H',tc',c1,c2,c3,c4,⟨t0,t1,t2,t3,t4,t5⟩,c6⟩:=HR.out _ _ hV i hi
   simp only[roadCs,List.cons_append,List.nil_append] at u1 u2 u4 u5
   have hwi:IntKind.i64.wrap (↑i+1)=↑i+1:=zaf (by omega) (by omega)
   have HV:=hideP (And.intro hgood (And.intro c2 (And.intro c3 c4)))
   clear hV hgood c2 c3 c4
   cases hb:badL r days load s i with
   |false=>
    rw[hb] at c6
    refine gE ?_
    have hn:∀ x,x<i+1→badL r days load s x=false:=fun x hx=>by
     by_cases h:x=i
     ·rw[h];exact hb
     ·exact HV.out.1 x (by omega)
    with_reducible refine ⟨_,_,HV.out.2.1,hn,?_⟩
    exact invP
   |true=>
    rw[hb] at c6
    have h99:¬ H.length+3=H.length+7:=by omega
    refine gE ?_
    obtain ⟨hgood,c2,c3,c4⟩:=HV.out
    obtain ⟨hInv,hJ,k2,hl⟩:=HE.out
    obtain ⟨q1,q2,q3⟩:=(hInv _ _).1 c2
    have k:Kp [H.length+3] H' (H'.set (H.length+3) (.cells [.bool false])):=(Kp.refl _ _).set _ _ (by simp)
    refine ⟨by simp,k.at c4 (by simp),fun j hj=>?_,q2.kp k (by simp;omega) (by simp;omega) (by simp;omega),(fun h=>by cases h),fun _=>⟨rfl,⟨s,by simp,i,hi,hb⟩,by rw[List.getElem?_set_self t0]⟩,fun _ _ h=>h.elim⟩
    simp only[List.mem_append,List.mem_cons,List.not_mem_nil,or_false] at hj ⊢
    rcases hj with h|h
    ·first|exact .inr (.inl h)|exact .inr (.inl (by simpa using (List.mem_filter.1 h).1))
    ·rcases q3 j (by first|exact h|exact List.mem_append.2 h) with h|h
     ·exact .inr (.inr h)
     ·exact .inl h
  ·clear hI0 x0 x1 x2 x3 x4 x5 u0 u1 u2 u3 u4 u5
   rintro st ⟨hp,tc,hV,hgood,rfl⟩
   have HV:=hideP (And.intro hV hgood)
   clear hV hgood
   refine gA ?_
   obtain ⟨hV,hgood⟩:=HV.out
   obtain ⟨hInv,hJ,k2,hl⟩:=HE.out
   obtain ⟨q1,q2,q3⟩:=(hInv _ _).1 hV
   refine ⟨by simp,q1.at k2 (by simp;omega),fun j hj=>?_,q2,fun _=>⟨[],by simp,rfl,HB3.out _ _ hV,fun ls hls=>?_⟩,fun h=>absurd rfl h,fun _ _ h=>h.elim⟩
   ·rcases q3 j hj with h|h
    ·exact .inr (.inr (.inl (by simp[h])))
    ·exact .inl h
   ·rcases List.mem_append.1 hls with h|h
    ·exact hJ ls h
    ·simp at h;subst h;exact hgood
 ·rintro H' tc W h1 h2 h3 h4 h5 h6 ⟨rfl,h8,h7⟩
  simp only[List.length_append,List.length_cons,List.length_nil,Nat.zero_add,Nat.add_assoc,Nat.reduceAdd,List.append_nil] at h1 h4 h5 ⊢
  simp only[OutB,Then]
  have hc:Rd.sureR r days load=true:=by
   rw[zsi,List.all_eq_true]
   intro ls hls
   rw[List.all_eq_true]
   intro i hi
   rw[h7 ls hls i (by simpa using hi)];rfl
  rw[hc]
  obtain ⟨g0,g1,g2,g3,g4,g5⟩:=bk' h8
  have HA:=hideP (And.intro h1 h3)
  have HD:=hideP h4
  clear h1 h2 h3 h4 h6 h7 h8 hTd hI hX hev hc
  refine gA ?_
  obtain ⟨h1,h3⟩:=HA.out
  refine zbn (v:=.bool true) (.inl rfl) rfl (by simp only;rw[List.getElem?_set_ne (by omega)];exact HD.out) (by omega) (by simp;omega) (by simp only[resL,resOf,zaa];simp[resV,pickC,g0]) ⟨rfl,fun j hj=>?_,h3.kp (((Kp.refl [H.length+3,H.length+6] H').set _ _ (by simp)).set _ _ (by simp)) (by simp;omega) (by simp;omega) (by simp;omega)⟩
  simp at hj
  have:=h1 j (by first|exact hj.1|(rcases hj with h|h;exact h.1;exact h.1)) (by omega)
  simp at this
  omega
 ·rintro e d H' tc h0 h1 h2 h3 h4 h5 h6 ⟨rfl,⟨ls,hls,i,hi,hb⟩,h9⟩
  simp only[List.length_append,List.length_cons,List.length_nil,Nat.zero_add,Nat.add_assoc,Nat.reduceAdd,List.append_nil] at h1 h4 h5 ⊢
  simp only[OutB,Then]
  have hc:Rd.sureR r days load=false:=by
   rw[zsi,List.all_eq_false]
   refine ⟨ls,h6.subset hls,?_⟩
   rw[Bool.not_eq_true,List.all_eq_false]
   exact ⟨i,by simpa using hi,by rw[hb];decide⟩
  rw[hc]
  refine zbn (v:=.bool false) (.inl rfl) rfl h4 (by omega) (by simp;omega) (by simp only[resL,resOf,zaa];simp[resV,pickC,List.getElem?_set_ne,h9]) ⟨rfl,fun j hj=>?_,h3.kp ((Kp.refl [H.length+6] H').set _ _ (by simp)) (by simp;omega) (by simp;omega) (by simp;omega)⟩
  simp at hj
  have:=h1 j (by first|exact hj.1|(rcases hj with h|h;exact h.1;exact h.1)) (by omega)
  simp at this
  omega
def highW (r:Rd.Road)(load:Int)(ls:List Int)(w:Rd.Way):Bool:=decide (0≤Rd.leftR r w w.first.hi ls 0 load)
def okP (r:Rd.Road)(load:Int)(ls:List Int)(i:Nat):Bool:=(Rd.waysR r i ls (Rd.everyR r)).any (highW r load ls)
def okM (r:Rd.Road)(load:Int)(ls:List Int):Bool:=(List.range r.parts.length).all fun i=>okP r load ls i
theorem may_eq (r:Rd.Road)(load:Int):Rd.mayR r load=(Rd.toldR r (Rd.everyR r)).any (okM r load):=rfl
theorem zxw (C:Cfg)(hC:C.calm=true)(hwh:∀ f,C.whole f=true)(n0 n1 m:Nat)(r:Rd.Road)(hr:Rd.Fine r)(hTd:ToldC (Ev.call C m))(hI:ToldI C (n0+1) m r)(hE:EveryC (Ev.call C m) r)(hE0:EveryC (Ev.call C n0) r)(hW:WaysC (Ev.call C n0) r)(hCo:ContC (Ev.call C n0) (Ev.call C n1))(hS1:May1C (Ev.call C n1) r)(H:List AB)(xb mb eb:Nat)(hX:Rx r xb mb eb H)(load:Int)(hL:LOk 0 load):
  Wb C (Ev.call C m) H af104 [.ptr xb 0,.int .i64 load]
   (fun v hp tc=>v=.bool (Rd.mayR r load)∧(∀ j∈tc,j=mb)∧Rx r xb mb eb hp):=by
 have hx:=hX.xl
 have hm:=hX.ml
 have he:=hX.el
 have hne:=hX.ne
 have hne2:=hX.ne2
 have hev:=fun K=>hE (H++K) xb _ _ (hX.app K).x
 unfold ToldC at hTd
 unfold Wb Wa af104 Zq Zr Zu Zm Zl Zo Zs Zd Zc Za Zb Zf Zg Zt Zn Zi Zy Zw
 simp only[zipI]
 have HF:=hideP (And.intro hW (And.intro hE0 (And.intro hCo hS1)))
 clear hW hE hE0 hCo hS1
 refine gE ?_
 refine zbz hC hwh (hI xb mb eb (H.length+3) (H.length+4) (Rd.everyR r)) (by simp[zab]) rfl [H.length+2] (by simp) (by simp;omega)
  (fun d W G=>W=[]∧G[H.length+2]?=some (.cells [.bool false])∧∀ ls∈d,okM r load ls=false) (fun e d G=>e=.ret∧(∃ ls∈d,okM r load ls=true)∧G[H.length+2]?=some (.cells [.bool true])) (fun rz=>?_) (fun G G' h k=>h.same fun j hj=>k j (by simp;omega) (by simp;omega))
  (fun rz=>⟨rfl,by simp,by simp⟩) (fun rz=>(hX.app _).app _) (fun d W G G' h _ k=>?_) (fun e d G G' h k=>?_) ?_ ?_ ?_
 ·refine ⟨by simp,by simp,?_,?_,by omega,by omega,?_,?_,by simp;omega⟩<;>(simp;omega)
 ·simp only[List.length_append,List.length_cons,List.length_nil,Nat.zero_add,Nat.add_assoc,Nat.reduceAdd] at k
  exact ⟨h.1,(k _ (get_lt h.2.1) (.inl (by omega)) (by simp;omega) (by omega)).trans h.2.1,h.2.2⟩
 ·simp only[List.length_append,List.length_cons,List.length_nil,Nat.zero_add,Nat.add_assoc,Nat.reduceAdd] at k
  exact ⟨h.1,h.2.1,(k _ (by omega) (by omega)).trans h.2.2⟩
 ·rintro d s W G rz hpr ⟨rfl,hJ3,hJ⟩ hY hK hl hWb
  simp only[List.length_append,List.length_cons,List.length_nil,Nat.zero_add,Nat.add_assoc,Nat.reduceAdd] at hl ⊢
  rw[setP1]
  obtain ⟨hW,hE0,hCo,hS1⟩:=HF.out
  have hst:s∈Rd.toldR r (Rd.everyR r):=hpr.subset (by simp)
  obtain ⟨hs,hsw⟩:=Rd.told_in hst
  obtain ⟨hld,hls⟩:=all_ld hr hs
  have hRl:=zbg (fnOf s)
  have hRp:=zcr (fnOf s)
  have hRa:=zbs (fnOf s)
  obtain ⟨R,hR⟩:∃ R,R=arr10 (fnOf s):=⟨_,rfl⟩
  rw[← hR] at hRl hRp hRa
  simp only[ldA,← hR]
  have HR0:=hideP hR
  clear hR
  refine gA ?_
  refine ⟨trivial,?_,?_⟩
  ·rw[List.getElem?_append_left (by omega)]
  obtain ⟨G2,hG2,k1,k2,k3,k4⟩:=zdg (G:=G++[.cells R]) (l:=H.length+6) (.loop rz) (by simp;omega)
  rw[← hG2]
  clear hG2
  have j3:∀ {j x},G[j]?=some x→j≠H.length+6→G2[j]?=some x:=fun {j x} hx hj=>by rw[k3 _ hj,List.getElem?_append_left (get_lt hx)];exact hx
  have e0:=j3 (hK.at (b:=H.length) (x:=.cells [.ptr xb 0]) (by simp) (by simp;omega)) (by omega)
  have e2:=j3 (hK.at (b:=H.length+1) (x:=.cells [.int .i64 load]) (by simp) (by simp;omega)) (by omega)
  have e5:G2[G.length]?=some (.cells R):=by rw[k3 _ (by omega)];simp
  have e6:=j3 hJ3 (by omega)
  have kl2:G2.length=G.length+1:=by rw[k1];simp
  have hX2:Rx r xb mb eb G2:=(hY.app _).kp k4 (by simp;omega) (by simp;omega) (by simp;omega)
  obtain ⟨Inv,hInv⟩:∃ Inv:List AB→List Nat→Prop,∀ hp tc,Inv hp tc↔(Kp [mb] G2 hp∧Rx r xb mb eb hp∧∀ j∈tc,j=mb∨j=H.length+6):=⟨fun hp tc=>_,fun hp tc=>Iff.rfl⟩
  have hI0:Inv G2 [H.length+6]:=(hInv _ _).2 ⟨Kp.refl _ _,hX2,by simp⟩
  have hR:=HR0.out
  have hround:∀ hp tc,Inv hp tc→∀ i,i<r.parts.length→Bk hp H.length (.cells [.ptr xb 0])∧Bk hp G.length (.cells R)∧Bk hp (H.length+2) (.cells [.bool false])∧(∃ w z,Bk hp xb (.cells (roadCs r++[w,z])))∧(∀ K,Ev.call C n0 (.fn (.func 136) [] []) [.ptr xb 0] (hp++K)=some (.ret (.int .u64 ((Rd.everyR r:Nat):Int)),hp++K,[]))∧Ev.call C n0 (.fn (.func 136) [] []) [.ptr xb 0] hp=some (.ret (.int .u64 ((Rd.everyR r:Nat):Int)),hp,[])∧∃ v H' tc',Ev.call C n0 (.fn (.func 139) [] []) [.ptr xb 0,.int .i64 i,.agg R,.int .u64 ((Rd.everyR r:Nat):Int)] hp=some (.ret v,H',tc')∧Inv H' (tc'.filter (·<G.length)++tc)∧(∀ j∈tc',j=mb)∧H'[H.length+6]?=some (.loop rz)∧Bk H' (H.length+2) (.cells [.bool false])∧Ev.call C n0 (.fn (.func 138) [] []) [v,.fn (.func 142) [] [.ptr H.length 0,.ptr G.length 0,.ptr (H.length+1) 0]] H'=some (.ret (.bool (okP r load s i)),H',[]):=by
   intro hp tc h i hi
   obtain ⟨q1,q2,q3⟩:=(hInv _ _).1 h
   obtain ⟨v,H',tc',w1,w2,w3,w4,w5⟩:=hW hp xb mb eb q2 i hi (fnOf s) hld (Rd.everyR r)
   have w3':Kp [mb] G2 H':=q1.trans (w3.mono fun j _ h=>by simpa using w2 j h)
   have w6:=w5.ws
   rw[hls] at w6
   have hcc:=hCo H' v _ w6 (Nat.le_trans (zdy hr hi _ _) (by decide)) (.func 142) [] [.ptr H.length 0,.ptr G.length 0,.ptr (H.length+1) 0] (highW r load s) fun w hw=>by
    obtain ⟨o1,o2,o3,o4⟩:=way_ok hr hi hw
    have:=hS1 H' xb mb eb w4 w o1 ⟨by omega,o4⟩ (fnOf s) hld load hL H.length G.length (H.length+1) (w3'.at e0 (by simp;omega)) (by rw[← hR];exact w3'.at e5 (by simp;omega)) (w3'.at e2 (by simp;omega))
    rw[hls] at this
    exact this
   rw[← hR] at w1
   refine ⟨bk' (q1.at e0 (by simp;omega)),bk' (q1.at e5 (by simp;omega)),bk' (q1.at e6 (by simp;omega)),⟨_,_,bk' q2.x⟩,fun K=>hE0 _ xb _ _ (q2.app K).x,hE0 _ xb _ _ q2.x,v,H',tc',w1,(hInv _ _).2 ⟨w3',w4,fun j hj=>?_⟩,w2,w3'.at k2 (by simp;omega),bk' (w3'.at e6 (by simp;omega)),hcc⟩
   rcases List.mem_append.1 hj with h|h
   ·exact .inl (w2 j (List.mem_filter.1 h).1)
   ·exact q3 j h
  have hnp:=hr.parts
  have HR:=hideP hround
  have HB3:=hideP (show ∀ hp tc,Inv hp tc→hp[H.length+2]?=some (.cells [.bool false]) from fun hp tc h=>((hInv _ _).1 h).1.at e6 (by simp;omega))
  have HE:=hideP (And.intro hInv (And.intro hJ (And.intro k2 hl)))
  obtain ⟨⟨x0,x1,x2,x3,x4,x5⟩,_,_,⟨w9,z9,u0,u1,u2,u3,u4,u5⟩,_⟩:=hround _ _ hI0 0 (by omega)
  clear hround hR hInv hJ hJ3 k2 hl hW hE0 hCo hS1 hst hs hsw hld hls hK hY hpr hWb k1 k3 k4 j3 e0 e2 e5 e6 kl2 hX2 hTd hI hev hX
  simp only[roadCs,List.cons_append,List.nil_append] at u1 u2 u4 u5
  refine gA ?_
  with_reducible refine zan hC r.parts.length (by unfold fuelL;omega) (fun i st=>∃ hp tc,Inv hp tc∧(∀ x,x<i→okP r load s x=true)∧st={ tm:=tmA 31 [(18,.int .i64 i),(17,.int .i64 r.parts.length),(5,.ptr G.length 0),(4,.ptr (H.length+2) 0),(3,.ptr (H.length+1) 0),(2,.ptr H.length 0)],df:=[],hp:=hp,tc:=tc }) ?_ ?_ ?_
  ·refine ⟨_,_,hI0,by simp,?_⟩
   exact invP
  ·clear hI0 x0 x1 x2 x3 x4 x5 u0 u1 u2 u3 u4 u5
   rintro i st hi ⟨hp,tc,hV,hgood,rfl⟩
   obtain ⟨⟨x0,x1,x2,x3,x4,x5⟩,⟨y0,y1,y2,y3,y4,y5⟩,⟨s0,s1,s2,s3,s4,s5⟩,⟨w9,z9,u0,u1,u2,u3,u4,u5⟩,hv1,hv2,v,H',tc',c1,c2,c3,c4,⟨t0,t1,t2,t3,t4,t5⟩,c6⟩:=HR.out _ _ hV i hi
   simp only[roadCs,List.cons_append,List.nil_append] at u1 u2 u4 u5
   have hwi:IntKind.i64.wrap (↑i+1)=↑i+1:=zaf (by omega) (by omega)
   have HV:=hideP (And.intro hgood (And.intro c2 (And.intro c3 c4)))
   clear hV hgood c2 c3 c4
   cases hb:okP r load s i with
   |true=>
    rw[hb] at c6
    refine gE ?_
    have hn:∀ x,x<i+1→okP r load s x=true:=fun x hx=>by
     by_cases h:x=i
     ·rw[h];exact hb
     ·exact HV.out.1 x (by omega)
    with_reducible refine ⟨_,_,HV.out.2.1,hn,?_⟩
    exact invP
   |false=>
    rw[hb] at c6
    refine gE ?_
    obtain ⟨hgood,c2,c3,c4⟩:=HV.out
    obtain ⟨hInv,hJ,k2,hl⟩:=HE.out
    obtain ⟨q1,q2,q3⟩:=(hInv _ _).1 c2
    have hno:okM r load s=false:=by
     unfold okM
     rw[List.all_eq_false]
     exact ⟨i,by simpa using hi,by rw[hb];decide⟩
    refine ⟨by simp,c4,fun j hj=>?_,q2,fun _=>⟨[],by simp,rfl,t1,fun ls hls=>?_⟩,fun h=>absurd rfl h,fun _ _ h=>h.elim⟩
    ·rcases q3 j hj with h|h
     ·exact .inr (.inr (.inl (by simp[h])))
     ·exact .inl h
    ·rcases List.mem_append.1 hls with h|h
     ·exact hJ ls h
     ·simp at h;subst h;exact hno
  ·clear hI0 x0 x1 x2 x3 x4 x5 u0 u1 u2 u3 u4 u5
   rintro st ⟨hp,tc,hV,hgood,rfl⟩
   have HV:=hideP (And.intro hV hgood)
   obtain ⟨s0,s1,s2,s3,s4,s5⟩:=bk' (HB3.out _ _ hV)
   have h99:¬ H.length+2=H.length+6:=by omega
   clear hV hgood
   refine gA ?_
   obtain ⟨hV,hgood⟩:=HV.out
   obtain ⟨hInv,hJ,k2,hl⟩:=HE.out
   obtain ⟨q1,q2,q3⟩:=(hInv _ _).1 hV
   have hyes:okM r load s=true:=by
    unfold okM
    rw[List.all_eq_true]
    intro x hx
    exact hgood x (by simpa using hx)
   have k:Kp [H.length+2] hp (hp.set (H.length+2) (.cells [.bool true])):=(Kp.refl _ _).set _ _ (by simp)
   refine ⟨by simp,k.at (q1.at k2 (by simp;omega)) (by simp),fun j hj=>?_,q2.kp k (by simp;omega) (by simp;omega) (by simp;omega),(fun h=>by cases h),fun _=>⟨rfl,⟨s,by simp,hyes⟩,by rw[List.getElem?_set_self s0]⟩,fun _ _ h=>h.elim⟩
   simp only[List.mem_append,List.mem_cons,List.not_mem_nil,or_false] at hj ⊢
   rcases hj with h|h
   ·first|exact .inr (.inl h)|exact .inr (.inl (by simpa using (List.mem_filter.1 h).1))
   ·rcases q3 j h with h|h
    ·exact .inr (.inr h)
    ·exact .inl h
 ·rintro H' tc W h1 h2 h3 h4 h5 h6 ⟨rfl,h8,h7⟩
  simp only[List.length_append,List.length_cons,List.length_nil,Nat.zero_add,Nat.add_assoc,Nat.reduceAdd,List.append_nil] at h1 h4 h5 ⊢
  simp only[OutB,Then]
  have hc:Rd.mayR r load=false:=by
   rw[may_eq,List.any_eq_false]
   intro ls hls
   rw[h7 ls hls];decide
  rw[hc]
  obtain ⟨g0,g1,g2,g3,g4,g5⟩:=bk' h8
  have HA:=hideP (And.intro h1 h3)
  have HD:=hideP h4
  clear h1 h2 h3 h4 h6 h7 h8 hTd hI hX hev hc
  refine gA ?_
  obtain ⟨h1,h3⟩:=HA.out
  refine zbn (v:=.bool false) (.inl rfl) rfl (by simp only;rw[List.getElem?_set_ne (by omega)];exact HD.out) (by omega) (by simp;omega) (by simp only[resL,resOf,zaa];simp[resV,pickC,g0]) ⟨rfl,fun j hj=>?_,h3.kp (((Kp.refl [H.length+2,H.length+5] H').set _ _ (by simp)).set _ _ (by simp)) (by simp;omega) (by simp;omega) (by simp;omega)⟩
  simp at hj
  have:=h1 j (by first|exact hj.1|(rcases hj with h|h;exact h.1;exact h.1)) (by omega)
  simp at this
  omega
 ·rintro e d H' tc h0 h1 h2 h3 h4 h5 h6 ⟨rfl,⟨ls,hls,hb⟩,h9⟩
  simp only[List.length_append,List.length_cons,List.length_nil,Nat.zero_add,Nat.add_assoc,Nat.reduceAdd,List.append_nil] at h1 h4 h5 ⊢
  simp only[OutB,Then]
  have hc:Rd.mayR r load=true:=by
   rw[may_eq,List.any_eq_true]
   exact ⟨ls,h6.subset hls,hb⟩
  rw[hc]
  refine zbn (v:=.bool true) (.inl rfl) rfl h4 (by omega) (by simp;omega) (by simp only[resL,resOf,zaa];simp[resV,pickC,List.getElem?_set_ne,h9]) ⟨rfl,fun j hj=>?_,h3.kp ((Kp.refl [H.length+5] H').set _ _ (by simp)) (by simp;omega) (by simp;omega) (by simp;omega)⟩
  simp at hj
  have:=h1 j (by first|exact hj.1|(rcases hj with h|h;exact h.1;exact h.1)) (by omega)
  simp at this
  omega
end Ro
end Ev
end Go.Proofs.YtfpepkbflnendaaGreat
