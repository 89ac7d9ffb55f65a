/- LoadAll, gone through. -/
import Derived.Test.YtfpepkbflnendaaGreatLbPF
/- LoadAll, gone through. -/
namespace Go.Proofs.YtfpepkbflnendaaGreat
open Go
namespace Ev
namespace Ro
open K
attribute [local simp] ev1 wantG spineK spine float xnew xval xeff zab zae zau zah zai addFl cellsOf pickC alive slLen slFt binI maxA maxK minA minK aeqK aeqS AV.cells spA zad fillA setAt bitsI nat_nn zav AV.plain apart
set_option maxRecDepth 100000
set_option maxHeartbeats 4000000
theorem ymz {C:Cfg}(hC:C.calm=true)(hwh:∀ f,C.whole f=true)(f1:Has C 42 af42)(f2:Has C 105 af105)(f3:Has C 41 af41)(f4:Has C 38 af38)(la:∀ n,LApi (Ev.call C (n+1)))(l:Ld.Lo)(hval:Ld.valid l=true)(hroad:l.road.parts.length≤40)(c:Nat)(hcn:c<l.carts.length∨l.carts.length=0∧c=0):EachAll (Ev.call C 12) l c:=by
 obtain ⟨_,hd,hc4,_⟩:=Ld.vl_of hval
 have h1:EachOf (Ev.call C (10 - l.carts.length)) l c:=by
  have := ymx (n0 := 9 - l.carts.length) hC hwh f1 (by
   have hr:LawRightC (Ev.call C (7 - l.carts.length+1+1)):=fun {H v pv l p}=>yco hC f4 (la _)
   rwa [show 7 - l.carts.length+1+1=9 - l.carts.length by omega] at hr) l hval hroad c hcn
  rwa [show 9 - l.carts.length+1=10 - l.carts.length by omega] at this
 have h2:=ymu hC hwh f3 l c (ymt hC hwh f2 l hd hc4 c h1 l.carts.length)
 rwa [show 10 - l.carts.length+1+l.carts.length+1=12 by omega] at h2
theorem ymo (l:Ld.Lo)(c:Nat):AlS l c [] [.cells (loadCs l),.cells [.int .i64 l.carts.length],.cells [.int .i64 (-1)],.cells [.int .i64 0],.cells [.int .i64 0],.cells [.int .i64 c]]:=by
 have h1:Ld.canS l []=0:=Clm.setOf_false _
 have h2:Ld.withS l c []=0:=Clm.setOf_false _
 exact ⟨hb rfl,hb rfl,hb rfl,hb (by rw[h1];rfl),hb (by rw[h2];rfl),hb rfl⟩
theorem yms (C:Cfg)(_hC:C.calm=true)(call:CallF)(hA:LApi call)(hH:HeavyC call)(hE:∀ (l:Ld.Lo),Ld.valid l=true→l.road.parts.length≤40→∀ c,(c<l.carts.length∨l.carts.length=0∧c=0)→EachAll call l c)(l:Ld.Lo)(x:Int)(hx:0≤x∧x≤255):
  Wa C call [] af8 [.agg (loadCs l),.int .u8 x]
   (Yes af8 C):=by
 have ha:=fun H=>hA.alive (H:=H)
 obtain ⟨hb,hh,hlen⟩:=hH [.cells (loadCs l)] l 130
 cases hb with
 |true=>
  clear hA hE hlen hx hH
  unfold Wa af8 Zq Zr Zu Zm Zl Zo Zs Zd Zh Zk Zc Za Zb Zf Zg Zx Zt Zn Zi Zy Zw
  simp only[zipI,loadCs] at *
  refine gA ?_
  exact zac (v:=.bool true) (.inl rfl) rfl (by simp) endvP rfl
 |false=>
 have hlen:=hlen rfl
 have hro:=fun H=>yee H l (by omega) (by omega) (by omega)
 have hv:=fun H=>hA.valid (hro H)
 cases hval:Ld.valid l with
 |false=>
  rw[hval] at hv
  clear hA hE hlen hx hval hH hro
  unfold Wa af8 Zq Zr Zu Zm Zl Zo Zs Zd Zh Zk Zc Za Zb Zf Zg Zx Zt Zn Zi Zy Zw
  simp only[zipI,loadCs] at *
  refine gA ?_
  exact zac (v:=.bool true) (.inl rfl) rfl (by simp) endvP rfl
 |true=>
 rw[hval] at hv
 obtain ⟨hvl,hd,hc4,hcs⟩:=Ld.vl_of hval
 have hml:(l.carts.map cE).length=l.carts.length:=by simp
 have hwx:IntKind.i64.wrap x=x:=zaf (by omega) (by omega)
 have hX:Ld.canS l (Ld.everyP l)<2 ^ l.carts.length:=Clm.setOf_lt _ _
 have hW:∀ c,Ld.withS l c (Ld.everyP l)<2 ^ l.carts.length:=fun c=>Clm.setOf_lt _ _
 have hpw:2 ^ l.carts.length≤2 ^ 4:=Nat.pow_le_pow_right (by decide) hc4
 have hpw0:1≤2 ^ l.carts.length:=Nat.one_le_two_pow
 have hsl:=Ld.soon_law hd.1 hd.2
 have hnl:=Ld.never_law (l:=l) (by omega) hd.2
 obtain ⟨s1,s2,s3⟩:=zlo (d:=l.carts.length) (by omega)
 have hsub:IntKind.i64.wrap (((2 ^ l.carts.length:Nat):Int) - 1)=((2 ^ l.carts.length - 1:Nat):Int):=by
  rw[show (((2 ^ l.carts.length:Nat):Int) - 1)=((2 ^ l.carts.length - 1:Nat):Int) by omega]
  exact zaf (by omega) (by omega)
 have han:=zyx (a:=2 ^ l.carts.length - 1) (b:=Ld.canS l (Ld.everyP l)) (by omega) (by omega)
 rw[← hnl] at han
 have q1:=fun H=>hA.all (hro H)
 have q2:=fun H=>hA.never (hro H)
 unfold allRV at q1
 unfold neverRV at q2
 rw[hval,if_pos rfl] at q2
 rw[if_pos hval] at q1
 have hSo:∃ (S a e:Int),Ld.soonS l (Ld.everyP l)=S∧(∀ H,call (.fn (.func 18) [] []) [.agg (loadCs l)] H=some (.ret (.tup [.int .i64 a,.int .i64 e]),H,[]))∧((e=0∧0≤S∧a=S)∨(e=4∧S<0∧a=0)):=by
  cases hr:Ld.allR l with
  |none=>
   rw[hr] at q1 hsl
   exact ⟨-1,0,4,hsl,q1,.inr ⟨rfl,by decide,rfl⟩⟩
  |some n=>
   rw[hr] at q1 hsl
   exact ⟨n,n,0,hsl,q1,.inl ⟨rfl,Ld.all_nn hd.1 hr,rfl⟩⟩
 obtain ⟨S,ra,re,hS,q1',hre⟩:=hSo
 clear q1 hsl
 have q2':∀ H,call (.fn (.func 23) [] []) [.agg (loadCs l)] H=some (.ret (.tup [.int .i64 (Ld.neverR l:Nat),.int .i64 0]),H,[]):=q2
 have hNV0:l.carts.length=0→((Ld.neverR l:Nat):Int)=0:=fun h=>by
  rw[hnl,h]
  simp[andn]
 generalize ((Ld.neverR l:Nat):Int)=NV at *
 clear q2
 have hSo:(re=0∧(0≤S)=True∧(S<0)=False∧ra=S)∨(re=4∧(0≤S)=False∧(S<0)=True∧ra=0):=by
  rcases hre with ⟨h1,h2,h3⟩|⟨h1,h2,h3⟩
  ·exact .inl ⟨h1,eq_true h2,eq_false (by omega),h3⟩
  ·exact .inr ⟨h1,eq_false (by omega),eq_true h2,h3⟩
 clear hre
 by_cases hn0:l.carts.length=0
 ·-- no carts
  obtain ⟨H1,tc1,w1,w2,w3,w4⟩:=hE l hval (by omega) 0 (.inr ⟨hn0,rfl⟩) _ (ymo l 0) rfl
  have q3:=fun H=>hA.with_ (hro H) 0 (by unfold i64n;omega)
  unfold withRV errL at q3
  rw[hval,show Ld.isCart l 0=false from decide_eq_false (by omega)] at q3
  simp only[Bool.and_false,Bool.false_eq_true,if_false,if_true] at q3
  obtain ⟨⟨a1,a2,a3⟩,⟨b1,b2,b3⟩,⟨c1,c2,c3⟩,⟨d1,d2,d3⟩,⟨e1,e2,e3⟩,⟨f1,f2,f3⟩⟩:=w2
  rw[hS] at c1
  generalize ((Ld.canS l (Ld.everyP l):Nat):Int)=XI at *
  generalize ((2 ^ l.carts.length:Nat):Int)=QI at *
  generalize ((2 ^ l.carts.length - 1:Nat):Int)=MI at *
  generalize hWz:Ld.withS l 0 (Ld.everyP l)=WN at *
  obtain rfl:=hNV0 hn0
  have hw1:IntKind.i64.wrap 1=1:=by decide
  have hw0:IntKind.i64.wrap 0=0:=by decide
  generalize hcn:l.carts.length=cn at *
  subst hn0
  clear hA hE hlen hx hval hH hro hvl hd hcs hX hW hpw hpw0 hS hc4 w3 hnl hWz s3 hcn hNV0 s1 s2 hsub han
  unfold Wa af8 Zq Zr Zu Zm Zl Zo Zs Zd Zh Zk Zc Za Zb Zf Zg Zx Zt Zn Zi Zy Zw
  simp only[zipI,loadCs,show ((0:Nat):Int)=0 from rfl] at *
  rcases hSo with ⟨rfl,h1,h2,rfl⟩|⟨rfl,h1,h2,rfl⟩
  all_goals
   refine gB ?_
   exact zac (v:=.bool true) (.inl rfl) rfl (by simp) endvP rfl
 have hn1:0<l.carts.length:=by omega
 have hn2:(0:Int)<(l.carts.length:Int):=by omega
 have hn3:¬ (l.carts.length:Int)=0:=by omega
 have hn4:¬ (l.carts=[]):=fun h=>hn0 (by rw[h];rfl)
 obtain ⟨c,hxi,hi⟩:∃ c:Nat,x.tmod (l.carts.length:Int)=(c:Int)∧c<l.carts.length:=by
  refine ⟨x.toNat % l.carts.length,?_,Nat.mod_lt _ (by omega)⟩
  rw[Int.tmod_eq_emod_of_nonneg hx.1]
  have:x=(x.toNat:Int):=by omega
  conv=>lhs;rw[this]
  rfl
 have hwc:IntKind.i64.wrap (c:Int)=c:=zaf (by omega) (by omega)
 obtain ⟨H1,tc1,w1,w2,w3,w4⟩:=hE l hval (by omega) c (.inl hi) _ (ymo l c) rfl
 obtain ⟨⟨a1,a2,a3⟩,⟨b1,b2,b3⟩,⟨c1,c2,c3⟩,⟨d1,d2,d3⟩,⟨e1,e2,e3⟩,⟨f1,f2,f3⟩⟩:=w2
 rw[hS] at c1
 have hgb:(Ld.goneR l fun p=>Ld.goesB p c).testBit c=(Ld.rights l).any fun p=>Ld.goesB p c:=by
  unfold Ld.goneR
  rw[Clm.setOf_bit,decide_eq_true hi,Bool.true_and]
  congr 1
  funext p
  unfold Ld.goesB
  exact Bool.and_self _
 have q3:=fun H=>hA.with_ (hro H) c (by unfold i64n;omega)
 have q4:=fun H=>hA.alone (hro H) c (by unfold i64n;omega)
 have q5:=fun H=>hA.alone (hro H) l.carts.length (by unfold i64n;omega)
 have q6:=fun H=>hA.with_ (hro H) (-1) (by unfold i64n;omega)
 unfold withRV errL at q3 q6
 unfold aloneRV errL at q4 q5
 rw[hval,show Ld.isCart l c=true from decide_eq_true (by omega),Int.toNat_natCast] at q3 q4
 rw[hval,show Ld.isCart l l.carts.length=false from decide_eq_false (by omega)] at q5
 rw[hval,show Ld.isCart l (-1)=false from decide_eq_false (by omega)] at q6
 simp only[Bool.and_true,Bool.and_false,Bool.false_eq_true,if_false,if_true] at q3 q4 q5 q6
 rw[hgb] at q3
 have o3:=bit_i64 (n:=Ld.canS l (Ld.everyP l)) (d:=c) (by omega)
 rw[Ld.can_bit (by omega) hd.2 hi] at o3
 have hal:=Ld.alone_iff hvl hd.1 hd.2 hi
 have hwl:=Ld.with_law (l:=l) (by omega) hd.2 c
 have hWc:=hW c
 have hpc:2 ^ c≤2 ^ 4:=Nat.pow_le_pow_right (by decide) (by omega)
 have han2:=zyx (a:=Ld.withS l c (Ld.everyP l)) (b:=2 ^ c) (by omega) (by omega)
 rw[← hwl] at han2
 obtain ⟨t1,t2,t3⟩:=zlo (d:=c) (by omega)
 have hdl:=fun d (h:Ld.aloneR l c=some d)=>Ld.alone_lt h
 generalize ((Ld.withR l c:Nat):Int)=WR at *
 generalize ((Ld.canS l (Ld.everyP l):Nat):Int)=XI at *
 generalize ((Ld.withS l c (Ld.everyP l):Nat):Int)=WI at *
 generalize ((2 ^ l.carts.length:Nat):Int)=QI at *
 generalize ((2 ^ l.carts.length - 1:Nat):Int)=MI at *
 generalize ((2 ^ c:Nat):Int)=CI at *
 generalize ((Ld.rights l).any fun p=>Ld.goesB p c)=tb at *
 generalize Ld.aloneR l c=al at *
 clear hA hE hlen hx hval hH hro hvl hd hcs hX hW hpw hpw0 hS hc4 w3 hnl hNV0 hgb hwl hWc hpc hi hn0 hml
 simp at han han2
 cases tb with
 |true=>
  obtain ⟨d,rfl⟩:=Option.isSome_iff_exists.1 hal
  have hdl':=hdl d rfl
  clear hdl hal
  simp only[if_true] at q3 o3
  simp at o3
  unfold Wa af8 Zq Zr Zu Zm Zl Zo Zs Zd Zh Zk Zc Za Zb Zf Zg Zx Zt Zn Zi Zy Zw
  simp only[zipI,loadCs] at *
  rcases hSo with ⟨rfl,h1,h2,rfl⟩|⟨rfl,h1,h2,rfl⟩
  all_goals
   refine gB ?_
   exact zac (v:=.bool true) (.inl rfl) rfl (by simp) endvP rfl
 |false=>
  cases al with
  |some d=>cases hal
  |none=>
  clear hdl hal
  simp only[Bool.false_eq_true,if_false] at q3 o3
  simp at o3
  unfold Wa af8 Zq Zr Zu Zm Zl Zo Zs Zd Zh Zk Zc Za Zb Zf Zg Zx Zt Zn Zi Zy Zw
  simp only[zipI,loadCs] at *
  rcases hSo with ⟨rfl,h1,h2,rfl⟩|⟨rfl,h1,h2,rfl⟩
  all_goals
   refine gB ?_
   exact zac (v:=.bool true) (.inl rfl) rfl (by simp) endvP rfl
end Ro
end Ev
end Go.Proofs.YtfpepkbflnendaaGreat
