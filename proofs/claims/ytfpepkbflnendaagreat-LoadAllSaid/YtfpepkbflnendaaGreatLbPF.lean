/- LoadAll, gone through: all plans, one after the other. -/
import Derived.Test.YtfpepkbflnendaaGreatLbPE
import Derived.Test.YtfpepkbflnendaaGreatLbPD
import Derived.Test.YtfpepkbflnendaaGreatLbEA
/- Package load, gone through: Alone, Never, With. -/
namespace Go.Proofs.YtfpepkbflnendaaGreat
open Go
namespace Ld
theorem notS (p:Nat→Bool)(n:Nat):andn (2 ^ n - 1) (Clm.setOf p n)=Clm.setOf (fun u=>!p u) n:=by
 refine Nat.eq_of_testBit_eq fun i=>?_
 rw[zff,Clm.setOf_bit,Clm.setOf_bit,Nat.testBit_two_pow_sub_one]
 by_cases h:i<n<;>simp[h]
end Ld
namespace Ev
namespace Ro
open K
attribute [local simp] ev1 wantG spineK spine float xnew xval xeff zab zae zau zah zai addFl cellsOf pickC alive slLen slFt binI maxA maxK minA minK aeqK aeqS AV.cells spA zad fillA setAt bitsI nat_nn zav AV.plain apart
set_option maxRecDepth 100000
set_option maxHeartbeats 4000000
def aloneRV (l:Ld.Lo)(i:Int):AV:=if (Ld.valid l&&Ld.isCart l i)=true then (match Ld.aloneR l i.toNat with|none=>.tup [.int .i64 0,.int .i64 4]|some n=>.tup [.int .i64 n,.int .i64 0]) else .tup [.int .i64 0,.int .i64 (errL l (Ld.isCart l i))]
theorem ygi {l:Ld.Lo}{i d:Nat}(hd:(d:Int)<l.days)(h1:Ld.right l (Ld.only l i d)=true)(h2:∀ k,k<d→Ld.right l (Ld.only l i k)=false):Ld.aloneR l i=some d:=by
 unfold Ld.aloneR
 rw[List.find?_eq_some_iff_getElem]
 refine ⟨h1,d,by rw[List.length_range];omega,by simp,fun j hj=>?_⟩
 rw[List.getElem_range,h2 j hj];rfl
theorem yjp {l:Ld.Lo}{i:Nat}(h2:∀ k:Nat,(k:Int)<l.days→Ld.right l (Ld.only l i k)=false):Ld.aloneR l i=none:=by
 unfold Ld.aloneR
 rw[List.find?_eq_none]
 intro k hk
 rw[h2 k (by have:=List.mem_range.1 hk;omega)];simp
theorem ygh (C:Cfg)(hC:C.calm=true)(call call0:CallF)(l:Ld.Lo)(hdf:C.dfk 71=some (131,true))(hO:LOpenC call call0 l)(hR:Ld.valid l=true→RightC call l)(hRe:RepC call)(hM:LmustC call)(i:Int)(hbd:Ld.valid l=true→1≤l.days∧l.days≤4∧l.carts.length≤4)
  (hF:IsFnL call0 l (.fn (.func 72) [] [.ptr 1 0]) (Ld.isCart l i) [.cells (loadCs l),.cells [.int .i64 i],.cells [.int .i64 0]]):
  Wa C call [] af20 [.agg (loadCs l),.int .i64 i]
   (Fin C ([]:List AB).length af20 (Ans (aloneRV l i))):=by
 have hmf:=hM.f
 have ho:=hO [.cells (loadCs l),.cells [.int .i64 i],.cells [.int .i64 0]] _ _ hF
 unfold aloneRV
 unfold Wa af20 Zq Zu Zm Zl Zo Zs Zc Za Zb Zf Zg Zj Zt Zn Zi Zy
 rcases ho with ⟨e,h1,h2⟩|⟨h1,h2,H',qb,mb,h3,h4,h5,h6,h7⟩
 ·obtain ⟨h8,h9⟩:=ybn h1
  rw[h9,if_neg (by decide),h8]
  clear hO hR hRe hF h1 h8 h9 hbd hM
  unfold stopL at h2
  simp only[zipI,loadCs] at *
  refine gD ?_
  refine zbl (v:=.tup [.int .i64 0,.int .i64 e]) hdf rfl (by simp only;rfl) (by simp only[resL,resOf,zaa];simp[resV,pickC]) ⟨by simp,by simp⟩
 ·rw[h1,h2,Bool.true_and,if_pos rfl]
  obtain ⟨hd0,hd1,hc4⟩:=hbd h1
  have hR:=hR h1
  have hic:=of_decide_eq_true h2
  obtain ⟨c,rfl⟩:∃ c:Nat,i=c:=⟨i.toNat,by omega⟩
  have hcn:c<l.carts.length:=by omega
  rw[Int.toNat_natCast]
  have hl3:3≤H'.length:=by have:=h4.len;simpa using this
  have hRe1:=hRe l.carts.length (by omega) (H'++[.cells [.int .i64 (-1)]]) H'.length (by simp)
  simp only[List.append_assoc,List.cons_append,List.nil_append,List.length_append,List.length_cons,List.length_nil,Nat.zero_add] at hRe1
  have e0:H'[0]?=some (.cells (loadCs l)):=h4.at rfl (by simp)
  have e1:H'[1]?=some (.cells [.int .i64 c]):=h4.at rfl (by simp)
  have e2:H'[2]?=some (.cells [.int .i64 0]):=h4.at rfl (by simp)
  obtain ⟨u0,u1,u2,u3,u4,u5⟩:=bk' e0
  have hql:=h5.ql
  have hml:=h5.ml
  have hne:=h5.ne
  have HH:=hideP (And.intro h5 (And.intro h4 (And.intro hR (And.intro e1 e2))))
  have hq2:3≤qb:=by simpa using h6
  have hm2:3≤mb:=by simpa using h7
  clear hO hRe hF h1 h2 h4 h5 h6 h7 hbd hM hic e0 e1 e2 hR
  simp only[zipI,loadCs] at *
  refine gA ?_
  clear u0 u1 u2 u3 u4 u5 h3 hRe1
  have hdn:(l.days.toNat:Int)=l.days:=by omega
  with_reducible refine zan hC l.days.toNat (by unfold fuelL;omega) (fun d st=>∃ hp w tc,Qx l qb mb hp∧hp[1]?=some (.cells [.int .i64 c])∧hp[2]?=some (.cells [.int .i64 0])∧hp[H'.length+1]?=some (.cells (ints w))∧(∀ x,w.set c x=Ld.only l c x)∧w.length=l.carts.length∧(∀ k:Nat,k<d→Ld.right l (Ld.only l c k)=false)∧(∀ j∈tc,j<0)∧st={ tm:=tmA 33 [(20,.int .i64 d),(19,.int .i64 l.days),(7,.sl (H'.length+1) 0 l.carts.length 1),(6,.ptr qb 0),(5,.ptr 2 0),(4,.int .i64 0),(3,.ptr 1 0)],df:=[.call 71 [.ptr 2 0]],hp:=hp,tc:=tc }) ?_ ?_ ?_
  ·obtain ⟨h5,h4,hR,e1,e2⟩:=HH.out
   refine ⟨H'++[.cells [.int .i64 (-1)],.cells (List.replicate l.carts.length (.int .i64 (-1)))],List.replicate l.carts.length (-1),[],h5.app _,?_,?_,?_,fun x=>rfl,by simp,by simp,by simp,?_⟩
   ·rw[List.getElem?_append_left (by omega)];exact e1
   ·rw[List.getElem?_append_left (by omega)];exact e2
   ·simp[ints]
   ·refine st_is ?_ rfl rfl rfl
    simp[zag,zal]
  ·rintro d st hd ⟨hp,w,tc,hQ,e1,e2,e3,hw1,hw2,hno,htc,rfl⟩
   obtain ⟨h5,h4,hR,_⟩:=HH.out
   have hdd:(d:Int)<l.days:=by omega
   have hQ2:Qx l qb mb (hp.set (H'.length+1) (.cells (ints (Ld.only l c d)))):=hQ.sm (by rw[List.getElem?_set_ne (by omega)]) (by rw[List.getElem?_set_ne (by omega)])
   have hol:(Ld.only l c (d:Int)).length=l.carts.length:=Ld.only_len l c d
   have hpl:=get_lt e3
   obtain ⟨H2,tc2,c1,c2,c3,c4⟩:=hR _ qb mb hQ2 (Ld.only l c d) (.sl (H'.length+1) 0 (Ld.only l c d).length 1) (by omega) (.some (H'.length+1) (ints (Ld.only l c d)) ⟨by omega,by simpa using hpl⟩ (List.getElem?_set_self hpl) (by simp[ints]) fun i hi=>ybh _ hi)
   rw[hol] at c1
   have f1:H2[1]?=some (.cells [.int .i64 c]):=c3.at (by rw[List.getElem?_set_ne (by omega)];exact e1) fun h=>by have:=c2 _ h;omega
   have f2:H2[2]?=some (.cells [.int .i64 0]):=c3.at (by rw[List.getElem?_set_ne (by omega)];exact e2) fun h=>by have:=c2 _ h;omega
   have f3:H2[H'.length+1]?=some (.cells (ints (Ld.only l c d))):=c3.at (List.getElem?_set_self hpl) fun h=>by have:=c2 _ h;omega
   have hset:(ints w).set c (.int .i64 d)=ints (Ld.only l c d):=by rw[← hw1 d];simp[ints,List.map_set]
   have hset2:List.take c (ints w)++.int .i64 d::List.drop (c+1) (ints w)=ints (Ld.only l c d):=by
    rw[← hset,List.set_eq_take_append_cons_drop,if_pos (by simp[ints];omega)]
   have hil:(ints w).length=l.carts.length:=by simp[ints,hw2]
   have hcl:c<(ints w).length:=by omega
   have hcl2:c+1≤(ints w).length:=by omega
   have hci:(c:Int)<l.carts.length:=by omega
   have hwi:IntKind.i64.wrap ((d:Int)+1)=(d:Int)+1:=zaf (by omega) (by omega)
   obtain ⟨a0,a1,a2,a3,a4,a5⟩:=bk' e1
   obtain ⟨b0,b1,b2,b3,b4,b5⟩:=bk' e3
   obtain ⟨g0,g1,g2,g3,g4,g5⟩:=bk' f2
   have hfind:=fun h=>ygi (l:=l) (i:=c) (d:=d) hdd h hno
   have HQ:=hideP (And.intro c4 (And.intro f1 (And.intro f3 (And.intro hno (And.intro htc (And.intro hfind hol))))))
   generalize hon:ints (Ld.only l c d)=cs2 at *
   have HON:=hideP hon
   generalize ints w=cs at *
   have htcn:∀ tcx:List Nat,List.filter (fun x=>decide (x<0)) tcx=[]:=fun tcx=>by simp
   clear hQ e1 e2 e3 hw1 hw2 hno htc h5 h4 hR hQ2 c2 c3 c4 f1 f3 hfind hon hset hol hpl hil
   cases hr:Ld.right l (Ld.only l c d) with
   |true=>
    rw[hr] at c1
    have HR:=hideP hr
    clear hr
    (repeat (first|(with_reducible apply zak;(focus ((conv=>lhs;simp[*,hset2,Nat.testBit_eq_decide_div_mod_eq])<;>exact rfl));simp only[addFl])|((with_reducible first|apply zaw|apply zay|apply zas|apply zaq|apply zao|apply zax|apply zar|apply zaz|(apply zap;· simp[*,zab])|(apply zam;· simp[*,zab]));try simp only[Then,Ops,OutB])|simp only[Nat.reduceEqDiff,reduceIte,OutB,Then]))
    obtain ⟨_,_,_,_,htc,hfind,_⟩:=HQ.out
    rw[hfind HR.out]
    refine zdk (v:=.tup [.int .i64 d,.int .i64 0]) (.inl rfl) hdf rfl (by simp) (by simp only[resL,resOf,zaa];simp[resV,pickC,g0]) ⟨rfl,?_⟩
    rw[List.eq_nil_iff_forall_not_mem]
    intro j hj
    simp at hj
    exact absurd (htc j hj) (Nat.not_lt_zero j)
   |false=>
    rw[hr] at c1
    have HR:=hideP hr
    clear hr
    (repeat (first|(with_reducible apply zak;(focus ((conv=>lhs;simp[*,hset2,Nat.testBit_eq_decide_div_mod_eq])<;>exact rfl));simp only[addFl])|((with_reducible first|apply zaw|apply zay|apply zas|apply zaq|apply zao|apply zax|apply zar|apply zaz|(apply zap;· simp[*,zab])|(apply zam;· simp[*,zab]));try simp only[Then,Ops,OutB])|simp only[Nat.reduceEqDiff,reduceIte,OutB,Then]))
    obtain ⟨c4,f1,f3,hno,htc,_,hol⟩:=HQ.out
    refine ⟨H2,Ld.only l c d,tc,c4,f1,g1,by rw[HON.out];exact f3,fun x=>by unfold Ld.only;rw[List.set_set],hol,fun k hk=>?_,htc,?_⟩
    ·by_cases hkd:k=d
     ·subst hkd;exact HR.out
     ·exact hno k (by omega)
    ·refine st_is ?_ rfl rfl ?_
     ·simp[zag,zal]
     ·simp
  ·rintro st ⟨hp,w,tc,hQ,e1,e2,e3,hw1,hw2,hno,htc,rfl⟩
   have hdd:¬ ((l.days.toNat:Int)<l.days):=by omega
   obtain ⟨g0,g1,g2,g3,g4,g5⟩:=bk' e2
   rw[yjp (l:=l) (i:=c) fun k hk=>hno k (by omega)]
   have HT:=hideP htc
   clear hQ e1 e3 hw1 hw2 hno htc
   refine gD ?_
   refine zbl (v:=.tup [.int .i64 0,.int .i64 4]) hdf rfl (by simp only;exact e2) (by simp only[resL,resOf,zaa];simp[resV,pickC,List.getElem?_set_self (get_lt e2)]) ⟨by simp,?_⟩
   rw[List.eq_nil_iff_forall_not_mem]
   intro j hj
   simp at hj
   exact absurd (HT.out j hj) (Nat.not_lt_zero j)
def neverRV (l:Ld.Lo):AV:=if Ld.valid l=true then .tup [.int .i64 (Ld.neverR l:Nat),.int .i64 0] else .tup [.int .i64 0,.int .i64 (errL l true)]
theorem yfd (C:Cfg)(call call0 call1:CallF)(l:Ld.Lo)(hdf:C.dfk 79=some (131,true))(hO:LOpenC call call0 l)(hG:Ld.valid l=true→GoneC call call1 l)(hA:∀ pv G,call1 (.fn (.func 81) [] []) [pv] G=some (.ret (.bool true),G,[]))(hbd:Ld.valid l=true→l.carts.length≤4)
  (hF:IsFnL call0 l (.fn (.func 59) [] []) true [.cells (loadCs l),.cells [.int .i64 0]]):
  Wa C call [] af23 [.agg (loadCs l)]
   (Fin C ([]:List AB).length af23 (Ans (neverRV l))):=by
 have ho:=hO [.cells (loadCs l),.cells [.int .i64 0]] _ _ hF
 unfold neverRV
 unfold Wa af23 Zq Zr Zm Zo Zs Zd Ze Zc Za Zb Zf Zg Zt Zn Zi
 rcases ho with ⟨e,h1,h2⟩|⟨h1,_,H',qb,mb,h3,h4,h5,h6,h7⟩
 ·obtain ⟨h8,h9⟩:=ybn h1
  rw[Bool.and_true] at h9
  rw[h9,if_neg (by decide),h8]
  clear hO hF h1 h8 h9 hbd hG hA
  unfold stopL at h2
  simp only[zipI,loadCs] at *
  refine gD ?_
  refine zbl (v:=.tup [.int .i64 0,.int .i64 e]) hdf rfl (by simp only;rfl) (by simp only[resL,resOf,zaa];simp[resV,pickC]) ⟨by simp,by simp⟩
 ·rw[h1,if_pos rfl]
  have hc4:=hbd h1
  obtain ⟨H2,tc2,c1,c2,c3,c4⟩:=hG h1 H' qb mb qb _ (.func 81) [] [] (fun _=>true) (fun G _ _ p _ pv _=>hA pv G) h5 h5.q h5.ne
  have hl2:2≤H'.length:=by have:=h4.len;simpa using this
  have e0:H'[0]?=some (.cells (loadCs l)):=h4.at rfl (by simp)
  have e2:H2[1]?=some (.cells [.int .i64 0]):=c3.at (h4.at rfl (by simp)) fun h=>by have:=c2 _ h;simp at h7;omega
  obtain ⟨u0,u1,u2,u3,u4,u5⟩:=bk' e0
  obtain ⟨b0,b1,b2,b3,b4,b5⟩:=bk' e2
  have hlt:Ld.goneR l (fun _=>true)<2 ^ l.carts.length:=Clm.setOf_lt _ _
  have hp2:2 ^ l.carts.length≤2 ^ 4:=Nat.pow_le_pow_right (by decide) hc4
  have hp1:1≤2 ^ l.carts.length:=Nat.one_le_two_pow
  obtain ⟨s1,s2,s3⟩:=zlo (d:=l.carts.length) (by omega)
  have hnv:andn (2 ^ l.carts.length - 1) (Ld.goneR l (fun _=>true))=Ld.neverR l:=by
   unfold Ld.goneR Ld.neverR Ld.goesB
   rw[Ld.notS]
   refine Clm.setOf_congr fun u _=>?_
   simp
  have o1:=zyx (a:=2 ^ l.carts.length - 1) (b:=Ld.goneR l (fun _=>true)) (by omega) (by omega)
  have hw:IntKind.i64.wrap ((2 ^ l.carts.length - 1:Nat):Int)=((2 ^ l.carts.length - 1:Nat):Int):=zaf (by omega) (by omega)
  have h0t:0∉tc2:=fun h=>by have:=c2 _ h;simp at h7;omega
  rw[hnv] at o1
  have hs4:(((2 ^ l.carts.length:Nat):Int) - 1)=((2 ^ l.carts.length - 1:Nat):Int):=by omega
  generalize Ld.goneR l (fun _=>true)=g at *
  generalize Ld.neverR l=nv at *
  clear hO hF h1 h4 h5 h6 h7 hbd hG hA c2 c3 c4 e0 hlt hp2 hc4 hnv
  generalize hP2:2 ^ l.carts.length=P at s1 s2 s3 o1 hw hp1 hs4
  generalize hM:P - 1=M at *
  clear hP2
  simp at o1
  simp only[zipI,loadCs] at *
  refine gC ?_
  refine zdk (v:=.tup [.int .i64 nv,.int .i64 0]) (.inl rfl) hdf rfl (by simp) (by simp only[zai];simp only[resL,resOf,zaa];simp[resV,pickC,b0]) ⟨rfl,by simp⟩
theorem bit_i64 {n d:Nat}(hd:d≤60):IntKind.i64.wrap ((BitVec.ofInt IntKind.i64.bits ((n:Int).fdiv (2 ^ (min ((d:Int).toNat) IntKind.i64.bits)))&&&BitVec.ofInt IntKind.i64.bits 1).toNat)=if n.testBit d then 1 else 0:=by
 have hb:IntKind.i64.bits=64:=rfl
 have hf:((n:Int).fdiv (2 ^ d))=((n / 2 ^ d:Nat):Int):=by
  rw[Int.fdiv_eq_ediv_of_nonneg _ (Int.pow_nonneg (by decide))];simp
 rw[show min ((d:Int).toNat) IntKind.i64.bits=d by rw[hb];omega,hf,hb]
 have h1:(BitVec.ofInt 64 ((n / 2 ^ d:Nat):Int)).toNat=(n / 2 ^ d) % 2 ^ 64:=by
  rw[BitVec.toNat_ofInt];omega
 have h2:(BitVec.ofInt 64 1).toNat=1:=by decide
 rw[BitVec.toNat_and,h1,h2,Nat.and_one_is_mod,Nat.testBit_eq_decide_div_mod_eq]
 generalize n / 2 ^ d=q at *
 have h3:q % 2 ^ 64 % 2=q % 2:=by omega
 rw[h3]
 by_cases hm:q % 2=1
 ·rw[hm];rfl
 ·rw[show q % 2=0 by omega];rfl
def withRV (l:Ld.Lo)(i:Int):AV:=if (Ld.valid l&&Ld.isCart l i)=true then (if (Ld.goneR l fun p=>Ld.goesB p i.toNat).testBit i.toNat=true then .tup [.int .i64 (Ld.withR l i.toNat:Nat),.int .i64 0] else .tup [.int .i64 0,.int .i64 4]) else .tup [.int .i64 0,.int .i64 (errL l (Ld.isCart l i))]
theorem ygn (C:Cfg)(call call0 call1:CallF)(l:Ld.Lo)(hdf:C.dfk 84=some (131,true))(hO:LOpenC call call0 l)(hG:Ld.valid l=true→GoneC call call1 l)(hM:LmustC call)(i:Int)(hA:∀ c:Nat,i=c→Ld.valid l=true→c<l.carts.length→∀ qb mb,AskC call1 l qb mb 1 (.cells [.int .i64 c]) (.fn (.func 86) [] [.ptr 1 0]) fun p=>Ld.goesB p c)(hbd:Ld.valid l=true→l.carts.length≤4)
  (hF:IsFnL call0 l (.fn (.func 85) [] [.ptr 1 0]) (Ld.isCart l i) [.cells (loadCs l),.cells [.int .i64 i],.cells [.int .i64 0]]):
  Wa C call [] af25 [.agg (loadCs l),.int .i64 i]
   (Fin C ([]:List AB).length af25 (Ans (withRV l i))):=by
 have hmt:=hM.t
 have hmf:=hM.f
 have ho:=hO [.cells (loadCs l),.cells [.int .i64 i],.cells [.int .i64 0]] _ _ hF
 unfold withRV
 unfold Wa af25 Zq Zm Zl Zo Zs Zc Za Zb Zg Zt Zn Zi
 rcases ho with ⟨e,h1,h2⟩|⟨h1,h2,H',qb,mb,h3,h4,h5,h6,h7⟩
 ·obtain ⟨h8,h9⟩:=ybn h1
  rw[h9,if_neg (by decide),h8]
  clear hO hG hA hF h1 h8 h9 hbd hM
  unfold stopL at h2
  simp only[zipI,loadCs] at *
  refine gD ?_
  refine zbl (v:=.tup [.int .i64 0,.int .i64 e]) hdf rfl (by simp only;rfl) (by simp only[resL,resOf,zaa];simp[resV,pickC]) ⟨by simp,by simp⟩
 ·rw[h1,h2,Bool.true_and,if_pos rfl]
  have hc4:=hbd h1
  have hic:=of_decide_eq_true h2
  obtain ⟨c,rfl⟩:∃ c:Nat,i=c:=⟨i.toNat,by omega⟩
  have hcn:c<l.carts.length:=by omega
  rw[Int.toNat_natCast]
  have hl3:3≤H'.length:=by have:=h4.len;simpa using this
  have e1':H'[1]?=some (.cells [.int .i64 c]):=h4.at rfl (by simp)
  have hm3:3≤mb:=by simpa using h7
  obtain ⟨H2,tc2,c1,c2,c3,c4⟩:=hG h1 H' qb mb 1 _ (.func 86) [] [.ptr 1 0] _ (hA c rfl h1 hcn qb mb) h5 e1' (by omega)
  have e1:H2[1]?=some (.cells [.int .i64 c]):=c3.at e1' fun h=>by have:=c2 _ h;omega
  have e2:H2[2]?=some (.cells [.int .i64 0]):=c3.at (h4.at rfl (by simp)) fun h=>by have:=c2 _ h;omega
  have e0:H'[0]?=some (.cells (loadCs l)):=h4.at rfl (by simp)
  obtain ⟨u0,u1,u2,u3,u4,u5⟩:=bk' e0
  obtain ⟨a0,a1,a2,a3,a4,a5⟩:=bk' e1
  obtain ⟨b0,b1,b2,b3,b4,b5⟩:=bk' e2
  have hlt:Ld.goneR l (fun p=>Ld.goesB p c)<2 ^ l.carts.length:=Clm.setOf_lt _ _
  have hp2:2 ^ l.carts.length≤2 ^ 4:=Nat.pow_le_pow_right (by decide) hc4
  have hp3:2 ^ c≤2 ^ 4:=Nat.pow_le_pow_right (by decide) (by omega)
  obtain ⟨s1,s2,s3⟩:=zlo (d:=c) (by omega)
  have hbt:=bit_i64 (n:=Ld.goneR l (fun p=>Ld.goesB p c)) (d:=c) (by omega)
  have hnv:andn (Ld.goneR l (fun p=>Ld.goesB p c)) (2 ^ c)=Ld.withR l c:=by
   unfold Ld.goneR Ld.withR Ld.goesB
   rw[Clm.setOf_andn]
   refine Clm.setOf_congr fun u _=>?_
   rw[Bool.and_comm]
   congr 1
  have o1:=zyx (a:=Ld.goneR l (fun p=>Ld.goesB p c)) (b:=2 ^ c) (by omega) (by omega)
  rw[hnv] at o1
  generalize Ld.goneR l (fun p=>Ld.goesB p c)=g at *
  generalize Ld.withR l c=nv at *
  clear hO hF h1 h2 h4 h5 h6 h7 hbd hG hA c2 c3 c4 e0 hlt hp2 hp3 hc4 hnv hic hM e1' e1
  generalize hP2:2 ^ c=P at s1 s2 s3 o1
  have HP2:=hideP hP2
  clear hP2
  simp at o1
  cases hb:g.testBit c with
  |true=>
   rw[hb] at hbt
   rw[if_pos rfl] at hbt
   simp at hbt
   rw[if_pos rfl]
   clear hb
   have hc0:¬ ((c:Int)<0):=by omega
   simp only[zipI,loadCs] at *
   refine gA ?_
   refine zdk (v:=.tup [.int .i64 nv,.int .i64 0]) (.inl rfl) hdf rfl (by simp) (by simp only[resL,resOf,zaa];simp[resV,pickC,b0]) ⟨rfl,by simp⟩
  |false=>
   rw[hb] at hbt
   rw[if_neg (by decide)] at hbt
   simp at hbt
   rw[if_neg (by decide)]
   clear hb
   have hc0:¬ ((c:Int)<0):=by omega
   simp only[zipI,loadCs] at *
   refine gD ?_
   refine zbl (v:=.tup [.int .i64 0,.int .i64 4]) hdf rfl (by simp only;exact e2) (by simp only[resL,resOf,zaa];simp[resV,pickC,List.getElem?_set_self (get_lt e2)]) ⟨by simp,by simp⟩
theorem ydp (cs:List Ld.Cart):elemCells (cs.map cE)=caCs cs:=by
 induction cs with
 |nil=>rfl
 |cons c cs ih=>
  have e:caCs (c::cs)=.int .i64 c.load::.int .i64 c.due::caCs cs:=rfl
  rw[e,← ih]
  rfl
theorem yda (p:List Int):elemCells (ints p)=ints p:=by
 induction p with
 |nil=>rfl
 |cons c cs ih=>
  have e:ints (c::cs)=.int .i64 c::ints cs:=rfl
  rw[e]
  show .int .i64 c::elemCells (ints cs)=_
  rw[ih]
theorem ybv:∀ cs,(caCs cs).all AV.plain=true
 |[]=>rfl
 |c::cs=>by
  have e:caCs (c::cs)=.int .i64 c.load::.int .i64 c.due::caCs cs:=rfl
  rw[e]
  simp only[List.all_cons]
  exact ybv cs
theorem yig (cs:List Ld.Cart)(c:Ld.Cart):caCs (cs++[c])=caCs cs++[.int .i64 c.load,.int .i64 c.due]:=by
 unfold caCs
 rw[List.flatMap_append]
 rfl
def CloneVC (call:CallF):Prop:=∀ (H:List AB) (p:List Int),p≠[]→p.length≤1000→call (.fn (.func 63) [] []) [.vs 1 (ints p)] H=some (.ret (.sl (H.length+1) 0 p.length 1),H++[.dead,.cells (ints p)],[])
theorem yft (C:Cfg)(call:CallF)(H:List AB)(p:List Int)(h0:p≠[])(hp5:p.length≤1000):Wb C call H af63 [.vs 1 (ints p)]
  (fun v hp tc=>v=.sl (H.length+1) 0 p.length 1∧tc=[]∧hp=H++[.dead,.cells (ints p)]):=by
 have hil:(ints p).length=p.length:=by simp[ints]
 have hpl:=zfn p
 have hel:=yda p
 have hb5:p.length≤bound:=by unfold bound;omega
 obtain ⟨x,xs,hx⟩:∃ x xs,ints p=x::xs:=by
  cases p with
  |nil=>exact absurd rfl h0
  |cons a p=>exact ⟨_,_,rfl⟩
 have HH:=hideP h0
 clear h0
 generalize ints p=cs at *
 subst hx
 have hsl:∀ K,slCells 1 K (.vs 1 (x::xs))=some (x::xs):=fun K=>by
  simp[slCells,hel]
 clear hel
 have hll:xs.length+1=p.length:=by simpa using hil
 generalize p.length=n at *
 unfold Wb Wa af63 Zq Zu Zm Zo Zt Zi
 simp only[zipI]
 refine gA ?_
 exact zac (v:=.sl (H.length+1) 0 n 1) (.inl rfl) rfl (by simp) endvP ⟨rfl,by simp,by simp⟩
theorem ydr {C:Cfg}{n0:Nat}(hC:C.calm=true)(hwh:∀ f,C.whole f=true)(h0:Has C 63 af63):CloneVC (Ev.call C (n0+1)):=by
 intro H p hp0 hp5
 obtain ⟨w,hp,tc,G,c1,⟨rfl,rfl,h3⟩,k1,k2,c3,c4⟩:=zcw (first:=[]) (captured:=[]) (args:=[.vs 1 (ints p)]) (H:=H) hC hwh h0 (le' rfl) (yft C (Ev.call C n0) H p hp0 hp5)
 have hG:G=hp:=c3 (.inl (by simp[refs]))
 rw[hG,h3] at c1
 exact c1
def CloneCC (call:CallF):Prop:=∀ (H:List AB) (cs:List Ld.Cart),cs≠[]→cs.length≤1000→call (.fn (.func 91) [] []) [.vs 2 (cs.map cE)] H=some (.ret (.sl (H.length+1) 0 cs.length 2),H++[.dead,.cells (caCs cs)],[])
theorem yfw (C:Cfg)(call:CallF)(H:List AB)(p:List Ld.Cart)(h0:p≠[])(hp5:p.length≤1000):Wb C call H af91 [.vs 2 (p.map cE)]
  (fun v hp tc=>v=.sl (H.length+1) 0 p.length 2∧tc=[]∧hp=H++[.dead,.cells (caCs p)]):=by
 have hil:=ybm p
 have hpl:=ybv p
 have hel:=ydp p
 have hml:(p.map cE).length=p.length:=by simp
 have hb5:p.length≤bound:=by unfold bound;omega
 obtain ⟨x,xs,hx⟩:∃ x xs,p.map cE=x::xs:=by
  cases p with
  |nil=>exact absurd rfl h0
  |cons a p=>exact ⟨_,_,rfl⟩
 have HH:=hideP h0
 clear h0
 generalize caCs p=cs at *
 generalize p.map cE=es at *
 subst hx
 have hsl:∀ K,slCells 2 K (.vs 2 (x::xs))=some cs:=fun K=>by
  simp[slCells,hel]
 clear hel
 have hll:xs.length+1=p.length:=by simpa using hml
 have hll2:cs.length=p.length * 2:=by omega
 generalize p.length=n at *
 clear hil
 unfold Wb Wa af91 Zq Zu Zm Zo Zt Zi
 simp only[zipI]
 refine gA ?_
 exact zac (v:=.sl (H.length+1) 0 n 2) (.inl rfl) rfl (by simp) endvP ⟨rfl,by simp,by simp⟩
theorem ydt {C:Cfg}{n0:Nat}(hC:C.calm=true)(hwh:∀ f,C.whole f=true)(h0:Has C 91 af91):CloneCC (Ev.call C (n0+1)):=by
 intro H p hp0 hp5
 obtain ⟨w,hp,tc,G,c1,⟨rfl,rfl,h3⟩,k1,k2,c3,c4⟩:=zcw (first:=[]) (captured:=[]) (args:=[.vs 2 (p.map cE)]) (H:=H) hC hwh h0 (le' rfl) (yfw C (Ev.call C n0) H p hp0 hp5)
 have hG:G=hp:=c3 (.inl (by simp[refs]))
 rw[hG,h3] at c1
 exact c1
theorem yhl {l:Ld.Lo}{p:List Int}{day:Int}{i:Nat}(hi:i<61)(h1:Ld.right (Ld.moreL l ((60 - i:Nat):Int)) (p++[day])=true)(h2:∀ k,k<i→Ld.right (Ld.moreL l ((60 - k:Nat):Int)) (p++[day])=false):Ld.moreR l p day=some (60 - i):=by
 unfold Ld.moreR
 rw[List.find?_eq_some_iff_getElem]
 refine ⟨h1,i,by simpa using hi,by simp,fun j hj=>?_⟩
 rw[List.getElem_map,List.getElem_range,h2 j hj];rfl
theorem yjy {l:Ld.Lo}{p:List Int}{day:Int}(h2:∀ k,k<61→Ld.right (Ld.moreL l ((60 - k:Nat):Int)) (p++[day])=false):Ld.moreR l p day=none:=by
 unfold Ld.moreR
 rw[List.find?_eq_none]
 intro k hk
 obtain ⟨j,hj,rfl⟩:=List.mem_map.1 hk
 rw[h2 j (List.mem_range.1 hj)];simp
def moreIs (l:Ld.Lo)(p:List Int)(day:Int):Bool:=Ld.isPlan l p&&Ld.isDay l day
def moreRV (l : Ld.Lo) (p : List Int) (day : Int) : AV := if (Ld.valid l && moreIs l p day) = true then (if Ld.right l p = true then (match Ld.moreR l p day with
 |none=>.tup [.int .i64 0,.int .i64 4]
 |some n=>.tup [.int .i64 n,.int .i64 0]) else .tup [.int .i64 0,.int .i64 6]) else .tup [.int .i64 0,.int .i64 (errL l (moreIs l p day))]
theorem yhk (C:Cfg)(hC:C.calm=true)(call call0:CallF)(l:Ld.Lo)(hdf:C.dfk 88=some (131,true))(hO:LOpenC call call0 l)(hR:Ld.valid l=true→RightC call l)(hRm:Ld.valid l=true→∀ (n:Nat) (cb:Nat),n≤60→RightY call (Ld.moreL l n) cb)(hCp:CloneVC call)(hCc:CloneCC call)(hM:LmustC call)(p:List Int)(day:Int)(hc0:l.carts≠[])(hbd:Ld.valid l=true→1≤l.days∧l.days≤4∧l.carts.length≤4)(hpl:Ld.valid l=true→moreIs l p day=true→p.length=l.carts.length)
  (hF:IsFnL call0 l (.fn (.func 89) [] [.ptr 1 0,.ptr 2 0]) (moreIs l p day) [.cells (loadCs l),.cells [.vs 1 (ints p)],.cells [.int .i64 day],.cells [.int .i64 0]]):
  Wa C call [] af27 [.agg (loadCs l),.vs 1 (ints p),.int .i64 day]
   (Fin C ([]:List AB).length af27 (Ans (moreRV l p day))):=by
 have hmt:=hM.t
 have hmf:=hM.f
 have ho:=hO [.cells (loadCs l),.cells [.vs 1 (ints p)],.cells [.int .i64 day],.cells [.int .i64 0]] _ _ hF
 unfold moreRV
 unfold Wa af27 Zq Zr Zu Zm Zl Zo Zs Zd Ze Zc Zb Zf Zg Zt Zn Zi Zy
 rcases ho with ⟨e,h1,h2⟩|⟨h1,h2,H',qb,mb,h3,h4,h5,h6,h7⟩
 ·obtain ⟨h8,h9⟩:=ybn h1
  rw[h9,if_neg (by decide),h8]
  clear hO hR hRm hF h1 h8 h9 hbd hM hCp hCc hpl
  unfold stopL at h2
  simp only[zipI,loadCs] at *
  refine gD ?_
  refine zbl (v:=.tup [.int .i64 0,.int .i64 e]) hdf rfl (by simp only;rfl) (by simp only[resL,resOf,zaa];simp[resV,pickC]) ⟨by simp,by simp⟩
 ·rw[h1,h2,Bool.true_and,if_pos rfl]
  have hpl:=hpl h1 h2
  obtain ⟨hd0,hd1,hc4⟩:=hbd h1
  have hp0:p≠[]:=fun h=>hc0 (List.eq_nil_of_length_eq_zero (by rw[← hpl,h];rfl))
  have hl3:4≤H'.length:=by have:=h4.len;simpa using this
  have hq2:4≤qb:=by simpa using h6
  have hm2:4≤mb:=by simpa using h7
  obtain ⟨H2,tc2,c1,c2,c3,c4⟩:=hR h1 H' qb mb h5 p (.vs 1 (ints p)) (by omega) .vs
  have g1:H'[1]?=some (.cells [.vs 1 (ints p)]):=h4.at rfl (by simp)
  have e0:H2[0]?=some (.cells (loadCs l)):=c3.at (h4.at rfl (by simp)) fun h=>by have:=c2 _ h;omega
  have e1:H2[1]?=some (.cells [.vs 1 (ints p)]):=c3.at g1 fun h=>by have:=c2 _ h;omega
  have e2:H2[2]?=some (.cells [.int .i64 day]):=c3.at (h4.at rfl (by simp)) fun h=>by have:=c2 _ h;omega
  have e3:H2[3]?=some (.cells [.int .i64 0]):=c3.at (h4.at rfl (by simp)) fun h=>by have:=c2 _ h;omega
  have hlen2:=c3.len
  obtain ⟨u0,u1,u2,u3,u4,u5⟩:=bk' g1
  obtain ⟨b0,b1,b2,b3,b4,b5⟩:=bk' e3
  have htc0:∀ x,x<4→x∉tc2:=fun x hx h=>by have:=c2 _ h;omega
  cases hr:Ld.right l p with
  |false=>
   rw[hr] at c1
   rw[if_neg (by decide)]
   clear hO hR hRm hF h1 h2 hbd hM hCp hCc hpl h4 h5 h6 h7 c2 c3 c4 e0 e1 e2 g1 hr hp0 hd0 hd1 hc4 hlen2 hc0 htc0
   simp only[zipI,loadCs] at *
   refine gD ?_
   refine zbl (v:=.tup [.int .i64 0,.int .i64 6]) hdf rfl (by simp only;exact e3) (by simp only[resL,resOf,zaa];simp[resV,pickC,List.getElem?_set_self (get_lt e3)]) ⟨by simp,by simp⟩
  |true=>
   rw[hr] at c1
   rw[if_pos rfl]
   have hcl:call (.fn (.func 63) [] []) [.vs 1 (ints p)] (H2++[.cells [.int .i64 day]])=some (.ret (.sl (H2.length+2) 0 p.length 1),H2++[.cells [.int .i64 day],.dead,.cells (ints p)],[]):=by
    have h:=hCp (H2++[.cells [.int .i64 day]]) p hp0 (by omega)
    rw[List.length_append,List.append_assoc] at h
    exact h
   obtain ⟨a0,a1,a2,a3,a4,a5⟩:=bk' e1
   obtain ⟨d0,d1,d2,d3,d4,d5⟩:=bk' e2
   have hil:(ints p).length=p.length:=by simp[ints]
   have hb2:p.length+1≤bound:=by unfold bound;omega
   have hn1:¬ (1=H2.length+2):=by omega
   have hn2:¬ (2=H2.length+2):=by omega
   have hn3:¬ (H2.length+2=1):=by omega
   have hn4:¬ (H2.length+2=2):=by omega
   have hints:ints (p++[day])=ints p++[.int .i64 day]:=by simp[ints]
   have HH:=hideP (And.intro e0 (And.intro e3 (And.intro hRm (And.intro hCc (And.intro hc0 (And.intro hpl (And.intro hints h1)))))))
   clear hO hR hRm hF h2 hbd hM hCp hCc h4 h5 h6 h7 c2 c3 c4 e0 e1 e2 e3 g1 hr hc0 htc0 h1
   simp only[zipI,loadCs] at *
   have HPL:=hideP (And.intro hpl hp0)
   clear hpl hp0 hints
   generalize ints p=cs at *
   generalize hpn:p.length=pn at *
   have HPN:=hideP hpn
   clear hpn
   refine gC ?_
   clear u0 u1 u2 u3 u4 u5 b0 b1 b2 b3 b4 b5 a0 a1 a2 a3 a4 a5 d0 d1 d2 d3 d4 d5 hcl hil hb2 hn1 hn2 hn3 hn4 c1 h3
   with_reducible refine zan hC 61 (by unfold fuelL;omega) (fun i st=>∃ hp x tc,x=60 - (i:Int)∧hp[0]?=some (.cells (loadCs l))∧hp[3]?=some (.cells [.int .i64 0])∧hp[H2.length+3]?=some (.cells (ints (p++[day])))∧H2.length+4≤hp.length∧(∀ k,k<i→Ld.right (Ld.moreL l ((60 - k:Nat):Int)) (p++[day])=false)∧(∀ j∈tc,j<0)∧st={ tm:=tmA 49 [(10,.int .i64 x),(9,.sl (H2.length+3) 0 (pn+1) 1),(7,.ptr 3 0),(6,.int .i64 0),(3,.ptr 0 0)],df:=[.call 88 [.ptr 3 0]],hp:=hp,tc:=tc }) ?_ ?_ ?_
   ·obtain ⟨e0,e3,_,_,_,_,hints,_⟩:=HH.out
    refine ⟨H2++[.cells [.int .i64 day],.dead,.dead,.cells (cs++[.int .i64 day])],60,_,rfl,?_,?_,?_,by simp,by omega,?_,st_is ?_ rfl rfl rfl⟩
    ·rw[List.getElem?_append_left (by omega)];exact e0
    ·rw[List.getElem?_append_left (by omega)];exact e3
    ·rw[hints];simp
    ·simp
    ·simp[zag,zal]
   ·rintro i st hi ⟨hp,x,tc,hx,e0,e3,ep,hlp,hno,htc,rfl⟩
    obtain ⟨_,_,hRm,hCc,hc0,hpl,hints,h1⟩:=HH.out
    have hxn:x=((60 - i:Nat):Int):=by omega
    have hx0:0≤x:=by omega
    have hx1:x≤60:=by omega
    have hplen:(p++[day]).length=pn+1:=by rw[List.length_append,HPN.out];rfl
    have hk4:l.carts.length≤4:=hc4
    obtain ⟨G,hG⟩:∃ G:List AB,G=hp++[.cells [.vs 7 (l.road.parts.map ptE),.vs 7 (l.road.events.map evE),.int .i64 l.days,.sl (hp.length+4) 0 (l.carts.length+1) 2],.cells [.int .i64 x,.int .i64 (l.days - 1)],.dead,.dead,.cells (caCs l.carts++[.int .i64 x,.int .i64 (l.days - 1)]),.map [],.cells [.vs 7 (l.road.parts.map ptE),.vs 7 (l.road.events.map evE),.int .i64 l.days,.sl (hp.length+4) 0 (l.carts.length+1) 2,.map (hp.length+5)]]:=⟨_,rfl⟩
    have hQy:Qy (Ld.moreL l ((60 - i:Nat):Int)) (hp.length+4) (hp.length+6) (hp.length+5) G:=by
     refine ⟨by omega,by omega,by rw[hG];simp,⟨.sl (hp.length+4) 0 (l.carts.length+1) 2,by rw[hG];simp[Ld.moreL],.inr ⟨by simp[Ld.moreL],?_⟩⟩,[],by rw[hG];simp,fun q hq=>by cases hq⟩
     rw[hG,List.getElem?_append_right (by omega)]
     show _=some (AB.cells (caCs (l.carts++[_])))
     rw[yig,← hxn]
     simp
    have hGp:G[H2.length+3]?=some (.cells (ints (p++[day]))):=by rw[hG,List.getElem?_append_left (by omega)];exact ep
    have hle:(p++[day]).length≤(Ld.moreL l ((60 - i:Nat):Int)).carts.length:=by
     show _≤(l.carts++[_]).length
     rw[List.length_append,List.length_append,HPN.out,hpl]
     exact Nat.le_refl _
    obtain ⟨H3,tc3,c1,c2,c3,c4⟩:=hRm h1 (60 - i) (hp.length+4) (by omega) G (hp.length+6) (hp.length+5) hQy (p++[day]) (.sl (H2.length+3) 0 (p++[day]).length 1) hle (.some (H2.length+3) _ ⟨by omega,get_lt hGp⟩ hGp (by simp[ints]) fun j hj=>ybh _ hj)
    rw[hplen] at c1
    have nt:∀ {j},j<hp.length→j∉tc3:=fun hj h=>by have:=c2 _ h;omega
    have gp:∀ {j y},j<hp.length→hp[j]?=some y→G[j]?=some y:=fun hj h=>by rw[hG,List.getElem?_append_left hj];exact h
    have f0:=c3.at (gp (by omega) e0) (nt (by omega))
    have f3:=c3.at (gp (by omega) e3) (nt (by omega))
    have fp:=c3.at hGp (nt (by omega))
    have hGl:hp.length+7=G.length:=by rw[hG];simp
    have hl3:=c3.len
    have hcl:call (.fn (.func 91) [] []) [.vs 2 (l.carts.map cE)] (hp++[.cells [.vs 7 (l.road.parts.map ptE),.vs 7 (l.road.events.map evE),.int .i64 l.days,.vs 2 (l.carts.map cE)],.cells [.int .i64 x,.int .i64 (l.days - 1)]])=some (.ret (.sl (hp.length+3) 0 l.carts.length 2),hp++[.cells [.vs 7 (l.road.parts.map ptE),.vs 7 (l.road.events.map evE),.int .i64 l.days,.vs 2 (l.carts.map cE)],.cells [.int .i64 x,.int .i64 (l.days - 1)],.dead,.cells (caCs l.carts)],[]):=by
     have h:=hCc (hp++[.cells [.vs 7 (l.road.parts.map ptE),.vs 7 (l.road.events.map evE),.int .i64 l.days,.vs 2 (l.carts.map cE)],.cells [.int .i64 x,.int .i64 (l.days - 1)]]) l.carts hc0 (by omega)
     rw[List.length_append,List.append_assoc] at h
     exact h
    have hw1:IntKind.i64.wrap (l.days - 1)=l.days - 1:=zaf (by omega) (by omega)
    have hw2:IntKind.i64.wrap (x - 1)=x - 1:=zaf (by omega) (by omega)
    have hca:=ybm l.carts
    have hca2:(caCs l.carts).length=l.carts.length * 2:=by omega
    have hcap:=ybv l.carts
    have hb2:l.carts.length+1≤bound:=by unfold bound;omega
    have hfind:=fun h=>yhl (l:=l) (p:=p) (day:=day) (i:=i) hi h hno
    obtain ⟨o0,o1,o2,o3,o4,o5⟩:=bk' e0
    obtain ⟨g0,g1,g2,g3,g4,g5⟩:=bk' f3
    have n0:¬ (0=hp.length+3):=by omega
    have n1:¬ (hp.length+3=0):=by omega
    have HQ:=hideP (And.intro hx (And.intro hxn (And.intro f0 (And.intro fp (And.intro hlp (And.intro hno (And.intro htc (And.intro hfind (And.intro hGl hl3)))))))))
    rw[hG] at c1
    clear hle hQy hGp nt gp e0 e3 ep hno htc hfind hGl hl3 c2 c3 c4 f0 fp hG hRm hCc hc0 hpl hints h1 hx hca hxn hplen f3
    simp only[loadCs] at *
    generalize caCs l.carts=ccs at *
    cases hr:Ld.right (Ld.moreL l ((60 - i:Nat):Int)) (p++[day]) with
    |true=>
     rw[hr] at c1
     have HR:=hideP hr
     clear hr
     refine gC ?_
     obtain ⟨hx,hxn,f0,fp,hlp,hno,htc,hfind,hGl,hl3⟩:=HQ.out
     rw[hfind HR.out]
     refine zdk (v:=.tup [.int .i64 x,.int .i64 0]) (.inl rfl) hdf rfl (by simp) (by simp only[resL,resOf,zaa];simp[resV,pickC,g0]) ⟨by rw[hxn],?_⟩
     rw[List.eq_nil_iff_forall_not_mem]
     intro j hj
     simp at hj
     exact absurd (htc j hj) (Nat.not_lt_zero j)
    |false=>
     rw[hr] at c1
     have HR:=hideP hr
     clear hr
     refine gC ?_
     obtain ⟨hx,hxn,f0,fp,hlp,hno,htc,hfind,hGl,hl3⟩:=HQ.out
     refine ⟨H3,x - 1,tc,by omega,f0,g1,fp,by omega,fun k hk=>?_,htc,?_⟩
     ·by_cases hkd:k=i
      ·subst hkd;exact HR.out
      ·exact hno k (by omega)
     ·refine st_is ?_ rfl rfl ?_
      ·simp[zag,zal]
      ·simp
   ·rintro st ⟨hp,x,tc,hx,e0,e3,ep,hlp,hno,htc,rfl⟩
    have hxn:¬ (0≤x):=by omega
    obtain ⟨g0,g1,g2,g3,g4,g5⟩:=bk' e3
    rw[yjy (l:=l) (p:=p) (day:=day) fun k hk=>hno k hk]
    have HT:=hideP htc
    clear e0 ep hno htc hx hlp
    refine gD ?_
    refine zbl (v:=.tup [.int .i64 0,.int .i64 4]) hdf rfl (by simp only;exact e3) (by simp only[resL,resOf,zaa];simp[resV,pickC,List.getElem?_set_self (get_lt e3)]) ⟨by simp,?_⟩
    rw[List.eq_nil_iff_forall_not_mem]
    intro j hj
    simp at hj
    exact absurd (HT.out j hj) (Nat.not_lt_zero j)
structure LKnows (C:Cfg):Prop where
 calm:C.calm=true
 wh:∀ f,C.whole f=true
 within:Has C 113 af113
 must:Has C 54 af54
 isDay:Has C 90 af90
 isCart:Has C 73 af73
 isPlan:Has C 52 af52
 isPlan1:Has C 114 af114
 cof:Has C 115 af115
 ixf:Has C 148 af148
 late:Has C 200 af200
 lnum:Has C 201 af201
 sinks:Has C 202 af202
 snum:∀ n,SnumC (Ev.call C (n+1))
 rules:Has C 117 af117
 bears:Has C 204 af204
 ahead:Has C 205 af205
 ahead1:Has C 206 af206
 order:Has C 116 af116
 order1:Has C 149 af149
 broken:Has C 53 af53
 right:Has C 75 af75
 plans:Has C 61 af61
 plans1:Has C 120 af120
 plans11:Has C 121 af121
 cloneP:Has C 63 af63
 cloneC:Has C 91 af91
 sum:Has C 122 af122
 goes:Has C 87 af87
 carries:Has C 62 af62
 index:Has C 124 af124
 has:Has C 68 af68
 max:Has C 69 af69
 most:Has C 60 af60
 soon:Has C 67 af67
 gone:Has C 80 af80
 mul:Has C 125 af125
 mul64:Has C 153 af153
 repeat_:Has C 74 af74
 open_ : Has C 50 af50
 always:Has C 59 af59
 check2:Has C 51 af51
 alone2:Has C 72 af72
 never2:Has C 81 af81
 with2:Has C 85 af85
 with3:Has C 86 af86
 more2:Has C 89 af89
 eCheck:Has C 14 af14
 ePlan:Has C 16 af16
 eAll:Has C 18 af18
 eAlone:Has C 20 af20
 eNever:Has C 23 af23
 eWith:Has C 25 af25
 eMore:Has C 27 af27
 dfCheck:C.dfk 48=some (131,true)
 dfPlan:C.dfk 58=some (131,true)
 dfAll:C.dfk 66=some (131,true)
 dfAlone:C.dfk 71=some (131,true)
 dfNever:C.dfk 79=some (131,true)
 dfWith:C.dfk 84=some (131,true)
 dfMore:C.dfk 88=some (131,true)
 rbears:∀ n,BearsR (Ev.call C (n+1))
 rweak:∀ n,WeakR (Ev.call C (n+1))
theorem yhg (C:Cfg)(call:CallF)(H:List AB)(v:AV)(hv:IsSl v):Wb C call H af116 [v]
  (fun w hp tc=>w=.fn (.func 149) [] [.ptr H.length 0]∧hp=H++[.cells [v]]∧tc=[]):=by
 unfold Wb Wa af116 Zq Zm Zo Zt
 simp only[zipI]
 cases hv
 all_goals
  refine gA ?_
  exact zac (v:=.fn (.func 149) [] [.ptr H.length 0]) (.inl rfl) rfl (by simp) endvP ⟨rfl,rfl,rfl⟩
theorem yeb (C:Cfg)(call:CallF)(H:List AB)(v:AV):Wb C call H af59 [v]
  (fun w _hp tc=>w=.bool true∧tc=[]):=by
 unfold Wb Wa af59 Zq Zo Zy Zw
 simp only[zipI]
 refine gA ?_
 exact zac (v:=.bool true) (.inl rfl) rfl (by simp) endvP ⟨rfl,rfl⟩
theorem yfe (C:Cfg)(call:CallF)(H:List AB)(v:AV):Wb C call H af81 [v]
  (fun w _hp tc=>w=.bool true∧tc=[]):=by
 unfold Wb Wa af81 Zq Zo Zy Zw
 simp only[zipI]
 refine gA ?_
 exact zac (v:=.bool true) (.inl rfl) rfl (by simp) endvP ⟨rfl,rfl⟩
theorem yfz (C:Cfg)(call:CallF)(l:Ld.Lo)(hI:IsPlanC call l)(H:List AB)(qb mb b1:Nat)(hQ:Qx l qb mb H)(p:List Int)(hp5:p.length≤1000)(h1:H[b1]?=some (.cells [.vs 1 (ints p)])):Wb C call H af51 [.ptr qb 0,.ptr b1 0]
  (fun w _hp tc=>w=.bool (Ld.isPlan l p)∧tc=[]):=by
 have hc:=hI H qb mb hQ p (.vs 1 (ints p)) hp5 .vs
 obtain ⟨x0,x1,x2,x3,x4,x5⟩:=bk' h1
 generalize Ld.isPlan l p=b at *
 clear hI hQ h1
 unfold Wb Wa af51 Zq Zm Zl Zo Zc Zt Zy
 simp only[zipI]
 refine gA ?_
 exact zac (v:=.bool b) (.inl rfl) rfl (by simp) endvP ⟨rfl,by simp⟩
def LisCartC (call:CallF)(l:Ld.Lo):Prop:=∀ (H:List AB) (qb mb:Nat),Qx l qb mb H→∀ n:Int,call (.fn (.func 73) [] []) [.ptr qb 0,.int .i64 n] H=some (.ret (.bool (Ld.isCart l n)),H,[])
theorem ygk (C:Cfg)(call:CallF)(l:Ld.Lo)(hI:LisCartC call l)(H:List AB)(qb mb b1:Nat)(hQ:Qx l qb mb H)(n:Int)(h1:H[b1]?=some (.cells [.int .i64 n])):Wb C call H af72 [.ptr qb 0,.ptr b1 0]
  (fun w _hp tc=>w=.bool (Ld.isCart l n)∧tc=[]):=by
 have hc:=hI H qb mb hQ n
 obtain ⟨x0,x1,x2,x3,x4,x5⟩:=bk' h1
 generalize Ld.isCart l n=b at *
 clear hI hQ h1
 unfold Wb Wa af72 Zq Zm Zl Zo Zc Zt Zy
 simp only[zipI]
 refine gA ?_
 exact zac (v:=.bool b) (.inl rfl) rfl (by simp) endvP ⟨rfl,by simp⟩
theorem ygp (C:Cfg)(call:CallF)(l:Ld.Lo)(hI:LisCartC call l)(H:List AB)(qb mb b1:Nat)(hQ:Qx l qb mb H)(n:Int)(h1:H[b1]?=some (.cells [.int .i64 n])):Wb C call H af85 [.ptr qb 0,.ptr b1 0]
  (fun w _hp tc=>w=.bool (Ld.isCart l n)∧tc=[]):=by
 have hc:=hI H qb mb hQ n
 obtain ⟨x0,x1,x2,x3,x4,x5⟩:=bk' h1
 generalize Ld.isCart l n=b at *
 clear hI hQ h1
 unfold Wb Wa af85 Zq Zm Zl Zo Zc Zt Zy
 simp only[zipI]
 refine gA ?_
 exact zac (v:=.bool b) (.inl rfl) rfl (by simp) endvP ⟨rfl,by simp⟩
theorem ygo (C:Cfg)(call:CallF)(hG:GoesC call)(H:List AB)(b1:Nat)(p:List Int)(b c:Nat)(hc:c<p.length)(hp5:p.length≤1000)(hb:H[b]?=some (.cells (ints p)))(h1:H[b1]?=some (.cells [.int .i64 c])):Wb C call H af86 [.sl b 0 p.length 1,.ptr b1 0]
  (fun w _hp tc=>w=.bool (Ld.goesB p c)∧tc=[]):=by
 have hc2:=(hG H p b c hc hp5 hb).1
 unfold Ld.goesB
 obtain ⟨x0,x1,x2,x3,x4,x5⟩:=bk' h1
 generalize (!(p.getD c 0==-1))=bb at *
 generalize p.length=n at *
 clear hG hb h1 hc
 unfold Wb Wa af86 Zq Zm Zl Zo Zc Zt Zy
 simp only[zipI]
 refine gA ?_
 exact zac (v:=.bool bb) (.inl rfl) rfl (by simp) endvP ⟨rfl,by simp⟩
theorem yhm (C:Cfg)(call:CallF)(l:Ld.Lo)(hI:IsPlanC call l)(hD:LisDayC call l)(H:List AB)(qb mb b1 b2:Nat)(hQ:Qx l qb mb H)(p:List Int)(hp5:p.length≤1000)(day:Int)(h1:H[b1]?=some (.cells [.vs 1 (ints p)]))(h2:H[b2]?=some (.cells [.int .i64 day])):Wb C call H af89 [.ptr qb 0,.ptr b1 0,.ptr b2 0]
  (fun w _hp tc=>w=.bool (moreIs l p day)∧tc=[]):=by
 have hc:=hI H qb mb hQ p (.vs 1 (ints p)) hp5 .vs
 have hd:=hD H qb mb hQ day
 obtain ⟨x0,x1,x2,x3,x4,x5⟩:=bk' h1
 obtain ⟨y0,y1,y2,y3,y4,y5⟩:=bk' h2
 unfold moreIs
 generalize Ld.isPlan l p=b at *
 generalize Ld.isDay l day=d at *
 clear hI hQ h1 hD h2
 unfold Wb Wa af89 Zq Zm Zl Zo Zh Zc Zt Zy
 simp only[zipI]
 cases b with
 |true=>
  refine gA ?_
  exact zac (v:=.bool d) (.inl rfl) rfl (by simp) endvP ⟨by simp,by simp⟩
 |false=>
  refine gA ?_
  exact zac (v:=.bool false) (.inl rfl) rfl (by simp) endvP ⟨by simp,by simp⟩
section
variable {C:Cfg} (k:LKnows C)
include k
theorem lwithinL (n:Nat):LwithinC (Ev.call C (n+1)):=fun H a b c=>zaj k.calm k.within (le' rfl) rfl (ydg C _ H a b c)
theorem lmustL (n:Nat):LmustC (Ev.call C (n+1)) where
 t H e:=by
  obtain ⟨x,hp,tc,H',c1,⟨rfl,rfl⟩,_,_,c7⟩:=zdl (n:=n) (first:=[]) (captured:=[]) (args:=[.bool true,.int .i64 e]) k.calm k.must (le' rfl) (yfj C _ H e)
  rw[c1,c7 rfl rfl]
 f H e:=by
  obtain ⟨x,hp,tc,H',c1,⟨rfl,rfl⟩,_,_,c7⟩:=zdl (n:=n) (first:=[]) (captured:=[]) (args:=[.bool false,.int .i64 e]) k.calm k.must (le' rfl) (yfk C _ H e)
  rw[c1,c7 rfl rfl]
theorem orderL (n:Nat):OrderC (Ev.call C (n+1)):=fun H v hv=>zew k.calm k.order (le' rfl) (by simp[refs,refsL]) (yhg C _ H v hv)
theorem untilL (n:Nat)(l:Ld.Lo):UntC (Ev.call C (n+1)) l:=yel k.calm k.wh k.ahead1 l
theorem orderIL (m:Nat):OrderI C m (m+1):=yez k.calm m k.order1
theorem aheadL (n:Nat)(l:Ld.Lo)(cb:Nat):AheadC (Ev.call C (n+4)) l cb:=ygm (n0:=n+1) (m:=n+3) k.calm k.wh k.ahead l cb (orderL k _) (orderIL k _) (untilL k _ l) (untilL k _ l)
theorem bearsTL (n:Nat)(l:Ld.Lo)(cb:Nat):BearsTC (Ev.call C (n+5)) l cb:=yea k.calm k.wh k.bears (aheadL k n l cb) (k.rbears _)
theorem sinksTL (n:Nat)(l:Ld.Lo)(cb:Nat):SinksC (Ev.call C (n+6)) l cb:=yer k.calm k.wh k.sinks l cb (bearsTL k n l cb)
theorem brokenL (n:Nat){l:Ld.Lo}(hl:LdWell l)(cb:Nat):BrokenC (Ev.call C (n+9)) l cb:=ydx (n0:=n+6) (m:=n+8) k.calm k.wh k.broken hl (orderL k _) (orderIL k _) (yes k.calm k.wh k.rules) (yhw k.calm k.wh k.late l cb) (sinksTL k n l cb) (yhq k.calm k.wh k.lnum) (k.snum _)
theorem rightL (n:Nat){l:Ld.Lo}(hl:LdWell l)(cb:Nat):RightY (Ev.call C (n+10)) l cb:=ydh k.calm k.wh k.right (brokenL k n hl cb)
theorem rightXL (n:Nat){l:Ld.Lo}(hl:LdWell l):RightC (Ev.call C (n+10)) l:=RightY.x fun cb=>rightL k n hl cb
theorem lisDayL (n:Nat){l:Ld.Lo}(hd:-1000000≤l.days∧l.days≤1000000):LisDayC (Ev.call C (n+2)) l:=ydi k.calm k.wh k.isDay hd (lwithinL k n)
theorem lisPlanL (n:Nat){l:Ld.Lo}(hd:-1000000≤l.days∧l.days≤1000000)(hc:l.carts.length≤1000):IsPlanC (Ev.call C (n+6)) l:=ydn k.calm k.wh k.isPlan k.isPlan1 k.cof k.ixf hc (lisDayL k n hd)
theorem lisCartL (n:Nat){l:Ld.Lo}(hd:l.carts.length≤1000000):LisCartC (Ev.call C (n+2)) l:=fun H qb _mb hQ i=>zaj k.calm k.isCart (le' rfl) rfl (ydj C _ (lwithinL k n) l hd H qb _ hQ.q i)
theorem cloneL (n:Nat):ClonePC (Ev.call C (n+1)):=yds k.calm k.wh k.cloneP
theorem plansIL (n:Nat){l:Ld.Lo}(hv:LdVal l):PlansI C (n+10) (n+10+l.carts.length+2) l:=yev k.calm k.wh hv k.plans11 k.plans1 (cloneL k) _ (rightXL k n hv.well)
theorem plansL (n:Nat):PlansC (Ev.call C (n+1)):=yew k.calm k.wh k.plans
theorem mostLL (n:Nat){l:Ld.Lo}(hv:LdVal l):MostLC (Ev.call C (n+10+l.carts.length+3)) (Ev.call C (n+9)) l:=yff (n0:=n+9) k.calm k.wh k.most (plansIL k n hv)
theorem goneL (n:Nat){l:Ld.Lo}(hv:LdVal l):GoneC (Ev.call C (n+10+l.carts.length+3)) (Ev.call C (n+9)) l:=yib (n0:=n+9) k.calm k.wh k.gone hv (plansL k _) (plansIL k n hv) (ycc k.calm k.wh k.goes)
theorem carriesL (n:Nat){l:Ld.Lo}(hv:LdVal l):CarriesC (Ev.call C (n+2)) l:=ydc k.calm k.wh k.carries hv (ycc k.calm k.wh k.goes) (yho k.calm k.wh k.sum)
theorem repL (n:Nat):RepC (Ev.call C (n+3)):=yir k.calm k.wh k.repeat_ fun m hm=>yiy k.calm k.wh k.mul k.mul64 m hm
omit k in
theorem yje {l:Ld.Lo}(h:Ld.valid l=true)(hp:l.road.parts.length≤40):LdVal l:=by
 unfold Ld.valid at h
 simp only[Bool.and_eq_true,decide_eq_true_eq,List.all_eq_true] at h
 obtain ⟨⟨⟨⟨h1,h2⟩,h3⟩,h4⟩,h5⟩:=h
 have hc:∀ c∈l.carts,(0≤c.load∧c.load≤60)∧0≤c.due∧c.due<l.days:=fun c hcm=>by
  have:=h5 c hcm
  unfold Ld.okCart Ld.isDay at this
  simp only[Bool.and_eq_true,decide_eq_true_eq] at this
  exact this
 refine ⟨⟨h2,hp,by omega,fun c hcm=>?_⟩,fun c hcm=>(hc c hcm).1.1,h3.1,h3.2,fun c hcm=>(hc c hcm).2⟩
 have:=(hc c hcm).1
 omega
end
end Ro
namespace Ro
open K
set_option maxRecDepth 100000
set_option maxHeartbeats 4000000
theorem lvl {C:Cfg}{P:CallF→Prop}{a b:Nat}(h:P (Ev.call C a))(e:a=b):P (Ev.call C b):=e ▸ h
section
variable {C:Cfg} (k:LKnows C)
include k
theorem ansL {f n:Nat}{fn:AFunc}{args:List AV}{v:AV}(h0:Has C f fn)(hlen:([]++args++[]).length≤fn.ntmps)(hv:refs v=[])
  (h:Does (ev C (Ev.call C n) ([]:List AB).length Option.none fn.body { tm:=tmA fn.ntmps (zipI 0 args []),df:=[],hp:=[],tc:=[] }) (Fin C ([]:List AB).length fn (Ans v))):Ev.call C (n+1) (.fn (.func f) [] []) args []=Option.some (.ret v,[],[]):=by
 obtain ⟨x,hp,tc,H',c1,⟨rfl,rfl⟩,_,_,c7⟩:=zdl (n:=n) (first:=[]) (captured:=[]) (args:=args) (H:=[]) k.calm h0 hlen (by simpa using h)
 rw[c1,c7 hv rfl]
variable {l:Ld.Lo} (hbig:l.road.parts.length≤40∧l.road.events.length≤50∧l.carts.length≤1000)
include hbig
theorem lopenL (n:Nat):LOpenC (Ev.call C (n+10+l.carts.length+3)) (Ev.call C (n+10+l.carts.length+2)) l:=
 yfi (n0:=n+10+l.carts.length+2) k.calm k.open_ (lmustL k _) (lwithinL k _) (k.rweak _) hbig fun h1 h2=>lisDayL k (n+10+l.carts.length) ⟨by omega,by omega⟩
omit k in
theorem valL (hv:Ld.valid l=true):LdVal l:=yje hv hbig.1
omit k hbig in
theorem daysL (hv:Ld.valid l=true):1≤l.days∧l.days≤4∧l.carts.length≤4:=by
 unfold Ld.valid at hv
 simp only[Bool.and_eq_true,decide_eq_true_eq] at hv
 obtain ⟨⟨⟨⟨h1,h2⟩,h3⟩,h4⟩,h5⟩:=hv
 exact ⟨h3.1,h3.2,h4⟩
theorem checkE (n:Nat)(p:List Int)(hp5:p.length≤1000):Ev.call C (n+10+l.carts.length+4) (.fn (.func 14) [] []) [.agg (loadCs l),.vs 1 (ints p)] []=some (.ret (checkRV l p),[],[]):=by
 refine ansL k k.eCheck (le' rfl) (by unfold checkRV;split<;>(try split)<;>rfl) (yfx C _ (Ev.call C (n+10+l.carts.length+2)) l k.dfCheck (lopenL k hbig n) (fun hv=>?_) (lmustL k _) p (fun hv G qb mb hG hX=>?_) fun _ h=>?_)
 ·exact lvl (P:=fun c=>BrokenX c l) (BrokenC.x fun cb=>brokenL k (n+l.carts.length+4) (valL hbig hv).well cb) (by omega)
 ·have hd:=daysL hv
  exact zaj (first:=[]) (captured:=[.ptr 1 0]) k.calm k.check2 (le' rfl) rfl (yfz C _ l (lvl (P:=fun c=>IsPlanC c l) (lisPlanL k (n+l.carts.length+5) ⟨by omega,by omega⟩ hbig.2.2) (by omega)) G qb mb 1 hX p hp5 (hG.at rfl (by simp)))
 ·unfold Ld.isPlan at h
  simp only[Bool.and_eq_true,decide_eq_true_eq] at h
  omega
omit hbig in
theorem alwaysE (n:Nat)(v:AV)(G:List AB):Ev.call C (n+1) (.fn (.func 59) [] []) [v] G=some (.ret (.bool true),G,[]):=zaj k.calm k.always (le' rfl) rfl (yeb C _ G v)
theorem planE (n:Nat):∃ H' pv,Ev.call C (n+10+l.carts.length+4) (.fn (.func 16) [] []) [.agg (loadCs l)] []=some (.ret (.tup [pv,.int .i64 (if Ld.valid l=true then (Ld.planR l).2 else 0),.int .i64 (errL l true)]),H',[])∧PlE (fun _=>True) H' (if Ld.valid l=true then (Ld.planR l).1 else []) pv:=by
 obtain ⟨x,hp,tc,H',c1,⟨rfl,pv,rfl,c2⟩,_,c6,c7⟩:=zdl (n:=n+10+l.carts.length+3) (first:=[]) (captured:=[]) (args:=[.agg (loadCs l)]) (H:=[]) k.calm k.ePlan (le' rfl)
  (yhc C _ (Ev.call C (n+10+l.carts.length+2)) (Ev.call C (n+9)) l k.dfPlan (lopenL k hbig n) (plansL k _) (fun hv=>mostLL k n (valL hbig hv)) (fun hv qb mb b4 x4=>ydb (valL hbig hv) (carriesL k (n+7) (valL hbig hv)) qb mb b4 x4) (cloneL k _) (fun hv=>(daysL hv).2.2) (fun hv G qb mb _ _=>alwaysE k _ _ G))
 refine ⟨H',pv,c1,?_⟩
 cases c2 with
 |none h=>exact .none h
 |some b h0 h1 h2=>
  obtain ⟨_,g⟩:=c6 (.inl (by simp[CRes.val,refs,refsL]))
  exact .some b h0 h1 ((g b (Nat.zero_le _)).trans h2)
theorem allE (n:Nat):Ev.call C (n+10+l.carts.length+4) (.fn (.func 18) [] []) [.agg (loadCs l)] []=some (.ret (allRV l),[],[]):=
 ansL k k.eAll (le' rfl) (by unfold allRV;split<;>(try split)<;>rfl) (yjq C _ (Ev.call C (n+10+l.carts.length+2)) (Ev.call C (n+9)) l k.dfAll (lopenL k hbig n) (plansL k _) (fun hv=>mostLL k n (valL hbig hv)) (fun hv qb mb b4=>ygv (n0:=n+8) k.calm k.wh k.soon (valL hbig hv) (yhu k.calm k.wh k.has (yjc k.calm k.wh k.index)) (yhr k.calm k.wh k.max) qb mb b4) (lmustL k _) (fun hv=>⟨(daysL hv).1,(daysL hv).2.1⟩) (fun hv G qb mb _ _=>alwaysE k _ _ G))
theorem aloneE (n:Nat)(i:Int):Ev.call C (n+10+l.carts.length+4) (.fn (.func 20) [] []) [.agg (loadCs l),.int .i64 i] []=some (.ret (aloneRV l i),[],[]):=by
 refine ansL k k.eAlone (le' rfl) (by unfold aloneRV;split<;>(try split)<;>rfl) (ygh C k.calm _ (Ev.call C (n+10+l.carts.length+2)) l k.dfAlone (lopenL k hbig n) (fun hv=>?_) ?_ (lmustL k _) i daysL fun hv G qb mb hG hX=>?_)
 ·exact lvl (P:=fun c=>RightC c l) (rightXL k (n+l.carts.length+3) (valL hbig hv).well) (by omega)
 ·exact lvl (P:=fun c=>RepC c) (repL k (n+10+l.carts.length)) (by omega)
 ·exact zaj (first:=[]) (captured:=[.ptr 1 0]) k.calm k.alone2 (le' rfl) rfl (ygk C _ l (lvl (P:=fun c=>LisCartC c l) (lisCartL k (n+l.carts.length+9) (by omega)) (by omega)) G qb mb 1 hX i (hG.at rfl (by simp)))
theorem neverE (n:Nat):Ev.call C (n+10+l.carts.length+4) (.fn (.func 23) [] []) [.agg (loadCs l)] []=some (.ret (neverRV l),[],[]):=
 ansL k k.eNever (le' rfl) (by unfold neverRV;split<;>rfl) (yfd C _ (Ev.call C (n+10+l.carts.length+2)) (Ev.call C (n+9)) l k.dfNever (lopenL k hbig n) (fun hv=>goneL k n (valL hbig hv)) (fun pv G=>zaj k.calm k.never2 (le' rfl) rfl (yfe C _ G pv)) (fun hv=>(daysL hv).2.2) (fun hv G qb mb _ _=>alwaysE k _ _ G))
theorem withE (n:Nat)(i:Int):Ev.call C (n+10+l.carts.length+4) (.fn (.func 25) [] []) [.agg (loadCs l),.int .i64 i] []=some (.ret (withRV l i),[],[]):=by
 refine ansL k k.eWith (le' rfl) (by unfold withRV;split<;>(try split)<;>rfl) (ygn C _ (Ev.call C (n+10+l.carts.length+2)) (Ev.call C (n+9)) l k.dfWith (lopenL k hbig n) (fun hv=>goneL k n (valL hbig hv)) (lmustL k _) i (fun c hc hv hcl qb mb G hQ h1 p hp pv hpv=>?_) (fun hv=>(daysL hv).2.2) fun hv G qb mb hG hX=>?_)
 ·obtain ⟨e,_⟩:=ybp (valL hbig hv) hp
  have h5:=(valL hbig hv).well.carts
  cases hpv with
  |none h=>rw[h] at e;simp at e;omega
  |some b _ _ hb=>exact zaj (n:=n+8) (first:=[]) (captured:=[.ptr 1 0]) k.calm k.with3 (le' rfl) rfl (ygo C _ (ycc k.calm k.wh k.goes) G 1 p b c (by omega) (by omega) hb h1)
 ·exact zaj (first:=[]) (captured:=[.ptr 1 0]) k.calm k.with2 (le' rfl) rfl (ygp C _ l (lvl (P:=fun c=>LisCartC c l) (lisCartL k (n+l.carts.length+9) (by omega)) (by omega)) G qb mb 1 hX i (hG.at rfl (by simp)))
theorem moreE (n:Nat)(p:List Int)(hp5:p.length≤1000)(day:Int)(hc0:l.carts≠[]):Ev.call C (n+10+l.carts.length+4) (.fn (.func 27) [] []) [.agg (loadCs l),.vs 1 (ints p),.int .i64 day] []=some (.ret (moreRV l p day),[],[]):=by
 refine ansL k k.eMore (le' rfl) (by unfold moreRV;split<;>(try split)<;>(try split)<;>rfl) (yhk C k.calm _ (Ev.call C (n+10+l.carts.length+2)) l k.dfMore (lopenL k hbig n) (fun hv=>?_) (fun hv m cb hm=>?_) (ydr k.calm k.wh k.cloneP) (ydt k.calm k.wh k.cloneC) (lmustL k _) p day hc0 daysL (fun hv hi=>?_) fun hv G qb mb hG hX=>?_)
 ·exact lvl (P:=fun c=>RightC c l) (rightXL k (n+l.carts.length+3) (valL hbig hv).well) (by omega)
 ·have hw:=(valL hbig hv).well
  have hd:=daysL hv
  have hwm:LdWell (Ld.moreL l m):=by
   refine ⟨hw.ev,hw.parts,?_,fun c hc=>?_⟩
   ·show (l.carts++[_]).length≤5
    simp;omega
   ·rcases List.mem_append.1 hc with hc|hc
    ·exact hw.ld c hc
    ·obtain rfl:=List.mem_singleton.1 hc
     show -1000000≤(m:Int)∧(m:Int)≤1000000
     omega
  have h:=rightL k (n+l.carts.length+3) hwm cb
  exact lvl (P:=fun c=>RightY c (Ld.moreL l m) cb) h (by omega)
 ·unfold moreIs Ld.isPlan at hi
  simp only[Bool.and_eq_true,decide_eq_true_eq] at hi
  exact hi.1.1
 ·have hd:=daysL hv
  exact zaj (first:=[]) (captured:=[.ptr 1 0,.ptr 2 0]) k.calm k.more2 (le' rfl) rfl (yhm C _ l (lvl (P:=fun c=>IsPlanC c l) (lisPlanL k (n+l.carts.length+5) ⟨by omega,by omega⟩ hbig.2.2) (by omega)) (lvl (P:=fun c=>LisDayC c l) (lisDayL k (n+l.carts.length+9) ⟨by omega,by omega⟩) (by omega)) G qb mb 1 2 hX p hp5 day (hG.at rfl (by simp)) (hG.at rfl (by simp)))
end
end Ro
namespace Ro
open K
def caC':List AV→Option (List Ld.Cart)
 |[]=>some []
 |.int .i64 a::.int .i64 b::l=>(caC' l).map (⟨a,b⟩::·)
 |_=>none
@[simp] theorem ykd:∀ l,caC' (caCs l)=some l
  |[]=>rfl
  |c::l=>by
   have e:caCs (c::l)=.int .i64 c.load::.int .i64 c.due::caCs l:=rfl
   rw[e]
   simp[caC',ykd l]
theorem yke:∀ {cs l},caC' cs=some l→cs=caCs l:=by
 intro cs
 induction cs using caC'.induct with
 |case1=>intro l h;cases h;rfl
 |case2 a b cs ih=>
  intro l h
  obtain ⟨l',h1,rfl⟩:=Option.map_eq_some_iff.1 h
  rw[ih h1];rfl
 |case3 cs h1 h2=>intro l h;unfold caC' at h;split at h<;>first|exact absurd rfl h1|exact (h2 _ _ _ rfl).elim|cases h
def casV (H:List AB)(v:AV)(l:List Ld.Cart):Prop:=slCells 2 H v=some (caCs l)
def loadOf (H:List AB)(v:AV):Option Ld.Lo:=match v with
 | .agg [pv, ev, .int .i64 d, cv] => (match roadOf H (.agg [pv, ev]), (slCells 2 H cv).bind caC' with
  |some r,some cs=>if cs.length≤50 then some ⟨r,d,cs⟩ else none
  |_,_=>none)
 |_=>none
theorem yhp {H:List AB}{pv ev cv:AV}{l:Ld.Lo}(h1:roadOf H (.agg [pv,ev])=some l.road)(h2:casV H cv l.carts)(h3:l.carts.length≤50):loadOf H (.agg [pv,ev,.int .i64 l.days,cv])=some l:=by
 unfold casV at h2
 simp[loadOf,h1,h2,h3]
theorem ybu {H:List AB}{v:AV}{l:Ld.Lo}(h:loadOf H v=some l):∃ pv ev cv,v=.agg [pv,ev,.int .i64 l.days,cv]∧roadOf H (.agg [pv,ev])=some l.road∧casV H cv l.carts∧l.carts.length≤50:=by
 unfold loadOf at h
 split at h
 ·rename_i pv ev d cv
  split at h
  ·rename_i r cs h1 h2
   split at h
   ·rename_i hb
    cases h
    obtain ⟨c2,e2,f2⟩:=Option.bind_eq_some_iff.1 h2
    exact ⟨pv,ev,cv,rfl,h1,by unfold casV;rw[e2,yke f2],hb⟩
   ·cases h
  ·cases h
 ·cases h
theorem ykc (H:List AB)(l:List Ld.Cart):casV H (.vs 2 (l.map cE)) l:=by simp[casV,slCells,ydp]
theorem yee (H:List AB)(l:Ld.Lo)(hp:l.road.parts.length≤40)(he:l.road.events.length≤50)(hc:l.carts.length≤50):loadOf H (.agg (loadCs l))=some l:=yhp (zit H l.road hp he) (ykc H l.carts) hc
def daysOfC:List AV→Option (List Int)
 |[]=>some []
 |.int .i64 n::l=>(daysOfC l).map (n::·)
 |_=>none
@[simp] theorem yfr:∀ l,daysOfC (ints l)=some l
  |[]=>rfl
  |c::l=>by
   have e:ints (c::l)=.int .i64 c::ints l:=rfl
   rw[e]
   simp[daysOfC,yfr l]
theorem ycj:∀ {cs l},daysOfC cs=some l→cs=ints l
 |[],l,h=>by cases h;rfl
 |v::cs,l,h=>by
  unfold daysOfC at h
  split at h
  ·rename_i e;cases e
  ·rename_i n l' e
   obtain ⟨rfl,rfl⟩:=List.cons.inj e
   obtain ⟨ms,h1,rfl⟩:=Option.map_eq_some_iff.1 h
   rw[ycj h1];rfl
  ·cases h
def plnV (H:List AB)(v:AV)(p:List Int):Prop:=slCells 1 H v=some (ints p)
def plnOf (H:List AB)(v:AV):Option (List Int):=((slCells 1 H v).bind daysOfC).bind fun p=>if p.length≤50 then some p else none
theorem yit {H:List AB}{v:AV}{p:List Int}(h:plnV H v p)(hl:p.length≤50):plnOf H v=some p:=by
 unfold plnV at h
 simp[plnOf,h,hl]
theorem ycx {H:List AB}{v:AV}{p:List Int}(h:plnOf H v=some p):plnV H v p∧p.length≤50:=by
 unfold plnOf at h
 obtain ⟨q,h1,h2⟩:=Option.bind_eq_some_iff.1 h
 split at h2
 ·rename_i hb
  cases h2
  obtain ⟨c2,e2,f2⟩:=Option.bind_eq_some_iff.1 h1
  exact ⟨by unfold plnV;rw[e2,ycj f2],hb⟩
 ·cases h2
theorem ylc (H:List AB):plnV H .nils []:=rfl
theorem yjv {H:List AB}{b n:Nat}{p:List Int}(h:H[b]?=some (.cells (ints p)))(hn:n=p.length):plnV H (.sl b 0 n 1) p:=by
 subst hn
 have hl:(ints p).length=p.length:=by simp[ints]
 simp only[plnV,slCells,h,if_true,Nat.zero_add,hl,Nat.le_refl,List.drop_zero,Nat.mul_one]
 rw[List.take_of_length_le (by omega)]
end Ro
namespace Ro
open K
attribute [local simp] ev1 wantG spineK spine float xnew xval xeff zab zae zau zah zai addFl cellsOf pickC alive slLen slFt binI maxA maxK minA minK aeqK aeqS AV.cells spA zad fillA setAt bitsI nat_nn zav AV.plain apart
set_option maxRecDepth 100000
set_option maxHeartbeats 4000000
def wkT (r:Rd.Road):Nat→Nat × Int
 |0=>(0,0)
 |i+1=>(Rd.weakN r i,(Rd.heightsR r (Rd.weakN r i) r.events.length).lo)
theorem zwo (r:Rd.Road):wkT r 1=(0,(Rd.heightsR r 0 r.events.length).lo):=rfl
theorem wkT_lt (r:Rd.Road){i:Nat}(h0:i≠0)(h:(Rd.heightsR r i r.events.length).lo<(wkT r i).2):wkT r (i+1)=(i,(Rd.heightsR r i r.events.length).lo):=by
 cases i with
 |zero=>exact absurd rfl h0
 |succ k=>
  have h:(Rd.heightsR r (k+1) r.events.length).lo<(Rd.heightsR r (Rd.weakN r k) r.events.length).lo:=h
  show (Rd.weakN r (k+1),_)=_
  have:Rd.weakN r (k+1)=k+1:=by rw[Rd.weakN,if_pos h]
  rw[this]
theorem wkT_ge (r:Rd.Road){i:Nat}(h0:i≠0)(h:¬ (Rd.heightsR r i r.events.length).lo<(wkT r i).2):wkT r (i+1)=wkT r i:=by
 cases i with
 |zero=>exact absurd rfl h0
 |succ k=>
  have h:¬ (Rd.heightsR r (k+1) r.events.length).lo<(Rd.heightsR r (Rd.weakN r k) r.events.length).lo:=h
  show (Rd.weakN r (k+1),_)=(Rd.weakN r k,_)
  have:Rd.weakN r (k+1)=Rd.weakN r k:=by rw[Rd.weakN,if_neg h]
  rw[this]
theorem zrt (C:Cfg)(hC:C.calm=true)(call call0:CallF)(r:Rd.Road)(hdf:C.dfk 145=some (161,true))(hHd:∀ H F is,IsFn call0 r F is H→HeadQ call r H F is)(hHs:Rd.valid r=true→HeightsC call r)
  (hF:IsFn call0 r (.fn (.func 146) [] []) true [.cells (roadCs r),.cells [.int .i64 0]]):
  Wa C call [] af112 [.agg (roadCs r)]
   (Fin C ([]:List AB).length af112 (Ans (numRV r true (Rd.weakR r)))):=by
 have ho:=hHd [.cells (roadCs r),.cells [.int .i64 0]] _ _ hF
 unfold numRV
 unfold Wa af112 Zq Zu Zm Zl Zo Zs Zk Zc Za Zb Zf Zg Zt Zn Zi Zw
 rcases ho with ⟨e,h1,h2,h3⟩|⟨h1,H1,xb,H2,tc,h3,h4,h5,h6⟩|⟨h1,H1,xb,mb,eb,H2,tc,h3,h4,h5,h6,h7,h8,h9,h10⟩
 ·rw[h1,if_neg h2]
  clear hHd hHs hF h1
  simp only[zipI,roadCs] at *
  refine gD ?_
  refine zbl (v:=.tup [.int .i64 0,.int .i64 e]) hdf rfl (by simp only;rfl) (by simp only[resL,resOf,zaa];simp[resV,pickC]) ⟨by simp,by simp⟩
 ·rw[h1,if_neg (by decide)]
  have e4:H2[1]?=some (.cells [.int .i64 0]):=h5.at rfl (by simp)
  clear hHd hHs hF h1 h5 h6
  simp only[zipI,roadCs] at *
  refine gD ?_
  refine zbl (v:=.tup [.int .i64 0,.int .i64 10]) hdf rfl (by simp only;exact e4) (by simp only[resL,resOf,zaa];simp[resV,pickC,List.getElem?_set_self (get_lt e4)]) ⟨by simp,by simp⟩
 ·obtain ⟨_,hf,hcan⟩:=Rd.errR_zero h1
  rw[h1,if_pos rfl]
  have hv:Rd.valid r=true:=(Rd.valid_iff r).2 hf
  have hml:=h7.ml
  have hnp:=hf.parts
  have e0:H2[0]?=some (.cells (roadCs r)):=h5.at rfl (by simp)
  have e1:H2[1]?=some (.cells [.int .i64 0]):=h5.at rfl (by simp)
  obtain ⟨f0,f1,f2,f3,f4,f5⟩:=bk' e0
  have hHs':=hHs hv
  have hwk:(Rd.weakR r:Int)=(wkT r r.parts.length).1:=by
   obtain ⟨k,hk⟩:∃ k,r.parts.length=k+1:=⟨r.parts.length - 1,by omega⟩
   unfold Rd.weakR
   rw[hk];rfl
  rw[hwk]
  have HX:=hideP (And.intro hHs' (And.intro h7 (And.intro e0 (And.intro e1 h9))))
  clear hHd hHs hF h1 h5 h6 h7 h8 h9 h10 hv hf hcan hHs' e0 e1 hwk
  simp only[zipI,roadCs] at *
  refine gD ?_
  with_reducible refine zan hC r.parts.length (by unfold fuelL;omega) (fun i st=>∃ hp,Rx r xb mb eb hp∧hp[0]?=some (.cells (roadCs r))∧hp[1]?=some (.cells [.int .i64 0])∧st={ tm:=tmA 37 [(16,.int .i64 i),(15,.int .i64 r.parts.length),(6,.int .i64 (wkT r i).2),(5,.int .i64 (wkT r i).1),(4,.ptr xb 0),(3,.ptr 1 0),(1,.ptr 0 0)],df:=[.call 145 [.ptr 1 0]],hp:=hp,tc:=[] }) ?_ ?_ ?_
  ·refine ⟨H2,HX.out.2.1,HX.out.2.2.1,HX.out.2.2.2.1,?_⟩
   refine st_is ?_ rfl rfl ?_
   ·simp[zag,zal,wkT]
   ·simp
  ·clear f0 f1 f2 f3 f4 f5
   rintro i st hi ⟨hp,k1,k2,k3,rfl⟩
   obtain ⟨hHs,h7,e0,e1,h9⟩:=HX.out
   simp at h9
   obtain ⟨H3,tc3,c1,c2,c3,c4⟩:=hHs hp xb mb eb k1 i hi r.events.length (Nat.le_refl _)
   obtain ⟨f0,f1,f2,f3,f4,f5⟩:=bk' k2
   have nt:∀ j,j<2→j∉tc3:=fun j hj h=>by have:=c2 _ h;omega
   have HA:=hideP (And.intro c4 (And.intro (c3.at k2 (nt 0 (by decide))) (c3.at k3 (nt 1 (by decide)))))
   have hwi:IntKind.i64.wrap (↑i+1)=↑i+1:=zaf (by omega) (by omega)
   have hcase:(i=0∧wkT r (i+1)=(0,(Rd.heightsR r i r.events.length).lo))∨(i≠0∧(Rd.heightsR r i r.events.length).lo<(wkT r i).2∧wkT r (i+1)=(i,(Rd.heightsR r i r.events.length).lo))∨(i≠0∧¬ (Rd.heightsR r i r.events.length).lo<(wkT r i).2∧wkT r (i+1)=wkT r i):=by
    by_cases h0:i=0
    ·subst h0;exact .inl ⟨rfl,zwo r⟩
    ·by_cases hlt:(Rd.heightsR r i r.events.length).lo<(wkT r i).2
     ·exact .inr (.inl ⟨h0,hlt,wkT_lt r h0 hlt⟩)
     ·exact .inr (.inr ⟨h0,hlt,wkT_ge r h0 hlt⟩)
   clear c2 c3 c4 hHs h7 e0 e1 nt k1 k3 k2
   simp only[roadCs] at f1 f2 f4 f5
   generalize Rd.heightsR r i r.events.length=sp at *
   rcases hcase with ⟨rfl,h2⟩|⟨h0,hlt,h2⟩|⟨h0,hlt,h2⟩
   ·have HW:=hideP h2
    clear h2
    have hw1:IntKind.i64.wrap 1=1:=by decide
    simp only[Int.natCast_zero] at *
    refine gA ?_
    refine ⟨_,HA.out.1,HA.out.2.1,HA.out.2.2,?_⟩
    rw[HW.out]
    refine st_is ?_ rfl rfl ?_
    ·simp[zag,zal]
    ·simp
   ·have h0':((i:Int)==0)=false:=by simp;omega
    have HW:=hideP h2
    clear h2
    generalize wkT r i=wt at *
    refine gA ?_
    refine ⟨_,HA.out.1,HA.out.2.1,HA.out.2.2,?_⟩
    rw[HW.out]
    refine st_is ?_ rfl rfl ?_
    ·simp[zag,zal]
    ·simp
   ·have h0':((i:Int)==0)=false:=by simp;omega
    have HW:=hideP h2
    clear h2
    generalize hwt:wkT r i=wt at *
    refine gA ?_
    refine ⟨_,HA.out.1,HA.out.2.1,HA.out.2.2,?_⟩
    rw[HW.out]
    refine st_is ?_ rfl rfl ?_
    ·simp[zag,zal]
    ·simp
  ·rintro st ⟨hp,k1,k2,k3,rfl⟩
   obtain ⟨g0,g1,g2,g3,g4,g5⟩:=bk' k3
   clear f0 f1 f2 f3 f4 f5 k1 k2 k3
   generalize wkT r r.parts.length=wt at *
   refine gA ?_
   refine zdk (v:=.tup [.int .i64 wt.1,.int .i64 0]) (.inl rfl) hdf rfl (by simp) (by simp only[resL,resOf,zaa];simp[resV,pickC,g0]) ⟨by simp,by simp⟩
end Ro
namespace Ro
open K
open Clm (setOf setOf_lt setOf_or setOf_andn setOf_congr)
set_option maxRecDepth 100000
set_option maxHeartbeats 4000000
end Ro
namespace Ro
open K
set_option maxRecDepth 100000
set_option maxHeartbeats 4000000
structure Knows (C:Cfg):Prop where
 calm:C.calm=true
 wh:∀ f,C.whole f=true
 within:Has C 133 af133
 isLoad:Has C 101 af101
 always:Has C 146 af146
 isPart:Has C 134 af134
 every:Has C 136 af136
 isSpan:Has C 131 af131
 must:Has C 132 af132
 sunk:Has C 165 af165
 rested:Has C 163 af163
 look:Has C 198 af198
 pass:Has C 197 af197
 rest:∀ n (H:List AB) (d:Int) (p:Rd.Tr),TrOk p→∀ h l:Int,-1000000≤h→h≤1000000→0≤d→d≤1000→Ev.call C (n+1) (.fn (.func 199) [] []) [.agg [.int .i64 d],.agg [.int .i64 p.stiff,.int .i64 p.rise,.int .i64 p.full],.int .i64 h,.int .i64 l] H=some (.ret (.int .i64 (Rd.rested p h d)),H,[])
 height:Has C 164 af164
 first:Has C 162 af162
 parts:Has C 161 af161
 parts1:Has C 174 af174
 ways:Has C 139 af139
 all:Has C 159 af159
 all1:Has C 172 af172
 all11:Has C 173 af173
 told:Has C 137 af137
 told1:Has C 158 af158
 can:Has C 135 af135
 known:Has C 102 af102
 joined:Has C 175 af175
 span:Has C 166 af166
 heights:Has C 147 af147
 heights1:Has C 167 af167
 left:Has C 141 af141
 index:Has C 160 af160
 cont:Has C 138 af138
 sure:Has C 103 af103
 sure1:Has C 140 af140
 may:Has C 104 af104
 may1:Has C 142 af142
 open_ : Has C 99 af99
 bears2:Has C 100 af100
 eBears:Has C 36 af36
 eWeak:Has C 112 af112
 dfBears:C.dfk 97=some (161,true)
 dfWeak:C.dfk 145=some (161,true)
section
variable {C:Cfg} (k:Knows C)
include k
theorem withinL (n:Nat):WithinC (Ev.call C (n+1)):=fun H a b c=>zaj k.calm k.within (le' rfl) rfl (zon C _ H a b c)
theorem isLoadL (n:Nat):IsLoadC (Ev.call C (n+2)):=fun H a=>zaj k.calm k.isLoad (le' rfl) rfl (zqh C _ (withinL k n) H a)
theorem isSpanL (n:Nat):IsSpanC (Ev.call C (n+1)):=fun H s a b w h1 h2=>zaj k.calm k.isSpan (le' rfl) rfl (zqf C _ H s a b w h1 h2)
theorem alwaysL (n:Nat)(H:List AB)(v:AV):Ev.call C (n+1) (.fn (.func 146) [] []) [v] H=some (.ret (.bool true),H,[]):=zaj k.calm k.always (le' rfl) rfl (zro C _ H v)
theorem mustL (n:Nat):MustC (Ev.call C (n+1)) where
 t H e:=by
  obtain ⟨x,hp,tc,H',c1,⟨rfl,rfl⟩,_,_,c7⟩:=zdl (n:=n) (first:=[]) (captured:=[]) (args:=[.bool true,.int .i64 e]) k.calm k.must (le' rfl) (zua C _ H e)
  rw[c1,c7 rfl rfl]
 f H e:=by
  obtain ⟨x,hp,tc,H',c1,⟨rfl,rfl⟩,_,_,c7⟩:=zdl (n:=n) (first:=[]) (captured:=[]) (args:=[.bool false,.int .i64 e]) k.calm k.must (le' rfl) (zub C _ H e)
  rw[c1,c7 rfl rfl]
theorem sunkL (n:Nat):SunkC (Ev.call C (n+1)):=fun H p hp l h0 h1=>zaj k.calm k.sunk (le' rfl) rfl (zww C _ H p hp l h0 h1)
theorem restedL (n:Nat):RestedC (Ev.call C (n+1)):=fun H p hp h d h0 h1 d0 d1=>zaj (first:=[.agg [.int .i64 p.stiff,.int .i64 p.rise,.int .i64 p.full]]) k.calm k.rested (le' rfl) rfl (zpi C _ H p hp h d h0 h1 d0 d1)
theorem aftL (n:Nat):AftC (Ev.call C (n+2)) where
 look H p h l:=zaj k.calm k.look (le' rfl) rfl (zuq C _ H p h l)
 pass H p hp h l h0 h1 l0 l1:=zaj k.calm k.pass (le' rfl) rfl (ztr C _ (sunkL k n) H p hp h l h0 h1 l0 l1)
 rest H d p hp h l h0 h1 d0 d1:=k.rest (n+1) H d p hp h l h0 h1 d0 d1
theorem partsNL (n:Nat):PartsC (Ev.call C (n+1)):=fun H xb a=>zew k.calm k.parts (le' rfl) (by simp[refs,refsL]) (zpu C _ H xb a)
theorem allNL (n:Nat):AllC (Ev.call C (n+1)):=fun H xb=>zew k.calm k.all (le' rfl) (by simp[refs,refsL]) (zzc C _ H xb)
theorem toldNL (n:Nat):ToldC (Ev.call C (n+1)):=fun H xb a=>zew k.calm k.told (le' rfl) (by simp[refs,refsL]) (zsa C _ H xb a)
theorem joinL (n:Nat):JoinC (Ev.call C (n+1)):=fun H v ds hv hl=>zaj k.calm k.joined (le' rfl) rfl (zqd C k.calm _ H v ds hv hl)
theorem isPartL {r:Rd.Road}(hr:r.parts.length≤1000)(n:Nat):IsPartC (Ev.call C (n+2)) r:=fun H xb w z hy a=>zaj k.calm k.isPart (le' rfl) rfl (zqg C _ (withinL k n) r hr H xb w z hy a)
theorem indexL (n:Nat):IndexC (Ev.call C (n+1)) (Ev.call C n):=by
 intro H v ws hv hl fl fa fb p hF
 obtain ⟨w,hp,tc,H',c1,⟨q,rfl,c2,rfl⟩,_,_,_,c7⟩:=zcw (first:=[]) (captured:=[]) (args:=[v,.fn fl fa fb]) k.calm k.wh k.index (le' rfl) (zqi C k.calm _ H v ws hv hl fl fa fb p hF)
 exact ⟨q,by rw[c1,c7 rfl rfl],c2⟩
theorem contL (n:Nat):ContC (Ev.call C (n+2)) (Ev.call C n):=fun H v ws hv hl fl fa fb p hF=>zaj k.calm k.cont (le' rfl) rfl (zvr C _ _ (indexL k n) H v ws hv hl fl fa fb p hF)
variable {r:Rd.Road} (hr:Rd.Fine r)
include hr
theorem everyL (n:Nat):EveryC (Ev.call C (n+1)) r:=fun H xb w z hy=>zaj k.calm k.every (le' rfl) rfl (zvl C _ r (by have:=hr.events;omega) H xb w z hy)
theorem heightL (n:Nat):HeightC (Ev.call C (n+3)) r:=fun H xb mb eb hX p hp h b1 b2 f hf many hm=>zaj k.calm k.height (le' rfl) rfl (zql C k.calm _ (aftL k n) r hr H xb mb eb hX p hp h b1 b2 f hf many hm)
theorem firstL (n:Nat):FirstC (Ev.call C (n+4)) r:=by
 intro H xb mb eb hX q hq
 obtain ⟨es,hm,hes⟩:=hX.m
 rcases zkg hr.events q hes with h|h
 ·obtain ⟨es',h1,h2⟩:=znk hr.events q hes
  obtain ⟨v,hp,tc,H',c1,⟨rfl,rfl,c3⟩,c5,_,_⟩:=zbm (n:=n+3) (first:=[]) (captured:=[]) (args:=[.ptr xb 0,qA q]) k.calm k.first.ext k.first.exth k.first.fns k.first.whole (le' rfl)
   (zqq C k.calm _ r hr (heightL k hr n) H xb mb eb hX q hq es es' hm h h1)
  refine ⟨H',_,c1,by simp,c5.kp,hX.ne,hX.ne2,c5.kp.at hX.x (by simp[hX.ne]),fun hn=>c5.kp.at (hX.e hn) (by simp[hX.ne2]),Nat.lt_of_lt_of_le hX.el c5.len,es',?_,h2⟩
  rw[c5.got mb (get_lt hm) (by simp)];exact c3
 ·obtain ⟨v,hp,tc,H',c1,⟨rfl,rfl⟩,c5,_,c7⟩:=zbm (n:=n+3) (first:=[]) (captured:=[]) (args:=[.ptr xb 0,qA q]) k.calm k.first.ext k.first.exth k.first.fns k.first.whole (le' rfl)
   (zve C _ r H xb mb eb hX q es hm h)
  exact ⟨H',_,c1,by simp,c5.kp,hX.kp c5.kp (by simp) (by simp) (by simp)⟩
theorem waysL (n:Nat):WaysC (Ev.call C (n+7)) r:=by
 intro H xb mb eb hX i hi f hf looks
 obtain ⟨v,hp,tc,H',c1,⟨c2,c3,c4⟩,c5,c6,c7,c8⟩:=zcw (n:=n+6) (first:=[]) (captured:=[]) (args:=[.ptr xb 0,.int .i64 i,.agg (arr10 f),.int .u64 looks]) k.calm k.wh k.ways (le' rfl)
  (zru C k.calm k.wh (n+4) r hr (partsNL k (n+5)) (ztt k.calm hr k.parts1) (firstL k hr n) H xb mb eb hX i hi f hf looks)
 refine ⟨v,H',tc,c1,c2,c6,?_⟩
 by_cases hv:refs v=[]∧tc=[]
 ·have hH:=c8 hv.1 hv.2
  rw[hH]
  refine ⟨hX,?_⟩
  obtain ⟨W,hW⟩:=c4
  generalize hws:Rd.waysR r i (lsOf r.events.length f) looks=ws at hW
  cases hW with
  |none=>exact ⟨[],by rw[hws];exact .none⟩
  |some b ws z1 z2 z3=>simp[refs] at hv
 ·have hH : H' = hp := c7 (by
   by_cases h:tc=[]
   ·exact .inl fun h2=>hv ⟨h2,h⟩
   ·exact .inr h)
  rw[hH];exact ⟨c3,c4⟩
theorem toldIL (n:Nat):ToldI C (n+7) (n+r.events.length+11) r:=by
 have h1:=zyz k.calm k.wh hr k.all11 k.all1 (n+8)
 rw[show n+8+r.events.length+2=n+r.events.length+10 by omega] at h1
 exact zry (m:=n+r.events.length+10) k.calm k.wh hr k.told1 (allNL k _) h1 (waysL k hr n)
theorem canL (n:Nat):CanC (Ev.call C (n+r.events.length+12)) r:=fun H xb mb eb hX looks=>
 zdr k.calm k.wh k.can (le' rfl) rfl hX (zyt C k.calm k.wh (n+6) (n+r.events.length+11) r (toldNL k _) (toldIL k hr n) H xb mb eb hX looks)
theorem knownL (n:Nat):KnownC (Ev.call C (n+r.events.length+13)) r:=by
 intro H xb mb eb hX
 obtain ⟨x,hp,tc,H',c1,⟨c2,c3,c4,rfl⟩,c5,c6,c7⟩:=zdl (n:=n+r.events.length+12) (first:=[]) (captured:=[]) (args:=[.ptr xb 0]) k.calm k.known (le' rfl)
  (zqc C _ (mustL k _) r (everyL k hr _) (canL k hr n) H xb mb eb hX)
 have hs:=c5.same c3
 have hX':Rx r xb mb eb H':=by
  refine c4.same fun j hj=>hs j ?_
  have:=hX.xl;have:=hX.ml;have:=hX.el
  rcases hj with rfl|rfl|rfl<;>assumption
 exact ⟨H',tc,c2,⟨c5.len,fun b hb ht=>(hs b hb).trans (c3.get b hb ht)⟩,hX',c1⟩
theorem spanL (n:Nat):SpanC (Ev.call C (n+r.events.length+13)) (Ev.call C (n+7)) r:=by
 intro H xb mb eb hX i hi fl fa fb g hF
 have h1:=toldIL k hr (n+1)
 rw[show n+1+r.events.length+11=n+r.events.length+12 by omega] at h1
 exact zdr k.calm k.wh k.span (le' rfl) rfl hX (zsp C k.calm k.wh (n+7) (n+r.events.length+12) r hr (toldNL k _) h1 (everyL k hr _) (everyL k hr _) (waysL k hr n) (joinL k _) H xb mb eb hX i hi fl fa fb g hF)
theorem leftL (n:Nat):LeftC (Ev.call C (n+4)) r:=fun H xb mb eb hX w hp h b1 b2 f hf days load hL=>zaj k.calm k.left (le' rfl) rfl (zyd C _ r hr (heightL k hr n) (restedL k (n+2)) (sunkL k (n+2)) H xb mb eb hX w hp h b1 b2 f hf days load hL)
theorem sure1L (n:Nat):Sure1C (Ev.call C (n+5)) r:=fun H xb mb eb hX w hp hw f hf days load hL b1 b2 b3 b4 h1 h2 h3 h4=>zaj (first:=[]) (captured:=[.ptr b1 0,.ptr b2 0,.ptr b3 0,.ptr b4 0]) k.calm k.sure1 (le' rfl) rfl (zsj C _ r (leftL k hr n) H xb mb eb hX w hp hw f hf days load hL b1 b2 b3 b4 h1 h2 h3 h4)
theorem may1L (n:Nat):May1C (Ev.call C (n+5)) r:=fun H xb mb eb hX w hp hw f hf load hL b1 b2 b4 h1 h2 h4=>zaj (first:=[]) (captured:=[.ptr b1 0,.ptr b2 0,.ptr b4 0]) k.calm k.may1 (le' rfl) rfl (zxx C _ r (leftL k hr n) H xb mb eb hX w hp hw f hf load hL b1 b2 b4 h1 h2 h4)
theorem sureL (n:Nat):SureC (Ev.call C (n+r.events.length+13)) r:=by
 intro H xb mb eb hX days load hL
 have h1:=toldIL k hr (n+1)
 rw[show n+1+r.events.length+11=n+r.events.length+12 by omega] at h1
 exact zdr k.calm k.wh k.sure (le' rfl) rfl hX (zsh C k.calm k.wh (n+7) (n+5) (n+r.events.length+12) r hr (toldNL k _) h1 (everyL k hr _) (everyL k hr _) (waysL k hr n) (contL k (n+5)) (sure1L k hr n) H xb mb eb hX days load hL)
theorem mayL (n:Nat):MayC (Ev.call C (n+r.events.length+13)) r:=by
 intro H xb mb eb hX load hL
 have h1:=toldIL k hr (n+1)
 rw[show n+1+r.events.length+11=n+r.events.length+12 by omega] at h1
 exact zdr k.calm k.wh k.may (le' rfl) rfl hX (zxw C k.calm k.wh (n+7) (n+5) (n+r.events.length+12) r hr (toldNL k _) h1 (everyL k hr _) (everyL k hr _) (waysL k hr n) (contL k (n+5)) (may1L k hr n) H xb mb eb hX load hL)
theorem heights1L (n:Nat):Heights1C (Ev.call C (n+4)) r:=fun H xb mb eb hX w hp hw f hf many hm b1 b2 h1 h2=>zaj (first:=[]) (captured:=[.ptr b1 0,.ptr b2 0]) k.calm k.heights1 (le' rfl) rfl (zks C _ r (heightL k hr n) H xb mb eb hX w hp hw f hf many hm b1 b2 h1 h2)
theorem heightsL (n:Nat):HeightsC (Ev.call C (n+r.events.length+14)) r:=fun H xb mb eb hX i hi many hm=>
 zdr k.calm k.wh k.heights (le' rfl) rfl hX (zkq C _ (Ev.call C (n+7)) r hr (spanL k hr n) (heights1L k hr (n+3)) H xb mb eb hX i hi many hm)
end
section
variable {C:Cfg} (k:Knows C)
include k
theorem openL {r:Rd.Road}(hbig:r.parts.length≤1000∧r.events.length≤1000)(n:Nat):OpenC (Ev.call C (n+4)) (Ev.call C (n+3)) r:=by
 intro H F is hF
 obtain ⟨x,hp,tc,H',c1,⟨rfl,c2⟩,c5,c6,c7⟩:=zdl (n:=n+3) (first:=[]) (captured:=[]) (args:=[.agg (roadCs r),F]) (H:=H) k.calm k.open_ (le' rfl)
  (ztu C k.calm _ (mustL k (n+2)) (isSpanL k (n+2)) (withinL k (n+2)) r (fun _=>isPartL k hbig.1 (n+1)) ⟨by omega,by omega⟩ H F is hF)
 rcases c2 with ⟨h1,rfl⟩|⟨h1,h2,rfl⟩|⟨h1,h2,xb,mb,eb,rfl,h3,h4,h5,h6,h7⟩
 ·exact .inl ⟨h1,by rw[c7 rfl rfl] at c1;exact c1⟩
 ·exact .inr (.inl ⟨h1,h2,by rw[c7 rfl rfl] at c1;exact c1⟩)
 ·have he:=lft_eq (v:=.ptr xb 0) c5 h3 c6 (.inl (by simp[refs]))
  subst he
  exact .inr (.inr ⟨h1,h2,H',xb,mb,eb,c1,h3,h4,h5,h6,h7⟩)
theorem zcv {f n:Nat}{fn:AFunc}{args:List AV}{v:AV}(h0:Has C f fn)(hlen:([]++args++[]).length≤fn.ntmps)(hv:refs v=[])
  (h:Does (ev C (Ev.call C n) ([]:List AB).length Option.none fn.body { tm:=tmA fn.ntmps (zipI 0 args []),df:=[],hp:=[],tc:=[] }) (Fin C ([]:List AB).length fn (Ans v))):Ev.call C (n+1) (.fn (.func f) [] []) args []=Option.some (.ret v,[],[]):=by
 obtain ⟨x,hp,tc,H',c1,⟨rfl,rfl⟩,_,_,c7⟩:=zdl (n:=n) (first:=[]) (captured:=[]) (args:=args) (H:=[]) k.calm h0 hlen (by simpa using h)
 rw[c1,c7 hv rfl]
variable {r:Rd.Road} (hbig:r.parts.length≤1000∧r.events.length≤1000)
include hbig
theorem headL (n:Nat)(H:List AB)(F:AV)(is:Bool)(hF:IsFn (Ev.call C (n+r.events.length+16)) r F is H):HeadQ (Ev.call C (n+r.events.length+17)) r H F is:=by
 have h1:=openL k hbig (n+r.events.length+13)
 exact yaf h1 (fun hv => by
  have h2:=knownL k ((Rd.valid_iff r).1 hv) (n+4)
  rw[show n+4+r.events.length+13=n+r.events.length+17 by omega] at h2
  exact h2) H F is hF
theorem bearsE (n:Nat)(load:Int):Ev.call C (n+r.events.length+18) (.fn (.func 36) [] []) [.agg (roadCs r),.int .i64 load] []=some (.ret (numRV r (Rd.isLoad load) (Rd.bearsR r load)),[],[]):=
 zcv k k.eBears (le' rfl) rfl (zri C _ (Ev.call C (n + r.events.length + 16)) r k.dfBears (fun H F is h => headL k hbig n H F is h) (fun hv => by
  have h2:=sureL k ((Rd.valid_iff r).1 hv) (n+4)
  rw[show n+4+r.events.length+13=n+r.events.length+17 by omega] at h2
  exact h2) (fun hv=>by
  have h2:=mayL k ((Rd.valid_iff r).1 hv) (n+4)
  rw[show n+4+r.events.length+13=n+r.events.length+17 by omega] at h2
  exact h2) load (fun hv G xb mb eb hG hX=>
   zaj (first:=[]) (captured:=[.ptr 1 0]) k.calm k.bears2 (le' rfl) rfl (zrj C _ (isLoadL k (n+r.events.length+13)) G _ load 1 (hG.at rfl (by simp)))))
theorem weakE (n:Nat):Ev.call C (n+r.events.length+18) (.fn (.func 112) [] []) [.agg (roadCs r)] []=some (.ret (numRV r true (Rd.weakR r)),[],[]):=
 zcv k k.eWeak (le' rfl) rfl (zrt C k.calm _ (Ev.call C (n + r.events.length + 16)) r k.dfWeak (fun H F is h => headL k hbig n H F is h) (fun hv => by
  have h2:=heightsL k ((Rd.valid_iff r).1 hv) (n+3)
  rw[show n+3+r.events.length+14=n+r.events.length+17 by omega] at h2
  exact h2) (fun hv G xb mb eb hG hX=>alwaysL k _ G _))
end
end Ro
def af8:AFunc:=⟨184,[.tmp 4],Zq [Zo 0 2 (.box (Zt 0)),Zo 1 4 (.mov Zy)] (.seq (Zq [Zo 0 22 (Zg 4 2),Zo 1 23 (Zc 12 [Zt 22,.val .nils,Zn 130]),Zm 2 24 23,Zk 3 25 24 0 (Zg 4 2),Zk 4 26 24 0 (Zc 30 [Zt 25]),Zk 5 27 24 0 (.not (Zt 26)),Zo 6 28 (.pick (Zt 24) Zw (Zt 27))] (Zu 28 (Zq [Zo 0 29 (Zc 13 []),Zm 1 4 29] .ret) .skip)) (Zq [Zo 0 30 (Zf 3 2),Zl 1 31 30,Zo 2 32 (.len (Zt 31)),Zo 3 5 (.alloc [Zi 0]),Zs 4 (.store 1 (Zt 5) (Zt 32))] (Zq [Zo 0 6 (.alloc [Zi 0]),Zo 1 7 (.alloc [Zi 0]),Zo 2 8 (.alloc [Zi 0]),Zo 3 9 (.alloc [Zi 0]),Zs 4 (.store 1 (Zt 6) (Zn (-1))),Zs 5 (.store 1 (Zt 7) (Zn 0)),Zs 6 (.store 1 (Zt 8) (Zn 0)),Zs 7 (.store 1 (Zt 9) (Zn 0))] (.seq (Zq [Zl 0 33 5,Zo 1 34 (Zb .gtr 33 0)] (Zu 34 (.ops [Zm 0 35 1,Zo 1 36 (.conv .i64 (Zt 35)),Zl 2 37 5,Zo 3 38 (Za .rem 36 37),Zs 4 (.store 1 (Zt 9) (Zt 38))]) .skip)) (Zq [Zo 0 39 (Zg 4 2),Zo 1 40 (.mkfn (Fn.func 42) [] [Zt 2,Zt 7,Zt 5,Zt 9,Zt 8,Zt 6]),Zo 2 41 (Zc 41 [Zt 39,Zt 40])] (Zq [Zo 0 43 (Zg 4 2),Zo 1 44 (Zc 18 [Zt 43]),Zm 2 42 44,Zo 3 45 (Zx 42 0),Zo 4 46 (Zx 42 1),Zm 5 10 45,Zm 6 11 46] (Zq [Zo 0 48 (Zg 4 2),Zo 1 49 (Zc 23 [Zt 48]),Zm 2 47 49,Zo 3 50 (Zx 47 0),Zo 4 51 (Zx 47 1),Zm 5 12 50,Zm 6 13 51] (.seq (Zr [Zm 0 52 11,Zd 1 53 1 (Zb .eql 52 0),Zl 2 54 6,Zd 3 55 4 (Zb .geq 54 0),Zd 4 56 15 (.eq .bool true (Zt 53) (Zt 55)),Zd 5 57 31 (.mov (Zt 56)),Zk 6 58 57 63 (.mov (Zt 11)),Zk 7 59 57 127 (Zb .eql 58 0),Zk 8 60 57 255 (.mov (Zt 59)),Zh 9 61 60 511 (.mov (Zt 10)),Zh 10 62 60 511 (.load none (Zt 6)),Zh 11 63 60 2047 (Za .neq 61 62),Zk 12 64 57 4095 (.pick (Zt 60) (Zt 63) Zy),Zd 13 65 8191 (.pick (Zt 57) Zw (Zt 64)),Zd 14 66 16383 (.mov (Zt 65)),Zk 15 67 66 32767 (.mov (Zt 11)),Zk 16 68 66 65535 (Zb .neq 67 0),Zk 17 69 66 131071 (.mov (Zt 68)),Zh 18 70 69 262143 (.mov (Zt 11)),Zh 19 71 69 524287 (Zb .neq 70 4),Zh 20 72 69 1048575 (.mov (Zt 71)),Zk 21 73 72 2097151 (.mov (Zt 10)),Zk 22 74 72 4194303 (Zb .neq 73 0),Zh 23 75 69 8388607 (.pick (Zt 72) Zw (Zt 74)),Zk 24 76 66 16777215 (.pick (Zt 69) (Zt 75) Zy),Zd 25 77 33554431 (.pick (Zt 66) Zw (Zt 76)),Zd 26 78 67108863 (.mov (Zt 77)),Zk 27 79 78 134217727 (.mov (Zt 13)),Zk 28 80 78 268435455 (Zb .neq 79 0),Zd 29 81 536870911 (.pick (Zt 78) Zw (Zt 80)),Zd 30 82 1073741823 (.mov (Zt 81)),Zk 31 83 82 2147483647 (.mov (Zt 12)),Zk 32 84 82 2147483647 (.load none (Zt 5)),Zk 33 85 82 6442450943 (.bin .shl (Zn 1) (Zt 84)),Zk 34 86 82 15032385535 (Zb .sub 85 1),Zk 35 87 82 2147483647 (.load none (Zt 7)),Zk 36 88 82 66571993087 (Za .andNot 86 87),Zk 37 89 82 137438953471 (Za .neq 83 88),Zd 38 90 274877906943 (.pick (Zt 82) Zw (Zt 89))] (Zu 90 (Zq [Zo 0 4 (.mov Zy)] .ret) .skip)) (Zq [Zo 0 92 (Zg 4 2),Zl 1 93 9,Zo 2 94 (Zc 25 [Zt 92,Zt 93]),Zm 3 91 94,Zo 4 95 (Zx 91 0),Zo 5 96 (Zx 91 1),Zm 6 14 95,Zm 7 15 96] (.seq (Zq [Zl 0 97 5,Zo 1 98 (Zb .eql 97 0)] (Zu 98 (Zq [Zm 0 99 15,Zo 1 100 (Zb .eql 99 2),Zm 2 101 100,Zh 3 102 101 0 (Zc 13 []),Zo 4 103 (.pick (Zt 101) (Zt 102) Zy),Zm 5 4 103] .ret) .skip)) (Zq [Zo 0 105 (Zg 4 2),Zl 1 106 9,Zo 2 107 (Zc 20 [Zt 105,Zt 106]),Zm 3 104 107,Zo 4 108 (Zx 104 0),Zo 5 109 (Zx 104 1),Zm 6 16 108,Zm 7 17 109] (Zq [Zo 0 111 (Zg 4 2),Zl 1 112 5,Zo 2 113 (Zc 20 [Zt 111,Zt 112]),Zm 3 110 113,Zo 4 114 (Zx 110 0),Zo 5 115 (Zx 110 1),Zm 6 18 114,Zm 7 19 115] (Zq [Zo 0 117 (Zg 4 2),Zo 1 118 (Zc 25 [Zt 117,Zn (-1)]),Zm 2 116 118,Zo 3 119 (Zx 116 0),Zo 4 120 (Zx 116 1),Zm 5 20 119,Zm 6 21 120] (.seq (Zq [Zm 0 121 19,Zo 1 122 (Zb .neq 121 2),Zm 2 123 122,Zk 3 124 123 0 (.mov (Zt 21)),Zk 4 125 123 0 (.mov (Zt 19)),Zk 5 126 123 0 (Za .neq 124 125),Zo 6 127 (.pick (Zt 123) Zw (Zt 126)),Zm 7 128 127,Zk 8 129 128 0 (.mov (Zt 15)),Zk 9 130 128 0 (Zb .eql 129 0),Zk 10 131 128 0 (.load none (Zt 7)),Zk 11 132 128 0 (.load none (Zt 9)),Zk 12 133 128 0 (Za .shr 131 132),Zk 13 134 128 0 (Zb .and 133 1),Zk 14 135 128 0 (Zb .eql 134 1),Zk 15 136 128 0 (.eq .bool true (Zt 130) (Zt 135)),Zo 16 137 (.pick (Zt 128) Zw (Zt 136)),Zm 17 138 137,Zk 18 139 138 0 (.mov (Zt 17)),Zk 19 140 138 0 (Zb .eql 139 0),Zk 20 141 138 0 (.mov (Zt 15)),Zk 21 142 138 0 (Zb .eql 141 0),Zk 22 143 138 0 (.eq .bool true (Zt 140) (Zt 142)),Zo 23 144 (.pick (Zt 138) Zw (Zt 143))] (Zu 144 (Zq [Zo 0 4 (.mov Zy)] .ret) .skip)) (.seq (Zq [Zm 0 145 15,Zo 1 146 (Zb .neq 145 0)] (Zu 146 (Zq [Zm 0 147 15,Zo 1 148 (Zb .eql 147 4),Zm 2 149 148,Zh 3 150 149 0 (.mov (Zt 17)),Zh 4 151 149 0 (.mov (Zt 15)),Zh 5 152 149 0 (Za .eql 150 151),Zo 6 153 (.pick (Zt 149) (Zt 152) Zy),Zm 7 154 153,Zh 8 155 154 0 (.mov (Zt 14)),Zh 9 156 154 0 (Zb .eql 155 0),Zo 10 157 (.pick (Zt 154) (Zt 156) Zy),Zm 11 158 157,Zh 12 159 158 0 (.mov (Zt 16)),Zh 13 160 158 0 (Zb .eql 159 0),Zo 14 161 (.pick (Zt 158) (Zt 160) Zy),Zm 15 162 161,Zh 16 163 162 0 (Zc 13 []),Zo 17 164 (.pick (Zt 162) (Zt 163) Zy),Zm 18 4 164] .ret) .skip)) (Zr [Zm 0 165 14,Zl 1 166 8,Zl 2 167 9,Zd 3 168 4 (.bin .shl (Zn 1) (Zt 167)),Zd 4 169 14 (Za .andNot 166 168),Zd 5 170 31 (Za .eql 165 169),Zd 6 171 63 (.mov (Zt 170)),Zh 7 172 171 127 (.mov (Zt 16)),Zh 8 173 171 255 (Zb .geq 172 0),Zd 9 174 511 (.pick (Zt 171) (Zt 173) Zy),Zd 10 175 1023 (.mov (Zt 174)),Zh 11 176 175 2047 (.mov (Zt 16)),Zh 12 177 175 2047 (Zf 2 2),Zh 13 178 175 6143 (.load none (Zt 177)),Zh 14 179 175 16383 (Za .lss 176 178),Zd 15 180 32767 (.pick (Zt 175) (Zt 179) Zy),Zd 16 181 65535 (.mov (Zt 180)),Zh 17 182 181 131071 (Zc 13 []),Zd 18 183 262143 (.pick (Zt 181) (Zt 182) Zy),Zd 19 4 524287 (.mov (Zt 183))] .ret))))))))))))))))⟩
def af12:AFunc:=⟨33,[.tmp 6],Zq [Zo 0 3 (.box (Zt 0)),Zo 1 6 (.mov Zy)] (.seq (Zq [Zo 0 8 (Zg 4 3),Zm 1 9 1,Zo 2 10 (Zc 29 [Zt 8,Zt 9]),Zm 3 11 10,Zk 4 12 11 0 (Zg 4 3),Zk 5 13 11 0 (Zc 30 [Zt 12]),Zk 6 14 11 0 (.not (Zt 13)),Zo 7 15 (.pick (Zt 11) Zw (Zt 14))] (Zu 15 (Zq [Zo 0 16 (Zg 4 3),Zm 1 17 1,Zo 2 18 (Zc 29 [Zt 16,Zt 17]),Zm 3 6 18] .ret) .skip)) (Zq [Zo 0 7 (.mov (Zn 1))] (.seq (Zq [Zo 0 19 (Zf 3 3),Zl 1 20 19,Zo 2 21 (.len (Zt 20)),Zo 3 22 (.mov (Zn 0))] (.block 0 (.loop [2,3,7,21,22] (Zq [Zo 0 23 (Za .lss 22 21)] (.seq (Zu 23 .skip (.exit 0)) (.seq (.block 1 (.ops [Zm 0 24 7,Zo 1 25 (Zf 2 3),Zl 2 26 25,Zo 3 27 (Zb .add 26 1),Zo 4 28 (Za .mul 24 27),Zm 5 7 28])) (.ops [Zo 0 29 (Zb .add 22 1),Zm 1 22 29]))))))) (Zq [Zm 0 30 7,Zm 1 31 2,Zo 2 32 (Za .gtr 30 31),Zm 3 6 32] .ret))))⟩
def af13:AFunc:=⟨130,[.tmp 0],Zq [Zo 0 0 (.mov Zy)] (Zq [Zo 0 20 (Zc 45 []),Zo 1 21 (.buildSl 1 3 [Zi 0] [(0,Zn 1),(1,Zn 0),(2,Zn 0)]),Zo 2 22 (Zc 14 [Zt 20,Zt 21]),Zm 3 19 22,Zo 4 23 (Zx 19 0),Zo 5 24 (Zx 19 1),Zo 6 25 (Zx 19 2),Zm 7 1 23,Zm 8 2 24,Zm 9 3 25] (Zq [Zo 0 27 (Zc 45 []),Zo 1 28 (Zc 16 [Zt 27]),Zm 2 26 28,Zo 3 29 (Zx 26 0),Zo 4 30 (Zx 26 1),Zo 5 31 (Zx 26 2),Zm 6 4 29,Zm 7 5 30,Zm 8 6 31] (Zq [Zo 0 33 (Zc 46 []),Zo 1 34 (Zc 18 [Zt 33]),Zm 2 32 34,Zo 3 35 (Zx 32 0),Zo 4 36 (Zx 32 1),Zm 5 7 35,Zm 6 8 36] (Zq [Zo 0 38 (Zc 45 []),Zo 1 39 (Zc 20 [Zt 38,Zn 1]),Zm 2 37 39,Zo 3 40 (Zx 37 0),Zo 4 41 (Zx 37 1),Zm 5 9 40,Zm 6 10 41] (Zq [Zo 0 43 (Zc 47 []),Zo 1 44 (Zc 23 [Zt 43]),Zm 2 42 44,Zo 3 45 (Zx 42 0),Zo 4 46 (Zx 42 1),Zm 5 11 45,Zm 6 12 46] (Zq [Zo 0 48 (Zc 45 []),Zo 1 49 (Zc 25 [Zt 48,Zn 0]),Zm 2 47 49,Zo 3 50 (Zx 47 0),Zo 4 51 (Zx 47 1),Zm 5 13 50,Zm 6 14 51] (Zq [Zo 0 53 (Zc 45 []),Zo 1 54 (.buildSl 1 3 [Zi 0] [(0,Zn (-1)),(1,Zn 0),(2,Zn (-1))]),Zo 2 55 (Zc 27 [Zt 53,Zt 54,Zn 0]),Zm 3 52 55,Zo 4 56 (Zx 52 0),Zo 5 57 (Zx 52 1),Zm 6 15 56,Zm 7 16 57] (Zq [Zo 0 59 (Zc 45 []),Zo 1 60 (Zc 18 [Zt 59]),Zm 2 58 60,Zo 3 61 (Zx 58 0),Zo 4 62 (Zx 58 1),Zm 5 17 61,Zm 6 18 62] (Zq [Zm 0 63 1,Zo 1 64 (Zb .eql 63 2),Zm 2 65 64,Zh 3 66 65 0 (.mov (Zt 2)),Zh 4 67 65 0 (Zb .eql 66 2),Zo 5 68 (.pick (Zt 65) (Zt 67) Zy),Zm 6 69 68,Zh 7 70 69 0 (.mov (Zt 3)),Zh 8 71 69 0 (Zb .eql 70 0),Zo 9 72 (.pick (Zt 69) (Zt 71) Zy),Zm 10 73 72,Zh 11 74 73 0 (.mov (Zt 4)),Zh 12 75 73 0 (.buildSl 1 3 [Zi 0] [(0,Zn 0),(1,Zn (-1)),(2,Zn 0)]),Zh 13 76 73 0 (Zc 22 [Zt 74,Zt 75]),Zo 14 77 (.pick (Zt 73) (Zt 76) Zy),Zm 15 78 77,Zh 16 79 78 0 (.mov (Zt 5)),Zh 17 80 78 0 (Zb .eql 79 18),Zo 18 81 (.pick (Zt 78) (Zt 80) Zy),Zm 19 82 81,Zh 20 83 82 0 (.mov (Zt 6)),Zh 21 84 82 0 (Zb .eql 83 0),Zo 22 85 (.pick (Zt 82) (Zt 84) Zy),Zm 23 86 85,Zh 24 87 86 0 (.mov (Zt 7)),Zh 25 88 86 0 (Zb .eql 87 0),Zo 26 89 (.pick (Zt 86) (Zt 88) Zy),Zm 27 90 89,Zh 28 91 90 0 (.mov (Zt 8)),Zh 29 92 90 0 (Zb .eql 91 0),Zo 30 93 (.pick (Zt 90) (Zt 92) Zy),Zm 31 94 93,Zh 32 95 94 0 (.mov (Zt 9)),Zh 33 96 94 0 (Zb .eql 95 0),Zo 34 97 (.pick (Zt 94) (Zt 96) Zy),Zm 35 98 97,Zh 36 99 98 0 (.mov (Zt 10)),Zh 37 100 98 0 (Zb .eql 99 0),Zo 38 101 (.pick (Zt 98) (Zt 100) Zy),Zm 39 102 101,Zh 40 103 102 0 (.mov (Zt 11)),Zh 41 104 102 0 (Zb .eql 103 1),Zo 42 105 (.pick (Zt 102) (Zt 104) Zy),Zm 43 106 105,Zh 44 107 106 0 (.mov (Zt 12)),Zh 45 108 106 0 (Zb .eql 107 0),Zo 46 109 (.pick (Zt 106) (Zt 108) Zy),Zm 47 110 109,Zh 48 111 110 0 (.mov (Zt 13)),Zh 49 112 110 0 (Zb .eql 111 6),Zo 50 113 (.pick (Zt 110) (Zt 112) Zy),Zm 51 114 113,Zh 52 115 114 0 (.mov (Zt 14)),Zh 53 116 114 0 (Zb .eql 115 0),Zo 54 117 (.pick (Zt 114) (Zt 116) Zy),Zm 55 118 117,Zh 56 119 118 0 (.mov (Zt 15)),Zh 57 120 118 0 (Zb .eql 119 6),Zo 58 121 (.pick (Zt 118) (Zt 120) Zy),Zm 59 122 121,Zh 60 123 122 0 (.mov (Zt 16)),Zh 61 124 122 0 (Zb .eql 123 0),Zo 62 125 (.pick (Zt 122) (Zt 124) Zy),Zm 63 126 125,Zh 64 127 126 0 (.mov (Zt 18)),Zh 65 128 126 0 (Zb .eql 127 4),Zo 66 129 (.pick (Zt 126) (Zt 128) Zy),Zm 67 0 129] .ret)))))))))⟩
def af29:AFunc:=⟨20,[.tmp 4],Zq [Zo 0 2 (.box (Zt 0)),Zo 1 4 (.mov Zy)] (Zq [Zo 0 5 (Zf 0 2),Zo 1 6 (Zf 0 5),Zl 2 7 6,Zo 3 8 (.len (Zt 7)),Zo 4 9 (Zf 0 2),Zo 5 10 (Zf 1 9),Zl 6 11 10,Zo 7 12 (.len (Zt 11)),Zo 8 13 (Zf 3 2),Zl 9 14 13,Zo 10 15 (.len (Zt 14)),Zm 11 16 1,Zo 12 17 (.len (Zt 16)),Zo 13 18 (.max [Zt 8,Zt 12,Zt 15,Zt 17]),Zo 14 19 (Zb .gtr 18 40),Zm 15 4 19] .ret)⟩
def af37:AFunc:=⟨8,[.cell 4 (some 2)],Zq [Zo 0 4 (.alloc [Zi 0,Zi 0])] (Zq [Zm 0 5 0,Zm 1 6 1,Zo 2 7 (.build [Zi 0,Zi 0] [(0,(1,Zt 5)),(1,(1,Zt 6))]),Zs 3 (.store 2 (Zt 4) (Zt 7))] .ret)⟩
def af38:AFunc:=⟨17,[.tmp 4],Zq [Zo 0 2 (.box (Zt 0)),Zo 1 4 (.mov Zy)] (Zq [Zo 0 9 (Zg 4 2),Zm 1 10 1,Zo 2 11 (Zc 14 [Zt 9,Zt 10]),Zm 3 8 11,Zo 4 12 (Zx 8 0),Zo 5 13 (Zx 8 1),Zo 6 14 (Zx 8 2),Zm 7 5 12,Zm 8 6 13,Zm 9 7 14] (Zq [Zm 0 15 7,Zo 1 16 (Zb .eql 15 4),Zm 2 4 16] .ret))⟩
def af41:AFunc:=⟨8,[],Zq [Zo 0 2 (.box (Zt 0)),Zo 1 3 (.box (Zt 1))] (Zq [Zo 0 4 (.alloc [.nilfn])] (Zq [Zo 0 5 (.mkfn (Fn.func 105) [] [Zt 2,Zt 3,Zt 4]),Zs 1 (.store 1 (Zt 4) (Zt 5))] (.ops [Zl 0 6 4,Zo 1 7 (.call (Zt 6) [.val .nils])])))⟩
def af42:AFunc:=⟨63,[],.seq (Zq [Zo 0 12 (Zg 4 1),Zm 1 13 0,Zo 2 14 (Zc 38 [Zt 12,Zt 13]),Zo 3 15 (.not (Zt 14))] (Zu 15 .ret .skip)) (Zq [Zo 0 8 (.mov (Zn 0)),Zo 1 9 (.mov (Zn 0))] (.seq (Zq [Zm 0 16 0,Zo 1 17 (.len (Zt 16)),Zo 2 18 (.mov (Zn 0))] (.block 0 (.loop [2,3,4,5,6,8,9,16,17,18] (Zq [Zo 0 19 (Za .lss 18 17)] (.seq (Zu 19 .skip (.exit 0)) (.seq (.block 1 (Zq [Zm 0 20 18,Zo 1 21 (Zj 1 16 18),Zl 2 22 21,Zm 3 10 20,Zm 4 11 22] (Zq [Zm 0 23 11,Zo 1 24 (Zb .geq 23 0)] (Zu 24 (.ops [Zm 0 25 8,Zm 1 26 10,Zo 2 27 (.bin .shl (Zn 1) (Zt 26)),Zo 3 28 (Za .or 25 27),Zm 4 29 9,Zm 5 30 11,Zo 6 31 (.max [Zt 29,Zt 30]),Zm 7 8 28,Zm 8 9 31]) .skip)))) (.ops [Zo 0 32 (Zb .add 18 1),Zm 1 18 32]))))))) (Zq [Zl 0 33 2,Zm 1 34 8,Zo 2 35 (Za .or 33 34),Zs 3 (.store 1 (Zt 2) (Zt 35))] (.seq (Zq [Zl 0 36 3,Zo 1 37 (Zb .gtr 36 0),Zm 2 38 37,Zh 3 39 38 0 (.mov (Zt 8)),Zh 4 40 38 0 (.load none (Zt 4)),Zh 5 41 38 0 (Za .shr 39 40),Zh 6 42 38 0 (Zb .and 41 1),Zh 7 43 38 0 (Zb .eql 42 1),Zo 8 44 (.pick (Zt 38) (Zt 43) Zy)] (Zu 44 (.ops [Zl 0 45 5,Zm 1 46 8,Zo 2 47 (Za .or 45 46),Zs 3 (.store 1 (Zt 5) (Zt 47))]) .skip)) (Zq [Zm 0 48 8,Zl 1 49 3,Zo 2 50 (.bin .shl (Zn 1) (Zt 49)),Zo 3 51 (Zb .sub 50 1),Zo 4 52 (Za .eql 48 51),Zm 5 53 52,Zh 6 54 53 0 (.load none (Zt 6)),Zh 7 55 53 0 (Zb .lss 54 0),Zh 8 56 53 0 (.mov (Zt 55)),Zk 9 57 56 0 (.mov (Zt 9)),Zk 10 58 56 0 (.load none (Zt 6)),Zk 11 59 56 0 (Za .lss 57 58),Zh 12 60 53 0 (.pick (Zt 56) Zw (Zt 59)),Zo 13 61 (.pick (Zt 53) (Zt 60) Zy)] (Zu 61 (.ops [Zm 0 62 9,Zs 1 (.store 1 (Zt 6) (Zt 62))]) .skip))))))⟩
def af45:AFunc:=⟨6,[.cell 0 (some 4)],Zq [Zo 0 0 (.alloc [.nils,.nils,Zi 0,.nils])] (Zq [Zo 0 1 (.build [Zi 0,Zi 0] [(0,(1,Zn 6)),(1,(1,Zn 1))]),Zo 1 2 (.build [Zi 0,Zi 0] [(0,(1,Zn 10)),(1,(1,Zn 3))]),Zo 2 3 (.build [Zi 0,Zi 0] [(0,(1,Zn 12))]),Zo 3 4 (.buildSl 2 3 [Zi 0,Zi 0] [(0,Zt 1),(1,Zt 2),(2,Zt 3)]),Zo 4 5 (Zc 111 [Zt 4]),Zs 5 (.store 4 (Zt 0) (Zt 5))] .ret)⟩
def af46:AFunc:=⟨5,[.cell 0 (some 4)],Zq [Zo 0 0 (.alloc [.nils,.nils,Zi 0,.nils])] (Zq [Zo 0 1 (Zc 45 []),Zo 1 2 (.fieldV 3 none (Zt 1)),Zo 2 3 (.slice 2 (Zt 2) none (some (Zn 2))),Zo 3 4 (Zc 111 [Zt 3]),Zs 4 (.store 4 (Zt 0) (Zt 4))] .ret)⟩
def af47:AFunc:=⟨4,[.cell 0 (some 4)],Zq [Zo 0 0 (.alloc [.nils,.nils,Zi 0,.nils])] (Zq [Zo 0 1 (.build [Zi 0,Zi 0] [(0,(1,Zn 40)),(1,(1,Zn 3))]),Zo 1 2 (.buildSl 2 1 [Zi 0,Zi 0] [(0,Zt 1)]),Zo 2 3 (Zc 111 [Zt 2]),Zs 3 (.store 4 (Zt 0) (Zt 3))] .ret)⟩
def af105:AFunc:=⟨29,[],.seq (Zq [Zm 0 6 0,Zo 1 7 (.len (Zt 6)),Zo 2 8 (Zf 3 1),Zl 3 9 8,Zo 4 10 (.len (Zt 9)),Zo 5 11 (Za .eql 7 10)] (Zu 11 (Zq [Zl 0 12 2,Zm 1 13 0,Zo 2 14 (.call (Zt 12) [Zt 13])] .ret) .skip)) (Zq [Zo 0 5 (.mov (Zn (-1)))] (.block 0 (.loop [0,1,3,5] (.seq (Zq [Zm 0 15 5,Zo 1 16 (Zf 2 1),Zl 2 17 16,Zo 3 18 (Za .lss 15 17)] (Zu 18 .skip (.exit 0))) (.seq (.block 1 (.draw [Zl 0 21 3,Zo 1 22 (.buildSl 1 0 [Zi 0] []),Zm 2 23 0,Zm 4 25 5,Zd 5 26 16 (.buildSl 1 1 [Zi 0] [(0,Zt 25)]),Zd 3 24 6 (.append 1 (Zt 22) (Zt 23)),Zd 6 27 62 (.append 1 (Zt 24) (Zt 26)),Zd 7 28 127 (.call (Zt 21) [Zt 27])])) (.ops [Zm 0 19 5,Zo 1 20 (Zb .add 19 1),Zm 2 5 20]))))))⟩
def af111:AFunc:=⟨6,[.cell 2 (some 4)],Zq [Zo 0 2 (.alloc [.nils,.nils,Zi 0,.nils])] (Zq [Zo 0 3 (Zc 144 []),Zm 1 4 0,Zo 2 5 (.build [.nils,.nils,Zi 0,.nils] [(0,(2,Zt 3)),(2,(1,Zn 4)),(3,(1,Zt 4))]),Zs 3 (.store 4 (Zt 2) (Zt 5))] .ret)⟩
def af144:AFunc:=⟨15,[.cell 0 (some 2)],Zq [Zo 0 0 (.alloc [.nils,.nils])] (Zq [Zo 0 1 (Zc 37 [Zn 10,Zn 11]),Zo 1 2 (Zc 37 [Zn 2,Zn 2]),Zo 2 3 (Zc 37 [Zn 1,Zn 1]),Zo 3 4 (.build [Zi 0,Zi 0,Zi 0,Zi 0,Zi 0,Zi 0,Zi 0] [(0,(2,Zt 1)),(2,(2,Zt 2)),(4,(2,Zt 3)),(6,(1,Zn 12))]),Zo 4 5 (Zc 37 [Zn 8,Zn 8]),Zo 5 6 (Zc 37 [Zn 3,Zn 4]),Zo 6 7 (Zc 37 [Zn 0,Zn 1]),Zo 7 8 (.build [Zi 0,Zi 0,Zi 0,Zi 0,Zi 0,Zi 0,Zi 0] [(0,(2,Zt 5)),(2,(2,Zt 6)),(4,(2,Zt 7)),(6,(1,Zn 9))]),Zo 8 9 (.buildSl 7 2 [Zi 0,Zi 0,Zi 0,Zi 0,Zi 0,Zi 0,Zi 0] [(0,Zt 4),(1,Zt 8)]),Zo 9 10 (Zc 37 [Zn 6,Zn 6]),Zo 10 11 (.build [Zi 0,Zi 0,Zi 0,Zi 0,Zi 0,Zi 0,Zi 0] [(0,(1,Zn 0)),(1,(2,Zt 10))]),Zo 11 12 (.build [Zi 0,Zi 0,Zi 0,Zi 0,Zi 0,Zi 0,Zi 0] [(0,(1,Zn 1)),(3,(1,Zn 2))]),Zo 12 13 (.buildSl 7 2 [Zi 0,Zi 0,Zi 0,Zi 0,Zi 0,Zi 0,Zi 0] [(0,Zt 11),(1,Zt 12)]),Zo 13 14 (.build [.nils,.nils] [(0,(1,Zt 9)),(1,(1,Zt 13))]),Zs 14 (.store 2 (Zt 0) (Zt 14))] .ret)⟩
namespace Ro
open K
attribute [local simp] ev1 wantG spineK spine float xnew xval xeff zab zae zau zah zai addFl cellsOf pickC alive slLen slFt binI maxA maxK minA minK aeqK aeqS AV.cells spA zad fillA setAt bitsI nat_nn zav AV.plain apart
set_option maxRecDepth 100000
set_option maxHeartbeats 4000000
def i64n (n:Int):Prop:=-9223372036854775808≤n∧n≤9223372036854775807
def planV (l:Ld.Lo):AV:=.tup [.vs 1 (ints (if Ld.valid l=true then (Ld.planR l).1 else [])),.int .i64 (if Ld.valid l=true then (Ld.planR l).2 else 0),.int .i64 (errL l true)]
structure LApi (call:CallF):Prop where
 check:∀ {H v pv l p},loadOf H v=some l→plnOf H pv=some p→call (.fn (.func 14) [] []) [v,pv] H=some (.ret (checkRV l p),H,[])
 plan:∀ {H v l},loadOf H v=some l→call (.fn (.func 16) [] []) [v] H=some (.ret (planV l),H,[])
 all:∀ {H v l},loadOf H v=some l→call (.fn (.func 18) [] []) [v] H=some (.ret (allRV l),H,[])
 alone:∀ {H v l},loadOf H v=some l→∀ i,i64n i→call (.fn (.func 20) [] []) [v,.int .i64 i] H=some (.ret (aloneRV l i),H,[])
 never:∀ {H v l},loadOf H v=some l→call (.fn (.func 23) [] []) [v] H=some (.ret (neverRV l),H,[])
 with_:∀ {H v l},loadOf H v=some l→∀ i,i64n i→call (.fn (.func 25) [] []) [v,.int .i64 i] H=some (.ret (withRV l i),H,[])
 more:∀ {H v pv l p},loadOf H v=some l→plnOf H pv=some p→l.carts≠[]→∀ d,i64n d→call (.fn (.func 27) [] []) [v,pv,.int .i64 d] H=some (.ret (moreRV l p d),H,[])
 bears:∀ {H v r},roadOf H v=some r→∀ n,i64n n→call (.fn (.func 36) [] []) [v,.int .i64 n] H=some (.ret (numRV r (Rd.isLoad n) (Rd.bearsR r n)),H,[])
 valid:∀ {H v l},loadOf H v=some l→call (.fn (.func 30) [] []) [v] H=some (.ret (.bool (Ld.valid l)),H,[])
 alive:∀ {H},call (.fn (.func 13) [] []) [] H=some (.ret (.bool true),H,[])
 long:∀ {H} (l:Ld.Lo),call (.fn (.func 29) [] []) [.agg (loadCs l),.nils] H=some (.ret (.bool (decide (40<max l.road.parts.length (max l.road.events.length l.carts.length)))),H,[])
def Yes (fn:AFunc)(C:Cfg)(e:AExit)(st:St):Prop:=Ends C 0 fn.res (fun v _ _=>v=.bool true) e st
theorem zya (C:Cfg)(call:CallF)(l:Ld.Lo)(H:List AB):Wb C call H af29 [.agg (loadCs l),.nils]
  (fun v _hp tc=>v=.bool (decide (40<max l.road.parts.length (max l.road.events.length l.carts.length)))∧tc=[]):=by
 have e:decide ((40:Int)<max (max (max (l.road.parts.length:Int) (l.road.events.length:Int)) (l.carts.length:Int)) 0)=decide (40<max l.road.parts.length (max l.road.events.length l.carts.length)):=by congr 1;simp;omega
 rw[← e]
 unfold Wb Wa af29 Zq Zm Zl Zo Zb Zf Zt Zy
 simp only[zipI,loadCs]
 refine gA ?_
 exact zac (v:=.bool (decide ((40:Int)<max (max (max (l.road.parts.length:Int) (l.road.events.length:Int)) (l.carts.length:Int)) 0))) (.inl rfl) rfl (by simp) endvP ⟨rfl,by simp⟩
end Ro
end Ev
namespace Ld
theorem vl_of {l:Lo}(h:valid l=true):Vl l∧(1≤l.days∧l.days≤4)∧l.carts.length≤4∧∀ c∈l.carts,(0≤c.load∧c.load≤60)∧0≤c.due∧c.due<l.days:=by
 unfold valid at h
 simp only[Bool.and_eq_true,decide_eq_true_eq,List.all_eq_true,okCart,isDay] at h
 obtain ⟨⟨⟨⟨h1,h2⟩,h3⟩,h4⟩,h5⟩:=h
 have hv:Rd.valid l.road=true∧Rd.canR l.road (Rd.everyR l.road)=true:=by
  unfold Rd.errR at h1
  by_cases a:Rd.valid l.road=true
  ·rw[a] at h1
   by_cases b:Rd.canR l.road (Rd.everyR l.road)=true
   ·exact ⟨a,b⟩
   ·simp[b] at h1
  ·simp[a] at h1
 refine ⟨⟨(Rd.valid_iff _).1 hv.1,hv.2,h2,by omega,fun i hi=>?_⟩,h3,h4,h5⟩
 refine (h5 _ ?_).1
 rw[List.getD_eq_getElem?_getD,List.getElem?_eq_getElem hi]
 exact List.getElem_mem _
end Ld
namespace Ev
namespace Ro
open K
attribute [local simp] ev1 wantG spineK spine float xnew xval xeff zab zae zau zah zai addFl cellsOf pickC alive slLen slFt binI maxA maxK minA minK aeqK aeqS AV.cells spA zad fillA setAt bitsI nat_nn zav AV.plain apart
set_option maxRecDepth 100000
set_option maxHeartbeats 4000000
def LdAt (H:List AB)(v:AV)(l:Ld.Lo):Prop:=∀ K,loadOf (H++K) v=some l
def PnAt (H:List AB)(v:AV)(p:List Int):Prop:=∀ K,plnOf (H++K) v=some p
theorem ldAt_r (H:List AB)(l:Ld.Lo)(hp:l.road.parts.length≤40)(he:l.road.events.length≤50)(hc:l.carts.length≤50):LdAt H (.agg (loadCs l)) l:=fun _K=>yee _ l hp he hc
theorem ylb (H:List AB):PnAt H .nils []:=fun K=>yit (ylc _) (by simp)
theorem yju {H:List AB}{b n:Nat}{p:List Int}(h:H[b]?=some (.cells (ints p)))(hn:n=p.length)(hl:p.length≤50):PnAt H (.sl b 0 n 1) p:=fun K=>yit (yjv (by rw[List.getElem?_append_left (get_lt h)];exact h) hn) hl
theorem ylm {H:List AB}{p:List Int}{v:AV}(h:LsB H p v)(hl:p.length≤50):PnAt H v p:=by
 rcases h with ⟨rfl,rfl⟩|⟨b,rfl,h⟩
 ·exact ylb H
 ·exact yju h rfl hl
def errC (l:Ld.Lo)(p:List Int):Int:=if (Ld.valid l&&Ld.isPlan l p)=true then (if Ld.right l p=true then 4 else 0) else errL l (Ld.isPlan l p)
theorem yfy (l:Ld.Lo)(p:List Int):∃ a b:Int,checkRV l p=.tup [.int .i64 a,.int .i64 b,.int .i64 (errC l p)]:=by
 unfold checkRV errC Ld.right
 split
 ·cases h:Ld.brokenR l p with
  |none=>exact ⟨0,0,rfl⟩
  |some x=>exact ⟨x.1,x.2,rfl⟩
 ·exact ⟨0,0,rfl⟩
theorem yid (l:Ld.Lo)(p:List Int):(errC l p==4)=(Ld.valid l&&Ld.isPlan l p&&Ld.right l p):=by
 unfold errC errL
 cases Ld.valid l<;>cases Ld.isPlan l p<;>cases Ld.right l p<;>rfl
def LawRightC (call:CallF):Prop:=∀ {H:List AB} {v pv:AV} {l:Ld.Lo} {p:List Int},LdAt H v l→PnAt H pv p→call (.fn (.func 38) [] []) [v,pv] H=some (.ret (.bool (Ld.valid l&&Ld.isPlan l p&&Ld.right l p)),H,[])
theorem yeu (C:Cfg)(call:CallF)(hA:LApi call)(H:List AB)(v pv:AV)(l:Ld.Lo)(p:List Int)(hl:LdAt H v l)(hp:PnAt H pv p):
  Wb C call H af38 [v,pv]
   (fun w _hp tc=>w=.bool (Ld.valid l&&Ld.isPlan l p&&Ld.right l p)∧tc=[]):=by
 rw[← yid]
 obtain ⟨a,b,hc⟩:=yfy l p
 have hcall:=fun K=>hA.check (hl K) (hp K)
 rw[hc] at hcall
 have h0:=hl []
 obtain ⟨pv',ev',cv,rfl,_,_,_⟩:=ybu h0
 generalize errC l p=e at *
 clear hA hl hp hc h0
 unfold Wb Wa af38 Zq Zm Zo Zc Zb Zg Zx Zt Zy
 simp only[zipI]
 refine gA ?_
 exact zac (v:=.bool (e==4)) (.inl rfl) rfl (by simp) endvP ⟨rfl,by simp⟩
theorem yco {C:Cfg}{n0:Nat}(hC:C.calm=true)(h0:Has C 38 af38)(hA:LApi (Ev.call C n0)):LawRightC (Ev.call C (n0+1)):=
 fun {H v pv l p} hl hp=>zaj hC h0 (le' rfl) rfl (yeu C _ hA H v pv l p hl hp)
end Ro
end Ev
namespace Ld
def daysAll (l:Lo):List Int:=(List.range (l.days.toNat+1)).map fun (i:Nat)=>(i:Int) - 1
def extL (D:List Int):Nat→List Int→List (List Int)
 |0,p=>[p]
 |k+1,p=>D.flatMap fun d=>extL D k (p++[d])
theorem ymk (D:List Int):∀ (k:Nat) (p q:List Int),q∈extL D k p↔∃ s:List Int,s.length=k∧(∀ d∈s,d∈D)∧q=p++s
 |0,p,q=>by
  rw[extL,List.mem_singleton]
  constructor
  ·rintro rfl;exact ⟨[],rfl,by simp,by simp⟩
  ·rintro ⟨s,hs,_,rfl⟩
   obtain rfl:=List.eq_nil_of_length_eq_zero hs
   simp
 |k+1,p,q=>by
  rw[extL,List.mem_flatMap]
  constructor
  ·rintro ⟨d,hd,h⟩
   obtain ⟨s,h1,h2,rfl⟩:=(ymk D k _ _).1 h
   exact ⟨d::s,by simp[h1],fun x hx=>(List.mem_cons.1 hx).elim (fun e=>e ▸ hd) (h2 x),by simp⟩
  ·rintro ⟨s,h1,h2,rfl⟩
   cases s with
   |nil=>simp at h1
   |cons d s=>exact ⟨d,h2 d (by simp),(ymk D k _ _).2 ⟨s,by simpa using h1,fun x hx=>h2 x (by simp[hx]),by simp⟩⟩
def everyP (l:Lo):List (List Int):=extL (daysAll l) l.carts.length []
theorem ymq {l:Lo}(h0:0≤l.days){p:List Int}:p∈everyP l↔isPlan l p=true:=by
 unfold everyP isPlan
 rw[ymk]
 simp only[Bool.and_eq_true,decide_eq_true_eq,List.all_eq_true,Bool.or_eq_true,isDay]
 have hD:∀ d:Int,d∈daysAll l↔d=-1∨(0≤d∧d<l.days):=fun d=>by
  unfold daysAll
  rw[List.mem_map]
  constructor
  ·rintro ⟨i,hi,rfl⟩
   rw[List.mem_range] at hi
   omega
  ·intro h
   exact ⟨(d+1).toNat,by rw[List.mem_range];omega,by omega⟩
 constructor
 ·rintro ⟨s,h1,h2,rfl⟩
  exact ⟨by simpa using h1,fun d hd=>(hD d).1 (h2 d (by simpa using hd))⟩
 ·rintro ⟨h1,h2⟩
  exact ⟨p,h1,fun d hd=>(hD d).2 (h2 d hd),by simp⟩
theorem ymd {l:Lo}(h0:0≤l.days)(h4:l.days≤4){p:List Int}:p∈(everyP l).filter (right l)↔p∈rights l:=by
 rw[List.mem_filter,ymq h0]
 exact ⟨fun h=>ykz h4 h.1 h.2,fun h=>rights_plan h⟩
theorem ymg {l:Lo}(h0:0≤l.days)(h4:l.days≤4)(f:List Int→Bool):((everyP l).filter (right l)).any f=(rights l).any f:=by
 rw[Bool.eq_iff_iff,List.any_eq_true,List.any_eq_true]
 exact ⟨fun ⟨p,hp,h⟩=>⟨p,(ymd h0 h4).1 hp,h⟩,fun ⟨p,hp,h⟩=>⟨p,(ymd h0 h4).2 hp,h⟩⟩
def canS (l:Lo)(d:List (List Int)):Nat:=goneS l.carts.length (fun _=>true) (d.filter (right l))
def withS (l:Lo)(c:Nat)(d:List (List Int)):Nat:=goneS l.carts.length (fun p=>goesB p c) (d.filter (right l))
def lastP (p:List Int):Int:=p.foldl max 0
def goB (p:List Int):Bool:=p.all fun d=>decide (0≤d)
def soonF (s:Int)(p:List Int):Int:=if (goB p&&(decide (s<0) || decide (lastP p<s)))=true then lastP p else s
def soonS (l:Lo)(d:List (List Int)):Int:=(d.filter (right l)).foldl soonF (-1)
theorem yme:∀ (p:List Int) (a:Int),a≤p.foldl max a∧∀ b,a<b→(∀ d∈p,d<b)→p.foldl max a<b
 |[],a=>⟨Int.le_refl _,fun _ h _=>h⟩
 |d::p,a=>by
  obtain ⟨h1,h2⟩:=yme p (max a d)
  exact ⟨Int.le_trans (by omega) h1,fun b hb h=>h2 b (by have:=h d (by simp);omega) fun x hx=>h x (by simp[hx])⟩
def SoonI (ds:List (List Int))(s:Int):Prop:=(s=-1∧∀ q∈ds,goB q=false)∨∃ p∈ds,goB p=true∧s=lastP p∧∀ q∈ds,goB q=true→s≤lastP q
theorem yml:∀ (rs ds:List (List Int)) (s:Int),SoonI ds s→SoonI (ds++rs) (rs.foldl soonF s)
 |[],ds,s,h=>by simpa using h
 |r::rs,ds,s,h=>by
  rw[List.foldl_cons,show ds++r::rs=(ds++[r])++rs by simp]
  refine yml rs _ _ ?_
  unfold soonF
  have hr0:0≤lastP r:=(yme r 0).1
  cases hg:goB r with
  |false=>
   rw[Bool.false_and,if_neg (by simp)]
   rcases h with ⟨h1,h2⟩|⟨p,hp,h1,h2,h3⟩
   ·refine .inl ⟨h1,fun q hq=>?_⟩
    rcases List.mem_append.1 hq with hq|hq
    ·exact h2 q hq
    ·rw[List.mem_singleton] at hq;subst hq;exact hg
   ·refine .inr ⟨p,by simp[hp],h1,h2,fun q hq hgq=>?_⟩
    rcases List.mem_append.1 hq with hq|hq
    ·exact h3 q hq hgq
    ·rw[List.mem_singleton] at hq;subst hq;rw[hg] at hgq;cases hgq
  |true=>
   rw[Bool.true_and]
   by_cases hc:s<0∨lastP r<s
   ·rw[if_pos (by simpa using hc)]
    refine .inr ⟨r,by simp,hg,rfl,fun q hq hgq=>?_⟩
    rcases List.mem_append.1 hq with hq|hq
    ·rcases h with ⟨_,h2⟩|⟨p,hp,h1,h2,h3⟩
     ·rw[h2 q hq] at hgq;cases hgq
     ·have:=h3 q hq hgq
      have:=(yme p 0).1
      unfold lastP at *
      omega
    ·rw[List.mem_singleton] at hq;subst hq;exact Int.le_refl _
   ·rw[if_neg (by simpa using hc)]
    rcases h with ⟨h1,_⟩|⟨p,hp,h1,h2,h3⟩
    ·exact absurd (.inl (by omega)) hc
    ·refine .inr ⟨p,by simp[hp],h1,h2,fun q hq hgq=>?_⟩
     rcases List.mem_append.1 hq with hq|hq
     ·exact h3 q hq hgq
     ·rw[List.mem_singleton] at hq;subst hq;omega
theorem go_any {l:Lo}{p:List Int}(hp:isPlan l p=true):(p.any (·==-1))=!goB p:=by
 unfold isPlan at hp
 simp only[Bool.and_eq_true,decide_eq_true_eq,List.all_eq_true,Bool.or_eq_true,isDay] at hp
 unfold goB
 rw[Bool.eq_iff_iff,List.any_eq_true,Bool.not_eq_true',List.all_eq_false]
 constructor
 ·rintro ⟨d,hd,h⟩
  exact ⟨d,hd,by simp at h;simp;omega⟩
 ·rintro ⟨d,hd,h⟩
  exact ⟨d,hd,by have:=hp.2 d hd;simp at h;simp;omega⟩
theorem soon_law {l:Lo}(h1:1≤l.days)(h4:l.days≤4):soonS l (everyP l)=match allR l with|none=>-1|some n=>n:=by
 have hI:SoonI ((everyP l).filter (right l)) (soonS l (everyP l)):=by
  have:=yml ((everyP l).filter (right l)) [] (-1) (.inl ⟨rfl,by simp⟩)
  rw[List.nil_append] at this
  exact this
 generalize soonS l (everyP l)=s at hI ⊢
 have hne:rights l≠[]:=fun h=>by have:=stay_right l;rw[h] at this;cases this
 obtain ⟨A,p,B,e,hm,ha,hb⟩:=mostL_none (soon l) hne
 have hmax:∀ q∈rights l,soon l q≤soon l p:=fun q hq=>by
  rw[e] at hq
  rcases List.mem_append.1 hq with hq|hq
  ·exact Int.le_of_lt (ha q hq)
  ·rcases List.mem_cons.1 hq with rfl|hq
   ·exact Int.le_refl _
   ·exact hb q hq
 have hpm:p∈rights l:=by rw[e];simp
 have hsoon:∀ q∈rights l,soon l q=if goB q=true then l.days - lastP q else -1:=fun q hq=>by
  have hq1:=(rights_plan hq).1
  unfold soon
  rw[go_any hq1]
  have h0:0≤q.foldl max 0:=(yme q 0).1
  cases goB q
  ·rfl
  ·show l.days - max 0 (q.foldl max 0)=l.days - lastP q
   unfold lastP
   omega
 have hlast:∀ q∈rights l,lastP q<l.days:=fun q hq=>by
  have hq1:=(rights_plan hq).1
  unfold isPlan at hq1
  simp only[Bool.and_eq_true,decide_eq_true_eq,List.all_eq_true,Bool.or_eq_true,isDay] at hq1
  exact (yme q 0).2 _ (by omega) fun d hd=>by have:=hq1.2 d hd;omega
 have hall:allR l=if 0≤soon l p then some (l.days - soon l p) else none:=by
  unfold allR
  rw[hm];rfl
 rw[hall,hsoon p hpm]
 rcases hI with ⟨rfl,hno⟩|⟨q,hq,hgq,rfl,hmin⟩
 ·rw[hno p ((ymd (by omega) h4).2 hpm)]
  rfl
 ·have hq':=(ymd (by omega) h4).1 hq
  have hpq:=hmax q hq'
  rw[hsoon q hq',if_pos hgq,hsoon p hpm] at hpq
  have hl1:=hlast q hq'
  cases hgp:goB p with
  |false=>rw[hgp] at hpq;simp at hpq;omega
  |true=>
   have hl2:=hlast p hpm
   have h3:=hmin p ((ymd (by omega) h4).2 hpm) hgp
   rw[hgp,if_pos rfl] at hpq
   rw[if_pos rfl,if_pos (by omega)]
   show lastP q=l.days - (l.days - lastP p)
   omega
theorem all_nn {l:Lo}(h1:1≤l.days){n:Int}(h:allR l=some n):0≤n:=by
 have hne:rights l≠[]:=fun h=>by have:=stay_right l;rw[h] at this;cases this
 obtain ⟨A,p,B,e,hm,ha,hb⟩:=mostL_none (soon l) hne
 have hall:allR l=if 0≤soon l p then some (l.days - soon l p) else none:=by
  unfold allR
  rw[hm];rfl
 have hs:soon l p≤l.days:=by
  unfold soon
  split<;>omega
 rw[hall] at h
 split at h
 ·cases h;omega
 ·cases h
theorem never_law {l:Lo}(h0:0≤l.days)(h4:l.days≤4):neverR l=andn (2 ^ l.carts.length - 1) (canS l (everyP l)):=by
 unfold neverR canS goneS
 rw[← Clm.setOf_true]
 refine Nat.eq_of_testBit_eq fun i=>?_
 rw[zff,Clm.setOf_bit,Clm.setOf_bit,Clm.setOf_bit,ymg h0 h4]
 simp only[Bool.true_and]
 cases decide (i<l.carts.length)<;>simp
theorem with_law {l:Lo}(h0:0≤l.days)(h4:l.days≤4)(c:Nat):withR l c=andn (withS l c (everyP l)) (2 ^ c):=by
 unfold withR withS goneS
 rw[Clm.setOf_andn]
 refine Clm.setOf_congr fun i _=>?_
 rw[ymg h0 h4,Bool.and_comm]
 rfl
theorem can_bit {l:Lo}(h0:0≤l.days)(h4:l.days≤4){c:Nat}(hc:c<l.carts.length):(canS l (everyP l)).testBit c=(rights l).any fun p=>goesB p c:=by
 unfold canS goneS
 rw[Clm.setOf_bit,ymg h0 h4,decide_eq_true hc]
 simp only[Bool.true_and]
theorem ymm:∀ M:List (Int × Int),Less [] M
 |[]=>.nil
 |x::M=>.drop x (ymm M)
theorem alone_iff {l:Lo}(hv:Vl l)(h1:1≤l.days)(h4:l.days≤4){c:Nat}(hc:c<l.carts.length):(aloneR l c).isSome=(rights l).any fun p=>goesB p c:=by
 unfold aloneR
 rw[Bool.eq_iff_iff,List.find?_isSome,List.any_eq_true]
 constructor
 ·rintro ⟨d,hd,hr⟩
  rw[List.mem_range] at hd
  refine ⟨only l c d,?_,?_⟩
  ·refine ykz h4 ?_ hr
   unfold isPlan
   simp only[Bool.and_eq_true,decide_eq_true_eq,List.all_eq_true]
   refine ⟨only_len l c d,fun x hx=>?_⟩
   obtain ⟨j,hj⟩:=List.mem_iff_getElem?.1 hx
   have hjl:=(List.getElem?_eq_some_iff.1 hj).1
   rw[only_len] at hjl
   have hg:=ybq l (i:=c) hjl (d:Int)
   rw[List.getD_eq_getElem?_getD,hj,Option.getD_some] at hg
   unfold isDay
   rw[Bool.or_eq_true,decide_eq_true_eq,decide_eq_true_eq]
   rw[hg]
   split<;>omega
  ·unfold goesB
   rw[ybq l hc,if_pos rfl]
   simp
 ·rintro ⟨p,hp,hg⟩
  obtain ⟨hp1,hp2⟩:=rights_plan hp
  unfold isPlan at hp1
  simp only[Bool.and_eq_true,decide_eq_true_eq,List.all_eq_true,Bool.or_eq_true,isDay] at hp1
  have hcl:c<p.length:=by omega
  have hd:=hp1.2 (p.getD c 0) (by rw[List.getD_eq_getElem?_getD,List.getElem?_eq_getElem hcl];exact List.getElem_mem _)
  unfold goesB at hg
  have hne:¬ p.getD c 0=-1:=by simpa using hg
  obtain ⟨A,B,ho⟩:=ykq hcl (by omega) (by omega)
  obtain ⟨h2,h3⟩:=(ydf hv hp1.1).1 hp2 A c B ho
  have hat:=yjl hv.carts hp1.1 ho
  have hs:=(yfp _ _).1 (yky hv.fine (ymm _) hat.srt (gon_nn hv hp1.1 hat.mem) (Int.le_refl _) h3)
  refine ⟨(p.getD c 0).toNat,by rw[List.mem_range];omega,?_⟩
  rw[show (((p.getD c 0).toNat:Nat):Int)=p.getD c 0 by omega]
  exact (yet hv hc (by omega) (by omega)).2 ⟨h2,hs⟩
theorem alone_lt {l:Lo}{c d:Nat}(h:aloneR l c=some d):(d:Int)<l.days:=by
 unfold aloneR at h
 have:=List.mem_of_find?_eq_some h
 rw[List.mem_range] at this
 omega
def setP (n:Nat)(p:List Int):Nat:=Clm.setOf (goesB p) n
def setI (n:Nat)(p:List Int)(k:Nat):Nat:=goneI n (fun _=>true) [] p k
theorem setI_zero (n:Nat)(p:List Int):setI n p 0=0:=by
 unfold setI
 rw[goneI_zero]
 exact Clm.setOf_false n
theorem setI_end (n:Nat)(p:List Int):setI n p n=setP n p:=by
 unfold setI goneI setP
 refine Clm.setOf_congr fun u hu=>?_
 simp[hu]
theorem setI_lt (n:Nat)(p:List Int)(k:Nat):setI n p k<2 ^ n:=Clm.setOf_lt _ _
theorem setP_lt (n:Nat)(p:List Int):setP n p<2 ^ n:=Clm.setOf_lt _ _
theorem ymp (n:Nat)(is:List Int→Bool)(d:List (List Int)){p:List Int}(h:is p=true):goneS n is (d++[p])=goneS n is d ||| setP n p:=by
 unfold goneS setP
 refine Nat.eq_of_testBit_eq fun i=>?_
 rw[Nat.testBit_or,Clm.setOf_bit,Clm.setOf_bit,Clm.setOf_bit,List.any_append]
 cases decide (i<n)<;>simp[h]
theorem ymf {l:Lo}{p:List Int}(d:List (List Int))(h:right l p=true):(d++[p]).filter (right l)=d.filter (right l)++[p]:=by simp[List.filter_append,h]
theorem seen_wrong {l:Lo}{p:List Int}(d:List (List Int))(h:right l p=false):(d++[p]).filter (right l)=d.filter (right l):=by simp[List.filter_append,h]
theorem can_snoc {l:Lo}{p:List Int}(d:List (List Int))(h:right l p=true):canS l (d++[p])=canS l d ||| setP l.carts.length p:=by
 unfold canS
 rw[ymf d h,ymp _ (fun _=>true) _ rfl]
theorem with_snoc {l:Lo}{p:List Int}(c:Nat)(d:List (List Int))(h:right l p=true):withS l c (d++[p])=if goesB p c=true then withS l c d ||| setP l.carts.length p else withS l c d:=by
 unfold withS
 rw[ymf d h]
 split
 ·rename_i hg
  rw[ymp _ (fun p=>goesB p c) _ hg]
 ·rename_i hg
  rw[goneS_no _ (fun p=>goesB p c) _ (by simpa using hg)]
theorem soon_snoc {l:Lo}{p:List Int}(d:List (List Int))(h:right l p=true):soonS l (d++[p])=soonF (soonS l d) p:=by
 unfold soonS
 rw[ymf d h,List.foldl_append];rfl
def lastI (p:List Int)(k:Nat):Int:=(p.take k).foldl max 0
theorem lastI_zero (p:List Int):lastI p 0=0:=rfl
theorem lastI_succ (p:List Int){k:Nat}(h:k<p.length):lastI p (k+1)=max (lastI p k) (p.getD k 0):=by
 unfold lastI
 rw[List.take_add_one,List.foldl_append,List.getElem?_eq_getElem h,List.getD_eq_getElem?_getD,List.getElem?_eq_getElem h];rfl
theorem lastI_end (p:List Int){n:Nat}(h:p.length=n):lastI p n=lastP p:=by
 unfold lastI lastP
 rw[List.take_of_length_le (by omega)]
theorem lastI_nn (p:List Int)(k:Nat):0≤lastI p k:=(yme _ _).1
theorem setP_full {l:Lo}{p:List Int}(hp:isPlan l p=true):setP l.carts.length p=2 ^ l.carts.length - 1↔goB p=true:=by
 unfold isPlan at hp
 simp only[Bool.and_eq_true,decide_eq_true_eq,List.all_eq_true,Bool.or_eq_true,isDay] at hp
 unfold setP goB
 rw[← Clm.setOf_true,List.all_eq_true]
 constructor
 ·intro h x hx
  obtain ⟨i,hi⟩:=List.mem_iff_getElem?.1 hx
  have hil:=(List.getElem?_eq_some_iff.1 hi).1
  have hb:=congrArg (fun s=>s.testBit i) h
  simp only[Clm.setOf_bit,goesB] at hb
  rw[decide_eq_true (show i<l.carts.length by omega),List.getD_eq_getElem?_getD,hi] at hb
  have:=hp.2 x hx
  simp at hb ⊢
  omega
 ·intro h
  refine Clm.setOf_congr fun i hi=>?_
  unfold goesB
  have hil:i<p.length:=by omega
  have hm:p[i]∈p:=List.getElem_mem hil
  have:=h _ hm
  rw[List.getD_eq_getElem?_getD,List.getElem?_eq_getElem hil]
  simp at this ⊢
  omega
theorem plan_get {l:Lo}{p:List Int}(hp:isPlan l p=true){i:Nat}(hi:i<l.carts.length):p.length=l.carts.length∧-1≤p.getD i 0∧(p.getD i 0<l.days∨p.getD i 0=-1):=by
 unfold isPlan at hp
 simp only[Bool.and_eq_true,decide_eq_true_eq,List.all_eq_true,Bool.or_eq_true,isDay] at hp
 have hil:i<p.length:=by omega
 have:=hp.2 _ (List.getElem_mem hil)
 rw[List.getD_eq_getElem?_getD,List.getElem?_eq_getElem hil]
 simp only[Option.getD_some]
 omega
end Ld
namespace Ev
namespace Ro
open K
attribute [local simp] ev1 wantG spineK spine float xnew xval xeff zab zae zau zah zai addFl cellsOf pickC alive slLen slFt binI maxA maxK minA minK aeqK aeqS AV.cells spA zad fillA setAt bitsI nat_nn zav AV.plain apart
set_option maxRecDepth 100000
set_option maxHeartbeats 4000000
structure AlH (l:Ld.Lo) (c:Nat) (X W:Nat) (S:Int) (G:List AB):Prop where
 lv:HB G 0 (.cells (loadCs l))
 n:HB G 1 (.cells [.int .i64 l.carts.length])
 s:HB G 2 (.cells [.int .i64 S])
 x:HB G 3 (.cells [.int .i64 X])
 w:HB G 4 (.cells [.int .i64 W])
 c:HB G 5 (.cells [.int .i64 c])
theorem AlH.s' {l:Ld.Lo}{c X W:Nat}{S:Int}{G:List AB}(h:AlH l c X W S G)(S':Int):AlH l c X W S' (G.set 2 (.cells [.int .i64 S'])):=⟨h.lv.set _ (by decide),h.n.set _ (by decide),h.s.here _,h.x.set _ (by decide),h.w.set _ (by decide),h.c.set _ (by decide)⟩
theorem AlH.x' {l:Ld.Lo}{c X W:Nat}{S:Int}{G:List AB}(h:AlH l c X W S G)(X':Nat):AlH l c X' W S (G.set 3 (.cells [.int .i64 X'])):=⟨h.lv.set _ (by decide),h.n.set _ (by decide),h.s.set _ (by decide),h.x.here _,h.w.set _ (by decide),h.c.set _ (by decide)⟩
theorem AlH.w' {l:Ld.Lo}{c X W:Nat}{S:Int}{G:List AB}(h:AlH l c X W S G)(W':Nat):AlH l c X W' S (G.set 4 (.cells [.int .i64 W'])):=⟨h.lv.set _ (by decide),h.n.set _ (by decide),h.s.set _ (by decide),h.x.set _ (by decide),h.w.here _,h.c.set _ (by decide)⟩
def AlS (l:Ld.Lo)(c:Nat)(d:List (List Int))(G:List AB):Prop:=AlH l c (Ld.canS l d) (Ld.withS l c d) (Ld.soonS l d) G
def PlA (G:List AB)(p:List Int)(v:AV):Prop:=(v=.nils∧p=[])∨∃ b,v=.sl b 0 p.length 1∧6≤b∧G[b]?=some (.cells (ints p))
def EachOf (call:CallF)(l:Ld.Lo)(c:Nat):Prop:=∀ (G:List AB) (d:List (List Int)) (p:List Int) (pv:AV),AlS l c d G→PlA G p pv→Ld.isPlan l p=true →
 ∃ G' tc,call (.fn (.func 42) [] [.ptr 0 0,.ptr 3 0,.ptr 1 0,.ptr 5 0,.ptr 4 0,.ptr 2 0]) [pv] G=some (.ret (.tup []),G',tc)∧AlS l c (d++[p]) G'∧Kp tc G G'∧G'.length=G.length∧∀ j∈tc,j=2∨j=3∨j=4
theorem ymw (C:Cfg)(call:CallF)(l:Ld.Lo)(c:Nat)(hc4:l.carts.length≤4)(hcn:c<l.carts.length∨l.carts.length=0∧c=0)(X W P:Nat)(S la:Int)(gb:Bool)(hgb:P=2 ^ l.carts.length - 1↔gb=true)(hX:X<2 ^ l.carts.length)(hW:W<2 ^ l.carts.length)(hP:P<2 ^ l.carts.length)(G:List AB)(h:AlH l c X W S G)
  (L:List (Nat × AV)) (L2:lk 63 L 2=.ptr 3 0) (L3:lk 63 L 3=.ptr 1 0) (L4:lk 63 L 4=.ptr 5 0) (L5:lk 63 L 5=.ptr 4 0) (L6:lk 63 L 6=.ptr 2 0) (L8:lk 63 L 8=.int .i64 P) (L9:lk 63 L 9=.int .i64 la):
  Does (ev C call G.length none (atP [1,1,1] af42.body) { tm:=tmA 63 L,df:=[],hp:=G,tc:=[] })
   (Ends C G.length af42.res fun v hp tc=>v=.tup []∧AlH l c (X ||| P) (if 0<l.carts.length∧P.testBit c=true then W ||| P else W) (if (gb&&(decide (S<0) || decide (la<S)))=true then la else S) hp∧hp.length=G.length∧(∀ j∈tc,j=2∨j=3∨j=4)∧(tc=[]→hp=G)):=by
 have m2:val C (tmA 63 L) (.tmp 2)=.ptr 3 0:=L2
 have m3:val C (tmA 63 L) (.tmp 3)=.ptr 1 0:=L3
 have m4:val C (tmA 63 L) (.tmp 4)=.ptr 5 0:=L4
 have m5:val C (tmA 63 L) (.tmp 5)=.ptr 4 0:=L5
 have m6:val C (tmA 63 L) (.tmp 6)=.ptr 2 0:=L6
 have m8:val C (tmA 63 L) (.tmp 8)=.int .i64 P:=L8
 have m9:val C (tmA 63 L) (.tmp 9)=.int .i64 la:=L9
 have hpw:2 ^ l.carts.length≤2 ^ 4:=Nat.pow_le_pow_right (by decide) hc4
 have hpw0:1≤2 ^ l.carts.length:=Nat.one_le_two_pow
 have o1:=or_i64 (a:=X) (b:=P) (by omega) (by omega)
 have o2:=or_i64 (a:=W) (b:=P) (by omega) (by omega)
 have o3:=bit_i64 (n:=P) (d:=c) (by omega)
 obtain ⟨s1,s2,s3⟩:=zlo (d:=l.carts.length) (by omega)
 have hsub:IntKind.i64.wrap (((2 ^ l.carts.length:Nat):Int) - 1)=((2 ^ l.carts.length - 1:Nat):Int):=by
  rw[show (((2 ^ l.carts.length:Nat):Int) - 1)=((2 ^ l.carts.length - 1:Nat):Int) by omega]
  exact zaf (by omega) (by omega)
 have HX:=hideP h
 obtain ⟨_,⟨b1,b2,b3⟩,⟨c1,c2,c3⟩,⟨d1,d2,d3⟩,⟨e1,e2,e3⟩,⟨f1,f2,f3⟩⟩:=h
 generalize hcl:l.carts.length=n at *
 generalize hb:P.testBit c=tb at *
 clear hb
 have hfull:((P:Nat):Int)=((2 ^ n - 1:Nat):Int)↔gb=true:=by rw[← hgb];omega
 clear hgb
 generalize hM:((2 ^ n - 1:Nat):Int)=M at *
 generalize hPI:((P:Nat):Int)=PI at *
 generalize hQI:((2 ^ n:Nat):Int)=QI at *
 clear hM hQI hpw hpw0 hX hW hP hPI L2 L3 L4 L5 L6 L8 L9
 generalize hXP:((X ||| P:Nat):Int)=XP at *
 generalize hWP:((W ||| P:Nat):Int)=WP at *
 generalize hXI:((X:Nat):Int)=XI at *
 generalize hWI:((W:Nat):Int)=WI at *
 have HY:=hideP (And.intro hXP (And.intro hWP (And.intro hXI hWI)))
 clear hXP hWP hXI hWI
 have hcase:(0<n∧tb=true)∨(0<n∧tb=false)∨n=0:=by
  rcases Nat.eq_zero_or_pos n with h|h
  ·exact .inr (.inr h)
  ·cases tb
   ·exact .inr (.inl ⟨h,rfl⟩)
   ·exact .inl ⟨h,rfl⟩
 unfold af42 Zq Zu Zm Zl Zo Zs Zh Zk Zc Za Zb Zg Zj Zt Zn Zy Zw
 simp only[atP] at *
 simp at o1 o2
 rcases hcase with ⟨hn,rfl⟩|⟨hn,rfl⟩|hn
 case' inl=>
  rw[if_pos rfl] at o3
  simp at o3
  have hn2:(0:Int)<(n:Int):=by omega
  rw[if_pos ⟨hn,rfl⟩]
 case' inr.inl=>
  rw[if_neg (by simp)] at o3
  simp at o3
  have hn2:(0:Int)<(n:Int):=by omega
  rw[if_neg (by simp)]
 case' inr.inr=>
  clear o3
  have hn2:¬ ((0:Int)<(n:Int)):=by omega
  rw[if_neg (by omega)]
 all_goals
  have hnI:((n:Int)<0)=False:=eq_false (by omega)
  generalize ((n:Nat):Int)=nI at *
  clear hn s3 hcn
 all_goals
  cases gb
  case' false=>
   have hPM:¬ (PI=M):=fun h=>by simpa using hfull.1 h
   have hPM2:(PI==M)=false:=beq_false_of_ne hPM
   rw[Bool.false_and,if_neg (by simp)]
   clear hfull
  case' true=>
   have hPM:PI=M:=hfull.2 rfl
   clear hfull
   subst hPM
   rw[Bool.true_and]
   by_cases hS:S<0
   case' pos=>rw[if_pos (by simp[hS])]
   case' neg=>
    by_cases hl:la<S
    case' pos=>rw[if_pos (by simp[hl])]
    case' neg=>rw[if_neg (by simp[hS,hl])]
 all_goals
  refine gB ?_
  obtain ⟨rfl,rfl,_,_⟩:=HY.out
  refine zac (v:=.tup []) (.inr rfl) rfl (by simp) (by simp only[resL];simp[*,resV]) ⟨rfl,?_,by simp,by simp,by simp⟩
  first
   |exact HX.out.x' _
   |exact (HX.out.x' _).w' _
   |exact (HX.out.x' _).s' _
   |exact ((HX.out.x' _).w' _).s' _
theorem yna (C:Cfg)(hC:C.calm=true)(call:CallF)(hR:LawRightC call)(l:Ld.Lo)(hval:Ld.valid l=true)(hroad:l.road.parts.length≤40)(c:Nat)(hcn:c<l.carts.length∨l.carts.length=0∧c=0)(G:List AB)(d:List (List Int))(p:List Int)(pv:AV)(hS:AlS l c d G)(hpv:PlA G p pv)(hp:Ld.isPlan l p=true):
  Wb C call G af42 [pv,.ptr 0 0,.ptr 3 0,.ptr 1 0,.ptr 5 0,.ptr 4 0,.ptr 2 0]
   (fun v hp tc=>v=.tup []∧AlS l c (d++[p]) hp∧hp.length=G.length∧(∀ j∈tc,j=2∨j=3∨j=4)∧(tc=[]→hp=G)):=by
 obtain ⟨hvl,hd,hc4,hcs⟩:=Ld.vl_of hval
 have hml:p.length=l.carts.length:=by
  unfold Ld.isPlan at hp
  simp only[Bool.and_eq_true,decide_eq_true_eq] at hp
  exact hp.1
 have hlat:=ldAt_r G l hroad (by have:=hvl.ev;omega) (by omega)
 have r1:=hR hlat (ylm (hpv.imp id fun ⟨b,h1,_,h2⟩=>⟨b,h1,h2⟩) (by omega))
 rw[hval,hp] at r1
 simp only[Bool.true_and] at r1
 have hAl:AlH l c (Ld.canS l d) (Ld.withS l c d) (Ld.soonS l d) G:=hS
 obtain ⟨⟨a1,a2,a3⟩,⟨b1,b2,b3⟩,⟨c1,c2,c3⟩,⟨d1,d2,d3⟩,⟨e1,e2,e3⟩,⟨f1,f2,f3⟩⟩:=hAl
 simp only[loadCs] at a1 r1
 cases hr:Ld.right l p with
 |false=>
  rw[hr] at r1
  have hS2:AlS l c (d++[p]) G:=by
   unfold AlS Ld.canS Ld.withS Ld.soonS at *
   rw[Ld.seen_wrong d hr]
   exact hS
  have HX:=hideP hS2
  have hvis:pv=.nils∨∃ b,pv=.sl b 0 p.length 1:=hpv.imp (·.1) fun ⟨b,h,_⟩=>⟨b,h⟩
  clear hS hS2 hR hpv hp hvl hd hc4 hcs hlat hcn hml hval hr
  unfold Wb Wa af42 Zq Zu Zm Zl Zo Zs Zh Zk Zc Za Zb Zg Zj Zt Zn Zy Zw
  simp only[zipI] at *
  rcases hvis with rfl|⟨b,rfl⟩
  all_goals
   refine gB ?_
   exact zac (v:=.tup []) (.inl rfl) rfl (by simp) (by simp only[resL];simp[*,resV]) ⟨rfl,HX.out,rfl,by simp,fun _=>rfl⟩
 |true=>
 rw[hr] at r1
 have hX:Ld.canS l d<2 ^ l.carts.length:=Clm.setOf_lt _ _
 have hW:Ld.withS l c d<2 ^ l.carts.length:=Clm.setOf_lt _ _
 have hP:=Ld.setP_lt l.carts.length p
 have htail:=ymw C call l c hc4 hcn _ _ (Ld.setP l.carts.length p) _ (Ld.lastP p) (Ld.goB p) (Ld.setP_full hp) hX hW hP G hS
 have q1:=Ld.can_snoc d hr
 have q2:Ld.withS l c (d++[p])=if 0<l.carts.length∧(Ld.setP l.carts.length p).testBit c=true then Ld.withS l c d ||| Ld.setP l.carts.length p else Ld.withS l c d:=by
  rw[Ld.with_snoc c d hr]
  rcases hcn with h|⟨h,rfl⟩
  ·have hb:(Ld.setP l.carts.length p).testBit c=Ld.goesB p c:=by
    unfold Ld.setP
    rw[Clm.setOf_bit,decide_eq_true h,Bool.true_and]
   rw[hb]
   by_cases hg:Ld.goesB p c=true
   ·rw[if_pos hg,if_pos ⟨by omega,hg⟩]
   ·rw[if_neg hg,if_neg fun h=>hg h.2]
  ·rw[h] at hP ⊢
   rw[show Ld.setP 0 p=0 by simpa using hP]
   simp
 have q3:Ld.soonS l (d++[p])=if (Ld.goB p&&(decide (Ld.soonS l d<0) || decide (Ld.lastP p<Ld.soonS l d)))=true then Ld.lastP p else Ld.soonS l d:=Ld.soon_snoc d hr
 rw[← q1,← q2,← q3] at htail
 have hfin:∀ L:List (Nat × AV),lk 63 L 2=.ptr 3 0→lk 63 L 3=.ptr 1 0→lk 63 L 4=.ptr 5 0→lk 63 L 5=.ptr 4 0→lk 63 L 6=.ptr 2 0→lk 63 L 8=.int .i64 (Ld.setP l.carts.length p:Nat)→lk 63 L 9=.int .i64 (Ld.lastP p)→Does (ev C call G.length none (atP [1,1,1] af42.body) { tm:=tmA 63 L,df:=[],hp:=G,tc:=[] })
   (Ends C G.length af42.res fun v hp tc=>v=.tup []∧AlS l c (d++[p]) hp∧hp.length=G.length∧(∀ j∈tc,j=2∨j=3∨j=4)∧(tc=[]→hp=G)):=htail
 unfold af42 Zq Zu Zm Zl Zo Zs Zh Zk Zc Za Zb Zg Zj Zt Zn Zy Zw at hfin
 simp only[atP] at hfin
 have HE:=hideP hfin
 have hpg:=fun i (hi:i<l.carts.length)=>Ld.plan_get hp hi
 have hgoI:∀ j,j<l.carts.length→Ld.setI l.carts.length p (j+1)=if 0≤p.getD j 0 then Ld.setI l.carts.length p j ||| 2 ^ j else Ld.setI l.carts.length p j:=fun j hj=>by
  unfold Ld.setI
  rw[Ld.goneI_succ _ _ _ hj]
  unfold Ld.goesB
  have:=(hpg j hj).2.1
  by_cases h:p.getD j 0=-1
  ·rw[h];rfl
  ·rw[if_pos (by simpa using h),if_pos (by omega)]
 have HQ:=hideP (And.intro hgoI (And.intro (Ld.setI_zero l.carts.length p) (And.intro (Ld.setI_end l.carts.length p) (And.intro (Ld.lastI_end p hml) (And.intro (fun j (h:j<l.carts.length)=>Ld.lastI_succ p (k:=j) (by omega)) hpg)))))
 have hlI:=Ld.lastI_zero p
 have hsI:=Ld.setI_zero l.carts.length p
 rcases hpv with ⟨rfl,h0⟩|⟨b,rfl,hb6,hbq⟩
 ·have hn0:l.carts.length=0:=by rw[← hml,h0];rfl
  clear hS hR hp hvl hd hc4 hcs hlat hcn hml hval hr hX hW hP htail q1 q2 q3 hfin hpg hgoI h0
  unfold Wb Wa af42 Zq Zu Zm Zl Zo Zs Zh Zk Zc Za Zb Zg Zj Zt Zn Zy Zw
  simp only[zipI] at *
  refine gB ?_
  with_reducible refine zan hC 0 (by unfold fuelL;omega) (fun _ st=>st={ tm:=tmA 63 [(18,.int .i64 0),(17,.int .i64 0),(16,.nils),(9,.int .i64 0),(8,.int .i64 0),(6,.ptr 2 0),(5,.ptr 4 0),(4,.ptr 5 0),(3,.ptr 1 0),(2,.ptr 3 0)],df:=[],hp:=G,tc:=[] }) ?_ ?_ ?_
  ·refine st_is ?_ rfl rfl rfl
   simp[zag,zal]
  ·exact fun _ _ h=>absurd h (Nat.not_lt_zero _)
  ·rintro st rfl
   obtain ⟨_,k1,k2,k3,_,_⟩:=HQ.out
   rw[hn0] at k1 k2 k3
   have k4:(Ld.setP 0 p:Nat)=0:=by rw[← k2,k1]
   have k5:Ld.lastP p=0:=by rw[← k3];rfl
   rw[hn0] at HE
   rw[k4,k5] at HE
   clear hn0 k1 k2 k3 k4 k5 HQ
   (repeat (first|(with_reducible refine HE.out _ ?_ ?_ ?_ ?_ ?_ ?_ ?_<;>simp[zal])|((with_reducible apply zak);(focus ((with_reducible apply zba);(focus rfl);(focus rfl);(focus ((conv=>lhs;simp[*,List.getElem?_append_right,List.set_append_right,List.getElem?_cons_zero,List.getElem?_append_left,List.set_append_left,-getElem?_pos,Nat.testBit_eq_decide_div_mod_eq])<;>exact rfl));(focus rfl);(focus rfl)));simp only[addFl])|(with_reducible apply zak;(focus ((conv=>lhs;simp[*,List.getElem?_append_right,List.set_append_right,List.getElem?_cons_zero,List.getElem?_append_left,List.set_append_left,-getElem?_pos,Nat.testBit_eq_decide_div_mod_eq])<;>exact rfl));simp only[addFl])|((with_reducible first|apply zaw|apply zay|apply zas|apply zaq|apply zao|apply zax|apply zar|apply zaz|(apply zap;· simp[*,zab])|(apply zam;· simp[*,zab]));try simp only[Then,Ops,OutB,reduceIte])|simp only[Nat.reduceEqDiff,reduceIte,OutB,Then]))
 ·have hil:(ints p).length=l.carts.length:=by simp[ints,hml]
  obtain ⟨z0,z1,z2,z3,z4,z5⟩:=bk' hbq
  have hxi:∀ j,j<l.carts.length→(ints p)[j]?=some (.int .i64 (p.getD j 0)):=fun j hj=>by
   unfold ints
   rw[List.getElem?_map,List.getD_eq_getElem?_getD,List.getElem?_eq_getElem (show j<p.length by omega)];rfl
  have HZ:=hideP (And.intro hxi (And.intro hc4 (And.intro hd (fun j=>Ld.setI_lt l.carts.length p j))))
  rw[hml] at *
  clear hS hR hp hvl hd hcs hlat hcn hml hval hr hX hW hP htail q1 q2 q3 hfin hpg hgoI hbq hxi
  unfold Wb Wa af42 Zq Zu Zm Zl Zo Zs Zh Zk Zc Za Zb Zg Zj Zt Zn Zy Zw
  simp only[zipI] at *
  refine gB ?_
  with_reducible refine zan hC l.carts.length (by unfold fuelL;omega) (fun j st=>st={ tm:=tmA 63 [(18,.int .i64 j),(17,.int .i64 l.carts.length),(16,.sl b 0 l.carts.length 1),(9,.int .i64 (Ld.lastI p j)),(8,.int .i64 (Ld.setI l.carts.length p j:Nat)),(6,.ptr 2 0),(5,.ptr 4 0),(4,.ptr 5 0),(3,.ptr 1 0),(2,.ptr 3 0)],df:=[],hp:=G,tc:=[] }) ?_ ?_ ?_
  ·refine st_is ?_ rfl rfl rfl
   rw[hlI,hsI]
   simp[zag,zal]
  ·rintro j st hj rfl
   obtain ⟨hgo,_,_,_,hls,hpg⟩:=HQ.out
   obtain ⟨hxi,_,hd,hlt⟩:=HZ.out
   have hx:=hxi j hj
   have hx':=ge_of hx
   have h1:=hgo j hj
   have h2:=hls j hj
   obtain ⟨_,hx0,hx1⟩:=hpg j hj
   have hA:=hlt j
   have hl0:=Ld.lastI_nn p j
   have hp2:2 ^ l.carts.length≤2 ^ 4:=Nat.pow_le_pow_right (by decide) hc4
   have hpj:2 ^ j≤2 ^ 4:=Nat.pow_le_pow_right (by decide) (by omega)
   have hjl:(j:Int)<l.carts.length:=by omega
   have hwj:IntKind.i64.wrap ((j:Int)+1)=(j:Int)+1:=zaf (by omega) (by omega)
   obtain ⟨s1,s2,s3⟩:=zlo (d:=j) (by omega)
   have o1:=or_i64 (a:=Ld.setI l.carts.length p j) (b:=2 ^ j) (by omega) (by omega)
   generalize p.getD j 0=x at *
   rw[h1,h2]
   clear h1 h2 hgo hls hpg hxi hlt hlI hsI HQ HZ HE hd
   generalize Ld.setI l.carts.length p j=A at *
   generalize 2 ^ j=Q at s1 s2 s3 o1 hpj ⊢
   simp at o1
   clear hA hpj hp2
   by_cases h0:0≤x
   ·rw[if_pos h0]
    refine gB ?_
    refine st_is ?_ rfl rfl rfl
    simp[zag,zal]
   ·rw[if_neg h0,show max (Ld.lastI p j) x=Ld.lastI p j by omega]
    refine gB ?_
    refine st_is ?_ rfl rfl rfl
    simp[zag,zal]
  ·rintro st rfl
   obtain ⟨_,k1,k2,k3,_,_⟩:=HQ.out
   rw[k2,k3]
   clear k1 k2 k3 HQ hlI hsI
   (repeat (first|(with_reducible refine HE.out _ ?_ ?_ ?_ ?_ ?_ ?_ ?_<;>simp[zal])|((with_reducible apply zak);(focus ((with_reducible apply zba);(focus rfl);(focus rfl);(focus ((conv=>lhs;simp[*,List.getElem?_append_right,List.set_append_right,List.getElem?_cons_zero,List.getElem?_append_left,List.set_append_left,-getElem?_pos,Nat.testBit_eq_decide_div_mod_eq])<;>exact rfl));(focus rfl);(focus rfl)));simp only[addFl])|(with_reducible apply zak;(focus ((conv=>lhs;simp[*,List.getElem?_append_right,List.set_append_right,List.getElem?_cons_zero,List.getElem?_append_left,List.set_append_left,-getElem?_pos,Nat.testBit_eq_decide_div_mod_eq])<;>exact rfl));simp only[addFl])|((with_reducible first|apply zaw|apply zay|apply zas|apply zaq|apply zao|apply zax|apply zar|apply zaz|(apply zap;· simp[*,zab])|(apply zam;· simp[*,zab]));try simp only[Then,Ops,OutB,reduceIte])|simp only[Nat.reduceEqDiff,reduceIte,OutB,Then]))
end Ro
end Ev
namespace Ld
theorem ymn (l:Lo):(daysAll l).length=l.days.toNat+1:=by simp[daysAll]
theorem ynb (l:Lo){i:Nat}(h:i<l.days.toNat+1):(daysAll l)[i]?=some ((i:Int) - 1):=by
 unfold daysAll
 rw[List.getElem?_map,List.getElem?_range h];rfl
def extI (l:Lo)(k:Nat)(p:List Int)(i:Nat):List (List Int):=((daysAll l).take i).flatMap fun d=>extL (daysAll l) k (p++[d])
theorem extI_zero (l:Lo)(k:Nat)(p:List Int):extI l k p 0=[]:=rfl
theorem extI_succ {l:Lo}(k:Nat)(p:List Int){i:Nat}(h:i<l.days.toNat+1):extI l k p (i+1)=extI l k p i++extL (daysAll l) k (p++[(i:Int) - 1]):=by
 unfold extI
 rw[List.take_add_one,ynb l h]
 simp
theorem extI_end (l:Lo)(k:Nat)(p:List Int):extI l k p (l.days.toNat+1)=extL (daysAll l) (k+1) p:=by
 unfold extI
 rw[List.take_of_length_le (by rw[ymn];omega)];rfl
end Ld
namespace Ev
namespace Ro
open K
attribute [local simp] ev1 wantG spineK spine float xnew xval xeff zab zae zau zah zai addFl cellsOf pickC alive slLen slFt binI maxA maxK minA minK aeqK aeqS AV.cells spA zad fillA setAt bitsI nat_nn zav AV.plain apart
set_option maxRecDepth 100000
set_option maxHeartbeats 4000000
theorem ymx {C:Cfg}{n0:Nat}(hC:C.calm=true)(hwh:∀ f,C.whole f=true)(h0:Has C 42 af42)(hR:LawRightC (Ev.call C n0))(l:Ld.Lo)(hval:Ld.valid l=true)(hroad:l.road.parts.length≤40)(c:Nat)(hcn:c<l.carts.length∨l.carts.length=0∧c=0):EachOf (Ev.call C (n0+1)) l c:=by
 intro G d p pv hS hpv hp
 obtain ⟨v,hp',tc,G',c1,⟨rfl,e1,e2,e3,e4⟩,k1,k2,c3,c4⟩:=zcw (first:=[]) (captured:=[.ptr 0 0,.ptr 3 0,.ptr 1 0,.ptr 5 0,.ptr 4 0,.ptr 2 0]) (args:=[pv]) (H:=G) hC hwh h0 (le' rfl) (yna C hC (Ev.call C n0) hR l hval hroad c hcn G d p pv hS hpv hp)
 by_cases ht:tc=[]
 ·have hG':G'=G:=c4 rfl ht
  have hhp:=e4 ht
  subst hhp
  rw[hG'] at c1 k2
  exact ⟨hp',tc,c1,e1,k2,rfl,e3⟩
 ·have hG':G'=hp':=c3 (.inr ht)
  subst hG'
  exact ⟨G',tc,c1,e1,k2,e2,e3⟩
abbrev all1V:AV:=.fn (.func 42) [] [.ptr 0 0,.ptr 3 0,.ptr 1 0,.ptr 5 0,.ptr 4 0,.ptr 2 0]
abbrev eachV:AV:=.fn (.func 105) [] [.ptr 6 0,.ptr 7 0,.ptr 8 0]
structure EaS (l:Ld.Lo) (c:Nat) (d:List (List Int)) (G:List AB):Prop where
 s:AlS l c d G
 l6:HB G 6 (.cells (loadCs l))
 f7:HB G 7 (.cells [all1V])
 f8:HB G 8 (.cells [eachV])
theorem EaS.kp {l:Ld.Lo}{c:Nat}{d d':List (List Int)}{G G':List AB}(h:EaS l c d G){tc:List Nat}(k:Kp tc G G')(ht:∀ j∈tc,j=2∨j=3∨j=4)(hs:AlS l c d' G'):EaS l c d' G':=
 ⟨hs,hb (k.at h.l6.get fun hh=>by have:=ht _ hh;omega),hb (k.at h.f7.get fun hh=>by have:=ht _ hh;omega),hb (k.at h.f8.get fun hh=>by have:=ht _ hh;omega)⟩
theorem AlS.app {l:Ld.Lo}{c:Nat}{d:List (List Int)}{G:List AB}(h:AlS l c d G)(K:List AB):AlS l c d (G++K):=⟨h.lv.app K,h.n.app K,h.s.app K,h.x.app K,h.w.app K,h.c.app K⟩
theorem EaS.app {l:Ld.Lo}{c:Nat}{d:List (List Int)}{G:List AB}(h:EaS l c d G)(K:List AB):EaS l c d (G++K):=⟨h.s.app K,h.l6.app K,h.f7.app K,h.f8.app K⟩
def PlN (G:List AB)(p:List Int)(v:AV):Prop:=(v=.nils∧p=[])∨∃ b,v=.sl b 0 p.length 1∧9≤b∧G[b]?=some (.cells (ints p))
def EachN (call:CallF)(l:Ld.Lo)(c k:Nat):Prop:=∀ (G:List AB) (d:List (List Int)) (p:List Int) (pv:AV),EaS l c d G→PlN G p pv→p.length+k=l.carts.length→(∀ x∈p,x=-1∨0≤x∧x<l.days) →
 ∃ G' tc,call eachV [pv] G=some (.ret (.tup []),G',tc)∧AlS l c (d++Ld.extL (Ld.daysAll l) k p) G'∧Kp tc G G'∧∀ j∈tc,j=2∨j=3∨j=4
theorem ymv (C:Cfg)(hC:C.calm=true)(call:CallF)(l:Ld.Lo)(hd:1≤l.days∧l.days≤4)(hc4:l.carts.length≤4)(c k:Nat)(h0:k=0→EachOf call l c)(h1:∀ k',k=k'+1→EachN call l c k')(G:List AB)(d:List (List Int))(p:List Int)(pv:AV)(hS:EaS l c d G)(hpv:PlN G p pv)(hk:p.length+k=l.carts.length)(hp:∀ x∈p,x=-1∨0≤x∧x<l.days):
  Wb C call G af105 [pv,.ptr 6 0,.ptr 7 0,.ptr 8 0]
   (fun v hp tc=>v=.tup []∧AlS l c (d++Ld.extL (Ld.daysAll l) k p) hp∧∀ j∈tc,j=2∨j=3∨j=4):=by
 have hml:(l.carts.map cE).length=l.carts.length:=by simp
 cases k with
 |zero=>
  have hpl:Ld.isPlan l p=true:=by
   unfold Ld.isPlan
   simp only[Bool.and_eq_true,decide_eq_true_eq,List.all_eq_true,Bool.or_eq_true,Ld.isDay]
   exact ⟨hk,hp⟩
  obtain ⟨G',tc,r1,r2,r3,r4,r5⟩:=h0 rfl G d p pv hS.s (hpv.imp id fun ⟨b,h1,h2,h3⟩=>⟨b,h1,by omega,h3⟩) hpl
  have HX:=hideP (And.intro r2 (And.intro r3 (And.intro r4 r5)))
  have hvis:pv=.nils∧(l.carts.length:Int)=0∨∃ b,pv=.sl b 0 l.carts.length 1∧Bk G b (.cells (ints p)):=by
   rcases hpv with ⟨h,h0⟩|⟨b,h,_,h3⟩
   ·exact .inl ⟨h,by rw[← hk,h0];rfl⟩
   ·exact .inr ⟨b,by rw[h,show p.length=l.carts.length by omega],bk' h3⟩
  obtain ⟨_,⟨a1,a2,a3⟩,⟨b1,b2,b3⟩,_⟩:=hS
  simp only[loadCs] at a1
  have hne:∀ j,5≤j→j∉tc:=fun j hj hh=>by have:=r5 j hh;omega
  clear h0 h1 hpv hpl hp r2 r3 r4 hk
  unfold Wb Wa af105 Zq Zu Zm Zl Zo Zd Za Zb Zf Zt Zn Zi
  simp only[zipI] at *
  rcases hvis with ⟨rfl,hz⟩|⟨b,rfl,z0,z1,z2,z3,z4,z5⟩
  all_goals
   refine gB ?_
   exact zac (v:=.tup []) (.inl rfl) rfl (by have:=HX.out.2.2.1;simp only;omega) (by simp only[resL];simp[*,resV]) ⟨rfl,HX.out.1,fun j hj=>r5 j (List.mem_filter.1 hj).1⟩
 |succ k=>
  have hE:=h1 k rfl
  have hne:¬ ((p.length:Int)=l.carts.length):=by omega
  have hneb:((p.length:Int)==(l.carts.length:Int))=false:=beq_false_of_ne hne
  have hS0:=hS
  obtain ⟨_,⟨a1,a2,a3⟩,_,⟨c1,c2,c3⟩⟩:=hS
  simp only[loadCs] at a1
  have hpv2:pv=.nils∧p=[]∨∃ b,pv=.sl b 0 p.length 1∧9≤b∧Bk G b (.cells (ints p)):=hpv.imp id fun ⟨b,h,h2,h3⟩=>⟨b,h,h2,bk' h3⟩
  have HX:=hideP (And.intro hE (And.intro hS0 (And.intro hpv (And.intro hk (And.intro hp hd)))))
  have hdn:(l.days.toNat:Int)=l.days:=by omega
  have hd1:=hd.1
  have hd2:=hd.2
  clear h0 h1 hE hS0 hpv hp hd
  generalize hpn:p.length=pn at *
  have HN:=hideP hpn
  clear hpn hk
  unfold Wb Wa af105 Zq Zu Zm Zl Zo Zd Za Zb Zf Zt Zn Zi
  simp only[zipI] at *
  have hpw:∃ pw,pw=pv:=⟨_,rfl⟩
  obtain ⟨pw,hpw⟩:=hpw
  rcases hpv2 with ⟨hs,hz⟩|⟨b,hs,hb9,z0,z1,z2,z3,z4,z5⟩
  case' inl=>
   have hn0:pn=0:=by rw[← HN.out,hz];rfl
   have hneb0:((0:Int)==(l.carts.length:Int))=false:=by rw[hn0] at hneb;simpa using hneb
   clear hn0 hz
  all_goals
   subst hs
   refine gB ?_
   rw[← hpw] at HX ⊢
   clear hpw hne hneb
   try clear hneb0
   with_reducible refine zan hC (l.days.toNat+1) (by unfold fuelL;omega) (fun i st=>∃ (J:List AB) (tcs:List Nat),EaS l c (d++Ld.extI l k p i) J∧Kp [2,3,4] G J∧(∀ j∈tcs,j=2∨j=3∨j=4)∧st={ tm:=tmA 29 [(5,.int .i64 ((i:Int) - 1)),(3,.ptr 8 0),(1,.ptr 6 0),(0,pw)],df:=[],hp:=J,tc:=tcs }) ?_ ?_ ?_
   ·refine ⟨G,[],by rw[Ld.extI_zero,List.append_nil];exact HX.out.2.1,Kp.refl _ _,by simp,st_is ?_ rfl rfl rfl⟩
    simp[zag,zal]
   ·rintro i st hi ⟨J,tcs,hEa,hK,htc,rfl⟩
    obtain ⟨hE,hS0,hpv,hk,hp,hd⟩:=HX.out
    obtain ⟨x,hx⟩:∃ x:Int,(i:Int) - 1=x:=⟨_,rfl⟩
    have hx1:((i+1:Nat):Int) - 1=x+1:=by omega
    have hx2:x<l.days:=by omega
    have hx0:x=-1∨0≤x∧x<l.days:=by omega
    have hwx:IntKind.i64.wrap (x+1)=x+1:=zaf (by omega) (by omega)
    have hxi:=Ld.extI_succ k p hi
    rw[hx] at hxi
    have hpx:∀ y∈p++[x],y=-1∨0≤y∧y<l.days:=fun y hy=>by
     rcases List.mem_append.1 hy with hy|hy
     ·exact hp y hy
     ·rw[List.mem_singleton] at hy;subst hy;exact hx0
    have hplx:(p++[x]).length=pn+1:=by simp[HN.out]
    have hix:ints (p++[x])=ints p++[.int .i64 x]:=by simp[ints]
    have hJ8:=hEa.f8.lt
    rw[hx,hx1]
    obtain ⟨_,⟨u1,u2,u3⟩,_,⟨v1,v2,v3⟩⟩:=id hEa
    simp only[loadCs] at u1
    have hbd:pn+1≤bound:=by unfold bound;omega
    have hbd0:pn≤bound:=by omega
    have hbd1:1≤bound:=by decide
    rcases hpv with ⟨hs,h0⟩|⟨b,hs,hb9,hbq⟩
    ·have hn0:pn=0:=by rw[← HN.out,h0];rfl
     obtain ⟨G',tc',r1,r2,r3,r4⟩:=hE (J++[.dead,.cells [.int .i64 x],.dead,.cells [.int .i64 x]]) _ (p++[x]) (.sl (J.length+3) 0 1 1) (hEa.app _) (.inr ⟨J.length+3,by rw[hplx,hn0],by omega,by rw[hix,h0];simp[ints]⟩) (by rw[hplx];omega) hpx
     have hne:∀ j,5≤j→j∉tc':=fun j hj hh=>by have:=r4 j hh;omega
     have n1:=hne 8 (by omega)
     have n3:=hne J.length (by omega)
     have n4:=hne (J.length+1) (by omega)
     have n5:=hne (J.length+2) (by omega)
     have n6:=hne (J.length+3) (by omega)
     have n7:=hne 6 (by omega)
     have hbn8:¬ (8=J.length):=by omega
     have hbn6:¬ (J.length=6):=by omega
     have hsn:∀ H,slCells 1 H .nils=some []:=fun _=>rfl
     have HR:=hideP (And.intro r2 (And.intro r3 (And.intro r4 (And.intro hK (And.intro htc (And.intro hxi hEa))))))
     rw[hs]
     clear hE hS0 hp hk hd hpx hplx hix hEa hK htc hxi r2 r3 r4 hne hx HX hi hx1 hs HN hx0 h0 hn0
     refine gC ?_
     obtain ⟨r2,r3,r4,hK,htc,hxi,hEa⟩:=HR.out
     have hgl:=hK.len
     refine ⟨G',_,?_,hK.trans ((Kp.app J _).trans (r3.mono fun b _ hb=>by have:=r4 b hb;simp;omega)),?_,st_is (by simp[zag,zal]) rfl rfl rfl⟩
     ·rw[hxi,← List.append_assoc]
      exact (hEa.app _).kp r3 r4 r2
     ·intro j hj
      simp only[List.mem_append,List.mem_filter,List.mem_singleton,decide_eq_true_eq] at hj
      rcases hj with ⟨h,_⟩|⟨h,h'⟩|⟨h,h'⟩|h
      ·exact r4 j h
      ·omega
      ·omega
      ·exact htc j h
    ·rw[HN.out] at hs
     have hbJ:J[b]?=some (.cells (ints p)):=hK.at hbq (by simp;omega)
     obtain ⟨G',tc',r1,r2,r3,r4⟩:=hE (J++[.dead,.cells [.int .i64 x],.dead,.cells (ints p++[.int .i64 x])]) _ (p++[x]) (.sl (J.length+3) 0 (pn+1) 1) (hEa.app _) (.inr ⟨J.length+3,by rw[hplx],by omega,by rw[hix];simp⟩) (by rw[hplx];omega) hpx
     have hne:∀ j,5≤j→j∉tc':=fun j hj hh=>by have:=r4 j hh;omega
     have n1:=hne 8 (by omega)
     have n2:=hne b (by omega)
     have n3:=hne J.length (by omega)
     have n4:=hne (J.length+1) (by omega)
     have n5:=hne (J.length+2) (by omega)
     have n6:=hne (J.length+3) (by omega)
     have n7:=hne 6 (by omega)
     have hbn:¬ (b=J.length):=by have:=get_lt hbJ;omega
     have hbn8:¬ (8=J.length):=by omega
     have hbn6:¬ (J.length=6):=by omega
     have hil:(ints p).length=pn:=by simp[ints,HN.out]
     have htk:(ints p).take pn=ints p:=List.take_of_length_le (by omega)
     have hpls:=zfn p
     obtain ⟨z0',z1',z2',z3',z4',z5'⟩:=bk' hbJ
     have HR:=hideP (And.intro r2 (And.intro r3 (And.intro r4 (And.intro hK (And.intro htc (And.intro hxi hEa))))))
     rw[hs]
     clear hE hS0 hp hk hd hpx hplx hix hEa hK htc hxi r2 r3 r4 hne hbq hbJ hx HX hi hx1 hs HN hx0
     generalize ints p=cs at *
     refine gC ?_
     obtain ⟨r2,r3,r4,hK,htc,hxi,hEa⟩:=HR.out
     have hgl:=hK.len
     refine ⟨G',_,?_,hK.trans ((Kp.app J _).trans (r3.mono fun b _ hb=>by have:=r4 b hb;simp;omega)),?_,st_is (by simp[zag,zal]) rfl rfl rfl⟩
     ·rw[hxi,← List.append_assoc]
      exact (hEa.app _).kp r3 r4 r2
     ·intro j hj
      simp only[List.mem_append,List.mem_filter,List.mem_singleton,decide_eq_true_eq] at hj
      rcases hj with ⟨h,_⟩|⟨h,h'⟩|⟨h,h'⟩|h
      ·exact r4 j h
      ·omega
      ·omega
      ·exact htc j h
   ·rintro st ⟨J,tcs,hEa,hK,htc,rfl⟩
    have HJ:=hideP (And.intro hEa (And.intro hK htc))
    have hgl:=hK.len
    obtain ⟨_,⟨a1,a2,a3⟩,_,_⟩:=hEa
    simp only[loadCs] at a1
    rw[show ((l.days.toNat+1:Nat):Int) - 1=l.days by omega]
    clear hK htc HX
    refine gB ?_
    refine zac (v:=.tup []) (.inr rfl) rfl hgl (by simp only[resL];simp[*,resV]) ⟨rfl,?_,fun j hj=>HJ.out.2.2 j ?_⟩
    ·have:=HJ.out.1.s
     rwa [Ld.extI_end] at this
    ·simpa using hj
theorem AlS.back {l:Ld.Lo}{c:Nat}{d:List (List Int)}{G G':List AB}(h:AlS l c d G')(k:Kp [] G G')(hl:6≤G.length):AlS l c d G:=
 have b:∀ {q:Nat} {x:AB},HB G' q x→q<6→HB G q x:=fun h hq=>hb (by rw[← k.get _ (by omega) (by simp)];exact h.get)
 ⟨b h.lv (by omega),b h.n (by omega),b h.s (by omega),b h.x (by omega),b h.w (by omega),b h.c (by omega)⟩
theorem ymj {C:Cfg}{n0:Nat}(hC:C.calm=true)(hwh:∀ f,C.whole f=true)(hf:Has C 105 af105)(l:Ld.Lo)(hd:1≤l.days∧l.days≤4)(hc4:l.carts.length≤4)(c k:Nat)(h0:k=0→EachOf (Ev.call C n0) l c)(h1:∀ k',k=k'+1→EachN (Ev.call C n0) l c k'):EachN (Ev.call C (n0+1)) l c k:=by
 intro G d p pv hS hpv hk hp
 have hG:=hS.s.c.lt
 obtain ⟨v,hp',tc,G',c1,⟨rfl,e1,e3⟩,k1,k2,c3,c4⟩:=zcw (first:=[]) (captured:=[.ptr 6 0,.ptr 7 0,.ptr 8 0]) (args:=[pv]) (H:=G) hC hwh hf (le' rfl) (ymv C hC (Ev.call C n0) l hd hc4 c k h0 h1 G d p pv hS hpv hk hp)
 by_cases ht:tc=[]
 ·have hG':G'=G:=c4 rfl ht
  subst ht
  rw[hG'] at c1 k2
  exact ⟨G,[],c1,e1.back k1 (by omega),k2,by simp⟩
 ·have hG':G'=hp':=c3 (.inr ht)
  subst hG'
  exact ⟨G',tc,c1,e1,k2,e3⟩
theorem ymt {C:Cfg}{m:Nat}(hC:C.calm=true)(hwh:∀ f,C.whole f=true)(hf:Has C 105 af105)(l:Ld.Lo)(hd:1≤l.days∧l.days≤4)(hc4:l.carts.length≤4)(c:Nat)(h0:EachOf (Ev.call C m) l c):∀ k,EachN (Ev.call C (m+1+k)) l c k
 |0=>ymj hC hwh hf l hd hc4 c 0 (fun _=>h0) fun k' h=>by omega
 |k+1=>ymj hC hwh hf l hd hc4 c (k+1) (fun h=>by omega) fun k' h=>by
  obtain rfl:k=k':=by omega
  exact ymt hC hwh hf l hd hc4 c h0 k
def EachAll (call:CallF)(l:Ld.Lo)(c:Nat):Prop:=∀ H,AlS l c [] H→H.length=6→∃ H' tc,call (.fn (.func 41) [] []) [.agg (loadCs l),all1V] H=some (.ret (.tup []),H',tc)∧AlS l c (Ld.everyP l) H'∧Kp tc H H'∧∀ j∈tc,j=2∨j=3∨j=4
theorem ymy (C:Cfg)(call:CallF)(l:Ld.Lo)(c:Nat)(hN:EachN call l c l.carts.length)(H:List AB)(hS:AlS l c [] H)(hl:H.length=6):
  Wb C call H af41 [.agg (loadCs l),all1V]
   (fun v hp tc=>v=.tup []∧AlS l c (Ld.everyP l) hp∧∀ j∈tc,j=2∨j=3∨j=4):=by
 obtain ⟨G',tc,r1,r2,r3,r4⟩:=hN (H++[.cells (loadCs l),.cells [all1V],.cells [eachV]]) [] [] .nils ⟨hS.app _,hb (by simp[hl]),hb (by simp[hl]),hb (by simp[hl])⟩ (.inl ⟨rfl,rfl⟩) (by simp) (by simp)
 have HX:=hideP (And.intro r2 (And.intro r3 r4))
 have hgl:=r3.len
 simp only[List.length_append,List.length_cons,List.length_nil] at hgl
 clear hN hS r2 r3 r4
 unfold Wb Wa af41 Zq Zl Zo Zs Zt
 simp only[zipI,loadCs] at *
 refine gB ?_
 refine zac (v:=.tup []) (.inr rfl) rfl (by simp only;omega) (by simp only[resL];simp[*,resV]) ⟨rfl,HX.out.1,fun j hj=>?_⟩
 simp at hj
 exact HX.out.2.2 j hj.1
theorem ymu {C:Cfg}{n0:Nat}(hC:C.calm=true)(hwh:∀ f,C.whole f=true)(hf:Has C 41 af41)(l:Ld.Lo)(c:Nat)(hN:EachN (Ev.call C n0) l c l.carts.length):EachAll (Ev.call C (n0+1)) l c:=by
 intro H hS hl
 obtain ⟨v,hp',tc,G',c1,⟨rfl,e1,e3⟩,k1,k2,c3,c4⟩:=zcw (first:=[]) (captured:=[]) (args:=[.agg (loadCs l),all1V]) (H:=H) hC hwh hf (le' rfl) (ymy C (Ev.call C n0) l c hN H hS hl)
 by_cases ht:tc=[]
 ·have hG':G'=H:=c4 rfl ht
  subst ht
  rw[hG'] at c1 k2
  exact ⟨H,[],c1,e1.back k1 (by omega),k2,by simp⟩
 ·have hG':G'=hp':=c3 (.inr ht)
  subst hG'
  exact ⟨G',tc,c1,e1,k2,e3⟩
def HeavyC (call:CallF):Prop:=∀ (H:List AB) (l:Ld.Lo) (m:Int),∃ b,call (.fn (.func 12) [] []) [.agg (loadCs l),.nils,.int .i64 m] H=some (.ret (.bool b),H,[])∧(b=false→max l.road.parts.length (max l.road.events.length l.carts.length)≤40)
theorem zuz (C:Cfg)(hC:C.calm=true)(call:CallF)(hA:LApi call)(H:List AB)(l:Ld.Lo)(m:Int):
  Wb C call H af12 [.agg (loadCs l),.nils,.int .i64 m]
   (fun v _hp tc=>(∃ b,v=.bool b∧(b=false→max l.road.parts.length (max l.road.events.length l.carts.length)≤40))∧tc=[]):=by
 have hl:=fun H=>hA.long (H:=H) l
 by_cases hlen:40<max l.road.parts.length (max l.road.events.length l.carts.length)
 ·rw[decide_eq_true hlen] at hl
  clear hA hlen
  unfold Wb Wa af12 Zq Zu Zm Zl Zo Zk Zc Za Zb Zf Zg Zt Zn Zy Zw
  simp only[zipI,loadCs] at *
  refine gA ?_
  exact zac (v:=.bool true) (.inl rfl) rfl (by simp) endvP ⟨⟨true,rfl,fun h=>by cases h⟩,by simp⟩
 rw[decide_eq_false hlen] at hl
 have hv:=fun H=>hA.valid (yee H l (by omega) (by omega) (by omega))
 have HL:=hideP (show max l.road.parts.length (max l.road.events.length l.carts.length)≤40 by omega)
 cases hval:Ld.valid l with
 |false=>
  rw[hval] at hv
  clear hA hlen hval
  unfold Wb Wa af12 Zq Zu Zm Zl Zo Zk Zc Za Zb Zf Zg Zt Zn Zy Zw
  simp only[zipI,loadCs] at *
  refine gA ?_
  exact zac (v:=.bool false) (.inl rfl) rfl (by simp) endvP ⟨⟨false,rfl,fun _=>HL.out⟩,by simp⟩
 |true=>
  rw[hval] at hv
  obtain ⟨hvl,hd,hc4,hcs⟩:=Ld.vl_of hval
  have hml:(l.carts.map cE).length=l.carts.length:=by simp
  have HD:=hideP (And.intro hd hc4)
  have hw1:IntKind.i64.wrap (l.days+1)=l.days+1:=zaf (by omega) (by omega)
  clear hA hlen hval hvl hd hc4 hcs
  unfold Wb Wa af12 Zq Zu Zm Zl Zo Zk Zc Za Zb Zf Zg Zt Zn Zy Zw
  simp only[zipI,loadCs] at *
  refine gA ?_
  with_reducible refine zan hC l.carts.length (by unfold fuelL;have:=HD.out.2;omega) (fun i st=>∃ p:Int,st={ tm:=tmA 33 [(22,.int .i64 i),(21,.int .i64 l.carts.length),(7,.int .i64 p),(3,.ptr H.length 0),(2,.int .i64 m)],df:=[],hp:=H++[.cells [.vs 7 (l.road.parts.map ptE),.vs 7 (l.road.events.map evE),.int .i64 l.days,.vs 2 (l.carts.map cE)]],tc:=[] }) ?_ ?_ ?_
  ·refine ⟨1,st_is ?_ rfl rfl rfl⟩
   simp[zag,zal]
  ·rintro i st hi ⟨p,rfl⟩
   have hil:(i:Int)<l.carts.length:=by omega
   have hwi:IntKind.i64.wrap ((i:Int)+1)=(i:Int)+1:=zaf (by omega) (by have:=HD.out.2;omega)
   refine gA ?_
   refine ⟨IntKind.i64.wrap (p * (l.days+1)),st_is ?_ rfl rfl rfl⟩
   simp[zag,zal]
  ·rintro st ⟨p,rfl⟩
   refine gA ?_
   exact zac (v:=.bool (decide (m<p))) (.inl rfl) rfl (by simp) endvP ⟨⟨_,rfl,fun _=>HL.out⟩,by simp⟩
theorem ymr {C:Cfg}{n0:Nat}(hC:C.calm=true)(h0:Has C 12 af12)(hA:LApi (Ev.call C n0)):HeavyC (Ev.call C (n0+1)):=by
 intro H l m
 obtain ⟨w,hp,tc,H',c1,⟨⟨b,rfl,h2⟩,rfl⟩,_,_,c7⟩:=zbm (first:=[]) (captured:=[]) (args:=[.agg (loadCs l),.nils,.int .i64 m]) (H:=H) hC h0.ext h0.exth h0.fns h0.whole (le' rfl) (zuz C hC (Ev.call C n0) hA H l m)
 rw[c7 rfl rfl] at c1
 exact ⟨b,c1,h2⟩
end Ro
end Ev
end Go.Proofs.YtfpepkbflnendaaGreat
