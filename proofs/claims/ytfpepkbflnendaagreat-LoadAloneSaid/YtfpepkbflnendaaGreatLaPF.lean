/- LoadAlone, gone through. -/
import Derived.Test.YtfpepkbflnendaaGreatLaPE
import Derived.Test.YtfpepkbflnendaaGreatLaPD
import Derived.Test.YtfpepkbflnendaaGreatLaEA
/- Package load, gone through: Alone, Never, With. -/
namespace Go.Proofs.YtfpepkbflnendaaGreat
open Go
namespace Ld
theorem notS (p:Nat→Bool)(n:Nat):andn (2 ^ n - 1) (Clm.setOf p n)=Clm.setOf (fun u=>!p u) n:=by
 refine Nat.eq_of_testBit_eq fun i=>?_
 rw[zff,Clm.setOf_bit,Clm.setOf_bit,Nat.testBit_two_pow_sub_one]
 by_cases h:i<n<;>simp[h]
end Ld
namespace Ev
namespace Ro
open K
attribute [local simp] ev1 wantG spineK spine float xnew xval xeff zab zae zau zah zai addFl cellsOf pickC alive slLen slFt binI maxA maxK minA minK aeqK aeqS AV.cells spA zad fillA setAt bitsI nat_nn zav AV.plain apart
set_option maxRecDepth 100000
set_option maxHeartbeats 4000000
def aloneRV (l:Ld.Lo)(i:Int):AV:=if (Ld.valid l&&Ld.isCart l i)=true then (match Ld.aloneR l i.toNat with|none=>.tup [.int .i64 0,.int .i64 4]|some n=>.tup [.int .i64 n,.int .i64 0]) else .tup [.int .i64 0,.int .i64 (errL l (Ld.isCart l i))]
theorem ygi {l:Ld.Lo}{i d:Nat}(hd:(d:Int)<l.days)(h1:Ld.right l (Ld.only l i d)=true)(h2:∀ k,k<d→Ld.right l (Ld.only l i k)=false):Ld.aloneR l i=some d:=by
 unfold Ld.aloneR
 rw[List.find?_eq_some_iff_getElem]
 refine ⟨h1,d,by rw[List.length_range];omega,by simp,fun j hj=>?_⟩
 rw[List.getElem_range,h2 j hj];rfl
theorem yjp {l:Ld.Lo}{i:Nat}(h2:∀ k:Nat,(k:Int)<l.days→Ld.right l (Ld.only l i k)=false):Ld.aloneR l i=none:=by
 unfold Ld.aloneR
 rw[List.find?_eq_none]
 intro k hk
 rw[h2 k (by have:=List.mem_range.1 hk;omega)];simp
theorem ygh (C:Cfg)(hC:C.calm=true)(call call0:CallF)(l:Ld.Lo)(hdf:C.dfk 71=some (131,true))(hO:LOpenC call call0 l)(hR:Ld.valid l=true→RightC call l)(hRe:RepC call)(hM:LmustC call)(i:Int)(hbd:Ld.valid l=true→1≤l.days∧l.days≤4∧l.carts.length≤4)
  (hF:IsFnL call0 l (.fn (.func 72) [] [.ptr 1 0]) (Ld.isCart l i) [.cells (loadCs l),.cells [.int .i64 i],.cells [.int .i64 0]]):
  Wa C call [] af20 [.agg (loadCs l),.int .i64 i]
   (Fin C ([]:List AB).length af20 (Ans (aloneRV l i))):=by
 have hmf:=hM.f
 have ho:=hO [.cells (loadCs l),.cells [.int .i64 i],.cells [.int .i64 0]] _ _ hF
 unfold aloneRV
 unfold Wa af20 Zq Zm Zl Zo Zs Zc Zt Zn Zi
 rcases ho with ⟨e,h1,h2⟩|⟨h1,h2,H',qb,mb,h3,h4,h5,h6,h7⟩
 ·obtain ⟨h8,h9⟩:=ybn h1
  rw[h9,if_neg (by decide),h8]
  clear hO hR hRe hF h1 h8 h9 hbd hM
  unfold stopL at h2
  simp only[zipI,loadCs] at *
  refine gD ?_
  refine zbl (v:=.tup [.int .i64 0,.int .i64 e]) hdf rfl (by simp only;rfl) (by simp only[resL,resOf,zaa];simp[resV,pickC]) ⟨by simp,by simp⟩
 ·rw[h1,h2,Bool.true_and,if_pos rfl]
  obtain ⟨hd0,hd1,hc4⟩:=hbd h1
  have hR:=hR h1
  have hic:=of_decide_eq_true h2
  obtain ⟨c,rfl⟩:∃ c:Nat,i=c:=⟨i.toNat,by omega⟩
  have hcn:c<l.carts.length:=by omega
  rw[Int.toNat_natCast]
  have hl3:3≤H'.length:=by have:=h4.len;simpa using this
  have hRe1:=hRe l.carts.length (by omega) (H'++[.cells [.int .i64 (-1)]]) H'.length (by simp)
  simp only[List.append_assoc,List.cons_append,List.nil_append,List.length_append,List.length_cons,List.length_nil,Nat.zero_add] at hRe1
  have e0:H'[0]?=some (.cells (loadCs l)):=h4.at rfl (by simp)
  have e1:H'[1]?=some (.cells [.int .i64 c]):=h4.at rfl (by simp)
  have e2:H'[2]?=some (.cells [.int .i64 0]):=h4.at rfl (by simp)
  obtain ⟨u0,u1,u2,u3,u4,u5⟩:=bk' e0
  have hql:=h5.ql
  have hml:=h5.ml
  have hne:=h5.ne
  have HH:=hideP (And.intro h5 (And.intro h4 (And.intro hR (And.intro e1 e2))))
  have hq2:3≤qb:=by simpa using h6
  have hm2:3≤mb:=by simpa using h7
  clear hO hRe hF h1 h2 h4 h5 h6 h7 hbd hM hic e0 e1 e2 hR
  simp only[zipI,loadCs] at *
  refine gA ?_
  clear u0 u1 u2 u3 u4 u5 h3 hRe1
  have hdn:(l.days.toNat:Int)=l.days:=by omega
  with_reducible refine zan hC l.days.toNat (by unfold fuelL;omega) (fun d st=>∃ hp w tc,Qx l qb mb hp∧hp[1]?=some (.cells [.int .i64 c])∧hp[2]?=some (.cells [.int .i64 0])∧hp[H'.length+1]?=some (.cells (ints w))∧(∀ x,w.set c x=Ld.only l c x)∧w.length=l.carts.length∧(∀ k:Nat,k<d→Ld.right l (Ld.only l c k)=false)∧(∀ j∈tc,j<0)∧st={ tm:=tmA 33 [(20,.int .i64 d),(19,.int .i64 l.days),(7,.sl (H'.length+1) 0 l.carts.length 1),(6,.ptr qb 0),(5,.ptr 2 0),(4,.int .i64 0),(3,.ptr 1 0)],df:=[.call 71 [.ptr 2 0]],hp:=hp,tc:=tc }) ?_ ?_ ?_
  ·obtain ⟨h5,h4,hR,e1,e2⟩:=HH.out
   refine ⟨H'++[.cells [.int .i64 (-1)],.cells (List.replicate l.carts.length (.int .i64 (-1)))],List.replicate l.carts.length (-1),[],h5.app _,?_,?_,?_,fun x=>rfl,by simp,by simp,by simp,?_⟩
   ·rw[List.getElem?_append_left (by omega)];exact e1
   ·rw[List.getElem?_append_left (by omega)];exact e2
   ·simp[ints]
   ·refine st_is ?_ rfl rfl rfl
    simp[zag,zal]
  ·rintro d st hd ⟨hp,w,tc,hQ,e1,e2,e3,hw1,hw2,hno,htc,rfl⟩
   obtain ⟨h5,h4,hR,_⟩:=HH.out
   have hdd:(d:Int)<l.days:=by omega
   have hQ2:Qx l qb mb (hp.set (H'.length+1) (.cells (ints (Ld.only l c d)))):=hQ.sm (by rw[List.getElem?_set_ne (by omega)]) (by rw[List.getElem?_set_ne (by omega)])
   have hol:(Ld.only l c (d:Int)).length=l.carts.length:=Ld.only_len l c d
   have hpl:=get_lt e3
   obtain ⟨H2,tc2,c1,c2,c3,c4⟩:=hR _ qb mb hQ2 (Ld.only l c d) (.sl (H'.length+1) 0 (Ld.only l c d).length 1) (by omega) (.some (H'.length+1) (ints (Ld.only l c d)) ⟨by omega,by simpa using hpl⟩ (List.getElem?_set_self hpl) (by simp[ints]) fun i hi=>ybh _ hi)
   rw[hol] at c1
   have f1:H2[1]?=some (.cells [.int .i64 c]):=c3.at (by rw[List.getElem?_set_ne (by omega)];exact e1) fun h=>by have:=c2 _ h;omega
   have f2:H2[2]?=some (.cells [.int .i64 0]):=c3.at (by rw[List.getElem?_set_ne (by omega)];exact e2) fun h=>by have:=c2 _ h;omega
   have f3:H2[H'.length+1]?=some (.cells (ints (Ld.only l c d))):=c3.at (List.getElem?_set_self hpl) fun h=>by have:=c2 _ h;omega
   have hset:(ints w).set c (.int .i64 d)=ints (Ld.only l c d):=by rw[← hw1 d];simp[ints,List.map_set]
   have hset2:List.take c (ints w)++.int .i64 d::List.drop (c+1) (ints w)=ints (Ld.only l c d):=by
    rw[← hset,List.set_eq_take_append_cons_drop,if_pos (by simp[ints];omega)]
   have hil:(ints w).length=l.carts.length:=by simp[ints,hw2]
   have hcl:c<(ints w).length:=by omega
   have hcl2:c+1≤(ints w).length:=by omega
   have hci:(c:Int)<l.carts.length:=by omega
   have hwi:IntKind.i64.wrap ((d:Int)+1)=(d:Int)+1:=zaf (by omega) (by omega)
   obtain ⟨a0,a1,a2,a3,a4,a5⟩:=bk' e1
   obtain ⟨b0,b1,b2,b3,b4,b5⟩:=bk' e3
   obtain ⟨g0,g1,g2,g3,g4,g5⟩:=bk' f2
   have hfind:=fun h=>ygi (l:=l) (i:=c) (d:=d) hdd h hno
   have HQ:=hideP (And.intro c4 (And.intro f1 (And.intro f3 (And.intro hno (And.intro htc (And.intro hfind hol))))))
   generalize hon:ints (Ld.only l c d)=cs2 at *
   have HON:=hideP hon
   generalize ints w=cs at *
   have htcn:∀ tcx:List Nat,List.filter (fun x=>decide (x<0)) tcx=[]:=fun tcx=>by simp
   clear hQ e1 e2 e3 hw1 hw2 hno htc h5 h4 hR hQ2 c2 c3 c4 f1 f3 hfind hon hset hol hpl hil
   cases hr:Ld.right l (Ld.only l c d) with
   |true=>
    rw[hr] at c1
    have HR:=hideP hr
    clear hr
    (repeat (first|(with_reducible apply zak;(focus ((conv=>lhs;simp[*,hset2,Nat.testBit_eq_decide_div_mod_eq])<;>exact rfl));simp only[addFl])|((with_reducible first|apply zaw|apply zay|apply zas|apply zaq|apply zao|apply zax|apply zar|apply zaz|(apply zap;· simp[*,zab])|(apply zam;· simp[*,zab]));try simp only[Then,Ops,OutB])|simp only[Nat.reduceEqDiff,reduceIte,OutB,Then]))
    obtain ⟨_,_,_,_,htc,hfind,_⟩:=HQ.out
    rw[hfind HR.out]
    refine zdk (v:=.tup [.int .i64 d,.int .i64 0]) (.inl rfl) hdf rfl (by simp) (by simp only[resL,resOf,zaa];simp[resV,pickC,g0]) ⟨rfl,?_⟩
    rw[List.eq_nil_iff_forall_not_mem]
    intro j hj
    simp at hj
    exact absurd (htc j hj) (Nat.not_lt_zero j)
   |false=>
    rw[hr] at c1
    have HR:=hideP hr
    clear hr
    (repeat (first|(with_reducible apply zak;(focus ((conv=>lhs;simp[*,hset2,Nat.testBit_eq_decide_div_mod_eq])<;>exact rfl));simp only[addFl])|((with_reducible first|apply zaw|apply zay|apply zas|apply zaq|apply zao|apply zax|apply zar|apply zaz|(apply zap;· simp[*,zab])|(apply zam;· simp[*,zab]));try simp only[Then,Ops,OutB])|simp only[Nat.reduceEqDiff,reduceIte,OutB,Then]))
    obtain ⟨c4,f1,f3,hno,htc,_,hol⟩:=HQ.out
    refine ⟨H2,Ld.only l c d,tc,c4,f1,g1,by rw[HON.out];exact f3,fun x=>by unfold Ld.only;rw[List.set_set],hol,fun k hk=>?_,htc,?_⟩
    ·by_cases hkd:k=d
     ·subst hkd;exact HR.out
     ·exact hno k (by omega)
    ·refine st_is ?_ rfl rfl ?_
     ·simp[zag,zal]
     ·simp
  ·rintro st ⟨hp,w,tc,hQ,e1,e2,e3,hw1,hw2,hno,htc,rfl⟩
   have hdd:¬ ((l.days.toNat:Int)<l.days):=by omega
   obtain ⟨g0,g1,g2,g3,g4,g5⟩:=bk' e2
   rw[yjp (l:=l) (i:=c) fun k hk=>hno k (by omega)]
   have HT:=hideP htc
   clear hQ e1 e3 hw1 hw2 hno htc
   refine gD ?_
   refine zbl (v:=.tup [.int .i64 0,.int .i64 4]) hdf rfl (by simp only;exact e2) (by simp only[resL,resOf,zaa];simp[resV,pickC,List.getElem?_set_self (get_lt e2)]) ⟨by simp,?_⟩
   rw[List.eq_nil_iff_forall_not_mem]
   intro j hj
   simp at hj
   exact absurd (HT.out j hj) (Nat.not_lt_zero j)
def neverRV (l:Ld.Lo):AV:=if Ld.valid l=true then .tup [.int .i64 (Ld.neverR l:Nat),.int .i64 0] else .tup [.int .i64 0,.int .i64 (errL l true)]
theorem yfd (C:Cfg)(call call0 call1:CallF)(l:Ld.Lo)(hdf:C.dfk 79=some (131,true))(hO:LOpenC call call0 l)(hG:Ld.valid l=true→GoneC call call1 l)(hA:∀ pv G,call1 (.fn (.func 81) [] []) [pv] G=some (.ret (.bool true),G,[]))(hbd:Ld.valid l=true→l.carts.length≤4)
  (hF:IsFnL call0 l (.fn (.func 59) [] []) true [.cells (loadCs l),.cells [.int .i64 0]]):
  Wa C call [] af23 [.agg (loadCs l)]
   (Fin C ([]:List AB).length af23 (Ans (neverRV l))):=by
 have ho:=hO [.cells (loadCs l),.cells [.int .i64 0]] _ _ hF
 unfold neverRV
 unfold Wa af23 Zq Zm Zo Zs Zd Ze Zc Zt Zn Zi
 rcases ho with ⟨e,h1,h2⟩|⟨h1,_,H',qb,mb,h3,h4,h5,h6,h7⟩
 ·obtain ⟨h8,h9⟩:=ybn h1
  rw[Bool.and_true] at h9
  rw[h9,if_neg (by decide),h8]
  clear hO hF h1 h8 h9 hbd hG hA
  unfold stopL at h2
  simp only[zipI,loadCs] at *
  refine gD ?_
  refine zbl (v:=.tup [.int .i64 0,.int .i64 e]) hdf rfl (by simp only;rfl) (by simp only[resL,resOf,zaa];simp[resV,pickC]) ⟨by simp,by simp⟩
 ·rw[h1,if_pos rfl]
  have hc4:=hbd h1
  obtain ⟨H2,tc2,c1,c2,c3,c4⟩:=hG h1 H' qb mb qb _ (.func 81) [] [] (fun _=>true) (fun G _ _ p _ pv _=>hA pv G) h5 h5.q h5.ne
  have hl2:2≤H'.length:=by have:=h4.len;simpa using this
  have e0:H'[0]?=some (.cells (loadCs l)):=h4.at rfl (by simp)
  have e2:H2[1]?=some (.cells [.int .i64 0]):=c3.at (h4.at rfl (by simp)) fun h=>by have:=c2 _ h;simp at h7;omega
  obtain ⟨u0,u1,u2,u3,u4,u5⟩:=bk' e0
  obtain ⟨b0,b1,b2,b3,b4,b5⟩:=bk' e2
  have hlt:Ld.goneR l (fun _=>true)<2 ^ l.carts.length:=Clm.setOf_lt _ _
  have hp2:2 ^ l.carts.length≤2 ^ 4:=Nat.pow_le_pow_right (by decide) hc4
  have hp1:1≤2 ^ l.carts.length:=Nat.one_le_two_pow
  obtain ⟨s1,s2,s3⟩:=zlo (d:=l.carts.length) (by omega)
  have hnv:andn (2 ^ l.carts.length - 1) (Ld.goneR l (fun _=>true))=Ld.neverR l:=by
   unfold Ld.goneR Ld.neverR Ld.goesB
   rw[Ld.notS]
   refine Clm.setOf_congr fun u _=>?_
   simp
  have o1:=zyx (a:=2 ^ l.carts.length - 1) (b:=Ld.goneR l (fun _=>true)) (by omega) (by omega)
  have hw:IntKind.i64.wrap ((2 ^ l.carts.length - 1:Nat):Int)=((2 ^ l.carts.length - 1:Nat):Int):=zaf (by omega) (by omega)
  have h0t:0∉tc2:=fun h=>by have:=c2 _ h;simp at h7;omega
  rw[hnv] at o1
  have hs4:(((2 ^ l.carts.length:Nat):Int) - 1)=((2 ^ l.carts.length - 1:Nat):Int):=by omega
  generalize Ld.goneR l (fun _=>true)=g at *
  generalize Ld.neverR l=nv at *
  clear hO hF h1 h4 h5 h6 h7 hbd hG hA c2 c3 c4 e0 hlt hp2 hc4 hnv
  generalize hP2:2 ^ l.carts.length=P at s1 s2 s3 o1 hw hp1 hs4
  generalize hM:P - 1=M at *
  clear hP2
  simp at o1
  simp only[zipI,loadCs] at *
  refine gC ?_
  refine zdk (v:=.tup [.int .i64 nv,.int .i64 0]) (.inl rfl) hdf rfl (by simp) (by simp only[zai];simp only[resL,resOf,zaa];simp[resV,pickC,b0]) ⟨rfl,by simp⟩
theorem bit_i64 {n d:Nat}(hd:d≤60):IntKind.i64.wrap ((BitVec.ofInt IntKind.i64.bits ((n:Int).fdiv (2 ^ (min ((d:Int).toNat) IntKind.i64.bits)))&&&BitVec.ofInt IntKind.i64.bits 1).toNat)=if n.testBit d then 1 else 0:=by
 have hb:IntKind.i64.bits=64:=rfl
 have hf:((n:Int).fdiv (2 ^ d))=((n / 2 ^ d:Nat):Int):=by
  rw[Int.fdiv_eq_ediv_of_nonneg _ (Int.pow_nonneg (by decide))];simp
 rw[show min ((d:Int).toNat) IntKind.i64.bits=d by rw[hb];omega,hf,hb]
 have h1:(BitVec.ofInt 64 ((n / 2 ^ d:Nat):Int)).toNat=(n / 2 ^ d) % 2 ^ 64:=by
  rw[BitVec.toNat_ofInt];omega
 have h2:(BitVec.ofInt 64 1).toNat=1:=by decide
 rw[BitVec.toNat_and,h1,h2,Nat.and_one_is_mod,Nat.testBit_eq_decide_div_mod_eq]
 generalize n / 2 ^ d=q at *
 have h3:q % 2 ^ 64 % 2=q % 2:=by omega
 rw[h3]
 by_cases hm:q % 2=1
 ·rw[hm];rfl
 ·rw[show q % 2=0 by omega];rfl
def withRV (l:Ld.Lo)(i:Int):AV:=if (Ld.valid l&&Ld.isCart l i)=true then (if (Ld.goneR l fun p=>Ld.goesB p i.toNat).testBit i.toNat=true then .tup [.int .i64 (Ld.withR l i.toNat:Nat),.int .i64 0] else .tup [.int .i64 0,.int .i64 4]) else .tup [.int .i64 0,.int .i64 (errL l (Ld.isCart l i))]
theorem ygn (C:Cfg)(call call0 call1:CallF)(l:Ld.Lo)(hdf:C.dfk 84=some (131,true))(hO:LOpenC call call0 l)(hG:Ld.valid l=true→GoneC call call1 l)(hM:LmustC call)(i:Int)(hA:∀ c:Nat,i=c→Ld.valid l=true→c<l.carts.length→∀ qb mb,AskC call1 l qb mb 1 (.cells [.int .i64 c]) (.fn (.func 86) [] [.ptr 1 0]) fun p=>Ld.goesB p c)(hbd:Ld.valid l=true→l.carts.length≤4)
  (hF:IsFnL call0 l (.fn (.func 85) [] [.ptr 1 0]) (Ld.isCart l i) [.cells (loadCs l),.cells [.int .i64 i],.cells [.int .i64 0]]):
  Wa C call [] af25 [.agg (loadCs l),.int .i64 i]
   (Fin C ([]:List AB).length af25 (Ans (withRV l i))):=by
 have hmt:=hM.t
 have hmf:=hM.f
 have ho:=hO [.cells (loadCs l),.cells [.int .i64 i],.cells [.int .i64 0]] _ _ hF
 unfold withRV
 unfold Wa af25 Zq Zm Zl Zo Zs Zc Zt Zn Zi
 rcases ho with ⟨e,h1,h2⟩|⟨h1,h2,H',qb,mb,h3,h4,h5,h6,h7⟩
 ·obtain ⟨h8,h9⟩:=ybn h1
  rw[h9,if_neg (by decide),h8]
  clear hO hG hA hF h1 h8 h9 hbd hM
  unfold stopL at h2
  simp only[zipI,loadCs] at *
  refine gD ?_
  refine zbl (v:=.tup [.int .i64 0,.int .i64 e]) hdf rfl (by simp only;rfl) (by simp only[resL,resOf,zaa];simp[resV,pickC]) ⟨by simp,by simp⟩
 ·rw[h1,h2,Bool.true_and,if_pos rfl]
  have hc4:=hbd h1
  have hic:=of_decide_eq_true h2
  obtain ⟨c,rfl⟩:∃ c:Nat,i=c:=⟨i.toNat,by omega⟩
  have hcn:c<l.carts.length:=by omega
  rw[Int.toNat_natCast]
  have hl3:3≤H'.length:=by have:=h4.len;simpa using this
  have e1':H'[1]?=some (.cells [.int .i64 c]):=h4.at rfl (by simp)
  have hm3:3≤mb:=by simpa using h7
  obtain ⟨H2,tc2,c1,c2,c3,c4⟩:=hG h1 H' qb mb 1 _ (.func 86) [] [.ptr 1 0] _ (hA c rfl h1 hcn qb mb) h5 e1' (by omega)
  have e1:H2[1]?=some (.cells [.int .i64 c]):=c3.at e1' fun h=>by have:=c2 _ h;omega
  have e2:H2[2]?=some (.cells [.int .i64 0]):=c3.at (h4.at rfl (by simp)) fun h=>by have:=c2 _ h;omega
  have e0:H'[0]?=some (.cells (loadCs l)):=h4.at rfl (by simp)
  obtain ⟨u0,u1,u2,u3,u4,u5⟩:=bk' e0
  obtain ⟨a0,a1,a2,a3,a4,a5⟩:=bk' e1
  obtain ⟨b0,b1,b2,b3,b4,b5⟩:=bk' e2
  have hlt:Ld.goneR l (fun p=>Ld.goesB p c)<2 ^ l.carts.length:=Clm.setOf_lt _ _
  have hp2:2 ^ l.carts.length≤2 ^ 4:=Nat.pow_le_pow_right (by decide) hc4
  have hp3:2 ^ c≤2 ^ 4:=Nat.pow_le_pow_right (by decide) (by omega)
  obtain ⟨s1,s2,s3⟩:=zlo (d:=c) (by omega)
  have hbt:=bit_i64 (n:=Ld.goneR l (fun p=>Ld.goesB p c)) (d:=c) (by omega)
  have hnv:andn (Ld.goneR l (fun p=>Ld.goesB p c)) (2 ^ c)=Ld.withR l c:=by
   unfold Ld.goneR Ld.withR Ld.goesB
   rw[Clm.setOf_andn]
   refine Clm.setOf_congr fun u _=>?_
   rw[Bool.and_comm]
   congr 1
  have o1:=zyx (a:=Ld.goneR l (fun p=>Ld.goesB p c)) (b:=2 ^ c) (by omega) (by omega)
  rw[hnv] at o1
  generalize Ld.goneR l (fun p=>Ld.goesB p c)=g at *
  generalize Ld.withR l c=nv at *
  clear hO hF h1 h2 h4 h5 h6 h7 hbd hG hA c2 c3 c4 e0 hlt hp2 hp3 hc4 hnv hic hM e1' e1
  generalize hP2:2 ^ c=P at s1 s2 s3 o1
  have HP2:=hideP hP2
  clear hP2
  simp at o1
  cases hb:g.testBit c with
  |true=>
   rw[hb] at hbt
   rw[if_pos rfl] at hbt
   simp at hbt
   rw[if_pos rfl]
   clear hb
   have hc0:¬ ((c:Int)<0):=by omega
   simp only[zipI,loadCs] at *
   refine gA ?_
   refine zdk (v:=.tup [.int .i64 nv,.int .i64 0]) (.inl rfl) hdf rfl (by simp) (by simp only[resL,resOf,zaa];simp[resV,pickC,b0]) ⟨rfl,by simp⟩
  |false=>
   rw[hb] at hbt
   rw[if_neg (by decide)] at hbt
   simp at hbt
   rw[if_neg (by decide)]
   clear hb
   have hc0:¬ ((c:Int)<0):=by omega
   simp only[zipI,loadCs] at *
   refine gD ?_
   refine zbl (v:=.tup [.int .i64 0,.int .i64 4]) hdf rfl (by simp only;exact e2) (by simp only[resL,resOf,zaa];simp[resV,pickC,List.getElem?_set_self (get_lt e2)]) ⟨by simp,by simp⟩
theorem ydp (cs:List Ld.Cart):elemCells (cs.map cE)=caCs cs:=by
 induction cs with
 |nil=>rfl
 |cons c cs ih=>
  have e:caCs (c::cs)=.int .i64 c.load::.int .i64 c.due::caCs cs:=rfl
  rw[e,← ih]
  rfl
theorem yda (p:List Int):elemCells (ints p)=ints p:=by
 induction p with
 |nil=>rfl
 |cons c cs ih=>
  have e:ints (c::cs)=.int .i64 c::ints cs:=rfl
  rw[e]
  show .int .i64 c::elemCells (ints cs)=_
  rw[ih]
theorem ybv:∀ cs,(caCs cs).all AV.plain=true
 |[]=>rfl
 |c::cs=>by
  have e:caCs (c::cs)=.int .i64 c.load::.int .i64 c.due::caCs cs:=rfl
  rw[e]
  simp only[List.all_cons]
  exact ybv cs
theorem yig (cs:List Ld.Cart)(c:Ld.Cart):caCs (cs++[c])=caCs cs++[.int .i64 c.load,.int .i64 c.due]:=by
 unfold caCs
 rw[List.flatMap_append]
 rfl
def CloneVC (call:CallF):Prop:=∀ (H:List AB) (p:List Int),p≠[]→p.length≤1000→call (.fn (.func 63) [] []) [.vs 1 (ints p)] H=some (.ret (.sl (H.length+1) 0 p.length 1),H++[.dead,.cells (ints p)],[])
theorem yft (C:Cfg)(call:CallF)(H:List AB)(p:List Int)(h0:p≠[])(hp5:p.length≤1000):Wb C call H af63 [.vs 1 (ints p)]
  (fun v hp tc=>v=.sl (H.length+1) 0 p.length 1∧tc=[]∧hp=H++[.dead,.cells (ints p)]):=by
 have hil:(ints p).length=p.length:=by simp[ints]
 have hpl:=zfn p
 have hel:=yda p
 have hb5:p.length≤bound:=by unfold bound;omega
 obtain ⟨x,xs,hx⟩:∃ x xs,ints p=x::xs:=by
  cases p with
  |nil=>exact absurd rfl h0
  |cons a p=>exact ⟨_,_,rfl⟩
 have HH:=hideP h0
 clear h0
 generalize ints p=cs at *
 subst hx
 have hsl:∀ K,slCells 1 K (.vs 1 (x::xs))=some (x::xs):=fun K=>by
  simp[slCells,hel]
 clear hel
 have hll:xs.length+1=p.length:=by simpa using hil
 generalize p.length=n at *
 unfold Wb Wa af63 Zq Zm Zo Zt Zi
 simp only[zipI]
 refine gA ?_
 exact zac (v:=.sl (H.length+1) 0 n 1) (.inl rfl) rfl (by simp) endvP ⟨rfl,by simp,by simp⟩
theorem ydr {C:Cfg}{n0:Nat}(hC:C.calm=true)(hwh:∀ f,C.whole f=true)(h0:Has C 63 af63):CloneVC (Ev.call C (n0+1)):=by
 intro H p hp0 hp5
 obtain ⟨w,hp,tc,G,c1,⟨rfl,rfl,h3⟩,k1,k2,c3,c4⟩:=zcw (first:=[]) (captured:=[]) (args:=[.vs 1 (ints p)]) (H:=H) hC hwh h0 (le' rfl) (yft C (Ev.call C n0) H p hp0 hp5)
 have hG:G=hp:=c3 (.inl (by simp[refs]))
 rw[hG,h3] at c1
 exact c1
def CloneCC (call:CallF):Prop:=∀ (H:List AB) (cs:List Ld.Cart),cs≠[]→cs.length≤1000→call (.fn (.func 91) [] []) [.vs 2 (cs.map cE)] H=some (.ret (.sl (H.length+1) 0 cs.length 2),H++[.dead,.cells (caCs cs)],[])
theorem yfw (C:Cfg)(call:CallF)(H:List AB)(p:List Ld.Cart)(h0:p≠[])(hp5:p.length≤1000):Wb C call H af91 [.vs 2 (p.map cE)]
  (fun v hp tc=>v=.sl (H.length+1) 0 p.length 2∧tc=[]∧hp=H++[.dead,.cells (caCs p)]):=by
 have hil:=ybm p
 have hpl:=ybv p
 have hel:=ydp p
 have hml:(p.map cE).length=p.length:=by simp
 have hb5:p.length≤bound:=by unfold bound;omega
 obtain ⟨x,xs,hx⟩:∃ x xs,p.map cE=x::xs:=by
  cases p with
  |nil=>exact absurd rfl h0
  |cons a p=>exact ⟨_,_,rfl⟩
 have HH:=hideP h0
 clear h0
 generalize caCs p=cs at *
 generalize p.map cE=es at *
 subst hx
 have hsl:∀ K,slCells 2 K (.vs 2 (x::xs))=some cs:=fun K=>by
  simp[slCells,hel]
 clear hel
 have hll:xs.length+1=p.length:=by simpa using hml
 have hll2:cs.length=p.length * 2:=by omega
 generalize p.length=n at *
 clear hil
 unfold Wb Wa af91 Zq Zm Zo Zt Zi
 simp only[zipI]
 refine gA ?_
 exact zac (v:=.sl (H.length+1) 0 n 2) (.inl rfl) rfl (by simp) endvP ⟨rfl,by simp,by simp⟩
theorem ydt {C:Cfg}{n0:Nat}(hC:C.calm=true)(hwh:∀ f,C.whole f=true)(h0:Has C 91 af91):CloneCC (Ev.call C (n0+1)):=by
 intro H p hp0 hp5
 obtain ⟨w,hp,tc,G,c1,⟨rfl,rfl,h3⟩,k1,k2,c3,c4⟩:=zcw (first:=[]) (captured:=[]) (args:=[.vs 2 (p.map cE)]) (H:=H) hC hwh h0 (le' rfl) (yfw C (Ev.call C n0) H p hp0 hp5)
 have hG:G=hp:=c3 (.inl (by simp[refs]))
 rw[hG,h3] at c1
 exact c1
theorem yhl {l:Ld.Lo}{p:List Int}{day:Int}{i:Nat}(hi:i<61)(h1:Ld.right (Ld.moreL l ((60 - i:Nat):Int)) (p++[day])=true)(h2:∀ k,k<i→Ld.right (Ld.moreL l ((60 - k:Nat):Int)) (p++[day])=false):Ld.moreR l p day=some (60 - i):=by
 unfold Ld.moreR
 rw[List.find?_eq_some_iff_getElem]
 refine ⟨h1,i,by simpa using hi,by simp,fun j hj=>?_⟩
 rw[List.getElem_map,List.getElem_range,h2 j hj];rfl
theorem yjy {l:Ld.Lo}{p:List Int}{day:Int}(h2:∀ k,k<61→Ld.right (Ld.moreL l ((60 - k:Nat):Int)) (p++[day])=false):Ld.moreR l p day=none:=by
 unfold Ld.moreR
 rw[List.find?_eq_none]
 intro k hk
 obtain ⟨j,hj,rfl⟩:=List.mem_map.1 hk
 rw[h2 j (List.mem_range.1 hj)];simp
def moreIs (l:Ld.Lo)(p:List Int)(day:Int):Bool:=Ld.isPlan l p&&Ld.isDay l day
def moreRV (l : Ld.Lo) (p : List Int) (day : Int) : AV := if (Ld.valid l && moreIs l p day) = true then (if Ld.right l p = true then (match Ld.moreR l p day with
 |none=>.tup [.int .i64 0,.int .i64 4]
 |some n=>.tup [.int .i64 n,.int .i64 0]) else .tup [.int .i64 0,.int .i64 6]) else .tup [.int .i64 0,.int .i64 (errL l (moreIs l p day))]
theorem yhk (C:Cfg)(hC:C.calm=true)(call call0:CallF)(l:Ld.Lo)(hdf:C.dfk 88=some (131,true))(hO:LOpenC call call0 l)(hR:Ld.valid l=true→RightC call l)(hRm:Ld.valid l=true→∀ (n:Nat) (cb:Nat),n≤60→RightY call (Ld.moreL l n) cb)(hCp:CloneVC call)(hCc:CloneCC call)(hM:LmustC call)(p:List Int)(day:Int)(hc0:l.carts≠[])(hbd:Ld.valid l=true→1≤l.days∧l.days≤4∧l.carts.length≤4)(hpl:Ld.valid l=true→moreIs l p day=true→p.length=l.carts.length)
  (hF:IsFnL call0 l (.fn (.func 89) [] [.ptr 1 0,.ptr 2 0]) (moreIs l p day) [.cells (loadCs l),.cells [.vs 1 (ints p)],.cells [.int .i64 day],.cells [.int .i64 0]]):
  Wa C call [] af27 [.agg (loadCs l),.vs 1 (ints p),.int .i64 day]
   (Fin C ([]:List AB).length af27 (Ans (moreRV l p day))):=by
 have hmt:=hM.t
 have hmf:=hM.f
 have ho:=hO [.cells (loadCs l),.cells [.vs 1 (ints p)],.cells [.int .i64 day],.cells [.int .i64 0]] _ _ hF
 unfold moreRV
 unfold Wa af27 Zq Zm Zl Zo Zs Zd Ze Zc Zt Zn Zi
 rcases ho with ⟨e,h1,h2⟩|⟨h1,h2,H',qb,mb,h3,h4,h5,h6,h7⟩
 ·obtain ⟨h8,h9⟩:=ybn h1
  rw[h9,if_neg (by decide),h8]
  clear hO hR hRm hF h1 h8 h9 hbd hM hCp hCc hpl
  unfold stopL at h2
  simp only[zipI,loadCs] at *
  refine gD ?_
  refine zbl (v:=.tup [.int .i64 0,.int .i64 e]) hdf rfl (by simp only;rfl) (by simp only[resL,resOf,zaa];simp[resV,pickC]) ⟨by simp,by simp⟩
 ·rw[h1,h2,Bool.true_and,if_pos rfl]
  have hpl:=hpl h1 h2
  obtain ⟨hd0,hd1,hc4⟩:=hbd h1
  have hp0:p≠[]:=fun h=>hc0 (List.eq_nil_of_length_eq_zero (by rw[← hpl,h];rfl))
  have hl3:4≤H'.length:=by have:=h4.len;simpa using this
  have hq2:4≤qb:=by simpa using h6
  have hm2:4≤mb:=by simpa using h7
  obtain ⟨H2,tc2,c1,c2,c3,c4⟩:=hR h1 H' qb mb h5 p (.vs 1 (ints p)) (by omega) .vs
  have g1:H'[1]?=some (.cells [.vs 1 (ints p)]):=h4.at rfl (by simp)
  have e0:H2[0]?=some (.cells (loadCs l)):=c3.at (h4.at rfl (by simp)) fun h=>by have:=c2 _ h;omega
  have e1:H2[1]?=some (.cells [.vs 1 (ints p)]):=c3.at g1 fun h=>by have:=c2 _ h;omega
  have e2:H2[2]?=some (.cells [.int .i64 day]):=c3.at (h4.at rfl (by simp)) fun h=>by have:=c2 _ h;omega
  have e3:H2[3]?=some (.cells [.int .i64 0]):=c3.at (h4.at rfl (by simp)) fun h=>by have:=c2 _ h;omega
  have hlen2:=c3.len
  obtain ⟨u0,u1,u2,u3,u4,u5⟩:=bk' g1
  obtain ⟨b0,b1,b2,b3,b4,b5⟩:=bk' e3
  have htc0:∀ x,x<4→x∉tc2:=fun x hx h=>by have:=c2 _ h;omega
  cases hr:Ld.right l p with
  |false=>
   rw[hr] at c1
   rw[if_neg (by decide)]
   clear hO hR hRm hF h1 h2 hbd hM hCp hCc hpl h4 h5 h6 h7 c2 c3 c4 e0 e1 e2 g1 hr hp0 hd0 hd1 hc4 hlen2 hc0 htc0
   simp only[zipI,loadCs] at *
   refine gD ?_
   refine zbl (v:=.tup [.int .i64 0,.int .i64 6]) hdf rfl (by simp only;exact e3) (by simp only[resL,resOf,zaa];simp[resV,pickC,List.getElem?_set_self (get_lt e3)]) ⟨by simp,by simp⟩
  |true=>
   rw[hr] at c1
   rw[if_pos rfl]
   have hcl:call (.fn (.func 63) [] []) [.vs 1 (ints p)] (H2++[.cells [.int .i64 day]])=some (.ret (.sl (H2.length+2) 0 p.length 1),H2++[.cells [.int .i64 day],.dead,.cells (ints p)],[]):=by
    have h:=hCp (H2++[.cells [.int .i64 day]]) p hp0 (by omega)
    rw[List.length_append,List.append_assoc] at h
    exact h
   obtain ⟨a0,a1,a2,a3,a4,a5⟩:=bk' e1
   obtain ⟨d0,d1,d2,d3,d4,d5⟩:=bk' e2
   have hil:(ints p).length=p.length:=by simp[ints]
   have hb2:p.length+1≤bound:=by unfold bound;omega
   have hn1:¬ (1=H2.length+2):=by omega
   have hn2:¬ (2=H2.length+2):=by omega
   have hn3:¬ (H2.length+2=1):=by omega
   have hn4:¬ (H2.length+2=2):=by omega
   have hints:ints (p++[day])=ints p++[.int .i64 day]:=by simp[ints]
   have HH:=hideP (And.intro e0 (And.intro e3 (And.intro hRm (And.intro hCc (And.intro hc0 (And.intro hpl (And.intro hints h1)))))))
   clear hO hR hRm hF h2 hbd hM hCp hCc h4 h5 h6 h7 c2 c3 c4 e0 e1 e2 e3 g1 hr hc0 htc0 h1
   simp only[zipI,loadCs] at *
   have HPL:=hideP (And.intro hpl hp0)
   clear hpl hp0 hints
   generalize ints p=cs at *
   generalize hpn:p.length=pn at *
   have HPN:=hideP hpn
   clear hpn
   refine gC ?_
   clear u0 u1 u2 u3 u4 u5 b0 b1 b2 b3 b4 b5 a0 a1 a2 a3 a4 a5 d0 d1 d2 d3 d4 d5 hcl hil hb2 hn1 hn2 hn3 hn4 c1 h3
   with_reducible refine zan hC 61 (by unfold fuelL;omega) (fun i st=>∃ hp x tc,x=60 - (i:Int)∧hp[0]?=some (.cells (loadCs l))∧hp[3]?=some (.cells [.int .i64 0])∧hp[H2.length+3]?=some (.cells (ints (p++[day])))∧H2.length+4≤hp.length∧(∀ k,k<i→Ld.right (Ld.moreL l ((60 - k:Nat):Int)) (p++[day])=false)∧(∀ j∈tc,j<0)∧st={ tm:=tmA 49 [(10,.int .i64 x),(9,.sl (H2.length+3) 0 (pn+1) 1),(7,.ptr 3 0),(6,.int .i64 0),(3,.ptr 0 0)],df:=[.call 88 [.ptr 3 0]],hp:=hp,tc:=tc }) ?_ ?_ ?_
   ·obtain ⟨e0,e3,_,_,_,_,hints,_⟩:=HH.out
    refine ⟨H2++[.cells [.int .i64 day],.dead,.dead,.cells (cs++[.int .i64 day])],60,_,rfl,?_,?_,?_,by simp,by omega,?_,st_is ?_ rfl rfl rfl⟩
    ·rw[List.getElem?_append_left (by omega)];exact e0
    ·rw[List.getElem?_append_left (by omega)];exact e3
    ·rw[hints];simp
    ·simp
    ·simp[zag,zal]
   ·rintro i st hi ⟨hp,x,tc,hx,e0,e3,ep,hlp,hno,htc,rfl⟩
    obtain ⟨_,_,hRm,hCc,hc0,hpl,hints,h1⟩:=HH.out
    have hxn:x=((60 - i:Nat):Int):=by omega
    have hx0:0≤x:=by omega
    have hx1:x≤60:=by omega
    have hplen:(p++[day]).length=pn+1:=by rw[List.length_append,HPN.out];rfl
    have hk4:l.carts.length≤4:=hc4
    obtain ⟨G,hG⟩:∃ G:List AB,G=hp++[.cells [.vs 7 (l.road.parts.map ptE),.vs 7 (l.road.events.map evE),.int .i64 l.days,.sl (hp.length+4) 0 (l.carts.length+1) 2],.cells [.int .i64 x,.int .i64 (l.days - 1)],.dead,.dead,.cells (caCs l.carts++[.int .i64 x,.int .i64 (l.days - 1)]),.map [],.cells [.vs 7 (l.road.parts.map ptE),.vs 7 (l.road.events.map evE),.int .i64 l.days,.sl (hp.length+4) 0 (l.carts.length+1) 2,.map (hp.length+5)]]:=⟨_,rfl⟩
    have hQy:Qy (Ld.moreL l ((60 - i:Nat):Int)) (hp.length+4) (hp.length+6) (hp.length+5) G:=by
     refine ⟨by omega,by omega,by rw[hG];simp,⟨.sl (hp.length+4) 0 (l.carts.length+1) 2,by rw[hG];simp[Ld.moreL],.inr ⟨by simp[Ld.moreL],?_⟩⟩,[],by rw[hG];simp,fun q hq=>by cases hq⟩
     rw[hG,List.getElem?_append_right (by omega)]
     show _=some (AB.cells (caCs (l.carts++[_])))
     rw[yig,← hxn]
     simp
    have hGp:G[H2.length+3]?=some (.cells (ints (p++[day]))):=by rw[hG,List.getElem?_append_left (by omega)];exact ep
    have hle:(p++[day]).length≤(Ld.moreL l ((60 - i:Nat):Int)).carts.length:=by
     show _≤(l.carts++[_]).length
     rw[List.length_append,List.length_append,HPN.out,hpl]
     exact Nat.le_refl _
    obtain ⟨H3,tc3,c1,c2,c3,c4⟩:=hRm h1 (60 - i) (hp.length+4) (by omega) G (hp.length+6) (hp.length+5) hQy (p++[day]) (.sl (H2.length+3) 0 (p++[day]).length 1) hle (.some (H2.length+3) _ ⟨by omega,get_lt hGp⟩ hGp (by simp[ints]) fun j hj=>ybh _ hj)
    rw[hplen] at c1
    have nt:∀ {j},j<hp.length→j∉tc3:=fun hj h=>by have:=c2 _ h;omega
    have gp:∀ {j y},j<hp.length→hp[j]?=some y→G[j]?=some y:=fun hj h=>by rw[hG,List.getElem?_append_left hj];exact h
    have f0:=c3.at (gp (by omega) e0) (nt (by omega))
    have f3:=c3.at (gp (by omega) e3) (nt (by omega))
    have fp:=c3.at hGp (nt (by omega))
    have hGl:hp.length+7=G.length:=by rw[hG];simp
    have hl3:=c3.len
    have hcl:call (.fn (.func 91) [] []) [.vs 2 (l.carts.map cE)] (hp++[.cells [.vs 7 (l.road.parts.map ptE),.vs 7 (l.road.events.map evE),.int .i64 l.days,.vs 2 (l.carts.map cE)],.cells [.int .i64 x,.int .i64 (l.days - 1)]])=some (.ret (.sl (hp.length+3) 0 l.carts.length 2),hp++[.cells [.vs 7 (l.road.parts.map ptE),.vs 7 (l.road.events.map evE),.int .i64 l.days,.vs 2 (l.carts.map cE)],.cells [.int .i64 x,.int .i64 (l.days - 1)],.dead,.cells (caCs l.carts)],[]):=by
     have h:=hCc (hp++[.cells [.vs 7 (l.road.parts.map ptE),.vs 7 (l.road.events.map evE),.int .i64 l.days,.vs 2 (l.carts.map cE)],.cells [.int .i64 x,.int .i64 (l.days - 1)]]) l.carts hc0 (by omega)
     rw[List.length_append,List.append_assoc] at h
     exact h
    have hw1:IntKind.i64.wrap (l.days - 1)=l.days - 1:=zaf (by omega) (by omega)
    have hw2:IntKind.i64.wrap (x - 1)=x - 1:=zaf (by omega) (by omega)
    have hca:=ybm l.carts
    have hca2:(caCs l.carts).length=l.carts.length * 2:=by omega
    have hcap:=ybv l.carts
    have hb2:l.carts.length+1≤bound:=by unfold bound;omega
    have hfind:=fun h=>yhl (l:=l) (p:=p) (day:=day) (i:=i) hi h hno
    obtain ⟨o0,o1,o2,o3,o4,o5⟩:=bk' e0
    obtain ⟨g0,g1,g2,g3,g4,g5⟩:=bk' f3
    have n0:¬ (0=hp.length+3):=by omega
    have n1:¬ (hp.length+3=0):=by omega
    have HQ:=hideP (And.intro hx (And.intro hxn (And.intro f0 (And.intro fp (And.intro hlp (And.intro hno (And.intro htc (And.intro hfind (And.intro hGl hl3)))))))))
    rw[hG] at c1
    clear hle hQy hGp nt gp e0 e3 ep hno htc hfind hGl hl3 c2 c3 c4 f0 fp hG hRm hCc hc0 hpl hints h1 hx hca hxn hplen f3
    simp only[loadCs] at *
    generalize caCs l.carts=ccs at *
    cases hr:Ld.right (Ld.moreL l ((60 - i:Nat):Int)) (p++[day]) with
    |true=>
     rw[hr] at c1
     have HR:=hideP hr
     clear hr
     refine gC ?_
     obtain ⟨hx,hxn,f0,fp,hlp,hno,htc,hfind,hGl,hl3⟩:=HQ.out
     rw[hfind HR.out]
     refine zdk (v:=.tup [.int .i64 x,.int .i64 0]) (.inl rfl) hdf rfl (by simp) (by simp only[resL,resOf,zaa];simp[resV,pickC,g0]) ⟨by rw[hxn],?_⟩
     rw[List.eq_nil_iff_forall_not_mem]
     intro j hj
     simp at hj
     exact absurd (htc j hj) (Nat.not_lt_zero j)
    |false=>
     rw[hr] at c1
     have HR:=hideP hr
     clear hr
     refine gC ?_
     obtain ⟨hx,hxn,f0,fp,hlp,hno,htc,hfind,hGl,hl3⟩:=HQ.out
     refine ⟨H3,x - 1,tc,by omega,f0,g1,fp,by omega,fun k hk=>?_,htc,?_⟩
     ·by_cases hkd:k=i
      ·subst hkd;exact HR.out
      ·exact hno k (by omega)
     ·refine st_is ?_ rfl rfl ?_
      ·simp[zag,zal]
      ·simp
   ·rintro st ⟨hp,x,tc,hx,e0,e3,ep,hlp,hno,htc,rfl⟩
    have hxn:¬ (0≤x):=by omega
    obtain ⟨g0,g1,g2,g3,g4,g5⟩:=bk' e3
    rw[yjy (l:=l) (p:=p) (day:=day) fun k hk=>hno k hk]
    have HT:=hideP htc
    clear e0 ep hno htc hx hlp
    refine gD ?_
    refine zbl (v:=.tup [.int .i64 0,.int .i64 4]) hdf rfl (by simp only;exact e3) (by simp only[resL,resOf,zaa];simp[resV,pickC,List.getElem?_set_self (get_lt e3)]) ⟨by simp,?_⟩
    rw[List.eq_nil_iff_forall_not_mem]
    intro j hj
    simp at hj
    exact absurd (HT.out j hj) (Nat.not_lt_zero j)
structure LKnows (C:Cfg):Prop where
 calm:C.calm=true
 wh:∀ f,C.whole f=true
 within:Has C 113 af113
 must:Has C 54 af54
 isDay:Has C 90 af90
 isCart:Has C 73 af73
 isPlan:Has C 52 af52
 isPlan1:Has C 114 af114
 cof:Has C 115 af115
 ixf:Has C 148 af148
 late:Has C 200 af200
 lnum:Has C 201 af201
 sinks:Has C 202 af202
 snum:∀ n,SnumC (Ev.call C (n+1))
 rules:Has C 117 af117
 bears:Has C 204 af204
 ahead:Has C 205 af205
 ahead1:Has C 206 af206
 order:Has C 116 af116
 order1:Has C 149 af149
 broken:Has C 53 af53
 right:Has C 75 af75
 plans:Has C 61 af61
 plans1:Has C 120 af120
 plans11:Has C 121 af121
 cloneP:Has C 63 af63
 cloneC:Has C 91 af91
 sum:Has C 122 af122
 goes:Has C 87 af87
 carries:Has C 62 af62
 index:Has C 124 af124
 has:Has C 68 af68
 max:Has C 69 af69
 most:Has C 60 af60
 soon:Has C 67 af67
 gone:Has C 80 af80
 mul:Has C 125 af125
 mul64:Has C 153 af153
 repeat_:Has C 74 af74
 open_ : Has C 50 af50
 always:Has C 59 af59
 check2:Has C 51 af51
 alone2:Has C 72 af72
 never2:Has C 81 af81
 with2:Has C 85 af85
 with3:Has C 86 af86
 more2:Has C 89 af89
 eCheck:Has C 14 af14
 ePlan:Has C 16 af16
 eAll:Has C 18 af18
 eAlone:Has C 20 af20
 eNever:Has C 23 af23
 eWith:Has C 25 af25
 eMore:Has C 27 af27
 dfCheck:C.dfk 48=some (131,true)
 dfPlan:C.dfk 58=some (131,true)
 dfAll:C.dfk 66=some (131,true)
 dfAlone:C.dfk 71=some (131,true)
 dfNever:C.dfk 79=some (131,true)
 dfWith:C.dfk 84=some (131,true)
 dfMore:C.dfk 88=some (131,true)
 rbears:∀ n,BearsR (Ev.call C (n+1))
 rweak:∀ n,WeakR (Ev.call C (n+1))
theorem yhg (C:Cfg)(call:CallF)(H:List AB)(v:AV)(hv:IsSl v):Wb C call H af116 [v]
  (fun w hp tc=>w=.fn (.func 149) [] [.ptr H.length 0]∧hp=H++[.cells [v]]∧tc=[]):=by
 unfold Wb Wa af116 Zq Zm Zo Zt
 simp only[zipI]
 cases hv
 all_goals
  refine gA ?_
  exact zac (v:=.fn (.func 149) [] [.ptr H.length 0]) (.inl rfl) rfl (by simp) endvP ⟨rfl,rfl,rfl⟩
theorem yeb (C:Cfg)(call:CallF)(H:List AB)(v:AV):Wb C call H af59 [v]
  (fun w _hp tc=>w=.bool true∧tc=[]):=by
 unfold Wb Wa af59 Zq Zo
 simp only[zipI]
 refine gA ?_
 exact zac (v:=.bool true) (.inl rfl) rfl (by simp) endvP ⟨rfl,rfl⟩
theorem yfe (C:Cfg)(call:CallF)(H:List AB)(v:AV):Wb C call H af81 [v]
  (fun w _hp tc=>w=.bool true∧tc=[]):=by
 unfold Wb Wa af81 Zq Zo
 simp only[zipI]
 refine gA ?_
 exact zac (v:=.bool true) (.inl rfl) rfl (by simp) endvP ⟨rfl,rfl⟩
theorem yfz (C:Cfg)(call:CallF)(l:Ld.Lo)(hI:IsPlanC call l)(H:List AB)(qb mb b1:Nat)(hQ:Qx l qb mb H)(p:List Int)(hp5:p.length≤1000)(h1:H[b1]?=some (.cells [.vs 1 (ints p)])):Wb C call H af51 [.ptr qb 0,.ptr b1 0]
  (fun w _hp tc=>w=.bool (Ld.isPlan l p)∧tc=[]):=by
 have hc:=hI H qb mb hQ p (.vs 1 (ints p)) hp5 .vs
 obtain ⟨x0,x1,x2,x3,x4,x5⟩:=bk' h1
 generalize Ld.isPlan l p=b at *
 clear hI hQ h1
 unfold Wb Wa af51 Zq Zm Zl Zo Zc Zt
 simp only[zipI]
 refine gA ?_
 exact zac (v:=.bool b) (.inl rfl) rfl (by simp) endvP ⟨rfl,by simp⟩
def LisCartC (call:CallF)(l:Ld.Lo):Prop:=∀ (H:List AB) (qb mb:Nat),Qx l qb mb H→∀ n:Int,call (.fn (.func 73) [] []) [.ptr qb 0,.int .i64 n] H=some (.ret (.bool (Ld.isCart l n)),H,[])
theorem ygk (C:Cfg)(call:CallF)(l:Ld.Lo)(hI:LisCartC call l)(H:List AB)(qb mb b1:Nat)(hQ:Qx l qb mb H)(n:Int)(h1:H[b1]?=some (.cells [.int .i64 n])):Wb C call H af72 [.ptr qb 0,.ptr b1 0]
  (fun w _hp tc=>w=.bool (Ld.isCart l n)∧tc=[]):=by
 have hc:=hI H qb mb hQ n
 obtain ⟨x0,x1,x2,x3,x4,x5⟩:=bk' h1
 generalize Ld.isCart l n=b at *
 clear hI hQ h1
 unfold Wb Wa af72 Zq Zm Zl Zo Zc Zt
 simp only[zipI]
 refine gA ?_
 exact zac (v:=.bool b) (.inl rfl) rfl (by simp) endvP ⟨rfl,by simp⟩
theorem ygp (C:Cfg)(call:CallF)(l:Ld.Lo)(hI:LisCartC call l)(H:List AB)(qb mb b1:Nat)(hQ:Qx l qb mb H)(n:Int)(h1:H[b1]?=some (.cells [.int .i64 n])):Wb C call H af85 [.ptr qb 0,.ptr b1 0]
  (fun w _hp tc=>w=.bool (Ld.isCart l n)∧tc=[]):=by
 have hc:=hI H qb mb hQ n
 obtain ⟨x0,x1,x2,x3,x4,x5⟩:=bk' h1
 generalize Ld.isCart l n=b at *
 clear hI hQ h1
 unfold Wb Wa af85 Zq Zm Zl Zo Zc Zt
 simp only[zipI]
 refine gA ?_
 exact zac (v:=.bool b) (.inl rfl) rfl (by simp) endvP ⟨rfl,by simp⟩
theorem ygo (C:Cfg)(call:CallF)(hG:GoesC call)(H:List AB)(b1:Nat)(p:List Int)(b c:Nat)(hc:c<p.length)(hp5:p.length≤1000)(hb:H[b]?=some (.cells (ints p)))(h1:H[b1]?=some (.cells [.int .i64 c])):Wb C call H af86 [.sl b 0 p.length 1,.ptr b1 0]
  (fun w _hp tc=>w=.bool (Ld.goesB p c)∧tc=[]):=by
 have hc2:=(hG H p b c hc hp5 hb).1
 unfold Ld.goesB
 obtain ⟨x0,x1,x2,x3,x4,x5⟩:=bk' h1
 generalize (!(p.getD c 0==-1))=bb at *
 generalize p.length=n at *
 clear hG hb h1 hc
 unfold Wb Wa af86 Zq Zm Zl Zo Zc Zt
 simp only[zipI]
 refine gA ?_
 exact zac (v:=.bool bb) (.inl rfl) rfl (by simp) endvP ⟨rfl,by simp⟩
theorem yhm (C:Cfg)(call:CallF)(l:Ld.Lo)(hI:IsPlanC call l)(hD:LisDayC call l)(H:List AB)(qb mb b1 b2:Nat)(hQ:Qx l qb mb H)(p:List Int)(hp5:p.length≤1000)(day:Int)(h1:H[b1]?=some (.cells [.vs 1 (ints p)]))(h2:H[b2]?=some (.cells [.int .i64 day])):Wb C call H af89 [.ptr qb 0,.ptr b1 0,.ptr b2 0]
  (fun w _hp tc=>w=.bool (moreIs l p day)∧tc=[]):=by
 have hc:=hI H qb mb hQ p (.vs 1 (ints p)) hp5 .vs
 have hd:=hD H qb mb hQ day
 obtain ⟨x0,x1,x2,x3,x4,x5⟩:=bk' h1
 obtain ⟨y0,y1,y2,y3,y4,y5⟩:=bk' h2
 unfold moreIs
 generalize Ld.isPlan l p=b at *
 generalize Ld.isDay l day=d at *
 clear hI hQ h1 hD h2
 unfold Wb Wa af89 Zq Zm Zl Zo Zc Zt
 simp only[zipI]
 cases b with
 |true=>
  refine gA ?_
  exact zac (v:=.bool d) (.inl rfl) rfl (by simp) endvP ⟨by simp,by simp⟩
 |false=>
  refine gA ?_
  exact zac (v:=.bool false) (.inl rfl) rfl (by simp) endvP ⟨by simp,by simp⟩
section
variable {C:Cfg} (k:LKnows C)
include k
theorem lwithinL (n:Nat):LwithinC (Ev.call C (n+1)):=fun H a b c=>zaj k.calm k.within (le' rfl) rfl (ydg C _ H a b c)
theorem lmustL (n:Nat):LmustC (Ev.call C (n+1)) where
 t H e:=by
  obtain ⟨x,hp,tc,H',c1,⟨rfl,rfl⟩,_,_,c7⟩:=zdl (n:=n) (first:=[]) (captured:=[]) (args:=[.bool true,.int .i64 e]) k.calm k.must (le' rfl) (yfj C _ H e)
  rw[c1,c7 rfl rfl]
 f H e:=by
  obtain ⟨x,hp,tc,H',c1,⟨rfl,rfl⟩,_,_,c7⟩:=zdl (n:=n) (first:=[]) (captured:=[]) (args:=[.bool false,.int .i64 e]) k.calm k.must (le' rfl) (yfk C _ H e)
  rw[c1,c7 rfl rfl]
theorem orderL (n:Nat):OrderC (Ev.call C (n+1)):=fun H v hv=>zew k.calm k.order (le' rfl) (by simp[refs,refsL]) (yhg C _ H v hv)
theorem untilL (n:Nat)(l:Ld.Lo):UntC (Ev.call C (n+1)) l:=yel k.calm k.wh k.ahead1 l
theorem orderIL (m:Nat):OrderI C m (m+1):=yez k.calm m k.order1
theorem aheadL (n:Nat)(l:Ld.Lo)(cb:Nat):AheadC (Ev.call C (n+4)) l cb:=ygm (n0:=n+1) (m:=n+3) k.calm k.wh k.ahead l cb (orderL k _) (orderIL k _) (untilL k _ l) (untilL k _ l)
theorem bearsTL (n:Nat)(l:Ld.Lo)(cb:Nat):BearsTC (Ev.call C (n+5)) l cb:=yea k.calm k.wh k.bears (aheadL k n l cb) (k.rbears _)
theorem sinksTL (n:Nat)(l:Ld.Lo)(cb:Nat):SinksC (Ev.call C (n+6)) l cb:=yer k.calm k.wh k.sinks l cb (bearsTL k n l cb)
theorem brokenL (n:Nat){l:Ld.Lo}(hl:LdWell l)(cb:Nat):BrokenC (Ev.call C (n+9)) l cb:=ydx (n0:=n+6) (m:=n+8) k.calm k.wh k.broken hl (orderL k _) (orderIL k _) (yes k.calm k.wh k.rules) (yhw k.calm k.wh k.late l cb) (sinksTL k n l cb) (yhq k.calm k.wh k.lnum) (k.snum _)
theorem rightL (n:Nat){l:Ld.Lo}(hl:LdWell l)(cb:Nat):RightY (Ev.call C (n+10)) l cb:=ydh k.calm k.wh k.right (brokenL k n hl cb)
theorem rightXL (n:Nat){l:Ld.Lo}(hl:LdWell l):RightC (Ev.call C (n+10)) l:=RightY.x fun cb=>rightL k n hl cb
theorem lisDayL (n:Nat){l:Ld.Lo}(hd:-1000000≤l.days∧l.days≤1000000):LisDayC (Ev.call C (n+2)) l:=ydi k.calm k.wh k.isDay hd (lwithinL k n)
theorem lisPlanL (n:Nat){l:Ld.Lo}(hd:-1000000≤l.days∧l.days≤1000000)(hc:l.carts.length≤1000):IsPlanC (Ev.call C (n+6)) l:=ydn k.calm k.wh k.isPlan k.isPlan1 k.cof k.ixf hc (lisDayL k n hd)
theorem lisCartL (n:Nat){l:Ld.Lo}(hd:l.carts.length≤1000000):LisCartC (Ev.call C (n+2)) l:=fun H qb _mb hQ i=>zaj k.calm k.isCart (le' rfl) rfl (ydj C _ (lwithinL k n) l hd H qb _ hQ.q i)
theorem cloneL (n:Nat):ClonePC (Ev.call C (n+1)):=yds k.calm k.wh k.cloneP
theorem plansIL (n:Nat){l:Ld.Lo}(hv:LdVal l):PlansI C (n+10) (n+10+l.carts.length+2) l:=yev k.calm k.wh hv k.plans11 k.plans1 (cloneL k) _ (rightXL k n hv.well)
theorem plansL (n:Nat):PlansC (Ev.call C (n+1)):=yew k.calm k.wh k.plans
theorem mostLL (n:Nat){l:Ld.Lo}(hv:LdVal l):MostLC (Ev.call C (n+10+l.carts.length+3)) (Ev.call C (n+9)) l:=yff (n0:=n+9) k.calm k.wh k.most (plansIL k n hv)
theorem goneL (n:Nat){l:Ld.Lo}(hv:LdVal l):GoneC (Ev.call C (n+10+l.carts.length+3)) (Ev.call C (n+9)) l:=yib (n0:=n+9) k.calm k.wh k.gone hv (plansL k _) (plansIL k n hv) (ycc k.calm k.wh k.goes)
theorem carriesL (n:Nat){l:Ld.Lo}(hv:LdVal l):CarriesC (Ev.call C (n+2)) l:=ydc k.calm k.wh k.carries hv (ycc k.calm k.wh k.goes) (yho k.calm k.wh k.sum)
theorem repL (n:Nat):RepC (Ev.call C (n+3)):=yir k.calm k.wh k.repeat_ fun m hm=>yiy k.calm k.wh k.mul k.mul64 m hm
omit k in
theorem yje {l:Ld.Lo}(h:Ld.valid l=true)(hp:l.road.parts.length≤40):LdVal l:=by
 unfold Ld.valid at h
 simp only[Bool.and_eq_true,decide_eq_true_eq,List.all_eq_true] at h
 obtain ⟨⟨⟨⟨h1,h2⟩,h3⟩,h4⟩,h5⟩:=h
 have hc:∀ c∈l.carts,(0≤c.load∧c.load≤60)∧0≤c.due∧c.due<l.days:=fun c hcm=>by
  have:=h5 c hcm
  unfold Ld.okCart Ld.isDay at this
  simp only[Bool.and_eq_true,decide_eq_true_eq] at this
  exact this
 refine ⟨⟨h2,hp,by omega,fun c hcm=>?_⟩,fun c hcm=>(hc c hcm).1.1,h3.1,h3.2,fun c hcm=>(hc c hcm).2⟩
 have:=(hc c hcm).1
 omega
end
end Ro
namespace Ro
open K
set_option maxRecDepth 100000
set_option maxHeartbeats 4000000
theorem lvl {C:Cfg}{P:CallF→Prop}{a b:Nat}(h:P (Ev.call C a))(e:a=b):P (Ev.call C b):=e ▸ h
section
variable {C:Cfg} (k:LKnows C)
include k
theorem ansL {f n:Nat}{fn:AFunc}{args:List AV}{v:AV}(h0:Has C f fn)(hlen:([]++args++[]).length≤fn.ntmps)(hv:refs v=[])
  (h:Does (ev C (Ev.call C n) ([]:List AB).length Option.none fn.body { tm:=tmA fn.ntmps (zipI 0 args []),df:=[],hp:=[],tc:=[] }) (Fin C ([]:List AB).length fn (Ans v))):Ev.call C (n+1) (.fn (.func f) [] []) args []=Option.some (.ret v,[],[]):=by
 obtain ⟨x,hp,tc,H',c1,⟨rfl,rfl⟩,_,_,c7⟩:=zdl (n:=n) (first:=[]) (captured:=[]) (args:=args) (H:=[]) k.calm h0 hlen (by simpa using h)
 rw[c1,c7 hv rfl]
variable {l:Ld.Lo} (hbig:l.road.parts.length≤40∧l.road.events.length≤50∧l.carts.length≤1000)
include hbig
theorem lopenL (n:Nat):LOpenC (Ev.call C (n+10+l.carts.length+3)) (Ev.call C (n+10+l.carts.length+2)) l:=
 yfi (n0:=n+10+l.carts.length+2) k.calm k.open_ (lmustL k _) (lwithinL k _) (k.rweak _) hbig fun h1 h2=>lisDayL k (n+10+l.carts.length) ⟨by omega,by omega⟩
omit k in
theorem valL (hv:Ld.valid l=true):LdVal l:=yje hv hbig.1
omit k hbig in
theorem daysL (hv:Ld.valid l=true):1≤l.days∧l.days≤4∧l.carts.length≤4:=by
 unfold Ld.valid at hv
 simp only[Bool.and_eq_true,decide_eq_true_eq] at hv
 obtain ⟨⟨⟨⟨h1,h2⟩,h3⟩,h4⟩,h5⟩:=hv
 exact ⟨h3.1,h3.2,h4⟩
theorem checkE (n:Nat)(p:List Int)(hp5:p.length≤1000):Ev.call C (n+10+l.carts.length+4) (.fn (.func 14) [] []) [.agg (loadCs l),.vs 1 (ints p)] []=some (.ret (checkRV l p),[],[]):=by
 refine ansL k k.eCheck (le' rfl) (by unfold checkRV;split<;>(try split)<;>rfl) (yfx C _ (Ev.call C (n+10+l.carts.length+2)) l k.dfCheck (lopenL k hbig n) (fun hv=>?_) (lmustL k _) p (fun hv G qb mb hG hX=>?_) fun _ h=>?_)
 ·exact lvl (P:=fun c=>BrokenX c l) (BrokenC.x fun cb=>brokenL k (n+l.carts.length+4) (valL hbig hv).well cb) (by omega)
 ·have hd:=daysL hv
  exact zaj (first:=[]) (captured:=[.ptr 1 0]) k.calm k.check2 (le' rfl) rfl (yfz C _ l (lvl (P:=fun c=>IsPlanC c l) (lisPlanL k (n+l.carts.length+5) ⟨by omega,by omega⟩ hbig.2.2) (by omega)) G qb mb 1 hX p hp5 (hG.at rfl (by simp)))
 ·unfold Ld.isPlan at h
  simp only[Bool.and_eq_true,decide_eq_true_eq] at h
  omega
omit hbig in
theorem alwaysE (n:Nat)(v:AV)(G:List AB):Ev.call C (n+1) (.fn (.func 59) [] []) [v] G=some (.ret (.bool true),G,[]):=zaj k.calm k.always (le' rfl) rfl (yeb C _ G v)
theorem planE (n:Nat):∃ H' pv,Ev.call C (n+10+l.carts.length+4) (.fn (.func 16) [] []) [.agg (loadCs l)] []=some (.ret (.tup [pv,.int .i64 (if Ld.valid l=true then (Ld.planR l).2 else 0),.int .i64 (errL l true)]),H',[])∧PlE (fun _=>True) H' (if Ld.valid l=true then (Ld.planR l).1 else []) pv:=by
 obtain ⟨x,hp,tc,H',c1,⟨rfl,pv,rfl,c2⟩,_,c6,c7⟩:=zdl (n:=n+10+l.carts.length+3) (first:=[]) (captured:=[]) (args:=[.agg (loadCs l)]) (H:=[]) k.calm k.ePlan (le' rfl)
  (yhc C _ (Ev.call C (n+10+l.carts.length+2)) (Ev.call C (n+9)) l k.dfPlan (lopenL k hbig n) (plansL k _) (fun hv=>mostLL k n (valL hbig hv)) (fun hv qb mb b4 x4=>ydb (valL hbig hv) (carriesL k (n+7) (valL hbig hv)) qb mb b4 x4) (cloneL k _) (fun hv=>(daysL hv).2.2) (fun hv G qb mb _ _=>alwaysE k _ _ G))
 refine ⟨H',pv,c1,?_⟩
 cases c2 with
 |none h=>exact .none h
 |some b h0 h1 h2=>
  obtain ⟨_,g⟩:=c6 (.inl (by simp[CRes.val,refs,refsL]))
  exact .some b h0 h1 ((g b (Nat.zero_le _)).trans h2)
theorem allE (n:Nat):Ev.call C (n+10+l.carts.length+4) (.fn (.func 18) [] []) [.agg (loadCs l)] []=some (.ret (allRV l),[],[]):=
 ansL k k.eAll (le' rfl) (by unfold allRV;split<;>(try split)<;>rfl) (yjq C _ (Ev.call C (n+10+l.carts.length+2)) (Ev.call C (n+9)) l k.dfAll (lopenL k hbig n) (plansL k _) (fun hv=>mostLL k n (valL hbig hv)) (fun hv qb mb b4=>ygv (n0:=n+8) k.calm k.wh k.soon (valL hbig hv) (yhu k.calm k.wh k.has (yjc k.calm k.wh k.index)) (yhr k.calm k.wh k.max) qb mb b4) (lmustL k _) (fun hv=>⟨(daysL hv).1,(daysL hv).2.1⟩) (fun hv G qb mb _ _=>alwaysE k _ _ G))
theorem aloneE (n:Nat)(i:Int):Ev.call C (n+10+l.carts.length+4) (.fn (.func 20) [] []) [.agg (loadCs l),.int .i64 i] []=some (.ret (aloneRV l i),[],[]):=by
 refine ansL k k.eAlone (le' rfl) (by unfold aloneRV;split<;>(try split)<;>rfl) (ygh C k.calm _ (Ev.call C (n+10+l.carts.length+2)) l k.dfAlone (lopenL k hbig n) (fun hv=>?_) ?_ (lmustL k _) i daysL fun hv G qb mb hG hX=>?_)
 ·exact lvl (P:=fun c=>RightC c l) (rightXL k (n+l.carts.length+3) (valL hbig hv).well) (by omega)
 ·exact lvl (P:=fun c=>RepC c) (repL k (n+10+l.carts.length)) (by omega)
 ·exact zaj (first:=[]) (captured:=[.ptr 1 0]) k.calm k.alone2 (le' rfl) rfl (ygk C _ l (lvl (P:=fun c=>LisCartC c l) (lisCartL k (n+l.carts.length+9) (by omega)) (by omega)) G qb mb 1 hX i (hG.at rfl (by simp)))
theorem neverE (n:Nat):Ev.call C (n+10+l.carts.length+4) (.fn (.func 23) [] []) [.agg (loadCs l)] []=some (.ret (neverRV l),[],[]):=
 ansL k k.eNever (le' rfl) (by unfold neverRV;split<;>rfl) (yfd C _ (Ev.call C (n+10+l.carts.length+2)) (Ev.call C (n+9)) l k.dfNever (lopenL k hbig n) (fun hv=>goneL k n (valL hbig hv)) (fun pv G=>zaj k.calm k.never2 (le' rfl) rfl (yfe C _ G pv)) (fun hv=>(daysL hv).2.2) (fun hv G qb mb _ _=>alwaysE k _ _ G))
theorem withE (n:Nat)(i:Int):Ev.call C (n+10+l.carts.length+4) (.fn (.func 25) [] []) [.agg (loadCs l),.int .i64 i] []=some (.ret (withRV l i),[],[]):=by
 refine ansL k k.eWith (le' rfl) (by unfold withRV;split<;>(try split)<;>rfl) (ygn C _ (Ev.call C (n+10+l.carts.length+2)) (Ev.call C (n+9)) l k.dfWith (lopenL k hbig n) (fun hv=>goneL k n (valL hbig hv)) (lmustL k _) i (fun c hc hv hcl qb mb G hQ h1 p hp pv hpv=>?_) (fun hv=>(daysL hv).2.2) fun hv G qb mb hG hX=>?_)
 ·obtain ⟨e,_⟩:=ybp (valL hbig hv) hp
  have h5:=(valL hbig hv).well.carts
  cases hpv with
  |none h=>rw[h] at e;simp at e;omega
  |some b _ _ hb=>exact zaj (n:=n+8) (first:=[]) (captured:=[.ptr 1 0]) k.calm k.with3 (le' rfl) rfl (ygo C _ (ycc k.calm k.wh k.goes) G 1 p b c (by omega) (by omega) hb h1)
 ·exact zaj (first:=[]) (captured:=[.ptr 1 0]) k.calm k.with2 (le' rfl) rfl (ygp C _ l (lvl (P:=fun c=>LisCartC c l) (lisCartL k (n+l.carts.length+9) (by omega)) (by omega)) G qb mb 1 hX i (hG.at rfl (by simp)))
theorem moreE (n:Nat)(p:List Int)(hp5:p.length≤1000)(day:Int)(hc0:l.carts≠[]):Ev.call C (n+10+l.carts.length+4) (.fn (.func 27) [] []) [.agg (loadCs l),.vs 1 (ints p),.int .i64 day] []=some (.ret (moreRV l p day),[],[]):=by
 refine ansL k k.eMore (le' rfl) (by unfold moreRV;split<;>(try split)<;>(try split)<;>rfl) (yhk C k.calm _ (Ev.call C (n+10+l.carts.length+2)) l k.dfMore (lopenL k hbig n) (fun hv=>?_) (fun hv m cb hm=>?_) (ydr k.calm k.wh k.cloneP) (ydt k.calm k.wh k.cloneC) (lmustL k _) p day hc0 daysL (fun hv hi=>?_) fun hv G qb mb hG hX=>?_)
 ·exact lvl (P:=fun c=>RightC c l) (rightXL k (n+l.carts.length+3) (valL hbig hv).well) (by omega)
 ·have hw:=(valL hbig hv).well
  have hd:=daysL hv
  have hwm:LdWell (Ld.moreL l m):=by
   refine ⟨hw.ev,hw.parts,?_,fun c hc=>?_⟩
   ·show (l.carts++[_]).length≤5
    simp;omega
   ·rcases List.mem_append.1 hc with hc|hc
    ·exact hw.ld c hc
    ·obtain rfl:=List.mem_singleton.1 hc
     show -1000000≤(m:Int)∧(m:Int)≤1000000
     omega
  have h:=rightL k (n+l.carts.length+3) hwm cb
  exact lvl (P:=fun c=>RightY c (Ld.moreL l m) cb) h (by omega)
 ·unfold moreIs Ld.isPlan at hi
  simp only[Bool.and_eq_true,decide_eq_true_eq] at hi
  exact hi.1.1
 ·have hd:=daysL hv
  exact zaj (first:=[]) (captured:=[.ptr 1 0,.ptr 2 0]) k.calm k.more2 (le' rfl) rfl (yhm C _ l (lvl (P:=fun c=>IsPlanC c l) (lisPlanL k (n+l.carts.length+5) ⟨by omega,by omega⟩ hbig.2.2) (by omega)) (lvl (P:=fun c=>LisDayC c l) (lisDayL k (n+l.carts.length+9) ⟨by omega,by omega⟩) (by omega)) G qb mb 1 2 hX p hp5 day (hG.at rfl (by simp)) (hG.at rfl (by simp)))
end
end Ro
namespace Ro
open K
def caC':List AV→Option (List Ld.Cart)
 |[]=>some []
 |.int .i64 a::.int .i64 b::l=>(caC' l).map (⟨a,b⟩::·)
 |_=>none
@[simp] theorem ykd:∀ l,caC' (caCs l)=some l
  |[]=>rfl
  |c::l=>by
   have e:caCs (c::l)=.int .i64 c.load::.int .i64 c.due::caCs l:=rfl
   rw[e]
   simp[caC',ykd l]
theorem yke:∀ {cs l},caC' cs=some l→cs=caCs l:=by
 intro cs
 induction cs using caC'.induct with
 |case1=>intro l h;cases h;rfl
 |case2 a b cs ih=>
  intro l h
  obtain ⟨l',h1,rfl⟩:=Option.map_eq_some_iff.1 h
  rw[ih h1];rfl
 |case3 cs h1 h2=>intro l h;unfold caC' at h;split at h<;>first|exact absurd rfl h1|exact (h2 _ _ _ rfl).elim|cases h
def casV (H:List AB)(v:AV)(l:List Ld.Cart):Prop:=slCells 2 H v=some (caCs l)
def loadOf (H:List AB)(v:AV):Option Ld.Lo:=match v with
 | .agg [pv, ev, .int .i64 d, cv] => (match roadOf H (.agg [pv, ev]), (slCells 2 H cv).bind caC' with
  |some r,some cs=>if cs.length≤50 then some ⟨r,d,cs⟩ else none
  |_,_=>none)
 |_=>none
theorem yhp {H:List AB}{pv ev cv:AV}{l:Ld.Lo}(h1:roadOf H (.agg [pv,ev])=some l.road)(h2:casV H cv l.carts)(h3:l.carts.length≤50):loadOf H (.agg [pv,ev,.int .i64 l.days,cv])=some l:=by
 unfold casV at h2
 simp[loadOf,h1,h2,h3]
theorem ybu {H:List AB}{v:AV}{l:Ld.Lo}(h:loadOf H v=some l):∃ pv ev cv,v=.agg [pv,ev,.int .i64 l.days,cv]∧roadOf H (.agg [pv,ev])=some l.road∧casV H cv l.carts∧l.carts.length≤50:=by
 unfold loadOf at h
 split at h
 ·rename_i pv ev d cv
  split at h
  ·rename_i r cs h1 h2
   split at h
   ·rename_i hb
    cases h
    obtain ⟨c2,e2,f2⟩:=Option.bind_eq_some_iff.1 h2
    exact ⟨pv,ev,cv,rfl,h1,by unfold casV;rw[e2,yke f2],hb⟩
   ·cases h
  ·cases h
 ·cases h
theorem ykc (H:List AB)(l:List Ld.Cart):casV H (.vs 2 (l.map cE)) l:=by simp[casV,slCells,ydp]
theorem yee (H:List AB)(l:Ld.Lo)(hp:l.road.parts.length≤40)(he:l.road.events.length≤50)(hc:l.carts.length≤50):loadOf H (.agg (loadCs l))=some l:=yhp (zit H l.road hp he) (ykc H l.carts) hc
def daysOfC:List AV→Option (List Int)
 |[]=>some []
 |.int .i64 n::l=>(daysOfC l).map (n::·)
 |_=>none
@[simp] theorem yfr:∀ l,daysOfC (ints l)=some l
  |[]=>rfl
  |c::l=>by
   have e:ints (c::l)=.int .i64 c::ints l:=rfl
   rw[e]
   simp[daysOfC,yfr l]
theorem ycj:∀ {cs l},daysOfC cs=some l→cs=ints l
 |[],l,h=>by cases h;rfl
 |v::cs,l,h=>by
  unfold daysOfC at h
  split at h
  ·rename_i e;cases e
  ·rename_i n l' e
   obtain ⟨rfl,rfl⟩:=List.cons.inj e
   obtain ⟨ms,h1,rfl⟩:=Option.map_eq_some_iff.1 h
   rw[ycj h1];rfl
  ·cases h
def plnV (H:List AB)(v:AV)(p:List Int):Prop:=slCells 1 H v=some (ints p)
def plnOf (H:List AB)(v:AV):Option (List Int):=((slCells 1 H v).bind daysOfC).bind fun p=>if p.length≤50 then some p else none
theorem yit {H:List AB}{v:AV}{p:List Int}(h:plnV H v p)(hl:p.length≤50):plnOf H v=some p:=by
 unfold plnV at h
 simp[plnOf,h,hl]
theorem ycx {H:List AB}{v:AV}{p:List Int}(h:plnOf H v=some p):plnV H v p∧p.length≤50:=by
 unfold plnOf at h
 obtain ⟨q,h1,h2⟩:=Option.bind_eq_some_iff.1 h
 split at h2
 ·rename_i hb
  cases h2
  obtain ⟨c2,e2,f2⟩:=Option.bind_eq_some_iff.1 h1
  exact ⟨by unfold plnV;rw[e2,ycj f2],hb⟩
 ·cases h2
theorem yjv {H:List AB}{b n:Nat}{p:List Int}(h:H[b]?=some (.cells (ints p)))(hn:n=p.length):plnV H (.sl b 0 n 1) p:=by
 subst hn
 have hl:(ints p).length=p.length:=by simp[ints]
 simp only[plnV,slCells,h,if_true,Nat.zero_add,hl,Nat.le_refl,List.drop_zero,Nat.mul_one]
 rw[List.take_of_length_le (by omega)]
end Ro
namespace Ro
open K
attribute [local simp] ev1 wantG spineK spine float xnew xval xeff zab zae zau zah zai addFl cellsOf pickC alive slLen slFt binI maxA maxK minA minK aeqK aeqS AV.cells spA zad fillA setAt bitsI nat_nn zav AV.plain apart
set_option maxRecDepth 100000
set_option maxHeartbeats 4000000
theorem znv {α:Type}{p:α→Bool}{d0:List α}{n:α}{L:List α}(h:d0++[n] <+: L)(h0:∀ x∈d0,p x=false)(h1:p n=true):L.find? p=some n:=by
 obtain ⟨t,rfl⟩:=h
 rw[List.append_assoc,List.find?_append]
 have:d0.find? p=none:=List.find?_eq_none.2 fun x hx=>by rw[h0 x hx];decide
 rw[this]
 simp[h1]
def NumF (call:CallF)(F:AV)(r:Rd.Road)(xb mb eb:Nat)(H:List AB)(L:List Nat)(p:Nat→Bool):Prop:=∀ G,Kp [mb] H G→Rx r xb mb eb G→∀ n∈L,∃ G' tc,call F [.int .i64 n] G=some (.ret (.bool (p n)),G',tc)∧(∀ j∈tc,j=mb)∧Kp tc G G'∧Rx r xb mb eb G'
def findX (p:Nat→Bool)(L:List Nat):CRes:=match L.find? p with
 |some n=>.ret (.int .i64 n)
 |none=>.pan (stopV 4)
theorem zqp (C:Cfg)(hC:C.calm=true)(hwh:∀ f,C.whole f=true)(n0 m:Nat)(r:Rd.Road)(hM:MustC (Ev.call C m))(hI:CountI C (n0+1) m)(a b b1 b2:Nat)(ha:a≤1000)(hb:b≤1000)(H:List AB)(xb mb eb:Nat)(hX:Rx r xb mb eb H)(h1:H[b1]?=some (.cells [.int .i64 b]))(h2:H[b2]?=some (.cells [.int .i64 a]))(n1:b1≠mb)(n2:b2≠mb)(fl:Fn)(fa fb:List AV)(p:Nat→Bool)(hF:NumF (Ev.call C n0) (.fn fl fa fb) r xb mb eb H (countL a b) p):
  Wa C (Ev.call C m) H af108 [.fn (.func 143) [] [.ptr b1 0,.ptr b2 0],.agg [.fn fl fa fb]]
   (Fin C H.length af108 fun x hp tc=>x=findX p (countL a b)∧(∀ j∈tc,j=mb)∧Rx r xb mb eb hp):=by
 have hx:=hX.xl
 have hm:=hX.ml
 have he:=hX.el
 have hne:=hX.ne
 have hne2:=hX.ne2
 have l1:=get_lt h1
 have l2:=get_lt h2
 unfold Wa af108 Zq Zm Zl Zo Zs Zc Zt Zn Zi
 simp only[zipI]
 refine gA ?_
 refine zbz hC hwh (hI a b b1 b2 (Rx r xb mb eb) ha hb) (by simp[zab]) rfl [mb,H.length+1] (by simp;omega) (by simp)
  (fun d W G=>W=[]∧G[H.length+1]?=some (.cells [.int .i64 0])∧∀ n∈d,p n=false) (fun e d G=>e=.ret∧∃ d0 n,d=d0++[n]∧(∀ x∈d0,p x=false)∧p n=true∧G[H.length+1]?=some (.cells [.int .i64 n]))
  (fun rz=>?_) (fun G G' h k=>h.same fun j hj=>k j (by simp;omega) (by simp;omega)) (fun rz=>⟨rfl,by simp,by simp⟩) (fun rz=>(hX.app _).app _) (fun d W G G' h _ k=>?_) (fun e d G G' h k=>?_) ?_ ?_ ?_
 ·refine ⟨?_,?_,?_,?_⟩
  ·rw[List.append_assoc,List.getElem?_append_left l1];exact h1
  ·rw[List.append_assoc,List.getElem?_append_left l2];exact h2
  ·simp;omega
  ·simp;omega
 ·simp only[List.length_append,List.length_cons,List.length_nil,Nat.zero_add,Nat.add_assoc,Nat.reduceAdd] at k
  exact ⟨h.1,(k _ (get_lt h.2.1) (.inl (by omega)) (by simp) (by omega)).trans h.2.1,h.2.2⟩
 ·simp only[List.length_append,List.length_cons,List.length_nil,Nat.zero_add,Nat.add_assoc,Nat.reduceAdd] at k
  obtain ⟨q1,d0,n,q2,q3,q4,q5⟩:=h
  exact ⟨q1,d0,n,q2,q3,q4,(k _ (by omega) (by omega)).trans q5⟩
 ·rintro d s W G rz hpr ⟨rfl,hJ,hJp⟩ hY hK hl hWb
  simp only[List.length_append,List.length_cons,List.length_nil,Nat.zero_add,Nat.add_assoc,Nat.reduceAdd] at hl ⊢
  rw[setP1]
  refine gA ?_
  refine ⟨trivial,trivial,?_⟩
  obtain ⟨G2,hG2,k1,k2,k3,k4⟩:=zdg (G:=G) (l:=H.length+3) (.loop rz) (by omega)
  rw[← hG2]
  clear hG2
  have e0:=(k3 H.length (by omega)).trans (hK.at (b:=H.length) (x:=.cells [.fn fl fa fb]) (by simp) (by simp;omega))
  have e1:=(k3 (H.length+1) (by omega)).trans hJ
  have hX2:Rx r xb mb eb G2:=hY.kp k4 (by simp;omega) (by simp;omega) (by simp;omega)
  have hKH : Kp [mb] H G2 := ⟨by omega, fun b hb hn => by
   rw[k3 b (by omega),hK.get b (by simp;omega) (by simp at hn ⊢;omega),List.getElem?_append_left hb]⟩
  obtain ⟨H3,tc3,c1,c2,c3,c4⟩:=hF G2 hKH hX2 s (hpr.subset (by simp))
  have nt:∀ {j},H.length≤j→j∉tc3:=fun hj ht=>by have:=c2 _ ht;omega
  obtain ⟨x0,x1,x2,x3,x4,x5⟩:=bk' e0
  obtain ⟨y0,y1,y2,y3,y4,y5⟩:=bk' (c3.at e1 (nt (by omega)))
  have k23:=c3.at k2 (nt (by omega))
  have HA:=hideP (And.intro c2 (And.intro c4 (And.intro k23 hJp)))
  have h99:¬ H.length+1=H.length+3:=by omega
  clear c2 c4 k23 hJp hF hX hX2 hKH hY hK hpr hJ e0 e1 k1 k2 k3 k4 c3 nt hM hI
  cases hp:p s with
  |true=>
   rw[hp] at c1
   refine gA ?_
   obtain ⟨c2,c4,k23,hJp⟩:=HA.out
   have k:Kp [H.length+1] H3 (H3.set (H.length+1) (.cells [.int .i64 s])):=(Kp.refl _ _).set _ _ (by simp)
   refine ⟨by simp,k.at k23 (by simp),fun j hj=>?_,c4.kp k (by simp;omega) (by simp;omega) (by simp;omega),(fun h=>by cases h),fun _=>⟨rfl,d,s,rfl,hJp,hp,by rw[List.getElem?_set_self y0]⟩,fun _ _ h=>h.elim⟩
   simp at hj ⊢
   rcases hj with h|h|h
   ·exact .inr (.inr (by omega))
   ·exact .inr (.inl (c2 j h.1))
   ·exact .inl h
  |false=>
   rw[hp] at c1
   refine gA ?_
   obtain ⟨c2,c4,k23,hJp⟩:=HA.out
   refine ⟨by simp,k23,fun j hj=>?_,c4,fun _=>⟨[],by simp,rfl,y1,fun n hn=>?_⟩,fun h=>absurd rfl h,fun _ _ h=>h.elim⟩
   ·simp at hj ⊢
    rcases hj with h|h
    ·exact .inr (.inl (c2 j h.1))
    ·exact .inl h
   ·rcases List.mem_append.1 hn with h|h
    ·exact hJp n h
    ·simp at h;rw[h];exact hp
 ·rintro H' tc W g1 g2 g3 g4 g5 g6 ⟨rfl,g7,g8⟩
  simp only[List.length_append,List.length_cons,List.length_nil,Nat.zero_add,Nat.add_assoc,Nat.reduceAdd,List.nil_append,List.append_nil] at g1 g4 g5 ⊢
  simp only[OutB,Then]
  have hmf:=hM.f
  have hfx:findX p (countL a b)=.pan (stopV 4):=by
   unfold findX
   rw[List.find?_eq_none.2 fun x hx=>by rw[g8 x hx];decide]
  rw[hfx]
  have HA:=hideP (And.intro g1 g3)
  have HD:=hideP g4
  clear g1 g2 g3 g4 g6 g7 g8 hI hX hM hF hfx h1 h2
  refine gD ?_
  obtain ⟨g1,g3⟩:=HA.out
  refine zfy rfl HD.out (by omega) (by simp only;omega) ⟨rfl,fun j hj=>?_,g3.kp ((Kp.refl [H.length+2] H').set _ _ (by simp)) (by simp;omega) (by simp;omega) (by simp;omega)⟩
  simp at hj
  have:=g1 j (by first|exact hj.1|(rcases hj with h|h;exact h.1;exact h.1)) (by omega)
  simp at this
  omega
 ·rintro e d H' tc g0 g1 g2 g3 g4 g5 g6 ⟨rfl,d0,n,rfl,g7,g8,g9⟩
  simp only[List.length_append,List.length_cons,List.length_nil,Nat.zero_add,Nat.add_assoc,Nat.reduceAdd,List.nil_append,List.append_nil] at g1 g4 g5 ⊢
  simp only[OutB,Then]
  have hfx:findX p (countL a b)=.ret (.int .i64 n):=by
   unfold findX
   rw[znv g6 g7 g8]
  rw[hfx]
  refine znw (v:=.int .i64 n) (.inl rfl) rfl g4 (by omega) (by simp only;omega) (by simp only[resL,resOf,zaa];simp[resV,pickC,List.getElem?_set_ne,g9]) ⟨rfl,fun j hj=>?_,g3.kp ((Kp.refl [H.length+2] H').set _ _ (by simp)) (by simp;omega) (by simp;omega) (by simp;omega)⟩
  simp at hj
  have:=g1 j (by first|exact hj.1|(rcases hj with h|h;exact h.1;exact h.1)) (by omega)
  simp at this
  omega
def CountC (call:CallF):Prop:=∀ (H:List AB) (a b:Int),call (.fn (.func 109) [] []) [.int .i64 a,.int .i64 b] H=some (.ret (.fn (.func 143) [] [.ptr (H.length+1) 0,.ptr H.length 0]),H++[.cells [.int .i64 a],.cells [.int .i64 b]],[])
theorem zqx (C:Cfg)(call:CallF)(H:List AB)(a b:Int):Wb C call H af109 [.int .i64 a,.int .i64 b]
  (fun w hp tc=>w=.fn (.func 143) [] [.ptr (H.length+1) 0,.ptr H.length 0]∧hp=H++[.cells [.int .i64 a],.cells [.int .i64 b]]∧tc=[]):=by
 unfold Wb Wa af109 Zq Zm Zo Zt
 simp only[zipI]
 refine gA ?_
 exact zac (.inl rfl) rfl (by simp) (by simp only[resL,resOf,zaa];simp[*,resV]) ⟨rfl,rfl,rfl⟩
def FirstNC (call call0:CallF)(r:Rd.Road):Prop:=∀ (a b b1 b2:Nat),a≤1000→b≤1000→∀ (H:List AB) (xb mb eb:Nat),Rx r xb mb eb H→H[b1]?=some (.cells [.int .i64 b])→H[b2]?=some (.cells [.int .i64 a])→b1≠mb→b2≠mb→∀ (fl:Fn) (fa fb:List AV) (p:Nat→Bool),NumF call0 (.fn fl fa fb) r xb mb eb H (countL a b) p →
 ∃ H' tc,call (.fn (.func 108) [] []) [.fn (.func 143) [] [.ptr b1 0,.ptr b2 0],.agg [.fn fl fa fb]] H=some (findX p (countL a b),H',tc)∧(∀ j∈tc,j=mb)∧Kp tc H H'∧Rx r xb mb eb H'
theorem ztm (C:Cfg)(call:CallF)(r:Rd.Road)(hS:SureC call r)(H:List AB)(xb mb eb:Nat)(hX:Rx r xb mb eb H)(n:Nat)(load:Int)(hL:LOk n load)(b1 b2:Nat)(h1:H[b1]?=some (.cells [.ptr xb 0]))(h2:H[b2]?=some (.cells [.int .i64 load])):
  Wb C call H af110 [.int .i64 n,.ptr b1 0,.ptr b2 0]
   (fun v hp tc=>v=.bool (Rd.sureR r n load)∧(∀ j∈tc,j=mb)∧Rx r xb mb eb hp):=by
 obtain ⟨H',tc,c1,c2,c3,c4⟩:=hS H xb mb eb hX n load hL
 obtain ⟨x0,x1,x2,x3,x4,x5⟩:=bk' h1
 obtain ⟨y0,y1,y2,y3,y4,y5⟩:=bk' h2
 have HQ:=hideP (And.intro c2 (And.intro c3.len c4))
 clear hS hX h1 h2 c2 c3 c4 hL
 generalize Rd.sureR r n load=b at *
 unfold Wb Wa af110 Zq Zm Zl Zo Zc Zt
 simp only[zipI]
 refine gA ?_
 exact zac (.inl rfl) rfl HQ.out.2.1 (by simp only[resL,resOf,zaa];simp[*,resV]) ⟨rfl,fun j hj=>HQ.out.1 j (List.mem_filter.1 (by simpa using hj:j∈tc.filter (·<H.length))).1,HQ.out.2.2⟩
def Rest3C (call:CallF)(r:Rd.Road):Prop:=∀ (H:List AB) (xb mb eb:Nat),Rx r xb mb eb H→∀ (n:Nat) (load:Int),LOk n load→∀ b1 b2:Nat,H[b1]?=some (.cells [.ptr xb 0])→H[b2]?=some (.cells [.int .i64 load])→∃ H' tc,call (.fn (.func 110) [] [.ptr b1 0,.ptr b2 0]) [.int .i64 n] H=some (.ret (.bool (Rd.sureR r n load)),H',tc)∧(∀ j∈tc,j=mb)∧Kp tc H H'∧Rx r xb mb eb H'
def findRV (r:Rd.Road)(is:Bool)(o:Option Nat):AV:=.tup [.int .i64 (if Rd.errR r is=0 then ((o.getD 0:Nat):Int) else 0),.int .i64 (if Rd.errR r is=0 then (if o.isSome then 0 else 4) else Rd.errR r is)]
theorem zhb (p:Nat→Bool)(L:List Nat):(∃ n,L.find? p=some n∧findX p L=.ret (.int .i64 n))∨(L.find? p=none∧findX p L=.pan (.iface 161 (.agg [.int .i64 4]))):=by
 unfold findX
 cases h:L.find? p with
 |none=>exact .inr ⟨rfl,rfl⟩
 |some n=>exact .inl ⟨n,rfl,rfl⟩
theorem zml:countL 0 10=List.range 11:=rfl
theorem ztl (C:Cfg)(call call0 call1:CallF)(r:Rd.Road)(hdf:C.dfk 106=some (161,true))(hHd:∀ H F is,IsFn call0 r F is H→HeadQ call r H F is)(hCo:CountC call)(hFi:Rd.valid r=true→FirstNC call call1 r)(hM2:Rd.valid r=true→Rest3C call1 r)(load:Int)
  (hF:IsFn call0 r (.fn (.func 107) [] [.ptr 1 0]) (Rd.isLoad load) [.cells (roadCs r),.cells [.int .i64 load],.cells [.int .i64 0]]):
  Wa C call [] af44 [.agg (roadCs r),.int .i64 load]
   (Fin C ([]:List AB).length af44 (Ans (findRV r (Rd.isLoad load) (Rd.restR r load)))):=by
 have ho:=hHd [.cells (roadCs r),.cells [.int .i64 load],.cells [.int .i64 0]] _ _ hF
 unfold findRV
 unfold CountC at hCo
 generalize hb:Rd.isLoad load=is at *
 unfold Wa af44 Zq Zm Zo Zs Zc Zt Zn Zi
 rcases ho with ⟨e,h1,h2,h3⟩|⟨h1,H1,xb,H2,tc,h3,h4,h5,h6⟩|⟨h1,H1,xb,mb,eb,H2,tc,h3,h4,h5,h6,h7,h8,h9,h10⟩
 ·rw[h1,if_neg h2,if_neg h2]
  clear hHd hCo hFi hM2 hF h1 hb
  simp only[zipI,roadCs] at *
  refine gD ?_
  refine zbl (v:=.tup [.int .i64 0,.int .i64 e]) hdf rfl (by simp only;rfl) (by simp only[resL,resOf,zaa];simp[resV,pickC]) ⟨by simp,by simp⟩
 ·rw[h1,if_neg (by decide),if_neg (by decide)]
  have e4:H2[2]?=some (.cells [.int .i64 0]):=h5.at rfl (by simp)
  clear hHd hCo hFi hM2 hF h1 h5 h6 hb
  simp only[zipI,roadCs] at *
  refine gD ?_
  refine zbl (v:=.tup [.int .i64 0,.int .i64 10]) hdf rfl (by simp only;exact e4) (by simp only[resL,resOf,zaa];simp[resV,pickC,List.getElem?_set_self (get_lt e4)]) ⟨by simp,by simp⟩
 ·obtain ⟨hi,hf,hcan⟩:=Rd.errR_zero h1
  subst hi
  rw[h1,if_pos rfl,if_pos rfl]
  have hv:Rd.valid r=true:=(Rd.valid_iff r).2 hf
  have hml:=h7.ml
  have h2l:2<H2.length:=by have:=h5.len;simp at this;omega
  have el:H2[1]?=some (.cells [.int .i64 load]):=h5.at rfl (by simp)
  obtain ⟨H3, tc3, k1, k2, k3, k4⟩ := hFi hv 0 10 (H2.length + 2) (H2.length + 1) (by decide) (by decide) (H2 ++ [.cells [.ptr xb 0], .cells [.int .i64 0], .cells [.int .i64 10]]) xb mb eb (h7.app _) (by simp) (by simp) (by omega) (by omega) (.func 110) [] [.ptr H2.length 0, .ptr 1 0] (fun n : Nat => Rd.sureR r n load) (by
   intro G k hG n hn
   rw[zml] at hn
   have:=List.mem_range.1 hn
   exact hM2 hv G xb mb eb hG n load (zkn hb (by omega) (by omega)) H2.length 1 (k.at (by simp) (by simp;omega)) (k.at (by rw[List.getElem?_append_left (by omega)];exact el) (by simp at h9 ⊢;omega)))
  have e3:H3[2]?=some (.cells [.int .i64 0]):=k3.at (by rw[List.getElem?_append_left (by omega)];exact h5.at rfl (by simp)) (fun h=>by have:=k2 _ h;simp at h9;omega)
  have hmo:(countL 0 10).find? (fun n:Nat=>Rd.sureR r n load)=Rd.restR r load:=rfl
  obtain ⟨f0,f1,f2,f3,f4,f5⟩:=bk' e3
  have k1':=k1
  clear hHd hFi hM2 hF h1 h5 h6 h7 h8 h9 h10 hv hf hcan k2 k3 k4 hb el
  simp only[zipI,roadCs] at *
  rcases zhb (fun n:Nat=>Rd.sureR r n load) (countL 0 10) with ⟨n,q1,q2⟩|⟨q1,q2⟩
  ·rw[q2] at k1'
   rw[hmo] at q1
   rw[q1]
   clear k1 q2 hmo q1 e3 hml
   refine gD ?_
   refine zdk (v:=.tup [.int .i64 n,.int .i64 0]) (.inl rfl) hdf rfl (by simp) (by simp only[resL,resOf,zaa];simp[resV,pickC,f0]) ⟨by simp,by simp⟩
  ·rw[q2] at k1'
   rw[hmo] at q1
   rw[q1]
   clear k1 q2 hmo q1 hml
   refine gD ?_
   refine zbl (v:=.tup [.int .i64 0,.int .i64 4]) hdf rfl (by simp only;exact e3) (by simp only[resL,resOf,zaa];simp[resV,pickC,List.getElem?_set_self f0]) ⟨by simp,by simp⟩
def wkT (r:Rd.Road):Nat→Nat × Int
 |0=>(0,0)
 |i+1=>(Rd.weakN r i,(Rd.heightsR r (Rd.weakN r i) r.events.length).lo)
theorem zwo (r:Rd.Road):wkT r 1=(0,(Rd.heightsR r 0 r.events.length).lo):=rfl
theorem wkT_lt (r:Rd.Road){i:Nat}(h0:i≠0)(h:(Rd.heightsR r i r.events.length).lo<(wkT r i).2):wkT r (i+1)=(i,(Rd.heightsR r i r.events.length).lo):=by
 cases i with
 |zero=>exact absurd rfl h0
 |succ k=>
  have h:(Rd.heightsR r (k+1) r.events.length).lo<(Rd.heightsR r (Rd.weakN r k) r.events.length).lo:=h
  show (Rd.weakN r (k+1),_)=_
  have:Rd.weakN r (k+1)=k+1:=by rw[Rd.weakN,if_pos h]
  rw[this]
theorem wkT_ge (r:Rd.Road){i:Nat}(h0:i≠0)(h:¬ (Rd.heightsR r i r.events.length).lo<(wkT r i).2):wkT r (i+1)=wkT r i:=by
 cases i with
 |zero=>exact absurd rfl h0
 |succ k=>
  have h:¬ (Rd.heightsR r (k+1) r.events.length).lo<(Rd.heightsR r (Rd.weakN r k) r.events.length).lo:=h
  show (Rd.weakN r (k+1),_)=(Rd.weakN r k,_)
  have:Rd.weakN r (k+1)=Rd.weakN r k:=by rw[Rd.weakN,if_neg h]
  rw[this]
theorem zrt (C:Cfg)(hC:C.calm=true)(call call0:CallF)(r:Rd.Road)(hdf:C.dfk 145=some (161,true))(hHd:∀ H F is,IsFn call0 r F is H→HeadQ call r H F is)(hHs:Rd.valid r=true→HeightsC call r)
  (hF:IsFn call0 r (.fn (.func 146) [] []) true [.cells (roadCs r),.cells [.int .i64 0]]):
  Wa C call [] af112 [.agg (roadCs r)]
   (Fin C ([]:List AB).length af112 (Ans (numRV r true (Rd.weakR r)))):=by
 have ho:=hHd [.cells (roadCs r),.cells [.int .i64 0]] _ _ hF
 unfold numRV
 unfold Wa af112 Zq Zm Zl Zo Zs Zc Zt Zn Zi
 rcases ho with ⟨e,h1,h2,h3⟩|⟨h1,H1,xb,H2,tc,h3,h4,h5,h6⟩|⟨h1,H1,xb,mb,eb,H2,tc,h3,h4,h5,h6,h7,h8,h9,h10⟩
 ·rw[h1,if_neg h2]
  clear hHd hHs hF h1
  simp only[zipI,roadCs] at *
  refine gD ?_
  refine zbl (v:=.tup [.int .i64 0,.int .i64 e]) hdf rfl (by simp only;rfl) (by simp only[resL,resOf,zaa];simp[resV,pickC]) ⟨by simp,by simp⟩
 ·rw[h1,if_neg (by decide)]
  have e4:H2[1]?=some (.cells [.int .i64 0]):=h5.at rfl (by simp)
  clear hHd hHs hF h1 h5 h6
  simp only[zipI,roadCs] at *
  refine gD ?_
  refine zbl (v:=.tup [.int .i64 0,.int .i64 10]) hdf rfl (by simp only;exact e4) (by simp only[resL,resOf,zaa];simp[resV,pickC,List.getElem?_set_self (get_lt e4)]) ⟨by simp,by simp⟩
 ·obtain ⟨_,hf,hcan⟩:=Rd.errR_zero h1
  rw[h1,if_pos rfl]
  have hv:Rd.valid r=true:=(Rd.valid_iff r).2 hf
  have hml:=h7.ml
  have hnp:=hf.parts
  have e0:H2[0]?=some (.cells (roadCs r)):=h5.at rfl (by simp)
  have e1:H2[1]?=some (.cells [.int .i64 0]):=h5.at rfl (by simp)
  obtain ⟨f0,f1,f2,f3,f4,f5⟩:=bk' e0
  have hHs':=hHs hv
  have hwk:(Rd.weakR r:Int)=(wkT r r.parts.length).1:=by
   obtain ⟨k,hk⟩:∃ k,r.parts.length=k+1:=⟨r.parts.length - 1,by omega⟩
   unfold Rd.weakR
   rw[hk];rfl
  rw[hwk]
  have HX:=hideP (And.intro hHs' (And.intro h7 (And.intro e0 (And.intro e1 h9))))
  clear hHd hHs hF h1 h5 h6 h7 h8 h9 h10 hv hf hcan hHs' e0 e1 hwk
  simp only[zipI,roadCs] at *
  refine gD ?_
  with_reducible refine zan hC r.parts.length (by unfold fuelL;omega) (fun i st=>∃ hp,Rx r xb mb eb hp∧hp[0]?=some (.cells (roadCs r))∧hp[1]?=some (.cells [.int .i64 0])∧st={ tm:=tmA 37 [(16,.int .i64 i),(15,.int .i64 r.parts.length),(6,.int .i64 (wkT r i).2),(5,.int .i64 (wkT r i).1),(4,.ptr xb 0),(3,.ptr 1 0),(1,.ptr 0 0)],df:=[.call 145 [.ptr 1 0]],hp:=hp,tc:=[] }) ?_ ?_ ?_
  ·refine ⟨H2,HX.out.2.1,HX.out.2.2.1,HX.out.2.2.2.1,?_⟩
   refine st_is ?_ rfl rfl ?_
   ·simp[zag,zal,wkT]
   ·simp
  ·clear f0 f1 f2 f3 f4 f5
   rintro i st hi ⟨hp,k1,k2,k3,rfl⟩
   obtain ⟨hHs,h7,e0,e1,h9⟩:=HX.out
   simp at h9
   obtain ⟨H3,tc3,c1,c2,c3,c4⟩:=hHs hp xb mb eb k1 i hi r.events.length (Nat.le_refl _)
   obtain ⟨f0,f1,f2,f3,f4,f5⟩:=bk' k2
   have nt:∀ j,j<2→j∉tc3:=fun j hj h=>by have:=c2 _ h;omega
   have HA:=hideP (And.intro c4 (And.intro (c3.at k2 (nt 0 (by decide))) (c3.at k3 (nt 1 (by decide)))))
   have hwi:IntKind.i64.wrap (↑i+1)=↑i+1:=zaf (by omega) (by omega)
   have hcase:(i=0∧wkT r (i+1)=(0,(Rd.heightsR r i r.events.length).lo))∨(i≠0∧(Rd.heightsR r i r.events.length).lo<(wkT r i).2∧wkT r (i+1)=(i,(Rd.heightsR r i r.events.length).lo))∨(i≠0∧¬ (Rd.heightsR r i r.events.length).lo<(wkT r i).2∧wkT r (i+1)=wkT r i):=by
    by_cases h0:i=0
    ·subst h0;exact .inl ⟨rfl,zwo r⟩
    ·by_cases hlt:(Rd.heightsR r i r.events.length).lo<(wkT r i).2
     ·exact .inr (.inl ⟨h0,hlt,wkT_lt r h0 hlt⟩)
     ·exact .inr (.inr ⟨h0,hlt,wkT_ge r h0 hlt⟩)
   clear c2 c3 c4 hHs h7 e0 e1 nt k1 k3 k2
   simp only[roadCs] at f1 f2 f4 f5
   generalize Rd.heightsR r i r.events.length=sp at *
   rcases hcase with ⟨rfl,h2⟩|⟨h0,hlt,h2⟩|⟨h0,hlt,h2⟩
   ·have HW:=hideP h2
    clear h2
    have hw1:IntKind.i64.wrap 1=1:=by decide
    simp only[Int.natCast_zero] at *
    refine gA ?_
    refine ⟨_,HA.out.1,HA.out.2.1,HA.out.2.2,?_⟩
    rw[HW.out]
    refine st_is ?_ rfl rfl ?_
    ·simp[zag,zal]
    ·simp
   ·have h0':((i:Int)==0)=false:=by simp;omega
    have HW:=hideP h2
    clear h2
    generalize wkT r i=wt at *
    refine gA ?_
    refine ⟨_,HA.out.1,HA.out.2.1,HA.out.2.2,?_⟩
    rw[HW.out]
    refine st_is ?_ rfl rfl ?_
    ·simp[zag,zal]
    ·simp
   ·have h0':((i:Int)==0)=false:=by simp;omega
    have HW:=hideP h2
    clear h2
    generalize hwt:wkT r i=wt at *
    refine gA ?_
    refine ⟨_,HA.out.1,HA.out.2.1,HA.out.2.2,?_⟩
    rw[HW.out]
    refine st_is ?_ rfl rfl ?_
    ·simp[zag,zal]
    ·simp
  ·rintro st ⟨hp,k1,k2,k3,rfl⟩
   obtain ⟨g0,g1,g2,g3,g4,g5⟩:=bk' k3
   clear f0 f1 f2 f3 f4 f5 k1 k2 k3
   generalize wkT r r.parts.length=wt at *
   refine gA ?_
   refine zdk (v:=.tup [.int .i64 wt.1,.int .i64 0]) (.inl rfl) hdf rfl (by simp) (by simp only[resL,resOf,zaa];simp[resV,pickC,g0]) ⟨by simp,by simp⟩
end Ro
namespace Ro
open K
open Clm (setOf setOf_lt setOf_or setOf_andn setOf_congr)
set_option maxRecDepth 100000
set_option maxHeartbeats 4000000
end Ro
namespace Ro
open K
set_option maxRecDepth 100000
set_option maxHeartbeats 4000000
structure Knows (C:Cfg):Prop where
 calm:C.calm=true
 wh:∀ f,C.whole f=true
 within:Has C 133 af133
 isLoad:Has C 101 af101
 always:Has C 146 af146
 isPart:Has C 134 af134
 every:Has C 136 af136
 isSpan:Has C 131 af131
 must:Has C 132 af132
 sunk:Has C 165 af165
 rested:Has C 163 af163
 look:Has C 198 af198
 pass:Has C 197 af197
 rest:∀ n (H:List AB) (d:Int) (p:Rd.Tr),TrOk p→∀ h l:Int,-1000000≤h→h≤1000000→0≤d→d≤1000→Ev.call C (n+1) (.fn (.func 199) [] []) [.agg [.int .i64 d],.agg [.int .i64 p.stiff,.int .i64 p.rise,.int .i64 p.full],.int .i64 h,.int .i64 l] H=some (.ret (.int .i64 (Rd.rested p h d)),H,[])
 height:Has C 164 af164
 first:Has C 162 af162
 parts:Has C 161 af161
 parts1:Has C 174 af174
 ways:Has C 139 af139
 all:Has C 159 af159
 all1:Has C 172 af172
 all11:Has C 173 af173
 told:Has C 137 af137
 told1:Has C 158 af158
 can:Has C 135 af135
 known:Has C 102 af102
 joined:Has C 175 af175
 span:Has C 166 af166
 heights:Has C 147 af147
 heights1:Has C 167 af167
 left:Has C 141 af141
 index:Has C 160 af160
 cont:Has C 138 af138
 sure:Has C 103 af103
 sure1:Has C 140 af140
 may:Has C 104 af104
 may1:Has C 142 af142
 open_ : Has C 99 af99
 count:Has C 109 af109
 count1:Has C 143 af143
 firstN:Has C 108 af108
 bears2:Has C 100 af100
 rest2:Has C 107 af107
 rest3:Has C 110 af110
 eBears:Has C 36 af36
 eRest:Has C 44 af44
 eWeak:Has C 112 af112
 dfBears:C.dfk 97=some (161,true)
 dfRest:C.dfk 106=some (161,true)
 dfWeak:C.dfk 145=some (161,true)
section
variable {C:Cfg} (k:Knows C)
include k
theorem withinL (n:Nat):WithinC (Ev.call C (n+1)):=fun H a b c=>zaj k.calm k.within (le' rfl) rfl (zon C _ H a b c)
theorem isLoadL (n:Nat):IsLoadC (Ev.call C (n+2)):=fun H a=>zaj k.calm k.isLoad (le' rfl) rfl (zqh C _ (withinL k n) H a)
theorem isSpanL (n:Nat):IsSpanC (Ev.call C (n+1)):=fun H s a b w h1 h2=>zaj k.calm k.isSpan (le' rfl) rfl (zqf C _ H s a b w h1 h2)
theorem alwaysL (n:Nat)(H:List AB)(v:AV):Ev.call C (n+1) (.fn (.func 146) [] []) [v] H=some (.ret (.bool true),H,[]):=zaj k.calm k.always (le' rfl) rfl (zro C _ H v)
theorem mustL (n:Nat):MustC (Ev.call C (n+1)) where
 t H e:=by
  obtain ⟨x,hp,tc,H',c1,⟨rfl,rfl⟩,_,_,c7⟩:=zdl (n:=n) (first:=[]) (captured:=[]) (args:=[.bool true,.int .i64 e]) k.calm k.must (le' rfl) (zua C _ H e)
  rw[c1,c7 rfl rfl]
 f H e:=by
  obtain ⟨x,hp,tc,H',c1,⟨rfl,rfl⟩,_,_,c7⟩:=zdl (n:=n) (first:=[]) (captured:=[]) (args:=[.bool false,.int .i64 e]) k.calm k.must (le' rfl) (zub C _ H e)
  rw[c1,c7 rfl rfl]
theorem sunkL (n:Nat):SunkC (Ev.call C (n+1)):=fun H p hp l h0 h1=>zaj k.calm k.sunk (le' rfl) rfl (zww C _ H p hp l h0 h1)
theorem restedL (n:Nat):RestedC (Ev.call C (n+1)):=fun H p hp h d h0 h1 d0 d1=>zaj (first:=[.agg [.int .i64 p.stiff,.int .i64 p.rise,.int .i64 p.full]]) k.calm k.rested (le' rfl) rfl (zpi C _ H p hp h d h0 h1 d0 d1)
theorem aftL (n:Nat):AftC (Ev.call C (n+2)) where
 look H p h l:=zaj k.calm k.look (le' rfl) rfl (zuq C _ H p h l)
 pass H p hp h l h0 h1 l0 l1:=zaj k.calm k.pass (le' rfl) rfl (ztr C _ (sunkL k n) H p hp h l h0 h1 l0 l1)
 rest H d p hp h l h0 h1 d0 d1:=k.rest (n+1) H d p hp h l h0 h1 d0 d1
theorem partsNL (n:Nat):PartsC (Ev.call C (n+1)):=fun H xb a=>zew k.calm k.parts (le' rfl) (by simp[refs,refsL]) (zpu C _ H xb a)
theorem allNL (n:Nat):AllC (Ev.call C (n+1)):=fun H xb=>zew k.calm k.all (le' rfl) (by simp[refs,refsL]) (zzc C _ H xb)
theorem toldNL (n:Nat):ToldC (Ev.call C (n+1)):=fun H xb a=>zew k.calm k.told (le' rfl) (by simp[refs,refsL]) (zsa C _ H xb a)
theorem countNL (n:Nat):CountC (Ev.call C (n+1)):=fun H a b=>zew k.calm k.count (le' rfl) (by simp[refs,refsL]) (zqx C _ H a b)
theorem joinL (n:Nat):JoinC (Ev.call C (n+1)):=fun H v ds hv hl=>zaj k.calm k.joined (le' rfl) rfl (zqd C k.calm _ H v ds hv hl)
theorem isPartL {r:Rd.Road}(hr:r.parts.length≤1000)(n:Nat):IsPartC (Ev.call C (n+2)) r:=fun H xb w z hy a=>zaj k.calm k.isPart (le' rfl) rfl (zqg C _ (withinL k n) r hr H xb w z hy a)
theorem indexL (n:Nat):IndexC (Ev.call C (n+1)) (Ev.call C n):=by
 intro H v ws hv hl fl fa fb p hF
 obtain ⟨w,hp,tc,H',c1,⟨q,rfl,c2,rfl⟩,_,_,_,c7⟩:=zcw (first:=[]) (captured:=[]) (args:=[v,.fn fl fa fb]) k.calm k.wh k.index (le' rfl) (zqi C k.calm _ H v ws hv hl fl fa fb p hF)
 exact ⟨q,by rw[c1,c7 rfl rfl],c2⟩
theorem contL (n:Nat):ContC (Ev.call C (n+2)) (Ev.call C n):=fun H v ws hv hl fl fa fb p hF=>zaj k.calm k.cont (le' rfl) rfl (zvr C _ _ (indexL k n) H v ws hv hl fl fa fb p hF)
variable {r:Rd.Road} (hr:Rd.Fine r)
include hr
theorem everyL (n:Nat):EveryC (Ev.call C (n+1)) r:=fun H xb w z hy=>zaj k.calm k.every (le' rfl) rfl (zvl C _ r (by have:=hr.events;omega) H xb w z hy)
theorem heightL (n:Nat):HeightC (Ev.call C (n+3)) r:=fun H xb mb eb hX p hp h b1 b2 f hf many hm=>zaj k.calm k.height (le' rfl) rfl (zql C k.calm _ (aftL k n) r hr H xb mb eb hX p hp h b1 b2 f hf many hm)
theorem firstL (n:Nat):FirstC (Ev.call C (n+4)) r:=by
 intro H xb mb eb hX q hq
 obtain ⟨es,hm,hes⟩:=hX.m
 rcases zkg hr.events q hes with h|h
 ·obtain ⟨es',h1,h2⟩:=znk hr.events q hes
  obtain ⟨v,hp,tc,H',c1,⟨rfl,rfl,c3⟩,c5,_,_⟩:=zbm (n:=n+3) (first:=[]) (captured:=[]) (args:=[.ptr xb 0,qA q]) k.calm k.first.ext k.first.exth k.first.fns k.first.whole (le' rfl)
   (zqq C k.calm _ r hr (heightL k hr n) H xb mb eb hX q hq es es' hm h h1)
  refine ⟨H',_,c1,by simp,c5.kp,hX.ne,hX.ne2,c5.kp.at hX.x (by simp[hX.ne]),fun hn=>c5.kp.at (hX.e hn) (by simp[hX.ne2]),Nat.lt_of_lt_of_le hX.el c5.len,es',?_,h2⟩
  rw[c5.got mb (get_lt hm) (by simp)];exact c3
 ·obtain ⟨v,hp,tc,H',c1,⟨rfl,rfl⟩,c5,_,c7⟩:=zbm (n:=n+3) (first:=[]) (captured:=[]) (args:=[.ptr xb 0,qA q]) k.calm k.first.ext k.first.exth k.first.fns k.first.whole (le' rfl)
   (zve C _ r H xb mb eb hX q es hm h)
  exact ⟨H',_,c1,by simp,c5.kp,hX.kp c5.kp (by simp) (by simp) (by simp)⟩
theorem waysL (n:Nat):WaysC (Ev.call C (n+7)) r:=by
 intro H xb mb eb hX i hi f hf looks
 obtain ⟨v,hp,tc,H',c1,⟨c2,c3,c4⟩,c5,c6,c7,c8⟩:=zcw (n:=n+6) (first:=[]) (captured:=[]) (args:=[.ptr xb 0,.int .i64 i,.agg (arr10 f),.int .u64 looks]) k.calm k.wh k.ways (le' rfl)
  (zru C k.calm k.wh (n+4) r hr (partsNL k (n+5)) (ztt k.calm hr k.parts1) (firstL k hr n) H xb mb eb hX i hi f hf looks)
 refine ⟨v,H',tc,c1,c2,c6,?_⟩
 by_cases hv:refs v=[]∧tc=[]
 ·have hH:=c8 hv.1 hv.2
  rw[hH]
  refine ⟨hX,?_⟩
  obtain ⟨W,hW⟩:=c4
  generalize hws:Rd.waysR r i (lsOf r.events.length f) looks=ws at hW
  cases hW with
  |none=>exact ⟨[],by rw[hws];exact .none⟩
  |some b ws z1 z2 z3=>simp[refs] at hv
 ·have hH : H' = hp := c7 (by
   by_cases h:tc=[]
   ·exact .inl fun h2=>hv ⟨h2,h⟩
   ·exact .inr h)
  rw[hH];exact ⟨c3,c4⟩
theorem toldIL (n:Nat):ToldI C (n+7) (n+r.events.length+11) r:=by
 have h1:=zyz k.calm k.wh hr k.all11 k.all1 (n+8)
 rw[show n+8+r.events.length+2=n+r.events.length+10 by omega] at h1
 exact zry (m:=n+r.events.length+10) k.calm k.wh hr k.told1 (allNL k _) h1 (waysL k hr n)
theorem canL (n:Nat):CanC (Ev.call C (n+r.events.length+12)) r:=fun H xb mb eb hX looks=>
 zdr k.calm k.wh k.can (le' rfl) rfl hX (zyt C k.calm k.wh (n+6) (n+r.events.length+11) r (toldNL k _) (toldIL k hr n) H xb mb eb hX looks)
theorem knownL (n:Nat):KnownC (Ev.call C (n+r.events.length+13)) r:=by
 intro H xb mb eb hX
 obtain ⟨x,hp,tc,H',c1,⟨c2,c3,c4,rfl⟩,c5,c6,c7⟩:=zdl (n:=n+r.events.length+12) (first:=[]) (captured:=[]) (args:=[.ptr xb 0]) k.calm k.known (le' rfl)
  (zqc C _ (mustL k _) r (everyL k hr _) (canL k hr n) H xb mb eb hX)
 have hs:=c5.same c3
 have hX':Rx r xb mb eb H':=by
  refine c4.same fun j hj=>hs j ?_
  have:=hX.xl;have:=hX.ml;have:=hX.el
  rcases hj with rfl|rfl|rfl<;>assumption
 exact ⟨H',tc,c2,⟨c5.len,fun b hb ht=>(hs b hb).trans (c3.get b hb ht)⟩,hX',c1⟩
theorem spanL (n:Nat):SpanC (Ev.call C (n+r.events.length+13)) (Ev.call C (n+7)) r:=by
 intro H xb mb eb hX i hi fl fa fb g hF
 have h1:=toldIL k hr (n+1)
 rw[show n+1+r.events.length+11=n+r.events.length+12 by omega] at h1
 exact zdr k.calm k.wh k.span (le' rfl) rfl hX (zsp C k.calm k.wh (n+7) (n+r.events.length+12) r hr (toldNL k _) h1 (everyL k hr _) (everyL k hr _) (waysL k hr n) (joinL k _) H xb mb eb hX i hi fl fa fb g hF)
theorem leftL (n:Nat):LeftC (Ev.call C (n+4)) r:=fun H xb mb eb hX w hp h b1 b2 f hf days load hL=>zaj k.calm k.left (le' rfl) rfl (zyd C _ r hr (heightL k hr n) (restedL k (n+2)) (sunkL k (n+2)) H xb mb eb hX w hp h b1 b2 f hf days load hL)
theorem sure1L (n:Nat):Sure1C (Ev.call C (n+5)) r:=fun H xb mb eb hX w hp hw f hf days load hL b1 b2 b3 b4 h1 h2 h3 h4=>zaj (first:=[]) (captured:=[.ptr b1 0,.ptr b2 0,.ptr b3 0,.ptr b4 0]) k.calm k.sure1 (le' rfl) rfl (zsj C _ r (leftL k hr n) H xb mb eb hX w hp hw f hf days load hL b1 b2 b3 b4 h1 h2 h3 h4)
theorem may1L (n:Nat):May1C (Ev.call C (n+5)) r:=fun H xb mb eb hX w hp hw f hf load hL b1 b2 b4 h1 h2 h4=>zaj (first:=[]) (captured:=[.ptr b1 0,.ptr b2 0,.ptr b4 0]) k.calm k.may1 (le' rfl) rfl (zxx C _ r (leftL k hr n) H xb mb eb hX w hp hw f hf load hL b1 b2 b4 h1 h2 h4)
theorem sureL (n:Nat):SureC (Ev.call C (n+r.events.length+13)) r:=by
 intro H xb mb eb hX days load hL
 have h1:=toldIL k hr (n+1)
 rw[show n+1+r.events.length+11=n+r.events.length+12 by omega] at h1
 exact zdr k.calm k.wh k.sure (le' rfl) rfl hX (zsh C k.calm k.wh (n+7) (n+5) (n+r.events.length+12) r hr (toldNL k _) h1 (everyL k hr _) (everyL k hr _) (waysL k hr n) (contL k (n+5)) (sure1L k hr n) H xb mb eb hX days load hL)
theorem mayL (n:Nat):MayC (Ev.call C (n+r.events.length+13)) r:=by
 intro H xb mb eb hX load hL
 have h1:=toldIL k hr (n+1)
 rw[show n+1+r.events.length+11=n+r.events.length+12 by omega] at h1
 exact zdr k.calm k.wh k.may (le' rfl) rfl hX (zxw C k.calm k.wh (n+7) (n+5) (n+r.events.length+12) r hr (toldNL k _) h1 (everyL k hr _) (everyL k hr _) (waysL k hr n) (contL k (n+5)) (may1L k hr n) H xb mb eb hX load hL)
theorem heights1L (n:Nat):Heights1C (Ev.call C (n+4)) r:=fun H xb mb eb hX w hp hw f hf many hm b1 b2 h1 h2=>zaj (first:=[]) (captured:=[.ptr b1 0,.ptr b2 0]) k.calm k.heights1 (le' rfl) rfl (zks C _ r (heightL k hr n) H xb mb eb hX w hp hw f hf many hm b1 b2 h1 h2)
theorem heightsL (n:Nat):HeightsC (Ev.call C (n+r.events.length+14)) r:=fun H xb mb eb hX i hi many hm=>
 zdr k.calm k.wh k.heights (le' rfl) rfl hX (zkq C _ (Ev.call C (n+7)) r hr (spanL k hr n) (heights1L k hr (n+3)) H xb mb eb hX i hi many hm)
theorem rest3L (n:Nat):Rest3C (Ev.call C (n+r.events.length+14)) r:=fun H xb mb eb hX i load hL b1 b2 h1 h2=>
 zdr (first:=[]) (captured:=[.ptr b1 0,.ptr b2 0]) k.calm k.wh k.rest3 (le' rfl) rfl hX (ztm C _ r (sureL k hr n) H xb mb eb hX i load hL b1 b2 h1 h2)
omit hr in
theorem firstNL (n:Nat):FirstNC (Ev.call C (n+r.events.length+17)) (Ev.call C (n+r.events.length+14)) r:=by
 intro a b b1 b2 ha hb H xb mb eb hX h1 h2 n1 n2 fl fa fb p hF
 obtain ⟨x,hp,tc,H',c1,⟨rfl,c2,c4⟩,c5,c6,c7⟩:=zdl (n:=n+r.events.length+16) (first:=[]) (captured:=[]) (args:=[.fn (.func 143) [] [.ptr b1 0,.ptr b2 0],.agg [.fn fl fa fb]]) k.calm k.firstN (le' rfl)
  (zqp C k.calm k.wh (n+r.events.length+14) (n+r.events.length+16) r (mustL k _) (zqw k.calm (n+r.events.length+15) k.count1) a b b1 b2 ha hb H xb mb eb hX h1 h2 n1 n2 fl fa fb p hF)
 have he:=zjg k.calm k.wh _ _ _ _ _ _ _ c1
 have hk:Kp tc H H':=⟨he.len,fun b hb hn=>he.same b hb hn⟩
 refine ⟨H',tc,c1,c2,hk,?_⟩
 obtain ⟨es,m1,m2⟩:=hX.m
 have hx:xb∉tc:=fun h=>hX.ne (c2 _ h)
 have hee:eb∉tc:=fun h=>hX.ne2 (c2 _ h)
 by_cases hm:mb∈tc
 ·obtain ⟨es2,m3,m4⟩:=c4.m
  exact ⟨hX.ne,hX.ne2,hk.at hX.x hx,fun hn=>hk.at (hX.e hn) hee,Nat.lt_of_lt_of_le hX.el hk.len,es2,(c5.got mb (get_lt m1) hm).trans m3,m4⟩
 ·exact hX.kp hk hx hm hee
end
section
variable {C:Cfg} (k:Knows C)
include k
theorem openL {r:Rd.Road}(hbig:r.parts.length≤1000∧r.events.length≤1000)(n:Nat):OpenC (Ev.call C (n+4)) (Ev.call C (n+3)) r:=by
 intro H F is hF
 obtain ⟨x,hp,tc,H',c1,⟨rfl,c2⟩,c5,c6,c7⟩:=zdl (n:=n+3) (first:=[]) (captured:=[]) (args:=[.agg (roadCs r),F]) (H:=H) k.calm k.open_ (le' rfl)
  (ztu C k.calm _ (mustL k (n+2)) (isSpanL k (n+2)) (withinL k (n+2)) r (fun _=>isPartL k hbig.1 (n+1)) ⟨by omega,by omega⟩ H F is hF)
 rcases c2 with ⟨h1,rfl⟩|⟨h1,h2,rfl⟩|⟨h1,h2,xb,mb,eb,rfl,h3,h4,h5,h6,h7⟩
 ·exact .inl ⟨h1,by rw[c7 rfl rfl] at c1;exact c1⟩
 ·exact .inr (.inl ⟨h1,h2,by rw[c7 rfl rfl] at c1;exact c1⟩)
 ·have he:=lft_eq (v:=.ptr xb 0) c5 h3 c6 (.inl (by simp[refs]))
  subst he
  exact .inr (.inr ⟨h1,h2,H',xb,mb,eb,c1,h3,h4,h5,h6,h7⟩)
theorem zcv {f n:Nat}{fn:AFunc}{args:List AV}{v:AV}(h0:Has C f fn)(hlen:([]++args++[]).length≤fn.ntmps)(hv:refs v=[])
  (h:Does (ev C (Ev.call C n) ([]:List AB).length Option.none fn.body { tm:=tmA fn.ntmps (zipI 0 args []),df:=[],hp:=[],tc:=[] }) (Fin C ([]:List AB).length fn (Ans v))):Ev.call C (n+1) (.fn (.func f) [] []) args []=Option.some (.ret v,[],[]):=by
 obtain ⟨x,hp,tc,H',c1,⟨rfl,rfl⟩,_,_,c7⟩:=zdl (n:=n) (first:=[]) (captured:=[]) (args:=args) (H:=[]) k.calm h0 hlen (by simpa using h)
 rw[c1,c7 hv rfl]
variable {r:Rd.Road} (hbig:r.parts.length≤1000∧r.events.length≤1000)
include hbig
theorem headL (n:Nat)(H:List AB)(F:AV)(is:Bool)(hF:IsFn (Ev.call C (n+r.events.length+16)) r F is H):HeadQ (Ev.call C (n+r.events.length+17)) r H F is:=by
 have h1:=openL k hbig (n+r.events.length+13)
 exact yaf h1 (fun hv => by
  have h2:=knownL k ((Rd.valid_iff r).1 hv) (n+4)
  rw[show n+4+r.events.length+13=n+r.events.length+17 by omega] at h2
  exact h2) H F is hF
theorem bearsE (n:Nat)(load:Int):Ev.call C (n+r.events.length+18) (.fn (.func 36) [] []) [.agg (roadCs r),.int .i64 load] []=some (.ret (numRV r (Rd.isLoad load) (Rd.bearsR r load)),[],[]):=
 zcv k k.eBears (le' rfl) rfl (zri C _ (Ev.call C (n + r.events.length + 16)) r k.dfBears (fun H F is h => headL k hbig n H F is h) (fun hv => by
  have h2:=sureL k ((Rd.valid_iff r).1 hv) (n+4)
  rw[show n+4+r.events.length+13=n+r.events.length+17 by omega] at h2
  exact h2) (fun hv=>by
  have h2:=mayL k ((Rd.valid_iff r).1 hv) (n+4)
  rw[show n+4+r.events.length+13=n+r.events.length+17 by omega] at h2
  exact h2) load (fun hv G xb mb eb hG hX=>
   zaj (first:=[]) (captured:=[.ptr 1 0]) k.calm k.bears2 (le' rfl) rfl (zrj C _ (isLoadL k (n+r.events.length+13)) G _ load 1 (hG.at rfl (by simp)))))
theorem restE (n:Nat)(load:Int):Ev.call C (n+r.events.length+18) (.fn (.func 44) [] []) [.agg (roadCs r),.int .i64 load] []=some (.ret (findRV r (Rd.isLoad load) (Rd.restR r load)),[],[]):=
 zcv k k.eRest (le' rfl) rfl (ztl C _ (Ev.call C (n + r.events.length + 16)) (Ev.call C (n + r.events.length + 14)) r k.dfRest (fun H F is h => headL k hbig n H F is h) (countNL k _) (fun _ => firstNL k n) (fun hv => rest3L k ((Rd.valid_iff r).1 hv) n) load (fun hv G xb mb eb hG hX =>
     zaj (first:=[]) (captured:=[.ptr 1 0]) k.calm k.rest2 (le' rfl) rfl (ztn C _ (isLoadL k (n+r.events.length+13)) G _ load 1 (hG.at rfl (by simp)))))
theorem weakE (n:Nat):Ev.call C (n+r.events.length+18) (.fn (.func 112) [] []) [.agg (roadCs r)] []=some (.ret (numRV r true (Rd.weakR r)),[],[]):=
 zcv k k.eWeak (le' rfl) rfl (zrt C k.calm _ (Ev.call C (n + r.events.length + 16)) r k.dfWeak (fun H F is h => headL k hbig n H F is h) (fun hv => by
  have h2:=heightsL k ((Rd.valid_iff r).1 hv) (n+3)
  rw[show n+3+r.events.length+14=n+r.events.length+17 by omega] at h2
  exact h2) (fun hv G xb mb eb hG hX=>alwaysL k _ G _))
end
end Ro
def af11:AFunc:=⟨122,[.tmp 4],Zq [Zo 0 2 (.box (Zt 0)),Zo 1 4 (.mov (.val (.bool false)))] (.seq (Zq [Zo 0 14 (.load (some 4) (Zt 2)),Zo 1 15 (Zc 29 [Zt 14,.val .nils]),Zm 2 16 15,⟨3,some 17,.load (some 4) (Zt 2),some (16,false),0⟩,⟨4,some 18,Zc 30 [Zt 17],some (16,false),0⟩,⟨5,some 19,.not (Zt 18),some (16,false),0⟩,Zo 6 20 (.pick (Zt 16) (.val (.bool true)) (Zt 19)),Zm 7 21 20,⟨8,some 22,.fieldA 3 (Zt 2),some (21,false),0⟩,⟨9,some 23,.load none (Zt 22),some (21,false),0⟩,⟨10,some 24,.len (Zt 23),some (21,false),0⟩,⟨11,some 25,.bin .eql (Zt 24) (Zn 0),some (21,false),0⟩,Zo 12 26 (.pick (Zt 21) (.val (.bool true)) (Zt 25))] (.cond (Zt 26) (Zq [Zo 0 27 (Zc 13 []),Zm 1 4 27] .ret) .skip)) (Zq [Zm 0 28 1,Zo 1 29 (.conv .i64 (Zt 28)),Zo 2 30 (.fieldA 3 (Zt 2)),Zl 3 31 30,Zo 4 32 (.len (Zt 31)),Zo 5 33 (.bin .rem (Zt 29) (Zt 32)),Zm 6 5 33] (Zq [Zo 0 34 (.fieldA 3 (Zt 2)),Zl 1 35 34,Zm 2 36 5,Zo 3 37 (.indexA 2 none (Zt 35) (Zt 36)),Zo 4 38 (.load (some 2) (Zt 37)),Zo 5 6 (.alloc [Zi 0,Zi 0]),Zs 6 (.store 2 (Zt 6) (Zt 38))] (Zq [Zo 0 40 (.load (some 4) (Zt 2)),Zm 1 41 5,Zo 2 42 (Zc 20 [Zt 40,Zt 41]),Zm 3 39 42,Zo 4 43 (.extract (Zt 39) 0),Zo 5 44 (.extract (Zt 39) 1),Zm 6 7 43,Zm 7 8 44] (Zq [Zo 0 46 (.fieldA 0 (Zt 2)),Zo 1 47 (.load (some 2) (Zt 46)),Zo 2 48 (.fieldA 0 (Zt 6)),Zl 3 49 48,Zo 4 50 (Zc 44 [Zt 47,Zt 49]),Zm 5 45 50,Zo 6 51 (.extract (Zt 45) 0),Zo 7 52 (.extract (Zt 45) 1),Zm 8 9 51,Zm 9 10 52] (.seq (Zq [Zm 0 53 10,Zo 1 54 (.bin .neq (Zt 53) (Zn 0)),Zm 2 55 54,⟨3,some 56,.mov (Zt 9),some (55,false),0⟩,⟨4,some 57,.fieldA 1 (Zt 6),some (55,false),0⟩,⟨5,some 58,.load none (Zt 57),some (55,false),0⟩,⟨6,some 59,.bin .gtr (Zt 56) (Zt 58),some (55,false),0⟩,Zo 7 60 (.pick (Zt 55) (.val (.bool true)) (Zt 59))] (.cond (Zt 60) (Zq [Zm 0 61 10,Zo 1 62 (.bin .eql (Zt 61) (Zn 0)),Zm 2 63 62,⟨3,some 64,.mov (Zt 10),some (63,false),0⟩,⟨4,some 65,.bin .eql (Zt 64) (Zn 4),some (63,false),0⟩,Zo 5 66 (.pick (Zt 63) (.val (.bool true)) (Zt 65)),Zm 6 67 66,⟨7,some 68,.mov (Zt 8),some (67,true),0⟩,⟨8,some 69,.bin .eql (Zt 68) (Zn 4),some (67,true),0⟩,Zo 9 70 (.pick (Zt 67) (Zt 69) (.val (.bool false))),Zm 10 71 70,⟨11,some 72,.mov (Zt 7),some (71,true),0⟩,⟨12,some 73,.bin .eql (Zt 72) (Zn 0),some (71,true),0⟩,Zo 13 74 (.pick (Zt 71) (Zt 73) (.val (.bool false))),Zm 14 75 74,⟨15,some 76,Zc 13 [],some (75,true),0⟩,Zo 16 77 (.pick (Zt 75) (Zt 76) (.val (.bool false))),Zm 17 4 77] .ret) .skip)) (.seq (Zq [Zm 0 78 8,Zo 1 79 (.bin .neq (Zt 78) (Zn 0)),Zm 2 80 79,⟨3,some 81,.mov (Zt 7),some (80,false),0⟩,⟨4,some 82,.mov (Zt 9),some (80,false),0⟩,⟨5,some 83,.bin .neq (Zt 81) (Zt 82),some (80,false),0⟩,Zo 6 84 (.pick (Zt 80) (.val (.bool true)) (Zt 83))] (.cond (Zt 84) (Zq [Zo 0 4 (.mov (.val (.bool false)))] .ret) .skip)) (Zq [Zo 0 85 (.fieldA 3 (Zt 2)),Zl 1 86 85,Zo 2 87 (.len (Zt 86)),Zo 3 88 (.mksl 1 [Zi 0] (Zt 87) (Zt 87)),Zm 4 11 88] (.seq (Zq [Zo 0 89 (.fieldA 2 (Zt 2)),Zl 1 90 89,Zo 2 91 (.mov (Zn 0))] (.block 0 (.loop [2,5,6,7,11,90,91] (Zq [Zo 0 92 (.bin .lss (Zt 91) (Zt 90))] (.seq (.cond (Zt 92) .skip (.exit 0)) (.seq (.block 1 (Zq [Zm 0 93 91,Zm 1 12 93] (.seq (Zq [Zm 0 94 11,Zo 1 95 (.len (Zt 94)),Zo 2 96 (.mov (Zn 0))] (.block 2 (.loop [2,5,6,7,11,12,90,91,95,96] (Zq [Zo 0 97 (.bin .lss (Zt 96) (Zt 95))] (.seq (.cond (Zt 97) .skip (.exit 2)) (.seq (.block 3 (Zq [Zm 0 98 96,Zm 1 13 98] (.ops [Zm 0 99 11,Zm 1 100 13,Zo 2 101 (.indexA 1 none (Zt 99) (Zt 100)),Zs 3 (.store 1 (Zt 101) (Zn (-1)))]))) (.ops [Zo 0 102 (.bin .add (Zt 96) (Zn 1)),Zm 1 96 102]))))))) (Zq [Zm 0 103 11,Zm 1 104 5,Zm 2 105 12,Zo 3 106 (.indexA 1 none (Zt 103) (Zt 104)),Zs 4 (.store 1 (Zt 106) (Zt 105))] (Zq [Zo 0 107 (.load (some 4) (Zt 2)),Zm 1 108 11,Zo 2 109 (Zc 38 [Zt 107,Zt 108]),Zm 3 110 12,Zm 4 111 7,Zo 5 112 (.bin .geq (Zt 110) (Zt 111)),Zm 6 113 112,⟨7,some 114,.mov (Zt 12),some (113,true),0⟩,⟨8,some 115,.fieldA 1 (Zt 6),some (113,true),0⟩,⟨9,some 116,.load none (Zt 115),some (113,true),0⟩,⟨10,some 117,.bin .leq (Zt 114) (Zt 116),some (113,true),0⟩,Zo 11 118 (.pick (Zt 113) (Zt 117) (.val (.bool false))),Zo 12 119 (.eq .bool true (Zt 109) (Zt 118))] (.cond (Zt 119) (Zq [Zo 0 4 (.mov (.val (.bool false)))] .ret) .skip)))))) (.ops [Zo 0 120 (.bin .add (Zt 91) (Zn 1)),Zm 1 91 120]))))))) (Zq [Zo 0 121 (Zc 13 []),Zm 1 4 121] .ret))))))))))⟩
def af13:AFunc:=⟨130,[.tmp 0],Zq [Zo 0 0 (.mov (.val (.bool false)))] (Zq [Zo 0 20 (Zc 45 []),Zo 1 21 (.buildSl 1 3 [Zi 0] [(0,Zn 1),(1,Zn 0),(2,Zn 0)]),Zo 2 22 (Zc 14 [Zt 20,Zt 21]),Zm 3 19 22,Zo 4 23 (.extract (Zt 19) 0),Zo 5 24 (.extract (Zt 19) 1),Zo 6 25 (.extract (Zt 19) 2),Zm 7 1 23,Zm 8 2 24,Zm 9 3 25] (Zq [Zo 0 27 (Zc 45 []),Zo 1 28 (Zc 16 [Zt 27]),Zm 2 26 28,Zo 3 29 (.extract (Zt 26) 0),Zo 4 30 (.extract (Zt 26) 1),Zo 5 31 (.extract (Zt 26) 2),Zm 6 4 29,Zm 7 5 30,Zm 8 6 31] (Zq [Zo 0 33 (Zc 46 []),Zo 1 34 (Zc 18 [Zt 33]),Zm 2 32 34,Zo 3 35 (.extract (Zt 32) 0),Zo 4 36 (.extract (Zt 32) 1),Zm 5 7 35,Zm 6 8 36] (Zq [Zo 0 38 (Zc 45 []),Zo 1 39 (Zc 20 [Zt 38,Zn 1]),Zm 2 37 39,Zo 3 40 (.extract (Zt 37) 0),Zo 4 41 (.extract (Zt 37) 1),Zm 5 9 40,Zm 6 10 41] (Zq [Zo 0 43 (Zc 47 []),Zo 1 44 (Zc 23 [Zt 43]),Zm 2 42 44,Zo 3 45 (.extract (Zt 42) 0),Zo 4 46 (.extract (Zt 42) 1),Zm 5 11 45,Zm 6 12 46] (Zq [Zo 0 48 (Zc 45 []),Zo 1 49 (Zc 25 [Zt 48,Zn 0]),Zm 2 47 49,Zo 3 50 (.extract (Zt 47) 0),Zo 4 51 (.extract (Zt 47) 1),Zm 5 13 50,Zm 6 14 51] (Zq [Zo 0 53 (Zc 45 []),Zo 1 54 (.buildSl 1 3 [Zi 0] [(0,Zn (-1)),(1,Zn 0),(2,Zn (-1))]),Zo 2 55 (Zc 27 [Zt 53,Zt 54,Zn 0]),Zm 3 52 55,Zo 4 56 (.extract (Zt 52) 0),Zo 5 57 (.extract (Zt 52) 1),Zm 6 15 56,Zm 7 16 57] (Zq [Zo 0 59 (Zc 45 []),Zo 1 60 (Zc 18 [Zt 59]),Zm 2 58 60,Zo 3 61 (.extract (Zt 58) 0),Zo 4 62 (.extract (Zt 58) 1),Zm 5 17 61,Zm 6 18 62] (Zq [Zm 0 63 1,Zo 1 64 (.bin .eql (Zt 63) (Zn 2)),Zm 2 65 64,⟨3,some 66,.mov (Zt 2),some (65,true),0⟩,⟨4,some 67,.bin .eql (Zt 66) (Zn 2),some (65,true),0⟩,Zo 5 68 (.pick (Zt 65) (Zt 67) (.val (.bool false))),Zm 6 69 68,⟨7,some 70,.mov (Zt 3),some (69,true),0⟩,⟨8,some 71,.bin .eql (Zt 70) (Zn 0),some (69,true),0⟩,Zo 9 72 (.pick (Zt 69) (Zt 71) (.val (.bool false))),Zm 10 73 72,⟨11,some 74,.mov (Zt 4),some (73,true),0⟩,⟨12,some 75,.buildSl 1 3 [Zi 0] [(0,Zn 0),(1,Zn (-1)),(2,Zn 0)],some (73,true),0⟩,⟨13,some 76,Zc 22 [Zt 74,Zt 75],some (73,true),0⟩,Zo 14 77 (.pick (Zt 73) (Zt 76) (.val (.bool false))),Zm 15 78 77,⟨16,some 79,.mov (Zt 5),some (78,true),0⟩,⟨17,some 80,.bin .eql (Zt 79) (Zn 18),some (78,true),0⟩,Zo 18 81 (.pick (Zt 78) (Zt 80) (.val (.bool false))),Zm 19 82 81,⟨20,some 83,.mov (Zt 6),some (82,true),0⟩,⟨21,some 84,.bin .eql (Zt 83) (Zn 0),some (82,true),0⟩,Zo 22 85 (.pick (Zt 82) (Zt 84) (.val (.bool false))),Zm 23 86 85,⟨24,some 87,.mov (Zt 7),some (86,true),0⟩,⟨25,some 88,.bin .eql (Zt 87) (Zn 0),some (86,true),0⟩,Zo 26 89 (.pick (Zt 86) (Zt 88) (.val (.bool false))),Zm 27 90 89,⟨28,some 91,.mov (Zt 8),some (90,true),0⟩,⟨29,some 92,.bin .eql (Zt 91) (Zn 0),some (90,true),0⟩,Zo 30 93 (.pick (Zt 90) (Zt 92) (.val (.bool false))),Zm 31 94 93,⟨32,some 95,.mov (Zt 9),some (94,true),0⟩,⟨33,some 96,.bin .eql (Zt 95) (Zn 0),some (94,true),0⟩,Zo 34 97 (.pick (Zt 94) (Zt 96) (.val (.bool false))),Zm 35 98 97,⟨36,some 99,.mov (Zt 10),some (98,true),0⟩,⟨37,some 100,.bin .eql (Zt 99) (Zn 0),some (98,true),0⟩,Zo 38 101 (.pick (Zt 98) (Zt 100) (.val (.bool false))),Zm 39 102 101,⟨40,some 103,.mov (Zt 11),some (102,true),0⟩,⟨41,some 104,.bin .eql (Zt 103) (Zn 1),some (102,true),0⟩,Zo 42 105 (.pick (Zt 102) (Zt 104) (.val (.bool false))),Zm 43 106 105,⟨44,some 107,.mov (Zt 12),some (106,true),0⟩,⟨45,some 108,.bin .eql (Zt 107) (Zn 0),some (106,true),0⟩,Zo 46 109 (.pick (Zt 106) (Zt 108) (.val (.bool false))),Zm 47 110 109,⟨48,some 111,.mov (Zt 13),some (110,true),0⟩,⟨49,some 112,.bin .eql (Zt 111) (Zn 6),some (110,true),0⟩,Zo 50 113 (.pick (Zt 110) (Zt 112) (.val (.bool false))),Zm 51 114 113,⟨52,some 115,.mov (Zt 14),some (114,true),0⟩,⟨53,some 116,.bin .eql (Zt 115) (Zn 0),some (114,true),0⟩,Zo 54 117 (.pick (Zt 114) (Zt 116) (.val (.bool false))),Zm 55 118 117,⟨56,some 119,.mov (Zt 15),some (118,true),0⟩,⟨57,some 120,.bin .eql (Zt 119) (Zn 6),some (118,true),0⟩,Zo 58 121 (.pick (Zt 118) (Zt 120) (.val (.bool false))),Zm 59 122 121,⟨60,some 123,.mov (Zt 16),some (122,true),0⟩,⟨61,some 124,.bin .eql (Zt 123) (Zn 0),some (122,true),0⟩,Zo 62 125 (.pick (Zt 122) (Zt 124) (.val (.bool false))),Zm 63 126 125,⟨64,some 127,.mov (Zt 18),some (126,true),0⟩,⟨65,some 128,.bin .eql (Zt 127) (Zn 4),some (126,true),0⟩,Zo 66 129 (.pick (Zt 126) (Zt 128) (.val (.bool false))),Zm 67 0 129] .ret)))))))))⟩
def af29:AFunc:=⟨20,[.tmp 4],Zq [Zo 0 2 (.box (Zt 0)),Zo 1 4 (.mov (.val (.bool false)))] (Zq [Zo 0 5 (.fieldA 0 (Zt 2)),Zo 1 6 (.fieldA 0 (Zt 5)),Zl 2 7 6,Zo 3 8 (.len (Zt 7)),Zo 4 9 (.fieldA 0 (Zt 2)),Zo 5 10 (.fieldA 1 (Zt 9)),Zl 6 11 10,Zo 7 12 (.len (Zt 11)),Zo 8 13 (.fieldA 3 (Zt 2)),Zl 9 14 13,Zo 10 15 (.len (Zt 14)),Zm 11 16 1,Zo 12 17 (.len (Zt 16)),Zo 13 18 (.max [Zt 8,Zt 12,Zt 15,Zt 17]),Zo 14 19 (.bin .gtr (Zt 18) (Zn 40)),Zm 15 4 19] .ret)⟩
def af37:AFunc:=⟨8,[.cell 4 (some 2)],Zq [Zo 0 4 (.alloc [Zi 0,Zi 0])] (Zq [Zm 0 5 0,Zm 1 6 1,Zo 2 7 (.build [Zi 0,Zi 0] [(0,(1,Zt 5)),(1,(1,Zt 6))]),Zs 3 (.store 2 (Zt 4) (Zt 7))] .ret)⟩
def af38:AFunc:=⟨17,[.tmp 4],Zq [Zo 0 2 (.box (Zt 0)),Zo 1 4 (.mov (.val (.bool false)))] (Zq [Zo 0 9 (.load (some 4) (Zt 2)),Zm 1 10 1,Zo 2 11 (Zc 14 [Zt 9,Zt 10]),Zm 3 8 11,Zo 4 12 (.extract (Zt 8) 0),Zo 5 13 (.extract (Zt 8) 1),Zo 6 14 (.extract (Zt 8) 2),Zm 7 5 12,Zm 8 6 13,Zm 9 7 14] (Zq [Zm 0 15 7,Zo 1 16 (.bin .eql (Zt 15) (Zn 4)),Zm 2 4 16] .ret))⟩
def af45:AFunc:=⟨6,[.cell 0 (some 4)],Zq [Zo 0 0 (.alloc [.nils,.nils,Zi 0,.nils])] (Zq [Zo 0 1 (.build [Zi 0,Zi 0] [(0,(1,Zn 6)),(1,(1,Zn 1))]),Zo 1 2 (.build [Zi 0,Zi 0] [(0,(1,Zn 10)),(1,(1,Zn 3))]),Zo 2 3 (.build [Zi 0,Zi 0] [(0,(1,Zn 12))]),Zo 3 4 (.buildSl 2 3 [Zi 0,Zi 0] [(0,Zt 1),(1,Zt 2),(2,Zt 3)]),Zo 4 5 (Zc 111 [Zt 4]),Zs 5 (.store 4 (Zt 0) (Zt 5))] .ret)⟩
def af46:AFunc:=⟨5,[.cell 0 (some 4)],Zq [Zo 0 0 (.alloc [.nils,.nils,Zi 0,.nils])] (Zq [Zo 0 1 (Zc 45 []),Zo 1 2 (.fieldV 3 none (Zt 1)),Zo 2 3 (.slice 2 (Zt 2) none (some (Zn 2))),Zo 3 4 (Zc 111 [Zt 3]),Zs 4 (.store 4 (Zt 0) (Zt 4))] .ret)⟩
def af47:AFunc:=⟨4,[.cell 0 (some 4)],Zq [Zo 0 0 (.alloc [.nils,.nils,Zi 0,.nils])] (Zq [Zo 0 1 (.build [Zi 0,Zi 0] [(0,(1,Zn 40)),(1,(1,Zn 3))]),Zo 1 2 (.buildSl 2 1 [Zi 0,Zi 0] [(0,Zt 1)]),Zo 2 3 (Zc 111 [Zt 2]),Zs 3 (.store 4 (Zt 0) (Zt 3))] .ret)⟩
def af111:AFunc:=⟨6,[.cell 2 (some 4)],Zq [Zo 0 2 (.alloc [.nils,.nils,Zi 0,.nils])] (Zq [Zo 0 3 (Zc 144 []),Zm 1 4 0,Zo 2 5 (.build [.nils,.nils,Zi 0,.nils] [(0,(2,Zt 3)),(2,(1,Zn 4)),(3,(1,Zt 4))]),Zs 3 (.store 4 (Zt 2) (Zt 5))] .ret)⟩
def af144:AFunc:=⟨15,[.cell 0 (some 2)],Zq [Zo 0 0 (.alloc [.nils,.nils])] (Zq [Zo 0 1 (Zc 37 [Zn 10,Zn 11]),Zo 1 2 (Zc 37 [Zn 2,Zn 2]),Zo 2 3 (Zc 37 [Zn 1,Zn 1]),Zo 3 4 (.build [Zi 0,Zi 0,Zi 0,Zi 0,Zi 0,Zi 0,Zi 0] [(0,(2,Zt 1)),(2,(2,Zt 2)),(4,(2,Zt 3)),(6,(1,Zn 12))]),Zo 4 5 (Zc 37 [Zn 8,Zn 8]),Zo 5 6 (Zc 37 [Zn 3,Zn 4]),Zo 6 7 (Zc 37 [Zn 0,Zn 1]),Zo 7 8 (.build [Zi 0,Zi 0,Zi 0,Zi 0,Zi 0,Zi 0,Zi 0] [(0,(2,Zt 5)),(2,(2,Zt 6)),(4,(2,Zt 7)),(6,(1,Zn 9))]),Zo 8 9 (.buildSl 7 2 [Zi 0,Zi 0,Zi 0,Zi 0,Zi 0,Zi 0,Zi 0] [(0,Zt 4),(1,Zt 8)]),Zo 9 10 (Zc 37 [Zn 6,Zn 6]),Zo 10 11 (.build [Zi 0,Zi 0,Zi 0,Zi 0,Zi 0,Zi 0,Zi 0] [(0,(1,Zn 0)),(1,(2,Zt 10))]),Zo 11 12 (.build [Zi 0,Zi 0,Zi 0,Zi 0,Zi 0,Zi 0,Zi 0] [(0,(1,Zn 1)),(3,(1,Zn 2))]),Zo 12 13 (.buildSl 7 2 [Zi 0,Zi 0,Zi 0,Zi 0,Zi 0,Zi 0,Zi 0] [(0,Zt 11),(1,Zt 12)]),Zo 13 14 (.build [.nils,.nils] [(0,(1,Zt 9)),(1,(1,Zt 13))]),Zs 14 (.store 2 (Zt 0) (Zt 14))] .ret)⟩
namespace Ro
open K
attribute [local simp] ev1 wantG spineK spine float xnew xval xeff zab zae zau zah zai addFl cellsOf pickC alive slLen slFt binI maxA maxK minA minK aeqK aeqS AV.cells spA zad fillA setAt bitsI nat_nn zav AV.plain apart
set_option maxRecDepth 100000
set_option maxHeartbeats 4000000
def i64n (n:Int):Prop:=-9223372036854775808≤n∧n≤9223372036854775807
def planV (l:Ld.Lo):AV:=.tup [.vs 1 (ints (if Ld.valid l=true then (Ld.planR l).1 else [])),.int .i64 (if Ld.valid l=true then (Ld.planR l).2 else 0),.int .i64 (errL l true)]
structure LApi (call:CallF):Prop where
 check:∀ {H v pv l p},loadOf H v=some l→plnOf H pv=some p→call (.fn (.func 14) [] []) [v,pv] H=some (.ret (checkRV l p),H,[])
 plan:∀ {H v l},loadOf H v=some l→call (.fn (.func 16) [] []) [v] H=some (.ret (planV l),H,[])
 all:∀ {H v l},loadOf H v=some l→call (.fn (.func 18) [] []) [v] H=some (.ret (allRV l),H,[])
 alone:∀ {H v l},loadOf H v=some l→∀ i,i64n i→call (.fn (.func 20) [] []) [v,.int .i64 i] H=some (.ret (aloneRV l i),H,[])
 never:∀ {H v l},loadOf H v=some l→call (.fn (.func 23) [] []) [v] H=some (.ret (neverRV l),H,[])
 with_:∀ {H v l},loadOf H v=some l→∀ i,i64n i→call (.fn (.func 25) [] []) [v,.int .i64 i] H=some (.ret (withRV l i),H,[])
 more:∀ {H v pv l p},loadOf H v=some l→plnOf H pv=some p→l.carts≠[]→∀ d,i64n d→call (.fn (.func 27) [] []) [v,pv,.int .i64 d] H=some (.ret (moreRV l p d),H,[])
 bears:∀ {H v r},roadOf H v=some r→∀ n,i64n n→call (.fn (.func 36) [] []) [v,.int .i64 n] H=some (.ret (numRV r (Rd.isLoad n) (Rd.bearsR r n)),H,[])
 rest:∀ {H v r},roadOf H v=some r→∀ n,i64n n→call (.fn (.func 44) [] []) [v,.int .i64 n] H=some (.ret (findRV r (Rd.isLoad n) (Rd.restR r n)),H,[])
 valid:∀ {H v l},loadOf H v=some l→call (.fn (.func 30) [] []) [v] H=some (.ret (.bool (Ld.valid l)),H,[])
 alive:∀ {H},call (.fn (.func 13) [] []) [] H=some (.ret (.bool true),H,[])
 long:∀ {H} (l:Ld.Lo),call (.fn (.func 29) [] []) [.agg (loadCs l),.nils] H=some (.ret (.bool (decide (40<max l.road.parts.length (max l.road.events.length l.carts.length)))),H,[])
def Yes (fn:AFunc)(C:Cfg)(e:AExit)(st:St):Prop:=Ends C 0 fn.res (fun v _ _=>v=.bool true) e st
theorem zya (C:Cfg)(call:CallF)(l:Ld.Lo)(H:List AB):Wb C call H af29 [.agg (loadCs l),.nils]
  (fun v _hp tc=>v=.bool (decide (40<max l.road.parts.length (max l.road.events.length l.carts.length)))∧tc=[]):=by
 have e:decide ((40:Int)<max (max (max (l.road.parts.length:Int) (l.road.events.length:Int)) (l.carts.length:Int)) 0)=decide (40<max l.road.parts.length (max l.road.events.length l.carts.length)):=by congr 1;simp;omega
 rw[← e]
 unfold Wb Wa af29 Zq Zm Zl Zo Zt Zn
 simp only[zipI,loadCs]
 refine gA ?_
 exact zac (v:=.bool (decide ((40:Int)<max (max (max (l.road.parts.length:Int) (l.road.events.length:Int)) (l.carts.length:Int)) 0))) (.inl rfl) rfl (by simp) endvP ⟨rfl,by simp⟩
end Ro
end Ev
namespace Ld
theorem vl_of {l:Lo}(h:valid l=true):Vl l∧(1≤l.days∧l.days≤4)∧l.carts.length≤4∧∀ c∈l.carts,(0≤c.load∧c.load≤60)∧0≤c.due∧c.due<l.days:=by
 unfold valid at h
 simp only[Bool.and_eq_true,decide_eq_true_eq,List.all_eq_true,okCart,isDay] at h
 obtain ⟨⟨⟨⟨h1,h2⟩,h3⟩,h4⟩,h5⟩:=h
 have hv:Rd.valid l.road=true∧Rd.canR l.road (Rd.everyR l.road)=true:=by
  unfold Rd.errR at h1
  by_cases a:Rd.valid l.road=true
  ·rw[a] at h1
   by_cases b:Rd.canR l.road (Rd.everyR l.road)=true
   ·exact ⟨a,b⟩
   ·simp[b] at h1
  ·simp[a] at h1
 refine ⟨⟨(Rd.valid_iff _).1 hv.1,hv.2,h2,by omega,fun i hi=>?_⟩,h3,h4,h5⟩
 refine (h5 _ ?_).1
 rw[List.getD_eq_getElem?_getD,List.getElem?_eq_getElem hi]
 exact List.getElem_mem _
end Ld
namespace Ev
namespace Ro
open K
attribute [local simp] ev1 wantG spineK spine float xnew xval xeff zab zae zau zah zai addFl cellsOf pickC alive slLen slFt binI maxA maxK minA minK aeqK aeqS AV.cells spA zad fillA setAt bitsI nat_nn zav AV.plain apart
set_option maxRecDepth 100000
set_option maxHeartbeats 4000000
def LdAt (H:List AB)(v:AV)(l:Ld.Lo):Prop:=∀ K,loadOf (H++K) v=some l
def PnAt (H:List AB)(v:AV)(p:List Int):Prop:=∀ K,plnOf (H++K) v=some p
theorem ldAt_r (H:List AB)(l:Ld.Lo)(hp:l.road.parts.length≤40)(he:l.road.events.length≤50)(hc:l.carts.length≤50):LdAt H (.agg (loadCs l)) l:=fun _K=>yee _ l hp he hc
theorem yju {H:List AB}{b n:Nat}{p:List Int}(h:H[b]?=some (.cells (ints p)))(hn:n=p.length)(hl:p.length≤50):PnAt H (.sl b 0 n 1) p:=fun K=>yit (yjv (by rw[List.getElem?_append_left (get_lt h)];exact h) hn) hl
def errC (l:Ld.Lo)(p:List Int):Int:=if (Ld.valid l&&Ld.isPlan l p)=true then (if Ld.right l p=true then 4 else 0) else errL l (Ld.isPlan l p)
theorem yfy (l:Ld.Lo)(p:List Int):∃ a b:Int,checkRV l p=.tup [.int .i64 a,.int .i64 b,.int .i64 (errC l p)]:=by
 unfold checkRV errC Ld.right
 split
 ·cases h:Ld.brokenR l p with
  |none=>exact ⟨0,0,rfl⟩
  |some x=>exact ⟨x.1,x.2,rfl⟩
 ·exact ⟨0,0,rfl⟩
theorem yid (l:Ld.Lo)(p:List Int):(errC l p==4)=(Ld.valid l&&Ld.isPlan l p&&Ld.right l p):=by
 unfold errC errL
 cases Ld.valid l<;>cases Ld.isPlan l p<;>cases Ld.right l p<;>rfl
def LawRightC (call:CallF):Prop:=∀ {H:List AB} {v pv:AV} {l:Ld.Lo} {p:List Int},LdAt H v l→PnAt H pv p→call (.fn (.func 38) [] []) [v,pv] H=some (.ret (.bool (Ld.valid l&&Ld.isPlan l p&&Ld.right l p)),H,[])
theorem yeu (C:Cfg)(call:CallF)(hA:LApi call)(H:List AB)(v pv:AV)(l:Ld.Lo)(p:List Int)(hl:LdAt H v l)(hp:PnAt H pv p):
  Wb C call H af38 [v,pv]
   (fun w _hp tc=>w=.bool (Ld.valid l&&Ld.isPlan l p&&Ld.right l p)∧tc=[]):=by
 rw[← yid]
 obtain ⟨a,b,hc⟩:=yfy l p
 have hcall:=fun K=>hA.check (hl K) (hp K)
 rw[hc] at hcall
 have h0:=hl []
 obtain ⟨pv',ev',cv,rfl,_,_,_⟩:=ybu h0
 generalize errC l p=e at *
 clear hA hl hp hc h0
 unfold Wb Wa af38 Zq Zm Zo Zc Zt Zn
 simp only[zipI]
 refine gA ?_
 exact zac (v:=.bool (e==4)) (.inl rfl) rfl (by simp) endvP ⟨rfl,by simp⟩
theorem yco {C:Cfg}{n0:Nat}(hC:C.calm=true)(h0:Has C 38 af38)(hA:LApi (Ev.call C n0)):LawRightC (Ev.call C (n0+1)):=
 fun {H v pv l p} hl hp=>zaj hC h0 (le' rfl) rfl (yeu C _ hA H v pv l p hl hp)
end Ro
end Ev
namespace Ld
theorem only_plan (l:Lo){i:Nat}(_hi:i<l.carts.length){d:Nat}(hd:0≤(d:Int)∧(d:Int)<l.days):isPlan l (only l i d)=true:=by
 unfold isPlan
 simp only[Bool.and_eq_true,decide_eq_true_eq,List.all_eq_true]
 refine ⟨only_len l i d,fun x hx=>?_⟩
 obtain ⟨j,hj⟩:=List.mem_iff_getElem?.1 hx
 have hjl:=(List.getElem?_eq_some_iff.1 hj).1
 rw[only_len] at hjl
 have hg:=ybq l (i:=i) hjl (d:Int)
 rw[List.getD_eq_getElem?_getD,hj,Option.getD_some] at hg
 rw[Bool.or_eq_true,decide_eq_true_eq]
 by_cases h:j=i
 ·rw[if_pos h] at hg
  exact .inr (decide_eq_true (by rw[hg];exact hd))
 ·rw[if_neg h] at hg
  exact .inl hg
end Ld
namespace Ev
namespace Ro
open K
attribute [local simp] ev1 wantG spineK spine float xnew xval xeff zab zae zau zah zai addFl cellsOf pickC alive slLen slFt binI maxA maxK minA minK aeqK aeqS AV.cells spA zad fillA setAt bitsI nat_nn zav AV.plain apart
set_option maxRecDepth 100000
set_option maxHeartbeats 4000000
theorem yht {w:List Int}{j:Nat}(hj:j<w.length):(List.replicate j (-1:Int)++w.drop j).set j (-1)=List.replicate (j+1) (-1)++w.drop (j+1):=by
 rw[List.set_append_right _ _ (by simp),List.length_replicate,Nat.sub_self,List.drop_eq_getElem_cons hj,List.set_cons_zero,List.replicate_succ',List.append_assoc]
 rfl
def aloneQ (l:Ld.Lo)(i:Nat):Int × Int:=match Ld.aloneR l i with|none=>(0,4)|some n=>(n,0)
theorem ygj {l:Ld.Lo}{i:Nat}(hv:Ld.valid l=true)(hi:i<l.carts.length):aloneRV l i=.tup [.int .i64 (aloneQ l i).1,.int .i64 (aloneQ l i).2]:=by
 unfold aloneRV aloneQ
 have hc:Ld.isCart l i=true:=decide_eq_true (by omega)
 rw[hv,hc,Int.toNat_natCast]
 cases Ld.aloneR l i<;>rfl
theorem yjh {r:Rd.Road}(hf:Rd.Fine r)(hcan:Rd.canR r (Rd.everyR r)=true)(o:Option Nat):findRV r true o=.tup [.int .i64 ((o.getD 0:Nat):Int),.int .i64 (if o.isSome then 0 else 4)]:=by
 have he:Rd.errR r true=0:=by
  unfold Rd.errR
  rw[(Rd.valid_iff r).2 hf,hcan];rfl
 unfold findRV
 rw[he];rfl
theorem ydl (C:Cfg)(hC:C.calm=true)(call:CallF)(hA:LApi call)(hR:LawRightC call)(l:Ld.Lo)(x:Int)(hx:0≤x∧x≤255):
  Wa C call [] af11 [.agg (loadCs l),.int .u8 x]
   (Yes af11 C):=by
 have hl:=fun H=>hA.long (H:=H) l
 have ha:=fun H=>hA.alive (H:=H)
 by_cases hlen:40<max l.road.parts.length (max l.road.events.length l.carts.length)
 ·rw[decide_eq_true hlen] at hl
  clear hA hlen hR hx
  unfold Wa af11 Zq Zm Zl Zo Zs Zc Zt Zn Zi
  simp only[zipI,loadCs] at *
  refine gA ?_
  exact zac (v:=.bool true) (.inl rfl) rfl (by simp) endvP rfl
 rw[decide_eq_false hlen] at hl
 have hro:=fun H=>yee H l (by omega) (by omega) (by omega)
 have hv:=fun H=>hA.valid (hro H)
 cases hval:Ld.valid l with
 |false=>
  rw[hval] at hv
  clear hA hlen hro hval hR hx
  unfold Wa af11 Zq Zm Zl Zo Zs Zc Zt Zn Zi
  simp only[zipI,loadCs] at *
  refine gA ?_
  exact zac (v:=.bool true) (.inl rfl) rfl (by simp) endvP rfl
 |true=>
 rw[hval] at hv
 obtain ⟨hvl,hd,hc4,hcs⟩:=Ld.vl_of hval
 by_cases h0:l.carts.length=0
 ·have h0':((l.carts.length:Int)==0)=true:=by rw[h0];rfl
  have h0'':(l.carts.length:Int)=0:=by omega
  clear hA hlen hro hval hR hx hvl hcs
  unfold Wa af11 Zq Zm Zl Zo Zs Zc Zt Zn Zi
  simp only[zipI,loadCs] at *
  refine gA ?_
  exact zac (v:=.bool true) (.inl rfl) rfl (by simp) endvP rfl
 have h0':((l.carts.length:Int)==0)=false:=by simpa using h0
 have h0'':¬ (l.carts.length:Int)=0:=by omega
 obtain ⟨i,hxi,hi⟩:∃ i:Nat,x.tmod (l.carts.length:Int)=(i:Int)∧i<l.carts.length:=by
  refine ⟨x.toNat % l.carts.length,?_,Nat.mod_lt _ (by omega)⟩
  rw[Int.tmod_eq_emod_of_nonneg hx.1]
  have:x=(x.toNat:Int):=by omega
  conv=>lhs;rw[this]
  rfl
 have hwx:IntKind.i64.wrap x=x:=zaf (by omega) (by omega)
 have hwi:IntKind.i64.wrap (i:Int)=(i:Int):=zaf (by omega) (by omega)
 have hci:l.carts[i]?=some (l.carts.getD i default):=by rw[List.getD_eq_getElem?_getD,List.getElem?_eq_getElem hi];rfl
 have hcm:l.carts.getD i default∈l.carts:=List.mem_of_getElem? hci
 obtain ⟨hcl,hcd⟩:=hcs _ hcm
 have hlaw:=Ld.alone_law hvl hd hi hcd
 have r1:=fun H=>hA.alone (hro H) i (by unfold i64n;omega)
 rw[ygj hval hi] at r1
 have r2:=fun H=>hA.rest (zit H l.road (by omega) (by omega)) (l.carts.getD i default).load (by unfold i64n;omega)
 rw[show Rd.isLoad (l.carts.getD i default).load=true from decide_eq_true hcl,yjh hvl.fine hvl.can] at r2
 have hRt:=fun (H:List AB) (w:List Int) (hw:w.length=l.carts.length) (b:Nat) (hb:H[b]?=some (.cells (ints w)))=>hR (ldAt_r H l (by omega) (by omega) (by omega)) (yju hb rfl (by omega))
 generalize hc:l.carts.getD i default=c at *
 have hci':=ge_of hci
 have hii:(i:Int)<l.carts.length:=by omega
 clear hR hro hcm hcs
 cases hk:Rd.restR l.road c.load with
 |none=>
  have hn:=hlaw.2 (fun k h=>by rw[hk] at h;cases h)
  have hq:aloneQ l i=(0,4):=by unfold aloneQ;rw[hn]
  rw[hq] at r1
  rw[hk] at r2
  clear hA hlen hlaw hval hx hvl hn hq hk hRt hc hcl hcd
  unfold Wa af11 Zq Zm Zl Zo Zs Zc Zt Zn Zi
  simp only[zipI,loadCs,roadCs,Option.getD_none,Option.isSome_none,Bool.false_eq_true,if_false] at *
  refine gS ?_
  exact zac (v:=.bool true) (.inl rfl) rfl (by simp) endvP rfl
 |some k=>
 rw[hk] at r2
 by_cases hkd:c.due<k
 ·have hn:=hlaw.2 (fun k' h=>by rw[hk] at h;cases h;exact hkd)
  have hq:aloneQ l i=(0,4):=by unfold aloneQ;rw[hn]
  rw[hq] at r1
  clear hA hlen hlaw hval hx hvl hn hq hk hRt hc hcl hcd
  unfold Wa af11 Zq Zm Zl Zo Zs Zc Zt Zn Zi
  simp only[zipI,loadCs,roadCs,Option.getD_some,Option.isSome_some,if_true] at *
  refine gS ?_
  exact zac (v:=.bool true) (.inl rfl) rfl (by simp) endvP rfl
 obtain ⟨hn,hall⟩:=hlaw.1 k hk (by omega)
 have hq:aloneQ l i=((k:Int),0):=by unfold aloneQ;rw[hn]
 rw[hq] at r1
 have hkd':(k:Int)≤c.due:=by omega
 have hdn:(l.days.toNat:Int)=l.days:=by omega
 have hcb:l.carts.length≤bound:=by unfold bound;omega
 have hdb:l.days.toNat≤4:=by omega
 have HL:=hideP (And.intro hRt (And.intro hall (And.intro hval (And.intro hvl hd))))
 clear hA hlen hlaw hval hx hvl hn hq hk hRt hc hcl hall
 unfold Wa af11 Zq Zm Zl Zo Zs Zc Zt Zn Zi
 simp only[zipI,loadCs,roadCs,Option.getD_some,Option.isSome_some,if_true] at *
 refine gS ?_
 have hdb2:1≤l.days:=hd.1
 clear hd
 with_reducible refine zan hC l.days.toNat (by unfold fuelL;omega) (fun d st=>∃ w:List Int,w.length=l.carts.length∧st={ tm:=tmA 122 [(91,.int .i64 d),(90,.int .i64 l.days),(11,.sl 2 0 l.carts.length 1),(7,.int .i64 k),(6,.ptr 1 0),(5,.int .i64 i),(2,.ptr 0 0)],df:=[],hp:=[.cells [.vs 7 (l.road.parts.map ptE),.vs 7 (l.road.events.map evE),.int .i64 l.days,.vs 2 (l.carts.map cE)],.cells [.int .i64 c.load,.int .i64 c.due],.cells (ints w)],tc:=[] }) ?_ ?_ ?_
 ·refine ⟨List.replicate l.carts.length 0,by simp,?_⟩
  have e:ints (List.replicate l.carts.length 0)=List.replicate l.carts.length (.int .i64 0):=by simp[ints]
  rw[e]
  exact invP
 ·rintro d st hd ⟨w,hw,rfl⟩
  have hil:(ints w).length=l.carts.length:=by simp[ints,hw]
  have hdd:(d:Int)<l.days:=by omega
  have HW:=hideP (And.intro hw hil)
  clear hw
  refine gA ?_
  with_reducible refine zan hC l.carts.length (by unfold fuelL;omega) (fun j st=>st={ tm:=tmA 122 [(96,.int .i64 j),(95,.int .i64 l.carts.length),(91,.int .i64 d),(90,.int .i64 l.days),(12,.int .i64 d),(11,.sl 2 0 l.carts.length 1),(7,.int .i64 k),(6,.ptr 1 0),(5,.int .i64 i),(2,.ptr 0 0)],df:=[],hp:=[.cells [.vs 7 (l.road.parts.map ptE),.vs 7 (l.road.events.map evE),.int .i64 l.days,.vs 2 (l.carts.map cE)],.cells [.int .i64 c.load,.int .i64 c.due],.cells (ints (List.replicate j (-1)++w.drop j))],tc:=[] }) ?_ ?_ ?_
  ·have e:List.replicate 0 (-1:Int)++w.drop 0=w:=by simp
   show _=St.mk _ _ [_,_,.cells (ints (List.replicate 0 (-1:Int)++w.drop 0))] _
   rw[e]
   refine st_is ?_ rfl rfl rfl
   simp[zag,zal]
  ·rintro j st hj rfl
   obtain ⟨hw,_⟩:=HW.out
   have hji:(j:Int)<l.carts.length:=by omega
   have hwj:IntKind.i64.wrap ((j:Int)+1)=(j:Int)+1:=zaf (by omega) (by omega)
   have hfl:=yht (w:=w) (j:=j) (by omega)
   have hlw:(List.replicate j (-1:Int)++w.drop j).length=l.carts.length:=by simp;omega
   have hset2:List.take j (ints (List.replicate j (-1)++w.drop j))++.int .i64 (-1)::List.drop (j+1) (ints (List.replicate j (-1)++w.drop j))=ints (List.replicate (j+1) (-1)++w.drop (j+1)):=by
    rw[← hfl]
    simp only[ints,List.map_set]
    rw[List.set_eq_take_append_cons_drop,if_pos (by rw[List.length_map,hlw];omega)]
   have hil2:(ints (List.replicate j (-1)++w.drop j)).length=l.carts.length:=by simp only[ints,List.length_map];exact hlw
   have hcl:j<(ints (List.replicate j (-1)++w.drop j)).length:=by omega
   have hcl2:j+1≤(ints (List.replicate j (-1)++w.drop j)).length:=by omega
   have hcl3:j+1≤l.carts.length:=by omega
   clear hlw hfl hw
   generalize ints (List.replicate j (-1)++w.drop j)=cs at *
   refine gA ?_
   exact invP
  ·rintro st rfl
   have e:List.replicate l.carts.length (-1:Int)++w.drop l.carts.length=List.replicate l.carts.length (-1):=by rw[List.drop_of_length_le (by have:=HW.out.1;omega),List.append_nil]
   rw[e]
   obtain ⟨hRt,hall,hval,hvl,_⟩:=HL.out
   have hon:((List.replicate l.carts.length (-1:Int)).set i (d:Int))=Ld.only l i d:=rfl
   have hset2:List.take i (ints (List.replicate l.carts.length (-1)))++.int .i64 (d:Int)::List.drop (i+1) (ints (List.replicate l.carts.length (-1)))=ints (Ld.only l i d):=by
    rw[← hon]
    simp only[ints,List.map_set]
    rw[List.set_eq_take_append_cons_drop,if_pos (by rw[List.length_map,List.length_replicate];omega)]
   have hil2:(ints (List.replicate l.carts.length (-1))).length=l.carts.length:=by simp[ints]
   have hcl:i<(ints (List.replicate l.carts.length (-1))).length:=by omega
   have hcl2:i+1≤(ints (List.replicate l.carts.length (-1))).length:=by omega
   have hcl3:i+1≤l.carts.length:=by omega
   have hol:=Ld.only_len l i d
   have hpl:=Ld.only_plan l hi (d:=d) ⟨by omega,hdd⟩
   have hrc:=hRt [.cells [.vs 7 (l.road.parts.map ptE),.vs 7 (l.road.events.map evE),.int .i64 l.days,.vs 2 (l.carts.map cE)],.cells [.int .i64 c.load,.int .i64 c.due],.cells (ints (Ld.only l i d))] (Ld.only l i d) hol 2 rfl
   have hal:=hall d hdd
   have hwd:IntKind.i64.wrap ((d:Int)+1)=(d:Int)+1:=zaf (by omega) (by omega)
   have hal2:Ld.right l (Ld.only l i d)=(decide ((k:Int)≤d)&&decide ((d:Int)≤c.due)):=by
    rw[Bool.eq_iff_iff,hal,Bool.and_eq_true,decide_eq_true_eq,decide_eq_true_eq]
    omega
   rw[hval,hpl,hal2,hol] at hrc
   simp only[Bool.true_and] at hrc
   have HO:=hideP hol
   clear hRt hall hval hvl hon hol hpl hal hal2
   generalize hcs2:ints (Ld.only l i d)=cs2 at *
   have HC:=hideP hcs2
   clear hcs2
   generalize ints (List.replicate l.carts.length (-1))=cs at *
   by_cases g1:(k:Int)≤d<;>by_cases g2:(d:Int)≤c.due
   all_goals
    simp only[g1,g2,decide_true,decide_false,Bool.and_true,Bool.and_false] at hrc
    refine gA ?_
    refine ⟨Ld.only l i d,HO.out,?_⟩
    rw[HC.out]
    exact invP
 ·rintro st ⟨w,hw,rfl⟩
  refine gA ?_
  exact zac (v:=.bool true) (.inl rfl) rfl (by simp) endvP rfl
end Ro
end Ev
end Go.Proofs.YtfpepkbflnendaaGreat
