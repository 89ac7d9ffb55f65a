/- The Go function ClampSets returns true, for every argument, in every world in which it is called; nothing that was there is turned. No condition. -/
import Derived.Test.YtimgnlellflciaaGreatLcSB
import Derived.Test.YtimgnlellflciaaGreatCsPE
import Derived.Test.YtimgnlellflciaaGreatLcSA
import Derived.Test.YtimgnlellflciaaGreatCsEA
import Derived.Test.YtimgnlellflciaaGreatProg
import Derived.KernelRfl
import Derived.Test.YtimgnlellflciaaGreatCsPD
/- The reference of chapter 09, gone through: Clash. -/
namespace Go.Proofs.YtimgnlellflciaaGreat
open Go
namespace Ev
namespace K
attribute [local simp] ev1 wantG spineK spine float xnew xval xeff zaa zar zbb zau zav addFl cellsOf pickC alive slLen slFt binI maxA maxK minA minK aeqK aeqS AV.cells spA zas fillA setAt bitsI nat_nn zbe AV.plain apart
open Clm (setOf zbp zdl)
set_option maxRecDepth 100000
set_option maxHeartbeats 4000000
def cl0St (H:List AB)(best:Option Nat)(set:Nat)(G:List AB):St:={ tm:=tmA 68 [(6,.int .i64 set),(5,.int .i64 (bI best)),(1,.ptr H.length 0)],df:=[],hp:=G,tc:=[] }
def cl2St (H:List AB)(best:Option Nat)(set:Nat)(acc:Bool)(i:Nat)(G:List AB):St:={ tm:=tmA 68 [(8,.int .i64 i),(7,.bool acc),(6,.int .i64 set),(5,.int .i64 (bI best)),(1,.ptr H.length 0)],df:=[],hp:=G,tc:=[] }
def cntP (c:Clm.Cl)(set i:Nat):Bool:=!Clm.bit set i || decide ((c.events.getD i default).kind=1)
theorem zzy (C:Cfg)(call:CallF)(c:Clm.Cl)(he6:c.events.length≤6)(hS:SetC call)(H:List AB)(best:Option Nat)(set:Nat)(hset:set<64)(acc:Bool)(i:Nat)(hi:i<c.events.length)(G:List AB)(h0:HB G H.length (.cells (clampCs c))):
    Does (ev C call H.length none (atP [1,1,1,1,1,0,1,0,0,1,0,0,1,0,1,0,0] af22.body) (cl2St H best set acc i G))
      (fun e st=>e=.normal∧{ st with tm:=keepT [1,5,6,7,8] st.tm }=cl2St H best set (acc&&cntP c set i) (i+1) G):=by
  have hgv:c.events[i]?=some c.events[i]:=List.getElem?_eq_getElem hi
  have hgd:c.events.getD i default=c.events[i]:=by rw[List.getD_eq_getElem?_getD,hgv];rfl
  unfold cntP
  rw[hgd]
  generalize c.events[i]=v at *
  have hgv':=ge_of hgv
  have hh:=fun H=>hS H set i (by omega) (by omega)
  have e5:(i:Int)<c.events.length:=by omega
  have hw:IntKind.i64.wrap (↑i+1)=↑i+1:=zat (by omega) (by omega)
  obtain ⟨A1,A2,A3⟩:=h0
  generalize bI best=bi at *
  clear hS hgd
  have hk:(v.kind=1∧decide (v.kind=1)=true)∨((v.kind==1)=false∧decide (v.kind=1)=false):=by
    by_cases h:v.kind=1
    · exact .inl ⟨h,decide_eq_true h⟩
    · exact .inr ⟨beq_false_of_ne h,decide_eq_false h⟩
  generalize Clm.bit set i=bt at *
  obtain ⟨dk,hdk⟩:∃ dk,decide (v.kind=1)=dk:=⟨_,rfl⟩
  rw[hdk] at hk ⊢
  clear hdk
  cases acc
  · clear hk
    unfold af22 cl2St
    simp only[atP,clampCs] at *
    (repeat (first|((with_reducible apply zad);(focus ((with_reducible apply zap);(focus rfl);(focus rfl);(focus ((conv=>lhs;simp[*,List.getElem?_append_right,List.set_append_right,List.getElem?_cons_zero,List.getElem?_append_left,List.set_append_left,-getElem?_pos,evtE,Nat.testBit_eq_decide_div_mod_eq])<;>exact rfl));(focus rfl);(focus rfl)));simp only[addFl])|(with_reducible apply zad;(focus ((conv=>lhs;simp[*,List.getElem?_append_right,List.set_append_right,List.getElem?_cons_zero,List.getElem?_append_left,List.set_append_left,-getElem?_pos,evtE,Nat.testBit_eq_decide_div_mod_eq])<;>exact rfl));simp only[addFl])|((with_reducible first|apply zai|apply zak|apply zah|apply zaf|apply zac|apply zaj|apply zag|apply zam|(apply zae;· simp[*,zaa])|(apply zab;· simp[*,zaa]));try simp only[Then,Ops,OutB])|simp only[Nat.reduceEqDiff,reduceIte,OutB,Then]))
    refine ⟨by first|rfl|trivial,?_⟩
    (refine st_is ?_ ?_ ?_ ?_;(focus (simp[zan,zaq]));(focus rfl);(focus (first|rfl|(simp;done)|(simp[*];done)|(simp;rfl)|(simp[*];omega)|(simp;omega)));(focus (first|rfl|simp)))
  · rcases hk with ⟨k1,rfl⟩|⟨k1,rfl⟩
    all_goals cases bt
    all_goals
      unfold af22 cl2St
      simp only[atP,clampCs] at *
      (repeat (first|((with_reducible apply zad);(focus ((with_reducible apply zap);(focus rfl);(focus rfl);(focus ((conv=>lhs;simp[*,List.getElem?_append_right,List.set_append_right,List.getElem?_cons_zero,List.getElem?_append_left,List.set_append_left,-getElem?_pos,evtE,Nat.testBit_eq_decide_div_mod_eq])<;>exact rfl));(focus rfl);(focus rfl)));simp only[addFl])|(with_reducible apply zad;(focus ((conv=>lhs;simp[*,List.getElem?_append_right,List.set_append_right,List.getElem?_cons_zero,List.getElem?_append_left,List.set_append_left,-getElem?_pos,evtE,Nat.testBit_eq_decide_div_mod_eq])<;>exact rfl));simp only[addFl])|((with_reducible first|apply zai|apply zak|apply zah|apply zaf|apply zac|apply zaj|apply zag|apply zam|(apply zae;· simp[*,zaa])|(apply zab;· simp[*,zaa]));try simp only[Then,Ops,OutB])|simp only[Nat.reduceEqDiff,reduceIte,OutB,Then]))
      refine ⟨by first|rfl|trivial,?_⟩
      (refine st_is ?_ ?_ ?_ ?_;(focus (simp[zan,zaq]));(focus rfl);(focus (first|rfl|(simp;done)|(simp[*];done)|(simp;rfl)|(simp[*];omega)|(simp;omega)));(focus (first|rfl|simp)))
theorem zxi (C:Cfg)(hC:C.calm=true)(call:CallF)(c:Clm.Cl)(hc:Clm.Fine c)(hS:SetC call)(hE:EveC call c)(hSz:SizeC call)(hCs:∀ s,s≤1000000→CasC call c s)(H:List AB)(best:Option Nat)(set:Nat)(hset:set<2 ^ c.events.length)(hbest:∀ b,best=some b→b<set)(G:List AB)(h0:HB G H.length (.cells (clampCs c))):
    Does (ev C call H.length none (atP [1,1,1,1,1,0,1,0,0] af22.body) (cl0St H best set G))
      (fun e st=>e=.normal∧∃ G',HB G' H.length (.cells (clampCs c))∧{ st with tm:=keepT [1,5,6] st.tm }=cl0St H (if Clm.betterB best set&&clashP c set then some set else best) (set+1) G'):=by
  have he6:=hc.events
  have hpw:2 ^ c.events.length≤2 ^ 6:=Nat.pow_le_pow_right (by decide) he6
  have h64:set<64:=by omega
  have hev:((Clm.every c:Nat):Int)=((2 ^ c.events.length - 1:Nat):Int):=rfl
  have e5:(set:Int)≤(Clm.every c:Nat):=by rw[hev];omega
  have hE':=fun H=>hE H
  have hw:IntKind.i64.wrap (↑set+1)=↑set+1:=zat (by omega) (by omega)
  have hct:clashP c set=(((List.range c.events.length).all fun i=>cntP c set i)&&!Clm.can c set):=by
    unfold clashP
    rw[Clm.counts_iff hset]
    rfl
  have hca:=Clm.cases_can hc set
  rw[hct,hca,Bool.not_not]
  have HX:=hideP (And.intro hS (And.intro he6 (And.intro hSz (And.intro (hCs set (by omega)) (And.intro h0 (And.intro hbest h64))))))
  clear hS hSz hCs hbest hpw hct hca hc hev hset h64 he6
  obtain ⟨A1,A2,A3⟩:=h0
  generalize Clm.every c=ev0 at *
  unfold af22 cl0St
  simp only[atP,clampCs] at *
  (repeat (first|((with_reducible apply zad);(focus ((with_reducible apply zap);(focus rfl);(focus rfl);(focus ((conv=>lhs;simp[*,List.getElem?_append_right,List.set_append_right,List.getElem?_cons_zero,List.getElem?_append_left,List.set_append_left,-getElem?_pos,Nat.testBit_eq_decide_div_mod_eq])<;>exact rfl));(focus rfl);(focus rfl)));simp only[addFl])|(with_reducible apply zad;(focus ((conv=>lhs;simp[*,List.getElem?_append_right,List.set_append_right,List.getElem?_cons_zero,List.getElem?_append_left,List.set_append_left,-getElem?_pos,Nat.testBit_eq_decide_div_mod_eq])<;>exact rfl));simp only[addFl])|((with_reducible first|apply zai|apply zak|apply zah|apply zaf|apply zac|apply zaj|apply zag|apply zam|(apply zae;· simp[*,zaa])|(apply zab;· simp[*,zaa]));try simp only[Then,Ops])|simp only[Nat.reduceEqDiff,reduceIte,OutB,Then]))
  clear hE hE' A1 A2 A3
  with_reducible refine zaz hC c.events.length (by have:=HX.out.2.1;unfold fuelL;omega) (fun i st=>st=cl2St H best set ((List.range i).all fun i=>cntP c set i) i G) ?_ ?_ ?_
  · unfold cl2St
    simp only[List.range_zero,List.all_nil]
    (refine st_is ?_ ?_ ?_ ?_;(focus (simp[zan,zaq]));(focus rfl);(focus (first|rfl|(simp;done)|(simp[*];done)|(simp;rfl)|(simp[*];omega)|(simp;omega)));(focus (first|rfl|simp)))
  · rintro i st hi rfl
    obtain ⟨hS,he6,hSz,hCs,h0,hbest,h64⟩:=HX.out
    have hr:=zzy C call c he6 hS H best set h64 ((List.range i).all fun i=>cntP c set i) i hi G h0
    refine Does.mono hr ?_
    rintro e st ⟨rfl,h⟩
    rw[h,List.range_succ,List.all_append]
    simp only[List.all_cons,List.all_nil,Bool.and_true]
  · rintro st rfl
    obtain ⟨hS,he6,hSz,hCs,⟨A1,A2,A3⟩,hbest,h64⟩:=HX.out
    obtain ⟨v,G',hcall,l1,kp,hV⟩:=hCs G
    have k0:=kp H.length _ (HB.mk A1 A2 A3)
    have z1:=fun H=>hSz H set (by omega)
    have hG:CsV (fun _=>True) G' (Clm.casesR c set) v:=hV.keep (fun q _ _=>trivial) fun q x _ h=>h
    have hvc:(v=.nils∧(Clm.casesR c set).isEmpty=true)∨∃ q n cs,v=.sl q 0 n 2∧0<n∧HB G' q (.cells cs)∧(Clm.casesR c set).isEmpty=false:=by
      cases hG with
      |none h=>exact .inl ⟨rfl,by rw[h];rfl⟩
      |some q cs h1 _ h3 _=>exact .inr ⟨q,_,cs,rfl,List.length_pos_iff.2 h1,h3,by cases h:Clm.casesR c set with|nil=>exact absurd h h1|cons a l=>rfl⟩
    have hk0:=hideP (And.intro k0 (HB.mk A1 A2 A3))
    clear hS hCs l1 kp hV hG k0 HX he6
    generalize ((List.range c.events.length).all fun i=>cntP c set i)=acc at *
    cases acc with
    |false=>
      rw[Bool.false_and,Bool.and_false,if_neg (by simp)]
      clear hvc hcall hSz hbest z1
      generalize hbi:bI best=bi at *
      unfold cl2St
      rw[hbi]
      try simp only[clampCs] at *
      (repeat (first|((with_reducible apply zad);(focus ((with_reducible apply zap);(focus rfl);(focus rfl);(focus ((conv=>lhs;simp[*,List.getElem?_append_right,List.set_append_right,List.getElem?_cons_zero,List.getElem?_append_left,List.set_append_left,-getElem?_pos,Nat.testBit_eq_decide_div_mod_eq])<;>exact rfl));(focus rfl);(focus rfl)));simp only[addFl])|(with_reducible apply zad;(focus ((conv=>lhs;simp[*,List.getElem?_append_right,List.set_append_right,List.getElem?_cons_zero,List.getElem?_append_left,List.set_append_left,-getElem?_pos,Nat.testBit_eq_decide_div_mod_eq])<;>exact rfl));simp only[addFl])|((with_reducible first|apply zai|apply zak|apply zah|apply zaf|apply zac|apply zaj|apply zag|apply zam|(apply zae;· simp[*,zaa])|(apply zab;· simp[*,zaa]));try simp only[Then,Ops,OutB,reduceIte])|simp only[Nat.reduceEqDiff,reduceIte,OutB,Then]))
      refine ⟨by first|rfl|trivial,G,hk0.out.2,?_⟩
      (refine st_is ?_ ?_ ?_ ?_;(focus (simp[zan,zaq]));(focus rfl);(focus (first|rfl|(simp;done)|(simp[*];done)|(simp;rfl)|(simp[*];omega)|(simp;omega)));(focus (first|rfl|simp)))
    |true=>
      rw[Bool.true_and]
      simp only[clampCs] at hcall
      cases best with
      |none=>
        clear z1 hSz hbest
        rw[show Clm.betterB none set=true from rfl,Bool.true_and]
        rcases hvc with ⟨rfl,he⟩|⟨q,n,cs,rfl,hn,⟨Q1,Q2,Q3⟩,he⟩
        · rw[he,if_pos rfl]
          clear he
          unfold cl2St
          simp only[bI] at *
          (repeat (first|((with_reducible apply zad);(focus ((with_reducible apply zap);(focus rfl);(focus rfl);(focus ((conv=>lhs;simp[*,List.getElem?_append_right,List.set_append_right,List.getElem?_cons_zero,List.getElem?_append_left,List.set_append_left,-getElem?_pos,Nat.testBit_eq_decide_div_mod_eq])<;>exact rfl));(focus rfl);(focus rfl)));simp only[addFl])|(with_reducible apply zad;(focus ((conv=>lhs;simp[*,List.getElem?_append_right,List.set_append_right,List.getElem?_cons_zero,List.getElem?_append_left,List.set_append_left,-getElem?_pos,Nat.testBit_eq_decide_div_mod_eq])<;>exact rfl));simp only[addFl])|((with_reducible first|apply zai|apply zak|apply zah|apply zaf|apply zac|apply zaj|apply zag|apply zam|(apply zae;· simp[*,zaa])|(apply zab;· simp[*,zaa]));try simp only[Then,Ops,OutB,reduceIte])|simp only[Nat.reduceEqDiff,reduceIte,OutB,Then]))
          refine ⟨by first|rfl|trivial,G',hk0.out.1,?_⟩
          (refine st_is ?_ ?_ ?_ ?_;(focus (simp[zan,zaq]));(focus rfl);(focus (first|rfl|(simp;done)|(simp[*];done)|(simp;rfl)|(simp[*];omega)|(simp;omega)));(focus (first|rfl|simp)))
        · rw[he,if_neg (by simp)]
          have hn0:((n:Int)==0)=false:=beq_false_of_ne (by omega)
          have hn1:¬ (n=0):=by omega
          clear he hn
          unfold cl2St
          simp only[bI] at *
          (repeat (first|((with_reducible apply zad);(focus ((with_reducible apply zap);(focus rfl);(focus rfl);(focus ((conv=>lhs;simp[*,List.getElem?_append_right,List.set_append_right,List.getElem?_cons_zero,List.getElem?_append_left,List.set_append_left,-getElem?_pos,Nat.testBit_eq_decide_div_mod_eq])<;>exact rfl));(focus rfl);(focus rfl)));simp only[addFl])|(with_reducible apply zad;(focus ((conv=>lhs;simp[*,List.getElem?_append_right,List.set_append_right,List.getElem?_cons_zero,List.getElem?_append_left,List.set_append_left,-getElem?_pos,Nat.testBit_eq_decide_div_mod_eq])<;>exact rfl));simp only[addFl])|((with_reducible first|apply zai|apply zak|apply zah|apply zaf|apply zac|apply zaj|apply zag|apply zam|(apply zae;· simp[*,zaa])|(apply zab;· simp[*,zaa]));try simp only[Then,Ops,OutB,reduceIte])|simp only[Nat.reduceEqDiff,reduceIte,OutB,Then]))
          refine ⟨by first|rfl|trivial,G',hk0.out.1,?_⟩
          (refine st_is ?_ ?_ ?_ ?_;(focus (simp[zan,zaq]));(focus rfl);(focus (first|rfl|(simp;done)|(simp[*];done)|(simp;rfl)|(simp[*];omega)|(simp;omega)));(focus (first|rfl|simp)))
      |some b=>
        have hb:=hbest b rfl
        have z2:=fun H=>hSz H b (by omega)
        have hbt:Clm.betterB (some b) set=decide (Clm.sizeN set<Clm.sizeN b):=rfl
        rw[hbt]
        have hb0:¬ ((b:Int)<0):=by omega
        generalize Clm.sizeN set=n1 at *
        generalize Clm.sizeN b=n2 at *
        clear hSz hbest hbt hb
        have hcase:(¬ ((n1:Int)<n2)∧decide (n1<n2)=false)∨((n1:Int)<n2∧decide (n1<n2)=true):=by
          by_cases h:n1<n2
          · exact .inr ⟨by omega,decide_eq_true h⟩
          · exact .inl ⟨by omega,decide_eq_false h⟩
        rcases hcase with ⟨g1,g2⟩|⟨g1,g2⟩
        · rw[g2,Bool.false_and,if_neg (by simp)]
          clear g2 hvc hcall
          unfold cl2St
          simp only[bI] at *
          (repeat (first|((with_reducible apply zad);(focus ((with_reducible apply zap);(focus rfl);(focus rfl);(focus ((conv=>lhs;simp[*,List.getElem?_append_right,List.set_append_right,List.getElem?_cons_zero,List.getElem?_append_left,List.set_append_left,-getElem?_pos,Nat.testBit_eq_decide_div_mod_eq])<;>exact rfl));(focus rfl);(focus rfl)));simp only[addFl])|(with_reducible apply zad;(focus ((conv=>lhs;simp[*,List.getElem?_append_right,List.set_append_right,List.getElem?_cons_zero,List.getElem?_append_left,List.set_append_left,-getElem?_pos,Nat.testBit_eq_decide_div_mod_eq])<;>exact rfl));simp only[addFl])|((with_reducible first|apply zai|apply zak|apply zah|apply zaf|apply zac|apply zaj|apply zag|apply zam|(apply zae;· simp[*,zaa])|(apply zab;· simp[*,zaa]));try simp only[Then,Ops,OutB,reduceIte])|simp only[Nat.reduceEqDiff,reduceIte,OutB,Then]))
          refine ⟨by first|rfl|trivial,G,hk0.out.2,?_⟩
          (refine st_is ?_ ?_ ?_ ?_;(focus (simp[zan,zaq]));(focus rfl);(focus (first|rfl|(simp;done)|(simp[*];done)|(simp;rfl)|(simp[*];omega)|(simp;omega)));(focus (first|rfl|simp)))
        · rw[g2,Bool.true_and]
          clear g2
          rcases hvc with ⟨rfl,he⟩|⟨q,n,cs,rfl,hn,⟨Q1,Q2,Q3⟩,he⟩
          · rw[he,if_pos rfl]
            clear he
            unfold cl2St
            simp only[bI] at *
            (repeat (first|((with_reducible apply zad);(focus ((with_reducible apply zap);(focus rfl);(focus rfl);(focus ((conv=>lhs;simp[*,List.getElem?_append_right,List.set_append_right,List.getElem?_cons_zero,List.getElem?_append_left,List.set_append_left,-getElem?_pos,Nat.testBit_eq_decide_div_mod_eq])<;>exact rfl));(focus rfl);(focus rfl)));simp only[addFl])|(with_reducible apply zad;(focus ((conv=>lhs;simp[*,List.getElem?_append_right,List.set_append_right,List.getElem?_cons_zero,List.getElem?_append_left,List.set_append_left,-getElem?_pos,Nat.testBit_eq_decide_div_mod_eq])<;>exact rfl));simp only[addFl])|((with_reducible first|apply zai|apply zak|apply zah|apply zaf|apply zac|apply zaj|apply zag|apply zam|(apply zae;· simp[*,zaa])|(apply zab;· simp[*,zaa]));try simp only[Then,Ops,OutB,reduceIte])|simp only[Nat.reduceEqDiff,reduceIte,OutB,Then]))
            refine ⟨by first|rfl|trivial,G',hk0.out.1,?_⟩
            (refine st_is ?_ ?_ ?_ ?_;(focus (simp[zan,zaq]));(focus rfl);(focus (first|rfl|(simp;done)|(simp[*];done)|(simp;rfl)|(simp[*];omega)|(simp;omega)));(focus (first|rfl|simp)))
          · rw[he,if_neg (by simp)]
            have hn0:((n:Int)==0)=false:=beq_false_of_ne (by omega)
            have hn1:¬ (n=0):=by omega
            clear he hn
            unfold cl2St
            simp only[bI] at *
            (repeat (first|((with_reducible apply zad);(focus ((with_reducible apply zap);(focus rfl);(focus rfl);(focus ((conv=>lhs;simp[*,List.getElem?_append_right,List.set_append_right,List.getElem?_cons_zero,List.getElem?_append_left,List.set_append_left,-getElem?_pos,Nat.testBit_eq_decide_div_mod_eq])<;>exact rfl));(focus rfl);(focus rfl)));simp only[addFl])|(with_reducible apply zad;(focus ((conv=>lhs;simp[*,List.getElem?_append_right,List.set_append_right,List.getElem?_cons_zero,List.getElem?_append_left,List.set_append_left,-getElem?_pos,Nat.testBit_eq_decide_div_mod_eq])<;>exact rfl));simp only[addFl])|((with_reducible first|apply zai|apply zak|apply zah|apply zaf|apply zac|apply zaj|apply zag|apply zam|(apply zae;· simp[*,zaa])|(apply zab;· simp[*,zaa]));try simp only[Then,Ops,OutB,reduceIte])|simp only[Nat.reduceEqDiff,reduceIte,OutB,Then]))
            refine ⟨by first|rfl|trivial,G',hk0.out.1,?_⟩
            (refine st_is ?_ ?_ ?_ ?_;(focus (simp[zan,zaq]));(focus rfl);(focus (first|rfl|(simp;done)|(simp[*];done)|(simp;rfl)|(simp[*];omega)|(simp;omega)));(focus (first|rfl|simp)))
theorem zrv (C:Cfg)(hC:C.calm=true)(call:CallF)(c:Clm.Cl)(hK:ChkC call c)(hCs0:Clm.Fine c→CasesC call c)(hS:SetC call)(hE:Clm.Fine c→EveC call c)(hSz:SizeC call)(hCs:Clm.Fine c→∀ s,s≤1000000→CasC call c s)(H:List AB):
    Does (ev C call H.length none af22.body { tm:=tmA af22.ntmps (zipI 0 [.agg (clampCs c)] []),df:=[],hp:=H,tc:=[] })
      (Ends C H.length af22.res fun v _ tc=>v=clashR c∧tc=[]):=by
  have hk:=fun H=>hK H true
  unfold chkE at hk
  unfold clashR clashV clashE
  cases hval:Clm.valid c with
  |false=>
    rw[hval] at hk
    simp only[if_pos] at hk ⊢
    clear hK hCs0 hS hE hSz hCs hval
    unfold af22
    simp only[zipI,clampCs] at *
    (repeat (first|((with_reducible apply zad);(focus ((with_reducible apply zap);(focus rfl);(focus rfl);(focus ((conv=>lhs;simp[*,List.getElem?_append_right,List.set_append_right,List.getElem?_cons_zero,List.getElem?_append_left,List.set_append_left,-getElem?_pos,Nat.testBit_eq_decide_div_mod_eq])<;>exact rfl));(focus rfl);(focus rfl)));simp only[addFl])|(with_reducible apply zad;(focus ((conv=>lhs;simp[*,List.getElem?_append_right,List.set_append_right,List.getElem?_cons_zero,List.getElem?_append_left,List.set_append_left,-getElem?_pos,Nat.testBit_eq_decide_div_mod_eq])<;>exact rfl));simp only[addFl])|((with_reducible first|apply zai|apply zak|apply zah|apply zaf|apply zac|apply zaj|apply zag|apply zam|(apply zae;· simp[*,zaa])|(apply zab;· simp[*,zaa]));try simp only[Then,Ops])|simp only[Nat.reduceEqDiff,reduceIte,OutB,Then]))
    exact zao (v:=.tup [.int .i64 0,.int .i64 1]) (.inl rfl) rfl (by simp) (by simp only[resL,resOf,zal];simp[*,resV]) ⟨rfl,rfl⟩
  |true=>
    have hc:=(Clm.valid_iff c).1 hval
    rw[hval] at hk
    simp only[Bool.true_eq_false,if_false] at hk ⊢
    obtain ⟨v,G0,hcall,l1,kp,hV⟩:=hCs0 hc (H++[.cells (clampCs c)])
    have k0:=kp H.length (.cells (clampCs c)) (hb (by rw[List.getElem?_append_right (by omega),Nat.sub_self];rfl))
    have hcc:=Clm.cases_can hc (Clm.every c)
    have hgH:H.length≤G0.length:=by simp only[List.length_append,List.length_cons,List.length_nil] at l1;omega
    have hvc:(v=.nils∧Clm.can c (Clm.every c)=false)∨∃ q n cs,v=.sl q 0 n 2∧0<n∧HB G0 q (.cells cs)∧Clm.can c (Clm.every c)=true:=by
      rw[hcc]
      cases hV with
      |none h=>exact .inl ⟨rfl,by rw[h];rfl⟩
      |some q cs h1 _ h3 _=>exact .inr ⟨q,_,cs,rfl,List.length_pos_iff.2 h1,h3,by cases h:Clm.casesR c (Clm.every c) with|nil=>exact absurd h h1|cons a l=>rfl⟩
    clear hcc hV kp l1
    rcases hvc with ⟨rfl,he⟩|⟨q,n,cs,rfl,hn,⟨Q1,Q2,Q3⟩,he⟩
    · rw[he]
      simp only[Bool.false_eq_true,if_false]
      have he6:=hc.events
      have hsf:clashF c=Clm.bestR (clashP c) (2 ^ c.events.length):=(Clm.bestR_find (by omega) _).symm
      have hsome:∃ S,Clm.bestR (clashP c) (2 ^ c.events.length)=some S:=by
        cases hb:Clm.bestR (clashP c) (2 ^ c.events.length) with
        |some S=>exact ⟨S,rfl⟩
        |none=>
          have hlt:Clm.countsN c<2 ^ c.events.length:=zbp _ _
          have h1:=(Clm.bestR_spec (clashP c) (2 ^ c.events.length)).1 hb (Clm.countsN c) hlt
          have h2:clashP c (Clm.countsN c)=true:=by
            unfold clashP
            rw[Nat.and_self,Clm.can_counts hc,he];simp
          rw[h2] at h1;cases h1
      rw[hsf]
      have hpw:2 ^ c.events.length≤2 ^ 6:=Nat.pow_le_pow_right (by decide) he6
      have HX:=hideP (And.intro hc (And.intro hS (And.intro (hE hc) (And.intro hSz (And.intro (hCs hc) (And.intro k0 (And.intro hpw (And.intro hsome hgH))))))))
      clear hK hCs0 hS hE hSz hCs hval hc he hsf hsome hpw k0 he6 hgH
      unfold af22
      simp only[zipI,clampCs] at *
      (repeat (first|((with_reducible apply zad);(focus ((with_reducible apply zap);(focus rfl);(focus rfl);(focus ((conv=>lhs;simp[*,List.getElem?_append_right,List.set_append_right,List.getElem?_cons_zero,List.getElem?_append_left,List.set_append_left,-getElem?_pos,Nat.testBit_eq_decide_div_mod_eq])<;>exact rfl));(focus rfl);(focus rfl)));simp only[addFl])|(with_reducible apply zad;(focus ((conv=>lhs;simp[*,List.getElem?_append_right,List.set_append_right,List.getElem?_cons_zero,List.getElem?_append_left,List.set_append_left,-getElem?_pos,Nat.testBit_eq_decide_div_mod_eq])<;>exact rfl));simp only[addFl])|((with_reducible first|apply zai|apply zak|apply zah|apply zaf|apply zac|apply zaj|apply zag|apply zam|(apply zae;· simp[*,zaa])|(apply zab;· simp[*,zaa]));try simp only[Then,Ops])|simp only[Nat.reduceEqDiff,reduceIte,OutB,Then]))
      clear hcall hk
      with_reducible refine zaz hC (2 ^ c.events.length) (by have:=HX.out.2.2.2.2.2.2.1;unfold fuelL;omega) (fun set st=>∃ G,HB G H.length (.cells (clampCs c))∧st=cl0St H (Clm.bestR (clashP c) set) set G) ?_ ?_ ?_
      · refine ⟨G0,HX.out.2.2.2.2.2.1,?_⟩
        unfold cl0St
        rw[Clm.bestR]
        simp only[bI]
        (refine st_is ?_ ?_ ?_ ?_;(focus (simp[zan,zaq]));(focus rfl);(focus (first|rfl|(simp;done)|(simp[*];done)|(simp;rfl)|(simp[*];omega)|(simp;omega)));(focus (first|rfl|simp)))
      · rintro set st hset ⟨G,h0,rfl⟩
        obtain ⟨hc,hS,hE,hSz,hCs,_,_,_,_⟩:=HX.out
        have hr:=zxi C hC call c hc hS hE hSz hCs H (Clm.bestR (clashP c) set) set hset (fun b h=>((Clm.bestR_spec (clashP c) set).2 b h).1) G h0
        refine Does.mono hr ?_
        rintro e st ⟨rfl,G',h1,h2⟩
        rw[Clm.bestR]
        exact ⟨G',h1,h2⟩
      · rintro st ⟨G,⟨A1,A2,A3⟩,rfl⟩
        obtain ⟨hc,hS,hE,hSz,hCs,_,_,⟨S,hS1⟩,_⟩:=HX.out
        have hE':=fun H=>hE H
        have hx:¬ (((2 ^ c.events.length:Nat):Int)≤((Clm.every c:Nat):Int)):=by
          have:0<2 ^ c.events.length:=Nat.two_pow_pos _
          unfold Clm.every
          omega
        have hgH:H.length≤G.length:=by omega
        rw[hS1]
        generalize Clm.every c=ev0 at *
        generalize (2:Nat) ^ c.events.length=pw at *
        clear hc hS hE hSz hCs HX hS1
        unfold cl0St
        simp only[bI,clampCs] at *
        (repeat (first|((with_reducible apply zad);(focus ((with_reducible apply zap);(focus rfl);(focus rfl);(focus ((conv=>lhs;simp[*,List.getElem?_append_right,List.set_append_right,List.getElem?_cons_zero,List.getElem?_append_left,List.set_append_left,-getElem?_pos,Nat.testBit_eq_decide_div_mod_eq])<;>exact rfl));(focus rfl);(focus rfl)));simp only[addFl])|(with_reducible apply zad;(focus ((conv=>lhs;simp[*,List.getElem?_append_right,List.set_append_right,List.getElem?_cons_zero,List.getElem?_append_left,List.set_append_left,-getElem?_pos,Nat.testBit_eq_decide_div_mod_eq])<;>exact rfl));simp only[addFl])|((with_reducible first|apply zai|apply zak|apply zah|apply zaf|apply zac|apply zaj|apply zag|apply zam|(apply zae;· simp[*,zaa])|(apply zab;· simp[*,zaa]));try simp only[Then,Ops,OutB,reduceIte])|simp only[Nat.reduceEqDiff,reduceIte,OutB,Then]))
        exact zao (v:=.tup [.int .i64 S,.int .i64 0]) (.inl rfl) rfl hgH (by simp only[resL,resOf,zal];simp[*,resV]) ⟨rfl,rfl⟩
    · rw[he]
      simp only[if_pos]
      have hn1:(0:Int)<n:=by omega
      clear hK hCs0 hS hE hSz hCs hval hc he k0
      unfold af22
      simp only[zipI,clampCs] at *
      (repeat (first|((with_reducible apply zad);(focus ((with_reducible apply zap);(focus rfl);(focus rfl);(focus ((conv=>lhs;simp[*,List.getElem?_append_right,List.set_append_right,List.getElem?_cons_zero,List.getElem?_append_left,List.set_append_left,-getElem?_pos,Nat.testBit_eq_decide_div_mod_eq])<;>exact rfl));(focus rfl);(focus rfl)));simp only[addFl])|(with_reducible apply zad;(focus ((conv=>lhs;simp[*,List.getElem?_append_right,List.set_append_right,List.getElem?_cons_zero,List.getElem?_append_left,List.set_append_left,-getElem?_pos,Nat.testBit_eq_decide_div_mod_eq])<;>exact rfl));simp only[addFl])|((with_reducible first|apply zai|apply zak|apply zah|apply zaf|apply zac|apply zaj|apply zag|apply zam|(apply zae;· simp[*,zaa])|(apply zab;· simp[*,zaa]));try simp only[Then,Ops])|simp only[Nat.reduceEqDiff,reduceIte,OutB,Then]))
      exact zao (v:=.tup [.int .i64 0,.int .i64 4]) (.inl rfl) rfl hgH (by simp only[resL,resOf,zal];simp[*,resV]) ⟨rfl,rfl⟩
end K
end Ev
end Go.Proofs.YtimgnlellflciaaGreat

/- The reference of chapter 09: what a law's configuration knows of it. -/
namespace Go.Proofs.YtimgnlellflciaaGreat
open Go Go.Proofs
namespace Ev
namespace K
theorem knowsZ {t:FT}(hz:∀ {f:Nat} {af:AFunc},(cfgL t).exth f=none→FT.find t f=some af→Has (cfgL t) f af)
    (h1:FT.find t 56=some af56) (h2:FT.find t 72=some af72) (h3:FT.find t 100=some af100) (h4:FT.find t 93=some af93) (h5:FT.find t 73=some af73) (h6:FT.find t 38=some af38) (h7:FT.find t 41=some af41) (h8:FT.find t 71=some af71) (h9:FT.find t 50=some af50)
    (h10:FT.find t 70=some af70) (h11:FT.find t 69=some af69) (h12:FT.find t 36=some af36) (h13:FT.find t 49=some af49) (h14:FT.find t 74=some af74) (h15:FT.find t 37=some af37) (h16:FT.find t 55=some af55):KnowsZ (cfgL t):=
  ⟨rfl,hz rfl h1,hz rfl h2,hz rfl h3,hz rfl h4,hz rfl h5,hz rfl h6,hz rfl h7,hz rfl h8,hz rfl h9,hz rfl h10,hz rfl h11,hz rfl h12,hz rfl h13,hz rfl h14,hz rfl h15,hz rfl h16⟩
theorem ybe {t:FT}(la:∀ n,LApi (Ev.call (cfgL t) (n+1)))(m:Nat)(hm:1≤m):LApi (Ev.call (cfgL t) m):=by
  obtain ⟨m,rfl⟩:=Nat.exists_eq_add_of_le' hm
  exact la m
end K
end Ev
end Go.Proofs.YtimgnlellflciaaGreat

/- The reference of chapter 09, gone through: the law ClampSets. -/
namespace Go.Proofs.YtimgnlellflciaaGreat
open Go
namespace Ev
namespace K
attribute [local simp] ev1 wantG spineK spine float xnew xval xeff zaa zar zbb zau zav addFl cellsOf pickC alive slLen slFt binI maxA maxK minA minK aeqK aeqS AV.cells spA zas fillA setAt bitsI nat_nn zbe AV.plain apart
set_option maxRecDepth 100000
set_option maxHeartbeats 4000000
structure SApi (call:CallF) (c:Clm.Cl):Prop where
  empty:∀ H,call (.fn (.func 18) [] []) [.agg (clampCs c)] H=some (.ret (emptyR c),H,[])
  share:∀ H s,call (.fn (.func 20) [] []) [.agg (clampCs c),.int .i64 s] H=some (.ret (shareR c s),H,[])
  clash:∀ H,call (.fn (.func 22) [] []) [.agg (clampCs c)] H=some (.ret (clashR c),H,[])
theorem sapi {C:Cfg}(k:KnowsZ C){c:Clm.Cl}(l:LvZ C c)(ke:Has C 18 af18)(ks:Has C 20 af20)(kc:Has C 22 af22)(kz:Has C 63 af63)(m:Nat):SApi (Ev.call C (m+14)) c:=by
  have sz:∀ n,SizeC (Ev.call C (n+1)):=fun n H s hs=>zax k.calm kz (le' rfl) rfl (zye C k.calm _ s hs H)
  exact ⟨fun H => zax k.calm ke (le' rfl) rfl (zru C k.calm _ c (l.known _ (by omega)) (l.pow _ (by omega)) (fun hc => l.tog hc _ (by omega)) H),
    fun H s=>zax k.calm ks (le' rfl) rfl (zro C k.calm _ c (l.sods _ (by omega)) (l.known _ (by omega)) (fun hc=>l.piles hc _ (by omega)) (sz (m+12)) (fun hc=>l.tog hc _ (by omega)) H s),
    fun H=>zax k.calm kc (le' rfl) rfl (zrv C k.calm _ c (l.check _ (by omega)) (fun hc=>l.cases hc _ (by omega)) (l.set _ (by omega)) (fun hc=>l.every hc _ (by omega)) (sz (m+12)) (fun hc s hs=>l.cas hc _ (by omega) s hs) H)⟩
theorem zuh (C:Cfg)(call:CallF)(hA:LApi call)(c:Clm.Cl)(hH:HvyC call c 3)(hR:max c.piles.length c.events.length≤40→SApi call c)(sods:Int)(H:List AB):
    Does (ev C call H.length none af4.body { tm:=tmA af4.ntmps (zipI 0 [.agg (clampCs c),.int .i64 sods] []),df:=[],hp:=H,tc:=[] })
      (Ends C H.length af4.res fun v _ _=>v=.bool true):=by
  have ha:=fun H=>hA.alive (H:=H)
  obtain ⟨b,hb,hh⟩:=hH
  cases b with
  |true=>
    clear hA hR hb
    unfold af4
    simp only[zipI,clampCs] at *
    (repeat (first|((with_reducible apply zad);(focus ((with_reducible apply zap);(focus rfl);(focus rfl);(focus ((conv=>lhs;simp[*,List.getElem?_append_right,List.set_append_right,List.getElem?_cons_zero,List.getElem?_append_left,List.set_append_left,-getElem?_pos,Nat.testBit_eq_decide_div_mod_eq])<;>exact rfl));(focus rfl);(focus rfl)));simp only[addFl])|(with_reducible apply zad;(focus ((conv=>lhs;simp[*,List.getElem?_append_right,List.set_append_right,List.getElem?_cons_zero,List.getElem?_append_left,List.set_append_left,-getElem?_pos,Nat.testBit_eq_decide_div_mod_eq])<;>exact rfl));simp only[addFl])|((with_reducible first|apply zai|apply zak|apply zah|apply zaf|apply zac|apply zaj|apply zag|apply zam|(apply zae;· simp[*,zaa])|(apply zab;· simp[*,zaa]));try simp only[Then,Ops])|simp only[Nat.reduceEqDiff,reduceIte,OutB,Then]))
    exact zao (v:=.bool true) (.inl rfl) rfl (by simp) (by simp only[resL,resOf,zal];simp[*,resV]) rfl
  |false=>
    have hlen:=hb rfl
    have hcl:=fun H=>zot H c (by omega) (by omega)
    obtain ⟨r1,r2,r3⟩:=hR hlen
    have q1:=fun H=>hA.empty (hcl H)
    have q2:=fun H=>hA.share (hcl H) sods
    have q3:=fun H=>hA.clash (hcl H)
    replace r2:=fun H=>r2 H sods
    unfold emptyR at q1 r1
    unfold shareR at q2 r2
    unfold clashR at q3 r3
    generalize (if errOf c true=0 then (emptyS c:Int) else 0)=s1 at *
    generalize (if errOf c true=0 then (emptyP c:Int) else 0)=s2 at *
    generalize errOf c true=e1 at *
    generalize shareV c sods=s3 at *
    generalize shareE c sods=e3 at *
    generalize clashV c=s4 at *
    generalize clashE c=e4 at *
    clear hA hR hb hcl hlen
    unfold af4
    simp only[zipI,clampCs] at *
    (repeat (first|((with_reducible apply zad);(focus ((with_reducible apply zap);(focus rfl);(focus rfl);(focus ((conv=>lhs;simp[*,List.getElem?_append_right,List.set_append_right,List.getElem?_cons_zero,List.getElem?_append_left,List.set_append_left,-getElem?_pos,Nat.testBit_eq_decide_div_mod_eq])<;>exact rfl));(focus rfl);(focus rfl)));simp only[addFl])|(with_reducible apply zad;(focus ((conv=>lhs;simp[*,List.getElem?_append_right,List.set_append_right,List.getElem?_cons_zero,List.getElem?_append_left,List.set_append_left,-getElem?_pos,Nat.testBit_eq_decide_div_mod_eq])<;>exact rfl));simp only[addFl])|((with_reducible first|apply zai|apply zak|apply zah|apply zaf|apply zac|apply zaj|apply zag|apply zam|(apply zae;· simp[*,zaa])|(apply zab;· simp[*,zaa]));try simp only[Then,Ops])|simp only[Nat.reduceEqDiff,reduceIte,OutB,Then]))
    exact zao (v:=.bool true) (.inl rfl) rfl (by simp) (by simp only[resL,resOf,zal];simp[*,resV]) rfl
end K
end Ev
end Go.Proofs.YtimgnlellflciaaGreat

/- The code of the evaluator is that of the program (the reference, part 1). Printed by program. -/
namespace Go.Proofs.YtimgnlellflciaaGreat
open Go Go.Proofs
namespace Ev
set_option maxRecDepth 1000000
theorem is5 : ∃ F, Tryz.prog.funcs[5]? = some F ∧ (F.name == "runtime.NumGoroutine")=false∧compFn Tryz.prog F=some af5.strip:=⟨_,Tryz.func5,by kernel_rfl,by kernel_rfl⟩
theorem is18 : ∃ F, Tryz.prog.funcs[18]? = some F ∧ (F.name == "runtime.NumGoroutine")=false∧compFn Tryz.prog F=some af18.strip:=⟨_,Tryz.func18,by kernel_rfl,by kernel_rfl⟩
theorem is20 : ∃ F, Tryz.prog.funcs[20]? = some F ∧ (F.name == "runtime.NumGoroutine")=false∧compFn Tryz.prog F=some af20.strip:=⟨_,Tryz.func20,by kernel_rfl,by kernel_rfl⟩
theorem is22 : ∃ F, Tryz.prog.funcs[22]? = some F ∧ (F.name == "runtime.NumGoroutine")=false∧compFn Tryz.prog F=some af22.strip:=⟨_,Tryz.func22,by kernel_rfl,by kernel_rfl⟩
theorem is36 : ∃ F, Tryz.prog.funcs[36]? = some F ∧ (F.name == "runtime.NumGoroutine")=false∧compFn Tryz.prog F=some af36.strip:=⟨_,Tryz.func36,by kernel_rfl,by kernel_rfl⟩
theorem is41 : ∃ F, Tryz.prog.funcs[41]? = some F ∧ (F.name == "runtime.NumGoroutine")=false∧compFn Tryz.prog F=some af41.strip:=⟨_,Tryz.func41,by kernel_rfl,by kernel_rfl⟩
theorem is50 : ∃ F, Tryz.prog.funcs[50]? = some F ∧ (F.name == "runtime.NumGoroutine")=false∧compFn Tryz.prog F=some af50.strip:=⟨_,Tryz.func50,by kernel_rfl,by kernel_rfl⟩
theorem is69 : ∃ F, Tryz.prog.funcs[69]? = some F ∧ (F.name == "runtime.NumGoroutine")=false∧compFn Tryz.prog F=some af69.strip:=⟨_,Tryz.func69,by kernel_rfl,by kernel_rfl⟩
theorem is70 : ∃ F, Tryz.prog.funcs[70]? = some F ∧ (F.name == "runtime.NumGoroutine")=false∧compFn Tryz.prog F=some af70.strip:=⟨_,Tryz.func70,by kernel_rfl,by kernel_rfl⟩
theorem is93 : ∃ F, Tryz.prog.funcs[93]? = some F ∧ (F.name == "runtime.NumGoroutine")=false∧compFn Tryz.prog F=some af93.strip:=⟨_,Tryz.func93,by kernel_rfl,by kernel_rfl⟩
end Ev
end Go.Proofs.YtimgnlellflciaaGreat

/- The code of the evaluator is that of the program (the reference, part 2). Printed by program. -/
namespace Go.Proofs.YtimgnlellflciaaGreat
open Go Go.Proofs
namespace Ev
set_option maxRecDepth 1000000
theorem is4 : ∃ F, Tryz.prog.funcs[4]? = some F ∧ (F.name == "runtime.NumGoroutine")=false∧compFn Tryz.prog F=some af4.strip:=⟨_,Tryz.func4,by kernel_rfl,by kernel_rfl⟩
theorem is38 : ∃ F, Tryz.prog.funcs[38]? = some F ∧ (F.name == "runtime.NumGoroutine")=false∧compFn Tryz.prog F=some af38.strip:=⟨_,Tryz.func38,by kernel_rfl,by kernel_rfl⟩
theorem is49 : ∃ F, Tryz.prog.funcs[49]? = some F ∧ (F.name == "runtime.NumGoroutine")=false∧compFn Tryz.prog F=some af49.strip:=⟨_,Tryz.func49,by kernel_rfl,by kernel_rfl⟩
theorem is55 : ∃ F, Tryz.prog.funcs[55]? = some F ∧ (F.name == "runtime.NumGoroutine")=false∧compFn Tryz.prog F=some af55.strip:=⟨_,Tryz.func55,by kernel_rfl,by kernel_rfl⟩
theorem is56 : ∃ F, Tryz.prog.funcs[56]? = some F ∧ (F.name == "runtime.NumGoroutine")=false∧compFn Tryz.prog F=some af56.strip:=⟨_,Tryz.func56,by kernel_rfl,by kernel_rfl⟩
theorem is71 : ∃ F, Tryz.prog.funcs[71]? = some F ∧ (F.name == "runtime.NumGoroutine")=false∧compFn Tryz.prog F=some af71.strip:=⟨_,Tryz.func71,by kernel_rfl,by kernel_rfl⟩
theorem is72 : ∃ F, Tryz.prog.funcs[72]? = some F ∧ (F.name == "runtime.NumGoroutine")=false∧compFn Tryz.prog F=some af72.strip:=⟨_,Tryz.func72,by kernel_rfl,by kernel_rfl⟩
theorem is73 : ∃ F, Tryz.prog.funcs[73]? = some F ∧ (F.name == "runtime.NumGoroutine")=false∧compFn Tryz.prog F=some af73.strip:=⟨_,Tryz.func73,by kernel_rfl,by kernel_rfl⟩
theorem is100 : ∃ F, Tryz.prog.funcs[100]? = some F ∧ (F.name == "runtime.NumGoroutine")=false∧compFn Tryz.prog F=some af100.strip:=⟨_,Tryz.func100,by kernel_rfl,by kernel_rfl⟩
end Ev
end Go.Proofs.YtimgnlellflciaaGreat

/- The code of functions of the laws is that of the program. Printed by program. -/
namespace Go.Proofs.YtimgnlellflciaaGreat
open Go Go.Proofs
namespace Ev
set_option maxRecDepth 1000000
theorem is63 : ∃ F, Tryz.prog.funcs[63]? = some F ∧ (F.name == "runtime.NumGoroutine")=false∧compFn Tryz.prog F=some af63.strip:=⟨_,Tryz.func63,by kernel_rfl,by kernel_rfl⟩
end Ev
end Go.Proofs.YtimgnlellflciaaGreat

/- The functions that the law ClampSets goes through itself. Printed by program. -/
namespace Go.Proofs.YtimgnlellflciaaGreat
open Go Go.Proofs
namespace Ev
def treeClampSets:FT:=(.node 50 af50 (.node 28 af28 (.node 20 af20 (.node 5 af5 (.node 4 af4 .leaf .leaf) (.node 18 af18 .leaf .leaf)) (.node 23 af23 (.node 22 af22 .leaf .leaf) .leaf)) (.node 38 af38 (.node 37 af37 (.node 36 af36 .leaf .leaf) .leaf) (.node 49 af49 (.node 41 af41 .leaf .leaf) .leaf))) (.node 71 af71 (.node 63 af63 (.node 56 af56 (.node 55 af55 .leaf .leaf) .leaf) (.node 70 af70 (.node 69 af69 .leaf .leaf) .leaf)) (.node 74 af74 (.node 73 af73 (.node 72 af72 .leaf .leaf) .leaf) (.node 100 af100 (.node 93 af93 .leaf .leaf) .leaf))))
theorem zho : FT.All (fun k af => ∃ F, Tryz.prog.funcs[k]? = some F ∧ (F.name == "runtime.NumGoroutine")=false∧compFn Tryz.prog F=some af.strip) treeClampSets:=
  ⟨is50,⟨is28,⟨is20,⟨is5,⟨is4,trivial,trivial⟩,⟨is18,trivial,trivial⟩⟩,⟨is23,⟨is22,trivial,trivial⟩,trivial⟩⟩,⟨is38,⟨is37,⟨is36,trivial,trivial⟩,trivial⟩,⟨is49,⟨is41,trivial,trivial⟩,trivial⟩⟩⟩,⟨is71,⟨is63,⟨is56,⟨is55,trivial,trivial⟩,trivial⟩,⟨is70,⟨is69,trivial,trivial⟩,trivial⟩⟩,⟨is74,⟨is73,⟨is72,trivial,trivial⟩,trivial⟩,⟨is100,⟨is93,trivial,trivial⟩,trivial⟩⟩⟩⟩
end Ev
end Go.Proofs.YtimgnlellflciaaGreat

/- The Go function ClampSets returns true, for every argument, in every world in which it is called; nothing that was there is turned. No condition. -/
namespace Go.Proofs.YtimgnlellflciaaGreat
open Go Go.Proofs Go.ChangeShapes Go.WideShapes Go.ChangeAt Go.RowKit
namespace Ev
namespace K
theorem lawClampSets (W:World)(c:Clm.Cl){v0:Value}(hv0:VR W (fun _=>False) nomu (.agg (clampCs c)) v0)(x1:Int)(_b1:(Lit.int .i64 x1).wf=true){v1:Value}(hv1:VR W (fun _=>False) nomu (.int .i64 x1) v1):CallsIn Fence.wide 0 Tryz.prog 4 #[v0,v1] W fun e W'=>e=.returned (.bool true)∧Below W.heap.size W W':=by
  have hz:∀ {f:Nat} {af:AFunc},(cfgL treeClampSets).exth f=none→FT.find treeClampSets f=some af→Has (cfgL treeClampSets) f af:=fun h1 h2=>has_of rfl h1 h2 rfl
  have la:=fun n=>lapi (t:=treeClampSets) (hz rfl (by kernel_rfl)) (hz rfl (by kernel_rfl)) n
  have k:Has (cfgL treeClampSets) 4 af4:=hz rfl (by kernel_rfl)
  obtain ⟨v,hp,tc,H',h1,h2,_⟩:=zbo (C:=cfgL treeClampSets) (n:=15) (first:=[]) (captured:=[]) (args:=[.agg (clampCs c),.int .i64 x1]) (H:=[]) (Q:=fun v _ _=>v=.bool true) rfl k.ext k.exth k.fns k.whole (le' rfl) (zuh (cfgL treeClampSets) _ (la 14) c (zsq rfl (hz rfl (by kernel_rfl)) (la 13) c 3) (fun hl=>sapi (knowsZ hz (by kernel_rfl) (by kernel_rfl) (by kernel_rfl) (by kernel_rfl) (by kernel_rfl) (by kernel_rfl) (by kernel_rfl) (by kernel_rfl) (by kernel_rfl) (by kernel_rfl) (by kernel_rfl) (by kernel_rfl) (by kernel_rfl) (by kernel_rfl) (by kernel_rfl) (by kernel_rfl)) (lvz (knowsZ hz (by kernel_rfl) (by kernel_rfl) (by kernel_rfl) (by kernel_rfl) (by kernel_rfl) (by kernel_rfl) (by kernel_rfl) (by kernel_rfl) (by kernel_rfl) (by kernel_rfl) (by kernel_rfl) (by kernel_rfl) (by kernel_rfl) (by kernel_rfl) (by kernel_rfl) (by kernel_rfl)) (ybe la) c hl) (hz rfl (by kernel_rfl)) (hz rfl (by kernel_rfl)) (hz rfl (by kernel_rfl)) (hz rfl (by kernel_rfl)) 1) x1 [])
  subst h2
  refine (zlq (tblL zho) h1 trivial (zdr _ _ _) (rargs:=#[v0,v1]) ⟨rfl,fun i y r hy hr=>?_⟩).mono ?_
  · match i,hy,hr with
    |0,hy,hr=>cases hy;cases hr;exact hv0
    |1,hy,hr=>cases hy;cases hr;exact hv1
    |i+2,hy,hr=>simp at hy
  · rintro e W' ⟨⟨w,rfl,hw⟩,bel⟩
    exact ⟨by rw[ybm hw W],bel⟩
end K
end Ev
set_option maxRecDepth 100000 in
theorem zhq (os:Os)(started:os.Started)(H:Type)(enc:TypeId × Value→H):
    ReturnsInHanded {} Tryz.checked os 4 .any (Rows.clampSetsSpec.pre6 enc Tryz.prog Tryz.f4 Rows.clampSetsRow.domain false) (Rows.clampSetsSpec.post enc Tryz.prog Tryz.f4 false true false false):=by
  refine returnsInHanded_of_change (C:=Tryz.checked) znz started (by kernel_rfl) Tryz.func4
    (ChangeSpec.witness6 (enc:=enc) (C:=Tryz.checked) false ⟨#[],#[noClamp,.int .i64 0],[]⟩ 8 (by kernel_rfl) (by kernel_rfl) (by kernel_rfl) (by kernel_rfl)) ?_
  intro W base args ds gs before hval0 hW hcnd _
  have hval:∀ (j:Nat) t v,Tryz.f4.params[j]?=some t→args[j]?=some v→Value.okWide Tryz.prog W .any base t v:=hval0
  have hW':=hW
  obtain ⟨p,q,hA0,hV,rfl,hfz,hnd⟩:=hW
  have hA:DataW.TrodAll enc Tryz.prog W 0 (fun _=>true) true Tryz.f4.params.toList args.toList ds p:=hA0
  rw[Tryz.params4] at hA hval
  obtain ⟨v0,vs0,d0,ds0,p0,q0,hargs0,rfl,rfl,h0,hA1⟩:=trodAll_cons hA
  obtain ⟨v1,vs1,d1,ds1,p1,q1,rfl,rfl,rfl,h1,hA2⟩:=trodAll_cons hA1
  obtain ⟨rfl,rfl,rfl⟩:=trodAll_nil hA2
  obtain rfl:args=#[v0,v1]:=Array.ext' hargs0
  obtain ⟨rfl,rfl,rfl⟩:=trodVars_none hV
  clear hA0 hval0
  obtain ⟨c,hx0⟩:=zse (hval 0 27 v0 rfl rfl) h0
  obtain ⟨x1,rfl,rfl,rfl,wf1⟩:=open_int Tryz.underlying3 (hval 1 3 v1 rfl rfl) h1
  simp only[List.append_nil] at hW'
  have hlt:∀ x∈(p0++([]++[])),x.block<W.heap.size:=fun x hx=>by simpa using hW'.lt x (by simpa using hx)
  refine (callsIn_wide.1 (Ev.K.lawClampSets W c hx0 x1 wf1 .int)).mono fun e W' ⟨he,bel⟩=>?_
  subst he
  refine ⟨_,rfl,_,_,_,[],(p0++([]++[])),[],by simpa using hW',?_,?_,?_,bel.frame _,fun h=>by cases h⟩
  · exact trodAll_mk1 (shut_bool Tryz.underlying4 true)
  · exact trodAll_cons_mk (Below.trod laidOut' (by kernel_rfl) (of_decide_eq_true (by kernel_rfl)) h0 bel (fun x hx=>hlt x (by simp[hx]))) (trodAll_cons_mk (shut_int Tryz.underlying3 wf1) (trodAll_mk0))
  · exact rfl
theorem clampSets_holds:Rows.ClampSetsSaid:=
  OpenClaim.holds_of_wide 4 Tryz.f4 rfl rfl rfl rfl rfl rfl rfl ⟨rfl,rfl,rfl,rfl,rfl⟩ rfl rfl rfl rfl rfl (by kernel_rfl) Tryz.func4 (by kernel_rfl)
    (of_decide_eq_true (by kernel_rfl)) (by unfold Func.isWrapper;first|(rw[if_pos (by decide +kernel)];kernel_rfl)|(rw[if_neg (by decide +kernel)];exact ⟨rfl,rfl⟩))
    (fun os started H enc _=>zhq os started H enc)
#print axioms clampSets_holds
end Go.Proofs.YtimgnlellflciaaGreat
