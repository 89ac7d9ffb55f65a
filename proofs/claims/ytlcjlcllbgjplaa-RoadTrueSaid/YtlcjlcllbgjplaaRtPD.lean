/- Package road, gone through: Weak. -/
import Derived.Test.YtlcjlcllbgjplaaRtPC
import Derived.Test.YtlcjlcllbgjplaaRtPA
import Derived.Test.YtlcjlcllbgjplaaRtPB
/- Package road, gone through: open, which panics unless a road is valid. -/
namespace Go.Proofs.Ytlcjlcllbgjplaa
open Go
namespace Ev
namespace Ro
open K
attribute [local simp] ev1 wantG spineK spine float xnew xval xeff zaa zas zbc zaw zav addFl cellsOf pickC alive slLen slFt binI maxA maxK minA minK aeqK aeqS AV.cells spA zat fillA setAt bitsI nat_nn zbd AV.plain apart
set_option maxRecDepth 100000
set_option maxHeartbeats 4000000
def IsSpanC (call:CallF):Prop:=∀ (H:List AB) (s:Clm.Sp) (a b w:Int),-1000000≤a→b≤1000000→call (.fn (.func 83) [] []) [.agg [.int .i64 s.lo,.int .i64 s.hi],.int .i64 a,.int .i64 b,.int .i64 w] H=some (.ret (.bool (Rd.isSpan s a b w)),H,[])
def IsPartC (call:CallF)(r:Rd.Road):Prop:=∀ (H:List AB) (xb:Nat) (w z:AV),H[xb]?=some (.cells (roadCs r++[w,z]))→∀ n:Int,call (.fn (.func 41) [] []) [.ptr xb 0,.int .i64 n] H=some (.ret (.bool (Rd.isPart r n)),H,[])
def ifCs (v:Rd.Evt):List AV:=[ifA v]
theorem zhc (l:List Rd.Evt):l.flatMap ifCs=l.map ifA:=by
  induction l with
  |nil=>rfl
  |cons a l ih=>rw[List.flatMap_cons,ih];rfl
def OpenQ (r:Rd.Road)(is:Bool)(H:List AB)(x:CRes)(hp:List AB)(tc:List Nat):Prop:=
  tc=[]∧((Rd.valid r=false∧x=.pan (stopV 1))∨(Rd.valid r=true∧is=false∧x=.pan (stopV 2))∨(Rd.valid r=true∧is=true∧∃ xb mb eb,x=.ret (.ptr xb 0)∧Kp [] H hp∧Rx r xb mb eb hp∧H.length≤xb∧H.length≤mb∧H.length≤eb))
def headOk (r:Rd.Road):Bool:=decide (1≤r.parts.length∧r.parts.length≤4)&&decide (r.events.length≤10)
theorem zna (r:Rd.Road):Rd.valid r=(headOk r&&r.parts.all Rd.okPart&&r.events.all (Rd.okEvt r)&&decide ((r.events.filter Rd.doubt).length≤4)):=rfl
theorem zik {r:Rd.Road}{i:Nat}{v:Rd.Evt}(hv:r.events[i]?=some v):((r.events.take (i+1)).filter Rd.doubt).length=((r.events.take i).filter Rd.doubt).length+if Rd.doubt v then 1 else 0:=by
  rw[List.take_add_one,hv]
  simp only[Option.toList_some,List.filter_append,List.length_append,List.filter_cons,List.filter_nil]
  split<;>simp
theorem ztk (C:Cfg)(hC:C.calm=true)(call:CallF)(hM:MustC call)(hS:IsSpanC call)(hWi:WithinC call)(r:Rd.Road)(hP:r.parts.length≤4→IsPartC call r)(hbig:r.parts.length≤1000000∧r.events.length≤1000000)(H:List AB)(F:AV)(is:Bool)(hF:Rd.valid r=true→∀ G xb mb eb,Kp [] H G→Rx r xb mb eb G→call F [.ptr xb 0] G=some (.ret (.bool is),G,[])):
    Does (ev C call H.length none af39.body { tm:=tmA af39.ntmps (zipI 0 [.agg (roadCs r),F] []),df:=[],hp:=H,tc:=[] })
      (Fin C H.length af39 (OpenQ r is H)):=by
  have hmt:=hM.t
  have hmf:=hM.f
  have hw1:=fun H=>hWi H (r.parts.length:Int) 1 4
  have hv:=zna r
  unfold headOk at hv
  unfold af39 Zq Zm Zl Zo Zs Zd Ze Zc Zt Zn Zi
  simp only[zipI,roadCs]
  have hbigX:=hbig
  have HH:=hideP (And.intro hF (And.intro hbig (And.intro hWi (And.intro hS hP))))
  clear hF hWi hS hP
  by_cases h1:1≤r.parts.length∧r.parts.length≤4
  · have h1':(1:Int)≤r.parts.length∧(r.parts.length:Int)≤4:=by omega
    rw[decide_eq_true h1'] at hw1
    rw[decide_eq_true h1] at hv
    by_cases h3:r.events.length≤10
    · have h3':(r.events.length:Int)≤10:=by omega
      rw[decide_eq_true h3] at hv
      simp only[Bool.true_and] at hv
      have HV:=hideP hv
      clear hv
      (repeat (first|(with_reducible apply zad;(focus ((conv=>lhs;simp[*,Nat.testBit_eq_decide_div_mod_eq])<;>exact rfl));simp only[addFl])|(with_reducible apply zbb;(focus ((conv=>lhs;simp[*,Nat.testBit_eq_decide_div_mod_eq])<;>exact rfl));(try simp only[Ops,Then,OutB]);(try dsimp only))|((with_reducible first|apply zai|apply zak|apply zah|apply zaf|apply zac|apply zaj|apply zag|apply zam|(apply zae;· simp[*,zaa])|(apply zab;· simp[*,zaa]));try simp only[Then,Ops])|simp only[Nat.reduceEqDiff,reduceIte,OutB,Then]))
      clear hw1
      have hpb:=hbigX.1
      have he10:(r.events.length:Int)≤1000:=by omega
      with_reducible refine zba hC r.parts.length (by unfold fuelL;omega) (fun i st=>∃ J,(∀ j p,j<i→r.parts[j]?=some p→Rd.okPart p=true)∧st={ tm:=tmA 151 [(26,.int .i64 i),(25,.int .i64 r.parts.length),(24,.vs 7 (r.parts.map ptE)),(5,.fn (.func 83) [] []),(2,.ptr H.length 0),(1,F)],df:=[],hp:=H++.cells [.vs 7 (r.parts.map ptE),.vs 7 (r.events.map evE)]::J,tc:=[] }) ?_ ?_ ?_
      · refine ⟨[],by simp,?_⟩
        (refine st_is ?_ ?_ ?_ ?_;(focus (simp[zap,zaq]));(focus rfl);(focus (first|rfl|(simp;done)|(simp;rfl)));(focus rfl))
      · rintro i st hi ⟨J,hok,rfl⟩
        obtain ⟨_,_,hWi,hS,_⟩:=HH.out
        have hgp:r.parts[i]?=some r.parts[i]:=List.getElem?_eq_getElem hi
        generalize r.parts[i]=p at hgp
        have hgp':=ge_of hgp
        have hwi:IntKind.i64.wrap (↑i+1)=↑i+1:=zau (by omega) (by omega)
        have hbad:Rd.okPart p=false→Rd.valid r=false:=fun h=>by
          rw[HV.out]
          have:r.parts.all Rd.okPart=false:=by
            rw[List.all_eq_false]
            exact ⟨p,List.mem_of_getElem? hgp,by rw[h];decide⟩
          rw[this];simp
        have hnext:Rd.okPart p=true→∀ j q,j<i+1→r.parts[j]?=some q→Rd.okPart q=true:=by
          intro ho j q hj hq
          by_cases h:j=i
          · subst h;rw[hgp] at hq;cases hq;exact ho
          · exact hok j q (by omega) hq
        have hw1:=fun H=>hWi H p.full 0 60
        have hok4:Rd.okPart p=(decide (0≤p.full∧p.full≤60)&&Rd.isSpan p.height 0 p.full 2&&Rd.isSpan p.stiff 1 10 2&&Rd.isSpan p.rise 0 5 2):=rfl
        have HB:=hideP (And.intro hbad (And.intro hnext hok4))
        clear hbad hnext hok4 hok hWi
        cases hb1:decide (0≤p.full∧p.full≤60) with
        |false=>
          rw[hb1] at hw1
          have hev:Rd.valid r=false:=HB.out.1 (by rw[HB.out.2.2,hb1];rfl)
          have HE:=hideP hev
          clear hev hb1 hS hgp
          (repeat (first|(with_reducible apply zad;(focus ((conv=>lhs;simp[*,ptE,Nat.testBit_eq_decide_div_mod_eq])<;>exact rfl));simp only[addFl])|(with_reducible apply zbb;(focus ((conv=>lhs;simp[*,ptE,Nat.testBit_eq_decide_div_mod_eq])<;>exact rfl));(try simp only[Ops,Then,OutB]);(try dsimp only))|((with_reducible first|apply zai|apply zak|apply zah|apply zaf|apply zac|apply zaj|apply zag|apply zam|(apply zae;· simp[*,zaa])|(apply zab;· simp[*,zaa]));try simp only[Then,Ops,OutB])|simp only[Nat.reduceEqDiff,reduceIte,OutB,Then]))
          exact zby rfl (by simp) ⟨rfl,.inl ⟨HE.out,rfl⟩⟩
        |true=>
          rw[hb1] at hw1
          have hf60:=of_decide_eq_true hb1
          have hs2:=fun H=>hS H p.height 0 p.full 2 (by decide) (by omega)
          cases hb2:Rd.isSpan p.height 0 p.full 2 with
          |false=>
            rw[hb2] at hs2
            have hev:Rd.valid r=false:=HB.out.1 (by rw[HB.out.2.2,hb2];simp)
            have HE:=hideP hev
            clear hev hb1 hb2 hS hgp hf60
            (repeat (first|(with_reducible apply zad;(focus ((conv=>lhs;simp[*,ptE,Nat.testBit_eq_decide_div_mod_eq])<;>exact rfl));simp only[addFl])|(with_reducible apply zbb;(focus ((conv=>lhs;simp[*,ptE,Nat.testBit_eq_decide_div_mod_eq])<;>exact rfl));(try simp only[Ops,Then,OutB]);(try dsimp only))|((with_reducible first|apply zai|apply zak|apply zah|apply zaf|apply zac|apply zaj|apply zag|apply zam|(apply zae;· simp[*,zaa])|(apply zab;· simp[*,zaa]));try simp only[Then,Ops,OutB])|simp only[Nat.reduceEqDiff,reduceIte,OutB,Then]))
            exact zby rfl (by simp) ⟨rfl,.inl ⟨HE.out,rfl⟩⟩
          |true=>
            rw[hb2] at hs2
            have hs3:=fun H=>hS H p.stiff 1 10 2 (by decide) (by decide)
            cases hb3:Rd.isSpan p.stiff 1 10 2 with
            |false=>
              rw[hb3] at hs3
              have hev:Rd.valid r=false:=HB.out.1 (by rw[HB.out.2.2,hb3];simp)
              have HE:=hideP hev
              clear hev hb1 hb2 hb3 hS hgp hf60
              (repeat (first|(with_reducible apply zad;(focus ((conv=>lhs;simp[*,ptE,Nat.testBit_eq_decide_div_mod_eq])<;>exact rfl));simp only[addFl])|(with_reducible apply zbb;(focus ((conv=>lhs;simp[*,ptE,Nat.testBit_eq_decide_div_mod_eq])<;>exact rfl));(try simp only[Ops,Then,OutB]);(try dsimp only))|((with_reducible first|apply zai|apply zak|apply zah|apply zaf|apply zac|apply zaj|apply zag|apply zam|(apply zae;· simp[*,zaa])|(apply zab;· simp[*,zaa]));try simp only[Then,Ops,OutB])|simp only[Nat.reduceEqDiff,reduceIte,OutB,Then]))
              exact zby rfl (by simp) ⟨rfl,.inl ⟨HE.out,rfl⟩⟩
            |true=>
              rw[hb3] at hs3
              have hs4:=fun H=>hS H p.rise 0 5 2 (by decide) (by decide)
              cases hb4:Rd.isSpan p.rise 0 5 2 with
              |false=>
                rw[hb4] at hs4
                have hev:Rd.valid r=false:=HB.out.1 (by rw[HB.out.2.2,hb4];simp)
                have HE:=hideP hev
                clear hev hb1 hb2 hb3 hb4 hS hgp hf60
                (repeat (first|(with_reducible apply zad;(focus ((conv=>lhs;simp[*,ptE,Nat.testBit_eq_decide_div_mod_eq])<;>exact rfl));simp only[addFl])|(with_reducible apply zbb;(focus ((conv=>lhs;simp[*,ptE,Nat.testBit_eq_decide_div_mod_eq])<;>exact rfl));(try simp only[Ops,Then,OutB]);(try dsimp only))|((with_reducible first|apply zai|apply zak|apply zah|apply zaf|apply zac|apply zaj|apply zag|apply zam|(apply zae;· simp[*,zaa])|(apply zab;· simp[*,zaa]));try simp only[Then,Ops,OutB])|simp only[Nat.reduceEqDiff,reduceIte,OutB,Then]))
                exact zby rfl (by simp) ⟨rfl,.inl ⟨HE.out,rfl⟩⟩
              |true=>
                rw[hb4] at hs4
                have hn:=HB.out.2.1 (by rw[HB.out.2.2,hb1,hb2,hb3,hb4];rfl)
                have HN:=hideP hn
                clear hn hb1 hb2 hb3 hb4 hS hgp hf60
                (repeat (first|(with_reducible apply zad;(focus ((conv=>lhs;simp[*,ptE,Nat.testBit_eq_decide_div_mod_eq])<;>exact rfl));simp only[addFl])|(with_reducible apply zbb;(focus ((conv=>lhs;simp[*,ptE,Nat.testBit_eq_decide_div_mod_eq])<;>exact rfl));(try simp only[Ops,Then,OutB]);(try dsimp only))|((with_reducible first|apply zai|apply zak|apply zah|apply zaf|apply zac|apply zaj|apply zag|apply zam|(apply zae;· simp[*,zaa])|(apply zab;· simp[*,zaa]));try simp only[Then,Ops,OutB])|simp only[Nat.reduceEqDiff,reduceIte,OutB,Then]))
                with_reducible refine ⟨?_,HN.out,?_⟩
                rotate_left
                (refine st_is ?_ ?_ ?_ ?_;(focus (simp[zap,zaq]));(focus rfl);(focus (first|rfl|(simp;done)|(simp;rfl)));(focus rfl))
      · rintro st ⟨J,hok,rfl⟩
        have hall:r.parts.all Rd.okPart=true:=by
          rw[List.all_eq_true]
          intro p hp
          obtain ⟨j,hj⟩:=List.mem_iff_getElem?.1 hp
          exact hok j p (List.getElem?_eq_some_iff.1 hj).1 hj
        have hv:=HV.out
        rw[hall,Bool.true_and] at hv
        clear hok hall HV
        obtain ⟨hF,_,hWi,hS,hP⟩:=HH.out
        have hPi:=hP h1.2
        clear HH hP
        obtain ⟨C0,hC0⟩:∃ C0:AB,C0=.cells [.vs 7 (r.parts.map ptE),.vs 7 (r.events.map evE)]:=⟨_,rfl⟩
        obtain ⟨G,hG⟩:∃ G,G=H++C0::J:=⟨_,rfl⟩
        have h0:G[H.length]?=some (.cells [.vs 7 (r.parts.map ptE),.vs 7 (r.events.map evE)]):=by rw[hG,hC0];simp
        have hKG:Kp [] H G:=by rw[hG];exact Kp.app _ _
        rw[← hC0,← hG]
        obtain ⟨f0,f1,f2,f3,f4,f5⟩:=bk' h0
        have nG:∀ n,¬ G.length+n<H.length:=by omega
        have nG0:¬ G.length<H.length:=by omega
        have HX:=hideP (And.intro hF (And.intro hWi (And.intro hS (And.intro hPi (And.intro hv hKG)))))
        clear hF hWi hS hPi hv hKG hG hC0 J h0
        (repeat (first|(with_reducible apply zad;(focus ((conv=>lhs;simp[*,Nat.testBit_eq_decide_div_mod_eq])<;>exact rfl));simp only[addFl])|(with_reducible apply zbb;(focus ((conv=>lhs;simp[*,Nat.testBit_eq_decide_div_mod_eq])<;>exact rfl));(try simp only[Ops,Then,OutB]);(try dsimp only))|((with_reducible first|apply zai|apply zak|apply zah|apply zaf|apply zac|apply zaj|apply zag|apply zam|(apply zae;· simp[*,zaa])|(apply zab;· simp[*,zaa]));try simp only[Then,Ops,OutB,reduceIte])|simp only[Nat.reduceEqDiff,reduceIte,OutB,Then]))
        obtain ⟨hF,hWi,hS,hPi,hv,hKG⟩:=HX.out
        obtain ⟨G3,hG3⟩:∃ G3,G3=G++[.map [],.cells [.vs 7 (r.parts.map ptE),.vs 7 (r.events.map evE),.nils,.map G.length]]:=⟨_,rfl⟩
        have hI0:G3[G.length+1]?=some (.cells [.vs 7 (r.parts.map ptE),.vs 7 (r.events.map evE),.nils,.map G.length])∧G3[G.length]?=some (.map [])∧Kp [] H G3:=⟨by rw[hG3];simp,by rw[hG3];simp,by rw[hG3];exact hKG.trans (Kp.app _ _)⟩
        have hlG:H.length<G.length:=f0
        clear hF hWi hS hPi hv hKG f0 f1 f2 f3 f4 f5 nG nG0
        have hsame:G++[.map [],.cells [.vs 7 (r.parts.map ptE),.vs 7 (r.events.map evE),.nils,.map G.length]]=G3:=hG3.symm
        clear hG3
        with_reducible refine zba hC r.events.length (by unfold fuelL;omega) (fun i st=>∃ hp W lv,Gl ifCs 1 (G.length+2) hp W (r.events.take i) lv∧hp[G.length+1]?=some (.cells [.vs 7 (r.parts.map ptE),.vs 7 (r.events.map evE),lv,.map G.length])∧hp[G.length]?=some (.map [])∧Kp [] H hp∧(∀ j v,j<i→r.events[j]?=some v→Rd.okEvt r v=true)∧st={ tm:=tmA 151 [(62,.int .i64 i),(61,.int .i64 r.events.length),(60,.vs 7 (r.events.map evE)),(9,.int .i64 ((r.events.take i).filter Rd.doubt).length),(8,.ptr (G.length+1) 0),(5,.fn (.func 83) [] []),(1,F)],df:=[],hp:=hp,tc:=[] }) ?_ ?_ ?_
        · refine ⟨G3,[],.nils,.none,hI0.1,hI0.2.1,hI0.2.2,by simp,?_⟩
          rw[hsame]
          refine st_is ?_ rfl rfl rfl
          simp[zap,zaq]
        · clear hI0 hsame
          rintro i st hi ⟨hp,W,lv,hGl,hx,hmp,hKp,hok,rfl⟩
          obtain ⟨_,hWi,hS,hPi,hv,_⟩:=HX.out
          have hgv:r.events[i]?=some r.events[i]:=List.getElem?_eq_getElem hi
          generalize r.events[i]=v at hgv
          have hgv':=ge_of hgv
          have hwi:IntKind.i64.wrap (↑i+1)=↑i+1:=zau (by omega) (by omega)
          have hbad:Rd.okEvt r v=false→Rd.valid r=false:=fun h=>by
            rw[hv]
            have:r.events.all (Rd.okEvt r)=false:=by
              rw[List.all_eq_false]
              exact ⟨v,List.mem_of_getElem? hgv,by rw[h];decide⟩
            rw[this];rfl
          have hnext:Rd.okEvt r v=true→∀ j q,j<i+1→r.events[j]?=some q→Rd.okEvt r q=true:=by
            intro ho j q hj hq
            by_cases h:j=i
            · subst h;rw[hgv] at hq;cases hq;exact ho
            · exact hok j q (by omega) hq
          have hds:=zik hgv
          have hcl:((r.events.take i).filter Rd.doubt).length≤i:=Nat.le_trans (List.length_filter_le _ _) (by simp;omega)
          have htk:r.events.take (i+1)=r.events.take i++[v]:=by rw[List.take_add_one,hgv];rfl
          obtain ⟨x0,x1,x2,x3,x4,x5⟩:=bk' hx
          obtain ⟨m0,m1,m2,m3,m4,m5⟩:=bk' hmp
          have hpi:=fun K=>hPi (hp++K) (G.length+1) lv (.map G.length) (by rw[List.getElem?_append_left x0];exact hx) v.part
          have nG0:¬ hp.length<H.length:=by have:=hKp.len;omega
          have nG:∀ n,¬ hp.length+n<H.length:=by have:=hKp.len;omega
          have hone:∀ hp' nb,hp'[G.length+1]?=some (.cells [.vs 7 (r.parts.map ptE),.vs 7 (r.events.map evE),.sl nb 0 (i+1) 1,.map G.length])→hp'[G.length]?=some (.map [])→Kp [] H hp'→hp'[nb]?=some (.cells ((r.events.take i).map ifA++[ifA v]))→G.length+2≤nb→Rd.okEvt r v=true→∀ st':St,(∃ tm,st'=⟨tm,[],hp',[]⟩∧tm=tmA 151 [(62,.int .i64 ((i+1:Nat):Int)),(61,.int .i64 r.events.length),(60,.vs 7 (r.events.map evE)),(9,.int .i64 ((r.events.take (i+1)).filter Rd.doubt).length),(8,.ptr (G.length+1) 0),(5,.fn (.func 83) [] []),(1,F)])→∃ hp W lv,Gl ifCs 1 (G.length+2) hp W (r.events.take (i+1)) lv∧hp[G.length+1]?=some (.cells [.vs 7 (r.parts.map ptE),.vs 7 (r.events.map evE),lv,.map G.length])∧hp[G.length]?=some (.map [])∧Kp [] H hp∧(∀ j v,j<i+1→r.events[j]?=some v→Rd.okEvt r v=true)∧st'={ tm:=tmA 151 [(62,.int .i64 ((i+1:Nat):Int)),(61,.int .i64 r.events.length),(60,.vs 7 (r.events.map evE)),(9,.int .i64 ((r.events.take (i+1)).filter Rd.doubt).length),(8,.ptr (G.length+1) 0),(5,.fn (.func 83) [] []),(1,F)],df:=[],hp:=hp,tc:=[] }:=by
            rintro hp' nb k1 k2 k3 k4 k5 k6 st' ⟨tm,rfl,rfl⟩
            refine ⟨hp',[nb],_,?_,k1,k2,k3,hnext k6,rfl⟩
            have:=Gl.some (f:=ifCs) (k:=1) (lo:=G.length+2) (G:=hp') nb (r.events.take (i+1)) k5 (by rw[zhc,htk,List.map_append];exact k4) (by rw[htk];simp)
            have hlen:(r.events.take (i+1)).length=i+1:=by simp;omega
            rw[hlen] at this
            exact this
          have hlen0:(r.events.take i).length=i:=by simp;omega
          have HO:=hideP hone
          have HB:=hideP hbad
          have HD:=hideP (And.intro hds htk)
          have HK:=hideP hKp
          have HGl:=hideP hGl
          clear hone hbad hds hKp hGl hnext htk hok hx hmp hv hPi
          by_cases hk0:v.kind=0
          · have hs:=fun H=>hS H v.load 0 60 2 (by decide) (by decide)
            clear hS hWi hpi
            have hok0:Rd.okEvt r v=Rd.isSpan v.load 0 60 2:=by unfold Rd.okEvt;rw[if_pos hk0]
            cases hb:Rd.isSpan v.load 0 60 2 with
            |false=>
              rw[hb] at hs hok0
              have HE:=hideP (HB.out hok0)
              clear hok0 hb
              (repeat (first|(with_reducible apply zad;(focus ((conv=>lhs;simp[*,evE,Nat.testBit_eq_decide_div_mod_eq])<;>exact rfl));simp only[addFl])|(with_reducible apply zbb;(focus ((conv=>lhs;simp[*,evE,Nat.testBit_eq_decide_div_mod_eq])<;>exact rfl));(try simp only[Ops,Then,OutB]);(try dsimp only))|((with_reducible first|apply zai|apply zak|apply zah|apply zaf|apply zac|apply zaj|apply zag|apply zam|(apply zae;· simp[*,zaa])|(apply zab;· simp[*,zaa]));try simp only[Then,Ops,OutB])|simp only[Nat.reduceEqDiff,reduceIte,OutB,Then]))
              exact zby rfl (by simp;omega) ⟨rfl,.inl ⟨HE.out,rfl⟩⟩
            |true=>
              rw[hb] at hs hok0
              have hsp:=(Rd.isSpan_iff _ _ _ _).1 hb
              have hw1:IntKind.i64.wrap (v.load.hi - v.load.lo)=v.load.hi - v.load.lo:=zau (by omega) (by omega)
              obtain ⟨dv,hdv1,hdv2,hdv3⟩:∃ dv:Nat,min 1 (v.load.hi - v.load.lo)=(dv:Int)∧dv≤1∧((r.events.take (i+1)).filter Rd.doubt).length=((r.events.take i).filter Rd.doubt).length+dv:=by
                by_cases hlt:v.load.lo<v.load.hi
                · exact ⟨1,by omega,Nat.le_refl _,by rw[HD.out.1];simp[Rd.doubt,hk0,hlt]⟩
                · exact ⟨0,by omega,by omega,by rw[HD.out.1];simp[Rd.doubt,hlt]⟩
              have hw2:IntKind.i64.wrap ((((r.events.take i).filter Rd.doubt).length:Int)+dv)=(((r.events.take i).filter Rd.doubt).length:Int)+dv:=zau (by omega) (by omega)
              have hif:=ifA_0 hk0
              have HQ:=hideP (And.intro hok0 (And.intro hif hdv3))
              clear hok0 hif hdv3 hb hsp
              generalize hcnt:((r.events.take i).filter Rd.doubt).length=cnt at *
              have hb1:1≤bound:=by decide
              have hGl:=HGl.out
              obtain ⟨tt,htt⟩:∃ tt,tt=r.events.take i:=⟨_,rfl⟩
              rw[← htt] at hGl
              have HT:=hideP (And.intro htt hlen0)
              clear htt hlen0 HGl
              cases hGl with
              |none=>
                (repeat (first|((with_reducible apply zad);(focus ((with_reducible apply zar);(focus rfl);(focus rfl);(focus ((conv=>lhs;simp[*,List.getElem?_append_right,List.set_append_right,List.getElem?_cons_zero,List.getElem?_append_left,List.set_append_left,-getElem?_pos,evE,↓zan,Nat.testBit_eq_decide_div_mod_eq])<;>exact rfl));(focus rfl);(focus rfl)));simp only[addFl])|(with_reducible apply zad;(focus ((conv=>lhs;simp[*,List.getElem?_append_right,List.set_append_right,List.getElem?_cons_zero,List.getElem?_append_left,List.set_append_left,-getElem?_pos,evE,↓zan,Nat.testBit_eq_decide_div_mod_eq])<;>exact rfl));simp only[addFl])|((with_reducible first|apply zai|apply zak|apply zah|apply zaf|apply zac|apply zaj|apply zag|apply zam|(apply zae;· simp[*,zaa])|(apply zab;· simp[*,zaa]));try simp only[Then,Ops,OutB])|simp only[Nat.reduceEqDiff,reduceIte,OutB,Then]))
                have hi0:i=0:=by rw[← HT.out.2,← HT.out.1];rfl
                have htt:=HT.out.1
                obtain ⟨hok0,hif,hdv3⟩:=HQ.out
                refine HO.out _ (hp.length+2) ?_ ?_ ?_ ?_ (by omega) hok0 _ ⟨_,st_is rfl rfl rfl ?_,?_⟩
                · rw[List.getElem?_append_left (by simpa using x0),List.getElem?_set_self x0,hi0]
                · rw[List.getElem?_append_left (by simpa using m0),List.getElem?_set_ne (by omega)];exact m1
                · exact ((HK.out.set _ _ (by omega))).trans (Kp.app _ _)
                · rw[List.getElem?_append_right (by simp),← htt,hif];simp
                · simp;omega
                · rw[hdv3];simp[zap,zaq]
              |some bl _ g1 g2 g3=>
                obtain ⟨q0,q1,q2,q3,q4,q5⟩:=bk' g2
                have hbb:¬ bl=G.length+1:=by omega
                have hbb2:¬ G.length+1=bl:=by omega
                have hlt:tt.length=i:=by rw[HT.out.1];exact HT.out.2
                have hbn:i+1≤bound:=by unfold bound;omega
                have hcl2:=zbm ifCs 1 (fun _=>rfl) tt
                have hcp:=zcg ifCs (fun e=>by unfold ifCs ifA;split<;>(try split)<;>rfl) tt
                have HC:=hideP (And.intro g1 g3)
                clear g1 g2 g3
                generalize hcs:tt.flatMap ifCs=cs at *
                have HC2:=hideP hcs
                clear hcs
                (repeat (first|((with_reducible apply zad);(focus ((with_reducible apply zar);(focus rfl);(focus rfl);(focus ((conv=>lhs;simp[*,List.getElem?_append_right,List.set_append_right,List.getElem?_cons_zero,List.getElem?_append_left,List.set_append_left,-getElem?_pos,evE,↓zan,Nat.testBit_eq_decide_div_mod_eq])<;>exact rfl));(focus rfl);(focus rfl)));simp only[addFl])|(with_reducible apply zad;(focus ((conv=>lhs;simp[*,List.getElem?_append_right,List.set_append_right,List.getElem?_cons_zero,List.getElem?_append_left,List.set_append_left,-getElem?_pos,evE,↓zan,Nat.testBit_eq_decide_div_mod_eq])<;>exact rfl));simp only[addFl])|((with_reducible first|apply zai|apply zak|apply zah|apply zaf|apply zac|apply zaj|apply zag|apply zam|(apply zae;· simp[*,zaa])|(apply zab;· simp[*,zaa]));try simp only[Then,Ops,OutB])|simp only[Nat.reduceEqDiff,reduceIte,OutB,Then]))
                have htt:=HT.out.1
                obtain ⟨hok0,hif,hdv3⟩:=HQ.out
                obtain ⟨g1,g3⟩:=HC.out
                have hcs:=HC2.out
                rw[zhc,htt] at hcs
                refine HO.out _ (hp.length+2) ?_ ?_ ?_ ?_ (by omega) hok0 _ ⟨_,st_is rfl rfl rfl ?_,?_⟩
                · rw[List.getElem?_append_left (by simpa using x0),List.getElem?_set_self (by simpa using x0)]
                · rw[List.getElem?_append_left (by simpa using m0),List.getElem?_set_ne (by omega),List.getElem?_set_ne (by omega)];exact m1
                · exact (((HK.out.set _ _ (by omega)).set _ _ (by omega))).trans (Kp.app _ _)
                · rw[List.getElem?_append_right (by simp),hif,hcs];simp
                · simp;omega
                · rw[hdv3];simp[zap,zaq]
          · have hk0b:(v.kind==0)=false:=by simpa using hk0
            have hd0:((r.events.take (i+1)).filter Rd.doubt).length=((r.events.take i).filter Rd.doubt).length:=by rw[HD.out.1];simp[Rd.doubt,hk0]
            by_cases hk1:v.kind=1
            · have hs:=fun H=>hWi H v.days 1 10
              clear hS hWi hpi
              have hok1:Rd.okEvt r v=decide (1≤v.days∧v.days≤10):=by unfold Rd.okEvt;rw[if_neg hk0,if_pos hk1]
              cases hb:decide (1≤v.days∧v.days≤10) with
              |false=>
                rw[hb] at hs hok1
                have HE:=hideP (HB.out hok1)
                clear hok1 hb hd0
                (repeat (first|(with_reducible apply zad;(focus ((conv=>lhs;simp[*,evE,Nat.testBit_eq_decide_div_mod_eq])<;>exact rfl));simp only[addFl])|(with_reducible apply zbb;(focus ((conv=>lhs;simp[*,evE,Nat.testBit_eq_decide_div_mod_eq])<;>exact rfl));(try simp only[Ops,Then,OutB]);(try dsimp only))|((with_reducible first|apply zai|apply zak|apply zah|apply zaf|apply zac|apply zaj|apply zag|apply zam|(apply zae;· simp[*,zaa])|(apply zab;· simp[*,zaa]));try simp only[Then,Ops,OutB])|simp only[Nat.reduceEqDiff,reduceIte,OutB,Then]))
                exact zby rfl (by simp;omega) ⟨rfl,.inl ⟨HE.out,rfl⟩⟩
              |true=>
                rw[hb] at hs hok1
                have hif:=ifA_1 hk1
                have HQ:=hideP (And.intro hok1 (And.intro hif hd0))
                clear hok1 hif hd0 hb
                generalize hcnt:((r.events.take i).filter Rd.doubt).length=cnt at *
                have hb1:1≤bound:=by decide
                have hGl:=HGl.out
                obtain ⟨tt,htt⟩:∃ tt,tt=r.events.take i:=⟨_,rfl⟩
                rw[← htt] at hGl
                have HT:=hideP (And.intro htt hlen0)
                clear htt hlen0 HGl
                cases hGl with
                |none=>
                  (repeat (first|((with_reducible apply zad);(focus ((with_reducible apply zar);(focus rfl);(focus rfl);(focus ((conv=>lhs;simp[*,List.getElem?_append_right,List.set_append_right,List.getElem?_cons_zero,List.getElem?_append_left,List.set_append_left,-getElem?_pos,evE,↓zan,Nat.testBit_eq_decide_div_mod_eq])<;>exact rfl));(focus rfl);(focus rfl)));simp only[addFl])|(with_reducible apply zad;(focus ((conv=>lhs;simp[*,List.getElem?_append_right,List.set_append_right,List.getElem?_cons_zero,List.getElem?_append_left,List.set_append_left,-getElem?_pos,evE,↓zan,Nat.testBit_eq_decide_div_mod_eq])<;>exact rfl));simp only[addFl])|((with_reducible first|apply zai|apply zak|apply zah|apply zaf|apply zac|apply zaj|apply zag|apply zam|(apply zae;· simp[*,zaa])|(apply zab;· simp[*,zaa]));try simp only[Then,Ops,OutB])|simp only[Nat.reduceEqDiff,reduceIte,OutB,Then]))
                  have hi0:i=0:=by rw[← HT.out.2,← HT.out.1];rfl
                  have htt:=HT.out.1
                  obtain ⟨hok0,hif,hdv3⟩:=HQ.out
                  refine HO.out _ (hp.length+2) ?_ ?_ ?_ ?_ (by omega) hok0 _ ⟨_,st_is rfl rfl rfl ?_,?_⟩
                  · rw[List.getElem?_append_left (by simpa using x0),List.getElem?_set_self x0,hi0]
                  · rw[List.getElem?_append_left (by simpa using m0),List.getElem?_set_ne (by omega)];exact m1
                  · exact ((HK.out.set _ _ (by omega))).trans (Kp.app _ _)
                  · rw[List.getElem?_append_right (by simp),← htt,hif];simp
                  · simp;omega
                  · rw[hdv3];simp[zap,zaq]
                |some bl _ g1 g2 g3=>
                  obtain ⟨q0,q1,q2,q3,q4,q5⟩:=bk' g2
                  have hbb:¬ bl=G.length+1:=by omega
                  have hbb2:¬ G.length+1=bl:=by omega
                  have hlt:tt.length=i:=by rw[HT.out.1];exact HT.out.2
                  have hbn:i+1≤bound:=by unfold bound;omega
                  have hcl2:=zbm ifCs 1 (fun _=>rfl) tt
                  have hcp:=zcg ifCs (fun e=>by unfold ifCs ifA;split<;>(try split)<;>rfl) tt
                  have HC:=hideP (And.intro g1 g3)
                  clear g1 g2 g3
                  generalize hcs:tt.flatMap ifCs=cs at *
                  have HC2:=hideP hcs
                  clear hcs
                  (repeat (first|((with_reducible apply zad);(focus ((with_reducible apply zar);(focus rfl);(focus rfl);(focus ((conv=>lhs;simp[*,List.getElem?_append_right,List.set_append_right,List.getElem?_cons_zero,List.getElem?_append_left,List.set_append_left,-getElem?_pos,evE,↓zan,Nat.testBit_eq_decide_div_mod_eq])<;>exact rfl));(focus rfl);(focus rfl)));simp only[addFl])|(with_reducible apply zad;(focus ((conv=>lhs;simp[*,List.getElem?_append_right,List.set_append_right,List.getElem?_cons_zero,List.getElem?_append_left,List.set_append_left,-getElem?_pos,evE,↓zan,Nat.testBit_eq_decide_div_mod_eq])<;>exact rfl));simp only[addFl])|((with_reducible first|apply zai|apply zak|apply zah|apply zaf|apply zac|apply zaj|apply zag|apply zam|(apply zae;· simp[*,zaa])|(apply zab;· simp[*,zaa]));try simp only[Then,Ops,OutB])|simp only[Nat.reduceEqDiff,reduceIte,OutB,Then]))
                  have htt:=HT.out.1
                  obtain ⟨hok0,hif,hdv3⟩:=HQ.out
                  obtain ⟨g1,g3⟩:=HC.out
                  have hcs:=HC2.out
                  rw[zhc,htt] at hcs
                  refine HO.out _ (hp.length+2) ?_ ?_ ?_ ?_ (by omega) hok0 _ ⟨_,st_is rfl rfl rfl ?_,?_⟩
                  · rw[List.getElem?_append_left (by simpa using x0),List.getElem?_set_self (by simpa using x0)]
                  · rw[List.getElem?_append_left (by simpa using m0),List.getElem?_set_ne (by omega),List.getElem?_set_ne (by omega)];exact m1
                  · exact (((HK.out.set _ _ (by omega)).set _ _ (by omega))).trans (Kp.app _ _)
                  · rw[List.getElem?_append_right (by simp),hif,hcs];simp
                  · simp;omega
                  · rw[hdv3];simp[zap,zaq]
            · have hk1b:(v.kind==1)=false:=by simpa using hk1
              have hs:=fun H=>hS H v.shows (-1000) 1000 2000 (by decide) (by decide)
              clear hS hWi
              have hok2:Rd.okEvt r v=(decide (v.kind=2)&&Rd.isPart r v.part&&Rd.isSpan v.shows (-1000) 1000 2000):=by unfold Rd.okEvt;rw[if_neg hk0,if_neg hk1];rfl
              by_cases hk2:v.kind=2
              · rw[decide_eq_true hk2,Bool.true_and] at hok2
                cases hb1:Rd.isPart r v.part with
                |false=>
                  rw[hb1] at hpi hok2
                  have HE:=hideP (HB.out hok2)
                  clear hok2 hb1 hd0
                  (repeat (first|(with_reducible apply zad;(focus ((conv=>lhs;simp[*,evE,Nat.testBit_eq_decide_div_mod_eq])<;>exact rfl));simp only[addFl])|(with_reducible apply zbb;(focus ((conv=>lhs;simp[*,evE,Nat.testBit_eq_decide_div_mod_eq])<;>exact rfl));(try simp only[Ops,Then,OutB]);(try dsimp only))|((with_reducible first|apply zai|apply zak|apply zah|apply zaf|apply zac|apply zaj|apply zag|apply zam|(apply zae;· simp[*,zaa])|(apply zab;· simp[*,zaa]));try simp only[Then,Ops,OutB])|simp only[Nat.reduceEqDiff,reduceIte,OutB,Then]))
                  exact zby rfl (by simp;omega) ⟨rfl,.inl ⟨HE.out,rfl⟩⟩
                |true=>
                  rw[hb1] at hpi hok2
                  cases hb:Rd.isSpan v.shows (-1000) 1000 2000 with
                  |false=>
                    rw[hb] at hs hok2
                    have HE:=hideP (HB.out hok2)
                    clear hok2 hb hb1 hd0
                    (repeat (first|(with_reducible apply zad;(focus ((conv=>lhs;simp[*,evE,Nat.testBit_eq_decide_div_mod_eq])<;>exact rfl));simp only[addFl])|(with_reducible apply zbb;(focus ((conv=>lhs;simp[*,evE,Nat.testBit_eq_decide_div_mod_eq])<;>exact rfl));(try simp only[Ops,Then,OutB]);(try dsimp only))|((with_reducible first|apply zai|apply zak|apply zah|apply zaf|apply zac|apply zaj|apply zag|apply zam|(apply zae;· simp[*,zaa])|(apply zab;· simp[*,zaa]));try simp only[Then,Ops,OutB])|simp only[Nat.reduceEqDiff,reduceIte,OutB,Then]))
                    exact zby rfl (by simp;omega) ⟨rfl,.inl ⟨HE.out,rfl⟩⟩
                  |true=>
                    rw[hb] at hs hok2
                    have hif:=ifA_2 hk2
                    have HQ:=hideP (And.intro hok2 (And.intro hif hd0))
                    clear hok2 hif hd0 hb hb1
                    generalize hcnt:((r.events.take i).filter Rd.doubt).length=cnt at *
                    have hb1:1≤bound:=by decide
                    have hGl:=HGl.out
                    obtain ⟨tt,htt⟩:∃ tt,tt=r.events.take i:=⟨_,rfl⟩
                    rw[← htt] at hGl
                    have HT:=hideP (And.intro htt hlen0)
                    clear htt hlen0 HGl
                    cases hGl with
                    |none=>
                      (repeat (first|((with_reducible apply zad);(focus ((with_reducible apply zar);(focus rfl);(focus rfl);(focus ((conv=>lhs;simp[*,List.getElem?_append_right,List.set_append_right,List.getElem?_cons_zero,List.getElem?_append_left,List.set_append_left,-getElem?_pos,evE,↓zan,Nat.testBit_eq_decide_div_mod_eq])<;>exact rfl));(focus rfl);(focus rfl)));simp only[addFl])|(with_reducible apply zad;(focus ((conv=>lhs;simp[*,List.getElem?_append_right,List.set_append_right,List.getElem?_cons_zero,List.getElem?_append_left,List.set_append_left,-getElem?_pos,evE,↓zan,Nat.testBit_eq_decide_div_mod_eq])<;>exact rfl));simp only[addFl])|((with_reducible first|apply zai|apply zak|apply zah|apply zaf|apply zac|apply zaj|apply zag|apply zam|(apply zae;· simp[*,zaa])|(apply zab;· simp[*,zaa]));try simp only[Then,Ops,OutB])|simp only[Nat.reduceEqDiff,reduceIte,OutB,Then]))
                      have hi0:i=0:=by rw[← HT.out.2,← HT.out.1];rfl
                      have htt:=HT.out.1
                      obtain ⟨hok0,hif,hdv3⟩:=HQ.out
                      refine HO.out _ (hp.length+2) ?_ ?_ ?_ ?_ (by omega) hok0 _ ⟨_,st_is rfl rfl rfl ?_,?_⟩
                      · rw[List.getElem?_append_left (by simpa using x0),List.getElem?_set_self x0,hi0]
                      · rw[List.getElem?_append_left (by simpa using m0),List.getElem?_set_ne (by omega)];exact m1
                      · exact ((HK.out.set _ _ (by omega))).trans (Kp.app _ _)
                      · rw[List.getElem?_append_right (by simp),← htt,hif];simp
                      · simp;omega
                      · rw[hdv3];simp[zap,zaq]
                    |some bl _ g1 g2 g3=>
                      obtain ⟨q0,q1,q2,q3,q4,q5⟩:=bk' g2
                      have hbb:¬ bl=G.length+1:=by omega
                      have hbb2:¬ G.length+1=bl:=by omega
                      have hlt:tt.length=i:=by rw[HT.out.1];exact HT.out.2
                      have hbn:i+1≤bound:=by unfold bound;omega
                      have hcl2:=zbm ifCs 1 (fun _=>rfl) tt
                      have hcp:=zcg ifCs (fun e=>by unfold ifCs ifA;split<;>(try split)<;>rfl) tt
                      have HC:=hideP (And.intro g1 g3)
                      clear g1 g2 g3
                      generalize hcs:tt.flatMap ifCs=cs at *
                      have HC2:=hideP hcs
                      clear hcs
                      (repeat (first|((with_reducible apply zad);(focus ((with_reducible apply zar);(focus rfl);(focus rfl);(focus ((conv=>lhs;simp[*,List.getElem?_append_right,List.set_append_right,List.getElem?_cons_zero,List.getElem?_append_left,List.set_append_left,-getElem?_pos,evE,↓zan,Nat.testBit_eq_decide_div_mod_eq])<;>exact rfl));(focus rfl);(focus rfl)));simp only[addFl])|(with_reducible apply zad;(focus ((conv=>lhs;simp[*,List.getElem?_append_right,List.set_append_right,List.getElem?_cons_zero,List.getElem?_append_left,List.set_append_left,-getElem?_pos,evE,↓zan,Nat.testBit_eq_decide_div_mod_eq])<;>exact rfl));simp only[addFl])|((with_reducible first|apply zai|apply zak|apply zah|apply zaf|apply zac|apply zaj|apply zag|apply zam|(apply zae;· simp[*,zaa])|(apply zab;· simp[*,zaa]));try simp only[Then,Ops,OutB])|simp only[Nat.reduceEqDiff,reduceIte,OutB,Then]))
                      have htt:=HT.out.1
                      obtain ⟨hok0,hif,hdv3⟩:=HQ.out
                      obtain ⟨g1,g3⟩:=HC.out
                      have hcs:=HC2.out
                      rw[zhc,htt] at hcs
                      refine HO.out _ (hp.length+2) ?_ ?_ ?_ ?_ (by omega) hok0 _ ⟨_,st_is rfl rfl rfl ?_,?_⟩
                      · rw[List.getElem?_append_left (by simpa using x0),List.getElem?_set_self (by simpa using x0)]
                      · rw[List.getElem?_append_left (by simpa using m0),List.getElem?_set_ne (by omega),List.getElem?_set_ne (by omega)];exact m1
                      · exact (((HK.out.set _ _ (by omega)).set _ _ (by omega))).trans (Kp.app _ _)
                      · rw[List.getElem?_append_right (by simp),hif,hcs];simp
                      · simp;omega
                      · rw[hdv3];simp[zap,zaq]
              · have hk2b:(v.kind==2)=false:=by simpa using hk2
                rw[decide_eq_false hk2] at hok2
                have HE:=hideP (HB.out hok2)
                clear hok2 hd0
                (repeat (first|(with_reducible apply zad;(focus ((conv=>lhs;simp[*,evE,Nat.testBit_eq_decide_div_mod_eq])<;>exact rfl));simp only[addFl])|(with_reducible apply zbb;(focus ((conv=>lhs;simp[*,evE,Nat.testBit_eq_decide_div_mod_eq])<;>exact rfl));(try simp only[Ops,Then,OutB]);(try dsimp only))|((with_reducible first|apply zai|apply zak|apply zah|apply zaf|apply zac|apply zaj|apply zag|apply zam|(apply zae;· simp[*,zaa])|(apply zab;· simp[*,zaa]));try simp only[Then,Ops,OutB])|simp only[Nat.reduceEqDiff,reduceIte,OutB,Then]))
                exact zby rfl (by simp;omega) ⟨rfl,.inl ⟨HE.out,rfl⟩⟩
        · clear hI0 hsame
          rintro st ⟨hp,W,lv,hGl,hx,hmp,hKp,hok,rfl⟩
          obtain ⟨hF,_,_,_,hv,_⟩:=HX.out
          rw[List.take_length] at hGl ⊢
          have hall:r.events.all (Rd.okEvt r)=true:=by
            rw[List.all_eq_true]
            intro v hv'
            obtain ⟨j,hj⟩:=List.mem_iff_getElem?.1 hv'
            exact hok j v (List.getElem?_eq_some_iff.1 hj).1 hj
          rw[hall,Bool.true_and] at hv
          have hl:=hKp.len
          by_cases hd:(r.events.filter Rd.doubt).length≤4
          · rw[decide_eq_true hd] at hv
            obtain ⟨eb,hRx,heb⟩:∃ eb,Rx r (G.length+1) G.length eb hp∧H.length≤eb:=by
              have hel:=evL
              by_cases hn:r.events=[]
              · refine ⟨G.length+1,⟨by omega,by omega,?_,fun h=>absurd hn h,get_lt hx,[],hmp,by intro p hp;cases hp⟩,by omega⟩
                have:lv=.nils:=by
                  rw[hn] at hGl
                  cases hGl with
                  |none=>rfl
                  |some _ _ _ _ h=>exact absurd rfl h
                rw[hx,this]
                simp[roadCs,evL,hn]
              · generalize hev:r.events=ev' at *
                cases hGl with
                |none=>exact absurd rfl hn
                |some b _ g1 g2 g3=>
                  refine ⟨b,⟨by omega,by omega,?_,fun _=>?_,get_lt g2,[],hmp,by intro p hp;cases hp⟩,by omega⟩
                  · rw[hx]
                    simp[roadCs,evL,hev,hn]
                  · rw[g2,zhc,hev]
            have hF2:=hF hv hp (G.length+1) G.length eb hKp hRx
            have HQ:=hideP (And.intro hv (And.intro hKp (And.intro hRx heb)))
            have hd':((r.events.filter Rd.doubt).length:Int)≤4:=by omega
            clear hF hv hKp hok hRx heb HX hGl hx hmp hall
            generalize (r.events.filter Rd.doubt).length=cnt at *
            cases is with
            |false=>
              (repeat (first|(with_reducible apply zad;(focus ((conv=>lhs;simp[*,Nat.testBit_eq_decide_div_mod_eq])<;>exact rfl));simp only[addFl])|(with_reducible apply zbb;(focus ((conv=>lhs;simp[*,Nat.testBit_eq_decide_div_mod_eq])<;>exact rfl));(try simp only[Ops,Then]);(try dsimp only))|((with_reducible first|apply zai|apply zak|apply zah|apply zaf|apply zac|apply zaj|apply zag|apply zam|(apply zae;· simp[*,zaa])|(apply zab;· simp[*,zaa]));try simp only[Then,Ops,OutB,reduceIte])|simp only[Nat.reduceEqDiff,reduceIte,OutB,Then]))
              exact zby rfl (by simp;omega) ⟨rfl,.inr (.inl ⟨HQ.out.1,rfl,rfl⟩)⟩
            |true=>
              (repeat (first|(with_reducible apply zad;(focus ((conv=>lhs;simp[*,Nat.testBit_eq_decide_div_mod_eq])<;>exact rfl));simp only[addFl])|(with_reducible apply zbb;(focus ((conv=>lhs;simp[*,Nat.testBit_eq_decide_div_mod_eq])<;>exact rfl));(try simp only[Ops,Then,OutB]);(try dsimp only))|((with_reducible first|apply zai|apply zak|apply zah|apply zaf|apply zac|apply zaj|apply zag|apply zam|(apply zae;· simp[*,zaa])|(apply zab;· simp[*,zaa]));try simp only[Then,Ops,OutB,reduceIte])|simp only[Nat.reduceEqDiff,reduceIte,OutB,Then]))
              obtain ⟨k1,k2,k3,k4⟩:=HQ.out
              exact zmk (v:=.ptr (G.length+1) 0) (.inl rfl) rfl (by simp;omega) (by simp only[resL,resOf,zal];simp[*,resV]) ⟨rfl,.inr (.inr ⟨k1,rfl,_,_,eb,rfl,k2,k3,by omega,by omega,k4⟩)⟩
          · rw[decide_eq_false hd] at hv
            have HQ:=hideP hv
            have hd':¬ ((r.events.filter Rd.doubt).length:Int)≤4:=by omega
            clear hF hv hKp hok HX hGl hx hmp hall hd
            generalize (r.events.filter Rd.doubt).length=cnt at *
            (repeat (first|(with_reducible apply zad;(focus ((conv=>lhs;simp[*,Nat.testBit_eq_decide_div_mod_eq])<;>exact rfl));simp only[addFl])|(with_reducible apply zbb;(focus ((conv=>lhs;simp[*,Nat.testBit_eq_decide_div_mod_eq])<;>exact rfl));(try simp only[Ops,Then]);(try dsimp only))|((with_reducible first|apply zai|apply zak|apply zah|apply zaf|apply zac|apply zaj|apply zag|apply zam|(apply zae;· simp[*,zaa])|(apply zab;· simp[*,zaa]));try simp only[Then,Ops,OutB,reduceIte])|simp only[Nat.reduceEqDiff,reduceIte,OutB,Then]))
            exact zby rfl (by simp;omega) ⟨rfl,.inl ⟨HQ.out,rfl⟩⟩
    · have h3':¬ (r.events.length:Int)≤10:=by omega
      rw[decide_eq_false h3] at hv
      have HV:=hideP hv
      clear hv
      (repeat (first|(with_reducible apply zad;(focus ((conv=>lhs;simp[*,Nat.testBit_eq_decide_div_mod_eq])<;>exact rfl));simp only[addFl])|(with_reducible apply zbb;(focus ((conv=>lhs;simp[*,Nat.testBit_eq_decide_div_mod_eq])<;>exact rfl));(try simp only[Ops,Then]);(try dsimp only))|((with_reducible first|apply zai|apply zak|apply zah|apply zaf|apply zac|apply zaj|apply zag|apply zam|(apply zae;· simp[*,zaa])|(apply zab;· simp[*,zaa]));try simp only[Then,Ops])|simp only[Nat.reduceEqDiff,reduceIte,OutB,Then]))
      exact zby rfl (by simp) ⟨rfl,.inl ⟨by rw[HV.out];rfl,rfl⟩⟩
  · have h1':¬ ((1:Int)≤r.parts.length∧(r.parts.length:Int)≤4):=by omega
    rw[decide_eq_false h1'] at hw1
    rw[decide_eq_false h1] at hv
    have HV:=hideP hv
    clear hv
    (repeat (first|(with_reducible apply zad;(focus ((conv=>lhs;simp[*,Nat.testBit_eq_decide_div_mod_eq])<;>exact rfl));simp only[addFl])|(with_reducible apply zbb;(focus ((conv=>lhs;simp[*,Nat.testBit_eq_decide_div_mod_eq])<;>exact rfl));(try simp only[Ops,Then]);(try dsimp only))|((with_reducible first|apply zai|apply zak|apply zah|apply zaf|apply zac|apply zaj|apply zag|apply zam|(apply zae;· simp[*,zaa])|(apply zab;· simp[*,zaa]));try simp only[Then,Ops])|simp only[Nat.reduceEqDiff,reduceIte,OutB,Then]))
    exact zby rfl (by simp) ⟨rfl,.inl ⟨by rw[HV.out];rfl,rfl⟩⟩
end Ro
end Ev
end Go.Proofs.Ytlcjlcllbgjplaa

/- Package road, gone through: what its exported functions share. -/
namespace Go.Proofs.Ytlcjlcllbgjplaa
open Go
namespace Ev
namespace Ro
open K
attribute [local simp] ev1 wantG spineK spine float xnew xval xeff zaa zas zbc zaw zav addFl cellsOf pickC alive slLen slFt binI maxA maxK minA minK aeqK aeqS AV.cells spA zat fillA setAt bitsI nat_nn zbd AV.plain apart
set_option maxRecDepth 100000
set_option maxHeartbeats 4000000
theorem zco (N:Nat):∀ (ds:List Nat) (l:List (Nat × AV)),forget ds (tmA N l)=tmA N (ds.foldl (fun a t=>(t,AV.unk)::a) l)
  |[],_=>rfl
  |t::ds,l=>zco N ds ((t,AV.unk)::l)
theorem zdq {C:Cfg}{n f:Nat}{fn:AFunc}{first captured args:List AV}{H:List AB}{v0:AV}(hc:C.calm=true)(hwh:∀ f,C.whole f=true)(h0:Has C f fn)(hlen:(first++args++captured).length≤fn.ntmps)(hv:refs v0=[]){r:Rd.Road}{xb mb eb:Nat}(hX:Rx r xb mb eb H)
    (h:Does (ev C (Ev.call C n) H.length none fn.body { tm:=tmA fn.ntmps (zipI 0 (first++args++captured) []),df:=[],hp:=H,tc:=[] }) (Ends C H.length fn.res fun v hp tc=>v=v0∧(∀ j∈tc,j=mb)∧Rx r xb mb eb hp)):
    ∃ H' tc,Ev.call C (n+1) (.fn (.func f) first captured) args H=some (.ret v0,H',tc)∧(∀ j∈tc,j=mb)∧Kp tc H H'∧Rx r xb mb eb H':=by
  obtain ⟨v,hp,tc,H',c1,⟨rfl,c2,c3⟩,c4,c5,c6,c7⟩:=zjg hc hwh h0 hlen h
  refine ⟨H',tc,c1,c2,c5,?_⟩
  by_cases ht:tc=[]
  · rw[c7 hv ht];exact hX
  · rw[c6 (.inr ht)];exact c3
def CanC (call:CallF)(r:Rd.Road):Prop:=∀ (H:List AB) (xb mb eb:Nat),Rx r xb mb eb H→∀ looks:Nat,∃ H' tc,call (.fn (.func 63) [] []) [.ptr xb 0,.int .u64 looks] H=some (.ret (.bool (Rd.canR r looks)),H',tc)∧(∀ j∈tc,j=mb)∧Kp tc H H'∧Rx r xb mb eb H'
def KnownC (call:CallF)(r:Rd.Road):Prop:=∀ (H:List AB) (xb mb eb:Nat),Rx r xb mb eb H →
  ∃ H' tc,(∀ j∈tc,j=mb)∧Kp tc H H'∧Rx r xb mb eb H'∧call (.fn (.func 43) [] []) [.ptr xb 0] H=some (if Rd.canR r (Rd.everyR r) then .ret (.ptr xb 0) else .pan (.iface 119 (.agg [.int .i64 10])),H',tc)
theorem zqc (C:Cfg)(call:CallF)(hM:MustC call)(r:Rd.Road)(hE:EveryC call r)(hCa:CanC call r)(H:List AB)(xb mb eb:Nat)(hX:Rx r xb mb eb H):
    Does (ev C call H.length none af43.body { tm:=tmA af43.ntmps (zipI 0 [.ptr xb 0] []),df:=[],hp:=H,tc:=[] })
      (Fin C H.length af43 fun x hp tc=>(∀ j∈tc,j=mb)∧Kp tc H hp∧Rx r xb mb eb hp∧x=(if Rd.canR r (Rd.everyR r) then .ret (.ptr xb 0) else .pan (.iface 119 (.agg [.int .i64 10])))):=by
  obtain ⟨H',tc,c1,c2,c3,c4⟩:=hCa H xb mb eb hX (Rd.everyR r)
  have hev:=hE H xb _ _ hX.x
  have hmt:=hM.t
  have hmf:=hM.f
  have hm:=hX.ml
  have HQ:=hideP (And.intro c2 (And.intro c3 c4))
  have hl:H.length≤H'.length:=c3.len
  unfold af43 Zq Zm Zo Zc Zt Zn
  simp only[zipI]
  clear hE hCa hX hM c2 c3 c4
  have key:(∀ j∈tc.filter (·<H.length),j=mb)∧Kp (tc.filter (·<H.length)) H H'∧Rx r xb mb eb H':=⟨fun j hj=>HQ.out.1 j (List.mem_filter.1 hj).1,HQ.out.2.1.mono fun j hj h=>List.mem_filter.2 ⟨h,by simpa using hj⟩,HQ.out.2.2⟩
  have HK:=hideP key
  clear key HQ
  cases hc:Rd.canR r (Rd.everyR r) with
  |true=>
    rw[hc] at c1
    (repeat (first|(with_reducible apply zad;(focus ((conv=>lhs;simp[*,Nat.testBit_eq_decide_div_mod_eq])<;>exact rfl));simp only[addFl])|(with_reducible apply zbb;(focus ((conv=>lhs;simp[*,Nat.testBit_eq_decide_div_mod_eq])<;>exact rfl));(try simp only[Ops,Then,OutB]);(try dsimp only))|((with_reducible first|apply zai|apply zak|apply zah|apply zaf|apply zac|apply zaj|apply zag|apply zam|(apply zae;· simp[*,zaa])|(apply zab;· simp[*,zaa]));try simp only[Then,Ops,reduceIte])|simp only[Nat.reduceEqDiff,reduceIte,OutB,Then]))
    exact zmk (v:=.ptr xb 0) (.inl rfl) rfl (by simp only;omega) (by simp only[resL,resOf,zal];simp[*,resV]) ⟨HK.out.1,HK.out.2.1,HK.out.2.2,rfl⟩
  |false=>
    rw[hc] at c1
    (repeat (first|(with_reducible apply zad;(focus ((conv=>lhs;simp[*,Nat.testBit_eq_decide_div_mod_eq])<;>exact rfl));simp only[addFl])|(with_reducible apply zbb;(focus ((conv=>lhs;simp[*,Nat.testBit_eq_decide_div_mod_eq])<;>exact rfl));(try simp only[Ops,Then]);(try dsimp only))|((with_reducible first|apply zai|apply zak|apply zah|apply zaf|apply zac|apply zaj|apply zag|apply zam|(apply zae;· simp[*,zaa])|(apply zab;· simp[*,zaa]));try simp only[Then,Ops])|simp only[Nat.reduceEqDiff,reduceIte,OutB,Then]))
    exact zby rfl (by simp only;omega) ⟨HK.out.1,HK.out.2.1,HK.out.2.2,rfl⟩
def OpenC (call call0:CallF)(r:Rd.Road):Prop:=∀ (H:List AB) (F:AV) (is:Bool),(Rd.valid r=true→∀ G xb mb eb,Kp [] H G→Rx r xb mb eb G→call0 F [.ptr xb 0] G=some (.ret (.bool is),G,[])) →
  (Rd.valid r=false∧call (.fn (.func 39) [] []) [.agg [.vs 7 (r.parts.map ptE),.vs 7 (r.events.map evE)],F] H=some (.pan (stopV 1),H,[]))∨(Rd.valid r=true∧is=false∧call (.fn (.func 39) [] []) [.agg [.vs 7 (r.parts.map ptE),.vs 7 (r.events.map evE)],F] H=some (.pan (stopV 2),H,[])) ∨
  (Rd.valid r=true∧is=true∧∃ H' xb mb eb,call (.fn (.func 39) [] []) [.agg [.vs 7 (r.parts.map ptE),.vs 7 (r.events.map evE)],F] H=some (.ret (.ptr xb 0),H',[])∧Kp [] H H'∧Rx r xb mb eb H'∧H.length≤xb∧H.length≤mb∧H.length≤eb)
def HeadQ (call:CallF)(r:Rd.Road)(H:List AB)(F:AV)(is:Bool):Prop:=
  (∃ e,Rd.errR r is=e∧e≠0∧call (.fn (.func 39) [] []) [.agg [.vs 7 (r.parts.map ptE),.vs 7 (r.events.map evE)],F] H=some (.pan (.iface 119 (.agg [.int .i64 e])),H,[])) ∨
  (Rd.errR r is=10∧∃ H1 xb H2 tc,call (.fn (.func 39) [] []) [.agg [.vs 7 (r.parts.map ptE),.vs 7 (r.events.map evE)],F] H=some (.ret (.ptr xb 0),H1,[])∧call (.fn (.func 43) [] []) [.ptr xb 0] H1=some (.pan (.iface 119 (.agg [.int .i64 10])),H2,tc)∧Kp [] H H2∧∀ j∈tc,H.length≤j) ∨
  (Rd.errR r is=0∧∃ H1 xb mb eb H2 tc,call (.fn (.func 39) [] []) [.agg [.vs 7 (r.parts.map ptE),.vs 7 (r.events.map evE)],F] H=some (.ret (.ptr xb 0),H1,[])∧call (.fn (.func 43) [] []) [.ptr xb 0] H1=some (.ret (.ptr xb 0),H2,tc)∧Kp [] H H2∧(∀ j∈tc,j=mb)∧Rx r xb mb eb H2∧H.length≤xb∧H.length≤mb∧H.length≤eb)
theorem zzm {call call0:CallF}{r:Rd.Road}(hO:OpenC call call0 r)(hK:Rd.valid r=true→KnownC call r)(H:List AB)(F:AV)(is:Bool)(hF:Rd.valid r=true→∀ G xb mb eb,Kp [] H G→Rx r xb mb eb G→call0 F [.ptr xb 0] G=some (.ret (.bool is),G,[])):HeadQ call r H F is:=by
  rcases hO H F is hF with ⟨h1,h2⟩|⟨h1,h2,h3⟩|⟨h1,h2,H1,xb,mb,eb,h3,h4,h5,h6,h7,h8⟩
  · exact .inl ⟨1,by simp[Rd.errR,h1],by decide,h2⟩
  · exact .inl ⟨2,by simp[Rd.errR,h1,h2],by decide,h3⟩
  · obtain ⟨H2,tc,k1,k2,k3,k4⟩:=hK h1 H1 xb mb eb h5
    have kk:Kp [] H H2:=⟨by have:=h4.len;have:=k2.len;omega,fun b hb _=>by rw[k2.get b (by have:=h4.len;omega) (fun h=>by have:=k1 b h;omega)];exact h4.get b hb (by simp)⟩
    cases hc:Rd.canR r (Rd.everyR r) with
    |true=>
      rw[hc] at k4
      exact .inr (.inr ⟨by simp[Rd.errR,h1,h2,hc],H1,xb,mb,eb,H2,tc,h3,k4,kk,k1,k3,h6,h7,h8⟩)
    |false=>
      rw[hc] at k4
      exact .inr (.inl ⟨by simp[Rd.errR,h1,h2,hc],H1,xb,H2,tc,h3,k4,kk,fun j hj=>by rw[k1 j hj];exact h7⟩)
def spanRV (r:Rd.Road)(is:Bool)(s:Clm.Sp):AV:=.tup [spA (if Rd.errR r is=0 then s else ⟨0,0⟩),.int .i64 (Rd.errR r is)]
def numRV (r:Rd.Road)(is:Bool)(n:Int):AV:=.tup [.int .i64 (if Rd.errR r is=0 then n else 0),.int .i64 (Rd.errR r is)]
def heightG (r:Rd.Road)(many:Nat)(w:Rd.Way)(ls:List Int):Clm.Sp:=⟨Rd.heightR r w.part w.first.lo ls many,Rd.heightR r w.part w.first.hi ls many⟩
def sinkG (load:Int)(w:Rd.Way)(_:List Int):Clm.Sp:=⟨Rd.sunk w.part load,Rd.sunk w.part load⟩
theorem zky (C:Cfg)(call:CallF)(r:Rd.Road)(hH:HeightC call r)(H:List AB)(xb mb eb:Nat)(hX:Rx r xb mb eb H)(w:Rd.Way)(hp:TrOk w.part)(hw:0≤w.first.lo∧w.first.lo≤60∧0≤w.first.hi∧w.first.hi≤60)(f:Nat→Int)(hf:LdOk f)(many:Nat)(hm:many≤r.events.length)(b1 b2:Nat)(h1:H[b1]?=some (.cells [.ptr xb 0]))(h2:H[b2]?=some (.cells [.int .i64 many])):
    Does (ev C call H.length none af85.body { tm:=tmA af85.ntmps (zipI 0 [.agg (wayCs w),.agg (arr10 f),.ptr b1 0,.ptr b2 0] []),df:=[],hp:=H,tc:=[] })
      (Ends C H.length af85.res fun v _hp tc=>v=spA (heightG r many w (lsOf r.events.length f))∧tc=[]):=by
  have c1:=fun K=>hH (H++K) xb mb eb (hX.app K) w.part hp w.first.lo (by omega) (by omega) f hf many hm
  have c2:=fun K=>hH (H++K) xb mb eb (hX.app K) w.part hp w.first.hi (by omega) (by omega) f hf many hm
  obtain ⟨x0,x1,x2,x3,x4,x5⟩:=bk' h1
  obtain ⟨y0,y1,y2,y3,y4,y5⟩:=bk' h2
  unfold heightG
  have hl:=zbi f
  have hall:=zbt f
  generalize Rd.heightR r w.part w.first.lo (lsOf r.events.length f) many=u at *
  generalize Rd.heightR r w.part w.first.hi (lsOf r.events.length f) many=z at *
  clear hH h1 h2 hX hp hw hf hm
  unfold af85 Zq Zl Zo Zd Ze Zc Zt Zi
  generalize arr10 f=R at *
  simp only[zipI,wayCs] at *
  (repeat (first|((with_reducible apply zad);(focus ((with_reducible apply zar);(focus rfl);(focus rfl);(focus ((conv=>lhs;simp[*,List.getElem?_append_right,List.set_append_right,List.getElem?_cons_zero,List.getElem?_append_left,List.set_append_left,-getElem?_pos,↓zan,Nat.testBit_eq_decide_div_mod_eq])<;>exact rfl));(focus rfl);(focus rfl)));simp only[addFl])|(with_reducible apply zad;(focus ((conv=>lhs;simp[*,List.getElem?_append_right,List.set_append_right,List.getElem?_cons_zero,List.getElem?_append_left,List.set_append_left,-getElem?_pos,↓zan,Nat.testBit_eq_decide_div_mod_eq])<;>exact rfl));simp only[addFl])|((with_reducible first|apply zai|apply zak|apply zah|apply zaf|apply zac|apply zaj|apply zag|apply zam|(apply zae;· simp[*,zaa])|(apply zab;· simp[*,zaa]));try simp only[Then,Ops])|simp only[Nat.reduceEqDiff,reduceIte,OutB,Then]))
  refine zao (v:=spA ⟨u,z⟩) (.inl rfl) rfl (by simp) (by simp only[zav];simp only[resL,resOf,zal];simp[pickC,resV,spA]) ⟨rfl,by simp⟩
end Ro
end Ev
end Go.Proofs.Ytlcjlcllbgjplaa

/- Package road, gone through: Height, Sinks, Bears. -/
namespace Go.Proofs.Ytlcjlcllbgjplaa
open Go
namespace Ev
namespace Ro
open K
attribute [local simp] ev1 wantG spineK spine float xnew xval xeff zaa zas zbc zaw zav addFl cellsOf pickC alive slLen slFt binI maxA maxK minA minK aeqK aeqS AV.cells spA zat fillA setAt bitsI nat_nn zbd AV.plain apart
set_option maxRecDepth 100000
set_option maxHeartbeats 4000000
def SpanC (call call0:CallF)(r:Rd.Road):Prop:=∀ (H:List AB) (xb mb eb:Nat),Rx r xb mb eb H→∀ n,n<r.parts.length→∀ (fl:Fn) (fa fb:List AV) (g:Rd.Way→List Int→Clm.Sp),WayF call0 (.fn fl fa fb) r xb mb eb n H g →
  ∃ H' tc,call (.fn (.func 49) [] []) [.ptr xb 0,.int .i64 n,.fn fl fa fb] H=some (.ret (.agg [.int .i64 (Rd.spanR r n g).lo,.int .i64 (Rd.spanR r n g).hi]),H',tc)∧(∀ j∈tc,j=mb)∧Kp tc H H'∧Rx r xb mb eb H'
def Heights1C (call:CallF)(r:Rd.Road):Prop:=∀ (H:List AB) (xb mb eb:Nat),Rx r xb mb eb H→∀ w:Rd.Way,TrOk w.part→0≤w.first.lo∧w.first.lo≤60∧0≤w.first.hi∧w.first.hi≤60→∀ f,LdOk f→∀ many,many≤r.events.length→∀ b1 b2:Nat,H[b1]?=some (.cells [.ptr xb 0])→H[b2]?=some (.cells [.int .i64 many]) →
  call (.fn (.func 85) [] [.ptr b1 0,.ptr b2 0]) [.agg (wayCs w),.agg (arr10 f)] H=some (.ret (.agg [.int .i64 (heightG r many w (lsOf r.events.length f)).lo,.int .i64 (heightG r many w (lsOf r.events.length f)).hi]),H,[])
theorem zkw (C:Cfg)(call call0:CallF)(r:Rd.Road)(hr:Rd.Fine r)(hSp:SpanC call call0 r)(hH1:Heights1C call0 r)(H:List AB)(xb mb eb:Nat)(hX:Rx r xb mb eb H)(n:Nat)(hn:n<r.parts.length)(many:Nat)(hm:many≤r.events.length):
    Does (ev C call H.length none af44.body { tm:=tmA af44.ntmps (zipI 0 [.ptr xb 0,.int .i64 n,.int .i64 many] []),df:=[],hp:=H,tc:=[] })
      (Ends C H.length af44.res fun v hp tc=>v=spA (Rd.heightsR r n many)∧(∀ j∈tc,j=mb)∧Rx r xb mb eb hp):=by
  obtain ⟨H', tc, c1, c2, c3, c4⟩ := hSp (H ++ [.cells [.ptr xb 0], .cells [.int .i64 many], .cells [.int .i64 0, .int .i64 0]]) xb mb eb (hX.app _) n hn (.func 85) [] [.ptr H.length 0, .ptr (H.length + 1) 0] (heightG r many) (by
    intro G k hG ls hls w hw
    obtain ⟨hld,he⟩:=all_ld hr hls
    obtain ⟨o1,o2,o3,o4⟩:=way_ok hr hn hw
    have hm':=hX.ml
    have:=hH1 G xb mb eb hG w o1 (by omega) (fnOf ls) hld many hm H.length (H.length+1) (k.at (by simp) (by simp;omega)) (k.at (by simp) (by simp;omega))
    rw[he] at this
    exact this)
  have hs:Rd.spanR r n (heightG r many)=Rd.heightsR r n many:=rfl
  rw[hs] at c1
  have hx:=hX.xl;have hml:=hX.ml;have hel:=hX.el
  have e6:H'[H.length+2]?=some (.cells [.int .i64 0,.int .i64 0]):=c3.at (by simp) (fun h=>by have:=c2 _ h;omega)
  obtain ⟨x0,x1,x2,x3,x4,x5⟩:=bk' e6
  have hl:=c3.len
  have HQ:=hideP (And.intro c2 (And.intro c4 hl))
  clear hSp hH1 hX hs c2 c3 c4 hn hm e6 hl
  generalize Rd.heightsR r n many=sp at *
  unfold af44 Zq Zm Zl Zo Zs Zc Zt Zi
  simp only[zipI]
  (repeat (first|(with_reducible apply zad;(focus ((conv=>lhs;simp[*,Nat.testBit_eq_decide_div_mod_eq])<;>exact rfl));simp only[addFl])|((with_reducible first|apply zai|apply zak|apply zah|apply zaf|apply zac|apply zaj|apply zag|apply zam|(apply zae;· simp[*,zaa])|(apply zab;· simp[*,zaa]));try simp only[Then,Ops])|simp only[Nat.reduceEqDiff,reduceIte,OutB,Then]))
  obtain ⟨c2,c4,hl⟩:=HQ.out
  refine zao (v:=spA sp) (.inl rfl) rfl (by simp at hl ⊢;omega) (by simp only[resL,resOf,zal];simp[resV,pickC,spA,x0]) ⟨rfl,fun j hj=>?_,c4.kp ((Kp.refl [H.length+2] H').set _ _ (by simp)) (by simp;omega) (by simp;omega) (by simp;omega)⟩
  simp at hj
  first|(rcases hj with h|h<;>first|omega|exact c2 j h.1|exact c2 j h)|exact c2 j hj.1
def HeightsC (call:CallF)(r:Rd.Road):Prop:=∀ (H:List AB) (xb mb eb:Nat),Rx r xb mb eb H→∀ n,n<r.parts.length→∀ many,many≤r.events.length →
  ∃ H' tc,call (.fn (.func 44) [] []) [.ptr xb 0,.int .i64 n,.int .i64 many] H=some (.ret (.agg [.int .i64 (Rd.heightsR r n many).lo,.int .i64 (Rd.heightsR r n many).hi]),H',tc)∧(∀ j∈tc,j=mb)∧Kp tc H H'∧Rx r xb mb eb H'
def IsFn (call:CallF)(r:Rd.Road)(F:AV)(is:Bool)(H:List AB):Prop:=Rd.valid r=true→∀ G xb mb eb,Kp [] H G→Rx r xb mb eb G→call F [.ptr xb 0] G=some (.ret (.bool is),G,[])
theorem zia {r:Rd.Road}{n:Int}(h:Rd.isPart r n=true):∃ i:Nat,n=i∧i<r.parts.length:=by
  have:=of_decide_eq_true h
  exact ⟨n.toNat,by omega,by omega⟩
theorem zmb {r:Rd.Road}{n:Int}(h:Rd.isEvent r n=true):∃ i:Nat,n=i∧i<r.events.length:=by
  have:=of_decide_eq_true h
  exact ⟨n.toNat,by omega,by omega⟩
theorem zkt {n d:Int}(h:Rd.isLoad n=true)(d0:0≤d)(d1:d≤10):LOk d n:=by
  have:=of_decide_eq_true h
  exact ⟨d0,d1,by omega,by omega⟩
theorem zme (C:Cfg)(call call0:CallF)(r:Rd.Road)(hdf:C.dfk 37=some (119,true))(hHd:∀ H F is,IsFn call0 r F is H→HeadQ call r H F is)(hHs:Rd.valid r=true→HeightsC call r)(num evn:Int)(he:-9223372036854775808≤evn∧evn≤9223372036854775807)
    (hF:IsFn call0 r (.fn (.func 40) [] [.ptr 1 0,.ptr 2 0]) (Rd.isPart r num&&Rd.isEvent r evn) [.cells (roadCs r),.cells [.int .i64 num],.cells [.int .i64 evn],.cells [.int .i64 0,.int .i64 0],.cells [.int .i64 0]]):
    Does (ev C call ([]:List AB).length none af14.body { tm:=tmA af14.ntmps (zipI 0 [.agg (roadCs r),.int .i64 num,.int .i64 evn] []),df:=[],hp:=[],tc:=[] })
      (Fin C ([]:List AB).length af14 (Ans (spanRV r (Rd.isPart r num&&Rd.isEvent r evn) (Rd.heightsR r num.toNat (evn.toNat+1))))):=by
  have ho:=hHd [.cells (roadCs r),.cells [.int .i64 num],.cells [.int .i64 evn],.cells [.int .i64 0,.int .i64 0],.cells [.int .i64 0]] _ _ hF
  unfold spanRV
  generalize hb:(Rd.isPart r num&&Rd.isEvent r evn)=is at *
  unfold af14 Zq Zl Zo Zs Zd Ze Zc Zt Zn Zi
  rcases ho with ⟨e,h1,h2,h3⟩|⟨h1,H1,xb,H2,tc,h3,h4,h5,h6⟩|⟨h1,H1,xb,mb,eb,H2,tc,h3,h4,h5,h6,h7,h8,h9,h10⟩
  · rw[h1,if_neg h2]
    clear hHd hHs hF h1 hb he
    simp only[zipI,roadCs] at *
    (repeat (first|(with_reducible apply zad;(focus ((conv=>lhs;simp[*,↓zan,Nat.testBit_eq_decide_div_mod_eq])<;>exact rfl));simp only[addFl])|(with_reducible apply zbb;(focus ((conv=>lhs;simp[*,↓zan,Nat.testBit_eq_decide_div_mod_eq])<;>exact rfl));(try simp only);(try dsimp only))|((with_reducible first|apply zai|apply zak|apply zah|apply zaf|apply zac|apply zaj|apply zag|apply zam|(apply zae;· simp[*,zaa])|(apply zab;· simp[*,zaa]));try simp only[Then,Ops])|simp only[Nat.reduceEqDiff,reduceIte,OutB,Then]))
    refine zbn (v:=.tup [.agg [.int .i64 0,.int .i64 0],.int .i64 e]) hdf rfl (by simp only;rfl) (by simp only[zco,List.filterMap_cons,List.filterMap_nil,List.foldl_cons,List.foldl_nil];simp only[resL,resOf,zal];simp[resV,pickC]) ⟨by simp[spA],by simp⟩
  · rw[h1,if_neg (by decide)]
    have e3:H2[3]?=some (.cells [.int .i64 0,.int .i64 0]):=h5.at rfl (by simp)
    have e4:H2[4]?=some (.cells [.int .i64 0]):=h5.at rfl (by simp)
    obtain ⟨n0,n1,n2,n3,n4⟩:0∉tc∧1∉tc∧2∉tc∧3∉tc∧4∉tc:=by
      refine ⟨?_,?_,?_,?_,?_⟩<;>(intro h;have:=h6 _ h;simp at *<;>omega)
    clear hHd hHs hF h1 hb he h5 h6
    simp only[zipI,roadCs] at *
    (repeat (first|(with_reducible apply zad;(focus ((conv=>lhs;simp[*,↓zan,Nat.testBit_eq_decide_div_mod_eq])<;>exact rfl));simp only[addFl])|(with_reducible apply zbb;(focus ((conv=>lhs;simp[*,↓zan,Nat.testBit_eq_decide_div_mod_eq])<;>exact rfl));(try simp only);(try dsimp only))|((with_reducible first|apply zai|apply zak|apply zah|apply zaf|apply zac|apply zaj|apply zag|apply zam|(apply zae;· simp[*,zaa])|(apply zab;· simp[*,zaa]));try simp only[Then,Ops])|simp only[Nat.reduceEqDiff,reduceIte,OutB,Then]))
    refine zbn (v:=.tup [.agg [.int .i64 0,.int .i64 0],.int .i64 10]) hdf rfl (by simp only;exact e4) (by simp only[zco,List.filterMap_cons,List.filterMap_nil,List.foldl_cons,List.foldl_nil];simp only[resL,resOf,zal];simp[resV,pickC,List.getElem?_set_ne,e3,List.getElem?_set_self (get_lt e4)]) ⟨by simp[spA],by simp⟩
  · obtain ⟨hi,hf,hcan⟩:=Rd.errR_zero h1
    subst hi
    rw[h1,if_pos rfl]
    have hv:Rd.valid r=true:=(Rd.valid_iff r).2 hf
    obtain ⟨hb1,hb2⟩:=Bool.and_eq_true_iff.1 hb
    obtain ⟨i,rfl,hil⟩:=zia hb1
    obtain ⟨j,rfl,hjl⟩:=zmb hb2
    obtain ⟨H3,tc3,k1,k2,k3,k4⟩:=hHs hv H2 xb mb eb h7 i hil (j+1) (by omega)
    have e3:H3[3]?=some (.cells [.int .i64 0,.int .i64 0]):=k3.at (h5.at rfl (by simp)) (fun h=>by have:=k2 _ h;simp at h9;omega)
    have e4:H3[4]?=some (.cells [.int .i64 0]):=k3.at (h5.at rfl (by simp)) (fun h=>by have:=k2 _ h;simp at h9;omega)
    obtain ⟨f0,f1,f2,f3,f4,f5⟩:=bk' e3
    obtain ⟨g0,g1,g2,g3,g4,g5⟩:=bk' e4
    obtain ⟨n0,n1,n2,n3,n4⟩:0∉tc∧1∉tc∧2∉tc∧3∉tc∧4∉tc:=by
      refine ⟨?_,?_,?_,?_,?_⟩<;>(intro h;have:=h6 _ h;simp at *<;>omega)
    obtain ⟨m0,m1,m2,m3,m4⟩:0∉tc3∧1∉tc3∧2∉tc3∧3∉tc3∧4∉tc3:=by
      refine ⟨?_,?_,?_,?_,?_⟩<;>(intro h;have:=k2 _ h;simp at *<;>omega)
    have hev:=hf.events
    have hw:IntKind.i64.wrap (↑j+1)=↑j+1:=zau (by omega) (by omega)
    rw[show ((j+1:Nat):Int)=(j:Int)+1 by omega] at k1
    rw[Int.toNat_natCast,Int.toNat_natCast]
    generalize Rd.heightsR r i (j+1)=sp at *
    clear hHd hHs hF h1 hb he hb1 hb2 h5 h6 h7 h8 h9 h10 hv hf hcan k2 k3 k4 hil hjl e3 e4
    simp only[zipI,roadCs] at *
    (repeat (first|((with_reducible apply zad);(focus ((with_reducible apply zar);(focus rfl);(focus rfl);(focus ((conv=>lhs;simp[*,List.getElem?_append_right,List.set_append_right,List.getElem?_cons_zero,List.getElem?_append_left,List.set_append_left,-getElem?_pos,↓zan,Nat.testBit_eq_decide_div_mod_eq])<;>exact rfl));(focus rfl);(focus rfl)));simp only[addFl])|(with_reducible apply zad;(focus ((conv=>lhs;simp[*,List.getElem?_append_right,List.set_append_right,List.getElem?_cons_zero,List.getElem?_append_left,List.set_append_left,-getElem?_pos,↓zan,Nat.testBit_eq_decide_div_mod_eq])<;>exact rfl));simp only[addFl])|((with_reducible first|apply zai|apply zak|apply zah|apply zaf|apply zac|apply zaj|apply zag|apply zam|(apply zae;· simp[*,zaa])|(apply zab;· simp[*,zaa]));try simp only[Then,Ops])|simp only[Nat.reduceEqDiff,reduceIte,OutB,Then]))
    refine zdi (v:=.tup [spA sp,.int .i64 0]) (.inl rfl) hdf rfl (by simp) (by simp only[zav,zaw];simp only[resL,resOf,zal];simp[resV,pickC,spA,f0,g0]) ⟨rfl,by simp⟩
end Ro
end Ev
end Go.Proofs.Ytlcjlcllbgjplaa

/- Package road, gone through: Sinks, Bears, the closures. -/
namespace Go.Proofs.Ytlcjlcllbgjplaa
open Go
namespace Ev
namespace Ro
open K
attribute [local simp] ev1 wantG spineK spine float xnew xval xeff zaa zas zbc zaw zav addFl cellsOf pickC alive slLen slFt binI maxA maxK minA minK aeqK aeqS AV.cells spA zat fillA setAt bitsI nat_nn zbd AV.plain apart
set_option maxRecDepth 100000
set_option maxHeartbeats 4000000
def IsEventC (call:CallF)(r:Rd.Road):Prop:=∀ (H:List AB) (xb:Nat) (w z:AV),H[xb]?=some (.cells (roadCs r++[w,z]))→∀ n:Int,call (.fn (.func 42) [] []) [.ptr xb 0,.int .i64 n] H=some (.ret (.bool (Rd.isEvent r n)),H,[])
def IsLoadC (call:CallF):Prop:=∀ (H:List AB) (n:Int),call (.fn (.func 48) [] []) [.int .i64 n] H=some (.ret (.bool (Rd.isLoad n)),H,[])
theorem zmg (C:Cfg)(call:CallF)(r:Rd.Road)(hP:IsPartC call r)(hE:IsEventC call r)(H:List AB)(xb mb eb:Nat)(hX:Rx r xb mb eb H)(num evn:Int)(b1 b2:Nat)(h1:H[b1]?=some (.cells [.int .i64 num]))(h2:H[b2]?=some (.cells [.int .i64 evn])):
    Does (ev C call H.length none af40.body { tm:=tmA af40.ntmps (zipI 0 [.ptr xb 0,.ptr b1 0,.ptr b2 0] []),df:=[],hp:=H,tc:=[] })
      (Ends C H.length af40.res fun v _hp tc=>v=.bool (Rd.isPart r num&&Rd.isEvent r evn)∧tc=[]):=by
  have c1:=hP H xb _ _ hX.x num
  have c2:=hE H xb _ _ hX.x evn
  obtain ⟨x0,x1,x2,x3,x4,x5⟩:=bk' h1
  obtain ⟨y0,y1,y2,y3,y4,y5⟩:=bk' h2
  clear hP hE h1 h2 hX
  unfold af40 Zq Zm Zl Zo Zc Zt
  simp only[zipI]
  cases hb:Rd.isPart r num with
  |false=>
    rw[hb] at c1
    (repeat (first|(with_reducible apply zad;(focus ((conv=>lhs;simp[*,Nat.testBit_eq_decide_div_mod_eq])<;>exact rfl));simp only[addFl])|((with_reducible first|apply zai|apply zak|apply zah|apply zaf|apply zac|apply zaj|apply zag|apply zam|(apply zae;· simp[*,zaa])|(apply zab;· simp[*,zaa]));try simp only[Then,Ops])|simp only[Nat.reduceEqDiff,reduceIte,OutB,Then]))
    exact zao (v:=.bool false) (.inl rfl) rfl (by simp) (by simp only[resL,resOf,zal];simp[*,resV]) ⟨by simp,rfl⟩
  |true=>
    rw[hb] at c1
    (repeat (first|(with_reducible apply zad;(focus ((conv=>lhs;simp[*,Nat.testBit_eq_decide_div_mod_eq])<;>exact rfl));simp only[addFl])|((with_reducible first|apply zai|apply zak|apply zah|apply zaf|apply zac|apply zaj|apply zag|apply zam|(apply zae;· simp[*,zaa])|(apply zab;· simp[*,zaa]));try simp only[Then,Ops])|simp only[Nat.reduceEqDiff,reduceIte,OutB,Then]))
    exact zao (v:=.bool (Rd.isEvent r evn)) (.inl rfl) rfl (by simp) (by simp only[resL,resOf,zal];simp[*,resV]) ⟨by simp,rfl⟩
theorem zpc (C:Cfg)(call:CallF)(r:Rd.Road)(hP:IsPartC call r)(hE:IsLoadC call)(H:List AB)(xb mb eb:Nat)(hX:Rx r xb mb eb H)(num evn:Int)(b1 b2:Nat)(h1:H[b1]?=some (.cells [.int .i64 num]))(h2:H[b2]?=some (.cells [.int .i64 evn])):
    Does (ev C call H.length none af47.body { tm:=tmA af47.ntmps (zipI 0 [.ptr xb 0,.ptr b1 0,.ptr b2 0] []),df:=[],hp:=H,tc:=[] })
      (Ends C H.length af47.res fun v _hp tc=>v=.bool (Rd.isPart r num&&Rd.isLoad evn)∧tc=[]):=by
  have c1:=hP H xb _ _ hX.x num
  have c2:=fun H=>hE H evn
  obtain ⟨x0,x1,x2,x3,x4,x5⟩:=bk' h1
  obtain ⟨y0,y1,y2,y3,y4,y5⟩:=bk' h2
  clear hP hE h1 h2 hX
  unfold af47 Zq Zm Zl Zo Zc Zt
  simp only[zipI]
  cases hb:Rd.isPart r num with
  |false=>
    rw[hb] at c1
    (repeat (first|(with_reducible apply zad;(focus ((conv=>lhs;simp[*,Nat.testBit_eq_decide_div_mod_eq])<;>exact rfl));simp only[addFl])|((with_reducible first|apply zai|apply zak|apply zah|apply zaf|apply zac|apply zaj|apply zag|apply zam|(apply zae;· simp[*,zaa])|(apply zab;· simp[*,zaa]));try simp only[Then,Ops])|simp only[Nat.reduceEqDiff,reduceIte,OutB,Then]))
    exact zao (v:=.bool false) (.inl rfl) rfl (by simp) (by simp only[resL,resOf,zal];simp[*,resV]) ⟨by simp,rfl⟩
  |true=>
    rw[hb] at c1
    (repeat (first|(with_reducible apply zad;(focus ((conv=>lhs;simp[*,Nat.testBit_eq_decide_div_mod_eq])<;>exact rfl));simp only[addFl])|((with_reducible first|apply zai|apply zak|apply zah|apply zaf|apply zac|apply zaj|apply zag|apply zam|(apply zae;· simp[*,zaa])|(apply zab;· simp[*,zaa]));try simp only[Then,Ops])|simp only[Nat.reduceEqDiff,reduceIte,OutB,Then]))
    exact zao (v:=.bool (Rd.isLoad evn)) (.inl rfl) rfl (by simp) (by simp only[resL,resOf,zal];simp[*,resV]) ⟨by simp,rfl⟩
theorem zrl (C:Cfg)(call:CallF)(hE:IsLoadC call)(H:List AB)(v:AV)(load:Int)(b1:Nat)(h1:H[b1]?=some (.cells [.int .i64 load])):
    Does (ev C call H.length none af52.body { tm:=tmA af52.ntmps (zipI 0 [v,.ptr b1 0] []),df:=[],hp:=H,tc:=[] })
      (Ends C H.length af52.res fun v _hp tc=>v=.bool (Rd.isLoad load)∧tc=[]):=by
  have c2:=fun H=>hE H load
  obtain ⟨x0,x1,x2,x3,x4,x5⟩:=bk' h1
  clear hE h1
  unfold af52 Zq Zm Zl Zo Zc Zt
  simp only[zipI]
  (repeat (first|(with_reducible apply zad;(focus ((conv=>lhs;simp[*,Nat.testBit_eq_decide_div_mod_eq])<;>exact rfl));simp only[addFl])|((with_reducible first|apply zai|apply zak|apply zah|apply zaf|apply zac|apply zaj|apply zag|apply zam|(apply zae;· simp[*,zaa])|(apply zab;· simp[*,zaa]));try simp only[Then,Ops])|simp only[Nat.reduceEqDiff,reduceIte,OutB,Then]))
  exact zao (.inl rfl) rfl (by simp) (by simp only[resL,resOf,zal];simp[*,resV]) ⟨rfl,rfl⟩
theorem ztd (C:Cfg)(call:CallF)(hE:IsLoadC call)(H:List AB)(v:AV)(load:Int)(b1:Nat)(h1:H[b1]?=some (.cells [.int .i64 load])):
    Does (ev C call H.length none af56.body { tm:=tmA af56.ntmps (zipI 0 [v,.ptr b1 0] []),df:=[],hp:=H,tc:=[] })
      (Ends C H.length af56.res fun v _hp tc=>v=.bool (Rd.isLoad load)∧tc=[]):=by
  have c2:=fun H=>hE H load
  obtain ⟨x0,x1,x2,x3,x4,x5⟩:=bk' h1
  clear hE h1
  unfold af56 Zq Zm Zl Zo Zc Zt
  simp only[zipI]
  (repeat (first|(with_reducible apply zad;(focus ((conv=>lhs;simp[*,Nat.testBit_eq_decide_div_mod_eq])<;>exact rfl));simp only[addFl])|((with_reducible first|apply zai|apply zak|apply zah|apply zaf|apply zac|apply zaj|apply zag|apply zam|(apply zae;· simp[*,zaa])|(apply zab;· simp[*,zaa]));try simp only[Then,Ops])|simp only[Nat.reduceEqDiff,reduceIte,OutB,Then]))
  exact zao (.inl rfl) rfl (by simp) (by simp only[resL,resOf,zal];simp[*,resV]) ⟨rfl,rfl⟩
theorem zpb (C:Cfg)(call:CallF)(hS:SunkC call)(H:List AB)(w:Rd.Way)(hp:TrOk w.part)(R:List AV)(_hR:R.length=10)(load:Int)(hl:0≤load∧load≤60)(ls:List Int)(b1 b2:Nat)(h1:H[b1]?=some (.cells [.fn (.func 46) [] []]))(h2:H[b2]?=some (.cells [.int .i64 load])):
    Does (ev C call H.length none af50.body { tm:=tmA af50.ntmps (zipI 0 [.agg (wayCs w),.agg R,.ptr b1 0,.ptr b2 0] []),df:=[],hp:=H,tc:=[] })
      (Ends C H.length af50.res fun v _hp tc=>v=spA (sinkG load w ls)∧tc=[]):=by
  have c1:=fun H=>hS H w.part hp load (by omega) (by omega)
  obtain ⟨x0,x1,x2,x3,x4,x5⟩:=bk' h1
  obtain ⟨y0,y1,y2,y3,y4,y5⟩:=bk' h2
  unfold sinkG
  generalize Rd.sunk w.part load=u at *
  clear hS h1 h2 hp hl
  unfold af50 Zq Zm Zl Zo Zs Zt Zi
  simp only[zipI,wayCs] at *
  (repeat (first|(with_reducible apply zad;(focus ((conv=>lhs;simp[*,Nat.testBit_eq_decide_div_mod_eq])<;>exact rfl));simp only[addFl])|((with_reducible first|apply zai|apply zak|apply zah|apply zaf|apply zac|apply zaj|apply zag|apply zam|(apply zae;· simp[*,zaa])|(apply zab;· simp[*,zaa]));try simp only[Then,Ops])|simp only[Nat.reduceEqDiff,reduceIte,OutB,Then]))
  refine zao (v:=spA ⟨u,u⟩) (.inl rfl) rfl (by simp) (by simp only[resL,resOf,zal];simp[pickC,resV,spA]) ⟨rfl,by simp⟩
def Sinks3C (call:CallF):Prop:=∀ (H:List AB) (w:Rd.Way),TrOk w.part→∀ R:List AV,R.length=10→∀ load:Int,0≤load∧load≤60→∀ b1 b2:Nat,H[b1]?=some (.cells [.fn (.func 46) [] []])→H[b2]?=some (.cells [.int .i64 load]) →
  call (.fn (.func 50) [] [.ptr b1 0,.ptr b2 0]) [.agg (wayCs w),.agg R] H=some (.ret (.agg [.int .i64 (Rd.sunk w.part load),.int .i64 (Rd.sunk w.part load)]),H,[])
theorem zoz (C:Cfg)(call call0 call1:CallF)(r:Rd.Road)(hdf:C.dfk 45=some (119,true))(hHd:∀ H F is,IsFn call0 r F is H→HeadQ call r H F is)(hSp:Rd.valid r=true→SpanC call call1 r)(hS3:Sinks3C call1)(num load:Int)
    (hF:IsFn call0 r (.fn (.func 47) [] [.ptr 1 0,.ptr 2 0]) (Rd.isPart r num&&Rd.isLoad load) [.cells (roadCs r),.cells [.int .i64 num],.cells [.int .i64 load],.cells [.int .i64 0,.int .i64 0],.cells [.int .i64 0],.cells [.fn (.func 46) [] []]]):
    Does (ev C call ([]:List AB).length none af15.body { tm:=tmA af15.ntmps (zipI 0 [.agg (roadCs r),.int .i64 num,.int .i64 load] []),df:=[],hp:=[],tc:=[] })
      (Fin C ([]:List AB).length af15 (Ans (spanRV r (Rd.isPart r num&&Rd.isLoad load) (Rd.sinksR r num.toNat load)))):=by
  have ho:=hHd [.cells (roadCs r),.cells [.int .i64 num],.cells [.int .i64 load],.cells [.int .i64 0,.int .i64 0],.cells [.int .i64 0],.cells [.fn (.func 46) [] []]] _ _ hF
  unfold spanRV
  generalize hb:(Rd.isPart r num&&Rd.isLoad load)=is at *
  unfold af15 Zq Zl Zo Zs Zd Ze Zc Zt Zn Zi
  rcases ho with ⟨e,h1,h2,h3⟩|⟨h1,H1,xb,H2,tc,h3,h4,h5,h6⟩|⟨h1,H1,xb,mb,eb,H2,tc,h3,h4,h5,h6,h7,h8,h9,h10⟩
  · rw[h1,if_neg h2]
    clear hHd hSp hS3 hF h1 hb
    simp only[zipI,roadCs] at *
    (repeat (first|(with_reducible apply zad;(focus ((conv=>lhs;simp[*,↓zan,Nat.testBit_eq_decide_div_mod_eq])<;>exact rfl));simp only[addFl])|(with_reducible apply zbb;(focus ((conv=>lhs;simp[*,↓zan,Nat.testBit_eq_decide_div_mod_eq])<;>exact rfl));(try simp only);(try dsimp only))|((with_reducible first|apply zai|apply zak|apply zah|apply zaf|apply zac|apply zaj|apply zag|apply zam|(apply zae;· simp[*,zaa])|(apply zab;· simp[*,zaa]));try simp only[Then,Ops])|simp only[Nat.reduceEqDiff,reduceIte,OutB,Then]))
    refine zbn (v:=.tup [.agg [.int .i64 0,.int .i64 0],.int .i64 e]) hdf rfl (by simp only;rfl) (by simp only[zco,List.filterMap_cons,List.filterMap_nil,List.foldl_cons,List.foldl_nil];simp only[resL,resOf,zal];simp[resV,pickC]) ⟨by simp[spA],by simp⟩
  · rw[h1,if_neg (by decide)]
    have e3:H2[3]?=some (.cells [.int .i64 0,.int .i64 0]):=h5.at rfl (by simp)
    have e4:H2[4]?=some (.cells [.int .i64 0]):=h5.at rfl (by simp)
    obtain ⟨n0,n1,n2,n3,n4,n5⟩:0∉tc∧1∉tc∧2∉tc∧3∉tc∧4∉tc∧5∉tc:=by
      refine ⟨?_,?_,?_,?_,?_,?_⟩<;>(intro h;have:=h6 _ h;simp at *<;>omega)
    clear hHd hSp hS3 hF h1 hb h5 h6
    simp only[zipI,roadCs] at *
    (repeat (first|(with_reducible apply zad;(focus ((conv=>lhs;simp[*,↓zan,Nat.testBit_eq_decide_div_mod_eq])<;>exact rfl));simp only[addFl])|(with_reducible apply zbb;(focus ((conv=>lhs;simp[*,↓zan,Nat.testBit_eq_decide_div_mod_eq])<;>exact rfl));(try simp only);(try dsimp only))|((with_reducible first|apply zai|apply zak|apply zah|apply zaf|apply zac|apply zaj|apply zag|apply zam|(apply zae;· simp[*,zaa])|(apply zab;· simp[*,zaa]));try simp only[Then,Ops])|simp only[Nat.reduceEqDiff,reduceIte,OutB,Then]))
    refine zbn (v:=.tup [.agg [.int .i64 0,.int .i64 0],.int .i64 10]) hdf rfl (by simp only;exact e4) (by simp only[zco,List.filterMap_cons,List.filterMap_nil,List.foldl_cons,List.foldl_nil];simp only[resL,resOf,zal];simp[resV,pickC,List.getElem?_set_ne,e3,List.getElem?_set_self (get_lt e4)]) ⟨by simp[spA],by simp⟩
  · obtain ⟨hi,hf,hcan⟩:=Rd.errR_zero h1
    subst hi
    rw[h1,if_pos rfl]
    have hv:Rd.valid r=true:=(Rd.valid_iff r).2 hf
    obtain ⟨hb1,hb2⟩:=Bool.and_eq_true_iff.1 hb
    obtain ⟨i,rfl,hil⟩:=zia hb1
    have hlo:=of_decide_eq_true hb2
    obtain ⟨H3, tc3, k1, k2, k3, k4⟩ := hSp hv H2 xb mb eb h7 i hil (.func 50) [] [.ptr 5 0, .ptr 2 0] (sinkG load) (by
      intro G k hG ls hls w hw
      obtain ⟨o1,o2,o3,o4⟩:=way_ok hf hil hw
      exact hS3 G w o1 _ (zbi _) load hlo 5 2 (k.at (h5.at rfl (by simp)) (by simp at h9 ⊢;omega)) (k.at (h5.at rfl (by simp)) (by simp at h9 ⊢;omega)))
    have hsp:Rd.spanR r i (sinkG load)=Rd.sinksR r i load:=rfl
    rw[hsp] at k1
    have e3:H3[3]?=some (.cells [.int .i64 0,.int .i64 0]):=k3.at (h5.at rfl (by simp)) (fun h=>by have:=k2 _ h;simp at h9;omega)
    have e4:H3[4]?=some (.cells [.int .i64 0]):=k3.at (h5.at rfl (by simp)) (fun h=>by have:=k2 _ h;simp at h9;omega)
    obtain ⟨f0,f1,f2,f3,f4,f5⟩:=bk' e3
    obtain ⟨g0,g1,g2,g3,g4,g5⟩:=bk' e4
    obtain ⟨n0,n1,n2,n3,n4,n5⟩:0∉tc∧1∉tc∧2∉tc∧3∉tc∧4∉tc∧5∉tc:=by
      refine ⟨?_,?_,?_,?_,?_,?_⟩<;>(intro h;have:=h6 _ h;simp at *<;>omega)
    obtain ⟨m0,m1,m2,m3,m4,m5⟩:0∉tc3∧1∉tc3∧2∉tc3∧3∉tc3∧4∉tc3∧5∉tc3:=by
      refine ⟨?_,?_,?_,?_,?_,?_⟩<;>(intro h;have:=k2 _ h;simp at *<;>omega)
    rw[Int.toNat_natCast]
    generalize Rd.sinksR r i load=sp at *
    clear hHd hSp hS3 hF h1 hb hb1 hb2 h5 h6 h7 h8 h9 h10 hv hf hcan k2 k3 k4 hil e3 e4 hsp hlo
    simp only[zipI,roadCs] at *
    (repeat (first|((with_reducible apply zad);(focus ((with_reducible apply zar);(focus rfl);(focus rfl);(focus ((conv=>lhs;simp[*,List.getElem?_append_right,List.set_append_right,List.getElem?_cons_zero,List.getElem?_append_left,List.set_append_left,-getElem?_pos,↓zan,Nat.testBit_eq_decide_div_mod_eq])<;>exact rfl));(focus rfl);(focus rfl)));simp only[addFl])|(with_reducible apply zad;(focus ((conv=>lhs;simp[*,List.getElem?_append_right,List.set_append_right,List.getElem?_cons_zero,List.getElem?_append_left,List.set_append_left,-getElem?_pos,↓zan,Nat.testBit_eq_decide_div_mod_eq])<;>exact rfl));simp only[addFl])|((with_reducible first|apply zai|apply zak|apply zah|apply zaf|apply zac|apply zaj|apply zag|apply zam|(apply zae;· simp[*,zaa])|(apply zab;· simp[*,zaa]));try simp only[Then,Ops])|simp only[Nat.reduceEqDiff,reduceIte,OutB,Then]))
    refine zdi (v:=.tup [spA sp,.int .i64 0]) (.inl rfl) hdf rfl (by simp) (by simp only[zav,zaw];simp only[resL,resOf,zal];simp[resV,pickC,spA,f0,g0]) ⟨rfl,by simp⟩
def SureC (call:CallF)(r:Rd.Road):Prop:=∀ (H:List AB) (xb mb eb:Nat),Rx r xb mb eb H→∀ days load:Int,LOk days load→∃ H' tc,call (.fn (.func 53) [] []) [.ptr xb 0,.int .i64 days,.int .i64 load] H=some (.ret (.bool (Rd.sureR r days load)),H',tc)∧(∀ j∈tc,j=mb)∧Kp tc H H'∧Rx r xb mb eb H'
def MayC (call:CallF)(r:Rd.Road):Prop:=∀ (H:List AB) (xb mb eb:Nat),Rx r xb mb eb H→∀ load:Int,LOk 0 load→∃ H' tc,call (.fn (.func 54) [] []) [.ptr xb 0,.int .i64 load] H=some (.ret (.bool (Rd.mayR r load)),H',tc)∧(∀ j∈tc,j=mb)∧Kp tc H H'∧Rx r xb mb eb H'
theorem zrk (C:Cfg)(call call0:CallF)(r:Rd.Road)(hdf:C.dfk 51=some (119,true))(hHd:∀ H F is,IsFn call0 r F is H→HeadQ call r H F is)(hSu:Rd.valid r=true→SureC call r)(hMa:Rd.valid r=true→MayC call r)(load:Int)
    (hF:IsFn call0 r (.fn (.func 52) [] [.ptr 1 0]) (Rd.isLoad load) [.cells (roadCs r),.cells [.int .i64 load],.cells [.int .i64 0]]):
    Does (ev C call ([]:List AB).length none af16.body { tm:=tmA af16.ntmps (zipI 0 [.agg (roadCs r),.int .i64 load] []),df:=[],hp:=[],tc:=[] })
      (Fin C ([]:List AB).length af16 (Ans (numRV r (Rd.isLoad load) (Rd.bearsR r load)))):=by
  have ho:=hHd [.cells (roadCs r),.cells [.int .i64 load],.cells [.int .i64 0]] _ _ hF
  unfold numRV
  generalize hb:Rd.isLoad load=is at *
  unfold af16 Zq Zm Zl Zo Zs Zc Zt Zn Zi
  rcases ho with ⟨e,h1,h2,h3⟩|⟨h1,H1,xb,H2,tc,h3,h4,h5,h6⟩|⟨h1,H1,xb,mb,eb,H2,tc,h3,h4,h5,h6,h7,h8,h9,h10⟩
  · rw[h1,if_neg h2]
    clear hHd hSu hMa hF h1 hb
    simp only[zipI,roadCs] at *
    (repeat (first|(with_reducible apply zad;(focus ((conv=>lhs;simp[*,Nat.testBit_eq_decide_div_mod_eq])<;>exact rfl));simp only[addFl])|(with_reducible apply zbb;(focus ((conv=>lhs;simp[*,Nat.testBit_eq_decide_div_mod_eq])<;>exact rfl));(try simp only[Ops,Then]);(try dsimp only))|((with_reducible first|apply zai|apply zak|apply zah|apply zaf|apply zac|apply zaj|apply zag|apply zam|(apply zae;· simp[*,zaa])|(apply zab;· simp[*,zaa]));try simp only[Then,Ops])|simp only[Nat.reduceEqDiff,reduceIte,OutB,Then]))
    refine zbn (v:=.tup [.int .i64 0,.int .i64 e]) hdf rfl (by simp only;rfl) (by simp only[resL,resOf,zal];simp[resV,pickC]) ⟨by simp,by simp⟩
  · rw[h1,if_neg (by decide)]
    have e4:H2[2]?=some (.cells [.int .i64 0]):=h5.at rfl (by simp)
    clear hHd hSu hMa hF h1 hb h5 h6
    simp only[zipI,roadCs] at *
    (repeat (first|(with_reducible apply zad;(focus ((conv=>lhs;simp[*,Nat.testBit_eq_decide_div_mod_eq])<;>exact rfl));simp only[addFl])|(with_reducible apply zbb;(focus ((conv=>lhs;simp[*,Nat.testBit_eq_decide_div_mod_eq])<;>exact rfl));(try simp only[Ops,Then]);(try dsimp only))|((with_reducible first|apply zai|apply zak|apply zah|apply zaf|apply zac|apply zaj|apply zag|apply zam|(apply zae;· simp[*,zaa])|(apply zab;· simp[*,zaa]));try simp only[Then,Ops])|simp only[Nat.reduceEqDiff,reduceIte,OutB,Then]))
    refine zbn (v:=.tup [.int .i64 0,.int .i64 10]) hdf rfl (by simp only;exact e4) (by simp only[resL,resOf,zal];simp[resV,pickC,List.getElem?_set_self (get_lt e4)]) ⟨by simp,by simp⟩
  · obtain ⟨hi,hf,hcan⟩:=Rd.errR_zero h1
    subst hi
    rw[h1,if_pos rfl]
    have hv:Rd.valid r=true:=(Rd.valid_iff r).2 hf
    have hL:=zkt (d:=0) hb (by decide) (by decide)
    obtain ⟨H3,tc3,k1,k2,k3,k4⟩:=hSu hv H2 xb mb eb h7 0 load hL
    obtain ⟨H4,tc4,q1,q2,q3,q4⟩:=hMa hv H3 xb mb eb k4 load hL
    have e1:H2[1]?=some (.cells [.int .i64 load]):=h5.at rfl (by simp)
    have e3:H3[1]?=some (.cells [.int .i64 load]):=k3.at e1 (fun h=>by have:=k2 _ h;simp at h9;omega)
    have d3:H3[2]?=some (.cells [.int .i64 0]):=k3.at (h5.at rfl (by simp)) (fun h=>by have:=k2 _ h;simp at h9;omega)
    have d4:H4[2]?=some (.cells [.int .i64 0]):=q3.at d3 (fun h=>by have:=q2 _ h;simp at h9;omega)
    obtain ⟨a0,a1,a2,a3,a4,a5⟩:=bk' e1
    obtain ⟨b0,b1,b2,b3,b4,b5⟩:=bk' e3
    obtain ⟨f0,f1,f2,f3,f4,f5⟩:=bk' d3
    obtain ⟨g0,g1,g2,g3,g4,g5⟩:=bk' d4
    have hbr:Rd.bearsR r load=if Rd.sureR r 0 load then 2 else if Rd.mayR r load then 1 else 0:=rfl
    rw[hbr]
    clear hHd hSu hMa hF h1 hb h5 h6 h7 h8 h9 h10 hv hf hcan k2 k3 k4 q2 q3 q4 e1 e3 d3 d4 hL hbr
    simp only[zipI,roadCs] at *
    cases hs:Rd.sureR r 0 load with
    |true=>
      rw[hs] at k1
      (repeat (first|(with_reducible apply zad;(focus ((conv=>lhs;simp[*,Nat.testBit_eq_decide_div_mod_eq])<;>exact rfl));simp only[addFl])|((with_reducible first|apply zai|apply zak|apply zah|apply zaf|apply zac|apply zaj|apply zag|apply zam|(apply zae;· simp[*,zaa])|(apply zab;· simp[*,zaa]));try simp only[Then,Ops,OutB,reduceIte])|simp only[Nat.reduceEqDiff,reduceIte,OutB,Then]))
      refine zdi (v:=.tup [.int .i64 2,.int .i64 0]) (.inl rfl) hdf rfl (by simp) (by simp only[resL,resOf,zal];simp[resV,pickC,f0]) ⟨rfl,by simp⟩
    |false=>
      rw[hs] at k1
      cases hm:Rd.mayR r load with
      |true=>
        rw[hm] at q1
        (repeat (first|(with_reducible apply zad;(focus ((conv=>lhs;simp[*,Nat.testBit_eq_decide_div_mod_eq])<;>exact rfl));simp only[addFl])|((with_reducible first|apply zai|apply zak|apply zah|apply zaf|apply zac|apply zaj|apply zag|apply zam|(apply zae;· simp[*,zaa])|(apply zab;· simp[*,zaa]));try simp only[Then,Ops,OutB,reduceIte])|simp only[Nat.reduceEqDiff,reduceIte,OutB,Then]))
        refine zdi (v:=.tup [.int .i64 1,.int .i64 0]) (.inl rfl) hdf rfl (by simp) (by simp only[resL,resOf,zal];simp[resV,pickC,g0]) ⟨rfl,by simp⟩
      |false=>
        rw[hm] at q1
        (repeat (first|(with_reducible apply zad;(focus ((conv=>lhs;simp[*,Nat.testBit_eq_decide_div_mod_eq])<;>exact rfl));simp only[addFl])|((with_reducible first|apply zai|apply zak|apply zah|apply zaf|apply zac|apply zaj|apply zag|apply zam|(apply zae;· simp[*,zaa])|(apply zab;· simp[*,zaa]));try simp only[Then,Ops,OutB])|simp only[Nat.reduceEqDiff,reduceIte,OutB,Then]))
        refine zdi (v:=.tup [.int .i64 0,.int .i64 0]) (.inl rfl) hdf rfl (by simp) (by simp only[resL,resOf,zal];simp[resV,pickC,g0]) ⟨rfl,by simp⟩
end Ro
end Ev
end Go.Proofs.Ytlcjlcllbgjplaa

/- Package road, gone through: numbers, yielded; the first one that is so. -/
namespace Go.Proofs.Ytlcjlcllbgjplaa
open Go
namespace Ev
theorem zfy {C:Cfg}{pin D:Nat}{fn:AFunc}{Q:CRes→List AB→List Nat→Prop}{v:AV}{st:St}(hd:st.df=[.mark D])(hD:st.hp[D]?=some .dfr)(hp:pin≤D)(hl:pin≤st.hp.length)(hq:Q (.pan v) (st.hp.set D .dead) st.tc):K.Fin C pin fn Q (.panic v) st:=by
  refine ⟨.pan v,{ st with hp:=st.hp.set D .dead },?_,by simpa using hl,hq⟩
  have:runDefs C pin st.df (some v) st=some (some v,{ st with hp:=st.hp.set D .dead }):=by
    conv=>lhs;rw[hd]
    have:¬ D<pin:=by omega
    simp only[runDefs,hD,List.filter_cons,List.filter_nil,this,decide_false,Bool.false_eq_true,if_false,List.nil_append]
  show (match runDefs C pin st.df (some v) st with
    |some (none,st)=>(resL st fn.res).map fun vs=>(CRes.ret (resV vs),st)
    |some (some v,st)=>some (.pan v,st)
    |none=>none)=_
  rw[this]
theorem zoa {C:Cfg}{pin D:Nat}{fn:AFunc}{Q:CRes→List AB→List Nat→Prop}{e:AExit}{st:St}{v:AV}(he:e=.ret∨e=.normal)(hd:st.df=[.mark D])(hD:st.hp[D]?=some .dfr)(hp:pin≤D)(hl:pin≤st.hp.length)(hr:(resL { st with hp:=st.hp.set D .dead } fn.res).map resV=some v)(hq:Q (.ret v) (st.hp.set D .dead) st.tc):K.Fin C pin fn Q e st:=by
  obtain ⟨x,st',h1,h2,v',h3,h4⟩:=zer (C:=C) (pin:=pin) (fn:=fn) (Q:=fun v hp tc=>Q (.ret v) hp tc) (zbp he hd hD hp hl hr hq)
  exact ⟨x,st',h1,h2,by rw[h3];exact h4⟩
namespace Ro
open K
attribute [local simp] ev1 wantG spineK spine float xnew xval xeff zaa zas zbc zaw zav addFl cellsOf pickC alive slLen slFt binI maxA maxK minA minK aeqK aeqS AV.cells spA zat fillA setAt bitsI nat_nn zbd AV.plain apart
set_option maxRecDepth 100000
set_option maxHeartbeats 4000000
def countL (a b:Nat):List Nat:=if b<a then (List.range (a - b+1)).map (a - ·) else (List.range (b - a+1)).map (a+·)
def countN (a b:Nat):Nat:=if b<a then a - b+1 else b - a+1
theorem zqz (a b:Nat):(countL a b).length=countN a b:=by unfold countL countN;split<;>simp
theorem zra (a b:Nat){i:Nat}(h:i<countN a b):(countL a b)[i]?=some (if b<a then a - i else a+i):=by
  unfold countN at h
  unfold countL
  split
  · rename_i hb
    rw[if_pos hb] at h
    rw[List.getElem?_map,List.getElem?_range h];rfl
  · rename_i hb
    rw[if_neg hb] at h
    rw[List.getElem?_map,List.getElem?_range h];rfl
theorem zno {α:Type}{L:List α}{i:Nat}{x:α}(h:L[i]?=some x):L.take i++[x] <+: L:=by
  have e:L.take i++[x]=L.take (i+1):=by rw[List.take_add_one,h];rfl
  rw[e];exact List.take_prefix _ _
def CtPre (a b b1 b2:Nat)(H:List AB)(T:List Nat):Prop:=H[b1]?=some (.cells [.int .i64 b])∧H[b2]?=some (.cells [.int .i64 a])∧b1∉T∧b2∉T
theorem zqw (C:Cfg)(hC:C.calm=true)(call:CallF)(a b b1 b2:Nat)(ha:a≤1000)(hb:b≤1000)(U:List AB→Prop)(H:List AB)(l:Nat)(T:List Nat)(J:List Nat→List Nat→List AB→Prop)(E:List Nat→List AB→Prop)(M:List Nat→Nat→Prop)
    (hp:CtPre a b b1 b2 H T) (hT:∀ j∈T,j<H.length) (hlT:l∈T) (hJ0:J [] [] H) (hJY:∀ d W G,J d W G→U G) (hM:∀ j,¬ M [] j) (hY:Yields call l H.length T (fun n:Nat=>.int .i64 n) (countL a b) [] U J E M):
    Does (ev C call H.length none af91.body { tm:=tmA af91.ntmps (zipI 0 [.yield l,.ptr b1 0,.ptr b2 0] []),df:=[],hp:=H,tc:=[] })
      (Ends C H.length af91.res (ItPost H l [] T J E M (countL a b))):=by
  obtain ⟨h1,h2,p1,p2⟩:=hp
  have ctx:ItCtx call H H l [] T (fun n:Nat=>.int .i64 n) (countL a b) U J E M:=⟨hT,by simp,hlT,Kp.refl _ _,hY,hM,hJY⟩
  have hI:ItInv H.length H l [] T J M [] H []:=ctx.start hJ0 (hJY _ _ _ hJ0)
  obtain ⟨x0,x1,x2,x3,x4,x5⟩:=bk' h1
  obtain ⟨y0,y1,y2,y3,y4,y5⟩:=bk' h2
  have hlen:=zqz a b
  have hget:=fun i (h:i<countN a b)=>zra a b h
  have hfacts:∀ d hp tc,ItInv H.length H l [] T J M d hp tc→Bk hp b1 (.cells [.int .i64 b]):=fun d hp tc h=>bk' (h.at h1 (by simp) p1)
  obtain ⟨s,hs1,hs2⟩:∃ s:Int,(b<a→s=-1)∧(¬ b<a→s=1):=by
    by_cases h:b<a
    · exact ⟨-1,fun _=>rfl,fun k=>absurd h k⟩
    · exact ⟨1,fun k=>absurd k h,fun _=>rfl⟩
  have hval:∀ i,i<countN a b→(((if b<a then a - i else a+i:Nat):Nat):Int)=a+s * i:=by
    intro i hi
    unfold countN at hi
    split
    · rename_i h;rw[hs1 h];rw[if_pos h] at hi;omega
    · rename_i h;rw[hs2 h];omega
  have hcn:countN a b≤2000:=by unfold countN;split<;>omega
  have hlast:(a:Int)+s * (countN a b:Nat)=b+s:=by
    unfold countN
    split
    · rename_i h;rw[hs1 h];omega
    · rename_i h;rw[hs2 h];omega
  have hno:∀ i,i<countN a b→(a:Int)+s * i≠b+s:=by
    intro i hi
    unfold countN at hi
    split at hi
    · rename_i h;rw[hs1 h];omega
    · rename_i h;rw[hs2 h];omega
  have hsb:s=1∨s=-1:=by
    by_cases h:b<a
    · exact .inr (hs1 h)
    · exact .inl (hs2 h)
  have hwb:IntKind.i64.wrap ((b:Int)+s)=b+s:=zau (by omega) (by omega)
  have hwi:∀ i:Nat,i<countN a b→IntKind.i64.wrap ((a:Int)+s * i+s)=a+s * ((i+1:Nat):Int):=fun i hi=>by
    rw[zau (by rcases hsb with h|h<;>rw[h]<;>omega) (by rcases hsb with h|h<;>rw[h]<;>omega)]
    rcases hsb with h|h<;>rw[h]<;>omega
  have HC:=hideP (And.intro ctx (And.intro hget (And.intro hval (And.intro hno (And.intro hwi (And.intro hlast (And.intro hlen hI)))))))
  clear ctx hget hval hno hwi hlast hlen hI hY hJ0 hJY hT hlT h1 h2 hsb hM
  unfold af91 Zq Zm Zl Zo Zt Zn
  simp only[zipI]
  by_cases hba:b<a
  case' pos=>
    have hs:=hs1 hba
    (repeat (first|(with_reducible apply zad;(focus ((conv=>lhs;simp[*,Nat.testBit_eq_decide_div_mod_eq])<;>exact rfl));simp only[addFl])|((with_reducible first|apply zai|apply zak|apply zah|apply zaf|apply zac|apply zaj|apply zag|apply zam|(apply zae;· simp[*,zaa])|(apply zab;· simp[*,zaa]));try simp only[Then,Ops])|simp only[Nat.reduceEqDiff,reduceIte,OutB,Then]))
  case' neg=>
    have hs:=hs2 hba
    (repeat (first|(with_reducible apply zad;(focus ((conv=>lhs;simp[*,Nat.testBit_eq_decide_div_mod_eq])<;>exact rfl));simp only[addFl])|((with_reducible first|apply zai|apply zak|apply zah|apply zaf|apply zac|apply zaj|apply zag|apply zam|(apply zae;· simp[*,zaa])|(apply zab;· simp[*,zaa]));try simp only[Then,Ops])|simp only[Nat.reduceEqDiff,reduceIte,OutB,Then]))
  all_goals
    have hcn':countN a b<fuelL:=by unfold fuelL;omega
    with_reducible refine zba hC (countN a b) hcn' (fun i st=>∃ hp tc,ItInv H.length H l [] T J M ((countL a b).take i) hp tc∧st={ tm:=tmA 22 [(5,.int .i64 ((a:Int)+s * (i:Nat))),(4,.int .i64 s),(1,.ptr b1 0),(0,.yield l)],df:=[],hp:=hp,tc:=tc }) ?_ ?_ ?_
    · refine ⟨_,_,by simpa using HC.out.2.2.2.2.2.2.2,st_is ?_ rfl rfl rfl⟩
      simp[zap,zaq,hs]
    · rintro i st hi ⟨hp,tc,hV,rfl⟩
      obtain ⟨x0,x1,x2,x3,x4,x5⟩:=hfacts _ _ _ hV
      obtain ⟨ctx,hget,hval,hno,hwi,hlast,hlen,hI⟩:=HC.out
      have hpre:=zno (hget i hi)
      obtain ⟨b',hp',tc',s1,s2,s3⟩:=hV.step ctx hpre
      rw[hval i hi] at s1
      have hw:=hwi i hi
      have hn1:((a:Int)+s * i != b+s)=true:=by simpa using hno i hi
      have htk:(countL a b).take (i+1)=(countL a b).take i++[if b<a then a - i else a+i]:=by rw[List.take_add_one,hget i hi];rfl
      have HS:=hideP (And.intro s2 (And.intro s3 htk))
      clear s2 s3 htk ctx hget hval hno hwi hlast hlen hI hpre hV hs hs1 hs2
      generalize hv:(a:Int)+s * i=v at *
      generalize hv2:(a:Int)+s * ((i+1:Nat):Int)=v2 at *
      cases b' with
      |true=>
        (repeat (first|(with_reducible apply zad;(focus ((conv=>lhs;simp[*,Nat.testBit_eq_decide_div_mod_eq])<;>exact rfl));simp only[addFl])|((with_reducible first|apply zai|apply zak|apply zah|apply zaf|apply zac|apply zaj|apply zag|apply zam|(apply zae;· simp[*,zaa])|(apply zab;· simp[*,zaa]));try simp only[Then,Ops,OutB])|simp only[Nat.reduceEqDiff,reduceIte,OutB,Then]))
        have hn:=HS.out.1 rfl
        rw[← HS.out.2.2] at hn
        with_reducible refine ⟨_,_,hn,?_⟩
        refine st_is ?_ rfl rfl rfl
        simp[zap,zaq]
      |false=>
        (repeat (first|(with_reducible apply zad;(focus ((conv=>lhs;simp[*,Nat.testBit_eq_decide_div_mod_eq])<;>exact rfl));simp only[addFl])|((with_reducible first|apply zai|apply zak|apply zah|apply zaf|apply zac|apply zaj|apply zag|apply zam|(apply zae;· simp[*,zaa])|(apply zab;· simp[*,zaa]));try simp only[Then,Ops,OutB])|simp only[Nat.reduceEqDiff,reduceIte,OutB,Then]))
        exact zao (.inl rfl) rfl (HS.out.2.1 rfl).k.len (by simp only[resL];rfl) (HS.out.2.1 rfl).post
    · rintro st ⟨hp,tc,hV,rfl⟩
      obtain ⟨x0,x1,x2,x3,x4,x5⟩:=hfacts _ _ _ hV
      obtain ⟨ctx,hget,hval,hno,hwi,hlast,hlen,hI⟩:=HC.out
      rw[← hlen,List.take_length] at hV
      have HV:=hideP (hV.post ctx)
      have hl:=hV.len
      rw[hlast]
      clear hs hs1 hs2 ctx hget hval hno hwi hlast hlen hI hV
      (repeat (first|(with_reducible apply zad;(focus ((conv=>lhs;simp[*,Nat.testBit_eq_decide_div_mod_eq])<;>exact rfl));simp only[addFl])|((with_reducible first|apply zai|apply zak|apply zah|apply zaf|apply zac|apply zaj|apply zag|apply zam|(apply zae;· simp[*,zaa])|(apply zab;· simp[*,zaa]));try simp only[Then,Ops,OutB,reduceIte])|simp only[Nat.reduceEqDiff,reduceIte,OutB,Then]))
      exact zao (.inr rfl) rfl (by simp only;omega) (by simp only[resL];rfl) HV.out
def CountI (C:Cfg)(k m:Nat):Prop:=∀ (a b b1 b2:Nat) (U:List AB→Prop),a≤1000→b≤1000→IterG C k m 91 [] [.ptr b1 0,.ptr b2 0] (fun n:Nat=>.int .i64 n) (countL a b) [] U (CtPre a b b1 b2)
theorem zqx {C:Cfg}(hC:C.calm=true)(m:Nat)(h0:Has C 91 af91):CountI C m (m+1):=by
  intro a b b1 b2 U ha hb
  refine zfb hC h0.ext h0.exth h0.fns h0.whole (Nat.le_of_ble_eq_true rfl) ?_
  intro H l T J E M hp h2 h3 h4 h5 h7 h6
  exact zqw C hC _ a b b1 b2 ha hb U H l T J E M hp h2 h3 h4 h5 h7 h6
end Ro
end Ev
end Go.Proofs.Ytlcjlcllbgjplaa

/- Package road, gone through: the first number that is so; Most, Rest. -/
namespace Go.Proofs.Ytlcjlcllbgjplaa
open Go
namespace Ev
namespace Ro
open K
attribute [local simp] ev1 wantG spineK spine float xnew xval xeff zaa zas zbc zaw zav addFl cellsOf pickC alive slLen slFt binI maxA maxK minA minK aeqK aeqS AV.cells spA zat fillA setAt bitsI nat_nn zbd AV.plain apart
set_option maxRecDepth 100000
set_option maxHeartbeats 4000000
theorem znz {α:Type}{p:α→Bool}{d0:List α}{n:α}{L:List α}(h:d0++[n] <+: L)(h0:∀ x∈d0,p x=false)(h1:p n=true):L.find? p=some n:=by
  obtain ⟨t,rfl⟩:=h
  rw[List.append_assoc,List.find?_append]
  have:d0.find? p=none:=List.find?_eq_none.2 fun x hx=>by rw[h0 x hx];decide
  rw[this]
  simp[h1]
def NumF (call:CallF)(F:AV)(r:Rd.Road)(xb mb eb:Nat)(H:List AB)(L:List Nat)(p:Nat→Bool):Prop:=∀ G,Kp [mb] H G→Rx r xb mb eb G→∀ n∈L,∃ G' tc,call F [.int .i64 n] G=some (.ret (.bool (p n)),G',tc)∧(∀ j∈tc,j=mb)∧Kp tc G G'∧Rx r xb mb eb G'
def findX (p:Nat→Bool)(L:List Nat):CRes:=match L.find? p with
  |some n=>.ret (.int .i64 n)
  |none=>.pan (stopV 4)
theorem zqq (C:Cfg)(hC:C.calm=true)(hwh:∀ f,C.whole f=true)(n0 m:Nat)(r:Rd.Road)(hM:MustC (Ev.call C m))(hI:CountI C (n0+1) m)(a b b1 b2:Nat)(ha:a≤1000)(hb:b≤1000)(H:List AB)(xb mb eb:Nat)(hX:Rx r xb mb eb H)(h1:H[b1]?=some (.cells [.int .i64 b]))(h2:H[b2]?=some (.cells [.int .i64 a]))(n1:b1≠mb)(n2:b2≠mb)(fl:Fn)(fa fb:List AV)(p:Nat→Bool)(hF:NumF (Ev.call C n0) (.fn fl fa fb) r xb mb eb H (countL a b) p):
    Does (ev C (Ev.call C m) H.length none af57.body { tm:=tmA af57.ntmps (zipI 0 [.fn (.func 91) [] [.ptr b1 0,.ptr b2 0],.agg [.fn fl fa fb]] []),df:=[],hp:=H,tc:=[] })
      (Fin C H.length af57 fun x hp tc=>x=findX p (countL a b)∧(∀ j∈tc,j=mb)∧Rx r xb mb eb hp):=by
  have hx:=hX.xl
  have hm:=hX.ml
  have he:=hX.el
  have hne:=hX.ne
  have hne2:=hX.ne2
  have l1:=get_lt h1
  have l2:=get_lt h2
  unfold af57 Zq Zm Zl Zo Zs Zc Zt Zn Zi
  simp only[zipI]
  (repeat (first|(with_reducible apply zad;(focus ((conv=>lhs;simp[*,Nat.testBit_eq_decide_div_mod_eq])<;>exact rfl));simp only[addFl])|((with_reducible first|apply zai|apply zak|apply zah|apply zaf|apply zac|apply zaj|apply zag|apply zam|(apply zae;· simp[*,zaa])|(apply zab;· simp[*,zaa]));try simp only[Then,Ops])|simp only[Nat.reduceEqDiff,reduceIte,OutB,Then]))
  refine zcb hC hwh (hI a b b1 b2 (Rx r xb mb eb) ha hb) (by simp[zaa]) rfl [mb,H.length+1] (by simp;omega) (by simp)
    (fun d W G=>W=[]∧G[H.length+1]?=some (.cells [.int .i64 0])∧∀ n∈d,p n=false) (fun e d G=>e=.ret∧∃ d0 n,d=d0++[n]∧(∀ x∈d0,p x=false)∧p n=true∧G[H.length+1]?=some (.cells [.int .i64 n]))
    (fun rz=>?_) (fun G G' h k=>h.same fun j hj=>k j (by simp;omega) (by simp;omega)) (fun rz=>⟨rfl,by simp,by simp⟩) (fun rz=>(hX.app _).app _) (fun d W G G' h _ k=>?_) (fun e d G G' h k=>?_) ?_ ?_ ?_
  · refine ⟨?_,?_,?_,?_⟩
    · rw[List.append_assoc,List.getElem?_append_left l1];exact h1
    · rw[List.append_assoc,List.getElem?_append_left l2];exact h2
    · simp;omega
    · simp;omega
  · simp only[List.length_append,List.length_cons,List.length_nil,Nat.zero_add,Nat.add_assoc,Nat.reduceAdd] at k
    exact ⟨h.1,(k _ (get_lt h.2.1) (.inl (by omega)) (by simp) (by omega)).trans h.2.1,h.2.2⟩
  · simp only[List.length_append,List.length_cons,List.length_nil,Nat.zero_add,Nat.add_assoc,Nat.reduceAdd] at k
    obtain ⟨q1,d0,n,q2,q3,q4,q5⟩:=h
    exact ⟨q1,d0,n,q2,q3,q4,(k _ (by omega) (by omega)).trans q5⟩
  · rintro d s W G rz hpr ⟨rfl,hJ,hJp⟩ hY hK hl hWb
    simp only[List.length_append,List.length_cons,List.length_nil,Nat.zero_add,Nat.add_assoc,Nat.reduceAdd] at hl ⊢
    rw[setP1]
    (repeat (first|(with_reducible apply zad;(focus ((conv=>lhs;simp[*,Nat.testBit_eq_decide_div_mod_eq])<;>exact rfl));simp only[addFl])|((with_reducible first|apply zai|apply zak|apply zah|apply zaf|apply zac|apply zaj|apply zag|apply zam|(apply zae;· simp[*,zaa])|(apply zab;· simp[*,zaa]));try simp only[Ops])|simp only[Nat.reduceEqDiff,reduceIte,OutB,Then]))
    refine ⟨trivial,trivial,?_⟩
    obtain ⟨G2,hG2,k1,k2,k3,k4⟩:=zdf (G:=G) (l:=H.length+3) (.loop rz) (by omega)
    rw[← hG2]
    clear hG2
    have e0:=(k3 H.length (by omega)).trans (hK.at (b:=H.length) (x:=.cells [.fn fl fa fb]) (by simp) (by simp;omega))
    have e1:=(k3 (H.length+1) (by omega)).trans hJ
    have hX2:Rx r xb mb eb G2:=hY.kp k4 (by simp;omega) (by simp;omega) (by simp;omega)
    have hKH : Kp [mb] H G2 := ⟨by omega, fun b hb hn => by
      rw[k3 b (by omega),hK.get b (by simp;omega) (by simp at hn ⊢;omega),List.getElem?_append_left hb]⟩
    obtain ⟨H3,tc3,c1,c2,c3,c4⟩:=hF G2 hKH hX2 s (hpr.subset (by simp))
    have nt:∀ {j},H.length≤j→j∉tc3:=fun hj ht=>by have:=c2 _ ht;omega
    obtain ⟨x0,x1,x2,x3,x4,x5⟩:=bk' e0
    obtain ⟨y0,y1,y2,y3,y4,y5⟩:=bk' (c3.at e1 (nt (by omega)))
    have k23:=c3.at k2 (nt (by omega))
    have HA:=hideP (And.intro c2 (And.intro c4 (And.intro k23 hJp)))
    have h99:¬ H.length+1=H.length+3:=by omega
    clear c2 c4 k23 hJp hF hX hX2 hKH hY hK hpr hJ e0 e1 k1 k2 k3 k4 c3 nt hM hI
    cases hp:p s with
    |true=>
      rw[hp] at c1
      (repeat (first|(with_reducible apply zad;(focus ((conv=>lhs;simp[*,Nat.testBit_eq_decide_div_mod_eq])<;>exact rfl));simp only[addFl])|((with_reducible first|apply zai|apply zak|apply zah|apply zaf|apply zac|apply zaj|apply zag|apply zam|(apply zae;· simp[*,zaa])|(apply zab;· simp[*,zaa]));try simp only[Then,Ops,OutB])|simp only[Nat.reduceEqDiff,reduceIte,OutB,Then]))
      obtain ⟨c2,c4,k23,hJp⟩:=HA.out
      have k:Kp [H.length+1] H3 (H3.set (H.length+1) (.cells [.int .i64 s])):=(Kp.refl _ _).set _ _ (by simp)
      refine ⟨by simp,k.at k23 (by simp),fun j hj=>?_,c4.kp k (by simp;omega) (by simp;omega) (by simp;omega),(fun h=>by cases h),fun _=>⟨rfl,d,s,rfl,hJp,hp,by rw[List.getElem?_set_self y0]⟩,fun _ _ h=>h.elim⟩
      simp at hj ⊢
      rcases hj with h|h|h
      · exact .inr (.inr (by omega))
      · exact .inr (.inl (c2 j h.1))
      · exact .inl h
    |false=>
      rw[hp] at c1
      (repeat (first|(with_reducible apply zad;(focus ((conv=>lhs;simp[*,Nat.testBit_eq_decide_div_mod_eq])<;>exact rfl));simp only[addFl])|((with_reducible first|apply zai|apply zak|apply zah|apply zaf|apply zac|apply zaj|apply zag|apply zam|(apply zae;· simp[*,zaa])|(apply zab;· simp[*,zaa]));try simp only[Then,Ops,OutB])|simp only[Nat.reduceEqDiff,reduceIte,OutB,Then]))
      obtain ⟨c2,c4,k23,hJp⟩:=HA.out
      refine ⟨by simp,k23,fun j hj=>?_,c4,fun _=>⟨[],by simp,rfl,y1,fun n hn=>?_⟩,fun h=>absurd rfl h,fun _ _ h=>h.elim⟩
      · simp at hj ⊢
        rcases hj with h|h
        · exact .inr (.inl (c2 j h.1))
        · exact .inl h
      · rcases List.mem_append.1 hn with h|h
        · exact hJp n h
        · simp at h;rw[h];exact hp
  · rintro H' tc W g1 g2 g3 g4 g5 g6 ⟨rfl,g7,g8⟩
    simp only[List.length_append,List.length_cons,List.length_nil,Nat.zero_add,Nat.add_assoc,Nat.reduceAdd,List.nil_append,List.append_nil] at g1 g4 g5 ⊢
    simp only[OutB,Then]
    have hmf:=hM.f
    have hfx:findX p (countL a b)=.pan (stopV 4):=by
      unfold findX
      rw[List.find?_eq_none.2 fun x hx=>by rw[g8 x hx];decide]
    rw[hfx]
    have HA:=hideP (And.intro g1 g3)
    have HD:=hideP g4
    clear g1 g2 g3 g4 g6 g7 g8 hI hX hM hF hfx h1 h2
    (repeat (first|(with_reducible apply zad;(focus ((conv=>lhs;simp[*,Nat.testBit_eq_decide_div_mod_eq])<;>exact rfl));simp only[addFl])|(with_reducible apply zbb;(focus ((conv=>lhs;simp[*,Nat.testBit_eq_decide_div_mod_eq])<;>exact rfl));(try simp only[Ops,Then]);(try dsimp only))|((with_reducible first|apply zai|apply zak|apply zah|apply zaf|apply zac|apply zaj|apply zag|apply zam|(apply zae;· simp[*,zaa])|(apply zab;· simp[*,zaa]));try simp only[Then,Ops,OutB,reduceIte])|simp only[Nat.reduceEqDiff,reduceIte,OutB,Then]))
    obtain ⟨g1,g3⟩:=HA.out
    refine zfy rfl HD.out (by omega) (by simp only;omega) ⟨rfl,fun j hj=>?_,g3.kp ((Kp.refl [H.length+2] H').set _ _ (by simp)) (by simp;omega) (by simp;omega) (by simp;omega)⟩
    simp at hj
    have:=g1 j (by first|exact hj.1|(rcases hj with h|h;exact h.1;exact h.1)) (by omega)
    simp at this
    omega
  · rintro e d H' tc g0 g1 g2 g3 g4 g5 g6 ⟨rfl,d0,n,rfl,g7,g8,g9⟩
    simp only[List.length_append,List.length_cons,List.length_nil,Nat.zero_add,Nat.add_assoc,Nat.reduceAdd,List.nil_append,List.append_nil] at g1 g4 g5 ⊢
    simp only[OutB,Then]
    have hfx:findX p (countL a b)=.ret (.int .i64 n):=by
      unfold findX
      rw[znz g6 g7 g8]
    rw[hfx]
    refine zoa (v:=.int .i64 n) (.inl rfl) rfl g4 (by omega) (by simp only;omega) (by simp only[resL,resOf,zal];simp[resV,pickC,List.getElem?_set_ne,g9]) ⟨rfl,fun j hj=>?_,g3.kp ((Kp.refl [H.length+2] H').set _ _ (by simp)) (by simp;omega) (by simp;omega) (by simp;omega)⟩
    simp at hj
    have:=g1 j (by first|exact hj.1|(rcases hj with h|h;exact h.1;exact h.1)) (by omega)
    simp at this
    omega
end Ro
end Ev
end Go.Proofs.Ytlcjlcllbgjplaa

/- Package road, gone through: Most, Rest. -/
namespace Go.Proofs.Ytlcjlcllbgjplaa
open Go
namespace Ev
namespace Ro
open K
attribute [local simp] ev1 wantG spineK spine float xnew xval xeff zaa zas zbc zaw zav addFl cellsOf pickC alive slLen slFt binI maxA maxK minA minK aeqK aeqS AV.cells spA zat fillA setAt bitsI nat_nn zbd AV.plain apart
set_option maxRecDepth 100000
set_option maxHeartbeats 4000000
def CountC (call:CallF):Prop:=∀ (H:List AB) (a b:Int),call (.fn (.func 58) [] []) [.int .i64 a,.int .i64 b] H=some (.ret (.fn (.func 91) [] [.ptr (H.length+1) 0,.ptr H.length 0]),H++[.cells [.int .i64 a],.cells [.int .i64 b]],[])
theorem zqy (C:Cfg)(call:CallF)(H:List AB)(a b:Int):Does (ev C call H.length none af58.body { tm:=tmA af58.ntmps (zipI 0 [.int .i64 a,.int .i64 b] []),df:=[],hp:=H,tc:=[] })
    (Ends C H.length af58.res fun w hp tc=>w=.fn (.func 91) [] [.ptr (H.length+1) 0,.ptr H.length 0]∧hp=H++[.cells [.int .i64 a],.cells [.int .i64 b]]∧tc=[]):=by
  unfold af58 Zq Zm Zo Zt
  simp only[zipI]
  (repeat (first|(with_reducible apply zad;(focus ((conv=>lhs;simp[*,Nat.testBit_eq_decide_div_mod_eq])<;>exact rfl));simp only[addFl])|((with_reducible first|apply zai|apply zak|apply zah|apply zaf|apply zac|apply zaj|apply zag|apply zam|(apply zae;· simp[*,zaa])|(apply zab;· simp[*,zaa]));try simp only[Then,Ops])|simp only[Nat.reduceEqDiff,reduceIte,OutB,Then]))
  exact zao (.inl rfl) rfl (by simp) (by simp only[resL,resOf,zal];simp[*,resV]) ⟨rfl,rfl,rfl⟩
def FirstNC (call call0:CallF)(r:Rd.Road):Prop:=∀ (a b b1 b2:Nat),a≤1000→b≤1000→∀ (H:List AB) (xb mb eb:Nat),Rx r xb mb eb H→H[b1]?=some (.cells [.int .i64 b])→H[b2]?=some (.cells [.int .i64 a])→b1≠mb→b2≠mb→∀ (fl:Fn) (fa fb:List AV) (p:Nat→Bool),NumF call0 (.fn fl fa fb) r xb mb eb H (countL a b) p →
  ∃ H' tc,call (.fn (.func 57) [] []) [.fn (.func 91) [] [.ptr b1 0,.ptr b2 0],.agg [.fn fl fa fb]] H=some (findX p (countL a b),H',tc)∧(∀ j∈tc,j=mb)∧Kp tc H H'∧Rx r xb mb eb H'
theorem ztx (C:Cfg)(call:CallF)(r:Rd.Road)(hS:SureC call r)(H:List AB)(xb mb eb:Nat)(hX:Rx r xb mb eb H)(n:Nat)(hn:n≤60)(b1:Nat)(h1:H[b1]?=some (.cells [.ptr xb 0])):
    Does (ev C call H.length none af73.body { tm:=tmA af73.ntmps (zipI 0 [.int .i64 n,.ptr b1 0] []),df:=[],hp:=H,tc:=[] })
      (Ends C H.length af73.res fun v hp tc=>v=.bool (Rd.sureR r 0 n)∧(∀ j∈tc,j=mb)∧Rx r xb mb eb hp):=by
  obtain ⟨H',tc,c1,c2,c3,c4⟩:=hS H xb mb eb hX 0 n ⟨by decide,by decide,by omega,by omega⟩
  obtain ⟨x0,x1,x2,x3,x4,x5⟩:=bk' h1
  have HQ:=hideP (And.intro c2 (And.intro c3.len c4))
  clear hS hX h1 c2 c3 c4
  generalize Rd.sureR r 0 n=b at *
  unfold af73 Zq Zm Zl Zo Zc Zt Zn
  simp only[zipI]
  (repeat (first|(with_reducible apply zad;(focus ((conv=>lhs;simp[*,Nat.testBit_eq_decide_div_mod_eq])<;>exact rfl));simp only[addFl])|((with_reducible first|apply zai|apply zak|apply zah|apply zaf|apply zac|apply zaj|apply zag|apply zam|(apply zae;· simp[*,zaa])|(apply zab;· simp[*,zaa]));try simp only[Then,Ops])|simp only[Nat.reduceEqDiff,reduceIte,OutB,Then]))
  exact zao (.inl rfl) rfl HQ.out.2.1 (by simp only[resL,resOf,zal];simp[*,resV]) ⟨rfl,fun j hj=>HQ.out.1 j (List.mem_filter.1 (by simpa using hj:j∈tc.filter (·<H.length))).1,HQ.out.2.2⟩
theorem ztc (C:Cfg)(call:CallF)(r:Rd.Road)(hS:SureC call r)(H:List AB)(xb mb eb:Nat)(hX:Rx r xb mb eb H)(n:Nat)(load:Int)(hL:LOk n load)(b1 b2:Nat)(h1:H[b1]?=some (.cells [.ptr xb 0]))(h2:H[b2]?=some (.cells [.int .i64 load])):
    Does (ev C call H.length none af59.body { tm:=tmA af59.ntmps (zipI 0 [.int .i64 n,.ptr b1 0,.ptr b2 0] []),df:=[],hp:=H,tc:=[] })
      (Ends C H.length af59.res fun v hp tc=>v=.bool (Rd.sureR r n load)∧(∀ j∈tc,j=mb)∧Rx r xb mb eb hp):=by
  obtain ⟨H',tc,c1,c2,c3,c4⟩:=hS H xb mb eb hX n load hL
  obtain ⟨x0,x1,x2,x3,x4,x5⟩:=bk' h1
  obtain ⟨y0,y1,y2,y3,y4,y5⟩:=bk' h2
  have HQ:=hideP (And.intro c2 (And.intro c3.len c4))
  clear hS hX h1 h2 c2 c3 c4 hL
  generalize Rd.sureR r n load=b at *
  unfold af59 Zq Zm Zl Zo Zc Zt
  simp only[zipI]
  (repeat (first|(with_reducible apply zad;(focus ((conv=>lhs;simp[*,Nat.testBit_eq_decide_div_mod_eq])<;>exact rfl));simp only[addFl])|((with_reducible first|apply zai|apply zak|apply zah|apply zaf|apply zac|apply zaj|apply zag|apply zam|(apply zae;· simp[*,zaa])|(apply zab;· simp[*,zaa]));try simp only[Then,Ops])|simp only[Nat.reduceEqDiff,reduceIte,OutB,Then]))
  exact zao (.inl rfl) rfl HQ.out.2.1 (by simp only[resL,resOf,zal];simp[*,resV]) ⟨rfl,fun j hj=>HQ.out.1 j (List.mem_filter.1 (by simpa using hj:j∈tc.filter (·<H.length))).1,HQ.out.2.2⟩
def Most2C (call:CallF)(r:Rd.Road):Prop:=∀ (H:List AB) (xb mb eb:Nat),Rx r xb mb eb H→∀ n:Nat,n≤60→∀ b1:Nat,H[b1]?=some (.cells [.ptr xb 0])→∃ H' tc,call (.fn (.func 73) [] [.ptr b1 0]) [.int .i64 n] H=some (.ret (.bool (Rd.sureR r 0 n)),H',tc)∧(∀ j∈tc,j=mb)∧Kp tc H H'∧Rx r xb mb eb H'
def Rest3C (call:CallF)(r:Rd.Road):Prop:=∀ (H:List AB) (xb mb eb:Nat),Rx r xb mb eb H→∀ (n:Nat) (load:Int),LOk n load→∀ b1 b2:Nat,H[b1]?=some (.cells [.ptr xb 0])→H[b2]?=some (.cells [.int .i64 load])→∃ H' tc,call (.fn (.func 59) [] [.ptr b1 0,.ptr b2 0]) [.int .i64 n] H=some (.ret (.bool (Rd.sureR r n load)),H',tc)∧(∀ j∈tc,j=mb)∧Kp tc H H'∧Rx r xb mb eb H'
def findRV (r:Rd.Road)(is:Bool)(o:Option Nat):AV:=.tup [.int .i64 (if Rd.errR r is=0 then ((o.getD 0:Nat):Int) else 0),.int .i64 (if Rd.errR r is=0 then (if o.isSome then 0 else 4) else Rd.errR r is)]
theorem zhe (p:Nat→Bool)(L:List Nat):(∃ n,L.find? p=some n∧findX p L=.ret (.int .i64 n))∨(L.find? p=none∧findX p L=.pan (.iface 119 (.agg [.int .i64 4]))):=by
  unfold findX
  cases h:L.find? p with
  |none=>exact .inr ⟨rfl,rfl⟩
  |some n=>exact .inl ⟨n,rfl,rfl⟩
theorem zmp:countL 60 0=(List.range 61).map (60 - ·):=rfl
theorem zmo:countL 0 10=List.range 11:=rfl
theorem ztu (C:Cfg)(call call0 call1:CallF)(r:Rd.Road)(hdf:C.dfk 72=some (119,true))(hHd:∀ H F is,IsFn call0 r F is H→HeadQ call r H F is)(hCo:CountC call)(hFi:Rd.valid r=true→FirstNC call call1 r)(hM2:Rd.valid r=true→Most2C call1 r)
    (hF:IsFn call0 r (.fn (.func 61) [] []) true [.cells (roadCs r),.cells [.int .i64 0]]):
    Does (ev C call ([]:List AB).length none af19.body { tm:=tmA af19.ntmps (zipI 0 [.agg (roadCs r)] []),df:=[],hp:=[],tc:=[] })
      (Fin C ([]:List AB).length af19 (Ans (findRV r true (Rd.mostR r)))):=by
  have ho:=hHd [.cells (roadCs r),.cells [.int .i64 0]] _ _ hF
  unfold findRV
  unfold CountC at hCo
  unfold af19 Zq Zm Zo Zs Zc Zt Zn Zi
  rcases ho with ⟨e,h1,h2,h3⟩|⟨h1,H1,xb,H2,tc,h3,h4,h5,h6⟩|⟨h1,H1,xb,mb,eb,H2,tc,h3,h4,h5,h6,h7,h8,h9,h10⟩
  · rw[h1,if_neg h2,if_neg h2]
    clear hHd hCo hFi hM2 hF h1
    simp only[zipI,roadCs] at *
    (repeat (first|(with_reducible apply zad;(focus ((conv=>lhs;simp[*,Nat.testBit_eq_decide_div_mod_eq])<;>exact rfl));simp only[addFl])|(with_reducible apply zbb;(focus ((conv=>lhs;simp[*,Nat.testBit_eq_decide_div_mod_eq])<;>exact rfl));(try simp only[Ops,Then]);(try dsimp only))|((with_reducible first|apply zai|apply zak|apply zah|apply zaf|apply zac|apply zaj|apply zag|apply zam|(apply zae;· simp[*,zaa])|(apply zab;· simp[*,zaa]));try simp only[Then,Ops])|simp only[Nat.reduceEqDiff,reduceIte,OutB,Then]))
    refine zbn (v:=.tup [.int .i64 0,.int .i64 e]) hdf rfl (by simp only;rfl) (by simp only[resL,resOf,zal];simp[resV,pickC]) ⟨by simp,by simp⟩
  · rw[h1,if_neg (by decide),if_neg (by decide)]
    have e4:H2[1]?=some (.cells [.int .i64 0]):=h5.at rfl (by simp)
    clear hHd hCo hFi hM2 hF h1 h5 h6
    simp only[zipI,roadCs] at *
    (repeat (first|(with_reducible apply zad;(focus ((conv=>lhs;simp[*,Nat.testBit_eq_decide_div_mod_eq])<;>exact rfl));simp only[addFl])|(with_reducible apply zbb;(focus ((conv=>lhs;simp[*,Nat.testBit_eq_decide_div_mod_eq])<;>exact rfl));(try simp only[Ops,Then]);(try dsimp only))|((with_reducible first|apply zai|apply zak|apply zah|apply zaf|apply zac|apply zaj|apply zag|apply zam|(apply zae;· simp[*,zaa])|(apply zab;· simp[*,zaa]));try simp only[Then,Ops])|simp only[Nat.reduceEqDiff,reduceIte,OutB,Then]))
    refine zbn (v:=.tup [.int .i64 0,.int .i64 10]) hdf rfl (by simp only;exact e4) (by simp only[resL,resOf,zal];simp[resV,pickC,List.getElem?_set_self (get_lt e4)]) ⟨by simp,by simp⟩
  · obtain ⟨_,hf,hcan⟩:=Rd.errR_zero h1
    rw[h1,if_pos rfl,if_pos rfl]
    have hv:Rd.valid r=true:=(Rd.valid_iff r).2 hf
    have hml:=h7.ml
    obtain ⟨H3, tc3, k1, k2, k3, k4⟩ := hFi hv 60 0 (H2.length + 2) (H2.length + 1) (by decide) (by decide) (H2 ++ [.cells [.ptr xb 0], .cells [.int .i64 60], .cells [.int .i64 0]]) xb mb eb (h7.app _) (by simp) (by simp) (by omega) (by omega) (.func 73) [] [.ptr H2.length 0] (fun n : Nat => Rd.sureR r 0 n) (by
      intro G k hG n hn
      rw[zmp] at hn
      obtain ⟨x,hx,rfl⟩:=List.mem_map.1 hn
      have:=List.mem_range.1 hx
      exact hM2 hv G xb mb eb hG (60 - x) (by omega) H2.length (k.at (by simp) (by simp;omega)))
    have e3:H3[1]?=some (.cells [.int .i64 0]):=k3.at (by rw[List.getElem?_append_left (by have:=h5.len;simp at this;omega)];exact h5.at rfl (by simp)) (fun h=>by have:=k2 _ h;simp at h9;omega)
    have hmo:(countL 60 0).find? (fun n:Nat=>Rd.sureR r 0 n)=Rd.mostR r:=rfl
    obtain ⟨f0,f1,f2,f3,f4,f5⟩:=bk' e3
    have k1':=k1
    clear hHd hFi hM2 hF h1 h5 h6 h7 h8 h9 h10 hv hf hcan k2 k3 k4
    simp only[zipI,roadCs] at *
    rcases zhe (fun n:Nat=>Rd.sureR r 0 n) (countL 60 0) with ⟨n,q1,q2⟩|⟨q1,q2⟩
    · rw[q2] at k1'
      rw[hmo] at q1
      rw[q1]
      clear k1 q2 hmo q1 e3 hml
      (repeat (first|(with_reducible apply zad;(focus ((conv=>lhs;simp[*,Nat.testBit_eq_decide_div_mod_eq])<;>exact rfl));simp only[addFl])|(with_reducible apply zbb;(focus ((conv=>lhs;simp[*,Nat.testBit_eq_decide_div_mod_eq])<;>exact rfl));(try simp only[Ops,Then,OutB]);(try dsimp only))|((with_reducible first|apply zai|apply zak|apply zah|apply zaf|apply zac|apply zaj|apply zag|apply zam|(apply zae;· simp[*,zaa])|(apply zab;· simp[*,zaa]));try simp only[Then,Ops])|simp only[Nat.reduceEqDiff,reduceIte,OutB,Then]))
      refine zdi (v:=.tup [.int .i64 n,.int .i64 0]) (.inl rfl) hdf rfl (by simp) (by simp only[resL,resOf,zal];simp[resV,pickC,f0]) ⟨by simp,by simp⟩
    · rw[q2] at k1'
      rw[hmo] at q1
      rw[q1]
      clear k1 q2 hmo q1 hml
      (repeat (first|(with_reducible apply zad;(focus ((conv=>lhs;simp[*,Nat.testBit_eq_decide_div_mod_eq])<;>exact rfl));simp only[addFl])|(with_reducible apply zbb;(focus ((conv=>lhs;simp[*,Nat.testBit_eq_decide_div_mod_eq])<;>exact rfl));(try simp only[Ops,Then]);(try dsimp only))|((with_reducible first|apply zai|apply zak|apply zah|apply zaf|apply zac|apply zaj|apply zag|apply zam|(apply zae;· simp[*,zaa])|(apply zab;· simp[*,zaa]));try simp only[Then,Ops])|simp only[Nat.reduceEqDiff,reduceIte,OutB,Then]))
      refine zbn (v:=.tup [.int .i64 0,.int .i64 4]) hdf rfl (by simp only;exact e3) (by simp only[resL,resOf,zal];simp[resV,pickC,List.getElem?_set_self f0]) ⟨by simp,by simp⟩
theorem ztb (C:Cfg)(call call0 call1:CallF)(r:Rd.Road)(hdf:C.dfk 55=some (119,true))(hHd:∀ H F is,IsFn call0 r F is H→HeadQ call r H F is)(hCo:CountC call)(hFi:Rd.valid r=true→FirstNC call call1 r)(hM2:Rd.valid r=true→Rest3C call1 r)(load:Int)
    (hF:IsFn call0 r (.fn (.func 56) [] [.ptr 1 0]) (Rd.isLoad load) [.cells (roadCs r),.cells [.int .i64 load],.cells [.int .i64 0]]):
    Does (ev C call ([]:List AB).length none af17.body { tm:=tmA af17.ntmps (zipI 0 [.agg (roadCs r),.int .i64 load] []),df:=[],hp:=[],tc:=[] })
      (Fin C ([]:List AB).length af17 (Ans (findRV r (Rd.isLoad load) (Rd.restR r load)))):=by
  have ho:=hHd [.cells (roadCs r),.cells [.int .i64 load],.cells [.int .i64 0]] _ _ hF
  unfold findRV
  unfold CountC at hCo
  generalize hb:Rd.isLoad load=is at *
  unfold af17 Zq Zm Zo Zs Zc Zt Zn Zi
  rcases ho with ⟨e,h1,h2,h3⟩|⟨h1,H1,xb,H2,tc,h3,h4,h5,h6⟩|⟨h1,H1,xb,mb,eb,H2,tc,h3,h4,h5,h6,h7,h8,h9,h10⟩
  · rw[h1,if_neg h2,if_neg h2]
    clear hHd hCo hFi hM2 hF h1 hb
    simp only[zipI,roadCs] at *
    (repeat (first|(with_reducible apply zad;(focus ((conv=>lhs;simp[*,Nat.testBit_eq_decide_div_mod_eq])<;>exact rfl));simp only[addFl])|(with_reducible apply zbb;(focus ((conv=>lhs;simp[*,Nat.testBit_eq_decide_div_mod_eq])<;>exact rfl));(try simp only[Ops,Then]);(try dsimp only))|((with_reducible first|apply zai|apply zak|apply zah|apply zaf|apply zac|apply zaj|apply zag|apply zam|(apply zae;· simp[*,zaa])|(apply zab;· simp[*,zaa]));try simp only[Then,Ops])|simp only[Nat.reduceEqDiff,reduceIte,OutB,Then]))
    refine zbn (v:=.tup [.int .i64 0,.int .i64 e]) hdf rfl (by simp only;rfl) (by simp only[resL,resOf,zal];simp[resV,pickC]) ⟨by simp,by simp⟩
  · rw[h1,if_neg (by decide),if_neg (by decide)]
    have e4:H2[2]?=some (.cells [.int .i64 0]):=h5.at rfl (by simp)
    clear hHd hCo hFi hM2 hF h1 h5 h6 hb
    simp only[zipI,roadCs] at *
    (repeat (first|(with_reducible apply zad;(focus ((conv=>lhs;simp[*,Nat.testBit_eq_decide_div_mod_eq])<;>exact rfl));simp only[addFl])|(with_reducible apply zbb;(focus ((conv=>lhs;simp[*,Nat.testBit_eq_decide_div_mod_eq])<;>exact rfl));(try simp only[Ops,Then]);(try dsimp only))|((with_reducible first|apply zai|apply zak|apply zah|apply zaf|apply zac|apply zaj|apply zag|apply zam|(apply zae;· simp[*,zaa])|(apply zab;· simp[*,zaa]));try simp only[Then,Ops])|simp only[Nat.reduceEqDiff,reduceIte,OutB,Then]))
    refine zbn (v:=.tup [.int .i64 0,.int .i64 10]) hdf rfl (by simp only;exact e4) (by simp only[resL,resOf,zal];simp[resV,pickC,List.getElem?_set_self (get_lt e4)]) ⟨by simp,by simp⟩
  · obtain ⟨hi,hf,hcan⟩:=Rd.errR_zero h1
    subst hi
    rw[h1,if_pos rfl,if_pos rfl]
    have hv:Rd.valid r=true:=(Rd.valid_iff r).2 hf
    have hml:=h7.ml
    have h2l:2<H2.length:=by have:=h5.len;simp at this;omega
    have el:H2[1]?=some (.cells [.int .i64 load]):=h5.at rfl (by simp)
    obtain ⟨H3, tc3, k1, k2, k3, k4⟩ := hFi hv 0 10 (H2.length + 2) (H2.length + 1) (by decide) (by decide) (H2 ++ [.cells [.ptr xb 0], .cells [.int .i64 0], .cells [.int .i64 10]]) xb mb eb (h7.app _) (by simp) (by simp) (by omega) (by omega) (.func 59) [] [.ptr H2.length 0, .ptr 1 0] (fun n : Nat => Rd.sureR r n load) (by
      intro G k hG n hn
      rw[zmo] at hn
      have:=List.mem_range.1 hn
      exact hM2 hv G xb mb eb hG n load (zkt hb (by omega) (by omega)) H2.length 1 (k.at (by simp) (by simp;omega)) (k.at (by rw[List.getElem?_append_left (by omega)];exact el) (by simp at h9 ⊢;omega)))
    have e3:H3[2]?=some (.cells [.int .i64 0]):=k3.at (by rw[List.getElem?_append_left (by omega)];exact h5.at rfl (by simp)) (fun h=>by have:=k2 _ h;simp at h9;omega)
    have hmo:(countL 0 10).find? (fun n:Nat=>Rd.sureR r n load)=Rd.restR r load:=rfl
    obtain ⟨f0,f1,f2,f3,f4,f5⟩:=bk' e3
    have k1':=k1
    clear hHd hFi hM2 hF h1 h5 h6 h7 h8 h9 h10 hv hf hcan k2 k3 k4 hb el
    simp only[zipI,roadCs] at *
    rcases zhe (fun n:Nat=>Rd.sureR r n load) (countL 0 10) with ⟨n,q1,q2⟩|⟨q1,q2⟩
    · rw[q2] at k1'
      rw[hmo] at q1
      rw[q1]
      clear k1 q2 hmo q1 e3 hml
      (repeat (first|(with_reducible apply zad;(focus ((conv=>lhs;simp[*,Nat.testBit_eq_decide_div_mod_eq])<;>exact rfl));simp only[addFl])|(with_reducible apply zbb;(focus ((conv=>lhs;simp[*,Nat.testBit_eq_decide_div_mod_eq])<;>exact rfl));(try simp only[Ops,Then,OutB]);(try dsimp only))|((with_reducible first|apply zai|apply zak|apply zah|apply zaf|apply zac|apply zaj|apply zag|apply zam|(apply zae;· simp[*,zaa])|(apply zab;· simp[*,zaa]));try simp only[Then,Ops])|simp only[Nat.reduceEqDiff,reduceIte,OutB,Then]))
      refine zdi (v:=.tup [.int .i64 n,.int .i64 0]) (.inl rfl) hdf rfl (by simp) (by simp only[resL,resOf,zal];simp[resV,pickC,f0]) ⟨by simp,by simp⟩
    · rw[q2] at k1'
      rw[hmo] at q1
      rw[q1]
      clear k1 q2 hmo q1 hml
      (repeat (first|(with_reducible apply zad;(focus ((conv=>lhs;simp[*,Nat.testBit_eq_decide_div_mod_eq])<;>exact rfl));simp only[addFl])|(with_reducible apply zbb;(focus ((conv=>lhs;simp[*,Nat.testBit_eq_decide_div_mod_eq])<;>exact rfl));(try simp only[Ops,Then]);(try dsimp only))|((with_reducible first|apply zai|apply zak|apply zah|apply zaf|apply zac|apply zaj|apply zag|apply zam|(apply zae;· simp[*,zaa])|(apply zab;· simp[*,zaa]));try simp only[Then,Ops])|simp only[Nat.reduceEqDiff,reduceIte,OutB,Then]))
      refine zbn (v:=.tup [.int .i64 0,.int .i64 4]) hdf rfl (by simp only;exact e3) (by simp only[resL,resOf,zal];simp[resV,pickC,List.getElem?_set_self f0]) ⟨by simp,by simp⟩
end Ro
end Ev
end Go.Proofs.Ytlcjlcllbgjplaa

/- Sets as numbers: the operations on bits. -/
namespace Go.Proofs.Ytlcjlcllbgjplaa
open Go
def andn (a b:Nat):Nat:=a ^^^ (a&&&b)
theorem zgi (a b i:Nat):(andn a b).testBit i=(a.testBit i&&!b.testBit i):=by
  unfold andn
  rw[Nat.testBit_xor,Nat.testBit_and]
  cases a.testBit i<;>cases b.testBit i<;>rfl
theorem yac (a b:Nat):andn a b≤a:=by
  refine Nat.le_of_testBit ?_
  intro i h
  rw[zgi] at h
  simp at h;exact h.1
namespace Clm
theorem znk (p:Nat→Bool){n v:Nat}(hv:v<n):setOf p n ||| 2 ^ v=setOf (fun u=>p u || decide (u=v)) n:=by
  refine Nat.eq_of_testBit_eq fun i=>?_
  rw[Nat.testBit_or,setOf_bit,setOf_bit,Nat.testBit_two_pow]
  by_cases h:i=v
  · subst h;simp[hv]
  · have:¬ v=i:=fun e=>h e.symm
    simp[h,this]
theorem zhv (p:Nat→Bool)(n v:Nat):andn (setOf p n) (2 ^ v)=setOf (fun u=>p u&&!decide (u=v)) n:=by
  refine Nat.eq_of_testBit_eq fun i=>?_
  rw[zgi,setOf_bit,setOf_bit,Nat.testBit_two_pow]
  by_cases h:i=v
  · subst h;simp
  · have:¬ v=i:=fun e=>h e.symm
    simp[h,this]
theorem zbx {p q:Nat→Bool}{n:Nat}(h:∀ u,u<n→p u=q u):setOf p n=setOf q n:=by
  refine Nat.eq_of_testBit_eq fun i=>?_
  rw[setOf_bit,setOf_bit]
  by_cases hi:i<n
  · rw[h i hi]
  · simp[hi]
theorem setOf_true (n:Nat):setOf (fun _=>true) n=2 ^ n - 1:=by
  refine Nat.eq_of_testBit_eq fun i=>?_
  rw[setOf_bit,Nat.testBit_two_pow_sub_one];simp
theorem setOf_false (n:Nat):setOf (fun _=>false) n=0:=by
  refine Nat.eq_of_testBit_eq fun i=>?_
  rw[setOf_bit];simp
end Clm
namespace Ev
namespace K
theorem zlq {d:Nat}(h:d≤40):IntKind.i64.wrap (1 * 2 ^ (min ((d:Int).toNat) IntKind.i64.bits))=((2 ^ d:Nat):Int)∧IntKind.i64.wrap (2 ^ (min ((d:Int).toNat) IntKind.i64.bits))=((2 ^ d:Nat):Int)∧IntKind.i64.wrap (2 ^ (min d IntKind.i64.bits))=((2 ^ d:Nat):Int):=by
  have hb:IntKind.i64.bits=64:=rfl
  have h1:min ((d:Int).toNat) IntKind.i64.bits=d:=by rw[hb];omega
  have h1':min d IntKind.i64.bits=d:=by rw[hb];omega
  have h2:(2:Int) ^ d=((2 ^ d:Nat):Int):=by simp
  have h3:2 ^ d≤2 ^ 40:=Nat.pow_le_pow_right (by decide) h
  have h4:∀ q:Nat,q≤2 ^ 40→IntKind.i64.wrap (q:Int)=q:=by
    intro q hq
    exact zau (by omega) (by omega)
  rw[h1,h1',Int.one_mul,h2]
  exact ⟨h4 _ h3,h4 _ h3,h4 _ h3⟩
theorem zdg {a:Nat}(h:a<2 ^ 62):(BitVec.ofInt IntKind.i64.bits (a:Int)).toNat=a:=by
  have hb:IntKind.i64.bits=64:=rfl
  rw[hb,BitVec.toNat_ofInt];omega
theorem or_i64 {a b:Nat}(ha:a<2 ^ 62)(hb:b<2 ^ 62):IntKind.i64.wrap ((BitVec.ofInt IntKind.i64.bits (a:Int) ||| BitVec.ofInt IntKind.i64.bits (b:Int)).toNat)=((a ||| b:Nat):Int):=by
  rw[BitVec.toNat_or,zdg ha,zdg hb]
  have:=Nat.or_lt_two_pow ha hb
  exact zau (by omega) (by omega)
theorem zok {a b:Nat}(ha:a<2 ^ 62)(hb:b<2 ^ 62):IntKind.i64.wrap ((BitVec.ofInt IntKind.i64.bits (a:Int)&&&~~~ BitVec.ofInt IntKind.i64.bits (b:Int)).toNat)=((andn a b:Nat):Int):=by
  have e:(BitVec.ofInt IntKind.i64.bits (a:Int)&&&~~~ BitVec.ofInt IntKind.i64.bits (b:Int)).toNat=andn a b:=by
    refine Nat.eq_of_testBit_eq fun i=>?_
    rw[BitVec.toNat_and,Nat.testBit_and,zdg ha,zgi]
    rw[BitVec.testBit_toNat,BitVec.getLsbD_not,← BitVec.testBit_toNat,zdg hb]
    by_cases hi:i<IntKind.i64.bits
    · simp[hi]
    · have:a.testBit i=false:=Nat.testBit_lt_two_pow (Nat.lt_of_lt_of_le ha (Nat.pow_le_pow_right (by decide) (by have hb:IntKind.i64.bits=64:=rfl;omega)))
      simp[this]
  rw[e]
  have:=yac a b
  exact zau (by omega) (by omega)
theorem zwa {n d:Nat}(hn:n<2 ^ 62)(hd:d≤64):IntKind.i64.wrap ((BitVec.ofInt IntKind.i64.bits ((n:Int).fdiv (2 ^ (min ((d:Int).toNat) IntKind.i64.bits)))&&&BitVec.ofInt IntKind.i64.bits 1).toNat)=if n.testBit d then 1 else 0:=by
  have hb:IntKind.i64.bits=64:=rfl
  have hf:((n:Int).fdiv (2 ^ d))=((n / 2 ^ d:Nat):Int):=by
    rw[Int.fdiv_eq_ediv_of_nonneg _ (Int.pow_nonneg (by decide))];simp
  rw[show min ((d:Int).toNat) IntKind.i64.bits=d by rw[hb];omega,hf,hb]
  have h0:n / 2 ^ d≤n:=Nat.div_le_self _ _
  rw[Nat.testBit_eq_decide_div_mod_eq]
  generalize n / 2 ^ d=q at h0 ⊢
  have h1:(BitVec.ofInt 64 (q:Int)).toNat=q:=by
    rw[BitVec.toNat_ofInt];omega
  have h2:(BitVec.ofInt 64 1).toNat=1:=by decide
  rw[BitVec.toNat_and,h1,h2,Nat.and_one_is_mod]
  by_cases hm:q % 2=1
  · rw[hm];rfl
  · rw[show q % 2=0 by omega];rfl
end K
end Ev
end Go.Proofs.Ytlcjlcllbgjplaa

/- Package road, gone through: Weak. -/
namespace Go.Proofs.Ytlcjlcllbgjplaa
open Go
namespace Ev
namespace Ro
open K
attribute [local simp] ev1 wantG spineK spine float xnew xval xeff zaa zas zbc zaw zav addFl cellsOf pickC alive slLen slFt binI maxA maxK minA minK aeqK aeqS AV.cells spA zat fillA setAt bitsI nat_nn zbd AV.plain apart
set_option maxRecDepth 100000
set_option maxHeartbeats 4000000
def wkT (r:Rd.Road):Nat→Nat × Int
  |0=>(0,0)
  |i+1=>(Rd.weakN r i,(Rd.heightsR r (Rd.weakN r i) r.events.length).lo)
theorem zwj (r:Rd.Road):wkT r 1=(0,(Rd.heightsR r 0 r.events.length).lo):=rfl
theorem wkT_lt (r:Rd.Road){i:Nat}(h0:i≠0)(h:(Rd.heightsR r i r.events.length).lo<(wkT r i).2):wkT r (i+1)=(i,(Rd.heightsR r i r.events.length).lo):=by
  cases i with
  |zero=>exact absurd rfl h0
  |succ k=>
    have h:(Rd.heightsR r (k+1) r.events.length).lo<(Rd.heightsR r (Rd.weakN r k) r.events.length).lo:=h
    show (Rd.weakN r (k+1),_)=_
    have:Rd.weakN r (k+1)=k+1:=by rw[Rd.weakN,if_pos h]
    rw[this]
theorem wkT_ge (r:Rd.Road){i:Nat}(h0:i≠0)(h:¬ (Rd.heightsR r i r.events.length).lo<(wkT r i).2):wkT r (i+1)=wkT r i:=by
  cases i with
  |zero=>exact absurd rfl h0
  |succ k=>
    have h:¬ (Rd.heightsR r (k+1) r.events.length).lo<(Rd.heightsR r (Rd.weakN r k) r.events.length).lo:=h
    show (Rd.weakN r (k+1),_)=(Rd.weakN r k,_)
    have:Rd.weakN r (k+1)=Rd.weakN r k:=by rw[Rd.weakN,if_neg h]
    rw[this]
theorem zrv (C:Cfg)(hC:C.calm=true)(call call0:CallF)(r:Rd.Road)(hdf:C.dfk 82=some (119,true))(hHd:∀ H F is,IsFn call0 r F is H→HeadQ call r H F is)(hHs:Rd.valid r=true→HeightsC call r)
    (hF:IsFn call0 r (.fn (.func 61) [] []) true [.cells (roadCs r),.cells [.int .i64 0]]):
    Does (ev C call ([]:List AB).length none af34.body { tm:=tmA af34.ntmps (zipI 0 [.agg (roadCs r)] []),df:=[],hp:=[],tc:=[] })
      (Fin C ([]:List AB).length af34 (Ans (numRV r true (Rd.weakR r)))):=by
  have ho:=hHd [.cells (roadCs r),.cells [.int .i64 0]] _ _ hF
  unfold numRV
  unfold af34 Zq Zm Zl Zo Zs Zc Zt Zn Zi
  rcases ho with ⟨e,h1,h2,h3⟩|⟨h1,H1,xb,H2,tc,h3,h4,h5,h6⟩|⟨h1,H1,xb,mb,eb,H2,tc,h3,h4,h5,h6,h7,h8,h9,h10⟩
  · rw[h1,if_neg h2]
    clear hHd hHs hF h1
    simp only[zipI,roadCs] at *
    (repeat (first|(with_reducible apply zad;(focus ((conv=>lhs;simp[*,Nat.testBit_eq_decide_div_mod_eq])<;>exact rfl));simp only[addFl])|(with_reducible apply zbb;(focus ((conv=>lhs;simp[*,Nat.testBit_eq_decide_div_mod_eq])<;>exact rfl));(try simp only[Ops,Then]);(try dsimp only))|((with_reducible first|apply zai|apply zak|apply zah|apply zaf|apply zac|apply zaj|apply zag|apply zam|(apply zae;· simp[*,zaa])|(apply zab;· simp[*,zaa]));try simp only[Then,Ops])|simp only[Nat.reduceEqDiff,reduceIte,OutB,Then]))
    refine zbn (v:=.tup [.int .i64 0,.int .i64 e]) hdf rfl (by simp only;rfl) (by simp only[resL,resOf,zal];simp[resV,pickC]) ⟨by simp,by simp⟩
  · rw[h1,if_neg (by decide)]
    have e4:H2[1]?=some (.cells [.int .i64 0]):=h5.at rfl (by simp)
    clear hHd hHs hF h1 h5 h6
    simp only[zipI,roadCs] at *
    (repeat (first|(with_reducible apply zad;(focus ((conv=>lhs;simp[*,Nat.testBit_eq_decide_div_mod_eq])<;>exact rfl));simp only[addFl])|(with_reducible apply zbb;(focus ((conv=>lhs;simp[*,Nat.testBit_eq_decide_div_mod_eq])<;>exact rfl));(try simp only[Ops,Then]);(try dsimp only))|((with_reducible first|apply zai|apply zak|apply zah|apply zaf|apply zac|apply zaj|apply zag|apply zam|(apply zae;· simp[*,zaa])|(apply zab;· simp[*,zaa]));try simp only[Then,Ops])|simp only[Nat.reduceEqDiff,reduceIte,OutB,Then]))
    refine zbn (v:=.tup [.int .i64 0,.int .i64 10]) hdf rfl (by simp only;exact e4) (by simp only[resL,resOf,zal];simp[resV,pickC,List.getElem?_set_self (get_lt e4)]) ⟨by simp,by simp⟩
  · obtain ⟨_,hf,hcan⟩:=Rd.errR_zero h1
    rw[h1,if_pos rfl]
    have hv:Rd.valid r=true:=(Rd.valid_iff r).2 hf
    have hml:=h7.ml
    have hnp:=hf.parts
    have e0:H2[0]?=some (.cells (roadCs r)):=h5.at rfl (by simp)
    have e1:H2[1]?=some (.cells [.int .i64 0]):=h5.at rfl (by simp)
    obtain ⟨f0,f1,f2,f3,f4,f5⟩:=bk' e0
    have hHs':=hHs hv
    have hwk:(Rd.weakR r:Int)=(wkT r r.parts.length).1:=by
      obtain ⟨k,hk⟩:∃ k,r.parts.length=k+1:=⟨r.parts.length - 1,by omega⟩
      unfold Rd.weakR
      rw[hk];rfl
    rw[hwk]
    have HX:=hideP (And.intro hHs' (And.intro h7 (And.intro e0 (And.intro e1 h9))))
    clear hHd hHs hF h1 h5 h6 h7 h8 h9 h10 hv hf hcan hHs' e0 e1 hwk
    simp only[zipI,roadCs] at *
    (repeat (first|(with_reducible apply zad;(focus ((conv=>lhs;simp[*,Nat.testBit_eq_decide_div_mod_eq])<;>exact rfl));simp only[addFl])|(with_reducible apply zbb;(focus ((conv=>lhs;simp[*,Nat.testBit_eq_decide_div_mod_eq])<;>exact rfl));(try simp only[Ops,Then,OutB]);(try dsimp only))|((with_reducible first|apply zai|apply zak|apply zah|apply zaf|apply zac|apply zaj|apply zag|apply zam|(apply zae;· simp[*,zaa])|(apply zab;· simp[*,zaa]));try simp only[Then,Ops])|simp only[Nat.reduceEqDiff,reduceIte,OutB,Then]))
    with_reducible refine zba hC r.parts.length (by unfold fuelL;omega) (fun i st=>∃ hp,Rx r xb mb eb hp∧hp[0]?=some (.cells (roadCs r))∧hp[1]?=some (.cells [.int .i64 0])∧st={ tm:=tmA 37 [(16,.int .i64 i),(15,.int .i64 r.parts.length),(6,.int .i64 (wkT r i).2),(5,.int .i64 (wkT r i).1),(4,.ptr xb 0),(3,.ptr 1 0),(1,.ptr 0 0)],df:=[.call 82 [.ptr 1 0]],hp:=hp,tc:=[] }) ?_ ?_ ?_
    · refine ⟨H2,HX.out.2.1,HX.out.2.2.1,HX.out.2.2.2.1,?_⟩
      refine st_is ?_ rfl rfl ?_
      · simp[zap,zaq,wkT]
      · simp
    · clear f0 f1 f2 f3 f4 f5
      rintro i st hi ⟨hp,k1,k2,k3,rfl⟩
      obtain ⟨hHs,h7,e0,e1,h9⟩:=HX.out
      simp at h9
      obtain ⟨H3,tc3,c1,c2,c3,c4⟩:=hHs hp xb mb eb k1 i hi r.events.length (Nat.le_refl _)
      obtain ⟨f0,f1,f2,f3,f4,f5⟩:=bk' k2
      have nt:∀ j,j<2→j∉tc3:=fun j hj h=>by have:=c2 _ h;omega
      have HA:=hideP (And.intro c4 (And.intro (c3.at k2 (nt 0 (by decide))) (c3.at k3 (nt 1 (by decide)))))
      have hwi:IntKind.i64.wrap (↑i+1)=↑i+1:=zau (by omega) (by omega)
      have hcase:(i=0∧wkT r (i+1)=(0,(Rd.heightsR r i r.events.length).lo))∨(i≠0∧(Rd.heightsR r i r.events.length).lo<(wkT r i).2∧wkT r (i+1)=(i,(Rd.heightsR r i r.events.length).lo))∨(i≠0∧¬ (Rd.heightsR r i r.events.length).lo<(wkT r i).2∧wkT r (i+1)=wkT r i):=by
        by_cases h0:i=0
        · subst h0;exact .inl ⟨rfl,zwj r⟩
        · by_cases hlt:(Rd.heightsR r i r.events.length).lo<(wkT r i).2
          · exact .inr (.inl ⟨h0,hlt,wkT_lt r h0 hlt⟩)
          · exact .inr (.inr ⟨h0,hlt,wkT_ge r h0 hlt⟩)
      clear c2 c3 c4 hHs h7 e0 e1 nt k1 k3 k2
      simp only[roadCs] at f1 f2 f4 f5
      generalize Rd.heightsR r i r.events.length=sp at *
      rcases hcase with ⟨rfl,h2⟩|⟨h0,hlt,h2⟩|⟨h0,hlt,h2⟩
      · have HW:=hideP h2
        clear h2
        have hw1:IntKind.i64.wrap 1=1:=by decide
        simp only[Int.natCast_zero] at *
        (repeat (first|(with_reducible apply zad;(focus ((conv=>lhs;simp[*,Nat.testBit_eq_decide_div_mod_eq])<;>exact rfl));simp only[addFl])|((with_reducible first|apply zai|apply zak|apply zah|apply zaf|apply zac|apply zaj|apply zag|apply zam|(apply zae;· simp[*,zaa])|(apply zab;· simp[*,zaa]));try simp only[Then,Ops,OutB])|simp only[Nat.reduceEqDiff,reduceIte,OutB,Then]))
        refine ⟨_,HA.out.1,HA.out.2.1,HA.out.2.2,?_⟩
        rw[HW.out]
        refine st_is ?_ rfl rfl ?_
        · simp[zap,zaq]
        · simp
      · have h0':((i:Int)==0)=false:=by simp;omega
        have HW:=hideP h2
        clear h2
        generalize wkT r i=wt at *
        (repeat (first|(with_reducible apply zad;(focus ((conv=>lhs;simp[*,Nat.testBit_eq_decide_div_mod_eq])<;>exact rfl));simp only[addFl])|((with_reducible first|apply zai|apply zak|apply zah|apply zaf|apply zac|apply zaj|apply zag|apply zam|(apply zae;· simp[*,zaa])|(apply zab;· simp[*,zaa]));try simp only[Then,Ops,OutB])|simp only[Nat.reduceEqDiff,reduceIte,OutB,Then]))
        refine ⟨_,HA.out.1,HA.out.2.1,HA.out.2.2,?_⟩
        rw[HW.out]
        refine st_is ?_ rfl rfl ?_
        · simp[zap,zaq]
        · simp
      · have h0':((i:Int)==0)=false:=by simp;omega
        have HW:=hideP h2
        clear h2
        generalize hwt:wkT r i=wt at *
        (repeat (first|(with_reducible apply zad;(focus ((conv=>lhs;simp[*,Nat.testBit_eq_decide_div_mod_eq])<;>exact rfl));simp only[addFl])|((with_reducible first|apply zai|apply zak|apply zah|apply zaf|apply zac|apply zaj|apply zag|apply zam|(apply zae;· simp[*,zaa])|(apply zab;· simp[*,zaa]));try simp only[Then,Ops,OutB])|simp only[Nat.reduceEqDiff,reduceIte,OutB,Then]))
        refine ⟨_,HA.out.1,HA.out.2.1,HA.out.2.2,?_⟩
        rw[HW.out]
        refine st_is ?_ rfl rfl ?_
        · simp[zap,zaq]
        · simp
    · rintro st ⟨hp,k1,k2,k3,rfl⟩
      obtain ⟨g0,g1,g2,g3,g4,g5⟩:=bk' k3
      clear f0 f1 f2 f3 f4 f5 k1 k2 k3
      generalize wkT r r.parts.length=wt at *
      (repeat (first|(with_reducible apply zad;(focus ((conv=>lhs;simp[*,Nat.testBit_eq_decide_div_mod_eq])<;>exact rfl));simp only[addFl])|((with_reducible first|apply zai|apply zak|apply zah|apply zaf|apply zac|apply zaj|apply zag|apply zam|(apply zae;· simp[*,zaa])|(apply zab;· simp[*,zaa]));try simp only[Then,Ops,OutB,reduceIte])|simp only[Nat.reduceEqDiff,reduceIte,OutB,Then]))
      refine zdi (v:=.tup [.int .i64 wt.1,.int .i64 0]) (.inl rfl) hdf rfl (by simp) (by simp only[resL,resOf,zal];simp[resV,pickC,g0]) ⟨by simp,by simp⟩
end Ro
end Ev
end Go.Proofs.Ytlcjlcllbgjplaa
