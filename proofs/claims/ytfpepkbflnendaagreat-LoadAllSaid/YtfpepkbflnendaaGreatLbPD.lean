/- Package load, gone through: whether days are a plan, all of it. -/
import Derived.Test.YtfpepkbflnendaaGreatLbPC
import Derived.Test.YtfpepkbflnendaaGreatLbPB
/- Package road, gone through: open, which panics unless a road is valid. -/
namespace Go.Proofs.YtfpepkbflnendaaGreat
open Go
namespace Ev
namespace Ro
open K
attribute [local simp] ev1 wantG spineK spine float xnew xval xeff zab zae zau zah zai addFl cellsOf pickC alive slLen slFt binI maxA maxK minA minK aeqK aeqS AV.cells spA zad fillA setAt bitsI nat_nn zav AV.plain apart
set_option maxRecDepth 100000
set_option maxHeartbeats 4000000
def IsSpanC (call:CallF):Prop:=∀ (H:List AB) (s:Clm.Sp) (a b w:Int),-1000000≤a→b≤1000000→call (.fn (.func 131) [] []) [.agg [.int .i64 s.lo,.int .i64 s.hi],.int .i64 a,.int .i64 b,.int .i64 w] H=some (.ret (.bool (Rd.isSpan s a b w)),H,[])
def IsPartC (call:CallF)(r:Rd.Road):Prop:=∀ (H:List AB) (xb:Nat) (w z:AV),H[xb]?=some (.cells (roadCs r++[w,z]))→∀ n:Int,call (.fn (.func 134) [] []) [.ptr xb 0,.int .i64 n] H=some (.ret (.bool (Rd.isPart r n)),H,[])
def ifCs (v:Rd.Evt):List AV:=[ifA v]
theorem zgz (l:List Rd.Evt):l.flatMap ifCs=l.map ifA:=by
 induction l with
 |nil=>rfl
 |cons a l ih=>rw[List.flatMap_cons,ih];rfl
def OpenQ (r:Rd.Road)(is:Bool)(H:List AB)(x:CRes)(hp:List AB)(tc:List Nat):Prop:=
 tc=[]∧((Rd.valid r=false∧x=.pan (stopV 1))∨(Rd.valid r=true∧is=false∧x=.pan (stopV 2))∨(Rd.valid r=true∧is=true∧∃ xb mb eb,x=.ret (.ptr xb 0)∧Kp [] H hp∧Rx r xb mb eb hp∧H.length≤xb∧H.length≤mb∧H.length≤eb))
def headOk (r:Rd.Road):Bool:=decide (1≤r.parts.length∧r.parts.length≤4)&&decide (r.events.length≤10)
theorem zmy (r:Rd.Road):Rd.valid r=(headOk r&&r.parts.all Rd.okPart&&r.events.all (Rd.okEvt r)&&decide ((r.events.filter Rd.doubt).length≤4)):=rfl
theorem zii {r:Rd.Road}{i:Nat}{v:Rd.Evt}(hv:r.events[i]?=some v):((r.events.take (i+1)).filter Rd.doubt).length=((r.events.take i).filter Rd.doubt).length+if Rd.doubt v then 1 else 0:=by
 rw[List.take_add_one,hv]
 simp only[Option.toList_some,List.filter_append,List.length_append,List.filter_cons,List.filter_nil]
 split<;>simp
theorem ztu (C:Cfg)(hC:C.calm=true)(call:CallF)(hM:MustC call)(hS:IsSpanC call)(hWi:WithinC call)(r:Rd.Road)(hP:r.parts.length≤4→IsPartC call r)(hbig:r.parts.length≤1000000∧r.events.length≤1000000)(H:List AB)(F:AV)(is:Bool)(hF:Rd.valid r=true→∀ G xb mb eb,Kp [] H G→Rx r xb mb eb G→call F [.ptr xb 0] G=some (.ret (.bool is),G,[])):
  Wa C call H af99 [.agg (roadCs r),F]
   (Fin C H.length af99 (OpenQ r is H)):=by
 have hmt:=hM.t
 have hmf:=hM.f
 have hw1:=fun H=>hWi H (r.parts.length:Int) 1 4
 have hv:=zmy r
 unfold headOk at hv
 unfold Wa af99 Zq Zu Zm Zl Zo Zs Zd Ze Zh Zc Za Zb Zf Zg Zj Zt Zn Zi Zy
 simp only[zipI,roadCs]
 have hbigX:=hbig
 have HH:=hideP (And.intro hF (And.intro hbig (And.intro hWi (And.intro hS hP))))
 clear hF hWi hS hP
 by_cases h1:1≤r.parts.length∧r.parts.length≤4
 ·have h1':(1:Int)≤r.parts.length∧(r.parts.length:Int)≤4:=by omega
  rw[decide_eq_true h1'] at hw1
  rw[decide_eq_true h1] at hv
  by_cases h3:r.events.length≤10
  ·have h3':(r.events.length:Int)≤10:=by omega
   rw[decide_eq_true h3] at hv
   simp only[Bool.true_and] at hv
   have HV:=hideP hv
   clear hv
   refine gD ?_
   clear hw1
   have hpb:=hbigX.1
   have he10:(r.events.length:Int)≤1000:=by omega
   with_reducible refine zan hC r.parts.length (by unfold fuelL;omega) (fun i st=>∃ J,(∀ j p,j<i→r.parts[j]?=some p→Rd.okPart p=true)∧st={ tm:=tmA 151 [(26,.int .i64 i),(25,.int .i64 r.parts.length),(24,.vs 7 (r.parts.map ptE)),(5,.fn (.func 131) [] []),(2,.ptr H.length 0),(1,F)],df:=[],hp:=H++.cells [.vs 7 (r.parts.map ptE),.vs 7 (r.events.map evE)]::J,tc:=[] }) ?_ ?_ ?_
   ·refine ⟨[],by simp,?_⟩
    exact invP
   ·rintro i st hi ⟨J,hok,rfl⟩
    obtain ⟨_,_,hWi,hS,_⟩:=HH.out
    have hgp:r.parts[i]?=some r.parts[i]:=List.getElem?_eq_getElem hi
    generalize r.parts[i]=p at hgp
    have hgp':=ge_of hgp
    have hwi:IntKind.i64.wrap (↑i+1)=↑i+1:=zaf (by omega) (by omega)
    have hbad:Rd.okPart p=false→Rd.valid r=false:=fun h=>by
     rw[HV.out]
     have:r.parts.all Rd.okPart=false:=by
      rw[List.all_eq_false]
      exact ⟨p,List.mem_of_getElem? hgp,by rw[h];decide⟩
     rw[this];simp
    have hnext:Rd.okPart p=true→∀ j q,j<i+1→r.parts[j]?=some q→Rd.okPart q=true:=by
     intro ho j q hj hq
     by_cases h:j=i
     ·subst h;rw[hgp] at hq;cases hq;exact ho
     ·exact hok j q (by omega) hq
    have hw1:=fun H=>hWi H p.full 0 60
    have hok4:Rd.okPart p=(decide (0≤p.full∧p.full≤60)&&Rd.isSpan p.height 0 p.full 2&&Rd.isSpan p.stiff 1 10 2&&Rd.isSpan p.rise 0 5 2):=rfl
    have HB:=hideP (And.intro hbad (And.intro hnext hok4))
    clear hbad hnext hok4 hok hWi
    cases hb1:decide (0≤p.full∧p.full≤60) with
    |false=>
     rw[hb1] at hw1
     have hev:Rd.valid r=false:=HB.out.1 (by rw[HB.out.2.2,hb1];rfl)
     have HE:=hideP hev
     clear hev hb1 hS hgp
     refine gM ?_
     exact zbw rfl (by simp) ⟨rfl,.inl ⟨HE.out,rfl⟩⟩
    |true=>
     rw[hb1] at hw1
     have hf60:=of_decide_eq_true hb1
     have hs2:=fun H=>hS H p.height 0 p.full 2 (by decide) (by omega)
     cases hb2:Rd.isSpan p.height 0 p.full 2 with
     |false=>
      rw[hb2] at hs2
      have hev:Rd.valid r=false:=HB.out.1 (by rw[HB.out.2.2,hb2];simp)
      have HE:=hideP hev
      clear hev hb1 hb2 hS hgp hf60
      refine gM ?_
      exact zbw rfl (by simp) ⟨rfl,.inl ⟨HE.out,rfl⟩⟩
     |true=>
      rw[hb2] at hs2
      have hs3:=fun H=>hS H p.stiff 1 10 2 (by decide) (by decide)
      cases hb3:Rd.isSpan p.stiff 1 10 2 with
      |false=>
       rw[hb3] at hs3
       have hev:Rd.valid r=false:=HB.out.1 (by rw[HB.out.2.2,hb3];simp)
       have HE:=hideP hev
       clear hev hb1 hb2 hb3 hS hgp hf60
       refine gM ?_
       exact zbw rfl (by simp) ⟨rfl,.inl ⟨HE.out,rfl⟩⟩
      |true=>
       rw[hb3] at hs3
       have hs4:=fun H=>hS H p.rise 0 5 2 (by decide) (by decide)
       cases hb4:Rd.isSpan p.rise 0 5 2 with
       |false=>
        rw[hb4] at hs4
        have hev:Rd.valid r=false:=HB.out.1 (by rw[HB.out.2.2,hb4];simp)
        have HE:=hideP hev
        clear hev hb1 hb2 hb3 hb4 hS hgp hf60
        refine gM ?_
        exact zbw rfl (by simp) ⟨rfl,.inl ⟨HE.out,rfl⟩⟩
       |true=>
        rw[hb4] at hs4
        have hn:=HB.out.2.1 (by rw[HB.out.2.2,hb1,hb2,hb3,hb4];rfl)
        have HN:=hideP hn
        clear hn hb1 hb2 hb3 hb4 hS hgp hf60
        refine gM ?_
        with_reducible refine ⟨?_,HN.out,?_⟩
        rotate_left
        exact invP
   ·rintro st ⟨J,hok,rfl⟩
    have hall:r.parts.all Rd.okPart=true:=by
     rw[List.all_eq_true]
     intro p hp
     obtain ⟨j,hj⟩:=List.mem_iff_getElem?.1 hp
     exact hok j p (List.getElem?_eq_some_iff.1 hj).1 hj
    have hv:=HV.out
    rw[hall,Bool.true_and] at hv
    clear hok hall HV
    obtain ⟨hF,_,hWi,hS,hP⟩:=HH.out
    have hPi:=hP h1.2
    clear HH hP
    obtain ⟨C0,hC0⟩:∃ C0:AB,C0=.cells [.vs 7 (r.parts.map ptE),.vs 7 (r.events.map evE)]:=⟨_,rfl⟩
    obtain ⟨G,hG⟩:∃ G,G=H++C0::J:=⟨_,rfl⟩
    have h0:G[H.length]?=some (.cells [.vs 7 (r.parts.map ptE),.vs 7 (r.events.map evE)]):=by rw[hG,hC0];simp
    have hKG:Kp [] H G:=by rw[hG];exact Kp.app _ _
    rw[← hC0,← hG]
    obtain ⟨f0,f1,f2,f3,f4,f5⟩:=bk' h0
    have nG:∀ n,¬ G.length+n<H.length:=by omega
    have nG0:¬ G.length<H.length:=by omega
    have HX:=hideP (And.intro hF (And.intro hWi (And.intro hS (And.intro hPi (And.intro hv hKG)))))
    clear hF hWi hS hPi hv hKG hG hC0 J h0
    refine gD ?_
    obtain ⟨hF,hWi,hS,hPi,hv,hKG⟩:=HX.out
    obtain ⟨G3,hG3⟩:∃ G3,G3=G++[.map [],.cells [.vs 7 (r.parts.map ptE),.vs 7 (r.events.map evE),.nils,.map G.length]]:=⟨_,rfl⟩
    have hI0:G3[G.length+1]?=some (.cells [.vs 7 (r.parts.map ptE),.vs 7 (r.events.map evE),.nils,.map G.length])∧G3[G.length]?=some (.map [])∧Kp [] H G3:=⟨by rw[hG3];simp,by rw[hG3];simp,by rw[hG3];exact hKG.trans (Kp.app _ _)⟩
    have hlG:H.length<G.length:=f0
    clear hF hWi hS hPi hv hKG f0 f1 f2 f3 f4 f5 nG nG0
    have hsame:G++[.map [],.cells [.vs 7 (r.parts.map ptE),.vs 7 (r.events.map evE),.nils,.map G.length]]=G3:=hG3.symm
    clear hG3
    with_reducible refine zan hC r.events.length (by unfold fuelL;omega) (fun i st=>∃ hp W lv,Gl ifCs 1 (G.length+2) hp W (r.events.take i) lv∧hp[G.length+1]?=some (.cells [.vs 7 (r.parts.map ptE),.vs 7 (r.events.map evE),lv,.map G.length])∧hp[G.length]?=some (.map [])∧Kp [] H hp∧(∀ j v,j<i→r.events[j]?=some v→Rd.okEvt r v=true)∧st={ tm:=tmA 151 [(62,.int .i64 i),(61,.int .i64 r.events.length),(60,.vs 7 (r.events.map evE)),(9,.int .i64 ((r.events.take i).filter Rd.doubt).length),(8,.ptr (G.length+1) 0),(5,.fn (.func 131) [] []),(1,F)],df:=[],hp:=hp,tc:=[] }) ?_ ?_ ?_
    ·refine ⟨G3,[],.nils,.none,hI0.1,hI0.2.1,hI0.2.2,by simp,?_⟩
     rw[hsame]
     refine st_is ?_ rfl rfl rfl
     simp[zag,zal]
    ·clear hI0 hsame
     rintro i st hi ⟨hp,W,lv,hGl,hx,hmp,hKp,hok,rfl⟩
     obtain ⟨_,hWi,hS,hPi,hv,_⟩:=HX.out
     have hgv:r.events[i]?=some r.events[i]:=List.getElem?_eq_getElem hi
     generalize r.events[i]=v at hgv
     have hgv':=ge_of hgv
     have hwi:IntKind.i64.wrap (↑i+1)=↑i+1:=zaf (by omega) (by omega)
     have hbad:Rd.okEvt r v=false→Rd.valid r=false:=fun h=>by
      rw[hv]
      have:r.events.all (Rd.okEvt r)=false:=by
       rw[List.all_eq_false]
       exact ⟨v,List.mem_of_getElem? hgv,by rw[h];decide⟩
      rw[this];rfl
     have hnext:Rd.okEvt r v=true→∀ j q,j<i+1→r.events[j]?=some q→Rd.okEvt r q=true:=by
      intro ho j q hj hq
      by_cases h:j=i
      ·subst h;rw[hgv] at hq;cases hq;exact ho
      ·exact hok j q (by omega) hq
     have hds:=zii hgv
     have hcl:((r.events.take i).filter Rd.doubt).length≤i:=Nat.le_trans (List.length_filter_le _ _) (by simp;omega)
     have htk:r.events.take (i+1)=r.events.take i++[v]:=by rw[List.take_add_one,hgv];rfl
     obtain ⟨x0,x1,x2,x3,x4,x5⟩:=bk' hx
     obtain ⟨m0,m1,m2,m3,m4,m5⟩:=bk' hmp
     have hpi:=fun K=>hPi (hp++K) (G.length+1) lv (.map G.length) (by rw[List.getElem?_append_left x0];exact hx) v.part
     have nG0:¬ hp.length<H.length:=by have:=hKp.len;omega
     have nG:∀ n,¬ hp.length+n<H.length:=by have:=hKp.len;omega
     have hone:∀ hp' nb,hp'[G.length+1]?=some (.cells [.vs 7 (r.parts.map ptE),.vs 7 (r.events.map evE),.sl nb 0 (i+1) 1,.map G.length])→hp'[G.length]?=some (.map [])→Kp [] H hp'→hp'[nb]?=some (.cells ((r.events.take i).map ifA++[ifA v]))→G.length+2≤nb→Rd.okEvt r v=true→∀ st':St,(∃ tm,st'=⟨tm,[],hp',[]⟩∧tm=tmA 151 [(62,.int .i64 ((i+1:Nat):Int)),(61,.int .i64 r.events.length),(60,.vs 7 (r.events.map evE)),(9,.int .i64 ((r.events.take (i+1)).filter Rd.doubt).length),(8,.ptr (G.length+1) 0),(5,.fn (.func 131) [] []),(1,F)])→∃ hp W lv,Gl ifCs 1 (G.length+2) hp W (r.events.take (i+1)) lv∧hp[G.length+1]?=some (.cells [.vs 7 (r.parts.map ptE),.vs 7 (r.events.map evE),lv,.map G.length])∧hp[G.length]?=some (.map [])∧Kp [] H hp∧(∀ j v,j<i+1→r.events[j]?=some v→Rd.okEvt r v=true)∧st'={ tm:=tmA 151 [(62,.int .i64 ((i+1:Nat):Int)),(61,.int .i64 r.events.length),(60,.vs 7 (r.events.map evE)),(9,.int .i64 ((r.events.take (i+1)).filter Rd.doubt).length),(8,.ptr (G.length+1) 0),(5,.fn (.func 131) [] []),(1,F)],df:=[],hp:=hp,tc:=[] }:=by
      rintro hp' nb k1 k2 k3 k4 k5 k6 st' ⟨tm,rfl,rfl⟩
      refine ⟨hp',[nb],_,?_,k1,k2,k3,hnext k6,rfl⟩
      have:=Gl.some (f:=ifCs) (k:=1) (lo:=G.length+2) (G:=hp') nb (r.events.take (i+1)) k5 (by rw[zgz,htk,List.map_append];exact k4) (by rw[htk];simp)
      have hlen:(r.events.take (i+1)).length=i+1:=by simp;omega
      rw[hlen] at this
      exact this
     have hlen0:(r.events.take i).length=i:=by simp;omega
     have HO:=hideP hone
     have HB:=hideP hbad
     have HD:=hideP (And.intro hds htk)
     have HK:=hideP hKp
     have HGl:=hideP hGl
     clear hone hbad hds hKp hGl hnext htk hok hx hmp hv hPi
     by_cases hk0:v.kind=0
     ·have hs:=fun H=>hS H v.load 0 60 2 (by decide) (by decide)
      clear hS hWi hpi
      have hok0:Rd.okEvt r v=Rd.isSpan v.load 0 60 2:=by unfold Rd.okEvt;rw[if_pos hk0]
      cases hb:Rd.isSpan v.load 0 60 2 with
      |false=>
       rw[hb] at hs hok0
       have HE:=hideP (HB.out hok0)
       clear hok0 hb
       refine gN ?_
       exact zbw rfl (by simp;omega) ⟨rfl,.inl ⟨HE.out,rfl⟩⟩
      |true=>
       rw[hb] at hs hok0
       have hsp:=(Rd.isSpan_iff _ _ _ _).1 hb
       have hw1:IntKind.i64.wrap (v.load.hi - v.load.lo)=v.load.hi - v.load.lo:=zaf (by omega) (by omega)
       obtain ⟨dv,hdv1,hdv2,hdv3⟩:∃ dv:Nat,min 1 (v.load.hi - v.load.lo)=(dv:Int)∧dv≤1∧((r.events.take (i+1)).filter Rd.doubt).length=((r.events.take i).filter Rd.doubt).length+dv:=by
        by_cases hlt:v.load.lo<v.load.hi
        ·exact ⟨1,by omega,Nat.le_refl _,by rw[HD.out.1];simp[Rd.doubt,hk0,hlt]⟩
        ·exact ⟨0,by omega,by omega,by rw[HD.out.1];simp[Rd.doubt,hlt]⟩
       have hw2:IntKind.i64.wrap ((((r.events.take i).filter Rd.doubt).length:Int)+dv)=(((r.events.take i).filter Rd.doubt).length:Int)+dv:=zaf (by omega) (by omega)
       have hif:=ifA_0 hk0
       have HQ:=hideP (And.intro hok0 (And.intro hif hdv3))
       clear hok0 hif hdv3 hb hsp
       generalize hcnt:((r.events.take i).filter Rd.doubt).length=cnt at *
       have hb1:1≤bound:=by decide
       have hGl:=HGl.out
       obtain ⟨tt,htt⟩:∃ tt,tt=r.events.take i:=⟨_,rfl⟩
       rw[← htt] at hGl
       have HT:=hideP (And.intro htt hlen0)
       clear htt hlen0 HGl
       cases hGl with
       |none=>
        refine gK ?_
        have hi0:i=0:=by rw[← HT.out.2,← HT.out.1];rfl
        have htt:=HT.out.1
        obtain ⟨hok0,hif,hdv3⟩:=HQ.out
        refine HO.out _ (hp.length+2) ?_ ?_ ?_ ?_ (by omega) hok0 _ ⟨_,st_is rfl rfl rfl ?_,?_⟩
        ·rw[List.getElem?_append_left (by simpa using x0),List.getElem?_set_self x0,hi0]
        ·rw[List.getElem?_append_left (by simpa using m0),List.getElem?_set_ne (by omega)];exact m1
        ·exact ((HK.out.set _ _ (by omega))).trans (Kp.app _ _)
        ·rw[List.getElem?_append_right (by simp),← htt,hif];simp
        ·simp;omega
        ·rw[hdv3];simp[zag,zal]
       |some bl _ g1 g2 g3=>
        obtain ⟨q0,q1,q2,q3,q4,q5⟩:=bk' g2
        have hbb:¬ bl=G.length+1:=by omega
        have hbb2:¬ G.length+1=bl:=by omega
        have hlt:tt.length=i:=by rw[HT.out.1];exact HT.out.2
        have hbn:i+1≤bound:=by unfold bound;omega
        have hcl2:=zbk ifCs 1 (fun _=>rfl) tt
        have hcp:=zcg ifCs (fun e=>by unfold ifCs ifA;split<;>(try split)<;>rfl) tt
        have HC:=hideP (And.intro g1 g3)
        clear g1 g2 g3
        generalize hcs:tt.flatMap ifCs=cs at *
        have HC2:=hideP hcs
        clear hcs
        refine gK ?_
        have htt:=HT.out.1
        obtain ⟨hok0,hif,hdv3⟩:=HQ.out
        obtain ⟨g1,g3⟩:=HC.out
        have hcs:=HC2.out
        rw[zgz,htt] at hcs
        refine HO.out _ (hp.length+2) ?_ ?_ ?_ ?_ (by omega) hok0 _ ⟨_,st_is rfl rfl rfl ?_,?_⟩
        ·rw[List.getElem?_append_left (by simpa using x0),List.getElem?_set_self (by simpa using x0)]
        ·rw[List.getElem?_append_left (by simpa using m0),List.getElem?_set_ne (by omega),List.getElem?_set_ne (by omega)];exact m1
        ·exact (((HK.out.set _ _ (by omega)).set _ _ (by omega))).trans (Kp.app _ _)
        ·rw[List.getElem?_append_right (by simp),hif,hcs];simp
        ·simp;omega
        ·rw[hdv3];simp[zag,zal]
     ·have hk0b:(v.kind==0)=false:=by simpa using hk0
      have hd0:((r.events.take (i+1)).filter Rd.doubt).length=((r.events.take i).filter Rd.doubt).length:=by rw[HD.out.1];simp[Rd.doubt,hk0]
      by_cases hk1:v.kind=1
      ·have hs:=fun H=>hWi H v.days 1 10
       clear hS hWi hpi
       have hok1:Rd.okEvt r v=decide (1≤v.days∧v.days≤10):=by unfold Rd.okEvt;rw[if_neg hk0,if_pos hk1]
       cases hb:decide (1≤v.days∧v.days≤10) with
       |false=>
        rw[hb] at hs hok1
        have HE:=hideP (HB.out hok1)
        clear hok1 hb hd0
        refine gN ?_
        exact zbw rfl (by simp;omega) ⟨rfl,.inl ⟨HE.out,rfl⟩⟩
       |true=>
        rw[hb] at hs hok1
        have hif:=ifA_1 hk1
        have HQ:=hideP (And.intro hok1 (And.intro hif hd0))
        clear hok1 hif hd0 hb
        generalize hcnt:((r.events.take i).filter Rd.doubt).length=cnt at *
        have hb1:1≤bound:=by decide
        have hGl:=HGl.out
        obtain ⟨tt,htt⟩:∃ tt,tt=r.events.take i:=⟨_,rfl⟩
        rw[← htt] at hGl
        have HT:=hideP (And.intro htt hlen0)
        clear htt hlen0 HGl
        cases hGl with
        |none=>
         refine gK ?_
         have hi0:i=0:=by rw[← HT.out.2,← HT.out.1];rfl
         have htt:=HT.out.1
         obtain ⟨hok0,hif,hdv3⟩:=HQ.out
         refine HO.out _ (hp.length+2) ?_ ?_ ?_ ?_ (by omega) hok0 _ ⟨_,st_is rfl rfl rfl ?_,?_⟩
         ·rw[List.getElem?_append_left (by simpa using x0),List.getElem?_set_self x0,hi0]
         ·rw[List.getElem?_append_left (by simpa using m0),List.getElem?_set_ne (by omega)];exact m1
         ·exact ((HK.out.set _ _ (by omega))).trans (Kp.app _ _)
         ·rw[List.getElem?_append_right (by simp),← htt,hif];simp
         ·simp;omega
         ·rw[hdv3];simp[zag,zal]
        |some bl _ g1 g2 g3=>
         obtain ⟨q0,q1,q2,q3,q4,q5⟩:=bk' g2
         have hbb:¬ bl=G.length+1:=by omega
         have hbb2:¬ G.length+1=bl:=by omega
         have hlt:tt.length=i:=by rw[HT.out.1];exact HT.out.2
         have hbn:i+1≤bound:=by unfold bound;omega
         have hcl2:=zbk ifCs 1 (fun _=>rfl) tt
         have hcp:=zcg ifCs (fun e=>by unfold ifCs ifA;split<;>(try split)<;>rfl) tt
         have HC:=hideP (And.intro g1 g3)
         clear g1 g2 g3
         generalize hcs:tt.flatMap ifCs=cs at *
         have HC2:=hideP hcs
         clear hcs
         refine gK ?_
         have htt:=HT.out.1
         obtain ⟨hok0,hif,hdv3⟩:=HQ.out
         obtain ⟨g1,g3⟩:=HC.out
         have hcs:=HC2.out
         rw[zgz,htt] at hcs
         refine HO.out _ (hp.length+2) ?_ ?_ ?_ ?_ (by omega) hok0 _ ⟨_,st_is rfl rfl rfl ?_,?_⟩
         ·rw[List.getElem?_append_left (by simpa using x0),List.getElem?_set_self (by simpa using x0)]
         ·rw[List.getElem?_append_left (by simpa using m0),List.getElem?_set_ne (by omega),List.getElem?_set_ne (by omega)];exact m1
         ·exact (((HK.out.set _ _ (by omega)).set _ _ (by omega))).trans (Kp.app _ _)
         ·rw[List.getElem?_append_right (by simp),hif,hcs];simp
         ·simp;omega
         ·rw[hdv3];simp[zag,zal]
      ·have hk1b:(v.kind==1)=false:=by simpa using hk1
       have hs:=fun H=>hS H v.shows (-1000) 1000 2000 (by decide) (by decide)
       clear hS hWi
       have hok2:Rd.okEvt r v=(decide (v.kind=2)&&Rd.isPart r v.part&&Rd.isSpan v.shows (-1000) 1000 2000):=by unfold Rd.okEvt;rw[if_neg hk0,if_neg hk1];rfl
       by_cases hk2:v.kind=2
       ·rw[decide_eq_true hk2,Bool.true_and] at hok2
        cases hb1:Rd.isPart r v.part with
        |false=>
         rw[hb1] at hpi hok2
         have HE:=hideP (HB.out hok2)
         clear hok2 hb1 hd0
         refine gN ?_
         exact zbw rfl (by simp;omega) ⟨rfl,.inl ⟨HE.out,rfl⟩⟩
        |true=>
         rw[hb1] at hpi hok2
         cases hb:Rd.isSpan v.shows (-1000) 1000 2000 with
         |false=>
          rw[hb] at hs hok2
          have HE:=hideP (HB.out hok2)
          clear hok2 hb hb1 hd0
          refine gN ?_
          exact zbw rfl (by simp;omega) ⟨rfl,.inl ⟨HE.out,rfl⟩⟩
         |true=>
          rw[hb] at hs hok2
          have hif:=ifA_2 hk2
          have HQ:=hideP (And.intro hok2 (And.intro hif hd0))
          clear hok2 hif hd0 hb hb1
          generalize hcnt:((r.events.take i).filter Rd.doubt).length=cnt at *
          have hb1:1≤bound:=by decide
          have hGl:=HGl.out
          obtain ⟨tt,htt⟩:∃ tt,tt=r.events.take i:=⟨_,rfl⟩
          rw[← htt] at hGl
          have HT:=hideP (And.intro htt hlen0)
          clear htt hlen0 HGl
          cases hGl with
          |none=>
           refine gK ?_
           have hi0:i=0:=by rw[← HT.out.2,← HT.out.1];rfl
           have htt:=HT.out.1
           obtain ⟨hok0,hif,hdv3⟩:=HQ.out
           refine HO.out _ (hp.length+2) ?_ ?_ ?_ ?_ (by omega) hok0 _ ⟨_,st_is rfl rfl rfl ?_,?_⟩
           ·rw[List.getElem?_append_left (by simpa using x0),List.getElem?_set_self x0,hi0]
           ·rw[List.getElem?_append_left (by simpa using m0),List.getElem?_set_ne (by omega)];exact m1
           ·exact ((HK.out.set _ _ (by omega))).trans (Kp.app _ _)
           ·rw[List.getElem?_append_right (by simp),← htt,hif];simp
           ·simp;omega
           ·rw[hdv3];simp[zag,zal]
          |some bl _ g1 g2 g3=>
           obtain ⟨q0,q1,q2,q3,q4,q5⟩:=bk' g2
           have hbb:¬ bl=G.length+1:=by omega
           have hbb2:¬ G.length+1=bl:=by omega
           have hlt:tt.length=i:=by rw[HT.out.1];exact HT.out.2
           have hbn:i+1≤bound:=by unfold bound;omega
           have hcl2:=zbk ifCs 1 (fun _=>rfl) tt
           have hcp:=zcg ifCs (fun e=>by unfold ifCs ifA;split<;>(try split)<;>rfl) tt
           have HC:=hideP (And.intro g1 g3)
           clear g1 g2 g3
           generalize hcs:tt.flatMap ifCs=cs at *
           have HC2:=hideP hcs
           clear hcs
           refine gK ?_
           have htt:=HT.out.1
           obtain ⟨hok0,hif,hdv3⟩:=HQ.out
           obtain ⟨g1,g3⟩:=HC.out
           have hcs:=HC2.out
           rw[zgz,htt] at hcs
           refine HO.out _ (hp.length+2) ?_ ?_ ?_ ?_ (by omega) hok0 _ ⟨_,st_is rfl rfl rfl ?_,?_⟩
           ·rw[List.getElem?_append_left (by simpa using x0),List.getElem?_set_self (by simpa using x0)]
           ·rw[List.getElem?_append_left (by simpa using m0),List.getElem?_set_ne (by omega),List.getElem?_set_ne (by omega)];exact m1
           ·exact (((HK.out.set _ _ (by omega)).set _ _ (by omega))).trans (Kp.app _ _)
           ·rw[List.getElem?_append_right (by simp),hif,hcs];simp
           ·simp;omega
           ·rw[hdv3];simp[zag,zal]
       ·have hk2b:(v.kind==2)=false:=by simpa using hk2
        rw[decide_eq_false hk2] at hok2
        have HE:=hideP (HB.out hok2)
        clear hok2 hd0
        refine gN ?_
        exact zbw rfl (by simp;omega) ⟨rfl,.inl ⟨HE.out,rfl⟩⟩
    ·clear hI0 hsame
     rintro st ⟨hp,W,lv,hGl,hx,hmp,hKp,hok,rfl⟩
     obtain ⟨hF,_,_,_,hv,_⟩:=HX.out
     rw[List.take_length] at hGl ⊢
     have hall:r.events.all (Rd.okEvt r)=true:=by
      rw[List.all_eq_true]
      intro v hv'
      obtain ⟨j,hj⟩:=List.mem_iff_getElem?.1 hv'
      exact hok j v (List.getElem?_eq_some_iff.1 hj).1 hj
     rw[hall,Bool.true_and] at hv
     have hl:=hKp.len
     by_cases hd:(r.events.filter Rd.doubt).length≤4
     ·rw[decide_eq_true hd] at hv
      obtain ⟨eb,hRx,heb⟩:∃ eb,Rx r (G.length+1) G.length eb hp∧H.length≤eb:=by
       have hel:=evL
       by_cases hn:r.events=[]
       ·refine ⟨G.length+1,⟨by omega,by omega,?_,fun h=>absurd hn h,get_lt hx,[],hmp,by intro p hp;cases hp⟩,by omega⟩
        have:lv=.nils:=by
         rw[hn] at hGl
         cases hGl with
         |none=>rfl
         |some _ _ _ _ h=>exact absurd rfl h
        rw[hx,this]
        simp[roadCs,evL,hn]
       ·generalize hev:r.events=ev' at *
        cases hGl with
        |none=>exact absurd rfl hn
        |some b _ g1 g2 g3=>
         refine ⟨b,⟨by omega,by omega,?_,fun _=>?_,get_lt g2,[],hmp,by intro p hp;cases hp⟩,by omega⟩
         ·rw[hx]
          simp[roadCs,evL,hev,hn]
         ·rw[g2,zgz,hev]
      have hF2:=hF hv hp (G.length+1) G.length eb hKp hRx
      have HQ:=hideP (And.intro hv (And.intro hKp (And.intro hRx heb)))
      have hd':((r.events.filter Rd.doubt).length:Int)≤4:=by omega
      clear hF hv hKp hok hRx heb HX hGl hx hmp hall
      generalize (r.events.filter Rd.doubt).length=cnt at *
      cases is with
      |false=>
       refine gD ?_
       exact zbw rfl (by simp;omega) ⟨rfl,.inr (.inl ⟨HQ.out.1,rfl,rfl⟩)⟩
      |true=>
       refine gD ?_
       obtain ⟨k1,k2,k3,k4⟩:=HQ.out
       exact zmg (v:=.ptr (G.length+1) 0) (.inl rfl) rfl (by simp;omega) (by simp only[resL,resOf,zaa];simp[*,resV]) ⟨rfl,.inr (.inr ⟨k1,rfl,_,_,eb,rfl,k2,k3,by omega,by omega,k4⟩)⟩
     ·rw[decide_eq_false hd] at hv
      have HQ:=hideP hv
      have hd':¬ ((r.events.filter Rd.doubt).length:Int)≤4:=by omega
      clear hF hv hKp hok HX hGl hx hmp hall hd
      generalize (r.events.filter Rd.doubt).length=cnt at *
      refine gD ?_
      exact zbw rfl (by simp;omega) ⟨rfl,.inl ⟨HQ.out,rfl⟩⟩
  ·have h3':¬ (r.events.length:Int)≤10:=by omega
   rw[decide_eq_false h3] at hv
   have HV:=hideP hv
   clear hv
   refine gD ?_
   exact zbw rfl (by simp) ⟨rfl,.inl ⟨by rw[HV.out];rfl,rfl⟩⟩
 ·have h1':¬ ((1:Int)≤r.parts.length∧(r.parts.length:Int)≤4):=by omega
  rw[decide_eq_false h1'] at hw1
  rw[decide_eq_false h1] at hv
  have HV:=hideP hv
  clear hv
  refine gD ?_
  exact zbw rfl (by simp) ⟨rfl,.inl ⟨by rw[HV.out];rfl,rfl⟩⟩
theorem zdr {C:Cfg}{n f:Nat}{fn:AFunc}{first captured args:List AV}{H:List AB}{v0:AV}(hc:C.calm=true)(hwh:∀ f,C.whole f=true)(h0:Has C f fn)(hlen:(first++args++captured).length≤fn.ntmps)(hv:refs v0=[]){r:Rd.Road}{xb mb eb:Nat}(hX:Rx r xb mb eb H)
  (h:Does (ev C (Ev.call C n) H.length none fn.body { tm:=tmA fn.ntmps (zipI 0 (first++args++captured) []),df:=[],hp:=H,tc:=[] }) (Ends C H.length fn.res fun v hp tc=>v=v0∧(∀ j∈tc,j=mb)∧Rx r xb mb eb hp)):
  ∃ H' tc,Ev.call C (n+1) (.fn (.func f) first captured) args H=some (.ret v0,H',tc)∧(∀ j∈tc,j=mb)∧Kp tc H H'∧Rx r xb mb eb H':=by
 obtain ⟨v,hp,tc,H',c1,⟨rfl,c2,c3⟩,c4,c5,c6,c7⟩:=zcw hc hwh h0 hlen h
 refine ⟨H',tc,c1,c2,c5,?_⟩
 by_cases ht:tc=[]
 ·rw[c7 hv ht];exact hX
 ·rw[c6 (.inr ht)];exact c3
def CanC (call:CallF)(r:Rd.Road):Prop:=∀ (H:List AB) (xb mb eb:Nat),Rx r xb mb eb H→∀ looks:Nat,∃ H' tc,call (.fn (.func 135) [] []) [.ptr xb 0,.int .u64 looks] H=some (.ret (.bool (Rd.canR r looks)),H',tc)∧(∀ j∈tc,j=mb)∧Kp tc H H'∧Rx r xb mb eb H'
def KnownC (call:CallF)(r:Rd.Road):Prop:=∀ (H:List AB) (xb mb eb:Nat),Rx r xb mb eb H →
 ∃ H' tc,(∀ j∈tc,j=mb)∧Kp tc H H'∧Rx r xb mb eb H'∧call (.fn (.func 102) [] []) [.ptr xb 0] H=some (if Rd.canR r (Rd.everyR r) then .ret (.ptr xb 0) else .pan (.iface 161 (.agg [.int .i64 10])),H',tc)
theorem zqc (C:Cfg)(call:CallF)(hM:MustC call)(r:Rd.Road)(hE:EveryC call r)(hCa:CanC call r)(H:List AB)(xb mb eb:Nat)(hX:Rx r xb mb eb H):
  Wa C call H af102 [.ptr xb 0]
   (Fin C H.length af102 fun x hp tc=>(∀ j∈tc,j=mb)∧Kp tc H hp∧Rx r xb mb eb hp∧x=(if Rd.canR r (Rd.everyR r) then .ret (.ptr xb 0) else .pan (.iface 161 (.agg [.int .i64 10])))):=by
 obtain ⟨H',tc,c1,c2,c3,c4⟩:=hCa H xb mb eb hX (Rd.everyR r)
 have hev:=hE H xb _ _ hX.x
 have hmt:=hM.t
 have hmf:=hM.f
 have hm:=hX.ml
 have HQ:=hideP (And.intro c2 (And.intro c3 c4))
 have hl:H.length≤H'.length:=c3.len
 unfold Wa af102 Zq Zm Zo Zc Zt Zn
 simp only[zipI]
 clear hE hCa hX hM c2 c3 c4
 have key:(∀ j∈tc.filter (·<H.length),j=mb)∧Kp (tc.filter (·<H.length)) H H'∧Rx r xb mb eb H':=⟨fun j hj=>HQ.out.1 j (List.mem_filter.1 hj).1,HQ.out.2.1.mono fun j hj h=>List.mem_filter.2 ⟨h,by simpa using hj⟩,HQ.out.2.2⟩
 have HK:=hideP key
 clear key HQ
 cases hc:Rd.canR r (Rd.everyR r) with
 |true=>
  rw[hc] at c1
  refine gD ?_
  exact zmg (v:=.ptr xb 0) (.inl rfl) rfl (by simp only;omega) (by simp only[resL,resOf,zaa];simp[*,resV]) ⟨HK.out.1,HK.out.2.1,HK.out.2.2,rfl⟩
 |false=>
  rw[hc] at c1
  refine gD ?_
  exact zbw rfl (by simp only;omega) ⟨HK.out.1,HK.out.2.1,HK.out.2.2,rfl⟩
def OpenC (call call0:CallF)(r:Rd.Road):Prop:=∀ (H:List AB) (F:AV) (is:Bool),(Rd.valid r=true→∀ G xb mb eb,Kp [] H G→Rx r xb mb eb G→call0 F [.ptr xb 0] G=some (.ret (.bool is),G,[])) →
 (Rd.valid r=false∧call (.fn (.func 99) [] []) [.agg [.vs 7 (r.parts.map ptE),.vs 7 (r.events.map evE)],F] H=some (.pan (stopV 1),H,[]))∨(Rd.valid r=true∧is=false∧call (.fn (.func 99) [] []) [.agg [.vs 7 (r.parts.map ptE),.vs 7 (r.events.map evE)],F] H=some (.pan (stopV 2),H,[])) ∨
 (Rd.valid r=true∧is=true∧∃ H' xb mb eb,call (.fn (.func 99) [] []) [.agg [.vs 7 (r.parts.map ptE),.vs 7 (r.events.map evE)],F] H=some (.ret (.ptr xb 0),H',[])∧Kp [] H H'∧Rx r xb mb eb H'∧H.length≤xb∧H.length≤mb∧H.length≤eb)
def HeadQ (call:CallF)(r:Rd.Road)(H:List AB)(F:AV)(is:Bool):Prop:=
 (∃ e,Rd.errR r is=e∧e≠0∧call (.fn (.func 99) [] []) [.agg [.vs 7 (r.parts.map ptE),.vs 7 (r.events.map evE)],F] H=some (.pan (.iface 161 (.agg [.int .i64 e])),H,[])) ∨
 (Rd.errR r is=10∧∃ H1 xb H2 tc,call (.fn (.func 99) [] []) [.agg [.vs 7 (r.parts.map ptE),.vs 7 (r.events.map evE)],F] H=some (.ret (.ptr xb 0),H1,[])∧call (.fn (.func 102) [] []) [.ptr xb 0] H1=some (.pan (.iface 161 (.agg [.int .i64 10])),H2,tc)∧Kp [] H H2∧∀ j∈tc,H.length≤j) ∨
 (Rd.errR r is=0∧∃ H1 xb mb eb H2 tc,call (.fn (.func 99) [] []) [.agg [.vs 7 (r.parts.map ptE),.vs 7 (r.events.map evE)],F] H=some (.ret (.ptr xb 0),H1,[])∧call (.fn (.func 102) [] []) [.ptr xb 0] H1=some (.ret (.ptr xb 0),H2,tc)∧Kp [] H H2∧(∀ j∈tc,j=mb)∧Rx r xb mb eb H2∧H.length≤xb∧H.length≤mb∧H.length≤eb)
theorem yaf {call call0:CallF}{r:Rd.Road}(hO:OpenC call call0 r)(hK:Rd.valid r=true→KnownC call r)(H:List AB)(F:AV)(is:Bool)(hF:Rd.valid r=true→∀ G xb mb eb,Kp [] H G→Rx r xb mb eb G→call0 F [.ptr xb 0] G=some (.ret (.bool is),G,[])):HeadQ call r H F is:=by
 rcases hO H F is hF with ⟨h1,h2⟩|⟨h1,h2,h3⟩|⟨h1,h2,H1,xb,mb,eb,h3,h4,h5,h6,h7,h8⟩
 ·exact .inl ⟨1,by simp[Rd.errR,h1],by decide,h2⟩
 ·exact .inl ⟨2,by simp[Rd.errR,h1,h2],by decide,h3⟩
 ·obtain ⟨H2,tc,k1,k2,k3,k4⟩:=hK h1 H1 xb mb eb h5
  have kk:Kp [] H H2:=⟨by have:=h4.len;have:=k2.len;omega,fun b hb _=>by rw[k2.get b (by have:=h4.len;omega) (fun h=>by have:=k1 b h;omega)];exact h4.get b hb (by simp)⟩
  cases hc:Rd.canR r (Rd.everyR r) with
  |true=>
   rw[hc] at k4
   exact .inr (.inr ⟨by simp[Rd.errR,h1,h2,hc],H1,xb,mb,eb,H2,tc,h3,k4,kk,k1,k3,h6,h7,h8⟩)
  |false=>
   rw[hc] at k4
   exact .inr (.inl ⟨by simp[Rd.errR,h1,h2,hc],H1,xb,H2,tc,h3,k4,kk,fun j hj=>by rw[k1 j hj];exact h7⟩)
def numRV (r:Rd.Road)(is:Bool)(n:Int):AV:=.tup [.int .i64 (if Rd.errR r is=0 then n else 0),.int .i64 (Rd.errR r is)]
def heightG (r:Rd.Road)(many:Nat)(w:Rd.Way)(ls:List Int):Clm.Sp:=⟨Rd.heightR r w.part w.first.lo ls many,Rd.heightR r w.part w.first.hi ls many⟩
theorem zks (C:Cfg)(call:CallF)(r:Rd.Road)(hH:HeightC call r)(H:List AB)(xb mb eb:Nat)(hX:Rx r xb mb eb H)(w:Rd.Way)(hp:TrOk w.part)(hw:0≤w.first.lo∧w.first.lo≤60∧0≤w.first.hi∧w.first.hi≤60)(f:Nat→Int)(hf:LdOk f)(many:Nat)(hm:many≤r.events.length)(b1 b2:Nat)(h1:H[b1]?=some (.cells [.ptr xb 0]))(h2:H[b2]?=some (.cells [.int .i64 many])):
  Wb C call H af167 [.agg (wayCs w),.agg (arr10 f),.ptr b1 0,.ptr b2 0]
   (fun v _hp tc=>v=spA (heightG r many w (lsOf r.events.length f))∧tc=[]):=by
 have c1:=fun K=>hH (H++K) xb mb eb (hX.app K) w.part hp w.first.lo (by omega) (by omega) f hf many hm
 have c2:=fun K=>hH (H++K) xb mb eb (hX.app K) w.part hp w.first.hi (by omega) (by omega) f hf many hm
 obtain ⟨x0,x1,x2,x3,x4,x5⟩:=bk' h1
 obtain ⟨y0,y1,y2,y3,y4,y5⟩:=bk' h2
 unfold heightG
 have hl:=zbg f
 have hall:=zbs f
 generalize Rd.heightR r w.part w.first.lo (lsOf r.events.length f) many=u at *
 generalize Rd.heightR r w.part w.first.hi (lsOf r.events.length f) many=z at *
 clear hH h1 h2 hX hp hw hf hm
 unfold Wb Wa af167 Zq Zr Zl Zo Zd Ze Zc Zf Zg Zt Zi
 generalize arr10 f=R at *
 simp only[zipI,wayCs] at *
 refine gG ?_
 refine zac (v:=spA ⟨u,z⟩) (.inl rfl) rfl (by simp) (by simp only[zai];simp only[resL,resOf,zaa];simp[pickC,resV,spA]) ⟨rfl,by simp⟩
def SpanC (call call0:CallF)(r:Rd.Road):Prop:=∀ (H:List AB) (xb mb eb:Nat),Rx r xb mb eb H→∀ n,n<r.parts.length→∀ (fl:Fn) (fa fb:List AV) (g:Rd.Way→List Int→Clm.Sp),WayF call0 (.fn fl fa fb) r xb mb eb n H g →
 ∃ H' tc,call (.fn (.func 166) [] []) [.ptr xb 0,.int .i64 n,.fn fl fa fb] H=some (.ret (.agg [.int .i64 (Rd.spanR r n g).lo,.int .i64 (Rd.spanR r n g).hi]),H',tc)∧(∀ j∈tc,j=mb)∧Kp tc H H'∧Rx r xb mb eb H'
def Heights1C (call:CallF)(r:Rd.Road):Prop:=∀ (H:List AB) (xb mb eb:Nat),Rx r xb mb eb H→∀ w:Rd.Way,TrOk w.part→0≤w.first.lo∧w.first.lo≤60∧0≤w.first.hi∧w.first.hi≤60→∀ f,LdOk f→∀ many,many≤r.events.length→∀ b1 b2:Nat,H[b1]?=some (.cells [.ptr xb 0])→H[b2]?=some (.cells [.int .i64 many]) →
 call (.fn (.func 167) [] [.ptr b1 0,.ptr b2 0]) [.agg (wayCs w),.agg (arr10 f)] H=some (.ret (.agg [.int .i64 (heightG r many w (lsOf r.events.length f)).lo,.int .i64 (heightG r many w (lsOf r.events.length f)).hi]),H,[])
theorem zkq (C:Cfg)(call call0:CallF)(r:Rd.Road)(hr:Rd.Fine r)(hSp:SpanC call call0 r)(hH1:Heights1C call0 r)(H:List AB)(xb mb eb:Nat)(hX:Rx r xb mb eb H)(n:Nat)(hn:n<r.parts.length)(many:Nat)(hm:many≤r.events.length):
  Wb C call H af147 [.ptr xb 0,.int .i64 n,.int .i64 many]
   (fun v hp tc=>v=spA (Rd.heightsR r n many)∧(∀ j∈tc,j=mb)∧Rx r xb mb eb hp):=by
 obtain ⟨H', tc, c1, c2, c3, c4⟩ := hSp (H ++ [.cells [.ptr xb 0], .cells [.int .i64 many], .cells [.int .i64 0, .int .i64 0]]) xb mb eb (hX.app _) n hn (.func 167) [] [.ptr H.length 0, .ptr (H.length + 1) 0] (heightG r many) (by
  intro G k hG ls hls w hw
  obtain ⟨hld,he⟩:=all_ld hr hls
  obtain ⟨o1,o2,o3,o4⟩:=way_ok hr hn hw
  have hm':=hX.ml
  have:=hH1 G xb mb eb hG w o1 (by omega) (fnOf ls) hld many hm H.length (H.length+1) (k.at (by simp) (by simp;omega)) (k.at (by simp) (by simp;omega))
  rw[he] at this
  exact this)
 have hs:Rd.spanR r n (heightG r many)=Rd.heightsR r n many:=rfl
 rw[hs] at c1
 have hx:=hX.xl;have hml:=hX.ml;have hel:=hX.el
 have e6:H'[H.length+2]?=some (.cells [.int .i64 0,.int .i64 0]):=c3.at (by simp) (fun h=>by have:=c2 _ h;omega)
 obtain ⟨x0,x1,x2,x3,x4,x5⟩:=bk' e6
 have hl:=c3.len
 have HQ:=hideP (And.intro c2 (And.intro c4 hl))
 clear hSp hH1 hX hs c2 c3 c4 hn hm e6 hl
 generalize Rd.heightsR r n many=sp at *
 unfold Wb Wa af147 Zq Zm Zl Zo Zs Zc Zt Zi
 simp only[zipI]
 refine gA ?_
 obtain ⟨c2,c4,hl⟩:=HQ.out
 refine zac (v:=spA sp) (.inl rfl) rfl (by simp at hl ⊢;omega) (by simp only[resL,resOf,zaa];simp[resV,pickC,spA,x0]) ⟨rfl,fun j hj=>?_,c4.kp ((Kp.refl [H.length+2] H').set _ _ (by simp)) (by simp;omega) (by simp;omega) (by simp;omega)⟩
 simp at hj
 first|(rcases hj with h|h<;>first|omega|exact c2 j h.1|exact c2 j h)|exact c2 j hj.1
def HeightsC (call:CallF)(r:Rd.Road):Prop:=∀ (H:List AB) (xb mb eb:Nat),Rx r xb mb eb H→∀ n,n<r.parts.length→∀ many,many≤r.events.length →
 ∃ H' tc,call (.fn (.func 147) [] []) [.ptr xb 0,.int .i64 n,.int .i64 many] H=some (.ret (.agg [.int .i64 (Rd.heightsR r n many).lo,.int .i64 (Rd.heightsR r n many).hi]),H',tc)∧(∀ j∈tc,j=mb)∧Kp tc H H'∧Rx r xb mb eb H'
def IsFn (call:CallF)(r:Rd.Road)(F:AV)(is:Bool)(H:List AB):Prop:=Rd.valid r=true→∀ G xb mb eb,Kp [] H G→Rx r xb mb eb G→call F [.ptr xb 0] G=some (.ret (.bool is),G,[])
theorem zkn {n d:Int}(h:Rd.isLoad n=true)(d0:0≤d)(d1:d≤10):LOk d n:=by
 have:=of_decide_eq_true h
 exact ⟨d0,d1,by omega,by omega⟩
def IsLoadC (call:CallF):Prop:=∀ (H:List AB) (n:Int),call (.fn (.func 101) [] []) [.int .i64 n] H=some (.ret (.bool (Rd.isLoad n)),H,[])
theorem zrj (C:Cfg)(call:CallF)(hE:IsLoadC call)(H:List AB)(v:AV)(load:Int)(b1:Nat)(h1:H[b1]?=some (.cells [.int .i64 load])):
  Wb C call H af100 [v,.ptr b1 0]
   (fun v _hp tc=>v=.bool (Rd.isLoad load)∧tc=[]):=by
 have c2:=fun H=>hE H load
 obtain ⟨x0,x1,x2,x3,x4,x5⟩:=bk' h1
 clear hE h1
 unfold Wb Wa af100 Zq Zm Zl Zo Zc Zt Zy
 simp only[zipI]
 refine gA ?_
 exact zac (.inl rfl) rfl (by simp) (by simp only[resL,resOf,zaa];simp[*,resV]) ⟨rfl,rfl⟩
def SureC (call:CallF)(r:Rd.Road):Prop:=∀ (H:List AB) (xb mb eb:Nat),Rx r xb mb eb H→∀ days load:Int,LOk days load→∃ H' tc,call (.fn (.func 103) [] []) [.ptr xb 0,.int .i64 days,.int .i64 load] H=some (.ret (.bool (Rd.sureR r days load)),H',tc)∧(∀ j∈tc,j=mb)∧Kp tc H H'∧Rx r xb mb eb H'
def MayC (call:CallF)(r:Rd.Road):Prop:=∀ (H:List AB) (xb mb eb:Nat),Rx r xb mb eb H→∀ load:Int,LOk 0 load→∃ H' tc,call (.fn (.func 104) [] []) [.ptr xb 0,.int .i64 load] H=some (.ret (.bool (Rd.mayR r load)),H',tc)∧(∀ j∈tc,j=mb)∧Kp tc H H'∧Rx r xb mb eb H'
theorem zri (C:Cfg)(call call0:CallF)(r:Rd.Road)(hdf:C.dfk 97=some (161,true))(hHd:∀ H F is,IsFn call0 r F is H→HeadQ call r H F is)(hSu:Rd.valid r=true→SureC call r)(hMa:Rd.valid r=true→MayC call r)(load:Int)
  (hF:IsFn call0 r (.fn (.func 100) [] [.ptr 1 0]) (Rd.isLoad load) [.cells (roadCs r),.cells [.int .i64 load],.cells [.int .i64 0]]):
  Wa C call [] af36 [.agg (roadCs r),.int .i64 load]
   (Fin C ([]:List AB).length af36 (Ans (numRV r (Rd.isLoad load) (Rd.bearsR r load)))):=by
 have ho:=hHd [.cells (roadCs r),.cells [.int .i64 load],.cells [.int .i64 0]] _ _ hF
 unfold numRV
 generalize hb:Rd.isLoad load=is at *
 unfold Wa af36 Zq Zu Zm Zl Zo Zs Zc Zg Zt Zn Zi
 rcases ho with ⟨e,h1,h2,h3⟩|⟨h1,H1,xb,H2,tc,h3,h4,h5,h6⟩|⟨h1,H1,xb,mb,eb,H2,tc,h3,h4,h5,h6,h7,h8,h9,h10⟩
 ·rw[h1,if_neg h2]
  clear hHd hSu hMa hF h1 hb
  simp only[zipI,roadCs] at *
  refine gD ?_
  refine zbl (v:=.tup [.int .i64 0,.int .i64 e]) hdf rfl (by simp only;rfl) (by simp only[resL,resOf,zaa];simp[resV,pickC]) ⟨by simp,by simp⟩
 ·rw[h1,if_neg (by decide)]
  have e4:H2[2]?=some (.cells [.int .i64 0]):=h5.at rfl (by simp)
  clear hHd hSu hMa hF h1 hb h5 h6
  simp only[zipI,roadCs] at *
  refine gD ?_
  refine zbl (v:=.tup [.int .i64 0,.int .i64 10]) hdf rfl (by simp only;exact e4) (by simp only[resL,resOf,zaa];simp[resV,pickC,List.getElem?_set_self (get_lt e4)]) ⟨by simp,by simp⟩
 ·obtain ⟨hi,hf,hcan⟩:=Rd.errR_zero h1
  subst hi
  rw[h1,if_pos rfl]
  have hv:Rd.valid r=true:=(Rd.valid_iff r).2 hf
  have hL:=zkn (d:=0) hb (by decide) (by decide)
  obtain ⟨H3,tc3,k1,k2,k3,k4⟩:=hSu hv H2 xb mb eb h7 0 load hL
  obtain ⟨H4,tc4,q1,q2,q3,q4⟩:=hMa hv H3 xb mb eb k4 load hL
  have e1:H2[1]?=some (.cells [.int .i64 load]):=h5.at rfl (by simp)
  have e3:H3[1]?=some (.cells [.int .i64 load]):=k3.at e1 (fun h=>by have:=k2 _ h;simp at h9;omega)
  have d3:H3[2]?=some (.cells [.int .i64 0]):=k3.at (h5.at rfl (by simp)) (fun h=>by have:=k2 _ h;simp at h9;omega)
  have d4:H4[2]?=some (.cells [.int .i64 0]):=q3.at d3 (fun h=>by have:=q2 _ h;simp at h9;omega)
  obtain ⟨a0,a1,a2,a3,a4,a5⟩:=bk' e1
  obtain ⟨b0,b1,b2,b3,b4,b5⟩:=bk' e3
  obtain ⟨f0,f1,f2,f3,f4,f5⟩:=bk' d3
  obtain ⟨g0,g1,g2,g3,g4,g5⟩:=bk' d4
  have hbr:Rd.bearsR r load=if Rd.sureR r 0 load then 2 else if Rd.mayR r load then 1 else 0:=rfl
  rw[hbr]
  clear hHd hSu hMa hF h1 hb h5 h6 h7 h8 h9 h10 hv hf hcan k2 k3 k4 q2 q3 q4 e1 e3 d3 d4 hL hbr
  simp only[zipI,roadCs] at *
  cases hs:Rd.sureR r 0 load with
  |true=>
   rw[hs] at k1
   refine gA ?_
   refine zdk (v:=.tup [.int .i64 2,.int .i64 0]) (.inl rfl) hdf rfl (by simp) (by simp only[resL,resOf,zaa];simp[resV,pickC,f0]) ⟨rfl,by simp⟩
  |false=>
   rw[hs] at k1
   cases hm:Rd.mayR r load with
   |true=>
    rw[hm] at q1
    refine gA ?_
    refine zdk (v:=.tup [.int .i64 1,.int .i64 0]) (.inl rfl) hdf rfl (by simp) (by simp only[resL,resOf,zaa];simp[resV,pickC,g0]) ⟨rfl,by simp⟩
   |false=>
    rw[hm] at q1
    refine gA ?_
    refine zdk (v:=.tup [.int .i64 0,.int .i64 0]) (.inl rfl) hdf rfl (by simp) (by simp only[resL,resOf,zaa];simp[resV,pickC,g0]) ⟨rfl,by simp⟩
end Ro
end Ev
namespace Ld
theorem yfb (p:List Int)(d i:Nat):((List.range (i+1)).filter fun i=>p.getD i 0==(d:Int))=((List.range i).filter fun i=>p.getD i 0==(d:Int))++(if p.getD i 0=(d:Int) then [i] else []):=by
 rw[List.range_succ,List.filter_append]
 congr 1
 by_cases h:p.getD i 0=(d:Int)
 ·rw[if_pos h];simp only[List.filter_cons,List.filter_nil,h,beq_self_eq_true,if_true]
 ·rw[if_neg h];simp only[List.filter_cons,List.filter_nil,beq_eq_false_iff_ne.2 h,Bool.false_eq_true,if_false]
def ordT (p:List Int)(d i:Nat):List Nat:=(List.range d).flatMap (onDay p)++(List.range i).filter fun i=>p.getD i 0==(d:Int)
theorem ordT_succ (p:List Int)(d i:Nat):ordT p d (i+1)=ordT p d i++(if p.getD i 0=(d:Int) then [i] else []):=by
 unfold ordT
 rw[yfb,List.append_assoc]
theorem ordT_next (p:List Int)(d:Nat):ordT p d p.length=ordT p (d+1) 0:=by
 unfold ordT
 rw[List.range_succ,List.flatMap_append]
 simp[onDay]
theorem ordT_all (p:List Int):ordT p 4 0=order p:=by unfold ordT order;simp
theorem ordT_pre (p:List Int){d i:Nat}(hd:d<4)(hi:i≤p.length):ordT p d i <+: order p:=by
 have h1:ordT p d i <+: ordT p (d+1) 0:=by
  rw[← ordT_next]
  unfold ordT
  obtain ⟨k,hk⟩:=Nat.exists_eq_add_of_le hi
  rw[hk,List.range_add,List.filter_append,← List.append_assoc]
  exact List.prefix_append _ _
 refine h1.trans ?_
 unfold ordT order
 obtain ⟨k,hk⟩:=Nat.exists_eq_add_of_le (show d+1≤4 by omega)
 rw[hk,show List.range (d+1+k)=List.range (d+1)++(List.range k).map (d+1+·) from List.range_add ..,List.flatMap_append,List.range_zero,List.filter_nil,List.append_nil]
 exact List.prefix_append _ _
theorem mem_order {p:List Int}{i:Nat}(h:i∈order p):i<p.length∧0≤p.getD i 0∧p.getD i 0<4:=by
 unfold order onDay at h
 simp only[List.mem_flatMap,List.mem_filter,List.mem_range,beq_iff_eq] at h
 obtain ⟨d,hd,hi,he⟩:=h
 exact ⟨hi,by omega,by omega⟩
end Ld
namespace Ev
namespace Ro
open K
attribute [local simp] ev1 wantG spineK spine float xnew xval xeff zab zae zau zah zai addFl cellsOf pickC alive slLen slFt binI maxA maxK minA minK aeqK aeqS AV.cells spA zad fillA setAt bitsI nat_nn zav AV.plain apart
set_option maxRecDepth 100000
set_option maxHeartbeats 4000000
inductive PlV (Q:Nat→Prop) (H:List AB) (p:List Int):AV→Prop
 |vs:PlV Q H p (.vs 1 (ints p))
 |none:p=[]→PlV Q H p .nils
 |some (b:Nat) (cs:List AV):Q b→H[b]?=some (.cells cs)→p.length≤cs.length→(∀ i,i<p.length→cs[i]?=some (.int .i64 (p.getD i 0)))→PlV Q H p (.sl b 0 p.length 1)
theorem PlV.keep {Q Q':Nat→Prop}{H G:List AB}{p:List Int}{v:AV}(h:PlV Q H p v)(hq:∀ b,b<H.length→Q b→Q' b)(hk:∀ b x,Q b→H[b]?=Option.some x→G[b]?=Option.some x):PlV Q' G p v:=by
 cases h with
 |vs=>exact .vs
 |none h=>exact .none h
 |some b cs h1 h2 h3 h4=>exact .some b cs (hq b (get_lt h2) h1) (hk b _ h1 h2) h3 h4
theorem ybh (p:List Int){i:Nat}(h:i<p.length):(ints p)[i]?=some (.int .i64 (p.getD i 0)):=by simp[ints,List.getD_eq_getElem?_getD,List.getElem?_eq_getElem h]
def OrPre (p:List Int)(pv:AV)(b1:Nat)(H:List AB)(T:List Nat):Prop:=H[b1]?=some (.cells [pv])∧b1∉T∧PlV (fun b=>b∉T) H p pv
def orSt (l b1 d i n:Nat)(pv:AV)(hp:List AB)(tc:List Nat):St:={ tm:=tmA 27 [(11,.int .i64 i),(10,.int .i64 n),(9,pv),(6,.int .i64 d),(3,.int .i64 d),(1,.ptr b1 0),(0,.yield l)],df:=[],hp:=hp,tc:=tc }
theorem ycn (C:Cfg)(call:CallF)(p:List Int)(pv:AV)(b1:Nat)(hp5:p.length≤1000)(U:List AB→Prop)(H:List AB)(l:Nat)(T:List Nat)(J:List Nat→List Nat→List AB→Prop)(E:List Nat→List AB→Prop)(M:List Nat→Nat→Prop)
  (ctx:ItCtx call H H l [] T (fun n:Nat=>.int .i64 n) (Ld.order p) U J E M) (d i:Nat) (hd:d<4) (hi:i<p.length) (hp:List AB) (tc:List Nat) (hV:ItInv H.length H l [] T J M (Ld.ordT p d i) hp tc) (hpv:PlV (fun _=>True) hp p pv):
  Does (ev C call H.length none (atP [1,0,0,1,1,0,0,1,1,0,0] af149.body) (orSt l b1 d i p.length pv hp tc))
   (fun e st=>(e=.normal∧∃ hp' tc',ItInv H.length H l [] T J M (Ld.ordT p d (i+1)) hp' tc'∧{ st with tm:=keepT [0,1,3,6,9,10,11] st.tm }=orSt l b1 d (i+1) p.length pv hp' tc')∨(e=.ret∧Ends C H.length af149.res (ItPost H l [] T J E M (Ld.order p)) e st)):=by
 have hs:=Ld.ordT_succ p d i
 have hpre:=Ld.ordT_pre p (i:=i+1) hd hi
 rw[hs] at hpre ⊢
 have f1:(i:Int)<p.length:=by omega
 have f5:i+1≤p.length:=hi
 have hw:IntKind.i64.wrap ((i:Int)+1)=(i:Int)+1:=zaf (by omega) (by omega)
 have hil:(ints p).length=p.length:=by simp[ints]
 have hia:=ybh p hi
 have hia':=ge_of hia
 have hshape:pv=.vs 1 (ints p)∨∃ b cs,pv=.sl b 0 p.length 1∧hp[b]?=some (.cells cs)∧i<cs.length∧cs[i]?=some (.int .i64 (p.getD i 0)):=by
  cases hpv with
  |vs=>exact .inl rfl
  |none h=>rw[h] at hi;simp at hi
  |some b cs _ h2 h3 h4=>exact .inr ⟨b,cs,rfl,h2,by omega,h4 i hi⟩
 by_cases he:p.getD i 0=(d:Int)
 ·rw[if_pos he] at hpre ⊢
  obtain ⟨b',hp',tc',s1,s2,s3⟩:=hV.step ctx hpre
  have HS:=hideP (And.intro s2 s3)
  have heq:(p.getD i 0==(d:Int))=true:=by rw[he];simp
  clear s2 s3 ctx hV hpre hs hpv
  rcases hshape with rfl|⟨b,cs,rfl,hQ,q4,q5⟩
  ·generalize p.getD i 0=x at *
   cases b' with
   |true=>
    unfold af149 Zq Zu Zm Zl Zo Zh Za Zb Zj Zt Zn Zy orSt
    simp only[atP]
    refine gA ?_
    have hn:=HS.out.1 rfl
    refine .inl ⟨by first|rfl|trivial,_,_,hn,?_⟩
    refine st_is ?_ rfl rfl rfl
    simp[zag,zal]
   |false=>
    unfold af149 Zq Zu Zm Zl Zo Zh Za Zb Zj Zt Zn Zy orSt
    simp only[atP]
    refine gA ?_
    exact .inr ⟨by first|rfl|trivial,zac (.inl rfl) rfl (HS.out.2 rfl).k.len (by simp only[resL];rfl) (HS.out.2 rfl).post⟩
  ·have q6:=ge_of q5
   obtain ⟨Q0,Q1,Q2,Q3,Q4,Q5⟩:=bk' hQ
   generalize p.getD i 0=x at *
   cases b' with
   |true=>
    unfold af149 Zq Zu Zm Zl Zo Zh Za Zb Zj Zt Zn Zy orSt
    simp only[atP]
    refine gA ?_
    have hn:=HS.out.1 rfl
    refine .inl ⟨by first|rfl|trivial,_,_,hn,?_⟩
    refine st_is ?_ rfl rfl rfl
    simp[zag,zal]
   |false=>
    unfold af149 Zq Zu Zm Zl Zo Zh Za Zb Zj Zt Zn Zy orSt
    simp only[atP]
    refine gA ?_
    exact .inr ⟨by first|rfl|trivial,zac (.inl rfl) rfl (HS.out.2 rfl).k.len (by simp only[resL];rfl) (HS.out.2 rfl).post⟩
 ·rw[if_neg he,List.append_nil]
  have heq:(p.getD i 0==(d:Int))=false:=beq_false_of_ne he
  have HV:=hideP hV
  clear ctx hV hpre hs hpv
  rcases hshape with rfl|⟨b,cs,rfl,hQ,q4,q5⟩
  ·generalize p.getD i 0=x at *
   unfold af149 Zq Zu Zm Zl Zo Zh Za Zb Zj Zt Zn Zy orSt
   simp only[atP]
   refine gA ?_
   refine .inl ⟨by first|rfl|trivial,_,_,HV.out,?_⟩
   refine st_is ?_ rfl rfl rfl
   simp[zag,zal]
  ·have q6:=ge_of q5
   obtain ⟨Q0,Q1,Q2,Q3,Q4,Q5⟩:=bk' hQ
   generalize p.getD i 0=x at *
   unfold af149 Zq Zu Zm Zl Zo Zh Za Zb Zj Zt Zn Zy orSt
   simp only[atP]
   refine gA ?_
   refine .inl ⟨by first|rfl|trivial,_,_,HV.out,?_⟩
   refine st_is ?_ rfl rfl rfl
   simp[zag,zal]
theorem yex (C:Cfg)(hC:C.calm=true)(call:CallF)(p:List Int)(pv:AV)(b1:Nat)(hp5:p.length≤1000)(U:List AB→Prop)(H:List AB)(l:Nat)(T:List Nat)(J:List Nat→List Nat→List AB→Prop)(E:List Nat→List AB→Prop)(M:List Nat→Nat→Prop)
  (hp:OrPre p pv b1 H T) (hT:∀ j∈T,j<H.length) (hlT:l∈T) (hJ0:J [] [] H) (hJY:∀ d W G,J d W G→U G) (hM:∀ j,¬ M [] j) (hY:Yields call l H.length T (fun n:Nat=>.int .i64 n) (Ld.order p) [] U J E M):
  Wb C call H af149 [.yield l,.ptr b1 0]
   ((ItPost H l [] T J E M (Ld.order p))):=by
 obtain ⟨h1,p1,hpv⟩:=hp
 have ctx:ItCtx call H H l [] T (fun n:Nat=>.int .i64 n) (Ld.order p) U J E M:=⟨hT,by simp,hlT,Kp.refl _ _,hY,hM,hJY⟩
 have hI:ItInv H.length H l [] T J M [] H []:=ctx.start hJ0 (hJY _ _ _ hJ0)
 have hfacts:∀ d hp tc,ItInv H.length H l [] T J M d hp tc→Bk hp b1 (.cells [pv])∧PlV (fun _=>True) hp p pv:=fun d hp tc h=>⟨bk' (h.at h1 (by simp) p1),hpv.keep (fun _ _ _=>trivial) fun b x hb hx=>h.at hx (by simp) hb⟩
 have HC:=hideP (And.intro ctx (And.intro hfacts hI))
 clear ctx hfacts hI hY hJ0 hJY hT hlT hM h1 hpv p1
 unfold Wb Wa af149 Zq Zu Zm Zl Zo Zh Za Zb Zj Zt Zn Zy
 simp only[zipI]
 refine gA ?_
 with_reducible refine zan hC 4 (by unfold fuelL;omega) (fun d st=>∃ hp tc,ItInv H.length H l [] T J M (Ld.ordT p d 0) hp tc∧st={ tm:=tmA 27 [(6,.int .i64 d),(1,.ptr b1 0),(0,.yield l)],df:=[],hp:=hp,tc:=tc }) ?_ ?_ ?_
 ·refine ⟨_,_,by simpa [Ld.ordT] using HC.out.2.2,st_is ?_ rfl rfl rfl⟩
  simp[zag,zal]
 ·rintro d st hd ⟨hp,tc,hV,rfl⟩
  obtain ⟨⟨x0,x1,x2,x3,x4,x5⟩,hpv⟩:=HC.out.2.1 _ _ _ hV
  have hw:IntKind.i64.wrap ((d:Int)+1)=(d:Int)+1:=zaf (by omega) (by omega)
  have f1:(d:Int)<4:=by omega
  have HV:=hideP hV
  clear hV
  have hshape:(pv=.vs 1 (ints p)∨∃ b cs,pv=.sl b 0 p.length 1∧hp[b]?=some (.cells cs))∨(pv=.nils∧p.length=0):=by
   cases hpv with
   |vs=>exact .inl (.inl rfl)
   |none h=>exact .inr ⟨rfl,by rw[h];rfl⟩
   |some b cs _ h2 h3 h4=>exact .inl (.inr ⟨b,cs,rfl,h2⟩)
  have hil:(ints p).length=p.length:=by simp[ints]
  clear hpv
  rcases hshape with (hs|⟨b,cs,hs,hQ⟩)|⟨hs,h0⟩
  ·subst hs
   refine gA ?_
   with_reducible refine zan hC p.length (by unfold fuelL;omega) (fun i st=>∃ hp tc W,ItInv H.length H l [] T J M (Ld.ordT p d i) hp tc∧hp[b1]?=some (.cells [W])∧st=orSt l b1 d i p.length W hp tc) ?_ ?_ ?_
   ·refine ⟨hp,tc,_,HV.out,x1,?_⟩
    unfold orSt
    refine st_is ?_ rfl rfl rfl;simp[zag,zal]
   ·rintro i st hi ⟨hp,tc,W,hV,hW,rfl⟩
    have hpW:=HC.out.2.1 _ _ _ hV
    have e:=hW.symm.trans hpW.1.get
    simp only[Option.some.injEq,AB.cells.injEq,List.cons.injEq,and_true] at e
    subst e
    have hr:=ycn C call p _ b1 hp5 U H l T J E M HC.out.1 d i hd hi hp tc hV hpW.2
    refine Does.mono hr ?_
    rintro e st (⟨rfl,hp',tc',g1,g2⟩|⟨rfl,h⟩)
    ·exact ⟨hp',tc',_,g1,(HC.out.2.1 _ _ _ g1).1.get,g2⟩
    ·exact h
   ·rintro st ⟨hp,tc,W,hV,hW,rfl⟩
    have e:=hW.symm.trans (HC.out.2.1 _ _ _ hV).1.get
    simp only[Option.some.injEq,AB.cells.injEq,List.cons.injEq,and_true] at e
    subst e
    rw[Ld.ordT_next] at hV
    obtain ⟨⟨x0,x1,x2,x3,x4,x5⟩,hpv⟩:=HC.out.2.1 _ _ _ hV
    have HV2:=hideP hV
    clear hV hpv HV
    unfold orSt
    refine gA ?_
    with_reducible refine ⟨_,_,HV2.out,?_⟩
    refine st_is ?_ rfl rfl rfl
    simp[zag,zal]
  ·subst hs
   obtain ⟨Q0,Q1,Q2,Q3,Q4,Q5⟩:=bk' hQ
   refine gA ?_
   with_reducible refine zan hC p.length (by unfold fuelL;omega) (fun i st=>∃ hp tc W,ItInv H.length H l [] T J M (Ld.ordT p d i) hp tc∧hp[b1]?=some (.cells [W])∧st=orSt l b1 d i p.length W hp tc) ?_ ?_ ?_
   ·refine ⟨hp,tc,_,HV.out,x1,?_⟩
    unfold orSt
    refine st_is ?_ rfl rfl rfl;simp[zag,zal]
   ·rintro i st hi ⟨hp,tc,W,hV,hW,rfl⟩
    have hpW:=HC.out.2.1 _ _ _ hV
    have e:=hW.symm.trans hpW.1.get
    simp only[Option.some.injEq,AB.cells.injEq,List.cons.injEq,and_true] at e
    subst e
    have hr:=ycn C call p _ b1 hp5 U H l T J E M HC.out.1 d i hd hi hp tc hV hpW.2
    refine Does.mono hr ?_
    rintro e st (⟨rfl,hp',tc',g1,g2⟩|⟨rfl,h⟩)
    ·exact ⟨hp',tc',_,g1,(HC.out.2.1 _ _ _ g1).1.get,g2⟩
    ·exact h
   ·rintro st ⟨hp,tc,W,hV,hW,rfl⟩
    have e:=hW.symm.trans (HC.out.2.1 _ _ _ hV).1.get
    simp only[Option.some.injEq,AB.cells.injEq,List.cons.injEq,and_true] at e
    subst e
    rw[Ld.ordT_next] at hV
    obtain ⟨⟨x0,x1,x2,x3,x4,x5⟩,hpv⟩:=HC.out.2.1 _ _ _ hV
    have HV2:=hideP hV
    clear hV hpv HV
    unfold orSt
    refine gA ?_
    with_reducible refine ⟨_,_,HV2.out,?_⟩
    refine st_is ?_ rfl rfl rfl
    simp[zag,zal]
  ·subst hs
   refine gA ?_
   with_reducible refine zan hC p.length (by unfold fuelL;omega) (fun i st=>∃ hp tc W,ItInv H.length H l [] T J M (Ld.ordT p d i) hp tc∧hp[b1]?=some (.cells [W])∧st=orSt l b1 d i p.length W hp tc) ?_ ?_ ?_
   ·refine ⟨hp,tc,_,HV.out,x1,?_⟩
    unfold orSt
    refine st_is ?_ rfl rfl rfl;simp[zag,zal,h0]
   ·rintro i st hi ⟨hp,tc,W,hV,hW,rfl⟩
    have hpW:=HC.out.2.1 _ _ _ hV
    have e:=hW.symm.trans hpW.1.get
    simp only[Option.some.injEq,AB.cells.injEq,List.cons.injEq,and_true] at e
    subst e
    have hr:=ycn C call p _ b1 hp5 U H l T J E M HC.out.1 d i hd hi hp tc hV hpW.2
    refine Does.mono hr ?_
    rintro e st (⟨rfl,hp',tc',g1,g2⟩|⟨rfl,h⟩)
    ·exact ⟨hp',tc',_,g1,(HC.out.2.1 _ _ _ g1).1.get,g2⟩
    ·exact h
   ·rintro st ⟨hp,tc,W,hV,hW,rfl⟩
    have e:=hW.symm.trans (HC.out.2.1 _ _ _ hV).1.get
    simp only[Option.some.injEq,AB.cells.injEq,List.cons.injEq,and_true] at e
    subst e
    rw[Ld.ordT_next] at hV
    obtain ⟨⟨x0,x1,x2,x3,x4,x5⟩,hpv⟩:=HC.out.2.1 _ _ _ hV
    have HV2:=hideP hV
    clear hV hpv HV
    unfold orSt
    refine gA ?_
    with_reducible refine ⟨_,_,HV2.out,?_⟩
    refine st_is ?_ rfl rfl rfl
    simp[zag,zal]
 ·rintro st ⟨hp,tc,hV,rfl⟩
  rw[Ld.ordT_all] at hV
  have HV:=hideP (hV.post HC.out.1)
  have hl:=hV.len
  clear hV
  refine gA ?_
  exact zac (.inr rfl) rfl (by simp only;omega) (by simp only[resL];rfl) HV.out
def OrderI (C:Cfg)(k m:Nat):Prop:=∀ (p:List Int) (pv:AV) (b1:Nat) (U:List AB→Prop),p.length≤1000→IterG C k m 149 [] [.ptr b1 0] (fun n:Nat=>.int .i64 n) (Ld.order p) [] U (OrPre p pv b1)
theorem yez {C:Cfg}(hC:C.calm=true)(m:Nat)(h0:Has C 149 af149):OrderI C m (m+1):=by
 intro p pv b1 U hp5
 refine zez hC h0.ext h0.exth h0.fns h0.whole (Nat.le_of_ble_eq_true rfl) ?_
 intro H l T J E M hp h2 h3 h4 h5 h7 h6
 exact yex C hC _ p pv b1 hp5 U H l T J E M hp h2 h3 h4 h5 h7 h6
structure TpOk (l:Ld.Lo) (t:Tp):Prop where
 ev:l.road.events.length≤2
 parts:l.road.parts.length≤40
 carts:l.carts.length≤5
 f0:∀ i,i<5→-1≤t.f i∧t.f i≤10
 d0:-10≤t.day
 d1:t.day≤10
 l0:-1000000≤t.load
 l1:t.load≤1000000
def AheadC (call:CallF)(l:Ld.Lo)(cb:Nat):Prop:=∀ (H:List AB) (qb mb:Nat),Qy l cb qb mb H→∀ t:Tp,TpOk l t→∃ H' v,call (.fn (.func 205) [] []) [.ptr qb 0,tpA t] H=some (.ret v,H',[])∧Kp [] H H'∧roadOf H' v=some (Ld.aheadR l t.w t.day)
def BearsR (call:CallF):Prop:=∀ (H:List AB) (v:AV) (r:Rd.Road),roadOf H v=some r→∀ n:Int,-9223372036854775808≤n→n≤9223372036854775807→call (.fn (.func 36) [] []) [v,.int .i64 n] H=some (.ret (.tup [.int .i64 (if Rd.errR r (Rd.isLoad n)=0 then Rd.bearsR r n else 0),.int .i64 (Rd.errR r (Rd.isLoad n))]),H,[])
theorem yeh {kn:EK}{key v:AV}(hr:aeqK kn key key=some true):∀ {es es':List (AV × AV)},putA kn key v es=some es'→findA kn key es'=some (some v)
 |[],_,h=>by
   cases h
   simp only[findA,hr]
 |(k,u)::l,es',h=>by
   unfold putA at h
   split at h
   ·cases h;simp only[findA,hr]
   ·rename_i hk
    obtain ⟨l',h1,rfl⟩:=Option.map_eq_some_iff.1 h
    have ih:=yeh hr h1
    simp only[findA,hk,ih]
   ·cases h
theorem yjs (t:Tp):aeqK keyT (tpA t) (tpA t)=some true:=by
 obtain ⟨f,a,d⟩:=t
 have:∃ b,aeqK keyT (tpA ⟨f,a,d⟩) (tpA ⟨f,a,d⟩)=some b∧b=true:=⟨_,rfl,by simp⟩
 obtain ⟨b,h1,rfl⟩:=this
 exact h1
theorem ygc (C:Cfg)(call:CallF)(l:Ld.Lo)(cb:Nat)(H:List AB)(qb mb:Nat)(hQ:Qy l cb qb mb H)(t:Tp)(es:List (AV × AV))(hm:H[mb]?=some (.map es))(hf:findA keyT (tpA t) es=some (some (bearA l t))):
  Wb C call H af204 [.ptr qb 0,tpA t] (fun v _hp tc=>v=bearA l t∧tc=[]):=by
 obtain ⟨cv,hq1,hq2⟩:=hQ.q
 obtain ⟨y0,y1,y2,y3,y4⟩:=bk hq1
 obtain ⟨m0,m1,m2,m3,m4⟩:=bk hm
 clear hQ hq2
 unfold Wb Wa af204 Zq Zr Zu Zm Zo Zd Ze Zh Zc Zb Zf Zg Zx Zt Zy
 simp only[zipI,tpA,bearA,keyT] at *
 generalize Ld.bearT l t.w t.load t.day=b at *
 refine gR ?_
 exact zac (v:=.bool b) (.inl rfl) rfl (by simp) endvP ⟨rfl,rfl⟩
theorem ydz (C:Cfg)(call:CallF)(l:Ld.Lo)(cb:Nat)(hA:AheadC call l cb)(hB:BearsR call)(H:List AB)(qb mb:Nat)(hQ:Qy l cb qb mb H)(t:Tp)(ht:TpOk l t)(es es':List (AV × AV))(hm:H[mb]?=some (.map es))(hf:findA keyT (tpA t) es=some none)(hput:putA keyT (tpA t) (bearA l t) es=some es'):
  Wb C call H af204 [.ptr qb 0,tpA t] (fun v hp tc=>v=bearA l t∧tc=[mb]∧hp[mb]?=some (.map es')):=by
 obtain ⟨H',v,hcall,hk,hro⟩:=hA (H++[.cells [.int .i64 (t.f 0),.int .i64 (t.f 1),.int .i64 (t.f 2),.int .i64 (t.f 3),.int .i64 (t.f 4),.int .i64 t.load,.int .i64 t.day]]) qb mb (hQ.app _) t ht
 have hcall2:=hB H' v _ hro t.load (by have:=ht.l0;omega) (by have:=ht.l1;omega)
 have e:bearA l t=.bool (decide (Rd.errR (Ld.aheadR l t.w t.day) (Rd.isLoad t.load)=0)&&decide (Rd.bearsR (Ld.aheadR l t.w t.day) t.load=2)):=rfl
 rw[e] at hput ⊢
 generalize Rd.errR (Ld.aheadR l t.w t.day) (Rd.isLoad t.load)=er at *
 generalize Rd.bearsR (Ld.aheadR l t.w t.day) t.load=n at *
 obtain ⟨cv,hq1,hq2⟩:=hQ.q
 obtain ⟨y0,y1,y2,y3,y4⟩:=bk hq1
 obtain ⟨m0,m1,m2,m3,m4⟩:=bk hm
 have z1:HB H' qb _:=hb (hk.at (by rw[List.getElem?_append_left y0];exact hq1) (by simp))
 have z2:HB H' mb (.map es):=hb (hk.at (by rw[List.getElem?_append_left m0];exact hm) (by simp))
 have z3:HB H' H.length (.cells [.int .i64 (t.f 0),.int .i64 (t.f 1),.int .i64 (t.f 2),.int .i64 (t.f 3),.int .i64 (t.f 4),.int .i64 t.load,.int .i64 t.day]):=hb (hk.at (by rw[List.getElem?_append_right (Nat.le_refl _),Nat.sub_self];rfl) (by simp))
 have hne:=hQ.ne
 have nm1:mb≠H.length:=by omega
 have nm2:¬ (H'.length<H.length):=by have:=z3.lt;omega
 have hge:H.length≤H'.length:=by omega
 obtain ⟨Z1,Z2,Z3⟩:=z1
 obtain ⟨W1,W2,W3⟩:=z2
 obtain ⟨V1,V2,V3⟩:=z3
 have hfp:=yeh (yjs t) hput
 have hlt:H.length<H'.length:=by omega
 have hkm:∀ x,HB (H'.set mb x) H.length (.cells [.int .i64 (t.f 0),.int .i64 (t.f 1),.int .i64 (t.f 2),.int .i64 (t.f 3),.int .i64 (t.f 4),.int .i64 t.load,.int .i64 t.day]):=fun x=>(HB.mk V1 V2 V3).set x nm1
 have hne':mb≠qb:=Ne.symm hne
 clear hA hB hQ hq2 hk hro ht hkm e hge hlt
 obtain ⟨bb,hbb⟩:∃ bb,(decide (er=0)&&decide (n=2))=bb:=⟨_,rfl⟩
 have herr:(er=0∧((n=2∧bb=true)∨((n==2)=false∧bb=false)))∨((er==0)=false∧bb=false):=by
  by_cases h1:er=0
  ·by_cases h2:n=2
   ·exact .inl ⟨h1,.inl ⟨h2,by rw[← hbb];simp[h1,h2]⟩⟩
   ·exact .inl ⟨h1,.inr ⟨beq_false_of_ne h2,by rw[← hbb];simp[h2]⟩⟩
  ·exact .inr ⟨beq_false_of_ne h1,by rw[← hbb];simp[h1]⟩
 rw[hbb] at hput hfp ⊢
 clear hbb
 generalize hn0:(if er=0 then n else 0)=n0 at hcall2
 have hn1:er=0→n0=n:=fun h=>by rw[← hn0,if_pos h]
 clear hn0
 rcases herr with ⟨rfl,⟨rfl,rfl⟩|⟨h2,rfl⟩⟩|⟨h1,rfl⟩
 ·obtain rfl:=hn1 rfl
  clear hn1
  unfold Wb Wa af204 Zq Zr Zu Zm Zo Zd Ze Zh Zc Zb Zf Zg Zx Zt Zy
  simp only[zipI,tpA,keyT] at *
  refine gW ?_
  exact zac (v:=.bool true) (.inl rfl) rfl (by simp;omega) endvP ⟨rfl,by simp,by simp[List.getElem?_set_self W2]⟩
 ·obtain rfl:=hn1 rfl
  clear hn1
  unfold Wb Wa af204 Zq Zr Zu Zm Zo Zd Ze Zh Zc Zb Zf Zg Zx Zt Zy
  simp only[zipI,tpA,keyT] at *
  refine gW ?_
  exact zac (v:=.bool false) (.inl rfl) rfl (by simp;omega) endvP ⟨rfl,by simp,by simp[List.getElem?_set_self W2]⟩
 ·clear hn1
  unfold Wb Wa af204 Zq Zr Zu Zm Zo Zd Ze Zh Zc Zb Zf Zg Zx Zt Zy
  simp only[zipI,tpA,keyT] at *
  refine gW ?_
  exact zac (v:=.bool false) (.inl rfl) rfl (by simp;omega) endvP ⟨rfl,by simp,by simp[List.getElem?_set_self W2]⟩
def BearsTC (call:CallF)(l:Ld.Lo)(cb:Nat):Prop:=∀ (H:List AB) (qb mb:Nat),Qy l cb qb mb H→∀ t:Tp,TpOk l t→∃ H' tc,call (.fn (.func 204) [] []) [.ptr qb 0,tpA t] H=some (.ret (.bool (Ld.bearT l t.w t.load t.day)),H',tc)∧(∀ j∈tc,j=mb)∧Kp tc H H'∧Qy l cb qb mb H'
theorem yea {C:Cfg}{n0:Nat}(hC:C.calm=true)(hwh:∀ f,C.whole f=true)(h0:Has C 204 af204){l:Ld.Lo}{cb:Nat}(hA:AheadC (Ev.call C n0) l cb)(hB:BearsR (Ev.call C n0)):BearsTC (Ev.call C (n0+1)) l cb:=by
 intro H qb mb hQ t ht
 obtain ⟨es,hm,hes⟩:=hQ.m
 rcases ych l t hes with hf|hf
 ·obtain ⟨es',hp1,hp2⟩:=ycz l t hes
  obtain ⟨v,hp,tc,G,c1,⟨rfl,rfl,c2⟩,k1,k2,c3,c4⟩:=zcw (first:=[]) (captured:=[]) (args:=[.ptr qb 0,tpA t]) (H:=H) hC hwh h0 (le' rfl) (ydz C (Ev.call C n0) l cb hA hB H qb mb hQ t ht es es' hm hf hp1)
  have hG:G=hp:=c3 (.inr (by simp))
  subst hG
  exact ⟨G,[mb],c1,by simp,k2,hQ.call k2 (by simp) ⟨es',c2,hp2⟩⟩
 ·obtain ⟨v,hp,tc,G,c1,⟨rfl,rfl⟩,k1,k2,c3,c4⟩:=zcw (first:=[]) (captured:=[]) (args:=[.ptr qb 0,tpA t]) (H:=H) hC hwh h0 (le' rfl) (ygc C (Ev.call C n0) l cb H qb mb hQ t es hm hf)
  have hG:G=H:=c4 rfl rfl
  subst hG
  exact ⟨G,[],c1,by simp,k2,hQ⟩
inductive IsSl:AV→Prop
 |none:IsSl .nils
 |some (b o n k:Nat):IsSl (.sl b o n k)
 |vs (k:Nat) (es:List AV):IsSl (.vs k es)
theorem PlV.isSl {Q:Nat→Prop}{H:List AB}{p:List Int}{v:AV}(h:PlV Q H p v):IsSl v:=by
 cases h with
 |vs=>exact .vs _ _
 |none _=>exact .none
 |some _ _ _ _ _ _=>exact .some _ _ _ _
def OrderC (call:CallF):Prop:=∀ (H:List AB) (v:AV),IsSl v→call (.fn (.func 116) [] []) [v] H=Option.some (.ret (.fn (.func 149) [] [.ptr H.length 0]),H++[.cells [v]],[])
theorem yfa (C:Cfg)(call:CallF)(H:List AB)(v:AV)(hv:IsSl v):Wb C call H af116 [v]
  (fun w hp tc=>w=.fn (.func 149) [] [.ptr H.length 0]∧hp=H++[.cells [v]]∧tc=[]):=by
 unfold Wb Wa af116 Zq Zm Zo Zt
 simp only[zipI]
 cases hv
 all_goals
  refine gA ?_
  exact zac (.inl rfl) rfl (by simp) (by simp only[resL,resOf,zaa];simp[*,resV]) ⟨rfl,rfl,rfl⟩
def gonT (l:Ld.Lo)(t:Tp)(d:List Nat):List (Int × Int):=d.map fun i=>(t.w.getD i 0,(l.carts.getD i default).load)
def AJ (l:Ld.Lo)(t:Tp)(o:Nat)(d:List Nat)(W:List Nat)(G:List AB):Prop:=∃ eb,GrR l (o+5) (o+3) eb (Ld.ahS (0,l.road.events) (gonT l t d)) G∧(eb=o+4∨(eb∈W∧o+10≤eb))
theorem ycl (t:Tp){i:Nat}(hi:i<5):t.w.getD i 0=t.f i:=by
 match i,hi with
 |0,_|1,_|2,_|3,_|4,_=>rfl
theorem tp_at (t:Tp){i:Nat}(hi:i<5):[AV.int .i64 (t.f 0),.int .i64 (t.f 1),.int .i64 (t.f 2),.int .i64 (t.f 3),.int .i64 (t.f 4),.int .i64 t.load,.int .i64 t.day][i]?=some (.int .i64 (t.f i)):=by
 match i,hi with
 |0,_|1,_|2,_|3,_|4,_=>rfl
theorem ygl (C:Cfg)(hC:C.calm=true)(hwh:∀ f,C.whole f=true)(n0 m:Nat)(l:Ld.Lo)(cb:Nat)(t:Tp)(hOr:OrderC (Ev.call C m))(hI:OrderI C (n0+1) m)(hU0:UntC (Ev.call C n0) l)(hUm:UntC (Ev.call C m) l)(H:List AB)(qb mb:Nat)(hQ:Qy l cb qb mb H)(ht:TpOk l t):
  Wb C (Ev.call C m) H af205 [.ptr qb 0,tpA t]
   (fun v hp tc=>(refs v≠[]∧tc=[])∧roadOf hp v=some (Ld.aheadR l t.w t.day)):=by
 have hq:=hQ.ql
 have hm:=hQ.ml
 have hne:=hQ.ne
 have hev:=ht.ev
 have hcl:=ht.carts
 obtain ⟨cv,hq1,hq2⟩:=hQ.q
 obtain ⟨y0,y1,y2,y3,y4,y5⟩:=bk' hq1
 have hcbl:=hQ.cl
 obtain ⟨xc,hxc,ccs,hcase,hccl,hcca⟩:∃ xc,H[cb]?=some xc∧∃ ccs:List AV,(cv=.vs 2 (l.carts.map cE)∨(cv=.sl cb 0 l.carts.length 2∧xc=.cells ccs))∧ccs.length=2 * l.carts.length∧∀ (i:Nat) (c:Ld.Cart),l.carts[i]?=some c→ccs[i * 2]?=some (.int .i64 c.load):=by
  refine ⟨_,List.getElem?_eq_getElem hcbl,caCs l.carts,hq2.imp id fun g=>⟨g.1,?_⟩,ybm _,fun i c h=>(ycr h).1⟩
  have:=g.2
  rw[List.getElem?_eq_getElem hcbl] at this
  exact Option.some.inj this
 obtain ⟨o0,o1,o2,o3,o4,o5⟩:=bk' hxc
 have HCC:=hideP (And.intro hxc (And.intro hccl hcca))
 clear hq1 hq2 hxc hccl hcca
 have hOr1:=fun H b o n k=>hOr H (.sl b o n k) (.some b o n k)
 have hOr2:=fun H k es=>hOr H (.vs k es) (.vs k es)
 clear hOr
 have hel:elemCells (l.road.events.map evE)=evCs l.road.events:=zoc _
 have hcs:=ybl l.road.events
 have hb0:l.road.events.length≤bound:=by unfold bound;omega
 have h5:l.carts.length≤5:=hcl
 have HX:=hideP (And.intro hQ (And.intro ht (And.intro hI (And.intro hU0 (And.intro hUm hq)))))
 clear hI hU0 hUm hQ ht
 unfold Wb Wa af205 Zq Zr Zm Zl Zo Zs Zd Zc Zf Zg Zj Zt Zn Zi
 simp only[zipI,tpA] at *
 have hlr:(List.replicate l.road.events.length [AV.int .i64 0,AV.int .i64 0,AV.int .i64 0,AV.int .i64 0,AV.int .i64 0,AV.int .i64 0,AV.int .i64 0]).flatten.length=l.road.events.length * 7:=by simp
 have hsl:∀ H,slCells 7 H (.vs 7 (l.road.events.map evE))=some (evCs l.road.events):=fun H=>by rw[← hel];rfl
 have hpl:=ybk l.road.events
 rcases hcase with rfl|⟨rfl,rfl⟩
 all_goals
  refine gZ ?_
  generalize (List.replicate l.road.events.length [AV.int .i64 0,AV.int .i64 0,AV.int .i64 0,AV.int .i64 0,AV.int .i64 0,AV.int .i64 0,AV.int .i64 0]).flatten=zs at *
  have hset:setAt zs 0 (evCs l.road.events)=evCs l.road.events:=by
   unfold setAt
   rw[List.take_zero,List.nil_append,List.drop_of_length_le (by omega),List.append_nil]
  have htk:List.take (l.road.events.length * 7) (evCs l.road.events)=evCs l.road.events:=List.take_of_length_le (by omega)
  have hzd:List.drop (l.road.events.length * 7) zs=[]:=List.drop_of_length_le (by omega)
  have hwl:(t.w.take l.carts.length).length=l.carts.length:=by rw[List.length_take];show min _ 5=_;omega
  have hPs:∀ G:List AB,G[H.length+1]?=some (.cells [.int .i64 (t.f 0),.int .i64 (t.f 1),.int .i64 (t.f 2),.int .i64 (t.f 3),.int .i64 (t.f 4),.int .i64 t.load,.int .i64 t.day])→PlV (fun b=>b=H.length+1) G (t.w.take l.carts.length) (.sl (H.length+1) 0 l.carts.length 1):=fun G hG=>by
   have:=PlV.some (Q:=fun b=>b=H.length+1) (p:=t.w.take l.carts.length) (H.length+1) _ rfl hG (by rw[hwl];simp;omega) fun i hi=>by
    rw[hwl] at hi
    rw[tp_at t (by omega),List.getD_eq_getElem?_getD,List.getElem?_take_of_lt hi,← List.getD_eq_getElem?_getD,ycl t (by omega)]
   rwa [hwl] at this
  have hPz:l.carts.length=0→∀ G:List AB,PlV (fun b=>b=H.length+1) G (t.w.take l.carts.length) (.vs 1 []):=fun h0 G=>by
   rw[h0,List.take_zero]
   exact .vs
  have HP:=hideP (And.intro hPs hPz)
  clear hPs hPz hwl
  by_cases h0:l.carts.length=0
  case' pos=>
   (repeat (first|((with_reducible apply zak);(focus ((with_reducible apply zba);(focus rfl);(focus rfl);(focus ((conv=>lhs;simp[*,List.getElem?_append_right,List.set_append_right,List.getElem?_cons_zero,List.getElem?_append_left,List.set_append_left,-getElem?_pos,hsl,↓zbe,↓zbr,Nat.testBit_eq_decide_div_mod_eq])<;>exact rfl));(focus rfl);(focus rfl)));simp only[addFl])|(with_reducible apply zak;(focus ((conv=>lhs;simp[*,List.getElem?_append_right,List.set_append_right,List.getElem?_cons_zero,List.getElem?_append_left,List.set_append_left,-getElem?_pos,hsl,↓zbe,↓zbr,Nat.testBit_eq_decide_div_mod_eq])<;>exact rfl));simp only[addFl])|((with_reducible first|apply zaw|apply zay|apply zas|apply zaq|apply zao|apply zax|apply zar|apply zaz|(apply zap;· simp[*,zab])|(apply zam;· simp[*,zab]));try simp only[Then,Ops])|simp only[Nat.reduceEqDiff,reduceIte,OutB,Then]))
   have hP:∀ G:List AB,G[H.length+1]?=some (.cells [.int .i64 (t.f 0),.int .i64 (t.f 1),.int .i64 (t.f 2),.int .i64 (t.f 3),.int .i64 (t.f 4),.int .i64 t.load,.int .i64 t.day])→PlV (fun b=>b=H.length+1) G (t.w.take l.carts.length) (.vs 1 []):=fun G _=>HP.out.2 h0 G
   clear h0
   generalize AV.vs 1 []=pv at hP ⊢
  case' neg=>
   have h0i:¬ ((l.carts.length:Int)=0):=by omega
   have h5i:(l.carts.length:Int)≤5:=by omega
   (repeat (first|((with_reducible apply zak);(focus ((with_reducible apply zba);(focus rfl);(focus rfl);(focus ((conv=>lhs;simp[*,List.getElem?_append_right,List.set_append_right,List.getElem?_cons_zero,List.getElem?_append_left,List.set_append_left,-getElem?_pos,hsl,↓zbe,↓zbr,Nat.testBit_eq_decide_div_mod_eq])<;>exact rfl));(focus rfl);(focus rfl)));simp only[addFl])|(with_reducible apply zak;(focus ((conv=>lhs;simp[*,List.getElem?_append_right,List.set_append_right,List.getElem?_cons_zero,List.getElem?_append_left,List.set_append_left,-getElem?_pos,hsl,↓zbe,↓zbr,Nat.testBit_eq_decide_div_mod_eq])<;>exact rfl));simp only[addFl])|((with_reducible first|apply zaw|apply zay|apply zas|apply zaq|apply zao|apply zax|apply zar|apply zaz|(apply zap;· simp[*,zab])|(apply zam;· simp[*,zab]));try simp only[Then,Ops])|simp only[Nat.reduceEqDiff,reduceIte,OutB,Then]))
   have hP:=HP.out.1
   clear h0 h0i h5i
   generalize AV.sl (H.length+1) 0 l.carts.length 1=pv at hP ⊢
  all_goals
   obtain ⟨hQ,ht,hI,hU0,hUm,_⟩:=HX.out
   have hor5:(t.w.take l.carts.length).length≤1000:=by rw[List.length_take];omega
   refine zbz hC hwh (hI (t.w.take l.carts.length) pv (H.length+7) (fun _=>True) hor5) (by simp[zab]) rfl [H.length+3,H.length+4,H.length+5] (by simp) (by simp)
    (AJ l t H.length) (fun _ _ _=>False) (fun rz=>?_) (fun _ _ _ _=>trivial) (fun rz=>?_) (fun rz=>trivial) (fun d W G G' hJ hW k=>?_) (fun _ _ _ _ h _=>h) ?_ ?_ (fun _ _ _ _ _ _ _ _ _ _ _ h=>h.elim)
   ·refine ⟨by simp,by simp,(hP _ (by simp)).keep (fun b _ hb=>by subst hb;simp) fun b x _ h=>h⟩
   ·exact ⟨H.length+4,⟨hb (by simp[Ld.ahS,gonT]),hb (by simp[Ld.ahS,gonT]),hb (by simp[Ld.ahS,gonT])⟩,.inl rfl⟩
   ·obtain ⟨eb,h1,h2⟩:=hJ
    simp only[List.length_append,List.length_cons,List.length_nil,Nat.zero_add,Nat.add_assoc,Nat.reduceAdd] at k
    refine ⟨eb,⟨hb ((k _ h1.n.lt (.inl (by omega)) (by simp) (by omega)).trans h1.n.get),hb ((k _ h1.r.lt (.inl (by omega)) (by simp) (by omega)).trans h1.r.get),hb ((k _ h1.e.lt ?_ (by simp) ?_).trans h1.e.get)⟩,h2⟩
    ·rcases h2 with h2|h2
     ·exact .inl (by omega)
     ·exact .inr h2.1
    ·rcases h2 with h2|h2<;>omega
   ·rintro d s W G rz hpr ⟨eb,hG,he⟩ _ hK hl hWb
    simp only[List.length_append,List.length_cons,List.length_nil,Nat.zero_add,Nat.add_assoc,Nat.reduceAdd] at hl hWb ⊢
    rw[setP1]
    have hsm:s∈Ld.order (t.w.take l.carts.length):=hpr.subset (by simp)
    have hsl:=(Ld.mem_order hsm).1
    rw[List.length_take] at hsl
    have hs1:s<l.carts.length:=by omega
    have hs5:s<5:=by omega
    have hgp:l.carts[s]?=some l.carts[s]:=List.getElem?_eq_getElem hs1
    have hgd:l.carts.getD s default=l.carts[s]:=by rw[List.getD_eq_getElem?_getD,hgp];rfl
    have hdl:d.length≤20:=by
     have h1:=hpr.length_le
     have h2:(Ld.order (t.w.take l.carts.length)).length≤(List.range 4).length * (t.w.take l.carts.length).length:=Ld.days_le _ _
     rw[List.length_take,List.length_range] at h2
     simp only[List.length_append,List.length_cons,List.length_nil] at h1
     omega
    have hdm:∀ x∈gonT l t d,x.1≤10:=fun x hx=>by
     unfold gonT at hx
     obtain ⟨a,ha,rfl⟩:=List.mem_map.1 hx
     have hao:a∈Ld.order (t.w.take l.carts.length):=hpr.subset (by simp[ha])
     have:=(Ld.mem_order hao).1
     rw[List.length_take] at this
     show t.w.getD a 0≤10
     rw[ycl t (by omega)]
     exact (ht.f0 a (by omega)).2
    obtain ⟨ba,bb,bc⟩:=Ld.ahS_bd (gonT l t d) (0,l.road.events) (Int.le_refl _) (by show (0:Int)≤10;decide) hdm
    have hgl:(gonT l t d).length=d.length:=by unfold gonT;rw[List.length_map]
    have hnext:Ld.ahS (0,l.road.events) (gonT l t (d++[s]))=Ld.goS (Ld.ahS (0,l.road.events) (gonT l t d)) (t.f s,l.carts[s].load):=by
     unfold gonT
     rw[List.map_append,List.map_cons,List.map_nil,Ld.ahS_snoc,hgd,ycl t hs5]
    have htf:=ht.f0 s hs5
    generalize l.carts[s]=c at *
    generalize Ld.ahS (0,l.road.events) (gonT l t d)=S at *
    have hgp':=ge_of hgp
    have hwt:=tp_at t hs5
    have hwt':=ge_of hwt
    have hs1i:(s:Int)<l.carts.length:=by omega
    have hs5i:(s:Int)<5:=by omega
    refine gA ?_
    refine ⟨trivial,trivial,?_⟩
    obtain ⟨G2,hG2,k1,k2,k3,k4⟩:=zdg (G:=G) (l:=H.length+9) (.loop rz) (by omega)
    rw[← hG2]
    clear hG2
    have j3:∀ {j x},j<H.length+8→j≠H.length+3→j≠H.length+4→j≠H.length+5→(H++[.cells [.ptr qb 0],.cells [.int .i64 (t.f 0),.int .i64 (t.f 1),.int .i64 (t.f 2),.int .i64 (t.f 3),.int .i64 (t.f 4),.int .i64 t.load,.int .i64 t.day],.cells [.nils,.nils],.cells [.vs 7 (l.road.parts.map ptE),.sl (H.length+4) 0 l.road.events.length 7],.cells (evCs l.road.events),.cells [.int .i64 0],.cells [.fn (.func 206) [] [.ptr (H.length+5) 0,.ptr (H.length+3) 0]],.cells [pv]])[j]?=some x→HB G2 j x:=fun {j x} h1 h2 h3 h4 hx=>hb ((k3 _ (by omega)).trans (hK.at hx (by simp;omega)))
    have e0:=j3 (j:=H.length) (x:=.cells [.ptr qb 0]) (by omega) (by omega) (by omega) (by omega) (by simp)
    have e1:=j3 (j:=H.length+1) (x:=.cells [.int .i64 (t.f 0),.int .i64 (t.f 1),.int .i64 (t.f 2),.int .i64 (t.f 3),.int .i64 (t.f 4),.int .i64 t.load,.int .i64 t.day]) (by omega) (by omega) (by omega) (by omega) (by simp)
    have e6:=j3 (j:=H.length+6) (x:=.cells [.fn (.func 206) [] [.ptr (H.length+5) 0,.ptr (H.length+3) 0]]) (by omega) (by omega) (by omega) (by omega) (by simp)
    have eq:=j3 (j:=qb) (by omega) (by omega) (by omega) (by omega) (by rw[List.getElem?_append_left y0];exact y1)
    have ec:=j3 (j:=cb) (by omega) (by omega) (by omega) (by omega) (by rw[List.getElem?_append_left o0];exact HCC.out.1)
    have heb:eb<G.length:=hG.e.lt
    have hG2':GrR l (H.length+5) (H.length+3) eb S G2:=⟨hb ((k3 _ (by omega)).trans hG.n.get),hb ((k3 _ (by omega)).trans hG.r.get),hb ((k3 _ (by rcases he with he|he<;>omega)).trans hG.e.get)⟩
    have hebn:eb≠H.length+3∧eb≠H.length+5∧eb≠H.length∧eb≠H.length+1∧eb≠H.length+6∧eb≠H.length+9∧eb≠qb∧eb≠cb:=by rcases he with he|he<;>omega
    obtain ⟨G3,eb',tc3,c1,hG3,c2,kp3,c3⟩:=hU0 G2 (H.length+5) (H.length+3) eb S (t.f s) hG2' (by omega) hebn.1 hebn.2.1 ba bb (by omega) htf.2 (by have:=bc;simp only at this;omega)
    have nt:∀ {j},j≠H.length+3→j≠H.length+5→j≠eb→j∉tc3:=fun h1 h2 h3 hj=>by have:=c3 _ hj;omega
    have f0:=hb (kp3.at e0.get (nt (by omega) (by omega) (by omega)))
    have fq:=hb (kp3.at eq.get (nt (by omega) (by omega) (by omega)))
    have fc:=hb (kp3.at ec.get (nt (by omega) (by omega) (by omega)))
    have fl:=hb (kp3.at k2 (nt (by omega) (by omega) (by omega)))
    have hl3:=kp3.len
    obtain ⟨now',es',hS'⟩:∃ now' es',Ld.untilS S (t.f s)=(now',es'):=⟨_,_,rfl⟩
    have hbd:=Ld.untilS_bd ba bb htf.2
    simp only at bc
    rw[hS'] at hG3 hbd
    unfold Ld.goS at hnext
    simp only at hnext
    rw[hS'] at hnext
    obtain ⟨g3n,g3r,g3e⟩:=hG3
    simp only at g3n g3r g3e hnext hbd
    have hes:es'.length≤100:=by omega
    have heb':eb'≠H.length+3∧eb'≠H.length+5∧eb'≠H.length∧eb'≠H.length+9∧eb'≠qb∧eb'≠cb∧(eb'=H.length+4∨eb'∈W∨G.length≤eb'):=by
     rcases c2 with h|h
     ·subst h
      exact ⟨hebn.1,hebn.2.1,hebn.2.2.1,hebn.2.2.2.2.2.1,hebn.2.2.2.2.2.2.1,hebn.2.2.2.2.2.2.2,by rcases he with he|he;exact .inl he;exact .inr (.inl he.1)⟩
     ·refine ⟨by omega,by omega,by omega,by omega,by omega,by omega,.inr (.inr (by omega))⟩
    have hres:GrR l (H.length+5) (H.length+3) (G3.length+1) (now',es'++[Rd.passE c.load c.load]) ((G3.set eb' .dead).set (H.length+3) (.cells [.vs 7 (l.road.parts.map ptE),.sl (G3.length+1) 0 (es'.length+1) 7])++[.cells (evCs [Rd.passE c.load c.load]),.cells (evCs es'++evCs [Rd.passE c.load c.load])]):=by
     refine ⟨((g3n.set _ heb'.2.1).set _ (by omega)).app _,?_,?_⟩
     ·have e:(es'++[Rd.passE c.load c.load]).length=es'.length+1:=by simp
      dsimp only
      rw[e]
      exact ((g3r.set _ heb'.1).here _).app _
     ·dsimp only
      rw[ycq]
      exact hb (by rw[List.getElem?_append_right (by simp)];simp)
    rw[show evCs [Rd.passE c.load c.load]=[.int .i64 0,.int .i64 c.load,.int .i64 c.load,.int .i64 0,.int .i64 0,.int .i64 0,.int .i64 0] from rfl] at hres
    have flk:∀ x,HB ((G3.set eb' .dead).set (H.length+3) x) (H.length+9) (.loop rz):=fun x=>(fl.set _ heb'.2.2.2.1).set _ (by omega)
    have HR:=hideP (And.intro hres (And.intro hnext (And.intro flk (And.intro heb' (And.intro c3 (And.intro he (And.intro hWb (And.intro hl (And.intro (Nat.le_trans (Nat.le_of_eq k1.symm) hl3) hs1)))))))))
    have hpl':=ybk es'
    have hel':=ybl es'
    have hb1:1≤bound:=by decide
    have hb2:es'.length+1≤bound:=by unfold bound;omega
    obtain ⟨n1,n2,n3,n4,n5,n6,_⟩:=heb'
    have n1':H.length+3≠eb':=Ne.symm n1
    have n2':H.length+5≠eb':=Ne.symm n2
    have n3':H.length≠eb':=Ne.symm n3
    have n5':qb≠eb':=Ne.symm n5
    have n6':cb≠eb':=Ne.symm n6
    have hcc1:=HCC.out.2.2 s c hgp
    have hcc2:=ge_of hcc1
    have hcc3:s * 2<ccs.length:=by have:=HCC.out.2.1;omega
    obtain ⟨p0,p1,p2⟩:=e0
    obtain ⟨q0,q1,q2⟩:=e1
    obtain ⟨r0,r1,r2⟩:=e6
    obtain ⟨a0,a1,a2⟩:=f0
    obtain ⟨b0,b1,b2⟩:=fq
    obtain ⟨cc0,cc1,cc2⟩:=fc
    obtain ⟨u0,u1,u2⟩:=g3n
    obtain ⟨v0,v1,v2⟩:=g3r
    obtain ⟨x0,x1,x2⟩:=g3e
    clear hres hnext flk c3 he hWb hl hl3 hQ ht hI hU0 hUm hG hK hpr hsm hsl hdl hdm bc hgd k2 k3 k4 j3 eq heb hG2' hebn kp3 nt fl c2 hbd hS' htf hP ba bb hgl hs5 hm hne hev hcl hcs hb0 h5 HP HX hlr hpl hset htk hzd hor5 hOr1 hOr2
    clear k1
    refine gT ?_
    obtain ⟨hres,hnext,flk,heb',c3,he,hWb,hl,hl3,hs1⟩:=HR.out
    refine ⟨by simp,?_,fun j hj=>?_,trivial,fun _=>⟨[G3.length+1],fun j hj=>?_,G3.length+1,?_,.inr ⟨by simp,by omega⟩⟩,fun h=>absurd rfl h,fun _ _ h=>h.elim⟩
    ·exact ((flk _).app _).get
    ·simp only[List.mem_append,List.mem_filter,decide_eq_true_eq,List.mem_cons,List.not_mem_nil,or_false] at hj ⊢
     rcases hj with h|h|h|h
     ·exact .inr (.inl (.inl h.1))
     ·rcases heb'.2.2.2.2.2.2 with g|g|g
      ·exact .inr (.inl (.inr (.inl (by omega))))
      ·exact .inr (.inr (.inr (by rw[h.1];exact g)))
      ·omega
     ·rcases c3 j h.1 with g|g|g
      ·exact .inr (.inl (.inl g))
      ·exact .inr (.inl (.inr (.inr g)))
      ·rcases he with he|he
       ·exact .inr (.inl (.inr (.inl (by omega))))
       ·exact .inr (.inr (.inr (by rw[g];exact he.1)))
     ·exact .inl h
    ·rw[List.mem_singleton] at hj;subst hj;exact .inr (by omega)
    ·rw[hnext];exact hres
   ·rintro H' tc W h1 h2 _ h4 h5 h6 ⟨eb,hG,he⟩
    simp only[List.length_append,List.length_cons,List.length_nil,Nat.zero_add,Nat.add_assoc,Nat.reduceAdd,List.nil_append,List.append_nil] at h1 h4 h5 h6 ⊢
    have hgd:gonT l t (Ld.order (t.w.take l.carts.length))=Ld.gone l t.w:=rfl
    have hord:(Ld.order (t.w.take l.carts.length)).length≤20:=by
     have h2:(Ld.order (t.w.take l.carts.length)).length≤(List.range 4).length * (t.w.take l.carts.length).length:=Ld.days_le _ _
     rw[List.length_take,List.length_range] at h2
     omega
    have hgl:(gonT l t (Ld.order (t.w.take l.carts.length))).length≤20:=by unfold gonT;rw[List.length_map];exact hord
    have hdm:∀ x∈gonT l t (Ld.order (t.w.take l.carts.length)),x.1≤10:=fun x hx=>by
     unfold gonT at hx
     obtain ⟨a,ha,rfl⟩:=List.mem_map.1 hx
     have:=(Ld.mem_order ha).1
     rw[List.length_take] at this
     show t.w.getD a 0≤10
     rw[ycl t (by omega)]
     exact (ht.f0 a (by omega)).2
    obtain ⟨ba,bb,bc⟩:=Ld.ahS_bd (gonT l t (Ld.order (t.w.take l.carts.length))) (0,l.road.events) (Int.le_refl _) (by show (0:Int)≤10;decide) hdm
    have htd:=ht.d1
    have htd0:=ht.d0
    have htp:=ht.parts
    have heq:(Ld.aheadR l t.w t.day).events=(Ld.untilS (Ld.ahS (0,l.road.events) (gonT l t (Ld.order (t.w.take l.carts.length)))) t.day).2:=Ld.ahead_eq l t.w t.day
    have hps:(Ld.aheadR l t.w t.day).parts=l.road.parts:=rfl
    have hbd:=Ld.untilS_bd ba bb htd
    generalize Ld.ahS (0,l.road.events) (gonT l t (Ld.order (t.w.take l.carts.length)))=S at *
    simp only at bc
    have hmem:∀ j,j=H.length+3∨j=H.length+4∨j=H.length+5→True:=fun _ _=>trivial
    have j3:∀ {j x},j<H.length+8→j≠H.length+3→j≠H.length+4→j≠H.length+5→(H++[.cells [.ptr qb 0],.cells [.int .i64 (t.f 0),.int .i64 (t.f 1),.int .i64 (t.f 2),.int .i64 (t.f 3),.int .i64 (t.f 4),.int .i64 t.load,.int .i64 t.day],.cells [.nils,.nils],.cells [.vs 7 (l.road.parts.map ptE),.sl (H.length+4) 0 l.road.events.length 7],.cells (evCs l.road.events),.cells [.int .i64 0],.cells [.fn (.func 206) [] [.ptr (H.length+5) 0,.ptr (H.length+3) 0]],.cells [pv]])[j]?=some x→HB H' j x:=fun {j x} g1 g2 g3 g4 hx=>hb (h2.at hx fun hj=>by have:=h1 j hj g1;simp at this;omega)
    have e1:=j3 (j:=H.length+1) (x:=.cells [.int .i64 (t.f 0),.int .i64 (t.f 1),.int .i64 (t.f 2),.int .i64 (t.f 3),.int .i64 (t.f 4),.int .i64 t.load,.int .i64 t.day]) (by omega) (by omega) (by omega) (by omega) (by simp)
    have e2:=j3 (j:=H.length+2) (x:=.cells [.nils,.nils]) (by omega) (by omega) (by omega) (by omega) (by simp)
    have e6:=j3 (j:=H.length+6) (x:=.cells [.fn (.func 206) [] [.ptr (H.length+5) 0,.ptr (H.length+3) 0]]) (by omega) (by omega) (by omega) (by omega) (by simp)
    have hebn:eb≠H.length+3∧eb≠H.length+5∧eb≠H.length+2:=by rcases he with he|he<;>omega
    obtain ⟨G3,eb',tc3,c1,hG3,c2,kp3,c3⟩:=hUm H' (H.length+5) (H.length+3) eb S t.day hG (by omega) hebn.1 hebn.2.1 ba bb htd0 htd (by omega)
    have f2:=hb (kp3.at e2.get (fun hj=>by have:=c3 _ hj;omega))
    have heb':eb'≠H.length+2:=by
     rcases c2 with h|h
     ·rw[h];exact hebn.2.2
     ·omega
    obtain ⟨now',es',hS'⟩:∃ now' es',Ld.untilS S t.day=(now',es'):=⟨_,_,rfl⟩
    rw[hS'] at hG3 hbd heq
    obtain ⟨g3n,g3r,g3e⟩:=hG3
    simp only at g3n g3r g3e hbd heq
    have f8:=hb (kp3.at h4 (fun hj=>by have:=c3 _ hj;rcases he with he|he<;>omega))
    have heb8:eb'≠H.length+8:=by
     rcases c2 with h|h
     ·rw[h];rcases he with he|he<;>omega
     ·omega
    have hres:roadOf ((G3.set (H.length+2) (.cells [.vs 7 (l.road.parts.map ptE),.sl eb' 0 es'.length 7])).set (H.length+8) .dead) (.agg [.vs 7 (l.road.parts.map ptE),.sl eb' 0 es'.length 7])=some (Ld.aheadR l t.w t.day):=by
     have hr:=ztf (zzr ((G3.set (H.length+2) (.cells [.vs 7 (l.road.parts.map ptE),.sl eb' 0 es'.length 7])).set (H.length+8) .dead) l.road.parts) (ykb ((g3e.set _ (Ne.symm heb')).set _ (Ne.symm heb8)).get rfl) htp (by omega)
     rw[hr,← hps,← heq]
    have HR:=hideP (And.intro hres (And.intro f8.get (And.intro kp3.len (And.intro c3 (And.intro he (And.intro h1 h5))))))
    obtain ⟨q0,q1,q2⟩:=e1
    obtain ⟨r0,r1,r2⟩:=e6
    obtain ⟨u0,u1,u2⟩:=f2
    obtain ⟨v0,v1,v2⟩:=g3r
    clear hdm hmem f8 heb8 j3 e2 hG he h1 h2 h4 h6 h5 hQ ht hI hU0 hUm hord hgl bc ba bb hbd heq hps htd htd0 htp hres hebn c2 kp3 c3 heb' hS' g3n g3e hP HP HX hgd hlr hpl hset htk hzd hor5 hOr1 hOr2 hev hcl hcs hb0 hel hsl
    refine gC ?_
    obtain ⟨hres,f8,hl3,c3,he,h1,h5⟩:=HR.out
    refine zbn (v:=.agg [.vs 7 (l.road.parts.map ptE),.sl eb' 0 es'.length 7]) (.inl rfl) rfl (by simp only;rw[List.getElem?_set_ne (by omega)];exact f8) (by omega) (by simp;omega) (by simp only[resL,resOf,zaa];simp[resV,pickC,List.getElem?_set_ne,List.getElem?_set_self u1]) ⟨⟨by simp[refs,refsL],?_⟩,hres⟩
    rw[List.append_eq_nil_iff]
    exact ⟨List.filter_eq_nil_iff.2 fun j hj=>by have:=c3 _ hj;simp;rcases he with he|he<;>omega,List.filter_eq_nil_iff.2 fun j hj=>by have:=h1 j hj;simp at this ⊢;omega⟩
 theorem orderN_call {C:Cfg}{k:Nat}(hC:C.calm=true)(hwh:∀ f,C.whole f=true)(h0:Has C 116 af116):OrderC (Ev.call C (k+1)):=by
  intro H v hv
  obtain ⟨w,hp,tc,G',c1,⟨rfl,rfl,rfl⟩,k1,k2,c3,c4⟩:=zcw (first:=[]) (captured:=[]) (args:=[v]) (H:=H) hC hwh h0 (le' rfl) (yfa C (Ev.call C k) H v hv)
  have hG':=c3 (.inl (by simp[refs,refsL]))
  rw[hG'] at c1
  exact c1
theorem ygm {C:Cfg}{n0 m:Nat}(hC:C.calm=true)(hwh:∀ f,C.whole f=true)(h0:Has C 205 af205)(l:Ld.Lo)(cb:Nat)(hOr:OrderC (Ev.call C m))(hI:OrderI C (n0+1) m)(hU0:UntC (Ev.call C n0) l)(hUm:UntC (Ev.call C m) l):AheadC (Ev.call C (m+1)) l cb:=by
 intro H qb mb hQ t ht
 obtain ⟨v,hp,tc,G',c1,⟨⟨hr,rfl⟩,h2⟩,k1,k2,c3,c4⟩:=zcw (first:=[]) (captured:=[]) (args:=[.ptr qb 0,tpA t]) (H:=H) hC hwh h0 (le' rfl) (ygl C hC hwh n0 m l cb t hOr hI hU0 hUm H qb mb hQ ht)
 have hG':=c3 (.inl hr)
 subst hG'
 exact ⟨G',v,c1,k2,h2⟩
def LateC (call:CallF)(l:Ld.Lo)(cb:Nat):Prop:=∀ (H:List AB) (qb mb:Nat),Qy l cb qb mb H→∀ (t:Tp) (i:Nat),i<l.carts.length→call (.fn (.func 200) [] []) [.agg [],.ptr qb 0,tpA t,.int .i64 i] H=some (.ret (.bool (decide ((l.carts.getD i default).due<t.day))),H,[])
theorem yhw {C:Cfg}{n0:Nat}(hC:C.calm=true)(hwh:∀ f,C.whole f=true)(h0:Has C 200 af200)(l:Ld.Lo)(cb:Nat):LateC (Ev.call C (n0+1)) l cb:=by
 intro H qb mb hQ t i hi
 obtain ⟨v,hp,tc,G,c1,⟨rfl,rfl⟩,k1,k2,c3,c4⟩:=zcw (first:=[]) (captured:=[]) (args:=[.agg [],.ptr qb 0,tpA t,.int .i64 i]) (H:=H) hC hwh h0 (le' rfl) (yjf C (Ev.call C n0) l cb H qb mb hQ t i hi)
 have hG:G=H:=c4 rfl rfl
 subst hG
 exact c1
def SinksC (call:CallF)(l:Ld.Lo)(cb:Nat):Prop:=∀ (H:List AB) (qb mb:Nat),Qy l cb qb mb H→∀ (t:Tp) (i:Nat),TpOk l t→∃ H' tc,call (.fn (.func 202) [] []) [.agg [],.ptr qb 0,tpA t,.int .i64 i] H=some (.ret (.bool (!Ld.bearT l t.w t.load t.day)),H',tc)∧(∀ j∈tc,j=mb)∧Kp tc H H'∧Qy l cb qb mb H'
theorem ygw (C:Cfg)(call:CallF)(l:Ld.Lo)(cb:Nat)(hB:BearsTC call l cb)(H:List AB)(qb mb:Nat)(hQ:Qy l cb qb mb H)(t:Tp)(i:Nat)(ht:TpOk l t):Wb C call H af202 [.agg [],.ptr qb 0,tpA t,.int .i64 i]
  (fun v hp tc=>v=.bool (!Ld.bearT l t.w t.load t.day)∧(∀ j∈tc,j=mb)∧Qy l cb qb mb hp):=by
 obtain ⟨G3,tc3,d1,d2,kp3,hQ3⟩:=hB (H++[.cells [],.cells [.int .i64 (t.f 0),.int .i64 (t.f 1),.int .i64 (t.f 2),.int .i64 (t.f 3),.int .i64 (t.f 4),.int .i64 t.load,.int .i64 t.day]]) qb mb (hQ.app _) t ht
 generalize Ld.bearT l t.w t.load t.day=b at *
 clear hB hQ ht
 unfold Wb Wa af202 Zq Zm Zo Zc Zg Zt Zy
 simp only[zipI,tpA] at *
 refine gC ?_
 have hl:=kp3.len
 simp only[List.length_append,List.length_cons,List.length_nil] at hl
 refine zac (v:=.bool (!b)) (.inl rfl) rfl (by show H.length≤G3.length;omega) (by simp only[resL,resOf,zaa];simp[*,resV]) ⟨rfl,fun j hj=>d2 j ?_,hQ3⟩
 simp at hj
 exact hj.1
theorem yer {C:Cfg}{n0:Nat}(hC:C.calm=true)(hwh:∀ f,C.whole f=true)(h0:Has C 202 af202)(l:Ld.Lo)(cb:Nat)(hB:BearsTC (Ev.call C n0) l cb):SinksC (Ev.call C (n0+1)) l cb:=by
 intro H qb mb hQ t i ht
 obtain ⟨v,hp,tc,G,c1,⟨rfl,c2,c5⟩,k1,k2,c3,c4⟩:=zcw (first:=[]) (captured:=[]) (args:=[.agg [],.ptr qb 0,tpA t,.int .i64 i]) (H:=H) hC hwh h0 (le' rfl) (ygw C (Ev.call C n0) l cb hB H qb mb hQ t i ht)
 by_cases h:tc=[]
 ·have hG:G=H:=c4 rfl h
  subst hG
  exact ⟨G,tc,c1,c2,k2,hQ⟩
 ·have hG:G=hp:=c3 (.inr h)
  subst hG
  exact ⟨G,tc,c1,c2,k2,c5⟩
def LnumC (call:CallF):Prop:=∀ H:List AB,call (.fn (.func 201) [] []) [.agg []] H=some (.ret (.int .i64 1),H,[])
theorem yhq {C:Cfg}{n0:Nat}(hC:C.calm=true)(hwh:∀ f,C.whole f=true)(h0:Has C 201 af201):LnumC (Ev.call C (n0+1)):=by
 intro H
 obtain ⟨v,hp,tc,G,c1,⟨rfl,rfl⟩,k1,k2,c3,c4⟩:=zcw (first:=[]) (captured:=[]) (args:=[.agg []]) (H:=H) hC hwh h0 (le' rfl) (yhx C (Ev.call C n0) H)
 have hG:G=H:=c4 rfl rfl
 subst hG
 exact c1
def rulesA:AV:=.agg [.iface 190 (.agg []),.iface 192 (.agg [])]
def RulesC (call:CallF):Prop:=∀ H:List AB,call (.fn (.func 117) [] []) [] H=some (.ret rulesA,H,[])
theorem ygy (C:Cfg)(call:CallF)(H:List AB):Wb C call H af117 []
  (fun v _hp tc=>v=rulesA∧tc=[]):=by
 unfold Wb Wa af117 Zq Zo Zs Zt rulesA
 simp only[zipI]
 refine gA ?_
 exact zac (.inl rfl) rfl (by simp) (by simp only[resL,resOf,zaa];simp[resV,pickC]) ⟨rfl,rfl⟩
theorem yes {C:Cfg}{n0:Nat}(hC:C.calm=true)(hwh:∀ f,C.whole f=true)(h0:Has C 117 af117):RulesC (Ev.call C (n0+1)):=by
 intro H
 obtain ⟨v,hp,tc,G,c1,⟨rfl,rfl⟩,k1,k2,c3,c4⟩:=zcw (first:=[]) (captured:=[]) (args:=[]) (H:=H) hC hwh h0 (le' rfl) (ygy C (Ev.call C n0) H)
 have hG:G=H:=c4 (by simp[rulesA,refs,refsL]) rfl
 subst hG
 exact c1
end Ro
end Ev
namespace Ld
open Rd (Evt Tr restE passE addR All Tru endR sunk rested Fine)
def OkA (v:Evt):Prop:=(v.kind=0∧v.load.lo=v.load.hi∧0≤v.load.lo∧v.load.lo≤60)∨(v.kind=1∧1≤v.days∧v.days≤10)
def ldA (v:Evt):Int:=if v.kind=0 then v.load.lo else 0
def stepA (p:Tr)(h:Int)(v:Evt):Int:=if v.kind=0 then h - sunk p v.load.lo else rested p h v.days
def endA (p:Tr)(h:Int)(es:List Evt):Int:=es.foldl (stepA p) h
theorem yie (p:Tr)(h:Int)(es:List Evt)(v:Evt):endA p h (es++[v])=stepA p (endA p h es) v:=by unfold endA;rw[List.foldl_append];rfl
theorem yjj (p:Tr)(h:Int)(es fs:List Evt):endA p h (es++fs)=endA p (endA p h es) fs:=by unfold endA;rw[List.foldl_append]
def appR (r:Rd.Road)(es:List Evt):Rd.Road:=⟨r.parts,r.events++es⟩
theorem ycf (r:Rd.Road)(es:List Evt)(v:Evt):appR r (es++[v])=addR (appR r es) v:=by simp[appR,addR]
theorem yct (r:Rd.Road):appR r []=r:=by simp[appR]
theorem ybo {α:Type}{P:List α→Prop}(h0:P [])(h1:∀ l a,P l→P (l++[a])):∀ l,P l:=by
 intro l
 have:∀ l:List α,P l.reverse:=by
  intro l
  induction l with
  |nil=>exact h0
  |cons a l ih=>rw[List.reverse_cons];exact h1 _ _ ih
 have h:=this l.reverse
 rwa [List.reverse_reverse] at h
theorem ok_two {v:Evt}(h:OkA v):v.kind≠2:=by rcases h with h|h<;>omega
theorem ycs (r:Rd.Road):∀ es:List Evt,(∀ v∈es,OkA v)→∀ ls,All (appR r es) ls↔∃ l,All r l∧ls=l++es.map ldA:=by
 refine ybo (fun _ ls=>?_) fun es v ih h ls=>?_
 ·rw[yct]
  exact ⟨fun h=>⟨ls,h,by simp⟩,fun ⟨l,h,e⟩=>by rw[e];simpa using h⟩
 ·have hv:=h v (by simp)
  have ih':=ih fun u hu=>h u (by simp[hu])
  rw[ycf,Rd.all_add (ok_two hv)]
  constructor
  ·rintro ⟨l',k,rfl,h1,h2,h3⟩
   obtain ⟨l,h4,rfl⟩:=(ih' l').1 h1
   refine ⟨l,h4,?_⟩
   rw[List.map_append,List.append_assoc]
   congr 2
   simp only[List.map_cons,List.map_nil]
   unfold ldA
   rcases hv with hv|hv
   ·have:=h2 hv.1
    simp only[Clm.Sp.has] at this
    rw[if_pos hv.1]
    congr 1;omega
   ·rw[if_neg (by omega),h3 (by omega)]
  ·rintro ⟨l,h4,rfl⟩
   refine ⟨l++es.map ldA,ldA v,by simp,(ih' _).2 ⟨l,h4,rfl⟩,fun hk=>?_,fun hk=>?_⟩
   ·unfold ldA
    rw[if_pos hk]
    simp only[Clm.Sp.has]
    rcases hv with hv|hv<;>omega
   ·unfold ldA
    rw[if_neg hk]
theorem ykf {r:Rd.Road}{l:List Int}(hl:All r l)(es:List Evt):(l++es.map ldA).length=(appR r es).events.length:=by
 have:=hl.1.1
 simp[appR,this]
theorem yil {r:Rd.Road}{l:List Int}(hl:All r l)(i:Nat)(p:Tr)(h:Int):∀ es:List Evt,(∀ v∈es,OkA v)→(Tru (appR r es) (l++es.map ldA) i p h↔Tru r l i p h)∧endR (appR r es) p h (l++es.map ldA)=endA p (endR r p h l) es:=by
 refine ybo (fun _=>?_) fun es v ih hok=>?_
 ·rw[yct];simp[endA]
 ·have hv:=hok v (by simp)
  obtain ⟨i1,i2⟩:=ih fun u hu=>hok u (by simp[hu])
  have hlen:=ykf hl es
  rw[ycf,List.map_append,← List.append_assoc]
  simp only[List.map_cons,List.map_nil]
  constructor
  ·rw[Rd.tru_add hlen,i1]
   exact ⟨fun h=>h.1,fun h=>⟨h,fun hk=>absurd hk (ok_two hv)⟩⟩
  ·have hn:=Rd.height_new (v:=v) hlen (ldA v) p h
   have e:endR (addR (appR r es) v) p h (l++es.map ldA++[ldA v])=Rd.stepE v p (endR (appR r es) p h (l++es.map ldA)) (ldA v):=by
    unfold endR
    rw[show (addR (appR r es) v).events.length=(appR r es).events.length+1 by simp[addR]]
    exact hn
   rw[e,i2,yie]
   unfold Rd.stepE stepA ldA
   rcases hv with hv|hv
   ·rw[if_pos hv.1,if_pos hv.1,if_pos hv.1]
   ·rw[if_neg (by omega),if_pos hv.1,if_neg (by omega)]
theorem yjn {r:Rd.Road}(hr:Fine r):∀ es:List Evt,(∀ v∈es,OkA v)→r.events.length+es.length≤10→Fine (appR r es):=by
 refine ybo (fun _ _=>by rw[yct];exact hr) fun es v ih hok hlen=>?_
 rw[List.length_append,List.length_singleton] at hlen
 have hv:=hok v (by simp)
 rw[ycf]
 refine Rd.fine_add (ih (fun u hu=>hok u (by simp[hu])) (by omega)) (by simp[appR];omega) ?_ ?_
 ·rcases hv with hv|hv
  ·exact .inl ⟨hv.1,hv.2.2.1,by omega,by omega,by omega⟩
  ·exact .inr (.inl hv)
 ·rintro ⟨h1,h2⟩
  rcases hv with hv|hv<;>omega
theorem ykg {r:Rd.Road}(es:List Evt)(hok:∀ v∈es,OkA v):Rd.canR (appR r es) (Rd.everyR (appR r es))=Rd.canR r (Rd.everyR r):=by
 refine Rd.can_eq ⟨?_,?_⟩
 ·rintro ⟨ls,h⟩
  obtain ⟨l,h1,_⟩:=(ycs r es hok ls).1 h
  exact ⟨l,h1⟩
 ·rintro ⟨l,h⟩
  exact ⟨_,(ycs r es hok _).2 ⟨l,h,rfl⟩⟩
theorem yjm (r:Rd.Road)(es:List Evt)(hok:∀ v∈es,OkA v)(load:Int):Rd.sureR (appR r es) 0 load=true↔∀ l,All r l→∀ i,i<r.parts.length→∀ p h,Tru r l i p h→0≤rested p (endA p (endR r p h l) es) 0 - sunk p load:=by
 rw[Rd.sure_iff]
 constructor
 ·intro H l hl i hi p h ht
  obtain ⟨e1,e2⟩:=yil hl i p h es hok
  have:=H _ ((ycs r es hok _).2 ⟨l,hl,rfl⟩) i hi p h (e1.2 ht)
  rwa [e2] at this
 ·intro H ls hls i hi p h ht
  obtain ⟨l,hl,rfl⟩:=(ycs r es hok ls).1 hls
  obtain ⟨e1,e2⟩:=yil hl i p h es hok
  rw[e2]
  exact H l hl i hi p h (e1.1 ht)
theorem ycp {α:Type}{R:α→α→Prop}(ha:∀ a b,R a b→R b a→False):∀ {l m:List α},l.Pairwise R→m.Pairwise R→(∀ x,x∈l↔x∈m)→l=m
 |[],[],_,_,_=>rfl
 |[],b::m,_,_,h=>absurd ((h b).2 (by simp)) (by simp)
 |a::l,[],_,_,h=>absurd ((h a).1 (by simp)) (by simp)
 |a::l,b::m,hl,hm,h=>by
  obtain ⟨l1,l2⟩:=List.pairwise_cons.1 hl
  obtain ⟨m1,m2⟩:=List.pairwise_cons.1 hm
  have hab:a=b:=by
   rcases List.mem_cons.1 ((h a).1 (by simp)) with e|h1
   ·exact e
   ·rcases List.mem_cons.1 ((h b).2 (by simp)) with e|h2
    ·exact e.symm
    ·exact absurd (m1 a h1) fun h3=>ha _ _ h3 (l1 b h2)
  subst hab
  have hirr:¬ R a a:=fun h=>ha _ _ h h
  congr 1
  refine ycp ha l2 m2 fun x=>⟨fun hx=>?_,fun hx=>?_⟩
  ·rcases List.mem_cons.1 ((h x).1 (by simp[hx])) with e|h1
   ·subst e;exact absurd (l1 x hx) hirr
   ·exact h1
  ·rcases List.mem_cons.1 ((h x).2 (by simp[hx])) with e|h1
   ·subst e;exact absurd (m1 x hx) hirr
   ·exact h1
def Bef (p:List Int)(a b:Nat):Prop:=p.getD a 0<p.getD b 0∨(p.getD a 0=p.getD b 0∧a<b)
theorem yce (p:List Int)(a b:Nat)(h1:Bef p a b)(h2:Bef p b a):False:=by
 unfold Bef at h1 h2
 omega
theorem mem_onDay {p:List Int}{d i:Nat}:i∈onDay p d↔i<p.length∧p.getD i 0=(d:Int):=by
 unfold onDay
 simp only[List.mem_filter,List.mem_range,beq_iff_eq]
theorem mem_order_iff {p:List Int}{i:Nat}:i∈order p↔i<p.length∧0≤p.getD i 0∧p.getD i 0<4:=by
 unfold order
 simp only[List.mem_flatMap,List.mem_range,mem_onDay]
 constructor
 ·rintro ⟨d,hd,hi,e⟩;exact ⟨hi,by omega,by omega⟩
 ·rintro ⟨hi,h0,h1⟩;exact ⟨(p.getD i 0).toNat,by omega,hi,by omega⟩
theorem yhi (p:List Int)(d:Nat):(onDay p d).Pairwise (Bef p):=by
 have h:=List.Pairwise.filter (fun i=>p.getD i 0==(d:Int)) (List.pairwise_lt_range (n:=p.length))
 refine List.Pairwise.imp_of_mem ?_ h
 intro a b ha hb hab
 have h1:=(mem_onDay.1 ha).2
 have h2:=(mem_onDay.1 hb).2
 exact .inr ⟨by omega,hab⟩
theorem ybi (p:List Int):(order p).Pairwise (Bef p):=by
 unfold order
 have h:∀ L:List Nat,L.Pairwise (·<·)→(L.flatMap (onDay p)).Pairwise (Bef p):=by
  intro L
  induction L with
  |nil=>intro _;simp
  |cons d L ih=>
   intro hL
   obtain ⟨l1,l2⟩:=List.pairwise_cons.1 hL
   rw[List.flatMap_cons,List.pairwise_append]
   refine ⟨yhi p d,ih l2,fun a ha b hb=>?_⟩
   obtain ⟨e,he,hb⟩:=List.mem_flatMap.1 hb
   have h1:=(mem_onDay.1 ha).2
   have h2:=(mem_onDay.1 hb).2
   have:=l1 e he
   exact .inl (by omega)
 exact h _ List.pairwise_lt_range
def wOf (p:List Int)(A:List Nat):List Int:=A.foldl (fun w i=>w.set i (p.getD i 0)) stay5
theorem wOf_snoc (p:List Int)(A:List Nat)(i:Nat):wOf p (A++[i])=(wOf p A).set i (p.getD i 0):=by unfold wOf;rw[List.foldl_append];rfl
theorem wOf_len (p:List Int):∀ A:List Nat,(wOf p A).length=5:=by
 refine ybo rfl fun A i ih=>?_
 rw[wOf_snoc,List.length_set,ih]
theorem wOf_get (p:List Int)(j:Nat)(hj:j<5):∀ A:List Nat,(wOf p A).getD j 0=if j∈A then p.getD j 0 else -1:=by
 refine ybo ?_ fun A i ih=>?_
 ·match j,hj with
  |0,_|1,_|2,_|3,_|4,_=>rfl
 ·rw[wOf_snoc]
  have hl:=wOf_len p A
  rw[List.getD_eq_getElem?_getD] at ih ⊢
  by_cases h:i=j
  ·subst h
   rw[List.getElem?_set_self (by omega),if_pos (by simp)];rfl
  ·rw[List.getElem?_set_ne h,ih]
   have:j∈A++[i]↔j∈A:=by simp only[List.mem_append,List.mem_singleton];exact ⟨fun hh=>hh.elim id fun e=>absurd e.symm h,.inl⟩
   by_cases hA:j∈A
   ·rw[if_pos hA,if_pos (this.2 hA)]
   ·rw[if_neg hA,if_neg fun hh=>hA (this.1 hh)]
theorem yhe {p:List Int}(hp:p.length≤5){A B:List Nat}(h:order p=A++B):order ((wOf p A).take p.length)=A:=by
 have hmem:∀ x∈A,x<p.length∧0≤p.getD x 0∧p.getD x 0<4:=fun x hx=>mem_order_iff.1 (by rw[h];simp[hx])
 have hl:=wOf_len p A
 have hg:∀ x,x<p.length→((wOf p A).take p.length).getD x 0=if x∈A then p.getD x 0 else -1:=fun x hx=>by
  rw[← wOf_get p x (by omega) A,List.getD_eq_getElem?_getD,List.getD_eq_getElem?_getD,List.getElem?_take_of_lt hx]
 have hlen:((wOf p A).take p.length).length=p.length:=by rw[List.length_take];omega
 have hinc:A.Pairwise (Bef p):=by
  have:=ybi p
  rw[h] at this
  exact (List.pairwise_append.1 this).1
 refine ycp (yce ((wOf p A).take p.length)) (ybi _) (List.Pairwise.imp_of_mem ?_ hinc) fun x=>?_
 ·intro a b ha hb hab
  unfold Bef at hab ⊢
  rw[hg a (hmem a ha).1,hg b (hmem b hb).1,if_pos ha,if_pos hb]
  exact hab
 ·rw[mem_order_iff,hlen]
  constructor
  ·rintro ⟨h1,h2,h3⟩
   rw[hg x h1] at h2
   by_cases hx:x∈A
   ·exact hx
   ·rw[if_neg hx] at h2;omega
  ·intro hx
   obtain ⟨h1,h2,h3⟩:=hmem x hx
   exact ⟨h1,by rw[hg x h1,if_pos hx];exact ⟨h2,h3⟩⟩
def gonA (l:Lo)(p:List Int)(A:List Nat):List (Int × Int):=A.map fun i=>(p.getD i 0,(l.carts.getD i default).load)
theorem yjg {l:Lo}{p:List Int}(hp:p.length=l.carts.length)(h5:p.length≤5){A B:List Nat}(h:order p=A++B):gone l (wOf p A)=gonA l p A:=by
 unfold gone gonA
 rw[← hp,yhe h5 h]
 refine List.map_congr_left fun i hi=>?_
 have hm:i∈order p:=by rw[h];simp[hi]
 rw[wOf_get p i (by have:=(mem_order_iff.1 hm).1;omega) A,if_pos hi]
def okCartAt (l:Lo)(p:List Int)(A:List Nat)(i:Nat):Prop:=p.getD i 0≤(l.carts.getD i default).due∧bearT l (wOf p A) (l.carts.getD i default).load (p.getD i 0)=true
theorem yby (l:Lo)(p:List Int):∀ (L A:List Nat),brokenL l p L (wOf p A)=none↔∀ A' i B,L=A'++i::B→okCartAt l p (A++A') i
 |[],A=>by
   constructor
   ·intro _ A' i B h;simp at h
   ·intro _;rfl
 |j::L,A=>by
  have ih:=yby l p L (A++[j])
  rw[wOf_snoc] at ih
  rw[brokenL]
  by_cases h1:(l.carts.getD j default).due<p.getD j 0
  ·rw[if_pos h1]
   refine ⟨fun h=>(by cases h),fun h=>?_⟩
   have:=(h [] j L rfl).1
   omega
  ·rw[if_neg h1]
   by_cases h2:bearT l (wOf p A) (l.carts.getD j default).load (p.getD j 0)=false
   ·rw[if_pos h2]
    refine ⟨fun h=>(by cases h),fun h=>?_⟩
    have:=(h [] j L rfl).2
    rw[List.append_nil,h2] at this;cases this
   ·rw[if_neg h2,ih]
    constructor
    ·intro h A' i B e
     cases A' with
     |nil=>
      obtain ⟨rfl,rfl⟩:=List.cons.inj e
      rw[List.append_nil]
      exact ⟨by omega,by simpa using h2⟩
     |cons a A'=>
      obtain ⟨rfl,e2⟩:=List.cons.inj e
      have:=h A' i B e2
      rwa [List.append_assoc] at this
    ·intro h A' i B e
     have:=h (j::A') i B (by rw[e];rfl)
     rwa [List.append_assoc]
theorem right_iff (l:Lo)(p:List Int):right l p=true↔∀ A i B,order p=A++i::B→okCartAt l p A i:=by
 unfold right brokenR
 have:=yby l p (order p) []
 rw[show wOf p []=stay5 from rfl] at this
 rw[Option.isNone_iff_eq_none,this]
 simp only[List.nil_append]
end Ld
namespace Ev
namespace Ro
open K
attribute [local simp] ev1 wantG spineK spine float xnew xval xeff zab zae zau zah zai addFl cellsOf pickC alive slLen slFt binI maxA maxK minA minK aeqK aeqS AV.cells spA zad fillA setAt bitsI nat_nn zav AV.plain apart
set_option maxRecDepth 100000
set_option maxHeartbeats 4000000
def SnumC (call:CallF):Prop:=∀ H:List AB,call (.fn (.func 203) [] []) [.agg []] H=some (.ret (.int .i64 2),H,[])
structure LdWell (l:Ld.Lo):Prop where
 ev:l.road.events.length≤2
 parts:l.road.parts.length≤40
 carts:l.carts.length≤5
 ld:∀ c∈l.carts,-1000000≤c.load∧c.load≤1000000
def wCs (w:List Int)(x y:Int):List AV:=[.int .i64 (w.getD 0 0),.int .i64 (w.getD 1 0),.int .i64 (w.getD 2 0),.int .i64 (w.getD 3 0),.int .i64 (w.getD 4 0),.int .i64 x,.int .i64 y]
def BJ (l:Ld.Lo)(p:List Int)(cb qb mb o:Nat)(d:List Nat)(G:List AB):Prop:=
 (∃ L,Ld.order p=d++L∧Ld.brokenR l p=Ld.brokenL l p L (Ld.wOf p d))∧Qy l cb qb mb G∧G[o+2]?=some (.cells [.int .i64 0])∧G[o+3]?=some (.cells [.int .i64 0])∧∃ x y,G[o+4]?=some (.cells (wCs (Ld.wOf p d) x y))
def BE (l:Ld.Lo)(p:List Int)(cb qb mb o:Nat)(e:AExit)(G:List AB):Prop:=
 e=.ret∧Qy l cb qb mb G∧∃ i r,Ld.brokenR l p=some (i,r)∧G[o+2]?=some (.cells [.int .i64 i])∧G[o+3]?=some (.cells [.int .i64 r])
def brkV (l:Ld.Lo)(p:List Int):AV:=match Ld.brokenR l p with
 |none=>.tup [.int .i64 0,.int .i64 0]
 |some (i,r)=>.tup [.int .i64 i,.int .i64 r]
theorem ydw (C:Cfg)(hC:C.calm=true)(hwh:∀ f,C.whole f=true)(n0 m:Nat)(l:Ld.Lo)(cb:Nat)(hl:LdWell l)(p:List Int)(hpl:p.length≤l.carts.length)(hOr:OrderC (Ev.call C m))(hI:OrderI C (n0+1) m)(hR:RulesC (Ev.call C n0))(hLa:LateC (Ev.call C n0) l cb)(hSi:SinksC (Ev.call C n0) l cb)(hLn:LnumC (Ev.call C n0))(hSn:SnumC (Ev.call C n0))(H:List AB)(qb mb:Nat)(hQ:Qy l cb qb mb H)(v:AV)(hv:PlV (fun b=>b≠mb∧b<H.length) H p v):
  Wb C (Ev.call C m) H af53 [.ptr qb 0,v]
   (fun w hp tc=>w=brkV l p∧(∀ j∈tc,j=mb)∧Qy l cb qb mb hp):=by
 have hq:=hQ.ql
 have hm:=hQ.ml
 have hne:=hQ.ne
 have hcbl:=hQ.cl
 have hcbm:=hQ.nc
 have hOr1:=hOr (H++[.cells [.ptr qb 0],.cells [v],.cells [.int .i64 0],.cells [.int .i64 0],.cells [.int .i64 (-1),.int .i64 (-1),.int .i64 (-1),.int .i64 (-1),.int .i64 (-1),.int .i64 0,.int .i64 0]]) v hv.isSl
 have HX:=hideP (And.intro hQ (And.intro hl (And.intro hI (And.intro hR (And.intro hLa (And.intro hSi (And.intro hLn (And.intro hSn hv))))))))
 clear hOr hQ hl hI hR hLa hSi hLn hSn hv
 unfold Wb Wa af53 Zq Zr Zu Zm Zl Zo Zs Zd Ze Zc Zb Zf Zg Zj Zt Zn Zi
 simp only[zipI] at *
 have w1:IntKind.i64.wrap 1=1:=by decide
 have w2:IntKind.i64.wrap 2=2:=by decide
 have w3:IntKind.i64.wrap 3=3:=by decide
 have w4:IntKind.i64.wrap 4=4:=by decide
 have w5:IntKind.i64.wrap 5=5:=by decide
 have hsl:=HX.out.2.2.2.2.2.2.2.2.isSl
 cases hsl
 case' none=>
  refine gA ?_
  generalize AV.nils=v at *
 case' some b o n k=>
  refine gA ?_
  generalize AV.sl b o n k=v at *
 case' vs k es=>
  refine gA ?_
  generalize AV.vs k es=v at *
 all_goals
  with_reducible refine zan hC 5 (by unfold fuelL;omega) (fun i st=>st={ tm:=tmA 54 [(11,.int .i64 i),(6,.ptr (H.length+4) 0),(5,.ptr (H.length+3) 0),(4,.ptr (H.length+2) 0),(3,.ptr (H.length+1) 0),(2,.ptr H.length 0)],df:=[],hp:=H++[.cells [.ptr qb 0],.cells [v],.cells [.int .i64 0],.cells [.int .i64 0],.cells (List.replicate i (.int .i64 (-1))++List.replicate (7 - i) (.int .i64 0))],tc:=[] }) ?_ ?_ ?_
  ·refine st_is ?_ rfl rfl rfl
   simp[zag,zal]
  ·rintro i st hi rfl
   match i,hi with
   |0,_|1,_|2,_|3,_|4,_=>
    simp only[List.replicate,List.cons_append,List.nil_append,Nat.reduceSub,Nat.zero_add,Nat.reduceAdd]
    refine gA ?_
    refine st_is ?_ rfl rfl rfl
    simp[zag,zal]
  ·rintro st rfl
   simp only[List.replicate,List.cons_append,List.nil_append,Nat.reduceSub]
   clear w1 w2 w3 w4 w5
   refine gE ?_
   obtain ⟨hQ,hl,hI,hR,hLa,hSi,hLn,hSn,hv⟩:=HX.out
   have hor5:p.length≤1000:=by have:=hl.carts;omega
   have hb5:p.length≤5:=by have:=hl.carts;omega
   refine zbz hC hwh (hI p v (H.length+5) (fun _=>True) hor5) (by simp[zab]) rfl [H.length+2,H.length+3,H.length+4,mb] (by simp;omega) (by simp)
    (fun d _ G=>BJ l p cb qb mb H.length d G) (fun e _ G=>BE l p cb qb mb H.length e G) (fun rz=>?_) (fun _ _ _ _=>trivial) (fun rz=>?_) (fun rz=>trivial) (fun d W G G' hJ hW k=>?_) (fun e d G G' hE k=>?_) ?_ ?_ ?_
   ·refine ⟨by simp,by simp;omega,hv.keep (fun b _ hb=>?_) fun b x hb hx=>?_⟩
    ·simp;omega
    ·rw[List.append_assoc,List.getElem?_append_left hb.2];exact hx
   ·refine ⟨⟨Ld.order p,rfl,rfl⟩,?_,by simp,by simp,0,0,by simp[wCs,Ld.wOf,Ld.stay5]⟩
    rw[List.append_assoc]
    exact hQ.app _
   ·simp only[List.length_append,List.length_cons,List.length_nil,Nat.zero_add,Nat.add_assoc,Nat.reduceAdd] at k
    obtain ⟨g1,g2,g3,g4,x,y,g5⟩:=hJ
    exact ⟨g1,g2.sm (k _ g2.ql (.inl (by omega)) (by simp) (by omega)) (k _ g2.ml (.inl (by omega)) (by simp) (by omega)) (k _ g2.cl (.inl (by omega)) (by simp) (by omega)),(k _ (get_lt g3) (.inl (by omega)) (by simp) (by omega)).trans g3,(k _ (get_lt g4) (.inl (by omega)) (by simp) (by omega)).trans g4,x,y,(k _ (get_lt g5) (.inl (by omega)) (by simp) (by omega)).trans g5⟩
   ·simp only[List.length_append,List.length_cons,List.length_nil,Nat.zero_add,Nat.add_assoc,Nat.reduceAdd] at k
    obtain ⟨g1,g2,i,r,g3,g4,g5⟩:=hE
    exact ⟨g1,g2.sm (k _ (by omega) (by omega)) (k _ (by omega) (by omega)) (k _ (by omega) (by omega)),i,r,g3,(k _ (by omega) (by omega)).trans g4,(k _ (by omega) (by omega)).trans g5⟩
   ·rintro d s W G rz hpr ⟨⟨L,e1,e2⟩,g2,g3,g4,x,y,g5⟩ _ hK hlG hWb
    simp only[List.length_append,List.length_cons,List.length_nil,Nat.zero_add,Nat.add_assoc,Nat.reduceAdd,List.nil_append] at hlG hWb hK ⊢
    rw[setP1]
    have hsm:s∈Ld.order p:=hpr.subset (by simp)
    obtain ⟨s1,s2,s3⟩:=Ld.mem_order hsm
    obtain ⟨L2,rfl⟩:∃ L2,L=s::L2:=by
     obtain ⟨L2,h⟩:=hpr
     rw[e1,List.append_assoc] at h
     exact ⟨L2,(List.append_cancel_left h).symm⟩
    have hs5:s<5:=by omega
    have hs1:s<l.carts.length:=by omega
    have hgp:l.carts[s]?=some l.carts[s]:=List.getElem?_eq_getElem hs1
    have hgd:l.carts.getD s default=l.carts[s]:=by rw[List.getD_eq_getElem?_getD,hgp];rfl
    have hld:=hl.ld l.carts[s] (List.getElem_mem hs1)
    rw[Ld.brokenL,← Ld.wOf_snoc,hgd] at e2
    have hwf:∀ i,i<5→-1≤(Ld.wOf p d).getD i 0∧(Ld.wOf p d).getD i 0≤10:=fun i hi=>by
     rw[Ld.wOf_get p i hi]
     split
     ·rename_i h
      have:=Ld.mem_order (e1 ▸ List.mem_append_left _ h)
      omega
     ·omega
    have hgp':=ge_of hgp
    have hs1i:(s:Int)<l.carts.length:=by omega
    have hs5i:(s:Int)<5:=by omega
    have hsp:(s:Int)<p.length:=by omega
    refine gA ?_
    refine ⟨trivial,trivial,?_⟩
    obtain ⟨G2,hG2,z1,z2,z3,z4⟩:=zdg (G:=G) (l:=H.length+7) (.loop rz) (by omega)
    rw[← hG2]
    clear hG2
    have zz:∀ {j x},j≠H.length+7→G[j]?=some x→HB G2 j x:=fun h1 h2=>hb ((z3 _ h1).trans h2)
    have k0:HB G2 H.length (.cells [.ptr qb 0]):=zz (by omega) (hK.at (by simp) (by simp;omega))
    have k1:HB G2 (H.length+1) (.cells [v]):=zz (by omega) (hK.at (by simp) (by simp;omega))
    have kP:PlV (fun b=>b<H.length) G2 p v:=hv.keep (fun _ _ h=>h.2) fun b x hb hx=>(zz (by omega) (hK.at (by rw[List.getElem?_append_left hb.2];exact hx) (by simp;omega))).get
    have hshape:v=.vs 1 (ints p)∨∃ b cs,v=.sl b 0 p.length 1∧G2[b]?=some (.cells cs)∧b<H.length∧s<cs.length∧cs[s]?=some (.int .i64 (p.getD s 0)):=by
     cases kP with
     |vs=>exact .inl rfl
     |none h=>rw[h] at s1;simp at s1
     |some b cs hb h2 h3 h4=>exact .inr ⟨b,cs,rfl,h2,hb,by omega,h4 s s1⟩
    have hil:(ints p).length=p.length:=by simp[ints]
    have hia:=ybh p s1
    have hia':=ge_of hia
    have hRG:=hR
    unfold RulesC at hRG
    have g2':Qy l cb qb mb G2:=g2.sm (z3 _ (by omega)) (z3 _ (by omega)) (z3 _ (by omega))
    have g3':=zz (by omega) g3
    have g4':=zz (by omega) g4
    have g5':=zz (by omega) g5
    have glt:=get_lt g5
    obtain ⟨cv,hq1,hq2⟩:=g2'.q
    obtain ⟨Q0,Q1,Q2⟩:=hb hq1
    obtain ⟨hca,hcb⟩:=ycr hgp
    have hccl:=ybm l.carts
    obtain ⟨A0,A1,A2⟩:=k0
    obtain ⟨B0,B1,B2⟩:=k1
    obtain ⟨C0,C1,C2⟩:=g3'
    obtain ⟨D0,D1,D2⟩:=g4'
    obtain ⟨E0,E1,E2⟩:=g5'
    unfold wCs at E0
    generalize l.carts[s]=c at *
    generalize hday:p.getD s 0=day at *
    have hwl:=Ld.wOf_len p d
    have hwe:(⟨fun i=>(Ld.wOf p d).getD i 0,c.load,day⟩:Tp).w=Ld.wOf p d:=by
     unfold Tp.w
     match Ld.wOf p d,hwl with
     |[_,_,_,_,_],_=>rfl
    have htok:TpOk l ⟨fun i=>(Ld.wOf p d).getD i 0,c.load,day⟩:=⟨hl.ev,hl.parts,hl.carts,hwf,by show -10≤day;omega,by show day≤10;omega,hld.1,hld.2⟩
    have hLt:=fun (Gx:List AB) (h:Qy l cb qb mb Gx)=>hLa Gx qb mb h ⟨fun i=>(Ld.wOf p d).getD i 0,c.load,day⟩ s hs1
    have hSt:=fun (Gx:List AB) (h:Qy l cb qb mb Gx)=>hSi Gx qb mb h ⟨fun i=>(Ld.wOf p d).getD i 0,c.load,day⟩ s htok
    rw[hwe] at hSt
    rw[hgd] at hLt
    unfold tpA at hLt hSt
    dsimp only at hLt hSt
    clear htok hwe hwl
    have HY:=hideP (And.intro hpr (And.intro e1 (And.intro e2 (And.intro g2' (And.intro z2 (And.intro hwf (And.intro hld hgd)))))))
    clear hpr e1 e2 g2 g3 g4 g5 g2' hK hwf hld hgd hsm hOr1 kP z2 z3 z4 zz
    generalize ha0:(Ld.wOf p d).getD 0 0=a0 at *
    generalize ha1:(Ld.wOf p d).getD 1 0=a1 at *
    generalize ha2:(Ld.wOf p d).getD 2 0=a2 at *
    generalize ha3:(Ld.wOf p d).getD 3 0=a3 at *
    generalize ha4:(Ld.wOf p d).getD 4 0=a4 at *
    have HA:=hideP (And.intro ha0 (And.intro ha1 (And.intro ha2 (And.intro ha3 ha4))))
    clear ha0 ha1 ha2 ha3 ha4 HX
    have hQG:∀ x,HB (G2.set (H.length+4) x) H.length (.cells [.ptr qb 0]):=fun x=>(HB.mk A0 A1 A2).set _ (by omega)
    have gl0:H.length<G.length:=by omega
    have gl1:H.length+1<G.length:=by omega
    have glq:qb<G.length:=by omega
    have nq1:¬ (qb=H.length+4):=by omega
    have nq2:¬ (H.length+4=qb):=by omega
    have glc:cb<G.length:=by omega
    have nc1:¬ (cb=H.length+4):=by omega
    have nc2:¬ (H.length+4=cb):=by omega
    have hcc3:s * 2<(caCs l.carts).length:=by omega
    have hca':=ge_of hca
    have hq3:cv=.vs 2 (l.carts.map cE)∨(cv=.sl cb 0 l.carts.length 2∧HB G2 cb (.cells (caCs l.carts))):=hq2.imp id fun g=>⟨g.1,hb g.2⟩
    clear hq1 hq2 hcb hccl
    generalize caCs l.carts=ccs at *
    rcases hshape with rfl|⟨b,cs,rfl,P0,hbl,P1,P2⟩
    all_goals rcases hq3 with rfl|⟨rfl,K0,K1,K2⟩
    all_goals
     try
      have P3:=ge_of P2
      have glb:b<G.length:=by omega
      have nb1:¬ (b=H.length+4):=by omega
      have nb2:¬ (H.length+4=b):=by omega
    all_goals
     refine gT ?_
    all_goals first|clear P0 P1 P2 P3 nb1 nb2 glb hbl|skip
    all_goals first|clear K0 K1 K2|skip
    all_goals clear hia hia' hil hca hca' glc nc1 nc2 hcc3
    all_goals
     with_reducible refine zan hC 2 (by unfold fuelL;omega) (fun i st=>∃ tc Gx,(∀ j∈tc,j=H.length+4∨j=H.length+7∨j=mb)∧(1≤i→¬ c.due<day)∧(2≤i→Ld.bearT l (Ld.wOf p d) c.load day=true)∧Kp [mb] (G2.set (H.length+4) (.cells [.int .i64 a0,.int .i64 a1,.int .i64 a2,.int .i64 a3,.int .i64 a4,.int .i64 c.load,.int .i64 day])) Gx∧Qy l cb qb mb Gx∧st={ tm:=tmA 54 [(37,.int .i64 i),(36,rulesA),(8,.int .i64 s),(6,.ptr (H.length+4) 0),(5,.ptr (H.length+3) 0),(4,.ptr (H.length+2) 0),(2,.ptr H.length 0)],df:=[],hp:=Gx,tc:=tc }) ?_ ?_ ?_
     ·obtain ⟨_,_,_,g2',_⟩:=HY.out
      refine ⟨_,_,?_,by omega,by omega,Kp.refl _ _,g2'.sm (List.getElem?_set_ne nq2) (List.getElem?_set_ne (by omega)) (List.getElem?_set_ne (by omega)),st_is ?_ rfl rfl rfl⟩
      ·intro j hj;simp at hj;omega
      ·simp[zag,zal]
     ·rintro i st hi ⟨tc,Gx,t1,t2,t3,kx,qx,rfl⟩
      obtain ⟨hpr,e1,e2,g2',z2,_⟩:=HY.out
      have xx:∀ {j x},j≠H.length+4→j≠mb→G2[j]?=some x→HB Gx j x:=fun h1 h2 h3=>hb (kx.at (by rw[List.getElem?_set_ne (Ne.symm h1)];exact h3) (by simpa using h2))
      have u0:=xx (by omega) (by omega) A0
      have u2:=xx (by omega) (by omega) C0
      have u3:=xx (by omega) (by omega) D0
      have u7:=xx (by omega) (by omega) z2
      have u4:HB Gx (H.length+4) (.cells [.int .i64 a0,.int .i64 a1,.int .i64 a2,.int .i64 a3,.int .i64 a4,.int .i64 c.load,.int .i64 day]):=hb (kx.at (List.getElem?_set_self E1) (by simp;omega))
      have hgx:G2.length≤Gx.length:=by have:=kx.len;rwa [List.length_set] at this
      obtain ⟨A0,A1,A2⟩:=u0
      obtain ⟨C0,C1,C2⟩:=u2
      obtain ⟨D0,D1,D2⟩:=u3
      obtain ⟨E0,E1,E2⟩:=u4
      have hend:∀ (r:Nat) (z:Int),z=r→Ld.brokenR l p=some (s,r)→BE l p cb qb mb H.length .ret ((Gx.set (H.length+2) (.cells [.int .i64 s])).set (H.length+3) (.cells [.int .i64 z])):=fun r z hz hr=>by
       subst hz
       refine ⟨rfl,qx.sm (by rw[List.getElem?_set_ne (by omega),List.getElem?_set_ne (by omega)]) (by rw[List.getElem?_set_ne (by omega),List.getElem?_set_ne (by omega)]) (by rw[List.getElem?_set_ne (by omega),List.getElem?_set_ne (by omega)]),s,r,hr,?_,?_⟩
       ·rw[List.getElem?_set_ne (by omega)];exact List.getElem?_set_self C1
       ·exact List.getElem?_set_self (by simpa using D1)
      have h7:∀ x y,((Gx.set (H.length+2) x).set (H.length+3) y)[H.length+7]?=some (.loop rz):=fun x y=>by rw[List.getElem?_set_ne (by omega),List.getElem?_set_ne (by omega)];exact u7.get
      have hL1:=hLt Gx qx
      have hL2:=hLn Gx
      have HZ:=hideP (And.intro hpr (And.intro e1 (And.intro e2 (And.intro t1 (And.intro t2 (And.intro kx (And.intro qx (And.intro hend h7))))))))
      match i,hi with
      |0,_=>
       by_cases hc:c.due<day
       ·rw[decide_eq_true hc] at hL1
        clear hpr e1 e2 g2' z2 t1 t2 t3 kx qx xx u7 hend h7 hLt hSt hSn hQG
        unfold rulesA
        refine gU ?_
        obtain ⟨hpr,e1,e2,t1,t2,kx,qx,hend,h7⟩:=HZ.out
        refine ⟨by simp,h7 _ _,fun j hj=>?_,trivial,fun h=>(nomatch h),fun _=>hend 1 _ rfl (by rw[e2,if_pos hc]),fun _ _ h=>h.elim⟩
        simp at hj ⊢
        rcases hj with h|h|h
        ·omega
        ·omega
        ·have:=t1 j h;omega
       ·rw[decide_eq_false hc] at hL1
        clear hpr e1 e2 g2' z2 t1 t2 t3 kx qx xx u7 hend h7 hLt hSt hSn hQG
        unfold rulesA
        refine gU ?_
        obtain ⟨hpr,e1,e2,t1,t2,kx,qx,hend,h7⟩:=HZ.out
        refine ⟨_,_,t1,fun _=>hc,by omega,kx,qx,st_is ?_ rfl rfl rfl⟩
        simp[zag,zal,show IntKind.i64.wrap 1=1 from by decide]
      |1,_=>
       have hc:=t2 (Nat.le_refl _)
       cases hbr:Ld.bearT l (Ld.wOf p d) c.load day with
       |false=>
        obtain ⟨G3,tc3,c1,c2,k3,q3⟩:=hSt Gx qx
        rw[hbr] at c1
        simp only[Bool.not_false] at c1
        have ww:∀ {j x},j≠mb→Gx[j]?=some x→HB G3 j x:=fun h1 h2=>hb (k3.at h2 fun hj=>h1 (c2 _ hj))
        have v0:=ww (by omega) A0
        have v2:=ww (by omega) C0
        have v3:=ww (by omega) D0
        have v7:=ww (by omega) u7.get
        have hS3:=hSn G3
        have hend:∀ (r:Nat) (z:Int),z=r→Ld.brokenR l p=some (s,r)→BE l p cb qb mb H.length .ret ((G3.set (H.length+2) (.cells [.int .i64 s])).set (H.length+3) (.cells [.int .i64 z])):=fun r z hz hr=>by
         subst hz
         refine ⟨rfl,q3.sm (by rw[List.getElem?_set_ne (by omega),List.getElem?_set_ne (by omega)]) (by rw[List.getElem?_set_ne (by omega),List.getElem?_set_ne (by omega)]) (by rw[List.getElem?_set_ne (by omega),List.getElem?_set_ne (by omega)]),s,r,hr,?_,?_⟩
         ·rw[List.getElem?_set_ne (by omega)];exact List.getElem?_set_self v2.lt
         ·exact List.getElem?_set_self (by simpa using v3.lt)
        have h7:∀ x y,((G3.set (H.length+2) x).set (H.length+3) y)[H.length+7]?=some (.loop rz):=fun x y=>by rw[List.getElem?_set_ne (by omega),List.getElem?_set_ne (by omega)];exact v7.get
        have HZ:=hideP (And.intro e2 (And.intro t1 (And.intro c2 (And.intro hend h7))))
        obtain ⟨v00,v01,v02⟩:=v0
        obtain ⟨v20,v21,v22⟩:=v2
        obtain ⟨v30,v31,v32⟩:=v3
        clear hpr e1 e2 g2' z2 t1 t2 t3 kx qx xx u7 hend h7 hLt hSt hSn hQG hL1 hL2 k3 q3 ww v7 c2
        unfold rulesA
        refine gU ?_
        obtain ⟨e2,t1,c2,hend,h7⟩:=HZ.out
        refine ⟨by simp,h7 _ _,fun j hj=>?_,trivial,fun h=>(nomatch h),fun _=>hend 2 _ rfl (by rw[e2,if_neg hc,if_pos hbr]),fun _ _ h=>h.elim⟩
        simp at hj ⊢
        rcases hj with h|h|h|h
        ·omega
        ·omega
        ·have:=c2 j h.1;omega
        ·have:=t1 j h;omega
       |true=>
        obtain ⟨G3,tc3,c1,c2,k3,q3⟩:=hSt Gx qx
        rw[hbr] at c1
        simp only[Bool.not_true] at c1
        have ww:∀ {j x},j≠mb→Gx[j]?=some x→HB G3 j x:=fun h1 h2=>hb (k3.at h2 fun hj=>h1 (c2 _ hj))
        have v0:=ww (by omega) A0
        have HZ:=hideP (And.intro t1 (And.intro c2 (And.intro kx (And.intro k3 q3))))
        obtain ⟨v00,v01,v02⟩:=v0
        clear hpr e1 e2 g2' z2 t1 t2 t3 kx qx xx u7 hend h7 hLt hSt hSn hQG hL1 hL2 k3 q3 ww c2
        unfold rulesA
        refine gU ?_
        obtain ⟨t1,c2,kx,k3,q3⟩:=HZ.out
        refine ⟨_,_,fun j hj=>?_,fun _=>hc,fun _=>trivial,kx.trans (k3.mono fun j _ hj=>by simp[c2 j hj]),q3,st_is ?_ rfl rfl rfl⟩
        ·simp at hj
         rcases hj with h|h
         ·have:=c2 j h.1;omega
         ·exact t1 j h
        ·simp[zag,zal,show IntKind.i64.wrap 2=2 from by decide]
     ·rintro st ⟨tc,Gx,t1,t2,t3,kx,qx,rfl⟩
      obtain ⟨hpr,e1,e2,g2',z2,_⟩:=HY.out
      have hc:=t2 (by omega)
      have hbr:=t3 (Nat.le_refl _)
      have xx:∀ {j x},j≠H.length+4→j≠mb→G2[j]?=some x→HB Gx j x:=fun h1 h2 h3=>hb (kx.at (by rw[List.getElem?_set_ne (Ne.symm h1)];exact h3) (by simpa using h2))
      have u2:=xx (by omega) (by omega) C0
      have u3:=xx (by omega) (by omega) D0
      have u7:=xx (by omega) (by omega) z2
      have u4:HB Gx (H.length+4) (.cells [.int .i64 a0,.int .i64 a1,.int .i64 a2,.int .i64 a3,.int .i64 a4,.int .i64 c.load,.int .i64 day]):=hb (kx.at (List.getElem?_set_self E1) (by simp;omega))
      have hwl:=Ld.wOf_len p d
      have hfin:∀ cs,cs=wCs (Ld.wOf p (d++[s])) c.load day→BJ l p cb qb mb H.length (d++[s]) (Gx.set (H.length+4) (.cells cs)):=fun cs hcs=>by
       subst hcs
       refine ⟨⟨L2,by rw[e1];simp,by rw[e2,if_neg hc,if_neg (by rw[hbr];simp)]⟩,qx.sm (List.getElem?_set_ne nq2) (List.getElem?_set_ne (by omega)) (List.getElem?_set_ne (by omega)),?_,?_,c.load,day,List.getElem?_set_self u4.lt⟩
       ·rw[List.getElem?_set_ne (by omega)];exact u2.get
       ·rw[List.getElem?_set_ne (by omega)];exact u3.get
      have hwn:wCs (Ld.wOf p (d++[s])) c.load day=[AV.int .i64 a0,.int .i64 a1,.int .i64 a2,.int .i64 a3,.int .i64 a4,.int .i64 c.load,.int .i64 day].set s (.int .i64 day):=by
       obtain ⟨rfl,rfl,rfl,rfl,rfl⟩:=HA.out
       rw[Ld.wOf_snoc,hday]
       unfold wCs
       match s,hs5,Ld.wOf p d,hwl with
       |0,_,[_,_,_,_,_],_|1,_,[_,_,_,_,_],_|2,_,[_,_,_,_,_],_|3,_,[_,_,_,_,_],_|4,_,[_,_,_,_,_],_=>rfl
      have h7:∀ x,(Gx.set (H.length+4) x)[H.length+7]?=some (.loop rz):=fun x=>by rw[List.getElem?_set_ne (by omega)];exact u7.get
      have HZ:=hideP (And.intro t1 (And.intro hfin (And.intro hwn h7)))
      obtain ⟨u40,u41,u42⟩:=u4
      have hs7:s<7:=by omega
      have hs8:s+1≤7:=by omega
      clear hpr e1 e2 g2' z2 t1 t2 t3 kx qx xx u7 h7 hLt hSt hSn hQG u2 u3 hfin hwn
      refine gC ?_
      obtain ⟨t1,hfin,hwn,h7⟩:=HZ.out
      refine ⟨by simp,h7 _,fun j hj=>?_,trivial,fun _=>⟨[],by simp,hfin _ ?_⟩,fun h=>absurd rfl h,fun _ _ h=>h.elim⟩
      ·simp at hj ⊢
       rcases hj with h|h
       ·omega
       ·have:=t1 j h;omega
      ·rw[hwn]
       match s,hs5 with
       |0,_|1,_|2,_|3,_|4,_=>rfl
   ·rintro H' tc W h1 h2 _ h4 h5 h6 hJ
    simp only[List.length_append,List.length_cons,List.length_nil,Nat.zero_add,Nat.add_assoc,Nat.reduceAdd,List.nil_append,List.append_nil] at h1 h4 h5 h6 ⊢
    obtain ⟨⟨L,e1,e2⟩,g2,g3,g4,_⟩:=hJ
    have hL:L=[]:=by
     have:=congrArg List.length e1
     rw[List.length_append] at this
     exact List.eq_nil_of_length_eq_zero (by omega)
    subst hL
    have hbv:brkV l p=.tup [.int .i64 0,.int .i64 0]:=by unfold brkV;rw[e2];rfl
    rw[hbv]
    have c2:HB H' (H.length+2) (.cells [.int .i64 0]):=hb g3
    have c3:HB H' (H.length+3) (.cells [.int .i64 0]):=hb g4
    have HR:=hideP (And.intro h1 (And.intro h4 g2))
    obtain ⟨C0,C1,C2⟩:=c2
    obtain ⟨D0,D1,D2⟩:=c3
    clear e1 e2 hbv h1 h2 h4 h6 g2 g3 g4 hQ hl hI hR hLa hSi hLn hSn hv HX hOr1
    refine gC ?_
    obtain ⟨h1,h4,g2⟩:=HR.out
    have hg:∀ j x y z,j<H.length→((((H'.set (H.length+2) x).set (H.length+3) y).set (H.length+6) z))[j]?=H'[j]?:=fun j x y z hj=>by rw[List.getElem?_set_ne (by omega),List.getElem?_set_ne (by omega),List.getElem?_set_ne (by omega)]
    refine zbn (v:=.tup [.int .i64 0,.int .i64 0]) (.inl rfl) rfl (by simp only;rw[List.getElem?_set_ne (by omega),List.getElem?_set_ne (by omega)];exact h4) (by omega) (by simp;omega) (by simp only[resL,resOf,zaa];simp[resV,pickC,C1,D1]) ⟨rfl,fun j hj=>?_,g2.sm (hg _ _ _ _ hq) (hg _ _ _ _ hm) (hg _ _ _ _ hcbl)⟩
    simp at hj
    have:=h1 j hj.1 (by omega)
    simp at this
    omega
   ·rintro e d H' tc h0 h1 h2 _ h4 h5 h6 hE
    simp only[List.length_append,List.length_cons,List.length_nil,Nat.zero_add,Nat.add_assoc,Nat.reduceAdd,List.nil_append,List.append_nil] at h1 h4 h5 h6 ⊢
    obtain ⟨rfl,g2,i,r,g3,g4,g5⟩:=hE
    have hbv:brkV l p=.tup [.int .i64 i,.int .i64 r]:=by unfold brkV;rw[g3]
    rw[hbv]
    have hg:∀ j z,j<H.length→(H'.set (H.length+6) z)[j]?=H'[j]?:=fun j z hj=>by rw[List.getElem?_set_ne (by omega)]
    clear hbv g3 hQ hl hI hR hLa hSi hLn hSn hv HX hOr1
    refine gA ?_
    refine zbn (v:=.tup [.int .i64 i,.int .i64 r]) (.inl rfl) rfl h4 (by omega) (by simp;omega) (by simp only[resL,resOf,zaa];simp[resV,pickC,List.getElem?_set_ne,g4,g5]) ⟨rfl,fun j hj=>?_,g2.sm (hg _ _ hq) (hg _ _ hm) (hg _ _ hcbl)⟩
    simp at hj
    have:=h1 j hj.1 (by omega)
    simp at this
    omega
def BrokenC (call:CallF)(l:Ld.Lo)(cb:Nat):Prop:=∀ (H:List AB) (qb mb:Nat),Qy l cb qb mb H→∀ (p:List Int) (v:AV),p.length≤l.carts.length→PlV (fun b=>b≠mb∧b<H.length) H p v→∃ H' tc,call (.fn (.func 53) [] []) [.ptr qb 0,v] H=some (.ret (brkV l p),H',tc)∧(∀ j∈tc,j=mb)∧Kp tc H H'∧Qy l cb qb mb H'
theorem yih (l:Ld.Lo)(p:List Int):refs (brkV l p)=[]:=by
 unfold brkV
 split<;>simp[refs,refsL]
theorem ydx {C:Cfg}{n0 m:Nat}(hC:C.calm=true)(hwh:∀ f,C.whole f=true)(h0:Has C 53 af53){l:Ld.Lo}{cb:Nat}(hl:LdWell l)(hOr:OrderC (Ev.call C m))(hI:OrderI C (n0+1) m)(hR:RulesC (Ev.call C n0))(hLa:LateC (Ev.call C n0) l cb)(hSi:SinksC (Ev.call C n0) l cb)(hLn:LnumC (Ev.call C n0))(hSn:SnumC (Ev.call C n0)):BrokenC (Ev.call C (m+1)) l cb:=by
 intro H qb mb hQ p v hpl hv
 obtain ⟨w,hp,tc,G',c1,⟨rfl,h2,h3⟩,k1,k2,c3,c4⟩:=zcw (first:=[]) (captured:=[]) (args:=[.ptr qb 0,v]) (H:=H) hC hwh h0 (le' rfl) (ydw C hC hwh n0 m l cb hl p hpl hOr hI hR hLa hSi hLn hSn H qb mb hQ v hv)
 by_cases ht:tc=[]
 ·have hG:G'=H:=c4 (yih l p) ht
  subst hG
  exact ⟨G',tc,c1,h2,k2,hQ⟩
 ·have hG:G'=hp:=c3 (.inr ht)
  subst hG
  exact ⟨G',tc,c1,h2,k2,h3⟩
def RightY (call:CallF)(l:Ld.Lo)(cb:Nat):Prop:=∀ (H:List AB) (qb mb:Nat),Qy l cb qb mb H→∀ (p:List Int) (v:AV),p.length≤l.carts.length→PlV (fun b=>b≠mb∧b<H.length) H p v→∃ H' tc,call (.fn (.func 75) [] []) [.ptr qb 0,v] H=some (.ret (.bool (Ld.right l p)),H',tc)∧(∀ j∈tc,j=mb)∧Kp tc H H'∧Qy l cb qb mb H'
theorem ydy {l:Ld.Lo}{p:List Int}:∀ (L:List Nat) (w:List Int) (i r:Nat),Ld.brokenL l p L w=some (i,r)→r=1∨r=2
 |[],_,_,_,h=>by cases h
 |j::L,w,i,r,h=>by
  rw[Ld.brokenL] at h
  split at h
  ·cases h;exact .inl rfl
  ·split at h
   ·cases h;exact .inr rfl
   ·exact ydy L _ i r h
theorem ygb (l:Ld.Lo)(p:List Int):∃ i r:Int,brkV l p=.tup [.int .i64 i,.int .i64 r]∧((r=0∧Ld.right l p=true)∨(r=1∧Ld.right l p=false)∨(r=2∧Ld.right l p=false)):=by
 unfold brkV Ld.right
 cases h:Ld.brokenR l p with
 |none=>exact ⟨0,0,rfl,.inl ⟨rfl,rfl⟩⟩
 |some x=>
  obtain ⟨i,r⟩:=x
  refine ⟨i,r,rfl,.inr ?_⟩
  rcases ydy _ _ i r h with rfl|rfl
  ·exact .inl ⟨rfl,rfl⟩
  ·exact .inr ⟨rfl,rfl⟩
theorem ygz (C:Cfg)(call:CallF)(l:Ld.Lo)(cb:Nat)(hB:BrokenC call l cb)(H:List AB)(qb mb:Nat)(hQ:Qy l cb qb mb H)(p:List Int)(v:AV)(hpl:p.length≤l.carts.length)(hv:PlV (fun b=>b≠mb∧b<H.length) H p v):Wb C call H af75 [.ptr qb 0,v]
  (fun w hp tc=>w=.bool (Ld.right l p)∧(∀ j∈tc,j=mb)∧Qy l cb qb mb hp):=by
 obtain ⟨G3,tc3,c1,c2,k3,q3⟩:=hB H qb mb hQ p v hpl hv
 obtain ⟨i,r,e1,e2⟩:=ygb l p
 rw[e1] at c1
 have hl:=k3.len
 have hsl:=hv.isSl
 have HR:=hideP (And.intro c2 (And.intro q3 hl))
 generalize Ld.right l p=b at *
 clear hB hQ hv e1 k3 q3 c2
 unfold Wb Wa af75 Zq Zm Zo Zc Zb Zx Zt Zy
 simp only[zipI] at *
 rcases e2 with ⟨rfl,rfl⟩|⟨rfl,rfl⟩|⟨rfl,rfl⟩
 all_goals
  cases hsl
  all_goals
   refine gZ ?_
   obtain ⟨c2,q3,hl⟩:=HR.out
   refine zac (.inl rfl) rfl (by show H.length≤G3.length;omega) (by simp only[resL,resOf,zaa];simp[*,resV]) ⟨rfl,fun j hj=>c2 j ?_,q3⟩
   simp at hj
   exact hj.1
theorem ydh {C:Cfg}{n0:Nat}(hC:C.calm=true)(hwh:∀ f,C.whole f=true)(h0:Has C 75 af75){l:Ld.Lo}{cb:Nat}(hB:BrokenC (Ev.call C n0) l cb):RightY (Ev.call C (n0+1)) l cb:=by
 intro H qb mb hQ p v hpl hv
 obtain ⟨w,hp,tc,G',c1,⟨rfl,h2,h3⟩,k1,k2,c3,c4⟩:=zcw (first:=[]) (captured:=[]) (args:=[.ptr qb 0,v]) (H:=H) hC hwh h0 (le' rfl) (ygz C (Ev.call C n0) l cb hB H qb mb hQ p v hpl hv)
 by_cases ht:tc=[]
 ·have hG:G'=H:=c4 rfl ht
  subst hG
  exact ⟨G',tc,c1,h2,k2,hQ⟩
 ·have hG:G'=hp:=c3 (.inr ht)
  subst hG
  exact ⟨G',tc,c1,h2,k2,h3⟩
def RightC (call:CallF)(l:Ld.Lo):Prop:=∀ (H:List AB) (qb mb:Nat),Qx l qb mb H→∀ (p:List Int) (v:AV),p.length≤l.carts.length→PlV (fun b=>b≠mb∧b<H.length) H p v→∃ H' tc,call (.fn (.func 75) [] []) [.ptr qb 0,v] H=some (.ret (.bool (Ld.right l p)),H',tc)∧(∀ j∈tc,j=mb)∧Kp tc H H'∧Qx l qb mb H'
theorem RightY.x {call:CallF}{l:Ld.Lo}(h:∀ cb,RightY call l cb):RightC call l:=by
 intro H qb mb hQ p v hpl hv
 obtain ⟨H',tc,c1,c2,c3,c4⟩:=h qb H qb mb hQ.y p v hpl hv
 exact ⟨H',tc,c1,c2,c3,hQ.call c3 c2 c4.m⟩
def BrokenX (call:CallF)(l:Ld.Lo):Prop:=∀ (H:List AB) (qb mb:Nat),Qx l qb mb H→∀ (p:List Int) (v:AV),p.length≤l.carts.length→PlV (fun b=>b≠mb∧b<H.length) H p v→∃ H' tc,call (.fn (.func 53) [] []) [.ptr qb 0,v] H=some (.ret (brkV l p),H',tc)∧(∀ j∈tc,j=mb)∧Kp tc H H'∧Qx l qb mb H'
theorem BrokenC.x {call:CallF}{l:Ld.Lo}(h:∀ cb,BrokenC call l cb):BrokenX call l:=by
 intro H qb mb hQ p v hpl hv
 obtain ⟨H',tc,c1,c2,c3,c4⟩:=h qb H qb mb hQ.y p v hpl hv
 exact ⟨H',tc,c1,c2,c3,hQ.call c3 c2 c4.m⟩
def LisDayC (call:CallF)(l:Ld.Lo):Prop:=∀ (H:List AB) (qb mb:Nat),Qx l qb mb H→∀ n:Int,call (.fn (.func 90) [] []) [.ptr qb 0,.int .i64 n] H=some (.ret (.bool (Ld.isDay l n)),H,[])
theorem ydi {C:Cfg}{n0:Nat}(hC:C.calm=true)(hwh:∀ f,C.whole f=true)(h0:Has C 90 af90){l:Ld.Lo}(hd:-1000000≤l.days∧l.days≤1000000)(hW:LwithinC (Ev.call C n0)):LisDayC (Ev.call C (n0+1)) l:=by
 intro H qb mb hQ n
 obtain ⟨v,hp,tc,G,c1,⟨rfl,rfl⟩,k1,k2,c3,c4⟩:=zcw (first:=[]) (captured:=[]) (args:=[.ptr qb 0,.int .i64 n]) (H:=H) hC hwh h0 (le' rfl) (yfl C (Ev.call C n0) hW l hd H qb (.map mb) hQ.q n)
 have hG:G=H:=c4 rfl rfl
 subst hG
 exact c1
def noDay (l:Ld.Lo)(n:Int):Bool:=!decide (n=-1)&&!Ld.isDay l n
theorem ydo (C:Cfg)(call:CallF)(l:Ld.Lo)(hD:LisDayC call l)(H:List AB)(qb mb b1:Nat)(hQ:Qx l qb mb H)(h1:H[b1]?=some (.cells [.ptr qb 0]))(n:Int):Wb C call H af114 [.int .i64 n,.ptr b1 0]
  (fun v _hp tc=>v=.bool (noDay l n)∧tc=[]):=by
 have hD1:=hD H qb mb hQ n
 obtain ⟨y0,y1,y2,y3,y4,y5⟩:=bk' h1
 unfold noDay
 generalize Ld.isDay l n=b at *
 clear hD hQ h1
 unfold Wb Wa af114 Zq Zm Zo Zh Zc Zb Zt Zy
 simp only[zipI] at *
 by_cases h:n=-1
 ·subst h
  refine gA ?_
  exact zac (.inl rfl) rfl (by simp) (by simp only[resL,resOf,zaa];simp[*,resV]) ⟨rfl,rfl⟩
 ·have h2:(n != -1)=true:=bne_iff_ne.2 h
  refine gA ?_
  exact zac (v:=.bool (!b)) (.inl rfl) rfl (by simp) endvP ⟨by simp[h],by simp⟩
def NoDayC (call:CallF)(l:Ld.Lo)(b1:Nat):Prop:=∀ (H:List AB) (qb mb:Nat),Qx l qb mb H→H[b1]?=some (.cells [.ptr qb 0])→∀ n:Int,call (.fn (.func 114) [] [.ptr b1 0]) [.int .i64 n] H=some (.ret (.bool (noDay l n)),H,[])
theorem yfc {C:Cfg}{n0:Nat}(hC:C.calm=true)(hwh:∀ f,C.whole f=true)(h0:Has C 114 af114){l:Ld.Lo}(hD:LisDayC (Ev.call C n0) l)(b1:Nat):NoDayC (Ev.call C (n0+1)) l b1:=by
 intro H qb mb hQ h1 n
 obtain ⟨v,hp,tc,G,c1,⟨rfl,rfl⟩,k1,k2,c3,c4⟩:=zcw (first:=[]) (captured:=[.ptr b1 0]) (args:=[.int .i64 n]) (H:=H) hC hwh h0 (le' rfl) (ydo C (Ev.call C n0) l hD H qb mb b1 hQ h1 n)
 have hG:G=H:=c4 rfl rfl
 subst hG
 exact c1
theorem yfm (C:Cfg)(hC:C.calm=true)(call:CallF)(f:AV)(P:Int→Bool)(H:List AB)(hf:∀ n,call f [.int .i64 n] H=some (.ret (.bool (P n)),H,[]))(p:List Int)(v:AV)(hp5:p.length≤1000)(hv:PlV (fun _=>True) H p v):Wb C call H af148 [v,f]
  (fun w _hp tc=>(∃ i:Int,w=.int .i64 i∧decide (0≤i)=p.any P)∧tc=[]):=by
 have hil:(ints p).length=p.length:=by simp[ints]
 have hshape:(v=.vs 1 (ints p)∨∃ b cs,v=.sl b 0 p.length 1∧H[b]?=some (.cells cs)∧p.length≤cs.length∧∀ i,i<p.length→cs[i]?=some (.int .i64 (p.getD i 0)))∨(v=.nils∧p.length=0):=by
  cases hv with
  |vs=>exact .inl (.inl rfl)
  |none h=>exact .inr ⟨rfl,by rw[h];rfl⟩
  |some b cs _ h2 h3 h4=>exact .inl (.inr ⟨b,cs,rfl,h2,h3,h4⟩)
 clear hv
 have hany:∀ k,(p.take k).any P=false→k<p.length→(p.take (k+1)).any P=P (p.getD k 0):=fun k h hk=>by
  rw[List.take_add_one,List.any_append,h,List.getElem?_eq_getElem hk,List.getD_eq_getElem?_getD,List.getElem?_eq_getElem hk]
  simp
 unfold Wb Wa af148 Zq Zu Zm Zl Zo Za Zb Zj Zt Zn
 simp only[zipI]
 have hf':=fun n=>hf n
 rcases hshape with (hs|⟨b,cs,hs,hQ,q4,q5⟩)|⟨hs,h0⟩
 ·subst hs
  refine gA ?_
  with_reducible refine zan hC p.length (by unfold fuelL;omega) (fun i st=>(p.take i).any P=false∧st={ tm:=tmA 19 [(8,.int .i64 i),(7,.int .i64 p.length),(1,f),(0,.vs 1 (ints p))],df:=[],hp:=H,tc:=[] }) ?_ ?_ ?_
  ·refine ⟨rfl,st_is ?_ rfl rfl rfl⟩
   simp[zag,zal]
  ·rintro i st hi ⟨h1,rfl⟩
   have hn:=hany i h1 hi
   have hia:=ybh p hi
   have hia':=ge_of hia
   have f1:(i:Int)<p.length:=by omega
   have hw:IntKind.i64.wrap ((i:Int)+1)=(i:Int)+1:=zaf (by omega) (by omega)
   have hfx:=hf (p.getD i 0)
   have hlast:P (p.getD i 0)=true→p.any P=true:=fun h=>by
    rw[← List.take_append_drop (i+1) p,List.any_append,hn,h];rfl
   generalize p.getD i 0=x at *
   cases hp:P x with
   |true=>
    rw[hp] at hfx
    have hl:=hlast hp
    clear hn hlast hany hf hf' h1
    refine gA ?_
    exact zac (v:=.int .i64 i) (.inl rfl) rfl (by simp) endvP ⟨⟨(i:Int),rfl,by rw[hl];simp⟩,rfl⟩
   |false=>
    rw[hp] at hfx hn
    have HN:=hideP hn
    clear hn hlast hany hf hf' h1
    refine gA ?_
    refine ⟨HN.out,st_is ?_ rfl rfl rfl⟩
    simp[zag,zal]
  ·rintro st ⟨h1,rfl⟩
   rw[List.take_length] at h1
   have HN:=hideP h1
   clear h1 hany hf hf'
   refine gA ?_
   exact zac (v:=.int .i64 (-1)) (.inl rfl) rfl (by simp) endvP ⟨⟨-1,rfl,by rw[HN.out];decide⟩,rfl⟩
 ·subst hs
  obtain ⟨Q0,Q1,Q2,Q3,Q4,Q5⟩:=bk' hQ
  refine gA ?_
  with_reducible refine zan hC p.length (by unfold fuelL;omega) (fun i st=>(p.take i).any P=false∧st={ tm:=tmA 19 [(8,.int .i64 i),(7,.int .i64 p.length),(1,f),(0,.sl b 0 p.length 1)],df:=[],hp:=H,tc:=[] }) ?_ ?_ ?_
  ·refine ⟨rfl,st_is ?_ rfl rfl rfl⟩
   simp[zag,zal]
  ·rintro i st hi ⟨h1,rfl⟩
   have hn:=hany i h1 hi
   have hia:=q5 i hi
   have hia':=ge_of hia
   have q6:i<cs.length:=by omega
   have f1:(i:Int)<p.length:=by omega
   have hw:IntKind.i64.wrap ((i:Int)+1)=(i:Int)+1:=zaf (by omega) (by omega)
   have hfx:=hf (p.getD i 0)
   have hlast:P (p.getD i 0)=true→p.any P=true:=fun h=>by
    rw[← List.take_append_drop (i+1) p,List.any_append,hn,h];rfl
   generalize p.getD i 0=x at *
   cases hp:P x with
   |true=>
    rw[hp] at hfx
    have hl:=hlast hp
    clear hn hlast hany hf hf' h1 q5
    refine gA ?_
    exact zac (v:=.int .i64 i) (.inl rfl) rfl (by simp) endvP ⟨⟨(i:Int),rfl,by rw[hl];simp⟩,rfl⟩
   |false=>
    rw[hp] at hfx hn
    have HN:=hideP hn
    clear hn hlast hany hf hf' h1 q5
    refine gA ?_
    refine ⟨HN.out,st_is ?_ rfl rfl rfl⟩
    simp[zag,zal]
  ·rintro st ⟨h1,rfl⟩
   rw[List.take_length] at h1
   have HN:=hideP h1
   clear h1 hany hf hf' q5
   refine gA ?_
   exact zac (v:=.int .i64 (-1)) (.inl rfl) rfl (by simp) endvP ⟨⟨-1,rfl,by rw[HN.out];decide⟩,rfl⟩
 ·subst hs
  have hp0:=List.eq_nil_of_length_eq_zero h0
  subst hp0
  clear hany hf hf' hil h0 hp5
  refine gA ?_
  with_reducible refine zan hC 0 (by unfold fuelL;omega) (fun i st=>st={ tm:=tmA 19 [(8,.int .i64 i),(7,.int .i64 0),(1,f),(0,.nils)],df:=[],hp:=H,tc:=[] }) ?_ ?_ ?_
  ·refine st_is ?_ rfl rfl rfl
   simp[zag,zal]
  ·intro i st hi;omega
  ·rintro st rfl
   refine gA ?_
   exact zac (v:=.int .i64 (-1)) (.inl rfl) rfl (by simp) endvP ⟨⟨-1,rfl,rfl⟩,rfl⟩
theorem ydm {C:Cfg}{n0:Nat}(hC:C.calm=true)(hwh:∀ f,C.whole f=true)(h0:Has C 148 af148)(f:AV)(P:Int→Bool)(H:List AB)(hf:∀ n,Ev.call C n0 f [.int .i64 n] H=some (.ret (.bool (P n)),H,[]))(p:List Int)(v:AV)(hp5:p.length≤1000)(hv:PlV (fun _=>True) H p v):
  ∃ i:Int,Ev.call C (n0+1) (.fn (.func 148) [] []) [v,f] H=some (.ret (.int .i64 i),H,[])∧decide (0≤i)=p.any P:=by
 obtain ⟨w,hp,tc,G,c1,⟨⟨i,rfl,hi⟩,rfl⟩,k1,k2,c3,c4⟩:=zcw (first:=[]) (captured:=[]) (args:=[v,f]) (H:=H) hC hwh h0 (le' rfl) (yfm C hC (Ev.call C n0) f P H hf p v hp5 hv)
 have hG:G=H:=c4 rfl rfl
 subst hG
 exact ⟨i,c1,hi⟩
theorem yfs (C:Cfg)(call:CallF)(f:AV)(b:Bool)(H:List AB)(v:AV)(i:Int)(hi:decide (0≤i)=b)(hc:call (.fn (.func 148) [] []) [v,f] H=some (.ret (.int .i64 i),H,[])):Wb C call H af115 [v,f]
  (fun w _hp tc=>w=.bool b∧tc=[]):=by
 unfold Wb Wa af115 Zq Zm Zo Zc Zb Zt Zy
 simp only[zipI]
 refine gA ?_
 exact zac (v:=.bool b) (.inl rfl) rfl (by simp) endvP ⟨rfl,by simp⟩
theorem ydq {C:Cfg}{n0:Nat}(hC:C.calm=true)(hwh:∀ f,C.whole f=true)(h0:Has C 115 af115)(f:AV)(b:Bool)(H:List AB)(v:AV)(i:Int)(hi:decide (0≤i)=b)(hc:Ev.call C n0 (.fn (.func 148) [] []) [v,f] H=some (.ret (.int .i64 i),H,[])):Ev.call C (n0+1) (.fn (.func 115) [] []) [v,f] H=some (.ret (.bool b),H,[]):=by
 obtain ⟨w,hp,tc,G,c1,⟨rfl,rfl⟩,k1,k2,c3,c4⟩:=zcw (first:=[]) (captured:=[]) (args:=[v,f]) (H:=H) hC hwh h0 (le' rfl) (yfs C (Ev.call C n0) f b H v i hi hc)
 have hG:G=H:=c4 rfl rfl
 subst hG
 exact c1
theorem yhy (l:Ld.Lo)(p:List Int):Ld.isPlan l p=(decide (p.length=l.carts.length)&&!p.any (noDay l)):=by
 unfold Ld.isPlan noDay
 congr 1
 rw[List.not_any_eq_all_not]
 congr 1
 funext d
 simp
theorem yfo (C:Cfg)(call:CallF)(l:Ld.Lo)(H:List AB)(qb mb:Nat)(hQ:Qx l qb mb H)(p:List Int)(v:AV)(hp5:p.length≤1000)(hl5:l.carts.length≤1000)(hv:PlV (fun _=>True) H p v)(hc:call (.fn (.func 115) [] []) [v,.fn (.func 114) [] [.ptr H.length 0]] (H++[.cells [.ptr qb 0]])=some (.ret (.bool (p.any (noDay l))),H++[.cells [.ptr qb 0]],[])):
  Wb C call H af52 [.ptr qb 0,v]
  (fun w _hp tc=>w=.bool (Ld.isPlan l p)∧tc=[]):=by
 rw[yhy]
 generalize p.any (noDay l)=b at *
 obtain ⟨y0,y1,y2,y3,y4,y5⟩:=bk' hQ.q
 have hql:=hQ.ql
 have hil:(ints p).length=p.length:=by simp[ints]
 have hshape:(v=.vs 1 (ints p)∨∃ b cs,v=.sl b 0 p.length 1∧Bk H b (.cells cs))∨(v=.nils∧p.length=0):=by
  cases hv with
  |vs=>exact .inl (.inl rfl)
  |none h=>exact .inr ⟨rfl,by rw[h];rfl⟩
  |some b cs _ h2 h3 h4=>exact .inl (.inr ⟨b,cs,rfl,bk' h2⟩)
 clear hv hQ
 unfold Wb Wa af52 Zq Zm Zl Zo Zh Zc Za Zf Zt Zy
 simp only[zipI,loadCs,List.cons_append,List.nil_append] at *
 have hp0:v=.nils→p=[]:=fun h=>by
  rcases hshape with (hs|⟨b,cs,hs,_⟩)|⟨hs,h0⟩
  ·rw[hs] at h;cases h
  ·rw[hs] at h;cases h
  ·exact List.eq_nil_of_length_eq_zero h0
 generalize l.carts=L at *
 by_cases h:p.length=L.length
 ·rcases hshape with (hs|⟨b',cs,hs,Q0,Q1,Q2,Q3,Q4,Q5⟩)|⟨hs,h0⟩
  ·subst hs
   have hi:(p.length:Int)=L.length:=by omega
   rw[h] at hil
   clear hp0
   refine gA ?_
   exact zac (v:=.bool (!b)) (.inl rfl) rfl (by simp) endvP ⟨by simp[h],by simp⟩
  ·subst hs
   have hi:(p.length:Int)=L.length:=by omega
   rw[h] at hc
   clear hp0
   refine gA ?_
   exact zac (v:=.bool (!b)) (.inl rfl) rfl (by simp) endvP ⟨by simp[h],by simp⟩
  ·have hp1:=hp0 hs
   subst hs hp1
   have hL:L=[]:=List.eq_nil_of_length_eq_zero (by rw[← h];rfl)
   subst hL
   clear h0 hp0 h hp5 hl5 hil
   simp only[List.map_nil] at *
   refine gA ?_
   exact zac (v:=.bool (!b)) (.inl rfl) rfl (by simp) endvP ⟨by simp,by simp⟩
 ·have hi:((p.length:Int)==L.length)=false:=beq_false_of_ne (by omega)
  rcases hshape with (hs|⟨b',cs,hs,Q0,Q1,Q2,Q3,Q4,Q5⟩)|⟨hs,h0⟩
  ·subst hs
   clear hp0
   refine gA ?_
   exact zac (v:=.bool false) (.inl rfl) rfl (by simp) endvP ⟨by simp[h],by simp⟩
  ·subst hs
   clear hp0
   refine gA ?_
   exact zac (v:=.bool false) (.inl rfl) rfl (by simp) endvP ⟨by simp[h],by simp⟩
  ·have hp1:=hp0 hs
   subst hs hp1
   have hi0:((0:Int)==L.length)=false:=hi
   clear h0 hp0 hp5 hl5 hil
   have HH:=hideP h
   clear h hi
   refine gA ?_
   exact zac (v:=.bool false) (.inl rfl) rfl (by simp) endvP ⟨by have:=HH.out;simp at this ⊢;exact fun h=>absurd h this,by simp⟩
def IsPlanC (call:CallF)(l:Ld.Lo):Prop:=∀ (H:List AB) (qb mb:Nat),Qx l qb mb H→∀ (p:List Int) (v:AV),p.length≤1000→PlV (fun _=>True) H p v→call (.fn (.func 52) [] []) [.ptr qb 0,v] H=some (.ret (.bool (Ld.isPlan l p)),H,[])
theorem ydn {C:Cfg}{n0:Nat}(hC:C.calm=true)(hwh:∀ f,C.whole f=true)(h0:Has C 52 af52)(h1:Has C 114 af114)(h2:Has C 115 af115)(h3:Has C 148 af148){l:Ld.Lo}(hl5:l.carts.length≤1000)(hD:LisDayC (Ev.call C n0) l):IsPlanC (Ev.call C (n0+4)) l:=by
 intro H qb mb hQ p v hp5 hv
 have hN:NoDayC (Ev.call C (n0+1)) l H.length:=yfc hC hwh h1 hD H.length
 have hv2:PlV (fun _=>True) (H++[.cells [.ptr qb 0]]) p v:=hv.keep (fun _ _ h=>h) fun b x _ hx=>by rw[List.getElem?_append_left (get_lt hx)];exact hx
 obtain ⟨i,c1,c2⟩:=ydm (n0:=n0+1) hC hwh h3 (.fn (.func 114) [] [.ptr H.length 0]) (noDay l) (H++[.cells [.ptr qb 0]]) (fun n=>hN _ qb mb (hQ.app _) (by simp) n) p v hp5 hv2
 have c3:=ydq (n0:=n0+2) hC hwh h2 (.fn (.func 114) [] [.ptr H.length 0]) _ (H++[.cells [.ptr qb 0]]) v i c2 c1
 obtain ⟨w,hp,tc,G,c1,⟨rfl,rfl⟩,k1,k2,c4,c5⟩:=zcw (first:=[]) (captured:=[]) (args:=[.ptr qb 0,v]) (H:=H) (n:=n0+3) hC hwh h0 (le' rfl) (yfo C _ l H qb mb hQ p v hp5 hl5 hv c3)
 have hG:G=H:=c5 rfl rfl
 subst hG
 exact c1
end Ro
end Ev
end Go.Proofs.YtfpepkbflnendaaGreat
