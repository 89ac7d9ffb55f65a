/- The reference of chapter 09, gone through: Share. -/
import Derived.Test.YtimgnlellflciaaGreatLcSA
import Derived.Test.YtimgnlellflciaaGreatCsPD
import Derived.Test.YtimgnlellflciaaGreatCsEA
import Derived.Test.YtimgnlellflciaaGreatCsPE
/- The reference of chapter 09, gone through: all cases, whole. -/
namespace Go.Proofs.YtimgnlellflciaaGreat
open Go
namespace Clm
def caF (c:Cl)(set:Nat)(k:Int):List (Int × List (List (Int × Int))):=if (tracksL c k set).all (fun l=>!l.isEmpty) then [(k,tracksL c k set)] else []
theorem cases_fl (c:Cl)(set:Nat):casesR c set=fl (caF c set) c.pack.lo (c.pack.hi+1 - c.pack.lo).toNat:=by
  rw[← zle]
  unfold casesR
  generalize spanL c.pack=L
  induction L with
  |nil=>rfl
  |cons k L ih=>
    rw[List.filterMap_cons,List.flatMap_cons,← ih]
    unfold caF
    by_cases h:((tracksL c k set).all fun l=>!l.isEmpty)=true
    · rw[if_pos h,if_pos h];rfl
    · rw[if_neg h,if_neg h];rfl
theorem tracksL_take {c:Cl}{k:Int}{set i:Nat}(hi:i<c.piles.length):(tracksL c k set).take (i+1)=(tracksL c k set).take i++[tracksR c i k set]:=by
  have:(tracksL c k set)[i]?=some (tracksR c i k set):=by simp[tracksL,List.getElem?_map,List.getElem?_range hi]
  rw[List.take_add_one,this];rfl
theorem tracksL_len (c:Cl)(k:Int)(set:Nat):(tracksL c k set).length=c.piles.length:=by simp[tracksL]
end Clm
namespace Ev
namespace K
attribute [local simp] ev1 wantG spineK spine float xnew xval xeff zaa zar zbb zau zav addFl cellsOf pickC alive slLen slFt binI maxA maxK minA minK aeqK aeqS AV.cells spA zas fillA setAt bitsI nat_nn zbe AV.plain apart
set_option maxRecDepth 100000
set_option maxHeartbeats 4000000
structure CoI (H:List AB) (c:Clm.Cl) (D:List (Int × List (List (Int × Int)))) (out:AV) (G:List AB):Prop where
  c0:HB G H.length (.cells (clampCs c))
  out:CsV (fun q=>H.length<q) G D out
def ca0St (H:List AB)(set:Nat)(out:AV)(k:Int)(G:List AB):St:={ tm:=tmA 53 [(6,.int .i64 k),(5,out),(2,.ptr H.length 0),(1,.int .i64 set)],df:=[],hp:=G,tc:=[] }
theorem zxk (C:Cfg)(hC:C.calm=true)(call:CallF)(c:Clm.Cl)(hc:Clm.Fine c)(set:Nat)(hTr:TrkC call c set)(H:List AB):
    Does (ev C call H.length none af73.body { tm:=tmA af73.ntmps (zipI 0 [.agg (clampCs c),.int .i64 set] []),df:=[],hp:=H,tc:=[] })
      (Ends C H.length af73.res fun v hp tc=>tc=[]∧CsV (fun q=>H.length≤q) hp (Clm.casesR c set) v):=by
  have hpk:=hc.pack
  have hp4:=hc.piles
  rw[Clm.cases_fl]
  obtain ⟨N,hN⟩:∃ N,(c.pack.hi+1 - c.pack.lo).toNat=N:=⟨_,rfl⟩
  rw[hN]
  have HX:=hideP (And.intro hc hTr)
  clear hc hTr
  unfold af73
  simp only[zipI,clampCs] at *
  (repeat (first|((with_reducible apply zad);(focus ((with_reducible apply zap);(focus rfl);(focus rfl);(focus ((conv=>lhs;simp[*,List.getElem?_append_right,List.set_append_right,List.getElem?_cons_zero,List.getElem?_append_left,List.set_append_left,-getElem?_pos,Nat.testBit_eq_decide_div_mod_eq])<;>exact rfl));(focus rfl);(focus rfl)));simp only[addFl])|(with_reducible apply zad;(focus ((conv=>lhs;simp[*,List.getElem?_append_right,List.set_append_right,List.getElem?_cons_zero,List.getElem?_append_left,List.set_append_left,-getElem?_pos,Nat.testBit_eq_decide_div_mod_eq])<;>exact rfl));simp only[addFl])|((with_reducible first|apply zai|apply zak|apply zah|apply zaf|apply zac|apply zaj|apply zag|apply zam|(apply zae;· simp[*,zaa])|(apply zab;· simp[*,zaa]));try simp only[Then,Ops])|simp only[Nat.reduceEqDiff,reduceIte,OutB,Then]))
  with_reducible refine zaz hC N (by unfold fuelL;omega) (fun a st=>∃ G out,CoI H c (Clm.fl (Clm.caF c set) c.pack.lo a) out G∧st=ca0St H set out (c.pack.lo+a) G) ?_ ?_ ?_
  · refine ⟨H++[.cells (clampCs c)],.nils,⟨hb (by rw[List.getElem?_append_right (by omega),Nat.sub_self];rfl),.none rfl⟩,?_⟩
    unfold ca0St
    simp only[clampCs]
    (refine st_is ?_ ?_ ?_ ?_;(focus (simp[zan,zaq]));(focus rfl);(focus (first|rfl|(simp;done)|(simp[*];done)|(simp;rfl)|(simp[*];omega)|(simp;omega)));(focus (first|rfl|simp)))
  · rintro a st ha ⟨G,out,hI,rfl⟩
    obtain ⟨hc,hTr⟩:=HX.out
    have hI':=hideP hI
    have HT:=hideP hTr
    obtain ⟨⟨A1,A2,A3⟩,_⟩:=hI
    have x0:c.pack.lo+(a:Int)≤c.pack.hi:=by omega
    have gG0:¬ (G.length<H.length):=by omega
    clear hTr hc
    obtain ⟨k,hk⟩:∃ k,c.pack.lo+(a:Int)=k:=⟨_,rfl⟩
    have hk0:0≤k∧k≤5:=by omega
    have x1:IntKind.i64.wrap (k+1)=k+1:=zat (by omega) (by omega)
    rw[hk] at x0 ⊢
    have hke:c.pack.lo+((a+1:Nat):Int)=k+1:=by omega
    rw[hke,Clm.fl_succ,hk]
    have hDl:(Clm.fl (Clm.caF c set) c.pack.lo a).length≤a * 1:=Clm.fl_len (fun x=>by unfold Clm.caF;split<;>simp) a
    generalize Clm.fl (Clm.caF c set) c.pack.lo a=D at *
    have HD:=hideP (And.intro hDl (And.intro hk0 (And.intro ha hN)))
    clear hDl hk0 ha hN hke hk
    unfold ca0St
    simp only[clampCs] at *
    (repeat (first|((with_reducible apply zad);(focus ((with_reducible apply zap);(focus rfl);(focus rfl);(focus ((conv=>lhs;simp[*,List.getElem?_append_right,List.set_append_right,List.getElem?_cons_zero,List.getElem?_append_left,List.set_append_left,-getElem?_pos,Nat.testBit_eq_decide_div_mod_eq])<;>exact rfl));(focus rfl);(focus rfl)));simp only[addFl])|(with_reducible apply zad;(focus ((conv=>lhs;simp[*,List.getElem?_append_right,List.set_append_right,List.getElem?_cons_zero,List.getElem?_append_left,List.set_append_left,-getElem?_pos,Nat.testBit_eq_decide_div_mod_eq])<;>exact rfl));simp only[addFl])|((with_reducible first|apply zai|apply zak|apply zah|apply zaf|apply zac|apply zaj|apply zag|apply zam|(apply zae;· simp[*,zaa])|(apply zab;· simp[*,zaa]));try simp only[Then,Ops,OutB])|simp only[Nat.reduceEqDiff,reduceIte,OutB,Then]))
    clear A1 A2 A3
    with_reducible refine zaz hC c.piles.length (by unfold fuelL;omega) (fun i st=>∃ G1 tv,CaI H c k G.length D out ((Clm.tracksL c k set).take i) tv G1∧st=ca2St H set out k G.length (((Clm.tracksL c k set).take i).all fun l=>!l.isEmpty) i G1) ?_ ?_ ?_
    · obtain ⟨c0,ho⟩:=hI'.out
      refine ⟨G++[.cells [.int .i64 k,.nils]],.nils,⟨c0.app _,hb (by rw[List.getElem?_append_right (by omega),Nat.sub_self];rfl),c0.lt,ho.keep (fun q h1 h2=>⟨h2,h1⟩) fun q x _ h=>h.app _,.none (by simp)⟩,?_⟩
      unfold ca2St
      (refine st_is ?_ ?_ ?_ ?_;(focus (simp[zan,zaq]));(focus rfl);(focus (first|rfl|(simp;done)|(simp[*];done)|(simp;rfl)|(simp[*];omega)|(simp;omega)));(focus (first|rfl|simp)))
    · rintro i st hi ⟨G1,tv,hJ,rfl⟩
      have hr:=zzz C call c hp4.2 set HT.out k HD.out.2.1.1 HD.out.2.1.2 i hi H D out G.length _ (by rw[List.length_take,Clm.tracksL_len];omega) tv (((Clm.tracksL c k set).take i).all fun l=>!l.isEmpty) G1 hJ
      refine Does.mono hr ?_
      rintro e st ⟨rfl,G2,tv',h1,h2⟩
      refine ⟨G2,tv',by rw[Clm.tracksL_take hi];exact h1,?_⟩
      rw[h2,Clm.tracksL_take hi,List.all_append]
      congr 2
      simp
    · rintro st ⟨G1,tv,hJ,rfl⟩
      rw[List.take_of_length_le (by rw[Clm.tracksL_len];omega)] at hJ
      have hJ':=hideP hJ
      obtain ⟨⟨A1,A2,A3⟩,⟨B1,B2,B3⟩,hlo,hout,htk⟩:=hJ
      have htl:=Clm.tracksL_len c k set
      rw[List.take_of_length_le (by rw[htl];omega)]
      have hca:Clm.caF c set k=if ((Clm.tracksL c k set).all fun l=>!l.isEmpty)=true then [(k,Clm.tracksL c k set)] else []:=rfl
      rw[hca]
      clear hca htl
      cases hacc:(Clm.tracksL c k set).all fun l=>!l.isEmpty with
      |false=>
        have HF:CoI H c (D++[]) out G1:=⟨HB.mk A1 A2 A3,by rw[List.append_nil];exact hout.keep (fun q _ h=>h.1) fun q x _ h=>h⟩
        replace HF:=hideP HF
        rw[if_neg (by simp)]
        clear hout htk hlo hacc
        unfold ca2St
        simp only[clampCs] at *
        (repeat (first|((with_reducible apply zad);(focus ((with_reducible apply zap);(focus rfl);(focus rfl);(focus ((conv=>lhs;simp[*,List.getElem?_append_right,List.set_append_right,List.getElem?_cons_zero,List.getElem?_append_left,List.set_append_left,-getElem?_pos,Nat.testBit_eq_decide_div_mod_eq])<;>exact rfl));(focus rfl);(focus rfl)));simp only[addFl])|(with_reducible apply zad;(focus ((conv=>lhs;simp[*,List.getElem?_append_right,List.set_append_right,List.getElem?_cons_zero,List.getElem?_append_left,List.set_append_left,-getElem?_pos,Nat.testBit_eq_decide_div_mod_eq])<;>exact rfl));simp only[addFl])|((with_reducible first|apply zai|apply zak|apply zah|apply zaf|apply zac|apply zaj|apply zag|apply zam|(apply zae;· simp[*,zaa])|(apply zab;· simp[*,zaa]));try simp only[Then,Ops,OutB,reduceIte])|simp only[Nat.reduceEqDiff,reduceIte,OutB,Then]))
        refine ⟨G1,out,HF.out,?_⟩
        (refine st_is ?_ ?_ ?_ ?_;(focus (simp[zan,zaq]));(focus rfl);(focus (first|rfl|(simp;done)|(simp[*];done)|(simp;rfl)|(simp[*];omega)|(simp;omega)));(focus (first|rfl|simp)))
      |true=>
        rw[if_pos rfl]
        have h0:HB G1 H.length (.cells (clampCs c)):=HB.mk A1 A2 A3
        have htk':TkV (fun q=>H.length<q) G1 (Clm.tracksL c k set) tv:=htk.keep (fun q _ h=>by omega) fun q x _ _ h=>h
        have gG1:∀ n,¬ (G1.length+n<H.length):=fun n=>by omega
        have gG2:¬ (G1.length<H.length):=by omega
        have hb1:1≤bound:=by decide
        have hb2:D.length+1≤bound:=by have:=HD.out.1;have:=HD.out.2.2;unfold bound;omega
        have ht1:=htk'.listV
        cases hout with
        |none hD=>
          subst hD
          have HF:CoI H c ([]++[(k,Clm.tracksL c k set)]) (.sl (G1.length+1) 0 1 2) (G1++[.cells [.int .i64 k,tv],.cells [.int .i64 k,tv]]):=by
            refine ⟨h0.app _,?_⟩
            refine .some (L:=[]++[(k,Clm.tracksL c k set)]) (G1.length+1) [.int .i64 k,tv] (by simp) (by omega) (hb (by rw[List.getElem?_append_right (by omega),Nat.add_sub_cancel_left];rfl)) ?_
            exact CsE.snoc (L:=[]) (cs:=[]) ⟨rfl,fun j hj=>absurd hj (by simp)⟩ (htk'.keep (fun q _ h=>h) fun q x _ _ h=>h.app _)
          replace HF:=hideP HF
          clear htk hlo hacc h0 htk'
          rcases ht1 with rfl|⟨z1,z2,z3,rfl⟩
          all_goals
            unfold ca2St
            simp only[clampCs] at *
            (repeat (first|((with_reducible apply zad);(focus ((with_reducible apply zap);(focus rfl);(focus rfl);(focus ((conv=>lhs;simp[*,List.getElem?_append_right,List.set_append_right,List.getElem?_cons_zero,List.getElem?_append_left,List.set_append_left,-getElem?_pos,Nat.testBit_eq_decide_div_mod_eq])<;>exact rfl));(focus rfl);(focus rfl)));simp only[addFl])|(with_reducible apply zad;(focus ((conv=>lhs;simp[*,List.getElem?_append_right,List.set_append_right,List.getElem?_cons_zero,List.getElem?_append_left,List.set_append_left,-getElem?_pos,Nat.testBit_eq_decide_div_mod_eq])<;>exact rfl));simp only[addFl])|((with_reducible first|apply zai|apply zak|apply zah|apply zaf|apply zac|apply zaj|apply zag|apply zam|(apply zae;· simp[*,zaa])|(apply zab;· simp[*,zaa]));try simp only[Then,Ops,OutB,reduceIte])|simp only[Nat.reduceEqDiff,reduceIte,OutB,Then]))
            refine ⟨_,_,HF.out,?_⟩
            (refine st_is ?_ ?_ ?_ ?_;(focus (simp[zan,zaq]));(focus rfl);(focus (first|rfl|(simp;done)|(simp[*];done)|(simp;rfl)|(simp[*];omega)|(simp;omega)));(focus (first|rfl|simp)))
        |some q0 cs hne hq0 hb0 hE=>
          have n1:¬ (q0<H.length):=by omega
          have n2:q0≠G.length:=by omega
          have n3:G.length≠q0:=by omega
          have hcl:cs.length=D.length * 2:=hE.1
          have hpl:cs.all AV.plain=true:=by
            rw[List.all_eq_true]
            intro w hw
            obtain ⟨j,hj,rfl⟩:=List.getElem_of_mem hw
            obtain ⟨w',e1,e2,e3⟩:=hE.2 (j / 2) (by omega)
            rcases Nat.mod_two_eq_zero_or_one j with h|h
            · rw[show j / 2 * 2=j by omega,List.getElem?_eq_getElem hj] at e1
              rw[Option.some.inj e1];rfl
            · rw[show j / 2 * 2+1=j by omega,List.getElem?_eq_getElem hj] at e2
              rw[Option.some.inj e2]
              rcases e3.listV with h|⟨_,_,_,h⟩<;>rw[h]<;>rfl
          have HF:CoI H c (D++[(k,Clm.tracksL c k set)]) (.sl (G1.length+1) 0 (D.length+1) 2) (G1.set q0 .dead++[.cells [.int .i64 k,tv],.cells (cs++[.int .i64 k,tv])]):=by
            have hkp:∀ q x,isT x∨isV x→HB G1 q x→HB (G1.set q0 .dead++[.cells [.int .i64 k,tv],.cells (cs++[.int .i64 k,tv])]) q x:=fun q x hx h=>by
              refine (h.set _ ?_).app _
              have hC':=hE.isC hne
              exact hb0.other h (hx.elim (fun h=>(T_ne_C h hC').symm) fun h=>(V_ne_C h hC').symm)
            refine ⟨(h0.set _ (by omega)).app _,?_⟩
            have e:(D++[(k,Clm.tracksL c k set)]).length=D.length+1:=by simp
            rw[← e]
            refine .some (G1.length+1) (cs++[.int .i64 k,tv]) (by simp) (by omega) (hb (by rw[List.getElem?_append_right (by simp)];simp)) ?_
            exact (hE.keep (Q:=fun q=>H.length<q) (fun q _ h=>h.1) fun q x _ hx h=>hkp q x hx h).snoc (htk'.keep (fun q _ h=>h) fun q x _ hx h=>hkp q x hx h)
          replace HF:=hideP HF
          obtain ⟨Q1,Q2,Q3⟩:=hb0
          have HQ:=hideP hq0
          clear htk hlo hacc h0 htk' hE hq0
          rcases ht1 with rfl|⟨z1,z2,z3,rfl⟩
          all_goals
            unfold ca2St
            simp only[clampCs] at *
            (repeat (first|((with_reducible apply zad);(focus ((with_reducible apply zap);(focus rfl);(focus rfl);(focus ((conv=>lhs;simp[*,List.getElem?_append_right,List.set_append_right,List.getElem?_cons_zero,List.getElem?_append_left,List.set_append_left,-getElem?_pos,Nat.testBit_eq_decide_div_mod_eq])<;>exact rfl));(focus rfl);(focus rfl)));simp only[addFl])|(with_reducible apply zad;(focus ((conv=>lhs;simp[*,List.getElem?_append_right,List.set_append_right,List.getElem?_cons_zero,List.getElem?_append_left,List.set_append_left,-getElem?_pos,Nat.testBit_eq_decide_div_mod_eq])<;>exact rfl));simp only[addFl])|((with_reducible first|apply zai|apply zak|apply zah|apply zaf|apply zac|apply zaj|apply zag|apply zam|(apply zae;· simp[*,zaa])|(apply zab;· simp[*,zaa]));try simp only[Then,Ops,OutB,reduceIte])|simp only[Nat.reduceEqDiff,reduceIte,OutB,Then]))
            refine ⟨_,_,HF.out,?_⟩
            (refine st_is ?_ ?_ ?_ ?_;(focus (simp[zan,zaq]));(focus rfl);(focus (first|rfl|(simp;done)|(simp[*];done)|(simp;rfl)|(simp[*];omega)|(simp;omega)));(focus (first|rfl|simp)))
  · rintro st ⟨G,out,hI,rfl⟩
    have hI':=hideP hI
    obtain ⟨⟨A1,A2,A3⟩,_⟩:=hI
    have hgH:H.length≤G.length:=by omega
    have x4:¬ (c.pack.lo+(N:Int)≤c.pack.hi):=by omega
    unfold ca0St
    simp only[clampCs] at *
    (repeat (first|((with_reducible apply zad);(focus ((with_reducible apply zap);(focus rfl);(focus rfl);(focus ((conv=>lhs;simp[*,List.getElem?_append_right,List.set_append_right,List.getElem?_cons_zero,List.getElem?_append_left,List.set_append_left,-getElem?_pos,Nat.testBit_eq_decide_div_mod_eq])<;>exact rfl));(focus rfl);(focus rfl)));simp only[addFl])|(with_reducible apply zad;(focus ((conv=>lhs;simp[*,List.getElem?_append_right,List.set_append_right,List.getElem?_cons_zero,List.getElem?_append_left,List.set_append_left,-getElem?_pos,Nat.testBit_eq_decide_div_mod_eq])<;>exact rfl));simp only[addFl])|((with_reducible first|apply zai|apply zak|apply zah|apply zaf|apply zac|apply zaj|apply zag|apply zam|(apply zae;· simp[*,zaa])|(apply zab;· simp[*,zaa]));try simp only[Then,Ops,OutB,reduceIte])|simp only[Nat.reduceEqDiff,reduceIte,OutB,Then]))
    exact zao (v:=out) (.inl rfl) rfl hgH (by simp only[resL,resOf,zal];simp[*,resV]) ⟨rfl,hI'.out.out.keep (fun q _ h=>by omega) fun q x _ h=>h⟩
def CasC (call:CallF)(c:Clm.Cl)(set:Nat):Prop:=∀ (H:List AB),∃ v G,call (.fn (.func 73) [] []) [.agg (clampCs c),.int .i64 set] H=some (.ret v,G,[])∧H.length≤G.length∧(∀ r x,HB H r x→HB G r x)∧CsV (fun q=>H.length≤q) G (Clm.casesR c set) v
theorem ztg {C:Cfg}{n0:Nat}(hC:C.calm=true)(h0:Has C 73 af73){c:Clm.Cl}(hc:Clm.Fine c){set:Nat}(hT:TrkC (Ev.call C n0) c set):CasC (Ev.call C (n0+1)) c set:=by
  intro H
  obtain ⟨v,hp,tc,G,c1,⟨rfl,h2⟩,c3,c4,c5⟩:=zbo (first:=[]) (captured:=[]) (args:=[.agg (clampCs c),.int .i64 set]) (H:=H) hC h0.ext h0.exth h0.fns h0.whole (le' rfl) (zxk C hC _ c hc set hT H)
  refine ⟨v,G,c1,c3.len,fun r x h=>hb ((c3.old r h.lt (by simp)).trans h.get),?_⟩
  have hv:v=.nils∨refs v≠[]:=by
    cases h2 with
    |none _=>exact .inl rfl
    |some q cs _ _ _ _=>exact .inr (by simp[refs])
  rcases hv with rfl|hv
  · cases h2 with
    |none h=>exact .none h
  · exact h2.keep (fun q _ h=>h) fun q x hq h=>hb (((c4 (.inl hv)).2 q hq).trans h.get)
end K
end Ev
end Go.Proofs.YtimgnlellflciaaGreat

/- The reference of chapter 09, gone through: the span of some numbers, of what a clamp has. -/
namespace Go.Proofs.YtimgnlellflciaaGreat
open Go
namespace Clm
def hullT (l:List Int)(j:Nat):Sp:=(l.take j).foldl (fun s x=>s.either ⟨x,x⟩) ⟨l.headD 0,l.headD 0⟩
theorem hullT_succ {l:List Int}{j:Nat}(h:j<l.length):hullT l (j+1)=⟨min (hullT l j).lo (l.getD j 0),max (hullT l j).hi (l.getD j 0)⟩:=by
  unfold hullT
  rw[List.take_add_one,List.getElem?_eq_getElem h,List.foldl_append,List.getD_eq_getElem?_getD,List.getElem?_eq_getElem h]
  rfl
theorem hullT_all (l:List Int):hullT l l.length=hullR l:=by unfold hullT hullR;rw[List.take_of_length_le (Nat.le_refl _)]
end Clm
namespace Ev
namespace K
attribute [local simp] ev1 wantG spineK spine float xnew xval xeff zaa zar zbb zau zav addFl cellsOf pickC alive slLen slFt binI maxA maxK minA minK aeqK aeqS AV.cells spA zas fillA setAt bitsI nat_nn zbe AV.plain apart
set_option maxRecDepth 100000
set_option maxHeartbeats 4000000
def HulC (call:CallF):Prop:=∀ (H:List AB) (q n:Nat) (l:List Int),l.length=n→0<n→n≤500000→HB H q (.cells (ints l))→call (.fn (.func 38) [] []) [.sl q 0 n 1] H=some (.ret (.agg [.int .i64 (Clm.hullR l).lo,.int .i64 (Clm.hullR l).hi]),H,[])
theorem zzl (C:Cfg)(hC:C.calm=true)(call:CallF)(H:List AB)(q n:Nat)(l:List Int)(hn:l.length=n)(h0:0<n)(h5:n≤500000)(hq:HB H q (.cells (ints l))):
    Does (ev C call H.length none af38.body { tm:=tmA af38.ntmps (zipI 0 [.sl q 0 n 1] []),df:=[],hp:=H,tc:=[] })
      (Ends C H.length af38.res fun v _ tc=>v=.agg [.int .i64 (Clm.hullR l).lo,.int .i64 (Clm.hullR l).hi]∧tc=[]):=by
  have hin:=fun j (hj:j<n)=>zzk l j (by omega)
  have hlen:=zhv l
  rw[hn] at hlen
  have hhd:l.headD 0=l.getD 0 0:=by cases l<;>rfl
  have g0:=hin 0 h0
  have e0:Clm.hullT l 0=⟨l.getD 0 0,l.getD 0 0⟩:=by unfold Clm.hullT;rw[List.take_zero,hhd];rfl
  have hq':=hq
  obtain ⟨Q1,Q2,Q3⟩:=hq
  have HX:=hideP (And.intro hin (And.intro hn (And.intro e0 hq')))
  have n1:q≠H.length:=by omega
  have n2:q≠H.length+1:=by omega
  have n1':¬ (q=H.length):=n1
  have n2':¬ (q=H.length+1):=n2
  have gg0:=ge_of g0
  clear hin e0 hhd hq' hn
  generalize l.getD 0 0=a0 at *
  unfold af38
  simp only[zipI] at *
  (repeat (first|((with_reducible apply zad);(focus ((with_reducible apply zap);(focus rfl);(focus rfl);(focus ((conv=>lhs;simp[*,List.getElem?_append_right,List.set_append_right,List.getElem?_cons_zero,List.getElem?_append_left,List.set_append_left,-getElem?_pos,Nat.testBit_eq_decide_div_mod_eq])<;>exact rfl));(focus rfl);(focus rfl)));simp only[addFl])|(with_reducible apply zad;(focus ((conv=>lhs;simp[*,List.getElem?_append_right,List.set_append_right,List.getElem?_cons_zero,List.getElem?_append_left,List.set_append_left,-getElem?_pos,Nat.testBit_eq_decide_div_mod_eq])<;>exact rfl));simp only[addFl])|((with_reducible first|apply zai|apply zak|apply zah|apply zaf|apply zac|apply zaj|apply zag|apply zam|(apply zae;· simp[*,zaa])|(apply zab;· simp[*,zaa]));try simp only[Then,Ops])|simp only[Nat.reduceEqDiff,reduceIte,OutB,Then]))
  with_reducible refine zaz hC n (by unfold fuelL;omega) (fun j st=>st={ tm:=tmA 34 [(4,.int .i64 j),(3,.ptr (H.length+1) 0),(2,.ptr H.length 0),(0,.sl q 0 n 1)],df:=[],hp:=H++[.cells [.int .i64 0,.int .i64 0],.cells [.int .i64 (Clm.hullT l j).lo,.int .i64 (Clm.hullT l j).hi]],tc:=[] }) ?_ ?_ ?_
  · rw[HX.out.2.2.1]
    (refine st_is ?_ ?_ ?_ ?_;(focus (simp[zan,zaq]));(focus rfl);(focus (first|rfl|(simp;done)|(simp[*];done)|(simp;rfl)|(simp[*];omega)|(simp;omega)));(focus (first|rfl|simp)))
  · rintro j st hj rfl
    obtain ⟨hin,hn,_,_⟩:=HX.out
    rw[Clm.hullT_succ (by omega)]
    have gj:=hin j hj
    have gj':=ge_of gj
    have hw:IntKind.i64.wrap (↑j+1)=↑j+1:=zat (by omega) (by omega)
    have e5:(j:Int)<n:=by omega
    generalize l.getD j 0=x at *
    generalize (Clm.hullT l j).lo=a at *
    generalize (Clm.hullT l j).hi=b at *
    clear hin hn g0 gg0 HX
    (repeat (first|((with_reducible apply zad);(focus ((with_reducible apply zap);(focus rfl);(focus rfl);(focus ((conv=>lhs;simp[*,List.getElem?_append_right,List.set_append_right,List.getElem?_cons_zero,List.getElem?_append_left,List.set_append_left,-getElem?_pos,Nat.testBit_eq_decide_div_mod_eq])<;>exact rfl));(focus rfl);(focus rfl)));simp only[addFl])|(with_reducible apply zad;(focus ((conv=>lhs;simp[*,List.getElem?_append_right,List.set_append_right,List.getElem?_cons_zero,List.getElem?_append_left,List.set_append_left,-getElem?_pos,Nat.testBit_eq_decide_div_mod_eq])<;>exact rfl));simp only[addFl])|((with_reducible first|apply zai|apply zak|apply zah|apply zaf|apply zac|apply zaj|apply zag|apply zam|(apply zae;· simp[*,zaa])|(apply zab;· simp[*,zaa]));try simp only[Then,Ops,OutB])|simp only[Nat.reduceEqDiff,reduceIte,OutB,Then]))
    (refine st_is ?_ ?_ ?_ ?_;(focus (simp[zan,zaq]));(focus rfl);(focus (first|rfl|(simp;done)|(simp[*];done)|(simp;rfl)|(simp[*];omega)|(simp;omega)));(focus (first|rfl|simp)))
  · rintro st rfl
    rw[← Clm.hullT_all,HX.out.2.1]
    generalize Clm.hullT l n=s
    clear HX g0 gg0
    (repeat (first|((with_reducible apply zad);(focus ((with_reducible apply zap);(focus rfl);(focus rfl);(focus ((conv=>lhs;simp[*,List.getElem?_append_right,List.set_append_right,List.getElem?_cons_zero,List.getElem?_append_left,List.set_append_left,-getElem?_pos,Nat.testBit_eq_decide_div_mod_eq])<;>exact rfl));(focus rfl);(focus rfl)));simp only[addFl])|(with_reducible apply zad;(focus ((conv=>lhs;simp[*,List.getElem?_append_right,List.set_append_right,List.getElem?_cons_zero,List.getElem?_append_left,List.set_append_left,-getElem?_pos,Nat.testBit_eq_decide_div_mod_eq])<;>exact rfl));simp only[addFl])|((with_reducible first|apply zai|apply zak|apply zah|apply zaf|apply zac|apply zaj|apply zag|apply zam|(apply zae;· simp[*,zaa])|(apply zab;· simp[*,zaa]));try simp only[Then,Ops,OutB,reduceIte])|simp only[Nat.reduceEqDiff,reduceIte,OutB,Then]))
    exact zao (v:=.agg [.int .i64 s.lo,.int .i64 s.hi]) (.inl rfl) rfl (by simp) (by simp only[resL,resOf,zal];simp[*,pickC,resV]) ⟨rfl,rfl⟩
end K
end Ev
end Go.Proofs.YtimgnlellflciaaGreat

/- The reference of chapter 09, gone through: the span of what a clamp has, in a case. -/
namespace Go.Proofs.YtimgnlellflciaaGreat
open Go
namespace Ev
namespace K
attribute [local simp] ev1 wantG spineK spine float xnew xval xeff zaa zar zbb zau zav addFl cellsOf pickC alive slLen slFt binI maxA maxK minA minK aeqK aeqS AV.cells spA zas fillA setAt bitsI nat_nn zbe AV.plain apart
set_option maxRecDepth 100000
set_option maxHeartbeats 4000000
theorem zpl:∀ (T:List (Int × Int)) (j:Nat),j<T.length→(trCs T)[j * 2]?=some (.int .i64 (T.getD j (0,0)).1)∧(trCs T)[j * 2+1]?=some (.int .i64 (T.getD j (0,0)).2)
  |[],j,h=>by simp at h
  |p::l,0,h=>by simp[trCs]
  |p::l,j+1,h=>by
    have ih:=zpl l j (by simpa using h)
    rw[show (j+1) * 2=j * 2+1+1 by omega]
    simpa [trCs] using ih
theorem ztz {T:List (Int × Int)}{j:Nat}(h:j<T.length)(f:Int × Int→Int):(T.take (j+1)).map f=(T.take j).map f++[f (T.getD j (0,0))]:=by
  rw[List.take_add_one,List.getElem?_eq_getElem h,List.map_append,List.getD_eq_getElem?_getD,List.getElem?_eq_getElem h];rfl
def LefC (call:CallF):Prop:=∀ (H:List AB) (k:Int) (q:Nat) (vs:List AV) (n i q2 m:Nat) (T:List (Int × Int)),HB H q (.cells vs)→vs.length=n→vs[i]?=some (.sl q2 0 m 2)→HB H q2 (.cells (trCs T))→T.length=m→0<m→m≤100000 →
  call (.fn (.func 41) [] []) [.agg [.int .i64 k,.sl q 0 n 1],.int .i64 i] H=some (.ret (.agg [.int .i64 (Clm.leftR T).lo,.int .i64 (Clm.leftR T).hi]),H,[])
structure LeI (H:List AB) (k:Int) (q n:Nat) (vs:List AV) (q2:Nat) (T:List (Int × Int)) (j:Nat) (cur:AV) (G:List AB):Prop where
  c0:HB G H.length (.cells [.int .i64 k,.sl q 0 n 1])
  c1:HB G (H.length+1) (.cells [.int .i64 0,.int .i64 0])
  c2:HB G q (.cells vs)
  c3:HB G q2 (.cells (trCs T))
  li:Li (fun r=>H.length+2≤r) G 1 (ints ((T.take j).map (·.2))) j cur
def leSt (H:List AB)(i j:Nat)(cur:AV)(G:List AB):St:={ tm:=tmA 31 [(6,.int .i64 j),(5,cur),(4,.ptr (H.length+1) 0),(2,.ptr H.length 0),(1,.int .i64 i)],df:=[],hp:=G,tc:=[] }
theorem zut (C:Cfg)(hC:C.calm=true)(call:CallF)(hU:HulC call)(H:List AB)(k:Int)(q:Nat)(vs:List AV)(n i q2 m:Nat)(T:List (Int × Int))(hq:HB H q (.cells vs))(hvn:vs.length=n)(hvi:vs[i]?=some (.sl q2 0 m 2))(hq2:HB H q2 (.cells (trCs T)))(hT:T.length=m)(h0:0<m)(h5:m≤100000):
    Does (ev C call H.length none af41.body { tm:=tmA af41.ntmps (zipI 0 [.agg [.int .i64 k,.sl q 0 n 1],.int .i64 i] []),df:=[],hp:=H,tc:=[] })
      (Ends C H.length af41.res fun v _ tc=>v=.agg [.int .i64 (Clm.leftR T).lo,.int .i64 (Clm.leftR T).hi]∧tc=[]):=by
  have hin:i<n:=by rw[← hvn];exact (List.getElem?_eq_some_iff.1 hvi).1
  have e5:(i:Int)<n:=by omega
  have e6:i+1≤n:=hin
  have hvi':=ge_of hvi
  have hl:=zhr T
  rw[hT] at hl
  have HX:=hideP (And.intro hq (And.intro hq2 (And.intro hT hU)))
  have l1:=hq.lt
  have l2:=hq2.lt
  clear hq hq2 hT hU
  unfold af41
  simp only[zipI] at *
  (repeat (first|((with_reducible apply zad);(focus ((with_reducible apply zap);(focus rfl);(focus rfl);(focus ((conv=>lhs;simp[*,List.getElem?_append_right,List.set_append_right,List.getElem?_cons_zero,List.getElem?_append_left,List.set_append_left,-getElem?_pos,Nat.testBit_eq_decide_div_mod_eq])<;>exact rfl));(focus rfl);(focus rfl)));simp only[addFl])|(with_reducible apply zad;(focus ((conv=>lhs;simp[*,List.getElem?_append_right,List.set_append_right,List.getElem?_cons_zero,List.getElem?_append_left,List.set_append_left,-getElem?_pos,Nat.testBit_eq_decide_div_mod_eq])<;>exact rfl));simp only[addFl])|((with_reducible first|apply zai|apply zak|apply zah|apply zaf|apply zac|apply zaj|apply zag|apply zam|(apply zae;· simp[*,zaa])|(apply zab;· simp[*,zaa]));try simp only[Then,Ops])|simp only[Nat.reduceEqDiff,reduceIte,OutB,Then]))
  with_reducible refine zaz hC m (by unfold fuelL;omega) (fun j st=>∃ G cur,LeI H k q n vs q2 T j cur G∧st=leSt H i j cur G) ?_ ?_ ?_
  · obtain ⟨hq,hq2,_,_⟩:=HX.out
    refine ⟨H++[.cells [.int .i64 k,.sl q 0 n 1],.cells [.int .i64 0,.int .i64 0]],.nils,⟨hb (by rw[List.getElem?_append_right (by omega),Nat.sub_self];rfl),hb (by rw[List.getElem?_append_right (by omega),Nat.add_sub_cancel_left];rfl),hq.app _,hq2.app _,.none rfl rfl⟩,?_⟩
    unfold leSt
    (refine st_is ?_ ?_ ?_ ?_;(focus (simp[zan,zaq]));(focus rfl);(focus (first|rfl|(simp;done)|(simp[*];done)|(simp;rfl)|(simp[*];omega)|(simp;omega)));(focus (first|rfl|simp)))
  · rintro j st hj ⟨G,cur,hI,rfl⟩
    obtain ⟨hq,hq2,hT,hU⟩:=HX.out
    have hI':=hideP hI
    obtain ⟨⟨A1,A2,A3⟩,⟨B1,B2,B3⟩,⟨C1,C2,C3⟩,⟨D1,D2,D3⟩,hli⟩:=hI
    obtain ⟨g1,g2⟩:=zpl T j (by omega)
    have g2':=ge_of g2
    have hta:=ztz (T:=T) (j:=j) (by omega) (·.2)
    generalize (T.getD j (0,0)).2=x at *
    have hw:IntKind.i64.wrap (↑j+1)=↑j+1:=zat (by omega) (by omega)
    have f1:(j:Int)<m:=by omega
    have f2:j * 2+1+1≤m * 2:=by omega
    have f3:j * 2+2≤m * 2:=by omega
    have gG:∀ n,¬ (G.length+n<H.length):=fun n=>by omega
    have gG0:¬ (G.length<H.length):=by omega
    have hb1:1≤bound:=by decide
    have hb2:j+1≤bound:=by unfold bound;omega
    clear hq hq2 hT hU g1 HX
    generalize (T.take j).map (·.2)=L at *
    have hpl:=zgs L
    cases hli with
    |none h1 h2=>
      have hL:L=[]:=by cases L with|nil=>rfl|cons a l=>simp[ints] at h1
      have HF:LeI H k q n vs q2 T (j+1) (.sl (G.length+1) 0 1 1) (G++[.cells [.int .i64 x],.cells [.int .i64 x]]):=by
        refine ⟨(HB.mk A1 A2 A3).app _,(HB.mk B1 B2 B3).app _,(HB.mk C1 C2 C3).app _,(HB.mk D1 D2 D3).app _,?_⟩
        rw[hta,hL,h2]
        exact .some _ (by omega) (hb (by rw[List.getElem?_append_right (by omega),Nat.add_sub_cancel_left];rfl)) rfl
      replace HF:=hideP HF
      clear hta h1 h2 hL
      unfold leSt
      (repeat (first|((with_reducible apply zad);(focus ((with_reducible apply zap);(focus rfl);(focus rfl);(focus ((conv=>lhs;simp[*,List.getElem?_append_right,List.set_append_right,List.getElem?_cons_zero,List.getElem?_append_left,List.set_append_left,-getElem?_pos,Nat.testBit_eq_decide_div_mod_eq])<;>exact rfl));(focus rfl);(focus rfl)));simp only[addFl])|(with_reducible apply zad;(focus ((conv=>lhs;simp[*,List.getElem?_append_right,List.set_append_right,List.getElem?_cons_zero,List.getElem?_append_left,List.set_append_left,-getElem?_pos,Nat.testBit_eq_decide_div_mod_eq])<;>exact rfl));simp only[addFl])|((with_reducible first|apply zai|apply zak|apply zah|apply zaf|apply zac|apply zaj|apply zag|apply zam|(apply zae;· simp[*,zaa])|(apply zab;· simp[*,zaa]));try simp only[Then,Ops,OutB])|simp only[Nat.reduceEqDiff,reduceIte,OutB,Then]))
      refine ⟨_,_,HF.out,?_⟩
      (refine st_is ?_ ?_ ?_ ?_;(focus (simp[zan,zaq]));(focus rfl);(focus (first|rfl|(simp;done)|(simp[*];done)|(simp;rfl)|(simp[*];omega)|(simp;omega)));(focus (first|rfl|simp)))
    |some r h1 h2 h3=>
      have n1:¬ (r<H.length):=by omega
      have hrl:(ints L).length=j:=by rw[h3];omega
      have HF:LeI H k q n vs q2 T (j+1) (.sl (G.length+1) 0 (j+1) 1) (G.set r .dead++[.cells [.int .i64 x],.cells (ints L++[.int .i64 x])]):=by
        refine ⟨((HB.mk A1 A2 A3).set _ (by omega)).app _,((HB.mk B1 B2 B3).set _ (by omega)).app _,((HB.mk C1 C2 C3).set _ (by omega)).app _,((HB.mk D1 D2 D3).set _ (by omega)).app _,?_⟩
        rw[hta]
        refine .some _ (by omega) (hb (by rw[List.getElem?_append_right (by simp)];simp[zlc];rfl)) ?_
        rw[zlc,List.length_append,hrl];simp[ints]
      replace HF:=hideP HF
      have m1:r≠q:=by omega
      have m2:r≠q2:=by omega
      have m3:r≠H.length:=by omega
      have m4:r≠H.length+1:=by omega
      obtain ⟨R1,R2,R3⟩:=h2
      clear hta h1
      unfold leSt
      (repeat (first|((with_reducible apply zad);(focus ((with_reducible apply zap);(focus rfl);(focus rfl);(focus ((conv=>lhs;simp[*,List.getElem?_append_right,List.set_append_right,List.getElem?_cons_zero,List.getElem?_append_left,List.set_append_left,-getElem?_pos,Nat.testBit_eq_decide_div_mod_eq])<;>exact rfl));(focus rfl);(focus rfl)));simp only[addFl])|(with_reducible apply zad;(focus ((conv=>lhs;simp[*,List.getElem?_append_right,List.set_append_right,List.getElem?_cons_zero,List.getElem?_append_left,List.set_append_left,-getElem?_pos,Nat.testBit_eq_decide_div_mod_eq])<;>exact rfl));simp only[addFl])|((with_reducible first|apply zai|apply zak|apply zah|apply zaf|apply zac|apply zaj|apply zag|apply zam|(apply zae;· simp[*,zaa])|(apply zab;· simp[*,zaa]));try simp only[Then,Ops,OutB])|simp only[Nat.reduceEqDiff,reduceIte,OutB,Then]))
      refine ⟨_,_,HF.out,?_⟩
      (refine st_is ?_ ?_ ?_ ?_;(focus (simp[zan,zaq]));(focus rfl);(focus (first|rfl|(simp;done)|(simp[*];done)|(simp;rfl)|(simp[*];omega)|(simp;omega)));(focus (first|rfl|simp)))
  · rintro st ⟨G,cur,hI,rfl⟩
    obtain ⟨hq,hq2,hT,hU⟩:=HX.out
    obtain ⟨⟨A1,A2,A3⟩,⟨B1,B2,B3⟩,⟨C1,C2,C3⟩,⟨D1,D2,D3⟩,hli⟩:=hI
    rw[List.take_of_length_le (by omega)] at hli
    have hlf:Clm.leftR T=Clm.hullR (T.map (·.2)):=rfl
    rw[hlf]
    have hml:(T.map (·.2)).length=m:=by rw[List.length_map,hT]
    generalize T.map (·.2)=L at *
    cases hli with
    |none h1 h2=>omega
    |some r h1 h2 h3=>
      have hu:=hU G r m L hml h0 (by omega) h2
      generalize Clm.hullR L=s at *
      have g2:¬ (H.length+1<H.length):=by omega
      have hgH:H.length≤G.length:=by omega
      clear hU hq hq2 hT hml h1 h2 h3 hlf HX
      unfold leSt
      (repeat (first|((with_reducible apply zad);(focus ((with_reducible apply zap);(focus rfl);(focus rfl);(focus ((conv=>lhs;simp[*,List.getElem?_append_right,List.set_append_right,List.getElem?_cons_zero,List.getElem?_append_left,List.set_append_left,-getElem?_pos,Nat.testBit_eq_decide_div_mod_eq])<;>exact rfl));(focus rfl);(focus rfl)));simp only[addFl])|(with_reducible apply zad;(focus ((conv=>lhs;simp[*,List.getElem?_append_right,List.set_append_right,List.getElem?_cons_zero,List.getElem?_append_left,List.set_append_left,-getElem?_pos,Nat.testBit_eq_decide_div_mod_eq])<;>exact rfl));simp only[addFl])|((with_reducible first|apply zai|apply zak|apply zah|apply zaf|apply zac|apply zaj|apply zag|apply zam|(apply zae;· simp[*,zaa])|(apply zab;· simp[*,zaa]));try simp only[Then,Ops,OutB,reduceIte])|simp only[Nat.reduceEqDiff,reduceIte,OutB,Then]))
      exact zao (v:=.agg [.int .i64 s.lo,.int .i64 s.hi]) (.inl rfl) rfl (by simp only[List.length_set];exact hgH) (by simp only[resL,resOf,zal];simp[*,pickC,resV]) ⟨rfl,rfl⟩
end K
end Ev
end Go.Proofs.YtimgnlellflciaaGreat

/- The reference of chapter 09, gone through: what is known. -/
namespace Go.Proofs.YtimgnlellflciaaGreat
open Go
namespace Ev
namespace K
attribute [local simp] ev1 wantG spineK spine float xnew xval xeff zaa zar zbb zau zav addFl cellsOf pickC alive slLen slFt binI maxA maxK minA minK aeqK aeqS AV.cells spA zas fillA setAt bitsI nat_nn zbe AV.plain apart
set_option maxRecDepth 100000
set_option maxHeartbeats 4000000
def EveC (call:CallF)(c:Clm.Cl):Prop:=∀ H,call (.fn (.func 71) [] []) [.agg (clampCs c)] H=some (.ret (.int .i64 (Clm.every c:Nat)),H,[])
theorem zpv {n:Nat}(hn:n≤6):IntKind.i64.wrap (((2 ^ n:Nat):Int) - 1)=((2 ^ n - 1:Nat):Int):=by
  have h1:0<2 ^ n:=Nat.two_pow_pos n
  have h2:2 ^ n≤2 ^ 6:=Nat.pow_le_pow_right (by decide) hn
  have h3:(2:Nat) ^ 6=64:=rfl
  rw[h3] at h2
  generalize (2:Nat) ^ n=m at *
  rw[show ((m - 1:Nat):Int)=(m:Int) - 1 by omega]
  exact zat (by omega) (by omega)
theorem zrr (C:Cfg)(call:CallF)(c:Clm.Cl)(hc:Clm.Fine c)(hP:PowC call)(H:List AB):
    Does (ev C call H.length none af71.body { tm:=tmA af71.ntmps (zipI 0 [.agg (clampCs c)] []),df:=[],hp:=H,tc:=[] })
      (Ends C H.length af71.res fun v _ tc=>v=.int .i64 (Clm.every c:Nat)∧tc=[]):=by
  have he6:=hc.events
  have hp:=fun H=>hP H c.events.length (by omega)
  have hw:=zpv he6
  unfold Clm.every
  generalize ((2 ^ c.events.length:Nat):Int)=p at *
  generalize ((2 ^ c.events.length - 1:Nat):Int)=p' at *
  clear hP he6 hc
  unfold af71
  simp only[zipI,clampCs] at *
  (repeat (first|((with_reducible apply zad);(focus ((with_reducible apply zap);(focus rfl);(focus rfl);(focus ((conv=>lhs;simp[*,List.getElem?_append_right,List.set_append_right,List.getElem?_cons_zero,List.getElem?_append_left,List.set_append_left,-getElem?_pos,Nat.testBit_eq_decide_div_mod_eq])<;>exact rfl));(focus rfl);(focus rfl)));simp only[addFl])|(with_reducible apply zad;(focus ((conv=>lhs;simp[*,List.getElem?_append_right,List.set_append_right,List.getElem?_cons_zero,List.getElem?_append_left,List.set_append_left,-getElem?_pos,Nat.testBit_eq_decide_div_mod_eq])<;>exact rfl));simp only[addFl])|((with_reducible first|apply zai|apply zak|apply zah|apply zaf|apply zac|apply zaj|apply zag|apply zam|(apply zae;· simp[*,zaa])|(apply zab;· simp[*,zaa]));try simp only[Then,Ops])|simp only[Nat.reduceEqDiff,reduceIte,OutB,Then]))
  exact zao (v:=.int .i64 p') (.inl rfl) rfl (by simp) (by simp only[resL,resOf,zal];simp[*,resV]) ⟨rfl,rfl⟩
def PilC (call:CallF)(c:Clm.Cl):Prop:=∀ H,call (.fn (.func 50) [] []) [.agg (clampCs c)] H=some (.ret (.int .i64 (fullP c:Nat)),H,[])
theorem zrp (C:Cfg)(call:CallF)(c:Clm.Cl)(hc:Clm.Fine c)(hP:PowC call)(H:List AB):
    Does (ev C call H.length none af50.body { tm:=tmA af50.ntmps (zipI 0 [.agg (clampCs c)] []),df:=[],hp:=H,tc:=[] })
      (Ends C H.length af50.res fun v _ tc=>v=.int .i64 (fullP c:Nat)∧tc=[]):=by
  have he6:=hc.piles
  have hp:=fun H=>hP H c.piles.length (by omega)
  have hw:=zpv (n:=c.piles.length) (by omega)
  unfold fullP
  generalize ((2 ^ c.piles.length:Nat):Int)=p at *
  generalize ((2 ^ c.piles.length - 1:Nat):Int)=p' at *
  clear hP he6 hc
  unfold af50
  simp only[zipI,clampCs] at *
  (repeat (first|((with_reducible apply zad);(focus ((with_reducible apply zap);(focus rfl);(focus rfl);(focus ((conv=>lhs;simp[*,List.getElem?_append_right,List.set_append_right,List.getElem?_cons_zero,List.getElem?_append_left,List.set_append_left,-getElem?_pos,Nat.testBit_eq_decide_div_mod_eq])<;>exact rfl));(focus rfl);(focus rfl)));simp only[addFl])|(with_reducible apply zad;(focus ((conv=>lhs;simp[*,List.getElem?_append_right,List.set_append_right,List.getElem?_cons_zero,List.getElem?_append_left,List.set_append_left,-getElem?_pos,Nat.testBit_eq_decide_div_mod_eq])<;>exact rfl));simp only[addFl])|((with_reducible first|apply zai|apply zak|apply zah|apply zaf|apply zac|apply zaj|apply zag|apply zam|(apply zae;· simp[*,zaa])|(apply zab;· simp[*,zaa]));try simp only[Then,Ops])|simp only[Nat.reduceEqDiff,reduceIte,OutB,Then]))
  exact zao (v:=.int .i64 p') (.inl rfl) rfl (by simp) (by simp only[resL,resOf,zal];simp[*,resV]) ⟨rfl,rfl⟩
def CasesC (call:CallF)(c:Clm.Cl):Prop:=∀ (H:List AB),∃ v G,call (.fn (.func 70) [] []) [.agg (clampCs c)] H=some (.ret v,G,[])∧H.length≤G.length∧(∀ r x,HB H r x→HB G r x)∧CsV (fun q=>H.length≤q) G (Clm.casesR c (Clm.every c)) v
theorem zry (C:Cfg)(call:CallF)(c:Clm.Cl)(hE:EveC call c)(hK:CasC call c (Clm.every c))(H:List AB):
    Does (ev C call H.length none af70.body { tm:=tmA af70.ntmps (zipI 0 [.agg (clampCs c)] []),df:=[],hp:=H,tc:=[] })
      (Ends C H.length af70.res fun v hp tc=>tc=[]∧CsV (fun q=>H.length≤q) hp (Clm.casesR c (Clm.every c)) v):=by
  obtain ⟨v,G,hcall,l1,kp,hV⟩:=hK (H++[.cells (clampCs c)])
  have hE':=fun H=>hE H
  have hlG:H.length≤G.length:=by simp only[List.length_append,List.length_cons,List.length_nil] at l1;omega
  have HX:=hideP hV
  clear hE hK l1 kp hV
  generalize (Clm.every c:Nat)=m at *
  unfold af70
  simp only[zipI,clampCs] at *
  (repeat (first|((with_reducible apply zad);(focus ((with_reducible apply zap);(focus rfl);(focus rfl);(focus ((conv=>lhs;simp[*,List.getElem?_append_right,List.set_append_right,List.getElem?_cons_zero,List.getElem?_append_left,List.set_append_left,-getElem?_pos,↓zbl,Nat.testBit_eq_decide_div_mod_eq])<;>exact rfl));(focus rfl);(focus rfl)));simp only[addFl])|(with_reducible apply zad;(focus ((conv=>lhs;simp[*,List.getElem?_append_right,List.set_append_right,List.getElem?_cons_zero,List.getElem?_append_left,List.set_append_left,-getElem?_pos,↓zbl,Nat.testBit_eq_decide_div_mod_eq])<;>exact rfl));simp only[addFl])|((with_reducible first|apply zai|apply zak|apply zah|apply zaf|apply zac|apply zaj|apply zag|apply zam|(apply zae;· simp[*,zaa])|(apply zab;· simp[*,zaa]));try simp only[Then,Ops])|simp only[Nat.reduceEqDiff,reduceIte,OutB,Then]))
  exact zao (v:=v) (.inl rfl) rfl hlG (by simp only[resL,resOf,zal];simp[*,resV]) ⟨rfl,HX.out.keep (fun q _ h=>by simp only[List.length_append,List.length_cons,List.length_nil] at h;omega) fun q x _ h=>h⟩
theorem zqw {H hp G:List AB}{L:List (Int × List (List (Int × Int)))}{v:AV}(h2:CsV (fun q=>H.length≤q) hp L v)(c4:refs v≠[]→∀ j,H.length≤j→G[j]?=hp[j]?):CsV (fun q=>H.length≤q) G L v:=by
  have hv:v=.nils∨refs v≠[]:=by
    cases h2 with
    |none _=>exact .inl rfl
    |some q cs _ _ _ _=>exact .inr (by simp[refs])
  rcases hv with rfl|hv
  · cases h2 with
    |none h=>exact .none h
  · exact h2.keep (fun q _ h=>h) fun q x hq h=>hb ((c4 hv q hq).trans h.get)
theorem znv {C:Cfg}{n0:Nat}(hC:C.calm=true)(h0:Has C 70 af70){c:Clm.Cl}(hE:EveC (Ev.call C n0) c)(hK:CasC (Ev.call C n0) c (Clm.every c)):CasesC (Ev.call C (n0+1)) c:=by
  intro H
  obtain ⟨v,hp,tc,G,c1,⟨rfl,h2⟩,c3,c4,c5⟩:=zbo (first:=[]) (captured:=[]) (args:=[.agg (clampCs c)]) (H:=H) hC h0.ext h0.exth h0.fns h0.whole (le' rfl) (zry C _ c hE hK H)
  exact ⟨v,G,c1,c3.len,fun r x h=>hb ((c3.old r h.lt (by simp)).trans h.get),zqw h2 fun hv=>(c4 (.inl hv)).2⟩
def chkE (c:Clm.Cl)(b:Bool):Int:=if Clm.valid c=false then 1 else if b=false then 2 else 0
def ChkC (call:CallF)(c:Clm.Cl):Prop:=∀ H b,call (.fn (.func 69) [] []) [.agg (clampCs c),.bool b] H=some (.ret (.int .i64 (chkE c b)),H,[])
theorem zrx (C:Cfg)(call:CallF)(c:Clm.Cl)(hv:∀ H,call (.fn (.func 24) [] []) [.agg (clampCs c)] H=some (.ret (.bool (Clm.valid c)),H,[]))(H:List AB)(b:Bool):
    Does (ev C call H.length none af69.body { tm:=tmA af69.ntmps (zipI 0 [.agg (clampCs c),.bool b] []),df:=[],hp:=H,tc:=[] })
      (Ends C H.length af69.res fun v _ tc=>v=.int .i64 (chkE c b)∧tc=[]):=by
  unfold chkE
  cases hval:Clm.valid c<;>cases b<;>rw[hval] at hv
  all_goals
    clear hval
    unfold af69
    simp only[zipI,clampCs] at *
    (repeat (first|((with_reducible apply zad);(focus ((with_reducible apply zap);(focus rfl);(focus rfl);(focus ((conv=>lhs;simp[*,List.getElem?_append_right,List.set_append_right,List.getElem?_cons_zero,List.getElem?_append_left,List.set_append_left,-getElem?_pos,Nat.testBit_eq_decide_div_mod_eq])<;>exact rfl));(focus rfl);(focus rfl)));simp only[addFl])|(with_reducible apply zad;(focus ((conv=>lhs;simp[*,List.getElem?_append_right,List.set_append_right,List.getElem?_cons_zero,List.getElem?_append_left,List.set_append_left,-getElem?_pos,Nat.testBit_eq_decide_div_mod_eq])<;>exact rfl));simp only[addFl])|((with_reducible first|apply zai|apply zak|apply zah|apply zaf|apply zac|apply zaj|apply zag|apply zam|(apply zae;· simp[*,zaa])|(apply zab;· simp[*,zaa]));try simp only[Then,Ops,reduceIte])|simp only[Nat.reduceEqDiff,reduceIte,OutB,Then]))
    exact zao (.inl rfl) rfl (by simp) (by simp only[resL,resOf,zal];simp[*,resV]) ⟨rfl,rfl⟩
structure KnoC (call:CallF) (c:Clm.Cl):Prop where
  no:∀ b,errOf c b≠0→∀ H,call (.fn (.func 36) [] []) [.agg (clampCs c),.bool b] H=some (.ret (.tup [.nils,.int .i64 (errOf c b)]),H,[])
  yes:errOf c true=0→∀ H,∃ v G,call (.fn (.func 36) [] []) [.agg (clampCs c),.bool true] H=some (.ret (.tup [v,.int .i64 0]),G,[])∧H.length≤G.length∧(∀ r x,HB H r x→HB G r x)∧CsV (fun q=>H.length≤q) G (Clm.casesR c (Clm.every c)) v
theorem zjn (C:Cfg)(call:CallF)(c:Clm.Cl)(hK:ChkC call c)(hCs:Clm.Fine c→CasesC call c)(H:List AB)(b:Bool):
    Does (ev C call H.length none af36.body { tm:=tmA af36.ntmps (zipI 0 [.agg (clampCs c),.bool b] []),df:=[],hp:=H,tc:=[] })
      (Ends C H.length af36.res fun v hp tc=>tc=[]∧((errOf c b≠0∧v=.tup [.nils,.int .i64 (errOf c b)])∨(errOf c b=0∧∃ w,v=.tup [w,.int .i64 0]∧CsV (fun q=>H.length≤q) hp (Clm.casesR c (Clm.every c)) w))):=by
  have hk:=fun H=>hK H b
  unfold chkE at hk
  unfold errOf
  cases hval:Clm.valid c with
  |false=>
    rw[hval] at hk
    simp only[if_pos] at hk ⊢
    clear hK hCs hval
    unfold af36
    simp only[zipI,clampCs] at *
    (repeat (first|((with_reducible apply zad);(focus ((with_reducible apply zap);(focus rfl);(focus rfl);(focus ((conv=>lhs;simp[*,List.getElem?_append_right,List.set_append_right,List.getElem?_cons_zero,List.getElem?_append_left,List.set_append_left,-getElem?_pos,Nat.testBit_eq_decide_div_mod_eq])<;>exact rfl));(focus rfl);(focus rfl)));simp only[addFl])|(with_reducible apply zad;(focus ((conv=>lhs;simp[*,List.getElem?_append_right,List.set_append_right,List.getElem?_cons_zero,List.getElem?_append_left,List.set_append_left,-getElem?_pos,Nat.testBit_eq_decide_div_mod_eq])<;>exact rfl));simp only[addFl])|((with_reducible first|apply zai|apply zak|apply zah|apply zaf|apply zac|apply zaj|apply zag|apply zam|(apply zae;· simp[*,zaa])|(apply zab;· simp[*,zaa]));try simp only[Then,Ops])|simp only[Nat.reduceEqDiff,reduceIte,OutB,Then]))
    exact zao (v:=.tup [.nils,.int .i64 1]) (.inl rfl) rfl (by simp) (by simp only[resL,resOf,zal];simp[*,resV]) ⟨rfl,.inl ⟨by decide,rfl⟩⟩
  |true=>
    have hc:=(Clm.valid_iff c).1 hval
    rw[hval] at hk
    cases b with
    |false=>
      simp only[Bool.true_eq_false,if_false,if_pos] at hk ⊢
      clear hK hCs hval hc
      unfold af36
      simp only[zipI,clampCs] at *
      (repeat (first|((with_reducible apply zad);(focus ((with_reducible apply zap);(focus rfl);(focus rfl);(focus ((conv=>lhs;simp[*,List.getElem?_append_right,List.set_append_right,List.getElem?_cons_zero,List.getElem?_append_left,List.set_append_left,-getElem?_pos,Nat.testBit_eq_decide_div_mod_eq])<;>exact rfl));(focus rfl);(focus rfl)));simp only[addFl])|(with_reducible apply zad;(focus ((conv=>lhs;simp[*,List.getElem?_append_right,List.set_append_right,List.getElem?_cons_zero,List.getElem?_append_left,List.set_append_left,-getElem?_pos,Nat.testBit_eq_decide_div_mod_eq])<;>exact rfl));simp only[addFl])|((with_reducible first|apply zai|apply zak|apply zah|apply zaf|apply zac|apply zaj|apply zag|apply zam|(apply zae;· simp[*,zaa])|(apply zab;· simp[*,zaa]));try simp only[Then,Ops])|simp only[Nat.reduceEqDiff,reduceIte,OutB,Then]))
      exact zao (v:=.tup [.nils,.int .i64 2]) (.inl rfl) rfl (by simp) (by simp only[resL,resOf,zal];simp[*,resV]) ⟨rfl,.inl ⟨by decide,rfl⟩⟩
    |true=>
      simp only[Bool.true_eq_false,if_false] at hk ⊢
      obtain ⟨v,G,hcall,l1,kp,hV⟩:=hCs hc (H++[.cells (clampCs c)])
      have hlG:H.length≤G.length:=by simp only[List.length_append,List.length_cons,List.length_nil] at l1;omega
      have hcc:=Clm.cases_can hc (Clm.every c)
      have hV':CsV (fun q=>H.length≤q) G (Clm.casesR c (Clm.every c)) v:=hV.keep (fun q _ h=>by simp only[List.length_append,List.length_cons,List.length_nil] at h;omega) fun q x _ h=>h
      have HX:=hideP hV'
      rw[hcc]
      have hcase:(v=.nils∧Clm.casesR c (Clm.every c)=[])∨∃ q n,v=.sl q 0 n 2∧0<n∧(∃ cs,HB G q (.cells cs))∧Clm.casesR c (Clm.every c)≠[]:=by
        cases hV with
        |none h=>exact .inl ⟨rfl,h⟩
        |some q cs h1 h2 h3 h4=>exact .inr ⟨q,_,rfl,List.length_pos_iff.2 h1,⟨cs,h3⟩,h1⟩
      clear hK hCs hval hc hV hV' kp l1 hcc
      rcases hcase with ⟨rfl,he⟩|⟨q,n,rfl,hn,⟨cs,⟨A1,A2,A3⟩⟩,he⟩
      · rw[he]
        clear he HX
        unfold af36
        simp only[zipI,clampCs] at *
        (repeat (first|((with_reducible apply zad);(focus ((with_reducible apply zap);(focus rfl);(focus rfl);(focus ((conv=>lhs;simp[*,List.getElem?_append_right,List.set_append_right,List.getElem?_cons_zero,List.getElem?_append_left,List.set_append_left,-getElem?_pos,Nat.testBit_eq_decide_div_mod_eq])<;>exact rfl));(focus rfl);(focus rfl)));simp only[addFl])|(with_reducible apply zad;(focus ((conv=>lhs;simp[*,List.getElem?_append_right,List.set_append_right,List.getElem?_cons_zero,List.getElem?_append_left,List.set_append_left,-getElem?_pos,Nat.testBit_eq_decide_div_mod_eq])<;>exact rfl));simp only[addFl])|((with_reducible first|apply zai|apply zak|apply zah|apply zaf|apply zac|apply zaj|apply zag|apply zam|(apply zae;· simp[*,zaa])|(apply zab;· simp[*,zaa]));try simp only[Then,Ops])|simp only[Nat.reduceEqDiff,reduceIte,OutB,Then]))
        exact zao (v:=.tup [.nils,.int .i64 10]) (.inl rfl) rfl hlG (by simp only[resL,resOf,zal];simp[*,resV]) ⟨rfl,.inl ⟨by decide,rfl⟩⟩
      · have hie:(!(Clm.casesR c (Clm.every c)).isEmpty)=true:=by cases h:Clm.casesR c (Clm.every c) with|nil=>exact absurd h he|cons a l=>rfl
        rw[hie]
        have hn0:((n:Int)==0)=false:=beq_false_of_ne (by omega)
        have hn1:¬ (n=0):=by omega
        clear he hie hn
        unfold af36
        simp only[zipI,clampCs] at *
        (repeat (first|((with_reducible apply zad);(focus ((with_reducible apply zap);(focus rfl);(focus rfl);(focus ((conv=>lhs;simp[*,List.getElem?_append_right,List.set_append_right,List.getElem?_cons_zero,List.getElem?_append_left,List.set_append_left,-getElem?_pos,Nat.testBit_eq_decide_div_mod_eq])<;>exact rfl));(focus rfl);(focus rfl)));simp only[addFl])|(with_reducible apply zad;(focus ((conv=>lhs;simp[*,List.getElem?_append_right,List.set_append_right,List.getElem?_cons_zero,List.getElem?_append_left,List.set_append_left,-getElem?_pos,Nat.testBit_eq_decide_div_mod_eq])<;>exact rfl));simp only[addFl])|((with_reducible first|apply zai|apply zak|apply zah|apply zaf|apply zac|apply zaj|apply zag|apply zam|(apply zae;· simp[*,zaa])|(apply zab;· simp[*,zaa]));try simp only[Then,Ops])|simp only[Nat.reduceEqDiff,reduceIte,OutB,Then]))
        exact zao (v:=.tup [.sl q 0 n 2,.int .i64 0]) (.inl rfl) rfl hlG (by simp only[resL,resOf,zal];simp[*,resV]) ⟨rfl,.inr ⟨by decide,_,rfl,HX.out⟩⟩
theorem znu {C:Cfg}{n0:Nat}(hC:C.calm=true)(h0:Has C 36 af36){c:Clm.Cl}(hK:ChkC (Ev.call C n0) c)(hCs:Clm.Fine c→CasesC (Ev.call C n0) c):KnoC (Ev.call C (n0+1)) c:=by
  refine ⟨fun b hb0 H=>?_,fun he H=>?_⟩
  · obtain ⟨v,hp,tc,G,c1,⟨rfl,h2⟩,c3,c4,c5⟩:=zbo (first:=[]) (captured:=[]) (args:=[.agg (clampCs c),.bool b]) (H:=H) hC h0.ext h0.exth h0.fns h0.whole (le' rfl) (zjn C _ c hK hCs H b)
    rcases h2 with ⟨_,rfl⟩|⟨h,_⟩
    · rw[c1,c5 (by simp[refs,refsL]) rfl]
    · exact absurd h hb0
  · obtain ⟨v,hp,tc,G,c1,⟨rfl,h2⟩,c3,c4,c5⟩:=zbo (first:=[]) (captured:=[]) (args:=[.agg (clampCs c),.bool true]) (H:=H) hC h0.ext h0.exth h0.fns h0.whole (le' rfl) (zjn C _ c hK hCs H true)
    rcases h2 with ⟨h,_⟩|⟨_,w,rfl,h2⟩
    · exact absurd he h
    · refine ⟨w,G,c1,c3.len,fun r x h=>hb ((c3.old r h.lt (by simp)).trans h.get),zqw h2 fun hv=>(c4 (.inl ?_)).2⟩
      simpa [refs,refsL] using hv
end K
end Ev
end Go.Proofs.YtimgnlellflciaaGreat

/- The reference of chapter 09, gone through: how many sods a clamp had. -/
namespace Go.Proofs.YtimgnlellflciaaGreat
open Go
namespace Clm
theorem zrh {c:Cl}(hc:Fine c)(i:Nat)(hi:i<c.piles.length)(k:Int)(set:Nat):(tracksR c i k set).length≤32768:=by
  have hgp:c.piles[i]?=some c.piles[i]:=List.getElem?_eq_getElem hi
  have hgd:c.piles.getD i default=c.piles[i]:=by rw[List.getD_eq_getElem?_getD,hgp];rfl
  have hok:=hc.pile _ (List.getElem_mem hi)
  have h4:4 ^ c.events.length≤4 ^ 6:=Nat.pow_le_pow_right (by decide) hc.events
  have hF : ∀ l w h, (trF c i k set l w h).length ≤ 4096 := fun l w h => Nat.le_trans (aft_len i set c.events 0 _ _ fun v hv hk => by
    have:=hc.event v hv
    rw[if_pos hk] at this;omega) h4
  rw[tracks_fl c i k set c.piles[i] hgd]
  generalize c.piles[i]=p at hok
  refine Nat.le_trans (fl_len (B:=16384) (fun l=>Nat.le_trans (fl_len (B:=8192) (fun w=>Nat.le_trans (fl_len (fun h=>hF l w h) _) ?_) _) ?_) _) ?_
  · have:(p.high.hi+1 - p.high.lo).toNat≤2:=by omega
    omega
  · have:(p.wide.hi+1 - p.wide.lo).toNat≤2:=by omega
    omega
  · have:(p.long.hi+1 - p.long.lo).toNat≤2:=by omega
    omega
theorem case_in {c:Cl}(hc:Fine c){set:Nat}{q:Int × List (List (Int × Int))}(h:q∈casesR c set):q.2.length=c.piles.length∧∀ i,i<c.piles.length→q.2.getD i []≠[]∧(q.2.getD i []).length≤32768:=by
  unfold casesR at h
  rw[List.mem_filterMap] at h
  obtain ⟨k,_,hk⟩:=h
  split at hk
  · rename_i hall
    cases hk
    refine ⟨tracksL_len c k set,fun i hi=>?_⟩
    rw[zej hi]
    rw[List.all_eq_true] at hall
    have h2:=hall (tracksR c i k set) (by simp only[tracksL,List.mem_map,List.mem_range];exact ⟨i,hi,rfl⟩)
    refine ⟨fun e=>?_,zrh hc i hi k set⟩
    rw[e] at h2;cases h2
  · cases hk
theorem cases_len {c:Cl}(hc:Fine c)(set:Nat):(casesR c set).length≤3:=by
  unfold casesR
  refine Nat.le_trans (List.length_filterMap_le _ _) ?_
  have:=hc.pack
  simp only[spanL,List.length_map,List.length_range]
  omega
end Clm
namespace Ev
namespace K
set_option maxRecDepth 100000
set_option maxHeartbeats 4000000
structure CsW (P:Nat→Prop) (G:List AB) (n np i a:Nat) (v:AV) (k:Int) (T:List (Int × Int)) (q q1 q2 m:Nat) (cs vs:List AV):Prop where
  v:v=.sl q 0 n 2
  c0:HB G q (.cells cs)
  cl:cs.length=n * 2
  ck:cs[a * 2]?=some (.int .i64 k)
  cv:cs[a * 2+1]?=some (.sl q1 0 np 1)
  c1:HB G q1 (.cells vs)
  vl:vs.length=np
  vi:vs[i]?=some (.sl q2 0 m 2)
  c2:HB G q2 (.cells (trCs T))
  tl:T.length=m
  m0:0<m
  m1:m≤32768
  p0:P q
  p1:P q1
  p2:P q2
theorem ybi {P:Nat→Prop}{G:List AB}{c:Clm.Cl}(hc:Clm.Fine c){set:Nat}{v:AV}(h:CsV P G (Clm.casesR c set) v){i a:Nat}(hi:i<c.piles.length)(ha:a<(Clm.casesR c set).length):
    ∃ q q1 q2 cs vs,CsW P G (Clm.casesR c set).length c.piles.length i a v ((Clm.casesR c set).getD a (0,[])).1 (((Clm.casesR c set).getD a (0,[])).2.getD i []) q q1 q2 (((Clm.casesR c set).getD a (0,[])).2.getD i []).length cs vs:=by
  have hm:(Clm.casesR c set).getD a (0,[])∈Clm.casesR c set:=by
    rw[List.getD_eq_getElem?_getD,List.getElem?_eq_getElem ha];exact List.getElem_mem _
  obtain ⟨e1,e2⟩:=Clm.case_in hc hm
  obtain ⟨e3,e4⟩:=e2 i hi
  cases h with
  |none h=>rw[h] at ha;simp at ha
  |some q cs h1 h2 h3 h4=>
    obtain ⟨w,f1,f2,f3⟩:=h4.2 a ha
    generalize (Clm.casesR c set).getD a (0,[])=d at *
    cases f3 with
    |none f3=>rw[f3] at e1;simp at e1;omega
    |some q1 vs f3 f4 f5 f6=>
      obtain ⟨w2,g1,g2⟩:=f6.2 i (by omega)
      rw[e1] at f2
      cases g2 with
      |none g3 g4=>exact absurd (List.eq_nil_of_length_eq_zero g4) e3
      |some q2 g3 g4 g5=>
        exact ⟨q,q1,q2,cs,vs,rfl,h3,h4.1,f1,f2,f5,by rw[f6.1,e1],g1,g4,rfl,List.length_pos_iff.2 e3,e4,h2,f4,g3⟩
structure BuI (H:List AB) (lo:Nat) (D:List (Int × List (List (Int × Int)))) (v:AV) (out:List Int) (cur:AV) (G:List AB):Prop where
  c1:HB G (H.length+1) (.cells [.int .i64 0,.int .i64 0])
  l0:H.length+2≤lo
  l1:lo≤G.length
  dv:CsV (fun q=>q<lo) G D v
  li:Li (fun r=>lo≤r) G 1 (ints out) out.length cur
theorem BuI.nils {H:List AB}{lo:Nat}{D:List (Int × List (List (Int × Int)))}{v:AV}{G:List AB}(h:BuI H lo D v [] .nils G)(l:List Int)(_hl:l≠[])(K:List AB)(q:Nat)(hq:HB (G++K) q (.cells (ints l)))(hge:G.length≤q)(n:Nat)(hn:l.length=n):BuI H lo D v ([]++l) (.sl q 0 n 1) (G++K):=by
  subst hn
  obtain ⟨c1,l0,l1,dv,_⟩:=h
  refine ⟨c1.app _,l0,by rw[List.length_append];omega,dv.keep (fun q _ h=>h) fun q x _ h=>h.app _,?_⟩
  rw[List.nil_append]
  exact .some q (by omega) hq (by rw[zhv];omega)
theorem BuI.more {H:List AB}{lo:Nat}{D:List (Int × List (List (Int × Int)))}{v:AV}{out:List Int}{r n0:Nat}{G:List AB}(h:BuI H lo D v out (.sl r 0 n0 1) G)(hr:lo≤r)(l:List Int)(K:List AB)(q n:Nat)(hq:HB (G.set r .dead++K) q (.cells (ints out++ints l)))(hge:G.length≤q)(hn:(out++l).length=n):BuI H lo D v (out++l) (.sl q 0 n 1) (G.set r .dead++K):=by
  subst hn
  obtain ⟨c1,l0,l1,dv,_⟩:=h
  refine ⟨(c1.set _ (by omega)).app _,l0,by rw[List.length_append,List.length_set];omega,dv.keep (fun q _ h=>h) fun q x hq h=>(h.set _ (by omega)).app _,?_⟩
  exact .some q (by omega) (by rw[zlc];exact hq) (by rw[zhv];omega)
end K
end Ev
end Go.Proofs.YtimgnlellflciaaGreat

/- The reference of chapter 09, gone through: Built. -/
namespace Go.Proofs.YtimgnlellflciaaGreat
open Go
namespace Clm
theorem flat_len {α β:Type}{f:α→List β}{B:Nat}:∀ {l:List α},(∀ a∈l,(f a).length≤B)→(l.flatMap f).length≤l.length * B
  |[],_=>by simp
  |a::l,h=>by
    rw[List.flatMap_cons,List.length_append,List.length_cons,Nat.succ_mul]
    have h1:=h a (by simp)
    have h2:=flat_len (l:=l) (f:=f) (B:=B) fun b hb=>h b (by simp[hb])
    omega
theorem flat_take {α β:Type}{f:α→List β}{l:List α}{a:Nat}{d:α}(h:a<l.length):(l.take (a+1)).flatMap f=(l.take a).flatMap f++f (l.getD a d):=by
  rw[List.take_add_one,List.getElem?_eq_getElem h,List.flatMap_append,List.getD_eq_getElem?_getD,List.getElem?_eq_getElem h];simp
theorem err_zero {c:Cl}{b:Bool}(h:Ev.K.errOf c b=0):b=true∧Fine c∧can c (every c)=true:=by
  unfold Ev.K.errOf at h
  cases hv:valid c with
  |false=>rw[hv] at h;simp at h
  |true=>
    rw[hv] at h
    cases b with
    |false=>simp at h
    |true=>
      refine ⟨rfl,(valid_iff c).1 hv,?_⟩
      cases hc:can c (every c) with
      |true=>rfl
      |false=>rw[hc] at h;simp at h
end Clm
namespace Ev
namespace K
set_option maxRecDepth 100000
set_option maxHeartbeats 4000000
end K
end Ev
end Go.Proofs.YtimgnlellflciaaGreat

/- The reference of chapter 09, gone through: Sold. -/
namespace Go.Proofs.YtimgnlellflciaaGreat
open Go
namespace Clm
theorem aft_in (i:Int)(set:Nat)(p:Int × Int):∀ (l:List Evt) (n:Nat) (b y:Int),(∀ v∈l,0≤v.sods.lo)→0≤y→p∈aft i set l n b y→p.1=b∧0≤p.2∧p.2≤y
  |[],n,b,y,_,hy,h=>by
    simp only[aft,List.mem_singleton] at h
    subst h
    exact ⟨rfl,hy,Int.le_refl _⟩
  |v::l,n,b,y,hv,hy,h=>by
    have hv':∀ u∈l,0≤u.sods.lo:=fun u hu=>hv u (by simp[hu])
    have h0:=hv v (by simp)
    rw[aft] at h
    split at h
    · rw[List.mem_flatMap] at h
      obtain ⟨j,hj,h⟩:=h
      rw[List.mem_range] at hj
      obtain ⟨h1,h2,h3⟩:=aft_in i set p l (n+1) b _ hv' (by omega) h
      exact ⟨h1,h2,by omega⟩
    · split at h
      · cases h
      · exact aft_in i set p l (n+1) b y hv' hy h
theorem zxv {c:Cl}(hc:Fine c){i:Nat}(hi:i<c.piles.length){k:Int}(h0:0≤k)(h5:k≤5){set:Nat}{p:Int × Int}(h:p∈tracksR c i k set):0≤p.2∧p.2≤p.1∧p.1≤5000:=by
  unfold tracksR at h
  rw[List.mem_flatMap] at h
  obtain ⟨s,hs,h⟩:=h
  obtain ⟨s0,s5⟩:=znq hc hi h0 h5 hs
  obtain ⟨h1,h2,h3⟩:=aft_in i set p c.events 0 _ _ (fun v hv=>(hc.event v hv).2.2.1) s0 h
  omega
theorem zth {c:Cl}(hc:Fine c){set:Nat}{q:Int × List (List (Int × Int))}(h:q∈casesR c set){i:Nat}(hi:i<c.piles.length){p:Int × Int}(hp:p∈q.2.getD i []):0≤p.2∧p.2≤p.1∧p.1≤5000:=by
  unfold casesR at h
  rw[List.mem_filterMap] at h
  obtain ⟨k,hk0,hk⟩:=h
  rw[mem_span] at hk0
  have hpk:=hc.pack
  simp only[Sp.has] at hk0
  split at hk
  · cases hk
    rw[zej hi] at hp
    exact zxv hc hi (by omega) (by omega) hp
  · cases hk
end Clm
namespace Ev
namespace K
set_option maxRecDepth 100000
set_option maxHeartbeats 4000000
end K
end Ev
end Go.Proofs.YtimgnlellflciaaGreat

/- The reference of chapter 09, gone through: HasOf. -/
namespace Go.Proofs.YtimgnlellflciaaGreat
open Go
namespace Clm
theorem ybd {T:List (Int × Int)}(hT:T≠[])(h:∀ p∈T,0≤p.2∧p.2≤5000):0≤(leftR T).lo∧(leftR T).lo≤(leftR T).hi∧(leftR T).hi≤5000:=by
  have hh:=zgt (l:=T.map (·.2)) (fun e=>hT (List.map_eq_nil_iff.1 e))
  have h1:=hh.lo
  have h2:=hh.hi
  rw[List.mem_map] at h1 h2
  obtain ⟨p,hp,e1⟩:=h1
  obtain ⟨p',hp',e2⟩:=h2
  have:=h p hp
  have:=h p' hp'
  have:=hh.le
  unfold leftR
  omega
end Clm
namespace Ev
namespace K
set_option maxRecDepth 100000
set_option maxHeartbeats 4000000
theorem two_at {cs:List AV}{a:Nat}{x y:AV}(h1:cs[a * 2]?=some x)(h2:cs[a * 2+1]?=some y):(cs.drop (a * 2)).take 2=[x,y]:=by
  apply List.ext_getElem?
  intro j
  rw[List.getElem?_take]
  by_cases hj:j<2
  · rw[if_pos hj,List.getElem?_drop]
    obtain rfl|rfl:j=0∨j=1:=by omega
    · rw[Nat.add_zero,h1];rfl
    · rw[h2];rfl
  · rw[if_neg hj,List.getElem?_eq_none (by simp;omega)]
end K
end Ev
end Go.Proofs.YtimgnlellflciaaGreat

/- The reference of chapter 09, gone through: together. -/
namespace Go.Proofs.YtimgnlellflciaaGreat
open Go
namespace Clm
theorem case_left {c:Cl}(hc:Fine c){set:Nat}{q:Int × List (List (Int × Int))}(h:q∈casesR c set){i:Nat}(hi:i<c.piles.length):0≤(leftR (q.2.getD i [])).lo∧(leftR (q.2.getD i [])).lo≤(leftR (q.2.getD i [])).hi∧(leftR (q.2.getD i [])).hi≤5000:=
  ybd ((case_in hc h).2 i hi).1 fun p hp=>by have:=zth hc h hi hp;omega
theorem sumR_in {set:Nat}{L:List (List (Int × Int))}{np:Nat}(h:∀ i,i<np→0≤(leftR (L.getD i [])).lo∧(leftR (L.getD i [])).lo≤(leftR (L.getD i [])).hi∧(leftR (L.getD i [])).hi≤5000):∀ n,n≤np→0≤(sumR set L n).lo∧(sumR set L n).lo≤(sumR set L n).hi∧(sumR set L n).hi≤5000 * n
  |0,_=>by simp[sumR]
  |n+1,hn=>by
    have ih:=sumR_in (set:=set) h n (by omega)
    have:=h n (by omega)
    unfold sumR
    split
    · simp only;omega
    · omega
end Clm
namespace Ev
namespace K
attribute [local simp] ev1 wantG spineK spine float xnew xval xeff zaa zar zbb zau zav addFl cellsOf pickC alive slLen slFt binI maxA maxK minA minK aeqK aeqS AV.cells spA zas fillA setAt bitsI nat_nn zbe AV.plain apart
set_option maxRecDepth 100000
set_option maxHeartbeats 4000000
theorem BuI.app {H:List AB}{lo:Nat}{D:List (Int × List (List (Int × Int)))}{v:AV}{out:List Int}{cur:AV}{G:List AB}(h:BuI H lo D v out cur G)(K:List AB):BuI H lo D v out cur (G++K):=
  ⟨h.c1.app _,h.l0,by have:=h.l1;rw[List.length_append];omega,h.dv.keep (fun q _ h=>h) fun q x _ h=>h.app _,h.li.keep fun q x _ h=>h.app _⟩
def tg2St (H:List AB)(v:AV)(set:Nat)(cur:AV)(a:Nat)(lw hg:Int)(p:Nat)(G:List AB):St:={ tm:=tmA 50 [(11,.int .i64 p),(10,.int .i64 hg),(9,.int .i64 lw),(8,.int .i64 a),(7,cur),(6,.ptr (H.length+1) 0),(3,.ptr H.length 0),(2,.int .i64 set),(1,v)],df:=[],hp:=G,tc:=[] }
def tg0St (H:List AB)(v:AV)(set:Nat)(cur:AV)(a:Nat)(G:List AB):St:={ tm:=tmA 50 [(8,.int .i64 a),(7,cur),(6,.ptr (H.length+1) 0),(3,.ptr H.length 0),(2,.int .i64 set),(1,v)],df:=[],hp:=G,tc:=[] }
theorem tog_in (C:Cfg)(call:CallF)(hS:SetC call)(hL:LefC call)(c:Clm.Cl)(H:List AB)(lo np p a n set:Nat)(hnp:np=c.piles.length)(hp:p<np)(hp4:np≤4)(hset:set≤1000000)(ha:a<n)(_hn:n≤3)(v:AV)(k:Int)(T:List (Int × Int))(q q1 q2 m:Nat)(cs vs:List AV)(cur:AV)(hTl:0≤(Clm.leftR T).lo∧(Clm.leftR T).lo≤(Clm.leftR T).hi∧(Clm.leftR T).hi≤5000)(lw hg:Int)(hlw:0≤lw∧lw≤100000)(hhg:0≤hg∧hg≤100000)(G:List AB)(hlG:H.length≤G.length)(h0:HB G H.length (.cells (clampCs c)))(hW:CsW (fun q=>q<lo) G n np p a v k T q q1 q2 m cs vs):
    Does (ev C call H.length none (atP [1,1,0,1,0,0,1,0,0,1,0,1,0,0] af49.body) (tg2St H v set cur a lw hg p G))
      (fun e st=>e=.normal∧∃ K',{ st with tm:=keepT [1,2,3,6,7,8,9,10,11] st.tm }=tg2St H v set cur a (if Clm.bit set p then lw+(Clm.leftR T).lo else lw) (if Clm.bit set p then hg+(Clm.leftR T).hi else hg) (p+1) (G++K')):=by
  subst hnp
  obtain ⟨rfl,c0,cl,ck,cv,c1,vl,vi,c2,tl,m0,m1,p0,p1,p2⟩:=hW
  have hcall:=hL G k q1 vs _ p q2 m T c1 vl vi c2 tl m0 (by omega)
  have hh:=fun H=>hS H set p hset (by omega)
  generalize Clm.leftR T=s at *
  have hat:=two_at ck cv
  have f0:(p:Int)<c.piles.length:=by omega
  have f1:(a:Int)<n:=by omega
  have f4:a * 2+2≤n * 2:=by omega
  have hw:IntKind.i64.wrap (↑p+1)=↑p+1:=zat (by omega) (by omega)
  have w1:IntKind.i64.wrap (lw+s.lo)=lw+s.lo:=zat (by omega) (by omega)
  have w2:IntKind.i64.wrap (hg+s.hi)=hg+s.hi:=zat (by omega) (by omega)
  have gG:∀ n,¬ (G.length+n<H.length):=fun n=>by omega
  have gG0:¬ (G.length<H.length):=by omega
  obtain ⟨A1,A2,A3⟩:=c0
  obtain ⟨B1,B2,B3⟩:=h0
  clear hS hL c1 c2 tl ck cv vl vi m0 m1 p0 p1 p2 hlw hhg hTl hlG
  generalize Clm.bit set p=b at *
  cases b with
  |true=>
    unfold af49 tg2St
    simp only[atP,clampCs] at *
    (repeat (first|((with_reducible apply zad);(focus ((with_reducible apply zap);(focus rfl);(focus rfl);(focus ((conv=>lhs;simp[*,List.getElem?_append_right,List.set_append_right,List.getElem?_cons_zero,List.getElem?_append_left,List.set_append_left,-getElem?_pos,↓zbl,Nat.testBit_eq_decide_div_mod_eq])<;>exact rfl));(focus rfl);(focus rfl)));simp only[addFl])|(with_reducible apply zad;(focus ((conv=>lhs;simp[*,List.getElem?_append_right,List.set_append_right,List.getElem?_cons_zero,List.getElem?_append_left,List.set_append_left,-getElem?_pos,↓zbl,Nat.testBit_eq_decide_div_mod_eq])<;>exact rfl));simp only[addFl])|((with_reducible first|apply zai|apply zak|apply zah|apply zaf|apply zac|apply zaj|apply zag|apply zam|(apply zae;· simp[*,zaa])|(apply zab;· simp[*,zaa]));try simp only[Then,Ops,OutB,reduceIte])|simp only[Nat.reduceEqDiff,reduceIte,OutB,Then]))
    refine ⟨by first|rfl|trivial,[.cells [.int .i64 s.lo,.int .i64 s.hi]],?_⟩
    (refine st_is ?_ ?_ ?_ ?_;(focus (simp[zan,zaq]));(focus rfl);(focus (first|rfl|(simp;done)|(simp[*];done)|(simp;rfl)|(simp[*];omega)|(simp;omega)));(focus (first|rfl|simp)))
  |false=>
    unfold af49 tg2St
    simp only[atP,clampCs] at *
    (repeat (first|((with_reducible apply zad);(focus ((with_reducible apply zap);(focus rfl);(focus rfl);(focus ((conv=>lhs;simp[*,List.getElem?_append_right,List.set_append_right,List.getElem?_cons_zero,List.getElem?_append_left,List.set_append_left,-getElem?_pos,↓zbl,Nat.testBit_eq_decide_div_mod_eq])<;>exact rfl));(focus rfl);(focus rfl)));simp only[addFl])|(with_reducible apply zad;(focus ((conv=>lhs;simp[*,List.getElem?_append_right,List.set_append_right,List.getElem?_cons_zero,List.getElem?_append_left,List.set_append_left,-getElem?_pos,↓zbl,Nat.testBit_eq_decide_div_mod_eq])<;>exact rfl));simp only[addFl])|((with_reducible first|apply zai|apply zak|apply zah|apply zaf|apply zac|apply zaj|apply zag|apply zam|(apply zae;· simp[*,zaa])|(apply zab;· simp[*,zaa]));try simp only[Then,Ops,OutB])|simp only[Nat.reduceEqDiff,reduceIte,OutB,Then]))
    refine ⟨by first|rfl|trivial,[],?_⟩
    (refine st_is ?_ ?_ ?_ ?_;(focus (simp[zan,zaq]));(focus rfl);(focus (first|rfl|(simp;done)|(simp[*];done)|(simp;rfl)|(simp[*];omega)|(simp;omega)));(focus (first|rfl|simp)))
def TogC (call:CallF)(c:Clm.Cl):Prop:=∀ (H:List AB) (v:AV) (set:Nat),CsV (fun _=>True) H (Clm.casesR c (Clm.every c)) v→Clm.casesR c (Clm.every c)≠[]→set≤1000000 →
  call (.fn (.func 49) [] []) [.agg (clampCs c),v,.int .i64 set] H=some (.ret (.agg [.int .i64 (Clm.hullR (Clm.togL c set)).lo,.int .i64 (Clm.hullR (Clm.togL c set)).hi]),H,[])
theorem zyh (C:Cfg)(hC:C.calm=true)(call:CallF)(c:Clm.Cl)(hc:Clm.Fine c)(hS:SetC call)(hU:HulC call)(hL:LefC call)(H:List AB)(v:AV)(set:Nat)(hV:CsV (fun _=>True) H (Clm.casesR c (Clm.every c)) v)(hne:Clm.casesR c (Clm.every c)≠[])(hset:set≤1000000):
    Does (ev C call H.length none af49.body { tm:=tmA af49.ntmps (zipI 0 [.agg (clampCs c),v,.int .i64 set] []),df:=[],hp:=H,tc:=[] })
      (Ends C H.length af49.res fun v _ tc=>v=.agg [.int .i64 (Clm.hullR (Clm.togL c set)).lo,.int .i64 (Clm.hullR (Clm.togL c set)).hi]∧tc=[]):=by
  have hD3:=Clm.cases_len hc (Clm.every c)
  have hDn:=List.length_pos_iff.2 hne
  have hV0:CsV (fun q=>q<H.length+2) H (Clm.casesR c (Clm.every c)) v:=hV.keep (fun q h _=>by omega) fun q x _ h=>h
  obtain ⟨q,hv⟩:∃ q,v=.sl q 0 (Clm.casesR c (Clm.every c)).length 2:=by
    cases hV with
    |none h=>exact absurd h hne
    |some q cs _ _ _ _=>exact ⟨q,rfl⟩
  subst hv
  have hway:=fun (G:List AB) (i a:Nat) (hi:i<c.piles.length) (h:CsV (fun q=>q<H.length+2) G (Clm.casesR c (Clm.every c)) (.sl q 0 (Clm.casesR c (Clm.every c)).length 2)) (ha:a<(Clm.casesR c (Clm.every c)).length)=>ybi hc h hi ha
  have hlf:=fun (d:Int × List (List (Int × Int))) (hd:d∈Clm.casesR c (Clm.every c)) (i:Nat) (hi:i<c.piles.length)=>Clm.case_left hc hd hi
  have hp4:=hc.piles
  unfold Clm.togL
  generalize Clm.casesR c (Clm.every c)=D at *
  obtain ⟨N,hN⟩:∃ N,D.length=N:=⟨_,rfl⟩
  rw[hN] at hway hV0 hD3 hDn ⊢
  obtain ⟨np,hnp⟩:∃ np,c.piles.length=np:=⟨_,rfl⟩
  rw[hnp] at hway hlf hp4 ⊢
  have HX:=hideP (And.intro hway (And.intro hlf (And.intro hD3 (And.intro hDn (And.intro hN (And.intro hp4 (And.intro hU (And.intro hL (And.intro hS (And.intro hset hnp))))))))))
  have hI0:BuI H (H.length+2) D (.sl q 0 N 2) [] .nils (H++[.cells (clampCs c),.cells [.int .i64 0,.int .i64 0]]):=
    ⟨hb (by rw[List.getElem?_append_right (by omega),Nat.add_sub_cancel_left];rfl),Nat.le_refl _,by simp,hV0.keep (fun q _ h=>h) fun q x _ h=>h.app _,.none rfl rfl⟩
  have h00:HB (H++[.cells (clampCs c),.cells [.int .i64 0,.int .i64 0]]) H.length (.cells (clampCs c)):=hb (by rw[List.getElem?_append_right (by omega),Nat.sub_self];rfl)
  have HI:=hideP (And.intro hI0 h00)
  have g1:¬ (H.length+1<H.length):=by omega
  clear hU hL hS hset hc hV hV0 hway hlf hD3 hDn hN hp4 hne hI0 h00
  unfold af49
  simp only[zipI,clampCs] at *
  (repeat (first|((with_reducible apply zad);(focus ((with_reducible apply zap);(focus rfl);(focus rfl);(focus ((conv=>lhs;simp[*,List.getElem?_append_right,List.set_append_right,List.getElem?_cons_zero,List.getElem?_append_left,List.set_append_left,-getElem?_pos,Nat.testBit_eq_decide_div_mod_eq])<;>exact rfl));(focus rfl);(focus rfl)));simp only[addFl])|(with_reducible apply zad;(focus ((conv=>lhs;simp[*,List.getElem?_append_right,List.set_append_right,List.getElem?_cons_zero,List.getElem?_append_left,List.set_append_left,-getElem?_pos,Nat.testBit_eq_decide_div_mod_eq])<;>exact rfl));simp only[addFl])|((with_reducible first|apply zai|apply zak|apply zah|apply zaf|apply zac|apply zaj|apply zag|apply zam|(apply zae;· simp[*,zaa])|(apply zab;· simp[*,zaa]));try simp only[Then,Ops])|simp only[Nat.reduceEqDiff,reduceIte,OutB,Then]))
  with_reducible refine zaz hC N (by have:=HX.out.2.2.1;unfold fuelL;omega) (fun a st=>∃ G cur,BuI H (H.length+2) D (.sl q 0 N 2) ((D.take a).flatMap fun d=>[(Clm.sumR set d.2 np).lo,(Clm.sumR set d.2 np).hi]) cur G∧HB G H.length (.cells (clampCs c))∧st=tg0St H (.sl q 0 N 2) set cur a G) ?_ ?_ ?_
  · refine ⟨_,.nils,HI.out.1,HI.out.2,?_⟩
    unfold tg0St
    simp only
    (refine st_is ?_ ?_ ?_ ?_;(focus (simp[zan,zaq]));(focus rfl);(focus (first|rfl|(simp;done)|(simp[*];done)|(simp;rfl)|(simp[*];omega)|(simp;omega)));(focus (first|rfl|simp)))
  · rintro a st ha ⟨G,cur,hI,h0,rfl⟩
    obtain ⟨hway,hlf,hD3,hDn,hN,hp4,hU,hL,hS,hset,hnp⟩:=HX.out
    obtain ⟨q',q1,q2,cs,vs,hW⟩:=hway G 0 a (by omega) hI.dv ha
    rw[Clm.flat_take (d:=(0,[])) (by omega)]
    have hol:((D.take a).flatMap fun d=>[(Clm.sumR set d.2 np).lo,(Clm.sumR set d.2 np).hi]).length≤3 * 2:=Nat.le_trans (Clm.flat_len (B:=2) fun d hd=>by simp) (Nat.mul_le_mul_right _ (by rw[List.length_take];omega))
    have hmem:D.getD a (0,[])∈D:=by rw[List.getD_eq_getElem?_getD,List.getElem?_eq_getElem (by omega)];exact List.getElem_mem _
    have hlf':=hlf _ hmem
    have hwa:=fun K i hi=>hway (G++K) i a hi (hI.app K).dv ha
    generalize ((D.take a).flatMap fun d=>[(Clm.sumR set d.2 np).lo,(Clm.sumR set d.2 np).hi])=out at *
    generalize D.getD a (0,[])=d at *
    have HY:=hideP (And.intro hI (And.intro h0 (And.intro hol (And.intro hlf' (And.intro hwa (And.intro ha hD3))))))
    obtain ⟨hv,⟨A1,A2,A3⟩,cl,ck,cv,⟨B1,B2,B3⟩,vl,vi,⟨D1,D2,D3⟩,tl,m0,m1,p0,p1,p2⟩:=hW
    cases hv
    have f1:(a:Int)<N:=by omega
    clear hway hlf hD3 hDn hU hL hS hset hI h0 hol hmem hlf' hwa ck cl cv vl vi tl m0 m1 p0 p1 p2 B1 B2 B3 D1 D2 D3 hp4
    unfold tg0St
    (repeat (first|((with_reducible apply zad);(focus ((with_reducible apply zap);(focus rfl);(focus rfl);(focus ((conv=>lhs;simp[*,List.getElem?_append_right,List.set_append_right,List.getElem?_cons_zero,List.getElem?_append_left,List.set_append_left,-getElem?_pos,Nat.testBit_eq_decide_div_mod_eq])<;>exact rfl));(focus rfl);(focus rfl)));simp only[addFl])|(with_reducible apply zad;(focus ((conv=>lhs;simp[*,List.getElem?_append_right,List.set_append_right,List.getElem?_cons_zero,List.getElem?_append_left,List.set_append_left,-getElem?_pos,Nat.testBit_eq_decide_div_mod_eq])<;>exact rfl));simp only[addFl])|((with_reducible first|apply zai|apply zak|apply zah|apply zaf|apply zac|apply zaj|apply zag|apply zam|(apply zae;· simp[*,zaa])|(apply zab;· simp[*,zaa]));try simp only[Then,Ops,OutB])|simp only[Nat.reduceEqDiff,reduceIte,OutB,Then]))
    clear A1 A2 A3
    with_reducible refine zaz hC np (by have:=HX.out.2.2.2.2.2.1;unfold fuelL;omega) (fun p st=>∃ K,st=tg2St H (.sl q 0 N 2) set cur a (Clm.sumR set d.2 p).lo (Clm.sumR set d.2 p).hi p (G++K)) ?_ ?_ ?_
    · refine ⟨[],?_⟩
      unfold tg2St
      simp only[Clm.sumR]
      (refine st_is ?_ ?_ ?_ ?_;(focus (simp[zan,zaq]));(focus rfl);(focus (first|rfl|(simp;done)|(simp[*];done)|(simp;rfl)|(simp[*];omega)|(simp;omega)));(focus (first|rfl|simp)))
    · rintro p st hp ⟨K,rfl⟩
      obtain ⟨hway,hlf,hD3,hDn,hN,hp4,hU,hL,hS,hset,hnp⟩:=HX.out
      obtain ⟨hI,h0,hol,hlf',hwa,ha,_⟩:=HY.out
      obtain ⟨q',q1,q2,cs,vs,hW⟩:=hwa K p hp
      have hsi:=Clm.sumR_in (set:=set) hlf' p (by omega)
      have hr:=tog_in C call hS hL c H (H.length+2) np p a N set hnp.symm hp hp4.2 hset ha hD3 (.sl q 0 N 2) d.1 (d.2.getD p []) q' q1 q2 _ cs vs cur (hlf' p hp) (Clm.sumR set d.2 p).lo (Clm.sumR set d.2 p).hi (by omega) (by omega) (G++K) (by have:=hI.l1;rw[List.length_append];omega) (h0.app K) hW
      refine Does.mono hr ?_
      rintro e st ⟨rfl,K',h⟩
      refine ⟨K++K',?_⟩
      rw[h,← List.append_assoc]
      have e1:Clm.sumR set d.2 (p+1)=if Clm.bit set p then ⟨(Clm.sumR set d.2 p).lo+(Clm.leftR (d.2.getD p [])).lo,(Clm.sumR set d.2 p).hi+(Clm.leftR (d.2.getD p [])).hi⟩ else Clm.sumR set d.2 p:=rfl
      rw[e1]
      cases Clm.bit set p<;>rfl
    · rintro st ⟨K,rfl⟩
      obtain ⟨hI,h0,hol,hlf',hwa,ha,hD3⟩:=HY.out
      have hnp:=HX.out.2.2.2.2.2.2.2.2.2.2
      replace hI:=hI.app K
      replace h0:=h0.app K
      clear hlf' hwa HY
      generalize G++K=G1 at *
      have hl0:=hI.l0
      have hl1:=hI.l1
      have h0':=h0
      obtain ⟨A1,A2,A3⟩:=h0
      have hw:IntKind.i64.wrap (↑a+1)=↑a+1:=zat (by omega) (by omega)
      have gG:∀ n,¬ (G1.length+n<H.length):=fun n=>by omega
      have gG0:¬ (G1.length<H.length):=by omega
      have hb1:2≤bound:=by decide
      have hb2:out.length+2≤bound:=by unfold bound;omega
      have hpl:=zgs out
      have hil:=zhv out
      have hcur:=hI.li
      have HG:=hideP hI
      have H0:=hideP h0'
      generalize Clm.sumR set d.2 np=s at *
      clear hI hol h0'
      cases hcur with
      |none h1 h2=>
        have ho:out=[]:=List.eq_nil_of_length_eq_zero h2
        subst ho
        have HF:BuI H (H.length+2) D (.sl q 0 N 2) ([]++[s.lo,s.hi]) (.sl (G1.length+1) 0 2 1) (G1++[.cells [.int .i64 s.lo,.int .i64 s.hi],.cells [.int .i64 s.lo,.int .i64 s.hi]]):=
          HG.out.nils [s.lo,s.hi] (by simp) _ (G1.length+1) (hb (by rw[List.getElem?_append_right (by omega),Nat.add_sub_cancel_left];rfl)) (by omega) 2 rfl
        have HF':=hideP (And.intro HF (H0.out.app [.cells [.int .i64 s.lo,.int .i64 s.hi],.cells [.int .i64 s.lo,.int .i64 s.hi]]))
        clear h1 h2 HF
        unfold tg2St
        simp only[clampCs] at *
        (repeat (first|((with_reducible apply zad);(focus ((with_reducible apply zap);(focus rfl);(focus rfl);(focus ((conv=>lhs;simp[*,List.getElem?_append_right,List.set_append_right,List.getElem?_cons_zero,List.getElem?_append_left,List.set_append_left,-getElem?_pos,Nat.testBit_eq_decide_div_mod_eq])<;>exact rfl));(focus rfl);(focus rfl)));simp only[addFl])|(with_reducible apply zad;(focus ((conv=>lhs;simp[*,List.getElem?_append_right,List.set_append_right,List.getElem?_cons_zero,List.getElem?_append_left,List.set_append_left,-getElem?_pos,Nat.testBit_eq_decide_div_mod_eq])<;>exact rfl));simp only[addFl])|((with_reducible first|apply zai|apply zak|apply zah|apply zaf|apply zac|apply zaj|apply zag|apply zam|(apply zae;· simp[*,zaa])|(apply zab;· simp[*,zaa]));try simp only[Then,Ops,OutB,reduceIte])|simp only[Nat.reduceEqDiff,reduceIte,OutB,Then]))
        refine ⟨_,_,HF'.out.1,HF'.out.2,?_⟩
        (refine st_is ?_ ?_ ?_ ?_;(focus (simp[zan,zaq]));(focus rfl);(focus (first|rfl|(simp;done)|(simp[*];done)|(simp;rfl)|(simp[*];omega)|(simp;omega)));(focus (first|rfl|simp)))
      |some r h1 h2 h3=>
        have n1:¬ (r<H.length):=by omega
        have HF:BuI H (H.length+2) D (.sl q 0 N 2) (out++[s.lo,s.hi]) (.sl (G1.length+1) 0 (out.length+2) 1) (G1.set r .dead++[.cells [.int .i64 s.lo,.int .i64 s.hi],.cells (ints out++[.int .i64 s.lo,.int .i64 s.hi])]):=
          HG.out.more h1 [s.lo,s.hi] _ (G1.length+1) (out.length+2) (hb (by rw[List.getElem?_append_right (by simp)];simp[ints])) (by omega) (by simp)
        have HF':=hideP (And.intro HF ((H0.out.set (r:=r) .dead (by omega)).app [.cells [.int .i64 s.lo,.int .i64 s.hi],.cells (ints out++[.int .i64 s.lo,.int .i64 s.hi])]))
        obtain ⟨R1,R2,R3⟩:=h2
        have m3:r≠H.length:=by omega
        clear h1 h3 HF
        unfold tg2St
        simp only[clampCs] at *
        (repeat (first|((with_reducible apply zad);(focus ((with_reducible apply zap);(focus rfl);(focus rfl);(focus ((conv=>lhs;simp[*,List.getElem?_append_right,List.set_append_right,List.getElem?_cons_zero,List.getElem?_append_left,List.set_append_left,-getElem?_pos,Nat.testBit_eq_decide_div_mod_eq])<;>exact rfl));(focus rfl);(focus rfl)));simp only[addFl])|(with_reducible apply zad;(focus ((conv=>lhs;simp[*,List.getElem?_append_right,List.set_append_right,List.getElem?_cons_zero,List.getElem?_append_left,List.set_append_left,-getElem?_pos,Nat.testBit_eq_decide_div_mod_eq])<;>exact rfl));simp only[addFl])|((with_reducible first|apply zai|apply zak|apply zah|apply zaf|apply zac|apply zaj|apply zag|apply zam|(apply zae;· simp[*,zaa])|(apply zab;· simp[*,zaa]));try simp only[Then,Ops,OutB,reduceIte])|simp only[Nat.reduceEqDiff,reduceIte,OutB,Then]))
        refine ⟨_,_,HF'.out.1,HF'.out.2,?_⟩
        (refine st_is ?_ ?_ ?_ ?_;(focus (simp[zan,zaq]));(focus rfl);(focus (first|rfl|(simp;done)|(simp[*];done)|(simp;rfl)|(simp[*];omega)|(simp;omega)));(focus (first|rfl|simp)))
  · rintro st ⟨G,cur,hI,h0,rfl⟩
    obtain ⟨hway,hlf,hD3,hDn,hN,hp4,hU,hL,hS,hset,hnp⟩:=HX.out
    obtain ⟨q',q1,q2,cs,vs,hW⟩:=hway G 0 0 (by omega) hI.dv hDn
    rw[List.take_of_length_le (by omega)] at hI
    have hol:(D.flatMap fun d=>[(Clm.sumR set d.2 np).lo,(Clm.sumR set d.2 np).hi]).length≤3 * 2:=Nat.le_trans (Clm.flat_len (B:=2) fun d hd=>by simp) (Nat.mul_le_mul_right _ (by omega))
    have hne:(D.flatMap fun d=>[(Clm.sumR set d.2 np).lo,(Clm.sumR set d.2 np).hi])≠[]:=by
      cases D with
      |nil=>simp at hN;omega
      |cons d l=>simp
    generalize (D.flatMap fun d=>[(Clm.sumR set d.2 np).lo,(Clm.sumR set d.2 np).hi])=out at *
    obtain ⟨hv,⟨A1,A2,A3⟩,cl,ck,cv,⟨B1,B2,B3⟩,vl,vi,⟨D1,D2,D3⟩,tl,m0,m1,p0,p1,p2⟩:=hW
    cases hv
    obtain ⟨⟨E1,E2,E3⟩,e4,e5,e6,hli⟩:=hI
    have hgH:H.length≤G.length:=by omega
    cases hli with
    |none h1 h2=>exact absurd (List.eq_nil_of_length_eq_zero h2) hne
    |some r h1 h2 h3=>
      have hu:=hU G r out.length out rfl (List.length_pos_iff.2 hne) (by omega) h2
      generalize Clm.hullR out=s at *
      generalize out.length=n9 at *
      obtain ⟨R1,R2,R3⟩:=h2
      clear hway hlf hD3 hDn hU hL hS hset hN hp4 ck cl cv vl vi tl m0 m1 p0 p1 p2 B1 B2 B3 D1 D2 D3 e4 e5 e6 h1 h3 hol hne HX h0
      unfold tg0St
      (repeat (first|((with_reducible apply zad);(focus ((with_reducible apply zap);(focus rfl);(focus rfl);(focus ((conv=>lhs;simp[*,List.getElem?_append_right,List.set_append_right,List.getElem?_cons_zero,List.getElem?_append_left,List.set_append_left,-getElem?_pos,Nat.testBit_eq_decide_div_mod_eq])<;>exact rfl));(focus rfl);(focus rfl)));simp only[addFl])|(with_reducible apply zad;(focus ((conv=>lhs;simp[*,List.getElem?_append_right,List.set_append_right,List.getElem?_cons_zero,List.getElem?_append_left,List.set_append_left,-getElem?_pos,Nat.testBit_eq_decide_div_mod_eq])<;>exact rfl));simp only[addFl])|((with_reducible first|apply zai|apply zak|apply zah|apply zaf|apply zac|apply zaj|apply zag|apply zam|(apply zae;· simp[*,zaa])|(apply zab;· simp[*,zaa]));try simp only[Then,Ops,OutB,reduceIte])|simp only[Nat.reduceEqDiff,reduceIte,OutB,Then]))
      exact zao (v:=.agg [.int .i64 s.lo,.int .i64 s.hi]) (.inl rfl) rfl (by simp only[List.length_set];exact hgH) (by simp only[resL,resOf,zal];simp[*,pickC,resV]) ⟨rfl,rfl⟩
end K
end Ev
end Go.Proofs.YtimgnlellflciaaGreat

/- The reference of chapter 09, gone through: All, Enough; the law ClampTells. -/
namespace Go.Proofs.YtimgnlellflciaaGreat
open Go
namespace Ev
namespace K
attribute [local simp] ev1 wantG spineK spine float xnew xval xeff zaa zar zbb zau zav addFl cellsOf pickC alive slLen slFt binI maxA maxK minA minK aeqK aeqS AV.cells spA zas fillA setAt bitsI nat_nn zbe AV.plain apart
set_option maxRecDepth 100000
set_option maxHeartbeats 4000000
def SodC (call:CallF):Prop:=∀ (H:List AB) (n:Int),call (.fn (.func 55) [] []) [.int .i64 n] H=some (.ret (.bool (isS n)),H,[])
theorem zuq (C:Cfg)(call:CallF)(hI:RinC call)(H:List AB)(n:Int):
    Does (ev C call H.length none af55.body { tm:=tmA af55.ntmps (zipI 0 [.int .i64 n] []),df:=[],hp:=H,tc:=[] })
      (Ends C H.length af55.res fun v _ tc=>v=.bool (isS n)∧tc=[]):=by
  have hi:=fun H=>hI H n 0 20000
  unfold isS
  generalize decide (0≤n∧n≤20000)=b at *
  clear hI
  unfold af55
  simp only[zipI] at *
  (repeat (first|((with_reducible apply zad);(focus ((with_reducible apply zap);(focus rfl);(focus rfl);(focus ((conv=>lhs;simp[*,List.getElem?_append_right,List.set_append_right,List.getElem?_cons_zero,List.getElem?_append_left,List.set_append_left,-getElem?_pos,Nat.testBit_eq_decide_div_mod_eq])<;>exact rfl));(focus rfl);(focus rfl)));simp only[addFl])|(with_reducible apply zad;(focus ((conv=>lhs;simp[*,List.getElem?_append_right,List.set_append_right,List.getElem?_cons_zero,List.getElem?_append_left,List.set_append_left,-getElem?_pos,Nat.testBit_eq_decide_div_mod_eq])<;>exact rfl));simp only[addFl])|((with_reducible first|apply zai|apply zak|apply zah|apply zaf|apply zac|apply zaj|apply zag|apply zam|(apply zae;· simp[*,zaa])|(apply zab;· simp[*,zaa]));try simp only[Then,Ops])|simp only[Nat.reduceEqDiff,reduceIte,OutB,Then]))
  exact zao (v:=.bool b) (.inl rfl) rfl (by simp) (by simp only[resL,resOf,zal];simp[*,resV]) ⟨rfl,rfl⟩
def HvyC (call:CallF)(c:Clm.Cl)(k:Int):Prop:=∃ b:Bool,(b=false→max c.piles.length c.events.length≤40)∧∀ H,call (.fn (.func 5) [] []) [.agg (clampCs c),.int .i64 k] H=some (.ret (.bool b),H,[])
def cntS (l:List Clm.Evt)(j:Nat):Nat:=((l.take j).filter fun v=>v.kind==0).length
theorem zxg {l:List Clm.Evt}{j:Nat}{v:Clm.Evt}(h:l[j]?=some v):cntS l (j+1)=if v.kind=0 then cntS l j+1 else cntS l j:=by
  unfold cntS
  rw[List.take_add_one,h,List.filter_append,List.length_append]
  by_cases hv:v.kind=0
  · simp[hv]
  · simp[hv]
def hvSt (H:List AB)(c:Clm.Cl)(k:Int)(n j:Nat)(K:List AB):St:={ tm:=tmA 33 [(20,.int .i64 j),(19,.int .i64 c.events.length),(18,.vs 4 (c.events.map evtE)),(5,.int .i64 n),(1,.int .i64 k)],df:=[],hp:=H++.cells (clampCs c)::K,tc:=[] }
theorem zwm (C:Cfg)(hC:C.calm=true)(call:CallF)(c:Clm.Cl)(k:Int)(hl:∀ H,call (.fn (.func 23) [] []) [.agg (clampCs c)] H=some (.ret (.bool (decide (max c.piles.length c.events.length > 40))),H,[]))(hv:max c.piles.length c.events.length≤40→∀ H,call (.fn (.func 24) [] []) [.agg (clampCs c)] H=some (.ret (.bool (Clm.valid c)),H,[]))(H:List AB):
    Does (ev C call H.length none af5.body { tm:=tmA af5.ntmps (zipI 0 [.agg (clampCs c),.int .i64 k] []),df:=[],hp:=H,tc:=[] })
      (Ends C H.length af5.res fun v _ tc=>v=.bool (if max c.piles.length c.events.length > 40 then true else if Clm.valid c then decide (k<(cntS c.events c.events.length:Nat)) else false)∧tc=[]):=by
  by_cases hlen:max c.piles.length c.events.length > 40
  · rw[decide_eq_true hlen] at hl
    rw[if_pos hlen]
    clear hv hlen
    unfold af5
    simp only[zipI,clampCs] at *
    (repeat (first|((with_reducible apply zad);(focus ((with_reducible apply zap);(focus rfl);(focus rfl);(focus ((conv=>lhs;simp[*,List.getElem?_append_right,List.set_append_right,List.getElem?_cons_zero,List.getElem?_append_left,List.set_append_left,-getElem?_pos,Nat.testBit_eq_decide_div_mod_eq])<;>exact rfl));(focus rfl);(focus rfl)));simp only[addFl])|(with_reducible apply zad;(focus ((conv=>lhs;simp[*,List.getElem?_append_right,List.set_append_right,List.getElem?_cons_zero,List.getElem?_append_left,List.set_append_left,-getElem?_pos,Nat.testBit_eq_decide_div_mod_eq])<;>exact rfl));simp only[addFl])|((with_reducible first|apply zai|apply zak|apply zah|apply zaf|apply zac|apply zaj|apply zag|apply zam|(apply zae;· simp[*,zaa])|(apply zab;· simp[*,zaa]));try simp only[Then,Ops])|simp only[Nat.reduceEqDiff,reduceIte,OutB,Then]))
    exact zao (v:=.bool true) (.inl rfl) rfl (by simp) (by simp only[resL,resOf,zal];simp[*,resV]) ⟨rfl,rfl⟩
  rw[decide_eq_false hlen] at hl
  rw[if_neg hlen]
  replace hv:=hv (by omega)
  cases hval:Clm.valid c with
  |false=>
    rw[hval] at hv
    clear hlen hval
    unfold af5
    simp only[zipI,clampCs] at *
    (repeat (first|((with_reducible apply zad);(focus ((with_reducible apply zap);(focus rfl);(focus rfl);(focus ((conv=>lhs;simp[*,List.getElem?_append_right,List.set_append_right,List.getElem?_cons_zero,List.getElem?_append_left,List.set_append_left,-getElem?_pos,Nat.testBit_eq_decide_div_mod_eq])<;>exact rfl));(focus rfl);(focus rfl)));simp only[addFl])|(with_reducible apply zad;(focus ((conv=>lhs;simp[*,List.getElem?_append_right,List.set_append_right,List.getElem?_cons_zero,List.getElem?_append_left,List.set_append_left,-getElem?_pos,Nat.testBit_eq_decide_div_mod_eq])<;>exact rfl));simp only[addFl])|((with_reducible first|apply zai|apply zak|apply zah|apply zaf|apply zac|apply zaj|apply zag|apply zam|(apply zae;· simp[*,zaa])|(apply zab;· simp[*,zaa]));try simp only[Then,Ops])|simp only[Nat.reduceEqDiff,reduceIte,OutB,Then]))
    exact zao (v:=.bool false) (.inl rfl) rfl (by simp) (by simp only[resL,resOf,zal];simp[*,resV]) ⟨rfl,rfl⟩
  |true=>
  rw[hval] at hv
  rw[if_pos rfl]
  have he6:=((Clm.valid_iff c).1 hval).events
  clear hlen hval
  unfold af5
  simp only[zipI,clampCs] at *
  (repeat (first|((with_reducible apply zad);(focus ((with_reducible apply zap);(focus rfl);(focus rfl);(focus ((conv=>lhs;simp[*,List.getElem?_append_right,List.set_append_right,List.getElem?_cons_zero,List.getElem?_append_left,List.set_append_left,-getElem?_pos,Nat.testBit_eq_decide_div_mod_eq])<;>exact rfl));(focus rfl);(focus rfl)));simp only[addFl])|(with_reducible apply zad;(focus ((conv=>lhs;simp[*,List.getElem?_append_right,List.set_append_right,List.getElem?_cons_zero,List.getElem?_append_left,List.set_append_left,-getElem?_pos,Nat.testBit_eq_decide_div_mod_eq])<;>exact rfl));simp only[addFl])|((with_reducible first|apply zai|apply zak|apply zah|apply zaf|apply zac|apply zaj|apply zag|apply zam|(apply zae;· simp[*,zaa])|(apply zab;· simp[*,zaa]));try simp only[Then,Ops])|simp only[Nat.reduceEqDiff,reduceIte,OutB,Then]))
  clear hl hv
  with_reducible refine zaz hC c.events.length (by unfold fuelL;omega) (fun j st=>∃ K,st=hvSt H c k (cntS c.events j) j K) ?_ ?_ ?_
  · refine ⟨[],?_⟩
    unfold hvSt
    rw[show cntS c.events 0=0 from rfl]
    simp only[clampCs]
    (refine st_is ?_ ?_ ?_ ?_;(focus (simp[zan,zaq]));(focus rfl);(focus (first|rfl|(simp;done)|(simp[*];done)|(simp;rfl)|(simp[*];omega)|(simp;omega)));(focus (first|rfl|simp)))
  · rintro j st hj ⟨K,rfl⟩
    have hgv:c.events[j]?=some c.events[j]:=List.getElem?_eq_getElem hj
    rw[zxg hgv]
    have hcn:cntS c.events j≤j:=by unfold cntS;exact Nat.le_trans (List.length_filter_le _ _) (by rw[List.length_take];omega)
    generalize c.events[j]=v at *
    generalize cntS c.events j=n at *
    have hgv':=ge_of hgv
    have e5:(j:Int)<c.events.length:=by omega
    have hw:IntKind.i64.wrap (↑j+1)=↑j+1:=zat (by omega) (by omega)
    have hw2:IntKind.i64.wrap (↑n+1)=↑n+1:=zat (by omega) (by omega)
    clear he6 hcn
    by_cases hk:v.kind=0
    · rw[if_pos hk]
      unfold hvSt
      simp only[clampCs] at *
      (repeat (first|((with_reducible apply zad);(focus ((with_reducible apply zap);(focus rfl);(focus rfl);(focus ((conv=>lhs;simp[*,List.getElem?_append_right,List.set_append_right,List.getElem?_cons_zero,List.getElem?_append_left,List.set_append_left,-getElem?_pos,evtE,Nat.testBit_eq_decide_div_mod_eq])<;>exact rfl));(focus rfl);(focus rfl)));simp only[addFl])|(with_reducible apply zad;(focus ((conv=>lhs;simp[*,List.getElem?_append_right,List.set_append_right,List.getElem?_cons_zero,List.getElem?_append_left,List.set_append_left,-getElem?_pos,evtE,Nat.testBit_eq_decide_div_mod_eq])<;>exact rfl));simp only[addFl])|((with_reducible first|apply zai|apply zak|apply zah|apply zaf|apply zac|apply zaj|apply zag|apply zam|(apply zae;· simp[*,zaa])|(apply zab;· simp[*,zaa]));try simp only[Then,Ops,OutB])|simp only[Nat.reduceEqDiff,reduceIte,OutB,Then]))
      refine ⟨K++[.cells [.int .i64 0,.int .i64 v.clamp,.int .i64 v.sods.lo,.int .i64 v.sods.hi]],?_⟩
      (refine st_is ?_ ?_ ?_ ?_;(focus (simp[zan,zaq]));(focus rfl);(focus (first|rfl|(simp;done)|(simp[*];done)|(simp;rfl)|(simp[*];omega)|(simp;omega)));(focus (first|rfl|simp)))
    · rw[if_neg hk]
      have hk':(v.kind==0)=false:=beq_false_of_ne hk
      unfold hvSt
      simp only[clampCs] at *
      (repeat (first|((with_reducible apply zad);(focus ((with_reducible apply zap);(focus rfl);(focus rfl);(focus ((conv=>lhs;simp[*,List.getElem?_append_right,List.set_append_right,List.getElem?_cons_zero,List.getElem?_append_left,List.set_append_left,-getElem?_pos,evtE,Nat.testBit_eq_decide_div_mod_eq])<;>exact rfl));(focus rfl);(focus rfl)));simp only[addFl])|(with_reducible apply zad;(focus ((conv=>lhs;simp[*,List.getElem?_append_right,List.set_append_right,List.getElem?_cons_zero,List.getElem?_append_left,List.set_append_left,-getElem?_pos,evtE,Nat.testBit_eq_decide_div_mod_eq])<;>exact rfl));simp only[addFl])|((with_reducible first|apply zai|apply zak|apply zah|apply zaf|apply zac|apply zaj|apply zag|apply zam|(apply zae;· simp[*,zaa])|(apply zab;· simp[*,zaa]));try simp only[Then,Ops,OutB])|simp only[Nat.reduceEqDiff,reduceIte,OutB,Then]))
      refine ⟨K++[.cells [.int .i64 v.kind,.int .i64 v.clamp,.int .i64 v.sods.lo,.int .i64 v.sods.hi]],?_⟩
      (refine st_is ?_ ?_ ?_ ?_;(focus (simp[zan,zaq]));(focus rfl);(focus (first|rfl|(simp;done)|(simp[*];done)|(simp;rfl)|(simp[*];omega)|(simp;omega)));(focus (first|rfl|simp)))
  · rintro st ⟨K,rfl⟩
    clear he6
    generalize cntS c.events c.events.length=n at *
    unfold hvSt
    (repeat (first|((with_reducible apply zad);(focus ((with_reducible apply zap);(focus rfl);(focus rfl);(focus ((conv=>lhs;simp[*,List.getElem?_append_right,List.set_append_right,List.getElem?_cons_zero,List.getElem?_append_left,List.set_append_left,-getElem?_pos,Nat.testBit_eq_decide_div_mod_eq])<;>exact rfl));(focus rfl);(focus rfl)));simp only[addFl])|(with_reducible apply zad;(focus ((conv=>lhs;simp[*,List.getElem?_append_right,List.set_append_right,List.getElem?_cons_zero,List.getElem?_append_left,List.set_append_left,-getElem?_pos,Nat.testBit_eq_decide_div_mod_eq])<;>exact rfl));simp only[addFl])|((with_reducible first|apply zai|apply zak|apply zah|apply zaf|apply zac|apply zaj|apply zag|apply zam|(apply zae;· simp[*,zaa])|(apply zab;· simp[*,zaa]));try simp only[Then,Ops,OutB,reduceIte])|simp only[Nat.reduceEqDiff,reduceIte,OutB,Then]))
    exact zao (v:=.bool (decide (k<(n:Int)))) (.inl rfl) rfl (by simp) (by simp only[resL,resOf,zal];simp[*,resV]) ⟨rfl,rfl⟩
end K
end Ev
end Go.Proofs.YtimgnlellflciaaGreat

/- The reference of chapter 09, gone through: its levels. -/
namespace Go.Proofs.YtimgnlellflciaaGreat
open Go
namespace Ev
namespace K
set_option maxRecDepth 100000
set_option maxHeartbeats 4000000
structure KnowsZ (C:Cfg):Prop where
  calm:C.calm=true
  power:Has C 56 af56
  has:Has C 72 af72
  after:Has C 100 af100
  tracks:Has C 93 af93
  cases:Has C 73 af73
  hull:Has C 38 af38
  left:Has C 41 af41
  every:Has C 71 af71
  piles:Has C 50 af50
  Cases:Has C 70 af70
  check:Has C 69 af69
  known:Has C 36 af36
  tog:Has C 49 af49
  rin:Has C 74 af74
  pile:Has C 37 af37
  sods:Has C 55 af55
structure LvZ (C:Cfg) (c:Clm.Cl):Prop where
  pow:∀ m,1≤m→PowC (Ev.call C m)
  set:∀ m,2≤m→SetC (Ev.call C m)
  rin:∀ m,1≤m→RinC (Ev.call C m)
  pile:∀ m,2≤m→RpileC (Ev.call C m) c
  sods:∀ m,2≤m→SodC (Ev.call C m)
  hull:∀ m,1≤m→HulC (Ev.call C m)
  left:∀ m,2≤m→LefC (Ev.call C m)
  cas:Clm.Fine c→∀ m,11≤m→∀ set,set≤1000000→CasC (Ev.call C m) c set
  cases:Clm.Fine c→∀ m,12≤m→CasesC (Ev.call C m) c
  every:Clm.Fine c→∀ m,2≤m→EveC (Ev.call C m) c
  piles:Clm.Fine c→∀ m,2≤m→PilC (Ev.call C m) c
  check:∀ m,2≤m→ChkC (Ev.call C m) c
  known:∀ m,13≤m→KnoC (Ev.call C m) c
  tog:Clm.Fine c→∀ m,3≤m→TogC (Ev.call C m) c
theorem aft_lv {C:Cfg}(k:KnowsZ C){c:Clm.Cl}(hc:Clm.Fine c)(i set:Nat)(hset:set≤1000000)(hS:∀ m,2≤m→SetC (Ev.call C m))(hI:∀ m,1≤m→RinC (Ev.call C m)):∀ d n idx,idx≤c.events.length→c.events.length - idx≤d→AftC (Ev.call C (n+3+d)) c i set idx
  |0,n,idx,h1,h2=>zkj (n0:=n+2) k.calm k.after fun H P b y T ov hP y0 yb b5 hov hbd=>znk C k.calm _ c hc i set idx hset h1 (fun h=>by omega) (hS _ (by omega)) (hI _ (by omega)) H P b y T ov hP y0 yb b5 hov hbd
  |d+1,n,idx,h1,h2=>zkj (n0:=n+3+d) k.calm k.after fun H P b y T ov hP y0 yb b5 hov hbd=>znk C k.calm _ c hc i set idx hset h1 (fun h=>aft_lv k hc i set hset hS hI d n (idx+1) (by omega) (by omega)) (hS _ (by omega)) (hI _ (by omega)) H P b y T ov hP y0 yb b5 hov hbd
theorem lvz {C:Cfg}(k:KnowsZ C)(hL:∀ m,1≤m→LApi (Ev.call C m))(c:Clm.Cl)(hlen:max c.piles.length c.events.length≤40):LvZ C c:=by
  have pow:∀ m,1≤m→PowC (Ev.call C m):=fun m hm=>by
    obtain ⟨m,rfl⟩:=Nat.exists_eq_add_of_le' hm
    exact fun H n hn=>zax k.calm k.power (le' rfl) rfl (zuw C k.calm _ H n hn)
  have set:∀ m,2≤m→SetC (Ev.call C m):=fun m hm=>by
    obtain ⟨m,rfl⟩:=Nat.exists_eq_add_of_le' hm
    exact fun H s n hs hn=>zax k.calm k.has (le' rfl) rfl (zyk C _ (pow _ (by omega)) H s n hs hn)
  have rin:∀ m,1≤m→RinC (Ev.call C m):=fun m hm=>by
    obtain ⟨m,rfl⟩:=Nat.exists_eq_add_of_le' hm
    exact fun H n a b=>zax k.calm k.rin (le' rfl) rfl (zuu C _ H n a b)
  have pile:∀ m,2≤m→RpileC (Ev.call C m) c:=fun m hm=>by
    obtain ⟨m,rfl⟩:=Nat.exists_eq_add_of_le' hm
    exact fun H n=>zax k.calm k.pile (le' rfl) rfl (zlx C _ (rin _ (by omega)) c (by omega) H n)
  have sods:∀ m,2≤m→SodC (Ev.call C m):=fun m hm=>by
    obtain ⟨m,rfl⟩:=Nat.exists_eq_add_of_le' hm
    exact fun H n=>zax k.calm k.sods (le' rfl) rfl (zuq C _ (rin _ (by omega)) H n)
  have hull:∀ m,1≤m→HulC (Ev.call C m):=fun m hm=>by
    obtain ⟨m,rfl⟩:=Nat.exists_eq_add_of_le' hm
    exact fun H q n l h1 h2 h3 h4=>zax k.calm k.hull (le' rfl) rfl (zzl C k.calm _ H q n l h1 h2 h3 h4)
  have left:∀ m,2≤m→LefC (Ev.call C m):=fun m hm=>by
    obtain ⟨m,rfl⟩:=Nat.exists_eq_add_of_le' hm
    exact fun H kk q vs n i q2 m T a1 a2 a3 a4 a5 a6 a7=>zax k.calm k.left (le' rfl) rfl (zut C k.calm _ (hull _ (by omega)) H kk q vs n i q2 m T a1 a2 a3 a4 a5 a6 a7)
  have trk:Clm.Fine c→∀ m,10≤m→∀ s,s≤1000000→TrkC (Ev.call C m) c s:=fun hc m hm s hs=>by
    obtain ⟨m,rfl⟩:=Nat.exists_eq_add_of_le' hm
    exact zno (n0:=m+9) k.calm k.tracks hc fun i=>aft_lv k hc i s hs set rin 6 m 0 (by omega) (by have:=hc.events;omega)
  have cas:Clm.Fine c→∀ m,11≤m→∀ s,s≤1000000→CasC (Ev.call C m) c s:=fun hc m hm s hs=>by
    obtain ⟨m,rfl⟩:=Nat.exists_eq_add_of_le' hm
    exact ztg (n0:=m+10) k.calm k.cases hc (trk hc _ (by omega) s hs)
  have every:Clm.Fine c→∀ m,2≤m→EveC (Ev.call C m) c:=fun hc m hm=>by
    obtain ⟨m,rfl⟩:=Nat.exists_eq_add_of_le' hm
    exact fun H=>zax k.calm k.every (le' rfl) rfl (zrr C _ c hc (pow _ (by omega)) H)
  have piles:Clm.Fine c→∀ m,2≤m→PilC (Ev.call C m) c:=fun hc m hm=>by
    obtain ⟨m,rfl⟩:=Nat.exists_eq_add_of_le' hm
    exact fun H=>zax k.calm k.piles (le' rfl) rfl (zrp C _ c hc (pow _ (by omega)) H)
  have hev:Clm.Fine c→Clm.every c≤1000000:=fun hc=>by
    have:2 ^ c.events.length≤2 ^ 6:=Nat.pow_le_pow_right (by decide) hc.events
    unfold Clm.every;omega
  have cases:Clm.Fine c→∀ m,12≤m→CasesC (Ev.call C m) c:=fun hc m hm=>by
    obtain ⟨m,rfl⟩:=Nat.exists_eq_add_of_le' hm
    exact znv (n0:=m+11) k.calm k.Cases (every hc _ (by omega)) (cas hc _ (by omega) _ (hev hc))
  have check:∀ m,2≤m→ChkC (Ev.call C m) c:=fun m hm=>by
    obtain ⟨m,rfl⟩:=Nat.exists_eq_add_of_le' hm
    exact fun H b=>zax k.calm k.check (le' rfl) rfl (zrx C _ c (fun H=>(hL (m+1) (by omega)).valid (zot H c (by omega) (by omega))) H b)
  have known:∀ m,13≤m→KnoC (Ev.call C m) c:=fun m hm=>by
    obtain ⟨m,rfl⟩:=Nat.exists_eq_add_of_le' hm
    exact znu (n0:=m+12) k.calm k.known (check _ (by omega)) fun hc=>cases hc _ (by omega)
  have tog:Clm.Fine c→∀ m,3≤m→TogC (Ev.call C m) c:=fun hc m hm=>by
    obtain ⟨m,rfl⟩:=Nat.exists_eq_add_of_le' hm
    exact fun H v s h1 h2 h3=>zax k.calm k.tog (le' rfl) rfl (zyh C k.calm _ c hc (set _ (by omega)) (hull _ (by omega)) (left _ (by omega)) H v s h1 h2 h3)
  exact ⟨pow,set,rin,pile,sods,hull,left,cas,cases,every,piles,check,known,tog⟩
theorem zsq {C:Cfg}(hC:C.calm=true)(kh:Has C 5 af5){n:Nat}(hA:LApi (Ev.call C n))(c:Clm.Cl)(k:Int):HvyC (Ev.call C (n+1)) c k:=by
  refine ⟨_,?_,fun H=>zax hC kh (le' rfl) rfl (zwm C hC _ c k (fun H=>hA.long c) (fun hl H=>hA.valid (zot H c (by omega) (by omega))) H)⟩
  intro h
  by_cases hlen:max c.piles.length c.events.length > 40
  · rw[if_pos hlen] at h;cases h
  · omega
end K
end Ev
end Go.Proofs.YtimgnlellflciaaGreat

/- Sizes of sets, one bit at a time. -/
namespace Go.Proofs.YtimgnlellflciaaGreat
namespace Clm
theorem sizeN_zero:sizeN 0=0:=by decide
theorem znd:∀ f n,n<2 ^ f→∀ g,f≤g→cntF g n=cntF f n
  |0,n,h,g,_=>by
    have:n=0:=by simpa using h
    subst this
    have z:∀ f,cntF f 0=0:=by
      intro f
      induction f with
      |zero=>rfl
      |succ f ih=>unfold cntF;simp[ih]
    rw[z];rfl
  |f+1,n,h,0,hg=>by omega
  |f+1,n,h,g+1,hg=>by
    unfold cntF
    rw[znd f (n / 2) (by rw[Nat.pow_succ] at h;omega) g (by omega)]
theorem sizeN_step (n:Nat)(h:n<65536):sizeN n=n % 2+sizeN (n / 2):=by
  have h1:=znd 15 (n / 2) (by omega) 16 (by omega)
  unfold sizeN
  rw[h1];rfl
theorem zxh:∀ f n,cntF f n≤f
  |0,_=>Nat.le_refl _
  |f+1,n=>by
    have:=zxh f (n / 2)
    unfold cntF;omega
theorem sizeN_le (n:Nat):sizeN n≤16:=zxh 16 n
end Clm
end Go.Proofs.YtimgnlellflciaaGreat

/- The best set, as the reference finds it. -/
namespace Go.Proofs.YtimgnlellflciaaGreat
open Go
namespace Clm
def betterB (b:Option Nat)(n:Nat):Bool:=match b with|none=>true|some b=>decide (sizeN n<sizeN b)
def bestR (p:Nat→Bool):Nat→Option Nat
  |0=>none
  |n+1=>if betterB (bestR p n) n&&p n then some n else bestR p n
theorem bestR_spec (p:Nat→Bool):∀ n,(bestR p n=none→∀ o,o<n→p o=false)∧∀ S,bestR p n=some S→S<n∧p S=true∧∀ o,o<n→p o=true→sizeN S<sizeN o∨sizeN S=sizeN o∧S≤o
  |0=>⟨fun _ o h=>absurd h (Nat.not_lt_zero o),fun S h=>by rw[bestR] at h;cases h⟩
  |n+1=>by
    obtain ⟨h1,h2⟩:=bestR_spec p n
    rw[bestR]
    by_cases hc:(betterB (bestR p n) n&&p n)=true
    · rw[if_pos hc]
      obtain ⟨c1,c2⟩:=Bool.and_eq_true_iff.1 hc
      refine ⟨fun h=>(by cases h),fun S h=>?_⟩
      cases h
      refine ⟨by omega,c2,fun o ho hp=>?_⟩
      by_cases hon:o=n
      · exact .inr ⟨by rw[hon],by omega⟩
      · have hlt:o<n:=by omega
        cases hb:bestR p n with
        |none=>rw[h1 hb o hlt] at hp;cases hp
        |some b=>
          rw[hb] at c1
          simp only[betterB,decide_eq_true_eq] at c1
          have h3:=(h2 b hb).2.2 o hlt hp
          generalize sizeN n=a1 at *
          generalize sizeN b=a2 at *
          generalize sizeN o=a3 at *
          omega
    · rw[if_neg hc]
      rw[Bool.not_eq_true] at hc
      refine ⟨fun h o ho=>?_,fun S h=>?_⟩
      · by_cases hon:o=n
        · rw[h] at hc
          rw[hon]
          simpa [betterB] using hc
        · exact h1 h o (by omega)
      · obtain ⟨a1,a2,a3⟩:=h2 S h
        refine ⟨by omega,a2,fun o ho hp=>?_⟩
        by_cases hon:o=n
        · subst hon
          rw[h,hp,Bool.and_true] at hc
          simp only[betterB,decide_eq_false_iff_not] at hc
          generalize sizeN o=a1 at *
          generalize sizeN S=a2 at *
          omega
        · exact a3 o (by omega) hp
theorem bestR_find {k:Nat}(hk:k≤6)(p:Nat→Bool):bestR p (2 ^ k)=(setsBy k).find? p:=by
  obtain ⟨h1,h2⟩:=bestR_spec p (2 ^ k)
  cases hf:(setsBy k).find? p with
  |none=>
    cases hb:bestR p (2 ^ k) with
    |none=>rfl
    |some S=>
      obtain ⟨a1,a2,_⟩:=h2 S hb
      rw[zkb hk hf S a1] at a2;cases a2
  |some S=>
    have hl:=zom hk hf
    cases hb:bestR p (2 ^ k) with
    |none=>have:=hl.is;rw[h1 hb S hl.lt] at this;cases this
    |some S'=>
      obtain ⟨a1,a2,a3⟩:=h2 S' hb
      have e1:=a3 S hl.lt hl.is
      have e2:=hl.least S' a1 a2
      generalize sizeN S=b1 at *
      generalize sizeN S'=b2 at *
      rw[show S'=S by omega]
theorem counts_iff {c:Cl}{set:Nat}(hs:set<2 ^ c.events.length):(set&&&countsN c==set)=(List.range c.events.length).all fun i=>!bit set i || decide ((c.events.getD i default).kind=1):=by
  rw[Bool.eq_iff_iff,List.all_eq_true]
  constructor
  · intro h i hi
    have h:=congrArg (fun x=>Nat.testBit x i) (eq_of_beq h)
    simp only[Nat.testBit_and] at h
    unfold countsN at h
    rw[zdl,decide_eq_true (List.mem_range.1 hi),Bool.true_and] at h
    unfold bit
    cases hb:set.testBit i with
    |false=>rfl
    |true=>rw[hb,Bool.true_and] at h;simpa using h
  · intro h
    rw[beq_iff_eq]
    apply Nat.eq_of_testBit_eq
    intro i
    rw[Nat.testBit_and]
    unfold countsN
    rw[zdl]
    by_cases hi:i<c.events.length
    · have:=h i (List.mem_range.2 hi)
      rw[decide_eq_true hi,Bool.true_and]
      unfold bit at this
      cases hb:set.testBit i with
      |false=>rfl
      |true=>rw[hb] at this;simpa using this
    · rw[Nat.testBit_lt_two_pow (Nat.lt_of_lt_of_le hs (Nat.pow_le_pow_right (by decide) (by omega))),Bool.false_and]
end Clm
end Go.Proofs.YtimgnlellflciaaGreat

/- The code of functions of the laws, for the evaluator. Printed by program. -/
namespace Go.Proofs.YtimgnlellflciaaGreat
open Go
namespace Ev
def af63:AFunc:=⟨13,[(.tmp 2)],(.seq (.ops [⟨0,(some 2),(.mov (.val (.int .i64 0))),none,0⟩]) (.seq (.ops [⟨0,(some 3),(.mov (.val (.int .i64 0))),none,0⟩]) (.seq (.block 0 (.loop [0,3] (.seq (.seq (.ops [⟨0,(some 4),(.mov (.tmp 0)),none,0⟩,⟨1,(some 5),(.bin .gtr (.tmp 4) (.val (.int .i64 0))),none,0⟩]) (.cond (.tmp 5) .skip (.exit 0))) (.block 1 (.ops [⟨0,(some 6),(.mov (.tmp 3)),none,0⟩,⟨1,(some 7),(.mov (.tmp 0)),none,0⟩,⟨2,(some 8),(.bin .rem (.tmp 7) (.val (.int .i64 2))),none,0⟩,⟨3,(some 9),(.bin .add (.tmp 6) (.tmp 8)),none,0⟩,⟨4,(some 10),(.mov (.tmp 0)),none,0⟩,⟨5,(some 11),(.bin .quo (.tmp 10) (.val (.int .i64 2))),none,0⟩,⟨6,(some 3),(.mov (.tmp 9)),none,0⟩,⟨7,(some 0),(.mov (.tmp 11)),none,0⟩]))))) (.seq (.ops [⟨0,(some 12),(.mov (.tmp 3)),none,0⟩,⟨1,(some 2),(.mov (.tmp 12)),none,0⟩]) .ret))))⟩
end Ev
end Go.Proofs.YtimgnlellflciaaGreat

/- Chapter 09, gone through: the reference's size of a set, and bits as the laws ask for them. -/
namespace Go.Proofs.YtimgnlellflciaaGreat
open Go
namespace Ev
namespace K
attribute [local simp] ev1 wantG spineK spine float xnew xval xeff zaa zar zbb zau zav addFl cellsOf pickC alive slLen slFt binI maxA maxK minA minK aeqK aeqS AV.cells spA zas fillA setAt bitsI nat_nn zbe AV.plain apart
set_option maxRecDepth 100000
set_option maxHeartbeats 4000000
def SizeC (call:CallF):Prop:=∀ (H:List AB) (s:Nat),s<65536→call (.fn (.func 63) [] []) [.int .i64 s] H=some (.ret (.int .i64 ((Clm.sizeN s:Nat):Int)),H,[])
theorem zye (C:Cfg)(hC:C.calm=true)(call:CallF)(s:Nat)(hs:s<65536)(H:List AB):
    Does (ev C call H.length none af63.body { tm:=tmA af63.ntmps (zipI 0 [.int .i64 s] []),df:=[],hp:=H,tc:=[] })
      (Ends C H.length af63.res fun v _hp tc=>v=.int .i64 ((Clm.sizeN s:Nat):Int)∧tc=[]):=by
  unfold af63
  simp only[zipI]
  (repeat (first|(with_reducible apply zad;(focus ((conv=>lhs;simp[*,Nat.testBit_eq_decide_div_mod_eq])<;>exact rfl));simp only[addFl])|((with_reducible first|apply zai|apply zak|apply zah|apply zaf|apply zac|apply zaj|apply zag|apply zam|(apply zae;· simp[*,zaa])|(apply zab;· simp[*,zaa]));try simp only[Then,Ops])|simp only[Nat.reduceEqDiff,reduceIte,OutB,Then]))
  refine zix (fun q st=>∃ n acc:Nat,n≤q∧n<65536∧acc≤16∧acc+Clm.sizeN n=Clm.sizeN s∧st={ tm:=tmA 13 [(3,.int .i64 acc),(0,.int .i64 n)],df:=[],hp:=H,tc:=[] }) s (by unfold fuelL;omega) ?_ ?_
  · refine ⟨s,0,Nat.le_refl _,hs,by omega,by omega,?_⟩
    simp only[zcq hC]
    (refine st_is ?_ ?_ ?_ ?_;(focus (simp[zan,zaq]));(focus rfl);(focus (first|rfl|(simp;done)|(simp[*];done)|(simp;rfl)|(simp[*];omega)|(simp;omega)));(focus (first|rfl|simp)))
  · rintro q st ⟨n,acc,hq,hn,ha,he,rfl⟩
    by_cases h0:0<n
    · have hst:=Clm.sizeN_step n hn
      have hle:=Clm.sizeN_le s
      have t1:(n:Int).tmod 2=((n % 2:Nat):Int):=by rw[Int.tmod_eq_emod_of_nonneg (by omega)];omega
      have t2:(n:Int).tdiv 2=((n / 2:Nat):Int):=by rw[Int.tdiv_eq_ediv_of_nonneg (by omega)];omega
      have hw1:IntKind.i64.wrap ((acc:Int)+((n % 2:Nat):Int))=((acc+n % 2:Nat):Int):=by rw[zat (by omega) (by omega)];omega
      have hw2:IntKind.i64.wrap ((n:Int).tdiv 2)=((n / 2:Nat):Int):=by rw[t2];exact zat (by omega) (by omega)
      have hw3:IntKind.i64.wrap ((n / 2:Nat):Int)=((n / 2:Nat):Int):=zat (by omega) (by omega)
      have hw4:IntKind.i64.wrap ((n % 2:Nat):Int)=((n % 2:Nat):Int):=zat (by omega) (by omega)
      have hlt:n / 2<n:=by omega
      have hlo:n % 2≤1:=by omega
      have HS:=hideP (And.intro hlt (And.intro hlo (And.intro hst (And.intro hle (And.intro hq (And.intro hn (And.intro ha (And.intro he h0))))))))
      have h0i:(0:Int)<(n:Int):=by omega
      generalize n % 2=lo at *
      generalize n / 2=hi at *
      clear hst hle hq hn ha he hlt hlo hs
      (repeat (first|(with_reducible apply zad;(focus ((conv=>lhs;simp[*,Nat.testBit_eq_decide_div_mod_eq])<;>exact rfl));simp only[addFl])|((with_reducible first|apply zai|apply zak|apply zah|apply zaf|apply zac|apply zaj|apply zag|apply zam|(apply zae;· simp[*,zaa])|(apply zab;· simp[*,zaa]));try simp only[Then,Ops,OutB])|simp only[Nat.reduceEqDiff,reduceIte,OutB,Then]))
      obtain ⟨g1,g2,g3,g4,g5,g6,g7,g8,g9⟩:=HS.out
      refine ⟨q - 1,by omega,hi,acc+lo,by omega,by omega,by omega,by omega,?_⟩
      simp only[zcq hC]
      (refine st_is ?_ ?_ ?_ ?_;(focus (simp[zan,zaq]));(focus rfl);(focus (first|rfl|(simp;done)|(simp[*];done)|(simp;rfl)|(simp[*];omega)|(simp;omega)));(focus (first|rfl|simp)))
    · obtain rfl:n=0:=by omega
      have:Clm.sizeN 0=0:=Clm.sizeN_zero
      obtain rfl:acc=Clm.sizeN s:=by omega
      clear hq hn ha he this h0 hs
      (repeat (first|(with_reducible apply zad;(focus ((conv=>lhs;simp[*,Nat.testBit_eq_decide_div_mod_eq])<;>exact rfl));simp only[addFl])|((with_reducible first|apply zai|apply zak|apply zah|apply zaf|apply zac|apply zaj|apply zag|apply zam|(apply zae;· simp[*,zaa])|(apply zab;· simp[*,zaa]));try simp only[Then,Ops,OutB,reduceIte])|simp only[Nat.reduceEqDiff,reduceIte,OutB,Then]))
      exact zao (v:=.int .i64 ((Clm.sizeN s:Nat):Int)) (.inl rfl) rfl (by simp) (by simp only[resL,resOf,zal];simp[*,resV]) ⟨rfl,rfl⟩
end K
end Ev
end Go.Proofs.YtimgnlellflciaaGreat

/- The reference of chapter 09, gone through: Empty and Share. -/
namespace Go.Proofs.YtimgnlellflciaaGreat
open Go
namespace Ev
namespace K
attribute [local simp] ev1 wantG spineK spine float xnew xval xeff zaa zar zbb zau zav addFl cellsOf pickC alive slLen slFt binI maxA maxK minA minK aeqK aeqS AV.cells spA zas fillA setAt bitsI nat_nn zbe AV.plain apart
open Clm (setOf zbp zdl)
set_option maxRecDepth 100000
set_option maxHeartbeats 4000000
def emSt (H:List AB)(v:AV)(a b:Int)(p:Nat)(G:List AB):St:={ tm:=tmA 47 [(9,.int .i64 p),(8,.int .i64 b),(7,.int .i64 a),(5,v),(1,.ptr H.length 0)],df:=[],hp:=G,tc:=[] }
theorem zru (C:Cfg)(hC:C.calm=true)(call:CallF)(c:Clm.Cl)(hK:KnoC call c)(hW:PowC call)(hT:Clm.Fine c→TogC call c)(H:List AB):
    Does (ev C call H.length none af18.body { tm:=tmA af18.ntmps (zipI 0 [.agg (clampCs c)] []),df:=[],hp:=H,tc:=[] })
      (Ends C H.length af18.res fun v _ tc=>v=emptyR c∧tc=[]):=by
  unfold emptyR
  by_cases he:errOf c true=0
  · obtain ⟨_,hc,hcan⟩:=Clm.err_zero he
    rw[he,if_pos rfl,if_pos rfl]
    obtain ⟨v,G0,hcall,l1,kp,hV⟩:=hK.yes he (H++[.cells (clampCs c)])
    have k0:=kp H.length (.cells (clampCs c)) (hb (by rw[List.getElem?_append_right (by omega),Nat.sub_self];rfl))
    have hne:Clm.casesR c (Clm.every c)≠[]:=by
      have:=Clm.cases_can hc (Clm.every c)
      rw[hcan] at this
      intro e
      rw[e] at this;cases this
    have hp4:=hc.piles.2
    have ht:=fun K s hs=>hT hc (G0++K) v s (hV.keep (fun q _ _=>trivial) fun q x _ h=>h.app K) hne hs
    have htog:=fun s=>Clm.tog_ref hc hcan s
    have hgH:H.length≤G0.length:=by simp only[List.length_append,List.length_cons,List.length_nil] at l1;omega
    have HX:=hideP (And.intro ht (And.intro htog (And.intro k0 (And.intro hp4 hW))))
    clear hK hT hV hne kp l1 hc hcan he hW ht htog hp4 k0
    unfold af18
    simp only[zipI,clampCs] at *
    (repeat (first|((with_reducible apply zad);(focus ((with_reducible apply zap);(focus rfl);(focus rfl);(focus ((conv=>lhs;simp[*,List.getElem?_append_right,List.set_append_right,List.getElem?_cons_zero,List.getElem?_append_left,List.set_append_left,-getElem?_pos,Nat.testBit_eq_decide_div_mod_eq])<;>exact rfl));(focus rfl);(focus rfl)));simp only[addFl])|(with_reducible apply zad;(focus ((conv=>lhs;simp[*,List.getElem?_append_right,List.set_append_right,List.getElem?_cons_zero,List.getElem?_append_left,List.set_append_left,-getElem?_pos,Nat.testBit_eq_decide_div_mod_eq])<;>exact rfl));simp only[addFl])|((with_reducible first|apply zai|apply zak|apply zah|apply zaf|apply zac|apply zaj|apply zag|apply zam|(apply zae;· simp[*,zaa])|(apply zab;· simp[*,zaa]));try simp only[Then,Ops])|simp only[Nat.reduceEqDiff,reduceIte,OutB,Then]))
    clear hcall
    unfold emptyS emptyP
    with_reducible refine zaz hC c.piles.length (by have:=HX.out.2.2.2.1;unfold fuelL;omega) (fun p st=>∃ K,st=emSt H v (setOf (fun i=>decide ((Clm.together c (2 ^ i)).hi=0)) p:Nat) (setOf (fun i=>decide ((Clm.together c (2 ^ i)).lo=0)) p:Nat) p (G0++K)) ?_ ?_ ?_
    · refine ⟨[],?_⟩
      unfold emSt
      simp only[setOf]
      (refine st_is ?_ ?_ ?_ ?_;(focus (simp[zan,zaq]));(focus rfl);(focus (first|rfl|(simp;done)|(simp[*];done)|(simp;rfl)|(simp[*];omega)|(simp;omega)));(focus (first|rfl|simp)))
    · rintro p st hp ⟨K,rfl⟩
      obtain ⟨ht,htog,⟨A1,A2,A3⟩,hp4,hW⟩:=HX.out
      have hpw:2 ^ p≤2 ^ 3:=Nat.pow_le_pow_right (by decide) (by omega)
      have htp:=fun K=>ht K (2 ^ p) (by omega)
      simp only[htog] at htp
      have hw:=fun H=>hW H p (by omega)
      have b1:=zbp (fun i=>decide ((Clm.together c (2 ^ i)).hi=0)) p
      have b2:=zbp (fun i=>decide ((Clm.together c (2 ^ i)).lo=0)) p
      rw[setOf,setOf]
      generalize setOf (fun i=>decide ((Clm.together c (2 ^ i)).hi=0)) p=x at *
      generalize setOf (fun i=>decide ((Clm.together c (2 ^ i)).lo=0)) p=y at *
      generalize Clm.together c (2 ^ p)=s at *
      have w1:IntKind.i64.wrap ((x:Int)+((2 ^ p:Nat):Int))=((x+2 ^ p:Nat):Int):=by
        rw[show ((x+2 ^ p:Nat):Int)=(x:Int)+((2 ^ p:Nat):Int) from rfl]
        generalize (2:Nat) ^ p=z at *
        exact zat (by omega) (by omega)
      have w2:IntKind.i64.wrap ((y:Int)+((2 ^ p:Nat):Int))=((y+2 ^ p:Nat):Int):=by
        rw[show ((y+2 ^ p:Nat):Int)=(y:Int)+((2 ^ p:Nat):Int) from rfl]
        generalize (2:Nat) ^ p=z at *
        exact zat (by omega) (by omega)
      have hwi:IntKind.i64.wrap (↑p+1)=↑p+1:=zat (by omega) (by omega)
      have e5:(p:Int)<c.piles.length:=by omega
      have gG:∀ n,¬ (G0.length+n<H.length):=fun n=>by omega
      have gG0:¬ (G0.length<H.length):=by omega
      obtain ⟨X1, hX1, hc1⟩ : ∃ X1 : Int, ((if decide (s.hi = 0) = true then x + 2 ^ p else x : Nat) : Int) = X1 ∧ ((s.hi = 0 ∧ X1 = ((x + 2 ^ p : Nat) : Int)) ∨ ((s.hi == 0) = false ∧ X1 = (x : Int))) := ⟨_, rfl, by
        by_cases h:s.hi=0
        · exact .inl ⟨h,by rw[if_pos (decide_eq_true h)]⟩
        · exact .inr ⟨beq_false_of_ne h,by rw[if_neg (by simp[h])]⟩⟩
      obtain ⟨X2, hX2, hc2⟩ : ∃ X2 : Int, ((if decide (s.lo = 0) = true then y + 2 ^ p else y : Nat) : Int) = X2 ∧ ((s.lo = 0 ∧ X2 = ((y + 2 ^ p : Nat) : Int)) ∨ ((s.lo == 0) = false ∧ X2 = (y : Int))) := ⟨_, rfl, by
        by_cases h:s.lo=0
        · exact .inl ⟨h,by rw[if_pos (decide_eq_true h)]⟩
        · exact .inr ⟨beq_false_of_ne h,by rw[if_neg (by simp[h])]⟩⟩
      rw[hX1,hX2]
      clear hX1 hX2 ht htog hW hpw b1 b2 HX hp4
      generalize ((x+2 ^ p:Nat):Int)=x' at *
      generalize ((y+2 ^ p:Nat):Int)=y' at *
      generalize ((2 ^ p:Nat):Int)=z at *
      generalize (x:Int)=x1 at *
      generalize (y:Int)=y1 at *
      obtain ⟨slo,shi⟩:=s
      simp only at *
      rcases hc1 with ⟨rfl,rfl⟩|⟨h1,rfl⟩
      all_goals rcases hc2 with ⟨rfl,rfl⟩|⟨h2,rfl⟩
      all_goals
        unfold emSt
        try simp only[clampCs] at *
        (repeat (first|((with_reducible apply zad);(focus ((with_reducible apply zap);(focus rfl);(focus rfl);(focus ((conv=>lhs;simp[*,List.getElem?_append_right,List.set_append_right,List.getElem?_cons_zero,List.getElem?_append_left,List.set_append_left,-getElem?_pos,↓zbl,Nat.testBit_eq_decide_div_mod_eq])<;>exact rfl));(focus rfl);(focus rfl)));simp only[addFl])|(with_reducible apply zad;(focus ((conv=>lhs;simp[*,List.getElem?_append_right,List.set_append_right,List.getElem?_cons_zero,List.getElem?_append_left,List.set_append_left,-getElem?_pos,↓zbl,Nat.testBit_eq_decide_div_mod_eq])<;>exact rfl));simp only[addFl])|((with_reducible first|apply zai|apply zak|apply zah|apply zaf|apply zac|apply zaj|apply zag|apply zam|(apply zae;· simp[*,zaa])|(apply zab;· simp[*,zaa]));try simp only[Then,Ops,OutB])|simp only[Nat.reduceEqDiff,reduceIte,OutB,Then]))
        apply Exists.intro
        (refine st_is ?_ ?_ ?_ ?_;(focus (simp[zan,zaq]));(focus rfl);(focus (first|rfl|(simp;done)|(simp[*];done)|(simp;rfl)|(simp[*];omega)|(simp;omega)));(focus (first|rfl|simp)))
    · rintro st ⟨K,rfl⟩
      obtain ⟨ht,htog,⟨A1,A2,A3⟩,hp4,hW⟩:=HX.out
      clear ht htog HX hp4 hW
      generalize ((setOf (fun i=>decide ((Clm.together c (2 ^ i)).hi=0)) c.piles.length:Nat):Int)=x at *
      generalize ((setOf (fun i=>decide ((Clm.together c (2 ^ i)).lo=0)) c.piles.length:Nat):Int)=y at *
      unfold emSt
      try simp only[clampCs] at *
      (repeat (first|((with_reducible apply zad);(focus ((with_reducible apply zap);(focus rfl);(focus rfl);(focus ((conv=>lhs;simp[*,List.getElem?_append_right,List.set_append_right,List.getElem?_cons_zero,List.getElem?_append_left,List.set_append_left,-getElem?_pos,Nat.testBit_eq_decide_div_mod_eq])<;>exact rfl));(focus rfl);(focus rfl)));simp only[addFl])|(with_reducible apply zad;(focus ((conv=>lhs;simp[*,List.getElem?_append_right,List.set_append_right,List.getElem?_cons_zero,List.getElem?_append_left,List.set_append_left,-getElem?_pos,Nat.testBit_eq_decide_div_mod_eq])<;>exact rfl));simp only[addFl])|((with_reducible first|apply zai|apply zak|apply zah|apply zaf|apply zac|apply zaj|apply zag|apply zam|(apply zae;· simp[*,zaa])|(apply zab;· simp[*,zaa]));try simp only[Then,Ops,OutB,reduceIte])|simp only[Nat.reduceEqDiff,reduceIte,OutB,Then]))
      exact zao (v:=.tup [.int .i64 x,.int .i64 y,.int .i64 0]) (.inl rfl) rfl (by simp only[List.length_append];omega) (by simp only[resL,resOf,zal];simp[*,resV]) ⟨rfl,rfl⟩
  · rw[if_neg he,if_neg he]
    have hk:=hK.no _ he
    have he':(errOf c true==0)=false:=beq_false_of_ne he
    generalize errOf c true=e at *
    clear hK hT hW
    unfold af18
    simp only[zipI,clampCs] at *
    (repeat (first|((with_reducible apply zad);(focus ((with_reducible apply zap);(focus rfl);(focus rfl);(focus ((conv=>lhs;simp[*,List.getElem?_append_right,List.set_append_right,List.getElem?_cons_zero,List.getElem?_append_left,List.set_append_left,-getElem?_pos,Nat.testBit_eq_decide_div_mod_eq])<;>exact rfl));(focus rfl);(focus rfl)));simp only[addFl])|(with_reducible apply zad;(focus ((conv=>lhs;simp[*,List.getElem?_append_right,List.set_append_right,List.getElem?_cons_zero,List.getElem?_append_left,List.set_append_left,-getElem?_pos,Nat.testBit_eq_decide_div_mod_eq])<;>exact rfl));simp only[addFl])|((with_reducible first|apply zai|apply zak|apply zah|apply zaf|apply zac|apply zaj|apply zag|apply zam|(apply zae;· simp[*,zaa])|(apply zab;· simp[*,zaa]));try simp only[Then,Ops])|simp only[Nat.reduceEqDiff,reduceIte,OutB,Then]))
    exact zao (v:=.tup [.int .i64 0,.int .i64 0,.int .i64 e]) (.inl rfl) rfl (by simp) (by simp only[resL,resOf,zal];simp[*,resV]) ⟨rfl,rfl⟩
end K
end Ev
end Go.Proofs.YtimgnlellflciaaGreat

/- The reference of chapter 09, gone through: Share. -/
namespace Go.Proofs.YtimgnlellflciaaGreat
open Go
namespace Ev
namespace K
attribute [local simp] ev1 wantG spineK spine float xnew xval xeff zaa zar zbb zau zav addFl cellsOf pickC alive slLen slFt binI maxA maxK minA minK aeqK aeqS AV.cells spA zas fillA setAt bitsI nat_nn zbe AV.plain apart
set_option maxRecDepth 100000
set_option maxHeartbeats 4000000
def bI:Option Nat→Int
  |none=>-1
  |some b=>b
def shSt (H:List AB)(v:AV)(s:Int)(best:Option Nat)(set:Nat)(G:List AB):St:={ tm:=tmA 48 [(9,.int .i64 set),(8,.int .i64 (bI best)),(6,v),(2,.ptr H.length 0),(1,.int .i64 s)],df:=[],hp:=G,tc:=[] }
theorem zur (C:Cfg)(call:CallF)(c:Clm.Cl)(hPl:PilC call c)(hSz:SizeC call)(H:List AB)(v:AV)(s:Int)(set:Nat)(hset:set<2 ^ c.piles.length)(hfp:fullP c=2 ^ c.piles.length - 1)(hle:2 ^ c.piles.length≤16)(sp:Clm.Sp)(G:List AB)(h0:HB G H.length (.cells (clampCs c)))(ht:call (.fn (.func 49) [] []) [.agg (clampCs c),v,.int .i64 set] G=some (.ret (.agg [.int .i64 sp.lo,.int .i64 sp.hi]),G,[]))(best:Option Nat)(hbest:∀ b,best=some b→b<set):
    Does (ev C call H.length none (atP [1,1,1,1,0,1,0,0] af20.body) (shSt H v s best set G))
      (fun e st=>e=.normal∧{ st with tm:=keepT [1,2,6,8,9] st.tm }=shSt H v s (if Clm.betterB best set&&decide (sp.lo≥s) then some set else best) (set+1) G):=by
  have hpl:=fun H=>hPl H
  have z1:=fun H=>hSz H set (by omega)
  have e5:(set:Int)≤(fullP c:Nat):=by omega
  have hw:IntKind.i64.wrap (↑set+1)=↑set+1:=zat (by omega) (by omega)
  obtain ⟨A1,A2,A3⟩:=h0
  clear hPl
  generalize fullP c=fp at *
  cases best with
  |none=>
    clear hSz hbest hfp
    by_cases hs:sp.lo≥s
    · have e1:(Clm.betterB none set&&decide (sp.lo≥s))=true:=by rw[decide_eq_true hs];rfl
      rw[e1,if_pos rfl]
      clear e1
      unfold af20 shSt
      simp only[atP,clampCs,bI] at *
      (repeat (first|((with_reducible apply zad);(focus ((with_reducible apply zap);(focus rfl);(focus rfl);(focus ((conv=>lhs;simp[*,List.getElem?_append_right,List.set_append_right,List.getElem?_cons_zero,List.getElem?_append_left,List.set_append_left,-getElem?_pos,Nat.testBit_eq_decide_div_mod_eq])<;>exact rfl));(focus rfl);(focus rfl)));simp only[addFl])|(with_reducible apply zad;(focus ((conv=>lhs;simp[*,List.getElem?_append_right,List.set_append_right,List.getElem?_cons_zero,List.getElem?_append_left,List.set_append_left,-getElem?_pos,Nat.testBit_eq_decide_div_mod_eq])<;>exact rfl));simp only[addFl])|((with_reducible first|apply zai|apply zak|apply zah|apply zaf|apply zac|apply zaj|apply zag|apply zam|(apply zae;· simp[*,zaa])|(apply zab;· simp[*,zaa]));try simp only[Then,Ops,OutB])|simp only[Nat.reduceEqDiff,reduceIte,OutB,Then]))
      refine ⟨by first|rfl|trivial,?_⟩
      (refine st_is ?_ ?_ ?_ ?_;(focus (simp[zan,zaq]));(focus rfl);(focus (first|rfl|(simp;done)|(simp[*];done)|(simp;rfl)|(simp[*];omega)|(simp;omega)));(focus (first|rfl|simp)))
    · have e1:(Clm.betterB none set&&decide (sp.lo≥s))=false:=by rw[decide_eq_false hs,Bool.and_false]
      rw[e1,if_neg (by simp)]
      clear e1
      unfold af20 shSt
      simp only[atP,clampCs,bI] at *
      (repeat (first|((with_reducible apply zad);(focus ((with_reducible apply zap);(focus rfl);(focus rfl);(focus ((conv=>lhs;simp[*,List.getElem?_append_right,List.set_append_right,List.getElem?_cons_zero,List.getElem?_append_left,List.set_append_left,-getElem?_pos,Nat.testBit_eq_decide_div_mod_eq])<;>exact rfl));(focus rfl);(focus rfl)));simp only[addFl])|(with_reducible apply zad;(focus ((conv=>lhs;simp[*,List.getElem?_append_right,List.set_append_right,List.getElem?_cons_zero,List.getElem?_append_left,List.set_append_left,-getElem?_pos,Nat.testBit_eq_decide_div_mod_eq])<;>exact rfl));simp only[addFl])|((with_reducible first|apply zai|apply zak|apply zah|apply zaf|apply zac|apply zaj|apply zag|apply zam|(apply zae;· simp[*,zaa])|(apply zab;· simp[*,zaa]));try simp only[Then,Ops,OutB])|simp only[Nat.reduceEqDiff,reduceIte,OutB,Then]))
      refine ⟨by first|rfl|trivial,?_⟩
      (refine st_is ?_ ?_ ?_ ?_;(focus (simp[zan,zaq]));(focus rfl);(focus (first|rfl|(simp;done)|(simp[*];done)|(simp;rfl)|(simp[*];omega)|(simp;omega)));(focus (first|rfl|simp)))
  |some b=>
    have hb:=hbest b rfl
    have z2:=fun H=>hSz H b (by omega)
    have hbt:Clm.betterB (some b) set=decide (Clm.sizeN set<Clm.sizeN b):=rfl
    rw[hbt]
    have hb0:¬ ((b:Int)<0):=by omega
    generalize Clm.sizeN set=n1 at *
    generalize Clm.sizeN b=n2 at *
    clear hSz hbest hfp hbt hb
    have hcase:(¬ ((n1:Int)<n2)∧decide (n1<n2)=false)∨((n1:Int)<n2∧decide (n1<n2)=true):=by
      by_cases h:n1<n2
      · exact .inr ⟨by omega,decide_eq_true h⟩
      · exact .inl ⟨by omega,decide_eq_false h⟩
    rcases hcase with ⟨g1,g2⟩|⟨g1,g2⟩
    · rw[g2,Bool.false_and,if_neg (by simp)]
      clear g2
      unfold af20 shSt
      simp only[atP,clampCs,bI] at *
      (repeat (first|((with_reducible apply zad);(focus ((with_reducible apply zap);(focus rfl);(focus rfl);(focus ((conv=>lhs;simp[*,List.getElem?_append_right,List.set_append_right,List.getElem?_cons_zero,List.getElem?_append_left,List.set_append_left,-getElem?_pos,Nat.testBit_eq_decide_div_mod_eq])<;>exact rfl));(focus rfl);(focus rfl)));simp only[addFl])|(with_reducible apply zad;(focus ((conv=>lhs;simp[*,List.getElem?_append_right,List.set_append_right,List.getElem?_cons_zero,List.getElem?_append_left,List.set_append_left,-getElem?_pos,Nat.testBit_eq_decide_div_mod_eq])<;>exact rfl));simp only[addFl])|((with_reducible first|apply zai|apply zak|apply zah|apply zaf|apply zac|apply zaj|apply zag|apply zam|(apply zae;· simp[*,zaa])|(apply zab;· simp[*,zaa]));try simp only[Then,Ops,OutB])|simp only[Nat.reduceEqDiff,reduceIte,OutB,Then]))
      refine ⟨by first|rfl|trivial,?_⟩
      (refine st_is ?_ ?_ ?_ ?_;(focus (simp[zan,zaq]));(focus rfl);(focus (first|rfl|(simp;done)|(simp[*];done)|(simp;rfl)|(simp[*];omega)|(simp;omega)));(focus (first|rfl|simp)))
    · rw[g2,Bool.true_and]
      clear g2
      by_cases hs:sp.lo≥s
      · rw[decide_eq_true hs,if_pos rfl]
        unfold af20 shSt
        simp only[atP,clampCs,bI] at *
        (repeat (first|((with_reducible apply zad);(focus ((with_reducible apply zap);(focus rfl);(focus rfl);(focus ((conv=>lhs;simp[*,List.getElem?_append_right,List.set_append_right,List.getElem?_cons_zero,List.getElem?_append_left,List.set_append_left,-getElem?_pos,Nat.testBit_eq_decide_div_mod_eq])<;>exact rfl));(focus rfl);(focus rfl)));simp only[addFl])|(with_reducible apply zad;(focus ((conv=>lhs;simp[*,List.getElem?_append_right,List.set_append_right,List.getElem?_cons_zero,List.getElem?_append_left,List.set_append_left,-getElem?_pos,Nat.testBit_eq_decide_div_mod_eq])<;>exact rfl));simp only[addFl])|((with_reducible first|apply zai|apply zak|apply zah|apply zaf|apply zac|apply zaj|apply zag|apply zam|(apply zae;· simp[*,zaa])|(apply zab;· simp[*,zaa]));try simp only[Then,Ops,OutB])|simp only[Nat.reduceEqDiff,reduceIte,OutB,Then]))
        refine ⟨by first|rfl|trivial,?_⟩
        (refine st_is ?_ ?_ ?_ ?_;(focus (simp[zan,zaq]));(focus rfl);(focus (first|rfl|(simp;done)|(simp[*];done)|(simp;rfl)|(simp[*];omega)|(simp;omega)));(focus (first|rfl|simp)))
      · rw[decide_eq_false hs,if_neg (by simp)]
        unfold af20 shSt
        simp only[atP,clampCs,bI] at *
        (repeat (first|((with_reducible apply zad);(focus ((with_reducible apply zap);(focus rfl);(focus rfl);(focus ((conv=>lhs;simp[*,List.getElem?_append_right,List.set_append_right,List.getElem?_cons_zero,List.getElem?_append_left,List.set_append_left,-getElem?_pos,Nat.testBit_eq_decide_div_mod_eq])<;>exact rfl));(focus rfl);(focus rfl)));simp only[addFl])|(with_reducible apply zad;(focus ((conv=>lhs;simp[*,List.getElem?_append_right,List.set_append_right,List.getElem?_cons_zero,List.getElem?_append_left,List.set_append_left,-getElem?_pos,Nat.testBit_eq_decide_div_mod_eq])<;>exact rfl));simp only[addFl])|((with_reducible first|apply zai|apply zak|apply zah|apply zaf|apply zac|apply zaj|apply zag|apply zam|(apply zae;· simp[*,zaa])|(apply zab;· simp[*,zaa]));try simp only[Then,Ops,OutB])|simp only[Nat.reduceEqDiff,reduceIte,OutB,Then]))
        refine ⟨by first|rfl|trivial,?_⟩
        (refine st_is ?_ ?_ ?_ ?_;(focus (simp[zan,zaq]));(focus rfl);(focus (first|rfl|(simp;done)|(simp[*];done)|(simp;rfl)|(simp[*];omega)|(simp;omega)));(focus (first|rfl|simp)))
theorem zro (C:Cfg)(hC:C.calm=true)(call:CallF)(c:Clm.Cl)(hSo:SodC call)(hK:KnoC call c)(hPl:Clm.Fine c→PilC call c)(hSz:SizeC call)(hT:Clm.Fine c→TogC call c)(H:List AB)(s:Int):
    Does (ev C call H.length none af20.body { tm:=tmA af20.ntmps (zipI 0 [.agg (clampCs c),.int .i64 s] []),df:=[],hp:=H,tc:=[] })
      (Ends C H.length af20.res fun v _ tc=>v=shareR c s∧tc=[]):=by
  have hs:=fun H=>hSo H s
  unfold shareR shareV shareE
  by_cases he:errOf c (isS s)=0
  · obtain ⟨hb',hc,hcan⟩:=Clm.err_zero he
    rw[he,if_pos rfl,if_pos rfl]
    rw[hb'] at hs he
    obtain ⟨v,G0,hcall,l1,kp,hV⟩:=hK.yes he (H++[.cells (clampCs c)])
    have k0:=kp H.length (.cells (clampCs c)) (hb (by rw[List.getElem?_append_right (by omega),Nat.sub_self];rfl))
    have hne:Clm.casesR c (Clm.every c)≠[]:=by
      have:=Clm.cases_can hc (Clm.every c)
      rw[hcan] at this
      intro e
      rw[e] at this;cases this
    have hp4:=hc.piles
    have hle:2 ^ c.piles.length≤16:=by
      have:2 ^ c.piles.length≤2 ^ 4:=Nat.pow_le_pow_right (by decide) hp4.2
      omega
    have ht:=fun set (hs:set<2 ^ c.piles.length)=>hT hc G0 v set (hV.keep (fun q _ _=>trivial) fun q x _ h=>h) hne (by omega)
    simp only[Clm.tog_ref hc hcan] at ht
    have hgH:H.length≤G0.length:=by simp only[List.length_append,List.length_cons,List.length_nil] at l1;omega
    have hsf:shareF c s=Clm.bestR (shareP c s) (2 ^ c.piles.length):=(Clm.bestR_find (by omega) _).symm
    rw[hsf]
    have HX:=hideP (And.intro ht (And.intro k0 (And.intro hle (And.intro (hPl hc) hSz))))
    clear hK hT hV hne kp l1 hc hcan he hPl hSz ht hp4 k0 hSo hsf hle hb'
    unfold af20
    simp only[zipI,clampCs] at *
    (repeat (first|((with_reducible apply zad);(focus ((with_reducible apply zap);(focus rfl);(focus rfl);(focus ((conv=>lhs;simp[*,List.getElem?_append_right,List.set_append_right,List.getElem?_cons_zero,List.getElem?_append_left,List.set_append_left,-getElem?_pos,↓zbl,Nat.testBit_eq_decide_div_mod_eq])<;>exact rfl));(focus rfl);(focus rfl)));simp only[addFl])|(with_reducible apply zad;(focus ((conv=>lhs;simp[*,List.getElem?_append_right,List.set_append_right,List.getElem?_cons_zero,List.getElem?_append_left,List.set_append_left,-getElem?_pos,↓zbl,Nat.testBit_eq_decide_div_mod_eq])<;>exact rfl));simp only[addFl])|((with_reducible first|apply zai|apply zak|apply zah|apply zaf|apply zac|apply zaj|apply zag|apply zam|(apply zae;· simp[*,zaa])|(apply zab;· simp[*,zaa]));try simp only[Then,Ops])|simp only[Nat.reduceEqDiff,reduceIte,OutB,Then]))
    clear hcall hs
    with_reducible refine zaz hC (2 ^ c.piles.length) (by have:=HX.out.2.2.1;unfold fuelL;omega) (fun set st=>st=shSt H v s (Clm.bestR (shareP c s) set) set G0) ?_ ?_ ?_
    · unfold shSt
      rw[Clm.bestR]
      simp only[bI]
      (refine st_is ?_ ?_ ?_ ?_;(focus (simp[zan,zaq]));(focus rfl);(focus (first|rfl|(simp;done)|(simp[*];done)|(simp;rfl)|(simp[*];omega)|(simp;omega)));(focus (first|rfl|simp)))
    · rintro set st hset rfl
      obtain ⟨ht,k0,hle,hPl,hSz⟩:=HX.out
      have hr:=zur C call c hPl hSz H v s set hset rfl hle (Clm.together c set) G0 k0 (ht set hset) (Clm.bestR (shareP c s) set) (fun b h=>((Clm.bestR_spec (shareP c s) set).2 b h).1)
      refine Does.mono hr ?_
      rintro e st ⟨rfl,h⟩
      rw[Clm.bestR]
      exact h
    · rintro st rfl
      obtain ⟨ht,⟨A1,A2,A3⟩,hle,hPl,hSz⟩:=HX.out
      have hpl:=fun H=>hPl H
      have hx:¬ (((2 ^ c.piles.length:Nat):Int)≤((fullP c:Nat):Int)):=by
        have:0<2 ^ c.piles.length:=Nat.two_pow_pos _
        unfold fullP
        omega
      generalize Clm.bestR (shareP c s) (2 ^ c.piles.length)=best at *
      generalize (2:Nat) ^ c.piles.length=pw at *
      generalize fullP c=fp at *
      clear ht hle hPl hSz HX
      cases best with
      |none=>
        unfold shSt
        simp only[bI,clampCs] at *
        (repeat (first|((with_reducible apply zad);(focus ((with_reducible apply zap);(focus rfl);(focus rfl);(focus ((conv=>lhs;simp[*,List.getElem?_append_right,List.set_append_right,List.getElem?_cons_zero,List.getElem?_append_left,List.set_append_left,-getElem?_pos,Nat.testBit_eq_decide_div_mod_eq])<;>exact rfl));(focus rfl);(focus rfl)));simp only[addFl])|(with_reducible apply zad;(focus ((conv=>lhs;simp[*,List.getElem?_append_right,List.set_append_right,List.getElem?_cons_zero,List.getElem?_append_left,List.set_append_left,-getElem?_pos,Nat.testBit_eq_decide_div_mod_eq])<;>exact rfl));simp only[addFl])|((with_reducible first|apply zai|apply zak|apply zah|apply zaf|apply zac|apply zaj|apply zag|apply zam|(apply zae;· simp[*,zaa])|(apply zab;· simp[*,zaa]));try simp only[Then,Ops,OutB,reduceIte])|simp only[Nat.reduceEqDiff,reduceIte,OutB,Then]))
        exact zao (v:=.tup [.int .i64 0,.int .i64 4]) (.inl rfl) rfl hgH (by simp only[resL,resOf,zal];simp[*,resV]) ⟨rfl,rfl⟩
      |some b=>
        have hb0:¬ ((b:Int)<0):=by omega
        unfold shSt
        simp only[bI,clampCs] at *
        (repeat (first|((with_reducible apply zad);(focus ((with_reducible apply zap);(focus rfl);(focus rfl);(focus ((conv=>lhs;simp[*,List.getElem?_append_right,List.set_append_right,List.getElem?_cons_zero,List.getElem?_append_left,List.set_append_left,-getElem?_pos,Nat.testBit_eq_decide_div_mod_eq])<;>exact rfl));(focus rfl);(focus rfl)));simp only[addFl])|(with_reducible apply zad;(focus ((conv=>lhs;simp[*,List.getElem?_append_right,List.set_append_right,List.getElem?_cons_zero,List.getElem?_append_left,List.set_append_left,-getElem?_pos,Nat.testBit_eq_decide_div_mod_eq])<;>exact rfl));simp only[addFl])|((with_reducible first|apply zai|apply zak|apply zah|apply zaf|apply zac|apply zaj|apply zag|apply zam|(apply zae;· simp[*,zaa])|(apply zab;· simp[*,zaa]));try simp only[Then,Ops,OutB,reduceIte])|simp only[Nat.reduceEqDiff,reduceIte,OutB,Then]))
        exact zao (v:=.tup [.int .i64 b,.int .i64 0]) (.inl rfl) rfl hgH (by simp only[resL,resOf,zal];simp[*,resV]) ⟨rfl,rfl⟩
  · rw[if_neg he,if_neg he]
    have hk:=hK.no _ he
    have he':(errOf c (isS s)==0)=false:=beq_false_of_ne he
    generalize errOf c (isS s)=e at *
    generalize isS s=b at *
    clear hK hT hPl hSz hSo
    unfold af20
    simp only[zipI,clampCs] at *
    (repeat (first|((with_reducible apply zad);(focus ((with_reducible apply zap);(focus rfl);(focus rfl);(focus ((conv=>lhs;simp[*,List.getElem?_append_right,List.set_append_right,List.getElem?_cons_zero,List.getElem?_append_left,List.set_append_left,-getElem?_pos,↓zbl,Nat.testBit_eq_decide_div_mod_eq])<;>exact rfl));(focus rfl);(focus rfl)));simp only[addFl])|(with_reducible apply zad;(focus ((conv=>lhs;simp[*,List.getElem?_append_right,List.set_append_right,List.getElem?_cons_zero,List.getElem?_append_left,List.set_append_left,-getElem?_pos,↓zbl,Nat.testBit_eq_decide_div_mod_eq])<;>exact rfl));simp only[addFl])|((with_reducible first|apply zai|apply zak|apply zah|apply zaf|apply zac|apply zaj|apply zag|apply zam|(apply zae;· simp[*,zaa])|(apply zab;· simp[*,zaa]));try simp only[Then,Ops])|simp only[Nat.reduceEqDiff,reduceIte,OutB,Then]))
    exact zao (v:=.tup [.int .i64 0,.int .i64 e]) (.inl rfl) rfl (by simp) (by simp only[resL,resOf,zal];simp[*,resV]) ⟨rfl,rfl⟩
end K
end Ev
end Go.Proofs.YtimgnlellflciaaGreat
