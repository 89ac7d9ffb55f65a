/- The Go function ClampTells returns true, for every argument, in every world in which it is called; nothing that was there is turned. No condition. -/
import Derived.Test.YtimgnlellflciaaGreatLcTB
import Derived.Test.YtimgnlellflciaaGreatCmPE
import Derived.Test.YtimgnlellflciaaGreatLcTA
import Derived.Test.YtimgnlellflciaaGreatCmEA
import Derived.Test.YtimgnlellflciaaGreatProg
import Derived.KernelRfl
import Derived.Test.YtimgnlellflciaaGreatCmPD
/- The reference of chapter 09, gone through: All, Enough; the law ClampTells. -/
namespace Go.Proofs.YtimgnlellflciaaGreat
open Go
namespace Ev
namespace K
attribute [local simp] ev1 wantG spineK spine float xnew xval xeff zaa zar zbd zaw zax addFl cellsOf pickC alive slLen slFt binI maxA maxK minA minK aeqK aeqS AV.cells spA zas fillA setAt bitsI nat_nn zbf AV.plain apart
set_option maxRecDepth 100000
set_option maxHeartbeats 4000000
theorem zyh (C:Cfg)(call:CallF)(c:Clm.Cl)(hK:KnoC call c)(hPl:Clm.Fine c→PilC call c)(hT:Clm.Fine c→TogC call c)(H:List AB):
  Does (ev C call H.length none af14.body { tm:=tmA af14.ntmps (zipI 0 [.agg (clampCs c)] []),df:=[],hp:=H,tc:=[] })
   (Ends C H.length af14.res fun v _ tc=>v=spanR c true (Clm.together c (fullP c))∧tc=[]):=by
 have g1:¬ (H.length+1<H.length):=by omega
 unfold spanR
 by_cases he:errOf c true=0
 ·obtain ⟨_,hc,hcan⟩:=Clm.err_zero he
  rw[he,if_pos rfl,← Clm.tog_ref hc hcan]
  obtain ⟨v,G0,hcall,l1,kp,hV⟩:=hK.yes he (H++[.cells (clampCs c),.cells [.int .i64 0,.int .i64 0]])
  have k0:=kp H.length (.cells (clampCs c)) (hb (by rw[List.getElem?_append_right (by omega),Nat.sub_self];rfl))
  have k1:=kp (H.length+1) (.cells [.int .i64 0,.int .i64 0]) (hb (by rw[List.getElem?_append_right (by omega),Nat.add_sub_cancel_left];rfl))
  have hne:Clm.casesR c (Clm.every c)≠[]:=by
   have:=Clm.cases_can hc (Clm.every c)
   rw[hcan] at this
   intro e
   rw[e] at this;cases this
  have hfp:fullP c≤1000000:=by
   have:=hc.piles.2
   have:2 ^ c.piles.length≤2 ^ 4:=Nat.pow_le_pow_right (by decide) this
   unfold fullP;omega
  have ht:=hT hc G0 v (fullP c) (hV.keep (fun q _ _=>trivial) fun q x _ h=>h) hne hfp
  have hpl:=fun H=>hPl hc H
  have hgH:H.length≤G0.length:=by simp only[List.length_append,List.length_cons,List.length_nil] at l1;omega
  obtain ⟨A1,A2,A3⟩:=k0
  obtain ⟨B1,B2,B3⟩:=k1
  have nb:H.length+1≠H.length:=by omega
  generalize Clm.hullR (Clm.togL c (fullP c))=s at *
  generalize fullP c=fp at *
  clear hK hPl hT hV hne kp l1 hc hcan he hfp
  unfold af14
  simp only[zipI,clampCs] at *
  (repeat (first|((with_reducible apply zad);(focus ((with_reducible apply zap);(focus rfl);(focus rfl);(focus ((conv=>lhs;simp[*,List.getElem?_append_right,List.set_append_right,List.getElem?_cons_zero,List.getElem?_append_left,List.set_append_left,-getElem?_pos,↓zay,Nat.testBit_eq_decide_div_mod_eq])<;>exact rfl));(focus rfl);(focus rfl)));simp only[addFl])|(with_reducible apply zad;(focus ((conv=>lhs;simp[*,List.getElem?_append_right,List.set_append_right,List.getElem?_cons_zero,List.getElem?_append_left,List.set_append_left,-getElem?_pos,↓zay,Nat.testBit_eq_decide_div_mod_eq])<;>exact rfl));simp only[addFl])|((with_reducible first|apply zaj|apply zal|apply zah|apply zaf|apply zac|apply zak|apply zag|apply zam|(apply zae;· simp[*,zaa])|(apply zab;· simp[*,zaa]));try simp only[Then,Ops])|simp only[Nat.reduceEqDiff,reduceIte,OutB,Then]))
  exact zan (v:=.tup [.agg [.int .i64 s.lo,.int .i64 s.hi],.int .i64 0]) (.inl rfl) rfl (by simp only[List.length_set];exact hgH) (by simp only[resL,resOf,zai];simp[*,pickC,resV]) ⟨rfl,rfl⟩
 ·rw[if_neg he]
  have hk:=hK.no _ he
  have he':(errOf c true==0)=false:=beq_false_of_ne he
  generalize errOf c true=e at *
  clear hK hPl hT
  unfold af14
  simp only[zipI,clampCs] at *
  (repeat (first|((with_reducible apply zad);(focus ((with_reducible apply zap);(focus rfl);(focus rfl);(focus ((conv=>lhs;simp[*,List.getElem?_append_right,List.set_append_right,List.getElem?_cons_zero,List.getElem?_append_left,List.set_append_left,-getElem?_pos,↓zay,Nat.testBit_eq_decide_div_mod_eq])<;>exact rfl));(focus rfl);(focus rfl)));simp only[addFl])|(with_reducible apply zad;(focus ((conv=>lhs;simp[*,List.getElem?_append_right,List.set_append_right,List.getElem?_cons_zero,List.getElem?_append_left,List.set_append_left,-getElem?_pos,↓zay,Nat.testBit_eq_decide_div_mod_eq])<;>exact rfl));simp only[addFl])|((with_reducible first|apply zaj|apply zal|apply zah|apply zaf|apply zac|apply zak|apply zag|apply zam|(apply zae;· simp[*,zaa])|(apply zab;· simp[*,zaa]));try simp only[Then,Ops])|simp only[Nat.reduceEqDiff,reduceIte,OutB,Then]))
  exact zan (v:=.tup [.agg [.int .i64 0,.int .i64 0],.int .i64 e]) (.inl rfl) rfl (by simp) (by simp only[resL,resOf,zai];simp[*,pickC,resV]) ⟨rfl,rfl⟩
def SodC (call:CallF):Prop:=∀ (H:List AB) (n:Int),call (.fn (.func 55) [] []) [.int .i64 n] H=some (.ret (.bool (isS n)),H,[])
theorem zuq (C:Cfg)(call:CallF)(hI:RinC call)(H:List AB)(n:Int):
  Does (ev C call H.length none af55.body { tm:=tmA af55.ntmps (zipI 0 [.int .i64 n] []),df:=[],hp:=H,tc:=[] })
   (Ends C H.length af55.res fun v _ tc=>v=.bool (isS n)∧tc=[]):=by
 have hi:=fun H=>hI H n 0 20000
 unfold isS
 generalize decide (0≤n∧n≤20000)=b at *
 clear hI
 unfold af55
 simp only[zipI] at *
 (repeat (first|((with_reducible apply zad);(focus ((with_reducible apply zap);(focus rfl);(focus rfl);(focus ((conv=>lhs;simp[*,List.getElem?_append_right,List.set_append_right,List.getElem?_cons_zero,List.getElem?_append_left,List.set_append_left,-getElem?_pos,Nat.testBit_eq_decide_div_mod_eq])<;>exact rfl));(focus rfl);(focus rfl)));simp only[addFl])|(with_reducible apply zad;(focus ((conv=>lhs;simp[*,List.getElem?_append_right,List.set_append_right,List.getElem?_cons_zero,List.getElem?_append_left,List.set_append_left,-getElem?_pos,Nat.testBit_eq_decide_div_mod_eq])<;>exact rfl));simp only[addFl])|((with_reducible first|apply zaj|apply zal|apply zah|apply zaf|apply zac|apply zak|apply zag|apply zam|(apply zae;· simp[*,zaa])|(apply zab;· simp[*,zaa]));try simp only[Then,Ops])|simp only[Nat.reduceEqDiff,reduceIte,OutB,Then]))
 exact zan (v:=.bool b) (.inl rfl) rfl (by simp) (by simp only[resL,resOf,zai];simp[*,resV]) ⟨rfl,rfl⟩
theorem znw (C:Cfg)(call:CallF)(c:Clm.Cl)(hP:RpileC call c)(hSo:SodC call)(hW:PowC call)(hK:KnoC call c)(hT:Clm.Fine c→TogC call c)(H:List AB)(nr sods:Int):
  Does (ev C call H.length none af16.body { tm:=tmA af16.ntmps (zipI 0 [.agg (clampCs c),.int .i64 nr,.int .i64 sods] []),df:=[],hp:=H,tc:=[] })
   (Ends C H.length af16.res fun v _ tc=>v=numR c (isP c nr&&isS sods) (enoughN (Clm.together c (2 ^ nr.toNat)) sods)∧tc=[]):=by
 have hp:=fun H=>hP H nr
 have hs:=fun H=>hSo H sods
 unfold numR
 by_cases he:errOf c (isP c nr&&isS sods)=0
 ·obtain ⟨hb,hc,hcan⟩:=Clm.err_zero he
  rw[he,if_pos rfl]
  rw[hb] at he
  obtain ⟨hb1,hb2⟩:=Bool.and_eq_true_iff.1 hb
  rw[hb1] at hp
  rw[hb2] at hs
  have hnr:=of_decide_eq_true hb1
  obtain ⟨i,rfl⟩:∃ i:Nat,nr=i:=⟨nr.toNat,by omega⟩
  have hi:i<c.piles.length:=by omega
  rw[show ((i:Int)).toNat=i from Int.toNat_natCast i,← Clm.tog_ref hc hcan]
  obtain ⟨v,G0,hcall,l1,kp,hV⟩:=hK.yes he (H++[.cells (clampCs c)])
  have k0:=kp H.length (.cells (clampCs c)) (Ev.K.hb (by rw[List.getElem?_append_right (by omega),Nat.sub_self];rfl))
  have hne:Clm.casesR c (Clm.every c)≠[]:=by
   have:=Clm.cases_can hc (Clm.every c)
   rw[hcan] at this
   intro e
   rw[e] at this;cases this
  have hp4:=hc.piles.2
  have h2i:2 ^ i≤1000000:=by
   have:2 ^ i≤2 ^ 4:=Nat.pow_le_pow_right (by decide) (by omega)
   omega
  have ht:=fun K=>hT hc (G0++K) v (2 ^ i) (hV.keep (fun q _ _=>trivial) fun q x _ h=>h.app K) hne h2i
  have hw:=fun H=>hW H i (by omega)
  have hgH:H.length≤G0.length:=by simp only[List.length_append,List.length_cons,List.length_nil] at l1;omega
  obtain ⟨A1,A2,A3⟩:=k0
  have gG:∀ n,¬ (G0.length+n<H.length):=fun n=>by omega
  have gG0:¬ (G0.length<H.length):=by omega
  generalize Clm.hullR (Clm.togL c (2 ^ i))=s at *
  generalize ((2 ^ i:Nat):Int)=pw at *
  clear hK hP hSo hT hV hne kp l1 hc hcan he h2i hW hb hb1 hb2 hnr hp4 hi
  unfold enoughN
  by_cases g2:s.lo≥sods
  ·rw[if_pos g2]
   unfold af16
   simp only[zipI,clampCs] at *
   (repeat (first|((with_reducible apply zad);(focus ((with_reducible apply zap);(focus rfl);(focus rfl);(focus ((conv=>lhs;simp[*,List.getElem?_append_right,List.set_append_right,List.getElem?_cons_zero,List.getElem?_append_left,List.set_append_left,-getElem?_pos,↓zay,Nat.testBit_eq_decide_div_mod_eq])<;>exact rfl));(focus rfl);(focus rfl)));simp only[addFl])|(with_reducible apply zad;(focus ((conv=>lhs;simp[*,List.getElem?_append_right,List.set_append_right,List.getElem?_cons_zero,List.getElem?_append_left,List.set_append_left,-getElem?_pos,↓zay,Nat.testBit_eq_decide_div_mod_eq])<;>exact rfl));simp only[addFl])|((with_reducible first|apply zaj|apply zal|apply zah|apply zaf|apply zac|apply zak|apply zag|apply zam|(apply zae;· simp[*,zaa])|(apply zab;· simp[*,zaa]));try simp only[Then,Ops])|simp only[Nat.reduceEqDiff,reduceIte,OutB,Then]))
   exact zan (v:=.tup [.int .i64 2,.int .i64 0]) (.inl rfl) rfl (by simp only[List.length_append];omega) (by simp only[resL,resOf,zai];simp[*,resV]) ⟨rfl,rfl⟩
  ·rw[if_neg g2]
   by_cases g3:s.hi<sods
   ·rw[if_pos g3]
    unfold af16
    simp only[zipI,clampCs] at *
    (repeat (first|((with_reducible apply zad);(focus ((with_reducible apply zap);(focus rfl);(focus rfl);(focus ((conv=>lhs;simp[*,List.getElem?_append_right,List.set_append_right,List.getElem?_cons_zero,List.getElem?_append_left,List.set_append_left,-getElem?_pos,↓zay,Nat.testBit_eq_decide_div_mod_eq])<;>exact rfl));(focus rfl);(focus rfl)));simp only[addFl])|(with_reducible apply zad;(focus ((conv=>lhs;simp[*,List.getElem?_append_right,List.set_append_right,List.getElem?_cons_zero,List.getElem?_append_left,List.set_append_left,-getElem?_pos,↓zay,Nat.testBit_eq_decide_div_mod_eq])<;>exact rfl));simp only[addFl])|((with_reducible first|apply zaj|apply zal|apply zah|apply zaf|apply zac|apply zak|apply zag|apply zam|(apply zae;· simp[*,zaa])|(apply zab;· simp[*,zaa]));try simp only[Then,Ops])|simp only[Nat.reduceEqDiff,reduceIte,OutB,Then]))
    exact zan (v:=.tup [.int .i64 0,.int .i64 0]) (.inl rfl) rfl (by simp only[List.length_append];omega) (by simp only[resL,resOf,zai];simp[*,resV]) ⟨rfl,rfl⟩
   ·rw[if_neg g3]
    unfold af16
    simp only[zipI,clampCs] at *
    (repeat (first|((with_reducible apply zad);(focus ((with_reducible apply zap);(focus rfl);(focus rfl);(focus ((conv=>lhs;simp[*,List.getElem?_append_right,List.set_append_right,List.getElem?_cons_zero,List.getElem?_append_left,List.set_append_left,-getElem?_pos,↓zay,Nat.testBit_eq_decide_div_mod_eq])<;>exact rfl));(focus rfl);(focus rfl)));simp only[addFl])|(with_reducible apply zad;(focus ((conv=>lhs;simp[*,List.getElem?_append_right,List.set_append_right,List.getElem?_cons_zero,List.getElem?_append_left,List.set_append_left,-getElem?_pos,↓zay,Nat.testBit_eq_decide_div_mod_eq])<;>exact rfl));simp only[addFl])|((with_reducible first|apply zaj|apply zal|apply zah|apply zaf|apply zac|apply zak|apply zag|apply zam|(apply zae;· simp[*,zaa])|(apply zab;· simp[*,zaa]));try simp only[Then,Ops])|simp only[Nat.reduceEqDiff,reduceIte,OutB,Then]))
    exact zan (v:=.tup [.int .i64 1,.int .i64 0]) (.inl rfl) rfl (by simp only[List.length_append];omega) (by simp only[resL,resOf,zai];simp[*,resV]) ⟨rfl,rfl⟩
 ·rw[if_neg he]
  have hk:=hK.no _ he
  have he':(errOf c (isP c nr&&isS sods)==0)=false:=beq_false_of_ne he
  generalize errOf c (isP c nr&&isS sods)=e at *
  clear hK hP hT hSo hW
  generalize isP c nr=b at *
  generalize isS sods=b2 at *
  cases b
  all_goals
   simp only[Bool.false_and,Bool.true_and] at hk
   unfold af16
   simp only[zipI,clampCs] at *
   (repeat (first|((with_reducible apply zad);(focus ((with_reducible apply zap);(focus rfl);(focus rfl);(focus ((conv=>lhs;simp[*,List.getElem?_append_right,List.set_append_right,List.getElem?_cons_zero,List.getElem?_append_left,List.set_append_left,-getElem?_pos,↓zay,Nat.testBit_eq_decide_div_mod_eq])<;>exact rfl));(focus rfl);(focus rfl)));simp only[addFl])|(with_reducible apply zad;(focus ((conv=>lhs;simp[*,List.getElem?_append_right,List.set_append_right,List.getElem?_cons_zero,List.getElem?_append_left,List.set_append_left,-getElem?_pos,↓zay,Nat.testBit_eq_decide_div_mod_eq])<;>exact rfl));simp only[addFl])|((with_reducible first|apply zaj|apply zal|apply zah|apply zaf|apply zac|apply zak|apply zag|apply zam|(apply zae;· simp[*,zaa])|(apply zab;· simp[*,zaa]));try simp only[Then,Ops])|simp only[Nat.reduceEqDiff,reduceIte,OutB,Then]))
   exact zan (v:=.tup [.int .i64 0,.int .i64 e]) (.inl rfl) rfl (by simp) (by simp only[resL,resOf,zai];simp[*,resV]) ⟨rfl,rfl⟩
def HvyC (call:CallF)(c:Clm.Cl)(k:Int):Prop:=∃ b:Bool,(b=false→max c.piles.length c.events.length≤40)∧∀ H,call (.fn (.func 5) [] []) [.agg (clampCs c),.int .i64 k] H=some (.ret (.bool b),H,[])
def cntS (l:List Clm.Evt)(j:Nat):Nat:=((l.take j).filter fun v=>v.kind==0).length
theorem zxc {l:List Clm.Evt}{j:Nat}{v:Clm.Evt}(h:l[j]?=some v):cntS l (j+1)=if v.kind=0 then cntS l j+1 else cntS l j:=by
 unfold cntS
 rw[List.take_add_one,h,List.filter_append,List.length_append]
 by_cases hv:v.kind=0
 ·simp[hv]
 ·simp[hv]
def hvSt (H:List AB)(c:Clm.Cl)(k:Int)(n j:Nat)(K:List AB):St:={ tm:=tmA 33 [(20,.int .i64 j),(19,.int .i64 c.events.length),(18,.vs 4 (c.events.map evtE)),(5,.int .i64 n),(1,.int .i64 k)],df:=[],hp:=H++.cells (clampCs c)::K,tc:=[] }
theorem zwi (C:Cfg)(hC:C.calm=true)(call:CallF)(c:Clm.Cl)(k:Int)(hl:∀ H,call (.fn (.func 23) [] []) [.agg (clampCs c)] H=some (.ret (.bool (decide (max c.piles.length c.events.length > 40))),H,[]))(hv:max c.piles.length c.events.length≤40→∀ H,call (.fn (.func 24) [] []) [.agg (clampCs c)] H=some (.ret (.bool (Clm.valid c)),H,[]))(H:List AB):
  Does (ev C call H.length none af5.body { tm:=tmA af5.ntmps (zipI 0 [.agg (clampCs c),.int .i64 k] []),df:=[],hp:=H,tc:=[] })
   (Ends C H.length af5.res fun v _ tc=>v=.bool (if max c.piles.length c.events.length > 40 then true else if Clm.valid c then decide (k<(cntS c.events c.events.length:Nat)) else false)∧tc=[]):=by
 by_cases hlen:max c.piles.length c.events.length > 40
 ·rw[decide_eq_true hlen] at hl
  rw[if_pos hlen]
  clear hv hlen
  unfold af5
  simp only[zipI,clampCs] at *
  (repeat (first|((with_reducible apply zad);(focus ((with_reducible apply zap);(focus rfl);(focus rfl);(focus ((conv=>lhs;simp[*,List.getElem?_append_right,List.set_append_right,List.getElem?_cons_zero,List.getElem?_append_left,List.set_append_left,-getElem?_pos,Nat.testBit_eq_decide_div_mod_eq])<;>exact rfl));(focus rfl);(focus rfl)));simp only[addFl])|(with_reducible apply zad;(focus ((conv=>lhs;simp[*,List.getElem?_append_right,List.set_append_right,List.getElem?_cons_zero,List.getElem?_append_left,List.set_append_left,-getElem?_pos,Nat.testBit_eq_decide_div_mod_eq])<;>exact rfl));simp only[addFl])|((with_reducible first|apply zaj|apply zal|apply zah|apply zaf|apply zac|apply zak|apply zag|apply zam|(apply zae;· simp[*,zaa])|(apply zab;· simp[*,zaa]));try simp only[Then,Ops])|simp only[Nat.reduceEqDiff,reduceIte,OutB,Then]))
  exact zan (v:=.bool true) (.inl rfl) rfl (by simp) (by simp only[resL,resOf,zai];simp[*,resV]) ⟨rfl,rfl⟩
 rw[decide_eq_false hlen] at hl
 rw[if_neg hlen]
 replace hv:=hv (by omega)
 cases hval:Clm.valid c with
 |false=>
  rw[hval] at hv
  clear hlen hval
  unfold af5
  simp only[zipI,clampCs] at *
  (repeat (first|((with_reducible apply zad);(focus ((with_reducible apply zap);(focus rfl);(focus rfl);(focus ((conv=>lhs;simp[*,List.getElem?_append_right,List.set_append_right,List.getElem?_cons_zero,List.getElem?_append_left,List.set_append_left,-getElem?_pos,Nat.testBit_eq_decide_div_mod_eq])<;>exact rfl));(focus rfl);(focus rfl)));simp only[addFl])|(with_reducible apply zad;(focus ((conv=>lhs;simp[*,List.getElem?_append_right,List.set_append_right,List.getElem?_cons_zero,List.getElem?_append_left,List.set_append_left,-getElem?_pos,Nat.testBit_eq_decide_div_mod_eq])<;>exact rfl));simp only[addFl])|((with_reducible first|apply zaj|apply zal|apply zah|apply zaf|apply zac|apply zak|apply zag|apply zam|(apply zae;· simp[*,zaa])|(apply zab;· simp[*,zaa]));try simp only[Then,Ops])|simp only[Nat.reduceEqDiff,reduceIte,OutB,Then]))
  exact zan (v:=.bool false) (.inl rfl) rfl (by simp) (by simp only[resL,resOf,zai];simp[*,resV]) ⟨rfl,rfl⟩
 |true=>
 rw[hval] at hv
 rw[if_pos rfl]
 have he6:=((Clm.valid_iff c).1 hval).events
 clear hlen hval
 unfold af5
 simp only[zipI,clampCs] at *
 (repeat (first|((with_reducible apply zad);(focus ((with_reducible apply zap);(focus rfl);(focus rfl);(focus ((conv=>lhs;simp[*,List.getElem?_append_right,List.set_append_right,List.getElem?_cons_zero,List.getElem?_append_left,List.set_append_left,-getElem?_pos,Nat.testBit_eq_decide_div_mod_eq])<;>exact rfl));(focus rfl);(focus rfl)));simp only[addFl])|(with_reducible apply zad;(focus ((conv=>lhs;simp[*,List.getElem?_append_right,List.set_append_right,List.getElem?_cons_zero,List.getElem?_append_left,List.set_append_left,-getElem?_pos,Nat.testBit_eq_decide_div_mod_eq])<;>exact rfl));simp only[addFl])|((with_reducible first|apply zaj|apply zal|apply zah|apply zaf|apply zac|apply zak|apply zag|apply zam|(apply zae;· simp[*,zaa])|(apply zab;· simp[*,zaa]));try simp only[Then,Ops])|simp only[Nat.reduceEqDiff,reduceIte,OutB,Then]))
 clear hl hv
 with_reducible refine zba hC c.events.length (by unfold fuelL;omega) (fun j st=>∃ K,st=hvSt H c k (cntS c.events j) j K) ?_ ?_ ?_
 ·refine ⟨[],?_⟩
  unfold hvSt
  rw[show cntS c.events 0=0 from rfl]
  simp only[clampCs]
  (refine st_is ?_ ?_ ?_ ?_;(focus (simp[zao,zaq]));(focus rfl);(focus (first|rfl|(simp;done)|(simp[*];done)|(simp;rfl)|(simp[*];omega)|(simp;omega)));(focus (first|rfl|simp)))
 ·rintro j st hj ⟨K,rfl⟩
  have hgv:c.events[j]?=some c.events[j]:=List.getElem?_eq_getElem hj
  rw[zxc hgv]
  have hcn:cntS c.events j≤j:=by unfold cntS;exact Nat.le_trans (List.length_filter_le _ _) (by rw[List.length_take];omega)
  generalize c.events[j]=v at *
  generalize cntS c.events j=n at *
  have hgv':=ge_of hgv
  have e5:(j:Int)<c.events.length:=by omega
  have hw:IntKind.i64.wrap (↑j+1)=↑j+1:=zat (by omega) (by omega)
  have hw2:IntKind.i64.wrap (↑n+1)=↑n+1:=zat (by omega) (by omega)
  clear he6 hcn
  by_cases hk:v.kind=0
  ·rw[if_pos hk]
   unfold hvSt
   simp only[clampCs] at *
   (repeat (first|((with_reducible apply zad);(focus ((with_reducible apply zap);(focus rfl);(focus rfl);(focus ((conv=>lhs;simp[*,List.getElem?_append_right,List.set_append_right,List.getElem?_cons_zero,List.getElem?_append_left,List.set_append_left,-getElem?_pos,evtE,Nat.testBit_eq_decide_div_mod_eq])<;>exact rfl));(focus rfl);(focus rfl)));simp only[addFl])|(with_reducible apply zad;(focus ((conv=>lhs;simp[*,List.getElem?_append_right,List.set_append_right,List.getElem?_cons_zero,List.getElem?_append_left,List.set_append_left,-getElem?_pos,evtE,Nat.testBit_eq_decide_div_mod_eq])<;>exact rfl));simp only[addFl])|((with_reducible first|apply zaj|apply zal|apply zah|apply zaf|apply zac|apply zak|apply zag|apply zam|(apply zae;· simp[*,zaa])|(apply zab;· simp[*,zaa]));try simp only[Then,Ops,OutB])|simp only[Nat.reduceEqDiff,reduceIte,OutB,Then]))
   refine ⟨K++[.cells [.int .i64 0,.int .i64 v.clamp,.int .i64 v.sods.lo,.int .i64 v.sods.hi]],?_⟩
   (refine st_is ?_ ?_ ?_ ?_;(focus (simp[zao,zaq]));(focus rfl);(focus (first|rfl|(simp;done)|(simp[*];done)|(simp;rfl)|(simp[*];omega)|(simp;omega)));(focus (first|rfl|simp)))
  ·rw[if_neg hk]
   have hk':(v.kind==0)=false:=beq_false_of_ne hk
   unfold hvSt
   simp only[clampCs] at *
   (repeat (first|((with_reducible apply zad);(focus ((with_reducible apply zap);(focus rfl);(focus rfl);(focus ((conv=>lhs;simp[*,List.getElem?_append_right,List.set_append_right,List.getElem?_cons_zero,List.getElem?_append_left,List.set_append_left,-getElem?_pos,evtE,Nat.testBit_eq_decide_div_mod_eq])<;>exact rfl));(focus rfl);(focus rfl)));simp only[addFl])|(with_reducible apply zad;(focus ((conv=>lhs;simp[*,List.getElem?_append_right,List.set_append_right,List.getElem?_cons_zero,List.getElem?_append_left,List.set_append_left,-getElem?_pos,evtE,Nat.testBit_eq_decide_div_mod_eq])<;>exact rfl));simp only[addFl])|((with_reducible first|apply zaj|apply zal|apply zah|apply zaf|apply zac|apply zak|apply zag|apply zam|(apply zae;· simp[*,zaa])|(apply zab;· simp[*,zaa]));try simp only[Then,Ops,OutB])|simp only[Nat.reduceEqDiff,reduceIte,OutB,Then]))
   refine ⟨K++[.cells [.int .i64 v.kind,.int .i64 v.clamp,.int .i64 v.sods.lo,.int .i64 v.sods.hi]],?_⟩
   (refine st_is ?_ ?_ ?_ ?_;(focus (simp[zao,zaq]));(focus rfl);(focus (first|rfl|(simp;done)|(simp[*];done)|(simp;rfl)|(simp[*];omega)|(simp;omega)));(focus (first|rfl|simp)))
 ·rintro st ⟨K,rfl⟩
  clear he6
  generalize cntS c.events c.events.length=n at *
  unfold hvSt
  (repeat (first|((with_reducible apply zad);(focus ((with_reducible apply zap);(focus rfl);(focus rfl);(focus ((conv=>lhs;simp[*,List.getElem?_append_right,List.set_append_right,List.getElem?_cons_zero,List.getElem?_append_left,List.set_append_left,-getElem?_pos,Nat.testBit_eq_decide_div_mod_eq])<;>exact rfl));(focus rfl);(focus rfl)));simp only[addFl])|(with_reducible apply zad;(focus ((conv=>lhs;simp[*,List.getElem?_append_right,List.set_append_right,List.getElem?_cons_zero,List.getElem?_append_left,List.set_append_left,-getElem?_pos,Nat.testBit_eq_decide_div_mod_eq])<;>exact rfl));simp only[addFl])|((with_reducible first|apply zaj|apply zal|apply zah|apply zaf|apply zac|apply zak|apply zag|apply zam|(apply zae;· simp[*,zaa])|(apply zab;· simp[*,zaa]));try simp only[Then,Ops,OutB,reduceIte])|simp only[Nat.reduceEqDiff,reduceIte,OutB,Then]))
  exact zan (v:=.bool (decide (k<(n:Int)))) (.inl rfl) rfl (by simp) (by simp only[resL,resOf,zai];simp[*,resV]) ⟨rfl,rfl⟩
structure RApi (call:CallF) (c:Clm.Cl):Prop where
 built:∀ H n,call (.fn (.func 8) [] []) [.agg (clampCs c),.int .i64 n] H=some (.ret (spanR c (isP c n) (Clm.ofAll c n.toNat builtG)),H,[])
 has:∀ H n,call (.fn (.func 10) [] []) [.agg (clampCs c),.int .i64 n] H=some (.ret (spanR c (isP c n) (hasG c n)),H,[])
 sold:∀ H n,call (.fn (.func 12) [] []) [.agg (clampCs c),.int .i64 n] H=some (.ret (spanR c (isP c n) (Clm.ofAll c n.toNat (soldG c))),H,[])
 all:∀ H,call (.fn (.func 14) [] []) [.agg (clampCs c)] H=some (.ret (spanR c true (Clm.together c (fullP c))),H,[])
 enough:∀ H n s,call (.fn (.func 16) [] []) [.agg (clampCs c),.int .i64 n,.int .i64 s] H=some (.ret (numR c (isP c n&&isS s) (enoughN (Clm.together c (2 ^ n.toNat)) s)),H,[])
theorem zrl (C:Cfg)(call:CallF)(hA:LApi call)(c:Clm.Cl)(hH:HvyC call c 4)(hR:max c.piles.length c.events.length≤40→RApi call c)(nr sods:Int)(H:List AB):
  Does (ev C call H.length none af3.body { tm:=tmA af3.ntmps (zipI 0 [.agg (clampCs c),.int .i64 nr,.int .i64 sods] []),df:=[],hp:=H,tc:=[] })
   (Ends C H.length af3.res fun v _ _=>v=.bool true):=by
 have ha:=fun H=>hA.alive (H:=H)
 obtain ⟨b,hb,hh⟩:=hH
 cases b with
 |true=>
  clear hA hR hb
  unfold af3
  simp only[zipI,clampCs] at *
  (repeat (first|((with_reducible apply zad);(focus ((with_reducible apply zap);(focus rfl);(focus rfl);(focus ((conv=>lhs;simp[*,List.getElem?_append_right,List.set_append_right,List.getElem?_cons_zero,List.getElem?_append_left,List.set_append_left,-getElem?_pos,Nat.testBit_eq_decide_div_mod_eq])<;>exact rfl));(focus rfl);(focus rfl)));simp only[addFl])|(with_reducible apply zad;(focus ((conv=>lhs;simp[*,List.getElem?_append_right,List.set_append_right,List.getElem?_cons_zero,List.getElem?_append_left,List.set_append_left,-getElem?_pos,Nat.testBit_eq_decide_div_mod_eq])<;>exact rfl));simp only[addFl])|((with_reducible first|apply zaj|apply zal|apply zah|apply zaf|apply zac|apply zak|apply zag|apply zam|(apply zae;· simp[*,zaa])|(apply zab;· simp[*,zaa]));try simp only[Then,Ops])|simp only[Nat.reduceEqDiff,reduceIte,OutB,Then]))
  exact zan (v:=.bool true) (.inl rfl) rfl (by simp) (by simp only[resL,resOf,zai];simp[*,resV]) rfl
 |false=>
  have hlen:=hb rfl
  have hcl:=fun H=>zou H c (by omega) (by omega)
  obtain ⟨r1,r2,r3,r4,r5⟩:=hR hlen
  have q1:=fun H=>hA.built (hcl H) nr
  have q2:=fun H=>hA.has (hcl H) nr
  have q3:=fun H=>hA.sold (hcl H) nr
  have q4:=fun H=>hA.all (hcl H)
  have q5:=fun H=>hA.enough (hcl H) nr sods
  replace r1:=fun H=>r1 H nr
  replace r2:=fun H=>r2 H nr
  replace r3:=fun H=>r3 H nr
  replace r5:=fun H=>r5 H nr sods
  unfold spanR spA at q1 q2 q3 q4 r1 r2 r3 r4
  unfold numR at q5 r5
  generalize (if errOf c (isP c nr)=0 then Clm.ofAll c nr.toNat builtG else ⟨0,0⟩)=s1 at *
  generalize (if errOf c (isP c nr)=0 then hasG c nr else ⟨0,0⟩)=s2 at *
  generalize (if errOf c (isP c nr)=0 then Clm.ofAll c nr.toNat (soldG c) else ⟨0,0⟩)=s3 at *
  generalize (if errOf c true=0 then Clm.together c (fullP c) else ⟨0,0⟩)=s4 at *
  generalize (if errOf c (isP c nr&&isS sods)=0 then enoughN (Clm.together c (2 ^ nr.toNat)) sods else 0)=s5 at *
  generalize errOf c (isP c nr)=e1 at *
  generalize errOf c true=e2 at *
  generalize errOf c (isP c nr&&isS sods)=e3 at *
  clear hA hR hb hcl hlen
  unfold af3
  simp only[zipI,clampCs] at *
  (repeat (first|((with_reducible apply zad);(focus ((with_reducible apply zap);(focus rfl);(focus rfl);(focus ((conv=>lhs;simp[*,List.getElem?_append_right,List.set_append_right,List.getElem?_cons_zero,List.getElem?_append_left,List.set_append_left,-getElem?_pos,Nat.testBit_eq_decide_div_mod_eq])<;>exact rfl));(focus rfl);(focus rfl)));simp only[addFl])|(with_reducible apply zad;(focus ((conv=>lhs;simp[*,List.getElem?_append_right,List.set_append_right,List.getElem?_cons_zero,List.getElem?_append_left,List.set_append_left,-getElem?_pos,Nat.testBit_eq_decide_div_mod_eq])<;>exact rfl));simp only[addFl])|((with_reducible first|apply zaj|apply zal|apply zah|apply zaf|apply zac|apply zak|apply zag|apply zam|(apply zae;· simp[*,zaa])|(apply zab;· simp[*,zaa]));try simp only[Then,Ops])|simp only[Nat.reduceEqDiff,reduceIte,OutB,Then]))
  exact zan (v:=.bool true) (.inl rfl) rfl (by simp) (by simp only[resL,resOf,zai];simp[*,resV]) rfl
end K
end Ev
end Go.Proofs.YtimgnlellflciaaGreat

/- The reference of chapter 09, gone through: its levels. -/
namespace Go.Proofs.YtimgnlellflciaaGreat
open Go
namespace Ev
namespace K
set_option maxRecDepth 100000
set_option maxHeartbeats 4000000
structure KnowsZ (C:Cfg):Prop where
 calm:C.calm=true
 power:Has C 56 af56
 has:Has C 72 af72
 after:Has C 100 af100
 tracks:Has C 93 af93
 cases:Has C 73 af73
 hull:Has C 38 af38
 left:Has C 41 af41
 every:Has C 71 af71
 piles:Has C 50 af50
 Cases:Has C 70 af70
 check:Has C 69 af69
 known:Has C 36 af36
 tog:Has C 49 af49
 rin:Has C 74 af74
 pile:Has C 37 af37
 sods:Has C 55 af55
structure LvZ (C:Cfg) (c:Clm.Cl):Prop where
 pow:∀ m,1≤m→PowC (Ev.call C m)
 set:∀ m,2≤m→SetC (Ev.call C m)
 rin:∀ m,1≤m→RinC (Ev.call C m)
 pile:∀ m,2≤m→RpileC (Ev.call C m) c
 sods:∀ m,2≤m→SodC (Ev.call C m)
 hull:∀ m,1≤m→HulC (Ev.call C m)
 left:∀ m,2≤m→LefC (Ev.call C m)
 cas:Clm.Fine c→∀ m,11≤m→∀ set,set≤1000000→CasC (Ev.call C m) c set
 cases:Clm.Fine c→∀ m,12≤m→CasesC (Ev.call C m) c
 every:Clm.Fine c→∀ m,2≤m→EveC (Ev.call C m) c
 piles:Clm.Fine c→∀ m,2≤m→PilC (Ev.call C m) c
 check:∀ m,2≤m→ChkC (Ev.call C m) c
 known:∀ m,13≤m→KnoC (Ev.call C m) c
 tog:Clm.Fine c→∀ m,3≤m→TogC (Ev.call C m) c
theorem aft_lv {C:Cfg}(k:KnowsZ C){c:Clm.Cl}(hc:Clm.Fine c)(i set:Nat)(hset:set≤1000000)(hS:∀ m,2≤m→SetC (Ev.call C m))(hI:∀ m,1≤m→RinC (Ev.call C m)):∀ d n idx,idx≤c.events.length→c.events.length - idx≤d→AftC (Ev.call C (n+3+d)) c i set idx
 |0,n,idx,h1,h2=>zki (n0:=n+2) k.calm k.after fun H P b y T ov hP y0 yb b5 hov hbd=>znl C k.calm _ c hc i set idx hset h1 (fun h=>by omega) (hS _ (by omega)) (hI _ (by omega)) H P b y T ov hP y0 yb b5 hov hbd
 |d+1,n,idx,h1,h2=>zki (n0:=n+3+d) k.calm k.after fun H P b y T ov hP y0 yb b5 hov hbd=>znl C k.calm _ c hc i set idx hset h1 (fun h=>aft_lv k hc i set hset hS hI d n (idx+1) (by omega) (by omega)) (hS _ (by omega)) (hI _ (by omega)) H P b y T ov hP y0 yb b5 hov hbd
theorem lvz {C:Cfg}(k:KnowsZ C)(hL:∀ m,1≤m→LApi (Ev.call C m))(c:Clm.Cl)(hlen:max c.piles.length c.events.length≤40):LvZ C c:=by
 have pow:∀ m,1≤m→PowC (Ev.call C m):=fun m hm=>by
  obtain ⟨m,rfl⟩:=Nat.exists_eq_add_of_le' hm
  exact fun H n hn=>zav k.calm k.power (le' rfl) rfl (zuv C k.calm _ H n hn)
 have set:∀ m,2≤m→SetC (Ev.call C m):=fun m hm=>by
  obtain ⟨m,rfl⟩:=Nat.exists_eq_add_of_le' hm
  exact fun H s n hs hn=>zav k.calm k.has (le' rfl) rfl (zyd C _ (pow _ (by omega)) H s n hs hn)
 have rin:∀ m,1≤m→RinC (Ev.call C m):=fun m hm=>by
  obtain ⟨m,rfl⟩:=Nat.exists_eq_add_of_le' hm
  exact fun H n a b=>zav k.calm k.rin (le' rfl) rfl (zut C _ H n a b)
 have pile:∀ m,2≤m→RpileC (Ev.call C m) c:=fun m hm=>by
  obtain ⟨m,rfl⟩:=Nat.exists_eq_add_of_le' hm
  exact fun H n=>zav k.calm k.pile (le' rfl) rfl (zlw C _ (rin _ (by omega)) c (by omega) H n)
 have sods:∀ m,2≤m→SodC (Ev.call C m):=fun m hm=>by
  obtain ⟨m,rfl⟩:=Nat.exists_eq_add_of_le' hm
  exact fun H n=>zav k.calm k.sods (le' rfl) rfl (zuq C _ (rin _ (by omega)) H n)
 have hull:∀ m,1≤m→HulC (Ev.call C m):=fun m hm=>by
  obtain ⟨m,rfl⟩:=Nat.exists_eq_add_of_le' hm
  exact fun H q n l h1 h2 h3 h4=>zav k.calm k.hull (le' rfl) rfl (zzf C k.calm _ H q n l h1 h2 h3 h4)
 have left:∀ m,2≤m→LefC (Ev.call C m):=fun m hm=>by
  obtain ⟨m,rfl⟩:=Nat.exists_eq_add_of_le' hm
  exact fun H kk q vs n i q2 m T a1 a2 a3 a4 a5 a6 a7=>zav k.calm k.left (le' rfl) rfl (zus C k.calm _ (hull _ (by omega)) H kk q vs n i q2 m T a1 a2 a3 a4 a5 a6 a7)
 have trk:Clm.Fine c→∀ m,10≤m→∀ s,s≤1000000→TrkC (Ev.call C m) c s:=fun hc m hm s hs=>by
  obtain ⟨m,rfl⟩:=Nat.exists_eq_add_of_le' hm
  exact znp (n0:=m+9) k.calm k.tracks hc fun i=>aft_lv k hc i s hs set rin 6 m 0 (by omega) (by have:=hc.events;omega)
 have cas:Clm.Fine c→∀ m,11≤m→∀ s,s≤1000000→CasC (Ev.call C m) c s:=fun hc m hm s hs=>by
  obtain ⟨m,rfl⟩:=Nat.exists_eq_add_of_le' hm
  exact zti (n0:=m+10) k.calm k.cases hc (trk hc _ (by omega) s hs)
 have every:Clm.Fine c→∀ m,2≤m→EveC (Ev.call C m) c:=fun hc m hm=>by
  obtain ⟨m,rfl⟩:=Nat.exists_eq_add_of_le' hm
  exact fun H=>zav k.calm k.every (le' rfl) rfl (zrt C _ c hc (pow _ (by omega)) H)
 have piles:Clm.Fine c→∀ m,2≤m→PilC (Ev.call C m) c:=fun hc m hm=>by
  obtain ⟨m,rfl⟩:=Nat.exists_eq_add_of_le' hm
  exact fun H=>zav k.calm k.piles (le' rfl) rfl (zrq C _ c hc (pow _ (by omega)) H)
 have hev:Clm.Fine c→Clm.every c≤1000000:=fun hc=>by
  have:2 ^ c.events.length≤2 ^ 6:=Nat.pow_le_pow_right (by decide) hc.events
  unfold Clm.every;omega
 have cases:Clm.Fine c→∀ m,12≤m→CasesC (Ev.call C m) c:=fun hc m hm=>by
  obtain ⟨m,rfl⟩:=Nat.exists_eq_add_of_le' hm
  exact znx (n0:=m+11) k.calm k.Cases (every hc _ (by omega)) (cas hc _ (by omega) _ (hev hc))
 have check:∀ m,2≤m→ChkC (Ev.call C m) c:=fun m hm=>by
  obtain ⟨m,rfl⟩:=Nat.exists_eq_add_of_le' hm
  exact fun H b=>zav k.calm k.check (le' rfl) rfl (zrx C _ c (fun H=>(hL (m+1) (by omega)).valid (zou H c (by omega) (by omega))) H b)
 have known:∀ m,13≤m→KnoC (Ev.call C m) c:=fun m hm=>by
  obtain ⟨m,rfl⟩:=Nat.exists_eq_add_of_le' hm
  exact znv (n0:=m+12) k.calm k.known (check _ (by omega)) fun hc=>cases hc _ (by omega)
 have tog:Clm.Fine c→∀ m,3≤m→TogC (Ev.call C m) c:=fun hc m hm=>by
  obtain ⟨m,rfl⟩:=Nat.exists_eq_add_of_le' hm
  exact fun H v s h1 h2 h3=>zav k.calm k.tog (le' rfl) rfl (zya C k.calm _ c hc (set _ (by omega)) (hull _ (by omega)) (left _ (by omega)) H v s h1 h2 h3)
 exact ⟨pow,set,rin,pile,sods,hull,left,cas,cases,every,piles,check,known,tog⟩
theorem rapi {C:Cfg}(k:KnowsZ C){c:Clm.Cl}(l:LvZ C c)(kb:Has C 8 af8)(kh:Has C 10 af10)(ks:Has C 12 af12)(ka:Has C 14 af14)(ke:Has C 16 af16)(m:Nat):RApi (Ev.call C (m+14)) c where
 built H n:=zav k.calm kb (le' rfl) rfl (zrz C k.calm _ c (l.pile _ (by omega)) (l.known _ (by omega)) (l.hull _ (by omega)) H n)
 has H n:=zav k.calm kh (le' rfl) rfl (zrs C k.calm _ c (l.pile _ (by omega)) (l.known _ (by omega)) (l.hull _ (by omega)) (l.left _ (by omega)) H n)
 sold H n:=zav k.calm ks (le' rfl) rfl (zup C k.calm _ c (l.pile _ (by omega)) (l.known _ (by omega)) (l.hull _ (by omega)) H n)
 all H:=zav k.calm ka (le' rfl) rfl (zyh C _ c (l.known _ (by omega)) (fun hc=>l.piles hc _ (by omega)) (fun hc=>l.tog hc _ (by omega)) H)
 enough H n s:=zav k.calm ke (le' rfl) rfl (znw C _ c (l.pile _ (by omega)) (l.sods _ (by omega)) (l.pow _ (by omega)) (l.known _ (by omega)) (fun hc=>l.tog hc _ (by omega)) H n s)
theorem zsr {C:Cfg}(hC:C.calm=true)(kh:Has C 5 af5){n:Nat}(hA:LApi (Ev.call C n))(c:Clm.Cl)(k:Int):HvyC (Ev.call C (n+1)) c k:=by
 refine ⟨_,?_,fun H=>zav hC kh (le' rfl) rfl (zwi C hC _ c k (fun H=>hA.long c) (fun hl H=>hA.valid (zou H c (by omega) (by omega))) H)⟩
 intro h
 by_cases hlen:max c.piles.length c.events.length > 40
 ·rw[if_pos hlen] at h;cases h
 ·omega
end K
end Ev
end Go.Proofs.YtimgnlellflciaaGreat

/- The reference of chapter 09: what a law's configuration knows of it. -/
namespace Go.Proofs.YtimgnlellflciaaGreat
open Go Go.Proofs
namespace Ev
namespace K
theorem knowsZ {t:FT}(hz:∀ {f:Nat} {af:AFunc},(cfgL t).exth f=none→FT.find t f=some af→Has (cfgL t) f af)
  (h1:FT.find t 56=some af56) (h2:FT.find t 72=some af72) (h3:FT.find t 100=some af100) (h4:FT.find t 93=some af93) (h5:FT.find t 73=some af73) (h6:FT.find t 38=some af38) (h7:FT.find t 41=some af41) (h8:FT.find t 71=some af71) (h9:FT.find t 50=some af50)
  (h10:FT.find t 70=some af70) (h11:FT.find t 69=some af69) (h12:FT.find t 36=some af36) (h13:FT.find t 49=some af49) (h14:FT.find t 74=some af74) (h15:FT.find t 37=some af37) (h16:FT.find t 55=some af55):KnowsZ (cfgL t):=
 ⟨rfl,hz rfl h1,hz rfl h2,hz rfl h3,hz rfl h4,hz rfl h5,hz rfl h6,hz rfl h7,hz rfl h8,hz rfl h9,hz rfl h10,hz rfl h11,hz rfl h12,hz rfl h13,hz rfl h14,hz rfl h15,hz rfl h16⟩
theorem yay {t:FT}(la:∀ n,LApi (Ev.call (cfgL t) (n+1)))(m:Nat)(hm:1≤m):LApi (Ev.call (cfgL t) m):=by
 obtain ⟨m,rfl⟩:=Nat.exists_eq_add_of_le' hm
 exact la m
end K
end Ev
end Go.Proofs.YtimgnlellflciaaGreat

/- The code of the evaluator is that of the program (the reference, part 1). Printed by program. -/
namespace Go.Proofs.YtimgnlellflciaaGreat
open Go Go.Proofs
namespace Ev
set_option maxRecDepth 1000000
theorem is3 : ∃ F, Tryz.prog.funcs[3]? = some F ∧ (F.name == "runtime.NumGoroutine")=false∧compFn Tryz.prog F=some af3.strip:=⟨_,Tryz.func3,by kernel_rfl,by kernel_rfl⟩
theorem is5 : ∃ F, Tryz.prog.funcs[5]? = some F ∧ (F.name == "runtime.NumGoroutine")=false∧compFn Tryz.prog F=some af5.strip:=⟨_,Tryz.func5,by kernel_rfl,by kernel_rfl⟩
theorem is10 : ∃ F, Tryz.prog.funcs[10]? = some F ∧ (F.name == "runtime.NumGoroutine")=false∧compFn Tryz.prog F=some af10.strip:=⟨_,Tryz.func10,by kernel_rfl,by kernel_rfl⟩
theorem is36 : ∃ F, Tryz.prog.funcs[36]? = some F ∧ (F.name == "runtime.NumGoroutine")=false∧compFn Tryz.prog F=some af36.strip:=⟨_,Tryz.func36,by kernel_rfl,by kernel_rfl⟩
theorem is41 : ∃ F, Tryz.prog.funcs[41]? = some F ∧ (F.name == "runtime.NumGoroutine")=false∧compFn Tryz.prog F=some af41.strip:=⟨_,Tryz.func41,by kernel_rfl,by kernel_rfl⟩
theorem is50 : ∃ F, Tryz.prog.funcs[50]? = some F ∧ (F.name == "runtime.NumGoroutine")=false∧compFn Tryz.prog F=some af50.strip:=⟨_,Tryz.func50,by kernel_rfl,by kernel_rfl⟩
theorem is69 : ∃ F, Tryz.prog.funcs[69]? = some F ∧ (F.name == "runtime.NumGoroutine")=false∧compFn Tryz.prog F=some af69.strip:=⟨_,Tryz.func69,by kernel_rfl,by kernel_rfl⟩
theorem is70 : ∃ F, Tryz.prog.funcs[70]? = some F ∧ (F.name == "runtime.NumGoroutine")=false∧compFn Tryz.prog F=some af70.strip:=⟨_,Tryz.func70,by kernel_rfl,by kernel_rfl⟩
theorem is93 : ∃ F, Tryz.prog.funcs[93]? = some F ∧ (F.name == "runtime.NumGoroutine")=false∧compFn Tryz.prog F=some af93.strip:=⟨_,Tryz.func93,by kernel_rfl,by kernel_rfl⟩
end Ev
end Go.Proofs.YtimgnlellflciaaGreat

/- The code of the evaluator is that of the program (the reference, part 2). Printed by program. -/
namespace Go.Proofs.YtimgnlellflciaaGreat
open Go Go.Proofs
namespace Ev
set_option maxRecDepth 1000000
theorem is8 : ∃ F, Tryz.prog.funcs[8]? = some F ∧ (F.name == "runtime.NumGoroutine")=false∧compFn Tryz.prog F=some af8.strip:=⟨_,Tryz.func8,by kernel_rfl,by kernel_rfl⟩
theorem is12 : ∃ F, Tryz.prog.funcs[12]? = some F ∧ (F.name == "runtime.NumGoroutine")=false∧compFn Tryz.prog F=some af12.strip:=⟨_,Tryz.func12,by kernel_rfl,by kernel_rfl⟩
theorem is14 : ∃ F, Tryz.prog.funcs[14]? = some F ∧ (F.name == "runtime.NumGoroutine")=false∧compFn Tryz.prog F=some af14.strip:=⟨_,Tryz.func14,by kernel_rfl,by kernel_rfl⟩
theorem is16 : ∃ F, Tryz.prog.funcs[16]? = some F ∧ (F.name == "runtime.NumGoroutine")=false∧compFn Tryz.prog F=some af16.strip:=⟨_,Tryz.func16,by kernel_rfl,by kernel_rfl⟩
theorem is38 : ∃ F, Tryz.prog.funcs[38]? = some F ∧ (F.name == "runtime.NumGoroutine")=false∧compFn Tryz.prog F=some af38.strip:=⟨_,Tryz.func38,by kernel_rfl,by kernel_rfl⟩
theorem is49 : ∃ F, Tryz.prog.funcs[49]? = some F ∧ (F.name == "runtime.NumGoroutine")=false∧compFn Tryz.prog F=some af49.strip:=⟨_,Tryz.func49,by kernel_rfl,by kernel_rfl⟩
theorem is55 : ∃ F, Tryz.prog.funcs[55]? = some F ∧ (F.name == "runtime.NumGoroutine")=false∧compFn Tryz.prog F=some af55.strip:=⟨_,Tryz.func55,by kernel_rfl,by kernel_rfl⟩
theorem is56 : ∃ F, Tryz.prog.funcs[56]? = some F ∧ (F.name == "runtime.NumGoroutine")=false∧compFn Tryz.prog F=some af56.strip:=⟨_,Tryz.func56,by kernel_rfl,by kernel_rfl⟩
theorem is71 : ∃ F, Tryz.prog.funcs[71]? = some F ∧ (F.name == "runtime.NumGoroutine")=false∧compFn Tryz.prog F=some af71.strip:=⟨_,Tryz.func71,by kernel_rfl,by kernel_rfl⟩
theorem is72 : ∃ F, Tryz.prog.funcs[72]? = some F ∧ (F.name == "runtime.NumGoroutine")=false∧compFn Tryz.prog F=some af72.strip:=⟨_,Tryz.func72,by kernel_rfl,by kernel_rfl⟩
theorem is73 : ∃ F, Tryz.prog.funcs[73]? = some F ∧ (F.name == "runtime.NumGoroutine")=false∧compFn Tryz.prog F=some af73.strip:=⟨_,Tryz.func73,by kernel_rfl,by kernel_rfl⟩
theorem is100 : ∃ F, Tryz.prog.funcs[100]? = some F ∧ (F.name == "runtime.NumGoroutine")=false∧compFn Tryz.prog F=some af100.strip:=⟨_,Tryz.func100,by kernel_rfl,by kernel_rfl⟩
end Ev
end Go.Proofs.YtimgnlellflciaaGreat

/- The functions that the law ClampTells goes through itself. Printed by program. -/
namespace Go.Proofs.YtimgnlellflciaaGreat
open Go Go.Proofs
namespace Ev
def treeClampTells:FT:=(.node 41 af41 (.node 16 af16 (.node 10 af10 (.node 5 af5 (.node 3 af3 .leaf .leaf) (.node 8 af8 .leaf .leaf)) (.node 14 af14 (.node 12 af12 .leaf .leaf) .leaf)) (.node 36 af36 (.node 28 af28 (.node 23 af23 .leaf .leaf) .leaf) (.node 38 af38 (.node 37 af37 .leaf .leaf) .leaf))) (.node 71 af71 (.node 56 af56 (.node 50 af50 (.node 49 af49 .leaf .leaf) (.node 55 af55 .leaf .leaf)) (.node 70 af70 (.node 69 af69 .leaf .leaf) .leaf)) (.node 74 af74 (.node 73 af73 (.node 72 af72 .leaf .leaf) .leaf) (.node 100 af100 (.node 93 af93 .leaf .leaf) .leaf))))
theorem zgj : FT.All (fun k af => ∃ F, Tryz.prog.funcs[k]? = some F ∧ (F.name == "runtime.NumGoroutine")=false∧compFn Tryz.prog F=some af.strip) treeClampTells:=
 ⟨is41,⟨is16,⟨is10,⟨is5,⟨is3,trivial,trivial⟩,⟨is8,trivial,trivial⟩⟩,⟨is14,⟨is12,trivial,trivial⟩,trivial⟩⟩,⟨is36,⟨is28,⟨is23,trivial,trivial⟩,trivial⟩,⟨is38,⟨is37,trivial,trivial⟩,trivial⟩⟩⟩,⟨is71,⟨is56,⟨is50,⟨is49,trivial,trivial⟩,⟨is55,trivial,trivial⟩⟩,⟨is70,⟨is69,trivial,trivial⟩,trivial⟩⟩,⟨is74,⟨is73,⟨is72,trivial,trivial⟩,trivial⟩,⟨is100,⟨is93,trivial,trivial⟩,trivial⟩⟩⟩⟩
end Ev
end Go.Proofs.YtimgnlellflciaaGreat

/- The Go function ClampTells returns true, for every argument, in every world in which it is called; nothing that was there is turned. No condition. -/
namespace Go.Proofs.YtimgnlellflciaaGreat
open Go Go.Proofs Go.ChangeShapes Go.WideShapes Go.ChangeAt Go.RowKit
namespace Ev
namespace K
theorem lawClampTells (W:World)(c:Clm.Cl){v0:Value}(hv0:VR W (fun _=>False) nomu (.agg (clampCs c)) v0)(x1:Int)(_b1:(Lit.int .i64 x1).wf=true){v1:Value}(hv1:VR W (fun _=>False) nomu (.int .i64 x1) v1)(x2:Int)(_b2:(Lit.int .i64 x2).wf=true){v2:Value}(hv2:VR W (fun _=>False) nomu (.int .i64 x2) v2):CallsIn Fence.wide 0 Tryz.prog 3 #[v0,v1,v2] W fun e W'=>e=.returned (.bool true)∧Below W.heap.size W W':=by
 have hz:∀ {f:Nat} {af:AFunc},(cfgL treeClampTells).exth f=none→FT.find treeClampTells f=some af→Has (cfgL treeClampTells) f af:=fun h1 h2=>has_of rfl h1 h2 rfl
 have la:=fun n=>lapi (t:=treeClampTells) (hz rfl (by kernel_rfl)) (hz rfl (by kernel_rfl)) n
 have k:Has (cfgL treeClampTells) 3 af3:=hz rfl (by kernel_rfl)
 obtain ⟨v,hp,tc,H',h1,h2,_⟩:=zbo (C:=cfgL treeClampTells) (n:=15) (first:=[]) (captured:=[]) (args:=[.agg (clampCs c),.int .i64 x1,.int .i64 x2]) (H:=[]) (Q:=fun v _ _=>v=.bool true) rfl k.ext k.exth k.fns k.whole (le' rfl) (zrl (cfgL treeClampTells) _ (la 14) c (zsr rfl (hz rfl (by kernel_rfl)) (la 13) c 4) (fun hl=>rapi (knowsZ hz (by kernel_rfl) (by kernel_rfl) (by kernel_rfl) (by kernel_rfl) (by kernel_rfl) (by kernel_rfl) (by kernel_rfl) (by kernel_rfl) (by kernel_rfl) (by kernel_rfl) (by kernel_rfl) (by kernel_rfl) (by kernel_rfl) (by kernel_rfl) (by kernel_rfl) (by kernel_rfl)) (lvz (knowsZ hz (by kernel_rfl) (by kernel_rfl) (by kernel_rfl) (by kernel_rfl) (by kernel_rfl) (by kernel_rfl) (by kernel_rfl) (by kernel_rfl) (by kernel_rfl) (by kernel_rfl) (by kernel_rfl) (by kernel_rfl) (by kernel_rfl) (by kernel_rfl) (by kernel_rfl) (by kernel_rfl)) (yay la) c hl) (hz rfl (by kernel_rfl)) (hz rfl (by kernel_rfl)) (hz rfl (by kernel_rfl)) (hz rfl (by kernel_rfl)) (hz rfl (by kernel_rfl)) 1) x1 x2 [])
 subst h2
 refine (zlp (tblL zgj) h1 trivial (zdv _ _ _) (rargs:=#[v0,v1,v2]) ⟨rfl,fun i y r hy hr=>?_⟩).mono ?_
 ·match i,hy,hr with
  |0,hy,hr=>cases hy;cases hr;exact hv0
  |1,hy,hr=>cases hy;cases hr;exact hv1
  |2,hy,hr=>cases hy;cases hr;exact hv2
  |i+3,hy,hr=>simp at hy
 ·rintro e W' ⟨⟨w,rfl,hw⟩,bel⟩
  exact ⟨by rw[ybf hw W],bel⟩
end K
end Ev
set_option maxRecDepth 100000 in
theorem zhd (os:Os)(started:os.Started)(H:Type)(enc:TypeId × Value→H):
  ReturnsInHanded {} Tryz.checked os 3 .any (Rows.clampTellsSpec.pre6 enc Tryz.prog Tryz.f3 Rows.clampTellsRow.domain false) (Rows.clampTellsSpec.post enc Tryz.prog Tryz.f3 false true false false):=by
 refine returnsInHanded_of_change (C:=Tryz.checked) zob started (by kernel_rfl) Tryz.func3
  (ChangeSpec.witness6 (enc:=enc) (C:=Tryz.checked) false ⟨#[],#[noClamp,.int .i64 0,.int .i64 0],[]⟩ 8 (by kernel_rfl) (by kernel_rfl) (by kernel_rfl) (by kernel_rfl)) ?_
 intro W base args ds gs before hval0 hW hcnd _
 have hval:∀ (j:Nat) t v,Tryz.f3.params[j]?=some t→args[j]?=some v→Value.okWide Tryz.prog W .any base t v:=hval0
 have hW':=hW
 obtain ⟨p,q,hA0,hV,rfl,hfz,hnd⟩:=hW
 have hA:DataW.TrodAll enc Tryz.prog W 0 (fun _=>true) true Tryz.f3.params.toList args.toList ds p:=hA0
 rw[Tryz.params3] at hA hval
 obtain ⟨v0,vs0,d0,ds0,p0,q0,hargs0,rfl,rfl,h0,hA1⟩:=trodAll_cons hA
 obtain ⟨v1,vs1,d1,ds1,p1,q1,rfl,rfl,rfl,h1,hA2⟩:=trodAll_cons hA1
 obtain ⟨v2,vs2,d2,ds2,p2,q2,rfl,rfl,rfl,h2,hA3⟩:=trodAll_cons hA2
 obtain ⟨rfl,rfl,rfl⟩:=trodAll_nil hA3
 obtain rfl:args=#[v0,v1,v2]:=Array.ext' hargs0
 obtain ⟨rfl,rfl,rfl⟩:=trodVars_none hV
 clear hA0 hval0
 obtain ⟨c,hx0⟩:=zsf (hval 0 27 v0 rfl rfl) h0
 obtain ⟨x1,rfl,rfl,rfl,wf1⟩:=open_int Tryz.underlying3 (hval 1 3 v1 rfl rfl) h1
 obtain ⟨x2,rfl,rfl,rfl,wf2⟩:=open_int Tryz.underlying3 (hval 2 3 v2 rfl rfl) h2
 simp only[List.append_nil] at hW'
 have hlt:∀ x∈(p0++([]++([]++[]))),x.block<W.heap.size:=fun x hx=>by simpa using hW'.lt x (by simpa using hx)
 refine (callsIn_wide.1 (Ev.K.lawClampTells W c hx0 x1 wf1 .int x2 wf2 .int)).mono fun e W' ⟨he,bel⟩=>?_
 subst he
 refine ⟨_,rfl,_,_,_,[],(p0++([]++([]++[]))),[],by simpa using hW',?_,?_,?_,bel.frame _,fun h=>by cases h⟩
 ·exact trodAll_mk1 (shut_bool Tryz.underlying4 true)
 ·exact trodAll_cons_mk (Below.trod laidOut' (by kernel_rfl) (of_decide_eq_true (by kernel_rfl)) h0 bel (fun x hx=>hlt x (by simp[hx]))) (trodAll_cons_mk (shut_int Tryz.underlying3 wf1) (trodAll_cons_mk (shut_int Tryz.underlying3 wf2) (trodAll_mk0)))
 ·exact rfl
theorem clampTells_holds:Rows.ClampTellsSaid:=
 OpenClaim.holds_of_wide 3 Tryz.f3 rfl rfl rfl rfl rfl rfl rfl ⟨rfl,rfl,rfl,rfl,rfl⟩ rfl rfl rfl rfl rfl (by kernel_rfl) Tryz.func3 (by kernel_rfl)
  (of_decide_eq_true (by kernel_rfl)) (by unfold Func.isWrapper;first|(rw[if_pos (by decide +kernel)];kernel_rfl)|(rw[if_neg (by decide +kernel)];exact ⟨rfl,rfl⟩))
  (fun os started H enc _=>zhd os started H enc)
#print axioms clampTells_holds
end Go.Proofs.YtimgnlellflciaaGreat
