/- What was found by the evaluator with arguments that are only read, told of calls of the program. -/
import Derived.Test.YtimgnlellflciaaGreatCsPC
import Derived.Test.YtimgnlellflciaaGreatCsPB
import Derived.Test.YtimgnlellflciaaGreatCsPA
import Derived.Test.YtimgnlellflciaaGreatCsED
import Derived.KernelRfl
import Derived.Test.YtimgnlellflciaaGreatCsEA
import Derived.Test.YtimgnlellflciaaGreatProg
import Derived.Test.YtimgnlellflciaaGreatCsEC
import Derived.RecoverIn
import Derived.Below
import Derived.ProofKit
import Derived.WalkKit
import Derived.Test.YtimgnlellflciaaGreatCsEB
/- Package clamp, gone through: exported functions. -/
namespace Go.Proofs.YtimgnlellflciaaGreat
open Go
namespace Ev
namespace K
attribute [local simp] ev1 wantG spineK spine float xnew xval xeff zaa zar zbb zau zav addFl cellsOf pickC alive slLen slFt binI maxA maxK minA minK aeqK aeqS AV.cells spA zas fillA setAt bitsI nat_nn zbe AV.plain apart
set_option maxRecDepth 100000
set_option maxHeartbeats 4000000
theorem zcg {C:Cfg}{fn:AFunc}{Q:CRes→List AB→List Nat→Prop}{f t b:Nat}{e:Int}{x:AV}{st:St}{v:AV}(hk:C.dfk f=some (t,true))(hd:st.df=[.call f [.ptr b 0]])(hb:st.hp[b]?=some (.cells [x]))
    (hr:(resL { st with hp:=st.hp.set b (.cells [.int .i64 e]) } fn.res).map resV=some v) (hq:Q (.ret v) (st.hp.set b (.cells [.int .i64 e])) st.tc):Fin C 0 fn Q (.panic (.iface t (.agg [.int .i64 e]))) st:=by
  refine ⟨.ret v,{ st with hp:=st.hp.set b (.cells [.int .i64 e]) },?_,Nat.zero_le _,hq⟩
  show (match runDefs C 0 st.df (some (.iface t (.agg [.int .i64 e]))) st with
    |some (none,st)=>(resL st fn.res).map fun vs=>(CRes.ret (resV vs),st)
    |some (some v,st)=>some (.pan v,st)
    |none=>none)=_
  have:runDefs C 0 st.df (some (.iface t (.agg [.int .i64 e]))) st=some (none,{ st with hp:=st.hp.set b (.cells [.int .i64 e]) }):=by
    conv=>lhs;rw[hd]
    simp only[runDefs,hk,codeOf,hb]
    simp[setAt]
  rw[this]
  simp only
  cases h:resL { st with hp:=st.hp.set b (.cells [.int .i64 e]) } fn.res with
  |none=>rw[h] at hr;cases hr
  |some vs=>rw[h] at hr;cases hr;rfl
theorem zdj {C:Cfg}{pin:Nat}{fn:AFunc}{Q:CRes→List AB→List Nat→Prop}{f b:Nat}{k:Nat × Bool}{e:AExit}{st:St}{v:AV}(he:e=.ret∨e=.normal)(hk:C.dfk f=some k)(hd:st.df=[.call f [.ptr b 0]])(hl:pin≤st.hp.length)
    (hr:(resL st fn.res).map resV=some v) (hq:Q (.ret v) st.hp st.tc):Fin C pin fn Q e st:=by
  refine ⟨.ret v,st,?_,hl,hq⟩
  have h1:runDefs C pin st.df none st=some (none,st):=by
    conv=>lhs;rw[hd]
    simp only[runDefs,hk]
  have : (match runDefs C pin st.df none st with
    |some (none,st)=>(resL st fn.res).map fun vs=>(CRes.ret (resV vs),st)
    |_=>none)=some (.ret v,st):=by
    rw[h1]
    simp only
    cases hr':resL st fn.res with
    |none=>rw[hr'] at hr;cases hr
    |some vs=>rw[hr'] at hr;cases hr;rfl
  rcases he with rfl|rfl<;>exact this
def Ans (v:AV)(x:CRes)(_:List AB)(tc:List Nat):Prop:=x=.ret v∧tc=[]
def isP (c:Clm.Cl)(n:Int):Bool:=decide (0≤n∧n<c.piles.length)
def spanR (c:Clm.Cl)(is:Bool)(s:Clm.Sp):AV:=.tup [spA (if errOf c is=0 then s else ⟨0,0⟩),.int .i64 (errOf c is)]
def OfCall (C:Cfg)(n:Nat)(c:Clm.Cl):Prop:=∀ (H:List AB) (yb mb:Nat),Yd c yb mb H→∀ i,i<c.piles.length→∀ (fl:Fn) (fa fb:List AV) (g:Int→Clm.Way→Clm.Sp),(∀ k∈Clm.packs c (Clm.every c),WayF (Ev.call C n) (.fn fl fa fb) c yb mb i k H (g k)) →
  ∃ H' tc,Ev.call C (n+6) (.fn (.func 32) [] []) [.ptr yb 0,.int .i64 i,.fn fl fa fb] H=some (.ret (.agg [.int .i64 (Clm.ofAll c i g).lo,.int .i64 (Clm.ofAll c i g).hi]),H',tc)∧(∀ j∈tc,j=mb)∧Kp tc H H'∧Yd c yb mb H'
theorem zlb {c:Clm.Cl}{n:Int}(h:isP c n=true):∃ i:Nat,n=i∧i<c.piles.length:=by
  have:=of_decide_eq_true h
  exact ⟨n.toNat,by omega,by omega⟩
def builtG (k:Int)(w:Clm.Way):Clm.Sp:=⟨w.size.sods k,w.size.sods k⟩
def soldG (c:Clm.Cl)(k:Int)(w:Clm.Way):Clm.Sp:=⟨w.size.sods k - (Clm.leftW c w).hi,w.size.sods k - (Clm.leftW c w).lo⟩
theorem err_ok {c:Clm.Cl}{is:Bool}(h:errOf c is=0):Clm.valid c=true∧is=true∧Clm.can c (Clm.every c)=true:=by
  unfold errOf at h
  split at h
  · cases h
  · rename_i h1
    split at h
    · cases h
    · rename_i h2
      split at h
      · cases h
      · rename_i h3
        exact ⟨by simpa using h1,by simpa using h2,by simpa using h3⟩
theorem zti (C:Cfg)(n:Nat)(c:Clm.Cl)(hdf:C.dfk 29=some (104,true))(hO:OneCall (Ev.call C (n+6)) c)(hOf:Clm.valid c=true→OfCall C n c)(num:Int)
    (hG:∀ H yb mb i,i<c.piles.length→Clm.valid c=true→∀ k∈Clm.packs c (Clm.every c),WayF (Ev.call C n) (.fn (.func 33) [] []) c yb mb i k H (builtG k)):
    Does (ev C (Ev.call C (n+6)) ([]:List AB).length none af7.body { tm:=tmA af7.ntmps (zipI 0 [.agg (clampCs c),.int .i64 num] []),df:=[],hp:=[],tc:=[] })
      (Fin C ([]:List AB).length af7 (Ans (spanR c (isP c num) (Clm.ofAll c num.toNat builtG)))):=by
  have ho:=hO [.cells (clampCs c),.cells [.int .i64 0,.int .i64 0],.cells [.int .i64 0]] num
  unfold spanR isP
  unfold af7
  rcases ho with ⟨h1,H1,h2,h3⟩|⟨h1,H1,yb,mb,h2,h3,h4,h5,h6⟩
  · generalize errOf c (decide (0≤num∧num<(c.piles.length:Int)))=e at *
    have e0:H1[0]?=some (.cells (clampCs c)):=h3.at rfl (by simp)
    have e1:H1[1]?=some (.cells [.int .i64 0,.int .i64 0]):=h3.at rfl (by simp)
    have e2:H1[2]?=some (.cells [.int .i64 0]):=h3.at rfl (by simp)
    rw[if_neg h1]
    clear hO hOf hG h3 h1
    simp only[zipI,clampCs,stopV] at *
    (repeat (first|(with_reducible apply zad;(focus ((conv=>lhs;simp[*,Nat.testBit_eq_decide_div_mod_eq])<;>exact rfl));simp only[addFl])|(with_reducible apply zay;(focus ((conv=>lhs;simp[*,Nat.testBit_eq_decide_div_mod_eq])<;>exact rfl));(try simp only[Ops,Then]);(try dsimp only))|((with_reducible first|apply zai|apply zak|apply zah|apply zaf|apply zac|apply zaj|apply zag|apply zam|(apply zae;· simp[*,zaa])|(apply zab;· simp[*,zaa]));try simp only[Then,Ops])|simp only[Nat.reduceEqDiff,reduceIte,OutB,Then]))
    refine zcg hdf rfl e2 (by simp only[resL,resOf,zal];simp[resV,pickC,List.getElem?_set_ne,e1,List.getElem?_set_self (get_lt e2)];rfl) ⟨by simp[spA],by simp⟩
  · obtain ⟨hv,hi,hcan⟩:=err_ok h1
    rw[h1,if_pos rfl]
    obtain ⟨i,rfl,hil⟩:=zlb hi
    obtain ⟨H2,tc2,k1,k2,k3,k4⟩:=hOf hv H1 yb mb h4 i hil (.func 33) [] [] builtG (fun k hk=>hG H1 yb mb i hil hv k hk)
    have e1:H2[1]?=some (.cells [.int .i64 0,.int .i64 0]):=k3.at (h3.at rfl (by simp)) (fun h=>by have:=k2 _ h;simp at h6;omega)
    have e2:H2[2]?=some (.cells [.int .i64 0]):=k3.at (h3.at rfl (by simp)) (fun h=>by have:=k2 _ h;simp at h6;omega)
    obtain ⟨f0,f1,f2,f3,f4,f5⟩:=bk' e1
    obtain ⟨g0,g1,g2,g3,g4,g5⟩:=bk' e2
    rw[Int.toNat_natCast]
    generalize Clm.ofAll c i builtG=sp at *
    clear hO hOf hG h3 h1 h4 h5 h6 hi hcan hv k2 k3 k4
    simp only[zipI,clampCs] at *
    (repeat (first|(with_reducible apply zad;(focus ((conv=>lhs;simp[*,Nat.testBit_eq_decide_div_mod_eq])<;>exact rfl));simp only[addFl])|(with_reducible apply zay;(focus ((conv=>lhs;simp[*,Nat.testBit_eq_decide_div_mod_eq])<;>exact rfl));(try simp only[Ops,Then,OutB]);(try dsimp only))|((with_reducible first|apply zai|apply zak|apply zah|apply zaf|apply zac|apply zaj|apply zag|apply zam|(apply zae;· simp[*,zaa])|(apply zab;· simp[*,zaa]));try simp only[Then,Ops])|simp only[Nat.reduceEqDiff,reduceIte,OutB,Then]))
    refine zdj (v:=.tup [spA sp,.int .i64 0]) (.inl rfl) hdf rfl (by simp) (by simp only[resL,resOf,zal];simp[resV,pickC,spA,f0,g0]) ⟨rfl,by simp⟩
end K
end Ev
end Go.Proofs.YtimgnlellflciaaGreat

/- Package clamp, gone through: exported functions, on. -/
namespace Go.Proofs.YtimgnlellflciaaGreat
open Go
namespace Ev
namespace K
attribute [local simp] ev1 wantG spineK spine float xnew xval xeff zaa zar zbb zau zav addFl cellsOf pickC alive slLen slFt binI maxA maxK minA minK aeqK aeqS AV.cells spA zas fillA setAt bitsI nat_nn zbe AV.plain apart
set_option maxRecDepth 100000
set_option maxHeartbeats 4000000
theorem zzn (C:Cfg)(n:Nat)(c:Clm.Cl)(hdf:C.dfk 39=some (104,true))(hO:OneCall (Ev.call C (n+6)) c)(hOf:Clm.valid c=true→OfCall C n c)(num:Int)(hL:Clm.valid c=true→LeftC (Ev.call C n) c):
    Does (ev C (Ev.call C (n+6)) ([]:List AB).length none af9.body { tm:=tmA af9.ntmps (zipI 0 [.agg (clampCs c),.int .i64 num] []),df:=[],hp:=[],tc:=[] })
      (Fin C ([]:List AB).length af9 (Ans (spanR c (isP c num) (Clm.ofAll c num.toNat fun _=>Clm.leftW c)))):=by
  have ho:=hO [.cells (clampCs c),.cells [.int .i64 0,.int .i64 0],.cells [.int .i64 0]] num
  unfold spanR isP
  unfold af9
  rcases ho with ⟨h1,H1,h2,h3⟩|⟨h1,H1,yb,mb,h2,h3,h4,h5,h6⟩
  · generalize errOf c (decide (0≤num∧num<(c.piles.length:Int)))=e at *
    have e0:H1[0]?=some (.cells (clampCs c)):=h3.at rfl (by simp)
    have e1:H1[1]?=some (.cells [.int .i64 0,.int .i64 0]):=h3.at rfl (by simp)
    have e2:H1[2]?=some (.cells [.int .i64 0]):=h3.at rfl (by simp)
    rw[if_neg h1]
    clear hO hOf hL h3 h1
    simp only[zipI,clampCs,stopV] at *
    (repeat (first|(with_reducible apply zad;(focus ((conv=>lhs;simp[*,Nat.testBit_eq_decide_div_mod_eq])<;>exact rfl));simp only[addFl])|(with_reducible apply zay;(focus ((conv=>lhs;simp[*,Nat.testBit_eq_decide_div_mod_eq])<;>exact rfl));(try simp only[Ops,Then]);(try dsimp only))|((with_reducible first|apply zai|apply zak|apply zah|apply zaf|apply zac|apply zaj|apply zag|apply zam|(apply zae;· simp[*,zaa])|(apply zab;· simp[*,zaa]));try simp only[Then,Ops])|simp only[Nat.reduceEqDiff,reduceIte,OutB,Then]))
    refine zcg hdf rfl e2 (by simp only[resL,resOf,zal];simp[resV,pickC,List.getElem?_set_ne,e1,List.getElem?_set_self (get_lt e2)];rfl) ⟨by simp[spA],by simp⟩
  · obtain ⟨hv,hi,hcan⟩:=err_ok h1
    rw[h1,if_pos rfl]
    obtain ⟨i,rfl,hil⟩:=zlb hi
    obtain ⟨H2,tc2,k1,k2,k3,k4⟩:=hOf hv H1 yb mb h4 i hil (.func 40) [.ptr yb 0] [] (fun _=>Clm.leftW c) (fun k _=>left_way (hL hv) yb mb i k H1)
    have e1:H2[1]?=some (.cells [.int .i64 0,.int .i64 0]):=k3.at (h3.at rfl (by simp)) (fun h=>by have:=k2 _ h;simp at h6;omega)
    have e2:H2[2]?=some (.cells [.int .i64 0]):=k3.at (h3.at rfl (by simp)) (fun h=>by have:=k2 _ h;simp at h6;omega)
    obtain ⟨f0,f1,f2,f3,f4,f5⟩:=bk' e1
    obtain ⟨g0,g1,g2,g3,g4,g5⟩:=bk' e2
    rw[Int.toNat_natCast]
    generalize Clm.ofAll c i (fun _=>Clm.leftW c)=sp at *
    clear hO hOf hL h3 h1 h4 h5 h6 hi hcan hv k2 k3 k4
    simp only[zipI,clampCs] at *
    (repeat (first|(with_reducible apply zad;(focus ((conv=>lhs;simp[*,Nat.testBit_eq_decide_div_mod_eq])<;>exact rfl));simp only[addFl])|(with_reducible apply zay;(focus ((conv=>lhs;simp[*,Nat.testBit_eq_decide_div_mod_eq])<;>exact rfl));(try simp only[Ops,Then,OutB]);(try dsimp only))|((with_reducible first|apply zai|apply zak|apply zah|apply zaf|apply zac|apply zaj|apply zag|apply zam|(apply zae;· simp[*,zaa])|(apply zab;· simp[*,zaa]));try simp only[Then,Ops])|simp only[Nat.reduceEqDiff,reduceIte,OutB,Then]))
    refine zdj (v:=.tup [spA sp,.int .i64 0]) (.inl rfl) hdf rfl (by simp) (by simp only[resL,resOf,zal];simp[resV,pickC,spA,f0,g0]) ⟨rfl,by simp⟩
theorem zud (C:Cfg)(call:CallF)(c:Clm.Cl)(hSd:SodsC call)(H:List AB)(yb:Nat)(w0:AV)(hy:H[yb]?=some (.cells (clampCs c++[w0])))(b:Nat)(hb:H[b]?=some (.cells [.ptr yb 0]))(n:Nat)(pack:Int)(w:Clm.Way)(hq:QOk ⟨n,w.size,pack,0⟩)(hlow:Clm.Low (Clm.leftW c w))
    (hL2:∀ H,H[yb]?=some (.cells (clampCs c++[w0]))→call (.fn (.func 40) [] []) [.ptr yb 0,.agg (wayCs n pack w)] H=some (.ret (.agg [.int .i64 (Clm.leftW c w).lo,.int .i64 (Clm.leftW c w).hi]),H,[])):
    Does (ev C call H.length none af43.body { tm:=tmA af43.ntmps (zipI 0 [.agg (wayCs n pack w),.ptr b 0] []),df:=[],hp:=H,tc:=[] })
      (Ends C H.length af43.res fun v _hp tc=>v=spA (soldG c pack w)∧tc=[]):=by
  have hs:=fun H=>hSd H n w.size.l w.size.w w.size.h pack hq.l0 hq.l1 hq.w0 hq.w1 hq.h0 hq.h1 hq.p0 (by have:=hq.p1;simp only at this;omega)
  have hle:=fun K=>hL2 (H++K) ((Kp.app (S:=[]) H K).at hy (by simp))
  obtain ⟨s0,s1⟩:=hq.sods
  have hse:w.size.l * w.size.w * w.size.h * pack=w.size.sods pack:=rfl
  rw[hse] at hs
  obtain ⟨l0,l1,l2,l3⟩:=hlow
  have s0:0≤w.size.sods pack:=s0
  have s1:w.size.sods pack≤5000:=s1
  have w1:IntKind.i64.wrap (w.size.sods pack - (Clm.leftW c w).hi)=w.size.sods pack - (Clm.leftW c w).hi:=zat (by omega) (by omega)
  have w2:IntKind.i64.wrap (w.size.sods pack - (Clm.leftW c w).lo)=w.size.sods pack - (Clm.leftW c w).lo:=zat (by omega) (by omega)
  have hg:soldG c pack w=⟨w.size.sods pack - (Clm.leftW c w).hi,w.size.sods pack - (Clm.leftW c w).lo⟩:=rfl
  rw[hg]
  obtain ⟨f0,f1,f2,f3,f4,f5⟩:=bk' hb
  have t0:=zdf (fun i=>w.log.getD i ⟨0,0⟩)
  have t1:=zia (fun i=>w.log.getD i ⟨0,0⟩)
  unfold af43
  simp only[zipI,wayCs,List.cons_append,List.nil_append] at *
  generalize arr7 (fun i=>w.log.getD i ⟨0,0⟩)=R at *
  generalize w.size.sods pack=sd at *
  generalize Clm.leftW c w=lw at *
  clear hSd hL2 hq s0 s1 l0 l1 l2 l3 hse hg hy
  (repeat (first|(with_reducible apply zad;(focus ((conv=>lhs;simp[*,Nat.testBit_eq_decide_div_mod_eq])<;>exact rfl));simp only[addFl])|((with_reducible first|apply zai|apply zak|apply zah|apply zaf|apply zac|apply zaj|apply zag|apply zam|(apply zae;· simp[*,zaa])|(apply zab;· simp[*,zaa]));try simp only[Then,Ops])|simp only[Nat.reduceEqDiff,reduceIte,OutB,Then]))
  refine zao (v:=spA ⟨sd - lw.hi,sd - lw.lo⟩) (.inl rfl) rfl (by simp) (by simp only[resL,resOf,zal];simp[resV,pickC,spA]) ⟨rfl,by simp⟩
theorem zuc (C:Cfg)(n:Nat)(c:Clm.Cl)(hdf:C.dfk 42=some (104,true))(hO:OneCall (Ev.call C (n+6)) c)(hOf:Clm.valid c=true→OfCall C n c)(num:Int)
    (hG:∀ H yb mb i b,H[b]?=some (.cells [.ptr yb 0])→b≠mb→i<c.piles.length→Clm.valid c=true→∀ k∈Clm.packs c (Clm.every c),WayF (Ev.call C n) (.fn (.func 43) [] [.ptr b 0]) c yb mb i k H (soldG c k)):
    Does (ev C (Ev.call C (n+6)) ([]:List AB).length none af11.body { tm:=tmA af11.ntmps (zipI 0 [.agg (clampCs c),.int .i64 num] []),df:=[],hp:=[],tc:=[] })
      (Fin C ([]:List AB).length af11 (Ans (spanR c (isP c num) (Clm.ofAll c num.toNat (soldG c))))):=by
  have ho:=hO [.cells (clampCs c),.cells [.int .i64 0,.int .i64 0],.cells [.int .i64 0]] num
  unfold spanR isP
  unfold af11
  rcases ho with ⟨h1,H1,h2,h3⟩|⟨h1,H1,yb,mb,h2,h3,h4,h5,h6⟩
  · generalize errOf c (decide (0≤num∧num<(c.piles.length:Int)))=e at *
    have e0:H1[0]?=some (.cells (clampCs c)):=h3.at rfl (by simp)
    have e1:H1[1]?=some (.cells [.int .i64 0,.int .i64 0]):=h3.at rfl (by simp)
    have e2:H1[2]?=some (.cells [.int .i64 0]):=h3.at rfl (by simp)
    rw[if_neg h1]
    clear hO hOf hG h3 h1
    simp only[zipI,clampCs,stopV] at *
    (repeat (first|(with_reducible apply zad;(focus ((conv=>lhs;simp[*,Nat.testBit_eq_decide_div_mod_eq])<;>exact rfl));simp only[addFl])|(with_reducible apply zay;(focus ((conv=>lhs;simp[*,Nat.testBit_eq_decide_div_mod_eq])<;>exact rfl));(try simp only[Ops,Then]);(try dsimp only))|((with_reducible first|apply zai|apply zak|apply zah|apply zaf|apply zac|apply zaj|apply zag|apply zam|(apply zae;· simp[*,zaa])|(apply zab;· simp[*,zaa]));try simp only[Then,Ops])|simp only[Nat.reduceEqDiff,reduceIte,OutB,Then]))
    refine zcg hdf rfl e2 (by simp only[resL,resOf,zal];simp[resV,pickC,List.getElem?_set_ne,e1,List.getElem?_set_self (get_lt e2)];rfl) ⟨by simp[spA],by simp⟩
  · obtain ⟨hv,hi,hcan⟩:=err_ok h1
    rw[h1,if_pos rfl]
    obtain ⟨i,rfl,hil⟩:=zlb hi
    obtain ⟨es,hm,_⟩:=h4.m
    obtain ⟨H2,tc2,k1,k2,k3,k4⟩:=hOf hv (H1++[.cells [.ptr yb 0]]) yb mb (h4.app _) i hil (.func 43) [] [.ptr H1.length 0] (soldG c) (fun k hk=>hG _ yb mb i H1.length (by simp) (by have:=get_lt hm;omega) hil hv k hk)
    have e1:H2[1]?=some (.cells [.int .i64 0,.int .i64 0]):=k3.at ((Kp.app (S:=[]) _ _).at (h3.at rfl (by simp)) (by simp)) (fun h=>by have:=k2 _ h;simp at h6;omega)
    have e2:H2[2]?=some (.cells [.int .i64 0]):=k3.at ((Kp.app (S:=[]) _ _).at (h3.at rfl (by simp)) (by simp)) (fun h=>by have:=k2 _ h;simp at h6;omega)
    obtain ⟨f0,f1,f2,f3,f4,f5⟩:=bk' e1
    obtain ⟨g0,g1,g2,g3,g4,g5⟩:=bk' e2
    rw[Int.toNat_natCast]
    generalize Clm.ofAll c i (soldG c)=sp at *
    clear hO hOf hG h3 h1 h4 h5 h6 hi hcan hv k2 k3 k4 hm
    simp only[zipI,clampCs] at *
    (repeat (first|(with_reducible apply zad;(focus ((conv=>lhs;simp[*,Nat.testBit_eq_decide_div_mod_eq])<;>exact rfl));simp only[addFl])|(with_reducible apply zay;(focus ((conv=>lhs;simp[*,Nat.testBit_eq_decide_div_mod_eq])<;>exact rfl));(try simp only[Ops,Then,OutB]);(try dsimp only))|((with_reducible first|apply zai|apply zak|apply zah|apply zaf|apply zac|apply zaj|apply zag|apply zam|(apply zae;· simp[*,zaa])|(apply zab;· simp[*,zaa]));try simp only[Then,Ops])|simp only[Nat.reduceEqDiff,reduceIte,OutB,Then]))
    refine zdj (v:=.tup [spA sp,.int .i64 0]) (.inl rfl) hdf rfl (by simp) (by simp only[resL,resOf,zal];simp[resV,pickC,spA,f0,g0]) ⟨rfl,by simp⟩
end K
end Ev
end Go.Proofs.YtimgnlellflciaaGreat

/- Package clamp, gone through: exported functions of all clamps. -/
namespace Go.Proofs.YtimgnlellflciaaGreat
open Go
namespace Ev
namespace K
attribute [local simp] ev1 wantG spineK spine float xnew xval xeff zaa zar zbb zau zav addFl cellsOf pickC alive slLen slFt binI maxA maxK minA minK aeqK aeqS AV.cells spA zas fillA setAt bitsI nat_nn zbe AV.plain apart
set_option maxRecDepth 100000
set_option maxHeartbeats 4000000
theorem zfa (N:Nat):∀ (dead:List Nat) (l:List (Nat × AV)),forget dead (tmA N l)=tmA N (dead.foldl (fun l t=>(t,.unk)::l) l)
  |[],_=>rfl
  |t::d,l=>by
    have:=zfa N d ((t,.unk)::l)
    simp only[forget,List.foldl_cons] at this ⊢
    exact this
def AlwaysC (call:CallF):Prop:=∀ (H:List AB) (v:AV),call (.fn (.func 46) [] []) [v] H=some (.ret (.bool true),H,[])
theorem zto (C:Cfg)(call:CallF)(H:List AB)(v:AV):Does (ev C call H.length none af46.body { tm:=tmA af46.ntmps (zipI 0 [v] []),df:=[],hp:=H,tc:=[] })
    (Ends C H.length af46.res fun w _hp tc=>w=.bool true∧tc=[]):=by
  unfold af46
  simp only[zipI]
  (repeat (first|(with_reducible apply zad;(focus ((conv=>lhs;simp[*,Nat.testBit_eq_decide_div_mod_eq])<;>exact rfl));simp only[addFl])|((with_reducible first|apply zai|apply zak|apply zah|apply zaf|apply zac|apply zaj|apply zag|apply zam|(apply zae;· simp[*,zaa])|(apply zab;· simp[*,zaa]));try simp only[Then,Ops])|simp only[Nat.reduceEqDiff,reduceIte,OutB,Then]))
  exact zao (v:=.bool true) (.inl rfl) rfl (by simp) (by simp only[resL,resOf,zal];simp[*,resV]) ⟨rfl,rfl⟩
def TogCall (call:CallF)(c:Clm.Cl):Prop:=∀ (H:List AB) (yb mb:Nat),Yd c yb mb H→∀ set:Nat,∃ H' tc,call (.fn (.func 48) [] []) [.ptr yb 0,.int .u64 set] H=some (.ret (.agg [.int .i64 (Clm.together c set).lo,.int .i64 (Clm.together c set).hi]),H',tc)∧(∀ j∈tc,j=mb)∧Kp tc H H'∧Yd c yb mb H'
def HeadCall (call call1:CallF)(c:Clm.Cl):Prop:=∀ (H:List AB) (F:AV) (is:Bool),(Clm.valid c=true→∀ G yb mb,Kp [] H G→Yd c yb mb G→call1 F [.ptr yb 0] G=some (.ret (.bool is),G,[])) →
  (errOf c is≠0∧errOf c is≠10∧call (.fn (.func 45) [] []) [.agg (clampCs c),F] H=some (.pan (stopV (errOf c is)),H,[])) ∨
  (errOf c is=10∧∃ H1 yb H2 tc,call (.fn (.func 45) [] []) [.agg (clampCs c),F] H=some (.ret (.ptr yb 0),H1,[])∧call (.fn (.func 47) [] []) [.ptr yb 0] H1=some (.pan (stopV 10),H2,tc)∧Kp [] H H2∧(∀ j∈tc,H.length≤j)) ∨
  (errOf c is=0∧∃ H1 yb mb H2 tc,call (.fn (.func 45) [] []) [.agg (clampCs c),F] H=some (.ret (.ptr yb 0),H1,[])∧call (.fn (.func 47) [] []) [.ptr yb 0] H1=some (.ret (.ptr yb 0),H2,tc)∧Kp [] H H2∧Yd c yb mb H2∧H.length≤yb∧H.length≤mb∧(∀ j∈tc,H.length≤j))
theorem ybf {call call1:CallF}{c:Clm.Cl}(hO:OpenCall call call1 c)(hT:Clm.valid c=true→ToldCall call c):HeadCall call call1 c:=by
  intro H F is hF
  unfold errOf
  rcases hO H F is hF with ⟨h1,h2⟩|⟨h1,h2,h3⟩|⟨h1,h2,H1,yb,mb,h3,h4,h5,h6,h7⟩
  · rw[h1,if_pos rfl];exact .inl ⟨by decide,by decide,h2⟩
  · rw[h1,h2,if_neg (by decide),if_pos rfl];exact .inl ⟨by decide,by decide,h3⟩
  · obtain ⟨H2,tc,k1,k2,k3,k4⟩:=hT h1 H1 yb mb h5
    have hl:=h4.len
    have hkp : Kp [] H H2 := ⟨by have := k2.len; omega, fun b hb hs => by
      rw[k2.get b (by omega) (fun h=>by have:=k1 b h;omega)];exact h4.get b hb hs⟩
    have ht:∀ j∈tc,H.length≤j:=fun j hj=>by have:=k1 j hj;omega
    rw[h1,h2,if_neg (by decide),if_neg (by decide)]
    cases hcan:Clm.can c (Clm.every c) with
    |false=>
      rw[hcan] at k4
      rw[if_pos rfl]
      exact .inr (.inl ⟨rfl,H1,yb,H2,tc,h3,k4,hkp,ht⟩)
    |true=>
      rw[hcan] at k4
      rw[if_neg (by decide)]
      exact .inr (.inr ⟨rfl,H1,yb,mb,H2,tc,h3,k4,hkp,k3,h6,h7,ht⟩)
def fullP (c:Clm.Cl):Nat:=2 ^ c.piles.length - 1
theorem yah (C:Cfg)(call call1:CallF)(c:Clm.Cl)(hbig:c.piles.length≤40)(hdf:C.dfk 44=some (104,true))(hA:AlwaysC call1)(hH:HeadCall call call1 c)(hT:Clm.valid c=true→TogCall call c):
    Does (ev C call ([]:List AB).length none af13.body { tm:=tmA af13.ntmps (zipI 0 [.agg (clampCs c)] []),df:=[],hp:=[],tc:=[] })
      (Fin C ([]:List AB).length af13 (Ans (spanR c true (Clm.together c (fullP c))))):=by
  have hh:=hH [.cells (clampCs c),.cells [.int .i64 0,.int .i64 0],.cells [.int .i64 0]] (.fn (.func 46) [] []) true (fun _ G yb mb _ _=>hA G _)
  obtain ⟨s1,s2,s3⟩:=zif (d:=c.piles.length) (by omega)
  have hp:0<2 ^ c.piles.length:=Nat.pow_pos (by decide)
  have hp2:2 ^ c.piles.length≤2 ^ 40:=Nat.pow_le_pow_right (by decide) hbig
  have hev:((fullP c:Nat):Int)=((2 ^ c.piles.length:Nat):Int) - 1:=by unfold fullP;omega
  have hw:IntKind.u64.wrap (((2 ^ c.piles.length:Nat):Int) - 1)=((2 ^ c.piles.length:Nat):Int) - 1:=zpe (by omega) (by omega)
  unfold spanR
  unfold af13
  rcases hh with ⟨h1,h2,h3⟩|⟨h1,H1,yb,H2,tc,h2,h3,h4,h5⟩|⟨h1,H1,yb,mb,H2,tc,h2,h3,h4,h5,h6,h7,h8⟩
  · generalize errOf c true=e at *
    rw[if_neg h1]
    clear hH hT hA h1 h2 hev hp hp2 hbig
    generalize 2 ^ c.piles.length=P at s1 s2 s3 hw
    simp only[zipI,clampCs,stopV] at *
    (repeat (first|(with_reducible apply zad;(focus ((conv=>lhs;simp[*,Nat.testBit_eq_decide_div_mod_eq])<;>exact rfl));simp only[addFl])|(with_reducible apply zay;(focus ((conv=>lhs;simp[*,Nat.testBit_eq_decide_div_mod_eq])<;>exact rfl));(try simp only);(try dsimp only))|((with_reducible first|apply zai|apply zak|apply zah|apply zaf|apply zac|apply zaj|apply zag|apply zam|(apply zae;· simp[*,zaa])|(apply zab;· simp[*,zaa]));try simp only[Then,Ops])|simp only[Nat.reduceEqDiff,reduceIte,OutB,Then]))
    simp only[List.filterMap_cons,List.filterMap_nil,zfa,List.foldl_cons,List.foldl_nil]
    refine zcg hdf rfl rfl (by simp only[resL,resOf,zal];simp[resV,pickC];rfl) ⟨by simp[spA],by simp⟩
  · rw[h1,if_neg (by decide)]
    have e1:H2[1]?=some (.cells [.int .i64 0,.int .i64 0]):=h4.at rfl (by simp)
    have e2:H2[2]?=some (.cells [.int .i64 0]):=h4.at rfl (by simp)
    have t0:¬ (0∈tc):=fun h=>by have:=h5 _ h;simp at this
    clear hH hT hA h1 h4 h5 hev hp hp2 hbig
    generalize 2 ^ c.piles.length=P at s1 s2 s3 hw
    simp only[zipI,clampCs,stopV] at *
    (repeat (first|(with_reducible apply zad;(focus ((conv=>lhs;simp[*,Nat.testBit_eq_decide_div_mod_eq])<;>exact rfl));simp only[addFl])|(with_reducible apply zay;(focus ((conv=>lhs;simp[*,Nat.testBit_eq_decide_div_mod_eq])<;>exact rfl));(try simp only);(try dsimp only))|((with_reducible first|apply zai|apply zak|apply zah|apply zaf|apply zac|apply zaj|apply zag|apply zam|(apply zae;· simp[*,zaa])|(apply zab;· simp[*,zaa]));try simp only[Then,Ops])|simp only[Nat.reduceEqDiff,reduceIte,OutB,Then]))
    simp only[List.filterMap_cons,List.filterMap_nil,zfa,List.foldl_cons,List.foldl_nil]
    refine zcg hdf rfl e2 (by simp only[resL,resOf,zal];simp[resV,pickC,List.getElem?_set_ne,e1,List.getElem?_set_self (get_lt e2)];rfl) ⟨by simp[spA],by simp⟩
  · obtain ⟨hv,_,hcan⟩:=err_ok h1
    rw[h1,if_pos rfl]
    obtain ⟨H3,tc3,k1,k2,k3,k4⟩:=hT hv H2 yb mb h5 (fullP c)
    have e1:H3[1]?=some (.cells [.int .i64 0,.int .i64 0]):=k3.at (h4.at rfl (by simp)) (fun h=>by have:=k2 _ h;simp at h7;omega)
    have e2:H3[2]?=some (.cells [.int .i64 0]):=k3.at (h4.at rfl (by simp)) (fun h=>by have:=k2 _ h;simp at h7;omega)
    obtain ⟨f0,f1,f2,f3,f4,f5⟩:=bk' e1
    obtain ⟨g0,g1,g2,g3,g4,g5⟩:=bk' e2
    have t0:¬ (0∈tc):=fun h=>by have:=h8 _ h;simp at this
    have t1:¬ (0∈tc3):=fun h=>by have:=k2 _ h;simp at h7;omega
    rw[hev] at k1
    generalize Clm.together c (fullP c)=sp at *
    generalize 2 ^ c.piles.length=P at s1 s2 s3 hw k1
    clear hH hT hA h1 h4 h5 h6 h7 h8 hcan hv k2 k3 k4 hev hp hp2 hbig
    simp only[zipI,clampCs] at *
    (repeat (first|(with_reducible apply zad;(focus ((conv=>lhs;simp[*,Nat.testBit_eq_decide_div_mod_eq])<;>exact rfl));simp only[addFl])|(with_reducible apply zay;(focus ((conv=>lhs;simp[*,Nat.testBit_eq_decide_div_mod_eq])<;>exact rfl));(try simp only[Ops,Then,OutB]);(try dsimp only))|((with_reducible first|apply zai|apply zak|apply zah|apply zaf|apply zac|apply zaj|apply zag|apply zam|(apply zae;· simp[*,zaa])|(apply zab;· simp[*,zaa]));try simp only[Then,Ops])|simp only[Nat.reduceEqDiff,reduceIte,OutB,Then]))
    refine zdj (v:=.tup [spA sp,.int .i64 0]) (.inl rfl) hdf rfl (by simp) (by simp only[resL,resOf,zal];simp[resV,pickC,spA,f0,g0]) ⟨rfl,by simp⟩
theorem zgl {H:List AB}{i:Nat}(h:i<H.length)(X:AB)(K:List AB):(H.set i X++K)[i]?=some X:=by
  rw[List.getElem?_append_left (by simpa using h),List.getElem?_set_self h]
def isS (n:Int):Bool:=decide (0≤n∧n≤20000)
def AreSodsC (call:CallF):Prop:=∀ (H:List AB) (n:Int),call (.fn (.func 54) [] []) [.int .i64 n] H=some (.ret (.bool (decide (0≤n∧n≤20000))),H,[])
theorem zop (C:Cfg)(call:CallF)(c:Clm.Cl)(hP:IsPileC call c)(hA:AreSodsC call)(H:List AB)(yb:Nat)(w:AV)(hy:H[yb]?=some (.cells (clampCs c++[w])))(n s:Int)(b1 b2:Nat)(hb1:H[b1]?=some (.cells [.int .i64 n]))(hb2:H[b2]?=some (.cells [.int .i64 s])):
    Does (ev C call H.length none af52.body { tm:=tmA af52.ntmps (zipI 0 [.ptr yb 0,.ptr b1 0,.ptr b2 0] []),df:=[],hp:=H,tc:=[] })
      (Ends C H.length af52.res fun v _hp tc=>v=.bool (isP c n&&isS s)∧tc=[]):=by
  have hp:=hP H yb w hy n
  have ha:=fun H=>hA H s
  obtain ⟨f0,f1,f2,f3,f4,f5⟩:=bk' hb1
  obtain ⟨g0,g1,g2,g3,g4,g5⟩:=bk' hb2
  unfold isP isS
  generalize decide (0≤s∧s≤20000)=b2 at *
  clear hP hy hA
  unfold af52
  simp only[zipI]
  cases hbb:decide (0≤n∧n<(c.piles.length:Int)) with
  |true=>
    rw[hbb] at hp
    clear hbb
    (repeat (first|(with_reducible apply zad;(focus ((conv=>lhs;simp[*,Nat.testBit_eq_decide_div_mod_eq])<;>exact rfl));simp only[addFl])|((with_reducible first|apply zai|apply zak|apply zah|apply zaf|apply zac|apply zaj|apply zag|apply zam|(apply zae;· simp[*,zaa])|(apply zab;· simp[*,zaa]));try simp only[Then,Ops])|simp only[Nat.reduceEqDiff,reduceIte,OutB,Then]))
    exact zao (v:=.bool b2) (.inl rfl) rfl (by simp) (by simp only[resL,resOf,zal];simp[*,resV]) ⟨by simp,rfl⟩
  |false=>
    rw[hbb] at hp
    clear hbb
    (repeat (first|(with_reducible apply zad;(focus ((conv=>lhs;simp[*,Nat.testBit_eq_decide_div_mod_eq])<;>exact rfl));simp only[addFl])|((with_reducible first|apply zai|apply zak|apply zah|apply zaf|apply zac|apply zaj|apply zag|apply zam|(apply zae;· simp[*,zaa])|(apply zab;· simp[*,zaa]));try simp only[Then,Ops])|simp only[Nat.reduceEqDiff,reduceIte,OutB,Then]))
    exact zao (v:=.bool false) (.inl rfl) rfl (by simp) (by simp only[resL,resOf,zal];simp[*,resV]) ⟨by simp,rfl⟩
def enoughN (s:Clm.Sp)(n:Int):Int:=if s.lo≥n then 2 else if s.hi<n then 0 else 1
def numR (c:Clm.Cl)(is:Bool)(n:Int):AV:=.tup [.int .i64 (if errOf c is=0 then n else 0),.int .i64 (errOf c is)]
theorem zoo (C:Cfg)(call call1:CallF)(c:Clm.Cl)(hdf:C.dfk 51=some (104,true))(hH:HeadCall call call1 c)(hT:Clm.valid c=true→TogCall call c)(num s:Int)
    (hF:Clm.valid c=true→∀ G yb mb,Kp [] [.cells (clampCs c),.cells [.int .i64 num],.cells [.int .i64 s],.cells [.int .i64 0]] G→Yd c yb mb G→call1 (.fn (.func 52) [] [.ptr 1 0,.ptr 2 0]) [.ptr yb 0] G=some (.ret (.bool (isP c num&&isS s)),G,[])):
    Does (ev C call ([]:List AB).length none af15.body { tm:=tmA af15.ntmps (zipI 0 [.agg (clampCs c),.int .i64 num,.int .i64 s] []),df:=[],hp:=[],tc:=[] })
      (Fin C ([]:List AB).length af15 (Ans (numR c (isP c num&&isS s) (enoughN (Clm.together c (2 ^ num.toNat)) s)))):=by
  have hh:=hH [.cells (clampCs c),.cells [.int .i64 num],.cells [.int .i64 s],.cells [.int .i64 0]] (.fn (.func 52) [] [.ptr 1 0,.ptr 2 0]) _ hF
  unfold numR
  unfold af15
  generalize hisdef:(isP c num&&isS s)=is at *
  rcases hh with ⟨h1,h2,h3⟩|⟨h1,H1,yb,H2,tc,h2,h3,h4,h5⟩|⟨h1,H1,yb,mb,H2,tc,h2,h3,h4,h5,h6,h7,h8⟩
  · generalize errOf c is=e at *
    rw[if_neg h1]
    clear hH hT hF h1 h2 hisdef
    simp only[zipI,clampCs,stopV] at *
    (repeat (first|(with_reducible apply zad;(focus ((conv=>lhs;simp[*,Nat.testBit_eq_decide_div_mod_eq])<;>exact rfl));simp only[addFl])|(with_reducible apply zay;(focus ((conv=>lhs;simp[*,Nat.testBit_eq_decide_div_mod_eq])<;>exact rfl));(try simp only[Ops,Then]);(try dsimp only))|((with_reducible first|apply zai|apply zak|apply zah|apply zaf|apply zac|apply zaj|apply zag|apply zam|(apply zae;· simp[*,zaa])|(apply zab;· simp[*,zaa]));try simp only[Then,Ops])|simp only[Nat.reduceEqDiff,reduceIte,OutB,Then]))
    refine zcg hdf rfl rfl (by simp only[resL,resOf,zal];simp[resV,pickC];rfl) ⟨by simp,by simp⟩
  · rw[h1,if_neg (by decide)]
    have e2:H2[3]?=some (.cells [.int .i64 0]):=h4.at rfl (by simp)
    clear hH hT hF h1 h4 h5 hisdef
    simp only[zipI,clampCs,stopV] at *
    (repeat (first|(with_reducible apply zad;(focus ((conv=>lhs;simp[*,Nat.testBit_eq_decide_div_mod_eq])<;>exact rfl));simp only[addFl])|(with_reducible apply zay;(focus ((conv=>lhs;simp[*,Nat.testBit_eq_decide_div_mod_eq])<;>exact rfl));(try simp only[Ops,Then]);(try dsimp only))|((with_reducible first|apply zai|apply zak|apply zah|apply zaf|apply zac|apply zaj|apply zag|apply zam|(apply zae;· simp[*,zaa])|(apply zab;· simp[*,zaa]));try simp only[Then,Ops])|simp only[Nat.reduceEqDiff,reduceIte,OutB,Then]))
    refine zcg hdf rfl e2 (by simp only[resL,resOf,zal];simp[resV,pickC,List.getElem?_set_self (get_lt e2)];rfl) ⟨by simp,by simp⟩
  · obtain ⟨hv,hist,hcan⟩:=err_ok h1
    rw[h1,if_pos rfl]
    subst hist
    simp only[Bool.and_eq_true] at hisdef
    obtain ⟨i,rfl,hil⟩:=zlb hisdef.1
    obtain ⟨s1,s2,s3⟩:=zif (d:=i) (by have:=((Clm.valid_iff c).1 hv).piles;omega)
    rw[Int.toNat_natCast]
    obtain ⟨H3,tc3,k1,k2,k3,k4⟩:=hT hv H2 yb mb h5 (2 ^ i)
    have e0:H2[1]?=some (.cells [.int .i64 i]):=h4.at rfl (by simp)
    have e2:H3[2]?=some (.cells [.int .i64 s]):=k3.at (h4.at rfl (by simp)) (fun h=>by have:=k2 _ h;simp at h7;omega)
    have e3:H3[3]?=some (.cells [.int .i64 0]):=k3.at (h4.at rfl (by simp)) (fun h=>by have:=k2 _ h;simp at h7;omega)
    obtain ⟨o0,o1,o2,o3,o4,o5⟩:=bk' e0
    obtain ⟨f0,f1,f2,f3,f4,f5⟩:=bk' e2
    obtain ⟨g0,g1,g2,g3,g4,g5⟩:=bk' e3
    generalize Clm.together c (2 ^ i)=sp at *
    generalize 2 ^ i=P at s1 s2 s3 k1
    clear hH hT hF h1 h4 h5 h6 h7 h8 hcan hv k2 k3 k4 hisdef
    simp only[zipI,clampCs] at *
    by_cases q1:s≤sp.lo
    · have hN:enoughN sp s=2:=if_pos q1
      rw[hN]
      clear hN
      (repeat (first|(with_reducible apply zad;(focus ((conv=>lhs;simp[*,Nat.testBit_eq_decide_div_mod_eq])<;>exact rfl));simp only[addFl])|(with_reducible apply zay;(focus ((conv=>lhs;simp[*,Nat.testBit_eq_decide_div_mod_eq])<;>exact rfl));(try simp only[Ops,Then,OutB]);(try dsimp only))|((with_reducible first|apply zai|apply zak|apply zah|apply zaf|apply zac|apply zaj|apply zag|apply zam|(apply zae;· simp[*,zaa])|(apply zab;· simp[*,zaa]));try simp only[Then,Ops,OutB])|simp only[Nat.reduceEqDiff,reduceIte,OutB,Then]))
      refine zdj (v:=.tup [.int .i64 2,.int .i64 0]) (.inl rfl) hdf rfl (by simp) (by simp only[resL,resOf,zal];simp[resV,pickC,zgl,g0]) ⟨rfl,by simp⟩
    · by_cases q2:sp.hi<s
      · have hN:enoughN sp s=0:=by unfold enoughN;rw[if_neg q1,if_pos q2]
        rw[hN]
        clear hN
        (repeat (first|(with_reducible apply zad;(focus ((conv=>lhs;simp[*,Nat.testBit_eq_decide_div_mod_eq])<;>exact rfl));simp only[addFl])|(with_reducible apply zay;(focus ((conv=>lhs;simp[*,Nat.testBit_eq_decide_div_mod_eq])<;>exact rfl));(try simp only[Ops,Then,OutB]);(try dsimp only))|((with_reducible first|apply zai|apply zak|apply zah|apply zaf|apply zac|apply zaj|apply zag|apply zam|(apply zae;· simp[*,zaa])|(apply zab;· simp[*,zaa]));try simp only[Then,Ops,OutB])|simp only[Nat.reduceEqDiff,reduceIte,OutB,Then]))
        refine zdj (v:=.tup [.int .i64 0,.int .i64 0]) (.inl rfl) hdf rfl (by simp) (by simp only[resL,resOf,zal];simp[resV,pickC,zgl,g0]) ⟨rfl,by simp⟩
      · have hN:enoughN sp s=1:=by unfold enoughN;rw[if_neg q1,if_neg q2]
        rw[hN]
        clear hN
        (repeat (first|(with_reducible apply zad;(focus ((conv=>lhs;simp[*,Nat.testBit_eq_decide_div_mod_eq])<;>exact rfl));simp only[addFl])|(with_reducible apply zay;(focus ((conv=>lhs;simp[*,Nat.testBit_eq_decide_div_mod_eq])<;>exact rfl));(try simp only[Ops,Then,OutB]);(try dsimp only))|((with_reducible first|apply zai|apply zak|apply zah|apply zaf|apply zac|apply zaj|apply zag|apply zam|(apply zae;· simp[*,zaa])|(apply zab;· simp[*,zaa]));try simp only[Then,Ops,OutB])|simp only[Nat.reduceEqDiff,reduceIte,OutB,Then]))
        refine zdj (v:=.tup [.int .i64 1,.int .i64 0]) (.inl rfl) hdf rfl (by simp) (by simp only[resL,resOf,zal];simp[resV,pickC,zgl,g0]) ⟨rfl,by simp⟩
end K
end Ev
end Go.Proofs.YtimgnlellflciaaGreat

/- Sets, by their sizes. No program in sight. -/
namespace Go.Proofs.YtimgnlellflciaaGreat
namespace Clm
set_option maxRecDepth 100000
def cntF:Nat→Nat→Nat
  |0,_=>0
  |f+1,n=>n % 2+cntF f (n / 2)
def sizeN (n:Nat):Nat:=cntF 16 n
def setsBy (k:Nat):List Nat:=(List.range (k+1)).flatMap fun s=>(List.range (2 ^ k)).filter fun n=>sizeN n==s
def ltS (a b:Nat):Bool:=decide (sizeN a<sizeN b) || (sizeN a==sizeN b&&decide (a<b))
def pairB:List Nat→Bool
  |[]=>true
  |a::l=>l.all (ltS a)&&pairB l
def goodB (k:Nat):Bool:=pairB (setsBy k)&&(List.range (2 ^ k)).all (fun n=>(setsBy k).contains n)&&(setsBy k).all (fun n=>decide (n<2 ^ k))&&(setsBy k).length==2 ^ k
theorem zld:∀ k,k<7→goodB k=true:=by decide +kernel
theorem zvd:∀ {l:List Nat},pairB l=true→l.Pairwise (fun a b=>ltS a b=true)
  |[],_=>.nil
  |a::l,h=>by
    simp only[pairB,Bool.and_eq_true,List.all_eq_true] at h
    exact .cons h.1 (zvd h.2)
theorem mem_sets {k:Nat}(hk:k≤6)(n:Nat):n∈setsBy k↔n<2 ^ k:=by
  have h:=zld k (by omega)
  simp only[goodB,Bool.and_eq_true,List.all_eq_true,decide_eq_true_eq] at h
  constructor
  · exact fun hn=>h.1.2 n hn
  · intro hn
    have:=h.1.1.2 n (by simpa using hn)
    simpa using this
theorem sets_len {k:Nat}(hk:k≤6):(setsBy k).length=2 ^ k:=by
  have h:=zld k (by omega)
  simp only[goodB,Bool.and_eq_true] at h
  simpa using h.2
theorem yaz (a b:Nat):ltS a b=true↔sizeN a<sizeN b∨sizeN a=sizeN b∧a<b:=by
  simp[ltS]
structure Least (k:Nat) (p:Nat→Bool) (S:Nat):Prop where
  lt:S<2 ^ k
  is:p S=true
  least:∀ o,o<2 ^ k→p o=true→sizeN S<sizeN o∨sizeN S=sizeN o∧S≤o
theorem zkc {p:Nat→Bool}{S:Nat}:∀ {l:List Nat},l.Pairwise (fun a b=>ltS a b=true)→l.find? p=some S→S∈l∧p S=true∧∀ o∈l,p o=true→sizeN S<sizeN o∨sizeN S=sizeN o∧S≤o
  |[],_,h=>by simp at h
  |a::l,hp,h=>by
    cases hp with
    |cons h1 h2=>
      rw[List.find?_cons] at h
      split at h
      · rename_i ha
        cases h
        refine ⟨by simp,ha,fun o ho hpo=>?_⟩
        rcases List.mem_cons.1 ho with rfl|ho
        · exact .inr ⟨rfl,Nat.le_refl _⟩
        · rcases (yaz _ _).1 (h1 o ho) with h|⟨h,h'⟩
          · exact .inl h
          · exact .inr ⟨h,Nat.le_of_lt h'⟩
      · rename_i ha
        obtain ⟨g1,g2,g3⟩:=zkc h2 h
        refine ⟨by simp[g1],g2,fun o ho hpo=>?_⟩
        rcases List.mem_cons.1 ho with rfl|ho
        · rw[hpo] at ha;cases ha
        · exact g3 o ho hpo
theorem zom {k:Nat}(hk:k≤6){p:Nat→Bool}{S:Nat}(h:(setsBy k).find? p=some S):Least k p S:=by
  have hg:=zld k (by omega)
  simp only[goodB,Bool.and_eq_true] at hg
  obtain ⟨h1,h2,h3⟩:=zkc (zvd hg.1.1.1) h
  exact ⟨(mem_sets hk S).1 h1,h2,fun o ho=>h3 o ((mem_sets hk o).2 ho)⟩
theorem zkb {k:Nat}(hk:k≤6){p:Nat→Bool}(h:(setsBy k).find? p=none):∀ o,o<2 ^ k→p o=false:=by
  intro o ho
  rw[List.find?_eq_none] at h
  simpa using h o ((mem_sets hk o).2 ho)
theorem first_some {k:Nat}(hk:k≤6){p:Nat→Bool}{o:Nat}(ho:o<2 ^ k)(hp:p o=true):∃ S,(setsBy k).find? p=some S:=by
  cases h:(setsBy k).find? p with
  |some S=>exact ⟨S,rfl⟩
  |none=>rw[zkb hk h o ho] at hp;cases hp
end Clm
end Go.Proofs.YtimgnlellflciaaGreat

/- Sets as numbers. -/
namespace Go.Proofs.YtimgnlellflciaaGreat
open Go
namespace Clm
def setOf (p:Nat→Bool):Nat→Nat
  |0=>0
  |i+1=>if p i then setOf p i+2 ^ i else setOf p i
theorem zbp (p:Nat→Bool):∀ n,setOf p n<2 ^ n
  |0=>by simp[setOf]
  |n+1=>by
    have:=zbp p n
    unfold setOf
    rw[Nat.pow_succ]
    split<;>omega
theorem zdl (p:Nat→Bool):∀ n i,(setOf p n).testBit i=(decide (i<n)&&p i)
  |0,i=>by simp[setOf]
  |n+1,i=>by
    have ih:=zdl p n i
    have hl:=zbp p n
    have hl1:=zbp p (n+1)
    rcases Nat.lt_trichotomy i n with h|h|h
    · have e:(setOf p (n+1)).testBit i=(setOf p n).testBit i:=by
        show (if p n then setOf p n+2 ^ n else setOf p n).testBit i=_
        split
        · rw[Nat.add_comm,Nat.testBit_two_pow_add_gt h]
        · rfl
      rw[e,ih]
      congr 1
      simp;omega
    · subst h
      have h0:(setOf p i).testBit i=false:=Nat.testBit_lt_two_pow hl
      have e:(setOf p (i+1)).testBit i=p i:=by
        show (if p i then setOf p i+2 ^ i else setOf p i).testBit i=_
        split
        · rename_i hp
          rw[Nat.add_comm,Nat.testBit_two_pow_add_eq,h0,hp];rfl
        · rename_i hp
          rw[h0];simpa using hp
      rw[e];simp
    · rw[Nat.testBit_lt_two_pow (Nat.lt_of_lt_of_le hl1 (Nat.pow_le_pow_right (by decide) (by omega)))]
      simp;omega
def countsN (c:Cl):Nat:=setOf (fun i=>decide ((c.events.getD i default).kind=1)) c.events.length
theorem zwv (c:Cl)(i:Nat):(every c).testBit i=decide (i<c.events.length):=by
  unfold every;rw[Nat.testBit_two_pow_sub_one]
theorem zni {c:Cl}(hc:Fine c)(n:Int){s t:Nat}(h:∀ i v,c.events[i]?=some v→v.kind=1→s.testBit i=t.testBit i):befell c n s=befell c n t:=by
  unfold befell
  refine List.map_congr_left fun p hp=>?_
  obtain ⟨v,i⟩:=p
  obtain ⟨h1,h2,h3⟩:=List.mem_zipIdx hp
  simp only[Nat.sub_zero] at h3
  have hge:c.events[i]?=some v:=by rw[List.getElem?_eq_getElem (by omega),h3]
  simp only
  split
  · rfl
  · split
    · rfl
    · rename_i hk
      have hv:=hc.event v (List.mem_of_getElem? hge)
      unfold bit
      rw[h i v hge (by omega)]
theorem zre {c:Cl}{s t:Nat}(h:∀ n:Int,befell c n s=befell c n t)(i:Nat)(k:Int):ways c i k s=ways c i k t:=by
  unfold ways logOf;rw[h i]
theorem zny {c:Cl}{s t:Nat}(h:∀ n:Int,befell c n s=befell c n t):packs c s=packs c t:=by
  unfold packs
  congr 1
  funext k
  congr 1
  funext i
  rw[zre h]
theorem zxl {c:Cl}{s t:Nat}(h:∀ n:Int,befell c n s=befell c n t):can c s=can c t:=by
  unfold can;rw[zny h]
theorem can_counts {c:Cl}(hc:Fine c):can c (countsN c)=can c (every c):=by
  refine zxl fun n=>zni hc n fun i v hv hk=>?_
  have hi:=(List.getElem?_eq_some_iff.1 hv).1
  rw[zwv]
  unfold countsN
  rw[zdl,List.getD_eq_getElem?_getD,hv]
  simp[hi,hk]
end Clm
end Go.Proofs.YtimgnlellflciaaGreat

/- Package clamp, gone through: which clamps are empty. -/
namespace Go.Proofs.YtimgnlellflciaaGreat
open Go
namespace Ev
namespace K
attribute [local simp] ev1 wantG spineK spine float xnew xval xeff zaa zar zbb zau zav addFl cellsOf pickC alive slLen slFt binI maxA maxK minA minK aeqK aeqS AV.cells spA zas fillA setAt bitsI nat_nn zbe AV.plain apart
open Clm (setOf zbp)
set_option maxRecDepth 100000
set_option maxHeartbeats 4000000
theorem yal {d:Nat}(h:d≤40):IntKind.i64.wrap (1 * 2 ^ (min ((d:Int).toNat) IntKind.i64.bits))=((2 ^ d:Nat):Int)∧IntKind.i64.wrap (2 ^ (min ((d:Int).toNat) IntKind.i64.bits))=((2 ^ d:Nat):Int)∧IntKind.i64.wrap (2 ^ (min d IntKind.i64.bits))=((2 ^ d:Nat):Int):=by
  have hb:IntKind.i64.bits=64:=rfl
  have h1:min ((d:Int).toNat) IntKind.i64.bits=d:=by rw[hb];omega
  have h1':min d IntKind.i64.bits=d:=by rw[hb];omega
  have h2:(2:Int) ^ d=((2 ^ d:Nat):Int):=by simp
  have h3:2 ^ d≤2 ^ 40:=Nat.pow_le_pow_right (by decide) h
  have h4:∀ q:Nat,q≤2 ^ 40→IntKind.i64.wrap (q:Int)=q:=by
    intro q hq
    exact zat (by omega) (by omega)
  rw[h1,h1',Int.one_mul,h2]
  exact ⟨h4 _ h3,h4 _ h3,h4 _ h3⟩
theorem zpx:∀ i,i<7→∀ a,a<2 ^ i→IntKind.i64.wrap ((BitVec.ofInt IntKind.i64.bits ((a:Nat):Int) ||| BitVec.ofInt IntKind.i64.bits ((2 ^ i:Nat):Int)).toNat)=((a+2 ^ i:Nat):Int):=by decide +kernel
theorem zyr:∀ i,i<7→∀ a,a<2 ^ i→IntKind.u64.wrap ((BitVec.ofInt IntKind.u64.bits ((a:Nat):Int) ||| BitVec.ofInt IntKind.u64.bits ((2 ^ i:Nat):Int)).toNat)=((a+2 ^ i:Nat):Int):=by decide +kernel
def emptyS (c:Clm.Cl):Nat:=setOf (fun i=>decide ((Clm.together c (2 ^ i)).hi=0)) c.piles.length
def emptyP (c:Clm.Cl):Nat:=setOf (fun i=>decide ((Clm.together c (2 ^ i)).lo=0)) c.piles.length
def emptyR (c:Clm.Cl):AV:=.tup [.int .i64 (if errOf c true=0 then (emptyS c:Int) else 0),.int .i64 (if errOf c true=0 then (emptyP c:Int) else 0),.int .i64 (errOf c true)]
theorem zta (C:Cfg)(hC:C.calm=true)(call call1:CallF)(c:Clm.Cl)(hdf:C.dfk 57=some (104,true))(hA:AlwaysC call1)(hH:HeadCall call call1 c)(hT:Clm.valid c=true→TogCall call c):
    Does (ev C call ([]:List AB).length none af17.body { tm:=tmA af17.ntmps (zipI 0 [.agg (clampCs c)] []),df:=[],hp:=[],tc:=[] })
      (Fin C ([]:List AB).length af17 (Ans (emptyR c))):=by
  have hh:=hH [.cells (clampCs c),.cells [.int .i64 0]] (.fn (.func 46) [] []) true (fun _ G yb mb _ _=>hA G _)
  unfold emptyR
  unfold af17
  rcases hh with ⟨h1,h2,h3⟩|⟨h1,H1,yb,H2,tc,h2,h3,h4,h5⟩|⟨h1,H1,yb,mb,H2,tc,h2,h3,h4,h5,h6,h7,h8⟩
  · generalize errOf c true=e at *
    simp only[if_neg h1]
    clear hH hT hA h1 h2
    simp only[zipI,clampCs,stopV] at *
    (repeat (first|(with_reducible apply zad;(focus ((conv=>lhs;simp[*,Nat.testBit_eq_decide_div_mod_eq])<;>exact rfl));simp only[addFl])|(with_reducible apply zay;(focus ((conv=>lhs;simp[*,Nat.testBit_eq_decide_div_mod_eq])<;>exact rfl));(try simp only[Ops,Then]);(try dsimp only))|((with_reducible first|apply zai|apply zak|apply zah|apply zaf|apply zac|apply zaj|apply zag|apply zam|(apply zae;· simp[*,zaa])|(apply zab;· simp[*,zaa]));try simp only[Then,Ops])|simp only[Nat.reduceEqDiff,reduceIte,OutB,Then]))
    refine zcg hdf rfl rfl (by simp only[resL,resOf,zal];simp[resV,pickC];rfl) ⟨by simp,by simp⟩
  · rw[h1]
    simp only[if_neg (show ¬ ((10:Int)=0) by decide)]
    have e2:H2[1]?=some (.cells [.int .i64 0]):=h4.at rfl (by simp)
    clear hH hT hA h1 h4 h5
    simp only[zipI,clampCs,stopV] at *
    (repeat (first|(with_reducible apply zad;(focus ((conv=>lhs;simp[*,Nat.testBit_eq_decide_div_mod_eq])<;>exact rfl));simp only[addFl])|(with_reducible apply zay;(focus ((conv=>lhs;simp[*,Nat.testBit_eq_decide_div_mod_eq])<;>exact rfl));(try simp only[Ops,Then]);(try dsimp only))|((with_reducible first|apply zai|apply zak|apply zah|apply zaf|apply zac|apply zaj|apply zag|apply zam|(apply zae;· simp[*,zaa])|(apply zab;· simp[*,zaa]));try simp only[Then,Ops])|simp only[Nat.reduceEqDiff,reduceIte,OutB,Then]))
    refine zcg hdf rfl e2 (by simp only[resL,resOf,zal];simp[resV,pickC,List.getElem?_set_self (get_lt e2)];rfl) ⟨by simp,by simp⟩
  · obtain ⟨hv,_,hcan⟩:=err_ok h1
    have hpn:=((Clm.valid_iff c).1 hv).piles
    rw[h1]
    simp only
    have hT':=hT hv
    have e0:H2[0]?=some (.cells (clampCs c)):=h4.at rfl (by simp)
    have e2:H2[1]?=some (.cells [.int .i64 0]):=h4.at rfl (by simp)
    obtain ⟨f0,f1,f2,f3,f4,f5⟩:=bk' e0
    have HX:=hideP (And.intro hT' (And.intro h5 (And.intro h6 (And.intro h7 e2))))
    clear hH hT hA h1 h4 h5 h6 h7 h8 hcan hv hT' e2 e0
    simp only[zipI,clampCs] at *
    (repeat (first|(with_reducible apply zad;(focus ((conv=>lhs;simp[*,Nat.testBit_eq_decide_div_mod_eq])<;>exact rfl));simp only[addFl])|(with_reducible apply zay;(focus ((conv=>lhs;simp[*,Nat.testBit_eq_decide_div_mod_eq])<;>exact rfl));(try simp only[Ops,Then,OutB]);(try dsimp only))|((with_reducible first|apply zai|apply zak|apply zah|apply zaf|apply zac|apply zaj|apply zag|apply zam|(apply zae;· simp[*,zaa])|(apply zab;· simp[*,zaa]));try simp only[Then,Ops,reduceIte])|simp only[Nat.reduceEqDiff,reduceIte,OutB,Then]))
    have hml:mb<H2.length:=by obtain ⟨es,hm,_⟩:=HX.out.2.1.m;exact get_lt hm
    with_reducible refine zaz hC c.piles.length (by unfold fuelL;omega) (fun i st=>∃ hp,Yd c yb mb hp∧hp[1]?=some (.cells [.int .i64 0])∧st={ tm:=tmA 41 [(17,.int .i64 i),(16,.int .i64 c.piles.length),(7,.int .i64 (setOf (fun i=>decide ((Clm.together c (2 ^ i)).lo=0)) i)),(6,.int .i64 (setOf (fun i=>decide ((Clm.together c (2 ^ i)).hi=0)) i)),(5,.ptr yb 0),(4,.ptr 1 0)],df:=[.call 57 [.ptr 1 0]],hp:=hp,tc:=[] }) ?_ ?_ ?_
    · refine ⟨H2,HX.out.2.1,HX.out.2.2.2.2,?_⟩
      refine st_is ?_ ?_ ?_ ?_
      · simp[zan,zaq,setOf]
      · rfl
      · rfl
      · simp
    · rintro i st hi ⟨hp,hY,h1p,rfl⟩
      obtain ⟨hT,_,h6,h7,_⟩:=HX.out
      obtain ⟨H3,tc3,k1,k2,k3,k4⟩:=hT hp yb mb hY (2 ^ i)
      have e3:H3[1]?=some (.cells [.int .i64 0]):=k3.at h1p (fun h=>by have:=k2 _ h;simp at h7;omega)
      have hl3:2≤H3.length:=by have:=get_lt e3;omega
      obtain ⟨s1,s2,s3⟩:=zif (d:=i) (by omega)
      obtain ⟨t1,t2,t3⟩:=yal (d:=i) (by omega)
      have o1:=zpx i (by omega) _ (zbp (fun i=>decide ((Clm.together c (2 ^ i)).hi=0)) i)
      have o2:=zpx i (by omega) _ (zbp (fun i=>decide ((Clm.together c (2 ^ i)).lo=0)) i)
      have n1:setOf (fun i=>decide ((Clm.together c (2 ^ i)).hi=0)) (i+1)=if decide ((Clm.together c (2 ^ i)).hi=0)=true then setOf (fun i=>decide ((Clm.together c (2 ^ i)).hi=0)) i+2 ^ i else setOf (fun i=>decide ((Clm.together c (2 ^ i)).hi=0)) i:=rfl
      have n2:setOf (fun i=>decide ((Clm.together c (2 ^ i)).lo=0)) (i+1)=if decide ((Clm.together c (2 ^ i)).lo=0)=true then setOf (fun i=>decide ((Clm.together c (2 ^ i)).lo=0)) i+2 ^ i else setOf (fun i=>decide ((Clm.together c (2 ^ i)).lo=0)) i:=rfl
      have hwi:IntKind.i64.wrap (↑i+1)=↑i+1:=zat (by omega) (by omega)
      have hY3:∀ K,Yd c yb mb (H3++K)∧(H3++K)[1]?=some (.cells [.int .i64 0]):=fun K=>⟨k4.app K,(Kp.app (S:=[]) H3 K).at e3 (by simp)⟩
      rw[n1,n2]
      have HN:=hideP hY3
      clear n1 n2 hY3 k2 k3 k4 e3 hT h6 h7 HX h1p hY
      generalize Clm.together c (2 ^ i)=sp at *
      generalize setOf (fun i=>decide ((Clm.together c (2 ^ i)).hi=0)) i=A at *
      generalize setOf (fun i=>decide ((Clm.together c (2 ^ i)).lo=0)) i=B at *
      generalize 2 ^ i=P at s1 s2 s3 t1 t2 t3 o1 o2 k1 ⊢
      simp at o1 o2
      by_cases q1:sp.hi=0
      · by_cases q2:sp.lo=0
        · simp only[q1,q2,decide_true,if_true]
          (repeat (first|(with_reducible apply zad;(focus ((conv=>lhs;simp[*,Nat.testBit_eq_decide_div_mod_eq])<;>exact rfl));simp only[addFl])|(with_reducible apply zay;(focus ((conv=>lhs;simp[*,Nat.testBit_eq_decide_div_mod_eq])<;>exact rfl));(try simp only[Ops,Then,OutB]);(try dsimp only))|((with_reducible first|apply zai|apply zak|apply zah|apply zaf|apply zac|apply zaj|apply zag|apply zam|(apply zae;· simp[*,zaa])|(apply zab;· simp[*,zaa]));try simp only[Then,Ops,OutB])|simp only[Nat.reduceEqDiff,reduceIte,OutB,Then]))
          refine ⟨_,(HN.out [.cells [.int .i64 sp.lo,.int .i64 sp.hi]]).1,(HN.out _).2,?_⟩
          (refine st_is ?_ ?_ ?_ ?_;(focus (simp[zan,zaq]));(focus rfl);(focus (first|rfl|(simp;done)|(simp[*];done)|(simp;rfl)|(simp[*];omega)|(simp;omega)));(focus (first|rfl|simp)))
        · simp only[q1,q2,decide_true,decide_false,if_true,Bool.false_eq_true,if_false]
          have q2':(sp.lo==0)=false:=by simpa using q2
          (repeat (first|(with_reducible apply zad;(focus ((conv=>lhs;simp[*,Nat.testBit_eq_decide_div_mod_eq])<;>exact rfl));simp only[addFl])|(with_reducible apply zay;(focus ((conv=>lhs;simp[*,Nat.testBit_eq_decide_div_mod_eq])<;>exact rfl));(try simp only[Ops,Then,OutB]);(try dsimp only))|((with_reducible first|apply zai|apply zak|apply zah|apply zaf|apply zac|apply zaj|apply zag|apply zam|(apply zae;· simp[*,zaa])|(apply zab;· simp[*,zaa]));try simp only[Then,Ops,OutB])|simp only[Nat.reduceEqDiff,reduceIte,OutB,Then]))
          refine ⟨_,(HN.out [.cells [.int .i64 sp.lo,.int .i64 sp.hi]]).1,(HN.out _).2,?_⟩
          (refine st_is ?_ ?_ ?_ ?_;(focus (simp[zan,zaq]));(focus rfl);(focus (first|rfl|(simp;done)|(simp[*];done)|(simp;rfl)|(simp[*];omega)|(simp;omega)));(focus (first|rfl|simp)))
      · have q1':(sp.hi==0)=false:=by simpa using q1
        by_cases q2:sp.lo=0
        · simp only[q1,q2,decide_true,decide_false,if_true,Bool.false_eq_true,if_false]
          (repeat (first|(with_reducible apply zad;(focus ((conv=>lhs;simp[*,Nat.testBit_eq_decide_div_mod_eq])<;>exact rfl));simp only[addFl])|(with_reducible apply zay;(focus ((conv=>lhs;simp[*,Nat.testBit_eq_decide_div_mod_eq])<;>exact rfl));(try simp only[Ops,Then,OutB]);(try dsimp only))|((with_reducible first|apply zai|apply zak|apply zah|apply zaf|apply zac|apply zaj|apply zag|apply zam|(apply zae;· simp[*,zaa])|(apply zab;· simp[*,zaa]));try simp only[Then,Ops,OutB])|simp only[Nat.reduceEqDiff,reduceIte,OutB,Then]))
          refine ⟨_,(HN.out [.cells [.int .i64 sp.lo,.int .i64 sp.hi]]).1,(HN.out _).2,?_⟩
          (refine st_is ?_ ?_ ?_ ?_;(focus (simp[zan,zaq]));(focus rfl);(focus (first|rfl|(simp;done)|(simp[*];done)|(simp;rfl)|(simp[*];omega)|(simp;omega)));(focus (first|rfl|simp)))
        · simp only[q1,q2,decide_false,Bool.false_eq_true,if_false]
          have q2':(sp.lo==0)=false:=by simpa using q2
          (repeat (first|(with_reducible apply zad;(focus ((conv=>lhs;simp[*,Nat.testBit_eq_decide_div_mod_eq])<;>exact rfl));simp only[addFl])|(with_reducible apply zay;(focus ((conv=>lhs;simp[*,Nat.testBit_eq_decide_div_mod_eq])<;>exact rfl));(try simp only[Ops,Then,OutB]);(try dsimp only))|((with_reducible first|apply zai|apply zak|apply zah|apply zaf|apply zac|apply zaj|apply zag|apply zam|(apply zae;· simp[*,zaa])|(apply zab;· simp[*,zaa]));try simp only[Then,Ops,OutB])|simp only[Nat.reduceEqDiff,reduceIte,OutB,Then]))
          refine ⟨_,(HN.out [.cells [.int .i64 sp.lo,.int .i64 sp.hi]]).1,(HN.out _).2,?_⟩
          (refine st_is ?_ ?_ ?_ ?_;(focus (simp[zan,zaq]));(focus rfl);(focus (first|rfl|(simp;done)|(simp[*];done)|(simp;rfl)|(simp[*];omega)|(simp;omega)));(focus (first|rfl|simp)))
    · rintro st ⟨hp,hY,h1p,rfl⟩
      have hS:setOf (fun i=>decide ((Clm.together c (2 ^ i)).hi=0)) c.piles.length=emptyS c:=rfl
      have hS2:setOf (fun i=>decide ((Clm.together c (2 ^ i)).lo=0)) c.piles.length=emptyP c:=rfl
      rw[hS,hS2]
      obtain ⟨g0,g1,g2,g3,g4,g5⟩:=bk' h1p
      generalize emptyS c=A at *
      generalize emptyP c=B at *
      clear hS hS2 HX hY f0 f1 f2 f3 f4 f5
      (repeat (first|(with_reducible apply zad;(focus ((conv=>lhs;simp[*,Nat.testBit_eq_decide_div_mod_eq])<;>exact rfl));simp only[addFl])|(with_reducible apply zay;(focus ((conv=>lhs;simp[*,Nat.testBit_eq_decide_div_mod_eq])<;>exact rfl));(try simp only[Ops,Then,OutB]);(try dsimp only))|((with_reducible first|apply zai|apply zak|apply zah|apply zaf|apply zac|apply zaj|apply zag|apply zam|(apply zae;· simp[*,zaa])|(apply zab;· simp[*,zaa]));try simp only[Then,Ops,OutB,reduceIte])|simp only[Nat.reduceEqDiff,reduceIte,OutB,Then]))
      refine zdj (v:=.tup [.int .i64 A,.int .i64 B,.int .i64 0]) (.inl rfl) hdf rfl (by simp) (by simp only[resL,resOf,zal];simp[resV,pickC,g0]) ⟨rfl,by simp⟩
end K
end Ev
end Go.Proofs.YtimgnlellflciaaGreat

/- Package clamp, gone through: the first set of which something is so. -/
namespace Go.Proofs.YtimgnlellflciaaGreat
open Go
namespace Ev
namespace K
attribute [local simp] ev1 wantG spineK spine float xnew xval xeff zaa zar zbb zau zav addFl cellsOf pickC alive slLen slFt binI maxA maxK minA minK aeqK aeqS AV.cells spA zas fillA setAt bitsI nat_nn zbe AV.plain apart
set_option maxRecDepth 100000
set_option maxHeartbeats 4000000
def SetF (call:CallF)(F:AV)(c:Clm.Cl)(yb mb:Nat)(H0:List AB)(p:Nat→Bool)(L:List Nat):Prop:=∀ G,Kp [mb] H0 G→Yd c yb mb G→∀ s∈L,∃ G' tc,call F [.int .u64 s] G=some (.ret (.bool (p s)),G',tc)∧(∀ j∈tc,j=mb)∧Kp tc G G'∧Yd c yb mb G'
def setE (s:Nat):AV:=.int .u64 s
def firstIx (p:Nat→Bool)(L:List Nat):Int:=match L.findIdx? p with|some i=>i|none=>-1
theorem zso (C:Cfg)(hC:C.calm=true)(call:CallF)(c:Clm.Cl)(H:List AB)(yb mb:Nat)(hY:Yd c yb mb H)(F:AV)(p:Nat→Bool)(L:List Nat)(hL:L.length≤1000)(hF:SetF call F c yb mb H p L):
    Does (ev C call H.length none af88.body { tm:=tmA af88.ntmps (zipI 0 [.vs 1 (L.map setE),F] []),df:=[],hp:=H,tc:=[] })
      (Ends C H.length af88.res fun v hp tc=>v=.int .i64 (firstIx p L)∧(∀ j∈tc,j=mb)∧Kp tc H hp∧Yd c yb mb hp):=by
  have hml:mb<H.length:=by obtain ⟨es,hm,_⟩:=hY.m;exact get_lt hm
  have HF:=hideP hF
  have HY:=hideP hY
  clear hF hY
  unfold af88
  simp only[zipI]
  (repeat (first|(with_reducible apply zad;(focus ((conv=>lhs;simp[*,Nat.testBit_eq_decide_div_mod_eq])<;>exact rfl));simp only[addFl])|((with_reducible first|apply zai|apply zak|apply zah|apply zaf|apply zac|apply zaj|apply zag|apply zam|(apply zae;· simp[*,zaa])|(apply zab;· simp[*,zaa]));try simp only[Then,Ops])|simp only[Nat.reduceEqDiff,reduceIte,OutB,Then]))
  with_reducible refine zaz hC L.length (by unfold fuelL;omega) (fun i st=>∃ hp tc,(∀ j∈tc,j=mb)∧Kp tc H hp∧Yd c yb mb hp∧(∀ j s,j<i→L[j]?=some s→p s=false)∧st={ tm:=tmA 19 [(8,.int .i64 i),(7,.int .i64 L.length),(1,F),(0,.vs 1 (L.map setE))],df:=[],hp:=hp,tc:=tc }) ?_ ?_ ?_
  · refine ⟨H,[],by simp,Kp.refl _ _,HY.out,by simp,?_⟩
    (refine st_is ?_ ?_ ?_ ?_;(focus (simp[zan,zaq]));(focus rfl);(focus (first|rfl|(simp;done)|(simp[*];done)|(simp;rfl)|(simp[*];omega)|(simp;omega)));(focus (first|rfl|simp)))
  · rintro i st hi ⟨hp,tc,h1,h2,h3,h4,rfl⟩
    have hgs:L[i]?=some L[i]:=List.getElem?_eq_getElem hi
    generalize L[i]=s at hgs
    have hgs':=ge_of hgs
    obtain ⟨hp',tc',k1,k2,k3,k4⟩:=HF.out hp (h2.mono fun b _ h=>by simpa using h1 b h) h3 s (List.mem_of_getElem? hgs)
    have hwi:IntKind.i64.wrap (↑i+1)=↑i+1:=zat (by omega) (by omega)
    have htc:∀ j∈tc'.filter (·<H.length)++tc,j=mb:=by
      intro j hj
      rcases List.mem_append.1 hj with h|h
      · exact k2 j (List.mem_filter.1 h).1
      · exact h1 j h
    have hkp:=h2.trans2 k3
    have hix:p s=true→firstIx p L=i:=by
      intro hps
      unfold firstIx
      have:L.findIdx? p=some i:=by
        rw[List.findIdx?_eq_some_iff_getElem]
        refine ⟨hi,?_,fun j hj=>?_⟩
        · rw[hgs' hi];exact hps
        · have:=h4 j (L[j]'(by omega)) hj (List.getElem?_eq_getElem _)
          simpa using this
      rw[this]
    have hnext:p s=false→∀ j t,j<i+1→L[j]?=some t→p t=false:=by
      intro hps j t hj ht
      by_cases h:j=i
      · subst h;rw[hgs] at ht;cases ht;exact hps
      · exact h4 j t (by omega) ht
    have HX:=hideP (And.intro hix hnext)
    clear hix hnext h1 h2 h3 h4 k2 k3
    cases hps:p s with
    |true=>
      rw[hps] at k1
      (repeat (first|(with_reducible apply zad;(focus ((conv=>lhs;simp[*,setE,Nat.testBit_eq_decide_div_mod_eq])<;>exact rfl));simp only[addFl])|((with_reducible first|apply zai|apply zak|apply zah|apply zaf|apply zac|apply zaj|apply zag|apply zam|(apply zae;· simp[*,zaa])|(apply zab;· simp[*,zaa]));try simp only[Then,Ops,OutB])|simp only[Nat.reduceEqDiff,reduceIte,OutB,Then]))
      refine zao (v:=.int .i64 (firstIx p L)) (.inl rfl) rfl hkp.len (by rw[HX.out.1 hps];exact (by simp only[resL,resOf,zal];simp[*,resV])) ⟨rfl,htc,hkp,k4⟩
    |false=>
      rw[hps] at k1
      (repeat (first|(with_reducible apply zad;(focus ((conv=>lhs;simp[*,setE,Nat.testBit_eq_decide_div_mod_eq])<;>exact rfl));simp only[addFl])|((with_reducible first|apply zai|apply zak|apply zah|apply zaf|apply zac|apply zaj|apply zag|apply zam|(apply zae;· simp[*,zaa])|(apply zab;· simp[*,zaa]));try simp only[Then,Ops,OutB])|simp only[Nat.reduceEqDiff,reduceIte,OutB,Then]))
      refine ⟨_,_,htc,hkp,k4,HX.out.2 hps,?_⟩
      (refine st_is ?_ ?_ ?_ ?_;(focus (simp[zan,zaq]));(focus rfl);(focus (first|rfl|(simp;done)|(simp[*];done)|(simp;rfl)|(simp[*];omega)|(simp;omega)));(focus (first|rfl|simp)))
  · rintro st ⟨hp,tc,h1,h2,h3,h4,rfl⟩
    have hix:firstIx p L=-1:=by
      unfold firstIx
      have:L.findIdx? p=none:=by
        rw[List.findIdx?_eq_none_iff]
        intro s hs
        obtain ⟨j,hj⟩:=List.mem_iff_getElem?.1 hs
        exact h4 j s (List.getElem?_eq_some_iff.1 hj).1 hj
      rw[this]
    have HX:=hideP (And.intro h1 (And.intro h2 h3))
    rw[hix]
    clear h1 h2 h3 h4 hix
    (repeat (first|(with_reducible apply zad;(focus ((conv=>lhs;simp[*,Nat.testBit_eq_decide_div_mod_eq])<;>exact rfl));simp only[addFl])|((with_reducible first|apply zai|apply zak|apply zah|apply zaf|apply zac|apply zaj|apply zag|apply zam|(apply zae;· simp[*,zaa])|(apply zab;· simp[*,zaa]));try simp only[Then,Ops,OutB,reduceIte])|simp only[Nat.reduceEqDiff,reduceIte,OutB,Then]))
    obtain ⟨h1,h2,h3⟩:=HX.out
    exact zao (v:=.int .i64 (-1)) (.inl rfl) rfl h2.len (by simp only[resL,resOf,zal];simp[*,resV]) ⟨rfl,h1,h2,h3⟩
theorem zsw (p:Nat→Bool)(L:List Nat):(L.find? p=none∧firstIx p L=-1)∨∃ i s,L.find? p=some s∧firstIx p L=(i:Nat)∧L[i]?=some s:=by
  unfold firstIx
  cases h:L.findIdx? p with
  |none=>
    refine .inl ⟨?_,rfl⟩
    rw[List.findIdx?_eq_none_iff] at h
    rw[List.find?_eq_none]
    intro x hx
    simp[h x hx]
  |some i=>
    obtain ⟨h1,h2,h3⟩:=List.findIdx?_eq_some_iff_getElem.1 h
    refine .inr ⟨i,L[i],?_,rfl,List.getElem?_eq_getElem h1⟩
    rw[List.find?_eq_some_iff_getElem]
    exact ⟨h2,i,h1,rfl,fun j hj=>by simpa using h3 j hj⟩
def IndexCall (call:CallF)(c:Clm.Cl)(call1:CallF):Prop:=∀ (H:List AB) (yb mb:Nat),Yd c yb mb H→∀ (F:AV) (p:Nat→Bool) (L:List Nat),L.length≤1000→SetF call1 F c yb mb H p L →
  ∃ H' tc,call (.fn (.func 88) [] []) [.vs 1 (L.map setE),F] H=some (.ret (.int .i64 (firstIx p L)),H',tc)∧(∀ j∈tc,j=mb)∧Kp tc H H'∧Yd c yb mb H'
theorem zsv (C:Cfg)(call call1:CallF)(hM:MustC call)(c:Clm.Cl)(hI:IndexCall call c call1)(H:List AB)(yb mb:Nat)(hY:Yd c yb mb H)(fl:Fn)(fa fb:List AV)(p:Nat→Bool)(L:List Nat)(hL:L.length≤1000)(hF:SetF call1 (.fn fl fa fb) c yb mb H p L):
    Does (ev C call H.length none af60.body { tm:=tmA af60.ntmps (zipI 0 [.vs 1 (L.map setE),.agg [.fn fl fa fb]] []),df:=[],hp:=H,tc:=[] })
      (Fin C H.length af60 fun x hp tc=>(∀ j∈tc,j=mb)∧Kp tc H hp∧Yd c yb mb hp∧x=match L.find? p with|some s=>.ret (.int .u64 s)|none=>.pan (stopV 4)):=by
  have hml:mb<H.length:=by obtain ⟨es,hm,_⟩:=hY.m;exact get_lt hm
  obtain ⟨H1,tc1,c1,c2,c3,c4⟩:=hI (H++[.cells [.fn fl fa fb]]) yb mb (hY.app _) (.fn fl fa fb) p L hL (fun G hG=>hF G ((Kp.app _ _).trans hG))
  have hmt:=hM.t
  have hmf:=hM.f
  have hf:tc1.filter (·<H.length)=tc1:=List.filter_eq_self.2 fun j hj=>by have:=c2 j hj;simp;omega
  have HA:=hideP (And.intro c2 (And.intro c3.pre c4))
  have hff:=zsw p L
  clear hI hF hY hM c2 c3 c4
  unfold af60
  simp only[zipI]
  rcases hff with ⟨h1,h2⟩|⟨i,s,h1,h2,h3⟩
  · rw[h1]
    rw[h2] at c1
    clear h1 h2
    (repeat (first|(with_reducible apply zad;(focus ((conv=>lhs;simp[*,Nat.testBit_eq_decide_div_mod_eq])<;>exact rfl));simp only[addFl])|(with_reducible apply zay;(focus ((conv=>lhs;simp[*,Nat.testBit_eq_decide_div_mod_eq])<;>exact rfl));(try simp only[Ops,Then]);(try dsimp only))|((with_reducible first|apply zai|apply zak|apply zah|apply zaf|apply zac|apply zaj|apply zag|apply zam|(apply zae;· simp[*,zaa])|(apply zab;· simp[*,zaa]));try simp only[Then,Ops])|simp only[Nat.reduceEqDiff,reduceIte,OutB,Then]))
    obtain ⟨c2,c3,c4⟩:=HA.out
    exact zbq rfl c3.len ⟨c2,c3,c4,rfl⟩
  · rw[h1]
    rw[h2] at c1
    have h3':=ge_of h3
    have h4:=(List.getElem?_eq_some_iff.1 h3).1
    clear h1 h2
    (repeat (first|(with_reducible apply zad;(focus ((conv=>lhs;simp[*,setE,Nat.testBit_eq_decide_div_mod_eq])<;>exact rfl));simp only[addFl])|(with_reducible apply zay;(focus ((conv=>lhs;simp[*,setE,Nat.testBit_eq_decide_div_mod_eq])<;>exact rfl));(try simp only[Ops,Then,OutB]);(try dsimp only))|((with_reducible first|apply zai|apply zak|apply zah|apply zaf|apply zac|apply zaj|apply zag|apply zam|(apply zae;· simp[*,zaa])|(apply zab;· simp[*,zaa]));try simp only[Then,Ops])|simp only[Nat.reduceEqDiff,reduceIte,OutB,Then]))
    obtain ⟨c2,c3,c4⟩:=HA.out
    exact ziu (v:=.int .u64 s) (.inl rfl) rfl c3.len (by simp only[resL,resOf,zal];simp[*,resV]) ⟨c2,c3,c4,rfl⟩
end K
end Ev
end Go.Proofs.YtimgnlellflciaaGreat

/- Package clamp, gone through: Share. -/
namespace Go.Proofs.YtimgnlellflciaaGreat
open Go
namespace Ev
namespace K
attribute [local simp] ev1 wantG spineK spine float xnew xval xeff zaa zar zbb zau zav addFl cellsOf pickC alive slLen slFt binI maxA maxK minA minK aeqK aeqS AV.cells spA zas fillA setAt bitsI nat_nn zbe AV.plain apart
set_option maxRecDepth 100000
set_option maxHeartbeats 4000000
def SetsC (call:CallF):Prop:=∀ (H:List AB) (k:Nat),k≤6→call (.fn (.func 61) [] []) [.int .i64 k] H=some (.ret (.vs 1 ((Clm.setsBy k).map setE)),H,[])
def FirstC (call call1:CallF)(c:Clm.Cl):Prop:=∀ (H:List AB) (yb mb:Nat),Yd c yb mb H→∀ (fl:Fn) (fa fb:List AV) (p:Nat→Bool) (L:List Nat),L.length≤1000→SetF call1 (.fn fl fa fb) c yb mb H p L →
  ∃ H' tc,(∀ j∈tc,j=mb)∧Kp tc H H'∧Yd c yb mb H'∧call (.fn (.func 60) [] []) [.vs 1 (L.map setE),.agg [.fn fl fa fb]] H=some (match L.find? p with|some s=>.ret (.int .u64 s)|none=>.pan (stopV 4),H',tc)
theorem znr (C:Cfg)(call:CallF)(c:Clm.Cl)(hT:TogCall call c)(H:List AB)(yb mb:Nat)(hY:Yd c yb mb H)(set:Nat)(n:Int)(b1 b2:Nat)(hb1:H[b1]?=some (.cells [.ptr yb 0]))(hb2:H[b2]?=some (.cells [.int .i64 n]))(hne:b1≠mb∧b2≠mb):
    Does (ev C call H.length none af62.body { tm:=tmA af62.ntmps (zipI 0 [.int .u64 set,.ptr b1 0,.ptr b2 0] []),df:=[],hp:=H,tc:=[] })
      (Ends C H.length af62.res fun v hp tc=>v=.bool (decide ((Clm.together c set).lo≥n))∧(∀ j∈tc,j=mb)∧Kp tc H hp∧Yd c yb mb hp):=by
  have hml:mb<H.length:=by obtain ⟨es,hm,_⟩:=hY.m;exact get_lt hm
  obtain ⟨H1,tc1,c1,c2,c3,c4⟩:=hT H yb mb hY set
  obtain ⟨f0,f1,f2,f3,f4,f5⟩:=bk' hb1
  obtain ⟨g0,g1,g2,g3,g4,g5⟩:=bk' hb2
  have hf:tc1.filter (·<H.length)=tc1:=List.filter_eq_self.2 fun j hj=>by have:=c2 j hj;simp;omega
  have t1:¬ b1∈tc1:=fun h=>hne.1 (c2 _ h)
  have t2:¬ b2∈tc1:=fun h=>hne.2 (c2 _ h)
  have HA:=hideP (And.intro c2 (And.intro c3 c4))
  clear hT hY hb1 hb2 hne c2 c3 c4
  generalize Clm.together c set=sp at *
  unfold af62
  simp only[zipI]
  (repeat (first|(with_reducible apply zad;(focus ((conv=>lhs;simp[*,Nat.testBit_eq_decide_div_mod_eq])<;>exact rfl));simp only[addFl])|((with_reducible first|apply zai|apply zak|apply zah|apply zaf|apply zac|apply zaj|apply zag|apply zam|(apply zae;· simp[*,zaa])|(apply zab;· simp[*,zaa]));try simp only[Then,Ops])|simp only[Nat.reduceEqDiff,reduceIte,OutB,Then]))
  obtain ⟨c2,c3,c4⟩:=HA.out
  exact zao (v:=.bool (decide (sp.lo≥n))) (.inl rfl) rfl c3.len (by simp only[resL,resOf,zal];simp[*,resV]) ⟨rfl,c2,c3,c4⟩
theorem zrn (C:Cfg)(call:CallF)(hA:AreSodsC call)(H:List AB)(v:AV)(s:Int)(b2:Nat)(hb2:H[b2]?=some (.cells [.int .i64 s])):
    Does (ev C call H.length none af59.body { tm:=tmA af59.ntmps (zipI 0 [v,.ptr b2 0] []),df:=[],hp:=H,tc:=[] })
      (Ends C H.length af59.res fun v _hp tc=>v=.bool (isS s)∧tc=[]):=by
  have ha:=fun H=>hA H s
  obtain ⟨g0,g1,g2,g3,g4,g5⟩:=bk' hb2
  unfold isS
  generalize decide (0≤s∧s≤20000)=b2 at *
  clear hA
  unfold af59
  simp only[zipI]
  (repeat (first|(with_reducible apply zad;(focus ((conv=>lhs;simp[*,Nat.testBit_eq_decide_div_mod_eq])<;>exact rfl));simp only[addFl])|((with_reducible first|apply zai|apply zak|apply zah|apply zaf|apply zac|apply zaj|apply zag|apply zam|(apply zae;· simp[*,zaa])|(apply zab;· simp[*,zaa]));try simp only[Then,Ops])|simp only[Nat.reduceEqDiff,reduceIte,OutB,Then]))
  exact zao (v:=.bool b2) (.inl rfl) rfl (by simp) (by simp only[resL,resOf,zal];simp[*,resV]) ⟨rfl,rfl⟩
def shareP (c:Clm.Cl)(n:Int)(set:Nat):Bool:=decide ((Clm.together c set).lo≥n)
def shareF (c:Clm.Cl)(n:Int):Option Nat:=(Clm.setsBy c.piles.length).find? (shareP c n)
def shareE (c:Clm.Cl)(n:Int):Int:=if errOf c (isS n)=0 then (match shareF c n with|some _=>0|none=>4) else errOf c (isS n)
def shareV (c:Clm.Cl)(n:Int):Int:=if errOf c (isS n)=0 then (match shareF c n with|some s=>(s:Int)|none=>0) else 0
def shareR (c:Clm.Cl)(n:Int):AV:=.tup [.int .i64 (shareV c n),.int .i64 (shareE c n)]
theorem zrm (C:Cfg)(call call1 call2:CallF)(c:Clm.Cl)(hdf:C.dfk 58=some (104,true))(hH:HeadCall call call2 c)(hSe:SetsC call)(hFi:Clm.valid c=true→FirstC call call1 c)(s:Int)
    (hF:Clm.valid c=true→∀ G yb mb,Kp [] [.cells (clampCs c),.cells [.int .i64 s],.cells [.int .i64 0]] G→Yd c yb mb G→call2 (.fn (.func 59) [] [.ptr 1 0]) [.ptr yb 0] G=some (.ret (.bool (isS s)),G,[]))
    (hG:Clm.valid c=true→∀ H yb mb b1 b2,H[b1]?=some (.cells [.ptr yb 0])→H[b2]?=some (.cells [.int .i64 s])→b1≠mb→b2≠mb→∀ L,SetF call1 (.fn (.func 62) [] [.ptr b1 0,.ptr b2 0]) c yb mb H (shareP c s) L):
    Does (ev C call ([]:List AB).length none af19.body { tm:=tmA af19.ntmps (zipI 0 [.agg (clampCs c),.int .i64 s] []),df:=[],hp:=[],tc:=[] })
      (Fin C ([]:List AB).length af19 (Ans (shareR c s))):=by
  have hh:=hH [.cells (clampCs c),.cells [.int .i64 s],.cells [.int .i64 0]] (.fn (.func 59) [] [.ptr 1 0]) _ hF
  unfold shareR shareV shareE
  unfold af19
  rcases hh with ⟨h1,h2,h3⟩|⟨h1,H1,yb,H2,tc,h2,h3,h4,h5⟩|⟨h1,H1,yb,mb,H2,tc,h2,h3,h4,h5,h6,h7,h8⟩
  · generalize errOf c (isS s)=e at *
    simp only[if_neg h1]
    clear hH hF hG hSe hFi h1 h2
    simp only[zipI,clampCs,stopV] at *
    (repeat (first|(with_reducible apply zad;(focus ((conv=>lhs;simp[*,Nat.testBit_eq_decide_div_mod_eq])<;>exact rfl));simp only[addFl])|(with_reducible apply zay;(focus ((conv=>lhs;simp[*,Nat.testBit_eq_decide_div_mod_eq])<;>exact rfl));(try simp only[Ops,Then]);(try dsimp only))|((with_reducible first|apply zai|apply zak|apply zah|apply zaf|apply zac|apply zaj|apply zag|apply zam|(apply zae;· simp[*,zaa])|(apply zab;· simp[*,zaa]));try simp only[Then,Ops])|simp only[Nat.reduceEqDiff,reduceIte,OutB,Then]))
    refine zcg hdf rfl rfl (by simp only[resL,resOf,zal];simp[resV,pickC];rfl) ⟨by simp,by simp⟩
  · rw[h1]
    simp only[if_neg (show ¬ ((10:Int)=0) by decide)]
    have e2:H2[2]?=some (.cells [.int .i64 0]):=h4.at rfl (by simp)
    clear hH hF hG hSe hFi h1 h4 h5
    simp only[zipI,clampCs,stopV] at *
    (repeat (first|(with_reducible apply zad;(focus ((conv=>lhs;simp[*,Nat.testBit_eq_decide_div_mod_eq])<;>exact rfl));simp only[addFl])|(with_reducible apply zay;(focus ((conv=>lhs;simp[*,Nat.testBit_eq_decide_div_mod_eq])<;>exact rfl));(try simp only[Ops,Then]);(try dsimp only))|((with_reducible first|apply zai|apply zak|apply zah|apply zaf|apply zac|apply zaj|apply zag|apply zam|(apply zae;· simp[*,zaa])|(apply zab;· simp[*,zaa]));try simp only[Then,Ops])|simp only[Nat.reduceEqDiff,reduceIte,OutB,Then]))
    refine zcg hdf rfl e2 (by simp only[resL,resOf,zal];simp[resV,pickC,List.getElem?_set_self (get_lt e2)];rfl) ⟨by simp,by simp⟩
  · obtain ⟨hv,hist,hcan⟩:=err_ok h1
    rw[h1]
    simp only
    have hpn:=((Clm.valid_iff c).1 hv).piles
    have hml:mb<H2.length:=by obtain ⟨es,hm,_⟩:=h5.m;exact get_lt hm
    have hl2:=h4.len
    simp only[List.length_cons,List.length_nil] at hl2 h6 h7
    have e0:H2[0]?=some (.cells (clampCs c)):=h4.at rfl (by simp)
    have hse:=fun H=>hSe H c.piles.length (by omega)
    have hlen:(Clm.setsBy c.piles.length).length≤1000:=by
      rw[Clm.sets_len (by omega)]
      have:2 ^ c.piles.length≤2 ^ 4:=Nat.pow_le_pow_right (by decide) hpn.2
      omega
    obtain ⟨H3,tc3,k1,k2,k3,k4⟩:=hFi hv (H2++[.cells [.ptr yb 0]]) yb mb (h5.app _) (.func 62) [] [.ptr H2.length 0,.ptr 1 0] (shareP c s) (Clm.setsBy c.piles.length) hlen (hG hv _ yb mb H2.length 1 (by simp) ((Kp.app (S:=[]) _ _).at (h4.at rfl (by simp)) (by simp)) (by omega) (by omega) _)
    have e3:H3[2]?=some (.cells [.int .i64 0]):=k2.at ((Kp.app (S:=[]) _ _).at (h4.at rfl (by simp)) (by simp)) (fun h=>by have:=k1 _ h;omega)
    have hfd:(Clm.setsBy c.piles.length).find? (shareP c s)=shareF c s:=rfl
    have hsm:∀ S,shareF c s=some S→S<2 ^ c.piles.length:=fun S h=>(Clm.mem_sets (by omega) S).1 (List.mem_of_find?_eq_some h)
    rw[hfd] at k4
    obtain ⟨f0,f1,f2,f3,f4,f5⟩:=bk' e0
    obtain ⟨g0,g1,g2,g3,g4,g5⟩:=bk' e3
    generalize Clm.setsBy c.piles.length=SB at *
    have hp2:2 ^ c.piles.length≤2 ^ 4:=Nat.pow_le_pow_right (by decide) hpn.2
    clear hH hF hG hSe hFi h1 h4 h5 h6 h7 h8 hcan hv k1 k2 k3 hlen hfd hist
    simp only[zipI,clampCs] at *
    cases hsf:shareF c s with
    |none=>
      rw[hsf] at k4
      simp only[stopV] at *
      clear hsm
      (repeat (first|(with_reducible apply zad;(focus ((conv=>lhs;simp[*,Nat.testBit_eq_decide_div_mod_eq])<;>exact rfl));simp only[addFl])|(with_reducible apply zay;(focus ((conv=>lhs;simp[*,Nat.testBit_eq_decide_div_mod_eq])<;>exact rfl));(try simp only[Ops,Then]);(try dsimp only))|((with_reducible first|apply zai|apply zak|apply zah|apply zaf|apply zac|apply zaj|apply zag|apply zam|(apply zae;· simp[*,zaa])|(apply zab;· simp[*,zaa]));try simp only[Then,Ops,reduceIte])|simp only[Nat.reduceEqDiff,reduceIte,OutB,Then]))
      refine zcg hdf rfl e3 (by simp only[resL,resOf,zal];simp[resV,pickC,List.getElem?_set_self (get_lt e3)]) ⟨rfl,by simp⟩
    |some S=>
      rw[hsf] at k4
      have hS:=hsm S hsf
      have hw:IntKind.i64.wrap (S:Int)=S:=zat (by omega) (by omega)
      clear hsm hS hp2
      simp only at k4 ⊢
      (repeat (first|(with_reducible apply zad;(focus ((conv=>lhs;simp[*,Nat.testBit_eq_decide_div_mod_eq])<;>exact rfl));simp only[addFl])|(with_reducible apply zay;(focus ((conv=>lhs;simp[*,Nat.testBit_eq_decide_div_mod_eq])<;>exact rfl));(try simp only[Ops,Then,OutB]);(try dsimp only))|((with_reducible first|apply zai|apply zak|apply zah|apply zaf|apply zac|apply zaj|apply zag|apply zam|(apply zae;· simp[*,zaa])|(apply zab;· simp[*,zaa]));try simp only[Then,Ops,reduceIte])|simp only[Nat.reduceEqDiff,reduceIte,OutB,Then]))
      refine zdj (v:=.tup [.int .i64 S,.int .i64 0]) (.inl rfl) hdf rfl (by simp) (by simp only[resL,resOf,zal];simp[resV,pickC,g0]) ⟨rfl,by simp⟩
end K
end Ev
end Go.Proofs.YtimgnlellflciaaGreat

/- Package clamp, gone through: Clash. -/
namespace Go.Proofs.YtimgnlellflciaaGreat
open Go
namespace Ev
namespace K
attribute [local simp] ev1 wantG spineK spine float xnew xval xeff zaa zar zbb zau zav addFl cellsOf pickC alive slLen slFt binI maxA maxK minA minK aeqK aeqS AV.cells spA zas fillA setAt bitsI nat_nn zbe AV.plain apart
open Clm (setOf zbp countsN)
set_option maxRecDepth 100000
set_option maxHeartbeats 4000000
def clashP (c:Clm.Cl)(set:Nat):Bool:=(set&&&countsN c==set)&&!Clm.can c set
theorem yag:∀ s,s<64→∀ a,a<64→(IntKind.u64.wrap ((BitVec.ofInt IntKind.u64.bits ((s:Nat):Int)&&&~~~ BitVec.ofInt IntKind.u64.bits ((a:Nat):Int)).toNat)==0)=(s&&&a==s):=by decide +kernel
theorem zos (C:Cfg)(call:CallF)(c:Clm.Cl)(hn:c.events.length≤6)(hCn:CanC call c)(H:List AB)(yb mb:Nat)(hY:Yd c yb mb H)(set:Nat)(hs:set<2 ^ c.events.length)(b1 b2:Nat)(hb1:H[b1]?=some (.cells [.int .u64 ((countsN c:Nat):Int)]))(hb2:H[b2]?=some (.cells [.ptr yb 0])):
    Does (ev C call H.length none af68.body { tm:=tmA af68.ntmps (zipI 0 [.int .u64 set,.ptr b1 0,.ptr b2 0] []),df:=[],hp:=H,tc:=[] })
      (Ends C H.length af68.res fun v hp tc=>v=.bool (clashP c set)∧(∀ j∈tc,j=mb)∧Kp tc H hp∧Yd c yb mb hp):=by
  have hml:mb<H.length:=by obtain ⟨es,hm,_⟩:=hY.m;exact get_lt hm
  obtain ⟨H1,tc1,c1,c2,c3,c4⟩:=hCn H yb mb hY set
  obtain ⟨f0,f1,f2,f3,f4,f5⟩:=bk' hb1
  obtain ⟨g0,g1,g2,g3,g4,g5⟩:=bk' hb2
  have hf:tc1.filter (·<H.length)=tc1:=List.filter_eq_self.2 fun j hj=>by have:=c2 j hj;simp;omega
  have hp2:2 ^ c.events.length≤2 ^ 6:=Nat.pow_le_pow_right (by decide) hn
  have hcl:countsN c<2 ^ c.events.length:=zbp _ _
  have han:=yag set (by omega) (countsN c) (by omega)
  have HA:=hideP (And.intro c2 (And.intro c3 (And.intro c4 hY)))
  clear hCn hY hb1 hb2 c2 c3 c4 hs hcl hp2 hn
  unfold clashP
  generalize countsN c=A at *
  unfold af68
  simp only[zipI]
  generalize Clm.can c set=cn at *
  cases hz:(set&&&A==set) with
  |true=>
    rw[hz] at han
    clear hz
    simp at han
    (repeat (first|(with_reducible apply zad;(focus ((conv=>lhs;simp[*,Nat.testBit_eq_decide_div_mod_eq])<;>exact rfl));simp only[addFl])|((with_reducible first|apply zai|apply zak|apply zah|apply zaf|apply zac|apply zaj|apply zag|apply zam|(apply zae;· simp[*,zaa])|(apply zab;· simp[*,zaa]));try simp only[Then,Ops])|simp only[Nat.reduceEqDiff,reduceIte,OutB,Then]))
    obtain ⟨c2,c3,c4,hY⟩:=HA.out
    exact zao (v:=.bool (!cn)) (.inl rfl) rfl c3.len (by simp only[resL,resOf,zal];simp[*,resV]) ⟨by simp,c2,c3,c4⟩
  |false=>
    rw[hz] at han
    clear hz
    simp at han
    have hb:=beq_false_of_ne han
    (repeat (first|(with_reducible apply zad;(focus ((conv=>lhs;simp[*,Nat.testBit_eq_decide_div_mod_eq])<;>exact rfl));simp only[addFl])|((with_reducible first|apply zai|apply zak|apply zah|apply zaf|apply zac|apply zaj|apply zag|apply zam|(apply zae;· simp[*,zaa])|(apply zab;· simp[*,zaa]));try simp only[Then,Ops])|simp only[Nat.reduceEqDiff,reduceIte,OutB,Then]))
    obtain ⟨c2,c3,c4,hY⟩:=HA.out
    exact zao (v:=.bool false) (.inl rfl) rfl (Nat.le_refl _) (by simp only[resL,resOf,zal];simp[*,resV]) ⟨by simp,by simp,Kp.refl _ _,hY⟩
def clashF (c:Clm.Cl):Option Nat:=(Clm.setsBy c.events.length).find? (clashP c)
def clashE (c:Clm.Cl):Int:=if Clm.valid c=false then 1 else if Clm.can c (Clm.every c)=true then 4 else match clashF c with|some _=>0|none=>4
def clashV (c:Clm.Cl):Int:=if Clm.valid c=false then 0 else if Clm.can c (Clm.every c)=true then 0 else match clashF c with|some s=>(s:Int)|none=>0
def clashR (c:Clm.Cl):AV:=.tup [.int .i64 (clashV c),.int .i64 (clashE c)]
theorem ztf (C:Cfg)(hC:C.calm=true)(call call1 call2:CallF)(hM:MustC call)(c:Clm.Cl)(hdf:C.dfk 64=some (104,true))(hA:AlwaysC call2)(hO:OpenCall call call2 c)(hE:Clm.valid c=true→EveryC call c)(hCn:Clm.valid c=true→CanC call c)(hSe:SetsC call)(hFi:Clm.valid c=true→FirstC call call1 c)
    (hG:Clm.valid c=true→∀ H yb mb b1 b2,H[b1]?=some (.cells [.int .u64 ((countsN c:Nat):Int)])→H[b2]?=some (.cells [.ptr yb 0])→b1≠mb→b2≠mb→SetF call1 (.fn (.func 68) [] [.ptr b1 0,.ptr b2 0]) c yb mb H (clashP c) (Clm.setsBy c.events.length)):
    Does (ev C call ([]:List AB).length none af21.body { tm:=tmA af21.ntmps (zipI 0 [.agg (clampCs c)] []),df:=[],hp:=[],tc:=[] })
      (Fin C ([]:List AB).length af21 (Ans (clashR c))):=by
  have ho:=hO [.cells (clampCs c),.cells [.int .i64 0]] (.fn (.func 46) [] []) true (fun _ G yb mb _ _=>hA G _)
  have hmt:=hM.t
  have hmf:=hM.f
  unfold clashR clashV clashE
  unfold af21
  rcases ho with ⟨h1,h2⟩|⟨h1,h2,h3⟩|⟨h1,h2,H1,yb,mb,h3,h4,h5,h6,h7⟩
  · simp only[if_pos h1]
    clear hO hE hCn hSe hFi hG hA h1 hM
    simp only[zipI,clampCs,stopV] at *
    (repeat (first|(with_reducible apply zad;(focus ((conv=>lhs;simp[*,Nat.testBit_eq_decide_div_mod_eq])<;>exact rfl));simp only[addFl])|(with_reducible apply zay;(focus ((conv=>lhs;simp[*,Nat.testBit_eq_decide_div_mod_eq])<;>exact rfl));(try simp only[Ops,Then]);(try dsimp only))|((with_reducible first|apply zai|apply zak|apply zah|apply zaf|apply zac|apply zaj|apply zag|apply zam|(apply zae;· simp[*,zaa])|(apply zab;· simp[*,zaa]));try simp only[Then,Ops])|simp only[Nat.reduceEqDiff,reduceIte,OutB,Then]))
    refine zcg hdf rfl rfl (by simp only[resL,resOf,zal];simp[resV,pickC];rfl) ⟨by simp,by simp⟩
  · cases h2
  · have hvf:¬ Clm.valid c=false:=by rw[h1];decide
    simp only[if_neg hvf]
    have hn:=((Clm.valid_iff c).1 h1).events
    have hev:=hE h1 (H1++[.cells [.ptr yb 0]]) yb _ (h5.app _).y
    obtain ⟨H2,tc2,k1,k2,k3,k4⟩:=hCn h1 (H1++[.cells [.ptr yb 0]]) yb mb (h5.app _) (Clm.every c)
    have hml:mb<H1.length:=by obtain ⟨es,hm,_⟩:=h5.m;exact get_lt hm
    have hl1:=h4.len
    simp only[List.length_cons,List.length_nil] at h6 h7 hl1
    have hat:∀ {j x},(H1++[.cells [.ptr yb 0]])[j]?=some x→j≠mb→H2[j]?=some x:=fun hx hj=>k3.at hx (fun h=>hj (k2 _ h))
    have e0:H2[0]?=some (.cells (clampCs c)):=hat ((Kp.app (S:=[]) _ _).at (h4.at rfl (by simp)) (by simp)) (by omega)
    have e1:H2[1]?=some (.cells [.int .i64 0]):=hat ((Kp.app (S:=[]) _ _).at (h4.at rfl (by simp)) (by simp)) (by omega)
    have e2:H2[H1.length]?=some (.cells [.ptr yb 0]):=hat (by simp) (by omega)
    have t0:¬ H1.length∈tc2:=fun h=>by have:=k2 _ h;omega
    cases hcan:Clm.can c (Clm.every c) with
    |true=>
      rw[hcan] at k1
      simp only
      clear hO hE hCn hSe hFi hG hA h1 hvf hM k2 k3 k4 h4 h5 h6 h7 hat e0 hcan
      simp only[zipI,clampCs] at *
      (repeat (first|(with_reducible apply zad;(focus ((conv=>lhs;simp[*,Nat.testBit_eq_decide_div_mod_eq])<;>exact rfl));simp only[addFl])|(with_reducible apply zay;(focus ((conv=>lhs;simp[*,Nat.testBit_eq_decide_div_mod_eq])<;>exact rfl));(try simp only);(try dsimp only))|((with_reducible first|apply zai|apply zak|apply zah|apply zaf|apply zac|apply zaj|apply zag|apply zam|(apply zae;· simp[*,zaa])|(apply zab;· simp[*,zaa]));try simp only[Then,Ops,reduceIte])|simp only[Nat.reduceEqDiff,reduceIte,OutB,Then]))
      simp only[List.filterMap_cons,List.filterMap_nil,zfa,List.foldl_cons,List.foldl_nil]
      refine zcg hdf rfl e1 (by simp only[resL,resOf,zal];simp[resV,pickC,List.getElem?_set_self (get_lt e1)]) ⟨rfl,by simp⟩
    |false=>
      rw[hcan] at k1
      have hcan0:=hcan
      simp only[if_neg (show ¬ (false=true) by decide)]
      obtain ⟨f0,f1,f2,f3,f4,f5⟩:=bk' e0
      have HX:=hideP (And.intro hG (And.intro hFi (And.intro hSe (And.intro h1 (And.intro k4 (And.intro e1 (And.intro e2 (And.intro h6 (And.intro h7 (And.intro hml hl1))))))))))
      clear hO hE hCn hSe hFi hG hA h1 hvf hM k2 k3 k4 h4 h5 h6 h7 hat e0 hcan e1 e2
      simp only[zipI,clampCs] at *
      (repeat (first|(with_reducible apply zad;(focus ((conv=>lhs;simp[*,Nat.testBit_eq_decide_div_mod_eq])<;>exact rfl));simp only[addFl])|(with_reducible apply zay;(focus ((conv=>lhs;simp[*,Nat.testBit_eq_decide_div_mod_eq])<;>exact rfl));(try simp only[Ops,Then,OutB]);(try dsimp only))|((with_reducible first|apply zai|apply zak|apply zah|apply zaf|apply zac|apply zaj|apply zag|apply zam|(apply zae;· simp[*,zaa])|(apply zab;· simp[*,zaa]));try simp only[Then,Ops])|simp only[Nat.reduceEqDiff,reduceIte,OutB,Then]))
      have hl2:H1.length+1≤H2.length:=by have:=get_lt HX.out.2.2.2.2.2.2.1;omega
      have nH:∀ n,¬ H2.length+n<0:=by omega
      with_reducible refine zaz hC c.events.length (by unfold fuelL;omega) (fun i st=>∃ J,st={ tm:=tmA 41 [(20,.int .i64 i),(19,.int .i64 c.events.length),(18,.vs 4 (c.events.map evtE)),(5,.ptr H2.length 0),(4,.ptr H1.length 0),(3,.ptr 1 0),(1,.ptr 0 0)],df:=[.call 64 [.ptr 1 0]],hp:=H2++.cells [.int .u64 ((setOf (fun i=>decide ((c.events.getD i default).kind=1)) i:Nat):Int)]::J,tc:=[] }) ?_ ?_ ?_
      · refine ⟨[],?_⟩
        refine st_is ?_ ?_ ?_ ?_
        · simp[zan,zaq]
        · rfl
        · rfl
        · simp
      · clear f0 f1 f2 f3 f4 f5 k1 t0
        rintro i st hi ⟨J,rfl⟩
        have hgv:c.events[i]?=some c.events[i]:=List.getElem?_eq_getElem hi
        have hgd:c.events.getD i default=c.events[i]:=by rw[List.getD_eq_getElem?_getD,hgv];rfl
        have n1:setOf (fun i=>decide ((c.events.getD i default).kind=1)) (i+1)=if decide (c.events[i].kind=1)=true then setOf (fun i=>decide ((c.events.getD i default).kind=1)) i+2 ^ i else setOf (fun i=>decide ((c.events.getD i default).kind=1)) i:=by
          rw[← hgd];rfl
        rw[n1]
        clear n1 hgd
        generalize c.events[i]=v at hgv ⊢
        have hgv':=ge_of hgv
        have hwi:IntKind.i64.wrap (↑i+1)=↑i+1:=zat (by omega) (by omega)
        obtain ⟨s1,s2,s3⟩:=zif (d:=i) (by omega)
        have o1:=zyr i (by omega) _ (zbp (fun i=>decide ((c.events.getD i default).kind=1)) i)
        generalize setOf (fun i=>decide ((c.events.getD i default).kind=1)) i=A at *
        generalize 2 ^ i=P at s1 s2 s3 o1 ⊢
        simp at o1
        by_cases q1:v.kind=1
        · simp only[q1,decide_true,if_true]
          (repeat (first|(with_reducible apply zad;(focus ((conv=>lhs;simp[*,evtE,Nat.testBit_eq_decide_div_mod_eq])<;>exact rfl));simp only[addFl])|(with_reducible apply zay;(focus ((conv=>lhs;simp[*,evtE,Nat.testBit_eq_decide_div_mod_eq])<;>exact rfl));(try simp only[Ops,Then,OutB]);(try dsimp only))|((with_reducible first|apply zai|apply zak|apply zah|apply zaf|apply zac|apply zaj|apply zag|apply zam|(apply zae;· simp[*,zaa])|(apply zab;· simp[*,zaa]));try simp only[Then,Ops,OutB])|simp only[Nat.reduceEqDiff,reduceIte,OutB,Then]))
          refine ⟨?_,?_⟩
          rotate_left
          (refine st_is ?_ ?_ ?_ ?_;(focus (simp[zan,zaq]));(focus rfl);(focus (first|rfl|(simp;done)|(simp[*];done)|(simp;rfl)|(simp[*];omega)|(simp;omega)));(focus (first|rfl|simp)))
        · simp only[q1,decide_false,Bool.false_eq_true,if_false]
          have hb:=beq_false_of_ne q1
          (repeat (first|(with_reducible apply zad;(focus ((conv=>lhs;simp[*,evtE,Nat.testBit_eq_decide_div_mod_eq])<;>exact rfl));simp only[addFl])|(with_reducible apply zay;(focus ((conv=>lhs;simp[*,evtE,Nat.testBit_eq_decide_div_mod_eq])<;>exact rfl));(try simp only[Ops,Then,OutB]);(try dsimp only))|((with_reducible first|apply zai|apply zak|apply zah|apply zaf|apply zac|apply zaj|apply zag|apply zam|(apply zae;· simp[*,zaa])|(apply zab;· simp[*,zaa]));try simp only[Then,Ops,OutB])|simp only[Nat.reduceEqDiff,reduceIte,OutB,Then]))
          refine ⟨?_,?_⟩
          rotate_left
          (refine st_is ?_ ?_ ?_ ?_;(focus (simp[zan,zaq]));(focus rfl);(focus (first|rfl|(simp;done)|(simp[*];done)|(simp;rfl)|(simp[*];omega)|(simp;omega)));(focus (first|rfl|simp)))
      · rintro st ⟨J,rfl⟩
        have hcn:setOf (fun i=>decide ((c.events.getD i default).kind=1)) c.events.length=countsN c:=rfl
        rw[hcn]
        obtain ⟨hG,hFi,hSe,h1,k4,e1,e2,h6,h7,hml,hl1⟩:=HX.out
        have hse:=fun H=>hSe H c.events.length (by omega)
        have hlen:(Clm.setsBy c.events.length).length≤1000:=by
          rw[Clm.sets_len (by omega)]
          have:2 ^ c.events.length≤2 ^ 6:=Nat.pow_le_pow_right (by decide) hn
          omega
        obtain ⟨H3,tc3,m1,m2,m3,m4⟩:=hFi h1 (H2++.cells [.int .u64 ((countsN c:Nat):Int)]::J) yb mb (k4.app _) (.func 68) [] [.ptr H2.length 0,.ptr H1.length 0] (clashP c) (Clm.setsBy c.events.length) hlen (hG h1 _ yb mb H2.length H1.length (by simp) ((Kp.app (S:=[]) _ _).at e2 (by simp)) (by omega) (by omega))
        have e3:H3[1]?=some (.cells [.int .i64 0]):=m2.at ((Kp.app (S:=[]) _ _).at e1 (by simp)) (fun h=>by have:=m1 _ h;omega)
        have hfd:(Clm.setsBy c.events.length).find? (clashP c)=clashF c:=rfl
        have hsm:∀ S,clashF c=some S→S<2 ^ c.events.length:=fun S h=>(Clm.mem_sets (by omega) S).1 (List.mem_of_find?_eq_some h)
        rw[hfd] at m4
        obtain ⟨g0,g1,g2,g3,g4,g5⟩:=bk' e3
        generalize Clm.setsBy c.events.length=SB at *
        have hp2:2 ^ c.events.length≤2 ^ 6:=Nat.pow_le_pow_right (by decide) hn
        generalize ((countsN c:Nat):Int)=A at *
        clear hG hFi hSe h1 k4 e1 e2 h6 h7 hml hl1 m1 m2 m3 hlen hfd k1 t0 hev hcn
        cases hsf:clashF c with
        |none=>
          have hp1:clashP c (countsN c)=true:=by
            unfold clashP
            rw[Clm.can_counts ((Clm.valid_iff c).1 HX.out.2.2.2.1),hcan0]
            simp
          obtain ⟨S,hS⟩:=Clm.first_some (by omega) (zbp _ _:countsN c<2 ^ c.events.length) hp1
          unfold clashF at hsf
          rw[hS] at hsf
          cases hsf
        |some S=>
          rw[hsf] at m4
          have hS:=hsm S hsf
          have hw:IntKind.i64.wrap (S:Int)=S:=zat (by omega) (by omega)
          clear hsm hS hp2
          simp only at m4 ⊢
          (repeat (first|(with_reducible apply zad;(focus ((conv=>lhs;simp[*,Nat.testBit_eq_decide_div_mod_eq])<;>exact rfl));simp only[addFl])|(with_reducible apply zay;(focus ((conv=>lhs;simp[*,Nat.testBit_eq_decide_div_mod_eq])<;>exact rfl));(try simp only[Ops,Then,OutB]);(try dsimp only))|((with_reducible first|apply zai|apply zak|apply zah|apply zaf|apply zac|apply zaj|apply zag|apply zam|(apply zae;· simp[*,zaa])|(apply zab;· simp[*,zaa]));try simp only[Then,Ops,OutB,reduceIte])|simp only[Nat.reduceEqDiff,reduceIte,OutB,Then]))
          refine zdj (v:=.tup [.int .i64 S,.int .i64 0]) (.inl rfl) hdf rfl (by simp) (by simp only[resL,resOf,zal];simp[resV,pickC,g0]) ⟨rfl,by simp⟩
end K
end Ev
end Go.Proofs.YtimgnlellflciaaGreat

/- Package clamp: what its functions come to, in any configuration that knows them. -/
namespace Go.Proofs.YtimgnlellflciaaGreat
open Go
namespace Ev
namespace K
attribute [local simp] ev1 wantG spineK spine float xnew xval xeff zaa zar zbb zau zav addFl cellsOf pickC alive slLen slFt binI maxA maxK minA minK aeqK aeqS AV.cells spA zas fillA setAt bitsI nat_nn zbe AV.plain apart
set_option maxRecDepth 100000
set_option maxHeartbeats 4000000
structure Knows (C:Cfg):Prop where
  calm:C.calm=true
  none:Has C 110 af110
  some:Has C 101 af101
  either:Has C 94 af94
  both:Has C 108 af108
  ca:Has C 129 af129
  cb:Has C 130 af130
  sa:Has C 127 af127
  sb:Has C 128 af128
  within:Has C 86 af86
  at_:Has C 34 af34
  areSods:Has C 54 af54
  isSpan:Has C 85 af85
  product:Has C 84 af84
  sods:Has C 35 af35
  must:Has C 65 af65
  events:Has C 107 af107
  log:Has C 103 af103
  sizes:Has C 102 af102
  sizes1:Has C 106 af106
  ways:Has C 95 af95
  packs:Has C 92 af92
  packs1:Has C 99 af99
  can:Has C 66 af66
  every:Has C 67 af67
  told:Has C 47 af47
  isPile:Has C 53 af53
  left:Has C 40 af40
  span:Has C 83 af83
  hull:Has C 81 af81
  of1:Has C 82 af82
  of_:Has C 32 af32
  tog1:Has C 87 af87
  tog:Has C 48 af48
  open_ : Has C 45 af45
  one:Has C 31 af31
  one1:Has C 80 af80
  always:Has C 46 af46
  built2:Has C 33 af33
  sold2:Has C 43 af43
  enough2:Has C 52 af52
  share2:Has C 59 af59
  share3:Has C 62 af62
  clash2:Has C 68 af68
  index:Has C 88 af88
  first:Has C 60 af60
  sets:∀ n,SetsC (Ev.call C (n+1))
  built:Has C 7 af7
  has:Has C 9 af9
  sold:Has C 11 af11
  all:Has C 13 af13
  enough:Has C 15 af15
  empty:Has C 17 af17
  share:Has C 19 af19
  clash:Has C 21 af21
  dfBuilt:C.dfk 29=Option.some (104,true)
  dfHas:C.dfk 39=Option.some (104,true)
  dfSold:C.dfk 42=Option.some (104,true)
  dfAll:C.dfk 44=Option.some (104,true)
  dfEnough:C.dfk 51=Option.some (104,true)
  dfEmpty:C.dfk 57=Option.some (104,true)
  dfShare:C.dfk 58=Option.some (104,true)
  dfClash:C.dfk 64=Option.some (104,true)
theorem zed {C:Cfg}{n f:Nat}{fn:AFunc}{first captured args:List AV}{H:List AB}{Q:CRes→List AB→List Nat→Prop}(hc:C.calm=true)(h0:Has C f fn)(hlen:(first++args++captured).length≤fn.ntmps)
    (h:Does (ev C (Ev.call C n) H.length none fn.body { tm:=tmA fn.ntmps (zipI 0 (first++args++captured) []),df:=[],hp:=H,tc:=[] }) (Fin C H.length fn Q)):
    ∃ x hp tc H',Ev.call C (n+1) (.fn (.func f) first captured) args H=Option.some (x,H',tc)∧Q x hp tc∧Lft H hp tc H'∧(refs x.val≠[]∨tc≠[]→H'.length=hp.length∧∀ j,H.length≤j→H'[j]?=hp[j]?)∧(refs x.val=[]→tc=[]→H'=H):=
  zqb hc h0.ext h0.exth h0.fns h0.whole hlen h
theorem mustT2 (C:Cfg)(call:CallF)(H:List AB)(e:Int):Does (ev C call H.length Option.none af65.body { tm:=tmA af65.ntmps (zipI 0 [.bool true,.int .i64 e] []),df:=[],hp:=H,tc:=[] }) (Fin C H.length af65 fun x _ tc=>x=.ret (.tup [])∧tc=[]):=by
  unfold af65
  simp only[zipI]
  (repeat (first|(with_reducible apply zad;(focus ((conv=>lhs;simp[*,Nat.testBit_eq_decide_div_mod_eq])<;>exact rfl));simp only[addFl])|((with_reducible first|apply zai|apply zak|apply zah|apply zaf|apply zac|apply zaj|apply zag|apply zam|(apply zae;· simp[*,zaa])|(apply zab;· simp[*,zaa]));try simp only[Then,Ops])|simp only[Nat.reduceEqDiff,reduceIte,OutB,Then]))
  exact ziu (v:=.tup []) (.inr rfl) rfl (Nat.le_refl _) rfl ⟨rfl,rfl⟩
theorem mustF2 (C:Cfg)(call:CallF)(H:List AB)(e:Int):Does (ev C call H.length Option.none af65.body { tm:=tmA af65.ntmps (zipI 0 [.bool false,.int .i64 e] []),df:=[],hp:=H,tc:=[] }) (Fin C H.length af65 fun x _ tc=>x=.pan (.iface 104 (.agg [.int .i64 e]))∧tc=[]):=by
  unfold af65
  simp only[zipI]
  (repeat (first|(with_reducible apply zad;(focus ((conv=>lhs;simp[*,Nat.testBit_eq_decide_div_mod_eq])<;>exact rfl));simp only[addFl])|(with_reducible apply zay;(focus ((conv=>lhs;simp[*,Nat.testBit_eq_decide_div_mod_eq])<;>exact rfl));(try simp only[Ops]);(try dsimp only))|((with_reducible first|apply zai|apply zak|apply zah|apply zaf|apply zac|apply zaj|apply zag|apply zam|(apply zae;· simp[*,zaa])|(apply zab;· simp[*,zaa]));try simp only[Then,Ops])|simp only[Nat.reduceEqDiff,reduceIte,OutB,Then]))
  exact zbq rfl (Nat.le_refl _) ⟨rfl,rfl⟩
section
variable {C:Cfg} (k:Knows C)
include k
abbrev le' {a b:Nat} (h:Nat.ble a b=true):a≤b:=Nat.le_of_ble_eq_true h
theorem noneL (n:Nat):NoneC (Ev.call C (n+1)):=fun H=>zbn k.calm k.none (le' rfl) rfl (zyz C _ H)
theorem someL (n:Nat):SomeC (Ev.call C (n+1)):=fun H s=>zbn k.calm k.some (le' rfl) rfl (zyb C _ H s)
theorem eitherL (n:Nat):EitherC (Ev.call C (n+1)):=fun H s t=>zbn k.calm k.either (le' rfl) rfl (ztb C _ H s t)
theorem bothL (n:Nat):BothC (Ev.call C (n+2)):=fun H s t=>zbn k.calm k.both (le' rfl) rfl (yab C _ (noneL k n) H s t)
theorem withinL (n:Nat):WithinC (Ev.call C (n+1)):=fun H a b c=>zbn k.calm k.within (le' rfl) rfl (zrd C _ H a b c)
theorem areSodsL (n:Nat):AreSodsC (Ev.call C (n+2)):=fun H a=>zbn k.calm k.areSods (le' rfl) rfl (zpa C _ (withinL k n) H a)
theorem isSpanL (n:Nat):IsSpanC (Ev.call C (n+1)):=fun H s a b w h1 h2=>zbn k.calm k.isSpan (le' rfl) rfl (zsn C _ H s a b w h1 h2)
theorem productL (n:Nat):ProductC (Ev.call C (n+1)):=fun H l w h p l0 l1 w0 w1 h0 h1 p0 p1 b hb=>zbn k.calm k.product (le' rfl) rfl (znx C k.calm _ H l w h p l0 l1 w0 w1 h0 h1 p0 p1 b hb)
theorem sodsL (n:Nat):SodsC (Ev.call C (n+2)):=fun H i l w h p l0 l1 w0 w1 h0 h1 p0 p1=>zbn k.calm k.sods (le' rfl) rfl (zyc C _ (productL k n) H i l w h p l0 l1 w0 w1 h0 h1 p0 p1)
theorem evtL (n:Nat):EvtC (Ev.call C (n+3)) where
  sa H s x hx hs:=by
    simp only[Clm.Bf.low] at hs
    exact zbn k.calm k.sa (le' rfl) rfl (zuo C _ (noneL k (n+1)) (someL k (n+1)) H s x (by have:=hx.l0;omega) (by have:=hx.l1;omega) (by have:=hx.h0;omega) (by have:=hx.h1;omega) (by omega) (by omega) (by omega) (by omega))
  sb H s x hx hs:=by
    simp only[Clm.Bf.low] at hs
    exact zbn k.calm k.sb (le' rfl) rfl (zun C _ (noneL k (n+1)) (someL k (n+1)) H s x (by have:=hx.l0;omega) (by have:=hx.l1;omega) (by have:=hx.h0;omega) (by have:=hx.h1;omega) (by omega) (by omega) (by omega) (by omega))
  ca H s x:=zbn k.calm k.ca (le' rfl) rfl (zte C _ (bothL k n) H s x)
  cb H s x:=zbn k.calm k.cb (le' rfl) rfl (ztd C _ (bothL k n) H s x)
theorem mustL (n:Nat):MustC (Ev.call C (n+1)) where
  t H e:=by
    obtain ⟨x,hp,tc,H',c1,⟨rfl,rfl⟩,_,_,c7⟩:=zed (n:=n) (first:=[]) (captured:=[]) (args:=[.bool true,.int .i64 e]) k.calm k.must (le' rfl) (mustT2 C _ H e)
    rw[c1,c7 rfl rfl]
  f H e:=by
    obtain ⟨x,hp,tc,H',c1,⟨rfl,rfl⟩,_,_,c7⟩:=zed (n:=n) (first:=[]) (captured:=[]) (args:=[.bool false,.int .i64 e]) k.calm k.must (le' rfl) (mustF2 C _ H e)
    rw[c1,c7 rfl rfl]
theorem sizesL (n:Nat):SizesC (Ev.call C (n+1)):=fun H yb a b=>zpz k.calm k.sizes (le' rfl) (by simp[refs,refsL]) (zug C _ H yb a b)
theorem packsL (n:Nat):PacksC (Ev.call C (n+1)):=fun H yb a=>zpz k.calm k.packs (le' rfl) (by simp[refs,refsL]) (zvf C _ H yb a)
theorem alwaysL (n:Nat):AlwaysC (Ev.call C (n+1)):=fun H v=>zax k.calm k.always (le' rfl) rfl (zto C _ H v)
variable {c:Clm.Cl} (hc:Clm.Fine c)
include hc
theorem eventsL (n:Nat):EventsC (Ev.call C (n+1)) c:=by
  intro H yb w hy number counts
  obtain ⟨v,hp,tc,H',c1,⟨rfl,rfl,J,rfl⟩,c5,c6,_⟩:=zbo (n:=n) (first:=[]) (captured:=[]) (args:=[.ptr yb 0,.int .i64 number,.int .u64 counts]) k.calm k.events.ext k.events.exth k.events.fns k.events.whole (le' rfl) (zsy C k.calm _ H c hc.events yb w hy number counts)
  exact ⟨J,by rw[c1,lft_eq c5 (Kp.app _ _) c6 (.inl (by simp[refs]))]⟩
theorem everyL (n:Nat):EveryC (Ev.call C (n+1)) c:=fun H yb w hy=>zax k.calm k.every (le' rfl) rfl (zwu C _ c hc H yb w hy)
theorem isPileL (n:Nat):IsPileC (Ev.call C (n+2)) c:=fun H yb w hy m=>zax k.calm k.isPile (le' rfl) rfl (zju C _ (withinL k n) c hc.piles.2 H yb w hy m)
theorem leftL (n:Nat):LeftC (Ev.call C (n+1)) c:=fun H yb w hy m p wy=>zax (first:=[.ptr yb 0]) k.calm k.left (le' rfl) rfl (zqj C _ c hc H yb w hy m p wy)
theorem logL (n:Nat):LogC (Ev.call C (n+4)) c:=by
  intro H yb mb hY q hq hn
  obtain ⟨es,hm,hes⟩:=hY.m
  rcases zmm q hes with h|h
  · obtain ⟨es',h1,h2⟩:=zqa q hes
    obtain ⟨v,hp,tc,H',c1,⟨rfl,rfl,c3⟩,c5,_,_⟩:=zbo (n:=n+3) (first:=[]) (captured:=[]) (args:=[.ptr yb 0,qA q]) k.calm k.log.ext k.log.exth k.log.fns k.log.whole (le' rfl)
      (zzf C k.calm _ c hc (eventsL k hc (n+2)) (sodsL k (n+1)) (evtL k n) (bothL k (n+1)) H yb mb hY q hq es es' hm h h1)
    refine ⟨H',_,c1,by simp,c5.kp,hY.ne,c5.kp.at hY.y (by simp[hY.ne]),es',?_,h2⟩
    rw[c5.got mb (get_lt hm) (by simp)];exact c3
  · obtain ⟨v,hp,tc,H',c1,⟨rfl,rfl⟩,c5,_,c7⟩:=zbo (n:=n+3) (first:=[]) (captured:=[]) (args:=[.ptr yb 0,qA q]) k.calm k.log.ext k.log.exth k.log.fns k.log.whole (le' rfl)
      (ybb C _ c H yb mb hY q es hm h)
    exact ⟨H',_,c1,by simp,c5.kp,hY.kp c5.kp (by simp) (by simp)⟩
theorem waysL (n:Nat):WaysC (Ev.call C (n+7)) c:=by
  intro H yb mb hY i hi pack p0 p1 counts
  obtain ⟨v,hp,tc,H',c1,⟨c2,c3,c4,c8⟩,c5,c6,_⟩:=zbo (n:=n+6) (first:=[]) (captured:=[]) (args:=[.ptr yb 0,.int .i64 i,.int .i64 pack,.int .u64 counts]) k.calm k.ways.ext k.ways.exth k.ways.fns k.ways.whole (le' rfl)
    (ztt C k.calm (n+4) k.sizes1 c hc (sizesL k (n+5)) (logL k hc n) (someL k (n+3)) H yb mb hY i hi pack p0 p1 counts)
  have hs:=c5.same c3
  obtain ⟨es,m1,m2⟩:=hY.m
  obtain ⟨es2,m3,m4⟩:=c4.m
  refine ⟨v,H',tc,c1,c2,⟨c5.len,fun b hb ht=>(hs b hb).trans (c3.get b hb ht)⟩,⟨hY.ne,(hs _ (get_lt hY.y)).trans c4.y,es2,(hs _ (get_lt m1)).trans m3,m4⟩,?_⟩
  generalize Clm.ways c i pack counts=ws at c8 ⊢
  cases c8 with
  |none=>exact .none
  |some b ws z1 z2 z3=>
    rw[lft_eq c5 c3 c6 (.inl (by simp[refs]))]
    exact .some b ws z1 z2 z3
theorem packIL (n:Nat):PackI C (n+7) c:=zvg k.calm hc k.packs1 (waysL k hc n)
theorem canL (n:Nat):CanC (Ev.call C (n+9)) c:=fun H yb mb hY counts=>
  zdh k.calm k.can (le' rfl) hY (yaa C k.calm (n+6) c (packsL k (n+7)) (packIL k hc n) H yb mb hY counts)
theorem toldL (n:Nat):ToldCall (Ev.call C (n+10)) c:=by
  intro H yb mb hY
  obtain ⟨x,hp,tc,H',c1,⟨c2,c3,c4,rfl⟩,c5,_,_⟩:=zed (n:=n+9) (first:=[]) (captured:=[]) (args:=[.ptr yb 0]) k.calm k.told (le' rfl)
    (ztw C _ (mustL k (n+8)) c (everyL k hc (n+8)) (canL k hc n) H yb mb hY)
  have hs:=c5.same c3
  obtain ⟨es,m1,m2⟩:=hY.m
  obtain ⟨es2,m3,m4⟩:=c4.m
  exact ⟨H',tc,c2,⟨c5.len,fun b hb ht=>(hs b hb).trans (c3.get b hb ht)⟩,⟨hY.ne,(hs _ (get_lt hY.y)).trans c4.y,es2,(hs _ (get_lt m1)).trans m3,m4⟩,c1⟩
theorem spanL' (n:Nat):SpanC C (n+7) c:=fun H yb mb hY i hi pack p0 p1 F g hF hne=>
  zdh k.calm k.span (le' rfl) hY (zub C k.calm _ c hc (everyL k hc (n+6)) (waysL k hc n) (eitherL k (n+6)) H yb mb hY i hi pack p0 p1 F g hF hne)
theorem hullL (n:Nat):HullC C (n+6) c:=fun H yb mb hY fl fa fb g hF=>
  zdh k.calm k.hull (le' rfl) hY (zwi C k.calm (n+6) c (everyL k hc (n+7)) (packsL k (n+7)) (packIL k hc n) (eitherL k (n+5)) H yb mb hY fl fa fb g hF)
theorem ofL (n:Nat):OfCall C (n+7) c:=fun H yb mb hY i hi fl fa fb g hF=>
  zdh k.calm k.of_ (le' rfl) hY (yar C (n+7) k.calm k.of1 c hc (spanL' k hc n) (hullL k hc (n+3)) H yb mb hY i hi fl fa fb g hF)
theorem togL (n:Nat):TogCall (Ev.call C (n+13)) c:=fun H yb mb hY set=>
  zdh k.calm k.tog (le' rfl) hY (zxx C (n+7) k.calm k.tog1 c hc (leftL k hc (n+6)) (spanL' k hc n) (hullL k hc (n+3)) H yb mb hY set)
omit hc
theorem openL (hbig:c.piles.length≤1000000∧c.events.length≤1000000)(n:Nat):OpenCall (Ev.call C (n+3)) (Ev.call C (n+2)) c:=by
  intro H F is hF
  obtain ⟨x,hp,tc,H',c1,⟨rfl,c2⟩,c5,c6,c7⟩:=zed (n:=n+2) (first:=[]) (captured:=[]) (args:=[.agg (clampCs c),F]) (H:=H) k.calm k.open_ (le' rfl)
    (zvh C k.calm _ (mustL k (n+1)) (isSpanL k (n+1)) (withinL k (n+1)) c (fun h4 H yb w hy m=>zax k.calm k.isPile (le' rfl) rfl (zju C _ (withinL k n) c h4 H yb w hy m)) hbig H F is hF)
  rcases c2 with ⟨h1,rfl⟩|⟨h1,h2,rfl⟩|⟨h1,h2,yb,mb,rfl,h3,h4,h5,h6⟩
  · exact .inl ⟨h1,by rw[c1,c7 rfl rfl]⟩
  · exact .inr (.inl ⟨h1,h2,by rw[c1,c7 rfl rfl]⟩)
  · have he:=lft_eq (v:=.ptr yb 0) c5 h3 c6 (.inl (by simp[refs]))
    subst he
    exact .inr (.inr ⟨h1,h2,H',yb,mb,c1,h3,h4,h5,h6⟩)
theorem headL (hbig:c.piles.length≤1000000∧c.events.length≤1000000)(n:Nat):HeadCall (Ev.call C (n+10)) (Ev.call C (n+9)) c:=
  ybf (openL k hbig (n+7)) fun hv=>toldL k ((Clm.valid_iff c).1 hv) n
theorem oneL (hbig:c.piles.length≤1000000∧c.events.length≤1000000)(n:Nat):OneCall (Ev.call C (n+11)) c:=by
  intro H m
  obtain ⟨x,hp,tc,H',c1,⟨rfl,c2,c3⟩,c5,c6,c7⟩:=zed (n:=n+10) (first:=[]) (captured:=[]) (args:=[.agg (clampCs c),.int .i64 m]) (H:=H) k.calm k.one (le' rfl)
    (zys C _ (Ev.call C (n + 9)) c (openL k hbig (n + 7)) (fun hv => toldL k ((Clm.valid_iff c).1 hv) n) H m (fun hv G yb mb hG hY => zax (captured := [.ptr (H.length + 1) 0]) k.calm k.one1 (le' rfl) rfl
      (zyt C _ c (isPileL k ((Clm.valid_iff c).1 hv) (n+6)) G yb _ hY.y m (H.length+1) (hG.at (by simp) (by simp)))))
  rcases c3 with ⟨h1,rfl⟩|⟨h1,yb,mb,rfl,h3,h4,h5⟩
  · exact .inl ⟨h1,H',c1,c5.kp⟩
  · have he:=lft_eq (v:=.ptr yb 0) c5 c2 c6 (.inl (by simp[refs]))
    subst he
    exact .inr ⟨h1,H',yb,mb,c1,c2,h3,h4,h5⟩
theorem zdg {f n:Nat}{fn:AFunc}{args:List AV}{v:AV}(h0:Has C f fn)(hlen:([]++args++[]).length≤fn.ntmps)(hv:refs v=[])
    (h:Does (ev C (Ev.call C n) ([]:List AB).length Option.none fn.body { tm:=tmA fn.ntmps (zipI 0 args []),df:=[],hp:=[],tc:=[] }) (Fin C ([]:List AB).length fn (Ans v))):Ev.call C (n+1) (.fn (.func f) [] []) args []=Option.some (.ret v,[],[]):=by
  obtain ⟨x,hp,tc,H',c1,⟨rfl,rfl⟩,_,_,c7⟩:=zed (n:=n) (first:=[]) (captured:=[]) (args:=args) (H:=[]) k.calm h0 hlen (by simpa using h)
  rw[c1,c7 hv rfl]
omit k in
theorem way_q (hc:Clm.Fine c){i:Nat}(hi:i<c.piles.length){p:Int}(h0:0≤p)(h5:p≤5){counts:Nat}{w:Clm.Way}(hw:w∈Clm.ways c i p counts):QOk ⟨i,w.size,p,0⟩:=by
  obtain ⟨h1,_,_⟩:=(Clm.mem_ways hc hi h0 counts w).1 hw
  have hp:=hc.pile _ (Clm.pile_mem hi)
  rw[Clm.mem_sizes] at h1
  simp only[Clm.Sp.has] at h1
  exact ⟨by simp only;omega,by simp only;omega,by simp only;omega,by simp only;omega,by simp only;omega,by simp only;omega,h0,h5⟩
theorem atL (n:Nat)(H:List AB)(m:Int):Ev.call C (n+1) (.fn (.func 34) [] []) [.int .i64 m] H=Option.some (.ret (.agg [.int .i64 m,.int .i64 m]),H,[]):=zbn k.calm k.at_ (le' rfl) rfl (at_fun C _ H m)
omit k in
theorem ztj (C:Cfg)(call:CallF)(hSd:SodsC call)(hAt:∀ H m,call (.fn (.func 34) [] []) [.int .i64 m] H=Option.some (.ret (.agg [.int .i64 m,.int .i64 m]),H,[]))(H:List AB)(n:Nat)(pack:Int)(w:Clm.Way)(hq:QOk ⟨n,w.size,pack,0⟩):
    Does (ev C call H.length Option.none af33.body { tm:=tmA af33.ntmps (zipI 0 [.agg (wayCs n pack w)] []),df:=[],hp:=H,tc:=[] })
      (Ends C H.length af33.res fun v _hp tc=>v=spA (builtG pack w)∧tc=[]):=by
  have hs:=fun H=>hSd H n w.size.l w.size.w w.size.h pack hq.l0 hq.l1 hq.w0 hq.w1 hq.h0 hq.h1 hq.p0 (by have:=hq.p1;simp only at this;omega)
  have hg:builtG pack w=⟨w.size.l * w.size.w * w.size.h * pack,w.size.l * w.size.w * w.size.h * pack⟩:=rfl
  rw[hg]
  have ha:=fun H=>hAt H (w.size.l * w.size.w * w.size.h * pack)
  have t0:=zdf (fun i=>w.log.getD i ⟨0,0⟩)
  unfold af33
  simp only[zipI,wayCs,List.cons_append,List.nil_append] at *
  generalize arr7 (fun i=>w.log.getD i ⟨0,0⟩)=R at *
  generalize w.size.l * w.size.w * w.size.h * pack=sd at *
  clear hSd hq hg hAt
  (repeat (first|(with_reducible apply zad;(focus ((conv=>lhs;simp[*,Nat.testBit_eq_decide_div_mod_eq])<;>exact rfl));simp only[addFl])|((with_reducible first|apply zai|apply zak|apply zah|apply zaf|apply zac|apply zaj|apply zag|apply zam|(apply zae;· simp[*,zaa])|(apply zab;· simp[*,zaa]));try simp only[Then,Ops])|simp only[Nat.reduceEqDiff,reduceIte,OutB,Then]))
  refine zao (v:=spA ⟨sd,sd⟩) (.inl rfl) rfl (by simp) (by simp only[resL,resOf,zal];simp[resV,pickC,spA]) ⟨rfl,by simp⟩
theorem builtL (hbig:c.piles.length≤1000000∧c.events.length≤1000000)(n:Nat)(num:Int):Ev.call C (n+14) (.fn (.func 7) [] []) [.agg (clampCs c),.int .i64 num] []=Option.some (.ret (spanR c (isP c num) (Clm.ofAll c num.toNat builtG)),[],[]):=
  zdg k k.built (le' rfl) rfl (zti C (n + 7) c k.dfBuilt (oneL k hbig (n + 2)) (fun hv => ofL k ((Clm.valid_iff c).1 hv) n) num (fun H yb mb i hi hv p hp G hG hY w hw =>
    zax k.calm k.built2 (le' rfl) rfl (ztj C _ (sodsL k (n + 4)) (atL k (n + 5)) G i p w (by
      have hf:=(Clm.valid_iff c).1 hv
      obtain ⟨q0,q1,_⟩:=zkw hf hp
      exact way_q hf hi q0 q1 hw))))
theorem hasL (hbig:c.piles.length≤1000000∧c.events.length≤1000000)(n:Nat)(num:Int):Ev.call C (n+14) (.fn (.func 9) [] []) [.agg (clampCs c),.int .i64 num] []=Option.some (.ret (spanR c (isP c num) (Clm.ofAll c num.toNat fun _=>Clm.leftW c)),[],[]):=
  zdg k k.has (le' rfl) rfl (zzn C (n+7) c k.dfHas (oneL k hbig (n+2)) (fun hv=>ofL k ((Clm.valid_iff c).1 hv) n) num (fun hv=>leftL k ((Clm.valid_iff c).1 hv) (n+6)))
theorem soldL (hbig:c.piles.length≤1000000∧c.events.length≤1000000)(n:Nat)(num:Int):Ev.call C (n+14) (.fn (.func 11) [] []) [.agg (clampCs c),.int .i64 num] []=Option.some (.ret (spanR c (isP c num) (Clm.ofAll c num.toNat (soldG c))),[],[]):=
  zdg k k.sold (le' rfl) rfl (zuc C (n + 7) c k.dfSold (oneL k hbig (n + 2)) (fun hv => ofL k ((Clm.valid_iff c).1 hv) n) num (fun H yb mb i b hb hbm hi hv p hp G hG hY w hw => by
    have hf:=(Clm.valid_iff c).1 hv
    obtain ⟨q0,q1,_⟩:=zkw hf hp
    exact zax (captured := [.ptr b 0]) k.calm k.sold2 (le' rfl) rfl (zud C _ c (sodsL k (n + 4)) G yb _ hY.y b (hG.at hb (by simpa using hbm)) i p w (way_q hf hi q0 q1 hw) ((Clm.way_low hf hi q0 q1 hw).1 _)
      (fun H' hy=>zax (first:=[]) (captured:=[]) k.calm k.left (le' rfl) rfl (zqj C _ c hf H' yb _ hy i p w)))))
theorem allL (hbig:c.piles.length≤40∧c.events.length≤41)(n:Nat):Ev.call C (n+14) (.fn (.func 13) [] []) [.agg (clampCs c)] []=Option.some (.ret (spanR c true (Clm.together c (fullP c))),[],[]):=
  zdg k k.all (le' rfl) rfl (yah C _ (Ev.call C (n+12)) c hbig.1 k.dfAll (alwaysL k (n+11)) (headL k ⟨by omega,by omega⟩ (n+3)) (fun hv=>togL k ((Clm.valid_iff c).1 hv) n))
theorem enoughL (hbig:c.piles.length≤40∧c.events.length≤41)(n:Nat)(num s:Int):Ev.call C (n+14) (.fn (.func 15) [] []) [.agg (clampCs c),.int .i64 num,.int .i64 s] []=Option.some (.ret (numR c (isP c num&&isS s) (enoughN (Clm.together c (2 ^ num.toNat)) s)),[],[]):=
  zdg k k.enough (le' rfl) rfl (zoo C _ (Ev.call C (n + 12)) c k.dfEnough (headL k ⟨by omega, by omega⟩ (n + 3)) (fun hv => togL k ((Clm.valid_iff c).1 hv) n) num s (fun hv G yb mb hG hY =>
    zax (captured:=[.ptr 1 0,.ptr 2 0]) k.calm k.enough2 (le' rfl) rfl (zop C _ c (isPileL k ((Clm.valid_iff c).1 hv) (n+9)) (areSodsL k (n+9)) G yb _ hY.y num s 1 2 (hG.at rfl (by simp)) (hG.at rfl (by simp)))))
theorem emptyL (hbig:c.piles.length≤40∧c.events.length≤41)(n:Nat):Ev.call C (n+14) (.fn (.func 17) [] []) [.agg (clampCs c)] []=Option.some (.ret (emptyR c),[],[]):=
  zdg k k.empty (le' rfl) rfl (zta C k.calm _ (Ev.call C (n+12)) c k.dfEmpty (alwaysL k (n+11)) (headL k ⟨by omega,by omega⟩ (n+3)) (fun hv=>togL k ((Clm.valid_iff c).1 hv) n))
theorem firstL (n:Nat):FirstC (Ev.call C (n+2)) (Ev.call C n) c:=by
  intro H yb mb hY fl fa fb p L hL hF
  obtain ⟨x,hp,tc,H',c1,⟨c2,c3,c4,rfl⟩,c5,_,_⟩:=zed (n:=n+1) (first:=[]) (captured:=[]) (args:=[.vs 1 (L.map setE),.agg [.fn fl fa fb]]) (H:=H) k.calm k.first (le' rfl)
    (zsv C _ (Ev.call C n) (mustL k n) c (fun H yb mb hY F p L hL hF=>zdh k.calm k.index (le' rfl) hY (zso C k.calm _ c H yb mb hY F p L hL hF)) H yb mb hY fl fa fb p L hL hF)
  have hs:=c5.same c3
  obtain ⟨es,m1,m2⟩:=hY.m
  obtain ⟨es2,m3,m4⟩:=c4.m
  exact ⟨H',tc,c2,⟨c5.len,fun b hb ht=>(hs b hb).trans (c3.get b hb ht)⟩,⟨hY.ne,(hs _ (get_lt hY.y)).trans c4.y,es2,(hs _ (get_lt m1)).trans m3,m4⟩,c1⟩
theorem shareL (hbig:c.piles.length≤40∧c.events.length≤41)(n:Nat)(s:Int):Ev.call C (n+17) (.fn (.func 19) [] []) [.agg (clampCs c),.int .i64 s] []=Option.some (.ret (shareR c s),[],[]):=
  zdg k k.share (le' rfl) rfl (zrm C _ (Ev.call C (n + 14)) (Ev.call C (n + 15)) c k.dfShare (headL k ⟨by omega, by omega⟩ (n + 6)) (k.sets (n + 15)) (fun _ => firstL k (n + 14)) s
    (fun hv G yb mb hG hY=>zax (captured:=[.ptr 1 0]) k.calm k.share2 (le' rfl) rfl (zrn C _ (areSodsL k (n+12)) G _ s 1 (hG.at rfl (by simp))))
    (fun hv H yb mb b1 b2 h1 h2 n1 n2 L G hG hY set hs=>zdh (captured:=[.ptr b1 0,.ptr b2 0]) k.calm k.share3 (le' rfl) hY (znr C _ c (togL k ((Clm.valid_iff c).1 hv) n) G yb mb hY set s b1 b2 (hG.at h1 (by simpa using n1)) (hG.at h2 (by simpa using n2)) ⟨n1,n2⟩)))
theorem clashL (hbig:c.piles.length≤40∧c.events.length≤41)(n:Nat):Ev.call C (n+14) (.fn (.func 21) [] []) [.agg (clampCs c)] []=Option.some (.ret (clashR c),[],[]):=
  zdg k k.clash (le' rfl) rfl (ztf C k.calm _ (Ev.call C (n + 11)) (Ev.call C (n + 12)) (mustL k (n + 12)) c k.dfClash (alwaysL k (n + 11)) (openL k ⟨by omega, by omega⟩ (n + 10)) (fun hv => everyL k ((Clm.valid_iff c).1 hv) (n + 12)) (fun hv => canL k ((Clm.valid_iff c).1 hv) (n + 4)) (k.sets (n + 12)) (fun _ => firstL k (n + 11))
    (fun hv H yb mb b1 b2 h1 h2 n1 n2 G hG hY set hs=>zdh (captured:=[.ptr b1 0,.ptr b2 0]) k.calm k.clash2 (le' rfl) hY (zos C _ c ((Clm.valid_iff c).1 hv).events (canL k ((Clm.valid_iff c).1 hv) (n+1)) G yb mb hY set ((Clm.mem_sets ((Clm.valid_iff c).1 hv).events set).1 hs) b1 b2 (hG.at h1 (by simpa using n1)) (hG.at h2 (by simpa using n2)))))
end
end K
end Ev
end Go.Proofs.YtimgnlellflciaaGreat

/- Package clamp: its sets, in order, found by the evaluator. -/
namespace Go.Proofs.YtimgnlellflciaaGreat
open Go Go.Proofs
namespace Ev
namespace K
set_option maxRecDepth 100000
noncomputable def cfgS:Cfg where
  fns:=FT.find fnTree
  glob:=fun _=>none
  dfk:=fun _=>none
  ext:=fun _=>none
  gcAt:=20
  whole:=fun _=>true
noncomputable def eqCs:List AV→List Nat→Bool:=fun l=>List.rec (motive:=fun _=>List Nat→Bool) (fun m=>List.rec true (fun _ _ _=>false) m)
  (fun v _ ih m=>List.rec (motive:=fun _=>Bool) false (fun b m' _=>match v with|.int .u64 (.ofNat a)=>Q.andB (Nat.beq a b) (ih m')|_=>false) m) l
noncomputable def setsB (k:Nat)(r:Q.R):Bool:=match r with
  |.cret (.sl b 0 n 1) hp m _=>Q.andB (Nat.beq n (2 ^ k)) (match (Q.listH m hp)[b]? with|some (.cells cs)=>eqCs cs (Clm.setsBy k)|_=>false)
  |_=>false
theorem sets_0:setsB 0 (Q.callQ cfgS 30 (.fn (.func 61) [] []) [.int .i64 0] (.e Q.cap) 0)=true:=by kernel_rfl
theorem sets_1:setsB 1 (Q.callQ cfgS 30 (.fn (.func 61) [] []) [.int .i64 1] (.e Q.cap) 0)=true:=by kernel_rfl
theorem sets_2:setsB 2 (Q.callQ cfgS 30 (.fn (.func 61) [] []) [.int .i64 2] (.e Q.cap) 0)=true:=by kernel_rfl
theorem sets_3:setsB 3 (Q.callQ cfgS 30 (.fn (.func 61) [] []) [.int .i64 3] (.e Q.cap) 0)=true:=by kernel_rfl
theorem sets_4:setsB 4 (Q.callQ cfgS 30 (.fn (.func 61) [] []) [.int .i64 4] (.e Q.cap) 0)=true:=by kernel_rfl
theorem sets_5:setsB 5 (Q.callQ cfgS 30 (.fn (.func 61) [] []) [.int .i64 5] (.e Q.cap) 0)=true:=by kernel_rfl
theorem sets_6:setsB 6 (Q.callQ cfgS 30 (.fn (.func 61) [] []) [.int .i64 6] (.e Q.cap) 0)=true:=by kernel_rfl
end K
end Ev
end Go.Proofs.YtimgnlellflciaaGreat

/- The code of the evaluator is that of the program (part 1). Printed by program. -/
namespace Go.Proofs.YtimgnlellflciaaGreat
open Go Go.Proofs
namespace Ev
set_option maxRecDepth 1000000
theorem is9 : ∃ F, Tryz.prog.funcs[9]? = some F ∧ (F.name == "runtime.NumGoroutine")=false∧compFn Tryz.prog F=some af9.strip:=⟨_,Tryz.func9,by kernel_rfl,by kernel_rfl⟩
theorem is13 : ∃ F, Tryz.prog.funcs[13]? = some F ∧ (F.name == "runtime.NumGoroutine")=false∧compFn Tryz.prog F=some af13.strip:=⟨_,Tryz.func13,by kernel_rfl,by kernel_rfl⟩
theorem is19 : ∃ F, Tryz.prog.funcs[19]? = some F ∧ (F.name == "runtime.NumGoroutine")=false∧compFn Tryz.prog F=some af19.strip:=⟨_,Tryz.func19,by kernel_rfl,by kernel_rfl⟩
theorem is21 : ∃ F, Tryz.prog.funcs[21]? = some F ∧ (F.name == "runtime.NumGoroutine")=false∧compFn Tryz.prog F=some af21.strip:=⟨_,Tryz.func21,by kernel_rfl,by kernel_rfl⟩
theorem is26 : ∃ F, Tryz.prog.funcs[26]? = some F ∧ (F.name == "runtime.NumGoroutine")=false∧compFn Tryz.prog F=some af26.strip:=⟨_,Tryz.func26,by kernel_rfl,by kernel_rfl⟩
theorem is33 : ∃ F, Tryz.prog.funcs[33]? = some F ∧ (F.name == "runtime.NumGoroutine")=false∧compFn Tryz.prog F=some af33.strip:=⟨_,Tryz.func33,by kernel_rfl,by kernel_rfl⟩
theorem is35 : ∃ F, Tryz.prog.funcs[35]? = some F ∧ (F.name == "runtime.NumGoroutine")=false∧compFn Tryz.prog F=some af35.strip:=⟨_,Tryz.func35,by kernel_rfl,by kernel_rfl⟩
theorem is43 : ∃ F, Tryz.prog.funcs[43]? = some F ∧ (F.name == "runtime.NumGoroutine")=false∧compFn Tryz.prog F=some af43.strip:=⟨_,Tryz.func43,by kernel_rfl,by kernel_rfl⟩
theorem is44 : ∃ F, Tryz.prog.funcs[44]? = some F ∧ (F.name == "runtime.NumGoroutine")=false∧compFn Tryz.prog F=some af44.strip:=⟨_,Tryz.func44,by kernel_rfl,by kernel_rfl⟩
theorem is46 : ∃ F, Tryz.prog.funcs[46]? = some F ∧ (F.name == "runtime.NumGoroutine")=false∧compFn Tryz.prog F=some af46.strip:=⟨_,Tryz.func46,by kernel_rfl,by kernel_rfl⟩
theorem is48 : ∃ F, Tryz.prog.funcs[48]? = some F ∧ (F.name == "runtime.NumGoroutine")=false∧compFn Tryz.prog F=some af48.strip:=⟨_,Tryz.func48,by kernel_rfl,by kernel_rfl⟩
theorem is52 : ∃ F, Tryz.prog.funcs[52]? = some F ∧ (F.name == "runtime.NumGoroutine")=false∧compFn Tryz.prog F=some af52.strip:=⟨_,Tryz.func52,by kernel_rfl,by kernel_rfl⟩
theorem is54 : ∃ F, Tryz.prog.funcs[54]? = some F ∧ (F.name == "runtime.NumGoroutine")=false∧compFn Tryz.prog F=some af54.strip:=⟨_,Tryz.func54,by kernel_rfl,by kernel_rfl⟩
theorem is58 : ∃ F, Tryz.prog.funcs[58]? = some F ∧ (F.name == "runtime.NumGoroutine")=false∧compFn Tryz.prog F=some af58.strip:=⟨_,Tryz.func58,by kernel_rfl,by kernel_rfl⟩
theorem is61 : ∃ F, Tryz.prog.funcs[61]? = some F ∧ (F.name == "runtime.NumGoroutine")=false∧compFn Tryz.prog F=some af61.strip:=⟨_,Tryz.func61,by kernel_rfl,by kernel_rfl⟩
theorem is66 : ∃ F, Tryz.prog.funcs[66]? = some F ∧ (F.name == "runtime.NumGoroutine")=false∧compFn Tryz.prog F=some af66.strip:=⟨_,Tryz.func66,by kernel_rfl,by kernel_rfl⟩
theorem is67 : ∃ F, Tryz.prog.funcs[67]? = some F ∧ (F.name == "runtime.NumGoroutine")=false∧compFn Tryz.prog F=some af67.strip:=⟨_,Tryz.func67,by kernel_rfl,by kernel_rfl⟩
theorem is83 : ∃ F, Tryz.prog.funcs[83]? = some F ∧ (F.name == "runtime.NumGoroutine")=false∧compFn Tryz.prog F=some af83.strip:=⟨_,Tryz.func83,by kernel_rfl,by kernel_rfl⟩
theorem is85 : ∃ F, Tryz.prog.funcs[85]? = some F ∧ (F.name == "runtime.NumGoroutine")=false∧compFn Tryz.prog F=some af85.strip:=⟨_,Tryz.func85,by kernel_rfl,by kernel_rfl⟩
theorem is86 : ∃ F, Tryz.prog.funcs[86]? = some F ∧ (F.name == "runtime.NumGoroutine")=false∧compFn Tryz.prog F=some af86.strip:=⟨_,Tryz.func86,by kernel_rfl,by kernel_rfl⟩
theorem is90 : ∃ F, Tryz.prog.funcs[90]? = some F ∧ (F.name == "runtime.NumGoroutine")=false∧compFn Tryz.prog F=some af90.strip:=⟨_,Tryz.func90,by kernel_rfl,by kernel_rfl⟩
theorem is91 : ∃ F, Tryz.prog.funcs[91]? = some F ∧ (F.name == "runtime.NumGoroutine")=false∧compFn Tryz.prog F=some af91.strip:=⟨_,Tryz.func91,by kernel_rfl,by kernel_rfl⟩
theorem is95 : ∃ F, Tryz.prog.funcs[95]? = some F ∧ (F.name == "runtime.NumGoroutine")=false∧compFn Tryz.prog F=some af95.strip:=⟨_,Tryz.func95,by kernel_rfl,by kernel_rfl⟩
theorem is96 : ∃ F, Tryz.prog.funcs[96]? = some F ∧ (F.name == "runtime.NumGoroutine")=false∧compFn Tryz.prog F=some af96.strip:=⟨_,Tryz.func96,by kernel_rfl,by kernel_rfl⟩
theorem is97 : ∃ F, Tryz.prog.funcs[97]? = some F ∧ (F.name == "runtime.NumGoroutine")=false∧compFn Tryz.prog F=some af97.strip:=⟨_,Tryz.func97,by kernel_rfl,by kernel_rfl⟩
theorem is102 : ∃ F, Tryz.prog.funcs[102]? = some F ∧ (F.name == "runtime.NumGoroutine")=false∧compFn Tryz.prog F=some af102.strip:=⟨_,Tryz.func102,by kernel_rfl,by kernel_rfl⟩
theorem is105 : ∃ F, Tryz.prog.funcs[105]? = some F ∧ (F.name == "runtime.NumGoroutine")=false∧compFn Tryz.prog F=some af105.strip:=⟨_,Tryz.func105,by kernel_rfl,by kernel_rfl⟩
theorem is127 : ∃ F, Tryz.prog.funcs[127]? = some F ∧ (F.name == "runtime.NumGoroutine")=false∧compFn Tryz.prog F=some af127.strip:=⟨_,Tryz.func127,by kernel_rfl,by kernel_rfl⟩
end Ev
end Go.Proofs.YtimgnlellflciaaGreat

/- The code of the evaluator is that of the program (part 2). Printed by program. -/
namespace Go.Proofs.YtimgnlellflciaaGreat
open Go Go.Proofs
namespace Ev
set_option maxRecDepth 1000000
theorem is6 : ∃ F, Tryz.prog.funcs[6]? = some F ∧ (F.name == "runtime.NumGoroutine")=false∧compFn Tryz.prog F=some af6.strip:=⟨_,Tryz.func6,by kernel_rfl,by kernel_rfl⟩
theorem is17 : ∃ F, Tryz.prog.funcs[17]? = some F ∧ (F.name == "runtime.NumGoroutine")=false∧compFn Tryz.prog F=some af17.strip:=⟨_,Tryz.func17,by kernel_rfl,by kernel_rfl⟩
theorem is23 : ∃ F, Tryz.prog.funcs[23]? = some F ∧ (F.name == "runtime.NumGoroutine")=false∧compFn Tryz.prog F=some af23.strip:=⟨_,Tryz.func23,by kernel_rfl,by kernel_rfl⟩
theorem is24 : ∃ F, Tryz.prog.funcs[24]? = some F ∧ (F.name == "runtime.NumGoroutine")=false∧compFn Tryz.prog F=some af24.strip:=⟨_,Tryz.func24,by kernel_rfl,by kernel_rfl⟩
theorem is25 : ∃ F, Tryz.prog.funcs[25]? = some F ∧ (F.name == "runtime.NumGoroutine")=false∧compFn Tryz.prog F=some af25.strip:=⟨_,Tryz.func25,by kernel_rfl,by kernel_rfl⟩
theorem is27 : ∃ F, Tryz.prog.funcs[27]? = some F ∧ (F.name == "runtime.NumGoroutine")=false∧compFn Tryz.prog F=some af27.strip:=⟨_,Tryz.func27,by kernel_rfl,by kernel_rfl⟩
theorem is28 : ∃ F, Tryz.prog.funcs[28]? = some F ∧ (F.name == "runtime.NumGoroutine")=false∧compFn Tryz.prog F=some af28.strip:=⟨_,Tryz.func28,by kernel_rfl,by kernel_rfl⟩
theorem is29 : ∃ F, Tryz.prog.funcs[29]? = some F ∧ (F.name == "runtime.NumGoroutine")=false∧compFn Tryz.prog F=some af29.strip:=⟨_,Tryz.func29,by kernel_rfl,by kernel_rfl⟩
theorem is37 : ∃ F, Tryz.prog.funcs[37]? = some F ∧ (F.name == "runtime.NumGoroutine")=false∧compFn Tryz.prog F=some af37.strip:=⟨_,Tryz.func37,by kernel_rfl,by kernel_rfl⟩
theorem is42 : ∃ F, Tryz.prog.funcs[42]? = some F ∧ (F.name == "runtime.NumGoroutine")=false∧compFn Tryz.prog F=some af42.strip:=⟨_,Tryz.func42,by kernel_rfl,by kernel_rfl⟩
theorem is53 : ∃ F, Tryz.prog.funcs[53]? = some F ∧ (F.name == "runtime.NumGoroutine")=false∧compFn Tryz.prog F=some af53.strip:=⟨_,Tryz.func53,by kernel_rfl,by kernel_rfl⟩
theorem is57 : ∃ F, Tryz.prog.funcs[57]? = some F ∧ (F.name == "runtime.NumGoroutine")=false∧compFn Tryz.prog F=some af57.strip:=⟨_,Tryz.func57,by kernel_rfl,by kernel_rfl⟩
theorem is62 : ∃ F, Tryz.prog.funcs[62]? = some F ∧ (F.name == "runtime.NumGoroutine")=false∧compFn Tryz.prog F=some af62.strip:=⟨_,Tryz.func62,by kernel_rfl,by kernel_rfl⟩
theorem is68 : ∃ F, Tryz.prog.funcs[68]? = some F ∧ (F.name == "runtime.NumGoroutine")=false∧compFn Tryz.prog F=some af68.strip:=⟨_,Tryz.func68,by kernel_rfl,by kernel_rfl⟩
theorem is77 : ∃ F, Tryz.prog.funcs[77]? = some F ∧ (F.name == "runtime.NumGoroutine")=false∧compFn Tryz.prog F=some af77.strip:=⟨_,Tryz.func77,by kernel_rfl,by kernel_rfl⟩
theorem is80 : ∃ F, Tryz.prog.funcs[80]? = some F ∧ (F.name == "runtime.NumGoroutine")=false∧compFn Tryz.prog F=some af80.strip:=⟨_,Tryz.func80,by kernel_rfl,by kernel_rfl⟩
theorem is81 : ∃ F, Tryz.prog.funcs[81]? = some F ∧ (F.name == "runtime.NumGoroutine")=false∧compFn Tryz.prog F=some af81.strip:=⟨_,Tryz.func81,by kernel_rfl,by kernel_rfl⟩
theorem is84 : ∃ F, Tryz.prog.funcs[84]? = some F ∧ (F.name == "runtime.NumGoroutine")=false∧compFn Tryz.prog F=some af84.strip:=⟨_,Tryz.func84,by kernel_rfl,by kernel_rfl⟩
theorem is87 : ∃ F, Tryz.prog.funcs[87]? = some F ∧ (F.name == "runtime.NumGoroutine")=false∧compFn Tryz.prog F=some af87.strip:=⟨_,Tryz.func87,by kernel_rfl,by kernel_rfl⟩
theorem is89 : ∃ F, Tryz.prog.funcs[89]? = some F ∧ (F.name == "runtime.NumGoroutine")=false∧compFn Tryz.prog F=some af89.strip:=⟨_,Tryz.func89,by kernel_rfl,by kernel_rfl⟩
theorem is94 : ∃ F, Tryz.prog.funcs[94]? = some F ∧ (F.name == "runtime.NumGoroutine")=false∧compFn Tryz.prog F=some af94.strip:=⟨_,Tryz.func94,by kernel_rfl,by kernel_rfl⟩
theorem is99 : ∃ F, Tryz.prog.funcs[99]? = some F ∧ (F.name == "runtime.NumGoroutine")=false∧compFn Tryz.prog F=some af99.strip:=⟨_,Tryz.func99,by kernel_rfl,by kernel_rfl⟩
theorem is101 : ∃ F, Tryz.prog.funcs[101]? = some F ∧ (F.name == "runtime.NumGoroutine")=false∧compFn Tryz.prog F=some af101.strip:=⟨_,Tryz.func101,by kernel_rfl,by kernel_rfl⟩
theorem is106 : ∃ F, Tryz.prog.funcs[106]? = some F ∧ (F.name == "runtime.NumGoroutine")=false∧compFn Tryz.prog F=some af106.strip:=⟨_,Tryz.func106,by kernel_rfl,by kernel_rfl⟩
theorem is108 : ∃ F, Tryz.prog.funcs[108]? = some F ∧ (F.name == "runtime.NumGoroutine")=false∧compFn Tryz.prog F=some af108.strip:=⟨_,Tryz.func108,by kernel_rfl,by kernel_rfl⟩
theorem is110 : ∃ F, Tryz.prog.funcs[110]? = some F ∧ (F.name == "runtime.NumGoroutine")=false∧compFn Tryz.prog F=some af110.strip:=⟨_,Tryz.func110,by kernel_rfl,by kernel_rfl⟩
theorem is111 : ∃ F, Tryz.prog.funcs[111]? = some F ∧ (F.name == "runtime.NumGoroutine")=false∧compFn Tryz.prog F=some af111.strip:=⟨_,Tryz.func111,by kernel_rfl,by kernel_rfl⟩
theorem is129 : ∃ F, Tryz.prog.funcs[129]? = some F ∧ (F.name == "runtime.NumGoroutine")=false∧compFn Tryz.prog F=some af129.strip:=⟨_,Tryz.func129,by kernel_rfl,by kernel_rfl⟩
theorem is130 : ∃ F, Tryz.prog.funcs[130]? = some F ∧ (F.name == "runtime.NumGoroutine")=false∧compFn Tryz.prog F=some af130.strip:=⟨_,Tryz.func130,by kernel_rfl,by kernel_rfl⟩
end Ev
end Go.Proofs.YtimgnlellflciaaGreat

/- The code of the evaluator is that of the program (part 3). Printed by program. -/
namespace Go.Proofs.YtimgnlellflciaaGreat
open Go Go.Proofs
namespace Ev
set_option maxRecDepth 1000000
theorem is7 : ∃ F, Tryz.prog.funcs[7]? = some F ∧ (F.name == "runtime.NumGoroutine")=false∧compFn Tryz.prog F=some af7.strip:=⟨_,Tryz.func7,by kernel_rfl,by kernel_rfl⟩
theorem is11 : ∃ F, Tryz.prog.funcs[11]? = some F ∧ (F.name == "runtime.NumGoroutine")=false∧compFn Tryz.prog F=some af11.strip:=⟨_,Tryz.func11,by kernel_rfl,by kernel_rfl⟩
theorem is15 : ∃ F, Tryz.prog.funcs[15]? = some F ∧ (F.name == "runtime.NumGoroutine")=false∧compFn Tryz.prog F=some af15.strip:=⟨_,Tryz.func15,by kernel_rfl,by kernel_rfl⟩
theorem is31 : ∃ F, Tryz.prog.funcs[31]? = some F ∧ (F.name == "runtime.NumGoroutine")=false∧compFn Tryz.prog F=some af31.strip:=⟨_,Tryz.func31,by kernel_rfl,by kernel_rfl⟩
theorem is32 : ∃ F, Tryz.prog.funcs[32]? = some F ∧ (F.name == "runtime.NumGoroutine")=false∧compFn Tryz.prog F=some af32.strip:=⟨_,Tryz.func32,by kernel_rfl,by kernel_rfl⟩
theorem is34 : ∃ F, Tryz.prog.funcs[34]? = some F ∧ (F.name == "runtime.NumGoroutine")=false∧compFn Tryz.prog F=some af34.strip:=⟨_,Tryz.func34,by kernel_rfl,by kernel_rfl⟩
theorem is39 : ∃ F, Tryz.prog.funcs[39]? = some F ∧ (F.name == "runtime.NumGoroutine")=false∧compFn Tryz.prog F=some af39.strip:=⟨_,Tryz.func39,by kernel_rfl,by kernel_rfl⟩
theorem is40 : ∃ F, Tryz.prog.funcs[40]? = some F ∧ (F.name == "runtime.NumGoroutine")=false∧compFn Tryz.prog F=some af40.strip:=⟨_,Tryz.func40,by kernel_rfl,by kernel_rfl⟩
theorem is45 : ∃ F, Tryz.prog.funcs[45]? = some F ∧ (F.name == "runtime.NumGoroutine")=false∧compFn Tryz.prog F=some af45.strip:=⟨_,Tryz.func45,by kernel_rfl,by kernel_rfl⟩
theorem is47 : ∃ F, Tryz.prog.funcs[47]? = some F ∧ (F.name == "runtime.NumGoroutine")=false∧compFn Tryz.prog F=some af47.strip:=⟨_,Tryz.func47,by kernel_rfl,by kernel_rfl⟩
theorem is51 : ∃ F, Tryz.prog.funcs[51]? = some F ∧ (F.name == "runtime.NumGoroutine")=false∧compFn Tryz.prog F=some af51.strip:=⟨_,Tryz.func51,by kernel_rfl,by kernel_rfl⟩
theorem is59 : ∃ F, Tryz.prog.funcs[59]? = some F ∧ (F.name == "runtime.NumGoroutine")=false∧compFn Tryz.prog F=some af59.strip:=⟨_,Tryz.func59,by kernel_rfl,by kernel_rfl⟩
theorem is60 : ∃ F, Tryz.prog.funcs[60]? = some F ∧ (F.name == "runtime.NumGoroutine")=false∧compFn Tryz.prog F=some af60.strip:=⟨_,Tryz.func60,by kernel_rfl,by kernel_rfl⟩
theorem is64 : ∃ F, Tryz.prog.funcs[64]? = some F ∧ (F.name == "runtime.NumGoroutine")=false∧compFn Tryz.prog F=some af64.strip:=⟨_,Tryz.func64,by kernel_rfl,by kernel_rfl⟩
theorem is65 : ∃ F, Tryz.prog.funcs[65]? = some F ∧ (F.name == "runtime.NumGoroutine")=false∧compFn Tryz.prog F=some af65.strip:=⟨_,Tryz.func65,by kernel_rfl,by kernel_rfl⟩
theorem is74 : ∃ F, Tryz.prog.funcs[74]? = some F ∧ (F.name == "runtime.NumGoroutine")=false∧compFn Tryz.prog F=some af74.strip:=⟨_,Tryz.func74,by kernel_rfl,by kernel_rfl⟩
theorem is75 : ∃ F, Tryz.prog.funcs[75]? = some F ∧ (F.name == "runtime.NumGoroutine")=false∧compFn Tryz.prog F=some af75.strip:=⟨_,Tryz.func75,by kernel_rfl,by kernel_rfl⟩
theorem is76 : ∃ F, Tryz.prog.funcs[76]? = some F ∧ (F.name == "runtime.NumGoroutine")=false∧compFn Tryz.prog F=some af76.strip:=⟨_,Tryz.func76,by kernel_rfl,by kernel_rfl⟩
theorem is78 : ∃ F, Tryz.prog.funcs[78]? = some F ∧ (F.name == "runtime.NumGoroutine")=false∧compFn Tryz.prog F=some af78.strip:=⟨_,Tryz.func78,by kernel_rfl,by kernel_rfl⟩
theorem is79 : ∃ F, Tryz.prog.funcs[79]? = some F ∧ (F.name == "runtime.NumGoroutine")=false∧compFn Tryz.prog F=some af79.strip:=⟨_,Tryz.func79,by kernel_rfl,by kernel_rfl⟩
theorem is82 : ∃ F, Tryz.prog.funcs[82]? = some F ∧ (F.name == "runtime.NumGoroutine")=false∧compFn Tryz.prog F=some af82.strip:=⟨_,Tryz.func82,by kernel_rfl,by kernel_rfl⟩
theorem is88 : ∃ F, Tryz.prog.funcs[88]? = some F ∧ (F.name == "runtime.NumGoroutine")=false∧compFn Tryz.prog F=some af88.strip:=⟨_,Tryz.func88,by kernel_rfl,by kernel_rfl⟩
theorem is92 : ∃ F, Tryz.prog.funcs[92]? = some F ∧ (F.name == "runtime.NumGoroutine")=false∧compFn Tryz.prog F=some af92.strip:=⟨_,Tryz.func92,by kernel_rfl,by kernel_rfl⟩
theorem is98 : ∃ F, Tryz.prog.funcs[98]? = some F ∧ (F.name == "runtime.NumGoroutine")=false∧compFn Tryz.prog F=some af98.strip:=⟨_,Tryz.func98,by kernel_rfl,by kernel_rfl⟩
theorem is103 : ∃ F, Tryz.prog.funcs[103]? = some F ∧ (F.name == "runtime.NumGoroutine")=false∧compFn Tryz.prog F=some af103.strip:=⟨_,Tryz.func103,by kernel_rfl,by kernel_rfl⟩
theorem is104 : ∃ F, Tryz.prog.funcs[104]? = some F ∧ (F.name == "runtime.NumGoroutine")=false∧compFn Tryz.prog F=some af104.strip:=⟨_,Tryz.func104,by kernel_rfl,by kernel_rfl⟩
theorem is107 : ∃ F, Tryz.prog.funcs[107]? = some F ∧ (F.name == "runtime.NumGoroutine")=false∧compFn Tryz.prog F=some af107.strip:=⟨_,Tryz.func107,by kernel_rfl,by kernel_rfl⟩
theorem is109 : ∃ F, Tryz.prog.funcs[109]? = some F ∧ (F.name == "runtime.NumGoroutine")=false∧compFn Tryz.prog F=some af109.strip:=⟨_,Tryz.func109,by kernel_rfl,by kernel_rfl⟩
theorem is128 : ∃ F, Tryz.prog.funcs[128]? = some F ∧ (F.name == "runtime.NumGoroutine")=false∧compFn Tryz.prog F=some af128.strip:=⟨_,Tryz.func128,by kernel_rfl,by kernel_rfl⟩
end Ev
end Go.Proofs.YtimgnlellflciaaGreat

/- The table of the evaluator is that of the program. Printed by program. -/
namespace Go.Proofs.YtimgnlellflciaaGreat
open Go Go.Proofs
namespace Ev
def FT.All (p:Nat→AFunc→Prop):FT→Prop
  |.leaf=>True
  |.node k f l r=>p k f∧(FT.All p l∧FT.All p r)
theorem FT.find_all {p:Nat→AFunc→Prop}:∀ {t:FT} {n:Nat} {f:AFunc},FT.All p t→FT.find t n=some f→p n f
  |.leaf,n,f,_,h=>by cases h
  |.node k g l r,n,f,ha,h=>by
    have e:FT.find (.node k g l r) n=(Bool.rec (Bool.rec (FT.find r n) (FT.find l n) (Nat.ble (Nat.succ n) k)) (some g) (Nat.beq n k):Option AFunc):=rfl
    rw[e] at h
    cases hb:Nat.beq n k with
    |true=>rw[hb] at h;cases h;rw[Nat.eq_of_beq_eq_true hb];exact ha.1
    |false=>
      rw[hb] at h
      cases hc:Nat.ble (Nat.succ n) k with
      |true=>rw[hc] at h;exact FT.find_all ha.2.1 h
      |false=>rw[hc] at h;exact FT.find_all ha.2.2 h
theorem znn : FT.All (fun k af => ∃ F, Tryz.prog.funcs[k]? = some F ∧ (F.name == "runtime.NumGoroutine")=false∧compFn Tryz.prog F=some af.strip) fnTree:=
  ⟨is66,⟨is37,⟨is24,⟨is15,⟨is9,⟨is7,⟨is6,trivial,trivial⟩,trivial⟩,⟨is13,⟨is11,trivial,trivial⟩,trivial⟩⟩,⟨is21,⟨is19,⟨is17,trivial,trivial⟩,trivial⟩,⟨is23,trivial,trivial⟩⟩⟩,⟨is31,⟨is27,⟨is26,⟨is25,trivial,trivial⟩,trivial⟩,⟨is29,⟨is28,trivial,trivial⟩,trivial⟩⟩,⟨is34,⟨is33,⟨is32,trivial,trivial⟩,trivial⟩,⟨is35,trivial,trivial⟩⟩⟩⟩,⟨is52,⟨is45,⟨is42,⟨is40,⟨is39,trivial,trivial⟩,trivial⟩,⟨is44,⟨is43,trivial,trivial⟩,trivial⟩⟩,⟨is48,⟨is47,⟨is46,trivial,trivial⟩,trivial⟩,⟨is51,trivial,trivial⟩⟩⟩,⟨is60,⟨is57,⟨is54,⟨is53,trivial,trivial⟩,trivial⟩,⟨is59,⟨is58,trivial,trivial⟩,trivial⟩⟩,⟨is64,⟨is62,⟨is61,trivial,trivial⟩,trivial⟩,⟨is65,trivial,trivial⟩⟩⟩⟩⟩,⟨is94,⟨is82,⟨is77,⟨is74,⟨is68,⟨is67,trivial,trivial⟩,trivial⟩,⟨is76,⟨is75,trivial,trivial⟩,trivial⟩⟩,⟨is80,⟨is79,⟨is78,trivial,trivial⟩,trivial⟩,⟨is81,trivial,trivial⟩⟩⟩,⟨is88,⟨is85,⟨is84,⟨is83,trivial,trivial⟩,trivial⟩,⟨is87,⟨is86,trivial,trivial⟩,trivial⟩⟩,⟨is91,⟨is90,⟨is89,trivial,trivial⟩,trivial⟩,⟨is92,trivial,trivial⟩⟩⟩⟩,⟨is106,⟨is101,⟨is97,⟨is96,⟨is95,trivial,trivial⟩,trivial⟩,⟨is99,⟨is98,trivial,trivial⟩,trivial⟩⟩,⟨is104,⟨is103,⟨is102,trivial,trivial⟩,trivial⟩,⟨is105,trivial,trivial⟩⟩⟩,⟨is111,⟨is109,⟨is108,⟨is107,trivial,trivial⟩,trivial⟩,⟨is110,trivial,trivial⟩⟩,⟨is129,⟨is128,⟨is127,trivial,trivial⟩,trivial⟩,⟨is130,trivial,trivial⟩⟩⟩⟩⟩⟩
end Ev
end Go.Proofs.YtimgnlellflciaaGreat

/- A deferred function that recovers, and hands on to another one. -/
namespace Go.Proofs.YtimgnlellflciaaGreat
open Go Go.RowKit
section
variable {P:Program} {n:Nat} {Q:Exit→Act→List Frame→World→Prop} {a:Act} {cs cs':List Frame} {w:World}

theorem zfh {id:Nat}{ops:Array Oper}{o:Oper}{rest:List Nat}{v:Value}(hl:List.range ops.size=0::rest)(ho:ops[0]?=some o)(hg:Region.wanted o (yielded ops a.tmps)=true)
    (hrun:(execOp a.eval o).run P w=.ok .recover w) (hrec:recoverD cs=some (v,cs')∨(recoverD cs=none∧v=.nilIface∧cs'=cs))
    (h:wpOpsIn Fence.wide n P ops (fun e a' w'=>Q e a' cs' w') rest (a.put o.dst v) w):(Code.region id ops false).wpSIn Fence.wide n P Q a cs w:=by
  intro b k hb hro hF hroom
  have hlen:cs'.length=cs.length:=by
    rcases hrec with h|⟨_,_,h⟩
    · exact recoverD_length h
    · rw[h]
  obtain ⟨e,a',w',hq,harr⟩:=wp_opsIn rest _ _ h b k cs' hro hF (by rw[hlen];exact hroom)
  have h0:(lone (b.atR a (.inRegion ops (0::rest)::k)) cs w).fenced P Fence.wide:=fenced_oper hF hroom ho fun _ _=>trivial
  have hgo:=stepGR_op (P:=P) (b:=b) (k:=k) (cs:=cs) (w:=w) (rest:=rest) ho hg
  rw[hro,Oper.semAt_none] at hgo
  have hfin:∀ v,(b.atR a (.inRegion ops (0::rest)::k)).finish v=b.atR (a.put o.dst v) (.inRegion ops rest::k):=by
    intro v;rw[Frame.finish_atR,ho];rfl
  have hk:(b.atR a (.inRegion ops (0::rest)::k)).kind=.deferred:=hb
  have htr:=tryRecover_deferred hk cs
  refine ⟨e,a',cs',w',hlen,hq,.of_steps (.head (fenced_calm hF hroom rfl) (stepR_region) (.one (by rw[hl];exact h0) (step_lone_go ?_))) harr⟩
  rw[hl,hgo,← hfin]
  rcases hrec with hrec|⟨hrec,rfl,rfl⟩
  · simp only[Frame.atR,hro] at htr ⊢
    simp[stepG.apply,hrun,htr,hrec]
  · simp only[Frame.atR,hro] at htr ⊢
    simp[stepG.apply,hrun,htr,hrec]
end
end Go.Proofs.YtimgnlellflciaaGreat

/- Contracts of stopped. -/
namespace Go.Proofs.YtimgnlellflciaaGreat
open Go Go.Proofs Go.RowKit
set_option maxHeartbeats 400000 in
set_option maxRecDepth 100000 in
theorem zko (B off:Nat)(y:Value)(k:IntKind)(n:Int)(W:World)(hc:W.cell? ⟨B,off,none⟩=some y)(hz:W.frozen? ⟨B,off,none⟩=false):
    Calls Tryz.prog 30 #[.iface 104 (.agg #[.int k n]),.pointer (some ⟨B,off,none⟩)] W fun e W'=>e=.returned (.tuple #[])∧Below W.heap.size (W.setCell ⟨B,off,none⟩ (.int k n)) W':=by
  have hta:∀ w:World,(Instr.typeAssert (.iface 104 (.agg #[.int k n])) 20 104 true).run Tryz.prog w=.ok (.tuple #[.agg #[.int k n],.bool true]) w:=fun _=>by kernel_rfl
  have hlt:B<W.heap.size:=by
    unfold World.cell? at hc
    cases hb:W.heap[B]? with
    |none=>simp[hb] at hc
    |some x=>exact (Array.getElem?_eq_some_iff.1 hb).1
  have hca:∀ o,(W.alloc o).cell? ⟨B,off,none⟩=some y:=fun o=>(World.cell?_of_block (Below.heap_alloc W o B hlt)).trans hc
  have hza:∀ o,(W.alloc o).frozen? ⟨B,off,none⟩=false:=fun o=>(World.frozen?_of_block (Below.heap_alloc W o B hlt)).trans hz
  have hbel:∀ o,Below W.heap.size (W.setCell ⟨B,off,none⟩ (.int k n)) ((W.alloc o).setCell ⟨B,off,none⟩ (.int k n)):=fun o=>by
    refine ⟨rfl,rfl,rfl,by simp,fun i hi=>?_⟩
    simp only[World.setCell,Array.getElem?_modify]
    rw[Below.heap_alloc W o i hi]
  clear hc hz hlt
  go_enter Tryz.func30,Tryz.ntmps30
  go_wp2
  exact ⟨rfl,_,results_none rfl _ _ _,rfl,hbel _⟩
theorem zls (x:Value)(W:World):Calls Tryz.prog 30 #[.nilIface,x] W fun e W'=>e=.returned (.tuple #[])∧Below W.heap.size W W':=by
  go_enter Tryz.func30,Tryz.ntmps30
  go_wp2
  exact ⟨rfl,_,results_none rfl _ _ _,rfl,Below.refl _ _⟩

theorem zbm {f : Nat} {fn : Func} {id : Nat} {ops : Array Oper} {o0 o1 : Oper} (hf : Tryz.prog.funcs[f]? = some fn) (hb : fn.body = some (.region id ops false)) (hn : fn.ntmps = 3) (hr : fn.results = #[]) (_hnm : (fn.name == "runtime.NumGoroutine")=false)
    (ho:ops=#[o0,o1]) (h0:o0.op=.call { callee:=.builtin .recover,args:=#[],argTypes:=#[] }) (hd0:o0.dst=some 1) (hg0:o0.guard=none) (hd1:o1.dst=some 2) (hg1:o1.guard=none) {ts:Array TypeId} (h1:o1.op=.call { callee:=.value (.func 30),args:=#[.tmp 1,.tmp 0],argTypes:=ts }):
    (∀ (x:Value) (W:World),CallsDIn Fence.wide 0 Tryz.prog f #[x] .returning W fun e u' W'=>(∃ v,e=.returned v)∧u'=.returning∧Below W.heap.size W W') ∧
    (∀ (B off : Nat) (y x : Value) (k : IntKind) (n : Int) (W : World), W.cell? ⟨B, off, none⟩ = some y → W.frozen? ⟨B, off, none⟩ = false → x = .agg #[.int k n] →
      CallsDIn Fence.wide 0 Tryz.prog f #[.pointer (some ⟨B,off,none⟩)] (.panicking [{ v:=.iface 104 x,recovered:=false }]) W fun e u' W'=>
        (∃ v,e=.returned v)∧u'=.panicking [{ v:=.iface 104 x,recovered:=true }]∧Below W.heap.size (W.setCell ⟨B,off,none⟩ (.int k n)) W'):=by
  have hwalk:∀ (x rv:Value) (u u':FrameMode) (W:World) (R:World→Prop),(∀ (c₀:Frame) (cs:List Frame),c₀.mode=u→recoverD (c₀::cs)=some (rv,{ c₀ with mode:=u' }::cs)∨(recoverD (c₀::cs)=none∧rv=.nilIface∧{ c₀ with mode:=u' }::cs=c₀::cs)) →
      Calls Tryz.prog 30 #[rv,x] W (fun e W'=>e=.returned (.tuple #[])∧R W')→CallsDIn Fence.wide 0 Tryz.prog f #[x] u W fun e v' W'=>(∃ v,e=.returned v)∧v'=u'∧R W':=by
    intro x rv u u' W R hrec hcall
    refine callsDIn_of_wpSIn hf hb trivial fun c₀ cs hu=>?_
    refine zfh (o:=o0) (rest:=[1]) (v:=rv) (cs':={ c₀ with mode:=u' }::cs) (by rw[ho];rfl) (by rw[ho];rfl) (by simp[Region.wanted,hg0]) (by simp[execOp,h0,resolve,go_sem]) (hrec c₀ cs hu) ?_
    have hev:∀ _:Nat,(#[x]++Array.replicate (fn.ntmps - 1) undef:Array Value)=#[x,undef,undef]:=fun _=>by rw[hn];rfl
    simp only[List.size_toArray,List.length_cons,List.length_nil,Nat.zero_add,hev 0,Act.put,hd0]
    unfold wpOpsIn
    rw[show ops[1]?=some o1 by rw[ho];rfl]
    simp only[Region.wanted,hg1,if_true]
    refine ⟨fun _ _=>trivial,?_⟩
    have hrun:(o1.semAt Fence.wide.round (Act.eval { tmps:=(#[x,undef,undef]:Array Value).setIfInBounds 1 rv,defers:=[] })).run Tryz.prog W=.ok (.enter 30 #[rv,x]) W:=by
      rw[Oper.semAt_eq _ _ _ (by rw[h1];intro c hc;cases hc)]
      simp[execOp,h1,resolve,go_sem,Deferred.ofValue,Act.eval]
    rw[hrun,Oper.uponIn_enter]
    refine ⟨fun h=>by simp[Fence.wide] at h,((callsIn_wide (n:=0)).2 hcall).mono ?_⟩
    rintro e W' ⟨rfl,hR⟩
    simp only[wpOpsIn,Act.put,hd1]
    refine ⟨rfl,u',rfl,.tuple #[],results_none hr _ _ _,⟨_,rfl⟩,rfl,hR⟩
  refine ⟨fun x W=>?_,fun B off y x k n W hc hz hx=>?_⟩
  · refine (hwalk x .nilIface .returning .returning W (Below W.heap.size W) (fun c₀ cs hu=>.inr ⟨by simp[recoverD,hu],rfl,by cases c₀;simp_all⟩) (zls x W))
  · subst hx
    refine hwalk _ _ _ _ W _ (fun c₀ cs hu=>.inl ?_) (zko B off y k n W hc hz)
    simp[recoverD,hu]
end Go.Proofs.YtimgnlellflciaaGreat

/- The deferred closures of package clamp. -/
namespace Go.Proofs.YtimgnlellflciaaGreat
open Go Go.Proofs
namespace Ev
set_option maxRecDepth 100000
def closures:List Nat:=[29,39,42,51,58,64,44,57]
noncomputable def memN:List Nat→Nat→Bool:=fun l=>List.rec (motive:=fun _=>Nat→Bool) (fun _=>false) (fun x _ ih n=>Bool.rec (ih n) true (Nat.beq n x)) l
theorem dfBuilt:DfOk Tryz.prog 29 104 true:=by
  obtain ⟨h1,h2⟩:=zbm (f:=29) Tryz.func29 rfl rfl rfl (by kernel_rfl) rfl rfl rfl rfl rfl rfl rfl
  exact ⟨⟨_,Tryz.func29,by kernel_rfl,by kernel_rfl⟩,h1,fun B off y x k n W hc hz hx=>h2 B off y x k n W hc hz (by simpa using hx)⟩
theorem dfHas:DfOk Tryz.prog 39 104 true:=by
  obtain ⟨h1,h2⟩:=zbm (f:=39) Tryz.func39 rfl rfl rfl (by kernel_rfl) rfl rfl rfl rfl rfl rfl rfl
  exact ⟨⟨_,Tryz.func39,by kernel_rfl,by kernel_rfl⟩,h1,fun B off y x k n W hc hz hx=>h2 B off y x k n W hc hz (by simpa using hx)⟩
theorem dfSold:DfOk Tryz.prog 42 104 true:=by
  obtain ⟨h1,h2⟩:=zbm (f:=42) Tryz.func42 rfl rfl rfl (by kernel_rfl) rfl rfl rfl rfl rfl rfl rfl
  exact ⟨⟨_,Tryz.func42,by kernel_rfl,by kernel_rfl⟩,h1,fun B off y x k n W hc hz hx=>h2 B off y x k n W hc hz (by simpa using hx)⟩
theorem dfEnough:DfOk Tryz.prog 51 104 true:=by
  obtain ⟨h1,h2⟩:=zbm (f:=51) Tryz.func51 rfl rfl rfl (by kernel_rfl) rfl rfl rfl rfl rfl rfl rfl
  exact ⟨⟨_,Tryz.func51,by kernel_rfl,by kernel_rfl⟩,h1,fun B off y x k n W hc hz hx=>h2 B off y x k n W hc hz (by simpa using hx)⟩
theorem dfShare:DfOk Tryz.prog 58 104 true:=by
  obtain ⟨h1,h2⟩:=zbm (f:=58) Tryz.func58 rfl rfl rfl (by kernel_rfl) rfl rfl rfl rfl rfl rfl rfl
  exact ⟨⟨_,Tryz.func58,by kernel_rfl,by kernel_rfl⟩,h1,fun B off y x k n W hc hz hx=>h2 B off y x k n W hc hz (by simpa using hx)⟩
theorem dfClash:DfOk Tryz.prog 64 104 true:=by
  obtain ⟨h1,h2⟩:=zbm (f:=64) Tryz.func64 rfl rfl rfl (by kernel_rfl) rfl rfl rfl rfl rfl rfl rfl
  exact ⟨⟨_,Tryz.func64,by kernel_rfl,by kernel_rfl⟩,h1,fun B off y x k n W hc hz hx=>h2 B off y x k n W hc hz (by simpa using hx)⟩
theorem dfAll:DfOk Tryz.prog 44 104 true:=by
  obtain ⟨h1,h2⟩:=zbm (f:=44) Tryz.func44 rfl rfl rfl (by kernel_rfl) rfl rfl rfl rfl rfl rfl rfl
  exact ⟨⟨_,Tryz.func44,by kernel_rfl,by kernel_rfl⟩,h1,fun B off y x k n W hc hz hx=>h2 B off y x k n W hc hz (by simpa using hx)⟩
theorem dfEmpty:DfOk Tryz.prog 57 104 true:=by
  obtain ⟨h1,h2⟩:=zbm (f:=57) Tryz.func57 rfl rfl rfl (by kernel_rfl) rfl rfl rfl rfl rfl rfl rfl
  exact ⟨⟨_,Tryz.func57,by kernel_rfl,by kernel_rfl⟩,h1,fun B off y x k n W hc hz hx=>h2 B off y x k n W hc hz (by simpa using hx)⟩
theorem zqc:∀ {l:List Nat} {n:Nat},memN l n=true→n∈l
  |[],n,h=>by cases h
  |x::l,n,h=>by
    have e:memN (x::l) n=(Bool.rec (memN l n) true (Nat.beq n x):Bool):=rfl
    rw[e] at h
    cases hb:Nat.beq n x with
    |true=>rw[Nat.eq_of_beq_eq_true hb];exact List.mem_cons_self ..
    |false=>rw[hb] at h;exact List.mem_cons_of_mem _ (zqc h)
theorem dfk_ok:∀ f t ag,(Bool.rec none (some (104,true)) (memN closures f):Option (Nat × Bool))=some (t,ag)→DfOk Tryz.prog f t ag:=by
  intro f t ag h
  cases hb:memN closures f with
  |false=>rw[hb] at h;cases h
  |true=>
    rw[hb] at h
    cases h
    have hm:=zqc hb
    simp only[closures,List.mem_cons,List.not_mem_nil,or_false] at hm
    rcases hm with rfl|rfl|rfl|rfl|rfl|rfl|rfl|rfl
    · exact dfBuilt
    · exact dfHas
    · exact dfSold
    · exact dfEnough
    · exact dfShare
    · exact dfClash
    · exact dfAll
    · exact dfEmpty
end Ev
end Go.Proofs.YtimgnlellflciaaGreat

/- What was found by the evaluator with arguments that are only read, told of calls of the program. -/
namespace Go.Proofs.YtimgnlellflciaaGreat
open Go Go.RowKit
namespace Ev
section
variable {P:Program} {W:World} {L:Nat→Prop} {μ:Mu} {H:List AB}
theorem zuf {k:Nat}{v:AV}{news:List AV}(h:slCells k H v=some news):∃ n,slLen H v=some n:=by
  unfold slCells at h
  split at h
  · exact ⟨_,rfl⟩
  · exact ⟨_,rfl⟩
  · rename_i b off n k'
    split at h
    · split at h
      · rename_i cs hcs
        exact ⟨n,by simp[slLen,alive,hcs]⟩
      · cases h
    · cases h
  · cases h
theorem zmq (hs:Sim P W L μ H){k:Nat}(hk:0<k){v:AV}{x:Value}(hv:VR W L μ v x){es:List AV}(hes:∀ (i:Nat) (e:AV),es[i]?=some e→e.cells.length=k)(hn:∀ e∈es,∀ y∈e.cells,∃ (kd:IntKind) (n:Int),y=.int kd n)(hc:slCells k H v=some (elemCells es)):
    VR W (fun _=>False) nomu (.vs k es) x:=by
  obtain ⟨n,hl⟩:=zuf hc
  obtain ⟨p,cap,rfl,h1,h2,h3⟩:=zgk hs hk hv hc hl
  obtain ⟨e1,e2⟩:=zee hk hes
  have hnm:n=es.length:=Nat.eq_of_mul_eq_mul_right hk (by omega)
  subst hnm
  by_cases h0:es.length=0
  · have:es=[]:=List.eq_nil_of_length_eq_zero h0
    subst this
    exact .vs0
  · rcases h3 with h3|⟨b,o,rfl,hr⟩
    · exact absurd h3 h0
    · have key:∀ (i:Nat) (e:AV) (j:Nat) (y:AV),es[i]?=some e→e.cells[j]?=some y→∃ r,W.cell? ⟨b,o+i * k+j,none⟩=some r∧VR W (fun _=>False) nomu y r:=by
        intro i e j y he hy
        have hjk:j<k:=by have:=(List.getElem?_eq_some_iff.1 hy).1;rw[hes i e he] at this;exact this
        have hi:=(List.getElem?_eq_some_iff.1 he).1
        have hq:i * k+j<(elemCells es).length:=by
          rw[e1]
          have:(i+1) * k≤es.length * k:=Nat.mul_le_mul_right k hi
          rw[Nat.add_mul,Nat.one_mul] at this
          omega
        obtain ⟨e',g1,g2⟩:=e2 _ _ (List.getElem?_eq_getElem hq)
        have d1:(i * k+j) / k=i:=by rw[Nat.mul_comm,Nat.mul_add_div hk,Nat.div_eq_of_lt hjk,Nat.add_zero]
        have d2:(i * k+j) % k=j:=by rw[Nat.mul_comm,Nat.mul_add_mod,Nat.mod_eq_of_lt hjk]
        rw[d1,he] at g1
        cases g1
        rw[d2,hy] at g2
        obtain ⟨r,q1,q2⟩:=hr _ _ (List.getElem?_eq_getElem hq)
        rw[← Option.some.inj g2] at q2
        obtain ⟨kd,m,rfl⟩:=hn e (List.mem_of_getElem? he) y (List.mem_of_getElem? hy)
        refine ⟨r,by rw[Nat.add_assoc];exact q1,?_⟩
        cases q2 with
        |dead h=>simp[headRef] at h
        |int=>exact .int
      refine .vs (fun i j=>(W.cell? ⟨b,o+i * k+j,none⟩).getD undef) h2 hes (fun i e j y he hy=>⟨id,?_⟩) fun i e j y he hy=>?_
      · obtain ⟨r,q1,_⟩:=key i e j y he hy
        rw[q1];rfl
      · obtain ⟨r,q1,q2⟩:=key i e j y he hy
        rw[q1];exact q2
theorem zyf:Sim P W (fun _=>False) nomu []:={ live:=fun i B h=>(by cases h),dead:=fun i b h _=>(by cases h),out:=fun _ _=>rfl,inj:=fun i j B h _=>(by cases h),lt:=fun b h=>h.elim }
theorem zlp {C:Cfg}(hT:TblOk P C){m f:Nat}{args:List AV}{x:CRes}{H':List AB}{tc:List Nat}(h:Ev.call C m (.fn (.func f) [] []) args []=some (x,H',tc))(hG:Globs C W (fun _=>False)){rargs:Array Value}(hv:VL W (fun _=>False) nomu args rargs.toList):
    CallsIn Fence.wide 0 P f rargs W fun e W'=>(∃ L' μ',CRel W' L' μ' x e∧Sim P W' L' μ' H'∧∀ b,L' b→W.heap.size≤b)∧Below W.heap.size W W':=by
  have hok:=zoy hT m
  obtain ⟨r,W1,h1,h2⟩:=hok.sound (tc0:=[]) h (Hp.start (P:=P) zyf) hG
    (rf:=.func (.func f) #[] #[]) (rargs:=rargs) (.fn (rf:=[]) (rc:=[]) (by intro l;simp) rfl (by intro i x r h;simp at h) rfl (by intro i x r h;simp at h)) hv
  have e:(do let d ← Deferred.ofValue (.func (.func f) #[] #[]) rargs;invoke d.target d.args:Sem Next).run P W=.ok (.enter f rargs) W:=by
    simp only[Deferred.ofValue,Sem.run_bind,Sem.run_pure,Result.andThen,invoke]
    have:=hok.fn h rargs W
    simpa using this
  rw[e] at h1
  cases h1
  refine CallsIn.mono h2 ?_
  rintro en W' ⟨L',μ',c1,c2,_⟩
  refine ⟨⟨L',μ',c1,c2.sim,fun b hb=>?_⟩,c2.env.1,c2.env.2.1,c2.env.2.2,c2.size,fun k hk=>c2.same k hk fun i _ hi=>by cases hi⟩
  rcases c2.new b hb with h|h
  · exact h.elim
  · exact h
def Bare:AV→Prop
  |.int _ _=>True
  |.bool _=>True
  |.agg cs=>∀ x∈cs,(∃ k n,x=.int k n)∨∃ b,x=.bool b
  |.tup cs=>∀ x∈cs,(∃ k n,x=.int k n)∨(∃ b,x=.bool b)∨∃ l,x=.agg l∧∀ y∈l,∃ k n,y=.int k n
  |_=>False
theorem zcu {W':World}{L':Nat→Prop}{μ':Mu}{x:AV}{r:Value}(hx:(∃ k n,x=.int k n)∨∃ b,x=.bool b)(h:VR W L μ x r):VR W' L' μ' x r:=by
  rcases hx with ⟨k,n,rfl⟩|⟨b,rfl⟩
  · cases h with
    |dead h=>simp[headRef] at h
    |int=>exact .int
  · cases h with
    |dead h=>simp[headRef] at h
    |bool=>exact .bool
theorem yak {v:AV}(hb:Bare v){W':World}{L':Nat→Prop}{μ':Mu}{r:Value}(h:VR W L μ v r):VR W' L' μ' v r:=by
  cases v with
  |int k n=>exact zcu (.inl ⟨k,n,rfl⟩) h
  |bool b=>exact zcu (.inr ⟨b,rfl⟩) h
  |agg cs=>
    cases h with
    |dead h=>simp[headRef] at h
    |agg h1 h2=>exact .agg h1 fun i x r hx hr=>zcu (hb x (List.mem_of_getElem? hx)) (h2 i x r hx hr)
  |tup cs=>
    cases h with
    |dead h=>simp[headRef] at h
    |tup h1 h2=>
      refine .tup h1 fun i x r hx hr=>?_
      rcases hb x (List.mem_of_getElem? hx) with h|h|⟨l,rfl,hl⟩
      · exact zcu (.inl h) (h2 i x r hx hr)
      · exact zcu (.inr h) (h2 i x r hx hr)
      · have:=h2 i _ r hx hr
        cases this with
        |dead h=>simp[headRef] at h
        |agg g1 g2=>exact .agg g1 fun i x r hx hr=>zcu (.inl (hl x (List.mem_of_getElem? hx))) (g2 i x r hx hr)
  |_=>exact hb.elim
theorem zlq {C:Cfg}(hT:TblOk P C){m f:Nat}{args:List AV}{v:AV}{H':List AB}{tc:List Nat}(h:Ev.call C m (.fn (.func f) [] []) args []=some (.ret v,H',tc))(hb:Bare v)(hG:Globs C W (fun _=>False)){rargs:Array Value}(hv:VL W (fun _=>False) nomu args rargs.toList):
    CallsIn Fence.wide 0 P f rargs W fun e W'=>(∃ w,e=.returned w∧∀ W L μ,VR W L μ v w)∧Below W.heap.size W W':=by
  refine (zlp hT h hG hv).mono ?_
  rintro en W' ⟨⟨L',μ',c1,_⟩,c2⟩
  cases en<;>simp only[CRel] at c1
  exact ⟨⟨_,rfl,fun _ _ _=>yak hb c1⟩,c2⟩
theorem zrj {C:Cfg}(hT:TblOk P C){m f:Nat}{args:List AV}{b n:Nat}{H':List AB}{tc:List Nat}{cs:List AV}(h:Ev.call C m (.fn (.func f) [] []) args []=some (.ret (.sl b 0 n 1),H',tc))(hb:H'[b]?=some (.cells cs))(hn:n=cs.length)(hcs:∀ y∈cs,∃ (kd:IntKind) (n:Int),y=.int kd n)(hG:Globs C W (fun _=>False)){rargs:Array Value}(hv:VL W (fun _=>False) nomu args rargs.toList)(hL:∀ b,L b→b<W.heap.size):
    CallsIn Fence.wide 0 P f rargs W fun e W'=>(∃ w,e=.returned w∧VR W' L nomu (.vs 1 cs) w)∧Below W.heap.size W W':=by
  refine (zlp hT h hG hv).mono ?_
  rintro en W' ⟨⟨L',μ',c1,hs,hnew⟩,c2⟩
  cases en<;>simp only[CRel] at c1
  rename_i w
  refine ⟨⟨w,rfl,?_⟩,c2⟩
  cases c1 with
  |@dead _ _ _ b' h1 h2 _=>
    simp[headRef] at h1
    subst h1
    cases hs.dead _ _ h2 hb
  |@sl _ _ _ _ _ B cap rs t hm h2 h3 h4=>
    obtain ⟨l1,_,blk,o,e1,e2,e3⟩:=hs.live _ _ hm
    rw[hb] at e1
    cases e1
    cases e3 with
    |@cells _ rs' t' hsz hc=>
      have hB:¬ L B:=fun h=>by have:=hL B h;have:=hnew B l1;omega
      have hlen:∀ (e:AV),e∈cs→e.cells=[e]:=fun e he=>by obtain ⟨k,n,rfl⟩:=hcs e he;rfl
      subst hn
      have get:∀ (i:Nat) (e:AV) (j:Nat) (x:AV),cs[i]?=some e→e.cells[j]?=some x→j=0∧x=e∧∃ r,W'.cell? ⟨B,0+i * 1+j,none⟩=some r∧VR W' L nomu x r:=by
        intro i e j x he hx
        have hm:=List.mem_of_getElem? he
        rw[hlen e hm] at hx
        have hj:j=0:=by
          have:=(List.getElem?_eq_some_iff.1 hx).1
          simpa using this
        subst hj
        simp only[List.getElem?_cons_zero,Option.some.injEq] at hx
        subst hx
        have hi:=(List.getElem?_eq_some_iff.1 he).1
        refine ⟨rfl,rfl,rs'[i]'(by omega),?_,zcu (.inl (hcs _ hm)) (hc i _ _ he (Array.getElem?_eq_getElem (by omega)))⟩
        rw[show 0+i * 1+0=i by omega]
        have hsz':i<rs'.size:=by omega
        simp[World.cell?,e2,hsz']
      refine .vs (fun i j=>(W'.cell? ⟨B,0+i * 1+j,none⟩).getD undef) h2 (fun i e he=>by rw[hlen e (List.mem_of_getElem? he)];rfl) (fun i e j x he hx=>⟨hB,?_⟩) fun i e j x he hx=>?_
      · obtain ⟨_,_,r,q1,_⟩:=get i e j x he hx
        rw[q1];rfl
      · obtain ⟨_,_,r,q1,q2⟩:=get i e j x he hx
        rw[q1];exact q2
end
end Ev
end Go.Proofs.YtimgnlellflciaaGreat
