/- Package road, told: the configuration that its functions were gone through in. -/
import Derived.Test.YtlcjlcllbgjplaaRmPD
import Derived.Test.YtlcjlcllbgjplaaRmED
import Derived.Test.YtlcjlcllbgjplaaRmPA
import Derived.Test.YtlcjlcllbgjplaaRmPB
import Derived.KernelRfl
import Derived.Test.YtlcjlcllbgjplaaRmEA
import Derived.Test.YtlcjlcllbgjplaaProg
import Derived.Test.YtlcjlcllbgjplaaRmEC
import Derived.RecoverIn
import Derived.Below
import Derived.ProofKit
import Derived.WalkKit
import Derived.StillTail
import Derived.StillTailTactics
import Derived.Deep.QuietTactic
import Derived.BigQuiet
import Derived.RangeFuncRecord
import Derived.Test.YtlcjlcllbgjplaaRmEB
/- Package road, gone through: Below. -/
namespace Go.Proofs.Ytlcjlcllbgjplaa
open Go
namespace Ev
theorem znu {C:Cfg}{D f b:Nat}{k:Nat × Bool}{fn:AFunc}{Q:CRes→List AB→List Nat→Prop}{e:AExit}{st:St}{v:AV}(he:e=.ret∨e=.normal)(hk:C.dfk f=some k)(hd:st.df=[.mark D,.call f [.ptr b 0]])(hD:st.hp[D]?=some .dfr)(hr:(resL { st with hp:=st.hp.set D .dead,tc:=[D].filter (·<0)++st.tc } fn.res).map resV=some v)(hq:Q (.ret v) (st.hp.set D .dead) ([D].filter (·<0)++st.tc)):K.Fin C 0 fn Q e st:=by
  refine ⟨.ret v,{ st with hp:=st.hp.set D .dead,tc:=[D].filter (·<0)++st.tc },?_,Nat.zero_le _,hq⟩
  have h1:runDefs C 0 st.df none st=some (none,{ st with hp:=st.hp.set D .dead,tc:=[D].filter (·<0)++st.tc }):=by
    conv=>lhs;rw[hd]
    simp only[runDefs,hD,hk]
  have : (match runDefs C 0 st.df none st with
    |some (none,st)=>(resL st fn.res).map fun vs=>(CRes.ret (resV vs),st)
    |_=>none)=some (.ret v,{ st with hp:=st.hp.set D .dead,tc:=[D].filter (·<0)++st.tc }):=by
    rw[h1]
    simp only
    cases hr':resL { st with hp:=st.hp.set D .dead,tc:=[D].filter (·<0)++st.tc } fn.res with
    |none=>rw[hr'] at hr;cases hr
    |some vs=>rw[hr'] at hr;cases hr;rfl
  rcases he with rfl|rfl<;>exact this
namespace Ro
open K
attribute [local simp] ev1 wantG spineK spine float xnew xval xeff zaa zar zbe zax zaw addFl cellsOf pickC alive slLen slFt binI maxA maxK minA minK aeqK aeqS AV.cells spA zat fillA setAt bitsI nat_nn zbf AV.plain apart
open Clm (setOf zfk zqg zjz zcd)
set_option maxRecDepth 100000
set_option maxHeartbeats 4000000
def hiB (r:Rd.Road)(ls:List Int)(v:Nat)(w:Rd.Way):Bool:=decide (Rd.heightR r w.part w.first.hi ls (v+1)<0)
def loB (r:Rd.Road)(ls:List Int)(v:Nat)(w:Rd.Way):Bool:=decide (Rd.heightR r w.part w.first.lo ls (v+1)<0)
def allB (r:Rd.Road)(ls:List Int)(v i:Nat):Bool:=(Rd.waysR r i ls (Rd.everyR r)).all (hiB r ls v)
def anyB (r:Rd.Road)(ls:List Int)(v i:Nat):Bool:=(Rd.waysR r i ls (Rd.everyR r)).any (loB r ls v)
def sureB (r:Rd.Road)(ls:List Int)(v:Nat):Bool:=(List.range r.parts.length).any (allB r ls v)
def someB (r:Rd.Road)(ls:List Int)(v:Nat):Bool:=(List.range r.parts.length).any (anyB r ls v)
theorem zvd (r:Rd.Road):Rd.surelyR r=setOf (fun v=>(Rd.toldR r (Rd.everyR r)).all fun ls=>sureB r ls v) r.events.length:=rfl
theorem zsn (r:Rd.Road):Rd.perhapsR r=setOf (fun v=>(Rd.toldR r (Rd.everyR r)).any fun ls=>someB r ls v) r.events.length:=rfl
def allS (r:Rd.Road)(d:List (List Int))(s:List Int)(v:Nat):Nat:=setOf (fun u=>(d.all fun ls=>sureB r ls u)&&(decide (v≤u) || sureB r s u)) r.events.length
def sumS (r:Rd.Road)(d:List (List Int))(s:List Int)(v:Nat)(b:Bool):Nat:=setOf (fun u=>(d.any fun ls=>someB r ls u) || (decide (u<v)&&someB r s u) || (decide (u=v)&&b)) r.events.length
theorem zze (r:Rd.Road)(d:List (List Int))(s:List Int):allS r d s 0=setOf (fun u=>d.all fun ls=>sureB r ls u) r.events.length:=by
  unfold allS;congr 1;funext u;simp
theorem ybr (r:Rd.Road)(d:List (List Int))(s:List Int):allS r d s r.events.length=setOf (fun u=>(d++[s]).all fun ls=>sureB r ls u) r.events.length:=by
  unfold allS
  refine zcd fun u hu=>?_
  have:¬ r.events.length≤u:=by omega
  simp[this]
theorem ydp (r:Rd.Road)(d:List (List Int))(s:List Int){v:Nat}(hv:sureB r s v=false):andn (allS r d s v) (2 ^ v)=allS r d s (v+1):=by
  unfold allS
  rw[zjz]
  refine zcd fun u hu=>?_
  by_cases h:u=v
  · subst h
    have:¬ u+1≤u:=by omega
    simp[hv]
  · have e:decide (v≤u)=decide (v+1≤u):=by congr 1;simp;omega
    simp[h,e]
theorem ybq (r:Rd.Road)(d:List (List Int))(s:List Int){v:Nat}(hv:sureB r s v=true):allS r d s v=allS r d s (v+1):=by
  unfold allS
  refine zcd fun u hu=>?_
  by_cases h:u=v
  · subst h;simp[hv]
  · have e:decide (v≤u)=decide (v+1≤u):=by congr 1;simp;omega
    rw[e]
theorem zvh (r:Rd.Road)(d:List (List Int))(s:List Int):sumS r d s 0 false=setOf (fun u=>d.any fun ls=>someB r ls u) r.events.length:=by
  unfold sumS;congr 1;funext u;simp
theorem zzp (r:Rd.Road)(d:List (List Int))(s:List Int):sumS r d s r.events.length false=setOf (fun u=>(d++[s]).any fun ls=>someB r ls u) r.events.length:=by
  unfold sumS
  refine zcd fun u hu=>?_
  simp[hu]
theorem ybz (r:Rd.Road)(d:List (List Int))(s:List Int){v:Nat}(hv:v<r.events.length)(b:Bool):sumS r d s v b ||| 2 ^ v=sumS r d s v true:=by
  unfold sumS
  rw[zqg _ hv]
  refine zcd fun u hu=>?_
  by_cases h:u=v
  · subst h;simp
  · simp[h]
theorem zvi (r:Rd.Road)(d:List (List Int))(s:List Int)(v:Nat):sumS r d s v (someB r s v)=sumS r d s (v+1) false:=by
  unfold sumS
  refine zcd fun u hu=>?_
  by_cases h:u=v
  · subst h;simp
  · have e:decide (u<v)=decide (u<v+1):=by congr 1;simp;omega
    simp[h,e]
def belowRV (r:Rd.Road):AV:=.tup [.int .i64 (if Rd.errR r true=0 then (Rd.surelyR r:Int) else 0),.int .i64 (if Rd.errR r true=0 then (Rd.perhapsR r:Int) else 0),.int .i64 (Rd.errR r true)]
theorem zug (C:Cfg)(hC:C.calm=true)(hwh:∀ f,C.whole f=true)(n0 m:Nat)(call0:CallF)(r:Rd.Road)(hdf:C.dfk 78=some (119,true))(hHd:∀ H F is,IsFn call0 r F is H→HeadQ (Ev.call C m) r H F is)(hTd:ToldC (Ev.call C m))(hI:Rd.valid r=true→ToldI C (n0+1) m r)(hE:Rd.valid r=true→EveryC (Ev.call C m) r)(hE0:Rd.valid r=true→EveryC (Ev.call C n0) r)(hW:Rd.valid r=true→WaysC (Ev.call C n0) r)(hHe:Rd.valid r=true→HeightC (Ev.call C n0) r)
    (hF:IsFn call0 r (.fn (.func 61) [] []) true [.cells (roadCs r),.cells [.int .i64 0]]):
    Does (ev C (Ev.call C m) ([]:List AB).length none af26.body { tm:=tmA af26.ntmps (zipI 0 [.agg (roadCs r)] []),df:=[],hp:=[],tc:=[] })
      (Fin C ([]:List AB).length af26 (Ans (belowRV r))):=by
  have ho:=hHd [.cells (roadCs r),.cells [.int .i64 0]] _ _ hF
  unfold belowRV
  unfold af26 Zq Zm Zl Zo Zs Zd Ze Zc Zt Zn Zi
  rcases ho with ⟨e,h1,h2,h3⟩|⟨h1,H1,xb,H2,tc,h3,h4,h5,h6⟩|⟨h1,H1,xb,mb,eb,H2,tc,h3,h4,h5,h6,h7,h8,h9,h10⟩
  · rw[h1,if_neg h2,if_neg h2]
    clear hHd hI hE hE0 hW hHe hTd hF h1
    simp only[zipI,roadCs] at *
    (repeat (first|(with_reducible apply zah;(focus ((conv=>lhs;simp[*,Nat.testBit_eq_decide_div_mod_eq])<;>exact rfl));simp only[addFl])|(with_reducible apply zbc;(focus ((conv=>lhs;simp[*,Nat.testBit_eq_decide_div_mod_eq])<;>exact rfl));(try simp only[Ops,Then]);(try dsimp only))|((with_reducible first|apply zai|apply zak|apply zag|apply zae|apply zac|apply zaj|apply zaf|apply zam|(apply zad;· simp[*,zaa])|(apply zab;· simp[*,zaa]));try simp only[Then,Ops])|simp only[Nat.reduceEqDiff,reduceIte,OutB,Then]))
    refine zby (v:=.tup [.int .i64 0,.int .i64 0,.int .i64 e]) hdf rfl (by simp only;rfl) (by simp only[resL,resOf,zal];simp[resV,pickC]) ⟨by simp,by simp⟩
  · rw[h1,if_neg (by decide),if_neg (by decide)]
    have e4:H2[1]?=some (.cells [.int .i64 0]):=h5.at rfl (by simp)
    clear hHd hI hE hE0 hW hHe hTd hF h1 h5 h6
    simp only[zipI,roadCs] at *
    (repeat (first|(with_reducible apply zah;(focus ((conv=>lhs;simp[*,Nat.testBit_eq_decide_div_mod_eq])<;>exact rfl));simp only[addFl])|(with_reducible apply zbc;(focus ((conv=>lhs;simp[*,Nat.testBit_eq_decide_div_mod_eq])<;>exact rfl));(try simp only[Ops,Then]);(try dsimp only))|((with_reducible first|apply zai|apply zak|apply zag|apply zae|apply zac|apply zaj|apply zaf|apply zam|(apply zad;· simp[*,zaa])|(apply zab;· simp[*,zaa]));try simp only[Then,Ops])|simp only[Nat.reduceEqDiff,reduceIte,OutB,Then]))
    refine zby (v:=.tup [.int .i64 0,.int .i64 0,.int .i64 10]) hdf rfl (by simp only;exact e4) (by simp only[resL,resOf,zal];simp[resV,pickC,List.getElem?_set_self (get_lt e4)]) ⟨by simp,by simp⟩
  · obtain ⟨_,hr,hcan⟩:=Rd.errR_zero h1
    rw[h1,if_pos rfl,if_pos rfl]
    have hv:Rd.valid r=true:=(Rd.valid_iff r).2 hr
    have hI:=hI hv
    have hE:=hE hv
    have hE0:=hE0 hv
    have hW:=hW hv
    have hHe:=hHe hv
    have hxl:=h7.xl;have hml:=h7.ml;have hel:=h7.el;have hne:=h7.ne;have hne2:=h7.ne2
    have h2l:1<H2.length:=by have:=h5.len;simp at this;omega
    have e0:H2[0]?=some (.cells (roadCs r)):=h5.at rfl (by simp)
    have e1:H2[1]?=some (.cells [.int .i64 0]):=h5.at rfl (by simp)
    obtain ⟨f0,f1,f2,f3,f4,f5⟩:=bk' e0
    have hev:=fun K=>hE (H2++K) xb _ _ (h7.app K).x
    obtain ⟨s1,s2,s3⟩:=zok (d:=r.events.length) (by have:=hr.events;omega)
    have hp:0<2 ^ r.events.length:=Nat.pow_pos (by decide)
    have hp2:2 ^ r.events.length≤2 ^ 10:=Nat.pow_le_pow_right (by decide) hr.events
    have hw0:IntKind.i64.wrap (((2 ^ r.events.length:Nat):Int) - 1)=((2 ^ r.events.length - 1:Nat):Int):=by rw[zau (by omega) (by omega)];omega
    have hall0:=Clm.setOf_true r.events.length
    rw[← hall0] at hw0
    have hb9:2≤xb∧2≤mb∧2≤eb:=by simp at h8 h9 h10;omega
    have HX:=hideP (And.intro hE0 (And.intro hW (And.intro hHe (And.intro h7 (And.intro e0 (And.intro e1 hall0))))))
    clear hHd hE hE0 hW hHe hF h1 h5 h6 h7 h8 h9 h10 hv hcan e0 e1 hall0 hp hp2
    generalize hP2:2 ^ r.events.length=P2 at *
    generalize hAL:setOf (fun _=>true) r.events.length=AL at *
    unfold ToldC at hTd
    simp only[zipI,roadCs] at *
    (repeat (first|(with_reducible apply zah;(focus ((conv=>lhs;simp[*,↓zap,Nat.testBit_eq_decide_div_mod_eq])<;>exact rfl));simp only[addFl])|(with_reducible apply zbc;(focus ((conv=>lhs;simp[*,↓zap,Nat.testBit_eq_decide_div_mod_eq])<;>exact rfl));(try simp only[Ops,Then,OutB]);(try dsimp only))|((with_reducible first|apply zai|apply zak|apply zag|apply zae|apply zac|apply zaj|apply zaf|apply zam|(apply zad;· simp[*,zaa])|(apply zab;· simp[*,zaa]));try simp only[Then,Ops])|simp only[Nat.reduceEqDiff,reduceIte,OutB,Then]))
    refine zcp hC hwh (hI xb mb eb (H2.length+3) (H2.length+4) (Rd.everyR r)) (by simp[zaa]) rfl [H2.length+1,H2.length+2] (by simp) (by simp;omega)
      (fun d W G=>W=[]∧G[H2.length+1]?=some (.cells [.int .i64 (setOf (fun u=>d.all fun ls=>sureB r ls u) r.events.length:Nat)])∧G[H2.length+2]?=some (.cells [.int .i64 (setOf (fun u=>d.any fun ls=>someB r ls u) r.events.length:Nat)])) (fun e d G=>False) (fun rz=>?_) (fun G G' h k=>h.same fun j hj=>k j (by simp;omega) (by simp;omega))
      (fun rz=>⟨rfl,?_,?_⟩) (fun rz=>(HX.out.2.2.2.1.app _).app _) (fun d W G G' h _ k=>?_) (fun e d G G' h k=>h) ?_ ?_ (fun _ _ _ _ _ _ _ _ _ _ _ h=>h.elim)
    · refine ⟨by simp,by simp,?_,?_,by omega,by omega,?_,?_,by simp;omega⟩<;>(simp;omega)
    · simp[hAL]
    · simp[Clm.setOf_false]
    · simp only[List.length_append,List.length_cons,List.length_nil,Nat.zero_add,Nat.add_assoc,Nat.reduceAdd] at k
      exact ⟨h.1,(k _ (get_lt h.2.1) (.inl (by omega)) (by simp;omega) (by omega)).trans h.2.1,(k _ (get_lt h.2.2) (.inl (by omega)) (by simp;omega) (by omega)).trans h.2.2⟩
    · rintro d s W G rz hpr ⟨rfl,hJ1,hJ2⟩ hY hK hl hWb
      simp only[List.length_append,List.length_cons,List.length_nil,Nat.zero_add,Nat.add_assoc,Nat.reduceAdd] at hl ⊢
      rw[setP1]
      obtain ⟨hE0,hW,hHe,h7,e0,e1,hall0⟩:=HX.out
      have hst:s∈Rd.toldR r (Rd.everyR r):=hpr.subset (by simp)
      obtain ⟨hs,hsw⟩:=Rd.told_in hst
      obtain ⟨hld,hls⟩:=all_ld hr hs
      have hRl:=zbm (fnOf s)
      have hRp:=zdf (fnOf s)
      have hRa:=zca (fnOf s)
      have hW':=fun G h i hi=>hW G xb mb eb h i hi (fnOf s) hld (Rd.everyR r)
      have hHe':=fun G h w hp y b1 b2 many hm=>hHe G xb mb eb h w hp y b1 b2 (fnOf s) hld many hm
      simp only[hls] at hHe'
      simp only[ldA]
      generalize arr10 (fnOf s)=R at *
      (repeat (first|(with_reducible apply zah;(focus ((conv=>lhs;simp[*,Nat.testBit_eq_decide_div_mod_eq])<;>exact rfl));simp only[addFl])|((with_reducible first|apply zai|apply zak|apply zag|apply zae|apply zac|apply zaj|apply zaf|apply zam|(apply zad;· simp[*,zaa])|(apply zab;· simp[*,zaa]));try simp only[Ops])|simp only[Nat.reduceEqDiff,reduceIte,OutB,Then]))
      refine ⟨trivial,?_,?_⟩
      · rw[List.getElem?_append_left (by omega)]
      obtain ⟨G2,hG2,k1,k2,k3,k4⟩:=zet (G:=G++[.cells R]) (l:=H2.length+6) (.loop rz) (by simp;omega)
      rw[← hG2]
      clear hG2
      have j3:∀ {j x},G[j]?=some x→j≠H2.length+6→G2[j]?=some x:=fun {j x} hx hj=>by rw[k3 _ hj,List.getElem?_append_left (get_lt hx)];exact hx
      have q0:=j3 (hK.at (b:=0) (x:=.cells (roadCs r)) (by rw[List.getElem?_append_left (by omega)];exact e0) (by simp;omega)) (by omega)
      have q1:=j3 (hK.at (b:=H2.length) (x:=.cells [.ptr xb 0]) (by simp) (by simp;omega)) (by omega)
      have q2:=j3 hJ1 (by omega)
      have q3:=j3 hJ2 (by omega)
      have q5:G2[G.length]?=some (.cells R):=by rw[k3 _ (by omega)];simp
      have kl2:G2.length=G.length+1:=by rw[k1];simp
      have hX2:Rx r xb mb eb G2:=(hY.app _).kp k4 (by simp;omega) (by simp;omega) (by simp;omega)
      obtain ⟨Inv,hInv⟩:∃ Inv:Nat→Nat→List AB→List Nat→Prop,∀ a b hp tc,Inv a b hp tc↔(Rx r xb mb eb hp∧hp[0]?=some (.cells (roadCs r))∧hp[H2.length]?=some (.cells [.ptr xb 0])∧hp[H2.length+1]?=some (.cells [.int .i64 a])∧hp[H2.length+2]?=some (.cells [.int .i64 b])∧hp[G.length]?=some (.cells R)∧hp[H2.length+6]?=some (.loop rz)∧G2.length≤hp.length∧∀ j∈tc,j=mb∨j=H2.length+1∨j=H2.length+2∨j=H2.length+6):=⟨fun a b hp tc=>_,fun a b hp tc=>Iff.rfl⟩
      have hI0:Inv (allS r d s 0) (sumS r d s 0 false) G2 [H2.length+6]:=(hInv _ _ _ _).2 ⟨hX2,q0,q1,by rw[zze];exact q2,by rw[zvh];exact q3,q5,k2,Nat.le_refl _,by simp⟩
      -- the rules for the invariant
      have happ:∀ {a b hp tc},Inv a b hp tc→∀ K,Inv a b (hp++K) tc:=by
        intro a b hp tc h K
        obtain ⟨g1,g2,g3,g4,g5,g6,g7,g8,g9⟩:=(hInv _ _ _ _).1 h
        have k:=Kp.app (S:=[]) hp K
        exact (hInv _ _ _ _).2 ⟨g1.app K,k.at g2 (by simp),k.at g3 (by simp),k.at g4 (by simp),k.at g5 (by simp),k.at g6 (by simp),k.at g7 (by simp),by have:=k.len;omega,g9⟩
      have hset1:∀ {a b hp tc},Inv a b hp tc→∀ a',Inv a' b (hp.set (H2.length+1) (.cells [.int .i64 (a':Nat)])) ((H2.length+1)::tc):=by
        intro a b hp tc h a'
        obtain ⟨g1,g2,g3,g4,g5,g6,g7,g8,g9⟩:=(hInv _ _ _ _).1 h
        have k:=(Kp.refl [H2.length+1] hp).set (H2.length+1) (.cells [.int .i64 (a':Nat)]) (by simp)
        exact (hInv _ _ _ _).2 ⟨g1.kp k (by simp;omega) (by simp;omega) (by simp;omega),k.at g2 (by simp),k.at g3 (by simp),by rw[List.getElem?_set_self (get_lt g4)],k.at g5 (by simp),k.at g6 (by simp;omega),k.at g7 (by simp),by have:=k.len;omega,fun j hj=>(List.mem_cons.1 hj).elim (fun h=>.inr (.inl h)) (g9 j)⟩
      have hset2:∀ {a b hp tc},Inv a b hp tc→∀ b',Inv a b' (hp.set (H2.length+2) (.cells [.int .i64 (b':Nat)])) ((H2.length+2)::tc):=by
        intro a b hp tc h b'
        obtain ⟨g1,g2,g3,g4,g5,g6,g7,g8,g9⟩:=(hInv _ _ _ _).1 h
        have k:=(Kp.refl [H2.length+2] hp).set (H2.length+2) (.cells [.int .i64 (b':Nat)]) (by simp)
        exact (hInv _ _ _ _).2 ⟨g1.kp k (by simp;omega) (by simp;omega) (by simp;omega),k.at g2 (by simp),k.at g3 (by simp),k.at g4 (by simp),by rw[List.getElem?_set_self (get_lt g5)],k.at g6 (by simp;omega),k.at g7 (by simp),by have:=k.len;omega,fun j hj=>(List.mem_cons.1 hj).elim (fun h=>.inr (.inr (.inl h))) (g9 j)⟩
      have hways:∀ {a b hp tc},Inv a b hp tc→∀ i,i<r.parts.length→(∀ K,Ev.call C n0 (.fn (.func 64) [] []) [.ptr xb 0] (hp++K)=some (.ret (.int .u64 ((Rd.everyR r:Nat):Int)),hp++K,[]))∧Ev.call C n0 (.fn (.func 64) [] []) [.ptr xb 0] hp=some (.ret (.int .u64 ((Rd.everyR r:Nat):Int)),hp,[])∧∃ q H' tc',Ev.call C n0 (.fn (.func 80) [] []) [.ptr xb 0,.int .i64 i,.agg R,.int .u64 ((Rd.everyR r:Nat):Int)] hp=some (.ret (.sl q 0 (Rd.waysR r i s (Rd.everyR r)).length 5),H',tc')∧Inv a b H' (tc'.filter (·<G.length)++tc)∧Bk H' q (.cells ((Rd.waysR r i s (Rd.everyR r)).flatMap wayCs))∧G2.length≤q:=by
        intro a b hp tc h i hi
        obtain ⟨g1,g2,g3,g4,g5,g6,g7,g8,g9⟩:=(hInv _ _ _ _).1 h
        obtain ⟨v,H',tc',w1,w2,w3,w4,W3,w5⟩:=hW' hp g1 i hi
        rw[hls] at w5
        have hne3:=hsw i hi
        have nt:∀ {j},j≠mb→j∉tc':=fun hj h=>hj (w2 _ h)
        refine ⟨fun K=>hE0 _ xb _ _ (g1.app K).x,hE0 _ xb _ _ g1.x,?_⟩
        generalize Rd.waysR r i s (Rd.everyR r)=ws at *
        cases w5 with
        |none=>exact absurd rfl hne3
        |some q _ z1 z2 z3=>
          refine ⟨q,H',tc',w1,(hInv _ _ _ _).2 ⟨w4,w3.at g2 (nt (by omega)),w3.at g3 (nt (by omega)),w3.at g4 (nt (by omega)),w3.at g5 (nt (by omega)),w3.at g6 (nt (by omega)),w3.at g7 (nt (by omega)),by have:=w3.len;omega,fun j hj=>?_⟩,bk' z2,by omega⟩
          rcases List.mem_append.1 hj with h|h
          · exact .inl (w2 j (List.mem_filter.1 h).1)
          · exact g9 j h
      have hfact:∀ {a b hp tc},Inv a b hp tc→Bk hp 0 (.cells (roadCs r))∧Bk hp H2.length (.cells [.ptr xb 0])∧Bk hp (H2.length+1) (.cells [.int .i64 a])∧Bk hp (H2.length+2) (.cells [.int .i64 b])∧Bk hp G.length (.cells R):=by
        intro a b hp tc h
        obtain ⟨g1,g2,g3,g4,g5,g6,g7,g8,g9⟩:=(hInv _ _ _ _).1 h
        exact ⟨bk' g2,bk' g3,bk' g4,bk' g5,bk' g6⟩
      have hhgt:∀ {a b hp tc},Inv a b hp tc→∀ i,i<r.parts.length→∀ w∈Rd.waysR r i s (Rd.everyR r),∀ v,v<r.events.length→(∀ K,Ev.call C n0 (.fn (.func 81) [] []) [.ptr xb 0,.agg [.int .i64 w.part.stiff,.int .i64 w.part.rise,.int .i64 w.part.full],.int .i64 w.first.lo,.agg R,.int .i64 ((v:Int)+1)] (hp++K)=some (.ret (.int .i64 (Rd.heightR r w.part w.first.lo s (v+1))),hp++K,[]))∧(∀ K,Ev.call C n0 (.fn (.func 81) [] []) [.ptr xb 0,.agg [.int .i64 w.part.stiff,.int .i64 w.part.rise,.int .i64 w.part.full],.int .i64 w.first.hi,.agg R,.int .i64 ((v:Int)+1)] (hp++K)=some (.ret (.int .i64 (Rd.heightR r w.part w.first.hi s (v+1))),hp++K,[])):=by
        intro a b hp tc h i hi w hw v hv
        obtain ⟨g1,_⟩:=(hInv _ _ _ _).1 h
        obtain ⟨o1,o2,o3,o4⟩:=way_ok hr hi hw
        have ev:((v+1:Nat):Int)=(v:Int)+1:=by omega
        refine ⟨fun K=>?_,fun K=>?_⟩
        · have:=hHe' (hp++K) (g1.app K) w.part o1 w.first.lo (by omega) (by omega) (v+1) (by omega)
          rwa [ev] at this
        · have:=hHe' (hp++K) (g1.app K) w.part o1 w.first.hi (by omega) (by omega) (v+1) (by omega)
          rwa [ev] at this
      have hne10:=hr.events
      have hnp4:=hr.parts
      have hend:∀ {hp tc},Inv (allS r d s r.events.length) (sumS r d s r.events.length false) hp tc→∀ tm,RTo (H2.length+6) rz [H2.length+1,H2.length+2] [mb] [] (Rx r xb mb eb) G.length (fun W G=>W=[]∧G[H2.length+1]?=some (.cells [.int .i64 (setOf (fun u=>(d++[s]).all fun ls=>sureB r ls u) r.events.length:Nat)])∧G[H2.length+2]?=some (.cells [.int .i64 (setOf (fun u=>(d++[s]).any fun ls=>someB r ls u) r.events.length:Nat)])) (fun _ _=>False) (fun _=>False) (fun _=>False) .normal ⟨tm,[],hp,tc⟩:=by
        intro hp tc h tm
        obtain ⟨g1,g2,g3,g4,g5,g6,g7,g8,g9⟩:=(hInv _ _ _ _).1 h
        rw[ybr] at g4
        rw[zzp] at g5
        refine ⟨by simp,g7,fun j hj=>?_,g1,fun _=>⟨[],by simp,rfl,g4,g5⟩,fun h=>absurd rfl h,fun _ _ h=>h.elim⟩
        rcases g9 j hj with h|h|h|h
        · exact .inr (.inr (.inl (by simp[h])))
        · exact .inr (.inl (by simp[h]))
        · exact .inr (.inl (by simp[h]))
        · exact .inl h
      have HI:=hideP (And.intro @happ (And.intro @hset1 @hset2))
      have HW:=hideP @hways
      have HF:=hideP @hfact
      have HG:=hideP @hhgt
      have HE:=hideP @hend
      obtain ⟨⟨x0,x1,x2,x3,x4,x5⟩,hx9⟩:=hfact hI0
      clear hx9
      have nt6:¬ H2.length+1=H2.length+6∧¬ H2.length+2=H2.length+6:=by omega
      have kgl:H2.length+7≤G.length∧G2.length=G.length+1:=⟨by omega,kl2⟩
      clear happ hset1 hset2 hways hfact hhgt hend hInv hE0 hW hHe h7 e0 e1 hall0 hst hs hsw hld hls hW' hHe' hK hY hJ1 hJ2 k1 k2 k3 k4 j3 q0 q1 q2 q3 q5 hX2 hpr hWb hTd hI hev HX kl2 hl f0 f1 f2 f3 f4 f5
      simp only[roadCs] at x1 x2 x4 x5
      (repeat (first|(with_reducible apply zah;(focus ((conv=>lhs;simp[*,Nat.testBit_eq_decide_div_mod_eq])<;>exact rfl));simp only[addFl])|((with_reducible first|apply zai|apply zak|apply zag|apply zae|apply zac|apply zaj|apply zaf|apply zam|(apply zad;· simp[*,zaa])|(apply zab;· simp[*,zaa]));try simp only[Then,Ops])|simp only[Nat.reduceEqDiff,reduceIte,OutB,Then]))
      with_reducible refine zaz hC r.events.length (by unfold fuelL;omega) (fun v st=>∃ hp tc,Inv (allS r d s v) (sumS r d s v false) hp tc∧st={ tm:=tmA 96 [(32,.int .i64 v),(31,.int .i64 r.events.length),(8,.ptr G.length 0),(7,.ptr (H2.length+2) 0),(6,.ptr (H2.length+1) 0),(5,.ptr H2.length 0),(1,.ptr 0 0)],df:=[],hp:=hp,tc:=tc }) ?_ ?_ ?_
      · refine ⟨_,_,hI0,?_⟩
        (refine st_is ?_ ?_ ?_ ?_;(focus (simp[zao,zaq]));(focus rfl);(focus (first|rfl|(simp;done)|(simp;rfl)));(focus rfl))
      · clear hI0 x0 x1 x2 x3 x4 x5
        rintro v st hv ⟨hp,tc,hV,rfl⟩
        obtain ⟨⟨x0,x1,x2,x3,x4,x5⟩,hx9⟩:=HF.out hV
        clear hx9
        simp only[roadCs] at x1 x2 x4 x5
        have hwv:IntKind.i64.wrap (↑v+1)=↑v+1:=zau (by omega) (by omega)
        (repeat (first|(with_reducible apply zah;(focus ((conv=>lhs;simp[*,Nat.testBit_eq_decide_div_mod_eq])<;>exact rfl));simp only[addFl])|((with_reducible first|apply zai|apply zak|apply zag|apply zae|apply zac|apply zaj|apply zaf|apply zam|(apply zad;· simp[*,zaa])|(apply zab;· simp[*,zaa]));try simp only[Then,Ops,OutB])|simp only[Nat.reduceEqDiff,reduceIte,OutB,Then]))
        with_reducible refine zaz hC r.parts.length (by unfold fuelL;omega) (fun i st=>∃ hp tc,Inv (allS r d s v) (sumS r d s v ((List.range i).any (anyB r s v))) hp tc∧st={ tm:=tmA 96 [(38,.int .i64 i),(37,.int .i64 r.parts.length),(32,.int .i64 v),(31,.int .i64 r.events.length),(10,.bool ((List.range i).any (allB r s v))),(9,.int .i64 v),(8,.ptr G.length 0),(7,.ptr (H2.length+2) 0),(6,.ptr (H2.length+1) 0),(5,.ptr H2.length 0),(1,.ptr 0 0)],df:=[],hp:=hp,tc:=tc }) ?_ ?_ ?_
        · refine ⟨hp,tc,by simpa using hV,?_⟩
          (refine st_is ?_ ?_ ?_ ?_;(focus (simp[zao,zaq]));(focus rfl);(focus (first|rfl|(simp;done)|(simp;rfl)));(focus rfl))
        · clear hV x0 x1 x2 x3 x4 x5 hp tc
          rintro i st hi ⟨hp,tc,hV,rfl⟩
          obtain ⟨⟨x0,x1,x2,x3,x4,x5⟩,⟨y0,y1,y2,y3,y4,y5⟩,hx8,hx9,⟨z0,z1,z2,z3,z4,z5⟩⟩:=HF.out hV
          clear hx8 hx9
          simp only[roadCs] at x1 x2 x4 x5
          obtain ⟨c1,c2,q,H',tc',c3,c4,⟨b0,b1,b2,b3,b4,b5⟩,c5⟩:=HW.out hV i hi
          have hwi:IntKind.i64.wrap (↑i+1)=↑i+1:=zau (by omega) (by omega)
          have hlw:=zfi hr hi s (Rd.everyR r)
          have HV:=hideP (And.intro c4 (And.intro c5 b1))
          clear hV c4 c5
          (repeat (first|(with_reducible apply zah;(focus ((conv=>lhs;simp[*,↓zap,Nat.testBit_eq_decide_div_mod_eq])<;>exact rfl));simp only[addFl])|((with_reducible first|apply zai|apply zak|apply zag|apply zae|apply zac|apply zaj|apply zaf|apply zam|(apply zad;· simp[*,zaa])|(apply zab;· simp[*,zaa]));try simp only[Then,Ops,OutB])|simp only[Nat.reduceEqDiff,reduceIte,OutB,Then]))
          with_reducible refine zaz hC (Rd.waysR r i s (Rd.everyR r)).length (by unfold fuelL;omega) (fun k st=>∃ hp tc,Inv (allS r d s v) (sumS r d s v ((List.range i).any (anyB r s v) || ((Rd.waysR r i s (Rd.everyR r)).take k).any (loB r s v))) hp tc∧hp[q]?=some (.cells ((Rd.waysR r i s (Rd.everyR r)).flatMap wayCs))∧st={ tm:=tmA 96 [(48,.int .i64 k),(47,.int .i64 (Rd.waysR r i s (Rd.everyR r)).length),(46,.sl q 0 (Rd.waysR r i s (Rd.everyR r)).length 5),(38,.int .i64 i),(37,.int .i64 r.parts.length),(32,.int .i64 v),(31,.int .i64 r.events.length),(12,.bool (((Rd.waysR r i s (Rd.everyR r)).take k).all (hiB r s v))),(10,.bool ((List.range i).any (allB r s v))),(9,.int .i64 v),(8,.ptr G.length 0),(7,.ptr (H2.length+2) 0),(6,.ptr (H2.length+1) 0),(5,.ptr H2.length 0),(1,.ptr 0 0)],df:=[],hp:=hp,tc:=tc }) ?_ ?_ ?_
          · refine ⟨H',_,by simpa using HV.out.1,HV.out.2.2,?_⟩
            (refine st_is ?_ ?_ ?_ ?_;(focus (simp[zao,zaq]));(focus rfl);(focus (first|rfl|(simp;done)|(simp;rfl)));(focus rfl))
          · have hq5:=HV.out.2.1
            clear x0 x1 x2 x3 x4 x5 y0 y1 y2 y3 y4 y5 z0 z1 z2 z3 z4 z5 b0 b1 b2 b3 b4 b5 c1 c2 c3 HV
            rintro k st hk ⟨hp,tc,hV,hq,rfl⟩
            obtain ⟨⟨x0,x1,x2,x3,x4,x5⟩,⟨y0,y1,y2,y3,y4,y5⟩,⟨v0,v1,v2,v3,v4,v5⟩,⟨u0,u1,u2,u3,u4,u5⟩,⟨z0,z1,z2,z3,z4,z5⟩⟩:=HF.out hV
            obtain ⟨b0,b1,b2,b3,b4,b5⟩:=bk' hq
            simp only[roadCs] at x1 x2 x4 x5
            have hgi:(Rd.waysR r i s (Rd.everyR r))[k]?=some (Rd.waysR r i s (Rd.everyR r))[k]:=List.getElem?_eq_getElem hk
            have hwm:(Rd.waysR r i s (Rd.everyR r))[k]∈Rd.waysR r i s (Rd.everyR r):=List.getElem_mem hk
            generalize (Rd.waysR r i s (Rd.everyR r))[k]=w at hgi hwm
            obtain ⟨hlo,hhi⟩:=HG.out hV i hi w hwm v hv
            have hhi2:=(HG.out (HI.out.2.2 hV (sumS r d s v true)) i hi w hwm v hv).2
            have hat:=zgq wayCs 5 (fun _=>rfl) _ k w hgi
            have hcl:=zbr wayCs 5 (fun _=>rfl) (Rd.waysR r i s (Rd.everyR r))
            have hwk:IntKind.i64.wrap (↑k+1)=↑k+1:=zau (by omega) (by omega)
            have e4:k * 5+5≤(Rd.waysR r i s (Rd.everyR r)).length * 5:=by omega
            have htl:((Rd.waysR r i s (Rd.everyR r)).take (k+1)).any (loB r s v)=(((Rd.waysR r i s (Rd.everyR r)).take k).any (loB r s v) || loB r s v w):=by rw[List.take_add_one,hgi];simp
            have hth:((Rd.waysR r i s (Rd.everyR r)).take (k+1)).all (hiB r s v)=(((Rd.waysR r i s (Rd.everyR r)).take k).all (hiB r s v)&&hiB r s v w):=by rw[List.take_add_one,hgi];simp
            have hlB:loB r s v w=decide (Rd.heightR r w.part w.first.lo s (v+1)<0):=rfl
            have hhB:hiB r s v w=decide (Rd.heightR r w.part w.first.hi s (v+1)<0):=rfl
            generalize Rd.heightR r w.part w.first.lo s (v+1)=yl at *
            generalize Rd.heightR r w.part w.first.hi s (v+1)=yh at *
            obtain ⟨bb,hbb⟩:∃ bb,bb=((List.range i).any (anyB r s v) || ((Rd.waysR r i s (Rd.everyR r)).take k).any (loB r s v)):=⟨_,rfl⟩
            have hbb1:((List.range i).any (anyB r s v) || ((Rd.waysR r i s (Rd.everyR r)).take (k+1)).any (loB r s v))=(bb || loB r s v w):=by rw[htl,hbb,Bool.or_assoc]
            rw[← hbb] at hV u1 u2 u4 u5
            have hlt62:∀ b,sumS r d s v b<2 ^ 62:=fun b=>Nat.lt_of_lt_of_le (zfk _ _) (Nat.pow_le_pow_right (by decide) (by omega))
            have hp62:2 ^ v<2 ^ 62:=Nat.pow_lt_pow_right (by decide) (by omega)
            obtain ⟨s1,s2,s3⟩:=zok (d:=v) (by omega)
            have hor:=or_i64 (hlt62 bb) hp62
            rw[ybz r d s hv bb] at hor
            have HN:=hideP (And.intro hV (And.intro hbb1 (And.intro hth hq)))
            rw[hth]
            generalize hCW:(Rd.waysR r i s (Rd.everyR r)).flatMap wayCs=CW at *
            simp only[wayCs] at hat
            clear hV hbb hbb1 htl hth hq hgi hwm hlt62 hp62 hCW
            generalize hnw:(Rd.waysR r i s (Rd.everyR r)).length=nw at *
            generalize hfl:((Rd.waysR r i s (Rd.everyR r)).take k).all (hiB r s v)=fl at *
            generalize hiP:2 ^ v=P at *
            have hB1:H2.length+1<G.length:=by omega
            have hB2:H2.length+2<G.length:=by omega
            have h29:¬ H2.length+2=H2.length+1:=by omega
            have hpl:¬ hp.length<G.length:=by omega
            have h2G:¬ H2.length+2=G.length:=by omega
            have h2H:¬ H2.length+2=H2.length:=by omega
            have h20:¬ H2.length+2=0:=by omega
            simp at hor
            by_cases hly:yl<0
            · cases fl with
              |true=>
                rw[hhB]
                clear hhB
                (repeat (first|((with_reducible apply zah);(focus ((with_reducible apply zas);(focus rfl);(focus rfl);(focus ((conv=>lhs;simp[*,List.getElem?_append_right,List.set_append_right,List.getElem?_cons_zero,List.getElem?_append_left,List.set_append_left,-getElem?_pos,↓zap,↓zbq,Nat.testBit_eq_decide_div_mod_eq])<;>exact rfl));(focus rfl);(focus rfl)));simp only[addFl])|(with_reducible apply zah;(focus ((conv=>lhs;simp[*,List.getElem?_append_right,List.set_append_right,List.getElem?_cons_zero,List.getElem?_append_left,List.set_append_left,-getElem?_pos,↓zap,↓zbq,Nat.testBit_eq_decide_div_mod_eq])<;>exact rfl));simp only[addFl])|((with_reducible first|apply zai|apply zak|apply zag|apply zae|apply zac|apply zaj|apply zaf|apply zam|(apply zad;· simp[*,zaa])|(apply zab;· simp[*,zaa]));try simp only[Then,Ops,OutB])|simp only[Nat.reduceEqDiff,reduceIte,OutB,Then]))
                obtain ⟨hV,hbb1,hth,hq⟩:=HN.out
                obtain ⟨happ,hset1,hset2⟩:=HI.out
                have hn:=happ (hset2 hV (sumS r d s v true)) [.cells [.int .i64 w.part.stiff,.int .i64 w.part.rise,.int .i64 w.part.full,.int .i64 w.first.lo,.int .i64 w.first.hi]]
                refine ⟨_,_,?_,?_,st_is ?_ rfl rfl rfl⟩
                · rw[hbb1,hlB,decide_eq_true hly,Bool.or_true];exact hn
                · rw[List.getElem?_append_left (by simpa using b0),List.getElem?_set_ne (by omega)];exact hq
                · simp[zao,zaq]
              |false=>
                clear hhB hhi hhi2
                (repeat (first|((with_reducible apply zah);(focus ((with_reducible apply zas);(focus rfl);(focus rfl);(focus ((conv=>lhs;simp[*,List.getElem?_append_right,List.set_append_right,List.getElem?_cons_zero,List.getElem?_append_left,List.set_append_left,-getElem?_pos,↓zap,↓zbq,Nat.testBit_eq_decide_div_mod_eq])<;>exact rfl));(focus rfl);(focus rfl)));simp only[addFl])|(with_reducible apply zah;(focus ((conv=>lhs;simp[*,List.getElem?_append_right,List.set_append_right,List.getElem?_cons_zero,List.getElem?_append_left,List.set_append_left,-getElem?_pos,↓zap,↓zbq,Nat.testBit_eq_decide_div_mod_eq])<;>exact rfl));simp only[addFl])|((with_reducible first|apply zai|apply zak|apply zag|apply zae|apply zac|apply zaj|apply zaf|apply zam|(apply zad;· simp[*,zaa])|(apply zab;· simp[*,zaa]));try simp only[Then,Ops,OutB])|simp only[Nat.reduceEqDiff,reduceIte,OutB,Then]))
                obtain ⟨hV,hbb1,hth,hq⟩:=HN.out
                obtain ⟨happ,hset1,hset2⟩:=HI.out
                have hn:=happ (hset2 hV (sumS r d s v true)) [.cells [.int .i64 w.part.stiff,.int .i64 w.part.rise,.int .i64 w.part.full,.int .i64 w.first.lo,.int .i64 w.first.hi]]
                refine ⟨_,_,?_,?_,st_is ?_ rfl rfl rfl⟩
                · rw[hbb1,hlB,decide_eq_true hly,Bool.or_true];exact hn
                · rw[List.getElem?_append_left (by simpa using b0),List.getElem?_set_ne (by omega)];exact hq
                · simp[zao,zaq]
            · cases fl with
              |true=>
                rw[hhB]
                clear hhB hor hhi2
                (repeat (first|((with_reducible apply zah);(focus ((with_reducible apply zas);(focus rfl);(focus rfl);(focus ((conv=>lhs;simp[*,List.getElem?_append_right,List.set_append_right,List.getElem?_cons_zero,List.getElem?_append_left,List.set_append_left,-getElem?_pos,↓zap,↓zbq,Nat.testBit_eq_decide_div_mod_eq])<;>exact rfl));(focus rfl);(focus rfl)));simp only[addFl])|(with_reducible apply zah;(focus ((conv=>lhs;simp[*,List.getElem?_append_right,List.set_append_right,List.getElem?_cons_zero,List.getElem?_append_left,List.set_append_left,-getElem?_pos,↓zap,↓zbq,Nat.testBit_eq_decide_div_mod_eq])<;>exact rfl));simp only[addFl])|((with_reducible first|apply zai|apply zak|apply zag|apply zae|apply zac|apply zaj|apply zaf|apply zam|(apply zad;· simp[*,zaa])|(apply zab;· simp[*,zaa]));try simp only[Then,Ops,OutB])|simp only[Nat.reduceEqDiff,reduceIte,OutB,Then]))
                obtain ⟨hV,hbb1,hth,hq⟩:=HN.out
                obtain ⟨happ,hset1,hset2⟩:=HI.out
                have hn:=happ hV [.cells [.int .i64 w.part.stiff,.int .i64 w.part.rise,.int .i64 w.part.full,.int .i64 w.first.lo,.int .i64 w.first.hi]]
                refine ⟨_,_,?_,?_,st_is ?_ rfl rfl rfl⟩
                · rw[hbb1,hlB,decide_eq_false hly,Bool.or_false];exact hn
                · rw[List.getElem?_append_left b0];exact hq
                · simp[zao,zaq]
              |false=>
                clear hhB hhi hhi2 hor
                (repeat (first|((with_reducible apply zah);(focus ((with_reducible apply zas);(focus rfl);(focus rfl);(focus ((conv=>lhs;simp[*,List.getElem?_append_right,List.set_append_right,List.getElem?_cons_zero,List.getElem?_append_left,List.set_append_left,-getElem?_pos,↓zap,↓zbq,Nat.testBit_eq_decide_div_mod_eq])<;>exact rfl));(focus rfl);(focus rfl)));simp only[addFl])|(with_reducible apply zah;(focus ((conv=>lhs;simp[*,List.getElem?_append_right,List.set_append_right,List.getElem?_cons_zero,List.getElem?_append_left,List.set_append_left,-getElem?_pos,↓zap,↓zbq,Nat.testBit_eq_decide_div_mod_eq])<;>exact rfl));simp only[addFl])|((with_reducible first|apply zai|apply zak|apply zag|apply zae|apply zac|apply zaj|apply zaf|apply zam|(apply zad;· simp[*,zaa])|(apply zab;· simp[*,zaa]));try simp only[Then,Ops,OutB])|simp only[Nat.reduceEqDiff,reduceIte,OutB,Then]))
                obtain ⟨hV,hbb1,hth,hq⟩:=HN.out
                obtain ⟨happ,hset1,hset2⟩:=HI.out
                have hn:=happ hV [.cells [.int .i64 w.part.stiff,.int .i64 w.part.rise,.int .i64 w.part.full,.int .i64 w.first.lo,.int .i64 w.first.hi]]
                refine ⟨_,_,?_,?_,st_is ?_ rfl rfl rfl⟩
                · rw[hbb1,hlB,decide_eq_false hly,Bool.or_false];exact hn
                · rw[List.getElem?_append_left b0];exact hq
                · simp[zao,zaq]
          · clear x0 x1 x2 x3 x4 x5 y0 y1 y2 y3 y4 y5 z0 z1 z2 z3 z4 z5 b0 b1 b2 b3 b4 b5 c1 c2 c3 HV
            rintro st ⟨hp,tc,hV,hq,rfl⟩
            rw[List.take_length] at hV ⊢
            obtain ⟨b0,b1,b2,b3,b4,b5⟩:=bk' hq
            have e1:(List.range (i+1)).any (anyB r s v)=((List.range i).any (anyB r s v) || (Rd.waysR r i s (Rd.everyR r)).any (loB r s v)):=by rw[List.range_succ,List.any_append];simp[anyB]
            have e2:(List.range (i+1)).any (allB r s v)=((List.range i).any (allB r s v) || (Rd.waysR r i s (Rd.everyR r)).all (hiB r s v)):=by rw[List.range_succ,List.any_append];simp[allB]
            rw[← e1] at hV
            have HN:=hideP (And.intro hV hq)
            rw[e2]
            clear hV hq e1 e2
            generalize (Rd.waysR r i s (Rd.everyR r)).length=nw at *
            generalize (Rd.waysR r i s (Rd.everyR r)).all (hiB r s v)=fl at *
            generalize (List.range i).any (allB r s v)=fs at *
            cases fs with
            |true=>
              (repeat (first|(with_reducible apply zah;(focus ((conv=>lhs;simp[*,Nat.testBit_eq_decide_div_mod_eq])<;>exact rfl));simp only[addFl])|((with_reducible first|apply zai|apply zak|apply zag|apply zae|apply zac|apply zaj|apply zaf|apply zam|(apply zad;· simp[*,zaa])|(apply zab;· simp[*,zaa]));try simp only[Then,Ops,OutB,reduceIte])|simp only[Nat.reduceEqDiff,reduceIte,OutB,Then]))
              refine ⟨_,_,HN.out.1,?_⟩
              refine st_is ?_ rfl rfl rfl
              simp[zao,zaq]
            |false=>
              (repeat (first|(with_reducible apply zah;(focus ((conv=>lhs;simp[*,Nat.testBit_eq_decide_div_mod_eq])<;>exact rfl));simp only[addFl])|((with_reducible first|apply zai|apply zak|apply zag|apply zae|apply zac|apply zaj|apply zaf|apply zam|(apply zad;· simp[*,zaa])|(apply zab;· simp[*,zaa]));try simp only[Then,Ops,OutB,reduceIte])|simp only[Nat.reduceEqDiff,reduceIte,OutB,Then]))
              refine ⟨_,_,HN.out.1,?_⟩
              refine st_is ?_ rfl rfl rfl
              simp[zao,zaq]
        · clear hV x0 x1 x2 x3 x4 x5 hp tc
          rintro st ⟨hp,tc,hV,rfl⟩
          obtain ⟨⟨x0,x1,x2,x3,x4,x5⟩,⟨y0,y1,y2,y3,y4,y5⟩,⟨v0,v1,v2,v3,v4,v5⟩,⟨u0,u1,u2,u3,u4,u5⟩,⟨z0,z1,z2,z3,z4,z5⟩⟩:=HF.out hV
          simp only[roadCs] at x1 x2 x4 x5
          have hV:Inv (allS r d s v) (sumS r d s (v+1) false) hp tc:=by rw[← zvi];exact hV
          have hsu:(List.range r.parts.length).any (allB r s v)=sureB r s v:=rfl
          rw[hsu]
          have hlt62:allS r d s v<2 ^ 62:=Nat.lt_of_lt_of_le (zfk _ _) (Nat.pow_le_pow_right (by decide) (by omega))
          have hp62:2 ^ v<2 ^ 62:=Nat.pow_lt_pow_right (by decide) (by omega)
          obtain ⟨s1,s2,s3⟩:=zok (d:=v) (by omega)
          have han:=ybn hlt62 hp62
          have hB1:H2.length+1<G.length:=by omega
          cases hsb:sureB r s v with
          |true=>
            rw[ybq r d s hsb] at hV
            have HN:=hideP hV
            clear hV hlt62 hp62 han hsu hsb u1 u2 u4 u5
            (repeat (first|(with_reducible apply zah;(focus ((conv=>lhs;simp[*,Nat.testBit_eq_decide_div_mod_eq])<;>exact rfl));simp only[addFl])|((with_reducible first|apply zai|apply zak|apply zag|apply zae|apply zac|apply zaj|apply zaf|apply zam|(apply zad;· simp[*,zaa])|(apply zab;· simp[*,zaa]));try simp only[Then,Ops,OutB,reduceIte])|simp only[Nat.reduceEqDiff,reduceIte,OutB,Then]))
            refine ⟨_,_,HN.out,?_⟩
            refine st_is ?_ rfl rfl rfl
            simp[zao,zaq]
          |false=>
            rw[ydp r d s hsb] at han
            have HN:=hideP (HI.out.2.1 hV (allS r d s (v+1)))
            clear hV hlt62 hp62 hsu hsb u1 u2 u4 u5
            generalize hiP:2 ^ v=P at *
            simp at han
            (repeat (first|((with_reducible apply zah);(focus ((with_reducible apply zas);(focus rfl);(focus rfl);(focus ((conv=>lhs;simp[*,List.getElem?_append_right,List.set_append_right,List.getElem?_cons_zero,List.getElem?_append_left,List.set_append_left,-getElem?_pos,↓zap,↓zbq,Nat.testBit_eq_decide_div_mod_eq])<;>exact rfl));(focus rfl);(focus rfl)));simp only[addFl])|(with_reducible apply zah;(focus ((conv=>lhs;simp[*,List.getElem?_append_right,List.set_append_right,List.getElem?_cons_zero,List.getElem?_append_left,List.set_append_left,-getElem?_pos,↓zap,↓zbq,Nat.testBit_eq_decide_div_mod_eq])<;>exact rfl));simp only[addFl])|((with_reducible first|apply zai|apply zak|apply zag|apply zae|apply zac|apply zaj|apply zaf|apply zam|(apply zad;· simp[*,zaa])|(apply zab;· simp[*,zaa]));try simp only[Then,Ops,OutB,reduceIte])|simp only[Nat.reduceEqDiff,reduceIte,OutB,Then]))
            refine ⟨_,_,HN.out,?_⟩
            refine st_is ?_ rfl rfl rfl
            simp[zao,zaq]
      · clear hI0 x0 x1 x2 x3 x4 x5
        rintro st ⟨hp,tc,hV,rfl⟩
        obtain ⟨⟨x0,x1,x2,x3,x4,x5⟩,hx9⟩:=HF.out hV
        clear hx9
        simp only[roadCs] at x1 x2 x4 x5
        have HN:=hideP hV
        clear hV
        (repeat (first|(with_reducible apply zah;(focus ((conv=>lhs;simp[*,Nat.testBit_eq_decide_div_mod_eq])<;>exact rfl));simp only[addFl])|((with_reducible first|apply zai|apply zak|apply zag|apply zae|apply zac|apply zaj|apply zaf|apply zam|(apply zad;· simp[*,zaa])|(apply zab;· simp[*,zaa]));try simp only[Then,Ops,OutB,reduceIte])|simp only[Nat.reduceEqDiff,reduceIte,OutB,Then]))
        exact HE.out HN.out _
    · rintro H' tc' W h1 h2 h3 h4 h5 h6 ⟨rfl,g7,g8⟩
      simp only[List.length_append,List.length_cons,List.length_nil,Nat.zero_add,Nat.add_assoc,Nat.reduceAdd] at h1 h4 h5 ⊢
      simp only[OutB,Then]
      rw[← zvd] at g7
      rw[← zsn] at g8
      have e4:H'[1]?=some (.cells [.int .i64 0]):=h2.at (by rw[List.getElem?_append_left (by omega)];exact HX.out.2.2.2.2.2.1) fun h=>by have:=h1 _ h (by omega);simp only[List.mem_append,List.mem_cons,List.not_mem_nil,or_false] at this;omega
      obtain ⟨a0,a1,a2,a3,a4,a5⟩:=bk' g7
      obtain ⟨b0,b1,b2,b3,b4,b5⟩:=bk' g8
      obtain ⟨c0,c1,c2,c3,c4,c5⟩:=bk' e4
      have HD:=hideP h4
      clear h1 h2 h3 h4 h6 g7 g8 hTd hI hev HX e4
      generalize Rd.surelyR r=S1 at *
      generalize Rd.perhapsR r=S2 at *
      (repeat (first|((with_reducible apply zah);(focus ((with_reducible apply zas);(focus rfl);(focus rfl);(focus ((conv=>lhs;simp[*,List.getElem?_append_right,List.set_append_right,List.getElem?_cons_zero,List.getElem?_append_left,List.set_append_left,-getElem?_pos,↓zap,↓zbq,Nat.testBit_eq_decide_div_mod_eq])<;>exact rfl));(focus rfl);(focus rfl)));simp only[addFl])|(with_reducible apply zah;(focus ((conv=>lhs;simp[*,List.getElem?_append_right,List.set_append_right,List.getElem?_cons_zero,List.getElem?_append_left,List.set_append_left,-getElem?_pos,↓zap,↓zbq,Nat.testBit_eq_decide_div_mod_eq])<;>exact rfl));simp only[addFl])|((with_reducible first|apply zai|apply zak|apply zag|apply zae|apply zac|apply zaj|apply zaf|apply zam|(apply zad;· simp[*,zaa])|(apply zab;· simp[*,zaa]));try simp only[Then])|simp only[Nat.reduceEqDiff,reduceIte,OutB,Then]))
      refine znu (D:=H2.length+5) (v:=.tup [.int .i64 S1,.int .i64 S2,.int .i64 0]) (.inl rfl) hdf rfl (by simp only;rw[List.getElem?_set_ne (by omega)];exact HD.out) (by simp only[zaw];simp only[resL,resOf,zal];simp[resV,pickC,c0]) ⟨by simp,by simp⟩
end Ro
end Ev
end Go.Proofs.Ytlcjlcllbgjplaa

/- Package road: what its functions come to, in any configuration that knows them. -/
namespace Go.Proofs.Ytlcjlcllbgjplaa
open Go
namespace Ev
namespace Ro
open K
set_option maxRecDepth 100000
set_option maxHeartbeats 4000000
structure Knows (C:Cfg):Prop where
  calm:C.calm=true
  wh:∀ f,C.whole f=true
  within:Has C 84 af84
  isLoad:Has C 48 af48
  always:Has C 61 af61
  isPart:Has C 41 af41
  isEvent:Has C 42 af42
  every:Has C 64 af64
  isSpan:Has C 83 af83
  must:Has C 62 af62
  sunk:Has C 46 af46
  rested:Has C 102 af102
  look:Has C 126 af126
  pass:Has C 125 af125
  rest:∀ n (H:List AB) (d:Int) (p:Rd.Tr),TrOk p→∀ h l:Int,-1000000≤h→h≤1000000→0≤d→d≤1000→Ev.call C (n+1) (.fn (.func 127) [] []) [.agg [.int .i64 d],.agg [.int .i64 p.stiff,.int .i64 p.rise,.int .i64 p.full],.int .i64 h,.int .i64 l] H=some (.ret (.int .i64 (Rd.rested p h d)),H,[])
  height:Has C 81 af81
  first:Has C 100 af100
  parts:Has C 99 af99
  parts1:Has C 107 af107
  ways:Has C 80 af80
  all:Has C 98 af98
  all1:Has C 105 af105
  all11:Has C 106 af106
  told:Has C 79 af79
  told1:Has C 97 af97
  can:Has C 63 af63
  known:Has C 43 af43
  joined:Has C 86 af86
  span:Has C 49 af49
  heights:Has C 44 af44
  heights1:Has C 85 af85
  left:Has C 89 af89
  index:Has C 101 af101
  cont:Has C 87 af87
  sure:Has C 53 af53
  sure1:Has C 88 af88
  may:Has C 54 af54
  may1:Has C 90 af90
  open_ : Has C 39 af39
  count:Has C 58 af58
  count1:Has C 91 af91
  firstN:Has C 57 af57
  height2:Has C 40 af40
  sinks2:Has C 47 af47
  sinks3:Has C 50 af50
  bears2:Has C 52 af52
  rest2:Has C 56 af56
  rest3:Has C 59 af59
  most2:Has C 73 af73
  eHeight:Has C 14 af14
  eSinks:Has C 15 af15
  eBears:Has C 16 af16
  eMost:Has C 19 af19
  eRest:Has C 17 af17
  eBelow:Has C 26 af26
  eWeak:Has C 34 af34
  dfHeight:C.dfk 37=some (119,true)
  dfSinks:C.dfk 45=some (119,true)
  dfBears:C.dfk 51=some (119,true)
  dfMost:C.dfk 72=some (119,true)
  dfRest:C.dfk 55=some (119,true)
  dfBelow:C.dfk 78=some (119,true)
  dfWeak:C.dfk 82=some (119,true)
section
variable {C:Cfg} (k:Knows C)
include k
theorem withinL (n:Nat):WithinC (Ev.call C (n+1)):=fun H a b c=>zay k.calm k.within (le' rfl) rfl (zrw C _ H a b c)
theorem isLoadL (n:Nat):IsLoadC (Ev.call C (n+2)):=fun H a=>zay k.calm k.isLoad (le' rfl) rfl (ztl C _ (withinL k n) H a)
theorem isSpanL (n:Nat):IsSpanC (Ev.call C (n+1)):=fun H s a b w h1 h2=>zay k.calm k.isSpan (le' rfl) rfl (ztj C _ H s a b w h1 h2)
theorem alwaysL (n:Nat)(H:List AB)(v:AV):Ev.call C (n+1) (.fn (.func 61) [] []) [v] H=some (.ret (.bool true),H,[]):=zay k.calm k.always (le' rfl) rfl (zul C _ H v)
theorem mustL (n:Nat):MustC (Ev.call C (n+1)) where
  t H e:=by
    obtain ⟨x,hp,tc,H',c1,⟨rfl,rfl⟩,_,_,c7⟩:=zfr (n:=n) (first:=[]) (captured:=[]) (args:=[.bool true,.int .i64 e]) k.calm k.must (le' rfl) (zwu C _ H e)
    rw[c1,c7 rfl rfl]
  f H e:=by
    obtain ⟨x,hp,tc,H',c1,⟨rfl,rfl⟩,_,_,c7⟩:=zfr (n:=n) (first:=[]) (captured:=[]) (args:=[.bool false,.int .i64 e]) k.calm k.must (le' rfl) (zwv C _ H e)
    rw[c1,c7 rfl rfl]
theorem sunkL (n:Nat):SunkC (Ev.call C (n+1)):=fun H p hp l h0 h1=>zay k.calm k.sunk (le' rfl) rfl (zzo C _ H p hp l h0 h1)
theorem restedL (n:Nat):RestedC (Ev.call C (n+1)):=fun H p hp h d h0 h1 d0 d1=>zay (first:=[.agg [.int .i64 p.stiff,.int .i64 p.rise,.int .i64 p.full]]) k.calm k.rested (le' rfl) rfl (zsi C _ H p hp h d h0 h1 d0 d1)
theorem aftL (n:Nat):AftC (Ev.call C (n+2)) where
  look H p h l:=zay k.calm k.look (le' rfl) rfl (zxs C _ H p h l)
  pass H p hp h l h0 h1 l0 l1:=zay k.calm k.pass (le' rfl) rfl (zwc C _ (sunkL k n) H p hp h l h0 h1 l0 l1)
  rest H d p hp h l h0 h1 d0 d1:=k.rest (n+1) H d p hp h l h0 h1 d0 d1
theorem partsNL (n:Nat):PartsC (Ev.call C (n+1)):=fun H xb a=>zic k.calm k.parts (le' rfl) (by simp[refs,refsL]) (zsp C _ H xb a)
theorem allNL (n:Nat):AllC (Ev.call C (n+1)):=fun H xb=>zic k.calm k.all (le' rfl) (by simp[refs,refsL]) (ybs C _ H xb)
theorem toldNL (n:Nat):ToldC (Ev.call C (n+1)):=fun H xb a=>zic k.calm k.told (le' rfl) (by simp[refs,refsL]) (zva C _ H xb a)
theorem countNL (n:Nat):CountC (Ev.call C (n+1)):=fun H a b=>zic k.calm k.count (le' rfl) (by simp[refs,refsL]) (zua C _ H a b)
theorem joinL (n:Nat):JoinC (Ev.call C (n+1)):=fun H v ds hv hl=>zay k.calm k.joined (le' rfl) rfl (zth C k.calm _ H v ds hv hl)
theorem isPartL {r:Rd.Road}(hr:r.parts.length≤1000)(n:Nat):IsPartC (Ev.call C (n+2)) r:=fun H xb w z hy a=>zay k.calm k.isPart (le' rfl) rfl (ztk C _ (withinL k n) r hr H xb w z hy a)
theorem isEventL {r:Rd.Road}(hr:r.events.length≤1000)(n:Nat):IsEventC (Ev.call C (n+2)) r:=fun H xb w z hy a=>zay k.calm k.isEvent (le' rfl) rfl (zox C _ (withinL k n) r hr H xb w z hy a)
theorem indexL (n:Nat):IndexC (Ev.call C (n+1)) (Ev.call C n):=by
  intro H v ws hv hl fl fa fb p hF
  obtain ⟨w,hp,tc,H',c1,⟨q,rfl,c2,rfl⟩,_,_,_,c7⟩:=zlv (first:=[]) (captured:=[]) (args:=[v,.fn fl fa fb]) k.calm k.wh k.index (le' rfl) (ztm C k.calm _ H v ws hv hl fl fa fb p hF)
  exact ⟨q,by rw[c1,c7 rfl rfl],c2⟩
theorem contL (n:Nat):ContC (Ev.call C (n+2)) (Ev.call C n):=fun H v ws hv hl fl fa fb p hF=>zay k.calm k.cont (le' rfl) rfl (zyt C _ _ (indexL k n) H v ws hv hl fl fa fb p hF)
theorem sinks3L (n:Nat):Sinks3C (Ev.call C (n+2)):=fun H w hp R hR load hl b1 b2 h1 h2=>zay (first:=[]) (captured:=[.ptr b1 0,.ptr b2 0]) k.calm k.sinks3 (le' rfl) rfl (zsd C _ (sunkL k n) H w hp R hR load hl [] b1 b2 h1 h2)
variable {r:Rd.Road} (hr:Rd.Fine r)
include hr
theorem everyL (n:Nat):EveryC (Ev.call C (n+1)) r:=fun H xb w z hy=>zay k.calm k.every (le' rfl) rfl (zyk C _ r (by have:=hr.events;omega) H xb w z hy)
theorem heightL (n:Nat):HeightC (Ev.call C (n+3)) r:=fun H xb mb eb hX p hp h b1 b2 f hf many hm=>zay k.calm k.height (le' rfl) rfl (zto C k.calm _ (aftL k n) r hr H xb mb eb hX p hp h b1 b2 f hf many hm)
theorem firstL (n:Nat):FirstC (Ev.call C (n+4)) r:=by
  intro H xb mb eb hX q hq
  obtain ⟨es,hm,hes⟩:=hX.m
  rcases znf hr.events q hes with h|h
  · obtain ⟨es',h1,h2⟩:=zqp hr.events q hes
    obtain ⟨v,hp,tc,H',c1,⟨rfl,rfl,c3⟩,c5,_,_⟩:=zdk (n:=n+3) (first:=[]) (captured:=[]) (args:=[.ptr xb 0,qA q]) k.calm k.first.ext k.first.exth k.first.fns k.first.whole (le' rfl)
      (ztt C k.calm _ r hr (heightL k hr n) H xb mb eb hX q hq es es' hm h h1)
    refine ⟨H',_,c1,by simp,c5.kp,hX.ne,hX.ne2,c5.kp.at hX.x (by simp[hX.ne]),fun hn=>c5.kp.at (hX.e hn) (by simp[hX.ne2]),Nat.lt_of_lt_of_le hX.el c5.len,es',?_,h2⟩
    rw[c5.got mb (get_lt hm) (by simp)];exact c3
  · obtain ⟨v,hp,tc,H',c1,⟨rfl,rfl⟩,c5,_,c7⟩:=zdk (n:=n+3) (first:=[]) (captured:=[]) (args:=[.ptr xb 0,qA q]) k.calm k.first.ext k.first.exth k.first.fns k.first.whole (le' rfl)
      (zyb C _ r H xb mb eb hX q es hm h)
    exact ⟨H',_,c1,by simp,c5.kp,hX.kp c5.kp (by simp) (by simp) (by simp)⟩
theorem waysL (n:Nat):WaysC (Ev.call C (n+7)) r:=by
  intro H xb mb eb hX i hi f hf looks
  obtain ⟨v,hp,tc,H',c1,⟨c2,c3,c4⟩,c5,c6,c7,c8⟩:=zlv (n:=n+6) (first:=[]) (captured:=[]) (args:=[.ptr xb 0,.int .i64 i,.agg (arr10 f),.int .u64 looks]) k.calm k.wh k.ways (le' rfl)
    (zus C k.calm k.wh (n+4) r hr (partsNL k (n+5)) (zwe k.calm hr k.parts1) (firstL k hr n) H xb mb eb hX i hi f hf looks)
  refine ⟨v,H',tc,c1,c2,c6,?_⟩
  by_cases hv:refs v=[]∧tc=[]
  · have hH:=c8 hv.1 hv.2
    rw[hH]
    refine ⟨hX,?_⟩
    obtain ⟨W,hW⟩:=c4
    generalize hws:Rd.waysR r i (lsOf r.events.length f) looks=ws at hW
    cases hW with
    |none=>exact ⟨[],by rw[hws];exact .none⟩
    |some b ws z1 z2 z3=>simp[refs] at hv
  · have hH : H' = hp := c7 (by
      by_cases h:tc=[]
      · exact .inl fun h2=>hv ⟨h2,h⟩
      · exact .inr h)
    rw[hH];exact ⟨c3,c4⟩
theorem toldIL (n:Nat):ToldI C (n+7) (n+r.events.length+11) r:=by
  have h1:=ybp k.calm k.wh hr k.all11 k.all1 (n+8)
  rw[show n+8+r.events.length+2=n+r.events.length+10 by omega] at h1
  exact zuy (m:=n+r.events.length+10) k.calm k.wh hr k.told1 (allNL k _) h1 (waysL k hr n)
theorem canL (n:Nat):CanC (Ev.call C (n+r.events.length+12)) r:=fun H xb mb eb hX looks=>
  zga k.calm k.wh k.can (le' rfl) rfl hX (ybj C k.calm k.wh (n+6) (n+r.events.length+11) r (toldNL k _) (toldIL k hr n) H xb mb eb hX looks)
theorem knownL (n:Nat):KnownC (Ev.call C (n+r.events.length+13)) r:=by
  intro H xb mb eb hX
  obtain ⟨x,hp,tc,H',c1,⟨c2,c3,c4,rfl⟩,c5,c6,c7⟩:=zfr (n:=n+r.events.length+12) (first:=[]) (captured:=[]) (args:=[.ptr xb 0]) k.calm k.known (le' rfl)
    (ztg C _ (mustL k _) r (everyL k hr _) (canL k hr n) H xb mb eb hX)
  have hs:=c5.same c3
  have hX':Rx r xb mb eb H':=by
    refine c4.same fun j hj=>hs j ?_
    have:=hX.xl;have:=hX.ml;have:=hX.el
    rcases hj with rfl|rfl|rfl<;>assumption
  exact ⟨H',tc,c2,⟨c5.len,fun b hb ht=>(hs b hb).trans (c3.get b hb ht)⟩,hX',c1⟩
theorem spanL (n:Nat):SpanC (Ev.call C (n+r.events.length+13)) (Ev.call C (n+7)) r:=by
  intro H xb mb eb hX i hi fl fa fb g hF
  have h1:=toldIL k hr (n+1)
  rw[show n+1+r.events.length+11=n+r.events.length+12 by omega] at h1
  exact zga k.calm k.wh k.span (le' rfl) rfl hX (zvk C k.calm k.wh (n+7) (n+r.events.length+12) r hr (toldNL k _) h1 (everyL k hr _) (everyL k hr _) (waysL k hr n) (joinL k _) H xb mb eb hX i hi fl fa fb g hF)
theorem leftL (n:Nat):LeftC (Ev.call C (n+4)) r:=fun H xb mb eb hX w hp h b1 b2 f hf days load hL=>zay k.calm k.left (le' rfl) rfl (yav C _ r hr (heightL k hr n) (restedL k (n+2)) (sunkL k (n+2)) H xb mb eb hX w hp h b1 b2 f hf days load hL)
theorem sure1L (n:Nat):Sure1C (Ev.call C (n+5)) r:=fun H xb mb eb hX w hp hw f hf days load hL b1 b2 b3 b4 h1 h2 h3 h4=>zay (first:=[]) (captured:=[.ptr b1 0,.ptr b2 0,.ptr b3 0,.ptr b4 0]) k.calm k.sure1 (le' rfl) rfl (zvg C _ r (leftL k hr n) H xb mb eb hX w hp hw f hf days load hL b1 b2 b3 b4 h1 h2 h3 h4)
theorem may1L (n:Nat):May1C (Ev.call C (n+5)) r:=fun H xb mb eb hX w hp hw f hf load hL b1 b2 b4 h1 h2 h4=>zay (first:=[]) (captured:=[.ptr b1 0,.ptr b2 0,.ptr b4 0]) k.calm k.may1 (le' rfl) rfl (yaq C _ r (leftL k hr n) H xb mb eb hX w hp hw f hf load hL b1 b2 b4 h1 h2 h4)
theorem sureL (n:Nat):SureC (Ev.call C (n+r.events.length+13)) r:=by
  intro H xb mb eb hX days load hL
  have h1:=toldIL k hr (n+1)
  rw[show n+1+r.events.length+11=n+r.events.length+12 by omega] at h1
  exact zga k.calm k.wh k.sure (le' rfl) rfl hX (zve C k.calm k.wh (n+7) (n+5) (n+r.events.length+12) r hr (toldNL k _) h1 (everyL k hr _) (everyL k hr _) (waysL k hr n) (contL k (n+5)) (sure1L k hr n) H xb mb eb hX days load hL)
theorem mayL (n:Nat):MayC (Ev.call C (n+r.events.length+13)) r:=by
  intro H xb mb eb hX load hL
  have h1:=toldIL k hr (n+1)
  rw[show n+1+r.events.length+11=n+r.events.length+12 by omega] at h1
  exact zga k.calm k.wh k.may (le' rfl) rfl hX (yap C k.calm k.wh (n+7) (n+5) (n+r.events.length+12) r hr (toldNL k _) h1 (everyL k hr _) (everyL k hr _) (waysL k hr n) (contL k (n+5)) (may1L k hr n) H xb mb eb hX load hL)
theorem heights1L (n:Nat):Heights1C (Ev.call C (n+4)) r:=fun H xb mb eb hX w hp hw f hf many hm b1 b2 h1 h2=>zay (first:=[]) (captured:=[.ptr b1 0,.ptr b2 0]) k.calm k.heights1 (le' rfl) rfl (znr C _ r (heightL k hr n) H xb mb eb hX w hp hw f hf many hm b1 b2 h1 h2)
theorem heightsL (n:Nat):HeightsC (Ev.call C (n+r.events.length+14)) r:=fun H xb mb eb hX i hi many hm=>
  zga k.calm k.wh k.heights (le' rfl) rfl hX (znp C _ (Ev.call C (n+7)) r hr (spanL k hr n) (heights1L k hr (n+3)) H xb mb eb hX i hi many hm)
theorem most2L (n:Nat):Most2C (Ev.call C (n+r.events.length+14)) r:=fun H xb mb eb hX i hi b1 h1=>
  zga (first:=[]) (captured:=[.ptr b1 0]) k.calm k.wh k.most2 (le' rfl) rfl hX (zwz C _ r (sureL k hr n) H xb mb eb hX i hi b1 h1)
theorem rest3L (n:Nat):Rest3C (Ev.call C (n+r.events.length+14)) r:=fun H xb mb eb hX i load hL b1 b2 h1 h2=>
  zga (first:=[]) (captured:=[.ptr b1 0,.ptr b2 0]) k.calm k.wh k.rest3 (le' rfl) rfl hX (zvx C _ r (sureL k hr n) H xb mb eb hX i load hL b1 b2 h1 h2)
omit hr in
theorem firstNL (n:Nat):FirstNC (Ev.call C (n+r.events.length+17)) (Ev.call C (n+r.events.length+14)) r:=by
  intro a b b1 b2 ha hb H xb mb eb hX h1 h2 n1 n2 fl fa fb p hF
  obtain ⟨x,hp,tc,H',c1,⟨rfl,c2,c4⟩,c5,c6,c7⟩:=zfr (n:=n+r.events.length+16) (first:=[]) (captured:=[]) (args:=[.fn (.func 91) [] [.ptr b1 0,.ptr b2 0],.agg [.fn fl fa fb]]) k.calm k.firstN (le' rfl)
    (zts C k.calm k.wh (n+r.events.length+14) (n+r.events.length+16) r (mustL k _) (ztz k.calm (n+r.events.length+15) k.count1) a b b1 b2 ha hb H xb mb eb hX h1 h2 n1 n2 fl fa fb p hF)
  have he:=zpr k.calm k.wh _ _ _ _ _ _ _ c1
  have hk:Kp tc H H':=⟨he.len,fun b hb hn=>he.same b hb hn⟩
  refine ⟨H',tc,c1,c2,hk,?_⟩
  obtain ⟨es,m1,m2⟩:=hX.m
  have hx:xb∉tc:=fun h=>hX.ne (c2 _ h)
  have hee:eb∉tc:=fun h=>hX.ne2 (c2 _ h)
  by_cases hm:mb∈tc
  · obtain ⟨es2,m3,m4⟩:=c4.m
    exact ⟨hX.ne,hX.ne2,hk.at hX.x hx,fun hn=>hk.at (hX.e hn) hee,Nat.lt_of_lt_of_le hX.el hk.len,es2,(c5.got mb (get_lt m1) hm).trans m3,m4⟩
  · exact hX.kp hk hx hm hee
end
end Ro
end Ev
end Go.Proofs.Ytlcjlcllbgjplaa

/- Package road: what its exported functions come to, in any configuration that knows the package. -/
namespace Go.Proofs.Ytlcjlcllbgjplaa
open Go
namespace Ev
namespace Ro
open K
set_option maxRecDepth 100000
set_option maxHeartbeats 4000000
section
variable {C:Cfg} (k:Knows C)
include k
theorem openL {r:Rd.Road}(hbig:r.parts.length≤1000∧r.events.length≤1000)(n:Nat):OpenC (Ev.call C (n+4)) (Ev.call C (n+3)) r:=by
  intro H F is hF
  obtain ⟨x,hp,tc,H',c1,⟨rfl,c2⟩,c5,c6,c7⟩:=zfr (n:=n+3) (first:=[]) (captured:=[]) (args:=[.agg (roadCs r),F]) (H:=H) k.calm k.open_ (le' rfl)
    (zwf C k.calm _ (mustL k (n+2)) (isSpanL k (n+2)) (withinL k (n+2)) r (fun _=>isPartL k hbig.1 (n+1)) ⟨by omega,by omega⟩ H F is hF)
  rcases c2 with ⟨h1,rfl⟩|⟨h1,h2,rfl⟩|⟨h1,h2,xb,mb,eb,rfl,h3,h4,h5,h6,h7⟩
  · exact .inl ⟨h1,by rw[c7 rfl rfl] at c1;exact c1⟩
  · exact .inr (.inl ⟨h1,h2,by rw[c7 rfl rfl] at c1;exact c1⟩)
  · have he:=lft_eq (v:=.ptr xb 0) c5 h3 c6 (.inl (by simp[refs]))
    subst he
    exact .inr (.inr ⟨h1,h2,H',xb,mb,eb,c1,h3,h4,h5,h6,h7⟩)
theorem zep {f n:Nat}{fn:AFunc}{args:List AV}{v:AV}(h0:Has C f fn)(hlen:([]++args++[]).length≤fn.ntmps)(hv:refs v=[])
    (h:Does (ev C (Ev.call C n) ([]:List AB).length Option.none fn.body { tm:=tmA fn.ntmps (zipI 0 args []),df:=[],hp:=[],tc:=[] }) (Fin C ([]:List AB).length fn (Ans v))):Ev.call C (n+1) (.fn (.func f) [] []) args []=Option.some (.ret v,[],[]):=by
  obtain ⟨x,hp,tc,H',c1,⟨rfl,rfl⟩,_,_,c7⟩:=zfr (n:=n) (first:=[]) (captured:=[]) (args:=args) (H:=[]) k.calm h0 hlen (by simpa using h)
  rw[c1,c7 hv rfl]
variable {r:Rd.Road} (hbig:r.parts.length≤1000∧r.events.length≤1000)
include hbig
theorem headL (n:Nat)(H:List AB)(F:AV)(is:Bool)(hF:IsFn (Ev.call C (n+r.events.length+16)) r F is H):HeadQ (Ev.call C (n+r.events.length+17)) r H F is:=by
  have h1:=openL k hbig (n+r.events.length+13)
  exact ycy h1 (fun hv => by
    have h2:=knownL k ((Rd.valid_iff r).1 hv) (n+4)
    rw[show n+4+r.events.length+13=n+r.events.length+17 by omega] at h2
    exact h2) H F is hF
theorem heightE (n:Nat)(num evn:Int)(he:-9223372036854775808≤evn∧evn≤9223372036854775807):Ev.call C (n+r.events.length+18) (.fn (.func 14) [] []) [.agg (roadCs r),.int .i64 num,.int .i64 evn] []=some (.ret (spanRV r (Rd.isPart r num&&Rd.isEvent r evn) (Rd.heightsR r num.toNat (evn.toNat+1))),[],[]):=
  zep k k.eHeight (le' rfl) rfl (zoz C _ (Ev.call C (n + r.events.length + 16)) r k.dfHeight (fun H F is h => headL k hbig n H F is h) (fun hv => by
    have h2:=heightsL k ((Rd.valid_iff r).1 hv) (n+3)
    rw[show n+3+r.events.length+14=n+r.events.length+17 by omega] at h2
    exact h2) num evn he (fun hv G xb mb eb hG hX=>
      zay (first:=[]) (captured:=[.ptr 1 0,.ptr 2 0]) k.calm k.height2 (le' rfl) rfl (zpa C _ r (isPartL k hbig.1 (n+r.events.length+13)) (isEventL k hbig.2 (n+r.events.length+13)) G xb mb eb hX num evn 1 2 (hG.at rfl (by simp)) (hG.at rfl (by simp)))))
theorem sinksE (n:Nat)(num load:Int):Ev.call C (n+r.events.length+18) (.fn (.func 15) [] []) [.agg (roadCs r),.int .i64 num,.int .i64 load] []=some (.ret (spanRV r (Rd.isPart r num&&Rd.isLoad load) (Rd.sinksR r num.toNat load)),[],[]):=
  zep k k.eSinks (le' rfl) rfl (zsc C _ (Ev.call C (n + r.events.length + 16)) (Ev.call C (n + 11)) r k.dfSinks (fun H F is h => headL k hbig n H F is h) (fun hv => by
    have h2:=spanL k ((Rd.valid_iff r).1 hv) (n+4)
    rw[show n+4+r.events.length+13=n+r.events.length+17 by omega] at h2
    exact h2) (sinks3L k (n+9)) num load (fun hv G xb mb eb hG hX=>
      zay (first:=[]) (captured:=[.ptr 1 0,.ptr 2 0]) k.calm k.sinks2 (le' rfl) rfl (zse C _ r (isPartL k hbig.1 (n+r.events.length+13)) (isLoadL k (n+r.events.length+13)) G xb mb eb hX num load 1 2 (hG.at rfl (by simp)) (hG.at rfl (by simp)))))
theorem bearsE (n:Nat)(load:Int):Ev.call C (n+r.events.length+18) (.fn (.func 16) [] []) [.agg (roadCs r),.int .i64 load] []=some (.ret (numRV r (Rd.isLoad load) (Rd.bearsR r load)),[],[]):=
  zep k k.eBears (le' rfl) rfl (zuh C _ (Ev.call C (n + r.events.length + 16)) r k.dfBears (fun H F is h => headL k hbig n H F is h) (fun hv => by
    have h2:=sureL k ((Rd.valid_iff r).1 hv) (n+4)
    rw[show n+4+r.events.length+13=n+r.events.length+17 by omega] at h2
    exact h2) (fun hv=>by
    have h2:=mayL k ((Rd.valid_iff r).1 hv) (n+4)
    rw[show n+4+r.events.length+13=n+r.events.length+17 by omega] at h2
    exact h2) load (fun hv G xb mb eb hG hX=>
      zay (first:=[]) (captured:=[.ptr 1 0]) k.calm k.bears2 (le' rfl) rfl (zui C _ (isLoadL k (n+r.events.length+13)) G _ load 1 (hG.at rfl (by simp)))))
theorem mostE (n:Nat):Ev.call C (n+r.events.length+18) (.fn (.func 19) [] []) [.agg (roadCs r)] []=some (.ret (findRV r true (Rd.mostR r)),[],[]):=
  zep k k.eMost (le' rfl) rfl (zwx C _ (Ev.call C (n+r.events.length+16)) (Ev.call C (n+r.events.length+14)) r k.dfMost (fun H F is h=>headL k hbig n H F is h) (countNL k _) (fun _=>firstNL k n) (fun hv=>most2L k ((Rd.valid_iff r).1 hv) n) (fun _hv G _xb _mb _eb _hG _hX=>alwaysL k _ G _))
theorem restE (n:Nat)(load:Int):Ev.call C (n+r.events.length+18) (.fn (.func 17) [] []) [.agg (roadCs r),.int .i64 load] []=some (.ret (findRV r (Rd.isLoad load) (Rd.restR r load)),[],[]):=
  zep k k.eRest (le' rfl) rfl (zvv C _ (Ev.call C (n + r.events.length + 16)) (Ev.call C (n + r.events.length + 14)) r k.dfRest (fun H F is h => headL k hbig n H F is h) (countNL k _) (fun _ => firstNL k n) (fun hv => rest3L k ((Rd.valid_iff r).1 hv) n) load (fun hv G xb mb eb hG hX =>
      zay (first:=[]) (captured:=[.ptr 1 0]) k.calm k.rest2 (le' rfl) rfl (zvy C _ (isLoadL k (n+r.events.length+13)) G _ load 1 (hG.at rfl (by simp)))))
theorem weakE (n:Nat):Ev.call C (n+r.events.length+18) (.fn (.func 34) [] []) [.agg (roadCs r)] []=some (.ret (numRV r true (Rd.weakR r)),[],[]):=
  zep k k.eWeak (le' rfl) rfl (zur C k.calm _ (Ev.call C (n + r.events.length + 16)) r k.dfWeak (fun H F is h => headL k hbig n H F is h) (fun hv => by
    have h2:=heightsL k ((Rd.valid_iff r).1 hv) (n+3)
    rw[show n+3+r.events.length+14=n+r.events.length+17 by omega] at h2
    exact h2) (fun hv G xb mb eb hG hX=>alwaysL k _ G _))
theorem belowE (n:Nat):Ev.call C (n+r.events.length+18) (.fn (.func 26) [] []) [.agg (roadCs r)] []=some (.ret (belowRV r),[],[]):=
  zep k k.eBelow (le' rfl) rfl (zug C k.calm k.wh (n + 12) _ (Ev.call C (n + r.events.length + 16)) r k.dfBelow (fun H F is h => headL k hbig n H F is h) (toldNL k _) (fun hv => by
    have h2:=toldIL k ((Rd.valid_iff r).1 hv) (n+6)
    rw[show n+6+r.events.length+11=n+r.events.length+17 by omega] at h2
    exact h2) (fun hv=>everyL k ((Rd.valid_iff r).1 hv) _) (fun hv=>everyL k ((Rd.valid_iff r).1 hv) _) (fun hv=>waysL k ((Rd.valid_iff r).1 hv) (n+5)) (fun hv=>heightL k ((Rd.valid_iff r).1 hv) (n+9)) (fun hv G xb mb eb hG hX=>alwaysL k _ G _))
end
end Ro
end Ev
end Go.Proofs.Ytlcjlcllbgjplaa

/- Chapter 05, gone through: the reference's check of roads. -/
namespace Go.Proofs.Ytlcjlcllbgjplaa
open Go
namespace Ev
namespace Ro
open K
attribute [local simp] ev1 wantG spineK spine float xnew xval xeff zaa zar zbe zax zaw addFl cellsOf pickC alive slLen slFt binI maxA maxK minA minK aeqK aeqS AV.cells spA zat fillA setAt bitsI nat_nn zbf AV.plain apart
set_option maxRecDepth 100000
set_option maxHeartbeats 4000000
theorem ycb (C:Cfg)(call:CallF)(H:List AB)(n a b:Int):Does (ev C call H.length none af74.body { tm:=tmA af74.ntmps (zipI 0 [.int .i64 n,.int .i64 a,.int .i64 b] []),df:=[],hp:=H,tc:=[] })
    (Ends C H.length af74.res fun v _hp tc=>v=.bool (decide (a≤n∧n≤b))∧tc=[]):=by
  unfold af74 Zq Zm Zo Zt
  simp only[zipI]
  by_cases h:a≤n
  · (repeat (first|(with_reducible apply zah;(focus ((conv=>lhs;simp[*,Nat.testBit_eq_decide_div_mod_eq])<;>exact rfl));simp only[addFl])|((with_reducible first|apply zai|apply zak|apply zag|apply zae|apply zac|apply zaj|apply zaf|apply zam|(apply zad;· simp[*,zaa])|(apply zab;· simp[*,zaa]));try simp only[Then,Ops])|simp only[Nat.reduceEqDiff,reduceIte,OutB,Then]))
    exact zan (v:=.bool (decide (n≤b))) (.inl rfl) rfl (by simp) (by simp only[resL,resOf,zal];simp[*,resV]) ⟨by simp[h],rfl⟩
  · (repeat (first|(with_reducible apply zah;(focus ((conv=>lhs;simp[*,Nat.testBit_eq_decide_div_mod_eq])<;>exact rfl));simp only[addFl])|((with_reducible first|apply zai|apply zak|apply zag|apply zae|apply zac|apply zaj|apply zaf|apply zam|(apply zad;· simp[*,zaa])|(apply zab;· simp[*,zaa]));try simp only[Then,Ops])|simp only[Nat.reduceEqDiff,reduceIte,OutB,Then]))
    exact zan (v:=.bool false) (.inl rfl) rfl (by simp) (by simp only[resL,resOf,zal];simp[*,resV]) ⟨by simp[h],rfl⟩
def RinC (call:CallF):Prop:=∀ (H:List AB) (n a b:Int),call (.fn (.func 74) [] []) [.int .i64 n,.int .i64 a,.int .i64 b] H=some (.ret (.bool (decide (a≤n∧n≤b))),H,[])
theorem zvq (C:Cfg)(call:CallF)(H:List AB)(s:Clm.Sp)(a b w:Int)(h0:-1000≤a)(hb:b≤1000):Does (ev C call H.length none af75.body { tm:=tmA af75.ntmps (zipI 0 [spA s,.int .i64 a,.int .i64 b,.int .i64 w] []),df:=[],hp:=H,tc:=[] })
    (Ends C H.length af75.res fun v _hp tc=>v=.bool (Rd.isSpan s a b w)∧tc=[]):=by
  by_cases h1:a≤s.lo
  · by_cases h2:s.lo≤s.hi
    · by_cases h3:s.hi≤b
      · have w1:IntKind.i64.wrap (s.hi - s.lo)=s.hi - s.lo:=zau (by omega) (by omega)
        clear h0 hb
        have e:Rd.isSpan s a b w=decide (s.hi - s.lo≤w):=by simp[Rd.isSpan,h1,h2,h3]
        rw[e];clear e
        unfold af75 Zq Zm Zl Zo Zt
        simp only[zipI,spA]
        (repeat (first|(with_reducible apply zah;(focus ((conv=>lhs;simp[*,Nat.testBit_eq_decide_div_mod_eq])<;>exact rfl));simp only[addFl])|((with_reducible first|apply zai|apply zak|apply zag|apply zae|apply zac|apply zaj|apply zaf|apply zam|(apply zad;· simp[*,zaa])|(apply zab;· simp[*,zaa]));try simp only[Then,Ops])|simp only[Nat.reduceEqDiff,reduceIte,OutB,Then]))
        exact zan (v:=.bool (decide (s.hi - s.lo≤w))) (.inl rfl) rfl (by simp) (by simp only[resL,resOf,zal];simp[*,resV]) ⟨rfl,by simp⟩
      · clear h0 hb
        have e:Rd.isSpan s a b w=false:=by simp[Rd.isSpan,h3]
        rw[e];clear e
        unfold af75 Zq Zm Zl Zo Zt
        simp only[zipI,spA]
        (repeat (first|(with_reducible apply zah;(focus ((conv=>lhs;simp[*,Nat.testBit_eq_decide_div_mod_eq])<;>exact rfl));simp only[addFl])|((with_reducible first|apply zai|apply zak|apply zag|apply zae|apply zac|apply zaj|apply zaf|apply zam|(apply zad;· simp[*,zaa])|(apply zab;· simp[*,zaa]));try simp only[Then,Ops])|simp only[Nat.reduceEqDiff,reduceIte,OutB,Then]))
        exact zan (v:=.bool false) (.inl rfl) rfl (by simp) (by simp only[resL,resOf,zal];simp[*,resV]) ⟨rfl,by simp⟩
    · clear h0 hb
      have e:Rd.isSpan s a b w=false:=by simp[Rd.isSpan,h2]
      rw[e];clear e
      unfold af75 Zq Zm Zl Zo Zt
      simp only[zipI,spA]
      (repeat (first|(with_reducible apply zah;(focus ((conv=>lhs;simp[*,Nat.testBit_eq_decide_div_mod_eq])<;>exact rfl));simp only[addFl])|((with_reducible first|apply zai|apply zak|apply zag|apply zae|apply zac|apply zaj|apply zaf|apply zam|(apply zad;· simp[*,zaa])|(apply zab;· simp[*,zaa]));try simp only[Then,Ops])|simp only[Nat.reduceEqDiff,reduceIte,OutB,Then]))
      exact zan (v:=.bool false) (.inl rfl) rfl (by simp) (by simp only[resL,resOf,zal];simp[*,resV]) ⟨rfl,by simp⟩
  · clear h0 hb
    have e:Rd.isSpan s a b w=false:=by simp[Rd.isSpan,h1]
    rw[e];clear e
    unfold af75 Zq Zm Zl Zo Zt
    simp only[zipI,spA]
    (repeat (first|(with_reducible apply zah;(focus ((conv=>lhs;simp[*,Nat.testBit_eq_decide_div_mod_eq])<;>exact rfl));simp only[addFl])|((with_reducible first|apply zai|apply zak|apply zag|apply zae|apply zac|apply zaj|apply zaf|apply zam|(apply zad;· simp[*,zaa])|(apply zab;· simp[*,zaa]));try simp only[Then,Ops])|simp only[Nat.reduceEqDiff,reduceIte,OutB,Then]))
    exact zan (v:=.bool false) (.inl rfl) rfl (by simp) (by simp only[resL,resOf,zal];simp[*,resV]) ⟨rfl,by simp⟩
def RspanC (call:CallF):Prop:=∀ (H:List AB) (s:Clm.Sp) (a b w:Int),-1000≤a→b≤1000→call (.fn (.func 75) [] []) [.agg [.int .i64 s.lo,.int .i64 s.hi],.int .i64 a,.int .i64 b,.int .i64 w] H=some (.ret (.bool (Rd.isSpan s a b w)),H,[])
theorem zvs (C:Cfg)(call:CallF)(hI:RinC call)(r:Rd.Road)(hr:r.parts.length≤1000000)(H:List AB)(n:Int):Does (ev C call H.length none af96.body { tm:=tmA af96.ntmps (zipI 0 [.agg (roadCs r),.int .i64 n] []),df:=[],hp:=H,tc:=[] })
    (Ends C H.length af96.res fun v _hp tc=>v=.bool (Rd.isPart r n)∧tc=[]):=by
  have hw:IntKind.i64.wrap ((r.parts.length:Int) - 1)=(r.parts.length:Int) - 1:=zau (by omega) (by omega)
  have e:Rd.isPart r n=decide (0≤n∧n≤(r.parts.length:Int) - 1):=by unfold Rd.isPart;congr 1;simp;omega
  have hW':=fun H=>hI H n 0 ((r.parts.length:Int) - 1)
  rw[e]
  generalize decide (0≤n∧n≤(r.parts.length:Int) - 1)=b at *
  clear hI e hr
  unfold af96 Zq Zm Zl Zo Zc Zt Zn
  simp only[zipI,roadCs] at *
  (repeat (first|(with_reducible apply zah;(focus ((conv=>lhs;simp[*,Nat.testBit_eq_decide_div_mod_eq])<;>exact rfl));simp only[addFl])|((with_reducible first|apply zai|apply zak|apply zag|apply zae|apply zac|apply zaj|apply zaf|apply zam|(apply zad;· simp[*,zaa])|(apply zab;· simp[*,zaa]));try simp only[Then,Ops])|simp only[Nat.reduceEqDiff,reduceIte,OutB,Then]))
  exact zan (v:=.bool b) (.inl rfl) rfl (by simp) (by simp only[resL,resOf,zal];simp[*,resV]) ⟨rfl,rfl⟩
def RpartC (call:CallF)(r:Rd.Road):Prop:=∀ (H:List AB) (n:Int),call (.fn (.func 96) [] []) [.agg (roadCs r),.int .i64 n] H=some (.ret (.bool (Rd.isPart r n)),H,[])
theorem zsg (C:Cfg)(call:CallF)(r:Rd.Road)(hI:RinC call)(hP:RpartC call r)(hS:RspanC call)(H:List AB)(v:Rd.Evt):Does (ev C call H.length none af76.body { tm:=tmA af76.ntmps (zipI 0 [.agg (roadCs r),evE v] []),df:=[],hp:=H,tc:=[] })
    (Ends C H.length af76.res fun w _hp tc=>w=.bool (Rd.okEvt r v)∧tc=[]):=by
  have hp:=fun H=>hP H v.part
  have h0:=fun H=>hS H v.load 0 60 2 (by decide) (by decide)
  have h1:=fun H=>hI H v.days 1 10
  have h2:=fun H=>hS H v.shows (-1000) 1000 2000 (by decide) (by decide)
  have hev:Rd.okEvt r v=if v.kind=0 then Rd.isSpan v.load 0 60 2 else if v.kind=1 then decide (1≤v.days∧v.days≤10) else decide (v.kind=2)&&Rd.isPart r v.part&&Rd.isSpan v.shows (-1000) 1000 2000:=rfl
  rw[hev]
  clear hP hS hev hI
  generalize decide (1≤v.days∧v.days≤10)=b1 at *
  generalize Rd.isSpan v.load 0 60 2=b0 at *
  generalize Rd.isSpan v.shows (-1000) 1000 2000=b2 at *
  unfold af76 Zq Zm Zl Zo Zc Zt Zn
  simp only[zipI,roadCs,evE] at *
  by_cases k0:v.kind=0
  · rw[if_pos k0]
    (repeat (first|(with_reducible apply zah;(focus ((conv=>lhs;simp[*,Nat.testBit_eq_decide_div_mod_eq])<;>exact rfl));simp only[addFl])|((with_reducible first|apply zai|apply zak|apply zag|apply zae|apply zac|apply zaj|apply zaf|apply zam|(apply zad;· simp[*,zaa])|(apply zab;· simp[*,zaa]));try simp only[Then,Ops,OutB])|simp only[Nat.reduceEqDiff,reduceIte,OutB,Then]))
    exact zan (v:=.bool b0) (.inl rfl) rfl (by simp) (by simp only[resL,resOf,zal];simp[*,resV]) ⟨rfl,rfl⟩
  · have k0':=beq_false_of_ne k0
    rw[if_neg k0]
    by_cases k1:v.kind=1
    · rw[if_pos k1]
      (repeat (first|(with_reducible apply zah;(focus ((conv=>lhs;simp[*,Nat.testBit_eq_decide_div_mod_eq])<;>exact rfl));simp only[addFl])|((with_reducible first|apply zai|apply zak|apply zag|apply zae|apply zac|apply zaj|apply zaf|apply zam|(apply zad;· simp[*,zaa])|(apply zab;· simp[*,zaa]));try simp only[Then,Ops,OutB])|simp only[Nat.reduceEqDiff,reduceIte,OutB,Then]))
      exact zan (v:=.bool b1) (.inl rfl) rfl (by simp) (by simp only[resL,resOf,zal];simp[*,resV]) ⟨rfl,rfl⟩
    · have k1':=beq_false_of_ne k1
      rw[if_neg k1]
      by_cases k2:v.kind=2
      · rw[decide_eq_true k2,Bool.true_and]
        cases hb:Rd.isPart r v.part with
        |false=>
          rw[hb] at hp
          (repeat (first|(with_reducible apply zah;(focus ((conv=>lhs;simp[*,Nat.testBit_eq_decide_div_mod_eq])<;>exact rfl));simp only[addFl])|((with_reducible first|apply zai|apply zak|apply zag|apply zae|apply zac|apply zaj|apply zaf|apply zam|(apply zad;· simp[*,zaa])|(apply zab;· simp[*,zaa]));try simp only[Then,Ops,OutB])|simp only[Nat.reduceEqDiff,reduceIte,OutB,Then]))
          exact zan (v:=.bool false) (.inl rfl) rfl (by simp) (by simp only[resL,resOf,zal];simp[*,resV]) ⟨rfl,rfl⟩
        |true=>
          rw[hb] at hp
          (repeat (first|(with_reducible apply zah;(focus ((conv=>lhs;simp[*,Nat.testBit_eq_decide_div_mod_eq])<;>exact rfl));simp only[addFl])|((with_reducible first|apply zai|apply zak|apply zag|apply zae|apply zac|apply zaj|apply zaf|apply zam|(apply zad;· simp[*,zaa])|(apply zab;· simp[*,zaa]));try simp only[Then,Ops,OutB])|simp only[Nat.reduceEqDiff,reduceIte,OutB,Then]))
          exact zan (v:=.bool b2) (.inl rfl) rfl (by simp) (by simp only[resL,resOf,zal];simp[*,resV]) ⟨rfl,rfl⟩
      · have k2':=beq_false_of_ne k2
        (repeat (first|(with_reducible apply zah;(focus ((conv=>lhs;simp[*,Nat.testBit_eq_decide_div_mod_eq])<;>exact rfl));simp only[addFl])|((with_reducible first|apply zai|apply zak|apply zag|apply zae|apply zac|apply zaj|apply zaf|apply zam|(apply zad;· simp[*,zaa])|(apply zab;· simp[*,zaa]));try simp only[Then,Ops,OutB])|simp only[Nat.reduceEqDiff,reduceIte,OutB,Then]))
        exact zan (v:=.bool false) (.inl rfl) rfl (by simp) (by simp only[resL,resOf,zal];simp[*,resV]) ⟨by simp[k2],rfl⟩
def ReventC (call:CallF)(r:Rd.Road):Prop:=∀ (H:List AB) (v:Rd.Evt),call (.fn (.func 76) [] []) [.agg (roadCs r),evE v] H=some (.ret (.bool (Rd.okEvt r v)),H,[])
theorem zvr (C:Cfg)(hC:C.calm=true)(call:CallF)(r:Rd.Road)(hbig:r.parts.length≤1000∧r.events.length≤1000)(hI:RinC call)(hS:RspanC call)(hE:ReventC call r)(H:List AB):Does (ev C call H.length none af23.body { tm:=tmA af23.ntmps (zipI 0 [.agg (roadCs r)] []),df:=[],hp:=H,tc:=[] })
    (Ends C H.length af23.res fun w _hp tc=>w=.bool (Rd.valid r)∧tc=[]):=by
  have hw1:=fun H=>hI H (r.parts.length:Int) 1 4
  have e1:decide ((1:Int)≤r.parts.length∧(r.parts.length:Int)≤4)=decide (1≤r.parts.length∧r.parts.length≤4):=by congr 1;simp;omega
  rw[e1] at hw1
  have hhead:headOk r=(decide (1≤r.parts.length∧r.parts.length≤4)&&decide (r.events.length≤10)):=rfl
  have hv:=zqa r
  rw[hhead] at hv
  have HH:=hideP (And.intro hS (And.intro hI hE))
  rw[hv]
  clear e1 hhead hI hE hS hv
  unfold af23 Zq Zm Zl Zo Zs Zc Zt Zn Zi
  simp only[zipI,roadCs] at *
  cases h1:decide (1≤r.parts.length∧r.parts.length≤4) with
  |false=>
    rw[h1] at hw1
    clear h1
    (repeat (first|(with_reducible apply zah;(focus ((conv=>lhs;simp[*,Nat.testBit_eq_decide_div_mod_eq])<;>exact rfl));simp only[addFl])|((with_reducible first|apply zai|apply zak|apply zag|apply zae|apply zac|apply zaj|apply zaf|apply zam|(apply zad;· simp[*,zaa])|(apply zab;· simp[*,zaa]));try simp only[Then,Ops])|simp only[Nat.reduceEqDiff,reduceIte,OutB,Then]))
    exact zan (v:=.bool false) (.inl rfl) rfl (by simp) (by simp only[resL,resOf,zal];simp[*,resV]) ⟨by simp,rfl⟩
  |true=>
    rw[h1] at hw1
    have h1:=of_decide_eq_true h1
    by_cases h3:r.events.length≤10
    · have h3':¬ (10:Int)<r.events.length:=by omega
      rw[decide_eq_true h3]
      simp only[Bool.true_and]
      (repeat (first|(with_reducible apply zah;(focus ((conv=>lhs;simp[*,Nat.testBit_eq_decide_div_mod_eq])<;>exact rfl));simp only[addFl])|((with_reducible first|apply zai|apply zak|apply zag|apply zae|apply zac|apply zaj|apply zaf|apply zam|(apply zad;· simp[*,zaa])|(apply zab;· simp[*,zaa]));try simp only[Then,Ops])|simp only[Nat.reduceEqDiff,reduceIte,OutB,Then]))
      clear hw1
      have hp1:=hbig.1
      with_reducible refine zaz hC r.parts.length (by unfold fuelL;omega) (fun i st=>∃ J,(∀ j p,j<i→r.parts[j]?=some p→Rd.okPart p=true)∧st={ tm:=tmA 87 [(3,.int .i64 i),(1,.ptr H.length 0)],df:=[],hp:=H++.cells [.vs 7 (r.parts.map ptE),.vs 7 (r.events.map evE)]::J,tc:=[] }) ?_ ?_ ?_
      · refine ⟨[],by simp,?_⟩
        (refine st_is ?_ ?_ ?_ ?_;(focus (simp[zao,zaq]));(focus rfl);(focus (first|rfl|(simp;done)|(simp[*];done)|(simp;rfl)|(simp[*];omega)|(simp;omega)));(focus (first|rfl|simp)))
      · rintro i st hi ⟨J,hok,rfl⟩
        obtain ⟨hS,hI,_⟩:=HH.out
        have hgp:r.parts[i]?=some r.parts[i]:=List.getElem?_eq_getElem hi
        generalize r.parts[i]=p at hgp
        have hgp':=ge_of hgp
        have hwi:IntKind.i64.wrap (↑i+1)=↑i+1:=zau (by omega) (by omega)
        have hnext:Rd.okPart p=true→∀ j q,j<i+1→r.parts[j]?=some q→Rd.okPart q=true:=by
          intro ho j q hj hq
          by_cases h:j=i
          · subst h;rw[hgp] at hq;cases hq;exact ho
          · exact hok j q (by omega) hq
        have hbad:Rd.okPart p=false→r.parts.all Rd.okPart=false:=fun h=>by
          rw[List.all_eq_false]
          exact ⟨p,List.mem_of_getElem? hgp,by rw[h];decide⟩
        have hpo:Rd.okPart p=(decide (0≤p.full∧p.full≤60)&&Rd.isSpan p.height 0 p.full 2&&Rd.isSpan p.stiff 1 10 2&&Rd.isSpan p.rise 0 5 2):=rfl
        have q0:=fun H=>hI H p.full 0 60
        have HN:=hideP (And.intro hnext hbad)
        clear hnext hbad hok hgp hI
        cases b0:decide (0≤p.full∧p.full≤60) with
        |false=>
          rw[b0] at q0 hpo
          have HP:=hideP (HN.out.2 (by rw[hpo];rfl))
          clear hpo b0 hS
          (repeat (first|(with_reducible apply zah;(focus ((conv=>lhs;simp[*,ptE,Nat.testBit_eq_decide_div_mod_eq])<;>exact rfl));simp only[addFl])|((with_reducible first|apply zai|apply zak|apply zag|apply zae|apply zac|apply zaj|apply zaf|apply zam|(apply zad;· simp[*,zaa])|(apply zab;· simp[*,zaa]));try simp only[Then,Ops,OutB])|simp only[Nat.reduceEqDiff,reduceIte,OutB,Then]))
          exact zan (v:=.bool false) (.inl rfl) rfl (by simp) (by simp only[resL,resOf,zal];simp[*,resV]) ⟨by rw[HP.out];rfl,by simp⟩
        |true=>
          rw[b0] at q0 hpo
          have hf60:=of_decide_eq_true b0
          have q1:=fun H=>hS H p.height 0 p.full 2 (by decide) (by omega)
          have q2:=fun H=>hS H p.stiff 1 10 2 (by decide) (by decide)
          have q3:=fun H=>hS H p.rise 0 5 2 (by decide) (by decide)
          clear hS hf60 b0
          cases b1:Rd.isSpan p.height 0 p.full 2 with
          |false=>
            rw[b1] at q1 hpo
            have HP:=hideP (HN.out.2 (by rw[hpo];rfl))
            clear hpo b1
            (repeat (first|(with_reducible apply zah;(focus ((conv=>lhs;simp[*,ptE,Nat.testBit_eq_decide_div_mod_eq])<;>exact rfl));simp only[addFl])|((with_reducible first|apply zai|apply zak|apply zag|apply zae|apply zac|apply zaj|apply zaf|apply zam|(apply zad;· simp[*,zaa])|(apply zab;· simp[*,zaa]));try simp only[Then,Ops,OutB])|simp only[Nat.reduceEqDiff,reduceIte,OutB,Then]))
            exact zan (v:=.bool false) (.inl rfl) rfl (by simp) (by simp only[resL,resOf,zal];simp[*,resV]) ⟨by rw[HP.out];rfl,by simp⟩
          |true=>
            rw[b1] at q1 hpo
            cases b2:Rd.isSpan p.stiff 1 10 2 with
            |false=>
              rw[b2] at q2 hpo
              have HP:=hideP (HN.out.2 (by rw[hpo];rfl))
              clear hpo b1 b2
              (repeat (first|(with_reducible apply zah;(focus ((conv=>lhs;simp[*,ptE,Nat.testBit_eq_decide_div_mod_eq])<;>exact rfl));simp only[addFl])|((with_reducible first|apply zai|apply zak|apply zag|apply zae|apply zac|apply zaj|apply zaf|apply zam|(apply zad;· simp[*,zaa])|(apply zab;· simp[*,zaa]));try simp only[Then,Ops,OutB])|simp only[Nat.reduceEqDiff,reduceIte,OutB,Then]))
              exact zan (v:=.bool false) (.inl rfl) rfl (by simp) (by simp only[resL,resOf,zal];simp[*,resV]) ⟨by rw[HP.out];rfl,by simp⟩
            |true=>
              rw[b2] at q2 hpo
              cases b3:Rd.isSpan p.rise 0 5 2 with
              |false=>
                rw[b3] at q3 hpo
                have HP:=hideP (HN.out.2 (by rw[hpo];rfl))
                clear hpo b1 b2 b3
                (repeat (first|(with_reducible apply zah;(focus ((conv=>lhs;simp[*,ptE,Nat.testBit_eq_decide_div_mod_eq])<;>exact rfl));simp only[addFl])|((with_reducible first|apply zai|apply zak|apply zag|apply zae|apply zac|apply zaj|apply zaf|apply zam|(apply zad;· simp[*,zaa])|(apply zab;· simp[*,zaa]));try simp only[Then,Ops,OutB])|simp only[Nat.reduceEqDiff,reduceIte,OutB,Then]))
                exact zan (v:=.bool false) (.inl rfl) rfl (by simp) (by simp only[resL,resOf,zal];simp[*,resV]) ⟨by rw[HP.out];rfl,by simp⟩
              |true=>
                rw[b3] at q3 hpo
                have HP:=hideP (HN.out.1 (by rw[hpo];rfl))
                clear hpo b1 b2 b3
                (repeat (first|(with_reducible apply zah;(focus ((conv=>lhs;simp[*,ptE,Nat.testBit_eq_decide_div_mod_eq])<;>exact rfl));simp only[addFl])|((with_reducible first|apply zai|apply zak|apply zag|apply zae|apply zac|apply zaj|apply zaf|apply zam|(apply zad;· simp[*,zaa])|(apply zab;· simp[*,zaa]));try simp only[Then,Ops,OutB])|simp only[Nat.reduceEqDiff,reduceIte,OutB,Then]))
                with_reducible refine ⟨?_,HP.out,?_⟩
                rotate_left
                (refine st_is ?_ ?_ ?_ ?_;(focus (simp[zao,zaq]));(focus rfl);(focus (first|rfl|(simp;done)|(simp[*];done)|(simp;rfl)|(simp[*];omega)|(simp;omega)));(focus (first|rfl|simp)))
      · rintro st ⟨J,hok,rfl⟩
        have hall:r.parts.all Rd.okPart=true:=by
          rw[List.all_eq_true]
          intro p hp
          obtain ⟨j,hj⟩:=List.mem_iff_getElem?.1 hp
          exact hok j p (List.getElem?_eq_some_iff.1 hj).1 hj
        rw[hall]
        simp only[Bool.true_and]
        clear hall hok
        (repeat (first|(with_reducible apply zah;(focus ((conv=>lhs;simp[*,Nat.testBit_eq_decide_div_mod_eq])<;>exact rfl));simp only[addFl])|((with_reducible first|apply zai|apply zak|apply zag|apply zae|apply zac|apply zaj|apply zaf|apply zam|(apply zad;· simp[*,zaa])|(apply zab;· simp[*,zaa]));try simp only[Then,Ops,OutB,reduceIte])|simp only[Nat.reduceEqDiff,reduceIte,OutB,Then]))
        have he10:(r.events.length:Int)≤1000:=by omega
        with_reducible refine zaz hC r.events.length (by unfold fuelL;omega) (fun i st=>∃ J,(∀ j p,j<i→r.events[j]?=some p→Rd.okEvt r p=true)∧st={ tm:=tmA 87 [(6,.int .i64 i),(5,.int .i64 ((r.events.take i).filter Rd.doubt).length),(1,.ptr H.length 0)],df:=[],hp:=H++.cells [.vs 7 (r.parts.map ptE),.vs 7 (r.events.map evE)]::J,tc:=[] }) ?_ ?_ ?_
        · refine ⟨J,fun j p hj=>absurd hj (Nat.not_lt_zero _),?_⟩
          (refine st_is ?_ ?_ ?_ ?_;(focus (simp[zao,zaq]));(focus rfl);(focus (first|rfl|(simp;done)|(simp[*];done)|(simp;rfl)|(simp[*];omega)|(simp;omega)));(focus (first|rfl|simp)))
        · rintro i st hi ⟨J,hok,rfl⟩
          obtain ⟨_,_,hE⟩:=HH.out
          have hgp:r.events[i]?=some r.events[i]:=List.getElem?_eq_getElem hi
          generalize r.events[i]=p at hgp
          have hgp':=ge_of hgp
          have hwi:IntKind.i64.wrap (↑i+1)=↑i+1:=zau (by omega) (by omega)
          have hnext:Rd.okEvt r p=true→∀ j q,j<i+1→r.events[j]?=some q→Rd.okEvt r q=true:=by
            intro ho j q hj hq
            by_cases h:j=i
            · subst h;rw[hgp] at hq;cases hq;exact ho
            · exact hok j q (by omega) hq
          have hbad:Rd.okEvt r p=false→r.events.all (Rd.okEvt r)=false:=fun h=>by
            rw[List.all_eq_false]
            exact ⟨p,List.mem_of_getElem? hgp,by rw[h];decide⟩
          have hds:=zku hgp
          have hdl:((r.events.take i).filter Rd.doubt).length≤i:=Nat.le_trans (List.length_filter_le _ _) (by simp;omega)
          rw[hds]
          generalize ((r.events.take i).filter Rd.doubt).length=many at *
          have hwm:IntKind.i64.wrap (↑many+1)=↑many+1:=zau (by omega) (by omega)
          have q0:=fun H=>hE H p
          have HN:=hideP (And.intro hnext hbad)
          simp only[roadCs,evE] at q0
          clear hnext hbad hok hgp hE hdl hds
          cases b0:Rd.okEvt r p with
          |false=>
            rw[b0] at q0
            have HP:=hideP (HN.out.2 b0)
            clear b0
            (repeat (first|(with_reducible apply zah;(focus ((conv=>lhs;simp[*,evE,Nat.testBit_eq_decide_div_mod_eq])<;>exact rfl));simp only[addFl])|((with_reducible first|apply zai|apply zak|apply zag|apply zae|apply zac|apply zaj|apply zaf|apply zam|(apply zad;· simp[*,zaa])|(apply zab;· simp[*,zaa]));try simp only[Then,Ops,OutB])|simp only[Nat.reduceEqDiff,reduceIte,OutB,Then]))
            exact zan (v:=.bool false) (.inl rfl) rfl (by simp) (by simp only[resL,resOf,zal];simp[*,resV]) ⟨by rw[HP.out];rfl,by simp⟩
          |true=>
            rw[b0] at q0
            have HP:=hideP (HN.out.1 b0)
            clear b0
            by_cases k0:p.kind=0
            · rw[k0] at q0
              by_cases k1:p.load.lo<p.load.hi
              · have e:(if Rd.doubt p=true then 1 else 0)=1:=by simp[Rd.doubt,k0,k1]
                rw[e];clear e
                (repeat (first|(with_reducible apply zah;(focus ((conv=>lhs;simp[*,evE,Nat.testBit_eq_decide_div_mod_eq])<;>exact rfl));simp only[addFl])|((with_reducible first|apply zai|apply zak|apply zag|apply zae|apply zac|apply zaj|apply zaf|apply zam|(apply zad;· simp[*,zaa])|(apply zab;· simp[*,zaa]));try simp only[Then,Ops,OutB])|simp only[Nat.reduceEqDiff,reduceIte,OutB,Then]))
                with_reducible refine ⟨?_,HP.out,?_⟩
                rotate_left
                (refine st_is ?_ ?_ ?_ ?_;(focus (simp[zao,zaq]));(focus rfl);(focus (first|rfl|(simp;done)|(simp[*];done)|(simp;rfl)|(simp[*];omega)|(simp;omega)));(focus (first|rfl|simp)))
              · have e:(if Rd.doubt p=true then 1 else 0)=0:=by simp[Rd.doubt,k1]
                rw[e];clear e
                (repeat (first|(with_reducible apply zah;(focus ((conv=>lhs;simp[*,evE,Nat.testBit_eq_decide_div_mod_eq])<;>exact rfl));simp only[addFl])|((with_reducible first|apply zai|apply zak|apply zag|apply zae|apply zac|apply zaj|apply zaf|apply zam|(apply zad;· simp[*,zaa])|(apply zab;· simp[*,zaa]));try simp only[Then,Ops,OutB])|simp only[Nat.reduceEqDiff,reduceIte,OutB,Then]))
                with_reducible refine ⟨?_,HP.out,?_⟩
                rotate_left
                (refine st_is ?_ ?_ ?_ ?_;(focus (simp[zao,zaq]));(focus rfl);(focus (first|rfl|(simp;done)|(simp[*];done)|(simp;rfl)|(simp[*];omega)|(simp;omega)));(focus (first|rfl|simp)))
            · have e:(if Rd.doubt p=true then 1 else 0)=0:=by simp[Rd.doubt,k0]
              have k0':=beq_false_of_ne k0
              rw[e];clear e
              (repeat (first|(with_reducible apply zah;(focus ((conv=>lhs;simp[*,evE,Nat.testBit_eq_decide_div_mod_eq])<;>exact rfl));simp only[addFl])|((with_reducible first|apply zai|apply zak|apply zag|apply zae|apply zac|apply zaj|apply zaf|apply zam|(apply zad;· simp[*,zaa])|(apply zab;· simp[*,zaa]));try simp only[Then,Ops,OutB])|simp only[Nat.reduceEqDiff,reduceIte,OutB,Then]))
              with_reducible refine ⟨?_,HP.out,?_⟩
              rotate_left
              (refine st_is ?_ ?_ ?_ ?_;(focus (simp[zao,zaq]));(focus rfl);(focus (first|rfl|(simp;done)|(simp[*];done)|(simp;rfl)|(simp[*];omega)|(simp;omega)));(focus (first|rfl|simp)))
        · rintro st ⟨J,hok,rfl⟩
          have hall:r.events.all (Rd.okEvt r)=true:=by
            rw[List.all_eq_true]
            intro p hp
            obtain ⟨j,hj⟩:=List.mem_iff_getElem?.1 hp
            exact hok j p (List.getElem?_eq_some_iff.1 hj).1 hj
          rw[hall,List.take_length]
          generalize (r.events.filter Rd.doubt).length=many
          simp only[Bool.true_and]
          clear hall hok
          (repeat (first|(with_reducible apply zah;(focus ((conv=>lhs;simp[*,Nat.testBit_eq_decide_div_mod_eq])<;>exact rfl));simp only[addFl])|((with_reducible first|apply zai|apply zak|apply zag|apply zae|apply zac|apply zaj|apply zaf|apply zam|(apply zad;· simp[*,zaa])|(apply zab;· simp[*,zaa]));try simp only[Then,Ops,OutB,reduceIte])|simp only[Nat.reduceEqDiff,reduceIte,OutB,Then]))
          exact zan (v:=.bool (decide ((many:Int)≤4))) (.inl rfl) rfl (by simp) (by simp only[resL,resOf,zal];simp[*,resV]) ⟨by congr 2;simp;omega,by simp⟩
    · have h3':(10:Int)<r.events.length:=by omega
      (repeat (first|(with_reducible apply zah;(focus ((conv=>lhs;simp[*,Nat.testBit_eq_decide_div_mod_eq])<;>exact rfl));simp only[addFl])|((with_reducible first|apply zai|apply zak|apply zag|apply zae|apply zac|apply zaj|apply zaf|apply zam|(apply zad;· simp[*,zaa])|(apply zab;· simp[*,zaa]));try simp only[Then,Ops])|simp only[Nat.reduceEqDiff,reduceIte,OutB,Then]))
      exact zan (v:=.bool false) (.inl rfl) rfl (by simp) (by simp only[resL,resOf,zal];simp[*,resV]) ⟨by simp[h3],by simp⟩
end Ro
end Ev
end Go.Proofs.Ytlcjlcllbgjplaa

/- What the evaluator is told of the program: deferred closures, what a rest does. -/
namespace Go.Proofs.Ytlcjlcllbgjplaa
open Go
namespace Ev
def closures:List Nat:=[37,45,51,55,60,72,78,82]
noncomputable def memN:List Nat→Nat→Bool:=fun l=>List.rec (motive:=fun _=>Nat→Bool) (fun _=>false) (fun x _ ih n=>Bool.rec (ih n) true (Nat.beq n x)) l
noncomputable def restV (d k f h:Int):Option AV:=Bool.rec none (some (.int .i64 (Bool.rec (Q.addI h (d * k)) f (Q.leI f (Q.addI h (d * k)))))) (Q.andB (Q.fits .i64 (d * k)) (Q.fits .i64 (Q.addI h (d * k))))
noncomputable def restG (args:List AV):Option AV:=match args with
  |[.agg [.int .i64 d],.agg [.int .i64 _,.int .i64 k,.int .i64 f],.int .i64 h,.int .i64 _]=>restV d k f h
  |_=>none
end Ev
end Go.Proofs.Ytlcjlcllbgjplaa

/- Package road: Clash of the document's example, found by the evaluator. -/
namespace Go.Proofs.Ytlcjlcllbgjplaa
open Go Go.Proofs
namespace Ev
namespace Ro
set_option maxRecDepth 100000
noncomputable def cfgQ:Cfg where
  fns:=FT.find fnTree
  glob:=fun _=>none
  dfk:=fun f=>Bool.rec none (some (119,true)) (memN closures f)
  ext:=fun f=>Bool.rec none (some restG) (Nat.beq f 127)
  gcAt:=20
  whole:=fun _=>true
def clashRd:Rd.Road:=⟨[⟨⟨10,11⟩,⟨2,2⟩,⟨1,1⟩,12⟩,⟨⟨8,8⟩,⟨3,4⟩,⟨0,1⟩,9⟩],[⟨0,⟨6,6⟩,0,0,⟨0,0⟩⟩,⟨1,⟨0,0⟩,2,0,⟨0,0⟩⟩,⟨2,⟨0,0⟩,0,1,⟨7,9⟩⟩,⟨2,⟨0,0⟩,0,1,⟨6,6⟩⟩]⟩
noncomputable def clashB (r:Q.R):Bool:=match r with
  |.cret (.tup [.int .i64 (.ofNat a),.int .i64 (.ofNat b)]) _ _ _=>Q.andB (Nat.beq a 12) (Nat.beq b 0)
  |_=>false
theorem ydi:clashB (Q.callQ cfgQ 40 (.fn (.func 18) [] []) [.agg (roadCs clashRd)] (.e Q.cap) 0)=true:=by kernel_rfl
end Ro
end Ev
end Go.Proofs.Ytlcjlcllbgjplaa

/- The code of the evaluator is that of the program (part 1). Printed by program. -/
namespace Go.Proofs.Ytlcjlcllbgjplaa
open Go Go.Proofs
namespace Ev
set_option maxRecDepth 1000000
theorem is11 : ∃ F, Try.prog.funcs[11]? = some F ∧ (F.name == "runtime.NumGoroutine")=false∧compFn Try.prog F=some af11.strip:=⟨_,Try.func11,by kernel_rfl,by kernel_rfl⟩
theorem is12 : ∃ F, Try.prog.funcs[12]? = some F ∧ (F.name == "runtime.NumGoroutine")=false∧compFn Try.prog F=some af12.strip:=⟨_,Try.func12,by kernel_rfl,by kernel_rfl⟩
theorem is13 : ∃ F, Try.prog.funcs[13]? = some F ∧ (F.name == "runtime.NumGoroutine")=false∧compFn Try.prog F=some af13.strip:=⟨_,Try.func13,by kernel_rfl,by kernel_rfl⟩
theorem is15 : ∃ F, Try.prog.funcs[15]? = some F ∧ (F.name == "runtime.NumGoroutine")=false∧compFn Try.prog F=some af15.strip:=⟨_,Try.func15,by kernel_rfl,by kernel_rfl⟩
theorem is16 : ∃ F, Try.prog.funcs[16]? = some F ∧ (F.name == "runtime.NumGoroutine")=false∧compFn Try.prog F=some af16.strip:=⟨_,Try.func16,by kernel_rfl,by kernel_rfl⟩
theorem is22 : ∃ F, Try.prog.funcs[22]? = some F ∧ (F.name == "runtime.NumGoroutine")=false∧compFn Try.prog F=some af22.strip:=⟨_,Try.func22,by kernel_rfl,by kernel_rfl⟩
theorem is30 : ∃ F, Try.prog.funcs[30]? = some F ∧ (F.name == "runtime.NumGoroutine")=false∧compFn Try.prog F=some af30.strip:=⟨_,Try.func30,by kernel_rfl,by kernel_rfl⟩
theorem is37 : ∃ F, Try.prog.funcs[37]? = some F ∧ (F.name == "runtime.NumGoroutine")=false∧compFn Try.prog F=some af37.strip:=⟨_,Try.func37,by kernel_rfl,by kernel_rfl⟩
theorem is42 : ∃ F, Try.prog.funcs[42]? = some F ∧ (F.name == "runtime.NumGoroutine")=false∧compFn Try.prog F=some af42.strip:=⟨_,Try.func42,by kernel_rfl,by kernel_rfl⟩
theorem is46 : ∃ F, Try.prog.funcs[46]? = some F ∧ (F.name == "runtime.NumGoroutine")=false∧compFn Try.prog F=some af46.strip:=⟨_,Try.func46,by kernel_rfl,by kernel_rfl⟩
theorem is49 : ∃ F, Try.prog.funcs[49]? = some F ∧ (F.name == "runtime.NumGoroutine")=false∧compFn Try.prog F=some af49.strip:=⟨_,Try.func49,by kernel_rfl,by kernel_rfl⟩
theorem is51 : ∃ F, Try.prog.funcs[51]? = some F ∧ (F.name == "runtime.NumGoroutine")=false∧compFn Try.prog F=some af51.strip:=⟨_,Try.func51,by kernel_rfl,by kernel_rfl⟩
theorem is57 : ∃ F, Try.prog.funcs[57]? = some F ∧ (F.name == "runtime.NumGoroutine")=false∧compFn Try.prog F=some af57.strip:=⟨_,Try.func57,by kernel_rfl,by kernel_rfl⟩
theorem is60 : ∃ F, Try.prog.funcs[60]? = some F ∧ (F.name == "runtime.NumGoroutine")=false∧compFn Try.prog F=some af60.strip:=⟨_,Try.func60,by kernel_rfl,by kernel_rfl⟩
theorem is63 : ∃ F, Try.prog.funcs[63]? = some F ∧ (F.name == "runtime.NumGoroutine")=false∧compFn Try.prog F=some af63.strip:=⟨_,Try.func63,by kernel_rfl,by kernel_rfl⟩
theorem is65 : ∃ F, Try.prog.funcs[65]? = some F ∧ (F.name == "runtime.NumGoroutine")=false∧compFn Try.prog F=some af65.strip:=⟨_,Try.func65,by kernel_rfl,by kernel_rfl⟩
theorem is70 : ∃ F, Try.prog.funcs[70]? = some F ∧ (F.name == "runtime.NumGoroutine")=false∧compFn Try.prog F=some af70.strip:=⟨_,Try.func70,by kernel_rfl,by kernel_rfl⟩
theorem is79 : ∃ F, Try.prog.funcs[79]? = some F ∧ (F.name == "runtime.NumGoroutine")=false∧compFn Try.prog F=some af79.strip:=⟨_,Try.func79,by kernel_rfl,by kernel_rfl⟩
theorem is92 : ∃ F, Try.prog.funcs[92]? = some F ∧ (F.name == "runtime.NumGoroutine")=false∧compFn Try.prog F=some af92.strip:=⟨_,Try.func92,by kernel_rfl,by kernel_rfl⟩
theorem is94 : ∃ F, Try.prog.funcs[94]? = some F ∧ (F.name == "runtime.NumGoroutine")=false∧compFn Try.prog F=some af94.strip:=⟨_,Try.func94,by kernel_rfl,by kernel_rfl⟩
theorem is95 : ∃ F, Try.prog.funcs[95]? = some F ∧ (F.name == "runtime.NumGoroutine")=false∧compFn Try.prog F=some af95.strip:=⟨_,Try.func95,by kernel_rfl,by kernel_rfl⟩
theorem is99 : ∃ F, Try.prog.funcs[99]? = some F ∧ (F.name == "runtime.NumGoroutine")=false∧compFn Try.prog F=some af99.strip:=⟨_,Try.func99,by kernel_rfl,by kernel_rfl⟩
theorem is104 : ∃ F, Try.prog.funcs[104]? = some F ∧ (F.name == "runtime.NumGoroutine")=false∧compFn Try.prog F=some af104.strip:=⟨_,Try.func104,by kernel_rfl,by kernel_rfl⟩
end Ev
end Go.Proofs.Ytlcjlcllbgjplaa

/- The code of the evaluator is that of the program (part 2). Printed by program. -/
namespace Go.Proofs.Ytlcjlcllbgjplaa
open Go Go.Proofs
namespace Ev
set_option maxRecDepth 1000000
theorem is17 : ∃ F, Try.prog.funcs[17]? = some F ∧ (F.name == "runtime.NumGoroutine")=false∧compFn Try.prog F=some af17.strip:=⟨_,Try.func17,by kernel_rfl,by kernel_rfl⟩
theorem is18 : ∃ F, Try.prog.funcs[18]? = some F ∧ (F.name == "runtime.NumGoroutine")=false∧compFn Try.prog F=some af18.strip:=⟨_,Try.func18,by kernel_rfl,by kernel_rfl⟩
theorem is19 : ∃ F, Try.prog.funcs[19]? = some F ∧ (F.name == "runtime.NumGoroutine")=false∧compFn Try.prog F=some af19.strip:=⟨_,Try.func19,by kernel_rfl,by kernel_rfl⟩
theorem is20 : ∃ F, Try.prog.funcs[20]? = some F ∧ (F.name == "runtime.NumGoroutine")=false∧compFn Try.prog F=some af20.strip:=⟨_,Try.func20,by kernel_rfl,by kernel_rfl⟩
theorem is33 : ∃ F, Try.prog.funcs[33]? = some F ∧ (F.name == "runtime.NumGoroutine")=false∧compFn Try.prog F=some af33.strip:=⟨_,Try.func33,by kernel_rfl,by kernel_rfl⟩
theorem is39 : ∃ F, Try.prog.funcs[39]? = some F ∧ (F.name == "runtime.NumGoroutine")=false∧compFn Try.prog F=some af39.strip:=⟨_,Try.func39,by kernel_rfl,by kernel_rfl⟩
theorem is47 : ∃ F, Try.prog.funcs[47]? = some F ∧ (F.name == "runtime.NumGoroutine")=false∧compFn Try.prog F=some af47.strip:=⟨_,Try.func47,by kernel_rfl,by kernel_rfl⟩
theorem is54 : ∃ F, Try.prog.funcs[54]? = some F ∧ (F.name == "runtime.NumGoroutine")=false∧compFn Try.prog F=some af54.strip:=⟨_,Try.func54,by kernel_rfl,by kernel_rfl⟩
theorem is58 : ∃ F, Try.prog.funcs[58]? = some F ∧ (F.name == "runtime.NumGoroutine")=false∧compFn Try.prog F=some af58.strip:=⟨_,Try.func58,by kernel_rfl,by kernel_rfl⟩
theorem is64 : ∃ F, Try.prog.funcs[64]? = some F ∧ (F.name == "runtime.NumGoroutine")=false∧compFn Try.prog F=some af64.strip:=⟨_,Try.func64,by kernel_rfl,by kernel_rfl⟩
theorem is66 : ∃ F, Try.prog.funcs[66]? = some F ∧ (F.name == "runtime.NumGoroutine")=false∧compFn Try.prog F=some af66.strip:=⟨_,Try.func66,by kernel_rfl,by kernel_rfl⟩
theorem is68 : ∃ F, Try.prog.funcs[68]? = some F ∧ (F.name == "runtime.NumGoroutine")=false∧compFn Try.prog F=some af68.strip:=⟨_,Try.func68,by kernel_rfl,by kernel_rfl⟩
theorem is71 : ∃ F, Try.prog.funcs[71]? = some F ∧ (F.name == "runtime.NumGoroutine")=false∧compFn Try.prog F=some af71.strip:=⟨_,Try.func71,by kernel_rfl,by kernel_rfl⟩
theorem is78 : ∃ F, Try.prog.funcs[78]? = some F ∧ (F.name == "runtime.NumGoroutine")=false∧compFn Try.prog F=some af78.strip:=⟨_,Try.func78,by kernel_rfl,by kernel_rfl⟩
theorem is88 : ∃ F, Try.prog.funcs[88]? = some F ∧ (F.name == "runtime.NumGoroutine")=false∧compFn Try.prog F=some af88.strip:=⟨_,Try.func88,by kernel_rfl,by kernel_rfl⟩
theorem is89 : ∃ F, Try.prog.funcs[89]? = some F ∧ (F.name == "runtime.NumGoroutine")=false∧compFn Try.prog F=some af89.strip:=⟨_,Try.func89,by kernel_rfl,by kernel_rfl⟩
theorem is93 : ∃ F, Try.prog.funcs[93]? = some F ∧ (F.name == "runtime.NumGoroutine")=false∧compFn Try.prog F=some af93.strip:=⟨_,Try.func93,by kernel_rfl,by kernel_rfl⟩
theorem is97 : ∃ F, Try.prog.funcs[97]? = some F ∧ (F.name == "runtime.NumGoroutine")=false∧compFn Try.prog F=some af97.strip:=⟨_,Try.func97,by kernel_rfl,by kernel_rfl⟩
theorem is98 : ∃ F, Try.prog.funcs[98]? = some F ∧ (F.name == "runtime.NumGoroutine")=false∧compFn Try.prog F=some af98.strip:=⟨_,Try.func98,by kernel_rfl,by kernel_rfl⟩
theorem is102 : ∃ F, Try.prog.funcs[102]? = some F ∧ (F.name == "runtime.NumGoroutine")=false∧compFn Try.prog F=some af102.strip:=⟨_,Try.func102,by kernel_rfl,by kernel_rfl⟩
theorem is106 : ∃ F, Try.prog.funcs[106]? = some F ∧ (F.name == "runtime.NumGoroutine")=false∧compFn Try.prog F=some af106.strip:=⟨_,Try.func106,by kernel_rfl,by kernel_rfl⟩
theorem is107 : ∃ F, Try.prog.funcs[107]? = some F ∧ (F.name == "runtime.NumGoroutine")=false∧compFn Try.prog F=some af107.strip:=⟨_,Try.func107,by kernel_rfl,by kernel_rfl⟩
theorem is109 : ∃ F, Try.prog.funcs[109]? = some F ∧ (F.name == "runtime.NumGoroutine")=false∧compFn Try.prog F=some af109.strip:=⟨_,Try.func109,by kernel_rfl,by kernel_rfl⟩
end Ev
end Go.Proofs.Ytlcjlcllbgjplaa

/- The code of the evaluator is that of the program (part 3). Printed by program. -/
namespace Go.Proofs.Ytlcjlcllbgjplaa
open Go Go.Proofs
namespace Ev
set_option maxRecDepth 1000000
theorem is14 : ∃ F, Try.prog.funcs[14]? = some F ∧ (F.name == "runtime.NumGoroutine")=false∧compFn Try.prog F=some af14.strip:=⟨_,Try.func14,by kernel_rfl,by kernel_rfl⟩
theorem is21 : ∃ F, Try.prog.funcs[21]? = some F ∧ (F.name == "runtime.NumGoroutine")=false∧compFn Try.prog F=some af21.strip:=⟨_,Try.func21,by kernel_rfl,by kernel_rfl⟩
theorem is23 : ∃ F, Try.prog.funcs[23]? = some F ∧ (F.name == "runtime.NumGoroutine")=false∧compFn Try.prog F=some af23.strip:=⟨_,Try.func23,by kernel_rfl,by kernel_rfl⟩
theorem is34 : ∃ F, Try.prog.funcs[34]? = some F ∧ (F.name == "runtime.NumGoroutine")=false∧compFn Try.prog F=some af34.strip:=⟨_,Try.func34,by kernel_rfl,by kernel_rfl⟩
theorem is36 : ∃ F, Try.prog.funcs[36]? = some F ∧ (F.name == "runtime.NumGoroutine")=false∧compFn Try.prog F=some af36.strip:=⟨_,Try.func36,by kernel_rfl,by kernel_rfl⟩
theorem is41 : ∃ F, Try.prog.funcs[41]? = some F ∧ (F.name == "runtime.NumGoroutine")=false∧compFn Try.prog F=some af41.strip:=⟨_,Try.func41,by kernel_rfl,by kernel_rfl⟩
theorem is43 : ∃ F, Try.prog.funcs[43]? = some F ∧ (F.name == "runtime.NumGoroutine")=false∧compFn Try.prog F=some af43.strip:=⟨_,Try.func43,by kernel_rfl,by kernel_rfl⟩
theorem is52 : ∃ F, Try.prog.funcs[52]? = some F ∧ (F.name == "runtime.NumGoroutine")=false∧compFn Try.prog F=some af52.strip:=⟨_,Try.func52,by kernel_rfl,by kernel_rfl⟩
theorem is59 : ∃ F, Try.prog.funcs[59]? = some F ∧ (F.name == "runtime.NumGoroutine")=false∧compFn Try.prog F=some af59.strip:=⟨_,Try.func59,by kernel_rfl,by kernel_rfl⟩
theorem is61 : ∃ F, Try.prog.funcs[61]? = some F ∧ (F.name == "runtime.NumGoroutine")=false∧compFn Try.prog F=some af61.strip:=⟨_,Try.func61,by kernel_rfl,by kernel_rfl⟩
theorem is62 : ∃ F, Try.prog.funcs[62]? = some F ∧ (F.name == "runtime.NumGoroutine")=false∧compFn Try.prog F=some af62.strip:=⟨_,Try.func62,by kernel_rfl,by kernel_rfl⟩
theorem is75 : ∃ F, Try.prog.funcs[75]? = some F ∧ (F.name == "runtime.NumGoroutine")=false∧compFn Try.prog F=some af75.strip:=⟨_,Try.func75,by kernel_rfl,by kernel_rfl⟩
theorem is76 : ∃ F, Try.prog.funcs[76]? = some F ∧ (F.name == "runtime.NumGoroutine")=false∧compFn Try.prog F=some af76.strip:=⟨_,Try.func76,by kernel_rfl,by kernel_rfl⟩
theorem is82 : ∃ F, Try.prog.funcs[82]? = some F ∧ (F.name == "runtime.NumGoroutine")=false∧compFn Try.prog F=some af82.strip:=⟨_,Try.func82,by kernel_rfl,by kernel_rfl⟩
theorem is84 : ∃ F, Try.prog.funcs[84]? = some F ∧ (F.name == "runtime.NumGoroutine")=false∧compFn Try.prog F=some af84.strip:=⟨_,Try.func84,by kernel_rfl,by kernel_rfl⟩
theorem is85 : ∃ F, Try.prog.funcs[85]? = some F ∧ (F.name == "runtime.NumGoroutine")=false∧compFn Try.prog F=some af85.strip:=⟨_,Try.func85,by kernel_rfl,by kernel_rfl⟩
theorem is86 : ∃ F, Try.prog.funcs[86]? = some F ∧ (F.name == "runtime.NumGoroutine")=false∧compFn Try.prog F=some af86.strip:=⟨_,Try.func86,by kernel_rfl,by kernel_rfl⟩
theorem is87 : ∃ F, Try.prog.funcs[87]? = some F ∧ (F.name == "runtime.NumGoroutine")=false∧compFn Try.prog F=some af87.strip:=⟨_,Try.func87,by kernel_rfl,by kernel_rfl⟩
theorem is90 : ∃ F, Try.prog.funcs[90]? = some F ∧ (F.name == "runtime.NumGoroutine")=false∧compFn Try.prog F=some af90.strip:=⟨_,Try.func90,by kernel_rfl,by kernel_rfl⟩
theorem is105 : ∃ F, Try.prog.funcs[105]? = some F ∧ (F.name == "runtime.NumGoroutine")=false∧compFn Try.prog F=some af105.strip:=⟨_,Try.func105,by kernel_rfl,by kernel_rfl⟩
theorem is108 : ∃ F, Try.prog.funcs[108]? = some F ∧ (F.name == "runtime.NumGoroutine")=false∧compFn Try.prog F=some af108.strip:=⟨_,Try.func108,by kernel_rfl,by kernel_rfl⟩
theorem is125 : ∃ F, Try.prog.funcs[125]? = some F ∧ (F.name == "runtime.NumGoroutine")=false∧compFn Try.prog F=some af125.strip:=⟨_,Try.func125,by kernel_rfl,by kernel_rfl⟩
theorem is127 : ∃ F, Try.prog.funcs[127]? = some F ∧ (F.name == "runtime.NumGoroutine")=false∧compFn Try.prog F=some af127.strip:=⟨_,Try.func127,by kernel_rfl,by kernel_rfl⟩
end Ev
end Go.Proofs.Ytlcjlcllbgjplaa

/- The code of the evaluator is that of the program (part 4). Printed by program. -/
namespace Go.Proofs.Ytlcjlcllbgjplaa
open Go Go.Proofs
namespace Ev
set_option maxRecDepth 1000000
theorem is26 : ∃ F, Try.prog.funcs[26]? = some F ∧ (F.name == "runtime.NumGoroutine")=false∧compFn Try.prog F=some af26.strip:=⟨_,Try.func26,by kernel_rfl,by kernel_rfl⟩
theorem is31 : ∃ F, Try.prog.funcs[31]? = some F ∧ (F.name == "runtime.NumGoroutine")=false∧compFn Try.prog F=some af31.strip:=⟨_,Try.func31,by kernel_rfl,by kernel_rfl⟩
theorem is40 : ∃ F, Try.prog.funcs[40]? = some F ∧ (F.name == "runtime.NumGoroutine")=false∧compFn Try.prog F=some af40.strip:=⟨_,Try.func40,by kernel_rfl,by kernel_rfl⟩
theorem is44 : ∃ F, Try.prog.funcs[44]? = some F ∧ (F.name == "runtime.NumGoroutine")=false∧compFn Try.prog F=some af44.strip:=⟨_,Try.func44,by kernel_rfl,by kernel_rfl⟩
theorem is45 : ∃ F, Try.prog.funcs[45]? = some F ∧ (F.name == "runtime.NumGoroutine")=false∧compFn Try.prog F=some af45.strip:=⟨_,Try.func45,by kernel_rfl,by kernel_rfl⟩
theorem is48 : ∃ F, Try.prog.funcs[48]? = some F ∧ (F.name == "runtime.NumGoroutine")=false∧compFn Try.prog F=some af48.strip:=⟨_,Try.func48,by kernel_rfl,by kernel_rfl⟩
theorem is50 : ∃ F, Try.prog.funcs[50]? = some F ∧ (F.name == "runtime.NumGoroutine")=false∧compFn Try.prog F=some af50.strip:=⟨_,Try.func50,by kernel_rfl,by kernel_rfl⟩
theorem is53 : ∃ F, Try.prog.funcs[53]? = some F ∧ (F.name == "runtime.NumGoroutine")=false∧compFn Try.prog F=some af53.strip:=⟨_,Try.func53,by kernel_rfl,by kernel_rfl⟩
theorem is55 : ∃ F, Try.prog.funcs[55]? = some F ∧ (F.name == "runtime.NumGoroutine")=false∧compFn Try.prog F=some af55.strip:=⟨_,Try.func55,by kernel_rfl,by kernel_rfl⟩
theorem is56 : ∃ F, Try.prog.funcs[56]? = some F ∧ (F.name == "runtime.NumGoroutine")=false∧compFn Try.prog F=some af56.strip:=⟨_,Try.func56,by kernel_rfl,by kernel_rfl⟩
theorem is67 : ∃ F, Try.prog.funcs[67]? = some F ∧ (F.name == "runtime.NumGoroutine")=false∧compFn Try.prog F=some af67.strip:=⟨_,Try.func67,by kernel_rfl,by kernel_rfl⟩
theorem is69 : ∃ F, Try.prog.funcs[69]? = some F ∧ (F.name == "runtime.NumGoroutine")=false∧compFn Try.prog F=some af69.strip:=⟨_,Try.func69,by kernel_rfl,by kernel_rfl⟩
theorem is72 : ∃ F, Try.prog.funcs[72]? = some F ∧ (F.name == "runtime.NumGoroutine")=false∧compFn Try.prog F=some af72.strip:=⟨_,Try.func72,by kernel_rfl,by kernel_rfl⟩
theorem is73 : ∃ F, Try.prog.funcs[73]? = some F ∧ (F.name == "runtime.NumGoroutine")=false∧compFn Try.prog F=some af73.strip:=⟨_,Try.func73,by kernel_rfl,by kernel_rfl⟩
theorem is74 : ∃ F, Try.prog.funcs[74]? = some F ∧ (F.name == "runtime.NumGoroutine")=false∧compFn Try.prog F=some af74.strip:=⟨_,Try.func74,by kernel_rfl,by kernel_rfl⟩
theorem is80 : ∃ F, Try.prog.funcs[80]? = some F ∧ (F.name == "runtime.NumGoroutine")=false∧compFn Try.prog F=some af80.strip:=⟨_,Try.func80,by kernel_rfl,by kernel_rfl⟩
theorem is81 : ∃ F, Try.prog.funcs[81]? = some F ∧ (F.name == "runtime.NumGoroutine")=false∧compFn Try.prog F=some af81.strip:=⟨_,Try.func81,by kernel_rfl,by kernel_rfl⟩
theorem is83 : ∃ F, Try.prog.funcs[83]? = some F ∧ (F.name == "runtime.NumGoroutine")=false∧compFn Try.prog F=some af83.strip:=⟨_,Try.func83,by kernel_rfl,by kernel_rfl⟩
theorem is91 : ∃ F, Try.prog.funcs[91]? = some F ∧ (F.name == "runtime.NumGoroutine")=false∧compFn Try.prog F=some af91.strip:=⟨_,Try.func91,by kernel_rfl,by kernel_rfl⟩
theorem is96 : ∃ F, Try.prog.funcs[96]? = some F ∧ (F.name == "runtime.NumGoroutine")=false∧compFn Try.prog F=some af96.strip:=⟨_,Try.func96,by kernel_rfl,by kernel_rfl⟩
theorem is100 : ∃ F, Try.prog.funcs[100]? = some F ∧ (F.name == "runtime.NumGoroutine")=false∧compFn Try.prog F=some af100.strip:=⟨_,Try.func100,by kernel_rfl,by kernel_rfl⟩
theorem is101 : ∃ F, Try.prog.funcs[101]? = some F ∧ (F.name == "runtime.NumGoroutine")=false∧compFn Try.prog F=some af101.strip:=⟨_,Try.func101,by kernel_rfl,by kernel_rfl⟩
theorem is103 : ∃ F, Try.prog.funcs[103]? = some F ∧ (F.name == "runtime.NumGoroutine")=false∧compFn Try.prog F=some af103.strip:=⟨_,Try.func103,by kernel_rfl,by kernel_rfl⟩
theorem is126 : ∃ F, Try.prog.funcs[126]? = some F ∧ (F.name == "runtime.NumGoroutine")=false∧compFn Try.prog F=some af126.strip:=⟨_,Try.func126,by kernel_rfl,by kernel_rfl⟩
end Ev
end Go.Proofs.Ytlcjlcllbgjplaa

/- The table of the evaluator is that of the program. Printed by program. -/
namespace Go.Proofs.Ytlcjlcllbgjplaa
open Go Go.Proofs
namespace Ev
def FT.All (p:Nat→AFunc→Prop):FT→Prop
  |.leaf=>True
  |.node k f l r=>p k f∧(FT.All p l∧FT.All p r)
theorem FT.find_all {p:Nat→AFunc→Prop}:∀ {t:FT} {n:Nat} {f:AFunc},FT.All p t→FT.find t n=some f→p n f
  |.leaf,n,f,_,h=>by cases h
  |.node k g l r,n,f,ha,h=>by
    have e:FT.find (.node k g l r) n=(Bool.rec (Bool.rec (FT.find r n) (FT.find l n) (Nat.ble (Nat.succ n) k)) (some g) (Nat.beq n k):Option AFunc):=rfl
    rw[e] at h
    cases hb:Nat.beq n k with
    |true=>rw[hb] at h;cases h;rw[Nat.eq_of_beq_eq_true hb];exact ha.1
    |false=>
      rw[hb] at h
      cases hc:Nat.ble (Nat.succ n) k with
      |true=>rw[hc] at h;exact FT.find_all ha.2.1 h
      |false=>rw[hc] at h;exact FT.find_all ha.2.2 h
theorem zoi : FT.All (fun k af => ∃ F, Try.prog.funcs[k]? = some F ∧ (F.name == "runtime.NumGoroutine")=false∧compFn Try.prog F=some af.strip) fnTree:=
  ⟨is65,⟨is42,⟨is22,⟨is16,⟨is13,⟨is12,⟨is11,trivial,trivial⟩,trivial⟩,⟨is15,⟨is14,trivial,trivial⟩,trivial⟩⟩,⟨is19,⟨is18,⟨is17,trivial,trivial⟩,trivial⟩,⟨is21,⟨is20,trivial,trivial⟩,trivial⟩⟩⟩,⟨is34,⟨is30,⟨is26,⟨is23,trivial,trivial⟩,trivial⟩,⟨is33,⟨is31,trivial,trivial⟩,trivial⟩⟩,⟨is39,⟨is37,⟨is36,trivial,trivial⟩,trivial⟩,⟨is41,⟨is40,trivial,trivial⟩,trivial⟩⟩⟩⟩,⟨is54,⟨is48,⟨is45,⟨is44,⟨is43,trivial,trivial⟩,trivial⟩,⟨is47,⟨is46,trivial,trivial⟩,trivial⟩⟩,⟨is51,⟨is50,⟨is49,trivial,trivial⟩,trivial⟩,⟨is53,⟨is52,trivial,trivial⟩,trivial⟩⟩⟩,⟨is60,⟨is57,⟨is56,⟨is55,trivial,trivial⟩,trivial⟩,⟨is59,⟨is58,trivial,trivial⟩,trivial⟩⟩,⟨is63,⟨is62,⟨is61,trivial,trivial⟩,trivial⟩,⟨is64,trivial,trivial⟩⟩⟩⟩⟩,⟨is90,⟨is78,⟨is71,⟨is68,⟨is67,⟨is66,trivial,trivial⟩,trivial⟩,⟨is70,⟨is69,trivial,trivial⟩,trivial⟩⟩,⟨is74,⟨is73,⟨is72,trivial,trivial⟩,trivial⟩,⟨is76,⟨is75,trivial,trivial⟩,trivial⟩⟩⟩,⟨is84,⟨is81,⟨is80,⟨is79,trivial,trivial⟩,trivial⟩,⟨is83,⟨is82,trivial,trivial⟩,trivial⟩⟩,⟨is87,⟨is86,⟨is85,trivial,trivial⟩,trivial⟩,⟨is89,⟨is88,trivial,trivial⟩,trivial⟩⟩⟩⟩,⟨is102,⟨is96,⟨is93,⟨is92,⟨is91,trivial,trivial⟩,trivial⟩,⟨is95,⟨is94,trivial,trivial⟩,trivial⟩⟩,⟨is99,⟨is98,⟨is97,trivial,trivial⟩,trivial⟩,⟨is101,⟨is100,trivial,trivial⟩,trivial⟩⟩⟩,⟨is108,⟨is105,⟨is104,⟨is103,trivial,trivial⟩,trivial⟩,⟨is107,⟨is106,trivial,trivial⟩,trivial⟩⟩,⟨is126,⟨is125,⟨is109,trivial,trivial⟩,trivial⟩,⟨is127,trivial,trivial⟩⟩⟩⟩⟩⟩
end Ev
end Go.Proofs.Ytlcjlcllbgjplaa

/- A deferred function that recovers, and hands on to another one. -/
namespace Go.Proofs.Ytlcjlcllbgjplaa
open Go Go.RowKit
section
variable {P:Program} {n:Nat} {Q:Exit→Act→List Frame→World→Prop} {a:Act} {cs cs':List Frame} {w:World}

theorem zfv {id:Nat}{ops:Array Oper}{o:Oper}{rest:List Nat}{v:Value}(hl:List.range ops.size=0::rest)(ho:ops[0]?=some o)(hg:Region.wanted o (yielded ops a.tmps)=true)
    (hrun:(execOp a.eval o).run P w=.ok .recover w) (hrec:recoverD cs=some (v,cs')∨(recoverD cs=none∧v=.nilIface∧cs'=cs))
    (h:wpOpsIn Fence.wide n P ops (fun e a' w'=>Q e a' cs' w') rest (a.put o.dst v) w):(Code.region id ops false).wpSIn Fence.wide n P Q a cs w:=by
  intro b k hb hro hF hroom
  have hlen:cs'.length=cs.length:=by
    rcases hrec with h|⟨_,_,h⟩
    · exact recoverD_length h
    · rw[h]
  obtain ⟨e,a',w',hq,harr⟩:=wp_opsIn rest _ _ h b k cs' hro hF (by rw[hlen];exact hroom)
  have h0:(lone (b.atR a (.inRegion ops (0::rest)::k)) cs w).fenced P Fence.wide:=fenced_oper hF hroom ho fun _ _=>trivial
  have hgo:=stepGR_op (P:=P) (b:=b) (k:=k) (cs:=cs) (w:=w) (rest:=rest) ho hg
  rw[hro,Oper.semAt_none] at hgo
  have hfin:∀ v,(b.atR a (.inRegion ops (0::rest)::k)).finish v=b.atR (a.put o.dst v) (.inRegion ops rest::k):=by
    intro v;rw[Frame.finish_atR,ho];rfl
  have hk:(b.atR a (.inRegion ops (0::rest)::k)).kind=.deferred:=hb
  have htr:=tryRecover_deferred hk cs
  refine ⟨e,a',cs',w',hlen,hq,.of_steps (.head (fenced_calm hF hroom rfl) (stepR_region) (.one (by rw[hl];exact h0) (step_lone_go ?_))) harr⟩
  rw[hl,hgo,← hfin]
  rcases hrec with hrec|⟨hrec,rfl,rfl⟩
  · simp only[Frame.atR,hro] at htr ⊢
    simp[stepG.apply,hrun,htr,hrec]
  · simp only[Frame.atR,hro] at htr ⊢
    simp[stepG.apply,hrun,htr,hrec]
end
end Go.Proofs.Ytlcjlcllbgjplaa

/- Contracts of stopped. -/
namespace Go.Proofs.Ytlcjlcllbgjplaa
open Go Go.Proofs Go.RowKit
set_option maxHeartbeats 400000 in
set_option maxRecDepth 100000 in
theorem zmm (B off:Nat)(y:Value)(k:IntKind)(n:Int)(W:World)(hc:W.cell? ⟨B,off,none⟩=some y)(hz:W.frozen? ⟨B,off,none⟩=false):
    Calls Try.prog 38 #[.iface 119 (.agg #[.int k n]),.pointer (some ⟨B,off,none⟩)] W fun e W'=>e=.returned (.tuple #[])∧Below W.heap.size (W.setCell ⟨B,off,none⟩ (.int k n)) W':=by
  have hta:∀ w:World,(Instr.typeAssert (.iface 119 (.agg #[.int k n])) 20 119 true).run Try.prog w=.ok (.tuple #[.agg #[.int k n],.bool true]) w:=fun _=>by kernel_rfl
  have hlt:B<W.heap.size:=by
    unfold World.cell? at hc
    cases hb:W.heap[B]? with
    |none=>simp[hb] at hc
    |some x=>exact (Array.getElem?_eq_some_iff.1 hb).1
  have hca:∀ o,(W.alloc o).cell? ⟨B,off,none⟩=some y:=fun o=>(World.cell?_of_block (Below.heap_alloc W o B hlt)).trans hc
  have hza:∀ o,(W.alloc o).frozen? ⟨B,off,none⟩=false:=fun o=>(World.frozen?_of_block (Below.heap_alloc W o B hlt)).trans hz
  have hbel:∀ o,Below W.heap.size (W.setCell ⟨B,off,none⟩ (.int k n)) ((W.alloc o).setCell ⟨B,off,none⟩ (.int k n)):=fun o=>by
    refine ⟨rfl,rfl,rfl,by simp,fun i hi=>?_⟩
    simp only[World.setCell,Array.getElem?_modify]
    rw[Below.heap_alloc W o i hi]
  clear hc hz hlt
  go_enter Try.func38,Try.ntmps38
  go_wp2
  exact ⟨rfl,_,results_none rfl _ _ _,rfl,hbel _⟩
theorem zmn (x:Value)(W:World):Calls Try.prog 38 #[.nilIface,x] W fun e W'=>e=.returned (.tuple #[])∧Below W.heap.size W W':=by
  go_enter Try.func38,Try.ntmps38
  go_wp2
  exact ⟨rfl,_,results_none rfl _ _ _,rfl,Below.refl _ _⟩

theorem zbp {f : Nat} {fn : Func} {id : Nat} {ops : Array Oper} {o0 o1 : Oper} (hf : Try.prog.funcs[f]? = some fn) (hb : fn.body = some (.region id ops false)) (hn : fn.ntmps = 3) (hr : fn.results = #[]) (_hnm : (fn.name == "runtime.NumGoroutine")=false)
    (ho:ops=#[o0,o1]) (h0:o0.op=.call { callee:=.builtin .recover,args:=#[],argTypes:=#[] }) (hd0:o0.dst=some 1) (hg0:o0.guard=none) (hd1:o1.dst=some 2) (hg1:o1.guard=none) {ts:Array TypeId} (h1:o1.op=.call { callee:=.value (.func 38),args:=#[.tmp 1,.tmp 0],argTypes:=ts }):
    (∀ (x:Value) (W:World),CallsDIn Fence.wide 0 Try.prog f #[x] .returning W fun e u' W'=>(∃ v,e=.returned v)∧u'=.returning∧Below W.heap.size W W') ∧
    (∀ (B off : Nat) (y x : Value) (k : IntKind) (n : Int) (W : World), W.cell? ⟨B, off, none⟩ = some y → W.frozen? ⟨B, off, none⟩ = false → x = .agg #[.int k n] →
      CallsDIn Fence.wide 0 Try.prog f #[.pointer (some ⟨B,off,none⟩)] (.panicking [{ v:=.iface 119 x,recovered:=false }]) W fun e u' W'=>
        (∃ v,e=.returned v)∧u'=.panicking [{ v:=.iface 119 x,recovered:=true }]∧Below W.heap.size (W.setCell ⟨B,off,none⟩ (.int k n)) W'):=by
  have hwalk:∀ (x rv:Value) (u u':FrameMode) (W:World) (R:World→Prop),(∀ (c₀:Frame) (cs:List Frame),c₀.mode=u→recoverD (c₀::cs)=some (rv,{ c₀ with mode:=u' }::cs)∨(recoverD (c₀::cs)=none∧rv=.nilIface∧{ c₀ with mode:=u' }::cs=c₀::cs)) →
      Calls Try.prog 38 #[rv,x] W (fun e W'=>e=.returned (.tuple #[])∧R W')→CallsDIn Fence.wide 0 Try.prog f #[x] u W fun e v' W'=>(∃ v,e=.returned v)∧v'=u'∧R W':=by
    intro x rv u u' W R hrec hcall
    refine callsDIn_of_wpSIn hf hb trivial fun c₀ cs hu=>?_
    refine zfv (o:=o0) (rest:=[1]) (v:=rv) (cs':={ c₀ with mode:=u' }::cs) (by rw[ho];rfl) (by rw[ho];rfl) (by simp[Region.wanted,hg0]) (by simp[execOp,h0,resolve,go_sem]) (hrec c₀ cs hu) ?_
    have hev:∀ _:Nat,(#[x]++Array.replicate (fn.ntmps - 1) undef:Array Value)=#[x,undef,undef]:=fun _=>by rw[hn];rfl
    simp only[List.size_toArray,List.length_cons,List.length_nil,Nat.zero_add,hev 0,Act.put,hd0]
    unfold wpOpsIn
    rw[show ops[1]?=some o1 by rw[ho];rfl]
    simp only[Region.wanted,hg1,if_true]
    refine ⟨fun _ _=>trivial,?_⟩
    have hrun:(o1.semAt Fence.wide.round (Act.eval { tmps:=(#[x,undef,undef]:Array Value).setIfInBounds 1 rv,defers:=[] })).run Try.prog W=.ok (.enter 38 #[rv,x]) W:=by
      rw[Oper.semAt_eq _ _ _ (by rw[h1];intro c hc;cases hc)]
      simp[execOp,h1,resolve,go_sem,Deferred.ofValue,Act.eval]
    rw[hrun,Oper.uponIn_enter]
    refine ⟨fun h=>by simp[Fence.wide] at h,((callsIn_wide (n:=0)).2 hcall).mono ?_⟩
    rintro e W' ⟨rfl,hR⟩
    simp only[wpOpsIn,Act.put,hd1]
    refine ⟨rfl,u',rfl,.tuple #[],results_none hr _ _ _,⟨_,rfl⟩,rfl,hR⟩
  refine ⟨fun x W=>?_,fun B off y x k n W hc hz hx=>?_⟩
  · refine (hwalk x .nilIface .returning .returning W (Below W.heap.size W) (fun c₀ cs hu=>.inr ⟨by simp[recoverD,hu],rfl,by cases c₀;simp_all⟩) (zmn x W))
  · subst hx
    refine hwalk _ _ _ _ W _ (fun c₀ cs hu=>.inl ?_) (zmm B off y k n W hc hz)
    simp[recoverD,hu]
end Go.Proofs.Ytlcjlcllbgjplaa

/- A region that draws its order: the operations before the last ones are quiet in a class of worlds; the last ones stand in one forced order. One walk of the text's order serves every order; the last ones are walked in whatever world of the class. -/
namespace Go.Proofs.Ytlcjlcllbgjplaa
open Go
structure Cls (p:World→Prop) where
  W:World
  ok:p W

theorem Cls.step {N:Nat}{W w2:World}(s:Cls (RowKit.Below N W))(hN:N≤W.heap.size)(hb:RowKit.Below s.W.heap.size s.W w2):∃ s':Cls (RowKit.Below N W),w2=s'.W:=
  ⟨⟨w2,s.ok.trans (hb.mono (Nat.le_trans hN s.ok.size))⟩,rfl⟩

section
variable {P:Program} {ops:Array Oper} {md:Region.Mode} {C:World→Prop}

theorem zfw {S:Type}(f:S→World){id:Nat}{Q:Exit→Act→World→Prop}{a:Act}{w:World}{l:List Oper}(hm:P.follows .mixedOrders=true)(hB:Region.lexB .any l.toArray=true)
    (hC:∃ s,w.drew=f s)
    (h:wpQuiet P l.toArray (fun w'=>∃ s,w'=f s) (fun a'=>∀ s,Q .normal a' (f s)) l a):(Code.region id l.toArray true).wp P Q a w:=
  wp_region_quiet hm hB hC (by
    have:(fun a'=>∀ s,Q .normal a' (f s))=(fun a'=>∀ w',(∃ s,w'=f s)→Q .normal a' w'):=by funext a';simp
    rw[this] at h;exact h)
end
end Go.Proofs.Ytlcjlcllbgjplaa

/- The contract of rest.after: what a rest does to a part. -/
namespace Go.Proofs.Ytlcjlcllbgjplaa
open Go Go.Proofs Go.RowKit
theorem quietV {P:Program}{S:Type}[Nonempty S]{f:S→World}{ops:Array Oper}{Q:Act→Prop}{o:Oper}{rest:List Oper}{a:Act}{v:Value}
    (h:∀ s:S,(execOp a.eval o).run P (f s)=.ok (.value v) (f s)) (hg:Region.wanted o (yielded ops a.tmps)=true) (hq:wpQuiet P ops (fun w'=>∃ s,w'=f s) Q rest (a.put o.dst v)):wpQuiet P ops (fun w'=>∃ s,w'=f s) Q (o::rest) a:=by
  refine wpQuiet_step fun K hK=>?_
  rw[if_pos hg]
  refine ⟨v,?_,hK _ hq⟩
  rintro w ⟨s,rfl⟩
  unfold Oper.quietAt
  rw[h s]
  exact ⟨rfl,rfl⟩
set_option maxHeartbeats 400000 in
set_option maxRecDepth 100000 in
theorem zsj (s k f h d:Int)(W:World):Calls Try.prog 102 #[.agg #[.int .i64 s,.int .i64 k,.int .i64 f],.int .i64 h,.int .i64 d] W fun e W'=>
    e=.returned (.int .i64 (min f (IntKind.i64.wrap (h+IntKind.i64.wrap (d * k)))))∧Below W.heap.size W W':=by
  go_enter Try.func102,Try.ntmps102
  go_wp2
  all_goals refine ⟨rfl,_,results_tmp rfl _ _ _,?_,(Below.refl _ _).alloc (Nat.le_refl _) _⟩
  · rename_i hlt
    simp only[Array.getD_eq_getD_getElem?,List.getElem?_toArray,List.getElem?_cons_succ,List.getElem?_cons_zero,Option.getD_some,Ending.returned.injEq,Value.int.injEq,true_and]
    have hw:∀ n,IntKind.i64.wrap n=wrap64 n:=fun n=>by rw[IntKind.wrap_i64];unfold wrap64;first|rfl|omega
    simp only[hw]
    omega
  · rename_i hlt
    simp only[Array.getD_eq_getD_getElem?,List.getElem?_toArray,List.getElem?_cons_succ,List.getElem?_cons_zero,Option.getD_some,Ending.returned.injEq,Value.int.injEq,true_and]
    have hw:∀ n,IntKind.i64.wrap n=wrap64 n:=fun n=>by rw[IntKind.wrap_i64];unfold wrap64;first|rfl|omega
    simp only[hw]
    omega
set_option maxHeartbeats 400000 in
set_option maxRecDepth 100000 in
theorem yas (p:Value)(h l:Int)(W:World):Calls Try.prog 126 #[.agg #[],p,.int .i64 h,.int .i64 l] W fun e W'=>
    e=.returned (.int .i64 h)∧Below W.heap.size W W':=by
  go_enter Try.func126,Try.ntmps126
  go_wp2
  all_goals refine ⟨rfl,_,results_tmp rfl _ _ _,rfl,((Below.refl _ _).alloc (Nat.le_refl _) _).alloc (by simp) _⟩
theorem ycw (days:Int)(B:Nat)(W:World)(hb:W.heap[B]?=some (.cells #[.int .i64 days] 129 (0,0))):(Instr.fieldAt 129 (.pointer (some ⟨B,0,none⟩)) 0).run Try.prog W=.ok (.pointer (some ⟨B,0,none⟩)) W:=by
  have h1:Try.prog.cellsOf 129=1:=by kernel_rfl
  have h2:∀ w,(sizeOf 127).run Try.prog w=.ok 0 w:=fun w=>by kernel_rfl
  have hsh:(shape B).run Try.prog W=.ok (some (129,1)) W:=by simp[shape,Sem.run,World.shape?,hb]
  have h3:byteOfCell Try.prog Try.prog.depth 129 0=some 0:=by kernel_rfl
  have hs':W.shape? B=some (129,1):=by simp[World.shape?,hb]
  have hva:(viewAt B).run Try.prog W=.ok none W:=by simp[viewAt,hs']
  have hnv:(noView ⟨B,0,none⟩).run Try.prog W=.ok () W:=by simp[noView,hva,Result.andThen]
  simp[Instr.fieldAt,run_underlying Try.underlying129,Instr.sureAddr,fieldPlace,h2,partAt,byteOf,hnv,hs',h1,h3,Result.andThen]

set_option maxHeartbeats 1000000 in
set_option maxRecDepth 100000 in
theorem zzz (days s k f h l:Int)(W:World):Calls Try.prog 127 #[.agg #[.int .i64 days],.agg #[.int .i64 s,.int .i64 k,.int .i64 f],.int .i64 h,.int .i64 l] W fun e W'=>
    e=.returned (.int .i64 (min f (IntKind.i64.wrap (h+IntKind.i64.wrap (days * k)))))∧Below W.heap.size W W':=by
  have hld:∀ (B:Nat) (w:World),(Instr.loadAt 127 (.pointer (some ⟨B,0,none⟩))).run Try.prog w=.ok (.agg #[]) w:=fun B w=>by
    have h2:(sizeOf 127).run Try.prog w=.ok 0 w:=by kernel_rfl
    simp[Instr.loadAt,Instr.sureAddr,loadVar,isAgg,run_underlying Try.underlying127,loadCells,loadCellsFrom]
  go_enter Try.func127,Try.ntmps127
  go_wp2
  obtain ⟨W2,hW2⟩:∃ W2,W2=(W.alloc (Obj.cells #[Value.int IntKind.i64 days] 129)).alloc (Obj.cells #[Value.int IntKind.i64 s,Value.int IntKind.i64 k,Value.int IntKind.i64 f] 79):=⟨_,rfl⟩
  have g4:W2.heap[W.heap.size]?=some (.cells #[.int .i64 days] 129 (0,0)):=by
    rw[hW2,Below.heap_alloc _ _ _ (by simp)];exact World.alloc_heap_new W _
  have g5:W2.heap[W.heap.size+1]?=some (.cells #[.int .i64 s,.int .i64 k,.int .i64 f] 79 (0,0)):=by
    rw[hW2];have:=World.alloc_heap_new (W.alloc (Obj.cells #[Value.int IntKind.i64 days] 129)) (Obj.cells #[Value.int IntKind.i64 s,Value.int IntKind.i64 k,Value.int IntKind.i64 f] 79);rwa [World.size_alloc] at this
  have hbel:Below W.heap.size W W2:=by rw[hW2];exact ((Below.refl _ _).alloc (Nat.le_refl _) _).alloc (by simp) _
  rw[← hW2]
  clear hW2
  have l4:W.heap.size<W2.heap.size:=(Array.getElem?_eq_some_iff.1 g4).1
  have l5:W.heap.size+1<W2.heap.size:=(Array.getElem?_eq_some_iff.1 g5).1
  have q4:W2.cell? ⟨W.heap.size,0,none⟩=some (.int .i64 days):=by simp[World.cell?,g4]
  have q50:W2.cell? ⟨W.heap.size+1,0,none⟩=some (.int .i64 s):=by simp[World.cell?,g5]
  have q51:W2.cell? ⟨W.heap.size+1,1,none⟩=some (.int .i64 k):=by simp[World.cell?,g5]
  have q52:W2.cell? ⟨W.heap.size+1,2,none⟩=some (.int .i64 f):=by simp[World.cell?,g5]
  have hb4:∀ st:Cls (Below W2.heap.size W2),st.W.heap[W.heap.size]?=some (.cells #[.int .i64 days] 129 (0,0)):=fun st=>(st.ok.block _ l4).trans g4
  generalize hp:W.heap.size=p4 at *
  have hcl:∃ s:Cls (Below (W2.heap.size) (W2)),(W2).drew=s.W:=⟨⟨_,(Below.refl _ _).drew⟩,rfl⟩
  have hne:Nonempty (Cls (Below (W2.heap.size) (W2))):=⟨⟨_,Below.refl _ _⟩⟩
  have hS:∀ (s:Cls (Below (W2.heap.size) (W2))) (b o:Nat),b<W2.heap.size→s.W.cell? ⟨b,o,none⟩=(W2).cell? ⟨b,o,none⟩:=fun s b o h=>s.ok.cell (p:=⟨b,o,none⟩) h
  have hSf:∀ (s:Cls (Below (W2.heap.size) (W2))) (b o:Nat),b<W2.heap.size→s.W.frozen? ⟨b,o,none⟩=(W2).frozen? ⟨b,o,none⟩:=fun s b o h=>s.ok.frozen (p:=⟨b,o,none⟩) h
  refine zfw (S:=Cls (Below W2.heap.size W2)) Cls.W (by kernel_rfl) (by kernel_rfl) hcl ?_
  clear hcl
  go_big_quiet_step (fail)
  refine quietV (v:=.pointer (some ⟨p4,0,none⟩)) (fun st=>?_) rfl ?_
  · have:=ycw days p4 st.W (hb4 st)
    simp[execOp,Act.eval,this]
  simp only[Act.put,List.setIfInBounds_toArray,List.set_cons_succ,List.set_cons_zero]
  refine quietV (v:=.agg #[]) (fun st=>?_) rfl ?_
  · have:=hld p4 st.W
    simp[execOp,Act.eval,this]
  simp only[Act.put,List.setIfInBounds_toArray,List.set_cons_succ,List.set_cons_zero]
  repeat (go_big_quiet_step ((first|(go_at_call 126;refine (yas _ _ _ _).mono ?_;rintro e w2 ⟨rfl,hb⟩;exact ⟨rfl,Cls.step _ (Nat.le_refl _) hb⟩)|(go_at_call 102;refine (zsj _ _ _ _ _ _).mono ?_;rintro e w2 ⟨rfl,hb⟩;exact ⟨rfl,Cls.step _ (Nat.le_refl _) hb⟩))))
  refine wpQuiet_nil ?_
  intro st
  have hfin:=hbel.trans (st.ok.mono (Nat.le_of_lt l4))
  clear hS hSf hne hb4 g4 g5 q4 q50 q51 q52 l4 l5
  generalize st.W=W3 at *
  clear st
  go_wp2
  exact ⟨rfl,_,results_tmp rfl _ _ _,rfl,by rw[hp];exact hfin⟩
end Go.Proofs.Ytlcjlcllbgjplaa

/- The deferred closures of package road; what a rest does, told. -/
namespace Go.Proofs.Ytlcjlcllbgjplaa
open Go Go.Proofs
namespace Ev
set_option maxRecDepth 100000
theorem dfHeight:DfOk Try.prog 37 119 true:=by
  obtain ⟨h1,h2⟩:=zbp (f:=37) Try.func37 rfl rfl rfl (by kernel_rfl) rfl rfl rfl rfl rfl rfl rfl
  exact ⟨⟨_,Try.func37,by kernel_rfl,by kernel_rfl⟩,h1,fun B off y x k n W hc hz hx=>h2 B off y x k n W hc hz (by simpa using hx)⟩
theorem dfSinks:DfOk Try.prog 45 119 true:=by
  obtain ⟨h1,h2⟩:=zbp (f:=45) Try.func45 rfl rfl rfl (by kernel_rfl) rfl rfl rfl rfl rfl rfl rfl
  exact ⟨⟨_,Try.func45,by kernel_rfl,by kernel_rfl⟩,h1,fun B off y x k n W hc hz hx=>h2 B off y x k n W hc hz (by simpa using hx)⟩
theorem dfBears:DfOk Try.prog 51 119 true:=by
  obtain ⟨h1,h2⟩:=zbp (f:=51) Try.func51 rfl rfl rfl (by kernel_rfl) rfl rfl rfl rfl rfl rfl rfl
  exact ⟨⟨_,Try.func51,by kernel_rfl,by kernel_rfl⟩,h1,fun B off y x k n W hc hz hx=>h2 B off y x k n W hc hz (by simpa using hx)⟩
theorem dfRest:DfOk Try.prog 55 119 true:=by
  obtain ⟨h1,h2⟩:=zbp (f:=55) Try.func55 rfl rfl rfl (by kernel_rfl) rfl rfl rfl rfl rfl rfl rfl
  exact ⟨⟨_,Try.func55,by kernel_rfl,by kernel_rfl⟩,h1,fun B off y x k n W hc hz hx=>h2 B off y x k n W hc hz (by simpa using hx)⟩
theorem dfClash:DfOk Try.prog 60 119 true:=by
  obtain ⟨h1,h2⟩:=zbp (f:=60) Try.func60 rfl rfl rfl (by kernel_rfl) rfl rfl rfl rfl rfl rfl rfl
  exact ⟨⟨_,Try.func60,by kernel_rfl,by kernel_rfl⟩,h1,fun B off y x k n W hc hz hx=>h2 B off y x k n W hc hz (by simpa using hx)⟩
theorem dfMost:DfOk Try.prog 72 119 true:=by
  obtain ⟨h1,h2⟩:=zbp (f:=72) Try.func72 rfl rfl rfl (by kernel_rfl) rfl rfl rfl rfl rfl rfl rfl
  exact ⟨⟨_,Try.func72,by kernel_rfl,by kernel_rfl⟩,h1,fun B off y x k n W hc hz hx=>h2 B off y x k n W hc hz (by simpa using hx)⟩
theorem dfBelow:DfOk Try.prog 78 119 true:=by
  obtain ⟨h1,h2⟩:=zbp (f:=78) Try.func78 rfl rfl rfl (by kernel_rfl) rfl rfl rfl rfl rfl rfl rfl
  exact ⟨⟨_,Try.func78,by kernel_rfl,by kernel_rfl⟩,h1,fun B off y x k n W hc hz hx=>h2 B off y x k n W hc hz (by simpa using hx)⟩
theorem dfWeak:DfOk Try.prog 82 119 true:=by
  obtain ⟨h1,h2⟩:=zbp (f:=82) Try.func82 rfl rfl rfl (by kernel_rfl) rfl rfl rfl rfl rfl rfl rfl
  exact ⟨⟨_,Try.func82,by kernel_rfl,by kernel_rfl⟩,h1,fun B off y x k n W hc hz hx=>h2 B off y x k n W hc hz (by simpa using hx)⟩
theorem zqr:∀ {l:List Nat} {n:Nat},memN l n=true→n∈l
  |[],n,h=>by cases h
  |x::l,n,h=>by
    have e:memN (x::l) n=(Bool.rec (memN l n) true (Nat.beq n x):Bool):=rfl
    rw[e] at h
    cases hb:Nat.beq n x with
    |true=>rw[Nat.eq_of_beq_eq_true hb];exact List.mem_cons_self ..
    |false=>rw[hb] at h;exact List.mem_cons_of_mem _ (zqr h)
theorem dfk_ok:∀ f t ag,(Bool.rec none (some (119,true)) (memN closures f):Option (Nat × Bool))=some (t,ag)→DfOk Try.prog f t ag:=by
  intro f t ag h
  cases hb:memN closures f with
  |false=>rw[hb] at h;cases h
  |true=>
    rw[hb] at h
    cases h
    have hm:=zqr hb
    simp only[closures,List.mem_cons,List.not_mem_nil,or_false] at hm
    rcases hm with rfl|rfl|rfl|rfl|rfl|rfl|rfl|rfl
    · exact dfHeight
    · exact dfSinks
    · exact dfBears
    · exact dfRest
    · exact dfClash
    · exact dfMost
    · exact dfBelow
    · exact dfWeak
theorem yaa {d k f h:Int}{v:AV}(hv:restV d k f h=some v):v=.int .i64 (min f (IntKind.i64.wrap (h+IntKind.i64.wrap (d * k)))):=by
  unfold restV at hv
  cases hb:Q.andB (Q.fits .i64 (d * k)) (Q.fits .i64 (Q.addI h (d * k))) with
  |false=>rw[hb] at hv;cases hv
  |true=>
    rw[hb] at hv
    rw[Q.andB_eq,Bool.and_eq_true] at hb
    rw[Q.fits_wrap hb.1,← Q.addI_eq,Q.fits_wrap hb.2]
    cases hv
    rw[Q.leI_eq,Q.addI_eq]
    by_cases hle:f≤h+d * k
    · simp[hle,Int.min_eq_left hle]
    · simp[hle];omega
theorem zqi (args:List AV)(v:AV)(rargs:Array Value)(W:World)(L:Nat→Prop)(μ:Mu)(hv:restG args=some v)(hr:VL W L μ args rargs.toList):
    CallsIn Fence.wide 0 Try.prog 127 rargs W fun e W'=>(∃ w,e=.returned w∧∀ W L μ,VR W L μ v w)∧RowKit.Below W.heap.size W W':=by
  unfold restG at hv
  split at hv
  · rename_i d s k f h l
    obtain ⟨xs,hxs⟩:∃ xs,rargs.toList=xs:=⟨_,rfl⟩
    rw[hxs] at hr
    have hl:=hr.1
    match xs,hl,hr with
    |[x0,x1,x2,x3],_,hr=>
      obtain ⟨a0,rfl,v0⟩:=vr_agg hr.head
      obtain ⟨a1,rfl,v1⟩:=vr_agg hr.tail.head
      have e2:=vr_int hr.tail.tail.head
      have e3:=vr_int hr.tail.tail.tail.head
      subst e2 e3
      have l0:=v0.1
      have l1:=v1.1
      match a0,l0,v0,a1,l1,v1 with
      |[y0],_,v0,[z0,z1,z2],_,v1=>
        have f0:=vr_int v0.head
        have f1:=vr_int v1.head
        have f2:=vr_int v1.tail.head
        have f3:=vr_int v1.tail.tail.head
        subst f0 f1 f2 f3
        have:rargs=#[.agg #[.int .i64 d],.agg #[.int .i64 s,.int .i64 k,.int .i64 f],.int .i64 h,.int .i64 l]:=Array.ext' (by rw[hxs])
        subst this
        refine (callsIn_wide.2 (zzz d s k f h l W)).mono ?_
        rintro e W' ⟨rfl,hb⟩
        exact ⟨⟨_,rfl,fun _ _ _=>by rw[yaa hv];exact .int⟩,hb⟩
  · cases hv
theorem zkb : ∃ F, Try.prog.funcs[127]? = some F ∧ (F.name == "runtime.NumGoroutine")=false∧F.body.isNone=false:=⟨_,Try.func127,by kernel_rfl,by kernel_rfl⟩
end Ev
end Go.Proofs.Ytlcjlcllbgjplaa

/- What was found by the evaluator with arguments that are only read, told of calls of the program. -/
namespace Go.Proofs.Ytlcjlcllbgjplaa
open Go Go.RowKit
namespace Ev
section
variable {P:Program} {W:World} {L:Nat→Prop} {μ:Mu} {H:List AB}
theorem zvn {k:Nat}{v:AV}{news:List AV}(h:slCells k H v=some news):∃ n,slLen H v=some n:=by
  unfold slCells at h
  split at h
  · exact ⟨_,rfl⟩
  · exact ⟨_,rfl⟩
  · rename_i b off n k'
    split at h
    · split at h
      · rename_i cs hcs
        exact ⟨n,by simp[slLen,alive,hcs]⟩
      · cases h
    · cases h
  · cases h
theorem znj (hs:Sim P W L μ H){k:Nat}(hk:0<k){v:AV}{x:Value}(hv:VR W L μ v x){es:List AV}(hes:∀ (i:Nat) (e:AV),es[i]?=some e→e.cells.length=k)(hn:∀ e∈es,∀ y∈e.cells,∃ (kd:IntKind) (n:Int),y=.int kd n)(hc:slCells k H v=some (elemCells es)):
    VR W (fun _=>False) nomu (.vs k es) x:=by
  obtain ⟨n,hl⟩:=zvn hc
  obtain ⟨p,cap,rfl,h1,h2,h3⟩:=zgz hs hk hv hc hl
  obtain ⟨e1,e2⟩:=zem hk hes
  have hnm:n=es.length:=Nat.eq_of_mul_eq_mul_right hk (by omega)
  subst hnm
  by_cases h0:es.length=0
  · have:es=[]:=List.eq_nil_of_length_eq_zero h0
    subst this
    exact .vs0
  · rcases h3 with h3|⟨b,o,rfl,hr⟩
    · exact absurd h3 h0
    · have key:∀ (i:Nat) (e:AV) (j:Nat) (y:AV),es[i]?=some e→e.cells[j]?=some y→∃ r,W.cell? ⟨b,o+i * k+j,none⟩=some r∧VR W (fun _=>False) nomu y r:=by
        intro i e j y he hy
        have hjk:j<k:=by have:=(List.getElem?_eq_some_iff.1 hy).1;rw[hes i e he] at this;exact this
        have hi:=(List.getElem?_eq_some_iff.1 he).1
        have hq:i * k+j<(elemCells es).length:=by
          rw[e1]
          have:(i+1) * k≤es.length * k:=Nat.mul_le_mul_right k hi
          rw[Nat.add_mul,Nat.one_mul] at this
          omega
        obtain ⟨e',g1,g2⟩:=e2 _ _ (List.getElem?_eq_getElem hq)
        have d1:(i * k+j) / k=i:=by rw[Nat.mul_comm,Nat.mul_add_div hk,Nat.div_eq_of_lt hjk,Nat.add_zero]
        have d2:(i * k+j) % k=j:=by rw[Nat.mul_comm,Nat.mul_add_mod,Nat.mod_eq_of_lt hjk]
        rw[d1,he] at g1
        cases g1
        rw[d2,hy] at g2
        obtain ⟨r,q1,q2⟩:=hr _ _ (List.getElem?_eq_getElem hq)
        rw[← Option.some.inj g2] at q2
        obtain ⟨kd,m,rfl⟩:=hn e (List.mem_of_getElem? he) y (List.mem_of_getElem? hy)
        refine ⟨r,by rw[Nat.add_assoc];exact q1,?_⟩
        cases q2 with
        |dead h=>simp[headRef] at h
        |int=>exact .int
      refine .vs (fun i j=>(W.cell? ⟨b,o+i * k+j,none⟩).getD undef) h2 hes (fun i e j y he hy=>⟨id,?_⟩) fun i e j y he hy=>?_
      · obtain ⟨r,q1,_⟩:=key i e j y he hy
        rw[q1];rfl
      · obtain ⟨r,q1,q2⟩:=key i e j y he hy
        rw[q1];exact q2
theorem zzv:Sim P W (fun _=>False) nomu []:={ live:=fun i B h=>(by cases h),dead:=fun i b h _=>(by cases h),out:=fun _ _=>rfl,inj:=fun i j B h _=>(by cases h),lt:=fun b h=>h.elim }
theorem zuz {C:Cfg}(hT:TblOk P C){m f:Nat}{args:List AV}{x:CRes}{H':List AB}{tc:List Nat}(h:Ev.call C m (.fn (.func f) [] []) args []=some (x,H',tc))(hG:Globs C W (fun _=>False)){rargs:Array Value}(hv:VL W (fun _=>False) nomu args rargs.toList):
    CallsIn Fence.wide 0 P f rargs W fun e W'=>(∃ L' μ',CRel W' L' μ' x e∧Sim P W' L' μ' H'∧∀ b,L' b→W.heap.size≤b)∧Below W.heap.size W W':=by
  have hok:=zpq hT m
  obtain ⟨r,W1,h1,h2⟩:=hok.sound (tc0:=[]) h (Hp.start (P:=P) zzv) hG
    (rf:=.func (.func f) #[] #[]) (rargs:=rargs) (.fn (rf:=[]) (rc:=[]) (by intro l;simp) rfl (by intro i x r h;simp at h) rfl (by intro i x r h;simp at h)) hv
  have e:(do let d ← Deferred.ofValue (.func (.func f) #[] #[]) rargs;invoke d.target d.args:Sem Next).run P W=.ok (.enter f rargs) W:=by
    simp only[Deferred.ofValue,Sem.run_bind,Sem.run_pure,Result.andThen,invoke]
    have:=hok.fn h rargs W
    simpa using this
  rw[e] at h1
  cases h1
  refine CallsIn.mono h2 ?_
  rintro en W' ⟨L',μ',c1,c2,_⟩
  refine ⟨⟨L',μ',c1,c2.sim,fun b hb=>?_⟩,c2.env.1,c2.env.2.1,c2.env.2.2,c2.size,fun k hk=>c2.same k hk fun i _ hi=>by cases hi⟩
  rcases c2.new b hb with h|h
  · exact h.elim
  · exact h
def Bare:AV→Prop
  |.int _ _=>True
  |.bool _=>True
  |.agg cs=>∀ x∈cs,(∃ k n,x=.int k n)∨∃ b,x=.bool b
  |.tup cs=>∀ x∈cs,(∃ k n,x=.int k n)∨(∃ b,x=.bool b)∨∃ l,x=.agg l∧∀ y∈l,∃ k n,y=.int k n
  |_=>False
theorem zfy {W':World}{L':Nat→Prop}{μ':Mu}{x:AV}{r:Value}(hx:(∃ k n,x=.int k n)∨∃ b,x=.bool b)(h:VR W L μ x r):VR W' L' μ' x r:=by
  rcases hx with ⟨k,n,rfl⟩|⟨b,rfl⟩
  · cases h with
    |dead h=>simp[headRef] at h
    |int=>exact .int
  · cases h with
    |dead h=>simp[headRef] at h
    |bool=>exact .bool
theorem ybx {v:AV}(hb:Bare v){W':World}{L':Nat→Prop}{μ':Mu}{r:Value}(h:VR W L μ v r):VR W' L' μ' v r:=by
  cases v with
  |int k n=>exact zfy (.inl ⟨k,n,rfl⟩) h
  |bool b=>exact zfy (.inr ⟨b,rfl⟩) h
  |agg cs=>
    cases h with
    |dead h=>simp[headRef] at h
    |agg h1 h2=>exact .agg h1 fun i x r hx hr=>zfy (hb x (List.mem_of_getElem? hx)) (h2 i x r hx hr)
  |tup cs=>
    cases h with
    |dead h=>simp[headRef] at h
    |tup h1 h2=>
      refine .tup h1 fun i x r hx hr=>?_
      rcases hb x (List.mem_of_getElem? hx) with h|h|⟨l,rfl,hl⟩
      · exact zfy (.inl h) (h2 i x r hx hr)
      · exact zfy (.inr h) (h2 i x r hx hr)
      · have:=h2 i _ r hx hr
        cases this with
        |dead h=>simp[headRef] at h
        |agg g1 g2=>exact .agg g1 fun i x r hx hr=>zfy (.inl (hl x (List.mem_of_getElem? hx))) (g2 i x r hx hr)
  |_=>exact hb.elim
theorem zmk {C:Cfg}(hT:TblOk P C){m f:Nat}{args:List AV}{v:AV}{H':List AB}{tc:List Nat}(h:Ev.call C m (.fn (.func f) [] []) args []=some (.ret v,H',tc))(hb:Bare v)(hG:Globs C W (fun _=>False)){rargs:Array Value}(hv:VL W (fun _=>False) nomu args rargs.toList):
    CallsIn Fence.wide 0 P f rargs W fun e W'=>(∃ w,e=.returned w∧∀ W L μ,VR W L μ v w)∧Below W.heap.size W W':=by
  refine (zuz hT h hG hv).mono ?_
  rintro en W' ⟨⟨L',μ',c1,_⟩,c2⟩
  cases en<;>simp only[CRel] at c1
  exact ⟨⟨_,rfl,fun _ _ _=>ybx hb c1⟩,c2⟩
end
end Ev
end Go.Proofs.Ytlcjlcllbgjplaa

/- Roads as values of the evaluator, wherever their lists lie. -/
namespace Go.Proofs.Ytlcjlcllbgjplaa
open Go
namespace Ev
namespace Ro
open K
set_option maxRecDepth 100000
def ptCs:List Rd.Pt→List AV
  |[]=>[]
  |p::l=>.int .i64 p.height.lo::.int .i64 p.height.hi::.int .i64 p.stiff.lo::.int .i64 p.stiff.hi::.int .i64 p.rise.lo::.int .i64 p.rise.hi::.int .i64 p.full::ptCs l
def evCs:List Rd.Evt→List AV
  |[]=>[]
  |v::l=>.int .i64 v.kind::.int .i64 v.load.lo::.int .i64 v.load.hi::.int .i64 v.days::.int .i64 v.part::.int .i64 v.shows.lo::.int .i64 v.shows.hi::evCs l
def ptsC:List AV→Option (List Rd.Pt)
  |[]=>some []
  |.int .i64 a::.int .i64 b::.int .i64 c::.int .i64 d::.int .i64 e::.int .i64 f::.int .i64 g::l=>(ptsC l).map (⟨⟨a,b⟩,⟨c,d⟩,⟨e,f⟩,g⟩::·)
  |_=>none
def evsC:List AV→Option (List Rd.Evt)
  |[]=>some []
  |.int .i64 a::.int .i64 b::.int .i64 c::.int .i64 d::.int .i64 e::.int .i64 f::.int .i64 g::l=>(evsC l).map (⟨a,⟨b,c⟩,d,e,⟨f,g⟩⟩::·)
  |_=>none
@[simp] theorem ycf:∀ l,ptsC (ptCs l)=some l
  |[]=>rfl
  |p::l=>by simp[ptCs,ptsC,ycf l]
@[simp] theorem ydc:∀ l,evsC (evCs l)=some l
  |[]=>rfl
  |e::l=>by simp[evCs,evsC,ydc l]
theorem ycg:∀ {cs l},ptsC cs=some l→cs=ptCs l:=by
  intro cs
  induction cs using ptsC.induct with
  |case1=>intro l h;cases h;rfl
  |case2 a b c d e f g cs ih=>
    intro l h
    obtain ⟨l',h1,rfl⟩:=Option.map_eq_some_iff.1 h
    rw[ih h1];rfl
  |case3 cs h1 h2=>intro l h;unfold ptsC at h;split at h<;>first|exact absurd rfl h1|exact (h2 _ _ _ _ _ _ _ _ rfl).elim|cases h
theorem ydd:∀ {cs l},evsC cs=some l→cs=evCs l:=by
  intro cs
  induction cs using evsC.induct with
  |case1=>intro l h;cases h;rfl
  |case2 a b c d e f g cs ih=>
    intro l h
    obtain ⟨l',h1,rfl⟩:=Option.map_eq_some_iff.1 h
    rw[ih h1];rfl
  |case3 cs h1 h2=>intro l h;unfold evsC at h;split at h<;>first|exact absurd rfl h1|exact (h2 _ _ _ _ _ _ _ _ rfl).elim|cases h
@[simp] theorem zrk:∀ l:List Rd.Pt,elemCells (l.map ptE)=ptCs l
  |[]=>rfl
  |p::l=>by simp[elemCells,ptE,AV.cells,ptCs,zrk l]
theorem zgm:∀ l,(ptCs l).length=l.length * 7
  |[]=>rfl
  |p::l=>by simp[ptCs,zgm l];omega
theorem zql:∀ l m,ptCs (l++m)=ptCs l++ptCs m
  |[],_=>rfl
  |p::l,m=>by simp[ptCs,zql l m]
theorem zfn:∀ l,(ptCs l).all AV.plain=true
  |[]=>rfl
  |p::l=>by simp only[ptCs,List.all_cons,zfn l];rfl
@[simp] theorem zrl:∀ l:List Rd.Evt,elemCells (l.map evE)=evCs l
  |[]=>rfl
  |p::l=>by simp[elemCells,evE,AV.cells,evCs,zrl l]
theorem zdr:∀ l,(evCs l).length=l.length * 7
  |[]=>rfl
  |p::l=>by simp[evCs,zdr l];omega
theorem zlz:∀ l m,evCs (l++m)=evCs l++evCs m
  |[],_=>rfl
  |p::l,m=>by simp[evCs,zlz l m]
theorem zci:∀ l,(evCs l).all AV.plain=true
  |[]=>rfl
  |p::l=>by simp only[evCs,List.all_cons,zci l];rfl
def ptsV (H:List AB)(v:AV)(l:List Rd.Pt):Prop:=slCells 7 H v=some (ptCs l)
def evsV (H:List AB)(v:AV)(l:List Rd.Evt):Prop:=slCells 7 H v=some (evCs l)
def roadOf (H:List AB)(v:AV):Option Rd.Road:=match v with
  | .agg [pv, ev] => (match (slCells 7 H pv).bind ptsC, (slCells 7 H ev).bind evsC with
    |some ps,some es=>if ps.length≤40∧es.length≤50 then some ⟨ps,es⟩ else none
    |_,_=>none)
  |_=>none
theorem zdw {H:List AB}{pv ev:AV}{ps:List Rd.Pt}{es:List Rd.Evt}(h1:ptsV H pv ps)(h2:evsV H ev es)(hp:ps.length≤40)(he:es.length≤50):roadOf H (.agg [pv,ev])=some ⟨ps,es⟩:=by
  unfold ptsV at h1
  unfold evsV at h2
  simp[roadOf,h1,h2,hp,he]
theorem zka {H:List AB}{v:AV}{r:Rd.Road}(h:roadOf H v=some r):∃ pv ev,v=.agg [pv,ev]∧ptsV H pv r.parts∧evsV H ev r.events∧r.parts.length≤40∧r.events.length≤50:=by
  unfold roadOf at h
  split at h
  · rename_i pv ev
    split at h
    · rename_i ps es h1 h2
      split at h
      · rename_i hb
        cases h
        obtain ⟨c1,e1,f1⟩:=Option.bind_eq_some_iff.1 h1
        obtain ⟨c2,e2,f2⟩:=Option.bind_eq_some_iff.1 h2
        exact ⟨pv,ev,rfl,by unfold ptsV;rw[e1,ycg f1],by unfold evsV;rw[e2,ydd f2],hb.1,hb.2⟩
      · cases h
    · cases h
  · cases h
theorem zhb (H:List AB)(l:List Rd.Pt):ptsV H (.vs 7 (l.map ptE)) l:=by simp[ptsV,slCells]
theorem yae (H:List AB):ptsV H .nils []:=rfl
theorem yce {H:List AB}{b n:Nat}{l:List Rd.Pt}(h:H[b]?=some (.cells (ptCs l)))(hn:n=l.length):ptsV H (.sl b 0 n 7) l:=by
  subst hn
  simp only[ptsV,slCells,h,if_true,Nat.zero_add,zgm,Nat.le_refl,List.drop_zero]
  rw[List.take_of_length_le (by rw[zgm];omega)]
theorem zly (H:List AB)(l:List Rd.Evt):evsV H (.vs 7 (l.map evE)) l:=by simp[evsV,slCells]
theorem ybc (H:List AB):evsV H .nils []:=rfl
theorem zjg {H:List AB}{b n:Nat}{l:List Rd.Evt}(h:H[b]?=some (.cells (evCs l)))(hn:n=l.length):evsV H (.sl b 0 n 7) l:=by
  subst hn
  simp only[evsV,slCells,h,if_true,Nat.zero_add,zdr,Nat.le_refl,List.drop_zero]
  rw[List.take_of_length_le (by rw[zdr];omega)]
theorem zqh (H:List AB)(r:Rd.Road)(hp:r.parts.length≤40)(he:r.events.length≤50):roadOf H (.agg (roadCs r))=some r:=zdw (zhb H r.parts) (zly H r.events) hp he
end Ro
end Ev
end Go.Proofs.Ytlcjlcllbgjplaa

/- Package road, told: the configuration that its functions were gone through in. -/
namespace Go.Proofs.Ytlcjlcllbgjplaa
open Go Go.Proofs Go.RowKit
namespace Ev
namespace Ro
open K
set_option maxRecDepth 100000
set_option maxHeartbeats 4000000
theorem zbn (W:World)(L:Nat→Prop)(C:Cfg):Globs C W L:=fun g cs h=>by cases h
theorem tblQ:TblOk Try.prog cfgQ:=by
  refine ⟨fun f fn h=>FT.find_all zoi h,fun f g h=>?_,fun _ _ h=>(by cases h),dfk_ok⟩
  have e:cfgQ.ext f=(Bool.rec none (some restG) (Nat.beq f 127):Option (List AV→Option AV)):=rfl
  rw[e] at h
  cases hb:Nat.beq f 127 with
  |false=>rw[hb] at h;cases h
  |true=>
    rw[hb] at h
    cases h
    obtain rfl:=Nat.eq_of_beq_eq_true hb
    exact ⟨zkb,zqi⟩
noncomputable def allF (p:AFunc→Bool):FT→Bool:=fun t=>FT.rec true (fun _ f _ _ ihl ihr=>Q.andB (p f) (Q.andB ihl ihr)) t
theorem zmg {p:AFunc→Bool}:∀ {t:FT},allF p t=true→FT.All (fun _ f=>p f=true) t
  |.leaf,_=>trivial
  |.node k f l r,h=>by
    have e:allF p (.node k f l r)=Q.andB (p f) (Q.andB (allF p l) (allF p r)):=rfl
    rw[e,Q.andB_eq,Q.andB_eq,Bool.and_eq_true,Bool.and_eq_true] at h
    exact ⟨h.1,zmg h.2.1,zmg h.2.2⟩
theorem all_ok:allF Q.okF fnTree=true:=by kernel_rfl
theorem quickQ:Q.Quick cfgQ:=⟨fun _=>rfl,fun _ _ h=>FT.find_all (zmg all_ok) h⟩
theorem zpm:∃ H' tc,Ev.call cfgQ 40 (.fn (.func 18) [] []) [.agg (roadCs clashRd)] []=some (.ret (.tup [.int .i64 12,.int .i64 0]),H',tc):=by
  have h:=ydi
  generalize hr:Q.callQ cfgQ 40 (.fn (.func 18) [] []) [.agg (roadCs clashRd)] (.e Q.cap) 0=r at h
  unfold clashB at h
  split at h
  · rename_i a b hp m tc
    rw[Q.andB_eq,Bool.and_eq_true] at h
    have ha:=Nat.eq_of_beq_eq_true h.1
    have hb:=Nat.eq_of_beq_eq_true h.2
    subst ha hb
    exact ⟨_,tc,(Q.found quickQ Q.wh_empty hr).1⟩
  · cases h
noncomputable def cfgK:Cfg where
  fns:=FT.find fnTree
  glob:=fun _=>none
  dfk:=fun f=>Bool.rec none (some (119,true)) (memN closures f)
  ext:=fun f=>Bool.rec none (some restG) (Nat.beq f 127)
  exth:=fun _=>none
  calm:=true
  whole:=fun _=>true
theorem known (f : Nat) (h : ∃ F, Try.prog.funcs[f]? = some F ∧ (F.name == "runtime.NumGoroutine")=false∧∃ af:AFunc,compFn Try.prog F=some af.strip):∃ F,Try.prog.funcs[f]?=some F∧(F.name== "runtime.NumGoroutine")=false∧F.body.isNone=false:=by
  obtain ⟨F,f1,f2,af,f3⟩:=h
  obtain ⟨c,g1,_⟩:=zjl f3
  exact ⟨F,f1,f2,by rw[g1];rfl⟩
theorem tblK:TblOk Try.prog cfgK:=by
  refine ⟨fun f fn h=>FT.find_all zoi h,fun f g h=>?_,fun _ _ h=>(by cases h),dfk_ok⟩
  have e:cfgK.ext f=(Bool.rec none (some restG) (Nat.beq f 127):Option (List AV→Option AV)):=rfl
  rw[e] at h
  cases hb:Nat.beq f 127 with
  |false=>rw[hb] at h;cases h
  |true=>
    rw[hb] at h
    cases h
    obtain rfl:=Nat.eq_of_beq_eq_true hb
    exact ⟨zkb,zqi⟩
end Ro
end Ev
end Go.Proofs.Ytlcjlcllbgjplaa
