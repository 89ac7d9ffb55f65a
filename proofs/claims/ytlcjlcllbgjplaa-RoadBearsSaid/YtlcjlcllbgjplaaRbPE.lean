/- Package road, gone through: numbers, yielded; the first one that is so. -/
import Derived.Test.YtlcjlcllbgjplaaRbPD
/- Package road, gone through: does a road surely bear a load? -/
namespace Go.Proofs.Ytlcjlcllbgjplaa
open Go
namespace Ev
namespace Ro
open K
set_option maxRecDepth 100000
set_option maxHeartbeats 4000000
theorem way_ok {r:Rd.Road}(hr:Rd.Fine r){n:Nat}(hn:n<r.parts.length){ls:List Int}{k:Nat}{w:Rd.Way}(hw:w∈Rd.waysR r n ls k):TrOk w.part∧0≤w.first.lo∧w.first.lo≤w.first.hi∧w.first.hi≤60:=by
  obtain ⟨h1,h2,h3⟩:=(Rd.mem_ways r n ls k w).1 hw
  have hb:=Rd.firstT_bd hr hn w.part ls k r.events.length (Nat.le_refl _)
  rw[Rd.firstT_all,← h2] at hb
  exact ⟨tr_ok hr hn h1,hb.1,h3,hb.2⟩
def LeftC (call:CallF)(r:Rd.Road):Prop:=∀ (H:List AB) (xb mb eb:Nat),Rx r xb mb eb H→∀ w:Rd.Way,TrOk w.part→∀ h:Int,-1000≤h→h≤1000→∀ f,LdOk f→∀ days load:Int,LOk days load →
  call (.fn (.func 89) [] []) [.ptr xb 0,.agg [.int .i64 w.part.stiff,.int .i64 w.part.rise,.int .i64 w.part.full,.int .i64 w.first.lo,.int .i64 w.first.hi],.int .i64 h,.agg (arr10 f),.int .i64 days,.int .i64 load] H=some (.ret (.int .i64 (Rd.leftR r w h (lsOf r.events.length f) days load)),H,[])
theorem zuc (C:Cfg)(call:CallF)(r:Rd.Road)(hLf:LeftC call r)(H:List AB)(xb mb eb:Nat)(hX:Rx r xb mb eb H)(w:Rd.Way)(hp:TrOk w.part)(hw:0≤w.first.lo∧w.first.lo≤60)(f:Nat→Int)(hf:LdOk f)(days load:Int)(hL:LOk days load)(b1 b2 b3 b4:Nat)(h1:H[b1]?=some (.cells [.ptr xb 0]))(h2:H[b2]?=some (.cells (arr10 f)))(h3:H[b3]?=some (.cells [.int .i64 days]))(h4:H[b4]?=some (.cells [.int .i64 load])):
    Does (ev C call H.length none af88.body { tm:=tmA af88.ntmps (zipI 0 [.agg (wayCs w),.ptr b1 0,.ptr b2 0,.ptr b3 0,.ptr b4 0] []),df:=[],hp:=H,tc:=[] })
      (Ends C H.length af88.res fun v _hp tc=>v=.bool (decide (Rd.leftR r w w.first.lo (lsOf r.events.length f) days load<0))∧tc=[]):=by
  have hc:=fun K=>hLf (H++K) xb mb eb (hX.app K) w hp w.first.lo (by omega) (by omega) f hf days load hL
  obtain ⟨x0,x1,x2,x3,x4,x5⟩:=bk' h1
  obtain ⟨y0,y1,y2,y3,y4,y5⟩:=bk' h2
  obtain ⟨z0,z1,z2,z3,z4,z5⟩:=bk' h3
  obtain ⟨w0,w1,w2,w3,w4,w5⟩:=bk' h4
  have hl:=zbn f
  have hall:=zca f
  generalize Rd.leftR r w w.first.lo (lsOf r.events.length f) days load=u at *
  clear hLf h1 h2 h3 h4 hX hp hw hf hL
  unfold af88
  generalize arr10 f=R at *
  simp only[zipI,wayCs] at *
  (repeat (first|(with_reducible apply zal;(focus ((conv=>lhs;simp[*,ev1,wantG,spineK,spine,float,xnew,xval,xeff,zaa,zab,zam,zae,zad,addFl,cellsOf,pickC,alive,slLen,slFt,binI,maxA,maxK,minA,minK,aeqK,aeqS,AV.cells, spA,zac,fillA,setAt,bitsI,nat_nn,zan,AV.plain,apart,Nat.testBit_eq_decide_div_mod_eq])<;>exact rfl));simp only[addFl])|((with_reducible first|apply zao|apply zaq|apply zak|apply zai|apply zag|apply zap|apply zaj|apply zas|(apply zah;· simp[*,zaa])|(apply zaf;· simp[*,zaa]));try simp only[Then,Ops])|simp only[Nat.reduceEqDiff,reduceIte,OutB,Then]))
  exact zat (.inl rfl) rfl (by simp) (by simp only[resL,resOf,zar];simp[*,resV]) ⟨rfl,rfl⟩
theorem zza (C:Cfg)(call:CallF)(r:Rd.Road)(hLf:LeftC call r)(H:List AB)(xb mb eb:Nat)(hX:Rx r xb mb eb H)(w:Rd.Way)(hp:TrOk w.part)(hw:0≤w.first.hi∧w.first.hi≤60)(f:Nat→Int)(hf:LdOk f)(load:Int)(hL:LOk 0 load)(b1 b2 b4:Nat)(h1:H[b1]?=some (.cells [.ptr xb 0]))(h2:H[b2]?=some (.cells (arr10 f)))(h4:H[b4]?=some (.cells [.int .i64 load])):
    Does (ev C call H.length none af90.body { tm:=tmA af90.ntmps (zipI 0 [.agg (wayCs w),.ptr b1 0,.ptr b2 0,.ptr b4 0] []),df:=[],hp:=H,tc:=[] })
      (Ends C H.length af90.res fun v _hp tc=>v=.bool (decide (0≤Rd.leftR r w w.first.hi (lsOf r.events.length f) 0 load))∧tc=[]):=by
  have hc:=fun K=>hLf (H++K) xb mb eb (hX.app K) w hp w.first.hi (by omega) (by omega) f hf 0 load hL
  obtain ⟨x0,x1,x2,x3,x4,x5⟩:=bk' h1
  obtain ⟨y0,y1,y2,y3,y4,y5⟩:=bk' h2
  obtain ⟨w0,w1,w2,w3,w4,w5⟩:=bk' h4
  have hl:=zbn f
  have hall:=zca f
  generalize Rd.leftR r w w.first.hi (lsOf r.events.length f) 0 load=u at *
  clear hLf h1 h2 h4 hX hp hw hf hL
  unfold af90
  generalize arr10 f=R at *
  simp only[zipI,wayCs] at *
  (repeat (first|(with_reducible apply zal;(focus ((conv=>lhs;simp[*,ev1,wantG,spineK,spine,float,xnew,xval,xeff,zaa,zab,zam,zae,zad,addFl,cellsOf,pickC,alive,slLen,slFt,binI,maxA,maxK,minA,minK,aeqK,aeqS,AV.cells, spA,zac,fillA,setAt,bitsI,nat_nn,zan,AV.plain,apart,Nat.testBit_eq_decide_div_mod_eq])<;>exact rfl));simp only[addFl])|((with_reducible first|apply zao|apply zaq|apply zak|apply zai|apply zag|apply zap|apply zaj|apply zas|(apply zah;· simp[*,zaa])|(apply zaf;· simp[*,zaa]));try simp only[Then,Ops])|simp only[Nat.reduceEqDiff,reduceIte,OutB,Then]))
  exact zat (.inl rfl) rfl (by simp) (by simp only[resL,resOf,zar];simp[*,resV]) ⟨rfl,rfl⟩
def Sure1C (call:CallF)(r:Rd.Road):Prop:=∀ (H:List AB) (xb mb eb:Nat),Rx r xb mb eb H→∀ w:Rd.Way,TrOk w.part→0≤w.first.lo∧w.first.lo≤60→∀ f,LdOk f→∀ days load:Int,LOk days load→∀ b1 b2 b3 b4:Nat,H[b1]?=some (.cells [.ptr xb 0])→H[b2]?=some (.cells (arr10 f))→H[b3]?=some (.cells [.int .i64 days])→H[b4]?=some (.cells [.int .i64 load]) →
  call (.fn (.func 88) [] [.ptr b1 0,.ptr b2 0,.ptr b3 0,.ptr b4 0]) [.agg (wayCs w)] H=some (.ret (.bool (decide (Rd.leftR r w w.first.lo (lsOf r.events.length f) days load<0))),H,[])
def May1C (call:CallF)(r:Rd.Road):Prop:=∀ (H:List AB) (xb mb eb:Nat),Rx r xb mb eb H→∀ w:Rd.Way,TrOk w.part→0≤w.first.hi∧w.first.hi≤60→∀ f,LdOk f→∀ load:Int,LOk 0 load→∀ b1 b2 b4:Nat,H[b1]?=some (.cells [.ptr xb 0])→H[b2]?=some (.cells (arr10 f))→H[b4]?=some (.cells [.int .i64 load]) →
  call (.fn (.func 90) [] [.ptr b1 0,.ptr b2 0,.ptr b4 0]) [.agg (wayCs w)] H=some (.ret (.bool (decide (0≤Rd.leftR r w w.first.hi (lsOf r.events.length f) 0 load))),H,[])
def lowW (r:Rd.Road)(days load:Int)(ls:List Int)(w:Rd.Way):Bool:=decide (Rd.leftR r w w.first.lo ls days load<0)
def badL (r:Rd.Road)(days load:Int)(ls:List Int)(i:Nat):Bool:=(Rd.waysR r i ls (Rd.everyR r)).any (lowW r days load ls)
theorem zub (r:Rd.Road)(days load:Int):Rd.sureR r days load=(Rd.toldR r (Rd.everyR r)).all fun ls=>(List.range r.parts.length).all fun i=>!badL r days load ls i:=by
  unfold Rd.sureR badL lowW
  congr 1;funext ls
  congr 1;funext i
  rw[List.not_any_eq_all_not]
  congr 1;funext w
  by_cases h:0≤Rd.leftR r w w.first.lo ls days load
  · simp[h]<;>omega
  · simp[h]<;>omega
theorem zua (C:Cfg)(hC:C.calm=true)(hwh:∀ f,C.whole f=true)(n0 n1 m:Nat)(r:Rd.Road)(hr:Rd.Fine r)(hTd:ToldC (Ev.call C m))(hI:ToldI C (n0+1) m r)(hE:EveryC (Ev.call C m) r)(hE0:EveryC (Ev.call C n0) r)(hW:WaysC (Ev.call C n0) r)(hCo:ContC (Ev.call C n0) (Ev.call C n1))(hS1:Sure1C (Ev.call C n1) r)(H:List AB)(xb mb eb:Nat)(hX:Rx r xb mb eb H)(days load:Int)(hL:LOk days load):
    Does (ev C (Ev.call C m) H.length none af53.body { tm:=tmA af53.ntmps (zipI 0 [.ptr xb 0,.int .i64 days,.int .i64 load] []),df:=[],hp:=H,tc:=[] })
      (Ends C H.length af53.res fun v hp tc=>v=.bool (Rd.sureR r days load)∧(∀ j∈tc,j=mb)∧Rx r xb mb eb hp):=by
  have hx:=hX.xl
  have hm:=hX.ml
  have he:=hX.el
  have hne:=hX.ne
  have hne2:=hX.ne2
  have hev:=fun K=>hE (H++K) xb _ _ (hX.app K).x
  unfold ToldC at hTd
  unfold af53
  simp only[zipI]
  have HF:=hideP (And.intro hW (And.intro hE0 (And.intro hCo hS1)))
  clear hW hE hE0 hCo hS1
  (repeat (first|(with_reducible apply zal;(focus ((conv=>lhs;simp[*,ev1,wantG,spineK,spine,float,xnew,xval,xeff,zaa,zab,zam,zae,zad,addFl,cellsOf,pickC,alive,slLen,slFt,binI,maxA,maxK,minA,minK,aeqK,aeqS,AV.cells,↓zau, spA,zac,fillA,setAt,bitsI,nat_nn,zan,AV.plain,apart,Nat.testBit_eq_decide_div_mod_eq])<;>exact rfl));simp only[addFl])|((with_reducible first|apply zao|apply zaq|apply zak|apply zai|apply zag|apply zap|apply zaj|apply zas|(apply zah;· simp[*,zaa])|(apply zaf;· simp[*,zaa]));try simp only[Then,Ops])|simp only[Nat.reduceEqDiff,reduceIte,OutB,Then]))
  refine zcn hC hwh (hI xb mb eb (H.length+4) (H.length+5) (Rd.everyR r)) (by simp[zaa]) rfl [H.length+3] (by simp) (by simp;omega)
    (fun d W G=>W=[]∧G[H.length+3]?=some (.cells [.bool false])∧∀ ls∈d,∀ i,i<r.parts.length→badL r days load ls i=false) (fun e d G=>e=.ret∧(∃ ls∈d,∃ i,i<r.parts.length∧badL r days load ls i=true)∧G[H.length+3]?=some (.cells [.bool false])) (fun rz=>?_) (fun G G' h k=>h.same fun j hj=>k j (by simp;omega) (by simp;omega))
    (fun rz=>⟨rfl,by simp,by simp⟩) (fun rz=>(hX.app _).app _) (fun d W G G' h _ k=>?_) (fun e d G G' h k=>?_) ?_ ?_ ?_
  · refine ⟨by simp,by simp,?_,?_,by omega,by omega,?_,?_,by simp;omega⟩<;>(simp;omega)
  · simp only[List.length_append,List.length_cons,List.length_nil,Nat.zero_add,Nat.add_assoc,Nat.reduceAdd] at k
    exact ⟨h.1,(k _ (get_lt h.2.1) (.inl (by omega)) (by simp;omega) (by omega)).trans h.2.1,h.2.2⟩
  · simp only[List.length_append,List.length_cons,List.length_nil,Nat.zero_add,Nat.add_assoc,Nat.reduceAdd] at k
    exact ⟨h.1,h.2.1,(k _ (by omega) (by omega)).trans h.2.2⟩
  · rintro d s W G rz hpr ⟨rfl,hJ3,hJ⟩ hY hK hl hWb
    simp only[List.length_append,List.length_cons,List.length_nil,Nat.zero_add,Nat.add_assoc,Nat.reduceAdd] at hl ⊢
    rw[setP1]
    obtain ⟨hW,hE0,hCo,hS1⟩:=HF.out
    have hst:s∈Rd.toldR r (Rd.everyR r):=hpr.subset (by simp)
    obtain ⟨hs,hsw⟩:=Rd.told_in hst
    obtain ⟨hld,hls⟩:=all_ld hr hs
    have hRl:=zbn (fnOf s)
    have hRp:=zdc (fnOf s)
    have hRa:=zca (fnOf s)
    obtain ⟨R,hR⟩:∃ R,R=arr10 (fnOf s):=⟨_,rfl⟩
    rw[← hR] at hRl hRp hRa
    simp only[ldA,← hR]
    have HR0:=hideP hR
    clear hR
    (repeat (first|(with_reducible apply zal;(focus ((conv=>lhs;simp[*,ev1,wantG,spineK,spine,float,xnew,xval,xeff,zaa,zab,zam,zae,zad,addFl,cellsOf,pickC,alive,slLen,slFt,binI,maxA,maxK,minA,minK,aeqK,aeqS,AV.cells, spA,zac,fillA,setAt,bitsI,nat_nn,zan,AV.plain,apart,Nat.testBit_eq_decide_div_mod_eq])<;>exact rfl));simp only[addFl])|((with_reducible first|apply zao|apply zaq|apply zak|apply zai|apply zag|apply zap|apply zaj|apply zas|(apply zah;· simp[*,zaa])|(apply zaf;· simp[*,zaa]));try simp only[Ops])|simp only[Nat.reduceEqDiff,reduceIte,OutB,Then]))
    refine ⟨trivial,?_,?_⟩
    · rw[List.getElem?_append_left (by omega)]
    obtain ⟨G2,hG2,k1,k2,k3,k4⟩:=zeh (G:=G++[.cells R]) (l:=H.length+7) (.loop rz) (by simp;omega)
    rw[← hG2]
    clear hG2
    have j3:∀ {j x},G[j]?=some x→j≠H.length+7→G2[j]?=some x:=fun {j x} hx hj=>by rw[k3 _ hj,List.getElem?_append_left (get_lt hx)];exact hx
    have e0:=j3 (hK.at (b:=H.length) (x:=.cells [.ptr xb 0]) (by simp) (by simp;omega)) (by omega)
    have e1:=j3 (hK.at (b:=H.length+1) (x:=.cells [.int .i64 days]) (by simp) (by simp;omega)) (by omega)
    have e2:=j3 (hK.at (b:=H.length+2) (x:=.cells [.int .i64 load]) (by simp) (by simp;omega)) (by omega)
    have e5:G2[G.length]?=some (.cells R):=by rw[k3 _ (by omega)];simp
    have e6:=j3 hJ3 (by omega)
    have kl2:G2.length=G.length+1:=by rw[k1];simp
    have hX2:Rx r xb mb eb G2:=(hY.app _).kp k4 (by simp;omega) (by simp;omega) (by simp;omega)
    obtain ⟨Inv,hInv⟩:∃ Inv:List AB→List Nat→Prop,∀ hp tc,Inv hp tc↔(Kp [mb] G2 hp∧Rx r xb mb eb hp∧∀ j∈tc,j=mb∨j=H.length+7):=⟨fun hp tc=>_,fun hp tc=>Iff.rfl⟩
    have hI0:Inv G2 [H.length+7]:=(hInv _ _).2 ⟨Kp.refl _ _,hX2,by simp⟩
    have hR:=HR0.out
    have hround:∀ hp tc,Inv hp tc→∀ i,i<r.parts.length→Bk hp H.length (.cells [.ptr xb 0])∧Bk hp G.length (.cells R)∧Bk hp (H.length+3) (.cells [.bool false])∧(∃ w z,Bk hp xb (.cells (roadCs r++[w,z])))∧(∀ K,Ev.call C n0 (.fn (.func 64) [] []) [.ptr xb 0] (hp++K)=some (.ret (.int .u64 ((Rd.everyR r:Nat):Int)),hp++K,[]))∧Ev.call C n0 (.fn (.func 64) [] []) [.ptr xb 0] hp=some (.ret (.int .u64 ((Rd.everyR r:Nat):Int)),hp,[])∧∃ v H' tc',Ev.call C n0 (.fn (.func 80) [] []) [.ptr xb 0,.int .i64 i,.agg R,.int .u64 ((Rd.everyR r:Nat):Int)] hp=some (.ret v,H',tc')∧Inv H' (tc'.filter (·<G.length)++tc)∧(∀ j∈tc',j=mb)∧H'[H.length+7]?=some (.loop rz)∧Bk H' (H.length+3) (.cells [.bool false])∧Ev.call C n0 (.fn (.func 87) [] []) [v,.fn (.func 88) [] [.ptr H.length 0,.ptr G.length 0,.ptr (H.length+1) 0,.ptr (H.length+2) 0]] H'=some (.ret (.bool (badL r days load s i)),H',[]):=by
      intro hp tc h i hi
      obtain ⟨q1,q2,q3⟩:=(hInv _ _).1 h
      obtain ⟨v,H',tc',w1,w2,w3,w4,w5⟩:=hW hp xb mb eb q2 i hi (fnOf s) hld (Rd.everyR r)
      have w3':Kp [mb] G2 H':=q1.trans (w3.mono fun j _ h=>by simpa using w2 j h)
      have w6:=w5.ws
      rw[hls] at w6
      have hcc:=hCo H' v _ w6 (Nat.le_trans (zeu hr hi _ _) (by decide)) (.func 88) [] [.ptr H.length 0,.ptr G.length 0,.ptr (H.length+1) 0,.ptr (H.length+2) 0] (lowW r days load s) fun w hw=>by
        obtain ⟨o1,o2,o3,o4⟩:=way_ok hr hi hw
        have:=hS1 H' xb mb eb w4 w o1 ⟨o2,by omega⟩ (fnOf s) hld days load hL H.length G.length (H.length+1) (H.length+2) (w3'.at e0 (by simp;omega)) (by rw[← hR];exact w3'.at e5 (by simp;omega)) (w3'.at e1 (by simp;omega)) (w3'.at e2 (by simp;omega))
        rw[hls] at this
        exact this
      rw[← hR] at w1
      refine ⟨bk' (q1.at e0 (by simp;omega)),bk' (q1.at e5 (by simp;omega)),bk' (q1.at e6 (by simp;omega)),⟨_,_,bk' q2.x⟩,fun K=>hE0 _ xb _ _ (q2.app K).x,hE0 _ xb _ _ q2.x,v,H',tc',w1,(hInv _ _).2 ⟨w3',w4,fun j hj=>?_⟩,w2,w3'.at k2 (by simp;omega),bk' (w3'.at e6 (by simp;omega)),hcc⟩
      rcases List.mem_append.1 hj with h|h
      · exact .inl (w2 j (List.mem_filter.1 h).1)
      · exact q3 j h
    have hnp:=hr.parts
    have HR:=hideP hround
    have HB3:=hideP (show ∀ hp tc,Inv hp tc→hp[H.length+3]?=some (.cells [.bool false]) from fun hp tc h=>((hInv _ _).1 h).1.at e6 (by simp;omega))
    have HE:=hideP (And.intro hInv (And.intro hJ (And.intro k2 hl)))
    obtain ⟨⟨x0,x1,x2,x3,x4,x5⟩,_,_,⟨w9,z9,u0,u1,u2,u3,u4,u5⟩,_⟩:=hround _ _ hI0 0 (by omega)
    clear hround hR hInv hJ hJ3 k2 hl hW hE0 hCo hS1 hst hs hsw hld hls hK hY hpr hWb k1 k3 k4 j3 e0 e1 e2 e5 e6 kl2 hX2 hTd hI hev hX
    simp only[roadCs,List.cons_append,List.nil_append] at u1 u2 u4 u5
    (repeat (first|(with_reducible apply zal;(focus ((conv=>lhs;simp[*,ev1,wantG,spineK,spine,float,xnew,xval,xeff,zaa,zab,zam,zae,zad,addFl,cellsOf,pickC,alive,slLen,slFt,binI,maxA,maxK,minA,minK,aeqK,aeqS,AV.cells, spA,zac,fillA,setAt,bitsI,nat_nn,zan,AV.plain,apart,Nat.testBit_eq_decide_div_mod_eq])<;>exact rfl));simp only[addFl])|((with_reducible first|apply zao|apply zaq|apply zak|apply zai|apply zag|apply zap|apply zaj|apply zas|(apply zah;· simp[*,zaa])|(apply zaf;· simp[*,zaa]));try simp only[Then,Ops])|simp only[Nat.reduceEqDiff,reduceIte,OutB,Then]))
    with_reducible refine zbe hC r.parts.length (by unfold fuelL;omega) (fun i st=>∃ hp tc,Inv hp tc∧(∀ x,x<i→badL r days load s x=false)∧st={ tm:=tmA 32 [(20,.int .i64 i),(19,.int .i64 r.parts.length),(7,.ptr G.length 0),(6,.ptr (H.length+3) 0),(5,.ptr (H.length+2) 0),(4,.ptr (H.length+1) 0),(3,.ptr H.length 0)],df:=[],hp:=hp,tc:=tc }) ?_ ?_ ?_
    · refine ⟨_,_,hI0,by simp,?_⟩
      (refine st_is ?_ ?_ ?_ ?_;(focus (simp[zav,zaw]));(focus rfl);(focus (first|rfl|(simp;done)|(simp;rfl)));(focus rfl))
    · clear hI0 x0 x1 x2 x3 x4 x5 u0 u1 u2 u3 u4 u5
      rintro i st hi ⟨hp,tc,hV,hgood,rfl⟩
      obtain ⟨⟨x0,x1,x2,x3,x4,x5⟩,⟨y0,y1,y2,y3,y4,y5⟩,⟨s0,s1,s2,s3,s4,s5⟩,⟨w9,z9,u0,u1,u2,u3,u4,u5⟩,hv1,hv2,v,H',tc',c1,c2,c3,c4,⟨t0,t1,t2,t3,t4,t5⟩,c6⟩:=HR.out _ _ hV i hi
      simp only[roadCs,List.cons_append,List.nil_append] at u1 u2 u4 u5
      have hwi:IntKind.i64.wrap (↑i+1)=↑i+1:=zaz (by omega) (by omega)
      have HV:=hideP (And.intro hgood (And.intro c2 (And.intro c3 c4)))
      clear hV hgood c2 c3 c4
      cases hb:badL r days load s i with
      |false=>
        rw[hb] at c6
        (repeat (first|(with_reducible apply zal;(focus ((conv=>lhs;simp[*,ev1,wantG,spineK,spine,float,xnew,xval,xeff,zaa,zab,zam,zae,zad,addFl,cellsOf,pickC,alive,slLen,slFt,binI,maxA,maxK,minA,minK,aeqK,aeqS,AV.cells,↓zau, spA,zac,fillA,setAt,bitsI,nat_nn,zan,AV.plain,apart,Nat.testBit_eq_decide_div_mod_eq])<;>exact rfl));simp only[addFl])|((with_reducible first|apply zao|apply zaq|apply zak|apply zai|apply zag|apply zap|apply zaj|apply zas|(apply zah;· simp[*,zaa])|(apply zaf;· simp[*,zaa]));try simp only[Then,Ops,OutB])|simp only[Nat.reduceEqDiff,reduceIte,OutB,Then]))
        have hn:∀ x,x<i+1→badL r days load s x=false:=fun x hx=>by
          by_cases h:x=i
          · rw[h];exact hb
          · exact HV.out.1 x (by omega)
        with_reducible refine ⟨_,_,HV.out.2.1,hn,?_⟩
        (refine st_is ?_ ?_ ?_ ?_;(focus (simp[zav,zaw]));(focus rfl);(focus (first|rfl|(simp;done)|(simp;rfl)));(focus rfl))
      |true=>
        rw[hb] at c6
        have h99:¬ H.length+3=H.length+7:=by omega
        (repeat (first|(with_reducible apply zal;(focus ((conv=>lhs;simp[*,ev1,wantG,spineK,spine,float,xnew,xval,xeff,zaa,zab,zam,zae,zad,addFl,cellsOf,pickC,alive,slLen,slFt,binI,maxA,maxK,minA,minK,aeqK,aeqS,AV.cells,↓zau, spA,zac,fillA,setAt,bitsI,nat_nn,zan,AV.plain,apart,Nat.testBit_eq_decide_div_mod_eq])<;>exact rfl));simp only[addFl])|((with_reducible first|apply zao|apply zaq|apply zak|apply zai|apply zag|apply zap|apply zaj|apply zas|(apply zah;· simp[*,zaa])|(apply zaf;· simp[*,zaa]));try simp only[Then,Ops,OutB])|simp only[Nat.reduceEqDiff,reduceIte,OutB,Then]))
        obtain ⟨hgood,c2,c3,c4⟩:=HV.out
        obtain ⟨hInv,hJ,k2,hl⟩:=HE.out
        obtain ⟨q1,q2,q3⟩:=(hInv _ _).1 c2
        have k:Kp [H.length+3] H' (H'.set (H.length+3) (.cells [.bool false])):=(Kp.refl _ _).set _ _ (by simp)
        refine ⟨by simp,k.at c4 (by simp),fun j hj=>?_,q2.kp k (by simp;omega) (by simp;omega) (by simp;omega),(fun h=>by cases h),fun _=>⟨rfl,⟨s,by simp,i,hi,hb⟩,by rw[List.getElem?_set_self t0]⟩,fun _ _ h=>h.elim⟩
        simp only[List.mem_append,List.mem_cons,List.not_mem_nil,or_false] at hj ⊢
        rcases hj with h|h
        · first|exact .inr (.inl h)|exact .inr (.inl (by simpa using (List.mem_filter.1 h).1))
        · rcases q3 j (by first|exact h|exact List.mem_append.2 h) with h|h
          · exact .inr (.inr h)
          · exact .inl h
    · clear hI0 x0 x1 x2 x3 x4 x5 u0 u1 u2 u3 u4 u5
      rintro st ⟨hp,tc,hV,hgood,rfl⟩
      have HV:=hideP (And.intro hV hgood)
      clear hV hgood
      (repeat (first|(with_reducible apply zal;(focus ((conv=>lhs;simp[*,ev1,wantG,spineK,spine,float,xnew,xval,xeff,zaa,zab,zam,zae,zad,addFl,cellsOf,pickC,alive,slLen,slFt,binI,maxA,maxK,minA,minK,aeqK,aeqS,AV.cells, spA,zac,fillA,setAt,bitsI,nat_nn,zan,AV.plain,apart,Nat.testBit_eq_decide_div_mod_eq])<;>exact rfl));simp only[addFl])|((with_reducible first|apply zao|apply zaq|apply zak|apply zai|apply zag|apply zap|apply zaj|apply zas|(apply zah;· simp[*,zaa])|(apply zaf;· simp[*,zaa]));try simp only[Then,Ops,OutB,reduceIte])|simp only[Nat.reduceEqDiff,reduceIte,OutB,Then]))
      obtain ⟨hV,hgood⟩:=HV.out
      obtain ⟨hInv,hJ,k2,hl⟩:=HE.out
      obtain ⟨q1,q2,q3⟩:=(hInv _ _).1 hV
      refine ⟨by simp,q1.at k2 (by simp;omega),fun j hj=>?_,q2,fun _=>⟨[],by simp,rfl,HB3.out _ _ hV,fun ls hls=>?_⟩,fun h=>absurd rfl h,fun _ _ h=>h.elim⟩
      · rcases q3 j hj with h|h
        · exact .inr (.inr (.inl (by simp[h])))
        · exact .inl h
      · rcases List.mem_append.1 hls with h|h
        · exact hJ ls h
        · simp at h;subst h;exact hgood
  · rintro H' tc W h1 h2 h3 h4 h5 h6 ⟨rfl,h8,h7⟩
    simp only[List.length_append,List.length_cons,List.length_nil,Nat.zero_add,Nat.add_assoc,Nat.reduceAdd,List.append_nil] at h1 h4 h5 ⊢
    simp only[OutB,Then]
    have hc:Rd.sureR r days load=true:=by
      rw[zub,List.all_eq_true]
      intro ls hls
      rw[List.all_eq_true]
      intro i hi
      rw[h7 ls hls i (by simpa using hi)];rfl
    rw[hc]
    obtain ⟨g0,g1,g2,g3,g4,g5⟩:=bk' h8
    have HA:=hideP (And.intro h1 h3)
    have HD:=hideP h4
    clear h1 h2 h3 h4 h6 h7 h8 hTd hI hX hev hc
    (repeat (first|(with_reducible apply zal;(focus ((conv=>lhs;simp[*,ev1,wantG,spineK,spine,float,xnew,xval,xeff,zaa,zab,zam,zae,zad,addFl,cellsOf,pickC,alive,slLen,slFt,binI,maxA,maxK,minA,minK,aeqK,aeqS,AV.cells, spA,zac,fillA,setAt,bitsI,nat_nn,zan,AV.plain,apart,Nat.testBit_eq_decide_div_mod_eq])<;>exact rfl));simp only[addFl])|((with_reducible first|apply zao|apply zaq|apply zak|apply zai|apply zag|apply zap|apply zaj|apply zas|(apply zah;· simp[*,zaa])|(apply zaf;· simp[*,zaa]));try simp only[Then,Ops])|simp only[Nat.reduceEqDiff,reduceIte,OutB,Then]))
    obtain ⟨h1,h3⟩:=HA.out
    refine zbt (v:=.bool true) (.inl rfl) rfl (by simp only;rw[List.getElem?_set_ne (by omega)];exact HD.out) (by omega) (by simp;omega) (by simp only[resL,resOf,zar];simp[resV,pickC,g0]) ⟨rfl,fun j hj=>?_,h3.kp (((Kp.refl [H.length+3,H.length+6] H').set _ _ (by simp)).set _ _ (by simp)) (by simp;omega) (by simp;omega) (by simp;omega)⟩
    simp at hj
    have:=h1 j (by first|exact hj.1|(rcases hj with h|h;exact h.1;exact h.1)) (by omega)
    simp at this
    omega
  · rintro e d H' tc h0 h1 h2 h3 h4 h5 h6 ⟨rfl,⟨ls,hls,i,hi,hb⟩,h9⟩
    simp only[List.length_append,List.length_cons,List.length_nil,Nat.zero_add,Nat.add_assoc,Nat.reduceAdd,List.append_nil] at h1 h4 h5 ⊢
    simp only[OutB,Then]
    have hc:Rd.sureR r days load=false:=by
      rw[zub,List.all_eq_false]
      refine ⟨ls,h6.subset hls,?_⟩
      rw[Bool.not_eq_true,List.all_eq_false]
      exact ⟨i,by simpa using hi,by rw[hb];decide⟩
    rw[hc]
    refine zbt (v:=.bool false) (.inl rfl) rfl h4 (by omega) (by simp;omega) (by simp only[resL,resOf,zar];simp[resV,pickC,List.getElem?_set_ne,h9]) ⟨rfl,fun j hj=>?_,h3.kp ((Kp.refl [H.length+6] H').set _ _ (by simp)) (by simp;omega) (by simp;omega) (by simp;omega)⟩
    simp at hj
    have:=h1 j (by first|exact hj.1|(rcases hj with h|h;exact h.1;exact h.1)) (by omega)
    simp at this
    omega
end Ro
end Ev
end Go.Proofs.Ytlcjlcllbgjplaa

/- Package road, gone through: does a road bear a load in some truth? -/
namespace Go.Proofs.Ytlcjlcllbgjplaa
open Go
namespace Ev
namespace Ro
open K
set_option maxRecDepth 100000
set_option maxHeartbeats 4000000
def highW (r:Rd.Road)(load:Int)(ls:List Int)(w:Rd.Way):Bool:=decide (0≤Rd.leftR r w w.first.hi ls 0 load)
def okP (r:Rd.Road)(load:Int)(ls:List Int)(i:Nat):Bool:=(Rd.waysR r i ls (Rd.everyR r)).any (highW r load ls)
def okM (r:Rd.Road)(load:Int)(ls:List Int):Bool:=(List.range r.parts.length).all fun i=>okP r load ls i
theorem may_eq (r:Rd.Road)(load:Int):Rd.mayR r load=(Rd.toldR r (Rd.everyR r)).any (okM r load):=rfl
theorem zyy (C:Cfg)(hC:C.calm=true)(hwh:∀ f,C.whole f=true)(n0 n1 m:Nat)(r:Rd.Road)(hr:Rd.Fine r)(hTd:ToldC (Ev.call C m))(hI:ToldI C (n0+1) m r)(hE:EveryC (Ev.call C m) r)(hE0:EveryC (Ev.call C n0) r)(hW:WaysC (Ev.call C n0) r)(hCo:ContC (Ev.call C n0) (Ev.call C n1))(hS1:May1C (Ev.call C n1) r)(H:List AB)(xb mb eb:Nat)(hX:Rx r xb mb eb H)(load:Int)(hL:LOk 0 load):
    Does (ev C (Ev.call C m) H.length none af54.body { tm:=tmA af54.ntmps (zipI 0 [.ptr xb 0,.int .i64 load] []),df:=[],hp:=H,tc:=[] })
      (Ends C H.length af54.res fun v hp tc=>v=.bool (Rd.mayR r load)∧(∀ j∈tc,j=mb)∧Rx r xb mb eb hp):=by
  have hx:=hX.xl
  have hm:=hX.ml
  have he:=hX.el
  have hne:=hX.ne
  have hne2:=hX.ne2
  have hev:=fun K=>hE (H++K) xb _ _ (hX.app K).x
  unfold ToldC at hTd
  unfold af54
  simp only[zipI]
  have HF:=hideP (And.intro hW (And.intro hE0 (And.intro hCo hS1)))
  clear hW hE hE0 hCo hS1
  (repeat (first|(with_reducible apply zal;(focus ((conv=>lhs;simp[*,ev1,wantG,spineK,spine,float,xnew,xval,xeff,zaa,zab,zam,zae,zad,addFl,cellsOf,pickC,alive,slLen,slFt,binI,maxA,maxK,minA,minK,aeqK,aeqS,AV.cells,↓zau, spA,zac,fillA,setAt,bitsI,nat_nn,zan,AV.plain,apart,Nat.testBit_eq_decide_div_mod_eq])<;>exact rfl));simp only[addFl])|((with_reducible first|apply zao|apply zaq|apply zak|apply zai|apply zag|apply zap|apply zaj|apply zas|(apply zah;· simp[*,zaa])|(apply zaf;· simp[*,zaa]));try simp only[Then,Ops])|simp only[Nat.reduceEqDiff,reduceIte,OutB,Then]))
  refine zcn hC hwh (hI xb mb eb (H.length+3) (H.length+4) (Rd.everyR r)) (by simp[zaa]) rfl [H.length+2] (by simp) (by simp;omega)
    (fun d W G=>W=[]∧G[H.length+2]?=some (.cells [.bool false])∧∀ ls∈d,okM r load ls=false) (fun e d G=>e=.ret∧(∃ ls∈d,okM r load ls=true)∧G[H.length+2]?=some (.cells [.bool true])) (fun rz=>?_) (fun G G' h k=>h.same fun j hj=>k j (by simp;omega) (by simp;omega))
    (fun rz=>⟨rfl,by simp,by simp⟩) (fun rz=>(hX.app _).app _) (fun d W G G' h _ k=>?_) (fun e d G G' h k=>?_) ?_ ?_ ?_
  · refine ⟨by simp,by simp,?_,?_,by omega,by omega,?_,?_,by simp;omega⟩<;>(simp;omega)
  · simp only[List.length_append,List.length_cons,List.length_nil,Nat.zero_add,Nat.add_assoc,Nat.reduceAdd] at k
    exact ⟨h.1,(k _ (get_lt h.2.1) (.inl (by omega)) (by simp;omega) (by omega)).trans h.2.1,h.2.2⟩
  · simp only[List.length_append,List.length_cons,List.length_nil,Nat.zero_add,Nat.add_assoc,Nat.reduceAdd] at k
    exact ⟨h.1,h.2.1,(k _ (by omega) (by omega)).trans h.2.2⟩
  · rintro d s W G rz hpr ⟨rfl,hJ3,hJ⟩ hY hK hl hWb
    simp only[List.length_append,List.length_cons,List.length_nil,Nat.zero_add,Nat.add_assoc,Nat.reduceAdd] at hl ⊢
    rw[setP1]
    obtain ⟨hW,hE0,hCo,hS1⟩:=HF.out
    have hst:s∈Rd.toldR r (Rd.everyR r):=hpr.subset (by simp)
    obtain ⟨hs,hsw⟩:=Rd.told_in hst
    obtain ⟨hld,hls⟩:=all_ld hr hs
    have hRl:=zbn (fnOf s)
    have hRp:=zdc (fnOf s)
    have hRa:=zca (fnOf s)
    obtain ⟨R,hR⟩:∃ R,R=arr10 (fnOf s):=⟨_,rfl⟩
    rw[← hR] at hRl hRp hRa
    simp only[ldA,← hR]
    have HR0:=hideP hR
    clear hR
    (repeat (first|(with_reducible apply zal;(focus ((conv=>lhs;simp[*,ev1,wantG,spineK,spine,float,xnew,xval,xeff,zaa,zab,zam,zae,zad,addFl,cellsOf,pickC,alive,slLen,slFt,binI,maxA,maxK,minA,minK,aeqK,aeqS,AV.cells, spA,zac,fillA,setAt,bitsI,nat_nn,zan,AV.plain,apart,Nat.testBit_eq_decide_div_mod_eq])<;>exact rfl));simp only[addFl])|((with_reducible first|apply zao|apply zaq|apply zak|apply zai|apply zag|apply zap|apply zaj|apply zas|(apply zah;· simp[*,zaa])|(apply zaf;· simp[*,zaa]));try simp only[Ops])|simp only[Nat.reduceEqDiff,reduceIte,OutB,Then]))
    refine ⟨trivial,?_,?_⟩
    · rw[List.getElem?_append_left (by omega)]
    obtain ⟨G2,hG2,k1,k2,k3,k4⟩:=zeh (G:=G++[.cells R]) (l:=H.length+6) (.loop rz) (by simp;omega)
    rw[← hG2]
    clear hG2
    have j3:∀ {j x},G[j]?=some x→j≠H.length+6→G2[j]?=some x:=fun {j x} hx hj=>by rw[k3 _ hj,List.getElem?_append_left (get_lt hx)];exact hx
    have e0:=j3 (hK.at (b:=H.length) (x:=.cells [.ptr xb 0]) (by simp) (by simp;omega)) (by omega)
    have e2:=j3 (hK.at (b:=H.length+1) (x:=.cells [.int .i64 load]) (by simp) (by simp;omega)) (by omega)
    have e5:G2[G.length]?=some (.cells R):=by rw[k3 _ (by omega)];simp
    have e6:=j3 hJ3 (by omega)
    have kl2:G2.length=G.length+1:=by rw[k1];simp
    have hX2:Rx r xb mb eb G2:=(hY.app _).kp k4 (by simp;omega) (by simp;omega) (by simp;omega)
    obtain ⟨Inv,hInv⟩:∃ Inv:List AB→List Nat→Prop,∀ hp tc,Inv hp tc↔(Kp [mb] G2 hp∧Rx r xb mb eb hp∧∀ j∈tc,j=mb∨j=H.length+6):=⟨fun hp tc=>_,fun hp tc=>Iff.rfl⟩
    have hI0:Inv G2 [H.length+6]:=(hInv _ _).2 ⟨Kp.refl _ _,hX2,by simp⟩
    have hR:=HR0.out
    have hround:∀ hp tc,Inv hp tc→∀ i,i<r.parts.length→Bk hp H.length (.cells [.ptr xb 0])∧Bk hp G.length (.cells R)∧Bk hp (H.length+2) (.cells [.bool false])∧(∃ w z,Bk hp xb (.cells (roadCs r++[w,z])))∧(∀ K,Ev.call C n0 (.fn (.func 64) [] []) [.ptr xb 0] (hp++K)=some (.ret (.int .u64 ((Rd.everyR r:Nat):Int)),hp++K,[]))∧Ev.call C n0 (.fn (.func 64) [] []) [.ptr xb 0] hp=some (.ret (.int .u64 ((Rd.everyR r:Nat):Int)),hp,[])∧∃ v H' tc',Ev.call C n0 (.fn (.func 80) [] []) [.ptr xb 0,.int .i64 i,.agg R,.int .u64 ((Rd.everyR r:Nat):Int)] hp=some (.ret v,H',tc')∧Inv H' (tc'.filter (·<G.length)++tc)∧(∀ j∈tc',j=mb)∧H'[H.length+6]?=some (.loop rz)∧Bk H' (H.length+2) (.cells [.bool false])∧Ev.call C n0 (.fn (.func 87) [] []) [v,.fn (.func 90) [] [.ptr H.length 0,.ptr G.length 0,.ptr (H.length+1) 0]] H'=some (.ret (.bool (okP r load s i)),H',[]):=by
      intro hp tc h i hi
      obtain ⟨q1,q2,q3⟩:=(hInv _ _).1 h
      obtain ⟨v,H',tc',w1,w2,w3,w4,w5⟩:=hW hp xb mb eb q2 i hi (fnOf s) hld (Rd.everyR r)
      have w3':Kp [mb] G2 H':=q1.trans (w3.mono fun j _ h=>by simpa using w2 j h)
      have w6:=w5.ws
      rw[hls] at w6
      have hcc:=hCo H' v _ w6 (Nat.le_trans (zeu hr hi _ _) (by decide)) (.func 90) [] [.ptr H.length 0,.ptr G.length 0,.ptr (H.length+1) 0] (highW r load s) fun w hw=>by
        obtain ⟨o1,o2,o3,o4⟩:=way_ok hr hi hw
        have:=hS1 H' xb mb eb w4 w o1 ⟨by omega,o4⟩ (fnOf s) hld load hL H.length G.length (H.length+1) (w3'.at e0 (by simp;omega)) (by rw[← hR];exact w3'.at e5 (by simp;omega)) (w3'.at e2 (by simp;omega))
        rw[hls] at this
        exact this
      rw[← hR] at w1
      refine ⟨bk' (q1.at e0 (by simp;omega)),bk' (q1.at e5 (by simp;omega)),bk' (q1.at e6 (by simp;omega)),⟨_,_,bk' q2.x⟩,fun K=>hE0 _ xb _ _ (q2.app K).x,hE0 _ xb _ _ q2.x,v,H',tc',w1,(hInv _ _).2 ⟨w3',w4,fun j hj=>?_⟩,w2,w3'.at k2 (by simp;omega),bk' (w3'.at e6 (by simp;omega)),hcc⟩
      rcases List.mem_append.1 hj with h|h
      · exact .inl (w2 j (List.mem_filter.1 h).1)
      · exact q3 j h
    have hnp:=hr.parts
    have HR:=hideP hround
    have HB3:=hideP (show ∀ hp tc,Inv hp tc→hp[H.length+2]?=some (.cells [.bool false]) from fun hp tc h=>((hInv _ _).1 h).1.at e6 (by simp;omega))
    have HE:=hideP (And.intro hInv (And.intro hJ (And.intro k2 hl)))
    obtain ⟨⟨x0,x1,x2,x3,x4,x5⟩,_,_,⟨w9,z9,u0,u1,u2,u3,u4,u5⟩,_⟩:=hround _ _ hI0 0 (by omega)
    clear hround hR hInv hJ hJ3 k2 hl hW hE0 hCo hS1 hst hs hsw hld hls hK hY hpr hWb k1 k3 k4 j3 e0 e2 e5 e6 kl2 hX2 hTd hI hev hX
    simp only[roadCs,List.cons_append,List.nil_append] at u1 u2 u4 u5
    (repeat (first|(with_reducible apply zal;(focus ((conv=>lhs;simp[*,ev1,wantG,spineK,spine,float,xnew,xval,xeff,zaa,zab,zam,zae,zad,addFl,cellsOf,pickC,alive,slLen,slFt,binI,maxA,maxK,minA,minK,aeqK,aeqS,AV.cells, spA,zac,fillA,setAt,bitsI,nat_nn,zan,AV.plain,apart,Nat.testBit_eq_decide_div_mod_eq])<;>exact rfl));simp only[addFl])|((with_reducible first|apply zao|apply zaq|apply zak|apply zai|apply zag|apply zap|apply zaj|apply zas|(apply zah;· simp[*,zaa])|(apply zaf;· simp[*,zaa]));try simp only[Then,Ops])|simp only[Nat.reduceEqDiff,reduceIte,OutB,Then]))
    with_reducible refine zbe hC r.parts.length (by unfold fuelL;omega) (fun i st=>∃ hp tc,Inv hp tc∧(∀ x,x<i→okP r load s x=true)∧st={ tm:=tmA 31 [(18,.int .i64 i),(17,.int .i64 r.parts.length),(5,.ptr G.length 0),(4,.ptr (H.length+2) 0),(3,.ptr (H.length+1) 0),(2,.ptr H.length 0)],df:=[],hp:=hp,tc:=tc }) ?_ ?_ ?_
    · refine ⟨_,_,hI0,by simp,?_⟩
      (refine st_is ?_ ?_ ?_ ?_;(focus (simp[zav,zaw]));(focus rfl);(focus (first|rfl|(simp;done)|(simp;rfl)));(focus rfl))
    · clear hI0 x0 x1 x2 x3 x4 x5 u0 u1 u2 u3 u4 u5
      rintro i st hi ⟨hp,tc,hV,hgood,rfl⟩
      obtain ⟨⟨x0,x1,x2,x3,x4,x5⟩,⟨y0,y1,y2,y3,y4,y5⟩,⟨s0,s1,s2,s3,s4,s5⟩,⟨w9,z9,u0,u1,u2,u3,u4,u5⟩,hv1,hv2,v,H',tc',c1,c2,c3,c4,⟨t0,t1,t2,t3,t4,t5⟩,c6⟩:=HR.out _ _ hV i hi
      simp only[roadCs,List.cons_append,List.nil_append] at u1 u2 u4 u5
      have hwi:IntKind.i64.wrap (↑i+1)=↑i+1:=zaz (by omega) (by omega)
      have HV:=hideP (And.intro hgood (And.intro c2 (And.intro c3 c4)))
      clear hV hgood c2 c3 c4
      cases hb:okP r load s i with
      |true=>
        rw[hb] at c6
        (repeat (first|(with_reducible apply zal;(focus ((conv=>lhs;simp[*,ev1,wantG,spineK,spine,float,xnew,xval,xeff,zaa,zab,zam,zae,zad,addFl,cellsOf,pickC,alive,slLen,slFt,binI,maxA,maxK,minA,minK,aeqK,aeqS,AV.cells,↓zau, spA,zac,fillA,setAt,bitsI,nat_nn,zan,AV.plain,apart,Nat.testBit_eq_decide_div_mod_eq])<;>exact rfl));simp only[addFl])|((with_reducible first|apply zao|apply zaq|apply zak|apply zai|apply zag|apply zap|apply zaj|apply zas|(apply zah;· simp[*,zaa])|(apply zaf;· simp[*,zaa]));try simp only[Then,Ops,OutB])|simp only[Nat.reduceEqDiff,reduceIte,OutB,Then]))
        have hn:∀ x,x<i+1→okP r load s x=true:=fun x hx=>by
          by_cases h:x=i
          · rw[h];exact hb
          · exact HV.out.1 x (by omega)
        with_reducible refine ⟨_,_,HV.out.2.1,hn,?_⟩
        (refine st_is ?_ ?_ ?_ ?_;(focus (simp[zav,zaw]));(focus rfl);(focus (first|rfl|(simp;done)|(simp;rfl)));(focus rfl))
      |false=>
        rw[hb] at c6
        (repeat (first|(with_reducible apply zal;(focus ((conv=>lhs;simp[*,ev1,wantG,spineK,spine,float,xnew,xval,xeff,zaa,zab,zam,zae,zad,addFl,cellsOf,pickC,alive,slLen,slFt,binI,maxA,maxK,minA,minK,aeqK,aeqS,AV.cells,↓zau, spA,zac,fillA,setAt,bitsI,nat_nn,zan,AV.plain,apart,Nat.testBit_eq_decide_div_mod_eq])<;>exact rfl));simp only[addFl])|((with_reducible first|apply zao|apply zaq|apply zak|apply zai|apply zag|apply zap|apply zaj|apply zas|(apply zah;· simp[*,zaa])|(apply zaf;· simp[*,zaa]));try simp only[Then,Ops,OutB,reduceIte])|simp only[Nat.reduceEqDiff,reduceIte]))
        obtain ⟨hgood,c2,c3,c4⟩:=HV.out
        obtain ⟨hInv,hJ,k2,hl⟩:=HE.out
        obtain ⟨q1,q2,q3⟩:=(hInv _ _).1 c2
        have hno:okM r load s=false:=by
          unfold okM
          rw[List.all_eq_false]
          exact ⟨i,by simpa using hi,by rw[hb];decide⟩
        refine ⟨by simp,c4,fun j hj=>?_,q2,fun _=>⟨[],by simp,rfl,t1,fun ls hls=>?_⟩,fun h=>absurd rfl h,fun _ _ h=>h.elim⟩
        · rcases q3 j hj with h|h
          · exact .inr (.inr (.inl (by simp[h])))
          · exact .inl h
        · rcases List.mem_append.1 hls with h|h
          · exact hJ ls h
          · simp at h;subst h;exact hno
    · clear hI0 x0 x1 x2 x3 x4 x5 u0 u1 u2 u3 u4 u5
      rintro st ⟨hp,tc,hV,hgood,rfl⟩
      have HV:=hideP (And.intro hV hgood)
      obtain ⟨s0,s1,s2,s3,s4,s5⟩:=bk' (HB3.out _ _ hV)
      have h99:¬ H.length+2=H.length+6:=by omega
      clear hV hgood
      (repeat (first|(with_reducible apply zal;(focus ((conv=>lhs;simp[*,ev1,wantG,spineK,spine,float,xnew,xval,xeff,zaa,zab,zam,zae,zad,addFl,cellsOf,pickC,alive,slLen,slFt,binI,maxA,maxK,minA,minK,aeqK,aeqS,AV.cells, spA,zac,fillA,setAt,bitsI,nat_nn,zan,AV.plain,apart,Nat.testBit_eq_decide_div_mod_eq])<;>exact rfl));simp only[addFl])|((with_reducible first|apply zao|apply zaq|apply zak|apply zai|apply zag|apply zap|apply zaj|apply zas|(apply zah;· simp[*,zaa])|(apply zaf;· simp[*,zaa]));try simp only[Then,Ops,OutB,reduceIte])|simp only[Nat.reduceEqDiff,reduceIte,OutB,Then]))
      obtain ⟨hV,hgood⟩:=HV.out
      obtain ⟨hInv,hJ,k2,hl⟩:=HE.out
      obtain ⟨q1,q2,q3⟩:=(hInv _ _).1 hV
      have hyes:okM r load s=true:=by
        unfold okM
        rw[List.all_eq_true]
        intro x hx
        exact hgood x (by simpa using hx)
      have k:Kp [H.length+2] hp (hp.set (H.length+2) (.cells [.bool true])):=(Kp.refl _ _).set _ _ (by simp)
      refine ⟨by simp,k.at (q1.at k2 (by simp;omega)) (by simp),fun j hj=>?_,q2.kp k (by simp;omega) (by simp;omega) (by simp;omega),(fun h=>by cases h),fun _=>⟨rfl,⟨s,by simp,hyes⟩,by rw[List.getElem?_set_self s0]⟩,fun _ _ h=>h.elim⟩
      simp only[List.mem_append,List.mem_cons,List.not_mem_nil,or_false] at hj ⊢
      rcases hj with h|h
      · first|exact .inr (.inl h)|exact .inr (.inl (by simpa using (List.mem_filter.1 h).1))
      · rcases q3 j h with h|h
        · exact .inr (.inr h)
        · exact .inl h
  · rintro H' tc W h1 h2 h3 h4 h5 h6 ⟨rfl,h8,h7⟩
    simp only[List.length_append,List.length_cons,List.length_nil,Nat.zero_add,Nat.add_assoc,Nat.reduceAdd,List.append_nil] at h1 h4 h5 ⊢
    simp only[OutB,Then]
    have hc:Rd.mayR r load=false:=by
      rw[may_eq,List.any_eq_false]
      intro ls hls
      rw[h7 ls hls];decide
    rw[hc]
    obtain ⟨g0,g1,g2,g3,g4,g5⟩:=bk' h8
    have HA:=hideP (And.intro h1 h3)
    have HD:=hideP h4
    clear h1 h2 h3 h4 h6 h7 h8 hTd hI hX hev hc
    (repeat (first|(with_reducible apply zal;(focus ((conv=>lhs;simp[*,ev1,wantG,spineK,spine,float,xnew,xval,xeff,zaa,zab,zam,zae,zad,addFl,cellsOf,pickC,alive,slLen,slFt,binI,maxA,maxK,minA,minK,aeqK,aeqS,AV.cells, spA,zac,fillA,setAt,bitsI,nat_nn,zan,AV.plain,apart,Nat.testBit_eq_decide_div_mod_eq])<;>exact rfl));simp only[addFl])|((with_reducible first|apply zao|apply zaq|apply zak|apply zai|apply zag|apply zap|apply zaj|apply zas|(apply zah;· simp[*,zaa])|(apply zaf;· simp[*,zaa]));try simp only[Then,Ops])|simp only[Nat.reduceEqDiff,reduceIte,OutB,Then]))
    obtain ⟨h1,h3⟩:=HA.out
    refine zbt (v:=.bool false) (.inl rfl) rfl (by simp only;rw[List.getElem?_set_ne (by omega)];exact HD.out) (by omega) (by simp;omega) (by simp only[resL,resOf,zar];simp[resV,pickC,g0]) ⟨rfl,fun j hj=>?_,h3.kp (((Kp.refl [H.length+2,H.length+5] H').set _ _ (by simp)).set _ _ (by simp)) (by simp;omega) (by simp;omega) (by simp;omega)⟩
    simp at hj
    have:=h1 j (by first|exact hj.1|(rcases hj with h|h;exact h.1;exact h.1)) (by omega)
    simp at this
    omega
  · rintro e d H' tc h0 h1 h2 h3 h4 h5 h6 ⟨rfl,⟨ls,hls,hb⟩,h9⟩
    simp only[List.length_append,List.length_cons,List.length_nil,Nat.zero_add,Nat.add_assoc,Nat.reduceAdd,List.append_nil] at h1 h4 h5 ⊢
    simp only[OutB,Then]
    have hc:Rd.mayR r load=true:=by
      rw[may_eq,List.any_eq_true]
      exact ⟨ls,h6.subset hls,hb⟩
    rw[hc]
    refine zbt (v:=.bool true) (.inl rfl) rfl h4 (by omega) (by simp;omega) (by simp only[resL,resOf,zar];simp[resV,pickC,List.getElem?_set_ne,h9]) ⟨rfl,fun j hj=>?_,h3.kp ((Kp.refl [H.length+5] H').set _ _ (by simp)) (by simp;omega) (by simp;omega) (by simp;omega)⟩
    simp at hj
    have:=h1 j (by first|exact hj.1|(rcases hj with h|h;exact h.1;exact h.1)) (by omega)
    simp at this
    omega
end Ro
end Ev
end Go.Proofs.Ytlcjlcllbgjplaa

/- Package road, gone through: open, which panics unless a road is valid. -/
namespace Go.Proofs.Ytlcjlcllbgjplaa
open Go
namespace Ev
namespace Ro
open K
set_option maxRecDepth 100000
set_option maxHeartbeats 4000000
def IsSpanC (call:CallF):Prop:=∀ (H:List AB) (s:Clm.Sp) (a b w:Int),-1000000≤a→b≤1000000→call (.fn (.func 83) [] []) [.agg [.int .i64 s.lo,.int .i64 s.hi],.int .i64 a,.int .i64 b,.int .i64 w] H=some (.ret (.bool (Rd.isSpan s a b w)),H,[])
def IsPartC (call:CallF)(r:Rd.Road):Prop:=∀ (H:List AB) (xb:Nat) (w z:AV),H[xb]?=some (.cells (roadCs r++[w,z]))→∀ n:Int,call (.fn (.func 41) [] []) [.ptr xb 0,.int .i64 n] H=some (.ret (.bool (Rd.isPart r n)),H,[])
def ifCs (v:Rd.Evt):List AV:=[ifA v]
theorem zim (l:List Rd.Evt):l.flatMap ifCs=l.map ifA:=by
  induction l with
  |nil=>rfl
  |cons a l ih=>rw[List.flatMap_cons,ih];rfl
def OpenQ (r:Rd.Road)(is:Bool)(H:List AB)(x:CRes)(hp:List AB)(tc:List Nat):Prop:=
  tc=[]∧((Rd.valid r=false∧x=.pan (stopV 1))∨(Rd.valid r=true∧is=false∧x=.pan (stopV 2))∨(Rd.valid r=true∧is=true∧∃ xb mb eb,x=.ret (.ptr xb 0)∧Kp [] H hp∧Rx r xb mb eb hp∧H.length≤xb∧H.length≤mb∧H.length≤eb))
def headOk (r:Rd.Road):Bool:=decide (1≤r.parts.length∧r.parts.length≤4)&&decide (r.events.length≤10)
theorem zpe (r:Rd.Road):Rd.valid r=(headOk r&&r.parts.all Rd.okPart&&r.events.all (Rd.okEvt r)&&decide ((r.events.filter Rd.doubt).length≤4)):=rfl
theorem zka {r:Rd.Road}{i:Nat}{v:Rd.Evt}(hv:r.events[i]?=some v):((r.events.take (i+1)).filter Rd.doubt).length=((r.events.take i).filter Rd.doubt).length+if Rd.doubt v then 1 else 0:=by
  rw[List.take_add_one,hv]
  simp only[Option.toList_some,List.filter_append,List.length_append,List.filter_cons,List.filter_nil]
  split<;>simp
theorem zuy (C:Cfg)(hC:C.calm=true)(call:CallF)(hM:MustC call)(hS:IsSpanC call)(hWi:WithinC call)(r:Rd.Road)(hP:r.parts.length≤4→IsPartC call r)(hbig:r.parts.length≤1000000∧r.events.length≤1000000)(H:List AB)(F:AV)(is:Bool)(hF:Rd.valid r=true→∀ G xb mb eb,Kp [] H G→Rx r xb mb eb G→call F [.ptr xb 0] G=some (.ret (.bool is),G,[])):
    Does (ev C call H.length none af39.body { tm:=tmA af39.ntmps (zipI 0 [.agg (roadCs r),F] []),df:=[],hp:=H,tc:=[] })
      (Fin C H.length af39 (OpenQ r is H)):=by
  have hmt:=hM.t
  have hmf:=hM.f
  have hw1:=fun H=>hWi H (r.parts.length:Int) 1 4
  have hv:=zpe r
  unfold headOk at hv
  unfold af39
  simp only[zipI,roadCs]
  have hbigX:=hbig
  have HH:=hideP (And.intro hF (And.intro hbig (And.intro hWi (And.intro hS hP))))
  clear hF hWi hS hP
  by_cases h1:1≤r.parts.length∧r.parts.length≤4
  · have h1':(1:Int)≤r.parts.length∧(r.parts.length:Int)≤4:=by omega
    rw[decide_eq_true h1'] at hw1
    rw[decide_eq_true h1] at hv
    by_cases h3:r.events.length≤10
    · have h3':(r.events.length:Int)≤10:=by omega
      rw[decide_eq_true h3] at hv
      simp only[Bool.true_and] at hv
      have HV:=hideP hv
      clear hv
      (repeat (first|(with_reducible apply zal;(focus ((conv=>lhs;simp[*,ev1,wantG,spineK,spine,float,xnew,xval,xeff,zaa,zab,zam,zae,zad,addFl,cellsOf,pickC,alive,slLen,slFt,binI,maxA,maxK,minA,minK,aeqK,aeqS,AV.cells, spA,zac,fillA,setAt,bitsI,nat_nn,zan,AV.plain,apart,Nat.testBit_eq_decide_div_mod_eq])<;>exact rfl));simp only[addFl])|(with_reducible apply zbc;(focus ((conv=>lhs;simp[*,ev1,wantG,spineK,spine,float,xnew,xval,xeff,zaa,zab,zam,zae,zad,addFl,cellsOf,pickC,alive,slLen,slFt,binI,maxA,maxK,minA,minK,aeqK,aeqS,AV.cells, spA,zac,fillA,setAt,bitsI,nat_nn,zan,AV.plain,apart,Nat.testBit_eq_decide_div_mod_eq])<;>exact rfl));(try simp only[Ops,Then,OutB]);(try dsimp only))|((with_reducible first|apply zao|apply zaq|apply zak|apply zai|apply zag|apply zap|apply zaj|apply zas|(apply zah;· simp[*,zaa])|(apply zaf;· simp[*,zaa]));try simp only[Then,Ops])|simp only[Nat.reduceEqDiff,reduceIte,OutB,Then]))
      clear hw1
      have hpb:=hbigX.1
      have he10:(r.events.length:Int)≤1000:=by omega
      with_reducible refine zbe hC r.parts.length (by unfold fuelL;omega) (fun i st=>∃ J,(∀ j p,j<i→r.parts[j]?=some p→Rd.okPart p=true)∧st={ tm:=tmA 151 [(26,.int .i64 i),(25,.int .i64 r.parts.length),(24,.vs 7 (r.parts.map ptE)),(5,.fn (.func 83) [] []),(2,.ptr H.length 0),(1,F)],df:=[],hp:=H++.cells [.vs 7 (r.parts.map ptE),.vs 7 (r.events.map evE)]::J,tc:=[] }) ?_ ?_ ?_
      · refine ⟨[],by simp,?_⟩
        (refine st_is ?_ ?_ ?_ ?_;(focus (simp[zav,zaw]));(focus rfl);(focus (first|rfl|(simp;done)|(simp;rfl)));(focus rfl))
      · rintro i st hi ⟨J,hok,rfl⟩
        obtain ⟨_,_,hWi,hS,_⟩:=HH.out
        have hgp:r.parts[i]?=some r.parts[i]:=List.getElem?_eq_getElem hi
        generalize r.parts[i]=p at hgp
        have hgp':=ge_of hgp
        have hwi:IntKind.i64.wrap (↑i+1)=↑i+1:=zaz (by omega) (by omega)
        have hbad:Rd.okPart p=false→Rd.valid r=false:=fun h=>by
          rw[HV.out]
          have:r.parts.all Rd.okPart=false:=by
            rw[List.all_eq_false]
            exact ⟨p,List.mem_of_getElem? hgp,by rw[h];decide⟩
          rw[this];simp
        have hnext:Rd.okPart p=true→∀ j q,j<i+1→r.parts[j]?=some q→Rd.okPart q=true:=by
          intro ho j q hj hq
          by_cases h:j=i
          · subst h;rw[hgp] at hq;cases hq;exact ho
          · exact hok j q (by omega) hq
        have hw1:=fun H=>hWi H p.full 0 60
        have hok4:Rd.okPart p=(decide (0≤p.full∧p.full≤60)&&Rd.isSpan p.height 0 p.full 2&&Rd.isSpan p.stiff 1 10 2&&Rd.isSpan p.rise 0 5 2):=rfl
        have HB:=hideP (And.intro hbad (And.intro hnext hok4))
        clear hbad hnext hok4 hok hWi
        cases hb1:decide (0≤p.full∧p.full≤60) with
        |false=>
          rw[hb1] at hw1
          have hev:Rd.valid r=false:=HB.out.1 (by rw[HB.out.2.2,hb1];rfl)
          have HE:=hideP hev
          clear hev hb1 hS hgp
          (repeat (first|(with_reducible apply zal;(focus ((conv=>lhs;simp[*,ev1,wantG,spineK,spine,float,xnew,xval,xeff,zaa,zab,zam,zae,zad,addFl,cellsOf,pickC,alive,slLen,slFt,binI,maxA,maxK,minA,minK,aeqK,aeqS,AV.cells,ptE, spA,zac,fillA,setAt,bitsI,nat_nn,zan,AV.plain,apart,Nat.testBit_eq_decide_div_mod_eq])<;>exact rfl));simp only[addFl])|(with_reducible apply zbc;(focus ((conv=>lhs;simp[*,ev1,wantG,spineK,spine,float,xnew,xval,xeff,zaa,zab,zam,zae,zad,addFl,cellsOf,pickC,alive,slLen,slFt,binI,maxA,maxK,minA,minK,aeqK,aeqS,AV.cells,ptE, spA,zac,fillA,setAt,bitsI,nat_nn,zan,AV.plain,apart,Nat.testBit_eq_decide_div_mod_eq])<;>exact rfl));(try simp only[Ops,Then,OutB]);(try dsimp only))|((with_reducible first|apply zao|apply zaq|apply zak|apply zai|apply zag|apply zap|apply zaj|apply zas|(apply zah;· simp[*,zaa])|(apply zaf;· simp[*,zaa]));try simp only[Then,Ops,OutB])|simp only[Nat.reduceEqDiff,reduceIte,OutB,Then]))
          exact zce rfl (by simp) ⟨rfl,.inl ⟨HE.out,rfl⟩⟩
        |true=>
          rw[hb1] at hw1
          have hf60:=of_decide_eq_true hb1
          have hs2:=fun H=>hS H p.height 0 p.full 2 (by decide) (by omega)
          cases hb2:Rd.isSpan p.height 0 p.full 2 with
          |false=>
            rw[hb2] at hs2
            have hev:Rd.valid r=false:=HB.out.1 (by rw[HB.out.2.2,hb2];simp)
            have HE:=hideP hev
            clear hev hb1 hb2 hS hgp hf60
            (repeat (first|(with_reducible apply zal;(focus ((conv=>lhs;simp[*,ev1,wantG,spineK,spine,float,xnew,xval,xeff,zaa,zab,zam,zae,zad,addFl,cellsOf,pickC,alive,slLen,slFt,binI,maxA,maxK,minA,minK,aeqK,aeqS,AV.cells,ptE, spA,zac,fillA,setAt,bitsI,nat_nn,zan,AV.plain,apart,Nat.testBit_eq_decide_div_mod_eq])<;>exact rfl));simp only[addFl])|(with_reducible apply zbc;(focus ((conv=>lhs;simp[*,ev1,wantG,spineK,spine,float,xnew,xval,xeff,zaa,zab,zam,zae,zad,addFl,cellsOf,pickC,alive,slLen,slFt,binI,maxA,maxK,minA,minK,aeqK,aeqS,AV.cells,ptE, spA,zac,fillA,setAt,bitsI,nat_nn,zan,AV.plain,apart,Nat.testBit_eq_decide_div_mod_eq])<;>exact rfl));(try simp only[Ops,Then,OutB]);(try dsimp only))|((with_reducible first|apply zao|apply zaq|apply zak|apply zai|apply zag|apply zap|apply zaj|apply zas|(apply zah;· simp[*,zaa])|(apply zaf;· simp[*,zaa]));try simp only[Then,Ops,OutB])|simp only[Nat.reduceEqDiff,reduceIte,OutB,Then]))
            exact zce rfl (by simp) ⟨rfl,.inl ⟨HE.out,rfl⟩⟩
          |true=>
            rw[hb2] at hs2
            have hs3:=fun H=>hS H p.stiff 1 10 2 (by decide) (by decide)
            cases hb3:Rd.isSpan p.stiff 1 10 2 with
            |false=>
              rw[hb3] at hs3
              have hev:Rd.valid r=false:=HB.out.1 (by rw[HB.out.2.2,hb3];simp)
              have HE:=hideP hev
              clear hev hb1 hb2 hb3 hS hgp hf60
              (repeat (first|(with_reducible apply zal;(focus ((conv=>lhs;simp[*,ev1,wantG,spineK,spine,float,xnew,xval,xeff,zaa,zab,zam,zae,zad,addFl,cellsOf,pickC,alive,slLen,slFt,binI,maxA,maxK,minA,minK,aeqK,aeqS,AV.cells,ptE, spA,zac,fillA,setAt,bitsI,nat_nn,zan,AV.plain,apart,Nat.testBit_eq_decide_div_mod_eq])<;>exact rfl));simp only[addFl])|(with_reducible apply zbc;(focus ((conv=>lhs;simp[*,ev1,wantG,spineK,spine,float,xnew,xval,xeff,zaa,zab,zam,zae,zad,addFl,cellsOf,pickC,alive,slLen,slFt,binI,maxA,maxK,minA,minK,aeqK,aeqS,AV.cells,ptE, spA,zac,fillA,setAt,bitsI,nat_nn,zan,AV.plain,apart,Nat.testBit_eq_decide_div_mod_eq])<;>exact rfl));(try simp only[Ops,Then,OutB]);(try dsimp only))|((with_reducible first|apply zao|apply zaq|apply zak|apply zai|apply zag|apply zap|apply zaj|apply zas|(apply zah;· simp[*,zaa])|(apply zaf;· simp[*,zaa]));try simp only[Then,Ops,OutB])|simp only[Nat.reduceEqDiff,reduceIte,OutB,Then]))
              exact zce rfl (by simp) ⟨rfl,.inl ⟨HE.out,rfl⟩⟩
            |true=>
              rw[hb3] at hs3
              have hs4:=fun H=>hS H p.rise 0 5 2 (by decide) (by decide)
              cases hb4:Rd.isSpan p.rise 0 5 2 with
              |false=>
                rw[hb4] at hs4
                have hev:Rd.valid r=false:=HB.out.1 (by rw[HB.out.2.2,hb4];simp)
                have HE:=hideP hev
                clear hev hb1 hb2 hb3 hb4 hS hgp hf60
                (repeat (first|(with_reducible apply zal;(focus ((conv=>lhs;simp[*,ev1,wantG,spineK,spine,float,xnew,xval,xeff,zaa,zab,zam,zae,zad,addFl,cellsOf,pickC,alive,slLen,slFt,binI,maxA,maxK,minA,minK,aeqK,aeqS,AV.cells,ptE, spA,zac,fillA,setAt,bitsI,nat_nn,zan,AV.plain,apart,Nat.testBit_eq_decide_div_mod_eq])<;>exact rfl));simp only[addFl])|(with_reducible apply zbc;(focus ((conv=>lhs;simp[*,ev1,wantG,spineK,spine,float,xnew,xval,xeff,zaa,zab,zam,zae,zad,addFl,cellsOf,pickC,alive,slLen,slFt,binI,maxA,maxK,minA,minK,aeqK,aeqS,AV.cells,ptE, spA,zac,fillA,setAt,bitsI,nat_nn,zan,AV.plain,apart,Nat.testBit_eq_decide_div_mod_eq])<;>exact rfl));(try simp only[Ops,Then,OutB]);(try dsimp only))|((with_reducible first|apply zao|apply zaq|apply zak|apply zai|apply zag|apply zap|apply zaj|apply zas|(apply zah;· simp[*,zaa])|(apply zaf;· simp[*,zaa]));try simp only[Then,Ops,OutB])|simp only[Nat.reduceEqDiff,reduceIte,OutB,Then]))
                exact zce rfl (by simp) ⟨rfl,.inl ⟨HE.out,rfl⟩⟩
              |true=>
                rw[hb4] at hs4
                have hn:=HB.out.2.1 (by rw[HB.out.2.2,hb1,hb2,hb3,hb4];rfl)
                have HN:=hideP hn
                clear hn hb1 hb2 hb3 hb4 hS hgp hf60
                (repeat (first|(with_reducible apply zal;(focus ((conv=>lhs;simp[*,ev1,wantG,spineK,spine,float,xnew,xval,xeff,zaa,zab,zam,zae,zad,addFl,cellsOf,pickC,alive,slLen,slFt,binI,maxA,maxK,minA,minK,aeqK,aeqS,AV.cells,ptE, spA,zac,fillA,setAt,bitsI,nat_nn,zan,AV.plain,apart,Nat.testBit_eq_decide_div_mod_eq])<;>exact rfl));simp only[addFl])|(with_reducible apply zbc;(focus ((conv=>lhs;simp[*,ev1,wantG,spineK,spine,float,xnew,xval,xeff,zaa,zab,zam,zae,zad,addFl,cellsOf,pickC,alive,slLen,slFt,binI,maxA,maxK,minA,minK,aeqK,aeqS,AV.cells,ptE, spA,zac,fillA,setAt,bitsI,nat_nn,zan,AV.plain,apart,Nat.testBit_eq_decide_div_mod_eq])<;>exact rfl));(try simp only[Ops,Then,OutB]);(try dsimp only))|((with_reducible first|apply zao|apply zaq|apply zak|apply zai|apply zag|apply zap|apply zaj|apply zas|(apply zah;· simp[*,zaa])|(apply zaf;· simp[*,zaa]));try simp only[Then,Ops,OutB])|simp only[Nat.reduceEqDiff,reduceIte,OutB,Then]))
                with_reducible refine ⟨?_,HN.out,?_⟩
                rotate_left
                (refine st_is ?_ ?_ ?_ ?_;(focus (simp[zav,zaw]));(focus rfl);(focus (first|rfl|(simp;done)|(simp;rfl)));(focus rfl))
      · rintro st ⟨J,hok,rfl⟩
        have hall:r.parts.all Rd.okPart=true:=by
          rw[List.all_eq_true]
          intro p hp
          obtain ⟨j,hj⟩:=List.mem_iff_getElem?.1 hp
          exact hok j p (List.getElem?_eq_some_iff.1 hj).1 hj
        have hv:=HV.out
        rw[hall,Bool.true_and] at hv
        clear hok hall HV
        obtain ⟨hF,_,hWi,hS,hP⟩:=HH.out
        have hPi:=hP h1.2
        clear HH hP
        obtain ⟨C0,hC0⟩:∃ C0:AB,C0=.cells [.vs 7 (r.parts.map ptE),.vs 7 (r.events.map evE)]:=⟨_,rfl⟩
        obtain ⟨G,hG⟩:∃ G,G=H++C0::J:=⟨_,rfl⟩
        have h0:G[H.length]?=some (.cells [.vs 7 (r.parts.map ptE),.vs 7 (r.events.map evE)]):=by rw[hG,hC0];simp
        have hKG:Kp [] H G:=by rw[hG];exact Kp.app _ _
        rw[← hC0,← hG]
        obtain ⟨f0,f1,f2,f3,f4,f5⟩:=bk' h0
        have nG:∀ n,¬ G.length+n<H.length:=by omega
        have nG0:¬ G.length<H.length:=by omega
        have HX:=hideP (And.intro hF (And.intro hWi (And.intro hS (And.intro hPi (And.intro hv hKG)))))
        clear hF hWi hS hPi hv hKG hG hC0 J h0
        (repeat (first|(with_reducible apply zal;(focus ((conv=>lhs;simp[*,ev1,wantG,spineK,spine,float,xnew,xval,xeff,zaa,zab,zam,zae,zad,addFl,cellsOf,pickC,alive,slLen,slFt,binI,maxA,maxK,minA,minK,aeqK,aeqS,AV.cells, spA,zac,fillA,setAt,bitsI,nat_nn,zan,AV.plain,apart,Nat.testBit_eq_decide_div_mod_eq])<;>exact rfl));simp only[addFl])|(with_reducible apply zbc;(focus ((conv=>lhs;simp[*,ev1,wantG,spineK,spine,float,xnew,xval,xeff,zaa,zab,zam,zae,zad,addFl,cellsOf,pickC,alive,slLen,slFt,binI,maxA,maxK,minA,minK,aeqK,aeqS,AV.cells, spA,zac,fillA,setAt,bitsI,nat_nn,zan,AV.plain,apart,Nat.testBit_eq_decide_div_mod_eq])<;>exact rfl));(try simp only[Ops,Then,OutB]);(try dsimp only))|((with_reducible first|apply zao|apply zaq|apply zak|apply zai|apply zag|apply zap|apply zaj|apply zas|(apply zah;· simp[*,zaa])|(apply zaf;· simp[*,zaa]));try simp only[Then,Ops,OutB,reduceIte])|simp only[Nat.reduceEqDiff,reduceIte,OutB,Then]))
        obtain ⟨hF,hWi,hS,hPi,hv,hKG⟩:=HX.out
        obtain ⟨G3,hG3⟩:∃ G3,G3=G++[.map [],.cells [.vs 7 (r.parts.map ptE),.vs 7 (r.events.map evE),.nils,.map G.length]]:=⟨_,rfl⟩
        have hI0:G3[G.length+1]?=some (.cells [.vs 7 (r.parts.map ptE),.vs 7 (r.events.map evE),.nils,.map G.length])∧G3[G.length]?=some (.map [])∧Kp [] H G3:=⟨by rw[hG3];simp,by rw[hG3];simp,by rw[hG3];exact hKG.trans (Kp.app _ _)⟩
        have hlG:H.length<G.length:=f0
        clear hF hWi hS hPi hv hKG f0 f1 f2 f3 f4 f5 nG nG0
        have hsame:G++[.map [],.cells [.vs 7 (r.parts.map ptE),.vs 7 (r.events.map evE),.nils,.map G.length]]=G3:=hG3.symm
        clear hG3
        with_reducible refine zbe hC r.events.length (by unfold fuelL;omega) (fun i st=>∃ hp W lv,Gl ifCs 1 (G.length+2) hp W (r.events.take i) lv∧hp[G.length+1]?=some (.cells [.vs 7 (r.parts.map ptE),.vs 7 (r.events.map evE),lv,.map G.length])∧hp[G.length]?=some (.map [])∧Kp [] H hp∧(∀ j v,j<i→r.events[j]?=some v→Rd.okEvt r v=true)∧st={ tm:=tmA 151 [(62,.int .i64 i),(61,.int .i64 r.events.length),(60,.vs 7 (r.events.map evE)),(9,.int .i64 ((r.events.take i).filter Rd.doubt).length),(8,.ptr (G.length+1) 0),(5,.fn (.func 83) [] []),(1,F)],df:=[],hp:=hp,tc:=[] }) ?_ ?_ ?_
        · refine ⟨G3,[],.nils,.none,hI0.1,hI0.2.1,hI0.2.2,by simp,?_⟩
          rw[hsame]
          refine st_is ?_ rfl rfl rfl
          simp[zav,zaw]
        · clear hI0 hsame
          rintro i st hi ⟨hp,W,lv,hGl,hx,hmp,hKp,hok,rfl⟩
          obtain ⟨_,hWi,hS,hPi,hv,_⟩:=HX.out
          have hgv:r.events[i]?=some r.events[i]:=List.getElem?_eq_getElem hi
          generalize r.events[i]=v at hgv
          have hgv':=ge_of hgv
          have hwi:IntKind.i64.wrap (↑i+1)=↑i+1:=zaz (by omega) (by omega)
          have hbad:Rd.okEvt r v=false→Rd.valid r=false:=fun h=>by
            rw[hv]
            have:r.events.all (Rd.okEvt r)=false:=by
              rw[List.all_eq_false]
              exact ⟨v,List.mem_of_getElem? hgv,by rw[h];decide⟩
            rw[this];rfl
          have hnext:Rd.okEvt r v=true→∀ j q,j<i+1→r.events[j]?=some q→Rd.okEvt r q=true:=by
            intro ho j q hj hq
            by_cases h:j=i
            · subst h;rw[hgv] at hq;cases hq;exact ho
            · exact hok j q (by omega) hq
          have hds:=zka hgv
          have hcl:((r.events.take i).filter Rd.doubt).length≤i:=Nat.le_trans (List.length_filter_le _ _) (by simp;omega)
          have htk:r.events.take (i+1)=r.events.take i++[v]:=by rw[List.take_add_one,hgv];rfl
          obtain ⟨x0,x1,x2,x3,x4,x5⟩:=bk' hx
          obtain ⟨m0,m1,m2,m3,m4,m5⟩:=bk' hmp
          have hpi:=fun K=>hPi (hp++K) (G.length+1) lv (.map G.length) (by rw[List.getElem?_append_left x0];exact hx) v.part
          have nG0:¬ hp.length<H.length:=by have:=hKp.len;omega
          have nG:∀ n,¬ hp.length+n<H.length:=by have:=hKp.len;omega
          have hone:∀ hp' nb,hp'[G.length+1]?=some (.cells [.vs 7 (r.parts.map ptE),.vs 7 (r.events.map evE),.sl nb 0 (i+1) 1,.map G.length])→hp'[G.length]?=some (.map [])→Kp [] H hp'→hp'[nb]?=some (.cells ((r.events.take i).map ifA++[ifA v]))→G.length+2≤nb→Rd.okEvt r v=true→∀ st':St,(∃ tm,st'=⟨tm,[],hp',[]⟩∧tm=tmA 151 [(62,.int .i64 ((i+1:Nat):Int)),(61,.int .i64 r.events.length),(60,.vs 7 (r.events.map evE)),(9,.int .i64 ((r.events.take (i+1)).filter Rd.doubt).length),(8,.ptr (G.length+1) 0),(5,.fn (.func 83) [] []),(1,F)])→∃ hp W lv,Gl ifCs 1 (G.length+2) hp W (r.events.take (i+1)) lv∧hp[G.length+1]?=some (.cells [.vs 7 (r.parts.map ptE),.vs 7 (r.events.map evE),lv,.map G.length])∧hp[G.length]?=some (.map [])∧Kp [] H hp∧(∀ j v,j<i+1→r.events[j]?=some v→Rd.okEvt r v=true)∧st'={ tm:=tmA 151 [(62,.int .i64 ((i+1:Nat):Int)),(61,.int .i64 r.events.length),(60,.vs 7 (r.events.map evE)),(9,.int .i64 ((r.events.take (i+1)).filter Rd.doubt).length),(8,.ptr (G.length+1) 0),(5,.fn (.func 83) [] []),(1,F)],df:=[],hp:=hp,tc:=[] }:=by
            rintro hp' nb k1 k2 k3 k4 k5 k6 st' ⟨tm,rfl,rfl⟩
            refine ⟨hp',[nb],_,?_,k1,k2,k3,hnext k6,rfl⟩
            have:=Gl.some (f:=ifCs) (k:=1) (lo:=G.length+2) (G:=hp') nb (r.events.take (i+1)) k5 (by rw[zim,htk,List.map_append];exact k4) (by rw[htk];simp)
            have hlen:(r.events.take (i+1)).length=i+1:=by simp;omega
            rw[hlen] at this
            exact this
          have hlen0:(r.events.take i).length=i:=by simp;omega
          have HO:=hideP hone
          have HB:=hideP hbad
          have HD:=hideP (And.intro hds htk)
          have HK:=hideP hKp
          have HGl:=hideP hGl
          clear hone hbad hds hKp hGl hnext htk hok hx hmp hv hPi
          by_cases hk0:v.kind=0
          · have hs:=fun H=>hS H v.load 0 60 2 (by decide) (by decide)
            clear hS hWi hpi
            have hok0:Rd.okEvt r v=Rd.isSpan v.load 0 60 2:=by unfold Rd.okEvt;rw[if_pos hk0]
            cases hb:Rd.isSpan v.load 0 60 2 with
            |false=>
              rw[hb] at hs hok0
              have HE:=hideP (HB.out hok0)
              clear hok0 hb
              (repeat (first|(with_reducible apply zal;(focus ((conv=>lhs;simp[*,ev1,wantG,spineK,spine,float,xnew,xval,xeff,zaa,zab,zam,zae,zad,addFl,cellsOf,pickC,alive,slLen,slFt,binI,maxA,maxK,minA,minK,aeqK,aeqS,AV.cells,evE, spA,zac,fillA,setAt,bitsI,nat_nn,zan,AV.plain,apart,Nat.testBit_eq_decide_div_mod_eq])<;>exact rfl));simp only[addFl])|(with_reducible apply zbc;(focus ((conv=>lhs;simp[*,ev1,wantG,spineK,spine,float,xnew,xval,xeff,zaa,zab,zam,zae,zad,addFl,cellsOf,pickC,alive,slLen,slFt,binI,maxA,maxK,minA,minK,aeqK,aeqS,AV.cells,evE, spA,zac,fillA,setAt,bitsI,nat_nn,zan,AV.plain,apart,Nat.testBit_eq_decide_div_mod_eq])<;>exact rfl));(try simp only[Ops,Then,OutB]);(try dsimp only))|((with_reducible first|apply zao|apply zaq|apply zak|apply zai|apply zag|apply zap|apply zaj|apply zas|(apply zah;· simp[*,zaa])|(apply zaf;· simp[*,zaa]));try simp only[Then,Ops,OutB])|simp only[Nat.reduceEqDiff,reduceIte,OutB,Then]))
              exact zce rfl (by simp;omega) ⟨rfl,.inl ⟨HE.out,rfl⟩⟩
            |true=>
              rw[hb] at hs hok0
              have hsp:=(Rd.isSpan_iff _ _ _ _).1 hb
              have hw1:IntKind.i64.wrap (v.load.hi - v.load.lo)=v.load.hi - v.load.lo:=zaz (by omega) (by omega)
              obtain ⟨dv,hdv1,hdv2,hdv3⟩:∃ dv:Nat,min 1 (v.load.hi - v.load.lo)=(dv:Int)∧dv≤1∧((r.events.take (i+1)).filter Rd.doubt).length=((r.events.take i).filter Rd.doubt).length+dv:=by
                by_cases hlt:v.load.lo<v.load.hi
                · exact ⟨1,by omega,Nat.le_refl _,by rw[HD.out.1];simp[Rd.doubt,hk0,hlt]⟩
                · exact ⟨0,by omega,by omega,by rw[HD.out.1];simp[Rd.doubt,hlt]⟩
              have hw2:IntKind.i64.wrap ((((r.events.take i).filter Rd.doubt).length:Int)+dv)=(((r.events.take i).filter Rd.doubt).length:Int)+dv:=zaz (by omega) (by omega)
              have hif:=ifA_0 hk0
              have HQ:=hideP (And.intro hok0 (And.intro hif hdv3))
              clear hok0 hif hdv3 hb hsp
              generalize hcnt:((r.events.take i).filter Rd.doubt).length=cnt at *
              have hb1:1≤bound:=by decide
              have hGl:=HGl.out
              obtain ⟨tt,htt⟩:∃ tt,tt=r.events.take i:=⟨_,rfl⟩
              rw[← htt] at hGl
              have HT:=hideP (And.intro htt hlen0)
              clear htt hlen0 HGl
              cases hGl with
              |none=>
                (repeat (first|((with_reducible apply zal);(focus ((with_reducible apply zbg);(focus rfl);(focus rfl);(focus ((conv=>lhs;simp[*,spine,float,xnew,xval,xeff,zaa,zab,zam,zae,zad,addFl,cellsOf,pickC,alive,slLen,slFt,binI,maxA,maxK,minA,minK,aeqK,aeqS,AV.cells,spA,zac,List.getElem?_append_right,List.set_append_right,List.set_cons_zero,List.set_cons_succ,List.getElem?_cons_zero,List.getElem?_cons_succ,List.getElem?_append_left,List.getElem?_set_ne,List.getElem?_set_self,List.set_append_left,List.length_set,-getElem?_pos,evE,↓zau, fillA,setAt,bitsI,nat_nn,zan,AV.plain,apart,Nat.testBit_eq_decide_div_mod_eq])<;>exact rfl));(focus rfl);(focus rfl)));simp only[addFl])|(with_reducible apply zal;(focus ((conv=>lhs;simp[*,ev1,wantG,spineK,spine,float,xnew,xval,xeff,zaa,zab,zam,zae,zad,addFl,cellsOf,pickC,alive,slLen,slFt,binI,maxA,maxK,minA,minK,aeqK,aeqS,AV.cells,List.getElem?_append_right,List.set_append_right,List.set_cons_zero,List.set_cons_succ,List.getElem?_cons_zero,List.getElem?_cons_succ,List.getElem?_append_left,List.getElem?_set_ne,List.getElem?_set_self,List.set_append_left,List.length_set,-getElem?_pos, evE,↓zau, spA,zac,fillA,setAt,bitsI,nat_nn,zan,AV.plain,apart,Nat.testBit_eq_decide_div_mod_eq])<;>exact rfl));simp only[addFl])|((with_reducible first|apply zao|apply zaq|apply zak|apply zai|apply zag|apply zap|apply zaj|apply zas|(apply zah;· simp[*,zaa])|(apply zaf;· simp[*,zaa]));try simp only[Then,Ops,OutB])|simp only[Nat.reduceEqDiff,reduceIte,OutB,Then]))
                have hi0:i=0:=by rw[← HT.out.2,← HT.out.1];rfl
                have htt:=HT.out.1
                obtain ⟨hok0,hif,hdv3⟩:=HQ.out
                refine HO.out _ (hp.length+2) ?_ ?_ ?_ ?_ (by omega) hok0 _ ⟨_,st_is rfl rfl rfl ?_,?_⟩
                · rw[List.getElem?_append_left (by simpa using x0),List.getElem?_set_self x0,hi0]
                · rw[List.getElem?_append_left (by simpa using m0),List.getElem?_set_ne (by omega)];exact m1
                · exact ((HK.out.set _ _ (by omega))).trans (Kp.app _ _)
                · rw[List.getElem?_append_right (by simp),← htt,hif];simp
                · simp;omega
                · rw[hdv3];simp[zav,zaw]
              |some bl _ g1 g2 g3=>
                obtain ⟨q0,q1,q2,q3,q4,q5⟩:=bk' g2
                have hbb:¬ bl=G.length+1:=by omega
                have hbb2:¬ G.length+1=bl:=by omega
                have hlt:tt.length=i:=by rw[HT.out.1];exact HT.out.2
                have hbn:i+1≤bound:=by unfold bound;omega
                have hcl2:=zbr ifCs 1 (fun _=>rfl) tt
                have hcp:=zco ifCs (fun e=>by unfold ifCs ifA;split<;>(try split)<;>rfl) tt
                have HC:=hideP (And.intro g1 g3)
                clear g1 g2 g3
                generalize hcs:tt.flatMap ifCs=cs at *
                have HC2:=hideP hcs
                clear hcs
                (repeat (first|((with_reducible apply zal);(focus ((with_reducible apply zbg);(focus rfl);(focus rfl);(focus ((conv=>lhs;simp[*,spine,float,xnew,xval,xeff,zaa,zab,zam,zae,zad,addFl,cellsOf,pickC,alive,slLen,slFt,binI,maxA,maxK,minA,minK,aeqK,aeqS,AV.cells,spA,zac,List.getElem?_append_right,List.set_append_right,List.set_cons_zero,List.set_cons_succ,List.getElem?_cons_zero,List.getElem?_cons_succ,List.getElem?_append_left,List.getElem?_set_ne,List.getElem?_set_self,List.set_append_left,List.length_set,-getElem?_pos,evE,↓zau, fillA,setAt,bitsI,nat_nn,zan,AV.plain,apart,Nat.testBit_eq_decide_div_mod_eq])<;>exact rfl));(focus rfl);(focus rfl)));simp only[addFl])|(with_reducible apply zal;(focus ((conv=>lhs;simp[*,ev1,wantG,spineK,spine,float,xnew,xval,xeff,zaa,zab,zam,zae,zad,addFl,cellsOf,pickC,alive,slLen,slFt,binI,maxA,maxK,minA,minK,aeqK,aeqS,AV.cells,List.getElem?_append_right,List.set_append_right,List.set_cons_zero,List.set_cons_succ,List.getElem?_cons_zero,List.getElem?_cons_succ,List.getElem?_append_left,List.getElem?_set_ne,List.getElem?_set_self,List.set_append_left,List.length_set,-getElem?_pos, evE,↓zau, spA,zac,fillA,setAt,bitsI,nat_nn,zan,AV.plain,apart,Nat.testBit_eq_decide_div_mod_eq])<;>exact rfl));simp only[addFl])|((with_reducible first|apply zao|apply zaq|apply zak|apply zai|apply zag|apply zap|apply zaj|apply zas|(apply zah;· simp[*,zaa])|(apply zaf;· simp[*,zaa]));try simp only[Then,Ops,OutB])|simp only[Nat.reduceEqDiff,reduceIte,OutB,Then]))
                have htt:=HT.out.1
                obtain ⟨hok0,hif,hdv3⟩:=HQ.out
                obtain ⟨g1,g3⟩:=HC.out
                have hcs:=HC2.out
                rw[zim,htt] at hcs
                refine HO.out _ (hp.length+2) ?_ ?_ ?_ ?_ (by omega) hok0 _ ⟨_,st_is rfl rfl rfl ?_,?_⟩
                · rw[List.getElem?_append_left (by simpa using x0),List.getElem?_set_self (by simpa using x0)]
                · rw[List.getElem?_append_left (by simpa using m0),List.getElem?_set_ne (by omega),List.getElem?_set_ne (by omega)];exact m1
                · exact (((HK.out.set _ _ (by omega)).set _ _ (by omega))).trans (Kp.app _ _)
                · rw[List.getElem?_append_right (by simp),hif,hcs];simp
                · simp;omega
                · rw[hdv3];simp[zav,zaw]
          · have hk0b:(v.kind==0)=false:=by simpa using hk0
            have hd0:((r.events.take (i+1)).filter Rd.doubt).length=((r.events.take i).filter Rd.doubt).length:=by rw[HD.out.1];simp[Rd.doubt,hk0]
            by_cases hk1:v.kind=1
            · have hs:=fun H=>hWi H v.days 1 10
              clear hS hWi hpi
              have hok1:Rd.okEvt r v=decide (1≤v.days∧v.days≤10):=by unfold Rd.okEvt;rw[if_neg hk0,if_pos hk1]
              cases hb:decide (1≤v.days∧v.days≤10) with
              |false=>
                rw[hb] at hs hok1
                have HE:=hideP (HB.out hok1)
                clear hok1 hb hd0
                (repeat (first|(with_reducible apply zal;(focus ((conv=>lhs;simp[*,ev1,wantG,spineK,spine,float,xnew,xval,xeff,zaa,zab,zam,zae,zad,addFl,cellsOf,pickC,alive,slLen,slFt,binI,maxA,maxK,minA,minK,aeqK,aeqS,AV.cells,evE, spA,zac,fillA,setAt,bitsI,nat_nn,zan,AV.plain,apart,Nat.testBit_eq_decide_div_mod_eq])<;>exact rfl));simp only[addFl])|(with_reducible apply zbc;(focus ((conv=>lhs;simp[*,ev1,wantG,spineK,spine,float,xnew,xval,xeff,zaa,zab,zam,zae,zad,addFl,cellsOf,pickC,alive,slLen,slFt,binI,maxA,maxK,minA,minK,aeqK,aeqS,AV.cells,evE, spA,zac,fillA,setAt,bitsI,nat_nn,zan,AV.plain,apart,Nat.testBit_eq_decide_div_mod_eq])<;>exact rfl));(try simp only[Ops,Then,OutB]);(try dsimp only))|((with_reducible first|apply zao|apply zaq|apply zak|apply zai|apply zag|apply zap|apply zaj|apply zas|(apply zah;· simp[*,zaa])|(apply zaf;· simp[*,zaa]));try simp only[Then,Ops,OutB])|simp only[Nat.reduceEqDiff,reduceIte,OutB,Then]))
                exact zce rfl (by simp;omega) ⟨rfl,.inl ⟨HE.out,rfl⟩⟩
              |true=>
                rw[hb] at hs hok1
                have hif:=ifA_1 hk1
                have HQ:=hideP (And.intro hok1 (And.intro hif hd0))
                clear hok1 hif hd0 hb
                generalize hcnt:((r.events.take i).filter Rd.doubt).length=cnt at *
                have hb1:1≤bound:=by decide
                have hGl:=HGl.out
                obtain ⟨tt,htt⟩:∃ tt,tt=r.events.take i:=⟨_,rfl⟩
                rw[← htt] at hGl
                have HT:=hideP (And.intro htt hlen0)
                clear htt hlen0 HGl
                cases hGl with
                |none=>
                  (repeat (first|((with_reducible apply zal);(focus ((with_reducible apply zbg);(focus rfl);(focus rfl);(focus ((conv=>lhs;simp[*,spine,float,xnew,xval,xeff,zaa,zab,zam,zae,zad,addFl,cellsOf,pickC,alive,slLen,slFt,binI,maxA,maxK,minA,minK,aeqK,aeqS,AV.cells,spA,zac,List.getElem?_append_right,List.set_append_right,List.set_cons_zero,List.set_cons_succ,List.getElem?_cons_zero,List.getElem?_cons_succ,List.getElem?_append_left,List.getElem?_set_ne,List.getElem?_set_self,List.set_append_left,List.length_set,-getElem?_pos,evE,↓zau, fillA,setAt,bitsI,nat_nn,zan,AV.plain,apart,Nat.testBit_eq_decide_div_mod_eq])<;>exact rfl));(focus rfl);(focus rfl)));simp only[addFl])|(with_reducible apply zal;(focus ((conv=>lhs;simp[*,ev1,wantG,spineK,spine,float,xnew,xval,xeff,zaa,zab,zam,zae,zad,addFl,cellsOf,pickC,alive,slLen,slFt,binI,maxA,maxK,minA,minK,aeqK,aeqS,AV.cells,List.getElem?_append_right,List.set_append_right,List.set_cons_zero,List.set_cons_succ,List.getElem?_cons_zero,List.getElem?_cons_succ,List.getElem?_append_left,List.getElem?_set_ne,List.getElem?_set_self,List.set_append_left,List.length_set,-getElem?_pos, evE,↓zau, spA,zac,fillA,setAt,bitsI,nat_nn,zan,AV.plain,apart,Nat.testBit_eq_decide_div_mod_eq])<;>exact rfl));simp only[addFl])|((with_reducible first|apply zao|apply zaq|apply zak|apply zai|apply zag|apply zap|apply zaj|apply zas|(apply zah;· simp[*,zaa])|(apply zaf;· simp[*,zaa]));try simp only[Then,Ops,OutB])|simp only[Nat.reduceEqDiff,reduceIte,OutB,Then]))
                  have hi0:i=0:=by rw[← HT.out.2,← HT.out.1];rfl
                  have htt:=HT.out.1
                  obtain ⟨hok0,hif,hdv3⟩:=HQ.out
                  refine HO.out _ (hp.length+2) ?_ ?_ ?_ ?_ (by omega) hok0 _ ⟨_,st_is rfl rfl rfl ?_,?_⟩
                  · rw[List.getElem?_append_left (by simpa using x0),List.getElem?_set_self x0,hi0]
                  · rw[List.getElem?_append_left (by simpa using m0),List.getElem?_set_ne (by omega)];exact m1
                  · exact ((HK.out.set _ _ (by omega))).trans (Kp.app _ _)
                  · rw[List.getElem?_append_right (by simp),← htt,hif];simp
                  · simp;omega
                  · rw[hdv3];simp[zav,zaw]
                |some bl _ g1 g2 g3=>
                  obtain ⟨q0,q1,q2,q3,q4,q5⟩:=bk' g2
                  have hbb:¬ bl=G.length+1:=by omega
                  have hbb2:¬ G.length+1=bl:=by omega
                  have hlt:tt.length=i:=by rw[HT.out.1];exact HT.out.2
                  have hbn:i+1≤bound:=by unfold bound;omega
                  have hcl2:=zbr ifCs 1 (fun _=>rfl) tt
                  have hcp:=zco ifCs (fun e=>by unfold ifCs ifA;split<;>(try split)<;>rfl) tt
                  have HC:=hideP (And.intro g1 g3)
                  clear g1 g2 g3
                  generalize hcs:tt.flatMap ifCs=cs at *
                  have HC2:=hideP hcs
                  clear hcs
                  (repeat (first|((with_reducible apply zal);(focus ((with_reducible apply zbg);(focus rfl);(focus rfl);(focus ((conv=>lhs;simp[*,spine,float,xnew,xval,xeff,zaa,zab,zam,zae,zad,addFl,cellsOf,pickC,alive,slLen,slFt,binI,maxA,maxK,minA,minK,aeqK,aeqS,AV.cells,spA,zac,List.getElem?_append_right,List.set_append_right,List.set_cons_zero,List.set_cons_succ,List.getElem?_cons_zero,List.getElem?_cons_succ,List.getElem?_append_left,List.getElem?_set_ne,List.getElem?_set_self,List.set_append_left,List.length_set,-getElem?_pos,evE,↓zau, fillA,setAt,bitsI,nat_nn,zan,AV.plain,apart,Nat.testBit_eq_decide_div_mod_eq])<;>exact rfl));(focus rfl);(focus rfl)));simp only[addFl])|(with_reducible apply zal;(focus ((conv=>lhs;simp[*,ev1,wantG,spineK,spine,float,xnew,xval,xeff,zaa,zab,zam,zae,zad,addFl,cellsOf,pickC,alive,slLen,slFt,binI,maxA,maxK,minA,minK,aeqK,aeqS,AV.cells,List.getElem?_append_right,List.set_append_right,List.set_cons_zero,List.set_cons_succ,List.getElem?_cons_zero,List.getElem?_cons_succ,List.getElem?_append_left,List.getElem?_set_ne,List.getElem?_set_self,List.set_append_left,List.length_set,-getElem?_pos, evE,↓zau, spA,zac,fillA,setAt,bitsI,nat_nn,zan,AV.plain,apart,Nat.testBit_eq_decide_div_mod_eq])<;>exact rfl));simp only[addFl])|((with_reducible first|apply zao|apply zaq|apply zak|apply zai|apply zag|apply zap|apply zaj|apply zas|(apply zah;· simp[*,zaa])|(apply zaf;· simp[*,zaa]));try simp only[Then,Ops,OutB])|simp only[Nat.reduceEqDiff,reduceIte,OutB,Then]))
                  have htt:=HT.out.1
                  obtain ⟨hok0,hif,hdv3⟩:=HQ.out
                  obtain ⟨g1,g3⟩:=HC.out
                  have hcs:=HC2.out
                  rw[zim,htt] at hcs
                  refine HO.out _ (hp.length+2) ?_ ?_ ?_ ?_ (by omega) hok0 _ ⟨_,st_is rfl rfl rfl ?_,?_⟩
                  · rw[List.getElem?_append_left (by simpa using x0),List.getElem?_set_self (by simpa using x0)]
                  · rw[List.getElem?_append_left (by simpa using m0),List.getElem?_set_ne (by omega),List.getElem?_set_ne (by omega)];exact m1
                  · exact (((HK.out.set _ _ (by omega)).set _ _ (by omega))).trans (Kp.app _ _)
                  · rw[List.getElem?_append_right (by simp),hif,hcs];simp
                  · simp;omega
                  · rw[hdv3];simp[zav,zaw]
            · have hk1b:(v.kind==1)=false:=by simpa using hk1
              have hs:=fun H=>hS H v.shows (-1000) 1000 2000 (by decide) (by decide)
              clear hS hWi
              have hok2:Rd.okEvt r v=(decide (v.kind=2)&&Rd.isPart r v.part&&Rd.isSpan v.shows (-1000) 1000 2000):=by unfold Rd.okEvt;rw[if_neg hk0,if_neg hk1];rfl
              by_cases hk2:v.kind=2
              · rw[decide_eq_true hk2,Bool.true_and] at hok2
                cases hb1:Rd.isPart r v.part with
                |false=>
                  rw[hb1] at hpi hok2
                  have HE:=hideP (HB.out hok2)
                  clear hok2 hb1 hd0
                  (repeat (first|(with_reducible apply zal;(focus ((conv=>lhs;simp[*,ev1,wantG,spineK,spine,float,xnew,xval,xeff,zaa,zab,zam,zae,zad,addFl,cellsOf,pickC,alive,slLen,slFt,binI,maxA,maxK,minA,minK,aeqK,aeqS,AV.cells,evE, spA,zac,fillA,setAt,bitsI,nat_nn,zan,AV.plain,apart,Nat.testBit_eq_decide_div_mod_eq])<;>exact rfl));simp only[addFl])|(with_reducible apply zbc;(focus ((conv=>lhs;simp[*,ev1,wantG,spineK,spine,float,xnew,xval,xeff,zaa,zab,zam,zae,zad,addFl,cellsOf,pickC,alive,slLen,slFt,binI,maxA,maxK,minA,minK,aeqK,aeqS,AV.cells,evE, spA,zac,fillA,setAt,bitsI,nat_nn,zan,AV.plain,apart,Nat.testBit_eq_decide_div_mod_eq])<;>exact rfl));(try simp only[Ops,Then,OutB]);(try dsimp only))|((with_reducible first|apply zao|apply zaq|apply zak|apply zai|apply zag|apply zap|apply zaj|apply zas|(apply zah;· simp[*,zaa])|(apply zaf;· simp[*,zaa]));try simp only[Then,Ops,OutB])|simp only[Nat.reduceEqDiff,reduceIte,OutB,Then]))
                  exact zce rfl (by simp;omega) ⟨rfl,.inl ⟨HE.out,rfl⟩⟩
                |true=>
                  rw[hb1] at hpi hok2
                  cases hb:Rd.isSpan v.shows (-1000) 1000 2000 with
                  |false=>
                    rw[hb] at hs hok2
                    have HE:=hideP (HB.out hok2)
                    clear hok2 hb hb1 hd0
                    (repeat (first|(with_reducible apply zal;(focus ((conv=>lhs;simp[*,ev1,wantG,spineK,spine,float,xnew,xval,xeff,zaa,zab,zam,zae,zad,addFl,cellsOf,pickC,alive,slLen,slFt,binI,maxA,maxK,minA,minK,aeqK,aeqS,AV.cells,evE, spA,zac,fillA,setAt,bitsI,nat_nn,zan,AV.plain,apart,Nat.testBit_eq_decide_div_mod_eq])<;>exact rfl));simp only[addFl])|(with_reducible apply zbc;(focus ((conv=>lhs;simp[*,ev1,wantG,spineK,spine,float,xnew,xval,xeff,zaa,zab,zam,zae,zad,addFl,cellsOf,pickC,alive,slLen,slFt,binI,maxA,maxK,minA,minK,aeqK,aeqS,AV.cells,evE, spA,zac,fillA,setAt,bitsI,nat_nn,zan,AV.plain,apart,Nat.testBit_eq_decide_div_mod_eq])<;>exact rfl));(try simp only[Ops,Then,OutB]);(try dsimp only))|((with_reducible first|apply zao|apply zaq|apply zak|apply zai|apply zag|apply zap|apply zaj|apply zas|(apply zah;· simp[*,zaa])|(apply zaf;· simp[*,zaa]));try simp only[Then,Ops,OutB])|simp only[Nat.reduceEqDiff,reduceIte,OutB,Then]))
                    exact zce rfl (by simp;omega) ⟨rfl,.inl ⟨HE.out,rfl⟩⟩
                  |true=>
                    rw[hb] at hs hok2
                    have hif:=ifA_2 hk2
                    have HQ:=hideP (And.intro hok2 (And.intro hif hd0))
                    clear hok2 hif hd0 hb hb1
                    generalize hcnt:((r.events.take i).filter Rd.doubt).length=cnt at *
                    have hb1:1≤bound:=by decide
                    have hGl:=HGl.out
                    obtain ⟨tt,htt⟩:∃ tt,tt=r.events.take i:=⟨_,rfl⟩
                    rw[← htt] at hGl
                    have HT:=hideP (And.intro htt hlen0)
                    clear htt hlen0 HGl
                    cases hGl with
                    |none=>
                      (repeat (first|((with_reducible apply zal);(focus ((with_reducible apply zbg);(focus rfl);(focus rfl);(focus ((conv=>lhs;simp[*,spine,float,xnew,xval,xeff,zaa,zab,zam,zae,zad,addFl,cellsOf,pickC,alive,slLen,slFt,binI,maxA,maxK,minA,minK,aeqK,aeqS,AV.cells,spA,zac,List.getElem?_append_right,List.set_append_right,List.set_cons_zero,List.set_cons_succ,List.getElem?_cons_zero,List.getElem?_cons_succ,List.getElem?_append_left,List.getElem?_set_ne,List.getElem?_set_self,List.set_append_left,List.length_set,-getElem?_pos,evE,↓zau, fillA,setAt,bitsI,nat_nn,zan,AV.plain,apart,Nat.testBit_eq_decide_div_mod_eq])<;>exact rfl));(focus rfl);(focus rfl)));simp only[addFl])|(with_reducible apply zal;(focus ((conv=>lhs;simp[*,ev1,wantG,spineK,spine,float,xnew,xval,xeff,zaa,zab,zam,zae,zad,addFl,cellsOf,pickC,alive,slLen,slFt,binI,maxA,maxK,minA,minK,aeqK,aeqS,AV.cells,List.getElem?_append_right,List.set_append_right,List.set_cons_zero,List.set_cons_succ,List.getElem?_cons_zero,List.getElem?_cons_succ,List.getElem?_append_left,List.getElem?_set_ne,List.getElem?_set_self,List.set_append_left,List.length_set,-getElem?_pos, evE,↓zau, spA,zac,fillA,setAt,bitsI,nat_nn,zan,AV.plain,apart,Nat.testBit_eq_decide_div_mod_eq])<;>exact rfl));simp only[addFl])|((with_reducible first|apply zao|apply zaq|apply zak|apply zai|apply zag|apply zap|apply zaj|apply zas|(apply zah;· simp[*,zaa])|(apply zaf;· simp[*,zaa]));try simp only[Then,Ops,OutB])|simp only[Nat.reduceEqDiff,reduceIte,OutB,Then]))
                      have hi0:i=0:=by rw[← HT.out.2,← HT.out.1];rfl
                      have htt:=HT.out.1
                      obtain ⟨hok0,hif,hdv3⟩:=HQ.out
                      refine HO.out _ (hp.length+2) ?_ ?_ ?_ ?_ (by omega) hok0 _ ⟨_,st_is rfl rfl rfl ?_,?_⟩
                      · rw[List.getElem?_append_left (by simpa using x0),List.getElem?_set_self x0,hi0]
                      · rw[List.getElem?_append_left (by simpa using m0),List.getElem?_set_ne (by omega)];exact m1
                      · exact ((HK.out.set _ _ (by omega))).trans (Kp.app _ _)
                      · rw[List.getElem?_append_right (by simp),← htt,hif];simp
                      · simp;omega
                      · rw[hdv3];simp[zav,zaw]
                    |some bl _ g1 g2 g3=>
                      obtain ⟨q0,q1,q2,q3,q4,q5⟩:=bk' g2
                      have hbb:¬ bl=G.length+1:=by omega
                      have hbb2:¬ G.length+1=bl:=by omega
                      have hlt:tt.length=i:=by rw[HT.out.1];exact HT.out.2
                      have hbn:i+1≤bound:=by unfold bound;omega
                      have hcl2:=zbr ifCs 1 (fun _=>rfl) tt
                      have hcp:=zco ifCs (fun e=>by unfold ifCs ifA;split<;>(try split)<;>rfl) tt
                      have HC:=hideP (And.intro g1 g3)
                      clear g1 g2 g3
                      generalize hcs:tt.flatMap ifCs=cs at *
                      have HC2:=hideP hcs
                      clear hcs
                      (repeat (first|((with_reducible apply zal);(focus ((with_reducible apply zbg);(focus rfl);(focus rfl);(focus ((conv=>lhs;simp[*,spine,float,xnew,xval,xeff,zaa,zab,zam,zae,zad,addFl,cellsOf,pickC,alive,slLen,slFt,binI,maxA,maxK,minA,minK,aeqK,aeqS,AV.cells,spA,zac,List.getElem?_append_right,List.set_append_right,List.set_cons_zero,List.set_cons_succ,List.getElem?_cons_zero,List.getElem?_cons_succ,List.getElem?_append_left,List.getElem?_set_ne,List.getElem?_set_self,List.set_append_left,List.length_set,-getElem?_pos,evE,↓zau, fillA,setAt,bitsI,nat_nn,zan,AV.plain,apart,Nat.testBit_eq_decide_div_mod_eq])<;>exact rfl));(focus rfl);(focus rfl)));simp only[addFl])|(with_reducible apply zal;(focus ((conv=>lhs;simp[*,ev1,wantG,spineK,spine,float,xnew,xval,xeff,zaa,zab,zam,zae,zad,addFl,cellsOf,pickC,alive,slLen,slFt,binI,maxA,maxK,minA,minK,aeqK,aeqS,AV.cells,List.getElem?_append_right,List.set_append_right,List.set_cons_zero,List.set_cons_succ,List.getElem?_cons_zero,List.getElem?_cons_succ,List.getElem?_append_left,List.getElem?_set_ne,List.getElem?_set_self,List.set_append_left,List.length_set,-getElem?_pos, evE,↓zau, spA,zac,fillA,setAt,bitsI,nat_nn,zan,AV.plain,apart,Nat.testBit_eq_decide_div_mod_eq])<;>exact rfl));simp only[addFl])|((with_reducible first|apply zao|apply zaq|apply zak|apply zai|apply zag|apply zap|apply zaj|apply zas|(apply zah;· simp[*,zaa])|(apply zaf;· simp[*,zaa]));try simp only[Then,Ops,OutB])|simp only[Nat.reduceEqDiff,reduceIte,OutB,Then]))
                      have htt:=HT.out.1
                      obtain ⟨hok0,hif,hdv3⟩:=HQ.out
                      obtain ⟨g1,g3⟩:=HC.out
                      have hcs:=HC2.out
                      rw[zim,htt] at hcs
                      refine HO.out _ (hp.length+2) ?_ ?_ ?_ ?_ (by omega) hok0 _ ⟨_,st_is rfl rfl rfl ?_,?_⟩
                      · rw[List.getElem?_append_left (by simpa using x0),List.getElem?_set_self (by simpa using x0)]
                      · rw[List.getElem?_append_left (by simpa using m0),List.getElem?_set_ne (by omega),List.getElem?_set_ne (by omega)];exact m1
                      · exact (((HK.out.set _ _ (by omega)).set _ _ (by omega))).trans (Kp.app _ _)
                      · rw[List.getElem?_append_right (by simp),hif,hcs];simp
                      · simp;omega
                      · rw[hdv3];simp[zav,zaw]
              · have hk2b:(v.kind==2)=false:=by simpa using hk2
                rw[decide_eq_false hk2] at hok2
                have HE:=hideP (HB.out hok2)
                clear hok2 hd0
                (repeat (first|(with_reducible apply zal;(focus ((conv=>lhs;simp[*,ev1,wantG,spineK,spine,float,xnew,xval,xeff,zaa,zab,zam,zae,zad,addFl,cellsOf,pickC,alive,slLen,slFt,binI,maxA,maxK,minA,minK,aeqK,aeqS,AV.cells,evE, spA,zac,fillA,setAt,bitsI,nat_nn,zan,AV.plain,apart,Nat.testBit_eq_decide_div_mod_eq])<;>exact rfl));simp only[addFl])|(with_reducible apply zbc;(focus ((conv=>lhs;simp[*,ev1,wantG,spineK,spine,float,xnew,xval,xeff,zaa,zab,zam,zae,zad,addFl,cellsOf,pickC,alive,slLen,slFt,binI,maxA,maxK,minA,minK,aeqK,aeqS,AV.cells,evE, spA,zac,fillA,setAt,bitsI,nat_nn,zan,AV.plain,apart,Nat.testBit_eq_decide_div_mod_eq])<;>exact rfl));(try simp only[Ops,Then,OutB]);(try dsimp only))|((with_reducible first|apply zao|apply zaq|apply zak|apply zai|apply zag|apply zap|apply zaj|apply zas|(apply zah;· simp[*,zaa])|(apply zaf;· simp[*,zaa]));try simp only[Then,Ops,OutB])|simp only[Nat.reduceEqDiff,reduceIte,OutB,Then]))
                exact zce rfl (by simp;omega) ⟨rfl,.inl ⟨HE.out,rfl⟩⟩
        · clear hI0 hsame
          rintro st ⟨hp,W,lv,hGl,hx,hmp,hKp,hok,rfl⟩
          obtain ⟨hF,_,_,_,hv,_⟩:=HX.out
          rw[List.take_length] at hGl ⊢
          have hall:r.events.all (Rd.okEvt r)=true:=by
            rw[List.all_eq_true]
            intro v hv'
            obtain ⟨j,hj⟩:=List.mem_iff_getElem?.1 hv'
            exact hok j v (List.getElem?_eq_some_iff.1 hj).1 hj
          rw[hall,Bool.true_and] at hv
          have hl:=hKp.len
          by_cases hd:(r.events.filter Rd.doubt).length≤4
          · rw[decide_eq_true hd] at hv
            obtain ⟨eb,hRx,heb⟩:∃ eb,Rx r (G.length+1) G.length eb hp∧H.length≤eb:=by
              have hel:=evL
              by_cases hn:r.events=[]
              · refine ⟨G.length+1,⟨by omega,by omega,?_,fun h=>absurd hn h,get_lt hx,[],hmp,by intro p hp;cases hp⟩,by omega⟩
                have:lv=.nils:=by
                  rw[hn] at hGl
                  cases hGl with
                  |none=>rfl
                  |some _ _ _ _ h=>exact absurd rfl h
                rw[hx,this]
                simp[roadCs,evL,hn]
              · generalize hev:r.events=ev' at *
                cases hGl with
                |none=>exact absurd rfl hn
                |some b _ g1 g2 g3=>
                  refine ⟨b,⟨by omega,by omega,?_,fun _=>?_,get_lt g2,[],hmp,by intro p hp;cases hp⟩,by omega⟩
                  · rw[hx]
                    simp[roadCs,evL,hev,hn]
                  · rw[g2,zim,hev]
            have hF2:=hF hv hp (G.length+1) G.length eb hKp hRx
            have HQ:=hideP (And.intro hv (And.intro hKp (And.intro hRx heb)))
            have hd':((r.events.filter Rd.doubt).length:Int)≤4:=by omega
            clear hF hv hKp hok hRx heb HX hGl hx hmp hall
            generalize (r.events.filter Rd.doubt).length=cnt at *
            cases is with
            |false=>
              (repeat (first|(with_reducible apply zal;(focus ((conv=>lhs;simp[*,ev1,wantG,spineK,spine,float,xnew,xval,xeff,zaa,zab,zam,zae,zad,addFl,cellsOf,pickC,alive,slLen,slFt,binI,maxA,maxK,minA,minK,aeqK,aeqS,AV.cells, spA,zac,fillA,setAt,bitsI,nat_nn,zan,AV.plain,apart,Nat.testBit_eq_decide_div_mod_eq])<;>exact rfl));simp only[addFl])|(with_reducible apply zbc;(focus ((conv=>lhs;simp[*,ev1,wantG,spineK,spine,float,xnew,xval,xeff,zaa,zab,zam,zae,zad,addFl,cellsOf,pickC,alive,slLen,slFt,binI,maxA,maxK,minA,minK,aeqK,aeqS,AV.cells, spA,zac,fillA,setAt,bitsI,nat_nn,zan,AV.plain,apart,Nat.testBit_eq_decide_div_mod_eq])<;>exact rfl));(try simp only[Ops,Then]);(try dsimp only))|((with_reducible first|apply zao|apply zaq|apply zak|apply zai|apply zag|apply zap|apply zaj|apply zas|(apply zah;· simp[*,zaa])|(apply zaf;· simp[*,zaa]));try simp only[Then,Ops,OutB,reduceIte])|simp only[Nat.reduceEqDiff,reduceIte,OutB,Then]))
              exact zce rfl (by simp;omega) ⟨rfl,.inr (.inl ⟨HQ.out.1,rfl,rfl⟩)⟩
            |true=>
              (repeat (first|(with_reducible apply zal;(focus ((conv=>lhs;simp[*,ev1,wantG,spineK,spine,float,xnew,xval,xeff,zaa,zab,zam,zae,zad,addFl,cellsOf,pickC,alive,slLen,slFt,binI,maxA,maxK,minA,minK,aeqK,aeqS,AV.cells, spA,zac,fillA,setAt,bitsI,nat_nn,zan,AV.plain,apart,Nat.testBit_eq_decide_div_mod_eq])<;>exact rfl));simp only[addFl])|(with_reducible apply zbc;(focus ((conv=>lhs;simp[*,ev1,wantG,spineK,spine,float,xnew,xval,xeff,zaa,zab,zam,zae,zad,addFl,cellsOf,pickC,alive,slLen,slFt,binI,maxA,maxK,minA,minK,aeqK,aeqS,AV.cells, spA,zac,fillA,setAt,bitsI,nat_nn,zan,AV.plain,apart,Nat.testBit_eq_decide_div_mod_eq])<;>exact rfl));(try simp only[Ops,Then,OutB]);(try dsimp only))|((with_reducible first|apply zao|apply zaq|apply zak|apply zai|apply zag|apply zap|apply zaj|apply zas|(apply zah;· simp[*,zaa])|(apply zaf;· simp[*,zaa]));try simp only[Then,Ops,OutB,reduceIte])|simp only[Nat.reduceEqDiff,reduceIte,OutB,Then]))
              obtain ⟨k1,k2,k3,k4⟩:=HQ.out
              exact zoj (v:=.ptr (G.length+1) 0) (.inl rfl) rfl (by simp;omega) (by simp only[resL,resOf,zar];simp[*,resV]) ⟨rfl,.inr (.inr ⟨k1,rfl,_,_,eb,rfl,k2,k3,by omega,by omega,k4⟩)⟩
          · rw[decide_eq_false hd] at hv
            have HQ:=hideP hv
            have hd':¬ ((r.events.filter Rd.doubt).length:Int)≤4:=by omega
            clear hF hv hKp hok HX hGl hx hmp hall hd
            generalize (r.events.filter Rd.doubt).length=cnt at *
            (repeat (first|(with_reducible apply zal;(focus ((conv=>lhs;simp[*,ev1,wantG,spineK,spine,float,xnew,xval,xeff,zaa,zab,zam,zae,zad,addFl,cellsOf,pickC,alive,slLen,slFt,binI,maxA,maxK,minA,minK,aeqK,aeqS,AV.cells, spA,zac,fillA,setAt,bitsI,nat_nn,zan,AV.plain,apart,Nat.testBit_eq_decide_div_mod_eq])<;>exact rfl));simp only[addFl])|(with_reducible apply zbc;(focus ((conv=>lhs;simp[*,ev1,wantG,spineK,spine,float,xnew,xval,xeff,zaa,zab,zam,zae,zad,addFl,cellsOf,pickC,alive,slLen,slFt,binI,maxA,maxK,minA,minK,aeqK,aeqS,AV.cells, spA,zac,fillA,setAt,bitsI,nat_nn,zan,AV.plain,apart,Nat.testBit_eq_decide_div_mod_eq])<;>exact rfl));(try simp only[Ops,Then]);(try dsimp only))|((with_reducible first|apply zao|apply zaq|apply zak|apply zai|apply zag|apply zap|apply zaj|apply zas|(apply zah;· simp[*,zaa])|(apply zaf;· simp[*,zaa]));try simp only[Then,Ops,OutB,reduceIte])|simp only[Nat.reduceEqDiff,reduceIte,OutB,Then]))
            exact zce rfl (by simp;omega) ⟨rfl,.inl ⟨HQ.out,rfl⟩⟩
    · have h3':¬ (r.events.length:Int)≤10:=by omega
      rw[decide_eq_false h3] at hv
      have HV:=hideP hv
      clear hv
      (repeat (first|(with_reducible apply zal;(focus ((conv=>lhs;simp[*,ev1,wantG,spineK,spine,float,xnew,xval,xeff,zaa,zab,zam,zae,zad,addFl,cellsOf,pickC,alive,slLen,slFt,binI,maxA,maxK,minA,minK,aeqK,aeqS,AV.cells, spA,zac,fillA,setAt,bitsI,nat_nn,zan,AV.plain,apart,Nat.testBit_eq_decide_div_mod_eq])<;>exact rfl));simp only[addFl])|(with_reducible apply zbc;(focus ((conv=>lhs;simp[*,ev1,wantG,spineK,spine,float,xnew,xval,xeff,zaa,zab,zam,zae,zad,addFl,cellsOf,pickC,alive,slLen,slFt,binI,maxA,maxK,minA,minK,aeqK,aeqS,AV.cells, spA,zac,fillA,setAt,bitsI,nat_nn,zan,AV.plain,apart,Nat.testBit_eq_decide_div_mod_eq])<;>exact rfl));(try simp only[Ops,Then]);(try dsimp only))|((with_reducible first|apply zao|apply zaq|apply zak|apply zai|apply zag|apply zap|apply zaj|apply zas|(apply zah;· simp[*,zaa])|(apply zaf;· simp[*,zaa]));try simp only[Then,Ops])|simp only[Nat.reduceEqDiff,reduceIte,OutB,Then]))
      exact zce rfl (by simp) ⟨rfl,.inl ⟨by rw[HV.out];rfl,rfl⟩⟩
  · have h1':¬ ((1:Int)≤r.parts.length∧(r.parts.length:Int)≤4):=by omega
    rw[decide_eq_false h1'] at hw1
    rw[decide_eq_false h1] at hv
    have HV:=hideP hv
    clear hv
    (repeat (first|(with_reducible apply zal;(focus ((conv=>lhs;simp[*,ev1,wantG,spineK,spine,float,xnew,xval,xeff,zaa,zab,zam,zae,zad,addFl,cellsOf,pickC,alive,slLen,slFt,binI,maxA,maxK,minA,minK,aeqK,aeqS,AV.cells, spA,zac,fillA,setAt,bitsI,nat_nn,zan,AV.plain,apart,Nat.testBit_eq_decide_div_mod_eq])<;>exact rfl));simp only[addFl])|(with_reducible apply zbc;(focus ((conv=>lhs;simp[*,ev1,wantG,spineK,spine,float,xnew,xval,xeff,zaa,zab,zam,zae,zad,addFl,cellsOf,pickC,alive,slLen,slFt,binI,maxA,maxK,minA,minK,aeqK,aeqS,AV.cells, spA,zac,fillA,setAt,bitsI,nat_nn,zan,AV.plain,apart,Nat.testBit_eq_decide_div_mod_eq])<;>exact rfl));(try simp only[Ops,Then]);(try dsimp only))|((with_reducible first|apply zao|apply zaq|apply zak|apply zai|apply zag|apply zap|apply zaj|apply zas|(apply zah;· simp[*,zaa])|(apply zaf;· simp[*,zaa]));try simp only[Then,Ops])|simp only[Nat.reduceEqDiff,reduceIte,OutB,Then]))
    exact zce rfl (by simp) ⟨rfl,.inl ⟨by rw[HV.out];rfl,rfl⟩⟩
end Ro
end Ev
end Go.Proofs.Ytlcjlcllbgjplaa

/- Package road, gone through: what its exported functions share. -/
namespace Go.Proofs.Ytlcjlcllbgjplaa
open Go
namespace Ev
namespace Ro
open K
set_option maxRecDepth 100000
set_option maxHeartbeats 4000000
theorem zdp (N:Nat):∀ (ds:List Nat) (l:List (Nat × AV)),forget ds (tmA N l)=tmA N (ds.foldl (fun a t=>(t,AV.unk)::a) l)
  |[],_=>rfl
  |t::ds,l=>zdp N ds ((t,AV.unk)::l)
theorem zfk {C:Cfg}{n f:Nat}{fn:AFunc}{first captured args:List AV}{H:List AB}{v0:AV}(hc:C.calm=true)(hwh:∀ f,C.whole f=true)(h0:Has C f fn)(hlen:(first++args++captured).length≤fn.ntmps)(hv:refs v0=[]){r:Rd.Road}{xb mb eb:Nat}(hX:Rx r xb mb eb H)
    (h:Does (ev C (Ev.call C n) H.length none fn.body { tm:=tmA fn.ntmps (zipI 0 (first++args++captured) []),df:=[],hp:=H,tc:=[] }) (Ends C H.length fn.res fun v hp tc=>v=v0∧(∀ j∈tc,j=mb)∧Rx r xb mb eb hp)):
    ∃ H' tc,Ev.call C (n+1) (.fn (.func f) first captured) args H=some (.ret v0,H',tc)∧(∀ j∈tc,j=mb)∧Kp tc H H'∧Rx r xb mb eb H':=by
  obtain ⟨v,hp,tc,H',c1,⟨rfl,c2,c3⟩,c4,c5,c6,c7⟩:=zky hc hwh h0 hlen h
  refine ⟨H',tc,c1,c2,c5,?_⟩
  by_cases ht:tc=[]
  · rw[c7 hv ht];exact hX
  · rw[c6 (.inr ht)];exact c3
def CanC (call:CallF)(r:Rd.Road):Prop:=∀ (H:List AB) (xb mb eb:Nat),Rx r xb mb eb H→∀ looks:Nat,∃ H' tc,call (.fn (.func 63) [] []) [.ptr xb 0,.int .u64 looks] H=some (.ret (.bool (Rd.canR r looks)),H',tc)∧(∀ j∈tc,j=mb)∧Kp tc H H'∧Rx r xb mb eb H'
def KnownC (call:CallF)(r:Rd.Road):Prop:=∀ (H:List AB) (xb mb eb:Nat),Rx r xb mb eb H →
  ∃ H' tc,(∀ j∈tc,j=mb)∧Kp tc H H'∧Rx r xb mb eb H'∧call (.fn (.func 43) [] []) [.ptr xb 0] H=some (if Rd.canR r (Rd.everyR r) then .ret (.ptr xb 0) else .pan (.iface 119 (.agg [.int .i64 10])),H',tc)
theorem zsd (C:Cfg)(call:CallF)(hM:MustC call)(r:Rd.Road)(hE:EveryC call r)(hCa:CanC call r)(H:List AB)(xb mb eb:Nat)(hX:Rx r xb mb eb H):
    Does (ev C call H.length none af43.body { tm:=tmA af43.ntmps (zipI 0 [.ptr xb 0] []),df:=[],hp:=H,tc:=[] })
      (Fin C H.length af43 fun x hp tc=>(∀ j∈tc,j=mb)∧Kp tc H hp∧Rx r xb mb eb hp∧x=(if Rd.canR r (Rd.everyR r) then .ret (.ptr xb 0) else .pan (.iface 119 (.agg [.int .i64 10])))):=by
  obtain ⟨H',tc,c1,c2,c3,c4⟩:=hCa H xb mb eb hX (Rd.everyR r)
  have hev:=hE H xb _ _ hX.x
  have hmt:=hM.t
  have hmf:=hM.f
  have hm:=hX.ml
  have HQ:=hideP (And.intro c2 (And.intro c3 c4))
  have hl:H.length≤H'.length:=c3.len
  unfold af43
  simp only[zipI]
  clear hE hCa hX hM c2 c3 c4
  have key:(∀ j∈tc.filter (·<H.length),j=mb)∧Kp (tc.filter (·<H.length)) H H'∧Rx r xb mb eb H':=⟨fun j hj=>HQ.out.1 j (List.mem_filter.1 hj).1,HQ.out.2.1.mono fun j hj h=>List.mem_filter.2 ⟨h,by simpa using hj⟩,HQ.out.2.2⟩
  have HK:=hideP key
  clear key HQ
  cases hc:Rd.canR r (Rd.everyR r) with
  |true=>
    rw[hc] at c1
    (repeat (first|(with_reducible apply zal;(focus ((conv=>lhs;simp[*,ev1,wantG,spineK,spine,float,xnew,xval,xeff,zaa,zab,zam,zae,zad,addFl,cellsOf,pickC,alive,slLen,slFt,binI,maxA,maxK,minA,minK,aeqK,aeqS,AV.cells, spA,zac,fillA,setAt,bitsI,nat_nn,zan,AV.plain,apart,Nat.testBit_eq_decide_div_mod_eq])<;>exact rfl));simp only[addFl])|(with_reducible apply zbc;(focus ((conv=>lhs;simp[*,ev1,wantG,spineK,spine,float,xnew,xval,xeff,zaa,zab,zam,zae,zad,addFl,cellsOf,pickC,alive,slLen,slFt,binI,maxA,maxK,minA,minK,aeqK,aeqS,AV.cells, spA,zac,fillA,setAt,bitsI,nat_nn,zan,AV.plain,apart,Nat.testBit_eq_decide_div_mod_eq])<;>exact rfl));(try simp only[Ops,Then,OutB]);(try dsimp only))|((with_reducible first|apply zao|apply zaq|apply zak|apply zai|apply zag|apply zap|apply zaj|apply zas|(apply zah;· simp[*,zaa])|(apply zaf;· simp[*,zaa]));try simp only[Then,Ops,reduceIte])|simp only[Nat.reduceEqDiff,reduceIte,OutB,Then]))
    exact zoj (v:=.ptr xb 0) (.inl rfl) rfl (by simp only;omega) (by simp only[resL,resOf,zar];simp[*,resV]) ⟨HK.out.1,HK.out.2.1,HK.out.2.2,rfl⟩
  |false=>
    rw[hc] at c1
    (repeat (first|(with_reducible apply zal;(focus ((conv=>lhs;simp[*,ev1,wantG,spineK,spine,float,xnew,xval,xeff,zaa,zab,zam,zae,zad,addFl,cellsOf,pickC,alive,slLen,slFt,binI,maxA,maxK,minA,minK,aeqK,aeqS,AV.cells, spA,zac,fillA,setAt,bitsI,nat_nn,zan,AV.plain,apart,Nat.testBit_eq_decide_div_mod_eq])<;>exact rfl));simp only[addFl])|(with_reducible apply zbc;(focus ((conv=>lhs;simp[*,ev1,wantG,spineK,spine,float,xnew,xval,xeff,zaa,zab,zam,zae,zad,addFl,cellsOf,pickC,alive,slLen,slFt,binI,maxA,maxK,minA,minK,aeqK,aeqS,AV.cells, spA,zac,fillA,setAt,bitsI,nat_nn,zan,AV.plain,apart,Nat.testBit_eq_decide_div_mod_eq])<;>exact rfl));(try simp only[Ops,Then]);(try dsimp only))|((with_reducible first|apply zao|apply zaq|apply zak|apply zai|apply zag|apply zap|apply zaj|apply zas|(apply zah;· simp[*,zaa])|(apply zaf;· simp[*,zaa]));try simp only[Then,Ops])|simp only[Nat.reduceEqDiff,reduceIte,OutB,Then]))
    exact zce rfl (by simp only;omega) ⟨HK.out.1,HK.out.2.1,HK.out.2.2,rfl⟩
def OpenC (call call0:CallF)(r:Rd.Road):Prop:=∀ (H:List AB) (F:AV) (is:Bool),(Rd.valid r=true→∀ G xb mb eb,Kp [] H G→Rx r xb mb eb G→call0 F [.ptr xb 0] G=some (.ret (.bool is),G,[])) →
  (Rd.valid r=false∧call (.fn (.func 39) [] []) [.agg [.vs 7 (r.parts.map ptE),.vs 7 (r.events.map evE)],F] H=some (.pan (stopV 1),H,[]))∨(Rd.valid r=true∧is=false∧call (.fn (.func 39) [] []) [.agg [.vs 7 (r.parts.map ptE),.vs 7 (r.events.map evE)],F] H=some (.pan (stopV 2),H,[])) ∨
  (Rd.valid r=true∧is=true∧∃ H' xb mb eb,call (.fn (.func 39) [] []) [.agg [.vs 7 (r.parts.map ptE),.vs 7 (r.events.map evE)],F] H=some (.ret (.ptr xb 0),H',[])∧Kp [] H H'∧Rx r xb mb eb H'∧H.length≤xb∧H.length≤mb∧H.length≤eb)
def HeadQ (call:CallF)(r:Rd.Road)(H:List AB)(F:AV)(is:Bool):Prop:=
  (∃ e,Rd.errR r is=e∧e≠0∧call (.fn (.func 39) [] []) [.agg [.vs 7 (r.parts.map ptE),.vs 7 (r.events.map evE)],F] H=some (.pan (.iface 119 (.agg [.int .i64 e])),H,[])) ∨
  (Rd.errR r is=10∧∃ H1 xb H2 tc,call (.fn (.func 39) [] []) [.agg [.vs 7 (r.parts.map ptE),.vs 7 (r.events.map evE)],F] H=some (.ret (.ptr xb 0),H1,[])∧call (.fn (.func 43) [] []) [.ptr xb 0] H1=some (.pan (.iface 119 (.agg [.int .i64 10])),H2,tc)∧Kp [] H H2∧∀ j∈tc,H.length≤j) ∨
  (Rd.errR r is=0∧∃ H1 xb mb eb H2 tc,call (.fn (.func 39) [] []) [.agg [.vs 7 (r.parts.map ptE),.vs 7 (r.events.map evE)],F] H=some (.ret (.ptr xb 0),H1,[])∧call (.fn (.func 43) [] []) [.ptr xb 0] H1=some (.ret (.ptr xb 0),H2,tc)∧Kp [] H H2∧(∀ j∈tc,j=mb)∧Rx r xb mb eb H2∧H.length≤xb∧H.length≤mb∧H.length≤eb)
theorem ybf {call call0:CallF}{r:Rd.Road}(hO:OpenC call call0 r)(hK:Rd.valid r=true→KnownC call r)(H:List AB)(F:AV)(is:Bool)(hF:Rd.valid r=true→∀ G xb mb eb,Kp [] H G→Rx r xb mb eb G→call0 F [.ptr xb 0] G=some (.ret (.bool is),G,[])):HeadQ call r H F is:=by
  rcases hO H F is hF with ⟨h1,h2⟩|⟨h1,h2,h3⟩|⟨h1,h2,H1,xb,mb,eb,h3,h4,h5,h6,h7,h8⟩
  · exact .inl ⟨1,by simp[Rd.errR,h1],by decide,h2⟩
  · exact .inl ⟨2,by simp[Rd.errR,h1,h2],by decide,h3⟩
  · obtain ⟨H2,tc,k1,k2,k3,k4⟩:=hK h1 H1 xb mb eb h5
    have kk:Kp [] H H2:=⟨by have:=h4.len;have:=k2.len;omega,fun b hb _=>by rw[k2.get b (by have:=h4.len;omega) (fun h=>by have:=k1 b h;omega)];exact h4.get b hb (by simp)⟩
    cases hc:Rd.canR r (Rd.everyR r) with
    |true=>
      rw[hc] at k4
      exact .inr (.inr ⟨by simp[Rd.errR,h1,h2,hc],H1,xb,mb,eb,H2,tc,h3,k4,kk,k1,k3,h6,h7,h8⟩)
    |false=>
      rw[hc] at k4
      exact .inr (.inl ⟨by simp[Rd.errR,h1,h2,hc],H1,xb,H2,tc,h3,k4,kk,fun j hj=>by rw[k1 j hj];exact h7⟩)
def spanRV (r:Rd.Road)(is:Bool)(s:Clm.Sp):AV:=.tup [spA (if Rd.errR r is=0 then s else ⟨0,0⟩),.int .i64 (Rd.errR r is)]
def numRV (r:Rd.Road)(is:Bool)(n:Int):AV:=.tup [.int .i64 (if Rd.errR r is=0 then n else 0),.int .i64 (Rd.errR r is)]
def heightG (r:Rd.Road)(many:Nat)(w:Rd.Way)(ls:List Int):Clm.Sp:=⟨Rd.heightR r w.part w.first.lo ls many,Rd.heightR r w.part w.first.hi ls many⟩
def sinkG (load:Int)(w:Rd.Way)(_:List Int):Clm.Sp:=⟨Rd.sunk w.part load,Rd.sunk w.part load⟩
theorem zmr (C:Cfg)(call:CallF)(r:Rd.Road)(hH:HeightC call r)(H:List AB)(xb mb eb:Nat)(hX:Rx r xb mb eb H)(w:Rd.Way)(hp:TrOk w.part)(hw:0≤w.first.lo∧w.first.lo≤60∧0≤w.first.hi∧w.first.hi≤60)(f:Nat→Int)(hf:LdOk f)(many:Nat)(hm:many≤r.events.length)(b1 b2:Nat)(h1:H[b1]?=some (.cells [.ptr xb 0]))(h2:H[b2]?=some (.cells [.int .i64 many])):
    Does (ev C call H.length none af85.body { tm:=tmA af85.ntmps (zipI 0 [.agg (wayCs w),.agg (arr10 f),.ptr b1 0,.ptr b2 0] []),df:=[],hp:=H,tc:=[] })
      (Ends C H.length af85.res fun v _hp tc=>v=spA (heightG r many w (lsOf r.events.length f))∧tc=[]):=by
  have c1:=fun K=>hH (H++K) xb mb eb (hX.app K) w.part hp w.first.lo (by omega) (by omega) f hf many hm
  have c2:=fun K=>hH (H++K) xb mb eb (hX.app K) w.part hp w.first.hi (by omega) (by omega) f hf many hm
  obtain ⟨x0,x1,x2,x3,x4,x5⟩:=bk' h1
  obtain ⟨y0,y1,y2,y3,y4,y5⟩:=bk' h2
  unfold heightG
  have hl:=zbn f
  have hall:=zca f
  generalize Rd.heightR r w.part w.first.lo (lsOf r.events.length f) many=u at *
  generalize Rd.heightR r w.part w.first.hi (lsOf r.events.length f) many=z at *
  clear hH h1 h2 hX hp hw hf hm
  unfold af85
  generalize arr10 f=R at *
  simp only[zipI,wayCs] at *
  (repeat (first|((with_reducible apply zal);(focus ((with_reducible apply zbg);(focus rfl);(focus rfl);(focus ((conv=>lhs;simp[*,spine,float,xnew,xval,xeff,zaa,zab,zam,zae,zad,addFl,cellsOf,pickC,alive,slLen,slFt,binI,maxA,maxK,minA,minK,aeqK,aeqS,AV.cells,spA,zac,List.getElem?_append_right,List.set_append_right,List.set_cons_zero,List.set_cons_succ,List.getElem?_cons_zero,List.getElem?_cons_succ,List.getElem?_append_left,List.getElem?_set_ne,List.getElem?_set_self,List.set_append_left,List.length_set,-getElem?_pos,↓zau, fillA,setAt,bitsI,nat_nn,zan,AV.plain,apart,Nat.testBit_eq_decide_div_mod_eq])<;>exact rfl));(focus rfl);(focus rfl)));simp only[addFl])|(with_reducible apply zal;(focus ((conv=>lhs;simp[*,ev1,wantG,spineK,spine,float,xnew,xval,xeff,zaa,zab,zam,zae,zad,addFl,cellsOf,pickC,alive,slLen,slFt,binI,maxA,maxK,minA,minK,aeqK,aeqS,AV.cells,List.getElem?_append_right,List.set_append_right,List.set_cons_zero,List.set_cons_succ,List.getElem?_cons_zero,List.getElem?_cons_succ,List.getElem?_append_left,List.getElem?_set_ne,List.getElem?_set_self,List.set_append_left,List.length_set,-getElem?_pos, ↓zau, spA,zac,fillA,setAt,bitsI,nat_nn,zan,AV.plain,apart,Nat.testBit_eq_decide_div_mod_eq])<;>exact rfl));simp only[addFl])|((with_reducible first|apply zao|apply zaq|apply zak|apply zai|apply zag|apply zap|apply zaj|apply zas|(apply zah;· simp[*,zaa])|(apply zaf;· simp[*,zaa]));try simp only[Then,Ops])|simp only[Nat.reduceEqDiff,reduceIte,OutB,Then]))
  refine zat (v:=spA ⟨u,z⟩) (.inl rfl) rfl (by simp) (by simp only[zad];simp only[resL,resOf,zar];simp[pickC,resV,spA]) ⟨rfl,by simp⟩
end Ro
end Ev
end Go.Proofs.Ytlcjlcllbgjplaa

/- Package road, gone through: Height, Sinks, Bears. -/
namespace Go.Proofs.Ytlcjlcllbgjplaa
open Go
namespace Ev
namespace Ro
open K
set_option maxRecDepth 100000
set_option maxHeartbeats 4000000
def SpanC (call call0:CallF)(r:Rd.Road):Prop:=∀ (H:List AB) (xb mb eb:Nat),Rx r xb mb eb H→∀ n,n<r.parts.length→∀ (fl:Fn) (fa fb:List AV) (g:Rd.Way→List Int→Clm.Sp),WayF call0 (.fn fl fa fb) r xb mb eb n H g →
  ∃ H' tc,call (.fn (.func 49) [] []) [.ptr xb 0,.int .i64 n,.fn fl fa fb] H=some (.ret (.agg [.int .i64 (Rd.spanR r n g).lo,.int .i64 (Rd.spanR r n g).hi]),H',tc)∧(∀ j∈tc,j=mb)∧Kp tc H H'∧Rx r xb mb eb H'
def Heights1C (call:CallF)(r:Rd.Road):Prop:=∀ (H:List AB) (xb mb eb:Nat),Rx r xb mb eb H→∀ w:Rd.Way,TrOk w.part→0≤w.first.lo∧w.first.lo≤60∧0≤w.first.hi∧w.first.hi≤60→∀ f,LdOk f→∀ many,many≤r.events.length→∀ b1 b2:Nat,H[b1]?=some (.cells [.ptr xb 0])→H[b2]?=some (.cells [.int .i64 many]) →
  call (.fn (.func 85) [] [.ptr b1 0,.ptr b2 0]) [.agg (wayCs w),.agg (arr10 f)] H=some (.ret (.agg [.int .i64 (heightG r many w (lsOf r.events.length f)).lo,.int .i64 (heightG r many w (lsOf r.events.length f)).hi]),H,[])
theorem zmq (C:Cfg)(call call0:CallF)(r:Rd.Road)(hr:Rd.Fine r)(hSp:SpanC call call0 r)(hH1:Heights1C call0 r)(H:List AB)(xb mb eb:Nat)(hX:Rx r xb mb eb H)(n:Nat)(hn:n<r.parts.length)(many:Nat)(hm:many≤r.events.length):
    Does (ev C call H.length none af44.body { tm:=tmA af44.ntmps (zipI 0 [.ptr xb 0,.int .i64 n,.int .i64 many] []),df:=[],hp:=H,tc:=[] })
      (Ends C H.length af44.res fun v hp tc=>v=spA (Rd.heightsR r n many)∧(∀ j∈tc,j=mb)∧Rx r xb mb eb hp):=by
  obtain ⟨H', tc, c1, c2, c3, c4⟩ := hSp (H ++ [.cells [.ptr xb 0], .cells [.int .i64 many], .cells [.int .i64 0, .int .i64 0]]) xb mb eb (hX.app _) n hn (.func 85) [] [.ptr H.length 0, .ptr (H.length + 1) 0] (heightG r many) (by
    intro G k hG ls hls w hw
    obtain ⟨hld,he⟩:=all_ld hr hls
    obtain ⟨o1,o2,o3,o4⟩:=way_ok hr hn hw
    have hm':=hX.ml
    have:=hH1 G xb mb eb hG w o1 (by omega) (fnOf ls) hld many hm H.length (H.length+1) (k.at (by simp) (by simp;omega)) (k.at (by simp) (by simp;omega))
    rw[he] at this
    exact this)
  have hs:Rd.spanR r n (heightG r many)=Rd.heightsR r n many:=rfl
  rw[hs] at c1
  have hx:=hX.xl;have hml:=hX.ml;have hel:=hX.el
  have e6:H'[H.length+2]?=some (.cells [.int .i64 0,.int .i64 0]):=c3.at (by simp) (fun h=>by have:=c2 _ h;omega)
  obtain ⟨x0,x1,x2,x3,x4,x5⟩:=bk' e6
  have hl:=c3.len
  have HQ:=hideP (And.intro c2 (And.intro c4 hl))
  clear hSp hH1 hX hs c2 c3 c4 hn hm e6 hl
  generalize Rd.heightsR r n many=sp at *
  unfold af44
  simp only[zipI]
  (repeat (first|(with_reducible apply zal;(focus ((conv=>lhs;simp[*,ev1,wantG,spineK,spine,float,xnew,xval,xeff,zaa,zab,zam,zae,zad,addFl,cellsOf,pickC,alive,slLen,slFt,binI,maxA,maxK,minA,minK,aeqK,aeqS,AV.cells, spA,zac,fillA,setAt,bitsI,nat_nn,zan,AV.plain,apart,Nat.testBit_eq_decide_div_mod_eq])<;>exact rfl));simp only[addFl])|((with_reducible first|apply zao|apply zaq|apply zak|apply zai|apply zag|apply zap|apply zaj|apply zas|(apply zah;· simp[*,zaa])|(apply zaf;· simp[*,zaa]));try simp only[Then,Ops])|simp only[Nat.reduceEqDiff,reduceIte,OutB,Then]))
  obtain ⟨c2,c4,hl⟩:=HQ.out
  refine zat (v:=spA sp) (.inl rfl) rfl (by simp at hl ⊢;omega) (by simp only[resL,resOf,zar];simp[resV,pickC,spA,x0]) ⟨rfl,fun j hj=>?_,c4.kp ((Kp.refl [H.length+2] H').set _ _ (by simp)) (by simp;omega) (by simp;omega) (by simp;omega)⟩
  simp at hj
  first|(rcases hj with h|h<;>first|omega|exact c2 j h.1|exact c2 j h)|exact c2 j hj.1
def HeightsC (call:CallF)(r:Rd.Road):Prop:=∀ (H:List AB) (xb mb eb:Nat),Rx r xb mb eb H→∀ n,n<r.parts.length→∀ many,many≤r.events.length →
  ∃ H' tc,call (.fn (.func 44) [] []) [.ptr xb 0,.int .i64 n,.int .i64 many] H=some (.ret (.agg [.int .i64 (Rd.heightsR r n many).lo,.int .i64 (Rd.heightsR r n many).hi]),H',tc)∧(∀ j∈tc,j=mb)∧Kp tc H H'∧Rx r xb mb eb H'
def IsFn (call:CallF)(r:Rd.Road)(F:AV)(is:Bool)(H:List AB):Prop:=Rd.valid r=true→∀ G xb mb eb,Kp [] H G→Rx r xb mb eb G→call F [.ptr xb 0] G=some (.ret (.bool is),G,[])
theorem zjr {r:Rd.Road}{n:Int}(h:Rd.isPart r n=true):∃ i:Nat,n=i∧i<r.parts.length:=by
  have:=of_decide_eq_true h
  exact ⟨n.toNat,by omega,by omega⟩
theorem zny {r:Rd.Road}{n:Int}(h:Rd.isEvent r n=true):∃ i:Nat,n=i∧i<r.events.length:=by
  have:=of_decide_eq_true h
  exact ⟨n.toNat,by omega,by omega⟩
theorem zmo {n d:Int}(h:Rd.isLoad n=true)(d0:0≤d)(d1:d≤10):LOk d n:=by
  have:=of_decide_eq_true h
  exact ⟨d0,d1,by omega,by omega⟩
theorem zob (C:Cfg)(call call0:CallF)(r:Rd.Road)(hdf:C.dfk 37=some (119,true))(hHd:∀ H F is,IsFn call0 r F is H→HeadQ call r H F is)(hHs:Rd.valid r=true→HeightsC call r)(num evn:Int)(he:-9223372036854775808≤evn∧evn≤9223372036854775807)
    (hF:IsFn call0 r (.fn (.func 40) [] [.ptr 1 0,.ptr 2 0]) (Rd.isPart r num&&Rd.isEvent r evn) [.cells (roadCs r),.cells [.int .i64 num],.cells [.int .i64 evn],.cells [.int .i64 0,.int .i64 0],.cells [.int .i64 0]]):
    Does (ev C call ([]:List AB).length none af14.body { tm:=tmA af14.ntmps (zipI 0 [.agg (roadCs r),.int .i64 num,.int .i64 evn] []),df:=[],hp:=[],tc:=[] })
      (Fin C ([]:List AB).length af14 (Ans (spanRV r (Rd.isPart r num&&Rd.isEvent r evn) (Rd.heightsR r num.toNat (evn.toNat+1))))):=by
  have ho:=hHd [.cells (roadCs r),.cells [.int .i64 num],.cells [.int .i64 evn],.cells [.int .i64 0,.int .i64 0],.cells [.int .i64 0]] _ _ hF
  unfold spanRV
  generalize hb:(Rd.isPart r num&&Rd.isEvent r evn)=is at *
  unfold af14
  rcases ho with ⟨e,h1,h2,h3⟩|⟨h1,H1,xb,H2,tc,h3,h4,h5,h6⟩|⟨h1,H1,xb,mb,eb,H2,tc,h3,h4,h5,h6,h7,h8,h9,h10⟩
  · rw[h1,if_neg h2]
    clear hHd hHs hF h1 hb he
    simp only[zipI,roadCs] at *
    (repeat (first|(with_reducible apply zal;(focus ((conv=>lhs;simp[*,ev1,wantG,spineK,spine,float,xnew,xval,xeff,zaa,zab,zam,zae,zad,addFl,cellsOf,pickC,alive,slLen,slFt,binI,maxA,maxK,minA,minK,aeqK,aeqS,AV.cells,↓zau, spA,zac,fillA,setAt,bitsI,nat_nn,zan,AV.plain,apart,Nat.testBit_eq_decide_div_mod_eq])<;>exact rfl));simp only[addFl])|(with_reducible apply zbc;(focus ((conv=>lhs;simp[*,ev1,wantG,spineK,spine,float,xnew,xval,xeff,zaa,zab,zam,zae,zad,addFl,cellsOf,pickC,alive,slLen,slFt,binI,maxA,maxK,minA,minK,aeqK,aeqS,AV.cells,↓zau, spA,zac,fillA,setAt,bitsI,nat_nn,zan,AV.plain,apart,Nat.testBit_eq_decide_div_mod_eq])<;>exact rfl));(try simp only);(try dsimp only))|((with_reducible first|apply zao|apply zaq|apply zak|apply zai|apply zag|apply zap|apply zaj|apply zas|(apply zah;· simp[*,zaa])|(apply zaf;· simp[*,zaa]));try simp only[Then,Ops])|simp only[Nat.reduceEqDiff,reduceIte,OutB,Then]))
    refine zby (v:=.tup [.agg [.int .i64 0,.int .i64 0],.int .i64 e]) hdf rfl (by simp only;rfl) (by simp only[zdp,List.filterMap_cons,List.filterMap_nil,List.foldl_cons,List.foldl_nil];simp only[resL,resOf,zar];simp[resV,pickC]) ⟨by simp[spA],by simp⟩
  · rw[h1,if_neg (by decide)]
    have e3:H2[3]?=some (.cells [.int .i64 0,.int .i64 0]):=h5.at rfl (by simp)
    have e4:H2[4]?=some (.cells [.int .i64 0]):=h5.at rfl (by simp)
    obtain ⟨n0,n1,n2,n3,n4⟩:0∉tc∧1∉tc∧2∉tc∧3∉tc∧4∉tc:=by
      refine ⟨?_,?_,?_,?_,?_⟩<;>(intro h;have:=h6 _ h;simp at *<;>omega)
    clear hHd hHs hF h1 hb he h5 h6
    simp only[zipI,roadCs] at *
    (repeat (first|(with_reducible apply zal;(focus ((conv=>lhs;simp[*,ev1,wantG,spineK,spine,float,xnew,xval,xeff,zaa,zab,zam,zae,zad,addFl,cellsOf,pickC,alive,slLen,slFt,binI,maxA,maxK,minA,minK,aeqK,aeqS,AV.cells,↓zau, spA,zac,fillA,setAt,bitsI,nat_nn,zan,AV.plain,apart,Nat.testBit_eq_decide_div_mod_eq])<;>exact rfl));simp only[addFl])|(with_reducible apply zbc;(focus ((conv=>lhs;simp[*,ev1,wantG,spineK,spine,float,xnew,xval,xeff,zaa,zab,zam,zae,zad,addFl,cellsOf,pickC,alive,slLen,slFt,binI,maxA,maxK,minA,minK,aeqK,aeqS,AV.cells,↓zau, spA,zac,fillA,setAt,bitsI,nat_nn,zan,AV.plain,apart,Nat.testBit_eq_decide_div_mod_eq])<;>exact rfl));(try simp only);(try dsimp only))|((with_reducible first|apply zao|apply zaq|apply zak|apply zai|apply zag|apply zap|apply zaj|apply zas|(apply zah;· simp[*,zaa])|(apply zaf;· simp[*,zaa]));try simp only[Then,Ops])|simp only[Nat.reduceEqDiff,reduceIte,OutB,Then]))
    refine zby (v:=.tup [.agg [.int .i64 0,.int .i64 0],.int .i64 10]) hdf rfl (by simp only;exact e4) (by simp only[zdp,List.filterMap_cons,List.filterMap_nil,List.foldl_cons,List.foldl_nil];simp only[resL,resOf,zar];simp[resV,pickC,List.getElem?_set_ne,e3,List.getElem?_set_self (get_lt e4)]) ⟨by simp[spA],by simp⟩
  · obtain ⟨hi,hf,hcan⟩:=Rd.errR_zero h1
    subst hi
    rw[h1,if_pos rfl]
    have hv:Rd.valid r=true:=(Rd.valid_iff r).2 hf
    obtain ⟨hb1,hb2⟩:=Bool.and_eq_true_iff.1 hb
    obtain ⟨i,rfl,hil⟩:=zjr hb1
    obtain ⟨j,rfl,hjl⟩:=zny hb2
    obtain ⟨H3,tc3,k1,k2,k3,k4⟩:=hHs hv H2 xb mb eb h7 i hil (j+1) (by omega)
    have e3:H3[3]?=some (.cells [.int .i64 0,.int .i64 0]):=k3.at (h5.at rfl (by simp)) (fun h=>by have:=k2 _ h;simp at h9;omega)
    have e4:H3[4]?=some (.cells [.int .i64 0]):=k3.at (h5.at rfl (by simp)) (fun h=>by have:=k2 _ h;simp at h9;omega)
    obtain ⟨f0,f1,f2,f3,f4,f5⟩:=bk' e3
    obtain ⟨g0,g1,g2,g3,g4,g5⟩:=bk' e4
    obtain ⟨n0,n1,n2,n3,n4⟩:0∉tc∧1∉tc∧2∉tc∧3∉tc∧4∉tc:=by
      refine ⟨?_,?_,?_,?_,?_⟩<;>(intro h;have:=h6 _ h;simp at *<;>omega)
    obtain ⟨m0,m1,m2,m3,m4⟩:0∉tc3∧1∉tc3∧2∉tc3∧3∉tc3∧4∉tc3:=by
      refine ⟨?_,?_,?_,?_,?_⟩<;>(intro h;have:=k2 _ h;simp at *<;>omega)
    have hev:=hf.events
    have hw:IntKind.i64.wrap (↑j+1)=↑j+1:=zaz (by omega) (by omega)
    rw[show ((j+1:Nat):Int)=(j:Int)+1 by omega] at k1
    rw[Int.toNat_natCast,Int.toNat_natCast]
    generalize Rd.heightsR r i (j+1)=sp at *
    clear hHd hHs hF h1 hb he hb1 hb2 h5 h6 h7 h8 h9 h10 hv hf hcan k2 k3 k4 hil hjl e3 e4
    simp only[zipI,roadCs] at *
    (repeat (first|((with_reducible apply zal);(focus ((with_reducible apply zbg);(focus rfl);(focus rfl);(focus ((conv=>lhs;simp[*,spine,float,xnew,xval,xeff,zaa,zab,zam,zae,zad,addFl,cellsOf,pickC,alive,slLen,slFt,binI,maxA,maxK,minA,minK,aeqK,aeqS,AV.cells,spA,zac,List.getElem?_append_right,List.set_append_right,List.set_cons_zero,List.set_cons_succ,List.getElem?_cons_zero,List.getElem?_cons_succ,List.getElem?_append_left,List.getElem?_set_ne,List.getElem?_set_self,List.set_append_left,List.length_set,-getElem?_pos,↓zau, fillA,setAt,bitsI,nat_nn,zan,AV.plain,apart,Nat.testBit_eq_decide_div_mod_eq])<;>exact rfl));(focus rfl);(focus rfl)));simp only[addFl])|(with_reducible apply zal;(focus ((conv=>lhs;simp[*,ev1,wantG,spineK,spine,float,xnew,xval,xeff,zaa,zab,zam,zae,zad,addFl,cellsOf,pickC,alive,slLen,slFt,binI,maxA,maxK,minA,minK,aeqK,aeqS,AV.cells,List.getElem?_append_right,List.set_append_right,List.set_cons_zero,List.set_cons_succ,List.getElem?_cons_zero,List.getElem?_cons_succ,List.getElem?_append_left,List.getElem?_set_ne,List.getElem?_set_self,List.set_append_left,List.length_set,-getElem?_pos, ↓zau, spA,zac,fillA,setAt,bitsI,nat_nn,zan,AV.plain,apart,Nat.testBit_eq_decide_div_mod_eq])<;>exact rfl));simp only[addFl])|((with_reducible first|apply zao|apply zaq|apply zak|apply zai|apply zag|apply zap|apply zaj|apply zas|(apply zah;· simp[*,zaa])|(apply zaf;· simp[*,zaa]));try simp only[Then,Ops])|simp only[Nat.reduceEqDiff,reduceIte,OutB,Then]))
    refine zer (v:=.tup [spA sp,.int .i64 0]) (.inl rfl) hdf rfl (by simp) (by simp only[zad,zae];simp only[resL,resOf,zar];simp[resV,pickC,spA,f0,g0]) ⟨rfl,by simp⟩
end Ro
end Ev
end Go.Proofs.Ytlcjlcllbgjplaa

/- Package road, gone through: Sinks, Bears, the closures. -/
namespace Go.Proofs.Ytlcjlcllbgjplaa
open Go
namespace Ev
namespace Ro
open K
set_option maxRecDepth 100000
set_option maxHeartbeats 4000000
def IsEventC (call:CallF)(r:Rd.Road):Prop:=∀ (H:List AB) (xb:Nat) (w z:AV),H[xb]?=some (.cells (roadCs r++[w,z]))→∀ n:Int,call (.fn (.func 42) [] []) [.ptr xb 0,.int .i64 n] H=some (.ret (.bool (Rd.isEvent r n)),H,[])
def IsLoadC (call:CallF):Prop:=∀ (H:List AB) (n:Int),call (.fn (.func 48) [] []) [.int .i64 n] H=some (.ret (.bool (Rd.isLoad n)),H,[])
theorem zod (C:Cfg)(call:CallF)(r:Rd.Road)(hP:IsPartC call r)(hE:IsEventC call r)(H:List AB)(xb mb eb:Nat)(hX:Rx r xb mb eb H)(num evn:Int)(b1 b2:Nat)(h1:H[b1]?=some (.cells [.int .i64 num]))(h2:H[b2]?=some (.cells [.int .i64 evn])):
    Does (ev C call H.length none af40.body { tm:=tmA af40.ntmps (zipI 0 [.ptr xb 0,.ptr b1 0,.ptr b2 0] []),df:=[],hp:=H,tc:=[] })
      (Ends C H.length af40.res fun v _hp tc=>v=.bool (Rd.isPart r num&&Rd.isEvent r evn)∧tc=[]):=by
  have c1:=hP H xb _ _ hX.x num
  have c2:=hE H xb _ _ hX.x evn
  obtain ⟨x0,x1,x2,x3,x4,x5⟩:=bk' h1
  obtain ⟨y0,y1,y2,y3,y4,y5⟩:=bk' h2
  clear hP hE h1 h2 hX
  unfold af40
  simp only[zipI]
  cases hb:Rd.isPart r num with
  |false=>
    rw[hb] at c1
    (repeat (first|(with_reducible apply zal;(focus ((conv=>lhs;simp[*,ev1,wantG,spineK,spine,float,xnew,xval,xeff,zaa,zab,zam,zae,zad,addFl,cellsOf,pickC,alive,slLen,slFt,binI,maxA,maxK,minA,minK,aeqK,aeqS,AV.cells, spA,zac,fillA,setAt,bitsI,nat_nn,zan,AV.plain,apart,Nat.testBit_eq_decide_div_mod_eq])<;>exact rfl));simp only[addFl])|((with_reducible first|apply zao|apply zaq|apply zak|apply zai|apply zag|apply zap|apply zaj|apply zas|(apply zah;· simp[*,zaa])|(apply zaf;· simp[*,zaa]));try simp only[Then,Ops])|simp only[Nat.reduceEqDiff,reduceIte,OutB,Then]))
    exact zat (v:=.bool false) (.inl rfl) rfl (by simp) (by simp only[resL,resOf,zar];simp[*,resV]) ⟨by simp,rfl⟩
  |true=>
    rw[hb] at c1
    (repeat (first|(with_reducible apply zal;(focus ((conv=>lhs;simp[*,ev1,wantG,spineK,spine,float,xnew,xval,xeff,zaa,zab,zam,zae,zad,addFl,cellsOf,pickC,alive,slLen,slFt,binI,maxA,maxK,minA,minK,aeqK,aeqS,AV.cells, spA,zac,fillA,setAt,bitsI,nat_nn,zan,AV.plain,apart,Nat.testBit_eq_decide_div_mod_eq])<;>exact rfl));simp only[addFl])|((with_reducible first|apply zao|apply zaq|apply zak|apply zai|apply zag|apply zap|apply zaj|apply zas|(apply zah;· simp[*,zaa])|(apply zaf;· simp[*,zaa]));try simp only[Then,Ops])|simp only[Nat.reduceEqDiff,reduceIte,OutB,Then]))
    exact zat (v:=.bool (Rd.isEvent r evn)) (.inl rfl) rfl (by simp) (by simp only[resL,resOf,zar];simp[*,resV]) ⟨by simp,rfl⟩
theorem zrh (C:Cfg)(call:CallF)(r:Rd.Road)(hP:IsPartC call r)(hE:IsLoadC call)(H:List AB)(xb mb eb:Nat)(hX:Rx r xb mb eb H)(num evn:Int)(b1 b2:Nat)(h1:H[b1]?=some (.cells [.int .i64 num]))(h2:H[b2]?=some (.cells [.int .i64 evn])):
    Does (ev C call H.length none af47.body { tm:=tmA af47.ntmps (zipI 0 [.ptr xb 0,.ptr b1 0,.ptr b2 0] []),df:=[],hp:=H,tc:=[] })
      (Ends C H.length af47.res fun v _hp tc=>v=.bool (Rd.isPart r num&&Rd.isLoad evn)∧tc=[]):=by
  have c1:=hP H xb _ _ hX.x num
  have c2:=fun H=>hE H evn
  obtain ⟨x0,x1,x2,x3,x4,x5⟩:=bk' h1
  obtain ⟨y0,y1,y2,y3,y4,y5⟩:=bk' h2
  clear hP hE h1 h2 hX
  unfold af47
  simp only[zipI]
  cases hb:Rd.isPart r num with
  |false=>
    rw[hb] at c1
    (repeat (first|(with_reducible apply zal;(focus ((conv=>lhs;simp[*,ev1,wantG,spineK,spine,float,xnew,xval,xeff,zaa,zab,zam,zae,zad,addFl,cellsOf,pickC,alive,slLen,slFt,binI,maxA,maxK,minA,minK,aeqK,aeqS,AV.cells, spA,zac,fillA,setAt,bitsI,nat_nn,zan,AV.plain,apart,Nat.testBit_eq_decide_div_mod_eq])<;>exact rfl));simp only[addFl])|((with_reducible first|apply zao|apply zaq|apply zak|apply zai|apply zag|apply zap|apply zaj|apply zas|(apply zah;· simp[*,zaa])|(apply zaf;· simp[*,zaa]));try simp only[Then,Ops])|simp only[Nat.reduceEqDiff,reduceIte,OutB,Then]))
    exact zat (v:=.bool false) (.inl rfl) rfl (by simp) (by simp only[resL,resOf,zar];simp[*,resV]) ⟨by simp,rfl⟩
  |true=>
    rw[hb] at c1
    (repeat (first|(with_reducible apply zal;(focus ((conv=>lhs;simp[*,ev1,wantG,spineK,spine,float,xnew,xval,xeff,zaa,zab,zam,zae,zad,addFl,cellsOf,pickC,alive,slLen,slFt,binI,maxA,maxK,minA,minK,aeqK,aeqS,AV.cells, spA,zac,fillA,setAt,bitsI,nat_nn,zan,AV.plain,apart,Nat.testBit_eq_decide_div_mod_eq])<;>exact rfl));simp only[addFl])|((with_reducible first|apply zao|apply zaq|apply zak|apply zai|apply zag|apply zap|apply zaj|apply zas|(apply zah;· simp[*,zaa])|(apply zaf;· simp[*,zaa]));try simp only[Then,Ops])|simp only[Nat.reduceEqDiff,reduceIte,OutB,Then]))
    exact zat (v:=.bool (Rd.isLoad evn)) (.inl rfl) rfl (by simp) (by simp only[resL,resOf,zar];simp[*,resV]) ⟨by simp,rfl⟩
theorem zth (C:Cfg)(call:CallF)(hE:IsLoadC call)(H:List AB)(v:AV)(load:Int)(b1:Nat)(h1:H[b1]?=some (.cells [.int .i64 load])):
    Does (ev C call H.length none af52.body { tm:=tmA af52.ntmps (zipI 0 [v,.ptr b1 0] []),df:=[],hp:=H,tc:=[] })
      (Ends C H.length af52.res fun v _hp tc=>v=.bool (Rd.isLoad load)∧tc=[]):=by
  have c2:=fun H=>hE H load
  obtain ⟨x0,x1,x2,x3,x4,x5⟩:=bk' h1
  clear hE h1
  unfold af52
  simp only[zipI]
  (repeat (first|(with_reducible apply zal;(focus ((conv=>lhs;simp[*,ev1,wantG,spineK,spine,float,xnew,xval,xeff,zaa,zab,zam,zae,zad,addFl,cellsOf,pickC,alive,slLen,slFt,binI,maxA,maxK,minA,minK,aeqK,aeqS,AV.cells, spA,zac,fillA,setAt,bitsI,nat_nn,zan,AV.plain,apart,Nat.testBit_eq_decide_div_mod_eq])<;>exact rfl));simp only[addFl])|((with_reducible first|apply zao|apply zaq|apply zak|apply zai|apply zag|apply zap|apply zaj|apply zas|(apply zah;· simp[*,zaa])|(apply zaf;· simp[*,zaa]));try simp only[Then,Ops])|simp only[Nat.reduceEqDiff,reduceIte,OutB,Then]))
  exact zat (.inl rfl) rfl (by simp) (by simp only[resL,resOf,zar];simp[*,resV]) ⟨rfl,rfl⟩
theorem zur (C:Cfg)(call:CallF)(hE:IsLoadC call)(H:List AB)(v:AV)(load:Int)(b1:Nat)(h1:H[b1]?=some (.cells [.int .i64 load])):
    Does (ev C call H.length none af56.body { tm:=tmA af56.ntmps (zipI 0 [v,.ptr b1 0] []),df:=[],hp:=H,tc:=[] })
      (Ends C H.length af56.res fun v _hp tc=>v=.bool (Rd.isLoad load)∧tc=[]):=by
  have c2:=fun H=>hE H load
  obtain ⟨x0,x1,x2,x3,x4,x5⟩:=bk' h1
  clear hE h1
  unfold af56
  simp only[zipI]
  (repeat (first|(with_reducible apply zal;(focus ((conv=>lhs;simp[*,ev1,wantG,spineK,spine,float,xnew,xval,xeff,zaa,zab,zam,zae,zad,addFl,cellsOf,pickC,alive,slLen,slFt,binI,maxA,maxK,minA,minK,aeqK,aeqS,AV.cells, spA,zac,fillA,setAt,bitsI,nat_nn,zan,AV.plain,apart,Nat.testBit_eq_decide_div_mod_eq])<;>exact rfl));simp only[addFl])|((with_reducible first|apply zao|apply zaq|apply zak|apply zai|apply zag|apply zap|apply zaj|apply zas|(apply zah;· simp[*,zaa])|(apply zaf;· simp[*,zaa]));try simp only[Then,Ops])|simp only[Nat.reduceEqDiff,reduceIte,OutB,Then]))
  exact zat (.inl rfl) rfl (by simp) (by simp only[resL,resOf,zar];simp[*,resV]) ⟨rfl,rfl⟩
theorem zrg (C:Cfg)(call:CallF)(hS:SunkC call)(H:List AB)(w:Rd.Way)(hp:TrOk w.part)(R:List AV)(_hR:R.length=10)(load:Int)(hl:0≤load∧load≤60)(ls:List Int)(b1 b2:Nat)(h1:H[b1]?=some (.cells [.fn (.func 46) [] []]))(h2:H[b2]?=some (.cells [.int .i64 load])):
    Does (ev C call H.length none af50.body { tm:=tmA af50.ntmps (zipI 0 [.agg (wayCs w),.agg R,.ptr b1 0,.ptr b2 0] []),df:=[],hp:=H,tc:=[] })
      (Ends C H.length af50.res fun v _hp tc=>v=spA (sinkG load w ls)∧tc=[]):=by
  have c1:=fun H=>hS H w.part hp load (by omega) (by omega)
  obtain ⟨x0,x1,x2,x3,x4,x5⟩:=bk' h1
  obtain ⟨y0,y1,y2,y3,y4,y5⟩:=bk' h2
  unfold sinkG
  generalize Rd.sunk w.part load=u at *
  clear hS h1 h2 hp hl
  unfold af50
  simp only[zipI,wayCs] at *
  (repeat (first|(with_reducible apply zal;(focus ((conv=>lhs;simp[*,ev1,wantG,spineK,spine,float,xnew,xval,xeff,zaa,zab,zam,zae,zad,addFl,cellsOf,pickC,alive,slLen,slFt,binI,maxA,maxK,minA,minK,aeqK,aeqS,AV.cells, spA,zac,fillA,setAt,bitsI,nat_nn,zan,AV.plain,apart,Nat.testBit_eq_decide_div_mod_eq])<;>exact rfl));simp only[addFl])|((with_reducible first|apply zao|apply zaq|apply zak|apply zai|apply zag|apply zap|apply zaj|apply zas|(apply zah;· simp[*,zaa])|(apply zaf;· simp[*,zaa]));try simp only[Then,Ops])|simp only[Nat.reduceEqDiff,reduceIte,OutB,Then]))
  refine zat (v:=spA ⟨u,u⟩) (.inl rfl) rfl (by simp) (by simp only[resL,resOf,zar];simp[pickC,resV,spA]) ⟨rfl,by simp⟩
def Sinks3C (call:CallF):Prop:=∀ (H:List AB) (w:Rd.Way),TrOk w.part→∀ R:List AV,R.length=10→∀ load:Int,0≤load∧load≤60→∀ b1 b2:Nat,H[b1]?=some (.cells [.fn (.func 46) [] []])→H[b2]?=some (.cells [.int .i64 load]) →
  call (.fn (.func 50) [] [.ptr b1 0,.ptr b2 0]) [.agg (wayCs w),.agg R] H=some (.ret (.agg [.int .i64 (Rd.sunk w.part load),.int .i64 (Rd.sunk w.part load)]),H,[])
theorem zrf (C:Cfg)(call call0 call1:CallF)(r:Rd.Road)(hdf:C.dfk 45=some (119,true))(hHd:∀ H F is,IsFn call0 r F is H→HeadQ call r H F is)(hSp:Rd.valid r=true→SpanC call call1 r)(hS3:Sinks3C call1)(num load:Int)
    (hF:IsFn call0 r (.fn (.func 47) [] [.ptr 1 0,.ptr 2 0]) (Rd.isPart r num&&Rd.isLoad load) [.cells (roadCs r),.cells [.int .i64 num],.cells [.int .i64 load],.cells [.int .i64 0,.int .i64 0],.cells [.int .i64 0],.cells [.fn (.func 46) [] []]]):
    Does (ev C call ([]:List AB).length none af15.body { tm:=tmA af15.ntmps (zipI 0 [.agg (roadCs r),.int .i64 num,.int .i64 load] []),df:=[],hp:=[],tc:=[] })
      (Fin C ([]:List AB).length af15 (Ans (spanRV r (Rd.isPart r num&&Rd.isLoad load) (Rd.sinksR r num.toNat load)))):=by
  have ho:=hHd [.cells (roadCs r),.cells [.int .i64 num],.cells [.int .i64 load],.cells [.int .i64 0,.int .i64 0],.cells [.int .i64 0],.cells [.fn (.func 46) [] []]] _ _ hF
  unfold spanRV
  generalize hb:(Rd.isPart r num&&Rd.isLoad load)=is at *
  unfold af15
  rcases ho with ⟨e,h1,h2,h3⟩|⟨h1,H1,xb,H2,tc,h3,h4,h5,h6⟩|⟨h1,H1,xb,mb,eb,H2,tc,h3,h4,h5,h6,h7,h8,h9,h10⟩
  · rw[h1,if_neg h2]
    clear hHd hSp hS3 hF h1 hb
    simp only[zipI,roadCs] at *
    (repeat (first|(with_reducible apply zal;(focus ((conv=>lhs;simp[*,ev1,wantG,spineK,spine,float,xnew,xval,xeff,zaa,zab,zam,zae,zad,addFl,cellsOf,pickC,alive,slLen,slFt,binI,maxA,maxK,minA,minK,aeqK,aeqS,AV.cells,↓zau, spA,zac,fillA,setAt,bitsI,nat_nn,zan,AV.plain,apart,Nat.testBit_eq_decide_div_mod_eq])<;>exact rfl));simp only[addFl])|(with_reducible apply zbc;(focus ((conv=>lhs;simp[*,ev1,wantG,spineK,spine,float,xnew,xval,xeff,zaa,zab,zam,zae,zad,addFl,cellsOf,pickC,alive,slLen,slFt,binI,maxA,maxK,minA,minK,aeqK,aeqS,AV.cells,↓zau, spA,zac,fillA,setAt,bitsI,nat_nn,zan,AV.plain,apart,Nat.testBit_eq_decide_div_mod_eq])<;>exact rfl));(try simp only);(try dsimp only))|((with_reducible first|apply zao|apply zaq|apply zak|apply zai|apply zag|apply zap|apply zaj|apply zas|(apply zah;· simp[*,zaa])|(apply zaf;· simp[*,zaa]));try simp only[Then,Ops])|simp only[Nat.reduceEqDiff,reduceIte,OutB,Then]))
    refine zby (v:=.tup [.agg [.int .i64 0,.int .i64 0],.int .i64 e]) hdf rfl (by simp only;rfl) (by simp only[zdp,List.filterMap_cons,List.filterMap_nil,List.foldl_cons,List.foldl_nil];simp only[resL,resOf,zar];simp[resV,pickC]) ⟨by simp[spA],by simp⟩
  · rw[h1,if_neg (by decide)]
    have e3:H2[3]?=some (.cells [.int .i64 0,.int .i64 0]):=h5.at rfl (by simp)
    have e4:H2[4]?=some (.cells [.int .i64 0]):=h5.at rfl (by simp)
    obtain ⟨n0,n1,n2,n3,n4,n5⟩:0∉tc∧1∉tc∧2∉tc∧3∉tc∧4∉tc∧5∉tc:=by
      refine ⟨?_,?_,?_,?_,?_,?_⟩<;>(intro h;have:=h6 _ h;simp at *<;>omega)
    clear hHd hSp hS3 hF h1 hb h5 h6
    simp only[zipI,roadCs] at *
    (repeat (first|(with_reducible apply zal;(focus ((conv=>lhs;simp[*,ev1,wantG,spineK,spine,float,xnew,xval,xeff,zaa,zab,zam,zae,zad,addFl,cellsOf,pickC,alive,slLen,slFt,binI,maxA,maxK,minA,minK,aeqK,aeqS,AV.cells,↓zau, spA,zac,fillA,setAt,bitsI,nat_nn,zan,AV.plain,apart,Nat.testBit_eq_decide_div_mod_eq])<;>exact rfl));simp only[addFl])|(with_reducible apply zbc;(focus ((conv=>lhs;simp[*,ev1,wantG,spineK,spine,float,xnew,xval,xeff,zaa,zab,zam,zae,zad,addFl,cellsOf,pickC,alive,slLen,slFt,binI,maxA,maxK,minA,minK,aeqK,aeqS,AV.cells,↓zau, spA,zac,fillA,setAt,bitsI,nat_nn,zan,AV.plain,apart,Nat.testBit_eq_decide_div_mod_eq])<;>exact rfl));(try simp only);(try dsimp only))|((with_reducible first|apply zao|apply zaq|apply zak|apply zai|apply zag|apply zap|apply zaj|apply zas|(apply zah;· simp[*,zaa])|(apply zaf;· simp[*,zaa]));try simp only[Then,Ops])|simp only[Nat.reduceEqDiff,reduceIte,OutB,Then]))
    refine zby (v:=.tup [.agg [.int .i64 0,.int .i64 0],.int .i64 10]) hdf rfl (by simp only;exact e4) (by simp only[zdp,List.filterMap_cons,List.filterMap_nil,List.foldl_cons,List.foldl_nil];simp only[resL,resOf,zar];simp[resV,pickC,List.getElem?_set_ne,e3,List.getElem?_set_self (get_lt e4)]) ⟨by simp[spA],by simp⟩
  · obtain ⟨hi,hf,hcan⟩:=Rd.errR_zero h1
    subst hi
    rw[h1,if_pos rfl]
    have hv:Rd.valid r=true:=(Rd.valid_iff r).2 hf
    obtain ⟨hb1,hb2⟩:=Bool.and_eq_true_iff.1 hb
    obtain ⟨i,rfl,hil⟩:=zjr hb1
    have hlo:=of_decide_eq_true hb2
    obtain ⟨H3, tc3, k1, k2, k3, k4⟩ := hSp hv H2 xb mb eb h7 i hil (.func 50) [] [.ptr 5 0, .ptr 2 0] (sinkG load) (by
      intro G k hG ls hls w hw
      obtain ⟨o1,o2,o3,o4⟩:=way_ok hf hil hw
      exact hS3 G w o1 _ (zbn _) load hlo 5 2 (k.at (h5.at rfl (by simp)) (by simp at h9 ⊢;omega)) (k.at (h5.at rfl (by simp)) (by simp at h9 ⊢;omega)))
    have hsp:Rd.spanR r i (sinkG load)=Rd.sinksR r i load:=rfl
    rw[hsp] at k1
    have e3:H3[3]?=some (.cells [.int .i64 0,.int .i64 0]):=k3.at (h5.at rfl (by simp)) (fun h=>by have:=k2 _ h;simp at h9;omega)
    have e4:H3[4]?=some (.cells [.int .i64 0]):=k3.at (h5.at rfl (by simp)) (fun h=>by have:=k2 _ h;simp at h9;omega)
    obtain ⟨f0,f1,f2,f3,f4,f5⟩:=bk' e3
    obtain ⟨g0,g1,g2,g3,g4,g5⟩:=bk' e4
    obtain ⟨n0,n1,n2,n3,n4,n5⟩:0∉tc∧1∉tc∧2∉tc∧3∉tc∧4∉tc∧5∉tc:=by
      refine ⟨?_,?_,?_,?_,?_,?_⟩<;>(intro h;have:=h6 _ h;simp at *<;>omega)
    obtain ⟨m0,m1,m2,m3,m4,m5⟩:0∉tc3∧1∉tc3∧2∉tc3∧3∉tc3∧4∉tc3∧5∉tc3:=by
      refine ⟨?_,?_,?_,?_,?_,?_⟩<;>(intro h;have:=k2 _ h;simp at *<;>omega)
    rw[Int.toNat_natCast]
    generalize Rd.sinksR r i load=sp at *
    clear hHd hSp hS3 hF h1 hb hb1 hb2 h5 h6 h7 h8 h9 h10 hv hf hcan k2 k3 k4 hil e3 e4 hsp hlo
    simp only[zipI,roadCs] at *
    (repeat (first|((with_reducible apply zal);(focus ((with_reducible apply zbg);(focus rfl);(focus rfl);(focus ((conv=>lhs;simp[*,spine,float,xnew,xval,xeff,zaa,zab,zam,zae,zad,addFl,cellsOf,pickC,alive,slLen,slFt,binI,maxA,maxK,minA,minK,aeqK,aeqS,AV.cells,spA,zac,List.getElem?_append_right,List.set_append_right,List.set_cons_zero,List.set_cons_succ,List.getElem?_cons_zero,List.getElem?_cons_succ,List.getElem?_append_left,List.getElem?_set_ne,List.getElem?_set_self,List.set_append_left,List.length_set,-getElem?_pos,↓zau, fillA,setAt,bitsI,nat_nn,zan,AV.plain,apart,Nat.testBit_eq_decide_div_mod_eq])<;>exact rfl));(focus rfl);(focus rfl)));simp only[addFl])|(with_reducible apply zal;(focus ((conv=>lhs;simp[*,ev1,wantG,spineK,spine,float,xnew,xval,xeff,zaa,zab,zam,zae,zad,addFl,cellsOf,pickC,alive,slLen,slFt,binI,maxA,maxK,minA,minK,aeqK,aeqS,AV.cells,List.getElem?_append_right,List.set_append_right,List.set_cons_zero,List.set_cons_succ,List.getElem?_cons_zero,List.getElem?_cons_succ,List.getElem?_append_left,List.getElem?_set_ne,List.getElem?_set_self,List.set_append_left,List.length_set,-getElem?_pos, ↓zau, spA,zac,fillA,setAt,bitsI,nat_nn,zan,AV.plain,apart,Nat.testBit_eq_decide_div_mod_eq])<;>exact rfl));simp only[addFl])|((with_reducible first|apply zao|apply zaq|apply zak|apply zai|apply zag|apply zap|apply zaj|apply zas|(apply zah;· simp[*,zaa])|(apply zaf;· simp[*,zaa]));try simp only[Then,Ops])|simp only[Nat.reduceEqDiff,reduceIte,OutB,Then]))
    refine zer (v:=.tup [spA sp,.int .i64 0]) (.inl rfl) hdf rfl (by simp) (by simp only[zad,zae];simp only[resL,resOf,zar];simp[resV,pickC,spA,f0,g0]) ⟨rfl,by simp⟩
def SureC (call:CallF)(r:Rd.Road):Prop:=∀ (H:List AB) (xb mb eb:Nat),Rx r xb mb eb H→∀ days load:Int,LOk days load→∃ H' tc,call (.fn (.func 53) [] []) [.ptr xb 0,.int .i64 days,.int .i64 load] H=some (.ret (.bool (Rd.sureR r days load)),H',tc)∧(∀ j∈tc,j=mb)∧Kp tc H H'∧Rx r xb mb eb H'
def MayC (call:CallF)(r:Rd.Road):Prop:=∀ (H:List AB) (xb mb eb:Nat),Rx r xb mb eb H→∀ load:Int,LOk 0 load→∃ H' tc,call (.fn (.func 54) [] []) [.ptr xb 0,.int .i64 load] H=some (.ret (.bool (Rd.mayR r load)),H',tc)∧(∀ j∈tc,j=mb)∧Kp tc H H'∧Rx r xb mb eb H'
theorem ztg (C:Cfg)(call call0:CallF)(r:Rd.Road)(hdf:C.dfk 51=some (119,true))(hHd:∀ H F is,IsFn call0 r F is H→HeadQ call r H F is)(hSu:Rd.valid r=true→SureC call r)(hMa:Rd.valid r=true→MayC call r)(load:Int)
    (hF:IsFn call0 r (.fn (.func 52) [] [.ptr 1 0]) (Rd.isLoad load) [.cells (roadCs r),.cells [.int .i64 load],.cells [.int .i64 0]]):
    Does (ev C call ([]:List AB).length none af16.body { tm:=tmA af16.ntmps (zipI 0 [.agg (roadCs r),.int .i64 load] []),df:=[],hp:=[],tc:=[] })
      (Fin C ([]:List AB).length af16 (Ans (numRV r (Rd.isLoad load) (Rd.bearsR r load)))):=by
  have ho:=hHd [.cells (roadCs r),.cells [.int .i64 load],.cells [.int .i64 0]] _ _ hF
  unfold numRV
  generalize hb:Rd.isLoad load=is at *
  unfold af16
  rcases ho with ⟨e,h1,h2,h3⟩|⟨h1,H1,xb,H2,tc,h3,h4,h5,h6⟩|⟨h1,H1,xb,mb,eb,H2,tc,h3,h4,h5,h6,h7,h8,h9,h10⟩
  · rw[h1,if_neg h2]
    clear hHd hSu hMa hF h1 hb
    simp only[zipI,roadCs] at *
    (repeat (first|(with_reducible apply zal;(focus ((conv=>lhs;simp[*,ev1,wantG,spineK,spine,float,xnew,xval,xeff,zaa,zab,zam,zae,zad,addFl,cellsOf,pickC,alive,slLen,slFt,binI,maxA,maxK,minA,minK,aeqK,aeqS,AV.cells, spA,zac,fillA,setAt,bitsI,nat_nn,zan,AV.plain,apart,Nat.testBit_eq_decide_div_mod_eq])<;>exact rfl));simp only[addFl])|(with_reducible apply zbc;(focus ((conv=>lhs;simp[*,ev1,wantG,spineK,spine,float,xnew,xval,xeff,zaa,zab,zam,zae,zad,addFl,cellsOf,pickC,alive,slLen,slFt,binI,maxA,maxK,minA,minK,aeqK,aeqS,AV.cells, spA,zac,fillA,setAt,bitsI,nat_nn,zan,AV.plain,apart,Nat.testBit_eq_decide_div_mod_eq])<;>exact rfl));(try simp only[Ops,Then]);(try dsimp only))|((with_reducible first|apply zao|apply zaq|apply zak|apply zai|apply zag|apply zap|apply zaj|apply zas|(apply zah;· simp[*,zaa])|(apply zaf;· simp[*,zaa]));try simp only[Then,Ops])|simp only[Nat.reduceEqDiff,reduceIte,OutB,Then]))
    refine zby (v:=.tup [.int .i64 0,.int .i64 e]) hdf rfl (by simp only;rfl) (by simp only[resL,resOf,zar];simp[resV,pickC]) ⟨by simp,by simp⟩
  · rw[h1,if_neg (by decide)]
    have e4:H2[2]?=some (.cells [.int .i64 0]):=h5.at rfl (by simp)
    clear hHd hSu hMa hF h1 hb h5 h6
    simp only[zipI,roadCs] at *
    (repeat (first|(with_reducible apply zal;(focus ((conv=>lhs;simp[*,ev1,wantG,spineK,spine,float,xnew,xval,xeff,zaa,zab,zam,zae,zad,addFl,cellsOf,pickC,alive,slLen,slFt,binI,maxA,maxK,minA,minK,aeqK,aeqS,AV.cells, spA,zac,fillA,setAt,bitsI,nat_nn,zan,AV.plain,apart,Nat.testBit_eq_decide_div_mod_eq])<;>exact rfl));simp only[addFl])|(with_reducible apply zbc;(focus ((conv=>lhs;simp[*,ev1,wantG,spineK,spine,float,xnew,xval,xeff,zaa,zab,zam,zae,zad,addFl,cellsOf,pickC,alive,slLen,slFt,binI,maxA,maxK,minA,minK,aeqK,aeqS,AV.cells, spA,zac,fillA,setAt,bitsI,nat_nn,zan,AV.plain,apart,Nat.testBit_eq_decide_div_mod_eq])<;>exact rfl));(try simp only[Ops,Then]);(try dsimp only))|((with_reducible first|apply zao|apply zaq|apply zak|apply zai|apply zag|apply zap|apply zaj|apply zas|(apply zah;· simp[*,zaa])|(apply zaf;· simp[*,zaa]));try simp only[Then,Ops])|simp only[Nat.reduceEqDiff,reduceIte,OutB,Then]))
    refine zby (v:=.tup [.int .i64 0,.int .i64 10]) hdf rfl (by simp only;exact e4) (by simp only[resL,resOf,zar];simp[resV,pickC,List.getElem?_set_self (get_lt e4)]) ⟨by simp,by simp⟩
  · obtain ⟨hi,hf,hcan⟩:=Rd.errR_zero h1
    subst hi
    rw[h1,if_pos rfl]
    have hv:Rd.valid r=true:=(Rd.valid_iff r).2 hf
    have hL:=zmo (d:=0) hb (by decide) (by decide)
    obtain ⟨H3,tc3,k1,k2,k3,k4⟩:=hSu hv H2 xb mb eb h7 0 load hL
    obtain ⟨H4,tc4,q1,q2,q3,q4⟩:=hMa hv H3 xb mb eb k4 load hL
    have e1:H2[1]?=some (.cells [.int .i64 load]):=h5.at rfl (by simp)
    have e3:H3[1]?=some (.cells [.int .i64 load]):=k3.at e1 (fun h=>by have:=k2 _ h;simp at h9;omega)
    have d3:H3[2]?=some (.cells [.int .i64 0]):=k3.at (h5.at rfl (by simp)) (fun h=>by have:=k2 _ h;simp at h9;omega)
    have d4:H4[2]?=some (.cells [.int .i64 0]):=q3.at d3 (fun h=>by have:=q2 _ h;simp at h9;omega)
    obtain ⟨a0,a1,a2,a3,a4,a5⟩:=bk' e1
    obtain ⟨b0,b1,b2,b3,b4,b5⟩:=bk' e3
    obtain ⟨f0,f1,f2,f3,f4,f5⟩:=bk' d3
    obtain ⟨g0,g1,g2,g3,g4,g5⟩:=bk' d4
    have hbr:Rd.bearsR r load=if Rd.sureR r 0 load then 2 else if Rd.mayR r load then 1 else 0:=rfl
    rw[hbr]
    clear hHd hSu hMa hF h1 hb h5 h6 h7 h8 h9 h10 hv hf hcan k2 k3 k4 q2 q3 q4 e1 e3 d3 d4 hL hbr
    simp only[zipI,roadCs] at *
    cases hs:Rd.sureR r 0 load with
    |true=>
      rw[hs] at k1
      (repeat (first|(with_reducible apply zal;(focus ((conv=>lhs;simp[*,ev1,wantG,spineK,spine,float,xnew,xval,xeff,zaa,zab,zam,zae,zad,addFl,cellsOf,pickC,alive,slLen,slFt,binI,maxA,maxK,minA,minK,aeqK,aeqS,AV.cells, spA,zac,fillA,setAt,bitsI,nat_nn,zan,AV.plain,apart,Nat.testBit_eq_decide_div_mod_eq])<;>exact rfl));simp only[addFl])|((with_reducible first|apply zao|apply zaq|apply zak|apply zai|apply zag|apply zap|apply zaj|apply zas|(apply zah;· simp[*,zaa])|(apply zaf;· simp[*,zaa]));try simp only[Then,Ops,OutB,reduceIte])|simp only[Nat.reduceEqDiff,reduceIte,OutB,Then]))
      refine zer (v:=.tup [.int .i64 2,.int .i64 0]) (.inl rfl) hdf rfl (by simp) (by simp only[resL,resOf,zar];simp[resV,pickC,f0]) ⟨rfl,by simp⟩
    |false=>
      rw[hs] at k1
      cases hm:Rd.mayR r load with
      |true=>
        rw[hm] at q1
        (repeat (first|(with_reducible apply zal;(focus ((conv=>lhs;simp[*,ev1,wantG,spineK,spine,float,xnew,xval,xeff,zaa,zab,zam,zae,zad,addFl,cellsOf,pickC,alive,slLen,slFt,binI,maxA,maxK,minA,minK,aeqK,aeqS,AV.cells, spA,zac,fillA,setAt,bitsI,nat_nn,zan,AV.plain,apart,Nat.testBit_eq_decide_div_mod_eq])<;>exact rfl));simp only[addFl])|((with_reducible first|apply zao|apply zaq|apply zak|apply zai|apply zag|apply zap|apply zaj|apply zas|(apply zah;· simp[*,zaa])|(apply zaf;· simp[*,zaa]));try simp only[Then,Ops,OutB,reduceIte])|simp only[Nat.reduceEqDiff,reduceIte,OutB,Then]))
        refine zer (v:=.tup [.int .i64 1,.int .i64 0]) (.inl rfl) hdf rfl (by simp) (by simp only[resL,resOf,zar];simp[resV,pickC,g0]) ⟨rfl,by simp⟩
      |false=>
        rw[hm] at q1
        (repeat (first|(with_reducible apply zal;(focus ((conv=>lhs;simp[*,ev1,wantG,spineK,spine,float,xnew,xval,xeff,zaa,zab,zam,zae,zad,addFl,cellsOf,pickC,alive,slLen,slFt,binI,maxA,maxK,minA,minK,aeqK,aeqS,AV.cells, spA,zac,fillA,setAt,bitsI,nat_nn,zan,AV.plain,apart,Nat.testBit_eq_decide_div_mod_eq])<;>exact rfl));simp only[addFl])|((with_reducible first|apply zao|apply zaq|apply zak|apply zai|apply zag|apply zap|apply zaj|apply zas|(apply zah;· simp[*,zaa])|(apply zaf;· simp[*,zaa]));try simp only[Then,Ops,OutB])|simp only[Nat.reduceEqDiff,reduceIte,OutB,Then]))
        refine zer (v:=.tup [.int .i64 0,.int .i64 0]) (.inl rfl) hdf rfl (by simp) (by simp only[resL,resOf,zar];simp[resV,pickC,g0]) ⟨rfl,by simp⟩
end Ro
end Ev
end Go.Proofs.Ytlcjlcllbgjplaa

/- Package road, gone through: numbers, yielded; the first one that is so. -/
namespace Go.Proofs.Ytlcjlcllbgjplaa
open Go
namespace Ev
theorem zmt {C:Cfg}{pin D:Nat}{fn:AFunc}{Q:CRes→List AB→List Nat→Prop}{v:AV}{st:St}(hd:st.df=[.mark D])(hD:st.hp[D]?=some .dfr)(hp:pin≤D)(hl:pin≤st.hp.length)(hq:Q (.pan v) (st.hp.set D .dead) st.tc):K.Fin C pin fn Q (.panic v) st:=by
  refine ⟨.pan v,{ st with hp:=st.hp.set D .dead },?_,by simpa using hl,hq⟩
  have:runDefs C pin st.df (some v) st=some (some v,{ st with hp:=st.hp.set D .dead }):=by
    conv=>lhs;rw[hd]
    have:¬ D<pin:=by omega
    simp only[runDefs,hD,List.filter_cons,List.filter_nil,this,decide_false,Bool.false_eq_true,if_false,List.nil_append]
  show (match runDefs C pin st.df (some v) st with
    |some (none,st)=>(resL st fn.res).map fun vs=>(CRes.ret (resV vs),st)
    |some (some v,st)=>some (.pan v,st)
    |none=>none)=_
  rw[this]
theorem zzm {C:Cfg}{pin D:Nat}{fn:AFunc}{Q:CRes→List AB→List Nat→Prop}{e:AExit}{st:St}{v:AV}(he:e=.ret∨e=.normal)(hd:st.df=[.mark D])(hD:st.hp[D]?=some .dfr)(hp:pin≤D)(hl:pin≤st.hp.length)(hr:(resL { st with hp:=st.hp.set D .dead } fn.res).map resV=some v)(hq:Q (.ret v) (st.hp.set D .dead) st.tc):K.Fin C pin fn Q e st:=by
  obtain ⟨x,st',h1,h2,v',h3,h4⟩:=zfm (C:=C) (pin:=pin) (fn:=fn) (Q:=fun v hp tc=>Q (.ret v) hp tc) (zbt he hd hD hp hl hr hq)
  exact ⟨x,st',h1,h2,by rw[h3];exact h4⟩
namespace Ro
open K
set_option maxRecDepth 100000
set_option maxHeartbeats 4000000
def countL (a b:Nat):List Nat:=if b<a then (List.range (a - b+1)).map (a - ·) else (List.range (b - a+1)).map (a+·)
def countN (a b:Nat):Nat:=if b<a then a - b+1 else b - a+1
theorem zsz (a b:Nat):(countL a b).length=countN a b:=by unfold countL countN;split<;>simp
theorem zta (a b:Nat){i:Nat}(h:i<countN a b):(countL a b)[i]?=some (if b<a then a - i else a+i):=by
  unfold countN at h
  unfold countL
  split
  · rename_i hb
    rw[if_pos hb] at h
    rw[List.getElem?_map,List.getElem?_range h];rfl
  · rename_i hb
    rw[if_neg hb] at h
    rw[List.getElem?_map,List.getElem?_range h];rfl
theorem zyr {α:Type}{L:List α}{i:Nat}{x:α}(h:L[i]?=some x):L.take i++[x] <+: L:=by
  have e:L.take i++[x]=L.take (i+1):=by rw[List.take_add_one,h];rfl
  rw[e];exact List.take_prefix _ _
def CtPre (a b b1 b2:Nat)(H:List AB)(T:List Nat):Prop:=H[b1]?=some (.cells [.int .i64 b])∧H[b2]?=some (.cells [.int .i64 a])∧b1∉T∧b2∉T
theorem zsw (C:Cfg)(hC:C.calm=true)(call:CallF)(a b b1 b2:Nat)(ha:a≤1000)(hb:b≤1000)(U:List AB→Prop)(H:List AB)(l:Nat)(T:List Nat)(J:List Nat→List Nat→List AB→Prop)(E:List Nat→List AB→Prop)(M:List Nat→Nat→Prop)
    (hp:CtPre a b b1 b2 H T) (hT:∀ j∈T,j<H.length) (hlT:l∈T) (hJ0:J [] [] H) (hJY:∀ d W G,J d W G→U G) (hM:∀ j,¬ M [] j) (hY:Yields call l H.length T (fun n:Nat=>.int .i64 n) (countL a b) [] U J E M):
    Does (ev C call H.length none af91.body { tm:=tmA af91.ntmps (zipI 0 [.yield l,.ptr b1 0,.ptr b2 0] []),df:=[],hp:=H,tc:=[] })
      (Ends C H.length af91.res (ItPost H l [] T J E M (countL a b))):=by
  obtain ⟨h1,h2,p1,p2⟩:=hp
  have ctx:ItCtx call H H l [] T (fun n:Nat=>.int .i64 n) (countL a b) U J E M:=⟨hT,by simp,hlT,Kp.refl _ _,hY,hM,hJY⟩
  have hI:ItInv H.length H l [] T J M [] H []:=ctx.start hJ0 (hJY _ _ _ hJ0)
  obtain ⟨x0,x1,x2,x3,x4,x5⟩:=bk' h1
  obtain ⟨y0,y1,y2,y3,y4,y5⟩:=bk' h2
  have hlen:=zsz a b
  have hget:=fun i (h:i<countN a b)=>zta a b h
  have hfacts:∀ d hp tc,ItInv H.length H l [] T J M d hp tc→Bk hp b1 (.cells [.int .i64 b]):=fun d hp tc h=>bk' (h.at h1 (by simp) p1)
  obtain ⟨s,hs1,hs2⟩:∃ s:Int,(b<a→s=-1)∧(¬ b<a→s=1):=by
    by_cases h:b<a
    · exact ⟨-1,fun _=>rfl,fun k=>absurd h k⟩
    · exact ⟨1,fun k=>absurd k h,fun _=>rfl⟩
  have hval:∀ i,i<countN a b→(((if b<a then a - i else a+i:Nat):Nat):Int)=a+s * i:=by
    intro i hi
    unfold countN at hi
    split
    · rename_i h;rw[hs1 h];rw[if_pos h] at hi;omega
    · rename_i h;rw[hs2 h];omega
  have hcn:countN a b≤2000:=by unfold countN;split<;>omega
  have hlast:(a:Int)+s * (countN a b:Nat)=b+s:=by
    unfold countN
    split
    · rename_i h;rw[hs1 h];omega
    · rename_i h;rw[hs2 h];omega
  have hno:∀ i,i<countN a b→(a:Int)+s * i≠b+s:=by
    intro i hi
    unfold countN at hi
    split at hi
    · rename_i h;rw[hs1 h];omega
    · rename_i h;rw[hs2 h];omega
  have hsb:s=1∨s=-1:=by
    by_cases h:b<a
    · exact .inr (hs1 h)
    · exact .inl (hs2 h)
  have hwb:IntKind.i64.wrap ((b:Int)+s)=b+s:=zaz (by omega) (by omega)
  have hwi:∀ i:Nat,i<countN a b→IntKind.i64.wrap ((a:Int)+s * i+s)=a+s * ((i+1:Nat):Int):=fun i hi=>by
    rw[zaz (by rcases hsb with h|h<;>rw[h]<;>omega) (by rcases hsb with h|h<;>rw[h]<;>omega)]
    rcases hsb with h|h<;>rw[h]<;>omega
  have HC:=hideP (And.intro ctx (And.intro hget (And.intro hval (And.intro hno (And.intro hwi (And.intro hlast (And.intro hlen hI)))))))
  clear ctx hget hval hno hwi hlast hlen hI hY hJ0 hJY hT hlT h1 h2 hsb hM
  unfold af91
  simp only[zipI]
  by_cases hba:b<a
  case' pos=>
    have hs:=hs1 hba
    (repeat (first|(with_reducible apply zal;(focus ((conv=>lhs;simp[*,ev1,wantG,spineK,spine,float,xnew,xval,xeff,zaa,zab,zam,zae,zad,addFl,cellsOf,pickC,alive,slLen,slFt,binI,maxA,maxK,minA,minK,aeqK,aeqS,AV.cells, spA,zac,fillA,setAt,bitsI,nat_nn,zan,AV.plain,apart,Nat.testBit_eq_decide_div_mod_eq])<;>exact rfl));simp only[addFl])|((with_reducible first|apply zao|apply zaq|apply zak|apply zai|apply zag|apply zap|apply zaj|apply zas|(apply zah;· simp[*,zaa])|(apply zaf;· simp[*,zaa]));try simp only[Then,Ops])|simp only[Nat.reduceEqDiff,reduceIte,OutB,Then]))
  case' neg=>
    have hs:=hs2 hba
    (repeat (first|(with_reducible apply zal;(focus ((conv=>lhs;simp[*,ev1,wantG,spineK,spine,float,xnew,xval,xeff,zaa,zab,zam,zae,zad,addFl,cellsOf,pickC,alive,slLen,slFt,binI,maxA,maxK,minA,minK,aeqK,aeqS,AV.cells, spA,zac,fillA,setAt,bitsI,nat_nn,zan,AV.plain,apart,Nat.testBit_eq_decide_div_mod_eq])<;>exact rfl));simp only[addFl])|((with_reducible first|apply zao|apply zaq|apply zak|apply zai|apply zag|apply zap|apply zaj|apply zas|(apply zah;· simp[*,zaa])|(apply zaf;· simp[*,zaa]));try simp only[Then,Ops])|simp only[Nat.reduceEqDiff,reduceIte,OutB,Then]))
  all_goals
    have hcn':countN a b<fuelL:=by unfold fuelL;omega
    with_reducible refine zbe hC (countN a b) hcn' (fun i st=>∃ hp tc,ItInv H.length H l [] T J M ((countL a b).take i) hp tc∧st={ tm:=tmA 22 [(5,.int .i64 ((a:Int)+s * (i:Nat))),(4,.int .i64 s),(1,.ptr b1 0),(0,.yield l)],df:=[],hp:=hp,tc:=tc }) ?_ ?_ ?_
    · refine ⟨_,_,by simpa using HC.out.2.2.2.2.2.2.2,st_is ?_ rfl rfl rfl⟩
      simp[zav,zaw,hs]
    · rintro i st hi ⟨hp,tc,hV,rfl⟩
      obtain ⟨x0,x1,x2,x3,x4,x5⟩:=hfacts _ _ _ hV
      obtain ⟨ctx,hget,hval,hno,hwi,hlast,hlen,hI⟩:=HC.out
      have hpre:=zyr (hget i hi)
      obtain ⟨b',hp',tc',s1,s2,s3⟩:=hV.step ctx hpre
      rw[hval i hi] at s1
      have hw:=hwi i hi
      have hn1:((a:Int)+s * i != b+s)=true:=by simpa using hno i hi
      have htk:(countL a b).take (i+1)=(countL a b).take i++[if b<a then a - i else a+i]:=by rw[List.take_add_one,hget i hi];rfl
      have HS:=hideP (And.intro s2 (And.intro s3 htk))
      clear s2 s3 htk ctx hget hval hno hwi hlast hlen hI hpre hV hs hs1 hs2
      generalize hv:(a:Int)+s * i=v at *
      generalize hv2:(a:Int)+s * ((i+1:Nat):Int)=v2 at *
      cases b' with
      |true=>
        (repeat (first|(with_reducible apply zal;(focus ((conv=>lhs;simp[*,ev1,wantG,spineK,spine,float,xnew,xval,xeff,zaa,zab,zam,zae,zad,addFl,cellsOf,pickC,alive,slLen,slFt,binI,maxA,maxK,minA,minK,aeqK,aeqS,AV.cells, spA,zac,fillA,setAt,bitsI,nat_nn,zan,AV.plain,apart,Nat.testBit_eq_decide_div_mod_eq])<;>exact rfl));simp only[addFl])|((with_reducible first|apply zao|apply zaq|apply zak|apply zai|apply zag|apply zap|apply zaj|apply zas|(apply zah;· simp[*,zaa])|(apply zaf;· simp[*,zaa]));try simp only[Then,Ops,OutB])|simp only[Nat.reduceEqDiff,reduceIte,OutB,Then]))
        have hn:=HS.out.1 rfl
        rw[← HS.out.2.2] at hn
        with_reducible refine ⟨_,_,hn,?_⟩
        refine st_is ?_ rfl rfl rfl
        simp[zav,zaw]
      |false=>
        (repeat (first|(with_reducible apply zal;(focus ((conv=>lhs;simp[*,ev1,wantG,spineK,spine,float,xnew,xval,xeff,zaa,zab,zam,zae,zad,addFl,cellsOf,pickC,alive,slLen,slFt,binI,maxA,maxK,minA,minK,aeqK,aeqS,AV.cells, spA,zac,fillA,setAt,bitsI,nat_nn,zan,AV.plain,apart,Nat.testBit_eq_decide_div_mod_eq])<;>exact rfl));simp only[addFl])|((with_reducible first|apply zao|apply zaq|apply zak|apply zai|apply zag|apply zap|apply zaj|apply zas|(apply zah;· simp[*,zaa])|(apply zaf;· simp[*,zaa]));try simp only[Then,Ops,OutB])|simp only[Nat.reduceEqDiff,reduceIte,OutB,Then]))
        exact zat (.inl rfl) rfl (HS.out.2.1 rfl).k.len (by simp only[resL];rfl) (HS.out.2.1 rfl).post
    · rintro st ⟨hp,tc,hV,rfl⟩
      obtain ⟨x0,x1,x2,x3,x4,x5⟩:=hfacts _ _ _ hV
      obtain ⟨ctx,hget,hval,hno,hwi,hlast,hlen,hI⟩:=HC.out
      rw[← hlen,List.take_length] at hV
      have HV:=hideP (hV.post ctx)
      have hl:=hV.len
      rw[hlast]
      clear hs hs1 hs2 ctx hget hval hno hwi hlast hlen hI hV
      (repeat (first|(with_reducible apply zal;(focus ((conv=>lhs;simp[*,ev1,wantG,spineK,spine,float,xnew,xval,xeff,zaa,zab,zam,zae,zad,addFl,cellsOf,pickC,alive,slLen,slFt,binI,maxA,maxK,minA,minK,aeqK,aeqS,AV.cells, spA,zac,fillA,setAt,bitsI,nat_nn,zan,AV.plain,apart,Nat.testBit_eq_decide_div_mod_eq])<;>exact rfl));simp only[addFl])|((with_reducible first|apply zao|apply zaq|apply zak|apply zai|apply zag|apply zap|apply zaj|apply zas|(apply zah;· simp[*,zaa])|(apply zaf;· simp[*,zaa]));try simp only[Then,Ops,OutB,reduceIte])|simp only[Nat.reduceEqDiff,reduceIte,OutB,Then]))
      exact zat (.inr rfl) rfl (by simp only;omega) (by simp only[resL];rfl) HV.out
def CountI (C:Cfg)(k m:Nat):Prop:=∀ (a b b1 b2:Nat) (U:List AB→Prop),a≤1000→b≤1000→IterG C k m 91 [] [.ptr b1 0,.ptr b2 0] (fun n:Nat=>.int .i64 n) (countL a b) [] U (CtPre a b b1 b2)
theorem zsx {C:Cfg}(hC:C.calm=true)(m:Nat)(h0:Has C 91 af91):CountI C m (m+1):=by
  intro a b b1 b2 U ha hb
  refine zih hC h0.ext h0.exth h0.fns h0.whole (Nat.le_of_ble_eq_true rfl) ?_
  intro H l T J E M hp h2 h3 h4 h5 h7 h6
  exact zsw C hC _ a b b1 b2 ha hb U H l T J E M hp h2 h3 h4 h5 h7 h6
end Ro
end Ev
end Go.Proofs.Ytlcjlcllbgjplaa
