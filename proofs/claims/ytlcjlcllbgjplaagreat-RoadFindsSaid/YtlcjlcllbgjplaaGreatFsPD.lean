/- Package road, gone through: Sinks, Bears, the closures. -/
import Derived.Test.YtlcjlcllbgjplaaGreatFsPC
/- Package road, gone through: the loads with which there is a truth, yielded. -/
namespace Go.Proofs.YtlcjlcllbgjplaaGreat
open Go
namespace Ev
namespace Ro
open K
attribute [local simp] ev1 wantG spineK spine float xnew xval xeff zab zae zau zah zai addFl cellsOf pickC alive slLen slFt binI maxA maxK minA minK aeqK aeqS AV.cells spA zad fillA setAt bitsI nat_nn zav AV.plain apart
set_option maxRecDepth 100000
set_option maxHeartbeats 4000000
def WaysC (call:CallF)(r:Rd.Road):Prop:=∀ (H:List AB) (xb mb eb:Nat),Rx r xb mb eb H→∀ n,n<r.parts.length→∀ f,LdOk f→∀ looks:Nat,
  ∃ v H' tc,call (.fn (.func 58) [] []) [.ptr xb 0,.int .i64 n,.agg (arr10 f),.int .u64 looks] H=some (.ret v,H',tc)∧(∀ j∈tc,j=mb)∧Kp tc H H'∧Rx r xb mb eb H'∧WaysV r n f looks H.length v H'
def AllC (call:CallF):Prop:=∀ (H:List AB) (xb:Nat),call (.fn (.func 101) [] []) [.ptr xb 0] H=some (.ret (.fn (.func 116) [] [.ptr H.length 0]),H++[.cells [.ptr xb 0]],[])
theorem zzc (C:Cfg)(call:CallF)(H:List AB)(xb:Nat):Does (ev C call H.length none af101.body { tm:=tmA af101.ntmps (zipI 0 [.ptr xb 0] []),df:=[],hp:=H,tc:=[] })
    (Ends C H.length af101.res fun w hp tc=>w=.fn (.func 116) [] [.ptr H.length 0]∧hp=H++[.cells [.ptr xb 0]]∧tc=[]):=by
  unfold af101 Zq Zm Zo Zt
  simp only[zipI]
  refine gA ?_
  exact zac (.inl rfl) rfl (by simp) (by simp only[resL,resOf,zaa];simp[*,resV]) ⟨rfl,rfl,rfl⟩
def okL (r:Rd.Road)(looks:Nat)(ls:List Int):Bool:=(List.range r.parts.length).all fun i=>!(Rd.waysR r i ls looks).isEmpty
theorem ziq (r:Rd.Road)(looks:Nat):Rd.toldR r looks=(Rd.allR r.events).filter (okL r looks):=rfl
theorem zhx {α:Type}(p:α→Bool){d L:List α}(h:d <+: L):d.filter p <+: L.filter p:=h.filter p
theorem all_ld {r:Rd.Road}(hr:Rd.Fine r){ls:List Int}(h:ls∈Rd.allR r.events):LdOk (fnOf ls)∧lsOf r.events.length (fnOf ls)=ls:=by
  refine ⟨fun i=>?_,yaa (Rd.mem_allR _ _ h).1⟩
  unfold fnOf
  rw[List.getD_eq_getElem?_getD]
  cases hi:ls[i]? with
  |none=>simp
  |some x=>exact Rd.load_nn hr h x (List.mem_of_getElem? hi)
def TdPre (xb mb eb bX bL looks:Nat)(H:List AB)(T:List Nat):Prop:=H[bX]?=some (.cells [.ptr xb 0])∧H[bL]?=some (.cells [.int .u64 looks])∧bX∉T∧bL∉T∧bX≠mb∧bL≠mb∧xb∉T∧eb∉T∧mb<H.length
theorem zrx (C:Cfg)(hC:C.calm=true)(hwh:∀ f,C.whole f=true)(n m:Nat)(r:Rd.Road)(hr:Rd.Fine r)(hAl:AllC (Ev.call C m))(hI:AllI C (n+1) m r)(hW:WaysC (Ev.call C n) r)(H:List AB)(xb mb eb bX bL looks l:Nat)(T:List Nat)(J:List (List Int)→List Nat→List AB→Prop)(E:List (List Int)→List AB→Prop)(M:List (List Int)→Nat→Prop)
    (hp:TdPre xb mb eb bX bL looks H T) (hT:∀ j∈T,j<H.length) (hlT:l∈T) (hJ0:J [] [] H) (hJY:∀ d W G,J d W G→Rx r xb mb eb G) (hM:∀ j,¬ M [] j) (hY:Yields (Ev.call C n) l H.length T ldA (Rd.toldR r looks) [mb] (Rx r xb mb eb) J E M):
    Does (ev C (Ev.call C m) H.length none af100.body { tm:=tmA af100.ntmps (zipI 0 [.yield l,.ptr bX 0,.ptr bL 0] []),df:=[],hp:=H,tc:=[] })
      (Ends C H.length af100.res (ItPost2 H l [mb] T J E M (Rd.toldR r looks))):=by
  obtain ⟨hx,hL,px,pL,qx,qL,pxb,peb,pm⟩:=hp
  have hXX:=hJY _ _ _ hJ0
  have hxl:=hXX.xl
  have hel:=hXX.el
  obtain ⟨x0,x1,x2,x3,x4,x5⟩:=bk' hx
  unfold AllC at hAl
  have l0:=get_lt hx
  have l1:=get_lt hL
  unfold af100 Zq Zm Zl Zo Zs Zc Zt Zn Zi
  simp only[zipI]
  refine gA ?_
  refine zhf hC hwh (hI xb mb eb (H.length+1)) (by simp[zab]) rfl (mb::T) (by simp;exact ⟨by omega,fun j hj=>by have:=hT j hj;omega⟩) (by simp)
    (fun d W G=>J (d.filter (okL r looks)) W G) (fun e d G=>e=.ret∧d.filter (okL r looks)≠[]∧E (d.filter (okL r looks)) G) (fun d j=>j<H.length∧(M (d.filter (okL r looks)) j∨(j=l∧d.filter (okL r looks)≠[]))) (by simp;exact fun j _=>hM j)
    (fun rz=>?_) (fun G G' h k=>?_) (fun rz=>?_) (fun rz=>?_) (fun d W G G' h hw k=>?_) (fun e d G G' h k=>?_) ?_ ?_ ?_
  · refine ⟨by simp,?_,by omega,by omega,by omega⟩
    intro h
    simp at h
    rcases h with h|h
    · omega
    · have:=hT _ h;omega
  · refine h.same fun j hj=>k j ?_ ?_<;>(simp;omega)
  · refine hY.stable _ _ _ _ hJ0 (fun j hj _ _=>?_) ((hXX.app _).app _)
    rw[List.append_assoc,List.getElem?_append_left hj]
  · exact (hXX.app _).app _
  · simp only[List.length_append,List.length_cons,List.length_nil,Nat.zero_add,Nat.add_assoc,Nat.reduceAdd] at k hw
    refine hY.stable _ _ _ _ h (fun j hj hj2 _=>k j hj ?_ (by simp) ?_) ((hJY _ _ _ h).same fun j hj=>?_)
    · rcases hj2 with h|h
      · exact .inl (by omega)
      · exact .inr h
    · rcases hj2 with h|h
      · omega
      · have:=hw j h;omega
    · have hx1:=hJY _ _ _ h
      refine k j ?_ (.inl (by omega)) (by simp) (by omega)
      have:=hx1.xl;have:=hx1.ml;have:=hx1.el
      rcases hj with rfl|rfl|rfl<;>assumption
  · simp only[List.length_append,List.length_cons,List.length_nil,Nat.zero_add,Nat.add_assoc,Nat.reduceAdd] at k
    exact ⟨h.1,h.2.1,hY.stableE _ _ _ h.2.2 fun j hj=>k j (by omega) (by omega)⟩
  · rintro d s W G rz hpr hJ hYx hK hl hWb
    simp only[List.length_append,List.length_cons,List.length_nil,Nat.zero_add,Nat.add_assoc,Nat.reduceAdd] at hl hWb ⊢
    rw[setP1]
    have hs:s∈Rd.allR r.events:=hpr.subset (by simp)
    obtain ⟨hld,hls⟩:=all_ld hr hs
    have hW':=fun G h i hi=>hW G xb mb eb h i hi (fnOf s) hld looks
    have hRl:=zbg (fnOf s)
    have hRp:=zcr (fnOf s)
    have hRa:=zbs (fnOf s)
    obtain ⟨hok,hno⟩:(okL r looks s=true→(d++[s]).filter (okL r looks)=d.filter (okL r looks)++[s])∧(okL r looks s=false→(d++[s]).filter (okL r looks)=d.filter (okL r looks)):=by
      refine ⟨fun h=>?_,fun h=>?_⟩<;>simp[List.filter_append,h]
    have hstep:okL r looks s=true→∀ G',J (d.filter (okL r looks)) W G'→∃ b H' tc W',Ev.call C n (.yield l) [.agg (arr10 (fnOf s))] G'=some (.ret (.bool b),H',tc)∧l∈tc∧(∀ j∈tc,j∈T++W)∧Kp tc G' H'∧(∀ j∈W',j∈W∨G'.length≤j)∧(b=true→J (d.filter (okL r looks)++[s]) W' H')∧(b=false→E (d.filter (okL r looks)++[s]) H'∧Rx r xb mb eb H')∧∀ j,j<H.length→M (d.filter (okL r looks)++[s]) j→M (d.filter (okL r looks)) j∨j∈tc:=by
      intro h G' hJ'
      refine hY.step _ s W G' ?_ hJ'
      rw[← hok h]
      exact zhx _ hpr
    simp only[ldA]
    generalize arr10 (fnOf s)=R at *
    refine gA ?_
    refine ⟨trivial,?_,?_⟩
    · rw[List.getElem?_append_left (by omega)]
    obtain ⟨G2,hG2,k1,k2,k3,k4⟩:=zdg (G:=G++[.cells R]) (l:=H.length+3) (.loop rz) (by simp;omega)
    rw[← hG2]
    clear hG2
    have j3:∀ {j x},G[j]?=some x→j≠H.length+3→G2[j]?=some x:=fun {j x} hx hj=>by rw[k3 _ hj,List.getElem?_append_left (get_lt hx)];exact hx
    have hKx:∀ {j x},(H++[.cells [.yield l],.cells [.ptr xb 0]]:List AB)[j]?=some x→j≠mb→j∉T→G[j]?=some x:=fun hx h1 h2=>hK.at hx (by simp;exact ⟨h1,h2⟩)
    have e0:=j3 (hKx (j:=bX) (x:=.cells [.ptr xb 0]) (by rw[List.getElem?_append_left l0];exact hx) qx px) (by omega)
    have e1:=j3 (hKx (j:=bL) (x:=.cells [.int .u64 looks]) (by rw[List.getElem?_append_left l1];exact hL) qL pL) (by omega)
    have e2:=j3 (hKx (j:=H.length) (x:=.cells [.yield l]) (by simp) (by omega) (fun h=>by have:=hT _ h;omega)) (by omega)
    have e5:G2[G.length]?=some (.cells R):=by rw[k3 _ (by omega)];simp
    have hX2:Rx r xb mb eb G2:=(hYx.app _).kp k4 (by simp;omega) (by simp;omega) (by simp;omega)
    have hJ2:J (d.filter (okL r looks)) W G2:=by
      refine hY.stable _ _ _ _ hJ (fun j hj hj2 _=>?_) hX2
      rw [k3 _ (by rcases hj2 with h | h; · omega
                   · have:=hWb j h;omega),List.getElem?_append_left hj]
    have kl2:G2.length=G.length+1:=by rw[k1];simp
    obtain ⟨Inv,hInv⟩:∃ Inv:List AB→List Nat→Prop,∀ hp tc,Inv hp tc↔(Kp [mb] G2 hp∧Rx r xb mb eb hp∧∀ j∈tc,j=mb∨j=H.length+3):=⟨fun hp tc=>_,fun hp tc=>Iff.rfl⟩
    have hI0:Inv G2 [H.length+3]:=(hInv _ _).2 ⟨Kp.refl _ _,hX2,by simp⟩
    have hfacts:∀ hp tc,Inv hp tc→Bk hp bX (.cells [.ptr xb 0])∧Bk hp bL (.cells [.int .u64 looks])∧Bk hp H.length (.cells [.yield l])∧Bk hp G.length (.cells R):=by
      intro hp tc h
      obtain ⟨q1,q2,q3⟩:=(hInv _ _).1 h
      exact ⟨bk' (q1.at e0 (by simpa using qx)),bk' (q1.at e1 (by simpa using qL)),bk' (q1.at e2 (by simp;omega)),bk' (q1.at e5 (by simp;omega))⟩
    have hways:∀ hp tc,Inv hp tc→∀ i,i<r.parts.length→∃ v hp' tc',Ev.call C n (.fn (.func 58) [] []) [.ptr xb 0,.int .i64 i,.agg R,.int .u64 looks] hp=some (.ret v,hp',tc')∧Inv hp' (tc'.filter (·<G.length)++tc)∧((v=.nils∧Rd.waysR r i s looks=[])∨∃ b cs k,v=.sl b 0 (k+1) 5∧Bk hp' b (.cells cs)∧Rd.waysR r i s looks≠[]):=by
      intro hp tc h i hi
      obtain ⟨q1,q2,q3⟩:=(hInv _ _).1 h
      obtain ⟨v,hp',tc',w1,w2,w3,w4,W0,w5⟩:=hW' hp q2 i hi
      rw[hls] at w5
      refine ⟨v,hp',tc',w1,(hInv _ _).2 ⟨q1.trans (w3.mono fun j _ h=>by simpa using w2 j h),w4,fun j hj=>?_⟩,?_⟩
      · rcases List.mem_append.1 hj with h|h
        · exact .inl (w2 j (List.mem_filter.1 h).1)
        · exact q3 j h
      · generalize Rd.waysR r i s looks=ws at w5
        cases w5 with
        |none=>exact .inl ⟨rfl,rfl⟩
        |some b _ z1 z2 z3=>
          cases ws with
          |nil=>exact absurd rfl z3
          |cons w ws=>exact .inr ⟨b,_,ws.length,by simp,bk' z2,by simp⟩
    have hend:∀ hp tc,Inv hp tc→Inv hp tc∧J (d.filter (okL r looks)) W hp∧hp[H.length+3]?=some (.loop rz)∧∀ j,j<G.length→j∉[mb,H.length+3]→hp[j]?=G[j]?:=by
      intro hp tc h
      obtain ⟨q1,q2,q3⟩:=(hInv _ _).1 h
      refine ⟨h,hY.stable _ _ _ _ hJ2 (fun j hj _ hn=>q1.get j hj hn) q2,q1.at k2 (by simp;omega),fun j hj hn=>?_⟩
      simp at hn
      rw[q1.get j (by omega) (by simp;omega),k3 _ hn.2,List.getElem?_append_left hj]
    have hnp:=hr.parts
    have lG:l<G.length:=by have:=hT _ hlT;omega
    obtain ⟨RT,hRT⟩:∃ RT:AExit→St→Prop,RT=RTo (H.length+3) rz (mb::T) [] W (Rx r xb mb eb) G.length (J ((d++[s]).filter (okL r looks))) (fun e G=>e=.ret∧(d++[s]).filter (okL r looks)≠[]∧E ((d++[s]).filter (okL r looks)) G) (fun j=>j<H.length∧(M (d.filter (okL r looks)) j∨j=l∧d.filter (okL r looks)≠[])) (fun j=>j<H.length∧(M ((d++[s]).filter (okL r looks)) j∨j=l∧(d++[s]).filter (okL r looks)≠[])):=⟨_,rfl⟩
    have hcont:okL r looks s=false→∀ hp tc,Inv hp tc→∀ tm df,RT .normal ⟨tm,df,hp,tc⟩:=by
      intro h hp tc hi tm df
      obtain ⟨_,g1,g2,g3⟩:=hend hp tc hi
      obtain ⟨q1,q2,q3⟩:=(hInv _ _).1 hi
      rw[hRT,hno h]
      exact ⟨by simp,g2,fun j hj=>(q3 j hj).elim (fun h=>.inr (.inl (by simp[h]))) .inl,q2,fun _=>⟨W,fun j h=>.inl h,g1⟩,fun h=>absurd rfl h,fun j _ h=>.inl h⟩
    have hyes:okL r looks s=true→∀ hp tc,Inv hp tc→∃ b H' tc',Ev.call C n (.yield l) [.agg R] hp=some (.ret (.bool b),H',tc')∧(b=true→∀ tm df,RT .normal ⟨tm,df,H',tc'.filter (·<G.length)++tc⟩)∧(b=false→∀ tm df,RT .ret ⟨tm,df,H',tc'.filter (·<G.length)++tc⟩):=by
      intro h hp tc hi
      obtain ⟨_,g1,g2,g3⟩:=hend hp tc hi
      obtain ⟨q1,q2,q3⟩:=(hInv _ _).1 hi
      obtain ⟨b,H',tc',W',s1,s2,s3,s4,s5,s6,s7,s8⟩:=hstep h hp g1
      have hl':=q1.len
      have tcs:∀ j∈tc'.filter (·<G.length)++tc,j=H.length+3∨j∈mb::T∨j∈([]:List Nat)∨j∈W:=fun j hj=>by
        rcases List.mem_append.1 hj with h|h
        · rcases List.mem_append.1 (s3 j (List.mem_filter.1 h).1) with h|h
          · exact .inr (.inl (List.mem_cons_of_mem _ h))
          · exact .inr (.inr (.inr h))
        · exact (q3 j h).elim (fun h=>.inr (.inl (by simp[h]))) .inl
      have hh:H'[H.length+3]?=some (.loop rz):=s4.at g2 fun h=>by
        rcases List.mem_append.1 (s3 _ h) with h|h
        · have:=hT _ h;omega
        · have:=hWb _ h;omega
      have hM':∀ j,j<H.length+3+1→(j<H.length∧(M (d.filter (okL r looks)++[s]) j∨j=l∧d.filter (okL r looks)++[s]≠[]))→(j<H.length∧(M (d.filter (okL r looks)) j∨j=l∧d.filter (okL r looks)≠[]))∨j∈tc'.filter (·<G.length)++tc:=by
        rintro j _ ⟨hj,h|⟨rfl,_⟩⟩
        · rcases s8 j hj h with h|h
          · exact .inl ⟨hj,.inl h⟩
          · exact .inr (List.mem_append_left _ (List.mem_filter.2 ⟨h,by simp;omega⟩))
        · exact .inr (List.mem_append_left _ (List.mem_filter.2 ⟨s2,by simpa using lG⟩))
      refine ⟨b,H',tc',s1,fun hb tm df=>?_,fun hb tm df=>?_⟩
      · rw[hRT,hok h]
        refine ⟨by simp,hh,tcs,hJY _ _ _ (s6 hb),fun _=>⟨W',fun j hj=>?_,s6 hb⟩,fun h=>absurd rfl h,hM'⟩
        rcases s5 j hj with h|h
        · exact .inl h
        · exact .inr (by omega)
      · rw[hRT,hok h]
        exact ⟨by simp,hh,tcs,(s7 hb).2,(fun h=>by cases h),fun _=>⟨rfl,by simp,(s7 hb).1⟩,hM'⟩
    have HW:=hideP hways
    have HF:=hideP hfacts
    have HE:=hideP (And.intro hcont hyes)
    have hxp:=hX2.x
    obtain ⟨u0,u1,u2,u3,u4,u5⟩:=bk' hxp
    obtain ⟨⟨b0,b1,b2,b3,b4,b5⟩,_⟩:=hfacts _ _ hI0
    clear hways hfacts hend hInv hok hno hstep hpr hWb kl2 hl hcont hyes hW' hW hJ hJ2 hYx hK hx hL hXX hY hJY hJ0 hAl hI k1 k2 k3 k4 j3 hKx e0 e1 e2 e5 hX2 hs hld hls hxp x0 x1 x2 x3 x4 x5 pxb peb pm px pL qx qL hxl hel l0 l1 hlT hT
    simp only[roadCs,List.cons_append,List.nil_append] at *
    refine gA ?_
    with_reducible refine zan hC r.parts.length (by unfold fuelL;omega) (fun i st=>∃ hp tc,Inv hp tc∧(∀ x,x<i→Rd.waysR r x s looks≠[])∧st={ tm:=tmA 30 [(15,.int .i64 i),(14,.int .i64 r.parts.length),(4,.ptr G.length 0),(3,.ptr H.length 0),(2,.ptr bL 0),(1,.ptr bX 0)],df:=[],hp:=hp,tc:=tc }) ?_ ?_ ?_
    · refine ⟨_,_,hI0,by simp,?_⟩
      (refine st_is ?_ ?_ ?_ ?_;(focus (simp[zag,zal]));(focus rfl);(focus (first|rfl|(simp;done)|(simp;rfl)));(focus rfl))
    · clear hI0 b0 b1 b2 b3 b4 b5 u0 u1 u2 u3 u4 u5
      rintro i st hi ⟨hp,tc,hV,hne,rfl⟩
      obtain ⟨⟨x0,x1,x2,x3,x4,x5⟩,⟨y0,y1,y2,y3,y4,y5⟩,⟨z0,z1,z2,z3,z4,z5⟩,⟨v0,v1,v2,v3,v4,v5⟩⟩:=HF.out _ _ hV
      obtain ⟨v,hp',tc',s1,s2,s3⟩:=HW.out _ _ hV i hi
      have hwi:IntKind.i64.wrap (↑i+1)=↑i+1:=zaf (by omega) (by omega)
      have HV:=hideP (And.intro hne s2)
      clear hV hne s2
      rcases s3 with ⟨rfl,e2⟩|⟨b,cs,k,rfl,⟨g0,g1,g2,g3,g4,g5⟩,e2⟩
      · have hno:okL r looks s=false:=by
          unfold okL
          rw[List.all_eq_false]
          exact ⟨i,by simpa using hi,by rw[e2];simp⟩
        have HN:=hideP (And.intro hno e2)
        clear hno e2
        refine gA ?_
        rw[← hRT]
        exact HE.out.1 HN.out.1 _ _ HV.out.2 _ _
      · have hk:¬ ((k:Int)+1=0):=by omega
        refine gA ?_
        have hne':∀ x,x<i+1→Rd.waysR r x s looks≠[]:=by
          intro x hx
          by_cases h:x=i
          · rw[h];exact e2
          · exact HV.out.1 x (by omega)
        with_reducible refine ⟨_,_,HV.out.2,hne',?_⟩
        (refine st_is ?_ ?_ ?_ ?_;(focus (simp[zag,zal]));(focus rfl);(focus (first|rfl|(simp;done)|(simp;rfl)));(focus rfl))
    · clear hI0 b0 b1 b2 b3 b4 b5 u0 u1 u2 u3 u4 u5
      rintro st ⟨hp,tc,hV,hne,rfl⟩
      obtain ⟨⟨x0,x1,x2,x3,x4,x5⟩,⟨y0,y1,y2,y3,y4,y5⟩,⟨z0,z1,z2,z3,z4,z5⟩,⟨v0,v1,v2,v3,v4,v5⟩⟩:=HF.out _ _ hV
      have hyes:okL r looks s=true:=by
        unfold okL
        rw[List.all_eq_true]
        intro x hx
        have:=hne x (by simpa using hx)
        simpa using this
      obtain ⟨b,hp',tc',s1,s2,s3⟩:=HE.out.2 hyes _ _ hV
      have HV:=hideP (And.intro s2 s3)
      clear hV hne s2 s3 hyes
      cases b with
      |true=>
        refine gA ?_
        rw[← hRT]
        exact HV.out.1 rfl _ _
      |false=>
        refine gA ?_
        rw[← hRT]
        exact HV.out.2 rfl _ _
  · rintro H' tc W h1 h2 h3 h4 h5 h6 h7 h8
    simp only[List.length_append,List.length_cons,List.length_nil,Nat.zero_add,Nat.add_assoc,Nat.reduceAdd,List.nil_append] at h1 h4 h5 h6 h8 ⊢
    simp only[OutB]
    have hset:∀ j,j≠H.length+2→(H'.set (H.length+2) .dead)[j]?=H'[j]?:=fun j hj=>by rw[List.getElem?_set_ne (by omega)]
    refine zbn (v:=.tup []) (.inr rfl) rfl h4 (by omega) (by simp only;omega) (by simp only[resL];rfl) ⟨rfl,fun j hj=>?_,.inl ⟨W,fun j hj=>by have:=h6 j hj;omega,?_,?_,fun j g1 g2=>?_⟩⟩
    · obtain ⟨g1,g2⟩:=List.mem_filter.1 (by simpa using hj:j∈tc.filter (·<H.length))
      have g2:j<H.length:=by simpa using g2
      simpa using h1 j g1 (by omega)
    · rw[ziq]
      refine hY.stable _ _ _ _ h7 (fun j hj hj2 _=>hset j ?_) (h3.same fun j hj=>hset j ?_)
      · rcases hj2 with h|h
        · omega
        · have:=h6 j h;omega
      · rcases hj with rfl|rfl|rfl<;>omega
    · rw[ziq]
      by_cases he:(Rd.allR r.events).filter (okL r looks)=[]
      · exact .inl he
      · refine .inr ?_
        have:=hT l hlT
        simp[h8 l (by omega) ⟨this,.inr ⟨rfl,he⟩⟩,this]
    · rw[ziq] at g2
      simp[h8 j (by omega) ⟨g1,.inl g2⟩,g1]
  · rintro e d H' tc h0 h1 h2 h3 h4 h5 h6 ⟨rfl,h7,h8⟩ h9
    simp only[List.length_append,List.length_cons,List.length_nil,Nat.zero_add,Nat.add_assoc,Nat.reduceAdd,List.nil_append] at h1 h4 h5 h9 ⊢
    simp only[OutB]
    have hset:∀ j,j≠H.length+2→(H'.set (H.length+2) .dead)[j]?=H'[j]?:=fun j hj=>by rw[List.getElem?_set_ne (by omega)]
    have hl:=hT l hlT
    refine zbn (v:=.tup []) (.inl rfl) rfl h4 (by omega) (by simp only;omega) (by simp only[resL];rfl) ⟨rfl,fun j hj=>?_,.inr ⟨_,by rw[ziq];exact zhx _ h6,hY.stableE _ _ _ h8 fun j hj=>hset j (by omega),?_,fun j g1 g2=>?_⟩⟩
    · obtain ⟨g1,g2⟩:=List.mem_filter.1 (by simpa using hj:j∈tc.filter (·<H.length))
      have g2:j<H.length:=by simpa using g2
      simpa using h1 j g1 (by omega)
    · simp[h9 l (by omega) ⟨hl,.inr ⟨rfl,h7⟩⟩,hl]
    · simp[h9 j (by omega) ⟨g1,.inl g2⟩,g1]
def ToldI (C:Cfg)(n k:Nat)(r:Rd.Road):Prop:=∀ xb mb eb bX bL looks,IterG C n k 100 [] [.ptr bX 0,.ptr bL 0] ldA (Rd.toldR r looks) [mb] (Rx r xb mb eb) (TdPre xb mb eb bX bL looks)
theorem zry {C:Cfg}(hC:C.calm=true)(hwh:∀ f,C.whole f=true){n m:Nat}{r:Rd.Road}(hr:Rd.Fine r)(h0:Has C 100 af100)(hAl:AllC (Ev.call C m))(hI:AllI C (n+1) m r)(hW:WaysC (Ev.call C n) r):ToldI C n (m+1) r:=by
  intro xb mb eb bX bL looks
  refine zqe hC hwh h0.ext h0.exth h0.fns (Nat.le_of_ble_eq_true rfl) ?_
  intro H l T J E M hp h2 h3 h4 h5 h7 h6
  exact zrx C hC hwh n m r hr hAl hI hW H xb mb eb bX bL looks l T J E M hp h2 h3 h4 h5 h7 h6
def stopV (e:Int):AV:=.iface 114 (.agg [.int .i64 e])
structure MustC (call:CallF):Prop where
  t:∀ H e,call (.fn (.func 72) [] []) [.bool true,.int .i64 e] H=some (.ret (.tup []),H,[])
  f:∀ H e,call (.fn (.func 72) [] []) [.bool false,.int .i64 e] H=some (.pan (.iface 114 (.agg [.int .i64 e])),H,[])
def ToldC (call:CallF):Prop:=∀ (H:List AB) (xb looks:Nat),call (.fn (.func 56) [] []) [.ptr xb 0,.int .u64 looks] H=some (.ret (.fn (.func 100) [] [.ptr H.length 0,.ptr (H.length+1) 0]),H++[.cells [.ptr xb 0],.cells [.int .u64 looks]],[])
theorem zsa (C:Cfg)(call:CallF)(H:List AB)(xb looks:Nat):Does (ev C call H.length none af56.body { tm:=tmA af56.ntmps (zipI 0 [.ptr xb 0,.int .u64 looks] []),df:=[],hp:=H,tc:=[] })
    (Ends C H.length af56.res fun w hp tc=>w=.fn (.func 100) [] [.ptr H.length 0,.ptr (H.length+1) 0]∧hp=H++[.cells [.ptr xb 0],.cells [.int .u64 looks]]∧tc=[]):=by
  unfold af56 Zq Zm Zo Zt
  simp only[zipI]
  refine gA ?_
  exact zac (.inl rfl) rfl (by simp) (by simp only[resL,resOf,zaa];simp[*,resV]) ⟨rfl,rfl,rfl⟩
theorem zyt (C:Cfg)(hC:C.calm=true)(hwh:∀ f,C.whole f=true)(n m:Nat)(r:Rd.Road)(hTd:ToldC (Ev.call C m))(hI:ToldI C (n+1) m r)(H:List AB)(xb mb eb:Nat)(hX:Rx r xb mb eb H)(looks:Nat):
    Does (ev C (Ev.call C m) H.length none af73.body { tm:=tmA af73.ntmps (zipI 0 [.ptr xb 0,.int .u64 looks] []),df:=[],hp:=H,tc:=[] })
      (Ends C H.length af73.res fun v hp tc=>v=.bool (Rd.canR r looks)∧(∀ j∈tc,j=mb)∧Rx r xb mb eb hp):=by
  have hx:=hX.xl
  have hm:=hX.ml
  have he:=hX.el
  have hne:=hX.ne
  have hne2:=hX.ne2
  unfold ToldC at hTd
  unfold af73 Zq Zm Zo Zs Zc Zt
  simp only[zipI]
  refine gA ?_
  refine zbz hC hwh (hI xb mb eb (H.length+1) (H.length+2) looks) (by simp[zab]) rfl [H.length] (by simp) (by simp;omega)
    (fun d W G=>d=[]∧W=[]∧G[H.length]?=some (.cells [.bool false])) (fun e d G=>e=.ret∧d≠[]∧G[H.length]?=some (.cells [.bool true]))
    (fun rz=>?_) (fun G G' h k=>h.same fun j hj=>k j (by simp;omega) (by simp;omega)) (fun rz=>⟨rfl,rfl,by simp⟩) (fun rz=>(hX.app _).app _) (fun d W G G' h _ k=>?_) (fun e d G G' h k=>?_) ?_ ?_ ?_
  · refine ⟨by simp,by simp,?_,?_,by omega,by omega,?_,?_,by simp;omega⟩<;>(simp;omega)
  · simp only[List.length_append,List.length_cons,List.length_nil,Nat.zero_add,Nat.add_assoc,Nat.reduceAdd] at k
    exact ⟨h.1,h.2.1,(k _ (get_lt h.2.2) (.inl (by omega)) (by simp;omega) (by omega)).trans h.2.2⟩
  · simp only[List.length_append,List.length_cons,List.length_nil,Nat.zero_add,Nat.add_assoc,Nat.reduceAdd] at k
    exact ⟨h.1,h.2.1,(k _ (by omega) (by omega)).trans h.2.2⟩
  · rintro d s W G rz hpr ⟨rfl,rfl,h1⟩ hYx hK hl hW
    simp only[List.length_append,List.length_cons,List.length_nil,Nat.zero_add,Nat.add_assoc,Nat.reduceAdd] at hl ⊢
    rw[setP1]
    refine gA ?_
    refine ⟨trivial,trivial,?_⟩
    obtain ⟨G2,hG2,k1,k2,k3,k4⟩:=zdg (G:=G) (l:=H.length+4) (.loop rz) (by omega)
    rw[← hG2]
    obtain ⟨f0,f1,f2,f3,f4,f5⟩:=bk' ((k3 H.length (by omega)).trans h1)
    have hX2:Rx r xb mb eb G2:=hYx.kp k4 (by simp;omega) (by simp;omega) (by simp;omega)
    have HA:=hideP (And.intro k2 hX2)
    have h99:¬ H.length=H.length+4:=by omega
    clear hYx hK hpr h1 hG2 k1 k2 k3 k4 hX2
    refine gA ?_
    obtain ⟨k2,hX2⟩:=HA.out
    have k:Kp [H.length] G2 (G2.set H.length (.cells [.bool true])):=(Kp.refl _ _).set _ _ (by simp)
    refine ⟨by simp,k.at k2 (by simp),fun j hj=>?_,hX2.kp k (by simp;omega) (by simp;omega) (by simp;omega),(fun h=>by cases h),fun _=>⟨rfl,by simp,by rw[List.getElem?_set_self f0]⟩,fun _ _ h=>h.elim⟩
    simp only[List.mem_append,List.mem_filter,decide_eq_true_eq,List.mem_cons,List.not_mem_nil,or_false] at hj ⊢
    omega
  · rintro H' tc W h1 h2 h3 h4 h5 h6 ⟨h7,h8,h9⟩
    simp only[List.length_append,List.length_cons,List.length_nil,Nat.zero_add,Nat.add_assoc,Nat.reduceAdd,List.append_nil] at h1 h4 h5 h6 ⊢
    simp only[OutB,Then]
    have hc:Rd.canR r looks=false:=by unfold Rd.canR;rw[h7];rfl
    rw[hc]
    obtain ⟨f0,f1,f2,f3,f4,f5⟩:=bk' h9
    have HA:=hideP (And.intro h1 h3)
    have HD:=hideP h4
    clear h1 h2 h3 h4 h6 h7 h9 hTd hI hX
    refine gA ?_
    obtain ⟨h1,h3⟩:=HA.out
    refine zbn (v:=.bool false) (.inl rfl) rfl (by simp only;rw[List.getElem?_set_ne (by omega)];exact HD.out) (by omega) (by simp;omega) (by simp only[resL,resOf,zaa];simp[resV,pickC,f0]) ⟨rfl,fun j hj=>?_,h3.kp (((Kp.refl [H.length,H.length+3] H').set _ _ (by simp)).set _ _ (by simp)) (by simp;omega) (by simp;omega) (by simp;omega)⟩
    simp at hj
    have:=h1 j (by first|exact hj.1|(rcases hj with h|h;exact h.1;exact h.1)) (by omega)
    simp at this
    omega
  · rintro e d H' tc h0 h1 h2 h3 h4 h5 h6 ⟨rfl,h7,h9⟩
    simp only[List.length_append,List.length_cons,List.length_nil,Nat.zero_add,Nat.add_assoc,Nat.reduceAdd,List.append_nil] at h1 h4 h5 ⊢
    simp only[OutB,Then]
    have hc:Rd.canR r looks=true:=by
      unfold Rd.canR
      have:=h6.ne_nil h7
      cases ht:Rd.toldR r looks with
      |nil=>exact absurd ht this
      |cons _ _=>rfl
    rw[hc]
    refine zbn (v:=.bool true) (.inl rfl) rfl h4 (by omega) (by simp;omega) (by simp only[resL,resOf,zaa];simp[resV,pickC,List.getElem?_set_ne,h9]) ⟨rfl,fun j hj=>?_,h3.kp ((Kp.refl [H.length+3] H').set _ _ (by simp)) (by simp;omega) (by simp;omega) (by simp;omega)⟩
    simp at hj
    have:=h1 j (by first|exact hj.1|(rcases hj with h|h;exact h.1;exact h.1)) (by omega)
    simp at this
    omega
end Ro
end Ev
namespace Rd
theorem zoh {r:Road}:∀ (l:List Evt),(∀ v∈l,v.kind=0→v.load.hi - v.load.lo≤2)→(allR l).length≤3 ^ l.length
  |[],_=>by simp[allR]
  |v::l,h=>by
    have ih:=zoh (r:=r) l fun w hw=>h w (by simp[hw])
    rw[allR]
    split
    · rename_i hk
      have h2:=h v (by simp) hk
      have:((Clm.spanL v.load).flatMap fun k=>(allR l).map (k::·)).length≤(Clm.spanL v.load).length * 3 ^ l.length:=Ev.Ro.flat_le _ _ _ fun k _=>by simpa using ih
      rw[Clm.span_len] at this
      have h3:(v.load.hi+1 - v.load.lo).toNat≤3:=by omega
      have h4:=Nat.mul_le_mul_right (3 ^ l.length) h3
      rw[List.length_cons,Nat.pow_succ]
      omega
    · have:0<3 ^ l.length:=Nat.pow_pos (by decide)
      rw[List.length_map,List.length_cons,Nat.pow_succ]
      omega
theorem allR_few {r:Road}(hr:Fine r):(allR r.events).length≤59049:=by
  have h1:=zoh (r:=r) r.events fun v hv hk=>by rcases hr.event v hv with h|h|h<;>omega
  have h2:3 ^ r.events.length≤3 ^ 10:=Nat.pow_le_pow_right (by decide) hr.events
  omega
end Rd
namespace Ev
namespace Ro
open K
attribute [local simp] ev1 wantG spineK spine float xnew xval xeff zab zae zau zah zai addFl cellsOf pickC alive slLen slFt binI maxA maxK minA minK aeqK aeqS AV.cells spA zad fillA setAt bitsI nat_nn zav AV.plain apart
set_option maxRecDepth 100000
set_option maxHeartbeats 4000000
def spCs (s:Clm.Sp):List AV:=[.int .i64 s.lo,.int .i64 s.hi]
def SpsV (v:AV)(H:List AB)(ds:List Clm.Sp):Prop:=(v=.nils∧ds=[])∨∃ b,v=.sl b 0 ds.length 2∧H[b]?=some (.cells (ds.flatMap spCs))
theorem zux (ds:List Clm.Sp)(x:Clm.Sp):Clm.hull (ds++[x])=if ds=[] then x else (Clm.hull ds).either x:=by
  cases ds with
  |nil=>simp[Clm.hull]
  |cons a l=>simp[Clm.hull]
theorem zqd (C:Cfg)(hC:C.calm=true)(call:CallF)(H:List AB)(v:AV)(ds:List Clm.Sp)(hv:SpsV v H ds)(hl:ds.length≤900000):Does (ev C call H.length none af94.body { tm:=tmA af94.ntmps (zipI 0 [v] []),df:=[],hp:=H,tc:=[] })
    (Ends C H.length af94.res fun w _hp tc=>w=spA (Clm.hull ds)∧tc=[]):=by
  unfold af94 Zq Zm Zl Zo Zs Zt Zn Zi
  have n3:∀ n,¬ H.length+n<H.length:=by omega
  have n4:¬ H.length<H.length:=by omega
  rcases hv with ⟨rfl,rfl⟩|⟨b,rfl,hb⟩
  · simp only[zipI,Clm.hull]
    refine gA ?_
    refine zan hC 0 (by decide) (fun i st=>st={ tm:=tmA 28 [(7,.int .i64 0),(6,.int .i64 0),(5,.nils),(2,.ptr H.length 0)],df:=[],hp:=H++[.cells [.int .i64 0,.int .i64 0]],tc:=[] }) ?_ (fun i st hi=>absurd hi (by omega)) ?_
    · (refine st_is ?_ ?_ ?_ ?_;(focus (simp[zag,zal]));(focus rfl);(focus (first|rfl|(simp;done)|(simp;rfl)));(focus rfl))
    · rintro st rfl
      refine gA ?_
      exact zac (.inl rfl) rfl (by simp) (by simp only[resL,resOf,zaa];simp[*,pickC,resV,spA]) ⟨rfl,rfl⟩
  · obtain ⟨x0,x1,x2,x3,x4,x5⟩:=bk' hb
    have wl:=zbk spCs 2 (fun _=>rfl) ds
    have w1:=zfb spCs 2 (fun _=>rfl) ds
    have hH:=hideP hb
    clear hb
    generalize ds.flatMap spCs=cs at *
    simp only[zipI]
    refine gA ?_
    refine zan hC ds.length (by unfold fuelL;omega) (fun i st=>∃ J,st={ tm:=tmA 28 [(7,.int .i64 i),(6,.int .i64 ds.length),(5,.sl b 0 ds.length 2),(2,.ptr H.length 0)],df:=[],hp:=H++.cells [.int .i64 (Clm.hull (ds.take i)).lo,.int .i64 (Clm.hull (ds.take i)).hi]::J,tc:=[] }) ?_ ?_ ?_
    · refine ⟨[],?_⟩
      (refine st_is ?_ ?_ ?_ ?_;(focus (simp[zag,zal]));(focus rfl);(focus (first|rfl|(simp;done)|(simp;rfl)));(focus rfl))
    · rintro i st hi ⟨J,rfl⟩
      have hgi:ds[i]?=some ds[i]:=List.getElem?_eq_getElem hi
      generalize ds[i]=x at hgi
      have e1:=w1 i x hgi
      have hs:=zux (ds.take i) x
      have ht:ds.take (i+1)=ds.take i++[x]:=by rw[List.take_add_one,hgi];rfl
      rw[← ht] at hs
      have hwi:IntKind.i64.wrap (↑i+1)=↑i+1:=zaf (by omega) (by omega)
      have e4:i * 2+2≤ds.length * 2:=by omega
      simp only[spCs] at e1
      have hi0:ds.take i=[]↔i=0:=by
        rw[List.take_eq_nil_iff]
        constructor
        · rintro (h|h)
          · exact h
          · subst h;simp at hi
        · exact .inl
      have q1:i=0→Clm.hull (ds.take (i+1))=x:=fun h=>by rw[hs,if_pos (hi0.2 h)]
      have q2:i≠0→Clm.hull (ds.take (i+1))=(Clm.hull (ds.take i)).either x:=fun h=>by rw[hs,if_neg fun e=>h (hi0.1 e)]
      clear w1 hgi hs ht hi0
      generalize Clm.hull (ds.take (i+1))=t at *
      generalize Clm.hull (ds.take i)=s at *
      obtain ⟨lo,hi'⟩:=x
      by_cases h0:i=0
      · rw[q1 h0]
        clear q1 q2
        subst h0
        have hw1:IntKind.i64.wrap 1=1:=by decide
        simp only[Int.natCast_zero,Nat.zero_mul,List.drop_zero] at *
        refine gA ?_
        with_reducible apply Exists.intro
        (refine st_is ?_ ?_ ?_ ?_;(focus (simp[zag,zal]));(focus rfl);(focus (first|rfl|(simp;done)|(simp;rfl)));(focus rfl))
      · have h0':((i:Int)==0)=false:=by simp;omega
        rw[q2 h0]
        clear q1 q2
        simp only[Clm.Sp.either] at *
        refine gA ?_
        with_reducible apply Exists.intro
        (refine st_is ?_ ?_ ?_ ?_;(focus (simp[zag,zal]));(focus rfl);(focus (first|rfl|(simp;done)|(simp;rfl)));(focus rfl))
    · rintro st ⟨J,rfl⟩
      rw[List.take_length]
      clear w1
      generalize Clm.hull ds=s at *
      refine gA ?_
      exact zac (v:=spA s) (.inl rfl) rfl (by simp) (by simp only[resL,resOf,zaa];simp[*,pickC,resV,spA]) ⟨rfl,rfl⟩
def EveryC (call:CallF)(r:Rd.Road):Prop:=∀ (H:List AB) (xb:Nat) (w z:AV),H[xb]?=some (.cells (roadCs r++[w,z]))→call (.fn (.func 57) [] []) [.ptr xb 0] H=some (.ret (.int .u64 ((Rd.everyR r:Nat):Int)),H,[])
def WayF (call:CallF)(F:AV)(r:Rd.Road)(xb mb eb n:Nat)(H0:List AB)(g:Rd.Way→List Int→Clm.Sp):Prop:=∀ G,Kp [mb] H0 G→Rx r xb mb eb G→∀ ls∈Rd.allR r.events,∀ w∈Rd.waysR r n ls (Rd.everyR r),call F [.agg (wayCs w),.agg (arr10 (fnOf ls))] G=some (.ret (.agg [.int .i64 (g w ls).lo,.int .i64 (g w ls).hi]),G,[])
def JoinC (call:CallF):Prop:=∀ (H:List AB) (v:AV) (ds:List Clm.Sp),SpsV v H ds→ds.length≤900000→call (.fn (.func 94) [] []) [v] H=some (.ret (.agg [.int .i64 (Clm.hull ds).lo,.int .i64 (Clm.hull ds).hi]),H,[])
def SJ (r:Rd.Road)(n:Nat)(g:Rd.Way→List Int→Clm.Sp)(o:Nat)(d:List (List Int))(W:List Nat)(G:List AB):Prop:=∃ lv,G[o+4]?=some (.cells [lv])∧Gl spCs 2 (o+9) G W (d.flatMap fun ls=>(Rd.waysR r n ls (Rd.everyR r)).map fun w=>g w ls) lv
theorem zdy {r:Rd.Road}(hr:Rd.Fine r){n:Nat}(hn:n<r.parts.length)(ls:List Int)(k:Nat):(Rd.waysR r n ls k).length≤9:=Nat.le_trans (List.length_filterMap_le _ _) (zjz hr hn)
structure SIn (r:Rd.Road) (xb mb eb:Nat) (H:List AB) (o gl b:Nat) (F:AV) (ws:List Rd.Way) (R:List AV) (rz:ALoop) (W0:List Nat) (n3:Nat) (W:List Nat) (ds:List Clm.Sp) (hp:List AB):Prop where
  x:Rx r xb mb eb hp
  f:hp[o+2]?=some (.cells [F])
  r:hp[gl]?=some (.cells R)
  w:hp[b]?=some (.cells (ws.flatMap wayCs))
  l:hp[o+8]?=some (.loop rz)
  g:∃ lv,hp[o+4]?=some (.cells [lv])∧Gl spCs 2 (o+9) hp W ds lv
  ww:∀ j∈W,j∈W0∨n3≤j
  k:Kp [mb] H hp
  len:n3≤hp.length
theorem zsp (C:Cfg)(hC:C.calm=true)(hwh:∀ f,C.whole f=true)(n0 m:Nat)(r:Rd.Road)(hr:Rd.Fine r)(hTd:ToldC (Ev.call C m))(hI:ToldI C (n0+1) m r)(hE:EveryC (Ev.call C m) r)(hE0:EveryC (Ev.call C n0) r)(hW:WaysC (Ev.call C n0) r)(hJo:JoinC (Ev.call C m))(H:List AB)(xb mb eb:Nat)(hX:Rx r xb mb eb H)(n:Nat)(hn:n<r.parts.length)(fl:Fn)(fa fb:List AV)(g:Rd.Way→List Int→Clm.Sp)(hF:WayF (Ev.call C n0) (.fn fl fa fb) r xb mb eb n H g):
    Does (ev C (Ev.call C m) H.length none af44.body { tm:=tmA af44.ntmps (zipI 0 [.ptr xb 0,.int .i64 n,.fn fl fa fb] []),df:=[],hp:=H,tc:=[] })
      (Ends C H.length af44.res fun v hp tc=>v=spA (Rd.spanR r n g)∧(∀ j∈tc,j=mb)∧Rx r xb mb eb hp):=by
  have hx:=hX.xl
  have hm:=hX.ml
  have he:=hX.el
  have hne:=hX.ne
  have hne2:=hX.ne2
  have hev:=fun K=>hE (H++K) xb _ _ (hX.app K).x
  unfold ToldC at hTd
  unfold af44 Zq Zm Zl Zo Zs Zd Ze Zc Zt Zn Zi
  simp only[zipI]
  have HF:=hideP (And.intro hF (And.intro hW (And.intro hE0 hJo)))
  clear hF hW hE hE0 hJo
  refine gE ?_
  refine zbz hC hwh (hI xb mb eb (H.length+5) (H.length+6) (Rd.everyR r)) (by simp[zab]) rfl [H.length+4] (by simp) (by simp;omega)
    (SJ r n g H.length) (fun _ _ _=>False) (fun rz=>?_) (fun G G' h k=>h.same fun j hj=>k j (by simp;omega) (by simp;omega))
    (fun rz=>⟨.nils,by simp,.none⟩) (fun rz=>(hX.app _).app _) (fun d W G G' ⟨lv,h1,h2⟩ _ k=>?_) (fun _ _ _ _ h _=>h) ?_ ?_ (fun _ _ _ _ _ _ _ _ _ _ _ h=>h.elim)
  · refine ⟨by simp,by simp,?_,?_,by omega,by omega,?_,?_,by simp;omega⟩<;>(simp;omega)
  · simp only[List.length_append,List.length_cons,List.length_nil,Nat.zero_add,Nat.add_assoc,Nat.reduceAdd] at k
    exact ⟨lv,(k _ (get_lt h1) (.inl (by omega)) (by simp;omega) (by omega)).trans h1,h2.same fun j hj hl=>k j hl (.inr hj) (by have:=h2.lt j hj;simp;omega) (by have:=h2.lt j hj;omega)⟩
  · rintro d s W G rz hpr ⟨lv,h4,hG⟩ hY hK hl hWb
    simp only[List.length_append,List.length_cons,List.length_nil,Nat.zero_add,Nat.add_assoc,Nat.reduceAdd] at hl hWb ⊢
    rw[setP1]
    obtain ⟨hF,hW,hE0,hJo⟩:=HF.out
    have hst:s∈Rd.toldR r (Rd.everyR r):=hpr.subset (by simp)
    obtain ⟨hs,hsw⟩:=Rd.told_in hst
    obtain ⟨hld,hls⟩:=all_ld hr hs
    have hRl:=zbg (fnOf s)
    have hRp:=zcr (fnOf s)
    have hRa:=zbs (fnOf s)
    have hW':=fun G h=>hW G xb mb eb h n hn (fnOf s) hld (Rd.everyR r)
    have hF':=fun G k h=>hF G k h s hs
    have hwf:=zdy hr hn s (Rd.everyR r)
    have hdl:d.length+1≤59049:=by
      have h1:=hpr.length_le
      have h2:(Rd.toldR r (Rd.everyR r)).length≤(Rd.allR r.events).length:=List.length_filter_le _ _
      have:=Rd.allR_few hr
      simp at h1;omega
    have hdf:(d.flatMap fun ls=>(Rd.waysR r n ls (Rd.everyR r)).map fun w=>g w ls).length≤d.length * 9:=flat_le _ _ _ fun ls _=>by rw[List.length_map];exact zdy hr hn ls _
    simp only[ldA]
    generalize arr10 (fnOf s)=R at *
    refine gA ?_
    refine ⟨trivial,?_,?_⟩
    · rw[List.getElem?_append_left (by omega)]
    obtain ⟨G2,hG2,k1,k2,k3,k4⟩:=zdg (G:=G++[.cells R]) (l:=H.length+8) (.loop rz) (by simp;omega)
    rw[← hG2]
    clear hG2
    have j3:∀ {j x},G[j]?=some x→j≠H.length+8→G2[j]?=some x:=fun {j x} hx hj=>by rw[k3 _ hj,List.getElem?_append_left (get_lt hx)];exact hx
    have e0:=j3 (hK.at (b:=H.length) (x:=.cells [.ptr xb 0]) (by simp) (by simp;omega)) (by omega)
    have e1:=j3 (hK.at (b:=H.length+1) (x:=.cells [.int .i64 n]) (by simp) (by simp;omega)) (by omega)
    have e2:=j3 (hK.at (b:=H.length+2) (x:=.cells [.fn fl fa fb]) (by simp) (by simp;omega)) (by omega)
    have e4:=j3 h4 (by omega)
    have e5:G2[G.length]?=some (.cells R):=by rw[k3 _ (by omega)];simp
    have kl2:G2.length=G.length+1:=by rw[k1];simp
    have hX2:Rx r xb mb eb G2:=(hY.app _).kp k4 (by simp;omega) (by simp;omega) (by simp;omega)
    have hKH : Kp [mb] H G2 := ⟨by omega, fun b hb hn => by
      rw[k3 b (by omega),List.getElem?_append_left (by omega),hK.get b (by simp;omega) (by simp at hn ⊢;omega),List.getElem?_append_left hb]⟩
    have hG2':Gl spCs 2 (H.length+9) G2 W (d.flatMap fun ls=>(Rd.waysR r n ls (Rd.everyR r)).map fun w=>g w ls) lv:=hG.same fun j hj hl=>by rw[k3 _ (by have:=hG.lt j hj;omega),List.getElem?_append_left hl]
    obtain ⟨v,H3,tc3,c1,c2,c3,c4,W3,c5⟩:=hW' G2 hX2
    have he0:=hE0 G2 xb _ _ hX2.x
    rw[hls] at c5
    have hne3:=hsw n hn
    generalize hws:Rd.waysR r n s (Rd.everyR r)=ws at *
    obtain ⟨b,hb1,hb2,rfl⟩:∃ b,G2.length≤b∧H3[b]?=some (.cells (ws.flatMap wayCs))∧v=.sl b 0 ws.length 5:=by
      cases c5 with
      |none=>exact absurd rfl hne3
      |some b _ z1 z2 z3=>exact ⟨b,z1,z2,rfl⟩
    have nt:∀ {j},H.length≤j→j∉tc3:=fun hj ht=>by have:=c2 _ ht;omega
    have c3':Kp [mb] G2 H3:=c3.mono fun j _ h=>by simpa using c2 j h
    obtain ⟨ds,hds⟩:∃ ds,ds=d.flatMap fun ls=>(Rd.waysR r n ls (Rd.everyR r)).map fun w=>g w ls:=⟨_,rfl⟩
    rw[← hds] at hG2' hdf
    have hS0:SIn r xb mb eb H H.length G.length b (.fn fl fa fb) ws R rz W H3.length W (ds++(ws.take 0).map fun w=>g w s) H3:=⟨c4,c3.at e2 (nt (by omega)),c3.at e5 (nt (by omega)),hb2,c3.at k2 (nt (by omega)),⟨lv,c3.at e4 (nt (by omega)),by simpa using hG2'.kp c3 fun j hj=>nt (by have:=hG2'.lt j hj;omega)⟩,fun j hj=>.inl hj,hKH.trans c3',Nat.le_refl _⟩
    have hl3:=c3.len
    have hWlt:∀ j∈W,j<G.length:=fun j hj=>(hG.lt j hj).2
    have hb3:=get_lt hb2
    obtain ⟨x0,x1,x2,x3,x4,x5⟩:=bk' e0
    obtain ⟨y0,y1,y2,y3,y4,y5⟩:=bk' e1
    obtain ⟨w0,w1,w2,w3,w4,w5⟩:=bk' e5
    obtain ⟨b0,b1,b2,b3,b4,b5⟩:=bk' hb2
    have HA:=hideP (And.intro hS0 (And.intro hpr (And.intro hds (And.intro hdf (And.intro hws (And.intro c2 (And.intro hF' (And.intro hWb (And.intro kl2 (And.intro hl (And.intro hb1 (And.intro hl3 (And.intro hWlt hb3)))))))))))))
    clear hS0 hpr hds hdf hws c2 hF' hWb kl2 hl hb1 hWlt hb3 hF hW hE0 hJo hst hs hsw hld hls hW' hK hY hG h4 e0 e1 e2 e4 e5 k1 k2 k3 k4 j3 hX2 hKH hG2' c3 c3' c4 c5 hl3 hne3 hb2 hX nt hTd hI hev
    refine gE ?_
    with_reducible refine zan hC ws.length (by unfold fuelL;omega) (fun i st=>∃ hp tc W',SIn r xb mb eb H H.length G.length b (.fn fl fa fb) ws R rz W H3.length W' (ds++(ws.take i).map fun w=>g w s) hp∧(∀ j∈tc,j=H.length+8∨j=H.length+4∨j=mb∨j∈W)∧st={ tm:=tmA 37 [(23,.int .i64 i),(22,.int .i64 ws.length),(21,.sl b 0 ws.length 5),(8,.ptr G.length 0),(7,.ptr (H.length+4) 0),(5,.ptr (H.length+2) 0)],df:=[],hp:=hp,tc:=tc }) ?_ ?_ ?_
    · obtain ⟨hS0,_,_,_,_,c2,_⟩:=HA.out
      refine ⟨_,_,_,hS0,fun j hj=>?_,st_is (by simp[zag,zal]) rfl rfl rfl⟩
      rcases List.mem_append.1 hj with h|h
      · exact .inr (.inr (.inl (c2 j (List.mem_filter.1 h).1)))
      · exact .inl (by simpa using h)
    · clear x0 x1 x2 x3 x4 x5 y0 y1 y2 y3 y4 y5 w0 w1 w2 w3 w4 w5 b0 b1 b2 b3 b4 b5
      rintro i st hi ⟨hp,tc,W',hS,htc,rfl⟩
      obtain ⟨_,hpr,hds,hdf,hws,c2,hF',hWb,kl2,hl,hb1,hl3,hWlt,hb3⟩:=HA.out
      have hgi:ws[i]?=some ws[i]:=List.getElem?_eq_getElem hi
      have hwm:ws[i]∈ws:=List.getElem_mem hi
      generalize ws[i]=w at hgi hwm
      have hFk:=fun K=>hF' (hp++K) (hS.k.trans (Kp.app _ _)) (hS.x.app K) w hwm
      have hat:=zfb wayCs 5 (fun _=>rfl) ws i w hgi
      have hcl:=zbk wayCs 5 (fun _=>rfl) ws
      have hwi:IntKind.i64.wrap (↑i+1)=↑i+1:=zaf (by omega) (by omega)
      have e4:i * 5+5≤ws.length * 5:=by omega
      have hnext:(ds++(ws.take i).map fun w=>g w s)++[g w s]=ds++(ws.take (i+1)).map fun w=>g w s:=by
        rw[List.take_add_one,hgi];simp
      have hdl2:(ds++(ws.take i).map fun w=>g w s).length+1≤bound:=by
        unfold bound
        simp only[List.length_append,List.length_map,List.length_take]
        omega
      obtain ⟨x0,x1,x2,x3,x4,x5⟩:=bk' hS.f
      obtain ⟨w0,w1,w2,w3,w4,w5⟩:=bk' hS.r
      obtain ⟨b0,b1,b2,b3,b4,b5⟩:=bk' hS.w
      obtain ⟨lv,hlv,hGl⟩:=hS.g
      obtain ⟨u0,u1,u2,u3,u4,u5⟩:=bk' hlv
      have hne1:¬ H.length+4=G.length:=by omega
      have HS:=hideP (And.intro hS (And.intro htc (And.intro hnext hGl)))
      have HB:=hideP (And.intro hWb (And.intro kl2 (And.intro hl (And.intro hb1 (And.intro hl3 (And.intro hWlt hb3))))))
      simp only[wayCs] at hat hFk
      generalize hDS:(ds++(ws.take i).map fun w=>g w s)=DS at *
      generalize ws.flatMap wayCs=cw at *
      clear hpr hds hdf hws c2 hF' hgi hwm hnext hDS htc hS hWb kl2 hl hb1 hl3 hWlt hb3
      have hb1':1≤bound:=by decide
      generalize g w s=sp at *
      have tcs:∀ (tc':List Nat),(∀ j∈tc',j∈tc∨j<G.length∧(j=H.length+4∨j∈W'∨hp.length≤j))→∀ j∈tc',j=H.length+8∨j=H.length+4∨j=mb∨j∈W:=fun tc' h j hj=>by
        obtain ⟨_,q2,_,_,q5,_,_⟩:=HB.out
        have:=HS.out.1.len
        rcases h j hj with g|⟨g1,g|g|g⟩
        · exact HS.out.2.1 j g
        · exact .inr (.inl g)
        · rcases HS.out.1.ww j g with q|q
          · exact .inr (.inr (.inr q))
          · omega
        · omega
      have HT:=hideP tcs
      clear tcs
      have hone:∀ (hp':List AB) (nb:Nat),Kp ((H.length+4)::W') hp hp'→(∀ j∈W',j=nb→False)→hp'[H.length+4]?=some (.cells [.sl nb 0 (DS.length+1) 2])→hp'[nb]?=some (.cells ((DS++[sp]).flatMap spCs))→hp.length≤nb→SIn r xb mb eb H H.length G.length b (.fn fl fa fb) ws R rz W H3.length [nb] (DS++[sp]) hp':=by
        intro hp' nb k1 _ k3 k4 k5
        obtain ⟨hS,htc,hnext,hGl⟩:=HS.out
        obtain ⟨q1,q2,q3,q4,q5,q6,q7⟩:=HB.out
        have nw:∀ {j},j<G.length+1∨G2.length≤j∧j<H3.length→j≠H.length+4→(j<H.length+9∨G.length≤j)→j∉(H.length+4)::W':=by
          intro j h1 h2 h3 h4
          rcases List.mem_cons.1 h4 with h|h
          · exact h2 h
          · rcases hS.ww j h with h|h
            · have:=q1 j h;have:=q6 j h;omega
            · omega
        have hl:=hS.len
        refine ⟨hS.x.kp k1 (nw (.inl (by omega)) (by omega) (.inl (by omega))) (nw (.inl (by omega)) (by omega) (.inl (by omega))) (nw (.inl (by omega)) (by omega) (.inl (by omega))),k1.at hS.f (nw (.inl (by omega)) (by omega) (.inl (by omega))),k1.at hS.r (nw (.inl (by omega)) (by omega) (.inr (by omega))),k1.at hS.w (nw (.inr ⟨by omega,by omega⟩) (by omega) (.inr (by omega))),k1.at hS.l (nw (.inl (by omega)) (by omega) (.inl (by omega))),⟨_,k3,?_⟩,fun j hj=>?_,⟨by have:=k1.len;have:=hS.k.len;omega,fun q hq hn=>(k1.get q (by have:=hS.k.len;omega) (nw (.inl (by omega)) (by omega) (.inl (by omega)))).trans (hS.k.get q hq hn)⟩,by have:=k1.len;omega⟩
        · have:=Gl.some (f:=spCs) (k:=2) (lo:=H.length+9) (G:=hp') nb (DS++[sp]) (by omega) k4 (by simp)
          simpa using this
        · simp at hj;subst hj;exact .inr (by omega)
      have HO:=hideP hone
      clear hone
      cases hGl with
      |none=>
        refine gG ?_
        obtain ⟨hp',hhp⟩:∃ hp',hp'=hp.set (H.length+4) (.cells [.sl (hp.length+2) 0 1 2])++[.cells [.int .i64 w.part.stiff,.int .i64 w.part.rise,.int .i64 w.part.full,.int .i64 w.first.lo,.int .i64 w.first.hi],.cells [.int .i64 sp.lo,.int .i64 sp.hi],.cells [.int .i64 sp.lo,.int .i64 sp.hi]]:=⟨_,rfl⟩
        have hn:=HO.out hp' (hp.length+2) (by rw[hhp];exact ((Kp.refl _ hp).set _ _ (by simp)).trans (Kp.app _ _)) (by simp) (by rw[hhp,List.getElem?_append_left (by simpa using u0),List.getElem?_set_self u0];rfl) (by rw[hhp,List.getElem?_append_right (by simp)];simp[spCs]) (by omega)
        rw[← hhp]
        rw[HS.out.2.2.1] at hn
        refine ⟨hp',List.filter (fun x=>decide (x<G.length)) [H.length+4]++(List.filter (fun x=>decide (x<G.length)) [hp.length]++tc),_,hn,HT.out _ fun j hj=>?_,st_is (by simp[zag,zal]) rfl rfl rfl⟩
        simp only[List.mem_append,List.mem_filter,List.mem_singleton,decide_eq_true_eq] at hj
        rcases hj with h|h|h
        · exact .inr ⟨h.2,.inl h.1⟩
        · exact .inr ⟨h.2,.inr (.inr (by omega))⟩
        · exact .inl h
      |some bl _ g1 g2 g3=>
        have hcl2:=zbk spCs 2 (fun _=>rfl) DS
        have hcp:=zcg spCs (fun _=>rfl) DS
        obtain ⟨q0,q1,q2,q3,q4,q5⟩:=bk' g2
        have hbb:¬ bl=H.length+4:=by omega
        have hbb2:¬ H.length+4=bl:=by omega
        have hbg:bl≠G.length:=by
          obtain ⟨_,q2,_,_,q5,q6,q7⟩:=HB.out
          rcases HS.out.1.ww bl (by simp) with q|q
          · have:=q6 bl q;omega
          · omega
        have HC:=hideP (And.intro g1 (And.intro g2 g3))
        clear g1 g2 g3
        generalize hcs:DS.flatMap spCs=cs at *
        have HC2:=hideP hcs
        clear hcs
        refine gG ?_
        obtain ⟨g1,g2,g3⟩:=HC.out
        have hcs:=HC2.out
        obtain ⟨hp',hhp⟩:∃ hp',hp'=(hp.set bl .dead).set (H.length+4) (.cells [.sl (hp.length+2) 0 (DS.length+1) 2])++[.cells [.int .i64 w.part.stiff,.int .i64 w.part.rise,.int .i64 w.part.full,.int .i64 w.first.lo,.int .i64 w.first.hi],.cells [.int .i64 sp.lo,.int .i64 sp.hi],.cells (cs++[.int .i64 sp.lo,.int .i64 sp.hi])]:=⟨_,rfl⟩
        have hn:=HO.out hp' (hp.length+2) (by rw[hhp];exact (((Kp.refl _ hp).set _ _ (by simp)).set _ _ (by simp)).trans (Kp.app _ _)) (by simp;omega) (by rw[hhp,List.getElem?_append_left (by simpa using u0),List.getElem?_set_self (by simpa using u0)]) (by rw[hhp,List.getElem?_append_right (by simp),List.flatMap_append,hcs];simp[spCs]) (by omega)
        rw[← hhp]
        rw[HS.out.2.2.1] at hn
        refine ⟨hp',List.filter (fun x=>decide (x<G.length)) [H.length+4]++(List.filter (fun x=>decide (x<G.length)) [bl]++(List.filter (fun x=>decide (x<G.length)) [hp.length]++tc)),_,hn,HT.out _ fun j hj=>?_,st_is (by simp[zag,zal]) rfl rfl rfl⟩
        simp only[List.mem_append,List.mem_filter,List.mem_singleton,decide_eq_true_eq] at hj
        rcases hj with h|h|h|h
        · exact .inr ⟨h.2,.inl h.1⟩
        · exact .inr ⟨h.2,.inr (.inl (by simp[h.1]))⟩
        · exact .inr ⟨h.2,.inr (.inr (by omega))⟩
        · exact .inl h
    · clear x0 x1 x2 x3 x4 x5 y0 y1 y2 y3 y4 y5 w0 w1 w2 w3 w4 w5 b0 b1 b2 b3 b4 b5
      rintro st ⟨hp,tc,W',hS,htc,rfl⟩
      rw[List.take_length] at hS
      have HS:=hideP (And.intro hS htc)
      clear hS htc
      refine gA ?_
      obtain ⟨hS,htc⟩:=HS.out
      obtain ⟨_,hpr,hds,hdf,hws,c2,hF',hWb,kl2,hl,hb1,hl3,hWlt,hb3⟩:=HA.out
      obtain ⟨lv',h1,h2⟩:=hS.g
      refine ⟨by simp,hS.l,fun j hj=>?_,hS.x,fun _=>⟨W',fun j hj=>?_,lv',h1,?_⟩,fun h=>absurd rfl h,fun _ _ h=>h.elim⟩
      · rcases htc j hj with h|h|h|h
        · exact .inl h
        · exact .inr (.inl (by simp[h]))
        · exact .inr (.inr (.inl (by simp[h])))
        · exact .inr (.inr (.inr h))
      · rcases hS.ww j hj with h|h
        · exact .inl h
        · exact .inr (by omega)
      · rw[hds] at h2
        rw[List.flatMap_append,List.flatMap_cons,List.flatMap_nil,List.append_nil,hws]
        exact h2
  · rintro H' tc W h1 h2 h3 h4 h5 h6 ⟨lv,h7,h8⟩
    simp only[List.length_append,List.length_cons,List.length_nil,Nat.zero_add,Nat.add_assoc,Nat.reduceAdd] at h1 h4 h5 h6 ⊢
    obtain ⟨hF,hW,hE0,hJo⟩:=HF.out
    obtain ⟨f0,f1,f2,f3,f4,f5⟩:=bk' h7
    have hH3:H'[H.length+3]?=some (.cells [.int .i64 0,.int .i64 0]):=h2.at (by simp) fun h=>by have:=h1 _ h (by omega);simp at this;omega
    obtain ⟨g0,g1,g2,g3,g4,g5⟩:=bk' hH3
    have hsp:Rd.spanR r n g=Clm.hull ((Rd.toldR r (Rd.everyR r)).flatMap fun ls=>(Rd.waysR r n ls (Rd.everyR r)).map fun w=>g w ls):=rfl
    have hlen:((Rd.toldR r (Rd.everyR r)).flatMap fun ls=>(Rd.waysR r n ls (Rd.everyR r)).map fun w=>g w ls).length≤900000:=by
      have h1:(Rd.toldR r (Rd.everyR r)).length≤(Rd.allR r.events).length:=List.length_filter_le _ _
      have h2:=Rd.allR_few hr
      have h3:=flat_le (fun ls=>(Rd.waysR r n ls (Rd.everyR r)).map fun w=>g w ls) 9 (Rd.toldR r (Rd.everyR r)) fun ls _=>by rw[List.length_map];exact zdy hr hn ls _
      omega
    rw[hsp]
    generalize ((Rd.toldR r (Rd.everyR r)).flatMap fun ls=>(Rd.waysR r n ls (Rd.everyR r)).map fun w=>g w ls)=ds at *
    have hjo := hJo H' lv ds (by
      cases h8 with
      |none=>exact .inl ⟨rfl,rfl⟩
      |some b _ q1 q2 q3=>exact .inr ⟨b,rfl,q2⟩) hlen
    have hlv:lv=.nils∨∃ b k,lv=.sl b 0 k 2:=by
      cases h8 with
      |none=>exact .inl rfl
      |some b _ q1 q2 q3=>exact .inr ⟨b,_,rfl⟩
    have HH:=hideP (And.intro h1 h3)
    have HD:=hideP h4
    clear h1 h2 h3 h6 h8 h4 h5 h7 hTd hI hX hF hW hE0 hJo hev hH3 hsp hlen HF
    simp only[OutB,Then]
    have hn4:¬ H.length+7=H.length+3:=by omega
    have fin:∀ tms,(tmA 37 tms).getD 6 .unk=.ptr (H.length+3) 0→∀ tc',(∀ j∈tc',j<H.length∧(j∈tc∨H.length≤j))→Ends C H.length [ARes.cell 6 (some 2)] (fun v hp tc=>v=spA (Clm.hull ds)∧(∀ j∈tc,j=mb)∧Rx r xb mb eb hp) AExit.ret { tm:=tmA 37 tms,df:=[.mark (H.length+7)],hp:=H'.set (H.length+3) (.cells [.int .i64 (Clm.hull ds).lo,.int .i64 (Clm.hull ds).hi]),tc:=tc' }:=by
      intro tms ht tc' htc
      obtain ⟨h1,h3⟩:=HH.out
      refine zbn (v := spA (Clm.hull ds)) (.inl rfl) rfl (by simp only; rw [List.getElem?_set_ne (by omega)]; exact HD.out) (by omega) (by simp; omega) (by
        simp only[resL,resOf,ht]
        rw[List.getElem?_set_ne (by omega),List.getElem?_set_self g0]
        simp[resV,pickC,spA]) ⟨rfl,fun j hj=>?_,h3.kp (((Kp.refl [H.length+3,H.length+7] H').set _ _ (by simp)).set _ _ (by simp)) (by simp;omega) (by simp;omega) (by simp;omega)⟩
      obtain ⟨q1,q2⟩:=htc j hj
      have:=h1 j (q2.resolve_right (by omega)) (by omega)
      simp at this
      omega
    have HN:=hideP fin
    clear fin HH
    rcases hlv with rfl|⟨b,k,rfl⟩
    · (refine gA ?_)
      refine HN.out _ (by rfl) _ fun j hj=>?_
      simp at hj
      first|exact ⟨hj.2,.inl hj.1⟩|exact ⟨by omega,by rcases hj with h|h<;>first|exact .inr (by omega)|exact .inl h.1⟩
    · (refine gA ?_)
      refine HN.out _ (by rfl) _ fun j hj=>?_
      simp at hj
      first|exact ⟨hj.2,.inl hj.1⟩|exact ⟨by omega,by rcases hj with h|h<;>first|exact .inr (by omega)|exact .inl h.1⟩
def RestedC (call:CallF):Prop:=∀ (H:List AB) (p:Rd.Tr),TrOk p→∀ h d:Int,-1000000≤h→h≤1000000→0≤d→d≤1000→call (.fn (.func 115) [.agg [.int .i64 p.stiff,.int .i64 p.rise,.int .i64 p.full]] []) [.int .i64 h,.int .i64 d] H=some (.ret (.int .i64 (Rd.rested p h d)),H,[])
theorem ztk {p:Rd.Tr}(hp:TrOk p){h d:Int}(h0:-1000000≤h)(h1:h≤1000000)(d0:0≤d):-1000000≤Rd.rested p h d∧Rd.rested p h d≤60:=by
  have:=Int.mul_nonneg d0 hp.r1
  have:=hp.f1;have:=hp.f2
  unfold Rd.rested
  generalize d * p.rise=y at *
  omega
theorem zzk {p:Rd.Tr}(hp:TrOk p){l:Int}(h0:0≤l)(h1:l≤1000):0≤Rd.sunk p l∧Rd.sunk p l≤2000:=by
  have:=hp.s1;have:=hp.s2
  have b1:Rd.sunk p l≤l+p.stiff - 1:=Int.ediv_le_self _ (by omega)
  exact ⟨Rd.sunk_nn hp.s1 h0,by omega⟩
structure LOk (days load:Int):Prop where
  d0:0≤days
  d1:days≤10
  l0:0≤load
  l1:load≤60
theorem zyd (C:Cfg)(call:CallF)(r:Rd.Road)(hr:Rd.Fine r)(hH:HeightC call r)(hR:RestedC call)(hS:SunkC call)(H:List AB)(xb mb eb:Nat)(hX:Rx r xb mb eb H)(w:Rd.Way)(hp:TrOk w.part)(h:Int)(b1:-1000≤h)(b2:h≤1000)(f:Nat→Int)(hf:LdOk f)(days load:Int)(hL:LOk days load):
    Does (ev C call H.length none af97.body { tm:=tmA af97.ntmps (zipI 0 [.ptr xb 0,.agg (wayCs w),.int .i64 h,.agg (arr10 f),.int .i64 days,.int .i64 load] []),df:=[],hp:=H,tc:=[] })
      (Ends C H.length af97.res fun v _hp tc=>v=.int .i64 (Rd.leftR r w h (lsOf r.events.length f) days load)∧tc=[]):=by
  obtain ⟨d0,d1,l0,l1⟩:=hL
  have hhC:=fun K=>hH (H++K) xb mb eb (hX.app K) w.part hp h b1 b2 f hf r.events.length (Nat.le_refl _)
  have hbd:=Rd.heightR_bd hr hp.s1 hp.s2 hp.r1 hp.f1 hp.f2 (ls:=lsOf r.events.length f) (fun i=>by rw[zey];split;exact hf i;omega) b1 b2 r.events.length (Nat.le_refl _)
  have he10:=hr.events
  have e:Rd.leftR r w h (lsOf r.events.length f) days load=Rd.rested w.part (Rd.heightR r w.part h (lsOf r.events.length f) r.events.length) days - Rd.sunk w.part load:=rfl
  rw[e];clear e
  generalize Rd.heightR r w.part h (lsOf r.events.length f) r.events.length=y at *
  have hrC:=fun H=>hR H w.part hp y days (by omega) (by omega) d0 (by omega)
  have hrb:=ztk hp (h:=y) (by omega) (by omega) d0
  have hsC:=fun H=>hS H w.part hp load l0 (by omega)
  have hsb:=zzk hp l0 (by omega)
  generalize Rd.rested w.part y days=z at *
  generalize Rd.sunk w.part load=u at *
  have hw:IntKind.i64.wrap (z - u)=z - u:=zaf (by omega) (by omega)
  have hlen:slLen H (evL r eb)=some r.events.length:=by
    unfold evL
    by_cases hn:r.events=[]
    · rw[if_pos hn,hn];rfl
    · rw[if_neg hn]
      obtain ⟨x0,x1,x2,x3,x4,x5⟩:=bk' (hX.e hn)
      simp[slLen,alive,x1]
  have hev:(evL r eb=.nils∧r.events.length=0)∨(evL r eb=.sl eb 0 r.events.length 1∧H[eb]?=some (.cells (r.events.map ifA))):=by
    unfold evL
    by_cases hn:r.events=[]
    · rw[if_pos hn];exact .inl ⟨rfl,by rw[hn];rfl⟩
    · rw[if_neg hn];exact .inr ⟨rfl,hX.e hn⟩
  have hXx:=hX.x
  have hl:=zbg f
  have hall:=zbs f
  clear hH hR hS hX hrb hsb hbd hlen hp hf b1 b2 d0 d1 l0 l1
  unfold af97 Zq Zm Zo Zd Zc Zt Zn
  generalize arr10 f=R at *
  rcases hev with ⟨h1,h2⟩|⟨h1,h2⟩
  · rw[h1] at hXx
    obtain ⟨y0,y1,y2,y3,y4,y5⟩:=bk' hXx
    simp only[h2,Int.natCast_zero] at hhC
    simp only[zipI,roadCs,List.cons_append,List.nil_append,wayCs] at *
    clear hXx
    refine gE ?_
    exact zac (.inl rfl) rfl (by simp) (by simp only[resL,resOf,zaa];simp[*,resV]) ⟨rfl,rfl⟩
  · rw[h1] at hXx
    obtain ⟨y0,y1,y2,y3,y4,y5⟩:=bk' hXx
    obtain ⟨x0,x1,x2,x3,x4,x5⟩:=bk' h2
    simp only[zipI,roadCs,List.cons_append,List.nil_append,wayCs] at *
    clear hXx h2
    refine gE ?_
    exact zac (.inl rfl) rfl (by simp) (by simp only[resL,resOf,zaa];simp[*,resV]) ⟨rfl,rfl⟩
def WsV (v:AV)(H:List AB)(ws:List Rd.Way):Prop:=(v=.nils∧ws=[])∨∃ b,v=.sl b 0 ws.length 5∧H[b]?=some (.cells (ws.flatMap wayCs))
theorem WaysV.ws {r:Rd.Road}{n:Nat}{f:Nat→Int}{looks lo:Nat}{v:AV}{H:List AB}(h:WaysV r n f looks lo v H):WsV v H (Rd.waysR r n (lsOf r.events.length f) looks):=by
  obtain ⟨W,h⟩:=h
  generalize Rd.waysR r n (lsOf r.events.length f) looks=ws at *
  cases h with
  |none=>exact .inl ⟨rfl,rfl⟩
  |some b _ z1 z2 z3=>exact .inr ⟨b,rfl,z2⟩
def IndexC (call:CallF)(call0:CallF):Prop:=∀ (H:List AB) (v:AV) (ws:List Rd.Way),WsV v H ws→ws.length≤1000→∀ (fl:Fn) (fa fb:List AV) (p:Rd.Way→Bool),(∀ w∈ws,call0 (.fn fl fa fb) [.agg (wayCs w)] H=some (.ret (.bool (p w)),H,[])) →
  ∃ k:Int,call (.fn (.func 114) [] []) [v,.fn fl fa fb] H=some (.ret (.int .i64 k),H,[])∧decide (0≤k)=ws.any p
theorem zqi (C:Cfg)(hC:C.calm=true)(call:CallF)(H:List AB)(v:AV)(ws:List Rd.Way)(hv:WsV v H ws)(hl:ws.length≤1000)(fl:Fn)(fa fb:List AV)(p:Rd.Way→Bool)(hF:∀ w∈ws,call (.fn fl fa fb) [.agg (wayCs w)] H=some (.ret (.bool (p w)),H,[])):
    Does (ev C call H.length none af114.body { tm:=tmA af114.ntmps (zipI 0 [v,.fn fl fa fb] []),df:=[],hp:=H,tc:=[] })
      (Ends C H.length af114.res fun v _hp tc=>∃ k:Int,v=.int .i64 k∧decide (0≤k)=ws.any p∧tc=[]):=by
  unfold af114 Zq Zm Zo Zt Zn
  rcases hv with ⟨rfl,rfl⟩|⟨b,rfl,hb⟩
  · simp only[zipI]
    refine gA ?_
    refine zan hC 0 (by decide) (fun i st=>st={ tm:=tmA 19 [(8,.int .i64 0),(7,.int .i64 0),(1,.fn fl fa fb),(0,.nils)],df:=[],hp:=H,tc:=[] }) ?_ (fun i st hi=>absurd hi (by omega)) ?_
    · (refine st_is ?_ ?_ ?_ ?_;(focus (simp[zag,zal]));(focus rfl);(focus (first|rfl|(simp;done)|(simp;rfl)));(focus rfl))
    · rintro st rfl
      refine gA ?_
      exact zac (v:=.int .i64 (-1)) (.inl rfl) rfl (by simp) endvP ⟨-1,rfl,by simp,rfl⟩
  · obtain ⟨x0,x1,x2,x3,x4,x5⟩:=bk' hb
    have wl:=zbk wayCs 5 (fun _=>rfl) ws
    have w1:=zfb wayCs 5 (fun _=>rfl) ws
    have HB:=hideP hb
    clear hb
    generalize ws.flatMap wayCs=cs at *
    simp only[zipI]
    refine gA ?_
    refine zan hC ws.length (by unfold fuelL;omega) (fun i st=>(ws.take i).any p=false∧st={ tm:=tmA 19 [(8,.int .i64 i),(7,.int .i64 ws.length),(1,.fn fl fa fb),(0,.sl b 0 ws.length 5)],df:=[],hp:=H,tc:=[] }) ?_ ?_ ?_
    · refine ⟨by simp,?_⟩
      (refine st_is ?_ ?_ ?_ ?_;(focus (simp[zag,zal]));(focus rfl);(focus (first|rfl|(simp;done)|(simp;rfl)));(focus rfl))
    · rintro i st hi ⟨hp,rfl⟩
      have hgi:ws[i]?=some ws[i]:=List.getElem?_eq_getElem hi
      have hwm:ws[i]∈ws:=List.getElem_mem hi
      generalize ws[i]=w at hgi hwm
      have e1:=w1 i w hgi
      have hFw:=hF w hwm
      have hwi:IntKind.i64.wrap (↑i+1)=↑i+1:=zaf (by omega) (by omega)
      have e4:i * 5+5≤ws.length * 5:=by omega
      have hnx:(ws.take (i+1)).any p=((ws.take i).any p || p w):=by rw[List.take_add_one,hgi];simp
      have hmem:p w=true→ws.any p=true:=fun h=>List.any_eq_true.2 ⟨w,hwm,h⟩
      have HN:=hideP (And.intro hnx (And.intro hmem hp))
      simp only[wayCs] at e1 hFw
      clear w1 hgi hwm hF hnx hmem hp
      cases hpw:p w with
      |true=>
        rw[hpw] at hFw
        refine gA ?_
        exact zac (v:=.int .i64 i) (.inl rfl) rfl (by simp) endvP ⟨i,rfl,by rw[HN.out.2.1 hpw];simp,rfl⟩
      |false=>
        rw[hpw] at hFw
        refine gA ?_
        refine ⟨by rw[HN.out.1,HN.out.2.2,hpw];rfl,?_⟩
        (refine st_is ?_ ?_ ?_ ?_;(focus (simp[zag,zal]));(focus rfl);(focus (first|rfl|(simp;done)|(simp;rfl)));(focus rfl))
    · rintro st ⟨hp,rfl⟩
      rw[List.take_length] at hp
      have HP:=hideP hp
      clear hp hF w1
      refine gA ?_
      exact zac (v:=.int .i64 (-1)) (.inl rfl) rfl (by simp) endvP ⟨-1,rfl,by rw[HP.out];simp,rfl⟩
def ContC (call:CallF)(call0:CallF):Prop:=∀ (H:List AB) (v:AV) (ws:List Rd.Way),WsV v H ws→ws.length≤1000→∀ (fl:Fn) (fa fb:List AV) (p:Rd.Way→Bool),(∀ w∈ws,call0 (.fn fl fa fb) [.agg (wayCs w)] H=some (.ret (.bool (p w)),H,[])) →
  call (.fn (.func 95) [] []) [v,.fn fl fa fb] H=some (.ret (.bool (ws.any p)),H,[])
theorem zvr (C:Cfg)(call call0:CallF)(hI:IndexC call call0)(H:List AB)(v:AV)(ws:List Rd.Way)(hv:WsV v H ws)(hl:ws.length≤1000)(fl:Fn)(fa fb:List AV)(p:Rd.Way→Bool)(hF:∀ w∈ws,call0 (.fn fl fa fb) [.agg (wayCs w)] H=some (.ret (.bool (p w)),H,[])):
    Does (ev C call H.length none af95.body { tm:=tmA af95.ntmps (zipI 0 [v,.fn fl fa fb] []),df:=[],hp:=H,tc:=[] })
      (Ends C H.length af95.res fun v _hp tc=>v=.bool (ws.any p)∧tc=[]):=by
  obtain ⟨k,h1,h2⟩:=hI H v ws hv hl fl fa fb p hF
  rw[← h2]
  clear h2 hF hv hI
  unfold af95 Zq Zm Zo Zc Zt Zn
  simp only[zipI]
  refine gA ?_
  exact zac (.inl rfl) rfl (by simp) (by simp only[resL,resOf,zaa];simp[*,resV]) ⟨rfl,rfl⟩
theorem way_ok {r:Rd.Road}(hr:Rd.Fine r){n:Nat}(hn:n<r.parts.length){ls:List Int}{k:Nat}{w:Rd.Way}(hw:w∈Rd.waysR r n ls k):TrOk w.part∧0≤w.first.lo∧w.first.lo≤w.first.hi∧w.first.hi≤60:=by
  obtain ⟨h1,h2,h3⟩:=(Rd.mem_ways r n ls k w).1 hw
  have hb:=Rd.firstT_bd hr hn w.part ls k r.events.length (Nat.le_refl _)
  rw[Rd.firstT_all,← h2] at hb
  exact ⟨tr_ok hr hn h1,hb.1,h3,hb.2⟩
def LeftC (call:CallF)(r:Rd.Road):Prop:=∀ (H:List AB) (xb mb eb:Nat),Rx r xb mb eb H→∀ w:Rd.Way,TrOk w.part→∀ h:Int,-1000≤h→h≤1000→∀ f,LdOk f→∀ days load:Int,LOk days load →
  call (.fn (.func 97) [] []) [.ptr xb 0,.agg [.int .i64 w.part.stiff,.int .i64 w.part.rise,.int .i64 w.part.full,.int .i64 w.first.lo,.int .i64 w.first.hi],.int .i64 h,.agg (arr10 f),.int .i64 days,.int .i64 load] H=some (.ret (.int .i64 (Rd.leftR r w h (lsOf r.events.length f) days load)),H,[])
theorem zsj (C:Cfg)(call:CallF)(r:Rd.Road)(hLf:LeftC call r)(H:List AB)(xb mb eb:Nat)(hX:Rx r xb mb eb H)(w:Rd.Way)(hp:TrOk w.part)(hw:0≤w.first.lo∧w.first.lo≤60)(f:Nat→Int)(hf:LdOk f)(days load:Int)(hL:LOk days load)(b1 b2 b3 b4:Nat)(h1:H[b1]?=some (.cells [.ptr xb 0]))(h2:H[b2]?=some (.cells (arr10 f)))(h3:H[b3]?=some (.cells [.int .i64 days]))(h4:H[b4]?=some (.cells [.int .i64 load])):
    Does (ev C call H.length none af96.body { tm:=tmA af96.ntmps (zipI 0 [.agg (wayCs w),.ptr b1 0,.ptr b2 0,.ptr b3 0,.ptr b4 0] []),df:=[],hp:=H,tc:=[] })
      (Ends C H.length af96.res fun v _hp tc=>v=.bool (decide (Rd.leftR r w w.first.lo (lsOf r.events.length f) days load<0))∧tc=[]):=by
  have hc:=fun K=>hLf (H++K) xb mb eb (hX.app K) w hp w.first.lo (by omega) (by omega) f hf days load hL
  obtain ⟨x0,x1,x2,x3,x4,x5⟩:=bk' h1
  obtain ⟨y0,y1,y2,y3,y4,y5⟩:=bk' h2
  obtain ⟨z0,z1,z2,z3,z4,z5⟩:=bk' h3
  obtain ⟨w0,w1,w2,w3,w4,w5⟩:=bk' h4
  have hl:=zbg f
  have hall:=zbs f
  generalize Rd.leftR r w w.first.lo (lsOf r.events.length f) days load=u at *
  clear hLf h1 h2 h3 h4 hX hp hw hf hL
  unfold af96 Zq Zm Zl Zo Zc Zt Zn
  generalize arr10 f=R at *
  simp only[zipI,wayCs] at *
  refine gA ?_
  exact zac (.inl rfl) rfl (by simp) (by simp only[resL,resOf,zaa];simp[*,resV]) ⟨rfl,rfl⟩
theorem zxx (C:Cfg)(call:CallF)(r:Rd.Road)(hLf:LeftC call r)(H:List AB)(xb mb eb:Nat)(hX:Rx r xb mb eb H)(w:Rd.Way)(hp:TrOk w.part)(hw:0≤w.first.hi∧w.first.hi≤60)(f:Nat→Int)(hf:LdOk f)(load:Int)(hL:LOk 0 load)(b1 b2 b4:Nat)(h1:H[b1]?=some (.cells [.ptr xb 0]))(h2:H[b2]?=some (.cells (arr10 f)))(h4:H[b4]?=some (.cells [.int .i64 load])):
    Does (ev C call H.length none af98.body { tm:=tmA af98.ntmps (zipI 0 [.agg (wayCs w),.ptr b1 0,.ptr b2 0,.ptr b4 0] []),df:=[],hp:=H,tc:=[] })
      (Ends C H.length af98.res fun v _hp tc=>v=.bool (decide (0≤Rd.leftR r w w.first.hi (lsOf r.events.length f) 0 load))∧tc=[]):=by
  have hc:=fun K=>hLf (H++K) xb mb eb (hX.app K) w hp w.first.hi (by omega) (by omega) f hf 0 load hL
  obtain ⟨x0,x1,x2,x3,x4,x5⟩:=bk' h1
  obtain ⟨y0,y1,y2,y3,y4,y5⟩:=bk' h2
  obtain ⟨w0,w1,w2,w3,w4,w5⟩:=bk' h4
  have hl:=zbg f
  have hall:=zbs f
  generalize Rd.leftR r w w.first.hi (lsOf r.events.length f) 0 load=u at *
  clear hLf h1 h2 h4 hX hp hw hf hL
  unfold af98 Zq Zm Zl Zo Zc Zt Zn
  generalize arr10 f=R at *
  simp only[zipI,wayCs] at *
  refine gA ?_
  exact zac (.inl rfl) rfl (by simp) (by simp only[resL,resOf,zaa];simp[*,resV]) ⟨rfl,rfl⟩
def Sure1C (call:CallF)(r:Rd.Road):Prop:=∀ (H:List AB) (xb mb eb:Nat),Rx r xb mb eb H→∀ w:Rd.Way,TrOk w.part→0≤w.first.lo∧w.first.lo≤60→∀ f,LdOk f→∀ days load:Int,LOk days load→∀ b1 b2 b3 b4:Nat,H[b1]?=some (.cells [.ptr xb 0])→H[b2]?=some (.cells (arr10 f))→H[b3]?=some (.cells [.int .i64 days])→H[b4]?=some (.cells [.int .i64 load]) →
  call (.fn (.func 96) [] [.ptr b1 0,.ptr b2 0,.ptr b3 0,.ptr b4 0]) [.agg (wayCs w)] H=some (.ret (.bool (decide (Rd.leftR r w w.first.lo (lsOf r.events.length f) days load<0))),H,[])
def May1C (call:CallF)(r:Rd.Road):Prop:=∀ (H:List AB) (xb mb eb:Nat),Rx r xb mb eb H→∀ w:Rd.Way,TrOk w.part→0≤w.first.hi∧w.first.hi≤60→∀ f,LdOk f→∀ load:Int,LOk 0 load→∀ b1 b2 b4:Nat,H[b1]?=some (.cells [.ptr xb 0])→H[b2]?=some (.cells (arr10 f))→H[b4]?=some (.cells [.int .i64 load]) →
  call (.fn (.func 98) [] [.ptr b1 0,.ptr b2 0,.ptr b4 0]) [.agg (wayCs w)] H=some (.ret (.bool (decide (0≤Rd.leftR r w w.first.hi (lsOf r.events.length f) 0 load))),H,[])
def lowW (r:Rd.Road)(days load:Int)(ls:List Int)(w:Rd.Way):Bool:=decide (Rd.leftR r w w.first.lo ls days load<0)
def badL (r:Rd.Road)(days load:Int)(ls:List Int)(i:Nat):Bool:=(Rd.waysR r i ls (Rd.everyR r)).any (lowW r days load ls)
theorem zsi (r:Rd.Road)(days load:Int):Rd.sureR r days load=(Rd.toldR r (Rd.everyR r)).all fun ls=>(List.range r.parts.length).all fun i=>!badL r days load ls i:=by
  unfold Rd.sureR badL lowW
  congr 1;funext ls
  congr 1;funext i
  rw[List.not_any_eq_all_not]
  congr 1;funext w
  by_cases h:0≤Rd.leftR r w w.first.lo ls days load
  · simp[h]<;>omega
  · simp[h]<;>omega
theorem zsh (C:Cfg)(hC:C.calm=true)(hwh:∀ f,C.whole f=true)(n0 n1 m:Nat)(r:Rd.Road)(hr:Rd.Fine r)(hTd:ToldC (Ev.call C m))(hI:ToldI C (n0+1) m r)(hE:EveryC (Ev.call C m) r)(hE0:EveryC (Ev.call C n0) r)(hW:WaysC (Ev.call C n0) r)(hCo:ContC (Ev.call C n0) (Ev.call C n1))(hS1:Sure1C (Ev.call C n1) r)(H:List AB)(xb mb eb:Nat)(hX:Rx r xb mb eb H)(days load:Int)(hL:LOk days load):
    Does (ev C (Ev.call C m) H.length none af51.body { tm:=tmA af51.ntmps (zipI 0 [.ptr xb 0,.int .i64 days,.int .i64 load] []),df:=[],hp:=H,tc:=[] })
      (Ends C H.length af51.res fun v hp tc=>v=.bool (Rd.sureR r days load)∧(∀ j∈tc,j=mb)∧Rx r xb mb eb hp):=by
  have hx:=hX.xl
  have hm:=hX.ml
  have he:=hX.el
  have hne:=hX.ne
  have hne2:=hX.ne2
  have hev:=fun K=>hE (H++K) xb _ _ (hX.app K).x
  unfold ToldC at hTd
  unfold af51 Zq Zm Zl Zo Zs Zd Zc Zt Zn Zi
  simp only[zipI]
  have HF:=hideP (And.intro hW (And.intro hE0 (And.intro hCo hS1)))
  clear hW hE hE0 hCo hS1
  refine gE ?_
  refine zbz hC hwh (hI xb mb eb (H.length+4) (H.length+5) (Rd.everyR r)) (by simp[zab]) rfl [H.length+3] (by simp) (by simp;omega)
    (fun d W G=>W=[]∧G[H.length+3]?=some (.cells [.bool false])∧∀ ls∈d,∀ i,i<r.parts.length→badL r days load ls i=false) (fun e d G=>e=.ret∧(∃ ls∈d,∃ i,i<r.parts.length∧badL r days load ls i=true)∧G[H.length+3]?=some (.cells [.bool false])) (fun rz=>?_) (fun G G' h k=>h.same fun j hj=>k j (by simp;omega) (by simp;omega))
    (fun rz=>⟨rfl,by simp,by simp⟩) (fun rz=>(hX.app _).app _) (fun d W G G' h _ k=>?_) (fun e d G G' h k=>?_) ?_ ?_ ?_
  · refine ⟨by simp,by simp,?_,?_,by omega,by omega,?_,?_,by simp;omega⟩<;>(simp;omega)
  · simp only[List.length_append,List.length_cons,List.length_nil,Nat.zero_add,Nat.add_assoc,Nat.reduceAdd] at k
    exact ⟨h.1,(k _ (get_lt h.2.1) (.inl (by omega)) (by simp;omega) (by omega)).trans h.2.1,h.2.2⟩
  · simp only[List.length_append,List.length_cons,List.length_nil,Nat.zero_add,Nat.add_assoc,Nat.reduceAdd] at k
    exact ⟨h.1,h.2.1,(k _ (by omega) (by omega)).trans h.2.2⟩
  · rintro d s W G rz hpr ⟨rfl,hJ3,hJ⟩ hY hK hl hWb
    simp only[List.length_append,List.length_cons,List.length_nil,Nat.zero_add,Nat.add_assoc,Nat.reduceAdd] at hl ⊢
    rw[setP1]
    obtain ⟨hW,hE0,hCo,hS1⟩:=HF.out
    have hst:s∈Rd.toldR r (Rd.everyR r):=hpr.subset (by simp)
    obtain ⟨hs,hsw⟩:=Rd.told_in hst
    obtain ⟨hld,hls⟩:=all_ld hr hs
    have hRl:=zbg (fnOf s)
    have hRp:=zcr (fnOf s)
    have hRa:=zbs (fnOf s)
    obtain ⟨R,hR⟩:∃ R,R=arr10 (fnOf s):=⟨_,rfl⟩
    rw[← hR] at hRl hRp hRa
    simp only[ldA,← hR]
    have HR0:=hideP hR
    clear hR
    refine gA ?_
    refine ⟨trivial,?_,?_⟩
    · rw[List.getElem?_append_left (by omega)]
    obtain ⟨G2,hG2,k1,k2,k3,k4⟩:=zdg (G:=G++[.cells R]) (l:=H.length+7) (.loop rz) (by simp;omega)
    rw[← hG2]
    clear hG2
    have j3:∀ {j x},G[j]?=some x→j≠H.length+7→G2[j]?=some x:=fun {j x} hx hj=>by rw[k3 _ hj,List.getElem?_append_left (get_lt hx)];exact hx
    have e0:=j3 (hK.at (b:=H.length) (x:=.cells [.ptr xb 0]) (by simp) (by simp;omega)) (by omega)
    have e1:=j3 (hK.at (b:=H.length+1) (x:=.cells [.int .i64 days]) (by simp) (by simp;omega)) (by omega)
    have e2:=j3 (hK.at (b:=H.length+2) (x:=.cells [.int .i64 load]) (by simp) (by simp;omega)) (by omega)
    have e5:G2[G.length]?=some (.cells R):=by rw[k3 _ (by omega)];simp
    have e6:=j3 hJ3 (by omega)
    have kl2:G2.length=G.length+1:=by rw[k1];simp
    have hX2:Rx r xb mb eb G2:=(hY.app _).kp k4 (by simp;omega) (by simp;omega) (by simp;omega)
    obtain ⟨Inv,hInv⟩:∃ Inv:List AB→List Nat→Prop,∀ hp tc,Inv hp tc↔(Kp [mb] G2 hp∧Rx r xb mb eb hp∧∀ j∈tc,j=mb∨j=H.length+7):=⟨fun hp tc=>_,fun hp tc=>Iff.rfl⟩
    have hI0:Inv G2 [H.length+7]:=(hInv _ _).2 ⟨Kp.refl _ _,hX2,by simp⟩
    have hR:=HR0.out
    have hround:∀ hp tc,Inv hp tc→∀ i,i<r.parts.length→Bk hp H.length (.cells [.ptr xb 0])∧Bk hp G.length (.cells R)∧Bk hp (H.length+3) (.cells [.bool false])∧(∃ w z,Bk hp xb (.cells (roadCs r++[w,z])))∧(∀ K,Ev.call C n0 (.fn (.func 57) [] []) [.ptr xb 0] (hp++K)=some (.ret (.int .u64 ((Rd.everyR r:Nat):Int)),hp++K,[]))∧Ev.call C n0 (.fn (.func 57) [] []) [.ptr xb 0] hp=some (.ret (.int .u64 ((Rd.everyR r:Nat):Int)),hp,[])∧∃ v H' tc',Ev.call C n0 (.fn (.func 58) [] []) [.ptr xb 0,.int .i64 i,.agg R,.int .u64 ((Rd.everyR r:Nat):Int)] hp=some (.ret v,H',tc')∧Inv H' (tc'.filter (·<G.length)++tc)∧(∀ j∈tc',j=mb)∧H'[H.length+7]?=some (.loop rz)∧Bk H' (H.length+3) (.cells [.bool false])∧Ev.call C n0 (.fn (.func 95) [] []) [v,.fn (.func 96) [] [.ptr H.length 0,.ptr G.length 0,.ptr (H.length+1) 0,.ptr (H.length+2) 0]] H'=some (.ret (.bool (badL r days load s i)),H',[]):=by
      intro hp tc h i hi
      obtain ⟨q1,q2,q3⟩:=(hInv _ _).1 h
      obtain ⟨v,H',tc',w1,w2,w3,w4,w5⟩:=hW hp xb mb eb q2 i hi (fnOf s) hld (Rd.everyR r)
      have w3':Kp [mb] G2 H':=q1.trans (w3.mono fun j _ h=>by simpa using w2 j h)
      have w6:=w5.ws
      rw[hls] at w6
      have hcc:=hCo H' v _ w6 (Nat.le_trans (zdy hr hi _ _) (by decide)) (.func 96) [] [.ptr H.length 0,.ptr G.length 0,.ptr (H.length+1) 0,.ptr (H.length+2) 0] (lowW r days load s) fun w hw=>by
        obtain ⟨o1,o2,o3,o4⟩:=way_ok hr hi hw
        have:=hS1 H' xb mb eb w4 w o1 ⟨o2,by omega⟩ (fnOf s) hld days load hL H.length G.length (H.length+1) (H.length+2) (w3'.at e0 (by simp;omega)) (by rw[← hR];exact w3'.at e5 (by simp;omega)) (w3'.at e1 (by simp;omega)) (w3'.at e2 (by simp;omega))
        rw[hls] at this
        exact this
      rw[← hR] at w1
      refine ⟨bk' (q1.at e0 (by simp;omega)),bk' (q1.at e5 (by simp;omega)),bk' (q1.at e6 (by simp;omega)),⟨_,_,bk' q2.x⟩,fun K=>hE0 _ xb _ _ (q2.app K).x,hE0 _ xb _ _ q2.x,v,H',tc',w1,(hInv _ _).2 ⟨w3',w4,fun j hj=>?_⟩,w2,w3'.at k2 (by simp;omega),bk' (w3'.at e6 (by simp;omega)),hcc⟩
      rcases List.mem_append.1 hj with h|h
      · exact .inl (w2 j (List.mem_filter.1 h).1)
      · exact q3 j h
    have hnp:=hr.parts
    have HR:=hideP hround
    have HB3:=hideP (show ∀ hp tc,Inv hp tc→hp[H.length+3]?=some (.cells [.bool false]) from fun hp tc h=>((hInv _ _).1 h).1.at e6 (by simp;omega))
    have HE:=hideP (And.intro hInv (And.intro hJ (And.intro k2 hl)))
    obtain ⟨⟨x0,x1,x2,x3,x4,x5⟩,_,_,⟨w9,z9,u0,u1,u2,u3,u4,u5⟩,_⟩:=hround _ _ hI0 0 (by omega)
    clear hround hR hInv hJ hJ3 k2 hl hW hE0 hCo hS1 hst hs hsw hld hls hK hY hpr hWb k1 k3 k4 j3 e0 e1 e2 e5 e6 kl2 hX2 hTd hI hev hX
    simp only[roadCs,List.cons_append,List.nil_append] at u1 u2 u4 u5
    refine gA ?_
    with_reducible refine zan hC r.parts.length (by unfold fuelL;omega) (fun i st=>∃ hp tc,Inv hp tc∧(∀ x,x<i→badL r days load s x=false)∧st={ tm:=tmA 32 [(20,.int .i64 i),(19,.int .i64 r.parts.length),(7,.ptr G.length 0),(6,.ptr (H.length+3) 0),(5,.ptr (H.length+2) 0),(4,.ptr (H.length+1) 0),(3,.ptr H.length 0)],df:=[],hp:=hp,tc:=tc }) ?_ ?_ ?_
    · refine ⟨_,_,hI0,by simp,?_⟩
      (refine st_is ?_ ?_ ?_ ?_;(focus (simp[zag,zal]));(focus rfl);(focus (first|rfl|(simp;done)|(simp;rfl)));(focus rfl))
    · clear hI0 x0 x1 x2 x3 x4 x5 u0 u1 u2 u3 u4 u5
      rintro i st hi ⟨hp,tc,hV,hgood,rfl⟩
      obtain ⟨⟨x0,x1,x2,x3,x4,x5⟩,⟨y0,y1,y2,y3,y4,y5⟩,⟨s0,s1,s2,s3,s4,s5⟩,⟨w9,z9,u0,u1,u2,u3,u4,u5⟩,hv1,hv2,v,H',tc',c1,c2,c3,c4,⟨t0,t1,t2,t3,t4,t5⟩,c6⟩:=HR.out _ _ hV i hi
      simp only[roadCs,List.cons_append,List.nil_append] at u1 u2 u4 u5
      have hwi:IntKind.i64.wrap (↑i+1)=↑i+1:=zaf (by omega) (by omega)
      have HV:=hideP (And.intro hgood (And.intro c2 (And.intro c3 c4)))
      clear hV hgood c2 c3 c4
      cases hb:badL r days load s i with
      |false=>
        rw[hb] at c6
        refine gE ?_
        have hn:∀ x,x<i+1→badL r days load s x=false:=fun x hx=>by
          by_cases h:x=i
          · rw[h];exact hb
          · exact HV.out.1 x (by omega)
        with_reducible refine ⟨_,_,HV.out.2.1,hn,?_⟩
        (refine st_is ?_ ?_ ?_ ?_;(focus (simp[zag,zal]));(focus rfl);(focus (first|rfl|(simp;done)|(simp;rfl)));(focus rfl))
      |true=>
        rw[hb] at c6
        have h99:¬ H.length+3=H.length+7:=by omega
        refine gE ?_
        obtain ⟨hgood,c2,c3,c4⟩:=HV.out
        obtain ⟨hInv,hJ,k2,hl⟩:=HE.out
        obtain ⟨q1,q2,q3⟩:=(hInv _ _).1 c2
        have k:Kp [H.length+3] H' (H'.set (H.length+3) (.cells [.bool false])):=(Kp.refl _ _).set _ _ (by simp)
        refine ⟨by simp,k.at c4 (by simp),fun j hj=>?_,q2.kp k (by simp;omega) (by simp;omega) (by simp;omega),(fun h=>by cases h),fun _=>⟨rfl,⟨s,by simp,i,hi,hb⟩,by rw[List.getElem?_set_self t0]⟩,fun _ _ h=>h.elim⟩
        simp only[List.mem_append,List.mem_cons,List.not_mem_nil,or_false] at hj ⊢
        rcases hj with h|h
        · first|exact .inr (.inl h)|exact .inr (.inl (by simpa using (List.mem_filter.1 h).1))
        · rcases q3 j (by first|exact h|exact List.mem_append.2 h) with h|h
          · exact .inr (.inr h)
          · exact .inl h
    · clear hI0 x0 x1 x2 x3 x4 x5 u0 u1 u2 u3 u4 u5
      rintro st ⟨hp,tc,hV,hgood,rfl⟩
      have HV:=hideP (And.intro hV hgood)
      clear hV hgood
      refine gA ?_
      obtain ⟨hV,hgood⟩:=HV.out
      obtain ⟨hInv,hJ,k2,hl⟩:=HE.out
      obtain ⟨q1,q2,q3⟩:=(hInv _ _).1 hV
      refine ⟨by simp,q1.at k2 (by simp;omega),fun j hj=>?_,q2,fun _=>⟨[],by simp,rfl,HB3.out _ _ hV,fun ls hls=>?_⟩,fun h=>absurd rfl h,fun _ _ h=>h.elim⟩
      · rcases q3 j hj with h|h
        · exact .inr (.inr (.inl (by simp[h])))
        · exact .inl h
      · rcases List.mem_append.1 hls with h|h
        · exact hJ ls h
        · simp at h;subst h;exact hgood
  · rintro H' tc W h1 h2 h3 h4 h5 h6 ⟨rfl,h8,h7⟩
    simp only[List.length_append,List.length_cons,List.length_nil,Nat.zero_add,Nat.add_assoc,Nat.reduceAdd,List.append_nil] at h1 h4 h5 ⊢
    simp only[OutB,Then]
    have hc:Rd.sureR r days load=true:=by
      rw[zsi,List.all_eq_true]
      intro ls hls
      rw[List.all_eq_true]
      intro i hi
      rw[h7 ls hls i (by simpa using hi)];rfl
    rw[hc]
    obtain ⟨g0,g1,g2,g3,g4,g5⟩:=bk' h8
    have HA:=hideP (And.intro h1 h3)
    have HD:=hideP h4
    clear h1 h2 h3 h4 h6 h7 h8 hTd hI hX hev hc
    refine gA ?_
    obtain ⟨h1,h3⟩:=HA.out
    refine zbn (v:=.bool true) (.inl rfl) rfl (by simp only;rw[List.getElem?_set_ne (by omega)];exact HD.out) (by omega) (by simp;omega) (by simp only[resL,resOf,zaa];simp[resV,pickC,g0]) ⟨rfl,fun j hj=>?_,h3.kp (((Kp.refl [H.length+3,H.length+6] H').set _ _ (by simp)).set _ _ (by simp)) (by simp;omega) (by simp;omega) (by simp;omega)⟩
    simp at hj
    have:=h1 j (by first|exact hj.1|(rcases hj with h|h;exact h.1;exact h.1)) (by omega)
    simp at this
    omega
  · rintro e d H' tc h0 h1 h2 h3 h4 h5 h6 ⟨rfl,⟨ls,hls,i,hi,hb⟩,h9⟩
    simp only[List.length_append,List.length_cons,List.length_nil,Nat.zero_add,Nat.add_assoc,Nat.reduceAdd,List.append_nil] at h1 h4 h5 ⊢
    simp only[OutB,Then]
    have hc:Rd.sureR r days load=false:=by
      rw[zsi,List.all_eq_false]
      refine ⟨ls,h6.subset hls,?_⟩
      rw[Bool.not_eq_true,List.all_eq_false]
      exact ⟨i,by simpa using hi,by rw[hb];decide⟩
    rw[hc]
    refine zbn (v:=.bool false) (.inl rfl) rfl h4 (by omega) (by simp;omega) (by simp only[resL,resOf,zaa];simp[resV,pickC,List.getElem?_set_ne,h9]) ⟨rfl,fun j hj=>?_,h3.kp ((Kp.refl [H.length+6] H').set _ _ (by simp)) (by simp;omega) (by simp;omega) (by simp;omega)⟩
    simp at hj
    have:=h1 j (by first|exact hj.1|(rcases hj with h|h;exact h.1;exact h.1)) (by omega)
    simp at this
    omega
def highW (r:Rd.Road)(load:Int)(ls:List Int)(w:Rd.Way):Bool:=decide (0≤Rd.leftR r w w.first.hi ls 0 load)
def okP (r:Rd.Road)(load:Int)(ls:List Int)(i:Nat):Bool:=(Rd.waysR r i ls (Rd.everyR r)).any (highW r load ls)
def okM (r:Rd.Road)(load:Int)(ls:List Int):Bool:=(List.range r.parts.length).all fun i=>okP r load ls i
theorem may_eq (r:Rd.Road)(load:Int):Rd.mayR r load=(Rd.toldR r (Rd.everyR r)).any (okM r load):=rfl
theorem zxw (C:Cfg)(hC:C.calm=true)(hwh:∀ f,C.whole f=true)(n0 n1 m:Nat)(r:Rd.Road)(hr:Rd.Fine r)(hTd:ToldC (Ev.call C m))(hI:ToldI C (n0+1) m r)(hE:EveryC (Ev.call C m) r)(hE0:EveryC (Ev.call C n0) r)(hW:WaysC (Ev.call C n0) r)(hCo:ContC (Ev.call C n0) (Ev.call C n1))(hS1:May1C (Ev.call C n1) r)(H:List AB)(xb mb eb:Nat)(hX:Rx r xb mb eb H)(load:Int)(hL:LOk 0 load):
    Does (ev C (Ev.call C m) H.length none af52.body { tm:=tmA af52.ntmps (zipI 0 [.ptr xb 0,.int .i64 load] []),df:=[],hp:=H,tc:=[] })
      (Ends C H.length af52.res fun v hp tc=>v=.bool (Rd.mayR r load)∧(∀ j∈tc,j=mb)∧Rx r xb mb eb hp):=by
  have hx:=hX.xl
  have hm:=hX.ml
  have he:=hX.el
  have hne:=hX.ne
  have hne2:=hX.ne2
  have hev:=fun K=>hE (H++K) xb _ _ (hX.app K).x
  unfold ToldC at hTd
  unfold af52 Zq Zm Zl Zo Zs Zd Zc Zt Zn Zi
  simp only[zipI]
  have HF:=hideP (And.intro hW (And.intro hE0 (And.intro hCo hS1)))
  clear hW hE hE0 hCo hS1
  refine gE ?_
  refine zbz hC hwh (hI xb mb eb (H.length+3) (H.length+4) (Rd.everyR r)) (by simp[zab]) rfl [H.length+2] (by simp) (by simp;omega)
    (fun d W G=>W=[]∧G[H.length+2]?=some (.cells [.bool false])∧∀ ls∈d,okM r load ls=false) (fun e d G=>e=.ret∧(∃ ls∈d,okM r load ls=true)∧G[H.length+2]?=some (.cells [.bool true])) (fun rz=>?_) (fun G G' h k=>h.same fun j hj=>k j (by simp;omega) (by simp;omega))
    (fun rz=>⟨rfl,by simp,by simp⟩) (fun rz=>(hX.app _).app _) (fun d W G G' h _ k=>?_) (fun e d G G' h k=>?_) ?_ ?_ ?_
  · refine ⟨by simp,by simp,?_,?_,by omega,by omega,?_,?_,by simp;omega⟩<;>(simp;omega)
  · simp only[List.length_append,List.length_cons,List.length_nil,Nat.zero_add,Nat.add_assoc,Nat.reduceAdd] at k
    exact ⟨h.1,(k _ (get_lt h.2.1) (.inl (by omega)) (by simp;omega) (by omega)).trans h.2.1,h.2.2⟩
  · simp only[List.length_append,List.length_cons,List.length_nil,Nat.zero_add,Nat.add_assoc,Nat.reduceAdd] at k
    exact ⟨h.1,h.2.1,(k _ (by omega) (by omega)).trans h.2.2⟩
  · rintro d s W G rz hpr ⟨rfl,hJ3,hJ⟩ hY hK hl hWb
    simp only[List.length_append,List.length_cons,List.length_nil,Nat.zero_add,Nat.add_assoc,Nat.reduceAdd] at hl ⊢
    rw[setP1]
    obtain ⟨hW,hE0,hCo,hS1⟩:=HF.out
    have hst:s∈Rd.toldR r (Rd.everyR r):=hpr.subset (by simp)
    obtain ⟨hs,hsw⟩:=Rd.told_in hst
    obtain ⟨hld,hls⟩:=all_ld hr hs
    have hRl:=zbg (fnOf s)
    have hRp:=zcr (fnOf s)
    have hRa:=zbs (fnOf s)
    obtain ⟨R,hR⟩:∃ R,R=arr10 (fnOf s):=⟨_,rfl⟩
    rw[← hR] at hRl hRp hRa
    simp only[ldA,← hR]
    have HR0:=hideP hR
    clear hR
    refine gA ?_
    refine ⟨trivial,?_,?_⟩
    · rw[List.getElem?_append_left (by omega)]
    obtain ⟨G2,hG2,k1,k2,k3,k4⟩:=zdg (G:=G++[.cells R]) (l:=H.length+6) (.loop rz) (by simp;omega)
    rw[← hG2]
    clear hG2
    have j3:∀ {j x},G[j]?=some x→j≠H.length+6→G2[j]?=some x:=fun {j x} hx hj=>by rw[k3 _ hj,List.getElem?_append_left (get_lt hx)];exact hx
    have e0:=j3 (hK.at (b:=H.length) (x:=.cells [.ptr xb 0]) (by simp) (by simp;omega)) (by omega)
    have e2:=j3 (hK.at (b:=H.length+1) (x:=.cells [.int .i64 load]) (by simp) (by simp;omega)) (by omega)
    have e5:G2[G.length]?=some (.cells R):=by rw[k3 _ (by omega)];simp
    have e6:=j3 hJ3 (by omega)
    have kl2:G2.length=G.length+1:=by rw[k1];simp
    have hX2:Rx r xb mb eb G2:=(hY.app _).kp k4 (by simp;omega) (by simp;omega) (by simp;omega)
    obtain ⟨Inv,hInv⟩:∃ Inv:List AB→List Nat→Prop,∀ hp tc,Inv hp tc↔(Kp [mb] G2 hp∧Rx r xb mb eb hp∧∀ j∈tc,j=mb∨j=H.length+6):=⟨fun hp tc=>_,fun hp tc=>Iff.rfl⟩
    have hI0:Inv G2 [H.length+6]:=(hInv _ _).2 ⟨Kp.refl _ _,hX2,by simp⟩
    have hR:=HR0.out
    have hround:∀ hp tc,Inv hp tc→∀ i,i<r.parts.length→Bk hp H.length (.cells [.ptr xb 0])∧Bk hp G.length (.cells R)∧Bk hp (H.length+2) (.cells [.bool false])∧(∃ w z,Bk hp xb (.cells (roadCs r++[w,z])))∧(∀ K,Ev.call C n0 (.fn (.func 57) [] []) [.ptr xb 0] (hp++K)=some (.ret (.int .u64 ((Rd.everyR r:Nat):Int)),hp++K,[]))∧Ev.call C n0 (.fn (.func 57) [] []) [.ptr xb 0] hp=some (.ret (.int .u64 ((Rd.everyR r:Nat):Int)),hp,[])∧∃ v H' tc',Ev.call C n0 (.fn (.func 58) [] []) [.ptr xb 0,.int .i64 i,.agg R,.int .u64 ((Rd.everyR r:Nat):Int)] hp=some (.ret v,H',tc')∧Inv H' (tc'.filter (·<G.length)++tc)∧(∀ j∈tc',j=mb)∧H'[H.length+6]?=some (.loop rz)∧Bk H' (H.length+2) (.cells [.bool false])∧Ev.call C n0 (.fn (.func 95) [] []) [v,.fn (.func 98) [] [.ptr H.length 0,.ptr G.length 0,.ptr (H.length+1) 0]] H'=some (.ret (.bool (okP r load s i)),H',[]):=by
      intro hp tc h i hi
      obtain ⟨q1,q2,q3⟩:=(hInv _ _).1 h
      obtain ⟨v,H',tc',w1,w2,w3,w4,w5⟩:=hW hp xb mb eb q2 i hi (fnOf s) hld (Rd.everyR r)
      have w3':Kp [mb] G2 H':=q1.trans (w3.mono fun j _ h=>by simpa using w2 j h)
      have w6:=w5.ws
      rw[hls] at w6
      have hcc:=hCo H' v _ w6 (Nat.le_trans (zdy hr hi _ _) (by decide)) (.func 98) [] [.ptr H.length 0,.ptr G.length 0,.ptr (H.length+1) 0] (highW r load s) fun w hw=>by
        obtain ⟨o1,o2,o3,o4⟩:=way_ok hr hi hw
        have:=hS1 H' xb mb eb w4 w o1 ⟨by omega,o4⟩ (fnOf s) hld load hL H.length G.length (H.length+1) (w3'.at e0 (by simp;omega)) (by rw[← hR];exact w3'.at e5 (by simp;omega)) (w3'.at e2 (by simp;omega))
        rw[hls] at this
        exact this
      rw[← hR] at w1
      refine ⟨bk' (q1.at e0 (by simp;omega)),bk' (q1.at e5 (by simp;omega)),bk' (q1.at e6 (by simp;omega)),⟨_,_,bk' q2.x⟩,fun K=>hE0 _ xb _ _ (q2.app K).x,hE0 _ xb _ _ q2.x,v,H',tc',w1,(hInv _ _).2 ⟨w3',w4,fun j hj=>?_⟩,w2,w3'.at k2 (by simp;omega),bk' (w3'.at e6 (by simp;omega)),hcc⟩
      rcases List.mem_append.1 hj with h|h
      · exact .inl (w2 j (List.mem_filter.1 h).1)
      · exact q3 j h
    have hnp:=hr.parts
    have HR:=hideP hround
    have HB3:=hideP (show ∀ hp tc,Inv hp tc→hp[H.length+2]?=some (.cells [.bool false]) from fun hp tc h=>((hInv _ _).1 h).1.at e6 (by simp;omega))
    have HE:=hideP (And.intro hInv (And.intro hJ (And.intro k2 hl)))
    obtain ⟨⟨x0,x1,x2,x3,x4,x5⟩,_,_,⟨w9,z9,u0,u1,u2,u3,u4,u5⟩,_⟩:=hround _ _ hI0 0 (by omega)
    clear hround hR hInv hJ hJ3 k2 hl hW hE0 hCo hS1 hst hs hsw hld hls hK hY hpr hWb k1 k3 k4 j3 e0 e2 e5 e6 kl2 hX2 hTd hI hev hX
    simp only[roadCs,List.cons_append,List.nil_append] at u1 u2 u4 u5
    refine gA ?_
    with_reducible refine zan hC r.parts.length (by unfold fuelL;omega) (fun i st=>∃ hp tc,Inv hp tc∧(∀ x,x<i→okP r load s x=true)∧st={ tm:=tmA 31 [(18,.int .i64 i),(17,.int .i64 r.parts.length),(5,.ptr G.length 0),(4,.ptr (H.length+2) 0),(3,.ptr (H.length+1) 0),(2,.ptr H.length 0)],df:=[],hp:=hp,tc:=tc }) ?_ ?_ ?_
    · refine ⟨_,_,hI0,by simp,?_⟩
      (refine st_is ?_ ?_ ?_ ?_;(focus (simp[zag,zal]));(focus rfl);(focus (first|rfl|(simp;done)|(simp;rfl)));(focus rfl))
    · clear hI0 x0 x1 x2 x3 x4 x5 u0 u1 u2 u3 u4 u5
      rintro i st hi ⟨hp,tc,hV,hgood,rfl⟩
      obtain ⟨⟨x0,x1,x2,x3,x4,x5⟩,⟨y0,y1,y2,y3,y4,y5⟩,⟨s0,s1,s2,s3,s4,s5⟩,⟨w9,z9,u0,u1,u2,u3,u4,u5⟩,hv1,hv2,v,H',tc',c1,c2,c3,c4,⟨t0,t1,t2,t3,t4,t5⟩,c6⟩:=HR.out _ _ hV i hi
      simp only[roadCs,List.cons_append,List.nil_append] at u1 u2 u4 u5
      have hwi:IntKind.i64.wrap (↑i+1)=↑i+1:=zaf (by omega) (by omega)
      have HV:=hideP (And.intro hgood (And.intro c2 (And.intro c3 c4)))
      clear hV hgood c2 c3 c4
      cases hb:okP r load s i with
      |true=>
        rw[hb] at c6
        refine gE ?_
        have hn:∀ x,x<i+1→okP r load s x=true:=fun x hx=>by
          by_cases h:x=i
          · rw[h];exact hb
          · exact HV.out.1 x (by omega)
        with_reducible refine ⟨_,_,HV.out.2.1,hn,?_⟩
        (refine st_is ?_ ?_ ?_ ?_;(focus (simp[zag,zal]));(focus rfl);(focus (first|rfl|(simp;done)|(simp;rfl)));(focus rfl))
      |false=>
        rw[hb] at c6
        refine gE ?_
        obtain ⟨hgood,c2,c3,c4⟩:=HV.out
        obtain ⟨hInv,hJ,k2,hl⟩:=HE.out
        obtain ⟨q1,q2,q3⟩:=(hInv _ _).1 c2
        have hno:okM r load s=false:=by
          unfold okM
          rw[List.all_eq_false]
          exact ⟨i,by simpa using hi,by rw[hb];decide⟩
        refine ⟨by simp,c4,fun j hj=>?_,q2,fun _=>⟨[],by simp,rfl,t1,fun ls hls=>?_⟩,fun h=>absurd rfl h,fun _ _ h=>h.elim⟩
        · rcases q3 j hj with h|h
          · exact .inr (.inr (.inl (by simp[h])))
          · exact .inl h
        · rcases List.mem_append.1 hls with h|h
          · exact hJ ls h
          · simp at h;subst h;exact hno
    · clear hI0 x0 x1 x2 x3 x4 x5 u0 u1 u2 u3 u4 u5
      rintro st ⟨hp,tc,hV,hgood,rfl⟩
      have HV:=hideP (And.intro hV hgood)
      obtain ⟨s0,s1,s2,s3,s4,s5⟩:=bk' (HB3.out _ _ hV)
      have h99:¬ H.length+2=H.length+6:=by omega
      clear hV hgood
      refine gA ?_
      obtain ⟨hV,hgood⟩:=HV.out
      obtain ⟨hInv,hJ,k2,hl⟩:=HE.out
      obtain ⟨q1,q2,q3⟩:=(hInv _ _).1 hV
      have hyes:okM r load s=true:=by
        unfold okM
        rw[List.all_eq_true]
        intro x hx
        exact hgood x (by simpa using hx)
      have k:Kp [H.length+2] hp (hp.set (H.length+2) (.cells [.bool true])):=(Kp.refl _ _).set _ _ (by simp)
      refine ⟨by simp,k.at (q1.at k2 (by simp;omega)) (by simp),fun j hj=>?_,q2.kp k (by simp;omega) (by simp;omega) (by simp;omega),(fun h=>by cases h),fun _=>⟨rfl,⟨s,by simp,hyes⟩,by rw[List.getElem?_set_self s0]⟩,fun _ _ h=>h.elim⟩
      simp only[List.mem_append,List.mem_cons,List.not_mem_nil,or_false] at hj ⊢
      rcases hj with h|h
      · first|exact .inr (.inl h)|exact .inr (.inl (by simpa using (List.mem_filter.1 h).1))
      · rcases q3 j h with h|h
        · exact .inr (.inr h)
        · exact .inl h
  · rintro H' tc W h1 h2 h3 h4 h5 h6 ⟨rfl,h8,h7⟩
    simp only[List.length_append,List.length_cons,List.length_nil,Nat.zero_add,Nat.add_assoc,Nat.reduceAdd,List.append_nil] at h1 h4 h5 ⊢
    simp only[OutB,Then]
    have hc:Rd.mayR r load=false:=by
      rw[may_eq,List.any_eq_false]
      intro ls hls
      rw[h7 ls hls];decide
    rw[hc]
    obtain ⟨g0,g1,g2,g3,g4,g5⟩:=bk' h8
    have HA:=hideP (And.intro h1 h3)
    have HD:=hideP h4
    clear h1 h2 h3 h4 h6 h7 h8 hTd hI hX hev hc
    refine gA ?_
    obtain ⟨h1,h3⟩:=HA.out
    refine zbn (v:=.bool false) (.inl rfl) rfl (by simp only;rw[List.getElem?_set_ne (by omega)];exact HD.out) (by omega) (by simp;omega) (by simp only[resL,resOf,zaa];simp[resV,pickC,g0]) ⟨rfl,fun j hj=>?_,h3.kp (((Kp.refl [H.length+2,H.length+5] H').set _ _ (by simp)).set _ _ (by simp)) (by simp;omega) (by simp;omega) (by simp;omega)⟩
    simp at hj
    have:=h1 j (by first|exact hj.1|(rcases hj with h|h;exact h.1;exact h.1)) (by omega)
    simp at this
    omega
  · rintro e d H' tc h0 h1 h2 h3 h4 h5 h6 ⟨rfl,⟨ls,hls,hb⟩,h9⟩
    simp only[List.length_append,List.length_cons,List.length_nil,Nat.zero_add,Nat.add_assoc,Nat.reduceAdd,List.append_nil] at h1 h4 h5 ⊢
    simp only[OutB,Then]
    have hc:Rd.mayR r load=true:=by
      rw[may_eq,List.any_eq_true]
      exact ⟨ls,h6.subset hls,hb⟩
    rw[hc]
    refine zbn (v:=.bool true) (.inl rfl) rfl h4 (by omega) (by simp;omega) (by simp only[resL,resOf,zaa];simp[resV,pickC,List.getElem?_set_ne,h9]) ⟨rfl,fun j hj=>?_,h3.kp ((Kp.refl [H.length+5] H').set _ _ (by simp)) (by simp;omega) (by simp;omega) (by simp;omega)⟩
    simp at hj
    have:=h1 j (by first|exact hj.1|(rcases hj with h|h;exact h.1;exact h.1)) (by omega)
    simp at this
    omega
def IsSpanC (call:CallF):Prop:=∀ (H:List AB) (s:Clm.Sp) (a b w:Int),-1000000≤a→b≤1000000→call (.fn (.func 90) [] []) [.agg [.int .i64 s.lo,.int .i64 s.hi],.int .i64 a,.int .i64 b,.int .i64 w] H=some (.ret (.bool (Rd.isSpan s a b w)),H,[])
def IsPartC (call:CallF)(r:Rd.Road):Prop:=∀ (H:List AB) (xb:Nat) (w z:AV),H[xb]?=some (.cells (roadCs r++[w,z]))→∀ n:Int,call (.fn (.func 32) [] []) [.ptr xb 0,.int .i64 n] H=some (.ret (.bool (Rd.isPart r n)),H,[])
def ifCs (v:Rd.Evt):List AV:=[ifA v]
theorem zgz (l:List Rd.Evt):l.flatMap ifCs=l.map ifA:=by
  induction l with
  |nil=>rfl
  |cons a l ih=>rw[List.flatMap_cons,ih];rfl
def OpenQ (r:Rd.Road)(is:Bool)(H:List AB)(x:CRes)(hp:List AB)(tc:List Nat):Prop:=
  tc=[]∧((Rd.valid r=false∧x=.pan (stopV 1))∨(Rd.valid r=true∧is=false∧x=.pan (stopV 2))∨(Rd.valid r=true∧is=true∧∃ xb mb eb,x=.ret (.ptr xb 0)∧Kp [] H hp∧Rx r xb mb eb hp∧H.length≤xb∧H.length≤mb∧H.length≤eb))
def headOk (r:Rd.Road):Bool:=decide (1≤r.parts.length∧r.parts.length≤4)&&decide (r.events.length≤10)
theorem zmy (r:Rd.Road):Rd.valid r=(headOk r&&r.parts.all Rd.okPart&&r.events.all (Rd.okEvt r)&&decide ((r.events.filter Rd.doubt).length≤4)):=rfl
theorem zii {r:Rd.Road}{i:Nat}{v:Rd.Evt}(hv:r.events[i]?=some v):((r.events.take (i+1)).filter Rd.doubt).length=((r.events.take i).filter Rd.doubt).length+if Rd.doubt v then 1 else 0:=by
  rw[List.take_add_one,hv]
  simp only[Option.toList_some,List.filter_append,List.length_append,List.filter_cons,List.filter_nil]
  split<;>simp
theorem ztu (C:Cfg)(hC:C.calm=true)(call:CallF)(hM:MustC call)(hS:IsSpanC call)(hWi:WithinC call)(r:Rd.Road)(hP:r.parts.length≤4→IsPartC call r)(hbig:r.parts.length≤1000000∧r.events.length≤1000000)(H:List AB)(F:AV)(is:Bool)(hF:Rd.valid r=true→∀ G xb mb eb,Kp [] H G→Rx r xb mb eb G→call F [.ptr xb 0] G=some (.ret (.bool is),G,[])):
    Does (ev C call H.length none af30.body { tm:=tmA af30.ntmps (zipI 0 [.agg (roadCs r),F] []),df:=[],hp:=H,tc:=[] })
      (Fin C H.length af30 (OpenQ r is H)):=by
  have hmt:=hM.t
  have hmf:=hM.f
  have hw1:=fun H=>hWi H (r.parts.length:Int) 1 4
  have hv:=zmy r
  unfold headOk at hv
  unfold af30 Zq Zm Zl Zo Zs Zd Ze Zc Zt Zn Zi
  simp only[zipI,roadCs]
  have hbigX:=hbig
  have HH:=hideP (And.intro hF (And.intro hbig (And.intro hWi (And.intro hS hP))))
  clear hF hWi hS hP
  by_cases h1:1≤r.parts.length∧r.parts.length≤4
  · have h1':(1:Int)≤r.parts.length∧(r.parts.length:Int)≤4:=by omega
    rw[decide_eq_true h1'] at hw1
    rw[decide_eq_true h1] at hv
    by_cases h3:r.events.length≤10
    · have h3':(r.events.length:Int)≤10:=by omega
      rw[decide_eq_true h3] at hv
      simp only[Bool.true_and] at hv
      have HV:=hideP hv
      clear hv
      refine gD ?_
      clear hw1
      have hpb:=hbigX.1
      have he10:(r.events.length:Int)≤1000:=by omega
      with_reducible refine zan hC r.parts.length (by unfold fuelL;omega) (fun i st=>∃ J,(∀ j p,j<i→r.parts[j]?=some p→Rd.okPart p=true)∧st={ tm:=tmA 151 [(26,.int .i64 i),(25,.int .i64 r.parts.length),(24,.vs 7 (r.parts.map ptE)),(5,.fn (.func 90) [] []),(2,.ptr H.length 0),(1,F)],df:=[],hp:=H++.cells [.vs 7 (r.parts.map ptE),.vs 7 (r.events.map evE)]::J,tc:=[] }) ?_ ?_ ?_
      · refine ⟨[],by simp,?_⟩
        (refine st_is ?_ ?_ ?_ ?_;(focus (simp[zag,zal]));(focus rfl);(focus (first|rfl|(simp;done)|(simp;rfl)));(focus rfl))
      · rintro i st hi ⟨J,hok,rfl⟩
        obtain ⟨_,_,hWi,hS,_⟩:=HH.out
        have hgp:r.parts[i]?=some r.parts[i]:=List.getElem?_eq_getElem hi
        generalize r.parts[i]=p at hgp
        have hgp':=ge_of hgp
        have hwi:IntKind.i64.wrap (↑i+1)=↑i+1:=zaf (by omega) (by omega)
        have hbad:Rd.okPart p=false→Rd.valid r=false:=fun h=>by
          rw[HV.out]
          have:r.parts.all Rd.okPart=false:=by
            rw[List.all_eq_false]
            exact ⟨p,List.mem_of_getElem? hgp,by rw[h];decide⟩
          rw[this];simp
        have hnext:Rd.okPart p=true→∀ j q,j<i+1→r.parts[j]?=some q→Rd.okPart q=true:=by
          intro ho j q hj hq
          by_cases h:j=i
          · subst h;rw[hgp] at hq;cases hq;exact ho
          · exact hok j q (by omega) hq
        have hw1:=fun H=>hWi H p.full 0 60
        have hok4:Rd.okPart p=(decide (0≤p.full∧p.full≤60)&&Rd.isSpan p.height 0 p.full 2&&Rd.isSpan p.stiff 1 10 2&&Rd.isSpan p.rise 0 5 2):=rfl
        have HB:=hideP (And.intro hbad (And.intro hnext hok4))
        clear hbad hnext hok4 hok hWi
        cases hb1:decide (0≤p.full∧p.full≤60) with
        |false=>
          rw[hb1] at hw1
          have hev:Rd.valid r=false:=HB.out.1 (by rw[HB.out.2.2,hb1];rfl)
          have HE:=hideP hev
          clear hev hb1 hS hgp
          refine gM ?_
          exact zbw rfl (by simp) ⟨rfl,.inl ⟨HE.out,rfl⟩⟩
        |true=>
          rw[hb1] at hw1
          have hf60:=of_decide_eq_true hb1
          have hs2:=fun H=>hS H p.height 0 p.full 2 (by decide) (by omega)
          cases hb2:Rd.isSpan p.height 0 p.full 2 with
          |false=>
            rw[hb2] at hs2
            have hev:Rd.valid r=false:=HB.out.1 (by rw[HB.out.2.2,hb2];simp)
            have HE:=hideP hev
            clear hev hb1 hb2 hS hgp hf60
            refine gM ?_
            exact zbw rfl (by simp) ⟨rfl,.inl ⟨HE.out,rfl⟩⟩
          |true=>
            rw[hb2] at hs2
            have hs3:=fun H=>hS H p.stiff 1 10 2 (by decide) (by decide)
            cases hb3:Rd.isSpan p.stiff 1 10 2 with
            |false=>
              rw[hb3] at hs3
              have hev:Rd.valid r=false:=HB.out.1 (by rw[HB.out.2.2,hb3];simp)
              have HE:=hideP hev
              clear hev hb1 hb2 hb3 hS hgp hf60
              refine gM ?_
              exact zbw rfl (by simp) ⟨rfl,.inl ⟨HE.out,rfl⟩⟩
            |true=>
              rw[hb3] at hs3
              have hs4:=fun H=>hS H p.rise 0 5 2 (by decide) (by decide)
              cases hb4:Rd.isSpan p.rise 0 5 2 with
              |false=>
                rw[hb4] at hs4
                have hev:Rd.valid r=false:=HB.out.1 (by rw[HB.out.2.2,hb4];simp)
                have HE:=hideP hev
                clear hev hb1 hb2 hb3 hb4 hS hgp hf60
                refine gM ?_
                exact zbw rfl (by simp) ⟨rfl,.inl ⟨HE.out,rfl⟩⟩
              |true=>
                rw[hb4] at hs4
                have hn:=HB.out.2.1 (by rw[HB.out.2.2,hb1,hb2,hb3,hb4];rfl)
                have HN:=hideP hn
                clear hn hb1 hb2 hb3 hb4 hS hgp hf60
                refine gM ?_
                with_reducible refine ⟨?_,HN.out,?_⟩
                rotate_left
                (refine st_is ?_ ?_ ?_ ?_;(focus (simp[zag,zal]));(focus rfl);(focus (first|rfl|(simp;done)|(simp;rfl)));(focus rfl))
      · rintro st ⟨J,hok,rfl⟩
        have hall:r.parts.all Rd.okPart=true:=by
          rw[List.all_eq_true]
          intro p hp
          obtain ⟨j,hj⟩:=List.mem_iff_getElem?.1 hp
          exact hok j p (List.getElem?_eq_some_iff.1 hj).1 hj
        have hv:=HV.out
        rw[hall,Bool.true_and] at hv
        clear hok hall HV
        obtain ⟨hF,_,hWi,hS,hP⟩:=HH.out
        have hPi:=hP h1.2
        clear HH hP
        obtain ⟨C0,hC0⟩:∃ C0:AB,C0=.cells [.vs 7 (r.parts.map ptE),.vs 7 (r.events.map evE)]:=⟨_,rfl⟩
        obtain ⟨G,hG⟩:∃ G,G=H++C0::J:=⟨_,rfl⟩
        have h0:G[H.length]?=some (.cells [.vs 7 (r.parts.map ptE),.vs 7 (r.events.map evE)]):=by rw[hG,hC0];simp
        have hKG:Kp [] H G:=by rw[hG];exact Kp.app _ _
        rw[← hC0,← hG]
        obtain ⟨f0,f1,f2,f3,f4,f5⟩:=bk' h0
        have nG:∀ n,¬ G.length+n<H.length:=by omega
        have nG0:¬ G.length<H.length:=by omega
        have HX:=hideP (And.intro hF (And.intro hWi (And.intro hS (And.intro hPi (And.intro hv hKG)))))
        clear hF hWi hS hPi hv hKG hG hC0 J h0
        refine gD ?_
        obtain ⟨hF,hWi,hS,hPi,hv,hKG⟩:=HX.out
        obtain ⟨G3,hG3⟩:∃ G3,G3=G++[.map [],.cells [.vs 7 (r.parts.map ptE),.vs 7 (r.events.map evE),.nils,.map G.length]]:=⟨_,rfl⟩
        have hI0:G3[G.length+1]?=some (.cells [.vs 7 (r.parts.map ptE),.vs 7 (r.events.map evE),.nils,.map G.length])∧G3[G.length]?=some (.map [])∧Kp [] H G3:=⟨by rw[hG3];simp,by rw[hG3];simp,by rw[hG3];exact hKG.trans (Kp.app _ _)⟩
        have hlG:H.length<G.length:=f0
        clear hF hWi hS hPi hv hKG f0 f1 f2 f3 f4 f5 nG nG0
        have hsame:G++[.map [],.cells [.vs 7 (r.parts.map ptE),.vs 7 (r.events.map evE),.nils,.map G.length]]=G3:=hG3.symm
        clear hG3
        with_reducible refine zan hC r.events.length (by unfold fuelL;omega) (fun i st=>∃ hp W lv,Gl ifCs 1 (G.length+2) hp W (r.events.take i) lv∧hp[G.length+1]?=some (.cells [.vs 7 (r.parts.map ptE),.vs 7 (r.events.map evE),lv,.map G.length])∧hp[G.length]?=some (.map [])∧Kp [] H hp∧(∀ j v,j<i→r.events[j]?=some v→Rd.okEvt r v=true)∧st={ tm:=tmA 151 [(62,.int .i64 i),(61,.int .i64 r.events.length),(60,.vs 7 (r.events.map evE)),(9,.int .i64 ((r.events.take i).filter Rd.doubt).length),(8,.ptr (G.length+1) 0),(5,.fn (.func 90) [] []),(1,F)],df:=[],hp:=hp,tc:=[] }) ?_ ?_ ?_
        · refine ⟨G3,[],.nils,.none,hI0.1,hI0.2.1,hI0.2.2,by simp,?_⟩
          rw[hsame]
          refine st_is ?_ rfl rfl rfl
          simp[zag,zal]
        · clear hI0 hsame
          rintro i st hi ⟨hp,W,lv,hGl,hx,hmp,hKp,hok,rfl⟩
          obtain ⟨_,hWi,hS,hPi,hv,_⟩:=HX.out
          have hgv:r.events[i]?=some r.events[i]:=List.getElem?_eq_getElem hi
          generalize r.events[i]=v at hgv
          have hgv':=ge_of hgv
          have hwi:IntKind.i64.wrap (↑i+1)=↑i+1:=zaf (by omega) (by omega)
          have hbad:Rd.okEvt r v=false→Rd.valid r=false:=fun h=>by
            rw[hv]
            have:r.events.all (Rd.okEvt r)=false:=by
              rw[List.all_eq_false]
              exact ⟨v,List.mem_of_getElem? hgv,by rw[h];decide⟩
            rw[this];rfl
          have hnext:Rd.okEvt r v=true→∀ j q,j<i+1→r.events[j]?=some q→Rd.okEvt r q=true:=by
            intro ho j q hj hq
            by_cases h:j=i
            · subst h;rw[hgv] at hq;cases hq;exact ho
            · exact hok j q (by omega) hq
          have hds:=zii hgv
          have hcl:((r.events.take i).filter Rd.doubt).length≤i:=Nat.le_trans (List.length_filter_le _ _) (by simp;omega)
          have htk:r.events.take (i+1)=r.events.take i++[v]:=by rw[List.take_add_one,hgv];rfl
          obtain ⟨x0,x1,x2,x3,x4,x5⟩:=bk' hx
          obtain ⟨m0,m1,m2,m3,m4,m5⟩:=bk' hmp
          have hpi:=fun K=>hPi (hp++K) (G.length+1) lv (.map G.length) (by rw[List.getElem?_append_left x0];exact hx) v.part
          have nG0:¬ hp.length<H.length:=by have:=hKp.len;omega
          have nG:∀ n,¬ hp.length+n<H.length:=by have:=hKp.len;omega
          have hone:∀ hp' nb,hp'[G.length+1]?=some (.cells [.vs 7 (r.parts.map ptE),.vs 7 (r.events.map evE),.sl nb 0 (i+1) 1,.map G.length])→hp'[G.length]?=some (.map [])→Kp [] H hp'→hp'[nb]?=some (.cells ((r.events.take i).map ifA++[ifA v]))→G.length+2≤nb→Rd.okEvt r v=true→∀ st':St,(∃ tm,st'=⟨tm,[],hp',[]⟩∧tm=tmA 151 [(62,.int .i64 ((i+1:Nat):Int)),(61,.int .i64 r.events.length),(60,.vs 7 (r.events.map evE)),(9,.int .i64 ((r.events.take (i+1)).filter Rd.doubt).length),(8,.ptr (G.length+1) 0),(5,.fn (.func 90) [] []),(1,F)])→∃ hp W lv,Gl ifCs 1 (G.length+2) hp W (r.events.take (i+1)) lv∧hp[G.length+1]?=some (.cells [.vs 7 (r.parts.map ptE),.vs 7 (r.events.map evE),lv,.map G.length])∧hp[G.length]?=some (.map [])∧Kp [] H hp∧(∀ j v,j<i+1→r.events[j]?=some v→Rd.okEvt r v=true)∧st'={ tm:=tmA 151 [(62,.int .i64 ((i+1:Nat):Int)),(61,.int .i64 r.events.length),(60,.vs 7 (r.events.map evE)),(9,.int .i64 ((r.events.take (i+1)).filter Rd.doubt).length),(8,.ptr (G.length+1) 0),(5,.fn (.func 90) [] []),(1,F)],df:=[],hp:=hp,tc:=[] }:=by
            rintro hp' nb k1 k2 k3 k4 k5 k6 st' ⟨tm,rfl,rfl⟩
            refine ⟨hp',[nb],_,?_,k1,k2,k3,hnext k6,rfl⟩
            have:=Gl.some (f:=ifCs) (k:=1) (lo:=G.length+2) (G:=hp') nb (r.events.take (i+1)) k5 (by rw[zgz,htk,List.map_append];exact k4) (by rw[htk];simp)
            have hlen:(r.events.take (i+1)).length=i+1:=by simp;omega
            rw[hlen] at this
            exact this
          have hlen0:(r.events.take i).length=i:=by simp;omega
          have HO:=hideP hone
          have HB:=hideP hbad
          have HD:=hideP (And.intro hds htk)
          have HK:=hideP hKp
          have HGl:=hideP hGl
          clear hone hbad hds hKp hGl hnext htk hok hx hmp hv hPi
          by_cases hk0:v.kind=0
          · have hs:=fun H=>hS H v.load 0 60 2 (by decide) (by decide)
            clear hS hWi hpi
            have hok0:Rd.okEvt r v=Rd.isSpan v.load 0 60 2:=by unfold Rd.okEvt;rw[if_pos hk0]
            cases hb:Rd.isSpan v.load 0 60 2 with
            |false=>
              rw[hb] at hs hok0
              have HE:=hideP (HB.out hok0)
              clear hok0 hb
              refine gN ?_
              exact zbw rfl (by simp;omega) ⟨rfl,.inl ⟨HE.out,rfl⟩⟩
            |true=>
              rw[hb] at hs hok0
              have hsp:=(Rd.isSpan_iff _ _ _ _).1 hb
              have hw1:IntKind.i64.wrap (v.load.hi - v.load.lo)=v.load.hi - v.load.lo:=zaf (by omega) (by omega)
              obtain ⟨dv,hdv1,hdv2,hdv3⟩:∃ dv:Nat,min 1 (v.load.hi - v.load.lo)=(dv:Int)∧dv≤1∧((r.events.take (i+1)).filter Rd.doubt).length=((r.events.take i).filter Rd.doubt).length+dv:=by
                by_cases hlt:v.load.lo<v.load.hi
                · exact ⟨1,by omega,Nat.le_refl _,by rw[HD.out.1];simp[Rd.doubt,hk0,hlt]⟩
                · exact ⟨0,by omega,by omega,by rw[HD.out.1];simp[Rd.doubt,hlt]⟩
              have hw2:IntKind.i64.wrap ((((r.events.take i).filter Rd.doubt).length:Int)+dv)=(((r.events.take i).filter Rd.doubt).length:Int)+dv:=zaf (by omega) (by omega)
              have hif:=ifA_0 hk0
              have HQ:=hideP (And.intro hok0 (And.intro hif hdv3))
              clear hok0 hif hdv3 hb hsp
              generalize hcnt:((r.events.take i).filter Rd.doubt).length=cnt at *
              have hb1:1≤bound:=by decide
              have hGl:=HGl.out
              obtain ⟨tt,htt⟩:∃ tt,tt=r.events.take i:=⟨_,rfl⟩
              rw[← htt] at hGl
              have HT:=hideP (And.intro htt hlen0)
              clear htt hlen0 HGl
              cases hGl with
              |none=>
                refine gK ?_
                have hi0:i=0:=by rw[← HT.out.2,← HT.out.1];rfl
                have htt:=HT.out.1
                obtain ⟨hok0,hif,hdv3⟩:=HQ.out
                refine HO.out _ (hp.length+2) ?_ ?_ ?_ ?_ (by omega) hok0 _ ⟨_,st_is rfl rfl rfl ?_,?_⟩
                · rw[List.getElem?_append_left (by simpa using x0),List.getElem?_set_self x0,hi0]
                · rw[List.getElem?_append_left (by simpa using m0),List.getElem?_set_ne (by omega)];exact m1
                · exact ((HK.out.set _ _ (by omega))).trans (Kp.app _ _)
                · rw[List.getElem?_append_right (by simp),← htt,hif];simp
                · simp;omega
                · rw[hdv3];simp[zag,zal]
              |some bl _ g1 g2 g3=>
                obtain ⟨q0,q1,q2,q3,q4,q5⟩:=bk' g2
                have hbb:¬ bl=G.length+1:=by omega
                have hbb2:¬ G.length+1=bl:=by omega
                have hlt:tt.length=i:=by rw[HT.out.1];exact HT.out.2
                have hbn:i+1≤bound:=by unfold bound;omega
                have hcl2:=zbk ifCs 1 (fun _=>rfl) tt
                have hcp:=zcg ifCs (fun e=>by unfold ifCs ifA;split<;>(try split)<;>rfl) tt
                have HC:=hideP (And.intro g1 g3)
                clear g1 g2 g3
                generalize hcs:tt.flatMap ifCs=cs at *
                have HC2:=hideP hcs
                clear hcs
                refine gK ?_
                have htt:=HT.out.1
                obtain ⟨hok0,hif,hdv3⟩:=HQ.out
                obtain ⟨g1,g3⟩:=HC.out
                have hcs:=HC2.out
                rw[zgz,htt] at hcs
                refine HO.out _ (hp.length+2) ?_ ?_ ?_ ?_ (by omega) hok0 _ ⟨_,st_is rfl rfl rfl ?_,?_⟩
                · rw[List.getElem?_append_left (by simpa using x0),List.getElem?_set_self (by simpa using x0)]
                · rw[List.getElem?_append_left (by simpa using m0),List.getElem?_set_ne (by omega),List.getElem?_set_ne (by omega)];exact m1
                · exact (((HK.out.set _ _ (by omega)).set _ _ (by omega))).trans (Kp.app _ _)
                · rw[List.getElem?_append_right (by simp),hif,hcs];simp
                · simp;omega
                · rw[hdv3];simp[zag,zal]
          · have hk0b:(v.kind==0)=false:=by simpa using hk0
            have hd0:((r.events.take (i+1)).filter Rd.doubt).length=((r.events.take i).filter Rd.doubt).length:=by rw[HD.out.1];simp[Rd.doubt,hk0]
            by_cases hk1:v.kind=1
            · have hs:=fun H=>hWi H v.days 1 10
              clear hS hWi hpi
              have hok1:Rd.okEvt r v=decide (1≤v.days∧v.days≤10):=by unfold Rd.okEvt;rw[if_neg hk0,if_pos hk1]
              cases hb:decide (1≤v.days∧v.days≤10) with
              |false=>
                rw[hb] at hs hok1
                have HE:=hideP (HB.out hok1)
                clear hok1 hb hd0
                refine gN ?_
                exact zbw rfl (by simp;omega) ⟨rfl,.inl ⟨HE.out,rfl⟩⟩
              |true=>
                rw[hb] at hs hok1
                have hif:=ifA_1 hk1
                have HQ:=hideP (And.intro hok1 (And.intro hif hd0))
                clear hok1 hif hd0 hb
                generalize hcnt:((r.events.take i).filter Rd.doubt).length=cnt at *
                have hb1:1≤bound:=by decide
                have hGl:=HGl.out
                obtain ⟨tt,htt⟩:∃ tt,tt=r.events.take i:=⟨_,rfl⟩
                rw[← htt] at hGl
                have HT:=hideP (And.intro htt hlen0)
                clear htt hlen0 HGl
                cases hGl with
                |none=>
                  refine gK ?_
                  have hi0:i=0:=by rw[← HT.out.2,← HT.out.1];rfl
                  have htt:=HT.out.1
                  obtain ⟨hok0,hif,hdv3⟩:=HQ.out
                  refine HO.out _ (hp.length+2) ?_ ?_ ?_ ?_ (by omega) hok0 _ ⟨_,st_is rfl rfl rfl ?_,?_⟩
                  · rw[List.getElem?_append_left (by simpa using x0),List.getElem?_set_self x0,hi0]
                  · rw[List.getElem?_append_left (by simpa using m0),List.getElem?_set_ne (by omega)];exact m1
                  · exact ((HK.out.set _ _ (by omega))).trans (Kp.app _ _)
                  · rw[List.getElem?_append_right (by simp),← htt,hif];simp
                  · simp;omega
                  · rw[hdv3];simp[zag,zal]
                |some bl _ g1 g2 g3=>
                  obtain ⟨q0,q1,q2,q3,q4,q5⟩:=bk' g2
                  have hbb:¬ bl=G.length+1:=by omega
                  have hbb2:¬ G.length+1=bl:=by omega
                  have hlt:tt.length=i:=by rw[HT.out.1];exact HT.out.2
                  have hbn:i+1≤bound:=by unfold bound;omega
                  have hcl2:=zbk ifCs 1 (fun _=>rfl) tt
                  have hcp:=zcg ifCs (fun e=>by unfold ifCs ifA;split<;>(try split)<;>rfl) tt
                  have HC:=hideP (And.intro g1 g3)
                  clear g1 g2 g3
                  generalize hcs:tt.flatMap ifCs=cs at *
                  have HC2:=hideP hcs
                  clear hcs
                  refine gK ?_
                  have htt:=HT.out.1
                  obtain ⟨hok0,hif,hdv3⟩:=HQ.out
                  obtain ⟨g1,g3⟩:=HC.out
                  have hcs:=HC2.out
                  rw[zgz,htt] at hcs
                  refine HO.out _ (hp.length+2) ?_ ?_ ?_ ?_ (by omega) hok0 _ ⟨_,st_is rfl rfl rfl ?_,?_⟩
                  · rw[List.getElem?_append_left (by simpa using x0),List.getElem?_set_self (by simpa using x0)]
                  · rw[List.getElem?_append_left (by simpa using m0),List.getElem?_set_ne (by omega),List.getElem?_set_ne (by omega)];exact m1
                  · exact (((HK.out.set _ _ (by omega)).set _ _ (by omega))).trans (Kp.app _ _)
                  · rw[List.getElem?_append_right (by simp),hif,hcs];simp
                  · simp;omega
                  · rw[hdv3];simp[zag,zal]
            · have hk1b:(v.kind==1)=false:=by simpa using hk1
              have hs:=fun H=>hS H v.shows (-1000) 1000 2000 (by decide) (by decide)
              clear hS hWi
              have hok2:Rd.okEvt r v=(decide (v.kind=2)&&Rd.isPart r v.part&&Rd.isSpan v.shows (-1000) 1000 2000):=by unfold Rd.okEvt;rw[if_neg hk0,if_neg hk1];rfl
              by_cases hk2:v.kind=2
              · rw[decide_eq_true hk2,Bool.true_and] at hok2
                cases hb1:Rd.isPart r v.part with
                |false=>
                  rw[hb1] at hpi hok2
                  have HE:=hideP (HB.out hok2)
                  clear hok2 hb1 hd0
                  refine gN ?_
                  exact zbw rfl (by simp;omega) ⟨rfl,.inl ⟨HE.out,rfl⟩⟩
                |true=>
                  rw[hb1] at hpi hok2
                  cases hb:Rd.isSpan v.shows (-1000) 1000 2000 with
                  |false=>
                    rw[hb] at hs hok2
                    have HE:=hideP (HB.out hok2)
                    clear hok2 hb hb1 hd0
                    refine gN ?_
                    exact zbw rfl (by simp;omega) ⟨rfl,.inl ⟨HE.out,rfl⟩⟩
                  |true=>
                    rw[hb] at hs hok2
                    have hif:=ifA_2 hk2
                    have HQ:=hideP (And.intro hok2 (And.intro hif hd0))
                    clear hok2 hif hd0 hb hb1
                    generalize hcnt:((r.events.take i).filter Rd.doubt).length=cnt at *
                    have hb1:1≤bound:=by decide
                    have hGl:=HGl.out
                    obtain ⟨tt,htt⟩:∃ tt,tt=r.events.take i:=⟨_,rfl⟩
                    rw[← htt] at hGl
                    have HT:=hideP (And.intro htt hlen0)
                    clear htt hlen0 HGl
                    cases hGl with
                    |none=>
                      refine gK ?_
                      have hi0:i=0:=by rw[← HT.out.2,← HT.out.1];rfl
                      have htt:=HT.out.1
                      obtain ⟨hok0,hif,hdv3⟩:=HQ.out
                      refine HO.out _ (hp.length+2) ?_ ?_ ?_ ?_ (by omega) hok0 _ ⟨_,st_is rfl rfl rfl ?_,?_⟩
                      · rw[List.getElem?_append_left (by simpa using x0),List.getElem?_set_self x0,hi0]
                      · rw[List.getElem?_append_left (by simpa using m0),List.getElem?_set_ne (by omega)];exact m1
                      · exact ((HK.out.set _ _ (by omega))).trans (Kp.app _ _)
                      · rw[List.getElem?_append_right (by simp),← htt,hif];simp
                      · simp;omega
                      · rw[hdv3];simp[zag,zal]
                    |some bl _ g1 g2 g3=>
                      obtain ⟨q0,q1,q2,q3,q4,q5⟩:=bk' g2
                      have hbb:¬ bl=G.length+1:=by omega
                      have hbb2:¬ G.length+1=bl:=by omega
                      have hlt:tt.length=i:=by rw[HT.out.1];exact HT.out.2
                      have hbn:i+1≤bound:=by unfold bound;omega
                      have hcl2:=zbk ifCs 1 (fun _=>rfl) tt
                      have hcp:=zcg ifCs (fun e=>by unfold ifCs ifA;split<;>(try split)<;>rfl) tt
                      have HC:=hideP (And.intro g1 g3)
                      clear g1 g2 g3
                      generalize hcs:tt.flatMap ifCs=cs at *
                      have HC2:=hideP hcs
                      clear hcs
                      refine gK ?_
                      have htt:=HT.out.1
                      obtain ⟨hok0,hif,hdv3⟩:=HQ.out
                      obtain ⟨g1,g3⟩:=HC.out
                      have hcs:=HC2.out
                      rw[zgz,htt] at hcs
                      refine HO.out _ (hp.length+2) ?_ ?_ ?_ ?_ (by omega) hok0 _ ⟨_,st_is rfl rfl rfl ?_,?_⟩
                      · rw[List.getElem?_append_left (by simpa using x0),List.getElem?_set_self (by simpa using x0)]
                      · rw[List.getElem?_append_left (by simpa using m0),List.getElem?_set_ne (by omega),List.getElem?_set_ne (by omega)];exact m1
                      · exact (((HK.out.set _ _ (by omega)).set _ _ (by omega))).trans (Kp.app _ _)
                      · rw[List.getElem?_append_right (by simp),hif,hcs];simp
                      · simp;omega
                      · rw[hdv3];simp[zag,zal]
              · have hk2b:(v.kind==2)=false:=by simpa using hk2
                rw[decide_eq_false hk2] at hok2
                have HE:=hideP (HB.out hok2)
                clear hok2 hd0
                refine gN ?_
                exact zbw rfl (by simp;omega) ⟨rfl,.inl ⟨HE.out,rfl⟩⟩
        · clear hI0 hsame
          rintro st ⟨hp,W,lv,hGl,hx,hmp,hKp,hok,rfl⟩
          obtain ⟨hF,_,_,_,hv,_⟩:=HX.out
          rw[List.take_length] at hGl ⊢
          have hall:r.events.all (Rd.okEvt r)=true:=by
            rw[List.all_eq_true]
            intro v hv'
            obtain ⟨j,hj⟩:=List.mem_iff_getElem?.1 hv'
            exact hok j v (List.getElem?_eq_some_iff.1 hj).1 hj
          rw[hall,Bool.true_and] at hv
          have hl:=hKp.len
          by_cases hd:(r.events.filter Rd.doubt).length≤4
          · rw[decide_eq_true hd] at hv
            obtain ⟨eb,hRx,heb⟩:∃ eb,Rx r (G.length+1) G.length eb hp∧H.length≤eb:=by
              have hel:=evL
              by_cases hn:r.events=[]
              · refine ⟨G.length+1,⟨by omega,by omega,?_,fun h=>absurd hn h,get_lt hx,[],hmp,by intro p hp;cases hp⟩,by omega⟩
                have:lv=.nils:=by
                  rw[hn] at hGl
                  cases hGl with
                  |none=>rfl
                  |some _ _ _ _ h=>exact absurd rfl h
                rw[hx,this]
                simp[roadCs,evL,hn]
              · generalize hev:r.events=ev' at *
                cases hGl with
                |none=>exact absurd rfl hn
                |some b _ g1 g2 g3=>
                  refine ⟨b,⟨by omega,by omega,?_,fun _=>?_,get_lt g2,[],hmp,by intro p hp;cases hp⟩,by omega⟩
                  · rw[hx]
                    simp[roadCs,evL,hev,hn]
                  · rw[g2,zgz,hev]
            have hF2:=hF hv hp (G.length+1) G.length eb hKp hRx
            have HQ:=hideP (And.intro hv (And.intro hKp (And.intro hRx heb)))
            have hd':((r.events.filter Rd.doubt).length:Int)≤4:=by omega
            clear hF hv hKp hok hRx heb HX hGl hx hmp hall
            generalize (r.events.filter Rd.doubt).length=cnt at *
            cases is with
            |false=>
              refine gD ?_
              exact zbw rfl (by simp;omega) ⟨rfl,.inr (.inl ⟨HQ.out.1,rfl,rfl⟩)⟩
            |true=>
              refine gD ?_
              obtain ⟨k1,k2,k3,k4⟩:=HQ.out
              exact zmg (v:=.ptr (G.length+1) 0) (.inl rfl) rfl (by simp;omega) (by simp only[resL,resOf,zaa];simp[*,resV]) ⟨rfl,.inr (.inr ⟨k1,rfl,_,_,eb,rfl,k2,k3,by omega,by omega,k4⟩)⟩
          · rw[decide_eq_false hd] at hv
            have HQ:=hideP hv
            have hd':¬ ((r.events.filter Rd.doubt).length:Int)≤4:=by omega
            clear hF hv hKp hok HX hGl hx hmp hall hd
            generalize (r.events.filter Rd.doubt).length=cnt at *
            refine gD ?_
            exact zbw rfl (by simp;omega) ⟨rfl,.inl ⟨HQ.out,rfl⟩⟩
    · have h3':¬ (r.events.length:Int)≤10:=by omega
      rw[decide_eq_false h3] at hv
      have HV:=hideP hv
      clear hv
      refine gD ?_
      exact zbw rfl (by simp) ⟨rfl,.inl ⟨by rw[HV.out];rfl,rfl⟩⟩
  · have h1':¬ ((1:Int)≤r.parts.length∧(r.parts.length:Int)≤4):=by omega
    rw[decide_eq_false h1'] at hw1
    rw[decide_eq_false h1] at hv
    have HV:=hideP hv
    clear hv
    refine gD ?_
    exact zbw rfl (by simp) ⟨rfl,.inl ⟨by rw[HV.out];rfl,rfl⟩⟩
theorem zcn (N:Nat):∀ (ds:List Nat) (l:List (Nat × AV)),forget ds (tmA N l)=tmA N (ds.foldl (fun a t=>(t,AV.unk)::a) l)
  |[],_=>rfl
  |t::ds,l=>zcn N ds ((t,AV.unk)::l)
theorem zdr {C:Cfg}{n f:Nat}{fn:AFunc}{first captured args:List AV}{H:List AB}{v0:AV}(hc:C.calm=true)(hwh:∀ f,C.whole f=true)(h0:Has C f fn)(hlen:(first++args++captured).length≤fn.ntmps)(hv:refs v0=[]){r:Rd.Road}{xb mb eb:Nat}(hX:Rx r xb mb eb H)
    (h:Does (ev C (Ev.call C n) H.length none fn.body { tm:=tmA fn.ntmps (zipI 0 (first++args++captured) []),df:=[],hp:=H,tc:=[] }) (Ends C H.length fn.res fun v hp tc=>v=v0∧(∀ j∈tc,j=mb)∧Rx r xb mb eb hp)):
    ∃ H' tc,Ev.call C (n+1) (.fn (.func f) first captured) args H=some (.ret v0,H',tc)∧(∀ j∈tc,j=mb)∧Kp tc H H'∧Rx r xb mb eb H':=by
  obtain ⟨v,hp,tc,H',c1,⟨rfl,c2,c3⟩,c4,c5,c6,c7⟩:=zcw hc hwh h0 hlen h
  refine ⟨H',tc,c1,c2,c5,?_⟩
  by_cases ht:tc=[]
  · rw[c7 hv ht];exact hX
  · rw[c6 (.inr ht)];exact c3
def CanC (call:CallF)(r:Rd.Road):Prop:=∀ (H:List AB) (xb mb eb:Nat),Rx r xb mb eb H→∀ looks:Nat,∃ H' tc,call (.fn (.func 73) [] []) [.ptr xb 0,.int .u64 looks] H=some (.ret (.bool (Rd.canR r looks)),H',tc)∧(∀ j∈tc,j=mb)∧Kp tc H H'∧Rx r xb mb eb H'
def KnownC (call:CallF)(r:Rd.Road):Prop:=∀ (H:List AB) (xb mb eb:Nat),Rx r xb mb eb H →
  ∃ H' tc,(∀ j∈tc,j=mb)∧Kp tc H H'∧Rx r xb mb eb H'∧call (.fn (.func 34) [] []) [.ptr xb 0] H=some (if Rd.canR r (Rd.everyR r) then .ret (.ptr xb 0) else .pan (.iface 114 (.agg [.int .i64 10])),H',tc)
theorem zqc (C:Cfg)(call:CallF)(hM:MustC call)(r:Rd.Road)(hE:EveryC call r)(hCa:CanC call r)(H:List AB)(xb mb eb:Nat)(hX:Rx r xb mb eb H):
    Does (ev C call H.length none af34.body { tm:=tmA af34.ntmps (zipI 0 [.ptr xb 0] []),df:=[],hp:=H,tc:=[] })
      (Fin C H.length af34 fun x hp tc=>(∀ j∈tc,j=mb)∧Kp tc H hp∧Rx r xb mb eb hp∧x=(if Rd.canR r (Rd.everyR r) then .ret (.ptr xb 0) else .pan (.iface 114 (.agg [.int .i64 10])))):=by
  obtain ⟨H',tc,c1,c2,c3,c4⟩:=hCa H xb mb eb hX (Rd.everyR r)
  have hev:=hE H xb _ _ hX.x
  have hmt:=hM.t
  have hmf:=hM.f
  have hm:=hX.ml
  have HQ:=hideP (And.intro c2 (And.intro c3 c4))
  have hl:H.length≤H'.length:=c3.len
  unfold af34 Zq Zm Zo Zc Zt Zn
  simp only[zipI]
  clear hE hCa hX hM c2 c3 c4
  have key:(∀ j∈tc.filter (·<H.length),j=mb)∧Kp (tc.filter (·<H.length)) H H'∧Rx r xb mb eb H':=⟨fun j hj=>HQ.out.1 j (List.mem_filter.1 hj).1,HQ.out.2.1.mono fun j hj h=>List.mem_filter.2 ⟨h,by simpa using hj⟩,HQ.out.2.2⟩
  have HK:=hideP key
  clear key HQ
  cases hc:Rd.canR r (Rd.everyR r) with
  |true=>
    rw[hc] at c1
    refine gD ?_
    exact zmg (v:=.ptr xb 0) (.inl rfl) rfl (by simp only;omega) (by simp only[resL,resOf,zaa];simp[*,resV]) ⟨HK.out.1,HK.out.2.1,HK.out.2.2,rfl⟩
  |false=>
    rw[hc] at c1
    refine gD ?_
    exact zbw rfl (by simp only;omega) ⟨HK.out.1,HK.out.2.1,HK.out.2.2,rfl⟩
def OpenC (call call0:CallF)(r:Rd.Road):Prop:=∀ (H:List AB) (F:AV) (is:Bool),(Rd.valid r=true→∀ G xb mb eb,Kp [] H G→Rx r xb mb eb G→call0 F [.ptr xb 0] G=some (.ret (.bool is),G,[])) →
  (Rd.valid r=false∧call (.fn (.func 30) [] []) [.agg [.vs 7 (r.parts.map ptE),.vs 7 (r.events.map evE)],F] H=some (.pan (stopV 1),H,[]))∨(Rd.valid r=true∧is=false∧call (.fn (.func 30) [] []) [.agg [.vs 7 (r.parts.map ptE),.vs 7 (r.events.map evE)],F] H=some (.pan (stopV 2),H,[])) ∨
  (Rd.valid r=true∧is=true∧∃ H' xb mb eb,call (.fn (.func 30) [] []) [.agg [.vs 7 (r.parts.map ptE),.vs 7 (r.events.map evE)],F] H=some (.ret (.ptr xb 0),H',[])∧Kp [] H H'∧Rx r xb mb eb H'∧H.length≤xb∧H.length≤mb∧H.length≤eb)
def HeadQ (call:CallF)(r:Rd.Road)(H:List AB)(F:AV)(is:Bool):Prop:=
  (∃ e,Rd.errR r is=e∧e≠0∧call (.fn (.func 30) [] []) [.agg [.vs 7 (r.parts.map ptE),.vs 7 (r.events.map evE)],F] H=some (.pan (.iface 114 (.agg [.int .i64 e])),H,[])) ∨
  (Rd.errR r is=10∧∃ H1 xb H2 tc,call (.fn (.func 30) [] []) [.agg [.vs 7 (r.parts.map ptE),.vs 7 (r.events.map evE)],F] H=some (.ret (.ptr xb 0),H1,[])∧call (.fn (.func 34) [] []) [.ptr xb 0] H1=some (.pan (.iface 114 (.agg [.int .i64 10])),H2,tc)∧Kp [] H H2∧∀ j∈tc,H.length≤j) ∨
  (Rd.errR r is=0∧∃ H1 xb mb eb H2 tc,call (.fn (.func 30) [] []) [.agg [.vs 7 (r.parts.map ptE),.vs 7 (r.events.map evE)],F] H=some (.ret (.ptr xb 0),H1,[])∧call (.fn (.func 34) [] []) [.ptr xb 0] H1=some (.ret (.ptr xb 0),H2,tc)∧Kp [] H H2∧(∀ j∈tc,j=mb)∧Rx r xb mb eb H2∧H.length≤xb∧H.length≤mb∧H.length≤eb)
theorem yaf {call call0:CallF}{r:Rd.Road}(hO:OpenC call call0 r)(hK:Rd.valid r=true→KnownC call r)(H:List AB)(F:AV)(is:Bool)(hF:Rd.valid r=true→∀ G xb mb eb,Kp [] H G→Rx r xb mb eb G→call0 F [.ptr xb 0] G=some (.ret (.bool is),G,[])):HeadQ call r H F is:=by
  rcases hO H F is hF with ⟨h1,h2⟩|⟨h1,h2,h3⟩|⟨h1,h2,H1,xb,mb,eb,h3,h4,h5,h6,h7,h8⟩
  · exact .inl ⟨1,by simp[Rd.errR,h1],by decide,h2⟩
  · exact .inl ⟨2,by simp[Rd.errR,h1,h2],by decide,h3⟩
  · obtain ⟨H2,tc,k1,k2,k3,k4⟩:=hK h1 H1 xb mb eb h5
    have kk:Kp [] H H2:=⟨by have:=h4.len;have:=k2.len;omega,fun b hb _=>by rw[k2.get b (by have:=h4.len;omega) (fun h=>by have:=k1 b h;omega)];exact h4.get b hb (by simp)⟩
    cases hc:Rd.canR r (Rd.everyR r) with
    |true=>
      rw[hc] at k4
      exact .inr (.inr ⟨by simp[Rd.errR,h1,h2,hc],H1,xb,mb,eb,H2,tc,h3,k4,kk,k1,k3,h6,h7,h8⟩)
    |false=>
      rw[hc] at k4
      exact .inr (.inl ⟨by simp[Rd.errR,h1,h2,hc],H1,xb,H2,tc,h3,k4,kk,fun j hj=>by rw[k1 j hj];exact h7⟩)
def spanRV (r:Rd.Road)(is:Bool)(s:Clm.Sp):AV:=.tup [spA (if Rd.errR r is=0 then s else ⟨0,0⟩),.int .i64 (Rd.errR r is)]
def numRV (r:Rd.Road)(is:Bool)(n:Int):AV:=.tup [.int .i64 (if Rd.errR r is=0 then n else 0),.int .i64 (Rd.errR r is)]
def heightG (r:Rd.Road)(many:Nat)(w:Rd.Way)(ls:List Int):Clm.Sp:=⟨Rd.heightR r w.part w.first.lo ls many,Rd.heightR r w.part w.first.hi ls many⟩
def sinkG (load:Int)(w:Rd.Way)(_:List Int):Clm.Sp:=⟨Rd.sunk w.part load,Rd.sunk w.part load⟩
theorem zks (C:Cfg)(call:CallF)(r:Rd.Road)(hH:HeightC call r)(H:List AB)(xb mb eb:Nat)(hX:Rx r xb mb eb H)(w:Rd.Way)(hp:TrOk w.part)(hw:0≤w.first.lo∧w.first.lo≤60∧0≤w.first.hi∧w.first.hi≤60)(f:Nat→Int)(hf:LdOk f)(many:Nat)(hm:many≤r.events.length)(b1 b2:Nat)(h1:H[b1]?=some (.cells [.ptr xb 0]))(h2:H[b2]?=some (.cells [.int .i64 many])):
    Does (ev C call H.length none af92.body { tm:=tmA af92.ntmps (zipI 0 [.agg (wayCs w),.agg (arr10 f),.ptr b1 0,.ptr b2 0] []),df:=[],hp:=H,tc:=[] })
      (Ends C H.length af92.res fun v _hp tc=>v=spA (heightG r many w (lsOf r.events.length f))∧tc=[]):=by
  have c1:=fun K=>hH (H++K) xb mb eb (hX.app K) w.part hp w.first.lo (by omega) (by omega) f hf many hm
  have c2:=fun K=>hH (H++K) xb mb eb (hX.app K) w.part hp w.first.hi (by omega) (by omega) f hf many hm
  obtain ⟨x0,x1,x2,x3,x4,x5⟩:=bk' h1
  obtain ⟨y0,y1,y2,y3,y4,y5⟩:=bk' h2
  unfold heightG
  have hl:=zbg f
  have hall:=zbs f
  generalize Rd.heightR r w.part w.first.lo (lsOf r.events.length f) many=u at *
  generalize Rd.heightR r w.part w.first.hi (lsOf r.events.length f) many=z at *
  clear hH h1 h2 hX hp hw hf hm
  unfold af92 Zq Zl Zo Zd Ze Zc Zt Zi
  generalize arr10 f=R at *
  simp only[zipI,wayCs] at *
  refine gG ?_
  refine zac (v:=spA ⟨u,z⟩) (.inl rfl) rfl (by simp) (by simp only[zai];simp only[resL,resOf,zaa];simp[pickC,resV,spA]) ⟨rfl,by simp⟩
def SpanC (call call0:CallF)(r:Rd.Road):Prop:=∀ (H:List AB) (xb mb eb:Nat),Rx r xb mb eb H→∀ n,n<r.parts.length→∀ (fl:Fn) (fa fb:List AV) (g:Rd.Way→List Int→Clm.Sp),WayF call0 (.fn fl fa fb) r xb mb eb n H g →
  ∃ H' tc,call (.fn (.func 44) [] []) [.ptr xb 0,.int .i64 n,.fn fl fa fb] H=some (.ret (.agg [.int .i64 (Rd.spanR r n g).lo,.int .i64 (Rd.spanR r n g).hi]),H',tc)∧(∀ j∈tc,j=mb)∧Kp tc H H'∧Rx r xb mb eb H'
def Heights1C (call:CallF)(r:Rd.Road):Prop:=∀ (H:List AB) (xb mb eb:Nat),Rx r xb mb eb H→∀ w:Rd.Way,TrOk w.part→0≤w.first.lo∧w.first.lo≤60∧0≤w.first.hi∧w.first.hi≤60→∀ f,LdOk f→∀ many,many≤r.events.length→∀ b1 b2:Nat,H[b1]?=some (.cells [.ptr xb 0])→H[b2]?=some (.cells [.int .i64 many]) →
  call (.fn (.func 92) [] [.ptr b1 0,.ptr b2 0]) [.agg (wayCs w),.agg (arr10 f)] H=some (.ret (.agg [.int .i64 (heightG r many w (lsOf r.events.length f)).lo,.int .i64 (heightG r many w (lsOf r.events.length f)).hi]),H,[])
theorem zkq (C:Cfg)(call call0:CallF)(r:Rd.Road)(hr:Rd.Fine r)(hSp:SpanC call call0 r)(hH1:Heights1C call0 r)(H:List AB)(xb mb eb:Nat)(hX:Rx r xb mb eb H)(n:Nat)(hn:n<r.parts.length)(many:Nat)(hm:many≤r.events.length):
    Does (ev C call H.length none af35.body { tm:=tmA af35.ntmps (zipI 0 [.ptr xb 0,.int .i64 n,.int .i64 many] []),df:=[],hp:=H,tc:=[] })
      (Ends C H.length af35.res fun v hp tc=>v=spA (Rd.heightsR r n many)∧(∀ j∈tc,j=mb)∧Rx r xb mb eb hp):=by
  obtain ⟨H', tc, c1, c2, c3, c4⟩ := hSp (H ++ [.cells [.ptr xb 0], .cells [.int .i64 many], .cells [.int .i64 0, .int .i64 0]]) xb mb eb (hX.app _) n hn (.func 92) [] [.ptr H.length 0, .ptr (H.length + 1) 0] (heightG r many) (by
    intro G k hG ls hls w hw
    obtain ⟨hld,he⟩:=all_ld hr hls
    obtain ⟨o1,o2,o3,o4⟩:=way_ok hr hn hw
    have hm':=hX.ml
    have:=hH1 G xb mb eb hG w o1 (by omega) (fnOf ls) hld many hm H.length (H.length+1) (k.at (by simp) (by simp;omega)) (k.at (by simp) (by simp;omega))
    rw[he] at this
    exact this)
  have hs:Rd.spanR r n (heightG r many)=Rd.heightsR r n many:=rfl
  rw[hs] at c1
  have hx:=hX.xl;have hml:=hX.ml;have hel:=hX.el
  have e6:H'[H.length+2]?=some (.cells [.int .i64 0,.int .i64 0]):=c3.at (by simp) (fun h=>by have:=c2 _ h;omega)
  obtain ⟨x0,x1,x2,x3,x4,x5⟩:=bk' e6
  have hl:=c3.len
  have HQ:=hideP (And.intro c2 (And.intro c4 hl))
  clear hSp hH1 hX hs c2 c3 c4 hn hm e6 hl
  generalize Rd.heightsR r n many=sp at *
  unfold af35 Zq Zm Zl Zo Zs Zc Zt Zi
  simp only[zipI]
  refine gA ?_
  obtain ⟨c2,c4,hl⟩:=HQ.out
  refine zac (v:=spA sp) (.inl rfl) rfl (by simp at hl ⊢;omega) (by simp only[resL,resOf,zaa];simp[resV,pickC,spA,x0]) ⟨rfl,fun j hj=>?_,c4.kp ((Kp.refl [H.length+2] H').set _ _ (by simp)) (by simp;omega) (by simp;omega) (by simp;omega)⟩
  simp at hj
  first|(rcases hj with h|h<;>first|omega|exact c2 j h.1|exact c2 j h)|exact c2 j hj.1
def HeightsC (call:CallF)(r:Rd.Road):Prop:=∀ (H:List AB) (xb mb eb:Nat),Rx r xb mb eb H→∀ n,n<r.parts.length→∀ many,many≤r.events.length →
  ∃ H' tc,call (.fn (.func 35) [] []) [.ptr xb 0,.int .i64 n,.int .i64 many] H=some (.ret (.agg [.int .i64 (Rd.heightsR r n many).lo,.int .i64 (Rd.heightsR r n many).hi]),H',tc)∧(∀ j∈tc,j=mb)∧Kp tc H H'∧Rx r xb mb eb H'
def IsFn (call:CallF)(r:Rd.Road)(F:AV)(is:Bool)(H:List AB):Prop:=Rd.valid r=true→∀ G xb mb eb,Kp [] H G→Rx r xb mb eb G→call F [.ptr xb 0] G=some (.ret (.bool is),G,[])
theorem zia {r:Rd.Road}{n:Int}(h:Rd.isPart r n=true):∃ i:Nat,n=i∧i<r.parts.length:=by
  have:=of_decide_eq_true h
  exact ⟨n.toNat,by omega,by omega⟩
theorem zlx {r:Rd.Road}{n:Int}(h:Rd.isEvent r n=true):∃ i:Nat,n=i∧i<r.events.length:=by
  have:=of_decide_eq_true h
  exact ⟨n.toNat,by omega,by omega⟩
theorem zkn {n d:Int}(h:Rd.isLoad n=true)(d0:0≤d)(d1:d≤10):LOk d n:=by
  have:=of_decide_eq_true h
  exact ⟨d0,d1,by omega,by omega⟩
theorem zmb (C:Cfg)(call call0:CallF)(r:Rd.Road)(hdf:C.dfk 28=some (114,true))(hHd:∀ H F is,IsFn call0 r F is H→HeadQ call r H F is)(hHs:Rd.valid r=true→HeightsC call r)(num evn:Int)(he:-9223372036854775808≤evn∧evn≤9223372036854775807)
    (hF:IsFn call0 r (.fn (.func 31) [] [.ptr 1 0,.ptr 2 0]) (Rd.isPart r num&&Rd.isEvent r evn) [.cells (roadCs r),.cells [.int .i64 num],.cells [.int .i64 evn],.cells [.int .i64 0,.int .i64 0],.cells [.int .i64 0]]):
    Does (ev C call ([]:List AB).length none af7.body { tm:=tmA af7.ntmps (zipI 0 [.agg (roadCs r),.int .i64 num,.int .i64 evn] []),df:=[],hp:=[],tc:=[] })
      (Fin C ([]:List AB).length af7 (Ans (spanRV r (Rd.isPart r num&&Rd.isEvent r evn) (Rd.heightsR r num.toNat (evn.toNat+1))))):=by
  have ho:=hHd [.cells (roadCs r),.cells [.int .i64 num],.cells [.int .i64 evn],.cells [.int .i64 0,.int .i64 0],.cells [.int .i64 0]] _ _ hF
  unfold spanRV
  generalize hb:(Rd.isPart r num&&Rd.isEvent r evn)=is at *
  unfold af7 Zq Zl Zo Zs Zd Ze Zc Zt Zn Zi
  rcases ho with ⟨e,h1,h2,h3⟩|⟨h1,H1,xb,H2,tc,h3,h4,h5,h6⟩|⟨h1,H1,xb,mb,eb,H2,tc,h3,h4,h5,h6,h7,h8,h9,h10⟩
  · rw[h1,if_neg h2]
    clear hHd hHs hF h1 hb he
    simp only[zipI,roadCs] at *
    refine gL ?_
    refine zbl (v:=.tup [.agg [.int .i64 0,.int .i64 0],.int .i64 e]) hdf rfl (by simp only;rfl) (by simp only[zcn,List.filterMap_cons,List.filterMap_nil,List.foldl_cons,List.foldl_nil];simp only[resL,resOf,zaa];simp[resV,pickC]) ⟨by simp[spA],by simp⟩
  · rw[h1,if_neg (by decide)]
    have e3:H2[3]?=some (.cells [.int .i64 0,.int .i64 0]):=h5.at rfl (by simp)
    have e4:H2[4]?=some (.cells [.int .i64 0]):=h5.at rfl (by simp)
    obtain ⟨n0,n1,n2,n3,n4⟩:0∉tc∧1∉tc∧2∉tc∧3∉tc∧4∉tc:=by
      refine ⟨?_,?_,?_,?_,?_⟩<;>(intro h;have:=h6 _ h;simp at *<;>omega)
    clear hHd hHs hF h1 hb he h5 h6
    simp only[zipI,roadCs] at *
    refine gL ?_
    refine zbl (v:=.tup [.agg [.int .i64 0,.int .i64 0],.int .i64 10]) hdf rfl (by simp only;exact e4) (by simp only[zcn,List.filterMap_cons,List.filterMap_nil,List.foldl_cons,List.foldl_nil];simp only[resL,resOf,zaa];simp[resV,pickC,List.getElem?_set_ne,e3,List.getElem?_set_self (get_lt e4)]) ⟨by simp[spA],by simp⟩
  · obtain ⟨hi,hf,hcan⟩:=Rd.errR_zero h1
    subst hi
    rw[h1,if_pos rfl]
    have hv:Rd.valid r=true:=(Rd.valid_iff r).2 hf
    obtain ⟨hb1,hb2⟩:=Bool.and_eq_true_iff.1 hb
    obtain ⟨i,rfl,hil⟩:=zia hb1
    obtain ⟨j,rfl,hjl⟩:=zlx hb2
    obtain ⟨H3,tc3,k1,k2,k3,k4⟩:=hHs hv H2 xb mb eb h7 i hil (j+1) (by omega)
    have e3:H3[3]?=some (.cells [.int .i64 0,.int .i64 0]):=k3.at (h5.at rfl (by simp)) (fun h=>by have:=k2 _ h;simp at h9;omega)
    have e4:H3[4]?=some (.cells [.int .i64 0]):=k3.at (h5.at rfl (by simp)) (fun h=>by have:=k2 _ h;simp at h9;omega)
    obtain ⟨f0,f1,f2,f3,f4,f5⟩:=bk' e3
    obtain ⟨g0,g1,g2,g3,g4,g5⟩:=bk' e4
    obtain ⟨n0,n1,n2,n3,n4⟩:0∉tc∧1∉tc∧2∉tc∧3∉tc∧4∉tc:=by
      refine ⟨?_,?_,?_,?_,?_⟩<;>(intro h;have:=h6 _ h;simp at *<;>omega)
    obtain ⟨m0,m1,m2,m3,m4⟩:0∉tc3∧1∉tc3∧2∉tc3∧3∉tc3∧4∉tc3:=by
      refine ⟨?_,?_,?_,?_,?_⟩<;>(intro h;have:=k2 _ h;simp at *<;>omega)
    have hev:=hf.events
    have hw:IntKind.i64.wrap (↑j+1)=↑j+1:=zaf (by omega) (by omega)
    rw[show ((j+1:Nat):Int)=(j:Int)+1 by omega] at k1
    rw[Int.toNat_natCast,Int.toNat_natCast]
    generalize Rd.heightsR r i (j+1)=sp at *
    clear hHd hHs hF h1 hb he hb1 hb2 h5 h6 h7 h8 h9 h10 hv hf hcan k2 k3 k4 hil hjl e3 e4
    simp only[zipI,roadCs] at *
    refine gG ?_
    refine zdk (v:=.tup [spA sp,.int .i64 0]) (.inl rfl) hdf rfl (by simp) (by simp only[zai,zah];simp only[resL,resOf,zaa];simp[resV,pickC,spA,f0,g0]) ⟨rfl,by simp⟩
def IsEventC (call:CallF)(r:Rd.Road):Prop:=∀ (H:List AB) (xb:Nat) (w z:AV),H[xb]?=some (.cells (roadCs r++[w,z]))→∀ n:Int,call (.fn (.func 33) [] []) [.ptr xb 0,.int .i64 n] H=some (.ret (.bool (Rd.isEvent r n)),H,[])
def IsLoadC (call:CallF):Prop:=∀ (H:List AB) (n:Int),call (.fn (.func 43) [] []) [.int .i64 n] H=some (.ret (.bool (Rd.isLoad n)),H,[])
theorem zmc (C:Cfg)(call:CallF)(r:Rd.Road)(hP:IsPartC call r)(hE:IsEventC call r)(H:List AB)(xb mb eb:Nat)(hX:Rx r xb mb eb H)(num evn:Int)(b1 b2:Nat)(h1:H[b1]?=some (.cells [.int .i64 num]))(h2:H[b2]?=some (.cells [.int .i64 evn])):
    Does (ev C call H.length none af31.body { tm:=tmA af31.ntmps (zipI 0 [.ptr xb 0,.ptr b1 0,.ptr b2 0] []),df:=[],hp:=H,tc:=[] })
      (Ends C H.length af31.res fun v _hp tc=>v=.bool (Rd.isPart r num&&Rd.isEvent r evn)∧tc=[]):=by
  have c1:=hP H xb _ _ hX.x num
  have c2:=hE H xb _ _ hX.x evn
  obtain ⟨x0,x1,x2,x3,x4,x5⟩:=bk' h1
  obtain ⟨y0,y1,y2,y3,y4,y5⟩:=bk' h2
  clear hP hE h1 h2 hX
  unfold af31 Zq Zm Zl Zo Zc Zt
  simp only[zipI]
  cases hb:Rd.isPart r num with
  |false=>
    rw[hb] at c1
    refine gA ?_
    exact zac (v:=.bool false) (.inl rfl) rfl (by simp) endvP ⟨by simp,rfl⟩
  |true=>
    rw[hb] at c1
    refine gA ?_
    exact zac (v:=.bool (Rd.isEvent r evn)) (.inl rfl) rfl (by simp) endvP ⟨by simp,rfl⟩
theorem zpa (C:Cfg)(call:CallF)(r:Rd.Road)(hP:IsPartC call r)(hE:IsLoadC call)(H:List AB)(xb mb eb:Nat)(hX:Rx r xb mb eb H)(num evn:Int)(b1 b2:Nat)(h1:H[b1]?=some (.cells [.int .i64 num]))(h2:H[b2]?=some (.cells [.int .i64 evn])):
    Does (ev C call H.length none af42.body { tm:=tmA af42.ntmps (zipI 0 [.ptr xb 0,.ptr b1 0,.ptr b2 0] []),df:=[],hp:=H,tc:=[] })
      (Ends C H.length af42.res fun v _hp tc=>v=.bool (Rd.isPart r num&&Rd.isLoad evn)∧tc=[]):=by
  have c1:=hP H xb _ _ hX.x num
  have c2:=fun H=>hE H evn
  obtain ⟨x0,x1,x2,x3,x4,x5⟩:=bk' h1
  obtain ⟨y0,y1,y2,y3,y4,y5⟩:=bk' h2
  clear hP hE h1 h2 hX
  unfold af42 Zq Zm Zl Zo Zc Zt
  simp only[zipI]
  cases hb:Rd.isPart r num with
  |false=>
    rw[hb] at c1
    refine gA ?_
    exact zac (v:=.bool false) (.inl rfl) rfl (by simp) endvP ⟨by simp,rfl⟩
  |true=>
    rw[hb] at c1
    refine gA ?_
    exact zac (v:=.bool (Rd.isLoad evn)) (.inl rfl) rfl (by simp) endvP ⟨by simp,rfl⟩
theorem zrj (C:Cfg)(call:CallF)(hE:IsLoadC call)(H:List AB)(v:AV)(load:Int)(b1:Nat)(h1:H[b1]?=some (.cells [.int .i64 load])):
    Does (ev C call H.length none af50.body { tm:=tmA af50.ntmps (zipI 0 [v,.ptr b1 0] []),df:=[],hp:=H,tc:=[] })
      (Ends C H.length af50.res fun v _hp tc=>v=.bool (Rd.isLoad load)∧tc=[]):=by
  have c2:=fun H=>hE H load
  obtain ⟨x0,x1,x2,x3,x4,x5⟩:=bk' h1
  clear hE h1
  unfold af50 Zq Zm Zl Zo Zc Zt
  simp only[zipI]
  refine gA ?_
  exact zac (.inl rfl) rfl (by simp) (by simp only[resL,resOf,zaa];simp[*,resV]) ⟨rfl,rfl⟩
theorem ztn (C:Cfg)(call:CallF)(hE:IsLoadC call)(H:List AB)(v:AV)(load:Int)(b1:Nat)(h1:H[b1]?=some (.cells [.int .i64 load])):
    Does (ev C call H.length none af68.body { tm:=tmA af68.ntmps (zipI 0 [v,.ptr b1 0] []),df:=[],hp:=H,tc:=[] })
      (Ends C H.length af68.res fun v _hp tc=>v=.bool (Rd.isLoad load)∧tc=[]):=by
  have c2:=fun H=>hE H load
  obtain ⟨x0,x1,x2,x3,x4,x5⟩:=bk' h1
  clear hE h1
  unfold af68 Zq Zm Zl Zo Zc Zt
  simp only[zipI]
  refine gA ?_
  exact zac (.inl rfl) rfl (by simp) (by simp only[resL,resOf,zaa];simp[*,resV]) ⟨rfl,rfl⟩
theorem zoz (C:Cfg)(call:CallF)(hS:SunkC call)(H:List AB)(w:Rd.Way)(hp:TrOk w.part)(R:List AV)(_hR:R.length=10)(load:Int)(hl:0≤load∧load≤60)(ls:List Int)(b1 b2:Nat)(h1:H[b1]?=some (.cells [.fn (.func 41) [] []]))(h2:H[b2]?=some (.cells [.int .i64 load])):
    Does (ev C call H.length none af45.body { tm:=tmA af45.ntmps (zipI 0 [.agg (wayCs w),.agg R,.ptr b1 0,.ptr b2 0] []),df:=[],hp:=H,tc:=[] })
      (Ends C H.length af45.res fun v _hp tc=>v=spA (sinkG load w ls)∧tc=[]):=by
  have c1:=fun H=>hS H w.part hp load (by omega) (by omega)
  obtain ⟨x0,x1,x2,x3,x4,x5⟩:=bk' h1
  obtain ⟨y0,y1,y2,y3,y4,y5⟩:=bk' h2
  unfold sinkG
  generalize Rd.sunk w.part load=u at *
  clear hS h1 h2 hp hl
  unfold af45 Zq Zm Zl Zo Zs Zt Zi
  simp only[zipI,wayCs] at *
  refine gA ?_
  refine zac (v:=spA ⟨u,u⟩) (.inl rfl) rfl (by simp) (by simp only[resL,resOf,zaa];simp[pickC,resV,spA]) ⟨rfl,by simp⟩
def Sinks3C (call:CallF):Prop:=∀ (H:List AB) (w:Rd.Way),TrOk w.part→∀ R:List AV,R.length=10→∀ load:Int,0≤load∧load≤60→∀ b1 b2:Nat,H[b1]?=some (.cells [.fn (.func 41) [] []])→H[b2]?=some (.cells [.int .i64 load]) →
  call (.fn (.func 45) [] [.ptr b1 0,.ptr b2 0]) [.agg (wayCs w),.agg R] H=some (.ret (.agg [.int .i64 (Rd.sunk w.part load),.int .i64 (Rd.sunk w.part load)]),H,[])
theorem zoy (C:Cfg)(call call0 call1:CallF)(r:Rd.Road)(hdf:C.dfk 40=some (114,true))(hHd:∀ H F is,IsFn call0 r F is H→HeadQ call r H F is)(hSp:Rd.valid r=true→SpanC call call1 r)(hS3:Sinks3C call1)(num load:Int)
    (hF:IsFn call0 r (.fn (.func 42) [] [.ptr 1 0,.ptr 2 0]) (Rd.isPart r num&&Rd.isLoad load) [.cells (roadCs r),.cells [.int .i64 num],.cells [.int .i64 load],.cells [.int .i64 0,.int .i64 0],.cells [.int .i64 0],.cells [.fn (.func 41) [] []]]):
    Does (ev C call ([]:List AB).length none af9.body { tm:=tmA af9.ntmps (zipI 0 [.agg (roadCs r),.int .i64 num,.int .i64 load] []),df:=[],hp:=[],tc:=[] })
      (Fin C ([]:List AB).length af9 (Ans (spanRV r (Rd.isPart r num&&Rd.isLoad load) (Rd.sinksR r num.toNat load)))):=by
  have ho:=hHd [.cells (roadCs r),.cells [.int .i64 num],.cells [.int .i64 load],.cells [.int .i64 0,.int .i64 0],.cells [.int .i64 0],.cells [.fn (.func 41) [] []]] _ _ hF
  unfold spanRV
  generalize hb:(Rd.isPart r num&&Rd.isLoad load)=is at *
  unfold af9 Zq Zl Zo Zs Zd Ze Zc Zt Zn Zi
  rcases ho with ⟨e,h1,h2,h3⟩|⟨h1,H1,xb,H2,tc,h3,h4,h5,h6⟩|⟨h1,H1,xb,mb,eb,H2,tc,h3,h4,h5,h6,h7,h8,h9,h10⟩
  · rw[h1,if_neg h2]
    clear hHd hSp hS3 hF h1 hb
    simp only[zipI,roadCs] at *
    refine gL ?_
    refine zbl (v:=.tup [.agg [.int .i64 0,.int .i64 0],.int .i64 e]) hdf rfl (by simp only;rfl) (by simp only[zcn,List.filterMap_cons,List.filterMap_nil,List.foldl_cons,List.foldl_nil];simp only[resL,resOf,zaa];simp[resV,pickC]) ⟨by simp[spA],by simp⟩
  · rw[h1,if_neg (by decide)]
    have e3:H2[3]?=some (.cells [.int .i64 0,.int .i64 0]):=h5.at rfl (by simp)
    have e4:H2[4]?=some (.cells [.int .i64 0]):=h5.at rfl (by simp)
    obtain ⟨n0,n1,n2,n3,n4,n5⟩:0∉tc∧1∉tc∧2∉tc∧3∉tc∧4∉tc∧5∉tc:=by
      refine ⟨?_,?_,?_,?_,?_,?_⟩<;>(intro h;have:=h6 _ h;simp at *<;>omega)
    clear hHd hSp hS3 hF h1 hb h5 h6
    simp only[zipI,roadCs] at *
    refine gL ?_
    refine zbl (v:=.tup [.agg [.int .i64 0,.int .i64 0],.int .i64 10]) hdf rfl (by simp only;exact e4) (by simp only[zcn,List.filterMap_cons,List.filterMap_nil,List.foldl_cons,List.foldl_nil];simp only[resL,resOf,zaa];simp[resV,pickC,List.getElem?_set_ne,e3,List.getElem?_set_self (get_lt e4)]) ⟨by simp[spA],by simp⟩
  · obtain ⟨hi,hf,hcan⟩:=Rd.errR_zero h1
    subst hi
    rw[h1,if_pos rfl]
    have hv:Rd.valid r=true:=(Rd.valid_iff r).2 hf
    obtain ⟨hb1,hb2⟩:=Bool.and_eq_true_iff.1 hb
    obtain ⟨i,rfl,hil⟩:=zia hb1
    have hlo:=of_decide_eq_true hb2
    obtain ⟨H3, tc3, k1, k2, k3, k4⟩ := hSp hv H2 xb mb eb h7 i hil (.func 45) [] [.ptr 5 0, .ptr 2 0] (sinkG load) (by
      intro G k hG ls hls w hw
      obtain ⟨o1,o2,o3,o4⟩:=way_ok hf hil hw
      exact hS3 G w o1 _ (zbg _) load hlo 5 2 (k.at (h5.at rfl (by simp)) (by simp at h9 ⊢;omega)) (k.at (h5.at rfl (by simp)) (by simp at h9 ⊢;omega)))
    have hsp:Rd.spanR r i (sinkG load)=Rd.sinksR r i load:=rfl
    rw[hsp] at k1
    have e3:H3[3]?=some (.cells [.int .i64 0,.int .i64 0]):=k3.at (h5.at rfl (by simp)) (fun h=>by have:=k2 _ h;simp at h9;omega)
    have e4:H3[4]?=some (.cells [.int .i64 0]):=k3.at (h5.at rfl (by simp)) (fun h=>by have:=k2 _ h;simp at h9;omega)
    obtain ⟨f0,f1,f2,f3,f4,f5⟩:=bk' e3
    obtain ⟨g0,g1,g2,g3,g4,g5⟩:=bk' e4
    obtain ⟨n0,n1,n2,n3,n4,n5⟩:0∉tc∧1∉tc∧2∉tc∧3∉tc∧4∉tc∧5∉tc:=by
      refine ⟨?_,?_,?_,?_,?_,?_⟩<;>(intro h;have:=h6 _ h;simp at *<;>omega)
    obtain ⟨m0,m1,m2,m3,m4,m5⟩:0∉tc3∧1∉tc3∧2∉tc3∧3∉tc3∧4∉tc3∧5∉tc3:=by
      refine ⟨?_,?_,?_,?_,?_,?_⟩<;>(intro h;have:=k2 _ h;simp at *<;>omega)
    rw[Int.toNat_natCast]
    generalize Rd.sinksR r i load=sp at *
    clear hHd hSp hS3 hF h1 hb hb1 hb2 h5 h6 h7 h8 h9 h10 hv hf hcan k2 k3 k4 hil e3 e4 hsp hlo
    simp only[zipI,roadCs] at *
    refine gG ?_
    refine zdk (v:=.tup [spA sp,.int .i64 0]) (.inl rfl) hdf rfl (by simp) (by simp only[zai,zah];simp only[resL,resOf,zaa];simp[resV,pickC,spA,f0,g0]) ⟨rfl,by simp⟩
def SureC (call:CallF)(r:Rd.Road):Prop:=∀ (H:List AB) (xb mb eb:Nat),Rx r xb mb eb H→∀ days load:Int,LOk days load→∃ H' tc,call (.fn (.func 51) [] []) [.ptr xb 0,.int .i64 days,.int .i64 load] H=some (.ret (.bool (Rd.sureR r days load)),H',tc)∧(∀ j∈tc,j=mb)∧Kp tc H H'∧Rx r xb mb eb H'
def MayC (call:CallF)(r:Rd.Road):Prop:=∀ (H:List AB) (xb mb eb:Nat),Rx r xb mb eb H→∀ load:Int,LOk 0 load→∃ H' tc,call (.fn (.func 52) [] []) [.ptr xb 0,.int .i64 load] H=some (.ret (.bool (Rd.mayR r load)),H',tc)∧(∀ j∈tc,j=mb)∧Kp tc H H'∧Rx r xb mb eb H'
theorem zri (C:Cfg)(call call0:CallF)(r:Rd.Road)(hdf:C.dfk 49=some (114,true))(hHd:∀ H F is,IsFn call0 r F is H→HeadQ call r H F is)(hSu:Rd.valid r=true→SureC call r)(hMa:Rd.valid r=true→MayC call r)(load:Int)
    (hF:IsFn call0 r (.fn (.func 50) [] [.ptr 1 0]) (Rd.isLoad load) [.cells (roadCs r),.cells [.int .i64 load],.cells [.int .i64 0]]):
    Does (ev C call ([]:List AB).length none af11.body { tm:=tmA af11.ntmps (zipI 0 [.agg (roadCs r),.int .i64 load] []),df:=[],hp:=[],tc:=[] })
      (Fin C ([]:List AB).length af11 (Ans (numRV r (Rd.isLoad load) (Rd.bearsR r load)))):=by
  have ho:=hHd [.cells (roadCs r),.cells [.int .i64 load],.cells [.int .i64 0]] _ _ hF
  unfold numRV
  generalize hb:Rd.isLoad load=is at *
  unfold af11 Zq Zm Zl Zo Zs Zc Zt Zn Zi
  rcases ho with ⟨e,h1,h2,h3⟩|⟨h1,H1,xb,H2,tc,h3,h4,h5,h6⟩|⟨h1,H1,xb,mb,eb,H2,tc,h3,h4,h5,h6,h7,h8,h9,h10⟩
  · rw[h1,if_neg h2]
    clear hHd hSu hMa hF h1 hb
    simp only[zipI,roadCs] at *
    refine gD ?_
    refine zbl (v:=.tup [.int .i64 0,.int .i64 e]) hdf rfl (by simp only;rfl) (by simp only[resL,resOf,zaa];simp[resV,pickC]) ⟨by simp,by simp⟩
  · rw[h1,if_neg (by decide)]
    have e4:H2[2]?=some (.cells [.int .i64 0]):=h5.at rfl (by simp)
    clear hHd hSu hMa hF h1 hb h5 h6
    simp only[zipI,roadCs] at *
    refine gD ?_
    refine zbl (v:=.tup [.int .i64 0,.int .i64 10]) hdf rfl (by simp only;exact e4) (by simp only[resL,resOf,zaa];simp[resV,pickC,List.getElem?_set_self (get_lt e4)]) ⟨by simp,by simp⟩
  · obtain ⟨hi,hf,hcan⟩:=Rd.errR_zero h1
    subst hi
    rw[h1,if_pos rfl]
    have hv:Rd.valid r=true:=(Rd.valid_iff r).2 hf
    have hL:=zkn (d:=0) hb (by decide) (by decide)
    obtain ⟨H3,tc3,k1,k2,k3,k4⟩:=hSu hv H2 xb mb eb h7 0 load hL
    obtain ⟨H4,tc4,q1,q2,q3,q4⟩:=hMa hv H3 xb mb eb k4 load hL
    have e1:H2[1]?=some (.cells [.int .i64 load]):=h5.at rfl (by simp)
    have e3:H3[1]?=some (.cells [.int .i64 load]):=k3.at e1 (fun h=>by have:=k2 _ h;simp at h9;omega)
    have d3:H3[2]?=some (.cells [.int .i64 0]):=k3.at (h5.at rfl (by simp)) (fun h=>by have:=k2 _ h;simp at h9;omega)
    have d4:H4[2]?=some (.cells [.int .i64 0]):=q3.at d3 (fun h=>by have:=q2 _ h;simp at h9;omega)
    obtain ⟨a0,a1,a2,a3,a4,a5⟩:=bk' e1
    obtain ⟨b0,b1,b2,b3,b4,b5⟩:=bk' e3
    obtain ⟨f0,f1,f2,f3,f4,f5⟩:=bk' d3
    obtain ⟨g0,g1,g2,g3,g4,g5⟩:=bk' d4
    have hbr:Rd.bearsR r load=if Rd.sureR r 0 load then 2 else if Rd.mayR r load then 1 else 0:=rfl
    rw[hbr]
    clear hHd hSu hMa hF h1 hb h5 h6 h7 h8 h9 h10 hv hf hcan k2 k3 k4 q2 q3 q4 e1 e3 d3 d4 hL hbr
    simp only[zipI,roadCs] at *
    cases hs:Rd.sureR r 0 load with
    |true=>
      rw[hs] at k1
      refine gA ?_
      refine zdk (v:=.tup [.int .i64 2,.int .i64 0]) (.inl rfl) hdf rfl (by simp) (by simp only[resL,resOf,zaa];simp[resV,pickC,f0]) ⟨rfl,by simp⟩
    |false=>
      rw[hs] at k1
      cases hm:Rd.mayR r load with
      |true=>
        rw[hm] at q1
        refine gA ?_
        refine zdk (v:=.tup [.int .i64 1,.int .i64 0]) (.inl rfl) hdf rfl (by simp) (by simp only[resL,resOf,zaa];simp[resV,pickC,g0]) ⟨rfl,by simp⟩
      |false=>
        rw[hm] at q1
        refine gA ?_
        refine zdk (v:=.tup [.int .i64 0,.int .i64 0]) (.inl rfl) hdf rfl (by simp) (by simp only[resL,resOf,zaa];simp[resV,pickC,g0]) ⟨rfl,by simp⟩
end Ro
end Ev
end Go.Proofs.YtlcjlcllbgjplaaGreat
