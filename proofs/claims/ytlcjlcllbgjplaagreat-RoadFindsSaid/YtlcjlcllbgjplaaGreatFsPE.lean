/- slices.SortStableFunc, gone through: by what sorts a list of at most M numbers. -/
import Derived.Test.YtlcjlcllbgjplaaGreatFsPD
import Derived.Test.YtlcjlcllbgjplaaGreatFsPA
import Derived.Test.YtlcjlcllbgjplaaGreatFsPB
import Derived.Test.YtlcjlcllbgjplaaGreatFsPC
/- Package road, gone through: numbers, yielded; the first one that is so. -/
namespace Go.Proofs.YtlcjlcllbgjplaaGreat
open Go
namespace Ev
theorem zfy {C:Cfg}{pin D:Nat}{fn:AFunc}{Q:CRes→List AB→List Nat→Prop}{v:AV}{st:St}(hd:st.df=[.mark D])(hD:st.hp[D]?=some .dfr)(hp:pin≤D)(hl:pin≤st.hp.length)(hq:Q (.pan v) (st.hp.set D .dead) st.tc):K.Fin C pin fn Q (.panic v) st:=by
  refine ⟨.pan v,{ st with hp:=st.hp.set D .dead },?_,by simpa using hl,hq⟩
  have:runDefs C pin st.df (some v) st=some (some v,{ st with hp:=st.hp.set D .dead }):=by
    conv=>lhs;rw[hd]
    have:¬ D<pin:=by omega
    simp only[runDefs,hD,List.filter_cons,List.filter_nil,this,decide_false,Bool.false_eq_true,if_false,List.nil_append]
  show (match runDefs C pin st.df (some v) st with
    |some (none,st)=>(resL st fn.res).map fun vs=>(CRes.ret (resV vs),st)
    |some (some v,st)=>some (.pan v,st)
    |none=>none)=_
  rw[this]
theorem znw {C:Cfg}{pin D:Nat}{fn:AFunc}{Q:CRes→List AB→List Nat→Prop}{e:AExit}{st:St}{v:AV}(he:e=.ret∨e=.normal)(hd:st.df=[.mark D])(hD:st.hp[D]?=some .dfr)(hp:pin≤D)(hl:pin≤st.hp.length)(hr:(resL { st with hp:=st.hp.set D .dead } fn.res).map resV=some v)(hq:Q (.ret v) (st.hp.set D .dead) st.tc):K.Fin C pin fn Q e st:=by
  obtain ⟨x,st',h1,h2,v',h3,h4⟩:=zeo (C:=C) (pin:=pin) (fn:=fn) (Q:=fun v hp tc=>Q (.ret v) hp tc) (zbn he hd hD hp hl hr hq)
  exact ⟨x,st',h1,h2,by rw[h3];exact h4⟩
namespace Ro
open K
attribute [local simp] ev1 wantG spineK spine float xnew xval xeff zab zae zau zah zai addFl cellsOf pickC alive slLen slFt binI maxA maxK minA minK aeqK aeqS AV.cells spA zad fillA setAt bitsI nat_nn zav AV.plain apart
set_option maxRecDepth 100000
set_option maxHeartbeats 4000000
def countL (a b:Nat):List Nat:=if b<a then (List.range (a - b+1)).map (a - ·) else (List.range (b - a+1)).map (a+·)
def countN (a b:Nat):Nat:=if b<a then a - b+1 else b - a+1
theorem zqy (a b:Nat):(countL a b).length=countN a b:=by unfold countL countN;split<;>simp
theorem zqz (a b:Nat){i:Nat}(h:i<countN a b):(countL a b)[i]?=some (if b<a then a - i else a+i):=by
  unfold countN at h
  unfold countL
  split
  · rename_i hb
    rw[if_pos hb] at h
    rw[List.getElem?_map,List.getElem?_range h];rfl
  · rename_i hb
    rw[if_neg hb] at h
    rw[List.getElem?_map,List.getElem?_range h];rfl
theorem znj {α:Type}{L:List α}{i:Nat}{x:α}(h:L[i]?=some x):L.take i++[x] <+: L:=by
  have e:L.take i++[x]=L.take (i+1):=by rw[List.take_add_one,h];rfl
  rw[e];exact List.take_prefix _ _
def CtPre (a b b1 b2:Nat)(H:List AB)(T:List Nat):Prop:=H[b1]?=some (.cells [.int .i64 b])∧H[b2]?=some (.cells [.int .i64 a])∧b1∉T∧b2∉T
theorem zqv (C:Cfg)(hC:C.calm=true)(call:CallF)(a b b1 b2:Nat)(ha:a≤1000)(hb:b≤1000)(U:List AB→Prop)(H:List AB)(l:Nat)(T:List Nat)(J:List Nat→List Nat→List AB→Prop)(E:List Nat→List AB→Prop)(M:List Nat→Nat→Prop)
    (hp:CtPre a b b1 b2 H T) (hT:∀ j∈T,j<H.length) (hlT:l∈T) (hJ0:J [] [] H) (hJY:∀ d W G,J d W G→U G) (hM:∀ j,¬ M [] j) (hY:Yields call l H.length T (fun n:Nat=>.int .i64 n) (countL a b) [] U J E M):
    Does (ev C call H.length none af107.body { tm:=tmA af107.ntmps (zipI 0 [.yield l,.ptr b1 0,.ptr b2 0] []),df:=[],hp:=H,tc:=[] })
      (Ends C H.length af107.res (ItPost H l [] T J E M (countL a b))):=by
  obtain ⟨h1,h2,p1,p2⟩:=hp
  have ctx:ItCtx call H H l [] T (fun n:Nat=>.int .i64 n) (countL a b) U J E M:=⟨hT,by simp,hlT,Kp.refl _ _,hY,hM,hJY⟩
  have hI:ItInv H.length H l [] T J M [] H []:=ctx.start hJ0 (hJY _ _ _ hJ0)
  obtain ⟨x0,x1,x2,x3,x4,x5⟩:=bk' h1
  obtain ⟨y0,y1,y2,y3,y4,y5⟩:=bk' h2
  have hlen:=zqy a b
  have hget:=fun i (h:i<countN a b)=>zqz a b h
  have hfacts:∀ d hp tc,ItInv H.length H l [] T J M d hp tc→Bk hp b1 (.cells [.int .i64 b]):=fun d hp tc h=>bk' (h.at h1 (by simp) p1)
  obtain ⟨s,hs1,hs2⟩:∃ s:Int,(b<a→s=-1)∧(¬ b<a→s=1):=by
    by_cases h:b<a
    · exact ⟨-1,fun _=>rfl,fun k=>absurd h k⟩
    · exact ⟨1,fun k=>absurd k h,fun _=>rfl⟩
  have hval:∀ i,i<countN a b→(((if b<a then a - i else a+i:Nat):Nat):Int)=a+s * i:=by
    intro i hi
    unfold countN at hi
    split
    · rename_i h;rw[hs1 h];rw[if_pos h] at hi;omega
    · rename_i h;rw[hs2 h];omega
  have hcn:countN a b≤2000:=by unfold countN;split<;>omega
  have hlast:(a:Int)+s * (countN a b:Nat)=b+s:=by
    unfold countN
    split
    · rename_i h;rw[hs1 h];omega
    · rename_i h;rw[hs2 h];omega
  have hno:∀ i,i<countN a b→(a:Int)+s * i≠b+s:=by
    intro i hi
    unfold countN at hi
    split at hi
    · rename_i h;rw[hs1 h];omega
    · rename_i h;rw[hs2 h];omega
  have hsb:s=1∨s=-1:=by
    by_cases h:b<a
    · exact .inr (hs1 h)
    · exact .inl (hs2 h)
  have hwb:IntKind.i64.wrap ((b:Int)+s)=b+s:=zaf (by omega) (by omega)
  have hwi:∀ i:Nat,i<countN a b→IntKind.i64.wrap ((a:Int)+s * i+s)=a+s * ((i+1:Nat):Int):=fun i hi=>by
    rw[zaf (by rcases hsb with h|h<;>rw[h]<;>omega) (by rcases hsb with h|h<;>rw[h]<;>omega)]
    rcases hsb with h|h<;>rw[h]<;>omega
  have HC:=hideP (And.intro ctx (And.intro hget (And.intro hval (And.intro hno (And.intro hwi (And.intro hlast (And.intro hlen hI)))))))
  clear ctx hget hval hno hwi hlast hlen hI hY hJ0 hJY hT hlT h1 h2 hsb hM
  unfold af107 Zq Zm Zl Zo Zt Zn
  simp only[zipI]
  by_cases hba:b<a
  case' pos=>
    have hs:=hs1 hba
    refine gA ?_
  case' neg=>
    have hs:=hs2 hba
    refine gA ?_
  all_goals
    have hcn':countN a b<fuelL:=by unfold fuelL;omega
    with_reducible refine zan hC (countN a b) hcn' (fun i st=>∃ hp tc,ItInv H.length H l [] T J M ((countL a b).take i) hp tc∧st={ tm:=tmA 22 [(5,.int .i64 ((a:Int)+s * (i:Nat))),(4,.int .i64 s),(1,.ptr b1 0),(0,.yield l)],df:=[],hp:=hp,tc:=tc }) ?_ ?_ ?_
    · refine ⟨_,_,by simpa using HC.out.2.2.2.2.2.2.2,st_is ?_ rfl rfl rfl⟩
      simp[zag,zal,hs]
    · rintro i st hi ⟨hp,tc,hV,rfl⟩
      obtain ⟨x0,x1,x2,x3,x4,x5⟩:=hfacts _ _ _ hV
      obtain ⟨ctx,hget,hval,hno,hwi,hlast,hlen,hI⟩:=HC.out
      have hpre:=znj (hget i hi)
      obtain ⟨b',hp',tc',s1,s2,s3⟩:=hV.step ctx hpre
      rw[hval i hi] at s1
      have hw:=hwi i hi
      have hn1:((a:Int)+s * i != b+s)=true:=by simpa using hno i hi
      have htk:(countL a b).take (i+1)=(countL a b).take i++[if b<a then a - i else a+i]:=by rw[List.take_add_one,hget i hi];rfl
      have HS:=hideP (And.intro s2 (And.intro s3 htk))
      clear s2 s3 htk ctx hget hval hno hwi hlast hlen hI hpre hV hs hs1 hs2
      generalize hv:(a:Int)+s * i=v at *
      generalize hv2:(a:Int)+s * ((i+1:Nat):Int)=v2 at *
      cases b' with
      |true=>
        refine gA ?_
        have hn:=HS.out.1 rfl
        rw[← HS.out.2.2] at hn
        with_reducible refine ⟨_,_,hn,?_⟩
        refine st_is ?_ rfl rfl rfl
        simp[zag,zal]
      |false=>
        refine gA ?_
        exact zac (.inl rfl) rfl (HS.out.2.1 rfl).k.len (by simp only[resL];rfl) (HS.out.2.1 rfl).post
    · rintro st ⟨hp,tc,hV,rfl⟩
      obtain ⟨x0,x1,x2,x3,x4,x5⟩:=hfacts _ _ _ hV
      obtain ⟨ctx,hget,hval,hno,hwi,hlast,hlen,hI⟩:=HC.out
      rw[← hlen,List.take_length] at hV
      have HV:=hideP (hV.post ctx)
      have hl:=hV.len
      rw[hlast]
      clear hs hs1 hs2 ctx hget hval hno hwi hlast hlen hI hV
      refine gA ?_
      exact zac (.inr rfl) rfl (by simp only;omega) (by simp only[resL];rfl) HV.out
def CountI (C:Cfg)(k m:Nat):Prop:=∀ (a b b1 b2:Nat) (U:List AB→Prop),a≤1000→b≤1000→IterG C k m 107 [] [.ptr b1 0,.ptr b2 0] (fun n:Nat=>.int .i64 n) (countL a b) [] U (CtPre a b b1 b2)
theorem zqw {C:Cfg}(hC:C.calm=true)(m:Nat)(h0:Has C 107 af107):CountI C m (m+1):=by
  intro a b b1 b2 U ha hb
  refine zez hC h0.ext h0.exth h0.fns h0.whole (Nat.le_of_ble_eq_true rfl) ?_
  intro H l T J E M hp h2 h3 h4 h5 h7 h6
  exact zqv C hC _ a b b1 b2 ha hb U H l T J E M hp h2 h3 h4 h5 h7 h6
theorem znv {α:Type}{p:α→Bool}{d0:List α}{n:α}{L:List α}(h:d0++[n] <+: L)(h0:∀ x∈d0,p x=false)(h1:p n=true):L.find? p=some n:=by
  obtain ⟨t,rfl⟩:=h
  rw[List.append_assoc,List.find?_append]
  have:d0.find? p=none:=List.find?_eq_none.2 fun x hx=>by rw[h0 x hx];decide
  rw[this]
  simp[h1]
def NumF (call:CallF)(F:AV)(r:Rd.Road)(xb mb eb:Nat)(H:List AB)(L:List Nat)(p:Nat→Bool):Prop:=∀ G,Kp [mb] H G→Rx r xb mb eb G→∀ n∈L,∃ G' tc,call F [.int .i64 n] G=some (.ret (.bool (p n)),G',tc)∧(∀ j∈tc,j=mb)∧Kp tc G G'∧Rx r xb mb eb G'
def findX (p:Nat→Bool)(L:List Nat):CRes:=match L.find? p with
  |some n=>.ret (.int .i64 n)
  |none=>.pan (stopV 4)
theorem zqp (C:Cfg)(hC:C.calm=true)(hwh:∀ f,C.whole f=true)(n0 m:Nat)(r:Rd.Road)(hM:MustC (Ev.call C m))(hI:CountI C (n0+1) m)(a b b1 b2:Nat)(ha:a≤1000)(hb:b≤1000)(H:List AB)(xb mb eb:Nat)(hX:Rx r xb mb eb H)(h1:H[b1]?=some (.cells [.int .i64 b]))(h2:H[b2]?=some (.cells [.int .i64 a]))(n1:b1≠mb)(n2:b2≠mb)(fl:Fn)(fa fb:List AV)(p:Nat→Bool)(hF:NumF (Ev.call C n0) (.fn fl fa fb) r xb mb eb H (countL a b) p):
    Does (ev C (Ev.call C m) H.length none af64.body { tm:=tmA af64.ntmps (zipI 0 [.fn (.func 107) [] [.ptr b1 0,.ptr b2 0],.agg [.fn fl fa fb]] []),df:=[],hp:=H,tc:=[] })
      (Fin C H.length af64 fun x hp tc=>x=findX p (countL a b)∧(∀ j∈tc,j=mb)∧Rx r xb mb eb hp):=by
  have hx:=hX.xl
  have hm:=hX.ml
  have he:=hX.el
  have hne:=hX.ne
  have hne2:=hX.ne2
  have l1:=get_lt h1
  have l2:=get_lt h2
  unfold af64 Zq Zm Zl Zo Zs Zc Zt Zn Zi
  simp only[zipI]
  refine gA ?_
  refine zbz hC hwh (hI a b b1 b2 (Rx r xb mb eb) ha hb) (by simp[zab]) rfl [mb,H.length+1] (by simp;omega) (by simp)
    (fun d W G=>W=[]∧G[H.length+1]?=some (.cells [.int .i64 0])∧∀ n∈d,p n=false) (fun e d G=>e=.ret∧∃ d0 n,d=d0++[n]∧(∀ x∈d0,p x=false)∧p n=true∧G[H.length+1]?=some (.cells [.int .i64 n]))
    (fun rz=>?_) (fun G G' h k=>h.same fun j hj=>k j (by simp;omega) (by simp;omega)) (fun rz=>⟨rfl,by simp,by simp⟩) (fun rz=>(hX.app _).app _) (fun d W G G' h _ k=>?_) (fun e d G G' h k=>?_) ?_ ?_ ?_
  · refine ⟨?_,?_,?_,?_⟩
    · rw[List.append_assoc,List.getElem?_append_left l1];exact h1
    · rw[List.append_assoc,List.getElem?_append_left l2];exact h2
    · simp;omega
    · simp;omega
  · simp only[List.length_append,List.length_cons,List.length_nil,Nat.zero_add,Nat.add_assoc,Nat.reduceAdd] at k
    exact ⟨h.1,(k _ (get_lt h.2.1) (.inl (by omega)) (by simp) (by omega)).trans h.2.1,h.2.2⟩
  · simp only[List.length_append,List.length_cons,List.length_nil,Nat.zero_add,Nat.add_assoc,Nat.reduceAdd] at k
    obtain ⟨q1,d0,n,q2,q3,q4,q5⟩:=h
    exact ⟨q1,d0,n,q2,q3,q4,(k _ (by omega) (by omega)).trans q5⟩
  · rintro d s W G rz hpr ⟨rfl,hJ,hJp⟩ hY hK hl hWb
    simp only[List.length_append,List.length_cons,List.length_nil,Nat.zero_add,Nat.add_assoc,Nat.reduceAdd] at hl ⊢
    rw[setP1]
    refine gA ?_
    refine ⟨trivial,trivial,?_⟩
    obtain ⟨G2,hG2,k1,k2,k3,k4⟩:=zdg (G:=G) (l:=H.length+3) (.loop rz) (by omega)
    rw[← hG2]
    clear hG2
    have e0:=(k3 H.length (by omega)).trans (hK.at (b:=H.length) (x:=.cells [.fn fl fa fb]) (by simp) (by simp;omega))
    have e1:=(k3 (H.length+1) (by omega)).trans hJ
    have hX2:Rx r xb mb eb G2:=hY.kp k4 (by simp;omega) (by simp;omega) (by simp;omega)
    have hKH : Kp [mb] H G2 := ⟨by omega, fun b hb hn => by
      rw[k3 b (by omega),hK.get b (by simp;omega) (by simp at hn ⊢;omega),List.getElem?_append_left hb]⟩
    obtain ⟨H3,tc3,c1,c2,c3,c4⟩:=hF G2 hKH hX2 s (hpr.subset (by simp))
    have nt:∀ {j},H.length≤j→j∉tc3:=fun hj ht=>by have:=c2 _ ht;omega
    obtain ⟨x0,x1,x2,x3,x4,x5⟩:=bk' e0
    obtain ⟨y0,y1,y2,y3,y4,y5⟩:=bk' (c3.at e1 (nt (by omega)))
    have k23:=c3.at k2 (nt (by omega))
    have HA:=hideP (And.intro c2 (And.intro c4 (And.intro k23 hJp)))
    have h99:¬ H.length+1=H.length+3:=by omega
    clear c2 c4 k23 hJp hF hX hX2 hKH hY hK hpr hJ e0 e1 k1 k2 k3 k4 c3 nt hM hI
    cases hp:p s with
    |true=>
      rw[hp] at c1
      refine gA ?_
      obtain ⟨c2,c4,k23,hJp⟩:=HA.out
      have k:Kp [H.length+1] H3 (H3.set (H.length+1) (.cells [.int .i64 s])):=(Kp.refl _ _).set _ _ (by simp)
      refine ⟨by simp,k.at k23 (by simp),fun j hj=>?_,c4.kp k (by simp;omega) (by simp;omega) (by simp;omega),(fun h=>by cases h),fun _=>⟨rfl,d,s,rfl,hJp,hp,by rw[List.getElem?_set_self y0]⟩,fun _ _ h=>h.elim⟩
      simp at hj ⊢
      rcases hj with h|h|h
      · exact .inr (.inr (by omega))
      · exact .inr (.inl (c2 j h.1))
      · exact .inl h
    |false=>
      rw[hp] at c1
      refine gA ?_
      obtain ⟨c2,c4,k23,hJp⟩:=HA.out
      refine ⟨by simp,k23,fun j hj=>?_,c4,fun _=>⟨[],by simp,rfl,y1,fun n hn=>?_⟩,fun h=>absurd rfl h,fun _ _ h=>h.elim⟩
      · simp at hj ⊢
        rcases hj with h|h
        · exact .inr (.inl (c2 j h.1))
        · exact .inl h
      · rcases List.mem_append.1 hn with h|h
        · exact hJp n h
        · simp at h;rw[h];exact hp
  · rintro H' tc W g1 g2 g3 g4 g5 g6 ⟨rfl,g7,g8⟩
    simp only[List.length_append,List.length_cons,List.length_nil,Nat.zero_add,Nat.add_assoc,Nat.reduceAdd,List.nil_append,List.append_nil] at g1 g4 g5 ⊢
    simp only[OutB,Then]
    have hmf:=hM.f
    have hfx:findX p (countL a b)=.pan (stopV 4):=by
      unfold findX
      rw[List.find?_eq_none.2 fun x hx=>by rw[g8 x hx];decide]
    rw[hfx]
    have HA:=hideP (And.intro g1 g3)
    have HD:=hideP g4
    clear g1 g2 g3 g4 g6 g7 g8 hI hX hM hF hfx h1 h2
    refine gD ?_
    obtain ⟨g1,g3⟩:=HA.out
    refine zfy rfl HD.out (by omega) (by simp only;omega) ⟨rfl,fun j hj=>?_,g3.kp ((Kp.refl [H.length+2] H').set _ _ (by simp)) (by simp;omega) (by simp;omega) (by simp;omega)⟩
    simp at hj
    have:=g1 j (by first|exact hj.1|(rcases hj with h|h;exact h.1;exact h.1)) (by omega)
    simp at this
    omega
  · rintro e d H' tc g0 g1 g2 g3 g4 g5 g6 ⟨rfl,d0,n,rfl,g7,g8,g9⟩
    simp only[List.length_append,List.length_cons,List.length_nil,Nat.zero_add,Nat.add_assoc,Nat.reduceAdd,List.nil_append,List.append_nil] at g1 g4 g5 ⊢
    simp only[OutB,Then]
    have hfx:findX p (countL a b)=.ret (.int .i64 n):=by
      unfold findX
      rw[znv g6 g7 g8]
    rw[hfx]
    refine znw (v:=.int .i64 n) (.inl rfl) rfl g4 (by omega) (by simp only;omega) (by simp only[resL,resOf,zaa];simp[resV,pickC,List.getElem?_set_ne,g9]) ⟨rfl,fun j hj=>?_,g3.kp ((Kp.refl [H.length+2] H').set _ _ (by simp)) (by simp;omega) (by simp;omega) (by simp;omega)⟩
    simp at hj
    have:=g1 j (by first|exact hj.1|(rcases hj with h|h;exact h.1;exact h.1)) (by omega)
    simp at this
    omega
def CountC (call:CallF):Prop:=∀ (H:List AB) (a b:Int),call (.fn (.func 65) [] []) [.int .i64 a,.int .i64 b] H=some (.ret (.fn (.func 107) [] [.ptr (H.length+1) 0,.ptr H.length 0]),H++[.cells [.int .i64 a],.cells [.int .i64 b]],[])
theorem zqx (C:Cfg)(call:CallF)(H:List AB)(a b:Int):Does (ev C call H.length none af65.body { tm:=tmA af65.ntmps (zipI 0 [.int .i64 a,.int .i64 b] []),df:=[],hp:=H,tc:=[] })
    (Ends C H.length af65.res fun w hp tc=>w=.fn (.func 107) [] [.ptr (H.length+1) 0,.ptr H.length 0]∧hp=H++[.cells [.int .i64 a],.cells [.int .i64 b]]∧tc=[]):=by
  unfold af65 Zq Zm Zo Zt
  simp only[zipI]
  refine gA ?_
  exact zac (.inl rfl) rfl (by simp) (by simp only[resL,resOf,zaa];simp[*,resV]) ⟨rfl,rfl,rfl⟩
def FirstNC (call call0:CallF)(r:Rd.Road):Prop:=∀ (a b b1 b2:Nat),a≤1000→b≤1000→∀ (H:List AB) (xb mb eb:Nat),Rx r xb mb eb H→H[b1]?=some (.cells [.int .i64 b])→H[b2]?=some (.cells [.int .i64 a])→b1≠mb→b2≠mb→∀ (fl:Fn) (fa fb:List AV) (p:Nat→Bool),NumF call0 (.fn fl fa fb) r xb mb eb H (countL a b) p →
  ∃ H' tc,call (.fn (.func 64) [] []) [.fn (.func 107) [] [.ptr b1 0,.ptr b2 0],.agg [.fn fl fa fb]] H=some (findX p (countL a b),H',tc)∧(∀ j∈tc,j=mb)∧Kp tc H H'∧Rx r xb mb eb H'
theorem zue (C:Cfg)(call:CallF)(r:Rd.Road)(hS:SureC call r)(H:List AB)(xb mb eb:Nat)(hX:Rx r xb mb eb H)(n:Nat)(hn:n≤60)(b1:Nat)(h1:H[b1]?=some (.cells [.ptr xb 0])):
    Does (ev C call H.length none af66.body { tm:=tmA af66.ntmps (zipI 0 [.int .i64 n,.ptr b1 0] []),df:=[],hp:=H,tc:=[] })
      (Ends C H.length af66.res fun v hp tc=>v=.bool (Rd.sureR r 0 n)∧(∀ j∈tc,j=mb)∧Rx r xb mb eb hp):=by
  obtain ⟨H',tc,c1,c2,c3,c4⟩:=hS H xb mb eb hX 0 n ⟨by decide,by decide,by omega,by omega⟩
  obtain ⟨x0,x1,x2,x3,x4,x5⟩:=bk' h1
  have HQ:=hideP (And.intro c2 (And.intro c3.len c4))
  clear hS hX h1 c2 c3 c4
  generalize Rd.sureR r 0 n=b at *
  unfold af66 Zq Zm Zl Zo Zc Zt Zn
  simp only[zipI]
  refine gA ?_
  exact zac (.inl rfl) rfl HQ.out.2.1 (by simp only[resL,resOf,zaa];simp[*,resV]) ⟨rfl,fun j hj=>HQ.out.1 j (List.mem_filter.1 (by simpa using hj:j∈tc.filter (·<H.length))).1,HQ.out.2.2⟩
theorem ztm (C:Cfg)(call:CallF)(r:Rd.Road)(hS:SureC call r)(H:List AB)(xb mb eb:Nat)(hX:Rx r xb mb eb H)(n:Nat)(load:Int)(hL:LOk n load)(b1 b2:Nat)(h1:H[b1]?=some (.cells [.ptr xb 0]))(h2:H[b2]?=some (.cells [.int .i64 load])):
    Does (ev C call H.length none af69.body { tm:=tmA af69.ntmps (zipI 0 [.int .i64 n,.ptr b1 0,.ptr b2 0] []),df:=[],hp:=H,tc:=[] })
      (Ends C H.length af69.res fun v hp tc=>v=.bool (Rd.sureR r n load)∧(∀ j∈tc,j=mb)∧Rx r xb mb eb hp):=by
  obtain ⟨H',tc,c1,c2,c3,c4⟩:=hS H xb mb eb hX n load hL
  obtain ⟨x0,x1,x2,x3,x4,x5⟩:=bk' h1
  obtain ⟨y0,y1,y2,y3,y4,y5⟩:=bk' h2
  have HQ:=hideP (And.intro c2 (And.intro c3.len c4))
  clear hS hX h1 h2 c2 c3 c4 hL
  generalize Rd.sureR r n load=b at *
  unfold af69 Zq Zm Zl Zo Zc Zt
  simp only[zipI]
  refine gA ?_
  exact zac (.inl rfl) rfl HQ.out.2.1 (by simp only[resL,resOf,zaa];simp[*,resV]) ⟨rfl,fun j hj=>HQ.out.1 j (List.mem_filter.1 (by simpa using hj:j∈tc.filter (·<H.length))).1,HQ.out.2.2⟩
def Most2C (call:CallF)(r:Rd.Road):Prop:=∀ (H:List AB) (xb mb eb:Nat),Rx r xb mb eb H→∀ n:Nat,n≤60→∀ b1:Nat,H[b1]?=some (.cells [.ptr xb 0])→∃ H' tc,call (.fn (.func 66) [] [.ptr b1 0]) [.int .i64 n] H=some (.ret (.bool (Rd.sureR r 0 n)),H',tc)∧(∀ j∈tc,j=mb)∧Kp tc H H'∧Rx r xb mb eb H'
def Rest3C (call:CallF)(r:Rd.Road):Prop:=∀ (H:List AB) (xb mb eb:Nat),Rx r xb mb eb H→∀ (n:Nat) (load:Int),LOk n load→∀ b1 b2:Nat,H[b1]?=some (.cells [.ptr xb 0])→H[b2]?=some (.cells [.int .i64 load])→∃ H' tc,call (.fn (.func 69) [] [.ptr b1 0,.ptr b2 0]) [.int .i64 n] H=some (.ret (.bool (Rd.sureR r n load)),H',tc)∧(∀ j∈tc,j=mb)∧Kp tc H H'∧Rx r xb mb eb H'
def findRV (r:Rd.Road)(is:Bool)(o:Option Nat):AV:=.tup [.int .i64 (if Rd.errR r is=0 then ((o.getD 0:Nat):Int) else 0),.int .i64 (if Rd.errR r is=0 then (if o.isSome then 0 else 4) else Rd.errR r is)]
theorem zhb (p:Nat→Bool)(L:List Nat):(∃ n,L.find? p=some n∧findX p L=.ret (.int .i64 n))∨(L.find? p=none∧findX p L=.pan (.iface 114 (.agg [.int .i64 4]))):=by
  unfold findX
  cases h:L.find? p with
  |none=>exact .inr ⟨rfl,rfl⟩
  |some n=>exact .inl ⟨n,rfl,rfl⟩
theorem zmm:countL 60 0=(List.range 61).map (60 - ·):=rfl
theorem zml:countL 0 10=List.range 11:=rfl
theorem zud (C:Cfg)(call call0 call1:CallF)(r:Rd.Road)(hdf:C.dfk 63=some (114,true))(hHd:∀ H F is,IsFn call0 r F is H→HeadQ call r H F is)(hCo:CountC call)(hFi:Rd.valid r=true→FirstNC call call1 r)(hM2:Rd.valid r=true→Most2C call1 r)
    (hF:IsFn call0 r (.fn (.func 55) [] []) true [.cells (roadCs r),.cells [.int .i64 0]]):
    Does (ev C call ([]:List AB).length none af16.body { tm:=tmA af16.ntmps (zipI 0 [.agg (roadCs r)] []),df:=[],hp:=[],tc:=[] })
      (Fin C ([]:List AB).length af16 (Ans (findRV r true (Rd.mostR r)))):=by
  have ho:=hHd [.cells (roadCs r),.cells [.int .i64 0]] _ _ hF
  unfold findRV
  unfold CountC at hCo
  unfold af16 Zq Zm Zo Zs Zc Zt Zn Zi
  rcases ho with ⟨e,h1,h2,h3⟩|⟨h1,H1,xb,H2,tc,h3,h4,h5,h6⟩|⟨h1,H1,xb,mb,eb,H2,tc,h3,h4,h5,h6,h7,h8,h9,h10⟩
  · rw[h1,if_neg h2,if_neg h2]
    clear hHd hCo hFi hM2 hF h1
    simp only[zipI,roadCs] at *
    refine gD ?_
    refine zbl (v:=.tup [.int .i64 0,.int .i64 e]) hdf rfl (by simp only;rfl) (by simp only[resL,resOf,zaa];simp[resV,pickC]) ⟨by simp,by simp⟩
  · rw[h1,if_neg (by decide),if_neg (by decide)]
    have e4:H2[1]?=some (.cells [.int .i64 0]):=h5.at rfl (by simp)
    clear hHd hCo hFi hM2 hF h1 h5 h6
    simp only[zipI,roadCs] at *
    refine gD ?_
    refine zbl (v:=.tup [.int .i64 0,.int .i64 10]) hdf rfl (by simp only;exact e4) (by simp only[resL,resOf,zaa];simp[resV,pickC,List.getElem?_set_self (get_lt e4)]) ⟨by simp,by simp⟩
  · obtain ⟨_,hf,hcan⟩:=Rd.errR_zero h1
    rw[h1,if_pos rfl,if_pos rfl]
    have hv:Rd.valid r=true:=(Rd.valid_iff r).2 hf
    have hml:=h7.ml
    obtain ⟨H3, tc3, k1, k2, k3, k4⟩ := hFi hv 60 0 (H2.length + 2) (H2.length + 1) (by decide) (by decide) (H2 ++ [.cells [.ptr xb 0], .cells [.int .i64 60], .cells [.int .i64 0]]) xb mb eb (h7.app _) (by simp) (by simp) (by omega) (by omega) (.func 66) [] [.ptr H2.length 0] (fun n : Nat => Rd.sureR r 0 n) (by
      intro G k hG n hn
      rw[zmm] at hn
      obtain ⟨x,hx,rfl⟩:=List.mem_map.1 hn
      have:=List.mem_range.1 hx
      exact hM2 hv G xb mb eb hG (60 - x) (by omega) H2.length (k.at (by simp) (by simp;omega)))
    have e3:H3[1]?=some (.cells [.int .i64 0]):=k3.at (by rw[List.getElem?_append_left (by have:=h5.len;simp at this;omega)];exact h5.at rfl (by simp)) (fun h=>by have:=k2 _ h;simp at h9;omega)
    have hmo:(countL 60 0).find? (fun n:Nat=>Rd.sureR r 0 n)=Rd.mostR r:=rfl
    obtain ⟨f0,f1,f2,f3,f4,f5⟩:=bk' e3
    have k1':=k1
    clear hHd hFi hM2 hF h1 h5 h6 h7 h8 h9 h10 hv hf hcan k2 k3 k4
    simp only[zipI,roadCs] at *
    rcases zhb (fun n:Nat=>Rd.sureR r 0 n) (countL 60 0) with ⟨n,q1,q2⟩|⟨q1,q2⟩
    · rw[q2] at k1'
      rw[hmo] at q1
      rw[q1]
      clear k1 q2 hmo q1 e3 hml
      refine gD ?_
      refine zdk (v:=.tup [.int .i64 n,.int .i64 0]) (.inl rfl) hdf rfl (by simp) (by simp only[resL,resOf,zaa];simp[resV,pickC,f0]) ⟨by simp,by simp⟩
    · rw[q2] at k1'
      rw[hmo] at q1
      rw[q1]
      clear k1 q2 hmo q1 hml
      refine gD ?_
      refine zbl (v:=.tup [.int .i64 0,.int .i64 4]) hdf rfl (by simp only;exact e3) (by simp only[resL,resOf,zaa];simp[resV,pickC,List.getElem?_set_self f0]) ⟨by simp,by simp⟩
theorem ztl (C:Cfg)(call call0 call1:CallF)(r:Rd.Road)(hdf:C.dfk 67=some (114,true))(hHd:∀ H F is,IsFn call0 r F is H→HeadQ call r H F is)(hCo:CountC call)(hFi:Rd.valid r=true→FirstNC call call1 r)(hM2:Rd.valid r=true→Rest3C call1 r)(load:Int)
    (hF:IsFn call0 r (.fn (.func 68) [] [.ptr 1 0]) (Rd.isLoad load) [.cells (roadCs r),.cells [.int .i64 load],.cells [.int .i64 0]]):
    Does (ev C call ([]:List AB).length none af18.body { tm:=tmA af18.ntmps (zipI 0 [.agg (roadCs r),.int .i64 load] []),df:=[],hp:=[],tc:=[] })
      (Fin C ([]:List AB).length af18 (Ans (findRV r (Rd.isLoad load) (Rd.restR r load)))):=by
  have ho:=hHd [.cells (roadCs r),.cells [.int .i64 load],.cells [.int .i64 0]] _ _ hF
  unfold findRV
  unfold CountC at hCo
  generalize hb:Rd.isLoad load=is at *
  unfold af18 Zq Zm Zo Zs Zc Zt Zn Zi
  rcases ho with ⟨e,h1,h2,h3⟩|⟨h1,H1,xb,H2,tc,h3,h4,h5,h6⟩|⟨h1,H1,xb,mb,eb,H2,tc,h3,h4,h5,h6,h7,h8,h9,h10⟩
  · rw[h1,if_neg h2,if_neg h2]
    clear hHd hCo hFi hM2 hF h1 hb
    simp only[zipI,roadCs] at *
    refine gD ?_
    refine zbl (v:=.tup [.int .i64 0,.int .i64 e]) hdf rfl (by simp only;rfl) (by simp only[resL,resOf,zaa];simp[resV,pickC]) ⟨by simp,by simp⟩
  · rw[h1,if_neg (by decide),if_neg (by decide)]
    have e4:H2[2]?=some (.cells [.int .i64 0]):=h5.at rfl (by simp)
    clear hHd hCo hFi hM2 hF h1 h5 h6 hb
    simp only[zipI,roadCs] at *
    refine gD ?_
    refine zbl (v:=.tup [.int .i64 0,.int .i64 10]) hdf rfl (by simp only;exact e4) (by simp only[resL,resOf,zaa];simp[resV,pickC,List.getElem?_set_self (get_lt e4)]) ⟨by simp,by simp⟩
  · obtain ⟨hi,hf,hcan⟩:=Rd.errR_zero h1
    subst hi
    rw[h1,if_pos rfl,if_pos rfl]
    have hv:Rd.valid r=true:=(Rd.valid_iff r).2 hf
    have hml:=h7.ml
    have h2l:2<H2.length:=by have:=h5.len;simp at this;omega
    have el:H2[1]?=some (.cells [.int .i64 load]):=h5.at rfl (by simp)
    obtain ⟨H3, tc3, k1, k2, k3, k4⟩ := hFi hv 0 10 (H2.length + 2) (H2.length + 1) (by decide) (by decide) (H2 ++ [.cells [.ptr xb 0], .cells [.int .i64 0], .cells [.int .i64 10]]) xb mb eb (h7.app _) (by simp) (by simp) (by omega) (by omega) (.func 69) [] [.ptr H2.length 0, .ptr 1 0] (fun n : Nat => Rd.sureR r n load) (by
      intro G k hG n hn
      rw[zml] at hn
      have:=List.mem_range.1 hn
      exact hM2 hv G xb mb eb hG n load (zkn hb (by omega) (by omega)) H2.length 1 (k.at (by simp) (by simp;omega)) (k.at (by rw[List.getElem?_append_left (by omega)];exact el) (by simp at h9 ⊢;omega)))
    have e3:H3[2]?=some (.cells [.int .i64 0]):=k3.at (by rw[List.getElem?_append_left (by omega)];exact h5.at rfl (by simp)) (fun h=>by have:=k2 _ h;simp at h9;omega)
    have hmo:(countL 0 10).find? (fun n:Nat=>Rd.sureR r n load)=Rd.restR r load:=rfl
    obtain ⟨f0,f1,f2,f3,f4,f5⟩:=bk' e3
    have k1':=k1
    clear hHd hFi hM2 hF h1 h5 h6 h7 h8 h9 h10 hv hf hcan k2 k3 k4 hb el
    simp only[zipI,roadCs] at *
    rcases zhb (fun n:Nat=>Rd.sureR r n load) (countL 0 10) with ⟨n,q1,q2⟩|⟨q1,q2⟩
    · rw[q2] at k1'
      rw[hmo] at q1
      rw[q1]
      clear k1 q2 hmo q1 e3 hml
      refine gD ?_
      refine zdk (v:=.tup [.int .i64 n,.int .i64 0]) (.inl rfl) hdf rfl (by simp) (by simp only[resL,resOf,zaa];simp[resV,pickC,f0]) ⟨by simp,by simp⟩
    · rw[q2] at k1'
      rw[hmo] at q1
      rw[q1]
      clear k1 q2 hmo q1 hml
      refine gD ?_
      refine zbl (v:=.tup [.int .i64 0,.int .i64 4]) hdf rfl (by simp only;exact e3) (by simp only[resL,resOf,zaa];simp[resV,pickC,List.getElem?_set_self f0]) ⟨by simp,by simp⟩
end Ro
end Ev
def andn (a b:Nat):Nat:=a ^^^ (a&&&b)
theorem zff (a b i:Nat):(andn a b).testBit i=(a.testBit i&&!b.testBit i):=by
  unfold andn
  rw[Nat.testBit_xor,Nat.testBit_and]
  cases a.testBit i<;>cases b.testBit i<;>rfl
theorem zwk (a b:Nat):andn a b≤a:=by
  refine Nat.le_of_testBit ?_
  intro i h
  rw[zff] at h
  simp at h;exact h.1
namespace Clm
theorem zne (p:Nat→Bool){n v:Nat}(hv:v<n):setOf p n ||| 2 ^ v=setOf (fun u=>p u || decide (u=v)) n:=by
  refine Nat.eq_of_testBit_eq fun i=>?_
  rw[Nat.testBit_or,setOf_bit,setOf_bit,Nat.testBit_two_pow]
  by_cases h:i=v
  · subst h;simp[hv]
  · have:¬ v=i:=fun e=>h e.symm
    simp[h,this]
theorem zht (p:Nat→Bool)(n v:Nat):andn (setOf p n) (2 ^ v)=setOf (fun u=>p u&&!decide (u=v)) n:=by
  refine Nat.eq_of_testBit_eq fun i=>?_
  rw[zff,setOf_bit,setOf_bit,Nat.testBit_two_pow]
  by_cases h:i=v
  · subst h;simp
  · have:¬ v=i:=fun e=>h e.symm
    simp[h,this]
theorem zbv {p q:Nat→Bool}{n:Nat}(h:∀ u,u<n→p u=q u):setOf p n=setOf q n:=by
  refine Nat.eq_of_testBit_eq fun i=>?_
  rw[setOf_bit,setOf_bit]
  by_cases hi:i<n
  · rw[h i hi]
  · simp[hi]
theorem setOf_true (n:Nat):setOf (fun _=>true) n=2 ^ n - 1:=by
  refine Nat.eq_of_testBit_eq fun i=>?_
  rw[setOf_bit,Nat.testBit_two_pow_sub_one];simp
theorem setOf_false (n:Nat):setOf (fun _=>false) n=0:=by
  refine Nat.eq_of_testBit_eq fun i=>?_
  rw[setOf_bit];simp
end Clm
namespace Ev
namespace K
theorem zlo {d:Nat}(h:d≤40):IntKind.i64.wrap (1 * 2 ^ (min ((d:Int).toNat) IntKind.i64.bits))=((2 ^ d:Nat):Int)∧IntKind.i64.wrap (2 ^ (min ((d:Int).toNat) IntKind.i64.bits))=((2 ^ d:Nat):Int)∧IntKind.i64.wrap (2 ^ (min d IntKind.i64.bits))=((2 ^ d:Nat):Int):=by
  have hb:IntKind.i64.bits=64:=rfl
  have h1:min ((d:Int).toNat) IntKind.i64.bits=d:=by rw[hb];omega
  have h1':min d IntKind.i64.bits=d:=by rw[hb];omega
  have h2:(2:Int) ^ d=((2 ^ d:Nat):Int):=by simp
  have h3:2 ^ d≤2 ^ 40:=Nat.pow_le_pow_right (by decide) h
  have h4:∀ q:Nat,q≤2 ^ 40→IntKind.i64.wrap (q:Int)=q:=by
    intro q hq
    exact zaf (by omega) (by omega)
  rw[h1,h1',Int.one_mul,h2]
  exact ⟨h4 _ h3,h4 _ h3,h4 _ h3⟩
theorem zdh {a:Nat}(h:a<2 ^ 62):(BitVec.ofInt IntKind.i64.bits (a:Int)).toNat=a:=by
  have hb:IntKind.i64.bits=64:=rfl
  rw[hb,BitVec.toNat_ofInt];omega
theorem or_i64 {a b:Nat}(ha:a<2 ^ 62)(hb:b<2 ^ 62):IntKind.i64.wrap ((BitVec.ofInt IntKind.i64.bits (a:Int) ||| BitVec.ofInt IntKind.i64.bits (b:Int)).toNat)=((a ||| b:Nat):Int):=by
  rw[BitVec.toNat_or,zdh ha,zdh hb]
  have:=Nat.or_lt_two_pow ha hb
  exact zaf (by omega) (by omega)
theorem zyx {a b:Nat}(ha:a<2 ^ 62)(hb:b<2 ^ 62):IntKind.i64.wrap ((BitVec.ofInt IntKind.i64.bits (a:Int)&&&~~~ BitVec.ofInt IntKind.i64.bits (b:Int)).toNat)=((andn a b:Nat):Int):=by
  have e:(BitVec.ofInt IntKind.i64.bits (a:Int)&&&~~~ BitVec.ofInt IntKind.i64.bits (b:Int)).toNat=andn a b:=by
    refine Nat.eq_of_testBit_eq fun i=>?_
    rw[BitVec.toNat_and,Nat.testBit_and,zdh ha,zff]
    rw[BitVec.testBit_toNat,BitVec.getLsbD_not,← BitVec.testBit_toNat,zdh hb]
    by_cases hi:i<IntKind.i64.bits
    · simp[hi]
    · have:a.testBit i=false:=Nat.testBit_lt_two_pow (Nat.lt_of_lt_of_le ha (Nat.pow_le_pow_right (by decide) (by have hb:IntKind.i64.bits=64:=rfl;omega)))
      simp[this]
  rw[e]
  have:=zwk a b
  exact zaf (by omega) (by omega)
end K
namespace Ro
open K
attribute [local simp] ev1 wantG spineK spine float xnew xval xeff zab zae zau zah zai addFl cellsOf pickC alive slLen slFt binI maxA maxK minA minK aeqK aeqS AV.cells spA zad fillA setAt bitsI nat_nn zav AV.plain apart
set_option maxRecDepth 100000
set_option maxHeartbeats 4000000
def wkT (r:Rd.Road):Nat→Nat × Int
  |0=>(0,0)
  |i+1=>(Rd.weakN r i,(Rd.heightsR r (Rd.weakN r i) r.events.length).lo)
theorem zwo (r:Rd.Road):wkT r 1=(0,(Rd.heightsR r 0 r.events.length).lo):=rfl
theorem wkT_lt (r:Rd.Road){i:Nat}(h0:i≠0)(h:(Rd.heightsR r i r.events.length).lo<(wkT r i).2):wkT r (i+1)=(i,(Rd.heightsR r i r.events.length).lo):=by
  cases i with
  |zero=>exact absurd rfl h0
  |succ k=>
    have h:(Rd.heightsR r (k+1) r.events.length).lo<(Rd.heightsR r (Rd.weakN r k) r.events.length).lo:=h
    show (Rd.weakN r (k+1),_)=_
    have:Rd.weakN r (k+1)=k+1:=by rw[Rd.weakN,if_pos h]
    rw[this]
theorem wkT_ge (r:Rd.Road){i:Nat}(h0:i≠0)(h:¬ (Rd.heightsR r i r.events.length).lo<(wkT r i).2):wkT r (i+1)=wkT r i:=by
  cases i with
  |zero=>exact absurd rfl h0
  |succ k=>
    have h:¬ (Rd.heightsR r (k+1) r.events.length).lo<(Rd.heightsR r (Rd.weakN r k) r.events.length).lo:=h
    show (Rd.weakN r (k+1),_)=(Rd.weakN r k,_)
    have:Rd.weakN r (k+1)=Rd.weakN r k:=by rw[Rd.weakN,if_neg h]
    rw[this]
theorem zrt (C:Cfg)(hC:C.calm=true)(call call0:CallF)(r:Rd.Road)(hdf:C.dfk 70=some (114,true))(hHd:∀ H F is,IsFn call0 r F is H→HeadQ call r H F is)(hHs:Rd.valid r=true→HeightsC call r)
    (hF:IsFn call0 r (.fn (.func 55) [] []) true [.cells (roadCs r),.cells [.int .i64 0]]):
    Does (ev C call ([]:List AB).length none af20.body { tm:=tmA af20.ntmps (zipI 0 [.agg (roadCs r)] []),df:=[],hp:=[],tc:=[] })
      (Fin C ([]:List AB).length af20 (Ans (numRV r true (Rd.weakR r)))):=by
  have ho:=hHd [.cells (roadCs r),.cells [.int .i64 0]] _ _ hF
  unfold numRV
  unfold af20 Zq Zm Zl Zo Zs Zc Zt Zn Zi
  rcases ho with ⟨e,h1,h2,h3⟩|⟨h1,H1,xb,H2,tc,h3,h4,h5,h6⟩|⟨h1,H1,xb,mb,eb,H2,tc,h3,h4,h5,h6,h7,h8,h9,h10⟩
  · rw[h1,if_neg h2]
    clear hHd hHs hF h1
    simp only[zipI,roadCs] at *
    refine gD ?_
    refine zbl (v:=.tup [.int .i64 0,.int .i64 e]) hdf rfl (by simp only;rfl) (by simp only[resL,resOf,zaa];simp[resV,pickC]) ⟨by simp,by simp⟩
  · rw[h1,if_neg (by decide)]
    have e4:H2[1]?=some (.cells [.int .i64 0]):=h5.at rfl (by simp)
    clear hHd hHs hF h1 h5 h6
    simp only[zipI,roadCs] at *
    refine gD ?_
    refine zbl (v:=.tup [.int .i64 0,.int .i64 10]) hdf rfl (by simp only;exact e4) (by simp only[resL,resOf,zaa];simp[resV,pickC,List.getElem?_set_self (get_lt e4)]) ⟨by simp,by simp⟩
  · obtain ⟨_,hf,hcan⟩:=Rd.errR_zero h1
    rw[h1,if_pos rfl]
    have hv:Rd.valid r=true:=(Rd.valid_iff r).2 hf
    have hml:=h7.ml
    have hnp:=hf.parts
    have e0:H2[0]?=some (.cells (roadCs r)):=h5.at rfl (by simp)
    have e1:H2[1]?=some (.cells [.int .i64 0]):=h5.at rfl (by simp)
    obtain ⟨f0,f1,f2,f3,f4,f5⟩:=bk' e0
    have hHs':=hHs hv
    have hwk:(Rd.weakR r:Int)=(wkT r r.parts.length).1:=by
      obtain ⟨k,hk⟩:∃ k,r.parts.length=k+1:=⟨r.parts.length - 1,by omega⟩
      unfold Rd.weakR
      rw[hk];rfl
    rw[hwk]
    have HX:=hideP (And.intro hHs' (And.intro h7 (And.intro e0 (And.intro e1 h9))))
    clear hHd hHs hF h1 h5 h6 h7 h8 h9 h10 hv hf hcan hHs' e0 e1 hwk
    simp only[zipI,roadCs] at *
    refine gD ?_
    with_reducible refine zan hC r.parts.length (by unfold fuelL;omega) (fun i st=>∃ hp,Rx r xb mb eb hp∧hp[0]?=some (.cells (roadCs r))∧hp[1]?=some (.cells [.int .i64 0])∧st={ tm:=tmA 37 [(16,.int .i64 i),(15,.int .i64 r.parts.length),(6,.int .i64 (wkT r i).2),(5,.int .i64 (wkT r i).1),(4,.ptr xb 0),(3,.ptr 1 0),(1,.ptr 0 0)],df:=[.call 70 [.ptr 1 0]],hp:=hp,tc:=[] }) ?_ ?_ ?_
    · refine ⟨H2,HX.out.2.1,HX.out.2.2.1,HX.out.2.2.2.1,?_⟩
      refine st_is ?_ rfl rfl ?_
      · simp[zag,zal,wkT]
      · simp
    · clear f0 f1 f2 f3 f4 f5
      rintro i st hi ⟨hp,k1,k2,k3,rfl⟩
      obtain ⟨hHs,h7,e0,e1,h9⟩:=HX.out
      simp at h9
      obtain ⟨H3,tc3,c1,c2,c3,c4⟩:=hHs hp xb mb eb k1 i hi r.events.length (Nat.le_refl _)
      obtain ⟨f0,f1,f2,f3,f4,f5⟩:=bk' k2
      have nt:∀ j,j<2→j∉tc3:=fun j hj h=>by have:=c2 _ h;omega
      have HA:=hideP (And.intro c4 (And.intro (c3.at k2 (nt 0 (by decide))) (c3.at k3 (nt 1 (by decide)))))
      have hwi:IntKind.i64.wrap (↑i+1)=↑i+1:=zaf (by omega) (by omega)
      have hcase:(i=0∧wkT r (i+1)=(0,(Rd.heightsR r i r.events.length).lo))∨(i≠0∧(Rd.heightsR r i r.events.length).lo<(wkT r i).2∧wkT r (i+1)=(i,(Rd.heightsR r i r.events.length).lo))∨(i≠0∧¬ (Rd.heightsR r i r.events.length).lo<(wkT r i).2∧wkT r (i+1)=wkT r i):=by
        by_cases h0:i=0
        · subst h0;exact .inl ⟨rfl,zwo r⟩
        · by_cases hlt:(Rd.heightsR r i r.events.length).lo<(wkT r i).2
          · exact .inr (.inl ⟨h0,hlt,wkT_lt r h0 hlt⟩)
          · exact .inr (.inr ⟨h0,hlt,wkT_ge r h0 hlt⟩)
      clear c2 c3 c4 hHs h7 e0 e1 nt k1 k3 k2
      simp only[roadCs] at f1 f2 f4 f5
      generalize Rd.heightsR r i r.events.length=sp at *
      rcases hcase with ⟨rfl,h2⟩|⟨h0,hlt,h2⟩|⟨h0,hlt,h2⟩
      · have HW:=hideP h2
        clear h2
        have hw1:IntKind.i64.wrap 1=1:=by decide
        simp only[Int.natCast_zero] at *
        refine gA ?_
        refine ⟨_,HA.out.1,HA.out.2.1,HA.out.2.2,?_⟩
        rw[HW.out]
        refine st_is ?_ rfl rfl ?_
        · simp[zag,zal]
        · simp
      · have h0':((i:Int)==0)=false:=by simp;omega
        have HW:=hideP h2
        clear h2
        generalize wkT r i=wt at *
        refine gA ?_
        refine ⟨_,HA.out.1,HA.out.2.1,HA.out.2.2,?_⟩
        rw[HW.out]
        refine st_is ?_ rfl rfl ?_
        · simp[zag,zal]
        · simp
      · have h0':((i:Int)==0)=false:=by simp;omega
        have HW:=hideP h2
        clear h2
        generalize hwt:wkT r i=wt at *
        refine gA ?_
        refine ⟨_,HA.out.1,HA.out.2.1,HA.out.2.2,?_⟩
        rw[HW.out]
        refine st_is ?_ rfl rfl ?_
        · simp[zag,zal]
        · simp
    · rintro st ⟨hp,k1,k2,k3,rfl⟩
      obtain ⟨g0,g1,g2,g3,g4,g5⟩:=bk' k3
      clear f0 f1 f2 f3 f4 f5 k1 k2 k3
      generalize wkT r r.parts.length=wt at *
      refine gA ?_
      refine zdk (v:=.tup [.int .i64 wt.1,.int .i64 0]) (.inl rfl) hdf rfl (by simp) (by simp only[resL,resOf,zaa];simp[resV,pickC,g0]) ⟨by simp,by simp⟩
end Ro
theorem zku {C:Cfg}{D f b:Nat}{k:Nat × Bool}{fn:AFunc}{Q:CRes→List AB→List Nat→Prop}{e:AExit}{st:St}{v:AV}(he:e=.ret∨e=.normal)(hk:C.dfk f=some k)(hd:st.df=[.mark D,.call f [.ptr b 0]])(hD:st.hp[D]?=some .dfr)(hr:(resL { st with hp:=st.hp.set D .dead,tc:=[D].filter (·<0)++st.tc } fn.res).map resV=some v)(hq:Q (.ret v) (st.hp.set D .dead) ([D].filter (·<0)++st.tc)):K.Fin C 0 fn Q e st:=by
  refine ⟨.ret v,{ st with hp:=st.hp.set D .dead,tc:=[D].filter (·<0)++st.tc },?_,Nat.zero_le _,hq⟩
  have h1:runDefs C 0 st.df none st=some (none,{ st with hp:=st.hp.set D .dead,tc:=[D].filter (·<0)++st.tc }):=by
    conv=>lhs;rw[hd]
    simp only[runDefs,hD,hk]
  have : (match runDefs C 0 st.df none st with
    |some (none,st)=>(resL st fn.res).map fun vs=>(CRes.ret (resV vs),st)
    |_=>none)=some (.ret v,{ st with hp:=st.hp.set D .dead,tc:=[D].filter (·<0)++st.tc }):=by
    rw[h1]
    simp only
    cases hr':resL { st with hp:=st.hp.set D .dead,tc:=[D].filter (·<0)++st.tc } fn.res with
    |none=>rw[hr'] at hr;cases hr
    |some vs=>rw[hr'] at hr;cases hr;rfl
  rcases he with rfl|rfl<;>exact this
namespace Ro
open K
attribute [local simp] ev1 wantG spineK spine float xnew xval xeff zab zae zau zah zai addFl cellsOf pickC alive slLen slFt binI maxA maxK minA minK aeqK aeqS AV.cells spA zad fillA setAt bitsI nat_nn zav AV.plain apart
open Clm (setOf setOf_lt zne zht zbv)
set_option maxRecDepth 100000
set_option maxHeartbeats 4000000
def hiB (r:Rd.Road)(ls:List Int)(v:Nat)(w:Rd.Way):Bool:=decide (Rd.heightR r w.part w.first.hi ls (v+1)<0)
def loB (r:Rd.Road)(ls:List Int)(v:Nat)(w:Rd.Way):Bool:=decide (Rd.heightR r w.part w.first.lo ls (v+1)<0)
def allB (r:Rd.Road)(ls:List Int)(v i:Nat):Bool:=(Rd.waysR r i ls (Rd.everyR r)).all (hiB r ls v)
def anyB (r:Rd.Road)(ls:List Int)(v i:Nat):Bool:=(Rd.waysR r i ls (Rd.everyR r)).any (loB r ls v)
def sureB (r:Rd.Road)(ls:List Int)(v:Nat):Bool:=(List.range r.parts.length).any (allB r ls v)
def someB (r:Rd.Road)(ls:List Int)(v:Nat):Bool:=(List.range r.parts.length).any (anyB r ls v)
theorem zsg (r:Rd.Road):Rd.surelyR r=setOf (fun v=>(Rd.toldR r (Rd.everyR r)).all fun ls=>sureB r ls v) r.events.length:=rfl
theorem zps (r:Rd.Road):Rd.perhapsR r=setOf (fun v=>(Rd.toldR r (Rd.everyR r)).any fun ls=>someB r ls v) r.events.length:=rfl
def allS (r:Rd.Road)(d:List (List Int))(s:List Int)(v:Nat):Nat:=setOf (fun u=>(d.all fun ls=>sureB r ls u)&&(decide (v≤u) || sureB r s u)) r.events.length
def sumS (r:Rd.Road)(d:List (List Int))(s:List Int)(v:Nat)(b:Bool):Nat:=setOf (fun u=>(d.any fun ls=>someB r ls u) || (decide (u<v)&&someB r s u) || (decide (u=v)&&b)) r.events.length
theorem zwm (r:Rd.Road)(d:List (List Int))(s:List Int):allS r d s 0=setOf (fun u=>d.all fun ls=>sureB r ls u) r.events.length:=by
  unfold allS;congr 1;funext u;simp
theorem zzb (r:Rd.Road)(d:List (List Int))(s:List Int):allS r d s r.events.length=setOf (fun u=>(d++[s]).all fun ls=>sureB r ls u) r.events.length:=by
  unfold allS
  refine zbv fun u hu=>?_
  have:¬ r.events.length≤u:=by omega
  simp[this]
theorem yax (r:Rd.Road)(d:List (List Int))(s:List Int){v:Nat}(hv:sureB r s v=false):andn (allS r d s v) (2 ^ v)=allS r d s (v+1):=by
  unfold allS
  rw[zht]
  refine zbv fun u hu=>?_
  by_cases h:u=v
  · subst h
    have:¬ u+1≤u:=by omega
    simp[hv]
  · have e:decide (v≤u)=decide (v+1≤u):=by congr 1;simp;omega
    simp[h,e]
theorem zza (r:Rd.Road)(d:List (List Int))(s:List Int){v:Nat}(hv:sureB r s v=true):allS r d s v=allS r d s (v+1):=by
  unfold allS
  refine zbv fun u hu=>?_
  by_cases h:u=v
  · subst h;simp[hv]
  · have e:decide (v≤u)=decide (v+1≤u):=by congr 1;simp;omega
    rw[e]
theorem zsk (r:Rd.Road)(d:List (List Int))(s:List Int):sumS r d s 0 false=setOf (fun u=>d.any fun ls=>someB r ls u) r.events.length:=by
  unfold sumS;congr 1;funext u;simp
theorem zwx (r:Rd.Road)(d:List (List Int))(s:List Int):sumS r d s r.events.length false=setOf (fun u=>(d++[s]).any fun ls=>someB r ls u) r.events.length:=by
  unfold sumS
  refine zbv fun u hu=>?_
  simp[hu]
theorem zzl (r:Rd.Road)(d:List (List Int))(s:List Int){v:Nat}(hv:v<r.events.length)(b:Bool):sumS r d s v b ||| 2 ^ v=sumS r d s v true:=by
  unfold sumS
  rw[zne _ hv]
  refine zbv fun u hu=>?_
  by_cases h:u=v
  · subst h;simp
  · simp[h]
theorem zsl (r:Rd.Road)(d:List (List Int))(s:List Int)(v:Nat):sumS r d s v (someB r s v)=sumS r d s (v+1) false:=by
  unfold sumS
  refine zbv fun u hu=>?_
  by_cases h:u=v
  · subst h;simp
  · have e:decide (u<v)=decide (u<v+1):=by congr 1;simp;omega
    simp[h,e]
def belowRV (r:Rd.Road):AV:=.tup [.int .i64 (if Rd.errR r true=0 then (Rd.surelyR r:Int) else 0),.int .i64 (if Rd.errR r true=0 then (Rd.perhapsR r:Int) else 0),.int .i64 (Rd.errR r true)]
theorem zrh (C:Cfg)(hC:C.calm=true)(hwh:∀ f,C.whole f=true)(n0 m:Nat)(call0:CallF)(r:Rd.Road)(hdf:C.dfk 54=some (114,true))(hHd:∀ H F is,IsFn call0 r F is H→HeadQ (Ev.call C m) r H F is)(hTd:ToldC (Ev.call C m))(hI:Rd.valid r=true→ToldI C (n0+1) m r)(hE:Rd.valid r=true→EveryC (Ev.call C m) r)(hE0:Rd.valid r=true→EveryC (Ev.call C n0) r)(hW:Rd.valid r=true→WaysC (Ev.call C n0) r)(hHe:Rd.valid r=true→HeightC (Ev.call C n0) r)
    (hF:IsFn call0 r (.fn (.func 55) [] []) true [.cells (roadCs r),.cells [.int .i64 0]]):
    Does (ev C (Ev.call C m) ([]:List AB).length none af13.body { tm:=tmA af13.ntmps (zipI 0 [.agg (roadCs r)] []),df:=[],hp:=[],tc:=[] })
      (Fin C ([]:List AB).length af13 (Ans (belowRV r))):=by
  have ho:=hHd [.cells (roadCs r),.cells [.int .i64 0]] _ _ hF
  unfold belowRV
  unfold af13 Zq Zm Zl Zo Zs Zd Ze Zc Zt Zn Zi
  rcases ho with ⟨e,h1,h2,h3⟩|⟨h1,H1,xb,H2,tc,h3,h4,h5,h6⟩|⟨h1,H1,xb,mb,eb,H2,tc,h3,h4,h5,h6,h7,h8,h9,h10⟩
  · rw[h1,if_neg h2,if_neg h2]
    clear hHd hI hE hE0 hW hHe hTd hF h1
    simp only[zipI,roadCs] at *
    refine gD ?_
    refine zbl (v:=.tup [.int .i64 0,.int .i64 0,.int .i64 e]) hdf rfl (by simp only;rfl) (by simp only[resL,resOf,zaa];simp[resV,pickC]) ⟨by simp,by simp⟩
  · rw[h1,if_neg (by decide),if_neg (by decide)]
    have e4:H2[1]?=some (.cells [.int .i64 0]):=h5.at rfl (by simp)
    clear hHd hI hE hE0 hW hHe hTd hF h1 h5 h6
    simp only[zipI,roadCs] at *
    refine gD ?_
    refine zbl (v:=.tup [.int .i64 0,.int .i64 0,.int .i64 10]) hdf rfl (by simp only;exact e4) (by simp only[resL,resOf,zaa];simp[resV,pickC,List.getElem?_set_self (get_lt e4)]) ⟨by simp,by simp⟩
  · obtain ⟨_,hr,hcan⟩:=Rd.errR_zero h1
    rw[h1,if_pos rfl,if_pos rfl]
    have hv:Rd.valid r=true:=(Rd.valid_iff r).2 hr
    have hI:=hI hv
    have hE:=hE hv
    have hE0:=hE0 hv
    have hW:=hW hv
    have hHe:=hHe hv
    have hxl:=h7.xl;have hml:=h7.ml;have hel:=h7.el;have hne:=h7.ne;have hne2:=h7.ne2
    have h2l:1<H2.length:=by have:=h5.len;simp at this;omega
    have e0:H2[0]?=some (.cells (roadCs r)):=h5.at rfl (by simp)
    have e1:H2[1]?=some (.cells [.int .i64 0]):=h5.at rfl (by simp)
    obtain ⟨f0,f1,f2,f3,f4,f5⟩:=bk' e0
    have hev:=fun K=>hE (H2++K) xb _ _ (h7.app K).x
    obtain ⟨s1,s2,s3⟩:=zlo (d:=r.events.length) (by have:=hr.events;omega)
    have hp:0<2 ^ r.events.length:=Nat.pow_pos (by decide)
    have hp2:2 ^ r.events.length≤2 ^ 10:=Nat.pow_le_pow_right (by decide) hr.events
    have hw0:IntKind.i64.wrap (((2 ^ r.events.length:Nat):Int) - 1)=((2 ^ r.events.length - 1:Nat):Int):=by rw[zaf (by omega) (by omega)];omega
    have hall0:=Clm.setOf_true r.events.length
    rw[← hall0] at hw0
    have hb9:2≤xb∧2≤mb∧2≤eb:=by simp at h8 h9 h10;omega
    have HX:=hideP (And.intro hE0 (And.intro hW (And.intro hHe (And.intro h7 (And.intro e0 (And.intro e1 hall0))))))
    clear hHd hE hE0 hW hHe hF h1 h5 h6 h7 h8 h9 h10 hv hcan e0 e1 hall0 hp hp2
    generalize hP2:2 ^ r.events.length=P2 at *
    generalize hAL:setOf (fun _=>true) r.events.length=AL at *
    unfold ToldC at hTd
    simp only[zipI,roadCs] at *
    refine gL ?_
    refine zbz hC hwh (hI xb mb eb (H2.length+3) (H2.length+4) (Rd.everyR r)) (by simp[zab]) rfl [H2.length+1,H2.length+2] (by simp) (by simp;omega)
      (fun d W G=>W=[]∧G[H2.length+1]?=some (.cells [.int .i64 (setOf (fun u=>d.all fun ls=>sureB r ls u) r.events.length:Nat)])∧G[H2.length+2]?=some (.cells [.int .i64 (setOf (fun u=>d.any fun ls=>someB r ls u) r.events.length:Nat)])) (fun e d G=>False) (fun rz=>?_) (fun G G' h k=>h.same fun j hj=>k j (by simp;omega) (by simp;omega))
      (fun rz=>⟨rfl,?_,?_⟩) (fun rz=>(HX.out.2.2.2.1.app _).app _) (fun d W G G' h _ k=>?_) (fun e d G G' h k=>h) ?_ ?_ (fun _ _ _ _ _ _ _ _ _ _ _ h=>h.elim)
    · refine ⟨by simp,by simp,?_,?_,by omega,by omega,?_,?_,by simp;omega⟩<;>(simp;omega)
    · simp[hAL]
    · simp[Clm.setOf_false]
    · simp only[List.length_append,List.length_cons,List.length_nil,Nat.zero_add,Nat.add_assoc,Nat.reduceAdd] at k
      exact ⟨h.1,(k _ (get_lt h.2.1) (.inl (by omega)) (by simp;omega) (by omega)).trans h.2.1,(k _ (get_lt h.2.2) (.inl (by omega)) (by simp;omega) (by omega)).trans h.2.2⟩
    · rintro d s W G rz hpr ⟨rfl,hJ1,hJ2⟩ hY hK hl hWb
      simp only[List.length_append,List.length_cons,List.length_nil,Nat.zero_add,Nat.add_assoc,Nat.reduceAdd] at hl ⊢
      rw[setP1]
      obtain ⟨hE0,hW,hHe,h7,e0,e1,hall0⟩:=HX.out
      have hst:s∈Rd.toldR r (Rd.everyR r):=hpr.subset (by simp)
      obtain ⟨hs,hsw⟩:=Rd.told_in hst
      obtain ⟨hld,hls⟩:=all_ld hr hs
      have hRl:=zbg (fnOf s)
      have hRp:=zcr (fnOf s)
      have hRa:=zbs (fnOf s)
      have hW':=fun G h i hi=>hW G xb mb eb h i hi (fnOf s) hld (Rd.everyR r)
      have hHe':=fun G h w hp y b1 b2 many hm=>hHe G xb mb eb h w hp y b1 b2 (fnOf s) hld many hm
      simp only[hls] at hHe'
      simp only[ldA]
      generalize arr10 (fnOf s)=R at *
      refine gA ?_
      refine ⟨trivial,?_,?_⟩
      · rw[List.getElem?_append_left (by omega)]
      obtain ⟨G2,hG2,k1,k2,k3,k4⟩:=zdg (G:=G++[.cells R]) (l:=H2.length+6) (.loop rz) (by simp;omega)
      rw[← hG2]
      clear hG2
      have j3:∀ {j x},G[j]?=some x→j≠H2.length+6→G2[j]?=some x:=fun {j x} hx hj=>by rw[k3 _ hj,List.getElem?_append_left (get_lt hx)];exact hx
      have q0:=j3 (hK.at (b:=0) (x:=.cells (roadCs r)) (by rw[List.getElem?_append_left (by omega)];exact e0) (by simp;omega)) (by omega)
      have q1:=j3 (hK.at (b:=H2.length) (x:=.cells [.ptr xb 0]) (by simp) (by simp;omega)) (by omega)
      have q2:=j3 hJ1 (by omega)
      have q3:=j3 hJ2 (by omega)
      have q5:G2[G.length]?=some (.cells R):=by rw[k3 _ (by omega)];simp
      have kl2:G2.length=G.length+1:=by rw[k1];simp
      have hX2:Rx r xb mb eb G2:=(hY.app _).kp k4 (by simp;omega) (by simp;omega) (by simp;omega)
      obtain ⟨Inv,hInv⟩:∃ Inv:Nat→Nat→List AB→List Nat→Prop,∀ a b hp tc,Inv a b hp tc↔(Rx r xb mb eb hp∧hp[0]?=some (.cells (roadCs r))∧hp[H2.length]?=some (.cells [.ptr xb 0])∧hp[H2.length+1]?=some (.cells [.int .i64 a])∧hp[H2.length+2]?=some (.cells [.int .i64 b])∧hp[G.length]?=some (.cells R)∧hp[H2.length+6]?=some (.loop rz)∧G2.length≤hp.length∧∀ j∈tc,j=mb∨j=H2.length+1∨j=H2.length+2∨j=H2.length+6):=⟨fun a b hp tc=>_,fun a b hp tc=>Iff.rfl⟩
      have hI0:Inv (allS r d s 0) (sumS r d s 0 false) G2 [H2.length+6]:=(hInv _ _ _ _).2 ⟨hX2,q0,q1,by rw[zwm];exact q2,by rw[zsk];exact q3,q5,k2,Nat.le_refl _,by simp⟩
      -- the rules for the invariant
      have happ:∀ {a b hp tc},Inv a b hp tc→∀ K,Inv a b (hp++K) tc:=by
        intro a b hp tc h K
        obtain ⟨g1,g2,g3,g4,g5,g6,g7,g8,g9⟩:=(hInv _ _ _ _).1 h
        have k:=Kp.app (S:=[]) hp K
        exact (hInv _ _ _ _).2 ⟨g1.app K,k.at g2 (by simp),k.at g3 (by simp),k.at g4 (by simp),k.at g5 (by simp),k.at g6 (by simp),k.at g7 (by simp),by have:=k.len;omega,g9⟩
      have hset1:∀ {a b hp tc},Inv a b hp tc→∀ a',Inv a' b (hp.set (H2.length+1) (.cells [.int .i64 (a':Nat)])) ((H2.length+1)::tc):=by
        intro a b hp tc h a'
        obtain ⟨g1,g2,g3,g4,g5,g6,g7,g8,g9⟩:=(hInv _ _ _ _).1 h
        have k:=(Kp.refl [H2.length+1] hp).set (H2.length+1) (.cells [.int .i64 (a':Nat)]) (by simp)
        exact (hInv _ _ _ _).2 ⟨g1.kp k (by simp;omega) (by simp;omega) (by simp;omega),k.at g2 (by simp),k.at g3 (by simp),by rw[List.getElem?_set_self (get_lt g4)],k.at g5 (by simp),k.at g6 (by simp;omega),k.at g7 (by simp),by have:=k.len;omega,fun j hj=>(List.mem_cons.1 hj).elim (fun h=>.inr (.inl h)) (g9 j)⟩
      have hset2:∀ {a b hp tc},Inv a b hp tc→∀ b',Inv a b' (hp.set (H2.length+2) (.cells [.int .i64 (b':Nat)])) ((H2.length+2)::tc):=by
        intro a b hp tc h b'
        obtain ⟨g1,g2,g3,g4,g5,g6,g7,g8,g9⟩:=(hInv _ _ _ _).1 h
        have k:=(Kp.refl [H2.length+2] hp).set (H2.length+2) (.cells [.int .i64 (b':Nat)]) (by simp)
        exact (hInv _ _ _ _).2 ⟨g1.kp k (by simp;omega) (by simp;omega) (by simp;omega),k.at g2 (by simp),k.at g3 (by simp),k.at g4 (by simp),by rw[List.getElem?_set_self (get_lt g5)],k.at g6 (by simp;omega),k.at g7 (by simp),by have:=k.len;omega,fun j hj=>(List.mem_cons.1 hj).elim (fun h=>.inr (.inr (.inl h))) (g9 j)⟩
      have hways:∀ {a b hp tc},Inv a b hp tc→∀ i,i<r.parts.length→(∀ K,Ev.call C n0 (.fn (.func 57) [] []) [.ptr xb 0] (hp++K)=some (.ret (.int .u64 ((Rd.everyR r:Nat):Int)),hp++K,[]))∧Ev.call C n0 (.fn (.func 57) [] []) [.ptr xb 0] hp=some (.ret (.int .u64 ((Rd.everyR r:Nat):Int)),hp,[])∧∃ q H' tc',Ev.call C n0 (.fn (.func 58) [] []) [.ptr xb 0,.int .i64 i,.agg R,.int .u64 ((Rd.everyR r:Nat):Int)] hp=some (.ret (.sl q 0 (Rd.waysR r i s (Rd.everyR r)).length 5),H',tc')∧Inv a b H' (tc'.filter (·<G.length)++tc)∧Bk H' q (.cells ((Rd.waysR r i s (Rd.everyR r)).flatMap wayCs))∧G2.length≤q:=by
        intro a b hp tc h i hi
        obtain ⟨g1,g2,g3,g4,g5,g6,g7,g8,g9⟩:=(hInv _ _ _ _).1 h
        obtain ⟨v,H',tc',w1,w2,w3,w4,W3,w5⟩:=hW' hp g1 i hi
        rw[hls] at w5
        have hne3:=hsw i hi
        have nt:∀ {j},j≠mb→j∉tc':=fun hj h=>hj (w2 _ h)
        refine ⟨fun K=>hE0 _ xb _ _ (g1.app K).x,hE0 _ xb _ _ g1.x,?_⟩
        generalize Rd.waysR r i s (Rd.everyR r)=ws at *
        cases w5 with
        |none=>exact absurd rfl hne3
        |some q _ z1 z2 z3=>
          refine ⟨q,H',tc',w1,(hInv _ _ _ _).2 ⟨w4,w3.at g2 (nt (by omega)),w3.at g3 (nt (by omega)),w3.at g4 (nt (by omega)),w3.at g5 (nt (by omega)),w3.at g6 (nt (by omega)),w3.at g7 (nt (by omega)),by have:=w3.len;omega,fun j hj=>?_⟩,bk' z2,by omega⟩
          rcases List.mem_append.1 hj with h|h
          · exact .inl (w2 j (List.mem_filter.1 h).1)
          · exact g9 j h
      have hfact:∀ {a b hp tc},Inv a b hp tc→Bk hp 0 (.cells (roadCs r))∧Bk hp H2.length (.cells [.ptr xb 0])∧Bk hp (H2.length+1) (.cells [.int .i64 a])∧Bk hp (H2.length+2) (.cells [.int .i64 b])∧Bk hp G.length (.cells R):=by
        intro a b hp tc h
        obtain ⟨g1,g2,g3,g4,g5,g6,g7,g8,g9⟩:=(hInv _ _ _ _).1 h
        exact ⟨bk' g2,bk' g3,bk' g4,bk' g5,bk' g6⟩
      have hhgt:∀ {a b hp tc},Inv a b hp tc→∀ i,i<r.parts.length→∀ w∈Rd.waysR r i s (Rd.everyR r),∀ v,v<r.events.length→(∀ K,Ev.call C n0 (.fn (.func 59) [] []) [.ptr xb 0,.agg [.int .i64 w.part.stiff,.int .i64 w.part.rise,.int .i64 w.part.full],.int .i64 w.first.lo,.agg R,.int .i64 ((v:Int)+1)] (hp++K)=some (.ret (.int .i64 (Rd.heightR r w.part w.first.lo s (v+1))),hp++K,[]))∧(∀ K,Ev.call C n0 (.fn (.func 59) [] []) [.ptr xb 0,.agg [.int .i64 w.part.stiff,.int .i64 w.part.rise,.int .i64 w.part.full],.int .i64 w.first.hi,.agg R,.int .i64 ((v:Int)+1)] (hp++K)=some (.ret (.int .i64 (Rd.heightR r w.part w.first.hi s (v+1))),hp++K,[])):=by
        intro a b hp tc h i hi w hw v hv
        obtain ⟨g1,_⟩:=(hInv _ _ _ _).1 h
        obtain ⟨o1,o2,o3,o4⟩:=way_ok hr hi hw
        have ev:((v+1:Nat):Int)=(v:Int)+1:=by omega
        refine ⟨fun K=>?_,fun K=>?_⟩
        · have:=hHe' (hp++K) (g1.app K) w.part o1 w.first.lo (by omega) (by omega) (v+1) (by omega)
          rwa [ev] at this
        · have:=hHe' (hp++K) (g1.app K) w.part o1 w.first.hi (by omega) (by omega) (v+1) (by omega)
          rwa [ev] at this
      have hne10:=hr.events
      have hnp4:=hr.parts
      have hend:∀ {hp tc},Inv (allS r d s r.events.length) (sumS r d s r.events.length false) hp tc→∀ tm,RTo (H2.length+6) rz [H2.length+1,H2.length+2] [mb] [] (Rx r xb mb eb) G.length (fun W G=>W=[]∧G[H2.length+1]?=some (.cells [.int .i64 (setOf (fun u=>(d++[s]).all fun ls=>sureB r ls u) r.events.length:Nat)])∧G[H2.length+2]?=some (.cells [.int .i64 (setOf (fun u=>(d++[s]).any fun ls=>someB r ls u) r.events.length:Nat)])) (fun _ _=>False) (fun _=>False) (fun _=>False) .normal ⟨tm,[],hp,tc⟩:=by
        intro hp tc h tm
        obtain ⟨g1,g2,g3,g4,g5,g6,g7,g8,g9⟩:=(hInv _ _ _ _).1 h
        rw[zzb] at g4
        rw[zwx] at g5
        refine ⟨by simp,g7,fun j hj=>?_,g1,fun _=>⟨[],by simp,rfl,g4,g5⟩,fun h=>absurd rfl h,fun _ _ h=>h.elim⟩
        rcases g9 j hj with h|h|h|h
        · exact .inr (.inr (.inl (by simp[h])))
        · exact .inr (.inl (by simp[h]))
        · exact .inr (.inl (by simp[h]))
        · exact .inl h
      have HI:=hideP (And.intro @happ (And.intro @hset1 @hset2))
      have HW:=hideP @hways
      have HF:=hideP @hfact
      have HG:=hideP @hhgt
      have HE:=hideP @hend
      obtain ⟨⟨x0,x1,x2,x3,x4,x5⟩,hx9⟩:=hfact hI0
      clear hx9
      have nt6:¬ H2.length+1=H2.length+6∧¬ H2.length+2=H2.length+6:=by omega
      have kgl:H2.length+7≤G.length∧G2.length=G.length+1:=⟨by omega,kl2⟩
      clear happ hset1 hset2 hways hfact hhgt hend hInv hE0 hW hHe h7 e0 e1 hall0 hst hs hsw hld hls hW' hHe' hK hY hJ1 hJ2 k1 k2 k3 k4 j3 q0 q1 q2 q3 q5 hX2 hpr hWb hTd hI hev HX kl2 hl f0 f1 f2 f3 f4 f5
      simp only[roadCs] at x1 x2 x4 x5
      refine gA ?_
      with_reducible refine zan hC r.events.length (by unfold fuelL;omega) (fun v st=>∃ hp tc,Inv (allS r d s v) (sumS r d s v false) hp tc∧st={ tm:=tmA 96 [(32,.int .i64 v),(31,.int .i64 r.events.length),(8,.ptr G.length 0),(7,.ptr (H2.length+2) 0),(6,.ptr (H2.length+1) 0),(5,.ptr H2.length 0),(1,.ptr 0 0)],df:=[],hp:=hp,tc:=tc }) ?_ ?_ ?_
      · refine ⟨_,_,hI0,?_⟩
        (refine st_is ?_ ?_ ?_ ?_;(focus (simp[zag,zal]));(focus rfl);(focus (first|rfl|(simp;done)|(simp;rfl)));(focus rfl))
      · clear hI0 x0 x1 x2 x3 x4 x5
        rintro v st hv ⟨hp,tc,hV,rfl⟩
        obtain ⟨⟨x0,x1,x2,x3,x4,x5⟩,hx9⟩:=HF.out hV
        clear hx9
        simp only[roadCs] at x1 x2 x4 x5
        have hwv:IntKind.i64.wrap (↑v+1)=↑v+1:=zaf (by omega) (by omega)
        refine gA ?_
        with_reducible refine zan hC r.parts.length (by unfold fuelL;omega) (fun i st=>∃ hp tc,Inv (allS r d s v) (sumS r d s v ((List.range i).any (anyB r s v))) hp tc∧st={ tm:=tmA 96 [(38,.int .i64 i),(37,.int .i64 r.parts.length),(32,.int .i64 v),(31,.int .i64 r.events.length),(10,.bool ((List.range i).any (allB r s v))),(9,.int .i64 v),(8,.ptr G.length 0),(7,.ptr (H2.length+2) 0),(6,.ptr (H2.length+1) 0),(5,.ptr H2.length 0),(1,.ptr 0 0)],df:=[],hp:=hp,tc:=tc }) ?_ ?_ ?_
        · refine ⟨hp,tc,by simpa using hV,?_⟩
          (refine st_is ?_ ?_ ?_ ?_;(focus (simp[zag,zal]));(focus rfl);(focus (first|rfl|(simp;done)|(simp;rfl)));(focus rfl))
        · clear hV x0 x1 x2 x3 x4 x5 hp tc
          rintro i st hi ⟨hp,tc,hV,rfl⟩
          obtain ⟨⟨x0,x1,x2,x3,x4,x5⟩,⟨y0,y1,y2,y3,y4,y5⟩,hx8,hx9,⟨z0,z1,z2,z3,z4,z5⟩⟩:=HF.out hV
          clear hx8 hx9
          simp only[roadCs] at x1 x2 x4 x5
          obtain ⟨c1,c2,q,H',tc',c3,c4,⟨b0,b1,b2,b3,b4,b5⟩,c5⟩:=HW.out hV i hi
          have hwi:IntKind.i64.wrap (↑i+1)=↑i+1:=zaf (by omega) (by omega)
          have hlw:=zdy hr hi s (Rd.everyR r)
          have HV:=hideP (And.intro c4 (And.intro c5 b1))
          clear hV c4 c5
          refine gE ?_
          with_reducible refine zan hC (Rd.waysR r i s (Rd.everyR r)).length (by unfold fuelL;omega) (fun k st=>∃ hp tc,Inv (allS r d s v) (sumS r d s v ((List.range i).any (anyB r s v) || ((Rd.waysR r i s (Rd.everyR r)).take k).any (loB r s v))) hp tc∧hp[q]?=some (.cells ((Rd.waysR r i s (Rd.everyR r)).flatMap wayCs))∧st={ tm:=tmA 96 [(48,.int .i64 k),(47,.int .i64 (Rd.waysR r i s (Rd.everyR r)).length),(46,.sl q 0 (Rd.waysR r i s (Rd.everyR r)).length 5),(38,.int .i64 i),(37,.int .i64 r.parts.length),(32,.int .i64 v),(31,.int .i64 r.events.length),(12,.bool (((Rd.waysR r i s (Rd.everyR r)).take k).all (hiB r s v))),(10,.bool ((List.range i).any (allB r s v))),(9,.int .i64 v),(8,.ptr G.length 0),(7,.ptr (H2.length+2) 0),(6,.ptr (H2.length+1) 0),(5,.ptr H2.length 0),(1,.ptr 0 0)],df:=[],hp:=hp,tc:=tc }) ?_ ?_ ?_
          · refine ⟨H',_,by simpa using HV.out.1,HV.out.2.2,?_⟩
            (refine st_is ?_ ?_ ?_ ?_;(focus (simp[zag,zal]));(focus rfl);(focus (first|rfl|(simp;done)|(simp;rfl)));(focus rfl))
          · have hq5:=HV.out.2.1
            clear x0 x1 x2 x3 x4 x5 y0 y1 y2 y3 y4 y5 z0 z1 z2 z3 z4 z5 b0 b1 b2 b3 b4 b5 c1 c2 c3 HV
            rintro k st hk ⟨hp,tc,hV,hq,rfl⟩
            obtain ⟨⟨x0,x1,x2,x3,x4,x5⟩,⟨y0,y1,y2,y3,y4,y5⟩,⟨v0,v1,v2,v3,v4,v5⟩,⟨u0,u1,u2,u3,u4,u5⟩,⟨z0,z1,z2,z3,z4,z5⟩⟩:=HF.out hV
            obtain ⟨b0,b1,b2,b3,b4,b5⟩:=bk' hq
            simp only[roadCs] at x1 x2 x4 x5
            have hgi:(Rd.waysR r i s (Rd.everyR r))[k]?=some (Rd.waysR r i s (Rd.everyR r))[k]:=List.getElem?_eq_getElem hk
            have hwm:(Rd.waysR r i s (Rd.everyR r))[k]∈Rd.waysR r i s (Rd.everyR r):=List.getElem_mem hk
            generalize (Rd.waysR r i s (Rd.everyR r))[k]=w at hgi hwm
            obtain ⟨hlo,hhi⟩:=HG.out hV i hi w hwm v hv
            have hhi2:=(HG.out (HI.out.2.2 hV (sumS r d s v true)) i hi w hwm v hv).2
            have hat:=zfb wayCs 5 (fun _=>rfl) _ k w hgi
            have hcl:=zbk wayCs 5 (fun _=>rfl) (Rd.waysR r i s (Rd.everyR r))
            have hwk:IntKind.i64.wrap (↑k+1)=↑k+1:=zaf (by omega) (by omega)
            have e4:k * 5+5≤(Rd.waysR r i s (Rd.everyR r)).length * 5:=by omega
            have htl:((Rd.waysR r i s (Rd.everyR r)).take (k+1)).any (loB r s v)=(((Rd.waysR r i s (Rd.everyR r)).take k).any (loB r s v) || loB r s v w):=by rw[List.take_add_one,hgi];simp
            have hth:((Rd.waysR r i s (Rd.everyR r)).take (k+1)).all (hiB r s v)=(((Rd.waysR r i s (Rd.everyR r)).take k).all (hiB r s v)&&hiB r s v w):=by rw[List.take_add_one,hgi];simp
            have hlB:loB r s v w=decide (Rd.heightR r w.part w.first.lo s (v+1)<0):=rfl
            have hhB:hiB r s v w=decide (Rd.heightR r w.part w.first.hi s (v+1)<0):=rfl
            generalize Rd.heightR r w.part w.first.lo s (v+1)=yl at *
            generalize Rd.heightR r w.part w.first.hi s (v+1)=yh at *
            obtain ⟨bb,hbb⟩:∃ bb,bb=((List.range i).any (anyB r s v) || ((Rd.waysR r i s (Rd.everyR r)).take k).any (loB r s v)):=⟨_,rfl⟩
            have hbb1:((List.range i).any (anyB r s v) || ((Rd.waysR r i s (Rd.everyR r)).take (k+1)).any (loB r s v))=(bb || loB r s v w):=by rw[htl,hbb,Bool.or_assoc]
            rw[← hbb] at hV u1 u2 u4 u5
            have hlt62:∀ b,sumS r d s v b<2 ^ 62:=fun b=>Nat.lt_of_lt_of_le (setOf_lt _ _) (Nat.pow_le_pow_right (by decide) (by omega))
            have hp62:2 ^ v<2 ^ 62:=Nat.pow_lt_pow_right (by decide) (by omega)
            obtain ⟨s1,s2,s3⟩:=zlo (d:=v) (by omega)
            have hor:=or_i64 (hlt62 bb) hp62
            rw[zzl r d s hv bb] at hor
            have HN:=hideP (And.intro hV (And.intro hbb1 (And.intro hth hq)))
            rw[hth]
            generalize hCW:(Rd.waysR r i s (Rd.everyR r)).flatMap wayCs=CW at *
            simp only[wayCs] at hat
            clear hV hbb hbb1 htl hth hq hgi hwm hlt62 hp62 hCW
            generalize hnw:(Rd.waysR r i s (Rd.everyR r)).length=nw at *
            generalize hfl:((Rd.waysR r i s (Rd.everyR r)).take k).all (hiB r s v)=fl at *
            generalize hiP:2 ^ v=P at *
            have hB1:H2.length+1<G.length:=by omega
            have hB2:H2.length+2<G.length:=by omega
            have h29:¬ H2.length+2=H2.length+1:=by omega
            have hpl:¬ hp.length<G.length:=by omega
            have h2G:¬ H2.length+2=G.length:=by omega
            have h2H:¬ H2.length+2=H2.length:=by omega
            have h20:¬ H2.length+2=0:=by omega
            simp at hor
            by_cases hly:yl<0
            · cases fl with
              |true=>
                rw[hhB]
                clear hhB
                refine gC ?_
                obtain ⟨hV,hbb1,hth,hq⟩:=HN.out
                obtain ⟨happ,hset1,hset2⟩:=HI.out
                have hn:=happ (hset2 hV (sumS r d s v true)) [.cells [.int .i64 w.part.stiff,.int .i64 w.part.rise,.int .i64 w.part.full,.int .i64 w.first.lo,.int .i64 w.first.hi]]
                refine ⟨_,_,?_,?_,st_is ?_ rfl rfl rfl⟩
                · rw[hbb1,hlB,decide_eq_true hly,Bool.or_true];exact hn
                · rw[List.getElem?_append_left (by simpa using b0),List.getElem?_set_ne (by omega)];exact hq
                · simp[zag,zal]
              |false=>
                clear hhB hhi hhi2
                refine gC ?_
                obtain ⟨hV,hbb1,hth,hq⟩:=HN.out
                obtain ⟨happ,hset1,hset2⟩:=HI.out
                have hn:=happ (hset2 hV (sumS r d s v true)) [.cells [.int .i64 w.part.stiff,.int .i64 w.part.rise,.int .i64 w.part.full,.int .i64 w.first.lo,.int .i64 w.first.hi]]
                refine ⟨_,_,?_,?_,st_is ?_ rfl rfl rfl⟩
                · rw[hbb1,hlB,decide_eq_true hly,Bool.or_true];exact hn
                · rw[List.getElem?_append_left (by simpa using b0),List.getElem?_set_ne (by omega)];exact hq
                · simp[zag,zal]
            · cases fl with
              |true=>
                rw[hhB]
                clear hhB hor hhi2
                refine gC ?_
                obtain ⟨hV,hbb1,hth,hq⟩:=HN.out
                obtain ⟨happ,hset1,hset2⟩:=HI.out
                have hn:=happ hV [.cells [.int .i64 w.part.stiff,.int .i64 w.part.rise,.int .i64 w.part.full,.int .i64 w.first.lo,.int .i64 w.first.hi]]
                refine ⟨_,_,?_,?_,st_is ?_ rfl rfl rfl⟩
                · rw[hbb1,hlB,decide_eq_false hly,Bool.or_false];exact hn
                · rw[List.getElem?_append_left b0];exact hq
                · simp[zag,zal]
              |false=>
                clear hhB hhi hhi2 hor
                refine gC ?_
                obtain ⟨hV,hbb1,hth,hq⟩:=HN.out
                obtain ⟨happ,hset1,hset2⟩:=HI.out
                have hn:=happ hV [.cells [.int .i64 w.part.stiff,.int .i64 w.part.rise,.int .i64 w.part.full,.int .i64 w.first.lo,.int .i64 w.first.hi]]
                refine ⟨_,_,?_,?_,st_is ?_ rfl rfl rfl⟩
                · rw[hbb1,hlB,decide_eq_false hly,Bool.or_false];exact hn
                · rw[List.getElem?_append_left b0];exact hq
                · simp[zag,zal]
          · clear x0 x1 x2 x3 x4 x5 y0 y1 y2 y3 y4 y5 z0 z1 z2 z3 z4 z5 b0 b1 b2 b3 b4 b5 c1 c2 c3 HV
            rintro st ⟨hp,tc,hV,hq,rfl⟩
            rw[List.take_length] at hV ⊢
            obtain ⟨b0,b1,b2,b3,b4,b5⟩:=bk' hq
            have e1:(List.range (i+1)).any (anyB r s v)=((List.range i).any (anyB r s v) || (Rd.waysR r i s (Rd.everyR r)).any (loB r s v)):=by rw[List.range_succ,List.any_append];simp[anyB]
            have e2:(List.range (i+1)).any (allB r s v)=((List.range i).any (allB r s v) || (Rd.waysR r i s (Rd.everyR r)).all (hiB r s v)):=by rw[List.range_succ,List.any_append];simp[allB]
            rw[← e1] at hV
            have HN:=hideP (And.intro hV hq)
            rw[e2]
            clear hV hq e1 e2
            generalize (Rd.waysR r i s (Rd.everyR r)).length=nw at *
            generalize (Rd.waysR r i s (Rd.everyR r)).all (hiB r s v)=fl at *
            generalize (List.range i).any (allB r s v)=fs at *
            cases fs with
            |true=>
              refine gA ?_
              refine ⟨_,_,HN.out.1,?_⟩
              refine st_is ?_ rfl rfl rfl
              simp[zag,zal]
            |false=>
              refine gA ?_
              refine ⟨_,_,HN.out.1,?_⟩
              refine st_is ?_ rfl rfl rfl
              simp[zag,zal]
        · clear hV x0 x1 x2 x3 x4 x5 hp tc
          rintro st ⟨hp,tc,hV,rfl⟩
          obtain ⟨⟨x0,x1,x2,x3,x4,x5⟩,⟨y0,y1,y2,y3,y4,y5⟩,⟨v0,v1,v2,v3,v4,v5⟩,⟨u0,u1,u2,u3,u4,u5⟩,⟨z0,z1,z2,z3,z4,z5⟩⟩:=HF.out hV
          simp only[roadCs] at x1 x2 x4 x5
          have hV:Inv (allS r d s v) (sumS r d s (v+1) false) hp tc:=by rw[← zsl];exact hV
          have hsu:(List.range r.parts.length).any (allB r s v)=sureB r s v:=rfl
          rw[hsu]
          have hlt62:allS r d s v<2 ^ 62:=Nat.lt_of_lt_of_le (setOf_lt _ _) (Nat.pow_le_pow_right (by decide) (by omega))
          have hp62:2 ^ v<2 ^ 62:=Nat.pow_lt_pow_right (by decide) (by omega)
          obtain ⟨s1,s2,s3⟩:=zlo (d:=v) (by omega)
          have han:=zyx hlt62 hp62
          have hB1:H2.length+1<G.length:=by omega
          cases hsb:sureB r s v with
          |true=>
            rw[zza r d s hsb] at hV
            have HN:=hideP hV
            clear hV hlt62 hp62 han hsu hsb u1 u2 u4 u5
            refine gA ?_
            refine ⟨_,_,HN.out,?_⟩
            refine st_is ?_ rfl rfl rfl
            simp[zag,zal]
          |false=>
            rw[yax r d s hsb] at han
            have HN:=hideP (HI.out.2.1 hV (allS r d s (v+1)))
            clear hV hlt62 hp62 hsu hsb u1 u2 u4 u5
            generalize hiP:2 ^ v=P at *
            simp at han
            refine gC ?_
            refine ⟨_,_,HN.out,?_⟩
            refine st_is ?_ rfl rfl rfl
            simp[zag,zal]
      · clear hI0 x0 x1 x2 x3 x4 x5
        rintro st ⟨hp,tc,hV,rfl⟩
        obtain ⟨⟨x0,x1,x2,x3,x4,x5⟩,hx9⟩:=HF.out hV
        clear hx9
        simp only[roadCs] at x1 x2 x4 x5
        have HN:=hideP hV
        clear hV
        refine gA ?_
        exact HE.out HN.out _
    · rintro H' tc' W h1 h2 h3 h4 h5 h6 ⟨rfl,g7,g8⟩
      simp only[List.length_append,List.length_cons,List.length_nil,Nat.zero_add,Nat.add_assoc,Nat.reduceAdd] at h1 h4 h5 ⊢
      simp only[OutB,Then]
      rw[← zsg] at g7
      rw[← zps] at g8
      have e4:H'[1]?=some (.cells [.int .i64 0]):=h2.at (by rw[List.getElem?_append_left (by omega)];exact HX.out.2.2.2.2.2.1) fun h=>by have:=h1 _ h (by omega);simp only[List.mem_append,List.mem_cons,List.not_mem_nil,or_false] at this;omega
      obtain ⟨a0,a1,a2,a3,a4,a5⟩:=bk' g7
      obtain ⟨b0,b1,b2,b3,b4,b5⟩:=bk' g8
      obtain ⟨c0,c1,c2,c3,c4,c5⟩:=bk' e4
      have HD:=hideP h4
      clear h1 h2 h3 h4 h6 g7 g8 hTd hI hev HX e4
      generalize Rd.surelyR r=S1 at *
      generalize Rd.perhapsR r=S2 at *
      refine gC ?_
      refine zku (D:=H2.length+5) (v:=.tup [.int .i64 S1,.int .i64 S2,.int .i64 0]) (.inl rfl) hdf rfl (by simp only;rw[List.getElem?_set_ne (by omega)];exact HD.out) (by simp only[zai];simp only[resL,resOf,zaa];simp[resV,pickC,c0]) ⟨by simp,by simp⟩
end Ro
namespace Ro
open K
set_option maxRecDepth 100000
set_option maxHeartbeats 4000000
structure Knows (C:Cfg):Prop where
  calm:C.calm=true
  wh:∀ f,C.whole f=true
  within:Has C 91 af91
  isLoad:Has C 43 af43
  always:Has C 55 af55
  isPart:Has C 32 af32
  isEvent:Has C 33 af33
  every:Has C 57 af57
  isSpan:Has C 90 af90
  must:Has C 72 af72
  sunk:Has C 41 af41
  rested:Has C 115 af115
  look:Has C 140 af140
  pass:Has C 139 af139
  rest:∀ n (H:List AB) (d:Int) (p:Rd.Tr),TrOk p→∀ h l:Int,-1000000≤h→h≤1000000→0≤d→d≤1000→Ev.call C (n+1) (.fn (.func 141) [] []) [.agg [.int .i64 d],.agg [.int .i64 p.stiff,.int .i64 p.rise,.int .i64 p.full],.int .i64 h,.int .i64 l] H=some (.ret (.int .i64 (Rd.rested p h d)),H,[])
  height:Has C 59 af59
  first:Has C 103 af103
  parts:Has C 102 af102
  parts1:Has C 118 af118
  ways:Has C 58 af58
  all:Has C 101 af101
  all1:Has C 116 af116
  all11:Has C 117 af117
  told:Has C 56 af56
  told1:Has C 100 af100
  can:Has C 73 af73
  known:Has C 34 af34
  joined:Has C 94 af94
  span:Has C 44 af44
  heights:Has C 35 af35
  heights1:Has C 92 af92
  left:Has C 97 af97
  index:Has C 114 af114
  cont:Has C 95 af95
  sure:Has C 51 af51
  sure1:Has C 96 af96
  may:Has C 52 af52
  may1:Has C 98 af98
  open_ : Has C 30 af30
  count:Has C 65 af65
  count1:Has C 107 af107
  firstN:Has C 64 af64
  height2:Has C 31 af31
  sinks2:Has C 42 af42
  sinks3:Has C 45 af45
  bears2:Has C 50 af50
  rest2:Has C 68 af68
  rest3:Has C 69 af69
  most2:Has C 66 af66
  eHeight:Has C 7 af7
  eSinks:Has C 9 af9
  eBears:Has C 11 af11
  eMost:Has C 16 af16
  eRest:Has C 18 af18
  eBelow:Has C 13 af13
  eWeak:Has C 20 af20
  dfHeight:C.dfk 28=some (114,true)
  dfSinks:C.dfk 40=some (114,true)
  dfBears:C.dfk 49=some (114,true)
  dfMost:C.dfk 63=some (114,true)
  dfRest:C.dfk 67=some (114,true)
  dfBelow:C.dfk 54=some (114,true)
  dfWeak:C.dfk 70=some (114,true)
section
variable {C:Cfg} (k:Knows C)
include k
theorem withinL (n:Nat):WithinC (Ev.call C (n+1)):=fun H a b c=>zaj k.calm k.within (le' rfl) rfl (zon C _ H a b c)
theorem isLoadL (n:Nat):IsLoadC (Ev.call C (n+2)):=fun H a=>zaj k.calm k.isLoad (le' rfl) rfl (zqh C _ (withinL k n) H a)
theorem isSpanL (n:Nat):IsSpanC (Ev.call C (n+1)):=fun H s a b w h1 h2=>zaj k.calm k.isSpan (le' rfl) rfl (zqf C _ H s a b w h1 h2)
theorem alwaysL (n:Nat)(H:List AB)(v:AV):Ev.call C (n+1) (.fn (.func 55) [] []) [v] H=some (.ret (.bool true),H,[]):=zaj k.calm k.always (le' rfl) rfl (zro C _ H v)
theorem mustL (n:Nat):MustC (Ev.call C (n+1)) where
  t H e:=by
    obtain ⟨x,hp,tc,H',c1,⟨rfl,rfl⟩,_,_,c7⟩:=zdl (n:=n) (first:=[]) (captured:=[]) (args:=[.bool true,.int .i64 e]) k.calm k.must (le' rfl) (zua C _ H e)
    rw[c1,c7 rfl rfl]
  f H e:=by
    obtain ⟨x,hp,tc,H',c1,⟨rfl,rfl⟩,_,_,c7⟩:=zdl (n:=n) (first:=[]) (captured:=[]) (args:=[.bool false,.int .i64 e]) k.calm k.must (le' rfl) (zub C _ H e)
    rw[c1,c7 rfl rfl]
theorem sunkL (n:Nat):SunkC (Ev.call C (n+1)):=fun H p hp l h0 h1=>zaj k.calm k.sunk (le' rfl) rfl (zww C _ H p hp l h0 h1)
theorem restedL (n:Nat):RestedC (Ev.call C (n+1)):=fun H p hp h d h0 h1 d0 d1=>zaj (first:=[.agg [.int .i64 p.stiff,.int .i64 p.rise,.int .i64 p.full]]) k.calm k.rested (le' rfl) rfl (zpi C _ H p hp h d h0 h1 d0 d1)
theorem aftL (n:Nat):AftC (Ev.call C (n+2)) where
  look H p h l:=zaj k.calm k.look (le' rfl) rfl (zuq C _ H p h l)
  pass H p hp h l h0 h1 l0 l1:=zaj k.calm k.pass (le' rfl) rfl (ztr C _ (sunkL k n) H p hp h l h0 h1 l0 l1)
  rest H d p hp h l h0 h1 d0 d1:=k.rest (n+1) H d p hp h l h0 h1 d0 d1
theorem partsNL (n:Nat):PartsC (Ev.call C (n+1)):=fun H xb a=>zew k.calm k.parts (le' rfl) (by simp[refs,refsL]) (zpu C _ H xb a)
theorem allNL (n:Nat):AllC (Ev.call C (n+1)):=fun H xb=>zew k.calm k.all (le' rfl) (by simp[refs,refsL]) (zzc C _ H xb)
theorem toldNL (n:Nat):ToldC (Ev.call C (n+1)):=fun H xb a=>zew k.calm k.told (le' rfl) (by simp[refs,refsL]) (zsa C _ H xb a)
theorem countNL (n:Nat):CountC (Ev.call C (n+1)):=fun H a b=>zew k.calm k.count (le' rfl) (by simp[refs,refsL]) (zqx C _ H a b)
theorem joinL (n:Nat):JoinC (Ev.call C (n+1)):=fun H v ds hv hl=>zaj k.calm k.joined (le' rfl) rfl (zqd C k.calm _ H v ds hv hl)
theorem isPartL {r:Rd.Road}(hr:r.parts.length≤1000)(n:Nat):IsPartC (Ev.call C (n+2)) r:=fun H xb w z hy a=>zaj k.calm k.isPart (le' rfl) rfl (zqg C _ (withinL k n) r hr H xb w z hy a)
theorem isEventL {r:Rd.Road}(hr:r.events.length≤1000)(n:Nat):IsEventC (Ev.call C (n+2)) r:=fun H xb w z hy a=>zaj k.calm k.isEvent (le' rfl) rfl (zly C _ (withinL k n) r hr H xb w z hy a)
theorem indexL (n:Nat):IndexC (Ev.call C (n+1)) (Ev.call C n):=by
  intro H v ws hv hl fl fa fb p hF
  obtain ⟨w,hp,tc,H',c1,⟨q,rfl,c2,rfl⟩,_,_,_,c7⟩:=zcw (first:=[]) (captured:=[]) (args:=[v,.fn fl fa fb]) k.calm k.wh k.index (le' rfl) (zqi C k.calm _ H v ws hv hl fl fa fb p hF)
  exact ⟨q,by rw[c1,c7 rfl rfl],c2⟩
theorem contL (n:Nat):ContC (Ev.call C (n+2)) (Ev.call C n):=fun H v ws hv hl fl fa fb p hF=>zaj k.calm k.cont (le' rfl) rfl (zvr C _ _ (indexL k n) H v ws hv hl fl fa fb p hF)
theorem sinks3L (n:Nat):Sinks3C (Ev.call C (n+2)):=fun H w hp R hR load hl b1 b2 h1 h2=>zaj (first:=[]) (captured:=[.ptr b1 0,.ptr b2 0]) k.calm k.sinks3 (le' rfl) rfl (zoz C _ (sunkL k n) H w hp R hR load hl [] b1 b2 h1 h2)
variable {r:Rd.Road} (hr:Rd.Fine r)
include hr
theorem everyL (n:Nat):EveryC (Ev.call C (n+1)) r:=fun H xb w z hy=>zaj k.calm k.every (le' rfl) rfl (zvl C _ r (by have:=hr.events;omega) H xb w z hy)
theorem heightL (n:Nat):HeightC (Ev.call C (n+3)) r:=fun H xb mb eb hX p hp h b1 b2 f hf many hm=>zaj k.calm k.height (le' rfl) rfl (zql C k.calm _ (aftL k n) r hr H xb mb eb hX p hp h b1 b2 f hf many hm)
theorem firstL (n:Nat):FirstC (Ev.call C (n+4)) r:=by
  intro H xb mb eb hX q hq
  obtain ⟨es,hm,hes⟩:=hX.m
  rcases zkg hr.events q hes with h|h
  · obtain ⟨es',h1,h2⟩:=znk hr.events q hes
    obtain ⟨v,hp,tc,H',c1,⟨rfl,rfl,c3⟩,c5,_,_⟩:=zbm (n:=n+3) (first:=[]) (captured:=[]) (args:=[.ptr xb 0,qA q]) k.calm k.first.ext k.first.exth k.first.fns k.first.whole (le' rfl)
      (zqq C k.calm _ r hr (heightL k hr n) H xb mb eb hX q hq es es' hm h h1)
    refine ⟨H',_,c1,by simp,c5.kp,hX.ne,hX.ne2,c5.kp.at hX.x (by simp[hX.ne]),fun hn=>c5.kp.at (hX.e hn) (by simp[hX.ne2]),Nat.lt_of_lt_of_le hX.el c5.len,es',?_,h2⟩
    rw[c5.got mb (get_lt hm) (by simp)];exact c3
  · obtain ⟨v,hp,tc,H',c1,⟨rfl,rfl⟩,c5,_,c7⟩:=zbm (n:=n+3) (first:=[]) (captured:=[]) (args:=[.ptr xb 0,qA q]) k.calm k.first.ext k.first.exth k.first.fns k.first.whole (le' rfl)
      (zve C _ r H xb mb eb hX q es hm h)
    exact ⟨H',_,c1,by simp,c5.kp,hX.kp c5.kp (by simp) (by simp) (by simp)⟩
theorem waysL (n:Nat):WaysC (Ev.call C (n+7)) r:=by
  intro H xb mb eb hX i hi f hf looks
  obtain ⟨v,hp,tc,H',c1,⟨c2,c3,c4⟩,c5,c6,c7,c8⟩:=zcw (n:=n+6) (first:=[]) (captured:=[]) (args:=[.ptr xb 0,.int .i64 i,.agg (arr10 f),.int .u64 looks]) k.calm k.wh k.ways (le' rfl)
    (zru C k.calm k.wh (n+4) r hr (partsNL k (n+5)) (ztt k.calm hr k.parts1) (firstL k hr n) H xb mb eb hX i hi f hf looks)
  refine ⟨v,H',tc,c1,c2,c6,?_⟩
  by_cases hv:refs v=[]∧tc=[]
  · have hH:=c8 hv.1 hv.2
    rw[hH]
    refine ⟨hX,?_⟩
    obtain ⟨W,hW⟩:=c4
    generalize hws:Rd.waysR r i (lsOf r.events.length f) looks=ws at hW
    cases hW with
    |none=>exact ⟨[],by rw[hws];exact .none⟩
    |some b ws z1 z2 z3=>simp[refs] at hv
  · have hH : H' = hp := c7 (by
      by_cases h:tc=[]
      · exact .inl fun h2=>hv ⟨h2,h⟩
      · exact .inr h)
    rw[hH];exact ⟨c3,c4⟩
theorem toldIL (n:Nat):ToldI C (n+7) (n+r.events.length+11) r:=by
  have h1:=zyz k.calm k.wh hr k.all11 k.all1 (n+8)
  rw[show n+8+r.events.length+2=n+r.events.length+10 by omega] at h1
  exact zry (m:=n+r.events.length+10) k.calm k.wh hr k.told1 (allNL k _) h1 (waysL k hr n)
theorem canL (n:Nat):CanC (Ev.call C (n+r.events.length+12)) r:=fun H xb mb eb hX looks=>
  zdr k.calm k.wh k.can (le' rfl) rfl hX (zyt C k.calm k.wh (n+6) (n+r.events.length+11) r (toldNL k _) (toldIL k hr n) H xb mb eb hX looks)
theorem knownL (n:Nat):KnownC (Ev.call C (n+r.events.length+13)) r:=by
  intro H xb mb eb hX
  obtain ⟨x,hp,tc,H',c1,⟨c2,c3,c4,rfl⟩,c5,c6,c7⟩:=zdl (n:=n+r.events.length+12) (first:=[]) (captured:=[]) (args:=[.ptr xb 0]) k.calm k.known (le' rfl)
    (zqc C _ (mustL k _) r (everyL k hr _) (canL k hr n) H xb mb eb hX)
  have hs:=c5.same c3
  have hX':Rx r xb mb eb H':=by
    refine c4.same fun j hj=>hs j ?_
    have:=hX.xl;have:=hX.ml;have:=hX.el
    rcases hj with rfl|rfl|rfl<;>assumption
  exact ⟨H',tc,c2,⟨c5.len,fun b hb ht=>(hs b hb).trans (c3.get b hb ht)⟩,hX',c1⟩
theorem spanL (n:Nat):SpanC (Ev.call C (n+r.events.length+13)) (Ev.call C (n+7)) r:=by
  intro H xb mb eb hX i hi fl fa fb g hF
  have h1:=toldIL k hr (n+1)
  rw[show n+1+r.events.length+11=n+r.events.length+12 by omega] at h1
  exact zdr k.calm k.wh k.span (le' rfl) rfl hX (zsp C k.calm k.wh (n+7) (n+r.events.length+12) r hr (toldNL k _) h1 (everyL k hr _) (everyL k hr _) (waysL k hr n) (joinL k _) H xb mb eb hX i hi fl fa fb g hF)
theorem leftL (n:Nat):LeftC (Ev.call C (n+4)) r:=fun H xb mb eb hX w hp h b1 b2 f hf days load hL=>zaj k.calm k.left (le' rfl) rfl (zyd C _ r hr (heightL k hr n) (restedL k (n+2)) (sunkL k (n+2)) H xb mb eb hX w hp h b1 b2 f hf days load hL)
theorem sure1L (n:Nat):Sure1C (Ev.call C (n+5)) r:=fun H xb mb eb hX w hp hw f hf days load hL b1 b2 b3 b4 h1 h2 h3 h4=>zaj (first:=[]) (captured:=[.ptr b1 0,.ptr b2 0,.ptr b3 0,.ptr b4 0]) k.calm k.sure1 (le' rfl) rfl (zsj C _ r (leftL k hr n) H xb mb eb hX w hp hw f hf days load hL b1 b2 b3 b4 h1 h2 h3 h4)
theorem may1L (n:Nat):May1C (Ev.call C (n+5)) r:=fun H xb mb eb hX w hp hw f hf load hL b1 b2 b4 h1 h2 h4=>zaj (first:=[]) (captured:=[.ptr b1 0,.ptr b2 0,.ptr b4 0]) k.calm k.may1 (le' rfl) rfl (zxx C _ r (leftL k hr n) H xb mb eb hX w hp hw f hf load hL b1 b2 b4 h1 h2 h4)
theorem sureL (n:Nat):SureC (Ev.call C (n+r.events.length+13)) r:=by
  intro H xb mb eb hX days load hL
  have h1:=toldIL k hr (n+1)
  rw[show n+1+r.events.length+11=n+r.events.length+12 by omega] at h1
  exact zdr k.calm k.wh k.sure (le' rfl) rfl hX (zsh C k.calm k.wh (n+7) (n+5) (n+r.events.length+12) r hr (toldNL k _) h1 (everyL k hr _) (everyL k hr _) (waysL k hr n) (contL k (n+5)) (sure1L k hr n) H xb mb eb hX days load hL)
theorem mayL (n:Nat):MayC (Ev.call C (n+r.events.length+13)) r:=by
  intro H xb mb eb hX load hL
  have h1:=toldIL k hr (n+1)
  rw[show n+1+r.events.length+11=n+r.events.length+12 by omega] at h1
  exact zdr k.calm k.wh k.may (le' rfl) rfl hX (zxw C k.calm k.wh (n+7) (n+5) (n+r.events.length+12) r hr (toldNL k _) h1 (everyL k hr _) (everyL k hr _) (waysL k hr n) (contL k (n+5)) (may1L k hr n) H xb mb eb hX load hL)
theorem heights1L (n:Nat):Heights1C (Ev.call C (n+4)) r:=fun H xb mb eb hX w hp hw f hf many hm b1 b2 h1 h2=>zaj (first:=[]) (captured:=[.ptr b1 0,.ptr b2 0]) k.calm k.heights1 (le' rfl) rfl (zks C _ r (heightL k hr n) H xb mb eb hX w hp hw f hf many hm b1 b2 h1 h2)
theorem heightsL (n:Nat):HeightsC (Ev.call C (n+r.events.length+14)) r:=fun H xb mb eb hX i hi many hm=>
  zdr k.calm k.wh k.heights (le' rfl) rfl hX (zkq C _ (Ev.call C (n+7)) r hr (spanL k hr n) (heights1L k hr (n+3)) H xb mb eb hX i hi many hm)
theorem most2L (n:Nat):Most2C (Ev.call C (n+r.events.length+14)) r:=fun H xb mb eb hX i hi b1 h1=>
  zdr (first:=[]) (captured:=[.ptr b1 0]) k.calm k.wh k.most2 (le' rfl) rfl hX (zue C _ r (sureL k hr n) H xb mb eb hX i hi b1 h1)
theorem rest3L (n:Nat):Rest3C (Ev.call C (n+r.events.length+14)) r:=fun H xb mb eb hX i load hL b1 b2 h1 h2=>
  zdr (first:=[]) (captured:=[.ptr b1 0,.ptr b2 0]) k.calm k.wh k.rest3 (le' rfl) rfl hX (ztm C _ r (sureL k hr n) H xb mb eb hX i load hL b1 b2 h1 h2)
omit hr in
theorem firstNL (n:Nat):FirstNC (Ev.call C (n+r.events.length+17)) (Ev.call C (n+r.events.length+14)) r:=by
  intro a b b1 b2 ha hb H xb mb eb hX h1 h2 n1 n2 fl fa fb p hF
  obtain ⟨x,hp,tc,H',c1,⟨rfl,c2,c4⟩,c5,c6,c7⟩:=zdl (n:=n+r.events.length+16) (first:=[]) (captured:=[]) (args:=[.fn (.func 107) [] [.ptr b1 0,.ptr b2 0],.agg [.fn fl fa fb]]) k.calm k.firstN (le' rfl)
    (zqp C k.calm k.wh (n+r.events.length+14) (n+r.events.length+16) r (mustL k _) (zqw k.calm (n+r.events.length+15) k.count1) a b b1 b2 ha hb H xb mb eb hX h1 h2 n1 n2 fl fa fb p hF)
  have he:=zjg k.calm k.wh _ _ _ _ _ _ _ c1
  have hk:Kp tc H H':=⟨he.len,fun b hb hn=>he.same b hb hn⟩
  refine ⟨H',tc,c1,c2,hk,?_⟩
  obtain ⟨es,m1,m2⟩:=hX.m
  have hx:xb∉tc:=fun h=>hX.ne (c2 _ h)
  have hee:eb∉tc:=fun h=>hX.ne2 (c2 _ h)
  by_cases hm:mb∈tc
  · obtain ⟨es2,m3,m4⟩:=c4.m
    exact ⟨hX.ne,hX.ne2,hk.at hX.x hx,fun hn=>hk.at (hX.e hn) hee,Nat.lt_of_lt_of_le hX.el hk.len,es2,(c5.got mb (get_lt m1) hm).trans m3,m4⟩
  · exact hX.kp hk hx hm hee
end
section
variable {C:Cfg} (k:Knows C)
include k
theorem openL {r:Rd.Road}(hbig:r.parts.length≤1000∧r.events.length≤1000)(n:Nat):OpenC (Ev.call C (n+4)) (Ev.call C (n+3)) r:=by
  intro H F is hF
  obtain ⟨x,hp,tc,H',c1,⟨rfl,c2⟩,c5,c6,c7⟩:=zdl (n:=n+3) (first:=[]) (captured:=[]) (args:=[.agg (roadCs r),F]) (H:=H) k.calm k.open_ (le' rfl)
    (ztu C k.calm _ (mustL k (n+2)) (isSpanL k (n+2)) (withinL k (n+2)) r (fun _=>isPartL k hbig.1 (n+1)) ⟨by omega,by omega⟩ H F is hF)
  rcases c2 with ⟨h1,rfl⟩|⟨h1,h2,rfl⟩|⟨h1,h2,xb,mb,eb,rfl,h3,h4,h5,h6,h7⟩
  · exact .inl ⟨h1,by rw[c7 rfl rfl] at c1;exact c1⟩
  · exact .inr (.inl ⟨h1,h2,by rw[c7 rfl rfl] at c1;exact c1⟩)
  · have he:=lft_eq (v:=.ptr xb 0) c5 h3 c6 (.inl (by simp[refs]))
    subst he
    exact .inr (.inr ⟨h1,h2,H',xb,mb,eb,c1,h3,h4,h5,h6,h7⟩)
theorem zcv {f n:Nat}{fn:AFunc}{args:List AV}{v:AV}(h0:Has C f fn)(hlen:([]++args++[]).length≤fn.ntmps)(hv:refs v=[])
    (h:Does (ev C (Ev.call C n) ([]:List AB).length Option.none fn.body { tm:=tmA fn.ntmps (zipI 0 args []),df:=[],hp:=[],tc:=[] }) (Fin C ([]:List AB).length fn (Ans v))):Ev.call C (n+1) (.fn (.func f) [] []) args []=Option.some (.ret v,[],[]):=by
  obtain ⟨x,hp,tc,H',c1,⟨rfl,rfl⟩,_,_,c7⟩:=zdl (n:=n) (first:=[]) (captured:=[]) (args:=args) (H:=[]) k.calm h0 hlen (by simpa using h)
  rw[c1,c7 hv rfl]
variable {r:Rd.Road} (hbig:r.parts.length≤1000∧r.events.length≤1000)
include hbig
theorem headL (n:Nat)(H:List AB)(F:AV)(is:Bool)(hF:IsFn (Ev.call C (n+r.events.length+16)) r F is H):HeadQ (Ev.call C (n+r.events.length+17)) r H F is:=by
  have h1:=openL k hbig (n+r.events.length+13)
  exact yaf h1 (fun hv => by
    have h2:=knownL k ((Rd.valid_iff r).1 hv) (n+4)
    rw[show n+4+r.events.length+13=n+r.events.length+17 by omega] at h2
    exact h2) H F is hF
theorem heightE (n:Nat)(num evn:Int)(he:-9223372036854775808≤evn∧evn≤9223372036854775807):Ev.call C (n+r.events.length+18) (.fn (.func 7) [] []) [.agg (roadCs r),.int .i64 num,.int .i64 evn] []=some (.ret (spanRV r (Rd.isPart r num&&Rd.isEvent r evn) (Rd.heightsR r num.toNat (evn.toNat+1))),[],[]):=
  zcv k k.eHeight (le' rfl) rfl (zmb C _ (Ev.call C (n + r.events.length + 16)) r k.dfHeight (fun H F is h => headL k hbig n H F is h) (fun hv => by
    have h2:=heightsL k ((Rd.valid_iff r).1 hv) (n+3)
    rw[show n+3+r.events.length+14=n+r.events.length+17 by omega] at h2
    exact h2) num evn he (fun hv G xb mb eb hG hX=>
      zaj (first:=[]) (captured:=[.ptr 1 0,.ptr 2 0]) k.calm k.height2 (le' rfl) rfl (zmc C _ r (isPartL k hbig.1 (n+r.events.length+13)) (isEventL k hbig.2 (n+r.events.length+13)) G xb mb eb hX num evn 1 2 (hG.at rfl (by simp)) (hG.at rfl (by simp)))))
theorem sinksE (n:Nat)(num load:Int):Ev.call C (n+r.events.length+18) (.fn (.func 9) [] []) [.agg (roadCs r),.int .i64 num,.int .i64 load] []=some (.ret (spanRV r (Rd.isPart r num&&Rd.isLoad load) (Rd.sinksR r num.toNat load)),[],[]):=
  zcv k k.eSinks (le' rfl) rfl (zoy C _ (Ev.call C (n + r.events.length + 16)) (Ev.call C (n + 11)) r k.dfSinks (fun H F is h => headL k hbig n H F is h) (fun hv => by
    have h2:=spanL k ((Rd.valid_iff r).1 hv) (n+4)
    rw[show n+4+r.events.length+13=n+r.events.length+17 by omega] at h2
    exact h2) (sinks3L k (n+9)) num load (fun hv G xb mb eb hG hX=>
      zaj (first:=[]) (captured:=[.ptr 1 0,.ptr 2 0]) k.calm k.sinks2 (le' rfl) rfl (zpa C _ r (isPartL k hbig.1 (n+r.events.length+13)) (isLoadL k (n+r.events.length+13)) G xb mb eb hX num load 1 2 (hG.at rfl (by simp)) (hG.at rfl (by simp)))))
theorem bearsE (n:Nat)(load:Int):Ev.call C (n+r.events.length+18) (.fn (.func 11) [] []) [.agg (roadCs r),.int .i64 load] []=some (.ret (numRV r (Rd.isLoad load) (Rd.bearsR r load)),[],[]):=
  zcv k k.eBears (le' rfl) rfl (zri C _ (Ev.call C (n + r.events.length + 16)) r k.dfBears (fun H F is h => headL k hbig n H F is h) (fun hv => by
    have h2:=sureL k ((Rd.valid_iff r).1 hv) (n+4)
    rw[show n+4+r.events.length+13=n+r.events.length+17 by omega] at h2
    exact h2) (fun hv=>by
    have h2:=mayL k ((Rd.valid_iff r).1 hv) (n+4)
    rw[show n+4+r.events.length+13=n+r.events.length+17 by omega] at h2
    exact h2) load (fun hv G xb mb eb hG hX=>
      zaj (first:=[]) (captured:=[.ptr 1 0]) k.calm k.bears2 (le' rfl) rfl (zrj C _ (isLoadL k (n+r.events.length+13)) G _ load 1 (hG.at rfl (by simp)))))
theorem mostE (n:Nat):Ev.call C (n+r.events.length+18) (.fn (.func 16) [] []) [.agg (roadCs r)] []=some (.ret (findRV r true (Rd.mostR r)),[],[]):=
  zcv k k.eMost (le' rfl) rfl (zud C _ (Ev.call C (n+r.events.length+16)) (Ev.call C (n+r.events.length+14)) r k.dfMost (fun H F is h=>headL k hbig n H F is h) (countNL k _) (fun _=>firstNL k n) (fun hv=>most2L k ((Rd.valid_iff r).1 hv) n) (fun _hv G _xb _mb _eb _hG _hX=>alwaysL k _ G _))
theorem restE (n:Nat)(load:Int):Ev.call C (n+r.events.length+18) (.fn (.func 18) [] []) [.agg (roadCs r),.int .i64 load] []=some (.ret (findRV r (Rd.isLoad load) (Rd.restR r load)),[],[]):=
  zcv k k.eRest (le' rfl) rfl (ztl C _ (Ev.call C (n + r.events.length + 16)) (Ev.call C (n + r.events.length + 14)) r k.dfRest (fun H F is h => headL k hbig n H F is h) (countNL k _) (fun _ => firstNL k n) (fun hv => rest3L k ((Rd.valid_iff r).1 hv) n) load (fun hv G xb mb eb hG hX =>
      zaj (first:=[]) (captured:=[.ptr 1 0]) k.calm k.rest2 (le' rfl) rfl (ztn C _ (isLoadL k (n+r.events.length+13)) G _ load 1 (hG.at rfl (by simp)))))
theorem weakE (n:Nat):Ev.call C (n+r.events.length+18) (.fn (.func 20) [] []) [.agg (roadCs r)] []=some (.ret (numRV r true (Rd.weakR r)),[],[]):=
  zcv k k.eWeak (le' rfl) rfl (zrt C k.calm _ (Ev.call C (n + r.events.length + 16)) r k.dfWeak (fun H F is h => headL k hbig n H F is h) (fun hv => by
    have h2:=heightsL k ((Rd.valid_iff r).1 hv) (n+3)
    rw[show n+3+r.events.length+14=n+r.events.length+17 by omega] at h2
    exact h2) (fun hv G xb mb eb hG hX=>alwaysL k _ G _))
theorem belowE (n:Nat):Ev.call C (n+r.events.length+18) (.fn (.func 13) [] []) [.agg (roadCs r)] []=some (.ret (belowRV r),[],[]):=
  zcv k k.eBelow (le' rfl) rfl (zrh C k.calm k.wh (n + 12) _ (Ev.call C (n + r.events.length + 16)) r k.dfBelow (fun H F is h => headL k hbig n H F is h) (toldNL k _) (fun hv => by
    have h2:=toldIL k ((Rd.valid_iff r).1 hv) (n+6)
    rw[show n+6+r.events.length+11=n+r.events.length+17 by omega] at h2
    exact h2) (fun hv=>everyL k ((Rd.valid_iff r).1 hv) _) (fun hv=>everyL k ((Rd.valid_iff r).1 hv) _) (fun hv=>waysL k ((Rd.valid_iff r).1 hv) (n+5)) (fun hv=>heightL k ((Rd.valid_iff r).1 hv) (n+9)) (fun hv G xb mb eb hG hX=>alwaysL k _ G _))
end
end Ro
namespace Ro
open K
attribute [local simp] ev1 wantG spineK spine float xnew xval xeff zab zae zau zah zai addFl cellsOf pickC alive slLen slFt binI maxA maxK minA minK aeqK aeqS AV.cells spA zad fillA setAt bitsI nat_nn zav AV.plain apart
set_option maxRecDepth 100000
set_option maxHeartbeats 4000000
theorem zth (C:Cfg)(call:CallF)(H:List AB)(n a b:Int):Does (ev C call H.length none af93.body { tm:=tmA af93.ntmps (zipI 0 [.int .i64 n,.int .i64 a,.int .i64 b] []),df:=[],hp:=H,tc:=[] })
    (Ends C H.length af93.res fun v _hp tc=>v=.bool (decide (a≤n∧n≤b))∧tc=[]):=by
  unfold af93 Zq Zm Zo Zt
  simp only[zipI]
  by_cases h:a≤n
  · (refine gA ?_)
    exact zac (v:=.bool (decide (n≤b))) (.inl rfl) rfl (by simp) endvP ⟨by simp[h],rfl⟩
  · (refine gA ?_)
    exact zac (v:=.bool false) (.inl rfl) rfl (by simp) endvP ⟨by simp[h],rfl⟩
def RinC (call:CallF):Prop:=∀ (H:List AB) (n a b:Int),call (.fn (.func 93) [] []) [.int .i64 n,.int .i64 a,.int .i64 b] H=some (.ret (.bool (decide (a≤n∧n≤b))),H,[])
theorem ztb (C:Cfg)(call:CallF)(H:List AB)(s:Clm.Sp)(a b w:Int)(h0:-1000≤a)(hb:b≤1000):Does (ev C call H.length none af105.body { tm:=tmA af105.ntmps (zipI 0 [spA s,.int .i64 a,.int .i64 b,.int .i64 w] []),df:=[],hp:=H,tc:=[] })
    (Ends C H.length af105.res fun v _hp tc=>v=.bool (Rd.isSpan s a b w)∧tc=[]):=by
  by_cases h1:a≤s.lo
  · by_cases h2:s.lo≤s.hi
    · by_cases h3:s.hi≤b
      · have w1:IntKind.i64.wrap (s.hi - s.lo)=s.hi - s.lo:=zaf (by omega) (by omega)
        clear h0 hb
        have e:Rd.isSpan s a b w=decide (s.hi - s.lo≤w):=by simp[Rd.isSpan,h1,h2,h3]
        rw[e];clear e
        unfold af105 Zq Zm Zl Zo Zt
        simp only[zipI,spA]
        refine gA ?_
        exact zac (v:=.bool (decide (s.hi - s.lo≤w))) (.inl rfl) rfl (by simp) endvP ⟨rfl,by simp⟩
      · clear h0 hb
        have e:Rd.isSpan s a b w=false:=by simp[Rd.isSpan,h3]
        rw[e];clear e
        unfold af105 Zq Zm Zl Zo Zt
        simp only[zipI,spA]
        refine gA ?_
        exact zac (v:=.bool false) (.inl rfl) rfl (by simp) endvP ⟨rfl,by simp⟩
    · clear h0 hb
      have e:Rd.isSpan s a b w=false:=by simp[Rd.isSpan,h2]
      rw[e];clear e
      unfold af105 Zq Zm Zl Zo Zt
      simp only[zipI,spA]
      refine gA ?_
      exact zac (v:=.bool false) (.inl rfl) rfl (by simp) endvP ⟨rfl,by simp⟩
  · clear h0 hb
    have e:Rd.isSpan s a b w=false:=by simp[Rd.isSpan,h1]
    rw[e];clear e
    unfold af105 Zq Zm Zl Zo Zt
    simp only[zipI,spA]
    refine gA ?_
    exact zac (v:=.bool false) (.inl rfl) rfl (by simp) endvP ⟨rfl,by simp⟩
def RspanC (call:CallF):Prop:=∀ (H:List AB) (s:Clm.Sp) (a b w:Int),-1000≤a→b≤1000→call (.fn (.func 105) [] []) [.agg [.int .i64 s.lo,.int .i64 s.hi],.int .i64 a,.int .i64 b,.int .i64 w] H=some (.ret (.bool (Rd.isSpan s a b w)),H,[])
theorem zjt (C:Cfg)(call:CallF)(hI:RinC call)(r:Rd.Road)(hr:r.parts.length≤1000000)(H:List AB)(n:Int):Does (ev C call H.length none af37.body { tm:=tmA af37.ntmps (zipI 0 [.agg (roadCs r),.int .i64 n] []),df:=[],hp:=H,tc:=[] })
    (Ends C H.length af37.res fun v _hp tc=>v=.bool (Rd.isPart r n)∧tc=[]):=by
  have hw:IntKind.i64.wrap ((r.parts.length:Int) - 1)=(r.parts.length:Int) - 1:=zaf (by omega) (by omega)
  have e:Rd.isPart r n=decide (0≤n∧n≤(r.parts.length:Int) - 1):=by unfold Rd.isPart;congr 1;simp;omega
  have hW':=fun H=>hI H n 0 ((r.parts.length:Int) - 1)
  rw[e]
  generalize decide (0≤n∧n≤(r.parts.length:Int) - 1)=b at *
  clear hI e hr
  unfold af37 Zq Zm Zl Zo Zc Zt Zn
  simp only[zipI,roadCs] at *
  refine gA ?_
  exact zac (v:=.bool b) (.inl rfl) rfl (by simp) endvP ⟨rfl,rfl⟩
def RpartC (call:CallF)(r:Rd.Road):Prop:=∀ (H:List AB) (n:Int),call (.fn (.func 37) [] []) [.agg (roadCs r),.int .i64 n] H=some (.ret (.bool (Rd.isPart r n)),H,[])
theorem zpg (C:Cfg)(call:CallF)(r:Rd.Road)(hI:RinC call)(hP:RpartC call r)(hS:RspanC call)(H:List AB)(v:Rd.Evt):Does (ev C call H.length none af106.body { tm:=tmA af106.ntmps (zipI 0 [.agg (roadCs r),evE v] []),df:=[],hp:=H,tc:=[] })
    (Ends C H.length af106.res fun w _hp tc=>w=.bool (Rd.okEvt r v)∧tc=[]):=by
  have hp:=fun H=>hP H v.part
  have h0:=fun H=>hS H v.load 0 60 2 (by decide) (by decide)
  have h1:=fun H=>hI H v.days 1 10
  have h2:=fun H=>hS H v.shows (-1000) 1000 2000 (by decide) (by decide)
  have hev:Rd.okEvt r v=if v.kind=0 then Rd.isSpan v.load 0 60 2 else if v.kind=1 then decide (1≤v.days∧v.days≤10) else decide (v.kind=2)&&Rd.isPart r v.part&&Rd.isSpan v.shows (-1000) 1000 2000:=rfl
  rw[hev]
  clear hP hS hev hI
  generalize decide (1≤v.days∧v.days≤10)=b1 at *
  generalize Rd.isSpan v.load 0 60 2=b0 at *
  generalize Rd.isSpan v.shows (-1000) 1000 2000=b2 at *
  unfold af106 Zq Zm Zl Zo Zc Zt Zn
  simp only[zipI,roadCs,evE] at *
  by_cases k0:v.kind=0
  · rw[if_pos k0]
    refine gA ?_
    exact zac (v:=.bool b0) (.inl rfl) rfl (by simp) endvP ⟨rfl,rfl⟩
  · have k0':=beq_false_of_ne k0
    rw[if_neg k0]
    by_cases k1:v.kind=1
    · rw[if_pos k1]
      refine gA ?_
      exact zac (v:=.bool b1) (.inl rfl) rfl (by simp) endvP ⟨rfl,rfl⟩
    · have k1':=beq_false_of_ne k1
      rw[if_neg k1]
      by_cases k2:v.kind=2
      · rw[decide_eq_true k2,Bool.true_and]
        cases hb:Rd.isPart r v.part with
        |false=>
          rw[hb] at hp
          refine gA ?_
          exact zac (v:=.bool false) (.inl rfl) rfl (by simp) endvP ⟨rfl,rfl⟩
        |true=>
          rw[hb] at hp
          refine gA ?_
          exact zac (v:=.bool b2) (.inl rfl) rfl (by simp) endvP ⟨rfl,rfl⟩
      · have k2':=beq_false_of_ne k2
        refine gA ?_
        exact zac (v:=.bool false) (.inl rfl) rfl (by simp) endvP ⟨by simp[k2],rfl⟩
def ReventC (call:CallF)(r:Rd.Road):Prop:=∀ (H:List AB) (v:Rd.Evt),call (.fn (.func 106) [] []) [.agg (roadCs r),evE v] H=some (.ret (.bool (Rd.okEvt r v)),H,[])
theorem ztd (C:Cfg)(hC:C.calm=true)(call:CallF)(r:Rd.Road)(hbig:r.parts.length≤1000∧r.events.length≤1000)(hI:RinC call)(hS:RspanC call)(hE:ReventC call r)(H:List AB):Does (ev C call H.length none af62.body { tm:=tmA af62.ntmps (zipI 0 [.agg (roadCs r)] []),df:=[],hp:=H,tc:=[] })
    (Ends C H.length af62.res fun w _hp tc=>w=.bool (Rd.valid r)∧tc=[]):=by
  have hw1:=fun H=>hI H (r.parts.length:Int) 1 4
  have e1:decide ((1:Int)≤r.parts.length∧(r.parts.length:Int)≤4)=decide (1≤r.parts.length∧r.parts.length≤4):=by congr 1;simp;omega
  rw[e1] at hw1
  have hhead:headOk r=(decide (1≤r.parts.length∧r.parts.length≤4)&&decide (r.events.length≤10)):=rfl
  have hv:=zmy r
  rw[hhead] at hv
  have HH:=hideP (And.intro hS (And.intro hI hE))
  rw[hv]
  clear e1 hhead hI hE hS hv
  unfold af62 Zq Zm Zl Zo Zs Zc Zt Zn Zi
  simp only[zipI,roadCs] at *
  cases h1:decide (1≤r.parts.length∧r.parts.length≤4) with
  |false=>
    rw[h1] at hw1
    clear h1
    refine gA ?_
    exact zac (v:=.bool false) (.inl rfl) rfl (by simp) endvP ⟨by simp,rfl⟩
  |true=>
    rw[h1] at hw1
    have h1:=of_decide_eq_true h1
    by_cases h3:r.events.length≤10
    · have h3':¬ (10:Int)<r.events.length:=by omega
      rw[decide_eq_true h3]
      simp only[Bool.true_and]
      refine gA ?_
      clear hw1
      have hp1:=hbig.1
      with_reducible refine zan hC r.parts.length (by unfold fuelL;omega) (fun i st=>∃ J,(∀ j p,j<i→r.parts[j]?=some p→Rd.okPart p=true)∧st={ tm:=tmA 87 [(3,.int .i64 i),(1,.ptr H.length 0)],df:=[],hp:=H++.cells [.vs 7 (r.parts.map ptE),.vs 7 (r.events.map evE)]::J,tc:=[] }) ?_ ?_ ?_
      · refine ⟨[],by simp,?_⟩
        exact inwP
      · rintro i st hi ⟨J,hok,rfl⟩
        obtain ⟨hS,hI,_⟩:=HH.out
        have hgp:r.parts[i]?=some r.parts[i]:=List.getElem?_eq_getElem hi
        generalize r.parts[i]=p at hgp
        have hgp':=ge_of hgp
        have hwi:IntKind.i64.wrap (↑i+1)=↑i+1:=zaf (by omega) (by omega)
        have hnext:Rd.okPart p=true→∀ j q,j<i+1→r.parts[j]?=some q→Rd.okPart q=true:=by
          intro ho j q hj hq
          by_cases h:j=i
          · subst h;rw[hgp] at hq;cases hq;exact ho
          · exact hok j q (by omega) hq
        have hbad:Rd.okPart p=false→r.parts.all Rd.okPart=false:=fun h=>by
          rw[List.all_eq_false]
          exact ⟨p,List.mem_of_getElem? hgp,by rw[h];decide⟩
        have hpo:Rd.okPart p=(decide (0≤p.full∧p.full≤60)&&Rd.isSpan p.height 0 p.full 2&&Rd.isSpan p.stiff 1 10 2&&Rd.isSpan p.rise 0 5 2):=rfl
        have q0:=fun H=>hI H p.full 0 60
        have HN:=hideP (And.intro hnext hbad)
        clear hnext hbad hok hgp hI
        cases b0:decide (0≤p.full∧p.full≤60) with
        |false=>
          rw[b0] at q0 hpo
          have HP:=hideP (HN.out.2 (by rw[hpo];rfl))
          clear hpo b0 hS
          refine gJ ?_
          exact zac (v:=.bool false) (.inl rfl) rfl (by simp) endvP ⟨by rw[HP.out];rfl,by simp⟩
        |true=>
          rw[b0] at q0 hpo
          have hf60:=of_decide_eq_true b0
          have q1:=fun H=>hS H p.height 0 p.full 2 (by decide) (by omega)
          have q2:=fun H=>hS H p.stiff 1 10 2 (by decide) (by decide)
          have q3:=fun H=>hS H p.rise 0 5 2 (by decide) (by decide)
          clear hS hf60 b0
          cases b1:Rd.isSpan p.height 0 p.full 2 with
          |false=>
            rw[b1] at q1 hpo
            have HP:=hideP (HN.out.2 (by rw[hpo];rfl))
            clear hpo b1
            refine gJ ?_
            exact zac (v:=.bool false) (.inl rfl) rfl (by simp) endvP ⟨by rw[HP.out];rfl,by simp⟩
          |true=>
            rw[b1] at q1 hpo
            cases b2:Rd.isSpan p.stiff 1 10 2 with
            |false=>
              rw[b2] at q2 hpo
              have HP:=hideP (HN.out.2 (by rw[hpo];rfl))
              clear hpo b1 b2
              refine gJ ?_
              exact zac (v:=.bool false) (.inl rfl) rfl (by simp) endvP ⟨by rw[HP.out];rfl,by simp⟩
            |true=>
              rw[b2] at q2 hpo
              cases b3:Rd.isSpan p.rise 0 5 2 with
              |false=>
                rw[b3] at q3 hpo
                have HP:=hideP (HN.out.2 (by rw[hpo];rfl))
                clear hpo b1 b2 b3
                refine gJ ?_
                exact zac (v:=.bool false) (.inl rfl) rfl (by simp) endvP ⟨by rw[HP.out];rfl,by simp⟩
              |true=>
                rw[b3] at q3 hpo
                have HP:=hideP (HN.out.1 (by rw[hpo];rfl))
                clear hpo b1 b2 b3
                refine gJ ?_
                with_reducible refine ⟨?_,HP.out,?_⟩
                rotate_left
                exact inwP
      · rintro st ⟨J,hok,rfl⟩
        have hall:r.parts.all Rd.okPart=true:=by
          rw[List.all_eq_true]
          intro p hp
          obtain ⟨j,hj⟩:=List.mem_iff_getElem?.1 hp
          exact hok j p (List.getElem?_eq_some_iff.1 hj).1 hj
        rw[hall]
        simp only[Bool.true_and]
        clear hall hok
        refine gA ?_
        have he10:(r.events.length:Int)≤1000:=by omega
        with_reducible refine zan hC r.events.length (by unfold fuelL;omega) (fun i st=>∃ J,(∀ j p,j<i→r.events[j]?=some p→Rd.okEvt r p=true)∧st={ tm:=tmA 87 [(6,.int .i64 i),(5,.int .i64 ((r.events.take i).filter Rd.doubt).length),(1,.ptr H.length 0)],df:=[],hp:=H++.cells [.vs 7 (r.parts.map ptE),.vs 7 (r.events.map evE)]::J,tc:=[] }) ?_ ?_ ?_
        · refine ⟨J,fun j p hj=>absurd hj (Nat.not_lt_zero _),?_⟩
          exact inwP
        · rintro i st hi ⟨J,hok,rfl⟩
          obtain ⟨_,_,hE⟩:=HH.out
          have hgp:r.events[i]?=some r.events[i]:=List.getElem?_eq_getElem hi
          generalize r.events[i]=p at hgp
          have hgp':=ge_of hgp
          have hwi:IntKind.i64.wrap (↑i+1)=↑i+1:=zaf (by omega) (by omega)
          have hnext:Rd.okEvt r p=true→∀ j q,j<i+1→r.events[j]?=some q→Rd.okEvt r q=true:=by
            intro ho j q hj hq
            by_cases h:j=i
            · subst h;rw[hgp] at hq;cases hq;exact ho
            · exact hok j q (by omega) hq
          have hbad:Rd.okEvt r p=false→r.events.all (Rd.okEvt r)=false:=fun h=>by
            rw[List.all_eq_false]
            exact ⟨p,List.mem_of_getElem? hgp,by rw[h];decide⟩
          have hds:=zii hgp
          have hdl:((r.events.take i).filter Rd.doubt).length≤i:=Nat.le_trans (List.length_filter_le _ _) (by simp;omega)
          rw[hds]
          generalize ((r.events.take i).filter Rd.doubt).length=many at *
          have hwm:IntKind.i64.wrap (↑many+1)=↑many+1:=zaf (by omega) (by omega)
          have q0:=fun H=>hE H p
          have HN:=hideP (And.intro hnext hbad)
          simp only[roadCs,evE] at q0
          clear hnext hbad hok hgp hE hdl hds
          cases b0:Rd.okEvt r p with
          |false=>
            rw[b0] at q0
            have HP:=hideP (HN.out.2 b0)
            clear b0
            refine gF ?_
            exact zac (v:=.bool false) (.inl rfl) rfl (by simp) endvP ⟨by rw[HP.out];rfl,by simp⟩
          |true=>
            rw[b0] at q0
            have HP:=hideP (HN.out.1 b0)
            clear b0
            by_cases k0:p.kind=0
            · rw[k0] at q0
              by_cases k1:p.load.lo<p.load.hi
              · have e:(if Rd.doubt p=true then 1 else 0)=1:=by simp[Rd.doubt,k0,k1]
                rw[e];clear e
                refine gF ?_
                with_reducible refine ⟨?_,HP.out,?_⟩
                rotate_left
                exact inwP
              · have e:(if Rd.doubt p=true then 1 else 0)=0:=by simp[Rd.doubt,k1]
                rw[e];clear e
                refine gF ?_
                with_reducible refine ⟨?_,HP.out,?_⟩
                rotate_left
                exact inwP
            · have e:(if Rd.doubt p=true then 1 else 0)=0:=by simp[Rd.doubt,k0]
              have k0':=beq_false_of_ne k0
              rw[e];clear e
              refine gF ?_
              with_reducible refine ⟨?_,HP.out,?_⟩
              rotate_left
              exact inwP
        · rintro st ⟨J,hok,rfl⟩
          have hall:r.events.all (Rd.okEvt r)=true:=by
            rw[List.all_eq_true]
            intro p hp
            obtain ⟨j,hj⟩:=List.mem_iff_getElem?.1 hp
            exact hok j p (List.getElem?_eq_some_iff.1 hj).1 hj
          rw[hall,List.take_length]
          generalize (r.events.filter Rd.doubt).length=many
          simp only[Bool.true_and]
          clear hall hok
          refine gA ?_
          exact zac (v:=.bool (decide ((many:Int)≤4))) (.inl rfl) rfl (by simp) endvP ⟨by congr 2;simp;omega,by simp⟩
    · have h3':(10:Int)<r.events.length:=by omega
      refine gA ?_
      exact zac (v:=.bool false) (.inl rfl) rfl (by simp) endvP ⟨by simp[h3],by simp⟩
end Ro
end Ev
end Go.Proofs.YtlcjlcllbgjplaaGreat
namespace Go.Proofs.YtlcjlcllbgjplaaGreat
namespace Srt2
open Clm (ltS sizeN)
def LTs (a b:Nat):Prop:=ltS a b=true
theorem zlv (a b:Nat):LTs a b↔sizeN a<sizeN b∨(sizeN a=sizeN b∧a<b):=by
  unfold LTs ltS
  simp only[Bool.or_eq_true,Bool.and_eq_true,decide_eq_true_eq,beq_iff_eq]
theorem LTs.trans {a b c:Nat}(h:LTs a b)(g:LTs b c):LTs a c:=by
  rw[zlv] at *
  generalize sizeN a=x at *
  generalize sizeN b=y at *
  generalize sizeN c=z at *
  omega
theorem lts_right {x y:Nat}(h:x<y):LTs y x↔sizeN y<sizeN x:=by
  rw[zlv]
  generalize sizeN y=a
  generalize sizeN x=b
  omega
theorem lts_left {x y:Nat}(h:x<y):LTs x y↔¬ sizeN y<sizeN x:=by
  rw[zlv]
  generalize sizeN y=a
  generalize sizeN x=b
  omega
def Sorted (l:List Nat):Prop:=l.Pairwise LTs
def Sep (A B:List Nat):Prop:=∀ x∈A,∀ y∈B,x<y
theorem sorted_join {A1 A2 B1 B2 M1 M2:List Nat}(hA:Sorted (A1++A2))(hB:Sorted (B1++B2))(h1:∀ x∈A1,∀ y∈B2,LTs x y)(h2:∀ x∈B1,∀ y∈A2,LTs x y)(s1:Sorted M1)(s2:Sorted M2)(p1:M1.Perm (A1++B1))(p2:M2.Perm (A2++B2)):Sorted (M1++M2)∧(M1++M2).Perm ((A1++A2)++(B1++B2)):=by
  constructor
  · unfold Sorted at *
    rw[List.pairwise_append]
    refine ⟨s1,s2,fun x hx y hy=>?_⟩
    have hx':=p1.mem_iff.1 hx
    have hy':=p2.mem_iff.1 hy
    rw[List.mem_append] at hx' hy'
    rw[List.pairwise_append] at hA hB
    rcases hx' with hx'|hx'<;>rcases hy' with hy'|hy'
    · exact hA.2.2 x hx' y hy'
    · exact h1 x hx' y hy'
    · exact h2 x hx' y hy'
    · exact hB.2.2 x hx' y hy'
  · refine (p1.append p2).trans ?_
    rw[List.append_assoc,List.append_assoc]
    refine List.Perm.append_left A1 ?_
    rw[← List.append_assoc,← List.append_assoc]
    exact List.Perm.append_right B2 List.perm_append_comm
theorem sorted_first {l:List Nat}(hs:Sorted l){p:Nat→Bool}{S:Nat}(h:l.find? p=some S):S∈l∧p S=true∧∀ o∈l,p o=true→sizeN S<sizeN o∨sizeN S=sizeN o∧S≤o:=Clm.find_least hs h
theorem split_at {l:List Nat}{i:Nat}(h:i≤l.length):∃ a b,l=a++b∧a.length=i∧b.length=l.length - i:=
  ⟨l.take i,l.drop i,(List.take_append_drop i l).symm,by rw[List.length_take];omega,by rw[List.length_drop]⟩
theorem sym_cut {A B:List Nat}(hA:Sorted A)(hB:Sorted B)(i j:Nat)(hi:i≤A.length)(hj:j≤B.length)(h1:∀ a b,0<i→A[i - 1]?=some a→B[j]?=some b→LTs a b)(h2:∀ a b,0<j→B[j - 1]?=some b→A[i]?=some a→LTs b a):
    (∀ x∈A.take i,∀ y∈B.drop j,LTs x y)∧∀ x∈B.take j,∀ y∈A.drop i,LTs x y:=by
  have key:∀ {A B:List Nat},Sorted A→Sorted B→∀ i j,i≤A.length→(∀ a b,0<i→A[i - 1]?=some a→B[j]?=some b→LTs a b)→∀ x∈A.take i,∀ y∈B.drop j,LTs x y:=by
    intro A B hA hB i j hi h x hx y hy
    obtain ⟨n,hn,rfl⟩:=List.getElem_of_mem hx
    obtain ⟨m,hm,rfl⟩:=List.getElem_of_mem hy
    rw[List.length_take] at hn
    rw[List.length_drop] at hm
    rw[List.getElem_take,List.getElem_drop]
    have hi1:i - 1<A.length:=by omega
    have hj1:j<B.length:=by omega
    have hm0:=h A[i - 1] B[j] (by omega) (List.getElem?_eq_getElem hi1) (List.getElem?_eq_getElem hj1)
    have ha:n=i - 1∨LTs A[n] A[i - 1]:=by
      by_cases e:n=i - 1
      · exact .inl e
      · exact .inr ((List.pairwise_iff_getElem.1 hA) n (i - 1) (by omega) hi1 (by omega))
    have hb:m=0∨LTs B[j] B[j+m]:=by
      by_cases e:m=0
      · exact .inl e
      · exact .inr ((List.pairwise_iff_getElem.1 hB) j (j+m) hj1 (by omega) (by omega))
    have hab:LTs A[n] B[j]:=by
      rcases ha with e|ha
      · subst e;exact hm0
      · exact ha.trans hm0
    rcases hb with e|hb
    · subst e;simpa using hab
    · exact hab.trans hb
  exact ⟨key hA hB i j hi h1,key hB hA j i hj fun a b h3 h4 h5=>h2 b a h3 h4 h5⟩
end Srt2
end Go.Proofs.YtlcjlcllbgjplaaGreat
namespace Go.Proofs.YtlcjlcllbgjplaaGreat
open Go
namespace Srt2
def swR (l:List Nat)(a b:Nat):Nat→List Nat
  |0=>l
  |i+1=>((swR l a b i).set (a+i) ((swR l a b i).getD (b+i) 0)).set (b+i) ((swR l a b i).getD (a+i) 0)
theorem swR_len (l:List Nat)(a b:Nat):∀ n,(swR l a b n).length=l.length
  |0=>rfl
  |n+1=>by rw[swR,List.length_set,List.length_set,swR_len l a b n]
theorem zsf (l:List Nat)(a b:Nat):∀ n,a+n≤b→b+n≤l.length→∀ j,(swR l a b n)[j]?=if a≤j∧j<a+n then l[b+(j - a)]? else if b≤j∧j<b+n then l[a+(j - b)]? else l[j]?
  |0,_,_,j=>by rw[swR,if_neg (by omega),if_neg (by omega)]
  |n+1,h1,h2,j=>by
    have ih:=zsf l a b n (by omega) (by omega)
    have hl:=swR_len l a b n
    have e1:(swR l a b n).getD (b+n) 0=l.getD (b+n) 0:=by
      rw[List.getD_eq_getElem?_getD,ih,if_neg (by omega),if_neg (by omega),← List.getD_eq_getElem?_getD]
    have e2:(swR l a b n).getD (a+n) 0=l.getD (a+n) 0:=by
      rw[List.getD_eq_getElem?_getD,ih,if_neg (by omega),if_neg (by omega),← List.getD_eq_getElem?_getD]
    have g:∀ i,i<l.length→some (l.getD i 0)=l[i]?:=fun i hi=>by rw[List.getD_eq_getElem?_getD,List.getElem?_eq_getElem hi];rfl
    rw[swR,e1,e2,List.getElem?_set,List.getElem?_set,List.length_set,hl,ih]
    by_cases c1:b+n=j
    · subst c1
      rw[if_pos rfl,if_pos (by omega),if_neg (by omega),if_pos (by omega),show a+(b+n - b)=a+n by omega,g _ (by omega)]
    · rw[if_neg c1]
      by_cases c2:a+n=j
      · subst c2
        rw[if_pos rfl,if_pos (by omega),if_pos (by omega),show b+(a+n - a)=b+n by omega,g _ (by omega)]
      · rw[if_neg c2]
        by_cases c3:a≤j∧j<a+n
        · rw[if_pos c3,if_pos (by omega)]
        · rw[if_neg c3,if_neg (show ¬ (a≤j∧j<a+(n+1)) by omega)]
          by_cases c4:b≤j∧j<b+n
          · rw[if_pos c4,if_pos (by omega)]
          · rw[if_neg c4,if_neg (by omega)]
theorem swR_app (P X M Y S:List Nat)(h:X.length=Y.length):swR (P++(X++(M++(Y++S)))) P.length (P.length+X.length+M.length) X.length=P++(Y++(M++(X++S))):=by
  apply List.ext_getElem?
  intro j
  rw[zsf _ _ _ _ (by omega) (by simp;omega)]
  by_cases c1:P.length≤j∧j<P.length+X.length
  · rw[if_pos c1]
    rw[List.getElem?_append_right (show P.length≤P.length+X.length+M.length+(j - P.length) by omega),List.getElem?_append_right (by omega),List.getElem?_append_right (by omega),List.getElem?_append_left (by omega)]
    rw[List.getElem?_append_right c1.1,List.getElem?_append_left (by omega)]
    congr 1;omega
  · rw[if_neg c1]
    by_cases c2:P.length+X.length+M.length≤j∧j<P.length+X.length+M.length+X.length
    · rw[if_pos c2]
      rw[List.getElem?_append_right (show P.length≤P.length+(j - (P.length+X.length+M.length)) by omega),List.getElem?_append_left (by omega)]
      rw[List.getElem?_append_right (show P.length≤j by omega),List.getElem?_append_right (by omega),List.getElem?_append_right (by omega),List.getElem?_append_left (by omega)]
      congr 1;omega
    · rw[if_neg c2]
      by_cases c3:j<P.length
      · rw[List.getElem?_append_left c3,List.getElem?_append_left c3]
      · rw[List.getElem?_append_right (by omega),List.getElem?_append_right (by omega),List.getElem?_append_right (show P.length≤j by omega),List.getElem?_append_right (show Y.length≤j - P.length by omega)]
        rw[show j - P.length - Y.length=j - P.length - X.length by omega]
        by_cases c4:j - P.length - X.length<M.length
        · rw[List.getElem?_append_left c4,List.getElem?_append_left c4]
        · rw[List.getElem?_append_right (by omega),List.getElem?_append_right (by omega),List.getElem?_append_right (show M.length≤j - P.length - X.length by omega),List.getElem?_append_right (show X.length≤j - P.length - X.length - M.length by omega)]
          congr 1;omega
end Srt2
namespace Ev
namespace K
attribute [local simp] ev1 wantG spineK spine float xnew xval xeff zab zae zau zah zai addFl cellsOf pickC alive slLen slFt binI maxA maxK minA minK aeqK aeqS AV.cells spA zad fillA setAt bitsI nat_nn zav AV.plain apart
set_option maxRecDepth 100000
set_option maxHeartbeats 4000000
def us (l:List Nat):List AV:=l.map fun (n:Nat)=>AV.int .u64 (n:Int)
@[simp] theorem us_len (l:List Nat):(us l).length=l.length:=by simp[us]
theorem us_get {l:List Nat}{i:Nat}(h:i<l.length):(us l)[i]?=some (.int .u64 ((l.getD i 0:Nat):Int)):=by
  unfold us
  rw[List.getElem?_map,List.getElem?_eq_getElem h,List.getD_eq_getElem?_getD,List.getElem?_eq_getElem h];rfl
theorem us_set {l:List Nat}{i:Nat}(h:i<l.length)(x:Nat):(us l).take i++.int .u64 (x:Int)::(us l).drop (i+1)=us (l.set i x):=by
  unfold us
  rw[List.map_set,List.set_eq_take_append_cons_drop,if_pos (by simpa using h)]
theorem HB.same {G:List AB}{q:Nat}{x:AB}(h:HB G q x):G.set q x=G:=by
  apply List.ext_getElem?
  intro j
  rw[List.getElem?_set]
  by_cases e:q=j
  · subst e;rw[if_pos rfl,if_pos h.lt,h.get]
  · rw[if_neg e]
def swSt (q N a b n i:Nat)(G:List AB)(tc:List Nat):St:={ tm:=tmA 38 [(10,.int .i64 i),(3,.int .i64 n),(2,.int .i64 b),(1,.int .i64 a),(0,.sl q 0 N 1)],df:=[],hp:=G,tc:=tc }
theorem zot (C:Cfg)(call:CallF)(n0:Nat)(q N a b n i:Nat)(hN:N≤100000)(hi:i<n)(ha:a+n≤N)(hb:b+n≤N)(hab:a+n≤b)(l:List Nat)(hl:l.length=N)(G:List AB)(tc:List Nat)(hq:q<n0)(hG:HB G q (.cells (us (Srt2.swR l a b i)))):
    Does (ev C call n0 none (atP [1,0,0] af123.body) (swSt q N a b n i G tc))
      (fun e st=>e=.normal∧{ st with tm:=keepT [0,1,2,3,10] st.tm }=swSt q N a b n (i+1) (G.set q (.cells (us (Srt2.swR l a b (i+1))))) (q::q::tc)):=by
  have hsl:=Srt2.swR_len l a b i
  rw[Srt2.swR]
  generalize Srt2.swR l a b i=li at *
  have r1:=us_get (l:=li) (i:=b+i) (by omega)
  have r2:=us_get (l:=li) (i:=a+i) (by omega)
  have s1:=us_set (l:=li) (i:=a+i) (by omega) (li.getD (b+i) 0)
  have s2:=us_set (l:=li.set (a+i) (li.getD (b+i) 0)) (i:=b+i) (by rw[List.length_set];omega) (li.getD (a+i) 0)
  have hl1:(us li).length=N:=by rw[us_len,hsl,hl]
  have hl2:(us (li.set (a+i) (li.getD (b+i) 0))).length=N:=by rw[us_len,List.length_set,hsl,hl]
  generalize li.getD (b+i) 0=x at *
  generalize li.getD (a+i) 0=y at *
  obtain ⟨p,hp⟩:∃ p,a+i=p:=⟨_,rfl⟩
  obtain ⟨r,hr⟩:∃ r,b+i=r:=⟨_,rfl⟩
  rw[hp] at s1 s2 r2 hl2
  rw[hr] at s2 r1
  rw[hp,hr]
  have r1':=ge_of r1
  have r2':=ge_of r2
  have f1:(i:Int)<n:=by omega
  have f2:(p:Int)<N:=by omega
  have f3:(r:Int)<N:=by omega
  have f4:p+1≤N:=by omega
  have f5:r+1≤N:=by omega
  have w1:IntKind.i64.wrap ((a:Int)+i)=(p:Int):=by rw[show (p:Int)=(a:Int)+i by omega];exact zaf (by omega) (by omega)
  have w2:IntKind.i64.wrap ((b:Int)+i)=(r:Int):=by rw[show (r:Int)=(b:Int)+i by omega];exact zaf (by omega) (by omega)
  have hw:IntKind.i64.wrap (↑i+1)=↑i+1:=zaf (by omega) (by omega)
  obtain ⟨A1,A2,A3⟩:=hG
  clear hsl hl hab ha hb hN hp hr
  unfold af123 Zq Zm Zo Zd Ze Zt Zn swSt
  simp only[atP]
  refine gB ?_
  refine ⟨by first|rfl|trivial,?_⟩
  exact inwP
def SwrC (call:CallF):Prop:=∀ (H:List AB) (q N a b n:Nat) (l:List Nat) (cv:AV),HB H q (.cells (us l))→l.length=N→N≤100000→a+n≤b→b+n≤N →
  ∃ tc,call (.fn (.func 123) [] []) [.sl q 0 N 1,.int .i64 a,.int .i64 b,.int .i64 n,cv] H=some (.ret (.tup []),H.set q (.cells (us (Srt2.swR l a b n))),tc)∧(∀ j∈tc,j=q)∧(tc=[]→n=0)
theorem zwv (C:Cfg)(hC:C.calm=true)(call:CallF)(H:List AB)(q N a b n:Nat)(l:List Nat)(cv:AV)(hq:HB H q (.cells (us l)))(hl:l.length=N)(hN:N≤100000)(hab:a+n≤b)(hb:b+n≤N):
    Does (ev C call H.length none af123.body { tm:=tmA af123.ntmps (zipI 0 [.sl q 0 N 1,.int .i64 a,.int .i64 b,.int .i64 n,cv] []),df:=[],hp:=H,tc:=[] })
      (Ends C H.length af123.res fun v hp tc=>v=.tup []∧hp=H.set q (.cells (us (Srt2.swR l a b n)))∧(∀ j∈tc,j=q)∧(tc=[]→n=0)):=by
  have HX:=hideP (And.intro hq hl)
  have hq1:=hq.lt
  clear hq hl
  unfold af123 Zq Zm Zo Zd Ze Zt Zn
  simp only[zipI]
  refine gB ?_
  with_reducible refine zan hC n (by unfold fuelL;omega) (fun i st=>∃ G tc,G=H.set q (.cells (us (Srt2.swR l a b i)))∧(∀ j∈tc,j=q)∧(tc=[]→i=0)∧st=swSt q N a b n i G tc) ?_ ?_ ?_
  · refine ⟨H,[],by rw[Srt2.swR,HX.out.1.same],by simp,fun _=>rfl,?_⟩
    unfold swSt
    exact inwP
  · rintro i st hi ⟨G,tc,hG,htc,hte,rfl⟩
    obtain ⟨hq,hl⟩:=HX.out
    have hr:=zot C call H.length q N a b n i hN hi (by omega) hb hab l hl G tc hq.lt (by rw[hG];exact hq.here _)
    refine Does.mono hr ?_
    rintro e st ⟨rfl,h⟩
    exact ⟨_, _, by rw [hG, List.set_set], fun j hj => by
      rcases List.mem_cons.1 hj with rfl|hj
      · rfl
      · rcases List.mem_cons.1 hj with rfl|hj
        · rfl
        · exact htc j hj,(fun h=>by cases h),h⟩
  · rintro st ⟨G,tc,hG,htc,hte,rfl⟩
    have HY:=hideP (And.intro hG (And.intro htc hte))
    have hgl:H.length≤G.length:=by rw[hG,List.length_set];exact Nat.le_refl _
    clear hG htc hte
    unfold swSt
    refine gB ?_
    exact zac (v:=.tup []) (.inr rfl) rfl hgl (by simp only[resL];simp[*,resV]) ⟨rfl,HY.out.1,HY.out.2.1,HY.out.2.2⟩
theorem zse {C:Cfg}{n0:Nat}(hC:C.calm=true)(h0:Has C 123 af123):SwrC (Ev.call C (n0+1)):=by
  intro H q N a b n l cv hq hl hN hab hb
  obtain ⟨v,hp,tc,G,c1,⟨rfl,h2,htc,hte⟩,c3,c4,c5⟩:=zbm (first:=[]) (captured:=[]) (args:=[.sl q 0 N 1,.int .i64 a,.int .i64 b,.int .i64 n,cv]) (H:=H) hC h0.ext h0.exth h0.fns h0.whole (le' rfl) (zwv C hC _ H q N a b n l cv hq hl hN hab hb)
  refine ⟨tc,?_,htc,hte⟩
  rw[c1]
  have:G=H.set q (.cells (us (Srt2.swR l a b n))):=by
    by_cases ht:tc=[]
    · rw[c5 rfl ht,hte ht,Srt2.swR,hq.same]
    · obtain ⟨d1,d2⟩:=c4 (.inr ht)
      have hqt:q∈tc:=by
        cases tc with
        |nil=>exact absurd rfl ht
        |cons x t=>rw[← htc x (by simp)];simp
      rw[← h2]
      apply List.ext_getElem?
      intro j
      by_cases hj:j<H.length
      · by_cases hjt:j∈tc
        · exact c3.got j hj hjt
        · rw[c3.old j hj hjt,h2,List.getElem?_set_ne (show q≠j from fun e=>hjt (by rw[← e];exact hqt))]
      · exact d2 j (by omega)
  rw[this]
theorem zcc {C:Cfg}(hC:C.calm=true){call:CallF}{pin:Nat}{rd:Option Nat}{Q:AExit→St→Prop}{st:St}{c:AC}{live:List Nat}(n:Nat)(hn:n<fuelL)(P:Nat→St→Prop)(h0:P n { st with tm:=keepT live st.tm })
    (hround:∀ q st,P q st→Does (ev C call pin rd c st) (fun e st'=>match e with|.normal=>∃ q',q'<q∧P q' { st' with tm:=keepT live st'.tm }|e=>Q e st')):Does (ev C call pin rd (.loop live c) st) Q:=by
  refine zhe (fun k st=>∃ q,q≤k∧P q st) n hn ⟨n,Nat.le_refl _,by rw[zdj hC];exact h0⟩ ?_
  rintro k st ⟨q,hq,hP⟩
  refine (hround q st hP).mono fun e st' h'=>?_
  cases e with
  |normal=>
    obtain ⟨q',h1,h2⟩:=h'
    refine ⟨k - 1,by omega,q',by omega,?_⟩
    rw[zdj hC]
    exact h2
  |exit i=>exact h'
  |ret=>exact h'
  |panic v=>exact h'
def RotC (call:CallF):Prop:=∀ (H:List AB) (q N a m b:Nat) (P A B S:List Nat) (cv:AV),HB H q (.cells (us (P++(A++(B++S)))))→(P++(A++(B++S))).length=N→N≤100000→P.length=a→P.length+A.length=m→P.length+A.length+B.length=b→A≠[]→B≠[] →
  ∃ tc,call (.fn (.func 122) [] []) [.sl q 0 N 1,.int .i64 a,.int .i64 m,.int .i64 b,cv] H=some (.ret (.tup []),H.set q (.cells (us (P++(B++(A++S))))),tc)∧(∀ j∈tc,j=q)∧tc≠[]
def rtSt (q N m i j:Nat)(cv:AV)(G:List AB)(tc:List Nat):St:={ tm:=tmA 58 [(11,.int .i64 j),(10,.int .i64 i),(4,cv),(2,.int .i64 m),(0,.sl q 0 N 1)],df:=[],hp:=G,tc:=tc }
theorem zzn (C:Cfg)(hC:C.calm=true)(call:CallF)(hS:SwrC call)(H:List AB)(q N a m b:Nat)(P A B S:List Nat)(cv:AV)(hq:HB H q (.cells (us (P++(A++(B++S))))))(hN0:(P++(A++(B++S))).length=N)(hN:N≤100000)(ha:P.length=a)(hm:P.length+A.length=m)(hb:P.length+A.length+B.length=b)(hA:A≠[])(hB:B≠[]):
    Does (ev C call H.length none af122.body { tm:=tmA af122.ntmps (zipI 0 [.sl q 0 N 1,.int .i64 a,.int .i64 m,.int .i64 b,cv] []),df:=[],hp:=H,tc:=[] })
      (Ends C H.length af122.res fun v hp tc=>v=.tup []∧hp=H.set q (.cells (us (P++(B++(A++S)))))∧(∀ j∈tc,j=q)∧tc≠[]):=by
  have hA1:=List.length_pos_iff.2 hA
  have hB1:=List.length_pos_iff.2 hB
  simp only[List.length_append] at hN0
  have w1:IntKind.i64.wrap ((m:Int) - a)=(A.length:Int):=by rw[show ((A.length:Nat):Int)=(m:Int) - a by omega];exact zaf (by omega) (by omega)
  have w2:IntKind.i64.wrap ((b:Int) - m)=(B.length:Int):=by rw[show ((B.length:Nat):Int)=(b:Int) - m by omega];exact zaf (by omega) (by omega)
  obtain ⟨G0,hG0⟩:∃ G0,P++(B++(A++S))=G0:=⟨_,rfl⟩
  rw[hG0]
  have HX:=hideP (And.intro hq (And.intro hS (And.intro hG0 (And.intro hN0 (And.intro hm (And.intro hA1 (And.intro hB1 hN)))))))
  clear hq hS hG0 hN0 hm hA hB ha hb hA1 hB1
  unfold af122 Zq Zm Zo Zc Zt
  simp only[zipI] at *
  refine gB ?_
  with_reducible refine zcc hC (A.length+B.length) (by have:=HX.out.2.2.2.1;have:=HX.out.2.2.2.2.2.2.2;unfold fuelL;omega) (fun k st=>∃ (P X Y S:List Nat) (G:List AB) (tc:List Nat),k=X.length+Y.length∧0<X.length∧0<Y.length∧G=H.set q (.cells (us (P++(X++(Y++S)))))∧P.length+X.length=m∧P.length+(X.length+(Y.length+S.length))=N∧P++(Y++(X++S))=G0∧(∀ j∈tc,j=q)∧st=rtSt q N m X.length Y.length cv G tc) ?_ ?_
  · obtain ⟨hq,hS,hG0,hN0,hm,hA1,hB1,_⟩:=HX.out
    refine ⟨P,A,B,S,H,[],rfl,hA1,hB1,by rw[hq.same],hm,hN0,hG0,by simp,?_⟩
    unfold rtSt
    exact inwP
  · rintro k st ⟨P',X,Y,S',G,tc,hk,hX,hY,hG,hPm,hL,hg,htc,rfl⟩
    obtain ⟨hq,hS,_,_,_,_,_,hN⟩:=HX.out
    have hHG:HB G q (.cells (us (P'++(X++(Y++S'))))):=by rw[hG];exact hq.here _
    have hGl:G.length=H.length:=by rw[hG,List.length_set]
    have x1:IntKind.i64.wrap ((m:Int) - X.length)=(P'.length:Int):=by rw[show ((P'.length:Nat):Int)=(m:Int) - X.length by omega];exact zaf (by omega) (by omega)
    rcases Nat.lt_trichotomy X.length Y.length with hlt|heq|hgt
    · -- the front part is shorter
      obtain ⟨Y1,Y2,rfl,l1,l2⟩:=Srt2.split_at (l:=Y) (i:=Y.length - X.length) (by omega)
      have hY2:X.length=Y2.length:=by omega
      have hY12:(Y1++Y2).length=Y1.length+Y2.length:=List.length_append
      rw[hY12] at hlt hk hY hL l1 l2
      obtain ⟨tc',hcall,htc',hte'⟩:=hS G q N P'.length (P'.length+X.length+Y1.length) X.length (P'++(X++(Y1++Y2++S'))) cv hHG (by simp only[List.length_append];omega) hN (by omega) (by omega)
      have e:=Srt2.swR_app P' X Y1 Y2 S' hY2
      rw[List.append_assoc Y1 Y2 S',e] at hcall
      have hfin:∃ k',k'<k∧∃ (P X' Y' S:List Nat) (G1:List AB) (tc1:List Nat),k'=X'.length+Y'.length∧0<X'.length∧0<Y'.length∧G1=H.set q (.cells (us (P++(X'++(Y'++S)))))∧P.length+X'.length=m∧P.length+(X'.length+(Y'.length+S.length))=N∧P++(Y'++(X'++S))=G0∧(∀ j∈tc1,j=q)∧X'.length=X.length∧Y'.length=Y1.length∧G1=G.set q (.cells (us (P'++(Y2++(Y1++(X++S'))))))∧tc1=tc'.filter (fun x=>decide (x<H.length))++tc:=by
        refine ⟨X.length+Y1.length,by omega,P',Y2,Y1,X++S',_,_,by omega,by omega,by omega,by rw[hG,List.set_set],by omega,by simp only[List.length_append];omega,by rw[← hg];simp only[List.append_assoc],fun j hj=>?_,hY2.symm,rfl,rfl,rfl⟩
        rw[List.mem_append] at hj
        rcases hj with hj|hj
        · exact htc' j (List.mem_filter.1 hj).1
        · exact htc j hj
      have HF:=hideP hfin
      rw[hY12]
      have z1:IntKind.i64.wrap ((m:Int)+((Y1.length+Y2.length:Nat):Int))=((m+(Y1.length+Y2.length):Nat):Int):=by rw[show ((m+(Y1.length+Y2.length):Nat):Int)=(m:Int)+((Y1.length+Y2.length:Nat):Int) from rfl];exact zaf (by omega) (by omega)
      have z2:IntKind.i64.wrap (((m+(Y1.length+Y2.length):Nat):Int) - X.length)=((P'.length+X.length+Y1.length:Nat):Int):=by rw[show ((P'.length+X.length+Y1.length:Nat):Int)=((m+(Y1.length+Y2.length):Nat):Int) - X.length by omega];exact zaf (by omega) (by omega)
      have z3:IntKind.i64.wrap (((Y1.length+Y2.length:Nat):Int) - X.length)=(Y1.length:Int):=by rw[show (Y1.length:Int)=((Y1.length+Y2.length:Nat):Int) - X.length by omega];exact zaf (by omega) (by omega)
      have z4:((X.length:Int)==((Y1.length+Y2.length:Nat):Int))=false:=beq_false_of_ne (by omega)
      have z5:¬ (((Y1.length+Y2.length:Nat):Int)<(X.length:Int)):=by omega
      have z8:((X.length:Int) != ((Y1.length+Y2.length:Nat):Int))=true:=bne_iff_ne.2 (by omega)
      have z7:¬ (Y1.length+Y2.length<X.length):=by omega
      generalize Y1.length+Y2.length=ny at *
      generalize m+ny=mny at *
      generalize P'.length+X.length+Y1.length=pb at *
      clear hS hq htc htc' hte' hHG hg e hL hG hGl hfin hk hlt hPm hX hY l1 l2 hY2 hY12
      unfold rtSt
      refine gB ?_
      obtain ⟨k',h1,P1,X',Y',S1,G1,tc1,h2,h3,h4,h5,h6,h7,h8,h9,h10,h11,h12,h13⟩:=HF.out
      refine ⟨k',h1,P1,X',Y',S1,G1,tc1,h2,h3,h4,h5,h6,h7,h8,h9,?_⟩
      rw[h10,h11,h12,h13]
      exact inwP
    · obtain ⟨tc',hcall,htc',hte'⟩:=hS G q N P'.length m X.length (P'++(X++(Y++S'))) cv hHG (by simp only[List.length_append];exact hL) hN (by omega) (by omega)
      have e:=Srt2.swR_app P' X [] Y S' heq
      simp only[List.length_nil,Nat.add_zero,List.nil_append] at e
      rw[hPm] at e
      rw[e,hg] at hcall
      rw[← heq]
      have hfin:G.set q (.cells (us G0))=H.set q (.cells (us G0)):=by rw[hG,List.set_set]
      have hft:∀ j∈tc'.filter (fun x=>decide (x<H.length))++tc,j=q:=fun j hj=>by
        rw[List.mem_append] at hj
        rcases hj with hj|hj
        · exact htc' j (List.mem_filter.1 hj).1
        · exact htc j hj
      have hnn:tc'.filter (fun x=>decide (x<H.length))++tc≠[]:=by
        cases tc' with
        |nil=>have:=hte' rfl;omega
        |cons x t=>
          have hx:=htc' x (by simp)
          subst hx
          have:=hq.lt
          simp[this]
      have HF:=hideP (And.intro hft (And.intro hfin hnn))
      have hgl:H.length≤G.length:=by omega
      generalize X.length=nx at *
      clear hS hq htc htc' hft hHG hg e hL hG hGl hfin hk heq hPm HX hY
      unfold rtSt
      refine gB ?_
      exact zac (v:=.tup []) (.inr rfl) rfl (by simp only[List.length_set];exact hgl) (by simp only[resL];simp[*,resV]) ⟨rfl,HF.out.2.1,HF.out.1,HF.out.2.2⟩
    · -- the front part is longer
      obtain ⟨X1,X2,rfl,l1,l2⟩:=Srt2.split_at (l:=X) (i:=Y.length) (by omega)
      have hX12:(X1++X2).length=X1.length+X2.length:=List.length_append
      rw[hX12] at hgt hk hX hL l2 hPm x1
      obtain ⟨tc',hcall,htc',hte'⟩:=hS G q N P'.length m Y.length (P'++(X1++X2++(Y++S'))) cv hHG (by simp only[List.length_append];omega) hN (by omega) (by omega)
      have e:=Srt2.swR_app P' X1 X2 Y S' l1
      rw[l1,show P'.length+Y.length+X2.length=m by omega] at e
      rw[List.append_assoc X1 X2,e] at hcall
      have hfin:∃ k',k'<k∧∃ (P X' Y' S:List Nat) (G1:List AB) (tc1:List Nat),k'=X'.length+Y'.length∧0<X'.length∧0<Y'.length∧G1=H.set q (.cells (us (P++(X'++(Y'++S)))))∧P.length+X'.length=m∧P.length+(X'.length+(Y'.length+S.length))=N∧P++(Y'++(X'++S))=G0∧(∀ j∈tc1,j=q)∧X'.length=X2.length∧Y'.length=Y.length∧G1=G.set q (.cells (us (P'++(Y++(X2++(X1++S'))))))∧tc1=tc'.filter (fun x=>decide (x<H.length))++tc:=by
        refine ⟨X2.length+X1.length,by omega,P'++Y,X2,X1,S',G.set q (.cells (us (P'++(Y++(X2++(X1++S')))))),_,by omega,by omega,by omega,by rw[hG,List.set_set,List.append_assoc],by rw[List.length_append];omega,by simp only[List.length_append];omega,by rw[← hg];simp only[List.append_assoc],fun j hj=>?_,rfl,l1,rfl,rfl⟩
        rw[List.mem_append] at hj
        rcases hj with hj|hj
        · exact htc' j (List.mem_filter.1 hj).1
        · exact htc j hj
      have HF:=hideP hfin
      rw[hX12]
      have z3:IntKind.i64.wrap (((X1.length+X2.length:Nat):Int) - Y.length)=(X2.length:Int):=by rw[show (X2.length:Int)=((X1.length+X2.length:Nat):Int) - Y.length by omega];exact zaf (by omega) (by omega)
      have z8:(((X1.length+X2.length:Nat):Int) != (Y.length:Int))=true:=bne_iff_ne.2 (by omega)
      have z7:Y.length<X1.length+X2.length:=by omega
      generalize X1.length+X2.length=nx at *
      clear hS hq htc htc' hte' hHG hg e hL hG hGl hfin hk hgt hPm hX hY l1 l2 hX12
      unfold rtSt
      refine gB ?_
      obtain ⟨k',h1,P1,X',Y',S1,G1,tc1,h2,h3,h4,h5,h6,h7,h8,h9,h10,h11,h12,h13⟩:=HF.out
      refine ⟨k',h1,P1,X',Y',S1,G1,tc1,h2,h3,h4,h5,h6,h7,h8,h9,?_⟩
      rw[h10,h11,h12,h13]
      exact inwP
theorem zhy {H hp G:List AB}{q:Nat}{x:AB}{tc:List Nat}(h2:hp=H.set q x)(htc:∀ j∈tc,j=q)(ht:tc≠[])(c3:Lft H hp tc G)(c4:∀ j,H.length≤j→G[j]?=hp[j]?):G=H.set q x:=by
  have hqt:q∈tc:=by
    cases tc with
    |nil=>exact absurd rfl ht
    |cons y t=>rw[← htc y (by simp)];simp
  rw[← h2]
  apply List.ext_getElem?
  intro j
  by_cases hj:j<H.length
  · by_cases hjt:j∈tc
    · exact c3.got j hj hjt
    · rw[c3.old j hj hjt,h2,List.getElem?_set_ne (show q≠j from fun e=>hjt (by rw[← e];exact hqt))]
  · exact c4 j (by omega)
theorem zxi {C:Cfg}{n0:Nat}(hC:C.calm=true)(h0:Has C 122 af122)(hS:SwrC (Ev.call C n0)):RotC (Ev.call C (n0+1)):=by
  intro H q N a m b P A B S cv hq hN0 hN ha hm hb hA hB
  obtain ⟨v,hp,tc,G,c1,⟨rfl,h2,htc,hte⟩,c3,c4,c5⟩:=zbm (first:=[]) (captured:=[]) (args:=[.sl q 0 N 1,.int .i64 a,.int .i64 m,.int .i64 b,cv]) (H:=H) hC h0.ext h0.exth h0.fns h0.whole (le' rfl) (zzn C hC _ hS H q N a m b P A B S cv hq hN0 hN ha hm hb hA hB)
  exact ⟨tc,by rw[c1,zhy h2 htc hte c3 (c4 (.inr hte)).2],htc,hte⟩
end K
end Ev
namespace Srt2
open Clm (ltS sizeN)
def Inc (l:List Nat):Prop:=l.Pairwise (·<·)
theorem swap_at (Q T:List Nat)(y x:Nat):((Q++y::x::T).set (Q.length+1) y).set Q.length x=Q++x::y::T:=by
  rw[List.set_append_right _ _ (by omega),show Q.length+1 - Q.length=1 by omega,List.set_append_right _ _ (by omega),Nat.sub_self]
  rfl
theorem getD_at (Q T:List Nat)(x:Nat):(Q++x::T).getD Q.length 0=x:=by simp[List.getD_eq_getElem?_getD]
theorem getD_at1 (Q T:List Nat)(y x:Nat):(Q++y::x::T).getD (Q.length+1) 0=x:=by
  rw[List.getD_eq_getElem?_getD,List.getElem?_append_right (by omega),show Q.length+1 - Q.length=1 by omega];rfl
theorem put_sorted {L1 L2:List Nat}{x:Nat}(hs:Sorted (L1++L2))(h1:∀ y∈L1,LTs y x)(h2:∀ y∈L2,LTs x y):Sorted (L1++x::L2):=by
  unfold Sorted at *
  rw[List.pairwise_append] at hs ⊢
  refine ⟨hs.1,List.pairwise_cons.2 ⟨h2,hs.2.1⟩,fun a ha b hb=>?_⟩
  rcases List.mem_cons.1 hb with rfl|hb
  · exact h1 a ha
  · exact hs.2.2 a ha b hb
theorem last_all {L1 L2:List Nat}{x y:Nat}(hs:Sorted (L1++[y]++L2))(h:LTs y x):∀ z∈L1++[y],LTs z x:=by
  intro z hz
  rcases List.mem_append.1 hz with hz|hz
  · unfold Sorted at hs
    rw[List.pairwise_append,List.pairwise_append] at hs
    exact (hs.1.2.2 z hz y (by simp)).trans h
  · simp only[List.mem_singleton] at hz
    subst hz;exact h
end Srt2
namespace Ev
namespace K
attribute [local simp] ev1 wantG spineK spine float xnew xval xeff zab zae zau zah zai addFl cellsOf pickC alive slLen slFt binI maxA maxK minA minK aeqK aeqS AV.cells spA zad fillA setAt bitsI nat_nn zav AV.plain apart
set_option maxRecDepth 100000
set_option maxHeartbeats 4000000
def CmpC (call:CallF)(cf:Nat):Prop:=∀ (H:List AB) (a b:Nat),a<1024→b<1024→call (.fn (.func cf) [] []) [.int .u64 a,.int .u64 b] H=some (.ret (.int .i64 ((Clm.sizeN a:Int) - Clm.sizeN b)),H,[])
def InB (H:List AB)(q:Nat)(l0 l:List Nat)(G:List AB)(tc:List Nat):Prop:=G=H.set q (.cells (us l))∧(∀ j∈tc,j=q)∧(tc=[]→l=l0)
theorem InB.length {H G:List AB}{q:Nat}{l0 l:List Nat}{tc:List Nat}(h:InB H q l0 l G tc):G.length=H.length:=by rw[h.1,List.length_set]
theorem InB.hb {H G:List AB}{q:Nat}{l0 l l1:List Nat}{tc:List Nat}(h:InB H q l0 l G tc)(hq:HB H q (.cells (us l1))):HB G q (.cells (us l)):=by rw[h.1];exact hq.here _
theorem zgg {H hp G:List AB}{q:Nat}{l0 l:List Nat}{tc:List Nat}(hq:HB H q (.cells (us l0)))(h:InB H q l0 l hp tc)(c3:Lft H hp tc G)(c4:tc≠[]→∀ j,H.length≤j→G[j]?=hp[j]?)(c5:tc=[]→G=H):G=H.set q (.cells (us l)):=by
  by_cases ht:tc=[]
  · rw[c5 ht,h.2.2 ht,hq.same]
  · exact zhy h.1 h.2.1 ht c3 (c4 ht)
def ins2 (q N a b cf:Nat)(i j:Nat)(G:List AB)(tc:List Nat):St:={ tm:=tmA 53 [(9,.int .i64 j),(8,.int .i64 i),(3,.fn (.func cf) [] []),(2,.int .i64 b),(1,.int .i64 a),(0,.sl q 0 N 1)],df:=[],hp:=G,tc:=tc }
def ins1 (q N a b cf:Nat)(i:Nat)(G:List AB)(tc:List Nat):St:={ tm:=tmA 53 [(8,.int .i64 i),(3,.fn (.func cf) [] []),(2,.int .i64 b),(1,.int .i64 a),(0,.sl q 0 N 1)],df:=[],hp:=G,tc:=tc }
theorem zuu (C:Cfg)(hC:C.calm=true)(call:CallF)(cf:Nat)(hK:CmpC call cf)(H:List AB)(q N a b i:Nat)(l0 P L R:List Nat)(x:Nat)(hN0:(P++(L++x::R)).length=N)(hN:N≤100000)(ha:P.length=a)(hi:P.length+L.length=i)(hib:i<b)(hb:b≤N)(hx:x<1024)(hL:∀ y∈L,y<x)(hs:Srt2.Sorted L)(G:List AB)(tc:List Nat)(hq:HB H q (.cells (us l0)))(hG:InB H q l0 (P++(L++x::R)) G tc):
    Does (ev C call H.length none (atP [1,0,0] af119.body) (ins1 q N a b cf i G tc))
      (fun e st=>e=.normal∧∃ L' G' tc',InB H q l0 (P++(L'++R)) G' tc'∧Srt2.Sorted L'∧L'.Perm (L++[x])∧{ st with tm:=keepT [0,1,2,3,8] st.tm }=ins1 q N a b cf (i+1) G' tc'):=by
  have hib':(i:Int)<b:=by omega
  have hwi:IntKind.i64.wrap (↑i+1)=↑i+1:=zaf (by omega) (by omega)
  have HX:=hideP (And.intro hG (And.intro hq (And.intro hs (And.intro hL (And.intro hN0 (And.intro ha (And.intro hi (And.intro hib hb))))))))
  clear hG hq hs hL hN0 ha hi hib hb
  unfold af119 Zq Zm Zo Zd Ze Zt Zn ins1
  simp only[atP]
  refine gB ?_
  with_reducible refine zcc hC L.length (by have:=HX.out.2.2.2.2.1;simp at this;unfold fuelL;omega) (fun k st=>∃ L1 L2 G' tc',k=L1.length∧L1++L2=L∧(∀ y∈L2,Srt2.LTs x y)∧InB H q l0 (P++((L1++x::L2)++R)) G' tc'∧st=ins2 q N a b cf i (P.length+L1.length) G' tc') ?_ ?_
  · obtain ⟨hG,hq,hs,hL,hN0,ha,hi,hib,hb⟩:=HX.out
    refine ⟨L,[],G,tc,rfl,by simp,by simp,by simpa using hG,?_⟩
    rw[hi]
    unfold ins2
    exact inwP
  · rintro k st ⟨L1,L2,G',tc',hk,hLL,h2,hG',rfl⟩
    obtain ⟨hG,hq,hs,hL,hN0,ha,hi,hib,hb⟩:=HX.out
    have hGl:=hG'.length
    have hlen:H.length≤G'.length:=by omega
    have hHG:=hG'.hb hq
    have hql:=hq.lt
    rcases List.eq_nil_or_concat L1 with rfl|⟨L1',y,rfl⟩
    · have hfin:∃ L' G1 tc1,InB H q l0 (P++(L'++R)) G1 tc1∧Srt2.Sorted L'∧L'.Perm (L++[x])∧G1=G'∧tc1=tc':=by
        simp only[List.nil_append] at hLL
        subst hLL
        exact ⟨x::L2,G',tc',hG',List.pairwise_cons.2 ⟨h2,hs⟩,(List.perm_append_singleton x L2).symm,rfl,rfl⟩
      have HF:=hideP hfin
      have ha':P.length+([]:List Nat).length=a:=by simpa using ha
      rw[ha']
      have haa:¬ (a<a):=by omega
      clear hfin hG hq hs hL hN0 ha hi hib hb hG' hGl hHG hK hLL h2 ha' hk
      unfold ins2
      refine gB ?_
      obtain ⟨L',G1,tc1,f1,f2,f3,rfl,rfl⟩:=HF.out
      refine ⟨by first|rfl|trivial,L',G1,tc1,f1,f2,f3,?_⟩
      exact inwP
    · rw[List.concat_eq_append] at *
      have hmy:y∈L:=by rw[← hLL];simp
      have hyx:=hL y hmy
      obtain ⟨p,hp⟩:∃ p,(P++L1').length=p:=⟨_,rfl⟩
      obtain ⟨j,hj⟩:∃ j,p+1=j:=⟨_,rfl⟩
      have hpj:P.length+(L1'++[y]).length=j:=by simp only[List.length_append,List.length_cons,List.length_nil] at hp ⊢;omega
      rw[hpj]
      have harr:P++((L1'++[y]++x::L2)++R)=(P++L1')++y::x::(L2++R):=by simp
      rw[harr] at hG' hHG
      have hal:((P++L1')++y::x::(L2++R)).length=N:=by
        rw[← harr,← hN0,← hLL];simp only[List.length_append,List.length_cons,List.length_nil];omega
      have r1:=us_get (l:=(P++L1')++y::x::(L2++R)) (i:=p) (by simp only[List.length_append,List.length_cons] at hal hp ⊢;omega)
      have r2:=us_get (l:=(P++L1')++y::x::(L2++R)) (i:=p+1) (by simp only[List.length_append,List.length_cons] at hal hp ⊢;omega)
      have s1:=us_set (l:=(P++L1')++y::x::(L2++R)) (i:=p+1) (by simp only[List.length_append,List.length_cons] at hal hp ⊢;omega) y
      have s2:=us_set (l:=((P++L1')++y::x::(L2++R)).set j y) (i:=p) (by rw[List.length_set];simp only[List.length_append,List.length_cons] at hal hp ⊢;omega) x
      have hl1:(us ((P++L1')++y::x::(L2++R))).length=N:=by rw[us_len,hal]
      have hl2:(us (((P++L1')++y::x::(L2++R)).set (p+1) y)).length=N:=by rw[us_len,List.length_set,hal]
      have hsw:=Srt2.swap_at (P++L1') (L2++R) y x
      have g1:=Srt2.getD_at (P++L1') (x::(L2++R)) y
      have g2:=Srt2.getD_at1 (P++L1') (L2++R) y x
      rw[hp] at hsw g1 g2
      rw[g1] at r1
      rw[g2] at r2
      rw[hj] at hsw
      rw[hsw] at s2
      have hjN:p+1<N:=by simp only[List.length_append,List.length_cons] at hal hp;omega
      have hc:=fun H=>hK H x y hx (by omega)
      have haj:(a:Int)<(j:Int):=by simp only[List.length_append] at hp;omega
      have haj':a<j:=by omega
      rw[hj] at r2 s1 hl2
      have r1':=ge_of r1
      have r2':=ge_of r2
      have f1:(p:Int)<N:=by omega
      have f2:(j:Int)<N:=by omega
      have f3:p+1≤N:=by omega
      have f4:j+1≤N:=by omega
      have w1:IntKind.i64.wrap ((j:Int) - 1)=(p:Int):=by rw[show (p:Int)=(j:Int) - 1 by omega];exact zaf (by omega) (by omega)
      obtain ⟨A1,A2,A3⟩:=hHG
      by_cases hlt:Clm.sizeN x<Clm.sizeN y
      · have hfin:∃ k',k'<k∧∃ M1 M2 G1 tc1,k'=M1.length∧M1++M2=L∧(∀ y∈M2,Srt2.LTs x y)∧InB H q l0 (P++((M1++x::M2)++R)) G1 tc1∧P.length+M1.length=p∧G1=G'.set q (.cells (us ((P++L1')++x::y::(L2++R))))∧tc1=q::q::tc':=by
          refine ⟨L1'.length,by rw[hk];simp,L1',y::L2,G'.set q (.cells (us ((P++L1')++x::y::(L2++R)))),q::q::tc',rfl,by rw[← hLL];simp,fun z hz=>?_,⟨by rw[hG'.1,List.set_set];simp,fun j hj=>?_,fun h=>by cases h⟩,by simpa using hp,rfl,rfl⟩
          · rcases List.mem_cons.1 hz with rfl|hz
            · exact (Srt2.lts_right hyx).2 hlt
            · exact h2 z hz
          · rcases List.mem_cons.1 hj with rfl|hj
            · rfl
            · rcases List.mem_cons.1 hj with rfl|hj
              · rfl
              · exact hG'.2.1 j hj
        have HF:=hideP hfin
        have hd:(Clm.sizeN x:Int) - Clm.sizeN y<0:=by omega
        generalize (Clm.sizeN x:Int) - Clm.sizeN y=d at *
        generalize (P++L1')++y::x::(L2++R)=arr at *
        generalize (P++L1')++x::y::(L2++R)=arr2 at *
        clear hfin hG hq hs hL hN0 ha hi hib hb hG' hGl hK hLL h2 hk hmy hyx hp hj hpj harr hal hsw g1 g2 hjN hlt
        generalize arr.set j y=arr1 at *
        unfold ins2
        refine gB ?_
        obtain ⟨k',e1,M1,M2,G1,tc1,e2,e3,e4,e5,e6,rfl,rfl⟩:=HF.out
        refine ⟨k',e1,M1,M2,_,_,e2,e3,e4,e5,?_⟩
        rw[e6]
        exact inwP
      · have hfin:∃ L' G1 tc1,InB H q l0 (P++(L'++R)) G1 tc1∧Srt2.Sorted L'∧L'.Perm (L++[x])∧G1=G'∧tc1=tc':=by
          have hyl:=(Srt2.lts_left hyx).2 hlt
          subst hLL
          refine ⟨L1'++[y]++x::L2,G',tc',by rw[harr];exact hG',Srt2.put_sorted hs (Srt2.last_all hs hyl) h2,?_,rfl,rfl⟩
          rw[List.append_assoc (L1'++[y]) L2 [x]]
          exact List.Perm.append_left _ (List.perm_append_singleton x L2).symm
        have HF:=hideP hfin
        have hd:¬ ((Clm.sizeN x:Int) - Clm.sizeN y<0):=by omega
        generalize (Clm.sizeN x:Int) - Clm.sizeN y=d at *
        generalize (P++L1')++y::x::(L2++R)=arr at *
        clear hfin hG hq hs hL hN0 ha hi hib hb hG' hGl hK hLL h2 hk hmy hyx hp hj hpj harr hal hsw g1 g2 hjN hlt s1 s2 hl2
        unfold ins2
        refine gB ?_
        obtain ⟨L',G1,tc1,f1,f2,f3,rfl,rfl⟩:=HF.out
        refine ⟨by first|rfl|trivial,L',G1,tc1,f1,f2,f3,?_⟩
        exact inwP
def InsC (call:CallF)(cf:Nat):Prop:=∀ (H:List AB) (q N a b:Nat) (P A S:List Nat),HB H q (.cells (us (P++(A++S))))→(P++(A++S)).length=N→N≤100000→P.length=a→a+A.length=b→Srt2.Inc A→(∀ x∈A,x<1024) →
  ∃ tc L,call (.fn (.func 119) [] []) [.sl q 0 N 1,.int .i64 a,.int .i64 b,.fn (.func cf) [] []] H=some (.ret (.tup []),H.set q (.cells (us (P++(L++S)))),tc)∧(∀ j∈tc,j=q)∧(tc=[]→P++(L++S)=P++(A++S))∧Srt2.Sorted L∧L.Perm A
theorem yae (C:Cfg)(hC:C.calm=true)(call:CallF)(cf:Nat)(hK:CmpC call cf)(H:List AB)(q N a b:Nat)(P A S:List Nat)(hq:HB H q (.cells (us (P++(A++S)))))(hN0:(P++(A++S)).length=N)(hN:N≤100000)(ha:P.length=a)(hb:a+A.length=b)(hA:Srt2.Inc A)(hx:∀ x∈A,x<1024):
    Does (ev C call H.length none af119.body { tm:=tmA af119.ntmps (zipI 0 [.sl q 0 N 1,.int .i64 a,.int .i64 b,.fn (.func cf) [] []] []),df:=[],hp:=H,tc:=[] })
      (Ends C H.length af119.res fun v hp tc=>v=.tup []∧∃ L,InB H q (P++(A++S)) (P++(L++S)) hp tc∧Srt2.Sorted L∧L.Perm A):=by
  have hal:a+A.length≤100000:=by simp only[List.length_append] at hN0;omega
  have w0:IntKind.i64.wrap ((a:Int)+1)=a+1:=zaf (by omega) (by omega)
  have HX:=hideP (And.intro hq (And.intro hN0 (And.intro ha (And.intro hb (And.intro hA (And.intro hx hal))))))
  clear hq hN0 ha hb hA hx hal
  have hr:=fun i l0 P L R x hN0 ha hi hib hb hx hL hs G tc hq hG=>zuu C hC call cf hK H q N a b i l0 P L R x hN0 hN ha hi hib hb hx hL hs G tc hq hG
  unfold af119 Zq Zm Zo Zd Ze Zt Zn at hr
  simp only[atP] at hr
  have HR:=hideP hr
  clear hr
  unfold af119 Zq Zm Zo Zd Ze Zt Zn
  simp only[zipI] at *
  refine gB ?_
  with_reducible refine zan hC (A.length - 1) (by have:=HX.out.2.2.2.2.2.2;unfold fuelL;omega) (fun r st=>∃ L G tc,Srt2.Sorted L∧L.Perm (A.take (r+1))∧InB H q (P++(A++S)) (P++(L++(A.drop (r+1)++S))) G tc∧st=ins1 q N a b cf (a+1+r) G tc) ?_ ?_ ?_
  · obtain ⟨hq,hN0,ha,hb,hA,hx,hal⟩:=HX.out
    refine ⟨A.take 1,H,[],?_,List.Perm.refl _,⟨?_,by simp,fun _=>?_⟩,?_⟩
    · cases A with
      |nil=>exact List.Pairwise.nil
      |cons x A=>exact List.pairwise_singleton _ _
    · rw[← List.append_assoc (A.take 1),List.take_append_drop];exact hq.same.symm
    · rw[← List.append_assoc (A.take 1),List.take_append_drop]
    · unfold ins1
      exact inwP
  · rintro r st hr ⟨L,G,tc,hs,hp,hG,rfl⟩
    obtain ⟨hq,hN0,ha,hb,hA,hx,hal⟩:=HX.out
    have hi:r+1<A.length:=by omega
    have hd:A.drop (r+1)=A[r+1]::A.drop (r+2):=List.drop_eq_getElem_cons hi
    have hmem:A[r+1]∈A:=List.getElem_mem hi
    have hLl:L.length=r+1:=by rw[hp.length_eq,List.length_take];omega
    rw[hd,List.cons_append] at hG
    have h1 := HR.out (a + 1 + r) (P ++ (A ++ S)) P L (A.drop (r + 2) ++ S) A[r + 1] (by
      rw[← hN0]
      simp only[List.length_append,List.length_cons,List.length_drop,hLl];omega) ha (by omega) (by omega) (by simp only[List.length_append] at hN0;omega) (hx _ hmem) (fun y hy=>by
        have:=hp.mem_iff.1 hy
        obtain ⟨n,hn,rfl⟩:=List.getElem_of_mem this
        rw[List.getElem_take]
        rw[List.length_take] at hn
        exact (List.pairwise_iff_getElem.1 hA) n (r+1) (by omega) hi (by omega)) hs G tc hq hG
    refine Does.mono h1 ?_
    rintro e st ⟨rfl,L',G',tc',f1,f2,f3,f4⟩
    refine ⟨L',G',tc',f2,f3.trans ?_,f1,f4⟩
    rw[List.take_succ_eq_append_getElem hi]
    exact hp.append_right _
  · rintro st ⟨L,G,tc,hs,hp,hG,rfl⟩
    obtain ⟨hq,hN0,ha,hb,hA,hx,hal⟩:=HX.out
    rw[List.take_of_length_le (by omega)] at hp
    rw[List.drop_of_length_le (by omega),List.nil_append] at hG
    have hGl:=hG.length
    have HF:=hideP (And.intro hG (And.intro hs (And.intro hp hGl)))
    have hnl:¬ (a+1+(A.length - 1)<b):=by omega
    have hnl':¬ (((a+1+(A.length - 1):Nat):Int)<b):=by omega
    generalize a+1+(A.length - 1)=k at *
    clear hG hs hp hGl hq hN0 ha hb hA hx hal
    unfold ins1
    refine gB ?_
    obtain ⟨hG,hs,hp,hGl⟩:=HF.out
    exact zac (v:=.tup []) (.inr rfl) rfl (by simp only;omega) (by simp only[resL];simp[*,resV]) ⟨rfl,L,hG,hs,hp⟩
theorem zyg {C:Cfg}{n0 cf:Nat}(hC:C.calm=true)(h0:Has C 119 af119)(hK:CmpC (Ev.call C n0) cf):InsC (Ev.call C (n0+1)) cf:=by
  intro H q N a b P A S hq hN0 hN ha hb hA hx
  obtain ⟨v,hp,tc,G,c1,⟨rfl,L,h2,h3,h4⟩,c3,c4,c5⟩:=zbm (first:=[]) (captured:=[]) (args:=[.sl q 0 N 1,.int .i64 a,.int .i64 b,.fn (.func cf) [] []]) (H:=H) hC h0.ext h0.exth h0.fns h0.whole (le' rfl) (yae C hC _ cf hK H q N a b P A S hq hN0 hN ha hb hA hx)
  refine ⟨tc,L,?_,h2.2.1,h2.2.2,h3,h4⟩
  rw[c1,zgg hq h2 c3 (fun ht=>(c4 (.inr ht)).2) (fun ht=>c5 rfl ht)]
theorem InB.step {H G:List AB}{q:Nat}{l0 l l':List Nat}{tc tc':List Nat}(h:InB H q l0 l G tc)(hq:q<H.length)(h1:∀ j∈tc',j=q)(h2:tc'=[]→l'=l):InB H q l0 l' (G.set q (.cells (us l'))) (tc'.filter (fun x=>decide (x<H.length))++tc):=by
  refine ⟨by rw[h.1,List.set_set],fun j hj=>?_,fun he=>?_⟩
  · rcases List.mem_append.1 hj with hj|hj
    · exact h1 j (List.mem_filter.1 hj).1
    · exact h.2.1 j hj
  · obtain ⟨e1,e2⟩:=List.append_eq_nil_iff.1 he
    have:tc'=[]:=by
      cases tc' with
      |nil=>rfl
      |cons x t=>
        have hx:=h1 x (by simp)
        rw[List.filter_cons_of_pos (by rw[hx];exact decide_eq_true hq)] at e1
        cases e1
    rw[h2 this,h.2.2 e2]
def StaP (H:List AB)(q:Nat)(A0:List Nat)(v:AV)(hp:List AB)(tc:List Nat):Prop:=v=.tup []∧∃ L,InB H q A0 L hp tc∧Srt2.Sorted L∧L.Perm A0
def StaC (M:Nat)(call:CallF)(f:Nat)(more:List AV→List AV)(cf:Nat):Prop:=∀ (H:List AB) (q N:Nat) (A0:List Nat),HB H q (.cells (us A0))→A0.length=N→N≤M→Srt2.Inc A0→(∀ x∈A0,x<1024) →
  ∃ tc L,call (.fn (.func f) [] []) (more [.sl q 0 N 1,.int .i64 N,.fn (.func cf) [] []]) H=some (.ret (.tup []),H.set q (.cells (us L)),tc)∧(∀ j∈tc,j=q)∧(tc=[]→L=A0)∧Srt2.Sorted L∧L.Perm A0
theorem zxc (M:Nat)(C:Cfg)(call:CallF)(cf:Nat)(hS:StaC M call 108 id cf)(H:List AB)(q N:Nat)(A0:List Nat)(hq:HB H q (.cells (us A0)))(hN0:A0.length=N)(hN:N≤M)(hI:Srt2.Inc A0)(h10:∀ x∈A0,x<1024):
    Does (ev C call H.length none af75.body { tm:=tmA af75.ntmps (zipI 0 [.sl q 0 N 1,.fn (.func cf) [] []] []),df:=[],hp:=H,tc:=[] })
      (Ends C H.length af75.res (StaP H q A0)):=by
  obtain ⟨tc,L,c1,c2,c3,c4,c5⟩:=hS H q N A0 hq hN0 hN hI h10
  simp only[id] at c1
  have h0:InB H q A0 A0 H []:=⟨hq.same.symm,by simp,fun _=>rfl⟩
  have hfin:StaP H q A0 (.tup []) (H.set q (.cells (us L))) (tc.filter (fun x=>decide (x<H.length))):=⟨rfl,L,by have:=h0.step (l':=L) hq.lt c2 c3;rw[List.append_nil] at this;exact this,c4,c5⟩
  have HF:=hideP hfin
  obtain ⟨A1,A2,A3⟩:=hq
  clear hfin h0 hS c2 c3 c4 c5 hI h10 hN0
  unfold af75 Zm Zo Zc Zt
  simp only[zipI]
  refine gB ?_
  exact zac (v:=.tup []) (.inr rfl) rfl (by simp) (by simp only[resL];simp[*,resV]) HF.out
def SortC (M:Nat)(call:CallF)(cf:Nat):Prop:=∀ (H:List AB) (q N:Nat) (A0:List Nat),HB H q (.cells (us A0))→A0.length=N→N≤M→Srt2.Inc A0→(∀ x∈A0,x<1024) →
  ∃ tc L,call (.fn (.func 75) [] []) [.sl q 0 N 1,.fn (.func cf) [] []] H=some (.ret (.tup []),H.set q (.cells (us L)),tc)∧(∀ j∈tc,j=q)∧(tc=[]→L=A0)∧Srt2.Sorted L∧L.Perm A0
theorem zsr {M:Nat}{C:Cfg}{n0 cf:Nat}(hC:C.calm=true)(h0:Has C 75 af75)(hS:StaC M (Ev.call C n0) 108 id cf):SortC M (Ev.call C (n0+1)) cf:=by
  intro H q N A0 hq hN0 hN hI h10
  obtain ⟨v,hp,tc,G,c1,⟨rfl,L,h2,h3,h4⟩,c3,c4,c5⟩:=zbm (first:=[]) (captured:=[]) (args:=[.sl q 0 N 1,.fn (.func cf) [] []]) (H:=H) hC h0.ext h0.exth h0.fns h0.whole (le' rfl) (zxc M C _ cf hS H q N A0 hq hN0 hN hI h10)
  refine ⟨tc,L,?_,h2.2.1,h2.2.2,h3,h4⟩
  rw[c1,zgg hq h2 c3 (fun ht=>(c4 (.inr ht)).2) (fun ht=>c5 rfl ht)]
end K
end Ev
end Go.Proofs.YtlcjlcllbgjplaaGreat
