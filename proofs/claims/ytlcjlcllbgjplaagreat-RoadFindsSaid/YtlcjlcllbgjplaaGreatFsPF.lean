/- The code of the evaluator is that of the program (part 4). Printed by program. -/
import Derived.Test.YtlcjlcllbgjplaaGreatFsPE
import Derived.Test.YtlcjlcllbgjplaaGreatFsPC
import Derived.Test.YtlcjlcllbgjplaaGreatFsPB
import Derived.Test.YtlcjlcllbgjplaaGreatFsEA
import Derived.Test.YtlcjlcllbgjplaaGreatProg
import Derived.KernelRfl
/- Package road, gone through: Clash, its small functions. -/
namespace Go.Proofs.YtlcjlcllbgjplaaGreat
open Go
namespace Ev
namespace K
attribute [local simp] ev1 wantG spineK spine float xnew xval xeff zab zae zau zah zai addFl cellsOf pickC alive slLen slFt binI maxA maxK minA minK aeqK aeqS AV.cells spA zad fillA setAt bitsI nat_nn zav AV.plain apart
set_option maxRecDepth 100000
set_option maxHeartbeats 4000000
theorem zpx (C:Cfg)(call:CallF)(H:List AB)(v:Nat)(hv:v<1024):Does (ev C call H.length none af110.body { tm:=tmA af110.ntmps (zipI 0 [.int .u64 v] []),df:=[],hp:=H,tc:=[] })
    (Ends C H.length af110.res fun w _hp tc=>w=.int .i64 (Clm.sizeN v)∧tc=[]):=by
  unfold af110 Zq Zm Zo Zt Zn
  simp only[zipI]
  refine gB ?_
  refine zac (v:=.int .i64 (Clm.sizeN v)) (.inl rfl) rfl (by simp) ?_ ⟨rfl,rfl⟩
  simp only[resL,resOf,zaa]
  simp[resV,IntKind.wrap,IntKind.bits,IntKind.signed]
  revert hv
  revert v
  decide +kernel
def O64C (call:CallF):Prop:=∀ (H:List AB) (v:Nat),v<1024→call (.fn (.func 110) [] []) [.int .u64 v] H=some (.ret (.int .i64 (Clm.sizeN v)),H,[])
theorem zxu (C:Cfg)(call:CallF)(hO:O64C call)(H:List AB)(v:Nat)(hv:v<1024):Does (ev C call H.length none af77.body { tm:=tmA af77.ntmps (zipI 0 [.int .u64 v] []),df:=[],hp:=H,tc:=[] })
    (Ends C H.length af77.res fun w _hp tc=>w=.int .i64 (Clm.sizeN v)∧tc=[]):=by
  have ho:=fun H=>hO H v hv
  clear hO
  unfold af77 Zq Zm Zo Zc Zt Zn
  simp only[zipI]
  refine gB ?_
  try (with_reducible refine zam rfl ?_)
  refine gB ?_
  exact zac (v:=.int .i64 (Clm.sizeN v)) (.inl rfl) rfl (by simp) endvP ⟨rfl,rfl⟩
def OnC (call:CallF):Prop:=∀ (H:List AB) (v:Nat),v<1024→call (.fn (.func 77) [] []) [.int .u64 v] H=some (.ret (.int .i64 (Clm.sizeN v)),H,[])
theorem zgo {v:Nat}:Clm.sizeN v≤16:=by
  unfold Clm.sizeN
  have:∀ n v,Clm.cntF n v≤n:=by
    intro n
    induction n with
    |zero=>intro v;exact Nat.le_refl 0
    |succ n ih=>
      intro v
      have h1:=ih (v / 2)
      unfold Clm.cntF
      have:v % 2≤1:=by omega
      omega
  exact this 16 v
theorem yan (C:Cfg)(call:CallF)(hO:OnC call)(H:List AB)(a b:Nat)(ha:a<1024)(hb:b<1024):Does (ev C call H.length none af76.body { tm:=tmA af76.ntmps (zipI 0 [.int .u64 a,.int .u64 b] []),df:=[],hp:=H,tc:=[] })
    (Ends C H.length af76.res fun w _hp tc=>w=.int .i64 ((Clm.sizeN a:Int) - Clm.sizeN b)∧tc=[]):=by
  have h1:=fun H=>hO H a ha
  have h2:=fun H=>hO H b hb
  have s1:=zgo (v:=a)
  have s2:=zgo (v:=b)
  have hw:IntKind.i64.wrap ((Clm.sizeN a:Int) - Clm.sizeN b)=(Clm.sizeN a:Int) - Clm.sizeN b:=zaf (by omega) (by omega)
  clear hO
  unfold af76 Zq Zm Zo Zc Zt Zn
  simp only[zipI]
  refine gB ?_
  exact zac (v:=.int .i64 ((Clm.sizeN a:Int) - Clm.sizeN b)) (.inl rfl) rfl (by simp) endvP ⟨rfl,rfl⟩
end K
namespace Ro
open K
attribute [local simp] ev1 wantG spineK spine float xnew xval xeff zab zae zau zah zai addFl cellsOf pickC alive slLen slFt binI maxA maxK minA minK aeqK aeqS AV.cells spA zad fillA setAt bitsI nat_nn zav AV.plain apart
set_option maxRecDepth 100000
set_option maxHeartbeats 4000000
def areTo (r:Rd.Road)(set i:Nat):Bool:=(List.range i).all fun i=>!Rd.bit set i || decide ((r.events.getD i default).kind=2)
theorem zrm (r:Rd.Road)(set i:Nat):areTo r set (i+1)=(areTo r set i&&(!Rd.bit set i || decide ((r.events.getD i default).kind=2))):=by
  unfold areTo;rw[List.range_succ,List.all_append];simp
theorem zyw {r:Rd.Road}{set i n:Nat}(hi:i<n)(h:(!Rd.bit set i || decide ((r.events.getD i default).kind=2))=false):areTo r set n=false:=by
  unfold areTo
  rw[← Bool.not_eq_true,List.all_eq_true]
  intro H
  have:=H i (List.mem_range.2 hi)
  rw[h] at this;cases this
theorem yav (C:Cfg)(hC:C.calm=true)(call:CallF)(r:Rd.Road)(hr:r.events.length≤10)(H:List AB)(xb mb eb:Nat)(hX:Rx r xb mb eb H)(set:Nat):
    Does (ev C call H.length none af74.body { tm:=tmA af74.ntmps (zipI 0 [.ptr xb 0,.int .u64 set] []),df:=[],hp:=H,tc:=[] })
      (Ends C H.length af74.res fun w _hp tc=>w=.bool (Rd.areLooks r set)∧tc=[]):=by
  obtain ⟨f0,f1,f2,f3,f4,f5⟩:=bk' hX.x
  have hxl:=hX.xl
  have gg:∀ n,¬ (H.length+n<H.length):=fun n=>by omega
  clear hX
  unfold af74 Zq Zm Zl Zo Zs Zt Zn Zi
  simp only[zipI,roadCs,List.cons_append,List.nil_append] at *
  refine gB ?_
  with_reducible refine zan hC r.events.length (by unfold fuelL;omega) (fun i st=>areTo r set i=true∧∃ J,st={ tm:=tmA 29 [(13,.int .i64 i),(12,.int .i64 r.events.length),(11,.vs 7 (r.events.map evE)),(1,.int .u64 set)],df:=[],hp:=H++J,tc:=[] }) ?_ ?_ ?_
  · refine ⟨rfl,[],?_⟩
    exact inwP
  · rintro i st hi ⟨hp,J,rfl⟩
    have hgv:r.events[i]?=some r.events[i]:=List.getElem?_eq_getElem hi
    have hgd:r.events.getD i default=r.events[i]:=by rw[List.getD_eq_getElem?_getD,hgv];rfl
    have hsu:=zrm r set i
    have hno:=zyw (r:=r) (set:=set) hi
    rw[hgd] at hsu hno
    generalize r.events[i]=v at hgv hsu hno
    have hgv':=ge_of hgv
    have hb:=zwa (n:=set) (d:=i) (by omega)
    have hwi:IntKind.i64.wrap (↑i+1)=↑i+1:=zaf (by omega) (by omega)
    have e5:(i:Int)<r.events.length:=by omega
    have gl:∀ n,¬ (H.length+(J.length+n)<H.length):=fun n=>by omega
    have gl0:¬ (H.length+J.length<H.length):=by omega
    cases hs:set.testBit i with
    |false=>
      rw[hs] at hb
      have HF:=hideP (show areTo r set (i+1)=true by rw[hsu,hp];unfold Rd.bit;rw[hs];rfl)
      clear hsu hno hp f0 f1 f2 f3 f4 f5 hr
      simp at hb
      refine gI ?_
      refine ⟨HF.out,J++[.cells [.int .i64 v.kind,.int .i64 v.load.lo,.int .i64 v.load.hi,.int .i64 v.days,.int .i64 v.part,.int .i64 v.shows.lo,.int .i64 v.shows.hi]],?_⟩
      exact inwP
    |true=>
      rw[hs] at hb
      by_cases hk:v.kind=2
      · have HF:=hideP (show areTo r set (i+1)=true by rw[hsu,hp,hk];simp)
        clear hsu hno hp f0 f1 f2 f3 f4 f5 hr
        simp at hb
        refine gI ?_
        refine ⟨HF.out,J++[.cells [.int .i64 v.kind,.int .i64 v.load.lo,.int .i64 v.load.hi,.int .i64 v.days,.int .i64 v.part,.int .i64 v.shows.lo,.int .i64 v.shows.hi]],?_⟩
        exact inwP
      · have HF:=hideP (show Rd.areLooks r set=false from hno (by unfold Rd.bit;rw[hs];simp[hk]))
        have hkn:(v.kind != 2)=true:=by simpa using hk
        clear hsu hno hp f0 f1 f2 f3 f4 f5 hr
        simp at hb
        refine gI ?_
        exact zac (v:=.bool false) (.inl rfl) rfl (by simp) endvP ⟨by rw[HF.out],rfl⟩
  · rintro st ⟨hp,J,rfl⟩
    have HF:=hideP (show Rd.areLooks r set=true from hp)
    clear hp f0 f1 f2 f3 f4 f5
    refine gB ?_
    exact zac (v:=.bool true) (.inl rfl) rfl (by simp) endvP ⟨by rw[HF.out],rfl⟩
def AreC (call:CallF)(r:Rd.Road):Prop:=∀ (H:List AB) (xb mb eb:Nat),Rx r xb mb eb H→∀ set:Nat,call (.fn (.func 74) [] []) [.ptr xb 0,.int .u64 set] H=some (.ret (.bool (Rd.areLooks r set)),H,[])
theorem yao (C:Cfg)(call:CallF)(r:Rd.Road)(hS:CanC call r)(H:List AB)(xb mb eb:Nat)(hX:Rx r xb mb eb H)(set:Nat)(b1:Nat)(h1:H[b1]?=some (.cells [.ptr xb 0])):
    Does (ev C call H.length none af80.body { tm:=tmA af80.ntmps (zipI 0 [.int .u64 set,.ptr b1 0] []),df:=[],hp:=H,tc:=[] })
      (Ends C H.length af80.res fun v hp tc=>v=.bool (!Rd.canR r set)∧(∀ j∈tc,j=mb)∧Rx r xb mb eb hp):=by
  obtain ⟨H',tc,c1,c2,c3,c4⟩:=hS H xb mb eb hX set
  obtain ⟨x0,x1,x2,x3,x4,x5⟩:=bk' h1
  have HQ:=hideP (And.intro c2 (And.intro c3.len c4))
  clear hS hX h1 c2 c3 c4
  generalize Rd.canR r set=b at *
  unfold af80 Zq Zm Zl Zo Zc Zt
  simp only[zipI]
  refine gA ?_
  exact zac (.inl rfl) rfl HQ.out.2.1 (by simp only[resL,resOf,zaa];simp[*,resV]) ⟨rfl,fun j hj=>HQ.out.1 j (List.mem_filter.1 (by simpa using hj:j∈tc.filter (·<H.length))).1,HQ.out.2.2⟩
def VlPre (vb q N:Nat)(L:List Nat)(H:List AB)(T:List Nat):Prop:=H[vb]?=some (.cells [.sl q 0 N 1])∧H[q]?=some (.cells (us L))∧vb∉T∧q∉T
theorem zli (C:Cfg)(hC:C.calm=true)(call:CallF)(vb q N:Nat)(L:List Nat)(hL:L.length=N)(hN:N≤2000)(U:List AB→Prop)(H:List AB)(l:Nat)(T:List Nat)(J:List Nat→List Nat→List AB→Prop)(E:List Nat→List AB→Prop)(M:List Nat→Nat→Prop)
    (hp:VlPre vb q N L H T) (hT:∀ j∈T,j<H.length) (hlT:l∈T) (hJ0:J [] [] H) (hJY:∀ d W G,J d W G→U G) (hM:∀ j,¬ M [] j) (hY:Yields call l H.length T (fun n:Nat=>.int .u64 n) L [] U J E M):
    Does (ev C call H.length none af111.body { tm:=tmA af111.ntmps (zipI 0 [.yield l,.ptr vb 0] []),df:=[],hp:=H,tc:=[] })
      (Ends C H.length af111.res (ItPost H l [] T J E M L)):=by
  obtain ⟨h1,h2,p1,p2⟩:=hp
  have ctx:ItCtx call H H l [] T (fun n:Nat=>.int .u64 n) L U J E M:=⟨hT,by simp,hlT,Kp.refl _ _,hY,hM,hJY⟩
  have hI:ItInv H.length H l [] T J M [] H []:=ctx.start hJ0 (hJY _ _ _ hJ0)
  obtain ⟨x0,x1,x2,x3,x4,x5⟩:=bk' h1
  obtain ⟨y0,y1,y2,y3,y4,y5⟩:=bk' h2
  have hfacts:∀ d hp tc,ItInv H.length H l [] T J M d hp tc→Bk hp q (.cells (us L)):=fun d hp tc h=>bk' (h.at h2 (by simp) p2)
  have hul:(us L).length=N:=by rw[us_len,hL]
  have HC:=hideP (And.intro ctx (And.intro hL hI))
  clear ctx hI hY hJ0 hJY hT hlT h1 h2 hM hL
  unfold af111 Zq Zm Zl Zo Zt Zn
  simp only[zipI]
  refine gA ?_
  with_reducible refine zan hC N (by unfold fuelL;omega) (fun i st=>∃ hp tc,ItInv H.length H l [] T J M (L.take i) hp tc∧st={ tm:=tmA 16 [(7,.int .i64 i),(6,.int .i64 N),(5,.sl q 0 N 1),(0,.yield l)],df:=[],hp:=hp,tc:=tc }) ?_ ?_ ?_
  · refine ⟨_,_,by simpa using HC.out.2.2,st_is ?_ rfl rfl rfl⟩
    simp[zag,zal]
  · rintro i st hi ⟨hp,tc,hV,rfl⟩
    obtain ⟨x0,x1,x2,x3,x4,x5⟩:=hfacts _ _ _ hV
    obtain ⟨ctx,hL,hI⟩:=HC.out
    have hget:L[i]?=some L[i]:=List.getElem?_eq_getElem (by omega)
    have r1:=us_get (l:=L) (i:=i) (by omega)
    have hgd:L.getD i 0=L[i]:=by rw[List.getD_eq_getElem?_getD,hget];rfl
    rw[hgd] at r1
    generalize L[i]=v at hget r1
    have r1':=ge_of r1
    have hpre:=znj hget
    obtain ⟨b',hp',tc',s1,s2,s3⟩:=hV.step ctx hpre
    have hwi:IntKind.i64.wrap (↑i+1)=↑i+1:=zaf (by omega) (by omega)
    have e5:(i:Int)<N:=by omega
    have e6:i+1≤N:=by omega
    have htk:L.take (i+1)=L.take i++[v]:=by rw[List.take_add_one,hget];rfl
    have HS:=hideP (And.intro s2 (And.intro s3 htk))
    clear s2 s3 htk ctx hget hL hI hpre hV hgd
    cases b' with
    |true=>
      refine gA ?_
      have hn:=HS.out.1 rfl
      rw[← HS.out.2.2] at hn
      with_reducible refine ⟨_,_,hn,?_⟩
      refine st_is ?_ rfl rfl rfl
      simp[zag,zal]
    |false=>
      refine gA ?_
      exact zac (.inl rfl) rfl (HS.out.2.1 rfl).k.len (by simp only[resL];rfl) (HS.out.2.1 rfl).post
  · rintro st ⟨hp,tc,hV,rfl⟩
    obtain ⟨x0,x1,x2,x3,x4,x5⟩:=hfacts _ _ _ hV
    obtain ⟨ctx,hL,hI⟩:=HC.out
    rw[← hL,List.take_length] at hV
    have HV:=hideP (hV.post ctx)
    have hl:=hV.len
    clear ctx hL hI hV
    refine gA ?_
    exact zac (.inr rfl) rfl (by simp only;omega) (by simp only[resL];rfl) HV.out
def ValI (C:Cfg)(k m:Nat):Prop:=∀ (vb q N:Nat) (L:List Nat) (U:List AB→Prop),L.length=N→N≤2000→IterG C k m 111 [] [.ptr vb 0] (fun n:Nat=>.int .u64 n) L [] U (VlPre vb q N L)
theorem zwp {C:Cfg}(hC:C.calm=true)(m:Nat)(h0:Has C 111 af111):ValI C m (m+1):=by
  intro vb q N L U hL hN
  refine zez hC h0.ext h0.exth h0.fns h0.whole (Nat.le_of_ble_eq_true rfl) ?_
  intro H l T J E M hp h2 h3 h4 h5 h7 h6
  exact zli C hC _ vb q N L hL hN U H l T J E M hp h2 h3 h4 h5 h7 h6
def ValC (call:CallF):Prop:=∀ (H:List AB) (q N:Nat),q<H.length→call (.fn (.func 79) [] []) [.sl q 0 N 1] H=some (.ret (.fn (.func 111) [] [.ptr H.length 0]),H++[.cells [.sl q 0 N 1]],[])
theorem zwq (C:Cfg)(call:CallF)(H:List AB)(q N:Nat):Does (ev C call H.length none af79.body { tm:=tmA af79.ntmps (zipI 0 [.sl q 0 N 1] []),df:=[],hp:=H,tc:=[] })
    (Ends C H.length af79.res fun w hp tc=>w=.fn (.func 111) [] [.ptr H.length 0]∧hp=H++[.cells [.sl q 0 N 1]]∧tc=[]):=by
  unfold af79 Zq Zm Zo Zt
  simp only[zipI]
  refine gA ?_
  exact zac (.inl rfl) rfl (by simp) (by simp only[resL,resOf,zaa];simp[*,resV]) ⟨rfl,rfl,rfl⟩
def SetF (call:CallF)(F:AV)(r:Rd.Road)(xb mb eb:Nat)(H:List AB)(L:List Nat)(p:Nat→Bool):Prop:=∀ G,Kp [mb] H G→Rx r xb mb eb G→∀ n∈L,∃ G' tc,call F [.int .u64 n] G=some (.ret (.bool (p n)),G',tc)∧(∀ j∈tc,j=mb)∧Kp tc G G'∧Rx r xb mb eb G'
def findU (p:Nat→Bool)(L:List Nat):CRes:=match L.find? p with
  |some n=>.ret (.int .u64 n)
  |none=>.pan (stopV 4)
theorem zmf (C:Cfg)(hC:C.calm=true)(hwh:∀ f,C.whole f=true)(n0 m:Nat)(r:Rd.Road)(hM:MustC (Ev.call C m))(hI:ValI C (n0+1) m)(vb q N:Nat)(L:List Nat)(hL:L.length=N)(hN:N≤2000)(H:List AB)(xb mb eb:Nat)(hX:Rx r xb mb eb H)(h1:H[vb]?=some (.cells [.sl q 0 N 1]))(h2:H[q]?=some (.cells (us L)))(n1:vb≠mb)(n2:q≠mb)(fl:Fn)(fa fb:List AV)(p:Nat→Bool)(hF:SetF (Ev.call C n0) (.fn fl fa fb) r xb mb eb H L p):
    Does (ev C (Ev.call C m) H.length none af78.body { tm:=tmA af78.ntmps (zipI 0 [.fn (.func 111) [] [.ptr vb 0],.agg [.fn fl fa fb]] []),df:=[],hp:=H,tc:=[] })
      (Fin C H.length af78 fun x hp tc=>x=findU p L∧(∀ j∈tc,j=mb)∧Rx r xb mb eb hp):=by
  have hx:=hX.xl
  have hm:=hX.ml
  have he:=hX.el
  have hne:=hX.ne
  have hne2:=hX.ne2
  have l1:=get_lt h1
  have l2:=get_lt h2
  unfold af78 Zq Zm Zl Zo Zs Zc Zt Zn
  simp only[zipI]
  refine gA ?_
  refine zbz hC hwh (hI vb q N L (Rx r xb mb eb) hL hN) (by simp[zab]) rfl [mb,H.length+1] (by simp;omega) (by simp)
    (fun d W G=>W=[]∧G[H.length+1]?=some (.cells [.int .u64 0])∧∀ n∈d,p n=false) (fun e d G=>e=.ret∧∃ d0 n,d=d0++[n]∧(∀ x∈d0,p x=false)∧p n=true∧G[H.length+1]?=some (.cells [.int .u64 n]))
    (fun rz=>?_) (fun G G' h k=>h.same fun j hj=>k j (by simp;omega) (by simp;omega)) (fun rz=>⟨rfl,by simp,by simp⟩) (fun rz=>(hX.app _).app _) (fun d W G G' h _ k=>?_) (fun e d G G' h k=>?_) ?_ ?_ ?_
  · refine ⟨?_,?_,?_,?_⟩
    · rw[List.append_assoc,List.getElem?_append_left l1];exact h1
    · rw[List.append_assoc,List.getElem?_append_left l2];exact h2
    · simp;omega
    · simp;omega
  · simp only[List.length_append,List.length_cons,List.length_nil,Nat.zero_add,Nat.add_assoc,Nat.reduceAdd] at k
    exact ⟨h.1,(k _ (get_lt h.2.1) (.inl (by omega)) (by simp) (by omega)).trans h.2.1,h.2.2⟩
  · simp only[List.length_append,List.length_cons,List.length_nil,Nat.zero_add,Nat.add_assoc,Nat.reduceAdd] at k
    obtain ⟨q1,d0,n,q2,q3,q4,q5⟩:=h
    exact ⟨q1,d0,n,q2,q3,q4,(k _ (by omega) (by omega)).trans q5⟩
  · rintro d s W G rz hpr ⟨rfl,hJ,hJp⟩ hY hK hl hWb
    simp only[List.length_append,List.length_cons,List.length_nil,Nat.zero_add,Nat.add_assoc,Nat.reduceAdd] at hl ⊢
    rw[setP1]
    refine gA ?_
    refine ⟨trivial,trivial,?_⟩
    obtain ⟨G2,hG2,k1,k2,k3,k4⟩:=zdg (G:=G) (l:=H.length+3) (.loop rz) (by omega)
    rw[← hG2]
    clear hG2
    have e0:=(k3 H.length (by omega)).trans (hK.at (b:=H.length) (x:=.cells [.fn fl fa fb]) (by simp) (by simp;omega))
    have e1:=(k3 (H.length+1) (by omega)).trans hJ
    have hX2:Rx r xb mb eb G2:=hY.kp k4 (by simp;omega) (by simp;omega) (by simp;omega)
    have hKH : Kp [mb] H G2 := ⟨by omega, fun b hb hn => by
      rw[k3 b (by omega),hK.get b (by simp;omega) (by simp at hn ⊢;omega),List.getElem?_append_left hb]⟩
    obtain ⟨H3,tc3,c1,c2,c3,c4⟩:=hF G2 hKH hX2 s (hpr.subset (by simp))
    have nt:∀ {j},H.length≤j→j∉tc3:=fun hj ht=>by have:=c2 _ ht;omega
    obtain ⟨x0,x1,x2,x3,x4,x5⟩:=bk' e0
    obtain ⟨y0,y1,y2,y3,y4,y5⟩:=bk' (c3.at e1 (nt (by omega)))
    have k23:=c3.at k2 (nt (by omega))
    have HA:=hideP (And.intro c2 (And.intro c4 (And.intro k23 hJp)))
    have h99:¬ H.length+1=H.length+3:=by omega
    clear c2 c4 k23 hJp hF hX hX2 hKH hY hK hpr hJ e0 e1 k1 k2 k3 k4 c3 nt hM hI
    cases hp:p s with
    |true=>
      rw[hp] at c1
      refine gA ?_
      obtain ⟨c2,c4,k23,hJp⟩:=HA.out
      have k:Kp [H.length+1] H3 (H3.set (H.length+1) (.cells [.int .u64 s])):=(Kp.refl _ _).set _ _ (by simp)
      refine ⟨by simp,k.at k23 (by simp),fun j hj=>?_,c4.kp k (by simp;omega) (by simp;omega) (by simp;omega),(fun h=>by cases h),fun _=>⟨rfl,d,s,rfl,hJp,hp,by rw[List.getElem?_set_self y0]⟩,fun _ _ h=>h.elim⟩
      simp at hj ⊢
      rcases hj with h|h|h
      · exact .inr (.inr (by omega))
      · exact .inr (.inl (c2 j h.1))
      · exact .inl h
    |false=>
      rw[hp] at c1
      refine gA ?_
      obtain ⟨c2,c4,k23,hJp⟩:=HA.out
      refine ⟨by simp,k23,fun j hj=>?_,c4,fun _=>⟨[],by simp,rfl,y1,fun n hn=>?_⟩,fun h=>absurd rfl h,fun _ _ h=>h.elim⟩
      · simp at hj ⊢
        rcases hj with h|h
        · exact .inr (.inl (c2 j h.1))
        · exact .inl h
      · rcases List.mem_append.1 hn with h|h
        · exact hJp n h
        · simp at h;rw[h];exact hp
  · rintro H' tc W g1 g2 g3 g4 g5 g6 ⟨rfl,g7,g8⟩
    simp only[List.length_append,List.length_cons,List.length_nil,Nat.zero_add,Nat.add_assoc,Nat.reduceAdd,List.nil_append,List.append_nil] at g1 g4 g5 ⊢
    simp only[OutB,Then]
    have hmf:=hM.f
    have hfx:findU p L=.pan (stopV 4):=by
      unfold findU
      rw[List.find?_eq_none.2 fun x hx=>by rw[g8 x hx];decide]
    rw[hfx]
    have HA:=hideP (And.intro g1 g3)
    have HD:=hideP g4
    clear g1 g2 g3 g4 g6 g7 g8 hI hX hM hF hfx h1 h2
    refine gD ?_
    obtain ⟨g1,g3⟩:=HA.out
    refine zfy rfl HD.out (by omega) (by simp only;omega) ⟨rfl,fun j hj=>?_,g3.kp ((Kp.refl [H.length+2] H').set _ _ (by simp)) (by simp;omega) (by simp;omega) (by simp;omega)⟩
    simp at hj
    have:=g1 j (by first|exact hj.1|(rcases hj with h|h;exact h.1;exact h.1)) (by omega)
    simp at this
    omega
  · rintro e d H' tc g0 g1 g2 g3 g4 g5 g6 ⟨rfl,d0,n,rfl,g7,g8,g9⟩
    simp only[List.length_append,List.length_cons,List.length_nil,Nat.zero_add,Nat.add_assoc,Nat.reduceAdd,List.nil_append,List.append_nil] at g1 g4 g5 ⊢
    simp only[OutB,Then]
    have hfx:findU p L=.ret (.int .u64 n):=by
      unfold findU
      rw[znv g6 g7 g8]
    rw[hfx]
    refine znw (v:=.int .u64 n) (.inl rfl) rfl g4 (by omega) (by simp only;omega) (by simp only[resL,resOf,zaa];simp[resV,pickC,List.getElem?_set_ne,g9]) ⟨rfl,fun j hj=>?_,g3.kp ((Kp.refl [H.length+2] H').set _ _ (by simp)) (by simp;omega) (by simp;omega) (by simp;omega)⟩
    simp at hj
    have:=g1 j (by first|exact hj.1|(rcases hj with h|h;exact h.1;exact h.1)) (by omega)
    simp at this
    omega
end Ro
end Ev
namespace Rd
open Clm (Sp Hull spanL mem_span setOf)
def Lds (es:List Evt)(ls:List Int):Prop:=ls.length=es.length∧∀ (i:Nat) (v:Evt),es[i]?=some v→(v.kind=0→v.load.has (ls.getD i 0))∧(v.kind≠0→ls.getD i 0=0)
theorem zut:∀ (es:List Evt) (ls:List Int),Lds es ls→ls∈allR es
  |[],[],_=>by simp[allR]
  |[],x::ls,h=>by have:=h.1;simp at this
  |e::es,[],h=>by have:=h.1;simp at this
  |e::es,x::ls,h=>by
    have h0:=h.2 0 e rfl
    have ht:=zut es ls ⟨by simpa using h.1,fun i v hv=>h.2 (i+1) v hv⟩
    unfold allR
    by_cases hk:e.kind=0
    · rw[if_pos hk,List.mem_flatMap]
      exact ⟨x,(mem_span _ _).2 (h0.1 hk),List.mem_map.2 ⟨ls,ht,rfl⟩⟩
    · rw[if_neg hk]
      have:x=0:=h0.2 hk
      subst this
      exact List.mem_map.2 ⟨ls,ht,rfl⟩
theorem zzy (es:List Evt)(ls:List Int):ls∈allR es↔Lds es ls:=by
  refine ⟨fun h=>?_,zut es ls⟩
  obtain ⟨h1,h2⟩:=mem_allR es ls h
  refine ⟨h1,fun i v hv=>?_⟩
  obtain ⟨hi,rfl⟩:=List.getElem?_eq_some_iff.1 hv
  exact h2 i hi
def rightE (r:Road)(i:Nat)(p:Tr)(ls:List Int)(h:Int):Prop:=∀ (j:Nat) (v:Evt),r.events[j]?=some v→v.kind=2→v.part=i→v.shows.lo≤heightR r p h ls j∧heightR r p h ls j≤v.shows.hi
theorem every_bit (r:Road){j:Nat}(h:j<r.events.length):bit (everyR r) j=true:=by
  unfold bit everyR
  rw[Nat.testBit_two_pow_sub_one]
  exact decide_eq_true h
def Tru (r:Road)(ls:List Int)(i:Nat)(p:Tr)(h:Int):Prop:=p∈partsR (r.parts.getD i default)∧(r.parts.getD i default).height.has h∧rightE r i p ls h
def All (r:Road)(ls:List Int):Prop:=Lds r.events ls∧∀ i,i<r.parts.length→∃ p h,Tru r ls i p h
end Rd
namespace Rd
def setsTo (r:Road)(i:Nat):List Nat:=(List.range i).filter (areLooks r)
theorem setsTo_succ (r:Road)(i:Nat):setsTo r (i+1)=if areLooks r i then setsTo r i++[i] else setsTo r i:=by
  unfold setsTo
  rw[List.range_succ,List.filter_append]
  cases h:areLooks r i<;>simp[h]
theorem setsTo_len (r:Road)(i:Nat):(setsTo r i).length≤i:=by
  have:=List.length_filter_le (areLooks r) (List.range i)
  simpa [setsTo] using this
theorem setsTo_inc (r:Road)(i:Nat):Srt2.Inc (setsTo r i):=List.Pairwise.filter _ List.pairwise_lt_range
theorem setsTo_mem (r:Road)(i x:Nat):x∈setsTo r i↔x<i∧areLooks r x=true:=by simp[setsTo]
theorem setsTo_pos (r:Road){i:Nat}(h:0<i):setsTo r i≠[]:=by
  intro e
  have : 0 ∈ setsTo r i := (setsTo_mem r i 0).2 ⟨h, by
    unfold areLooks
    rw[List.all_eq_true]
    intro j _
    simp[bit]⟩
  rw[e] at this;cases this
theorem clash_find (r:Road){L:List Nat}(hs:Srt2.Sorted L)(hp:L.Perm (setsTo r (2 ^ r.events.length))):L.find? (fun s=>!canR r s)=clashFR r:=by
  obtain ⟨h1,h2⟩:=Clm.bestR_spec (clashPR r) (2 ^ r.events.length)
  have hm:∀ x,x∈L↔x<2 ^ r.events.length∧areLooks r x=true:=fun x=>(hp.mem_iff).trans (setsTo_mem r _ x)
  have hcp:∀ x,clashPR r x=true↔areLooks r x=true∧canR r x=false:=fun x=>by simp[clashPR]
  unfold clashFR
  cases hf:L.find? (fun s=>!canR r s) with
  |none=>
    rw[List.find?_eq_none] at hf
    cases hb:Clm.bestR (clashPR r) (2 ^ r.events.length) with
    |none=>rfl
    |some S=>
      obtain ⟨a1,a2,_⟩:=h2 S hb
      obtain ⟨b1,b2⟩:=(hcp S).1 a2
      have:=hf S ((hm S).2 ⟨a1,b1⟩)
      simp[b2] at this
  |some S=>
    obtain ⟨c1,c2,c3⟩:=Srt2.sorted_first hs hf
    obtain ⟨d1,d2⟩:=(hm S).1 c1
    have hS:clashPR r S=true:=(hcp S).2 ⟨d2,by simpa using c2⟩
    cases hb:Clm.bestR (clashPR r) (2 ^ r.events.length) with
    |none=>rw[h1 hb S d1] at hS;cases hS
    |some S'=>
      obtain ⟨a1,a2,a3⟩:=h2 S' hb
      obtain ⟨b1,b2⟩:=(hcp S').1 a2
      have e1:=a3 S d1 hS
      have e2:=c3 S' ((hm S').2 ⟨a1,b1⟩) (by simp[b2])
      generalize Clm.sizeN S=b1 at *
      generalize Clm.sizeN S'=b2 at *
      rw[show S'=S by omega]
theorem zfx (r:Road)(number:Nat)(p:Tr)(ls:List Int){s t:Nat}:∀ (l:List (Evt × Nat)) (x:Clm.Sp),(∀ q∈l,q.1.kind=2→bit s q.2=bit t q.2)→firstL r number p ls s l x=firstL r number p ls t l x
  |[],x,_=>rfl
  |(v,i)::l,x,h=>by
    rw[firstL,firstL]
    have e:(if bit s i∧v.kind=2∧v.part=number then narrow (fun h=>heightR r p h ls i) v.shows x else x)=if bit t i∧v.kind=2∧v.part=number then narrow (fun h=>heightR r p h ls i) v.shows x else x:=by
      by_cases hk:v.kind=2
      · rw[h (v,i) (by simp) hk]
      · rw[if_neg (fun h=>hk h.2.1),if_neg (fun h=>hk h.2.1)]
    rw[e]
    exact zfx r number p ls l _ fun q hq=>h q (by simp[hq])
theorem zvx {r:Road}{s t:Nat}(h:∀ i v,r.events[i]?=some v→v.kind=2→bit s i=bit t i):canR r s=canR r t:=by
  have e:∀ number p ls,firstR r number p ls s=firstR r number p ls t:=fun number p ls=>zfx r number p ls _ _ fun q hq hk=>h q.2 q.1 (List.mem_zipIdx_iff_getElem?.1 hq) hk
  unfold canR toldR waysR
  simp only[e]
def looksR (r:Road):Nat:=Clm.setOf (fun i=>decide ((r.events.getD i default).kind=2)) r.events.length
theorem zgt (r:Road)(i:Nat):bit (looksR r) i=(decide (i<r.events.length)&&decide ((r.events.getD i default).kind=2)):=Clm.setOf_bit _ _ _
theorem zji (r:Road)(set:Nat):areLooks r set=true↔∀ i,i<r.events.length→bit set i=true→(r.events.getD i default).kind=2:=by
  unfold areLooks
  simp only[List.all_eq_true,List.mem_range,Bool.or_eq_true,Bool.not_eq_true',decide_eq_true_eq]
  exact ⟨fun h i hi hb => (h i hi).resolve_left (by rw [hb]; decide), fun h i hi => by
    cases hb:bit set i with
    |false=>exact .inl rfl
    |true=>exact .inr (h i hi hb)⟩
theorem zup (r:Road):canR r (looksR r)=canR r (everyR r):=zvx fun i v hv hk=>by
  have hi:=(List.getElem?_eq_some_iff.1 hv).1
  rw[every_bit r hi,zgt,decide_eq_true hi,Bool.true_and,List.getD_eq_getElem?_getD,hv]
  exact decide_eq_true hk
theorem zki (r:Road):areLooks r (looksR r)=true:=(zji r _).2 fun i hi hb=>by
  rw[zgt,decide_eq_true hi,Bool.true_and,decide_eq_true_eq] at hb
  exact hb
theorem clash_some {r:Road}(h:canR r (everyR r)=false):∃ n,clashFR r=some n∧n<2 ^ r.events.length∧areLooks r n=true∧canR r n=false∧∀ o,o<2 ^ r.events.length→areLooks r o=true→canR r o=false→Clm.sizeN n<Clm.sizeN o∨Clm.sizeN n=Clm.sizeN o∧n≤o:=by
  obtain ⟨h1,h2⟩:=Clm.bestR_spec (clashPR r) (2 ^ r.events.length)
  have hcp:∀ x,clashPR r x=true↔areLooks r x=true∧canR r x=false:=fun x=>by simp[clashPR]
  unfold clashFR
  cases hb:Clm.bestR (clashPR r) (2 ^ r.events.length) with
  |none=>
    have:=h1 hb (looksR r) (Clm.setOf_lt _ _)
    rw[(hcp _).2 ⟨zki r,by rw[zup,h]⟩] at this
    cases this
  |some S=>
    obtain ⟨a1,a2,a3⟩:=h2 S hb
    obtain ⟨b1,b2⟩:=(hcp S).1 a2
    exact ⟨S,rfl,a1,b1,b2,fun o ho h3 h4=>a3 o ho ((hcp o).2 ⟨h3,h4⟩)⟩
end Rd
namespace Ev
namespace Ro
open K
attribute [local simp] ev1 wantG spineK spine float xnew xval xeff zab zae zau zah zai addFl cellsOf pickC alive slLen slFt binI maxA maxK minA minK aeqK aeqS AV.cells spA zad fillA setAt bitsI nat_nn zav AV.plain apart
set_option maxRecDepth 100000
set_option maxHeartbeats 4000000
theorem zdz (l:List Nat):(us l).all AV.plain=true:=by
  rw[List.all_eq_true]
  intro x hx
  unfold us at hx
  obtain ⟨n,_,rfl⟩:=List.mem_map.1 hx
  rfl
def clashRV (r:Rd.Road):AV:=if Rd.valid r=false then .tup [.int .i64 0,.int .i64 1] else if Rd.canR r (Rd.everyR r)=true then .tup [.int .i64 0,.int .i64 4] else .tup [.int .i64 (((Rd.clashFR r).getD 0:Nat):Int),.int .i64 (if (Rd.clashFR r).isSome then 0 else 4)]
def okClash (M:Nat)(r:Rd.Road):Bool:=!Rd.valid r || Rd.canR r (Rd.everyR r) || decide ((Rd.setsTo r (2 ^ r.events.length)).length≤M)
def FirstUC (call call0:CallF)(r:Rd.Road):Prop:=∀ (vb q N:Nat) (L:List Nat),L.length=N→N≤2000→∀ (H:List AB) (xb mb eb:Nat),Rx r xb mb eb H→H[vb]?=some (.cells [.sl q 0 N 1])→H[q]?=some (.cells (us L))→vb≠mb→q≠mb→∀ (fl:Fn) (fa fb:List AV) (p:Nat→Bool),SetF call0 (.fn fl fa fb) r xb mb eb H L p →
  ∃ H' tc,call (.fn (.func 78) [] []) [.fn (.func 111) [] [.ptr vb 0],.agg [.fn fl fa fb]] H=some (findU p L,H',tc)∧(∀ j∈tc,j=mb)∧Kp tc H H'∧Rx r xb mb eb H'
def Cl3C (call:CallF)(r:Rd.Road):Prop:=∀ (H:List AB) (xb mb eb:Nat),Rx r xb mb eb H→∀ (set b1:Nat),H[b1]?=some (.cells [.ptr xb 0])→∃ H' tc,call (.fn (.func 80) [] [.ptr b1 0]) [.int .u64 set] H=some (.ret (.bool (!Rd.canR r set)),H',tc)∧(∀ j∈tc,j=mb)∧Kp tc H H'∧Rx r xb mb eb H'
theorem zrb (C:Cfg)(_hC:C.calm=true)(call call1:CallF)(r:Rd.Road)(hr:Rd.Fine r)(hcan:Rd.canR r (Rd.everyR r)=false)(hdf:C.dfk 71=some (114,true))(Mx:Nat)(hMx:(Rd.setsTo r (2 ^ r.events.length)).length≤Mx)(hSo:SortC Mx call 76)(hVa:ValC call)(hFi:FirstUC call call1 r)(h3:Cl3C call1 r)(xb mb eb tb q N:Nat)(F:List Nat)(hF:F=Rd.setsTo r (2 ^ r.events.length))(hFN:F.length=N)(G:List AB)(hX:Rx r xb mb eb G)(g1:G[1]?=some (.cells [.int .i64 0]))(gt:G[tb]?=some (.cells [.ptr xb 0]))(gq:HB G q (.cells (us F)))(hmt:mb≠tb)(hm1:mb≠1)(tc:List Nat)(htc:tc=[])
    (L:List (Nat × AV)) (L3:lk 45 L 3=.ptr 1 0) (L4:lk 45 L 4=.ptr tb 0) (L5:lk 45 L 5=.sl q 0 N 1):
    Does (ev C call 0 none (atP [1,1,1,1,1,1] af22.body) { tm:=tmA 45 L,df:=[.call 71 [.ptr 1 0]],hp:=G,tc:=tc })
      (Fin C 0 af22 (Ans (clashRV r))):=by
  subst htc
  have m3:val C (tmA 45 L) (.tmp 3)=.ptr 1 0:=L3
  have m4:val C (tmA 45 L) (.tmp 4)=.ptr tb 0:=L4
  have m5:val C (tmA 45 L) (.tmp 5)=.sl q 0 N 1:=L5
  have he10:=hr.events
  have hp10:2 ^ r.events.length≤2 ^ 10:=Nat.pow_le_pow_right (by decide) he10
  have hFl:=Rd.setsTo_len r (2 ^ r.events.length)
  rw[← hF,hFN] at hFl
  have hN0:N≠0:=fun h=>Rd.setsTo_pos r (Nat.two_pow_pos _) (by rw[← hF];exact List.eq_nil_of_length_eq_zero (by omega))
  have hul:(us F).length=N:=by rw[us_len,hFN]
  have hNb:N≤bound:=by unfold bound;omega
  have htk:List.take N (us F)=us F:=List.take_of_length_le (by omega)
  have hGq:=gq.lt
  obtain ⟨A1,A2,A3⟩:=gq
  have hpl:=zdz F
  obtain ⟨tcs,Ls,c1,c2,c3,c4,c5⟩:=hSo (G++[.cells (us F)]) G.length N F (hb (by simp)) hFN (by rw[← hFN,hF];exact hMx) (by rw[hF];exact Rd.setsTo_inc r _) (fun x hx=>by rw[hF] at hx;have:=((Rd.setsTo_mem r _ x).1 hx).1;omega)
  have hLl:Ls.length=N:=by rw[c5.length_eq,hFN]
  have hGs:(G++[AB.cells (us F)]).set G.length (.cells (us Ls))=G++[.cells (us Ls)]:=by rw[List.set_append_right _ _ (Nat.le_refl _),Nat.sub_self];rfl
  rw[hGs] at c1
  have v1:=hVa (G++[.cells (us Ls)]) G.length N (by simp)
  have hml:=hX.ml
  obtain ⟨H', tcf, k1, k2, k3, k4⟩ := hFi (G.length + 1) G.length N Ls hLl (by omega) (G ++ [.cells (us Ls), .cells [.sl G.length 0 N 1]]) xb mb eb (hX.app _) (by simp) (by simp) (by omega) (by omega) (.func 80) [] [.ptr tb 0] (fun s => !Rd.canR r s) (by
    intro G' hk hG' n hn
    exact h3 G' xb mb eb hG' n tb (hk.at (by rw[List.getElem?_append_left (get_lt gt)];exact gt) (by simpa using Ne.symm hmt)))
  have e1:H'[1]?=some (.cells [.int .i64 0]):=k3.at (by rw[List.getElem?_append_left (get_lt g1)];exact g1) (fun h=>hm1 (k2 _ h).symm)
  have hfind:=Rd.clash_find r c4 (by rw[← hF];exact c5)
  have hval:¬ Rd.valid r=false:=by rw[(Rd.valid_iff r).2 hr];decide
  unfold clashRV
  rw[if_neg hval,if_neg (by rw[hcan];decide)]
  obtain ⟨f0,f1,f2,f3,f4,f5⟩:=bk' e1
  have htl:=get_lt gt
  obtain ⟨t0,t1,t2,t3,t4,t5⟩:=bk' gt
  obtain ⟨p0,p1,p2,p3,p4,p5⟩:=bk' A1
  clear A1 A2 A3
  have hb1:1≤bound:=by decide
  have h0l:∀ n:Nat,¬ n<0:=fun n=>by omega
  obtain ⟨n,hk,hn,-⟩:=Rd.clash_some hcan
  replace hn:n<1024:=by omega
  clear hSo hVa hFi h3 hF hX g1 gt c2 c3 c4 c5 hGs k2 k3 k4 hLl L4 L5 hr hcan hval
  have HL:=hideP L3
  clear L3
  rw[hk] at hfind
  rw[hk]
  have hfu:findU (fun s=>!Rd.canR r s) Ls=.ret (.int .u64 n):=by unfold findU;rw[hfind]
  have hwn:IntKind.i64.wrap (n:Int)=n:=zaf (by omega) (by omega)
  rw[hfu] at k1
  clear hfind hfu hk hp10 hFl he10
  unfold af22 Zq Zm Zl Zo Zs Zd Zc Zt Zn Zi
  simp only[atP]
  (repeat (first|(with_reducible apply zak;(focus ((conv=>lhs;simp[*,List.getElem?_append_right,zdz,Nat.testBit_eq_decide_div_mod_eq])<;>exact rfl));simp only[addFl])|(with_reducible apply zgq;(focus ((conv=>lhs;simp[*,List.getElem?_append_right,zdz,Nat.testBit_eq_decide_div_mod_eq])<;>exact rfl));(try simp only[Ops,Then,OutB]);(try dsimp only))|((with_reducible first|apply zaw|apply zay|apply zas|apply zaq|apply zao|apply zax|apply zar|apply zaz|(apply zap;· simp[*,zab])|(apply zam;· simp[*,zab]));try simp only[Then,Ops])|simp only[Nat.reduceEqDiff,reduceIte,OutB,Then]))
  refine zdk (v:=.tup [.int .i64 n,.int .i64 0]) (.inl rfl) hdf rfl (by simp) (by simp only[resL,resOf,yag];simp[zal,HL.out,resV,pickC,f0]) ⟨by simp,by simp⟩
inductive GrU (lo:Nat) (G:List AB) (l:List Nat):AV→Prop
  |none:l=[]→GrU lo G l .nils
  |some (q:Nat):lo≤q→HB G q (.cells (us l))→GrU lo G l (.sl q 0 l.length 1)
theorem us_app (l:List Nat)(n:Nat):us (l++[n])=us l++[.int .u64 n]:=by simp[us]
theorem zrc (C:Cfg)(hC:C.calm=true)(call call1:CallF)(r:Rd.Road)(hr:Rd.Fine r)(hcan:Rd.canR r (Rd.everyR r)=false)(hdf:C.dfk 71=some (114,true))(hE:EveryC call r)(hA:AreC call r)(Mx:Nat)(hMx:(Rd.setsTo r (2 ^ r.events.length)).length≤Mx)(hSo:SortC Mx call 76)(hVa:ValC call)(hFi:FirstUC call call1 r)(h3:Cl3C call1 r)(xb mb eb tb:Nat)(G0:List AB)(hX:Rx r xb mb eb G0)(g1:G0[1]?=some (.cells [.int .i64 0]))(gt:G0[tb]?=some (.cells [.ptr xb 0]))(hmt:mb≠tb)(hm1:mb≠1)
    (L:List (Nat × AV)) (L3:lk 45 L 3=.ptr 1 0) (L4:lk 45 L 4=.ptr tb 0) (L5:lk 45 L 5=.nils) (tc:List Nat) (htc:tc=[]):
    Does (ev C call 0 none (atP [1,1,1,1,1] af22.body) { tm:=tmA 45 L,df:=[.call 71 [.ptr 1 0]],hp:=G0,tc:=tc })
      (Fin C 0 af22 (Ans (clashRV r))):=by
  subst htc
  have m3:val C (tmA 45 L) (.tmp 3)=.ptr 1 0:=L3
  have m4:val C (tmA 45 L) (.tmp 4)=.ptr tb 0:=L4
  have m5:val C (tmA 45 L) (.tmp 5)=.nils:=L5
  have he10:=hr.events
  have hp10:2 ^ r.events.length≤2 ^ 10:=Nat.pow_le_pow_right (by decide) he10
  have hp1:0<2 ^ r.events.length:=Nat.two_pow_pos _
  have he:=hE G0 xb _ _ hX.x
  have hw:IntKind.u64.wrap (((Rd.everyR r:Nat):Int)+1)=((2 ^ r.events.length:Nat):Int):=by
    unfold Rd.everyR
    rw[show ((2 ^ r.events.length - 1:Nat):Int)+1=((2 ^ r.events.length:Nat):Int) by omega]
    exact zet (by omega) (by omega)
  have htl:=get_lt gt
  obtain ⟨t0,t1,t2,t3,t4,t5⟩:=bk' gt
  have HX:=hideP (And.intro hX (And.intro g1 (And.intro gt (And.intro hA (And.intro hp10 hp1)))))
  have hend:=fun q N F hF hFN G hX g1 gt gq=>zrb C hC call call1 r hr hcan hdf Mx hMx hSo hVa hFi h3 xb mb eb tb q N F hF hFN G hX g1 gt gq hmt hm1 [] rfl
  unfold af22 Zq Zm Zl Zo Zs Zd Zc Zt Zn Zi at hend
  simp only[atP] at hend
  have HE:=hideP hend
  clear hend hX g1 gt hA hE hMx hSo hVa hFi h3 hp10 hp1 hcan hr he10
  unfold af22 Zq Zm Zl Zo Zs Zd Zc Zt Zn Zi
  simp only[atP]
  generalize hpw:2 ^ r.events.length=PW at *
  refine gA ?_
  with_reducible refine zan hC PW (by have:=HX.out.2.2.2.2.1;unfold fuelL;omega) (fun i st=>∃ G v,Kp [] G0 G∧GrU G0.length G (Rd.setsTo r i) v∧st={ tm:=tmA 45 [(20,.int .u64 i),(19,.int .u64 PW),(5,v),(4,.ptr tb 0),(3,.ptr 1 0)],df:=[.call 71 [.ptr 1 0]],hp:=G,tc:=[] }) ?_ ?_ ?_
  · refine ⟨G0,.nils,Kp.refl _ _,.none rfl,?_⟩
    exact st_eq (by simp[*,zag,zal]) rfl (by simp) (by simp)
  · rintro i st hi ⟨G,v,hk,hg,rfl⟩
    obtain ⟨hX,g1,gt,hA,hp10,hp1⟩:=HX.out
    have hXG:Rx r xb mb eb G:=hX.kp hk (by simp) (by simp) (by simp)
    have ha:=hA G xb mb eb hXG i
    have gtG:=hk.at gt (by simp)
    have hss:=Rd.setsTo_succ r i
    have hsl:=Rd.setsTo_len r i
    have hkl:=hk.len
    rw[hss]
    have hii:(i:Int)<PW:=by omega
    have hwi:IntKind.u64.wrap ((i:Int)+1)=i+1:=zet (by omega) (by omega)
    obtain ⟨s0,s1,s2,s3,s4,s5⟩:=bk' gtG
    generalize Rd.setsTo r i=F at *
    cases hb:Rd.areLooks r i with
    |false=>
      rw[hb] at ha
      have HF:=hideP (And.intro hk hg)
      clear hX g1 gt hA hp10 hp1 hXG gtG hss hsl hkl hk hg t0 t1 t2 t3 t4 t5 he hb
      refine gA ?_
      refine ⟨G,v,HF.out.1,HF.out.2,?_⟩
      exact inwP
    |true=>
      rw[hb] at ha
      have hb1:1≤bound:=by decide
      have hbl:F.length+1≤bound:=by unfold bound;omega
      have hpl:=zdz F
      have hul:=us_len F
      rw[if_pos rfl]
      cases hg with
      |none h0=>
        subst h0
        have HF:=hideP hk
        clear hX g1 gt hA hp10 hp1 hXG gtG hss hsl hk t0 t1 t2 t3 t4 t5 he hb hpl hul
        refine gB ?_
        refine ⟨G++[.cells [.int .u64 i],.cells [.int .u64 i]],.sl (G.length+1) 0 1 1,HF.out.trans (Kp.app _ _),.some (G.length+1) (by omega) (hb (by simp[us])),?_⟩
        exact inwP
      |some q l1 h1=>
        have h1':=h1
        obtain ⟨Q1,Q2,Q3⟩:=h1
        have hql:∀ n,¬ (q=G.length+n):=fun n=>by omega
        have hql0:¬ (q=G.length):=by omega
        have HF:=hideP (And.intro hk h1')
        clear hX g1 gt hA hp10 hp1 hXG gtG hss hsl hk h1' t0 t1 t2 t3 t4 t5 he hb
        (repeat (first|((with_reducible apply zak);(focus ((with_reducible apply zba);(focus rfl);(focus rfl);(focus ((conv=>lhs;simp[*,List.getElem?_append_right,List.set_append_right,List.getElem?_cons_zero,List.getElem?_append_left,List.set_append_left,-getElem?_pos,zdz,Nat.testBit_eq_decide_div_mod_eq])<;>exact rfl));(focus rfl);(focus rfl)));simp only[addFl])|(with_reducible apply zak;(focus ((conv=>lhs;simp[*,List.getElem?_append_right,List.set_append_right,List.getElem?_cons_zero,List.getElem?_append_left,List.set_append_left,-getElem?_pos,zdz,Nat.testBit_eq_decide_div_mod_eq])<;>exact rfl));simp only[addFl])|((with_reducible first|apply zaw|apply zay|apply zas|apply zaq|apply zao|apply zax|apply zar|apply zaz|(apply zap;· simp[*,zab])|(apply zam;· simp[*,zab]));try simp only[Then,Ops,OutB])|simp only[Nat.reduceEqDiff,reduceIte,OutB,Then]))
        refine ⟨G.set q .dead++[.cells [.int .u64 i],.cells (us F++[.int .u64 i])],.sl (G.length+1) 0 (F++[i]).length 1,(HF.out.1.set _ _ (by omega)).trans (Kp.app _ _),.some (G.length+1) (by omega) (hb (by rw[List.getElem?_append_right (by simp)];simp[us_app])),?_⟩
        exact inwP
  · rintro st ⟨G,v,hk,hg,rfl⟩
    obtain ⟨hX,g1,gt,hA,hp10,hp1⟩:=HX.out
    rw[← hpw] at hg
    have hne:Rd.setsTo r (2 ^ r.events.length)≠[]:=Rd.setsTo_pos r (Nat.two_pow_pos _)
    obtain ⟨q,rfl,hgq⟩:∃ q,v=.sl q 0 (Rd.setsTo r (2 ^ r.events.length)).length 1∧HB G q (.cells (us (Rd.setsTo r (2 ^ r.events.length)))):=by
      cases hg with
      |none h0=>exact absurd h0 hne
      |some q l1 h1=>exact ⟨q,rfl,h1⟩
    have hfin:=HE.out q _ (Rd.setsTo r (2 ^ r.events.length)) (by rw[hpw]) rfl G (hX.kp hk (by simp) (by simp) (by simp)) (hk.at g1 (by simp)) (hk.at gt (by simp)) hgq
    have HF:=hideP hfin
    clear hfin hX g1 gt hA hp10 hp1 hg hk hne hgq HE HX m3 m4 m5 L3 L4 L5 t0 t1 t2 t3 t4 t5 he
    (repeat (first|(with_reducible refine HF.out _ ?_ ?_ ?_<;>simp[zal,hpw])|((with_reducible apply zak);(focus ((with_reducible apply zba);(focus rfl);(focus rfl);(focus ((conv=>lhs;simp[*,List.getElem?_append_right,List.set_append_right,List.getElem?_cons_zero,List.getElem?_append_left,List.set_append_left,-getElem?_pos,Nat.testBit_eq_decide_div_mod_eq])<;>exact rfl));(focus rfl);(focus rfl)));simp only[addFl])|(with_reducible apply zak;(focus ((conv=>lhs;simp[*,List.getElem?_append_right,List.set_append_right,List.getElem?_cons_zero,List.getElem?_append_left,List.set_append_left,-getElem?_pos,Nat.testBit_eq_decide_div_mod_eq])<;>exact rfl));simp only[addFl])|((with_reducible first|apply zaw|apply zay|apply zas|apply zaq|apply zao|apply zax|apply zar|apply zaz|(apply zap;· simp[*,zab])|(apply zam;· simp[*,zab]));try simp only[Then,Ops,OutB,reduceIte])|simp only[Nat.reduceEqDiff,reduceIte,OutB,Then]))
theorem zra (C:Cfg)(hC:C.calm=true)(call call0 call1:CallF)(r:Rd.Road)(hdf:C.dfk 71=some (114,true))(hM:MustC call)(hO:OpenC call call0 r)(hE:Rd.valid r=true→EveryC call r)(hCn:Rd.valid r=true→CanC call r)(hA:Rd.valid r=true→AreC call r)(Mx:Nat)(hok:okClash Mx r=true)(hSo:SortC Mx call 76)(hVa:ValC call)(hFi:FirstUC call call1 r)(h3:Rd.valid r=true→Cl3C call1 r)
    (hF:∀ G xb,call0 (.fn (.func 55) [] []) [.ptr xb 0] G=some (.ret (.bool true),G,[])):
    Does (ev C call ([]:List AB).length none af22.body { tm:=tmA af22.ntmps (zipI 0 [.agg (roadCs r)] []),df:=[],hp:=[],tc:=[] })
      (Fin C ([]:List AB).length af22 (Ans (clashRV r))):=by
  have ho:=hO [.cells (roadCs r),.cells [.int .i64 0]] (.fn (.func 55) [] []) true (fun _ G xb mb eb _ _=>hF G xb)
  have hmt:=hM.t
  have hmf:=hM.f
  rcases ho with ⟨h1,h2⟩|⟨h1,h2,h3⟩|⟨h1,-,H1,xb,mb,eb,h4,h5,h6,h7,h8,h9⟩
  · have hv:clashRV r=.tup [.int .i64 0,.int .i64 1]:=by unfold clashRV;rw[if_pos h1]
    rw[hv]
    clear hO hE hCn hA hok hSo hVa hFi h3 hF hM hv h1
    unfold af22 Zq Zm Zl Zo Zs Zd Zc Zt Zn Zi
    simp only[zipI,roadCs,stopV] at *
    refine gD ?_
    refine zbl (v:=.tup [.int .i64 0,.int .i64 1]) hdf rfl (by simp only;rfl) (by simp only[resL,resOf,zaa];simp[resV,pickC]) ⟨by simp,by simp⟩
  · cases h2
  · have hvf:¬ Rd.valid r=false:=by rw[h1];decide
    have hr:=(Rd.valid_iff r).1 h1
    have hl1:=h5.len
    simp only[List.length_cons,List.length_nil,Nat.zero_add,Nat.reduceAdd] at h7 h8 h9 hl1
    have hXa:=h6.app [.cells [.ptr xb 0]]
    have hev:=hE h1 (H1++[.cells [.ptr xb 0]]) xb _ _ hXa.x
    obtain ⟨H2,tc2,k1,k2,k3,k4⟩:=hCn h1 (H1++[.cells [.ptr xb 0]]) xb mb eb hXa (Rd.everyR r)
    have hml:=h6.ml
    have g1:H2[1]?=some (.cells [.int .i64 0]):=k3.at (by rw[List.getElem?_append_left (by omega)];exact h5.at rfl (by simp)) (fun h=>by have:=k2 _ h;omega)
    have gt:H2[H1.length]?=some (.cells [.ptr xb 0]):=k3.at (by simp) (fun h=>by have:=k2 _ h;omega)
    have hft:tc2.filter (fun x=>decide (x<0))=[]:=by
      rw[List.filter_eq_nil_iff];intro x _;simp
    cases hcan:Rd.canR r (Rd.everyR r) with
    |true=>
      have hv:clashRV r=.tup [.int .i64 0,.int .i64 4]:=by unfold clashRV;rw[if_neg hvf,if_pos hcan]
      rw[hv]
      rw[hcan] at k1
      obtain ⟨f0,f1,f2,f3,f4,f5⟩:=bk' g1
      clear hO hE hCn hA hok hSo hVa hFi h3 hF hM hv h1 hvf hr h5 h6 h7 h8 h9 hl1 hXa k2 k3 k4 hml gt hcan
      unfold af22 Zq Zm Zl Zo Zs Zd Zc Zt Zn Zi
      simp only[zipI,roadCs] at *
      refine gD ?_
      simp only[List.filterMap_cons,List.filterMap_nil,zcn,List.foldl_cons,List.foldl_nil]
      refine zbl (v:=.tup [.int .i64 0,.int .i64 4]) hdf rfl g1 (by simp only[resL,resOf,zaa];simp[resV,pickC,List.getElem?_set_self f0]) ⟨rfl,by simp⟩
    |false=>
      rw[hcan] at k1
      have hend:=zrc C hC call call1 r hr hcan hdf (hE h1) (hA h1) Mx (by unfold okClash at hok;rw[h1,hcan] at hok;simpa using hok) hSo hVa hFi (h3 h1) xb mb eb H1.length H2 k4 g1 gt (by omega) (by omega)
      unfold af22 Zq Zm Zl Zo Zs Zd Zc Zt Zn Zi at hend
      simp only[atP] at hend
      have HE:=hideP hend
      clear hend hO hE hCn hA hok hSo hVa hFi h3 hF hM h1 hvf hr h5 h6 h7 h8 h9 hl1 hXa k2 k3 k4 hml gt hcan g1
      unfold af22 Zq Zm Zl Zo Zs Zd Zc Zt Zn Zi
      simp only[zipI,roadCs,List.length_nil] at *
      (repeat (first|(with_reducible refine HE.out _ ?_ ?_ ?_ _ ?_<;>simp[zal])|((with_reducible apply zak);(focus ((with_reducible apply zba);(focus rfl);(focus rfl);(focus ((conv=>lhs;simp[*,List.getElem?_append_right,List.set_append_right,List.getElem?_cons_zero,List.getElem?_append_left,List.set_append_left,-getElem?_pos,Nat.testBit_eq_decide_div_mod_eq])<;>exact rfl));(focus rfl);(focus rfl)));simp only[addFl])|(with_reducible apply zak;(focus ((conv=>lhs;simp[*,List.getElem?_append_right,List.set_append_right,List.getElem?_cons_zero,List.getElem?_append_left,List.set_append_left,-getElem?_pos,Nat.testBit_eq_decide_div_mod_eq])<;>exact rfl));simp only[addFl])|((with_reducible first|apply zaw|apply zay|apply zas|apply zaq|apply zao|apply zax|apply zar|apply zaz|(apply zap;· simp[*,zab])|(apply zam;· simp[*,zab]));try simp only[Then,Ops])|simp only[Nat.reduceEqDiff,reduceIte,OutB,Then]))
end Ro
namespace Ro
open K
set_option maxRecDepth 100000
set_option maxHeartbeats 4000000
structure KnowsC (C:Cfg) (M:Nat):Prop where
  k:Knows C
  sort:∀ n,SortC M (Ev.call C (n+15)) 76
  cl3:Has C 80 af80
  are:Has C 74 af74
  val:Has C 79 af79
  val1:Has C 111 af111
  firstU:Has C 78 af78
  eClash:Has C 22 af22
  df:C.dfk 71=some (114,true)
section
variable {C:Cfg} {M:Nat} (c:KnowsC C M)
include c
theorem valL (n:Nat):ValC (Ev.call C (n+1)):=fun H q N hq=>zew c.k.calm c.val (le' rfl) (by simp[refs,refsL]) (zwq C _ H q N)
variable {r:Rd.Road}
theorem firstUL (n:Nat):FirstUC (Ev.call C (n+r.events.length+17)) (Ev.call C (n+r.events.length+14)) r:=by
  intro vb q N L hL hN H xb mb eb hX h1 h2 n1 n2 fl fa fb p hF
  obtain ⟨x,hp,tc,H',c1,⟨rfl,c2,c4⟩,c5,c6,c7⟩:=zdl (n:=n+r.events.length+16) (first:=[]) (captured:=[]) (args:=[.fn (.func 111) [] [.ptr vb 0],.agg [.fn fl fa fb]]) c.k.calm c.firstU (le' rfl)
    (zmf C c.k.calm c.k.wh (n+r.events.length+14) (n+r.events.length+16) r (mustL c.k _) (zwp c.k.calm (n+r.events.length+15) c.val1) vb q N L hL hN H xb mb eb hX h1 h2 n1 n2 fl fa fb p hF)
  have he:=zjg c.k.calm c.k.wh _ _ _ _ _ _ _ c1
  have hk:Kp tc H H':=⟨he.len,fun b hb hn=>he.same b hb hn⟩
  refine ⟨H',tc,c1,c2,hk,?_⟩
  obtain ⟨es,m1,m2⟩:=hX.m
  have hx:xb∉tc:=fun h=>hX.ne (c2 _ h)
  have hee:eb∉tc:=fun h=>hX.ne2 (c2 _ h)
  by_cases hm:mb∈tc
  · obtain ⟨es2,m3,m4⟩:=c4.m
    exact ⟨hX.ne,hX.ne2,hk.at hX.x hx,fun hn=>hk.at (hX.e hn) hee,Nat.lt_of_lt_of_le hX.el hk.len,es2,(c5.got mb (get_lt m1) hm).trans m3,m4⟩
  · exact hX.kp hk hx hm hee
theorem areL (hr:Rd.Fine r)(n:Nat):AreC (Ev.call C (n+1)) r:=fun H xb mb eb hX set=>zaj c.k.calm c.are (le' rfl) rfl (yav C c.k.calm _ r hr.events H xb mb eb hX set)
theorem cl3L (hr:Rd.Fine r)(n:Nat):Cl3C (Ev.call C (n+r.events.length+13)) r:=fun H xb mb eb hX set b1 h1=>
  zdr (first:=[]) (captured:=[.ptr b1 0]) c.k.calm c.k.wh c.cl3 (le' rfl) rfl hX (yao C _ r (canL c.k hr n) H xb mb eb hX set b1 h1)
theorem clashE (hbig:r.parts.length≤1000∧r.events.length≤1000)(hok:okClash M r=true)(n:Nat):Ev.call C (n+r.events.length+18) (.fn (.func 22) [] []) [.agg (roadCs r)] []=some (.ret (clashRV r),[],[]):=by
  refine zcv c.k c.eClash (le' rfl) (by unfold clashRV;split;rfl;split<;>rfl) (zra C c.k.calm _ (Ev.call C (n+r.events.length+16)) (Ev.call C (n+r.events.length+14)) r c.df (mustL c.k _) (openL c.k hbig (n+r.events.length+13)) (fun hv=>everyL c.k ((Rd.valid_iff r).1 hv) _) (fun hv=>?_) (fun hv=>areL c ((Rd.valid_iff r).1 hv) _) M hok ?_ (valL c _) (firstUL c n) (fun hv=>?_) (fun G xb=>alwaysL c.k _ G _))
  · have h2:=canL c.k ((Rd.valid_iff r).1 hv) (n+5)
    rw[show n+5+r.events.length+12=n+r.events.length+17 by omega] at h2
    exact h2
  · have h2:=c.sort (n+r.events.length+2)
    exact h2
  · have h2:=cl3L c ((Rd.valid_iff r).1 hv) (n+1)
    rw[show n+1+r.events.length+13=n+r.events.length+14 by omega] at h2
    exact h2
end
end Ro
end Ev
namespace Srt2
open Clm (ltS sizeN)
theorem swap_up (Q T:List Nat)(u v:Nat):((Q++u::v::T).set Q.length v).set (Q.length+1) u=Q++v::u::T:=by
  rw[List.set_append_right _ _ (by omega),Nat.sub_self,List.set_cons_zero,List.set_append_right _ _ (by omega),show Q.length+1 - Q.length=1 by omega]
  rfl
theorem app_one (P X T:List Nat)(y x:Nat):P++((X++[y])++x::T)=(P++X)++y::x::T:=by simp
theorem app_two (P X T:List Nat)(y x:Nat):P++(X++x::(y::T))=(P++X)++x::y::T:=by simp
theorem sorted_get {B:List Nat}(h:Sorted B){i j:Nat}(hi:i<B.length)(hj:j<B.length)(hij:i≤j):B[i]=B[j]∨LTs B[i] B[j]:=by
  by_cases e:i=j
  · subst e;exact .inl rfl
  · exact .inr ((List.pairwise_iff_getElem.1 h) i j hi hj (by omega))
theorem lts_or {x y z:Nat}(h:x=y∨LTs x y)(g:LTs y z):LTs x z:=by
  rcases h with rfl|h
  · exact g
  · exact h.trans g
theorem or_lts {x y z:Nat}(h:LTs x y)(g:y=z∨LTs y z):LTs x z:=by
  rcases g with rfl|g
  · exact h
  · exact h.trans g
end Srt2
namespace Ev
namespace K
attribute [local simp] ev1 wantG spineK spine float xnew xval xeff zab zae zau zah zai addFl cellsOf pickC alive slLen slFt binI maxA maxK minA minK aeqK aeqS AV.cells spA zad fillA setAt bitsI nat_nn zav AV.plain apart
set_option maxRecDepth 100000
set_option maxHeartbeats 4000000
theorem zgi {i j:Nat}(h:i+j≤400000):IntKind.i64.wrap ((i:Int)+j)=((i+j:Nat):Int)∧IntKind.u64.wrap ((i+j:Nat):Int)=((i+j:Nat):Int)∧((i+j:Nat):Int).fdiv (2 ^ min 1 IntKind.u64.bits)=((i+j) / 2:Nat)∧IntKind.u64.wrap (((i+j) / 2:Nat):Int)=((i+j) / 2:Nat)∧IntKind.i64.wrap (((i+j) / 2:Nat):Int)=((i+j) / 2:Nat):=by
  refine ⟨?_,zet (by omega) (by omega),?_,zet (by omega) (by omega),zaf (by omega) (by omega)⟩
  · rw[show ((i+j:Nat):Int)=(i:Int)+j by omega];exact zaf (by omega) (by omega)
  · rw[show min 1 IntKind.u64.bits=1 from rfl,Int.fdiv_eq_ediv_of_nonneg _ (by decide)];omega
def SymP (H:List AB)(q:Nat)(P A B S:List Nat)(v:AV)(hp:List AB)(tc:List Nat):Prop:=v=.tup []∧∃ L,InB H q (P++(A++(B++S))) (P++(L++S)) hp tc∧Srt2.Sorted L∧L.Perm (A++B)
def sy0 (q N a cf i j:Nat)(G:List AB)(tc:List Nat):St:={ tm:=tmA 220 [(11,.int .i64 j),(10,.int .i64 i),(4,.fn (.func cf) [] []),(1,.int .i64 a),(0,.sl q 0 N 1)],df:=[],hp:=G,tc:=tc }
def sy2 (q N i k:Nat)(G:List AB)(tc:List Nat):St:={ tm:=tmA 220 [(13,.int .i64 k),(10,.int .i64 i),(0,.sl q 0 N 1)],df:=[],hp:=G,tc:=tc }
theorem zzi (C:Cfg)(hC:C.calm=true)(call:CallF)(cf:Nat)(hK:CmpC call cf)(H:List AB)(q N a m b:Nat)(P B S:List Nat)(x:Nat)(hq:HB H q (.cells (us (P++([x]++(B++S))))))(hN0:(P++([x]++(B++S))).length=N)(hN:N≤100000)(ha:P.length=a)(hm:a+1=m)(hb:m+B.length=b)(hB:Srt2.Sorted B)(hx:∀ y∈B,x<y)(h10:x<1024∧∀ y∈B,y<1024):
    Does (ev C call H.length none af120.body { tm:=tmA af120.ntmps (zipI 0 [.sl q 0 N 1,.int .i64 a,.int .i64 m,.int .i64 b,.fn (.func cf) [] []] []),df:=[],hp:=H,tc:=[] })
      (Ends C H.length af120.res (SymP H q P [x] B S)):=by
  have hlen:a+1+B.length+S.length=N:=by rw[← hN0,← ha];simp only[List.length_append,List.length_cons,List.length_nil];omega
  have w1:IntKind.i64.wrap ((m:Int) - a)=1:=by rw[show (m:Int) - a=1 by omega];rfl
  have HX:=hideP (And.intro hq (And.intro hN0 (And.intro ha (And.intro hm (And.intro hb (And.intro hB (And.intro hx (And.intro h10 hlen))))))))
  clear hq hN0 ha hm hb hB hx h10 hlen
  unfold af120 Zq Zm Zo Zd Ze Zc Zt Zn
  simp only[zipI] at *
  refine gB ?_
  with_reducible refine zcc hC B.length (by have:=HX.out.2.2.2.2.2.2.2.2;unfold fuelL;omega) (fun k st=>∃ i j,k=j - i∧m≤i∧i≤j∧j≤b∧(∀ t (h:t<B.length),m+t<i→Srt2.LTs B[t] x)∧(∀ t (h:t<B.length),j≤m+t→Srt2.LTs x B[t])∧st=sy0 q N a cf i j H []) ?_ ?_
  · obtain ⟨hq,hN0,ha,hm,hb,hB,hx,h10,hlen⟩:=HX.out
    refine ⟨m,b,by omega,Nat.le_refl _,by omega,Nat.le_refl _,fun t h h'=>by omega,fun t h h'=>by omega,?_⟩
    unfold sy0
    exact inwP
  · rintro k st ⟨i,j,hk,h1,h2,h3,h4,h5,rfl⟩
    obtain ⟨hq,hN0,ha,hm,hb,hB,hx,h10,hlen⟩:=HX.out
    by_cases hij:i<j
    · obtain ⟨f1,f2,f3,f4,f5⟩:=zgi (i:=i) (j:=j) (by omega)
      obtain ⟨h,hh⟩:∃ h,(i+j) / 2=h:=⟨_,rfl⟩
      rw[hh] at f3 f4 f5
      have hlo:i≤h:=by omega
      have hhi:h<j:=by omega
      have ht:h - m<B.length:=by omega
      have hgz:(P++([x]++(B++S))).getD h 0=B[h - m]:=by
        rw[List.getD_eq_getElem?_getD,List.getElem?_append_right (by omega),List.getElem?_append_right (by simp;omega),List.getElem?_append_left (by simp;omega)]
        simp only[List.length_cons,List.length_nil]
        rw[show h - P.length - (0+1)=h - m by omega,List.getElem?_eq_getElem ht];rfl
      have hgx:(P++([x]++(B++S))).getD a 0=x:=by rw[← ha];exact Srt2.getD_at P (B++S) x
      have r1:=us_get (l:=P++([x]++(B++S))) (i:=h) (by omega)
      have r2:=us_get (l:=P++([x]++(B++S))) (i:=a) (by omega)
      rw[hgz] at r1
      rw[hgx] at r2
      have hz:=hx _ (List.getElem_mem ht)
      have hz1:=h10.2 _ (List.getElem_mem ht)
      have hlt:=Srt2.lts_right hz
      have hge:=Srt2.lts_left hz
      have hup:Srt2.LTs B[h - m] x→∀ t (h':t<B.length),m+t<h+1→Srt2.LTs B[t] x:=fun hl t h' h6=>Srt2.lts_or (Srt2.sorted_get hB h' ht (by omega)) hl
      have hdn:Srt2.LTs x B[h - m]→∀ t (h':t<B.length),h≤m+t→Srt2.LTs x B[t]:=fun hl t h' h6=>Srt2.or_lts hl (Srt2.sorted_get hB ht h' (by omega))
      generalize B[h - m]=z at *
      have hc:=fun H=>hK H z x hz1 h10.1
      have hul:(us (P++([x]++(B++S)))).length=N:=by rw[us_len,hN0]
      obtain ⟨A1,A2,A3⟩:=hq
      generalize us (P++([x]++(B++S)))=arr at *
      have r1':=ge_of r1
      have r2':=ge_of r2
      have g1:(h:Int)<N:=by omega
      have g2:(a:Int)<N:=by omega
      have g3:h+1≤N:=by omega
      have g4:a+1≤N:=by omega
      have g5:(i:Int)<j:=by omega
      have g6:IntKind.i64.wrap ((h:Int)+1)=h+1:=zaf (by omega) (by omega)
      by_cases hs:Clm.sizeN z<Clm.sizeN x
      · have hfin:∃ q',q'<k∧∃ i' j',q'=j' - i'∧m≤i'∧i'≤j'∧j'≤b∧(∀ t (h:t<B.length),m+t<i'→Srt2.LTs B[t] x)∧(∀ t (h:t<B.length),j'≤m+t→Srt2.LTs x B[t])∧i'=h+1∧j'=j:=
          ⟨j - (h+1),by omega,h+1,j,rfl,by omega,by omega,by omega,hup (hlt.2 hs),h5,rfl,rfl⟩
        have HF:=hideP hfin
        have hd:(Clm.sizeN z:Int) - Clm.sizeN x<0:=by omega
        generalize (Clm.sizeN z:Int) - Clm.sizeN x=d at *
        generalize i+j=s at *
        clear hfin hK hk h1 h2 h3 h4 h5 hup hdn hlt hge hz hz1 hs hgz hgx hlo hhi ht hN0 ha hm hb hB hx h10 hlen hh
        unfold sy0
        refine gB ?_
        obtain ⟨q',e1,i',j',e2,e3,e4,e5,e6,e7,rfl,rfl⟩:=HF.out
        refine ⟨q',e1,_,_,e2,e3,e4,e5,e6,e7,?_⟩
        exact inwP
      · have hfin:∃ q',q'<k∧∃ i' j',q'=j' - i'∧m≤i'∧i'≤j'∧j'≤b∧(∀ t (h:t<B.length),m+t<i'→Srt2.LTs B[t] x)∧(∀ t (h:t<B.length),j'≤m+t→Srt2.LTs x B[t])∧i'=i∧j'=h:=
          ⟨h - i,by omega,i,h,rfl,by omega,by omega,by omega,h4,hdn (hge.2 hs),rfl,rfl⟩
        have HF:=hideP hfin
        have hd:¬ ((Clm.sizeN z:Int) - Clm.sizeN x<0):=by omega
        generalize (Clm.sizeN z:Int) - Clm.sizeN x=d at *
        generalize i+j=s at *
        clear hfin hK hk h1 h2 h3 h4 h5 hup hdn hlt hge hz hz1 hs hgz hgx hlo hhi ht hN0 ha hm hb hB hx h10 hlen hh
        unfold sy0
        refine gB ?_
        obtain ⟨q',e1,i',j',e2,e3,e4,e5,e6,e7,rfl,rfl⟩:=HF.out
        refine ⟨q',e1,_,_,e2,e3,e4,e5,e6,e7,?_⟩
        exact inwP
    · have hij':i=j:=by omega
      subst hij'
      obtain ⟨n,hn⟩:∃ n,n=i - m:=⟨_,rfl⟩
      obtain ⟨i1,hi1⟩:∃ i1,i1+1=i:=⟨i - 1,by omega⟩
      have w2:IntKind.i64.wrap ((i:Int) - 1)=(i1:Int):=by rw[show (i:Int) - 1=i1 by omega];exact zaf (by omega) (by omega)
      have g5:¬ ((i:Int)<i):=by omega
      have HI:=hideP (And.intro h1 (And.intro h3 (And.intro h4 (And.intro h5 (And.intro hn hi1)))))
      clear hK hk h1 h2 h3 h4 h5 hij hq hN0 ha hm hb hB hx h10 hlen hn hi1
      unfold sy0
      refine gB ?_
      with_reducible refine zan hC n (by have:=HX.out.2.2.2.2.2.2.2.2;have:=HX.out;have:=HI.out;unfold fuelL;omega) (fun r st=>∃ G tc,InB H q (P++([x]++(B++S))) (P++(B.take r++x::(B.drop r++S))) G tc∧st=sy2 q N i (a+r) G tc) ?_ ?_ ?_
      · obtain ⟨hq,hN0,ha,hm,hb,hB,hx,h10,hlen⟩:=HX.out
        refine ⟨H,[],⟨?_,by simp,fun _=>?_⟩,?_⟩
        · simp only[List.take_zero,List.drop_zero,List.nil_append];exact hq.same.symm
        · simp
        · unfold sy2
          exact inwP
      · rintro r st hr ⟨G,tc,hG,rfl⟩
        obtain ⟨hq,hN0,ha,hm,hb,hB,hx,h10,hlen⟩:=HX.out
        obtain ⟨h1,h3,h4,h5,hn,hi1⟩:=HI.out
        have hrB:r<B.length:=by omega
        have hd:B.drop r=B[r]::B.drop (r+1):=List.drop_eq_getElem_cons hrB
        have ht:B.take (r+1)=B.take r++[B[r]]:=List.take_succ_eq_append_getElem hrB
        rw[hd,List.cons_append (a:=B[r])] at hG
        rw[ht]
        have harr:P++(B.take r++x::(B[r]::(B.drop (r+1)++S)))=(P++B.take r)++x::B[r]::(B.drop (r+1)++S):=Srt2.app_two _ _ _ _ _
        have harr2:P++((B.take r++[B[r]])++x::(B.drop (r+1)++S))=(P++B.take r)++B[r]::x::(B.drop (r+1)++S):=Srt2.app_one _ _ _ _ _
        rw[harr2]
        rw[harr] at hG
        have hHG:=hG.hb hq
        have hQ:(P++B.take r).length=a+r:=by simp only[List.length_append,List.length_take];omega
        have hal:((P++B.take r)++x::B[r]::(B.drop (r+1)++S)).length=N:=by
          rw[← hlen];simp only[List.length_append,List.length_cons,List.length_take,List.length_drop];omega
        generalize B[r]=y at *
        obtain ⟨k,hk⟩:∃ k,a+r=k:=⟨_,rfl⟩
        obtain ⟨k1,hk1⟩:∃ k1,k+1=k1:=⟨_,rfl⟩
        rw[← Nat.add_assoc a r 1,hk,hk1]
        rw[hk] at hQ
        have hkN:k+1<N:=by omega
        have r1:=us_get (l:=(P++B.take r)++x::y::(B.drop (r+1)++S)) (i:=k) (by omega)
        have r2:=us_get (l:=(P++B.take r)++x::y::(B.drop (r+1)++S)) (i:=k1) (by omega)
        have s1:=us_set (l:=(P++B.take r)++x::y::(B.drop (r+1)++S)) (i:=k) (by omega) y
        have s2:=us_set (l:=((P++B.take r)++x::y::(B.drop (r+1)++S)).set k y) (i:=k1) (by rw[List.length_set];omega) x
        have hl1:(us ((P++B.take r)++x::y::(B.drop (r+1)++S))).length=N:=by rw[us_len,hal]
        have hl2:(us (((P++B.take r)++x::y::(B.drop (r+1)++S)).set k y)).length=N:=by rw[us_len,List.length_set,hal]
        have hsw:=Srt2.swap_up (P++B.take r) (B.drop (r+1)++S) x y
        have g1:=Srt2.getD_at (P++B.take r) (y::(B.drop (r+1)++S)) x
        have g2:=Srt2.getD_at1 (P++B.take r) (B.drop (r+1)++S) x y
        rw[hQ,hk1] at hsw g2
        rw[hQ] at g1
        rw[g1] at r1
        rw[g2] at r2
        rw[hsw] at s2
        generalize (P++B.take r)++x::y::(B.drop (r+1)++S)=arr at *
        generalize (P++B.take r)++y::x::(B.drop (r+1)++S)=arr2 at *
        generalize arr.set k y=arr1 at *
        have r1':=ge_of r1
        have r2':=ge_of r2
        have f1:(k:Int)<N:=by omega
        have f2:(k1:Int)<N:=by omega
        have f3:k+1≤N:=by omega
        have f4:k1+1≤N:=by omega
        have f5:(k:Int)<i1:=by omega
        have w3:IntKind.i64.wrap ((k:Int)+1)=(k1:Int):=by rw[show (k1:Int)=(k:Int)+1 by omega];exact zaf (by omega) (by omega)
        have hql:=hq.lt
        have hfin : InB H q (P ++ ([x] ++ (B ++ S))) arr2 (G.set q (.cells (us arr2))) (q :: q :: tc) := ⟨by rw [hG.1, List.set_set], fun j hj => by
          rcases List.mem_cons.1 hj with rfl|hj
          · rfl
          · rcases List.mem_cons.1 hj with rfl|hj
            · rfl
            · exact hG.2.1 j hj,fun h=>by cases h⟩
        have HF:=hideP hfin
        obtain ⟨A1,A2,A3⟩:=hHG
        clear hfin hG hq hN0 ha hm hb hB hx h10 hlen h1 h3 h4 h5 hn hi1 hrB hd ht harr harr2 hQ hal hk hk1 hkN hsw g1 g2
        unfold sy2
        refine gB ?_
        refine ⟨_,_,HF.out,?_⟩
        exact inwP
      · rintro st ⟨G,tc,hG,rfl⟩
        obtain ⟨hq,hN0,ha,hm,hb,hB,hx,h10,hlen⟩:=HX.out
        obtain ⟨h1,h3,h4,h5,hn,hi1⟩:=HI.out
        have hGl:=hG.length
        have hfin:SymP H q P [x] B S (.tup []) G tc:=by
          refine ⟨rfl,B.take n++x::B.drop n,by simpa using hG,Srt2.put_sorted (by rw[List.take_append_drop];exact hB) (fun y hy=>?_) (fun y hy=>?_),?_⟩
          · obtain ⟨t,ht,rfl⟩:=List.getElem_of_mem hy
            rw[List.length_take] at ht
            rw[List.getElem_take]
            exact h4 t (by omega) (by omega)
          · obtain ⟨t,ht,rfl⟩:=List.getElem_of_mem hy
            rw[List.length_drop] at ht
            rw[List.getElem_drop]
            exact h5 (n+t) (by omega) (by omega)
          · have:=(List.perm_middle (l₁:=B.take n) (a:=x) (l₂:=B.drop n))
            rwa [List.take_append_drop] at this
        have HF:=hideP hfin
        have hgl:H.length≤G.length:=by omega
        have f5:¬ (((a+n:Nat):Int)<i1):=by omega
        have f6:¬ (a+n<i1):=by omega
        generalize a+n=k at *
        clear hfin hG hq hN0 ha hm hb hB hx h10 hlen h1 h3 h4 h5 hn hi1
        unfold sy2
        refine gB ?_
        exact zac (v:=.tup []) (.inl rfl) rfl hgl (by simp only[resL];simp[*,resV]) HF.out
def sy4 (q N m cf i j:Nat)(G:List AB)(tc:List Nat):St:={ tm:=tmA 220 [(15,.int .i64 j),(14,.int .i64 i),(4,.fn (.func cf) [] []),(2,.int .i64 m),(0,.sl q 0 N 1)],df:=[],hp:=G,tc:=tc }
def sy6 (q N i k:Nat)(G:List AB)(tc:List Nat):St:={ tm:=tmA 220 [(17,.int .i64 k),(14,.int .i64 i),(0,.sl q 0 N 1)],df:=[],hp:=G,tc:=tc }
theorem zwt (C:Cfg)(hC:C.calm=true)(call:CallF)(cf:Nat)(hK:CmpC call cf)(H:List AB)(q N a m b:Nat)(P A S:List Nat)(y:Nat)(hq:HB H q (.cells (us (P++(A++([y]++S))))))(hN0:(P++(A++([y]++S))).length=N)(hN:N≤100000)(ha:P.length=a)(hm:a+A.length=m)(hb:m+1=b)(hA1:A.length≠1)(hA:Srt2.Sorted A)(hx:∀ z∈A,z<y)(h10:y<1024∧∀ z∈A,z<1024):
    Does (ev C call H.length none af120.body { tm:=tmA af120.ntmps (zipI 0 [.sl q 0 N 1,.int .i64 a,.int .i64 m,.int .i64 b,.fn (.func cf) [] []] []),df:=[],hp:=H,tc:=[] })
      (Ends C H.length af120.res (SymP H q P A [y] S)):=by
  have hlen:a+A.length+1+S.length=N:=by rw[← hN0,← ha];simp only[List.length_append,List.length_cons,List.length_nil];omega
  obtain ⟨n,hn⟩:∃ n,A.length=n:=⟨_,rfl⟩
  have w0:IntKind.i64.wrap ((m:Int) - a)=n:=by rw[show (m:Int) - a=n by omega];exact zaf (by omega) (by omega)
  have w0':((n:Int)==1)=false:=beq_false_of_ne (by omega)
  have w1:IntKind.i64.wrap ((b:Int) - m)=1:=by rw[show (b:Int) - m=1 by omega];rfl
  have HX:=hideP (And.intro hq (And.intro hN0 (And.intro ha (And.intro hm (And.intro hb (And.intro hA (And.intro hx (And.intro h10 (And.intro hlen hn)))))))))
  clear hq hN0 ha hm hb hA hx h10 hlen hn hA1
  unfold af120 Zq Zm Zo Zd Ze Zc Zt Zn
  simp only[zipI] at *
  refine gB ?_
  with_reducible refine zcc hC n (by have:=HX.out.2.2.2.2.2.2.2.2.1;have:=HX.out.2.2.2.2.2.2.2.2.2;unfold fuelL;omega) (fun k st=>∃ i j,k=j - i∧a≤i∧i≤j∧j≤m∧(∀ t (h:t<A.length),a+t<i→Srt2.LTs A[t] y)∧(∀ t (h:t<A.length),j≤a+t→Srt2.LTs y A[t])∧st=sy4 q N m cf i j H []) ?_ ?_
  · obtain ⟨hq,hN0,ha,hm,hb,hA,hx,h10,hlen,hn⟩:=HX.out
    refine ⟨a,m,by omega,Nat.le_refl _,by omega,Nat.le_refl _,fun t h h'=>by omega,fun t h h'=>by omega,?_⟩
    unfold sy4
    exact inwP
  · rintro k st ⟨i,j,hk,h1,h2,h3,h4,h5,rfl⟩
    obtain ⟨hq,hN0,ha,hm,hb,hA,hx,h10,hlen,hn⟩:=HX.out
    by_cases hij:i<j
    · obtain ⟨f1,f2,f3,f4,f5⟩:=zgi (i:=i) (j:=j) (by omega)
      obtain ⟨h,hh⟩:∃ h,(i+j) / 2=h:=⟨_,rfl⟩
      rw[hh] at f3 f4 f5
      have hlo:i≤h:=by omega
      have hhi:h<j:=by omega
      have ht:h - a<A.length:=by omega
      have hgz:(P++(A++([y]++S))).getD h 0=A[h - a]:=by
        rw[List.getD_eq_getElem?_getD,List.getElem?_append_right (by omega),List.getElem?_append_left (by omega),ha,List.getElem?_eq_getElem ht];rfl
      have hgx:(P++(A++([y]++S))).getD m 0=y:=by
        have:=Srt2.getD_at (P++A) S y
        rw[List.length_append,ha,hm,List.append_assoc] at this
        exact this
      have r1:=us_get (l:=P++(A++([y]++S))) (i:=h) (by omega)
      have r2:=us_get (l:=P++(A++([y]++S))) (i:=m) (by omega)
      rw[hgz] at r1
      rw[hgx] at r2
      have hz:=hx _ (List.getElem_mem ht)
      have hz1:=h10.2 _ (List.getElem_mem ht)
      have hlt:=Srt2.lts_right hz
      have hge:=Srt2.lts_left hz
      have hup:Srt2.LTs A[h - a] y→∀ t (h':t<A.length),a+t<h+1→Srt2.LTs A[t] y:=fun hl t h' h6=>Srt2.lts_or (Srt2.sorted_get hA h' ht (by omega)) hl
      have hdn:Srt2.LTs y A[h - a]→∀ t (h':t<A.length),h≤a+t→Srt2.LTs y A[t]:=fun hl t h' h6=>Srt2.or_lts hl (Srt2.sorted_get hA ht h' (by omega))
      generalize A[h - a]=z at *
      have hc:=fun H=>hK H y z h10.1 hz1
      have hul:(us (P++(A++([y]++S)))).length=N:=by rw[us_len,hN0]
      obtain ⟨A1,A2,A3⟩:=hq
      generalize us (P++(A++([y]++S)))=arr at *
      have r1':=ge_of r1
      have r2':=ge_of r2
      have g1:(h:Int)<N:=by omega
      have g2:(m:Int)<N:=by omega
      have g3:h+1≤N:=by omega
      have g4:m+1≤N:=by omega
      have g5:(i:Int)<j:=by omega
      have g6:IntKind.i64.wrap ((h:Int)+1)=h+1:=zaf (by omega) (by omega)
      by_cases hs:Clm.sizeN y<Clm.sizeN z
      · have hfin:∃ q',q'<k∧∃ i' j',q'=j' - i'∧a≤i'∧i'≤j'∧j'≤m∧(∀ t (h:t<A.length),a+t<i'→Srt2.LTs A[t] y)∧(∀ t (h:t<A.length),j'≤a+t→Srt2.LTs y A[t])∧i'=i∧j'=h:=
          ⟨h - i,by omega,i,h,rfl,by omega,by omega,by omega,h4,hdn (hlt.2 hs),rfl,rfl⟩
        have HF:=hideP hfin
        have hd:(Clm.sizeN y:Int) - Clm.sizeN z<0:=by omega
        generalize (Clm.sizeN y:Int) - Clm.sizeN z=d at *
        generalize i+j=s at *
        clear hfin hK hk h1 h2 h3 h4 h5 hup hdn hlt hge hz hz1 hs hgz hgx hlo hhi ht hN0 ha hm hb hA hx h10 hlen hh hn
        unfold sy4
        refine gB ?_
        obtain ⟨q',e1,i',j',e2,e3,e4,e5,e6,e7,rfl,rfl⟩:=HF.out
        refine ⟨q',e1,_,_,e2,e3,e4,e5,e6,e7,?_⟩
        exact inwP
      · have hfin:∃ q',q'<k∧∃ i' j',q'=j' - i'∧a≤i'∧i'≤j'∧j'≤m∧(∀ t (h:t<A.length),a+t<i'→Srt2.LTs A[t] y)∧(∀ t (h:t<A.length),j'≤a+t→Srt2.LTs y A[t])∧i'=h+1∧j'=j:=
          ⟨j - (h+1),by omega,h+1,j,rfl,by omega,by omega,by omega,hup (hge.2 hs),h5,rfl,rfl⟩
        have HF:=hideP hfin
        have hd:¬ ((Clm.sizeN y:Int) - Clm.sizeN z<0):=by omega
        generalize (Clm.sizeN y:Int) - Clm.sizeN z=d at *
        generalize i+j=s at *
        clear hfin hK hk h1 h2 h3 h4 h5 hup hdn hlt hge hz hz1 hs hgz hgx hlo hhi ht hN0 ha hm hb hA hx h10 hlen hh hn
        unfold sy4
        refine gB ?_
        obtain ⟨q',e1,i',j',e2,e3,e4,e5,e6,e7,rfl,rfl⟩:=HF.out
        refine ⟨q',e1,_,_,e2,e3,e4,e5,e6,e7,?_⟩
        exact inwP
    · have hij':i=j:=by omega
      subst hij'
      have g5:¬ ((i:Int)<i):=by omega
      have HI:=hideP (And.intro h1 (And.intro h3 (And.intro h4 h5)))
      clear hK hk h1 h2 h3 h4 h5 hij hq hN0 ha hm hb hA hx h10 hlen hn
      unfold sy4
      refine gB ?_
      with_reducible refine zcc hC n (by have:=HX.out.2.2.2.2.2.2.2.2.1;have:=HX.out.2.2.2.2.2.2.2.2.2;unfold fuelL;omega) (fun u st=>∃ G tc,i≤a+u∧u≤n∧InB H q (P++(A++([y]++S))) (P++(A.take u++y::(A.drop u++S))) G tc∧st=sy6 q N i (a+u) G tc) ?_ ?_
      · obtain ⟨hq,hN0,ha,hm,hb,hA,hx,h10,hlen,hn⟩:=HX.out
        obtain ⟨h1,h3,h4,h5⟩:=HI.out
        have e:P++(A.take n++y::(A.drop n++S))=P++(A++([y]++S)):=by
          rw[List.take_of_length_le (by omega),List.drop_of_length_le (by omega)];rfl
        refine ⟨H,[],by omega,Nat.le_refl _,⟨?_,by simp,fun _=>e⟩,?_⟩
        · rw[e];exact hq.same.symm
        · rw[show a+n=m by omega]
          unfold sy6
          exact inwP
      · rintro u st ⟨G,tc,hiu,hun,hG,rfl⟩
        obtain ⟨hq,hN0,ha,hm,hb,hA,hx,h10,hlen,hn⟩:=HX.out
        obtain ⟨h1,h3,h4,h5⟩:=HI.out
        have hql:=hq.lt
        have hGl:=hG.length
        by_cases hgt:i<a+u
        · obtain ⟨r,rfl⟩:∃ r,u=r+1:=⟨u - 1,by omega⟩
          have hrA:r<A.length:=by omega
          have hd:A.drop r=A[r]::A.drop (r+1):=List.drop_eq_getElem_cons hrA
          have ht:A.take (r+1)=A.take r++[A[r]]:=List.take_succ_eq_append_getElem hrA
          rw[ht] at hG
          have harr:P++((A.take r++[A[r]])++y::(A.drop (r+1)++S))=(P++A.take r)++A[r]::y::(A.drop (r+1)++S):=Srt2.app_one _ _ _ _ _
          have harr2:P++(A.take r++y::(A.drop r++S))=(P++A.take r)++y::A[r]::(A.drop (r+1)++S):=by rw[hd];exact Srt2.app_two _ _ _ _ _
          rw[harr] at hG
          have hHG:=hG.hb hq
          have hQ:(P++A.take r).length=a+r:=by simp only[List.length_append,List.length_take];omega
          have hal:((P++A.take r)++A[r]::y::(A.drop (r+1)++S)).length=N:=by
            rw[← hlen];simp only[List.length_append,List.length_cons,List.length_take,List.length_drop];omega
          have hfin0:∀ G2 tc2,InB H q (P++(A++([y]++S))) ((P++A.take r)++y::A[r]::(A.drop (r+1)++S)) G2 tc2→∃ q',q'<r+1∧∃ G tc,i≤a+q'∧q'≤n∧InB H q (P++(A++([y]++S))) (P++(A.take q'++y::(A.drop q'++S))) G tc∧a+q'=a+r∧G=G2∧tc=tc2:=fun G2 tc2 h=>
            ⟨r,by omega,G2,tc2,by omega,by omega,by rw[harr2];exact h,rfl,rfl,rfl⟩
          generalize A[r]=z at *
          obtain ⟨k,hk⟩:∃ k,a+r=k:=⟨_,rfl⟩
          obtain ⟨k1,hk1⟩:∃ k1,k+1=k1:=⟨_,rfl⟩
          rw[← Nat.add_assoc a r 1,hk,hk1]
          rw[hk] at hQ hfin0
          have hkN:k+1<N:=by omega
          have r1:=us_get (l:=(P++A.take r)++z::y::(A.drop (r+1)++S)) (i:=k) (by omega)
          have r2:=us_get (l:=(P++A.take r)++z::y::(A.drop (r+1)++S)) (i:=k1) (by omega)
          have s1:=us_set (l:=(P++A.take r)++z::y::(A.drop (r+1)++S)) (i:=k1) (by omega) z
          have s2:=us_set (l:=((P++A.take r)++z::y::(A.drop (r+1)++S)).set k1 z) (i:=k) (by rw[List.length_set];omega) y
          have hl1:(us ((P++A.take r)++z::y::(A.drop (r+1)++S))).length=N:=by rw[us_len,hal]
          have hl2:(us (((P++A.take r)++z::y::(A.drop (r+1)++S)).set k1 z)).length=N:=by rw[us_len,List.length_set,hal]
          have hsw:=Srt2.swap_at (P++A.take r) (A.drop (r+1)++S) z y
          have g1:=Srt2.getD_at (P++A.take r) (y::(A.drop (r+1)++S)) z
          have g2:=Srt2.getD_at1 (P++A.take r) (A.drop (r+1)++S) z y
          rw[hQ,hk1] at hsw g2
          rw[hQ] at g1
          rw[g1] at r1
          rw[g2] at r2
          rw[hsw] at s2
          generalize (P++A.take r)++z::y::(A.drop (r+1)++S)=arr at *
          generalize (P++A.take r)++y::z::(A.drop (r+1)++S)=arr2 at *
          generalize arr.set k1 z=arr1 at *
          have r1':=ge_of r1
          have r2':=ge_of r2
          have f1:(k:Int)<N:=by omega
          have f2:(k1:Int)<N:=by omega
          have f3:k+1≤N:=by omega
          have f4:k1+1≤N:=by omega
          have f5:(i:Int)<k1:=by omega
          have f6:i<k1:=by omega
          have w3:IntKind.i64.wrap ((k1:Int) - 1)=(k:Int):=by rw[show (k:Int)=(k1:Int) - 1 by omega];exact zaf (by omega) (by omega)
          have hfin := hfin0 (G.set q (.cells (us arr2))) (q :: q :: tc) ⟨by rw [hG.1, List.set_set], fun j hj => by
            rcases List.mem_cons.1 hj with rfl|hj
            · rfl
            · rcases List.mem_cons.1 hj with rfl|hj
              · rfl
              · exact hG.2.1 j hj,fun h=>by cases h⟩
          have HF:=hideP hfin
          obtain ⟨A1,A2,A3⟩:=hHG
          clear hfin hfin0 hG hq hN0 ha hm hb hA hx h10 hlen h1 h3 h4 h5 hn hrA hd ht harr harr2 hQ hal hk hk1 hkN hsw g1 g2 hiu hun hgt hGl
          unfold sy6
          refine gB ?_
          obtain ⟨q',e1,G2,tc2,e2,e3,e4,e5,rfl,rfl⟩:=HF.out
          refine ⟨q',e1,_,_,e2,e3,e4,?_⟩
          rw[e5]
          exact inwP
        · have hui:a+u=i:=by omega
          have hfin:SymP H q P A [y] S (.tup []) G tc:=by
            refine ⟨rfl,A.take u++y::A.drop u,by simpa using hG,Srt2.put_sorted (by rw[List.take_append_drop];exact hA) (fun z hz=>?_) (fun z hz=>?_),?_⟩
            · obtain ⟨t,ht,rfl⟩:=List.getElem_of_mem hz
              rw[List.length_take] at ht
              rw[List.getElem_take]
              exact h4 t (by omega) (by omega)
            · obtain ⟨t,ht,rfl⟩:=List.getElem_of_mem hz
              rw[List.length_drop] at ht
              rw[List.getElem_drop]
              exact h5 (u+t) (by omega) (by omega)
            · have:=(List.perm_middle (l₁:=A.take u) (a:=y) (l₂:=A.drop u))
              rw[List.take_append_drop] at this
              exact this.trans (List.perm_append_singleton y A).symm
          have HF:=hideP hfin
          have hgl:H.length≤G.length:=by omega
          rw[hui]
          have f6:¬ (i<i):=by omega
          clear hfin hG hq hN0 ha hm hb hA hx h10 hlen h1 h3 h4 h5 hn hiu hun hgt hGl hui
          unfold sy6
          refine gB ?_
          exact zac (v:=.tup []) (.inl rfl) rfl hgl (by simp only[resL];simp[*,resV]) HF.out
end K
end Ev
namespace Srt2
theorem Sep.sub {A B A' B':List Nat}(h:Sep A B)(h1:∀ x∈A',x∈A)(h2:∀ x∈B',x∈B):Sep A' B':=fun x hx y hy=>h x (h1 x hx) y (h2 y hy)
end Srt2
namespace Ev
namespace K
attribute [local simp] ev1 wantG spineK spine float xnew xval xeff zab zae zau zah zai addFl cellsOf pickC alive slLen slFt binI maxA maxK minA minK aeqK aeqS AV.cells spA zad fillA setAt bitsI nat_nn zav AV.plain apart
set_option maxRecDepth 100000
set_option maxHeartbeats 4000000
def SymC (call:CallF)(cf d:Nat):Prop:=∀ (H:List AB) (q N a m b:Nat) (P A B S:List Nat),HB H q (.cells (us (P++(A++(B++S)))))→(P++(A++(B++S))).length=N→N≤100000→P.length=a→a+A.length=m→m+B.length=b→A≠[]→B≠[]→A.length+B.length≤2 ^ d→Srt2.Sorted A→Srt2.Sorted B→Srt2.Sep A B→(∀ x∈A,x<1024)→(∀ x∈B,x<1024) →
  ∃ tc L,call (.fn (.func 120) [] []) [.sl q 0 N 1,.int .i64 a,.int .i64 m,.int .i64 b,.fn (.func cf) [] []] H=some (.ret (.tup []),H.set q (.cells (us (P++(L++S)))),tc)∧(∀ j∈tc,j=q)∧(tc=[]→P++(L++S)=P++(A++(B++S)))∧Srt2.Sorted L∧L.Perm (A++B)
theorem zsd {call:CallF}{cf d:Nat}(hS:SymC call cf d)(H G:List AB)(q N a m b:Nat)(l0 P A B S:List Nat)(tc:List Nat)(hq:q<H.length)(hG:InB H q l0 (P++(A++(B++S))) G tc)(hHG:HB G q (.cells (us (P++(A++(B++S))))))(hN0:(P++(A++(B++S))).length=N)(hN:N≤100000)(ha:P.length=a)(hm:a+A.length=m)(hb:m+B.length=b)(hd:A.length+B.length≤2 ^ d)(hA:Srt2.Sorted A)(hB:Srt2.Sorted B)(hs:Srt2.Sep A B)(h1:∀ x∈A,x<1024)(h2:∀ x∈B,x<1024):
    ∃ L G' tc',InB H q l0 (P++(L++S)) G' tc'∧Srt2.Sorted L∧L.Perm (A++B)∧((¬ a<m∧G'=G∧tc'=tc)∨(a<m∧¬ m<b∧G'=G∧tc'=tc)∨(a<m∧m<b∧∃ t,call (.fn (.func 120) [] []) [.sl q 0 N 1,.int .i64 a,.int .i64 m,.int .i64 b,.fn (.func cf) [] []] G=some (.ret (.tup []),G',t)∧tc'=t.filter (fun x=>decide (x<H.length))++tc)):=by
  by_cases hA0:A=[]
  · subst hA0
    exact ⟨B,G,tc,hG,hB,by simp,.inl ⟨by simp at hm;omega,rfl,rfl⟩⟩
  · have hl:=List.length_pos_iff.2 hA0
    by_cases hB0:B=[]
    · subst hB0
      exact ⟨A,G,tc,hG,hA,by simp,.inr (.inl ⟨by omega,by simp at hb;omega,rfl,rfl⟩)⟩
    · have hl2:=List.length_pos_iff.2 hB0
      obtain ⟨t,L,c1,c2,c3,c4,c5⟩:=hS G q N a m b P A B S hHG hN0 hN ha hm hb hA0 hB0 hd hA hB hs h1 h2
      exact ⟨L,_,_,hG.step hq c2 c3,c4,c5,.inr (.inr ⟨by omega,by omega,t,c1,rfl⟩)⟩
theorem sym_t3 (C:Cfg)(call:CallF)(cf d:Nat)(hS:SymC call cf d)(H:List AB)(q N mid e b:Nat)(P A B M1 A2 B2 S:List Nat)(l0:List Nat)(hl0:l0=P++(A++(B++S)))(hq:HB H q (.cells (us l0)))(G:List AB)(tc:List Nat)(hG:InB H q l0 ((P++M1)++(A2++(B2++S))) G tc)(hN0:((P++M1)++(A2++(B2++S))).length=N)(hN:N≤100000)(ha:(P++M1).length=mid)(hm:mid+A2.length=e)(hb:e+B2.length=b)(hd:A2.length+B2.length≤2 ^ d)(hA:Srt2.Sorted A2)(hB:Srt2.Sorted B2)(hs:Srt2.Sep A2 B2)(h1:∀ x∈A2,x<1024)(h2:∀ x∈B2,x<1024)
    (hj:∀ M2,Srt2.Sorted M2→M2.Perm (A2++B2)→Srt2.Sorted (M1++M2)∧(M1++M2).Perm (A++B))
    (L:List (Nat × AV)) (L0:lk 220 L 0=.sl q 0 N 1) (L3:lk 220 L 3=.int .i64 b) (L4:lk 220 L 4=.fn (.func cf) [] []) (L18:lk 220 L 18=.int .i64 mid) (L24:lk 220 L 24=.int .i64 e):
    Does (ev C call H.length none (atP [1,1,1,1,1,1,1,1,1,1,1] af120.body) { tm:=tmA 220 L,df:=[],hp:=G,tc:=tc })
      (Ends C H.length af120.res (SymP H q P A B S)):=by
  have m0:val C (tmA 220 L) (.tmp 0)=.sl q 0 N 1:=L0
  have m3:val C (tmA 220 L) (.tmp 3)=.int .i64 b:=L3
  have m4:val C (tmA 220 L) (.tmp 4)=.fn (.func cf) [] []:=L4
  have m18:val C (tmA 220 L) (.tmp 18)=.int .i64 mid:=L18
  have m24:val C (tmA 220 L) (.tmp 24)=.int .i64 e:=L24
  obtain ⟨M2,G',tc',f1,f2,f3,f4⟩:=zsd hS H G q N mid e b l0 (P++M1) A2 B2 S tc hq.lt hG (hG.hb hq) hN0 hN ha hm hb hd hA hB hs h1 h2
  obtain ⟨j1,j2⟩:=hj M2 f2 f3
  have hfin:SymP H q P A B S (.tup []) G' tc':=⟨rfl,M1++M2,by rw[← hl0];simpa using f1,j1,j2⟩
  have hgl:H.length≤G'.length:=by have:=f1.length;omega
  have HF:=hideP hfin
  clear hfin hS hl0 hq hG hN0 hN ha hm hb hd hA hB hs h1 h2 hj f1 f2 f3 j1 j2 L0 L3 L4 L18 L24
  unfold af120 Zq Zm Zo Zd Ze Zc Zt Zn
  simp only[atP]
  rcases f4 with ⟨f4,rfl,rfl⟩|⟨f4,f5,rfl,rfl⟩|⟨f4,f5,t,f6,rfl⟩
  · (refine gB ?_)
    exact zac (v:=.tup []) (.inr rfl) rfl hgl (by simp only[resL];simp[*,resV]) HF.out
  · (refine gB ?_)
    exact zac (v:=.tup []) (.inr rfl) rfl hgl (by simp only[resL];simp[*,resV]) HF.out
  · (refine gB ?_)
    exact zac (v:=.tup []) (.inr rfl) rfl hgl (by simp only[resL];simp[*,resV]) HF.out
theorem sym_t2 (C:Cfg)(call:CallF)(cf d:Nat)(hS:SymC call cf d)(H:List AB)(q N a start mid e b:Nat)(P A B A1 B1 A2 B2 S:List Nat)(l0:List Nat)(hl0:l0=P++(A++(B++S)))(hq:HB H q (.cells (us l0)))(G:List AB)(tc:List Nat)(hG:InB H q l0 (P++(A1++(B1++(A2++(B2++S))))) G tc)(hN0:(P++(A1++(B1++(A2++(B2++S))))).length=N)(hN:N≤100000)(ha:P.length=a)(hst:a+A1.length=start)(hmid:start+B1.length=mid)(hm:mid+A2.length=e)(hb:e+B2.length=b)(hd1:A1.length+B1.length≤2 ^ d)(hd:A2.length+B2.length≤2 ^ d)(hA1:Srt2.Sorted A1)(hB1:Srt2.Sorted B1)(hA:Srt2.Sorted A2)(hB:Srt2.Sorted B2)(hs1:Srt2.Sep A1 B1)(hs:Srt2.Sep A2 B2)(h10:∀ x,x∈A1∨x∈B1∨x∈A2∨x∈B2→x<1024)
    (hj:∀ M1 M2,Srt2.Sorted M1→M1.Perm (A1++B1)→Srt2.Sorted M2→M2.Perm (A2++B2)→Srt2.Sorted (M1++M2)∧(M1++M2).Perm (A++B))
    (L:List (Nat × AV)) (L0:lk 220 L 0=.sl q 0 N 1) (L1:lk 220 L 1=.int .i64 a) (L3:lk 220 L 3=.int .i64 b) (L4:lk 220 L 4=.fn (.func cf) [] []) (L18:lk 220 L 18=.int .i64 mid) (L20:lk 220 L 20=.int .i64 start) (L24:lk 220 L 24=.int .i64 e):
    Does (ev C call H.length none (atP [1,1,1,1,1,1,1,1,1,1] af120.body) { tm:=tmA 220 L,df:=[],hp:=G,tc:=tc })
      (Ends C H.length af120.res (SymP H q P A B S)):=by
  have m0:val C (tmA 220 L) (.tmp 0)=.sl q 0 N 1:=L0
  have m1:val C (tmA 220 L) (.tmp 1)=.int .i64 a:=L1
  have m3:val C (tmA 220 L) (.tmp 3)=.int .i64 b:=L3
  have m4:val C (tmA 220 L) (.tmp 4)=.fn (.func cf) [] []:=L4
  have m18:val C (tmA 220 L) (.tmp 18)=.int .i64 mid:=L18
  have m20:val C (tmA 220 L) (.tmp 20)=.int .i64 start:=L20
  have m24:val C (tmA 220 L) (.tmp 24)=.int .i64 e:=L24
  obtain ⟨M1,G',tc',f1,f2,f3,f4⟩:=zsd hS H G q N a start mid l0 P A1 B1 (A2++(B2++S)) tc hq.lt hG (hG.hb hq) hN0 hN ha hst hmid hd1 hA1 hB1 hs1 (fun x hx=>h10 x (.inl hx)) (fun x hx=>h10 x (.inr (.inl hx)))
  have hMl:=f3.length_eq
  have hend:=sym_t3 C call cf d hS H q N mid e b P A B M1 A2 B2 S l0 hl0 hq G' tc' (by rw[List.append_assoc];exact f1) (by rw[← hN0];simp only[List.length_append] at hMl ⊢;omega) hN (by simp only[List.length_append] at hMl ⊢;omega) hm hb hd hA hB hs (fun x hx=>h10 x (.inr (.inr (.inl hx)))) (fun x hx=>h10 x (.inr (.inr (.inr hx)))) (fun M2=>hj M1 M2 f2 f3)
  unfold af120 Zq Zm Zo Zd Ze Zc Zt Zn at hend
  simp only[atP] at hend
  have HE:=hideP hend
  clear hend hS hl0 hq hG hN0 hN ha hst hmid hm hb hd hd1 hA1 hB1 hA hB hs hs1 h10 hj f1 f2 f3 hMl
  unfold af120 Zq Zm Zo Zd Ze Zc Zt Zn
  simp only[atP]
  rcases f4 with ⟨f4,rfl,rfl⟩|⟨f4,f5,rfl,rfl⟩|⟨f4,f5,t,f6,rfl⟩
  · (repeat (first|(with_reducible refine HE.out _ ?_ ?_ ?_ ?_ ?_<;>simp[*,zal])|((with_reducible apply zak);(focus ((with_reducible apply zba);(focus rfl);(focus rfl);(focus ((conv=>lhs;simp[*,List.getElem?_append_right,List.set_append_right,List.getElem?_cons_zero,List.getElem?_append_left,List.set_append_left,-getElem?_pos,Nat.testBit_eq_decide_div_mod_eq])<;>exact rfl));(focus rfl);(focus rfl)));simp only[addFl])|(with_reducible apply zak;(focus ((conv=>lhs;simp[*,List.getElem?_append_right,List.set_append_right,List.getElem?_cons_zero,List.getElem?_append_left,List.set_append_left,-getElem?_pos,Nat.testBit_eq_decide_div_mod_eq])<;>exact rfl));simp only[addFl])|((with_reducible first|apply zaw|apply zay|apply zas|apply zaq|apply zao|apply zax|apply zar|apply zaz|(apply zap;· simp[*,zab])|(apply zam;· simp[*,zab]));try simp only[Then,Ops])|simp only[Nat.reduceEqDiff,reduceIte,OutB,Then]))
  · (repeat (first|(with_reducible refine HE.out _ ?_ ?_ ?_ ?_ ?_<;>simp[*,zal])|((with_reducible apply zak);(focus ((with_reducible apply zba);(focus rfl);(focus rfl);(focus ((conv=>lhs;simp[*,List.getElem?_append_right,List.set_append_right,List.getElem?_cons_zero,List.getElem?_append_left,List.set_append_left,-getElem?_pos,Nat.testBit_eq_decide_div_mod_eq])<;>exact rfl));(focus rfl);(focus rfl)));simp only[addFl])|(with_reducible apply zak;(focus ((conv=>lhs;simp[*,List.getElem?_append_right,List.set_append_right,List.getElem?_cons_zero,List.getElem?_append_left,List.set_append_left,-getElem?_pos,Nat.testBit_eq_decide_div_mod_eq])<;>exact rfl));simp only[addFl])|((with_reducible first|apply zaw|apply zay|apply zas|apply zaq|apply zao|apply zax|apply zar|apply zaz|(apply zap;· simp[*,zab])|(apply zam;· simp[*,zab]));try simp only[Then,Ops])|simp only[Nat.reduceEqDiff,reduceIte,OutB,Then]))
  · (repeat (first|(with_reducible refine HE.out _ ?_ ?_ ?_ ?_ ?_<;>simp[*,zal])|((with_reducible apply zak);(focus ((with_reducible apply zba);(focus rfl);(focus rfl);(focus ((conv=>lhs;simp[*,List.getElem?_append_right,List.set_append_right,List.getElem?_cons_zero,List.getElem?_append_left,List.set_append_left,-getElem?_pos,Nat.testBit_eq_decide_div_mod_eq])<;>exact rfl));(focus rfl);(focus rfl)));simp only[addFl])|(with_reducible apply zak;(focus ((conv=>lhs;simp[*,List.getElem?_append_right,List.set_append_right,List.getElem?_cons_zero,List.getElem?_append_left,List.set_append_left,-getElem?_pos,Nat.testBit_eq_decide_div_mod_eq])<;>exact rfl));simp only[addFl])|((with_reducible first|apply zaw|apply zay|apply zas|apply zaq|apply zao|apply zax|apply zar|apply zaz|(apply zap;· simp[*,zab])|(apply zam;· simp[*,zab]));try simp only[Then,Ops])|simp only[Nat.reduceEqDiff,reduceIte,OutB,Then]))
theorem sym_t1 (C:Cfg)(call:CallF)(cf d:Nat)(hS:SymC call cf d)(hR:RotC call)(H:List AB)(q N a start m mid n e b:Nat)(P A B A1 B1 A2 B2 S:List Nat)(hAe:A=A1++A2)(hBe:B=B1++B2)(hq:HB H q (.cells (us (P++(A++(B++S))))))(hN0:(P++(A++(B++S))).length=N)(hN:N≤100000)(ha:P.length=a)(hst:a+A1.length=start)(hm:start+A2.length=m)(hmid:start+B1.length=mid)(hn:mid+m=n)(he:m+B1.length=e)(hb:e+B2.length=b)(hd1:A1.length+B1.length≤2 ^ d)(hd:A2.length+B2.length≤2 ^ d)(hA:Srt2.Sorted A)(hB:Srt2.Sorted B)(hs:Srt2.Sep A B)(h10:∀ x,x∈A∨x∈B→x<1024)
    (c1:∀ x∈A1,∀ y∈B2,Srt2.LTs x y) (c2:∀ x∈B1,∀ y∈A2,Srt2.LTs x y)
    (L:List (Nat × AV)) (L0:lk 220 L 0=.sl q 0 N 1) (L1:lk 220 L 1=.int .i64 a) (L2:lk 220 L 2=.int .i64 m) (L3:lk 220 L 3=.int .i64 b) (L4:lk 220 L 4=.fn (.func cf) [] []) (L18:lk 220 L 18=.int .i64 mid) (L19:lk 220 L 19=.int .i64 n) (L20:lk 220 L 20=.int .i64 start):
    Does (ev C call H.length none (atP [1,1,1,1,1,1,1,1] af120.body) { tm:=tmA 220 L,df:=[],hp:=H,tc:=[] })
      (Ends C H.length af120.res (SymP H q P A B S)):=by
  have m0:val C (tmA 220 L) (.tmp 0)=.sl q 0 N 1:=L0
  have m1:val C (tmA 220 L) (.tmp 1)=.int .i64 a:=L1
  have m2:val C (tmA 220 L) (.tmp 2)=.int .i64 m:=L2
  have m3:val C (tmA 220 L) (.tmp 3)=.int .i64 b:=L3
  have m4:val C (tmA 220 L) (.tmp 4)=.fn (.func cf) [] []:=L4
  have m18:val C (tmA 220 L) (.tmp 18)=.int .i64 mid:=L18
  have m19:val C (tmA 220 L) (.tmp 19)=.int .i64 n:=L19
  have m20:val C (tmA 220 L) (.tmp 20)=.int .i64 start:=L20
  subst hAe hBe
  have hl:a+A1.length+A2.length+B1.length+B2.length+S.length=N:=by rw[← hN0,← ha];simp only[List.length_append];omega
  have w1:IntKind.i64.wrap ((n:Int) - start)=e:=by rw[show (n:Int) - start=e by omega];exact zaf (by omega) (by omega)
  have harr:P++((A1++A2)++((B1++B2)++S))=(P++A1)++(A2++(B1++(B2++S))):=by simp
  have key:∃ G tc,InB H q (P++((A1++A2)++((B1++B2)++S))) (P++(A1++(B1++(A2++(B2++S))))) G tc∧((¬ start<m∧G=H∧tc=[])∨(start<m∧¬ m<e∧G=H∧tc=[])∨(start<m∧m<e∧∃ t,call (.fn (.func 122) [] []) [.sl q 0 N 1,.int .i64 start,.int .i64 m,.int .i64 e,.fn (.func cf) [] []] H=some (.ret (.tup []),G,t)∧tc=t.filter (fun x=>decide (x<H.length)))):=by
    have h0:InB H q (P++((A1++A2)++((B1++B2)++S))) (P++((A1++A2)++((B1++B2)++S))) H []:=⟨hq.same.symm,by simp,fun _=>rfl⟩
    by_cases hA0:A2=[]
    · subst hA0
      refine ⟨H,[],?_,.inl ⟨by simp at hm;omega,rfl,rfl⟩⟩
      simpa using h0
    · have hl:=List.length_pos_iff.2 hA0
      by_cases hB0:B1=[]
      · subst hB0
        refine ⟨H,[],?_,.inr (.inl ⟨by omega,by simp at he;omega,rfl,rfl⟩)⟩
        simpa using h0
      · have hl2:=List.length_pos_iff.2 hB0
        obtain ⟨t,d1,d2,d3⟩:=hR H q N start m e (P++A1) A2 B1 (B2++S) (.fn (.func cf) [] []) (by rw[← harr];exact hq) (by rw[← harr];exact hN0) hN (by simp only[List.length_append];omega) (by simp only[List.length_append];omega) (by simp only[List.length_append];omega) hA0 hB0
        rw[List.append_assoc] at d1
        exact ⟨_,_,by have:=h0.step (l':=P++(A1++(B1++(A2++(B2++S))))) hq.lt d2 (fun h=>absurd h d3);rw[List.append_nil] at this;exact this,.inr (.inr ⟨by omega,by omega,t,d1,rfl⟩)⟩
  obtain ⟨G,tc,f1,f4⟩:=key
  have hAp:=List.pairwise_append.1 hA
  have hBp:=List.pairwise_append.1 hB
  have hend:=sym_t2 C call cf d hS H q N a start mid e b P (A1++A2) (B1++B2) A1 B1 A2 B2 S _ rfl hq G tc f1 (by simp only[List.length_append];omega) hN ha hst hmid (by omega) hb hd1 hd hAp.1 hBp.1 hAp.2.1 hBp.2.1 (hs.sub (fun x hx=>by simp[hx]) (fun x hx=>by simp[hx])) (hs.sub (fun x hx=>by simp[hx]) (fun x hx=>by simp[hx])) (fun x hx=>h10 x (by simp only[List.mem_append];rcases hx with h|h|h|h<;>simp[h])) (fun M1 M2 s1 p1 s2 p2=>Srt2.sorted_join hA hB c1 c2 s1 s2 p1 p2)
  unfold af120 Zq Zm Zo Zd Ze Zc Zt Zn at hend
  simp only[atP] at hend
  have HE:=hideP hend
  clear hend hS hR hq hN0 hN ha hst hmid hm hb hd hd1 hA hB hs h10 c1 c2 hl harr f1 hAp hBp hn he
  unfold af120 Zq Zm Zo Zd Ze Zc Zt Zn
  simp only[atP]
  rcases f4 with ⟨f4,rfl,rfl⟩|⟨f4,f5,rfl,rfl⟩|⟨f4,f5,t,f6,rfl⟩
  · (repeat (first|(with_reducible refine HE.out _ ?_ ?_ ?_ ?_ ?_ ?_ ?_<;>simp[*,zal])|((with_reducible apply zak);(focus ((with_reducible apply zba);(focus rfl);(focus rfl);(focus ((conv=>lhs;simp[*,List.getElem?_append_right,List.set_append_right,List.getElem?_cons_zero,List.getElem?_append_left,List.set_append_left,-getElem?_pos,Nat.testBit_eq_decide_div_mod_eq])<;>exact rfl));(focus rfl);(focus rfl)));simp only[addFl])|(with_reducible apply zak;(focus ((conv=>lhs;simp[*,List.getElem?_append_right,List.set_append_right,List.getElem?_cons_zero,List.getElem?_append_left,List.set_append_left,-getElem?_pos,Nat.testBit_eq_decide_div_mod_eq])<;>exact rfl));simp only[addFl])|((with_reducible first|apply zaw|apply zay|apply zas|apply zaq|apply zao|apply zax|apply zar|apply zaz|(apply zap;· simp[*,zab])|(apply zam;· simp[*,zab]));try simp only[Then,Ops])|simp only[Nat.reduceEqDiff,reduceIte,OutB,Then]))
  · (repeat (first|(with_reducible refine HE.out _ ?_ ?_ ?_ ?_ ?_ ?_ ?_<;>simp[*,zal])|((with_reducible apply zak);(focus ((with_reducible apply zba);(focus rfl);(focus rfl);(focus ((conv=>lhs;simp[*,List.getElem?_append_right,List.set_append_right,List.getElem?_cons_zero,List.getElem?_append_left,List.set_append_left,-getElem?_pos,Nat.testBit_eq_decide_div_mod_eq])<;>exact rfl));(focus rfl);(focus rfl)));simp only[addFl])|(with_reducible apply zak;(focus ((conv=>lhs;simp[*,List.getElem?_append_right,List.set_append_right,List.getElem?_cons_zero,List.getElem?_append_left,List.set_append_left,-getElem?_pos,Nat.testBit_eq_decide_div_mod_eq])<;>exact rfl));simp only[addFl])|((with_reducible first|apply zaw|apply zay|apply zas|apply zaq|apply zao|apply zax|apply zar|apply zaz|(apply zap;· simp[*,zab])|(apply zam;· simp[*,zab]));try simp only[Then,Ops])|simp only[Nat.reduceEqDiff,reduceIte,OutB,Then]))
  · (repeat (first|(with_reducible refine HE.out _ ?_ ?_ ?_ ?_ ?_ ?_ ?_<;>simp[*,zal])|((with_reducible apply zak);(focus ((with_reducible apply zba);(focus rfl);(focus rfl);(focus ((conv=>lhs;simp[*,List.getElem?_append_right,List.set_append_right,List.getElem?_cons_zero,List.getElem?_append_left,List.set_append_left,-getElem?_pos,Nat.testBit_eq_decide_div_mod_eq])<;>exact rfl));(focus rfl);(focus rfl)));simp only[addFl])|(with_reducible apply zak;(focus ((conv=>lhs;simp[*,List.getElem?_append_right,List.set_append_right,List.getElem?_cons_zero,List.getElem?_append_left,List.set_append_left,-getElem?_pos,Nat.testBit_eq_decide_div_mod_eq])<;>exact rfl));simp only[addFl])|((with_reducible first|apply zaw|apply zay|apply zas|apply zaq|apply zao|apply zax|apply zar|apply zaz|(apply zap;· simp[*,zab])|(apply zam;· simp[*,zab]));try simp only[Then,Ops])|simp only[Nat.reduceEqDiff,reduceIte,OutB,Then]))
def sy8 (q N a m b cf mid n p i j:Nat)(G:List AB)(tc:List Nat):St:={ tm:=tmA 220 [(22,.int .i64 p),(21,.int .i64 j),(20,.int .i64 i),(19,.int .i64 n),(18,.int .i64 mid),(4,.fn (.func cf) [] []),(3,.int .i64 b),(2,.int .i64 m),(1,.int .i64 a),(0,.sl q 0 N 1)],df:=[],hp:=G,tc:=tc }
theorem zhq (C:Cfg)(hC:C.calm=true)(call:CallF)(cf d:Nat)(hK:CmpC call cf)(hS:SymC call cf d)(hR:RotC call)(H:List AB)(q N a m mid n p b s0 r0:Nat)(P A B S:List Nat)(hq:HB H q (.cells (us (P++(A++(B++S))))))(hN0:(P++(A++(B++S))).length=N)(hN:N≤100000)(ha:P.length=a)(hm:a+A.length=m)(hb:m+B.length=b)(hmid:(a+b) / 2=mid)(hn:mid+m=n)(hp:p+1=n)(hs0:s0=a∨s0+b=n)(hr0:r0=mid∨r0=m)(hs1:a≤s0)(hs2:n≤s0+b)(hr1:r0≤mid)(hr2:r0≤m)(hsr:s0≤r0)(hd:A.length+B.length≤2 ^ (d+1))(h2:2≤A.length+B.length)(hA:Srt2.Sorted A)(hB:Srt2.Sorted B)(hs:Srt2.Sep A B)(h10:∀ x,x∈A∨x∈B→x<1024)
    (L:List (Nat × AV)) (L0:lk 220 L 0=.sl q 0 N 1) (L1:lk 220 L 1=.int .i64 a) (L2:lk 220 L 2=.int .i64 m) (L3:lk 220 L 3=.int .i64 b) (L4:lk 220 L 4=.fn (.func cf) [] []) (L18:lk 220 L 18=.int .i64 mid) (L19:lk 220 L 19=.int .i64 n) (L20:lk 220 L 20=.int .i64 s0) (L21:lk 220 L 21=.int .i64 r0) (L22:lk 220 L 22=.int .i64 p):
    Does (ev C call H.length none (atP [1,1,1,1,1,1,1] af120.body) { tm:=tmA 220 L,df:=[],hp:=H,tc:=[] })
      (Ends C H.length af120.res (SymP H q P A B S)):=by
  have hlen:a+A.length+B.length+S.length=N:=by rw[← hN0,← ha];simp only[List.length_append];omega
  have hpow:2 ^ (d+1)=2 * 2 ^ d:=by rw[Nat.pow_succ];omega
  have HX:=hideP (And.intro hq (And.intro hN0 (And.intro ha (And.intro hm (And.intro hb (And.intro hA (And.intro hB (And.intro hs (And.intro h10 (And.intro hlen (And.intro hS hR)))))))))))
  have HI:=hideP (And.intro hmid (And.intro hn (And.intro hp (And.intro hs0 (And.intro hr0 (And.intro hs1 (And.intro hs2 (And.intro hr1 (And.intro hr2 (And.intro hsr (And.intro hd (And.intro h2 hpow))))))))))))
  clear hq hN0 ha hm hb hA hB hs h10 hlen hS hR hmid hn hp hs0 hr0 hs1 hs2 hr1 hr2 hsr hd h2 hpow
  unfold af120 Zq Zm Zo Zd Ze Zc Zt Zn
  simp only[atP] at *
  refine gB ?_
  with_reducible refine zcc hC (r0 - s0) (by obtain ⟨-,-,ha,hm,hb,-,-,-,-,hlen,-,-⟩:=HX.out;obtain ⟨hmid,hn,hp,hs0,hr0,hs1,hs2,hr1,hr2,hsr,hd,h2,hpow⟩:=HI.out;unfold fuelL;omega) (fun k st=>∃ i j,k=j - i∧s0≤i∧i≤j∧j≤r0∧(∀ t u (h:t<A.length) (h':u<B.length),s0≤a+t→a+t<i→a+t+(m+u)=p→Srt2.LTs A[t] B[u])∧(∀ t u (h:t<A.length) (h':u<B.length),j≤a+t→a+t<r0→a+t+(m+u)=p→Srt2.LTs B[u] A[t])∧st=sy8 q N a m b cf mid n p i j H []) ?_ ?_
  · obtain ⟨hq,hN0,ha,hm,hb,hA,hB,hs,h10,hlen,hS,hR⟩:=HX.out
    obtain ⟨hmid,hn,hp,hs0,hr0,hs1,hs2,hr1,hr2,hsr,hd,h2,hpow⟩:=HI.out
    refine ⟨s0,r0,rfl,Nat.le_refl _,hsr,Nat.le_refl _,fun t u h h' h1 h2=>by omega,fun t u h h' h1 h2=>by omega,?_⟩
    unfold sy8
    exact st_eq (by simp[*,zag]) rfl (by simp) (by simp)
  · rintro k st ⟨i,j,hk,h1,h3,h4,h5,h6,rfl⟩
    obtain ⟨hq,hN0,ha,hm,hb,hA,hB,hs,h10,hlen,hS,hR⟩:=HX.out
    obtain ⟨hmid,hn,hp,hs0,hr0,hs1,hs2,hr1,hr2,hsr,hd,h2,hpow⟩:=HI.out
    by_cases hij:i<j
    · obtain ⟨f1,f2,f3,f4,f5⟩:=zgi (i:=i) (j:=j) (by omega)
      obtain ⟨h,hh⟩:∃ h,(i+j) / 2=h:=⟨_,rfl⟩
      rw[hh] at f3 f4 f5
      have hlo:i≤h:=by omega
      have hhi:h<j:=by omega
      have ht:h - a<A.length:=by omega
      have hu:mid - 1 - h<B.length:=by omega
      obtain ⟨ph,hph⟩:∃ ph,ph+h=p:=⟨p - h,by omega⟩
      have w1:IntKind.i64.wrap ((p:Int) - h)=ph:=by rw[show (p:Int) - h=ph by omega];exact zaf (by omega) (by omega)
      have hgz:(P++(A++(B++S))).getD h 0=A[h - a]:=by
        rw[List.getD_eq_getElem?_getD,List.getElem?_append_right (by omega),List.getElem?_append_left (by omega),ha,List.getElem?_eq_getElem ht];rfl
      have hgx:(P++(A++(B++S))).getD ph 0=B[mid - 1 - h]:=by
        rw[List.getD_eq_getElem?_getD,List.getElem?_append_right (by omega),List.getElem?_append_right (by omega),List.getElem?_append_left (by omega),show ph - P.length - A.length=mid - 1 - h by omega,List.getElem?_eq_getElem hu];rfl
      have r1:=us_get (l:=P++(A++(B++S))) (i:=h) (by omega)
      have r2:=us_get (l:=P++(A++(B++S))) (i:=ph) (by omega)
      rw[hgz] at r1
      rw[hgx] at r2
      have hz:=hs _ (List.getElem_mem ht) _ (List.getElem_mem hu)
      have hz1:=h10 _ (.inl (List.getElem_mem ht))
      have hz2:=h10 _ (.inr (List.getElem_mem hu))
      have hlt:=Srt2.lts_right hz
      have hge:=Srt2.lts_left hz
      have hup:Srt2.LTs A[h - a] B[mid - 1 - h]→∀ t u (h1:t<A.length) (h2:u<B.length),s0≤a+t→a+t<h+1→a+t+(m+u)=p→Srt2.LTs A[t] B[u]:=fun hl t u h' h'' h7 h8 h9=>
        Srt2.or_lts (Srt2.lts_or (Srt2.sorted_get hA h' ht (by omega)) hl) (Srt2.sorted_get hB hu h'' (by omega))
      have hdn:Srt2.LTs B[mid - 1 - h] A[h - a]→∀ t u (h1:t<A.length) (h2:u<B.length),h≤a+t→a+t<r0→a+t+(m+u)=p→Srt2.LTs B[u] A[t]:=fun hl t u h' h'' h7 h8 h9=>
        Srt2.or_lts (Srt2.lts_or (Srt2.sorted_get hB h'' hu (by omega)) hl) (Srt2.sorted_get hA ht h' (by omega))
      generalize A[h - a]=z at *
      generalize B[mid - 1 - h]=y at *
      have hc:=fun H=>hK H y z hz2 hz1
      have hul:(us (P++(A++(B++S)))).length=N:=by rw[us_len,hN0]
      obtain ⟨A1,A2,A3⟩:=hq
      generalize us (P++(A++(B++S)))=arr at *
      have r1':=ge_of r1
      have r2':=ge_of r2
      have g1:(h:Int)<N:=by omega
      have g2:(ph:Int)<N:=by omega
      have g3:h+1≤N:=by omega
      have g4:ph+1≤N:=by omega
      have g5:(i:Int)<j:=by omega
      have g6:IntKind.i64.wrap ((h:Int)+1)=h+1:=zaf (by omega) (by omega)
      by_cases hsz:Clm.sizeN y<Clm.sizeN z
      · have hfin:∃ q',q'<k∧∃ i' j',q'=j' - i'∧s0≤i'∧i'≤j'∧j'≤r0∧(∀ t u (h:t<A.length) (h':u<B.length),s0≤a+t→a+t<i'→a+t+(m+u)=p→Srt2.LTs A[t] B[u])∧(∀ t u (h:t<A.length) (h':u<B.length),j'≤a+t→a+t<r0→a+t+(m+u)=p→Srt2.LTs B[u] A[t])∧i'=i∧j'=h:=
          ⟨h - i,by omega,i,h,rfl,by omega,by omega,by omega,h5,hdn (hlt.2 hsz),rfl,rfl⟩
        have HF:=hideP hfin
        have hd:(Clm.sizeN y:Int) - Clm.sizeN z<0:=by omega
        generalize (Clm.sizeN y:Int) - Clm.sizeN z=d at *
        generalize i+j=s at *
        clear hfin hK hk h1 h2 h3 h4 h5 h6 hup hdn hlt hge hz hz1 hz2 hs hsz hgz hgx hlo hhi ht hu hN0 ha hm hb hA hB h10 hlen hh hS hR hmid hn hp hs0 hr0 hs1 hs2 hr1 hr2 hsr hph hpow
        unfold sy8
        refine gB ?_
        obtain ⟨q',e1,i',j',e2,e3,e4,e5,e6,e7,rfl,rfl⟩:=HF.out
        refine ⟨q',e1,_,_,e2,e3,e4,e5,e6,e7,?_⟩
        exact inwP
      · have hfin:∃ q',q'<k∧∃ i' j',q'=j' - i'∧s0≤i'∧i'≤j'∧j'≤r0∧(∀ t u (h:t<A.length) (h':u<B.length),s0≤a+t→a+t<i'→a+t+(m+u)=p→Srt2.LTs A[t] B[u])∧(∀ t u (h:t<A.length) (h':u<B.length),j'≤a+t→a+t<r0→a+t+(m+u)=p→Srt2.LTs B[u] A[t])∧i'=h+1∧j'=j:=
          ⟨j - (h+1),by omega,h+1,j,rfl,by omega,by omega,by omega,hup (hge.2 hsz),h6,rfl,rfl⟩
        have HF:=hideP hfin
        have hd:¬ ((Clm.sizeN y:Int) - Clm.sizeN z<0):=by omega
        generalize (Clm.sizeN y:Int) - Clm.sizeN z=d at *
        generalize i+j=s at *
        clear hfin hK hk h1 h2 h3 h4 h5 h6 hup hdn hlt hge hz hz1 hz2 hs hsz hgz hgx hlo hhi ht hu hN0 ha hm hb hA hB h10 hlen hh hS hR hmid hn hp hs0 hr0 hs1 hs2 hr1 hr2 hsr hph hpow
        unfold sy8
        refine gB ?_
        obtain ⟨q',e1,i',j',e2,e3,e4,e5,e6,e7,rfl,rfl⟩:=HF.out
        refine ⟨q',e1,_,_,e2,e3,e4,e5,e6,e7,?_⟩
        exact inwP
    · have hij':i=j:=by omega
      subst hij'
      have hc := Srt2.sym_cut hA hB (i - a) (mid - i) (by omega) (by omega) (fun x y h0 hx hy => by
        obtain ⟨l1,rfl⟩:=List.getElem?_eq_some_iff.1 hx
        obtain ⟨l2,rfl⟩:=List.getElem?_eq_some_iff.1 hy
        exact h5 _ _ l1 l2 (by omega) (by omega) (by omega)) (fun x y h0 hy hx=>by
        obtain ⟨l1,rfl⟩:=List.getElem?_eq_some_iff.1 hx
        obtain ⟨l2,rfl⟩:=List.getElem?_eq_some_iff.1 hy
        exact h6 _ _ l1 l2 (by omega) (by omega) (by omega))
      have hend:=sym_t1 C call cf d hS hR H q N a i m mid n (m+(mid - i)) b P A B (A.take (i - a)) (B.take (mid - i)) (A.drop (i - a)) (B.drop (mid - i)) S (List.take_append_drop _ _).symm (List.take_append_drop _ _).symm hq hN0 hN ha (by rw[List.length_take];omega) (by rw[List.length_drop];omega) (by rw[List.length_take];omega) hn (by rw[List.length_take];omega) (by rw[List.length_drop];omega) (by rw[List.length_take,List.length_take];omega) (by rw[List.length_drop,List.length_drop];omega) hA hB hs h10 hc.1 hc.2
      have g5:¬ ((i:Int)<i):=by omega
      unfold af120 Zq Zm Zo Zd Ze Zc Zt Zn at hend
      simp only[atP] at hend
      have HE:=hideP hend
      clear hend hK hk h1 h2 h3 h4 h5 h6 hij hq hN0 ha hm hb hA hB hs h10 hlen hS hR hmid hn hp hs0 hr0 hs1 hs2 hr1 hr2 hsr hd hc hpow L0 L1 L2 L3 L4 L18 L19 L20 L21 L22
      unfold sy8
      (repeat (first|(with_reducible refine HE.out _ ?_ ?_ ?_ ?_ ?_ ?_ ?_ ?_<;>simp[zal])|((with_reducible apply zak);(focus ((with_reducible apply zba);(focus rfl);(focus rfl);(focus ((conv=>lhs;simp[*,List.getElem?_append_right,List.set_append_right,List.getElem?_cons_zero,List.getElem?_append_left,List.set_append_left,-getElem?_pos,Nat.testBit_eq_decide_div_mod_eq])<;>exact rfl));(focus rfl);(focus rfl)));simp only[addFl])|(with_reducible apply zak;(focus ((conv=>lhs;simp[*,List.getElem?_append_right,List.set_append_right,List.getElem?_cons_zero,List.getElem?_append_left,List.set_append_left,-getElem?_pos,Nat.testBit_eq_decide_div_mod_eq])<;>exact rfl));simp only[addFl])|((with_reducible first|apply zaw|apply zay|apply zas|apply zaq|apply zao|apply zax|apply zar|apply zaz|(apply zap;· simp[*,zab])|(apply zam;· simp[*,zab]));try simp only[Then,Ops,OutB,reduceIte])|simp only[Nat.reduceEqDiff,reduceIte,OutB,Then]))
theorem zzj (C:Cfg)(hC:C.calm=true)(call:CallF)(cf d:Nat)(hK:CmpC call cf)(hS:SymC call cf d)(hR:RotC call)(H:List AB)(q N a m b:Nat)(P A B S:List Nat)(hq:HB H q (.cells (us (P++(A++(B++S))))))(hN0:(P++(A++(B++S))).length=N)(hN:N≤100000)(ha:P.length=a)(hm:a+A.length=m)(hb:m+B.length=b)(hA2:2≤A.length)(hB2:2≤B.length)(hd:A.length+B.length≤2 ^ (d+1))(hA:Srt2.Sorted A)(hB:Srt2.Sorted B)(hs:Srt2.Sep A B)(h10:∀ x,x∈A∨x∈B→x<1024):
    Does (ev C call H.length none af120.body { tm:=tmA af120.ntmps (zipI 0 [.sl q 0 N 1,.int .i64 a,.int .i64 m,.int .i64 b,.fn (.func cf) [] []] []),df:=[],hp:=H,tc:=[] })
      (Ends C H.length af120.res (SymP H q P A B S)):=by
  have hlen:a+A.length+B.length+S.length=N:=by rw[← hN0,← ha];simp only[List.length_append];omega
  have w0:IntKind.i64.wrap ((m:Int) - a)=(A.length:Int):=by rw[show (m:Int) - a=A.length by omega];exact zaf (by omega) (by omega)
  have w0':((A.length:Int)==1)=false:=beq_false_of_ne (by omega)
  have w1:IntKind.i64.wrap ((b:Int) - m)=(B.length:Int):=by rw[show (b:Int) - m=B.length by omega];exact zaf (by omega) (by omega)
  have w1':((B.length:Int)==1)=false:=beq_false_of_ne (by omega)
  obtain ⟨f1,f2,f3,f4,f5⟩:=zgi (i:=a) (j:=b) (by omega)
  obtain ⟨mid,hmid⟩:∃ mid,(a+b) / 2=mid:=⟨_,rfl⟩
  obtain ⟨n,hn⟩:∃ n,mid+m=n:=⟨_,rfl⟩
  obtain ⟨p,hp⟩:∃ p,p+1=n:=⟨n - 1,by omega⟩
  rw[hmid] at f3 f4 f5
  have w2:IntKind.i64.wrap ((mid:Int)+m)=n:=by rw[show (mid:Int)+m=n by omega];exact zaf (by omega) (by omega)
  have w3:IntKind.i64.wrap ((n:Int) - 1)=p:=by rw[show (n:Int) - 1=p by omega];exact zaf (by omega) (by omega)
  by_cases hc:mid<m
  · obtain ⟨s0,hs0⟩:∃ s0,s0+b=n:=⟨n - b,by omega⟩
    have w4:IntKind.i64.wrap ((n:Int) - b)=s0:=by rw[show (n:Int) - b=s0 by omega];exact zaf (by omega) (by omega)
    have hend:=zhq C hC call cf d hK hS hR H q N a m mid n p b s0 mid P A B S hq hN0 hN ha hm hb hmid hn hp (.inr hs0) (.inl rfl) (by omega) (by omega) (Nat.le_refl _) (by omega) (by omega) hd (by omega) hA hB hs h10
    have hc':(mid:Int)<m:=by omega
    unfold af120 Zq Zm Zo Zd Ze Zc Zt Zn at hend
    simp only[atP] at hend
    have HE:=hideP hend
    generalize a+b=s at *
    clear hend hK hS hR hq hN0 ha hm hb hd hA hB hs h10 hlen hmid hn hp hs0 hA2 hB2
    unfold af120 Zq Zm Zo Zd Ze Zc Zt Zn
    simp only[zipI] at *
    (repeat (first|(with_reducible refine HE.out _ ?_ ?_ ?_ ?_ ?_ ?_ ?_ ?_ ?_ ?_<;>simp[zal])|((with_reducible apply zak);(focus ((with_reducible apply zba);(focus rfl);(focus rfl);(focus ((conv=>lhs;simp[*,List.getElem?_append_right,List.set_append_right,List.getElem?_cons_zero,List.getElem?_append_left,List.set_append_left,-getElem?_pos,Nat.testBit_eq_decide_div_mod_eq])<;>exact rfl));(focus rfl);(focus rfl)));simp only[addFl])|(with_reducible apply zak;(focus ((conv=>lhs;simp[*,List.getElem?_append_right,List.set_append_right,List.getElem?_cons_zero,List.getElem?_append_left,List.set_append_left,-getElem?_pos,Nat.testBit_eq_decide_div_mod_eq])<;>exact rfl));simp only[addFl])|((with_reducible first|apply zaw|apply zay|apply zas|apply zaq|apply zao|apply zax|apply zar|apply zaz|(apply zap;· simp[*,zab])|(apply zam;· simp[*,zab]));try simp only[Then,Ops])|simp only[Nat.reduceEqDiff,reduceIte,OutB,Then]))
  · have hend:=zhq C hC call cf d hK hS hR H q N a m mid n p b a m P A B S hq hN0 hN ha hm hb hmid hn hp (.inl rfl) (.inr rfl) (by omega) (by omega) (by omega) (Nat.le_refl _) (by omega) hd (by omega) hA hB hs h10
    have hc':¬ ((mid:Int)<m):=by omega
    unfold af120 Zq Zm Zo Zd Ze Zc Zt Zn at hend
    simp only[atP] at hend
    have HE:=hideP hend
    generalize a+b=s at *
    clear hend hK hS hR hq hN0 ha hm hb hd hA hB hs h10 hlen hmid hn hp hA2 hB2
    unfold af120 Zq Zm Zo Zd Ze Zc Zt Zn
    simp only[zipI] at *
    (repeat (first|(with_reducible refine HE.out _ ?_ ?_ ?_ ?_ ?_ ?_ ?_ ?_ ?_ ?_<;>simp[zal])|((with_reducible apply zak);(focus ((with_reducible apply zba);(focus rfl);(focus rfl);(focus ((conv=>lhs;simp[*,List.getElem?_append_right,List.set_append_right,List.getElem?_cons_zero,List.getElem?_append_left,List.set_append_left,-getElem?_pos,Nat.testBit_eq_decide_div_mod_eq])<;>exact rfl));(focus rfl);(focus rfl)));simp only[addFl])|(with_reducible apply zak;(focus ((conv=>lhs;simp[*,List.getElem?_append_right,List.set_append_right,List.getElem?_cons_zero,List.getElem?_append_left,List.set_append_left,-getElem?_pos,Nat.testBit_eq_decide_div_mod_eq])<;>exact rfl));simp only[addFl])|((with_reducible first|apply zaw|apply zay|apply zas|apply zaq|apply zao|apply zax|apply zar|apply zaz|(apply zap;· simp[*,zab])|(apply zam;· simp[*,zab]));try simp only[Then,Ops])|simp only[Nat.reduceEqDiff,reduceIte,OutB,Then]))
theorem zws (call:CallF)(cf:Nat):SymC call cf 0:=by
  intro H q N a m b P A B S _ _ _ _ _ _ hA hB hd
  have h1:=List.length_pos_iff.2 hA
  have h2:=List.length_pos_iff.2 hB
  simp only[Nat.pow_zero] at hd
  omega
theorem zwu {C:Cfg}{n0 cf d:Nat}(hC:C.calm=true)(h0:Has C 120 af120)(hK:CmpC (Ev.call C n0) cf)(hS:SymC (Ev.call C n0) cf d)(hR:RotC (Ev.call C n0)):SymC (Ev.call C (n0+1)) cf (d+1):=by
  intro H q N a m b P A B S hq hN0 hN ha hm hb hA0 hB0 hd hA hB hs h1 h2
  have hA1:=List.length_pos_iff.2 hA0
  have hB1:=List.length_pos_iff.2 hB0
  have hw:Does (ev C (Ev.call C n0) H.length none af120.body { tm:=tmA af120.ntmps (zipI 0 [.sl q 0 N 1,.int .i64 a,.int .i64 m,.int .i64 b,.fn (.func cf) [] []] []),df:=[],hp:=H,tc:=[] })
      (Ends C H.length af120.res (SymP H q P A B S)):=by
    by_cases e1:A.length=1
    · obtain ⟨x,rfl⟩:=List.length_eq_one_iff.1 e1
      exact zzi C hC _ cf hK H q N a m b P B S x hq hN0 hN ha (by simpa using hm) hb hB (fun y hy=>hs x (by simp) y hy) ⟨h1 x (by simp),h2⟩
    · by_cases e2:B.length=1
      · obtain ⟨y,rfl⟩:=List.length_eq_one_iff.1 e2
        exact zwt C hC _ cf hK H q N a m b P A S y hq hN0 hN ha hm (by simpa using hb) e1 hA (fun z hz=>hs z hz y (by simp)) ⟨h2 y (by simp),h1⟩
      · exact zzj C hC _ cf d hK hS hR H q N a m b P A B S hq hN0 hN ha hm hb (by omega) (by omega) hd hA hB hs (fun x hx=>by rcases hx with hx|hx;exact h1 x hx;exact h2 x hx)
  obtain ⟨v,hp,tc,G,c1,⟨rfl,L,k2,k3,k4⟩,c3,c4,c5⟩:=zbm (first:=[]) (captured:=[]) (args:=[.sl q 0 N 1,.int .i64 a,.int .i64 m,.int .i64 b,.fn (.func cf) [] []]) (H:=H) hC h0.ext h0.exth h0.fns h0.whole (le' rfl) hw
  refine ⟨tc,L,?_,k2.2.1,k2.2.2,k3,k4⟩
  rw[c1,zgg hq k2 c3 (fun ht=>(c4 (.inr ht)).2) (fun ht=>c5 rfl ht)]
end K
end Ev
namespace Srt2
open Clm (ltS sizeN)
inductive Bl (bs:Nat):List Nat→List Nat→Prop
  |last (l a:List Nat):l.length≤bs→Sorted l→l.Perm a→Bl bs l a
  |more (l1 a1 l a:List Nat):l1.length=bs→Sorted l1→l1.Perm a1→Bl bs l a→Bl bs (l1++l) (a1++a)
theorem Bl.len {bs:Nat}{l a:List Nat}(h:Bl bs l a):l.length=a.length:=by
  induction h with
  |last l a h1 h2 h3=>exact h3.length_eq
  |more l1 a1 l a h1 h2 h3 _ ih=>rw[List.length_append,List.length_append,h3.length_eq,ih]
theorem Bl.one {bs:Nat}{l a:List Nat}(h:Bl bs l a)(hl:bs≤l.length):∃ l1 a1 l' a',l=l1++l'∧a=a1++a'∧l1.length=bs∧Sorted l1∧l1.Perm a1∧Bl bs l' a':=by
  cases h with
  |last _ _ h1 h2 h3=>exact ⟨l,a,[],[],by simp,by simp,by omega,h2,h3,.last [] [] (by simp) List.Pairwise.nil (List.Perm.refl _)⟩
  |more l1 a1 l a h1 h2 h3 h4=>exact ⟨l1,a1,l,a,rfl,rfl,h1,h2,h3,h4⟩
theorem Bl.end {bs:Nat}{l a:List Nat}(h:Bl bs l a)(hl:l.length≤bs):Sorted l∧l.Perm a:=by
  cases h with
  |last _ _ h1 h2 h3=>exact ⟨h2,h3⟩
  |more l1 a1 l a h1 h2 h3 h4=>
    have h5:l=[]:=by
      cases l with
      |nil=>rfl
      |cons x t=>simp only[List.length_append,List.length_cons] at hl;omega
    have h6:=h4.len
    subst h5
    have h7:a=[]:=List.eq_nil_of_length_eq_zero (by simpa using h6.symm)
    subst h7
    simp only[List.append_nil]
    exact ⟨h2,h3⟩
theorem sep_inc {aF a1 a2 a:List Nat}(h:Inc (aF++(a1++(a2++a)))){l1 l2:List Nat}(h1:l1.Perm a1)(h2:l2.Perm a2):Sep l1 l2:=by
  intro x hx y hy
  have h3:=(List.pairwise_append.1 (List.pairwise_append.1 h).2.1).2.2
  exact h3 x (h1.mem_iff.1 hx) y (List.mem_append.2 (.inl (h2.mem_iff.1 hy)))
end Srt2
namespace Ev
namespace K
attribute [local simp] ev1 wantG spineK spine float xnew xval xeff zab zae zau zah zai addFl cellsOf pickC alive slLen slFt binI maxA maxK minA minK aeqK aeqS AV.cells spA zad fillA setAt bitsI nat_nn zav AV.plain apart
set_option maxRecDepth 100000
set_option maxHeartbeats 4000000
def st0 (q N cf bs a b:Nat)(G:List AB)(tc:List Nat):St:={ tm:=tmA 63 [(8,.int .i64 b),(7,.int .i64 a),(6,.int .i64 bs),(2,.fn (.func cf) [] []),(1,.int .i64 N),(0,.sl q 0 N 1)],df:=[],hp:=G,tc:=tc }
def st2 (q N cf bs:Nat)(G:List AB)(tc:List Nat):St:={ tm:=tmA 63 [(6,.int .i64 bs),(2,.fn (.func cf) [] []),(1,.int .i64 N),(0,.sl q 0 N 1)],df:=[],hp:=G,tc:=tc }
theorem zjq (C:Cfg)(hC:C.calm=true)(call:CallF)(cf:Nat)(hS:SymC call cf 10)(H:List AB)(q N bs:Nat)(A0:List Nat)(hq:HB H q (.cells (us A0)))(hN0:A0.length=N)(hN:N≤1024)(hI:Srt2.Inc A0)(h10:∀ x∈A0,x<1024)(hbs:0<bs)(hlt:bs<N)(l:List Nat)(G:List AB)(tc:List Nat)(hG:InB H q A0 l G tc)(hl:Srt2.Bl bs l A0):
    Does (ev C call H.length none (atP [1,1,1,1,0,0] af108.body) (st2 q N cf bs G tc))
      (fun e st=>e=.normal∧∃ l' G' tc',InB H q A0 l' G' tc'∧Srt2.Bl (2 * bs) l' A0∧{ st with tm:=keepT [0,1,2,6] st.tm }=st2 q N cf (2 * bs) G' tc'):=by
  have hll:=hl.len
  have hlt':(bs:Int)<N:=by omega
  obtain ⟨b2,hb2⟩:∃ b2,2 * bs=b2:=⟨_,rfl⟩
  have w1:IntKind.i64.wrap (2 * (bs:Int))=b2:=by rw[show 2 * (bs:Int)=b2 by omega];exact zaf (by omega) (by omega)
  have w2:IntKind.i64.wrap ((bs:Int) * 2)=b2:=by rw[show (bs:Int) * 2=b2 by omega];exact zaf (by omega) (by omega)
  rw[hb2]
  have HX:=hideP (And.intro hq (And.intro hN0 (And.intro hI (And.intro h10 (And.intro hbs (And.intro hlt (And.intro hG (And.intro hl (And.intro hll (And.intro hb2 hS))))))))))
  clear hq hN0 hI h10 hbs hlt hG hl hll hb2 hS
  unfold af108 Zq Zm Zo Zc Zt Zn st2
  simp only[atP]
  refine gB ?_
  with_reducible refine zcc hC N (by unfold fuelL;omega) (fun k st=>∃ F R aF aR G tc,k=R.length∧A0=aF++aR∧F.length=aF.length∧Srt2.Bl bs R aR∧(∀ r a,Srt2.Bl b2 r a→Srt2.Bl b2 (F++r) (aF++a))∧InB H q A0 (F++R) G tc∧st=st0 q N cf bs F.length (F.length+b2) G tc) ?_ ?_
  · obtain ⟨hq,hN0,hI,h10,hbs,hlt,hG,hl,hll,hb2,hS⟩:=HX.out
    refine ⟨[],l,[],A0,G,tc,by omega,rfl,rfl,hl,fun _ _ h=>h,hG,?_⟩
    unfold st0
    exact inwP
  · rintro k st ⟨F,R,aF,aR,G,tc,hk,hA,hFl,hR,hF,hG,rfl⟩
    obtain ⟨hq,hN0,hI,h10,hbs,hlt,-,-,-,hb2,hS⟩:=HX.out
    have hGl:=hG.length
    have hHG:=hG.hb hq
    have hRl:=hR.len
    have hAl:aF.length+aR.length=N:=by rw[← hN0,hA,List.length_append]
    have h10':∀ x,x∈aR→x<1024:=fun x hx=>h10 x (by rw[hA];simp[hx])
    by_cases hbig:b2≤R.length
    · obtain ⟨l1,a1,R1,aR1,rfl,rfl,e1,e2,e3,e4⟩:=hR.one (by omega)
      obtain ⟨l2,a2,R2,aR2,rfl,rfl,e5,e6,e7,e8⟩:=e4.one (by simp only[List.length_append] at hbig;omega)
      obtain ⟨t,L,c1,c2,c3,c4,c5⟩:=hS G q N F.length (F.length+bs) (F.length+b2) F l1 l2 R2 hHG (by simp only[List.length_append] at hRl hAl ⊢;omega) (by omega) rfl (by omega) (by omega) (fun h=>by rw[h] at e1;simp at e1;omega) (fun h=>by rw[h] at e5;simp at e5;omega) (by simp only[List.length_append] at hRl hAl;omega) e2 e6 (Srt2.sep_inc (by rw[← hA];exact hI) e3 e7) (fun x hx=>h10' x (by simp[e3.mem_iff.1 hx])) (fun x hx=>h10' x (by simp[e7.mem_iff.1 hx]))
      have hLl:=c5.length_eq
      have hfin:∃ q',q'<k∧∃ F' R' aF' aR' G' tc',q'=R'.length∧A0=aF'++aR'∧F'.length=aF'.length∧Srt2.Bl bs R' aR'∧(∀ r a,Srt2.Bl b2 r a→Srt2.Bl b2 (F'++r) (aF'++a))∧InB H q A0 (F'++R') G' tc'∧F'.length=F.length+b2∧G'=G.set q (.cells (us (F++(L++R2))))∧tc'=t.filter (fun x=>decide (x<H.length))++tc:=by
        refine ⟨R2.length,by rw[hk];simp only[List.length_append];omega,F++L,R2,aF++(a1++a2),aR2,_,_,rfl,by rw[hA];simp,by simp only[List.length_append] at hLl ⊢;rw[hFl,← e3.length_eq,← e7.length_eq];omega,e8,fun r a h=>?_,by rw[List.append_assoc];exact hG.step hq.lt c2 c3,by simp only[List.length_append] at hLl ⊢;omega,rfl,rfl⟩
        have:=hF _ _ (.more L (a1++a2) r a (by simp only[List.length_append] at hLl;omega) c4 (c5.trans (e3.append e7)) h)
        simpa using this
      have HF:=hideP hfin
      obtain ⟨a,ha⟩:∃ a,F.length=a:=⟨_,rfl⟩
      obtain ⟨m,hm⟩:∃ m,a+bs=m:=⟨_,rfl⟩
      obtain ⟨b,hb⟩:∃ b,a+b2=b:=⟨_,rfl⟩
      rw[ha,hb] at HF
      rw[ha,hm,hb] at c1
      rw[ha,hb]
      have hFlen:a+(l1++(l2++R2)).length=N:=by rw[← ha,hFl,hRl];exact hAl
      have hbN:b≤N:=by omega
      have hbN':(b:Int)≤N:=by omega
      have w3:IntKind.i64.wrap ((a:Int)+bs)=m:=by rw[show (a:Int)+bs=m by omega];exact zaf (by omega) (by omega)
      have w4:IntKind.i64.wrap ((b:Int)+b2)=((b+b2:Nat):Int):=by rw[show ((b+b2:Nat):Int)=(b:Int)+b2 by omega];exact zaf (by omega) (by omega)
      clear hfin hS hq hN0 hI h10 hbs hlt hb2 hGl hHG hRl hAl h10' hbig e1 e2 e3 e4 e5 e6 e7 e8 c2 c3 c4 c5 hLl hA hFl hR hF hG hk ha hm hb hFlen
      unfold st0
      refine gB ?_
      obtain ⟨q',k1,F',R',aF',aR',G',tc',k2,k3,k4,k5,k6,k7,k8,rfl,rfl⟩:=HF.out
      refine ⟨q',k1,F',R',aF',aR',_,_,k2,k3,k4,k5,k6,k7,?_⟩
      rw[k8]
      exact inwP
    · have hRn:F.length+R.length=N:=by omega
      have key:∃ L G' tc',InB H q A0 (F++L) G' tc'∧Srt2.Bl b2 (F++L) A0∧((¬ F.length+bs<N∧G'=G∧tc'=tc)∨(F.length+bs<N∧∃ t,call (.fn (.func 120) [] []) [.sl q 0 N 1,.int .i64 F.length,.int .i64 ((F.length+bs:Nat):Int),.int .i64 N,.fn (.func cf) [] []] G=some (.ret (.tup []),G',t)∧tc'=t.filter (fun x=>decide (x<H.length))++tc)):=by
        by_cases hm:F.length+bs<N
        · obtain ⟨l1,a1,R1,aR1,rfl,rfl,e1,e2,e3,e4⟩:=hR.one (by omega)
          have e5:=e4.end (by simp only[List.length_append] at hbig;omega)
          obtain ⟨t,L,c1,c2,c3,c4,c5⟩:=hS G q N F.length (F.length+bs) N F l1 R1 [] (by rw[List.append_nil];exact hHG) (by simp only[List.length_append,List.length_nil] at hRn ⊢;omega) (by omega) rfl (by omega) (by simp only[List.length_append] at hRn;omega) (fun h=>by rw[h] at e1;simp at e1;omega) (fun h=>by rw[h] at hRn;simp at hRn;omega) (by simp only[List.length_append] at hRn;omega) e2 e5.1 (Srt2.sep_inc (a:=[]) (by rw[List.append_nil,← hA];exact hI) e3 e5.2) (fun x hx=>h10' x (by simp[e3.mem_iff.1 hx])) (fun x hx=>h10' x (by simp[e5.2.mem_iff.1 hx]))
          rw[List.append_nil] at c1 c3
          rw[List.append_nil] at c3
          have hLl:=c5.length_eq
          refine ⟨L,_,_,hG.step hq.lt c2 c3,?_,.inr ⟨hm,t,c1,rfl⟩⟩
          rw[hA]
          exact hF _ _ (.last _ _ (by simp only[List.length_append] at hLl hbig;omega) c4 (c5.trans (e3.append e5.2)))
        · obtain ⟨e1,e2⟩:=hR.end (by omega)
          refine ⟨R,G,tc,hG,?_,.inl ⟨hm,rfl,rfl⟩⟩
          rw[hA]
          exact hF _ _ (.last _ _ (by omega) e1 e2)
      obtain ⟨L,G',tc',d1,d2,d3⟩:=key
      have HF:=hideP (And.intro d1 d2)
      obtain ⟨a,ha⟩:∃ a,F.length=a:=⟨_,rfl⟩
      obtain ⟨m,hm⟩:∃ m,a+bs=m:=⟨_,rfl⟩
      obtain ⟨b,hb⟩:∃ b,a+b2=b:=⟨_,rfl⟩
      rw[ha,hm] at d3
      rw[ha,hb]
      have hbN:¬ b≤N:=by omega
      have hbN':¬ (b:Int)≤N:=by omega
      have w3:IntKind.i64.wrap ((a:Int)+bs)=m:=by rw[show (a:Int)+bs=m by omega];exact zaf (by omega) (by omega)
      clear hS hq hN0 hI h10 hbs hlt hb2 hGl hHG hRl hAl h10' hbig hA hFl hR hF hG hk ha hm hb hRn d1 d2
      unfold st0
      rcases d3 with ⟨d3,rfl,rfl⟩|⟨d3,t,d4,rfl⟩
      · (refine gB ?_)
        refine ⟨by first|rfl|trivial,_,_,_,HF.out.1,HF.out.2,?_⟩
        exact inwP
      · (refine gB ?_)
        refine ⟨by first|rfl|trivial,_,_,_,HF.out.1,HF.out.2,?_⟩
        exact inwP
theorem zlm (C:Cfg)(hC:C.calm=true)(call:CallF)(cf:Nat)(hS:SymC call cf 10)(H:List AB)(q N:Nat)(A0:List Nat)(hq:HB H q (.cells (us A0)))(hN0:A0.length=N)(hN:N≤1024)(hI:Srt2.Inc A0)(h10:∀ x∈A0,x<1024)(l:List Nat)(G:List AB)(tc:List Nat)(hG:InB H q A0 l G tc)(hl:Srt2.Bl 20 l A0)
    (L:List (Nat × AV)) (L0:lk 63 L 0=.sl q 0 N 1) (L1:lk 63 L 1=.int .i64 N) (L2:lk 63 L 2=.fn (.func cf) [] []) (L6:lk 63 L 6=.int .i64 20):
    Does (ev C call H.length none (atP [1,1,1,1] af108.body) { tm:=tmA 63 L,df:=[],hp:=G,tc:=tc })
      (Ends C H.length af108.res (StaP H q A0)):=by
  have hr:=fun bs hbs hlt l G tc hG hl=>zjq C hC call cf hS H q N bs A0 hq hN0 hN hI h10 hbs hlt l G tc hG hl
  have HX:=hideP (And.intro hq (And.intro hN0 (And.intro hG hl)))
  unfold af108 Zq Zm Zo Zc Zt Zn at hr
  simp only[atP] at hr
  have HR:=hideP hr
  clear hr hq hN0 hI h10 hG hl hS
  unfold af108 Zq Zm Zo Zc Zt Zn
  simp only[atP] at *
  refine gB ?_
  with_reducible refine zcc hC (N - 20) (by unfold fuelL;omega) (fun k st=>∃ bs l G tc,k=N - bs∧0<bs∧InB H q A0 l G tc∧Srt2.Bl bs l A0∧st=st2 q N cf bs G tc) ?_ ?_
  · obtain ⟨hq,hN0,hG,hl⟩:=HX.out
    refine ⟨20,l,G,tc,rfl,by omega,hG,hl,?_⟩
    unfold st2
    exact st_eq (by simp[*,zag]) rfl (by simp) (by simp)
  · rintro k st ⟨bs,l,G,tc,hk,hb,hG,hl,rfl⟩
    by_cases hlt:bs<N
    · refine Does.mono (HR.out bs hb hlt l G tc hG hl) ?_
      rintro e st ⟨rfl,l',G',tc',f1,f2,f3⟩
      exact ⟨N - 2 * bs,by omega,2 * bs,l',G',tc',rfl,by omega,f1,f2,f3⟩
    · obtain ⟨hq,hN0,-,-⟩:=HX.out
      have hll:=hl.len
      have hfin:StaP H q A0 (.tup []) G tc:=⟨rfl,l,hG,(hl.end (by omega)).1,(hl.end (by omega)).2⟩
      have hgl:H.length≤G.length:=by have:=hG.length;omega
      have HF:=hideP hfin
      have hlt':¬ (bs:Int)<N:=by omega
      clear hfin hG hl hll hq hN0 hk hb L0 L1 L2 L6
      unfold st2
      refine gB ?_
      exact zac (v:=.tup []) (.inr rfl) rfl hgl (by simp only[resL];simp[*,resV]) HF.out
theorem zox (C:Cfg)(hC:C.calm=true)(call:CallF)(cf:Nat)(hS:SymC call cf 10)(hIn:InsC call cf)(H:List AB)(q N:Nat)(A0:List Nat)(hq:HB H q (.cells (us A0)))(hN0:A0.length=N)(hN:N≤1024)(hI:Srt2.Inc A0)(h10:∀ x∈A0,x<1024):
    Does (ev C call H.length none af108.body { tm:=tmA af108.ntmps (zipI 0 [.sl q 0 N 1,.int .i64 N,.fn (.func cf) [] []] []),df:=[],hp:=H,tc:=[] })
      (Ends C H.length af108.res (StaP H q A0)):=by
  have hr:=fun l G tc hG hl=>zlm C hC call cf hS H q N A0 hq hN0 hN hI h10 l G tc hG hl
  have HX:=hideP (And.intro hq (And.intro hN0 (And.intro hI (And.intro h10 hIn))))
  unfold af108 Zq Zm Zo Zc Zt Zn at hr
  simp only[atP] at hr
  have HR:=hideP hr
  clear hr hq hN0 hI h10 hS hIn
  unfold af108 Zq Zm Zo Zc Zt Zn
  simp only[zipI] at *
  refine gB ?_
  with_reducible refine zcc hC N (by unfold fuelL;omega) (fun k st=>∃ F R aF G tc,k=R.length∧A0=aF++R∧F.length=aF.length∧(∀ r a,Srt2.Bl 20 r a→Srt2.Bl 20 (F++r) (aF++a))∧InB H q A0 (F++R) G tc∧st=st0 q N cf 20 F.length (F.length+20) G tc) ?_ ?_
  · obtain ⟨hq,hN0,hI,h10,hIn⟩:=HX.out
    refine ⟨[],A0,[],H,[],hN0.symm,rfl,rfl,fun _ _ h=>h,⟨hq.same.symm,by simp,fun _=>rfl⟩,?_⟩
    unfold st0
    exact inwP
  · rintro k st ⟨F,R,aF,G,tc,hk,hA,hFl,hF,hG,rfl⟩
    obtain ⟨hq,hN0,hI,h10,hIn⟩:=HX.out
    have hGl:=hG.length
    have hHG:=hG.hb hq
    have hAl:aF.length+R.length=N:=by rw[← hN0,hA,List.length_append]
    have h10':∀ x,x∈R→x<1024:=fun x hx=>h10 x (by rw[hA];simp[hx])
    have hRI:Srt2.Inc R:=by rw[hA] at hI;exact (List.pairwise_append.1 hI).2.1
    by_cases hbig:20≤R.length
    · obtain ⟨R1,R2,rfl,e1,e2⟩:=Srt2.split_at hbig
      obtain ⟨t,L,c1,c2,c3,c4,c5⟩:=hIn G q N F.length (F.length+20) F R1 R2 hHG (by simp only[List.length_append] at hAl ⊢;omega) (by omega) rfl (by omega) (List.pairwise_append.1 hRI).1 (fun x hx=>h10' x (by simp[hx]))
      have hLl:=c5.length_eq
      have hfin:∃ q',q'<k∧∃ F' R' aF' G' tc',q'=R'.length∧A0=aF'++R'∧F'.length=aF'.length∧(∀ r a,Srt2.Bl 20 r a→Srt2.Bl 20 (F'++r) (aF'++a))∧InB H q A0 (F'++R') G' tc'∧F'.length=F.length+20∧G'=G.set q (.cells (us (F++(L++R2))))∧tc'=t.filter (fun x=>decide (x<H.length))++tc:=by
        refine ⟨R2.length,by rw[hk];simp only[List.length_append];omega,F++L,R2,aF++R1,_,_,rfl,by rw[hA];simp,by simp only[List.length_append];omega,fun r a h=>?_,by rw[List.append_assoc];exact hG.step hq.lt c2 c3,by simp only[List.length_append];omega,rfl,rfl⟩
        have:=hF _ _ (.more L R1 r a (by omega) c4 c5 h)
        simpa using this
      have HF:=hideP hfin
      obtain ⟨a,ha⟩:∃ a,F.length=a:=⟨_,rfl⟩
      obtain ⟨b,hb⟩:∃ b,a+20=b:=⟨_,rfl⟩
      rw[ha,hb] at HF c1
      rw[ha,hb]
      have hbN:b≤N:=by simp only[List.length_append] at hAl;omega
      have hbN':(b:Int)≤N:=by omega
      have w4:IntKind.i64.wrap ((b:Int)+20)=((b+20:Nat):Int):=by rw[show ((b+20:Nat):Int)=(b:Int)+20 by omega];exact zaf (by omega) (by omega)
      clear hfin hq hN0 hI h10 hGl hHG hAl h10' hbig e1 e2 c2 c3 c4 c5 hLl hA hFl hF hG hk ha hb hRI hIn
      unfold st0
      refine gB ?_
      obtain ⟨q',k1,F',R',aF',G',tc',k2,k3,k4,k5,k6,k7,rfl,rfl⟩:=HF.out
      refine ⟨q',k1,F',R',aF',_,_,k2,k3,k4,k5,k6,?_⟩
      rw[k7]
      exact inwP
    · obtain ⟨t,L,c1,c2,c3,c4,c5⟩:=hIn G q N F.length N F R [] (by rw[List.append_nil];exact hHG) (by simp only[List.length_append,List.length_nil];omega) (by omega) rfl (by omega) hRI h10'
      rw[List.append_nil] at c1 c3
      rw[List.append_nil] at c3
      have hLl:=c5.length_eq
      have hend:=HR.out (F++L) _ _ (hG.step hq.lt c2 c3) (by rw[hA];exact hF _ _ (.last _ _ (by omega) c4 c5))
      have HE:=hideP hend
      obtain ⟨a,ha⟩:∃ a,F.length=a:=⟨_,rfl⟩
      obtain ⟨b,hb⟩:∃ b,a+20=b:=⟨_,rfl⟩
      rw[ha] at c1
      rw[ha,hb]
      have hbN:¬ b≤N:=by omega
      have hbN':¬ (b:Int)≤N:=by omega
      clear hend hq hN0 hI h10 hGl hHG hAl h10' hbig c2 c3 c4 c5 hLl hA hFl hF hG hk ha hb hRI hIn
      unfold st0
      (repeat (first|(with_reducible refine HE.out _ ?_ ?_ ?_ ?_<;>simp[zal])|((with_reducible apply zak);(focus ((with_reducible apply zba);(focus rfl);(focus rfl);(focus ((conv=>lhs;simp[*,List.getElem?_append_right,List.set_append_right,List.getElem?_cons_zero,List.getElem?_append_left,List.set_append_left,-getElem?_pos,Nat.testBit_eq_decide_div_mod_eq])<;>exact rfl));(focus rfl);(focus rfl)));simp only[addFl])|(with_reducible apply zak;(focus ((conv=>lhs;simp[*,List.getElem?_append_right,List.set_append_right,List.getElem?_cons_zero,List.getElem?_append_left,List.set_append_left,-getElem?_pos,Nat.testBit_eq_decide_div_mod_eq])<;>exact rfl));simp only[addFl])|((with_reducible first|apply zaw|apply zay|apply zas|apply zaq|apply zao|apply zax|apply zar|apply zaz|(apply zap;· simp[*,zab])|(apply zam;· simp[*,zab]));try simp only[Then,Ops,OutB,reduceIte])|simp only[Nat.reduceEqDiff,reduceIte,OutB,Then]))
theorem zln {C:Cfg}{n0 cf:Nat}(hC:C.calm=true)(h0:Has C 108 af108)(hS:SymC (Ev.call C n0) cf 10)(hIn:InsC (Ev.call C n0) cf):StaC 1024 (Ev.call C (n0+1)) 108 id cf:=by
  intro H q N A0 hq hN0 hN hI h10
  obtain ⟨v,hp,tc,G,c1,⟨rfl,L,h2,h3,h4⟩,c3,c4,c5⟩:=zbm (first:=[]) (captured:=[]) (args:=[.sl q 0 N 1,.int .i64 N,.fn (.func cf) [] []]) (H:=H) hC h0.ext h0.exth h0.fns h0.whole (le' rfl) (zox C hC _ cf hS hIn H q N A0 hq hN0 hN hI h10)
  refine ⟨tc,L,?_,h2.2.1,h2.2.2,h3,h4⟩
  show Ev.call C (n0+1) _ [.sl q 0 N 1,.int .i64 N,.fn (.func cf) [] []] H=_
  rw[c1,zgg hq h2 c3 (fun ht=>(c4 (.inr ht)).2) (fun ht=>c5 rfl ht)]
end K
namespace Ro
open K
set_option maxRecDepth 100000
set_option maxHeartbeats 4000000
def clashM:Nat:=1024
structure KnowsM (C:Cfg):Prop where
  calm:C.calm=true
  swap:Has C 123 af123
  rot:Has C 122 af122
  sym:Has C 120 af120
  ins:Has C 119 af119
  stable:Has C 108 af108
  sort:Has C 75 af75
  o64:Has C 110 af110
  ones:Has C 77 af77
  cmp:Has C 76 af76
section
variable {C:Cfg} (c:KnowsM C)
include c
theorem cmpL (n:Nat):CmpC (Ev.call C (n+3)) 76:=fun H a b ha hb=>zaj c.calm c.cmp (le' rfl) rfl (yan C _ (fun H v hv=>zaj c.calm c.ones (le' rfl) rfl (zxu C _ (fun H v hv=>zaj c.calm c.o64 (le' rfl) rfl (zpx C _ H v hv)) H v hv)) H a b ha hb)
theorem rotL (n:Nat):RotC (Ev.call C (n+2)):=zxi c.calm c.rot (zse c.calm c.swap)
theorem symL:∀ d n,SymC (Ev.call C (n+3+d)) 76 d
  |0,n=>zws _ _
  |d+1,n=>by
    have h1:=cmpL c (n+d)
    have h2:=rotL c (n+d+1)
    rw[show n+d+3=n+3+d by omega] at h1
    rw[show n+d+1+2=n+3+d by omega] at h2
    exact zwu c.calm c.sym h1 (symL d n) h2
theorem sortM (n:Nat):SortC clashM (Ev.call C (n+15)) 76:=by
  have h1:=symL c 10 n
  rw[show n+3+10=n+13 by omega] at h1
  exact zsr c.calm c.sort (zln c.calm c.stable h1 (zyg c.calm c.ins (cmpL c (n+9))))
end
theorem ok_all (r:Rd.Road):okClash clashM r=true:=by
  unfold okClash
  cases hv:Rd.valid r with
  |false=>rfl
  |true=>
    have h1:=((Rd.valid_iff r).1 hv).events
    have h2:2 ^ r.events.length≤2 ^ 10:=Nat.pow_le_pow_right (by decide) h1
    have h3:=Rd.setsTo_len r (2 ^ r.events.length)
    rw[show decide ((Rd.setsTo r (2 ^ r.events.length)).length≤clashM)=true from decide_eq_true (by unfold clashM;omega),Bool.or_true]
end Ro
end Ev
end Go.Proofs.YtlcjlcllbgjplaaGreat
namespace Go.Proofs.YtlcjlcllbgjplaaGreat
open Go Go.Proofs
namespace Ev
set_option maxRecDepth 1000000
theorem is5 : ∃ F, Tryz.prog.funcs[5]? = some F ∧ (F.name == "runtime.NumGoroutine")=false∧compFn Tryz.prog F=some af5.strip:=⟨_,Tryz.func5,by kernel_rfl,by kernel_rfl⟩
theorem is7 : ∃ F, Tryz.prog.funcs[7]? = some F ∧ (F.name == "runtime.NumGoroutine")=false∧compFn Tryz.prog F=some af7.strip:=⟨_,Tryz.func7,by kernel_rfl,by kernel_rfl⟩
theorem is10 : ∃ F, Tryz.prog.funcs[10]? = some F ∧ (F.name == "runtime.NumGoroutine")=false∧compFn Tryz.prog F=some af10.strip:=⟨_,Tryz.func10,by kernel_rfl,by kernel_rfl⟩
theorem is20 : ∃ F, Tryz.prog.funcs[20]? = some F ∧ (F.name == "runtime.NumGoroutine")=false∧compFn Tryz.prog F=some af20.strip:=⟨_,Tryz.func20,by kernel_rfl,by kernel_rfl⟩
theorem is21 : ∃ F, Tryz.prog.funcs[21]? = some F ∧ (F.name == "runtime.NumGoroutine")=false∧compFn Tryz.prog F=some af21.strip:=⟨_,Tryz.func21,by kernel_rfl,by kernel_rfl⟩
theorem is24 : ∃ F, Tryz.prog.funcs[24]? = some F ∧ (F.name == "runtime.NumGoroutine")=false∧compFn Tryz.prog F=some af24.strip:=⟨_,Tryz.func24,by kernel_rfl,by kernel_rfl⟩
theorem is28 : ∃ F, Tryz.prog.funcs[28]? = some F ∧ (F.name == "runtime.NumGoroutine")=false∧compFn Tryz.prog F=some af28.strip:=⟨_,Tryz.func28,by kernel_rfl,by kernel_rfl⟩
theorem is33 : ∃ F, Tryz.prog.funcs[33]? = some F ∧ (F.name == "runtime.NumGoroutine")=false∧compFn Tryz.prog F=some af33.strip:=⟨_,Tryz.func33,by kernel_rfl,by kernel_rfl⟩
theorem is34 : ∃ F, Tryz.prog.funcs[34]? = some F ∧ (F.name == "runtime.NumGoroutine")=false∧compFn Tryz.prog F=some af34.strip:=⟨_,Tryz.func34,by kernel_rfl,by kernel_rfl⟩
theorem is41 : ∃ F, Tryz.prog.funcs[41]? = some F ∧ (F.name == "runtime.NumGoroutine")=false∧compFn Tryz.prog F=some af41.strip:=⟨_,Tryz.func41,by kernel_rfl,by kernel_rfl⟩
theorem is49 : ∃ F, Tryz.prog.funcs[49]? = some F ∧ (F.name == "runtime.NumGoroutine")=false∧compFn Tryz.prog F=some af49.strip:=⟨_,Tryz.func49,by kernel_rfl,by kernel_rfl⟩
theorem is51 : ∃ F, Tryz.prog.funcs[51]? = some F ∧ (F.name == "runtime.NumGoroutine")=false∧compFn Tryz.prog F=some af51.strip:=⟨_,Tryz.func51,by kernel_rfl,by kernel_rfl⟩
theorem is62 : ∃ F, Tryz.prog.funcs[62]? = some F ∧ (F.name == "runtime.NumGoroutine")=false∧compFn Tryz.prog F=some af62.strip:=⟨_,Tryz.func62,by kernel_rfl,by kernel_rfl⟩
theorem is64 : ∃ F, Tryz.prog.funcs[64]? = some F ∧ (F.name == "runtime.NumGoroutine")=false∧compFn Tryz.prog F=some af64.strip:=⟨_,Tryz.func64,by kernel_rfl,by kernel_rfl⟩
theorem is66 : ∃ F, Tryz.prog.funcs[66]? = some F ∧ (F.name == "runtime.NumGoroutine")=false∧compFn Tryz.prog F=some af66.strip:=⟨_,Tryz.func66,by kernel_rfl,by kernel_rfl⟩
theorem is68 : ∃ F, Tryz.prog.funcs[68]? = some F ∧ (F.name == "runtime.NumGoroutine")=false∧compFn Tryz.prog F=some af68.strip:=⟨_,Tryz.func68,by kernel_rfl,by kernel_rfl⟩
theorem is70 : ∃ F, Tryz.prog.funcs[70]? = some F ∧ (F.name == "runtime.NumGoroutine")=false∧compFn Tryz.prog F=some af70.strip:=⟨_,Tryz.func70,by kernel_rfl,by kernel_rfl⟩
theorem is75 : ∃ F, Tryz.prog.funcs[75]? = some F ∧ (F.name == "runtime.NumGoroutine")=false∧compFn Tryz.prog F=some af75.strip:=⟨_,Tryz.func75,by kernel_rfl,by kernel_rfl⟩
theorem is83 : ∃ F, Tryz.prog.funcs[83]? = some F ∧ (F.name == "runtime.NumGoroutine")=false∧compFn Tryz.prog F=some af83.strip:=⟨_,Tryz.func83,by kernel_rfl,by kernel_rfl⟩
theorem is86 : ∃ F, Tryz.prog.funcs[86]? = some F ∧ (F.name == "runtime.NumGoroutine")=false∧compFn Tryz.prog F=some af86.strip:=⟨_,Tryz.func86,by kernel_rfl,by kernel_rfl⟩
theorem is89 : ∃ F, Tryz.prog.funcs[89]? = some F ∧ (F.name == "runtime.NumGoroutine")=false∧compFn Tryz.prog F=some af89.strip:=⟨_,Tryz.func89,by kernel_rfl,by kernel_rfl⟩
theorem is94 : ∃ F, Tryz.prog.funcs[94]? = some F ∧ (F.name == "runtime.NumGoroutine")=false∧compFn Tryz.prog F=some af94.strip:=⟨_,Tryz.func94,by kernel_rfl,by kernel_rfl⟩
theorem is95 : ∃ F, Tryz.prog.funcs[95]? = some F ∧ (F.name == "runtime.NumGoroutine")=false∧compFn Tryz.prog F=some af95.strip:=⟨_,Tryz.func95,by kernel_rfl,by kernel_rfl⟩
theorem is96 : ∃ F, Tryz.prog.funcs[96]? = some F ∧ (F.name == "runtime.NumGoroutine")=false∧compFn Tryz.prog F=some af96.strip:=⟨_,Tryz.func96,by kernel_rfl,by kernel_rfl⟩
theorem is97 : ∃ F, Tryz.prog.funcs[97]? = some F ∧ (F.name == "runtime.NumGoroutine")=false∧compFn Tryz.prog F=some af97.strip:=⟨_,Tryz.func97,by kernel_rfl,by kernel_rfl⟩
theorem is105 : ∃ F, Tryz.prog.funcs[105]? = some F ∧ (F.name == "runtime.NumGoroutine")=false∧compFn Tryz.prog F=some af105.strip:=⟨_,Tryz.func105,by kernel_rfl,by kernel_rfl⟩
theorem is107 : ∃ F, Tryz.prog.funcs[107]? = some F ∧ (F.name == "runtime.NumGoroutine")=false∧compFn Tryz.prog F=some af107.strip:=⟨_,Tryz.func107,by kernel_rfl,by kernel_rfl⟩
theorem is109 : ∃ F, Tryz.prog.funcs[109]? = some F ∧ (F.name == "runtime.NumGoroutine")=false∧compFn Tryz.prog F=some af109.strip:=⟨_,Tryz.func109,by kernel_rfl,by kernel_rfl⟩
theorem is112 : ∃ F, Tryz.prog.funcs[112]? = some F ∧ (F.name == "runtime.NumGoroutine")=false∧compFn Tryz.prog F=some af112.strip:=⟨_,Tryz.func112,by kernel_rfl,by kernel_rfl⟩
theorem is120 : ∃ F, Tryz.prog.funcs[120]? = some F ∧ (F.name == "runtime.NumGoroutine")=false∧compFn Tryz.prog F=some af120.strip:=⟨_,Tryz.func120,by kernel_rfl,by kernel_rfl⟩
theorem is139 : ∃ F, Tryz.prog.funcs[139]? = some F ∧ (F.name == "runtime.NumGoroutine")=false∧compFn Tryz.prog F=some af139.strip:=⟨_,Tryz.func139,by kernel_rfl,by kernel_rfl⟩
theorem is8 : ∃ F, Tryz.prog.funcs[8]? = some F ∧ (F.name == "runtime.NumGoroutine")=false∧compFn Tryz.prog F=some af8.strip:=⟨_,Tryz.func8,by kernel_rfl,by kernel_rfl⟩
theorem is11 : ∃ F, Tryz.prog.funcs[11]? = some F ∧ (F.name == "runtime.NumGoroutine")=false∧compFn Tryz.prog F=some af11.strip:=⟨_,Tryz.func11,by kernel_rfl,by kernel_rfl⟩
theorem is14 : ∃ F, Tryz.prog.funcs[14]? = some F ∧ (F.name == "runtime.NumGoroutine")=false∧compFn Tryz.prog F=some af14.strip:=⟨_,Tryz.func14,by kernel_rfl,by kernel_rfl⟩
theorem is15 : ∃ F, Tryz.prog.funcs[15]? = some F ∧ (F.name == "runtime.NumGoroutine")=false∧compFn Tryz.prog F=some af15.strip:=⟨_,Tryz.func15,by kernel_rfl,by kernel_rfl⟩
theorem is16 : ∃ F, Tryz.prog.funcs[16]? = some F ∧ (F.name == "runtime.NumGoroutine")=false∧compFn Tryz.prog F=some af16.strip:=⟨_,Tryz.func16,by kernel_rfl,by kernel_rfl⟩
theorem is18 : ∃ F, Tryz.prog.funcs[18]? = some F ∧ (F.name == "runtime.NumGoroutine")=false∧compFn Tryz.prog F=some af18.strip:=⟨_,Tryz.func18,by kernel_rfl,by kernel_rfl⟩
theorem is25 : ∃ F, Tryz.prog.funcs[25]? = some F ∧ (F.name == "runtime.NumGoroutine")=false∧compFn Tryz.prog F=some af25.strip:=⟨_,Tryz.func25,by kernel_rfl,by kernel_rfl⟩
theorem is30 : ∃ F, Tryz.prog.funcs[30]? = some F ∧ (F.name == "runtime.NumGoroutine")=false∧compFn Tryz.prog F=some af30.strip:=⟨_,Tryz.func30,by kernel_rfl,by kernel_rfl⟩
theorem is32 : ∃ F, Tryz.prog.funcs[32]? = some F ∧ (F.name == "runtime.NumGoroutine")=false∧compFn Tryz.prog F=some af32.strip:=⟨_,Tryz.func32,by kernel_rfl,by kernel_rfl⟩
theorem is36 : ∃ F, Tryz.prog.funcs[36]? = some F ∧ (F.name == "runtime.NumGoroutine")=false∧compFn Tryz.prog F=some af36.strip:=⟨_,Tryz.func36,by kernel_rfl,by kernel_rfl⟩
theorem is39 : ∃ F, Tryz.prog.funcs[39]? = some F ∧ (F.name == "runtime.NumGoroutine")=false∧compFn Tryz.prog F=some af39.strip:=⟨_,Tryz.func39,by kernel_rfl,by kernel_rfl⟩
theorem is47 : ∃ F, Tryz.prog.funcs[47]? = some F ∧ (F.name == "runtime.NumGoroutine")=false∧compFn Tryz.prog F=some af47.strip:=⟨_,Tryz.func47,by kernel_rfl,by kernel_rfl⟩
theorem is52 : ∃ F, Tryz.prog.funcs[52]? = some F ∧ (F.name == "runtime.NumGoroutine")=false∧compFn Tryz.prog F=some af52.strip:=⟨_,Tryz.func52,by kernel_rfl,by kernel_rfl⟩
theorem is53 : ∃ F, Tryz.prog.funcs[53]? = some F ∧ (F.name == "runtime.NumGoroutine")=false∧compFn Tryz.prog F=some af53.strip:=⟨_,Tryz.func53,by kernel_rfl,by kernel_rfl⟩
theorem is57 : ∃ F, Tryz.prog.funcs[57]? = some F ∧ (F.name == "runtime.NumGoroutine")=false∧compFn Tryz.prog F=some af57.strip:=⟨_,Tryz.func57,by kernel_rfl,by kernel_rfl⟩
theorem is65 : ∃ F, Tryz.prog.funcs[65]? = some F ∧ (F.name == "runtime.NumGoroutine")=false∧compFn Tryz.prog F=some af65.strip:=⟨_,Tryz.func65,by kernel_rfl,by kernel_rfl⟩
theorem is67 : ∃ F, Tryz.prog.funcs[67]? = some F ∧ (F.name == "runtime.NumGoroutine")=false∧compFn Tryz.prog F=some af67.strip:=⟨_,Tryz.func67,by kernel_rfl,by kernel_rfl⟩
theorem is72 : ∃ F, Tryz.prog.funcs[72]? = some F ∧ (F.name == "runtime.NumGoroutine")=false∧compFn Tryz.prog F=some af72.strip:=⟨_,Tryz.func72,by kernel_rfl,by kernel_rfl⟩
theorem is74 : ∃ F, Tryz.prog.funcs[74]? = some F ∧ (F.name == "runtime.NumGoroutine")=false∧compFn Tryz.prog F=some af74.strip:=⟨_,Tryz.func74,by kernel_rfl,by kernel_rfl⟩
theorem is79 : ∃ F, Tryz.prog.funcs[79]? = some F ∧ (F.name == "runtime.NumGoroutine")=false∧compFn Tryz.prog F=some af79.strip:=⟨_,Tryz.func79,by kernel_rfl,by kernel_rfl⟩
theorem is80 : ∃ F, Tryz.prog.funcs[80]? = some F ∧ (F.name == "runtime.NumGoroutine")=false∧compFn Tryz.prog F=some af80.strip:=⟨_,Tryz.func80,by kernel_rfl,by kernel_rfl⟩
theorem is81 : ∃ F, Tryz.prog.funcs[81]? = some F ∧ (F.name == "runtime.NumGoroutine")=false∧compFn Tryz.prog F=some af81.strip:=⟨_,Tryz.func81,by kernel_rfl,by kernel_rfl⟩
theorem is88 : ∃ F, Tryz.prog.funcs[88]? = some F ∧ (F.name == "runtime.NumGoroutine")=false∧compFn Tryz.prog F=some af88.strip:=⟨_,Tryz.func88,by kernel_rfl,by kernel_rfl⟩
theorem is91 : ∃ F, Tryz.prog.funcs[91]? = some F ∧ (F.name == "runtime.NumGoroutine")=false∧compFn Tryz.prog F=some af91.strip:=⟨_,Tryz.func91,by kernel_rfl,by kernel_rfl⟩
theorem is101 : ∃ F, Tryz.prog.funcs[101]? = some F ∧ (F.name == "runtime.NumGoroutine")=false∧compFn Tryz.prog F=some af101.strip:=⟨_,Tryz.func101,by kernel_rfl,by kernel_rfl⟩
theorem is106 : ∃ F, Tryz.prog.funcs[106]? = some F ∧ (F.name == "runtime.NumGoroutine")=false∧compFn Tryz.prog F=some af106.strip:=⟨_,Tryz.func106,by kernel_rfl,by kernel_rfl⟩
theorem is108 : ∃ F, Tryz.prog.funcs[108]? = some F ∧ (F.name == "runtime.NumGoroutine")=false∧compFn Tryz.prog F=some af108.strip:=⟨_,Tryz.func108,by kernel_rfl,by kernel_rfl⟩
theorem is111 : ∃ F, Tryz.prog.funcs[111]? = some F ∧ (F.name == "runtime.NumGoroutine")=false∧compFn Tryz.prog F=some af111.strip:=⟨_,Tryz.func111,by kernel_rfl,by kernel_rfl⟩
theorem is116 : ∃ F, Tryz.prog.funcs[116]? = some F ∧ (F.name == "runtime.NumGoroutine")=false∧compFn Tryz.prog F=some af116.strip:=⟨_,Tryz.func116,by kernel_rfl,by kernel_rfl⟩
theorem is122 : ∃ F, Tryz.prog.funcs[122]? = some F ∧ (F.name == "runtime.NumGoroutine")=false∧compFn Tryz.prog F=some af122.strip:=⟨_,Tryz.func122,by kernel_rfl,by kernel_rfl⟩
theorem is6 : ∃ F, Tryz.prog.funcs[6]? = some F ∧ (F.name == "runtime.NumGoroutine")=false∧compFn Tryz.prog F=some af6.strip:=⟨_,Tryz.func6,by kernel_rfl,by kernel_rfl⟩
theorem is12 : ∃ F, Tryz.prog.funcs[12]? = some F ∧ (F.name == "runtime.NumGoroutine")=false∧compFn Tryz.prog F=some af12.strip:=⟨_,Tryz.func12,by kernel_rfl,by kernel_rfl⟩
theorem is13 : ∃ F, Tryz.prog.funcs[13]? = some F ∧ (F.name == "runtime.NumGoroutine")=false∧compFn Tryz.prog F=some af13.strip:=⟨_,Tryz.func13,by kernel_rfl,by kernel_rfl⟩
theorem is17 : ∃ F, Tryz.prog.funcs[17]? = some F ∧ (F.name == "runtime.NumGoroutine")=false∧compFn Tryz.prog F=some af17.strip:=⟨_,Tryz.func17,by kernel_rfl,by kernel_rfl⟩
theorem is19 : ∃ F, Tryz.prog.funcs[19]? = some F ∧ (F.name == "runtime.NumGoroutine")=false∧compFn Tryz.prog F=some af19.strip:=⟨_,Tryz.func19,by kernel_rfl,by kernel_rfl⟩
theorem is22 : ∃ F, Tryz.prog.funcs[22]? = some F ∧ (F.name == "runtime.NumGoroutine")=false∧compFn Tryz.prog F=some af22.strip:=⟨_,Tryz.func22,by kernel_rfl,by kernel_rfl⟩
theorem is23 : ∃ F, Tryz.prog.funcs[23]? = some F ∧ (F.name == "runtime.NumGoroutine")=false∧compFn Tryz.prog F=some af23.strip:=⟨_,Tryz.func23,by kernel_rfl,by kernel_rfl⟩
theorem is31 : ∃ F, Tryz.prog.funcs[31]? = some F ∧ (F.name == "runtime.NumGoroutine")=false∧compFn Tryz.prog F=some af31.strip:=⟨_,Tryz.func31,by kernel_rfl,by kernel_rfl⟩
theorem is35 : ∃ F, Tryz.prog.funcs[35]? = some F ∧ (F.name == "runtime.NumGoroutine")=false∧compFn Tryz.prog F=some af35.strip:=⟨_,Tryz.func35,by kernel_rfl,by kernel_rfl⟩
theorem is38 : ∃ F, Tryz.prog.funcs[38]? = some F ∧ (F.name == "runtime.NumGoroutine")=false∧compFn Tryz.prog F=some af38.strip:=⟨_,Tryz.func38,by kernel_rfl,by kernel_rfl⟩
theorem is40 : ∃ F, Tryz.prog.funcs[40]? = some F ∧ (F.name == "runtime.NumGoroutine")=false∧compFn Tryz.prog F=some af40.strip:=⟨_,Tryz.func40,by kernel_rfl,by kernel_rfl⟩
theorem is44 : ∃ F, Tryz.prog.funcs[44]? = some F ∧ (F.name == "runtime.NumGoroutine")=false∧compFn Tryz.prog F=some af44.strip:=⟨_,Tryz.func44,by kernel_rfl,by kernel_rfl⟩
theorem is46 : ∃ F, Tryz.prog.funcs[46]? = some F ∧ (F.name == "runtime.NumGoroutine")=false∧compFn Tryz.prog F=some af46.strip:=⟨_,Tryz.func46,by kernel_rfl,by kernel_rfl⟩
theorem is50 : ∃ F, Tryz.prog.funcs[50]? = some F ∧ (F.name == "runtime.NumGoroutine")=false∧compFn Tryz.prog F=some af50.strip:=⟨_,Tryz.func50,by kernel_rfl,by kernel_rfl⟩
theorem is55 : ∃ F, Tryz.prog.funcs[55]? = some F ∧ (F.name == "runtime.NumGoroutine")=false∧compFn Tryz.prog F=some af55.strip:=⟨_,Tryz.func55,by kernel_rfl,by kernel_rfl⟩
theorem is56 : ∃ F, Tryz.prog.funcs[56]? = some F ∧ (F.name == "runtime.NumGoroutine")=false∧compFn Tryz.prog F=some af56.strip:=⟨_,Tryz.func56,by kernel_rfl,by kernel_rfl⟩
theorem is58 : ∃ F, Tryz.prog.funcs[58]? = some F ∧ (F.name == "runtime.NumGoroutine")=false∧compFn Tryz.prog F=some af58.strip:=⟨_,Tryz.func58,by kernel_rfl,by kernel_rfl⟩
theorem is59 : ∃ F, Tryz.prog.funcs[59]? = some F ∧ (F.name == "runtime.NumGoroutine")=false∧compFn Tryz.prog F=some af59.strip:=⟨_,Tryz.func59,by kernel_rfl,by kernel_rfl⟩
theorem is60 : ∃ F, Tryz.prog.funcs[60]? = some F ∧ (F.name == "runtime.NumGoroutine")=false∧compFn Tryz.prog F=some af60.strip:=⟨_,Tryz.func60,by kernel_rfl,by kernel_rfl⟩
theorem is63 : ∃ F, Tryz.prog.funcs[63]? = some F ∧ (F.name == "runtime.NumGoroutine")=false∧compFn Tryz.prog F=some af63.strip:=⟨_,Tryz.func63,by kernel_rfl,by kernel_rfl⟩
theorem is69 : ∃ F, Tryz.prog.funcs[69]? = some F ∧ (F.name == "runtime.NumGoroutine")=false∧compFn Tryz.prog F=some af69.strip:=⟨_,Tryz.func69,by kernel_rfl,by kernel_rfl⟩
theorem is76 : ∃ F, Tryz.prog.funcs[76]? = some F ∧ (F.name == "runtime.NumGoroutine")=false∧compFn Tryz.prog F=some af76.strip:=⟨_,Tryz.func76,by kernel_rfl,by kernel_rfl⟩
theorem is84 : ∃ F, Tryz.prog.funcs[84]? = some F ∧ (F.name == "runtime.NumGoroutine")=false∧compFn Tryz.prog F=some af84.strip:=⟨_,Tryz.func84,by kernel_rfl,by kernel_rfl⟩
theorem is85 : ∃ F, Tryz.prog.funcs[85]? = some F ∧ (F.name == "runtime.NumGoroutine")=false∧compFn Tryz.prog F=some af85.strip:=⟨_,Tryz.func85,by kernel_rfl,by kernel_rfl⟩
theorem is93 : ∃ F, Tryz.prog.funcs[93]? = some F ∧ (F.name == "runtime.NumGoroutine")=false∧compFn Tryz.prog F=some af93.strip:=⟨_,Tryz.func93,by kernel_rfl,by kernel_rfl⟩
theorem is98 : ∃ F, Tryz.prog.funcs[98]? = some F ∧ (F.name == "runtime.NumGoroutine")=false∧compFn Tryz.prog F=some af98.strip:=⟨_,Tryz.func98,by kernel_rfl,by kernel_rfl⟩
theorem is99 : ∃ F, Tryz.prog.funcs[99]? = some F ∧ (F.name == "runtime.NumGoroutine")=false∧compFn Tryz.prog F=some af99.strip:=⟨_,Tryz.func99,by kernel_rfl,by kernel_rfl⟩
theorem is104 : ∃ F, Tryz.prog.funcs[104]? = some F ∧ (F.name == "runtime.NumGoroutine")=false∧compFn Tryz.prog F=some af104.strip:=⟨_,Tryz.func104,by kernel_rfl,by kernel_rfl⟩
theorem is113 : ∃ F, Tryz.prog.funcs[113]? = some F ∧ (F.name == "runtime.NumGoroutine")=false∧compFn Tryz.prog F=some af113.strip:=⟨_,Tryz.func113,by kernel_rfl,by kernel_rfl⟩
theorem is114 : ∃ F, Tryz.prog.funcs[114]? = some F ∧ (F.name == "runtime.NumGoroutine")=false∧compFn Tryz.prog F=some af114.strip:=⟨_,Tryz.func114,by kernel_rfl,by kernel_rfl⟩
theorem is115 : ∃ F, Tryz.prog.funcs[115]? = some F ∧ (F.name == "runtime.NumGoroutine")=false∧compFn Tryz.prog F=some af115.strip:=⟨_,Tryz.func115,by kernel_rfl,by kernel_rfl⟩
theorem is3 : ∃ F, Tryz.prog.funcs[3]? = some F ∧ (F.name == "runtime.NumGoroutine")=false∧compFn Tryz.prog F=some af3.strip:=⟨_,Tryz.func3,by kernel_rfl,by kernel_rfl⟩
theorem is4 : ∃ F, Tryz.prog.funcs[4]? = some F ∧ (F.name == "runtime.NumGoroutine")=false∧compFn Tryz.prog F=some af4.strip:=⟨_,Tryz.func4,by kernel_rfl,by kernel_rfl⟩
theorem is9 : ∃ F, Tryz.prog.funcs[9]? = some F ∧ (F.name == "runtime.NumGoroutine")=false∧compFn Tryz.prog F=some af9.strip:=⟨_,Tryz.func9,by kernel_rfl,by kernel_rfl⟩
theorem is26 : ∃ F, Tryz.prog.funcs[26]? = some F ∧ (F.name == "runtime.NumGoroutine")=false∧compFn Tryz.prog F=some af26.strip:=⟨_,Tryz.func26,by kernel_rfl,by kernel_rfl⟩
theorem is27 : ∃ F, Tryz.prog.funcs[27]? = some F ∧ (F.name == "runtime.NumGoroutine")=false∧compFn Tryz.prog F=some af27.strip:=⟨_,Tryz.func27,by kernel_rfl,by kernel_rfl⟩
theorem is37 : ∃ F, Tryz.prog.funcs[37]? = some F ∧ (F.name == "runtime.NumGoroutine")=false∧compFn Tryz.prog F=some af37.strip:=⟨_,Tryz.func37,by kernel_rfl,by kernel_rfl⟩
theorem is42 : ∃ F, Tryz.prog.funcs[42]? = some F ∧ (F.name == "runtime.NumGoroutine")=false∧compFn Tryz.prog F=some af42.strip:=⟨_,Tryz.func42,by kernel_rfl,by kernel_rfl⟩
theorem is43 : ∃ F, Tryz.prog.funcs[43]? = some F ∧ (F.name == "runtime.NumGoroutine")=false∧compFn Tryz.prog F=some af43.strip:=⟨_,Tryz.func43,by kernel_rfl,by kernel_rfl⟩
theorem is45 : ∃ F, Tryz.prog.funcs[45]? = some F ∧ (F.name == "runtime.NumGoroutine")=false∧compFn Tryz.prog F=some af45.strip:=⟨_,Tryz.func45,by kernel_rfl,by kernel_rfl⟩
theorem is48 : ∃ F, Tryz.prog.funcs[48]? = some F ∧ (F.name == "runtime.NumGoroutine")=false∧compFn Tryz.prog F=some af48.strip:=⟨_,Tryz.func48,by kernel_rfl,by kernel_rfl⟩
theorem is54 : ∃ F, Tryz.prog.funcs[54]? = some F ∧ (F.name == "runtime.NumGoroutine")=false∧compFn Tryz.prog F=some af54.strip:=⟨_,Tryz.func54,by kernel_rfl,by kernel_rfl⟩
theorem is61 : ∃ F, Tryz.prog.funcs[61]? = some F ∧ (F.name == "runtime.NumGoroutine")=false∧compFn Tryz.prog F=some af61.strip:=⟨_,Tryz.func61,by kernel_rfl,by kernel_rfl⟩
theorem is71 : ∃ F, Tryz.prog.funcs[71]? = some F ∧ (F.name == "runtime.NumGoroutine")=false∧compFn Tryz.prog F=some af71.strip:=⟨_,Tryz.func71,by kernel_rfl,by kernel_rfl⟩
theorem is73 : ∃ F, Tryz.prog.funcs[73]? = some F ∧ (F.name == "runtime.NumGoroutine")=false∧compFn Tryz.prog F=some af73.strip:=⟨_,Tryz.func73,by kernel_rfl,by kernel_rfl⟩
theorem is77 : ∃ F, Tryz.prog.funcs[77]? = some F ∧ (F.name == "runtime.NumGoroutine")=false∧compFn Tryz.prog F=some af77.strip:=⟨_,Tryz.func77,by kernel_rfl,by kernel_rfl⟩
theorem is78 : ∃ F, Tryz.prog.funcs[78]? = some F ∧ (F.name == "runtime.NumGoroutine")=false∧compFn Tryz.prog F=some af78.strip:=⟨_,Tryz.func78,by kernel_rfl,by kernel_rfl⟩
theorem is82 : ∃ F, Tryz.prog.funcs[82]? = some F ∧ (F.name == "runtime.NumGoroutine")=false∧compFn Tryz.prog F=some af82.strip:=⟨_,Tryz.func82,by kernel_rfl,by kernel_rfl⟩
theorem is87 : ∃ F, Tryz.prog.funcs[87]? = some F ∧ (F.name == "runtime.NumGoroutine")=false∧compFn Tryz.prog F=some af87.strip:=⟨_,Tryz.func87,by kernel_rfl,by kernel_rfl⟩
theorem is90 : ∃ F, Tryz.prog.funcs[90]? = some F ∧ (F.name == "runtime.NumGoroutine")=false∧compFn Tryz.prog F=some af90.strip:=⟨_,Tryz.func90,by kernel_rfl,by kernel_rfl⟩
theorem is92 : ∃ F, Tryz.prog.funcs[92]? = some F ∧ (F.name == "runtime.NumGoroutine")=false∧compFn Tryz.prog F=some af92.strip:=⟨_,Tryz.func92,by kernel_rfl,by kernel_rfl⟩
theorem is100 : ∃ F, Tryz.prog.funcs[100]? = some F ∧ (F.name == "runtime.NumGoroutine")=false∧compFn Tryz.prog F=some af100.strip:=⟨_,Tryz.func100,by kernel_rfl,by kernel_rfl⟩
theorem is102 : ∃ F, Tryz.prog.funcs[102]? = some F ∧ (F.name == "runtime.NumGoroutine")=false∧compFn Tryz.prog F=some af102.strip:=⟨_,Tryz.func102,by kernel_rfl,by kernel_rfl⟩
theorem is103 : ∃ F, Tryz.prog.funcs[103]? = some F ∧ (F.name == "runtime.NumGoroutine")=false∧compFn Tryz.prog F=some af103.strip:=⟨_,Tryz.func103,by kernel_rfl,by kernel_rfl⟩
theorem is110 : ∃ F, Tryz.prog.funcs[110]? = some F ∧ (F.name == "runtime.NumGoroutine")=false∧compFn Tryz.prog F=some af110.strip:=⟨_,Tryz.func110,by kernel_rfl,by kernel_rfl⟩
theorem is117 : ∃ F, Tryz.prog.funcs[117]? = some F ∧ (F.name == "runtime.NumGoroutine")=false∧compFn Tryz.prog F=some af117.strip:=⟨_,Tryz.func117,by kernel_rfl,by kernel_rfl⟩
theorem is118 : ∃ F, Tryz.prog.funcs[118]? = some F ∧ (F.name == "runtime.NumGoroutine")=false∧compFn Tryz.prog F=some af118.strip:=⟨_,Tryz.func118,by kernel_rfl,by kernel_rfl⟩
theorem is119 : ∃ F, Tryz.prog.funcs[119]? = some F ∧ (F.name == "runtime.NumGoroutine")=false∧compFn Tryz.prog F=some af119.strip:=⟨_,Tryz.func119,by kernel_rfl,by kernel_rfl⟩
theorem is121 : ∃ F, Tryz.prog.funcs[121]? = some F ∧ (F.name == "runtime.NumGoroutine")=false∧compFn Tryz.prog F=some af121.strip:=⟨_,Tryz.func121,by kernel_rfl,by kernel_rfl⟩
theorem is123 : ∃ F, Tryz.prog.funcs[123]? = some F ∧ (F.name == "runtime.NumGoroutine")=false∧compFn Tryz.prog F=some af123.strip:=⟨_,Tryz.func123,by kernel_rfl,by kernel_rfl⟩
theorem is140 : ∃ F, Tryz.prog.funcs[140]? = some F ∧ (F.name == "runtime.NumGoroutine")=false∧compFn Tryz.prog F=some af140.strip:=⟨_,Tryz.func140,by kernel_rfl,by kernel_rfl⟩
theorem is141 : ∃ F, Tryz.prog.funcs[141]? = some F ∧ (F.name == "runtime.NumGoroutine")=false∧compFn Tryz.prog F=some af141.strip:=⟨_,Tryz.func141,by kernel_rfl,by kernel_rfl⟩
end Ev
end Go.Proofs.YtlcjlcllbgjplaaGreat
