/- The Go function RoadTells returns true, for every argument, in every world in which it is called; nothing that was there is turned. No condition. -/
import Derived.Test.YtlcjlcllbgjplaaGreatTsLA
import Derived.Test.YtlcjlcllbgjplaaGreatTsPF
/- The reference of chapter 05, gone through: Below, its inner loops. -/
namespace Go.Proofs.YtlcjlcllbgjplaaGreat
open Go
namespace Ev
namespace Ro
open K
attribute [local simp] ev1 wantG spineK spine float xnew xval xeff zab zae zaq zah zai addFl cellsOf pickC alive slLen slFt binI maxA maxK minA minK aeqK aeqS AV.cells spA zad fillA setAt bitsI nat_nn zar AV.plain apart
set_option maxRecDepth 100000
set_option maxHeartbeats 4000000
def blP (r:Rd.Road)(v:Nat)(ls:List Int)(x:Int × Rd.Tr):Bool:=decide (Rd.inI r x.2 x.1 ls (v+1)<0)
def be6St (H:List AB)(n q:Nat)(s1 s2:Int)(v:Nat)(ea so:Bool)(a:Nat)(one:Bool)(i:Nat)(al:Bool)(j:Nat)(G:List AB):St:={ tm:=tmA 100 [(16,.int .i64 j),(15,.bool al),(14,.int .i64 i),(13,.bool one),(12,.int .i64 a),(11,.bool so),(10,.bool ea),(9,.int .i64 v),(8,.int .i64 s2),(7,.int .i64 s1),(5,.sl q 0 n 2),(1,.ptr H.length 0)],df:=[],hp:=G,tc:=[] }
def be4St (H:List AB)(n q:Nat)(s1 s2:Int)(v:Nat)(ea so:Bool)(a:Nat)(one:Bool)(i:Nat)(G:List AB):St:={ tm:=tmA 100 [(14,.int .i64 i),(13,.bool one),(12,.int .i64 a),(11,.bool so),(10,.bool ea),(9,.int .i64 v),(8,.int .i64 s2),(7,.int .i64 s1),(5,.sl q 0 n 2),(1,.ptr H.length 0)],df:=[],hp:=G,tc:=[] }
def be2St (H:List AB)(n q:Nat)(s1 s2:Int)(v:Nat)(ea so:Bool)(a:Nat)(G:List AB):St:={ tm:=tmA 100 [(12,.int .i64 a),(11,.bool so),(10,.bool ea),(9,.int .i64 v),(8,.int .i64 s2),(7,.int .i64 s1),(5,.sl q 0 n 2),(1,.ptr H.length 0)],df:=[],hp:=G,tc:=[] }
def be0St (H:List AB)(n q:Nat)(s1 s2:Int)(v:Nat)(G:List AB):St:={ tm:=tmA 100 [(9,.int .i64 v),(8,.int .i64 s2),(7,.int .i64 s1),(5,.sl q 0 n 2),(1,.ptr H.length 0)],df:=[],hp:=G,tc:=[] }
theorem zya (C:Cfg)(call:CallF)(r:Rd.Road)(hI:InC call r)(H G:List AB)(c0:HB G H.length (.cells (roadCs r)))(n np q:Nat)(cs:List AV)(a i:Nat)(ls:List Int)(T:List (Int × Rd.Tr))(w:AV)(q1 q2:Nat)(vs:List AV)(hW:CsW G n np q cs a i ls T w q1 q2 vs)(s1 s2:Int)(v:Nat)(hv:v<r.events.length)(hve:r.events.length≤10)(ha:a<n)(hi:i<np)(_hnp:np≤4)(j:Nat)(x:Int × Rd.Tr)(hj:T[j]?=some x)(hT:T.length≤27)(hs:Rd.St0 r i x.2 x.1 ls)(ea so one al:Bool):
  Does (ev C call H.length none (atP [1,1,1,1,0,1,0,0,1,0,0,1,0,1,0,0,1,0,0,1,0,1,0,0,1,0,0,1,0,1,0,0] af14.body) (be6St H n q s1 s2 v ea so a one i al j G))
   (fun e st=>e=.normal∧{ st with tm:=keepT [1,5,7,8,9,10,11,12,13,14,15,16] st.tm }=be6St H n q s1 s2 v ea (so || blP r v ls x) a one i (al&&blP r v ls x) (j+1) G):=by
 obtain ⟨h,p⟩:=x
 have hjT:=(List.getElem?_eq_some_iff.1 hj).1
 have hld:=zio hj
 have hcl:=zdq T
 obtain ⟨b0,cl,ck,lo,cv,b1,vl,vi,b2⟩:=hW
 have hcall:=hI G i p h ls w (v+1) hs lo hv
 have e1:((v+1:Nat):Int)=(v:Int)+1:=rfl
 rw[e1] at hcall
 have hwv:IntKind.i64.wrap ((v:Int)+1)=(v:Int)+1:=zaj (by omega) (by omega)
 unfold blP
 dsimp only
 generalize Rd.inI r p h ls (v+1)=y at *
 generalize T.length=tl at *
 have ck':=ge_of ck
 have cv':=ge_of cv
 have vi':=ge_of vi
 have f1:(a:Int)<n:=by omega
 have f2:(i:Int)<np:=by omega
 have f3:(j:Int)<tl:=by omega
 have f4:a * 2+2≤n * 2:=by omega
 have f4':a * 2+1+1≤n * 2:=by omega
 have f5:i+1≤np:=hi
 have f6:j * 3+3≤tl * 3:=by omega
 have hw:IntKind.i64.wrap (↑j+1)=↑j+1:=zaj (by omega) (by omega)
 obtain ⟨A1,A2,A3⟩:=b0
 obtain ⟨B1,B2,B3⟩:=b1
 obtain ⟨D1,D2,D3⟩:=b2
 obtain ⟨E1,E2,E3⟩:=c0
 clear hI hs lo hj e1 hve hv
 by_cases hy:y<0
 ·rw[decide_eq_true hy,Bool.and_true,Bool.or_true]
  have hdy:=decide_eq_true hy
  unfold af14 Zq Zm Zl Zo Zd Zc Zt Zn be6St
  simp only[atP,roadCs] at *
  (refine gC ?_)
  refine ⟨by first|rfl|trivial,?_⟩
  (exact inwP)
 ·rw[decide_eq_false hy,Bool.and_false,Bool.or_false]
  have hdy:=decide_eq_false hy
  unfold af14 Zq Zm Zl Zo Zd Zc Zt Zn be6St
  simp only[atP,roadCs] at *
  (refine gC ?_)
  refine ⟨by first|rfl|trivial,?_⟩
  (exact inwP)
theorem zvn (C:Cfg)(hC:C.calm=true)(call:CallF)(r:Rd.Road)(hI:InC call r)(H G:List AB)(c0:HB G H.length (.cells (roadCs r)))(n q:Nat)(cs:List AV)(a i:Nat)(ls:List Int)(T:List (Int × Rd.Tr))(w:AV)(q1 q2:Nat)(vs:List AV)(hW:CsW G n r.parts.length q cs a i ls T w q1 q2 vs)(s1 s2:Int)(v:Nat)(hv:v<r.events.length)(hve:r.events.length≤10)(ha:a<n)(_hn:n≤81)(hi:i<r.parts.length)(hnp:r.parts.length≤4)(hT:T.length≤27)(hs:∀ (j:Nat) (x:Int × Rd.Tr),T[j]?=some x→Rd.St0 r i x.2 x.1 ls)(ea so one:Bool):
  Does (ev C call H.length none (atP [1,1,1,1,0,1,0,0,1,0,0,1,0,1,0,0,1,0,0,1,0,1,0,0] af14.body) (be4St H n q s1 s2 v ea so a one i G))
   (fun e st=>e=.normal∧{ st with tm:=keepT [1,5,7,8,9,10,11,12,13,14] st.tm }=be4St H n q s1 s2 v ea (so || T.any (blP r v ls)) a (one || T.all (blP r v ls)) (i+1) G):=by
 have HX:=hideP (And.intro hI (And.intro c0 (And.intro hW (And.intro hs hT))))
 have hW':=hW
 obtain ⟨b0,cl,ck,lo,cv,b1,vl,vi,b2⟩:=hW'
 clear hW
 have cv':=ge_of cv
 have vi':=ge_of vi
 have f1:(a:Int)<n:=by omega
 have f2:(i:Int)<r.parts.length:=by omega
 have f4:a * 2+2≤n * 2:=by omega
 have f4':a * 2+1+1≤n * 2:=by omega
 have f5:i+1≤r.parts.length:=hi
 have hw1:IntKind.i64.wrap ((i:Int)+1)=(i:Int)+1:=zaj (by omega) (by omega)
 obtain ⟨A1,A2,A3⟩:=b0
 obtain ⟨B1,B2,B3⟩:=b1
 obtain ⟨D1,D2,D3⟩:=b2
 obtain ⟨E1,E2,E3⟩:=c0
 clear hI hs hT lo ck
 generalize htl:T.length=tl at *
 have HT:=hideP htl
 clear htl
 unfold af14 Zq Zm Zl Zo Zd Zc Zt Zn be4St
 simp only[atP,roadCs] at *
 (refine gB ?_)
 with_reducible refine zak hC tl (by have:=HX.out.2.2.2.2;have:=HT.out;unfold fuelL;omega) (fun j st=>st=be6St H n q s1 s2 v ea (so || (T.take j).any (blP r v ls)) a one i ((T.take j).all (blP r v ls)) j G) ?_ ?_ ?_
 ·unfold be6St
  simp only[List.take_zero,List.all_nil,List.any_nil,Bool.or_false]
  (exact inwP)
 ·rintro j st hj rfl
  obtain ⟨hI,c0,hW,hs,hT⟩:=HX.out
  have htl:=HT.out
  obtain ⟨x,hx⟩:∃ x,T[j]?=some x:=⟨_,List.getElem?_eq_getElem (by omega)⟩
  rw[Rd.take_all hx,Rd.take_any hx]
  have hr:=zya C call r hI H G c0 n r.parts.length q cs a i ls T w q1 q2 vs hW s1 s2 v hv hve ha hi hnp j x hx (by omega) (hs j x hx) ea (so || (T.take j).any (blP r v ls)) one ((T.take j).all (blP r v ls))
  refine Does.mono hr ?_
  rintro e st ⟨rfl,h2⟩
  rw[← Bool.or_assoc]
  exact h2
 ·rintro st rfl
  have htl:=HT.out
  rw[show T.take tl=T from List.take_of_length_le (by omega)]
  generalize T.all (blP r v ls)=ta
  generalize T.any (blP r v ls)=tb
  clear htl HX HT
  unfold be6St
  cases one
  ·rw[Bool.false_or]
   (refine gB ?_)
   refine ⟨by first|rfl|trivial,?_⟩
   (exact inwP)
  ·rw[Bool.true_or]
   (refine gB ?_)
   refine ⟨by first|rfl|trivial,?_⟩
   (exact inwP)
end Ro
end Ev
end Go.Proofs.YtlcjlcllbgjplaaGreat

/- The reference of chapter 05, gone through: Height. -/
namespace Go.Proofs.YtlcjlcllbgjplaaGreat
open Go
namespace Ev
namespace Ro
open K
attribute [local simp] ev1 wantG spineK spine float xnew xval xeff zab zae zaq zah zai addFl cellsOf pickC alive slLen slFt binI maxA maxK minA minK aeqK aeqS AV.cells spA zad fillA setAt bitsI nat_nn zar AV.plain apart
set_option maxRecDepth 100000
set_option maxHeartbeats 4000000
theorem zlr (C:Cfg)(call:CallF)(r:Rd.Road)(hP:RpartC call r)(hV:RevtC call r)(hK:KnoC call r)(hH:Rd.Fine r→HgtsC call r)(H:List AB)(n m:Int):
  Does (ev C call H.length none af8.body { tm:=tmA af8.ntmps (zipI 0 [.agg (roadCs r),.int .i64 n,.int .i64 m] []),df:=[],hp:=H,tc:=[] })
   (Ends C H.length af8.res fun v _ tc=>v=spanRV r (Rd.isPart r n&&Rd.isEvent r m) (Rd.heightsR r n.toNat (m.toNat+1))∧tc=[]):=by
 have hp:=fun H=>hP H n
 have hv:=fun H=>hV H m
 clear hP hV
 by_cases he:Rd.errR r (Rd.isPart r n&&Rd.isEvent r m)=0
 ·obtain ⟨hb,hf,hcan⟩:=Rd.errR_zero he
  unfold spanRV
  rw[he,if_pos rfl]
  rw[hb] at he
  rw[Bool.and_eq_true] at hb
  obtain ⟨q,cs,G,hcall,kp,hq,hB,hE⟩:=hK.yes he (H++[.cells (roadCs r),.cells [.int .i64 0,.int .i64 0]])
  rw[hb.1] at hp
  rw[hb.2] at hv
  have hne:Rd.casesR r (Rd.everyR r)≠[]:=by
   intro h
   rw[zhh hf,h] at hcan
   cases hcan
  obtain ⟨n',rfl⟩:∃ n':Nat,n=n':=⟨n.toNat,by have:=of_decide_eq_true hb.1;omega⟩
  obtain ⟨m',rfl⟩:∃ m':Nat,m=m':=⟨m.toNat,by have:=of_decide_eq_true hb.2;omega⟩
  have h1:=of_decide_eq_true hb.1
  have h2:=of_decide_eq_true hb.2
  have h10:=hf.events
  have hh:=fun K=>hH hf (G++K) q cs n' (m'+1) (hB.app K) (hE.keep (.inr rfl) fun p x _ h=>h.app K) hne (by omega) (by omega)
  rw[Rd.heights_ref hf hcan (by omega)] at hh
  have hw:IntKind.i64.wrap ((m':Int)+1)=(m':Int)+1:=zaj (by omega) (by omega)
  simp only[Int.toNat_natCast]
  generalize Rd.heightsR r n' (m'+1)=s at *
  have hlG:H.length≤G.length:=by have:=kp.len;simp only[List.length_append,List.length_cons,List.length_nil] at this;omega
  have c0:HB G H.length (.cells (roadCs r)):=hb' kp (by rw[List.getElem?_append_right (Nat.le_refl _),Nat.sub_self];rfl)
  have c1:HB G (H.length+1) (.cells [.int .i64 0,.int .i64 0]):=hb' kp (by rw[List.getElem?_append_right (by omega),Nat.add_sub_cancel_left];rfl)
  obtain ⟨A1,A2,A3⟩:=c0
  obtain ⟨B1,B2,B3⟩:=c1
  have hh0:=hh []
  rw[List.append_nil,show ((m'+1:Nat):Int)=(m':Int)+1 by omega] at hh0
  clear hK hH hb he hcan hne h1 h2 h10 hB hE kp hq hf hh
  unfold af8 Zq Zm Zo Zs Zd Zc Zt Zn Zi
  simp only[zipI,roadCs] at *
  (refine gC ?_)
  exact zac (v:=.tup [.agg [.int .i64 s.lo,.int .i64 s.hi],.int .i64 0]) (.inl rfl) rfl (by simp;omega) (by simp only[resL,resOf,zaa];simp[*,pickC,resV]) ⟨rfl,by simp⟩
 ·have hn:=hK.no _ he
  unfold spanRV
  rw[if_neg he]
  clear hK hH
  generalize Rd.isPart r n=b1 at *
  generalize Rd.isEvent r m=b2 at *
  cases b1<;>cases b2
  all_goals
   simp only[Bool.and_true,Bool.and_false] at hn he ⊢
   generalize Rd.errR r _=e at hn he ⊢
   have he0:(e==0)=false:=beq_false_of_ne he
   unfold af8 Zq Zm Zo Zs Zd Zc Zt Zn Zi
   simp only[zipI,roadCs] at *
   (refine gC ?_)
   exact zac (v:=.tup [.agg [.int .i64 0,.int .i64 0],.int .i64 e]) (.inl rfl) rfl (by simp) (by simp only[resL,resOf,zaa];simp[*,pickC,resV]) ⟨rfl,by simp⟩
where
 hb' {H G:List AB} {q:Nat} {x:AB} (k:Kp [] H G) (h:H[q]?=some x):HB G q x:=hb (k.at h (by simp))
end Ro
end Ev
end Go.Proofs.YtlcjlcllbgjplaaGreat

/- The reference of chapter 05, gone through: Below. -/
namespace Go.Proofs.YtlcjlcllbgjplaaGreat
open Go
namespace Ev
namespace Ro
open K
attribute [local simp] ev1 wantG spineK spine float xnew xval xeff zab zae zaq zah zai addFl cellsOf pickC alive slLen slFt binI maxA maxK minA minK aeqK aeqS AV.cells spA zad fillA setAt bitsI nat_nn zar AV.plain apart
set_option maxRecDepth 100000
set_option maxHeartbeats 4000000
def eaP (r:Rd.Road)(v:Nat)(d:List Int × List (List (Int × Rd.Tr))):Bool:=(List.range r.parts.length).any fun i=>(d.2.getD i []).all fun x=>decide (Rd.inI r x.2 x.1 d.1 (v+1)<0)
def soQ (r:Rd.Road)(v:Nat)(d:List Int × List (List (Int × Rd.Tr))):Bool:=(List.range r.parts.length).any fun i=>(d.2.getD i []).any fun x=>decide (Rd.inI r x.2 x.1 d.1 (v+1)<0)
theorem zrf (C:Cfg)(hC:C.calm=true)(call:CallF)(r:Rd.Road)(hf:Rd.Fine r)(hI:InC call r)(H G:List AB)(c0:HB G H.length (.cells (roadCs r)))(n q:Nat)(cs:List AV)(D:List (List Int × List (List (Int × Rd.Tr))))(hD:D=Rd.casesR r (Rd.everyR r))(hnD:D.length=n)(a:Nat)(d:List Int × List (List (Int × Rd.Tr)))(hd:D[a]?=some d)
  (hway:∀ i,i<r.parts.length→∃ w q1 q2 vs,CsW G n r.parts.length q cs a i d.1 (Rd.statesR r i d.1 (Rd.everyR r)) w q1 q2 vs) (s1 s2:Int) (v:Nat) (hv:v<r.events.length) (ea so:Bool):
  Does (ev C call H.length none (atP [1,1,1,1,0,1,0,0,1,0,0,1,0,1,0,0] af14.body) (be2St H n q s1 s2 v ea so a G))
   (fun e st=>e=.normal∧{ st with tm:=keepT [1,5,7,8,9,10,11,12] st.tm }=be2St H n q s1 s2 v (ea&&eaP r v d) (so || soQ r v d) (a+1) G):=by
 have hp4:=hf.parts
 have hve:=hf.events
 have hn81:n≤81:=by rw[← hnD,hD];exact Rd.cases_81 hf _
 have han:a<n:=by rw[← hnD];exact (List.getElem?_eq_some_iff.1 hd).1
 have hdm:d∈Rd.casesR r (Rd.everyR r):=by rw[← hD];exact List.mem_of_getElem? hd
 have hin:=Rd.case_in hf hdm
 have hsd:∀ i,i<r.parts.length→d.2.getD i []=Rd.statesR r i d.1 (Rd.everyR r):=fun i hi=>Rd.case_getD hf hi hdm
 have hst:=fun i (hi:i<r.parts.length) (j:Nat) (x:Int × Rd.Tr) (hj:(Rd.statesR r i d.1 (Rd.everyR r))[j]?=some x)=>Rd.state_ok (h:=x.1) (p:=x.2) hf hi hin.1 hj
 obtain ⟨w,w1,w2,vs,hW⟩:=hway 0 (by omega)
 have HX:=hideP (And.intro hI (And.intro c0 (And.intro hin (And.intro hsd (And.intro hst hway)))))
 obtain ⟨A1,A2,A3⟩:=hW.c0
 obtain ⟨E1,E2,E3⟩:=c0
 have f1:(a:Int)<n:=by omega
 have hw1:IntKind.i64.wrap ((a:Int)+1)=(a:Int)+1:=zaj (by omega) (by omega)
 clear hI hin hsd hst hway hW hdm hd hD hnD hf
 unfold af14 Zq Zm Zl Zo Zd Zc Zt Zn be2St
 simp only[atP,roadCs] at *
 (refine gB ?_)
 with_reducible refine zak hC r.parts.length (by unfold fuelL;omega) (fun i st=>st=be4St H n q s1 s2 v ea (so || (List.range i).any fun i=>(d.2.getD i []).any (blP r v d.1)) a ((List.range i).any fun i=>(d.2.getD i []).all (blP r v d.1)) i G) ?_ ?_ ?_
 ·unfold be4St
  simp only[List.range_zero,List.any_nil,Bool.or_false]
  (exact inwP)
 ·rintro i st hi rfl
  obtain ⟨hI,c0,hin,hsd,hst,hway⟩:=HX.out
  obtain ⟨w,w1,w2,vs,hW⟩:=hway i hi
  rw[Rd.range_any,Rd.range_any,hsd i hi]
  have hr:=zvn C hC call r hI H G c0 n q cs a i d.1 (Rd.statesR r i d.1 (Rd.everyR r)) w w1 w2 vs hW s1 s2 v hv hve han hn81 hi hp4.2 (hin.2.2 i hi).2.2 (hst i hi) ea (so || (List.range i).any fun i=>(d.2.getD i []).any (blP r v d.1)) ((List.range i).any fun i=>(d.2.getD i []).all (blP r v d.1))
  refine Does.mono hr ?_
  rintro e st ⟨rfl,h2⟩
  rw[← Bool.or_assoc]
  exact h2
 ·rintro st rfl
  have e1:((List.range r.parts.length).any fun i=>(d.2.getD i []).all (blP r v d.1))=eaP r v d:=rfl
  have e2:((List.range r.parts.length).any fun i=>(d.2.getD i []).any (blP r v d.1))=soQ r v d:=rfl
  rw[e1,e2]
  generalize eaP r v d=x1
  generalize soQ r v d=x2
  clear HX e1 e2
  unfold be4St
  cases ea
  ·rw[Bool.false_and]
   (refine gB ?_)
   refine ⟨by first|rfl|trivial,?_⟩
   (exact inwP)
  ·rw[Bool.true_and]
   (refine gB ?_)
   refine ⟨by first|rfl|trivial,?_⟩
   (exact inwP)
theorem zpi (C:Cfg)(hC:C.calm=true)(call:CallF)(r:Rd.Road)(hK:KnoC call r)(hI:Rd.Fine r→InC call r)(hPw:PowC call)(H:List AB):
  Does (ev C call H.length none af14.body { tm:=tmA af14.ntmps (zipI 0 [.agg (roadCs r)] []),df:=[],hp:=H,tc:=[] })
   (Ends C H.length af14.res fun v _ tc=>v=belowRV r∧tc=[]):=by
 by_cases he:Rd.errR r true=0
 ·obtain ⟨hbb,hf,hcan⟩:=Rd.errR_zero he
  unfold belowRV
  rw[he,if_pos rfl,if_pos rfl,← (Rd.below_ref hf).1,← (Rd.below_ref hf).2]
  obtain ⟨q,cs,G,hcall,kp,hq,hb0,hE⟩:=hK.yes he (H++[.cells (roadCs r)])
  have hp4:=hf.parts
  have hve:=hf.events
  have h81:=Rd.cases_81 hf (Rd.everyR r)
  have hway:=fun (a:Nat) (d:List Int × List (List (Int × Rd.Tr))) (ha:(Rd.casesR r (Rd.everyR r))[a]?=some d) i (hi:i<r.parts.length)=>zjg hf hb0 hE ha hi
  have hlG:H.length≤G.length:=by have:=kp.len;simp only[List.length_append,List.length_cons,List.length_nil] at this;omega
  have c0:HB G H.length (.cells (roadCs r)):=hb (kp.at (by rw[List.getElem?_append_right (Nat.le_refl _),Nat.sub_self];rfl) (by simp))
  have e1:Rd.surelyI r=Clm.setOf (fun v=>(Rd.casesR r (Rd.everyR r)).all (eaP r v)) r.events.length:=rfl
  have e2:Rd.perhapsI r=Clm.setOf (fun v=>(Rd.casesR r (Rd.everyR r)).any (soQ r v)) r.events.length:=rfl
  rw[e1,e2]
  generalize hD:Rd.casesR r (Rd.everyR r)=D at *
  generalize hn:D.length=n at *
  have HX:=hideP (And.intro hD (And.intro hn (And.intro hway (And.intro (hI hf) (And.intro hPw (And.intro hf (And.intro c0 hb0)))))))
  obtain ⟨A1,A2,A3⟩:=c0
  obtain ⟨Q1,Q2,Q3⟩:=hb0
  clear hK hI hPw hbb hcan he hE kp hq hf hway hD hn e1 e2
  unfold af14 Zq Zm Zl Zo Zd Zc Zt Zn
  simp only[zipI,roadCs] at *
  (refine gB ?_)
  with_reducible refine zak hC r.events.length (by unfold fuelL;omega) (fun v st=>st=be0St H n q (Clm.setOf (fun v=>D.all (eaP r v)) v:Nat) (Clm.setOf (fun v=>D.any (soQ r v)) v:Nat) v G) ?_ ?_ ?_
  ·unfold be0St
   simp only[Clm.setOf]
   (exact inwP)
  ·rintro v st hv rfl
   obtain ⟨hD,hn,hway,hI,hPw,hf,c0,hb0⟩:=HX.out
   have hs1:=Clm.setOf_lt (fun v=>D.all (eaP r v)) v
   have hs2:=Clm.setOf_lt (fun v=>D.any (soQ r v)) v
   have hpw:=fun K=>hPw K v (by omega)
   have h1024:2 ^ v≤2 ^ 10:=Nat.pow_le_pow_right (by decide) (by omega)
   have h3:(2:Nat) ^ 10=1024:=rfl
   have st1:Clm.setOf (fun v=>D.all (eaP r v)) (v+1)=if D.all (eaP r v)=true then Clm.setOf (fun v=>D.all (eaP r v)) v+2 ^ v else Clm.setOf (fun v=>D.all (eaP r v)) v:=rfl
   have st2:Clm.setOf (fun v=>D.any (soQ r v)) (v+1)=if D.any (soQ r v)=true then Clm.setOf (fun v=>D.any (soQ r v)) v+2 ^ v else Clm.setOf (fun v=>D.any (soQ r v)) v:=rfl
   rw[st1,st2]
   generalize Clm.setOf (fun v=>D.all (eaP r v)) v=y1 at *
   generalize Clm.setOf (fun v=>D.any (soQ r v)) v=y2 at *
   generalize 2 ^ v=pw at *
   have f1:(v:Int)<r.events.length:=by omega
   have hw1:IntKind.i64.wrap ((v:Int)+1)=(v:Int)+1:=zaj (by omega) (by omega)
   have hw2:IntKind.i64.wrap ((y1:Int)+pw)=(y1:Int)+pw:=zaj (by omega) (by omega)
   have hw3:IntKind.i64.wrap ((y2:Int)+pw)=(y2:Int)+pw:=zaj (by omega) (by omega)
   clear hD hn hway hI hPw hf c0 hb0 h1024 h3 hs1 hs2 st1 st2 hcall
   unfold be0St
   (refine gB ?_)
   with_reducible refine zak hC n (by unfold fuelL;omega) (fun a st=>st=be2St H n q y1 y2 v ((D.take a).all (eaP r v)) ((D.take a).any (soQ r v)) a G) ?_ ?_ ?_
   ·unfold be2St
    simp only[List.take_zero,List.all_nil,List.any_nil]
    (exact inwP)
   ·rintro a st ha rfl
    obtain ⟨hD,hn,hway,hI,hPw,hf,c0,hb0⟩:=HX.out
    obtain ⟨d,hd⟩:∃ d,D[a]?=some d:=⟨_,List.getElem?_eq_getElem (by omega)⟩
    rw[Rd.take_all hd,Rd.take_any hd]
    have hr:=zrf C hC call r hf hI H G c0 n q cs D hD.symm hn a d hd (hway a d hd) y1 y2 v hv ((D.take a).all (eaP r v)) ((D.take a).any (soQ r v))
    refine Does.mono hr ?_
    rintro e st ⟨rfl,h2⟩
    exact h2
   ·rintro st rfl
    have hn:=HX.out.2.1
    rw[show D.take n=D from List.take_of_length_le (by omega)]
    generalize D.all (eaP r v)=b1
    generalize D.any (soQ r v)=b2
    clear hn HX
    cases b1<;>cases b2
    all_goals
     unfold be2St
     simp only[Bool.false_eq_true,if_true,if_false]
     (refine gB ?_)
     (exact inwP)
  ·rintro st rfl
   generalize (Clm.setOf (fun v=>D.all (eaP r v)) r.events.length:Nat)=y1 at *
   generalize (Clm.setOf (fun v=>D.any (soQ r v)) r.events.length:Nat)=y2 at *
   clear HX hcall
   unfold be0St
   (refine gB ?_)
   exact zac (v:=.tup [.int .i64 y1,.int .i64 y2,.int .i64 0]) (.inl rfl) rfl (by simp;omega) (by simp only[resL,resOf,zaa];simp[*,resV]) ⟨rfl,by simp⟩
 ·have hn:=hK.no _ he
  unfold belowRV
  rw[if_neg he,if_neg he]
  clear hK hI hPw
  generalize Rd.errR r _=e at hn he ⊢
  have he0:(e==0)=false:=beq_false_of_ne he
  unfold af14 Zq Zm Zl Zo Zd Zc Zt Zn
  simp only[zipI,roadCs] at *
  (refine gB ?_)
  exact zac (v:=.tup [.int .i64 0,.int .i64 0,.int .i64 e]) (.inl rfl) rfl (by simp) (by simp only[resL,resOf,zaa];simp[*,resV]) ⟨rfl,by simp⟩
end Ro
end Ev
end Go.Proofs.YtlcjlcllbgjplaaGreat

/- The reference of chapter 05, gone through: bears, and Bears. -/
namespace Go.Proofs.YtlcjlcllbgjplaaGreat
open Go
namespace Rd
def mayD (r:Road)(days:Nat)(load:Int):Bool:=(casesR r (everyR r)).any fun d=>(List.range r.parts.length).all fun i=>(d.2.getD i []).any fun x=>aboveI r x.2 x.1 d.1 days load
def bearD (r:Road)(days:Nat)(load:Int):Int:=if sureI r days load then 2 else if mayD r days load then 1 else 0
theorem bearD_zero {r:Road}(hr:Fine r)(load:Int):bearD r 0 load=bearsR r load:=by
 unfold bearD bearsR
 rw[zwd hr]
 have:mayD r 0 load=mayR r load:=zzc hr load
 rw[this]
 rfl
end Rd
namespace Ev
namespace Ro
open K
attribute [local simp] ev1 wantG spineK spine float xnew xval xeff zab zae zaq zah zai addFl cellsOf pickC alive slLen slFt binI maxA maxK minA minK aeqK aeqS AV.cells spA zad fillA setAt bitsI nat_nn zar AV.plain apart
set_option maxRecDepth 100000
set_option maxHeartbeats 4000000
def alP (r:Rd.Road)(days:Nat)(ld:Int)(d:List Int × List (List (Int × Rd.Tr))):Bool:=(List.range r.parts.length).all fun i=>(d.2.getD i []).all fun x=>Rd.aboveI r x.2 x.1 d.1 days ld
def soP (r:Rd.Road)(days:Nat)(ld:Int)(d:List Int × List (List (Int × Rd.Tr))):Bool:=(List.range r.parts.length).all fun i=>(d.2.getD i []).any fun x=>Rd.aboveI r x.2 x.1 d.1 days ld
def BrsC (call:CallF)(r:Rd.Road):Prop:=∀ (H:List AB) (q:Nat) (cs:List AV) (days:Nat) (ld:Int),HB H q (.cells cs)→CaE q H (Rd.casesR r (Rd.everyR r)) cs→days≤10→0≤ld→ld≤60 →
 call (.fn (.func 53) [] []) [.agg (roadCs r),.sl q 0 (Rd.casesR r (Rd.everyR r)).length 2,.int .i64 days,.int .i64 ld] H=some (.ret (.int .i64 (Rd.bearD r days ld)),H,[])
theorem zvq (C:Cfg)(hC:C.calm=true)(call:CallF)(r:Rd.Road)(hf:Rd.Fine r)(hA:AbvC call r)(H:List AB)(q:Nat)(cs:List AV)(days:Nat)(ld:Int)(hB:HB H q (.cells cs))(hE:CaE q H (Rd.casesR r (Rd.everyR r)) cs)(hd:days≤10)(l0:0≤ld)(l1:ld≤60):
  Does (ev C call H.length none af53.body { tm:=tmA af53.ntmps (zipI 0 [.agg (roadCs r),.sl q 0 (Rd.casesR r (Rd.everyR r)).length 2,.int .i64 days,.int .i64 ld] []),df:=[],hp:=H,tc:=[] })
   (Ends C H.length af53.res fun v _ tc=>v=.int .i64 (Rd.bearD r days ld)∧tc=[]):=by
 have hp4:=hf.parts
 have h81:=Rd.cases_81 hf (Rd.everyR r)
 have hin:=fun d (h:d∈Rd.casesR r (Rd.everyR r))=>Rd.case_in hf h
 have hgd:=fun i (hi:i<r.parts.length) d (h:d∈Rd.casesR r (Rd.everyR r))=>Rd.case_getD hf hi h
 have hway:=fun i (hi:i<r.parts.length) (a:Nat) (d:List Int × List (List (Int × Rd.Tr))) (ha:(Rd.casesR r (Rd.everyR r))[a]?=some d)=>(zjg hf hB hE ha hi)
 have hst:=fun i (hi:i<r.parts.length) (d:List Int × List (List (Int × Rd.Tr))) (hd:d∈Rd.casesR r (Rd.everyR r)) (j:Nat) (x:Int × Rd.Tr) (hj:(Rd.statesR r i d.1 (Rd.everyR r))[j]?=some x)=>Rd.state_ok (h:=x.1) (p:=x.2) hf hi (hin d hd).1 hj
 have hbd:Rd.bearD r days ld=if (Rd.casesR r (Rd.everyR r)).all (alP r days ld)=true then 2 else if (Rd.casesR r (Rd.everyR r)).any (soP r days ld)=true then 1 else 0:=rfl
 rw[hbd]
 generalize hD:Rd.casesR r (Rd.everyR r)=D at *
 have HX:=hideP (And.intro hA (And.intro hin (And.intro hgd (And.intro hway (And.intro hst (And.intro hB hf))))))
 have HG:=hideP hD
 obtain ⟨Q1,Q2,Q3⟩:=hB
 clear hA hin hgd hway hst hE hf hD hbd
 generalize hn:D.length=n at *
 have HN:=hideP hn
 clear hn
 have q1:q≠H.length:=by omega
 have q2:q≠H.length+1:=by omega
 unfold af53 Zq Zm Zl Zo Zd Zc Zt Zn
 simp only[zipI,roadCs] at *
 (refine gB ?_)
 clear q1 q2
 have c0:HB (H++[.cells (roadCs r)]) H.length (.cells (roadCs r)):=hb (by rw[List.getElem?_append_right (Nat.le_refl _),Nat.sub_self];rfl)
 have hkp:∀ p x,HB H p x→HB (H++[.cells (roadCs r)]) p x:=fun p x h=>h.app _
 have hgl:H.length≤(H++[AB.cells (roadCs r)]).length:=by simp
 simp only[roadCs] at c0 hkp hgl
 generalize hGB:H++[AB.cells [.vs 7 (r.parts.map ptE),.vs 7 (r.events.map evE)]]=G at *
 have HB1:=hideP (And.intro c0 hkp)
 clear c0 hkp
 with_reducible refine zak hC n (by unfold fuelL;omega) (fun a st=>st=br0St H n q days ld ((D.take a).all (alP r days ld)) ((D.take a).any (soP r days ld)) a G) ?_ ?_ ?_
 ·unfold br0St
  simp only[List.take_zero,List.all_nil,List.any_nil]
  (exact inwP)
 ·rintro a st ha rfl
  obtain ⟨hA,hin,hgd,hway,hst,hB,hf⟩:=HX.out
  obtain ⟨c0,hkp⟩:=HB1.out
  have hn:=HN.out
  obtain ⟨d,hd2⟩:∃ d,D[a]?=some d:=⟨_,List.getElem?_eq_getElem (by omega)⟩
  have hdm:=List.mem_of_getElem? hd2
  obtain ⟨w,w1,w2,vs,hW⟩:=hway 0 (by omega) a d hd2
  rw[Rd.take_all hd2,Rd.take_any hd2]
  have HW:=hideP (And.intro hdm hd2)
  generalize (D.take a).all (alP r days ld)=al
  generalize (D.take a).any (soP r days ld)=so
  obtain ⟨A1,A2,A3⟩:=hkp _ _ hW.c0
  obtain ⟨E1,E2,E3⟩:=c0
  have f1:(a:Int)<n:=by omega
  have hw1:IntKind.i64.wrap ((a:Int)+1)=(a:Int)+1:=zaj (by omega) (by omega)
  clear hA hin hgd hway hst hB hf hkp hn hd2 hdm hW
  unfold br0St
  (refine gB ?_)
  have hsd:∀ i,i<r.parts.length→d.2.getD i []=Rd.statesR r i d.1 (Rd.everyR r):=fun i hi=>HX.out.2.2.1 i hi d HW.out.1
  with_reducible refine zak hC r.parts.length (by unfold fuelL;omega) (fun i st=>st=br2St H n q days ld (al&&(List.range i).all fun i=>(d.2.getD i []).all (abP r days ld d.1)) so a ((List.range i).all fun i=>(d.2.getD i []).any (abP r days ld d.1)) i G) ?_ ?_ ?_
  ·unfold br2St
   simp only[List.range_zero,List.all_nil,Bool.and_true]
   (exact inwP)
  ·rintro i st hi rfl
   obtain ⟨hA,hin,hgd,hway,hst,hB,hf⟩:=HX.out
   obtain ⟨c0,hkp⟩:=HB1.out
   obtain ⟨hdm,hd2⟩:=HW.out
   obtain ⟨w,w1,w2,vs,hW⟩:=hway i hi a d hd2
   rw[Rd.range_all,Rd.range_all,hsd i hi]
   have hr:=zvp C hC call r hA H G c0 n q cs a i d.1 (Rd.statesR r i d.1 (Rd.everyR r)) w w1 w2 vs (hW.keep hkp) days hd ld l0 l1 ha h81 hi hp4.2 ((hin d hdm).2.2 i hi).2.2 (hst i hi d hdm) (al&&(List.range i).all fun i=>(d.2.getD i []).all (abP r days ld d.1)) so ((List.range i).all fun i=>(d.2.getD i []).any (abP r days ld d.1))
   refine Does.mono hr ?_
   rintro e st ⟨rfl,h2⟩
   rw[← Bool.and_assoc]
   exact h2
  ·rintro st rfl
   have e1:((List.range r.parts.length).all fun i=>(d.2.getD i []).all (abP r days ld d.1))=alP r days ld d:=rfl
   have e2:((List.range r.parts.length).all fun i=>(d.2.getD i []).any (abP r days ld d.1))=soP r days ld d:=rfl
   rw[e1,e2]
   generalize alP r days ld d=x1
   generalize soP r days ld d=x2
   clear hsd e1 e2
   unfold br2St
   cases so
   ·rw[Bool.false_or]
    (refine gB ?_)
    (exact inwP)
   ·rw[Bool.true_or]
    (refine gB ?_)
    (exact inwP)
 ·rintro st rfl
  have hn:=HN.out
  rw[show D.take n=D from List.take_of_length_le (by omega)]
  obtain ⟨hA,hin,hgd,hway,hst,hB,hf⟩:=HX.out
  obtain ⟨c0,hkp⟩:=HB1.out
  obtain ⟨A1,A2,A3⟩:=hkp _ _ hB
  clear hA hin hgd hway hst hB hf hkp hn c0
  cases D.all (alP r days ld)
  ·cases D.any (soP r days ld)
   ·unfold br0St
    (refine gB ?_)
    exact zac (v:=.int .i64 0) (.inl rfl) rfl hgl (by simp only[resL,resOf,zaa];simp[*,resV]) ⟨rfl,by simp⟩
   ·unfold br0St
    (refine gB ?_)
    exact zac (v:=.int .i64 1) (.inl rfl) rfl hgl (by simp only[resL,resOf,zaa];simp[*,resV]) ⟨rfl,by simp⟩
  ·unfold br0St
   (refine gB ?_)
   exact zac (v:=.int .i64 2) (.inl rfl) rfl hgl (by simp only[resL,resOf,zaa];simp[*,resV]) ⟨rfl,by simp⟩
end Ro
end Ev
end Go.Proofs.YtlcjlcllbgjplaaGreat

/- The reference of chapter 05, gone through: Bears, Most, Rest, Weak. -/
namespace Go.Proofs.YtlcjlcllbgjplaaGreat
open Go
namespace Rd
end Rd
namespace Ev
namespace Ro
open K
attribute [local simp] ev1 wantG spineK spine float xnew xval xeff zab zae zaq zah zai addFl cellsOf pickC alive slLen slFt binI maxA maxK minA minK aeqK aeqS AV.cells spA zad fillA setAt bitsI nat_nn zar AV.plain apart
set_option maxRecDepth 100000
set_option maxHeartbeats 4000000
theorem zpj (C:Cfg)(call:CallF)(r:Rd.Road)(hV:RldC call)(hK:KnoC call r)(hB:Rd.Fine r→BrsC call r)(H:List AB)(n:Int):
  Does (ev C call H.length none af12.body { tm:=tmA af12.ntmps (zipI 0 [.agg (roadCs r),.int .i64 n] []),df:=[],hp:=H,tc:=[] })
   (Ends C H.length af12.res fun v _ tc=>v=numRV r (Rd.isLoad n) (Rd.bearsR r n)∧tc=[]):=by
 have hv:=fun H=>hV H n
 clear hV
 by_cases he:Rd.errR r (Rd.isLoad n)=0
 ·obtain ⟨hbb,hf,hcan⟩:=Rd.errR_zero he
  unfold numRV
  rw[he,if_pos rfl]
  rw[hbb] at he hv
  obtain ⟨q,cs,G,hcall,kp,hq,hb0,hE⟩:=hK.yes he (H++[.cells (roadCs r)])
  have hbd:=of_decide_eq_true hbb
  have hh:=hB hf G q cs 0 n hb0 hE (by omega) hbd.1 hbd.2
  rw[Rd.bearD_zero hf] at hh
  have hlG:H.length≤G.length:=by have:=kp.len;simp only[List.length_append,List.length_cons,List.length_nil] at this;omega
  have c0:HB G H.length (.cells (roadCs r)):=hb (kp.at (by rw[List.getElem?_append_right (Nat.le_refl _),Nat.sub_self];rfl) (by simp))
  generalize Rd.bearsR r n=y at *
  generalize (Rd.casesR r (Rd.everyR r)).length=k at *
  obtain ⟨A1,A2,A3⟩:=c0
  obtain ⟨Q1,Q2,Q3⟩:=hb0
  rw[Int.natCast_zero] at hh
  clear hK hB hbb hbd hcan he hE kp hq hf
  unfold af12 Zq Zm Zo Zd Zc Zt Zn
  simp only[zipI,roadCs] at *
  (refine gC ?_)
  exact zac (v:=.tup [.int .i64 y,.int .i64 0]) (.inl rfl) rfl (by simp;omega) (by simp only[resL,resOf,zaa];simp[*,resV]) ⟨rfl,by simp⟩
 ·have hn:=hK.no _ he
  unfold numRV
  rw[if_neg he]
  clear hK hB
  generalize Rd.isLoad n=b2 at *
  generalize Rd.errR r _=e at hn he ⊢
  have he0:(e==0)=false:=beq_false_of_ne he
  unfold af12 Zq Zm Zo Zd Zc Zt Zn
  simp only[zipI,roadCs] at *
  (refine gC ?_)
  exact zac (v:=.tup [.int .i64 0,.int .i64 e]) (.inl rfl) rfl (by simp) (by simp only[resL,resOf,zaa];simp[*,resV]) ⟨rfl,by simp⟩
end Ro
end Ev
end Go.Proofs.YtlcjlcllbgjplaaGreat

/- The reference of chapter 05, gone through: Weak. -/
namespace Go.Proofs.YtlcjlcllbgjplaaGreat
open Go
namespace Ev
namespace Ro
open K
set_option maxRecDepth 100000
set_option maxHeartbeats 4000000
end Ro
end Ev
end Go.Proofs.YtlcjlcllbgjplaaGreat

/- The reference of chapter 05, gone through: Sinks. -/
namespace Go.Proofs.YtlcjlcllbgjplaaGreat
open Go
namespace Ev
namespace Ro
open K
attribute [local simp] ev1 wantG spineK spine float xnew xval xeff zab zae zaq zah zai addFl cellsOf pickC alive slLen slFt binI maxA maxK minA minK aeqK aeqS AV.cells spA zad fillA setAt bitsI nat_nn zar AV.plain apart
set_option maxRecDepth 100000
set_option maxHeartbeats 4000000
def si2St (H:List AB)(n q i:Nat)(ld:Int)(cur:AV)(a j:Nat)(G:List AB):St:={ tm:=tmA 67 [(12,.int .i64 j),(11,.int .i64 a),(10,cur),(8,.sl q 0 n 2),(6,.ptr (H.length+1) 0),(2,.int .i64 ld),(1,.int .i64 i)],df:=[],hp:=G,tc:=[] }
def si0St (H:List AB)(n q i:Nat)(ld:Int)(cur:AV)(a:Nat)(G:List AB):St:={ tm:=tmA 67 [(11,.int .i64 a),(10,cur),(8,.sl q 0 n 2),(6,.ptr (H.length+1) 0),(2,.int .i64 ld),(1,.int .i64 i)],df:=[],hp:=G,tc:=[] }
theorem zwn (C:Cfg)(call:CallF)(hI:RsuC call)(H GB:List AB)(hHG:H.length<GB.length)(n np q:Nat)(cs:List AV)(a i:Nat)(ls:List Int)(T:List (Int × Rd.Tr))(w:AV)(q1 q2:Nat)(vs:List AV)(hW:CsW GB n np q cs a i ls T w q1 q2 vs)(ld:Int)(ld0:0≤ld)(ld1:ld≤60)(ha:a<n)(hi:i<np)(_hnp:np≤4)(j:Nat)(h:Int)(p:Rd.Tr)(hj:T[j]?=some (h,p))(hT:T.length≤27)(hs1:1≤p.stiff)(hs2:p.stiff≤10)(out:List Int)(hout:out.length≤10000)(cur:AV)(G:List AB)(hG:OuI GB out cur G):
  Does (ev C call H.length none (atP [1,1,1,1,0,1,0,0,1,0,0,1,0,0] af10.body) (si2St H n q i ld cur a j G))
   (fun e st=>e=.normal∧∃ G' cur',OuI GB (out++[Rd.sunk p ld]) cur' G'∧{ st with tm:=keepT [1,2,6,8,10,11,12] st.tm }=si2St H n q i ld cur' a (j+1) G'):=by
 have hjT:=(List.getElem?_eq_some_iff.1 hj).1
 have hgt:=(zlo T j h p hj).2.1
 have hgt':=ge_of hgt
 have hcl:=zdq T
 have hW1:=hW.keep hG.keep
 obtain ⟨b0,cl,ck,lo,cv,b1,vl,vi,b2⟩:=hW1
 have hcall:=fun K=>hI K p ld hs1 hs2 ld0 ld1
 have hgl:=hG.len
 generalize Rd.sunk p ld=x at *
 generalize T.length=tl at *
 have cv':=ge_of cv
 have vi':=ge_of vi
 have f1:(a:Int)<n:=by omega
 have f2:(i:Int)<np:=by omega
 have f3:(j:Int)<tl:=by omega
 have f4:a * 2+2≤n * 2:=by omega
 have f4':a * 2+1+1≤n * 2:=by omega
 have f5:i+1≤np:=hi
 have f6:j * 3+3≤tl * 3:=by omega
 have f7:j * 3+1+1≤tl * 3:=by omega
 have hw:IntKind.i64.wrap (↑j+1)=↑j+1:=zaj (by omega) (by omega)
 have gG:∀ n,¬ (G.length+n<H.length):=fun n=>by omega
 have gG0:¬ (G.length<H.length):=by omega
 have hb1:1≤bound:=by decide
 have hb2:out.length+1≤bound:=by unfold bound;omega
 have hpl:=zef out
 have hil:=zix out
 obtain ⟨A1,A2,A3⟩:=b0
 obtain ⟨B1,B2,B3⟩:=b1
 obtain ⟨D1,D2,D3⟩:=b2
 have hcur:=hG.li
 have hqs:∀ k,GB.length≤k→k≠q∧k≠q1∧k≠q2∧k≠H.length∧¬ (k<H.length):=fun k hk=>by
  have:=hW.c0.lt;have:=hW.c1.lt;have:=hW.c2.lt;omega
 clear hI hW lo hgl hHG hj ck ld0 ld1 hs1 hs2
 cases hcur with
 |none h1 h2=>
  have ho:out=[]:=List.eq_nil_of_length_eq_zero h2
  subst ho
  have HF:=hideP (hG.nils x)
  clear hG h1 h2 hout hqs
  unfold af10 Zq Zm Zl Zo Zs Zd Zc Zt Zn Zi si2St
  simp only[atP] at *
  (refine gB ?_)
  refine ⟨by first|rfl|trivial,_,_,HF.out,?_⟩
  (exact inwP)
 |some k h1 h2 h3=>
  have HF:=hideP (hG.more x)
  obtain ⟨m1,m2,m3,m4,m5⟩:=hqs k h1
  obtain ⟨R1,R2,R3⟩:=h2
  clear hG h1 h3 hout hqs
  unfold af10 Zq Zm Zl Zo Zs Zd Zc Zt Zn Zi si2St
  simp only[atP] at *
  (refine gB ?_)
  refine ⟨by first|rfl|trivial,_,_,HF.out,?_⟩
  (exact inwP)
theorem zow (C:Cfg)(hC:C.calm=true)(call:CallF)(r:Rd.Road)(hP:RpartC call r)(hV:RldC call)(hK:KnoC call r)(hI:RsuC call)(hU:HulC call)(H:List AB)(i0 ld:Int):
  Does (ev C call H.length none af10.body { tm:=tmA af10.ntmps (zipI 0 [.agg (roadCs r),.int .i64 i0,.int .i64 ld] []),df:=[],hp:=H,tc:=[] })
   (Ends C H.length af10.res fun v _ tc=>v=spanRV r (Rd.isPart r i0&&Rd.isLoad ld) (Rd.sinksR r i0.toNat ld)∧tc=[]):=by
 have hp:=fun H=>hP H i0
 have hv:=fun H=>hV H ld
 clear hP hV
 by_cases he:Rd.errR r (Rd.isPart r i0&&Rd.isLoad ld)=0
 ·obtain ⟨hbb,hf,hcan⟩:=Rd.errR_zero he
  unfold spanRV
  rw[he,if_pos rfl]
  rw[hbb] at he
  rw[Bool.and_eq_true] at hbb
  obtain ⟨q,cs,GB,hcall,kp,hq,hB,hE⟩:=hK.yes he (H++[.cells (roadCs r),.cells [.int .i64 0,.int .i64 0]])
  rw[hbb.1] at hp
  rw[hbb.2] at hv
  have hne:Rd.casesR r (Rd.everyR r)≠[]:=by
   intro h
   rw[zhh hf,h] at hcan
   cases hcan
  obtain ⟨i,rfl⟩:∃ n':Nat,i0=n':=⟨i0.toNat,by have:=of_decide_eq_true hbb.1;omega⟩
  have h1:=of_decide_eq_true hbb.1
  have h2:=of_decide_eq_true hbb.2
  have hi:i<r.parts.length:=by omega
  have hp4:=hf.parts
  rw[Int.toNat_natCast,← Rd.sinks_ref hf hcan hi]
  have hlG:H.length+1<GB.length:=by have:=kp.len;simp only[List.length_append,List.length_cons,List.length_nil] at this;omega
  have c0:HB GB H.length (.cells (roadCs r)):=hb (kp.at (by rw[List.getElem?_append_right (Nat.le_refl _),Nat.sub_self];rfl) (by simp))
  have c1:HB GB (H.length+1) (.cells [.int .i64 0,.int .i64 0]):=hb (kp.at (by rw[List.getElem?_append_right (by omega),Nat.add_sub_cancel_left];rfl) (by simp))
  have h81:=Rd.cases_81 hf (Rd.everyR r)
  have hin:=fun d (h:d∈Rd.casesR r (Rd.everyR r))=>Rd.case_in hf h
  have hgd:=fun d (h:d∈Rd.casesR r (Rd.everyR r))=>Rd.case_getD hf hi h
  have hway:=fun (a:Nat) (d:List Int × List (List (Int × Rd.Tr))) (ha:(Rd.casesR r (Rd.everyR r))[a]?=some d)=>zjg hf hB hE ha hi
  have hst:=fun (d:List Int × List (List (Int × Rd.Tr))) (hd:d∈Rd.casesR r (Rd.everyR r)) (j:Nat) (h:Int) (p:Rd.Tr) (hj:(Rd.statesR r i d.1 (Rd.everyR r))[j]?=some (h,p))=>Rd.state_ok hf hi (hin d hd).1 hj
  unfold Rd.sinkL
  have hpos:0<((Rd.casesR r (Rd.everyR r)).flatMap fun d=>(d.2.getD i []).map fun x=>Rd.sunk x.2 ld).length:=Rd.flat_pos hne fun d hd=>by
   rw[hgd d hd]
   intro e
   exact ((hin d hd).2.2 i hi).2.1 (List.map_eq_nil_iff.1 e)
  have hlen:∀ a,(((Rd.casesR r (Rd.everyR r)).take a).flatMap fun d=>(d.2.getD i []).map fun x=>Rd.sunk x.2 ld).length≤2187:=fun a=>by
   refine Nat.le_trans (flat_le _ 27 _ fun d hd=>?_) (?_:_≤81 * 27)
   ·rw[hgd d (List.mem_of_mem_take hd),List.length_map]
    exact ((hin d (List.mem_of_mem_take hd)).2.2 i hi).2.2
   ·exact Nat.mul_le_mul_right _ (by rw[List.length_take];omega)
  have hall:=hlen (Rd.casesR r (Rd.everyR r)).length
  rw[List.take_length] at hall
  generalize hD:Rd.casesR r (Rd.everyR r)=D at *
  generalize hF:(fun d:List Int × List (List (Int × Rd.Tr))=>(d.2.getD i []).map fun x=>Rd.sunk x.2 ld)=F at *
  have HX:=hideP (And.intro hI (And.intro hU (And.intro hin (And.intro hgd (And.intro hway (And.intro hst (And.intro hpos (And.intro hlen (And.intro hall (And.intro hB hf))))))))))
  have HB1:=hideP (And.intro c0 (And.intro c1 hlG))
  have HG:=hideP (And.intro hD (And.intro hF (And.intro h2 h81)))
  obtain ⟨A1,A2,A3⟩:=hB
  clear hI hU hin hgd hway hst hpos hlen hall hE hne hf hD hF hK hbb he hcan kp hq c0 c1 h1 h2
  generalize hn:D.length=n at *
  have HN:=hideP hn
  clear hn
  unfold af10 Zq Zm Zl Zo Zs Zd Zc Zt Zn Zi
  simp only[zipI,roadCs] at *
  (refine gC ?_)
  clear A1 A2 A3
  with_reducible refine zak hC n (by unfold fuelL;omega) (fun a st=>∃ G cur,OuI GB ((D.take a).flatMap F) cur G∧st=si0St H n q i ld cur a G) ?_ ?_ ?_
  ·refine ⟨GB,.nils,⟨fun p x h=>h,Nat.le_refl _,.none rfl rfl⟩,?_⟩
   unfold si0St
   (exact inwP)
  ·rintro a st ha ⟨G,cur,hO,rfl⟩
   obtain ⟨hI,hU,hin,hgd,hway,hst,hpos,hlen,hall,hB,hf⟩:=HX.out
   obtain ⟨c0,c1,hlG⟩:=HB1.out
   have hn:=HN.out
   obtain ⟨d,hd⟩:∃ d,D[a]?=some d:=⟨_,List.getElem?_eq_getElem (by omega)⟩
   have hdm:=List.mem_of_getElem? hd
   obtain ⟨w,w1,w2,vs,hW⟩:=hway a d hd
   obtain ⟨hls,hpl,hpi⟩:=hin d hdm
   obtain ⟨hs1,hs2,hs3⟩:=hpi i hi
   have hFd:F d=(Rd.statesR r i d.1 (Rd.everyR r)).map fun x=>Rd.sunk x.2 ld:=by rw[← HG.out.2.1,← hgd d hdm]
   rw[Rd.flat_take hd,hFd]
   have hla:=hlen a
   have hst':=hst d hdm
   have hbd:=fun j h p hj=>(hst' j h p hj).bound hf
   have hW'':=hW.keep hO.keep
   generalize Rd.statesR r i d.1 (Rd.everyR r)=T at *
   generalize d.1=ls at *
   have HY:=hideP (And.intro hI (And.intro hbd (And.intro hW (And.intro hla (And.intro hO hs3)))))
   obtain ⟨b0,cl,ck,lo,cv,b1,vl,vi,b2⟩:=hW''
   obtain ⟨A1,A2,A3⟩:=b0
   obtain ⟨B1,B2,B3⟩:=b1
   have cv':=ge_of cv
   have vi':=ge_of vi
   have f1:(a:Int)<n:=by omega
   have f2:(i:Int)<r.parts.length:=by omega
   have f4:a * 2+2≤n * 2:=by omega
   have f4':a * 2+1+1≤n * 2:=by omega
   have f5:i+1≤r.parts.length:=hi
   have hw1:IntKind.i64.wrap ((a:Int)+1)=(a:Int)+1:=zaj (by omega) (by omega)
   obtain ⟨D1,D2,D3⟩:=b2
   clear hI hU hin hgd hway hst hpos hlen hall hB hf hls hpl hpi hs1 hs2 hO hW hla hdm hd hFd hst' lo ck c0 c1 hn hcall hbd hlG
   generalize htl:T.length=tl at *
   unfold si0St
   (refine gB ?_)
   clear A1 A2 A3 B1 B2 B3 D1 D2 D3
   obtain ⟨hI,hbd,hW,hla,hO,hs3⟩:=HY.out
   obtain ⟨c0,c1,hlG⟩:=HB1.out
   with_reducible refine zak hC tl (by unfold fuelL;omega) (fun j st=>∃ G1 cur1,OuI GB ((D.take a).flatMap F++(T.take j).map fun x=>Rd.sunk x.2 ld) cur1 G1∧st=si2St H n q i ld cur1 a j G1) ?_ ?_ ?_
   ·refine ⟨G,cur,by rw[List.take_zero,List.map_nil,List.append_nil];exact hO,?_⟩
    unfold si2St
    (exact inwP)
   ·rintro j st hj ⟨G1,cur1,hO1,rfl⟩
    obtain ⟨⟨h,p⟩,hx⟩:∃ x,T[j]?=some x:=⟨_,List.getElem?_eq_getElem (by omega)⟩
    rw[Rd.map_take hx,← List.append_assoc]
    have hlj:((D.take a).flatMap F++(T.take j).map fun x=>Rd.sunk x.2 ld).length≤10000:=by
     rw[List.length_append,List.length_map,List.length_take];omega
    obtain ⟨z1,z2,_⟩:=hbd j h p hx
    have hr:=zwn C call hI H GB (by omega) n r.parts.length q cs a i ls T w w1 w2 vs hW ld HG.out.2.2.1.1 HG.out.2.2.1.2 ha hi hp4.2 j h p hx (by omega) z1 z2 _ hlj cur1 G1 hO1
    refine Does.mono hr ?_
    rintro e st ⟨rfl,G',cur',h1,h2⟩
    exact ⟨G',cur',h1,h2⟩
   ·rintro st ⟨G1,cur1,hO1,rfl⟩
    rw[show T.take tl=T from List.take_of_length_le (by omega)] at hO1
    obtain ⟨b0,cl,ck,lo,cv,b1,vl,vi,b2⟩:=hW.keep hO1.keep
    obtain ⟨A1,A2,A3⟩:=b0
    obtain ⟨B1,B2,B3⟩:=b1
    obtain ⟨D1,D2,D3⟩:=b2
    rw[htl] at vi
    have HZ:=hideP hO1
    clear hI hbd hW hla hO hs3 hO1 lo ck c0 c1 hlG
    unfold si2St
    (refine gB ?_)
    refine ⟨G1,cur1,HZ.out,?_⟩
    (exact inwP)
  ·rintro st ⟨G,cur,hO,rfl⟩
   obtain ⟨hI,hU,hin,hgd,hway,hst,hpos,hlen,hall,hB,hf⟩:=HX.out
   obtain ⟨c0,c1,hlG⟩:=HB1.out
   have hn:=HN.out
   rw[show D.take n=D from List.take_of_length_le (by omega)] at hO
   obtain ⟨A1,A2,A3⟩:=hO.keep _ _ hB
   obtain ⟨B1,B2,B3⟩:=hO.keep _ _ c1
   have hgH:H.length≤G.length:=by have:=hO.len;omega
   have hgg:¬ (H.length+1<H.length):=by omega
   have hli:=hO.li
   generalize D.flatMap F=L at *
   unfold spA
   cases hli with
   |none h1 h2=>omega
   |some k h1 h2 h3=>
    have hcall2:=hU G k L.length L rfl hpos (by omega) h2
    obtain ⟨R1,R2,R3⟩:=h2
    generalize (Clm.hullR L).lo=lo at *
    generalize (Clm.hullR L).hi=hi' at *
    generalize L.length=ll at *
    clear hI hU hin hgd hway hst hlen hall hB hf c0 c1 hO hpos hn h1 h3 hcall
    unfold si0St
    (refine gC ?_)
    exact zac (v:=.tup [.agg [.int .i64 lo,.int .i64 hi'],.int .i64 0]) (.inl rfl) rfl (by simp;omega) (by simp only[resL,resOf,zaa];simp[*,pickC,resV]) ⟨rfl,by simp⟩
 ·have hn:=hK.no _ he
  unfold spanRV
  rw[if_neg he]
  clear hK hI hU
  generalize Rd.isPart r i0=b1 at *
  generalize Rd.isLoad ld=b2 at *
  cases b1<;>cases b2
  all_goals
   simp only[Bool.and_true,Bool.and_false] at hn he ⊢
   generalize Rd.errR r _=e at hn he ⊢
   have he0:(e==0)=false:=beq_false_of_ne he
   unfold af10 Zq Zm Zl Zo Zs Zd Zc Zt Zn Zi
   simp only[zipI,roadCs] at *
   (refine gC ?_)
   exact zac (v:=.tup [.agg [.int .i64 0,.int .i64 0],.int .i64 e]) (.inl rfl) rfl (by simp) (by simp only[resL,resOf,zaa];simp[*,pickC,resV]) ⟨rfl,by simp⟩
end Ro
end Ev
end Go.Proofs.YtlcjlcllbgjplaaGreat

/- The reference of chapter 05, gone through: its levels. -/
namespace Go.Proofs.YtlcjlcllbgjplaaGreat
open Go
namespace Ev
namespace Ro
open K
set_option maxRecDepth 100000
set_option maxHeartbeats 4000000
structure KnowsZ (C:Cfg):Prop where
 calm:C.calm=true
 wh:∀ f,C.whole f=true
 power:Has C 61 af61
 has:Has C 84 af84
 sunk:Has C 47 af47
 rested:Has C 104 af104
 ins:Has C 60 af60
 right:Has C 121 af121
 states:Has C 113 af113
 all:Has C 112 af112
 cases:Has C 86 af86
 hull:Has C 48 af48
 every:Has C 83 af83
 Cases:Has C 82 af82
 check:Has C 81 af81
 known:Has C 36 af36
 rin:Has C 93 af93
 part:Has C 37 af37
 event:Has C 38 af38
 load:Has C 46 af46
 heights:Has C 39 af39
 above:Has C 99 af99
 bears:Has C 53 af53
structure LvZ (C:Cfg) (r:Rd.Road):Prop where
 pow:∀ n,PowC (Ev.call C (n+1))
 sunk:∀ n,RsuC (Ev.call C (n+1))
 part:∀ n,RpartC (Ev.call C (n+2)) r
 event:∀ n,RevtC (Ev.call C (n+2)) r
 load:∀ n,RldC (Ev.call C (n+2))
 hull:∀ n,HulC (Ev.call C (n+1))
 ins:Rd.Fine r→∀ n,InC (Ev.call C (n+2)) r
 every:Rd.Fine r→∀ n,EveC (Ev.call C (n+2)) r
 check:∀ n,ChkC (Ev.call C (n+2)) r
 cas:Rd.Fine r→∀ n set,set≤1000000→CasC (Ev.call C (n+12)) r set
 cases:Rd.Fine r→∀ n,CasesC (Ev.call C (n+13)) r
 known:∀ n,KnoC (Ev.call C (n+14)) r
 heights:Rd.Fine r→∀ n,HgtsC (Ev.call C (n+3)) r
 bears:Rd.Fine r→∀ n,BrsC (Ev.call C (n+4)) r
theorem lvz {C:Cfg}(k:KnowsZ C)(r:Rd.Road)(hlen:max r.parts.length r.events.length≤40)(hv:∀ n H,Ev.call C (n+1) (.fn (.func 62) [] []) [.agg (roadCs r)] H=some (.ret (.bool (Rd.valid r)),H,[])):LvZ C r:=by
 have pow:∀ n,PowC (Ev.call C (n+1)):=fun n H m hm=>zag k.calm k.power (le' rfl) rfl (ztf C k.calm _ H m hm)
 have set:∀ n,SetC (Ev.call C (n+2)):=fun n H s m hs hm=>zag k.calm k.has (le' rfl) rfl (zws C _ (pow n) H s m hs hm)
 have sunk:∀ n,RsuC (Ev.call C (n+1)):=fun n H p ld h1 h2 h3 h4=>zag k.calm k.sunk (le' rfl) rfl (zss C _ H p ld h1 h2 h3 h4)
 have rest:∀ n,RreC (Ev.call C (n+1)):=fun n H x d a b h1 h2 h3 h4 h5 h6 h7=>zag k.calm k.rested (le' rfl) rfl (zsv C k.calm _ H x d a b h1 h2 h3 h4 h5 h6 h7)
 have ins:Rd.Fine r→∀ n,InC (Ev.call C (n+2)) r:=fun hf n=>zsy k.calm k.ins hf (sunk n) (rest n)
 have rin:∀ n,RinC (Ev.call C (n+1)):=fun n H a b c=>zag k.calm k.rin (le' rfl) rfl (zsx C _ H a b c)
 have part:∀ n,RpartC (Ev.call C (n+2)) r:=fun n H m=>zag k.calm k.part (le' rfl) rfl (zjt C _ (rin n) r (by omega) H m)
 have event:∀ n,RevtC (Ev.call C (n+2)) r:=fun n H m=>zag k.calm k.event (le' rfl) rfl (zwt C _ (rin n) r (by omega) H m)
 have load:∀ n,RldC (Ev.call C (n+2)):=fun n H m=>zag k.calm k.load (le' rfl) rfl (zys C _ (rin n) H m)
 have hull:∀ n,HulC (Ev.call C (n+1)):=fun n H q m l h1 h2 h3 h4=>zag k.calm k.hull (le' rfl) rfl (zxp C k.calm _ H q m l h1 h2 h3 h4)
 have every:Rd.Fine r→∀ n,EveC (Ev.call C (n+2)) r:=fun hf n H=>zag k.calm k.every (le' rfl) rfl (zpa C _ r hf (pow n) H)
 have check:∀ n,ChkC (Ev.call C (n+2)) r:=fun n H b=>zag k.calm k.check (le' rfl) rfl (zpg C _ r (hv n) H b)
 have right:Rd.Fine r→∀ n set,set≤1000000→RigC (Ev.call C (n+3)) r set:=fun hf n s hs=>zoz k.calm k.right hf hs (set n) (rin (n+1)) (ins hf n)
 have states:Rd.Fine r→∀ n set,set≤1000000→RstC (Ev.call C (n+4)) r set:=fun hf n s hs=>zll k.calm k.wh k.states hf (right hf n s hs)
 have all:Rd.Fine r→∀ n,RallC (Ev.call C (n+11)) r 0:=fun hf n=>by
  have h:=all_lv k.calm k.wh k.all hf r.events.length 0 (n+(10 - r.events.length)) (by omega)
  have he:=hf.events
  rwa [show n+(10 - r.events.length)+r.events.length+1=n+11 by omega] at h
 have cas:Rd.Fine r→∀ n set,set≤1000000→CasC (Ev.call C (n+12)) r set:=fun hf n s hs=>zrb k.calm k.wh k.cases hf (all hf n) (states hf (n+7) s hs)
 have cases : Rd.Fine r → ∀ n, CasesC (Ev.call C (n + 13)) r := fun hf n => zls k.calm k.wh k.Cases (every hf (n + 10)) (cas hf n _ (by
  have h:=Nat.pow_le_pow_right (n:=2) (by decide) hf.events
  have h3:(2:Nat) ^ 10=1024:=rfl
  unfold Rd.everyR
  omega))
 have known:∀ n,KnoC (Ev.call C (n+14)) r:=fun n=>zlq k.calm k.wh k.known (check (n+11)) fun hf=>cases hf n
 have heights:Rd.Fine r→∀ n,HgtsC (Ev.call C (n+3)) r:=fun hf n H q cs i m h1 h2 h3 h4 h5=>zag k.calm k.heights (le' rfl) rfl (zma C k.calm _ r hf (ins hf n) (hull (n+1)) H q cs i m h1 h2 h3 h4 h5)
 have above:Rd.Fine r→∀ n,AbvC (Ev.call C (n+3)) r:=fun hf n H i p h ls lv d ld h1 h2 h3 h4 h5=>zag k.calm k.above (le' rfl) rfl (zpk C _ r hf (ins hf n) (rest (n+1)) (sunk (n+1)) H i p h ls lv d ld h1 h2 h3 h4 h5)
 have bears:Rd.Fine r→∀ n,BrsC (Ev.call C (n+4)) r:=fun hf n H q cs d ld h1 h2 h3 h4 h5=>zag k.calm k.bears (le' rfl) rfl (zvq C k.calm _ r hf (above hf n) H q cs d ld h1 h2 h3 h4 h5)
 exact ⟨pow,sunk,part,event,load,hull,ins,every,check,cas,cases,known,heights,bears⟩
end Ro
end Ev
end Go.Proofs.YtlcjlcllbgjplaaGreat

/- RoadTells, gone through. -/
namespace Go.Proofs.YtlcjlcllbgjplaaGreat
open Go
namespace Ev
namespace Ro
open K
attribute [local simp] ev1 wantG spineK spine float xnew xval xeff zab zae zaq zah zai addFl cellsOf pickC alive slLen slFt binI maxA maxK minA minK aeqK aeqS AV.cells spA zad fillA setAt bitsI nat_nn zar AV.plain apart
set_option maxRecDepth 100000
set_option maxHeartbeats 4000000
structure RApi (call:CallF) (r:Rd.Road):Prop where
 height:∀ H (n m:Int),call (.fn (.func 8) [] []) [.agg (roadCs r),.int .i64 n,.int .i64 m] H=some (.ret (spanRV r (Rd.isPart r n&&Rd.isEvent r m) (Rd.heightsR r n.toNat (m.toNat+1))),H,[])
 sinks:∀ H (n m:Int),call (.fn (.func 10) [] []) [.agg (roadCs r),.int .i64 n,.int .i64 m] H=some (.ret (spanRV r (Rd.isPart r n&&Rd.isLoad m) (Rd.sinksR r n.toNat m)),H,[])
 bears:∀ H (n:Int),call (.fn (.func 12) [] []) [.agg (roadCs r),.int .i64 n] H=some (.ret (numRV r (Rd.isLoad n) (Rd.bearsR r n)),H,[])
 below:∀ H,call (.fn (.func 14) [] []) [.agg (roadCs r)] H=some (.ret (belowRV r),H,[])
theorem zlw (C:Cfg)(call:CallF)(hA:LApi call)(r:Rd.Road)(hR:max r.parts.length r.events.length≤40→RApi call r)(n m l:Int)(hn:i64n n)(hm:i64n m)(hl:i64n l)(H:List AB):
  Does (ev C call H.length none af3.body { tm:=tmA af3.ntmps (zipI 0 [.agg (roadCs r),.int .i64 n,.int .i64 m,.int .i64 l] []),df:=[],hp:=H,tc:=[] })
   (Ends C H.length af3.res fun v _ _=>v=.bool true):=by
 have hlo:=fun H=>hA.long (H:=H) r
 have ha:=fun H=>hA.alive (H:=H)
 by_cases hlen:max r.parts.length r.events.length > 40
 ·rw[decide_eq_true hlen] at hlo
  clear hA hlen hR hn hm hl
  unfold af3 Zq Zm Zo Zs Zc Zt Zi
  simp only[zipI,roadCs] at *
  (refine gB ?_)
  exact zac (v:=.bool true) (.inl rfl) rfl (by simp) (by simp only[resL,resOf,zaa];simp[*,resV]) rfl
 rw[decide_eq_false hlen] at hlo
 have hro:=fun H=>zne H r (by omega) (by omega)
 obtain ⟨r1,r2,r3,r4⟩:=hR (by omega)
 have p1:=fun H=>hA.height (hro H) n m hn hm
 have p2:=fun H=>hA.sinks (hro H) n l hn hl
 have p3:=fun H=>hA.bears (hro H) l hl
 have p4:=fun H=>hA.below (hro H)
 replace r1:=fun H=>r1 H n m
 replace r2:=fun H=>r2 H n l
 replace r3:=fun H=>r3 H l
 unfold spanRV at p1 r1 p2 r2
 unfold numRV at p3 r3
 unfold belowRV at p4 r4
 generalize (if Rd.errR r (Rd.isPart r n&&Rd.isEvent r m)=0 then Rd.heightsR r n.toNat (m.toNat+1) else (⟨0,0⟩:Clm.Sp))=s1 at *
 generalize Rd.errR r (Rd.isPart r n&&Rd.isEvent r m)=e1 at *
 generalize (if Rd.errR r (Rd.isPart r n&&Rd.isLoad l)=0 then Rd.sinksR r n.toNat l else (⟨0,0⟩:Clm.Sp))=s2 at *
 generalize Rd.errR r (Rd.isPart r n&&Rd.isLoad l)=e2 at *
 generalize (if Rd.errR r (Rd.isLoad l)=0 then Rd.bearsR r l else 0)=n3 at *
 generalize Rd.errR r (Rd.isLoad l)=e3 at *
 generalize (if Rd.errR r true=0 then (Rd.surelyR r:Int) else 0)=n4 at *
 generalize (if Rd.errR r true=0 then (Rd.perhapsR r:Int) else 0)=n5 at *
 generalize Rd.errR r true=e4 at *
 clear hA hR hlen hro hn hm hl
 unfold spA at p1 p2 r1 r2
 unfold af3 Zq Zm Zo Zs Zc Zt Zi
 simp only[zipI,roadCs] at *
 (refine gB ?_)
 exact zac (v:=.bool true) (.inl rfl) rfl (by simp) (by simp only[resL,resOf,zaa];simp[*,resV]) rfl
end Ro
end Ev
end Go.Proofs.YtlcjlcllbgjplaaGreat

/- What RoadTells calls of the reference, told. -/
namespace Go.Proofs.YtlcjlcllbgjplaaGreat
open Go
namespace Ev
namespace Ro
open K
set_option maxRecDepth 100000
set_option maxHeartbeats 4000000
theorem rapi {C:Cfg}(k:KnowsZ C)(k1:Has C 8 af8)(k2:Has C 10 af10)(k3:Has C 12 af12)(k4:Has C 14 af14)(r:Rd.Road)(hlen:max r.parts.length r.events.length≤40)(hv:∀ n H,Ev.call C (n+1) (.fn (.func 62) [] []) [.agg (roadCs r)] H=some (.ret (.bool (Rd.valid r)),H,[])):RApi (Ev.call C 15) r:=by
 have L:=lvz k r hlen hv
 exact ⟨fun H n m => zag k.calm k1 (le' rfl) rfl (zlr C _ r (L.part 12) (L.event 12) (L.known 0) (fun hf => L.heights hf 11) H n m), fun H n m => zag k.calm k2 (le' rfl) rfl (zow C k.calm _ r (L.part 12) (L.load 12) (L.known 0) (L.sunk 13) (L.hull 13) H n m),
  fun H n=>zag k.calm k3 (le' rfl) rfl (zpj C _ r (L.load 12) (L.known 0) (fun hf=>L.bears hf 10) H n),fun H=>zag k.calm k4 (le' rfl) rfl (zpi C k.calm _ r (L.known 0) (fun hf=>L.ins hf 12) (L.pow 13) H)⟩
theorem zfr {n:Int}(h:(Lit.int .i64 n).wf=true):i64n n:=by
 simp[Lit.wf,IntKind.min,IntKind.max,IntKind.signed,IntKind.bits] at h
 unfold i64n
 omega
end Ro
end Ev
end Go.Proofs.YtlcjlcllbgjplaaGreat

/- The functions that the law RoadTells goes through itself. Printed by program. -/
namespace Go.Proofs.YtlcjlcllbgjplaaGreat
open Go Go.Proofs
namespace Ev
def treeRoadTells:FT:=(.node 53 af53 (.node 36 af36 (.node 10 af10 (.node 5 af5 (.node 3 af3 .leaf .leaf) (.node 8 af8 .leaf .leaf)) (.node 14 af14 (.node 12 af12 .leaf .leaf) .leaf)) (.node 46 af46 (.node 38 af38 (.node 37 af37 .leaf .leaf) (.node 39 af39 .leaf .leaf)) (.node 48 af48 (.node 47 af47 .leaf .leaf) .leaf))) (.node 86 af86 (.node 82 af82 (.node 61 af61 (.node 60 af60 .leaf .leaf) (.node 81 af81 .leaf .leaf)) (.node 84 af84 (.node 83 af83 .leaf .leaf) .leaf)) (.node 112 af112 (.node 99 af99 (.node 93 af93 .leaf .leaf) (.node 104 af104 .leaf .leaf)) (.node 121 af121 (.node 113 af113 .leaf .leaf) .leaf))))
theorem zga : FT.All (fun k af => ∃ F, Tryz.prog.funcs[k]? = some F ∧ (F.name == "runtime.NumGoroutine")=false∧compFn Tryz.prog F=some af.strip) treeRoadTells:=
 ⟨is53,⟨is36,⟨is10,⟨is5,⟨is3,trivial,trivial⟩,⟨is8,trivial,trivial⟩⟩,⟨is14,⟨is12,trivial,trivial⟩,trivial⟩⟩,⟨is46,⟨is38,⟨is37,trivial,trivial⟩,⟨is39,trivial,trivial⟩⟩,⟨is48,⟨is47,trivial,trivial⟩,trivial⟩⟩⟩,⟨is86,⟨is82,⟨is61,⟨is60,trivial,trivial⟩,⟨is81,trivial,trivial⟩⟩,⟨is84,⟨is83,trivial,trivial⟩,trivial⟩⟩,⟨is112,⟨is99,⟨is93,trivial,trivial⟩,⟨is104,trivial,trivial⟩⟩,⟨is121,⟨is113,trivial,trivial⟩,trivial⟩⟩⟩⟩
end Ev
end Go.Proofs.YtlcjlcllbgjplaaGreat

/- The Go function RoadTells returns true, for every argument, in every world in which it is called; nothing that was there is turned. No condition. -/
namespace Go.Proofs.YtlcjlcllbgjplaaGreat
open Go Go.Proofs Go.ChangeShapes Go.WideShapes Go.ChangeAt Go.RowKit
namespace Ev
namespace Ro
open K
theorem lawRoadTells (W:World)(r:Rd.Road){v0:Value}(hv0:VR W (fun _=>False) nomu (.agg (roadCs r)) v0)(x1:Int)(b1:(Lit.int .i64 x1).wf=true){v1:Value}(hv1:VR W (fun _=>False) nomu (.int .i64 x1) v1)(x2:Int)(b2:(Lit.int .i64 x2).wf=true){v2:Value}(hv2:VR W (fun _=>False) nomu (.int .i64 x2) v2)(x3:Int)(b3:(Lit.int .i64 x3).wf=true){v3:Value}(hv3:VR W (fun _=>False) nomu (.int .i64 x3) v3):CallsIn Fence.wide 0 Tryz.prog 3 #[v0,v1,v2,v3] W fun e W'=>e=.returned (.bool true)∧Below W.heap.size W W':=by
 have hz:∀ {f:Nat} {af:AFunc},(cfgL treeRoadTells).exth f=none→FT.find treeRoadTells f=some af→Has (cfgL treeRoadTells) f af:=fun h1 h2=>has_of rfl h1 h2 rfl
 have la:=fun n=>lapi (t:=treeRoadTells) (hz rfl (by kernel_rfl)) n
 have k:Has (cfgL treeRoadTells) 3 af3:=hz rfl (by kernel_rfl)
 obtain ⟨v,hp,tc,H',h1,h2,_⟩:=zci (C:=cfgL treeRoadTells) (n:=15) (first:=[]) (captured:=[]) (args:=[.agg (roadCs r),.int .i64 x1,.int .i64 x2,.int .i64 x3]) (H:=[]) (Q:=fun v _ _=>v=.bool true) rfl k.ext k.exth k.fns k.whole (le' rfl) (zlw (cfgL treeRoadTells) _ (la 14) r (fun h=>rapi ⟨rfl,fun _=>rfl,hz rfl (by kernel_rfl),hz rfl (by kernel_rfl),hz rfl (by kernel_rfl),hz rfl (by kernel_rfl),hz rfl (by kernel_rfl),hz rfl (by kernel_rfl),hz rfl (by kernel_rfl),hz rfl (by kernel_rfl),hz rfl (by kernel_rfl),hz rfl (by kernel_rfl),hz rfl (by kernel_rfl),hz rfl (by kernel_rfl),hz rfl (by kernel_rfl),hz rfl (by kernel_rfl),hz rfl (by kernel_rfl),hz rfl (by kernel_rfl),hz rfl (by kernel_rfl),hz rfl (by kernel_rfl),hz rfl (by kernel_rfl),hz rfl (by kernel_rfl),hz rfl (by kernel_rfl)⟩ (hz rfl (by kernel_rfl)) (hz rfl (by kernel_rfl)) (hz rfl (by kernel_rfl)) (hz rfl (by kernel_rfl)) r h (fun n H=>(la n).valid (zne H r (by omega) (by omega)))) x1 x2 x3 (zfr b1) (zfr b2) (zfr b3) [])
 subst h2
 refine (zjm (tblL zga) h1 trivial (zbi _ _ _) (rargs:=#[v0,v1,v2,v3]) ⟨rfl,fun i y r hy hr=>?_⟩).mono ?_
 ·match i,hy,hr with
  |0,hy,hr=>cases hy;cases hr;exact hv0
  |1,hy,hr=>cases hy;cases hr;exact hv1
  |2,hy,hr=>cases hy;cases hr;exact hv2
  |3,hy,hr=>cases hy;cases hr;exact hv3
  |i+4,hy,hr=>simp at hy
 ·rintro e W' ⟨⟨w,rfl,hw⟩,bel⟩
  exact ⟨by rw[zzv hw W],bel⟩
end Ro
end Ev
set_option maxRecDepth 100000 in
theorem zgc (os:Os)(started:os.Started)(H:Type)(enc:TypeId × Value→H):
  ReturnsInHanded {} Tryz.checked os 3 .any (Rows.roadTellsSpec.pre6 enc Tryz.prog Tryz.f3 Rows.roadTellsRow.domain false) (Rows.roadTellsSpec.post enc Tryz.prog Tryz.f3 false true false false):=by
 refine returnsInHanded_of_change (C:=Tryz.checked) zlt started (by kernel_rfl) Tryz.func3
  (ChangeSpec.witness6 (enc:=enc) (C:=Tryz.checked) false ⟨#[],#[noRoad,.int .i64 0,.int .i64 0,.int .i64 0],[]⟩ 8 (by kernel_rfl) (by kernel_rfl) (by kernel_rfl) (by kernel_rfl)) ?_
 intro W base args ds gs before hval0 hW hcnd _
 have hval:∀ (j:Nat) t v,Tryz.f3.params[j]?=some t→args[j]?=some v→Value.okWide Tryz.prog W .any base t v:=hval0
 have hW':=hW
 obtain ⟨p,q,hA0,hV,rfl,hfz,hnd⟩:=hW
 have hA:DataW.TrodAll enc Tryz.prog W 0 (fun _=>true) true Tryz.f3.params.toList args.toList ds p:=hA0
 rw[Tryz.params3] at hA hval
 obtain ⟨v0,vs0,d0,ds0,p0,q0,hargs0,rfl,rfl,h0,hA1⟩:=trodAll_cons hA
 obtain ⟨v1,vs1,d1,ds1,p1,q1,rfl,rfl,rfl,h1,hA2⟩:=trodAll_cons hA1
 obtain ⟨v2,vs2,d2,ds2,p2,q2,rfl,rfl,rfl,h2,hA3⟩:=trodAll_cons hA2
 obtain ⟨v3,vs3,d3,ds3,p3,q3,rfl,rfl,rfl,h3,hA4⟩:=trodAll_cons hA3
 obtain ⟨rfl,rfl,rfl⟩:=trodAll_nil hA4
 obtain rfl:args=#[v0,v1,v2,v3]:=Array.ext' hargs0
 obtain ⟨rfl,rfl,rfl⟩:=trodVars_none hV
 clear hA0 hval0
 obtain ⟨r,hx0⟩:=ztl (hval 0 25 v0 rfl rfl) h0
 obtain ⟨x1,rfl,rfl,rfl,wf1⟩:=open_int Tryz.underlying3 (hval 1 3 v1 rfl rfl) h1
 obtain ⟨x2,rfl,rfl,rfl,wf2⟩:=open_int Tryz.underlying3 (hval 2 3 v2 rfl rfl) h2
 obtain ⟨x3,rfl,rfl,rfl,wf3⟩:=open_int Tryz.underlying3 (hval 3 3 v3 rfl rfl) h3
 simp only[List.append_nil] at hW'
 have hlt:∀ x∈(p0++([]++([]++([]++[])))),x.block<W.heap.size:=fun x hx=>by simpa using hW'.lt x (by simpa using hx)
 refine (callsIn_wide.1 (Ev.Ro.lawRoadTells W r hx0 x1 wf1 .int x2 wf2 .int x3 wf3 .int)).mono fun e W' ⟨he,bel⟩=>?_
 subst he
 refine ⟨_,rfl,_,_,_,[],(p0++([]++([]++([]++[])))),[],by simpa using hW',?_,?_,?_,bel.frame _,fun h=>by cases h⟩
 ·exact trodAll_mk1 (shut_bool Tryz.underlying4 true)
 ·exact trodAll_cons_mk (Below.trod laidOut' (by kernel_rfl) (of_decide_eq_true (by kernel_rfl)) h0 bel (fun x hx=>hlt x (by simp[hx]))) (trodAll_cons_mk (shut_int Tryz.underlying3 wf1) (trodAll_cons_mk (shut_int Tryz.underlying3 wf2) (trodAll_cons_mk (shut_int Tryz.underlying3 wf3) (trodAll_mk0))))
 ·exact rfl
theorem roadTells_holds:Rows.RoadTellsSaid:=
 OpenClaim.holds_of_wide 3 Tryz.f3 rfl rfl rfl rfl rfl rfl rfl ⟨rfl,rfl,rfl,rfl,rfl⟩ rfl rfl rfl rfl rfl (by kernel_rfl) Tryz.func3 (by kernel_rfl)
  (of_decide_eq_true (by kernel_rfl)) (by unfold Func.isWrapper;first|(rw[if_pos (by decide +kernel)];kernel_rfl)|(rw[if_neg (by decide +kernel)];exact ⟨rfl,rfl⟩))
  (fun os started H enc _=>zgc os started H enc)
#print axioms roadTells_holds
end Go.Proofs.YtlcjlcllbgjplaaGreat
