/- What the rows of chapter 05 share. -/
import Derived.Test.YtlcjlcllbgjplaaGreatTsPE
import Derived.Test.YtlcjlcllbgjplaaGreatTsPB
import Derived.Test.YtlcjlcllbgjplaaGreatTsEA
import Derived.Test.YtlcjlcllbgjplaaGreatProg
import Derived.KernelRfl
import Derived.Test.YtlcjlcllbgjplaaGreatTsEC
import Derived.RecoverIn
import Derived.Below
import Derived.ProofKit
import Derived.WalkKit
import Derived.StillTail
import Derived.StillTailTactics
import Derived.Deep.QuietTactic
import Derived.BigQuiet
import Derived.RangeFuncRecord
import Derived.Test.YtlcjlcllbgjplaaGreatTsEB
import Derived.Test.YtlcjlcllbgjplaaGreatTsPC
import Derived.Test.YtlcjlcllbgjplaaGreatRows
import Derived.OpenShut
import Derived.Deep.Slices
import Derived.Deep.Fields
import Derived.ChangeSame
/- Package road, gone through: Clash. -/
namespace Go.Proofs.YtlcjlcllbgjplaaGreat
open Go
namespace Rd
def setsTo (r:Road)(i:Nat):List Nat:=(List.range i).filter (areLooks r)
theorem setsTo_succ (r:Road)(i:Nat):setsTo r (i+1)=if areLooks r i then setsTo r i++[i] else setsTo r i:=by
  unfold setsTo
  rw[List.range_succ,List.filter_append]
  cases h:areLooks r i<;>simp[h]
theorem setsTo_len (r:Road)(i:Nat):(setsTo r i).length≤i:=by
  have:=List.length_filter_le (areLooks r) (List.range i)
  simpa [setsTo] using this
theorem setsTo_inc (r:Road)(i:Nat):Srt2.Inc (setsTo r i):=List.Pairwise.filter _ List.pairwise_lt_range
theorem setsTo_mem (r:Road)(i x:Nat):x∈setsTo r i↔x<i∧areLooks r x=true:=by simp[setsTo]
theorem setsTo_pos (r:Road){i:Nat}(h:0<i):setsTo r i≠[]:=by
  intro e
  have : 0 ∈ setsTo r i := (setsTo_mem r i 0).2 ⟨h, by
    unfold areLooks
    rw[List.all_eq_true]
    intro j _
    simp[bit]⟩
  rw[e] at this;cases this
theorem clash_find (r:Road){L:List Nat}(hs:Srt2.Sorted L)(hp:L.Perm (setsTo r (2 ^ r.events.length))):L.find? (fun s=>!canR r s)=clashFR r:=by
  obtain ⟨h1,h2⟩:=Clm.bestR_spec (clashPR r) (2 ^ r.events.length)
  have hm:∀ x,x∈L↔x<2 ^ r.events.length∧areLooks r x=true:=fun x=>(hp.mem_iff).trans (setsTo_mem r _ x)
  have hcp:∀ x,clashPR r x=true↔areLooks r x=true∧canR r x=false:=fun x=>by simp[clashPR]
  unfold clashFR
  cases hf:L.find? (fun s=>!canR r s) with
  |none=>
    rw[List.find?_eq_none] at hf
    cases hb:Clm.bestR (clashPR r) (2 ^ r.events.length) with
    |none=>rfl
    |some S=>
      obtain ⟨a1,a2,_⟩:=h2 S hb
      obtain ⟨b1,b2⟩:=(hcp S).1 a2
      have:=hf S ((hm S).2 ⟨a1,b1⟩)
      simp[b2] at this
  |some S=>
    obtain ⟨c1,c2,c3⟩:=Srt2.sorted_first hs hf
    obtain ⟨d1,d2⟩:=(hm S).1 c1
    have hS:clashPR r S=true:=(hcp S).2 ⟨d2,by simpa using c2⟩
    cases hb:Clm.bestR (clashPR r) (2 ^ r.events.length) with
    |none=>rw[h1 hb S d1] at hS;cases hS
    |some S'=>
      obtain ⟨a1,a2,a3⟩:=h2 S' hb
      obtain ⟨b1,b2⟩:=(hcp S').1 a2
      have e1:=a3 S d1 hS
      have e2:=c3 S' ((hm S').2 ⟨a1,b1⟩) (by simp[b2])
      generalize Clm.sizeN S=b1 at *
      generalize Clm.sizeN S'=b2 at *
      rw[show S'=S by omega]
theorem zfw (r:Road)(number:Nat)(p:Tr)(ls:List Int){s t:Nat}:∀ (l:List (Evt × Nat)) (x:Clm.Sp),(∀ q∈l,q.1.kind=2→bit s q.2=bit t q.2)→firstL r number p ls s l x=firstL r number p ls t l x
  |[],x,_=>rfl
  |(v,i)::l,x,h=>by
    rw[firstL,firstL]
    have e:(if bit s i∧v.kind=2∧v.part=number then narrow (fun h=>heightR r p h ls i) v.shows x else x)=if bit t i∧v.kind=2∧v.part=number then narrow (fun h=>heightR r p h ls i) v.shows x else x:=by
      by_cases hk:v.kind=2
      · rw[h (v,i) (by simp) hk]
      · rw[if_neg (fun h=>hk h.2.1),if_neg (fun h=>hk h.2.1)]
    rw[e]
    exact zfw r number p ls l _ fun q hq=>h q (by simp[hq])
theorem zvk {r:Road}{s t:Nat}(h:∀ i v,r.events[i]?=some v→v.kind=2→bit s i=bit t i):canR r s=canR r t:=by
  have e:∀ number p ls,firstR r number p ls s=firstR r number p ls t:=fun number p ls=>zfw r number p ls _ _ fun q hq hk=>h q.2 q.1 (List.mem_zipIdx_iff_getElem?.1 hq) hk
  unfold canR toldR waysR
  simp only[e]
def looksR (r:Road):Nat:=Clm.setOf (fun i=>decide ((r.events.getD i default).kind=2)) r.events.length
theorem zki (r:Road)(i:Nat):bit (looksR r) i=(decide (i<r.events.length)&&decide ((r.events.getD i default).kind=2)):=Clm.setOf_bit _ _ _
theorem zzx (r:Road)(set:Nat):areLooks r set=true↔∀ i,i<r.events.length→bit set i=true→(r.events.getD i default).kind=2:=by
  unfold areLooks
  simp only[List.all_eq_true,List.mem_range,Bool.or_eq_true,Bool.not_eq_true',decide_eq_true_eq]
  exact ⟨fun h i hi hb => (h i hi).resolve_left (by rw [hb]; decide), fun h i hi => by
    cases hb:bit set i with
    |false=>exact .inl rfl
    |true=>exact .inr (h i hi hb)⟩
theorem zuf (r:Road):canR r (looksR r)=canR r (everyR r):=zvk fun i v hv hk=>by
  have hi:=(List.getElem?_eq_some_iff.1 hv).1
  rw[every_bit r hi,zki,decide_eq_true hi,Bool.true_and,List.getD_eq_getElem?_getD,hv]
  exact decide_eq_true hk
theorem zug (r:Road):areLooks r (looksR r)=true:=(zzx r _).2 fun i hi hb=>by
  rw[zki,decide_eq_true hi,Bool.true_and,decide_eq_true_eq] at hb
  exact hb
theorem clash_some {r:Road}(h:canR r (everyR r)=false):∃ n,clashFR r=some n∧n<2 ^ r.events.length∧areLooks r n=true∧canR r n=false∧∀ o,o<2 ^ r.events.length→areLooks r o=true→canR r o=false→Clm.sizeN n<Clm.sizeN o∨Clm.sizeN n=Clm.sizeN o∧n≤o:=by
  obtain ⟨h1,h2⟩:=Clm.bestR_spec (clashPR r) (2 ^ r.events.length)
  have hcp:∀ x,clashPR r x=true↔areLooks r x=true∧canR r x=false:=fun x=>by simp[clashPR]
  unfold clashFR
  cases hb:Clm.bestR (clashPR r) (2 ^ r.events.length) with
  |none=>
    have:=h1 hb (looksR r) (Clm.setOf_lt _ _)
    rw[(hcp _).2 ⟨zug r,by rw[zuf,h]⟩] at this
    cases this
  |some S=>
    obtain ⟨a1,a2,a3⟩:=h2 S hb
    obtain ⟨b1,b2⟩:=(hcp S).1 a2
    exact ⟨S,rfl,a1,b1,b2,fun o ho h3 h4=>a3 o ho ((hcp o).2 ⟨h3,h4⟩)⟩
end Rd
namespace Ev
namespace Ro
open K
attribute [local simp] ev1 wantG spineK spine float xnew xval xeff zab zae zaq zah zai addFl cellsOf pickC alive slLen slFt binI maxA maxK minA minK aeqK aeqS AV.cells spA zad fillA setAt bitsI nat_nn zar AV.plain apart
set_option maxRecDepth 100000
set_option maxHeartbeats 4000000
theorem zeb (l:List Nat):(us l).all AV.plain=true:=by
  rw[List.all_eq_true]
  intro x hx
  unfold us at hx
  obtain ⟨n,_,rfl⟩:=List.mem_map.1 hx
  rfl
def clashRV (r:Rd.Road):AV:=if Rd.valid r=false then .tup [.int .i64 0,.int .i64 1] else if Rd.canR r (Rd.everyR r)=true then .tup [.int .i64 0,.int .i64 4] else .tup [.int .i64 (((Rd.clashFR r).getD 0:Nat):Int),.int .i64 (if (Rd.clashFR r).isSome then 0 else 4)]
def okClash (M:Nat)(r:Rd.Road):Bool:=!Rd.valid r || Rd.canR r (Rd.everyR r) || decide ((Rd.setsTo r (2 ^ r.events.length)).length≤M)
def FirstUC (call call0:CallF)(r:Rd.Road):Prop:=∀ (vb q N:Nat) (L:List Nat),L.length=N→N≤2000→∀ (H:List AB) (xb mb eb:Nat),Rx r xb mb eb H→H[vb]?=some (.cells [.sl q 0 N 1])→H[q]?=some (.cells (us L))→vb≠mb→q≠mb→∀ (fl:Fn) (fa fb:List AV) (p:Nat→Bool),SetF call0 (.fn fl fa fb) r xb mb eb H L p →
  ∃ H' tc,call (.fn (.func 78) [] []) [.fn (.func 111) [] [.ptr vb 0],.agg [.fn fl fa fb]] H=some (findU p L,H',tc)∧(∀ j∈tc,j=mb)∧Kp tc H H'∧Rx r xb mb eb H'
def Cl3C (call:CallF)(r:Rd.Road):Prop:=∀ (H:List AB) (xb mb eb:Nat),Rx r xb mb eb H→∀ (set b1:Nat),H[b1]?=some (.cells [.ptr xb 0])→∃ H' tc,call (.fn (.func 80) [] [.ptr b1 0]) [.int .u64 set] H=some (.ret (.bool (!Rd.canR r set)),H',tc)∧(∀ j∈tc,j=mb)∧Kp tc H H'∧Rx r xb mb eb H'
theorem zqy (C:Cfg)(_hC:C.calm=true)(call call1:CallF)(r:Rd.Road)(hr:Rd.Fine r)(hcan:Rd.canR r (Rd.everyR r)=false)(hdf:C.dfk 71=some (114,true))(Mx:Nat)(hMx:(Rd.setsTo r (2 ^ r.events.length)).length≤Mx)(hSo:SortC Mx call 76)(hVa:ValC call)(hFi:FirstUC call call1 r)(h3:Cl3C call1 r)(xb mb eb tb q N:Nat)(F:List Nat)(hF:F=Rd.setsTo r (2 ^ r.events.length))(hFN:F.length=N)(G:List AB)(hX:Rx r xb mb eb G)(g1:G[1]?=some (.cells [.int .i64 0]))(gt:G[tb]?=some (.cells [.ptr xb 0]))(gq:HB G q (.cells (us F)))(hmt:mb≠tb)(hm1:mb≠1)(tc:List Nat)(htc:tc=[])
    (L:List (Nat × AV)) (L3:lk 45 L 3=.ptr 1 0) (L4:lk 45 L 4=.ptr tb 0) (L5:lk 45 L 5=.sl q 0 N 1):
    Does (ev C call 0 none (atP [1,1,1,1,1,1] af22.body) { tm:=tmA 45 L,df:=[.call 71 [.ptr 1 0]],hp:=G,tc:=tc })
      (Fin C 0 af22 (Ans (clashRV r))):=by
  subst htc
  have m3:val C (tmA 45 L) (.tmp 3)=.ptr 1 0:=L3
  have m4:val C (tmA 45 L) (.tmp 4)=.ptr tb 0:=L4
  have m5:val C (tmA 45 L) (.tmp 5)=.sl q 0 N 1:=L5
  have he10:=hr.events
  have hp10:2 ^ r.events.length≤2 ^ 10:=Nat.pow_le_pow_right (by decide) he10
  have hFl:=Rd.setsTo_len r (2 ^ r.events.length)
  rw[← hF,hFN] at hFl
  have hN0:N≠0:=fun h=>Rd.setsTo_pos r (Nat.two_pow_pos _) (by rw[← hF];exact List.eq_nil_of_length_eq_zero (by omega))
  have hul:(us F).length=N:=by rw[us_len,hFN]
  have hNb:N≤bound:=by unfold bound;omega
  have htk:List.take N (us F)=us F:=List.take_of_length_le (by omega)
  have hGq:=gq.lt
  obtain ⟨A1,A2,A3⟩:=gq
  have hpl:=zeb F
  obtain ⟨tcs,Ls,c1,c2,c3,c4,c5⟩:=hSo (G++[.cells (us F)]) G.length N F (hb (by simp)) hFN (by rw[← hFN,hF];exact hMx) (by rw[hF];exact Rd.setsTo_inc r _) (fun x hx=>by rw[hF] at hx;have:=((Rd.setsTo_mem r _ x).1 hx).1;omega)
  have hLl:Ls.length=N:=by rw[c5.length_eq,hFN]
  have hGs:(G++[AB.cells (us F)]).set G.length (.cells (us Ls))=G++[.cells (us Ls)]:=by rw[List.set_append_right _ _ (Nat.le_refl _),Nat.sub_self];rfl
  rw[hGs] at c1
  have v1:=hVa (G++[.cells (us Ls)]) G.length N (by simp)
  have hml:=hX.ml
  obtain ⟨H', tcf, k1, k2, k3, k4⟩ := hFi (G.length + 1) G.length N Ls hLl (by omega) (G ++ [.cells (us Ls), .cells [.sl G.length 0 N 1]]) xb mb eb (hX.app _) (by simp) (by simp) (by omega) (by omega) (.func 80) [] [.ptr tb 0] (fun s => !Rd.canR r s) (by
    intro G' hk hG' n hn
    exact h3 G' xb mb eb hG' n tb (hk.at (by rw[List.getElem?_append_left (get_lt gt)];exact gt) (by simpa using Ne.symm hmt)))
  have e1:H'[1]?=some (.cells [.int .i64 0]):=k3.at (by rw[List.getElem?_append_left (get_lt g1)];exact g1) (fun h=>hm1 (k2 _ h).symm)
  have hfind:=Rd.clash_find r c4 (by rw[← hF];exact c5)
  have hval:¬ Rd.valid r=false:=by rw[(Rd.valid_iff r).2 hr];decide
  unfold clashRV
  rw[if_neg hval,if_neg (by rw[hcan];decide)]
  obtain ⟨f0,f1,f2,f3,f4,f5⟩:=bk' e1
  have htl:=get_lt gt
  obtain ⟨t0,t1,t2,t3,t4,t5⟩:=bk' gt
  obtain ⟨p0,p1,p2,p3,p4,p5⟩:=bk' A1
  clear A1 A2 A3
  have hb1:1≤bound:=by decide
  have h0l:∀ n:Nat,¬ n<0:=fun n=>by omega
  obtain ⟨n,hk,hn,-⟩:=Rd.clash_some hcan
  replace hn:n<1024:=by omega
  clear hSo hVa hFi h3 hF hX g1 gt c2 c3 c4 c5 hGs k2 k3 k4 hLl L4 L5 hr hcan hval
  have HL:=hideP L3
  clear L3
  rw[hk] at hfind
  rw[hk]
  have hfu:findU (fun s=>!Rd.canR r s) Ls=.ret (.int .u64 n):=by unfold findU;rw[hfind]
  have hwn:IntKind.i64.wrap (n:Int)=n:=zaj (by omega) (by omega)
  rw[hfu] at k1
  clear hfind hfu hk hp10 hFl he10
  unfold af22 Zq Zm Zl Zo Zs Zd Zc Zt Zn Zi
  simp only[atP]
  (repeat (first|(with_reducible apply zam;(focus ((conv=>lhs;simp[*,List.getElem?_append_right,zeb,Nat.testBit_eq_decide_div_mod_eq])<;>exact rfl));simp only[addFl])|(with_reducible apply zgo;(focus ((conv=>lhs;simp[*,List.getElem?_append_right,zeb,Nat.testBit_eq_decide_div_mod_eq])<;>exact rfl));(try simp only[Ops,Then,OutB]);(try dsimp only))|((with_reducible first|apply zaw|apply zay|apply zav|apply zat|apply zao|apply zax|apply zau|apply zbb|(apply zas;· simp[*,zab])|(apply zan;· simp[*,zab]));try simp only[Then,Ops])|simp only[Nat.reduceEqDiff,reduceIte,OutB,Then]))
  refine zdj (v:=.tup [.int .i64 n,.int .i64 0]) (.inl rfl) hdf rfl (by simp) (by simp only[resL,resOf,zzk];simp[zal,HL.out,resV,pickC,f0]) ⟨by simp,by simp⟩
end Ro
end Ev
end Go.Proofs.YtlcjlcllbgjplaaGreat

/- Package road, gone through: Clash, all. -/
namespace Go.Proofs.YtlcjlcllbgjplaaGreat
open Go
namespace Ev
namespace Ro
open K
attribute [local simp] ev1 wantG spineK spine float xnew xval xeff zab zae zaq zah zai addFl cellsOf pickC alive slLen slFt binI maxA maxK minA minK aeqK aeqS AV.cells spA zad fillA setAt bitsI nat_nn zar AV.plain apart
set_option maxRecDepth 100000
set_option maxHeartbeats 4000000
inductive GrU (lo:Nat) (G:List AB) (l:List Nat):AV→Prop
  |none:l=[]→GrU lo G l .nils
  |some (q:Nat):lo≤q→HB G q (.cells (us l))→GrU lo G l (.sl q 0 l.length 1)
theorem us_app (l:List Nat)(n:Nat):us (l++[n])=us l++[.int .u64 n]:=by simp[us]
theorem zqz (C:Cfg)(hC:C.calm=true)(call call1:CallF)(r:Rd.Road)(hr:Rd.Fine r)(hcan:Rd.canR r (Rd.everyR r)=false)(hdf:C.dfk 71=some (114,true))(hE:EveryC call r)(hA:AreC call r)(Mx:Nat)(hMx:(Rd.setsTo r (2 ^ r.events.length)).length≤Mx)(hSo:SortC Mx call 76)(hVa:ValC call)(hFi:FirstUC call call1 r)(h3:Cl3C call1 r)(xb mb eb tb:Nat)(G0:List AB)(hX:Rx r xb mb eb G0)(g1:G0[1]?=some (.cells [.int .i64 0]))(gt:G0[tb]?=some (.cells [.ptr xb 0]))(hmt:mb≠tb)(hm1:mb≠1)
    (L:List (Nat × AV)) (L3:lk 45 L 3=.ptr 1 0) (L4:lk 45 L 4=.ptr tb 0) (L5:lk 45 L 5=.nils) (tc:List Nat) (htc:tc=[]):
    Does (ev C call 0 none (atP [1,1,1,1,1] af22.body) { tm:=tmA 45 L,df:=[.call 71 [.ptr 1 0]],hp:=G0,tc:=tc })
      (Fin C 0 af22 (Ans (clashRV r))):=by
  subst htc
  have m3:val C (tmA 45 L) (.tmp 3)=.ptr 1 0:=L3
  have m4:val C (tmA 45 L) (.tmp 4)=.ptr tb 0:=L4
  have m5:val C (tmA 45 L) (.tmp 5)=.nils:=L5
  have he10:=hr.events
  have hp10:2 ^ r.events.length≤2 ^ 10:=Nat.pow_le_pow_right (by decide) he10
  have hp1:0<2 ^ r.events.length:=Nat.two_pow_pos _
  have he:=hE G0 xb _ _ hX.x
  have hw:IntKind.u64.wrap (((Rd.everyR r:Nat):Int)+1)=((2 ^ r.events.length:Nat):Int):=by
    unfold Rd.everyR
    rw[show ((2 ^ r.events.length - 1:Nat):Int)+1=((2 ^ r.events.length:Nat):Int) by omega]
    exact zij (by omega) (by omega)
  have htl:=get_lt gt
  obtain ⟨t0,t1,t2,t3,t4,t5⟩:=bk' gt
  have HX:=hideP (And.intro hX (And.intro g1 (And.intro gt (And.intro hA (And.intro hp10 hp1)))))
  have hend:=fun q N F hF hFN G hX g1 gt gq=>zqy C hC call call1 r hr hcan hdf Mx hMx hSo hVa hFi h3 xb mb eb tb q N F hF hFN G hX g1 gt gq hmt hm1 [] rfl
  unfold af22 Zq Zm Zl Zo Zs Zd Zc Zt Zn Zi at hend
  simp only[atP] at hend
  have HE:=hideP hend
  clear hend hX g1 gt hA hE hMx hSo hVa hFi h3 hp10 hp1 hcan hr he10
  unfold af22 Zq Zm Zl Zo Zs Zd Zc Zt Zn Zi
  simp only[atP]
  generalize hpw:2 ^ r.events.length=PW at *
  (refine gA ?_)
  with_reducible refine zak hC PW (by have:=HX.out.2.2.2.2.1;unfold fuelL;omega) (fun i st=>∃ G v,Kp [] G0 G∧GrU G0.length G (Rd.setsTo r i) v∧st={ tm:=tmA 45 [(20,.int .u64 i),(19,.int .u64 PW),(5,v),(4,.ptr tb 0),(3,.ptr 1 0)],df:=[.call 71 [.ptr 1 0]],hp:=G,tc:=[] }) ?_ ?_ ?_
  · refine ⟨G0,.nils,Kp.refl _ _,.none rfl,?_⟩
    exact st_eq (by simp[*,zaf,zal]) rfl (by simp) (by simp)
  · rintro i st hi ⟨G,v,hk,hg,rfl⟩
    obtain ⟨hX,g1,gt,hA,hp10,hp1⟩:=HX.out
    have hXG:Rx r xb mb eb G:=hX.kp hk (by simp) (by simp) (by simp)
    have ha:=hA G xb mb eb hXG i
    have gtG:=hk.at gt (by simp)
    have hss:=Rd.setsTo_succ r i
    have hsl:=Rd.setsTo_len r i
    have hkl:=hk.len
    rw[hss]
    have hii:(i:Int)<PW:=by omega
    have hwi:IntKind.u64.wrap ((i:Int)+1)=i+1:=zij (by omega) (by omega)
    obtain ⟨s0,s1,s2,s3,s4,s5⟩:=bk' gtG
    generalize Rd.setsTo r i=F at *
    cases hb:Rd.areLooks r i with
    |false=>
      rw[hb] at ha
      have HF:=hideP (And.intro hk hg)
      clear hX g1 gt hA hp10 hp1 hXG gtG hss hsl hkl hk hg t0 t1 t2 t3 t4 t5 he hb
      (refine gA ?_)
      refine ⟨G,v,HF.out.1,HF.out.2,?_⟩
      (exact inwP)
    |true=>
      rw[hb] at ha
      have hb1:1≤bound:=by decide
      have hbl:F.length+1≤bound:=by unfold bound;omega
      have hpl:=zeb F
      have hul:=us_len F
      rw[if_pos rfl]
      cases hg with
      |none h0=>
        subst h0
        have HF:=hideP hk
        clear hX g1 gt hA hp10 hp1 hXG gtG hss hsl hk t0 t1 t2 t3 t4 t5 he hb hpl hul
        (refine gB ?_)
        refine ⟨G++[.cells [.int .u64 i],.cells [.int .u64 i]],.sl (G.length+1) 0 1 1,HF.out.trans (Kp.app _ _),.some (G.length+1) (by omega) (hb (by simp[us])),?_⟩
        (exact inwP)
      |some q l1 h1=>
        have h1':=h1
        obtain ⟨Q1,Q2,Q3⟩:=h1
        have hql:∀ n,¬ (q=G.length+n):=fun n=>by omega
        have hql0:¬ (q=G.length):=by omega
        have HF:=hideP (And.intro hk h1')
        clear hX g1 gt hA hp10 hp1 hXG gtG hss hsl hk h1' t0 t1 t2 t3 t4 t5 he hb
        (repeat (first|((with_reducible apply zam);(focus ((with_reducible apply zbe);(focus rfl);(focus rfl);(focus ((conv=>lhs;simp[*,List.getElem?_append_right,List.set_append_right,List.getElem?_cons_zero,List.getElem?_append_left,List.set_append_left,-getElem?_pos,zeb,Nat.testBit_eq_decide_div_mod_eq])<;>exact rfl));(focus rfl);(focus rfl)));simp only[addFl])|(with_reducible apply zam;(focus ((conv=>lhs;simp[*,List.getElem?_append_right,List.set_append_right,List.getElem?_cons_zero,List.getElem?_append_left,List.set_append_left,-getElem?_pos,zeb,Nat.testBit_eq_decide_div_mod_eq])<;>exact rfl));simp only[addFl])|((with_reducible first|apply zaw|apply zay|apply zav|apply zat|apply zao|apply zax|apply zau|apply zbb|(apply zas;· simp[*,zab])|(apply zan;· simp[*,zab]));try simp only[Then,Ops,OutB])|simp only[Nat.reduceEqDiff,reduceIte,OutB,Then]))
        refine ⟨G.set q .dead++[.cells [.int .u64 i],.cells (us F++[.int .u64 i])],.sl (G.length+1) 0 (F++[i]).length 1,(HF.out.1.set _ _ (by omega)).trans (Kp.app _ _),.some (G.length+1) (by omega) (hb (by rw[List.getElem?_append_right (by simp)];simp[us_app])),?_⟩
        (exact inwP)
  · rintro st ⟨G,v,hk,hg,rfl⟩
    obtain ⟨hX,g1,gt,hA,hp10,hp1⟩:=HX.out
    rw[← hpw] at hg
    have hne:Rd.setsTo r (2 ^ r.events.length)≠[]:=Rd.setsTo_pos r (Nat.two_pow_pos _)
    obtain ⟨q,rfl,hgq⟩:∃ q,v=.sl q 0 (Rd.setsTo r (2 ^ r.events.length)).length 1∧HB G q (.cells (us (Rd.setsTo r (2 ^ r.events.length)))):=by
      cases hg with
      |none h0=>exact absurd h0 hne
      |some q l1 h1=>exact ⟨q,rfl,h1⟩
    have hfin:=HE.out q _ (Rd.setsTo r (2 ^ r.events.length)) (by rw[hpw]) rfl G (hX.kp hk (by simp) (by simp) (by simp)) (hk.at g1 (by simp)) (hk.at gt (by simp)) hgq
    have HF:=hideP hfin
    clear hfin hX g1 gt hA hp10 hp1 hg hk hne hgq HE HX m3 m4 m5 L3 L4 L5 t0 t1 t2 t3 t4 t5 he
    (repeat (first|(with_reducible refine HF.out _ ?_ ?_ ?_<;>simp[zal,hpw])|((with_reducible apply zam);(focus ((with_reducible apply zbe);(focus rfl);(focus rfl);(focus ((conv=>lhs;simp[*,List.getElem?_append_right,List.set_append_right,List.getElem?_cons_zero,List.getElem?_append_left,List.set_append_left,-getElem?_pos,Nat.testBit_eq_decide_div_mod_eq])<;>exact rfl));(focus rfl);(focus rfl)));simp only[addFl])|(with_reducible apply zam;(focus ((conv=>lhs;simp[*,List.getElem?_append_right,List.set_append_right,List.getElem?_cons_zero,List.getElem?_append_left,List.set_append_left,-getElem?_pos,Nat.testBit_eq_decide_div_mod_eq])<;>exact rfl));simp only[addFl])|((with_reducible first|apply zaw|apply zay|apply zav|apply zat|apply zao|apply zax|apply zau|apply zbb|(apply zas;· simp[*,zab])|(apply zan;· simp[*,zab]));try simp only[Then,Ops,OutB,reduceIte])|simp only[Nat.reduceEqDiff,reduceIte,OutB,Then]))
theorem zqx (C:Cfg)(hC:C.calm=true)(call call0 call1:CallF)(r:Rd.Road)(hdf:C.dfk 71=some (114,true))(hM:MustC call)(hO:OpenC call call0 r)(hE:Rd.valid r=true→EveryC call r)(hCn:Rd.valid r=true→CanC call r)(hA:Rd.valid r=true→AreC call r)(Mx:Nat)(hok:okClash Mx r=true)(hSo:SortC Mx call 76)(hVa:ValC call)(hFi:FirstUC call call1 r)(h3:Rd.valid r=true→Cl3C call1 r)
    (hF:∀ G xb,call0 (.fn (.func 55) [] []) [.ptr xb 0] G=some (.ret (.bool true),G,[])):
    Does (ev C call ([]:List AB).length none af22.body { tm:=tmA af22.ntmps (zipI 0 [.agg (roadCs r)] []),df:=[],hp:=[],tc:=[] })
      (Fin C ([]:List AB).length af22 (Ans (clashRV r))):=by
  have ho:=hO [.cells (roadCs r),.cells [.int .i64 0]] (.fn (.func 55) [] []) true (fun _ G xb mb eb _ _=>hF G xb)
  have hmt:=hM.t
  have hmf:=hM.f
  rcases ho with ⟨h1,h2⟩|⟨h1,h2,h3⟩|⟨h1,-,H1,xb,mb,eb,h4,h5,h6,h7,h8,h9⟩
  · have hv:clashRV r=.tup [.int .i64 0,.int .i64 1]:=by unfold clashRV;rw[if_pos h1]
    rw[hv]
    clear hO hE hCn hA hok hSo hVa hFi h3 hF hM hv h1
    unfold af22 Zq Zm Zl Zo Zs Zd Zc Zt Zn Zi
    simp only[zipI,roadCs,stopV] at *
    (refine gD ?_)
    refine zbm (v:=.tup [.int .i64 0,.int .i64 1]) hdf rfl (by simp only;rfl) (by simp only[resL,resOf,zaa];simp[resV,pickC]) ⟨by simp,by simp⟩
  · cases h2
  · have hvf:¬ Rd.valid r=false:=by rw[h1];decide
    have hr:=(Rd.valid_iff r).1 h1
    have hl1:=h5.len
    simp only[List.length_cons,List.length_nil,Nat.zero_add,Nat.reduceAdd] at h7 h8 h9 hl1
    have hXa:=h6.app [.cells [.ptr xb 0]]
    have hev:=hE h1 (H1++[.cells [.ptr xb 0]]) xb _ _ hXa.x
    obtain ⟨H2,tc2,k1,k2,k3,k4⟩:=hCn h1 (H1++[.cells [.ptr xb 0]]) xb mb eb hXa (Rd.everyR r)
    have hml:=h6.ml
    have g1:H2[1]?=some (.cells [.int .i64 0]):=k3.at (by rw[List.getElem?_append_left (by omega)];exact h5.at rfl (by simp)) (fun h=>by have:=k2 _ h;omega)
    have gt:H2[H1.length]?=some (.cells [.ptr xb 0]):=k3.at (by simp) (fun h=>by have:=k2 _ h;omega)
    have hft:tc2.filter (fun x=>decide (x<0))=[]:=by
      rw[List.filter_eq_nil_iff];intro x _;simp
    cases hcan:Rd.canR r (Rd.everyR r) with
    |true=>
      have hv:clashRV r=.tup [.int .i64 0,.int .i64 4]:=by unfold clashRV;rw[if_neg hvf,if_pos hcan]
      rw[hv]
      rw[hcan] at k1
      obtain ⟨f0,f1,f2,f3,f4,f5⟩:=bk' g1
      clear hO hE hCn hA hok hSo hVa hFi h3 hF hM hv h1 hvf hr h5 h6 h7 h8 h9 hl1 hXa k2 k3 k4 hml gt hcan
      unfold af22 Zq Zm Zl Zo Zs Zd Zc Zt Zn Zi
      simp only[zipI,roadCs] at *
      (refine gD ?_)
      simp only[List.filterMap_cons,List.filterMap_nil,zcp,List.foldl_cons,List.foldl_nil]
      refine zbm (v:=.tup [.int .i64 0,.int .i64 4]) hdf rfl g1 (by simp only[resL,resOf,zaa];simp[resV,pickC,List.getElem?_set_self f0]) ⟨rfl,by simp⟩
    |false=>
      rw[hcan] at k1
      have hend:=zqz C hC call call1 r hr hcan hdf (hE h1) (hA h1) Mx (by unfold okClash at hok;rw[h1,hcan] at hok;simpa using hok) hSo hVa hFi (h3 h1) xb mb eb H1.length H2 k4 g1 gt (by omega) (by omega)
      unfold af22 Zq Zm Zl Zo Zs Zd Zc Zt Zn Zi at hend
      simp only[atP] at hend
      have HE:=hideP hend
      clear hend hO hE hCn hA hok hSo hVa hFi h3 hF hM h1 hvf hr h5 h6 h7 h8 h9 hl1 hXa k2 k3 k4 hml gt hcan g1
      unfold af22 Zq Zm Zl Zo Zs Zd Zc Zt Zn Zi
      simp only[zipI,roadCs,List.length_nil] at *
      (repeat (first|(with_reducible refine HE.out _ ?_ ?_ ?_ _ ?_<;>simp[zal])|((with_reducible apply zam);(focus ((with_reducible apply zbe);(focus rfl);(focus rfl);(focus ((conv=>lhs;simp[*,List.getElem?_append_right,List.set_append_right,List.getElem?_cons_zero,List.getElem?_append_left,List.set_append_left,-getElem?_pos,Nat.testBit_eq_decide_div_mod_eq])<;>exact rfl));(focus rfl);(focus rfl)));simp only[addFl])|(with_reducible apply zam;(focus ((conv=>lhs;simp[*,List.getElem?_append_right,List.set_append_right,List.getElem?_cons_zero,List.getElem?_append_left,List.set_append_left,-getElem?_pos,Nat.testBit_eq_decide_div_mod_eq])<;>exact rfl));simp only[addFl])|((with_reducible first|apply zaw|apply zay|apply zav|apply zat|apply zao|apply zax|apply zau|apply zbb|(apply zas;· simp[*,zab])|(apply zan;· simp[*,zab]));try simp only[Then,Ops])|simp only[Nat.reduceEqDiff,reduceIte,OutB,Then]))
end Ro
end Ev
end Go.Proofs.YtlcjlcllbgjplaaGreat

/- Package road: what Clash comes to, in any configuration that knows its functions. -/
namespace Go.Proofs.YtlcjlcllbgjplaaGreat
open Go
namespace Ev
namespace Ro
open K
set_option maxRecDepth 100000
set_option maxHeartbeats 4000000
structure KnowsC (C:Cfg) (M:Nat):Prop where
  k:Knows C
  sort:∀ n,SortC M (Ev.call C (n+15)) 76
  cl3:Has C 80 af80
  are:Has C 74 af74
  val:Has C 79 af79
  val1:Has C 111 af111
  firstU:Has C 78 af78
  eClash:Has C 22 af22
  df:C.dfk 71=some (114,true)
section
variable {C:Cfg} {M:Nat} (c:KnowsC C M)
include c
theorem valL (n:Nat):ValC (Ev.call C (n+1)):=fun H q N hq=>zey c.k.calm c.val (le' rfl) (by simp[refs,refsL]) (zwb C _ H q N)
variable {r:Rd.Road}
theorem firstUL (n:Nat):FirstUC (Ev.call C (n+r.events.length+17)) (Ev.call C (n+r.events.length+14)) r:=by
  intro vb q N L hL hN H xb mb eb hX h1 h2 n1 n2 fl fa fb p hF
  obtain ⟨x,hp,tc,H',c1,⟨rfl,c2,c4⟩,c5,c6,c7⟩:=zdk (n:=n+r.events.length+16) (first:=[]) (captured:=[]) (args:=[.fn (.func 111) [] [.ptr vb 0],.agg [.fn fl fa fb]]) c.k.calm c.firstU (le' rfl)
    (zmf C c.k.calm c.k.wh (n+r.events.length+14) (n+r.events.length+16) r (mustL c.k _) (zwa c.k.calm (n+r.events.length+15) c.val1) vb q N L hL hN H xb mb eb hX h1 h2 n1 n2 fl fa fb p hF)
  have he:=zjf c.k.calm c.k.wh _ _ _ _ _ _ _ c1
  have hk:Kp tc H H':=⟨he.len,fun b hb hn=>he.same b hb hn⟩
  refine ⟨H',tc,c1,c2,hk,?_⟩
  obtain ⟨es,m1,m2⟩:=hX.m
  have hx:xb∉tc:=fun h=>hX.ne (c2 _ h)
  have hee:eb∉tc:=fun h=>hX.ne2 (c2 _ h)
  by_cases hm:mb∈tc
  · obtain ⟨es2,m3,m4⟩:=c4.m
    exact ⟨hX.ne,hX.ne2,hk.at hX.x hx,fun hn=>hk.at (hX.e hn) hee,Nat.lt_of_lt_of_le hX.el hk.len,es2,(c5.got mb (get_lt m1) hm).trans m3,m4⟩
  · exact hX.kp hk hx hm hee
theorem areL (hr:Rd.Fine r)(n:Nat):AreC (Ev.call C (n+1)) r:=fun H xb mb eb hX set=>zag c.k.calm c.are (le' rfl) rfl (zzy C c.k.calm _ r hr.events H xb mb eb hX set)
theorem cl3L (hr:Rd.Fine r)(n:Nat):Cl3C (Ev.call C (n+r.events.length+13)) r:=fun H xb mb eb hX set b1 h1=>
  zdr (first:=[]) (captured:=[.ptr b1 0]) c.k.calm c.k.wh c.cl3 (le' rfl) rfl hX (zzs C _ r (canL c.k hr n) H xb mb eb hX set b1 h1)
theorem clashE (hbig:r.parts.length≤1000∧r.events.length≤1000)(hok:okClash M r=true)(n:Nat):Ev.call C (n+r.events.length+18) (.fn (.func 22) [] []) [.agg (roadCs r)] []=some (.ret (clashRV r),[],[]):=by
  refine zcw c.k c.eClash (le' rfl) (by unfold clashRV;split;rfl;split<;>rfl) (zqx C c.k.calm _ (Ev.call C (n+r.events.length+16)) (Ev.call C (n+r.events.length+14)) r c.df (mustL c.k _) (openL c.k hbig (n+r.events.length+13)) (fun hv=>everyL c.k ((Rd.valid_iff r).1 hv) _) (fun hv=>?_) (fun hv=>areL c ((Rd.valid_iff r).1 hv) _) M hok ?_ (valL c _) (firstUL c n) (fun hv=>?_) (fun G xb=>alwaysL c.k _ G _))
  · have h2:=canL c.k ((Rd.valid_iff r).1 hv) (n+5)
    rw[show n+5+r.events.length+12=n+r.events.length+17 by omega] at h2
    exact h2
  · have h2:=c.sort (n+r.events.length+2)
    exact h2
  · have h2:=cl3L c ((Rd.valid_iff r).1 hv) (n+1)
    rw[show n+1+r.events.length+13=n+r.events.length+14 by omega] at h2
    exact h2
end
end Ro
end Ev
end Go.Proofs.YtlcjlcllbgjplaaGreat

/- slices.SortStableFunc, gone through: lists of at most 16 numbers. -/
namespace Go.Proofs.YtlcjlcllbgjplaaGreat
open Go
namespace Ev
namespace K
attribute [local simp] ev1 wantG spineK spine float xnew xval xeff zab zae zaq zah zai addFl cellsOf pickC alive slLen slFt binI maxA maxK minA minK aeqK aeqS AV.cells spA zad fillA setAt bitsI nat_nn zar AV.plain apart
set_option maxRecDepth 100000
set_option maxHeartbeats 4000000
theorem zsm (C:Cfg)(hC:C.calm=true)(call:CallF)(cf:Nat)(hIn:InsC call cf)(H:List AB)(q N:Nat)(A0:List Nat)(hq:HB H q (.cells (us A0)))(hN0:A0.length=N)(hN:N≤16)(hI:Srt2.Inc A0)(h10:∀ x∈A0,x<1024):
    Does (ev C call H.length none af108.body { tm:=tmA af108.ntmps (zipI 0 [.sl q 0 N 1,.int .i64 N,.fn (.func cf) [] []] []),df:=[],hp:=H,tc:=[] })
      (Ends C H.length af108.res (StaP H q A0)):=by
  obtain ⟨t,L,c1,c2,c3,c4,c5⟩:=hIn H q N 0 N [] A0 [] (by simpa using hq) (by simp[hN0]) (by omega) rfl (by omega) hI h10
  simp only[List.nil_append,List.append_nil] at c1 c3
  replace c1:call (.fn (.func 119) [] []) [.sl q 0 N 1,.int .i64 0,.int .i64 N,.fn (.func cf) [] []] H=some (.ret (.tup []),H.set q (.cells (us L)),t):=c1
  have h0:InB H q A0 A0 H []:=⟨hq.same.symm,by simp,fun _=>rfl⟩
  have hfin:StaP H q A0 (.tup []) (H.set q (.cells (us L))) (t.filter (fun x=>decide (x<H.length))):=⟨rfl,L,by have:=h0.step (l':=L) hq.lt c2 c3;rw[List.append_nil] at this;exact this,c4,c5⟩
  have HF:=hideP hfin
  have n1:¬ (20:Int)≤N:=by omega
  have n2:¬ (20:Int)<N:=by omega
  obtain ⟨A1,A2,A3⟩:=hq
  clear hfin h0 c2 c3 c4 c5 hI h10 hN0 hIn
  unfold af108 Zq Zm Zo Zc Zt Zn
  simp only[zipI]
  (refine gB ?_)
  with_reducible refine zak hC 0 (by unfold fuelL;omega) (fun _ st=>st={ tm:=tmA 63 [(8,.int .i64 20),(7,.int .i64 0),(6,.int .i64 20),(2,.fn (.func cf) [] []),(1,.int .i64 N),(0,.sl q 0 N 1)],df:=[],hp:=H,tc:=[] }) ?_ ?_ ?_
  · (exact inwP)
  · rintro i st hi rfl
    exact absurd hi (by omega)
  · rintro st rfl
    (refine gB ?_)
    with_reducible refine zak hC 0 (by unfold fuelL;omega) (fun _ st=>st={ tm:=tmA 63 [(6,.int .i64 20),(2,.fn (.func cf) [] []),(1,.int .i64 N),(0,.sl q 0 N 1)],df:=[],hp:=H.set q (.cells (us L)),tc:=t.filter (fun x=>decide (x<H.length)) }) ?_ ?_ ?_
    · (exact inwP)
    · rintro i st hi rfl
      exact absurd hi (by omega)
    · rintro st rfl
      (refine gB ?_)
      exact zac (v:=.tup []) (.inr rfl) rfl (by simp) (by simp only[resL];simp[*,resV]) HF.out
theorem zor {C:Cfg}{n0 cf:Nat}(hC:C.calm=true)(h0:Has C 108 af108)(hIn:InsC (Ev.call C n0) cf):StaC 16 (Ev.call C (n0+1)) 108 id cf:=by
  intro H q N A0 hq hN0 hN hI h10
  obtain ⟨v,hp,tc,G,c1,⟨rfl,L,h2,h3,h4⟩,c3,c4,c5⟩:=zci (first:=[]) (captured:=[]) (args:=[.sl q 0 N 1,.int .i64 N,.fn (.func cf) [] []]) (H:=H) hC h0.ext h0.exth h0.fns h0.whole (le' rfl) (zsm C hC _ cf hIn H q N A0 hq hN0 hN hI h10)
  refine ⟨tc,L,?_,h2.2.1,h2.2.2,h3,h4⟩
  show Ev.call C (n0+1) _ [.sl q 0 N 1,.int .i64 N,.fn (.func cf) [] []] H=_
  rw[c1,ziy hq h2 c3 (fun ht=>(c4 (.inr ht)).2) (fun ht=>c5 rfl ht)]
end K
end Ev
end Go.Proofs.YtlcjlcllbgjplaaGreat

/- What sorts the sets that Clash tries: 16 at most. -/
namespace Go.Proofs.YtlcjlcllbgjplaaGreat
open Go
namespace Ev
namespace Ro
open K
set_option maxRecDepth 100000
set_option maxHeartbeats 4000000
def clashM:Nat:=16
structure KnowsM (C:Cfg):Prop where
  calm:C.calm=true
  swap:Has C 123 af123
  rot:Has C 122 af122
  sym:Has C 120 af120
  ins:Has C 119 af119
  stable:Has C 108 af108
  sort:Has C 75 af75
  o64:Has C 110 af110
  ones:Has C 77 af77
  cmp:Has C 76 af76
section
variable {C:Cfg} (c:KnowsM C)
include c
theorem cmpL (n:Nat):CmpC (Ev.call C (n+3)) 76:=fun H a b ha hb=>zag c.calm c.cmp (le' rfl) rfl (zzr C _ (fun H v hv=>zag c.calm c.ones (le' rfl) rfl (zxc C _ (fun H v hv=>zag c.calm c.o64 (le' rfl) rfl (zpu C _ H v hv)) H v hv)) H a b ha hb)
theorem sortM (n:Nat):SortC clashM (Ev.call C (n+15)) 76:=zsl c.calm c.sort (zor c.calm c.stable (zxo c.calm c.ins (cmpL c (n+9))))
end
end Ro
end Ev
end Go.Proofs.YtlcjlcllbgjplaaGreat

/- The code of the evaluator is that of the program (part 1). Printed by program. -/
namespace Go.Proofs.YtlcjlcllbgjplaaGreat
open Go Go.Proofs
namespace Ev
set_option maxRecDepth 1000000
theorem is5 : ∃ F, Tryz.prog.funcs[5]? = some F ∧ (F.name == "runtime.NumGoroutine")=false∧compFn Tryz.prog F=some af5.strip:=⟨_,Tryz.func5,by kernel_rfl,by kernel_rfl⟩
theorem is7 : ∃ F, Tryz.prog.funcs[7]? = some F ∧ (F.name == "runtime.NumGoroutine")=false∧compFn Tryz.prog F=some af7.strip:=⟨_,Tryz.func7,by kernel_rfl,by kernel_rfl⟩
theorem is10 : ∃ F, Tryz.prog.funcs[10]? = some F ∧ (F.name == "runtime.NumGoroutine")=false∧compFn Tryz.prog F=some af10.strip:=⟨_,Tryz.func10,by kernel_rfl,by kernel_rfl⟩
theorem is20 : ∃ F, Tryz.prog.funcs[20]? = some F ∧ (F.name == "runtime.NumGoroutine")=false∧compFn Tryz.prog F=some af20.strip:=⟨_,Tryz.func20,by kernel_rfl,by kernel_rfl⟩
theorem is21 : ∃ F, Tryz.prog.funcs[21]? = some F ∧ (F.name == "runtime.NumGoroutine")=false∧compFn Tryz.prog F=some af21.strip:=⟨_,Tryz.func21,by kernel_rfl,by kernel_rfl⟩
theorem is24 : ∃ F, Tryz.prog.funcs[24]? = some F ∧ (F.name == "runtime.NumGoroutine")=false∧compFn Tryz.prog F=some af24.strip:=⟨_,Tryz.func24,by kernel_rfl,by kernel_rfl⟩
theorem is28 : ∃ F, Tryz.prog.funcs[28]? = some F ∧ (F.name == "runtime.NumGoroutine")=false∧compFn Tryz.prog F=some af28.strip:=⟨_,Tryz.func28,by kernel_rfl,by kernel_rfl⟩
theorem is33 : ∃ F, Tryz.prog.funcs[33]? = some F ∧ (F.name == "runtime.NumGoroutine")=false∧compFn Tryz.prog F=some af33.strip:=⟨_,Tryz.func33,by kernel_rfl,by kernel_rfl⟩
theorem is34 : ∃ F, Tryz.prog.funcs[34]? = some F ∧ (F.name == "runtime.NumGoroutine")=false∧compFn Tryz.prog F=some af34.strip:=⟨_,Tryz.func34,by kernel_rfl,by kernel_rfl⟩
theorem is41 : ∃ F, Tryz.prog.funcs[41]? = some F ∧ (F.name == "runtime.NumGoroutine")=false∧compFn Tryz.prog F=some af41.strip:=⟨_,Tryz.func41,by kernel_rfl,by kernel_rfl⟩
theorem is49 : ∃ F, Tryz.prog.funcs[49]? = some F ∧ (F.name == "runtime.NumGoroutine")=false∧compFn Tryz.prog F=some af49.strip:=⟨_,Tryz.func49,by kernel_rfl,by kernel_rfl⟩
theorem is51 : ∃ F, Tryz.prog.funcs[51]? = some F ∧ (F.name == "runtime.NumGoroutine")=false∧compFn Tryz.prog F=some af51.strip:=⟨_,Tryz.func51,by kernel_rfl,by kernel_rfl⟩
theorem is62 : ∃ F, Tryz.prog.funcs[62]? = some F ∧ (F.name == "runtime.NumGoroutine")=false∧compFn Tryz.prog F=some af62.strip:=⟨_,Tryz.func62,by kernel_rfl,by kernel_rfl⟩
theorem is64 : ∃ F, Tryz.prog.funcs[64]? = some F ∧ (F.name == "runtime.NumGoroutine")=false∧compFn Tryz.prog F=some af64.strip:=⟨_,Tryz.func64,by kernel_rfl,by kernel_rfl⟩
theorem is66 : ∃ F, Tryz.prog.funcs[66]? = some F ∧ (F.name == "runtime.NumGoroutine")=false∧compFn Tryz.prog F=some af66.strip:=⟨_,Tryz.func66,by kernel_rfl,by kernel_rfl⟩
theorem is68 : ∃ F, Tryz.prog.funcs[68]? = some F ∧ (F.name == "runtime.NumGoroutine")=false∧compFn Tryz.prog F=some af68.strip:=⟨_,Tryz.func68,by kernel_rfl,by kernel_rfl⟩
theorem is70 : ∃ F, Tryz.prog.funcs[70]? = some F ∧ (F.name == "runtime.NumGoroutine")=false∧compFn Tryz.prog F=some af70.strip:=⟨_,Tryz.func70,by kernel_rfl,by kernel_rfl⟩
theorem is75 : ∃ F, Tryz.prog.funcs[75]? = some F ∧ (F.name == "runtime.NumGoroutine")=false∧compFn Tryz.prog F=some af75.strip:=⟨_,Tryz.func75,by kernel_rfl,by kernel_rfl⟩
theorem is83 : ∃ F, Tryz.prog.funcs[83]? = some F ∧ (F.name == "runtime.NumGoroutine")=false∧compFn Tryz.prog F=some af83.strip:=⟨_,Tryz.func83,by kernel_rfl,by kernel_rfl⟩
theorem is86 : ∃ F, Tryz.prog.funcs[86]? = some F ∧ (F.name == "runtime.NumGoroutine")=false∧compFn Tryz.prog F=some af86.strip:=⟨_,Tryz.func86,by kernel_rfl,by kernel_rfl⟩
theorem is89 : ∃ F, Tryz.prog.funcs[89]? = some F ∧ (F.name == "runtime.NumGoroutine")=false∧compFn Tryz.prog F=some af89.strip:=⟨_,Tryz.func89,by kernel_rfl,by kernel_rfl⟩
theorem is94 : ∃ F, Tryz.prog.funcs[94]? = some F ∧ (F.name == "runtime.NumGoroutine")=false∧compFn Tryz.prog F=some af94.strip:=⟨_,Tryz.func94,by kernel_rfl,by kernel_rfl⟩
theorem is95 : ∃ F, Tryz.prog.funcs[95]? = some F ∧ (F.name == "runtime.NumGoroutine")=false∧compFn Tryz.prog F=some af95.strip:=⟨_,Tryz.func95,by kernel_rfl,by kernel_rfl⟩
theorem is96 : ∃ F, Tryz.prog.funcs[96]? = some F ∧ (F.name == "runtime.NumGoroutine")=false∧compFn Tryz.prog F=some af96.strip:=⟨_,Tryz.func96,by kernel_rfl,by kernel_rfl⟩
theorem is97 : ∃ F, Tryz.prog.funcs[97]? = some F ∧ (F.name == "runtime.NumGoroutine")=false∧compFn Tryz.prog F=some af97.strip:=⟨_,Tryz.func97,by kernel_rfl,by kernel_rfl⟩
theorem is105 : ∃ F, Tryz.prog.funcs[105]? = some F ∧ (F.name == "runtime.NumGoroutine")=false∧compFn Tryz.prog F=some af105.strip:=⟨_,Tryz.func105,by kernel_rfl,by kernel_rfl⟩
theorem is107 : ∃ F, Tryz.prog.funcs[107]? = some F ∧ (F.name == "runtime.NumGoroutine")=false∧compFn Tryz.prog F=some af107.strip:=⟨_,Tryz.func107,by kernel_rfl,by kernel_rfl⟩
theorem is109 : ∃ F, Tryz.prog.funcs[109]? = some F ∧ (F.name == "runtime.NumGoroutine")=false∧compFn Tryz.prog F=some af109.strip:=⟨_,Tryz.func109,by kernel_rfl,by kernel_rfl⟩
theorem is112 : ∃ F, Tryz.prog.funcs[112]? = some F ∧ (F.name == "runtime.NumGoroutine")=false∧compFn Tryz.prog F=some af112.strip:=⟨_,Tryz.func112,by kernel_rfl,by kernel_rfl⟩
theorem is120 : ∃ F, Tryz.prog.funcs[120]? = some F ∧ (F.name == "runtime.NumGoroutine")=false∧compFn Tryz.prog F=some af120.strip:=⟨_,Tryz.func120,by kernel_rfl,by kernel_rfl⟩
theorem is139 : ∃ F, Tryz.prog.funcs[139]? = some F ∧ (F.name == "runtime.NumGoroutine")=false∧compFn Tryz.prog F=some af139.strip:=⟨_,Tryz.func139,by kernel_rfl,by kernel_rfl⟩
end Ev
end Go.Proofs.YtlcjlcllbgjplaaGreat

/- The code of the evaluator is that of the program (part 2). Printed by program. -/
namespace Go.Proofs.YtlcjlcllbgjplaaGreat
open Go Go.Proofs
namespace Ev
set_option maxRecDepth 1000000
theorem is8 : ∃ F, Tryz.prog.funcs[8]? = some F ∧ (F.name == "runtime.NumGoroutine")=false∧compFn Tryz.prog F=some af8.strip:=⟨_,Tryz.func8,by kernel_rfl,by kernel_rfl⟩
theorem is11 : ∃ F, Tryz.prog.funcs[11]? = some F ∧ (F.name == "runtime.NumGoroutine")=false∧compFn Tryz.prog F=some af11.strip:=⟨_,Tryz.func11,by kernel_rfl,by kernel_rfl⟩
theorem is14 : ∃ F, Tryz.prog.funcs[14]? = some F ∧ (F.name == "runtime.NumGoroutine")=false∧compFn Tryz.prog F=some af14.strip:=⟨_,Tryz.func14,by kernel_rfl,by kernel_rfl⟩
theorem is15 : ∃ F, Tryz.prog.funcs[15]? = some F ∧ (F.name == "runtime.NumGoroutine")=false∧compFn Tryz.prog F=some af15.strip:=⟨_,Tryz.func15,by kernel_rfl,by kernel_rfl⟩
theorem is16 : ∃ F, Tryz.prog.funcs[16]? = some F ∧ (F.name == "runtime.NumGoroutine")=false∧compFn Tryz.prog F=some af16.strip:=⟨_,Tryz.func16,by kernel_rfl,by kernel_rfl⟩
theorem is18 : ∃ F, Tryz.prog.funcs[18]? = some F ∧ (F.name == "runtime.NumGoroutine")=false∧compFn Tryz.prog F=some af18.strip:=⟨_,Tryz.func18,by kernel_rfl,by kernel_rfl⟩
theorem is25 : ∃ F, Tryz.prog.funcs[25]? = some F ∧ (F.name == "runtime.NumGoroutine")=false∧compFn Tryz.prog F=some af25.strip:=⟨_,Tryz.func25,by kernel_rfl,by kernel_rfl⟩
theorem is30 : ∃ F, Tryz.prog.funcs[30]? = some F ∧ (F.name == "runtime.NumGoroutine")=false∧compFn Tryz.prog F=some af30.strip:=⟨_,Tryz.func30,by kernel_rfl,by kernel_rfl⟩
theorem is32 : ∃ F, Tryz.prog.funcs[32]? = some F ∧ (F.name == "runtime.NumGoroutine")=false∧compFn Tryz.prog F=some af32.strip:=⟨_,Tryz.func32,by kernel_rfl,by kernel_rfl⟩
theorem is36 : ∃ F, Tryz.prog.funcs[36]? = some F ∧ (F.name == "runtime.NumGoroutine")=false∧compFn Tryz.prog F=some af36.strip:=⟨_,Tryz.func36,by kernel_rfl,by kernel_rfl⟩
theorem is39 : ∃ F, Tryz.prog.funcs[39]? = some F ∧ (F.name == "runtime.NumGoroutine")=false∧compFn Tryz.prog F=some af39.strip:=⟨_,Tryz.func39,by kernel_rfl,by kernel_rfl⟩
theorem is47 : ∃ F, Tryz.prog.funcs[47]? = some F ∧ (F.name == "runtime.NumGoroutine")=false∧compFn Tryz.prog F=some af47.strip:=⟨_,Tryz.func47,by kernel_rfl,by kernel_rfl⟩
theorem is52 : ∃ F, Tryz.prog.funcs[52]? = some F ∧ (F.name == "runtime.NumGoroutine")=false∧compFn Tryz.prog F=some af52.strip:=⟨_,Tryz.func52,by kernel_rfl,by kernel_rfl⟩
theorem is53 : ∃ F, Tryz.prog.funcs[53]? = some F ∧ (F.name == "runtime.NumGoroutine")=false∧compFn Tryz.prog F=some af53.strip:=⟨_,Tryz.func53,by kernel_rfl,by kernel_rfl⟩
theorem is57 : ∃ F, Tryz.prog.funcs[57]? = some F ∧ (F.name == "runtime.NumGoroutine")=false∧compFn Tryz.prog F=some af57.strip:=⟨_,Tryz.func57,by kernel_rfl,by kernel_rfl⟩
theorem is65 : ∃ F, Tryz.prog.funcs[65]? = some F ∧ (F.name == "runtime.NumGoroutine")=false∧compFn Tryz.prog F=some af65.strip:=⟨_,Tryz.func65,by kernel_rfl,by kernel_rfl⟩
theorem is67 : ∃ F, Tryz.prog.funcs[67]? = some F ∧ (F.name == "runtime.NumGoroutine")=false∧compFn Tryz.prog F=some af67.strip:=⟨_,Tryz.func67,by kernel_rfl,by kernel_rfl⟩
theorem is72 : ∃ F, Tryz.prog.funcs[72]? = some F ∧ (F.name == "runtime.NumGoroutine")=false∧compFn Tryz.prog F=some af72.strip:=⟨_,Tryz.func72,by kernel_rfl,by kernel_rfl⟩
theorem is74 : ∃ F, Tryz.prog.funcs[74]? = some F ∧ (F.name == "runtime.NumGoroutine")=false∧compFn Tryz.prog F=some af74.strip:=⟨_,Tryz.func74,by kernel_rfl,by kernel_rfl⟩
theorem is79 : ∃ F, Tryz.prog.funcs[79]? = some F ∧ (F.name == "runtime.NumGoroutine")=false∧compFn Tryz.prog F=some af79.strip:=⟨_,Tryz.func79,by kernel_rfl,by kernel_rfl⟩
theorem is80 : ∃ F, Tryz.prog.funcs[80]? = some F ∧ (F.name == "runtime.NumGoroutine")=false∧compFn Tryz.prog F=some af80.strip:=⟨_,Tryz.func80,by kernel_rfl,by kernel_rfl⟩
theorem is81 : ∃ F, Tryz.prog.funcs[81]? = some F ∧ (F.name == "runtime.NumGoroutine")=false∧compFn Tryz.prog F=some af81.strip:=⟨_,Tryz.func81,by kernel_rfl,by kernel_rfl⟩
theorem is88 : ∃ F, Tryz.prog.funcs[88]? = some F ∧ (F.name == "runtime.NumGoroutine")=false∧compFn Tryz.prog F=some af88.strip:=⟨_,Tryz.func88,by kernel_rfl,by kernel_rfl⟩
theorem is91 : ∃ F, Tryz.prog.funcs[91]? = some F ∧ (F.name == "runtime.NumGoroutine")=false∧compFn Tryz.prog F=some af91.strip:=⟨_,Tryz.func91,by kernel_rfl,by kernel_rfl⟩
theorem is101 : ∃ F, Tryz.prog.funcs[101]? = some F ∧ (F.name == "runtime.NumGoroutine")=false∧compFn Tryz.prog F=some af101.strip:=⟨_,Tryz.func101,by kernel_rfl,by kernel_rfl⟩
theorem is106 : ∃ F, Tryz.prog.funcs[106]? = some F ∧ (F.name == "runtime.NumGoroutine")=false∧compFn Tryz.prog F=some af106.strip:=⟨_,Tryz.func106,by kernel_rfl,by kernel_rfl⟩
theorem is108 : ∃ F, Tryz.prog.funcs[108]? = some F ∧ (F.name == "runtime.NumGoroutine")=false∧compFn Tryz.prog F=some af108.strip:=⟨_,Tryz.func108,by kernel_rfl,by kernel_rfl⟩
theorem is111 : ∃ F, Tryz.prog.funcs[111]? = some F ∧ (F.name == "runtime.NumGoroutine")=false∧compFn Tryz.prog F=some af111.strip:=⟨_,Tryz.func111,by kernel_rfl,by kernel_rfl⟩
theorem is116 : ∃ F, Tryz.prog.funcs[116]? = some F ∧ (F.name == "runtime.NumGoroutine")=false∧compFn Tryz.prog F=some af116.strip:=⟨_,Tryz.func116,by kernel_rfl,by kernel_rfl⟩
theorem is122 : ∃ F, Tryz.prog.funcs[122]? = some F ∧ (F.name == "runtime.NumGoroutine")=false∧compFn Tryz.prog F=some af122.strip:=⟨_,Tryz.func122,by kernel_rfl,by kernel_rfl⟩
end Ev
end Go.Proofs.YtlcjlcllbgjplaaGreat

/- The code of the evaluator is that of the program (part 3). Printed by program. -/
namespace Go.Proofs.YtlcjlcllbgjplaaGreat
open Go Go.Proofs
namespace Ev
set_option maxRecDepth 1000000
theorem is6 : ∃ F, Tryz.prog.funcs[6]? = some F ∧ (F.name == "runtime.NumGoroutine")=false∧compFn Tryz.prog F=some af6.strip:=⟨_,Tryz.func6,by kernel_rfl,by kernel_rfl⟩
theorem is12 : ∃ F, Tryz.prog.funcs[12]? = some F ∧ (F.name == "runtime.NumGoroutine")=false∧compFn Tryz.prog F=some af12.strip:=⟨_,Tryz.func12,by kernel_rfl,by kernel_rfl⟩
theorem is13 : ∃ F, Tryz.prog.funcs[13]? = some F ∧ (F.name == "runtime.NumGoroutine")=false∧compFn Tryz.prog F=some af13.strip:=⟨_,Tryz.func13,by kernel_rfl,by kernel_rfl⟩
theorem is17 : ∃ F, Tryz.prog.funcs[17]? = some F ∧ (F.name == "runtime.NumGoroutine")=false∧compFn Tryz.prog F=some af17.strip:=⟨_,Tryz.func17,by kernel_rfl,by kernel_rfl⟩
theorem is19 : ∃ F, Tryz.prog.funcs[19]? = some F ∧ (F.name == "runtime.NumGoroutine")=false∧compFn Tryz.prog F=some af19.strip:=⟨_,Tryz.func19,by kernel_rfl,by kernel_rfl⟩
theorem is22 : ∃ F, Tryz.prog.funcs[22]? = some F ∧ (F.name == "runtime.NumGoroutine")=false∧compFn Tryz.prog F=some af22.strip:=⟨_,Tryz.func22,by kernel_rfl,by kernel_rfl⟩
theorem is23 : ∃ F, Tryz.prog.funcs[23]? = some F ∧ (F.name == "runtime.NumGoroutine")=false∧compFn Tryz.prog F=some af23.strip:=⟨_,Tryz.func23,by kernel_rfl,by kernel_rfl⟩
theorem is31 : ∃ F, Tryz.prog.funcs[31]? = some F ∧ (F.name == "runtime.NumGoroutine")=false∧compFn Tryz.prog F=some af31.strip:=⟨_,Tryz.func31,by kernel_rfl,by kernel_rfl⟩
theorem is35 : ∃ F, Tryz.prog.funcs[35]? = some F ∧ (F.name == "runtime.NumGoroutine")=false∧compFn Tryz.prog F=some af35.strip:=⟨_,Tryz.func35,by kernel_rfl,by kernel_rfl⟩
theorem is38 : ∃ F, Tryz.prog.funcs[38]? = some F ∧ (F.name == "runtime.NumGoroutine")=false∧compFn Tryz.prog F=some af38.strip:=⟨_,Tryz.func38,by kernel_rfl,by kernel_rfl⟩
theorem is40 : ∃ F, Tryz.prog.funcs[40]? = some F ∧ (F.name == "runtime.NumGoroutine")=false∧compFn Tryz.prog F=some af40.strip:=⟨_,Tryz.func40,by kernel_rfl,by kernel_rfl⟩
theorem is44 : ∃ F, Tryz.prog.funcs[44]? = some F ∧ (F.name == "runtime.NumGoroutine")=false∧compFn Tryz.prog F=some af44.strip:=⟨_,Tryz.func44,by kernel_rfl,by kernel_rfl⟩
theorem is46 : ∃ F, Tryz.prog.funcs[46]? = some F ∧ (F.name == "runtime.NumGoroutine")=false∧compFn Tryz.prog F=some af46.strip:=⟨_,Tryz.func46,by kernel_rfl,by kernel_rfl⟩
theorem is50 : ∃ F, Tryz.prog.funcs[50]? = some F ∧ (F.name == "runtime.NumGoroutine")=false∧compFn Tryz.prog F=some af50.strip:=⟨_,Tryz.func50,by kernel_rfl,by kernel_rfl⟩
theorem is55 : ∃ F, Tryz.prog.funcs[55]? = some F ∧ (F.name == "runtime.NumGoroutine")=false∧compFn Tryz.prog F=some af55.strip:=⟨_,Tryz.func55,by kernel_rfl,by kernel_rfl⟩
theorem is56 : ∃ F, Tryz.prog.funcs[56]? = some F ∧ (F.name == "runtime.NumGoroutine")=false∧compFn Tryz.prog F=some af56.strip:=⟨_,Tryz.func56,by kernel_rfl,by kernel_rfl⟩
theorem is58 : ∃ F, Tryz.prog.funcs[58]? = some F ∧ (F.name == "runtime.NumGoroutine")=false∧compFn Tryz.prog F=some af58.strip:=⟨_,Tryz.func58,by kernel_rfl,by kernel_rfl⟩
theorem is59 : ∃ F, Tryz.prog.funcs[59]? = some F ∧ (F.name == "runtime.NumGoroutine")=false∧compFn Tryz.prog F=some af59.strip:=⟨_,Tryz.func59,by kernel_rfl,by kernel_rfl⟩
theorem is60 : ∃ F, Tryz.prog.funcs[60]? = some F ∧ (F.name == "runtime.NumGoroutine")=false∧compFn Tryz.prog F=some af60.strip:=⟨_,Tryz.func60,by kernel_rfl,by kernel_rfl⟩
theorem is63 : ∃ F, Tryz.prog.funcs[63]? = some F ∧ (F.name == "runtime.NumGoroutine")=false∧compFn Tryz.prog F=some af63.strip:=⟨_,Tryz.func63,by kernel_rfl,by kernel_rfl⟩
theorem is69 : ∃ F, Tryz.prog.funcs[69]? = some F ∧ (F.name == "runtime.NumGoroutine")=false∧compFn Tryz.prog F=some af69.strip:=⟨_,Tryz.func69,by kernel_rfl,by kernel_rfl⟩
theorem is76 : ∃ F, Tryz.prog.funcs[76]? = some F ∧ (F.name == "runtime.NumGoroutine")=false∧compFn Tryz.prog F=some af76.strip:=⟨_,Tryz.func76,by kernel_rfl,by kernel_rfl⟩
theorem is84 : ∃ F, Tryz.prog.funcs[84]? = some F ∧ (F.name == "runtime.NumGoroutine")=false∧compFn Tryz.prog F=some af84.strip:=⟨_,Tryz.func84,by kernel_rfl,by kernel_rfl⟩
theorem is85 : ∃ F, Tryz.prog.funcs[85]? = some F ∧ (F.name == "runtime.NumGoroutine")=false∧compFn Tryz.prog F=some af85.strip:=⟨_,Tryz.func85,by kernel_rfl,by kernel_rfl⟩
theorem is93 : ∃ F, Tryz.prog.funcs[93]? = some F ∧ (F.name == "runtime.NumGoroutine")=false∧compFn Tryz.prog F=some af93.strip:=⟨_,Tryz.func93,by kernel_rfl,by kernel_rfl⟩
theorem is98 : ∃ F, Tryz.prog.funcs[98]? = some F ∧ (F.name == "runtime.NumGoroutine")=false∧compFn Tryz.prog F=some af98.strip:=⟨_,Tryz.func98,by kernel_rfl,by kernel_rfl⟩
theorem is99 : ∃ F, Tryz.prog.funcs[99]? = some F ∧ (F.name == "runtime.NumGoroutine")=false∧compFn Tryz.prog F=some af99.strip:=⟨_,Tryz.func99,by kernel_rfl,by kernel_rfl⟩
theorem is104 : ∃ F, Tryz.prog.funcs[104]? = some F ∧ (F.name == "runtime.NumGoroutine")=false∧compFn Tryz.prog F=some af104.strip:=⟨_,Tryz.func104,by kernel_rfl,by kernel_rfl⟩
theorem is113 : ∃ F, Tryz.prog.funcs[113]? = some F ∧ (F.name == "runtime.NumGoroutine")=false∧compFn Tryz.prog F=some af113.strip:=⟨_,Tryz.func113,by kernel_rfl,by kernel_rfl⟩
theorem is114 : ∃ F, Tryz.prog.funcs[114]? = some F ∧ (F.name == "runtime.NumGoroutine")=false∧compFn Tryz.prog F=some af114.strip:=⟨_,Tryz.func114,by kernel_rfl,by kernel_rfl⟩
theorem is115 : ∃ F, Tryz.prog.funcs[115]? = some F ∧ (F.name == "runtime.NumGoroutine")=false∧compFn Tryz.prog F=some af115.strip:=⟨_,Tryz.func115,by kernel_rfl,by kernel_rfl⟩
end Ev
end Go.Proofs.YtlcjlcllbgjplaaGreat

/- The code of the evaluator is that of the program (part 4). Printed by program. -/
namespace Go.Proofs.YtlcjlcllbgjplaaGreat
open Go Go.Proofs
namespace Ev
set_option maxRecDepth 1000000
theorem is3 : ∃ F, Tryz.prog.funcs[3]? = some F ∧ (F.name == "runtime.NumGoroutine")=false∧compFn Tryz.prog F=some af3.strip:=⟨_,Tryz.func3,by kernel_rfl,by kernel_rfl⟩
theorem is4 : ∃ F, Tryz.prog.funcs[4]? = some F ∧ (F.name == "runtime.NumGoroutine")=false∧compFn Tryz.prog F=some af4.strip:=⟨_,Tryz.func4,by kernel_rfl,by kernel_rfl⟩
theorem is9 : ∃ F, Tryz.prog.funcs[9]? = some F ∧ (F.name == "runtime.NumGoroutine")=false∧compFn Tryz.prog F=some af9.strip:=⟨_,Tryz.func9,by kernel_rfl,by kernel_rfl⟩
theorem is26 : ∃ F, Tryz.prog.funcs[26]? = some F ∧ (F.name == "runtime.NumGoroutine")=false∧compFn Tryz.prog F=some af26.strip:=⟨_,Tryz.func26,by kernel_rfl,by kernel_rfl⟩
theorem is27 : ∃ F, Tryz.prog.funcs[27]? = some F ∧ (F.name == "runtime.NumGoroutine")=false∧compFn Tryz.prog F=some af27.strip:=⟨_,Tryz.func27,by kernel_rfl,by kernel_rfl⟩
theorem is37 : ∃ F, Tryz.prog.funcs[37]? = some F ∧ (F.name == "runtime.NumGoroutine")=false∧compFn Tryz.prog F=some af37.strip:=⟨_,Tryz.func37,by kernel_rfl,by kernel_rfl⟩
theorem is42 : ∃ F, Tryz.prog.funcs[42]? = some F ∧ (F.name == "runtime.NumGoroutine")=false∧compFn Tryz.prog F=some af42.strip:=⟨_,Tryz.func42,by kernel_rfl,by kernel_rfl⟩
theorem is43 : ∃ F, Tryz.prog.funcs[43]? = some F ∧ (F.name == "runtime.NumGoroutine")=false∧compFn Tryz.prog F=some af43.strip:=⟨_,Tryz.func43,by kernel_rfl,by kernel_rfl⟩
theorem is45 : ∃ F, Tryz.prog.funcs[45]? = some F ∧ (F.name == "runtime.NumGoroutine")=false∧compFn Tryz.prog F=some af45.strip:=⟨_,Tryz.func45,by kernel_rfl,by kernel_rfl⟩
theorem is48 : ∃ F, Tryz.prog.funcs[48]? = some F ∧ (F.name == "runtime.NumGoroutine")=false∧compFn Tryz.prog F=some af48.strip:=⟨_,Tryz.func48,by kernel_rfl,by kernel_rfl⟩
theorem is54 : ∃ F, Tryz.prog.funcs[54]? = some F ∧ (F.name == "runtime.NumGoroutine")=false∧compFn Tryz.prog F=some af54.strip:=⟨_,Tryz.func54,by kernel_rfl,by kernel_rfl⟩
theorem is61 : ∃ F, Tryz.prog.funcs[61]? = some F ∧ (F.name == "runtime.NumGoroutine")=false∧compFn Tryz.prog F=some af61.strip:=⟨_,Tryz.func61,by kernel_rfl,by kernel_rfl⟩
theorem is71 : ∃ F, Tryz.prog.funcs[71]? = some F ∧ (F.name == "runtime.NumGoroutine")=false∧compFn Tryz.prog F=some af71.strip:=⟨_,Tryz.func71,by kernel_rfl,by kernel_rfl⟩
theorem is73 : ∃ F, Tryz.prog.funcs[73]? = some F ∧ (F.name == "runtime.NumGoroutine")=false∧compFn Tryz.prog F=some af73.strip:=⟨_,Tryz.func73,by kernel_rfl,by kernel_rfl⟩
theorem is77 : ∃ F, Tryz.prog.funcs[77]? = some F ∧ (F.name == "runtime.NumGoroutine")=false∧compFn Tryz.prog F=some af77.strip:=⟨_,Tryz.func77,by kernel_rfl,by kernel_rfl⟩
theorem is78 : ∃ F, Tryz.prog.funcs[78]? = some F ∧ (F.name == "runtime.NumGoroutine")=false∧compFn Tryz.prog F=some af78.strip:=⟨_,Tryz.func78,by kernel_rfl,by kernel_rfl⟩
theorem is82 : ∃ F, Tryz.prog.funcs[82]? = some F ∧ (F.name == "runtime.NumGoroutine")=false∧compFn Tryz.prog F=some af82.strip:=⟨_,Tryz.func82,by kernel_rfl,by kernel_rfl⟩
theorem is87 : ∃ F, Tryz.prog.funcs[87]? = some F ∧ (F.name == "runtime.NumGoroutine")=false∧compFn Tryz.prog F=some af87.strip:=⟨_,Tryz.func87,by kernel_rfl,by kernel_rfl⟩
theorem is90 : ∃ F, Tryz.prog.funcs[90]? = some F ∧ (F.name == "runtime.NumGoroutine")=false∧compFn Tryz.prog F=some af90.strip:=⟨_,Tryz.func90,by kernel_rfl,by kernel_rfl⟩
theorem is92 : ∃ F, Tryz.prog.funcs[92]? = some F ∧ (F.name == "runtime.NumGoroutine")=false∧compFn Tryz.prog F=some af92.strip:=⟨_,Tryz.func92,by kernel_rfl,by kernel_rfl⟩
theorem is100 : ∃ F, Tryz.prog.funcs[100]? = some F ∧ (F.name == "runtime.NumGoroutine")=false∧compFn Tryz.prog F=some af100.strip:=⟨_,Tryz.func100,by kernel_rfl,by kernel_rfl⟩
theorem is102 : ∃ F, Tryz.prog.funcs[102]? = some F ∧ (F.name == "runtime.NumGoroutine")=false∧compFn Tryz.prog F=some af102.strip:=⟨_,Tryz.func102,by kernel_rfl,by kernel_rfl⟩
theorem is103 : ∃ F, Tryz.prog.funcs[103]? = some F ∧ (F.name == "runtime.NumGoroutine")=false∧compFn Tryz.prog F=some af103.strip:=⟨_,Tryz.func103,by kernel_rfl,by kernel_rfl⟩
theorem is110 : ∃ F, Tryz.prog.funcs[110]? = some F ∧ (F.name == "runtime.NumGoroutine")=false∧compFn Tryz.prog F=some af110.strip:=⟨_,Tryz.func110,by kernel_rfl,by kernel_rfl⟩
theorem is117 : ∃ F, Tryz.prog.funcs[117]? = some F ∧ (F.name == "runtime.NumGoroutine")=false∧compFn Tryz.prog F=some af117.strip:=⟨_,Tryz.func117,by kernel_rfl,by kernel_rfl⟩
theorem is118 : ∃ F, Tryz.prog.funcs[118]? = some F ∧ (F.name == "runtime.NumGoroutine")=false∧compFn Tryz.prog F=some af118.strip:=⟨_,Tryz.func118,by kernel_rfl,by kernel_rfl⟩
theorem is119 : ∃ F, Tryz.prog.funcs[119]? = some F ∧ (F.name == "runtime.NumGoroutine")=false∧compFn Tryz.prog F=some af119.strip:=⟨_,Tryz.func119,by kernel_rfl,by kernel_rfl⟩
theorem is121 : ∃ F, Tryz.prog.funcs[121]? = some F ∧ (F.name == "runtime.NumGoroutine")=false∧compFn Tryz.prog F=some af121.strip:=⟨_,Tryz.func121,by kernel_rfl,by kernel_rfl⟩
theorem is123 : ∃ F, Tryz.prog.funcs[123]? = some F ∧ (F.name == "runtime.NumGoroutine")=false∧compFn Tryz.prog F=some af123.strip:=⟨_,Tryz.func123,by kernel_rfl,by kernel_rfl⟩
theorem is140 : ∃ F, Tryz.prog.funcs[140]? = some F ∧ (F.name == "runtime.NumGoroutine")=false∧compFn Tryz.prog F=some af140.strip:=⟨_,Tryz.func140,by kernel_rfl,by kernel_rfl⟩
theorem is141 : ∃ F, Tryz.prog.funcs[141]? = some F ∧ (F.name == "runtime.NumGoroutine")=false∧compFn Tryz.prog F=some af141.strip:=⟨_,Tryz.func141,by kernel_rfl,by kernel_rfl⟩
end Ev
end Go.Proofs.YtlcjlcllbgjplaaGreat

/- The table of the evaluator is that of the program. Printed by program. -/
namespace Go.Proofs.YtlcjlcllbgjplaaGreat
open Go Go.Proofs
namespace Ev
def FT.All (p:Nat→AFunc→Prop):FT→Prop
  |.leaf=>True
  |.node k f l r=>p k f∧(FT.All p l∧FT.All p r)
theorem FT.find_all {p:Nat→AFunc→Prop}:∀ {t:FT} {n:Nat} {f:AFunc},FT.All p t→FT.find t n=some f→p n f
  |.leaf,n,f,_,h=>by cases h
  |.node k g l r,n,f,ha,h=>by
    have e:FT.find (.node k g l r) n=(Bool.rec (Bool.rec (FT.find r n) (FT.find l n) (Nat.ble (Nat.succ n) k)) (some g) (Nat.beq n k):Option AFunc):=rfl
    rw[e] at h
    cases hb:Nat.beq n k with
    |true=>rw[hb] at h;cases h;rw[Nat.eq_of_beq_eq_true hb];exact ha.1
    |false=>
      rw[hb] at h
      cases hc:Nat.ble (Nat.succ n) k with
      |true=>rw[hc] at h;exact FT.find_all ha.2.1 h
      |false=>rw[hc] at h;exact FT.find_all ha.2.2 h
theorem zru : FT.All (fun k af => ∃ F, Tryz.prog.funcs[k]? = some F ∧ (F.name == "runtime.NumGoroutine")=false∧compFn Tryz.prog F=some af.strip) fnTree:=
  ⟨is65,⟨is34,⟨is18,⟨is10,⟨is6,⟨is4,⟨is3,trivial,trivial⟩,⟨is5,trivial,trivial⟩⟩,⟨is8,⟨is7,trivial,trivial⟩,⟨is9,trivial,trivial⟩⟩⟩,⟨is14,⟨is12,⟨is11,trivial,trivial⟩,⟨is13,trivial,trivial⟩⟩,⟨is16,⟨is15,trivial,trivial⟩,⟨is17,trivial,trivial⟩⟩⟩⟩,⟨is26,⟨is22,⟨is20,⟨is19,trivial,trivial⟩,⟨is21,trivial,trivial⟩⟩,⟨is24,⟨is23,trivial,trivial⟩,⟨is25,trivial,trivial⟩⟩⟩,⟨is31,⟨is28,⟨is27,trivial,trivial⟩,⟨is30,trivial,trivial⟩⟩,⟨is33,⟨is32,trivial,trivial⟩,trivial⟩⟩⟩⟩,⟨is50,⟨is42,⟨is38,⟨is36,⟨is35,trivial,trivial⟩,⟨is37,trivial,trivial⟩⟩,⟨is40,⟨is39,trivial,trivial⟩,⟨is41,trivial,trivial⟩⟩⟩,⟨is46,⟨is44,⟨is43,trivial,trivial⟩,⟨is45,trivial,trivial⟩⟩,⟨is48,⟨is47,trivial,trivial⟩,⟨is49,trivial,trivial⟩⟩⟩⟩,⟨is58,⟨is54,⟨is52,⟨is51,trivial,trivial⟩,⟨is53,trivial,trivial⟩⟩,⟨is56,⟨is55,trivial,trivial⟩,⟨is57,trivial,trivial⟩⟩⟩,⟨is62,⟨is60,⟨is59,trivial,trivial⟩,⟨is61,trivial,trivial⟩⟩,⟨is64,⟨is63,trivial,trivial⟩,trivial⟩⟩⟩⟩⟩,⟨is96,⟨is81,⟨is73,⟨is69,⟨is67,⟨is66,trivial,trivial⟩,⟨is68,trivial,trivial⟩⟩,⟨is71,⟨is70,trivial,trivial⟩,⟨is72,trivial,trivial⟩⟩⟩,⟨is77,⟨is75,⟨is74,trivial,trivial⟩,⟨is76,trivial,trivial⟩⟩,⟨is79,⟨is78,trivial,trivial⟩,⟨is80,trivial,trivial⟩⟩⟩⟩,⟨is89,⟨is85,⟨is83,⟨is82,trivial,trivial⟩,⟨is84,trivial,trivial⟩⟩,⟨is87,⟨is86,trivial,trivial⟩,⟨is88,trivial,trivial⟩⟩⟩,⟨is93,⟨is91,⟨is90,trivial,trivial⟩,⟨is92,trivial,trivial⟩⟩,⟨is95,⟨is94,trivial,trivial⟩,trivial⟩⟩⟩⟩,⟨is112,⟨is104,⟨is100,⟨is98,⟨is97,trivial,trivial⟩,⟨is99,trivial,trivial⟩⟩,⟨is102,⟨is101,trivial,trivial⟩,⟨is103,trivial,trivial⟩⟩⟩,⟨is108,⟨is106,⟨is105,trivial,trivial⟩,⟨is107,trivial,trivial⟩⟩,⟨is110,⟨is109,trivial,trivial⟩,⟨is111,trivial,trivial⟩⟩⟩⟩,⟨is120,⟨is116,⟨is114,⟨is113,trivial,trivial⟩,⟨is115,trivial,trivial⟩⟩,⟨is118,⟨is117,trivial,trivial⟩,⟨is119,trivial,trivial⟩⟩⟩,⟨is139,⟨is122,⟨is121,trivial,trivial⟩,⟨is123,trivial,trivial⟩⟩,⟨is141,⟨is140,trivial,trivial⟩,trivial⟩⟩⟩⟩⟩⟩
end Ev
end Go.Proofs.YtlcjlcllbgjplaaGreat

/- A deferred function that recovers, and hands on to another one. -/
namespace Go.Proofs.YtlcjlcllbgjplaaGreat
open Go Go.RowKit
section
variable {P:Program} {n:Nat} {Q:Exit→Act→List Frame→World→Prop} {a:Act} {cs cs':List Frame} {w:World}

theorem zel {id:Nat}{ops:Array Oper}{o:Oper}{rest:List Nat}{v:Value}(hl:List.range ops.size=0::rest)(ho:ops[0]?=some o)(hg:Region.wanted o (yielded ops a.tmps)=true)
    (hrun:(execOp a.eval o).run P w=.ok .recover w) (hrec:recoverD cs=some (v,cs')∨(recoverD cs=none∧v=.nilIface∧cs'=cs))
    (h:wpOpsIn Fence.wide n P ops (fun e a' w'=>Q e a' cs' w') rest (a.put o.dst v) w):(Code.region id ops false).wpSIn Fence.wide n P Q a cs w:=by
  intro b k hb hro hF hroom
  have hlen:cs'.length=cs.length:=by
    rcases hrec with h|⟨_,_,h⟩
    · exact recoverD_length h
    · rw[h]
  obtain ⟨e,a',w',hq,harr⟩:=wp_opsIn rest _ _ h b k cs' hro hF (by rw[hlen];exact hroom)
  have h0:(lone (b.atR a (.inRegion ops (0::rest)::k)) cs w).fenced P Fence.wide:=fenced_oper hF hroom ho fun _ _=>trivial
  have hgo:=stepGR_op (P:=P) (b:=b) (k:=k) (cs:=cs) (w:=w) (rest:=rest) ho hg
  rw[hro,Oper.semAt_none] at hgo
  have hfin:∀ v,(b.atR a (.inRegion ops (0::rest)::k)).finish v=b.atR (a.put o.dst v) (.inRegion ops rest::k):=by
    intro v;rw[Frame.finish_atR,ho];rfl
  have hk:(b.atR a (.inRegion ops (0::rest)::k)).kind=.deferred:=hb
  have htr:=tryRecover_deferred hk cs
  refine ⟨e,a',cs',w',hlen,hq,.of_steps (.head (fenced_calm hF hroom rfl) (stepR_region) (.one (by rw[hl];exact h0) (step_lone_go ?_))) harr⟩
  rw[hl,hgo,← hfin]
  rcases hrec with hrec|⟨hrec,rfl,rfl⟩
  · simp only[Frame.atR,hro] at htr ⊢
    simp[stepG.apply,hrun,htr,hrec]
  · simp only[Frame.atR,hro] at htr ⊢
    simp[stepG.apply,hrun,htr,hrec]
end
end Go.Proofs.YtlcjlcllbgjplaaGreat

/- Contracts of stopped. -/
namespace Go.Proofs.YtlcjlcllbgjplaaGreat
open Go Go.Proofs Go.RowKit
set_option maxHeartbeats 400000 in
set_option maxRecDepth 100000 in
theorem zjo (B off:Nat)(y:Value)(k:IntKind)(n:Int)(W:World)(hc:W.cell? ⟨B,off,none⟩=some y)(hz:W.frozen? ⟨B,off,none⟩=false):
    Calls Tryz.prog 29 #[.iface 114 (.agg #[.int k n]),.pointer (some ⟨B,off,none⟩)] W fun e W'=>e=.returned (.tuple #[])∧Below W.heap.size (W.setCell ⟨B,off,none⟩ (.int k n)) W':=by
  have hta:∀ w:World,(Instr.typeAssert (.iface 114 (.agg #[.int k n])) 20 114 true).run Tryz.prog w=.ok (.tuple #[.agg #[.int k n],.bool true]) w:=fun _=>by kernel_rfl
  have hlt:B<W.heap.size:=by
    unfold World.cell? at hc
    cases hb:W.heap[B]? with
    |none=>simp[hb] at hc
    |some x=>exact (Array.getElem?_eq_some_iff.1 hb).1
  have hca:∀ o,(W.alloc o).cell? ⟨B,off,none⟩=some y:=fun o=>(World.cell?_of_block (Below.heap_alloc W o B hlt)).trans hc
  have hza:∀ o,(W.alloc o).frozen? ⟨B,off,none⟩=false:=fun o=>(World.frozen?_of_block (Below.heap_alloc W o B hlt)).trans hz
  have hbel:∀ o,Below W.heap.size (W.setCell ⟨B,off,none⟩ (.int k n)) ((W.alloc o).setCell ⟨B,off,none⟩ (.int k n)):=fun o=>by
    refine ⟨rfl,rfl,rfl,by simp,fun i hi=>?_⟩
    simp only[World.setCell,Array.getElem?_modify]
    rw[Below.heap_alloc W o i hi]
  clear hc hz hlt
  go_enter Tryz.func29,Tryz.ntmps29
  go_wp2
  exact ⟨rfl,_,results_none rfl _ _ _,rfl,hbel _⟩
theorem zjp (x:Value)(W:World):Calls Tryz.prog 29 #[.nilIface,x] W fun e W'=>e=.returned (.tuple #[])∧Below W.heap.size W W':=by
  go_enter Tryz.func29,Tryz.ntmps29
  go_wp2
  exact ⟨rfl,_,results_none rfl _ _ _,rfl,Below.refl _ _⟩

theorem zbk {f : Nat} {fn : Func} {id : Nat} {ops : Array Oper} {o0 o1 : Oper} (hf : Tryz.prog.funcs[f]? = some fn) (hb : fn.body = some (.region id ops false)) (hn : fn.ntmps = 3) (hr : fn.results = #[]) (_hnm : (fn.name == "runtime.NumGoroutine")=false)
    (ho:ops=#[o0,o1]) (h0:o0.op=.call { callee:=.builtin .recover,args:=#[],argTypes:=#[] }) (hd0:o0.dst=some 1) (hg0:o0.guard=none) (hd1:o1.dst=some 2) (hg1:o1.guard=none) {ts:Array TypeId} (h1:o1.op=.call { callee:=.value (.func 29),args:=#[.tmp 1,.tmp 0],argTypes:=ts }):
    (∀ (x:Value) (W:World),CallsDIn Fence.wide 0 Tryz.prog f #[x] .returning W fun e u' W'=>(∃ v,e=.returned v)∧u'=.returning∧Below W.heap.size W W') ∧
    (∀ (B off : Nat) (y x : Value) (k : IntKind) (n : Int) (W : World), W.cell? ⟨B, off, none⟩ = some y → W.frozen? ⟨B, off, none⟩ = false → x = .agg #[.int k n] →
      CallsDIn Fence.wide 0 Tryz.prog f #[.pointer (some ⟨B,off,none⟩)] (.panicking [{ v:=.iface 114 x,recovered:=false }]) W fun e u' W'=>
        (∃ v,e=.returned v)∧u'=.panicking [{ v:=.iface 114 x,recovered:=true }]∧Below W.heap.size (W.setCell ⟨B,off,none⟩ (.int k n)) W'):=by
  have hwalk:∀ (x rv:Value) (u u':FrameMode) (W:World) (R:World→Prop),(∀ (c₀:Frame) (cs:List Frame),c₀.mode=u→recoverD (c₀::cs)=some (rv,{ c₀ with mode:=u' }::cs)∨(recoverD (c₀::cs)=none∧rv=.nilIface∧{ c₀ with mode:=u' }::cs=c₀::cs)) →
      Calls Tryz.prog 29 #[rv,x] W (fun e W'=>e=.returned (.tuple #[])∧R W')→CallsDIn Fence.wide 0 Tryz.prog f #[x] u W fun e v' W'=>(∃ v,e=.returned v)∧v'=u'∧R W':=by
    intro x rv u u' W R hrec hcall
    refine callsDIn_of_wpSIn hf hb trivial fun c₀ cs hu=>?_
    refine zel (o:=o0) (rest:=[1]) (v:=rv) (cs':={ c₀ with mode:=u' }::cs) (by rw[ho];rfl) (by rw[ho];rfl) (by simp[Region.wanted,hg0]) (by simp[execOp,h0,resolve,go_sem]) (hrec c₀ cs hu) ?_
    have hev:∀ _:Nat,(#[x]++Array.replicate (fn.ntmps - 1) undef:Array Value)=#[x,undef,undef]:=fun _=>by rw[hn];rfl
    simp only[List.size_toArray,List.length_cons,List.length_nil,Nat.zero_add,hev 0,Act.put,hd0]
    unfold wpOpsIn
    rw[show ops[1]?=some o1 by rw[ho];rfl]
    simp only[Region.wanted,hg1,if_true]
    refine ⟨fun _ _=>trivial,?_⟩
    have hrun:(o1.semAt Fence.wide.round (Act.eval { tmps:=(#[x,undef,undef]:Array Value).setIfInBounds 1 rv,defers:=[] })).run Tryz.prog W=.ok (.enter 29 #[rv,x]) W:=by
      rw[Oper.semAt_eq _ _ _ (by rw[h1];intro c hc;cases hc)]
      simp[execOp,h1,resolve,go_sem,Deferred.ofValue,Act.eval]
    rw[hrun,Oper.uponIn_enter]
    refine ⟨fun h=>by simp[Fence.wide] at h,((callsIn_wide (n:=0)).2 hcall).mono ?_⟩
    rintro e W' ⟨rfl,hR⟩
    simp only[wpOpsIn,Act.put,hd1]
    refine ⟨rfl,u',rfl,.tuple #[],results_none hr _ _ _,⟨_,rfl⟩,rfl,hR⟩
  refine ⟨fun x W=>?_,fun B off y x k n W hc hz hx=>?_⟩
  · refine (hwalk x .nilIface .returning .returning W (Below W.heap.size W) (fun c₀ cs hu=>.inr ⟨by simp[recoverD,hu],rfl,by cases c₀;simp_all⟩) (zjp x W))
  · subst hx
    refine hwalk _ _ _ _ W _ (fun c₀ cs hu=>.inl ?_) (zjo B off y k n W hc hz)
    simp[recoverD,hu]
end Go.Proofs.YtlcjlcllbgjplaaGreat

/- A region that draws its order: the operations before the last ones are quiet in a class of worlds; the last ones stand in one forced order. One walk of the text's order serves every order; the last ones are walked in whatever world of the class. -/
namespace Go.Proofs.YtlcjlcllbgjplaaGreat
open Go
structure Cls (p:World→Prop) where
  W:World
  ok:p W

theorem Cls.step {N:Nat}{W w2:World}(s:Cls (RowKit.Below N W))(hN:N≤W.heap.size)(hb:RowKit.Below s.W.heap.size s.W w2):∃ s':Cls (RowKit.Below N W),w2=s'.W:=
  ⟨⟨w2,s.ok.trans (hb.mono (Nat.le_trans hN s.ok.size))⟩,rfl⟩

section
variable {P:Program} {ops:Array Oper} {md:Region.Mode} {C:World→Prop}

theorem zem {S:Type}(f:S→World){id:Nat}{Q:Exit→Act→World→Prop}{a:Act}{w:World}{l:List Oper}(hm:P.follows .mixedOrders=true)(hB:Region.lexB .any l.toArray=true)
    (hC:∃ s,w.drew=f s)
    (h:wpQuiet P l.toArray (fun w'=>∃ s,w'=f s) (fun a'=>∀ s,Q .normal a' (f s)) l a):(Code.region id l.toArray true).wp P Q a w:=
  wp_region_quiet hm hB hC (by
    have:(fun a'=>∀ s,Q .normal a' (f s))=(fun a'=>∀ w',(∃ s,w'=f s)→Q .normal a' w'):=by funext a';simp
    rw[this] at h;exact h)
end
end Go.Proofs.YtlcjlcllbgjplaaGreat

/- The contract of rest.after: what a rest does to a part. -/
namespace Go.Proofs.YtlcjlcllbgjplaaGreat
open Go Go.Proofs Go.RowKit
theorem quietV {P:Program}{S:Type}[Nonempty S]{f:S→World}{ops:Array Oper}{Q:Act→Prop}{o:Oper}{rest:List Oper}{a:Act}{v:Value}
    (h:∀ s:S,(execOp a.eval o).run P (f s)=.ok (.value v) (f s)) (hg:Region.wanted o (yielded ops a.tmps)=true) (hq:wpQuiet P ops (fun w'=>∃ s,w'=f s) Q rest (a.put o.dst v)):wpQuiet P ops (fun w'=>∃ s,w'=f s) Q (o::rest) a:=by
  refine wpQuiet_step fun K hK=>?_
  rw[if_pos hg]
  refine ⟨v,?_,hK _ hq⟩
  rintro w ⟨s,rfl⟩
  unfold Oper.quietAt
  rw[h s]
  exact ⟨rfl,rfl⟩
set_option maxHeartbeats 400000 in
set_option maxRecDepth 100000 in
theorem zpe (s k f h d:Int)(W:World):Calls Tryz.prog 115 #[.agg #[.int .i64 s,.int .i64 k,.int .i64 f],.int .i64 h,.int .i64 d] W fun e W'=>
    e=.returned (.int .i64 (min f (IntKind.i64.wrap (h+IntKind.i64.wrap (d * k)))))∧Below W.heap.size W W':=by
  go_enter Tryz.func115,Tryz.ntmps115
  go_wp2
  all_goals refine ⟨rfl,_,results_tmp rfl _ _ _,?_,(Below.refl _ _).alloc (Nat.le_refl _) _⟩
  · rename_i hlt
    simp only[Array.getD_eq_getD_getElem?,List.getElem?_toArray,List.getElem?_cons_succ,List.getElem?_cons_zero,Option.getD_some,Ending.returned.injEq,Value.int.injEq,true_and]
    have hw:∀ n,IntKind.i64.wrap n=wrap64 n:=fun n=>by rw[IntKind.wrap_i64];unfold wrap64;first|rfl|omega
    simp only[hw]
    omega
  · rename_i hlt
    simp only[Array.getD_eq_getD_getElem?,List.getElem?_toArray,List.getElem?_cons_succ,List.getElem?_cons_zero,Option.getD_some,Ending.returned.injEq,Value.int.injEq,true_and]
    have hw:∀ n,IntKind.i64.wrap n=wrap64 n:=fun n=>by rw[IntKind.wrap_i64];unfold wrap64;first|rfl|omega
    simp only[hw]
    omega
set_option maxHeartbeats 400000 in
set_option maxRecDepth 100000 in
theorem zxh (p:Value)(h l:Int)(W:World):Calls Tryz.prog 140 #[.agg #[],p,.int .i64 h,.int .i64 l] W fun e W'=>
    e=.returned (.int .i64 h)∧Below W.heap.size W W':=by
  go_enter Tryz.func140,Tryz.ntmps140
  go_wp2
  all_goals refine ⟨rfl,_,results_tmp rfl _ _ _,rfl,((Below.refl _ _).alloc (Nat.le_refl _) _).alloc (by simp) _⟩
theorem zzf (days:Int)(B:Nat)(W:World)(hb:W.heap[B]?=some (.cells #[.int .i64 days] 126 (0,0))):(Instr.fieldAt 126 (.pointer (some ⟨B,0,none⟩)) 0).run Tryz.prog W=.ok (.pointer (some ⟨B,0,none⟩)) W:=by
  have h1:Tryz.prog.cellsOf 126=1:=by kernel_rfl
  have h2:∀ w,(sizeOf 124).run Tryz.prog w=.ok 0 w:=fun w=>by kernel_rfl
  have hsh:(shape B).run Tryz.prog W=.ok (some (126,1)) W:=by simp[shape,Sem.run,World.shape?,hb]
  have h3:byteOfCell Tryz.prog Tryz.prog.depth 126 0=some 0:=by kernel_rfl
  have hs':W.shape? B=some (126,1):=by simp[World.shape?,hb]
  have hva:(viewAt B).run Tryz.prog W=.ok none W:=by simp[viewAt,hs']
  have hnv:(noView ⟨B,0,none⟩).run Tryz.prog W=.ok () W:=by simp[noView,hva,Result.andThen]
  simp[Instr.fieldAt,run_underlying Tryz.underlying126,Instr.sureAddr,fieldPlace,h2,partAt,byteOf,hnv,hs',h1,h3,Result.andThen]

set_option maxHeartbeats 1000000 in
set_option maxRecDepth 100000 in
theorem zwv (days s k f h l:Int)(W:World):Calls Tryz.prog 141 #[.agg #[.int .i64 days],.agg #[.int .i64 s,.int .i64 k,.int .i64 f],.int .i64 h,.int .i64 l] W fun e W'=>
    e=.returned (.int .i64 (min f (IntKind.i64.wrap (h+IntKind.i64.wrap (days * k)))))∧Below W.heap.size W W':=by
  have hld:∀ (B:Nat) (w:World),(Instr.loadAt 124 (.pointer (some ⟨B,0,none⟩))).run Tryz.prog w=.ok (.agg #[]) w:=fun B w=>by
    have h2:(sizeOf 124).run Tryz.prog w=.ok 0 w:=by kernel_rfl
    simp[Instr.loadAt,Instr.sureAddr,loadVar,isAgg,run_underlying Tryz.underlying124,loadCells,loadCellsFrom]
  go_enter Tryz.func141,Tryz.ntmps141
  go_wp2
  obtain ⟨W2,hW2⟩:∃ W2,W2=(W.alloc (Obj.cells #[Value.int IntKind.i64 days] 126)).alloc (Obj.cells #[Value.int IntKind.i64 s,Value.int IntKind.i64 k,Value.int IntKind.i64 f] 57):=⟨_,rfl⟩
  have g4:W2.heap[W.heap.size]?=some (.cells #[.int .i64 days] 126 (0,0)):=by
    rw[hW2,Below.heap_alloc _ _ _ (by simp)];exact World.alloc_heap_new W _
  have g5:W2.heap[W.heap.size+1]?=some (.cells #[.int .i64 s,.int .i64 k,.int .i64 f] 57 (0,0)):=by
    rw[hW2];have:=World.alloc_heap_new (W.alloc (Obj.cells #[Value.int IntKind.i64 days] 126)) (Obj.cells #[Value.int IntKind.i64 s,Value.int IntKind.i64 k,Value.int IntKind.i64 f] 57);rwa [World.size_alloc] at this
  have hbel:Below W.heap.size W W2:=by rw[hW2];exact ((Below.refl _ _).alloc (Nat.le_refl _) _).alloc (by simp) _
  rw[← hW2]
  clear hW2
  have l4:W.heap.size<W2.heap.size:=(Array.getElem?_eq_some_iff.1 g4).1
  have l5:W.heap.size+1<W2.heap.size:=(Array.getElem?_eq_some_iff.1 g5).1
  have q4:W2.cell? ⟨W.heap.size,0,none⟩=some (.int .i64 days):=by simp[World.cell?,g4]
  have q50:W2.cell? ⟨W.heap.size+1,0,none⟩=some (.int .i64 s):=by simp[World.cell?,g5]
  have q51:W2.cell? ⟨W.heap.size+1,1,none⟩=some (.int .i64 k):=by simp[World.cell?,g5]
  have q52:W2.cell? ⟨W.heap.size+1,2,none⟩=some (.int .i64 f):=by simp[World.cell?,g5]
  have hb4:∀ st:Cls (Below W2.heap.size W2),st.W.heap[W.heap.size]?=some (.cells #[.int .i64 days] 126 (0,0)):=fun st=>(st.ok.block _ l4).trans g4
  generalize hp:W.heap.size=p4 at *
  have hcl:∃ s:Cls (Below (W2.heap.size) (W2)),(W2).drew=s.W:=⟨⟨_,(Below.refl _ _).drew⟩,rfl⟩
  have hne:Nonempty (Cls (Below (W2.heap.size) (W2))):=⟨⟨_,Below.refl _ _⟩⟩
  have hS:∀ (s:Cls (Below (W2.heap.size) (W2))) (b o:Nat),b<W2.heap.size→s.W.cell? ⟨b,o,none⟩=(W2).cell? ⟨b,o,none⟩:=fun s b o h=>s.ok.cell (p:=⟨b,o,none⟩) h
  have hSf:∀ (s:Cls (Below (W2.heap.size) (W2))) (b o:Nat),b<W2.heap.size→s.W.frozen? ⟨b,o,none⟩=(W2).frozen? ⟨b,o,none⟩:=fun s b o h=>s.ok.frozen (p:=⟨b,o,none⟩) h
  refine zem (S:=Cls (Below W2.heap.size W2)) Cls.W (by kernel_rfl) (by kernel_rfl) hcl ?_
  clear hcl
  go_big_quiet_step (fail)
  refine quietV (v:=.pointer (some ⟨p4,0,none⟩)) (fun st=>?_) rfl ?_
  · have:=zzf days p4 st.W (hb4 st)
    simp[execOp,Act.eval,this]
  simp only[Act.put,List.setIfInBounds_toArray,List.set_cons_succ,List.set_cons_zero]
  refine quietV (v:=.agg #[]) (fun st=>?_) rfl ?_
  · have:=hld p4 st.W
    simp[execOp,Act.eval,this]
  simp only[Act.put,List.setIfInBounds_toArray,List.set_cons_succ,List.set_cons_zero]
  repeat (go_big_quiet_step ((first|(go_at_call 140;refine (zxh _ _ _ _).mono ?_;rintro e w2 ⟨rfl,hb⟩;exact ⟨rfl,Cls.step _ (Nat.le_refl _) hb⟩)|(go_at_call 115;refine (zpe _ _ _ _ _ _).mono ?_;rintro e w2 ⟨rfl,hb⟩;exact ⟨rfl,Cls.step _ (Nat.le_refl _) hb⟩))))
  refine wpQuiet_nil ?_
  intro st
  have hfin:=hbel.trans (st.ok.mono (Nat.le_of_lt l4))
  clear hS hSf hne hb4 g4 g5 q4 q50 q51 q52 l4 l5
  generalize st.W=W3 at *
  clear st
  go_wp2
  exact ⟨rfl,_,results_tmp rfl _ _ _,rfl,by rw[hp];exact hfin⟩
end Go.Proofs.YtlcjlcllbgjplaaGreat

/- What the evaluator is told of the program: deferred closures, what a rest does. -/
namespace Go.Proofs.YtlcjlcllbgjplaaGreat
open Go
namespace Ev
def closures:List Nat:=[28,40,49,67,71,63,54,70]
noncomputable def memN:List Nat→Nat→Bool:=fun l=>List.rec (motive:=fun _=>Nat→Bool) (fun _=>false) (fun x _ ih n=>Bool.rec (ih n) true (Nat.beq n x)) l
noncomputable def restV (d k f h:Int):Option AV:=Bool.rec none (some (.int .i64 (Bool.rec (Q.addI h (d * k)) f (Q.leI f (Q.addI h (d * k)))))) (Q.andB (Q.fits .i64 (d * k)) (Q.fits .i64 (Q.addI h (d * k))))
noncomputable def restG (args:List AV):Option AV:=match args with
  |[.agg [.int .i64 d],.agg [.int .i64 _,.int .i64 k,.int .i64 f],.int .i64 h,.int .i64 _]=>restV d k f h
  |_=>none
end Ev
end Go.Proofs.YtlcjlcllbgjplaaGreat

/- The deferred closures of package road; what a rest does, told. -/
namespace Go.Proofs.YtlcjlcllbgjplaaGreat
open Go Go.Proofs
namespace Ev
set_option maxRecDepth 100000
theorem dfHeight:DfOk Tryz.prog 28 114 true:=by
  obtain ⟨h1,h2⟩:=zbk (f:=28) Tryz.func28 rfl rfl rfl (by kernel_rfl) rfl rfl rfl rfl rfl rfl rfl
  exact ⟨⟨_,Tryz.func28,by kernel_rfl,by kernel_rfl⟩,h1,fun B off y x k n W hc hz hx=>h2 B off y x k n W hc hz (by simpa using hx)⟩
theorem dfSinks:DfOk Tryz.prog 40 114 true:=by
  obtain ⟨h1,h2⟩:=zbk (f:=40) Tryz.func40 rfl rfl rfl (by kernel_rfl) rfl rfl rfl rfl rfl rfl rfl
  exact ⟨⟨_,Tryz.func40,by kernel_rfl,by kernel_rfl⟩,h1,fun B off y x k n W hc hz hx=>h2 B off y x k n W hc hz (by simpa using hx)⟩
theorem dfBears:DfOk Tryz.prog 49 114 true:=by
  obtain ⟨h1,h2⟩:=zbk (f:=49) Tryz.func49 rfl rfl rfl (by kernel_rfl) rfl rfl rfl rfl rfl rfl rfl
  exact ⟨⟨_,Tryz.func49,by kernel_rfl,by kernel_rfl⟩,h1,fun B off y x k n W hc hz hx=>h2 B off y x k n W hc hz (by simpa using hx)⟩
theorem dfRest:DfOk Tryz.prog 67 114 true:=by
  obtain ⟨h1,h2⟩:=zbk (f:=67) Tryz.func67 rfl rfl rfl (by kernel_rfl) rfl rfl rfl rfl rfl rfl rfl
  exact ⟨⟨_,Tryz.func67,by kernel_rfl,by kernel_rfl⟩,h1,fun B off y x k n W hc hz hx=>h2 B off y x k n W hc hz (by simpa using hx)⟩
theorem dfClash:DfOk Tryz.prog 71 114 true:=by
  obtain ⟨h1,h2⟩:=zbk (f:=71) Tryz.func71 rfl rfl rfl (by kernel_rfl) rfl rfl rfl rfl rfl rfl rfl
  exact ⟨⟨_,Tryz.func71,by kernel_rfl,by kernel_rfl⟩,h1,fun B off y x k n W hc hz hx=>h2 B off y x k n W hc hz (by simpa using hx)⟩
theorem dfMost:DfOk Tryz.prog 63 114 true:=by
  obtain ⟨h1,h2⟩:=zbk (f:=63) Tryz.func63 rfl rfl rfl (by kernel_rfl) rfl rfl rfl rfl rfl rfl rfl
  exact ⟨⟨_,Tryz.func63,by kernel_rfl,by kernel_rfl⟩,h1,fun B off y x k n W hc hz hx=>h2 B off y x k n W hc hz (by simpa using hx)⟩
theorem dfBelow:DfOk Tryz.prog 54 114 true:=by
  obtain ⟨h1,h2⟩:=zbk (f:=54) Tryz.func54 rfl rfl rfl (by kernel_rfl) rfl rfl rfl rfl rfl rfl rfl
  exact ⟨⟨_,Tryz.func54,by kernel_rfl,by kernel_rfl⟩,h1,fun B off y x k n W hc hz hx=>h2 B off y x k n W hc hz (by simpa using hx)⟩
theorem dfWeak:DfOk Tryz.prog 70 114 true:=by
  obtain ⟨h1,h2⟩:=zbk (f:=70) Tryz.func70 rfl rfl rfl (by kernel_rfl) rfl rfl rfl rfl rfl rfl rfl
  exact ⟨⟨_,Tryz.func70,by kernel_rfl,by kernel_rfl⟩,h1,fun B off y x k n W hc hz hx=>h2 B off y x k n W hc hz (by simpa using hx)⟩
theorem znk:∀ {l:List Nat} {n:Nat},memN l n=true→n∈l
  |[],n,h=>by cases h
  |x::l,n,h=>by
    have e:memN (x::l) n=(Bool.rec (memN l n) true (Nat.beq n x):Bool):=rfl
    rw[e] at h
    cases hb:Nat.beq n x with
    |true=>rw[Nat.eq_of_beq_eq_true hb];exact List.mem_cons_self ..
    |false=>rw[hb] at h;exact List.mem_cons_of_mem _ (znk h)
theorem dfk_ok:∀ f t ag,(Bool.rec none (some (114,true)) (memN closures f):Option (Nat × Bool))=some (t,ag)→DfOk Tryz.prog f t ag:=by
  intro f t ag h
  cases hb:memN closures f with
  |false=>rw[hb] at h;cases h
  |true=>
    rw[hb] at h
    cases h
    have hm:=znk hb
    simp only[closures,List.mem_cons,List.not_mem_nil,or_false] at hm
    rcases hm with rfl|rfl|rfl|rfl|rfl|rfl|rfl|rfl
    · exact dfHeight
    · exact dfSinks
    · exact dfBears
    · exact dfRest
    · exact dfClash
    · exact dfMost
    · exact dfBelow
    · exact dfWeak
theorem zww {d k f h:Int}{v:AV}(hv:restV d k f h=some v):v=.int .i64 (min f (IntKind.i64.wrap (h+IntKind.i64.wrap (d * k)))):=by
  unfold restV at hv
  cases hb:Q.andB (Q.fits .i64 (d * k)) (Q.fits .i64 (Q.addI h (d * k))) with
  |false=>rw[hb] at hv;cases hv
  |true=>
    rw[hb] at hv
    rw[Q.andB_eq,Bool.and_eq_true] at hb
    rw[Q.fits_wrap hb.1,← Q.addI_eq,Q.fits_wrap hb.2]
    cases hv
    rw[Q.leI_eq,Q.addI_eq]
    by_cases hle:f≤h+d * k
    · simp[hle,Int.min_eq_left hle]
    · simp[hle];omega
theorem zwu (args:List AV)(v:AV)(rargs:Array Value)(W:World)(L:Nat→Prop)(μ:Mu)(hv:restG args=some v)(hr:VL W L μ args rargs.toList):
    CallsIn Fence.wide 0 Tryz.prog 141 rargs W fun e W'=>(∃ w,e=.returned w∧∀ W L μ,VR W L μ v w)∧RowKit.Below W.heap.size W W':=by
  unfold restG at hv
  split at hv
  · rename_i d s k f h l
    obtain ⟨xs,hxs⟩:∃ xs,rargs.toList=xs:=⟨_,rfl⟩
    rw[hxs] at hr
    have hl:=hr.1
    match xs,hl,hr with
    |[x0,x1,x2,x3],_,hr=>
      obtain ⟨a0,rfl,v0⟩:=vr_agg hr.head
      obtain ⟨a1,rfl,v1⟩:=vr_agg hr.tail.head
      have e2:=vr_int hr.tail.tail.head
      have e3:=vr_int hr.tail.tail.tail.head
      subst e2 e3
      have l0:=v0.1
      have l1:=v1.1
      match a0,l0,v0,a1,l1,v1 with
      |[y0],_,v0,[z0,z1,z2],_,v1=>
        have f0:=vr_int v0.head
        have f1:=vr_int v1.head
        have f2:=vr_int v1.tail.head
        have f3:=vr_int v1.tail.tail.head
        subst f0 f1 f2 f3
        have:rargs=#[.agg #[.int .i64 d],.agg #[.int .i64 s,.int .i64 k,.int .i64 f],.int .i64 h,.int .i64 l]:=Array.ext' (by rw[hxs])
        subst this
        refine (callsIn_wide.2 (zwv d s k f h l W)).mono ?_
        rintro e W' ⟨rfl,hb⟩
        exact ⟨⟨_,rfl,fun _ _ _=>by rw[zww hv];exact .int⟩,hb⟩
  · cases hv
theorem zpf : ∃ F, Tryz.prog.funcs[141]? = some F ∧ (F.name == "runtime.NumGoroutine")=false∧F.body.isNone=false:=⟨_,Tryz.func141,by kernel_rfl,by kernel_rfl⟩
end Ev
end Go.Proofs.YtlcjlcllbgjplaaGreat

/- What was found by the evaluator with arguments that are only read, told of calls of the program. -/
namespace Go.Proofs.YtlcjlcllbgjplaaGreat
open Go Go.RowKit
namespace Ev
section
variable {P:Program} {W:World} {L:Nat→Prop} {μ:Mu} {H:List AB}
theorem zso {k:Nat}{v:AV}{news:List AV}(h:slCells k H v=some news):∃ n,slLen H v=some n:=by
  unfold slCells at h
  split at h
  · exact ⟨_,rfl⟩
  · exact ⟨_,rfl⟩
  · rename_i b off n k'
    split at h
    · split at h
      · rename_i cs hcs
        exact ⟨n,by simp[slLen,alive,hcs]⟩
      · cases h
    · cases h
  · cases h
theorem zkl (hs:Sim P W L μ H){k:Nat}(hk:0<k){v:AV}{x:Value}(hv:VR W L μ v x){es:List AV}(hes:∀ (i:Nat) (e:AV),es[i]?=some e→e.cells.length=k)(hn:∀ e∈es,∀ y∈e.cells,∃ (kd:IntKind) (n:Int),y=.int kd n)(hc:slCells k H v=some (elemCells es)):
    VR W (fun _=>False) nomu (.vs k es) x:=by
  obtain ⟨n,hl⟩:=zso hc
  obtain ⟨p,cap,rfl,h1,h2,h3⟩:=zfi hs hk hv hc hl
  obtain ⟨e1,e2⟩:=zdl hk hes
  have hnm:n=es.length:=Nat.eq_of_mul_eq_mul_right hk (by omega)
  subst hnm
  by_cases h0:es.length=0
  · have:es=[]:=List.eq_nil_of_length_eq_zero h0
    subst this
    exact .vs0
  · rcases h3 with h3|⟨b,o,rfl,hr⟩
    · exact absurd h3 h0
    · have key:∀ (i:Nat) (e:AV) (j:Nat) (y:AV),es[i]?=some e→e.cells[j]?=some y→∃ r,W.cell? ⟨b,o+i * k+j,none⟩=some r∧VR W (fun _=>False) nomu y r:=by
        intro i e j y he hy
        have hjk:j<k:=by have:=(List.getElem?_eq_some_iff.1 hy).1;rw[hes i e he] at this;exact this
        have hi:=(List.getElem?_eq_some_iff.1 he).1
        have hq:i * k+j<(elemCells es).length:=by
          rw[e1]
          have:(i+1) * k≤es.length * k:=Nat.mul_le_mul_right k hi
          rw[Nat.add_mul,Nat.one_mul] at this
          omega
        obtain ⟨e',g1,g2⟩:=e2 _ _ (List.getElem?_eq_getElem hq)
        have d1:(i * k+j) / k=i:=by rw[Nat.mul_comm,Nat.mul_add_div hk,Nat.div_eq_of_lt hjk,Nat.add_zero]
        have d2:(i * k+j) % k=j:=by rw[Nat.mul_comm,Nat.mul_add_mod,Nat.mod_eq_of_lt hjk]
        rw[d1,he] at g1
        cases g1
        rw[d2,hy] at g2
        obtain ⟨r,q1,q2⟩:=hr _ _ (List.getElem?_eq_getElem hq)
        rw[← Option.some.inj g2] at q2
        obtain ⟨kd,m,rfl⟩:=hn e (List.mem_of_getElem? he) y (List.mem_of_getElem? hy)
        refine ⟨r,by rw[Nat.add_assoc];exact q1,?_⟩
        cases q2 with
        |dead h=>simp[headRef] at h
        |int=>exact .int
      refine .vs (fun i j=>(W.cell? ⟨b,o+i * k+j,none⟩).getD undef) h2 hes (fun i e j y he hy=>⟨id,?_⟩) fun i e j y he hy=>?_
      · obtain ⟨r,q1,_⟩:=key i e j y he hy
        rw[q1];rfl
      · obtain ⟨r,q1,q2⟩:=key i e j y he hy
        rw[q1];exact q2
theorem zwo:Sim P W (fun _=>False) nomu []:={ live:=fun i B h=>(by cases h),dead:=fun i b h _=>(by cases h),out:=fun _ _=>rfl,inj:=fun i j B h _=>(by cases h),lt:=fun b h=>h.elim }
theorem zrx {C:Cfg}(hT:TblOk P C){m f:Nat}{args:List AV}{x:CRes}{H':List AB}{tc:List Nat}(h:Ev.call C m (.fn (.func f) [] []) args []=some (x,H',tc))(hG:Globs C W (fun _=>False)){rargs:Array Value}(hv:VL W (fun _=>False) nomu args rargs.toList):
    CallsIn Fence.wide 0 P f rargs W fun e W'=>(∃ L' μ',CRel W' L' μ' x e∧Sim P W' L' μ' H'∧∀ b,L' b→W.heap.size≤b)∧Below W.heap.size W W':=by
  have hok:=zmq hT m
  obtain ⟨r,W1,h1,h2⟩:=hok.sound (tc0:=[]) h (Hp.start (P:=P) zwo) hG
    (rf:=.func (.func f) #[] #[]) (rargs:=rargs) (.fn (rf:=[]) (rc:=[]) (by intro l;simp) rfl (by intro i x r h;simp at h) rfl (by intro i x r h;simp at h)) hv
  have e:(do let d ← Deferred.ofValue (.func (.func f) #[] #[]) rargs;invoke d.target d.args:Sem Next).run P W=.ok (.enter f rargs) W:=by
    simp only[Deferred.ofValue,Sem.run_bind,Sem.run_pure,Result.andThen,invoke]
    have:=hok.fn h rargs W
    simpa using this
  rw[e] at h1
  cases h1
  refine CallsIn.mono h2 ?_
  rintro en W' ⟨L',μ',c1,c2,_⟩
  refine ⟨⟨L',μ',c1,c2.sim,fun b hb=>?_⟩,c2.env.1,c2.env.2.1,c2.env.2.2,c2.size,fun k hk=>c2.same k hk fun i _ hi=>by cases hi⟩
  rcases c2.new b hb with h|h
  · exact h.elim
  · exact h
def Bare:AV→Prop
  |.int _ _=>True
  |.bool _=>True
  |.agg cs=>∀ x∈cs,(∃ k n,x=.int k n)∨∃ b,x=.bool b
  |.tup cs=>∀ x∈cs,(∃ k n,x=.int k n)∨(∃ b,x=.bool b)∨∃ l,x=.agg l∧∀ y∈l,∃ k n,y=.int k n
  |_=>False
theorem zeo {W':World}{L':Nat→Prop}{μ':Mu}{x:AV}{r:Value}(hx:(∃ k n,x=.int k n)∨∃ b,x=.bool b)(h:VR W L μ x r):VR W' L' μ' x r:=by
  rcases hx with ⟨k,n,rfl⟩|⟨b,rfl⟩
  · cases h with
    |dead h=>simp[headRef] at h
    |int=>exact .int
  · cases h with
    |dead h=>simp[headRef] at h
    |bool=>exact .bool
theorem zyo {v:AV}(hb:Bare v){W':World}{L':Nat→Prop}{μ':Mu}{r:Value}(h:VR W L μ v r):VR W' L' μ' v r:=by
  cases v with
  |int k n=>exact zeo (.inl ⟨k,n,rfl⟩) h
  |bool b=>exact zeo (.inr ⟨b,rfl⟩) h
  |agg cs=>
    cases h with
    |dead h=>simp[headRef] at h
    |agg h1 h2=>exact .agg h1 fun i x r hx hr=>zeo (hb x (List.mem_of_getElem? hx)) (h2 i x r hx hr)
  |tup cs=>
    cases h with
    |dead h=>simp[headRef] at h
    |tup h1 h2=>
      refine .tup h1 fun i x r hx hr=>?_
      rcases hb x (List.mem_of_getElem? hx) with h|h|⟨l,rfl,hl⟩
      · exact zeo (.inl h) (h2 i x r hx hr)
      · exact zeo (.inr h) (h2 i x r hx hr)
      · have:=h2 i _ r hx hr
        cases this with
        |dead h=>simp[headRef] at h
        |agg g1 g2=>exact .agg g1 fun i x r hx hr=>zeo (.inl (hl x (List.mem_of_getElem? hx))) (g2 i x r hx hr)
  |_=>exact hb.elim
theorem zjm {C:Cfg}(hT:TblOk P C){m f:Nat}{args:List AV}{v:AV}{H':List AB}{tc:List Nat}(h:Ev.call C m (.fn (.func f) [] []) args []=some (.ret v,H',tc))(hb:Bare v)(hG:Globs C W (fun _=>False)){rargs:Array Value}(hv:VL W (fun _=>False) nomu args rargs.toList):
    CallsIn Fence.wide 0 P f rargs W fun e W'=>(∃ w,e=.returned w∧∀ W L μ,VR W L μ v w)∧Below W.heap.size W W':=by
  refine (zrx hT h hG hv).mono ?_
  rintro en W' ⟨⟨L',μ',c1,_⟩,c2⟩
  cases en<;>simp only[CRel] at c1
  exact ⟨⟨_,rfl,fun _ _ _=>zyo hb c1⟩,c2⟩
end
end Ev
end Go.Proofs.YtlcjlcllbgjplaaGreat

/- Roads as values of the evaluator, wherever their lists lie. -/
namespace Go.Proofs.YtlcjlcllbgjplaaGreat
open Go
namespace Ev
namespace Ro
open K
set_option maxRecDepth 100000
def ptCs:List Rd.Pt→List AV
  |[]=>[]
  |p::l=>.int .i64 p.height.lo::.int .i64 p.height.hi::.int .i64 p.stiff.lo::.int .i64 p.stiff.hi::.int .i64 p.rise.lo::.int .i64 p.rise.hi::.int .i64 p.full::ptCs l
def evCs:List Rd.Evt→List AV
  |[]=>[]
  |v::l=>.int .i64 v.kind::.int .i64 v.load.lo::.int .i64 v.load.hi::.int .i64 v.days::.int .i64 v.part::.int .i64 v.shows.lo::.int .i64 v.shows.hi::evCs l
def ptsC:List AV→Option (List Rd.Pt)
  |[]=>some []
  |.int .i64 a::.int .i64 b::.int .i64 c::.int .i64 d::.int .i64 e::.int .i64 f::.int .i64 g::l=>(ptsC l).map (⟨⟨a,b⟩,⟨c,d⟩,⟨e,f⟩,g⟩::·)
  |_=>none
def evsC:List AV→Option (List Rd.Evt)
  |[]=>some []
  |.int .i64 a::.int .i64 b::.int .i64 c::.int .i64 d::.int .i64 e::.int .i64 f::.int .i64 g::l=>(evsC l).map (⟨a,⟨b,c⟩,d,e,⟨f,g⟩⟩::·)
  |_=>none
@[simp] theorem zyw:∀ l,ptsC (ptCs l)=some l
  |[]=>rfl
  |p::l=>by simp[ptCs,ptsC,zyw l]
@[simp] theorem zzm:∀ l,evsC (evCs l)=some l
  |[]=>rfl
  |e::l=>by simp[evCs,evsC,zzm l]
theorem zyx:∀ {cs l},ptsC cs=some l→cs=ptCs l:=by
  intro cs
  induction cs using ptsC.induct with
  |case1=>intro l h;cases h;rfl
  |case2 a b c d e f g cs ih=>
    intro l h
    obtain ⟨l',h1,rfl⟩:=Option.map_eq_some_iff.1 h
    rw[ih h1];rfl
  |case3 cs h1 h2=>intro l h;unfold ptsC at h;split at h<;>first|exact absurd rfl h1|exact (h2 _ _ _ _ _ _ _ _ rfl).elim|cases h
theorem zzn:∀ {cs l},evsC cs=some l→cs=evCs l:=by
  intro cs
  induction cs using evsC.induct with
  |case1=>intro l h;cases h;rfl
  |case2 a b c d e f g cs ih=>
    intro l h
    obtain ⟨l',h1,rfl⟩:=Option.map_eq_some_iff.1 h
    rw[ih h1];rfl
  |case3 cs h1 h2=>intro l h;unfold evsC at h;split at h<;>first|exact absurd rfl h1|exact (h2 _ _ _ _ _ _ _ _ rfl).elim|cases h
@[simp] theorem zny:∀ l:List Rd.Pt,elemCells (l.map ptE)=ptCs l
  |[]=>rfl
  |p::l=>by simp[elemCells,ptE,AV.cells,ptCs,zny l]
@[simp] theorem znz:∀ l:List Rd.Evt,elemCells (l.map evE)=evCs l
  |[]=>rfl
  |p::l=>by simp[elemCells,evE,AV.cells,evCs,znz l]
def ptsV (H:List AB)(v:AV)(l:List Rd.Pt):Prop:=slCells 7 H v=some (ptCs l)
def evsV (H:List AB)(v:AV)(l:List Rd.Evt):Prop:=slCells 7 H v=some (evCs l)
def roadOf (H:List AB)(v:AV):Option Rd.Road:=match v with
  | .agg [pv, ev] => (match (slCells 7 H pv).bind ptsC, (slCells 7 H ev).bind evsC with
    |some ps,some es=>if ps.length≤40∧es.length≤50 then some ⟨ps,es⟩ else none
    |_,_=>none)
  |_=>none
theorem zsw {H:List AB}{pv ev:AV}{ps:List Rd.Pt}{es:List Rd.Evt}(h1:ptsV H pv ps)(h2:evsV H ev es)(hp:ps.length≤40)(he:es.length≤50):roadOf H (.agg [pv,ev])=some ⟨ps,es⟩:=by
  unfold ptsV at h1
  unfold evsV at h2
  simp[roadOf,h1,h2,hp,he]
theorem zhr {H:List AB}{v:AV}{r:Rd.Road}(h:roadOf H v=some r):∃ pv ev,v=.agg [pv,ev]∧ptsV H pv r.parts∧evsV H ev r.events∧r.parts.length≤40∧r.events.length≤50:=by
  unfold roadOf at h
  split at h
  · rename_i pv ev
    split at h
    · rename_i ps es h1 h2
      split at h
      · rename_i hb
        cases h
        obtain ⟨c1,e1,f1⟩:=Option.bind_eq_some_iff.1 h1
        obtain ⟨c2,e2,f2⟩:=Option.bind_eq_some_iff.1 h2
        exact ⟨pv,ev,rfl,by unfold ptsV;rw[e1,zyx f1],by unfold evsV;rw[e2,zzn f2],hb.1,hb.2⟩
      · cases h
    · cases h
  · cases h
theorem zyv (H:List AB)(l:List Rd.Pt):ptsV H (.vs 7 (l.map ptE)) l:=by simp[ptsV,slCells]
theorem zzl (H:List AB)(l:List Rd.Evt):evsV H (.vs 7 (l.map evE)) l:=by simp[evsV,slCells]
theorem zne (H:List AB)(r:Rd.Road)(hp:r.parts.length≤40)(he:r.events.length≤50):roadOf H (.agg (roadCs r))=some r:=zsw (zyv H r.parts) (zzl H r.events) hp he
end Ro
end Ev
end Go.Proofs.YtlcjlcllbgjplaaGreat

/- Package road, told: the configuration that its functions were gone through in. -/
namespace Go.Proofs.YtlcjlcllbgjplaaGreat
open Go Go.Proofs Go.RowKit
namespace Ev
namespace Ro
open K
set_option maxRecDepth 100000
set_option maxHeartbeats 4000000
theorem zbi (W:World)(L:Nat→Prop)(C:Cfg):Globs C W L:=fun g cs h=>by cases h
noncomputable def cfgK:Cfg where
  fns:=FT.find fnTree
  glob:=fun _=>none
  dfk:=fun f=>Bool.rec none (some (114,true)) (memN closures f)
  ext:=fun f=>Bool.rec none (some restG) (Nat.beq f 141)
  exth:=fun _=>none
  calm:=true
  whole:=fun _=>true
theorem known (f : Nat) (h : ∃ F, Tryz.prog.funcs[f]? = some F ∧ (F.name == "runtime.NumGoroutine")=false∧∃ af:AFunc,compFn Tryz.prog F=some af.strip):∃ F,Tryz.prog.funcs[f]?=some F∧(F.name== "runtime.NumGoroutine")=false∧F.body.isNone=false:=by
  obtain ⟨F,f1,f2,af,f3⟩:=h
  obtain ⟨c,g1,_⟩:=zhd f3
  exact ⟨F,f1,f2,by rw[g1];rfl⟩
theorem tblK:TblOk Tryz.prog cfgK:=by
  refine ⟨fun f fn h=>FT.find_all zru h,fun f g h=>?_,fun _ _ h=>(by cases h),dfk_ok⟩
  have e:cfgK.ext f=(Bool.rec none (some restG) (Nat.beq f 141):Option (List AV→Option AV)):=rfl
  rw[e] at h
  cases hb:Nat.beq f 141 with
  |false=>rw[hb] at h;cases h
  |true=>
    rw[hb] at h
    cases h
    obtain rfl:=Nat.eq_of_beq_eq_true hb
    exact ⟨zpf,zwu⟩
end Ro
end Ev
end Go.Proofs.YtlcjlcllbgjplaaGreat

/- Package road, told to its laws. -/
namespace Go.Proofs.YtlcjlcllbgjplaaGreat
open Go Go.Proofs Go.RowKit
namespace Ev
namespace Ro
open K
set_option maxRecDepth 100000
set_option maxHeartbeats 4000000
theorem has_of {C:Cfg}{f:Nat}{af:AFunc}(h1:C.ext f=none)(h2:C.exth f=none)(h3:C.fns f=some af)(h4:C.whole f=true):Has C f af:=⟨h1,h2,h3,h4⟩
theorem znr {n:Int}(h0:-1000000000≤n)(h1:n≤1000000000):Q.fits .i64 n=true:=by
  cases n with
  |ofNat m=>
    have h:m≤9223372036854775807:=by simp only[Int.ofNat_eq_natCast] at h1;omega
    exact Nat.ble_eq_true_of_le h
  |negSucc m=>
    have h:Nat.succ m≤9223372036854775808:=by omega
    exact Nat.ble_eq_true_of_le h
theorem rest_k (n:Nat)(H:List AB)(d:Int)(p:Rd.Tr)(hp:TrOk p)(h l:Int)(h0:-1000000≤h)(h1:h≤1000000)(d0:0≤d)(d1:d≤1000):Ev.call cfgK (n+1) (.fn (.func 141) [] []) [.agg [.int .i64 d],.agg [.int .i64 p.stiff,.int .i64 p.rise,.int .i64 p.full],.int .i64 h,.int .i64 l] H=some (.ret (.int .i64 (Rd.rested p h d)),H,[]):=by
  show enter cfgK (Ev.call cfgK n) 141 ([]++[.agg [.int .i64 d],.agg [.int .i64 p.stiff,.int .i64 p.rise,.int .i64 p.full],.int .i64 h,.int .i64 l]++[]) H=_
  unfold enter
  have e1:cfgK.ext 141=some restG:=rfl
  rw[e1]
  have hm0:0≤d * p.rise:=Int.mul_nonneg d0 hp.r1
  have hm1:d * p.rise≤5000:=by
    have:=Int.mul_le_mul d1 hp.r2 hp.r1 (by decide)
    omega
  have e2:restG ([]++[.agg [.int .i64 d],.agg [.int .i64 p.stiff,.int .i64 p.rise,.int .i64 p.full],.int .i64 h,.int .i64 l]++[])=some (.int .i64 (Rd.rested p h d)):=by
    show restV d p.rise p.full h=_
    unfold restV
    rw[Q.addI_eq,znr (by omega) (by omega),znr (by omega) (by omega)]
    show some (AV.int .i64 (Bool.rec (h+d * p.rise) p.full (Q.leI p.full (h+d * p.rise))))=_
    rw[Q.leI_eq]
    unfold Rd.rested
    by_cases hle:p.full≤h+d * p.rise
    · rw[decide_eq_true hle,Int.min_eq_left hle]
    · rw[decide_eq_false hle,Int.min_eq_right (by omega)]
  simp only[e2,Option.map_some]
theorem knowsK:Knows cfgK where
  calm:=rfl
  wh:=fun _=>rfl
  within:=has_of rfl rfl (by kernel_rfl) rfl
  isLoad:=has_of rfl rfl (by kernel_rfl) rfl
  always:=has_of rfl rfl (by kernel_rfl) rfl
  isPart:=has_of rfl rfl (by kernel_rfl) rfl
  isEvent:=has_of rfl rfl (by kernel_rfl) rfl
  every:=has_of rfl rfl (by kernel_rfl) rfl
  isSpan:=has_of rfl rfl (by kernel_rfl) rfl
  must:=has_of rfl rfl (by kernel_rfl) rfl
  sunk:=has_of rfl rfl (by kernel_rfl) rfl
  rested:=has_of rfl rfl (by kernel_rfl) rfl
  look:=has_of rfl rfl (by kernel_rfl) rfl
  pass:=has_of rfl rfl (by kernel_rfl) rfl
  rest:=rest_k
  height:=has_of rfl rfl (by kernel_rfl) rfl
  first:=has_of rfl rfl (by kernel_rfl) rfl
  parts:=has_of rfl rfl (by kernel_rfl) rfl
  parts1:=has_of rfl rfl (by kernel_rfl) rfl
  ways:=has_of rfl rfl (by kernel_rfl) rfl
  all:=has_of rfl rfl (by kernel_rfl) rfl
  all1:=has_of rfl rfl (by kernel_rfl) rfl
  all11:=has_of rfl rfl (by kernel_rfl) rfl
  told:=has_of rfl rfl (by kernel_rfl) rfl
  told1:=has_of rfl rfl (by kernel_rfl) rfl
  can:=has_of rfl rfl (by kernel_rfl) rfl
  known:=has_of rfl rfl (by kernel_rfl) rfl
  joined:=has_of rfl rfl (by kernel_rfl) rfl
  span:=has_of rfl rfl (by kernel_rfl) rfl
  heights:=has_of rfl rfl (by kernel_rfl) rfl
  heights1:=has_of rfl rfl (by kernel_rfl) rfl
  left:=has_of rfl rfl (by kernel_rfl) rfl
  index:=has_of rfl rfl (by kernel_rfl) rfl
  cont:=has_of rfl rfl (by kernel_rfl) rfl
  sure:=has_of rfl rfl (by kernel_rfl) rfl
  sure1:=has_of rfl rfl (by kernel_rfl) rfl
  may:=has_of rfl rfl (by kernel_rfl) rfl
  may1:=has_of rfl rfl (by kernel_rfl) rfl
  open_ := has_of rfl rfl (by kernel_rfl) rfl
  count:=has_of rfl rfl (by kernel_rfl) rfl
  count1:=has_of rfl rfl (by kernel_rfl) rfl
  firstN:=has_of rfl rfl (by kernel_rfl) rfl
  height2:=has_of rfl rfl (by kernel_rfl) rfl
  sinks2:=has_of rfl rfl (by kernel_rfl) rfl
  sinks3:=has_of rfl rfl (by kernel_rfl) rfl
  bears2:=has_of rfl rfl (by kernel_rfl) rfl
  rest2:=has_of rfl rfl (by kernel_rfl) rfl
  rest3:=has_of rfl rfl (by kernel_rfl) rfl
  most2:=has_of rfl rfl (by kernel_rfl) rfl
  eHeight:=has_of rfl rfl (by kernel_rfl) rfl
  eSinks:=has_of rfl rfl (by kernel_rfl) rfl
  eBears:=has_of rfl rfl (by kernel_rfl) rfl
  eMost:=has_of rfl rfl (by kernel_rfl) rfl
  eRest:=has_of rfl rfl (by kernel_rfl) rfl
  eBelow:=has_of rfl rfl (by kernel_rfl) rfl
  eWeak:=has_of rfl rfl (by kernel_rfl) rfl
  dfHeight:=rfl
  dfSinks:=rfl
  dfBears:=rfl
  dfMost:=rfl
  dfRest:=rfl
  dfBelow:=rfl
  dfWeak:=rfl
theorem knowsM:KnowsM cfgK where
  calm:=rfl
  swap:=has_of rfl rfl (by kernel_rfl) rfl
  rot:=has_of rfl rfl (by kernel_rfl) rfl
  sym:=has_of rfl rfl (by kernel_rfl) rfl
  ins:=has_of rfl rfl (by kernel_rfl) rfl
  stable:=has_of rfl rfl (by kernel_rfl) rfl
  sort:=has_of rfl rfl (by kernel_rfl) rfl
  o64:=has_of rfl rfl (by kernel_rfl) rfl
  ones:=has_of rfl rfl (by kernel_rfl) rfl
  cmp:=has_of rfl rfl (by kernel_rfl) rfl
theorem knowsC:KnowsC cfgK clashM where
  k:=knowsK
  sort:=sortM knowsM
  cl3:=has_of rfl rfl (by kernel_rfl) rfl
  are:=has_of rfl rfl (by kernel_rfl) rfl
  val:=has_of rfl rfl (by kernel_rfl) rfl
  val1:=has_of rfl rfl (by kernel_rfl) rfl
  firstU:=has_of rfl rfl (by kernel_rfl) rfl
  eClash:=has_of rfl rfl (by kernel_rfl) rfl
  df:=rfl
def intsOf:List AV→Option (List Int)
  |[]=>some []
  |.int .i64 n::l=>if -9223372036854775808≤n∧n≤9223372036854775807 then (intsOf l).map (n::·) else none
  |_=>none
theorem zkp:∀ {l:List AV} {ns:List Int},intsOf l=some ns→l=ns.map (AV.int .i64)∧∀ n∈ns,-9223372036854775808≤n∧n≤9223372036854775807
  |[],ns,h=>by cases h;exact ⟨rfl,by simp⟩
  |v::l,ns,h=>by
    unfold intsOf at h
    split at h
    · rename_i e;cases e
    · rename_i n l' e
      obtain ⟨rfl,rfl⟩:=List.cons.inj e
      split at h
      · rename_i hb
        obtain ⟨ms,h1,rfl⟩:=Option.map_eq_some_iff.1 h
        obtain ⟨h2,h3⟩:=zkp h1
        refine ⟨by rw[List.map_cons,← h2],fun m hm=>?_⟩
        rcases List.mem_cons.1 hm with rfl|hm
        · exact hb
        · exact h3 m hm
      · cases h
    · cases h
def gRd (spec:Rd.Road→List Int→Option AV)(args:List AV)(H:List AB):Option AV:=
  match args with
  |v::rest=>(roadOf H v).bind fun r=>(intsOf rest).bind fun ns=>spec r ns
  |[]=>none
theorem rd_arg {W:World}{L:Nat→Prop}{μ:Mu}{H:List AB}(hs:Sim Tryz.prog W L μ H){v:AV}{x:Value}{r:Rd.Road}(hc:roadOf H v=some r)(hv:VR W L μ v x):VR W (fun _=>False) nomu (.agg (roadCs r)) x:=by
  obtain ⟨pv,ev,rfl,h1,h2,_,_⟩:=zhr hc
  cases hv with
  |dead h=>simp[headRef] at h
  |@agg _ _ rs hl hr=>
    match rs,hl with
    |[r0,r1],_=>
      have a0:=hr 0 _ _ rfl rfl
      have a1:=hr 1 _ _ rfl rfl
      refine .agg rfl fun i x r hx hr'=>?_
      match i,hx,hr' with
      |0,hx,hr'=>
        cases hx;cases hr'
        refine zkl hs (by decide) a0 (fun i e he=>?_) (fun e he y hy=>?_) (by rw[zny];exact h1)
        · rw[List.getElem?_map] at he
          obtain ⟨p,_,rfl⟩:=Option.map_eq_some_iff.1 he
          rfl
        · obtain ⟨p,_,rfl⟩:=List.mem_map.1 he
          simp only[ptE,AV.cells,List.mem_cons,List.not_mem_nil,or_false] at hy
          rcases hy with rfl|rfl|rfl|rfl|rfl|rfl|rfl<;>exact ⟨_,_,rfl⟩
      |1,hx,hr'=>
        cases hx;cases hr'
        refine zkl hs (by decide) a1 (fun i e he=>?_) (fun e he y hy=>?_) (by rw[znz];exact h2)
        · rw[List.getElem?_map] at he
          obtain ⟨p,_,rfl⟩:=Option.map_eq_some_iff.1 he
          rfl
        · obtain ⟨p,_,rfl⟩:=List.mem_map.1 he
          simp only[evE,AV.cells,List.mem_cons,List.not_mem_nil,or_false] at hy
          rcases hy with rfl|rfl|rfl|rfl|rfl|rfl|rfl<;>exact ⟨_,_,rfl⟩
      |i+2,hx,hr'=>simp[roadCs] at hx
theorem grd_ok {spec : Rd.Road → List Int → Option AV} {f : Nat} (hk : ∃ F, Tryz.prog.funcs[f]? = some F ∧ (F.name == "runtime.NumGoroutine")=false∧∃ af:AFunc,compFn Tryz.prog F=some af.strip)
    (hf:∀ (r:Rd.Road) (ns:List Int) (v:AV),r.parts.length≤40→r.events.length≤50→(∀ n∈ns,-9223372036854775808≤n∧n≤9223372036854775807)→spec r ns=some v→Bare v∧∃ C:Cfg,TblOk Tryz.prog C∧(∀ W L,Globs C W L)∧∃ m H' tc,Ev.call C m (.fn (.func f) [] []) (.agg (roadCs r)::ns.map (AV.int .i64)) []=some (.ret v,H',tc)):
    (∃ F, Tryz.prog.funcs[f]? = some F ∧ (F.name == "runtime.NumGoroutine")=false∧F.body.isNone=false)∧∀ (args:List AV) (H:List AB) (v:AV) (rargs:Array Value) (W:World) (L:Nat→Prop) (μ:Mu),gRd spec args H=some v→VL W L μ args rargs.toList→Sim Tryz.prog W L μ H →
      CallsIn Fence.wide 0 Tryz.prog f rargs W fun e W'=>(∃ w,e=.returned w∧VR W' L nomu v w)∧Below W.heap.size W W':=by
  refine ⟨known f hk,fun args H v rargs W L μ h hv hs=>?_⟩
  unfold gRd at h
  split at h
  · rename_i u rest
    obtain ⟨r,h1,h2⟩:=Option.bind_eq_some_iff.1 h
    obtain ⟨ns,h3,h4⟩:=Option.bind_eq_some_iff.1 h2
    obtain ⟨rfl,hns⟩:=zkp h3
    obtain ⟨_,_,_,_,_,b1,b2⟩:=zhr h1
    obtain ⟨hb,C,hT,hG,m,H',tc,hcall⟩:=hf r ns v b1 b2 hns h4
    refine (zjm hT hcall hb (hG _ _) ⟨hv.1,fun i x r hx hr=>?_⟩).mono fun e W' ⟨⟨w,h1,h2⟩,h3⟩=>⟨⟨w,h1,h2 _ _ _⟩,h3⟩
    match i,hx with
    |0,hx=>cases hx;exact rd_arg hs h1 (hv.2 0 _ r rfl hr)
    |i+1,hx=>
      rw[List.getElem?_cons_succ,List.getElem?_map] at hx
      obtain ⟨n,h5,rfl⟩:=Option.map_eq_some_iff.1 hx
      exact zeo (.inl ⟨_,_,rfl⟩) (hv.2 (i+1) (.int .i64 n) r (by rw[List.getElem?_cons_succ,List.getElem?_map,h5];rfl) hr)
  · cases h
def sHeight (r:Rd.Road):List Int→Option AV|[n,v]=>some (spanRV r (Rd.isPart r n&&Rd.isEvent r v) (Rd.heightsR r n.toNat (v.toNat+1)))|_=>none
def sSinks (r:Rd.Road):List Int→Option AV|[n,l]=>some (spanRV r (Rd.isPart r n&&Rd.isLoad l) (Rd.sinksR r n.toNat l))|_=>none
def sBears (r:Rd.Road):List Int→Option AV|[l]=>some (numRV r (Rd.isLoad l) (Rd.bearsR r l))|_=>none
def sMost (r:Rd.Road):List Int→Option AV|[]=>some (findRV r true (Rd.mostR r))|_=>none
def sRest (r:Rd.Road):List Int→Option AV|[l]=>some (findRV r (Rd.isLoad l) (Rd.restR r l))|_=>none
def sBelow (r:Rd.Road):List Int→Option AV|[]=>some (belowRV r)|_=>none
def sWeak (r:Rd.Road):List Int→Option AV|[]=>some (numRV r true (Rd.weakR r))|_=>none
def sClash (r:Rd.Road):List Int→Option AV|[]=>if okClash clashM r=true then some (clashRV r) else none|_=>none
noncomputable def exthL0 (f:Nat):Option (List AV→List AB→Option AV):=
  if f=7 then some (gRd sHeight) else if f=9 then some (gRd sSinks) else if f=11 then some (gRd sBears) else if f=16 then some (gRd sMost) else if f=18 then some (gRd sRest) else if f=13 then some (gRd sBelow) else if f=20 then some (gRd sWeak) else if f=22 then some (gRd sClash) else none
theorem zld (s:Clm.Sp)(e:Int):Bare (.tup [spA s,.int .i64 e]):=by
  intro x hx
  simp only[List.mem_cons,List.not_mem_nil,or_false] at hx
  rcases hx with rfl|rfl
  · refine .inr (.inr ⟨_,rfl,fun y hy=>?_⟩)
    simp only[List.mem_cons,List.not_mem_nil,or_false] at hy
    rcases hy with rfl|rfl<;>exact ⟨_,_,rfl⟩
  · exact .inl ⟨_,_,rfl⟩
theorem zej (a e:Int):Bare (.tup [.int .i64 a,.int .i64 e]):=by
  intro x hx
  simp only[List.mem_cons,List.not_mem_nil,or_false] at hx
  rcases hx with rfl|rfl<;>exact .inl ⟨_,_,rfl⟩
theorem zri (a b e:Int):Bare (.tup [.int .i64 a,.int .i64 b,.int .i64 e]):=by
  intro x hx
  simp only[List.mem_cons,List.not_mem_nil,or_false] at hx
  rcases hx with rfl|rfl|rfl<;>exact .inl ⟨_,_,rfl⟩
theorem zrj (r:Rd.Road):Bare (clashRV r):=by
  unfold clashRV
  split
  · exact zej _ _
  · split<;>exact zej _ _
theorem znv (f : Nat) (g : List AV → List AB → Option AV) (h : exthL0 f = some g) : (∃ F, Tryz.prog.funcs[f]? = some F ∧ (F.name == "runtime.NumGoroutine")=false∧F.body.isNone=false)∧∀ (args:List AV) (H:List AB) (v:AV) (rargs:Array Value) (W:World) (L:Nat→Prop) (μ:Mu),g args H=some v→VL W L μ args rargs.toList→Sim Tryz.prog W L μ H→Globs cfgK W L →
      CallsIn Fence.wide 0 Tryz.prog f rargs W fun e W'=>(∃ w,e=.returned w∧VR W' L nomu v w)∧Below W.heap.size W W':=by
  have kn : ∀ {f : Nat} {af : AFunc}, (∃ F, Tryz.prog.funcs[f]? = some F ∧ (F.name == "runtime.NumGoroutine")=false∧compFn Tryz.prog F=some af.strip)→∃ F,Tryz.prog.funcs[f]?=some F∧(F.name== "runtime.NumGoroutine")=false∧∃ af:AFunc,compFn Tryz.prog F=some af.strip:=fun ⟨F,h1,h2,h3⟩=>⟨F,h1,h2,_,h3⟩
  unfold exthL0 at h
  split at h
  · rename_i hf;subst hf;cases h
    obtain ⟨k1,k2⟩:=grd_ok (spec:=sHeight) (kn is7) fun r ns v b1 b2 hr hs=>by
      unfold sHeight at hs
      split at hs<;>cases hs
      exact ⟨zld _ _,cfgK,tblK,fun _ _=>zbi _ _ _,0+r.events.length+18,_,_,heightE knowsK ⟨by omega,by omega⟩ 0 _ _ (hr _ (by simp))⟩
    exact ⟨k1,fun args H v rargs W L μ a b c _=>k2 args H v rargs W L μ a b c⟩
  split at h
  · rename_i hf;subst hf;cases h
    obtain ⟨k1,k2⟩:=grd_ok (spec:=sSinks) (kn is9) fun r ns v b1 b2 hr hs=>by
      unfold sSinks at hs
      split at hs<;>cases hs
      exact ⟨zld _ _,cfgK,tblK,fun _ _=>zbi _ _ _,0+r.events.length+18,_,_,sinksE knowsK ⟨by omega,by omega⟩ 0 _ _⟩
    exact ⟨k1,fun args H v rargs W L μ a b c _=>k2 args H v rargs W L μ a b c⟩
  split at h
  · rename_i hf;subst hf;cases h
    obtain ⟨k1,k2⟩:=grd_ok (spec:=sBears) (kn is11) fun r ns v b1 b2 hr hs=>by
      unfold sBears at hs
      split at hs<;>cases hs
      exact ⟨zej _ _,cfgK,tblK,fun _ _=>zbi _ _ _,0+r.events.length+18,_,_,bearsE knowsK ⟨by omega,by omega⟩ 0 _⟩
    exact ⟨k1,fun args H v rargs W L μ a b c _=>k2 args H v rargs W L μ a b c⟩
  split at h
  · rename_i hf;subst hf;cases h
    obtain ⟨k1,k2⟩:=grd_ok (spec:=sMost) (kn is16) fun r ns v b1 b2 hr hs=>by
      unfold sMost at hs
      split at hs<;>cases hs
      exact ⟨zej _ _,cfgK,tblK,fun _ _=>zbi _ _ _,0+r.events.length+18,_,_,mostE knowsK ⟨by omega,by omega⟩ 0⟩
    exact ⟨k1,fun args H v rargs W L μ a b c _=>k2 args H v rargs W L μ a b c⟩
  split at h
  · rename_i hf;subst hf;cases h
    obtain ⟨k1,k2⟩:=grd_ok (spec:=sRest) (kn is18) fun r ns v b1 b2 hr hs=>by
      unfold sRest at hs
      split at hs<;>cases hs
      exact ⟨zej _ _,cfgK,tblK,fun _ _=>zbi _ _ _,0+r.events.length+18,_,_,restE knowsK ⟨by omega,by omega⟩ 0 _⟩
    exact ⟨k1,fun args H v rargs W L μ a b c _=>k2 args H v rargs W L μ a b c⟩
  split at h
  · rename_i hf;subst hf;cases h
    obtain ⟨k1,k2⟩:=grd_ok (spec:=sBelow) (kn is13) fun r ns v b1 b2 hr hs=>by
      unfold sBelow at hs
      split at hs<;>cases hs
      exact ⟨zri _ _ _,cfgK,tblK,fun _ _=>zbi _ _ _,0+r.events.length+18,_,_,belowE knowsK ⟨by omega,by omega⟩ 0⟩
    exact ⟨k1,fun args H v rargs W L μ a b c _=>k2 args H v rargs W L μ a b c⟩
  split at h
  · rename_i hf;subst hf;cases h
    obtain ⟨k1,k2⟩:=grd_ok (spec:=sWeak) (kn is20) fun r ns v b1 b2 hr hs=>by
      unfold sWeak at hs
      split at hs<;>cases hs
      exact ⟨zej _ _,cfgK,tblK,fun _ _=>zbi _ _ _,0+r.events.length+18,_,_,weakE knowsK ⟨by omega,by omega⟩ 0⟩
    exact ⟨k1,fun args H v rargs W L μ a b c _=>k2 args H v rargs W L μ a b c⟩
  split at h
  · rename_i hf;subst hf;cases h
    obtain ⟨k1,k2⟩:=grd_ok (spec:=sClash) (kn is22) fun r ns v b1 b2 hr hs=>by
      unfold sClash at hs
      split at hs
      rotate_left
      · cases hs
      split at hs
      rotate_left
      · cases hs
      rename_i hok
      cases hs
      exact ⟨zrj r,cfgK,tblK,fun _ _=>zbi _ _ _,0+r.events.length+18,_,_,clashE knowsC ⟨by omega,by omega⟩ hok 0⟩
    exact ⟨k1,fun args H v rargs W L μ a b c _=>k2 args H v rargs W L μ a b c⟩
  · cases h
end Ro
end Ev
end Go.Proofs.YtlcjlcllbgjplaaGreat

/- Chapter 05: what the laws are told; alive. -/
namespace Go.Proofs.YtlcjlcllbgjplaaGreat
open Go Go.Proofs Go.RowKit
namespace Ev
namespace Ro
open K
set_option maxRecDepth 1000000
noncomputable def cfgL0:Cfg where
  fns:=FT.find fnTree
  glob:=fun _=>none
  dfk:=fun _=>none
  ext:=fun _=>none
  exth:=exthL0
  calm:=true
  whole:=fun _=>true
theorem tblL0 : TblOk Tryz.prog cfgL0 := ⟨fun f fn h => FT.find_all zru h, fun _ _ h => (by cases h), fun f g h => by
  obtain ⟨k1,k2⟩:=znv f g h
  exact ⟨k1,fun args H v rargs W L μ a b c d=>k2 args H v rargs W L μ a b c (zbi _ _ _)⟩,fun _ _ _ h=>(by cases h)⟩
noncomputable def isTrue (o:Option (CRes × List AB × List Nat)):Bool:=match o with
  |some (.ret (.bool b),_,_)=>b
  |_=>false
theorem zmr:isTrue (Ev.call cfgL0 5 (.fn (.func 6) [] []) [] [])=true:=by kernel_rfl
theorem zrn (W:World):CallsIn Fence.wide 0 Tryz.prog 6 #[] W fun e W'=>e=.returned (.bool true)∧Below W.heap.size W W':=by
  have h:=zmr
  generalize hr:Ev.call cfgL0 5 (.fn (.func 6) [] []) [] []=o at h
  unfold isTrue at h
  split at h
  · rename_i b H' tc
    subst h
    exact zwc tblL0 hr W (zbi _ _ _)
  · cases h
end Ro
end Ev
end Go.Proofs.YtlcjlcllbgjplaaGreat

/- Chapter 05: a rest, a pass more: plain. -/
namespace Go.Proofs.YtlcjlcllbgjplaaGreat
open Go
namespace Rd
open Clm (Sp Hull spanL mem_span setOf)
def restE (n:Int):Evt:=⟨1,⟨0,0⟩,n,0,⟨0,0⟩⟩
end Rd
end Go.Proofs.YtlcjlcllbgjplaaGreat

/- Chapter 05: small functions of the laws. -/
namespace Go.Proofs.YtlcjlcllbgjplaaGreat
open Go
namespace Ev
namespace Ro
open K
attribute [local simp] ev1 wantG spineK spine float xnew xval xeff zab zae zaq zah zai addFl cellsOf pickC alive slLen slFt binI maxA maxK minA minK aeqK aeqS AV.cells spA zad fillA setAt bitsI nat_nn zar AV.plain apart
set_option maxRecDepth 100000
set_option maxHeartbeats 4000000
theorem zxi (C:Cfg)(call:CallF)(r:Rd.Road)(H:List AB):Does (ev C call H.length none af5.body { tm:=tmA af5.ntmps (zipI 0 [.agg (roadCs r)] []),df:=[],hp:=H,tc:=[] })
    (Ends C H.length af5.res fun v _hp tc=>v=.bool (decide (max r.parts.length r.events.length > 40))∧tc=[]):=by
  have e:decide ((40:Int)<max (r.parts.length:Int) (r.events.length:Int))=decide (max r.parts.length r.events.length > 40):=by congr 1;simp;omega
  rw[← e]
  unfold af5 Zq Zm Zl Zo Zt Zn
  simp only[zipI,roadCs]
  (refine gA ?_)
  exact zac (v:=.bool (decide ((40:Int)<max (r.parts.length:Int) (r.events.length:Int)))) (.inl rfl) rfl (by simp) (by simp only[resL,resOf,zaa];simp[*,resV]) ⟨rfl,rfl⟩
end Ro
end Ev
end Go.Proofs.YtlcjlcllbgjplaaGreat

/- What the laws of chapter 05 are told. -/
namespace Go.Proofs.YtlcjlcllbgjplaaGreat
open Go
namespace Ev
namespace Ro
open K
set_option maxRecDepth 100000
set_option maxHeartbeats 4000000
def i64n (n:Int):Prop:=-9223372036854775808≤n∧n≤9223372036854775807
structure LApi (call:CallF):Prop where
  height:∀ {H v r},roadOf H v=some r→∀ n m,i64n n→i64n m→call (.fn (.func 7) [] []) [v,.int .i64 n,.int .i64 m] H=some (.ret (spanRV r (Rd.isPart r n&&Rd.isEvent r m) (Rd.heightsR r n.toNat (m.toNat+1))),H,[])
  sinks:∀ {H v r},roadOf H v=some r→∀ n m,i64n n→i64n m→call (.fn (.func 9) [] []) [v,.int .i64 n,.int .i64 m] H=some (.ret (spanRV r (Rd.isPart r n&&Rd.isLoad m) (Rd.sinksR r n.toNat m)),H,[])
  bears:∀ {H v r},roadOf H v=some r→∀ n,i64n n→call (.fn (.func 11) [] []) [v,.int .i64 n] H=some (.ret (numRV r (Rd.isLoad n) (Rd.bearsR r n)),H,[])
  most:∀ {H v r},roadOf H v=some r→call (.fn (.func 16) [] []) [v] H=some (.ret (findRV r true (Rd.mostR r)),H,[])
  rest:∀ {H v r},roadOf H v=some r→∀ n,i64n n→call (.fn (.func 18) [] []) [v,.int .i64 n] H=some (.ret (findRV r (Rd.isLoad n) (Rd.restR r n)),H,[])
  below:∀ {H v r},roadOf H v=some r→call (.fn (.func 13) [] []) [v] H=some (.ret (belowRV r),H,[])
  weak:∀ {H v r},roadOf H v=some r→call (.fn (.func 20) [] []) [v] H=some (.ret (numRV r true (Rd.weakR r)),H,[])
  clash:∀ {H v r},roadOf H v=some r→okClash clashM r=true→call (.fn (.func 22) [] []) [v] H=some (.ret (clashRV r),H,[])
  valid:∀ {H v r},roadOf H v=some r→call (.fn (.func 62) [] []) [v] H=some (.ret (.bool (Rd.valid r)),H,[])
  alive:∀ {H},call (.fn (.func 6) [] []) [] H=some (.ret (.bool true),H,[])
  long:∀ {H} (r:Rd.Road),call (.fn (.func 5) [] []) [.agg [.vs 7 (r.parts.map ptE),.vs 7 (r.events.map evE)]] H=some (.ret (.bool (decide (max r.parts.length r.events.length > 40))),H,[])
end Ro
end Ev
end Go.Proofs.YtlcjlcllbgjplaaGreat

/- The laws of chapter 05: their configuration. -/
namespace Go.Proofs.YtlcjlcllbgjplaaGreat
open Go Go.Proofs Go.RowKit
namespace Ev
namespace Ro
open K
set_option maxRecDepth 100000
set_option maxHeartbeats 4000000
structure KnowsR (C:Cfg):Prop where
  calm:C.calm=true
  rin:Has C 93 af93
  rspan:Has C 105 af105
  rpart:Has C 37 af37
  revent:Has C 106 af106
  rroad:Has C 62 af62
theorem knowsR:KnowsR cfgK where
  calm:=rfl
  rin:=has_of rfl rfl (by kernel_rfl) rfl
  rspan:=has_of rfl rfl (by kernel_rfl) rfl
  rpart:=has_of rfl rfl (by kernel_rfl) rfl
  revent:=has_of rfl rfl (by kernel_rfl) rfl
  rroad:=has_of rfl rfl (by kernel_rfl) rfl
theorem validL (r:Rd.Road)(hp:r.parts.length≤40)(he:r.events.length≤50):Ev.call cfgK 4 (.fn (.func 62) [] []) [.agg (roadCs r)] []=some (.ret (.bool (Rd.valid r)),[],[]):=by
  have k:=knowsR
  have h1:∀ n,RinC (Ev.call cfgK (n+1)):=fun n H a b c=>zag k.calm k.rin (le' rfl) rfl (zsx cfgK _ H a b c)
  have h2:∀ n,RspanC (Ev.call cfgK (n+1)):=fun n H s a b w q1 q2=>zag k.calm k.rspan (le' rfl) rfl (zst cfgK _ H s a b w q1 q2)
  have h3:∀ n,RpartC (Ev.call cfgK (n+2)) r:=fun n H m=>zag k.calm k.rpart (le' rfl) rfl (zjt cfgK _ (h1 n) r (by omega) H m)
  have h4:∀ n,ReventC (Ev.call cfgK (n+3)) r:=fun n H v=>zag k.calm k.revent (le' rfl) rfl (zpb cfgK _ r (h1 (n+1)) (h3 n) (h2 (n+1)) H v)
  exact zag k.calm k.rroad (le' rfl) rfl (zsu cfgK k.calm _ r ⟨by omega,by omega⟩ (h1 2) (h2 2) (h4 0) [])
def sValid (r:Rd.Road):List Int→Option AV|[]=>some (.bool (Rd.valid r))|_=>none
def gAlive (args:List AV)(_:List AB):Option AV:=match args with|[]=>some (.bool true)|_=>none
noncomputable def exthL (f:Nat):Option (List AV→List AB→Option AV):=if f=62 then some (gRd sValid) else if f=6 then some gAlive else exthL0 f
noncomputable def cfgL (t:FT):Cfg where
  fns:=FT.find t
  glob:=fun _=>none
  dfk:=fun _=>none
  ext:=fun _=>none
  exth:=exthL
  calm:=true
  whole:=fun _=>true
def IsTree (t : FT) : Prop := FT.All (fun k af => ∃ F, Tryz.prog.funcs[k]? = some F ∧ (F.name == "runtime.NumGoroutine")=false∧compFn Tryz.prog F=some af.strip) t
theorem tblL {t:FT}(ht:IsTree t):TblOk Tryz.prog (cfgL t):=by
  refine ⟨fun f fn h=>FT.find_all ht h,fun _ _ h=>(by cases h),fun f g h=>?_,fun _ _ _ h=>(by cases h)⟩
  have h':exthL f=some g:=h
  unfold exthL at h'
  split at h'
  · rename_i hf;subst hf;cases h'
    obtain ⟨F,f1,f2,f3⟩:=is62
    obtain ⟨k1,k2⟩:=grd_ok (spec:=sValid) ⟨F,f1,f2,_,f3⟩ fun r ns v b1 b2 hr hs=>by
      unfold sValid at hs
      split at hs<;>cases hs
      exact ⟨trivial,cfgK,tblK,fun _ _=>zbi _ _ _,4,_,_,validL r b1 b2⟩
    exact ⟨k1,fun args H v rargs W L μ a b c _=>k2 args H v rargs W L μ a b c⟩
  split at h'
  · rename_i hf;subst hf;cases h'
    obtain ⟨F,f1,f2,f3⟩:=is6
    refine ⟨known _ ⟨F,f1,f2,_,f3⟩,fun args H v rargs W L μ hv hr hs hG=>?_⟩
    unfold gAlive at hv
    split at hv
    · cases hv
      have:rargs=#[]:=Array.ext' (List.eq_nil_of_length_eq_zero (by have:=hr.1;simpa using this.symm))
      subst this
      exact (zrn W).mono fun e W' ⟨h1,h2⟩=>⟨⟨_,h1,.bool⟩,h2⟩
    · cases hv
  · obtain ⟨k1,k2⟩:=znv f g h'
    exact ⟨k1,fun args H v rargs W L μ a b c d=>k2 args H v rargs W L μ a b c (zbi _ _ _)⟩
theorem zcd {t:FT}{f:Nat}{spec:Rd.Road→List Int→Option AV}(h:exthL f=some (gRd spec))(n:Nat){H:List AB}{v:AV}{c:Rd.Road}(hc:roadOf H v=some c)(ns:List Int)(hn:∀ n∈ns,i64n n){w:AV}(hs:spec c ns=some w):Ev.call (cfgL t) (n+1) (.fn (.func f) [] []) (v::ns.map (AV.int .i64)) H=some (.ret w,H,[]):=by
  show enter (cfgL t) (Ev.call (cfgL t) n) f ([]++(v::ns.map (AV.int .i64))++[]) H=_
  unfold enter
  have h1:(cfgL t).ext f=none:=rfl
  have h2:(cfgL t).exth f=some (gRd spec):=h
  rw[h1,h2]
  have hi:∀ ns:List Int,(∀ n∈ns,i64n n)→intsOf (ns.map (AV.int .i64))=some ns:=by
    intro ns
    induction ns with
    |nil=>intro _;rfl
    |cons a l ih=>
      intro h
      have h1:=h a (by simp)
      have h2:=ih fun n hn=>h n (by simp[hn])
      unfold i64n at h1
      simp[intsOf,h2,h1]
  have h3:gRd spec ([]++(v::ns.map (AV.int .i64))++[]) H=some w:=by
    simp[gRd,hc,hi ns hn,hs]
  simp only[h3,Option.map_some]
theorem lapi {t:FT}(hl:Has (cfgL t) 5 af5)(n:Nat):LApi (Ev.call (cfgL t) (n+1)) where
  height hc a b ha hb:=zcd (spec:=sHeight) rfl n hc [a,b] (by simp[ha,hb]) rfl
  sinks hc a b ha hb:=zcd (spec:=sSinks) rfl n hc [a,b] (by simp[ha,hb]) rfl
  bears hc a ha:=zcd (spec:=sBears) rfl n hc [a] (by simp[ha]) rfl
  most hc:=zcd (spec:=sMost) rfl n hc [] (by simp) rfl
  rest hc a ha:=zcd (spec:=sRest) rfl n hc [a] (by simp[ha]) rfl
  below hc:=zcd (spec:=sBelow) rfl n hc [] (by simp) rfl
  weak hc:=zcd (spec:=sWeak) rfl n hc [] (by simp) rfl
  clash hc hok:=zcd (spec:=sClash) rfl n hc [] (by simp) (if_pos hok)
  valid hc:=zcd (spec:=sValid) rfl n hc [] (by simp) rfl
  alive {H}:=by
    show enter (cfgL t) (Ev.call (cfgL t) n) 6 ([]++[]++[]) H=some (.ret (.bool true),H,[])
    unfold enter
    have h1:(cfgL t).ext 6=none:=rfl
    have h2:(cfgL t).exth 6=some gAlive:=rfl
    rw[h1,h2];rfl
  long {H} r:=zag rfl hl (le' rfl) rfl (zxi (cfgL t) _ r H)
end Ro
end Ev
end Go.Proofs.YtlcjlcllbgjplaaGreat

/- An argument that is a road: from its reading to the evaluator's value. -/
namespace Go.Proofs.YtlcjlcllbgjplaaGreat
open Go Go.Proofs Go.RowKit Go.ChangeShapes Go.WideShapes Go.Deep
namespace Ev
namespace Ro
open K
section
variable {H:Type} {enc:TypeId × Value→H} {w:World} {base:Nat} {spare:Nat→Bool} {held:Bool} {fuel:Nat} {cs:List Value}
theorem list2 {cs:List Value}(h:cs.length=2):∃ a b,cs=[a,b]:=by
  match cs,h with|[a,b],_=>exact ⟨a,b,rfl⟩
theorem list7 {cs:List Value}(h:cs.length=7):∃ a b c d e f g,cs=[a,b,c,d,e,f,g]:=by
  match cs,h with|[a,b,c,d,e,f,g],_=>exact ⟨a,b,c,d,e,f,g,rfl⟩
theorem zhf:Tryz.prog.cellsOf 3=1:=by kernel_rfl
theorem zfp:Tryz.prog.cellsOf 29=2:=by kernel_rfl
theorem zif:Tryz.prog.cellsOf 109=7:=by kernel_rfl
theorem zhg:Tryz.prog.cellsOf 85=7:=by kernel_rfl
theorem zra:Tryz.prog.cellsOf 25=2:=by kernel_rfl
theorem zmn:Tryz.prog.cellsOf 22=1:=by kernel_rfl
theorem zla:Tryz.prog.cellsOf 23=1:=by kernel_rfl
theorem trod_i (h:∃ y,DataW.trod enc Tryz.prog w base spare held fuel 3 cs=some y):∃ n,cs=[.int .i64 n]:=by
  obtain ⟨y,h⟩:=h
  obtain ⟨n,h1,_,h2⟩:=DataW.trod_int Tryz.underlying3 h
  exact ⟨n,h1⟩
theorem zdo (h:∃ y,DataW.trod enc Tryz.prog w base spare held fuel 29 cs=some y):∃ a b,cs=[.int .i64 a,.int .i64 b]:=by
  obtain ⟨y,h⟩:=h
  obtain ⟨xs,n,rfl,_,hl,hx,hf⟩:=DataW.trod_struct Tryz.underlying29 h
  rw[zfp] at hl
  have hx:xs.length=2:=hx
  obtain ⟨c0,c1,rfl⟩:=list2 hl
  clear hl
  obtain ⟨a,ha⟩:=trod_i ⟨_,(hf 0 _ rfl).trans (List.getElem?_eq_getElem (by omega))⟩
  obtain ⟨b,hb⟩:=trod_i ⟨_,(hf 1 _ rfl).trans (List.getElem?_eq_getElem (by omega))⟩
  simp[zhf] at ha hb
  exact ⟨a,b,by rw[ha,hb]⟩
def ptR (p:Rd.Pt):List Value:=[.int .i64 p.height.lo,.int .i64 p.height.hi,.int .i64 p.stiff.lo,.int .i64 p.stiff.hi,.int .i64 p.rise.lo,.int .i64 p.rise.hi,.int .i64 p.full]
def evR (v:Rd.Evt):List Value:=[.int .i64 v.kind,.int .i64 v.load.lo,.int .i64 v.load.hi,.int .i64 v.days,.int .i64 v.part,.int .i64 v.shows.lo,.int .i64 v.shows.hi]
theorem zrt (h:∃ y,DataW.trod enc Tryz.prog w base spare held fuel 109 cs=some y):∃ p,cs=ptR p:=by
  obtain ⟨y,h⟩:=h
  obtain ⟨xs,n,rfl,_,hl,hx,hf⟩:=DataW.trod_struct Tryz.underlying109 h
  rw[zif] at hl
  have hx:xs.length=4:=hx
  obtain ⟨c0,c1,c2,c3,c4,c5,c6,rfl⟩:=list7 hl
  clear hl
  obtain ⟨a,b,hab⟩:=zdo ⟨_,(hf 0 _ rfl).trans (List.getElem?_eq_getElem (by omega))⟩
  obtain ⟨d,e,hde⟩:=zdo ⟨_,(hf 1 _ rfl).trans (List.getElem?_eq_getElem (by omega))⟩
  obtain ⟨f,g,hfg⟩:=zdo ⟨_,(hf 2 _ rfl).trans (List.getElem?_eq_getElem (by omega))⟩
  obtain ⟨i,hi⟩:=trod_i ⟨_,(hf 3 _ rfl).trans (List.getElem?_eq_getElem (by omega))⟩
  simp[zfp,zhf] at hab hde hfg hi
  exact ⟨⟨⟨a,b⟩,⟨d,e⟩,⟨f,g⟩,i⟩,by rw[hab.1,hab.2,hde.1,hde.2,hfg.1,hfg.2,hi];rfl⟩
theorem zol (h:∃ y,DataW.trod enc Tryz.prog w base spare held fuel 85 cs=some y):∃ p,cs=evR p:=by
  obtain ⟨y,h⟩:=h
  obtain ⟨xs,n,rfl,_,hl,hx,hf⟩:=DataW.trod_struct Tryz.underlying85 h
  rw[zhg] at hl
  have hx:xs.length=5:=hx
  obtain ⟨c0,c1,c2,c3,c4,c5,c6,rfl⟩:=list7 hl
  clear hl
  obtain ⟨a,ha⟩:=trod_i ⟨_,(hf 0 _ rfl).trans (List.getElem?_eq_getElem (by omega))⟩
  obtain ⟨d,e,hde⟩:=zdo ⟨_,(hf 1 _ rfl).trans (List.getElem?_eq_getElem (by omega))⟩
  obtain ⟨b,hb⟩:=trod_i ⟨_,(hf 2 _ rfl).trans (List.getElem?_eq_getElem (by omega))⟩
  obtain ⟨i,hi⟩:=trod_i ⟨_,(hf 3 _ rfl).trans (List.getElem?_eq_getElem (by omega))⟩
  obtain ⟨f,g,hfg⟩:=zdo ⟨_,(hf 4 _ rfl).trans (List.getElem?_eq_getElem (by omega))⟩
  simp[zfp,zhf] at ha hde hb hi hfg
  exact ⟨⟨a,⟨d,e⟩,b,i,⟨f,g⟩⟩,by rw[ha,hde.1,hde.2,hb,hi,hfg.1,hfg.2];rfl⟩
theorem row_vr {α:Type}{t e:TypeId}{k:Nat}(d:α)(g:α→List Value)(G:α→AV)(hk:0<k)(hg:∀ y,(g y).length=k)(hG:∀ y,(G y).cells.length=k)(hv:∀ (y:α) (j:Nat) (x:AV) (r:Value),(G y).cells[j]?=some x→(g y)[j]?=some r→VR w (fun _=>False) nomu x r)
    (ht:Tryz.prog.underlying t=some (.slice e)) (hc:Tryz.prog.cellsOf e=k)
    (he:∀ (fuel:Nat) (cs:List Value),(∃ y,DataW.trod enc Tryz.prog w base spare held fuel e cs=some y)→∃ y,cs=g y)
    (h:∃ y,DataW.trod enc Tryz.prog w base spare held fuel t cs=some y):
    ∃ (l:List α) (x:Value),cs=[x]∧VR w (fun _=>False) nomu (.vs k (l.map G)) x:=by
  obtain ⟨y,h⟩:=h
  rcases open_slice ht h with ⟨rfl,_⟩|⟨a,len,cap,m,n,D,Pl,rfl,hb,hl,hm,hmm,hx,hi⟩
  · exact ⟨[],_,rfl,.vs0⟩
  · have hml:len≤m:=by rw[hmm];split<;>omega
    have:∀ i,∃ y:α,i<len→∀ j,j<k→∃ r,(g y)[j]?=some r∧w.cell? (a.add (i * k+j))=some r:=by
      intro i
      by_cases hlt:i<len
      · obtain ⟨cs',h1,h2⟩:=hi i (by omega)
        obtain ⟨y,rfl⟩:=he n cs' ⟨_,h2⟩
        rw[hc] at h1
        obtain ⟨_,_,h3⟩:=World.cells?_some h1
        refine ⟨y,fun _ j hj=>⟨(g y)[j]'(by rw[hg];exact hj),List.getElem?_eq_getElem _,?_⟩⟩
        rw[← Go.Deep.add_add,h3 j hj,List.getElem?_eq_getElem (by rw[hg];exact hj)]
      · exact ⟨d,fun h=>absurd h hlt⟩
    obtain ⟨f,hf⟩:=Classical.skolem.1 this
    refine ⟨(List.range len).map f,_,rfl,?_⟩
    by_cases h0:len=0
    · subst h0;exact .vs0
    · obtain ⟨r0,_,h00⟩:=hf 0 (by omega) 0 hk
      have hs:=World.cell?_spot h00
      obtain ⟨b,off,sp⟩:=a
      obtain rfl:sp=none:=by simpa [Addr.add] using hs
      have hadd:∀ u,Addr.add ⟨b,off,none⟩ u=⟨b,off+u,none⟩:=fun u=>by simp[Addr.add]
      have hlen:(((List.range len).map f).map G).length=len:=by simp
      have hat:∀ (i:Nat) (e:AV),(((List.range len).map f).map G)[i]?=some e→i<len∧e=G (f i):=by
        intro i e h
        have hi:i<len:=by have:=(List.getElem?_eq_some_iff.1 h).1;simpa using this
        simp[hi] at h
        exact ⟨hi,h.symm⟩
      have key:VR w (fun _=>False) nomu (.vs k (((List.range len).map f).map G)) (.slice (some ⟨b,off,none⟩) (((List.range len).map f).map G).length cap):=by
        refine .vs (fun i j=>(g (f i)).getD j .nilFunc) (by rw[hlen];exact hl) (fun i e h=>?_) (fun i e j x h hx=>⟨id,?_⟩) (fun i e j x h hx=>?_)
        · obtain ⟨_,rfl⟩:=hat i e h;exact hG _
        · obtain ⟨hi,rfl⟩:=hat i e h
          have hj:j<k:=by have:=(List.getElem?_eq_some_iff.1 hx).1;rwa [hG] at this
          obtain ⟨r,h1,h2⟩:=hf i hi j hj
          rw[hadd,← Nat.add_assoc] at h2
          rw[h2,List.getD_eq_getElem?_getD,h1];rfl
        · obtain ⟨hi,rfl⟩:=hat i e h
          have hj:j<k:=by have:=(List.getElem?_eq_some_iff.1 hx).1;rwa [hG] at this
          obtain ⟨r,h1,h2⟩:=hf i hi j hj
          rw[List.getD_eq_getElem?_getD,h1]
          exact hv _ j x r hx h1
      rw[hlen] at key
      exact key
theorem zmu {l:List AV}{m:List Value}(h:∀ (j:Nat) (x:AV) (r:Value),l[j]?=some x→m[j]?=some r→∃ n,x=.int .i64 n∧r=.int .i64 n)(j:Nat)(x:AV)(r:Value)(h1:l[j]?=some x)(h2:m[j]?=some r):VR w (fun _=>False) nomu x r:=by
  obtain ⟨n,rfl,rfl⟩:=h j x r h1 h2;exact .int
theorem zok (h:∃ y,DataW.trod enc Tryz.prog w base spare held fuel 22 cs=some y):∃ (l:List Rd.Pt) (x:Value),cs=[x]∧VR w (fun _=>False) nomu (.vs 7 (l.map ptE)) x:=
  row_vr (k := 7) default ptR ptE (by decide) (fun _ => rfl) (fun _ => rfl) (fun y => zmu fun j x r h1 h2 => by
    match j,h1,h2 with
    |0,h1,h2=>cases h1;cases h2;exact ⟨_,rfl,rfl⟩
    |1,h1,h2=>cases h1;cases h2;exact ⟨_,rfl,rfl⟩
    |2,h1,h2=>cases h1;cases h2;exact ⟨_,rfl,rfl⟩
    |3,h1,h2=>cases h1;cases h2;exact ⟨_,rfl,rfl⟩
    |4,h1,h2=>cases h1;cases h2;exact ⟨_,rfl,rfl⟩
    |5,h1,h2=>cases h1;cases h2;exact ⟨_,rfl,rfl⟩
    |6,h1,h2=>cases h1;cases h2;exact ⟨_,rfl,rfl⟩
    |j+7,h1,h2=>simp[ptR] at h2) Tryz.underlying22 zif (fun _ _ h=>zrt h) h
theorem zlj (h:∃ y,DataW.trod enc Tryz.prog w base spare held fuel 23 cs=some y):∃ (l:List Rd.Evt) (x:Value),cs=[x]∧VR w (fun _=>False) nomu (.vs 7 (l.map evE)) x:=
  row_vr (k := 7) default evR evE (by decide) (fun _ => rfl) (fun _ => rfl) (fun y => zmu fun j x r h1 h2 => by
    match j,h1,h2 with
    |0,h1,h2=>cases h1;cases h2;exact ⟨_,rfl,rfl⟩
    |1,h1,h2=>cases h1;cases h2;exact ⟨_,rfl,rfl⟩
    |2,h1,h2=>cases h1;cases h2;exact ⟨_,rfl,rfl⟩
    |3,h1,h2=>cases h1;cases h2;exact ⟨_,rfl,rfl⟩
    |4,h1,h2=>cases h1;cases h2;exact ⟨_,rfl,rfl⟩
    |5,h1,h2=>cases h1;cases h2;exact ⟨_,rfl,rfl⟩
    |6,h1,h2=>cases h1;cases h2;exact ⟨_,rfl,rfl⟩
    |j+7,h1,h2=>simp[evR] at h2) Tryz.underlying23 zhg (fun _ _ h=>zol h) h
theorem trod_road (h:∃ y,DataW.trod enc Tryz.prog w base spare held fuel 25 cs=some y):∃ r:Rd.Road,VR w (fun _=>False) nomu (.agg (roadCs r)) (.agg cs.toArray):=by
  obtain ⟨y,h⟩:=h
  obtain ⟨xs,n,rfl,_,hl,hx,hf⟩:=DataW.trod_struct Tryz.underlying25 h
  rw[zra] at hl
  have hx:xs.length=2:=hx
  obtain ⟨c0,c1,rfl⟩:=list2 hl
  clear hl
  obtain ⟨ps,x,hp,hvp⟩:=zok ⟨_,(hf 0 _ rfl).trans (List.getElem?_eq_getElem (by omega))⟩
  obtain ⟨es,z,he,hve⟩:=zlj ⟨_,(hf 1 _ rfl).trans (List.getElem?_eq_getElem (by omega))⟩
  simp[zmn,zla] at hp he
  rw[hp,he]
  refine ⟨⟨ps,es⟩,.agg rfl fun i v r h1 h2=>?_⟩
  match i,h1,h2 with
  |0,h1,h2=>cases h1;cases h2;exact hvp
  |1,h1,h2=>cases h1;cases h2;exact hve
  |i+2,h1,h2=>simp at h2
end
end Ro
end Ev
end Go.Proofs.YtlcjlcllbgjplaaGreat

/- What the rows of chapter 05 share. -/
namespace Go.Proofs.YtlcjlcllbgjplaaGreat
open Go Go.Proofs Go.ChangeShapes Go.WideShapes Go.ChangeAt Go.RowKit
namespace Ev
namespace Ro
open K
theorem zzv {w:Value}{b:Bool}(h:∀ W L μ,VR W L μ (.bool b) w)(W:World):w=.bool b:=by
  have:=h W (fun _=>False) nomu
  cases this with
  |dead h1=>cases h1
  |bool=>rfl
end Ro
end Ev
set_option maxRecDepth 100000 in
theorem zlt:ownKnob Tryz.prog.godebug=none:=by kernel_rfl
set_option maxRecDepth 100000 in
theorem laidOut':laidOutB Tryz.prog=true:=by kernel_rfl
def noRoad:Value:=.agg #[.slice none 0 0,.slice none 0 0]
set_option maxRecDepth 100000 in
theorem ztl {H:Type}{enc:TypeId × Value→H}{W:World}{v:Value}{d:DataW H}{p:List MemPlace}{base:Nat}
    (hv:Value.okWide Tryz.prog W .any base 25 v) (h:DataW.Trod enc Tryz.prog W 0 (fun _=>true) true 25 v d p):∃ r:Rd.Road,Ev.VR W (fun _=>False) Ev.nomu (.agg (Ev.Ro.roadCs r)) v:=by
  obtain ⟨cs,rfl,_⟩:=okWide_struct Tryz.underlying25 hv
  obtain ⟨fuel,hf⟩:=h
  obtain ⟨c,hc⟩:=Ev.Ro.trod_road (cs:=cs.toList) ⟨_,hf⟩
  exact ⟨c,by simpa using hc⟩
end Go.Proofs.YtlcjlcllbgjplaaGreat
