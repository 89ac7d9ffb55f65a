/- The Go function RoadFinds returns true, for every argument, in every world in which it is called; nothing that was there is turned. No condition. -/
import Derived.Test.YtlcjlcllbgjplaaGreatFsLA
import Derived.Test.YtlcjlcllbgjplaaGreatFsPG
/- The reference of chapter 05, gone through: above, and a round of bears. -/
namespace Go.Proofs.YtlcjlcllbgjplaaGreat
open Go
namespace Rd
theorem range_all {f:Nat→Bool}(i:Nat):(List.range (i+1)).all f=((List.range i).all f&&f i):=by rw[List.range_succ,List.all_append];simp
theorem take_all {α:Type}{f:α→Bool}{L:List α}{a:Nat}{d:α}(h:L[a]?=some d):(L.take (a+1)).all f=((L.take a).all f&&f d):=by rw[List.take_add_one,h,List.all_append];simp
theorem take_any {α:Type}{f:α→Bool}{L:List α}{a:Nat}{d:α}(h:L[a]?=some d):(L.take (a+1)).any f=((L.take a).any f || f d):=by rw[List.take_add_one,h,List.any_append];simp
end Rd
namespace Ev
namespace Ro
open K
attribute [local simp] ev1 wantG spineK spine float xnew xval xeff zab zae zau zah zai addFl cellsOf pickC alive slLen slFt binI maxA maxK minA minK aeqK aeqS AV.cells spA zad fillA setAt bitsI nat_nn zav AV.plain apart
set_option maxRecDepth 100000
set_option maxHeartbeats 4000000
def AbvC (call:CallF)(r:Rd.Road):Prop:=∀ (H:List AB) (i:Nat) (p:Rd.Tr) (h:Int) (ls:List Int) (lv:AV) (days:Nat) (ld:Int),Rd.St0 r i p h ls→LoV H ls lv→days≤10→0≤ld→ld≤60 →
 call (.fn (.func 99) [] []) [.agg (roadCs r),.int .i64 i,.agg [.int .i64 h,.int .i64 p.stiff,.int .i64 p.rise],lv,.int .i64 days,.int .i64 ld] H=some (.ret (.bool (Rd.aboveI r p h ls days ld)),H,[])
theorem zpo (C:Cfg)(call:CallF)(r:Rd.Road)(hf:Rd.Fine r)(hN:InC call r)(hR:RreC call)(hS:RsuC call)(H:List AB)(i:Nat)(p:Rd.Tr)(h:Int)(ls:List Int)(lv:AV)(days:Nat)(ld:Int)(hs:Rd.St0 r i p h ls)(hl:LoV H ls lv)(hd:days≤10)(l0:0≤ld)(l1:ld≤60):
  Does (ev C call H.length none af99.body { tm:=tmA af99.ntmps (zipI 0 [.agg (roadCs r),.int .i64 i,.agg [.int .i64 h,.int .i64 p.stiff,.int .i64 p.rise],lv,.int .i64 days,.int .i64 ld] []),df:=[],hp:=H,tc:=[] })
   (Ends C H.length af99.res fun v _ tc=>v=.bool (Rd.aboveI r p h ls days ld)∧tc=[]):=by
 obtain ⟨z1,z2,z3,z4,z5,z6,z7,z8⟩:=hs.bound hf
 have hin:=hs.inI hf r.events.length
 have hi:=hs.part
 have hgp:r.parts[i]?=some r.parts[i]:=List.getElem?_eq_getElem hi
 have hgd:r.parts.getD i default=r.parts[i]:=by rw[List.getD_eq_getElem?_getD,hgp];rfl
 rw[hgd] at z8
 have hp4:=hf.parts
 generalize r.parts[i]=pt at *
 have hgp':=ge_of hgp
 have e5:(i:Int)<r.parts.length:=by omega
 have hc1:=fun K=>hN (H++K) i p h ls lv r.events.length hs (hl.app K) (Nat.le_refl _)
 have hc2:=fun K=>hR K (Rd.inI r p h ls r.events.length) days p.rise p.full (by omega) (by omega) hd z3 z4 (by omega) (by omega)
 have hc3:=fun K=>hS K p ld z1 z2 l0 l1
 have hrr:=Rd.restI_in z3 z4 (by omega:p.full≤60) days (Rd.inI r p h ls r.events.length) (by omega) (by omega) (by omega)
 have s0:=Rd.sunk_nn z1 l0
 have s1:=Rd.sunk_le z1 l0
 unfold Rd.aboveI
 rw[z8] at hc2 hrr ⊢
 generalize Rd.inI r p h ls r.events.length=x at *
 generalize Rd.restI pt.full p.rise days x=y at *
 generalize Rd.sunk p ld=z at *
 have hw:IntKind.i64.wrap (y - z)=y - z:=zaf (by omega) (by omega)
 have hdc:decide (0≤y - z)=decide (z≤y):=by congr 1;simp only[eq_iff_iff];omega
 rw[hdc]
 generalize hbb:decide (z≤y)=b at *
 clear hN hR hS z1 z2 z3 z4 z5 z6 z7 z8 hin hgd hrr s0 s1 hs hl l0 l1 hd hf hdc
 unfold af99 Zq Zm Zl Zo Zd Zc Zt Zn
 simp only[zipI,roadCs] at *
 (repeat (first|((with_reducible apply zak);(focus ((with_reducible apply zba);(focus rfl);(focus rfl);(focus ((conv=>lhs;simp[*,List.getElem?_append_right,List.set_append_right,List.getElem?_cons_zero,List.getElem?_append_left,List.set_append_left,-getElem?_pos,ptE,↓zbe,↓zbr,Nat.testBit_eq_decide_div_mod_eq])<;>exact rfl));(focus rfl);(focus rfl)));simp only[addFl])|(with_reducible apply zak;(focus ((conv=>lhs;simp[*,List.getElem?_append_right,List.set_append_right,List.getElem?_cons_zero,List.getElem?_append_left,List.set_append_left,-getElem?_pos,ptE,↓zbe,↓zbr,Nat.testBit_eq_decide_div_mod_eq])<;>exact rfl));simp only[addFl])|((with_reducible first|apply zaw|apply zay|apply zas|apply zaq|apply zao|apply zax|apply zar|apply zaz|(apply zap;· simp[*,zab])|(apply zam;· simp[*,zab]));try simp only[Then,Ops])|simp only[Nat.reduceEqDiff,reduceIte,OutB,Then]))
 exact zac (v:=.bool b) (.inl rfl) rfl (by simp) endvP ⟨rfl,by simp⟩
def abP (r:Rd.Road)(days:Nat)(ld:Int)(ls:List Int)(x:Int × Rd.Tr):Bool:=Rd.aboveI r x.2 x.1 ls days ld
def br4St (H:List AB)(n q:Nat)(days:Nat)(ld:Int)(al so:Bool)(a:Nat)(can:Bool)(i:Nat)(one:Bool)(j:Nat)(G:List AB):St:={ tm:=tmA 73 [(15,.int .i64 j),(14,.bool one),(13,.int .i64 i),(12,.bool can),(11,.int .i64 a),(10,.bool so),(9,.bool al),(4,.ptr H.length 0),(3,.int .i64 ld),(2,.int .i64 days),(1,.sl q 0 n 2)],df:=[],hp:=G,tc:=[] }
def br2St (H:List AB)(n q:Nat)(days:Nat)(ld:Int)(al so:Bool)(a:Nat)(can:Bool)(i:Nat)(G:List AB):St:={ tm:=tmA 73 [(13,.int .i64 i),(12,.bool can),(11,.int .i64 a),(10,.bool so),(9,.bool al),(4,.ptr H.length 0),(3,.int .i64 ld),(2,.int .i64 days),(1,.sl q 0 n 2)],df:=[],hp:=G,tc:=[] }
def br0St (H:List AB)(n q:Nat)(days:Nat)(ld:Int)(al so:Bool)(a:Nat)(G:List AB):St:={ tm:=tmA 73 [(11,.int .i64 a),(10,.bool so),(9,.bool al),(4,.ptr H.length 0),(3,.int .i64 ld),(2,.int .i64 days),(1,.sl q 0 n 2)],df:=[],hp:=G,tc:=[] }
theorem zyv (C:Cfg)(call:CallF)(r:Rd.Road)(hA:AbvC call r)(H G:List AB)(c0:HB G H.length (.cells (roadCs r)))(n np q:Nat)(cs:List AV)(a i:Nat)(ls:List Int)(T:List (Int × Rd.Tr))(w:AV)(q1 q2:Nat)(vs:List AV)(hW:CsW G n np q cs a i ls T w q1 q2 vs)(days:Nat)(hd:days≤10)(ld:Int)(l0:0≤ld)(l1:ld≤60)(ha:a<n)(hi:i<np)(_hnp:np≤4)(j:Nat)(x:Int × Rd.Tr)(hj:T[j]?=some x)(hT:T.length≤27)(hs:Rd.St0 r i x.2 x.1 ls)(al so can one:Bool):
  Does (ev C call H.length none (atP [1,1,0,1,0,0,1,0,0,1,0,1,0,0,1,0,0,1,0,1,0,0] af53.body) (br4St H n q days ld al so a can i one j G))
   (fun e st=>e=.normal∧{ st with tm:=keepT [1,2,3,4,9,10,11,12,13,14,15] st.tm }=br4St H n q days ld (al&&abP r days ld ls x) so a can i (one || abP r days ld ls x) (j+1) G):=by
 obtain ⟨h,p⟩:=x
 have hjT:=(List.getElem?_eq_some_iff.1 hj).1
 have hld:=znf hj
 have hcl:=zfj T
 obtain ⟨b0,cl,ck,lo,cv,b1,vl,vi,b2⟩:=hW
 have hcall:=hA G i p h ls w days ld hs lo hd l0 l1
 unfold abP
 dsimp only
 generalize Rd.aboveI r p h ls days ld=b at *
 generalize T.length=tl at *
 have ck':=ge_of ck
 have cv':=ge_of cv
 have vi':=ge_of vi
 have f1:(a:Int)<n:=by omega
 have f2:(i:Int)<np:=by omega
 have f3:(j:Int)<tl:=by omega
 have f4:a * 2+2≤n * 2:=by omega
 have f4':a * 2+1+1≤n * 2:=by omega
 have f5:i+1≤np:=hi
 have f6:j * 3+3≤tl * 3:=by omega
 have hw:IntKind.i64.wrap (↑j+1)=↑j+1:=zaf (by omega) (by omega)
 obtain ⟨A1,A2,A3⟩:=b0
 obtain ⟨B1,B2,B3⟩:=b1
 obtain ⟨D1,D2,D3⟩:=b2
 obtain ⟨E1,E2,E3⟩:=c0
 clear hA hs lo hj hd l0 l1
 cases b
 ·rw[Bool.and_false,Bool.or_false]
  unfold af53 Zq Zm Zl Zo Zd Zc Zt Zn br4St
  simp only[atP,roadCs] at *
  refine gC ?_
  try simp only[zah,List.filter_nil,List.nil_append]
  refine gC ?_
  refine ⟨by first|rfl|trivial,?_⟩
  exact inwP
 ·rw[Bool.and_true,Bool.or_true]
  unfold af53 Zq Zm Zl Zo Zd Zc Zt Zn br4St
  simp only[atP,roadCs] at *
  refine gC ?_
  try simp only[zah,List.filter_nil,List.nil_append]
  refine gC ?_
  refine ⟨by first|rfl|trivial,?_⟩
  exact inwP
theorem zwc (C:Cfg)(hC:C.calm=true)(call:CallF)(r:Rd.Road)(hA:AbvC call r)(H G:List AB)(c0:HB G H.length (.cells (roadCs r)))(n q:Nat)(cs:List AV)(a i:Nat)(ls:List Int)(T:List (Int × Rd.Tr))(w:AV)(q1 q2:Nat)(vs:List AV)(hW:CsW G n r.parts.length q cs a i ls T w q1 q2 vs)(days:Nat)(hd:days≤10)(ld:Int)(l0:0≤ld)(l1:ld≤60)(ha:a<n)(_hn:n≤81)(hi:i<r.parts.length)(hnp:r.parts.length≤4)(hT:T.length≤27)(hs:∀ (j:Nat) (x:Int × Rd.Tr),T[j]?=some x→Rd.St0 r i x.2 x.1 ls)(al so can:Bool):
  Does (ev C call H.length none (atP [1,1,0,1,0,0,1,0,0,1,0,1,0,0] af53.body) (br2St H n q days ld al so a can i G))
   (fun e st=>e=.normal∧{ st with tm:=keepT [1,2,3,4,9,10,11,12,13] st.tm }=br2St H n q days ld (al&&T.all (abP r days ld ls)) so a (can&&T.any (abP r days ld ls)) (i+1) G):=by
 have HX:=hideP (And.intro hA (And.intro c0 (And.intro hW (And.intro hs hT))))
 have hW':=hW
 obtain ⟨b0,cl,ck,lo,cv,b1,vl,vi,b2⟩:=hW'
 clear hW
 have cv':=ge_of cv
 have vi':=ge_of vi
 have f1:(a:Int)<n:=by omega
 have f2:(i:Int)<r.parts.length:=by omega
 have f4:a * 2+2≤n * 2:=by omega
 have f4':a * 2+1+1≤n * 2:=by omega
 have f5:i+1≤r.parts.length:=hi
 have hw1:IntKind.i64.wrap ((i:Int)+1)=(i:Int)+1:=zaf (by omega) (by omega)
 obtain ⟨A1,A2,A3⟩:=b0
 obtain ⟨B1,B2,B3⟩:=b1
 obtain ⟨D1,D2,D3⟩:=b2
 obtain ⟨E1,E2,E3⟩:=c0
 clear hA hs hT lo ck
 generalize htl:T.length=tl at *
 have HT:=hideP htl
 clear htl
 unfold af53 Zq Zm Zl Zo Zd Zc Zt Zn br2St
 simp only[atP,roadCs] at *
 refine gB ?_
 with_reducible refine zan hC tl (by have:=HX.out.2.2.2.2;have:=HT.out;unfold fuelL;omega) (fun j st=>st=br4St H n q days ld (al&&(T.take j).all (abP r days ld ls)) so a can i ((T.take j).any (abP r days ld ls)) j G) ?_ ?_ ?_
 ·unfold br4St
  simp only[List.take_zero,List.all_nil,List.any_nil,Bool.and_true]
  exact inwP
 ·rintro j st hj rfl
  obtain ⟨hA,c0,hW,hs,hT⟩:=HX.out
  have htl:=HT.out
  obtain ⟨x,hx⟩:∃ x,T[j]?=some x:=⟨_,List.getElem?_eq_getElem (by omega)⟩
  rw[Rd.take_all hx,Rd.take_any hx]
  have hr:=zyv C call r hA H G c0 n r.parts.length q cs a i ls T w q1 q2 vs hW days hd ld l0 l1 ha hi hnp j x hx (by omega) (hs j x hx) (al&&(T.take j).all (abP r days ld ls)) so can ((T.take j).any (abP r days ld ls))
  refine Does.mono hr ?_
  rintro e st ⟨rfl,h2⟩
  rw[← Bool.and_assoc]
  exact h2
 ·rintro st rfl
  have htl:=HT.out
  rw[show T.take tl=T from List.take_of_length_le (by omega)]
  generalize T.all (abP r days ld ls)=ta
  generalize T.any (abP r days ld ls)=tb
  clear htl HX HT
  unfold br4St
  cases can
  ·rw[Bool.false_and]
   refine gB ?_
   refine ⟨by first|rfl|trivial,?_⟩
   exact inwP
  ·rw[Bool.true_and]
   refine gB ?_
   refine ⟨by first|rfl|trivial,?_⟩
   exact inwP
end Ro
end Ev
namespace Rd
theorem flat_take {α β:Type}{f:α→List β}{L:List α}{a:Nat}{d:α}(h:L[a]?=some d):(L.take (a+1)).flatMap f=(L.take a).flatMap f++f d:=by
 rw[List.take_add_one,h];simp
theorem flat_pos {α β:Type}{f:α→List β}{L:List α}(hL:L≠[])(hf:∀ d∈L,f d≠[]):0<(L.flatMap f).length:=by
 cases L with
 |nil=>exact absurd rfl hL
 |cons d L=>
  rw[List.flatMap_cons,List.length_append]
  have:=List.length_pos_iff.2 (hf d (by simp))
  omega
theorem map_take {α β:Type}{f:α→β}{L:List α}{a:Nat}{d:α}(h:L[a]?=some d):(L.take (a+1)).map f=(L.take a).map f++[f d]:=by
 rw[List.take_add_one,h];simp
theorem case_getD {r:Road}(hr:Fine r){set i:Nat}(hi:i<r.parts.length){d:List Int × List (List (Int × Tr))}(h:d∈casesR r set):d.2.getD i []=statesR r i d.1 set:=by
 rw[List.getD_eq_getElem?_getD,((case_in hr h).2.2 i hi).1];rfl
end Rd
namespace Ev
namespace Ro
open K
attribute [local simp] ev1 wantG spineK spine float xnew xval xeff zab zae zau zah zai addFl cellsOf pickC alive slLen slFt binI maxA maxK minA minK aeqK aeqS AV.cells spA zad fillA setAt bitsI nat_nn zav AV.plain apart
set_option maxRecDepth 100000
set_option maxHeartbeats 4000000
def HgtsC (call:CallF)(r:Rd.Road):Prop:=∀ (H:List AB) (q:Nat) (cs:List AV) (i m:Nat),HB H q (.cells cs)→CaE q H (Rd.casesR r (Rd.everyR r)) cs→Rd.casesR r (Rd.everyR r)≠[]→i<r.parts.length→m≤r.events.length →
 call (.fn (.func 39) [] []) [.agg (roadCs r),.sl q 0 (Rd.casesR r (Rd.everyR r)).length 2,.int .i64 i,.int .i64 m] H=some (.ret (.agg [.int .i64 (Clm.hullR (Rd.heightL r i m)).lo,.int .i64 (Clm.hullR (Rd.heightL r i m)).hi]),H,[])
theorem zma (C:Cfg)(hC:C.calm=true)(call:CallF)(r:Rd.Road)(hf:Rd.Fine r)(hI:InC call r)(hU:HulC call)(H:List AB)(q:Nat)(cs:List AV)(i m:Nat)(hB:HB H q (.cells cs))(hE:CaE q H (Rd.casesR r (Rd.everyR r)) cs)(hne:Rd.casesR r (Rd.everyR r)≠[])(hi:i<r.parts.length)(hm:m≤r.events.length):
  Does (ev C call H.length none af39.body { tm:=tmA af39.ntmps (zipI 0 [.agg (roadCs r),.sl q 0 (Rd.casesR r (Rd.everyR r)).length 2,.int .i64 i,.int .i64 m] []),df:=[],hp:=H,tc:=[] })
   (Ends C H.length af39.res fun v _ tc=>v=.agg [.int .i64 (Clm.hullR (Rd.heightL r i m)).lo,.int .i64 (Clm.hullR (Rd.heightL r i m)).hi]∧tc=[]):=by
 have hp4:=hf.parts
 have h81:=Rd.cases_81 hf (Rd.everyR r)
 have hin:=fun d (h:d∈Rd.casesR r (Rd.everyR r))=>Rd.case_in hf h
 have hgd:=fun d (h:d∈Rd.casesR r (Rd.everyR r))=>Rd.case_getD hf hi h
 have hway:=fun (a:Nat) (d:List Int × List (List (Int × Rd.Tr))) (ha:(Rd.casesR r (Rd.everyR r))[a]?=some d)=>zvy hf hB hE ha hi
 have hst:=fun (d:List Int × List (List (Int × Rd.Tr))) (hd:d∈Rd.casesR r (Rd.everyR r)) (j:Nat) (h:Int) (p:Rd.Tr) (hj:(Rd.statesR r i d.1 (Rd.everyR r))[j]?=some (h,p))=>Rd.state_ok hf hi (hin d hd).1 hj
 unfold Rd.heightL
 have hpos:0<((Rd.casesR r (Rd.everyR r)).flatMap fun d=>(d.2.getD i []).map fun x=>Rd.inI r x.2 x.1 d.1 m).length:=Rd.flat_pos hne fun d hd=>by
  rw[hgd d hd]
  intro e
  exact ((hin d hd).2.2 i hi).2.1 (List.map_eq_nil_iff.1 e)
 have hlen:∀ a,(((Rd.casesR r (Rd.everyR r)).take a).flatMap fun d=>(d.2.getD i []).map fun x=>Rd.inI r x.2 x.1 d.1 m).length≤2187:=fun a=>by
  refine Nat.le_trans (flat_le _ 27 _ fun d hd=>?_) (?_:_≤81 * 27)
  ·rw[hgd d (List.mem_of_mem_take hd),List.length_map]
   exact ((hin d (List.mem_of_mem_take hd)).2.2 i hi).2.2
  ·exact Nat.mul_le_mul_right _ (by rw[List.length_take];omega)
 have hall:=hlen (Rd.casesR r (Rd.everyR r)).length
 rw[List.take_length] at hall
 generalize hD:Rd.casesR r (Rd.everyR r)=D at *
 generalize hF:(fun d:List Int × List (List (Int × Rd.Tr))=>(d.2.getD i []).map fun x=>Rd.inI r x.2 x.1 d.1 m)=F at *
 have HX:=hideP (And.intro hI (And.intro hU (And.intro hin (And.intro hgd (And.intro hway (And.intro hst (And.intro hpos (And.intro hlen (And.intro hall (And.intro hB hf))))))))))
 obtain ⟨Q1,Q2,Q3⟩:=hB
 have HG:=hideP (And.intro hD hF)
 clear hI hU hin hgd hway hst hpos hlen hall hE hne hf hD hF
 generalize hn:D.length=n at *
 have HN:=hideP hn
 clear hn
 have q1:q≠H.length:=by omega
 have q2:q≠H.length+1:=by omega
 unfold af39 Zq Zm Zl Zo Zs Zd Zc Zt Zn Zi
 simp only[zipI,roadCs] at *
 refine gB ?_
 clear q1 q2
 have hHB:HB (H++[.cells (roadCs r),.cells [.int .i64 0,.int .i64 0]]) H.length (.cells (roadCs r)):=hb (by rw[List.getElem?_append_right (Nat.le_refl _),Nat.sub_self];rfl)
 have hZB:HB (H++[.cells (roadCs r),.cells [.int .i64 0,.int .i64 0]]) (H.length+1) (.cells [.int .i64 0,.int .i64 0]):=hb (by rw[List.getElem?_append_right (by omega),Nat.add_sub_cancel_left];rfl)
 have hGBl:(H++[AB.cells (roadCs r),.cells [.int .i64 0,.int .i64 0]]).length=H.length+2:=by simp
 have hkp:∀ p x,HB H p x→HB (H++[.cells (roadCs r),.cells [.int .i64 0,.int .i64 0]]) p x:=fun p x h=>h.app _
 simp only[roadCs] at hHB hZB hGBl hkp
 generalize hGB:H++[AB.cells [.vs 7 (r.parts.map ptE),.vs 7 (r.events.map evE)],.cells [.int .i64 0,.int .i64 0]]=GB at *
 have HB1:=hideP (And.intro hHB (And.intro hZB (And.intro hGBl hkp)))
 clear hHB hZB hGBl hkp
 with_reducible refine zan hC n (by unfold fuelL;omega) (fun a st=>∃ G cur,OuI GB ((D.take a).flatMap F) cur G∧st=he0St H n q i m cur a G) ?_ ?_ ?_
 ·refine ⟨GB,.nils,⟨fun p x h=>h,Nat.le_refl _,.none rfl rfl⟩,?_⟩
  unfold he0St
  exact inwP
 ·rintro a st ha ⟨G,cur,hO,rfl⟩
  obtain ⟨hI,hU,hin,hgd,hway,hst,hpos,hlen,hall,hB,hf⟩:=HX.out
  obtain ⟨hHB,hZB,hGBl,hkp⟩:=HB1.out
  have hn:=HN.out
  obtain ⟨d,hd⟩:∃ d,D[a]?=some d:=⟨_,List.getElem?_eq_getElem (by omega)⟩
  have hdm:=List.mem_of_getElem? hd
  obtain ⟨w,w1,w2,vs,hW⟩:=hway a d hd
  obtain ⟨hls,hpl,hpi⟩:=hin d hdm
  obtain ⟨hs1,hs2,hs3⟩:=hpi i hi
  have hFd:F d=(Rd.statesR r i d.1 (Rd.everyR r)).map fun x=>Rd.inI r x.2 x.1 d.1 m:=by rw[← HG.out.2,← hgd d hdm]
  rw[Rd.flat_take hd,hFd]
  have hla:=hlen a
  have hst':=hst d hdm
  have hW':=hW.keep hkp
  have hW'':=hW'.keep hO.keep
  generalize Rd.statesR r i d.1 (Rd.everyR r)=T at *
  generalize d.1=ls at *
  have HY:=hideP (And.intro hI (And.intro hst' (And.intro hW' (And.intro hla (And.intro hO (And.intro hs3 hHB))))))
  have hHG:=(hO.keep _ _ hHB).lt
  have hcut:w.plain=true:=hW.lo.plain
  obtain ⟨b0,cl,ck,lo,cv,b1,vl,vi,b2⟩:=hW''
  obtain ⟨A1,A2,A3⟩:=b0
  obtain ⟨B1,B2,B3⟩:=b1
  have cv':=ge_of cv
  have vi':=ge_of vi
  have f1:(a:Int)<n:=by omega
  have f2:(i:Int)<r.parts.length:=by omega
  have f4:a * 2+2≤n * 2:=by omega
  have f4':a * 2+1+1≤n * 2:=by omega
  have f5:i+1≤r.parts.length:=hi
  have hw1:IntKind.i64.wrap ((a:Int)+1)=(a:Int)+1:=zaf (by omega) (by omega)
  obtain ⟨D1,D2,D3⟩:=b2
  clear hI hU hin hgd hway hst hpos hlen hall hB hf hls hpl hpi hs1 hs2 hO hW hla hdm hd hFd hst' lo ck hHB hZB hkp hn Q1 Q2 Q3
  generalize htl:T.length=tl at *
  unfold he0St
  refine gB ?_
  clear A1 A2 A3 B1 B2 B3 D1 D2 D3
  obtain ⟨hI,hst,hW,hla,hO,hs3,hHB⟩:=HY.out
  with_reducible refine zan hC tl (by unfold fuelL;omega) (fun j st=>∃ G1 cur1,OuI GB ((D.take a).flatMap F++(T.take j).map fun x=>Rd.inI r x.2 x.1 ls m) cur1 G1∧st=he2St H n q i m cur1 a j G1) ?_ ?_ ?_
  ·refine ⟨G,cur,by rw[List.take_zero,List.map_nil,List.append_nil];exact hO,?_⟩
   unfold he2St
   exact inwP
  ·rintro j st hj ⟨G1,cur1,hO1,rfl⟩
   obtain ⟨⟨h,p⟩,hx⟩:∃ x,T[j]?=some x:=⟨_,List.getElem?_eq_getElem (by omega)⟩
   rw[Rd.map_take hx,← List.append_assoc]
   have hlj:((D.take a).flatMap F++(T.take j).map fun x=>Rd.inI r x.2 x.1 ls m).length≤10000:=by
    rw[List.length_append,List.length_map,List.length_take];omega
   have hr:=zqk C call r hI H GB hHB n r.parts.length q cs a i ls T w w1 w2 vs hW m hm ha hi hp4.2 j h p hx (by omega) (hst j h p hx) _ hlj cur1 G1 hO1
   refine Does.mono hr ?_
   rintro e st ⟨rfl,G',cur',h1,h2⟩
   exact ⟨G',cur',h1,h2⟩
  ·rintro st ⟨G1,cur1,hO1,rfl⟩
   rw[show T.take tl=T from List.take_of_length_le (by omega)] at hO1
   obtain ⟨b0,cl,ck,lo,cv,b1,vl,vi,b2⟩:=hW.keep hO1.keep
   obtain ⟨A1,A2,A3⟩:=b0
   obtain ⟨B1,B2,B3⟩:=b1
   obtain ⟨D1,D2,D3⟩:=b2
   rw[htl] at vi
   have HZ:=hideP hO1
   clear hI hst hW hla hO hs3 hHB hO1 lo ck
   unfold he2St
   refine gB ?_
   refine ⟨G1,cur1,HZ.out,?_⟩
   exact inwP
 ·rintro st ⟨G,cur,hO,rfl⟩
  obtain ⟨hI,hU,hin,hgd,hway,hst,hpos,hlen,hall,hB,hf⟩:=HX.out
  obtain ⟨hHB,hZB,hGBl,hkp⟩:=HB1.out
  have hn:=HN.out
  rw[show D.take n=D from List.take_of_length_le (by omega)] at hO
  obtain ⟨A1,A2,A3⟩:=hO.keep _ _ (hkp _ _ hB)
  obtain ⟨B1,B2,B3⟩:=hO.keep _ _ hZB
  have hgH:H.length≤G.length:=by have:=hO.len;omega
  have hgg:¬ (H.length+1<H.length):=by omega
  have hli:=hO.li
  generalize D.flatMap F=L at *
  cases hli with
  |none h1 h2=>omega
  |some k h1 h2 h3=>
   have hcall:=hU G k L.length L rfl hpos (by omega) h2
   obtain ⟨R1,R2,R3⟩:=h2
   generalize (Clm.hullR L).lo=lo at *
   generalize (Clm.hullR L).hi=hi' at *
   generalize L.length=ll at *
   clear hI hU hin hgd hway hst hlen hall hB hf hHB hZB hkp hO hpos hn h1 h3
   unfold he0St
   refine gC ?_
   exact zac (v:=.agg [.int .i64 lo,.int .i64 hi']) (.inl rfl) rfl (by simp;omega) (by simp only[resL,resOf,zaa];simp[*,pickC,resV]) ⟨rfl,by simp⟩
end Ro
namespace Ro
open K
set_option maxRecDepth 100000
set_option maxHeartbeats 4000000
end Ro
end Ev
namespace Rd
def mayD (r:Road)(days:Nat)(load:Int):Bool:=(casesR r (everyR r)).any fun d=>(List.range r.parts.length).all fun i=>(d.2.getD i []).any fun x=>aboveI r x.2 x.1 d.1 days load
def bearD (r:Road)(days:Nat)(load:Int):Int:=if sureI r days load then 2 else if mayD r days load then 1 else 0
end Rd
namespace Ev
namespace Ro
open K
attribute [local simp] ev1 wantG spineK spine float xnew xval xeff zab zae zau zah zai addFl cellsOf pickC alive slLen slFt binI maxA maxK minA minK aeqK aeqS AV.cells spA zad fillA setAt bitsI nat_nn zav AV.plain apart
set_option maxRecDepth 100000
set_option maxHeartbeats 4000000
def alP (r:Rd.Road)(days:Nat)(ld:Int)(d:List Int × List (List (Int × Rd.Tr))):Bool:=(List.range r.parts.length).all fun i=>(d.2.getD i []).all fun x=>Rd.aboveI r x.2 x.1 d.1 days ld
def soP (r:Rd.Road)(days:Nat)(ld:Int)(d:List Int × List (List (Int × Rd.Tr))):Bool:=(List.range r.parts.length).all fun i=>(d.2.getD i []).any fun x=>Rd.aboveI r x.2 x.1 d.1 days ld
def BrsC (call:CallF)(r:Rd.Road):Prop:=∀ (H:List AB) (q:Nat) (cs:List AV) (days:Nat) (ld:Int),HB H q (.cells cs)→CaE q H (Rd.casesR r (Rd.everyR r)) cs→days≤10→0≤ld→ld≤60 →
 call (.fn (.func 53) [] []) [.agg (roadCs r),.sl q 0 (Rd.casesR r (Rd.everyR r)).length 2,.int .i64 days,.int .i64 ld] H=some (.ret (.int .i64 (Rd.bearD r days ld)),H,[])
theorem zwd (C:Cfg)(hC:C.calm=true)(call:CallF)(r:Rd.Road)(hf:Rd.Fine r)(hA:AbvC call r)(H:List AB)(q:Nat)(cs:List AV)(days:Nat)(ld:Int)(hB:HB H q (.cells cs))(hE:CaE q H (Rd.casesR r (Rd.everyR r)) cs)(hd:days≤10)(l0:0≤ld)(l1:ld≤60):
  Does (ev C call H.length none af53.body { tm:=tmA af53.ntmps (zipI 0 [.agg (roadCs r),.sl q 0 (Rd.casesR r (Rd.everyR r)).length 2,.int .i64 days,.int .i64 ld] []),df:=[],hp:=H,tc:=[] })
   (Ends C H.length af53.res fun v _ tc=>v=.int .i64 (Rd.bearD r days ld)∧tc=[]):=by
 have hp4:=hf.parts
 have h81:=Rd.cases_81 hf (Rd.everyR r)
 have hin:=fun d (h:d∈Rd.casesR r (Rd.everyR r))=>Rd.case_in hf h
 have hgd:=fun i (hi:i<r.parts.length) d (h:d∈Rd.casesR r (Rd.everyR r))=>Rd.case_getD hf hi h
 have hway:=fun i (hi:i<r.parts.length) (a:Nat) (d:List Int × List (List (Int × Rd.Tr))) (ha:(Rd.casesR r (Rd.everyR r))[a]?=some d)=>(zvy hf hB hE ha hi)
 have hst:=fun i (hi:i<r.parts.length) (d:List Int × List (List (Int × Rd.Tr))) (hd:d∈Rd.casesR r (Rd.everyR r)) (j:Nat) (x:Int × Rd.Tr) (hj:(Rd.statesR r i d.1 (Rd.everyR r))[j]?=some x)=>Rd.state_ok (h:=x.1) (p:=x.2) hf hi (hin d hd).1 hj
 have hbd:Rd.bearD r days ld=if (Rd.casesR r (Rd.everyR r)).all (alP r days ld)=true then 2 else if (Rd.casesR r (Rd.everyR r)).any (soP r days ld)=true then 1 else 0:=rfl
 rw[hbd]
 generalize hD:Rd.casesR r (Rd.everyR r)=D at *
 have HX:=hideP (And.intro hA (And.intro hin (And.intro hgd (And.intro hway (And.intro hst (And.intro hB hf))))))
 have HG:=hideP hD
 obtain ⟨Q1,Q2,Q3⟩:=hB
 clear hA hin hgd hway hst hE hf hD hbd
 generalize hn:D.length=n at *
 have HN:=hideP hn
 clear hn
 have q1:q≠H.length:=by omega
 have q2:q≠H.length+1:=by omega
 unfold af53 Zq Zm Zl Zo Zd Zc Zt Zn
 simp only[zipI,roadCs] at *
 refine gB ?_
 clear q1 q2
 have c0:HB (H++[.cells (roadCs r)]) H.length (.cells (roadCs r)):=hb (by rw[List.getElem?_append_right (Nat.le_refl _),Nat.sub_self];rfl)
 have hkp:∀ p x,HB H p x→HB (H++[.cells (roadCs r)]) p x:=fun p x h=>h.app _
 have hgl:H.length≤(H++[AB.cells (roadCs r)]).length:=by simp
 simp only[roadCs] at c0 hkp hgl
 generalize hGB:H++[AB.cells [.vs 7 (r.parts.map ptE),.vs 7 (r.events.map evE)]]=G at *
 have HB1:=hideP (And.intro c0 hkp)
 clear c0 hkp
 with_reducible refine zan hC n (by unfold fuelL;omega) (fun a st=>st=br0St H n q days ld ((D.take a).all (alP r days ld)) ((D.take a).any (soP r days ld)) a G) ?_ ?_ ?_
 ·unfold br0St
  simp only[List.take_zero,List.all_nil,List.any_nil]
  exact inwP
 ·rintro a st ha rfl
  obtain ⟨hA,hin,hgd,hway,hst,hB,hf⟩:=HX.out
  obtain ⟨c0,hkp⟩:=HB1.out
  have hn:=HN.out
  obtain ⟨d,hd2⟩:∃ d,D[a]?=some d:=⟨_,List.getElem?_eq_getElem (by omega)⟩
  have hdm:=List.mem_of_getElem? hd2
  obtain ⟨w,w1,w2,vs,hW⟩:=hway 0 (by omega) a d hd2
  rw[Rd.take_all hd2,Rd.take_any hd2]
  have HW:=hideP (And.intro hdm hd2)
  generalize (D.take a).all (alP r days ld)=al
  generalize (D.take a).any (soP r days ld)=so
  obtain ⟨A1,A2,A3⟩:=hkp _ _ hW.c0
  obtain ⟨E1,E2,E3⟩:=c0
  have f1:(a:Int)<n:=by omega
  have hw1:IntKind.i64.wrap ((a:Int)+1)=(a:Int)+1:=zaf (by omega) (by omega)
  clear hA hin hgd hway hst hB hf hkp hn hd2 hdm hW
  unfold br0St
  refine gB ?_
  have hsd:∀ i,i<r.parts.length→d.2.getD i []=Rd.statesR r i d.1 (Rd.everyR r):=fun i hi=>HX.out.2.2.1 i hi d HW.out.1
  with_reducible refine zan hC r.parts.length (by unfold fuelL;omega) (fun i st=>st=br2St H n q days ld (al&&(List.range i).all fun i=>(d.2.getD i []).all (abP r days ld d.1)) so a ((List.range i).all fun i=>(d.2.getD i []).any (abP r days ld d.1)) i G) ?_ ?_ ?_
  ·unfold br2St
   simp only[List.range_zero,List.all_nil,Bool.and_true]
   exact inwP
  ·rintro i st hi rfl
   obtain ⟨hA,hin,hgd,hway,hst,hB,hf⟩:=HX.out
   obtain ⟨c0,hkp⟩:=HB1.out
   obtain ⟨hdm,hd2⟩:=HW.out
   obtain ⟨w,w1,w2,vs,hW⟩:=hway i hi a d hd2
   rw[Rd.range_all,Rd.range_all,hsd i hi]
   have hr:=zwc C hC call r hA H G c0 n q cs a i d.1 (Rd.statesR r i d.1 (Rd.everyR r)) w w1 w2 vs (hW.keep hkp) days hd ld l0 l1 ha h81 hi hp4.2 ((hin d hdm).2.2 i hi).2.2 (hst i hi d hdm) (al&&(List.range i).all fun i=>(d.2.getD i []).all (abP r days ld d.1)) so ((List.range i).all fun i=>(d.2.getD i []).any (abP r days ld d.1))
   refine Does.mono hr ?_
   rintro e st ⟨rfl,h2⟩
   rw[← Bool.and_assoc]
   exact h2
  ·rintro st rfl
   have e1:((List.range r.parts.length).all fun i=>(d.2.getD i []).all (abP r days ld d.1))=alP r days ld d:=rfl
   have e2:((List.range r.parts.length).all fun i=>(d.2.getD i []).any (abP r days ld d.1))=soP r days ld d:=rfl
   rw[e1,e2]
   generalize alP r days ld d=x1
   generalize soP r days ld d=x2
   clear hsd e1 e2
   unfold br2St
   cases so
   ·rw[Bool.false_or]
    refine gB ?_
    exact inwP
   ·rw[Bool.true_or]
    refine gB ?_
    exact inwP
 ·rintro st rfl
  have hn:=HN.out
  rw[show D.take n=D from List.take_of_length_le (by omega)]
  obtain ⟨hA,hin,hgd,hway,hst,hB,hf⟩:=HX.out
  obtain ⟨c0,hkp⟩:=HB1.out
  obtain ⟨A1,A2,A3⟩:=hkp _ _ hB
  clear hA hin hgd hway hst hB hf hkp hn c0
  cases D.all (alP r days ld)
  ·cases D.any (soP r days ld)
   ·unfold br0St
    refine gB ?_
    exact zac (v:=.int .i64 0) (.inl rfl) rfl hgl endvP ⟨rfl,by simp⟩
   ·unfold br0St
    refine gB ?_
    exact zac (v:=.int .i64 1) (.inl rfl) rfl hgl endvP ⟨rfl,by simp⟩
  ·unfold br0St
   refine gB ?_
   exact zac (v:=.int .i64 2) (.inl rfl) rfl hgl endvP ⟨rfl,by simp⟩
end Ro
end Ev
namespace Rd
theorem find_at {α:Type}{p:α→Bool}:∀ (L:List α) (i:Nat) (x:α),L[i]?=some x→p x=true→(∀ j y,j<i→L[j]?=some y→p y=false)→L.find? p=some x
 |[],i,x,h,_,_=>by simp at h
 |a::L,0,x,h,hp,_=>by
  simp at h
  subst h
  rw[List.find?_cons_of_pos hp]
 |a::L,i+1,x,h,hp,hn=>by
  rw[List.find?_cons_of_neg (by rw[hn 0 a (by omega) rfl];simp)]
  exact find_at L i x (by simpa using h) hp fun j y hj hy=>hn (j+1) y (by omega) (by simpa using hy)
theorem find_no {α:Type}{p:α→Bool}{L:List α}(h:∀ (j:Nat) (y:α),L[j]?=some y→p y=false):L.find? p=none:=by
 rw[List.find?_eq_none]
 intro x hx
 obtain ⟨i,hi⟩:=List.mem_iff_getElem?.1 hx
 rw[h i x hi];simp
end Rd
namespace Ev
namespace Ro
open K
attribute [local simp] ev1 wantG spineK spine float xnew xval xeff zab zae zau zah zai addFl cellsOf pickC alive slLen slFt binI maxA maxK minA minK aeqK aeqS AV.cells spA zad fillA setAt bitsI nat_nn zav AV.plain apart
set_option maxRecDepth 100000
set_option maxHeartbeats 4000000
theorem zpc (C:Cfg)(hC:C.calm=true)(call:CallF)(r:Rd.Road)(hV:RldC call)(hK:KnoC call r)(hB:Rd.Fine r→BrsC call r)(H:List AB)(n:Int):
  Does (ev C call H.length none af19.body { tm:=tmA af19.ntmps (zipI 0 [.agg (roadCs r),.int .i64 n] []),df:=[],hp:=H,tc:=[] })
   (Ends C H.length af19.res fun v _ tc=>v=findRV r (Rd.isLoad n) (Rd.restR r n)∧tc=[]):=by
 have hv:=fun H=>hV H n
 clear hV
 by_cases he:Rd.errR r (Rd.isLoad n)=0
 ·obtain ⟨hbb,hf,hcan⟩:=Rd.errR_zero he
  unfold findRV
  rw[he,if_pos rfl,if_pos rfl]
  rw[hbb] at he hv
  obtain ⟨q,cs,G,hcall,kp,hq,hb0,hE⟩:=hK.yes he (H++[.cells (roadCs r)])
  have hbd:=of_decide_eq_true hbb
  have hh:=fun (d:Nat) (hd:d≤10)=>hB hf G q cs d n hb0 hE hd hbd.1 hbd.2
  have hsure:=fun (d:Nat)=>Rd.sure_ref hf d n
  have hlG:H.length≤G.length:=by have:=kp.len;simp only[List.length_append,List.length_cons,List.length_nil] at this;omega
  have c0:HB G H.length (.cells (roadCs r)):=hb (kp.at (by rw[List.getElem?_append_right (Nat.le_refl _),Nat.sub_self];rfl) (by simp))
  generalize (Rd.casesR r (Rd.everyR r)).length=k at *
  obtain ⟨A1,A2,A3⟩:=c0
  obtain ⟨Q1,Q2,Q3⟩:=hb0
  have HX:=hideP (And.intro hh hsure)
  clear hK hB hbb hbd hcan he hE kp hq hf hh hsure
  unfold af19 Zq Zm Zo Zd Zc Zt Zn
  simp only[zipI,roadCs] at *
  refine gC ?_
  with_reducible refine zan hC 11 (by unfold fuelL;omega) (fun i st=>(∀ j:Nat,j<i→Rd.sureR r j n=false)∧st={ tm:=tmA 30 [(8,.int .i64 i),(6,.sl q 0 k 2),(2,.ptr H.length 0),(1,.int .i64 n)],df:=[],hp:=G,tc:=[] }) ?_ ?_ ?_
  ·refine ⟨fun j hj=>absurd hj (by omega),?_⟩
   exact inwP
  ·rintro i st hi ⟨hno,rfl⟩
   obtain ⟨hh,hsure⟩:=HX.out
   have hhi:=hh i (by omega)
   have hsi:=hsure i
   have f1:(i:Int)≤10:=by omega
   have hw:IntKind.i64.wrap (↑i+1)=↑i+1:=zaf (by omega) (by omega)
   unfold Rd.bearD at hhi
   rw[hsi] at hhi
   clear hh hsure hsi HX
   cases hs:Rd.sureR r i n with
   |true=>
    have hres:Rd.restR r n=some i:=by
     unfold Rd.restR
     refine Rd.find_at _ i i (List.getElem?_range (by omega)) hs fun j y hj hy=>?_
     rw[List.getElem?_range (by omega)] at hy
     cases hy
     exact hno j hj
    rw[hres]
    rw[hs,if_pos rfl] at hhi
    clear hres hs hno
    refine gB ?_
    exact zac (v:=.tup [.int .i64 i,.int .i64 0]) (.inl rfl) rfl (by simp;omega) endvP ⟨rfl,by simp⟩
   |false=>
    rw[hs,if_neg (by simp)] at hhi
    have hno':∀ j:Nat,j<i+1→Rd.sureR r j n=false:=fun j hj=>by
     by_cases hji:j=i
     ·subst hji;exact hs
     ·exact hno j (by omega)
    have HN:=hideP hno'
    clear hs hno hno'
    cases hm:Rd.mayD r i n
    all_goals
     rw[hm] at hhi
     simp only[Bool.false_eq_true,if_true,if_false] at hhi
     clear hm
     refine gB ?_
     refine ⟨HN.out,?_⟩
     exact inwP
  ·rintro st ⟨hno,rfl⟩
   have hres:Rd.restR r n=none:=by
    unfold Rd.restR
    refine Rd.find_no fun j y hy=>?_
    have hj:=(List.getElem?_eq_some_iff.1 hy).1
    rw[List.length_range] at hj
    rw[List.getElem?_range hj] at hy
    cases hy
    exact hno j hj
   rw[hres]
   clear HX hno hres
   refine gB ?_
   exact zac (v:=.tup [.int .i64 0,.int .i64 4]) (.inl rfl) rfl (by simp;omega) endvP ⟨rfl,by simp⟩
 ·have hn:=hK.no _ he
  unfold findRV
  rw[if_neg he,if_neg he]
  clear hK hB
  generalize Rd.isLoad n=b2 at *
  generalize Rd.errR r _=e at hn he ⊢
  have he0:(e==0)=false:=beq_false_of_ne he
  unfold af19 Zq Zm Zo Zd Zc Zt Zn
  simp only[zipI,roadCs] at *
  refine gC ?_
  exact zac (v:=.tup [.int .i64 0,.int .i64 e]) (.inl rfl) rfl (by simp) endvP ⟨rfl,by simp⟩
theorem ztg (C:Cfg)(hC:C.calm=true)(call:CallF)(r:Rd.Road)(hK:KnoC call r)(hB:Rd.Fine r→BrsC call r)(H:List AB):
  Does (ev C call H.length none af17.body { tm:=tmA af17.ntmps (zipI 0 [.agg (roadCs r)] []),df:=[],hp:=H,tc:=[] })
   (Ends C H.length af17.res fun v _ tc=>v=findRV r true (Rd.mostR r)∧tc=[]):=by
 by_cases he:Rd.errR r true=0
 ·obtain ⟨hbb,hf,hcan⟩:=Rd.errR_zero he
  unfold findRV
  rw[he,if_pos rfl,if_pos rfl]
  obtain ⟨q,cs,G,hcall,kp,hq,hb0,hE⟩:=hK.yes he (H++[.cells (roadCs r)])
  have hh:=fun (i:Nat) (hd:i≤60)=>hB hf G q cs 0 ((60:Int) - i) hb0 hE (by omega) (by omega) (by omega)
  have hsure:=fun (i:Nat)=>Rd.sure_ref hf 0 ((60:Int) - i)
  have hlG:H.length≤G.length:=by have:=kp.len;simp only[List.length_append,List.length_cons,List.length_nil] at this;omega
  have c0:HB G H.length (.cells (roadCs r)):=hb (kp.at (by rw[List.getElem?_append_right (Nat.le_refl _),Nat.sub_self];rfl) (by simp))
  generalize (Rd.casesR r (Rd.everyR r)).length=k at *
  obtain ⟨A1,A2,A3⟩:=c0
  obtain ⟨Q1,Q2,Q3⟩:=hb0
  have HX:=hideP (And.intro hh hsure)
  clear hK hB hbb hcan he hE kp hq hf hh hsure
  unfold af17 Zq Zm Zo Zc Zt Zn
  simp only[zipI,roadCs] at *
  refine gB ?_
  with_reducible refine zan hC 61 (by unfold fuelL;omega) (fun i st=>(∀ j:Nat,j<i→Rd.sureR r 0 ((60:Int) - j)=false)∧st={ tm:=tmA 25 [(6,.int .i64 ((60:Int) - i)),(4,.sl q 0 k 2),(1,.ptr H.length 0)],df:=[],hp:=G,tc:=[] }) ?_ ?_ ?_
  ·refine ⟨fun j hj=>absurd hj (by omega),?_⟩
   exact inwP
  ·rintro i st hi ⟨hno,rfl⟩
   obtain ⟨hh,hsure⟩:=HX.out
   have hhi:=hh i (by omega)
   have hsi:=hsure i
   rw[show ((60:Int) - ((i+1:Nat):Int))=60 - (i:Int) - 1 by omega]
   have hcast:((60 - i:Nat):Int)=60 - (i:Int):=by omega
   have hnoS:∀ (hs:Rd.sureR r 0 ((60:Int) - i)=true),Rd.mostR r=some (60 - i):=fun hs=>by
    unfold Rd.mostR
    refine Rd.find_at _ i (60 - i) (by rw[List.getElem?_map,List.getElem?_range (by omega)];rfl) (by rw[hcast];exact hs) fun j y hj hy=>?_
    rw[List.getElem?_map,List.getElem?_range (by omega)] at hy
    cases hy
    have:=hno j hj
    rwa [show ((60 - j:Nat):Int)=60 - (j:Int) by omega]
   generalize hz:(60:Int) - i=z at *
   have f1:0≤z:=by omega
   have hw:IntKind.i64.wrap (z - 1)=z - 1:=zaf (by omega) (by omega)
   unfold Rd.bearD at hhi
   rw[hsi] at hhi
   have e0:((0:Nat):Int)=0:=rfl
   rw[e0] at hhi
   clear hh hsure hsi HX e0
   cases hs:Rd.sureR r 0 z with
   |true=>
    rw[hnoS hs]
    rw[hs,if_pos rfl] at hhi
    have hgd:(((some (60 - i)).getD 0:Nat):Int)=z:=hcast
    rw[hgd]
    clear hs hno hnoS hcast hz hgd
    refine gB ?_
    exact zac (v:=.tup [.int .i64 z,.int .i64 0]) (.inl rfl) rfl (by simp;omega) endvP ⟨rfl,by simp⟩
   |false=>
    rw[hs,if_neg (by simp)] at hhi
    have hno':∀ j:Nat,j<i+1→Rd.sureR r 0 ((60:Int) - j)=false:=fun j hj=>by
     by_cases hji:j=i
     ·subst hji;rw[hz];exact hs
     ·exact hno j (by omega)
    have HN:=hideP hno'
    clear hs hno hno' hnoS hcast hz
    cases hm:Rd.mayD r 0 z
    all_goals
     rw[hm] at hhi
     simp only[Bool.false_eq_true,if_true,if_false] at hhi
     clear hm
     refine gB ?_
     refine ⟨HN.out,?_⟩
     exact inwP
  ·rintro st ⟨hno,rfl⟩
   have hres:Rd.mostR r=none:=by
    unfold Rd.mostR
    refine Rd.find_no fun j y hy=>?_
    have hj:=(List.getElem?_eq_some_iff.1 hy).1
    rw[List.length_map,List.length_range] at hj
    rw[List.getElem?_map,List.getElem?_range hj] at hy
    cases hy
    have:=hno j hj
    rwa [show ((60 - j:Nat):Int)=60 - (j:Int) by omega]
   rw[hres,show ((60:Int) - ((61:Nat):Int))=-1 by omega]
   clear HX hno hres
   refine gB ?_
   exact zac (v:=.tup [.int .i64 0,.int .i64 4]) (.inl rfl) rfl (by simp;omega) endvP ⟨rfl,by simp⟩
 ·have hn:=hK.no _ he
  unfold findRV
  rw[if_neg he,if_neg he]
  clear hK hB
  generalize Rd.errR r _=e at hn he ⊢
  have he0:(e==0)=false:=beq_false_of_ne he
  unfold af17 Zq Zm Zo Zc Zt Zn
  simp only[zipI,roadCs] at *
  refine gB ?_
  exact zac (v:=.tup [.int .i64 0,.int .i64 e]) (.inl rfl) rfl (by simp) endvP ⟨rfl,by simp⟩
theorem zsz (C:Cfg)(hC:C.calm=true)(call:CallF)(r:Rd.Road)(hK:KnoC call r)(hH:Rd.Fine r→HgtsC call r)(H:List AB):
  Does (ev C call H.length none af21.body { tm:=tmA af21.ntmps (zipI 0 [.agg (roadCs r)] []),df:=[],hp:=H,tc:=[] })
   (Ends C H.length af21.res fun v _ tc=>v=numRV r true (Rd.weakR r)∧tc=[]):=by
 by_cases he:Rd.errR r true=0
 ·obtain ⟨hbb,hf,hcan⟩:=Rd.errR_zero he
  unfold numRV
  rw[he,if_pos rfl]
  obtain ⟨q,cs,G,hcall,kp,hq,hb0,hE⟩:=hK.yes he (H++[.cells (roadCs r)])
  have hne:Rd.casesR r (Rd.everyR r)≠[]:=by
   intro h
   rw[zfc hf,h] at hcan
   cases hcan
  have hp4:=hf.parts
  have hh:=fun (i:Nat) (hi:i<r.parts.length)=>Rd.heights_ref hf hcan hi r.events.length ▸ hH hf G q cs i r.events.length hb0 hE hne hi (Nat.le_refl _)
  have hspec:=Rd.weakN_spec r
  have hstep:∀ n,Rd.weakN r (n+1)=if (Rd.heightsR r (n+1) r.events.length).lo<(Rd.heightsR r (Rd.weakN r n) r.events.length).lo then n+1 else Rd.weakN r n:=fun n=>rfl
  have hlG:H.length≤G.length:=by have:=kp.len;simp only[List.length_append,List.length_cons,List.length_nil] at this;omega
  have c0:HB G H.length (.cells (roadCs r)):=hb (kp.at (by rw[List.getElem?_append_right (Nat.le_refl _),Nat.sub_self];rfl) (by simp))
  generalize (Rd.casesR r (Rd.everyR r)).length=k at *
  obtain ⟨A1,A2,A3⟩:=c0
  obtain ⟨Q1,Q2,Q3⟩:=hb0
  have HX:=hideP (And.intro hh (And.intro hspec hstep))
  unfold Rd.weakR
  clear hK hH hbb hcan he hE kp hq hf hh hspec hstep hne
  unfold af21 Zq Zm Zl Zo Zd Zc Zt Zn
  simp only[zipI,roadCs] at *
  refine gB ?_
  with_reducible refine zan hC (r.parts.length - 1) (by unfold fuelL;omega) (fun i st=>st={ tm:=tmA 42 [(7,.int .i64 ((i:Int)+1)),(6,.int .i64 (Rd.weakN r i)),(4,.sl q 0 k 2),(1,.ptr H.length 0)],df:=[],hp:=G,tc:=[] }) ?_ ?_ ?_
  ·simp only[Rd.weakN]
   exact inwP
  ·rintro i st hi rfl
   obtain ⟨hh,hspec,hstep⟩:=HX.out
   have h1:=hh (i+1) (by omega)
   have h2:=hh (Rd.weakN r i) (by have:=(hspec i).1;omega)
   have e1:((i+1:Nat):Int)=(i:Int)+1:=rfl
   rw[e1] at h1 ⊢
   rw[hstep i]
   generalize Rd.weakN r i=y at *
   generalize Rd.heightsR r (i+1) r.events.length=s1 at *
   generalize Rd.heightsR r y r.events.length=s2 at *
   have f1:(i:Int)+1<r.parts.length:=by omega
   have hw:IntKind.i64.wrap ((i:Int)+1+1)=(i:Int)+1+1:=zaf (by omega) (by omega)
   clear hh hspec hstep HX e1
   by_cases hlt:s1.lo<s2.lo
   ·rw[if_pos hlt]
    have hdl:decide (s1.lo<s2.lo)=true:=decide_eq_true hlt
    rw[show (((i+1:Nat)):Int)=(i:Int)+1 from rfl]
    refine gC ?_
    exact inwP
   ·rw[if_neg hlt]
    have hdl:decide (s1.lo<s2.lo)=false:=decide_eq_false hlt
    refine gC ?_
    exact inwP
  ·rintro st rfl
   generalize Rd.weakN r (r.parts.length - 1)=y at *
   have f1:¬ (((r.parts.length - 1:Nat):Int)+1<r.parts.length):=by omega
   generalize ((r.parts.length - 1:Nat):Int)=z at *
   clear HX
   refine gB ?_
   exact zac (v:=.tup [.int .i64 y,.int .i64 0]) (.inl rfl) rfl (by simp;omega) endvP ⟨rfl,by simp⟩
 ·have hn:=hK.no _ he
  unfold numRV
  rw[if_neg he]
  clear hK hH
  generalize Rd.errR r _=e at hn he ⊢
  have he0:(e==0)=false:=beq_false_of_ne he
  unfold af21 Zq Zm Zl Zo Zd Zc Zt Zn
  simp only[zipI,roadCs] at *
  refine gB ?_
  exact zac (v:=.tup [.int .i64 0,.int .i64 e]) (.inl rfl) rfl (by simp) endvP ⟨rfl,by simp⟩
end Ro
namespace Ro
open K
set_option maxRecDepth 100000
set_option maxHeartbeats 4000000
structure KnowsZ (C:Cfg):Prop where
 calm:C.calm=true
 wh:∀ f,C.whole f=true
 power:Has C 61 af61
 has:Has C 84 af84
 sunk:Has C 47 af47
 rested:Has C 104 af104
 ins:Has C 60 af60
 right:Has C 121 af121
 states:Has C 113 af113
 all:Has C 112 af112
 cases:Has C 86 af86
 hull:Has C 48 af48
 every:Has C 83 af83
 Cases:Has C 82 af82
 check:Has C 81 af81
 known:Has C 36 af36
 rin:Has C 93 af93
 part:Has C 37 af37
 event:Has C 38 af38
 load:Has C 46 af46
 heights:Has C 39 af39
 above:Has C 99 af99
 bears:Has C 53 af53
structure LvZ (C:Cfg) (r:Rd.Road):Prop where
 pow:∀ n,PowC (Ev.call C (n+1))
 sunk:∀ n,RsuC (Ev.call C (n+1))
 part:∀ n,RpartC (Ev.call C (n+2)) r
 event:∀ n,RevtC (Ev.call C (n+2)) r
 load:∀ n,RldC (Ev.call C (n+2))
 hull:∀ n,HulC (Ev.call C (n+1))
 ins:Rd.Fine r→∀ n,InC (Ev.call C (n+2)) r
 every:Rd.Fine r→∀ n,EveC (Ev.call C (n+2)) r
 check:∀ n,ChkC (Ev.call C (n+2)) r
 cas:Rd.Fine r→∀ n set,set≤1000000→CasC (Ev.call C (n+12)) r set
 cases:Rd.Fine r→∀ n,CasesC (Ev.call C (n+13)) r
 known:∀ n,KnoC (Ev.call C (n+14)) r
 heights:Rd.Fine r→∀ n,HgtsC (Ev.call C (n+3)) r
 bears:Rd.Fine r→∀ n,BrsC (Ev.call C (n+4)) r
theorem lvz {C:Cfg}(k:KnowsZ C)(r:Rd.Road)(hlen:max r.parts.length r.events.length≤40)(hv:∀ n H,Ev.call C (n+1) (.fn (.func 62) [] []) [.agg (roadCs r)] H=some (.ret (.bool (Rd.valid r)),H,[])):LvZ C r:=by
 have pow:∀ n,PowC (Ev.call C (n+1)):=fun n H m hm=>zaj k.calm k.power (le' rfl) rfl (ztp C k.calm _ H m hm)
 have set:∀ n,SetC (Ev.call C (n+2)):=fun n H s m hs hm=>zaj k.calm k.has (le' rfl) rfl (zng C _ (pow n) H s m hs hm)
 have sunk:∀ n,RsuC (Ev.call C (n+1)):=fun n H p ld h1 h2 h3 h4=>zaj k.calm k.sunk (le' rfl) rfl (zta C _ H p ld h1 h2 h3 h4)
 have rest:∀ n,RreC (Ev.call C (n+1)):=fun n H x d a b h1 h2 h3 h4 h5 h6 h7=>zaj k.calm k.rested (le' rfl) rfl (zte C k.calm _ H x d a b h1 h2 h3 h4 h5 h6 h7)
 have ins:Rd.Fine r→∀ n,InC (Ev.call C (n+2)) r:=fun hf n=>zti k.calm k.ins hf (sunk n) (rest n)
 have rin:∀ n,RinC (Ev.call C (n+1)):=fun n H a b c=>zaj k.calm k.rin (le' rfl) rfl (zth C _ H a b c)
 have part:∀ n,RpartC (Ev.call C (n+2)) r:=fun n H m=>zaj k.calm k.part (le' rfl) rfl (zjt C _ (rin n) r (by omega) H m)
 have event:∀ n,RevtC (Ev.call C (n+2)) r:=fun n H m=>zaj k.calm k.event (le' rfl) rfl (zxl C _ (rin n) r (by omega) H m)
 have load:∀ n,RldC (Ev.call C (n+2)):=fun n H m=>zaj k.calm k.load (le' rfl) rfl (zzo C _ (rin n) H m)
 have hull:∀ n,HulC (Ev.call C (n+1)):=fun n H q m l h1 h2 h3 h4=>zaj k.calm k.hull (le' rfl) rfl (zyh C k.calm _ H q m l h1 h2 h3 h4)
 have every:Rd.Fine r→∀ n,EveC (Ev.call C (n+2)) r:=fun hf n H=>zaj k.calm k.every (le' rfl) rfl (zpf C _ r hf (pow n) H)
 have check:∀ n,ChkC (Ev.call C (n+2)) r:=fun n H b=>zaj k.calm k.check (le' rfl) rfl (zpm C _ r (hv n) H b)
 have right:Rd.Fine r→∀ n set,set≤1000000→RigC (Ev.call C (n+3)) r set:=fun hf n s hs=>zpe k.calm k.right hf hs (set n) (rin (n+1)) (ins hf n)
 have states:Rd.Fine r→∀ n set,set≤1000000→RstC (Ev.call C (n+4)) r set:=fun hf n s hs=>zll k.calm k.wh k.states hf (right hf n s hs)
 have all:Rd.Fine r→∀ n,RallC (Ev.call C (n+11)) r 0:=fun hf n=>by
  have h:=all_lv k.calm k.wh k.all hf r.events.length 0 (n+(10 - r.events.length)) (by omega)
  have he:=hf.events
  rwa [show n+(10 - r.events.length)+r.events.length+1=n+11 by omega] at h
 have cas:Rd.Fine r→∀ n set,set≤1000000→CasC (Ev.call C (n+12)) r set:=fun hf n s hs=>zre k.calm k.wh k.cases hf (all hf n) (states hf (n+7) s hs)
 have cases : Rd.Fine r → ∀ n, CasesC (Ev.call C (n + 13)) r := fun hf n => zls k.calm k.wh k.Cases (every hf (n + 10)) (cas hf n _ (by
  have h:=Nat.pow_le_pow_right (n:=2) (by decide) hf.events
  have h3:(2:Nat) ^ 10=1024:=rfl
  unfold Rd.everyR
  omega))
 have known:∀ n,KnoC (Ev.call C (n+14)) r:=fun n=>zlr k.calm k.wh k.known (check (n+11)) fun hf=>cases hf n
 have heights:Rd.Fine r→∀ n,HgtsC (Ev.call C (n+3)) r:=fun hf n H q cs i m h1 h2 h3 h4 h5=>zaj k.calm k.heights (le' rfl) rfl (zma C k.calm _ r hf (ins hf n) (hull (n+1)) H q cs i m h1 h2 h3 h4 h5)
 have above:Rd.Fine r→∀ n,AbvC (Ev.call C (n+3)) r:=fun hf n H i p h ls lv d ld h1 h2 h3 h4 h5=>zaj k.calm k.above (le' rfl) rfl (zpo C _ r hf (ins hf n) (rest (n+1)) (sunk (n+1)) H i p h ls lv d ld h1 h2 h3 h4 h5)
 have bears:Rd.Fine r→∀ n,BrsC (Ev.call C (n+4)) r:=fun hf n H q cs d ld h1 h2 h3 h4 h5=>zaj k.calm k.bears (le' rfl) rfl (zwd C k.calm _ r hf (above hf n) H q cs d ld h1 h2 h3 h4 h5)
 exact ⟨pow,sunk,part,event,load,hull,ins,every,check,cas,cases,known,heights,bears⟩
end Ro
namespace Ro
open K
attribute [local simp] ev1 wantG spineK spine float xnew xval xeff zab zae zau zah zai addFl cellsOf pickC alive slLen slFt binI maxA maxK minA minK aeqK aeqS AV.cells spA zad fillA setAt bitsI nat_nn zav AV.plain apart
set_option maxRecDepth 100000
set_option maxHeartbeats 4000000
theorem zuz (C:Cfg)(hC:C.calm=true)(call:CallF)(hA:LApi call)(r:Rd.Road)(k:Int)(H:List AB):
  Does (ev C call H.length none af15.body { tm:=tmA af15.ntmps (zipI 0 [.agg (roadCs r),.int .i64 k] []),df:=[],hp:=H,tc:=[] })
   (Ends C H.length af15.res fun v _ tc=>(∃ b,v=.bool b∧(b=false→max r.parts.length r.events.length≤40))∧tc=[]):=by
 have hl:=fun H=>hA.long (H:=H) r
 by_cases hlen:max r.parts.length r.events.length > 40
 ·rw[decide_eq_true hlen] at hl
  clear hA hlen
  unfold af15 Zq Zm Zl Zo Zs Zc Zt Zn Zi
  simp only[zipI,roadCs] at *
  refine gB ?_
  exact zac (v:=.bool true) (.inl rfl) rfl (by simp) endvP ⟨⟨_,rfl,fun h=>by cases h⟩,rfl⟩
 rw[decide_eq_false hlen] at hl
 have hro:=fun H=>zit H r (by omega) (by omega)
 have hv:=fun H=>hA.valid (hro H)
 cases hval:Rd.valid r with
 |false=>
  rw[hval] at hv
  clear hA hro hval
  unfold af15 Zq Zm Zl Zo Zs Zc Zt Zn Zi
  simp only[zipI,roadCs] at *
  refine gB ?_
  exact zac (v:=.bool false) (.inl rfl) rfl (by simp) endvP ⟨⟨_,rfl,fun _=>by omega⟩,rfl⟩
 |true=>
 rw[hval] at hv
 have hf:=(Rd.valid_iff r).1 hval
 have he:=hf.events
 have HX:=hideP hlen
 clear hA hro hval hf hlen
 unfold af15 Zq Zm Zl Zo Zs Zc Zt Zn Zi
 simp only[zipI,roadCs] at *
 refine gB ?_
 with_reducible refine zan hC r.events.length (by unfold fuelL;omega) (fun i st=>∃ (J:List AB) (c:Nat),c≤i∧st={ tm:=tmA 42 [(20,.int .i64 i),(19,.int .i64 r.events.length),(18,.vs 7 (r.events.map evE)),(5,.int .i64 c),(1,.int .i64 k)],df:=[],hp:=H++.cells [.vs 7 (r.parts.map ptE),.vs 7 (r.events.map evE)]::J,tc:=[] }) ?_ ?_ ?_
 ·refine ⟨[],0,Nat.le_refl _,?_⟩
  exact inwP
 ·rintro i st hi ⟨J,c,hc,rfl⟩
  have hgv:r.events[i]?=some r.events[i]:=List.getElem?_eq_getElem hi
  generalize r.events[i]=v at hgv
  have hgv':=ge_of hgv
  have e5:(i:Int)<r.events.length:=by omega
  have hw:IntKind.i64.wrap (↑i+1)=↑i+1:=zaf (by omega) (by omega)
  have hw2:IntKind.i64.wrap ((c:Int)+1)=((c+1:Nat):Int):=by rw[zaf (by omega) (by omega)];rfl
  obtain ⟨b,hb⟩:∃ b,decide (v.load.lo<v.load.hi)=b:=⟨_,rfl⟩
  have hkd:(v.kind=0)∨((v.kind==0)=false):=by
   by_cases h:v.kind=0
   ·exact .inl h
   ·exact .inr (beq_false_of_ne h)
  have HC:=hideP hc
  clear hc
  rcases hkd with hk|hk
  ·cases b
   ·(refine gI ?_)
    refine ⟨?_,c,by have:=HC.out;omega,?_⟩
    rotate_left
    exact inwP
   ·(refine gI ?_)
    refine ⟨?_,c+1,by have:=HC.out;omega,?_⟩
    rotate_left
    exact inwP
  ·(refine gI ?_)
   refine ⟨?_,c,by have:=HC.out;omega,?_⟩
   rotate_left
   exact inwP
 ·rintro st ⟨J,c,hc,rfl⟩
  obtain ⟨b,hb⟩:∃ b,decide (k<(c:Int))=b:=⟨_,rfl⟩
  clear hc
  refine gB ?_
  exact zac (v:=.bool b) (.inl rfl) rfl (by simp) endvP ⟨⟨_,rfl,fun _=>by have:=HX.out;omega⟩,rfl⟩
def HvyC (call:CallF)(r:Rd.Road):Prop:=∀ H,∃ b,(b=false→max r.parts.length r.events.length≤40)∧call (.fn (.func 15) [] []) [.agg (roadCs r),.int .i64 3] H=some (.ret (.bool b),H,[])
structure FApi (call:CallF) (r:Rd.Road):Prop where
 most:∀ H,call (.fn (.func 17) [] []) [.agg (roadCs r)] H=some (.ret (findRV r true (Rd.mostR r)),H,[])
 rest:∀ H (n:Int),call (.fn (.func 19) [] []) [.agg (roadCs r),.int .i64 n] H=some (.ret (findRV r (Rd.isLoad n) (Rd.restR r n)),H,[])
 weak:∀ H,call (.fn (.func 21) [] []) [.agg (roadCs r)] H=some (.ret (numRV r true (Rd.weakR r)),H,[])
 clash:∀ H,call (.fn (.func 23) [] []) [.agg (roadCs r)] H=some (.ret (clashRV r),H,[])
theorem zkz (r:Rd.Road):∃ a b:Int,clashRV r=.tup [.int .i64 a,.int .i64 b]:=by
 unfold clashRV
 split
 ·exact ⟨_,_,rfl⟩
 ·split<;>exact ⟨_,_,rfl⟩
theorem zlw (C:Cfg)(call:CallF)(hA:LApi call)(r:Rd.Road)(hY:HvyC call r)(hok:okClash clashM r=true)(hR:max r.parts.length r.events.length≤40→FApi call r)(l:Int)(hl:i64n l)(H:List AB):
  Does (ev C call H.length none af4.body { tm:=tmA af4.ntmps (zipI 0 [.agg (roadCs r),.int .i64 l] []),df:=[],hp:=H,tc:=[] })
   (Ends C H.length af4.res fun v _ _=>v=.bool true):=by
 obtain ⟨b,hb,hy⟩:=hY (H++[.cells (roadCs r)])
 have ha:=fun H=>hA.alive (H:=H)
 cases b with
 |true=>
  clear hA hb hR hl hok hY
  unfold af4 Zq Zm Zo Zc Zt Zn
  simp only[zipI,roadCs] at *
  refine gB ?_
  exact zac (v:=.bool true) (.inl rfl) rfl (by simp) endvP rfl
 |false=>
 have hlen:=hb rfl
 have hro:=fun H=>zit H r (by omega) (by omega)
 obtain ⟨r1,r2,r3,r4⟩:=hR hlen
 have p1:=fun H=>hA.most (hro H)
 have p2:=fun H=>hA.rest (hro H) l hl
 have p3:=fun H=>hA.weak (hro H)
 have p4:=fun H=>hA.clash (hro H) hok
 replace r2:=fun H=>r2 H l
 obtain ⟨c1,c2,hc⟩:=zkz r
 rw[hc] at p4 r4
 unfold findRV at p1 r1 p2 r2
 unfold numRV at p3 r3
 generalize (if Rd.errR r true=0 then (((Rd.mostR r).getD 0:Nat):Int) else 0)=n1 at *
 generalize (if Rd.errR r true=0 then (if (Rd.mostR r).isSome then 0 else 4) else Rd.errR r true:Int)=e1 at *
 generalize (if Rd.errR r (Rd.isLoad l)=0 then (((Rd.restR r l).getD 0:Nat):Int) else 0)=n2 at *
 generalize (if Rd.errR r (Rd.isLoad l)=0 then (if (Rd.restR r l).isSome then 0 else 4) else Rd.errR r (Rd.isLoad l):Int)=e2 at *
 generalize (if Rd.errR r true=0 then (Rd.weakR r:Int) else 0)=n3 at *
 generalize Rd.errR r true=e3 at *
 clear hA hR hlen hro hl hok hY hb hc
 unfold af4 Zq Zm Zo Zc Zt Zn
 simp only[zipI,roadCs] at *
 refine gB ?_
 exact zac (v:=.bool true) (.inl rfl) rfl (by simp) endvP rfl
theorem fapi {C:Cfg}(k:KnowsZ C)(k1:Has C 17 af17)(k2:Has C 19 af19)(k3:Has C 21 af21)(k4:Has C 23 af23)(k5:Has C 85 af85)(r:Rd.Road)(hlen:max r.parts.length r.events.length≤40)(hv:∀ n H,Ev.call C (n+1) (.fn (.func 62) [] []) [.agg (roadCs r)] H=some (.ret (.bool (Rd.valid r)),H,[])):FApi (Ev.call C 15) r:=by
 have L:=lvz k r hlen hv
 have hz:RsizeC (Ev.call C 14):=fun H s hs=>zaj k.calm k5 (le' rfl) rfl (ztc C k.calm _ s hs H)
 have hcl:refs (clashRV r)=[]:=by
  obtain ⟨a,b,h⟩:=zkz r
  rw[h];rfl
 exact ⟨fun H => zaj k.calm k1 (le' rfl) rfl (ztg C k.calm _ r (L.known 0) (fun hf => L.bears hf 10) H), fun H n => zaj k.calm k2 (le' rfl) rfl (zpc C k.calm _ r (L.load 12) (L.known 0) (fun hf => L.bears hf 10) H n),
  fun H=>zaj k.calm k3 (le' rfl) rfl (zsz C k.calm _ r (L.known 0) (fun hf=>L.heights hf 11) H),fun H=>zaj k.calm k4 (le' rfl) hcl (zpl C k.calm _ r (L.check 12) (fun hf=>L.cases hf 1) (fun H s n hs hn=>zaj k.calm k.has (le' rfl) rfl (zng C _ (L.pow 12) H s n hs hn)) (fun hf=>L.every hf 12) hz (fun hf s hs=>L.cas hf 2 s hs) H)⟩
theorem hvy {C:Cfg}(hC:C.calm=true)(k:Has C 15 af15){n:Nat}(hA:LApi (Ev.call C n))(r:Rd.Road):HvyC (Ev.call C (n+1)) r:=by
 intro H
 obtain ⟨v,hp,tc,H',c1,⟨⟨b,rfl,h2⟩,rfl⟩,_,_,c7⟩:=zbm (first:=[]) (captured:=[]) (args:=[.agg (roadCs r),.int .i64 3]) (H:=H) hC k.ext k.exth k.fns k.whole (le' rfl) (zuz C hC _ hA r 3 H)
 exact ⟨b,h2,by rw[c1,c7 rfl rfl]⟩
theorem zmr {n:Int}(h:(Lit.int .i64 n).wf=true):i64n n:=by
 simp[Lit.wf,IntKind.min,IntKind.max,IntKind.signed,IntKind.bits] at h
 unfold i64n
 omega
end Ro
end Ev
end Go.Proofs.YtlcjlcllbgjplaaGreat
namespace Go.Proofs.YtlcjlcllbgjplaaGreat
open Go Go.Proofs
namespace Ev
def treeRoadFinds:FT:=(.node 53 af53 (.node 36 af36 (.node 17 af17 (.node 5 af5 (.node 4 af4 .leaf .leaf) (.node 15 af15 .leaf .leaf)) (.node 21 af21 (.node 19 af19 .leaf .leaf) (.node 23 af23 .leaf .leaf))) (.node 46 af46 (.node 38 af38 (.node 37 af37 .leaf .leaf) (.node 39 af39 .leaf .leaf)) (.node 48 af48 (.node 47 af47 .leaf .leaf) .leaf))) (.node 86 af86 (.node 82 af82 (.node 61 af61 (.node 60 af60 .leaf .leaf) (.node 81 af81 .leaf .leaf)) (.node 84 af84 (.node 83 af83 .leaf .leaf) (.node 85 af85 .leaf .leaf))) (.node 112 af112 (.node 99 af99 (.node 93 af93 .leaf .leaf) (.node 104 af104 .leaf .leaf)) (.node 121 af121 (.node 113 af113 .leaf .leaf) .leaf))))
theorem zgb : FT.All (fun k af => ∃ F, Tryz.prog.funcs[k]? = some F ∧ (F.name == "runtime.NumGoroutine")=false∧compFn Tryz.prog F=some af.strip) treeRoadFinds:=
 ⟨is53,⟨is36,⟨is17,⟨is5,⟨is4,trivial,trivial⟩,⟨is15,trivial,trivial⟩⟩,⟨is21,⟨is19,trivial,trivial⟩,⟨is23,trivial,trivial⟩⟩⟩,⟨is46,⟨is38,⟨is37,trivial,trivial⟩,⟨is39,trivial,trivial⟩⟩,⟨is48,⟨is47,trivial,trivial⟩,trivial⟩⟩⟩,⟨is86,⟨is82,⟨is61,⟨is60,trivial,trivial⟩,⟨is81,trivial,trivial⟩⟩,⟨is84,⟨is83,trivial,trivial⟩,⟨is85,trivial,trivial⟩⟩⟩,⟨is112,⟨is99,⟨is93,trivial,trivial⟩,⟨is104,trivial,trivial⟩⟩,⟨is121,⟨is113,trivial,trivial⟩,trivial⟩⟩⟩⟩
end Ev
end Go.Proofs.YtlcjlcllbgjplaaGreat
namespace Go.Proofs.YtlcjlcllbgjplaaGreat
open Go Go.Proofs Go.ChangeShapes Go.WideShapes Go.ChangeAt Go.RowKit
namespace Ev
namespace Ro
open K
theorem lawRoadFinds (W:World)(r:Rd.Road){v0:Value}(hv0:VR W (fun _=>False) nomu (.agg (roadCs r)) v0)(x1:Int)(b1:(Lit.int .i64 x1).wf=true){v1:Value}(hv1:VR W (fun _=>False) nomu (.int .i64 x1) v1):CallsIn Fence.wide 0 Tryz.prog 4 #[v0,v1] W fun e W'=>e=.returned (.bool true)∧Below W.heap.size W W':=by
 have hz:∀ {f:Nat} {af:AFunc},(cfgL treeRoadFinds).exth f=none→FT.find treeRoadFinds f=some af→Has (cfgL treeRoadFinds) f af:=fun h1 h2=>has_of rfl h1 h2 rfl
 have la:=fun n=>lapi (t:=treeRoadFinds) (hz rfl (by kernel_rfl)) n
 have k:Has (cfgL treeRoadFinds) 4 af4:=hz rfl (by kernel_rfl)
 obtain ⟨v,hp,tc,H',h1,h2,_⟩:=zbm (C:=cfgL treeRoadFinds) (n:=15) (first:=[]) (captured:=[]) (args:=[.agg (roadCs r),.int .i64 x1]) (H:=[]) (Q:=fun v _ _=>v=.bool true) rfl k.ext k.exth k.fns k.whole (le' rfl) (zlw (cfgL treeRoadFinds) _ (la 14) r (hvy rfl (hz rfl (by kernel_rfl)) (la 13) r) (ok_all r) (fun h=>fapi ⟨rfl,fun _=>rfl,hz rfl (by kernel_rfl),hz rfl (by kernel_rfl),hz rfl (by kernel_rfl),hz rfl (by kernel_rfl),hz rfl (by kernel_rfl),hz rfl (by kernel_rfl),hz rfl (by kernel_rfl),hz rfl (by kernel_rfl),hz rfl (by kernel_rfl),hz rfl (by kernel_rfl),hz rfl (by kernel_rfl),hz rfl (by kernel_rfl),hz rfl (by kernel_rfl),hz rfl (by kernel_rfl),hz rfl (by kernel_rfl),hz rfl (by kernel_rfl),hz rfl (by kernel_rfl),hz rfl (by kernel_rfl),hz rfl (by kernel_rfl),hz rfl (by kernel_rfl),hz rfl (by kernel_rfl)⟩ (hz rfl (by kernel_rfl)) (hz rfl (by kernel_rfl)) (hz rfl (by kernel_rfl)) (hz rfl (by kernel_rfl)) (hz rfl (by kernel_rfl)) r h (fun n H=>(la n).valid (zit H r (by omega) (by omega)))) x1 (zmr b1) [])
 subst h2
 refine (zjm (tblL zgb) h1 trivial (zbh _ _ _) (rargs:=#[v0,v1]) ⟨rfl,fun i y r hy hr=>?_⟩).mono ?_
 ·match i,hy,hr with
  |0,hy,hr=>cases hy;cases hr;exact hv0
  |1,hy,hr=>cases hy;cases hr;exact hv1
  |i+2,hy,hr=>simp at hy
 ·rintro e W' ⟨⟨w,rfl,hw⟩,bel⟩
  exact ⟨by rw[yas hw W],bel⟩
end Ro
end Ev
set_option maxRecDepth 100000 in
theorem zgd (os:Os)(started:os.Started)(H:Type)(enc:TypeId × Value→H):
  ReturnsInHanded {} Tryz.checked os 4 .any (Rows.roadFindsSpec.pre6 enc Tryz.prog Tryz.f4 Rows.roadFindsRow.domain false) (Rows.roadFindsSpec.post enc Tryz.prog Tryz.f4 false true false false):=by
 refine returnsInHanded_of_change (C:=Tryz.checked) zlt started (by kernel_rfl) Tryz.func4
  (ChangeSpec.witness6 (enc:=enc) (C:=Tryz.checked) false ⟨#[],#[noRoad,.int .i64 0],[]⟩ 8 (by kernel_rfl) (by kernel_rfl) (by kernel_rfl) (by kernel_rfl)) ?_
 intro W base args ds gs before hval0 hW hcnd _
 have hval:∀ (j:Nat) t v,Tryz.f4.params[j]?=some t→args[j]?=some v→Value.okWide Tryz.prog W .any base t v:=hval0
 have hW':=hW
 obtain ⟨p,q,hA0,hV,rfl,hfz,hnd⟩:=hW
 have hA:DataW.TrodAll enc Tryz.prog W 0 (fun _=>true) true Tryz.f4.params.toList args.toList ds p:=hA0
 rw[Tryz.params4] at hA hval
 obtain ⟨v0,vs0,d0,ds0,p0,q0,hargs0,rfl,rfl,h0,hA1⟩:=trodAll_cons hA
 obtain ⟨v1,vs1,d1,ds1,p1,q1,rfl,rfl,rfl,h1,hA2⟩:=trodAll_cons hA1
 obtain ⟨rfl,rfl,rfl⟩:=trodAll_nil hA2
 obtain rfl:args=#[v0,v1]:=Array.ext' hargs0
 obtain ⟨rfl,rfl,rfl⟩:=trodVars_none hV
 clear hA0 hval0
 obtain ⟨r,hx0⟩:=ztv (hval 0 25 v0 rfl rfl) h0
 obtain ⟨x1,rfl,rfl,rfl,wf1⟩:=open_int Tryz.underlying3 (hval 1 3 v1 rfl rfl) h1
 simp only[List.append_nil] at hW'
 have hlt:∀ x∈(p0++([]++[])),x.block<W.heap.size:=fun x hx=>by simpa using hW'.lt x (by simpa using hx)
 refine (callsIn_wide.1 (Ev.Ro.lawRoadFinds W r hx0 x1 wf1 .int)).mono fun e W' ⟨he,bel⟩=>?_
 subst he
 refine ⟨_,rfl,_,_,_,[],(p0++([]++[])),[],by simpa using hW',?_,?_,?_,bel.frame _,fun h=>by cases h⟩
 ·exact trodAll_mk1 (shut_bool Tryz.underlying4 true)
 ·exact trodAll_cons_mk (Below.trod laidOut' (by kernel_rfl) (of_decide_eq_true (by kernel_rfl)) h0 bel (fun x hx=>hlt x (by simp[hx]))) (trodAll_cons_mk (shut_int Tryz.underlying3 wf1) (trodAll_mk0))
 ·exact rfl
theorem roadFinds_holds:Rows.RoadFindsSaid:=
 OpenClaim.holds_of_wide 4 Tryz.f4 rfl rfl rfl rfl rfl rfl rfl ⟨rfl,rfl,rfl,rfl,rfl⟩ rfl rfl rfl rfl rfl (by kernel_rfl) Tryz.func4 (by kernel_rfl)
  (of_decide_eq_true (by kernel_rfl)) (by unfold Func.isWrapper;first|(rw[if_pos (by decide +kernel)];kernel_rfl)|(rw[if_neg (by decide +kernel)];exact ⟨rfl,rfl⟩))
  (fun os started H enc _=>zgd os started H enc)
#print axioms roadFinds_holds
end Go.Proofs.YtlcjlcllbgjplaaGreat
