/- LoadCheck, gone through. -/
import Derived.Test.YtfpepkbflnendaaGreatLcPE
import Derived.Test.YtfpepkbflnendaaGreatLcPD
import Derived.Test.YtfpepkbflnendaaGreatLcEA
import Derived.Test.YtfpepkbflnendaaGreatLcPC
/- Package load, gone through: More, where there are carts: the walk. -/
namespace Go.Proofs.YtfpepkbflnendaaGreat
open Go
namespace Ev
namespace Ro
open K
attribute [local simp] ev1 wantG spineK spine float xnew xval xeff zab zae zau zah zai addFl cellsOf pickC alive slLen slFt binI maxA maxK minA minK aeqK aeqS AV.cells spA zad fillA setAt bitsI nat_nn zav AV.plain apart
set_option maxRecDepth 100000
set_option maxHeartbeats 4000000
theorem yhk (C:Cfg)(hC:C.calm=true)(call call0:CallF)(l:Ld.Lo)(hdf:C.dfk 88=some (131,true))(hO:LOpenC call call0 l)(hR:Ld.valid l=true→RightC call l)(hRm:Ld.valid l=true→∀ (n:Nat) (cb:Nat),n≤60→RightY call (Ld.moreL l n) cb)(hCp:CloneVC call)(hCc:CloneCC call)(hM:LmustC call)(p:List Int)(day:Int)(hc0:l.carts≠[])(hbd:Ld.valid l=true→1≤l.days∧l.days≤4∧l.carts.length≤4)(hpl:Ld.valid l=true→moreIs l p day=true→p.length=l.carts.length)
  (hF:IsFnL call0 l (.fn (.func 89) [] [.ptr 1 0,.ptr 2 0]) (moreIs l p day) [.cells (loadCs l),.cells [.vs 1 (ints p)],.cells [.int .i64 day],.cells [.int .i64 0]]):
  Wa C call [] af27 [.agg (loadCs l),.vs 1 (ints p),.int .i64 day]
   (Fin C ([]:List AB).length af27 (Ans (moreRV l p day))):=by
 have hmt:=hM.t
 have hmf:=hM.f
 have ho:=hO [.cells (loadCs l),.cells [.vs 1 (ints p)],.cells [.int .i64 day],.cells [.int .i64 0]] _ _ hF
 unfold moreRV
 unfold Wa af27 Zq Zm Zl Zo Zs Zd Ze Zc Zt Zn Zi
 rcases ho with ⟨e,h1,h2⟩|⟨h1,h2,H',qb,mb,h3,h4,h5,h6,h7⟩
 ·obtain ⟨h8,h9⟩:=ybn h1
  rw[h9,if_neg (by decide),h8]
  clear hO hR hRm hF h1 h8 h9 hbd hM hCp hCc hpl
  unfold stopL at h2
  simp only[zipI,loadCs] at *
  refine gD ?_
  refine zbl (v:=.tup [.int .i64 0,.int .i64 e]) hdf rfl (by simp only;rfl) (by simp only[resL,resOf,zaa];simp[resV,pickC]) ⟨by simp,by simp⟩
 ·rw[h1,h2,Bool.true_and,if_pos rfl]
  have hpl:=hpl h1 h2
  obtain ⟨hd0,hd1,hc4⟩:=hbd h1
  have hp0:p≠[]:=fun h=>hc0 (List.eq_nil_of_length_eq_zero (by rw[← hpl,h];rfl))
  have hl3:4≤H'.length:=by have:=h4.len;simpa using this
  have hq2:4≤qb:=by simpa using h6
  have hm2:4≤mb:=by simpa using h7
  obtain ⟨H2,tc2,c1,c2,c3,c4⟩:=hR h1 H' qb mb h5 p (.vs 1 (ints p)) (by omega) .vs
  have g1:H'[1]?=some (.cells [.vs 1 (ints p)]):=h4.at rfl (by simp)
  have e0:H2[0]?=some (.cells (loadCs l)):=c3.at (h4.at rfl (by simp)) fun h=>by have:=c2 _ h;omega
  have e1:H2[1]?=some (.cells [.vs 1 (ints p)]):=c3.at g1 fun h=>by have:=c2 _ h;omega
  have e2:H2[2]?=some (.cells [.int .i64 day]):=c3.at (h4.at rfl (by simp)) fun h=>by have:=c2 _ h;omega
  have e3:H2[3]?=some (.cells [.int .i64 0]):=c3.at (h4.at rfl (by simp)) fun h=>by have:=c2 _ h;omega
  have hlen2:=c3.len
  obtain ⟨u0,u1,u2,u3,u4,u5⟩:=bk' g1
  obtain ⟨b0,b1,b2,b3,b4,b5⟩:=bk' e3
  have htc0:∀ x,x<4→x∉tc2:=fun x hx h=>by have:=c2 _ h;omega
  cases hr:Ld.right l p with
  |false=>
   rw[hr] at c1
   rw[if_neg (by decide)]
   clear hO hR hRm hF h1 h2 hbd hM hCp hCc hpl h4 h5 h6 h7 c2 c3 c4 e0 e1 e2 g1 hr hp0 hd0 hd1 hc4 hlen2 hc0 htc0
   simp only[zipI,loadCs] at *
   refine gD ?_
   refine zbl (v:=.tup [.int .i64 0,.int .i64 6]) hdf rfl (by simp only;exact e3) (by simp only[resL,resOf,zaa];simp[resV,pickC,List.getElem?_set_self (get_lt e3)]) ⟨by simp,by simp⟩
  |true=>
   rw[hr] at c1
   rw[if_pos rfl]
   have hcl:call (.fn (.func 63) [] []) [.vs 1 (ints p)] (H2++[.cells [.int .i64 day]])=some (.ret (.sl (H2.length+2) 0 p.length 1),H2++[.cells [.int .i64 day],.dead,.cells (ints p)],[]):=by
    have h:=hCp (H2++[.cells [.int .i64 day]]) p hp0 (by omega)
    rw[List.length_append,List.append_assoc] at h
    exact h
   obtain ⟨a0,a1,a2,a3,a4,a5⟩:=bk' e1
   obtain ⟨d0,d1,d2,d3,d4,d5⟩:=bk' e2
   have hil:(ints p).length=p.length:=by simp[ints]
   have hb2:p.length+1≤bound:=by unfold bound;omega
   have hn1:¬ (1=H2.length+2):=by omega
   have hn2:¬ (2=H2.length+2):=by omega
   have hn3:¬ (H2.length+2=1):=by omega
   have hn4:¬ (H2.length+2=2):=by omega
   have hints:ints (p++[day])=ints p++[.int .i64 day]:=by simp[ints]
   have HH:=hideP (And.intro e0 (And.intro e3 (And.intro hRm (And.intro hCc (And.intro hc0 (And.intro hpl (And.intro hints h1)))))))
   clear hO hR hRm hF h2 hbd hM hCp hCc h4 h5 h6 h7 c2 c3 c4 e0 e1 e2 e3 g1 hr hc0 htc0 h1
   simp only[zipI,loadCs] at *
   have HPL:=hideP (And.intro hpl hp0)
   clear hpl hp0 hints
   generalize ints p=cs at *
   generalize hpn:p.length=pn at *
   have HPN:=hideP hpn
   clear hpn
   refine gC ?_
   clear u0 u1 u2 u3 u4 u5 b0 b1 b2 b3 b4 b5 a0 a1 a2 a3 a4 a5 d0 d1 d2 d3 d4 d5 hcl hil hb2 hn1 hn2 hn3 hn4 c1 h3
   with_reducible refine zan hC 61 (by unfold fuelL;omega) (fun i st=>∃ hp x tc,x=60 - (i:Int)∧hp[0]?=some (.cells (loadCs l))∧hp[3]?=some (.cells [.int .i64 0])∧hp[H2.length+3]?=some (.cells (ints (p++[day])))∧H2.length+4≤hp.length∧(∀ k,k<i→Ld.right (Ld.moreL l ((60 - k:Nat):Int)) (p++[day])=false)∧(∀ j∈tc,j<0)∧st={ tm:=tmA 49 [(10,.int .i64 x),(9,.sl (H2.length+3) 0 (pn+1) 1),(7,.ptr 3 0),(6,.int .i64 0),(3,.ptr 0 0)],df:=[.call 88 [.ptr 3 0]],hp:=hp,tc:=tc }) ?_ ?_ ?_
   ·obtain ⟨e0,e3,_,_,_,_,hints,_⟩:=HH.out
    refine ⟨H2++[.cells [.int .i64 day],.dead,.dead,.cells (cs++[.int .i64 day])],60,_,rfl,?_,?_,?_,by simp,by omega,?_,st_is ?_ rfl rfl rfl⟩
    ·rw[List.getElem?_append_left (by omega)];exact e0
    ·rw[List.getElem?_append_left (by omega)];exact e3
    ·rw[hints];simp
    ·simp
    ·simp[zag,zal]
   ·rintro i st hi ⟨hp,x,tc,hx,e0,e3,ep,hlp,hno,htc,rfl⟩
    obtain ⟨_,_,hRm,hCc,hc0,hpl,hints,h1⟩:=HH.out
    have hxn:x=((60 - i:Nat):Int):=by omega
    have hx0:0≤x:=by omega
    have hx1:x≤60:=by omega
    have hplen:(p++[day]).length=pn+1:=by rw[List.length_append,HPN.out];rfl
    have hk4:l.carts.length≤4:=hc4
    obtain ⟨G,hG⟩:∃ G:List AB,G=hp++[.cells [.vs 7 (l.road.parts.map ptE),.vs 7 (l.road.events.map evE),.int .i64 l.days,.sl (hp.length+4) 0 (l.carts.length+1) 2],.cells [.int .i64 x,.int .i64 (l.days - 1)],.dead,.dead,.cells (caCs l.carts++[.int .i64 x,.int .i64 (l.days - 1)]),.map [],.cells [.vs 7 (l.road.parts.map ptE),.vs 7 (l.road.events.map evE),.int .i64 l.days,.sl (hp.length+4) 0 (l.carts.length+1) 2,.map (hp.length+5)]]:=⟨_,rfl⟩
    have hQy:Qy (Ld.moreL l ((60 - i:Nat):Int)) (hp.length+4) (hp.length+6) (hp.length+5) G:=by
     refine ⟨by omega,by omega,by rw[hG];simp,⟨.sl (hp.length+4) 0 (l.carts.length+1) 2,by rw[hG];simp[Ld.moreL],.inr ⟨by simp[Ld.moreL],?_⟩⟩,[],by rw[hG];simp,fun q hq=>by cases hq⟩
     rw[hG,List.getElem?_append_right (by omega)]
     show _=some (AB.cells (caCs (l.carts++[_])))
     rw[yig,← hxn]
     simp
    have hGp:G[H2.length+3]?=some (.cells (ints (p++[day]))):=by rw[hG,List.getElem?_append_left (by omega)];exact ep
    have hle:(p++[day]).length≤(Ld.moreL l ((60 - i:Nat):Int)).carts.length:=by
     show _≤(l.carts++[_]).length
     rw[List.length_append,List.length_append,HPN.out,hpl]
     exact Nat.le_refl _
    obtain ⟨H3,tc3,c1,c2,c3,c4⟩:=hRm h1 (60 - i) (hp.length+4) (by omega) G (hp.length+6) (hp.length+5) hQy (p++[day]) (.sl (H2.length+3) 0 (p++[day]).length 1) hle (.some (H2.length+3) _ ⟨by omega,get_lt hGp⟩ hGp (by simp[ints]) fun j hj=>ybh _ hj)
    rw[hplen] at c1
    have nt:∀ {j},j<hp.length→j∉tc3:=fun hj h=>by have:=c2 _ h;omega
    have gp:∀ {j y},j<hp.length→hp[j]?=some y→G[j]?=some y:=fun hj h=>by rw[hG,List.getElem?_append_left hj];exact h
    have f0:=c3.at (gp (by omega) e0) (nt (by omega))
    have f3:=c3.at (gp (by omega) e3) (nt (by omega))
    have fp:=c3.at hGp (nt (by omega))
    have hGl:hp.length+7=G.length:=by rw[hG];simp
    have hl3:=c3.len
    have hcl:call (.fn (.func 91) [] []) [.vs 2 (l.carts.map cE)] (hp++[.cells [.vs 7 (l.road.parts.map ptE),.vs 7 (l.road.events.map evE),.int .i64 l.days,.vs 2 (l.carts.map cE)],.cells [.int .i64 x,.int .i64 (l.days - 1)]])=some (.ret (.sl (hp.length+3) 0 l.carts.length 2),hp++[.cells [.vs 7 (l.road.parts.map ptE),.vs 7 (l.road.events.map evE),.int .i64 l.days,.vs 2 (l.carts.map cE)],.cells [.int .i64 x,.int .i64 (l.days - 1)],.dead,.cells (caCs l.carts)],[]):=by
     have h:=hCc (hp++[.cells [.vs 7 (l.road.parts.map ptE),.vs 7 (l.road.events.map evE),.int .i64 l.days,.vs 2 (l.carts.map cE)],.cells [.int .i64 x,.int .i64 (l.days - 1)]]) l.carts hc0 (by omega)
     rw[List.length_append,List.append_assoc] at h
     exact h
    have hw1:IntKind.i64.wrap (l.days - 1)=l.days - 1:=zaf (by omega) (by omega)
    have hw2:IntKind.i64.wrap (x - 1)=x - 1:=zaf (by omega) (by omega)
    have hca:=ybm l.carts
    have hca2:(caCs l.carts).length=l.carts.length * 2:=by omega
    have hcap:=ybv l.carts
    have hb2:l.carts.length+1≤bound:=by unfold bound;omega
    have hfind:=fun h=>yhl (l:=l) (p:=p) (day:=day) (i:=i) hi h hno
    obtain ⟨o0,o1,o2,o3,o4,o5⟩:=bk' e0
    obtain ⟨g0,g1,g2,g3,g4,g5⟩:=bk' f3
    have n0:¬ (0=hp.length+3):=by omega
    have n1:¬ (hp.length+3=0):=by omega
    have HQ:=hideP (And.intro hx (And.intro hxn (And.intro f0 (And.intro fp (And.intro hlp (And.intro hno (And.intro htc (And.intro hfind (And.intro hGl hl3)))))))))
    rw[hG] at c1
    clear hle hQy hGp nt gp e0 e3 ep hno htc hfind hGl hl3 c2 c3 c4 f0 fp hG hRm hCc hc0 hpl hints h1 hx hca hxn hplen f3
    simp only[loadCs] at *
    generalize caCs l.carts=ccs at *
    cases hr:Ld.right (Ld.moreL l ((60 - i:Nat):Int)) (p++[day]) with
    |true=>
     rw[hr] at c1
     have HR:=hideP hr
     clear hr
     refine gC ?_
     obtain ⟨hx,hxn,f0,fp,hlp,hno,htc,hfind,hGl,hl3⟩:=HQ.out
     rw[hfind HR.out]
     refine zdk (v:=.tup [.int .i64 x,.int .i64 0]) (.inl rfl) hdf rfl (by simp) (by simp only[resL,resOf,zaa];simp[resV,pickC,g0]) ⟨by rw[hxn],?_⟩
     rw[List.eq_nil_iff_forall_not_mem]
     intro j hj
     simp at hj
     exact absurd (htc j hj) (Nat.not_lt_zero j)
    |false=>
     rw[hr] at c1
     have HR:=hideP hr
     clear hr
     refine gC ?_
     obtain ⟨hx,hxn,f0,fp,hlp,hno,htc,hfind,hGl,hl3⟩:=HQ.out
     refine ⟨H3,x - 1,tc,by omega,f0,g1,fp,by omega,fun k hk=>?_,htc,?_⟩
     ·by_cases hkd:k=i
      ·subst hkd;exact HR.out
      ·exact hno k (by omega)
     ·refine st_is ?_ rfl rfl ?_
      ·simp[zag,zal]
      ·simp
   ·rintro st ⟨hp,x,tc,hx,e0,e3,ep,hlp,hno,htc,rfl⟩
    have hxn:¬ (0≤x):=by omega
    obtain ⟨g0,g1,g2,g3,g4,g5⟩:=bk' e3
    rw[yjy (l:=l) (p:=p) (day:=day) fun k hk=>hno k hk]
    have HT:=hideP htc
    clear e0 ep hno htc hx hlp
    refine gD ?_
    refine zbl (v:=.tup [.int .i64 0,.int .i64 4]) hdf rfl (by simp only;exact e3) (by simp only[resL,resOf,zaa];simp[resV,pickC,List.getElem?_set_self (get_lt e3)]) ⟨by simp,?_⟩
    rw[List.eq_nil_iff_forall_not_mem]
    intro j hj
    simp at hj
    exact absurd (HT.out j hj) (Nat.not_lt_zero j)
structure LKnows (C:Cfg):Prop where
 calm:C.calm=true
 wh:∀ f,C.whole f=true
 within:Has C 113 af113
 must:Has C 54 af54
 isDay:Has C 90 af90
 isCart:Has C 73 af73
 isPlan:Has C 52 af52
 isPlan1:Has C 114 af114
 cof:Has C 115 af115
 ixf:Has C 148 af148
 late:Has C 200 af200
 lnum:Has C 201 af201
 sinks:Has C 202 af202
 snum:∀ n,SnumC (Ev.call C (n+1))
 rules:Has C 117 af117
 bears:Has C 204 af204
 ahead:Has C 205 af205
 ahead1:Has C 206 af206
 order:Has C 116 af116
 order1:Has C 149 af149
 broken:Has C 53 af53
 right:Has C 75 af75
 plans:Has C 61 af61
 plans1:Has C 120 af120
 plans11:Has C 121 af121
 cloneP:Has C 63 af63
 cloneC:Has C 91 af91
 sum:Has C 122 af122
 goes:Has C 87 af87
 carries:Has C 62 af62
 index:Has C 124 af124
 has:Has C 68 af68
 max:Has C 69 af69
 most:Has C 60 af60
 soon:Has C 67 af67
 gone:Has C 80 af80
 mul:Has C 125 af125
 mul64:Has C 153 af153
 repeat_:Has C 74 af74
 open_ : Has C 50 af50
 always:Has C 59 af59
 check2:Has C 51 af51
 alone2:Has C 72 af72
 never2:Has C 81 af81
 with2:Has C 85 af85
 with3:Has C 86 af86
 more2:Has C 89 af89
 eCheck:Has C 14 af14
 ePlan:Has C 16 af16
 eAll:Has C 18 af18
 eAlone:Has C 20 af20
 eNever:Has C 23 af23
 eWith:Has C 25 af25
 eMore:Has C 27 af27
 dfCheck:C.dfk 48=some (131,true)
 dfPlan:C.dfk 58=some (131,true)
 dfAll:C.dfk 66=some (131,true)
 dfAlone:C.dfk 71=some (131,true)
 dfNever:C.dfk 79=some (131,true)
 dfWith:C.dfk 84=some (131,true)
 dfMore:C.dfk 88=some (131,true)
 rbears:∀ n,BearsR (Ev.call C (n+1))
 rweak:∀ n,WeakR (Ev.call C (n+1))
theorem yhg (C:Cfg)(call:CallF)(H:List AB)(v:AV)(hv:IsSl v):Wb C call H af116 [v]
  (fun w hp tc=>w=.fn (.func 149) [] [.ptr H.length 0]∧hp=H++[.cells [v]]∧tc=[]):=by
 unfold Wb Wa af116 Zq Zm Zo Zt
 simp only[zipI]
 cases hv
 all_goals
  refine gA ?_
  exact zac (v:=.fn (.func 149) [] [.ptr H.length 0]) (.inl rfl) rfl (by simp) endvP ⟨rfl,rfl,rfl⟩
theorem yeb (C:Cfg)(call:CallF)(H:List AB)(v:AV):Wb C call H af59 [v]
  (fun w _hp tc=>w=.bool true∧tc=[]):=by
 unfold Wb Wa af59 Zq Zo
 simp only[zipI]
 refine gA ?_
 exact zac (v:=.bool true) (.inl rfl) rfl (by simp) endvP ⟨rfl,rfl⟩
theorem yfe (C:Cfg)(call:CallF)(H:List AB)(v:AV):Wb C call H af81 [v]
  (fun w _hp tc=>w=.bool true∧tc=[]):=by
 unfold Wb Wa af81 Zq Zo
 simp only[zipI]
 refine gA ?_
 exact zac (v:=.bool true) (.inl rfl) rfl (by simp) endvP ⟨rfl,rfl⟩
theorem yfz (C:Cfg)(call:CallF)(l:Ld.Lo)(hI:IsPlanC call l)(H:List AB)(qb mb b1:Nat)(hQ:Qx l qb mb H)(p:List Int)(hp5:p.length≤1000)(h1:H[b1]?=some (.cells [.vs 1 (ints p)])):Wb C call H af51 [.ptr qb 0,.ptr b1 0]
  (fun w _hp tc=>w=.bool (Ld.isPlan l p)∧tc=[]):=by
 have hc:=hI H qb mb hQ p (.vs 1 (ints p)) hp5 .vs
 obtain ⟨x0,x1,x2,x3,x4,x5⟩:=bk' h1
 generalize Ld.isPlan l p=b at *
 clear hI hQ h1
 unfold Wb Wa af51 Zq Zm Zl Zo Zc Zt
 simp only[zipI]
 refine gA ?_
 exact zac (v:=.bool b) (.inl rfl) rfl (by simp) endvP ⟨rfl,by simp⟩
def LisCartC (call:CallF)(l:Ld.Lo):Prop:=∀ (H:List AB) (qb mb:Nat),Qx l qb mb H→∀ n:Int,call (.fn (.func 73) [] []) [.ptr qb 0,.int .i64 n] H=some (.ret (.bool (Ld.isCart l n)),H,[])
theorem ygk (C:Cfg)(call:CallF)(l:Ld.Lo)(hI:LisCartC call l)(H:List AB)(qb mb b1:Nat)(hQ:Qx l qb mb H)(n:Int)(h1:H[b1]?=some (.cells [.int .i64 n])):Wb C call H af72 [.ptr qb 0,.ptr b1 0]
  (fun w _hp tc=>w=.bool (Ld.isCart l n)∧tc=[]):=by
 have hc:=hI H qb mb hQ n
 obtain ⟨x0,x1,x2,x3,x4,x5⟩:=bk' h1
 generalize Ld.isCart l n=b at *
 clear hI hQ h1
 unfold Wb Wa af72 Zq Zm Zl Zo Zc Zt
 simp only[zipI]
 refine gA ?_
 exact zac (v:=.bool b) (.inl rfl) rfl (by simp) endvP ⟨rfl,by simp⟩
theorem ygp (C:Cfg)(call:CallF)(l:Ld.Lo)(hI:LisCartC call l)(H:List AB)(qb mb b1:Nat)(hQ:Qx l qb mb H)(n:Int)(h1:H[b1]?=some (.cells [.int .i64 n])):Wb C call H af85 [.ptr qb 0,.ptr b1 0]
  (fun w _hp tc=>w=.bool (Ld.isCart l n)∧tc=[]):=by
 have hc:=hI H qb mb hQ n
 obtain ⟨x0,x1,x2,x3,x4,x5⟩:=bk' h1
 generalize Ld.isCart l n=b at *
 clear hI hQ h1
 unfold Wb Wa af85 Zq Zm Zl Zo Zc Zt
 simp only[zipI]
 refine gA ?_
 exact zac (v:=.bool b) (.inl rfl) rfl (by simp) endvP ⟨rfl,by simp⟩
theorem ygo (C:Cfg)(call:CallF)(hG:GoesC call)(H:List AB)(b1:Nat)(p:List Int)(b c:Nat)(hc:c<p.length)(hp5:p.length≤1000)(hb:H[b]?=some (.cells (ints p)))(h1:H[b1]?=some (.cells [.int .i64 c])):Wb C call H af86 [.sl b 0 p.length 1,.ptr b1 0]
  (fun w _hp tc=>w=.bool (Ld.goesB p c)∧tc=[]):=by
 have hc2:=(hG H p b c hc hp5 hb).1
 unfold Ld.goesB
 obtain ⟨x0,x1,x2,x3,x4,x5⟩:=bk' h1
 generalize (!(p.getD c 0==-1))=bb at *
 generalize p.length=n at *
 clear hG hb h1 hc
 unfold Wb Wa af86 Zq Zm Zl Zo Zc Zt
 simp only[zipI]
 refine gA ?_
 exact zac (v:=.bool bb) (.inl rfl) rfl (by simp) endvP ⟨rfl,by simp⟩
theorem yhm (C:Cfg)(call:CallF)(l:Ld.Lo)(hI:IsPlanC call l)(hD:LisDayC call l)(H:List AB)(qb mb b1 b2:Nat)(hQ:Qx l qb mb H)(p:List Int)(hp5:p.length≤1000)(day:Int)(h1:H[b1]?=some (.cells [.vs 1 (ints p)]))(h2:H[b2]?=some (.cells [.int .i64 day])):Wb C call H af89 [.ptr qb 0,.ptr b1 0,.ptr b2 0]
  (fun w _hp tc=>w=.bool (moreIs l p day)∧tc=[]):=by
 have hc:=hI H qb mb hQ p (.vs 1 (ints p)) hp5 .vs
 have hd:=hD H qb mb hQ day
 obtain ⟨x0,x1,x2,x3,x4,x5⟩:=bk' h1
 obtain ⟨y0,y1,y2,y3,y4,y5⟩:=bk' h2
 unfold moreIs
 generalize Ld.isPlan l p=b at *
 generalize Ld.isDay l day=d at *
 clear hI hQ h1 hD h2
 unfold Wb Wa af89 Zq Zm Zl Zo Zc Zt
 simp only[zipI]
 cases b with
 |true=>
  refine gA ?_
  exact zac (v:=.bool d) (.inl rfl) rfl (by simp) endvP ⟨by simp,by simp⟩
 |false=>
  refine gA ?_
  exact zac (v:=.bool false) (.inl rfl) rfl (by simp) endvP ⟨by simp,by simp⟩
section
variable {C:Cfg} (k:LKnows C)
include k
theorem lwithinL (n:Nat):LwithinC (Ev.call C (n+1)):=fun H a b c=>zaj k.calm k.within (le' rfl) rfl (ydg C _ H a b c)
theorem lmustL (n:Nat):LmustC (Ev.call C (n+1)) where
 t H e:=by
  obtain ⟨x,hp,tc,H',c1,⟨rfl,rfl⟩,_,_,c7⟩:=zdl (n:=n) (first:=[]) (captured:=[]) (args:=[.bool true,.int .i64 e]) k.calm k.must (le' rfl) (yfj C _ H e)
  rw[c1,c7 rfl rfl]
 f H e:=by
  obtain ⟨x,hp,tc,H',c1,⟨rfl,rfl⟩,_,_,c7⟩:=zdl (n:=n) (first:=[]) (captured:=[]) (args:=[.bool false,.int .i64 e]) k.calm k.must (le' rfl) (yfk C _ H e)
  rw[c1,c7 rfl rfl]
theorem orderL (n:Nat):OrderC (Ev.call C (n+1)):=fun H v hv=>zew k.calm k.order (le' rfl) (by simp[refs,refsL]) (yhg C _ H v hv)
theorem untilL (n:Nat)(l:Ld.Lo):UntC (Ev.call C (n+1)) l:=yel k.calm k.wh k.ahead1 l
theorem orderIL (m:Nat):OrderI C m (m+1):=yez k.calm m k.order1
theorem aheadL (n:Nat)(l:Ld.Lo)(cb:Nat):AheadC (Ev.call C (n+4)) l cb:=ygm (n0:=n+1) (m:=n+3) k.calm k.wh k.ahead l cb (orderL k _) (orderIL k _) (untilL k _ l) (untilL k _ l)
theorem bearsTL (n:Nat)(l:Ld.Lo)(cb:Nat):BearsTC (Ev.call C (n+5)) l cb:=yea k.calm k.wh k.bears (aheadL k n l cb) (k.rbears _)
theorem sinksTL (n:Nat)(l:Ld.Lo)(cb:Nat):SinksC (Ev.call C (n+6)) l cb:=yer k.calm k.wh k.sinks l cb (bearsTL k n l cb)
theorem brokenL (n:Nat){l:Ld.Lo}(hl:LdWell l)(cb:Nat):BrokenC (Ev.call C (n+9)) l cb:=ydx (n0:=n+6) (m:=n+8) k.calm k.wh k.broken hl (orderL k _) (orderIL k _) (yes k.calm k.wh k.rules) (yhw k.calm k.wh k.late l cb) (sinksTL k n l cb) (yhq k.calm k.wh k.lnum) (k.snum _)
theorem rightL (n:Nat){l:Ld.Lo}(hl:LdWell l)(cb:Nat):RightY (Ev.call C (n+10)) l cb:=ydh k.calm k.wh k.right (brokenL k n hl cb)
theorem rightXL (n:Nat){l:Ld.Lo}(hl:LdWell l):RightC (Ev.call C (n+10)) l:=RightY.x fun cb=>rightL k n hl cb
theorem lisDayL (n:Nat){l:Ld.Lo}(hd:-1000000≤l.days∧l.days≤1000000):LisDayC (Ev.call C (n+2)) l:=ydi k.calm k.wh k.isDay hd (lwithinL k n)
theorem lisPlanL (n:Nat){l:Ld.Lo}(hd:-1000000≤l.days∧l.days≤1000000)(hc:l.carts.length≤1000):IsPlanC (Ev.call C (n+6)) l:=ydn k.calm k.wh k.isPlan k.isPlan1 k.cof k.ixf hc (lisDayL k n hd)
theorem lisCartL (n:Nat){l:Ld.Lo}(hd:l.carts.length≤1000000):LisCartC (Ev.call C (n+2)) l:=fun H qb _mb hQ i=>zaj k.calm k.isCart (le' rfl) rfl (ydj C _ (lwithinL k n) l hd H qb _ hQ.q i)
theorem cloneL (n:Nat):ClonePC (Ev.call C (n+1)):=yds k.calm k.wh k.cloneP
theorem plansIL (n:Nat){l:Ld.Lo}(hv:LdVal l):PlansI C (n+10) (n+10+l.carts.length+2) l:=yev k.calm k.wh hv k.plans11 k.plans1 (cloneL k) _ (rightXL k n hv.well)
theorem plansL (n:Nat):PlansC (Ev.call C (n+1)):=yew k.calm k.wh k.plans
theorem mostLL (n:Nat){l:Ld.Lo}(hv:LdVal l):MostLC (Ev.call C (n+10+l.carts.length+3)) (Ev.call C (n+9)) l:=yff (n0:=n+9) k.calm k.wh k.most (plansIL k n hv)
theorem goneL (n:Nat){l:Ld.Lo}(hv:LdVal l):GoneC (Ev.call C (n+10+l.carts.length+3)) (Ev.call C (n+9)) l:=yib (n0:=n+9) k.calm k.wh k.gone hv (plansL k _) (plansIL k n hv) (ycc k.calm k.wh k.goes)
theorem carriesL (n:Nat){l:Ld.Lo}(hv:LdVal l):CarriesC (Ev.call C (n+2)) l:=ydc k.calm k.wh k.carries hv (ycc k.calm k.wh k.goes) (yho k.calm k.wh k.sum)
theorem repL (n:Nat):RepC (Ev.call C (n+3)):=yir k.calm k.wh k.repeat_ fun m hm=>yiy k.calm k.wh k.mul k.mul64 m hm
omit k in
theorem yje {l:Ld.Lo}(h:Ld.valid l=true)(hp:l.road.parts.length≤40):LdVal l:=by
 unfold Ld.valid at h
 simp only[Bool.and_eq_true,decide_eq_true_eq,List.all_eq_true] at h
 obtain ⟨⟨⟨⟨h1,h2⟩,h3⟩,h4⟩,h5⟩:=h
 have hc:∀ c∈l.carts,(0≤c.load∧c.load≤60)∧0≤c.due∧c.due<l.days:=fun c hcm=>by
  have:=h5 c hcm
  unfold Ld.okCart Ld.isDay at this
  simp only[Bool.and_eq_true,decide_eq_true_eq] at this
  exact this
 refine ⟨⟨h2,hp,by omega,fun c hcm=>?_⟩,fun c hcm=>(hc c hcm).1.1,h3.1,h3.2,fun c hcm=>(hc c hcm).2⟩
 have:=(hc c hcm).1
 omega
end
end Ro
namespace Ro
open K
set_option maxRecDepth 100000
set_option maxHeartbeats 4000000
theorem lvl {C:Cfg}{P:CallF→Prop}{a b:Nat}(h:P (Ev.call C a))(e:a=b):P (Ev.call C b):=e ▸ h
section
variable {C:Cfg} (k:LKnows C)
include k
theorem ansL {f n:Nat}{fn:AFunc}{args:List AV}{v:AV}(h0:Has C f fn)(hlen:([]++args++[]).length≤fn.ntmps)(hv:refs v=[])
  (h:Does (ev C (Ev.call C n) ([]:List AB).length Option.none fn.body { tm:=tmA fn.ntmps (zipI 0 args []),df:=[],hp:=[],tc:=[] }) (Fin C ([]:List AB).length fn (Ans v))):Ev.call C (n+1) (.fn (.func f) [] []) args []=Option.some (.ret v,[],[]):=by
 obtain ⟨x,hp,tc,H',c1,⟨rfl,rfl⟩,_,_,c7⟩:=zdl (n:=n) (first:=[]) (captured:=[]) (args:=args) (H:=[]) k.calm h0 hlen (by simpa using h)
 rw[c1,c7 hv rfl]
variable {l:Ld.Lo} (hbig:l.road.parts.length≤40∧l.road.events.length≤50∧l.carts.length≤1000)
include hbig
theorem lopenL (n:Nat):LOpenC (Ev.call C (n+10+l.carts.length+3)) (Ev.call C (n+10+l.carts.length+2)) l:=
 yfi (n0:=n+10+l.carts.length+2) k.calm k.open_ (lmustL k _) (lwithinL k _) (k.rweak _) hbig fun h1 h2=>lisDayL k (n+10+l.carts.length) ⟨by omega,by omega⟩
omit k in
theorem valL (hv:Ld.valid l=true):LdVal l:=yje hv hbig.1
omit k hbig in
theorem daysL (hv:Ld.valid l=true):1≤l.days∧l.days≤4∧l.carts.length≤4:=by
 unfold Ld.valid at hv
 simp only[Bool.and_eq_true,decide_eq_true_eq] at hv
 obtain ⟨⟨⟨⟨h1,h2⟩,h3⟩,h4⟩,h5⟩:=hv
 exact ⟨h3.1,h3.2,h4⟩
theorem checkE (n:Nat)(p:List Int)(hp5:p.length≤1000):Ev.call C (n+10+l.carts.length+4) (.fn (.func 14) [] []) [.agg (loadCs l),.vs 1 (ints p)] []=some (.ret (checkRV l p),[],[]):=by
 refine ansL k k.eCheck (le' rfl) (by unfold checkRV;split<;>(try split)<;>rfl) (yfx C _ (Ev.call C (n+10+l.carts.length+2)) l k.dfCheck (lopenL k hbig n) (fun hv=>?_) (lmustL k _) p (fun hv G qb mb hG hX=>?_) fun _ h=>?_)
 ·exact lvl (P:=fun c=>BrokenX c l) (BrokenC.x fun cb=>brokenL k (n+l.carts.length+4) (valL hbig hv).well cb) (by omega)
 ·have hd:=daysL hv
  exact zaj (first:=[]) (captured:=[.ptr 1 0]) k.calm k.check2 (le' rfl) rfl (yfz C _ l (lvl (P:=fun c=>IsPlanC c l) (lisPlanL k (n+l.carts.length+5) ⟨by omega,by omega⟩ hbig.2.2) (by omega)) G qb mb 1 hX p hp5 (hG.at rfl (by simp)))
 ·unfold Ld.isPlan at h
  simp only[Bool.and_eq_true,decide_eq_true_eq] at h
  omega
omit hbig in
theorem alwaysE (n:Nat)(v:AV)(G:List AB):Ev.call C (n+1) (.fn (.func 59) [] []) [v] G=some (.ret (.bool true),G,[]):=zaj k.calm k.always (le' rfl) rfl (yeb C _ G v)
theorem planE (n:Nat):∃ H' pv,Ev.call C (n+10+l.carts.length+4) (.fn (.func 16) [] []) [.agg (loadCs l)] []=some (.ret (.tup [pv,.int .i64 (if Ld.valid l=true then (Ld.planR l).2 else 0),.int .i64 (errL l true)]),H',[])∧PlE (fun _=>True) H' (if Ld.valid l=true then (Ld.planR l).1 else []) pv:=by
 obtain ⟨x,hp,tc,H',c1,⟨rfl,pv,rfl,c2⟩,_,c6,c7⟩:=zdl (n:=n+10+l.carts.length+3) (first:=[]) (captured:=[]) (args:=[.agg (loadCs l)]) (H:=[]) k.calm k.ePlan (le' rfl)
  (yhc C _ (Ev.call C (n+10+l.carts.length+2)) (Ev.call C (n+9)) l k.dfPlan (lopenL k hbig n) (plansL k _) (fun hv=>mostLL k n (valL hbig hv)) (fun hv qb mb b4 x4=>ydb (valL hbig hv) (carriesL k (n+7) (valL hbig hv)) qb mb b4 x4) (cloneL k _) (fun hv=>(daysL hv).2.2) (fun hv G qb mb _ _=>alwaysE k _ _ G))
 refine ⟨H',pv,c1,?_⟩
 cases c2 with
 |none h=>exact .none h
 |some b h0 h1 h2=>
  obtain ⟨_,g⟩:=c6 (.inl (by simp[CRes.val,refs,refsL]))
  exact .some b h0 h1 ((g b (Nat.zero_le _)).trans h2)
theorem allE (n:Nat):Ev.call C (n+10+l.carts.length+4) (.fn (.func 18) [] []) [.agg (loadCs l)] []=some (.ret (allRV l),[],[]):=
 ansL k k.eAll (le' rfl) (by unfold allRV;split<;>(try split)<;>rfl) (yjq C _ (Ev.call C (n+10+l.carts.length+2)) (Ev.call C (n+9)) l k.dfAll (lopenL k hbig n) (plansL k _) (fun hv=>mostLL k n (valL hbig hv)) (fun hv qb mb b4=>ygv (n0:=n+8) k.calm k.wh k.soon (valL hbig hv) (yhu k.calm k.wh k.has (yjc k.calm k.wh k.index)) (yhr k.calm k.wh k.max) qb mb b4) (lmustL k _) (fun hv=>⟨(daysL hv).1,(daysL hv).2.1⟩) (fun hv G qb mb _ _=>alwaysE k _ _ G))
theorem aloneE (n:Nat)(i:Int):Ev.call C (n+10+l.carts.length+4) (.fn (.func 20) [] []) [.agg (loadCs l),.int .i64 i] []=some (.ret (aloneRV l i),[],[]):=by
 refine ansL k k.eAlone (le' rfl) (by unfold aloneRV;split<;>(try split)<;>rfl) (ygh C k.calm _ (Ev.call C (n+10+l.carts.length+2)) l k.dfAlone (lopenL k hbig n) (fun hv=>?_) ?_ (lmustL k _) i daysL fun hv G qb mb hG hX=>?_)
 ·exact lvl (P:=fun c=>RightC c l) (rightXL k (n+l.carts.length+3) (valL hbig hv).well) (by omega)
 ·exact lvl (P:=fun c=>RepC c) (repL k (n+10+l.carts.length)) (by omega)
 ·exact zaj (first:=[]) (captured:=[.ptr 1 0]) k.calm k.alone2 (le' rfl) rfl (ygk C _ l (lvl (P:=fun c=>LisCartC c l) (lisCartL k (n+l.carts.length+9) (by omega)) (by omega)) G qb mb 1 hX i (hG.at rfl (by simp)))
theorem neverE (n:Nat):Ev.call C (n+10+l.carts.length+4) (.fn (.func 23) [] []) [.agg (loadCs l)] []=some (.ret (neverRV l),[],[]):=
 ansL k k.eNever (le' rfl) (by unfold neverRV;split<;>rfl) (yfd C _ (Ev.call C (n+10+l.carts.length+2)) (Ev.call C (n+9)) l k.dfNever (lopenL k hbig n) (fun hv=>goneL k n (valL hbig hv)) (fun pv G=>zaj k.calm k.never2 (le' rfl) rfl (yfe C _ G pv)) (fun hv=>(daysL hv).2.2) (fun hv G qb mb _ _=>alwaysE k _ _ G))
theorem withE (n:Nat)(i:Int):Ev.call C (n+10+l.carts.length+4) (.fn (.func 25) [] []) [.agg (loadCs l),.int .i64 i] []=some (.ret (withRV l i),[],[]):=by
 refine ansL k k.eWith (le' rfl) (by unfold withRV;split<;>(try split)<;>rfl) (ygn C _ (Ev.call C (n+10+l.carts.length+2)) (Ev.call C (n+9)) l k.dfWith (lopenL k hbig n) (fun hv=>goneL k n (valL hbig hv)) (lmustL k _) i (fun c hc hv hcl qb mb G hQ h1 p hp pv hpv=>?_) (fun hv=>(daysL hv).2.2) fun hv G qb mb hG hX=>?_)
 ·obtain ⟨e,_⟩:=ybp (valL hbig hv) hp
  have h5:=(valL hbig hv).well.carts
  cases hpv with
  |none h=>rw[h] at e;simp at e;omega
  |some b _ _ hb=>exact zaj (n:=n+8) (first:=[]) (captured:=[.ptr 1 0]) k.calm k.with3 (le' rfl) rfl (ygo C _ (ycc k.calm k.wh k.goes) G 1 p b c (by omega) (by omega) hb h1)
 ·exact zaj (first:=[]) (captured:=[.ptr 1 0]) k.calm k.with2 (le' rfl) rfl (ygp C _ l (lvl (P:=fun c=>LisCartC c l) (lisCartL k (n+l.carts.length+9) (by omega)) (by omega)) G qb mb 1 hX i (hG.at rfl (by simp)))
theorem moreE (n:Nat)(p:List Int)(hp5:p.length≤1000)(day:Int)(hc0:l.carts≠[]):Ev.call C (n+10+l.carts.length+4) (.fn (.func 27) [] []) [.agg (loadCs l),.vs 1 (ints p),.int .i64 day] []=some (.ret (moreRV l p day),[],[]):=by
 refine ansL k k.eMore (le' rfl) (by unfold moreRV;split<;>(try split)<;>(try split)<;>rfl) (yhk C k.calm _ (Ev.call C (n+10+l.carts.length+2)) l k.dfMore (lopenL k hbig n) (fun hv=>?_) (fun hv m cb hm=>?_) (ydr k.calm k.wh k.cloneP) (ydt k.calm k.wh k.cloneC) (lmustL k _) p day hc0 daysL (fun hv hi=>?_) fun hv G qb mb hG hX=>?_)
 ·exact lvl (P:=fun c=>RightC c l) (rightXL k (n+l.carts.length+3) (valL hbig hv).well) (by omega)
 ·have hw:=(valL hbig hv).well
  have hd:=daysL hv
  have hwm:LdWell (Ld.moreL l m):=by
   refine ⟨hw.ev,hw.parts,?_,fun c hc=>?_⟩
   ·show (l.carts++[_]).length≤5
    simp;omega
   ·rcases List.mem_append.1 hc with hc|hc
    ·exact hw.ld c hc
    ·obtain rfl:=List.mem_singleton.1 hc
     show -1000000≤(m:Int)∧(m:Int)≤1000000
     omega
  have h:=rightL k (n+l.carts.length+3) hwm cb
  exact lvl (P:=fun c=>RightY c (Ld.moreL l m) cb) h (by omega)
 ·unfold moreIs Ld.isPlan at hi
  simp only[Bool.and_eq_true,decide_eq_true_eq] at hi
  exact hi.1.1
 ·have hd:=daysL hv
  exact zaj (first:=[]) (captured:=[.ptr 1 0,.ptr 2 0]) k.calm k.more2 (le' rfl) rfl (yhm C _ l (lvl (P:=fun c=>IsPlanC c l) (lisPlanL k (n+l.carts.length+5) ⟨by omega,by omega⟩ hbig.2.2) (by omega)) (lvl (P:=fun c=>LisDayC c l) (lisDayL k (n+l.carts.length+9) ⟨by omega,by omega⟩) (by omega)) G qb mb 1 2 hX p hp5 day (hG.at rfl (by simp)) (hG.at rfl (by simp)))
end
end Ro
namespace Ro
open K
def caC':List AV→Option (List Ld.Cart)
 |[]=>some []
 |.int .i64 a::.int .i64 b::l=>(caC' l).map (⟨a,b⟩::·)
 |_=>none
@[simp] theorem ykd:∀ l,caC' (caCs l)=some l
  |[]=>rfl
  |c::l=>by
   have e:caCs (c::l)=.int .i64 c.load::.int .i64 c.due::caCs l:=rfl
   rw[e]
   simp[caC',ykd l]
theorem yke:∀ {cs l},caC' cs=some l→cs=caCs l:=by
 intro cs
 induction cs using caC'.induct with
 |case1=>intro l h;cases h;rfl
 |case2 a b cs ih=>
  intro l h
  obtain ⟨l',h1,rfl⟩:=Option.map_eq_some_iff.1 h
  rw[ih h1];rfl
 |case3 cs h1 h2=>intro l h;unfold caC' at h;split at h<;>first|exact absurd rfl h1|exact (h2 _ _ _ rfl).elim|cases h
def casV (H:List AB)(v:AV)(l:List Ld.Cart):Prop:=slCells 2 H v=some (caCs l)
def loadOf (H:List AB)(v:AV):Option Ld.Lo:=match v with
 | .agg [pv, ev, .int .i64 d, cv] => (match roadOf H (.agg [pv, ev]), (slCells 2 H cv).bind caC' with
  |some r,some cs=>if cs.length≤50 then some ⟨r,d,cs⟩ else none
  |_,_=>none)
 |_=>none
theorem yhp {H:List AB}{pv ev cv:AV}{l:Ld.Lo}(h1:roadOf H (.agg [pv,ev])=some l.road)(h2:casV H cv l.carts)(h3:l.carts.length≤50):loadOf H (.agg [pv,ev,.int .i64 l.days,cv])=some l:=by
 unfold casV at h2
 simp[loadOf,h1,h2,h3]
theorem ybu {H:List AB}{v:AV}{l:Ld.Lo}(h:loadOf H v=some l):∃ pv ev cv,v=.agg [pv,ev,.int .i64 l.days,cv]∧roadOf H (.agg [pv,ev])=some l.road∧casV H cv l.carts∧l.carts.length≤50:=by
 unfold loadOf at h
 split at h
 ·rename_i pv ev d cv
  split at h
  ·rename_i r cs h1 h2
   split at h
   ·rename_i hb
    cases h
    obtain ⟨c2,e2,f2⟩:=Option.bind_eq_some_iff.1 h2
    exact ⟨pv,ev,cv,rfl,h1,by unfold casV;rw[e2,yke f2],hb⟩
   ·cases h
  ·cases h
 ·cases h
theorem ykc (H:List AB)(l:List Ld.Cart):casV H (.vs 2 (l.map cE)) l:=by simp[casV,slCells,ydp]
theorem yee (H:List AB)(l:Ld.Lo)(hp:l.road.parts.length≤40)(he:l.road.events.length≤50)(hc:l.carts.length≤50):loadOf H (.agg (loadCs l))=some l:=yhp (zit H l.road hp he) (ykc H l.carts) hc
def daysOfC:List AV→Option (List Int)
 |[]=>some []
 |.int .i64 n::l=>(daysOfC l).map (n::·)
 |_=>none
@[simp] theorem yfr:∀ l,daysOfC (ints l)=some l
  |[]=>rfl
  |c::l=>by
   have e:ints (c::l)=.int .i64 c::ints l:=rfl
   rw[e]
   simp[daysOfC,yfr l]
theorem ycj:∀ {cs l},daysOfC cs=some l→cs=ints l
 |[],l,h=>by cases h;rfl
 |v::cs,l,h=>by
  unfold daysOfC at h
  split at h
  ·rename_i e;cases e
  ·rename_i n l' e
   obtain ⟨rfl,rfl⟩:=List.cons.inj e
   obtain ⟨ms,h1,rfl⟩:=Option.map_eq_some_iff.1 h
   rw[ycj h1];rfl
  ·cases h
def plnV (H:List AB)(v:AV)(p:List Int):Prop:=slCells 1 H v=some (ints p)
def plnOf (H:List AB)(v:AV):Option (List Int):=((slCells 1 H v).bind daysOfC).bind fun p=>if p.length≤50 then some p else none
theorem yit {H:List AB}{v:AV}{p:List Int}(h:plnV H v p)(hl:p.length≤50):plnOf H v=some p:=by
 unfold plnV at h
 simp[plnOf,h,hl]
theorem ycx {H:List AB}{v:AV}{p:List Int}(h:plnOf H v=some p):plnV H v p∧p.length≤50:=by
 unfold plnOf at h
 obtain ⟨q,h1,h2⟩:=Option.bind_eq_some_iff.1 h
 split at h2
 ·rename_i hb
  cases h2
  obtain ⟨c2,e2,f2⟩:=Option.bind_eq_some_iff.1 h1
  exact ⟨by unfold plnV;rw[e2,ycj f2],hb⟩
 ·cases h2
theorem ylc (H:List AB):plnV H .nils []:=rfl
theorem yjv {H:List AB}{b n:Nat}{p:List Int}(h:H[b]?=some (.cells (ints p)))(hn:n=p.length):plnV H (.sl b 0 n 1) p:=by
 subst hn
 have hl:(ints p).length=p.length:=by simp[ints]
 simp only[plnV,slCells,h,if_true,Nat.zero_add,hl,Nat.le_refl,List.drop_zero,Nat.mul_one]
 rw[List.take_of_length_le (by omega)]
end Ro
namespace Ro
open K
attribute [local simp] ev1 wantG spineK spine float xnew xval xeff zab zae zau zah zai addFl cellsOf pickC alive slLen slFt binI maxA maxK minA minK aeqK aeqS AV.cells spA zad fillA setAt bitsI nat_nn zav AV.plain apart
set_option maxRecDepth 100000
set_option maxHeartbeats 4000000
def wkT (r:Rd.Road):Nat→Nat × Int
 |0=>(0,0)
 |i+1=>(Rd.weakN r i,(Rd.heightsR r (Rd.weakN r i) r.events.length).lo)
theorem zwo (r:Rd.Road):wkT r 1=(0,(Rd.heightsR r 0 r.events.length).lo):=rfl
theorem wkT_lt (r:Rd.Road){i:Nat}(h0:i≠0)(h:(Rd.heightsR r i r.events.length).lo<(wkT r i).2):wkT r (i+1)=(i,(Rd.heightsR r i r.events.length).lo):=by
 cases i with
 |zero=>exact absurd rfl h0
 |succ k=>
  have h:(Rd.heightsR r (k+1) r.events.length).lo<(Rd.heightsR r (Rd.weakN r k) r.events.length).lo:=h
  show (Rd.weakN r (k+1),_)=_
  have:Rd.weakN r (k+1)=k+1:=by rw[Rd.weakN,if_pos h]
  rw[this]
theorem wkT_ge (r:Rd.Road){i:Nat}(h0:i≠0)(h:¬ (Rd.heightsR r i r.events.length).lo<(wkT r i).2):wkT r (i+1)=wkT r i:=by
 cases i with
 |zero=>exact absurd rfl h0
 |succ k=>
  have h:¬ (Rd.heightsR r (k+1) r.events.length).lo<(Rd.heightsR r (Rd.weakN r k) r.events.length).lo:=h
  show (Rd.weakN r (k+1),_)=(Rd.weakN r k,_)
  have:Rd.weakN r (k+1)=Rd.weakN r k:=by rw[Rd.weakN,if_neg h]
  rw[this]
theorem zrt (C:Cfg)(hC:C.calm=true)(call call0:CallF)(r:Rd.Road)(hdf:C.dfk 145=some (161,true))(hHd:∀ H F is,IsFn call0 r F is H→HeadQ call r H F is)(hHs:Rd.valid r=true→HeightsC call r)
  (hF:IsFn call0 r (.fn (.func 146) [] []) true [.cells (roadCs r),.cells [.int .i64 0]]):
  Wa C call [] af112 [.agg (roadCs r)]
   (Fin C ([]:List AB).length af112 (Ans (numRV r true (Rd.weakR r)))):=by
 have ho:=hHd [.cells (roadCs r),.cells [.int .i64 0]] _ _ hF
 unfold numRV
 unfold Wa af112 Zq Zm Zl Zo Zs Zc Zt Zn Zi
 rcases ho with ⟨e,h1,h2,h3⟩|⟨h1,H1,xb,H2,tc,h3,h4,h5,h6⟩|⟨h1,H1,xb,mb,eb,H2,tc,h3,h4,h5,h6,h7,h8,h9,h10⟩
 ·rw[h1,if_neg h2]
  clear hHd hHs hF h1
  simp only[zipI,roadCs] at *
  refine gD ?_
  refine zbl (v:=.tup [.int .i64 0,.int .i64 e]) hdf rfl (by simp only;rfl) (by simp only[resL,resOf,zaa];simp[resV,pickC]) ⟨by simp,by simp⟩
 ·rw[h1,if_neg (by decide)]
  have e4:H2[1]?=some (.cells [.int .i64 0]):=h5.at rfl (by simp)
  clear hHd hHs hF h1 h5 h6
  simp only[zipI,roadCs] at *
  refine gD ?_
  refine zbl (v:=.tup [.int .i64 0,.int .i64 10]) hdf rfl (by simp only;exact e4) (by simp only[resL,resOf,zaa];simp[resV,pickC,List.getElem?_set_self (get_lt e4)]) ⟨by simp,by simp⟩
 ·obtain ⟨_,hf,hcan⟩:=Rd.errR_zero h1
  rw[h1,if_pos rfl]
  have hv:Rd.valid r=true:=(Rd.valid_iff r).2 hf
  have hml:=h7.ml
  have hnp:=hf.parts
  have e0:H2[0]?=some (.cells (roadCs r)):=h5.at rfl (by simp)
  have e1:H2[1]?=some (.cells [.int .i64 0]):=h5.at rfl (by simp)
  obtain ⟨f0,f1,f2,f3,f4,f5⟩:=bk' e0
  have hHs':=hHs hv
  have hwk:(Rd.weakR r:Int)=(wkT r r.parts.length).1:=by
   obtain ⟨k,hk⟩:∃ k,r.parts.length=k+1:=⟨r.parts.length - 1,by omega⟩
   unfold Rd.weakR
   rw[hk];rfl
  rw[hwk]
  have HX:=hideP (And.intro hHs' (And.intro h7 (And.intro e0 (And.intro e1 h9))))
  clear hHd hHs hF h1 h5 h6 h7 h8 h9 h10 hv hf hcan hHs' e0 e1 hwk
  simp only[zipI,roadCs] at *
  refine gD ?_
  with_reducible refine zan hC r.parts.length (by unfold fuelL;omega) (fun i st=>∃ hp,Rx r xb mb eb hp∧hp[0]?=some (.cells (roadCs r))∧hp[1]?=some (.cells [.int .i64 0])∧st={ tm:=tmA 37 [(16,.int .i64 i),(15,.int .i64 r.parts.length),(6,.int .i64 (wkT r i).2),(5,.int .i64 (wkT r i).1),(4,.ptr xb 0),(3,.ptr 1 0),(1,.ptr 0 0)],df:=[.call 145 [.ptr 1 0]],hp:=hp,tc:=[] }) ?_ ?_ ?_
  ·refine ⟨H2,HX.out.2.1,HX.out.2.2.1,HX.out.2.2.2.1,?_⟩
   refine st_is ?_ rfl rfl ?_
   ·simp[zag,zal,wkT]
   ·simp
  ·clear f0 f1 f2 f3 f4 f5
   rintro i st hi ⟨hp,k1,k2,k3,rfl⟩
   obtain ⟨hHs,h7,e0,e1,h9⟩:=HX.out
   simp at h9
   obtain ⟨H3,tc3,c1,c2,c3,c4⟩:=hHs hp xb mb eb k1 i hi r.events.length (Nat.le_refl _)
   obtain ⟨f0,f1,f2,f3,f4,f5⟩:=bk' k2
   have nt:∀ j,j<2→j∉tc3:=fun j hj h=>by have:=c2 _ h;omega
   have HA:=hideP (And.intro c4 (And.intro (c3.at k2 (nt 0 (by decide))) (c3.at k3 (nt 1 (by decide)))))
   have hwi:IntKind.i64.wrap (↑i+1)=↑i+1:=zaf (by omega) (by omega)
   have hcase:(i=0∧wkT r (i+1)=(0,(Rd.heightsR r i r.events.length).lo))∨(i≠0∧(Rd.heightsR r i r.events.length).lo<(wkT r i).2∧wkT r (i+1)=(i,(Rd.heightsR r i r.events.length).lo))∨(i≠0∧¬ (Rd.heightsR r i r.events.length).lo<(wkT r i).2∧wkT r (i+1)=wkT r i):=by
    by_cases h0:i=0
    ·subst h0;exact .inl ⟨rfl,zwo r⟩
    ·by_cases hlt:(Rd.heightsR r i r.events.length).lo<(wkT r i).2
     ·exact .inr (.inl ⟨h0,hlt,wkT_lt r h0 hlt⟩)
     ·exact .inr (.inr ⟨h0,hlt,wkT_ge r h0 hlt⟩)
   clear c2 c3 c4 hHs h7 e0 e1 nt k1 k3 k2
   simp only[roadCs] at f1 f2 f4 f5
   generalize Rd.heightsR r i r.events.length=sp at *
   rcases hcase with ⟨rfl,h2⟩|⟨h0,hlt,h2⟩|⟨h0,hlt,h2⟩
   ·have HW:=hideP h2
    clear h2
    have hw1:IntKind.i64.wrap 1=1:=by decide
    simp only[Int.natCast_zero] at *
    refine gA ?_
    refine ⟨_,HA.out.1,HA.out.2.1,HA.out.2.2,?_⟩
    rw[HW.out]
    refine st_is ?_ rfl rfl ?_
    ·simp[zag,zal]
    ·simp
   ·have h0':((i:Int)==0)=false:=by simp;omega
    have HW:=hideP h2
    clear h2
    generalize wkT r i=wt at *
    refine gA ?_
    refine ⟨_,HA.out.1,HA.out.2.1,HA.out.2.2,?_⟩
    rw[HW.out]
    refine st_is ?_ rfl rfl ?_
    ·simp[zag,zal]
    ·simp
   ·have h0':((i:Int)==0)=false:=by simp;omega
    have HW:=hideP h2
    clear h2
    generalize hwt:wkT r i=wt at *
    refine gA ?_
    refine ⟨_,HA.out.1,HA.out.2.1,HA.out.2.2,?_⟩
    rw[HW.out]
    refine st_is ?_ rfl rfl ?_
    ·simp[zag,zal]
    ·simp
  ·rintro st ⟨hp,k1,k2,k3,rfl⟩
   obtain ⟨g0,g1,g2,g3,g4,g5⟩:=bk' k3
   clear f0 f1 f2 f3 f4 f5 k1 k2 k3
   generalize wkT r r.parts.length=wt at *
   refine gA ?_
   refine zdk (v:=.tup [.int .i64 wt.1,.int .i64 0]) (.inl rfl) hdf rfl (by simp) (by simp only[resL,resOf,zaa];simp[resV,pickC,g0]) ⟨by simp,by simp⟩
end Ro
namespace Ro
open K
open Clm (setOf setOf_lt setOf_or setOf_andn setOf_congr)
set_option maxRecDepth 100000
set_option maxHeartbeats 4000000
end Ro
namespace Ro
open K
set_option maxRecDepth 100000
set_option maxHeartbeats 4000000
structure Knows (C:Cfg):Prop where
 calm:C.calm=true
 wh:∀ f,C.whole f=true
 within:Has C 133 af133
 isLoad:Has C 101 af101
 always:Has C 146 af146
 isPart:Has C 134 af134
 every:Has C 136 af136
 isSpan:Has C 131 af131
 must:Has C 132 af132
 sunk:Has C 165 af165
 rested:Has C 163 af163
 look:Has C 198 af198
 pass:Has C 197 af197
 rest:∀ n (H:List AB) (d:Int) (p:Rd.Tr),TrOk p→∀ h l:Int,-1000000≤h→h≤1000000→0≤d→d≤1000→Ev.call C (n+1) (.fn (.func 199) [] []) [.agg [.int .i64 d],.agg [.int .i64 p.stiff,.int .i64 p.rise,.int .i64 p.full],.int .i64 h,.int .i64 l] H=some (.ret (.int .i64 (Rd.rested p h d)),H,[])
 height:Has C 164 af164
 first:Has C 162 af162
 parts:Has C 161 af161
 parts1:Has C 174 af174
 ways:Has C 139 af139
 all:Has C 159 af159
 all1:Has C 172 af172
 all11:Has C 173 af173
 told:Has C 137 af137
 told1:Has C 158 af158
 can:Has C 135 af135
 known:Has C 102 af102
 joined:Has C 175 af175
 span:Has C 166 af166
 heights:Has C 147 af147
 heights1:Has C 167 af167
 left:Has C 141 af141
 index:Has C 160 af160
 cont:Has C 138 af138
 sure:Has C 103 af103
 sure1:Has C 140 af140
 may:Has C 104 af104
 may1:Has C 142 af142
 open_ : Has C 99 af99
 bears2:Has C 100 af100
 eBears:Has C 36 af36
 eWeak:Has C 112 af112
 dfBears:C.dfk 97=some (161,true)
 dfWeak:C.dfk 145=some (161,true)
section
variable {C:Cfg} (k:Knows C)
include k
theorem withinL (n:Nat):WithinC (Ev.call C (n+1)):=fun H a b c=>zaj k.calm k.within (le' rfl) rfl (zon C _ H a b c)
theorem isLoadL (n:Nat):IsLoadC (Ev.call C (n+2)):=fun H a=>zaj k.calm k.isLoad (le' rfl) rfl (zqh C _ (withinL k n) H a)
theorem isSpanL (n:Nat):IsSpanC (Ev.call C (n+1)):=fun H s a b w h1 h2=>zaj k.calm k.isSpan (le' rfl) rfl (zqf C _ H s a b w h1 h2)
theorem alwaysL (n:Nat)(H:List AB)(v:AV):Ev.call C (n+1) (.fn (.func 146) [] []) [v] H=some (.ret (.bool true),H,[]):=zaj k.calm k.always (le' rfl) rfl (zro C _ H v)
theorem mustL (n:Nat):MustC (Ev.call C (n+1)) where
 t H e:=by
  obtain ⟨x,hp,tc,H',c1,⟨rfl,rfl⟩,_,_,c7⟩:=zdl (n:=n) (first:=[]) (captured:=[]) (args:=[.bool true,.int .i64 e]) k.calm k.must (le' rfl) (zua C _ H e)
  rw[c1,c7 rfl rfl]
 f H e:=by
  obtain ⟨x,hp,tc,H',c1,⟨rfl,rfl⟩,_,_,c7⟩:=zdl (n:=n) (first:=[]) (captured:=[]) (args:=[.bool false,.int .i64 e]) k.calm k.must (le' rfl) (zub C _ H e)
  rw[c1,c7 rfl rfl]
theorem sunkL (n:Nat):SunkC (Ev.call C (n+1)):=fun H p hp l h0 h1=>zaj k.calm k.sunk (le' rfl) rfl (zww C _ H p hp l h0 h1)
theorem restedL (n:Nat):RestedC (Ev.call C (n+1)):=fun H p hp h d h0 h1 d0 d1=>zaj (first:=[.agg [.int .i64 p.stiff,.int .i64 p.rise,.int .i64 p.full]]) k.calm k.rested (le' rfl) rfl (zpi C _ H p hp h d h0 h1 d0 d1)
theorem aftL (n:Nat):AftC (Ev.call C (n+2)) where
 look H p h l:=zaj k.calm k.look (le' rfl) rfl (zuq C _ H p h l)
 pass H p hp h l h0 h1 l0 l1:=zaj k.calm k.pass (le' rfl) rfl (ztr C _ (sunkL k n) H p hp h l h0 h1 l0 l1)
 rest H d p hp h l h0 h1 d0 d1:=k.rest (n+1) H d p hp h l h0 h1 d0 d1
theorem partsNL (n:Nat):PartsC (Ev.call C (n+1)):=fun H xb a=>zew k.calm k.parts (le' rfl) (by simp[refs,refsL]) (zpu C _ H xb a)
theorem allNL (n:Nat):AllC (Ev.call C (n+1)):=fun H xb=>zew k.calm k.all (le' rfl) (by simp[refs,refsL]) (zzc C _ H xb)
theorem toldNL (n:Nat):ToldC (Ev.call C (n+1)):=fun H xb a=>zew k.calm k.told (le' rfl) (by simp[refs,refsL]) (zsa C _ H xb a)
theorem joinL (n:Nat):JoinC (Ev.call C (n+1)):=fun H v ds hv hl=>zaj k.calm k.joined (le' rfl) rfl (zqd C k.calm _ H v ds hv hl)
theorem isPartL {r:Rd.Road}(hr:r.parts.length≤1000)(n:Nat):IsPartC (Ev.call C (n+2)) r:=fun H xb w z hy a=>zaj k.calm k.isPart (le' rfl) rfl (zqg C _ (withinL k n) r hr H xb w z hy a)
theorem indexL (n:Nat):IndexC (Ev.call C (n+1)) (Ev.call C n):=by
 intro H v ws hv hl fl fa fb p hF
 obtain ⟨w,hp,tc,H',c1,⟨q,rfl,c2,rfl⟩,_,_,_,c7⟩:=zcw (first:=[]) (captured:=[]) (args:=[v,.fn fl fa fb]) k.calm k.wh k.index (le' rfl) (zqi C k.calm _ H v ws hv hl fl fa fb p hF)
 exact ⟨q,by rw[c1,c7 rfl rfl],c2⟩
theorem contL (n:Nat):ContC (Ev.call C (n+2)) (Ev.call C n):=fun H v ws hv hl fl fa fb p hF=>zaj k.calm k.cont (le' rfl) rfl (zvr C _ _ (indexL k n) H v ws hv hl fl fa fb p hF)
variable {r:Rd.Road} (hr:Rd.Fine r)
include hr
theorem everyL (n:Nat):EveryC (Ev.call C (n+1)) r:=fun H xb w z hy=>zaj k.calm k.every (le' rfl) rfl (zvl C _ r (by have:=hr.events;omega) H xb w z hy)
theorem heightL (n:Nat):HeightC (Ev.call C (n+3)) r:=fun H xb mb eb hX p hp h b1 b2 f hf many hm=>zaj k.calm k.height (le' rfl) rfl (zql C k.calm _ (aftL k n) r hr H xb mb eb hX p hp h b1 b2 f hf many hm)
theorem firstL (n:Nat):FirstC (Ev.call C (n+4)) r:=by
 intro H xb mb eb hX q hq
 obtain ⟨es,hm,hes⟩:=hX.m
 rcases zkg hr.events q hes with h|h
 ·obtain ⟨es',h1,h2⟩:=znk hr.events q hes
  obtain ⟨v,hp,tc,H',c1,⟨rfl,rfl,c3⟩,c5,_,_⟩:=zbm (n:=n+3) (first:=[]) (captured:=[]) (args:=[.ptr xb 0,qA q]) k.calm k.first.ext k.first.exth k.first.fns k.first.whole (le' rfl)
   (zqq C k.calm _ r hr (heightL k hr n) H xb mb eb hX q hq es es' hm h h1)
  refine ⟨H',_,c1,by simp,c5.kp,hX.ne,hX.ne2,c5.kp.at hX.x (by simp[hX.ne]),fun hn=>c5.kp.at (hX.e hn) (by simp[hX.ne2]),Nat.lt_of_lt_of_le hX.el c5.len,es',?_,h2⟩
  rw[c5.got mb (get_lt hm) (by simp)];exact c3
 ·obtain ⟨v,hp,tc,H',c1,⟨rfl,rfl⟩,c5,_,c7⟩:=zbm (n:=n+3) (first:=[]) (captured:=[]) (args:=[.ptr xb 0,qA q]) k.calm k.first.ext k.first.exth k.first.fns k.first.whole (le' rfl)
   (zve C _ r H xb mb eb hX q es hm h)
  exact ⟨H',_,c1,by simp,c5.kp,hX.kp c5.kp (by simp) (by simp) (by simp)⟩
theorem waysL (n:Nat):WaysC (Ev.call C (n+7)) r:=by
 intro H xb mb eb hX i hi f hf looks
 obtain ⟨v,hp,tc,H',c1,⟨c2,c3,c4⟩,c5,c6,c7,c8⟩:=zcw (n:=n+6) (first:=[]) (captured:=[]) (args:=[.ptr xb 0,.int .i64 i,.agg (arr10 f),.int .u64 looks]) k.calm k.wh k.ways (le' rfl)
  (zru C k.calm k.wh (n+4) r hr (partsNL k (n+5)) (ztt k.calm hr k.parts1) (firstL k hr n) H xb mb eb hX i hi f hf looks)
 refine ⟨v,H',tc,c1,c2,c6,?_⟩
 by_cases hv:refs v=[]∧tc=[]
 ·have hH:=c8 hv.1 hv.2
  rw[hH]
  refine ⟨hX,?_⟩
  obtain ⟨W,hW⟩:=c4
  generalize hws:Rd.waysR r i (lsOf r.events.length f) looks=ws at hW
  cases hW with
  |none=>exact ⟨[],by rw[hws];exact .none⟩
  |some b ws z1 z2 z3=>simp[refs] at hv
 ·have hH : H' = hp := c7 (by
   by_cases h:tc=[]
   ·exact .inl fun h2=>hv ⟨h2,h⟩
   ·exact .inr h)
  rw[hH];exact ⟨c3,c4⟩
theorem toldIL (n:Nat):ToldI C (n+7) (n+r.events.length+11) r:=by
 have h1:=zyz k.calm k.wh hr k.all11 k.all1 (n+8)
 rw[show n+8+r.events.length+2=n+r.events.length+10 by omega] at h1
 exact zry (m:=n+r.events.length+10) k.calm k.wh hr k.told1 (allNL k _) h1 (waysL k hr n)
theorem canL (n:Nat):CanC (Ev.call C (n+r.events.length+12)) r:=fun H xb mb eb hX looks=>
 zdr k.calm k.wh k.can (le' rfl) rfl hX (zyt C k.calm k.wh (n+6) (n+r.events.length+11) r (toldNL k _) (toldIL k hr n) H xb mb eb hX looks)
theorem knownL (n:Nat):KnownC (Ev.call C (n+r.events.length+13)) r:=by
 intro H xb mb eb hX
 obtain ⟨x,hp,tc,H',c1,⟨c2,c3,c4,rfl⟩,c5,c6,c7⟩:=zdl (n:=n+r.events.length+12) (first:=[]) (captured:=[]) (args:=[.ptr xb 0]) k.calm k.known (le' rfl)
  (zqc C _ (mustL k _) r (everyL k hr _) (canL k hr n) H xb mb eb hX)
 have hs:=c5.same c3
 have hX':Rx r xb mb eb H':=by
  refine c4.same fun j hj=>hs j ?_
  have:=hX.xl;have:=hX.ml;have:=hX.el
  rcases hj with rfl|rfl|rfl<;>assumption
 exact ⟨H',tc,c2,⟨c5.len,fun b hb ht=>(hs b hb).trans (c3.get b hb ht)⟩,hX',c1⟩
theorem spanL (n:Nat):SpanC (Ev.call C (n+r.events.length+13)) (Ev.call C (n+7)) r:=by
 intro H xb mb eb hX i hi fl fa fb g hF
 have h1:=toldIL k hr (n+1)
 rw[show n+1+r.events.length+11=n+r.events.length+12 by omega] at h1
 exact zdr k.calm k.wh k.span (le' rfl) rfl hX (zsp C k.calm k.wh (n+7) (n+r.events.length+12) r hr (toldNL k _) h1 (everyL k hr _) (everyL k hr _) (waysL k hr n) (joinL k _) H xb mb eb hX i hi fl fa fb g hF)
theorem leftL (n:Nat):LeftC (Ev.call C (n+4)) r:=fun H xb mb eb hX w hp h b1 b2 f hf days load hL=>zaj k.calm k.left (le' rfl) rfl (zyd C _ r hr (heightL k hr n) (restedL k (n+2)) (sunkL k (n+2)) H xb mb eb hX w hp h b1 b2 f hf days load hL)
theorem sure1L (n:Nat):Sure1C (Ev.call C (n+5)) r:=fun H xb mb eb hX w hp hw f hf days load hL b1 b2 b3 b4 h1 h2 h3 h4=>zaj (first:=[]) (captured:=[.ptr b1 0,.ptr b2 0,.ptr b3 0,.ptr b4 0]) k.calm k.sure1 (le' rfl) rfl (zsj C _ r (leftL k hr n) H xb mb eb hX w hp hw f hf days load hL b1 b2 b3 b4 h1 h2 h3 h4)
theorem may1L (n:Nat):May1C (Ev.call C (n+5)) r:=fun H xb mb eb hX w hp hw f hf load hL b1 b2 b4 h1 h2 h4=>zaj (first:=[]) (captured:=[.ptr b1 0,.ptr b2 0,.ptr b4 0]) k.calm k.may1 (le' rfl) rfl (zxx C _ r (leftL k hr n) H xb mb eb hX w hp hw f hf load hL b1 b2 b4 h1 h2 h4)
theorem sureL (n:Nat):SureC (Ev.call C (n+r.events.length+13)) r:=by
 intro H xb mb eb hX days load hL
 have h1:=toldIL k hr (n+1)
 rw[show n+1+r.events.length+11=n+r.events.length+12 by omega] at h1
 exact zdr k.calm k.wh k.sure (le' rfl) rfl hX (zsh C k.calm k.wh (n+7) (n+5) (n+r.events.length+12) r hr (toldNL k _) h1 (everyL k hr _) (everyL k hr _) (waysL k hr n) (contL k (n+5)) (sure1L k hr n) H xb mb eb hX days load hL)
theorem mayL (n:Nat):MayC (Ev.call C (n+r.events.length+13)) r:=by
 intro H xb mb eb hX load hL
 have h1:=toldIL k hr (n+1)
 rw[show n+1+r.events.length+11=n+r.events.length+12 by omega] at h1
 exact zdr k.calm k.wh k.may (le' rfl) rfl hX (zxw C k.calm k.wh (n+7) (n+5) (n+r.events.length+12) r hr (toldNL k _) h1 (everyL k hr _) (everyL k hr _) (waysL k hr n) (contL k (n+5)) (may1L k hr n) H xb mb eb hX load hL)
theorem heights1L (n:Nat):Heights1C (Ev.call C (n+4)) r:=fun H xb mb eb hX w hp hw f hf many hm b1 b2 h1 h2=>zaj (first:=[]) (captured:=[.ptr b1 0,.ptr b2 0]) k.calm k.heights1 (le' rfl) rfl (zks C _ r (heightL k hr n) H xb mb eb hX w hp hw f hf many hm b1 b2 h1 h2)
theorem heightsL (n:Nat):HeightsC (Ev.call C (n+r.events.length+14)) r:=fun H xb mb eb hX i hi many hm=>
 zdr k.calm k.wh k.heights (le' rfl) rfl hX (zkq C _ (Ev.call C (n+7)) r hr (spanL k hr n) (heights1L k hr (n+3)) H xb mb eb hX i hi many hm)
end
section
variable {C:Cfg} (k:Knows C)
include k
theorem openL {r:Rd.Road}(hbig:r.parts.length≤1000∧r.events.length≤1000)(n:Nat):OpenC (Ev.call C (n+4)) (Ev.call C (n+3)) r:=by
 intro H F is hF
 obtain ⟨x,hp,tc,H',c1,⟨rfl,c2⟩,c5,c6,c7⟩:=zdl (n:=n+3) (first:=[]) (captured:=[]) (args:=[.agg (roadCs r),F]) (H:=H) k.calm k.open_ (le' rfl)
  (ztu C k.calm _ (mustL k (n+2)) (isSpanL k (n+2)) (withinL k (n+2)) r (fun _=>isPartL k hbig.1 (n+1)) ⟨by omega,by omega⟩ H F is hF)
 rcases c2 with ⟨h1,rfl⟩|⟨h1,h2,rfl⟩|⟨h1,h2,xb,mb,eb,rfl,h3,h4,h5,h6,h7⟩
 ·exact .inl ⟨h1,by rw[c7 rfl rfl] at c1;exact c1⟩
 ·exact .inr (.inl ⟨h1,h2,by rw[c7 rfl rfl] at c1;exact c1⟩)
 ·have he:=lft_eq (v:=.ptr xb 0) c5 h3 c6 (.inl (by simp[refs]))
  subst he
  exact .inr (.inr ⟨h1,h2,H',xb,mb,eb,c1,h3,h4,h5,h6,h7⟩)
theorem zcv {f n:Nat}{fn:AFunc}{args:List AV}{v:AV}(h0:Has C f fn)(hlen:([]++args++[]).length≤fn.ntmps)(hv:refs v=[])
  (h:Does (ev C (Ev.call C n) ([]:List AB).length Option.none fn.body { tm:=tmA fn.ntmps (zipI 0 args []),df:=[],hp:=[],tc:=[] }) (Fin C ([]:List AB).length fn (Ans v))):Ev.call C (n+1) (.fn (.func f) [] []) args []=Option.some (.ret v,[],[]):=by
 obtain ⟨x,hp,tc,H',c1,⟨rfl,rfl⟩,_,_,c7⟩:=zdl (n:=n) (first:=[]) (captured:=[]) (args:=args) (H:=[]) k.calm h0 hlen (by simpa using h)
 rw[c1,c7 hv rfl]
variable {r:Rd.Road} (hbig:r.parts.length≤1000∧r.events.length≤1000)
include hbig
theorem headL (n:Nat)(H:List AB)(F:AV)(is:Bool)(hF:IsFn (Ev.call C (n+r.events.length+16)) r F is H):HeadQ (Ev.call C (n+r.events.length+17)) r H F is:=by
 have h1:=openL k hbig (n+r.events.length+13)
 exact yaf h1 (fun hv => by
  have h2:=knownL k ((Rd.valid_iff r).1 hv) (n+4)
  rw[show n+4+r.events.length+13=n+r.events.length+17 by omega] at h2
  exact h2) H F is hF
theorem bearsE (n:Nat)(load:Int):Ev.call C (n+r.events.length+18) (.fn (.func 36) [] []) [.agg (roadCs r),.int .i64 load] []=some (.ret (numRV r (Rd.isLoad load) (Rd.bearsR r load)),[],[]):=
 zcv k k.eBears (le' rfl) rfl (zri C _ (Ev.call C (n + r.events.length + 16)) r k.dfBears (fun H F is h => headL k hbig n H F is h) (fun hv => by
  have h2:=sureL k ((Rd.valid_iff r).1 hv) (n+4)
  rw[show n+4+r.events.length+13=n+r.events.length+17 by omega] at h2
  exact h2) (fun hv=>by
  have h2:=mayL k ((Rd.valid_iff r).1 hv) (n+4)
  rw[show n+4+r.events.length+13=n+r.events.length+17 by omega] at h2
  exact h2) load (fun hv G xb mb eb hG hX=>
   zaj (first:=[]) (captured:=[.ptr 1 0]) k.calm k.bears2 (le' rfl) rfl (zrj C _ (isLoadL k (n+r.events.length+13)) G _ load 1 (hG.at rfl (by simp)))))
theorem weakE (n:Nat):Ev.call C (n+r.events.length+18) (.fn (.func 112) [] []) [.agg (roadCs r)] []=some (.ret (numRV r true (Rd.weakR r)),[],[]):=
 zcv k k.eWeak (le' rfl) rfl (zrt C k.calm _ (Ev.call C (n + r.events.length + 16)) r k.dfWeak (fun H F is h => headL k hbig n H F is h) (fun hv => by
  have h2:=heightsL k ((Rd.valid_iff r).1 hv) (n+3)
  rw[show n+3+r.events.length+14=n+r.events.length+17 by omega] at h2
  exact h2) (fun hv G xb mb eb hG hX=>alwaysL k _ G _))
end
end Ro
def af6:AFunc:=⟨214,[.tmp 4],Zq [Zo 0 2 (.box (Zt 0)),Zo 1 4 (.mov (.val (.bool false)))] (.seq (Zq [Zo 0 27 (.load (some 4) (Zt 2)),Zo 1 28 (Zc 29 [Zt 27,.val .nils])] (.cond (Zt 28) (Zq [Zo 0 29 (Zc 13 []),Zm 1 4 29] .ret) .skip)) (Zq [Zo 0 30 (.fieldA 2 (Zt 2)),Zl 1 31 30,Zo 2 32 (.min [Zn 4,Zt 31]),Zo 3 33 (.max [Zn 1,Zt 32]),Zo 4 34 (.fieldA 3 (Zt 2)),Zl 5 35 34,Zo 6 36 (.build [.nils,.nils,Zi 0,.nils] [(2,(1,Zt 33)),(3,(1,Zt 35))]),Zm 7 37 1,Zo 8 38 (Zc 35 [Zt 36,Zt 37]),Zm 9 5 38] (Zq [Zo 0 40 (.load (some 4) (Zt 2)),Zm 1 41 5,Zo 2 42 (Zc 14 [Zt 40,Zt 41]),Zm 3 39 42,Zo 4 43 (.extract (Zt 39) 0),Zo 5 44 (.extract (Zt 39) 1),Zo 6 45 (.extract (Zt 39) 2),Zm 7 6 43,Zm 8 7 44,Zm 9 8 45] (.seq (Zq [Zo 0 46 (.load (some 4) (Zt 2)),Zo 1 47 (Zc 30 [Zt 46]),Zo 2 48 (.not (Zt 47))] (.cond (Zt 48) (Zq [Zm 0 49 8,Zo 1 50 (.bin .eql (Zt 49) (Zn 1)),Zm 2 51 50,⟨3,some 52,.mov (Zt 6),some (51,true),0⟩,⟨4,some 53,.bin .eql (Zt 52) (Zn 0),some (51,true),0⟩,Zo 5 54 (.pick (Zt 51) (Zt 53) (.val (.bool false))),Zm 6 55 54,⟨7,some 56,.mov (Zt 7),some (55,true),0⟩,⟨8,some 57,.bin .eql (Zt 56) (Zn 0),some (55,true),0⟩,Zo 9 58 (.pick (Zt 55) (Zt 57) (.val (.bool false))),Zm 10 59 58,⟨11,some 60,Zc 13 [],some (59,true),0⟩,Zo 12 61 (.pick (Zt 59) (Zt 60) (.val (.bool false))),Zm 13 4 61] .ret) .skip)) (.seq (.draw [Zo 0 63 (.load (some 4) (Zt 2)),Zo 1 64 (.buildSl 1 0 [Zi 0] []),Zm 2 65 5,Zo 4 67 (.buildSl 1 1 [Zi 0] [(0,Zn 0)]),Zd 3 66 6 (.append 1 (Zt 64) (Zt 65)),Zd 5 68 30 (.append 1 (Zt 66) (Zt 67)),Zd 6 69 63 (Zc 14 [Zt 63,Zt 68]),Zd 7 62 127 (.mov (Zt 69)),Zd 8 70 255 (.extract (Zt 62) 0),Zd 9 71 255 (.extract (Zt 62) 1),Zd 10 72 255 (.extract (Zt 62) 2),Zd 11 9 511 (.mov (Zt 70)),Zd 12 10 3071 (.mov (Zt 71)),Zd 13 11 8191 (.mov (Zt 72))]) (.seq (Zq [Zm 0 73 11,Zo 1 74 (.bin .neq (Zt 73) (Zn 2))] (.cond (Zt 74) (Zq [Zo 0 4 (.mov (.val (.bool false)))] .ret) .skip)) (.seq (Zq [Zm 0 75 5,Zo 1 76 (.len (Zt 75)),Zo 2 77 (.bin .gtr (Zt 76) (Zn 0))] (.cond (Zt 77) (.seq (.draw [Zo 0 79 (.load (some 4) (Zt 2)),Zo 1 80 (.buildSl 1 0 [Zi 0] []),Zm 2 81 5,Zd 3 82 4 (.slice 1 (Zt 81) (some (Zn 1)) none),Zo 5 84 (.fieldA 2 (Zt 2)),Zd 6 85 32 (.load none (Zt 84)),Zd 7 86 96 (.buildSl 1 1 [Zi 0] [(0,Zt 85)]),Zd 4 83 14 (.append 1 (Zt 80) (Zt 82)),Zd 8 87 254 (.append 1 (Zt 83) (Zt 86)),Zd 9 88 511 (Zc 14 [Zt 79,Zt 87]),Zd 10 78 1023 (.mov (Zt 88)),Zd 11 89 2047 (.extract (Zt 78) 0),Zd 12 90 2047 (.extract (Zt 78) 1),Zd 13 91 2047 (.extract (Zt 78) 2),Zd 14 12 4095 (.mov (Zt 89)),Zd 15 13 24575 (.mov (Zt 90)),Zd 16 14 65535 (.mov (Zt 91))]) (.seq (.draw [Zo 0 93 (.load (some 4) (Zt 2)),Zo 1 94 (.buildSl 1 0 [Zi 0] []),Zm 2 95 5,Zd 3 96 4 (.slice 1 (Zt 95) (some (Zn 1)) none),Zo 5 98 (.buildSl 1 1 [Zi 0] [(0,Zn (-2))]),Zd 4 97 14 (.append 1 (Zt 94) (Zt 96)),Zd 6 99 62 (.append 1 (Zt 97) (Zt 98)),Zd 7 100 127 (Zc 14 [Zt 93,Zt 99]),Zd 8 92 255 (.mov (Zt 100)),Zd 9 101 511 (.extract (Zt 92) 0),Zd 10 102 511 (.extract (Zt 92) 1),Zd 11 103 511 (.extract (Zt 92) 2),Zd 12 15 1023 (.mov (Zt 101)),Zd 13 16 6143 (.mov (Zt 102)),Zd 14 17 16383 (.mov (Zt 103))]) (Zq [Zm 0 104 14,Zo 1 105 (.bin .neq (Zt 104) (Zn 2)),Zm 2 106 105,⟨3,some 107,.mov (Zt 17),some (106,false),0⟩,⟨4,some 108,.mov (Zt 14),some (106,false),0⟩,⟨5,some 109,.bin .neq (Zt 107) (Zt 108),some (106,false),0⟩,Zo 6 110 (.pick (Zt 106) (.val (.bool true)) (Zt 109))] (.cond (Zt 110) (Zq [Zo 0 4 (.mov (.val (.bool false)))] .ret) .skip)))) .skip)) (Zq [Zo 0 111 (.fieldA 0 (Zt 2)),Zo 1 112 (.load (some 2) (Zt 111)),Zo 2 18 (.alloc [.nils,.nils]),Zs 3 (.store 2 (Zt 18) (Zt 112))] (Zq [Zo 0 113 (.buildSl 7 0 [Zi 0,Zi 0,Zi 0,Zi 0,Zi 0,Zi 0,Zi 0] []),Zo 1 114 (.fieldA 0 (Zt 2)),Zo 2 115 (.fieldA 1 (Zt 114)),Zl 3 116 115,Zo 4 117 (.append 7 (Zt 113) (Zt 116)),Zo 5 118 (.fieldA 1 (Zt 18)),Zs 6 (.store 1 (Zt 118) (Zt 117))] (Zq [Zo 0 19 (.mov (Zn 0))] (.seq (Zq [Zo 0 119 (.fieldA 2 (Zt 2)),Zl 1 120 119,Zo 2 121 (.mov (Zn 0))] (.block 0 (.loop [2,5,6,7,8,18,19,120,121] (Zq [Zo 0 122 (.bin .lss (Zt 121) (Zt 120))] (.seq (.cond (Zt 122) .skip (.exit 0)) (.seq (.block 1 (Zq [Zm 0 123 121,Zm 1 20 123] (Zq [Zm 0 124 5,Zo 1 125 (.len (Zt 124)),Zo 2 126 (.mov (Zn 0))] (.block 2 (.loop [2,5,6,7,8,18,19,20,120,121,124,125,126] (Zq [Zo 0 127 (.bin .lss (Zt 126) (Zt 125))] (.seq (.cond (Zt 127) .skip (.exit 2)) (.seq (.block 3 (Zq [Zm 0 128 126,Zo 1 129 (.indexA 1 none (Zt 124) (Zt 126)),Zl 2 130 129,Zm 3 21 128,Zm 4 22 130] (.seq (Zq [Zm 0 131 22,Zm 1 132 20,Zo 2 133 (.bin .neq (Zt 131) (Zt 132))] (.cond (Zt 133) (.exit 3) .skip)) (.seq (Zq [Zm 0 134 20,Zm 1 135 19,Zo 2 136 (.bin .gtr (Zt 134) (Zt 135))] (.cond (Zt 136) (.ops [Zo 0 137 (.fieldA 1 (Zt 18)),Zl 1 138 137,Zm 2 139 20,Zm 3 140 19,Zo 4 141 (.bin .sub (Zt 139) (Zt 140)),Zo 5 142 (.build [Zi 0,Zi 0,Zi 0,Zi 0,Zi 0,Zi 0,Zi 0] [(0,(1,Zn 1)),(3,(1,Zt 141))]),Zo 6 143 (.buildSl 7 1 [Zi 0,Zi 0,Zi 0,Zi 0,Zi 0,Zi 0,Zi 0] [(0,Zt 142)]),Zo 7 144 (.append 7 (Zt 138) (Zt 143)),Zm 8 145 20,Zo 9 146 (.fieldA 1 (Zt 18)),Zs 10 (.store 1 (Zt 146) (Zt 144)),Zm 11 19 145]) .skip)) (Zq [Zo 0 147 (.fieldA 3 (Zt 2)),Zl 1 148 147,Zm 2 149 21,Zo 3 150 (.indexA 2 none (Zt 148) (Zt 149)),Zo 4 151 (.fieldA 0 (Zt 150)),Zl 5 152 151,Zm 6 23 152] (Zq [Zo 0 154 (.load (some 2) (Zt 18)),Zm 1 155 23,Zo 2 156 (Zc 36 [Zt 154,Zt 155]),Zm 3 153 156,Zo 4 157 (.extract (Zt 153) 0),Zo 5 158 (.extract (Zt 153) 1),Zm 6 24 157,Zm 7 25 158] (.seq (Zq [Zm 0 159 25,Zo 1 160 (.bin .neq (Zt 159) (Zn 0))] (.cond (Zt 160) (Zq [Zo 0 4 (.mov (.val (.bool false)))] .ret) .skip)) (Zq [Zo 0 26 (.mov (Zn 0))] (.seq (.block 4 (Zq [Zm 0 162 20,Zo 1 163 (.fieldA 3 (Zt 2)),Zl 2 164 163,Zm 3 165 21,Zo 4 166 (.indexA 2 none (Zt 164) (Zt 165)),Zo 5 167 (.fieldA 1 (Zt 166)),Zl 6 168 167,Zo 7 169 (.bin .gtr (Zt 162) (Zt 168)),Zm 8 161 169] (.cond (Zt 161) (.ops [Zo 0 26 (.mov (Zn 1))]) (Zq [Zm 0 171 24,Zo 1 172 (.bin .neq (Zt 171) (Zn 2)),Zm 2 170 172] (.cond (Zt 170) (.ops [Zo 0 26 (.mov (Zn 2))]) .skip))))) (.seq (Zq [Zm 0 173 26,Zo 1 174 (.bin .neq (Zt 173) (Zn 0))] (.cond (Zt 174) (Zq [Zm 0 175 8,Zo 1 176 (.bin .eql (Zt 175) (Zn 0)),Zm 2 177 176,⟨3,some 178,.mov (Zt 6),some (177,true),0⟩,⟨4,some 179,.mov (Zt 21),some (177,true),0⟩,⟨5,some 180,.bin .eql (Zt 178) (Zt 179),some (177,true),0⟩,Zo 6 181 (.pick (Zt 177) (Zt 180) (.val (.bool false))),Zm 7 182 181,⟨8,some 183,.mov (Zt 7),some (182,true),0⟩,⟨9,some 184,.mov (Zt 26),some (182,true),0⟩,⟨10,some 185,.bin .eql (Zt 183) (Zt 184),some (182,true),0⟩,Zo 11 186 (.pick (Zt 182) (Zt 185) (.val (.bool false))),Zm 12 187 186,⟨13,some 188,Zc 13 [],some (187,true),0⟩,Zo 14 189 (.pick (Zt 187) (Zt 188) (.val (.bool false))),Zm 15 4 189] .ret) .skip)) (.draw [Zo 0 190 (.fieldA 1 (Zt 18)),Zd 1 191 1 (.load none (Zt 190)),Zm 2 192 23,Zm 3 193 23,Zd 4 194 12 (Zc 37 [Zt 192,Zt 193]),Zd 5 195 28 (.build [Zi 0,Zi 0,Zi 0,Zi 0,Zi 0,Zi 0,Zi 0] [(0,(1,Zn 0)),(1,(2,Zt 194))]),Zd 6 196 60 (.buildSl 7 1 [Zi 0,Zi 0,Zi 0,Zi 0,Zi 0,Zi 0,Zi 0] [(0,Zt 195)]),Zd 7 197 127 (.append 7 (Zt 191) (Zt 196)),Zd 8 198 255 (.fieldA 1 (Zt 18)),Ze 9 511 (.store 1 (Zt 198) (Zt 197))]))))))))))) (.ops [Zo 0 199 (.bin .add (Zt 126) (Zn 1)),Zm 1 126 199]))))))))) (.ops [Zo 0 200 (.bin .add (Zt 121) (Zn 1)),Zm 1 121 200]))))))) (Zq [Zm 0 201 8,Zo 1 202 (.bin .eql (Zt 201) (Zn 4)),Zm 2 203 202,⟨3,some 204,.mov (Zt 6),some (203,true),0⟩,⟨4,some 205,.bin .eql (Zt 204) (Zn 0),some (203,true),0⟩,Zo 5 206 (.pick (Zt 203) (Zt 205) (.val (.bool false))),Zm 6 207 206,⟨7,some 208,.mov (Zt 7),some (207,true),0⟩,⟨8,some 209,.bin .eql (Zt 208) (Zn 0),some (207,true),0⟩,Zo 9 210 (.pick (Zt 207) (Zt 209) (.val (.bool false))),Zm 10 211 210,⟨11,some 212,Zc 13 [],some (211,true),0⟩,Zo 12 213 (.pick (Zt 211) (Zt 212) (.val (.bool false))),Zm 13 4 213] .ret))))))))))))⟩
def af13:AFunc:=⟨130,[.tmp 0],Zq [Zo 0 0 (.mov (.val (.bool false)))] (Zq [Zo 0 20 (Zc 45 []),Zo 1 21 (.buildSl 1 3 [Zi 0] [(0,Zn 1),(1,Zn 0),(2,Zn 0)]),Zo 2 22 (Zc 14 [Zt 20,Zt 21]),Zm 3 19 22,Zo 4 23 (.extract (Zt 19) 0),Zo 5 24 (.extract (Zt 19) 1),Zo 6 25 (.extract (Zt 19) 2),Zm 7 1 23,Zm 8 2 24,Zm 9 3 25] (Zq [Zo 0 27 (Zc 45 []),Zo 1 28 (Zc 16 [Zt 27]),Zm 2 26 28,Zo 3 29 (.extract (Zt 26) 0),Zo 4 30 (.extract (Zt 26) 1),Zo 5 31 (.extract (Zt 26) 2),Zm 6 4 29,Zm 7 5 30,Zm 8 6 31] (Zq [Zo 0 33 (Zc 46 []),Zo 1 34 (Zc 18 [Zt 33]),Zm 2 32 34,Zo 3 35 (.extract (Zt 32) 0),Zo 4 36 (.extract (Zt 32) 1),Zm 5 7 35,Zm 6 8 36] (Zq [Zo 0 38 (Zc 45 []),Zo 1 39 (Zc 20 [Zt 38,Zn 1]),Zm 2 37 39,Zo 3 40 (.extract (Zt 37) 0),Zo 4 41 (.extract (Zt 37) 1),Zm 5 9 40,Zm 6 10 41] (Zq [Zo 0 43 (Zc 47 []),Zo 1 44 (Zc 23 [Zt 43]),Zm 2 42 44,Zo 3 45 (.extract (Zt 42) 0),Zo 4 46 (.extract (Zt 42) 1),Zm 5 11 45,Zm 6 12 46] (Zq [Zo 0 48 (Zc 45 []),Zo 1 49 (Zc 25 [Zt 48,Zn 0]),Zm 2 47 49,Zo 3 50 (.extract (Zt 47) 0),Zo 4 51 (.extract (Zt 47) 1),Zm 5 13 50,Zm 6 14 51] (Zq [Zo 0 53 (Zc 45 []),Zo 1 54 (.buildSl 1 3 [Zi 0] [(0,Zn (-1)),(1,Zn 0),(2,Zn (-1))]),Zo 2 55 (Zc 27 [Zt 53,Zt 54,Zn 0]),Zm 3 52 55,Zo 4 56 (.extract (Zt 52) 0),Zo 5 57 (.extract (Zt 52) 1),Zm 6 15 56,Zm 7 16 57] (Zq [Zo 0 59 (Zc 45 []),Zo 1 60 (Zc 18 [Zt 59]),Zm 2 58 60,Zo 3 61 (.extract (Zt 58) 0),Zo 4 62 (.extract (Zt 58) 1),Zm 5 17 61,Zm 6 18 62] (Zq [Zm 0 63 1,Zo 1 64 (.bin .eql (Zt 63) (Zn 2)),Zm 2 65 64,⟨3,some 66,.mov (Zt 2),some (65,true),0⟩,⟨4,some 67,.bin .eql (Zt 66) (Zn 2),some (65,true),0⟩,Zo 5 68 (.pick (Zt 65) (Zt 67) (.val (.bool false))),Zm 6 69 68,⟨7,some 70,.mov (Zt 3),some (69,true),0⟩,⟨8,some 71,.bin .eql (Zt 70) (Zn 0),some (69,true),0⟩,Zo 9 72 (.pick (Zt 69) (Zt 71) (.val (.bool false))),Zm 10 73 72,⟨11,some 74,.mov (Zt 4),some (73,true),0⟩,⟨12,some 75,.buildSl 1 3 [Zi 0] [(0,Zn 0),(1,Zn (-1)),(2,Zn 0)],some (73,true),0⟩,⟨13,some 76,Zc 22 [Zt 74,Zt 75],some (73,true),0⟩,Zo 14 77 (.pick (Zt 73) (Zt 76) (.val (.bool false))),Zm 15 78 77,⟨16,some 79,.mov (Zt 5),some (78,true),0⟩,⟨17,some 80,.bin .eql (Zt 79) (Zn 18),some (78,true),0⟩,Zo 18 81 (.pick (Zt 78) (Zt 80) (.val (.bool false))),Zm 19 82 81,⟨20,some 83,.mov (Zt 6),some (82,true),0⟩,⟨21,some 84,.bin .eql (Zt 83) (Zn 0),some (82,true),0⟩,Zo 22 85 (.pick (Zt 82) (Zt 84) (.val (.bool false))),Zm 23 86 85,⟨24,some 87,.mov (Zt 7),some (86,true),0⟩,⟨25,some 88,.bin .eql (Zt 87) (Zn 0),some (86,true),0⟩,Zo 26 89 (.pick (Zt 86) (Zt 88) (.val (.bool false))),Zm 27 90 89,⟨28,some 91,.mov (Zt 8),some (90,true),0⟩,⟨29,some 92,.bin .eql (Zt 91) (Zn 0),some (90,true),0⟩,Zo 30 93 (.pick (Zt 90) (Zt 92) (.val (.bool false))),Zm 31 94 93,⟨32,some 95,.mov (Zt 9),some (94,true),0⟩,⟨33,some 96,.bin .eql (Zt 95) (Zn 0),some (94,true),0⟩,Zo 34 97 (.pick (Zt 94) (Zt 96) (.val (.bool false))),Zm 35 98 97,⟨36,some 99,.mov (Zt 10),some (98,true),0⟩,⟨37,some 100,.bin .eql (Zt 99) (Zn 0),some (98,true),0⟩,Zo 38 101 (.pick (Zt 98) (Zt 100) (.val (.bool false))),Zm 39 102 101,⟨40,some 103,.mov (Zt 11),some (102,true),0⟩,⟨41,some 104,.bin .eql (Zt 103) (Zn 1),some (102,true),0⟩,Zo 42 105 (.pick (Zt 102) (Zt 104) (.val (.bool false))),Zm 43 106 105,⟨44,some 107,.mov (Zt 12),some (106,true),0⟩,⟨45,some 108,.bin .eql (Zt 107) (Zn 0),some (106,true),0⟩,Zo 46 109 (.pick (Zt 106) (Zt 108) (.val (.bool false))),Zm 47 110 109,⟨48,some 111,.mov (Zt 13),some (110,true),0⟩,⟨49,some 112,.bin .eql (Zt 111) (Zn 6),some (110,true),0⟩,Zo 50 113 (.pick (Zt 110) (Zt 112) (.val (.bool false))),Zm 51 114 113,⟨52,some 115,.mov (Zt 14),some (114,true),0⟩,⟨53,some 116,.bin .eql (Zt 115) (Zn 0),some (114,true),0⟩,Zo 54 117 (.pick (Zt 114) (Zt 116) (.val (.bool false))),Zm 55 118 117,⟨56,some 119,.mov (Zt 15),some (118,true),0⟩,⟨57,some 120,.bin .eql (Zt 119) (Zn 6),some (118,true),0⟩,Zo 58 121 (.pick (Zt 118) (Zt 120) (.val (.bool false))),Zm 59 122 121,⟨60,some 123,.mov (Zt 16),some (122,true),0⟩,⟨61,some 124,.bin .eql (Zt 123) (Zn 0),some (122,true),0⟩,Zo 62 125 (.pick (Zt 122) (Zt 124) (.val (.bool false))),Zm 63 126 125,⟨64,some 127,.mov (Zt 18),some (126,true),0⟩,⟨65,some 128,.bin .eql (Zt 127) (Zn 4),some (126,true),0⟩,Zo 66 129 (.pick (Zt 126) (Zt 128) (.val (.bool false))),Zm 67 0 129] .ret)))))))))⟩
def af29:AFunc:=⟨20,[.tmp 4],Zq [Zo 0 2 (.box (Zt 0)),Zo 1 4 (.mov (.val (.bool false)))] (Zq [Zo 0 5 (.fieldA 0 (Zt 2)),Zo 1 6 (.fieldA 0 (Zt 5)),Zl 2 7 6,Zo 3 8 (.len (Zt 7)),Zo 4 9 (.fieldA 0 (Zt 2)),Zo 5 10 (.fieldA 1 (Zt 9)),Zl 6 11 10,Zo 7 12 (.len (Zt 11)),Zo 8 13 (.fieldA 3 (Zt 2)),Zl 9 14 13,Zo 10 15 (.len (Zt 14)),Zm 11 16 1,Zo 12 17 (.len (Zt 16)),Zo 13 18 (.max [Zt 8,Zt 12,Zt 15,Zt 17]),Zo 14 19 (.bin .gtr (Zt 18) (Zn 40)),Zm 15 4 19] .ret)⟩
def af35:AFunc:=⟨35,[.tmp 4],Zq [Zo 0 2 (.box (Zt 0)),Zo 1 4 (.mov (.val .nils))] (.seq (Zq [Zo 0 7 (.fieldA 3 (Zt 2)),Zl 1 8 7,Zo 2 9 (.len (Zt 8)),Zo 3 10 (.mov (Zn 0))] (.block 0 (.loop [1,2,4,9,10] (Zq [Zo 0 11 (.bin .lss (Zt 10) (Zt 9))] (.seq (.cond (Zt 11) .skip (.exit 0)) (.seq (.block 1 (Zq [Zm 0 12 10,Zm 1 5 12] (Zq [Zo 0 6 (.mov (Zn 0))] (.seq (Zq [Zm 0 13 1,Zo 1 14 (.len (Zt 13)),Zo 2 15 (.bin .gtr (Zt 14) (Zn 0))] (.cond (Zt 15) (.ops [Zm 0 16 1,Zm 1 17 5,Zm 2 18 1,Zo 3 19 (.len (Zt 18)),Zo 4 20 (.bin .rem (Zt 17) (Zt 19)),Zo 5 21 (.indexA 1 none (Zt 16) (Zt 20)),Zl 6 22 21,Zo 7 23 (.conv .i64 (Zt 22)),Zm 8 6 23]) .skip)) (.ops [Zm 0 24 4,Zm 1 25 6,Zo 2 26 (.fieldA 2 (Zt 2)),Zl 3 27 26,Zo 4 28 (.bin .add (Zt 27) (Zn 1)),Zo 5 29 (.bin .rem (Zt 25) (Zt 28)),Zo 6 30 (.bin .sub (Zt 29) (Zn 1)),Zo 7 31 (.buildSl 1 1 [Zi 0] [(0,Zt 30)]),Zo 8 32 (.append 1 (Zt 24) (Zt 31)),Zm 9 4 32]))))) (.ops [Zo 0 33 (.bin .add (Zt 10) (Zn 1)),Zm 1 10 33]))))))) (Zq [Zm 0 34 4,Zm 1 4 34] .ret))⟩
def af37:AFunc:=⟨8,[.cell 4 (some 2)],Zq [Zo 0 4 (.alloc [Zi 0,Zi 0])] (Zq [Zm 0 5 0,Zm 1 6 1,Zo 2 7 (.build [Zi 0,Zi 0] [(0,(1,Zt 5)),(1,(1,Zt 6))]),Zs 3 (.store 2 (Zt 4) (Zt 7))] .ret)⟩
def af45:AFunc:=⟨6,[.cell 0 (some 4)],Zq [Zo 0 0 (.alloc [.nils,.nils,Zi 0,.nils])] (Zq [Zo 0 1 (.build [Zi 0,Zi 0] [(0,(1,Zn 6)),(1,(1,Zn 1))]),Zo 1 2 (.build [Zi 0,Zi 0] [(0,(1,Zn 10)),(1,(1,Zn 3))]),Zo 2 3 (.build [Zi 0,Zi 0] [(0,(1,Zn 12))]),Zo 3 4 (.buildSl 2 3 [Zi 0,Zi 0] [(0,Zt 1),(1,Zt 2),(2,Zt 3)]),Zo 4 5 (Zc 111 [Zt 4]),Zs 5 (.store 4 (Zt 0) (Zt 5))] .ret)⟩
def af46:AFunc:=⟨5,[.cell 0 (some 4)],Zq [Zo 0 0 (.alloc [.nils,.nils,Zi 0,.nils])] (Zq [Zo 0 1 (Zc 45 []),Zo 1 2 (.fieldV 3 none (Zt 1)),Zo 2 3 (.slice 2 (Zt 2) none (some (Zn 2))),Zo 3 4 (Zc 111 [Zt 3]),Zs 4 (.store 4 (Zt 0) (Zt 4))] .ret)⟩
def af47:AFunc:=⟨4,[.cell 0 (some 4)],Zq [Zo 0 0 (.alloc [.nils,.nils,Zi 0,.nils])] (Zq [Zo 0 1 (.build [Zi 0,Zi 0] [(0,(1,Zn 40)),(1,(1,Zn 3))]),Zo 1 2 (.buildSl 2 1 [Zi 0,Zi 0] [(0,Zt 1)]),Zo 2 3 (Zc 111 [Zt 2]),Zs 3 (.store 4 (Zt 0) (Zt 3))] .ret)⟩
def af111:AFunc:=⟨6,[.cell 2 (some 4)],Zq [Zo 0 2 (.alloc [.nils,.nils,Zi 0,.nils])] (Zq [Zo 0 3 (Zc 144 []),Zm 1 4 0,Zo 2 5 (.build [.nils,.nils,Zi 0,.nils] [(0,(2,Zt 3)),(2,(1,Zn 4)),(3,(1,Zt 4))]),Zs 3 (.store 4 (Zt 2) (Zt 5))] .ret)⟩
def af144:AFunc:=⟨15,[.cell 0 (some 2)],Zq [Zo 0 0 (.alloc [.nils,.nils])] (Zq [Zo 0 1 (Zc 37 [Zn 10,Zn 11]),Zo 1 2 (Zc 37 [Zn 2,Zn 2]),Zo 2 3 (Zc 37 [Zn 1,Zn 1]),Zo 3 4 (.build [Zi 0,Zi 0,Zi 0,Zi 0,Zi 0,Zi 0,Zi 0] [(0,(2,Zt 1)),(2,(2,Zt 2)),(4,(2,Zt 3)),(6,(1,Zn 12))]),Zo 4 5 (Zc 37 [Zn 8,Zn 8]),Zo 5 6 (Zc 37 [Zn 3,Zn 4]),Zo 6 7 (Zc 37 [Zn 0,Zn 1]),Zo 7 8 (.build [Zi 0,Zi 0,Zi 0,Zi 0,Zi 0,Zi 0,Zi 0] [(0,(2,Zt 5)),(2,(2,Zt 6)),(4,(2,Zt 7)),(6,(1,Zn 9))]),Zo 8 9 (.buildSl 7 2 [Zi 0,Zi 0,Zi 0,Zi 0,Zi 0,Zi 0,Zi 0] [(0,Zt 4),(1,Zt 8)]),Zo 9 10 (Zc 37 [Zn 6,Zn 6]),Zo 10 11 (.build [Zi 0,Zi 0,Zi 0,Zi 0,Zi 0,Zi 0,Zi 0] [(0,(1,Zn 0)),(1,(2,Zt 10))]),Zo 11 12 (.build [Zi 0,Zi 0,Zi 0,Zi 0,Zi 0,Zi 0,Zi 0] [(0,(1,Zn 1)),(3,(1,Zn 2))]),Zo 12 13 (.buildSl 7 2 [Zi 0,Zi 0,Zi 0,Zi 0,Zi 0,Zi 0,Zi 0] [(0,Zt 11),(1,Zt 12)]),Zo 13 14 (.build [.nils,.nils] [(0,(1,Zt 9)),(1,(1,Zt 13))]),Zs 14 (.store 2 (Zt 0) (Zt 14))] .ret)⟩
namespace Ro
open K
attribute [local simp] ev1 wantG spineK spine float xnew xval xeff zab zae zau zah zai addFl cellsOf pickC alive slLen slFt binI maxA maxK minA minK aeqK aeqS AV.cells spA zad fillA setAt bitsI nat_nn zav AV.plain apart
set_option maxRecDepth 100000
set_option maxHeartbeats 4000000
def i64n (n:Int):Prop:=-9223372036854775808≤n∧n≤9223372036854775807
def planV (l:Ld.Lo):AV:=.tup [.vs 1 (ints (if Ld.valid l=true then (Ld.planR l).1 else [])),.int .i64 (if Ld.valid l=true then (Ld.planR l).2 else 0),.int .i64 (errL l true)]
structure LApi (call:CallF):Prop where
 check:∀ {H v pv l p},loadOf H v=some l→plnOf H pv=some p→call (.fn (.func 14) [] []) [v,pv] H=some (.ret (checkRV l p),H,[])
 plan:∀ {H v l},loadOf H v=some l→call (.fn (.func 16) [] []) [v] H=some (.ret (planV l),H,[])
 all:∀ {H v l},loadOf H v=some l→call (.fn (.func 18) [] []) [v] H=some (.ret (allRV l),H,[])
 alone:∀ {H v l},loadOf H v=some l→∀ i,i64n i→call (.fn (.func 20) [] []) [v,.int .i64 i] H=some (.ret (aloneRV l i),H,[])
 never:∀ {H v l},loadOf H v=some l→call (.fn (.func 23) [] []) [v] H=some (.ret (neverRV l),H,[])
 with_:∀ {H v l},loadOf H v=some l→∀ i,i64n i→call (.fn (.func 25) [] []) [v,.int .i64 i] H=some (.ret (withRV l i),H,[])
 more:∀ {H v pv l p},loadOf H v=some l→plnOf H pv=some p→l.carts≠[]→∀ d,i64n d→call (.fn (.func 27) [] []) [v,pv,.int .i64 d] H=some (.ret (moreRV l p d),H,[])
 bears:∀ {H v r},roadOf H v=some r→∀ n,i64n n→call (.fn (.func 36) [] []) [v,.int .i64 n] H=some (.ret (numRV r (Rd.isLoad n) (Rd.bearsR r n)),H,[])
 valid:∀ {H v l},loadOf H v=some l→call (.fn (.func 30) [] []) [v] H=some (.ret (.bool (Ld.valid l)),H,[])
 alive:∀ {H},call (.fn (.func 13) [] []) [] H=some (.ret (.bool true),H,[])
 long:∀ {H} (l:Ld.Lo),call (.fn (.func 29) [] []) [.agg (loadCs l),.nils] H=some (.ret (.bool (decide (40<max l.road.parts.length (max l.road.events.length l.carts.length)))),H,[])
def Yes (fn:AFunc)(C:Cfg)(e:AExit)(st:St):Prop:=Ends C 0 fn.res (fun v _ _=>v=.bool true) e st
theorem zya (C:Cfg)(call:CallF)(l:Ld.Lo)(H:List AB):Wb C call H af29 [.agg (loadCs l),.nils]
  (fun v _hp tc=>v=.bool (decide (40<max l.road.parts.length (max l.road.events.length l.carts.length)))∧tc=[]):=by
 have e:decide ((40:Int)<max (max (max (l.road.parts.length:Int) (l.road.events.length:Int)) (l.carts.length:Int)) 0)=decide (40<max l.road.parts.length (max l.road.events.length l.carts.length)):=by congr 1;simp;omega
 rw[← e]
 unfold Wb Wa af29 Zq Zm Zl Zo Zt Zn
 simp only[zipI,loadCs]
 refine gA ?_
 exact zac (v:=.bool (decide ((40:Int)<max (max (max (l.road.parts.length:Int) (l.road.events.length:Int)) (l.carts.length:Int)) 0))) (.inl rfl) rfl (by simp) endvP ⟨rfl,by simp⟩
end Ro
end Ev
namespace Ld
theorem vl_of {l:Lo}(h:valid l=true):Vl l∧(1≤l.days∧l.days≤4)∧l.carts.length≤4∧∀ c∈l.carts,(0≤c.load∧c.load≤60)∧0≤c.due∧c.due<l.days:=by
 unfold valid at h
 simp only[Bool.and_eq_true,decide_eq_true_eq,List.all_eq_true,okCart,isDay] at h
 obtain ⟨⟨⟨⟨h1,h2⟩,h3⟩,h4⟩,h5⟩:=h
 have hv:Rd.valid l.road=true∧Rd.canR l.road (Rd.everyR l.road)=true:=by
  unfold Rd.errR at h1
  by_cases a:Rd.valid l.road=true
  ·rw[a] at h1
   by_cases b:Rd.canR l.road (Rd.everyR l.road)=true
   ·exact ⟨a,b⟩
   ·simp[b] at h1
  ·simp[a] at h1
 refine ⟨⟨(Rd.valid_iff _).1 hv.1,hv.2,h2,by omega,fun i hi=>?_⟩,h3,h4,h5⟩
 refine (h5 _ ?_).1
 rw[List.getD_eq_getElem?_getD,List.getElem?_eq_getElem hi]
 exact List.getElem_mem _
end Ld
namespace Ev
namespace Ro
open K
set_option maxRecDepth 100000
set_option maxHeartbeats 4000000
def PnAt (H:List AB)(v:AV)(p:List Int):Prop:=∀ K,plnOf (H++K) v=some p
theorem ylb (H:List AB):PnAt H .nils []:=fun K=>yit (ylc _) (by simp)
theorem yju {H:List AB}{b n:Nat}{p:List Int}(h:H[b]?=some (.cells (ints p)))(hn:n=p.length)(hl:p.length≤50):PnAt H (.sl b 0 n 1) p:=fun K=>yit (yjv (by rw[List.getElem?_append_left (get_lt h)];exact h) hn) hl
theorem ylm {H:List AB}{p:List Int}{v:AV}(h:LsB H p v)(hl:p.length≤50):PnAt H v p:=by
 rcases h with ⟨rfl,rfl⟩|⟨b,rfl,h⟩
 ·exact ylb H
 ·exact yju h rfl hl
end Ro
end Ev
namespace Ld
def madeAt (d:Int)(B:List Int)(i:Nat):Int:=(if B=[] then 0 else B.getD (i % B.length) 0) % (d+1) - 1
def madeL (d:Int)(n:Nat)(B:List Int):List Int:=(List.range n).map (madeAt d B)
theorem madeL_succ (d:Int)(n:Nat)(B:List Int):madeL d (n+1) B=madeL d n B++[madeAt d B n]:=by unfold madeL;rw[List.range_succ,List.map_append];rfl
theorem madeL_len (d:Int)(n:Nat)(B:List Int):(madeL d n B).length=n:=by simp[madeL]
theorem madeAt_bd {d:Int}(h:0≤d)(B:List Int)(i:Nat):-1≤madeAt d B i∧madeAt d B i<d:=by
 unfold madeAt
 generalize (if B=[] then 0 else B.getD (i % B.length) 0)=x
 have h1:=Int.emod_nonneg x (show d+1≠0 by omega)
 have h2:=Int.emod_lt_of_pos x (show 0<d+1 by omega)
 omega
theorem made_plan {l:Lo}(h0:0≤l.days)(B:List Int):isPlan l (madeL l.days l.carts.length B)=true:=by
 unfold isPlan
 simp only[Bool.and_eq_true,decide_eq_true_eq,List.all_eq_true]
 refine ⟨madeL_len _ _ _,fun x hx=>?_⟩
 obtain ⟨i,_,rfl⟩:=List.mem_map.1 hx
 have:=madeAt_bd h0 B i
 unfold isDay
 rw[Bool.or_eq_true,decide_eq_true_eq,decide_eq_true_eq]
 omega
end Ld
namespace Ev
namespace Ro
open K
attribute [local simp] ev1 wantG spineK spine float xnew xval xeff zab zae zau zah zai addFl cellsOf pickC alive slLen slFt binI maxA maxK minA minK aeqK aeqS AV.cells spA zad fillA setAt bitsI nat_nn zav AV.plain apart
set_option maxRecDepth 100000
set_option maxHeartbeats 4000000
inductive CvL (H:List AB) (n:Nat):AV→Prop
 |vs (es:List AV):es.length=n→CvL H n (.vs 2 es)
 |sl (b:Nat) (cs:List AV):H[b]?=some (.cells cs)→CvL H n (.sl b 0 n 2)
def u8s (B:List Int):AV:=.vs 1 (B.map (AV.int .u8))
def MadeC (call:CallF):Prop:=∀ (H:List AB) (pv wv cv:AV) (d:Int) (n:Nat) (B:List Int),CvL H n cv→1≤d→d≤1000→n≤1000→(∀ x∈B,0≤x∧x≤255)→∃ H' v,call (.fn (.func 35) [] []) [.agg [pv,wv,.int .i64 d,cv],u8s B] H=some (.ret v,H',[])∧Kp [] H H'∧LsO H.length H' (Ld.madeL d n B) v
theorem ylf (C:Cfg)(hC:C.calm=true)(call:CallF)(H:List AB)(pv wv cv:AV)(d:Int)(n:Nat)(B:List Int)(hcv:CvL H n cv)(d0:1≤d)(d1:d≤1000)(hn:n≤1000)(hB:∀ x∈B,0≤x∧x≤255):
  Wb C call H af35 [.agg [pv,wv,.int .i64 d,cv],u8s B]
   (fun v hp tc=>LsO H.length hp (Ld.madeL d n B) v∧tc=[]):=by
 have hml:(B.map (AV.int .u8)).length=B.length:=by simp
 have hw1:IntKind.i64.wrap (d+1)=d+1:=zaf (by omega) (by omega)
 have hd1:¬ (d+1=0):=by omega
 have HB:=hideP (And.intro hB d0)
 clear hB
 have hcv2:(∃ es:List AV,cv=.vs 2 es∧es.length=n)∨∃ b cs,cv=.sl b 0 n 2∧H[b]?=some (.cells cs):=by
  cases hcv with
  |vs es h=>exact .inl ⟨es,rfl,h⟩
  |sl b cs h=>exact .inr ⟨b,cs,rfl,h⟩
 clear hcv
 unfold Wb Wa af35 Zq Zm Zl Zo Zt Zn Zi
 simp only[zipI,u8s] at *
 have hcvx:∃ cw,cw=cv:=⟨_,rfl⟩
 obtain ⟨cw,hcw⟩:=hcvx
 rcases hcv2 with ⟨es,hes,hesl⟩|⟨b,cs0,hes,hb⟩
 case' inl=>
  subst hes
  (repeat (first|(with_reducible apply zak;(focus ((conv=>lhs;simp[*,Nat.testBit_eq_decide_div_mod_eq])<;>exact rfl));simp only[addFl])|((with_reducible first|apply zaw|apply zay|apply zas|apply zaq|apply zao|apply zax|apply zar|apply zaz|(apply zap;· simp[*,zab])|(apply zam;· simp[*,zab]));try simp only[Then,Ops])|simp only[Nat.reduceEqDiff,reduceIte,OutB,Then]))
  clear hesl
 case' inr=>
  obtain ⟨z0,z1,z2,z3,z4,z5⟩:=bk' hb
  subst hes
  (repeat (first|(with_reducible apply zak;(focus ((conv=>lhs;simp[*,Nat.testBit_eq_decide_div_mod_eq])<;>exact rfl));simp only[addFl])|((with_reducible first|apply zaw|apply zay|apply zas|apply zaq|apply zao|apply zax|apply zar|apply zaz|(apply zap;· simp[*,zab])|(apply zam;· simp[*,zab]));try simp only[Then,Ops])|simp only[Nat.reduceEqDiff,reduceIte,OutB,Then]))
  clear z0 z1 z2 z3 z4 z5 hb
 all_goals
  rw[← hcw] at *
  clear hcw
  skip
  with_reducible refine zan hC n (by unfold fuelL;omega) (fun i st=>∃ lv hp,LsO (H.length+1) hp (Ld.madeL d i B) lv∧Kp [] (H++[.cells [pv,wv,.int .i64 d,cw]]) hp∧st={ tm:=tmA 35 [(10,.int .i64 i),(9,.int .i64 n),(4,lv),(2,.ptr H.length 0),(1,.vs 1 (B.map (AV.int .u8)))],df:=[],hp:=hp,tc:=[] }) ?_ ?_ ?_
  ·refine ⟨.nils,_,.inl ⟨rfl,rfl⟩,Kp.refl _ _,?_⟩
   exact invP
  ·rintro i st hi ⟨lv,hp,hL,hK,rfl⟩
   obtain ⟨hB,d0⟩:=HB.out
   have hb0:hp[H.length]?=some (.cells [pv,wv,.int .i64 d,cw]):=hK.at (by simp) (by simp)
   obtain ⟨y0,y1,y2,y3,y4,y5⟩:=bk' hb0
   have h6:(i:Int)<n:=by omega
   have hw2:IntKind.i64.wrap ((i:Int)+1)=(i:Int)+1:=zaf (by omega) (by omega)
   have hs:=Ld.madeL_succ d i B
   have hlen:=Ld.madeL_len d i B
   have hsi:ints (Ld.madeL d (i+1) B)=ints (Ld.madeL d i B)++[.int .i64 (Ld.madeAt d B i)]:=by rw[hs];simp[ints]
   have hmb:=Ld.madeAt_bd (show 0≤d by omega) B i
   have hkl:=hK.len
   simp only[List.length_append,List.length_cons,List.length_nil] at hkl
   have hb1:1≤bound:=by unfold bound;omega
   have hb2:i+1≤bound:=by unfold bound;omega
   -- what is taken
   obtain ⟨x,hx,hx0,hx1,hmx⟩:∃ x:Int,(if B=[] then 0 else B.getD (i % B.length) 0)=x∧0≤x∧x≤255∧x.tmod (d+1) - 1=Ld.madeAt d B i:=by
    refine ⟨_,rfl,?_⟩
    have hx:0≤(if B=[] then 0 else B.getD (i % B.length) 0)∧(if B=[] then 0 else B.getD (i % B.length) 0)≤255:=by
     split
     ·omega
     ·rename_i hne
      have hlt:=Nat.mod_lt i (List.length_pos_iff.2 hne)
      rw[List.getD_eq_getElem?_getD,List.getElem?_eq_getElem hlt]
      exact hB _ (List.getElem_mem hlt)
    refine ⟨hx.1,hx.2,?_⟩
    unfold Ld.madeAt
    rw[Int.tmod_eq_emod_of_nonneg hx.1]
   have hwm:IntKind.i64.wrap (x.tmod (d+1) - 1)=Ld.madeAt d B i:=by rw[hmx];exact zaf (by omega) (by omega)
   have hwx:IntKind.i64.wrap x=x:=zaf (by omega) (by omega)
   have hmod:B≠[]→(i:Int).tmod (B.length:Int)=((i % B.length:Nat):Int)∧i % B.length<B.length∧B[i % B.length]?=some x:=fun hne=>by
    have hlt:=Nat.mod_lt i (List.length_pos_iff.2 hne)
    refine ⟨by rw[Int.tmod_eq_emod_of_nonneg (by omega)];rfl,hlt,?_⟩
    rw[if_neg hne,List.getD_eq_getElem?_getD,List.getElem?_eq_getElem hlt] at hx
    rw[List.getElem?_eq_getElem hlt,← hx];rfl
   have hnil:B=[]→x=0:=fun h=>by rw[← hx,if_pos h]
   clear hx hB hmb hs hx0 hx1
   have hlen':=Ld.madeL_len d (i+1) B
   by_cases hne:B=[]
   ·obtain rfl:=hnil hne
    have hm1:Ld.madeAt d B i=-1:=by rw[← hwm,Int.zero_tmod];decide
    have hbz:(B.map (AV.int .u8)).length=0:=by rw[hne];rfl
    clear hmod hnil hwm hmx
    have hw0:IntKind.i64.wrap (-1)=-1:=by decide
    rw[hm1] at hsi
    have hmn:B.map (AV.int .u8)=[]:=by rw[hne];rfl
    clear hne hml hm1
    generalize B.map (AV.int .u8)=bl at *
    subst hmn
    simp only[List.length_nil] at *
    rcases hL with ⟨rfl,h0⟩|⟨b1,rfl,h1,h2⟩
    ·have hi0:i=0:=by rw[← hlen,h0];rfl
     have hsj:ints (Ld.madeL d (i+1) B)=[.int .i64 (-1)]:=by rw[hsi,h0];rfl
     have hlj:(Ld.madeL d (i+1) B).length=1:=by rw[hlen',hi0]
     have HH:=hideP (And.intro hK (And.intro hsj hlj))
     clear hK hsi h0 hsj hlen hlen' hlj hi0 hb0
     (repeat (first|(with_reducible apply zak;(focus ((conv=>lhs;simp[*,Nat.testBit_eq_decide_div_mod_eq])<;>exact rfl));simp only[addFl])|((with_reducible first|apply zaw|apply zay|apply zas|apply zaq|apply zao|apply zax|apply zar|apply zaz|(apply zap;· simp[*,zab])|(apply zam;· simp[*,zab]));try simp only[Then,Ops,OutB])|simp only[Nat.reduceEqDiff,reduceIte,OutB,Then]))
     obtain ⟨hK,hsj,hlj⟩:=HH.out
     refine ⟨_,hp++[.cells [.int .i64 (-1)],.cells [.int .i64 (-1)]],.inr ⟨hp.length+1,by rw[hlj],by omega,by rw[hsj];simp⟩,hK.trans (Kp.app _ _),st_is ?_ rfl ?_ rfl⟩
     ·simp[zag,zal]
     ·simp
    ·have hip:=zfn (Ld.madeL d i B)
     have hil:(ints (Ld.madeL d i B)).length=i:=by simp[ints,hlen]
     have hnb:¬ (b1<H.length):=by omega
     obtain ⟨z0,z1,z2,z3,z4,z5⟩:=bk' h2
     have HH:=hideP (And.intro hK (And.intro hsi (And.intro h1 hlen')))
     rw[hlen] at *
     clear hK hsi h2 hlen hlen' hb0
     generalize ints (Ld.madeL d i B)=cs at *
     (repeat (first|(with_reducible apply zak;(focus ((conv=>lhs;simp[*,Nat.testBit_eq_decide_div_mod_eq])<;>exact rfl));simp only[addFl])|((with_reducible first|apply zaw|apply zay|apply zas|apply zaq|apply zao|apply zax|apply zar|apply zaz|(apply zap;· simp[*,zab])|(apply zam;· simp[*,zab]));try simp only[Then,Ops,OutB])|simp only[Nat.reduceEqDiff,reduceIte,OutB,Then]))
     obtain ⟨hK,hsi,h1,hlen'⟩:=HH.out
     refine ⟨_,hp.set b1 .dead++[.cells [.int .i64 (-1)],.cells (cs++[.int .i64 (-1)])],.inr ⟨hp.length+1,by rw[hlen'],by omega,by rw[hsi];simp⟩,?_,st_is ?_ rfl ?_ ?_⟩
     ·refine ⟨by simp;omega,fun j hj _=>?_⟩
      simp only[List.length_append,List.length_cons,List.length_nil] at hj
      rw[List.getElem?_append_left (by simp;omega),List.getElem?_set_ne (by omega)]
      exact hK.get j (by simp;omega) (by simp)
     ·simp[zag,zal]
     ·simp
     ·simp
   ·obtain ⟨hm1,hm2,hm3⟩:=hmod hne
    have hlp:0<B.length:=List.length_pos_iff.2 hne
    have hlp1:(0:Int)<(B.length:Int):=by omega
    have hlp2:¬ ((B.length:Int)=0):=by omega
    have hlp3:¬ (B.length=0):=by omega
    have hwm2:IntKind.i64.wrap (Ld.madeAt d B i)=Ld.madeAt d B i:=by rw[hmx] at hwm;exact hwm
    have hmm:(((i % B.length:Nat):Int)<(B.length:Int)):=by omega
    have hg:(B.map (AV.int .u8))[i % B.length]?=some (.int .u8 x):=by rw[List.getElem?_map,hm3];rfl
    have hg':=ge_of hg
    generalize Ld.madeAt d B i=m at *
    generalize B.map (AV.int .u8)=bl at *
    generalize i % B.length=q at *
    generalize B.length=bn at *
    clear hne hnil hm3 hmod
    rcases hL with ⟨rfl,h0⟩|⟨b1,rfl,h1,h2⟩
    ·have hi0:i=0:=by rw[← hlen,h0];rfl
     have hsj:ints (Ld.madeL d (i+1) B)=[.int .i64 m]:=by rw[hsi,h0];rfl
     have hlj:(Ld.madeL d (i+1) B).length=1:=by rw[hlen',hi0]
     have HH:=hideP (And.intro hK (And.intro hsj hlj))
     clear hK hsi h0 hsj hlen hlen' hlj hi0 hb0
     (repeat (first|(with_reducible apply zak;(focus ((conv=>lhs;simp[*,Nat.testBit_eq_decide_div_mod_eq])<;>exact rfl));simp only[addFl])|((with_reducible first|apply zaw|apply zay|apply zas|apply zaq|apply zao|apply zax|apply zar|apply zaz|(apply zap;· simp[*,zab])|(apply zam;· simp[*,zab]));try simp only[Then,Ops,OutB])|simp only[Nat.reduceEqDiff,reduceIte,OutB,Then]))
     obtain ⟨hK,hsj,hlj⟩:=HH.out
     refine ⟨_,hp++[.cells [.int .i64 m],.cells [.int .i64 m]],.inr ⟨hp.length+1,by rw[hlj],by omega,by rw[hsj];simp⟩,hK.trans (Kp.app _ _),st_is ?_ rfl ?_ rfl⟩
     ·simp[zag,zal]
     ·simp
    ·have hip:=zfn (Ld.madeL d i B)
     have hil:(ints (Ld.madeL d i B)).length=i:=by simp[ints,hlen]
     have hnb:¬ (b1<H.length):=by omega
     obtain ⟨z0,z1,z2,z3,z4,z5⟩:=bk' h2
     have HH:=hideP (And.intro hK (And.intro hsi (And.intro h1 hlen')))
     rw[hlen] at *
     clear hK hsi h2 hlen hlen' hb0
     generalize ints (Ld.madeL d i B)=cs at *
     (repeat (first|(with_reducible apply zak;(focus ((conv=>lhs;simp[*,Nat.testBit_eq_decide_div_mod_eq])<;>exact rfl));simp only[addFl])|((with_reducible first|apply zaw|apply zay|apply zas|apply zaq|apply zao|apply zax|apply zar|apply zaz|(apply zap;· simp[*,zab])|(apply zam;· simp[*,zab]));try simp only[Then,Ops,OutB])|simp only[Nat.reduceEqDiff,reduceIte,OutB,Then]))
     obtain ⟨hK,hsi,h1,hlen'⟩:=HH.out
     refine ⟨_,hp.set b1 .dead++[.cells [.int .i64 m],.cells (cs++[.int .i64 m])],.inr ⟨hp.length+1,by rw[hlen'],by omega,by rw[hsi];simp⟩,?_,st_is ?_ rfl ?_ ?_⟩
     ·refine ⟨by simp;omega,fun j hj _=>?_⟩
      simp only[List.length_append,List.length_cons,List.length_nil] at hj
      rw[List.getElem?_append_left (by simp;omega),List.getElem?_set_ne (by omega)]
      exact hK.get j (by simp;omega) (by simp)
     ·simp[zag,zal]
     ·simp
     ·simp
  ·rintro st ⟨lv,hp,hL,hK,rfl⟩
   have hkl:=hK.len
   simp only[List.length_append,List.length_cons,List.length_nil] at hkl
   have HH:=hideP hL
   have hisl:IsSl lv:=by rcases hL with ⟨rfl,_⟩|⟨b,rfl,_⟩<;>constructor
   clear hL hK
   cases hisl
   all_goals
    (repeat (first|(with_reducible apply zak;(focus ((conv=>lhs;simp[*,Nat.testBit_eq_decide_div_mod_eq])<;>exact rfl));simp only[addFl])|((with_reducible first|apply zaw|apply zay|apply zas|apply zaq|apply zao|apply zax|apply zar|apply zaz|(apply zap;· simp[*,zab])|(apply zam;· simp[*,zab]));try simp only[Then,Ops,OutB,reduceIte])|simp only[Nat.reduceEqDiff,reduceIte,OutB,Then]))
    exact zac (.inl rfl) rfl (by simp only;omega) (by simp only[resL,resOf,zaa];simp[*,resV]) ⟨HH.out.imp id fun ⟨b,h1,h2,h3⟩=>⟨b,h1,by omega,h3⟩,rfl⟩
theorem yla {C:Cfg}{n0:Nat}(hC:C.calm=true)(hwh:∀ f,C.whole f=true)(h0:Has C 35 af35):MadeC (Ev.call C (n0+1)):=by
 intro H pv wv cv d n B hcv d0 d1 hn hB
 obtain ⟨v,hp,tc,G,c1,⟨h1,rfl⟩,k1,k2,c3,c4⟩:=zcw (first:=[]) (captured:=[]) (args:=[.agg [pv,wv,.int .i64 d,cv],u8s B]) (H:=H) hC hwh h0 (le' rfl) (ylf C hC (Ev.call C n0) H pv wv cv d n B hcv d0 d1 hn hB)
 refine ⟨G,v,c1,k2,?_⟩
 rcases h1 with ⟨rfl,h2⟩|⟨b,rfl,h2,h3⟩
 ·exact .inl ⟨rfl,h2⟩
 ·have hG:G=hp:=c3 (.inl (by simp[refs]))
  subst hG
  exact .inr ⟨b,rfl,h2,h3⟩
end Ro
end Ev
namespace Ld
open Rd (Evt Tr restE passE addR All Tru endR sunk rested Fine)
def roadAt (l:Lo)(p:List Int)(A:List Nat):Int × List Evt:=ahS (0,l.road.events) (gonA l p A)
theorem roadAt_snoc (l:Lo)(p:List Int)(A:List Nat)(i:Nat):roadAt l p (A++[i])=goS (roadAt l p A) (p.getD i 0,(l.carts.getD i default).load):=by
 unfold roadAt gonA
 rw[List.map_append,List.map_cons,List.map_nil,ahS_snoc]
def roadTo (l:Lo)(p:List Int)(A:List Nat)(d:Int):Rd.Road:=⟨l.road.parts,(untilS (roadAt l p A) d).2⟩
theorem ylq {l:Lo}{p:List Int}(hp:p.length=l.carts.length)(h5:p.length≤5){A B:List Nat}(h:order p=A++B)(d:Int):roadTo l p A d=aheadR l (wOf p A) d:=by
 have:=ahead_eq l (wOf p A) d
 rw[yjg hp h5 h] at this
 unfold roadTo roadAt
 rw[← this]
 rfl
theorem ymb {l:Lo}(hv:Vl l){p:List Int}(hp:p.length=l.carts.length){A:List Nat}{i:Nat}{B:List Nat}(h:order p=A++i::B):Fine (roadTo l p A (p.getD i 0))∧Rd.canR (roadTo l p A (p.getD i 0)) (Rd.everyR (roadTo l p A (p.getD i 0)))=true:=by
 have ho:=yjl hv.carts hp h
 have h5:=hv.carts
 have hld:∀ x∈gonA l p A,0≤x.2∧x.2≤60:=fun x hx=>by
  unfold gonA at hx
  obtain ⟨a,ha,rfl⟩:=List.mem_map.1 hx
  exact hv.load a (by rw[← hp];exact ho.mem a ha)
 have hd:=ho.d1
 have hd0:=ho.d0
 have hok:=yej _ 0 _ ho.srt (by omega) hld
 have hal:=ydd _ 0 _ ho.srt
 have har:roadTo l p A (p.getD i 0)=appR l.road (aheadE 0 (gonA l p A) (p.getD i 0)):=by
  rw[ylq hp (by omega) h]
  unfold aheadR appR
  rw[yjg hp (by omega) h]
 rw[har]
 refine ⟨yjn hv.fine _ hok (by have:=hv.ev;have:=ho.len;omega),?_⟩
 rw[ykg _ hok]
 exact hv.can
theorem ylw {l:Lo}(hv:Vl l){p:List Int}(hp:p.length=l.carts.length){A:List Nat}{i:Nat}{B:List Nat}(h:order p=A++i::B):Rd.errR (roadTo l p A (p.getD i 0)) (Rd.isLoad (l.carts.getD i default).load)=0∧bearT l (wOf p A) (l.carts.getD i default).load (p.getD i 0)=decide (Rd.bearsR (roadTo l p A (p.getD i 0)) (l.carts.getD i default).load=2):=by
 obtain ⟨hf,hc⟩:=ymb hv hp h
 have ho:=yjl hv.carts hp h
 have hl:=hv.load i (by rw[← hp];exact ho.hi)
 have he:Rd.errR (roadTo l p A (p.getD i 0)) (Rd.isLoad (l.carts.getD i default).load)=0:=by
  unfold Rd.errR
  have:Rd.isLoad (l.carts.getD i default).load=true:=decide_eq_true hl
  rw[(Rd.valid_iff _).2 hf,this,hc];rfl
 refine ⟨he,?_⟩
 unfold bearT
 rw[← ylq hp (by have:=hv.carts;omega) h,he]
 simp
theorem ylv (l:Lo)(p:List Int)(A:List Nat)(i:Nat)(B:List Nat):brokenL l p (i::B) (wOf p A)=if (l.carts.getD i default).due<p.getD i 0 then some (i,1) else if bearT l (wOf p A) (l.carts.getD i default).load (p.getD i 0)=false then some (i,2) else brokenL l p B (wOf p (A++[i])):=by
 rw[brokenL,wOf_snoc]
structure CkS (l:Lo) (p:List Int) (d j:Nat) (A B:List Nat):Prop where
 eq:order p=A++B
 a:∀ i∈A,p.getD i 0<d∨(p.getD i 0=d∧i<j)
 b:∀ i∈B,(d:Int)<p.getD i 0∨(p.getD i 0=d∧j≤i)
 br:brokenR l p=brokenL l p B (wOf p A)
theorem cks_start (l:Lo)(p:List Int):CkS l p 0 0 [] (order p):=⟨rfl,by simp,fun i hi=>by have:=mem_order_iff.1 hi;omega,rfl⟩
theorem cks_day {l:Lo}{p:List Int}{d n:Nat}{A B:List Nat}(h:CkS l p d n A B)(hn:p.length≤n):CkS l p (d+1) 0 A B:=by
 refine ⟨h.eq,fun i hi=>by have:=h.a i hi;omega,fun i hi=>?_,h.br⟩
 have h1:=h.b i hi
 have h2:=(mem_order_iff.1 (show i∈order p by rw[h.eq];exact List.mem_append_right _ hi)).1
 omega
theorem cks_skip {l:Lo}{p:List Int}{d j:Nat}{A B:List Nat}(h:CkS l p d j A B)(hj:¬ p.getD j 0=d):CkS l p d (j+1) A B:=by
 refine ⟨h.eq,fun i hi=>by have:=h.a i hi;omega,fun i hi=>?_,h.br⟩
 rcases h.b i hi with g|⟨g,g2⟩
 ·exact .inl g
 ·by_cases e:i=j
  ·subst e;exact absurd g hj
  ·exact .inr ⟨g,by omega⟩
theorem cks_at {l:Lo}{p:List Int}{d j:Nat}{A B:List Nat}(h:CkS l p d j A B)(hj:p.getD j 0=d)(hl:j<p.length)(hd:d<4):∃ B',B=j::B':=by
 have hm:j∈order p:=mem_order_iff.2 ⟨hl,by omega,by omega⟩
 rw[h.eq,List.mem_append] at hm
 have hb:j∈B:=hm.resolve_left fun ha=>by have:=h.a j ha;omega
 have hs:=ybi p
 rw[h.eq,List.pairwise_append] at hs
 cases B with
 |nil=>cases hb
 |cons i B'=>
  rcases List.mem_cons.1 hb with rfl|hb
  ·exact ⟨B',rfl⟩
  ·have h1:=(List.pairwise_cons.1 hs.2.1).1 j hb
   have h2:=h.b i (by simp)
   unfold Bef at h1
   omega
theorem cks_end {l:Lo}{p:List Int}{d:Nat}{A B:List Nat}(h:CkS l p d 0 A B)(hd:(d:Int)=l.days)(hp:isPlan l p=true):brokenR l p=none:=by
 have hB:B=[]:=by
  cases B with
  |nil=>rfl
  |cons i B'=>
   have h1:=h.b i (by simp)
   have h2:=(mem_order_iff.1 (show i∈order p by rw[h.eq];simp)).1
   unfold isPlan at hp
   simp only[Bool.and_eq_true,decide_eq_true_eq,List.all_eq_true] at hp
   have h3:=hp.2 (p.getD i 0) (by rw[List.getD_eq_getElem?_getD,List.getElem?_eq_getElem h2];exact List.getElem_mem _)
   unfold isDay at h3
   rw[Bool.or_eq_true,decide_eq_true_eq,decide_eq_true_eq] at h3
   omega
 rw[h.br,hB];rfl
theorem cks_step {l:Lo}{p:List Int}{d j:Nat}{A B:List Nat}(hv:Vl l)(hp:p.length=l.carts.length)(h:CkS l p d j A B)(hj:p.getD j 0=d)(hl:j<p.length)(hd:d<4):
  0≤(roadAt l p A).1∧(roadAt l p A).1≤10∧(untilS (roadAt l p A) d).2.length≤40∧(roadAt l p A).2.length≤40∧Rd.errR (roadTo l p A d) (Rd.isLoad (l.carts.getD j default).load)=0 ∧
  ((l.carts.getD j default).due<d→brokenR l p=some (j,1)) ∧
  ((d:Int)≤(l.carts.getD j default).due→¬ Rd.bearsR (roadTo l p A d) (l.carts.getD j default).load=2→brokenR l p=some (j,2)) ∧
  ((d:Int)≤(l.carts.getD j default).due→Rd.bearsR (roadTo l p A d) (l.carts.getD j default).load=2→∃ B',CkS l p d (j+1) (A++[j]) B'):=by
 obtain ⟨B',rfl⟩:=cks_at h hj hl hd
 have hA:∀ x∈gonA l p A,x.1≤10:=fun x hx=>by
  unfold gonA at hx
  obtain ⟨a,ha,rfl⟩:=List.mem_map.1 hx
  have:=h.a a ha
  dsimp only
  omega
 obtain ⟨s1,s2,s3⟩:=ahS_bd (gonA l p A) (0,l.road.events) (by simp) (by simp) hA
 have hf:=(ymb hv hp h.eq).1
 obtain ⟨b1,b2⟩:=ylw hv hp h.eq
 rw[hj] at hf b1 b2
 have hlen:(untilS (roadAt l p A) d).2.length≤40:=by
  have:=hf.events
  unfold roadTo at this
  dsimp only at this
  omega
 have hlen2:(roadAt l p A).2.length≤40:=by
  refine Nat.le_trans ?_ hlen
  unfold untilS
  split
  ·simp
  ·exact Nat.le_refl _
 have hst:=ylv l p A j B'
 rw[hj,b2] at hst
 refine ⟨s1,s2,hlen,hlen2,b1,fun g=>?_,fun g g2=>?_,fun g g2=>⟨B',?_,?_,?_,?_⟩⟩
 ·rw[h.br,hst,if_pos g]
 ·rw[h.br,hst,if_neg (by omega),if_pos (decide_eq_false g2)]
 ·rw[h.eq];simp
 ·intro i hi
  rcases List.mem_append.1 hi with hi|hi
  ·have:=h.a i hi;omega
  ·rw[List.mem_singleton] at hi;subst hi;exact .inr ⟨hj,by omega⟩
 ·intro i hi
  have h1:=h.b i (by simp[hi])
  have hs:=ybi p
  rw[h.eq,List.pairwise_append] at hs
  have h2:=(List.pairwise_cons.1 hs.2.1).1 i hi
  unfold Bef at h2
  omega
 ·rw[h.br,hst,if_neg (by omega),if_neg (by rw[decide_eq_true g2];simp)]
end Ld
namespace Ev
namespace Ro
open K
attribute [local simp] ev1 wantG spineK spine float xnew xval xeff zab zae zau zah zai addFl cellsOf pickC alive slLen slFt binI maxA maxK minA minK aeqK aeqS AV.cells spA zad fillA setAt bitsI nat_nn zav AV.plain apart
set_option maxRecDepth 100000
set_option maxHeartbeats 4000000
def LSpanC (call:CallF):Prop:=∀ (H:List AB) (a b:Int),call (.fn (.func 37) [] []) [.int .i64 a,.int .i64 b] H=some (.ret (.agg [.int .i64 a,.int .i64 b]),H,[])
theorem ymc (C:Cfg)(call:CallF)(H:List AB)(a b:Int):Wb C call H af37 [.int .i64 a,.int .i64 b]
  (fun v _hp tc=>v=.agg [.int .i64 a,.int .i64 b]∧tc=[]):=by
 unfold Wb Wa af37 Zq Zm Zo Zs Zt Zi
 simp only[zipI]
 refine gA ?_
 exact zac (v:=.agg [.int .i64 a,.int .i64 b]) (.inl rfl) rfl (by simp) (by simp only[resL,resOf,zaa];simp[*,pickC,resV]) ⟨rfl,by simp⟩
theorem ylx {C:Cfg}{n0:Nat}(hC:C.calm=true)(h0:Has C 37 af37):LSpanC (Ev.call C (n0+1)):=
 fun H a b=>zaj hC h0 (le' rfl) rfl (ymc C _ H a b)
def ckQ (l:Ld.Lo)(p:List Int):Int × Int × Int:=match Ld.brokenR l p with
 |none=>(0,0,4)
 |some (i,r)=>(i,r,0)
theorem yly {l:Ld.Lo}{p:List Int}(hv:Ld.valid l=true)(hp:Ld.isPlan l p=true):checkRV l p=.tup [.int .i64 (ckQ l p).1,.int .i64 (ckQ l p).2.1,.int .i64 (ckQ l p).2.2]:=by
 unfold checkRV ckQ
 rw[hv,hp]
 cases Ld.brokenR l p<;>rfl
theorem ylz {l:Ld.Lo}{p:List Int}(hv:Ld.valid l=true)(hp:Ld.isPlan l p=false):checkRV l p=.tup [.int .i64 0,.int .i64 0,.int .i64 2]:=by
 unfold checkRV errL
 rw[hv,hp];rfl
theorem ylu {l:Ld.Lo}(p:List Int)(hv:Ld.valid l=false):checkRV l p=.tup [.int .i64 0,.int .i64 0,.int .i64 1]:=by
 unfold checkRV errL
 rw[hv];rfl
structure CkH (l:Ld.Lo) (q:List Int) (rb pb eb:Nat) (es:List Rd.Evt) (J:List AB):Prop where
 l0:HB J 0 (.cells (loadCs l))
 p:HB J pb (.cells (ints q))
 r:HB J rb (.cells [.vs 7 (l.road.parts.map ptE),.sl eb 0 es.length 7])
 e:HB J eb (.cells (evCs es))
 ne:0<rb∧pb<rb∧rb<eb
theorem CkH.next {l:Ld.Lo}{q:List Int}{rb pb eb:Nat}{es:List Rd.Evt}{J:List AB}(h:CkH l q rb pb eb es J)(es':List Rd.Evt)(T:List AB)(k n:Nat)(hn:n=es'.length)(hT:T[k]?=some (.cells (evCs es'))):
  CkH l q rb pb (J.length+k) es' ((J.set eb .dead).set rb (.cells [.vs 7 (l.road.parts.map ptE),.sl (J.length+k) 0 n 7])++T):=by
 obtain ⟨n1,n2,n3⟩:=h.ne
 subst hn
 have hr:=h.r.lt
 refine ⟨((h.l0.set _ (by omega)).set _ (by omega)).app _,((h.p.set _ (by omega)).set _ (by omega)).app _,((h.r.set _ (by omega)).here _).app _,hb ?_,n1,n2,by omega⟩
 rw[List.getElem?_append_right (by simp)]
 simpa using hT
theorem ylt (C:Cfg)(hC:C.calm=true)(call:CallF)(hA:LApi call)(hSp:LSpanC call)(l:Ld.Lo)(q:List Int)(ca cr ce:Int)(hvl:Ld.Vl l)(hd:1≤l.days∧l.days≤4)(hmp:Ld.isPlan l q=true)(hml:q.length=l.carts.length)(hck:ckQ l q=(ca,cr,ce))(h40:l.road.parts.length≤40)
  (G:List AB) (pb:Nat) (h0:HB G 0 (.cells (loadCs l))) (hp:HB G pb (.cells (ints q))) (L:List (Nat × AV)) (L2:lk 214 L 2=.ptr 0 0) (L5:lk 214 L 5=.sl pb 0 l.carts.length 1) (L6:lk 214 L 6=.int .i64 ca) (L7:lk 214 L 7=.int .i64 cr) (L8:lk 214 L 8=.int .i64 ce):
  Does (ev C call ([]:List AB).length none (atP [1,1,1,1,1,1,1,1] af6.body) { tm:=tmA 214 L,df:=[],hp:=G,tc:=[] }) (Yes af6 C):=by
 have m2:val C (tmA 214 L) (.tmp 2)=.ptr 0 0:=L2
 have m5:val C (tmA 214 L) (.tmp 5)=.sl pb 0 l.carts.length 1:=L5
 have m6:val C (tmA 214 L) (.tmp 6)=.int .i64 ca:=L6
 have m7:val C (tmA 214 L) (.tmp 7)=.int .i64 cr:=L7
 have m8:val C (tmA 214 L) (.tmp 8)=.int .i64 ce:=L8
 have ha:=fun H=>hA.alive (H:=H)
 have HX:=hideP (And.intro h0 hp)
 have HA:=hideP (And.intro hA (And.intro hmp (And.intro hml (And.intro hck (And.intro hvl h40)))))
 have hev:=hvl.ev
 have hc5:=hvl.carts
 have hel:elemCells (l.road.events.map evE)=evCs l.road.events:=zoc _
 have hcs:=ybl l.road.events
 have hpl:=ybk l.road.events
 have hbe:l.road.events.length≤bound:=by unfold bound;omega
 have hsl:∀ H,slCells 7 H (.vs 7 (l.road.events.map evE))=some (evCs l.road.events):=fun H=>by rw[← hel];rfl
 have hd2:=hd.2
 have hd1:=hd.1
 have hdn:(l.days.toNat:Int)=l.days:=by omega
 obtain ⟨A1,A2,A3⟩:=h0
 obtain ⟨B1,B2,B3⟩:=hp
 clear hA hmp hml hck hvl
 unfold af6 Zq Zm Zl Zo Zs Zd Ze Zc Zt Zn Zi
 simp only[atP,loadCs] at *
 (repeat (first|((with_reducible apply zak);(focus ((with_reducible apply zba);(focus rfl);(focus rfl);(focus ((conv=>lhs;simp[*,List.getElem?_append_right,List.set_append_right,List.getElem?_cons_zero,List.getElem?_append_left,List.set_append_left,-getElem?_pos,hsl,Nat.testBit_eq_decide_div_mod_eq])<;>exact rfl));(focus rfl);(focus rfl)));simp only[addFl])|(with_reducible apply zak;(focus ((conv=>lhs;simp[*,List.getElem?_append_right,List.set_append_right,List.getElem?_cons_zero,List.getElem?_append_left,List.set_append_left,-getElem?_pos,hsl,Nat.testBit_eq_decide_div_mod_eq])<;>exact rfl));simp only[addFl])|((with_reducible first|apply zaw|apply zay|apply zas|apply zaq|apply zao|apply zax|apply zar|apply zaz|(apply zap;· simp[*,zab])|(apply zam;· simp[*,zab]));try simp only[Then,Ops])|simp only[Nat.reduceEqDiff,reduceIte,OutB,Then]))
 with_reducible refine zan hC l.days.toNat (by unfold fuelL;omega) (fun d st=>∃ (A B':List Nat) (now:Int) (es:List Rd.Evt) (eb:Nat) (J:List AB),Ld.CkS l q d 0 A B'∧Ld.roadAt l q A=(now,es)∧CkH l q G.length pb eb es J∧st={ tm:=tmA 214 [(121,.int .i64 d),(120,.int .i64 l.days),(19,.int .i64 now),(18,.ptr G.length 0),(8,.int .i64 ce),(7,.int .i64 cr),(6,.int .i64 ca),(5,.sl pb 0 l.carts.length 1),(2,.ptr 0 0)],df:=[],hp:=J,tc:=[] }) ?_ ?_ ?_
 ·refine ⟨[],Ld.order q,0,l.road.events,G.length+2,_,Ld.cks_start l q,rfl,⟨HX.out.1.app _,HX.out.2.app _,hb (by simp),hb (by simp),by have:=HX.out.1.lt;have:=HX.out.2.lt;omega⟩,st_is ?_ rfl rfl rfl⟩
  simp[*,zag,zal]
 ·rintro d st hdd ⟨A,B',now,es,eb,J,hS,hR,hH,rfl⟩
  have hdd2:(d:Int)<l.days:=by omega
  have hwd:IntKind.i64.wrap ((d:Int)+1)=(d:Int)+1:=zaf (by omega) (by omega)
  have HH:=hideP (And.intro hS (And.intro hR hH))
  obtain ⟨p1,p2,p3⟩:=hH.p
  clear hS hR hH
  (repeat (first|((with_reducible apply zak);(focus ((with_reducible apply zba);(focus rfl);(focus rfl);(focus ((conv=>lhs;simp[*,List.getElem?_append_right,List.set_append_right,List.getElem?_cons_zero,List.getElem?_append_left,List.set_append_left,-getElem?_pos,Nat.testBit_eq_decide_div_mod_eq])<;>exact rfl));(focus rfl);(focus rfl)));simp only[addFl])|(with_reducible apply zak;(focus ((conv=>lhs;simp[*,List.getElem?_append_right,List.set_append_right,List.getElem?_cons_zero,List.getElem?_append_left,List.set_append_left,-getElem?_pos,Nat.testBit_eq_decide_div_mod_eq])<;>exact rfl));simp only[addFl])|((with_reducible first|apply zaw|apply zay|apply zas|apply zaq|apply zao|apply zax|apply zar|apply zaz|(apply zap;· simp[*,zab])|(apply zam;· simp[*,zab]));try simp only[Then,Ops,OutB])|simp only[Nat.reduceEqDiff,reduceIte,OutB,Then]))
  clear p1 p2 p3
  with_reducible refine zan hC l.carts.length (by unfold fuelL;omega) (fun j st=>∃ (A B':List Nat) (now:Int) (es:List Rd.Evt) (eb:Nat) (J:List AB),Ld.CkS l q d j A B'∧Ld.roadAt l q A=(now,es)∧CkH l q G.length pb eb es J∧st={ tm:=tmA 214 [(126,.int .i64 j),(125,.int .i64 l.carts.length),(124,.sl pb 0 l.carts.length 1),(121,.int .i64 d),(120,.int .i64 l.days),(20,.int .i64 d),(19,.int .i64 now),(18,.ptr G.length 0),(8,.int .i64 ce),(7,.int .i64 cr),(6,.int .i64 ca),(5,.sl pb 0 l.carts.length 1),(2,.ptr 0 0)],df:=[],hp:=J,tc:=[] }) ?_ ?_ ?_
  ·refine ⟨A,B',now,es,eb,J,HH.out.1,HH.out.2.1,HH.out.2.2,st_is ?_ rfl rfl rfl⟩
   simp[zag,zal]
  ·clear HH A1 A2 A3 B1 B2 B3
   rintro j st hj ⟨A,B',now,es,eb,J,hS,hR,hH,rfl⟩
   have hjl:(j:Int)<l.carts.length:=by omega
   have hwj:IntKind.i64.wrap ((j:Int)+1)=(j:Int)+1:=zaf (by omega) (by omega)
   obtain ⟨hA,hmp,hml,hck,hvl,h40⟩:=HA.out
   have hq:(ints q)[j]?=some (.int .i64 (q.getD j 0)):=by
    unfold ints
    rw[List.getElem?_map,List.getD_eq_getElem?_getD,List.getElem?_eq_getElem (show j<q.length by omega)];rfl
   have hil:(ints q).length=l.carts.length:=by simp[ints,hml]
   have hq':=ge_of hq
   have HH:=hideP hH
   have hnx:q.getD j 0=d→_:=fun h=>Ld.cks_step hvl hml hS h (by omega) (by omega)
   have hsk:¬ q.getD j 0=d→_:=fun h=>Ld.cks_skip hS h
   have hgo:=Ld.roadAt_snoc l q A j
   rw[hR] at hnx hgo
   unfold Ld.roadTo at hnx
   rw[hR] at hnx
   generalize hx:q.getD j 0=x at *
   obtain ⟨⟨a1,a2,a3⟩,⟨b1,b2,b3⟩,⟨r1,r2,r3⟩,⟨e1,e2,e3⟩,n1,n2,n3⟩:=hH
   simp only[loadCs] at a1
   by_cases hjd:x=d
   case' neg=>
    have hs:=hsk hjd
    have HN:=hideP (And.intro hs hR)
    clear hnx hsk hgo hS hs hR hA hmp hml hck hvl h40 hx
    (repeat (first|((with_reducible apply zak);(focus ((with_reducible apply zba);(focus rfl);(focus rfl);(focus ((conv=>lhs;simp[*,List.getElem?_append_right,List.set_append_right,List.getElem?_cons_zero,List.getElem?_append_left,List.set_append_left,-getElem?_pos,Nat.testBit_eq_decide_div_mod_eq])<;>exact rfl));(focus rfl);(focus rfl)));simp only[addFl])|(with_reducible apply zak;(focus ((conv=>lhs;simp[*,List.getElem?_append_right,List.set_append_right,List.getElem?_cons_zero,List.getElem?_append_left,List.set_append_left,-getElem?_pos,Nat.testBit_eq_decide_div_mod_eq])<;>exact rfl));simp only[addFl])|((with_reducible first|apply zaw|apply zay|apply zas|apply zaq|apply zao|apply zax|apply zar|apply zaz|(apply zap;· simp[*,zab])|(apply zam;· simp[*,zab]));try simp only[Then,Ops,OutB,reduceIte])|simp only[Nat.reduceEqDiff,reduceIte,OutB,Then]))
    refine ⟨A,B',now,es,eb,J,HN.out.1,HN.out.2,HH.out,st_is ?_ rfl rfl rfl⟩
    simp[zag,zal]
   case' pos=>
    obtain ⟨s1,s2,s3,s3',s4,s5,s6,s7⟩:=hnx hjd
    subst hjd
    have hci:l.carts[j]?=some (l.carts.getD j default):=by rw[List.getD_eq_getElem?_getD,List.getElem?_eq_getElem hj];rfl
    have hci':=ge_of hci
    have hcl:=hvl.load j hj
    have hSp1:=fun H=>hSp H (l.carts.getD j default).load (l.carts.getD j default).load
    generalize l.carts.getD j default=c at *
    have hbe:∀ (es':List Rd.Evt) (cs:List AV),es'=(Ld.untilS (now,es) d).2→evCs es'=cs→∀ (H:List AB) (b:Nat),H[b]?=some (.cells cs)→call (.fn (.func 36) [] []) [.agg [.vs 7 (l.road.parts.map ptE),.sl b 0 es'.length 7],.int .i64 c.load] H=some (.ret (.tup [.int .i64 (Rd.bearsR ⟨l.road.parts,(Ld.untilS (now,es) d).2⟩ c.load),.int .i64 0]),H,[]):=by
     rintro es' cs rfl rfl H b hb
     have:=hA.bears (H:=H) (ztf (zzr H l.road.parts) (ykb hb rfl) h40 (by omega)) c.load (by unfold i64n;omega)
     unfold numRV at this
     rwa [s4,if_pos rfl] at this
    unfold Ld.goS at hgo
    generalize Rd.bearsR ⟨l.road.parts,(Ld.untilS (now,es) d).2⟩ c.load=br at *
    unfold Ld.untilS at *
    dsimp only at *
    have hel:=ybl es
    have hpl:=ybk es
    have hb7:es.length+2≤bound:=by unfold bound;omega
    have hb6:es.length+1≤bound:=by omega
    have hb1:1≤bound:=by omega
    have h71:es.length * 7+7=(es.length+1) * 7:=by omega
    have hw:IntKind.i64.wrap ((d:Int) - now)=d - now:=zaf (by omega) (by omega)
    have ne1:¬ (eb=G.length):=by omega
    have ne2:¬ (G.length=eb):=by omega
    have ne3:¬ (eb=0):=by omega
    have ne4:¬ (eb=pb):=by omega
    have ne5:¬ (G.length=0):=by omega
    have ne6:¬ (G.length=pb):=by omega
    by_cases hlt:now<d
    case' pos=>
     rw[if_pos hlt] at *
     have hbr:=hbe (es++[Rd.restE (d - now)]) (evCs es++[.int .i64 1,.int .i64 0,.int .i64 0,.int .i64 (d - now),.int .i64 0,.int .i64 0,.int .i64 0]) rfl (by rw[ycq];rfl)
     rw[show (es++[Rd.restE (d - now)]).length=es.length+1 by simp] at hbr
    case' neg=>
     rw[if_neg hlt] at *
     have hbr:=hbe es _ rfl rfl
    all_goals
     clear hbe hnx hsk hA hSp hvl s4 L2 L5 L6 L7 L8 m2 m5 m6 m7 m8
     by_cases hdue:c.due<d
     ·have hk:=s5 hdue
      unfold ckQ at hck
      rw[hk] at hck
      cases hck
      clear hmp hml hk s5 s6 s7 hgo hS hR HH HA HX hx
      (repeat (first|((with_reducible apply zak);(focus ((with_reducible apply zba);(focus rfl);(focus rfl);(focus ((conv=>lhs;simp[*,List.getElem?_append_right,List.set_append_right,List.getElem?_cons_zero,List.getElem?_append_left,List.set_append_left,-getElem?_pos,cE,Nat.testBit_eq_decide_div_mod_eq])<;>exact rfl));(focus rfl);(focus rfl)));simp only[addFl])|(with_reducible apply zak;(focus ((conv=>lhs;simp[*,List.getElem?_append_right,List.set_append_right,List.getElem?_cons_zero,List.getElem?_append_left,List.set_append_left,-getElem?_pos,cE,Nat.testBit_eq_decide_div_mod_eq])<;>exact rfl));simp only[addFl])|((with_reducible first|apply zaw|apply zay|apply zas|apply zaq|apply zao|apply zax|apply zar|apply zaz|(apply zap;· simp[*,zab])|(apply zam;· simp[*,zab]));try simp only[Then,Ops,OutB])|simp only[Nat.reduceEqDiff,reduceIte,OutB,Then]))
      exact zac (v:=.bool true) (.inl rfl) rfl (by simp) endvP rfl
     by_cases hb2:br=2
     ·obtain ⟨B2,hS2⟩:=s7 (by omega) hb2
      subst hb2
      have HN:=hideP (And.intro hS2 (And.intro hgo (And.intro s3 HH.out)))
      clear hmp hml hck s5 s6 s7 hgo hS hS2 hR hx HH HA HX
      (repeat (first|((with_reducible apply zak);(focus ((with_reducible apply zba);(focus rfl);(focus rfl);(focus ((conv=>lhs;simp[*,List.getElem?_append_right,List.set_append_right,List.getElem?_cons_zero,List.getElem?_append_left,List.set_append_left,-getElem?_pos,cE,↓zbe,↓zbr,Nat.testBit_eq_decide_div_mod_eq])<;>exact rfl));(focus rfl);(focus rfl)));simp only[addFl])|(with_reducible apply zak;(focus ((conv=>lhs;simp[*,List.getElem?_append_right,List.set_append_right,List.getElem?_cons_zero,List.getElem?_append_left,List.set_append_left,-getElem?_pos,cE,↓zbe,↓zbr,Nat.testBit_eq_decide_div_mod_eq])<;>exact rfl));simp only[addFl])|((with_reducible first|apply zaw|apply zay|apply zas|apply zaq|apply zao|apply zax|apply zar|apply zaz|(apply zap;· simp[*,zab])|(apply zam;· simp[*,zab]));try simp only[Then,Ops,OutB])|simp only[Nat.reduceEqDiff,reduceIte,OutB,Then]))
      obtain ⟨hS2,hgo,s3,hH⟩:=HN.out
      dsimp only at hgo
      first
       | (refine ⟨A ++ [j], B2, _, _, J.length + 1, _, hS2, hgo, hH.next _ [.cells [.int .i64 0, .int .i64 c.load, .int .i64 c.load, .int .i64 0, .int .i64 0, .int .i64 0, .int .i64 0], .cells (evCs es ++ [.int .i64 0, .int .i64 c.load, .int .i64 c.load, .int .i64 0, .int .i64 0, .int .i64 0, .int .i64 0])] 1 (es.length + 1) (by simp) (by rw [ycq]; rfl), st_is ?_ rfl (by simp) rfl⟩
          simp[zag,zal]
          done)
       | (refine ⟨A ++ [j], B2, _, _, J.length + 3, _, hS2, hgo, hH.next _ [.cells [.int .i64 1, .int .i64 0, .int .i64 0, .int .i64 (d - now), .int .i64 0, .int .i64 0, .int .i64 0], .dead, .cells [.int .i64 0, .int .i64 c.load, .int .i64 c.load, .int .i64 0, .int .i64 0, .int .i64 0, .int .i64 0], .cells ((evCs es ++ [.int .i64 1, .int .i64 0, .int .i64 0, .int .i64 (d - now), .int .i64 0, .int .i64 0, .int .i64 0]) ++ [.int .i64 0, .int .i64 c.load, .int .i64 c.load, .int .i64 0, .int .i64 0, .int .i64 0, .int .i64 0])] 3 (es.length + 1 + 1) (by simp) (by rw [ycq, ycq]; rfl), st_is ?_ rfl (by simp) rfl⟩
          simp[zag,zal]
          done)
     ·have hk:=s6 (by omega) hb2
      unfold ckQ at hck
      rw[hk] at hck
      cases hck
      clear hmp hml hk s5 s6 s7 hgo hS hR HH HA HX hx
      (repeat (first|((with_reducible apply zak);(focus ((with_reducible apply zba);(focus rfl);(focus rfl);(focus ((conv=>lhs;simp[*,List.getElem?_append_right,List.set_append_right,List.getElem?_cons_zero,List.getElem?_append_left,List.set_append_left,-getElem?_pos,cE,Nat.testBit_eq_decide_div_mod_eq])<;>exact rfl));(focus rfl);(focus rfl)));simp only[addFl])|(with_reducible apply zak;(focus ((conv=>lhs;simp[*,List.getElem?_append_right,List.set_append_right,List.getElem?_cons_zero,List.getElem?_append_left,List.set_append_left,-getElem?_pos,cE,Nat.testBit_eq_decide_div_mod_eq])<;>exact rfl));simp only[addFl])|((with_reducible first|apply zaw|apply zay|apply zas|apply zaq|apply zao|apply zax|apply zar|apply zaz|(apply zap;· simp[*,zab])|(apply zam;· simp[*,zab]));try simp only[Then,Ops,OutB])|simp only[Nat.reduceEqDiff,reduceIte,OutB,Then]))
      exact zac (v:=.bool true) (.inl rfl) rfl (by simp) endvP rfl
  ·rintro st ⟨A,B',now,es,eb,J,hS,hR,hH,rfl⟩
   have HH:=hideP (And.intro hS (And.intro hR hH))
   clear hS hR hH
   (repeat (first|((with_reducible apply zak);(focus ((with_reducible apply zba);(focus rfl);(focus rfl);(focus ((conv=>lhs;simp[*,List.getElem?_append_right,List.set_append_right,List.getElem?_cons_zero,List.getElem?_append_left,List.set_append_left,-getElem?_pos,Nat.testBit_eq_decide_div_mod_eq])<;>exact rfl));(focus rfl);(focus rfl)));simp only[addFl])|(with_reducible apply zak;(focus ((conv=>lhs;simp[*,List.getElem?_append_right,List.set_append_right,List.getElem?_cons_zero,List.getElem?_append_left,List.set_append_left,-getElem?_pos,Nat.testBit_eq_decide_div_mod_eq])<;>exact rfl));simp only[addFl])|((with_reducible first|apply zaw|apply zay|apply zas|apply zaq|apply zao|apply zax|apply zar|apply zaz|(apply zap;· simp[*,zab])|(apply zam;· simp[*,zab]));try simp only[Then,Ops,OutB,reduceIte])|simp only[Nat.reduceEqDiff,reduceIte,OutB,Then]))
   refine ⟨A,B',now,es,eb,J,Ld.cks_day HH.out.1 (by have:=HA.out.2.2.1;omega),HH.out.2.1,HH.out.2.2,st_is ?_ rfl rfl rfl⟩
   simp[zag,zal]
 ·rintro st ⟨A,B',now,es,eb,J,hS,hR,hH,rfl⟩
  obtain ⟨_,hmp,_,hck,_,_⟩:=HA.out
  have hz:=Ld.cks_end hS hdn hmp
  unfold ckQ at hck
  rw[hz] at hck
  cases hck
  clear hS hR hH hz
  (repeat (first|((with_reducible apply zak);(focus ((with_reducible apply zba);(focus rfl);(focus rfl);(focus ((conv=>lhs;simp[*,List.getElem?_append_right,List.set_append_right,List.getElem?_cons_zero,List.getElem?_append_left,List.set_append_left,-getElem?_pos,Nat.testBit_eq_decide_div_mod_eq])<;>exact rfl));(focus rfl);(focus rfl)));simp only[addFl])|(with_reducible apply zak;(focus ((conv=>lhs;simp[*,List.getElem?_append_right,List.set_append_right,List.getElem?_cons_zero,List.getElem?_append_left,List.set_append_left,-getElem?_pos,Nat.testBit_eq_decide_div_mod_eq])<;>exact rfl));simp only[addFl])|((with_reducible first|apply zaw|apply zay|apply zas|apply zaq|apply zao|apply zax|apply zar|apply zaz|(apply zap;· simp[*,zab])|(apply zam;· simp[*,zab]));try simp only[Then,Ops,OutB,reduceIte])|simp only[Nat.reduceEqDiff,reduceIte,OutB,Then]))
  exact zac (v:=.bool true) (.inl rfl) rfl (by simp) endvP rfl
theorem ylr (C:Cfg)(hC:C.calm=true)(call:CallF)(hA:LApi call)(l:Ld.Lo)(hev:l.road.events.length≤2)(hd:1≤l.days∧l.days≤4)
  (G:List AB) (h0:HB G 0 (.cells (loadCs l))) (L:List (Nat × AV)) (L2:lk 214 L 2=.ptr 0 0) (L5:lk 214 L 5=.nils) (L6:lk 214 L 6=.int .i64 0) (L7:lk 214 L 7=.int .i64 0) (L8:lk 214 L 8=.int .i64 4):
  Does (ev C call ([]:List AB).length none (atP [1,1,1,1,1,1,1,1] af6.body) { tm:=tmA 214 L,df:=[],hp:=G,tc:=[] }) (Yes af6 C):=by
 have m2:val C (tmA 214 L) (.tmp 2)=.ptr 0 0:=L2
 have m5:val C (tmA 214 L) (.tmp 5)=.nils:=L5
 have m6:val C (tmA 214 L) (.tmp 6)=.int .i64 0:=L6
 have m7:val C (tmA 214 L) (.tmp 7)=.int .i64 0:=L7
 have m8:val C (tmA 214 L) (.tmp 8)=.int .i64 4:=L8
 have ha:=fun H=>hA.alive (H:=H)
 have hel:elemCells (l.road.events.map evE)=evCs l.road.events:=zoc _
 have hcs:=ybl l.road.events
 have hpl:=ybk l.road.events
 have hbe:l.road.events.length≤bound:=by unfold bound;omega
 have hsl:∀ H,slCells 7 H (.vs 7 (l.road.events.map evE))=some (evCs l.road.events):=fun H=>by rw[← hel];rfl
 have hd2:=hd.2
 have hd1:=hd.1
 have hdn:(l.days.toNat:Int)=l.days:=by omega
 obtain ⟨A1,A2,A3⟩:=h0
 clear hA
 unfold af6 Zq Zm Zl Zo Zs Zd Ze Zc Zt Zn Zi
 simp only[atP,loadCs] at *
 (repeat (first|((with_reducible apply zak);(focus ((with_reducible apply zba);(focus rfl);(focus rfl);(focus ((conv=>lhs;simp[*,List.getElem?_append_right,List.set_append_right,List.getElem?_cons_zero,List.getElem?_append_left,List.set_append_left,-getElem?_pos,hsl,Nat.testBit_eq_decide_div_mod_eq])<;>exact rfl));(focus rfl);(focus rfl)));simp only[addFl])|(with_reducible apply zak;(focus ((conv=>lhs;simp[*,List.getElem?_append_right,List.set_append_right,List.getElem?_cons_zero,List.getElem?_append_left,List.set_append_left,-getElem?_pos,hsl,Nat.testBit_eq_decide_div_mod_eq])<;>exact rfl));simp only[addFl])|((with_reducible first|apply zaw|apply zay|apply zas|apply zaq|apply zao|apply zax|apply zar|apply zaz|(apply zap;· simp[*,zab])|(apply zam;· simp[*,zab]));try simp only[Then,Ops])|simp only[Nat.reduceEqDiff,reduceIte,OutB,Then]))
 with_reducible refine zan hC l.days.toNat (by unfold fuelL;omega) (fun d st=>∃ J:List AB,st={ tm:=tmA 214 [(121,.int .i64 d),(120,.int .i64 l.days),(19,.int .i64 0),(18,.ptr G.length 0),(8,.int .i64 4),(7,.int .i64 0),(6,.int .i64 0),(5,.nils),(2,.ptr 0 0)],df:=[],hp:=J,tc:=[] }) ?_ ?_ ?_
 ·refine ⟨_,st_is ?_ rfl rfl rfl⟩
  simp[*,zag,zal]
 ·rintro d st hdd ⟨J,rfl⟩
  have hdd2:(d:Int)<l.days:=by omega
  have hwd:IntKind.i64.wrap ((d:Int)+1)=(d:Int)+1:=zaf (by omega) (by omega)
  (repeat (first|((with_reducible apply zak);(focus ((with_reducible apply zba);(focus rfl);(focus rfl);(focus ((conv=>lhs;simp[*,List.getElem?_append_right,List.set_append_right,List.getElem?_cons_zero,List.getElem?_append_left,List.set_append_left,-getElem?_pos,Nat.testBit_eq_decide_div_mod_eq])<;>exact rfl));(focus rfl);(focus rfl)));simp only[addFl])|(with_reducible apply zak;(focus ((conv=>lhs;simp[*,List.getElem?_append_right,List.set_append_right,List.getElem?_cons_zero,List.getElem?_append_left,List.set_append_left,-getElem?_pos,Nat.testBit_eq_decide_div_mod_eq])<;>exact rfl));simp only[addFl])|((with_reducible first|apply zaw|apply zay|apply zas|apply zaq|apply zao|apply zax|apply zar|apply zaz|(apply zap;· simp[*,zab])|(apply zam;· simp[*,zab]));try simp only[Then,Ops,OutB])|simp only[Nat.reduceEqDiff,reduceIte,OutB,Then]))
  with_reducible refine zan hC 0 (by unfold fuelL;omega) (fun _ st=>st={ tm:=tmA 214 [(126,.int .i64 0),(125,.int .i64 0),(124,.nils),(121,.int .i64 d),(120,.int .i64 l.days),(20,.int .i64 d),(19,.int .i64 0),(18,.ptr G.length 0),(8,.int .i64 4),(7,.int .i64 0),(6,.int .i64 0),(5,.nils),(2,.ptr 0 0)],df:=[],hp:=J,tc:=[] }) ?_ ?_ ?_
  ·refine st_is ?_ rfl rfl rfl
   simp[zag,zal]
  ·exact fun _ _ h=>absurd h (Nat.not_lt_zero _)
  ·rintro st rfl
   (repeat (first|((with_reducible apply zak);(focus ((with_reducible apply zba);(focus rfl);(focus rfl);(focus ((conv=>lhs;simp[*,List.getElem?_append_right,List.set_append_right,List.getElem?_cons_zero,List.getElem?_append_left,List.set_append_left,-getElem?_pos,Nat.testBit_eq_decide_div_mod_eq])<;>exact rfl));(focus rfl);(focus rfl)));simp only[addFl])|(with_reducible apply zak;(focus ((conv=>lhs;simp[*,List.getElem?_append_right,List.set_append_right,List.getElem?_cons_zero,List.getElem?_append_left,List.set_append_left,-getElem?_pos,Nat.testBit_eq_decide_div_mod_eq])<;>exact rfl));simp only[addFl])|((with_reducible first|apply zaw|apply zay|apply zas|apply zaq|apply zao|apply zax|apply zar|apply zaz|(apply zap;· simp[*,zab])|(apply zam;· simp[*,zab]));try simp only[Then,Ops,OutB,reduceIte])|simp only[Nat.reduceEqDiff,reduceIte,OutB,Then]))
   refine ⟨J,st_is ?_ rfl rfl rfl⟩
   simp[zag,zal]
 ·rintro st ⟨J,rfl⟩
  (repeat (first|((with_reducible apply zak);(focus ((with_reducible apply zba);(focus rfl);(focus rfl);(focus ((conv=>lhs;simp[*,List.getElem?_append_right,List.set_append_right,List.getElem?_cons_zero,List.getElem?_append_left,List.set_append_left,-getElem?_pos,Nat.testBit_eq_decide_div_mod_eq])<;>exact rfl));(focus rfl);(focus rfl)));simp only[addFl])|(with_reducible apply zak;(focus ((conv=>lhs;simp[*,List.getElem?_append_right,List.set_append_right,List.getElem?_cons_zero,List.getElem?_append_left,List.set_append_left,-getElem?_pos,Nat.testBit_eq_decide_div_mod_eq])<;>exact rfl));simp only[addFl])|((with_reducible first|apply zaw|apply zay|apply zas|apply zaq|apply zao|apply zax|apply zar|apply zaz|(apply zap;· simp[*,zab])|(apply zam;· simp[*,zab]));try simp only[Then,Ops,OutB,reduceIte])|simp only[Nat.reduceEqDiff,reduceIte,OutB,Then]))
  exact zac (v:=.bool true) (.inl rfl) rfl (by simp) endvP rfl
theorem yls (C:Cfg)(hC:C.calm=true)(call:CallF)(hA:LApi call)(hMa:MadeC call)(hSp:LSpanC call)(l:Ld.Lo)(B:List Int)(hB:∀ x∈B,0≤x∧x≤255):
  Wa C call [] af6 [.agg (loadCs l),u8s B]
   (Yes af6 C):=by
 have hl:=fun H=>hA.long (H:=H) l
 have ha:=fun H=>hA.alive (H:=H)
 generalize hbl:u8s B=bl at *
 by_cases hlen:40<max l.road.parts.length (max l.road.events.length l.carts.length)
 ·rw[decide_eq_true hlen] at hl
  clear hA hlen hSp hMa hB hbl
  unfold Wa af6 Zq Zm Zl Zo Zs Zd Ze Zc Zt Zn Zi
  simp only[zipI,loadCs] at *
  refine gA ?_
  exact zac (v:=.bool true) (.inl rfl) rfl (by simp) endvP rfl
 rw[decide_eq_false hlen] at hl
 have hro:=fun H=>yee H l (by omega) (by omega) (by omega)
 have hv:=fun H=>hA.valid (hro H)
 obtain ⟨dd,hdd,dd1,dd2⟩:∃ d:Int,max 1 (min 4 l.days)=d∧1≤d∧d≤4:=⟨_,rfl,by omega,by omega⟩
 obtain ⟨H1,v,m1,m2,m3⟩:=hMa [.cells (loadCs l)] .nils .nils (.vs 2 (l.carts.map cE)) dd l.carts.length B (.vs _ (by simp)) dd1 (by omega) (by omega) hB
 have hml:=Ld.madeL_len dd l.carts.length B
 have hmp:=Ld.made_plan (l:=⟨l.road,dd,l.carts⟩) (by dsimp only;omega) B
 dsimp only at hmp
 generalize hq:Ld.madeL dd l.carts.length B=q at *
 rw[hbl] at m1
 have e0:H1[0]?=some (.cells (loadCs l)):=m2.at (by simp) (by simp)
 have r1:=hA.check (hro H1) (by have:=ylm m3.ls (by omega) [];rwa [List.append_nil] at this)
 obtain ⟨y0,y1,y2,y3,y4,y5⟩:=bk' e0
 cases hval:Ld.valid l with
 |false=>
  rw[hval] at hv
  rw[ylu q hval] at r1
  have hvis:IsSl v:=by rcases m3 with ⟨rfl,_⟩|⟨b,rfl,_⟩<;>constructor
  clear hA hlen hro hval hSp hMa hB hbl hml hmp hq e0 m2 m3 dd1 dd2
  unfold Wa af6 Zq Zm Zl Zo Zs Zd Ze Zc Zt Zn Zi
  simp only[zipI,loadCs] at *
  cases hvis
  all_goals
   refine gA ?_
   exact zac (v:=.bool true) (.inl rfl) rfl (by simp) endvP rfl
 |true=>
 rw[hval] at hv
 obtain ⟨hvl,hd,hc4,hcs⟩:=Ld.vl_of hval
 obtain rfl:dd=l.days:=by omega
 rw[yly hval hmp] at r1
 have hres:∀ i r,Ld.brokenR l q=some (i,r)→ckQ l q=((i:Int),(r:Int),0):=fun i r h=>by unfold ckQ;rw[h]
 have hres0:Ld.brokenR l q=none→ckQ l q=(0,0,4):=fun h=>by unfold ckQ;rw[h]
 obtain ⟨⟨ca,cr,ce⟩,hck⟩:∃ x,ckQ l q=x:=⟨_,rfl⟩
 rw[hck] at r1
 have rk:∀ (p:List Int) (cs:List AV) (n:Nat),ints p=cs→n=p.length→Ld.isPlan l p=false→n≤50→∀ (H:List AB) (b:Nat),H[b]?=some (.cells cs)→call (.fn (.func 14) [] []) [.agg (loadCs l),.sl b 0 n 1] H=some (.ret (.tup [.int .i64 0,.int .i64 0,.int .i64 2]),H,[]):=by
  rintro p cs n rfl rfl hp hn H b hb
  have:=hA.check (hro H) (yit (yjv hb rfl) hn)
  rwa [ylz hval hp] at this
 rcases m3 with ⟨rfl,h0⟩|⟨pb,rfl,hb1,hbq⟩
 ·have hn0:l.carts.length=0:=by rw[← hml,h0];rfl
  have k1 := rk [0] [.int .i64 0] 1 rfl rfl (by
   unfold Ld.isPlan
   rw[decide_eq_false (by simp[hn0])];rfl) (by omega)
  have hx:=hres0 (by rw[h0];rfl)
  rw[hck] at hx
  cases hx
  have hend:=ylr C hC call hA l hvl.ev hd
  have HX:=hideP (hb e0)
  have hne0:¬ (0=H1.length):=by omega
  have hbd1:1≤bound:=by decide
  have hsn:∀ H,slCells 1 H .nils=some []:=fun _=>rfl
  clear rk hA hlen hro hval hSp hMa hB hbl hvl hd hc4 hcs hmp hml hq e0 m2 hres hres0 hck h0 hn0
  unfold af6 Zq Zm Zl Zo Zs Zd Ze Zc Zt Zn Zi at hend
  simp only[atP] at hend
  have HE:=hideP hend
  clear hend
  unfold Wa af6 Zq Zm Zl Zo Zs Zd Ze Zc Zt Zn Zi
  simp only[zipI,loadCs] at *
  (repeat (first|(with_reducible refine HE.out _ (HX.out.app _) _ ?_ ?_ ?_ ?_ ?_<;>simp[zal])|((with_reducible apply zak);(focus ((with_reducible apply zba);(focus rfl);(focus rfl);(focus ((conv=>lhs;simp[*,List.getElem?_append_right,List.set_append_right,List.getElem?_cons_zero,List.getElem?_append_left,List.set_append_left,-getElem?_pos,↓zbe,↓zbr,Nat.testBit_eq_decide_div_mod_eq])<;>exact rfl));(focus rfl);(focus rfl)));simp only[addFl])|(with_reducible apply zak;(focus ((conv=>lhs;simp[*,List.getElem?_append_right,List.set_append_right,List.getElem?_cons_zero,List.getElem?_append_left,List.set_append_left,-getElem?_pos,↓zbe,↓zbr,Nat.testBit_eq_decide_div_mod_eq])<;>exact rfl));simp only[addFl])|((with_reducible first|apply zaw|apply zay|apply zas|apply zaq|apply zao|apply zax|apply zar|apply zaz|(apply zap;· simp[*,zab])|(apply zam;· simp[*,zab]));try simp only[Then,Ops])|simp only[Nat.reduceEqDiff,reduceIte,OutB,Then]))
 have hend:=ylt C hC call hA hSp l q ca cr ce hvl hd hmp hml hck (by omega)
 have k1 := rk (q ++ [0]) (ints q ++ [.int .i64 0]) (l.carts.length + 1) (by simp [ints]) (by simp [hml]) (by
  unfold Ld.isPlan
  rw[decide_eq_false (by simp[hml])];rfl) (by omega)
 have k2:∀ x:Int,¬ (x=-1∨(0≤x∧x<l.days))→0<l.carts.length→∀ (H:List AB) (b:Nat),H[b]?=some (.cells ((ints q).tail++[.int .i64 x]))→call (.fn (.func 14) [] []) [.agg (loadCs l),.sl b 0 l.carts.length 1] H=some (.ret (.tup [.int .i64 0,.int .i64 0,.int .i64 2]),H,[]):=by
  intro x hx hc
  refine rk (q.tail++[x]) _ _ (by simp[ints,List.map_tail]) (by simp[hml];omega) ?_ (by omega)
  unfold Ld.isPlan
  rw[Bool.and_eq_false_iff]
  right
  rw[List.all_append,Bool.and_eq_false_iff]
  right
  simp only[List.all_cons,List.all_nil,Bool.and_true,Ld.isDay,Bool.or_eq_false_iff]
  exact ⟨decide_eq_false fun h=>hx (.inl h),decide_eq_false fun h=>hx (.inr h)⟩
 have k3:=k2 l.days (by omega)
 have k4:=k2 (-2) (by omega)
 have hil:(ints q).length=l.carts.length:=by simp[ints,hml]
 have hpls:=zfn q
 obtain ⟨z0,z1,z2,z3,z4,z5⟩:=bk' hbq
 rw[hml] at *
 have hbd:l.carts.length+1≤bound:=by unfold bound;omega
 have hbd1:1≤bound:=by decide
 have hne0:¬ (0=H1.length):=by omega
 have hne1:¬ (pb=H1.length):=by have:=z1;omega
 have hbd0:l.carts.length≤bound:=by omega
 have htk:(ints q).take l.carts.length=ints q:=List.take_of_length_le (by omega)
 have hpt:(ints q).tail.all AV.plain=true:=by rw[List.all_eq_true] at hpls ⊢;exact fun x hx=>hpls x (List.mem_of_mem_tail hx)
 clear rk k2
 have HX:=hideP (And.intro (hb e0) (hb hbq))
 have htt:(ints q).tail.length=l.carts.length - 1:=by simp[hil]
 have htk2:(ints q).tail.take (l.carts.length - 1)=(ints q).tail:=List.take_of_length_le (by omega)
 unfold af6 Zq Zm Zl Zo Zs Zd Ze Zc Zt Zn Zi at hend
 simp only[atP] at hend
 have HE:=hideP hend
 clear hend
 clear hA hlen hro hval hSp hMa hB hbl hvl hd hc4 hcs hmp hml hq e0 m2 hres hres0 hck hbq
 generalize ints q=cs at *
 generalize hcn:l.carts.length=cn at *
 by_cases hn0:cn=0
 ·clear k3 k4 hcn
  subst hn0
  unfold Wa af6 Zq Zm Zl Zo Zs Zd Ze Zc Zt Zn Zi
  simp only[zipI,loadCs] at *
  (repeat (first|(with_reducible refine HE.out _ pb (HX.out.1.app _) (HX.out.2.app _) _ ?_ ?_ ?_ ?_ ?_<;>simp[zal])|((with_reducible apply zak);(focus ((with_reducible apply zba);(focus rfl);(focus rfl);(focus ((conv=>lhs;simp[*,List.getElem?_append_right,List.set_append_right,List.getElem?_cons_zero,List.getElem?_append_left,List.set_append_left,-getElem?_pos,↓zbe,↓zbr,Nat.testBit_eq_decide_div_mod_eq])<;>exact rfl));(focus rfl);(focus rfl)));simp only[addFl])|(with_reducible apply zak;(focus ((conv=>lhs;simp[*,List.getElem?_append_right,List.set_append_right,List.getElem?_cons_zero,List.getElem?_append_left,List.set_append_left,-getElem?_pos,↓zbe,↓zbr,Nat.testBit_eq_decide_div_mod_eq])<;>exact rfl));simp only[addFl])|((with_reducible first|apply zaw|apply zay|apply zas|apply zaq|apply zao|apply zax|apply zar|apply zaz|(apply zap;· simp[*,zab])|(apply zam;· simp[*,zab]));try simp only[Then,Ops])|simp only[Nat.reduceEqDiff,reduceIte,OutB,Then]))
 clear hcn
 have hn1:0<cn:=by omega
 have hn2:(0:Int)<cn:=by omega
 have hn3:(1:Int)≤cn:=by omega
 have hn4:1≤cn:=by omega
 have k3:=k3 hn1
 have k4:=k4 hn1
 by_cases hn5:(cn:Int) - 1=0
 ·have hn6:cn=1:=by omega
  have htl:cs.tail=[]:=List.eq_nil_of_length_eq_zero (by omega)
  rw[htl,List.nil_append] at k3 k4
  subst hn6
  have hsn:∀ H,slCells 1 H (.vs 1 [])=some []:=fun _=>rfl
  unfold Wa af6 Zq Zm Zl Zo Zs Zd Ze Zc Zt Zn Zi
  simp only[zipI,loadCs] at *
  (repeat (first|(with_reducible refine HE.out _ pb (HX.out.1.app _) (HX.out.2.app _) _ ?_ ?_ ?_ ?_ ?_<;>simp[zal])|((with_reducible apply zak);(focus ((with_reducible apply zba);(focus rfl);(focus rfl);(focus ((conv=>lhs;simp[*,List.getElem?_append_right,List.set_append_right,List.getElem?_cons_zero,List.getElem?_append_left,List.set_append_left,-getElem?_pos,↓zbe,↓zbr,Nat.testBit_eq_decide_div_mod_eq])<;>exact rfl));(focus rfl);(focus rfl)));simp only[addFl])|(with_reducible apply zak;(focus ((conv=>lhs;simp[*,List.getElem?_append_right,List.set_append_right,List.getElem?_cons_zero,List.getElem?_append_left,List.set_append_left,-getElem?_pos,↓zbe,↓zbr,Nat.testBit_eq_decide_div_mod_eq])<;>exact rfl));simp only[addFl])|((with_reducible first|apply zaw|apply zay|apply zas|apply zaq|apply zao|apply zax|apply zar|apply zaz|(apply zap;· simp[*,zab])|(apply zam;· simp[*,zab]));try simp only[Then,Ops])|simp only[Nat.reduceEqDiff,reduceIte,OutB,Then]))
 have hcc:cn - 1+1=cn:=by omega
 have hcc2:1+(cn - 1)≤cn:=by omega
 have hcc3:cn - 1≤bound:=by omega
 unfold Wa af6 Zq Zm Zl Zo Zs Zd Ze Zc Zt Zn Zi
 simp only[zipI,loadCs] at *
 (repeat (first|(with_reducible refine HE.out _ pb (HX.out.1.app _) (HX.out.2.app _) _ ?_ ?_ ?_ ?_ ?_<;>simp[zal])|((with_reducible apply zak);(focus ((with_reducible apply zba);(focus rfl);(focus rfl);(focus ((conv=>lhs;simp[*,List.getElem?_append_right,List.set_append_right,List.getElem?_cons_zero,List.getElem?_append_left,List.set_append_left,-getElem?_pos,↓zbe,↓zbr,Nat.testBit_eq_decide_div_mod_eq])<;>exact rfl));(focus rfl);(focus rfl)));simp only[addFl])|(with_reducible apply zak;(focus ((conv=>lhs;simp[*,List.getElem?_append_right,List.set_append_right,List.getElem?_cons_zero,List.getElem?_append_left,List.set_append_left,-getElem?_pos,↓zbe,↓zbr,Nat.testBit_eq_decide_div_mod_eq])<;>exact rfl));simp only[addFl])|((with_reducible first|apply zaw|apply zay|apply zas|apply zaq|apply zao|apply zax|apply zar|apply zaz|(apply zap;· simp[*,zab])|(apply zam;· simp[*,zab]));try simp only[Then,Ops])|simp only[Nat.reduceEqDiff,reduceIte,OutB,Then]))
end Ro
end Ev
end Go.Proofs.YtfpepkbflnendaaGreat
