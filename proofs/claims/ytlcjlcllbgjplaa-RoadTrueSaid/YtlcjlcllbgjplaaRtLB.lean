/- The Go function RoadTrue returns true, for every argument, in every world in which it is called; nothing that was there is turned. No condition. -/
import Derived.Test.YtlcjlcllbgjplaaRtLA
import Derived.Test.YtlcjlcllbgjplaaRtPD
import Derived.Test.YtlcjlcllbgjplaaRtEA
import Derived.Test.YtlcjlcllbgjplaaProg
import Derived.KernelRfl
import Derived.Test.YtlcjlcllbgjplaaRtPF
/- RoadTrue, gone through: its last loop. -/
namespace Go.Proofs.Ytlcjlcllbgjplaa
open Go
namespace Ev
namespace Ro
open K
attribute [local simp] ev1 wantG spineK spine float xnew xval xeff zaa zas zbc zaw zav addFl cellsOf pickC alive slLen slFt binI maxA maxK minA minK aeqK aeqS AV.cells spA zat fillA setAt bitsI nat_nn zbd AV.plain apart
set_option maxRecDepth 100000
set_option maxHeartbeats 4000000
def okB (r:Rd.Road)(ls:List Int)(ld:Int)(q:Rd.Tr × Int):Bool:=decide (Rd.sunk q.1 ld≤Rd.heightR r q.1 q.2 ls r.events.length)
def okR (r:Rd.Road)(ls:List Int)(ld dz:Int)(q:Rd.Tr × Int):Bool:=decide (Rd.sunk q.1 ld≤min q.1.full (Rd.heightR r q.1 q.2 ls r.events.length+dz * q.1.rise))
theorem zol {α:Type}(f:α→Bool)(l:List α)(m:Nat)(q:α)(h:l[m]?=some q):(l.take (m+1)).all f=((l.take m).all f&&f q):=by
 rw[List.take_add_one,h,List.all_append]
 simp
theorem zly (C:Cfg)(hC:C.calm=true)(call:CallF)(hA:LApi call)(hI:InsideC call)(hS:LSunkC call)(r:Rd.Road)(hf:Rd.Fine r)(ps:List (Rd.Tr × Int))(hps:Rd.Parts r ps)(ls:List Int)(n0 a3 a7 ql qe:Nat)(ld bz dz ez:Int)(hld:0≤ld∧ld≤60)(hdz:0≤dz∧dz≤10)
  (hbz:bz=0∧ps.all (okB r ls ld)=false∨bz=1∨bz=2∧ps.all (okB r ls ld)=true) (hez:ez=0∧ps.all (okR r ls ld dz)=true∨ez=4)
  (hh:∀ q∈ps,-600≤Rd.heightR r q.1 q.2 ls r.events.length∧Rd.heightR r q.1 q.2 ls r.events.length≤60) (G:List AB) (hn:n0≤G.length)
  (hF:TrF call r ps ls ld G (.agg [.vs 7 (r.parts.map ptE),.sl qe 0 r.events.length 7])) (h3:HB G a3 (.cells (roadCs r))) (h7:HB G a7 (.cells [.vs 7 (r.parts.map ptE),.sl qe 0 r.events.length 7])) (hl:HB G ql (.cells (stCs (Rd.curT r ps ls r.events.length))))
  (L:List (Nat × AV)) (L3:lk 266 L 3=.ptr a3 0) (L7:lk 266 L 7=.ptr a7 0) (L8:lk 266 L 8=.sl ql 0 r.parts.length 3) (L10:lk 266 L 10=.int .i64 ld) (L16:lk 266 L 16=.int .i64 bz) (L20:lk 266 L 20=.int .i64 dz) (L21:lk 266 L 21=.int .i64 ez):
  Does (ev C call n0 none (atP [1,1,1,1,1,1,1,1,1,1,1] af4.body) { tm:=tmA 266 L,df:=[],hp:=G,tc:=[] })
   (Ends C n0 af4.res fun v _ _=>v=.bool true):=by
 have ha:=fun H=>hA.alive (H:=H)
 have m3:val C (tmA 266 L) (.tmp 3)=.ptr a3 0:=L3
 have m7:val C (tmA 266 L) (.tmp 7)=.ptr a7 0:=L7
 have m8:val C (tmA 266 L) (.tmp 8)=.sl ql 0 r.parts.length 3:=L8
 have m10:val C (tmA 266 L) (.tmp 10)=.int .i64 ld:=L10
 have m16:val C (tmA 266 L) (.tmp 16)=.int .i64 bz:=L16
 have m20:val C (tmA 266 L) (.tmp 20)=.int .i64 dz:=L20
 have m21:val C (tmA 266 L) (.tmp 21)=.int .i64 ez:=L21
 have hp4:=hf.parts
 have hpl:=hps.1
 have hl':=hl
 obtain ⟨D1,D2,D3⟩:=hl
 have HX:=hideP (And.intro hI (And.intro hS (And.intro hf (And.intro hps (And.intro hld (And.intro hdz (And.intro hh (And.intro hF (And.intro h3 (And.intro h7 (And.intro hl' (And.intro hn (And.intro hpl (And.intro hbz hez))))))))))))))
 clear hA hI hS hf hps hld hdz hh hF h3 h7 hl' hpl hbz hez
 unfold af4 Zq Zm Zl Zo Zs Zd Ze Zc Zt Zn Zi
 simp only[atP]
 (repeat (first|((with_reducible apply zad);(focus ((with_reducible apply zar);(focus rfl);(focus rfl);(focus ((conv=>lhs;simp[*,List.getElem?_append_right,List.set_append_right,List.getElem?_cons_zero,List.getElem?_append_left,List.set_append_left,-getElem?_pos,Nat.testBit_eq_decide_div_mod_eq])<;>exact rfl));(focus rfl);(focus rfl)));simp only[addFl])|(with_reducible apply zad;(focus ((conv=>lhs;simp[*,List.getElem?_append_right,List.set_append_right,List.getElem?_cons_zero,List.getElem?_append_left,List.set_append_left,-getElem?_pos,Nat.testBit_eq_decide_div_mod_eq])<;>exact rfl));simp only[addFl])|((with_reducible first|apply zai|apply zak|apply zah|apply zaf|apply zac|apply zaj|apply zag|apply zam|(apply zae;· simp[*,zaa])|(apply zab;· simp[*,zaa]));try simp only[Then,Ops])|simp only[Nat.reduceEqDiff,reduceIte,OutB,Then]))
 with_reducible refine zba hC r.parts.length (by unfold fuelL;omega) (fun m st=>∃ K,st=tsSt a3 a7 ql r.parts.length ld bz dz ez ((ps.take m).all (okB r ls ld)) ((ps.take m).all (okR r ls ld dz)) m (G++K)) ?_ ?_ ?_
 ·refine ⟨[],?_⟩
  simp only[List.take_zero,List.all_nil,List.append_nil]
  unfold tsSt
  exact st_eq (by simp[*,zap,zaq]) rfl rfl rfl
 ·rintro m st hm ⟨K,rfl⟩
  obtain ⟨hI,hS,hf,hps,hld,hdz,hh,hF,h3,h7,hl',hn,hpl,hbz,hez⟩:=HX.out
  obtain ⟨q,hq⟩:∃ q,ps[m]?=some q:=⟨_,List.getElem?_eq_getElem (by rw[hpl];exact hm)⟩
  have hr:=zqa C call hI hS r hf ps hps ls (Rd.curT r ps ls r.events.length) n0 a3 a7 ql qe r.parts.length rfl ld bz dz ez hld hdz ((ps.take m).all (okB r ls ld)) ((ps.take m).all (okR r ls ld dz)) m q hq (Rd.heightR r q.1 q.2 ls r.events.length) (by unfold Rd.curT;rw[List.getElem?_map,hq];rfl) (by unfold Rd.curT;rw[List.length_map,hpl]) (hh q (List.mem_of_getElem? hq)) (G++K) (by simp;omega) (hF.app K) (h3.app K) (h7.app K) (hl'.app K)
  refine Does.mono hr ?_
  rintro e st ⟨rfl,K',h⟩
  refine ⟨K++K',?_⟩
  rw[zol _ _ _ _ hq,zol _ _ _ _ hq,← List.append_assoc]
  exact h
 ·rintro st ⟨K,rfl⟩
  obtain ⟨hI,hS,hf,hps,hld,hdz,hh,hF,h3,h7,hl',hn,hpl,hbz,hez⟩:=HX.out
  rw[List.take_of_length_le (by omega)]
  clear hI hS hf hps hld hdz hh hF h3 h7 hl' HX L3 L7 L8 L10 L16 L20 L21 m3 m7 m8 m10 m16 m20 m21 hpl hp4
  generalize ps.all (okB r ls ld)=A at *
  generalize ps.all (okR r ls ld dz)=R at *
  unfold tsSt
  rcases hbz with ⟨rfl,rfl⟩|rfl|⟨rfl,rfl⟩<;>rcases hez with ⟨rfl,rfl⟩|rfl
  ·(repeat (first|((with_reducible apply zad);(focus ((with_reducible apply zar);(focus rfl);(focus rfl);(focus ((conv=>lhs;simp[*,List.getElem?_append_right,List.set_append_right,List.getElem?_cons_zero,List.getElem?_append_left,List.set_append_left,-getElem?_pos,Nat.testBit_eq_decide_div_mod_eq])<;>exact rfl));(focus rfl);(focus rfl)));simp only[addFl])|(with_reducible apply zad;(focus ((conv=>lhs;simp[*,List.getElem?_append_right,List.set_append_right,List.getElem?_cons_zero,List.getElem?_append_left,List.set_append_left,-getElem?_pos,Nat.testBit_eq_decide_div_mod_eq])<;>exact rfl));simp only[addFl])|((with_reducible first|apply zai|apply zak|apply zah|apply zaf|apply zac|apply zaj|apply zag|apply zam|(apply zae;· simp[*,zaa])|(apply zab;· simp[*,zaa]));try simp only[Then,Ops,OutB,reduceIte])|simp only[Nat.reduceEqDiff,reduceIte,OutB,Then]))
   exact zao (v:=.bool true) (.inl rfl) rfl (by simp;omega) (by simp only[resL,resOf,zal];simp[*,resV]) rfl
  ·(repeat (first|((with_reducible apply zad);(focus ((with_reducible apply zar);(focus rfl);(focus rfl);(focus ((conv=>lhs;simp[*,List.getElem?_append_right,List.set_append_right,List.getElem?_cons_zero,List.getElem?_append_left,List.set_append_left,-getElem?_pos,Nat.testBit_eq_decide_div_mod_eq])<;>exact rfl));(focus rfl);(focus rfl)));simp only[addFl])|(with_reducible apply zad;(focus ((conv=>lhs;simp[*,List.getElem?_append_right,List.set_append_right,List.getElem?_cons_zero,List.getElem?_append_left,List.set_append_left,-getElem?_pos,Nat.testBit_eq_decide_div_mod_eq])<;>exact rfl));simp only[addFl])|((with_reducible first|apply zai|apply zak|apply zah|apply zaf|apply zac|apply zaj|apply zag|apply zam|(apply zae;· simp[*,zaa])|(apply zab;· simp[*,zaa]));try simp only[Then,Ops,OutB,reduceIte])|simp only[Nat.reduceEqDiff,reduceIte,OutB,Then]))
   exact zao (v:=.bool true) (.inl rfl) rfl (by simp;omega) (by simp only[resL,resOf,zal];simp[*,resV]) rfl
  ·(repeat (first|((with_reducible apply zad);(focus ((with_reducible apply zar);(focus rfl);(focus rfl);(focus ((conv=>lhs;simp[*,List.getElem?_append_right,List.set_append_right,List.getElem?_cons_zero,List.getElem?_append_left,List.set_append_left,-getElem?_pos,Nat.testBit_eq_decide_div_mod_eq])<;>exact rfl));(focus rfl);(focus rfl)));simp only[addFl])|(with_reducible apply zad;(focus ((conv=>lhs;simp[*,List.getElem?_append_right,List.set_append_right,List.getElem?_cons_zero,List.getElem?_append_left,List.set_append_left,-getElem?_pos,Nat.testBit_eq_decide_div_mod_eq])<;>exact rfl));simp only[addFl])|((with_reducible first|apply zai|apply zak|apply zah|apply zaf|apply zac|apply zaj|apply zag|apply zam|(apply zae;· simp[*,zaa])|(apply zab;· simp[*,zaa]));try simp only[Then,Ops,OutB,reduceIte])|simp only[Nat.reduceEqDiff,reduceIte,OutB,Then]))
   exact zao (v:=.bool true) (.inl rfl) rfl (by simp;omega) (by simp only[resL,resOf,zal];simp[*,resV]) rfl
  ·(repeat (first|((with_reducible apply zad);(focus ((with_reducible apply zar);(focus rfl);(focus rfl);(focus ((conv=>lhs;simp[*,List.getElem?_append_right,List.set_append_right,List.getElem?_cons_zero,List.getElem?_append_left,List.set_append_left,-getElem?_pos,Nat.testBit_eq_decide_div_mod_eq])<;>exact rfl));(focus rfl);(focus rfl)));simp only[addFl])|(with_reducible apply zad;(focus ((conv=>lhs;simp[*,List.getElem?_append_right,List.set_append_right,List.getElem?_cons_zero,List.getElem?_append_left,List.set_append_left,-getElem?_pos,Nat.testBit_eq_decide_div_mod_eq])<;>exact rfl));simp only[addFl])|((with_reducible first|apply zai|apply zak|apply zah|apply zaf|apply zac|apply zaj|apply zag|apply zam|(apply zae;· simp[*,zaa])|(apply zab;· simp[*,zaa]));try simp only[Then,Ops,OutB,reduceIte])|simp only[Nat.reduceEqDiff,reduceIte,OutB,Then]))
   exact zao (v:=.bool true) (.inl rfl) rfl (by simp;omega) (by simp only[resL,resOf,zal];simp[*,resV]) rfl
  ·(repeat (first|((with_reducible apply zad);(focus ((with_reducible apply zar);(focus rfl);(focus rfl);(focus ((conv=>lhs;simp[*,List.getElem?_append_right,List.set_append_right,List.getElem?_cons_zero,List.getElem?_append_left,List.set_append_left,-getElem?_pos,Nat.testBit_eq_decide_div_mod_eq])<;>exact rfl));(focus rfl);(focus rfl)));simp only[addFl])|(with_reducible apply zad;(focus ((conv=>lhs;simp[*,List.getElem?_append_right,List.set_append_right,List.getElem?_cons_zero,List.getElem?_append_left,List.set_append_left,-getElem?_pos,Nat.testBit_eq_decide_div_mod_eq])<;>exact rfl));simp only[addFl])|((with_reducible first|apply zai|apply zak|apply zah|apply zaf|apply zac|apply zaj|apply zag|apply zam|(apply zae;· simp[*,zaa])|(apply zab;· simp[*,zaa]));try simp only[Then,Ops,OutB,reduceIte])|simp only[Nat.reduceEqDiff,reduceIte,OutB,Then]))
   exact zao (v:=.bool true) (.inl rfl) rfl (by simp;omega) (by simp only[resL,resOf,zal];simp[*,resV]) rfl
  ·(repeat (first|((with_reducible apply zad);(focus ((with_reducible apply zar);(focus rfl);(focus rfl);(focus ((conv=>lhs;simp[*,List.getElem?_append_right,List.set_append_right,List.getElem?_cons_zero,List.getElem?_append_left,List.set_append_left,-getElem?_pos,Nat.testBit_eq_decide_div_mod_eq])<;>exact rfl));(focus rfl);(focus rfl)));simp only[addFl])|(with_reducible apply zad;(focus ((conv=>lhs;simp[*,List.getElem?_append_right,List.set_append_right,List.getElem?_cons_zero,List.getElem?_append_left,List.set_append_left,-getElem?_pos,Nat.testBit_eq_decide_div_mod_eq])<;>exact rfl));simp only[addFl])|((with_reducible first|apply zai|apply zak|apply zah|apply zaf|apply zac|apply zaj|apply zag|apply zam|(apply zae;· simp[*,zaa])|(apply zab;· simp[*,zaa]));try simp only[Then,Ops,OutB,reduceIte])|simp only[Nat.reduceEqDiff,reduceIte,OutB,Then]))
   exact zao (v:=.bool true) (.inl rfl) rfl (by simp;omega) (by simp only[resL,resOf,zal];simp[*,resV]) rfl
end Ro
end Ev
end Go.Proofs.Ytlcjlcllbgjplaa

/- RoadTrue, gone through: heights. -/
namespace Go.Proofs.Ytlcjlcllbgjplaa
open Go
namespace Ev
namespace Ro
open K
attribute [local simp] ev1 wantG spineK spine float xnew xval xeff zaa zas zbc zaw zav addFl cellsOf pickC alive slLen slFt binI maxA maxK minA minK aeqK aeqS AV.cells spA zat fillA setAt bitsI nat_nn zbd AV.plain apart
set_option maxRecDepth 100000
set_option maxHeartbeats 4000000
def ti2 (a3 a7 ql qh np ne p v:Nat)(ld bz dz ez:Int)(S P:Nat)(A:Bool)(m:Nat)(G:List AB):St:={ tm:=tmA 266 [(144,.int .i64 m),(143,.int .i64 np),(142,.sl p 0 np 1),(137,.int .i64 v),(136,.int .i64 ne),(135,.sl qh 0 ne 1),(24,.bool A),(22,.int .i64 v),(21,.int .i64 ez),(20,.int .i64 dz),(16,.int .i64 bz),(14,.int .i64 P),(13,.int .i64 S),(10,.int .i64 ld),(8,.sl ql 0 np 3),(7,.ptr a7 0),(3,.ptr a3 0)],df:=[],hp:=G,tc:=[] }
theorem zyk {α:Type}(f:α→Bool)(l:List α)(m:Nat)(q:α)(h:l[m]?=some q):(l.take (m+1)).any f=((l.take m).any f || f q):=by
 rw[List.take_add_one,h,List.any_append]
 simp
theorem zqb (C:Cfg)(call:CallF)(hI:InsideC call)(r:Rd.Road)(hf:Rd.Fine r)(ps:List (Rd.Tr × Int))(ls:List Int)(n0 a3 a7 ql qe qh p np ne v m:Nat)(hnp:r.parts.length=np)(hne:r.events.length=ne)(hv:v<ne)(ld bz dz ez:Int)(S P:Nat)(A:Bool)(q:Rd.Tr × Int)(hq:ps[m]?=some q)(hm:m<np)(B:List Int)(hbl:B.length=np)(hB:B[m]?=some (Rd.heightR r q.1 q.2 ls (v+1)))(G:List AB)(hn:n0≤G.length)
  (hF:TrF call r ps ls ld G (.agg [.vs 7 (r.parts.map ptE),.sl qe 0 r.events.length 7])) (h7:HB G a7 (.cells [.vs 7 (r.parts.map ptE),.sl qe 0 r.events.length 7])) (hp:HB G p (.cells (ints B))):
  Does (ev C call n0 none (atP [1,1,1,1,1,1,1,1,1,1,0,1,0,0,1,1,0,0,1,1,0,1,0,0] af4.body) (ti2 a3 a7 ql qh np ne p v ld bz dz ez S P A m G))
   (fun e st=>e=.normal∧∃ K,{ st with tm:=keepT [3,7,8,10,13,14,16,20,21,22,24,135,136,137,142,143,144] st.tm }=ti2 a3 a7 ql qh np ne p v ld bz dz ez S P (A || decide (Rd.heightR r q.1 q.2 ls (v+1)<0)) (m+1) (G++K)):=by
 have hp4:=hf.parts
 obtain ⟨lo,hi,hsk,hin⟩:=hF.height m v q hq (by omega)
 have hin':=fun H=>hI H (Rd.heightR r q.1 q.2 ls (v+1)) lo hi
 rw[hin] at hin'
 have hBi:(ints B)[m]?=some (.int .i64 (Rd.heightR r q.1 q.2 ls (v+1))):=by simp[ints,hB]
 have hBi':=ge_of hBi
 have hil:(ints B).length=np:=by simp[ints,hbl]
 have e5:(m:Int)<np:=by omega
 have hwi:IntKind.i64.wrap (↑m+1)=↑m+1:=zau (by omega) (by omega)
 have hsk:=hsk []
 rw[List.append_nil] at hsk
 rw[hne] at hsk h7
 generalize Rd.heightR r q.1 q.2 ls (v+1)=y at *
 have g0:¬ (G.length<n0):=by omega
 have g1:∀ n,¬ (G.length+n<n0):=fun n=>by omega
 have gl:=hp.lt
 have gq:¬ (p=G.length):=by omega
 obtain ⟨B1,B2,B3⟩:=h7
 obtain ⟨D1,D2,D3⟩:=hp
 clear hF hI hf hq hB hbl hin hp4 hn hnp gl hne hv
 unfold af4 Zq Zm Zl Zo Zs Zd Ze Zc Zt Zn Zi ti2
 simp only[atP]
 cases A
 ·(repeat (first|((with_reducible apply zad);(focus ((with_reducible apply zar);(focus rfl);(focus rfl);(focus ((conv=>lhs;simp[*,List.getElem?_append_right,List.set_append_right,List.getElem?_cons_zero,List.getElem?_append_left,List.set_append_left,-getElem?_pos,↓zan,Nat.testBit_eq_decide_div_mod_eq])<;>exact rfl));(focus rfl);(focus rfl)));simp only[addFl])|(with_reducible apply zad;(focus ((conv=>lhs;simp[*,List.getElem?_append_right,List.set_append_right,List.getElem?_cons_zero,List.getElem?_append_left,List.set_append_left,-getElem?_pos,↓zan,Nat.testBit_eq_decide_div_mod_eq])<;>exact rfl));simp only[addFl])|((with_reducible first|apply zai|apply zak|apply zah|apply zaf|apply zac|apply zaj|apply zag|apply zam|(apply zae;· simp[*,zaa])|(apply zab;· simp[*,zaa]));try simp only[Then,Ops,OutB])|simp only[Nat.reduceEqDiff,reduceIte,OutB,Then]))
  refine ⟨by first|rfl|trivial,[.cells [.int .i64 lo,.int .i64 hi]],?_⟩
  simp only[Bool.false_or]
  (refine st_is ?_ ?_ ?_ ?_;(focus (simp[zap,zaq]));(focus rfl);(focus (first|rfl|(simp;done)|(simp[*];done)|(simp;rfl)|(simp[*];omega)|(simp;omega)));(focus (first|rfl|simp)))
 ·(repeat (first|((with_reducible apply zad);(focus ((with_reducible apply zar);(focus rfl);(focus rfl);(focus ((conv=>lhs;simp[*,List.getElem?_append_right,List.set_append_right,List.getElem?_cons_zero,List.getElem?_append_left,List.set_append_left,-getElem?_pos,↓zan,Nat.testBit_eq_decide_div_mod_eq])<;>exact rfl));(focus rfl);(focus rfl)));simp only[addFl])|(with_reducible apply zad;(focus ((conv=>lhs;simp[*,List.getElem?_append_right,List.set_append_right,List.getElem?_cons_zero,List.getElem?_append_left,List.set_append_left,-getElem?_pos,↓zan,Nat.testBit_eq_decide_div_mod_eq])<;>exact rfl));simp only[addFl])|((with_reducible first|apply zai|apply zak|apply zah|apply zaf|apply zac|apply zaj|apply zag|apply zam|(apply zae;· simp[*,zaa])|(apply zab;· simp[*,zaa]));try simp only[Then,Ops,OutB])|simp only[Nat.reduceEqDiff,reduceIte,OutB,Then]))
  refine ⟨by first|rfl|trivial,[.cells [.int .i64 lo,.int .i64 hi]],?_⟩
  simp only[Bool.true_or]
  (refine st_is ?_ ?_ ?_ ?_;(focus (simp[zap,zaq]));(focus rfl);(focus (first|rfl|(simp;done)|(simp[*];done)|(simp;rfl)|(simp[*];omega)|(simp;omega)));(focus (first|rfl|simp)))
def to1 (a3 a7 ql qh np ne:Nat)(ld bz dz ez:Int)(S P:Nat)(v:Nat)(G:List AB):St:={ tm:=tmA 266 [(137,.int .i64 v),(136,.int .i64 ne),(135,.sl qh 0 ne 1),(21,.int .i64 ez),(20,.int .i64 dz),(16,.int .i64 bz),(14,.int .i64 P),(13,.int .i64 S),(10,.int .i64 ld),(8,.sl ql 0 np 3),(7,.ptr a7 0),(3,.ptr a3 0)],df:=[],hp:=G,tc:=[] }
theorem zma (C:Cfg)(hC:C.calm=true)(call:CallF)(hI:InsideC call)(r:Rd.Road)(hf:Rd.Fine r)(ps:List (Rd.Tr × Int))(hps:ps.length=r.parts.length)(ls:List Int)(n0 a3 a7 ql qe qh p np ne v:Nat)(hnp:r.parts.length=np)(hne:r.events.length=ne)(hv:v<ne)(ld bz dz ez:Int)(S P:Nat)(hS:S<1024)(hP:P<1024)(hlow:(∃ n∈Rd.nowR r ps ls (v+1),n<0)→P.testBit v=true)(hhigh:(∀ n∈Rd.nowR r ps ls (v+1),0≤n)→S.testBit v=false)(vs:List AV)(hvl:vs.length=ne)(hvv:vs[v]?=some (.sl p 0 np 1))(G:List AB)(hn:n0≤G.length)
  (hF:TrF call r ps ls ld G (.agg [.vs 7 (r.parts.map ptE),.sl qe 0 r.events.length 7])) (h7:HB G a7 (.cells [.vs 7 (r.parts.map ptE),.sl qe 0 r.events.length 7])) (hh:HB G qh (.cells vs)) (hp:HB G p (.cells (ints (Rd.nowR r ps ls (v+1))))):
  Does (ev C call n0 none (atP [1,1,1,1,1,1,1,1,1,1,0,1,0,0] af4.body) (to1 a3 a7 ql qh np ne ld bz dz ez S P v G))
   (fun e st=>e=.normal∧∃ K,{ st with tm:=keepT [3,7,8,10,13,14,16,20,21,135,136,137] st.tm }=to1 a3 a7 ql qh np ne ld bz dz ez S P (v+1) (G++K)):=by
 have hp4:=hf.parts
 have he10:=hf.events
 have hvv':=ge_of hvv
 have e5:(v:Int)<ne:=by omega
 have hwi:IntKind.i64.wrap (↑v+1)=↑v+1:=zau (by omega) (by omega)
 have hbl:(Rd.nowR r ps ls (v+1)).length=np:=by unfold Rd.nowR;rw[List.length_map,hps,hnp]
 have hh':=hh
 obtain ⟨E1,E2,E3⟩:=hh
 have hp':=hp
 obtain ⟨D1,D2,D3⟩:=hp
 have b1:=zwa (n:=S) (d:=v) (by omega) (by omega)
 have b2:=zwa (n:=P) (d:=v) (by omega) (by omega)
 have HX:=hideP (And.intro hI (And.intro hf (And.intro hps (And.intro hF (And.intro h7 (And.intro hp' (And.intro hn (And.intro hbl (And.intro hlow (And.intro hhigh (And.intro hnp (And.intro hne hv))))))))))))
 have HW:=hideP (And.intro b1 b2)
 clear hI hf hps hF h7 hp' hbl hlow hhigh hh' b1 b2 hnp hne
 unfold af4 Zq Zm Zl Zo Zs Zd Ze Zc Zt Zn Zi to1
 simp only[atP]
 (repeat (first|((with_reducible apply zad);(focus ((with_reducible apply zar);(focus rfl);(focus rfl);(focus ((conv=>lhs;simp[*,List.getElem?_append_right,List.set_append_right,List.getElem?_cons_zero,List.getElem?_append_left,List.set_append_left,-getElem?_pos,Nat.testBit_eq_decide_div_mod_eq])<;>exact rfl));(focus rfl);(focus rfl)));simp only[addFl])|(with_reducible apply zad;(focus ((conv=>lhs;simp[*,List.getElem?_append_right,List.set_append_right,List.getElem?_cons_zero,List.getElem?_append_left,List.set_append_left,-getElem?_pos,Nat.testBit_eq_decide_div_mod_eq])<;>exact rfl));simp only[addFl])|((with_reducible first|apply zai|apply zak|apply zah|apply zaf|apply zac|apply zaj|apply zag|apply zam|(apply zae;· simp[*,zaa])|(apply zab;· simp[*,zaa]));try simp only[Then,Ops])|simp only[Nat.reduceEqDiff,reduceIte,OutB,Then]))
 with_reducible refine zba hC np (by unfold fuelL;have:=HX.out.2.2.2.2.2.2.2.2.2.2.1;omega) (fun m st=>∃ K,st=ti2 a3 a7 ql qh np ne p v ld bz dz ez S P (((Rd.nowR r ps ls (v+1)).take m).any fun n=>decide (n<0)) m (G++K)) ?_ ?_ ?_
 ·refine ⟨[],?_⟩
  simp only[List.take_zero,List.any_nil,List.append_nil]
  unfold ti2
  (refine st_is ?_ ?_ ?_ ?_;(focus (simp[zap,zaq]));(focus rfl);(focus (first|rfl|(simp;done)|(simp[*];done)|(simp;rfl)|(simp[*];omega)|(simp;omega)));(focus (first|rfl|simp)))
 ·rintro m st hm ⟨K,rfl⟩
  obtain ⟨hI,hf,hps,hF,h7,hp',hn,hbl,hlow,hhigh,hnp,hne,hv⟩:=HX.out
  obtain ⟨q,hq⟩:∃ q,ps[m]?=some q:=⟨_,List.getElem?_eq_getElem (by rw[hps,hnp];exact hm)⟩
  have hnow:=Rd.now_get (r:=r) (ls:=ls) (m:=v+1) hq
  have hr:=zqb C call hI r hf ps ls n0 a3 a7 ql qe qh p np ne v m hnp hne hv ld bz dz ez S P (((Rd.nowR r ps ls (v+1)).take m).any fun n=>decide (n<0)) q hq hm _ hbl hnow (G++K) (by simp;omega) (hF.app K) (h7.app K) (hp'.app K)
  refine Does.mono hr ?_
  rintro e st ⟨rfl,K',h⟩
  refine ⟨K++K',?_⟩
  rw[zyk _ _ _ _ hnow,← List.append_assoc]
  exact h
 ·rintro st ⟨K,rfl⟩
  obtain ⟨hI,hf,hps,hF,h7,hp',hn,hbl,hlow,hhigh,hnp,hne,hv⟩:=HX.out
  rw[List.take_of_length_le (by omega)]
  obtain ⟨b1,b2⟩:=HW.out
  unfold ti2
  cases hA:(Rd.nowR r ps ls (v+1)).any fun n=>decide (n<0) with
  |true=>
   rw[hlow (by obtain ⟨n,h1,h2⟩:=List.any_eq_true.1 hA;exact ⟨n,h1,by simpa using h2⟩)] at b2
   simp at b2
   clear hI hf hps hF h7 hp' hbl hlow hhigh hnp hne HX HW b1 hA
   (repeat (first|((with_reducible apply zad);(focus ((with_reducible apply zar);(focus rfl);(focus rfl);(focus ((conv=>lhs;simp[*,List.getElem?_append_right,List.set_append_right,List.getElem?_cons_zero,List.getElem?_append_left,List.set_append_left,-getElem?_pos,Nat.testBit_eq_decide_div_mod_eq])<;>exact rfl));(focus rfl);(focus rfl)));simp only[addFl])|(with_reducible apply zad;(focus ((conv=>lhs;simp[*,List.getElem?_append_right,List.set_append_right,List.getElem?_cons_zero,List.getElem?_append_left,List.set_append_left,-getElem?_pos,Nat.testBit_eq_decide_div_mod_eq])<;>exact rfl));simp only[addFl])|((with_reducible first|apply zai|apply zak|apply zah|apply zaf|apply zac|apply zaj|apply zag|apply zam|(apply zae;· simp[*,zaa])|(apply zab;· simp[*,zaa]));try simp only[Then,Ops,OutB,reduceIte])|simp only[Nat.reduceEqDiff,reduceIte,OutB,Then]))
   refine ⟨by first|rfl|trivial,K,?_⟩
   (refine st_is ?_ ?_ ?_ ?_;(focus (simp[zap,zaq]));(focus rfl);(focus (first|rfl|(simp;done)|(simp[*];done)|(simp;rfl)|(simp[*];omega)|(simp;omega)));(focus (first|rfl|simp)))
  |false=>
   rw[hhigh (fun n hn=>by have:=List.any_eq_false.1 hA n hn;simpa using this)] at b1
   simp at b1
   clear hI hf hps hF h7 hp' hbl hlow hhigh hnp hne HX HW b2 hA
   (repeat (first|((with_reducible apply zad);(focus ((with_reducible apply zar);(focus rfl);(focus rfl);(focus ((conv=>lhs;simp[*,List.getElem?_append_right,List.set_append_right,List.getElem?_cons_zero,List.getElem?_append_left,List.set_append_left,-getElem?_pos,Nat.testBit_eq_decide_div_mod_eq])<;>exact rfl));(focus rfl);(focus rfl)));simp only[addFl])|(with_reducible apply zad;(focus ((conv=>lhs;simp[*,List.getElem?_append_right,List.set_append_right,List.getElem?_cons_zero,List.getElem?_append_left,List.set_append_left,-getElem?_pos,Nat.testBit_eq_decide_div_mod_eq])<;>exact rfl));simp only[addFl])|((with_reducible first|apply zai|apply zak|apply zah|apply zaf|apply zac|apply zaj|apply zag|apply zam|(apply zae;· simp[*,zaa])|(apply zab;· simp[*,zaa]));try simp only[Then,Ops,OutB,reduceIte])|simp only[Nat.reduceEqDiff,reduceIte,OutB,Then]))
   refine ⟨by first|rfl|trivial,K,?_⟩
   (refine st_is ?_ ?_ ?_ ?_;(focus (simp[zap,zaq]));(focus rfl);(focus (first|rfl|(simp;done)|(simp[*];done)|(simp;rfl)|(simp[*];omega)|(simp;omega)));(focus (first|rfl|simp)))
end Ro
end Ev
end Go.Proofs.Ytlcjlcllbgjplaa

/- RoadTrue, gone through: its loops. -/
namespace Go.Proofs.Ytlcjlcllbgjplaa
open Go
namespace Ev
namespace Ro
open K
attribute [local simp] ev1 wantG spineK spine float xnew xval xeff zaa zas zbc zaw zav addFl cellsOf pickC alive slLen slFt binI maxA maxK minA minK aeqK aeqS AV.cells spA zat fillA setAt bitsI nat_nn zbd AV.plain apart
set_option maxRecDepth 100000
set_option maxHeartbeats 4000000
theorem zlz (C:Cfg)(hC:C.calm=true)(call:CallF)(hA:LApi call)(hI:InsideC call)(hS:LSunkC call)(r:Rd.Road)(hf:Rd.Fine r)(ps:List (Rd.Tr × Int))(hps:Rd.Parts r ps)(ls:List Int)(n0 a3 a7 ql qe lo:Nat)(ld bz dz ez:Int)(hld:0≤ld∧ld≤60)(hdz:0≤dz∧dz≤10)
  (hbz:bz=0∧ps.all (okB r ls ld)=false∨bz=1∨bz=2∧ps.all (okB r ls ld)=true) (hez:ez=0∧ps.all (okR r ls ld dz)=true∨ez=4)
  (hh:∀ q∈ps,-600≤Rd.heightR r q.1 q.2 ls r.events.length∧Rd.heightR r q.1 q.2 ls r.events.length≤60) (S P:Nat) (hSb:S<1024) (hPb:P<1024) (hlow:∀ v,v<r.events.length→(∃ n∈Rd.nowR r ps ls (v+1),n<0)→P.testBit v=true) (hhigh:∀ v,v<r.events.length→(∀ n∈Rd.nowR r ps ls (v+1),0≤n)→S.testBit v=false) (hv:AV) (G:List AB) (hn:n0≤G.length)
  (hF:TrF call r ps ls ld G (.agg [.vs 7 (r.parts.map ptE),.sl qe 0 r.events.length 7])) (h3:HB G a3 (.cells (roadCs r))) (h7:HB G a7 (.cells [.vs 7 (r.parts.map ptE),.sl qe 0 r.events.length 7])) (hl:HB G ql (.cells (stCs (Rd.curT r ps ls r.events.length)))) (hts:Hts lo qe ql r.parts.length G (Rd.htsOf r ps ls r.events.length) hv)
  (L:List (Nat × AV)) (L3:lk 266 L 3=.ptr a3 0) (L7:lk 266 L 7=.ptr a7 0) (L8:lk 266 L 8=.sl ql 0 r.parts.length 3) (L9:lk 266 L 9=hv) (L10:lk 266 L 10=.int .i64 ld) (L13:lk 266 L 13=.int .i64 S) (L14:lk 266 L 14=.int .i64 P) (L16:lk 266 L 16=.int .i64 bz) (L20:lk 266 L 20=.int .i64 dz) (L21:lk 266 L 21=.int .i64 ez):
  Does (ev C call n0 none (atP [1,1,1,1,1,1,1,1,1,1] af4.body) { tm:=tmA 266 L,df:=[],hp:=G,tc:=[] })
   (Ends C n0 af4.res fun v _ _=>v=.bool true):=by
 have m3:val C (tmA 266 L) (.tmp 3)=.ptr a3 0:=L3
 have m7:val C (tmA 266 L) (.tmp 7)=.ptr a7 0:=L7
 have m8:val C (tmA 266 L) (.tmp 8)=.sl ql 0 r.parts.length 3:=L8
 have m10:val C (tmA 266 L) (.tmp 10)=.int .i64 ld:=L10
 have m13:val C (tmA 266 L) (.tmp 13)=.int .i64 S:=L13
 have m14:val C (tmA 266 L) (.tmp 14)=.int .i64 P:=L14
 have m16:val C (tmA 266 L) (.tmp 16)=.int .i64 bz:=L16
 have m20:val C (tmA 266 L) (.tmp 20)=.int .i64 dz:=L20
 have m21:val C (tmA 266 L) (.tmp 21)=.int .i64 ez:=L21
 have he10:=hf.events
 have hend:=fun K=>zly C hC call hA hI hS r hf ps hps ls n0 a3 a7 ql qe ld bz dz ez hld hdz hbz hez hh (G++K) (by simp;omega) (hF.app K) (h3.app K) (h7.app K) (hl.app K)
 unfold af4 Zq Zm Zl Zo Zs Zd Ze Zc Zt Zn Zi at hend
 simp only[atP] at hend
 have HE:=hideP hend
 clear hend
 cases hts with
 |none h0=>
  have hz:r.events.length=0:=by have:=congrArg List.length h0;simpa [Rd.htsOf] using this
  have m9:val C (tmA 266 L) (.tmp 9)=.nils:=L9
  clear hA hI hS hf hps hld hdz hbz hez hh hlow hhigh hF h3 h7 hl h0 hz he10
  unfold af4 Zq Zm Zl Zo Zs Zd Ze Zc Zt Zn Zi
  simp only[atP]
  (repeat (first|((with_reducible apply zad);(focus ((with_reducible apply zar);(focus rfl);(focus rfl);(focus ((conv=>lhs;simp[*,List.getElem?_append_right,List.set_append_right,List.getElem?_cons_zero,List.getElem?_append_left,List.set_append_left,-getElem?_pos,Nat.testBit_eq_decide_div_mod_eq])<;>exact rfl));(focus rfl);(focus rfl)));simp only[addFl])|(with_reducible apply zad;(focus ((conv=>lhs;simp[*,List.getElem?_append_right,List.set_append_right,List.getElem?_cons_zero,List.getElem?_append_left,List.set_append_left,-getElem?_pos,Nat.testBit_eq_decide_div_mod_eq])<;>exact rfl));simp only[addFl])|((with_reducible first|apply zai|apply zak|apply zah|apply zaf|apply zac|apply zaj|apply zag|apply zam|(apply zae;· simp[*,zaa])|(apply zab;· simp[*,zaa]));try simp only[Then,Ops])|simp only[Nat.reduceEqDiff,reduceIte,OutB,Then]))
  with_reducible refine zba hC 0 (by unfold fuelL;omega) (fun v st=>st={ tm:=tmA 266 [(137,.int .i64 v),(136,.int .i64 0),(135,.nils),(21,.int .i64 ez),(20,.int .i64 dz),(16,.int .i64 bz),(14,.int .i64 P),(13,.int .i64 S),(10,.int .i64 ld),(8,.sl ql 0 r.parts.length 3),(7,.ptr a7 0),(3,.ptr a3 0)],df:=[],hp:=G,tc:=[] }) ?_ ?_ ?_
  ·exact st_eq (by simp[*,zap,zaq]) rfl rfl rfl
  ·rintro v st hv rfl
   exact absurd hv (by omega)
  ·rintro st rfl
   have hx:=HE.out []
   rw[List.append_nil] at hx
   have HE':=hideP hx
   clear hx HE L3 L7 L8 L9 L10 L13 L14 L16 L20 L21 m3 m7 m8 m9 m10 m13 m14 m16 m20 m21
   (repeat (first|(with_reducible refine HE'.out _ ?_ ?_ ?_ ?_ ?_ ?_ ?_<;>simp[zaq])|((with_reducible apply zad);(focus ((with_reducible apply zar);(focus rfl);(focus rfl);(focus ((conv=>lhs;simp[*,List.getElem?_append_right,List.set_append_right,List.getElem?_cons_zero,List.getElem?_append_left,List.set_append_left,-getElem?_pos,Nat.testBit_eq_decide_div_mod_eq])<;>exact rfl));(focus rfl);(focus rfl)));simp only[addFl])|(with_reducible apply zad;(focus ((conv=>lhs;simp[*,List.getElem?_append_right,List.set_append_right,List.getElem?_cons_zero,List.getElem?_append_left,List.set_append_left,-getElem?_pos,Nat.testBit_eq_decide_div_mod_eq])<;>exact rfl));simp only[addFl])|((with_reducible first|apply zai|apply zak|apply zah|apply zaf|apply zac|apply zaj|apply zag|apply zam|(apply zae;· simp[*,zaa])|(apply zab;· simp[*,zaa]));try simp only[Then,Ops,OutB,reduceIte])|simp only[Nat.reduceEqDiff,reduceIte,OutB,Then]))
 |some qh vs o1 o2 o3 o4 o5 o6=>
  have hhl:(Rd.htsOf r ps ls r.events.length).length=r.events.length:=by simp[Rd.htsOf]
  rw[hhl] at L9
  have m9:val C (tmA 266 L) (.tmp 9)=.sl qh 0 r.events.length 1:=L9
  have o4':=o4
  obtain ⟨O1,O2,O3⟩:=o4
  have HX:=hideP (And.intro hI (And.intro hf (And.intro hps (And.intro hlow (And.intro hhigh (And.intro hF (And.intro h7 (And.intro o4' (And.intro o6 (And.intro hhl hn))))))))))
  clear hA hI hS hf hps hld hdz hbz hez hh hlow hhigh hF h3 h7 hl o1 o2 o3 o4' o5 o6 hhl
  unfold af4 Zq Zm Zl Zo Zs Zd Ze Zc Zt Zn Zi
  simp only[atP]
  (repeat (first|((with_reducible apply zad);(focus ((with_reducible apply zar);(focus rfl);(focus rfl);(focus ((conv=>lhs;simp[*,List.getElem?_append_right,List.set_append_right,List.getElem?_cons_zero,List.getElem?_append_left,List.set_append_left,-getElem?_pos,Nat.testBit_eq_decide_div_mod_eq])<;>exact rfl));(focus rfl);(focus rfl)));simp only[addFl])|(with_reducible apply zad;(focus ((conv=>lhs;simp[*,List.getElem?_append_right,List.set_append_right,List.getElem?_cons_zero,List.getElem?_append_left,List.set_append_left,-getElem?_pos,Nat.testBit_eq_decide_div_mod_eq])<;>exact rfl));simp only[addFl])|((with_reducible first|apply zai|apply zak|apply zah|apply zaf|apply zac|apply zaj|apply zag|apply zam|(apply zae;· simp[*,zaa])|(apply zab;· simp[*,zaa]));try simp only[Then,Ops])|simp only[Nat.reduceEqDiff,reduceIte,OutB,Then]))
  with_reducible refine zba hC r.events.length (by unfold fuelL;omega) (fun v st=>∃ K,st=to1 a3 a7 ql qh r.parts.length r.events.length ld bz dz ez S P v (G++K)) ?_ ?_ ?_
  ·refine ⟨[],?_⟩
   rw[List.append_nil]
   unfold to1
   exact st_eq (by simp[*,zap,zaq]) rfl rfl rfl
  ·rintro v st hv ⟨K,rfl⟩
   obtain ⟨hI,hf,hps,hlow,hhigh,hF,h7,o4,o6,hhl,hn⟩:=HX.out
   obtain ⟨p,g1,g2,g3,g4,g5,g6⟩:=o6.2 v (Rd.nowR r ps ls (v+1)) (by unfold Rd.htsOf;rw[List.getElem?_map,List.getElem?_range hv];rfl)
   have hr:=zma C hC call hI r hf ps hps.1 ls n0 a3 a7 ql qe qh p r.parts.length r.events.length v rfl rfl hv ld bz dz ez S P hSb hPb (hlow v hv) (hhigh v hv) vs (o6.1.trans hhl) g1 (G++K) (by simp;omega) (hF.app K) (h7.app K) (o4.app K) (g6.app K)
   refine Does.mono hr ?_
   rintro e st ⟨rfl,K',h⟩
   refine ⟨K++K',?_⟩
   rw[← List.append_assoc]
   exact h
  ·rintro st ⟨K,rfl⟩
   have HE':=hideP (HE.out K)
   clear HE L3 L7 L8 L9 L10 L13 L14 L16 L20 L21 m3 m7 m8 m9 m10 m13 m14 m16 m20 m21 HX O1 O2 O3
   unfold to1
   (repeat (first|(with_reducible refine HE'.out _ ?_ ?_ ?_ ?_ ?_ ?_ ?_<;>simp[zaq])|((with_reducible apply zad);(focus ((with_reducible apply zar);(focus rfl);(focus rfl);(focus ((conv=>lhs;simp[*,List.getElem?_append_right,List.set_append_right,List.getElem?_cons_zero,List.getElem?_append_left,List.set_append_left,-getElem?_pos,Nat.testBit_eq_decide_div_mod_eq])<;>exact rfl));(focus rfl);(focus rfl)));simp only[addFl])|(with_reducible apply zad;(focus ((conv=>lhs;simp[*,List.getElem?_append_right,List.set_append_right,List.getElem?_cons_zero,List.getElem?_append_left,List.set_append_left,-getElem?_pos,Nat.testBit_eq_decide_div_mod_eq])<;>exact rfl));simp only[addFl])|((with_reducible first|apply zai|apply zak|apply zah|apply zaf|apply zac|apply zaj|apply zag|apply zam|(apply zae;· simp[*,zaa])|(apply zab;· simp[*,zaa]));try simp only[Then,Ops,OutB,reduceIte])|simp only[Nat.reduceEqDiff,reduceIte,OutB,Then]))
end Ro
end Ev
end Go.Proofs.Ytlcjlcllbgjplaa

/- Chapter 05: what is below the water: plain. -/
namespace Go.Proofs.Ytlcjlcllbgjplaa
open Go
namespace Rd
open Clm (Sp Hull spanL mem_span setOf)
theorem surely_sub {r:Road}(hc:canR r (everyR r)=true):andn (surelyR r) (perhapsR r)=0:=by
 refine Nat.eq_of_testBit_eq fun v=>?_
 rw[zgi,Nat.zero_testBit]
 cases hs:(surelyR r).testBit v with
 |false=>rfl
 |true=>
  obtain ⟨hv,H⟩:=(zhr r v).1 hs
  obtain ⟨ls,hl⟩:=(zms r).1 hc
  obtain ⟨i,hi,h1⟩:=H ls hl
  obtain ⟨p,h,ht⟩:=hl.2 i hi
  rw[(zgr r v).2 ⟨hv,ls,hl,i,hi,p,h,ht,h1 p h ht⟩];rfl
section
variable (p:Tr) {a d b:List Evt} {l z m:List Int} (hl:l.length=a.length) (hz:z.length=d.length) (hd:∀ v∈d,v.kind=2) (h:Int)
include hl
end
end Rd
end Go.Proofs.Ytlcjlcllbgjplaa

/- RoadTrue, gone through. -/
namespace Go.Proofs.Ytlcjlcllbgjplaa
open Go
namespace Ev
namespace Ro
open K
attribute [local simp] ev1 wantG spineK spine float xnew xval xeff zaa zas zbc zaw zav addFl cellsOf pickC alive slLen slFt binI maxA maxK minA minK aeqK aeqS AV.cells spA zat fillA setAt bitsI nat_nn zbd AV.plain apart
set_option maxRecDepth 100000
set_option maxHeartbeats 4000000
theorem zug {call:CallF}(hA:LApi call){r:Rd.Road}{ps:List (Rd.Tr × Int)}{ls:List Int}{x:Rd.Road}{ld:Int}(h:Rd.TrueLaw r ps ls x ld)(hps:ps.length=r.parts.length)(hld:0≤ld∧ld≤60){G:List AB}{xv:AV}(hcl:∀ K,roadOf (G++K) xv=some x):TrF call r ps ls ld G xv:=by
 have hp4:=h.fine.parts
 refine ⟨fun p v q hq hv=>?_,fun p q hq=>?_⟩
 ·have hp:p<x.parts.length:=by rw[h.parts,← hps];exact (List.getElem?_eq_some_iff.1 hq).1
  refine ⟨_,_,fun K=>?_,decide_eq_true (h.height p q hq (v+1))⟩
  rw[zwv hA (hcl K) h.fine hp (by rw[h.len];exact hv),if_pos h.can]
 ·have hp:p<x.parts.length:=by rw[h.parts,← hps];exact (List.getElem?_eq_some_iff.1 hq).1
  refine ⟨_,_,fun K=>?_,decide_eq_true (h.sink p q hq)⟩
  rw[hA.sinks (hcl K) p ld (by unfold i64n;omega) (by unfold i64n;omega),show Rd.isPart x p=true from decide_eq_true (by omega),show Rd.isLoad ld=true from decide_eq_true hld]
  have he:Rd.errR x (true&&true)=0:=by
   unfold Rd.errR
   rw[(Rd.valid_iff x).2 h.fine,h.can];rfl
  unfold spanRV
  rw[he]
  rfl
theorem all_i {α:Type}{l:List α}{f:α→Bool}(h:∀ (i:Nat) (q:α),l[i]?=some q→f q=true):l.all f=true:=List.all_eq_true.2 fun q hq=>by
 obtain ⟨i,hi,rfl⟩:=List.getElem_of_mem hq
 exact h i _ (List.getElem?_eq_getElem hi)
theorem zpz (C:Cfg)(hC:C.calm=true)(call:CallF)(hA:LApi call)(hI:InsideC call)(hS:LSunkC call)(ns:List Int)(hD:∀ H,call (.fn (.func 25) [] []) [.vs 1 (ns.map (AV.int .u16))] H=some (.ret (.fn (.func 77) [] [.ptr (H.length+1) 0,.ptr H.length 0]),H++[.cells [.vs 1 (ns.map (AV.int .u16))],.cells [.int .i64 0]],[]))
  (r:Rd.Road) (hT:Rd.Fine r→LTrulyC call r ns) (w:Int) (hw:0≤w∧w≤255) (H:List AB):
  Does (ev C call H.length none af4.body { tm:=tmA af4.ntmps (zipI 0 [.agg (roadCs r),.vs 1 (ns.map (AV.int .u16)),.int .u8 w] []),df:=[],hp:=H,tc:=[] })
   (Ends C H.length af4.res fun v _ _=>v=.bool true):=by
 have hl:=fun H=>hA.long (H:=H) r
 have ha:=fun H=>hA.alive (H:=H)
 by_cases hlen:max r.parts.length r.events.length > 40
 ·rw[decide_eq_true hlen] at hl
  clear hA hlen hT hw hI hD hS
  unfold af4 Zq Zm Zl Zo Zs Zd Ze Zc Zt Zn Zi
  simp only[zipI,roadCs] at *
  (repeat (first|(with_reducible apply zad;(focus ((conv=>lhs;simp[*,Nat.testBit_eq_decide_div_mod_eq])<;>exact rfl));simp only[addFl])|((with_reducible first|apply zai|apply zak|apply zah|apply zaf|apply zac|apply zaj|apply zag|apply zam|(apply zae;· simp[*,zaa])|(apply zab;· simp[*,zaa]));try simp only[Then,Ops])|simp only[Nat.reduceEqDiff,reduceIte,OutB,Then]))
  exact zao (v:=.bool true) (.inl rfl) rfl (by simp) (by simp only[resL,resOf,zal];simp[*,resV]) rfl
 rw[decide_eq_false hlen] at hl
 have hcl:=fun H=>zxd H r (by omega) (by omega)
 have hv:=fun H=>hA.valid (hcl H)
 cases hval:Rd.valid r with
 |false=>
  rw[hval] at hv
  clear hA hlen hcl hval hT hw hI hD hS
  unfold af4 Zq Zm Zl Zo Zs Zd Ze Zc Zt Zn Zi
  simp only[zipI,roadCs] at *
  (repeat (first|(with_reducible apply zad;(focus ((conv=>lhs;simp[*,Nat.testBit_eq_decide_div_mod_eq])<;>exact rfl));simp only[addFl])|((with_reducible first|apply zai|apply zak|apply zah|apply zaf|apply zac|apply zaj|apply zag|apply zam|(apply zae;· simp[*,zaa])|(apply zab;· simp[*,zaa]));try simp only[Then,Ops])|simp only[Nat.reduceEqDiff,reduceIte,OutB,Then]))
  exact zao (v:=.bool true) (.inl rfl) rfl (by simp) (by simp only[resL,resOf,zal];simp[*,resV]) rfl
 |true=>
 rw[hval] at hv
 have hc:=(Rd.valid_iff r).1 hval
 have hp4:=hc.parts
 have he10:=hc.events
 have hww:IntKind.i64.wrap w=w:=zau (by omega) (by omega)
 obtain ⟨ld,hms,hld⟩:∃ ld,w.tmod 61=ld∧0≤ld∧ld≤60:=by
  have h1:=Int.tmod_nonneg 61 hw.1
  have h2:=Int.tmod_lt_of_pos w (show (0:Int)<61 by omega)
  exact ⟨_,rfl,h1,by omega⟩
 have hTc:=hT hc (H++[.cells (roadCs r),.cells [.nils,.nils],.cells [.vs 1 (ns.map (AV.int .u16))],.cells [.int .i64 0]]) (H.length+2+1) (H.length+2) (by omega) (by rw[List.getElem?_append_right (by omega),show H.length+2+1 - H.length=3 by omega];rfl) (by rw[List.getElem?_append_right (by omega),show H.length+2 - H.length=2 by omega];rfl)
 obtain ⟨v,G,tc,hcall,⟨htc,ps,ls,xs,qe,ql,hvv,hps,tr,q1,q2,r1,r2,r3,rfl⟩,hkp⟩:=hTc
 have hG0:HB G H.length (.cells (roadCs r)):=hb (hkp.at (by rw[List.getElem?_append_right (by omega),Nat.sub_self];rfl) (by simp;omega))
 have hG1:HB G (H.length+1) (.cells [.nils,.nils]):=hb (hkp.at (by rw[List.getElem?_append_right (by omega),show H.length+1 - H.length=1 by omega];rfl) (by simp))
 have hft:tc.filter (fun x=>decide (x<H.length))=[]:=List.filter_eq_nil_iff.2 fun j hj=>by have:=htc j hj;simp;omega
 have hlG:(H++[AB.cells (roadCs r),.cells [.nils,.nils],.cells [.vs 1 (ns.map (AV.int .u16))],.cells [.int .i64 0]]).length≤G.length:=hkp.len
 simp only[List.length_append,List.length_cons,List.length_nil] at hlG q1 q2 r3
 have gl1:¬ (H.length+1<H.length):=by omega
 have hnt0:¬ (H.length∈tc):=fun h=>by have:=htc _ h;omega
 have hnt1:¬ (H.length+1∈tc):=fun h=>by have:=htc _ h;omega
 have hlaw:=Rd.true_law hc hps tr ld
 have hxl:=tr.xl
 obtain ⟨xv,hxv⟩:∃ xv,xv=AV.agg [.vs 7 (r.parts.map ptE),.sl qe 0 r.events.length 7]:=⟨_,rfl⟩
 obtain ⟨GX,hGX⟩:∃ GX,GX=G.set (H.length+1) (.cells [.vs 7 (r.parts.map ptE),.sl qe 0 r.events.length 7]):=⟨_,rfl⟩
 have hE:HB GX qe (.cells (evCs xs)):=by rw[hGX];exact (hb r1).set _ (by omega)
 have hL:HB GX ql (.cells (stCs (Rd.curT r ps ls r.events.length))):=by rw[hGX];exact (hb r2).set _ (by omega)
 have hX1:HB GX (H.length+1) (.cells [.vs 7 (r.parts.map ptE),.sl qe 0 r.events.length 7]):=by rw[hGX];exact hG1.here _
 have hX0:HB GX H.length (.cells (roadCs r)):=by rw[hGX];exact hG0.set _ (by omega)
 have hHt:Hts (H.length+4) qe ql r.parts.length GX (Rd.htsOf r ps ls r.events.length) hvv:=by rw[hGX];exact r3.keep fun p y h1 _ _ h4=>h4.set _ (by omega)
 have hclX:∀ K,roadOf (GX++K) xv=some (Rd.trueX r xs):=fun K=>by
  rw[hxv]
  exact zjw (ztf _ r.parts) (zzo (hE.app K).get hxl.symm) (by omega) (by omega)
 have hcl0:roadOf GX xv=some (Rd.trueX r xs):=by have:=hclX [];rwa [List.append_nil] at this
 have hF:=zug hA hlaw hps.1 hld hclX
 generalize hx:Rd.trueX r xs=x at *
 have hval2:=(Rd.valid_iff x).2 hlaw.fine
 have hcan:=hlaw.can
 -- what is returned
 have f1:=hA.clash hcl0 (by unfold okClash;rw[hcan];simp)
 have f1v:clashRV x=.tup [.int .i64 0,.int .i64 4]:=by unfold clashRV;rw[hval2,hcan];rfl
 rw[f1v] at f1
 have f2:=zyh hA hcl0 hlaw.fine hcan
 have f3:=hA.bears hcl0 ld (by unfold i64n;omega)
 rw[show Rd.isLoad ld=true from decide_eq_true hld,num_ok hlaw.fine hcan] at f3
 have f4:=hA.most hcl0
 rw[zvb hlaw.fine hcan] at f4
 have f5:=hA.rest hcl0 ld (by unfold i64n;omega)
 rw[show Rd.isLoad ld=true from decide_eq_true hld,zvb hlaw.fine hcan] at f5
 have hpw:2 ^ x.events.length≤2 ^ 10:=Nat.pow_le_pow_right (by decide) hlaw.fine.events
 have hSl:Rd.surelyR x<2 ^ x.events.length:=Clm.setOf_lt _ _
 have hPl:Rd.perhapsR x<2 ^ x.events.length:=Clm.setOf_lt _ _
 have hz:=zok (a:=Rd.surelyR x) (b:=Rd.perhapsR x) (by omega) (by omega)
 rw[Rd.surely_sub hcan] at hz
 -- what is known of it
 have hbz:Rd.bearsR x ld=0∧ps.all (okB r ls ld)=false∨Rd.bearsR x ld=1∨Rd.bearsR x ld=2∧ps.all (okB r ls ld)=true:=by
  have h3:Rd.bearsR x ld=0∨Rd.bearsR x ld=1∨Rd.bearsR x ld=2:=by
   unfold Rd.bearsR
   split
   ·exact .inr (.inr rfl)
   ·split
    ·exact .inr (.inl rfl)
    ·exact .inl rfl
  rcases h3 with h|h|h
  ·refine .inl ⟨h,?_⟩
   cases ha:ps.all (okB r ls ld) with
   |false=>rfl
   |true=>exact absurd (fun i q hq=>of_decide_eq_true (List.all_eq_true.1 ha q (List.mem_of_getElem? hq))) (hlaw.never h)
  ·exact .inr (.inl h)
  ·exact .inr (.inr ⟨h,all_i fun i q hq=>decide_eq_true (hlaw.bears h i q hq)⟩)
 have hmo:(∃ m:Nat,Rd.mostR x=some m∧(Rd.bearsR x ld=2∧ld≤(m:Int)∨¬ Rd.bearsR x ld=2∧¬ ld≤(m:Int)))∨Rd.mostR x=none∧¬ Rd.bearsR x ld=2:=by
  cases hm:Rd.mostR x with
  |none=>exact .inr ⟨rfl,hlaw.none hm ld.toNat (by omega) (by omega)⟩
  |some m=>
   have:=hlaw.most m hm ld.toNat (by omega) (by omega)
   refine .inl ⟨m,rfl,?_⟩
   by_cases hb:Rd.bearsR x ld=2
   ·exact .inl ⟨hb,by have:=this.1 hb;omega⟩
   ·exact .inr ⟨hb,fun h=>hb (this.2 (by omega))⟩
 have hre:∃ dz ez:Int,(.tup [.int .i64 (((Rd.restR x ld).getD 0:Nat):Int),.int .i64 (if (Rd.restR x ld).isSome then 0 else 4)]:AV)=.tup [.int .i64 dz,.int .i64 ez]∧(0≤dz∧dz≤10)∧(ez=0∧ps.all (okR r ls ld dz)=true∨ez=4):=by
  cases hr:Rd.restR x ld with
  |none=>exact ⟨0,4,rfl,by omega,.inr rfl⟩
  |some d=>
   have:=(Rd.rest_some hr).1
   exact ⟨d,0,rfl,by omega,.inl ⟨rfl,all_i fun i q hq=>decide_eq_true (hlaw.rest d hr i q hq)⟩⟩
 obtain ⟨dz,ez,hre1,hdz,hez⟩:=hre
 rw[hre1] at f5
 have hhb:∀ q∈ps,-600≤Rd.heightR r q.1 q.2 ls r.events.length∧Rd.heightR r q.1 q.2 ls r.events.length≤60:=fun q hq=>by
  obtain ⟨i,hi,rfl⟩:=List.getElem_of_mem hq
  exact Rd.now_bound hc hps tr (Nat.le_refl _) r.events.length (Rd.now_get (List.getElem?_eq_getElem hi))
 have hlGX:GX.length=G.length:=by rw[hGX];simp
 rw[hxv] at hF
 have hend:=fun L=>zlz C hC call hA hI hS r hc ps hps ls H.length H.length (H.length+1) ql qe (H.length+4) ld (Rd.bearsR x ld) dz ez hld hdz hbz hez hhb (Rd.surelyR x) (Rd.perhapsR x) (by omega) (by omega) hlaw.low hlaw.high hvv GX (by omega) hF hX0 hX1 hL hHt L
 unfold af4 Zq Zm Zl Zo Zs Zd Ze Zc Zt Zn Zi at hend
 simp only[atP] at hend
 generalize Rd.surelyR x=S at *
 generalize Rd.perhapsR x=P at *
 generalize Rd.bearsR x ld=bz at *
 generalize Rd.mostR x=mz at *
 have HE:=hideP hend
 obtain ⟨A1,A2,A3⟩:=hG1
 obtain ⟨B1,B2,B3⟩:=hG0
 obtain ⟨D1,D2,D3⟩:=hX1
 rw[hxv] at f1 f2 f3 f4 f5
 have gG:¬ (G.length<H.length):=by omega
 have hGX':G.set (H.length+1) (.cells [.vs 7 (r.parts.map ptE),.sl qe 0 r.events.length 7])=GX:=hGX.symm
 clear hend hA hlen hcl hval hT hw hI hkp htc hc hp4 he10 hF hS hdz hbz hhb hld hX0 hL hE hHt hclX hcl0 hval2 hcan f1v hpw hSl hPl r1 r2 r3 q1 q2 tr hps hlaw hxl hre1 hlGX hlG hGX hx hxv
 simp at hz
 unfold af4 Zq Zm Zl Zo Zs Zd Ze Zc Zt Zn Zi
 simp only[zipI,roadCs] at *
 rcases hmo with ⟨m,rfl,⟨rfl,hle⟩|⟨hb2,hle⟩⟩|⟨rfl,hb2⟩
 ·simp only[Option.getD_some,Option.isSome_some,if_true] at f4
  rcases hez with ⟨rfl,-⟩|rfl
  ·(repeat (first|(with_reducible refine HE.out _ ?_ ?_ ?_ ?_ ?_ ?_ ?_ ?_ ?_ ?_<;>simp[zaq])|((with_reducible apply zad);(focus ((with_reducible apply zar);(focus rfl);(focus rfl);(focus ((conv=>lhs;simp[*,List.getElem?_append_right,List.set_append_right,List.getElem?_cons_zero,List.getElem?_append_left,List.set_append_left,-getElem?_pos,↓zan,↓zaz,Nat.testBit_eq_decide_div_mod_eq])<;>exact rfl));(focus rfl);(focus rfl)));simp only[addFl])|(with_reducible apply zad;(focus ((conv=>lhs;simp[*,List.getElem?_append_right,List.set_append_right,List.getElem?_cons_zero,List.getElem?_append_left,List.set_append_left,-getElem?_pos,↓zan,↓zaz,Nat.testBit_eq_decide_div_mod_eq])<;>exact rfl));simp only[addFl])|((with_reducible first|apply zai|apply zak|apply zah|apply zaf|apply zac|apply zaj|apply zag|apply zam|(apply zae;· simp[*,zaa])|(apply zab;· simp[*,zaa]));try simp only[Then,Ops])|simp only[Nat.reduceEqDiff,reduceIte,OutB,Then]))
  ·(repeat (first|(with_reducible refine HE.out _ ?_ ?_ ?_ ?_ ?_ ?_ ?_ ?_ ?_ ?_<;>simp[zaq])|((with_reducible apply zad);(focus ((with_reducible apply zar);(focus rfl);(focus rfl);(focus ((conv=>lhs;simp[*,List.getElem?_append_right,List.set_append_right,List.getElem?_cons_zero,List.getElem?_append_left,List.set_append_left,-getElem?_pos,↓zan,↓zaz,Nat.testBit_eq_decide_div_mod_eq])<;>exact rfl));(focus rfl);(focus rfl)));simp only[addFl])|(with_reducible apply zad;(focus ((conv=>lhs;simp[*,List.getElem?_append_right,List.set_append_right,List.getElem?_cons_zero,List.getElem?_append_left,List.set_append_left,-getElem?_pos,↓zan,↓zaz,Nat.testBit_eq_decide_div_mod_eq])<;>exact rfl));simp only[addFl])|((with_reducible first|apply zai|apply zak|apply zah|apply zaf|apply zac|apply zaj|apply zag|apply zam|(apply zae;· simp[*,zaa])|(apply zab;· simp[*,zaa]));try simp only[Then,Ops])|simp only[Nat.reduceEqDiff,reduceIte,OutB,Then]))
 ·simp only[Option.getD_some,Option.isSome_some,if_true] at f4
  have hb3:(bz==2)=false:=beq_false_of_ne hb2
  rcases hez with ⟨rfl,-⟩|rfl
  ·(repeat (first|(with_reducible refine HE.out _ ?_ ?_ ?_ ?_ ?_ ?_ ?_ ?_ ?_ ?_<;>simp[zaq])|((with_reducible apply zad);(focus ((with_reducible apply zar);(focus rfl);(focus rfl);(focus ((conv=>lhs;simp[*,List.getElem?_append_right,List.set_append_right,List.getElem?_cons_zero,List.getElem?_append_left,List.set_append_left,-getElem?_pos,↓zan,↓zaz,Nat.testBit_eq_decide_div_mod_eq])<;>exact rfl));(focus rfl);(focus rfl)));simp only[addFl])|(with_reducible apply zad;(focus ((conv=>lhs;simp[*,List.getElem?_append_right,List.set_append_right,List.getElem?_cons_zero,List.getElem?_append_left,List.set_append_left,-getElem?_pos,↓zan,↓zaz,Nat.testBit_eq_decide_div_mod_eq])<;>exact rfl));simp only[addFl])|((with_reducible first|apply zai|apply zak|apply zah|apply zaf|apply zac|apply zaj|apply zag|apply zam|(apply zae;· simp[*,zaa])|(apply zab;· simp[*,zaa]));try simp only[Then,Ops])|simp only[Nat.reduceEqDiff,reduceIte,OutB,Then]))
  ·(repeat (first|(with_reducible refine HE.out _ ?_ ?_ ?_ ?_ ?_ ?_ ?_ ?_ ?_ ?_<;>simp[zaq])|((with_reducible apply zad);(focus ((with_reducible apply zar);(focus rfl);(focus rfl);(focus ((conv=>lhs;simp[*,List.getElem?_append_right,List.set_append_right,List.getElem?_cons_zero,List.getElem?_append_left,List.set_append_left,-getElem?_pos,↓zan,↓zaz,Nat.testBit_eq_decide_div_mod_eq])<;>exact rfl));(focus rfl);(focus rfl)));simp only[addFl])|(with_reducible apply zad;(focus ((conv=>lhs;simp[*,List.getElem?_append_right,List.set_append_right,List.getElem?_cons_zero,List.getElem?_append_left,List.set_append_left,-getElem?_pos,↓zan,↓zaz,Nat.testBit_eq_decide_div_mod_eq])<;>exact rfl));simp only[addFl])|((with_reducible first|apply zai|apply zak|apply zah|apply zaf|apply zac|apply zaj|apply zag|apply zam|(apply zae;· simp[*,zaa])|(apply zab;· simp[*,zaa]));try simp only[Then,Ops])|simp only[Nat.reduceEqDiff,reduceIte,OutB,Then]))
 ·simp only[Option.getD_none,Option.isSome_none,Bool.false_eq_true,if_false] at f4
  have hb3:(bz==2)=false:=beq_false_of_ne hb2
  rcases hez with ⟨rfl,-⟩|rfl
  ·(repeat (first|(with_reducible refine HE.out _ ?_ ?_ ?_ ?_ ?_ ?_ ?_ ?_ ?_ ?_<;>simp[zaq])|((with_reducible apply zad);(focus ((with_reducible apply zar);(focus rfl);(focus rfl);(focus ((conv=>lhs;simp[*,List.getElem?_append_right,List.set_append_right,List.getElem?_cons_zero,List.getElem?_append_left,List.set_append_left,-getElem?_pos,↓zan,↓zaz,Nat.testBit_eq_decide_div_mod_eq])<;>exact rfl));(focus rfl);(focus rfl)));simp only[addFl])|(with_reducible apply zad;(focus ((conv=>lhs;simp[*,List.getElem?_append_right,List.set_append_right,List.getElem?_cons_zero,List.getElem?_append_left,List.set_append_left,-getElem?_pos,↓zan,↓zaz,Nat.testBit_eq_decide_div_mod_eq])<;>exact rfl));simp only[addFl])|((with_reducible first|apply zai|apply zak|apply zah|apply zaf|apply zac|apply zaj|apply zag|apply zam|(apply zae;· simp[*,zaa])|(apply zab;· simp[*,zaa]));try simp only[Then,Ops])|simp only[Nat.reduceEqDiff,reduceIte,OutB,Then]))
  ·(repeat (first|(with_reducible refine HE.out _ ?_ ?_ ?_ ?_ ?_ ?_ ?_ ?_ ?_ ?_<;>simp[zaq])|((with_reducible apply zad);(focus ((with_reducible apply zar);(focus rfl);(focus rfl);(focus ((conv=>lhs;simp[*,List.getElem?_append_right,List.set_append_right,List.getElem?_cons_zero,List.getElem?_append_left,List.set_append_left,-getElem?_pos,↓zan,↓zaz,Nat.testBit_eq_decide_div_mod_eq])<;>exact rfl));(focus rfl);(focus rfl)));simp only[addFl])|(with_reducible apply zad;(focus ((conv=>lhs;simp[*,List.getElem?_append_right,List.set_append_right,List.getElem?_cons_zero,List.getElem?_append_left,List.set_append_left,-getElem?_pos,↓zan,↓zaz,Nat.testBit_eq_decide_div_mod_eq])<;>exact rfl));simp only[addFl])|((with_reducible first|apply zai|apply zak|apply zah|apply zaf|apply zac|apply zaj|apply zag|apply zam|(apply zae;· simp[*,zaa])|(apply zab;· simp[*,zaa]));try simp only[Then,Ops])|simp only[Nat.reduceEqDiff,reduceIte,OutB,Then]))
end Ro
end Ev
end Go.Proofs.Ytlcjlcllbgjplaa

/- The code of functions of the laws is that of the program. Printed by program. -/
namespace Go.Proofs.Ytlcjlcllbgjplaa
open Go Go.Proofs
namespace Ev
set_option maxRecDepth 1000000
theorem is4 : ∃ F, Try.prog.funcs[4]? = some F ∧ (F.name == "runtime.NumGoroutine")=false∧compFn Try.prog F=some af4.strip:=⟨_,Try.func4,by kernel_rfl,by kernel_rfl⟩
end Ev
end Go.Proofs.Ytlcjlcllbgjplaa

/- The code of functions of the laws is that of the program. Printed by program. -/
namespace Go.Proofs.Ytlcjlcllbgjplaa
open Go Go.Proofs
namespace Ev
set_option maxRecDepth 1000000
theorem is24 : ∃ F, Try.prog.funcs[24]? = some F ∧ (F.name == "runtime.NumGoroutine")=false∧compFn Try.prog F=some af24.strip:=⟨_,Try.func24,by kernel_rfl,by kernel_rfl⟩
end Ev
end Go.Proofs.Ytlcjlcllbgjplaa

/- The code of functions of the laws is that of the program. Printed by program. -/
namespace Go.Proofs.Ytlcjlcllbgjplaa
open Go Go.Proofs
namespace Ev
set_option maxRecDepth 1000000
theorem is25 : ∃ F, Try.prog.funcs[25]? = some F ∧ (F.name == "runtime.NumGoroutine")=false∧compFn Try.prog F=some af25.strip:=⟨_,Try.func25,by kernel_rfl,by kernel_rfl⟩
end Ev
end Go.Proofs.Ytlcjlcllbgjplaa

/- The code of functions of the laws is that of the program. Printed by program. -/
namespace Go.Proofs.Ytlcjlcllbgjplaa
open Go Go.Proofs
namespace Ev
set_option maxRecDepth 1000000
theorem is27 : ∃ F, Try.prog.funcs[27]? = some F ∧ (F.name == "runtime.NumGoroutine")=false∧compFn Try.prog F=some af27.strip:=⟨_,Try.func27,by kernel_rfl,by kernel_rfl⟩
end Ev
end Go.Proofs.Ytlcjlcllbgjplaa

/- The code of functions of the laws is that of the program. Printed by program. -/
namespace Go.Proofs.Ytlcjlcllbgjplaa
open Go Go.Proofs
namespace Ev
set_option maxRecDepth 1000000
theorem is28 : ∃ F, Try.prog.funcs[28]? = some F ∧ (F.name == "runtime.NumGoroutine")=false∧compFn Try.prog F=some af28.strip:=⟨_,Try.func28,by kernel_rfl,by kernel_rfl⟩
end Ev
end Go.Proofs.Ytlcjlcllbgjplaa

/- The code of functions of the laws is that of the program. Printed by program. -/
namespace Go.Proofs.Ytlcjlcllbgjplaa
open Go Go.Proofs
namespace Ev
set_option maxRecDepth 1000000
theorem is77 : ∃ F, Try.prog.funcs[77]? = some F ∧ (F.name == "runtime.NumGoroutine")=false∧compFn Try.prog F=some af77.strip:=⟨_,Try.func77,by kernel_rfl,by kernel_rfl⟩
end Ev
end Go.Proofs.Ytlcjlcllbgjplaa

/- The functions that the law RoadTrue goes through itself. Printed by program. -/
namespace Go.Proofs.Ytlcjlcllbgjplaa
open Go Go.Proofs
namespace Ev
def treeRoadTrue:FT:=(.node 25 af25 (.node 22 af22 (.node 12 af12 (.node 4 af4 .leaf .leaf) .leaf) (.node 24 af24 .leaf .leaf)) (.node 28 af28 (.node 27 af27 .leaf .leaf) (.node 77 af77 .leaf .leaf)))
theorem zgj : FT.All (fun k af => ∃ F, Try.prog.funcs[k]? = some F ∧ (F.name == "runtime.NumGoroutine")=false∧compFn Try.prog F=some af.strip) treeRoadTrue:=
 ⟨is25,⟨is22,⟨is12,⟨is4,trivial,trivial⟩,trivial⟩,⟨is24,trivial,trivial⟩⟩,⟨is28,⟨is27,trivial,trivial⟩,⟨is77,trivial,trivial⟩⟩⟩
end Ev
end Go.Proofs.Ytlcjlcllbgjplaa

/- An argument that is a list of numbers. -/
namespace Go.Proofs.Ytlcjlcllbgjplaa
open Go Go.Proofs Go.ChangeShapes Go.WideShapes Go.ChangeAt Go.RowKit Go.Deep
theorem zvu:Try.prog.cellsOf 111=1:=by kernel_rfl
def U16:Type:={ n:Int // 0≤n∧n≤65535 }
set_option maxRecDepth 100000 in
theorem ztl {H:Type}{enc:TypeId × Value→H}{W:World}{v:Value}{d:DataW H}{p:List MemPlace}{base:Nat}
  (hv:Value.okWide Try.prog W .any base 40 v) (h:DataW.Trod enc Try.prog W 0 (fun _=>true) true 40 v d p):
  ∃ x:List Int,(∀ n∈x,0≤n∧n≤65535)∧Ev.VR W (fun _=>False) Ev.nomu (.vs 1 (x.map (Ev.AV.int .u16))) v:=by
 obtain ⟨a,len,cap,rfl⟩:=okWide_slice Try.underlying40 hv
 obtain ⟨fuel,hf⟩:=h
 obtain ⟨l, x, h1, h2⟩ := Ev.Ro.row_vr (α := U16) (k := 1) ⟨0, by decide⟩ (fun n => [.int .u16 n.1]) (fun n => Ev.AV.int .u16 n.1) (by omega) (fun _ => rfl) (fun _ => rfl) (fun y j x r h1 h2 => by
   match j,h1,h2 with
   |0,h1,h2=>cases h1;cases h2;exact .int
   |j+1,h1,h2=>simp at h2) Try.underlying40 zvu
  (fun _ _ h => by
   obtain ⟨y,h⟩:=h
   obtain ⟨n,h1,_,h2⟩:=DataW.trod_int Try.underlying111 h
   exact ⟨⟨n,zrf h2⟩,h1⟩) ⟨_,hf⟩
 have h1':([.slice a len cap]:List Value)=[x]:=h1
 simp only[List.cons.injEq,and_true] at h1'
 subst h1'
 refine ⟨l.map (·.1),fun n hn=>?_,?_⟩
 ·obtain ⟨y,_,rfl⟩:=List.mem_map.1 hn
  exact y.2
 ·rw[List.map_map];exact h2
end Go.Proofs.Ytlcjlcllbgjplaa

/- The Go function RoadTrue returns true, for every argument, in every world in which it is called; nothing that was there is turned. No condition. -/
namespace Go.Proofs.Ytlcjlcllbgjplaa
open Go Go.Proofs Go.ChangeShapes Go.WideShapes Go.ChangeAt Go.RowKit
namespace Ev
namespace Ro
open K
theorem lawRoadTrue (W:World)(r:Rd.Road){v0:Value}(hv0:VR W (fun _=>False) nomu (.agg (roadCs r)) v0)(x1:List Int)(b1:∀ n∈x1,0≤n∧n≤65535){v1:Value}(hv1:VR W (fun _=>False) nomu (.vs 1 (x1.map (AV.int .u16))) v1)(x2:Int)(b2:(Lit.int .u8 x2).wf=true){v2:Value}(hv2:VR W (fun _=>False) nomu (.int .u8 x2) v2):CallsIn Fence.wide 0 Try.prog 4 #[v0,v1,v2] W fun e W'=>e=.returned (.bool true)∧Below W.heap.size W W':=by
 have hz:∀ {f:Nat} {af:AFunc},(cfgL treeRoadTrue).exth f=none→FT.find treeRoadTrue f=some af→Has (cfgL treeRoadTrue) f af:=fun h1 h2=>has_of rfl h1 h2 rfl
 have la:=fun n=>lapi (t:=treeRoadTrue) (hz rfl (by kernel_rfl)) n
 have k:Has (cfgL treeRoadTrue) 4 af4:=hz rfl (by kernel_rfl)
 obtain ⟨v,hp,tc,H',h1,h2,_⟩:=zbw (C:=cfgL treeRoadTrue) (n:=4) (first:=[]) (captured:=[]) (args:=[.agg (roadCs r),.vs 1 (x1.map (AV.int .u16)),.int .u8 x2]) (H:=[]) (Q:=fun v _ _=>v=.bool true) rfl k.ext k.exth k.fns k.whole (le' rfl) (zpz (cfgL treeRoadTrue) rfl _ (la 3) (fun H n a b=>zax rfl (hz rfl (by kernel_rfl)) (le' rfl) rfl (zqi (cfgL treeRoadTrue) _ H n a b)) (fun H p ld h1 h2 h3 h4=>zax rfl (hz rfl (by kernel_rfl)) (le' rfl) rfl (zkl (cfgL treeRoadTrue) rfl _ H p ld h1 h2 h3 h4)) x1 (fun H=>zed rfl (hz rfl (by kernel_rfl)) (le' rfl) (by simp[refs,refsL]) (zvm (cfgL treeRoadTrue) _ x1 H)) r (fun hc=>zlx rfl (hz rfl (by kernel_rfl)) (fun b u=>zvo rfl (hz rfl (by kernel_rfl)) x1 b1 b u) (fun H p ld h1 h2 h3 h4=>zax rfl (hz rfl (by kernel_rfl)) (le' rfl) rfl (zkl (cfgL treeRoadTrue) rfl _ H p ld h1 h2 h3 h4)) (fun H a b=>zax rfl (hz rfl (by kernel_rfl)) (le' rfl) rfl (zuh (cfgL treeRoadTrue) _ H a b)) hc) x2 (zvx b2) [])
 subst h2
 refine (zjq (tblL zgj) h1 trivial (zbj _ _ _) (rargs:=#[v0,v1,v2]) ⟨rfl,fun i y r hy hr=>?_⟩).mono ?_
 ·match i,hy,hr with
  |0,hy,hr=>cases hy;cases hr;exact hv0
  |1,hy,hr=>cases hy;cases hr;exact hv1
  |2,hy,hr=>cases hy;cases hr;exact hv2
  |i+3,hy,hr=>simp at hy
 ·rintro e W' ⟨⟨w,rfl,hw⟩,bel⟩
  exact ⟨by rw[zzy hw W],bel⟩
end Ro
end Ev
set_option maxRecDepth 100000 in
theorem zgp (os:Os)(started:os.Started)(H:Type)(enc:TypeId × Value→H):
  ReturnsInHanded {} Try.checked os 4 .any (Rows.roadTrueSpec.pre6 enc Try.prog Try.f4 Rows.roadTrueRow.domain false) (Rows.roadTrueSpec.post enc Try.prog Try.f4 false true false false):=by
 refine returnsInHanded_of_change (C:=Try.checked) zlt started (by kernel_rfl) Try.func4
  (ChangeSpec.witness6 (enc:=enc) (C:=Try.checked) false ⟨#[],#[noRoad,.slice none 0 0,.int .u8 0],[]⟩ 8 (by kernel_rfl) (by kernel_rfl) (by kernel_rfl) (by kernel_rfl)) ?_
 intro W base args ds gs before hval0 hW hcnd _
 have hval:∀ (j:Nat) t v,Try.f4.params[j]?=some t→args[j]?=some v→Value.okWide Try.prog W .any base t v:=hval0
 have hW':=hW
 obtain ⟨p,q,hA0,hV,rfl,hfz,hnd⟩:=hW
 have hA:DataW.TrodAll enc Try.prog W 0 (fun _=>true) true Try.f4.params.toList args.toList ds p:=hA0
 rw[Try.params4] at hA hval
 obtain ⟨v0,vs0,d0,ds0,p0,q0,hargs0,rfl,rfl,h0,hA1⟩:=trodAll_cons hA
 obtain ⟨v1,vs1,d1,ds1,p1,q1,rfl,rfl,rfl,h1,hA2⟩:=trodAll_cons hA1
 obtain ⟨v2,vs2,d2,ds2,p2,q2,rfl,rfl,rfl,h2,hA3⟩:=trodAll_cons hA2
 obtain ⟨rfl,rfl,rfl⟩:=trodAll_nil hA3
 obtain rfl:args=#[v0,v1,v2]:=Array.ext' hargs0
 obtain ⟨rfl,rfl,rfl⟩:=trodVars_none hV
 clear hA0 hval0
 obtain ⟨r,hx0⟩:=ztm (hval 0 25 v0 rfl rfl) h0
 obtain ⟨x1,b1,hx1⟩:=ztl (hval 1 40 v1 rfl rfl) h1
 obtain ⟨x2,rfl,rfl,rfl,wf2⟩:=open_int Try.underlying5 (hval 2 5 v2 rfl rfl) h2
 simp only[List.append_nil] at hW'
 have hlt:∀ x∈(p0++(p1++([]++[]))),x.block<W.heap.size:=fun x hx=>by simpa using hW'.lt x (by simpa using hx)
 refine (callsIn_wide.1 (Ev.Ro.lawRoadTrue W r hx0 x1 b1 hx1 x2 wf2 .int)).mono fun e W' ⟨he,bel⟩=>?_
 subst he
 refine ⟨_,rfl,_,_,_,[],(p0++(p1++([]++[]))),[],by simpa using hW',?_,?_,?_,bel.frame _,fun h=>by cases h⟩
 ·exact trodAll_mk1 (shut_bool Try.underlying4 true)
 ·exact trodAll_cons_mk (Below.trod laidOut' (by kernel_rfl) (of_decide_eq_true (by kernel_rfl)) h0 bel (fun x hx=>hlt x (by simp[hx]))) (trodAll_cons_mk (Below.trod laidOut' (by kernel_rfl) (of_decide_eq_true (by kernel_rfl)) h1 bel (fun x hx=>hlt x (by simp[hx]))) (trodAll_cons_mk (shut_int Try.underlying5 wf2) (trodAll_mk0)))
 ·exact rfl
theorem roadTrue_holds:Rows.RoadTrueSaid:=
 OpenClaim.holds_of_wide 4 Try.f4 rfl rfl rfl rfl rfl rfl rfl ⟨rfl,rfl,rfl,rfl,rfl⟩ rfl rfl rfl rfl rfl (by kernel_rfl) Try.func4 (by kernel_rfl)
  (of_decide_eq_true (by kernel_rfl)) (by unfold Func.isWrapper;first|(rw[if_pos (by decide +kernel)];kernel_rfl)|(rw[if_neg (by decide +kernel)];exact ⟨rfl,rfl⟩))
  (fun os started H enc _=>zgp os started H enc)
#print axioms roadTrue_holds
end Go.Proofs.Ytlcjlcllbgjplaa
