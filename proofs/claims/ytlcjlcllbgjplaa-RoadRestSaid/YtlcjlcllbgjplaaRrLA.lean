/- The Go function RoadRest returns true, for every argument, in every world in which it is called; nothing that was there is turned. No condition. -/
import Derived.Test.YtlcjlcllbgjplaaRoEA
import Derived.Test.YtlcjlcllbgjplaaRoPG
import Derived.Test.YtlcjlcllbgjplaaProg
import Derived.KernelRfl
/- The code of functions of the laws, for the evaluator. Printed by program. -/
namespace Go.Proofs.Ytlcjlcllbgjplaa
open Go
namespace Ev
def af32:AFunc:=⟨27,[(.tmp 4)],(.seq (.ops [⟨0,(some 4),(.mov (.val (.bool false))),none,0⟩]) (.seq (.ops [⟨0,(some 8),(.load (some 2) (.tmp 1)),none,0⟩,⟨1,(some 5),(.alloc [.nils,.nils]),none,0⟩,⟨2,none,(.store 2 (.tmp 5) (.tmp 8)),none,0⟩]) (.seq (.seq (.ops [⟨0,(some 9),(.mov (.tmp 0)),none,0⟩,⟨1,(some 10),(.bin .gtr (.tmp 9) (.val (.int .i64 0))),none,0⟩]) (.cond (.tmp 10) (.draw [⟨0,(some 11),(.load (some 2) (.tmp 1)),none,0⟩,⟨1,(some 12),(.mov (.tmp 0)),none,0⟩,⟨2,(some 13),(.call (.val (.fn (Fn.func 33) [] [])) [(.tmp 12)]),none,2⟩,⟨3,(some 14),(.call (.val (.fn (Fn.func 29) [] [])) [(.tmp 11),(.tmp 13)]),none,7⟩,⟨4,none,(.store 2 (.tmp 5) (.tmp 14)),none,15⟩]) .skip)) (.seq (.ops [⟨0,(some 16),(.load (some 2) (.tmp 5)),none,0⟩,⟨1,(some 17),(.load none (.tmp 2)),none,0⟩,⟨2,(some 18),(.call (.val (.fn (Fn.func 16) [] [])) [(.tmp 16),(.tmp 17)]),none,0⟩,⟨3,(some 15),(.mov (.tmp 18)),none,0⟩,⟨4,(some 19),(.extract (.tmp 15) 0),none,0⟩,⟨5,(some 20),(.extract (.tmp 15) 1),none,0⟩,⟨6,(some 6),(.mov (.tmp 19)),none,0⟩,⟨7,(some 7),(.mov (.tmp 20)),none,0⟩]) (.seq (.ops [⟨0,(some 21),(.mov (.tmp 7)),none,0⟩,⟨1,(some 22),(.bin .eql (.tmp 21) (.val (.int .i64 0))),none,0⟩,⟨2,(some 23),(.mov (.tmp 22)),none,0⟩,⟨3,(some 24),(.mov (.tmp 6)),(some (23,true)),0⟩,⟨4,(some 25),(.bin .eql (.tmp 24) (.val (.int .i64 2))),(some (23,true)),0⟩,⟨5,(some 26),(.pick (.tmp 23) (.tmp 25) (.val (.bool false))),none,0⟩,⟨6,(some 4),(.mov (.tmp 26)),none,0⟩]) .ret)))))⟩
end Ev
end Go.Proofs.Ytlcjlcllbgjplaa

/- The code of functions of the laws, for the evaluator. Printed by program. -/
namespace Go.Proofs.Ytlcjlcllbgjplaa
open Go
namespace Ev
def af7:AFunc:=⟨135,[(.tmp 4)],(.seq (.ops [⟨0,(some 2),(.box (.tmp 0)),none,0⟩,⟨1,(some 4),(.mov (.val (.bool false))),none,0⟩]) (.seq (.seq (.ops [⟨0,(some 13),(.load (some 2) (.tmp 2)),none,0⟩,⟨1,(some 14),(.call (.val (.fn (Fn.func 22) [] [])) [(.tmp 13)]),none,0⟩,⟨2,(some 15),(.mov (.tmp 14)),none,0⟩,⟨3,(some 16),(.load (some 2) (.tmp 2)),(some (15,false)),0⟩,⟨4,(some 17),(.call (.val (.fn (Fn.func 23) [] [])) [(.tmp 16)]),(some (15,false)),0⟩,⟨5,(some 18),(.not (.tmp 17)),(some (15,false)),0⟩,⟨6,(some 19),(.pick (.tmp 15) (.val (.bool true)) (.tmp 18)),none,0⟩,⟨7,(some 20),(.mov (.tmp 19)),none,0⟩,⟨8,(some 21),(.fieldA 1 (.tmp 2)),(some (20,false)),0⟩,⟨9,(some 22),(.load none (.tmp 21)),(some (20,false)),0⟩,⟨10,(some 23),(.len (.tmp 22)),(some (20,false)),0⟩,⟨11,(some 24),(.bin .eql (.tmp 23) (.val (.int .i64 10))),(some (20,false)),0⟩,⟨12,(some 25),(.pick (.tmp 20) (.val (.bool true)) (.tmp 24)),none,0⟩]) (.cond (.tmp 25) (.seq (.ops [⟨0,(some 26),(.call (.val (.fn (Fn.func 21) [] [])) []),none,0⟩,⟨1,(some 4),(.mov (.tmp 26)),none,0⟩]) .ret) .skip)) (.seq (.ops [⟨0,(some 27),(.mov (.tmp 1)),none,0⟩,⟨1,(some 28),(.conv .i64 (.tmp 27)),none,0⟩,⟨2,(some 29),(.bin .rem (.tmp 28) (.val (.int .i64 61))),none,0⟩,⟨3,(some 5),(.alloc [(.int .i64 0)]),none,0⟩,⟨4,none,(.store 1 (.tmp 5) (.tmp 29)),none,0⟩]) (.seq (.ops [⟨0,(some 31),(.load (some 2) (.tmp 2)),none,0⟩,⟨1,(some 32),(.load none (.tmp 5)),none,0⟩,⟨2,(some 33),(.call (.val (.fn (Fn.func 17) [] [])) [(.tmp 31),(.tmp 32)]),none,0⟩,⟨3,(some 30),(.mov (.tmp 33)),none,0⟩,⟨4,(some 34),(.extract (.tmp 30) 0),none,0⟩,⟨5,(some 35),(.extract (.tmp 30) 1),none,0⟩,⟨6,(some 6),(.mov (.tmp 34)),none,0⟩,⟨7,(some 7),(.mov (.tmp 35)),none,0⟩]) (.seq (.ops [⟨0,(some 37),(.load (some 2) (.tmp 2)),none,0⟩,⟨1,(some 38),(.load none (.tmp 5)),none,0⟩,⟨2,(some 39),(.bin .sub (.tmp 38) (.val (.int .i64 1))),none,0⟩,⟨3,(some 40),(.max [(.val (.int .i64 0)),(.tmp 39)]),none,0⟩,⟨4,(some 41),(.call (.val (.fn (Fn.func 17) [] [])) [(.tmp 37),(.tmp 40)]),none,0⟩,⟨5,(some 36),(.mov (.tmp 41)),none,0⟩,⟨6,(some 42),(.extract (.tmp 36) 0),none,0⟩,⟨7,(some 43),(.extract (.tmp 36) 1),none,0⟩,⟨8,(some 8),(.mov (.tmp 42)),none,0⟩,⟨9,(some 9),(.mov (.tmp 43)),none,0⟩]) (.seq (.ops [⟨0,(some 45),(.load (some 2) (.tmp 2)),none,0⟩,⟨1,(some 46),(.load none (.tmp 5)),none,0⟩,⟨2,(some 47),(.call (.val (.fn (Fn.func 16) [] [])) [(.tmp 45),(.tmp 46)]),none,0⟩,⟨3,(some 44),(.mov (.tmp 47)),none,0⟩,⟨4,(some 48),(.extract (.tmp 44) 0),none,0⟩,⟨5,(some 49),(.extract (.tmp 44) 1),none,0⟩,⟨6,(some 10),(.mov (.tmp 48)),none,0⟩,⟨7,(some 11),(.mov (.tmp 49)),none,0⟩]) (.seq (.seq (.ops [⟨0,(some 50),(.mov (.tmp 11)),none,0⟩,⟨1,(some 51),(.bin .neq (.tmp 50) (.val (.int .i64 0))),none,0⟩]) (.cond (.tmp 51) (.seq (.ops [⟨0,(some 52),(.mov (.tmp 11)),none,0⟩,⟨1,(some 53),(.bin .eql (.tmp 52) (.val (.int .i64 10))),none,0⟩,⟨2,(some 54),(.mov (.tmp 53)),none,0⟩,⟨3,(some 55),(.mov (.tmp 7)),(some (54,true)),0⟩,⟨4,(some 56),(.mov (.tmp 11)),(some (54,true)),0⟩,⟨5,(some 57),(.bin .eql (.tmp 55) (.tmp 56)),(some (54,true)),0⟩,⟨6,(some 58),(.pick (.tmp 54) (.tmp 57) (.val (.bool false))),none,0⟩,⟨7,(some 59),(.mov (.tmp 58)),none,0⟩,⟨8,(some 60),(.mov (.tmp 9)),(some (59,true)),0⟩,⟨9,(some 61),(.mov (.tmp 11)),(some (59,true)),0⟩,⟨10,(some 62),(.bin .eql (.tmp 60) (.tmp 61)),(some (59,true)),0⟩,⟨11,(some 63),(.pick (.tmp 59) (.tmp 62) (.val (.bool false))),none,0⟩,⟨12,(some 64),(.mov (.tmp 63)),none,0⟩,⟨13,(some 65),(.mov (.tmp 6)),(some (64,true)),0⟩,⟨14,(some 66),(.bin .eql (.tmp 65) (.val (.int .i64 0))),(some (64,true)),0⟩,⟨15,(some 67),(.pick (.tmp 64) (.tmp 66) (.val (.bool false))),none,0⟩,⟨16,(some 68),(.mov (.tmp 67)),none,0⟩,⟨17,(some 69),(.call (.val (.fn (Fn.func 21) [] [])) []),(some (68,true)),0⟩,⟨18,(some 70),(.pick (.tmp 68) (.tmp 69) (.val (.bool false))),none,0⟩,⟨19,(some 4),(.mov (.tmp 70)),none,0⟩]) .ret) .skip)) (.seq (.ops [⟨0,(some 71),(.mkfn (Fn.func 32) [] [(.tmp 2),(.tmp 5)]),none,0⟩,⟨1,(some 12),(.mov (.tmp 71)),none,0⟩]) (.seq (.seq (.ops [⟨0,(some 72),(.mov (.tmp 7)),none,0⟩,⟨1,(some 73),(.bin .eql (.tmp 72) (.val (.int .i64 0))),none,0⟩,⟨2,(some 74),(.mov (.tmp 73)),none,0⟩,⟨3,(some 75),(.mov (.tmp 6)),(some (74,true)),0⟩,⟨4,(some 76),(.bin .eql (.tmp 75) (.val (.int .i64 0))),(some (74,true)),0⟩,⟨5,(some 77),(.pick (.tmp 74) (.tmp 76) (.val (.bool false))),none,0⟩,⟨6,(some 78),(.mov (.tmp 10)),none,0⟩,⟨7,(some 79),(.bin .eql (.tmp 78) (.val (.int .i64 2))),none,0⟩,⟨8,(some 80),(.eq .bool true (.tmp 77) (.tmp 79)),none,0⟩,⟨9,(some 81),(.mov (.tmp 80)),none,0⟩,⟨10,(some 82),(.mov (.tmp 7)),(some (81,false)),0⟩,⟨11,(some 83),(.bin .eql (.tmp 82) (.val (.int .i64 0))),(some (81,false)),0⟩,⟨12,(some 84),(.mov (.tmp 83)),(some (81,false)),0⟩,⟨13,(some 85),(.mov (.tmp 9)),(some (84,true)),0⟩,⟨14,(some 86),(.bin .neq (.tmp 85) (.val (.int .i64 0))),(some (84,true)),0⟩,⟨15,(some 87),(.mov (.tmp 86)),(some (84,true)),0⟩,⟨16,(some 88),(.mov (.tmp 8)),(some (87,false)),0⟩,⟨17,(some 89),(.mov (.tmp 6)),(some (87,false)),0⟩,⟨18,(some 90),(.bin .gtr (.tmp 88) (.tmp 89)),(some (87,false)),0⟩,⟨19,(some 91),(.pick (.tmp 87) (.val (.bool true)) (.tmp 90)),(some (84,true)),0⟩,⟨20,(some 92),(.pick (.tmp 84) (.tmp 91) (.val (.bool false))),(some (81,false)),0⟩,⟨21,(some 93),(.pick (.tmp 81) (.val (.bool true)) (.tmp 92)),none,0⟩]) (.cond (.tmp 93) (.seq (.ops [⟨0,(some 4),(.mov (.val (.bool false))),none,0⟩]) .ret) .skip)) (.seq (.seq (.ops [⟨0,(some 94),(.mov (.tmp 7)),none,0⟩,⟨1,(some 95),(.bin .neq (.tmp 94) (.val (.int .i64 0))),none,0⟩]) (.cond (.tmp 95) (.seq (.ops [⟨0,(some 96),(.mov (.tmp 7)),none,0⟩,⟨1,(some 97),(.bin .eql (.tmp 96) (.val (.int .i64 4))),none,0⟩,⟨2,(some 98),(.mov (.tmp 97)),none,0⟩,⟨3,(some 99),(.mov (.tmp 6)),(some (98,true)),0⟩,⟨4,(some 100),(.bin .eql (.tmp 99) (.val (.int .i64 0))),(some (98,true)),0⟩,⟨5,(some 101),(.pick (.tmp 98) (.tmp 100) (.val (.bool false))),none,0⟩,⟨6,(some 102),(.mov (.tmp 101)),none,0⟩,⟨7,(some 103),(.mov (.tmp 12)),(some (102,true)),0⟩,⟨8,(some 104),(.call (.tmp 103) [(.val (.int .i64 10))]),(some (102,true)),0⟩,⟨9,(some 105),(.not (.tmp 104)),(some (102,true)),0⟩,⟨10,(some 106),(.pick (.tmp 102) (.tmp 105) (.val (.bool false))),none,0⟩,⟨11,(some 107),(.mov (.tmp 106)),none,0⟩,⟨12,(some 108),(.call (.val (.fn (Fn.func 21) [] [])) []),(some (107,true)),0⟩,⟨13,(some 109),(.pick (.tmp 107) (.tmp 108) (.val (.bool false))),none,0⟩,⟨14,(some 4),(.mov (.tmp 109)),none,0⟩]) .ret) .skip)) (.seq (.ops [⟨0,(some 110),(.mov (.tmp 6)),none,0⟩,⟨1,(some 111),(.bin .geq (.tmp 110) (.val (.int .i64 0))),none,0⟩,⟨2,(some 112),(.mov (.tmp 111)),none,0⟩,⟨3,(some 113),(.mov (.tmp 6)),(some (112,true)),0⟩,⟨4,(some 114),(.bin .leq (.tmp 113) (.val (.int .i64 10))),(some (112,true)),0⟩,⟨5,(some 115),(.pick (.tmp 112) (.tmp 114) (.val (.bool false))),none,0⟩,⟨6,(some 116),(.mov (.tmp 115)),none,0⟩,⟨7,(some 117),(.mov (.tmp 12)),(some (116,true)),0⟩,⟨8,(some 118),(.mov (.tmp 6)),(some (116,true)),0⟩,⟨9,(some 119),(.call (.tmp 117) [(.tmp 118)]),(some (116,true)),0⟩,⟨10,(some 120),(.pick (.tmp 116) (.tmp 119) (.val (.bool false))),none,0⟩,⟨11,(some 121),(.mov (.tmp 120)),none,0⟩,⟨12,(some 122),(.mov (.tmp 6)),(some (121,true)),0⟩,⟨13,(some 123),(.bin .eql (.tmp 122) (.val (.int .i64 0))),(some (121,true)),0⟩,⟨14,(some 124),(.mov (.tmp 123)),(some (121,true)),0⟩,⟨15,(some 125),(.mov (.tmp 12)),(some (124,false)),0⟩,⟨16,(some 126),(.mov (.tmp 6)),(some (124,false)),0⟩,⟨17,(some 127),(.bin .sub (.tmp 126) (.val (.int .i64 1))),(some (124,false)),0⟩,⟨18,(some 128),(.call (.tmp 125) [(.tmp 127)]),(some (124,false)),0⟩,⟨19,(some 129),(.not (.tmp 128)),(some (124,false)),0⟩,⟨20,(some 130),(.pick (.tmp 124) (.val (.bool true)) (.tmp 129)),(some (121,true)),0⟩,⟨21,(some 131),(.pick (.tmp 121) (.tmp 130) (.val (.bool false))),none,0⟩,⟨22,(some 132),(.mov (.tmp 131)),none,0⟩,⟨23,(some 133),(.call (.val (.fn (Fn.func 21) [] [])) []),(some (132,true)),0⟩,⟨24,(some 134),(.pick (.tmp 132) (.tmp 133) (.val (.bool false))),none,0⟩,⟨25,(some 4),(.mov (.tmp 134)),none,0⟩]) .ret)))))))))))⟩
end Ev
end Go.Proofs.Ytlcjlcllbgjplaa

/- RoadRest, gone through. -/
namespace Go.Proofs.Ytlcjlcllbgjplaa
open Go
namespace Ev
namespace Ro
open K
set_option maxRecDepth 100000
set_option maxHeartbeats 4000000
def LRestC (call:CallF):Prop:=∀ (H:List AB) (n:Int),call (.fn (.func 33) [] []) [.int .i64 n] H=some (.ret (evE (Rd.restE n)),H,[])
theorem zqf {call:CallF}(hA:LApi call){H:List AB}{v:AV}{r:Rd.Road}(hr:roadOf H v=some r)(hf:Rd.Fine r)(hcan:Rd.canR r (Rd.everyR r)=true){load:Int}(hl:0≤load∧load≤60):call (.fn (.func 16) [] []) [v,.int .i64 load] H=some (.ret (.tup [.int .i64 (Rd.bearsR r load),.int .i64 0]),H,[]):=by
  rw[hA.bears hr load (by unfold i64n;omega)]
  have he:Rd.errR r (Rd.isLoad load)=0:=by
    unfold Rd.errR
    rw[(Rd.valid_iff r).2 hf,hcan,show Rd.isLoad load=true from decide_eq_true hl];rfl
  unfold numRV
  rw[he];rfl
theorem zxk (C:Cfg)(call:CallF)(hA:LApi call)(r:Rd.Road)(hW:WithC call r)(hR:LRestC call)(hf:Rd.Fine r)(h9:r.events.length≤9)(hcan:Rd.canR r (Rd.everyR r)=true)(load:Int)(hl:0≤load∧load≤60)(G:List AB)(b1 b2:Nat)(h1:G[b1]?=some (.cells [.vs 7 (r.parts.map ptE),.vs 7 (r.events.map evE)]))(h2:G[b2]?=some (.cells [.int .i64 load]))(n:Int)(hn:0≤n∧n≤10):
    Does (ev C call G.length none af32.body { tm:=tmA af32.ntmps (zipI 0 [.int .i64 n,.ptr b1 0,.ptr b2 0] []),df:=[],hp:=G,tc:=[] })
      (Ends C G.length af32.res fun v _hp tc=>v=.bool (Rd.sureR r n load)∧tc=[]):=by
  obtain ⟨x0,x1,x2,x3,x4,x5⟩:=bk' h1
  obtain ⟨y0,y1,y2,y3,y4,y5⟩:=bk' h2
  have hpp:=hf.parts
  have hb2:Rd.bearsR r load=2↔Rd.sureR r 0 load=true:=Rd.bears_two r load
  by_cases hn0:n=0
  · subst hn0
    have hB:=fun H=>zqf hA (zpa H r (by omega) (by omega)) hf hcan hl
    simp only[roadCs] at hB
    clear hA hW hR h1 h2
    have e:Rd.sureR r 0 load=(Rd.bearsR r load==2):=by rw[Bool.eq_iff_iff,← hb2];simp
    rw[e]
    generalize Rd.bearsR r load=k at *
    clear hb2 e hf hcan hl hn
    unfold af32
    simp only[zipI] at *
    (repeat (first|(with_reducible apply zal;(focus ((conv=>lhs;simp[*,ev1,wantG,spineK,spine,float,xnew,xval,xeff,zaa,zab,zap,zae,zad,addFl,cellsOf,pickC,alive,slLen,slFt,binI,maxA,maxK,minA,minK,aeqK,aeqS,AV.cells, spA,zac,fillA,setAt,bitsI,nat_nn,zaq,AV.plain,apart,Nat.testBit_eq_decide_div_mod_eq])<;>exact rfl));simp only[addFl])|((with_reducible first|apply zam|apply zao|apply zak|apply zai|apply zag|apply zan|apply zaj|apply zas|(apply zah;· simp[*,zaa])|(apply zaf;· simp[*,zaa]));try simp only[Then,Ops])|simp only[Nat.reduceEqDiff,reduceIte,OutB,Then]))
    exact zat (v:=.bool (k==2)) (.inl rfl) rfl (by simp) (by simp only[resL,resOf,zar];simp[*,resV]) ⟨rfl,by simp⟩
  · have hn1:0<n:=by omega
    have hRn:=fun H=>hR H n
    obtain ⟨H1,b,c1,c2,c3,c4⟩:=hW (G++[.cells [.vs 7 (r.parts.map ptE),.vs 7 (r.events.map evE)]]) (Rd.restE n)
    have hbl:b<H1.length:=get_lt c4
    have g0:G.length<H1.length:=by simp at c3;omega
    have hro:roadOf (H1.set G.length (.cells [.vs 7 (r.parts.map ptE),.sl b 0 (r.events.length+1) 7])) (.agg [.vs 7 (r.parts.map ptE),.sl b 0 (r.events.length+1) 7])=some (Rd.addR r (Rd.restE n)):=by
      refine zlp (zuk _ _) (yay ?_ (by simp)) (by omega) (by simp;omega)
      rw[List.getElem?_set_ne (by simp at c3;omega)]
      exact c4
    have hB:=zqf hA hro (Rd.fine_rest hf h9 (by omega) hn.2) (by rw[Rd.rest_can];exact hcan) hl
    have e:Rd.sureR r n load=(Rd.bearsR (Rd.addR r (Rd.restE n)) load==2):=by rw[Bool.eq_iff_iff,← Rd.rest_sure,← Rd.bears_two];simp
    rw[e]
    generalize Rd.bearsR (Rd.addR r (Rd.restE n)) load=k at *
    have z1:H1[b2]?=some (.cells [.int .i64 load]):=c2.at (by rw[List.getElem?_append_left (get_lt h2)];exact h2) (by simp)
    have z2:(H1.set G.length (.cells [.vs 7 (r.parts.map ptE),.sl b 0 (r.events.length+1) 7]))[b2]?=some (.cells [.int .i64 load]):=by rw[List.getElem?_set_ne (by have:=get_lt h2;omega)];exact z1
    have z3:H1[G.length]?=some (.cells [.vs 7 (r.parts.map ptE),.vs 7 (r.events.map evE)]):=c2.at (by simp) (by simp)
    obtain ⟨w0,w1,w2,w3,w4,w5⟩:=bk' z2
    obtain ⟨u0,u1,u2,u3,u4,u5⟩:=bk' z3
    have z4:=get_lt z1
    clear hA hW hR h1 h2 hb2 e hf hcan hl hn hro c2 c3 c4 hbl z1 z2 z3 h9 hpp
    simp only[Rd.restE,evE] at c1 hRn
    unfold af32
    simp only[zipI] at *
    (repeat (first|((with_reducible apply zal);(focus ((with_reducible apply zbi);(focus rfl);(focus rfl);(focus ((conv=>lhs;simp[*,spine,float,xnew,xval,xeff,zaa,zab,zap,zae,zad,addFl,cellsOf,pickC,alive,slLen,slFt,binI,maxA,maxK,minA,minK,aeqK,aeqS,AV.cells,spA,zac,List.getElem?_append_right,List.set_append_right,List.set_cons_zero,List.set_cons_succ,List.getElem?_cons_zero,List.getElem?_cons_succ,List.getElem?_append_left,List.getElem?_set_ne,List.getElem?_set_self,List.set_append_left,List.length_set,-getElem?_pos,↓zau,↓zbm, fillA,setAt,bitsI,nat_nn,zaq,AV.plain,apart,Nat.testBit_eq_decide_div_mod_eq])<;>exact rfl));(focus rfl);(focus rfl)));simp only[addFl])|(with_reducible apply zal;(focus ((conv=>lhs;simp[*,ev1,wantG,spineK,spine,float,xnew,xval,xeff,zaa,zab,zap,zae,zad,addFl,cellsOf,pickC,alive,slLen,slFt,binI,maxA,maxK,minA,minK,aeqK,aeqS,AV.cells,List.getElem?_append_right,List.set_append_right,List.set_cons_zero,List.set_cons_succ,List.getElem?_cons_zero,List.getElem?_cons_succ,List.getElem?_append_left,List.getElem?_set_ne,List.getElem?_set_self,List.set_append_left,List.length_set,-getElem?_pos, ↓zau,↓zbm, spA,zac,fillA,setAt,bitsI,nat_nn,zaq,AV.plain,apart,Nat.testBit_eq_decide_div_mod_eq])<;>exact rfl));simp only[addFl])|((with_reducible first|apply zam|apply zao|apply zak|apply zai|apply zag|apply zan|apply zaj|apply zas|(apply zah;· simp[*,zaa])|(apply zaf;· simp[*,zaa]));try simp only[Then,Ops])|simp only[Nat.reduceEqDiff,reduceIte,OutB,Then]))
    exact zat (v:=.bool (k==2)) (.inl rfl) rfl (by simp;omega) (by simp only[resL,resOf,zar];simp[*,resV]) ⟨rfl,by simp⟩
theorem yav {r:Rd.Road}(hf:Rd.Fine r)(hcan:Rd.canR r (Rd.everyR r)=true)(o:Option Nat):findRV r true o=.tup [.int .i64 ((o.getD 0:Nat):Int),.int .i64 (if o.isSome then 0 else 4)]:=by
  have he:Rd.errR r true=0:=by
    unfold Rd.errR
    rw[(Rd.valid_iff r).2 hf,hcan];rfl
  unfold findRV
  rw[he];rfl
theorem yaw {r:Rd.Road}(hf:Rd.Fine r)(hcan:Rd.canR r (Rd.everyR r)=false)(o:Option Nat):findRV r true o=.tup [.int .i64 0,.int .i64 10]:=by
  have he:Rd.errR r true=10:=by
    unfold Rd.errR
    rw[(Rd.valid_iff r).2 hf,hcan];rfl
  unfold findRV
  rw[he];rfl
theorem num_no {r:Rd.Road}(hf:Rd.Fine r)(hcan:Rd.canR r (Rd.everyR r)=false)(n:Int):numRV r true n=.tup [.int .i64 0,.int .i64 10]:=by
  have he:Rd.errR r true=10:=by
    unfold Rd.errR
    rw[(Rd.valid_iff r).2 hf,hcan];rfl
  unfold numRV
  rw[he];rfl
theorem num_ok {r:Rd.Road}(hf:Rd.Fine r)(hcan:Rd.canR r (Rd.everyR r)=true)(n:Int):numRV r true n=.tup [.int .i64 n,.int .i64 0]:=by
  have he:Rd.errR r true=0:=by
    unfold Rd.errR
    rw[(Rd.valid_iff r).2 hf,hcan];rfl
  unfold numRV
  rw[he];rfl
def AfterC (call:CallF)(r:Rd.Road):Prop:=∀ (load:Int),0≤load∧load≤60→∀ (G:List AB) (b1 b2:Nat),G[b1]?=some (.cells [.vs 7 (r.parts.map ptE),.vs 7 (r.events.map evE)])→G[b2]?=some (.cells [.int .i64 load])→∀ n:Int,0≤n∧n≤10→call (.fn (.func 32) [] [.ptr b1 0,.ptr b2 0]) [.int .i64 n] G=some (.ret (.bool (Rd.sureR r n load)),G,[])
theorem zrr (C:Cfg)(call:CallF)(hA:LApi call)(r:Rd.Road)(hK:Rd.Fine r→r.events.length≤9→Rd.canR r (Rd.everyR r)=true→AfterC call r)(x:Int)(hx:0≤x∧x≤255)(H:List AB):
    Does (ev C call H.length none af7.body { tm:=tmA af7.ntmps (zipI 0 [.agg (roadCs r),.int .u8 x] []),df:=[],hp:=H,tc:=[] })
      (Ends C H.length af7.res fun v _ _=>v=.bool true):=by
  have hl:=fun H=>hA.long (H:=H) r
  have ha:=fun H=>hA.alive (H:=H)
  by_cases hlen:max r.parts.length r.events.length > 40
  · rw[decide_eq_true hlen] at hl
    clear hA hlen hK hx
    unfold af7
    simp only[zipI,roadCs] at *
    (repeat (first|(with_reducible apply zal;(focus ((conv=>lhs;simp[*,ev1,wantG,spineK,spine,float,xnew,xval,xeff,zaa,zab,zap,zae,zad,addFl,cellsOf,pickC,alive,slLen,slFt,binI,maxA,maxK,minA,minK,aeqK,aeqS,AV.cells, spA,zac,fillA,setAt,bitsI,nat_nn,zaq,AV.plain,apart,Nat.testBit_eq_decide_div_mod_eq])<;>exact rfl));simp only[addFl])|((with_reducible first|apply zam|apply zao|apply zak|apply zai|apply zag|apply zan|apply zaj|apply zas|(apply zah;· simp[*,zaa])|(apply zaf;· simp[*,zaa]));try simp only[Then,Ops])|simp only[Nat.reduceEqDiff,reduceIte,OutB,Then]))
    exact zat (v:=.bool true) (.inl rfl) rfl (by simp) (by simp only[resL,resOf,zar];simp[*,resV]) rfl
  rw[decide_eq_false hlen] at hl
  have hro:=fun H=>zpa H r (by omega) (by omega)
  have hv:=fun H=>hA.valid (hro H)
  cases hval:Rd.valid r with
  |false=>
    rw[hval] at hv
    clear hA hlen hro hval hK hx
    unfold af7
    simp only[zipI,roadCs] at *
    (repeat (first|(with_reducible apply zal;(focus ((conv=>lhs;simp[*,ev1,wantG,spineK,spine,float,xnew,xval,xeff,zaa,zab,zap,zae,zad,addFl,cellsOf,pickC,alive,slLen,slFt,binI,maxA,maxK,minA,minK,aeqK,aeqS,AV.cells, spA,zac,fillA,setAt,bitsI,nat_nn,zaq,AV.plain,apart,Nat.testBit_eq_decide_div_mod_eq])<;>exact rfl));simp only[addFl])|((with_reducible first|apply zam|apply zao|apply zak|apply zai|apply zag|apply zan|apply zaj|apply zas|(apply zah;· simp[*,zaa])|(apply zaf;· simp[*,zaa]));try simp only[Then,Ops])|simp only[Nat.reduceEqDiff,reduceIte,OutB,Then]))
    exact zat (v:=.bool true) (.inl rfl) rfl (by simp) (by simp only[resL,resOf,zar];simp[*,resV]) rfl
  |true=>
  rw[hval] at hv
  have hf:=(Rd.valid_iff r).1 hval
  have he10:=hf.events
  by_cases h10:r.events.length=10
  · clear hA hlen hro hval hK hx hf he10
    unfold af7
    simp only[zipI,roadCs] at *
    (repeat (first|(with_reducible apply zal;(focus ((conv=>lhs;simp[*,ev1,wantG,spineK,spine,float,xnew,xval,xeff,zaa,zab,zap,zae,zad,addFl,cellsOf,pickC,alive,slLen,slFt,binI,maxA,maxK,minA,minK,aeqK,aeqS,AV.cells, spA,zac,fillA,setAt,bitsI,nat_nn,zaq,AV.plain,apart,Nat.testBit_eq_decide_div_mod_eq])<;>exact rfl));simp only[addFl])|((with_reducible first|apply zam|apply zao|apply zak|apply zai|apply zag|apply zan|apply zaj|apply zas|(apply zah;· simp[*,zaa])|(apply zaf;· simp[*,zaa]));try simp only[Then,Ops])|simp only[Nat.reduceEqDiff,reduceIte,OutB,Then]))
    exact zat (v:=.bool true) (.inl rfl) rfl (by simp) (by simp only[resL,resOf,zar];simp[*,resV]) rfl
  have h10':¬ ((r.events.length:Int)=10):=by omega
  have h10b:((r.events.length:Int)==10)=false:=by simpa using h10'
  have hw:IntKind.i64.wrap x=x:=zaz (by omega) (by omega)
  obtain ⟨load,hload,hl0,hl1⟩:∃ load,x.tmod 61=load∧0≤load∧load≤60:=by
    refine ⟨_,rfl,Int.tmod_nonneg _ hx.1,?_⟩
    have:=Int.tmod_lt_of_pos x (show (0:Int)<61 by omega)
    omega
  have hw1:IntKind.i64.wrap (load - 1)=load - 1:=zaz (by omega) (by omega)
  have hL:Rd.isLoad load=true:=decide_eq_true ⟨hl0,hl1⟩
  have hL2:Rd.isLoad (max 0 (load - 1))=true:=decide_eq_true (by omega)
  have r1:=fun H=>hA.rest (hro H) load (by unfold i64n;omega)
  have r2:=fun H=>hA.rest (hro H) (max 0 (load - 1)) (by unfold i64n;omega)
  have r3:=fun H=>hA.bears (hro H) load (by unfold i64n;omega)
  rw[hL] at r1 r3
  rw[hL2] at r2
  cases hcan:Rd.canR r (Rd.everyR r) with
  |false=>
    rw[yaw hf hcan] at r1 r2
    rw[num_no hf hcan] at r3
    clear hA hlen hro hval hK hx hf hcan h10 he10 hL hL2
    unfold af7
    simp only[zipI,roadCs] at *
    (repeat (first|(with_reducible apply zal;(focus ((conv=>lhs;simp[*,ev1,wantG,spineK,spine,float,xnew,xval,xeff,zaa,zab,zap,zae,zad,addFl,cellsOf,pickC,alive,slLen,slFt,binI,maxA,maxK,minA,minK,aeqK,aeqS,AV.cells, spA,zac,fillA,setAt,bitsI,nat_nn,zaq,AV.plain,apart,Nat.testBit_eq_decide_div_mod_eq])<;>exact rfl));simp only[addFl])|((with_reducible first|apply zam|apply zao|apply zak|apply zai|apply zag|apply zan|apply zaj|apply zas|(apply zah;· simp[*,zaa])|(apply zaf;· simp[*,zaa]));try simp only[Then,Ops])|simp only[Nat.reduceEqDiff,reduceIte,OutB,Then]))
    exact zat (v:=.bool true) (.inl rfl) rfl (by simp) (by simp only[resL,resOf,zar];simp[*,resV]) rfl
  |true=>
  rw[yav hf hcan] at r1 r2
  rw[num_ok hf hcan] at r3
  have hk:=fun n=>hK hf (by omega) hcan load ⟨hl0,hl1⟩ (H++[.cells [.vs 7 (r.parts.map ptE),.vs 7 (r.events.map evE)],.cells [.int .i64 load]]) H.length (H.length+1) (by simp) (by rw[List.getElem?_append_right (by omega)];simp) n
  have hb2:=Rd.bears_two r load
  have hbg:=Rd.bears_ge r load
  cases ho:Rd.restR r load with
  |none=>
    rw[ho] at r1
    have n1:=Rd.rest_none ho 0 (by omega)
    rw[show ((0:Nat):Int)=0 from rfl] at n1
    have n2:=Rd.rest_none ho 10 (by omega)
    have hk1:=hk 10 (by omega)
    rw[show ((10:Nat):Int)=10 from rfl] at n2
    rw[n2] at hk1
    have hb3:(Rd.bearsR r load==2)=false:=by
      rw[beq_eq_false_iff_ne];intro h
      rw[hb2.1 h] at n1;cases n1
    generalize Rd.bearsR r load=k at *
    have hb4:¬ k=2:=by simpa using hb3
    clear hA hlen hro hval hK hx hf hcan h10 he10 hL hL2 n1 n2 hk hb2
    generalize (if (Rd.restR r (max 0 (load - 1))).isSome=true then (0:Int) else 4)=f2 at *
    generalize (Rd.restR r (max 0 (load - 1))).getD 0=d2 at *
    unfold af7
    simp only[zipI,roadCs] at *
    (repeat (first|(with_reducible apply zal;(focus ((conv=>lhs;simp[*,ev1,wantG,spineK,spine,float,xnew,xval,xeff,zaa,zab,zap,zae,zad,addFl,cellsOf,pickC,alive,slLen,slFt,binI,maxA,maxK,minA,minK,aeqK,aeqS,AV.cells, spA,zac,fillA,setAt,bitsI,nat_nn,zaq,AV.plain,apart,Nat.testBit_eq_decide_div_mod_eq])<;>exact rfl));simp only[addFl])|((with_reducible first|apply zam|apply zao|apply zak|apply zai|apply zag|apply zan|apply zaj|apply zas|(apply zah;· simp[*,zaa])|(apply zaf;· simp[*,zaa]));try simp only[Then,Ops])|simp only[Nat.reduceEqDiff,reduceIte,OutB,Then]))
    exact zat (v:=.bool true) (.inl rfl) rfl (by simp) (by simp only[resL,resOf,zar];simp[*,resV]) rfl
  |some d=>
    rw[ho] at r1
    obtain ⟨d10,s1,s2⟩:=Rd.rest_some ho
    obtain ⟨j,hj,hjd⟩:=Rd.rest_of (r:=r) (load:=max 0 (load - 1)) d10 (Rd.sure_mono hf (by omega) s1)
    rw[hj] at r2
    have hk1:=hk d (by omega)
    rw[s1] at hk1
    have hjd':¬ ((d:Int)<j):=by omega
    have hd0:(0:Int)≤d:=by omega
    have hd10:(d:Int)≤10:=by omega
    generalize Rd.bearsR r load=k at *
    by_cases hd:d=0
    · subst hd
      have hj0:j=0:=by omega
      subst hj0
      simp only[Option.getD_some] at r1 r2
      rw[show ((0:Nat):Int)=0 from rfl] at r1 r2 hk1 s1
      have hk2:k=2:=hb2.2 s1
      subst hk2
      clear hA hlen hro hval hK hx hf hcan h10 he10 hL hL2 hk hb2 s1 s2 hj ho
      unfold af7
      simp only[zipI,roadCs] at *
      (repeat (first|(with_reducible apply zal;(focus ((conv=>lhs;simp[*,ev1,wantG,spineK,spine,float,xnew,xval,xeff,zaa,zab,zap,zae,zad,addFl,cellsOf,pickC,alive,slLen,slFt,binI,maxA,maxK,minA,minK,aeqK,aeqS,AV.cells, spA,zac,fillA,setAt,bitsI,nat_nn,zaq,AV.plain,apart,Nat.testBit_eq_decide_div_mod_eq])<;>exact rfl));simp only[addFl])|((with_reducible first|apply zam|apply zao|apply zak|apply zai|apply zag|apply zan|apply zaj|apply zas|(apply zah;· simp[*,zaa])|(apply zaf;· simp[*,zaa]));try simp only[Then,Ops])|simp only[Nat.reduceEqDiff,reduceIte,OutB,Then]))
      exact zat (v:=.bool true) (.inl rfl) rfl (by simp) (by simp only[resL,resOf,zar];simp[*,resV]) rfl
    · have hw2:IntKind.i64.wrap ((d:Int) - 1)=(d:Int) - 1:=zaz (by omega) (by omega)
      have hk3:=hk ((d:Int) - 1) (by omega)
      have s3:=s2 (d - 1) (by omega)
      rw[show ((d - 1:Nat):Int)=(d:Int) - 1 by omega] at s3
      rw[s3] at hk3
      have s0:=s2 0 (by omega)
      rw[show ((0:Nat):Int)=0 from rfl] at s0
      have hb3:(k==2)=false:=by
        rw[beq_eq_false_iff_ne];intro h
        rw[hb2.1 h] at s0;cases s0
      have hb4:¬ k=2:=by simpa using hb3
      have hd1:¬ ((d:Int)=0):=by omega
      have hd2:((d:Int)==0)=false:=by simpa using hd1
      clear hA hlen hro hval hK hx hf hcan h10 he10 hL hL2 hk hb2 s1 s2 hj ho s0 s3
      unfold af7
      simp only[zipI,roadCs] at *
      (repeat (first|(with_reducible apply zal;(focus ((conv=>lhs;simp[*,ev1,wantG,spineK,spine,float,xnew,xval,xeff,zaa,zab,zap,zae,zad,addFl,cellsOf,pickC,alive,slLen,slFt,binI,maxA,maxK,minA,minK,aeqK,aeqS,AV.cells, spA,zac,fillA,setAt,bitsI,nat_nn,zaq,AV.plain,apart,Nat.testBit_eq_decide_div_mod_eq])<;>exact rfl));simp only[addFl])|((with_reducible first|apply zam|apply zao|apply zak|apply zai|apply zag|apply zan|apply zaj|apply zas|(apply zah;· simp[*,zaa])|(apply zaf;· simp[*,zaa]));try simp only[Then,Ops])|simp only[Nat.reduceEqDiff,reduceIte,OutB,Then]))
      exact zat (v:=.bool true) (.inl rfl) rfl (by simp) (by simp only[resL,resOf,zar];simp[*,resV]) rfl
end Ro
end Ev
end Go.Proofs.Ytlcjlcllbgjplaa

/- The code of functions of the laws is that of the program. Printed by program. -/
namespace Go.Proofs.Ytlcjlcllbgjplaa
open Go Go.Proofs
namespace Ev
set_option maxRecDepth 1000000
theorem is7 : ∃ F, Try.prog.funcs[7]? = some F ∧ (F.name == "runtime.NumGoroutine")=false∧compFn Try.prog F=some af7.strip:=⟨_,Try.func7,by kernel_rfl,by kernel_rfl⟩
end Ev
end Go.Proofs.Ytlcjlcllbgjplaa

/- The code of functions of the laws is that of the program. Printed by program. -/
namespace Go.Proofs.Ytlcjlcllbgjplaa
open Go Go.Proofs
namespace Ev
set_option maxRecDepth 1000000
theorem is29 : ∃ F, Try.prog.funcs[29]? = some F ∧ (F.name == "runtime.NumGoroutine")=false∧compFn Try.prog F=some af29.strip:=⟨_,Try.func29,by kernel_rfl,by kernel_rfl⟩
end Ev
end Go.Proofs.Ytlcjlcllbgjplaa

/- The code of functions of the laws is that of the program. Printed by program. -/
namespace Go.Proofs.Ytlcjlcllbgjplaa
open Go Go.Proofs
namespace Ev
set_option maxRecDepth 1000000
theorem is32 : ∃ F, Try.prog.funcs[32]? = some F ∧ (F.name == "runtime.NumGoroutine")=false∧compFn Try.prog F=some af32.strip:=⟨_,Try.func32,by kernel_rfl,by kernel_rfl⟩
end Ev
end Go.Proofs.Ytlcjlcllbgjplaa

/- The functions that the law RoadRest goes through itself. Printed by program. -/
namespace Go.Proofs.Ytlcjlcllbgjplaa
open Go Go.Proofs
namespace Ev
def treeRoadRest:FT:=(.node 29 af29 (.node 22 af22 (.node 7 af7 .leaf .leaf) .leaf) (.node 33 af33 (.node 32 af32 .leaf .leaf) .leaf))
theorem zht : FT.All (fun k af => ∃ F, Try.prog.funcs[k]? = some F ∧ (F.name == "runtime.NumGoroutine")=false∧compFn Try.prog F=some af.strip) treeRoadRest:=
  ⟨is29,⟨is22,⟨is7,trivial,trivial⟩,trivial⟩,⟨is33,⟨is32,trivial,trivial⟩,trivial⟩⟩
end Ev
end Go.Proofs.Ytlcjlcllbgjplaa

/- The Go function RoadRest returns true, for every argument, in every world in which it is called; nothing that was there is turned. No condition. -/
namespace Go.Proofs.Ytlcjlcllbgjplaa
open Go Go.Proofs Go.ChangeShapes Go.WideShapes Go.ChangeAt Go.RowKit
namespace Ev
namespace Ro
open K
theorem lawRoadRest (W:World)(r:Rd.Road){v0:Value}(hv0:VR W (fun _=>False) nomu (.agg (roadCs r)) v0)(x1:Int)(b1:(Lit.int .u8 x1).wf=true){v1:Value}(hv1:VR W (fun _=>False) nomu (.int .u8 x1) v1):CallsIn Fence.wide 0 Try.prog 7 #[v0,v1] W fun e W'=>e=.returned (.bool true)∧Below W.heap.size W W':=by
  have hz:∀ {f:Nat} {af:AFunc},(cfgL treeRoadRest).exth f=none→FT.find treeRoadRest f=some af→Has (cfgL treeRoadRest) f af:=fun h1 h2=>has_of rfl h1 h2 rfl
  have la:=fun n=>lapi (t:=treeRoadRest) (hz rfl (by kernel_rfl)) n
  have k:Has (cfgL treeRoadRest) 7 af7:=hz rfl (by kernel_rfl)
  obtain ⟨v,hp,tc,H',h1,h2,_⟩:=zdd (C:=cfgL treeRoadRest) (n:=4) (first:=[]) (captured:=[]) (args:=[.agg (roadCs r),.int .u8 x1]) (H:=[]) (Q:=fun v _ _=>v=.bool true) rfl k.ext k.exth k.fns k.whole (le' rfl) (zrr (cfgL treeRoadRest) _ (la 3) r (fun hf h9 hcan load hl G b1 b2 h1 h2 n hn=>zay (first:=[]) (captured:=[.ptr b1 0,.ptr b2 0]) rfl (hz rfl (by kernel_rfl)) (le' rfl) rfl (zxk (cfgL treeRoadRest) _ (la 2) r (ztd rfl (hz rfl (by kernel_rfl)) (by omega) 2) (fun H n=>zay rfl (hz rfl (by kernel_rfl)) (le' rfl) rfl (zvq (cfgL treeRoadRest) _ H n)) hf h9 hcan load hl G b1 b2 h1 h2 n hn)) x1 (zwz b1) [])
  subst h2
  refine (zlj (tblL zht) h1 trivial (zbo _ _ _) (rargs:=#[v0,v1]) ⟨rfl,fun i y r hy hr=>?_⟩).mono ?_
  · match i,hy,hr with
    |0,hy,hr=>cases hy;cases hr;exact hv0
    |1,hy,hr=>cases hy;cases hr;exact hv1
    |i+2,hy,hr=>simp at hy
  · rintro e W' ⟨⟨w,rfl,hw⟩,bel⟩
    exact ⟨by rw[ybh hw W],bel⟩
end Ro
end Ev
set_option maxRecDepth 100000 in
theorem zhy (os:Os)(started:os.Started)(H:Type)(enc:TypeId × Value→H):
    ReturnsInHanded {} Try.checked os 7 .any (Rows.roadRestSpec.pre6 enc Try.prog Try.f7 Rows.roadRestRow.domain false) (Rows.roadRestSpec.post enc Try.prog Try.f7 false true false false):=by
  refine returnsInHanded_of_change (C:=Try.checked) znj started (by kernel_rfl) Try.func7
    (ChangeSpec.witness6 (enc:=enc) (C:=Try.checked) false ⟨#[],#[noRoad,.int .u8 0],[]⟩ 8 (by kernel_rfl) (by kernel_rfl) (by kernel_rfl) (by kernel_rfl)) ?_
  intro W base args ds gs before hval0 hW hcnd _
  have hval:∀ (j:Nat) t v,Try.f7.params[j]?=some t→args[j]?=some v→Value.okWide Try.prog W .any base t v:=hval0
  have hW':=hW
  obtain ⟨p,q,hA0,hV,rfl,hfz,hnd⟩:=hW
  have hA:DataW.TrodAll enc Try.prog W 0 (fun _=>true) true Try.f7.params.toList args.toList ds p:=hA0
  rw[Try.params7] at hA hval
  obtain ⟨v0,vs0,d0,ds0,p0,q0,hargs0,rfl,rfl,h0,hA1⟩:=trodAll_cons hA
  obtain ⟨v1,vs1,d1,ds1,p1,q1,rfl,rfl,rfl,h1,hA2⟩:=trodAll_cons hA1
  obtain ⟨rfl,rfl,rfl⟩:=trodAll_nil hA2
  obtain rfl:args=#[v0,v1]:=Array.ext' hargs0
  obtain ⟨rfl,rfl,rfl⟩:=trodVars_none hV
  clear hA0 hval0
  obtain ⟨r,hx0⟩:=zuq (hval 0 25 v0 rfl rfl) h0
  obtain ⟨x1,rfl,rfl,rfl,wf1⟩:=open_int Try.underlying5 (hval 1 5 v1 rfl rfl) h1
  simp only[List.append_nil] at hW'
  have hlt:∀ x∈(p0++([]++[])),x.block<W.heap.size:=fun x hx=>by simpa using hW'.lt x (by simpa using hx)
  refine (callsIn_wide.1 (Ev.Ro.lawRoadRest W r hx0 x1 wf1 .int)).mono fun e W' ⟨he,bel⟩=>?_
  subst he
  refine ⟨_,rfl,_,_,_,[],(p0++([]++[])),[],by simpa using hW',?_,?_,?_,bel.frame _,fun h=>by cases h⟩
  · exact trodAll_mk1 (shut_bool Try.underlying4 true)
  · exact trodAll_cons_mk (Below.trod laidOut' (by kernel_rfl) (of_decide_eq_true (by kernel_rfl)) h0 bel (fun x hx=>hlt x (by simp[hx]))) (trodAll_cons_mk (shut_int Try.underlying5 wf1) (trodAll_mk0))
  · exact rfl
theorem roadRest_holds:Rows.RoadRestSaid:=
  OpenClaim.holds_of_wide 7 Try.f7 rfl rfl rfl rfl rfl rfl rfl ⟨rfl,rfl,rfl,rfl,rfl⟩ rfl rfl rfl rfl rfl (by kernel_rfl) Try.func7 (by kernel_rfl)
    (of_decide_eq_true (by kernel_rfl)) (by unfold Func.isWrapper;first|(rw[if_pos (by decide +kernel)];kernel_rfl)|(rw[if_neg (by decide +kernel)];exact ⟨rfl,rfl⟩))
    (fun os started H enc _=>zhy os started H enc)
#print axioms roadRest_holds
end Go.Proofs.Ytlcjlcllbgjplaa
