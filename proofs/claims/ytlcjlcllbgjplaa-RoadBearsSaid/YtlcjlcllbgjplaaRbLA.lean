/- The Go function RoadBears returns true, for every argument, in every world in which it is called; nothing that was there is turned. No condition. -/
import Derived.Test.YtlcjlcllbgjplaaRbEA
import Derived.Test.YtlcjlcllbgjplaaRbPG
import Derived.Test.YtlcjlcllbgjplaaProg
import Derived.KernelRfl
/- The code of functions of the laws, for the evaluator. Printed by program. -/
namespace Go.Proofs.Ytlcjlcllbgjplaa
open Go
namespace Ev
end Ev
end Go.Proofs.Ytlcjlcllbgjplaa

/- The code of functions of the laws, for the evaluator. Printed by program. -/
namespace Go.Proofs.Ytlcjlcllbgjplaa
open Go
namespace Ev
end Ev
end Go.Proofs.Ytlcjlcllbgjplaa

/- RoadRest, gone through. -/
namespace Go.Proofs.Ytlcjlcllbgjplaa
open Go
namespace Ev
namespace Ro
open K
set_option maxRecDepth 100000
set_option maxHeartbeats 4000000
theorem ybh {r:Rd.Road}(hf:Rd.Fine r)(hcan:Rd.canR r (Rd.everyR r)=true)(o:Option Nat):findRV r true o=.tup [.int .i64 ((o.getD 0:Nat):Int),.int .i64 (if o.isSome then 0 else 4)]:=by
  have he:Rd.errR r true=0:=by
    unfold Rd.errR
    rw[(Rd.valid_iff r).2 hf,hcan];rfl
  unfold findRV
  rw[he];rfl
theorem ybi {r:Rd.Road}(hf:Rd.Fine r)(hcan:Rd.canR r (Rd.everyR r)=false)(o:Option Nat):findRV r true o=.tup [.int .i64 0,.int .i64 10]:=by
  have he:Rd.errR r true=10:=by
    unfold Rd.errR
    rw[(Rd.valid_iff r).2 hf,hcan];rfl
  unfold findRV
  rw[he];rfl
theorem num_no {r:Rd.Road}(hf:Rd.Fine r)(hcan:Rd.canR r (Rd.everyR r)=false)(n:Int):numRV r true n=.tup [.int .i64 0,.int .i64 10]:=by
  have he:Rd.errR r true=10:=by
    unfold Rd.errR
    rw[(Rd.valid_iff r).2 hf,hcan];rfl
  unfold numRV
  rw[he];rfl
theorem num_ok {r:Rd.Road}(hf:Rd.Fine r)(hcan:Rd.canR r (Rd.everyR r)=true)(n:Int):numRV r true n=.tup [.int .i64 n,.int .i64 0]:=by
  have he:Rd.errR r true=0:=by
    unfold Rd.errR
    rw[(Rd.valid_iff r).2 hf,hcan];rfl
  unfold numRV
  rw[he];rfl
end Ro
end Ev
end Go.Proofs.Ytlcjlcllbgjplaa

/- Chapter 05: what a road bears: plain. -/
namespace Go.Proofs.Ytlcjlcllbgjplaa
open Go
namespace Rd
open Clm (Sp Hull spanL mem_span setOf)
theorem zyz {r:Road}(hr:Fine r){a b:Int}(h:a≤b)(hs:mayR r b=true):mayR r a=true:=by
  rw[znv] at hs ⊢
  obtain ⟨ls,hl,H⟩:=hs
  refine ⟨ls,hl,fun i hi=>?_⟩
  obtain ⟨p,h',ht,h1⟩:=H i hi
  have h2:=zln (zki hr hi ht).1 h
  exact ⟨p,h',ht,by omega⟩
theorem zxy {r:Road}(hc:canR r (everyR r)=true){load:Int}(h:sureR r 0 load=true):mayR r load=true:=by
  obtain ⟨ls,hl⟩:=(zot r).1 hc
  rw[zkl] at h
  rw[znv]
  refine ⟨ls,hl,fun i hi=>?_⟩
  obtain ⟨p,h',ht⟩:=hl.2 i hi
  exact ⟨p,h',ht,h ls hl i hi p h' ht⟩
theorem bears_mono {r:Road}(hr:Fine r){a b:Int}(h:a≤b):bearsR r b≤bearsR r a:=by
  unfold bearsR
  cases h1:sureR r 0 b with
  |true=>rw[sure_mono hr h h1];simp
  |false=>
    cases h2:mayR r b with
    |true=>rw[zyz hr h h2];cases sureR r 0 a<;>decide
    |false=>
      simp only[Bool.false_eq_true,if_false]
      split
      · decide
      · split<;>decide
theorem ztf {r:Road}(hc:canR r (everyR r)=true)(load:Int):bearsR r load=0↔mayR r load=false:=by
  unfold bearsR
  cases h1:sureR r 0 load with
  |true=>simp[zxy hc h1]
  |false=>
    cases h2:mayR r load with
    |true=>simp
    |false=>simp
theorem zpp {r:Road}{load:Int}{ls:List Int}(h:All r ls):All (addR r (passE load load)) (ls++[load]):=(zlh (by simp[passE]) _).2 ⟨ls,load,rfl,h,fun _=>⟨Int.le_refl _,Int.le_refl _⟩,fun h=>absurd rfl h⟩
theorem zqr {r:Road}{load:Int}{ls:List Int}(h:All (addR r (passE load load)) ls):∃ l,ls=l++[load]∧All r l:=by
  obtain ⟨l,k,rfl,h1,h2,_⟩:=(zlh (by simp[passE]) ls).1 h
  have h3:=h2 rfl
  simp only[passE,Sp.has] at h3
  have:k=load:=by omega
  exact ⟨l,by rw[this],h1⟩
theorem zhm {r:Road}{load:Int}{l:List Int}(hl:l.length=r.events.length)(k:Int)(i:Nat)(p:Tr)(h:Int):Tru (addR r (passE load load)) (l++[k]) i p h↔Tru r l i p h:=by
  rw[znh hl]
  exact ⟨fun h=>h.1,fun h=>⟨h,fun e=>by simp[passE] at e⟩⟩
theorem zfv {r:Road}{l:List Int}(hl:l.length=r.events.length)(a k:Int)(p:Tr)(h:Int):heightR (addR r (passE a a)) p h (l++[k]) (r.events.length+1)=endR r p h l - sunk p k:=zsl (v:=passE a a) hl k p h
theorem bears_perhaps {r:Road}(hr:Fine r)(load:Int):bearsR r load=2↔(perhapsR (addR r (passE load load))).testBit r.events.length=false:=by
  rw[bears_two,← Bool.not_eq_true,znp,zkl]
  constructor
  · rintro H ⟨_,ls,hl,i,hi,p,h,ht,h0⟩
    obtain ⟨l,rfl,hl2⟩:=zqr hl
    have ht2:=(zhm hl2.1.1 load i p h).1 ht
    have h1:=H l hl2 i hi p h ht2
    rw[zdy hr hi hl2.1 ht2] at h1
    rw[zfv hl2.1.1] at h0
    omega
  · intro H ls hl i hi p h ht
    rw[zdy hr hi hl.1 ht]
    refine Int.not_lt.1 fun h0=>H ⟨by simp[addR],ls++[load],zpp hl,i,hi,p,h,(zhm hl.1.1 load i p h).2 ht,?_⟩
    rw[zfv hl.1.1];exact h0
theorem bears_surely {r:Road}(hr:Fine r)(hc:canR r (everyR r)=true)(load:Int):bearsR r load=0↔(surelyR (addR r (passE load load))).testBit r.events.length=true:=by
  rw[ztf hc,← Bool.not_eq_true,zrd,znv]
  constructor
  · intro H
    refine ⟨by simp[addR],fun ls hl=>?_⟩
    obtain ⟨l,rfl,hl2⟩:=zqr hl
    refine Classical.byContradiction fun hn=>H ⟨l,hl2,fun i hi=>?_⟩
    refine Classical.byContradiction fun hm=>hn ⟨i,hi,fun p h ht=>?_⟩
    have ht2:=(zhm hl2.1.1 load i p h).1 ht
    rw[zfv hl2.1.1]
    refine Int.not_le.1 fun h0=>hm ⟨p,h,ht2,?_⟩
    rw[zdy hr hi hl2.1 ht2];exact h0
  · rintro ⟨_,H⟩ ⟨ls,hl,K⟩
    obtain ⟨i,hi,h1⟩:=H _ (zpp hl)
    obtain ⟨p,h,ht,h0⟩:=K i hi
    have h2:=h1 p h ((zhm hl.1.1 load i p h).2 ht)
    rw[zfv hl.1.1] at h2
    rw[zdy hr hi hl.1 ht] at h0
    omega
theorem most_some {r:Road}{m:Nat}(h:mostR r=some m):m≤60∧sureR r 0 m=true∧∀ j:Nat,m<j→j≤60→sureR r 0 j=false:=by
  unfold mostR at h
  obtain ⟨h1,i,h2,h3,h4⟩:=List.find?_eq_some_iff_getElem.1 h
  simp only[List.getElem_map,List.getElem_range] at h3
  simp only[List.length_map,List.length_range] at h2
  subst h3
  refine ⟨by omega,h1,fun j hj h60=>?_⟩
  have:=h4 (60 - j) (by omega)
  simp only[List.getElem_map,List.getElem_range] at this
  rw[show 60 - (60 - j)=j by omega] at this
  simpa using this
theorem most_none {r:Road}(h:mostR r=none):∀ j:Nat,j≤60→sureR r 0 j=false:=by
  unfold mostR at h
  rw[List.find?_eq_none] at h
  intro j hj
  have:=h j (List.mem_map.2 ⟨60 - j,List.mem_range.2 (by omega),by omega⟩)
  simpa using this
theorem set_low (p:Nat→Bool){n:Nat}(h:n≤10):setOf p n<1024:=Nat.lt_of_lt_of_le (Clm.setOf_lt p n) (by have:=Nat.pow_le_pow_right (show 1≤2 by decide) h;simpa using this)
end Rd
end Go.Proofs.Ytlcjlcllbgjplaa

/- The code of functions of the laws, for the evaluator. Printed by program. -/
namespace Go.Proofs.Ytlcjlcllbgjplaa
open Go
namespace Ev
def af6:AFunc:=⟨209,[(.tmp 4)],(.seq (.ops [⟨0,(some 2),(.box (.tmp 0)),none,0⟩,⟨1,(some 4),(.mov (.val (.bool false))),none,0⟩]) (.seq (.seq (.ops [⟨0,(some 22),(.load (some 2) (.tmp 2)),none,0⟩,⟨1,(some 23),(.call (.val (.fn (Fn.func 22) [] [])) [(.tmp 22)]),none,0⟩,⟨2,(some 24),(.mov (.tmp 23)),none,0⟩,⟨3,(some 25),(.load (some 2) (.tmp 2)),(some (24,false)),0⟩,⟨4,(some 26),(.call (.val (.fn (Fn.func 23) [] [])) [(.tmp 25)]),(some (24,false)),0⟩,⟨5,(some 27),(.not (.tmp 26)),(some (24,false)),0⟩,⟨6,(some 28),(.pick (.tmp 24) (.val (.bool true)) (.tmp 27)),none,0⟩,⟨7,(some 29),(.mov (.tmp 28)),none,0⟩,⟨8,(some 30),(.fieldA 1 (.tmp 2)),(some (29,false)),0⟩,⟨9,(some 31),(.load none (.tmp 30)),(some (29,false)),0⟩,⟨10,(some 32),(.len (.tmp 31)),(some (29,false)),0⟩,⟨11,(some 33),(.bin .eql (.tmp 32) (.val (.int .i64 10))),(some (29,false)),0⟩,⟨12,(some 34),(.pick (.tmp 29) (.val (.bool true)) (.tmp 33)),none,0⟩]) (.cond (.tmp 34) (.seq (.ops [⟨0,(some 35),(.call (.val (.fn (Fn.func 21) [] [])) []),none,0⟩,⟨1,(some 4),(.mov (.tmp 35)),none,0⟩]) .ret) .skip)) (.seq (.ops [⟨0,(some 36),(.mov (.tmp 1)),none,0⟩,⟨1,(some 37),(.conv .i64 (.tmp 36)),none,0⟩,⟨2,(some 38),(.bin .rem (.tmp 37) (.val (.int .i64 61))),none,0⟩,⟨3,(some 5),(.mov (.tmp 38)),none,0⟩]) (.seq (.ops [⟨0,(some 40),(.load (some 2) (.tmp 2)),none,0⟩,⟨1,(some 41),(.mov (.tmp 5)),none,0⟩,⟨2,(some 42),(.call (.val (.fn (Fn.func 16) [] [])) [(.tmp 40),(.tmp 41)]),none,0⟩,⟨3,(some 39),(.mov (.tmp 42)),none,0⟩,⟨4,(some 43),(.extract (.tmp 39) 0),none,0⟩,⟨5,(some 44),(.extract (.tmp 39) 1),none,0⟩,⟨6,(some 6),(.mov (.tmp 43)),none,0⟩,⟨7,(some 7),(.mov (.tmp 44)),none,0⟩]) (.seq (.ops [⟨0,(some 46),(.load (some 2) (.tmp 2)),none,0⟩,⟨1,(some 47),(.mov (.tmp 5)),none,0⟩,⟨2,(some 48),(.bin .sub (.tmp 47) (.val (.int .i64 1))),none,0⟩,⟨3,(some 49),(.max [(.val (.int .i64 0)),(.tmp 48)]),none,0⟩,⟨4,(some 50),(.call (.val (.fn (Fn.func 16) [] [])) [(.tmp 46),(.tmp 49)]),none,0⟩,⟨5,(some 45),(.mov (.tmp 50)),none,0⟩,⟨6,(some 51),(.extract (.tmp 45) 0),none,0⟩,⟨7,(some 52),(.extract (.tmp 45) 1),none,0⟩,⟨8,(some 8),(.mov (.tmp 51)),none,0⟩,⟨9,(some 9),(.mov (.tmp 52)),none,0⟩]) (.seq (.ops [⟨0,(some 54),(.load (some 2) (.tmp 2)),none,0⟩,⟨1,(some 55),(.call (.val (.fn (Fn.func 19) [] [])) [(.tmp 54)]),none,0⟩,⟨2,(some 53),(.mov (.tmp 55)),none,0⟩,⟨3,(some 56),(.extract (.tmp 53) 0),none,0⟩,⟨4,(some 57),(.extract (.tmp 53) 1),none,0⟩,⟨5,(some 10),(.mov (.tmp 56)),none,0⟩,⟨6,(some 11),(.mov (.tmp 57)),none,0⟩]) (.seq (.seq (.ops [⟨0,(some 58),(.mov (.tmp 9)),none,0⟩,⟨1,(some 59),(.mov (.tmp 7)),none,0⟩,⟨2,(some 60),(.bin .neq (.tmp 58) (.tmp 59)),none,0⟩,⟨3,(some 61),(.mov (.tmp 60)),none,0⟩,⟨4,(some 62),(.mov (.tmp 7)),(some (61,false)),0⟩,⟨5,(some 63),(.bin .neq (.tmp 62) (.val (.int .i64 0))),(some (61,false)),0⟩,⟨6,(some 64),(.pick (.tmp 61) (.val (.bool true)) (.tmp 63)),none,0⟩]) (.cond (.tmp 64) (.seq (.ops [⟨0,(some 65),(.mov (.tmp 9)),none,0⟩,⟨1,(some 66),(.mov (.tmp 7)),none,0⟩,⟨2,(some 67),(.bin .eql (.tmp 65) (.tmp 66)),none,0⟩,⟨3,(some 68),(.mov (.tmp 67)),none,0⟩,⟨4,(some 69),(.mov (.tmp 11)),(some (68,true)),0⟩,⟨5,(some 70),(.mov (.tmp 7)),(some (68,true)),0⟩,⟨6,(some 71),(.bin .eql (.tmp 69) (.tmp 70)),(some (68,true)),0⟩,⟨7,(some 72),(.pick (.tmp 68) (.tmp 71) (.val (.bool false))),none,0⟩,⟨8,(some 73),(.mov (.tmp 72)),none,0⟩,⟨9,(some 74),(.mov (.tmp 7)),(some (73,true)),0⟩,⟨10,(some 75),(.bin .eql (.tmp 74) (.val (.int .i64 10))),(some (73,true)),0⟩,⟨11,(some 76),(.pick (.tmp 73) (.tmp 75) (.val (.bool false))),none,0⟩,⟨12,(some 77),(.mov (.tmp 76)),none,0⟩,⟨13,(some 78),(.mov (.tmp 6)),(some (77,true)),0⟩,⟨14,(some 79),(.bin .eql (.tmp 78) (.val (.int .i64 0))),(some (77,true)),0⟩,⟨15,(some 80),(.pick (.tmp 77) (.tmp 79) (.val (.bool false))),none,0⟩,⟨16,(some 81),(.mov (.tmp 80)),none,0⟩,⟨17,(some 82),(.mov (.tmp 10)),(some (81,true)),0⟩,⟨18,(some 83),(.bin .eql (.tmp 82) (.val (.int .i64 0))),(some (81,true)),0⟩,⟨19,(some 84),(.pick (.tmp 81) (.tmp 83) (.val (.bool false))),none,0⟩,⟨20,(some 85),(.mov (.tmp 84)),none,0⟩,⟨21,(some 86),(.call (.val (.fn (Fn.func 21) [] [])) []),(some (85,true)),0⟩,⟨22,(some 87),(.pick (.tmp 85) (.tmp 86) (.val (.bool false))),none,0⟩,⟨23,(some 4),(.mov (.tmp 87)),none,0⟩]) .ret) .skip)) (.seq (.draw [⟨0,(some 89),(.load (some 2) (.tmp 2)),none,0⟩,⟨1,(some 90),(.mov (.tmp 5)),none,0⟩,⟨2,(some 91),(.mov (.tmp 5)),none,0⟩,⟨3,(some 92),(.call (.val (.fn (Fn.func 31) [] [])) [(.tmp 90),(.tmp 91)]),none,6⟩,⟨4,(some 93),(.call (.val (.fn (Fn.func 29) [] [])) [(.tmp 89),(.tmp 92)]),none,15⟩,⟨5,(some 94),(.call (.val (.fn (Fn.func 26) [] [])) [(.tmp 93)]),none,31⟩,⟨6,(some 88),(.mov (.tmp 94)),none,63⟩,⟨7,(some 95),(.extract (.tmp 88) 0),none,127⟩,⟨8,(some 96),(.extract (.tmp 88) 1),none,127⟩,⟨9,(some 97),(.extract (.tmp 88) 2),none,127⟩,⟨10,(some 12),(.mov (.tmp 95)),none,255⟩,⟨11,(some 13),(.mov (.tmp 96)),none,1535⟩,⟨12,(some 14),(.mov (.tmp 97)),none,4095⟩]) (.seq (.ops [⟨0,(some 98),(.fieldA 1 (.tmp 2)),none,0⟩,⟨1,(some 99),(.load none (.tmp 98)),none,0⟩,⟨2,(some 100),(.len (.tmp 99)),none,0⟩,⟨3,(some 15),(.mov (.tmp 100)),none,0⟩]) (.seq (.seq (.ops [⟨0,(some 101),(.mov (.tmp 14)),none,0⟩,⟨1,(some 102),(.bin .neq (.tmp 101) (.val (.int .i64 0))),none,0⟩,⟨2,(some 103),(.mov (.tmp 102)),none,0⟩,⟨3,(some 104),(.mov (.tmp 6)),(some (103,false)),0⟩,⟨4,(some 105),(.bin .eql (.tmp 104) (.val (.int .i64 2))),(some (103,false)),0⟩,⟨5,(some 106),(.mov (.tmp 13)),(some (103,false)),0⟩,⟨6,(some 107),(.mov (.tmp 15)),(some (103,false)),0⟩,⟨7,(some 108),(.bin .shr (.tmp 106) (.tmp 107)),(some (103,false)),0⟩,⟨8,(some 109),(.bin .and (.tmp 108) (.val (.int .i64 1))),(some (103,false)),0⟩,⟨9,(some 110),(.bin .eql (.tmp 109) (.val (.int .i64 0))),(some (103,false)),0⟩,⟨10,(some 111),(.eq .bool true (.tmp 105) (.tmp 110)),(some (103,false)),0⟩,⟨11,(some 112),(.pick (.tmp 103) (.val (.bool true)) (.tmp 111)),none,0⟩,⟨12,(some 113),(.mov (.tmp 112)),none,0⟩,⟨13,(some 114),(.mov (.tmp 6)),(some (113,false)),0⟩,⟨14,(some 115),(.bin .eql (.tmp 114) (.val (.int .i64 0))),(some (113,false)),0⟩,⟨15,(some 116),(.mov (.tmp 12)),(some (113,false)),0⟩,⟨16,(some 117),(.mov (.tmp 15)),(some (113,false)),0⟩,⟨17,(some 118),(.bin .shr (.tmp 116) (.tmp 117)),(some (113,false)),0⟩,⟨18,(some 119),(.bin .and (.tmp 118) (.val (.int .i64 1))),(some (113,false)),0⟩,⟨19,(some 120),(.bin .eql (.tmp 119) (.val (.int .i64 1))),(some (113,false)),0⟩,⟨20,(some 121),(.eq .bool true (.tmp 115) (.tmp 120)),(some (113,false)),0⟩,⟨21,(some 122),(.pick (.tmp 113) (.val (.bool true)) (.tmp 121)),none,0⟩,⟨22,(some 123),(.mov (.tmp 122)),none,0⟩,⟨23,(some 124),(.mov (.tmp 6)),(some (123,false)),0⟩,⟨24,(some 125),(.bin .lss (.tmp 124) (.val (.int .i64 0))),(some (123,false)),0⟩,⟨25,(some 126),(.pick (.tmp 123) (.val (.bool true)) (.tmp 125)),none,0⟩,⟨26,(some 127),(.mov (.tmp 126)),none,0⟩,⟨27,(some 128),(.mov (.tmp 6)),(some (127,false)),0⟩,⟨28,(some 129),(.bin .gtr (.tmp 128) (.val (.int .i64 2))),(some (127,false)),0⟩,⟨29,(some 130),(.pick (.tmp 127) (.val (.bool true)) (.tmp 129)),none,0⟩,⟨30,(some 131),(.mov (.tmp 130)),none,0⟩,⟨31,(some 132),(.mov (.tmp 8)),(some (131,false)),0⟩,⟨32,(some 133),(.mov (.tmp 6)),(some (131,false)),0⟩,⟨33,(some 134),(.bin .lss (.tmp 132) (.tmp 133)),(some (131,false)),0⟩,⟨34,(some 135),(.pick (.tmp 131) (.val (.bool true)) (.tmp 134)),none,0⟩]) (.cond (.tmp 135) (.seq (.ops [⟨0,(some 4),(.mov (.val (.bool false))),none,0⟩]) .ret) .skip)) (.seq (.seq (.ops [⟨0,(some 136),(.mov (.tmp 11)),none,0⟩,⟨1,(some 137),(.bin .neq (.tmp 136) (.val (.int .i64 0))),none,0⟩]) (.cond (.tmp 137) (.seq (.ops [⟨0,(some 139),(.load (some 2) (.tmp 2)),none,0⟩,⟨1,(some 140),(.call (.val (.fn (Fn.func 16) [] [])) [(.tmp 139),(.val (.int .i64 0))]),none,0⟩,⟨2,(some 138),(.mov (.tmp 140)),none,0⟩,⟨3,(some 141),(.extract (.tmp 138) 0),none,0⟩,⟨4,(some 142),(.extract (.tmp 138) 1),none,0⟩,⟨5,(some 16),(.mov (.tmp 141)),none,0⟩,⟨6,(some 17),(.mov (.tmp 142)),none,0⟩]) (.seq (.ops [⟨0,(some 143),(.mov (.tmp 11)),none,0⟩,⟨1,(some 144),(.bin .eql (.tmp 143) (.val (.int .i64 4))),none,0⟩,⟨2,(some 145),(.mov (.tmp 144)),none,0⟩,⟨3,(some 146),(.mov (.tmp 10)),(some (145,true)),0⟩,⟨4,(some 147),(.bin .eql (.tmp 146) (.val (.int .i64 0))),(some (145,true)),0⟩,⟨5,(some 148),(.pick (.tmp 145) (.tmp 147) (.val (.bool false))),none,0⟩,⟨6,(some 149),(.mov (.tmp 148)),none,0⟩,⟨7,(some 150),(.mov (.tmp 17)),(some (149,true)),0⟩,⟨8,(some 151),(.bin .eql (.tmp 150) (.val (.int .i64 0))),(some (149,true)),0⟩,⟨9,(some 152),(.pick (.tmp 149) (.tmp 151) (.val (.bool false))),none,0⟩,⟨10,(some 153),(.mov (.tmp 152)),none,0⟩,⟨11,(some 154),(.mov (.tmp 16)),(some (153,true)),0⟩,⟨12,(some 155),(.bin .neq (.tmp 154) (.val (.int .i64 2))),(some (153,true)),0⟩,⟨13,(some 156),(.pick (.tmp 153) (.tmp 155) (.val (.bool false))),none,0⟩,⟨14,(some 157),(.mov (.tmp 156)),none,0⟩,⟨15,(some 158),(.mov (.tmp 6)),(some (157,true)),0⟩,⟨16,(some 159),(.bin .neq (.tmp 158) (.val (.int .i64 2))),(some (157,true)),0⟩,⟨17,(some 160),(.pick (.tmp 157) (.tmp 159) (.val (.bool false))),none,0⟩,⟨18,(some 161),(.mov (.tmp 160)),none,0⟩,⟨19,(some 162),(.call (.val (.fn (Fn.func 21) [] [])) []),(some (161,true)),0⟩,⟨20,(some 163),(.pick (.tmp 161) (.tmp 162) (.val (.bool false))),none,0⟩,⟨21,(some 4),(.mov (.tmp 163)),none,0⟩]) .ret)) .skip)) (.seq (.seq (.ops [⟨0,(some 164),(.mov (.tmp 10)),none,0⟩,⟨1,(some 165),(.bin .lss (.tmp 164) (.val (.int .i64 0))),none,0⟩,⟨2,(some 166),(.mov (.tmp 165)),none,0⟩,⟨3,(some 167),(.mov (.tmp 10)),(some (166,false)),0⟩,⟨4,(some 168),(.bin .gtr (.tmp 167) (.val (.int .i64 60))),(some (166,false)),0⟩,⟨5,(some 169),(.pick (.tmp 166) (.val (.bool true)) (.tmp 168)),none,0⟩]) (.cond (.tmp 169) (.seq (.ops [⟨0,(some 4),(.mov (.val (.bool false))),none,0⟩]) .ret) .skip)) (.seq (.ops [⟨0,(some 171),(.load (some 2) (.tmp 2)),none,0⟩,⟨1,(some 172),(.mov (.tmp 10)),none,0⟩,⟨2,(some 173),(.call (.val (.fn (Fn.func 16) [] [])) [(.tmp 171),(.tmp 172)]),none,0⟩,⟨3,(some 170),(.mov (.tmp 173)),none,0⟩,⟨4,(some 174),(.extract (.tmp 170) 0),none,0⟩,⟨5,(some 175),(.extract (.tmp 170) 1),none,0⟩,⟨6,(some 18),(.mov (.tmp 174)),none,0⟩,⟨7,(some 19),(.mov (.tmp 175)),none,0⟩]) (.seq (.seq (.ops [⟨0,(some 176),(.mov (.tmp 19)),none,0⟩,⟨1,(some 177),(.bin .neq (.tmp 176) (.val (.int .i64 0))),none,0⟩,⟨2,(some 178),(.mov (.tmp 177)),none,0⟩,⟨3,(some 179),(.mov (.tmp 18)),(some (178,false)),0⟩,⟨4,(some 180),(.bin .neq (.tmp 179) (.val (.int .i64 2))),(some (178,false)),0⟩,⟨5,(some 181),(.pick (.tmp 178) (.val (.bool true)) (.tmp 180)),none,0⟩,⟨6,(some 182),(.mov (.tmp 181)),none,0⟩,⟨7,(some 183),(.mov (.tmp 6)),(some (182,false)),0⟩,⟨8,(some 184),(.bin .eql (.tmp 183) (.val (.int .i64 2))),(some (182,false)),0⟩,⟨9,(some 185),(.mov (.tmp 5)),(some (182,false)),0⟩,⟨10,(some 186),(.mov (.tmp 10)),(some (182,false)),0⟩,⟨11,(some 187),(.bin .leq (.tmp 185) (.tmp 186)),(some (182,false)),0⟩,⟨12,(some 188),(.eq .bool true (.tmp 184) (.tmp 187)),(some (182,false)),0⟩,⟨13,(some 189),(.pick (.tmp 182) (.val (.bool true)) (.tmp 188)),none,0⟩]) (.cond (.tmp 189) (.seq (.ops [⟨0,(some 4),(.mov (.val (.bool false))),none,0⟩]) .ret) .skip)) (.seq (.seq (.ops [⟨0,(some 190),(.mov (.tmp 10)),none,0⟩,⟨1,(some 191),(.bin .eql (.tmp 190) (.val (.int .i64 60))),none,0⟩]) (.cond (.tmp 191) (.seq (.ops [⟨0,(some 192),(.call (.val (.fn (Fn.func 21) [] [])) []),none,0⟩,⟨1,(some 4),(.mov (.tmp 192)),none,0⟩]) .ret) .skip)) (.seq (.ops [⟨0,(some 194),(.load (some 2) (.tmp 2)),none,0⟩,⟨1,(some 195),(.mov (.tmp 10)),none,0⟩,⟨2,(some 196),(.bin .add (.tmp 195) (.val (.int .i64 1))),none,0⟩,⟨3,(some 197),(.call (.val (.fn (Fn.func 16) [] [])) [(.tmp 194),(.tmp 196)]),none,0⟩,⟨4,(some 193),(.mov (.tmp 197)),none,0⟩,⟨5,(some 198),(.extract (.tmp 193) 0),none,0⟩,⟨6,(some 199),(.extract (.tmp 193) 1),none,0⟩,⟨7,(some 20),(.mov (.tmp 198)),none,0⟩,⟨8,(some 21),(.mov (.tmp 199)),none,0⟩]) (.seq (.ops [⟨0,(some 200),(.mov (.tmp 21)),none,0⟩,⟨1,(some 201),(.bin .eql (.tmp 200) (.val (.int .i64 0))),none,0⟩,⟨2,(some 202),(.mov (.tmp 201)),none,0⟩,⟨3,(some 203),(.mov (.tmp 20)),(some (202,true)),0⟩,⟨4,(some 204),(.bin .neq (.tmp 203) (.val (.int .i64 2))),(some (202,true)),0⟩,⟨5,(some 205),(.pick (.tmp 202) (.tmp 204) (.val (.bool false))),none,0⟩,⟨6,(some 206),(.mov (.tmp 205)),none,0⟩,⟨7,(some 207),(.call (.val (.fn (Fn.func 21) [] [])) []),(some (206,true)),0⟩,⟨8,(some 208),(.pick (.tmp 206) (.tmp 207) (.val (.bool false))),none,0⟩,⟨9,(some 4),(.mov (.tmp 208)),none,0⟩]) .ret)))))))))))))))))⟩
end Ev
end Go.Proofs.Ytlcjlcllbgjplaa

/- RoadBears, gone through. -/
namespace Go.Proofs.Ytlcjlcllbgjplaa
open Go
namespace Ev
namespace Ro
open K
set_option maxRecDepth 100000
set_option maxHeartbeats 4000000
def LSpanC (call:CallF):Prop:=∀ (H:List AB) (a b:Int),call (.fn (.func 12) [] []) [.int .i64 a,.int .i64 b] H=some (.ret (.agg [.int .i64 a,.int .i64 b]),H,[])
theorem zwb (C:Cfg)(call:CallF)(hS:LSpanC call)(H:List AB)(a b:Int):Does (ev C call H.length none af31.body { tm:=tmA af31.ntmps (zipI 0 [.int .i64 a,.int .i64 b] []),df:=[],hp:=H,tc:=[] })
    (Ends C H.length af31.res fun v _hp tc=>v=evE (Rd.passE a b)∧tc=[]):=by
  have hs:=fun H=>hS H a b
  clear hS
  unfold af31
  simp only[zipI]
  (repeat (first|(with_reducible apply zal;(focus ((conv=>lhs;simp[*,ev1,wantG,spineK,spine,float,xnew,xval,xeff,zaa,zab,zam,zae,zad,addFl,cellsOf,pickC,alive,slLen,slFt,binI,maxA,maxK,minA,minK,aeqK,aeqS,AV.cells, spA,zac,fillA,setAt,bitsI,nat_nn,zan,AV.plain,apart,Nat.testBit_eq_decide_div_mod_eq])<;>exact rfl));simp only[addFl])|((with_reducible first|apply zao|apply zaq|apply zak|apply zai|apply zag|apply zap|apply zaj|apply zas|(apply zah;· simp[*,zaa])|(apply zaf;· simp[*,zaa]));try simp only[Then,Ops])|simp only[Nat.reduceEqDiff,reduceIte,OutB,Then]))
  exact zat (v:=.agg [.int .i64 0,.int .i64 a,.int .i64 b,.int .i64 0,.int .i64 0,.int .i64 0,.int .i64 0]) (.inl rfl) rfl (by simp) (by simp only[resL,resOf,zar];simp[*,pickC,resV]) ⟨rfl,by simp⟩
def LPassC (call:CallF):Prop:=∀ (H:List AB) (a b:Int),call (.fn (.func 31) [] []) [.int .i64 a,.int .i64 b] H=some (.ret (evE (Rd.passE a b)),H,[])
theorem zzu {call:CallF}(hA:LApi call){H:List AB}{v:AV}{r:Rd.Road}(hr:roadOf H v=some r)(hf:Rd.Fine r)(hcan:Rd.canR r (Rd.everyR r)=true):call (.fn (.func 26) [] []) [v] H=some (.ret (.tup [.int .i64 (Rd.surelyR r:Int),.int .i64 (Rd.perhapsR r:Int),.int .i64 0]),H,[]):=by
  rw[hA.below hr]
  have he:Rd.errR r true=0:=by
    unfold Rd.errR
    rw[(Rd.valid_iff r).2 hf,hcan];rfl
  unfold belowRV
  rw[he];rfl
theorem znx (C:Cfg)(call:CallF)(hA:LApi call)(r:Rd.Road)(hW:r.events.length≤40→WithC call r)(hP:LPassC call)(x:Int)(hx:0≤x∧x≤255)(H:List AB):
    Does (ev C call H.length none af6.body { tm:=tmA af6.ntmps (zipI 0 [.agg (roadCs r),.int .u8 x] []),df:=[],hp:=H,tc:=[] })
      (Ends C H.length af6.res fun v _ _=>v=.bool true):=by
  have hl:=fun H=>hA.long (H:=H) r
  have ha:=fun H=>hA.alive (H:=H)
  by_cases hlen:max r.parts.length r.events.length > 40
  · rw[decide_eq_true hlen] at hl
    clear hA hlen hW hP hx
    unfold af6
    simp only[zipI,roadCs] at *
    (repeat (first|(with_reducible apply zal;(focus ((conv=>lhs;simp[*,ev1,wantG,spineK,spine,float,xnew,xval,xeff,zaa,zab,zam,zae,zad,addFl,cellsOf,pickC,alive,slLen,slFt,binI,maxA,maxK,minA,minK,aeqK,aeqS,AV.cells, spA,zac,fillA,setAt,bitsI,nat_nn,zan,AV.plain,apart,Nat.testBit_eq_decide_div_mod_eq])<;>exact rfl));simp only[addFl])|((with_reducible first|apply zao|apply zaq|apply zak|apply zai|apply zag|apply zap|apply zaj|apply zas|(apply zah;· simp[*,zaa])|(apply zaf;· simp[*,zaa]));try simp only[Then,Ops])|simp only[Nat.reduceEqDiff,reduceIte,OutB,Then]))
    exact zat (v:=.bool true) (.inl rfl) rfl (by simp) (by simp only[resL,resOf,zar];simp[*,resV]) rfl
  rw[decide_eq_false hlen] at hl
  have hro:=fun H=>zyk H r (by omega) (by omega)
  have hv:=fun H=>hA.valid (hro H)
  cases hval:Rd.valid r with
  |false=>
    rw[hval] at hv
    clear hA hlen hro hval hW hP hx
    unfold af6
    simp only[zipI,roadCs] at *
    (repeat (first|(with_reducible apply zal;(focus ((conv=>lhs;simp[*,ev1,wantG,spineK,spine,float,xnew,xval,xeff,zaa,zab,zam,zae,zad,addFl,cellsOf,pickC,alive,slLen,slFt,binI,maxA,maxK,minA,minK,aeqK,aeqS,AV.cells, spA,zac,fillA,setAt,bitsI,nat_nn,zan,AV.plain,apart,Nat.testBit_eq_decide_div_mod_eq])<;>exact rfl));simp only[addFl])|((with_reducible first|apply zao|apply zaq|apply zak|apply zai|apply zag|apply zap|apply zaj|apply zas|(apply zah;· simp[*,zaa])|(apply zaf;· simp[*,zaa]));try simp only[Then,Ops])|simp only[Nat.reduceEqDiff,reduceIte,OutB,Then]))
    exact zat (v:=.bool true) (.inl rfl) rfl (by simp) (by simp only[resL,resOf,zar];simp[*,resV]) rfl
  |true=>
  rw[hval] at hv
  have hf:=(Rd.valid_iff r).1 hval
  have he10:=hf.events
  by_cases h10:r.events.length=10
  · clear hA hlen hro hval hW hP hx hf he10
    unfold af6
    simp only[zipI,roadCs] at *
    (repeat (first|(with_reducible apply zal;(focus ((conv=>lhs;simp[*,ev1,wantG,spineK,spine,float,xnew,xval,xeff,zaa,zab,zam,zae,zad,addFl,cellsOf,pickC,alive,slLen,slFt,binI,maxA,maxK,minA,minK,aeqK,aeqS,AV.cells, spA,zac,fillA,setAt,bitsI,nat_nn,zan,AV.plain,apart,Nat.testBit_eq_decide_div_mod_eq])<;>exact rfl));simp only[addFl])|((with_reducible first|apply zao|apply zaq|apply zak|apply zai|apply zag|apply zap|apply zaj|apply zas|(apply zah;· simp[*,zaa])|(apply zaf;· simp[*,zaa]));try simp only[Then,Ops])|simp only[Nat.reduceEqDiff,reduceIte,OutB,Then]))
    exact zat (v:=.bool true) (.inl rfl) rfl (by simp) (by simp only[resL,resOf,zar];simp[*,resV]) rfl
  have h10':¬ ((r.events.length:Int)=10):=by omega
  have h10b:((r.events.length:Int)==10)=false:=by simpa using h10'
  have hw:IntKind.i64.wrap x=x:=zaz (by omega) (by omega)
  obtain ⟨load,hload,hl0,hl1⟩:∃ load,x.tmod 61=load∧0≤load∧load≤60:=by
    refine ⟨_,rfl,Int.tmod_nonneg _ hx.1,?_⟩
    have:=Int.tmod_lt_of_pos x (show (0:Int)<61 by omega)
    omega
  have hw1:IntKind.i64.wrap (load - 1)=load - 1:=zaz (by omega) (by omega)
  have hL:Rd.isLoad load=true:=decide_eq_true ⟨hl0,hl1⟩
  have hL2:Rd.isLoad (max 0 (load - 1))=true:=decide_eq_true (by omega)
  have r1:=fun H=>hA.bears (hro H) load (by unfold i64n;omega)
  have r2:=fun H=>hA.bears (hro H) (max 0 (load - 1)) (by unfold i64n;omega)
  have r3:=fun H=>hA.most (hro H)
  rw[hL] at r1
  rw[hL2] at r2
  cases hcan:Rd.canR r (Rd.everyR r) with
  |false=>
    rw[ybi hf hcan] at r3
    rw[num_no hf hcan] at r1 r2
    clear hA hlen hro hval hW hP hx hf hcan h10 he10 hL hL2
    unfold af6
    simp only[zipI,roadCs] at *
    (repeat (first|(with_reducible apply zal;(focus ((conv=>lhs;simp[*,ev1,wantG,spineK,spine,float,xnew,xval,xeff,zaa,zab,zam,zae,zad,addFl,cellsOf,pickC,alive,slLen,slFt,binI,maxA,maxK,minA,minK,aeqK,aeqS,AV.cells, spA,zac,fillA,setAt,bitsI,nat_nn,zan,AV.plain,apart,Nat.testBit_eq_decide_div_mod_eq])<;>exact rfl));simp only[addFl])|((with_reducible first|apply zao|apply zaq|apply zak|apply zai|apply zag|apply zap|apply zaj|apply zas|(apply zah;· simp[*,zaa])|(apply zaf;· simp[*,zaa]));try simp only[Then,Ops])|simp only[Nat.reduceEqDiff,reduceIte,OutB,Then]))
    exact zat (v:=.bool true) (.inl rfl) rfl (by simp) (by simp only[resL,resOf,zar];simp[*,resV]) rfl
  |true=>
  rw[ybh hf hcan] at r3
  rw[num_ok hf hcan] at r1 r2
  have hPl:=fun H=>hP H load load
  obtain ⟨H1,b,c1,c2,c3,c4⟩:=hW (by omega) (H++[.cells [.vs 7 (r.parts.map ptE),.vs 7 (r.events.map evE)]]) (Rd.passE load load)
  have hro1:roadOf H1 (.agg [.vs 7 (r.parts.map ptE),.sl b 0 (r.events.length+1) 7])=some (Rd.addR r (Rd.passE load load)):=
    zls (zut _ _) (ybk c4 (by simp)) (by omega) (by simp;omega)
  have hB:=zzu hA hro1 (Rd.fine_pass hf (by omega) hl0 hl1) (by rw[Rd.pass_can];exact hcan)
  have p1:=Rd.bears_perhaps hf load
  have p2:=Rd.bears_surely hf hcan load
  have p3:=Rd.bears_ge r load
  have p4:Rd.bearsR r load≤Rd.bearsR r (max 0 (load - 1)):=Rd.bears_mono hf (by omega)
  have s1:Rd.surelyR (Rd.addR r (Rd.passE load load))<1024:=Rd.set_low _ (by simp[Rd.addR];omega)
  have s2:Rd.perhapsR (Rd.addR r (Rd.passE load load))<1024:=Rd.set_low _ (by simp[Rd.addR];omega)
  have t1:=zxj (n:=Rd.surelyR (Rd.addR r (Rd.passE load load))) (d:=r.events.length) (by omega) (by omega)
  have t2:=zxj (n:=Rd.perhapsR (Rd.addR r (Rd.passE load load))) (d:=r.events.length) (by omega) (by omega)
  have z3:H1[H.length]?=some (.cells [.vs 7 (r.parts.map ptE),.vs 7 (r.events.map evE)]):=c2.at (by simp) (by simp)
  have hHl:H.length≤H1.length:=by have:=c2.len;simp at this;omega
  obtain ⟨u0,u1,u2,u3,u4,u5⟩:=bk' z3
  have key:(Rd.bearsR r load=0∧(Rd.surelyR (Rd.addR r (Rd.passE load load))).testBit r.events.length=true∧(Rd.perhapsR (Rd.addR r (Rd.passE load load))).testBit r.events.length=true)∨(Rd.bearsR r load=1∧(Rd.surelyR (Rd.addR r (Rd.passE load load))).testBit r.events.length=false∧(Rd.perhapsR (Rd.addR r (Rd.passE load load))).testBit r.events.length=true)∨(Rd.bearsR r load=2∧(Rd.surelyR (Rd.addR r (Rd.passE load load))).testBit r.events.length=false∧(Rd.perhapsR (Rd.addR r (Rd.passE load load))).testBit r.events.length=false):=by
    cases q1:(Rd.surelyR (Rd.addR r (Rd.passE load load))).testBit r.events.length<;>cases q2:(Rd.perhapsR (Rd.addR r (Rd.passE load load))).testBit r.events.length<;>rw[q1] at p2<;>rw[q2] at p1<;>simp at p1 p2 ⊢<;>omega
  have b0:=fun H=>hA.bears (hro H) 0 (by unfold i64n;omega)
  rw[show Rd.isLoad 0=true by decide,num_ok hf hcan] at b0
  have bm:=fun (m:Nat) (hm:m≤60) H=>hA.bears (hro H) m (by unfold i64n;omega)
  have hsm:∀ a b:Nat,(a:Int)≤b→Rd.sureR r 0 b=true→Rd.sureR r 0 a=true:=fun a b h1 h2=>Rd.sure_mono hf h1 h2
  have hb2:=Rd.bears_two r
  have hno:=num_ok hf hcan
  obtain ⟨ld,rfl⟩:=Int.eq_ofNat_of_zero_le hl0
  clear hA hlen hro hval hW hP hx hf hcan h10 he10 hL hL2 p1 p2 p3 c2 c3 c4 z3 hro1 s1 s2
  generalize Rd.surelyR (Rd.addR r (Rd.passE ld ld))=S at *
  generalize Rd.perhapsR (Rd.addR r (Rd.passE ld ld))=P at *
  generalize Rd.bearsR r (max 0 ((ld:Int) - 1))=less at *
  have hb2l:=hb2 ld
  have hb20:=hb2 0
  cases ho:Rd.mostR r with
  |none=>
    rw[ho] at r3
    have n0:=Rd.most_none ho 0 (by omega)
    have n1:=Rd.most_none ho ld (by omega)
    rw[show ((0:Nat):Int)=0 from rfl] at n0
    rw[n0] at hb20
    rw[n1] at hb2l
    have k0:¬ Rd.bearsR r 0=2:=by simpa using hb20
    have k0':(Rd.bearsR r 0==2)=false:=by simpa using k0
    have k0'':(Rd.bearsR r 0 != 2)=true:=by simpa using k0
    clear hb20 n0 n1 hsm hb2 bm ho hno
    generalize Rd.bearsR r 0=bz at *
    simp only[Rd.passE,evE] at c1 hPl
    rcases key with ⟨e,a1,a2⟩|⟨e,a1,a2⟩|⟨e,a1,a2⟩
    · rw[e] at r1 p4
      rw[a1,if_pos rfl] at t1
      rw[a2,if_pos rfl] at t2
      have p4':¬ less<0:=by omega
      clear e a1 a2 hb2l p4
      simp at t1 t2
      unfold af6
      simp only[zipI,roadCs] at *
      (repeat (first|((with_reducible apply zal);(focus ((with_reducible apply zbg);(focus rfl);(focus rfl);(focus ((conv=>lhs;simp[*,spine,float,xnew,xval,xeff,zaa,zab,zam,zae,zad,addFl,cellsOf,pickC,alive,slLen,slFt,binI,maxA,maxK,minA,minK,aeqK,aeqS,AV.cells,spA,zac,List.getElem?_append_right,List.set_append_right,List.set_cons_zero,List.set_cons_succ,List.getElem?_cons_zero,List.getElem?_cons_succ,List.getElem?_append_left,List.getElem?_set_ne,List.getElem?_set_self,List.set_append_left,List.length_set,-getElem?_pos,↓zau,↓zbf, fillA,setAt,bitsI,nat_nn,zan,AV.plain,apart,Nat.testBit_eq_decide_div_mod_eq])<;>exact rfl));(focus rfl);(focus rfl)));simp only[addFl])|(with_reducible apply zal;(focus ((conv=>lhs;simp[*,ev1,wantG,spineK,spine,float,xnew,xval,xeff,zaa,zab,zam,zae,zad,addFl,cellsOf,pickC,alive,slLen,slFt,binI,maxA,maxK,minA,minK,aeqK,aeqS,AV.cells,List.getElem?_append_right,List.set_append_right,List.set_cons_zero,List.set_cons_succ,List.getElem?_cons_zero,List.getElem?_cons_succ,List.getElem?_append_left,List.getElem?_set_ne,List.getElem?_set_self,List.set_append_left,List.length_set,-getElem?_pos, ↓zau,↓zbf, spA,zac,fillA,setAt,bitsI,nat_nn,zan,AV.plain,apart,Nat.testBit_eq_decide_div_mod_eq])<;>exact rfl));simp only[addFl])|((with_reducible first|apply zao|apply zaq|apply zak|apply zai|apply zag|apply zap|apply zaj|apply zas|(apply zah;· simp[*,zaa])|(apply zaf;· simp[*,zaa]));try simp only[Then,Ops])|simp only[Nat.reduceEqDiff,reduceIte,OutB,Then]))
      exact zat (v:=.bool true) (.inl rfl) rfl (by simp;omega) (by simp only[resL,resOf,zar];simp[*,resV]) rfl
    · rw[e] at r1 p4
      rw[a1,if_neg (by decide)] at t1
      rw[a2,if_pos rfl] at t2
      have p4':¬ less<1:=by omega
      clear e a1 a2 hb2l p4
      simp at t1 t2
      unfold af6
      simp only[zipI,roadCs] at *
      (repeat (first|((with_reducible apply zal);(focus ((with_reducible apply zbg);(focus rfl);(focus rfl);(focus ((conv=>lhs;simp[*,spine,float,xnew,xval,xeff,zaa,zab,zam,zae,zad,addFl,cellsOf,pickC,alive,slLen,slFt,binI,maxA,maxK,minA,minK,aeqK,aeqS,AV.cells,spA,zac,List.getElem?_append_right,List.set_append_right,List.set_cons_zero,List.set_cons_succ,List.getElem?_cons_zero,List.getElem?_cons_succ,List.getElem?_append_left,List.getElem?_set_ne,List.getElem?_set_self,List.set_append_left,List.length_set,-getElem?_pos,↓zau,↓zbf, fillA,setAt,bitsI,nat_nn,zan,AV.plain,apart,Nat.testBit_eq_decide_div_mod_eq])<;>exact rfl));(focus rfl);(focus rfl)));simp only[addFl])|(with_reducible apply zal;(focus ((conv=>lhs;simp[*,ev1,wantG,spineK,spine,float,xnew,xval,xeff,zaa,zab,zam,zae,zad,addFl,cellsOf,pickC,alive,slLen,slFt,binI,maxA,maxK,minA,minK,aeqK,aeqS,AV.cells,List.getElem?_append_right,List.set_append_right,List.set_cons_zero,List.set_cons_succ,List.getElem?_cons_zero,List.getElem?_cons_succ,List.getElem?_append_left,List.getElem?_set_ne,List.getElem?_set_self,List.set_append_left,List.length_set,-getElem?_pos, ↓zau,↓zbf, spA,zac,fillA,setAt,bitsI,nat_nn,zan,AV.plain,apart,Nat.testBit_eq_decide_div_mod_eq])<;>exact rfl));simp only[addFl])|((with_reducible first|apply zao|apply zaq|apply zak|apply zai|apply zag|apply zap|apply zaj|apply zas|(apply zah;· simp[*,zaa])|(apply zaf;· simp[*,zaa]));try simp only[Then,Ops])|simp only[Nat.reduceEqDiff,reduceIte,OutB,Then]))
      exact zat (v:=.bool true) (.inl rfl) rfl (by simp;omega) (by simp only[resL,resOf,zar];simp[*,resV]) rfl
    · exact absurd (hb2l.1 e) (by decide)
  |some m=>
    rw[ho] at r3
    obtain ⟨m60,m1,m2⟩:=Rd.most_some ho
    have hle:Rd.bearsR r ld=2↔ld≤m:=by
      rw[hb2l]
      refine ⟨fun h=>Nat.not_lt.1 fun hlt=>?_,fun h=>hsm ld m (by omega) m1⟩
      rw[m2 ld hlt (by omega)] at h;cases h
    have hbm:=bm m m60
    rw[show Rd.isLoad m=true from decide_eq_true (by omega),hno,(hb2 m).2 m1] at hbm
    have hm0:¬ ((m:Int)<0):=by omega
    have hm6:¬ ((60:Int)<m):=by omega
    simp only[Option.getD_some,Option.isSome_some,if_true] at r3
    simp only[Rd.passE,evE] at c1 hPl
    by_cases hm:m=60
    · subst hm
      clear b0 bm hsm hno hb2 hb2l hb20 ho m1 m2 m60
      have hl60:ld≤60:=by omega
      have hbz:=hle.2 hl60
      rcases key with ⟨e,a1,a2⟩|⟨e,a1,a2⟩|⟨e,a1,a2⟩
      · omega
      · omega
      · rw[e] at r1 p4
        rw[a1,if_neg (by decide)] at t1
        rw[a2,if_neg (by decide)] at t2
        have p4':¬ less<2:=by omega
        have hl60':(ld:Int)≤60:=by omega
        clear e a1 a2 p4 hle hbz
        rw[show ((60:Nat):Int)=60 from rfl] at r3 hbm
        simp at t1 t2
        unfold af6
        simp only[zipI,roadCs] at *
        (repeat (first|((with_reducible apply zal);(focus ((with_reducible apply zbg);(focus rfl);(focus rfl);(focus ((conv=>lhs;simp[*,spine,float,xnew,xval,xeff,zaa,zab,zam,zae,zad,addFl,cellsOf,pickC,alive,slLen,slFt,binI,maxA,maxK,minA,minK,aeqK,aeqS,AV.cells,spA,zac,List.getElem?_append_right,List.set_append_right,List.set_cons_zero,List.set_cons_succ,List.getElem?_cons_zero,List.getElem?_cons_succ,List.getElem?_append_left,List.getElem?_set_ne,List.getElem?_set_self,List.set_append_left,List.length_set,-getElem?_pos,↓zau,↓zbf, fillA,setAt,bitsI,nat_nn,zan,AV.plain,apart,Nat.testBit_eq_decide_div_mod_eq])<;>exact rfl));(focus rfl);(focus rfl)));simp only[addFl])|(with_reducible apply zal;(focus ((conv=>lhs;simp[*,ev1,wantG,spineK,spine,float,xnew,xval,xeff,zaa,zab,zam,zae,zad,addFl,cellsOf,pickC,alive,slLen,slFt,binI,maxA,maxK,minA,minK,aeqK,aeqS,AV.cells,List.getElem?_append_right,List.set_append_right,List.set_cons_zero,List.set_cons_succ,List.getElem?_cons_zero,List.getElem?_cons_succ,List.getElem?_append_left,List.getElem?_set_ne,List.getElem?_set_self,List.set_append_left,List.length_set,-getElem?_pos, ↓zau,↓zbf, spA,zac,fillA,setAt,bitsI,nat_nn,zan,AV.plain,apart,Nat.testBit_eq_decide_div_mod_eq])<;>exact rfl));simp only[addFl])|((with_reducible first|apply zao|apply zaq|apply zak|apply zai|apply zag|apply zap|apply zaj|apply zas|(apply zah;· simp[*,zaa])|(apply zaf;· simp[*,zaa]));try simp only[Then,Ops])|simp only[Nat.reduceEqDiff,reduceIte,OutB,Then]))
        exact zat (v:=.bool true) (.inl rfl) rfl (by simp;omega) (by simp only[resL,resOf,zar];simp[*,resV]) rfl
    · have hbm1:=bm (m+1) (by omega)
      rw[show Rd.isLoad ((m+1:Nat):Int)=true from decide_eq_true (by omega),hno] at hbm1
      have k1:¬ Rd.bearsR r ((m+1:Nat):Int)=2:=fun h=>by
        have:=(hb2 _).1 h
        rw[m2 (m+1) (by omega) (by omega)] at this;cases this
      rw[show ((m+1:Nat):Int)=(m:Int)+1 by omega] at k1 hbm1
      generalize Rd.bearsR r ((m:Int)+1)=bz at *
      have k1':(bz==2)=false:=by simpa using k1
      have k1'':(bz != 2)=true:=by simpa using k1
      have hwm:IntKind.i64.wrap ((m:Int)+1)=(m:Int)+1:=zaz (by omega) (by omega)
      have hn60:¬ ((m:Int)=60):=by omega
      have hn60':((m:Int)==60)=false:=by simpa using hn60
      clear b0 bm hsm hno hb2 hb2l hb20 ho m1 m2 m60
      rcases key with ⟨e,a1,a2⟩|⟨e,a1,a2⟩|⟨e,a1,a2⟩
      · rw[e] at r1 p4 hle
        rw[a1,if_pos rfl] at t1
        rw[a2,if_pos rfl] at t2
        have p4':¬ less<0:=by omega
        have hlm:¬ ld≤m:=by omega
        have hlm':¬ (ld:Int)≤m:=by omega
        clear e a1 a2 p4 hle
        simp at t1 t2
        unfold af6
        simp only[zipI,roadCs] at *
        (repeat (first|((with_reducible apply zal);(focus ((with_reducible apply zbg);(focus rfl);(focus rfl);(focus ((conv=>lhs;simp[*,spine,float,xnew,xval,xeff,zaa,zab,zam,zae,zad,addFl,cellsOf,pickC,alive,slLen,slFt,binI,maxA,maxK,minA,minK,aeqK,aeqS,AV.cells,spA,zac,List.getElem?_append_right,List.set_append_right,List.set_cons_zero,List.set_cons_succ,List.getElem?_cons_zero,List.getElem?_cons_succ,List.getElem?_append_left,List.getElem?_set_ne,List.getElem?_set_self,List.set_append_left,List.length_set,-getElem?_pos,↓zau,↓zbf, fillA,setAt,bitsI,nat_nn,zan,AV.plain,apart,Nat.testBit_eq_decide_div_mod_eq])<;>exact rfl));(focus rfl);(focus rfl)));simp only[addFl])|(with_reducible apply zal;(focus ((conv=>lhs;simp[*,ev1,wantG,spineK,spine,float,xnew,xval,xeff,zaa,zab,zam,zae,zad,addFl,cellsOf,pickC,alive,slLen,slFt,binI,maxA,maxK,minA,minK,aeqK,aeqS,AV.cells,List.getElem?_append_right,List.set_append_right,List.set_cons_zero,List.set_cons_succ,List.getElem?_cons_zero,List.getElem?_cons_succ,List.getElem?_append_left,List.getElem?_set_ne,List.getElem?_set_self,List.set_append_left,List.length_set,-getElem?_pos, ↓zau,↓zbf, spA,zac,fillA,setAt,bitsI,nat_nn,zan,AV.plain,apart,Nat.testBit_eq_decide_div_mod_eq])<;>exact rfl));simp only[addFl])|((with_reducible first|apply zao|apply zaq|apply zak|apply zai|apply zag|apply zap|apply zaj|apply zas|(apply zah;· simp[*,zaa])|(apply zaf;· simp[*,zaa]));try simp only[Then,Ops])|simp only[Nat.reduceEqDiff,reduceIte,OutB,Then]))
        exact zat (v:=.bool true) (.inl rfl) rfl (by simp;omega) (by simp only[resL,resOf,zar];simp[*,resV]) rfl
      · rw[e] at r1 p4 hle
        rw[a1,if_neg (by decide)] at t1
        rw[a2,if_pos rfl] at t2
        have p4':¬ less<1:=by omega
        have hlm:¬ ld≤m:=by omega
        have hlm':¬ (ld:Int)≤m:=by omega
        clear e a1 a2 p4 hle
        simp at t1 t2
        unfold af6
        simp only[zipI,roadCs] at *
        (repeat (first|((with_reducible apply zal);(focus ((with_reducible apply zbg);(focus rfl);(focus rfl);(focus ((conv=>lhs;simp[*,spine,float,xnew,xval,xeff,zaa,zab,zam,zae,zad,addFl,cellsOf,pickC,alive,slLen,slFt,binI,maxA,maxK,minA,minK,aeqK,aeqS,AV.cells,spA,zac,List.getElem?_append_right,List.set_append_right,List.set_cons_zero,List.set_cons_succ,List.getElem?_cons_zero,List.getElem?_cons_succ,List.getElem?_append_left,List.getElem?_set_ne,List.getElem?_set_self,List.set_append_left,List.length_set,-getElem?_pos,↓zau,↓zbf, fillA,setAt,bitsI,nat_nn,zan,AV.plain,apart,Nat.testBit_eq_decide_div_mod_eq])<;>exact rfl));(focus rfl);(focus rfl)));simp only[addFl])|(with_reducible apply zal;(focus ((conv=>lhs;simp[*,ev1,wantG,spineK,spine,float,xnew,xval,xeff,zaa,zab,zam,zae,zad,addFl,cellsOf,pickC,alive,slLen,slFt,binI,maxA,maxK,minA,minK,aeqK,aeqS,AV.cells,List.getElem?_append_right,List.set_append_right,List.set_cons_zero,List.set_cons_succ,List.getElem?_cons_zero,List.getElem?_cons_succ,List.getElem?_append_left,List.getElem?_set_ne,List.getElem?_set_self,List.set_append_left,List.length_set,-getElem?_pos, ↓zau,↓zbf, spA,zac,fillA,setAt,bitsI,nat_nn,zan,AV.plain,apart,Nat.testBit_eq_decide_div_mod_eq])<;>exact rfl));simp only[addFl])|((with_reducible first|apply zao|apply zaq|apply zak|apply zai|apply zag|apply zap|apply zaj|apply zas|(apply zah;· simp[*,zaa])|(apply zaf;· simp[*,zaa]));try simp only[Then,Ops])|simp only[Nat.reduceEqDiff,reduceIte,OutB,Then]))
        exact zat (v:=.bool true) (.inl rfl) rfl (by simp;omega) (by simp only[resL,resOf,zar];simp[*,resV]) rfl
      · rw[e] at r1 p4 hle
        rw[a1,if_neg (by decide)] at t1
        rw[a2,if_neg (by decide)] at t2
        have p4':¬ less<2:=by omega
        have hlm:ld≤m:=by omega
        have hlm':(ld:Int)≤m:=by omega
        clear e a1 a2 p4 hle
        simp at t1 t2
        unfold af6
        simp only[zipI,roadCs] at *
        (repeat (first|((with_reducible apply zal);(focus ((with_reducible apply zbg);(focus rfl);(focus rfl);(focus ((conv=>lhs;simp[*,spine,float,xnew,xval,xeff,zaa,zab,zam,zae,zad,addFl,cellsOf,pickC,alive,slLen,slFt,binI,maxA,maxK,minA,minK,aeqK,aeqS,AV.cells,spA,zac,List.getElem?_append_right,List.set_append_right,List.set_cons_zero,List.set_cons_succ,List.getElem?_cons_zero,List.getElem?_cons_succ,List.getElem?_append_left,List.getElem?_set_ne,List.getElem?_set_self,List.set_append_left,List.length_set,-getElem?_pos,↓zau,↓zbf, fillA,setAt,bitsI,nat_nn,zan,AV.plain,apart,Nat.testBit_eq_decide_div_mod_eq])<;>exact rfl));(focus rfl);(focus rfl)));simp only[addFl])|(with_reducible apply zal;(focus ((conv=>lhs;simp[*,ev1,wantG,spineK,spine,float,xnew,xval,xeff,zaa,zab,zam,zae,zad,addFl,cellsOf,pickC,alive,slLen,slFt,binI,maxA,maxK,minA,minK,aeqK,aeqS,AV.cells,List.getElem?_append_right,List.set_append_right,List.set_cons_zero,List.set_cons_succ,List.getElem?_cons_zero,List.getElem?_cons_succ,List.getElem?_append_left,List.getElem?_set_ne,List.getElem?_set_self,List.set_append_left,List.length_set,-getElem?_pos, ↓zau,↓zbf, spA,zac,fillA,setAt,bitsI,nat_nn,zan,AV.plain,apart,Nat.testBit_eq_decide_div_mod_eq])<;>exact rfl));simp only[addFl])|((with_reducible first|apply zao|apply zaq|apply zak|apply zai|apply zag|apply zap|apply zaj|apply zas|(apply zah;· simp[*,zaa])|(apply zaf;· simp[*,zaa]));try simp only[Then,Ops])|simp only[Nat.reduceEqDiff,reduceIte,OutB,Then]))
        exact zat (v:=.bool true) (.inl rfl) rfl (by simp;omega) (by simp only[resL,resOf,zar];simp[*,resV]) rfl
end Ro
end Ev
end Go.Proofs.Ytlcjlcllbgjplaa

/- The code of functions of the laws is that of the program. Printed by program. -/
namespace Go.Proofs.Ytlcjlcllbgjplaa
open Go Go.Proofs
namespace Ev
set_option maxRecDepth 1000000
theorem is6 : ∃ F, Try.prog.funcs[6]? = some F ∧ (F.name == "runtime.NumGoroutine")=false∧compFn Try.prog F=some af6.strip:=⟨_,Try.func6,by kernel_rfl,by kernel_rfl⟩
end Ev
end Go.Proofs.Ytlcjlcllbgjplaa

/- The code of functions of the laws is that of the program. Printed by program. -/
namespace Go.Proofs.Ytlcjlcllbgjplaa
open Go Go.Proofs
namespace Ev
set_option maxRecDepth 1000000
theorem is29 : ∃ F, Try.prog.funcs[29]? = some F ∧ (F.name == "runtime.NumGoroutine")=false∧compFn Try.prog F=some af29.strip:=⟨_,Try.func29,by kernel_rfl,by kernel_rfl⟩
end Ev
end Go.Proofs.Ytlcjlcllbgjplaa

/- The functions that the law RoadBears goes through itself. Printed by program. -/
namespace Go.Proofs.Ytlcjlcllbgjplaa
open Go Go.Proofs
namespace Ev
def treeRoadBears:FT:=(.node 22 af22 (.node 12 af12 (.node 6 af6 .leaf .leaf) .leaf) (.node 31 af31 (.node 29 af29 .leaf .leaf) .leaf))
theorem zhi : FT.All (fun k af => ∃ F, Try.prog.funcs[k]? = some F ∧ (F.name == "runtime.NumGoroutine")=false∧compFn Try.prog F=some af.strip) treeRoadBears:=
  ⟨is22,⟨is12,⟨is6,trivial,trivial⟩,trivial⟩,⟨is31,⟨is29,trivial,trivial⟩,trivial⟩⟩
end Ev
end Go.Proofs.Ytlcjlcllbgjplaa

/- The Go function RoadBears returns true, for every argument, in every world in which it is called; nothing that was there is turned. No condition. -/
namespace Go.Proofs.Ytlcjlcllbgjplaa
open Go Go.Proofs Go.ChangeShapes Go.WideShapes Go.ChangeAt Go.RowKit
namespace Ev
namespace Ro
open K
theorem lawRoadBears (W:World)(r:Rd.Road){v0:Value}(hv0:VR W (fun _=>False) nomu (.agg (roadCs r)) v0)(x1:Int)(b1:(Lit.int .u8 x1).wf=true){v1:Value}(hv1:VR W (fun _=>False) nomu (.int .u8 x1) v1):CallsIn Fence.wide 0 Try.prog 6 #[v0,v1] W fun e W'=>e=.returned (.bool true)∧Below W.heap.size W W':=by
  have hz:∀ {f:Nat} {af:AFunc},(cfgL treeRoadBears).exth f=none→FT.find treeRoadBears f=some af→Has (cfgL treeRoadBears) f af:=fun h1 h2=>has_of rfl h1 h2 rfl
  have la:=fun n=>lapi (t:=treeRoadBears) (hz rfl (by kernel_rfl)) n
  have k:Has (cfgL treeRoadBears) 6 af6:=hz rfl (by kernel_rfl)
  obtain ⟨v,hp,tc,H',h1,h2,_⟩:=zdd (C:=cfgL treeRoadBears) (n:=4) (first:=[]) (captured:=[]) (args:=[.agg (roadCs r),.int .u8 x1]) (H:=[]) (Q:=fun v _ _=>v=.bool true) rfl k.ext k.exth k.fns k.whole (le' rfl) (znx (cfgL treeRoadBears) _ (la 3) r (fun h=>ztp rfl (hz rfl (by kernel_rfl)) (by omega) 3) (fun H a b=>zay rfl (hz rfl (by kernel_rfl)) (le' rfl) rfl (zwb (cfgL treeRoadBears) _ (fun H a b=>zay rfl (hz rfl (by kernel_rfl)) (le' rfl) rfl (zvy (cfgL treeRoadBears) _ H a b)) H a b)) x1 (zxi b1) [])
  subst h2
  refine (zll (tblL zhi) h1 trivial (zbo _ _ _) (rargs:=#[v0,v1]) ⟨rfl,fun i y r hy hr=>?_⟩).mono ?_
  · match i,hy,hr with
    |0,hy,hr=>cases hy;cases hr;exact hv0
    |1,hy,hr=>cases hy;cases hr;exact hv1
    |i+2,hy,hr=>simp at hy
  · rintro e W' ⟨⟨w,rfl,hw⟩,bel⟩
    exact ⟨by rw[ybu hw W],bel⟩
end Ro
end Ev
set_option maxRecDepth 100000 in
theorem zhk (os:Os)(started:os.Started)(H:Type)(enc:TypeId × Value→H):
    ReturnsInHanded {} Try.checked os 6 .any (Rows.roadBearsSpec.pre6 enc Try.prog Try.f6 Rows.roadBearsRow.domain false) (Rows.roadBearsSpec.post enc Try.prog Try.f6 false true false false):=by
  refine returnsInHanded_of_change (C:=Try.checked) znq started (by kernel_rfl) Try.func6
    (ChangeSpec.witness6 (enc:=enc) (C:=Try.checked) false ⟨#[],#[noRoad,.int .u8 0],[]⟩ 8 (by kernel_rfl) (by kernel_rfl) (by kernel_rfl) (by kernel_rfl)) ?_
  intro W base args ds gs before hval0 hW hcnd _
  have hval:∀ (j:Nat) t v,Try.f6.params[j]?=some t→args[j]?=some v→Value.okWide Try.prog W .any base t v:=hval0
  have hW':=hW
  obtain ⟨p,q,hA0,hV,rfl,hfz,hnd⟩:=hW
  have hA:DataW.TrodAll enc Try.prog W 0 (fun _=>true) true Try.f6.params.toList args.toList ds p:=hA0
  rw[Try.params6] at hA hval
  obtain ⟨v0,vs0,d0,ds0,p0,q0,hargs0,rfl,rfl,h0,hA1⟩:=trodAll_cons hA
  obtain ⟨v1,vs1,d1,ds1,p1,q1,rfl,rfl,rfl,h1,hA2⟩:=trodAll_cons hA1
  obtain ⟨rfl,rfl,rfl⟩:=trodAll_nil hA2
  obtain rfl:args=#[v0,v1]:=Array.ext' hargs0
  obtain ⟨rfl,rfl,rfl⟩:=trodVars_none hV
  clear hA0 hval0
  obtain ⟨r,hx0⟩:=zuz (hval 0 25 v0 rfl rfl) h0
  obtain ⟨x1,rfl,rfl,rfl,wf1⟩:=open_int Try.underlying5 (hval 1 5 v1 rfl rfl) h1
  simp only[List.append_nil] at hW'
  have hlt:∀ x∈(p0++([]++[])),x.block<W.heap.size:=fun x hx=>by simpa using hW'.lt x (by simpa using hx)
  refine (callsIn_wide.1 (Ev.Ro.lawRoadBears W r hx0 x1 wf1 .int)).mono fun e W' ⟨he,bel⟩=>?_
  subst he
  refine ⟨_,rfl,_,_,_,[],(p0++([]++[])),[],by simpa using hW',?_,?_,?_,bel.frame _,fun h=>by cases h⟩
  · exact trodAll_mk1 (shut_bool Try.underlying4 true)
  · exact trodAll_cons_mk (Below.trod laidOut' (by kernel_rfl) (of_decide_eq_true (by kernel_rfl)) h0 bel (fun x hx=>hlt x (by simp[hx]))) (trodAll_cons_mk (shut_int Try.underlying5 wf1) (trodAll_mk0))
  · exact rfl
theorem roadBears_holds:Rows.RoadBearsSaid:=
  OpenClaim.holds_of_wide 6 Try.f6 rfl rfl rfl rfl rfl rfl rfl ⟨rfl,rfl,rfl,rfl,rfl⟩ rfl rfl rfl rfl rfl (by kernel_rfl) Try.func6 (by kernel_rfl)
    (of_decide_eq_true (by kernel_rfl)) (by unfold Func.isWrapper;first|(rw[if_pos (by decide +kernel)];kernel_rfl)|(rw[if_neg (by decide +kernel)];exact ⟨rfl,rfl⟩))
    (fun os started H enc _=>zhk os started H enc)
#print axioms roadBears_holds
end Go.Proofs.Ytlcjlcllbgjplaa
