/- The Go function RoadEnds returns true, for every argument, in every world in which it is called; nothing that was there is turned. No condition. -/
import Derived.Test.YtlcjlcllbgjplaaReEA
import Derived.Test.YtlcjlcllbgjplaaRePG
import Derived.Test.YtlcjlcllbgjplaaProg
import Derived.KernelRfl
/- The code of functions of the laws, for the evaluator. Printed by program. -/
namespace Go.Proofs.Ytlcjlcllbgjplaa
open Go
namespace Ev
end Ev
end Go.Proofs.Ytlcjlcllbgjplaa

/- The code of functions of the laws, for the evaluator. Printed by program. -/
namespace Go.Proofs.Ytlcjlcllbgjplaa
open Go
namespace Ev
end Ev
end Go.Proofs.Ytlcjlcllbgjplaa

/- RoadRest, gone through. -/
namespace Go.Proofs.Ytlcjlcllbgjplaa
open Go
namespace Ev
namespace Ro
open K
set_option maxRecDepth 100000
set_option maxHeartbeats 4000000
end Ro
end Ev
end Go.Proofs.Ytlcjlcllbgjplaa

/- Chapter 05: what a road bears: plain. -/
namespace Go.Proofs.Ytlcjlcllbgjplaa
open Go
namespace Rd
open Clm (Sp Hull spanL mem_span setOf)
theorem zwf {r:Road}{load:Int}{ls:List Int}(h:All r ls):All (addR r (passE load load)) (ls++[load]):=(zje (by simp[passE]) _).2 ⟨ls,load,rfl,h,fun _=>⟨Int.le_refl _,Int.le_refl _⟩,fun h=>absurd rfl h⟩
theorem zxg {r:Road}{load:Int}{ls:List Int}(h:All (addR r (passE load load)) ls):∃ l,ls=l++[load]∧All r l:=by
 obtain ⟨l,k,rfl,h1,h2,_⟩:=(zje (by simp[passE]) ls).1 h
 have h3:=h2 rfl
 simp only[passE,Sp.has] at h3
 have:k=load:=by omega
 exact ⟨l,by rw[this],h1⟩
theorem zmz {r:Road}{load:Int}{l:List Int}(hl:l.length=r.events.length)(k:Int)(i:Nat)(p:Tr)(h:Int):Tru (addR r (passE load load)) (l++[k]) i p h↔Tru r l i p h:=by
 rw[zdn hl]
 exact ⟨fun h=>h.1,fun h=>⟨h,fun e=>by simp[passE] at e⟩⟩
theorem zjv {r:Road}{l:List Int}(hl:l.length=r.events.length)(a k:Int)(p:Tr)(h:Int):heightR (addR r (passE a a)) p h (l++[k]) (r.events.length+1)=endR r p h l - sunk p k:=zps (v:=passE a a) hl k p h
end Rd
end Go.Proofs.Ytlcjlcllbgjplaa

/- The code of functions of the laws, for the evaluator. Printed by program. -/
namespace Go.Proofs.Ytlcjlcllbgjplaa
open Go
namespace Ev
end Ev
end Go.Proofs.Ytlcjlcllbgjplaa

/- RoadBears, gone through. -/
namespace Go.Proofs.Ytlcjlcllbgjplaa
open Go
namespace Ev
namespace Ro
open K
attribute [local simp] ev1 wantG spineK spine float xnew xval xeff zaa zat zbb zax zaw addFl cellsOf pickC alive slLen slFt binI maxA maxK minA minK aeqK aeqS AV.cells spA zau fillA setAt bitsI nat_nn zbd AV.plain apart
set_option maxRecDepth 100000
set_option maxHeartbeats 4000000
def LSpanC (call:CallF):Prop:=∀ (H:List AB) (a b:Int),call (.fn (.func 12) [] []) [.int .i64 a,.int .i64 b] H=some (.ret (.agg [.int .i64 a,.int .i64 b]),H,[])
theorem zti (C:Cfg)(call:CallF)(hS:LSpanC call)(H:List AB)(a b:Int):Does (ev C call H.length none af31.body { tm:=tmA af31.ntmps (zipI 0 [.int .i64 a,.int .i64 b] []),df:=[],hp:=H,tc:=[] })
  (Ends C H.length af31.res fun v _hp tc=>v=evE (Rd.passE a b)∧tc=[]):=by
 have hs:=fun H=>hS H a b
 clear hS
 unfold af31 Zq Zm Zo Zs Zc Zt Zn Zi
 simp only[zipI]
 (repeat (first|(with_reducible apply zad;(focus ((conv=>lhs;simp[*,Nat.testBit_eq_decide_div_mod_eq])<;>exact rfl));simp only[addFl])|((with_reducible first|apply zai|apply zak|apply zah|apply zaf|apply zac|apply zaj|apply zag|apply zal|(apply zae;· simp[*,zaa])|(apply zab;· simp[*,zaa]));try simp only[Then,Ops])|simp only[Nat.reduceEqDiff,reduceIte,OutB,Then]))
 exact zan (v:=.agg [.int .i64 0,.int .i64 a,.int .i64 b,.int .i64 0,.int .i64 0,.int .i64 0,.int .i64 0]) (.inl rfl) rfl (by simp) (by simp only[resL,resOf,zam];simp[*,pickC,resV]) ⟨rfl,by simp⟩
def LPassC (call:CallF):Prop:=∀ (H:List AB) (a b:Int),call (.fn (.func 31) [] []) [.int .i64 a,.int .i64 b] H=some (.ret (evE (Rd.passE a b)),H,[])
end Ro
end Ev
end Go.Proofs.Ytlcjlcllbgjplaa

/- Chapter 05: both ends of what is returned: plain. -/
namespace Go.Proofs.Ytlcjlcllbgjplaa
open Go
namespace Rd
open Clm (Sp Hull spanL mem_span setOf)
variable {r:Road}
theorem sink_ends (hr:Fine r)(hc:canR r (everyR r)=true){i:Nat}(hi:i<r.parts.length){load:Int}(h0:0≤load):(sinksR r i load).lo≤(sinksR r i load).hi∧(sinksR r i load).lo≤(sinksR r i (load+1)).lo∧(sinksR r i load).hi≤(sinksR r i (load+1)).hi∧0≤(sinksR r i load).lo∧(load=0→sinksR r i load=⟨0,0⟩):=by
 have H:=sink_tru hc hi load
 have K:=sink_tru hc hi (load+1)
 refine ⟨H.le,?_,?_,?_,fun h=>?_⟩
 ·obtain ⟨ls,p,h,a,b,e⟩:=K.lo
  have h1:=H.all _ ⟨ls,p,h,a,b,rfl⟩
  have h2:=zjj (tru_part hr hi b).1 (show load≤load+1 by omega)
  simp only[Sp.has] at h1
  omega
 ·obtain ⟨ls,p,h,a,b,e⟩:=H.hi
  have h1:=K.all _ ⟨ls,p,h,a,b,rfl⟩
  have h2:=zjj (tru_part hr hi b).1 (show load≤load+1 by omega)
  simp only[Sp.has] at h1
  omega
 ·obtain ⟨ls,p,h,a,b,e⟩:=H.lo
  have:=sunk_nn (tru_part hr hi b).1 h0
  omega
 ·subst h
  have z:∀ x,(∃ ls p h,All r ls∧Tru r ls i p h∧x=sunk p 0)→x=0:=by
   rintro x ⟨ls,p,h,a,b,rfl⟩
   have h1:=(tru_part hr hi b).1
   unfold sunk
   exact Int.ediv_eq_zero_of_lt (by omega) (by omega)
  have e1:=z _ H.lo
  have e2:=z _ H.hi
  cases hs:sinksR r i 0
  rw[hs] at e1 e2
  simp only at e1 e2
  rw[e1,e2]
theorem sunk_le {p:Tr}(h1:1≤p.stiff){load:Int}(h0:0≤load):sunk p load≤load:=by
 unfold sunk
 have h2:load+p.stiff - 1<(load+1) * p.stiff:=by
  rw[Int.add_mul,Int.one_mul]
  have:=Int.mul_le_mul_of_nonneg_left h1 h0
  omega
 have:=Int.ediv_lt_of_lt_mul (by omega) h2
 omega
theorem zlb {p:Tr}(hs:1≤p.stiff)(hri:0≤p.rise):∀ (es:List Evt) (ls:List Int) (h:Int),h≤p.full→(∀ v∈es,v.kind=1→0≤v.days)→(∀ x∈ls,0≤x∧x≤60)→h - 60 * es.length≤after p es ls h∧after p es ls h≤p.full
 |[],ls,h,hf,_,_=>by simp only[after,List.length_nil];omega
 |v::l,ls,h,hf,hd,hl=>by
  have h0:0≤ls.headD 0∧ls.headD 0≤60:=by
   cases ls with
   |nil=>simp
   |cons a t=>exact hl a (by simp)
  have h1:h - 60≤stepE v p h (ls.headD 0)∧stepE v p h (ls.headD 0)≤p.full:=by
   unfold stepE
   split
   ·have:=sunk_le hs h0.1
    have:=sunk_nn hs h0.1
    omega
   ·split
    ·rename_i hk
     have:=Int.mul_nonneg (hd v (by simp) hk) hri
     unfold rested
     omega
    ·omega
  obtain ⟨h2,h3⟩:=zlb hs hri l ls.tail _ h1.2 (fun u hu=>hd u (by simp[hu])) fun x hx=>hl x (List.mem_of_mem_tail hx)
  rw[after]
  simp only[List.length_cons]
  omega
theorem height_bound (hr:Fine r)(hc:canR r (everyR r)=true){i:Nat}(hi:i<r.parts.length)(m:Nat):-600≤(heightsR r i m).lo∧(heightsR r i m).lo≤(heightsR r i m).hi∧(heightsR r i m).hi≤60:=by
 have H:=zcx hc hi m
 have z:∀ x,(∃ ls p h,All r ls∧Tru r ls i p h∧x=heightR r p h ls m)→-600≤x∧x≤60:=by
  rintro x ⟨ls,p,h,a,b,rfl⟩
  obtain ⟨q1,q2,q3,q4,q5,q6,q7⟩:=tru_part hr hi b
  have h1:=zlb q1 q3 (r.events.take m) ls h q6 (zyq hr m) (lds_nn hr a.1)
  have h2:=hr.events
  have h3:(r.events.take m).length≤10:=by rw[List.length_take];omega
  unfold heightR
  omega
 exact ⟨(z _ H.lo).1,H.le,(z _ H.hi).2⟩
theorem zwl (_hr:Fine r){i:Nat}(hi:i<r.parts.length)(n:Int):canR (addR r (lookE i n n)) (everyR (addR r (lookE i n n)))=true↔∃ ls p h,All r ls∧Tru r ls i p h∧n=endR r p h ls:=by
 rw[zmh]
 constructor
 ·rintro ⟨ls,h1,h2⟩
  obtain ⟨l,k,rfl,h3,_⟩:=(zgs r.events _ ls).1 h1
  have hall : All r l := ⟨h3, fun j hj => by
   obtain ⟨p,h,ht⟩:=h2 j hj
   exact ⟨p,h,((zdn h3.1 k j p h).1 ht).1⟩⟩
  obtain ⟨p,h,ht⟩:=h2 i hi
  obtain ⟨h4,h5⟩:=(zdn h3.1 k i p h).1 ht
  have h6:=h5 rfl rfl
  simp only[lookE] at h6
  exact ⟨l,p,h,hall,h4,by omega⟩
 ·rintro ⟨l,p,h,hall,ht,e⟩
  refine ⟨l++[0],(zgs r.events _ _).2 ⟨l,0,rfl,hall.1,fun h=>by simp[lookE] at h,fun _=>rfl⟩,fun j hj=>?_⟩
  by_cases hji:j=i
  ·subst hji
   exact ⟨p,h,(zdn hall.1.1 0 j p h).2 ⟨ht,fun _ _=>by simp only[lookE];omega⟩⟩
  ·obtain ⟨p',h',ht'⟩:=hall.2 j hj
   exact ⟨p',h',(zdn hall.1.1 0 j p' h').2 ⟨ht',fun _ hp=>by simp only[lookE] at hp;omega⟩⟩
theorem look_height (_hr:Fine r){i:Nat}(hi:i<r.parts.length)(n:Int)(hc:canR (addR r (lookE i n n)) (everyR (addR r (lookE i n n)))=true):heightsR (addR r (lookE i n n)) i r.events.length=⟨n,n⟩:=by
 have H:=zcx (r:=addR r (lookE i n n)) hc hi r.events.length
 have z:∀ x,(∃ ls p h,All (addR r (lookE i n n)) ls∧Tru (addR r (lookE i n n)) ls i p h∧x=heightR (addR r (lookE i n n)) p h ls r.events.length)→x=n:=by
  rintro x ⟨ls,p,h,a,b,rfl⟩
  obtain ⟨l,k,rfl,h3,_⟩:=(zgs r.events _ ls).1 a.1
  obtain ⟨h4,h5⟩:=(zdn h3.1 k i p h).1 b
  have h6:=h5 rfl rfl
  simp only[lookE] at h6
  rw[zcy h3.1 k p h (Nat.le_refl _)]
  unfold endR at h6
  omega
 have e1:=z _ H.lo
 have e2:=z _ H.hi
 cases hs:heightsR (addR r (lookE i n n)) i r.events.length
 rw[hs] at e1 e2
 simp only at e1 e2
 rw[e1,e2]
theorem look_four (hr:Fine r)(hcan:canR r (everyR r)=true){i:Nat}(hi:i<r.parts.length){n:Int}(hn:n=(heightsR r i r.events.length).lo - 1∨n=(heightsR r i r.events.length).lo∨n=(heightsR r i r.events.length).hi∨n=(heightsR r i r.events.length).hi+1):canR (addR r (lookE i n n)) (everyR (addR r (lookE i n n)))=true↔(heightsR r i r.events.length).lo≤n∧n≤(heightsR r i r.events.length).hi:=by
 have H:=zcx hcan hi r.events.length
 rw[zwl hr hi]
 constructor
 ·rintro ⟨ls,p,h,a,b,e⟩
  exact H.all n ⟨ls,p,h,a,b,e⟩
 ·intro h
  have hle:=H.le
  rcases hn with hn|hn|hn|hn
  ·omega
  ·rw[hn];exact H.lo
  ·rw[hn];exact H.hi
  ·omega
theorem fine_look (hr:Fine r)(h9:r.events.length≤9){i:Nat}(hi:i<r.parts.length){n:Int}(h1:-1000≤n)(h2:n≤1000):Fine (addR r (lookE i n n)):=znk hr h9 (.inr (.inr ⟨rfl,by simp only[lookE];omega,by simp only[lookE];omega⟩)) (by simp[lookE])
theorem pass_ends (_hr:Fine r)(hc:canR r (everyR r)=true){i:Nat}(hi:i<r.parts.length)(load:Int):
  (heightsR r i r.events.length).lo - (sinksR r i load).hi≤(heightsR (addR r (passE load load)) i (r.events.length+1)).lo∧(heightsR (addR r (passE load load)) i (r.events.length+1)).lo≤(heightsR r i r.events.length).lo - (sinksR r i load).lo ∧
  (heightsR r i r.events.length).hi - (sinksR r i load).hi≤(heightsR (addR r (passE load load)) i (r.events.length+1)).hi∧(heightsR (addR r (passE load load)) i (r.events.length+1)).hi≤(heightsR r i r.events.length).hi - (sinksR r i load).lo:=by
 have H:=zcx hc hi r.events.length
 have K:=sink_tru hc hi load
 have D:=zcx (r:=addR r (passE load load)) (by rw[pass_can];exact hc) hi (r.events.length+1)
 have z:∀ x,(∃ ls p h,All (addR r (passE load load)) ls∧Tru (addR r (passE load load)) ls i p h∧x=heightR (addR r (passE load load)) p h ls (r.events.length+1))→∃ y k,(heightsR r i r.events.length).has y∧(sinksR r i load).has k∧x=y - k:=by
  rintro x ⟨ls,p,h,a,b,rfl⟩
  obtain ⟨l,rfl,h2⟩:=zxg a
  have h3:=(zmz h2.1.1 load i p h).1 b
  exact ⟨_,_,H.all _ ⟨l,p,h,h2,h3,rfl⟩,K.all _ ⟨l,p,h,h2,h3,rfl⟩,zjv h2.1.1 load load p h⟩
 have w:∀ y,(∃ ls p h,All r ls∧Tru r ls i p h∧y=heightR r p h ls r.events.length)→∃ k,(sinksR r i load).has k∧(heightsR (addR r (passE load load)) i (r.events.length+1)).has (y - k):=by
  rintro y ⟨ls,p,h,a,b,rfl⟩
  refine ⟨_,K.all _ ⟨ls,p,h,a,b,rfl⟩,D.all _ ⟨ls++[load],p,h,zwf a,(zmz a.1.1 load i p h).2 b,?_⟩⟩
  rw[zjv a.1.1];rfl
 obtain ⟨y1,k1,a1,b1,e1⟩:=z _ D.lo
 obtain ⟨y2,k2,a2,b2,e2⟩:=z _ D.hi
 obtain ⟨k3,a3,b3⟩:=w _ H.lo
 obtain ⟨k4,a4,b4⟩:=w _ H.hi
 simp only[Sp.has] at *
 omega
end Rd
end Go.Proofs.Ytlcjlcllbgjplaa

/- The code of functions of the laws, for the evaluator. Printed by program. -/
namespace Go.Proofs.Ytlcjlcllbgjplaa
open Go
namespace Ev
def af5:AFunc:=⟨342,[.tmp 6],Zq [Zo 0 3 (.box (Zt 0)),Zo 1 6 (.mov (.val (.bool false)))] (.seq (Zq [Zo 0 36 (.load (some 2) (Zt 3)),Zo 1 37 (Zc 22 [Zt 36])] (.cond (Zt 37) (Zq [Zo 0 38 (Zc 21 []),Zm 1 6 38] .ret) .skip)) (.seq (Zq [Zo 0 39 (.load (some 2) (Zt 3)),Zo 1 40 (Zc 23 [Zt 39]),Zo 2 41 (.not (Zt 40))] (.cond (Zt 41) (Zq [Zo 0 43 (.load (some 2) (Zt 3)),Zo 1 44 (Zc 19 [Zt 43]),Zm 2 42 44,Zo 3 45 (.extract (Zt 42) 0),Zo 4 46 (.extract (Zt 42) 1),Zm 5 7 45,Zm 6 8 46] (Zq [Zo 0 48 (.load (some 2) (Zt 3)),Zo 1 49 (Zc 18 [Zt 48]),Zm 2 47 49,Zo 3 50 (.extract (Zt 47) 0),Zo 4 51 (.extract (Zt 47) 1),Zm 5 9 50,Zm 6 10 51] (Zq [Zm 0 52 8,Zo 1 53 (.bin .eql (Zt 52) (Zn 1)),Zm 2 54 53,⟨3,some 55,.mov (Zt 10),some (54,true),0⟩,⟨4,some 56,.mov (Zt 8),some (54,true),0⟩,⟨5,some 57,.bin .eql (Zt 55) (Zt 56),some (54,true),0⟩,Zo 6 58 (.pick (Zt 54) (Zt 57) (.val (.bool false))),Zm 7 59 58,⟨8,some 60,.mov (Zt 7),some (59,true),0⟩,⟨9,some 61,.bin .eql (Zt 60) (Zn 0),some (59,true),0⟩,Zo 10 62 (.pick (Zt 59) (Zt 61) (.val (.bool false))),Zm 11 63 62,⟨12,some 64,Zc 21 [],some (63,true),0⟩,Zo 13 65 (.pick (Zt 63) (Zt 64) (.val (.bool false))),Zm 14 6 65] .ret))) .skip)) (Zq [Zm 0 66 1,Zo 1 67 (.conv .i64 (Zt 66)),Zo 2 68 (.fieldA 0 (Zt 3)),Zl 3 69 68,Zo 4 70 (.len (Zt 69)),Zo 5 71 (.bin .rem (Zt 67) (Zt 70)),Zm 6 72 2,Zo 7 73 (.conv .i64 (Zt 72)),Zo 8 74 (.bin .rem (Zt 73) (Zn 60)),Zm 9 11 71,Zm 10 12 74] (Zq [Zo 0 76 (.load (some 2) (Zt 3)),Zm 1 77 11,Zm 2 78 12,Zo 3 79 (Zc 15 [Zt 76,Zt 77,Zt 78]),Zm 4 75 79,Zo 5 80 (.extract (Zt 75) 0),Zo 6 81 (.extract (Zt 75) 1),Zo 7 13 (.alloc [Zi 0,Zi 0]),Zs 8 (.store 2 (Zt 13) (Zt 80)),Zm 9 14 81] (Zq [Zo 0 83 (.load (some 2) (Zt 3)),Zm 1 84 11,Zm 2 85 12,Zo 3 86 (.bin .add (Zt 85) (Zn 1)),Zo 4 87 (Zc 15 [Zt 83,Zt 84,Zt 86]),Zm 5 82 87,Zo 6 88 (.extract (Zt 82) 0),Zo 7 89 (.extract (Zt 82) 1),Zo 8 15 (.alloc [Zi 0,Zi 0]),Zs 9 (.store 2 (Zt 15) (Zt 88)),Zm 10 16 89] (Zq [Zo 0 91 (.load (some 2) (Zt 3)),Zo 1 92 (.fieldA 0 (Zt 3)),Zl 2 93 92,Zo 3 94 (.len (Zt 93)),Zo 4 95 (Zc 15 [Zt 91,Zt 94,Zn 0]),Zm 5 90 95,Zo 6 96 (.extract (Zt 90) 0),Zo 7 97 (.extract (Zt 90) 1),Zo 8 17 (.alloc [Zi 0,Zi 0]),Zs 9 (.store 2 (Zt 17) (Zt 96)),Zm 10 18 97] (Zq [Zo 0 99 (.load (some 2) (Zt 3)),Zo 1 100 (Zc 16 [Zt 99,Zn 61]),Zm 2 98 100,Zo 3 101 (.extract (Zt 98) 0),Zo 4 102 (.extract (Zt 98) 1),Zm 5 19 101,Zm 6 20 102] (Zq [Zo 0 104 (.load (some 2) (Zt 3)),Zo 1 105 (Zc 17 [Zt 104,Zn (-1)]),Zm 2 103 105,Zo 3 106 (.extract (Zt 103) 0),Zo 4 107 (.extract (Zt 103) 1),Zm 5 21 106,Zm 6 22 107] (Zq [Zo 0 109 (.load (some 2) (Zt 3)),Zo 1 110 (.fieldA 1 (Zt 3)),Zl 2 111 110,Zo 3 112 (.len (Zt 111)),Zo 4 113 (Zc 14 [Zt 109,Zn 0,Zt 112]),Zm 5 108 113,Zo 6 114 (.extract (Zt 108) 0),Zo 7 115 (.extract (Zt 108) 1),Zo 8 23 (.alloc [Zi 0,Zi 0]),Zs 9 (.store 2 (Zt 23) (Zt 114)),Zm 10 24 115] (Zq [Zo 0 117 (.load (some 2) (Zt 3)),Zo 1 118 (Zc 18 [Zt 117]),Zm 2 116 118,Zo 3 119 (.extract (Zt 116) 0),Zo 4 120 (.extract (Zt 116) 1),Zm 5 25 119,Zm 6 26 120] (.seq (Zq [Zm 0 121 16,Zm 1 122 14,Zo 2 123 (.bin .neq (Zt 121) (Zt 122)),Zm 3 124 123,⟨4,some 125,.mov (Zt 18),some (124,false),0⟩,⟨5,some 126,.bin .neq (Zt 125) (Zn 2),some (124,false),0⟩,Zo 6 127 (.pick (Zt 124) (.val (.bool true)) (Zt 126)),Zm 7 128 127,⟨8,some 129,.mov (Zt 20),some (128,false),0⟩,⟨9,some 130,.mov (Zt 18),some (128,false),0⟩,⟨10,some 131,.bin .neq (Zt 129) (Zt 130),some (128,false),0⟩,Zo 11 132 (.pick (Zt 128) (.val (.bool true)) (Zt 131)),Zm 12 133 132,⟨13,some 134,.mov (Zt 22),some (133,false),0⟩,⟨14,some 135,.mov (Zt 18),some (133,false),0⟩,⟨15,some 136,.bin .neq (Zt 134) (Zt 135),some (133,false),0⟩,Zo 16 137 (.pick (Zt 133) (.val (.bool true)) (Zt 136)),Zm 17 138 137,⟨18,some 139,.mov (Zt 24),some (138,false),0⟩,⟨19,some 140,.mov (Zt 18),some (138,false),0⟩,⟨20,some 141,.bin .neq (Zt 139) (Zt 140),some (138,false),0⟩,Zo 21 142 (.pick (Zt 138) (.val (.bool true)) (Zt 141)),Zm 22 143 142,⟨23,some 144,.mov (Zt 14),some (143,false),0⟩,⟨24,some 145,.bin .eql (Zt 144) (Zn 0),some (143,false),0⟩,⟨25,some 146,.mov (Zt 26),some (143,false),0⟩,⟨26,some 147,.bin .eql (Zt 146) (Zn 4),some (143,false),0⟩,⟨27,some 148,.eq .bool true (Zt 145) (Zt 147),some (143,false),0⟩,Zo 28 149 (.pick (Zt 143) (.val (.bool true)) (Zt 148))] (.cond (Zt 149) (Zq [Zo 0 6 (.mov (.val (.bool false)))] .ret) .skip)) (.seq (Zq [Zm 0 150 14,Zo 1 151 (.bin .neq (Zt 150) (Zn 0))] (.cond (Zt 151) (Zq [Zm 0 152 14,Zo 1 153 (.bin .eql (Zt 152) (Zn 10)),Zm 2 154 153,⟨3,some 155,.load (some 2) (Zt 13),some (154,true),0⟩,⟨4,some 156,.build [Zi 0,Zi 0] [],some (154,true),0⟩,⟨5,some 157,.eq (.agg [true,true]) false (Zt 155) (Zt 156),some (154,true),0⟩,Zo 6 158 (.pick (Zt 154) (Zt 157) (.val (.bool false))),Zm 7 159 158,⟨8,some 160,.load (some 2) (Zt 15),some (159,true),0⟩,⟨9,some 161,.build [Zi 0,Zi 0] [],some (159,true),0⟩,⟨10,some 162,.eq (.agg [true,true]) false (Zt 160) (Zt 161),some (159,true),0⟩,Zo 11 163 (.pick (Zt 159) (Zt 162) (.val (.bool false))),Zm 12 164 163,⟨13,some 165,Zc 21 [],some (164,true),0⟩,Zo 14 166 (.pick (Zt 164) (Zt 165) (.val (.bool false))),Zm 15 6 166] .ret) .skip)) (.seq (.seq (.draw [Zo 0 167 (.fieldA 0 (Zt 13)),Zd 1 168 1 (.load none (Zt 167)),Zo 2 169 (.fieldA 1 (Zt 13)),Zd 3 170 4 (.load none (Zt 169)),Zd 4 171 15 (.bin .gtr (Zt 168) (Zt 170)),Zd 5 172 31 (.mov (Zt 171)),⟨6,some 173,.fieldA 0 (Zt 15),some (172,false),63⟩,⟨7,some 174,.load none (Zt 173),some (172,false),127⟩,⟨8,some 175,.fieldA 0 (Zt 13),some (172,false),63⟩,⟨9,some 176,.load none (Zt 175),some (172,false),319⟩,⟨10,some 177,.bin .lss (Zt 174) (Zt 176),some (172,false),1023⟩,Zd 11 178 2047 (.pick (Zt 172) (.val (.bool true)) (Zt 177)),Zd 12 179 4095 (.mov (Zt 178)),⟨13,some 180,.fieldA 1 (Zt 15),some (179,false),8191⟩,⟨14,some 181,.load none (Zt 180),some (179,false),16383⟩,⟨15,some 182,.fieldA 1 (Zt 13),some (179,false),8191⟩,⟨16,some 183,.load none (Zt 182),some (179,false),40959⟩,⟨17,some 184,.bin .lss (Zt 181) (Zt 183),some (179,false),131071⟩,Zd 18 185 262143 (.pick (Zt 179) (.val (.bool true)) (Zt 184)),Zd 19 186 524287 (.mov (Zt 185)),⟨20,some 187,.fieldA 0 (Zt 13),some (186,false),1048575⟩,⟨21,some 188,.load none (Zt 187),some (186,false),2097151⟩,⟨22,some 189,.bin .lss (Zt 188) (Zn 0),some (186,false),4194303⟩,Zd 23 190 8388607 (.pick (Zt 186) (.val (.bool true)) (Zt 189)),Zd 24 191 16777215 (.mov (Zt 190)),⟨25,some 192,.mov (Zt 12),some (191,false),33554431⟩,⟨26,some 193,.bin .eql (Zt 192) (Zn 0),some (191,false),67108863⟩,⟨27,some 194,.mov (Zt 193),some (191,false),134217727⟩,⟨28,some 195,.load (some 2) (Zt 13),some (194,true),268435455⟩,⟨29,some 196,Zc 12 [Zn 0,Zn 0],some (194,true),268435455⟩,⟨30,some 197,.eq (.agg [true,true]) true (Zt 195) (Zt 196),some (194,true),1073741823⟩,⟨31,some 198,.pick (Zt 194) (Zt 197) (.val (.bool false)),some (191,false),2147483647⟩,Zd 32 199 4294967295 (.pick (Zt 191) (.val (.bool true)) (Zt 198))]) (.cond (Zt 199) (Zq [Zo 0 6 (.mov (.val (.bool false)))] .ret) .skip)) (.seq (Zq [Zo 0 200 (.fieldA 1 (Zt 3)),Zl 1 201 200,Zo 2 202 (.len (Zt 201)),Zo 3 203 (.bin .eql (Zt 202) (Zn 0)),Zm 4 204 203,⟨5,some 205,.fieldA 1 (Zt 3),some (204,false),0⟩,⟨6,some 206,.load none (Zt 205),some (204,false),0⟩,⟨7,some 207,.len (Zt 206),some (204,false),0⟩,⟨8,some 208,.bin .eql (Zt 207) (Zn 10),some (204,false),0⟩,Zo 9 209 (.pick (Zt 204) (.val (.bool true)) (Zt 208))] (.cond (Zt 209) (Zq [Zo 0 210 (Zc 21 []),Zm 1 6 210] .ret) .skip)) (Zq [Zo 0 211 (.fieldA 1 (Zt 3)),Zl 1 212 211,Zo 2 213 (.len (Zt 212)),Zo 3 214 (.bin .sub (Zt 213) (Zn 1)),Zm 4 27 214] (Zq [Zo 0 216 (.load (some 2) (Zt 3)),Zm 1 217 11,Zm 2 218 27,Zo 3 219 (Zc 14 [Zt 216,Zt 217,Zt 218]),Zm 4 215 219,Zo 5 220 (.extract (Zt 215) 0),Zo 6 221 (.extract (Zt 215) 1),Zo 7 28 (.alloc [Zi 0,Zi 0]),Zs 8 (.store 2 (Zt 28) (Zt 220)),Zm 9 29 221] (.seq (Zq [Zm 0 222 29,Zo 1 223 (.bin .neq (Zt 222) (Zn 0)),Zm 2 224 223,⟨3,some 225,.fieldA 0 (Zt 28),some (224,false),0⟩,⟨4,some 226,.load none (Zt 225),some (224,false),0⟩,⟨5,some 227,.fieldA 1 (Zt 28),some (224,false),0⟩,⟨6,some 228,.load none (Zt 227),some (224,false),0⟩,⟨7,some 229,.bin .gtr (Zt 226) (Zt 228),some (224,false),0⟩,Zo 8 230 (.pick (Zt 224) (.val (.bool true)) (Zt 229))] (.cond (Zt 230) (Zq [Zo 0 6 (.mov (.val (.bool false)))] .ret) .skip)) (.seq (Zq [Zo 0 231 (.fieldA 0 (Zt 28)),Zl 1 232 231,Zo 2 233 (.bin .sub (Zt 232) (Zn 1)),Zo 3 234 (.fieldA 0 (Zt 28)),Zl 4 235 234,Zo 5 236 (.fieldA 1 (Zt 28)),Zl 6 237 236,Zo 7 238 (.fieldA 1 (Zt 28)),Zl 8 239 238,Zo 9 240 (.bin .add (Zt 239) (Zn 1)),Zo 10 241 (.buildSl 1 4 [Zi 0] [(0,Zt 233),(1,Zt 235),(2,Zt 237),(3,Zt 240)]),Zo 11 242 (.len (Zt 241)),Zo 12 243 (.mov (Zn 0))] (.block 0 (.loop [3,11,12,13,27,28,241,242,243] (Zq [Zo 0 244 (.bin .lss (Zt 243) (Zt 242))] (.seq (.cond (Zt 244) .skip (.exit 0)) (.seq (.block 1 (Zq [Zo 0 245 (.indexA 1 none (Zt 241) (Zt 243)),Zl 1 246 245,Zm 2 31 246] (.seq (.draw [Zo 0 248 (.load (some 2) (Zt 3)),Zm 1 249 11,Zm 2 250 31,Zm 3 251 31,Zm 6 254 11,Zm 7 255 27,Zo 12 32 (.alloc [Zi 0,Zi 0]),Zd 4 252 14 (Zc 30 [Zt 249,Zt 250,Zt 251]),Zd 5 253 31 (Zc 29 [Zt 248,Zt 252]),Zd 8 256 255 (Zc 14 [Zt 253,Zt 254,Zt 255]),Zd 9 247 511 (.mov (Zt 256)),Zd 10 257 1023 (.extract (Zt 247) 0),Zd 11 258 1023 (.extract (Zt 247) 1),Ze 13 6143 (.store 2 (Zt 32) (Zt 257)),Zd 14 33 16383 (.mov (Zt 258))]) (.seq (.draw [Zm 0 259 33,Zd 1 260 1 (.bin .neq (Zt 259) (Zn 0)),Zd 2 261 3 (.mov (Zt 260)),⟨3,some 262,.mov (Zt 33),some (261,true),7⟩,⟨4,some 263,.bin .neq (Zt 262) (Zn 10),some (261,true),15⟩,Zd 5 264 31 (.pick (Zt 261) (Zt 263) (.val (.bool false))),Zd 6 265 63 (.mov (Zt 264)),⟨7,some 266,.mov (Zt 33),some (265,false),127⟩,⟨8,some 267,.bin .eql (Zt 266) (Zn 0),some (265,false),255⟩,⟨9,some 268,.mov (Zt 31),some (265,false),127⟩,⟨10,some 269,.load (some 2) (Zt 28),some (265,false),127⟩,⟨11,some 270,Zc 27 [Zt 268,Zt 269],some (265,false),1663⟩,⟨12,some 271,.eq .bool true (Zt 267) (Zt 270),some (265,false),4095⟩,Zd 13 272 8191 (.pick (Zt 265) (.val (.bool true)) (Zt 271)),Zd 14 273 16383 (.mov (Zt 272)),⟨15,some 274,.mov (Zt 33),some (273,false),32767⟩,⟨16,some 275,.bin .eql (Zt 274) (Zn 0),some (273,false),65535⟩,⟨17,some 276,.mov (Zt 275),some (273,false),131071⟩,⟨18,some 277,.load (some 2) (Zt 32),some (276,true),262143⟩,⟨19,some 278,.mov (Zt 31),some (276,true),262143⟩,⟨20,some 279,.mov (Zt 31),some (276,true),262143⟩,⟨21,some 280,Zc 12 [Zt 278,Zt 279],some (276,true),1835007⟩,⟨22,some 281,.eq (.agg [true,true]) true (Zt 277) (Zt 280),some (276,true),4194303⟩,⟨23,some 282,.pick (Zt 276) (Zt 281) (.val (.bool false)),some (273,false),8388607⟩,Zd 24 283 16777215 (.pick (Zt 273) (.val (.bool true)) (Zt 282))]) (.cond (Zt 283) (Zq [Zo 0 6 (.mov (.val (.bool false)))] .ret) .skip))))) (.ops [Zo 0 284 (.bin .add (Zt 243) (Zn 1)),Zm 1 243 284]))))))) (.seq (.draw [Zo 0 286 (.load (some 2) (Zt 3)),Zm 1 287 12,Zm 2 288 12,Zm 5 291 11,Zm 6 292 27,Zd 7 293 64 (.bin .add (Zt 292) (Zn 1)),Zo 12 34 (.alloc [Zi 0,Zi 0]),Zd 3 289 6 (Zc 31 [Zt 287,Zt 288]),Zd 4 290 15 (Zc 29 [Zt 286,Zt 289]),Zd 8 294 255 (Zc 14 [Zt 290,Zt 291,Zt 293]),Zd 9 285 511 (.mov (Zt 294)),Zd 10 295 1023 (.extract (Zt 285) 0),Zd 11 296 1023 (.extract (Zt 285) 1),Ze 13 6143 (.store 2 (Zt 34) (Zt 295)),Zd 14 35 16383 (.mov (Zt 296))]) (Zq [Zm 0 297 35,Zo 1 298 (.bin .eql (Zt 297) (Zn 0)),Zm 2 299 298,⟨3,some 300,.fieldA 0 (Zt 34),some (299,true),0⟩,⟨4,some 301,.load none (Zt 300),some (299,true),0⟩,⟨5,some 302,.fieldA 0 (Zt 28),some (299,true),0⟩,⟨6,some 303,.load none (Zt 302),some (299,true),0⟩,⟨7,some 304,.fieldA 1 (Zt 13),some (299,true),0⟩,⟨8,some 305,.load none (Zt 304),some (299,true),0⟩,⟨9,some 306,.bin .sub (Zt 303) (Zt 305),some (299,true),0⟩,⟨10,some 307,.bin .geq (Zt 301) (Zt 306),some (299,true),0⟩,Zo 11 308 (.pick (Zt 299) (Zt 307) (.val (.bool false))),Zm 12 309 308,⟨13,some 310,.fieldA 0 (Zt 34),some (309,true),0⟩,⟨14,some 311,.load none (Zt 310),some (309,true),0⟩,⟨15,some 312,.fieldA 0 (Zt 28),some (309,true),0⟩,⟨16,some 313,.load none (Zt 312),some (309,true),0⟩,⟨17,some 314,.fieldA 0 (Zt 13),some (309,true),0⟩,⟨18,some 315,.load none (Zt 314),some (309,true),0⟩,⟨19,some 316,.bin .sub (Zt 313) (Zt 315),some (309,true),0⟩,⟨20,some 317,.bin .leq (Zt 311) (Zt 316),some (309,true),0⟩,Zo 21 318 (.pick (Zt 309) (Zt 317) (.val (.bool false))),Zm 22 319 318,⟨23,some 320,.fieldA 1 (Zt 34),some (319,true),0⟩,⟨24,some 321,.load none (Zt 320),some (319,true),0⟩,⟨25,some 322,.fieldA 1 (Zt 28),some (319,true),0⟩,⟨26,some 323,.load none (Zt 322),some (319,true),0⟩,⟨27,some 324,.fieldA 1 (Zt 13),some (319,true),0⟩,⟨28,some 325,.load none (Zt 324),some (319,true),0⟩,⟨29,some 326,.bin .sub (Zt 323) (Zt 325),some (319,true),0⟩,⟨30,some 327,.bin .geq (Zt 321) (Zt 326),some (319,true),0⟩,Zo 31 328 (.pick (Zt 319) (Zt 327) (.val (.bool false))),Zm 32 329 328,⟨33,some 330,.fieldA 1 (Zt 34),some (329,true),0⟩,⟨34,some 331,.load none (Zt 330),some (329,true),0⟩,⟨35,some 332,.fieldA 1 (Zt 28),some (329,true),0⟩,⟨36,some 333,.load none (Zt 332),some (329,true),0⟩,⟨37,some 334,.fieldA 0 (Zt 13),some (329,true),0⟩,⟨38,some 335,.load none (Zt 334),some (329,true),0⟩,⟨39,some 336,.bin .sub (Zt 333) (Zt 335),some (329,true),0⟩,⟨40,some 337,.bin .leq (Zt 331) (Zt 336),some (329,true),0⟩,Zo 41 338 (.pick (Zt 329) (Zt 337) (.val (.bool false))),Zm 42 339 338,⟨43,some 340,Zc 21 [],some (339,true),0⟩,Zo 44 341 (.pick (Zt 339) (Zt 340) (.val (.bool false))),Zm 45 6 341] .ret))))))))))))))))))))⟩
end Ev
end Go.Proofs.Ytlcjlcllbgjplaa

/- The code of functions of the laws, for the evaluator. Printed by program. -/
namespace Go.Proofs.Ytlcjlcllbgjplaa
open Go
namespace Ev
def af27:AFunc:=⟨15,[.tmp 4],Zq [Zo 0 3 (.box (Zt 1)),Zo 1 4 (.mov (.val (.bool false)))] (Zq [Zo 0 5 (.fieldA 0 (Zt 3)),Zl 1 6 5,Zm 2 7 0,Zo 3 8 (.bin .leq (Zt 6) (Zt 7)),Zm 4 9 8,⟨5,some 10,.mov (Zt 0),some (9,true),0⟩,⟨6,some 11,.fieldA 1 (Zt 3),some (9,true),0⟩,⟨7,some 12,.load none (Zt 11),some (9,true),0⟩,⟨8,some 13,.bin .leq (Zt 10) (Zt 12),some (9,true),0⟩,Zo 9 14 (.pick (Zt 9) (Zt 13) (.val (.bool false))),Zm 10 4 14] .ret)⟩
end Ev
end Go.Proofs.Ytlcjlcllbgjplaa

/- RoadEnds, gone through: looks, and a pass. -/
namespace Go.Proofs.Ytlcjlcllbgjplaa
open Go
namespace Ev
namespace Ro
open K
attribute [local simp] ev1 wantG spineK spine float xnew xval xeff zaa zat zbb zax zaw addFl cellsOf pickC alive slLen slFt binI maxA maxK minA minK aeqK aeqS AV.cells spA zau fillA setAt bitsI nat_nn zbd AV.plain apart
set_option maxRecDepth 100000
set_option maxHeartbeats 4000000
def InsideC (call:CallF):Prop:=∀ (H:List AB) (n a b:Int),call (.fn (.func 27) [] []) [.int .i64 n,.agg [.int .i64 a,.int .i64 b]] H=some (.ret (.bool (decide (a≤n∧n≤b))),H,[])
theorem zpp (C:Cfg)(call:CallF)(H:List AB)(n a b:Int):Does (ev C call H.length none af27.body { tm:=tmA af27.ntmps (zipI 0 [.int .i64 n,.agg [.int .i64 a,.int .i64 b]] []),df:=[],hp:=H,tc:=[] })
  (Ends C H.length af27.res fun v _hp tc=>v=.bool (decide (a≤n∧n≤b))∧tc=[]):=by
 unfold af27 Zq Zm Zl Zo Zt
 simp only[zipI]
 by_cases h:a≤n
 ·(repeat (first|(with_reducible apply zad;(focus ((conv=>lhs;simp[*,Nat.testBit_eq_decide_div_mod_eq])<;>exact rfl));simp only[addFl])|((with_reducible first|apply zai|apply zak|apply zah|apply zaf|apply zac|apply zaj|apply zag|apply zal|(apply zae;· simp[*,zaa])|(apply zab;· simp[*,zaa]));try simp only[Then,Ops])|simp only[Nat.reduceEqDiff,reduceIte,OutB,Then]))
  exact zan (v:=.bool (decide (n≤b))) (.inl rfl) rfl (by simp) (by simp only[resL,resOf,zam];simp[*,resV]) ⟨by simp[h],rfl⟩
 ·(repeat (first|(with_reducible apply zad;(focus ((conv=>lhs;simp[*,Nat.testBit_eq_decide_div_mod_eq])<;>exact rfl));simp only[addFl])|((with_reducible first|apply zai|apply zak|apply zah|apply zaf|apply zac|apply zaj|apply zag|apply zal|(apply zae;· simp[*,zaa])|(apply zab;· simp[*,zaa]));try simp only[Then,Ops])|simp only[Nat.reduceEqDiff,reduceIte,OutB,Then]))
  exact zan (v:=.bool false) (.inl rfl) rfl (by simp) (by simp only[resL,resOf,zam];simp[*,resV]) ⟨by simp[h],rfl⟩
def LLokC (call:CallF):Prop:=∀ (H:List AB) (n a b:Int),call (.fn (.func 30) [] []) [.int .i64 n,.int .i64 a,.int .i64 b] H=some (.ret (evE (Rd.lookE n a b)),H,[])
theorem zwo (C:Cfg)(call:CallF)(hS:LSpanC call)(H:List AB)(n a b:Int):Does (ev C call H.length none af30.body { tm:=tmA af30.ntmps (zipI 0 [.int .i64 n,.int .i64 a,.int .i64 b] []),df:=[],hp:=H,tc:=[] })
  (Ends C H.length af30.res fun v _hp tc=>v=evE (Rd.lookE n a b)∧tc=[]):=by
 have hs:=fun H=>hS H a b
 clear hS
 unfold af30 Zq Zm Zo Zs Zc Zt Zn Zi
 simp only[zipI]
 (repeat (first|(with_reducible apply zad;(focus ((conv=>lhs;simp[*,Nat.testBit_eq_decide_div_mod_eq])<;>exact rfl));simp only[addFl])|((with_reducible first|apply zai|apply zak|apply zah|apply zaf|apply zac|apply zaj|apply zag|apply zal|(apply zae;· simp[*,zaa])|(apply zab;· simp[*,zaa]));try simp only[Then,Ops])|simp only[Nat.reduceEqDiff,reduceIte,OutB,Then]))
 exact zan (v:=.agg [.int .i64 2,.int .i64 0,.int .i64 0,.int .i64 0,.int .i64 n,.int .i64 a,.int .i64 b]) (.inl rfl) rfl (by simp) (by simp only[resL,resOf,zam];simp[*,pickC,resV]) ⟨rfl,by simp⟩
theorem zin {call:CallF}(hA:LApi call){H:List AB}{v:AV}{r:Rd.Road}(hr:roadOf H v=some r)(hf:Rd.Fine r){p m:Nat}(hp:p<r.parts.length)(hm:m<r.events.length):call (.fn (.func 14) [] []) [v,.int .i64 p,.int .i64 m] H=some (.ret (if Rd.canR r (Rd.everyR r)=true then .tup [.agg [.int .i64 (Rd.heightsR r p (m+1)).lo,.int .i64 (Rd.heightsR r p (m+1)).hi],.int .i64 0] else .tup [.agg [.int .i64 0,.int .i64 0],.int .i64 10]),H,[]):=by
 have h1:=hf.parts
 have h2:=hf.events
 rw[hA.height hr p m (by unfold i64n;omega) (by unfold i64n;omega)]
 have he:Rd.errR r (Rd.isPart r p&&Rd.isEvent r m)=if Rd.canR r (Rd.everyR r)=true then 0 else 10:=by
  unfold Rd.errR
  rw[(Rd.valid_iff r).2 hf,show Rd.isPart r p=true from decide_eq_true (by omega),show Rd.isEvent r m=true from decide_eq_true (by omega)]
  cases Rd.canR r (Rd.everyR r)<;>rfl
 unfold spanRV
 rw[he]
 cases Rd.canR r (Rd.everyR r)<;>simp[spA]
theorem zul (C:Cfg)(call:CallF)(hA:LApi call)(r:Rd.Road)(hf:Rd.Fine r)(hcan:Rd.canR r (Rd.everyR r)=true)(h9:r.events.length≤9)(hW:WithC call r)(hP:LPassC call)(i:Nat)(hi:i<r.parts.length)(ld:Int)(hld:0≤ld∧ld≤60)(n0 a3 a13 a28:Nat)(G:List AB)(hn0:n0≤G.length)(g3:HB G a3 (.cells (roadCs r)))(g13:HB G a13 (.cells [.int .i64 (Rd.sinksR r i ld).lo,.int .i64 (Rd.sinksR r i ld).hi]))(g28:HB G a28 (.cells [.int .i64 (Rd.heightsR r i r.events.length).lo,.int .i64 (Rd.heightsR r i r.events.length).hi]))
  (L:List (Nat × AV)) (L3:lk 342 L 3=.ptr a3 0) (L11:lk 342 L 11=.int .i64 i) (L12:lk 342 L 12=.int .i64 ld) (L13:lk 342 L 13=.ptr a13 0) (L27:lk 342 L 27=.int .i64 ((r.events.length:Int) - 1)) (L28:lk 342 L 28=.ptr a28 0):
  Does (ev C call n0 none (atP [1,1,1,1,1,1,1,1,1,1,1,1,1,1,1,1,1,1,1] af5.body) { tm:=tmA 342 L,df:=[],hp:=G,tc:=[] })
   (Ends C n0 af5.res fun v _ _=>v=.bool true):=by
 have ha:=fun H=>hA.alive (H:=H)
 have hPl:=fun H=>hP H ld ld
 have m3:val C (tmA 342 L) (.tmp 3)=.ptr a3 0:=L3
 have m11:val C (tmA 342 L) (.tmp 11)=.int .i64 i:=L11
 have m12:val C (tmA 342 L) (.tmp 12)=.int .i64 ld:=L12
 have m13:val C (tmA 342 L) (.tmp 13)=.ptr a13 0:=L13
 have m27:val C (tmA 342 L) (.tmp 27)=.int .i64 ((r.events.length:Int) - 1):=L27
 have m28:val C (tmA 342 L) (.tmp 28)=.ptr a28 0:=L28
 obtain ⟨H1,b,c1,c2,c3,c4⟩:=hW (G++[.cells [.int .i64 0,.int .i64 0]]) (Rd.passE ld ld)
 have hro1:roadOf H1 (.agg [.vs 7 (r.parts.map ptE),.sl b 0 (r.events.length+1) 7])=some (Rd.addR r (Rd.passE ld ld)):=
  zgn (zln _ _) (zug c4 (by simp)) (by have:=hf.parts;omega) (by simp;omega)
 have hB:=zin hA hro1 (Rd.fine_pass hf h9 hld.1 hld.2) hi (m:=r.events.length) (by simp[Rd.addR])
 rw[if_pos (by rw[Rd.pass_can];exact hcan)] at hB
 obtain ⟨e1,e2,e3,e4⟩:=Rd.pass_ends hf hcan hi ld
 obtain ⟨b1,b2,b3⟩:=Rd.height_bound hf hcan hi r.events.length
 obtain ⟨q1,q2,q3,q4,q5⟩:=Rd.sink_ends hf hcan hi hld.1
 have q6:(Rd.sinksR r i ld).hi≤60:=by
  obtain ⟨ls,p,h,x,y,e⟩:=(Rd.sink_tru hcan hi ld).hi
  rw[e]
  have:=Rd.sunk_le (Rd.tru_part hf hi y).1 hld.1
  omega
 generalize Rd.heightsR (Rd.addR r (Rd.passE ld ld)) i (r.events.length+1)=d at *
 generalize Rd.heightsR r i r.events.length=cc at *
 generalize Rd.sinksR r i ld=ss at *
 have w0:IntKind.i64.wrap ((r.events.length:Int) - 1+1)=(r.events.length:Int):=by rw[show (r.events.length:Int) - 1+1=r.events.length by omega];exact zas (by omega) (by omega)
 have w0':IntKind.i64.wrap (r.events.length:Int)=(r.events.length:Int):=zas (by omega) (by omega)
 have w1:IntKind.i64.wrap (cc.lo - ss.hi)=cc.lo - ss.hi:=zas (by omega) (by omega)
 have w2:IntKind.i64.wrap (cc.lo - ss.lo)=cc.lo - ss.lo:=zas (by omega) (by omega)
 have w3:IntKind.i64.wrap (cc.hi - ss.hi)=cc.hi - ss.hi:=zas (by omega) (by omega)
 have w4:IntKind.i64.wrap (cc.hi - ss.lo)=cc.hi - ss.lo:=zas (by omega) (by omega)
 have kk:∀ {q x},HB G q x→HB H1 q x:=fun h=>hb (c2.at (h.app _).get (by simp))
 have k34:HB H1 G.length (.cells [.int .i64 0,.int .i64 0]):=hb (c2.at (by simp) (by simp))
 have hH:n0≤H1.length:=by have:=k34.lt;omega
 have gG:¬ (G.length<n0):=by omega
 have z3:=kk g3
 have z13:=kk g13
 have z28:=kk g28
 have n13:a13≠G.length:=by have:=g13.lt;omega
 have n28:a28≠G.length:=by have:=g28.lt;omega
 have n3:a3≠G.length:=by have:=g3.lt;omega
 have n13':G.length≠a13:=Ne.symm n13
 have n28':G.length≠a28:=Ne.symm n28
 have n3':G.length≠a3:=Ne.symm n3
 obtain ⟨A1,A2,A3⟩:=g3
 obtain ⟨B1,B2,B3⟩:=z3
 obtain ⟨C1,C2,C3⟩:=z13
 obtain ⟨D1,D2,D3⟩:=z28
 obtain ⟨E1,E2,E3⟩:=k34
 clear hA hf hcan hW hP hi hld g13 g28 kk hro1 c2 c3 c4 b1 b2 b3 q1 q2 q3 q4 q5 q6 h9
 simp only[Rd.passE,evE] at c1 hPl
 unfold af5 Zq Zm Zl Zo Zs Zd Ze Zc Zt Zn Zi
 simp only[atP,roadCs] at *
 (repeat (first|((with_reducible apply zad);(focus ((with_reducible apply zap);(focus rfl);(focus rfl);(focus ((conv=>lhs;simp[*,List.getElem?_append_right,List.set_append_right,List.getElem?_cons_zero,List.getElem?_append_left,List.set_append_left,-getElem?_pos,↓zaq,↓zbf,Nat.testBit_eq_decide_div_mod_eq])<;>exact rfl));(focus rfl);(focus rfl)));simp only[addFl])|(with_reducible apply zad;(focus ((conv=>lhs;simp[*,List.getElem?_append_right,List.set_append_right,List.getElem?_cons_zero,List.getElem?_append_left,List.set_append_left,-getElem?_pos,↓zaq,↓zbf,Nat.testBit_eq_decide_div_mod_eq])<;>exact rfl));simp only[addFl])|((with_reducible first|apply zai|apply zak|apply zah|apply zaf|apply zac|apply zaj|apply zag|apply zal|(apply zae;· simp[*,zaa])|(apply zab;· simp[*,zaa]));try simp only[Then,Ops])|simp only[Nat.reduceEqDiff,reduceIte,OutB,Then]))
 exact zan (v:=.bool true) (.inl rfl) rfl (by simp;omega) (by simp only[resL,resOf,zam];simp[*,resV]) rfl
end Ro
end Ev
end Go.Proofs.Ytlcjlcllbgjplaa

/- RoadEnds, gone through: looks that show just so much. -/
namespace Go.Proofs.Ytlcjlcllbgjplaa
open Go
namespace Ev
namespace Ro
open K
attribute [local simp] ev1 wantG spineK spine float xnew xval xeff zaa zat zbb zax zaw addFl cellsOf pickC alive slLen slFt binI maxA maxK minA minK aeqK aeqS AV.cells spA zau fillA setAt bitsI nat_nn zbd AV.plain apart
set_option maxRecDepth 100000
set_option maxHeartbeats 4000000
structure EnI (r:Rd.Road) (a3 a13 a28 q:Nat) (s c:Clm.Sp) (G:List AB):Prop where
 g3:HB G a3 (.cells (roadCs r))
 g13:HB G a13 (.cells [.int .i64 s.lo,.int .i64 s.hi])
 g28:HB G a28 (.cells [.int .i64 c.lo,.int .i64 c.hi])
 gq:HB G q (.cells [.int .i64 (c.lo - 1),.int .i64 c.lo,.int .i64 c.hi,.int .i64 (c.hi+1)])
def enSt (a3 a13 a28 q i:Nat)(ld last:Int)(j:Nat)(G:List AB):St:={ tm:=tmA 342 [(243,.int .i64 j),(242,.int .i64 4),(241,.sl q 0 4 1),(28,.ptr a28 0),(27,.int .i64 last),(13,.ptr a13 0),(12,.int .i64 ld),(11,.int .i64 i),(3,.ptr a3 0)],df:=[],hp:=G,tc:=[] }
theorem zqb (C:Cfg)(call:CallF)(hA:LApi call)(r:Rd.Road)(hf:Rd.Fine r)(hcan:Rd.canR r (Rd.everyR r)=true)(h9:r.events.length≤9)(h1e:1≤r.events.length)(hW:WithC call r)(hK:LLokC call)(hI:InsideC call)(hS:LSpanC call)(i:Nat)(hi:i<r.parts.length)(ld:Int)(n0 a3 a13 a28 q:Nat)(s:Clm.Sp)(j:Nat)(hj:j<4)(G:List AB)(hn0:n0≤G.length)(hG:EnI r a3 a13 a28 q s (Rd.heightsR r i r.events.length) G):
  Does (ev C call n0 none (atP [1,1,1,1,1,1,1,1,1,1,1,1,1,1,1,1,1,1,0,1,0,0] af5.body) (enSt a3 a13 a28 q i ld ((r.events.length:Int) - 1) j G))
   (fun e st=>e=.normal∧∃ G',G.length≤G'.length∧EnI r a3 a13 a28 q s (Rd.heightsR r i r.events.length) G'∧{ st with tm:=keepT [3,11,12,13,27,28,241,242,243] st.tm }=enSt a3 a13 a28 q i ld ((r.events.length:Int) - 1) (j+1) G'):=by
 obtain ⟨b1,b2,b3⟩:=Rd.height_bound hf hcan hi r.events.length
 obtain ⟨n,hn,hjn⟩:∃ n:Int,(n=(Rd.heightsR r i r.events.length).lo - 1∨n=(Rd.heightsR r i r.events.length).lo∨n=(Rd.heightsR r i r.events.length).hi∨n=(Rd.heightsR r i r.events.length).hi+1)∧[AV.int .i64 ((Rd.heightsR r i r.events.length).lo - 1),.int .i64 (Rd.heightsR r i r.events.length).lo,.int .i64 (Rd.heightsR r i r.events.length).hi,.int .i64 ((Rd.heightsR r i r.events.length).hi+1)][j]?=some (.int .i64 n):=by
  match j,hj with
  |0,_=>exact ⟨_,.inl rfl,rfl⟩
  |1,_=>exact ⟨_,.inr (.inl rfl),rfl⟩
  |2,_=>exact ⟨_,.inr (.inr (.inl rfl)),rfl⟩
  |3,_=>exact ⟨_,.inr (.inr (.inr rfl)),rfl⟩
 have hfour:=Rd.look_four hf hcan hi hn
 have hown:=Rd.look_height hf hi n
 have hnb:-1000≤n∧n≤1000:=by omega
 have hfl:=Rd.fine_look hf h9 hi hnb.1 hnb.2
 obtain ⟨H1,b,c1,c2,c3,c4⟩:=hW (G++[.cells [.int .i64 0,.int .i64 0]]) (Rd.lookE i n n)
 have hro1:roadOf H1 (.agg [.vs 7 (r.parts.map ptE),.sl b 0 (r.events.length+1) 7])=some (Rd.addR r (Rd.lookE i n n)):=
  zgn (zln _ _) (zug c4 (by simp)) (by have:=hf.parts;omega) (by simp;omega)
 have hB:=zin hA hro1 hfl hi (m:=r.events.length - 1) (by simp[Rd.addR];omega)
 rw[show r.events.length - 1+1=r.events.length by omega,show ((r.events.length - 1:Nat):Int)=(r.events.length:Int) - 1 by omega] at hB
 have hk:=fun H=>hK H i n n
 have hin:=fun H=>hI H n (Rd.heightsR r i r.events.length).lo (Rd.heightsR r i r.events.length).hi
 have hsp:=fun H=>hS H n n
 have kk:∀ {q x},HB G q x→HB H1 q x:=fun h=>hb (c2.at (h.app _).get (by simp))
 have k34:HB H1 G.length (.cells [.int .i64 0,.int .i64 0]):=hb (c2.at (by simp) (by simp))
 have hH:n0≤H1.length:=by have:=k34.lt;omega
 have hGH:G.length≤H1.length:=by have:=k34.lt;omega
 have gG:¬ (G.length<n0):=by omega
 have hwj:IntKind.i64.wrap (↑j+1)=↑j+1:=zas (by omega) (by omega)
 have hjj:(j:Int)<4:=by omega
 have hj1:j+1≤4:=by omega
 have n28:a28≠G.length:=by have:=hG.g28.lt;omega
 have n28':G.length≠a28:=Ne.symm n28
 have HG:Hidden (∀ v,EnI r a3 a13 a28 q s (Rd.heightsR r i r.events.length) (H1.set G.length v)):=hideP fun v=>⟨(kk hG.g3).set _ (by have:=hG.g3.lt;omega),(kk hG.g13).set _ (by have:=hG.g13.lt;omega),(kk hG.g28).set _ (by have:=hG.g28.lt;omega),(kk hG.gq).set _ (by have:=hG.gq.lt;omega)⟩
 obtain ⟨A1,A2,A3⟩:=hG.g3
 obtain ⟨B1,B2,B3⟩:=hG.gq
 obtain ⟨F1,F2,F3⟩:=kk hG.g3
 obtain ⟨D1,D2,D3⟩:=kk hG.g28
 obtain ⟨E1,E2,E3⟩:=k34
 generalize hLq:[AV.int .i64 ((Rd.heightsR r i r.events.length).lo - 1),.int .i64 (Rd.heightsR r i r.events.length).lo,.int .i64 (Rd.heightsR r i r.events.length).hi,.int .i64 ((Rd.heightsR r i r.events.length).hi+1)]=lq at *
 have hlq:lq.length=4:=by rw[← hLq];rfl
 have hjn':=ge_of hjn
 simp only[Rd.lookE,evE] at c1 hk
 cases hc:Rd.canR (Rd.addR r (Rd.lookE i n n)) (Rd.everyR (Rd.addR r (Rd.lookE i n n))) with
 |true=>
  have h4:=hfour.1 hc
  rw[hc,if_pos rfl,hown hc] at hB
  have hd:=decide_eq_true h4
  rw[hd] at hin
  clear hA hf hcan hW hK hI hS hi hG kk hro1 c2 c3 c4 b1 b2 b3 h9 h1e hn hfour hown hnb hfl hLq hc hd h4 hj
  generalize Rd.heightsR r i r.events.length=cc at *
  unfold af5 Zq Zm Zl Zo Zs Zd Ze Zc Zt Zn Zi enSt
  simp only[atP,roadCs] at *
  (repeat (first|((with_reducible apply zad);(focus ((with_reducible apply zap);(focus rfl);(focus rfl);(focus ((conv=>lhs;simp[*,List.getElem?_append_right,List.set_append_right,List.getElem?_cons_zero,List.getElem?_append_left,List.set_append_left,-getElem?_pos,↓zaq,↓zbf,Nat.testBit_eq_decide_div_mod_eq])<;>exact rfl));(focus rfl);(focus rfl)));simp only[addFl])|(with_reducible apply zad;(focus ((conv=>lhs;simp[*,List.getElem?_append_right,List.set_append_right,List.getElem?_cons_zero,List.getElem?_append_left,List.set_append_left,-getElem?_pos,↓zaq,↓zbf,Nat.testBit_eq_decide_div_mod_eq])<;>exact rfl));simp only[addFl])|((with_reducible first|apply zai|apply zak|apply zah|apply zaf|apply zac|apply zaj|apply zag|apply zal|(apply zae;· simp[*,zaa])|(apply zab;· simp[*,zaa]));try simp only[Then,Ops,OutB])|simp only[Nat.reduceEqDiff,reduceIte,OutB,Then]))
  refine ⟨by first|rfl|trivial,H1.set G.length (.cells [.int .i64 n,.int .i64 n]),by simp;omega,HG.out _,?_⟩
  (refine st_is ?_ ?_ ?_ ?_;(focus (simp[zao,zar]));(focus rfl);(focus (first|rfl|(simp;done)|(simp[*];done)|(simp;rfl)|(simp[*];omega)|(simp;omega)));(focus (first|rfl|simp)))
 |false=>
  have h4:¬ ((Rd.heightsR r i r.events.length).lo≤n∧n≤(Rd.heightsR r i r.events.length).hi):=fun h=>by rw[hfour.2 h] at hc;cases hc
  rw[hc,if_neg (by decide)] at hB
  have hd:=decide_eq_false h4
  rw[hd] at hin
  clear hA hf hcan hW hK hI hS hi hG kk hro1 c2 c3 c4 b1 b2 b3 h9 h1e hn hfour hown hnb hfl hLq hc hd h4 hj
  generalize Rd.heightsR r i r.events.length=cc at *
  unfold af5 Zq Zm Zl Zo Zs Zd Ze Zc Zt Zn Zi enSt
  simp only[atP,roadCs] at *
  (repeat (first|((with_reducible apply zad);(focus ((with_reducible apply zap);(focus rfl);(focus rfl);(focus ((conv=>lhs;simp[*,List.getElem?_append_right,List.set_append_right,List.getElem?_cons_zero,List.getElem?_append_left,List.set_append_left,-getElem?_pos,↓zaq,↓zbf,Nat.testBit_eq_decide_div_mod_eq])<;>exact rfl));(focus rfl);(focus rfl)));simp only[addFl])|(with_reducible apply zad;(focus ((conv=>lhs;simp[*,List.getElem?_append_right,List.set_append_right,List.getElem?_cons_zero,List.getElem?_append_left,List.set_append_left,-getElem?_pos,↓zaq,↓zbf,Nat.testBit_eq_decide_div_mod_eq])<;>exact rfl));simp only[addFl])|((with_reducible first|apply zai|apply zak|apply zah|apply zaf|apply zac|apply zaj|apply zag|apply zal|(apply zae;· simp[*,zaa])|(apply zab;· simp[*,zaa]));try simp only[Then,Ops,OutB])|simp only[Nat.reduceEqDiff,reduceIte,OutB,Then]))
  refine ⟨by first|rfl|trivial,H1.set G.length (.cells [.int .i64 0,.int .i64 0]),by simp;omega,HG.out _,?_⟩
  (refine st_is ?_ ?_ ?_ ?_;(focus (simp[zao,zar]));(focus rfl);(focus (first|rfl|(simp;done)|(simp[*];done)|(simp;rfl)|(simp[*];omega)|(simp;omega)));(focus (first|rfl|simp)))
theorem zqc (C:Cfg)(hC:C.calm=true)(call:CallF)(hA:LApi call)(r:Rd.Road)(hf:Rd.Fine r)(hcan:Rd.canR r (Rd.everyR r)=true)(h9:r.events.length≤9)(h1e:1≤r.events.length)(hW:WithC call r)(hP:LPassC call)(hK:LLokC call)(hI:InsideC call)(hS:LSpanC call)(i:Nat)(hi:i<r.parts.length)(ld:Int)(hld:0≤ld∧ld≤60)(n0 a3 a13 a28:Nat)(G:List AB)(hn0:n0≤G.length)(g3:HB G a3 (.cells (roadCs r)))(g13:HB G a13 (.cells [.int .i64 (Rd.sinksR r i ld).lo,.int .i64 (Rd.sinksR r i ld).hi]))(g28:HB G a28 (.cells [.int .i64 (Rd.heightsR r i r.events.length).lo,.int .i64 (Rd.heightsR r i r.events.length).hi]))
  (L:List (Nat × AV)) (L3:lk 342 L 3=.ptr a3 0) (L11:lk 342 L 11=.int .i64 i) (L12:lk 342 L 12=.int .i64 ld) (L13:lk 342 L 13=.ptr a13 0) (L27:lk 342 L 27=.int .i64 ((r.events.length:Int) - 1)) (L28:lk 342 L 28=.ptr a28 0):
  Does (ev C call n0 none (atP [1,1,1,1,1,1,1,1,1,1,1,1,1,1,1,1,1,1] af5.body) { tm:=tmA 342 L,df:=[],hp:=G,tc:=[] })
   (Ends C n0 af5.res fun v _ _=>v=.bool true):=by
 have m3:val C (tmA 342 L) (.tmp 3)=.ptr a3 0:=L3
 have m28:val C (tmA 342 L) (.tmp 28)=.ptr a28 0:=L28
 obtain ⟨b1,b2,b3⟩:=Rd.height_bound hf hcan hi r.events.length
 have w1:IntKind.i64.wrap ((Rd.heightsR r i r.events.length).lo - 1)=(Rd.heightsR r i r.events.length).lo - 1:=zas (by omega) (by omega)
 have w2:IntKind.i64.wrap ((Rd.heightsR r i r.events.length).hi+1)=(Rd.heightsR r i r.events.length).hi+1:=zas (by omega) (by omega)
 have HX:=hideP (And.intro hn0 (And.intro g3 (And.intro g13 g28)))
 obtain ⟨A1,A2,A3⟩:=g28
 have hr:=fun q j hj G hn0 hG=>zqb C call hA r hf hcan h9 h1e hW hK hI hS i hi ld n0 a3 a13 a28 q (Rd.sinksR r i ld) j hj G hn0 hG
 have hend:=fun G hn0 g3 g13 g28=>zul C call hA r hf hcan h9 hW hP i hi ld hld n0 a3 a13 a28 G hn0 g3 g13 g28
 unfold af5 Zq Zm Zl Zo Zs Zd Ze Zc Zt Zn Zi at hend hr
 simp only[atP] at hend hr
 have HE:=hideP (And.intro hend hr)
 clear hend hr hA hf hcan hW hP hK hI hS hi hld hn0 g3 g13 b1 b2 b3 h9 h1e
 generalize hcc:Rd.heightsR r i r.events.length=cc at *
 generalize hss:Rd.sinksR r i ld=ss at *
 unfold af5 Zq Zm Zl Zo Zs Zd Ze Zc Zt Zn Zi
 simp only[atP] at *
 (repeat (first|((with_reducible apply zad);(focus ((with_reducible apply zap);(focus rfl);(focus rfl);(focus ((conv=>lhs;simp[*,List.getElem?_append_right,List.set_append_right,List.getElem?_cons_zero,List.getElem?_append_left,List.set_append_left,-getElem?_pos,Nat.testBit_eq_decide_div_mod_eq])<;>exact rfl));(focus rfl);(focus rfl)));simp only[addFl])|(with_reducible apply zad;(focus ((conv=>lhs;simp[*,List.getElem?_append_right,List.set_append_right,List.getElem?_cons_zero,List.getElem?_append_left,List.set_append_left,-getElem?_pos,Nat.testBit_eq_decide_div_mod_eq])<;>exact rfl));simp only[addFl])|((with_reducible first|apply zai|apply zak|apply zah|apply zaf|apply zac|apply zaj|apply zag|apply zal|(apply zae;· simp[*,zaa])|(apply zab;· simp[*,zaa]));try simp only[Then,Ops])|simp only[Nat.reduceEqDiff,reduceIte,OutB,Then]))
 with_reducible refine zaz hC 4 (by unfold fuelL;omega) (fun j st=>∃ G',n0≤G'.length∧EnI r a3 a13 a28 G.length ss cc G'∧st=enSt a3 a13 a28 G.length i ld ((r.events.length:Int) - 1) j G') ?_ ?_ ?_
 ·obtain ⟨hn0,g3,g13,g28⟩:=HX.out
  refine ⟨G++[.cells [.int .i64 (cc.lo - 1),.int .i64 cc.lo,.int .i64 cc.hi,.int .i64 (cc.hi+1)]],by simp;omega,⟨g3.app _,g13.app _,g28.app _,hb (by simp)⟩,?_⟩
  unfold enSt
  exact st_eq (by simp[*,zao,zar]) rfl (by simp) (by simp)
 ·rintro j st hj ⟨G',hn,hG,rfl⟩
  refine Does.mono (HE.out.2 G.length j hj G' hn hG) ?_
  rintro e st ⟨rfl,G2,h1,h2,h3⟩
  exact ⟨G2,by omega,h2,h3⟩
 ·rintro st ⟨G',hn,hG,rfl⟩
  have hfin:=HE.out.1 G' hn hG.g3 hG.g13 hG.g28
  have HF:=hideP hfin
  clear hfin HE HX hG hn A1 A2 A3 m3 m28 L3 L11 L12 L13 L27 L28 hcc hss
  unfold enSt
  (repeat (first|(with_reducible refine HF.out _ ?_ ?_ ?_ ?_ ?_ ?_<;>simp[zar])|((with_reducible apply zad);(focus ((with_reducible apply zap);(focus rfl);(focus rfl);(focus ((conv=>lhs;simp[*,List.getElem?_append_right,List.set_append_right,List.getElem?_cons_zero,List.getElem?_append_left,List.set_append_left,-getElem?_pos,Nat.testBit_eq_decide_div_mod_eq])<;>exact rfl));(focus rfl);(focus rfl)));simp only[addFl])|(with_reducible apply zad;(focus ((conv=>lhs;simp[*,List.getElem?_append_right,List.set_append_right,List.getElem?_cons_zero,List.getElem?_append_left,List.set_append_left,-getElem?_pos,Nat.testBit_eq_decide_div_mod_eq])<;>exact rfl));simp only[addFl])|((with_reducible first|apply zai|apply zak|apply zah|apply zaf|apply zac|apply zaj|apply zag|apply zal|(apply zae;· simp[*,zaa])|(apply zab;· simp[*,zaa]));try simp only[Then,Ops,OutB,reduceIte])|simp only[Nat.reduceEqDiff,reduceIte,OutB,Then]))
end Ro
end Ev
end Go.Proofs.Ytlcjlcllbgjplaa

/- RoadEnds, gone through. -/
namespace Go.Proofs.Ytlcjlcllbgjplaa
open Go
namespace Ev
namespace Ro
open K
attribute [local simp] ev1 wantG spineK spine float xnew xval xeff zaa zat zbb zax zaw addFl cellsOf pickC alive slLen slFt binI maxA maxK minA minK aeqK aeqS AV.cells spA zau fillA setAt bitsI nat_nn zbd AV.plain apart
set_option maxRecDepth 100000
set_option maxHeartbeats 4000000
theorem zpi (C:Cfg)(hC:C.calm=true)(call:CallF)(hA:LApi call)(r:Rd.Road)(hW:r.events.length≤40→WithC call r)(hP:LPassC call)(hK:LLokC call)(hI:InsideC call)(hS:LSpanC call)(x:Int)(hx:0≤x∧x≤255)(y:Int)(hy:0≤y∧y≤255)(H:List AB):
  Does (ev C call H.length none af5.body { tm:=tmA af5.ntmps (zipI 0 [.agg (roadCs r),.int .u8 x,.int .u8 y] []),df:=[],hp:=H,tc:=[] })
   (Ends C H.length af5.res fun v _ _=>v=.bool true):=by
 have hl:=fun H=>hA.long (H:=H) r
 have ha:=fun H=>hA.alive (H:=H)
 by_cases hlen:max r.parts.length r.events.length > 40
 ·rw[decide_eq_true hlen] at hl
  clear hA hlen hW hP hx hy hK hI hS
  unfold af5 Zq Zm Zl Zo Zs Zd Ze Zc Zt Zn Zi
  simp only[zipI,roadCs] at *
  (repeat (first|(with_reducible apply zad;(focus ((conv=>lhs;simp[*,Nat.testBit_eq_decide_div_mod_eq])<;>exact rfl));simp only[addFl])|((with_reducible first|apply zai|apply zak|apply zah|apply zaf|apply zac|apply zaj|apply zag|apply zal|(apply zae;· simp[*,zaa])|(apply zab;· simp[*,zaa]));try simp only[Then,Ops])|simp only[Nat.reduceEqDiff,reduceIte,OutB,Then]))
  exact zan (v:=.bool true) (.inl rfl) rfl (by simp) (by simp only[resL,resOf,zam];simp[*,resV]) rfl
 rw[decide_eq_false hlen] at hl
 have hro:=fun H=>zvx H r (by omega) (by omega)
 have hv:=fun H=>hA.valid (hro H)
 have r1:=fun H=>hA.most (hro H)
 have r2:=fun H=>hA.clash (hro H)
 cases hval:Rd.valid r with
 |false=>
  rw[hval] at hv
  have e1:findRV r true (Rd.mostR r)=.tup [.int .i64 0,.int .i64 1]:=by
   have he:Rd.errR r true=1:=by unfold Rd.errR;rw[hval];rfl
   unfold findRV
   rw[he];rfl
  have e2:clashRV r=.tup [.int .i64 0,.int .i64 1]:=by unfold clashRV;rw[if_pos hval]
  rw[e1] at r1
  rw[e2] at r2
  clear hA hlen hro hval hW hP hx hy hK hI hS e1 e2
  unfold af5 Zq Zm Zl Zo Zs Zd Ze Zc Zt Zn Zi
  simp only[zipI,roadCs] at *
  (repeat (first|(with_reducible apply zad;(focus ((conv=>lhs;simp[*,Nat.testBit_eq_decide_div_mod_eq])<;>exact rfl));simp only[addFl])|((with_reducible first|apply zai|apply zak|apply zah|apply zaf|apply zac|apply zaj|apply zag|apply zal|(apply zae;· simp[*,zaa])|(apply zab;· simp[*,zaa]));try simp only[Then,Ops])|simp only[Nat.reduceEqDiff,reduceIte,OutB,Then]))
  exact zan (v:=.bool true) (.inl rfl) rfl (by simp) (by simp only[resL,resOf,zam];simp[*,resV]) rfl
 |true=>
 rw[hval] at hv
 have hf:=(Rd.valid_iff r).1 hval
 have he10:=hf.events
 have hp4:=hf.parts
 have hwx:IntKind.i64.wrap x=x:=zas (by omega) (by omega)
 have hwy:IntKind.i64.wrap y=y:=zas (by omega) (by omega)
 obtain ⟨ld,hld,hl0,hl1⟩:∃ ld,y.tmod 60=ld∧0≤ld∧ld≤59:=by
  refine ⟨_,rfl,Int.tmod_nonneg _ hy.1,?_⟩
  have:=Int.tmod_lt_of_pos y (show (0:Int)<60 by omega)
  omega
 have hp0':¬ (r.parts=[]):=fun e=>by rw[e] at hp4;simp at hp4
 obtain ⟨i,hi,hmi⟩:∃ i:Nat,i<r.parts.length∧x.tmod (r.parts.length:Int)=(i:Int):=by
  have h1:=Int.tmod_nonneg (r.parts.length:Int) hx.1
  have h2:=Int.tmod_lt_of_pos x (show (0:Int)<(r.parts.length:Int) by omega)
  exact ⟨(x.tmod (r.parts.length:Int)).toNat,by omega,by omega⟩
 have hw1:IntKind.i64.wrap (ld+1)=ld+1:=zas (by omega) (by omega)
 have hip:Rd.isPart r i=true:=decide_eq_true (by omega)
 have hL1:Rd.isLoad ld=true:=decide_eq_true (by omega)
 have hL2:Rd.isLoad (ld+1)=true:=decide_eq_true (by omega)
 have hn1:Rd.isPart r (r.parts.length:Int)=false:=decide_eq_false (by omega)
 have hn2:Rd.isLoad 61=false:=by decide
 have hn3:Rd.isLoad (-1)=false:=by decide
 have hn4:Rd.isEvent r (r.events.length:Int)=false:=decide_eq_false (by omega)
 have herr:Rd.errR r false=2:=by unfold Rd.errR;rw[hval];rfl
 have s1:=fun H=>hA.sinks (hro H) i ld (by unfold i64n;omega) (by unfold i64n;omega)
 have s2:=fun H=>hA.sinks (hro H) i (ld+1) (by unfold i64n;omega) (by unfold i64n;omega)
 have s3:=fun H=>hA.sinks (hro H) (r.parts.length:Int) 0 (by unfold i64n;omega) (by unfold i64n;omega)
 have s4:=fun H=>hA.bears (hro H) 61 (by unfold i64n;omega)
 have s5:=fun H=>hA.rest (hro H) (-1) (by unfold i64n;omega)
 have s6:=fun H=>hA.height (hro H) 0 (r.events.length:Int) (by unfold i64n;omega) (by unfold i64n;omega)
 rw[hip,hL1,Bool.and_self] at s1
 rw[hip,hL2,Bool.and_self] at s2
 rw[hn1,Bool.false_and] at s3
 rw[hn2] at s4
 rw[hn3] at s5
 rw[hn4,Bool.and_false] at s6
 have t3:spanRV r false (Rd.sinksR r ((r.parts.length:Int).toNat) 0)=.tup [.agg [.int .i64 0,.int .i64 0],.int .i64 2]:=by unfold spanRV;rw[herr];rfl
 have t4:∃ a:Int,numRV r false (Rd.bearsR r 61)=.tup [.int .i64 a,.int .i64 2]:=⟨_,by unfold numRV;rw[herr]⟩
 have t5:∃ a:Int,findRV r false (Rd.restR r (-1))=.tup [.int .i64 a,.int .i64 2]:=⟨0,by unfold findRV;rw[herr];rfl⟩
 have t6:spanRV r false (Rd.heightsR r ((0:Int).toNat) ((r.events.length:Int).toNat+1))=.tup [.agg [.int .i64 0,.int .i64 0],.int .i64 2]:=by unfold spanRV;rw[herr];rfl
 obtain ⟨z4,t4⟩:=t4
 obtain ⟨z5,t5⟩:=t5
 rw[t3] at s3
 rw[t4] at s4
 rw[t5] at s5
 rw[t6] at s6
 have heT:Rd.errR r true=if Rd.canR r (Rd.everyR r)=true then 0 else 10:=by
  unfold Rd.errR
  rw[hval]
  cases Rd.canR r (Rd.everyR r)<;>rfl
 cases hcan:Rd.canR r (Rd.everyR r) with
 |false=>
  have e1:∀ s,spanRV r true s=.tup [.agg [.int .i64 0,.int .i64 0],.int .i64 10]:=fun s=>by unfold spanRV;rw[heT,hcan];rfl
  rw[e1] at s1 s2
  obtain ⟨S,hS',-⟩:=Rd.clash_some hcan
  have e2:clashRV r=.tup [.int .i64 S,.int .i64 0]:=by unfold clashRV;rw[if_neg (by rw[hval];decide),if_neg (by rw[hcan];decide),hS'];rfl
  rw[e2] at r2
  clear hA hlen hro hval hW hP hx hy hK hI hS e1 e2 r1 heT hcan hf hS' t3 t4 t5 t6 herr hip hL1 hL2 hn1 hn2 hn3 hn4 hi hp4 he10 hl0 hl1
  unfold af5 Zq Zm Zl Zo Zs Zd Ze Zc Zt Zn Zi
  simp only[zipI,roadCs] at *
  (repeat (first|(with_reducible apply zad;(focus ((conv=>lhs;simp[*,Nat.testBit_eq_decide_div_mod_eq])<;>exact rfl));simp only[addFl])|((with_reducible first|apply zai|apply zak|apply zah|apply zaf|apply zac|apply zaj|apply zag|apply zal|(apply zae;· simp[*,zaa])|(apply zab;· simp[*,zaa]));try simp only[Then,Ops])|simp only[Nat.reduceEqDiff,reduceIte,OutB,Then]))
  exact zan (v:=.bool true) (.inl rfl) rfl (by simp) (by simp only[resL,resOf,zam];simp[*,resV]) rfl
 |true=>
 have e1:∀ s:Clm.Sp,spanRV r true s=.tup [.agg [.int .i64 s.lo,.int .i64 s.hi],.int .i64 0]:=fun s=>by unfold spanRV;rw[heT,hcan];rfl
 rw[e1] at s1 s2
 have e2:clashRV r=.tup [.int .i64 0,.int .i64 4]:=by unfold clashRV;rw[if_neg (by rw[hval];decide),if_pos hcan]
 rw[e2] at r2
 obtain ⟨q1,q2,q3,q4,q5⟩:=Rd.sink_ends hf hcan hi hl0
 simp only[Int.toNat_natCast] at s1 s2
 have q1':¬ ((Rd.sinksR r i ld).hi<(Rd.sinksR r i ld).lo):=by omega
 have q2':¬ ((Rd.sinksR r i (ld+1)).lo<(Rd.sinksR r i ld).lo):=by omega
 have q3':¬ ((Rd.sinksR r i (ld+1)).hi<(Rd.sinksR r i ld).hi):=by omega
 have q4':¬ ((Rd.sinksR r i ld).lo<0):=by omega
 have hsp:=fun H=>hS H 0 0
 have key:(¬ ld=0∧(ld==0)=false)∨((ld==0)=true∧(Rd.sinksR r i ld).lo=0∧(Rd.sinksR r i ld).hi=0):=by
  by_cases h:ld=0
  ·exact .inr ⟨by simpa using h,by rw[q5 h],by rw[q5 h]⟩
  ·exact .inl ⟨h,by simpa using h⟩
 by_cases hno:r.events.length=0∨r.events.length=10
 ·have key2:(r.events.length=0∧r.events=[])∨(¬ r.events.length=0∧((r.events.length:Int)==0)=false∧((r.events.length:Int)==10)=true):=by
   rcases hno with h|h
   ·exact .inl ⟨h,List.eq_nil_of_length_eq_zero h⟩
   ·exact .inr ⟨by omega,by simpa using (show ¬ (r.events.length:Int)=0 by omega),by simpa using (show (r.events.length:Int)=10 by omega)⟩
  clear hA hlen hro hval hW hP hx hy hK hI hS e1 e2 r1 heT hcan hf t3 t4 t5 t6 herr hip hL1 hL2 hn1 hn2 hn3 hn4 hi hp4 he10 hl0 hl1 q1 q2 q3 q4 q5 hno
  generalize Rd.sinksR r i ld=sA at *
  generalize Rd.sinksR r i (ld+1)=sB at *
  rcases key2 with ⟨k4,k5⟩|⟨k4,k5,k6⟩
  ·obtain ⟨ps,es⟩:=r
   simp only at k5
   subst k5
   clear k4
   unfold af5 Zq Zm Zl Zo Zs Zd Ze Zc Zt Zn Zi
   simp only[zipI,roadCs,List.map_nil,List.length_nil] at *
   rw[show ((0:Nat):Int)=0 from rfl] at s6
   rcases key with ⟨k1,k2⟩|⟨k1,k2,k3⟩
   rotate_left
   rw[k2,k3] at q1';rw[k2] at q2' q4';rw[k3] at q3';clear q1' q4'
   all_goals
    (repeat (first|((with_reducible apply zad);(focus ((with_reducible apply zap);(focus rfl);(focus rfl);(focus ((conv=>lhs;simp[*,List.getElem?_append_right,List.set_append_right,List.getElem?_cons_zero,List.getElem?_append_left,List.set_append_left,-getElem?_pos,↓zaq,↓zbf,Nat.testBit_eq_decide_div_mod_eq])<;>exact rfl));(focus rfl);(focus rfl)));simp only[addFl])|(with_reducible apply zad;(focus ((conv=>lhs;simp[*,List.getElem?_append_right,List.set_append_right,List.getElem?_cons_zero,List.getElem?_append_left,List.set_append_left,-getElem?_pos,↓zaq,↓zbf,Nat.testBit_eq_decide_div_mod_eq])<;>exact rfl));simp only[addFl])|((with_reducible first|apply zai|apply zak|apply zah|apply zaf|apply zac|apply zaj|apply zag|apply zal|(apply zae;· simp[*,zaa])|(apply zab;· simp[*,zaa]));try simp only[Then,Ops])|simp only[Nat.reduceEqDiff,reduceIte,OutB,Then]))
    exact zan (v:=.bool true) (.inl rfl) rfl (by simp) (by simp only[resL,resOf,zam];simp[*,resV]) rfl
  ·unfold af5 Zq Zm Zl Zo Zs Zd Ze Zc Zt Zn Zi
   simp only[zipI,roadCs] at *
   rcases key with ⟨k1,k2⟩|⟨k1,k2,k3⟩
   rotate_left
   rw[k2,k3] at q1';rw[k2] at q2' q4';rw[k3] at q3';clear q1' q4'
   all_goals
    (repeat (first|((with_reducible apply zad);(focus ((with_reducible apply zap);(focus rfl);(focus rfl);(focus ((conv=>lhs;simp[*,List.getElem?_append_right,List.set_append_right,List.getElem?_cons_zero,List.getElem?_append_left,List.set_append_left,-getElem?_pos,↓zaq,↓zbf,Nat.testBit_eq_decide_div_mod_eq])<;>exact rfl));(focus rfl);(focus rfl)));simp only[addFl])|(with_reducible apply zad;(focus ((conv=>lhs;simp[*,List.getElem?_append_right,List.set_append_right,List.getElem?_cons_zero,List.getElem?_append_left,List.set_append_left,-getElem?_pos,↓zaq,↓zbf,Nat.testBit_eq_decide_div_mod_eq])<;>exact rfl));simp only[addFl])|((with_reducible first|apply zai|apply zak|apply zah|apply zaf|apply zac|apply zaj|apply zag|apply zal|(apply zae;· simp[*,zaa])|(apply zab;· simp[*,zaa]));try simp only[Then,Ops])|simp only[Nat.reduceEqDiff,reduceIte,OutB,Then]))
    exact zan (v:=.bool true) (.inl rfl) rfl (by simp) (by simp only[resL,resOf,zam];simp[*,resV]) rfl
 ·have h1e:1≤r.events.length:=by omega
  have h9:r.events.length≤9:=by omega
  have n1:¬ r.events.length=0:=by omega
  have n1':((r.events.length:Int)==0)=false:=by simpa using (show ¬ (r.events.length:Int)=0 by omega)
  have n2:((r.events.length:Int)==10)=false:=by simpa using (show ¬ (r.events.length:Int)=10 by omega)
  have n3:¬ r.events=[]:=fun e=>by rw[e] at n1;simp at n1
  have hwl:IntKind.i64.wrap ((r.events.length:Int) - 1)=(r.events.length:Int) - 1:=zas (by omega) (by omega)
  have hh:=fun H=>zin hA (hro H) hf hi (m:=r.events.length - 1) (by omega)
  simp only[hcan,if_true] at hh
  rw[show r.events.length - 1+1=r.events.length by omega,show ((r.events.length - 1:Nat):Int)=(r.events.length:Int) - 1 by omega] at hh
  obtain ⟨b1,b2,b3⟩:=Rd.height_bound hf hcan hi r.events.length
  have b2':¬ ((Rd.heightsR r i r.events.length).hi<(Rd.heightsR r i r.events.length).lo):=by omega
  have hend:=fun (G:List AB) a3 a13 a28 hn0 g3 g13 g28=>zqc C hC call hA r hf hcan h9 h1e (hW (by omega)) hP hK hI hS i hi ld ⟨hl0,by omega⟩ H.length a3 a13 a28 G hn0 g3 g13 g28
  unfold af5 Zq Zm Zl Zo Zs Zd Ze Zc Zt Zn Zi at hend
  simp only[atP] at hend
  have HE:=hideP hend
  clear hend hA hlen hro hval hW hP hx hy hK hI hS e1 e2 r1 heT hcan hf t3 t4 t5 t6 herr hip hL1 hL2 hn1 hn2 hn3 hn4 hi hp4 he10 hl0 hl1 q1 q2 q3 q4 q5 hno b1 b2 b3 h1e h9
  generalize Rd.sinksR r i ld=sA at *
  generalize Rd.sinksR r i (ld+1)=sB at *
  generalize Rd.heightsR r i r.events.length=cc at *
  unfold af5 Zq Zm Zl Zo Zs Zd Ze Zc Zt Zn Zi
  simp only[zipI,roadCs] at *
  rcases key with ⟨k1,k2⟩|⟨k1,k2,k3⟩
  rotate_left
  rw[k2,k3] at q1';rw[k2] at q2' q4';rw[k3] at q3';clear q1' q4'
  all_goals
   (repeat (first|(with_reducible refine HE.out _ H.length (H.length+1) (H.length+5) ?_ ?_ ?_ ?_ _ ?_ ?_ ?_ ?_ ?_ ?_)|((with_reducible apply zad);(focus ((with_reducible apply zap);(focus rfl);(focus rfl);(focus ((conv=>lhs;simp[*,List.getElem?_append_right,List.set_append_right,List.getElem?_cons_zero,List.getElem?_append_left,List.set_append_left,-getElem?_pos,↓zaq,↓zbf,Nat.testBit_eq_decide_div_mod_eq])<;>exact rfl));(focus rfl);(focus rfl)));simp only[addFl])|(with_reducible apply zad;(focus ((conv=>lhs;simp[*,List.getElem?_append_right,List.set_append_right,List.getElem?_cons_zero,List.getElem?_append_left,List.set_append_left,-getElem?_pos,↓zaq,↓zbf,Nat.testBit_eq_decide_div_mod_eq])<;>exact rfl));simp only[addFl])|((with_reducible first|apply zai|apply zak|apply zah|apply zaf|apply zac|apply zaj|apply zag|apply zal|(apply zae;· simp[*,zaa])|(apply zab;· simp[*,zaa]));try simp only[Then,Ops])|simp only[Nat.reduceEqDiff,reduceIte,OutB,Then]))
   ·simp
   ·exact hb (by simp)
   ·exact hb (by simp[*])
   ·exact hb (by simp[*])
   all_goals simp[zar]
end Ro
end Ev
end Go.Proofs.Ytlcjlcllbgjplaa

/- The code of functions of the laws is that of the program. Printed by program. -/
namespace Go.Proofs.Ytlcjlcllbgjplaa
open Go Go.Proofs
namespace Ev
set_option maxRecDepth 1000000
theorem is5 : ∃ F, Try.prog.funcs[5]? = some F ∧ (F.name == "runtime.NumGoroutine")=false∧compFn Try.prog F=some af5.strip:=⟨_,Try.func5,by kernel_rfl,by kernel_rfl⟩
end Ev
end Go.Proofs.Ytlcjlcllbgjplaa

/- The code of functions of the laws is that of the program. Printed by program. -/
namespace Go.Proofs.Ytlcjlcllbgjplaa
open Go Go.Proofs
namespace Ev
set_option maxRecDepth 1000000
theorem is27 : ∃ F, Try.prog.funcs[27]? = some F ∧ (F.name == "runtime.NumGoroutine")=false∧compFn Try.prog F=some af27.strip:=⟨_,Try.func27,by kernel_rfl,by kernel_rfl⟩
end Ev
end Go.Proofs.Ytlcjlcllbgjplaa

/- The code of functions of the laws is that of the program. Printed by program. -/
namespace Go.Proofs.Ytlcjlcllbgjplaa
open Go Go.Proofs
namespace Ev
set_option maxRecDepth 1000000
theorem is29 : ∃ F, Try.prog.funcs[29]? = some F ∧ (F.name == "runtime.NumGoroutine")=false∧compFn Try.prog F=some af29.strip:=⟨_,Try.func29,by kernel_rfl,by kernel_rfl⟩
end Ev
end Go.Proofs.Ytlcjlcllbgjplaa

/- The functions that the law RoadEnds goes through itself. Printed by program. -/
namespace Go.Proofs.Ytlcjlcllbgjplaa
open Go Go.Proofs
namespace Ev
def treeRoadEnds:FT:=(.node 27 af27 (.node 12 af12 (.node 5 af5 .leaf .leaf) (.node 22 af22 .leaf .leaf)) (.node 30 af30 (.node 29 af29 .leaf .leaf) (.node 31 af31 .leaf .leaf)))
theorem zgh : FT.All (fun k af => ∃ F, Try.prog.funcs[k]? = some F ∧ (F.name == "runtime.NumGoroutine")=false∧compFn Try.prog F=some af.strip) treeRoadEnds:=
 ⟨is27,⟨is12,⟨is5,trivial,trivial⟩,⟨is22,trivial,trivial⟩⟩,⟨is30,⟨is29,trivial,trivial⟩,⟨is31,trivial,trivial⟩⟩⟩
end Ev
end Go.Proofs.Ytlcjlcllbgjplaa

/- The Go function RoadEnds returns true, for every argument, in every world in which it is called; nothing that was there is turned. No condition. -/
namespace Go.Proofs.Ytlcjlcllbgjplaa
open Go Go.Proofs Go.ChangeShapes Go.WideShapes Go.ChangeAt Go.RowKit
namespace Ev
namespace Ro
open K
theorem lawRoadEnds (W:World)(r:Rd.Road){v0:Value}(hv0:VR W (fun _=>False) nomu (.agg (roadCs r)) v0)(x1:Int)(b1:(Lit.int .u8 x1).wf=true){v1:Value}(hv1:VR W (fun _=>False) nomu (.int .u8 x1) v1)(x2:Int)(b2:(Lit.int .u8 x2).wf=true){v2:Value}(hv2:VR W (fun _=>False) nomu (.int .u8 x2) v2):CallsIn Fence.wide 0 Try.prog 5 #[v0,v1,v2] W fun e W'=>e=.returned (.bool true)∧Below W.heap.size W W':=by
 have hz:∀ {f:Nat} {af:AFunc},(cfgL treeRoadEnds).exth f=none→FT.find treeRoadEnds f=some af→Has (cfgL treeRoadEnds) f af:=fun h1 h2=>has_of rfl h1 h2 rfl
 have la:=fun n=>lapi (t:=treeRoadEnds) (hz rfl (by kernel_rfl)) n
 have k:Has (cfgL treeRoadEnds) 5 af5:=hz rfl (by kernel_rfl)
 obtain ⟨v,hp,tc,H',h1,h2,_⟩:=zbo (C:=cfgL treeRoadEnds) (n:=4) (first:=[]) (captured:=[]) (args:=[.agg (roadCs r),.int .u8 x1,.int .u8 x2]) (H:=[]) (Q:=fun v _ _=>v=.bool true) rfl k.ext k.exth k.fns k.whole (le' rfl) (zpi (cfgL treeRoadEnds) rfl _ (la 3) r (fun h=>zrc rfl (hz rfl (by kernel_rfl)) (by omega) 3) (fun H a b=>zav rfl (hz rfl (by kernel_rfl)) (le' rfl) rfl (zti (cfgL treeRoadEnds) _ (fun H a b=>zav rfl (hz rfl (by kernel_rfl)) (le' rfl) rfl (zgr (cfgL treeRoadEnds) _ H a b)) H a b)) (fun H n a b=>zav rfl (hz rfl (by kernel_rfl)) (le' rfl) rfl (zwo (cfgL treeRoadEnds) _ (fun H a b=>zav rfl (hz rfl (by kernel_rfl)) (le' rfl) rfl (zgr (cfgL treeRoadEnds) _ H a b)) H n a b)) (fun H n a b=>zav rfl (hz rfl (by kernel_rfl)) (le' rfl) rfl (zpp (cfgL treeRoadEnds) _ H n a b)) (fun H a b=>zav rfl (hz rfl (by kernel_rfl)) (le' rfl) rfl (zgr (cfgL treeRoadEnds) _ H a b)) x1 (zkw b1) x2 (zkw b2) [])
 subst h2
 refine (zjh (tblL zgh) h1 trivial (zbj _ _ _) (rargs:=#[v0,v1,v2]) ⟨rfl,fun i y r hy hr=>?_⟩).mono ?_
 ·match i,hy,hr with
  |0,hy,hr=>cases hy;cases hr;exact hv0
  |1,hy,hr=>cases hy;cases hr;exact hv1
  |2,hy,hr=>cases hy;cases hr;exact hv2
  |i+3,hy,hr=>simp at hy
 ·rintro e W' ⟨⟨w,rfl,hw⟩,bel⟩
  exact ⟨by rw[zyx hw W],bel⟩
end Ro
end Ev
set_option maxRecDepth 100000 in
theorem zgo (os:Os)(started:os.Started)(H:Type)(enc:TypeId × Value→H):
  ReturnsInHanded {} Try.checked os 5 .any (Rows.roadEndsSpec.pre6 enc Try.prog Try.f5 Rows.roadEndsRow.domain false) (Rows.roadEndsSpec.post enc Try.prog Try.f5 false true false false):=by
 refine returnsInHanded_of_change (C:=Try.checked) zlo started (by kernel_rfl) Try.func5
  (ChangeSpec.witness6 (enc:=enc) (C:=Try.checked) false ⟨#[],#[noRoad,.int .u8 0,.int .u8 0],[]⟩ 8 (by kernel_rfl) (by kernel_rfl) (by kernel_rfl) (by kernel_rfl)) ?_
 intro W base args ds gs before hval0 hW hcnd _
 have hval:∀ (j:Nat) t v,Try.f5.params[j]?=some t→args[j]?=some v→Value.okWide Try.prog W .any base t v:=hval0
 have hW':=hW
 obtain ⟨p,q,hA0,hV,rfl,hfz,hnd⟩:=hW
 have hA:DataW.TrodAll enc Try.prog W 0 (fun _=>true) true Try.f5.params.toList args.toList ds p:=hA0
 rw[Try.params5] at hA hval
 obtain ⟨v0,vs0,d0,ds0,p0,q0,hargs0,rfl,rfl,h0,hA1⟩:=trodAll_cons hA
 obtain ⟨v1,vs1,d1,ds1,p1,q1,rfl,rfl,rfl,h1,hA2⟩:=trodAll_cons hA1
 obtain ⟨v2,vs2,d2,ds2,p2,q2,rfl,rfl,rfl,h2,hA3⟩:=trodAll_cons hA2
 obtain ⟨rfl,rfl,rfl⟩:=trodAll_nil hA3
 obtain rfl:args=#[v0,v1,v2]:=Array.ext' hargs0
 obtain ⟨rfl,rfl,rfl⟩:=trodVars_none hV
 clear hA0 hval0
 obtain ⟨r,hx0⟩:=zsp (hval 0 25 v0 rfl rfl) h0
 obtain ⟨x1,rfl,rfl,rfl,wf1⟩:=open_int Try.underlying5 (hval 1 5 v1 rfl rfl) h1
 obtain ⟨x2,rfl,rfl,rfl,wf2⟩:=open_int Try.underlying5 (hval 2 5 v2 rfl rfl) h2
 simp only[List.append_nil] at hW'
 have hlt:∀ x∈(p0++([]++([]++[]))),x.block<W.heap.size:=fun x hx=>by simpa using hW'.lt x (by simpa using hx)
 refine (callsIn_wide.1 (Ev.Ro.lawRoadEnds W r hx0 x1 wf1 .int x2 wf2 .int)).mono fun e W' ⟨he,bel⟩=>?_
 subst he
 refine ⟨_,rfl,_,_,_,[],(p0++([]++([]++[]))),[],by simpa using hW',?_,?_,?_,bel.frame _,fun h=>by cases h⟩
 ·exact trodAll_mk1 (shut_bool Try.underlying4 true)
 ·exact trodAll_cons_mk (Below.trod laidOut' (by kernel_rfl) (of_decide_eq_true (by kernel_rfl)) h0 bel (fun x hx=>hlt x (by simp[hx]))) (trodAll_cons_mk (shut_int Try.underlying5 wf1) (trodAll_cons_mk (shut_int Try.underlying5 wf2) (trodAll_mk0)))
 ·exact rfl
theorem roadEnds_holds:Rows.RoadEndsSaid:=
 OpenClaim.holds_of_wide 5 Try.f5 rfl rfl rfl rfl rfl rfl rfl ⟨rfl,rfl,rfl,rfl,rfl⟩ rfl rfl rfl rfl rfl (by kernel_rfl) Try.func5 (by kernel_rfl)
  (of_decide_eq_true (by kernel_rfl)) (by unfold Func.isWrapper;first|(rw[if_pos (by decide +kernel)];kernel_rfl)|(rw[if_neg (by decide +kernel)];exact ⟨rfl,rfl⟩))
  (fun os started H enc _=>zgo os started H enc)
#print axioms roadEnds_holds
end Go.Proofs.Ytlcjlcllbgjplaa
