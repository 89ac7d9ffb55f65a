/- The reference of chapter 09, gone through: all cases. -/
import Derived.Test.YtimgnlellflciaaGreatCsPE
import Derived.Test.YtimgnlellflciaaGreatCsEA
import Derived.Test.YtimgnlellflciaaGreatCsPC
import Derived.Test.YtimgnlellflciaaGreatCsPD
/- Blocks of heaps that are not known, lists in them. -/
namespace Go.Proofs.YtimgnlellflciaaGreat
open Go
namespace Ev
namespace K
set_option maxRecDepth 100000
set_option maxHeartbeats 4000000
theorem zbl (fl:List (Nat × List Nat))(d:Nat):(fl.all fun p=>d.testBit p.1 || apart p.2 [])=true:=by simp[apart]
def atP:List Nat→AC→AC
  |0::p,.seq a _=>atP p a
  |1::p,.seq _ b=>atP p b
  |_::p,.block _ c=>atP p c
  |_::p,.loop _ c=>atP p c
  |0::p,.cond _ a _=>atP p a
  |1::p,.cond _ _ b=>atP p b
  |_,c=>c
structure HB (G:List AB) (q:Nat) (x:AB):Prop where
  get:G[q]?=some x
  lt:q<G.length
  lts:∀ n,q<G.length+n
theorem hb {G:List AB}{q:Nat}{x:AB}(h:G[q]?=some x):HB G q x:=⟨h,get_lt h,fun n=>by have:=get_lt h;omega⟩
theorem HB.set {G:List AB}{q r:Nat}{x:AB}(h:HB G q x)(v:AB)(hne:r≠q):HB (G.set r v) q x:=hb (by rw[List.getElem?_set_ne hne];exact h.get)
theorem HB.here {G:List AB}{q:Nat}{x:AB}(h:HB G q x)(v:AB):HB (G.set q v) q v:=hb (by rw[List.getElem?_set_self h.lt])
theorem HB.app {G:List AB}{q:Nat}{x:AB}(h:HB G q x)(K:List AB):HB (G++K) q x:=hb (by rw[List.getElem?_append_left h.lt];exact h.get)
theorem zap {C:Cfg}{call:CallF}{pin:Nat}{nod:Bool}{fl:List (Nat × List Nat)}{o:AOp}{st:St}{v:AV}{hp:List AB}{tc:List Nat}(hg:o.guard=Option.none)(hk:spineK o.op=true)
    (hs:spine call (val C st.tm) st.hp o.op=some (.ret v,hp,tc)) (hd0:Nat.beq o.deps (Nat.sub (Nat.pow 2 o.ix) 1)=true) (hf0:(fl.all fun p=>Nat.ble (p.1+1) o.ix)=true):
    ev1 C call pin nod true fl o st=some (.next Option.none { st with hp:=hp,tm:=putT st.tm o.dst v,tc:=tc.filter (·<pin)++st.tc }):=by
  have hd:o.deps=2 ^ o.ix - 1:=Nat.eq_of_beq_eq_true hd0
  clear hd0
  obtain ⟨ix,dst,op,guard,deps⟩:=o
  dsimp only at hg hk hs hd hf0
  have hf:(fl.all fun p=>deps.testBit p.1)=true:=by
    rw[List.all_eq_true] at hf0 ⊢
    intro p hp
    have:=Nat.le_of_ble_eq_true (hf0 p hp)
    rw[hd,Nat.testBit_two_pow_sub_one]
    exact decide_eq_true (by omega)
  subst hg
  have h1:(fl.all fun p=>deps.testBit p.1 || apart p.2 tc)=true:=by
    rw[List.all_eq_true] at hf ⊢
    intro p hp
    rw[hf p hp,Bool.true_or]
  unfold ev1
  simp only[wantG]
  cases op<;>first|(simp only[spine] at hs;cases hs;done)|(simp only[spineK] at hk;cases hk;done)|(simp only[hs,h1,Bool.or_true,spineK,cond_true])
def ints (l:List Int):List AV:=l.map (AV.int .i64)
theorem zgs:∀ l,(ints l).all AV.plain=true
  |[]=>rfl
  |a::l=>by simp only[ints,List.map_cons,List.all_cons];exact zgs l
@[simp] theorem zhv (l:List Int):(ints l).length=l.length:=by simp[ints]
theorem zlc (l m:List Int):ints (l++m)=ints l++ints m:=by simp[ints]
theorem zzk (L:List Int)(q:Nat)(h:q<L.length):(ints L)[q]?=some (.int .i64 (L.getD q 0)):=by
  unfold ints
  rw[List.getElem?_map,List.getElem?_eq_getElem h,List.getD_eq_getElem?_getD,List.getElem?_eq_getElem h];rfl
end K
end Ev
end Go.Proofs.YtimgnlellflciaaGreat

/- The code of the reference and of the laws that compare with it, for the evaluator. Printed by program. -/
namespace Go.Proofs.YtimgnlellflciaaGreat
open Go
namespace Ev
def af4:AFunc:=⟨92,[(.tmp 4)],(.seq (.ops [⟨0,(some 2),(.box (.tmp 0)),none,0⟩,⟨1,(some 4),(.mov (.val (.bool false))),none,0⟩]) (.seq (.seq (.ops [⟨0,(some 19),(.load (some 4) (.tmp 2)),none,0⟩,⟨1,(some 20),(.call (.val (.fn (Fn.func 5) [] [])) [(.tmp 19),(.val (.int .i64 3))]),none,0⟩]) (.cond (.tmp 20) (.seq (.ops [⟨0,(some 21),(.call (.val (.fn (Fn.func 6) [] [])) []),none,0⟩,⟨1,(some 4),(.mov (.tmp 21)),none,0⟩]) .ret) .skip)) (.seq (.ops [⟨0,(some 23),(.load (some 4) (.tmp 2)),none,0⟩,⟨1,(some 24),(.call (.val (.fn (Fn.func 17) [] [])) [(.tmp 23)]),none,0⟩,⟨2,(some 22),(.mov (.tmp 24)),none,0⟩,⟨3,(some 25),(.extract (.tmp 22) 0),none,0⟩,⟨4,(some 26),(.extract (.tmp 22) 1),none,0⟩,⟨5,(some 27),(.extract (.tmp 22) 2),none,0⟩,⟨6,(some 5),(.mov (.tmp 25)),none,0⟩,⟨7,(some 6),(.mov (.tmp 26)),none,0⟩,⟨8,(some 7),(.mov (.tmp 27)),none,0⟩]) (.seq (.ops [⟨0,(some 29),(.load (some 4) (.tmp 2)),none,0⟩,⟨1,(some 30),(.call (.val (.fn (Fn.func 18) [] [])) [(.tmp 29)]),none,0⟩,⟨2,(some 28),(.mov (.tmp 30)),none,0⟩,⟨3,(some 31),(.extract (.tmp 28) 0),none,0⟩,⟨4,(some 32),(.extract (.tmp 28) 1),none,0⟩,⟨5,(some 33),(.extract (.tmp 28) 2),none,0⟩,⟨6,(some 8),(.mov (.tmp 31)),none,0⟩,⟨7,(some 9),(.mov (.tmp 32)),none,0⟩,⟨8,(some 10),(.mov (.tmp 33)),none,0⟩]) (.seq (.ops [⟨0,(some 35),(.load (some 4) (.tmp 2)),none,0⟩,⟨1,(some 36),(.mov (.tmp 1)),none,0⟩,⟨2,(some 37),(.call (.val (.fn (Fn.func 19) [] [])) [(.tmp 35),(.tmp 36)]),none,0⟩,⟨3,(some 34),(.mov (.tmp 37)),none,0⟩,⟨4,(some 38),(.extract (.tmp 34) 0),none,0⟩,⟨5,(some 39),(.extract (.tmp 34) 1),none,0⟩,⟨6,(some 11),(.mov (.tmp 38)),none,0⟩,⟨7,(some 12),(.mov (.tmp 39)),none,0⟩]) (.seq (.ops [⟨0,(some 41),(.load (some 4) (.tmp 2)),none,0⟩,⟨1,(some 42),(.mov (.tmp 1)),none,0⟩,⟨2,(some 43),(.call (.val (.fn (Fn.func 20) [] [])) [(.tmp 41),(.tmp 42)]),none,0⟩,⟨3,(some 40),(.mov (.tmp 43)),none,0⟩,⟨4,(some 44),(.extract (.tmp 40) 0),none,0⟩,⟨5,(some 45),(.extract (.tmp 40) 1),none,0⟩,⟨6,(some 13),(.mov (.tmp 44)),none,0⟩,⟨7,(some 14),(.mov (.tmp 45)),none,0⟩]) (.seq (.ops [⟨0,(some 47),(.load (some 4) (.tmp 2)),none,0⟩,⟨1,(some 48),(.call (.val (.fn (Fn.func 21) [] [])) [(.tmp 47)]),none,0⟩,⟨2,(some 46),(.mov (.tmp 48)),none,0⟩,⟨3,(some 49),(.extract (.tmp 46) 0),none,0⟩,⟨4,(some 50),(.extract (.tmp 46) 1),none,0⟩,⟨5,(some 15),(.mov (.tmp 49)),none,0⟩,⟨6,(some 16),(.mov (.tmp 50)),none,0⟩]) (.seq (.ops [⟨0,(some 52),(.load (some 4) (.tmp 2)),none,0⟩,⟨1,(some 53),(.call (.val (.fn (Fn.func 22) [] [])) [(.tmp 52)]),none,0⟩,⟨2,(some 51),(.mov (.tmp 53)),none,0⟩,⟨3,(some 54),(.extract (.tmp 51) 0),none,0⟩,⟨4,(some 55),(.extract (.tmp 51) 1),none,0⟩,⟨5,(some 17),(.mov (.tmp 54)),none,0⟩,⟨6,(some 18),(.mov (.tmp 55)),none,0⟩]) (.seq (.ops [⟨0,(some 56),(.mov (.tmp 5)),none,0⟩,⟨1,(some 57),(.mov (.tmp 8)),none,0⟩,⟨2,(some 58),(.bin .eql (.tmp 56) (.tmp 57)),none,0⟩,⟨3,(some 59),(.mov (.tmp 58)),none,0⟩,⟨4,(some 60),(.mov (.tmp 6)),(some (59,true)),0⟩,⟨5,(some 61),(.mov (.tmp 9)),(some (59,true)),0⟩,⟨6,(some 62),(.bin .eql (.tmp 60) (.tmp 61)),(some (59,true)),0⟩,⟨7,(some 63),(.pick (.tmp 59) (.tmp 62) (.val (.bool false))),none,0⟩,⟨8,(some 64),(.mov (.tmp 63)),none,0⟩,⟨9,(some 65),(.mov (.tmp 7)),(some (64,true)),0⟩,⟨10,(some 66),(.mov (.tmp 10)),(some (64,true)),0⟩,⟨11,(some 67),(.bin .eql (.tmp 65) (.tmp 66)),(some (64,true)),0⟩,⟨12,(some 68),(.pick (.tmp 64) (.tmp 67) (.val (.bool false))),none,0⟩,⟨13,(some 69),(.mov (.tmp 68)),none,0⟩,⟨14,(some 70),(.mov (.tmp 11)),(some (69,true)),0⟩,⟨15,(some 71),(.mov (.tmp 13)),(some (69,true)),0⟩,⟨16,(some 72),(.bin .eql (.tmp 70) (.tmp 71)),(some (69,true)),0⟩,⟨17,(some 73),(.pick (.tmp 69) (.tmp 72) (.val (.bool false))),none,0⟩,⟨18,(some 74),(.mov (.tmp 73)),none,0⟩,⟨19,(some 75),(.mov (.tmp 12)),(some (74,true)),0⟩,⟨20,(some 76),(.mov (.tmp 14)),(some (74,true)),0⟩,⟨21,(some 77),(.bin .eql (.tmp 75) (.tmp 76)),(some (74,true)),0⟩,⟨22,(some 78),(.pick (.tmp 74) (.tmp 77) (.val (.bool false))),none,0⟩,⟨23,(some 79),(.mov (.tmp 78)),none,0⟩,⟨24,(some 80),(.mov (.tmp 15)),(some (79,true)),0⟩,⟨25,(some 81),(.mov (.tmp 17)),(some (79,true)),0⟩,⟨26,(some 82),(.bin .eql (.tmp 80) (.tmp 81)),(some (79,true)),0⟩,⟨27,(some 83),(.pick (.tmp 79) (.tmp 82) (.val (.bool false))),none,0⟩,⟨28,(some 84),(.mov (.tmp 83)),none,0⟩,⟨29,(some 85),(.mov (.tmp 16)),(some (84,true)),0⟩,⟨30,(some 86),(.mov (.tmp 18)),(some (84,true)),0⟩,⟨31,(some 87),(.bin .eql (.tmp 85) (.tmp 86)),(some (84,true)),0⟩,⟨32,(some 88),(.pick (.tmp 84) (.tmp 87) (.val (.bool false))),none,0⟩,⟨33,(some 89),(.mov (.tmp 88)),none,0⟩,⟨34,(some 90),(.call (.val (.fn (Fn.func 6) [] [])) []),(some (89,true)),0⟩,⟨35,(some 91),(.pick (.tmp 89) (.tmp 90) (.val (.bool false))),none,0⟩,⟨36,(some 4),(.mov (.tmp 91)),none,0⟩]) .ret)))))))))⟩
def af5:AFunc:=⟨33,[(.tmp 4)],(.seq (.ops [⟨0,(some 2),(.box (.tmp 0)),none,0⟩,⟨1,(some 4),(.mov (.val (.bool false))),none,0⟩]) (.seq (.seq (.ops [⟨0,(some 8),(.load (some 4) (.tmp 2)),none,0⟩,⟨1,(some 9),(.call (.val (.fn (Fn.func 23) [] [])) [(.tmp 8)]),none,0⟩,⟨2,(some 10),(.mov (.tmp 9)),none,0⟩,⟨3,(some 11),(.load (some 4) (.tmp 2)),(some (10,false)),0⟩,⟨4,(some 12),(.call (.val (.fn (Fn.func 24) [] [])) [(.tmp 11)]),(some (10,false)),0⟩,⟨5,(some 13),(.not (.tmp 12)),(some (10,false)),0⟩,⟨6,(some 14),(.pick (.tmp 10) (.val (.bool true)) (.tmp 13)),none,0⟩]) (.cond (.tmp 14) (.seq (.ops [⟨0,(some 15),(.load (some 4) (.tmp 2)),none,0⟩,⟨1,(some 16),(.call (.val (.fn (Fn.func 23) [] [])) [(.tmp 15)]),none,0⟩,⟨2,(some 4),(.mov (.tmp 16)),none,0⟩]) .ret) .skip)) (.seq (.ops [⟨0,(some 5),(.mov (.val (.int .i64 0))),none,0⟩]) (.seq (.seq (.ops [⟨0,(some 17),(.fieldA 3 (.tmp 2)),none,0⟩,⟨1,(some 18),(.load none (.tmp 17)),none,0⟩,⟨2,(some 19),(.len (.tmp 18)),none,0⟩,⟨3,(some 20),(.mov (.val (.int .i64 0))),none,0⟩]) (.block 0 (.loop [1,5,18,19,20] (.seq (.ops [⟨0,(some 21),(.bin .lss (.tmp 20) (.tmp 19)),none,0⟩]) (.seq (.cond (.tmp 21) .skip (.exit 0)) (.seq (.block 1 (.seq (.ops [⟨0,(some 22),(.indexA 4 none (.tmp 18) (.tmp 20)),none,0⟩,⟨1,(some 23),(.load (some 4) (.tmp 22)),none,0⟩,⟨2,(some 7),(.alloc [(.int .i64 0),(.int .i64 0),(.int .i64 0),(.int .i64 0)]),none,0⟩,⟨3,none,(.store 4 (.tmp 7) (.tmp 23)),none,0⟩]) (.seq (.ops [⟨0,(some 24),(.fieldA 0 (.tmp 7)),none,0⟩,⟨1,(some 25),(.load none (.tmp 24)),none,0⟩,⟨2,(some 26),(.bin .eql (.tmp 25) (.val (.int .i64 0))),none,0⟩]) (.cond (.tmp 26) (.ops [⟨0,(some 27),(.mov (.tmp 5)),none,0⟩,⟨1,(some 28),(.bin .add (.tmp 27) (.val (.int .i64 1))),none,0⟩,⟨2,(some 5),(.mov (.tmp 28)),none,0⟩]) .skip)))) (.ops [⟨0,(some 29),(.bin .add (.tmp 20) (.val (.int .i64 1))),none,0⟩,⟨1,(some 20),(.mov (.tmp 29)),none,0⟩]))))))) (.seq (.ops [⟨0,(some 30),(.mov (.tmp 5)),none,0⟩,⟨1,(some 31),(.mov (.tmp 1)),none,0⟩,⟨2,(some 32),(.bin .gtr (.tmp 30) (.tmp 31)),none,0⟩,⟨3,(some 4),(.mov (.tmp 32)),none,0⟩]) .ret)))))⟩
def af18:AFunc:=⟨47,[(.tmp 2),(.tmp 3),(.tmp 4)],(.seq (.ops [⟨0,(some 1),(.box (.tmp 0)),none,0⟩,⟨1,(some 2),(.mov (.val (.int .i64 0))),none,0⟩,⟨2,(some 3),(.mov (.val (.int .i64 0))),none,0⟩,⟨3,(some 4),(.mov (.val (.int .i64 0))),none,0⟩]) (.seq (.ops [⟨0,(some 12),(.load (some 4) (.tmp 1)),none,0⟩,⟨1,(some 13),(.call (.val (.fn (Fn.func 36) [] [])) [(.tmp 12),(.val (.bool true))]),none,0⟩,⟨2,(some 11),(.mov (.tmp 13)),none,0⟩,⟨3,(some 14),(.extract (.tmp 11) 0),none,0⟩,⟨4,(some 15),(.extract (.tmp 11) 1),none,0⟩,⟨5,(some 5),(.mov (.tmp 14)),none,0⟩,⟨6,(some 6),(.mov (.tmp 15)),none,0⟩]) (.seq (.seq (.ops [⟨0,(some 16),(.mov (.tmp 6)),none,0⟩,⟨1,(some 17),(.bin .neq (.tmp 16) (.val (.int .i64 0))),none,0⟩]) (.cond (.tmp 17) (.seq (.ops [⟨0,(some 18),(.mov (.tmp 6)),none,0⟩,⟨1,(some 2),(.mov (.val (.int .i64 0))),none,0⟩,⟨2,(some 3),(.mov (.val (.int .i64 0))),none,0⟩,⟨3,(some 4),(.mov (.tmp 18)),none,0⟩]) .ret) .skip)) (.seq (.ops [⟨0,(some 7),(.mov (.val (.int .i64 0))),none,0⟩,⟨1,(some 8),(.mov (.val (.int .i64 0))),none,0⟩]) (.seq (.seq (.ops [⟨0,(some 9),(.mov (.val (.int .i64 0))),none,0⟩]) (.block 0 (.loop [1,5,7,8,9] (.seq (.seq (.ops [⟨0,(some 19),(.mov (.tmp 9)),none,0⟩,⟨1,(some 20),(.fieldA 0 (.tmp 1)),none,0⟩,⟨2,(some 21),(.load none (.tmp 20)),none,0⟩,⟨3,(some 22),(.len (.tmp 21)),none,0⟩,⟨4,(some 23),(.bin .lss (.tmp 19) (.tmp 22)),none,0⟩]) (.cond (.tmp 23) .skip (.exit 0))) (.seq (.block 1 (.seq (.draw [⟨0,(some 26),(.load (some 4) (.tmp 1)),none,0⟩,⟨1,(some 27),(.mov (.tmp 5)),none,0⟩,⟨2,(some 28),(.mov (.tmp 9)),none,0⟩,⟨5,(some 10),(.alloc [(.int .i64 0),(.int .i64 0)]),none,0⟩,⟨3,(some 29),(.call (.val (.fn (Fn.func 56) [] [])) [(.tmp 28)]),none,4⟩,⟨4,(some 30),(.call (.val (.fn (Fn.func 49) [] [])) [(.tmp 26),(.tmp 27),(.tmp 29)]),none,15⟩,⟨6,none,(.store 2 (.tmp 10) (.tmp 30)),none,63⟩]) (.seq (.seq (.ops [⟨0,(some 31),(.fieldA 1 (.tmp 10)),none,0⟩,⟨1,(some 32),(.load none (.tmp 31)),none,0⟩,⟨2,(some 33),(.bin .eql (.tmp 32) (.val (.int .i64 0))),none,0⟩]) (.cond (.tmp 33) (.ops [⟨0,(some 34),(.mov (.tmp 7)),none,0⟩,⟨1,(some 35),(.mov (.tmp 9)),none,0⟩,⟨2,(some 36),(.call (.val (.fn (Fn.func 56) [] [])) [(.tmp 35)]),none,0⟩,⟨3,(some 37),(.bin .add (.tmp 34) (.tmp 36)),none,0⟩,⟨4,(some 7),(.mov (.tmp 37)),none,0⟩]) .skip)) (.seq (.ops [⟨0,(some 38),(.fieldA 0 (.tmp 10)),none,0⟩,⟨1,(some 39),(.load none (.tmp 38)),none,0⟩,⟨2,(some 40),(.bin .eql (.tmp 39) (.val (.int .i64 0))),none,0⟩]) (.cond (.tmp 40) (.ops [⟨0,(some 41),(.mov (.tmp 8)),none,0⟩,⟨1,(some 42),(.mov (.tmp 9)),none,0⟩,⟨2,(some 43),(.call (.val (.fn (Fn.func 56) [] [])) [(.tmp 42)]),none,0⟩,⟨3,(some 44),(.bin .add (.tmp 41) (.tmp 43)),none,0⟩,⟨4,(some 8),(.mov (.tmp 44)),none,0⟩]) .skip))))) (.ops [⟨0,(some 24),(.mov (.tmp 9)),none,0⟩,⟨1,(some 25),(.bin .add (.tmp 24) (.val (.int .i64 1))),none,0⟩,⟨2,(some 9),(.mov (.tmp 25)),none,0⟩])))))) (.seq (.ops [⟨0,(some 45),(.mov (.tmp 7)),none,0⟩,⟨1,(some 46),(.mov (.tmp 8)),none,0⟩,⟨2,(some 2),(.mov (.tmp 45)),none,0⟩,⟨3,(some 3),(.mov (.tmp 46)),none,0⟩,⟨4,(some 4),(.mov (.val (.int .i64 0))),none,0⟩]) .ret))))))⟩
def af20:AFunc:=⟨48,[(.tmp 4),(.tmp 5)],(.seq (.ops [⟨0,(some 2),(.box (.tmp 0)),none,0⟩,⟨1,(some 4),(.mov (.val (.int .i64 0))),none,0⟩,⟨2,(some 5),(.mov (.val (.int .i64 0))),none,0⟩]) (.seq (.draw [⟨0,(some 11),(.load (some 4) (.tmp 2)),none,0⟩,⟨1,(some 12),(.mov (.tmp 1)),none,0⟩,⟨2,(some 13),(.call (.val (.fn (Fn.func 55) [] [])) [(.tmp 12)]),none,2⟩,⟨3,(some 14),(.call (.val (.fn (Fn.func 36) [] [])) [(.tmp 11),(.tmp 13)]),none,7⟩,⟨4,(some 10),(.mov (.tmp 14)),none,15⟩,⟨5,(some 15),(.extract (.tmp 10) 0),none,31⟩,⟨6,(some 16),(.extract (.tmp 10) 1),none,31⟩,⟨7,(some 6),(.mov (.tmp 15)),none,63⟩,⟨8,(some 7),(.mov (.tmp 16)),none,255⟩]) (.seq (.seq (.ops [⟨0,(some 17),(.mov (.tmp 7)),none,0⟩,⟨1,(some 18),(.bin .neq (.tmp 17) (.val (.int .i64 0))),none,0⟩]) (.cond (.tmp 18) (.seq (.ops [⟨0,(some 19),(.mov (.tmp 7)),none,0⟩,⟨1,(some 4),(.mov (.val (.int .i64 0))),none,0⟩,⟨2,(some 5),(.mov (.tmp 19)),none,0⟩]) .ret) .skip)) (.seq (.ops [⟨0,(some 8),(.mov (.val (.int .i64 (-1)))),none,0⟩]) (.seq (.seq (.ops [⟨0,(some 9),(.mov (.val (.int .i64 0))),none,0⟩]) (.block 0 (.loop [1,2,6,8,9] (.seq (.seq (.ops [⟨0,(some 20),(.mov (.tmp 9)),none,0⟩,⟨1,(some 21),(.load (some 4) (.tmp 2)),none,0⟩,⟨2,(some 22),(.call (.val (.fn (Fn.func 50) [] [])) [(.tmp 21)]),none,0⟩,⟨3,(some 23),(.bin .leq (.tmp 20) (.tmp 22)),none,0⟩]) (.cond (.tmp 23) .skip (.exit 0))) (.seq (.block 1 (.seq (.ops [⟨0,(some 26),(.mov (.tmp 8)),none,0⟩,⟨1,(some 27),(.bin .lss (.tmp 26) (.val (.int .i64 0))),none,0⟩,⟨2,(some 28),(.mov (.tmp 27)),none,0⟩,⟨3,(some 29),(.mov (.tmp 9)),(some (28,false)),0⟩,⟨4,(some 30),(.call (.val (.fn (Fn.func 63) [] [])) [(.tmp 29)]),(some (28,false)),0⟩,⟨5,(some 31),(.mov (.tmp 8)),(some (28,false)),0⟩,⟨6,(some 32),(.call (.val (.fn (Fn.func 63) [] [])) [(.tmp 31)]),(some (28,false)),0⟩,⟨7,(some 33),(.bin .lss (.tmp 30) (.tmp 32)),(some (28,false)),0⟩,⟨8,(some 34),(.pick (.tmp 28) (.val (.bool true)) (.tmp 33)),none,0⟩,⟨9,(some 35),(.mov (.tmp 34)),none,0⟩,⟨10,(some 36),(.load (some 4) (.tmp 2)),(some (35,true)),0⟩,⟨11,(some 37),(.mov (.tmp 6)),(some (35,true)),0⟩,⟨12,(some 38),(.mov (.tmp 9)),(some (35,true)),0⟩,⟨13,(some 39),(.call (.val (.fn (Fn.func 49) [] [])) [(.tmp 36),(.tmp 37),(.tmp 38)]),(some (35,true)),0⟩,⟨14,(some 40),(.fieldV 0 none (.tmp 39)),(some (35,true)),0⟩,⟨15,(some 41),(.mov (.tmp 1)),(some (35,true)),0⟩,⟨16,(some 42),(.bin .geq (.tmp 40) (.tmp 41)),(some (35,true)),0⟩,⟨17,(some 43),(.pick (.tmp 35) (.tmp 42) (.val (.bool false))),none,0⟩]) (.cond (.tmp 43) (.ops [⟨0,(some 44),(.mov (.tmp 9)),none,0⟩,⟨1,(some 8),(.mov (.tmp 44)),none,0⟩]) .skip))) (.ops [⟨0,(some 24),(.mov (.tmp 9)),none,0⟩,⟨1,(some 25),(.bin .add (.tmp 24) (.val (.int .i64 1))),none,0⟩,⟨2,(some 9),(.mov (.tmp 25)),none,0⟩])))))) (.seq (.seq (.ops [⟨0,(some 45),(.mov (.tmp 8)),none,0⟩,⟨1,(some 46),(.bin .lss (.tmp 45) (.val (.int .i64 0))),none,0⟩]) (.cond (.tmp 46) (.seq (.ops [⟨0,(some 4),(.mov (.val (.int .i64 0))),none,0⟩,⟨1,(some 5),(.mov (.val (.int .i64 4))),none,0⟩]) .ret) .skip)) (.seq (.ops [⟨0,(some 47),(.mov (.tmp 8)),none,0⟩,⟨1,(some 4),(.mov (.tmp 47)),none,0⟩,⟨2,(some 5),(.mov (.val (.int .i64 0))),none,0⟩]) .ret)))))))⟩
def af22:AFunc:=⟨68,[(.tmp 2),(.tmp 3)],(.seq (.ops [⟨0,(some 1),(.box (.tmp 0)),none,0⟩,⟨1,(some 2),(.mov (.val (.int .i64 0))),none,0⟩,⟨2,(some 3),(.mov (.val (.int .i64 0))),none,0⟩]) (.seq (.ops [⟨0,(some 9),(.load (some 4) (.tmp 1)),none,0⟩,⟨1,(some 10),(.call (.val (.fn (Fn.func 69) [] [])) [(.tmp 9),(.val (.bool true))]),none,0⟩,⟨2,(some 4),(.mov (.tmp 10)),none,0⟩]) (.seq (.seq (.ops [⟨0,(some 11),(.mov (.tmp 4)),none,0⟩,⟨1,(some 12),(.bin .neq (.tmp 11) (.val (.int .i64 0))),none,0⟩]) (.cond (.tmp 12) (.seq (.ops [⟨0,(some 13),(.mov (.tmp 4)),none,0⟩,⟨1,(some 2),(.mov (.val (.int .i64 0))),none,0⟩,⟨2,(some 3),(.mov (.tmp 13)),none,0⟩]) .ret) .skip)) (.seq (.seq (.ops [⟨0,(some 14),(.load (some 4) (.tmp 1)),none,0⟩,⟨1,(some 15),(.call (.val (.fn (Fn.func 70) [] [])) [(.tmp 14)]),none,0⟩,⟨2,(some 16),(.len (.tmp 15)),none,0⟩,⟨3,(some 17),(.bin .gtr (.tmp 16) (.val (.int .i64 0))),none,0⟩]) (.cond (.tmp 17) (.seq (.ops [⟨0,(some 2),(.mov (.val (.int .i64 0))),none,0⟩,⟨1,(some 3),(.mov (.val (.int .i64 4))),none,0⟩]) .ret) .skip)) (.seq (.ops [⟨0,(some 5),(.mov (.val (.int .i64 (-1)))),none,0⟩]) (.seq (.seq (.ops [⟨0,(some 6),(.mov (.val (.int .i64 0))),none,0⟩]) (.block 0 (.loop [1,5,6] (.seq (.seq (.ops [⟨0,(some 18),(.mov (.tmp 6)),none,0⟩,⟨1,(some 19),(.load (some 4) (.tmp 1)),none,0⟩,⟨2,(some 20),(.call (.val (.fn (Fn.func 71) [] [])) [(.tmp 19)]),none,0⟩,⟨3,(some 21),(.bin .leq (.tmp 18) (.tmp 20)),none,0⟩]) (.cond (.tmp 21) .skip (.exit 0))) (.seq (.block 1 (.seq (.ops [⟨0,(some 7),(.mov (.val (.bool true))),none,0⟩]) (.seq (.seq (.ops [⟨0,(some 8),(.mov (.val (.int .i64 0))),none,0⟩]) (.block 2 (.loop [1,5,6,7,8] (.seq (.seq (.ops [⟨0,(some 24),(.mov (.tmp 8)),none,0⟩,⟨1,(some 25),(.fieldA 3 (.tmp 1)),none,0⟩,⟨2,(some 26),(.load none (.tmp 25)),none,0⟩,⟨3,(some 27),(.len (.tmp 26)),none,0⟩,⟨4,(some 28),(.bin .lss (.tmp 24) (.tmp 27)),none,0⟩]) (.cond (.tmp 28) .skip (.exit 2))) (.seq (.block 3 (.ops [⟨0,(some 31),(.mov (.tmp 7)),none,0⟩,⟨1,(some 32),(.mov (.tmp 31)),none,0⟩,⟨2,(some 33),(.mov (.tmp 6)),(some (32,true)),0⟩,⟨3,(some 34),(.mov (.tmp 8)),(some (32,true)),0⟩,⟨4,(some 35),(.call (.val (.fn (Fn.func 72) [] [])) [(.tmp 33),(.tmp 34)]),(some (32,true)),0⟩,⟨5,(some 36),(.not (.tmp 35)),(some (32,true)),0⟩,⟨6,(some 37),(.mov (.tmp 36)),(some (32,true)),0⟩,⟨7,(some 38),(.fieldA 3 (.tmp 1)),(some (37,false)),0⟩,⟨8,(some 39),(.load none (.tmp 38)),(some (37,false)),0⟩,⟨9,(some 40),(.mov (.tmp 8)),(some (37,false)),0⟩,⟨10,(some 41),(.indexA 4 none (.tmp 39) (.tmp 40)),(some (37,false)),0⟩,⟨11,(some 42),(.fieldA 0 (.tmp 41)),(some (37,false)),0⟩,⟨12,(some 43),(.load none (.tmp 42)),(some (37,false)),0⟩,⟨13,(some 44),(.bin .eql (.tmp 43) (.val (.int .i64 1))),(some (37,false)),0⟩,⟨14,(some 45),(.pick (.tmp 37) (.val (.bool true)) (.tmp 44)),(some (32,true)),0⟩,⟨15,(some 46),(.pick (.tmp 32) (.tmp 45) (.val (.bool false))),none,0⟩,⟨16,(some 7),(.mov (.tmp 46)),none,0⟩])) (.ops [⟨0,(some 29),(.mov (.tmp 8)),none,0⟩,⟨1,(some 30),(.bin .add (.tmp 29) (.val (.int .i64 1))),none,0⟩,⟨2,(some 8),(.mov (.tmp 30)),none,0⟩])))))) (.seq (.ops [⟨0,(some 47),(.mov (.tmp 7)),none,0⟩,⟨1,(some 48),(.mov (.tmp 47)),none,0⟩,⟨2,(some 49),(.mov (.tmp 5)),(some (48,true)),0⟩,⟨3,(some 50),(.bin .lss (.tmp 49) (.val (.int .i64 0))),(some (48,true)),0⟩,⟨4,(some 51),(.mov (.tmp 50)),(some (48,true)),0⟩,⟨5,(some 52),(.mov (.tmp 6)),(some (51,false)),0⟩,⟨6,(some 53),(.call (.val (.fn (Fn.func 63) [] [])) [(.tmp 52)]),(some (51,false)),0⟩,⟨7,(some 54),(.mov (.tmp 5)),(some (51,false)),0⟩,⟨8,(some 55),(.call (.val (.fn (Fn.func 63) [] [])) [(.tmp 54)]),(some (51,false)),0⟩,⟨9,(some 56),(.bin .lss (.tmp 53) (.tmp 55)),(some (51,false)),0⟩,⟨10,(some 57),(.pick (.tmp 51) (.val (.bool true)) (.tmp 56)),(some (48,true)),0⟩,⟨11,(some 58),(.pick (.tmp 48) (.tmp 57) (.val (.bool false))),none,0⟩,⟨12,(some 59),(.mov (.tmp 58)),none,0⟩,⟨13,(some 60),(.load (some 4) (.tmp 1)),(some (59,true)),0⟩,⟨14,(some 61),(.mov (.tmp 6)),(some (59,true)),0⟩,⟨15,(some 62),(.call (.val (.fn (Fn.func 73) [] [])) [(.tmp 60),(.tmp 61)]),(some (59,true)),0⟩,⟨16,(some 63),(.len (.tmp 62)),(some (59,true)),0⟩,⟨17,(some 64),(.bin .eql (.tmp 63) (.val (.int .i64 0))),(some (59,true)),0⟩,⟨18,(some 65),(.pick (.tmp 59) (.tmp 64) (.val (.bool false))),none,0⟩]) (.cond (.tmp 65) (.ops [⟨0,(some 66),(.mov (.tmp 6)),none,0⟩,⟨1,(some 5),(.mov (.tmp 66)),none,0⟩]) .skip))))) (.ops [⟨0,(some 22),(.mov (.tmp 6)),none,0⟩,⟨1,(some 23),(.bin .add (.tmp 22) (.val (.int .i64 1))),none,0⟩,⟨2,(some 6),(.mov (.tmp 23)),none,0⟩])))))) (.seq (.ops [⟨0,(some 67),(.mov (.tmp 5)),none,0⟩,⟨1,(some 2),(.mov (.tmp 67)),none,0⟩,⟨2,(some 3),(.mov (.val (.int .i64 0))),none,0⟩]) .ret)))))))⟩
def af36:AFunc:=⟨20,[(.tmp 4),(.tmp 5)],(.seq (.ops [⟨0,(some 2),(.box (.tmp 0)),none,0⟩,⟨1,(some 4),(.mov (.val .nils)),none,0⟩,⟨2,(some 5),(.mov (.val (.int .i64 0))),none,0⟩]) (.seq (.ops [⟨0,(some 8),(.load (some 4) (.tmp 2)),none,0⟩,⟨1,(some 9),(.mov (.tmp 1)),none,0⟩,⟨2,(some 10),(.call (.val (.fn (Fn.func 69) [] [])) [(.tmp 8),(.tmp 9)]),none,0⟩,⟨3,(some 6),(.mov (.tmp 10)),none,0⟩]) (.seq (.seq (.ops [⟨0,(some 11),(.mov (.tmp 6)),none,0⟩,⟨1,(some 12),(.bin .neq (.tmp 11) (.val (.int .i64 0))),none,0⟩]) (.cond (.tmp 12) (.seq (.ops [⟨0,(some 13),(.mov (.tmp 6)),none,0⟩,⟨1,(some 4),(.mov (.val .nils)),none,0⟩,⟨2,(some 5),(.mov (.tmp 13)),none,0⟩]) .ret) .skip)) (.seq (.ops [⟨0,(some 14),(.load (some 4) (.tmp 2)),none,0⟩,⟨1,(some 15),(.call (.val (.fn (Fn.func 70) [] [])) [(.tmp 14)]),none,0⟩,⟨2,(some 7),(.mov (.tmp 15)),none,0⟩]) (.seq (.seq (.ops [⟨0,(some 16),(.mov (.tmp 7)),none,0⟩,⟨1,(some 17),(.len (.tmp 16)),none,0⟩,⟨2,(some 18),(.bin .eql (.tmp 17) (.val (.int .i64 0))),none,0⟩]) (.cond (.tmp 18) (.seq (.ops [⟨0,(some 4),(.mov (.val .nils)),none,0⟩,⟨1,(some 5),(.mov (.val (.int .i64 10))),none,0⟩]) .ret) .skip)) (.seq (.ops [⟨0,(some 19),(.mov (.tmp 7)),none,0⟩,⟨1,(some 4),(.mov (.tmp 19)),none,0⟩,⟨2,(some 5),(.mov (.val (.int .i64 0))),none,0⟩]) .ret))))))⟩
def af38:AFunc:=⟨34,[(.cell 2 (some 2))],(.seq (.ops [⟨0,(some 2),(.alloc [(.int .i64 0),(.int .i64 0)]),none,0⟩]) (.seq (.draw [⟨0,(some 5),(.mov (.tmp 0)),none,0⟩,⟨1,(some 6),(.indexA 1 none (.tmp 5) (.val (.int .i64 0))),none,1⟩,⟨2,(some 7),(.load none (.tmp 6)),none,3⟩,⟨3,(some 8),(.mov (.tmp 0)),none,0⟩,⟨4,(some 9),(.indexA 1 none (.tmp 8) (.val (.int .i64 0))),none,8⟩,⟨5,(some 10),(.load none (.tmp 9)),none,24⟩,⟨6,(some 11),(.build [(.int .i64 0),(.int .i64 0)] [(0,(1,(.tmp 7))),(1,(1,(.tmp 10)))]),none,63⟩,⟨7,(some 3),(.alloc [(.int .i64 0),(.int .i64 0)]),none,0⟩,⟨8,none,(.store 2 (.tmp 3) (.tmp 11)),none,255⟩]) (.seq (.seq (.ops [⟨0,(some 4),(.mov (.val (.int .i64 0))),none,0⟩]) (.block 0 (.loop [0,2,3,4] (.seq (.seq (.ops [⟨0,(some 12),(.mov (.tmp 4)),none,0⟩,⟨1,(some 13),(.mov (.tmp 0)),none,0⟩,⟨2,(some 14),(.len (.tmp 13)),none,0⟩,⟨3,(some 15),(.bin .lss (.tmp 12) (.tmp 14)),none,0⟩]) (.cond (.tmp 15) .skip (.exit 0))) (.seq (.block 1 (.draw [⟨0,(some 18),(.fieldA 0 (.tmp 3)),none,0⟩,⟨1,(some 19),(.load none (.tmp 18)),none,1⟩,⟨2,(some 20),(.mov (.tmp 0)),none,0⟩,⟨3,(some 21),(.mov (.tmp 4)),none,0⟩,⟨4,(some 22),(.indexA 1 none (.tmp 20) (.tmp 21)),none,12⟩,⟨5,(some 23),(.load none (.tmp 22)),none,28⟩,⟨6,(some 24),(.min [(.tmp 19),(.tmp 23)]),none,63⟩,⟨7,(some 25),(.fieldA 1 (.tmp 3)),none,0⟩,⟨8,(some 26),(.load none (.tmp 25)),none,128⟩,⟨9,(some 27),(.mov (.tmp 0)),none,0⟩,⟨10,(some 28),(.mov (.tmp 4)),none,0⟩,⟨11,(some 29),(.indexA 1 none (.tmp 27) (.tmp 28)),none,1536⟩,⟨12,(some 30),(.load none (.tmp 29)),none,3584⟩,⟨13,(some 31),(.max [(.tmp 26),(.tmp 30)]),none,8064⟩,⟨14,(some 32),(.build [(.int .i64 0),(.int .i64 0)] [(0,(1,(.tmp 24))),(1,(1,(.tmp 31)))]),none,16383⟩,⟨15,none,(.store 2 (.tmp 3) (.tmp 32)),none,32767⟩])) (.ops [⟨0,(some 16),(.mov (.tmp 4)),none,0⟩,⟨1,(some 17),(.bin .add (.tmp 16) (.val (.int .i64 1))),none,0⟩,⟨2,(some 4),(.mov (.tmp 17)),none,0⟩])))))) (.seq (.ops [⟨0,(some 33),(.load (some 2) (.tmp 3)),none,0⟩,⟨1,none,(.store 2 (.tmp 2) (.tmp 33)),none,0⟩]) .ret))))⟩
def af41:AFunc:=⟨31,[(.cell 4 (some 2))],(.seq (.ops [⟨0,(some 2),(.box (.tmp 0)),none,0⟩,⟨1,(some 4),(.alloc [(.int .i64 0),(.int .i64 0)]),none,0⟩]) (.seq (.ops [⟨0,(some 5),(.mov (.val .nils)),none,0⟩]) (.seq (.seq (.ops [⟨0,(some 6),(.mov (.val (.int .i64 0))),none,0⟩]) (.block 0 (.loop [1,2,4,5,6] (.seq (.seq (.ops [⟨0,(some 7),(.mov (.tmp 6)),none,0⟩,⟨1,(some 8),(.fieldA 1 (.tmp 2)),none,0⟩,⟨2,(some 9),(.load none (.tmp 8)),none,0⟩,⟨3,(some 10),(.mov (.tmp 1)),none,0⟩,⟨4,(some 11),(.indexA 1 none (.tmp 9) (.tmp 10)),none,0⟩,⟨5,(some 12),(.load none (.tmp 11)),none,0⟩,⟨6,(some 13),(.len (.tmp 12)),none,0⟩,⟨7,(some 14),(.bin .lss (.tmp 7) (.tmp 13)),none,0⟩]) (.cond (.tmp 14) .skip (.exit 0))) (.seq (.block 1 (.ops [⟨0,(some 17),(.mov (.tmp 5)),none,0⟩,⟨1,(some 18),(.fieldA 1 (.tmp 2)),none,0⟩,⟨2,(some 19),(.load none (.tmp 18)),none,0⟩,⟨3,(some 20),(.mov (.tmp 1)),none,0⟩,⟨4,(some 21),(.indexA 1 none (.tmp 19) (.tmp 20)),none,0⟩,⟨5,(some 22),(.load none (.tmp 21)),none,0⟩,⟨6,(some 23),(.mov (.tmp 6)),none,0⟩,⟨7,(some 24),(.indexA 2 none (.tmp 22) (.tmp 23)),none,0⟩,⟨8,(some 25),(.fieldA 1 (.tmp 24)),none,0⟩,⟨9,(some 26),(.load none (.tmp 25)),none,0⟩,⟨10,(some 27),(.buildSl 1 1 [(.int .i64 0)] [(0,(.tmp 26))]),none,0⟩,⟨11,(some 28),(.append 1 (.tmp 17) (.tmp 27)),none,0⟩,⟨12,(some 5),(.mov (.tmp 28)),none,0⟩])) (.ops [⟨0,(some 15),(.mov (.tmp 6)),none,0⟩,⟨1,(some 16),(.bin .add (.tmp 15) (.val (.int .i64 1))),none,0⟩,⟨2,(some 6),(.mov (.tmp 16)),none,0⟩])))))) (.seq (.ops [⟨0,(some 29),(.mov (.tmp 5)),none,0⟩,⟨1,(some 30),(.call (.val (.fn (Fn.func 38) [] [])) [(.tmp 29)]),none,0⟩,⟨2,none,(.store 2 (.tmp 4) (.tmp 30)),none,0⟩]) .ret))))⟩
def af49:AFunc:=⟨50,[(.cell 6 (some 2))],(.seq (.ops [⟨0,(some 3),(.box (.tmp 0)),none,0⟩,⟨1,(some 6),(.alloc [(.int .i64 0),(.int .i64 0)]),none,0⟩]) (.seq (.ops [⟨0,(some 7),(.mov (.val .nils)),none,0⟩]) (.seq (.seq (.ops [⟨0,(some 8),(.mov (.val (.int .i64 0))),none,0⟩]) (.block 0 (.loop [1,2,3,6,7,8] (.seq (.seq (.ops [⟨0,(some 13),(.mov (.tmp 8)),none,0⟩,⟨1,(some 14),(.mov (.tmp 1)),none,0⟩,⟨2,(some 15),(.len (.tmp 14)),none,0⟩,⟨3,(some 16),(.bin .lss (.tmp 13) (.tmp 15)),none,0⟩]) (.cond (.tmp 16) .skip (.exit 0))) (.seq (.block 1 (.seq (.ops [⟨0,(some 9),(.mov (.val (.int .i64 0))),none,0⟩,⟨1,(some 10),(.mov (.val (.int .i64 0))),none,0⟩]) (.seq (.seq (.ops [⟨0,(some 11),(.mov (.val (.int .i64 0))),none,0⟩]) (.block 2 (.loop [1,2,3,6,7,8,9,10,11] (.seq (.seq (.ops [⟨0,(some 19),(.mov (.tmp 11)),none,0⟩,⟨1,(some 20),(.fieldA 0 (.tmp 3)),none,0⟩,⟨2,(some 21),(.load none (.tmp 20)),none,0⟩,⟨3,(some 22),(.len (.tmp 21)),none,0⟩,⟨4,(some 23),(.bin .lss (.tmp 19) (.tmp 22)),none,0⟩]) (.cond (.tmp 23) .skip (.exit 2))) (.seq (.block 3 (.seq (.ops [⟨0,(some 26),(.mov (.tmp 2)),none,0⟩,⟨1,(some 27),(.mov (.tmp 11)),none,0⟩,⟨2,(some 28),(.call (.val (.fn (Fn.func 72) [] [])) [(.tmp 26),(.tmp 27)]),none,0⟩]) (.cond (.tmp 28) (.seq (.ops [⟨0,(some 29),(.mov (.tmp 1)),none,0⟩,⟨1,(some 30),(.mov (.tmp 8)),none,0⟩,⟨2,(some 31),(.indexA 2 none (.tmp 29) (.tmp 30)),none,0⟩,⟨3,(some 32),(.load (some 2) (.tmp 31)),none,0⟩,⟨4,(some 33),(.mov (.tmp 11)),none,0⟩,⟨5,(some 34),(.call (.val (.fn (Fn.func 41) [] [])) [(.tmp 32),(.tmp 33)]),none,0⟩,⟨6,(some 12),(.alloc [(.int .i64 0),(.int .i64 0)]),none,0⟩,⟨7,none,(.store 2 (.tmp 12) (.tmp 34)),none,0⟩]) (.draw [⟨0,(some 35),(.mov (.tmp 9)),none,0⟩,⟨1,(some 36),(.fieldA 0 (.tmp 12)),none,0⟩,⟨2,(some 37),(.load none (.tmp 36)),none,2⟩,⟨3,(some 38),(.bin .add (.tmp 35) (.tmp 37)),none,7⟩,⟨4,(some 39),(.mov (.tmp 10)),none,0⟩,⟨5,(some 40),(.fieldA 1 (.tmp 12)),none,0⟩,⟨6,(some 41),(.load none (.tmp 40)),none,32⟩,⟨7,(some 42),(.bin .add (.tmp 39) (.tmp 41)),none,112⟩,⟨8,(some 9),(.mov (.tmp 38)),none,15⟩,⟨9,(some 10),(.mov (.tmp 42)),none,511⟩])) .skip))) (.ops [⟨0,(some 24),(.mov (.tmp 11)),none,0⟩,⟨1,(some 25),(.bin .add (.tmp 24) (.val (.int .i64 1))),none,0⟩,⟨2,(some 11),(.mov (.tmp 25)),none,0⟩])))))) (.ops [⟨0,(some 43),(.mov (.tmp 7)),none,0⟩,⟨1,(some 44),(.mov (.tmp 9)),none,0⟩,⟨2,(some 45),(.mov (.tmp 10)),none,0⟩,⟨3,(some 46),(.buildSl 1 2 [(.int .i64 0)] [(0,(.tmp 44)),(1,(.tmp 45))]),none,0⟩,⟨4,(some 47),(.append 1 (.tmp 43) (.tmp 46)),none,0⟩,⟨5,(some 7),(.mov (.tmp 47)),none,0⟩])))) (.ops [⟨0,(some 17),(.mov (.tmp 8)),none,0⟩,⟨1,(some 18),(.bin .add (.tmp 17) (.val (.int .i64 1))),none,0⟩,⟨2,(some 8),(.mov (.tmp 18)),none,0⟩])))))) (.seq (.ops [⟨0,(some 48),(.mov (.tmp 7)),none,0⟩,⟨1,(some 49),(.call (.val (.fn (Fn.func 38) [] [])) [(.tmp 48)]),none,0⟩,⟨2,none,(.store 2 (.tmp 6) (.tmp 49)),none,0⟩]) .ret))))⟩
def af50:AFunc:=⟨8,[(.tmp 2)],(.seq (.ops [⟨0,(some 1),(.box (.tmp 0)),none,0⟩,⟨1,(some 2),(.mov (.val (.int .i64 0))),none,0⟩]) (.seq (.ops [⟨0,(some 3),(.fieldA 0 (.tmp 1)),none,0⟩,⟨1,(some 4),(.load none (.tmp 3)),none,0⟩,⟨2,(some 5),(.len (.tmp 4)),none,0⟩,⟨3,(some 6),(.call (.val (.fn (Fn.func 56) [] [])) [(.tmp 5)]),none,0⟩,⟨4,(some 7),(.bin .sub (.tmp 6) (.val (.int .i64 1))),none,0⟩,⟨5,(some 2),(.mov (.tmp 7)),none,0⟩]) .ret))⟩
def af55:AFunc:=⟨5,[(.tmp 2)],(.seq (.ops [⟨0,(some 2),(.mov (.val (.bool false))),none,0⟩]) (.seq (.ops [⟨0,(some 3),(.mov (.tmp 0)),none,0⟩,⟨1,(some 4),(.call (.val (.fn (Fn.func 74) [] [])) [(.tmp 3),(.val (.int .i64 0)),(.val (.int .i64 20000))]),none,0⟩,⟨2,(some 2),(.mov (.tmp 4)),none,0⟩]) .ret))⟩
def af56:AFunc:=⟨13,[(.tmp 2)],(.seq (.ops [⟨0,(some 2),(.mov (.val (.int .i64 0))),none,0⟩]) (.seq (.ops [⟨0,(some 3),(.mov (.val (.int .i64 1))),none,0⟩]) (.seq (.seq (.ops [⟨0,(some 4),(.mov (.val (.int .i64 0))),none,0⟩]) (.block 0 (.loop [0,3,4] (.seq (.seq (.ops [⟨0,(some 5),(.mov (.tmp 4)),none,0⟩,⟨1,(some 6),(.mov (.tmp 0)),none,0⟩,⟨2,(some 7),(.bin .lss (.tmp 5) (.tmp 6)),none,0⟩]) (.cond (.tmp 7) .skip (.exit 0))) (.seq (.block 1 (.ops [⟨0,(some 10),(.mov (.tmp 3)),none,0⟩,⟨1,(some 11),(.bin .mul (.val (.int .i64 2)) (.tmp 10)),none,0⟩,⟨2,(some 3),(.mov (.tmp 11)),none,0⟩])) (.ops [⟨0,(some 8),(.mov (.tmp 4)),none,0⟩,⟨1,(some 9),(.bin .add (.tmp 8) (.val (.int .i64 1))),none,0⟩,⟨2,(some 4),(.mov (.tmp 9)),none,0⟩])))))) (.seq (.ops [⟨0,(some 12),(.mov (.tmp 3)),none,0⟩,⟨1,(some 2),(.mov (.tmp 12)),none,0⟩]) .ret))))⟩
def af69:AFunc:=⟨10,[(.tmp 4)],(.seq (.ops [⟨0,(some 2),(.box (.tmp 0)),none,0⟩,⟨1,(some 4),(.mov (.val (.int .i64 0))),none,0⟩]) (.seq (.seq (.ops [⟨0,(some 5),(.load (some 4) (.tmp 2)),none,0⟩,⟨1,(some 6),(.call (.val (.fn (Fn.func 24) [] [])) [(.tmp 5)]),none,0⟩,⟨2,(some 7),(.not (.tmp 6)),none,0⟩]) (.cond (.tmp 7) (.seq (.ops [⟨0,(some 4),(.mov (.val (.int .i64 1))),none,0⟩]) .ret) .skip)) (.seq (.seq (.ops [⟨0,(some 8),(.mov (.tmp 1)),none,0⟩,⟨1,(some 9),(.not (.tmp 8)),none,0⟩]) (.cond (.tmp 9) (.seq (.ops [⟨0,(some 4),(.mov (.val (.int .i64 2))),none,0⟩]) .ret) .skip)) (.seq (.ops [⟨0,(some 4),(.mov (.val (.int .i64 0))),none,0⟩]) .ret))))⟩
def af70:AFunc:=⟨7,[(.tmp 2)],(.seq (.ops [⟨0,(some 1),(.box (.tmp 0)),none,0⟩,⟨1,(some 2),(.mov (.val .nils)),none,0⟩]) (.seq (.draw [⟨0,(some 3),(.load (some 4) (.tmp 1)),none,0⟩,⟨1,(some 4),(.load (some 4) (.tmp 1)),none,0⟩,⟨2,(some 5),(.call (.val (.fn (Fn.func 71) [] [])) [(.tmp 4)]),none,2⟩,⟨3,(some 6),(.call (.val (.fn (Fn.func 73) [] [])) [(.tmp 3),(.tmp 5)]),none,7⟩,⟨4,(some 2),(.mov (.tmp 6)),none,15⟩]) .ret))⟩
def af71:AFunc:=⟨8,[(.tmp 2)],(.seq (.ops [⟨0,(some 1),(.box (.tmp 0)),none,0⟩,⟨1,(some 2),(.mov (.val (.int .i64 0))),none,0⟩]) (.seq (.ops [⟨0,(some 3),(.fieldA 3 (.tmp 1)),none,0⟩,⟨1,(some 4),(.load none (.tmp 3)),none,0⟩,⟨2,(some 5),(.len (.tmp 4)),none,0⟩,⟨3,(some 6),(.call (.val (.fn (Fn.func 56) [] [])) [(.tmp 5)]),none,0⟩,⟨4,(some 7),(.bin .sub (.tmp 6) (.val (.int .i64 1))),none,0⟩,⟨5,(some 2),(.mov (.tmp 7)),none,0⟩]) .ret))⟩
def af72:AFunc:=⟨11,[(.tmp 4)],(.seq (.ops [⟨0,(some 4),(.mov (.val (.bool false))),none,0⟩]) (.seq (.ops [⟨0,(some 5),(.mov (.tmp 0)),none,0⟩,⟨1,(some 6),(.mov (.tmp 1)),none,0⟩,⟨2,(some 7),(.call (.val (.fn (Fn.func 56) [] [])) [(.tmp 6)]),none,0⟩,⟨3,(some 8),(.bin .quo (.tmp 5) (.tmp 7)),none,0⟩,⟨4,(some 9),(.bin .rem (.tmp 8) (.val (.int .i64 2))),none,0⟩,⟨5,(some 10),(.bin .eql (.tmp 9) (.val (.int .i64 1))),none,0⟩,⟨6,(some 4),(.mov (.tmp 10)),none,0⟩]) .ret))⟩
def af73:AFunc:=⟨53,[(.tmp 4)],(.seq (.ops [⟨0,(some 2),(.box (.tmp 0)),none,0⟩,⟨1,(some 4),(.mov (.val .nils)),none,0⟩]) (.seq (.ops [⟨0,(some 5),(.mov (.val .nils)),none,0⟩]) (.seq (.seq (.ops [⟨0,(some 11),(.fieldA 1 (.tmp 2)),none,0⟩,⟨1,(some 12),(.fieldA 0 (.tmp 11)),none,0⟩,⟨2,(some 13),(.load none (.tmp 12)),none,0⟩,⟨3,(some 6),(.mov (.tmp 13)),none,0⟩]) (.block 0 (.loop [1,2,5,6] (.seq (.seq (.ops [⟨0,(some 14),(.mov (.tmp 6)),none,0⟩,⟨1,(some 15),(.fieldA 1 (.tmp 2)),none,0⟩,⟨2,(some 16),(.fieldA 1 (.tmp 15)),none,0⟩,⟨3,(some 17),(.load none (.tmp 16)),none,0⟩,⟨4,(some 18),(.bin .leq (.tmp 14) (.tmp 17)),none,0⟩]) (.cond (.tmp 18) .skip (.exit 0))) (.seq (.block 1 (.seq (.ops [⟨0,(some 21),(.mov (.tmp 6)),none,0⟩,⟨1,(some 22),(.build [(.int .i64 0),.nils] [(0,(1,(.tmp 21)))]),none,0⟩,⟨2,(some 7),(.alloc [(.int .i64 0),.nils]),none,0⟩,⟨3,none,(.store 2 (.tmp 7) (.tmp 22)),none,0⟩,⟨4,(some 8),(.mov (.val (.bool true))),none,0⟩]) (.seq (.seq (.ops [⟨0,(some 9),(.mov (.val (.int .i64 0))),none,0⟩]) (.block 2 (.loop [1,2,5,6,7,8,9] (.seq (.seq (.ops [⟨0,(some 23),(.mov (.tmp 9)),none,0⟩,⟨1,(some 24),(.fieldA 0 (.tmp 2)),none,0⟩,⟨2,(some 25),(.load none (.tmp 24)),none,0⟩,⟨3,(some 26),(.len (.tmp 25)),none,0⟩,⟨4,(some 27),(.bin .lss (.tmp 23) (.tmp 26)),none,0⟩]) (.cond (.tmp 27) .skip (.exit 2))) (.seq (.block 3 (.seq (.ops [⟨0,(some 30),(.load (some 4) (.tmp 2)),none,0⟩,⟨1,(some 31),(.mov (.tmp 9)),none,0⟩,⟨2,(some 32),(.mov (.tmp 6)),none,0⟩,⟨3,(some 33),(.mov (.tmp 1)),none,0⟩,⟨4,(some 34),(.call (.val (.fn (Fn.func 93) [] [])) [(.tmp 30),(.tmp 31),(.tmp 32),(.tmp 33)]),none,0⟩,⟨5,(some 10),(.mov (.tmp 34)),none,0⟩]) (.seq (.ops [⟨0,(some 35),(.mov (.tmp 8)),none,0⟩,⟨1,(some 36),(.mov (.tmp 35)),none,0⟩,⟨2,(some 37),(.mov (.tmp 10)),(some (36,true)),0⟩,⟨3,(some 38),(.len (.tmp 37)),(some (36,true)),0⟩,⟨4,(some 39),(.bin .gtr (.tmp 38) (.val (.int .i64 0))),(some (36,true)),0⟩,⟨5,(some 40),(.pick (.tmp 36) (.tmp 39) (.val (.bool false))),none,0⟩,⟨6,(some 8),(.mov (.tmp 40)),none,0⟩]) (.ops [⟨0,(some 41),(.fieldA 1 (.tmp 7)),none,0⟩,⟨1,(some 42),(.load none (.tmp 41)),none,0⟩,⟨2,(some 43),(.mov (.tmp 10)),none,0⟩,⟨3,(some 44),(.buildSl 1 1 [.nils] [(0,(.tmp 43))]),none,0⟩,⟨4,(some 45),(.append 1 (.tmp 42) (.tmp 44)),none,0⟩,⟨5,(some 46),(.fieldA 1 (.tmp 7)),none,0⟩,⟨6,none,(.store 1 (.tmp 46) (.tmp 45)),none,0⟩])))) (.ops [⟨0,(some 28),(.mov (.tmp 9)),none,0⟩,⟨1,(some 29),(.bin .add (.tmp 28) (.val (.int .i64 1))),none,0⟩,⟨2,(some 9),(.mov (.tmp 29)),none,0⟩])))))) (.seq (.ops [⟨0,(some 47),(.mov (.tmp 8)),none,0⟩]) (.cond (.tmp 47) (.ops [⟨0,(some 48),(.mov (.tmp 5)),none,0⟩,⟨1,(some 49),(.load (some 2) (.tmp 7)),none,0⟩,⟨2,(some 50),(.buildSl 2 1 [(.int .i64 0),.nils] [(0,(.tmp 49))]),none,0⟩,⟨3,(some 51),(.append 2 (.tmp 48) (.tmp 50)),none,0⟩,⟨4,(some 5),(.mov (.tmp 51)),none,0⟩]) .skip))))) (.ops [⟨0,(some 19),(.mov (.tmp 6)),none,0⟩,⟨1,(some 20),(.bin .add (.tmp 19) (.val (.int .i64 1))),none,0⟩,⟨2,(some 6),(.mov (.tmp 20)),none,0⟩])))))) (.seq (.ops [⟨0,(some 52),(.mov (.tmp 5)),none,0⟩,⟨1,(some 4),(.mov (.tmp 52)),none,0⟩]) .ret))))⟩
def af93:AFunc:=⟨70,[(.tmp 8)],(.seq (.ops [⟨0,(some 4),(.box (.tmp 0)),none,0⟩,⟨1,(some 8),(.mov (.val .nils)),none,0⟩]) (.seq (.ops [⟨0,(some 14),(.fieldA 0 (.tmp 4)),none,0⟩,⟨1,(some 15),(.load none (.tmp 14)),none,0⟩,⟨2,(some 16),(.mov (.tmp 1)),none,0⟩,⟨3,(some 17),(.indexA 6 none (.tmp 15) (.tmp 16)),none,0⟩,⟨4,(some 18),(.load (some 6) (.tmp 17)),none,0⟩,⟨5,(some 9),(.alloc [(.int .i64 0),(.int .i64 0),(.int .i64 0),(.int .i64 0),(.int .i64 0),(.int .i64 0)]),none,0⟩,⟨6,none,(.store 6 (.tmp 9) (.tmp 18)),none,0⟩]) (.seq (.ops [⟨0,(some 10),(.mov (.val .nils)),none,0⟩]) (.seq (.seq (.ops [⟨0,(some 19),(.fieldA 0 (.tmp 9)),none,0⟩,⟨1,(some 20),(.fieldA 0 (.tmp 19)),none,0⟩,⟨2,(some 21),(.load none (.tmp 20)),none,0⟩,⟨3,(some 11),(.mov (.tmp 21)),none,0⟩]) (.block 0 (.loop [1,2,3,4,9,10,11] (.seq (.seq (.ops [⟨0,(some 22),(.mov (.tmp 11)),none,0⟩,⟨1,(some 23),(.fieldA 0 (.tmp 9)),none,0⟩,⟨2,(some 24),(.fieldA 1 (.tmp 23)),none,0⟩,⟨3,(some 25),(.load none (.tmp 24)),none,0⟩,⟨4,(some 26),(.bin .leq (.tmp 22) (.tmp 25)),none,0⟩]) (.cond (.tmp 26) .skip (.exit 0))) (.seq (.block 1 (.seq (.ops [⟨0,(some 29),(.fieldA 2 (.tmp 9)),none,0⟩,⟨1,(some 30),(.fieldA 0 (.tmp 29)),none,0⟩,⟨2,(some 31),(.load none (.tmp 30)),none,0⟩,⟨3,(some 12),(.mov (.tmp 31)),none,0⟩]) (.block 2 (.loop [1,2,3,4,9,10,11,12] (.seq (.seq (.ops [⟨0,(some 32),(.mov (.tmp 12)),none,0⟩,⟨1,(some 33),(.fieldA 2 (.tmp 9)),none,0⟩,⟨2,(some 34),(.fieldA 1 (.tmp 33)),none,0⟩,⟨3,(some 35),(.load none (.tmp 34)),none,0⟩,⟨4,(some 36),(.bin .leq (.tmp 32) (.tmp 35)),none,0⟩]) (.cond (.tmp 36) .skip (.exit 2))) (.seq (.block 3 (.seq (.ops [⟨0,(some 39),(.fieldA 4 (.tmp 9)),none,0⟩,⟨1,(some 40),(.fieldA 0 (.tmp 39)),none,0⟩,⟨2,(some 41),(.load none (.tmp 40)),none,0⟩,⟨3,(some 13),(.mov (.tmp 41)),none,0⟩]) (.block 4 (.loop [1,2,3,4,9,10,11,12,13] (.seq (.seq (.ops [⟨0,(some 42),(.mov (.tmp 13)),none,0⟩,⟨1,(some 43),(.fieldA 4 (.tmp 9)),none,0⟩,⟨2,(some 44),(.fieldA 1 (.tmp 43)),none,0⟩,⟨3,(some 45),(.load none (.tmp 44)),none,0⟩,⟨4,(some 46),(.bin .leq (.tmp 42) (.tmp 45)),none,0⟩]) (.cond (.tmp 46) .skip (.exit 4))) (.seq (.block 5 (.ops [⟨0,(some 49),(.load (some 4) (.tmp 4)),none,0⟩,⟨1,(some 50),(.mov (.tmp 1)),none,0⟩,⟨2,(some 51),(.mov (.tmp 3)),none,0⟩,⟨3,(some 52),(.mov (.tmp 11)),none,0⟩,⟨4,(some 53),(.mov (.tmp 12)),none,0⟩,⟨5,(some 54),(.bin .mul (.tmp 52) (.tmp 53)),none,0⟩,⟨6,(some 55),(.mov (.tmp 13)),none,0⟩,⟨7,(some 56),(.bin .mul (.tmp 54) (.tmp 55)),none,0⟩,⟨8,(some 57),(.mov (.tmp 2)),none,0⟩,⟨9,(some 58),(.bin .mul (.tmp 56) (.tmp 57)),none,0⟩,⟨10,(some 59),(.mov (.tmp 11)),none,0⟩,⟨11,(some 60),(.mov (.tmp 12)),none,0⟩,⟨12,(some 61),(.bin .mul (.tmp 59) (.tmp 60)),none,0⟩,⟨13,(some 62),(.mov (.tmp 13)),none,0⟩,⟨14,(some 63),(.bin .mul (.tmp 61) (.tmp 62)),none,0⟩,⟨15,(some 64),(.mov (.tmp 2)),none,0⟩,⟨16,(some 65),(.bin .mul (.tmp 63) (.tmp 64)),none,0⟩,⟨17,(some 66),(.build [(.int .i64 0),(.int .i64 0)] [(0,(1,(.tmp 58))),(1,(1,(.tmp 65)))]),none,0⟩,⟨18,(some 67),(.mov (.tmp 10)),none,0⟩,⟨19,(some 68),(.call (.val (.fn (Fn.func 100) [] [])) [(.tmp 49),(.tmp 50),(.val (.int .i64 0)),(.tmp 51),(.tmp 66),(.tmp 67)]),none,0⟩,⟨20,(some 10),(.mov (.tmp 68)),none,0⟩])) (.ops [⟨0,(some 47),(.mov (.tmp 13)),none,0⟩,⟨1,(some 48),(.bin .add (.tmp 47) (.val (.int .i64 1))),none,0⟩,⟨2,(some 13),(.mov (.tmp 48)),none,0⟩]))))))) (.ops [⟨0,(some 37),(.mov (.tmp 12)),none,0⟩,⟨1,(some 38),(.bin .add (.tmp 37) (.val (.int .i64 1))),none,0⟩,⟨2,(some 12),(.mov (.tmp 38)),none,0⟩]))))))) (.ops [⟨0,(some 27),(.mov (.tmp 11)),none,0⟩,⟨1,(some 28),(.bin .add (.tmp 27) (.val (.int .i64 1))),none,0⟩,⟨2,(some 11),(.mov (.tmp 28)),none,0⟩])))))) (.seq (.ops [⟨0,(some 69),(.mov (.tmp 10)),none,0⟩,⟨1,(some 8),(.mov (.tmp 69)),none,0⟩]) .ret)))))⟩
def af100:AFunc:=⟨104,[(.tmp 12)],(.seq (.ops [⟨0,(some 6),(.box (.tmp 0)),none,0⟩,⟨1,(some 10),(.box (.tmp 4)),none,0⟩,⟨2,(some 12),(.mov (.val .nils)),none,0⟩]) (.seq (.seq (.ops [⟨0,(some 15),(.mov (.tmp 2)),none,0⟩,⟨1,(some 16),(.fieldA 3 (.tmp 6)),none,0⟩,⟨2,(some 17),(.load none (.tmp 16)),none,0⟩,⟨3,(some 18),(.len (.tmp 17)),none,0⟩,⟨4,(some 19),(.bin .eql (.tmp 15) (.tmp 18)),none,0⟩]) (.cond (.tmp 19) (.seq (.ops [⟨0,(some 20),(.mov (.tmp 5)),none,0⟩,⟨1,(some 21),(.load (some 2) (.tmp 10)),none,0⟩,⟨2,(some 22),(.buildSl 2 1 [(.int .i64 0),(.int .i64 0)] [(0,(.tmp 21))]),none,0⟩,⟨3,(some 23),(.append 2 (.tmp 20) (.tmp 22)),none,0⟩,⟨4,(some 12),(.mov (.tmp 23)),none,0⟩]) .ret) .skip)) (.seq (.ops [⟨0,(some 24),(.fieldA 3 (.tmp 6)),none,0⟩,⟨1,(some 25),(.load none (.tmp 24)),none,0⟩,⟨2,(some 26),(.mov (.tmp 2)),none,0⟩,⟨3,(some 27),(.indexA 4 none (.tmp 25) (.tmp 26)),none,0⟩,⟨4,(some 28),(.load (some 4) (.tmp 27)),none,0⟩,⟨5,(some 13),(.alloc [(.int .i64 0),(.int .i64 0),(.int .i64 0),(.int .i64 0)]),none,0⟩,⟨6,none,(.store 4 (.tmp 13) (.tmp 28)),none,0⟩]) (.seq (.seq (.ops [⟨0,(some 29),(.fieldA 1 (.tmp 13)),none,0⟩,⟨1,(some 30),(.load none (.tmp 29)),none,0⟩,⟨2,(some 31),(.mov (.tmp 1)),none,0⟩,⟨3,(some 32),(.bin .eql (.tmp 30) (.tmp 31)),none,0⟩,⟨4,(some 33),(.mov (.tmp 32)),none,0⟩,⟨5,(some 34),(.fieldA 0 (.tmp 13)),(some (33,true)),0⟩,⟨6,(some 35),(.load none (.tmp 34)),(some (33,true)),0⟩,⟨7,(some 36),(.bin .eql (.tmp 35) (.val (.int .i64 0))),(some (33,true)),0⟩,⟨8,(some 37),(.pick (.tmp 33) (.tmp 36) (.val (.bool false))),none,0⟩]) (.cond (.tmp 37) (.seq (.seq (.ops [⟨0,(some 38),(.fieldA 2 (.tmp 13)),none,0⟩,⟨1,(some 39),(.fieldA 0 (.tmp 38)),none,0⟩,⟨2,(some 40),(.load none (.tmp 39)),none,0⟩,⟨3,(some 14),(.mov (.tmp 40)),none,0⟩]) (.block 0 (.loop [1,2,3,5,6,10,13,14] (.seq (.seq (.ops [⟨0,(some 41),(.mov (.tmp 14)),none,0⟩,⟨1,(some 42),(.fieldA 2 (.tmp 13)),none,0⟩,⟨2,(some 43),(.fieldA 1 (.tmp 42)),none,0⟩,⟨3,(some 44),(.load none (.tmp 43)),none,0⟩,⟨4,(some 45),(.bin .leq (.tmp 41) (.tmp 44)),none,0⟩,⟨5,(some 46),(.mov (.tmp 45)),none,0⟩,⟨6,(some 47),(.mov (.tmp 14)),(some (46,true)),0⟩,⟨7,(some 48),(.fieldA 1 (.tmp 10)),(some (46,true)),0⟩,⟨8,(some 49),(.load none (.tmp 48)),(some (46,true)),0⟩,⟨9,(some 50),(.bin .leq (.tmp 47) (.tmp 49)),(some (46,true)),0⟩,⟨10,(some 51),(.pick (.tmp 46) (.tmp 50) (.val (.bool false))),none,0⟩]) (.cond (.tmp 51) .skip (.exit 0))) (.seq (.block 1 (.ops [⟨0,(some 54),(.load (some 4) (.tmp 6)),none,0⟩,⟨1,(some 55),(.mov (.tmp 1)),none,0⟩,⟨2,(some 56),(.mov (.tmp 2)),none,0⟩,⟨3,(some 57),(.bin .add (.tmp 56) (.val (.int .i64 1))),none,0⟩,⟨4,(some 58),(.mov (.tmp 3)),none,0⟩,⟨5,(some 59),(.fieldA 0 (.tmp 10)),none,0⟩,⟨6,(some 60),(.load none (.tmp 59)),none,0⟩,⟨7,(some 61),(.fieldA 1 (.tmp 10)),none,0⟩,⟨8,(some 62),(.load none (.tmp 61)),none,0⟩,⟨9,(some 63),(.mov (.tmp 14)),none,0⟩,⟨10,(some 64),(.bin .sub (.tmp 62) (.tmp 63)),none,0⟩,⟨11,(some 65),(.build [(.int .i64 0),(.int .i64 0)] [(0,(1,(.tmp 60))),(1,(1,(.tmp 64)))]),none,0⟩,⟨12,(some 66),(.mov (.tmp 5)),none,0⟩,⟨13,(some 67),(.call (.val (.fn (Fn.func 100) [] [])) [(.tmp 54),(.tmp 55),(.tmp 57),(.tmp 58),(.tmp 65),(.tmp 66)]),none,0⟩,⟨14,(some 5),(.mov (.tmp 67)),none,0⟩])) (.ops [⟨0,(some 52),(.mov (.tmp 14)),none,0⟩,⟨1,(some 53),(.bin .add (.tmp 52) (.val (.int .i64 1))),none,0⟩,⟨2,(some 14),(.mov (.tmp 53)),none,0⟩])))))) (.seq (.ops [⟨0,(some 68),(.mov (.tmp 5)),none,0⟩,⟨1,(some 12),(.mov (.tmp 68)),none,0⟩]) .ret)) .skip)) (.seq (.seq (.ops [⟨0,(some 69),(.fieldA 1 (.tmp 13)),none,0⟩,⟨1,(some 70),(.load none (.tmp 69)),none,0⟩,⟨2,(some 71),(.mov (.tmp 1)),none,0⟩,⟨3,(some 72),(.bin .eql (.tmp 70) (.tmp 71)),none,0⟩,⟨4,(some 73),(.mov (.tmp 72)),none,0⟩,⟨5,(some 74),(.fieldA 0 (.tmp 13)),(some (73,true)),0⟩,⟨6,(some 75),(.load none (.tmp 74)),(some (73,true)),0⟩,⟨7,(some 76),(.bin .eql (.tmp 75) (.val (.int .i64 1))),(some (73,true)),0⟩,⟨8,(some 77),(.pick (.tmp 73) (.tmp 76) (.val (.bool false))),none,0⟩,⟨9,(some 78),(.mov (.tmp 77)),none,0⟩,⟨10,(some 79),(.mov (.tmp 3)),(some (78,true)),0⟩,⟨11,(some 80),(.mov (.tmp 2)),(some (78,true)),0⟩,⟨12,(some 81),(.call (.val (.fn (Fn.func 72) [] [])) [(.tmp 79),(.tmp 80)]),(some (78,true)),0⟩,⟨13,(some 82),(.pick (.tmp 78) (.tmp 81) (.val (.bool false))),none,0⟩,⟨14,(some 83),(.mov (.tmp 82)),none,0⟩,⟨15,(some 84),(.fieldA 1 (.tmp 10)),(some (83,true)),0⟩,⟨16,(some 85),(.load none (.tmp 84)),(some (83,true)),0⟩,⟨17,(some 86),(.fieldA 2 (.tmp 13)),(some (83,true)),0⟩,⟨18,(some 87),(.fieldA 0 (.tmp 86)),(some (83,true)),0⟩,⟨19,(some 88),(.load none (.tmp 87)),(some (83,true)),0⟩,⟨20,(some 89),(.fieldA 2 (.tmp 13)),(some (83,true)),0⟩,⟨21,(some 90),(.fieldA 1 (.tmp 89)),(some (83,true)),0⟩,⟨22,(some 91),(.load none (.tmp 90)),(some (83,true)),0⟩,⟨23,(some 92),(.call (.val (.fn (Fn.func 74) [] [])) [(.tmp 85),(.tmp 88),(.tmp 91)]),(some (83,true)),0⟩,⟨24,(some 93),(.not (.tmp 92)),(some (83,true)),0⟩,⟨25,(some 94),(.pick (.tmp 83) (.tmp 93) (.val (.bool false))),none,0⟩]) (.cond (.tmp 94) (.seq (.ops [⟨0,(some 95),(.mov (.tmp 5)),none,0⟩,⟨1,(some 12),(.mov (.tmp 95)),none,0⟩]) .ret) .skip)) (.seq (.ops [⟨0,(some 96),(.load (some 4) (.tmp 6)),none,0⟩,⟨1,(some 97),(.mov (.tmp 1)),none,0⟩,⟨2,(some 98),(.mov (.tmp 2)),none,0⟩,⟨3,(some 99),(.bin .add (.tmp 98) (.val (.int .i64 1))),none,0⟩,⟨4,(some 100),(.mov (.tmp 3)),none,0⟩,⟨5,(some 101),(.load (some 2) (.tmp 10)),none,0⟩,⟨6,(some 102),(.mov (.tmp 5)),none,0⟩,⟨7,(some 103),(.call (.val (.fn (Fn.func 100) [] [])) [(.tmp 96),(.tmp 97),(.tmp 99),(.tmp 100),(.tmp 101),(.tmp 102)]),none,0⟩,⟨8,(some 12),(.mov (.tmp 103)),none,0⟩]) .ret))))))⟩
end Ev
end Go.Proofs.YtimgnlellflciaaGreat

/- The plain law of ClampAll. -/
namespace Go.Proofs.YtimgnlellflciaaGreat
open Go
namespace Clm
def hasC (c:Cl)(i:Nat):Sp:=ofAll c i fun _=>leftW c
theorem zeb {c:Cl}(hc:Fine c){counts:Nat}{k:Int}(h:k∈packs c counts):0≤k∧k≤5∧c.pack.lo≤k∧k≤c.pack.hi∧∀ i,i<c.piles.length→ways c i k counts≠[]:=by
  unfold packs at h
  rw[List.mem_filter,mem_span] at h
  have:=hc.pack
  simp only[Sp.has] at h
  refine ⟨by omega,by omega,by omega,by omega,fun i hi=>?_⟩
  have h2:=List.all_eq_true.1 h.2 i (by simpa using hi)
  simpa using h2
theorem zdv {c:Cl}{s:Nat}(h:can c s=true):packs c s≠[]:=by
  unfold can at h
  intro e
  rw[e] at h;cases h
theorem zxc:∀ (l:List Bf) (s:Sp),s.lo≤s.hi→(∀ e∈l,e.fine)→0≤s.lo→(ends l s).some=true→(ends l s).hi≤s.hi
  |[],s,_,_,_,_=>Int.le_refl _
  |e::l,s,hs,hf,h0,hso=>by
    simp only[ends,List.foldl_cons] at hso ⊢
    have he:=hf e (by simp)
    by_cases hc:(e.after s).lo≤(e.after s).hi
    · have ih:=zxc l (e.after s) hc (fun e h=>hf e (by simp[h])) (zff e s h0) hso
      simp only[ends] at ih
      have:(e.after s).hi≤s.hi:=by
        cases e with
        |nil=>exact Int.le_refl _
        |sale t=>
          simp only[Bf.fine] at he
          unfold Bf.after at hc ⊢
          simp only at hc ⊢
          split
          · rename_i hh;rw[if_pos hh] at hc;simp only[Sp.no] at hc;omega
          · simp only;omega
        |count t=>
          unfold Bf.after Sp.both at hc ⊢
          simp only at hc ⊢
          split
          · rename_i hh;rw[if_pos hh] at hc;simp only[Sp.no] at hc;omega
          · simp only;omega
      omega
    · exfalso
      have hn:∀ (l:List Bf) (t:Sp),(∀ e∈l,e.fine)→0≤t.lo→t.hi<t.lo→(ends l t).some=false:=by
        intro l
        induction l with
        |nil=>intro t _ _ h;show decide (t.lo≤t.hi)=false;exact decide_eq_false (by omega)
        |cons e l ih=>
          intro t hf h0 h
          simp only[ends,List.foldl_cons]
          refine ih (e.after t) (fun e h=>hf e (by simp[h])) (zff e t h0) ?_
          cases e with
          |nil=>exact h
          |sale u=>
            unfold Bf.after
            simp only
            rw[if_pos (.inl (by unfold Sp.some;simp;omega))]
            decide
          |count u=>
            unfold Bf.after Sp.both
            simp only
            split
            · decide
            · rename_i hh;simp only;omega
      have:=hn l (e.after s) (fun e h=>hf e (by simp[h])) (zff e s h0) (by omega)
      simp only[ends] at this
      rw[this] at hso;cases hso
end Clm
end Go.Proofs.YtimgnlellflciaaGreat

/- The plain law of ClampClash. -/
namespace Go.Proofs.YtimgnlellflciaaGreat
open Go
namespace Clm
def keepN {α:Type}(p:Nat→α→Bool)(l:List α)(i:Nat):List α:=((l.take i).zipIdx.filter fun q=>p q.2 q.1).map (·.1)
def isIn (s:Nat)(i:Nat)(v:Evt):Bool:=decide (v.kind≠1) || s.testBit i
def only (c:Cl)(s:Nat):Cl:={ c with events:=keepN (isIn s) c.events c.events.length }
end Clm
end Go.Proofs.YtimgnlellflciaaGreat

/- The plain law of ClampEnds: what a clamp has, and a count more. -/
namespace Go.Proofs.YtimgnlellflciaaGreat
open Go
namespace Clm
open Ev.K (builtG soldG)
theorem left_way {c:Cl}(hc:Fine c){i:Nat}(hi:i<c.piles.length){k:Int}(h0:0≤k)(h5:k≤5){w:Way}(hw:w∈ways c i k (every c)):0≤(leftW c w).lo∧(leftW c w).lo≤(leftW c w).hi∧(leftW c w).hi≤w.size.sods k∧0≤w.size.sods k∧w.size.sods k≤5000:=by
  obtain ⟨h1,h2,y,h3⟩:=(mem_ways hc hi h0 _ w).1 hw
  obtain ⟨s0,s1⟩:=znq hc hi h0 h5 h1
  have hf:=zcy hc i (every c)
  have e2:leftW c w=ends (befell c i (every c)) ⟨w.size.sods k,w.size.sods k⟩:=by
    rw[← zof];obtain ⟨a,b⟩:=w;simp only at h2;subst h2;rfl
  have hh:=(zfx _ _ y hf s0).2 h3
  have hs:=(zhs _).2 ⟨y,hh⟩
  have h4:=zxc (befell c i (every c)) ⟨w.size.sods k,w.size.sods k⟩ (Int.le_refl _) hf s0 hs
  have h5:=zxb (befell c i (every c)) ⟨w.size.sods k,w.size.sods k⟩ s0
  rw[zfr] at hs
  rw[e2]
  exact ⟨h5,hs,h4,s0,s1⟩
theorem zql {c:Cl}(hc:Fine c)(hcan:can c (every c)=true){i:Nat}(hi:i<c.piles.length):Hull (hasC c i) fun y=>∃ k∈packs c (every c),∃ n,Poss c i k (every c) n y:=
  zcf (fun k=>spanOf c i k (leftW c)) (fun k y=>∃ n,Poss c i k (every c) n y) _ (zdv hcan) fun k hk=>by
    obtain ⟨h0,_,_,_,hw⟩:=zeb hc hk
    exact zfv hc hi h0 (hw i hi)
theorem zmn {c:Cl}(hc:Fine c)(s:Nat)(k:Int):k∈packs c s↔c.pack.has k∧∀ i,i<c.piles.length→∃ n y,Poss c i k s n y:=by
  have hp:=hc.pack
  constructor
  · intro hk
    obtain ⟨h0,_,h1,h2,h3⟩:=zeb hc hk
    exact ⟨⟨h1,h2⟩,fun i hi=>(zgd hc hi h0 s).1 (h3 i hi)⟩
  · rintro ⟨hk,h⟩
    simp only[Sp.has] at hk
    unfold packs
    rw[List.mem_filter,mem_span]
    refine ⟨hk,List.all_eq_true.2 fun i hi=>?_⟩
    have hi':i<c.piles.length:=by simpa using hi
    simpa using (zgd hc hi' (by omega) s).2 (h i hi')
end Clm
end Go.Proofs.YtimgnlellflciaaGreat

/- What is returned, as hulls of what truths have. -/
namespace Go.Proofs.YtimgnlellflciaaGreat
open Go
namespace Clm
open Ev.K (builtG soldG)
theorem Hull.le_of {s t:Sp}{P Q:Int→Prop}(h:Hull s P)(g:Hull t Q)(hi:∀ x,P x→Q x):t.lo≤s.lo∧s.hi≤t.hi:=by
  have h1:=g.all _ (hi _ h.lo);have h2:=g.all _ (hi _ h.hi)
  simp only[Sp.has] at h1 h2;omega
theorem zkg {c:Cl}(hc:Fine c)(hcan:can c (every c)=true){i:Nat}(hi:i<c.piles.length):Hull (ofAll c i builtG) fun x=>∃ k∈packs c (every c),∃ y,Poss c i k (every c) x y:=
  zcf (fun k=>spanOf c i k (builtG k)) (fun k x=>∃ y,Poss c i k (every c) x y) _ (zdv hcan) fun k hk=>by
    obtain ⟨h0,_,_,_,hw⟩:=zeb hc hk
    refine (zcf (builtG k) (fun w x=>x=w.size.sods k) _ (hw i hi) fun w _=>?_).congr fun x=>?_
    · exact ⟨rfl,rfl,fun x e=>by subst e;exact ⟨Int.le_refl _,Int.le_refl _⟩⟩
    · constructor
      · rintro ⟨w,hw,rfl⟩
        obtain ⟨h1,_,y,h3⟩:=(mem_ways hc hi h0 _ w).1 hw
        exact ⟨y,w.size,h1,rfl,h3⟩
      · rintro ⟨y,s,h1,rfl,h3⟩
        exact ⟨⟨s,logOf c i k (every c) s⟩,(mem_ways hc hi h0 _ _).2 ⟨h1,rfl,y,h3⟩,rfl⟩
theorem zxu {c:Cl}(hc:Fine c){i:Nat}(hi:i<c.piles.length){k:Int}(h0:0≤k){w:Way}(hw:w∈ways c i k (every c)):Hull (leftW c w) fun y=>Goes (befell c i (every c)) (w.size.sods k) y:=by
  obtain ⟨h1,h2,h3⟩:=(mem_ways hc hi h0 _ w).1 hw
  have hf:=zcy hc i (every c)
  have hn:=zht hc hi h0 h1
  have e:leftW c w=ends (befell c i (every c)) ⟨w.size.sods k,w.size.sods k⟩:=by
    rw[← zof];obtain ⟨a,b⟩:=w;simp only at h2;subst h2;rfl
  rw[e]
  refine (zmt ?_).congr fun y=>zfx _ _ y hf hn
  obtain ⟨y,hy⟩:=h3
  exact (zhs _).2 ⟨y,(zfx _ _ y hf hn).2 hy⟩
theorem zlu {c:Cl}(hc:Fine c)(hcan:can c (every c)=true){i:Nat}(hi:i<c.piles.length):Hull (ofAll c i (soldG c)) fun x=>∃ k∈packs c (every c),∃ n y,Poss c i k (every c) n y∧x=n - y:=
  zcf (fun k=>spanOf c i k (soldG c k)) (fun k x=>∃ n y,Poss c i k (every c) n y∧x=n - y) _ (zdv hcan) fun k hk=>by
    obtain ⟨h0,_,_,_,hw⟩:=zeb hc hk
    refine (zcf (soldG c k) (fun w x=>∃ y,Goes (befell c i (every c)) (w.size.sods k) y∧x=w.size.sods k - y) _ (hw i hi) fun w hw=>?_).congr fun x=>?_
    · have hh:=zxu hc hi h0 hw
      exact ⟨⟨_, hh.hi, rfl⟩, ⟨_, hh.lo, rfl⟩, fun x ⟨y, hy, e⟩ => by
        have:=hh.all y hy;simp only[Sp.has,soldG] at this ⊢;omega⟩
    · constructor
      · rintro ⟨w,hw,y,h3,rfl⟩
        obtain ⟨h1,_,_⟩:=(mem_ways hc hi h0 _ w).1 hw
        exact ⟨_,y,⟨w.size,h1,rfl,h3⟩,rfl⟩
      · rintro ⟨n,y,⟨s,h1,rfl,h3⟩,rfl⟩
        exact ⟨⟨s,logOf c i k (every c) s⟩,(mem_ways hc hi h0 _ _).2 ⟨h1,rfl,y,h3⟩,y,h3,rfl⟩
def sumF (set:Nat)(f:Nat→Int):Nat→Int
  |0=>0
  |n+1=>if bit set n then sumF set f n+f n else sumF set f n
theorem zgh (set:Nat){f g:Nat→Int}:∀ n,(∀ j,j<n→f j=g j)→sumF set f n=sumF set g n
  |0,_=>rfl
  |n+1,h=>by
    unfold sumF
    rw[zgh set n fun j hj=>h j (by omega),h n (by omega)]
theorem zpp {c:Cl}(hc:Fine c){k:Int}(hk:k∈packs c (every c))(set:Nat):∀ m,m≤c.piles.length→Hull (sumTo c set k m) fun x=>∃ f:Nat→Int,(∀ j,j<m→∃ n,Poss c j k (every c) n (f j))∧x=sumF set f m
  |0,_=>⟨⟨fun _=>0,fun j h=>absurd h (by omega),rfl⟩,⟨fun _=>0,fun j h=>absurd h (by omega),rfl⟩,fun x ⟨f,_,e⟩=>by subst e;exact ⟨Int.le_refl _,Int.le_refl _⟩⟩
  |m+1,h=>by
    have ih:=zpp hc hk set m (by omega)
    obtain ⟨h0,_,_,_,hw⟩:=zeb hc hk
    have hl:=zfv hc (i:=m) (by omega) h0 (hw m (by omega))
    rw[sumTo_succ]
    by_cases hb:bit set m=true
    · rw[if_pos hb]
      refine (ih.add hl).congr fun x=>?_
      constructor
      · rintro ⟨y,z,⟨f,h1,rfl⟩,h2,rfl⟩
        refine ⟨fun j=>if j=m then z else f j,fun j hj=>?_,?_⟩
        · by_cases hjm:j=m
          · subst hjm;simpa using h2
          · simp only[if_neg hjm];exact h1 j (by omega)
        · have e:=zgh set (f:=fun j=>if j=m then z else f j) (g:=f) m fun j hj=>if_neg (by omega)
          show _=if bit set m then sumF set (fun j=>if j=m then z else f j) m+(if m=m then z else f m) else _
          rw[if_pos hb,if_pos rfl,e]
      · rintro ⟨f,h1,rfl⟩
        refine ⟨_,_,⟨f,fun j hj=>h1 j (by omega),rfl⟩,h1 m (by omega),?_⟩
        rw[sumF,if_pos hb]
    · rw[if_neg hb]
      refine ih.congr fun x=>?_
      constructor
      · rintro ⟨f,h1,rfl⟩
        obtain ⟨n,z,hz⟩:=(zgd hc (i:=m) (by omega) h0 _).1 (hw m (by omega))
        refine ⟨fun j=>if j=m then z else f j,fun j hj=>?_,?_⟩
        · by_cases hjm:j=m
          · subst hjm;exact ⟨n,by simpa using hz⟩
          · simp only[if_neg hjm];exact h1 j (by omega)
        · have e:=zgh set (f:=fun j=>if j=m then z else f j) (g:=f) m fun j hj=>if_neg (by omega)
          show _=if bit set m then _ else sumF set (fun j=>if j=m then z else f j) m
          rw[if_neg hb,e]
      · rintro ⟨f,h1,rfl⟩
        refine ⟨f,fun j hj=>h1 j (by omega),?_⟩
        rw[sumF,if_neg hb]
theorem zpn {c:Cl}(hc:Fine c)(hcan:can c (every c)=true)(set:Nat):Hull (together c set) fun x=>∃ k∈packs c (every c),∃ f:Nat→Int,(∀ j,j<c.piles.length→∃ n,Poss c j k (every c) n (f j))∧x=sumF set f c.piles.length:=by
  rw[together_eq]
  exact zcf (fun k=>sumTo c set k c.piles.length) _ _ (zdv hcan) fun k hk=>zpp hc hk set _ (Nat.le_refl _)
structure Less (c d:Cl):Prop where
  many:c.piles.length=d.piles.length
  pack:c.pack=d.pack
  poss:∀ i,i<c.piles.length→∀ k n y,Poss c i k (every c) n y→Poss d i k (every d) n y
theorem Less.packs {c d:Cl}(h:Less c d)(hc:Fine c)(hd:Fine d){k:Int}(hk:k∈packs c (every c)):k∈Clm.packs d (every d):=by
  obtain ⟨h1,h2⟩:=(zmn hc _ k).1 hk
  refine (zmn hd _ k).2 ⟨by rw[← h.pack];exact h1,fun i hi=>?_⟩
  rw[← h.many] at hi
  obtain ⟨n,y,h3⟩:=h2 i hi
  exact ⟨n,y,h.poss i hi k n y h3⟩
theorem Less.can {c d:Cl}(h:Less c d)(hc:Fine c)(hd:Fine d)(hcan:can c (every c)=true):Clm.can d (every d)=true:=by
  obtain ⟨k,hk⟩:=List.exists_mem_of_ne_nil _ (zdv hcan)
  have:=h.packs hc hd hk
  unfold Clm.can
  cases h':Clm.packs d (every d) with
  |nil=>rw[h'] at this;cases this
  |cons a l=>rfl
def In (a b:Sp):Prop:=b.lo≤a.lo∧a.hi≤b.hi
theorem Less.all {c d:Cl}(h:Less c d)(hc:Fine c)(hd:Fine d)(hcan:Clm.can c (every c)=true):(∀ i,i<c.piles.length→In (ofAll c i builtG) (ofAll d i builtG)∧In (hasC c i) (hasC d i)∧In (ofAll c i (soldG c)) (ofAll d i (soldG d)))∧∀ set,In (together c set) (together d set):=by
  have hcan':=h.can hc hd hcan
  constructor
  · intro i hi
    have hi':i<d.piles.length:=by rw[← h.many];exact hi
    refine ⟨(zkg hc hcan hi).le_of (zkg hd hcan' hi') ?_,(zql hc hcan hi).le_of (zql hd hcan' hi') ?_,(zlu hc hcan hi).le_of (zlu hd hcan' hi') ?_⟩
    · rintro x ⟨k,hk,y,hp⟩;exact ⟨k,h.packs hc hd hk,y,h.poss i hi k x y hp⟩
    · rintro x ⟨k,hk,n,hp⟩;exact ⟨k,h.packs hc hd hk,n,h.poss i hi k n x hp⟩
    · rintro x ⟨k,hk,n,y,hp,e⟩;exact ⟨k,h.packs hc hd hk,n,y,h.poss i hi k n y hp,e⟩
  · intro set
    refine (zpn hc hcan set).le_of (zpn hd hcan' set) ?_
    rintro x ⟨k,hk,f,hf,rfl⟩
    refine ⟨k,h.packs hc hd hk,f,fun j hj=>?_,by rw[h.many]⟩
    rw[← h.many] at hj
    obtain ⟨n,hn⟩:=hf j hj
    exact ⟨n,h.poss j hj k n _ hn⟩
end Clm
end Go.Proofs.YtimgnlellflciaaGreat

/- What the reference computes of clamps, and that it is what the program does. -/
namespace Go.Proofs.YtimgnlellflciaaGreat
open Go
namespace Clm
def aft (i:Int)(set:Nat):List Evt→Nat→Int→Int→List (Int × Int)
  |[],_,b,y=>[(b,y)]
  |v::l,n,b,y=>
    if v.clamp=i∧v.kind=0 then (List.range (min v.sods.hi y+1 - v.sods.lo).toNat).flatMap fun (j:Nat)=>aft i set l (n+1) b (y - (v.sods.lo+j))
    else if v.clamp=i∧v.kind=1∧bit set n=true∧¬ (v.sods.lo≤y∧y≤v.sods.hi) then []
    else aft i set l (n+1) b y
def bfs (i:Int)(set:Nat)(l:List Evt)(n:Nat):List Bf:=
  (l.zipIdx n).map fun p=>if p.1.clamp≠i then .nil else if p.1.kind=0 then .sale p.1.sods else if bit set p.2 then .count p.1.sods else .nil
theorem zoe (i:Int)(set:Nat)(p:Int × Int):∀ (l:List Evt) (n:Nat) (b y:Int),(∀ v∈l,v.kind=0∨v.kind=1)→(p∈aft i set l n b y↔p.1=b∧Goes (bfs i set l n) y p.2)
  |[],n,b,y,_=>by
    obtain ⟨p1,p2⟩:=p
    simp[aft,bfs,Goes]
  |v::l,n,b,y,h=>by
    have ih:=fun b y=>zoe i set p l (n+1) b y (fun u hu=>h u (by simp[hu]))
    have hk:=h v (by simp)
    have hb:bfs i set (v::l) n=(if v.clamp≠i then .nil else if v.kind=0 then .sale v.sods else if bit set n then .count v.sods else .nil)::bfs i set l (n+1):=by
      simp[bfs,List.zipIdx_cons]
    rw[hb,aft]
    by_cases h1:v.clamp=i
    · rw[if_neg (show ¬ v.clamp≠i from fun h=>h h1)]
      rcases hk with h2|h2
      · rw[if_pos ⟨h1,h2⟩,if_pos h2]
        simp only[List.mem_flatMap,List.mem_range,ih,Goes]
        constructor
        · rintro ⟨j,hj,rfl,hg⟩
          exact ⟨rfl,v.sods.lo+j,by omega,by omega,by omega,hg⟩
        · rintro ⟨rfl,k,k1,k2,k3,hg⟩
          exact ⟨(k - v.sods.lo).toNat,by omega,rfl,by rw[show y - (v.sods.lo+((k - v.sods.lo).toNat:Int))=y - k by omega];exact hg⟩
      · have h0:¬ v.kind=0:=by omega
        rw[if_neg (fun h=>h0 h.2),if_neg h0]
        by_cases hbt:bit set n=true
        · rw[if_pos hbt]
          by_cases hin:v.sods.lo≤y∧y≤v.sods.hi
          · rw[if_neg (fun h=>h.2.2.2 hin),ih]
            simp only[Goes]
            exact ⟨fun h=>⟨h.1,hin.1,hin.2,h.2⟩,fun h=>⟨h.1,h.2.2.2⟩⟩
          · rw[if_pos ⟨h1,h2,hbt,hin⟩]
            simp only[Goes,List.not_mem_nil,false_iff]
            exact fun h=>hin ⟨h.2.1,h.2.2.1⟩
        · rw[if_neg hbt,if_neg (fun h=>hbt h.2.2.1),ih]
          simp only[Goes]
    · rw[if_pos h1,if_neg (fun h=>h1 h.1),if_neg (fun h=>h1 h.1),ih]
      simp only[Goes]
def tracksR (c:Cl)(i:Nat)(k:Int)(set:Nat):List (Int × Int):=(sizes (c.piles.getD i default)).flatMap fun s=>aft i set c.events 0 (s.sods k) (s.sods k)
theorem zdp {c:Cl}(hc:Fine c)(i:Nat)(k:Int)(set:Nat)(n y:Int):(n,y)∈tracksR c i k set↔Poss c i k set n y:=by
  simp only[tracksR,List.mem_flatMap,Poss]
  have hk:∀ v∈c.events,v.kind=0∨v.kind=1:=fun v hv=>(hc.event v hv).2.1
  constructor
  · rintro ⟨s,hs,h⟩
    obtain ⟨h1,h2⟩:=(zoe i set (n,y) c.events 0 _ _ hk).1 h
    have h1:n=s.sods k:=h1
    subst h1
    exact ⟨s,hs,rfl,h2⟩
  · rintro ⟨s,hs,h1,h2⟩
    subst h1
    exact ⟨s,hs,(zoe i set _ c.events 0 _ _ hk).2 ⟨rfl,h2⟩⟩
def tracksL (c:Cl)(k:Int)(set:Nat):List (List (Int × Int)):=(List.range c.piles.length).map fun i=>tracksR c i k set
def casesR (c:Cl)(set:Nat):List (Int × List (List (Int × Int))):=(spanL c.pack).filterMap fun k=>if (tracksL c k set).all (fun l=>!l.isEmpty) then some (k,tracksL c k set) else none
theorem zde {α:Type}(l:List α):(!l.isEmpty)=true↔∃ x,x∈l:=by
  cases l with
  |nil=>simp
  |cons a l=>simp only[List.isEmpty_cons,Bool.not_false,true_iff];exact ⟨a,by simp⟩
theorem zje {c:Cl}(hc:Fine c)(set:Nat):casesR c set=(packs c set).map fun k=>(k,tracksL c k set):=by
  unfold casesR packs
  have key:∀ k∈spanL c.pack,(tracksL c k set).all (fun l=>!l.isEmpty)=(List.range c.piles.length).all fun i=>!(ways c i k set).isEmpty:=by
    intro k hk
    rw[mem_span] at hk
    have hp:=hc.pack
    simp only[Sp.has] at hk
    rw[Bool.eq_iff_iff,List.all_eq_true,List.all_eq_true]
    simp only[tracksL,List.mem_map,List.mem_range]
    constructor
    · intro h i hi
      obtain ⟨⟨n,y⟩,hx⟩:=(zde _).1 (h _ ⟨i,hi,rfl⟩)
      obtain ⟨w,hw⟩:=List.exists_mem_of_ne_nil _ ((zgd hc hi (by omega) set).2 ⟨n,y,(zdp hc i k set n y).1 hx⟩)
      exact (zde _).2 ⟨w,hw⟩
    · rintro h l ⟨i,hi,rfl⟩
      obtain ⟨w,hw⟩:=(zde _).1 (h i hi)
      obtain ⟨n,y,hp⟩:=(zgd hc hi (by omega) set).1 (List.ne_nil_of_mem hw)
      exact (zde _).2 ⟨_,(zdp hc i k set n y).2 hp⟩
  generalize spanL c.pack=L at key
  induction L with
  |nil=>rfl
  |cons k L ih=>
    have ih':=ih fun k hk=>key k (by simp[hk])
    have hk:=key k (by simp)
    simp only[List.filterMap_cons,List.filter_cons,hk]
    by_cases h:((List.range c.piles.length).all fun i=>!(ways c i k set).isEmpty)=true
    · rw[if_pos h,if_pos h,List.map_cons,ih']
    · rw[if_neg h,if_neg h,ih']
theorem cases_can {c:Cl}(hc:Fine c)(set:Nat):can c set=!(casesR c set).isEmpty:=by
  rw[zje hc];unfold can;cases packs c set<;>rfl
theorem zka {α β:Type}{f g:α→List β}:∀ {l:List α},(∀ a∈l,f a=g a)→l.flatMap f=l.flatMap g
  |[],_=>rfl
  |a::l,h=>by rw[List.flatMap_cons,List.flatMap_cons,h a (by simp),zka fun b hb=>h b (by simp[hb])]
def hullR (l:List Int):Sp:=l.foldl (fun s x=>s.either ⟨x,x⟩) ⟨l.headD 0,l.headD 0⟩
theorem zzm {l:List Int}(h:l≠[]):hullR l=hull (l.map fun n=>⟨n,n⟩):=by
  cases l with
  |nil=>exact absurd rfl h
  |cons a l=>
    unfold hullR hull
    simp only[List.map_cons,List.foldl_cons,List.headD_cons,List.foldl_map]
    have:(⟨a,a⟩:Sp).either ⟨a,a⟩=⟨a,a⟩:=by simp[Sp.either]
    rw[this]
theorem zgt {l:List Int}(h:l≠[]):Hull (hullR l) fun x=>x∈l:=by rw[zzm h];exact zwk l h
def leftR (T:List (Int × Int)):Sp:=hullR (T.map (·.2))
theorem zwe {c:Cl}(hc:Fine c){i:Nat}(hi:i<c.piles.length){k:Int}(hk:0≤k)(hne:ways c i k (every c)≠[]):leftR (tracksR c i k (every c))=spanOf c i k (leftW c):=by
  obtain ⟨n,y,hp⟩:=(zgd hc hi hk (every c)).1 hne
  have hm:=(zdp hc i k (every c) n y).2 hp
  refine ((zgt (by intro e;rw[List.map_eq_nil_iff] at e;rw[e] at hm;cases hm)).congr fun x=>?_).uniq (zfv hc hi hk hne)
  simp only[List.mem_map]
  constructor
  · rintro ⟨⟨n,y⟩,h,rfl⟩;exact ⟨n,(zdp hc i k _ n y).1 h⟩
  · rintro ⟨n,h⟩;exact ⟨(n,x),(zdp hc i k _ n x).2 h,rfl⟩
def builtL (c:Cl)(i:Nat):List Int:=(casesR c (every c)).flatMap fun q=>(q.2.getD i []).map (·.1)
def soldL (c:Cl)(i:Nat):List Int:=(casesR c (every c)).flatMap fun q=>(q.2.getD i []).map fun x=>x.1 - x.2
def hasL (c:Cl)(i:Nat):List Int:=(casesR c (every c)).flatMap fun q=>[(leftR (q.2.getD i [])).lo,(leftR (q.2.getD i [])).hi]
theorem zej {c:Cl}{i:Nat}(hi:i<c.piles.length)(k:Int)(set:Nat):(tracksL c k set).getD i []=tracksR c i k set:=by
  simp[tracksL,List.getD_eq_getElem?_getD,List.getElem?_map,List.getElem?_range hi]
theorem zwl {α:Type}(f:α→Sp)(l:List α)(hne:l≠[])(h:∀ a∈l,(f a).lo≤(f a).hi):hullR (l.flatMap fun a=>[(f a).lo,(f a).hi])=hull (l.map f):=by
  have hh:=zcf f (fun a x=>x=(f a).lo∨x=(f a).hi) l hne fun a ha=>⟨.inl rfl,.inr rfl,fun x hx=>by have:=h a ha;simp only[Sp.has];omega⟩
  refine ((zgt ?_).congr fun x=>?_).uniq hh
  · obtain ⟨a,ha⟩:=List.exists_mem_of_ne_nil _ hne
    exact List.ne_nil_of_mem (a:=(f a).lo) (List.mem_flatMap.2 ⟨a,ha,by simp⟩)
  · simp[List.mem_flatMap]
def sumR (set:Nat)(L:List (List (Int × Int))):Nat→Sp
  |0=>⟨0,0⟩
  |n+1=>if bit set n then ⟨(sumR set L n).lo+(leftR (L.getD n [])).lo,(sumR set L n).hi+(leftR (L.getD n [])).hi⟩ else sumR set L n
def togL (c:Cl)(set:Nat):List Int:=(casesR c (every c)).flatMap fun q=>[(sumR set q.2 c.piles.length).lo,(sumR set q.2 c.piles.length).hi]
theorem zua {c:Cl}(hc:Fine c){k:Int}(hk:k∈packs c (every c))(set:Nat):∀ n,n≤c.piles.length→sumR set (tracksL c k (every c)) n=sumTo c set k n
  |0,_=>rfl
  |n+1,hn=>by
    obtain ⟨h0,_,_,_,hw⟩:=zeb hc hk
    rw[sumR,sumTo_succ,zua hc hk set n (by omega),zej (by omega),zwe hc (by omega) h0 (hw n (by omega))]
theorem zpq {c:Cl}(hc:Fine c){k:Int}(hk:k∈packs c (every c))(set:Nat):∀ n,n≤c.piles.length→(sumTo c set k n).lo≤(sumTo c set k n).hi
  |0,_=>Int.le_refl _
  |n+1,hn=>by
    obtain ⟨h0,_,_,_,hw⟩:=zeb hc hk
    have ih:=zpq hc hk set n (by omega)
    have hl:=(zfv hc (by omega) h0 (hw n (by omega))).le
    rw[sumTo_succ]
    split
    · simp only;omega
    · exact ih
theorem tog_ref {c:Cl}(hc:Fine c)(hcan:can c (every c)=true)(set:Nat):hullR (togL c set)=together c set:=by
  have e:togL c set=(packs c (every c)).flatMap fun k=>[(sumTo c set k c.piles.length).lo,(sumTo c set k c.piles.length).hi]:=by
    unfold togL
    rw[zje hc,List.flatMap_map]
    refine zka fun k hk=>?_
    simp only[zua hc hk set _ (Nat.le_refl _)]
  rw[e,together_eq]
  exact zwl _ _ (zdv hcan) fun k hk=>zpq hc hk set _ (Nat.le_refl _)
end Clm
end Go.Proofs.YtimgnlellflciaaGreat

/- The reference of chapter 09, gone through: powers, sets, what can be left. -/
namespace Go.Proofs.YtimgnlellflciaaGreat
open Go
namespace Ev
namespace K
attribute [local simp] ev1 wantG spineK spine float xnew xval xeff zaa zar zbb zau zav addFl cellsOf pickC alive slLen slFt binI maxA maxK minA minK aeqK aeqS AV.cells spA zas fillA setAt bitsI nat_nn zbe AV.plain apart
set_option maxRecDepth 100000
set_option maxHeartbeats 4000000
def PowC (call:CallF):Prop:=∀ (H:List AB) (n:Nat),n≤60→call (.fn (.func 56) [] []) [.int .i64 n] H=some (.ret (.int .i64 ((2 ^ n:Nat):Int)),H,[])
theorem zuw (C:Cfg)(hC:C.calm=true)(call:CallF)(H:List AB)(n:Nat)(hn:n≤60):
    Does (ev C call H.length none af56.body { tm:=tmA af56.ntmps (zipI 0 [.int .i64 n] []),df:=[],hp:=H,tc:=[] })
      (Ends C H.length af56.res fun v _ tc=>v=.int .i64 ((2 ^ n:Nat):Int)∧tc=[]):=by
  unfold af56
  simp only[zipI]
  (repeat (first|(with_reducible apply zad;(focus ((conv=>lhs;simp[*,Nat.testBit_eq_decide_div_mod_eq])<;>exact rfl));simp only[addFl])|((with_reducible first|apply zai|apply zak|apply zah|apply zaf|apply zac|apply zaj|apply zag|apply zam|(apply zae;· simp[*,zaa])|(apply zab;· simp[*,zaa]));try simp only[Then,Ops])|simp only[Nat.reduceEqDiff,reduceIte,OutB,Then]))
  with_reducible refine zaz hC n (by unfold fuelL;omega) (fun j st=>st={ tm:=tmA 13 [(4,.int .i64 j),(3,.int .i64 ((2 ^ j:Nat):Int)),(0,.int .i64 n)],df:=[],hp:=H,tc:=[] }) ?_ ?_ ?_
  · (refine st_is ?_ ?_ ?_ ?_;(focus (simp[zan,zaq]));(focus rfl);(focus (first|rfl|(simp;done)|(simp[*];done)|(simp;rfl)|(simp[*];omega)|(simp;omega)));(focus (first|rfl|simp)))
  · rintro j st hj rfl
    have hw:IntKind.i64.wrap (↑j+1)=↑j+1:=zat (by omega) (by omega)
    have hp:(2 ^ j:Nat)≤2 ^ 60:=Nat.pow_le_pow_right (by omega) (by omega)
    have hw2:IntKind.i64.wrap (2 * ((2 ^ j:Nat):Int))=((2 ^ (j+1):Nat):Int):=by
      have h60:(2:Nat) ^ 60=1152921504606846976:=rfl
      rw[Nat.pow_succ]
      rw[h60] at hp
      clear h60 hw
      generalize (2:Nat) ^ j=m at *
      rw[show ((m * 2:Nat):Int)=2 * (m:Int) by omega];exact zat (by omega) (by omega)
    have e5:(j:Int)<n:=by omega
    generalize ((2 ^ j:Nat):Int)=p at *
    generalize ((2 ^ (j+1):Nat):Int)=p' at *
    clear hp
    (repeat (first|(with_reducible apply zad;(focus ((conv=>lhs;simp[*,Nat.testBit_eq_decide_div_mod_eq])<;>exact rfl));simp only[addFl])|((with_reducible first|apply zai|apply zak|apply zah|apply zaf|apply zac|apply zaj|apply zag|apply zam|(apply zae;· simp[*,zaa])|(apply zab;· simp[*,zaa]));try simp only[Then,Ops,OutB])|simp only[Nat.reduceEqDiff,reduceIte,OutB,Then]))
    (refine st_is ?_ ?_ ?_ ?_;(focus (simp[zan,zaq]));(focus rfl);(focus (first|rfl|(simp;done)|(simp[*];done)|(simp;rfl)|(simp[*];omega)|(simp;omega)));(focus (first|rfl|simp)))
  · rintro st rfl
    generalize ((2 ^ n:Nat):Int)=p at *
    (repeat (first|(with_reducible apply zad;(focus ((conv=>lhs;simp[*,Nat.testBit_eq_decide_div_mod_eq])<;>exact rfl));simp only[addFl])|((with_reducible first|apply zai|apply zak|apply zah|apply zaf|apply zac|apply zaj|apply zag|apply zam|(apply zae;· simp[*,zaa])|(apply zab;· simp[*,zaa]));try simp only[Then,Ops,OutB,reduceIte])|simp only[Nat.reduceEqDiff,reduceIte,OutB,Then]))
    exact zao (v:=.int .i64 p) (.inl rfl) rfl (by simp) (by simp only[resL,resOf,zal];simp[*,resV]) ⟨rfl,rfl⟩
def SetC (call:CallF):Prop:=∀ (H:List AB) (s n:Nat),s≤1000000→n≤60→call (.fn (.func 72) [] []) [.int .i64 s,.int .i64 n] H=some (.ret (.bool (Clm.bit s n)),H,[])
theorem zyk (C:Cfg)(call:CallF)(hP:PowC call)(H:List AB)(s n:Nat)(hs:s≤1000000)(hn:n≤60):
    Does (ev C call H.length none af72.body { tm:=tmA af72.ntmps (zipI 0 [.int .i64 s,.int .i64 n] []),df:=[],hp:=H,tc:=[] })
      (Ends C H.length af72.res fun v _ tc=>v=.bool (Clm.bit s n)∧tc=[]):=by
  have hp:=fun H=>hP H n hn
  have h0:0<2 ^ n:=Nat.two_pow_pos n
  have n0:¬ (((2 ^ n:Nat):Int)=0):=by omega
  have t1:(s:Int).tdiv ((2 ^ n:Nat):Int)=((s / 2 ^ n:Nat):Int):=by rw[Int.tdiv_eq_ediv_of_nonneg (by omega)];rfl
  have hb:Clm.bit s n=decide (s / 2 ^ n % 2=1):=by unfold Clm.bit;rw[Nat.testBit_eq_decide_div_mod_eq]
  have hle:s / 2 ^ n≤s:=Nat.div_le_self _ _
  have w1:IntKind.i64.wrap ((s / 2 ^ n:Nat):Int)=((s / 2 ^ n:Nat):Int):=by
    clear t1 hb n0 h0 hp
    generalize s / 2 ^ n=q at *
    exact zat (by omega) (by omega)
  have t2:((s / 2 ^ n:Nat):Int).tmod 2=((s / 2 ^ n % 2:Nat):Int):=by
    clear t1 hb n0 h0 hp w1
    generalize s / 2 ^ n=q at *
    rw[Int.tmod_eq_emod_of_nonneg (by omega)];omega
  obtain ⟨m, hm, hm2⟩ : ∃ m : Bool, (((s / 2 ^ n % 2 : Nat) : Int) == 1) = m ∧ decide (s / 2 ^ n % 2 = 1) = m := ⟨_, rfl, by
    rcases Nat.mod_two_eq_zero_or_one (s / 2 ^ n) with h|h<;>rw[h]<;>rfl⟩
  rw[hb,hm2]
  clear hb hm2 hle hP h0
  generalize ((s / 2 ^ n % 2:Nat):Int)=x2 at *
  generalize ((s / 2 ^ n:Nat):Int)=x1 at *
  generalize ((2 ^ n:Nat):Int)=x0 at *
  unfold af72
  simp only[zipI]
  (repeat (first|(with_reducible apply zad;(focus ((conv=>lhs;simp[*,Nat.testBit_eq_decide_div_mod_eq])<;>exact rfl));simp only[addFl])|((with_reducible first|apply zai|apply zak|apply zah|apply zaf|apply zac|apply zaj|apply zag|apply zam|(apply zae;· simp[*,zaa])|(apply zab;· simp[*,zaa]));try simp only[Then,Ops])|simp only[Nat.reduceEqDiff,reduceIte,OutB,Then]))
  exact zao (v:=.bool m) (.inl rfl) rfl (by simp) (by simp only[resL,resOf,zal];simp[*,resV]) ⟨rfl,rfl⟩
end K
end Ev
end Go.Proofs.YtimgnlellflciaaGreat

/- The reference of chapter 09, gone through: what can be left behind events. -/
namespace Go.Proofs.YtimgnlellflciaaGreat
open Go
namespace Clm
theorem aft_len (i:Int)(set:Nat):∀ (l:List Evt) (n:Nat) (b y:Int),(∀ v∈l,v.kind=0→v.sods.hi - v.sods.lo≤3)→(aft i set l n b y).length≤4 ^ l.length
  |[],n,b,y,_=>by simp[aft]
  |v::l,n,b,y,h=>by
    have ih:=fun y=>aft_len i set l (n+1) b y (fun u hu=>h u (by simp[hu]))
    have hp:0<4 ^ l.length:=Nat.pow_pos (by decide)
    rw[aft,List.length_cons,Nat.pow_succ]
    split
    · rename_i hk
      have hd:=h v (by simp) hk.2
      have key:∀ (m:Nat) (f:Nat→List (Int × Int)),(∀ j,(f j).length≤4 ^ l.length)→((List.range m).flatMap f).length≤m * 4 ^ l.length:=by
        intro m f hf
        induction m with
        |zero=>simp
        |succ m im=>
          rw[List.range_succ,List.flatMap_append,List.length_append,Nat.succ_mul]
          have:=hf m
          simp only[List.flatMap_cons,List.flatMap_nil,List.append_nil]
          omega
      refine Nat.le_trans (key _ _ fun j=>ih _) ?_
      rw[Nat.mul_comm]
      exact Nat.mul_le_mul_left _ (by omega)
    · split
      · simp
      · exact Nat.le_trans (ih y) (by omega)
end Clm
namespace Ev
namespace K
attribute [local simp] ev1 wantG spineK spine float xnew xval xeff zaa zar zbb zau zav addFl cellsOf pickC alive slLen slFt binI maxA maxK minA minK aeqK aeqS AV.cells spA zas fillA setAt bitsI nat_nn zbe AV.plain apart
set_option maxRecDepth 100000
set_option maxHeartbeats 4000000
def trCs:List (Int × Int)→List AV
  |[]=>[]
  |p::l=>.int .i64 p.1::.int .i64 p.2::trCs l
theorem zhr:∀ l,(trCs l).length=l.length * 2
  |[]=>rfl
  |p::l=>by simp only[trCs,List.length_cons,zhr l];omega
theorem zpm:∀ l m,trCs (l++m)=trCs l++trCs m
  |[],_=>rfl
  |p::l,m=>by simp[trCs,zpm l m]
theorem zjj:∀ l,(trCs l).all AV.plain=true
  |[]=>rfl
  |p::l=>by simp only[trCs,List.all_cons,zjj l];rfl
inductive Li (P:Nat→Prop) (G:List AB) (k:Nat) (cs:List AV) (n:Nat):AV→Prop
  |none:cs=[]→n=0→Li P G k cs n .nils
  |some (q:Nat):P q→HB G q (.cells cs)→cs.length=n * k→Li P G k cs n (.sl q 0 n k)
theorem Li.mono {P Q:Nat→Prop}{G:List AB}{k:Nat}{cs:List AV}{n:Nat}{v:AV}(h:Li P G k cs n v)(hm:∀ q,q<G.length→P q→Q q):Li Q G k cs n v:=by
  cases h with
  |none h0 h1=>exact .none h0 h1
  |some q h0 h1 h2=>exact .some q (hm q h1.lt h0) h1 h2
theorem Li.keep {P:Nat→Prop}{G G':List AB}{k:Nat}{cs:List AV}{n:Nat}{v:AV}(h:Li P G k cs n v)(hk:∀ q x,P q→HB G q x→HB G' q x):Li P G' k cs n v:=by
  cases h with
  |none h0 h1=>exact .none h0 h1
  |some q h0 h1 h2=>exact .some q h0 (hk q _ h0 h1) h2
structure Adds (P:Nat→Prop) (H G:List AB) (tc:List Nat) (ov:AV) (T:List (Int × Int)) (v:AV) (T':List (Int × Int)):Prop where
  len:H.length≤G.length
  keep:∀ r x,¬ P r→HB H r x→HB G r x
  own:∀ j∈tc,P j
  li:(v=ov∧T'=T∧tc=[]∧∀ r x,HB H r x→HB G r x)∨Li (fun q=>H.length≤q) G 2 (trCs T') T'.length v
def AftC (call:CallF)(c:Clm.Cl)(i set n:Nat):Prop:=∀ (H:List AB) (P:Nat→Prop) (b y:Int) (T:List (Int × Int)) (ov:AV),(∀ q,P q→q<H.length)→0≤y→y≤b→b≤5000→Li P H 2 (trCs T) T.length ov→T.length+4 ^ (c.events.length - n)≤bound →
  ∃ v G tc,call (.fn (.func 100) [] []) [.agg (clampCs c),.int .i64 i,.int .i64 n,.int .i64 set,.agg [.int .i64 b,.int .i64 y],ov] H=some (.ret v,G,tc)∧Adds P H G tc ov T v (T++Clm.aft i set (c.events.drop n) n b y)
def AftR (P:Nat→Prop)(H:List AB)(ov:AV)(T T':List (Int × Int))(v:AV)(hp:List AB)(tc:List Nat):Prop:=
  (∀ j∈tc,P j)∧((v=ov∧T'=T∧tc=[])∨Li (fun q=>H.length≤q) hp 2 (trCs T') T'.length v)
theorem zkj {C:Cfg}{n0:Nat}(hC:C.calm=true)(h0:Has C 100 af100){c:Clm.Cl}{i set n:Nat}
    (hf : ∀ (H : List AB) (P : Nat → Prop) (b y : Int) (T : List (Int × Int)) (ov : AV), (∀ q, P q → q < H.length) → 0 ≤ y → y ≤ b → b ≤ 5000 → Li P H 2 (trCs T) T.length ov → T.length + 4 ^ (c.events.length - n) ≤ bound →
      Does (ev C (Ev.call C n0) H.length none af100.body { tm:=tmA af100.ntmps (zipI 0 [.agg (clampCs c),.int .i64 i,.int .i64 n,.int .i64 set,.agg [.int .i64 b,.int .i64 y],ov] []),df:=[],hp:=H,tc:=[] })
        (Ends C H.length af100.res (AftR P H ov T (T++Clm.aft i set (c.events.drop n) n b y)))):AftC (Ev.call C (n0+1)) c i set n:=by
  intro H P b y T ov hP y0 yb b5 hov hbd
  obtain ⟨v,hp,tc,G,c1,⟨htc,h2⟩,c3,c4,c5⟩:=zbo (first:=[]) (captured:=[]) (args:=[.agg (clampCs c),.int .i64 i,.int .i64 n,.int .i64 set,.agg [.int .i64 b,.int .i64 y],ov]) (H:=H) hC h0.ext h0.exth h0.fns h0.whole (le' rfl) (hf H P b y T ov hP y0 yb b5 hov hbd)
  refine ⟨v,G,tc,c1,c3.len,fun r x hr h=>hb ((c3.old r h.lt (fun hj=>hr (htc r hj))).trans h.get),htc,?_⟩
  rcases h2 with ⟨e1,e2,e3⟩|h2
  · exact .inl ⟨e1,e2,e3,fun r x h=>hb ((c3.old r h.lt (by rw[e3];simp)).trans h.get)⟩
  · refine .inr ?_
    cases h2 with
    |none h3 h4=>exact .none h3 h4
    |some q h3 h4 h5=>
      have:=(c4 (.inl (by simp[refs]))).2 q h3
      exact .some q h3 (hb (this.trans h4.get)) h5
def afSt (H:List AB)(i set n:Nat)(cur:AV)(k:Int)(G:List AB)(tcs:List Nat):St:={ tm:=tmA 104 [(14,.int .i64 k),(13,.ptr (H.length+2) 0),(10,.ptr (H.length+1) 0),(6,.ptr H.length 0),(5,cur),(3,.int .i64 set),(2,.int .i64 n),(1,.int .i64 i)],df:=[],hp:=G,tc:=tcs }
structure AfI (P:Nat→Prop) (H:List AB) (c:Clm.Cl) (v:Clm.Evt) (b y:Int) (T part:List (Int × Int)) (ov cur:AV) (G:List AB) (tcs:List Nat):Prop where
  c0:HB G H.length (.cells (clampCs c))
  c1:HB G (H.length+1) (.cells [.int .i64 b,.int .i64 y])
  c2:HB G (H.length+2) (.cells [.int .i64 v.kind,.int .i64 v.clamp,.int .i64 v.sods.lo,.int .i64 v.sods.hi])
  len:H.length+3≤G.length
  tc:∀ t∈tcs,P t
  li:(cur=ov∧part=[]∧tcs=[]∧Li P G 2 (trCs T) T.length ov)∨Li (fun q=>H.length+3≤q) G 2 (trCs (T++part)) (T++part).length cur
theorem zpc (C:Cfg)(call:CallF)(c:Clm.Cl)(i set n:Nat)(hn:n≤6)(hA:AftC call c i set (n+1))(v:Clm.Evt)(H:List AB)(P:Nat→Prop)(b y:Int)(T part:List (Int × Int))(ov cur:AV)(hP:∀ q,P q→q<H.length)(yb:y≤b)(b5:b≤5000)(k:Int)(k0:0≤k)(k1:k≤v.sods.hi)(k2:k≤y)
    (hbd:(T++part).length+4 ^ (c.events.length - (n+1))≤bound) (G:List AB) (tcs:List Nat) (hG:AfI P H c v b y T part ov cur G tcs):
    Does (ev C call H.length none (atP [1,1,1,0,1,0,0,1,0,0] af100.body) (afSt H i set n cur k G tcs))
      (fun e st=>e=.normal∧∃ G' cur' tcs',AfI P H c v b y T (part++Clm.aft i set (c.events.drop (n+1)) (n+1) b (y - k)) ov cur' G' tcs'∧{ st with tm:=keepT [1,2,3,5,6,10,13,14] st.tm }=afSt H i set n cur' (k+1) G' tcs'):=by
  obtain ⟨c0,c1,c2,hlen,htc,hli⟩:=hG
  have hLi:Li (fun q=>P q∨(H.length+3≤q∧q<G.length)) G 2 (trCs (T++part)) (T++part).length cur:=by
    rcases hli with ⟨rfl,rfl,_,h⟩|h
    · rw[List.append_nil];exact h.mono fun q _ hq=>.inl hq
    · exact h.mono fun q hl hq=>.inr ⟨hq,hl⟩
  obtain ⟨v',G',tc',hcall,hR⟩:=hA G (fun q=>P q∨(H.length+3≤q∧q<G.length)) b (y - k) (T++part) cur (fun q hq=>hq.elim (fun h=>by have:=hP q h;omega) (fun h=>h.2)) (by omega) (by omega) b5 hLi hbd
  rw[show ((n+1:Nat):Int)=(n:Int)+1 by omega] at hcall
  have hres:AfI P H c v b y T (part++Clm.aft i set (c.events.drop (n+1)) (n+1) b (y - k)) ov v' G' (tc'.filter (fun x=>decide (x<H.length))++tcs):=by
    have nf:∀ a,¬ (P (H.length+a)∨(H.length+3≤H.length+a∧H.length+a<G.length))∨3≤a:=fun a=>by
      by_cases ha:3≤a
      · exact .inr ha
      · refine .inl fun h=>?_
        rcases h with h|h
        · have:=hP _ h;omega
        · omega
    have keep:∀ a x,a<3→HB G (H.length+a) x→HB G' (H.length+a) x:=fun a x ha h=>hR.keep _ _ ((nf a).resolve_right (by omega)) h
    refine ⟨keep 0 _ (by omega) c0,keep 1 _ (by omega) c1,keep 2 _ (by omega) c2,by have:=hR.len;omega,fun t ht=>?_,?_⟩
    · rw[List.mem_append] at ht
      rcases ht with ht|ht
      · obtain ⟨h1,h2⟩:=List.mem_filter.1 ht
        rcases hR.own t h1 with h|h
        · exact h
        · have:=of_decide_eq_true h2;omega
      · exact htc t ht
    · rw[← List.append_assoc]
      rcases hR.li with ⟨e1,e2,e3,e4⟩|h
      · rw[e1,e2,e3]
        have e5:Clm.aft i set (c.events.drop (n+1)) (n+1) b (y - k)=[]:=by
          have:=congrArg List.length e2
          rw[List.length_append] at this
          exact List.eq_nil_of_length_eq_zero (by omega)
        rcases hli with ⟨d1,d2,d3,d4⟩|h
        · exact .inl ⟨d1,by rw[d2,e5];rfl,by rw[d3];rfl,d4.keep fun q x _ h=>e4 q x h⟩
        · exact .inr (h.keep fun q x _ h=>e4 q x h)
      · exact .inr (h.mono fun q _ hq=>by omega)
  have HX:=hideP hres
  have w1:IntKind.i64.wrap ((n:Int)+1)=(n:Int)+1:=zat (by omega) (by omega)
  have w2:IntKind.i64.wrap (y - k)=y - k:=zat (by omega) (by omega)
  have w3:IntKind.i64.wrap (k+1)=k+1:=zat (by omega) (by omega)
  obtain ⟨A1,A2,A3⟩:=c0
  obtain ⟨B1,B2,B3⟩:=c1
  obtain ⟨D1,D2,D3⟩:=c2
  clear hA hR hres hLi hli htc hbd hP hlen
  unfold af100 afSt
  simp only[atP,clampCs] at *
  (repeat (first|((with_reducible apply zad);(focus ((with_reducible apply zap);(focus rfl);(focus rfl);(focus ((conv=>lhs;simp[*,List.getElem?_append_right,List.set_append_right,List.getElem?_cons_zero,List.getElem?_append_left,List.set_append_left,-getElem?_pos,Nat.testBit_eq_decide_div_mod_eq])<;>exact rfl));(focus rfl);(focus rfl)));simp only[addFl])|(with_reducible apply zad;(focus ((conv=>lhs;simp[*,List.getElem?_append_right,List.set_append_right,List.getElem?_cons_zero,List.getElem?_append_left,List.set_append_left,-getElem?_pos,Nat.testBit_eq_decide_div_mod_eq])<;>exact rfl));simp only[addFl])|((with_reducible first|apply zai|apply zak|apply zah|apply zaf|apply zac|apply zaj|apply zag|apply zam|(apply zae;· simp[*,zaa])|(apply zab;· simp[*,zaa]));try simp only[Then,Ops,OutB])|simp only[Nat.reduceEqDiff,reduceIte,OutB,Then]))
  refine ⟨by first|rfl|trivial,G',v',_,HX.out,?_⟩
  (refine st_is ?_ ?_ ?_ ?_;(focus (simp[zan,zaq]));(focus rfl);(focus (first|rfl|(simp;done)|(simp[*];done)|(simp;rfl)|(simp[*];omega)|(simp;omega)));(focus (first|rfl|simp)))
theorem znk (C:Cfg)(hC:C.calm=true)(call:CallF)(c:Clm.Cl)(hc:Clm.Fine c)(i set n:Nat)(hset:set≤1000000)(hn:n≤c.events.length)(hA:n<c.events.length→AftC call c i set (n+1))(hH:SetC call)(hI:RinC call)
    (H:List AB) (P:Nat→Prop) (b y:Int) (T:List (Int × Int)) (ov:AV) (hP:∀ q,P q→q<H.length) (y0:0≤y) (yb:y≤b) (b5:b≤5000) (hov:Li P H 2 (trCs T) T.length ov) (hbd:T.length+4 ^ (c.events.length - n)≤bound):
    Does (ev C call H.length none af100.body { tm:=tmA af100.ntmps (zipI 0 [.agg (clampCs c),.int .i64 i,.int .i64 n,.int .i64 set,.agg [.int .i64 b,.int .i64 y],ov] []),df:=[],hp:=H,tc:=[] })
      (Ends C H.length af100.res (AftR P H ov T (T++Clm.aft i set (c.events.drop n) n b y))):=by
  have he6:=hc.events
  by_cases hne:n=c.events.length
  · subst hne
    have hd:c.events.drop c.events.length=[]:=by simp
    rw[hd]
    simp only[Clm.aft]
    have hb1:T.length+1≤bound:=by have:0<4 ^ (c.events.length - c.events.length):=Nat.pow_pos (by decide);omega
    have hb0:1≤bound:=by decide
    have hpl:=zjj T
    have hln:=zhr T
    cases hov with
    |none h0 h1=>
      have hT:T=[]:=by cases T with|nil=>rfl|cons a l=>simp at h1
      subst hT
      clear hA hH hI hbd hc he6 hn h0 h1 hpl hln hd
      unfold af100
      simp only[zipI,clampCs] at *
      (repeat (first|((with_reducible apply zad);(focus ((with_reducible apply zap);(focus rfl);(focus rfl);(focus ((conv=>lhs;simp[*,List.getElem?_append_right,List.set_append_right,List.getElem?_cons_zero,List.getElem?_append_left,List.set_append_left,-getElem?_pos,Nat.testBit_eq_decide_div_mod_eq])<;>exact rfl));(focus rfl);(focus rfl)));simp only[addFl])|(with_reducible apply zad;(focus ((conv=>lhs;simp[*,List.getElem?_append_right,List.set_append_right,List.getElem?_cons_zero,List.getElem?_append_left,List.set_append_left,-getElem?_pos,Nat.testBit_eq_decide_div_mod_eq])<;>exact rfl));simp only[addFl])|((with_reducible first|apply zai|apply zak|apply zah|apply zaf|apply zac|apply zaj|apply zag|apply zam|(apply zae;· simp[*,zaa])|(apply zab;· simp[*,zaa]));try simp only[Then,Ops])|simp only[Nat.reduceEqDiff,reduceIte,OutB,Then]))
      refine zao (v:=.sl (H.length+3) 0 1 2) (.inl rfl) rfl (by simp) (by simp only[resL,resOf,zal];simp[*,resV]) ⟨by simp,.inr ?_⟩
      exact .some _ (by omega) (hb (by rw[List.getElem?_append_right (by omega)];simp;rfl)) (by simp[trCs])
    |some q h0 h1 h2=>
      have hq:=hP q h0
      have hqn:q≠H.length:=by omega
      obtain ⟨Q1,Q2,Q3⟩:=h1
      have HX:=hideP (And.intro h0 (And.intro h2 hP))
      clear hA hH hI hbd hc he6 hn hd h2 h0 hP
      unfold af100
      simp only[zipI,clampCs] at *
      (repeat (first|((with_reducible apply zad);(focus ((with_reducible apply zap);(focus rfl);(focus rfl);(focus ((conv=>lhs;simp[*,List.getElem?_append_right,List.set_append_right,List.getElem?_cons_zero,List.getElem?_append_left,List.set_append_left,-getElem?_pos,Nat.testBit_eq_decide_div_mod_eq])<;>exact rfl));(focus rfl);(focus rfl)));simp only[addFl])|(with_reducible apply zad;(focus ((conv=>lhs;simp[*,List.getElem?_append_right,List.set_append_right,List.getElem?_cons_zero,List.getElem?_append_left,List.set_append_left,-getElem?_pos,Nat.testBit_eq_decide_div_mod_eq])<;>exact rfl));simp only[addFl])|((with_reducible first|apply zai|apply zak|apply zah|apply zaf|apply zac|apply zaj|apply zag|apply zam|(apply zae;· simp[*,zaa])|(apply zab;· simp[*,zaa]));try simp only[Then,Ops])|simp only[Nat.reduceEqDiff,reduceIte,OutB,Then]))
      obtain ⟨h0,h2,hP⟩:=HX.out
      refine zao (v:=.sl (H.length+3) 0 (T.length+1) 2) (.inl rfl) rfl ?_ ?_ ?_
      · simp
      · exact (by simp only[resL,resOf,zal];simp[*,resV])
      refine ⟨by simp[h0],.inr ?_⟩
      rw[show (T++[(b,y)]).length=T.length+1 by simp]
      refine .some (H.length+3) (Nat.le_add_right _ _) (hb ?_) (by rw[zhr];simp)
      rw[List.getElem?_append_right (by simp)]
      simp[zpm,trCs]
  · have hlt:n<c.events.length:=by omega
    have hgv:c.events[n]?=some c.events[n]:=List.getElem?_eq_getElem hlt
    have hok:=hc.event c.events[n] (List.getElem_mem hlt)
    have hd:c.events.drop n=c.events[n]::c.events.drop (n+1):=List.drop_eq_getElem_cons hlt
    generalize c.events[n]=v at hgv hok hd
    have hpw:4 ^ (c.events.length - n)=4 * 4 ^ (c.events.length - (n+1)):=by rw[show c.events.length - n=(c.events.length - (n+1))+1 by omega,Nat.pow_succ,Nat.mul_comm]
    rw[hd,Clm.aft]
    rw[hpw] at hbd
    have hgv':=ge_of hgv
    have hl4:=Clm.aft_len i set (c.events.drop (n+1)) (n+1) b
    have hdv:∀ u∈c.events.drop (n+1),u.kind=0→u.sods.hi - u.sods.lo≤3:=fun u hu hk=>by
      have:=hc.event u (List.mem_of_mem_drop hu)
      rw[if_pos hk] at this;omega
    have hl4':=fun y=>hl4 y hdv
    rw[List.length_drop] at hl4'
    clear hl4 hdv hpw
    have e5:(n:Int)<c.events.length:=by omega
    have ne:((n:Int)==(c.events.length:Int))=false:=beq_false_of_ne (by omega)
    have w1:IntKind.i64.wrap ((n:Int)+1)=(n:Int)+1:=zat (by omega) (by omega)
    obtain ⟨⟨v0,v1⟩,hk,s0,s1,s2,s3⟩:=hok
    by_cases hsale:v.clamp=i∧v.kind=0
    · rw[if_pos hsale]
      obtain ⟨hcl,hk0⟩:=hsale
      rw[if_pos hk0] at s3
      have HX:=hideP (And.intro hA (And.intro hP (And.intro hov (And.intro hbd hl4'))))
      have nP:∀ a,¬ P (H.length+a):=fun a h=>by have:=hP _ h;omega
      obtain ⟨N,hN⟩:∃ N,(min v.sods.hi y+1 - v.sods.lo).toNat=N:=⟨_,rfl⟩
      rw[hN]
      clear hA hP hov hbd hl4' hH hI hk v0 v1
      unfold af100
      simp only[zipI,clampCs] at *
      (repeat (first|((with_reducible apply zad);(focus ((with_reducible apply zap);(focus rfl);(focus rfl);(focus ((conv=>lhs;simp[*,List.getElem?_append_right,List.set_append_right,List.getElem?_cons_zero,List.getElem?_append_left,List.set_append_left,-getElem?_pos,evtE,Nat.testBit_eq_decide_div_mod_eq])<;>exact rfl));(focus rfl);(focus rfl)));simp only[addFl])|(with_reducible apply zad;(focus ((conv=>lhs;simp[*,List.getElem?_append_right,List.set_append_right,List.getElem?_cons_zero,List.getElem?_append_left,List.set_append_left,-getElem?_pos,evtE,Nat.testBit_eq_decide_div_mod_eq])<;>exact rfl));simp only[addFl])|((with_reducible first|apply zai|apply zak|apply zah|apply zaf|apply zac|apply zaj|apply zag|apply zam|(apply zae;· simp[*,zaa])|(apply zab;· simp[*,zaa]));try simp only[Then,Ops])|simp only[Nat.reduceEqDiff,reduceIte,OutB,Then]))
      clear hgv hgv' ne
      with_reducible refine zaz hC N (by unfold fuelL;omega) (fun j st=>∃ G cur tcs,AfI P H c v b y T ((List.range j).flatMap fun (m:Nat)=>Clm.aft i set (c.events.drop (n+1)) (n+1) b (y - (v.sods.lo+m))) ov cur G tcs∧st=afSt H i set n cur (v.sods.lo+j) G tcs) ?_ ?_ ?_
      · obtain ⟨hA,hP,hov,hbd,hl4'⟩:=HX.out
        refine ⟨H++[.cells (clampCs c),.cells [.int .i64 b,.int .i64 y],.cells [.int .i64 v.kind,.int .i64 v.clamp,.int .i64 v.sods.lo,.int .i64 v.sods.hi]],ov,[],⟨hb (by rw[List.getElem?_append_right (by omega),Nat.sub_self];rfl),hb (by rw[List.getElem?_append_right (by omega),Nat.add_sub_cancel_left];rfl),hb (by rw[List.getElem?_append_right (by omega),Nat.add_sub_cancel_left];rfl),by simp,by simp,.inl ⟨rfl,rfl,rfl,hov.keep fun q x _ h=>h.app _⟩⟩,?_⟩
        unfold afSt
        rw[hcl,hk0]
        simp only[clampCs]
        (refine st_is ?_ ?_ ?_ ?_;(focus (simp[zan,zaq]));(focus rfl);(focus (first|rfl|(simp;done)|(simp[*];done)|(simp;rfl)|(simp[*];omega)|(simp;omega)));(focus (first|rfl|simp)))
      · rintro j st hj ⟨G,cur,tcs,hG,rfl⟩
        obtain ⟨hA,hP,hov,hbd,hl4'⟩:=HX.out
        have key:∀ m,((List.range m).flatMap fun (m:Nat)=>Clm.aft i set (c.events.drop (n+1)) (n+1) b (y - (v.sods.lo+m))).length≤m * 4 ^ (c.events.length - (n+1)):=by
          intro m
          induction m with
          |zero=>simp
          |succ m im=>
            rw[List.range_succ,List.flatMap_append,List.length_append,Nat.succ_mul]
            have:=hl4' (y - (v.sods.lo+m))
            simp only[List.flatMap_cons,List.flatMap_nil,List.append_nil]
            omega
        have hkj:=key j
        have hj3:j * 4 ^ (c.events.length - (n+1))≤3 * 4 ^ (c.events.length - (n+1)):=Nat.mul_le_mul_right _ (by omega)
        have hr:=zpc C call c i set n (by omega) (hA hlt) v H P b y T _ ov cur hP yb b5 (v.sods.lo+j) (by omega) (by omega) (by omega) (by rw[List.length_append];omega) G tcs hG
        refine Does.mono hr ?_
        rintro e st ⟨rfl,G',cur',tcs',h1,h2⟩
        refine ⟨G',cur',tcs',?_,?_⟩
        · rw[List.range_succ,List.flatMap_append]
          simpa using h1
        · rw[h2]
          congr 1
          omega
      · rintro st ⟨G,cur,tcs,hG,rfl⟩
        obtain ⟨hA,hP,hov,hbd,hl4'⟩:=HX.out
        obtain ⟨⟨A1,A2,A3⟩,⟨B1,B2,B3⟩,⟨D1,D2,D3⟩,hlen,htc,hli⟩:=hG
        have HY:=hideP (And.intro hlen (And.intro htc hli))
        have hgH:H.length≤G.length:=by omega
        clear hA hP hov hbd hl4' hlen htc hli HX nP hd
        have hex:(¬ (v.sods.lo+N≤v.sods.hi))∨(v.sods.lo+N≤v.sods.hi∧¬ (v.sods.lo+N≤y)):=by omega
        clear hN
        rcases hex with x1|⟨x1,x2⟩
        all_goals
          unfold afSt
          (repeat (first|((with_reducible apply zad);(focus ((with_reducible apply zap);(focus rfl);(focus rfl);(focus ((conv=>lhs;simp[*,List.getElem?_append_right,List.set_append_right,List.getElem?_cons_zero,List.getElem?_append_left,List.set_append_left,-getElem?_pos,Nat.testBit_eq_decide_div_mod_eq])<;>exact rfl));(focus rfl);(focus rfl)));simp only[addFl])|(with_reducible apply zad;(focus ((conv=>lhs;simp[*,List.getElem?_append_right,List.set_append_right,List.getElem?_cons_zero,List.getElem?_append_left,List.set_append_left,-getElem?_pos,Nat.testBit_eq_decide_div_mod_eq])<;>exact rfl));simp only[addFl])|((with_reducible first|apply zai|apply zak|apply zah|apply zaf|apply zac|apply zaj|apply zag|apply zam|(apply zae;· simp[*,zaa])|(apply zab;· simp[*,zaa]));try simp only[Then,Ops,OutB,reduceIte])|simp only[Nat.reduceEqDiff,reduceIte,OutB,Then]))
          obtain ⟨hlen,htc,hli⟩:=HY.out
          refine zao (v:=cur) (.inl rfl) rfl hgH (by simp only[resL,resOf,zal];simp[*,resV]) ⟨htc,?_⟩
          rcases hli with ⟨h1,h2,h3,_⟩|h
          · exact .inl ⟨h1,by rw[h2];simp,h3⟩
          · exact .inr (h.mono fun q _ hq=>by omega)
    rw[if_neg hsale]
    by_cases hmiss:v.clamp=i∧v.kind=1∧Clm.bit set n=true∧¬ (v.sods.lo≤y∧y≤v.sods.hi)
    · rw[if_pos hmiss]
      obtain ⟨hcl,hk1,hbt,hin⟩:=hmiss
      have hh:=fun H=>hH H set n hset (by omega)
      have hi:=fun H=>hI H y v.sods.lo v.sods.hi
      rw[hbt] at hh
      rw[decide_eq_false hin] at hi
      clear hA hP hov hbd hl4' hH hI hk v0 v1 hin hsale
      unfold af100
      simp only[zipI,clampCs] at *
      (repeat (first|((with_reducible apply zad);(focus ((with_reducible apply zap);(focus rfl);(focus rfl);(focus ((conv=>lhs;simp[*,List.getElem?_append_right,List.set_append_right,List.getElem?_cons_zero,List.getElem?_append_left,List.set_append_left,-getElem?_pos,evtE,Nat.testBit_eq_decide_div_mod_eq])<;>exact rfl));(focus rfl);(focus rfl)));simp only[addFl])|(with_reducible apply zad;(focus ((conv=>lhs;simp[*,List.getElem?_append_right,List.set_append_right,List.getElem?_cons_zero,List.getElem?_append_left,List.set_append_left,-getElem?_pos,evtE,Nat.testBit_eq_decide_div_mod_eq])<;>exact rfl));simp only[addFl])|((with_reducible first|apply zai|apply zak|apply zah|apply zaf|apply zac|apply zaj|apply zag|apply zam|(apply zae;· simp[*,zaa])|(apply zab;· simp[*,zaa]));try simp only[Then,Ops])|simp only[Nat.reduceEqDiff,reduceIte,OutB,Then]))
      exact zao (v:=ov) (.inl rfl) rfl (by simp) (by simp only[resL,resOf,zal];simp[*,resV]) ⟨by simp,.inl ⟨rfl,by simp,rfl⟩⟩
    · rw[if_neg hmiss]
      obtain ⟨v',G',tc',hcall,hR⟩:=hA hlt (H++[.cells (clampCs c),.cells [.int .i64 b,.int .i64 y],.cells [.int .i64 v.kind,.int .i64 v.clamp,.int .i64 v.sods.lo,.int .i64 v.sods.hi]]) P b y T ov (fun q hq=>by have:=hP q hq;simp;omega) y0 yb b5 (hov.keep fun q x _ h=>h.app _) (by omega)
      rw[show ((n+1:Nat):Int)=(n:Int)+1 by omega] at hcall
      have hlG:=hR.len
      simp only[List.length_append,List.length_cons,List.length_nil] at hlG
      have hgH:H.length≤G'.length:=by omega
      have HX:=hideP hR
      have hh:=fun H=>hH H set n hset (by omega)
      have hi:=fun H=>hI H y v.sods.lo v.sods.hi
      have hcase:((v.clamp==(i:Int))=false)∨(v.clamp=(i:Int)∧v.kind=1∧(Clm.bit set n=false∨(Clm.bit set n=true∧decide (v.sods.lo≤y∧y≤v.sods.hi)=true))):=by
        by_cases h1:v.clamp=i
        · have hk1:v.kind=1:=hk.elim (fun h=>absurd ⟨h1,h⟩ hsale) id
          refine .inr ⟨h1,hk1,?_⟩
          cases hbt:Clm.bit set n with
          |false=>exact .inl rfl
          |true=>
            refine .inr ⟨rfl,?_⟩
            by_cases h3:v.sods.lo≤y∧y≤v.sods.hi
            · exact decide_eq_true h3
            · exact absurd ⟨h1,hk1,hbt,h3⟩ hmiss
        · exact .inl (beq_false_of_ne h1)
      clear hA hP hov hbd hl4' hH hI hk v0 v1 hsale hmiss hR hlG
      rcases hcase with x1|⟨x1,x3,x4|⟨x4,x5⟩⟩
      all_goals
        try rw[x1,x3] at hcall
        try rw[x4] at hh
        try rw[x5] at hi
        try clear x4
        try clear x5
        unfold af100
        simp only[zipI,clampCs] at *
        (repeat (first|((with_reducible apply zad);(focus ((with_reducible apply zap);(focus rfl);(focus rfl);(focus ((conv=>lhs;simp[*,List.getElem?_append_right,List.set_append_right,List.getElem?_cons_zero,List.getElem?_append_left,List.set_append_left,-getElem?_pos,evtE,Nat.testBit_eq_decide_div_mod_eq])<;>exact rfl));(focus rfl);(focus rfl)));simp only[addFl])|(with_reducible apply zad;(focus ((conv=>lhs;simp[*,List.getElem?_append_right,List.set_append_right,List.getElem?_cons_zero,List.getElem?_append_left,List.set_append_left,-getElem?_pos,evtE,Nat.testBit_eq_decide_div_mod_eq])<;>exact rfl));simp only[addFl])|((with_reducible first|apply zai|apply zak|apply zah|apply zaf|apply zac|apply zaj|apply zag|apply zam|(apply zae;· simp[*,zaa])|(apply zab;· simp[*,zaa]));try simp only[Then,Ops])|simp only[Nat.reduceEqDiff,reduceIte,OutB,Then]))
        have hR:=HX.out
        refine zao (v:=v') (.inl rfl) rfl hgH (by simp only[resL,resOf,zal];simp[*,resV]) ?_
        refine ⟨fun t ht=>?_,?_⟩
        · simp only at ht
          exact hR.own t (List.mem_filter.1 ht).1
        · rcases hR.li with ⟨h1,h2,h3,_⟩|h
          · exact .inl ⟨h1,h2,by rw[h3];rfl⟩
          · exact .inr (h.mono fun q _ hq=>by simp only[List.length_append,List.length_cons,List.length_nil] at hq;omega)
end K
end Ev
end Go.Proofs.YtimgnlellflciaaGreat

/- The reference of chapter 09, gone through: all tracks of a clamp. -/
namespace Go.Proofs.YtimgnlellflciaaGreat
open Go
namespace Clm
def fl {β:Type}(f:Int→List β)(lo:Int)(n:Nat):List β:=(List.range n).flatMap fun (m:Nat)=>f (lo+m)
theorem fl_zero {β:Type}(f:Int→List β)(lo:Int):fl f lo 0=[]:=rfl
theorem fl_succ {β:Type}(f:Int→List β)(lo:Int)(n:Nat):fl f lo (n+1)=fl f lo n++f (lo+n):=by
  unfold fl;rw[List.range_succ,List.flatMap_append];simp
theorem fl_len {β:Type}{f:Int→List β}{lo:Int}{B:Nat}(h:∀ x,(f x).length≤B):∀ n,(fl f lo n).length≤n * B
  |0=>by simp[fl]
  |n+1=>by
    rw[fl_succ,List.length_append,Nat.succ_mul]
    have:=fl_len (lo:=lo) h n
    have:=h (lo+n)
    omega
theorem zle {β:Type}(f:Int→List β)(s:Sp):(spanL s).flatMap f=fl f s.lo (s.hi+1 - s.lo).toNat:=by
  unfold spanL fl;rw[List.flatMap_map]
def trF (c:Cl)(i:Nat)(k:Int)(set:Nat)(l w h:Int):List (Int × Int):=aft i set c.events 0 (l * w * h * k) (l * w * h * k)
theorem tracks_fl (c:Cl)(i:Nat)(k:Int)(set:Nat)(p:Pl)(hp:c.piles.getD i default=p):tracksR c i k set=
    fl (fun l=>fl (fun w=>fl (fun h=>trF c i k set l w h) p.high.lo (p.high.hi+1 - p.high.lo).toNat) p.wide.lo (p.wide.hi+1 - p.wide.lo).toNat) p.long.lo (p.long.hi+1 - p.long.lo).toNat:=by
  unfold tracksR sizes
  rw[hp,List.flatMap_assoc,zle]
  congr 1
  funext l
  rw[List.flatMap_assoc,zle]
  congr 1
  funext w
  rw[List.flatMap_map,zle]
  rfl
theorem mul_in {a b m n:Int}(a0:0≤a)(am:a≤m)(b0:0≤b)(bn:b≤n):0≤a * b∧a * b≤m * n:=
  ⟨Int.mul_nonneg a0 b0,Int.le_trans (Int.mul_le_mul_of_nonneg_right am b0) (Int.mul_le_mul_of_nonneg_left bn (Int.le_trans a0 am))⟩
end Clm
namespace Ev
namespace K
attribute [local simp] ev1 wantG spineK spine float xnew xval xeff zaa zar zbb zau zav addFl cellsOf pickC alive slLen slFt binI maxA maxK minA minK aeqK aeqS AV.cells spA zas fillA setAt bitsI nat_nn zbe AV.plain apart
set_option maxRecDepth 100000
set_option maxHeartbeats 4000000
def pileC (p:Clm.Pl):List AV:=[.int .i64 p.long.lo,.int .i64 p.long.hi,.int .i64 p.wide.lo,.int .i64 p.wide.hi,.int .i64 p.high.lo,.int .i64 p.high.hi]
structure TrI (H:List AB) (c:Clm.Cl) (p:Clm.Pl) (out:List (Int × Int)) (cur:AV) (G:List AB):Prop where
  c0:HB G H.length (.cells (clampCs c))
  c1:HB G (H.length+1) (.cells (pileC p))
  len:H.length+2≤G.length
  li:Li (fun q=>H.length+2≤q) G 2 (trCs out) out.length cur
def tr4St (H:List AB)(i:Nat)(k:Int)(set:Nat)(cur:AV)(l w h:Int)(G:List AB):St:={ tm:=tmA 70 [(13,.int .i64 h),(12,.int .i64 w),(11,.int .i64 l),(10,cur),(9,.ptr (H.length+1) 0),(4,.ptr H.length 0),(3,.int .i64 set),(2,.int .i64 k),(1,.int .i64 i)],df:=[],hp:=G,tc:=[] }
def tr2St (H:List AB)(i:Nat)(k:Int)(set:Nat)(cur:AV)(l w:Int)(G:List AB):St:={ tm:=tmA 70 [(12,.int .i64 w),(11,.int .i64 l),(10,cur),(9,.ptr (H.length+1) 0),(4,.ptr H.length 0),(3,.int .i64 set),(2,.int .i64 k),(1,.int .i64 i)],df:=[],hp:=G,tc:=[] }
def tr0St (H:List AB)(i:Nat)(k:Int)(set:Nat)(cur:AV)(l:Int)(G:List AB):St:={ tm:=tmA 70 [(11,.int .i64 l),(10,cur),(9,.ptr (H.length+1) 0),(4,.ptr H.length 0),(3,.int .i64 set),(2,.int .i64 k),(1,.int .i64 i)],df:=[],hp:=G,tc:=[] }
theorem ztv (C:Cfg)(call:CallF)(c:Clm.Cl)(i set:Nat)(hA:AftC call c i set 0)(p:Clm.Pl)(k:Int)(k0:0≤k)(k5:k≤5)(l w h:Int)(l0:0≤l)(l1:l≤10)(w0:0≤w)(w1:w≤10)(h0:0≤h)(h1:h≤10)(hh:h≤p.high.hi)(H:List AB)(out:List (Int × Int))(cur:AV)(hbd:out.length+4 ^ c.events.length≤bound)(G:List AB)(hG:TrI H c p out cur G):
    Does (ev C call H.length none (atP [1,1,1,0,1,0,0,1,0,0,1,0,0,1,0,0,1,0,0] af93.body) (tr4St H i k set cur l w h G))
      (fun e st=>e=.normal∧∃ G' cur',TrI H c p (out++Clm.trF c i k set l w h) cur' G'∧{ st with tm:=keepT [1,2,3,4,9,10,11,12,13] st.tm }=tr4St H i k set cur' l w (h+1) G'):=by
  obtain ⟨c0,c1,hlen,hli⟩:=hG
  obtain ⟨m1,m2⟩:=Clm.mul_in l0 l1 w0 w1
  obtain ⟨m3,m4⟩:=Clm.mul_in m1 m2 h0 h1
  obtain ⟨m5,m6⟩:=Clm.mul_in m3 m4 k0 k5
  obtain ⟨v',G',tc',hcall,hR⟩:=hA G (fun q=>H.length+2≤q∧q<G.length) (l * w * h * k) (l * w * h * k) out cur (fun q hq=>hq.2) m5 (Int.le_refl _) (by omega) (hli.mono fun q h1 h2=>⟨h2,h1⟩) (by rw[Nat.sub_zero];exact hbd)
  rw[show ((0:Nat):Int)=0 from rfl] at hcall
  have hft:tc'.filter (fun x=>decide (x<H.length))=[]:=List.filter_eq_nil_iff.2 fun j hj=>by have:=hR.own j hj;simp;omega
  have hres:TrI H c p (out++Clm.trF c i k set l w h) v' G':=by
    refine ⟨hR.keep _ _ (by omega) c0,hR.keep _ _ (by omega) c1,by have:=hR.len;omega,?_⟩
    have e:Clm.aft i set (c.events.drop 0) 0 (l * w * h * k) (l * w * h * k)=Clm.trF c i k set l w h:=by rw[List.drop_zero];rfl
    rw[← e]
    rcases hR.li with ⟨e1,e2,e3,e4⟩|h
    · rw[e1,e2];exact hli.keep fun q x _ h=>e4 q x h
    · exact h.mono fun q _ hq=>by omega
  have HX:=hideP hres
  have x1:IntKind.i64.wrap (l * w)=l * w:=zat (by omega) (by omega)
  have x2:IntKind.i64.wrap (l * w * h)=l * w * h:=zat (by omega) (by omega)
  have x3:IntKind.i64.wrap (l * w * h * k)=l * w * h * k:=zat (by omega) (by omega)
  have x4:IntKind.i64.wrap (h+1)=h+1:=zat (by omega) (by omega)
  obtain ⟨A1,A2,A3⟩:=c0
  obtain ⟨B1,B2,B3⟩:=c1
  clear hA hR hres hli hbd hlen m1 m2 m3 m4 m5 m6
  unfold af93 tr4St
  simp only[atP,clampCs,pileC] at *
  (repeat (first|((with_reducible apply zad);(focus ((with_reducible apply zap);(focus rfl);(focus rfl);(focus ((conv=>lhs;simp[*,List.getElem?_append_right,List.set_append_right,List.getElem?_cons_zero,List.getElem?_append_left,List.set_append_left,-getElem?_pos,Nat.testBit_eq_decide_div_mod_eq])<;>exact rfl));(focus rfl);(focus rfl)));simp only[addFl])|(with_reducible apply zad;(focus ((conv=>lhs;simp[*,List.getElem?_append_right,List.set_append_right,List.getElem?_cons_zero,List.getElem?_append_left,List.set_append_left,-getElem?_pos,Nat.testBit_eq_decide_div_mod_eq])<;>exact rfl));simp only[addFl])|((with_reducible first|apply zai|apply zak|apply zah|apply zaf|apply zac|apply zaj|apply zag|apply zam|(apply zae;· simp[*,zaa])|(apply zab;· simp[*,zaa]));try simp only[Then,Ops,OutB])|simp only[Nat.reduceEqDiff,reduceIte,OutB,Then]))
  refine ⟨by first|rfl|trivial,G',v',HX.out,?_⟩
  (refine st_is ?_ ?_ ?_ ?_;(focus (simp[zan,zaq]));(focus rfl);(focus (first|rfl|(simp;done)|(simp[*];done)|(simp;rfl)|(simp[*];omega)|(simp;omega)));(focus (first|rfl|simp)))
theorem zri (C:Cfg)(hC:C.calm=true)(call:CallF)(c:Clm.Cl)(hc:Clm.Fine c)(i set:Nat)(hi:i<c.piles.length)(hA:AftC call c i set 0)(k:Int)(k0:0≤k)(k5:k≤5)(H:List AB):
    Does (ev C call H.length none af93.body { tm:=tmA af93.ntmps (zipI 0 [.agg (clampCs c),.int .i64 i,.int .i64 k,.int .i64 set] []),df:=[],hp:=H,tc:=[] })
      (Ends C H.length af93.res fun v hp tc=>tc=[]∧Li (fun q=>H.length≤q) hp 2 (trCs (Clm.tracksR c i k set)) (Clm.tracksR c i k set).length v):=by
  have hgp:c.piles[i]?=some c.piles[i]:=List.getElem?_eq_getElem hi
  have hgd:c.piles.getD i default=c.piles[i]:=by rw[List.getD_eq_getElem?_getD,hgp];rfl
  have hok:=hc.pile _ (List.getElem_mem hi)
  have he6:=hc.events
  have h4:4 ^ c.events.length≤4 ^ 6:=Nat.pow_le_pow_right (by decide) he6
  have hF : ∀ l w h, (Clm.trF c i k set l w h).length ≤ 4 ^ 6 := fun l w h => Nat.le_trans (Clm.aft_len i set c.events 0 _ _ fun v hv hk => by
    have:=hc.event v hv
    rw[if_pos hk] at this;omega) h4
  have htr:=Clm.tracks_fl c i k set c.piles[i] hgd
  generalize c.piles[i]=p at hgp hok htr
  have hgp':=ge_of hgp
  obtain ⟨⟨a1,a2,a3,a4⟩,⟨b1,b2,b3,b4⟩,d1,d2,d3,d4⟩:=hok
  have e5:(i:Int)<c.piles.length:=by omega
  rw[htr]
  obtain ⟨nl,hnl⟩:∃ n,(p.long.hi+1 - p.long.lo).toNat=n:=⟨_,rfl⟩
  obtain ⟨nw,hnw⟩:∃ n,(p.wide.hi+1 - p.wide.lo).toNat=n:=⟨_,rfl⟩
  obtain ⟨nh,hnh⟩:∃ n,(p.high.hi+1 - p.high.lo).toNat=n:=⟨_,rfl⟩
  rw[hnl,hnw,hnh]
  have hFh:∀ l w,(Clm.fl (fun h=>Clm.trF c i k set l w h) p.high.lo nh).length≤2 * 4 ^ 6:=fun l w=>Nat.le_trans (Clm.fl_len (fun h=>hF l w h) nh) (Nat.mul_le_mul_right _ (by omega))
  have hFw:∀ l,(Clm.fl (fun w=>Clm.fl (fun h=>Clm.trF c i k set l w h) p.high.lo nh) p.wide.lo nw).length≤2 * (2 * 4 ^ 6):=fun l=>Nat.le_trans (Clm.fl_len (fun w=>hFh l w) nw) (Nat.mul_le_mul_right _ (by omega))
  have HX:=hideP (And.intro hA (And.intro hF (And.intro hFh (And.intro hFw (And.intro h4 (And.intro hc htr))))))
  clear hA hF hFh hFw h4 hc htr hgd
  unfold af93
  simp only[zipI,clampCs] at *
  (repeat (first|((with_reducible apply zad);(focus ((with_reducible apply zap);(focus rfl);(focus rfl);(focus ((conv=>lhs;simp[*,List.getElem?_append_right,List.set_append_right,List.getElem?_cons_zero,List.getElem?_append_left,List.set_append_left,-getElem?_pos,pileE,Nat.testBit_eq_decide_div_mod_eq])<;>exact rfl));(focus rfl);(focus rfl)));simp only[addFl])|(with_reducible apply zad;(focus ((conv=>lhs;simp[*,List.getElem?_append_right,List.set_append_right,List.getElem?_cons_zero,List.getElem?_append_left,List.set_append_left,-getElem?_pos,pileE,Nat.testBit_eq_decide_div_mod_eq])<;>exact rfl));simp only[addFl])|((with_reducible first|apply zai|apply zak|apply zah|apply zaf|apply zac|apply zaj|apply zag|apply zam|(apply zae;· simp[*,zaa])|(apply zab;· simp[*,zaa]));try simp only[Then,Ops])|simp only[Nat.reduceEqDiff,reduceIte,OutB,Then]))
  clear hgp hgp' e5
  with_reducible refine zaz hC nl (by unfold fuelL;omega) (fun a st=>∃ G cur,TrI H c p (Clm.fl (fun l=>Clm.fl (fun w=>Clm.fl (fun h=>Clm.trF c i k set l w h) p.high.lo nh) p.wide.lo nw) p.long.lo a) cur G∧st=tr0St H i k set cur (p.long.lo+a) G) ?_ ?_ ?_
  · refine ⟨H++[.cells (clampCs c),.cells (pileC p)],.nils,⟨hb (by rw[List.getElem?_append_right (by omega),Nat.sub_self];rfl),hb (by rw[List.getElem?_append_right (by omega),Nat.add_sub_cancel_left];rfl),by simp,.none rfl rfl⟩,?_⟩
    unfold tr0St
    simp only[clampCs,pileC]
    (refine st_is ?_ ?_ ?_ ?_;(focus (simp[zan,zaq]));(focus rfl);(focus (first|rfl|(simp;done)|(simp[*];done)|(simp;rfl)|(simp[*];omega)|(simp;omega)));(focus (first|rfl|simp)))
  · rintro a st ha ⟨G0,cur0,hI0,rfl⟩
    have hI0':=hideP hI0
    obtain ⟨⟨A1,A2,A3⟩,⟨B1,B2,B3⟩,_,_⟩:=hI0
    have x0:p.long.lo+(a:Int)≤p.long.hi:=by omega
    have x1:IntKind.i64.wrap (p.long.lo+(a:Int)+1)=p.long.lo+(a:Int)+1:=zat (by omega) (by omega)
    unfold tr0St
    simp only[clampCs,pileC] at *
    (repeat (first|((with_reducible apply zad);(focus ((with_reducible apply zap);(focus rfl);(focus rfl);(focus ((conv=>lhs;simp[*,List.getElem?_append_right,List.set_append_right,List.getElem?_cons_zero,List.getElem?_append_left,List.set_append_left,-getElem?_pos,Nat.testBit_eq_decide_div_mod_eq])<;>exact rfl));(focus rfl);(focus rfl)));simp only[addFl])|(with_reducible apply zad;(focus ((conv=>lhs;simp[*,List.getElem?_append_right,List.set_append_right,List.getElem?_cons_zero,List.getElem?_append_left,List.set_append_left,-getElem?_pos,Nat.testBit_eq_decide_div_mod_eq])<;>exact rfl));simp only[addFl])|((with_reducible first|apply zai|apply zak|apply zah|apply zaf|apply zac|apply zaj|apply zag|apply zam|(apply zae;· simp[*,zaa])|(apply zab;· simp[*,zaa]));try simp only[Then,Ops,OutB])|simp only[Nat.reduceEqDiff,reduceIte,OutB,Then]))
    clear A1 A2 A3 B1 B2 B3
    with_reducible refine zaz hC nw (by unfold fuelL;omega) (fun b st=>∃ G cur,TrI H c p (Clm.fl (fun l=>Clm.fl (fun w=>Clm.fl (fun h=>Clm.trF c i k set l w h) p.high.lo nh) p.wide.lo nw) p.long.lo a++Clm.fl (fun w=>Clm.fl (fun h=>Clm.trF c i k set (p.long.lo+a) w h) p.high.lo nh) p.wide.lo b) cur G∧st=tr2St H i k set cur (p.long.lo+a) (p.wide.lo+b) G) ?_ ?_ ?_
    · refine ⟨G0,cur0,by rw[Clm.fl_zero,List.append_nil];exact hI0'.out,?_⟩
      unfold tr2St
      (refine st_is ?_ ?_ ?_ ?_;(focus (simp[zan,zaq]));(focus rfl);(focus (first|rfl|(simp;done)|(simp[*];done)|(simp;rfl)|(simp[*];omega)|(simp;omega)));(focus (first|rfl|simp)))
    · rintro b st hb ⟨G1,cur1,hI1,rfl⟩
      have hI1':=hideP hI1
      obtain ⟨⟨A1,A2,A3⟩,⟨B1,B2,B3⟩,_,_⟩:=hI1
      have x2:p.wide.lo+(b:Int)≤p.wide.hi:=by omega
      have x3:IntKind.i64.wrap (p.wide.lo+(b:Int)+1)=p.wide.lo+(b:Int)+1:=zat (by omega) (by omega)
      unfold tr2St
      simp only[clampCs,pileC] at *
      (repeat (first|((with_reducible apply zad);(focus ((with_reducible apply zap);(focus rfl);(focus rfl);(focus ((conv=>lhs;simp[*,List.getElem?_append_right,List.set_append_right,List.getElem?_cons_zero,List.getElem?_append_left,List.set_append_left,-getElem?_pos,Nat.testBit_eq_decide_div_mod_eq])<;>exact rfl));(focus rfl);(focus rfl)));simp only[addFl])|(with_reducible apply zad;(focus ((conv=>lhs;simp[*,List.getElem?_append_right,List.set_append_right,List.getElem?_cons_zero,List.getElem?_append_left,List.set_append_left,-getElem?_pos,Nat.testBit_eq_decide_div_mod_eq])<;>exact rfl));simp only[addFl])|((with_reducible first|apply zai|apply zak|apply zah|apply zaf|apply zac|apply zaj|apply zag|apply zam|(apply zae;· simp[*,zaa])|(apply zab;· simp[*,zaa]));try simp only[Then,Ops,OutB])|simp only[Nat.reduceEqDiff,reduceIte,OutB,Then]))
      clear A1 A2 A3 B1 B2 B3
      with_reducible refine zaz hC nh (by unfold fuelL;omega) (fun d st=>∃ G cur,TrI H c p (Clm.fl (fun l=>Clm.fl (fun w=>Clm.fl (fun h=>Clm.trF c i k set l w h) p.high.lo nh) p.wide.lo nw) p.long.lo a++Clm.fl (fun w=>Clm.fl (fun h=>Clm.trF c i k set (p.long.lo+a) w h) p.high.lo nh) p.wide.lo b++Clm.fl (fun h=>Clm.trF c i k set (p.long.lo+a) (p.wide.lo+b) h) p.high.lo d) cur G∧st=tr4St H i k set cur (p.long.lo+a) (p.wide.lo+b) (p.high.lo+d) G) ?_ ?_ ?_
      · refine ⟨G1,cur1,by rw[Clm.fl_zero,List.append_nil];exact hI1'.out,?_⟩
        unfold tr4St
        (refine st_is ?_ ?_ ?_ ?_;(focus (simp[zan,zaq]));(focus rfl);(focus (first|rfl|(simp;done)|(simp[*];done)|(simp;rfl)|(simp[*];omega)|(simp;omega)));(focus (first|rfl|simp)))
      · rintro d st hd ⟨G2,cur2,hI2,rfl⟩
        obtain ⟨hA,hF,hFh,hFw,h4,hc,_⟩:=HX.out
        have n1:=Clm.fl_len (lo:=p.long.lo) hFw a
        have n2:=Clm.fl_len (lo:=p.wide.lo) (hFh (p.long.lo+a)) b
        have n3:=Clm.fl_len (f:=fun h=>Clm.trF c i k set (p.long.lo+a) (p.wide.lo+b) h) (lo:=p.high.lo) (fun h=>hF _ _ h) d
        have hr := ztv C call c i set hA p k k0 k5 (p.long.lo + a) (p.wide.lo + b) (p.high.lo + d) (by omega) (by omega) (by omega) (by omega) (by omega) (by omega) (by omega) H _ cur2 (by
          simp only[List.length_append]
          have:a * (2 * (2 * 4 ^ 6))≤2 * (2 * (2 * 4 ^ 6)):=Nat.mul_le_mul_right _ (by omega)
          have:b * (2 * 4 ^ 6)≤2 * (2 * 4 ^ 6):=Nat.mul_le_mul_right _ (by omega)
          have:d * 4 ^ 6≤2 * 4 ^ 6:=Nat.mul_le_mul_right _ (by omega)
          unfold bound;omega) G2 hI2
        refine Does.mono hr ?_
        rintro e st ⟨rfl,G',cur',h1,h2⟩
        refine ⟨G',cur',?_,?_⟩
        · rw[Clm.fl_succ,← List.append_assoc];exact h1
        · rw[h2];congr 1;omega
      · rintro st ⟨G2,cur2,hI2,rfl⟩
        have hI2':=hideP hI2
        obtain ⟨⟨A1,A2,A3⟩,⟨B1,B2,B3⟩,_,_⟩:=hI2
        have x4:¬ (p.high.lo+(nh:Int)≤p.high.hi):=by omega
        unfold tr4St
        simp only[clampCs,pileC] at *
        (repeat (first|((with_reducible apply zad);(focus ((with_reducible apply zap);(focus rfl);(focus rfl);(focus ((conv=>lhs;simp[*,List.getElem?_append_right,List.set_append_right,List.getElem?_cons_zero,List.getElem?_append_left,List.set_append_left,-getElem?_pos,Nat.testBit_eq_decide_div_mod_eq])<;>exact rfl));(focus rfl);(focus rfl)));simp only[addFl])|(with_reducible apply zad;(focus ((conv=>lhs;simp[*,List.getElem?_append_right,List.set_append_right,List.getElem?_cons_zero,List.getElem?_append_left,List.set_append_left,-getElem?_pos,Nat.testBit_eq_decide_div_mod_eq])<;>exact rfl));simp only[addFl])|((with_reducible first|apply zai|apply zak|apply zah|apply zaf|apply zac|apply zaj|apply zag|apply zam|(apply zae;· simp[*,zaa])|(apply zab;· simp[*,zaa]));try simp only[Then,Ops,OutB,reduceIte])|simp only[Nat.reduceEqDiff,reduceIte,OutB,Then]))
        refine ⟨G2,cur2,by rw[Clm.fl_succ,← List.append_assoc];exact hI2'.out,?_⟩
        rw[show p.wide.lo+((b+1:Nat):Int)=p.wide.lo+(b:Int)+1 by omega]
        (refine st_is ?_ ?_ ?_ ?_;(focus (simp[zan,zaq]));(focus rfl);(focus (first|rfl|(simp;done)|(simp[*];done)|(simp;rfl)|(simp[*];omega)|(simp;omega)));(focus (first|rfl|simp)))
    · rintro st ⟨G1,cur1,hI1,rfl⟩
      have hI1':=hideP hI1
      obtain ⟨⟨A1,A2,A3⟩,⟨B1,B2,B3⟩,_,_⟩:=hI1
      have x4:¬ (p.wide.lo+(nw:Int)≤p.wide.hi):=by omega
      unfold tr2St
      simp only[clampCs,pileC] at *
      (repeat (first|((with_reducible apply zad);(focus ((with_reducible apply zap);(focus rfl);(focus rfl);(focus ((conv=>lhs;simp[*,List.getElem?_append_right,List.set_append_right,List.getElem?_cons_zero,List.getElem?_append_left,List.set_append_left,-getElem?_pos,Nat.testBit_eq_decide_div_mod_eq])<;>exact rfl));(focus rfl);(focus rfl)));simp only[addFl])|(with_reducible apply zad;(focus ((conv=>lhs;simp[*,List.getElem?_append_right,List.set_append_right,List.getElem?_cons_zero,List.getElem?_append_left,List.set_append_left,-getElem?_pos,Nat.testBit_eq_decide_div_mod_eq])<;>exact rfl));simp only[addFl])|((with_reducible first|apply zai|apply zak|apply zah|apply zaf|apply zac|apply zaj|apply zag|apply zam|(apply zae;· simp[*,zaa])|(apply zab;· simp[*,zaa]));try simp only[Then,Ops,OutB,reduceIte])|simp only[Nat.reduceEqDiff,reduceIte,OutB,Then]))
      refine ⟨G1,cur1,by rw[Clm.fl_succ];exact hI1'.out,?_⟩
      rw[show p.long.lo+((a+1:Nat):Int)=p.long.lo+(a:Int)+1 by omega]
      (refine st_is ?_ ?_ ?_ ?_;(focus (simp[zan,zaq]));(focus rfl);(focus (first|rfl|(simp;done)|(simp[*];done)|(simp;rfl)|(simp[*];omega)|(simp;omega)));(focus (first|rfl|simp)))
  · rintro st ⟨G0,cur0,hI0,rfl⟩
    obtain ⟨⟨A1,A2,A3⟩,⟨B1,B2,B3⟩,hlen,hli⟩:=hI0
    have HY:=hideP hli
    have hgH:H.length≤G0.length:=by omega
    clear hli hlen
    have x4:¬ (p.long.lo+(nl:Int)≤p.long.hi):=by omega
    unfold tr0St
    simp only[clampCs,pileC] at *
    (repeat (first|((with_reducible apply zad);(focus ((with_reducible apply zap);(focus rfl);(focus rfl);(focus ((conv=>lhs;simp[*,List.getElem?_append_right,List.set_append_right,List.getElem?_cons_zero,List.getElem?_append_left,List.set_append_left,-getElem?_pos,Nat.testBit_eq_decide_div_mod_eq])<;>exact rfl));(focus rfl);(focus rfl)));simp only[addFl])|(with_reducible apply zad;(focus ((conv=>lhs;simp[*,List.getElem?_append_right,List.set_append_right,List.getElem?_cons_zero,List.getElem?_append_left,List.set_append_left,-getElem?_pos,Nat.testBit_eq_decide_div_mod_eq])<;>exact rfl));simp only[addFl])|((with_reducible first|apply zai|apply zak|apply zah|apply zaf|apply zac|apply zaj|apply zag|apply zam|(apply zae;· simp[*,zaa])|(apply zab;· simp[*,zaa]));try simp only[Then,Ops,OutB,reduceIte])|simp only[Nat.reduceEqDiff,reduceIte,OutB,Then]))
    exact zao (v:=cur0) (.inl rfl) rfl hgH (by simp only[resL,resOf,zal];simp[*,resV]) ⟨rfl,HY.out.mono fun q _ hq=>by omega⟩
end K
end Ev
end Go.Proofs.YtimgnlellflciaaGreat

/- The reference of chapter 09, gone through: lists of lists, in heaps. -/
namespace Go.Proofs.YtimgnlellflciaaGreat
open Go
namespace Ev
namespace K
set_option maxRecDepth 100000
set_option maxHeartbeats 4000000
def ListV (w:AV):Prop:=w=.nils∨∃ q n k,w=.sl q 0 n k
theorem Li.listV {P:Nat→Prop}{G:List AB}{k:Nat}{cs:List AV}{n:Nat}{v:AV}(h:Li P G k cs n v):ListV v:=by
  cases h with
  |none _ _=>exact .inl rfl
  |some q _ _ _=>exact .inr ⟨q,n,k,rfl⟩
theorem HB.other {G:List AB}{q r:Nat}{x y:AB}(h:HB G q x)(g:HB G r y)(hne:x≠y):q≠r:=by
  rintro rfl
  exact hne (Option.some.inj (h.get.symm.trans g.get))
def isT (x:AB):Prop:=∃ T,x=.cells (trCs T)
def isV (x:AB):Prop:=∃ vs w,x=.cells vs∧vs[0]?=some w∧ListV w
def isC (x:AB):Prop:=∃ cs w k,x=.cells cs∧cs[0]?=some (.int .i64 k)∧cs[1]?=some w∧ListV w
theorem trCs_0 {T:List (Int × Int)}{w:AV}(h:(trCs T)[0]?=some w)(hl:ListV w):False:=by
  cases T with
  |nil=>simp[trCs] at h
  |cons p l=>
    simp only[trCs,List.getElem?_cons_zero,Option.some.injEq] at h
    subst h
    rcases hl with h|⟨_,_,_,h⟩<;>cases h
theorem trCs_1 {T:List (Int × Int)}{w:AV}(h:(trCs T)[1]?=some w)(hl:ListV w):False:=by
  cases T with
  |nil=>simp[trCs] at h
  |cons p l=>
    simp only[trCs,List.getElem?_cons_succ,List.getElem?_cons_zero,Option.some.injEq] at h
    subst h
    rcases hl with h|⟨_,_,_,h⟩<;>cases h
theorem T_ne_V {x y:AB}(h:isT x)(g:isV y):x≠y:=by
  obtain ⟨T,rfl⟩:=h
  obtain ⟨vs,w,rfl,h1,h2⟩:=g
  intro e
  cases e
  exact trCs_0 h1 h2
theorem T_ne_C {x y:AB}(h:isT x)(g:isC y):x≠y:=by
  obtain ⟨T,rfl⟩:=h
  obtain ⟨cs,w,k,rfl,_,h1,h2⟩:=g
  intro e
  cases e
  exact trCs_1 h1 h2
theorem V_ne_C {x y:AB}(h:isV x)(g:isC y):x≠y:=by
  obtain ⟨vs,w,rfl,h1,h2⟩:=h
  obtain ⟨cs,_,k,rfl,h3,_,_⟩:=g
  intro e
  cases e
  rw[h1] at h3
  cases h3
  rcases h2 with h|⟨_,_,_,h⟩<;>cases h
def TkE (P:Nat→Prop)(G:List AB)(L:List (List (Int × Int)))(vs:List AV):Prop:=vs.length=L.length∧∀ j,j<L.length→∃ w,vs[j]?=some w∧Li P G 2 (trCs (L.getD j [])) (L.getD j []).length w
inductive TkV (P:Nat→Prop) (G:List AB) (L:List (List (Int × Int))):AV→Prop
  |none:L=[]→TkV P G L .nils
  |some (q:Nat) (vs:List AV):L≠[]→P q→HB G q (.cells vs)→TkE P G L vs→TkV P G L (.sl q 0 L.length 1)
theorem TkE.keep {P Q:Nat→Prop}{G G':List AB}{L:List (List (Int × Int))}{vs:List AV}(h:TkE P G L vs)(hm:∀ q,q<G.length→P q→Q q)(hk:∀ q x,P q→isT x→HB G q x→HB G' q x):TkE Q G' L vs:=by
  refine ⟨h.1,fun j hj=>?_⟩
  obtain ⟨w,h1,h2⟩:=h.2 j hj
  refine ⟨w,h1,?_⟩
  cases h2 with
  |none h3 h4=>exact .none h3 h4
  |some q h3 h4 h5=>exact .some q (hm q h4.lt h3) (hk q _ h3 ⟨_,rfl⟩ h4) h5
theorem TkE.isV {P:Nat→Prop}{G:List AB}{L:List (List (Int × Int))}{vs:List AV}(h:TkE P G L vs)(hne:L≠[]):isV (.cells vs):=by
  obtain ⟨w,h1,h2⟩:=h.2 0 (List.length_pos_iff.2 hne)
  exact ⟨vs,w,rfl,h1,h2.listV⟩
theorem TkE.snoc {P:Nat→Prop}{G:List AB}{L:List (List (Int × Int))}{vs:List AV}{T:List (Int × Int)}{w:AV}(h:TkE P G L vs)(hw:Li P G 2 (trCs T) T.length w):TkE P G (L++[T]) (vs++[w]):=by
  refine ⟨by simp[h.1],fun j hj=>?_⟩
  rw[List.length_append,List.length_singleton] at hj
  by_cases hjl:j<L.length
  · obtain ⟨w',h1,h2⟩:=h.2 j hjl
    refine ⟨w',by rw[List.getElem?_append_left (by rw[h.1];exact hjl)];exact h1,?_⟩
    rw[List.getD_eq_getElem?_getD,List.getElem?_append_left hjl,← List.getD_eq_getElem?_getD]
    exact h2
  · have e:j=L.length:=by omega
    subst e
    refine ⟨w,by rw[← h.1,List.getElem?_append_right (Nat.le_refl _),Nat.sub_self];rfl,?_⟩
    rw[List.getD_eq_getElem?_getD,List.getElem?_append_right (Nat.le_refl _),Nat.sub_self]
    exact hw
theorem TkV.keep {P Q:Nat→Prop}{G G':List AB}{L:List (List (Int × Int))}{v:AV}(h:TkV P G L v)(hm:∀ q,q<G.length→P q→Q q)(hk:∀ q x,P q→isT x∨isV x→HB G q x→HB G' q x):TkV Q G' L v:=by
  cases h with
  |none h=>exact .none h
  |some q vs h1 h2 h3 h4=>exact .some q vs h1 (hm q h3.lt h2) (hk q _ h2 (.inr (h4.isV h1)) h3) (h4.keep hm fun q x a b c=>hk q x a (.inl b) c)
theorem TkV.listV {P:Nat→Prop}{G:List AB}{L:List (List (Int × Int))}{v:AV}(h:TkV P G L v):ListV v:=by
  cases h with
  |none _=>exact .inl rfl
  |some q vs _ _ _ _=>exact .inr ⟨q,_,_,rfl⟩
def CsE (P:Nat→Prop)(G:List AB)(L:List (Int × List (List (Int × Int))))(cs:List AV):Prop:=cs.length=L.length * 2∧∀ j,j<L.length→∃ w,cs[j * 2]?=some (.int .i64 (L.getD j (0,[])).1)∧cs[j * 2+1]?=some w∧TkV P G (L.getD j (0,[])).2 w
inductive CsV (P:Nat→Prop) (G:List AB) (L:List (Int × List (List (Int × Int)))):AV→Prop
  |none:L=[]→CsV P G L .nils
  |some (q:Nat) (cs:List AV):L≠[]→P q→HB G q (.cells cs)→CsE P G L cs→CsV P G L (.sl q 0 L.length 2)
theorem CsE.keep {P Q:Nat→Prop}{G G':List AB}{L:List (Int × List (List (Int × Int)))}{cs:List AV}(h:CsE P G L cs)(hm:∀ q,q<G.length→P q→Q q)(hk:∀ q x,P q→isT x∨isV x→HB G q x→HB G' q x):CsE Q G' L cs:=by
  refine ⟨h.1,fun j hj=>?_⟩
  obtain ⟨w,h1,h2,h3⟩:=h.2 j hj
  exact ⟨w,h1,h2,h3.keep hm hk⟩
theorem CsE.isC {P:Nat→Prop}{G:List AB}{L:List (Int × List (List (Int × Int)))}{cs:List AV}(h:CsE P G L cs)(hne:L≠[]):isC (.cells cs):=by
  obtain ⟨w,h1,h2,h3⟩:=h.2 0 (List.length_pos_iff.2 hne)
  exact ⟨cs,w,_,rfl,h1,h2,h3.listV⟩
theorem CsE.snoc {P:Nat→Prop}{G:List AB}{L:List (Int × List (List (Int × Int)))}{cs:List AV}{k:Int}{T:List (List (Int × Int))}{w:AV}(h:CsE P G L cs)(hw:TkV P G T w):CsE P G (L++[(k,T)]) (cs++[.int .i64 k,w]):=by
  refine ⟨by simp[h.1];omega,fun j hj=>?_⟩
  rw[List.length_append,List.length_singleton] at hj
  by_cases hjl:j<L.length
  · obtain ⟨w',h1,h2,h3⟩:=h.2 j hjl
    have e:(L++[(k,T)]).getD j (0,[])=L.getD j (0,[]):=by rw[List.getD_eq_getElem?_getD,List.getElem?_append_left hjl,← List.getD_eq_getElem?_getD]
    rw[e]
    exact ⟨w',by rw[List.getElem?_append_left (by rw[h.1];omega)];exact h1,by rw[List.getElem?_append_left (by rw[h.1];omega)];exact h2,h3⟩
  · have e:j=L.length:=by omega
    subst e
    have e:(L++[(k,T)]).getD L.length (0,[])=(k,T):=by rw[List.getD_eq_getElem?_getD,List.getElem?_append_right (Nat.le_refl _),Nat.sub_self];rfl
    rw[e]
    exact ⟨w,by rw[← h.1,List.getElem?_append_right (Nat.le_refl _),Nat.sub_self];rfl,by rw[← h.1,List.getElem?_append_right (by omega),Nat.add_sub_cancel_left];rfl,hw⟩
theorem CsV.keep {P Q:Nat→Prop}{G G':List AB}{L:List (Int × List (List (Int × Int)))}{v:AV}(h:CsV P G L v)(hm:∀ q,q<G.length→P q→Q q)(hk:∀ q x,P q→HB G q x→HB G' q x):CsV Q G' L v:=by
  cases h with
  |none h=>exact .none h
  |some q cs h1 h2 h3 h4=>exact .some q cs h1 (hm q h3.lt h2) (hk q _ h2 h3) (h4.keep hm fun q x a _ c=>hk q x a c)
def TrkC (call:CallF)(c:Clm.Cl)(set:Nat):Prop:=∀ (H:List AB) (i:Nat) (k:Int),i<c.piles.length→0≤k→k≤5→∃ v G,call (.fn (.func 93) [] []) [.agg (clampCs c),.int .i64 i,.int .i64 k,.int .i64 set] H=some (.ret v,G,[])∧H.length≤G.length∧(∀ r x,HB H r x→HB G r x)∧Li (fun q=>H.length≤q) G 2 (trCs (Clm.tracksR c i k set)) (Clm.tracksR c i k set).length v
theorem zno {C:Cfg}{n0:Nat}(hC:C.calm=true)(h0:Has C 93 af93){c:Clm.Cl}(hc:Clm.Fine c){set:Nat}(hA:∀ i,AftC (Ev.call C n0) c i set 0):TrkC (Ev.call C (n0+1)) c set:=by
  intro H i k hi k0 k5
  obtain ⟨v,hp,tc,G,c1,⟨rfl,h2⟩,c3,c4,c5⟩:=zbo (first:=[]) (captured:=[]) (args:=[.agg (clampCs c),.int .i64 i,.int .i64 k,.int .i64 set]) (H:=H) hC h0.ext h0.exth h0.fns h0.whole (le' rfl) (zri C hC _ c hc i set hi (hA i) k k0 k5 H)
  refine ⟨v,G,c1,c3.len,fun r x h=>hb ((c3.old r h.lt (by simp)).trans h.get),?_⟩
  cases h2 with
  |none h3 h4=>exact .none h3 h4
  |some q h3 h4 h5=>exact .some q h3 (hb (((c4 (.inl (by simp[refs]))).2 q h3).trans h4.get)) h5
end K
end Ev
end Go.Proofs.YtimgnlellflciaaGreat

/- The reference of chapter 09, gone through: all cases. -/
namespace Go.Proofs.YtimgnlellflciaaGreat
open Go
namespace Ev
namespace K
attribute [local simp] ev1 wantG spineK spine float xnew xval xeff zaa zar zbb zau zav addFl cellsOf pickC alive slLen slFt binI maxA maxK minA minK aeqK aeqS AV.cells spA zas fillA setAt bitsI nat_nn zbe AV.plain apart
set_option maxRecDepth 100000
set_option maxHeartbeats 4000000
structure CaI (H:List AB) (c:Clm.Cl) (k:Int) (xb:Nat) (D:List (Int × List (List (Int × Int)))) (out:AV) (L:List (List (Int × Int))) (tv:AV) (G:List AB):Prop where
  c0:HB G H.length (.cells (clampCs c))
  x0:HB G xb (.cells [.int .i64 k,tv])
  lo:H.length<xb
  out:CsV (fun q=>H.length<q∧q<xb) G D out
  tk:TkV (fun q=>xb<q) G L tv
def ca2St (H:List AB)(set:Nat)(out:AV)(k:Int)(xb:Nat)(acc:Bool)(i:Nat)(G:List AB):St:={ tm:=tmA 53 [(9,.int .i64 i),(8,.bool acc),(7,.ptr xb 0),(6,.int .i64 k),(5,out),(2,.ptr H.length 0),(1,.int .i64 set)],df:=[],hp:=G,tc:=[] }
theorem zzz (C:Cfg)(call:CallF)(c:Clm.Cl)(hp4:c.piles.length≤4)(set:Nat)(hTr:TrkC call c set)(k:Int)(k0:0≤k)(k5:k≤5)(i:Nat)(hi:i<c.piles.length)(H:List AB)(D:List (Int × List (List (Int × Int))))(out:AV)(xb:Nat)(L:List (List (Int × Int)))(hL:L.length=i)(tv:AV)(acc:Bool)(G:List AB)(hG:CaI H c k xb D out L tv G):
    Does (ev C call H.length none (atP [1,1,0,1,0,0,1,0,0,1,0,1,0,0] af73.body) (ca2St H set out k xb acc i G))
      (fun e st=>e=.normal∧∃ G' tv',CaI H c k xb D out (L++[Clm.tracksR c i k set]) tv' G'∧{ st with tm:=keepT [1,2,5,6,7,8,9] st.tm }=ca2St H set out k xb (acc&&!(Clm.tracksR c i k set).isEmpty) (i+1) G'):=by
  obtain ⟨c0,x0,hlo,hout,htk⟩:=hG
  have hxG:=x0.lt
  obtain ⟨v,G1,hcall,l1,kp,hT⟩:=hTr G i k hi k0 k5
  obtain ⟨O1,O2,O3⟩:=c0
  replace c0:=kp _ _ (HB.mk O1 O2 O3)
  replace x0:=kp _ _ x0
  replace hout:=hout.keep (Q:=fun q=>H.length<q∧q<xb) (fun q _ h=>h) (fun q x _ h=>kp q x h)
  replace htk:=htk.keep (Q:=fun q=>xb<q) (fun q _ h=>h) (fun q x _ _ h=>kp q x h)
  generalize Clm.tracksR c i k set=T at *
  have hT':Li (fun q=>xb<q) G1 2 (trCs T) T.length v:=hT.mono fun q _ hq=>by omega
  have e5:(i:Int)<c.piles.length:=by omega
  have hwi:IntKind.i64.wrap ((i:Int)+1)=(i:Int)+1:=zat (by omega) (by omega)
  have g0:¬ (xb<H.length):=by omega
  have gG:∀ n,¬ (G1.length+n<H.length):=fun n=>by omega
  have gG0:¬ (G1.length<H.length):=by omega
  have hb1:1≤bound:=by decide
  have hb2:i+1≤bound:=by unfold bound;omega
  have hne:xb≠H.length:=by omega
  have hvc:∃ m:Bool,(!T.isEmpty)=m∧((v=.nils∧m=false)∨∃ q n,v=.sl q 0 n 2∧HB G1 q (.cells (trCs T))∧((m=false∧n=0)∨(m=true∧0<n))):=by
    cases hT with
    |none h1 h2=>exact ⟨_,rfl,.inl ⟨rfl,by rw[List.eq_nil_of_length_eq_zero h2];rfl⟩⟩
    |some q h1 h2 h3=>
      refine ⟨_,rfl,.inr ⟨q,_,rfl,h2,?_⟩⟩
      cases T with
      |nil=>exact .inl ⟨rfl,rfl⟩
      |cons a l=>exact .inr ⟨rfl,by simp⟩
  have htc:tv=.nils∧L=[]∧i=0∨∃ q vs,tv=.sl q 0 i 1∧xb<q∧HB G1 q (.cells vs)∧TkE (fun q=>xb<q) G1 L vs∧vs.length=i∧isV (.cells vs):=by
    cases htk with
    |none h=>exact .inl ⟨rfl,h,by rw[← hL,h];rfl⟩
    |some q vs h1 h2 h3 h4=>exact .inr ⟨q,vs,by rw[hL],h2,h3,h4,h4.1.trans hL,h4.isV h1⟩
  -- what is kept where the list grows
  have HO:=hideP (And.intro c0 (And.intro x0 (And.intro hout (And.intro hT' (And.intro hlo hL)))))
  have hfinal:∀ (G2:List AB) (vs:List AV) (q':Nat),(∀ r x,r≠xb→(r<xb∨isT x)→HB G1 r x→HB G2 r x)→HB G2 xb (.cells [.int .i64 k,.sl q' 0 (i+1) 1])→xb<q'→HB G2 q' (.cells (vs++[v]))→TkE (fun q=>xb<q) G1 L vs →
      CaI H c k xb D out (L++[T]) (.sl q' 0 (i+1) 1) G2:=by
    intro G2 vs q' hk hx hq hv hE
    refine ⟨hk _ _ (by omega) (.inl hlo) c0,hx,hlo,hout.keep (fun q _ h=>h) (fun q x h1 h2=>hk q x (by omega) (.inl h1.2) h2),?_⟩
    have e:(L++[T]).length=i+1:=by rw[List.length_append,hL];rfl
    rw[← e]
    exact .some q' (vs++[v]) (by simp) hq hv ((hE.snoc hT').keep (fun q _ h=>h) fun q x h1 h2 h3=>hk q x (by omega) (.inr h2) h3)
  have HF:=hideP hfinal
  obtain ⟨A1,A2,A3⟩:=c0
  obtain ⟨B1,B2,B3⟩:=x0
  clear hfinal hTr hT hT' hout htk kp l1 hL
  obtain ⟨m,hm,hvc⟩:=hvc
  rw[hm]
  clear hm
  rcases htc with ⟨rfl,rfl,hi0⟩|⟨q1,vs,rfl,hq1,hV,hE,hvl,hiV⟩
  · have HI:=hideP hi0
    clear hi0
    have hx0:=HO.out.2.1
    have hv:∀ x,HB (G1.set xb x++[.cells [v],.cells [v]]) (G1.length+1) (.cells [v]):=fun x=>hb (by rw[List.getElem?_append_right (by simp)];simp)
    have hq:xb<G1.length+1:=by omega
    have HE:=hideP (And.intro hx0 hv)
    clear hx0 hv
    rcases hvc with ⟨rfl,rfl⟩|⟨q2,n,rfl,⟨Q1,Q2,Q3⟩,⟨rfl,rfl⟩|⟨rfl,hn⟩⟩
    all_goals cases acc
    all_goals
      unfold af73 ca2St
      simp only[atP,clampCs] at *
      (repeat (first|((with_reducible apply zad);(focus ((with_reducible apply zap);(focus rfl);(focus rfl);(focus ((conv=>lhs;simp[*,List.getElem?_append_right,List.set_append_right,List.getElem?_cons_zero,List.getElem?_append_left,List.set_append_left,-getElem?_pos,Nat.testBit_eq_decide_div_mod_eq])<;>exact rfl));(focus rfl);(focus rfl)));simp only[addFl])|(with_reducible apply zad;(focus ((conv=>lhs;simp[*,List.getElem?_append_right,List.set_append_right,List.getElem?_cons_zero,List.getElem?_append_left,List.set_append_left,-getElem?_pos,Nat.testBit_eq_decide_div_mod_eq])<;>exact rfl));simp only[addFl])|((with_reducible first|apply zai|apply zak|apply zah|apply zaf|apply zac|apply zaj|apply zag|apply zam|(apply zae;· simp[*,zaa])|(apply zab;· simp[*,zaa]));try simp only[Then,Ops,OutB])|simp only[Nat.reduceEqDiff,reduceIte,OutB,Then]))
      have hi0:=HI.out
      subst hi0
      refine ⟨by first|rfl|trivial,_,_,HF.out _ [] (G1.length+1) (fun r x hr _ h=>(h.set (r:=xb) _ (Ne.symm hr)).app _) ((HE.out.1.here _).app _) hq (HE.out.2 _) ⟨rfl,fun j hj=>absurd hj (by simp)⟩,?_⟩
      (refine st_is ?_ ?_ ?_ ?_;(focus (simp[zan,zaq]));(focus rfl);(focus (first|rfl|(simp;done)|(simp[*];done)|(simp;rfl)|(simp[*];omega)|(simp;omega)));(focus (first|rfl|simp)))
  · have hx0:=HO.out.2.1
    have n1:xb≠q1:=by omega
    have n2:¬ (q1<H.length):=by omega
    have n3:q1≠xb:=by omega
    have n4:q1≠H.length:=by omega
    have hv:∀ x,HB ((G1.set q1 .dead).set xb x++[.cells [v],.cells (vs++[v])]) (G1.length+1) (.cells (vs++[v])):=fun x=>hb (by rw[List.getElem?_append_right (by simp)];simp)
    have hk:∀ y K r x,r≠xb→(r<xb∨isT x)→HB G1 r x→HB ((G1.set q1 .dead).set xb y++K) r x:=fun y K r x hr hx h=>by
      refine ((h.set _ ?_).set _ (Ne.symm hr)).app _
      rcases hx with hx|hx
      · omega
      · exact hV.other h (T_ne_V hx hiV).symm
    have hq:xb<G1.length+1:=by omega
    have hpl:vs.all AV.plain=true:=by
      rw[List.all_eq_true]
      intro w hw
      obtain ⟨j,hj,rfl⟩:=List.getElem_of_mem hw
      obtain ⟨w',h1,h2⟩:=hE.2 j (by rw[← hE.1];exact hj)
      rw[List.getElem?_eq_getElem hj] at h1
      cases h1
      rcases h2.listV with h|⟨_,_,_,h⟩<;>rw[h]<;>rfl
    have HE:=hideP (And.intro hx0 (And.intro hv (And.intro hk hE)))
    clear hx0 hv hk hE hiV hq1 hlo
    obtain ⟨V1,V2,V3⟩:=hV
    rcases hvc with ⟨rfl,rfl⟩|⟨q2,n,rfl,⟨Q1,Q2,Q3⟩,⟨rfl,rfl⟩|⟨rfl,hn⟩⟩
    all_goals cases acc
    all_goals
      unfold af73 ca2St
      simp only[atP,clampCs] at *
      (repeat (first|((with_reducible apply zad);(focus ((with_reducible apply zap);(focus rfl);(focus rfl);(focus ((conv=>lhs;simp[*,List.getElem?_append_right,List.set_append_right,List.getElem?_cons_zero,List.getElem?_append_left,List.set_append_left,-getElem?_pos,Nat.testBit_eq_decide_div_mod_eq])<;>exact rfl));(focus rfl);(focus rfl)));simp only[addFl])|(with_reducible apply zad;(focus ((conv=>lhs;simp[*,List.getElem?_append_right,List.set_append_right,List.getElem?_cons_zero,List.getElem?_append_left,List.set_append_left,-getElem?_pos,Nat.testBit_eq_decide_div_mod_eq])<;>exact rfl));simp only[addFl])|((with_reducible first|apply zai|apply zak|apply zah|apply zaf|apply zac|apply zaj|apply zag|apply zam|(apply zae;· simp[*,zaa])|(apply zab;· simp[*,zaa]));try simp only[Then,Ops,OutB])|simp only[Nat.reduceEqDiff,reduceIte,OutB,Then]))
      refine ⟨by first|rfl|trivial,_,_,HF.out _ vs (G1.length+1) (HE.out.2.2.1 _ _) (((HE.out.1.set _ n3).here _).app _) hq (HE.out.2.1 _) HE.out.2.2.2,?_⟩
      (refine st_is ?_ ?_ ?_ ?_;(focus (simp[zan,zaq]));(focus rfl);(focus (first|rfl|(simp;done)|(simp[*];done)|(simp;rfl)|(simp[*];omega)|(simp;omega)));(focus (first|rfl|simp)))
end K
end Ev
end Go.Proofs.YtimgnlellflciaaGreat
