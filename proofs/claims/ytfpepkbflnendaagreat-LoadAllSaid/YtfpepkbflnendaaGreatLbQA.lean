/- The reference of chapter 11, gone through: whether loads are valid. -/
import Derived.Test.YtfpepkbflnendaaGreatLbEA
import Derived.Test.YtfpepkbflnendaaGreatLbPB
import Derived.Test.YtfpepkbflnendaaGreatLbPC
import Derived.Test.YtfpepkbflnendaaGreatLbPF
/- The code of the functions, for the evaluator (reference). Printed by program. -/
namespace Go.Proofs.YtfpepkbflnendaaGreat
open Go
namespace Ev
def af22:AFunc:=⟨26,[.tmp 4],Zq [Zo 0 4 (.mov Zy)] (.seq (Zq [Zm 0 6 0,Zo 1 7 (.len (Zt 6)),Zm 2 8 1,Zo 3 9 (.len (Zt 8)),Zo 4 10 (Za .neq 7 9)] (Zu 10 (Zq [Zo 0 4 (.mov Zy)] .ret) .skip)) (.seq (Zq [Zo 0 5 (.mov (Zn 0))] (.block 0 (.loop [0,1,5] (.seq (Zq [Zm 0 11 5,Zm 1 12 0,Zo 2 13 (.len (Zt 12)),Zo 3 14 (Za .lss 11 13)] (Zu 14 .skip (.exit 0))) (.seq (.block 1 (Zr [Zm 0 17 0,Zm 1 18 5,Zd 2 19 3 (Zj 1 17 18),Zd 3 20 7 (.load none (Zt 19)),Zm 4 21 1,Zm 5 22 5,Zd 6 23 48 (Zj 1 21 22),Zd 7 24 112 (.load none (Zt 23)),Zd 8 25 255 (Za .neq 20 24)] (Zu 25 (Zq [Zo 0 4 (.mov Zy)] .ret) .skip))) (.ops [Zm 0 15 5,Zo 1 16 (Zb .add 15 1),Zm 2 5 16])))))) (Zq [Zo 0 4 (.mov Zw)] .ret)))⟩
def af30:AFunc:=⟨60,[.tmp 2],Zq [Zo 0 1 (.box (Zt 0)),Zo 1 2 (.mov Zy)] (.seq (Zq [Zo 0 4 (Zf 0 1),Zo 1 5 (Zg 2 4),Zo 2 6 (Zc 93 [Zt 5]),Zo 3 7 (.not (Zt 6)),Zm 4 8 7,Zk 5 9 8 0 (Zf 0 1),Zk 6 10 8 0 (Zf 1 9),Zk 7 11 8 0 (.load none (Zt 10)),Zk 8 12 8 0 (.len (Zt 11)),Zk 9 13 8 0 (Zb .gtr 12 2),Zo 10 14 (.pick (Zt 8) Zw (Zt 13)),Zm 11 15 14,Zk 12 16 15 0 (Zf 0 1),Zk 13 17 15 0 (Zg 2 16),Zk 14 18 15 0 (Zc 94 [Zt 17]),Zk 15 19 15 0 (.len (Zt 18)),Zk 16 20 15 0 (Zb .eql 19 0),Zo 17 21 (.pick (Zt 15) Zw (Zt 20)),Zm 18 22 21,Zk 19 23 22 0 (Zf 2 1),Zk 20 24 22 0 (.load none (Zt 23)),Zk 21 25 22 0 (Zc 95 [Zt 24,Zn 1,Zn 4]),Zk 22 26 22 0 (.not (Zt 25)),Zo 23 27 (.pick (Zt 22) Zw (Zt 26)),Zm 24 28 27,Zk 25 29 28 0 (Zf 3 1),Zk 26 30 28 0 (.load none (Zt 29)),Zk 27 31 28 0 (.len (Zt 30)),Zk 28 32 28 0 (Zb .gtr 31 4),Zo 29 33 (.pick (Zt 28) Zw (Zt 32))] (Zu 33 (Zq [Zo 0 2 (.mov Zy)] .ret) .skip)) (.seq (Zq [Zo 0 3 (.mov (Zn 0))] (.block 0 (.loop [1,3] (.seq (Zq [Zm 0 34 3,Zo 1 35 (Zf 3 1),Zl 2 36 35,Zo 3 37 (.len (Zt 36)),Zo 4 38 (Za .lss 34 37)] (Zu 38 .skip (.exit 0))) (.seq (.block 1 (Zr [Zo 0 41 (Zf 3 1),Zd 1 42 1 (.load none (Zt 41)),Zm 2 43 3,Zd 3 44 7 (Zj 2 42 43),Zd 4 45 15 (Zf 0 44),Zd 5 46 31 (.load none (Zt 45)),Zd 6 47 63 (Zc 95 [Zt 46,Zn 0,Zn 60]),Zd 7 48 127 (.not (Zt 47)),Zd 8 49 255 (.mov (Zt 48)),Zk 9 50 49 511 (Zg 4 1),Zk 10 51 49 511 (Zf 3 1),Zk 11 52 49 1535 (.load none (Zt 51)),Zk 12 53 49 511 (.mov (Zt 3)),Zk 13 54 49 7679 (Zj 2 52 53),Zk 14 55 49 15871 (Zf 1 54),Zk 15 56 49 32255 (.load none (Zt 55)),Zk 16 57 49 65535 (Zc 92 [Zt 50,Zt 56]),Zk 17 58 49 131071 (.not (Zt 57)),Zd 18 59 262143 (.pick (Zt 49) Zw (Zt 58))] (Zu 59 (Zq [Zo 0 2 (.mov Zy)] .ret) .skip))) (.ops [Zm 0 39 3,Zo 1 40 (Zb .add 39 1),Zm 2 3 40])))))) (Zq [Zo 0 2 (.mov Zw)] .ret)))⟩
def af92:AFunc:=⟨10,[.tmp 4],Zq [Zo 0 2 (.box (Zt 0)),Zo 1 4 (.mov Zy)] (Zq [Zm 0 5 1,Zo 1 6 (Zf 2 2),Zl 2 7 6,Zo 3 8 (Zb .sub 7 1),Zo 4 9 (Zc 95 [Zt 5,Zn 0,Zt 8]),Zm 5 4 9] .ret)⟩
def af93:AFunc:=⟨87,[.tmp 2],Zq [Zo 0 1 (.box (Zt 0)),Zo 1 2 (.mov Zy)] (.seq (Zq [Zo 0 8 (Zf 0 1),Zl 1 9 8,Zo 2 10 (.len (Zt 9)),Zo 3 11 (Zc 126 [Zt 10,Zn 1,Zn 4]),Zo 4 12 (.not (Zt 11)),Zm 5 13 12,Zk 6 14 13 0 (Zf 1 1),Zk 7 15 13 0 (.load none (Zt 14)),Zk 8 16 13 0 (.len (Zt 15)),Zk 9 17 13 0 (Zb .gtr 16 10),Zo 10 18 (.pick (Zt 13) Zw (Zt 17))] (Zu 18 (Zq [Zo 0 2 (.mov Zy)] .ret) .skip)) (.seq (Zq [Zo 0 3 (.mov (Zn 0))] (.block 0 (.loop [1,3] (.seq (Zq [Zm 0 19 3,Zo 1 20 (Zf 0 1),Zl 2 21 20,Zo 3 22 (.len (Zt 21)),Zo 4 23 (Za .lss 19 22)] (Zu 23 .skip (.exit 0))) (.seq (.block 1 (Zq [Zo 0 26 (Zf 0 1),Zl 1 27 26,Zm 2 28 3,Zo 3 29 (Zj 7 27 28),Zo 4 30 (Zg 7 29),Zo 5 4 (.alloc [Zi 0,Zi 0,Zi 0,Zi 0,Zi 0,Zi 0,Zi 0]),Zs 6 (.store 7 (Zt 4) (Zt 30))] (Zq [Zo 0 31 (Zf 6 4),Zl 1 32 31,Zo 2 33 (Zc 126 [Zt 32,Zn 0,Zn 60]),Zo 3 34 (.not (Zt 33)),Zm 4 35 34,Zk 5 36 35 0 (Zf 0 4),Zk 6 37 35 0 (Zg 2 36),Zk 7 38 35 0 (Zf 6 4),Zk 8 39 35 0 (.load none (Zt 38)),Zk 9 40 35 0 (Zc 127 [Zt 37,Zn 0,Zt 39,Zn 2]),Zk 10 41 35 0 (.not (Zt 40)),Zo 11 42 (.pick (Zt 35) Zw (Zt 41)),Zm 12 43 42,Zk 13 44 43 0 (Zf 2 4),Zk 14 45 43 0 (Zg 2 44),Zk 15 46 43 0 (Zc 127 [Zt 45,Zn 1,Zn 10,Zn 2]),Zk 16 47 43 0 (.not (Zt 46)),Zo 17 48 (.pick (Zt 43) Zw (Zt 47)),Zm 18 49 48,Zk 19 50 49 0 (Zf 4 4),Zk 20 51 49 0 (Zg 2 50),Zk 21 52 49 0 (Zc 127 [Zt 51,Zn 0,Zn 5,Zn 2]),Zk 22 53 49 0 (.not (Zt 52)),Zo 23 54 (.pick (Zt 49) Zw (Zt 53))] (Zu 54 (Zq [Zo 0 2 (.mov Zy)] .ret) .skip)))) (.ops [Zm 0 24 3,Zo 1 25 (Zb .add 24 1),Zm 2 3 25])))))) (Zq [Zo 0 5 (.mov (Zn 0))] (.seq (Zq [Zo 0 6 (.mov (Zn 0))] (.block 2 (.loop [1,5,6] (.seq (Zq [Zm 0 55 6,Zo 1 56 (Zf 1 1),Zl 2 57 56,Zo 3 58 (.len (Zt 57)),Zo 4 59 (Za .lss 55 58)] (Zu 59 .skip (.exit 2))) (.seq (.block 3 (Zq [Zo 0 62 (Zf 1 1),Zl 1 63 62,Zm 2 64 6,Zo 3 65 (Zj 7 63 64),Zo 4 66 (Zg 7 65),Zo 5 7 (.alloc [Zi 0,Zi 0,Zi 0,Zi 0,Zi 0,Zi 0,Zi 0]),Zs 6 (.store 7 (Zt 7) (Zt 66))] (.seq (Zq [Zo 0 67 (Zg 2 1),Zo 1 68 (Zg 7 7),Zo 2 69 (Zc 128 [Zt 67,Zt 68]),Zo 3 70 (.not (Zt 69))] (Zu 70 (Zq [Zo 0 2 (.mov Zy)] .ret) .skip)) (Zq [Zo 0 71 (Zf 0 7),Zl 1 72 71,Zo 2 73 (Zb .eql 72 0),Zm 3 74 73,Zh 4 75 74 0 (Zf 1 7),Zh 5 76 74 0 (Zf 0 75),Zh 6 77 74 0 (.load none (Zt 76)),Zh 7 78 74 0 (Zf 1 7),Zh 8 79 74 0 (Zf 1 78),Zh 9 80 74 0 (.load none (Zt 79)),Zh 10 81 74 0 (Za .lss 77 80),Zo 11 82 (.pick (Zt 74) (Zt 81) Zy)] (Zu 82 (.ops [Zm 0 83 5,Zo 1 84 (Zb .add 83 1),Zm 2 5 84]) .skip))))) (.ops [Zm 0 60 6,Zo 1 61 (Zb .add 60 1),Zm 2 6 61])))))) (Zq [Zm 0 85 5,Zo 1 86 (Zb .leq 85 4),Zm 2 2 86] .ret)))))⟩
def af94:AFunc:=⟨7,[.tmp 2],Zq [Zo 0 1 (.box (Zt 0)),Zo 1 2 (.mov (.val .nils))] (Zr [Zo 0 3 (Zg 2 1),Zo 1 4 (Zg 2 1),Zd 2 5 2 (Zc 130 [Zt 4]),Zd 3 6 7 (Zc 129 [Zt 3,Zt 5]),Zd 4 2 15 (.mov (Zt 6))] .ret)⟩
def af95:AFunc:=⟨15,[.tmp 6],Zq [Zo 0 6 (.mov Zy)] (Zq [Zm 0 7 1,Zm 1 8 0,Zo 2 9 (Za .leq 7 8),Zm 3 10 9,Zh 4 11 10 0 (.mov (Zt 0)),Zh 5 12 10 0 (.mov (Zt 2)),Zh 6 13 10 0 (Za .leq 11 12),Zo 7 14 (.pick (Zt 10) (Zt 13) Zy),Zm 8 6 14] .ret)⟩
def af126:AFunc:=⟨15,[.tmp 6],Zq [Zo 0 6 (.mov Zy)] (Zq [Zm 0 7 1,Zm 1 8 0,Zo 2 9 (Za .leq 7 8),Zm 3 10 9,Zh 4 11 10 0 (.mov (Zt 0)),Zh 5 12 10 0 (.mov (Zt 2)),Zh 6 13 10 0 (Za .leq 11 12),Zo 7 14 (.pick (Zt 10) (Zt 13) Zy),Zm 8 6 14] .ret)⟩
def af127:AFunc:=⟨35,[.tmp 8],Zq [Zo 0 4 (.box (Zt 0)),Zo 1 8 (.mov Zy)] (Zq [Zm 0 9 1,Zo 1 10 (Zf 0 4),Zl 2 11 10,Zo 3 12 (Za .leq 9 11),Zm 4 13 12,Zh 5 14 13 0 (Zf 0 4),Zh 6 15 13 0 (.load none (Zt 14)),Zh 7 16 13 0 (Zf 1 4),Zh 8 17 13 0 (.load none (Zt 16)),Zh 9 18 13 0 (Za .leq 15 17),Zo 10 19 (.pick (Zt 13) (Zt 18) Zy),Zm 11 20 19,Zh 12 21 20 0 (Zf 1 4),Zh 13 22 20 0 (.load none (Zt 21)),Zh 14 23 20 0 (.mov (Zt 2)),Zh 15 24 20 0 (Za .leq 22 23),Zo 16 25 (.pick (Zt 20) (Zt 24) Zy),Zm 17 26 25,Zh 18 27 26 0 (Zf 1 4),Zh 19 28 26 0 (.load none (Zt 27)),Zh 20 29 26 0 (Zf 0 4),Zh 21 30 26 0 (.load none (Zt 29)),Zh 22 31 26 0 (Za .sub 28 30),Zh 23 32 26 0 (.mov (Zt 3)),Zh 24 33 26 0 (Za .leq 31 32),Zo 25 34 (.pick (Zt 26) (Zt 33) Zy),Zm 26 8 34] .ret)⟩
def af128:AFunc:=⟨28,[.tmp 4],Zq [Zo 0 2 (.box (Zt 0)),Zo 1 3 (.box (Zt 1)),Zo 2 4 (.mov Zy)] (.seq (Zq [Zo 0 5 (Zf 0 3),Zl 1 6 5] (.block 0 (Zq [Zo 0 8 (Zb .eql 6 0),Zm 1 7 8] (Zu 7 (Zq [Zo 0 9 (Zf 1 3),Zo 1 10 (Zg 2 9),Zo 2 11 (Zc 127 [Zt 10,Zn 0,Zn 60,Zn 2]),Zm 3 4 11] .ret) (Zq [Zo 0 13 (Zb .eql 6 1),Zm 1 12 13] (Zu 12 (Zq [Zo 0 14 (Zf 3 3),Zl 1 15 14,Zo 2 16 (Zc 126 [Zt 15,Zn 1,Zn 10]),Zm 3 4 16] .ret) (Zq [Zo 0 18 (Zb .eql 6 2),Zm 1 17 18] (Zu 17 (Zq [Zo 0 19 (Zg 2 2),Zo 1 20 (Zf 4 3),Zl 2 21 20,Zo 3 22 (Zc 154 [Zt 19,Zt 21]),Zm 4 23 22,Zh 5 24 23 0 (Zf 5 3),Zh 6 25 23 0 (Zg 2 24),Zh 7 26 23 0 (Zc 127 [Zt 25,Zn (-1000),Zn 1000,Zn 2000]),Zo 8 27 (.pick (Zt 23) (Zt 26) Zy),Zm 9 4 27] .ret) .skip)))))))) (Zq [Zo 0 4 (.mov Zy)] .ret))⟩
def af129:AFunc:=⟨58,[.tmp 4],Zq [Zo 0 2 (.box (Zt 0)),Zo 1 4 (.mov (.val .nils))] (Zq [Zo 0 12 (Zg 2 2),Zo 1 13 (Zc 155 [Zt 12,.val .nils,.val .nils]),Zm 2 5 13] (Zq [Zo 0 6 (.mov (.val .nils))] (.seq (Zq [Zo 0 7 (.mov (Zn 0))] (.block 0 (.loop [1,2,5,6,7] (.seq (Zq [Zm 0 14 7,Zm 1 15 5,Zo 2 16 (.len (Zt 15)),Zo 3 17 (Za .lss 14 16)] (Zu 17 .skip (.exit 0))) (.seq (.block 1 (Zq [Zm 0 20 5,Zm 1 21 7,Zo 2 22 (Zj 1 20 21),Zl 3 23 22,Zo 4 24 (.build [.nils,.nils] [(0,(1,Zt 23))]),Zo 5 8 (.alloc [.nils,.nils]),Zs 6 (.store 2 (Zt 8) (Zt 24))] (Zq [Zo 0 9 (.mov Zw)] (.seq (Zq [Zo 0 10 (.mov (Zn 0))] (.block 2 (.loop [1,2,5,6,7,8,9,10] (.seq (Zq [Zm 0 25 10,Zo 1 26 (Zf 0 2),Zl 2 27 26,Zo 3 28 (.len (Zt 27)),Zo 4 29 (Za .lss 25 28)] (Zu 29 .skip (.exit 2))) (.seq (.block 3 (Zr [Zo 0 32 (Zg 2 2),Zm 1 33 10,Zm 2 34 5,Zm 3 35 7,Zd 4 36 12 (Zj 1 34 35),Zd 5 37 28 (.load none (Zt 36)),Zm 6 38 1,Zd 7 39 127 (Zc 156 [Zt 32,Zt 33,Zt 37,Zt 38]),Zd 8 11 255 (.mov (Zt 39))] (Zq [Zm 0 40 9,Zm 1 41 40,Zh 2 42 41 0 (.mov (Zt 11)),Zh 3 43 41 0 (.len (Zt 42)),Zh 4 44 41 0 (Zb .gtr 43 0),Zo 5 45 (.pick (Zt 41) (Zt 44) Zy),Zm 6 9 45] (.ops [Zo 0 46 (Zf 1 8),Zl 1 47 46,Zm 2 48 11,Zo 3 49 (.buildSl 1 1 [.nils] [(0,Zt 48)]),Zo 4 50 (.append 1 (Zt 47) (Zt 49)),Zo 5 51 (Zf 1 8),Zs 6 (.store 1 (Zt 51) (Zt 50))])))) (.ops [Zm 0 30 10,Zo 1 31 (Zb .add 30 1),Zm 2 10 31])))))) (Zq [Zm 0 52 9] (Zu 52 (.ops [Zm 0 53 6,Zo 1 54 (Zg 2 8),Zo 2 55 (.buildSl 2 1 [.nils,.nils] [(0,Zt 54)]),Zo 3 56 (.append 2 (Zt 53) (Zt 55)),Zm 4 6 56]) .skip)))))) (.ops [Zm 0 18 7,Zo 1 19 (Zb .add 18 1),Zm 2 7 19])))))) (Zq [Zm 0 57 6,Zm 1 4 57] .ret))))⟩
def af130:AFunc:=⟨8,[.tmp 2],Zq [Zo 0 1 (.box (Zt 0)),Zo 1 2 (.mov (Zn 0))] (Zq [Zo 0 3 (Zf 1 1),Zl 1 4 3,Zo 2 5 (.len (Zt 4)),Zo 3 6 (Zc 157 [Zt 5]),Zo 4 7 (Zb .sub 6 1),Zm 5 2 7] .ret)⟩
def af154:AFunc:=⟨11,[.tmp 4],Zq [Zo 0 2 (.box (Zt 0)),Zo 1 4 (.mov Zy)] (Zq [Zm 0 5 1,Zo 1 6 (Zf 0 2),Zl 2 7 6,Zo 3 8 (.len (Zt 7)),Zo 4 9 (Zb .sub 8 1),Zo 5 10 (Zc 126 [Zt 5,Zn 0,Zt 9]),Zm 6 4 10] .ret)⟩
def af155:AFunc:=⟨53,[.tmp 6],Zq [Zo 0 3 (.box (Zt 0)),Zo 1 6 (.mov (.val .nils))] (Zq [Zm 0 10 1,Zo 1 11 (.len (Zt 10)),Zm 2 7 11] (.seq (Zq [Zm 0 12 7,Zo 1 13 (Zf 1 3),Zl 2 14 13,Zo 3 15 (.len (Zt 14)),Zo 4 16 (Za .eql 12 15)] (Zu 16 (Zq [Zm 0 17 2,Zm 1 18 1,Zo 2 19 (.buildSl 1 1 [.nils] [(0,Zt 18)]),Zo 3 20 (.append 1 (Zt 17) (Zt 19)),Zm 4 6 20] .ret) .skip)) (Zq [Zo 0 21 (.build [Zi 0,Zi 0] []),Zo 1 8 (.alloc [Zi 0,Zi 0]),Zs 2 (.store 2 (Zt 8) (Zt 21))] (.seq (Zq [Zo 0 22 (Zf 1 3),Zl 1 23 22,Zm 2 24 7,Zo 3 25 (Zj 7 23 24),Zo 4 26 (Zf 0 25),Zl 5 27 26,Zo 6 28 (Zb .eql 27 0)] (Zu 28 (.ops [Zo 0 29 (Zf 1 3),Zl 1 30 29,Zm 2 31 7,Zo 3 32 (Zj 7 30 31),Zo 4 33 (Zf 1 32),Zo 5 34 (Zg 2 33),Zs 6 (.store 2 (Zt 8) (Zt 34))]) .skip)) (.seq (Zq [Zo 0 35 (Zf 0 8),Zl 1 36 35,Zm 2 9 36] (.block 0 (.loop [1,2,3,8,9] (.seq (Zq [Zm 0 37 9,Zo 1 38 (Zf 1 8),Zl 2 39 38,Zo 3 40 (Za .leq 37 39)] (Zu 40 .skip (.exit 0))) (.seq (.block 1 (.draw [Zo 0 43 (Zg 2 3),Zo 1 44 (.buildSl 1 0 [Zi 0] []),Zm 2 45 1,Zm 4 47 9,Zd 5 48 16 (.buildSl 1 1 [Zi 0] [(0,Zt 47)]),Zm 7 50 2,Zd 3 46 6 (.append 1 (Zt 44) (Zt 45)),Zd 6 49 62 (.append 1 (Zt 46) (Zt 48)),Zd 8 51 255 (Zc 155 [Zt 43,Zt 49,Zt 50]),Zd 9 2 511 (.mov (Zt 51))])) (.ops [Zm 0 41 9,Zo 1 42 (Zb .add 41 1),Zm 2 9 42])))))) (Zq [Zm 0 52 2,Zm 1 6 52] .ret))))))⟩
def af156:AFunc:=⟨65,[.tmp 8],Zq [Zo 0 4 (.box (Zt 0)),Zo 1 8 (.mov (.val .nils))] (Zq [Zo 0 15 (Zf 0 4),Zl 1 16 15,Zm 2 17 1,Zo 3 18 (Zj 7 16 17),Zo 4 19 (Zg 7 18),Zo 5 9 (.alloc [Zi 0,Zi 0,Zi 0,Zi 0,Zi 0,Zi 0,Zi 0]),Zs 6 (.store 7 (Zt 9) (Zt 19))] (Zq [Zo 0 10 (.mov (.val .nils))] (.seq (Zq [Zo 0 20 (Zf 0 9),Zo 1 21 (Zf 0 20),Zl 2 22 21,Zm 3 11 22] (.block 0 (.loop [1,2,3,4,9,10,11] (.seq (Zq [Zm 0 23 11,Zo 1 24 (Zf 0 9),Zo 2 25 (Zf 1 24),Zl 3 26 25,Zo 4 27 (Za .leq 23 26)] (Zu 27 .skip (.exit 0))) (.seq (.block 1 (Zq [Zo 0 30 (Zf 2 9),Zo 1 31 (Zf 0 30),Zl 2 32 31,Zm 3 12 32] (.block 2 (.loop [1,2,3,4,9,10,11,12] (.seq (Zq [Zm 0 33 12,Zo 1 34 (Zf 2 9),Zo 2 35 (Zf 1 34),Zl 3 36 35,Zo 4 37 (Za .leq 33 36)] (Zu 37 .skip (.exit 2))) (.seq (.block 3 (Zq [Zo 0 40 (Zf 4 9),Zo 1 41 (Zf 0 40),Zl 2 42 41,Zm 3 13 42] (.block 4 (.loop [1,2,3,4,9,10,11,12,13] (.seq (Zq [Zm 0 43 13,Zo 1 44 (Zf 4 9),Zo 2 45 (Zf 1 44),Zl 3 46 45,Zo 4 47 (Za .leq 43 46)] (Zu 47 .skip (.exit 4))) (.seq (.block 5 (Zq [Zm 0 50 11,Zm 1 51 12,Zm 2 52 13,Zo 3 53 (.build [Zi 0,Zi 0,Zi 0] [(0,(1,Zt 50)),(1,(1,Zt 51)),(2,(1,Zt 52))]),Zo 4 14 (.alloc [Zi 0,Zi 0,Zi 0]),Zs 5 (.store 3 (Zt 14) (Zt 53))] (Zq [Zo 0 54 (Zg 2 4),Zm 1 55 1,Zo 2 56 (Zg 3 14),Zm 3 57 2,Zm 4 58 3,Zo 5 59 (Zc 171 [Zt 54,Zt 55,Zt 56,Zt 57,Zt 58])] (Zu 59 (.ops [Zm 0 60 10,Zo 1 61 (Zg 3 14),Zo 2 62 (.buildSl 3 1 [Zi 0,Zi 0,Zi 0] [(0,Zt 61)]),Zo 3 63 (.append 3 (Zt 60) (Zt 62)),Zm 4 10 63]) .skip)))) (.ops [Zm 0 48 13,Zo 1 49 (Zb .add 48 1),Zm 2 13 49]))))))) (.ops [Zm 0 38 12,Zo 1 39 (Zb .add 38 1),Zm 2 12 39]))))))) (.ops [Zm 0 28 11,Zo 1 29 (Zb .add 28 1),Zm 2 11 29])))))) (Zq [Zm 0 64 10,Zm 1 8 64] .ret))))⟩
def af157:AFunc:=⟨13,[.tmp 2],Zq [Zo 0 2 (.mov (Zn 0))] (Zq [Zo 0 3 (.mov (Zn 1))] (.seq (Zq [Zo 0 4 (.mov (Zn 0))] (.block 0 (.loop [0,3,4] (.seq (Zq [Zm 0 5 4,Zm 1 6 0,Zo 2 7 (Za .lss 5 6)] (Zu 7 .skip (.exit 0))) (.seq (.block 1 (.ops [Zm 0 10 3,Zo 1 11 (.bin .mul (Zn 2) (Zt 10)),Zm 2 3 11])) (.ops [Zm 0 8 4,Zo 1 9 (Zb .add 8 1),Zm 2 4 9])))))) (Zq [Zm 0 12 3,Zm 1 2 12] .ret)))⟩
def af171:AFunc:=⟨55,[.tmp 10],Zq [Zo 0 5 (.box (Zt 0)),Zo 1 7 (.box (Zt 2)),Zo 2 10 (.mov Zy)] (.seq (Zq [Zo 0 11 (.mov (Zn 0))] (.block 0 (.loop [1,3,4,5,7,11] (.seq (Zq [Zm 0 13 11,Zo 1 14 (Zf 1 5),Zl 2 15 14,Zo 3 16 (.len (Zt 15)),Zo 4 17 (Za .lss 13 16)] (Zu 17 .skip (.exit 0))) (.seq (.block 1 (Zq [Zo 0 20 (Zf 1 5),Zl 1 21 20,Zm 2 22 11,Zo 3 23 (Zj 7 21 22),Zo 4 24 (Zg 7 23),Zo 5 12 (.alloc [Zi 0,Zi 0,Zi 0,Zi 0,Zi 0,Zi 0,Zi 0]),Zs 6 (.store 7 (Zt 12) (Zt 24))] (Zr [Zm 0 25 4,Zm 1 26 11,Zd 2 27 3 (Zc 178 [Zt 25,Zt 26]),Zd 3 28 7 (.mov (Zt 27)),Zh 4 29 28 15 (Zf 0 12),Zh 5 30 28 31 (.load none (Zt 29)),Zh 6 31 28 63 (Zb .eql 30 2),Zd 7 32 127 (.pick (Zt 28) (Zt 31) Zy),Zd 8 33 255 (.mov (Zt 32)),Zh 9 34 33 511 (Zf 4 12),Zh 10 35 33 1023 (.load none (Zt 34)),Zh 11 36 33 511 (.mov (Zt 1)),Zh 12 37 33 4095 (Za .eql 35 36),Zd 13 38 8191 (.pick (Zt 33) (Zt 37) Zy),Zd 14 39 16383 (.mov (Zt 38)),Zh 15 40 39 32767 (Zg 2 5),Zh 16 41 39 32767 (.mov (Zt 1)),Zh 17 42 39 32767 (Zg 3 7),Zh 18 43 39 32767 (.mov (Zt 3)),Zh 19 44 39 32767 (.mov (Zt 11)),Zh 21 46 39 32767 (Zf 5 12),Zh 22 47 39 2129919 (Zf 0 46),Zh 23 48 39 6324223 (.load none (Zt 47)),Zh 24 49 39 32767 (Zf 5 12),Zh 25 50 39 16809983 (Zf 1 49),Zh 26 51 39 50364415 (.load none (Zt 50)),Zh 20 45 39 1048575 (Zc 179 [Zt 40,Zt 41,Zt 42,Zt 43,Zt 44]),Zh 27 52 39 134217727 (Zc 126 [Zt 45,Zt 48,Zt 51]),Zh 28 53 39 268435455 (.not (Zt 52)),Zd 29 54 536870911 (.pick (Zt 39) (Zt 53) Zy)] (Zu 54 (Zq [Zo 0 10 (.mov Zy)] .ret) .skip)))) (.ops [Zm 0 18 11,Zo 1 19 (Zb .add 18 1),Zm 2 11 19])))))) (Zq [Zo 0 10 (.mov Zw)] .ret))⟩
def af178:AFunc:=⟨11,[.tmp 4],Zq [Zo 0 4 (.mov Zy)] (Zq [Zm 0 5 0,Zm 1 6 1,Zo 2 7 (Zc 157 [Zt 6]),Zo 3 8 (Za .quo 5 7),Zo 4 9 (Zb .rem 8 2),Zo 5 10 (Zb .eql 9 1),Zm 6 4 10] .ret)⟩
def af179:AFunc:=⟨54,[.tmp 10],Zq [Zo 0 5 (.box (Zt 0)),Zo 1 7 (.box (Zt 2)),Zo 2 10 (.mov (Zn 0))] (Zq [Zo 0 14 (Zf 0 7),Zl 1 15 14,Zm 2 11 15] (.seq (Zq [Zo 0 12 (.mov (Zn 0))] (.block 0 (.loop [1,3,4,5,7,11,12] (.seq (Zq [Zm 0 16 12,Zm 1 17 4,Zo 2 18 (Za .lss 16 17)] (Zu 18 .skip (.exit 0))) (.seq (.block 1 (Zq [Zo 0 21 (Zf 1 5),Zl 1 22 21,Zm 2 23 12,Zo 3 24 (Zj 7 22 23),Zo 4 25 (Zg 7 24),Zo 5 13 (.alloc [Zi 0,Zi 0,Zi 0,Zi 0,Zi 0,Zi 0,Zi 0]),Zs 6 (.store 7 (Zt 13) (Zt 25))] (.seq (Zq [Zo 0 26 (Zf 0 13),Zl 1 27 26,Zo 2 28 (Zb .eql 27 0)] (Zu 28 (.draw [Zm 0 29 11,Zm 1 30 3,Zm 2 31 12,Zd 3 32 6 (Zj 1 30 31),Zd 4 33 14 (.load none (Zt 32)),Zo 5 34 (Zf 1 7),Zd 6 35 32 (.load none (Zt 34)),Zd 7 36 126 (Zc 181 [Zt 33,Zt 35]),Zd 8 37 255 (Za .sub 29 36),Zd 9 11 511 (.mov (Zt 37))]) .skip)) (Zq [Zo 0 38 (Zf 0 13),Zl 1 39 38,Zo 2 40 (Zb .eql 39 1)] (Zu 40 (.draw [Zm 0 41 11,Zo 1 42 (Zf 3 13),Zd 2 43 2 (.load none (Zt 42)),Zo 3 44 (Zf 2 7),Zd 4 45 8 (.load none (Zt 44)),Zo 5 46 (Zf 0 5),Zd 6 47 32 (.load none (Zt 46)),Zm 7 48 1,Zd 8 49 224 (Zj 7 47 48),Zd 9 50 480 (Zf 6 49),Zd 10 51 992 (.load none (Zt 50)),Zd 11 52 2047 (Zc 180 [Zt 41,Zt 43,Zt 45,Zt 51]),Zd 12 11 4095 (.mov (Zt 52))]) .skip))))) (.ops [Zm 0 19 12,Zo 1 20 (Zb .add 19 1),Zm 2 12 20])))))) (Zq [Zm 0 53 11,Zm 1 10 53] .ret)))⟩
def af180:AFunc:=⟨21,[.tmp 8],Zq [Zo 0 8 (.mov (Zn 0))] (.seq (Zq [Zo 0 9 (.mov (Zn 0))] (.block 0 (.loop [0,1,2,3,9] (.seq (Zq [Zm 0 10 9,Zm 1 11 1,Zo 2 12 (Za .lss 10 11)] (Zu 12 .skip (.exit 0))) (.seq (.block 1 (.ops [Zm 0 15 3,Zm 1 16 0,Zm 2 17 2,Zo 3 18 (Za .add 16 17),Zo 4 19 (.min [Zt 15,Zt 18]),Zm 5 0 19])) (.ops [Zm 0 13 9,Zo 1 14 (Zb .add 13 1),Zm 2 9 14])))))) (Zq [Zm 0 20 0,Zm 1 8 20] .ret))⟩
def af181:AFunc:=⟨11,[.tmp 4],Zq [Zo 0 4 (.mov (Zn 0))] (Zq [Zm 0 5 0,Zm 1 6 1,Zo 2 7 (Za .add 5 6),Zo 3 8 (Zb .sub 7 1),Zm 4 9 1,Zo 5 10 (Za .quo 8 9),Zm 6 4 10] .ret)⟩
end Ev
namespace Rd
open Clm (Sp Hull spanL mem_span setOf)
end Rd
namespace Rd
open Clm (Sp Hull spanL mem_span setOf)
variable {r:Road}
theorem sunk_le {p:Tr}(h1:1≤p.stiff){load:Int}(h0:0≤load):sunk p load≤load:=by
 unfold sunk
 have h2:load+p.stiff - 1<(load+1) * p.stiff:=by
  rw[Int.add_mul,Int.one_mul]
  have:=Int.mul_le_mul_of_nonneg_left h1 h0
  omega
 have:=Int.ediv_lt_of_lt_mul (by omega) h2
 omega
theorem zlg {p:Tr}(hs:1≤p.stiff)(hri:0≤p.rise):∀ (es:List Evt) (ls:List Int) (h:Int),h≤p.full→(∀ v∈es,v.kind=1→0≤v.days)→(∀ x∈ls,0≤x∧x≤60)→h - 60 * es.length≤after p es ls h∧after p es ls h≤p.full
 |[],ls,h,hf,_,_=>by simp only[after,List.length_nil];omega
 |v::l,ls,h,hf,hd,hl=>by
  have h0:0≤ls.headD 0∧ls.headD 0≤60:=by
   cases ls with
   |nil=>simp
   |cons a t=>exact hl a (by simp)
  have h1:h - 60≤stepE v p h (ls.headD 0)∧stepE v p h (ls.headD 0)≤p.full:=by
   unfold stepE
   split
   ·have:=sunk_le hs h0.1
    have:=sunk_nn hs h0.1
    omega
   ·split
    ·rename_i hk
     have:=Int.mul_nonneg (hd v (by simp) hk) hri
     unfold rested
     omega
    ·omega
  obtain ⟨h2,h3⟩:=zlg hs hri l ls.tail _ h1.2 (fun u hu=>hd u (by simp[hu])) fun x hx=>hl x (List.mem_of_mem_tail hx)
  rw[after]
  simp only[List.length_cons]
  omega
end Rd
namespace Rd
open Clm (Sp Hull spanL mem_span setOf)
theorem zho (p:Tr)(v:Evt):∀ (es:List Evt) (ls:List Int) (h:Int),es.length<ls.length→afterI p (es++[v]) ls h=stepI v p (afterI p es ls h) (ls.getD es.length 0)
 |[],[],h,hl=>by simp at hl
 |[],x::ls,h,_=>rfl
 |e::es,[],h,hl=>by simp at hl
 |e::es,x::ls,h,hl=>by
  show afterI p (es++[v]) ls (stepI e p h x)=stepI v p (afterI p es ls (stepI e p h x)) (ls.getD es.length 0)
  exact zho p v es ls _ (by simpa using hl)
theorem inI_succ {r:Road}{i:Nat}{v:Evt}(hv:r.events[i]?=some v)(p:Tr)(h:Int){ls:List Int}(hl:i<ls.length):inI r p h ls (i+1)=stepI v p (inI r p h ls i) (ls.getD i 0):=by
 obtain ⟨hi,rfl⟩:=List.getElem?_eq_some_iff.1 hv
 unfold inI
 rw[← List.take_concat_get hi]
 simp only[List.concat_eq_append]
 rw[zho p _ _ _ _ (by rw[List.length_take];omega),List.length_take,Nat.min_eq_left (by omega)]
structure St0 (r:Road) (i:Nat) (p:Tr) (h:Int) (ls:List Int):Prop where
 part:i<r.parts.length
 tr:p∈partsR (r.parts.getD i default)
 h:(r.parts.getD i default).height.has h
 ls:ls∈allR r.events
theorem St0.bound {r:Road}(hr:Fine r){i:Nat}{p:Tr}{h:Int}{ls:List Int}(s:St0 r i p h ls):1≤p.stiff∧p.stiff≤10∧0≤p.rise∧p.rise≤5∧0≤h∧h≤p.full∧p.full≤60∧p.full=(r.parts.getD i default).full:=by
 obtain ⟨a,b,c,d,e,f⟩:=tr_fine hr s.part s.tr
 have hp:=hr.part _ (part_mem s.part)
 have hh:=s.h
 simp only[Sp.has] at hh
 omega
theorem St0.inI {r:Road}(hr:Fine r){i:Nat}{p:Tr}{h:Int}{ls:List Int}(s:St0 r i p h ls)(m:Nat):-600≤inI r p h ls m∧inI r p h ls m≤p.full:=by
 obtain ⟨q1,q2,q3,q4,q5,q6,q7,q8⟩:=s.bound hr
 rw[inI_eq hr s.part s.tr s.ls s.h]
 have h1:=zlg q1 q3 (r.events.take m) ls h q6 (zmj hr m) (load_nn hr s.ls)
 have h2:=hr.events
 have h3:(r.events.take m).length≤10:=by rw[List.length_take];omega
 unfold heightR
 omega
theorem restI_in {full rise:Int}(h0:0≤rise)(hr:rise≤5)(hf:full≤60):∀ (d:Nat) (n:Int),-600≤n→n≤60→0≤full→-600≤restI full rise d n∧restI full rise d n≤60
 |0,n,a,b,_=>⟨a,b⟩
 |d+1,n,a,b,c=>restI_in h0 hr hf d _ (by omega) (by omega) c
theorem restI_snoc (full rise:Int):∀ (d:Nat) (n:Int),restI full rise (d+1) n=min full (restI full rise d n+rise)
 |0,n=>rfl
 |d+1,n=>by rw[restI,restI_snoc full rise d];rfl
end Rd
namespace Ev
namespace Ro
open K
attribute [local simp] ev1 wantG spineK spine float xnew xval xeff zab zae zau zah zai addFl cellsOf pickC alive slLen slFt binI maxA maxK minA minK aeqK aeqS AV.cells spA zad fillA setAt bitsI nat_nn zav AV.plain apart
set_option maxRecDepth 100000
set_option maxHeartbeats 4000000
def PowC (call:CallF):Prop:=∀ (H:List AB) (n:Nat),n≤60→call (.fn (.func 157) [] []) [.int .i64 n] H=some (.ret (.int .i64 ((2 ^ n:Nat):Int)),H,[])
theorem ztp (C:Cfg)(hC:C.calm=true)(call:CallF)(H:List AB)(n:Nat)(hn:n≤60):
  Wb C call H af157 [.int .i64 n]
   (fun v _ tc=>v=.int .i64 ((2 ^ n:Nat):Int)∧tc=[]):=by
 unfold Wb Wa af157 Zq Zu Zm Zo Za Zb Zt Zn
 simp only[zipI]
 refine gA ?_
 with_reducible refine zan hC n (by unfold fuelL;omega) (fun j st=>st={ tm:=tmA 13 [(4,.int .i64 j),(3,.int .i64 ((2 ^ j:Nat):Int)),(0,.int .i64 n)],df:=[],hp:=H,tc:=[] }) ?_ ?_ ?_
 ·(exact inwP)
 ·rintro j st hj rfl
  have hw:IntKind.i64.wrap (↑j+1)=↑j+1:=zaf (by omega) (by omega)
  have hp:(2 ^ j:Nat)≤2 ^ 60:=Nat.pow_le_pow_right (by omega) (by omega)
  have hw2:IntKind.i64.wrap (2 * ((2 ^ j:Nat):Int))=((2 ^ (j+1):Nat):Int):=by
   have h60:(2:Nat) ^ 60=1152921504606846976:=rfl
   rw[Nat.pow_succ]
   rw[h60] at hp
   clear h60 hw
   generalize (2:Nat) ^ j=m at *
   rw[show ((m * 2:Nat):Int)=2 * (m:Int) by omega];exact zaf (by omega) (by omega)
  have e5:(j:Int)<n:=by omega
  generalize ((2 ^ j:Nat):Int)=p at *
  generalize ((2 ^ (j+1):Nat):Int)=p' at *
  clear hp
  refine gA ?_
  exact inwP
 ·rintro st rfl
  generalize ((2 ^ n:Nat):Int)=p at *
  refine gA ?_
  exact zac (v:=.int .i64 p) (.inl rfl) rfl (by simp) endvP ⟨rfl,rfl⟩
def SetC (call:CallF):Prop:=∀ (H:List AB) (s n:Nat),s≤1000000→n≤60→call (.fn (.func 178) [] []) [.int .i64 s,.int .i64 n] H=some (.ret (.bool (Rd.bit s n)),H,[])
theorem zng (C:Cfg)(call:CallF)(hP:PowC call)(H:List AB)(s n:Nat)(hs:s≤1000000)(hn:n≤60):
  Wb C call H af178 [.int .i64 s,.int .i64 n]
   (fun v _ tc=>v=.bool (Rd.bit s n)∧tc=[]):=by
 have hp:=fun H=>hP H n hn
 have h0:0<2 ^ n:=Nat.two_pow_pos n
 have n0:¬ (((2 ^ n:Nat):Int)=0):=by omega
 have t1:(s:Int).tdiv ((2 ^ n:Nat):Int)=((s / 2 ^ n:Nat):Int):=by rw[Int.tdiv_eq_ediv_of_nonneg (by omega)];rfl
 have hb:Rd.bit s n=decide (s / 2 ^ n % 2=1):=by unfold Rd.bit;rw[Nat.testBit_eq_decide_div_mod_eq]
 have hle:s / 2 ^ n≤s:=Nat.div_le_self _ _
 have w1:IntKind.i64.wrap ((s / 2 ^ n:Nat):Int)=((s / 2 ^ n:Nat):Int):=by
  clear t1 hb n0 h0 hp
  generalize s / 2 ^ n=q at *
  exact zaf (by omega) (by omega)
 have t2:((s / 2 ^ n:Nat):Int).tmod 2=((s / 2 ^ n % 2:Nat):Int):=by
  clear t1 hb n0 h0 hp w1
  generalize s / 2 ^ n=q at *
  rw[Int.tmod_eq_emod_of_nonneg (by omega)];omega
 obtain ⟨m, hm, hm2⟩ : ∃ m : Bool, (((s / 2 ^ n % 2 : Nat) : Int) == 1) = m ∧ decide (s / 2 ^ n % 2 = 1) = m := ⟨_, rfl, by
  rcases Nat.mod_two_eq_zero_or_one (s / 2 ^ n) with h|h<;>rw[h]<;>rfl⟩
 rw[hb,hm2]
 clear hb hm2 hle hP h0
 generalize ((s / 2 ^ n % 2:Nat):Int)=x2 at *
 generalize ((s / 2 ^ n:Nat):Int)=x1 at *
 generalize ((2 ^ n:Nat):Int)=x0 at *
 unfold Wb Wa af178 Zq Zm Zo Zc Za Zb Zt Zy
 simp only[zipI]
 refine gA ?_
 exact zac (v:=.bool m) (.inl rfl) rfl (by simp) endvP ⟨rfl,rfl⟩
def RsuC (call:CallF):Prop:=∀ (H:List AB) (p:Rd.Tr) (ld:Int),1≤p.stiff→p.stiff≤10→0≤ld→ld≤60→call (.fn (.func 181) [] []) [.int .i64 ld,.int .i64 p.stiff] H=some (.ret (.int .i64 (Rd.sunk p ld)),H,[])
theorem zta (C:Cfg)(call:CallF)(H:List AB)(p:Rd.Tr)(ld:Int)(h1:1≤p.stiff)(h2:p.stiff≤10)(h3:0≤ld)(h4:ld≤60):Wb C call H af181 [.int .i64 ld,.int .i64 p.stiff]
  (fun v _hp tc=>v=.int .i64 (Rd.sunk p ld)∧tc=[]):=by
 have hq:(ld+p.stiff - 1).tdiv p.stiff=Rd.sunk p ld:=by rw[Int.tdiv_eq_ediv_of_nonneg (by omega)];rfl
 have b0:=Rd.sunk_nn h1 h3
 have b1:=Rd.sunk_le h1 h3
 generalize Rd.sunk p ld=y at *
 generalize p.stiff=s at *
 have w1:IntKind.i64.wrap (ld+s)=ld+s:=zaf (by omega) (by omega)
 have w2:IntKind.i64.wrap (ld+s - 1)=ld+s - 1:=zaf (by omega) (by omega)
 have w3:IntKind.i64.wrap y=y:=zaf (by omega) (by omega)
 have n0:¬ (s=0):=by omega
 clear h1 h2 h3 h4 b0 b1
 unfold Wb Wa af181 Zq Zm Zo Za Zb Zn
 simp only[zipI]
 refine gA ?_
 exact zac (v:=.int .i64 y) (.inl rfl) rfl (by simp) endvP ⟨rfl,rfl⟩
def RreC (call:CallF):Prop:=∀ (H:List AB) (n:Int) (d:Nat) (rise full:Int),-600≤n→n≤60→d≤10→0≤rise→rise≤5→0≤full→full≤60→call (.fn (.func 180) [] []) [.int .i64 n,.int .i64 d,.int .i64 rise,.int .i64 full] H=some (.ret (.int .i64 (Rd.restI full rise d n)),H,[])
theorem zte (C:Cfg)(hC:C.calm=true)(call:CallF)(H:List AB)(n:Int)(d:Nat)(rise full:Int)(h1:-600≤n)(h2:n≤60)(h3:d≤10)(h4:0≤rise)(h5:rise≤5)(h6:0≤full)(h7:full≤60):Wb C call H af180 [.int .i64 n,.int .i64 d,.int .i64 rise,.int .i64 full]
  (fun v _hp tc=>v=.int .i64 (Rd.restI full rise d n)∧tc=[]):=by
 have hb:=fun j=>Rd.restI_in h4 h5 h7 j n h1 h2 h6
 unfold Wb Wa af180 Zq Zu Zm Zo Za Zb Zt Zn
 simp only[zipI]
 refine gA ?_
 with_reducible refine zan hC d (by unfold fuelL;omega) (fun j st=>st={ tm:=tmA 21 [(9,.int .i64 j),(3,.int .i64 full),(2,.int .i64 rise),(1,.int .i64 d),(0,.int .i64 (Rd.restI full rise j n))],df:=[],hp:=H,tc:=[] }) ?_ ?_ ?_
 ·simp only[Rd.restI]
  exact inwP
 ·rintro j st hj rfl
  have hbj:=hb j
  rw[Rd.restI_snoc]
  generalize Rd.restI full rise j n=x at *
  have hw:IntKind.i64.wrap (↑j+1)=↑j+1:=zaf (by omega) (by omega)
  have hw2:IntKind.i64.wrap (x+rise)=x+rise:=zaf (by omega) (by omega)
  have e5:(j:Int)<d:=by omega
  clear hb hbj h1 h2 h3 h4 h5 h6 h7
  refine gA ?_
  exact inwP
 ·rintro st rfl
  generalize Rd.restI full rise d n=x at *
  clear hb h1 h2 h3 h4 h5 h6 h7
  refine gA ?_
  exact zac (v:=.int .i64 x) (.inl rfl) rfl (by simp) endvP ⟨rfl,rfl⟩
inductive LoV (H:List AB) (ls:List Int):AV→Prop
 |none:ls=[]→LoV H ls .nils
 |some (q:Nat):HB H q (.cells (ints ls))→LoV H ls (.sl q 0 ls.length 1)
theorem LoV.app {H:List AB}{ls:List Int}{v:AV}(h:LoV H ls v)(K:List AB):LoV (H++K) ls v:=by
 cases h with
 |none h=>exact .none h
 |some q h=>exact .some q (h.app K)
def InC (call:CallF)(r:Rd.Road):Prop:=∀ (H:List AB) (i:Nat) (p:Rd.Tr) (h:Int) (ls:List Int) (lv:AV) (m:Nat),Rd.St0 r i p h ls→LoV H ls lv→m≤r.events.length→call (.fn (.func 179) [] []) [.agg (roadCs r),.int .i64 i,.agg [.int .i64 h,.int .i64 p.stiff,.int .i64 p.rise],lv,.int .i64 m] H=some (.ret (.int .i64 (Rd.inI r p h ls m)),H,[])
theorem zxj (C:Cfg)(hC:C.calm=true)(call:CallF)(hS:RsuC call)(hR:RreC call)(r:Rd.Road)(hf:Rd.Fine r)(H:List AB)(i:Nat)(p:Rd.Tr)(h:Int)(ls:List Int)(lv:AV)(m:Nat)(hs:Rd.St0 r i p h ls)(hl:LoV H ls lv)(hm:m≤r.events.length):Wb C call H af179 [.agg (roadCs r),.int .i64 i,.agg [.int .i64 h,.int .i64 p.stiff,.int .i64 p.rise],lv,.int .i64 m]
  (fun v _hp tc=>v=.int .i64 (Rd.inI r p h ls m)∧tc=[]):=by
 have he10:=hf.events
 have hp4:=hf.parts
 have hi:=hs.part
 have hll:=(Rd.mem_allR _ _ hs.ls).1
 have HX:=hideP (And.intro hS (And.intro hR (And.intro hf (And.intro hs hl))))
 clear hS hR hf hs hl
 unfold Wb Wa af179 Zq Zu Zm Zl Zo Zs Zd Zc Za Zb Zf Zg Zj Zt Zn Zi
 simp only[zipI,roadCs] at *
 refine gB ?_
 with_reducible refine zan hC m (by unfold fuelL;omega) (fun j st=>∃ K,st={ tm:=tmA 54 [(12,.int .i64 j),(11,.int .i64 (Rd.inI r p h ls j)),(7,.ptr (H.length+1) 0),(5,.ptr H.length 0),(4,.int .i64 m),(3,lv),(1,.int .i64 i)],df:=[],hp:=H++[.cells [.vs 7 (r.parts.map ptE),.vs 7 (r.events.map evE)],.cells [.int .i64 h,.int .i64 p.stiff,.int .i64 p.rise]]++K,tc:=[] }) ?_ ?_ ?_
 ·refine ⟨[],?_⟩
  rw[List.append_nil,show Rd.inI r p h ls 0=h from rfl]
  exact inwP
 ·rintro j st hj ⟨K,rfl⟩
  obtain ⟨hS,hR,hf,hs,hl⟩:=HX.out
  have hgv:r.events[j]?=some r.events[j]:=List.getElem?_eq_getElem (by omega)
  have hev:=hf.event _ (List.mem_of_getElem? hgv)
  generalize r.events[j]=v at hgv hev
  have hgv':=ge_of hgv
  have hsu:=Rd.inI_succ hgv p h (ls:=ls) (by omega)
  have hbx:=hs.inI hf j
  have hbd:=hs.bound hf
  have hgp:r.parts[i]?=some r.parts[i]:=List.getElem?_eq_getElem hi
  have hgd:r.parts.getD i default=r.parts[i]:=by rw[List.getD_eq_getElem?_getD,hgp];rfl
  rw[hgd] at hbd
  generalize r.parts[i]=pt at hgp hbd
  have hgp':=ge_of hgp
  have hjl:j<ls.length:=by omega
  have hlj:ls[j]?=some (ls.getD j 0):=by rw[List.getD_eq_getElem?_getD,List.getElem?_eq_getElem hjl];rfl
  have hlb:=Rd.load_nn hf hs.ls (ls.getD j 0) (List.mem_of_getElem? hlj)
  generalize ls.getD j 0=x at *
  have hij:(ints ls)[j]?=some (.int .i64 x):=by simp[ints,hlj]
  have hij':=ge_of hij
  have hil:(ints ls).length=ls.length:=by simp[ints]
  have hw:IntKind.i64.wrap (↑j+1)=↑j+1:=zaf (by omega) (by omega)
  have e5:(j:Int)<m:=by omega
  have e6:(j:Int)<r.events.length:=by omega
  have e7:(i:Int)<r.parts.length:=by omega
  have e8:(j:Int)<ls.length:=by omega
  have hsk:=fun H=>hS H p x hbd.1 hbd.2.1 hlb.1 hlb.2
  have hre:v.kind=1→∀ H,call (.fn (.func 180) [] []) [.int .i64 (Rd.inI r p h ls j),.int .i64 v.days,.int .i64 p.rise,.int .i64 p.full] H=some (.ret (.int .i64 (Rd.restI p.full p.rise v.days.toNat (Rd.inI r p h ls j))),H,[]):=fun hk H=>by
   have h10:1≤v.days∧v.days≤10:=by omega
   have:=hR H (Rd.inI r p h ls j) v.days.toNat p.rise p.full hbx.1 (by omega) (by omega) hbd.2.2.1 hbd.2.2.2.1 (by omega) (by omega)
   rwa [show ((v.days.toNat:Nat):Int)=v.days by omega] at this
  have b0:=Rd.sunk_nn hbd.1 hlb.1
  have b1:=Rd.sunk_le hbd.1 hlb.1
  have w1:IntKind.i64.wrap (Rd.inI r p h ls j - Rd.sunk p x)=Rd.inI r p h ls j - Rd.sunk p x:=zaf (by omega) (by omega)
  have hpf:p.full=pt.full:=by omega
  rw[hpf] at hre
  rw[hsu]
  unfold Rd.stepI
  rw[hpf]
  generalize Rd.inI r p h ls j=y at *
  generalize Rd.sunk p x=z at *
  have HV:=hideP hev
  have HL:=hideP hl
  clear hS hR hf hs hl hsu hbx hbd hlb hgd hev hlj b0 b1 hpf hll HX
  have hk3:v.kind=0∨v.kind=1∨v.kind=2:=by have:=HV.out;omega
  cases HL.out with
  |none h0=>rw[h0] at hjl;simp at hjl
  |some q hq=>
  have hq':=hq
  obtain ⟨Q1,Q2,Q3⟩:=hq
  clear HL hq'
  rcases hk3 with hk|hk|hk
  ·rw[if_pos hk]
   clear hre
   refine gQ ?_
   refine ⟨K++[.cells [.int .i64 v.kind,.int .i64 v.load.lo,.int .i64 v.load.hi,.int .i64 v.days,.int .i64 v.part,.int .i64 v.shows.lo,.int .i64 v.shows.hi]],?_⟩
   exact inwP
  ·have hre:=hre hk
   rw[if_neg (by omega),if_pos hk]
   generalize Rd.restI pt.full p.rise v.days.toNat y=w at *
   refine gQ ?_
   refine ⟨K++[.cells [.int .i64 v.kind,.int .i64 v.load.lo,.int .i64 v.load.hi,.int .i64 v.days,.int .i64 v.part,.int .i64 v.shows.lo,.int .i64 v.shows.hi]],?_⟩
   exact inwP
  ·rw[if_neg (by omega),if_neg (by omega)]
   clear hre
   refine gQ ?_
   refine ⟨K++[.cells [.int .i64 v.kind,.int .i64 v.load.lo,.int .i64 v.load.hi,.int .i64 v.days,.int .i64 v.part,.int .i64 v.shows.lo,.int .i64 v.shows.hi]],?_⟩
   exact inwP
 ·rintro st ⟨K,rfl⟩
  generalize Rd.inI r p h ls m=x at *
  clear HX
  refine gB ?_
  exact zac (v:=.int .i64 x) (.inl rfl) rfl (by simp) endvP ⟨rfl,rfl⟩
theorem zth (C:Cfg)(call:CallF)(H:List AB)(n a b:Int):Wb C call H af126 [.int .i64 n,.int .i64 a,.int .i64 b]
  (fun v _hp tc=>v=.bool (decide (a≤n∧n≤b))∧tc=[]):=by
 unfold Wb Wa af126 Zq Zm Zo Zh Za Zt Zy
 simp only[zipI]
 by_cases h:a≤n
 ·(refine gA ?_)
  exact zac (v:=.bool (decide (n≤b))) (.inl rfl) rfl (by simp) endvP ⟨by simp[h],rfl⟩
 ·(refine gA ?_)
  exact zac (v:=.bool false) (.inl rfl) rfl (by simp) endvP ⟨by simp[h],rfl⟩
def RinC (call:CallF):Prop:=∀ (H:List AB) (n a b:Int),call (.fn (.func 126) [] []) [.int .i64 n,.int .i64 a,.int .i64 b] H=some (.ret (.bool (decide (a≤n∧n≤b))),H,[])
theorem ztb (C:Cfg)(call:CallF)(H:List AB)(s:Clm.Sp)(a b w:Int)(h0:-1000≤a)(hb:b≤1000):Wb C call H af127 [spA s,.int .i64 a,.int .i64 b,.int .i64 w]
  (fun v _hp tc=>v=.bool (Rd.isSpan s a b w)∧tc=[]):=by
 by_cases h1:a≤s.lo
 ·by_cases h2:s.lo≤s.hi
  ·by_cases h3:s.hi≤b
   ·have w1:IntKind.i64.wrap (s.hi - s.lo)=s.hi - s.lo:=zaf (by omega) (by omega)
    clear h0 hb
    have e:Rd.isSpan s a b w=decide (s.hi - s.lo≤w):=by simp[Rd.isSpan,h1,h2,h3]
    rw[e];clear e
    unfold Wb Wa af127 Zq Zm Zl Zo Zh Za Zf Zt Zy
    simp only[zipI,spA]
    refine gA ?_
    exact zac (v:=.bool (decide (s.hi - s.lo≤w))) (.inl rfl) rfl (by simp) endvP ⟨rfl,by simp⟩
   ·clear h0 hb
    have e:Rd.isSpan s a b w=false:=by simp[Rd.isSpan,h3]
    rw[e];clear e
    unfold Wb Wa af127 Zq Zm Zl Zo Zh Za Zf Zt Zy
    simp only[zipI,spA]
    refine gA ?_
    exact zac (v:=.bool false) (.inl rfl) rfl (by simp) endvP ⟨rfl,by simp⟩
  ·clear h0 hb
   have e:Rd.isSpan s a b w=false:=by simp[Rd.isSpan,h2]
   rw[e];clear e
   unfold Wb Wa af127 Zq Zm Zl Zo Zh Za Zf Zt Zy
   simp only[zipI,spA]
   refine gA ?_
   exact zac (v:=.bool false) (.inl rfl) rfl (by simp) endvP ⟨rfl,by simp⟩
 ·clear h0 hb
  have e:Rd.isSpan s a b w=false:=by simp[Rd.isSpan,h1]
  rw[e];clear e
  unfold Wb Wa af127 Zq Zm Zl Zo Zh Za Zf Zt Zy
  simp only[zipI,spA]
  refine gA ?_
  exact zac (v:=.bool false) (.inl rfl) rfl (by simp) endvP ⟨rfl,by simp⟩
def RspanC (call:CallF):Prop:=∀ (H:List AB) (s:Clm.Sp) (a b w:Int),-1000≤a→b≤1000→call (.fn (.func 127) [] []) [.agg [.int .i64 s.lo,.int .i64 s.hi],.int .i64 a,.int .i64 b,.int .i64 w] H=some (.ret (.bool (Rd.isSpan s a b w)),H,[])
theorem zjt (C:Cfg)(call:CallF)(hI:RinC call)(r:Rd.Road)(hr:r.parts.length≤1000000)(H:List AB)(n:Int):Wb C call H af154 [.agg (roadCs r),.int .i64 n]
  (fun v _hp tc=>v=.bool (Rd.isPart r n)∧tc=[]):=by
 have hw:IntKind.i64.wrap ((r.parts.length:Int) - 1)=(r.parts.length:Int) - 1:=zaf (by omega) (by omega)
 have e:Rd.isPart r n=decide (0≤n∧n≤(r.parts.length:Int) - 1):=by unfold Rd.isPart;congr 1;simp;omega
 have hW':=fun H=>hI H n 0 ((r.parts.length:Int) - 1)
 rw[e]
 generalize decide (0≤n∧n≤(r.parts.length:Int) - 1)=b at *
 clear hI e hr
 unfold Wb Wa af154 Zq Zm Zl Zo Zc Zb Zf Zt Zn Zy
 simp only[zipI,roadCs] at *
 refine gA ?_
 exact zac (v:=.bool b) (.inl rfl) rfl (by simp) endvP ⟨rfl,rfl⟩
def RpartC (call:CallF)(r:Rd.Road):Prop:=∀ (H:List AB) (n:Int),call (.fn (.func 154) [] []) [.agg (roadCs r),.int .i64 n] H=some (.ret (.bool (Rd.isPart r n)),H,[])
theorem zpg (C:Cfg)(call:CallF)(r:Rd.Road)(hI:RinC call)(hP:RpartC call r)(hS:RspanC call)(H:List AB)(v:Rd.Evt):Wb C call H af128 [.agg (roadCs r),evE v]
  (fun w _hp tc=>w=.bool (Rd.okEvt r v)∧tc=[]):=by
 have hp:=fun H=>hP H v.part
 have h0:=fun H=>hS H v.load 0 60 2 (by decide) (by decide)
 have h1:=fun H=>hI H v.days 1 10
 have h2:=fun H=>hS H v.shows (-1000) 1000 2000 (by decide) (by decide)
 have hev:Rd.okEvt r v=if v.kind=0 then Rd.isSpan v.load 0 60 2 else if v.kind=1 then decide (1≤v.days∧v.days≤10) else decide (v.kind=2)&&Rd.isPart r v.part&&Rd.isSpan v.shows (-1000) 1000 2000:=rfl
 rw[hev]
 clear hP hS hev hI
 generalize decide (1≤v.days∧v.days≤10)=b1 at *
 generalize Rd.isSpan v.load 0 60 2=b0 at *
 generalize Rd.isSpan v.shows (-1000) 1000 2000=b2 at *
 unfold Wb Wa af128 Zq Zu Zm Zl Zo Zh Zc Zb Zf Zg Zt Zn Zy
 simp only[zipI,roadCs,evE] at *
 by_cases k0:v.kind=0
 ·rw[if_pos k0]
  refine gA ?_
  exact zac (v:=.bool b0) (.inl rfl) rfl (by simp) endvP ⟨rfl,rfl⟩
 ·have k0':=beq_false_of_ne k0
  rw[if_neg k0]
  by_cases k1:v.kind=1
  ·rw[if_pos k1]
   refine gA ?_
   exact zac (v:=.bool b1) (.inl rfl) rfl (by simp) endvP ⟨rfl,rfl⟩
  ·have k1':=beq_false_of_ne k1
   rw[if_neg k1]
   by_cases k2:v.kind=2
   ·rw[decide_eq_true k2,Bool.true_and]
    cases hb:Rd.isPart r v.part with
    |false=>
     rw[hb] at hp
     refine gA ?_
     exact zac (v:=.bool false) (.inl rfl) rfl (by simp) endvP ⟨rfl,rfl⟩
    |true=>
     rw[hb] at hp
     refine gA ?_
     exact zac (v:=.bool b2) (.inl rfl) rfl (by simp) endvP ⟨rfl,rfl⟩
   ·have k2':=beq_false_of_ne k2
    refine gA ?_
    exact zac (v:=.bool false) (.inl rfl) rfl (by simp) endvP ⟨by simp[k2],rfl⟩
def ReventC (call:CallF)(r:Rd.Road):Prop:=∀ (H:List AB) (v:Rd.Evt),call (.fn (.func 128) [] []) [.agg (roadCs r),evE v] H=some (.ret (.bool (Rd.okEvt r v)),H,[])
theorem ztd (C:Cfg)(hC:C.calm=true)(call:CallF)(r:Rd.Road)(hbig:r.parts.length≤1000∧r.events.length≤1000)(hI:RinC call)(hS:RspanC call)(hE:ReventC call r)(H:List AB):Wb C call H af93 [.agg (roadCs r)]
  (fun w _hp tc=>w=.bool (Rd.valid r)∧tc=[]):=by
 have hw1:=fun H=>hI H (r.parts.length:Int) 1 4
 have e1:decide ((1:Int)≤r.parts.length∧(r.parts.length:Int)≤4)=decide (1≤r.parts.length∧r.parts.length≤4):=by congr 1;simp;omega
 rw[e1] at hw1
 have hhead:headOk r=(decide (1≤r.parts.length∧r.parts.length≤4)&&decide (r.events.length≤10)):=rfl
 have hv:=zmy r
 rw[hhead] at hv
 have HH:=hideP (And.intro hS (And.intro hI hE))
 rw[hv]
 clear e1 hhead hI hE hS hv
 unfold Wb Wa af93 Zq Zu Zm Zl Zo Zs Zh Zk Zc Za Zb Zf Zg Zj Zt Zn Zi Zy Zw
 simp only[zipI,roadCs] at *
 cases h1:decide (1≤r.parts.length∧r.parts.length≤4) with
 |false=>
  rw[h1] at hw1
  clear h1
  refine gA ?_
  exact zac (v:=.bool false) (.inl rfl) rfl (by simp) endvP ⟨by simp,rfl⟩
 |true=>
  rw[h1] at hw1
  have h1:=of_decide_eq_true h1
  by_cases h3:r.events.length≤10
  ·have h3':¬ (10:Int)<r.events.length:=by omega
   rw[decide_eq_true h3]
   simp only[Bool.true_and]
   refine gA ?_
   clear hw1
   have hp1:=hbig.1
   with_reducible refine zan hC r.parts.length (by unfold fuelL;omega) (fun i st=>∃ J,(∀ j p,j<i→r.parts[j]?=some p→Rd.okPart p=true)∧st={ tm:=tmA 87 [(3,.int .i64 i),(1,.ptr H.length 0)],df:=[],hp:=H++.cells [.vs 7 (r.parts.map ptE),.vs 7 (r.events.map evE)]::J,tc:=[] }) ?_ ?_ ?_
   ·refine ⟨[],by simp,?_⟩
    exact inwP
   ·rintro i st hi ⟨J,hok,rfl⟩
    obtain ⟨hS,hI,_⟩:=HH.out
    have hgp:r.parts[i]?=some r.parts[i]:=List.getElem?_eq_getElem hi
    generalize r.parts[i]=p at hgp
    have hgp':=ge_of hgp
    have hwi:IntKind.i64.wrap (↑i+1)=↑i+1:=zaf (by omega) (by omega)
    have hnext:Rd.okPart p=true→∀ j q,j<i+1→r.parts[j]?=some q→Rd.okPart q=true:=by
     intro ho j q hj hq
     by_cases h:j=i
     ·subst h;rw[hgp] at hq;cases hq;exact ho
     ·exact hok j q (by omega) hq
    have hbad:Rd.okPart p=false→r.parts.all Rd.okPart=false:=fun h=>by
     rw[List.all_eq_false]
     exact ⟨p,List.mem_of_getElem? hgp,by rw[h];decide⟩
    have hpo:Rd.okPart p=(decide (0≤p.full∧p.full≤60)&&Rd.isSpan p.height 0 p.full 2&&Rd.isSpan p.stiff 1 10 2&&Rd.isSpan p.rise 0 5 2):=rfl
    have q0:=fun H=>hI H p.full 0 60
    have HN:=hideP (And.intro hnext hbad)
    clear hnext hbad hok hgp hI
    cases b0:decide (0≤p.full∧p.full≤60) with
    |false=>
     rw[b0] at q0 hpo
     have HP:=hideP (HN.out.2 (by rw[hpo];rfl))
     clear hpo b0 hS
     refine gJ ?_
     exact zac (v:=.bool false) (.inl rfl) rfl (by simp) endvP ⟨by rw[HP.out];rfl,by simp⟩
    |true=>
     rw[b0] at q0 hpo
     have hf60:=of_decide_eq_true b0
     have q1:=fun H=>hS H p.height 0 p.full 2 (by decide) (by omega)
     have q2:=fun H=>hS H p.stiff 1 10 2 (by decide) (by decide)
     have q3:=fun H=>hS H p.rise 0 5 2 (by decide) (by decide)
     clear hS hf60 b0
     cases b1:Rd.isSpan p.height 0 p.full 2 with
     |false=>
      rw[b1] at q1 hpo
      have HP:=hideP (HN.out.2 (by rw[hpo];rfl))
      clear hpo b1
      refine gJ ?_
      exact zac (v:=.bool false) (.inl rfl) rfl (by simp) endvP ⟨by rw[HP.out];rfl,by simp⟩
     |true=>
      rw[b1] at q1 hpo
      cases b2:Rd.isSpan p.stiff 1 10 2 with
      |false=>
       rw[b2] at q2 hpo
       have HP:=hideP (HN.out.2 (by rw[hpo];rfl))
       clear hpo b1 b2
       refine gJ ?_
       exact zac (v:=.bool false) (.inl rfl) rfl (by simp) endvP ⟨by rw[HP.out];rfl,by simp⟩
      |true=>
       rw[b2] at q2 hpo
       cases b3:Rd.isSpan p.rise 0 5 2 with
       |false=>
        rw[b3] at q3 hpo
        have HP:=hideP (HN.out.2 (by rw[hpo];rfl))
        clear hpo b1 b2 b3
        refine gJ ?_
        exact zac (v:=.bool false) (.inl rfl) rfl (by simp) endvP ⟨by rw[HP.out];rfl,by simp⟩
       |true=>
        rw[b3] at q3 hpo
        have HP:=hideP (HN.out.1 (by rw[hpo];rfl))
        clear hpo b1 b2 b3
        refine gJ ?_
        with_reducible refine ⟨?_,HP.out,?_⟩
        rotate_left
        exact inwP
   ·rintro st ⟨J,hok,rfl⟩
    have hall:r.parts.all Rd.okPart=true:=by
     rw[List.all_eq_true]
     intro p hp
     obtain ⟨j,hj⟩:=List.mem_iff_getElem?.1 hp
     exact hok j p (List.getElem?_eq_some_iff.1 hj).1 hj
    rw[hall]
    simp only[Bool.true_and]
    clear hall hok
    refine gA ?_
    have he10:(r.events.length:Int)≤1000:=by omega
    with_reducible refine zan hC r.events.length (by unfold fuelL;omega) (fun i st=>∃ J,(∀ j p,j<i→r.events[j]?=some p→Rd.okEvt r p=true)∧st={ tm:=tmA 87 [(6,.int .i64 i),(5,.int .i64 ((r.events.take i).filter Rd.doubt).length),(1,.ptr H.length 0)],df:=[],hp:=H++.cells [.vs 7 (r.parts.map ptE),.vs 7 (r.events.map evE)]::J,tc:=[] }) ?_ ?_ ?_
    ·refine ⟨J,fun j p hj=>absurd hj (Nat.not_lt_zero _),?_⟩
     exact inwP
    ·rintro i st hi ⟨J,hok,rfl⟩
     obtain ⟨_,_,hE⟩:=HH.out
     have hgp:r.events[i]?=some r.events[i]:=List.getElem?_eq_getElem hi
     generalize r.events[i]=p at hgp
     have hgp':=ge_of hgp
     have hwi:IntKind.i64.wrap (↑i+1)=↑i+1:=zaf (by omega) (by omega)
     have hnext:Rd.okEvt r p=true→∀ j q,j<i+1→r.events[j]?=some q→Rd.okEvt r q=true:=by
      intro ho j q hj hq
      by_cases h:j=i
      ·subst h;rw[hgp] at hq;cases hq;exact ho
      ·exact hok j q (by omega) hq
     have hbad:Rd.okEvt r p=false→r.events.all (Rd.okEvt r)=false:=fun h=>by
      rw[List.all_eq_false]
      exact ⟨p,List.mem_of_getElem? hgp,by rw[h];decide⟩
     have hds:=zii hgp
     have hdl:((r.events.take i).filter Rd.doubt).length≤i:=Nat.le_trans (List.length_filter_le _ _) (by simp;omega)
     rw[hds]
     generalize ((r.events.take i).filter Rd.doubt).length=many at *
     have hwm:IntKind.i64.wrap (↑many+1)=↑many+1:=zaf (by omega) (by omega)
     have q0:=fun H=>hE H p
     have HN:=hideP (And.intro hnext hbad)
     simp only[roadCs,evE] at q0
     clear hnext hbad hok hgp hE hdl hds
     cases b0:Rd.okEvt r p with
     |false=>
      rw[b0] at q0
      have HP:=hideP (HN.out.2 b0)
      clear b0
      refine gF ?_
      exact zac (v:=.bool false) (.inl rfl) rfl (by simp) endvP ⟨by rw[HP.out];rfl,by simp⟩
     |true=>
      rw[b0] at q0
      have HP:=hideP (HN.out.1 b0)
      clear b0
      by_cases k0:p.kind=0
      ·rw[k0] at q0
       by_cases k1:p.load.lo<p.load.hi
       ·have e:(if Rd.doubt p=true then 1 else 0)=1:=by simp[Rd.doubt,k0,k1]
        rw[e];clear e
        refine gF ?_
        with_reducible refine ⟨?_,HP.out,?_⟩
        rotate_left
        exact inwP
       ·have e:(if Rd.doubt p=true then 1 else 0)=0:=by simp[Rd.doubt,k1]
        rw[e];clear e
        refine gF ?_
        with_reducible refine ⟨?_,HP.out,?_⟩
        rotate_left
        exact inwP
      ·have e:(if Rd.doubt p=true then 1 else 0)=0:=by simp[Rd.doubt,k0]
       have k0':=beq_false_of_ne k0
       rw[e];clear e
       refine gF ?_
       with_reducible refine ⟨?_,HP.out,?_⟩
       rotate_left
       exact inwP
    ·rintro st ⟨J,hok,rfl⟩
     have hall:r.events.all (Rd.okEvt r)=true:=by
      rw[List.all_eq_true]
      intro p hp
      obtain ⟨j,hj⟩:=List.mem_iff_getElem?.1 hp
      exact hok j p (List.getElem?_eq_some_iff.1 hj).1 hj
     rw[hall,List.take_length]
     generalize (r.events.filter Rd.doubt).length=many
     simp only[Bool.true_and]
     clear hall hok
     refine gA ?_
     exact zac (v:=.bool (decide ((many:Int)≤4))) (.inl rfl) rfl (by simp) endvP ⟨by congr 2;simp;omega,by simp⟩
  ·have h3':(10:Int)<r.events.length:=by omega
   refine gA ?_
   exact zac (v:=.bool false) (.inl rfl) rfl (by simp) endvP ⟨by simp[h3],by simp⟩
end Ro
end Ev
namespace Rd
def rightB (r:Road)(i:Nat)(p:Tr)(h:Int)(ls:List Int)(set:Nat)(m:Nat):Bool:=(r.events.zipIdx.take m).all fun q=>!(bit set q.2&&decide (q.1.kind=2)&&decide (q.1.part=i)) || decide (q.1.shows.lo≤inI r p h ls q.2∧inI r p h ls q.2≤q.1.shows.hi)
theorem rightB_succ {r:Road}{m:Nat}{v:Evt}(hv:r.events[m]?=some v)(i:Nat)(p:Tr)(h:Int)(ls:List Int)(set:Nat):rightB r i p h ls set (m+1)=(rightB r i p h ls set m&&(!(bit set m&&decide (v.kind=2)&&decide (v.part=i)) || decide (v.shows.lo≤inI r p h ls m∧inI r p h ls m≤v.shows.hi))):=by
 unfold rightB
 have hz:r.events.zipIdx[m]?=some (v,m):=by rw[List.getElem?_zipIdx,hv];simp
 rw[List.take_add_one,hz,List.all_append]
 simp
end Rd
namespace Ev
namespace Ro
open K
attribute [local simp] ev1 wantG spineK spine float xnew xval xeff zab zae zau zah zai addFl cellsOf pickC alive slLen slFt binI maxA maxK minA minK aeqK aeqS AV.cells spA zad fillA setAt bitsI nat_nn zav AV.plain apart
set_option maxRecDepth 100000
set_option maxHeartbeats 4000000
def RigC (call:CallF)(r:Rd.Road)(set:Nat):Prop:=∀ (H:List AB) (i:Nat) (p:Rd.Tr) (h:Int) (ls:List Int) (lv:AV),Rd.St0 r i p h ls→LoV H ls lv→call (.fn (.func 171) [] []) [.agg (roadCs r),.int .i64 i,.agg [.int .i64 h,.int .i64 p.stiff,.int .i64 p.rise],lv,.int .i64 set] H=some (.ret (.bool (Rd.rightB r i p h ls set r.events.length)),H,[])
def rgSt (H:List AB)(r:Rd.Road)(i:Nat)(p:Rd.Tr)(h:Int)(lv:AV)(set:Nat)(j:Nat)(K:List AB):St:={ tm:=tmA 55 [(11,.int .i64 j),(7,.ptr (H.length+1) 0),(5,.ptr H.length 0),(4,.int .i64 set),(3,lv),(1,.int .i64 i)],df:=[],hp:=H++[.cells [.vs 7 (r.parts.map ptE),.vs 7 (r.events.map evE)],.cells [.int .i64 h,.int .i64 p.stiff,.int .i64 p.rise]]++K,tc:=[] }
theorem zpb (C:Cfg)(hC:C.calm=true)(call:CallF)(hB:SetC call)(hI:RinC call)(r:Rd.Road)(hf:Rd.Fine r)(hN:InC call r)(set:Nat)(hset:set≤1000000)(H:List AB)(i:Nat)(p:Rd.Tr)(h:Int)(ls:List Int)(lv:AV)(hs:Rd.St0 r i p h ls)(hl:LoV H ls lv):Wb C call H af171 [.agg (roadCs r),.int .i64 i,.agg [.int .i64 h,.int .i64 p.stiff,.int .i64 p.rise],lv,.int .i64 set]
  (fun v _hp tc=>v=.bool (Rd.rightB r i p h ls set r.events.length)∧tc=[]):=by
 have he10:=hf.events
 have hp4:=hf.parts
 have hi:=hs.part
 have HX:=hideP (And.intro hB (And.intro hI (And.intro hf (And.intro hN (And.intro hs hl)))))
 clear hB hI hf hN hs hl
 unfold Wb Wa af171 Zq Zr Zu Zm Zl Zo Zs Zd Zh Zc Za Zb Zf Zg Zj Zt Zn Zi Zy Zw
 simp only[zipI,roadCs] at *
 refine gB ?_
 with_reducible refine zan hC r.events.length (by unfold fuelL;omega) (fun j st=>Rd.rightB r i p h ls set j=true∧∃ K,st=rgSt H r i p h lv set j K) ?_ ?_ ?_
 ·refine ⟨by simp[Rd.rightB],[],?_⟩
  unfold rgSt
  rw[List.append_nil]
  exact inwP
 ·rintro j st hj ⟨hr,K,rfl⟩
  obtain ⟨hB,hI,hf,hN,hs,hl⟩:=HX.out
  have hgv:r.events[j]?=some r.events[j]:=List.getElem?_eq_getElem hj
  have hev:=hf.event _ (List.mem_of_getElem? hgv)
  generalize r.events[j]=v at hgv hev
  have hgv':=ge_of hgv
  have hbi:=fun H=>hB H set j hset (by omega)
  have hin:=fun J=>hN (H++J) i p h ls lv j hs (hl.app J) (by omega)
  have hin2:=fun H=>hI H (Rd.inI r p h ls j) v.shows.lo v.shows.hi
  have hsu:=Rd.rightB_succ hgv i p h ls set
  rw[hr,Bool.true_and] at hsu
  have hw:IntKind.i64.wrap (↑j+1)=↑j+1:=zaf (by omega) (by omega)
  have e5:(j:Int)<r.events.length:=by omega
  generalize Rd.inI r p h ls j=y at *
  generalize hb:Rd.bit set j=b0 at *
  generalize hb3:decide (v.shows.lo≤y∧y≤v.shows.hi)=b3 at *
  have hall:∀ b,Rd.rightB r i p h ls set (j+1)=b→b=false→Rd.rightB r i p h ls set r.events.length=false:=fun b e1 e2=>by
   rw[e2] at e1
   unfold Rd.rightB at e1 ⊢
   rw[List.all_eq_false] at e1 ⊢
   obtain ⟨q,h1,h2⟩:=e1
   exact ⟨q,by rw[List.take_of_length_le (by simp)];exact List.mem_of_mem_take h1,h2⟩
  have HV:=hideP (And.intro hsu hall)
  clear hB hI hf hN hs hl hev hsu hall HX hr hb hb3 hset he10 hp4
  unfold rgSt
  cases b0 with
  |false=>
   clear hin hin2
   refine gP ?_
   refine ⟨by rw[HV.out.1];simp,K++[.cells [.int .i64 v.kind,.int .i64 v.load.lo,.int .i64 v.load.hi,.int .i64 v.days,.int .i64 v.part,.int .i64 v.shows.lo,.int .i64 v.shows.hi]],?_⟩
   exact inwP
  |true=>
   by_cases h2:v.kind=2
   ·by_cases h3:v.part=i
    ·have h3':(v.part==(i:Int))=true:=by simp[h3]
     unfold roadCs at hin
     have HP:=hideP h3
     clear h3
     cases b3 with
     |true=>
      (repeat (first|((with_reducible apply zak);(focus ((with_reducible apply zba);(focus rfl);(focus rfl);(focus ((conv=>lhs;simp[*,List.getElem?_append_right,List.set_append_right,List.getElem?_cons_zero,List.getElem?_append_left,List.set_append_left,-getElem?_pos,↓zbe,↓zbr,evE,Nat.testBit_eq_decide_div_mod_eq])<;>exact rfl));(focus rfl);(focus rfl)));simp only[addFl])|(with_reducible apply zak;(focus ((conv=>lhs;simp[*,List.getElem?_append_right,List.set_append_right,List.getElem?_cons_zero,List.getElem?_append_left,List.set_append_left,-getElem?_pos,↓zbe,↓zbr,evE,Nat.testBit_eq_decide_div_mod_eq])<;>exact rfl));simp only[addFl])|((with_reducible first|apply zaw|apply zay|apply zas|apply zaq|apply zao|apply zax|apply zar|apply zaz|(apply zap;· simp[*,zab])|(apply zam;· simp[*,zab]));try simp only[Then,Ops,OutB])|simp only[Nat.reduceEqDiff,reduceIte,OutB,Then]))
      refine ⟨by rw[HV.out.1];simp,K++[.cells [.int .i64 v.kind,.int .i64 v.load.lo,.int .i64 v.load.hi,.int .i64 v.days,.int .i64 v.part,.int .i64 v.shows.lo,.int .i64 v.shows.hi]],?_⟩
      exact inwP
     |false=>
      (repeat (first|((with_reducible apply zak);(focus ((with_reducible apply zba);(focus rfl);(focus rfl);(focus ((conv=>lhs;simp[*,List.getElem?_append_right,List.set_append_right,List.getElem?_cons_zero,List.getElem?_append_left,List.set_append_left,-getElem?_pos,↓zbe,↓zbr,evE,Nat.testBit_eq_decide_div_mod_eq])<;>exact rfl));(focus rfl);(focus rfl)));simp only[addFl])|(with_reducible apply zak;(focus ((conv=>lhs;simp[*,List.getElem?_append_right,List.set_append_right,List.getElem?_cons_zero,List.getElem?_append_left,List.set_append_left,-getElem?_pos,↓zbe,↓zbr,evE,Nat.testBit_eq_decide_div_mod_eq])<;>exact rfl));simp only[addFl])|((with_reducible first|apply zaw|apply zay|apply zas|apply zaq|apply zao|apply zax|apply zar|apply zaz|(apply zap;· simp[*,zab])|(apply zam;· simp[*,zab]));try simp only[Then,Ops,OutB])|simp only[Nat.reduceEqDiff,reduceIte,OutB,Then]))
      exact zac (v:=.bool false) (.inl rfl) rfl (by simp) endvP ⟨by rw[HV.out.2 _ HV.out.1 (by simp[h2,HP.out])],rfl⟩
    ·have h3':(v.part==(i:Int))=false:=beq_false_of_ne h3
     clear hin hin2
     refine gP ?_
     refine ⟨by rw[HV.out.1];simp[h3],K++[.cells [.int .i64 v.kind,.int .i64 v.load.lo,.int .i64 v.load.hi,.int .i64 v.days,.int .i64 v.part,.int .i64 v.shows.lo,.int .i64 v.shows.hi]],?_⟩
     exact inwP
   ·have h2':(v.kind==2)=false:=beq_false_of_ne h2
    clear hin hin2
    refine gP ?_
    refine ⟨by rw[HV.out.1];simp[h2],K++[.cells [.int .i64 v.kind,.int .i64 v.load.lo,.int .i64 v.load.hi,.int .i64 v.days,.int .i64 v.part,.int .i64 v.shows.lo,.int .i64 v.shows.hi]],?_⟩
    exact inwP
 ·rintro st ⟨hr,K,rfl⟩
  clear HX
  unfold rgSt
  refine gB ?_
  exact zac (v:=.bool true) (.inl rfl) rfl (by simp) endvP ⟨by rw[hr],rfl⟩
end Ro
end Ev
namespace Rd
open Clm (Sp spanL)
def fl {β:Type}(f:Int→List β)(lo:Int)(n:Nat):List β:=(List.range n).flatMap fun (m:Nat)=>f (lo+m)
theorem fl_zero {β:Type}(f:Int→List β)(lo:Int):fl f lo 0=[]:=rfl
theorem fl_succ {β:Type}(f:Int→List β)(lo:Int)(n:Nat):fl f lo (n+1)=fl f lo n++f (lo+n):=by
 unfold fl;rw[List.range_succ,List.flatMap_append];simp
theorem fl_len {β:Type}{f:Int→List β}{lo:Int}{B:Nat}(h:∀ x,(f x).length≤B):∀ n,(fl f lo n).length≤n * B
 |0=>by simp[fl]
 |n+1=>by
  rw[fl_succ,List.length_append,Nat.succ_mul]
  have:=fl_len (lo:=lo) h n
  have:=h (lo+n)
  omega
theorem zjb {β:Type}(f:Int→List β)(s:Sp):(spanL s).flatMap f=fl f s.lo (s.hi+1 - s.lo).toNat:=by
 unfold Clm.spanL fl;rw[List.flatMap_map]
def stF (r:Road)(i:Nat)(full:Int)(ls:List Int)(set:Nat)(h s k:Int):List (Int × Tr):=if rightB r i ⟨s,k,full⟩ h ls set r.events.length=true then [(h,⟨s,k,full⟩)] else []
theorem ztj (r:Road)(i:Nat)(p:Tr)(h:Int)(ls:List Int)(set:Nat):(r.events.zipIdx.all fun q=>!(bit set q.2&&q.1.kind==2&&q.1.part==(i:Int)) || (decide (q.1.shows.lo≤inI r p h ls q.2)&&decide (inI r p h ls q.2≤q.1.shows.hi)))=rightB r i p h ls set r.events.length:=by
 unfold rightB
 rw[List.take_of_length_le (by simp)]
 congr 1
 funext q
 rw[Bool.decide_and]
 rfl
theorem zkt {α β:Type}(g:α→Option β):∀ l:List α,l.filterMap g=l.flatMap fun k=>(g k).toList
 |[]=>rfl
 |a::l=>by
  rw[List.filterMap_cons,List.flatMap_cons,zkt g l]
  cases g a<;>rfl
theorem states_fl (r:Road)(i:Nat)(ls:List Int)(set:Nat)(P:Pt)(hP:r.parts.getD i default=P):statesR r i ls set=
  fl (fun h=>fl (fun s=>fl (fun k=>stF r i P.full ls set h s k) P.rise.lo (P.rise.hi+1 - P.rise.lo).toNat) P.stiff.lo (P.stiff.hi+1 - P.stiff.lo).toNat) P.height.lo (P.height.hi+1 - P.height.lo).toNat:=by
 unfold statesR partsR
 rw[hP,zjb]
 congr 1
 funext h
 rw[List.filterMap_flatMap,zjb]
 congr 1
 funext s
 rw[List.filterMap_map,zkt,zjb]
 congr 1
 funext k
 simp only[Function.comp,ztj]
 unfold stF
 split<;>rfl
end Rd
namespace Ev
namespace Ro
open K
attribute [local simp] ev1 wantG spineK spine float xnew xval xeff zab zae zau zah zai addFl cellsOf pickC alive slLen slFt binI maxA maxK minA minK aeqK aeqS AV.cells spA zad fillA setAt bitsI nat_nn zav AV.plain apart
set_option maxRecDepth 100000
set_option maxHeartbeats 4000000
inductive Li (P:Nat→Prop) (G:List AB) (k:Nat) (cs:List AV) (n:Nat):AV→Prop
 |none:cs=[]→n=0→Li P G k cs n .nils
 |some (q:Nat):P q→HB G q (.cells cs)→cs.length=n * k→Li P G k cs n (.sl q 0 n k)
theorem Li.mono {P Q:Nat→Prop}{G:List AB}{k:Nat}{cs:List AV}{n:Nat}{v:AV}(h:Li P G k cs n v)(hm:∀ q,q<G.length→P q→Q q):Li Q G k cs n v:=by
 cases h with
 |none h0 h1=>exact .none h0 h1
 |some q h0 h1 h2=>exact .some q (hm q h1.lt h0) h1 h2
theorem Li.keep {P:Nat→Prop}{G G':List AB}{k:Nat}{cs:List AV}{n:Nat}{v:AV}(h:Li P G k cs n v)(hk:∀ q x,P q→HB G q x→HB G' q x):Li P G' k cs n v:=by
 cases h with
 |none h0 h1=>exact .none h0 h1
 |some q h0 h1 h2=>exact .some q h0 (hk q _ h0 h1) h2
def sCs:List (Int × Rd.Tr)→List AV
 |[]=>[]
 |x::l=>.int .i64 x.1::.int .i64 x.2.stiff::.int .i64 x.2.rise::sCs l
theorem zfj:∀ l,(sCs l).length=l.length * 3
 |[]=>rfl
 |x::l=>by simp[sCs,zfj l];omega
theorem zsy:∀ l m,sCs (l++m)=sCs l++sCs m
 |[],_=>rfl
 |x::l,m=>by simp[sCs,zsy l m]
theorem zjs:∀ l,(sCs l).all AV.plain=true
 |[]=>rfl
 |x::l=>by simp only[sCs,List.all_cons,zjs l];rfl
theorem LoV.keep {H G:List AB}{ls:List Int}{v:AV}(h:LoV H ls v)(hk:∀ q x,q<H.length→HB H q x→HB G q x):LoV G ls v:=by
 cases h with
 |none h=>exact .none h
 |some q h=>exact .some q (hk q _ h.lt h)
def partC (p:Rd.Pt):List AV:=[.int .i64 p.height.lo,.int .i64 p.height.hi,.int .i64 p.stiff.lo,.int .i64 p.stiff.hi,.int .i64 p.rise.lo,.int .i64 p.rise.hi,.int .i64 p.full]
structure SaI (H:List AB) (r:Rd.Road) (p:Rd.Pt) (out:List (Int × Rd.Tr)) (cur:AV) (G:List AB):Prop where
 c0:HB G H.length (.cells (roadCs r))
 c1:HB G (H.length+1) (.cells (partC p))
 len:H.length+2≤G.length
 old:∀ q x,q<H.length→HB H q x→HB G q x
 li:Li (fun q=>H.length+2≤q) G 3 (sCs out) out.length cur
def sa4St (H:List AB)(i:Nat)(lv:AV)(set:Nat)(cur:AV)(h s k:Int)(G:List AB):St:={ tm:=tmA 65 [(13,.int .i64 k),(12,.int .i64 s),(11,.int .i64 h),(10,cur),(9,.ptr (H.length+1) 0),(4,.ptr H.length 0),(3,.int .i64 set),(2,lv),(1,.int .i64 i)],df:=[],hp:=G,tc:=[] }
def sa2St (H:List AB)(i:Nat)(lv:AV)(set:Nat)(cur:AV)(h s:Int)(G:List AB):St:={ tm:=tmA 65 [(12,.int .i64 s),(11,.int .i64 h),(10,cur),(9,.ptr (H.length+1) 0),(4,.ptr H.length 0),(3,.int .i64 set),(2,lv),(1,.int .i64 i)],df:=[],hp:=G,tc:=[] }
def sa0St (H:List AB)(i:Nat)(lv:AV)(set:Nat)(cur:AV)(h:Int)(G:List AB):St:={ tm:=tmA 65 [(11,.int .i64 h),(10,cur),(9,.ptr (H.length+1) 0),(4,.ptr H.length 0),(3,.int .i64 set),(2,lv),(1,.int .i64 i)],df:=[],hp:=G,tc:=[] }
theorem zsn (C:Cfg)(call:CallF)(r:Rd.Road)(i set:Nat)(hR:RigC call r set)(p:Rd.Pt)(ls:List Int)(lv:AV)(h s k:Int)(hs:Rd.St0 r i ⟨s,k,p.full⟩ h ls)(hk:k≤p.rise.hi)(hk5:0≤k∧k≤5)(H:List AB)(hl:LoV H ls lv)(out:List (Int × Rd.Tr))(cur:AV)(hbd:out.length+1≤bound)(G:List AB)(hG:SaI H r p out cur G):
  Does (ev C call H.length none (atP [1,1,1,0,1,0,0,1,0,0,1,0,0,1,0,0,1,0,0] af156.body) (sa4St H i lv set cur h s k G))
   (fun e st=>e=.normal∧∃ G' cur',SaI H r p (out++Rd.stF r i p.full ls set h s k) cur' G'∧{ st with tm:=keepT [1,2,3,4,9,10,11,12,13] st.tm }=sa4St H i lv set cur' h s (k+1) G'):=by
 obtain ⟨c0,c1,hlen,hold,hli⟩:=hG
 have hcall:=fun J=>hR (G++J) i ⟨s,k,p.full⟩ h ls lv hs ((hl.keep hold).app J)
 have x4:IntKind.i64.wrap (k+1)=k+1:=zaf (by omega) (by omega)
 have hb1:1≤bound:=by decide
 have hpl:=zjs out
 have hln:=zfj out
 have gl0:¬ (G.length<H.length):=by omega
 have gl1:∀ n,¬ (G.length+n<H.length):=fun n=>by omega
 have HX:=hideP (And.intro c0 (And.intro c1 (And.intro hlen (And.intro hold hli))))
 obtain ⟨A1,A2,A3⟩:=c0
 obtain ⟨B1,B2,B3⟩:=c1
 have na0:¬ (H.length=G.length):=by omega
 have na1:¬ (H.length+1=G.length):=by omega
 clear hR hs hl hold hlen hk5
 unfold Rd.stF
 unfold af156 Zq Zu Zm Zl Zo Zs Zc Za Zb Zf Zg Zj Zt Zi sa4St
 simp only[atP,roadCs,partC] at *
 cases hbb:Rd.rightB r i ⟨s,k,p.full⟩ h ls set r.events.length with
 |false=>
  rw[hbb] at hcall
  rw[if_neg (by decide),List.append_nil]
  clear hli
  refine gB ?_
  obtain ⟨c0,c1,hlen,hold,hli⟩:=HX.out
  refine ⟨by first|rfl|trivial,G++[.cells [.int .i64 h,.int .i64 s,.int .i64 k]],cur,⟨c0.app _,c1.app _,by simp;omega,fun q x h1 h2=>(hold q x h1 h2).app _,hli.keep fun q x _ h=>h.app _⟩,?_⟩
  exact inwP
 |true=>
  rw[hbb] at hcall
  rw[if_pos rfl]
  have hfin:∀ (G2:List AB) (q:Nat),(∀ q' x,q'<H.length+2→HB G q' x→HB G2 q' x)→H.length+2≤q→HB G2 q (.cells (sCs out++[.int .i64 h,.int .i64 s,.int .i64 k]))→SaI H r p (out++[(h,⟨s,k,p.full⟩)]) (.sl q 0 (out.length+1) 3) G2:=fun G2 q f1 f2 f3=>by
   obtain ⟨c0,c1,hlen,hold,hli⟩:=HX.out
   refine ⟨f1 _ _ (by omega) c0,f1 _ _ (by omega) c1,by have:=f3.lt;omega,fun q' x h1 h2=>f1 q' x (by omega) (hold q' x h1 h2),?_⟩
   have:=Li.some (P:=fun q=>H.length+2≤q) (G:=G2) (k:=3) (cs:=sCs (out++[(h,⟨s,k,p.full⟩)])) (n:=out.length+1) q f2 (by rw[zsy];exact f3) (by rw[zfj];simp)
   simpa using this
  have HF:=hideP hfin
  clear hfin
  cases hli with
  |none h0 h00=>
   have hz:out=[]:=List.eq_nil_of_length_eq_zero h00
   subst hz
   clear h0 h00 hpl hln
   refine gB ?_
   refine ⟨by first|rfl|trivial,G++[.cells [.int .i64 h,.int .i64 s,.int .i64 k],.cells [.int .i64 h,.int .i64 s,.int .i64 k],.cells [.int .i64 h,.int .i64 s,.int .i64 k]],_,HF.out _ (G.length+2) (fun q' x _ h=>h.app _) (by have:=HX.out.2.2.1;omega) (hb (by rw[List.getElem?_append_right (by omega)];simp[sCs])),?_⟩
   exact inwP
  |some q l1 h1 h2=>
   obtain ⟨Q1,Q2,Q3⟩:=h1
   have n1:¬ (q<H.length):=by omega
   have n2:¬ (H.length=q):=by omega
   have n3:¬ (H.length+1=q):=by omega
   have n4:¬ (q=G.length):=by omega
   refine gB ?_
   refine ⟨by first|rfl|trivial,G.set q .dead++[.cells [.int .i64 h,.int .i64 s,.int .i64 k],.cells [.int .i64 h,.int .i64 s,.int .i64 k],.cells (sCs out++[.int .i64 h,.int .i64 s,.int .i64 k])],_,HF.out _ (G.length+2) (fun q' x _ h=>(h.set _ (by omega)).app _) (by have:=HX.out.2.2.1;omega) (hb (by rw[List.getElem?_append_right (by simp)];simp)),?_⟩
   exact inwP
theorem zov (C:Cfg)(hC:C.calm=true)(call:CallF)(r:Rd.Road)(hf:Rd.Fine r)(i set:Nat)(hi:i<r.parts.length)(hR:RigC call r set)(ls:List Int)(lv:AV)(hls:ls∈Rd.allR r.events)(H:List AB)(hl:LoV H ls lv):
  Wb C call H af156 [.agg (roadCs r),.int .i64 i,lv,.int .i64 set]
   (fun v hp tc=>tc=[]∧Li (fun q=>H.length≤q) hp 3 (sCs (Rd.statesR r i ls set)) (Rd.statesR r i ls set).length v):=by
 have hgp:r.parts[i]?=some r.parts[i]:=List.getElem?_eq_getElem hi
 have hgd:r.parts.getD i default=r.parts[i]:=by rw[List.getD_eq_getElem?_getD,hgp];rfl
 have hok:=hf.part _ (List.getElem_mem hi)
 have hp4:=hf.parts
 have htr:=Rd.states_fl r i ls set r.parts[i] hgd
 generalize r.parts[i]=p at hgp hgd hok htr
 have hgp':=ge_of hgp
 obtain ⟨⟨e1,e2⟩,⟨a1,a2,a3,a4⟩,⟨b1,b2,b3,b4⟩,d1,d2,d3,d4⟩:=hok
 have hF:∀ h s k,(Rd.stF r i p.full ls set h s k).length≤1:=fun h s k=>by unfold Rd.stF;split<;>simp
 have hSt:∀ h s k,p.height.lo≤h→h≤p.height.hi→p.stiff.lo≤s→s≤p.stiff.hi→p.rise.lo≤k→k≤p.rise.hi→Rd.St0 r i ⟨s,k,p.full⟩ h ls:=fun h s k x1 x2 x3 x4 x5 x6=>⟨hi,by rw[hgd,Rd.mem_partsR];exact ⟨⟨x3,x4⟩,⟨x5,x6⟩,rfl⟩,by rw[hgd];exact ⟨x1,x2⟩,hls⟩
 have e5:(i:Int)<r.parts.length:=by omega
 rw[htr]
 obtain ⟨nl,hnl⟩:∃ n,(p.height.hi+1 - p.height.lo).toNat=n:=⟨_,rfl⟩
 obtain ⟨nw,hnw⟩:∃ n,(p.stiff.hi+1 - p.stiff.lo).toNat=n:=⟨_,rfl⟩
 obtain ⟨nh,hnh⟩:∃ n,(p.rise.hi+1 - p.rise.lo).toNat=n:=⟨_,rfl⟩
 rw[hnl,hnw,hnh]
 have hFh:∀ h s,(Rd.fl (fun k=>Rd.stF r i p.full ls set h s k) p.rise.lo nh).length≤3 * 1:=fun h s=>Nat.le_trans (Rd.fl_len (fun k=>hF h s k) nh) (Nat.mul_le_mul_right _ (by omega))
 have hFw:∀ h,(Rd.fl (fun s=>Rd.fl (fun k=>Rd.stF r i p.full ls set h s k) p.rise.lo nh) p.stiff.lo nw).length≤3 * (3 * 1):=fun h=>Nat.le_trans (Rd.fl_len (fun s=>hFh h s) nw) (Nat.mul_le_mul_right _ (by omega))
 have HX:=hideP (And.intro hR (And.intro hF (And.intro hFh (And.intro hFw (And.intro hSt (And.intro hl htr))))))
 clear hR hF hFh hFw hSt hl htr hgd hf hls
 unfold Wb Wa af156 Zq Zu Zm Zl Zo Zs Zc Za Zb Zf Zg Zj Zt Zi
 simp only[zipI,roadCs] at *
 refine gO ?_
 clear hgp hgp' e5
 with_reducible refine zan hC nl (by unfold fuelL;omega) (fun a st=>∃ G cur,SaI H r p (Rd.fl (fun h=>Rd.fl (fun s=>Rd.fl (fun k=>Rd.stF r i p.full ls set h s k) p.rise.lo nh) p.stiff.lo nw) p.height.lo a) cur G∧st=sa0St H i lv set cur (p.height.lo+a) G) ?_ ?_ ?_
 ·refine ⟨H++[.cells (roadCs r),.cells (partC p)],.nils,⟨hb (by rw[List.getElem?_append_right (by omega),Nat.sub_self];rfl),hb (by rw[List.getElem?_append_right (by omega),Nat.add_sub_cancel_left];rfl),by simp,fun q x _ h=>h.app _,.none rfl rfl⟩,?_⟩
  unfold sa0St
  simp only[roadCs,partC]
  exact inwP
 ·rintro a st ha ⟨G0,cur0,hI0,rfl⟩
  have hI0':=hideP hI0
  obtain ⟨⟨A1,A2,A3⟩,⟨B1,B2,B3⟩,_,_,_⟩:=hI0
  have x0:p.height.lo+(a:Int)≤p.height.hi:=by omega
  have x1:IntKind.i64.wrap (p.height.lo+(a:Int)+1)=p.height.lo+(a:Int)+1:=zaf (by omega) (by omega)
  unfold sa0St
  simp only[roadCs,partC] at *
  refine gB ?_
  clear A1 A2 A3 B1 B2 B3
  with_reducible refine zan hC nw (by unfold fuelL;omega) (fun b st=>∃ G cur,SaI H r p (Rd.fl (fun h=>Rd.fl (fun s=>Rd.fl (fun k=>Rd.stF r i p.full ls set h s k) p.rise.lo nh) p.stiff.lo nw) p.height.lo a++Rd.fl (fun s=>Rd.fl (fun k=>Rd.stF r i p.full ls set (p.height.lo+a) s k) p.rise.lo nh) p.stiff.lo b) cur G∧st=sa2St H i lv set cur (p.height.lo+a) (p.stiff.lo+b) G) ?_ ?_ ?_
  ·refine ⟨G0,cur0,by rw[Rd.fl_zero,List.append_nil];exact hI0'.out,?_⟩
   unfold sa2St
   exact inwP
  ·rintro b st hb ⟨G1,cur1,hI1,rfl⟩
   have hI1':=hideP hI1
   obtain ⟨⟨A1,A2,A3⟩,⟨B1,B2,B3⟩,_,_,_⟩:=hI1
   have x2:p.stiff.lo+(b:Int)≤p.stiff.hi:=by omega
   have x3:IntKind.i64.wrap (p.stiff.lo+(b:Int)+1)=p.stiff.lo+(b:Int)+1:=zaf (by omega) (by omega)
   unfold sa2St
   simp only[roadCs,partC] at *
   refine gB ?_
   clear A1 A2 A3 B1 B2 B3
   with_reducible refine zan hC nh (by unfold fuelL;omega) (fun d st=>∃ G cur,SaI H r p (Rd.fl (fun h=>Rd.fl (fun s=>Rd.fl (fun k=>Rd.stF r i p.full ls set h s k) p.rise.lo nh) p.stiff.lo nw) p.height.lo a++Rd.fl (fun s=>Rd.fl (fun k=>Rd.stF r i p.full ls set (p.height.lo+a) s k) p.rise.lo nh) p.stiff.lo b++Rd.fl (fun k=>Rd.stF r i p.full ls set (p.height.lo+a) (p.stiff.lo+b) k) p.rise.lo d) cur G∧st=sa4St H i lv set cur (p.height.lo+a) (p.stiff.lo+b) (p.rise.lo+d) G) ?_ ?_ ?_
   ·refine ⟨G1,cur1,by rw[Rd.fl_zero,List.append_nil];exact hI1'.out,?_⟩
    unfold sa4St
    exact inwP
   ·rintro d st hd ⟨G2,cur2,hI2,rfl⟩
    obtain ⟨hR,hF,hFh,hFw,hSt,hl,_⟩:=HX.out
    have n1:=Rd.fl_len (lo:=p.height.lo) hFw a
    have n2:=Rd.fl_len (lo:=p.stiff.lo) (hFh (p.height.lo+a)) b
    have n3:=Rd.fl_len (f:=fun k=>Rd.stF r i p.full ls set (p.height.lo+a) (p.stiff.lo+b) k) (lo:=p.rise.lo) (fun k=>hF _ _ k) d
    have hr := zsn C call r i set hR p ls lv (p.height.lo + a) (p.stiff.lo + b) (p.rise.lo + d) (hSt _ _ _ (by omega) (by omega) (by omega) (by omega) (by omega) (by omega)) (by omega) (by omega) H hl _ cur2 (by
     simp only[List.length_append]
     unfold bound;omega) G2 hI2
    refine Does.mono hr ?_
    rintro e st ⟨rfl,G',cur',h1,h2⟩
    refine ⟨G',cur',?_,?_⟩
    ·rw[Rd.fl_succ,← List.append_assoc];exact h1
    ·rw[h2];congr 1;omega
   ·rintro st ⟨G2,cur2,hI2,rfl⟩
    have hI2':=hideP hI2
    obtain ⟨⟨A1,A2,A3⟩,⟨B1,B2,B3⟩,_,_,_⟩:=hI2
    have x4:¬ (p.rise.lo+(nh:Int)≤p.rise.hi):=by omega
    unfold sa4St
    simp only[roadCs,partC] at *
    refine gB ?_
    refine ⟨G2,cur2,by rw[Rd.fl_succ,← List.append_assoc];exact hI2'.out,?_⟩
    rw[show p.stiff.lo+((b+1:Nat):Int)=p.stiff.lo+(b:Int)+1 by omega]
    exact inwP
  ·rintro st ⟨G1,cur1,hI1,rfl⟩
   have hI1':=hideP hI1
   obtain ⟨⟨A1,A2,A3⟩,⟨B1,B2,B3⟩,_,_,_⟩:=hI1
   have x4:¬ (p.stiff.lo+(nw:Int)≤p.stiff.hi):=by omega
   unfold sa2St
   simp only[roadCs,partC] at *
   refine gB ?_
   refine ⟨G1,cur1,by rw[Rd.fl_succ];exact hI1'.out,?_⟩
   rw[show p.height.lo+((a+1:Nat):Int)=p.height.lo+(a:Int)+1 by omega]
   exact inwP
 ·rintro st ⟨G0,cur0,hI0,rfl⟩
  obtain ⟨⟨A1,A2,A3⟩,⟨B1,B2,B3⟩,hlen,_,hli⟩:=hI0
  have HY:=hideP hli
  have hgH:H.length≤G0.length:=by omega
  clear hli hlen
  have x4:¬ (p.height.lo+(nl:Int)≤p.height.hi):=by omega
  unfold sa0St
  simp only[roadCs,partC] at *
  refine gB ?_
  exact zac (v:=cur0) (.inl rfl) rfl hgH endvP ⟨rfl,HY.out.mono fun q _ hq=>by omega⟩
end Ro
end Ev
namespace Rd
open Clm (Sp hullR)
end Rd
namespace Ev
namespace Ro
open K
set_option maxRecDepth 100000
set_option maxHeartbeats 4000000
end Ro
namespace Ro
open K
attribute [local simp] ev1 wantG spineK spine float xnew xval xeff zab zae zau zah zai addFl cellsOf pickC alive slLen slFt binI maxA maxK minA minK aeqK aeqS AV.cells spA zad fillA setAt bitsI nat_nn zav AV.plain apart
set_option maxRecDepth 100000
set_option maxHeartbeats 4000000
def EveC (call:CallF)(r:Rd.Road):Prop:=∀ H,call (.fn (.func 130) [] []) [.agg (roadCs r)] H=some (.ret (.int .i64 (Rd.everyR r:Nat)),H,[])
theorem zxs {n:Nat}(hn:n≤10):IntKind.i64.wrap (((2 ^ n:Nat):Int) - 1)=((2 ^ n - 1:Nat):Int):=by
 have h1:0<2 ^ n:=Nat.two_pow_pos n
 have h2:2 ^ n≤2 ^ 10:=Nat.pow_le_pow_right (by decide) hn
 have h3:(2:Nat) ^ 10=1024:=rfl
 rw[h3] at h2
 generalize (2:Nat) ^ n=m at *
 rw[show ((m - 1:Nat):Int)=(m:Int) - 1 by omega]
 exact zaf (by omega) (by omega)
theorem zpf (C:Cfg)(call:CallF)(r:Rd.Road)(hf:Rd.Fine r)(hP:PowC call)(H:List AB):
  Wb C call H af130 [.agg (roadCs r)]
   (fun v _ tc=>v=.int .i64 (Rd.everyR r:Nat)∧tc=[]):=by
 have he10:=hf.events
 have hp:=fun H=>hP H r.events.length (by omega)
 have hw:=zxs he10
 unfold Rd.everyR
 generalize ((2 ^ r.events.length:Nat):Int)=p at *
 generalize ((2 ^ r.events.length - 1:Nat):Int)=p' at *
 clear hP he10 hf
 unfold Wb Wa af130 Zq Zm Zl Zo Zc Zb Zf Zt Zn
 simp only[zipI,roadCs] at *
 refine gB ?_
 exact zac (v:=.int .i64 p') (.inl rfl) rfl (by simp) endvP ⟨rfl,rfl⟩
end Ro
end Ev
namespace Rd
open Clm (Sp spanL)
def ldS (v:Evt):Sp:=if v.kind=0 then v.load else ⟨0,0⟩
theorem zlf (v:Evt)(es:List Evt):allR (v::es)=fl (fun x=>(allR es).map (x::·)) (ldS v).lo ((ldS v).hi+1 - (ldS v).lo).toNat:=by
 rw[← zjb]
 unfold ldS
 rw[allR]
 split
 ·rfl
 ·simp[spanL]
def addA (r:Road)(n:Nat)(b:List Int):List (List Int):=(allR (r.events.drop n)).map (b++·)
theorem addA_end (r:Road)(b:List Int):addA r r.events.length b=[b]:=by
 unfold addA
 rw[List.drop_length]
 simp[allR]
theorem addA_step {r:Road}{n:Nat}{v:Evt}(hv:r.events[n]?=some v)(b:List Int):addA r n b=fl (fun x=>addA r (n+1) (b++[x])) (ldS v).lo ((ldS v).hi+1 - (ldS v).lo).toNat:=by
 obtain ⟨hn,rfl⟩:=List.getElem?_eq_some_iff.1 hv
 unfold addA
 rw[List.drop_eq_getElem_cons hn,zlf]
 unfold fl
 rw[List.map_flatMap]
 congr 1
 funext m
 rw[List.map_map]
 congr 1
 funext l
 simp
theorem addA_all (r:Road):addA r 0 []=allR r.events:=by unfold addA;simp
theorem addA_pos {r:Road}(hr:Fine r):∀ (k n:Nat) (b:List Int),n+k=r.events.length→0<(addA r n b).length∧(addA r n b).length≤3 ^ k
 |0,n,b,h=>by
  have:n=r.events.length:=by omega
  subst this
  rw[addA_end];simp
 |k+1,n,b,h=>by
  have hv:r.events[n]?=some r.events[n]:=List.getElem?_eq_getElem (by omega)
  have hev:=hr.event _ (List.mem_of_getElem? hv)
  rw[addA_step hv]
  generalize r.events[n]=v at hev
  have hs:(ldS v).lo≤(ldS v).hi∧(ldS v).hi≤(ldS v).lo+2:=by
   unfold ldS
   split
   ·omega
   ·exact ⟨Int.le_refl _,by decide⟩
  obtain ⟨c,hc⟩:∃ c,((ldS v).hi+1 - (ldS v).lo).toNat=c+1:=⟨((ldS v).hi - (ldS v).lo).toNat,by omega⟩
  have h3:=fl_len (lo:=(ldS v).lo) (f:=fun x=>addA r (n+1) (b++[x])) (B:=3 ^ k) (fun x=>(addA_pos hr k (n+1) _ (by omega)).2) ((ldS v).hi+1 - (ldS v).lo).toNat
  refine ⟨?_,Nat.le_trans h3 (by rw[Nat.pow_succ,Nat.mul_comm];exact Nat.mul_le_mul_left _ (by omega))⟩
  rw[hc,fl_succ,List.length_append]
  have:=(addA_pos hr k (n+1) (b++[(ldS v).lo+(c:Int)]) (by omega)).1
  omega
end Rd
namespace Ev
namespace Ro
open K
inductive LoQ (q:Nat) (G:List AB) (ls:List Int):AV→Prop
 |none:ls=[]→LoQ q G ls .nils
 |some (p:Nat):p≠q→HB G p (.cells (ints ls))→LoQ q G ls (.sl p 0 ls.length 1)
theorem LoQ.lo {q:Nat}{G:List AB}{ls:List Int}{v:AV}(h:LoQ q G ls v):LoV G ls v:=by
 cases h with
 |none h=>exact .none h
 |some p _ h=>exact .some p h
theorem LoQ.keep {q q':Nat}{G G':List AB}{ls:List Int}{v:AV}(h:LoQ q G ls v)(hq:G.length≤q')(hk:∀ p x,p≠q→HB G p x→HB G' p x):LoQ q' G' ls v:=by
 cases h with
 |none h=>exact .none h
 |some p h1 h2=>exact .some p (by have:=h2.lt;omega) (hk p _ h1 h2)
theorem LoV.plain {G:List AB}{ls:List Int}{v:AV}(h:LoV G ls v):v.plain=true:=by
 cases h<;>rfl
theorem zjj {vs:List AV}{v:AV}(h1:vs.all AV.plain=true)(h2:v.plain=true):(vs++[v]).all AV.plain=true:=by rw[List.all_append,h1,List.all_cons,h2];rfl
def OuE (q:Nat)(G:List AB)(L:List (List Int))(vs:List AV):Prop:=vs.length=L.length∧∀ (j:Nat) (ls:List Int),L[j]?=some ls→∃ w,vs[j]?=some w∧LoQ q G ls w
inductive OuV (G:List AB) (L:List (List Int)):AV→Prop
 |none:L=[]→OuV G L .nils
 |some (q:Nat) (vs:List AV):HB G q (.cells vs)→vs.all AV.plain=true→OuE q G L vs→OuV G L (.sl q 0 L.length 1)
def hdr (v:AV)(q:Nat):Prop:=∃ n k,v=.sl q 0 n k
theorem OuE.keep {q q':Nat}{G G':List AB}{L:List (List Int)}{vs:List AV}(h:OuE q G L vs)(hq:G.length≤q')(hk:∀ p x,p≠q→HB G p x→HB G' p x):OuE q' G' L vs:=by
 refine ⟨h.1,fun j ls hj=>?_⟩
 obtain ⟨w,h1,h2⟩:=h.2 j ls hj
 exact ⟨w,h1,h2.keep hq hk⟩
theorem OuE.snoc {q:Nat}{G:List AB}{L:List (List Int)}{vs:List AV}(h:OuE q G L vs){ls:List Int}{w:AV}(hw:LoQ q G ls w):OuE q G (L++[ls]) (vs++[w]):=by
 refine ⟨by simp[h.1],fun j ls' hj=>?_⟩
 by_cases hjl:j<L.length
 ·rw[List.getElem?_append_left hjl] at hj
  obtain ⟨w',g1,g2⟩:=h.2 j ls' hj
  exact ⟨w',by rw[List.getElem?_append_left (by rw[h.1];exact hjl)];exact g1,g2⟩
 ·have hj2:=(List.getElem?_eq_some_iff.1 hj).1
  rw[List.length_append,List.length_singleton] at hj2
  have e:j=L.length:=by omega
  subst e
  rw[List.getElem?_append_right (Nat.le_refl _),Nat.sub_self] at hj
  obtain rfl:=Option.some.inj hj
  exact ⟨w,by rw[List.getElem?_append_right (by rw[h.1];exact Nat.le_refl _),h.1,Nat.sub_self];rfl,hw⟩
end Ro
namespace Ro
open K
attribute [local simp] ev1 wantG spineK spine float xnew xval xeff zab zae zau zah zai addFl cellsOf pickC alive slLen slFt binI maxA maxK minA minK aeqK aeqS AV.cells spA zad fillA setAt bitsI nat_nn zav AV.plain apart
set_option maxRecDepth 100000
set_option maxHeartbeats 4000000
structure AlR (H G:List AB) (tc:List Nat) (ov:AV) (L':List (List Int)) (v:AV):Prop where
 len:H.length≤G.length
 keep:∀ p x,¬ hdr ov p→HB H p x→HB G p x
 own:∀ t∈tc,hdr ov t
 li:OuV G L' v
 new:∀ q,hdr v q→H.length≤q
def RallC (call:CallF)(r:Rd.Road)(n:Nat):Prop:=∀ (H:List AB) (b:List Int) (bv:AV) (L:List (List Int)) (ov:AV),b.length=n→LoV H b bv→(∀ q,hdr ov q→LoQ q H b bv)→OuV H L ov→L.length+3 ^ (r.events.length - n)≤bound →
 ∃ v G tc,call (.fn (.func 155) [] []) [.agg (roadCs r),bv,ov] H=some (.ret v,G,tc)∧AlR H G tc ov (L++Rd.addA r n b) v
def alSt (H:List AB)(bv cur:AV)(k:Int)(G:List AB)(tcs:List Nat):St:={ tm:=tmA 53 [(9,.int .i64 k),(8,.ptr (H.length+1) 0),(3,.ptr H.length 0),(2,cur),(1,bv)],df:=[],hp:=G,tc:=tcs }
structure AlI (H:List AB) (r:Rd.Road) (lo hi:Int) (L':List (List Int)) (ov cur:AV) (G:List AB) (tcs:List Nat):Prop where
 c0:HB G H.length (.cells (roadCs r))
 c1:HB G (H.length+1) (.cells [.int .i64 lo,.int .i64 hi])
 keep:∀ p x,¬ hdr ov p→HB H p x→HB G p x
 tc:∀ t∈tcs,hdr ov t
 li:OuV G L' cur
 new:cur=ov∨∀ q,hdr cur q→H.length+2≤q
theorem OuV.hdr_lt {G:List AB}{L:List (List Int)}{v:AV}(h:OuV G L v){q:Nat}(hq:hdr v q):q<G.length:=by
 obtain ⟨n,k,rfl⟩:=hq
 cases h with
 |some q vs h1 _ _=>exact h1.lt
theorem OuV.app {G:List AB}{L:List (List Int)}{v:AV}(h:OuV G L v)(K:List AB):OuV (G++K) L v:=by
 cases h with
 |none h=>exact .none h
 |some q vs h1 h2 h3=>
  refine .some q vs (h1.app K) h2 ⟨h3.1,fun j ls hj=>?_⟩
  obtain ⟨w,g1,g2⟩:=h3.2 j ls hj
  refine ⟨w,g1,?_⟩
  cases g2 with
  |none h=>exact .none h
  |some p h4 h5=>exact .some p h4 (h5.app K)
theorem zwl (C:Cfg)(call:CallF)(r:Rd.Road)(n:Nat)(hn:n<20)(hA:RallC call r (n+1))(H:List AB)(b:List Int)(bv:AV)(L':List (List Int))(ov cur:AV)(hbl:b.length=n)(hb0:LoV H b bv)(hbq:∀ q,hdr ov q→LoQ q H b bv)(hov:∀ q,hdr ov q→q<H.length)(lo hi k:Int)(k0:0≤k)(k1:k≤60)(k2:k≤hi)(hbd:L'.length+3 ^ (r.events.length - (n+1))≤bound)(G:List AB)(tcs:List Nat)(hG:AlI H r lo hi L' ov cur G tcs):
  Does (ev C call H.length none (atP [1,1,1,1,1,0,1,0,0] af155.body) (alSt H bv cur k G tcs))
   (fun e st=>e=.normal∧∃ G' cur' tcs',AlI H r lo hi (L'++Rd.addA r (n+1) (b++[k])) ov cur' G' tcs'∧(∀ q,hdr cur' q→H.length+2≤q)∧{ st with tm:=keepT [1,2,3,8,9] st.tm }=alSt H bv cur' (k+1) G' tcs'):=by
 obtain ⟨c0,c1,hkeep,htc,hli,hnew⟩:=hG
 have hbG:LoV G b bv:=by
  by_cases hh:∃ q,hdr ov q
  ·obtain ⟨q,hq⟩:=hh
   cases hbq q hq with
   |none h=>exact .none h
   | some p h1 h2 => exact .some p (hkeep p _ (fun h => by
     obtain ⟨n1,k1,e1⟩:=hq
     obtain ⟨n2,k2,e2⟩:=h
     rw[e1] at e2
     cases e2
     exact h1 rfl) h2)
  ·exact hb0.keep fun q x _ h=>hkeep q x (fun h'=>hh ⟨q,h'⟩) h
 have hb':HB (G++[.dead,.cells [.int .i64 k],.dead,.cells (ints b++[.int .i64 k])]) (G.length+3) (.cells (ints (b++[k]))):=hb (by rw[List.getElem?_append_right (by omega)];simp[ints])
 obtain ⟨v',G',tc',hcall,hR⟩:=hA (G++[.dead,.cells [.int .i64 k],.dead,.cells (ints b++[.int .i64 k])]) (b++[k]) (.sl (G.length+3) 0 (b++[k]).length 1) L' cur (by simp[hbl]) (.some _ hb') (fun q hq=>.some _ (by have:=hli.hdr_lt hq;omega) hb') (hli.app _) hbd
 rw[show (b++[k]).length=b.length+1 by simp] at hcall
 have hgl:=c1.lt
 have hcur:∀ a,¬ hdr cur (H.length+a)∨2≤a:=fun a=>by
  by_cases ha:2≤a
  ·exact .inr ha
  ·refine .inl fun h=>?_
   rcases hnew with e|h'
   ·rw[e] at h;have:=hov _ h;omega
   ·have:=h' _ h;omega
 have hres:AlI H r lo hi (L'++Rd.addA r (n+1) (b++[k])) ov v' G' (tc'.filter (fun x=>decide (x<H.length))++tcs):=by
  refine ⟨hR.keep _ _ ((hcur 0).resolve_right (by omega)) (c0.app _),hR.keep _ _ ((hcur 1).resolve_right (by omega)) (c1.app _),fun p x h1 h2=>?_,fun t ht=>?_,hR.li,.inr fun q hq=>by have:=hR.new q hq;simp only[List.length_append] at this;omega⟩
  ·refine hR.keep p x (fun h=>?_) ((hkeep p x h1 h2).app _)
   rcases hnew with e|h'
   ·rw[e] at h;exact h1 h
   ·have:=h' _ h;have:=h2.lt;omega
  ·rw[List.mem_append] at ht
   rcases ht with ht|ht
   ·obtain ⟨g1,g2⟩:=List.mem_filter.1 ht
    have g3:=hR.own t g1
    rcases hnew with e|h'
    ·rw[e] at g3;exact g3
    ·have:=h' _ g3;have:=of_decide_eq_true g2;omega
   ·exact htc t ht
 have hnw:∀ q,hdr v' q→H.length+2≤q:=fun q hq=>by have:=hR.new q hq;simp only[List.length_append] at this;omega
 have HX:=hideP (And.intro hres hnw)
 have w3:IntKind.i64.wrap (k+1)=k+1:=zaf (by omega) (by omega)
 have hb1:1≤bound:=by decide
 have hbb:b.length+1≤bound:=by unfold bound;omega
 have hbb0:b.length≤bound:=by omega
 have hpl:=zfn b
 have hil:(ints b).length=b.length:=by simp[ints]
 have g0:¬ (G.length<H.length):=by omega
 have g1:∀ n,¬ (G.length+n<H.length):=fun n=>by omega
 have g2:¬ (H.length=G.length):=by omega
 have g3:¬ (H.length+1=G.length):=by omega
 have g4:∀ n,¬ (H.length=G.length+n):=fun n=>by omega
 have g5:∀ n,¬ (H.length+1=G.length+n):=fun n=>by omega
 obtain ⟨A1,A2,A3⟩:=c0
 obtain ⟨B1,B2,B3⟩:=c1
 clear hA hR hres hnw hbd hli hnew htc hkeep hcur hbq hov hb0 hb' k0 k1 hgl
 unfold af155 Zq Zu Zm Zl Zo Zs Zd Zc Za Zb Zf Zg Zj Zt Zi alSt
 simp only[atP,roadCs] at *
 cases hbG with
 |none h0=>
  subst h0
  simp only[ints,List.map_nil,List.nil_append,List.length_nil] at hcall
  clear hpl hil hbb hbb0 hbl
  have hsn:∀ H,slCells 1 H .nils=some []:=fun _=>rfl
  have hb2:0≤bound:=by decide
  refine gC ?_
  refine ⟨by first|rfl|trivial,G',v',_,HX.out.1,HX.out.2,?_⟩
  exact inwP
 |some q hq=>
  obtain ⟨Q1,Q2,Q3⟩:=hq
  subst hbl
  have htk:List.take b.length (ints b)=ints b:=List.take_of_length_le (by omega)
  have q1:¬ (q=G.length):=by omega
  have q2:∀ n,¬ (q=G.length+n):=fun n=>by omega
  refine gC ?_
  refine ⟨by first|rfl|trivial,G',v',_,HX.out.1,HX.out.2,?_⟩
  exact inwP
def AlQ (H:List AB)(ov:AV)(L':List (List Int))(v:AV)(hp:List AB)(tc:List Nat):Prop:=(∀ t∈tc,hdr ov t)∧OuV hp L' v∧∀ q,hdr v q→H.length≤q
theorem zyy (C:Cfg)(hC:C.calm=true)(call:CallF)(r:Rd.Road)(hf:Rd.Fine r)(n:Nat)(v:Rd.Evt)(hv:r.events[n]?=some v)(hA:RallC call r (n+1))(H:List AB)(b:List Int)(bv:AV)(L0:List (List Int))(ov:AV)(hbl:b.length=n)(hb0:LoV H b bv)(hbq:∀ q,hdr ov q→LoQ q H b bv)(hov0:OuV H L0 ov)(hbd:L0.length+3 ^ (r.events.length - n)≤bound)(G:List AB)(c0:HB G H.length (.cells (roadCs r)))(c1:HB G (H.length+1) (.cells [.int .i64 (Rd.ldS v).lo,.int .i64 (Rd.ldS v).hi]))(hkeep:∀ p x,HB H p x→HB G p x)
  (L:List (Nat × AV)) (L1:lk 53 L 1=bv) (L2:lk 53 L 2=ov) (L3:lk 53 L 3=.ptr H.length 0) (L8:lk 53 L 8=.ptr (H.length+1) 0) (tc0:List Nat) (htc0:tc0=[]):
  Does (ev C call H.length none (atP [1,1,1,1,1] af155.body) { tm:=tmA 53 L,df:=[],hp:=G,tc:=tc0 })
   (Ends C H.length af155.res (AlQ H ov (L0++Rd.addA r n b))):=by
 subst htc0
 have m1:val C (tmA 53 L) (.tmp 1)=bv:=L1
 have m2:val C (tmA 53 L) (.tmp 2)=ov:=L2
 have m3:val C (tmA 53 L) (.tmp 3)=.ptr H.length 0:=L3
 have m8:val C (tmA 53 L) (.tmp 8)=.ptr (H.length+1) 0:=L8
 have hn:=(List.getElem?_eq_some_iff.1 hv).1
 have he10:=hf.events
 have hev:=hf.event _ (List.mem_of_getElem? hv)
 have hs:0≤(Rd.ldS v).lo∧(Rd.ldS v).lo≤(Rd.ldS v).hi∧(Rd.ldS v).hi≤(Rd.ldS v).lo+2∧(Rd.ldS v).hi≤60:=by
  unfold Rd.ldS
  split
  ·omega
  ·decide
 have hst:=Rd.addA_step hv b
 rw[hst]
 have hlen:∀ x,(Rd.addA r (n+1) (b++[x])).length≤3 ^ (r.events.length - (n+1)):=fun x=>(Rd.addA_pos hf _ (n+1) _ (by omega)).2
 have hpw:3 ^ (r.events.length - n)=3 * 3 ^ (r.events.length - (n+1)):=by rw[show r.events.length - n=(r.events.length - (n+1))+1 by omega,Nat.pow_succ,Nat.mul_comm]
 rw[hpw] at hbd
 generalize Rd.ldS v=s at *
 obtain ⟨N,hN⟩:∃ N,(s.hi+1 - s.lo).toNat=N:=⟨_,rfl⟩
 rw[hN]
 have hc1':=c1
 have hc0':=c0
 obtain ⟨A1,A2,A3⟩:=c0
 obtain ⟨B1,B2,B3⟩:=c1
 have HX:=hideP (And.intro hA (And.intro hb0 (And.intro hbq (And.intro hov0 (And.intro hbd (And.intro hkeep (And.intro hlen (And.intro hc0' (And.intro hc1' hbl)))))))))
 clear hA hb0 hbq hov0 hbd hkeep hlen hc0' hc1' hst hpw hbl hf hv hev
 unfold af155 Zq Zu Zm Zl Zo Zs Zd Zc Za Zb Zf Zg Zj Zt Zi
 simp only[atP] at *
 refine gB ?_
 with_reducible refine zan hC N (by unfold fuelL;omega) (fun j st=>∃ G cur tcs,AlI H r s.lo s.hi (L0++Rd.fl (fun x=>Rd.addA r (n+1) (b++[x])) s.lo j) ov cur G tcs∧(0<j→∀ q,hdr cur q→H.length+2≤q)∧st=alSt H bv cur (s.lo+j) G tcs) ?_ ?_ ?_
 ·obtain ⟨hA,hb0,hbq,hov0,hbd,hkeep,hlen,c0,c1,hbl⟩:=HX.out
  refine ⟨G,ov,[],⟨c0,c1,fun p x _ h=>hkeep p x h,by simp,?_,.inl rfl⟩,fun h=>absurd h (by omega),?_⟩
  ·rw[Rd.fl_zero,List.append_nil]
   cases hov0 with
   |none h=>exact .none h
   |some q vs h1 h2 h3=>
    refine .some q vs (hkeep _ _ h1) h2 ⟨h3.1,fun j ls hj=>?_⟩
    obtain ⟨w,g1,g2⟩:=h3.2 j ls hj
    refine ⟨w,g1,?_⟩
    cases g2 with
    |none h=>exact .none h
    |some p h4 h5=>exact .some p h4 (hkeep _ _ h5)
  ·unfold alSt
   exact st_eq (by simp[*,zag,zal]) rfl rfl rfl
 ·rintro j st hj ⟨G1,cur,tcs,hG,hnw,rfl⟩
  obtain ⟨hA,hb0,hbq,hov0,hbd,hkeep,hlen,c0,c1,hbl⟩:=HX.out
  have hk:=Rd.fl_len (lo:=s.lo) hlen j
  have hj3:j * 3 ^ (r.events.length - (n+1))≤2 * 3 ^ (r.events.length - (n+1)):=Nat.mul_le_mul_right _ (by omega)
  have hr:=zwl C call r n (by omega) hA H b bv _ ov cur hbl hb0 hbq (fun q h=>hov0.hdr_lt h) s.lo s.hi (s.lo+j) (by omega) (by omega) (by omega) (by rw[List.length_append];omega) G1 tcs hG
  refine Does.mono hr ?_
  rintro e st ⟨rfl,G',cur',tcs',h1,h2,h3⟩
  refine ⟨G',cur',tcs',?_,fun _=>h2,?_⟩
  ·rw[Rd.fl_succ,← List.append_assoc];exact h1
  ·rw[h3];congr 1;omega
 ·rintro st ⟨G1,cur,tcs,hG,hnw,rfl⟩
  obtain ⟨⟨A1,A2,A3⟩,⟨B1,B2,B3⟩,_,htc,hli,_⟩:=hG
  have HY:=hideP (And.intro htc (And.intro hli hnw))
  have hgH:H.length≤G1.length:=by omega
  have x1:¬ (s.lo+(N:Int)≤s.hi):=by omega
  have hN0:0<N:=by omega
  clear htc hli hnw HX L1 L2 L3 L8 m1 m2 m3 m8
  unfold alSt
  refine gB ?_
  obtain ⟨htc,hli,hnw⟩:=HY.out
  exact zac (v:=cur) (.inl rfl) rfl hgH endvP ⟨htc,hli,fun q h=>by have:=hnw hN0 q h;omega⟩
theorem yaw (C:Cfg)(hC:C.calm=true)(call:CallF)(r:Rd.Road)(hf:Rd.Fine r)(n:Nat)(hn:n≤r.events.length)(hA:n<r.events.length→RallC call r (n+1))(H:List AB)(b:List Int)(bv:AV)(L0:List (List Int))(ov:AV)(hbl:b.length=n)(hb0:LoV H b bv)(hbq:∀ q,hdr ov q→LoQ q H b bv)(hov0:OuV H L0 ov)(hbd:L0.length+3 ^ (r.events.length - n)≤bound):
  Wb C call H af155 [.agg (roadCs r),bv,ov]
   ((AlQ H ov (L0++Rd.addA r n b))):=by
 have he10:=hf.events
 by_cases hne:n=r.events.length
 ·subst hne
  rw[Rd.addA_end]
  have hb1:1≤bound:=by decide
  have hbb:L0.length+1≤bound:=by have:0<3 ^ (r.events.length - r.events.length):=Nat.pow_pos (by decide);omega
  have hpl:=hb0.plain
  have hlq:∀ G2:List AB,(∀ p x,¬ hdr ov p→HB H p x→HB G2 p x)→LoQ (H.length+2) G2 b bv:=fun G2 hk=>by
   by_cases hh:∃ q,hdr ov q
   ·obtain ⟨q,hq⟩:=hh
    cases hbq q hq with
    |none h=>exact .none h
    | some p h1 h2 => exact .some p (by have := h2.lt; omega) (hk p _ (fun h => by
      obtain ⟨n1,k1,e1⟩:=hq
      obtain ⟨n2,k2,e2⟩:=h
      rw[e1] at e2
      cases e2
      exact h1 rfl) h2)
   ·cases hb0 with
    |none h=>exact .none h
    |some p h2=>exact .some p (by have:=h2.lt;omega) (hk p _ (fun h=>hh ⟨p,h⟩) h2)
  have hlen:∀ K,slLen (H++K) bv=some r.events.length:=fun K=>by
   cases hb0 with
   |none h=>rw[h] at hbl;simp only[List.length_nil] at hbl;rw[← hbl];rfl
   |some p h=>simp[slLen,alive,(h.app K).get,hbl]
  have fin:∀ (G2:List AB) (vs:List AV) (tc:List Nat),(∀ t∈tc,hdr ov t)→HB G2 (H.length+2) (.cells (vs++[bv]))→vs.all AV.plain=true→OuE (H.length+2) G2 L0 vs→(∀ p x,¬ hdr ov p→HB H p x→HB G2 p x)→AlQ H ov (L0++[b]) (.sl (H.length+2) 0 (L0.length+1) 1) G2 tc:=fun G2 vs tc f0 f1 f2 f3 f4=>by
   refine ⟨f0,?_,fun q h=>?_⟩
   ·have:=OuV.some (G:=G2) (L:=L0++[b]) (H.length+2) (vs++[bv]) f1 (zjj f2 hpl) (f3.snoc (hlq G2 f4))
    simpa using this
   ·obtain ⟨_,_,h⟩:=h
    cases h
    omega
  have HF:=hideP fin
  have HL:=hideP hlq
  clear fin hlq hbq hbd hA hf hlen
  cases hb0 with
  |none h=>
   rw[h] at hbl
   simp only[List.length_nil] at hbl
   have n1:((0:Int)==(r.events.length:Int))=true:=by rw[← hbl];rfl
   have n2:r.events.length=0:=hbl.symm
   clear h hbl
   cases hov0 with
   |none h0=>
    subst h0
    unfold Wb Wa af155 Zq Zu Zm Zl Zo Zs Zd Zc Za Zb Zf Zg Zj Zt Zi
    simp only[zipI,roadCs] at *
    refine gB ?_
    exact zac (v:=.sl (H.length+2) 0 1 1) (.inl rfl) rfl (by simp) endvP (HF.out (H++[.cells [.vs 7 (r.parts.map ptE),.vs 7 (r.events.map evE)],.cells [.nils],.cells [.nils]]) [] [] (by simp) (hb (by rw[List.getElem?_append_right (by omega)];simp)) rfl ⟨rfl,by simp⟩ (fun p x _ h=>h.app _))
   |some q vs o1 o2 o3=>
    have o1':=o1
    obtain ⟨Q1,Q2,Q3⟩:=o1
    have q1:¬ (q=H.length):=by omega
    have q2:∀ n,¬ (q=H.length+n):=fun n=>by omega
    have hvl:=o3.1
    have HO:=hideP (And.intro o1' (And.intro o2 o3))
    clear o1' o3
    unfold Wb Wa af155 Zq Zu Zm Zl Zo Zs Zd Zc Za Zb Zf Zg Zj Zt Zi
    simp only[zipI,roadCs] at *
    refine gC ?_
    obtain ⟨o1,o2,o3⟩:=HO.out
    refine zac (v:=.sl (H.length+2) 0 (L0.length+1) 1) (.inl rfl) rfl (by simp) (by simp only[resL,resOf,zaa];simp[*,resV]) (HF.out (H.set q .dead++[.cells [.vs 7 (r.parts.map ptE),.vs 7 (r.events.map evE)],.cells [.nils],.cells (vs++[.nils])]) vs _ (fun t ht=>?_) (hb (by rw[List.getElem?_append_right (by simp)];simp)) o2 (o3.keep (by omega) fun p x h1 h=>(h.set _ (Ne.symm h1)).app _) (fun p x h1 h=>(h.set _ (fun e=>h1 ⟨_,_,by rw[e]⟩)).app _))
    simp at ht
    rw[ht]
    exact ⟨_,_,rfl⟩
  |some p h=>
   obtain ⟨P1,P2,P3⟩:=h
   rw[hbl] at HF
   cases hov0 with
   |none h0=>
    subst h0
    unfold Wb Wa af155 Zq Zu Zm Zl Zo Zs Zd Zc Za Zb Zf Zg Zj Zt Zi
    simp only[zipI,roadCs] at *
    refine gB ?_
    exact zac (v:=.sl (H.length+2) 0 1 1) (.inl rfl) rfl (by simp) endvP (HF.out (H++[.cells [.vs 7 (r.parts.map ptE),.vs 7 (r.events.map evE)],.cells [.sl p 0 r.events.length 1],.cells [.sl p 0 r.events.length 1]]) [] [] (by simp) (hb (by rw[List.getElem?_append_right (by omega)];simp)) rfl ⟨rfl,by simp⟩ (fun p x _ h=>h.app _))
   |some q vs o1 o2 o3=>
    have o1':=o1
    obtain ⟨Q1,Q2,Q3⟩:=o1
    have q1:¬ (q=H.length):=by omega
    have q2:∀ n,¬ (q=H.length+n):=fun n=>by omega
    have hvl:=o3.1
    have HO:=hideP (And.intro o1' (And.intro o2 o3))
    clear o1' o3
    unfold Wb Wa af155 Zq Zu Zm Zl Zo Zs Zd Zc Za Zb Zf Zg Zj Zt Zi
    simp only[zipI,roadCs] at *
    refine gC ?_
    obtain ⟨o1,o2,o3⟩:=HO.out
    refine zac (v:=.sl (H.length+2) 0 (L0.length+1) 1) (.inl rfl) rfl (by simp) (by simp only[resL,resOf,zaa];simp[*,resV]) (HF.out (H.set q .dead++[.cells [.vs 7 (r.parts.map ptE),.vs 7 (r.events.map evE)],.cells [.sl p 0 r.events.length 1],.cells (vs++[.sl p 0 r.events.length 1])]) vs _ (fun t ht=>?_) (hb (by rw[List.getElem?_append_right (by simp)];simp)) o2 (o3.keep (by omega) fun p x h1 h=>(h.set _ (Ne.symm h1)).app _) (fun p x h1 h=>(h.set _ (fun e=>h1 ⟨_,_,by rw[e]⟩)).app _))
    simp at ht
    rw[ht]
    exact ⟨_,_,rfl⟩
 ·have hlt:n<r.events.length:=by omega
  have hgv:r.events[n]?=some r.events[n]:=List.getElem?_eq_getElem hlt
  generalize r.events[n]=v at hgv
  have hgv':=ge_of hgv
  have hlen:∀ K,slLen (H++K) bv=some n:=fun K=>by
   cases hb0 with
   |none h=>rw[h] at hbl;simp only[List.length_nil] at hbl;rw[← hbl];rfl
   |some p h=>simp[slLen,alive,(h.app K).get,hbl]
  have hend:=fun G c0 c1 hk=>zyy C hC call r hf n v hgv (hA hlt) H b bv L0 ov hbl hb0 hbq hov0 hbd G c0 c1 hk
  unfold af155 Zq Zu Zm Zl Zo Zs Zd Zc Za Zb Zf Zg Zj Zt Zi at hend
  simp only[atP] at hend
  have hn1:¬ ((n:Int)=r.events.length):=by omega
  have hn2:((n:Int)==(r.events.length:Int))=false:=beq_false_of_ne hn1
  have e5:(n:Int)<r.events.length:=by omega
  unfold Rd.ldS at hend
  by_cases hk:v.kind=0
  ·rw[if_pos hk] at hend
   have HE:=hideP (hend (H++[.cells (roadCs r),.cells [.int .i64 v.load.lo,.int .i64 v.load.hi]]) (hb (by simp)) (hb (by rw[List.getElem?_append_right (by omega)];simp)) (fun p x h=>h.app _))
   clear hend hA hf hbq hov0 hbd hn he10 hne hlen
   unfold Wb Wa af155 Zq Zu Zm Zl Zo Zs Zd Zc Za Zb Zf Zg Zj Zt Zi
   simp only[zipI,roadCs] at *
   cases hb0 with
   |none h=>
    rw[h] at hbl
    simp only[List.length_nil] at hbl
    subst hbl
    have n1:¬ ((0:Int)=r.events.length):=by omega
    have n2:((0:Int)==(r.events.length:Int))=false:=beq_false_of_ne n1
    have n3:(0:Int)<r.events.length:=by omega
    have n4:0<r.events.length:=hlt
    clear h hn1 hn2 e5
    (repeat (first|(with_reducible refine HE.out _ ?_ ?_ ?_ ?_ [] rfl<;>simp[zal])|((with_reducible apply zak);(focus ((with_reducible apply zba);(focus rfl);(focus rfl);(focus ((conv=>lhs;simp[*,List.getElem?_append_right,List.set_append_right,List.getElem?_cons_zero,List.getElem?_append_left,List.set_append_left,-getElem?_pos,evE,Nat.testBit_eq_decide_div_mod_eq])<;>exact rfl));(focus rfl);(focus rfl)));simp only[addFl])|(with_reducible apply zak;(focus ((conv=>lhs;simp[*,List.getElem?_append_right,List.set_append_right,List.getElem?_cons_zero,List.getElem?_append_left,List.set_append_left,-getElem?_pos,evE,Nat.testBit_eq_decide_div_mod_eq])<;>exact rfl));simp only[addFl])|((with_reducible first|apply zaw|apply zay|apply zas|apply zaq|apply zao|apply zax|apply zar|apply zaz|(apply zap;· simp[*,zab])|(apply zam;· simp[*,zab]));try simp only[Then,Ops])|simp only[Nat.reduceEqDiff,reduceIte,OutB,Then]))
   |some p h=>
    obtain ⟨P1,P2,P3⟩:=h
    (repeat (first|(with_reducible refine HE.out _ ?_ ?_ ?_ ?_ [] rfl<;>simp[zal,hbl])|((with_reducible apply zak);(focus ((with_reducible apply zba);(focus rfl);(focus rfl);(focus ((conv=>lhs;simp[*,List.getElem?_append_right,List.set_append_right,List.getElem?_cons_zero,List.getElem?_append_left,List.set_append_left,-getElem?_pos,evE,Nat.testBit_eq_decide_div_mod_eq])<;>exact rfl));(focus rfl);(focus rfl)));simp only[addFl])|(with_reducible apply zak;(focus ((conv=>lhs;simp[*,List.getElem?_append_right,List.set_append_right,List.getElem?_cons_zero,List.getElem?_append_left,List.set_append_left,-getElem?_pos,evE,Nat.testBit_eq_decide_div_mod_eq])<;>exact rfl));simp only[addFl])|((with_reducible first|apply zaw|apply zay|apply zas|apply zaq|apply zao|apply zax|apply zar|apply zaz|(apply zap;· simp[*,zab])|(apply zam;· simp[*,zab]));try simp only[Then,Ops])|simp only[Nat.reduceEqDiff,reduceIte,OutB,Then]))
  ·rw[if_neg hk] at hend
   have hk':(v.kind==0)=false:=beq_false_of_ne hk
   have HE:=hideP (hend (H++[.cells (roadCs r),.cells [.int .i64 0,.int .i64 0]]) (hb (by simp)) (hb (by rw[List.getElem?_append_right (by omega)];simp)) (fun p x h=>h.app _))
   clear hend hA hf hbq hov0 hbd hn he10 hne hlen
   unfold Wb Wa af155 Zq Zu Zm Zl Zo Zs Zd Zc Za Zb Zf Zg Zj Zt Zi
   simp only[zipI,roadCs] at *
   cases hb0 with
   |none h=>
    rw[h] at hbl
    simp only[List.length_nil] at hbl
    subst hbl
    have n1:¬ ((0:Int)=r.events.length):=by omega
    have n2:((0:Int)==(r.events.length:Int))=false:=beq_false_of_ne n1
    have n3:(0:Int)<r.events.length:=by omega
    have n4:0<r.events.length:=hlt
    clear h hn1 hn2 e5
    (repeat (first|(with_reducible refine HE.out _ ?_ ?_ ?_ ?_ [] rfl<;>simp[zal])|((with_reducible apply zak);(focus ((with_reducible apply zba);(focus rfl);(focus rfl);(focus ((conv=>lhs;simp[*,List.getElem?_append_right,List.set_append_right,List.getElem?_cons_zero,List.getElem?_append_left,List.set_append_left,-getElem?_pos,evE,Nat.testBit_eq_decide_div_mod_eq])<;>exact rfl));(focus rfl);(focus rfl)));simp only[addFl])|(with_reducible apply zak;(focus ((conv=>lhs;simp[*,List.getElem?_append_right,List.set_append_right,List.getElem?_cons_zero,List.getElem?_append_left,List.set_append_left,-getElem?_pos,evE,Nat.testBit_eq_decide_div_mod_eq])<;>exact rfl));simp only[addFl])|((with_reducible first|apply zaw|apply zay|apply zas|apply zaq|apply zao|apply zax|apply zar|apply zaz|(apply zap;· simp[*,zab])|(apply zam;· simp[*,zab]));try simp only[Then,Ops])|simp only[Nat.reduceEqDiff,reduceIte,OutB,Then]))
   |some p h=>
    obtain ⟨P1,P2,P3⟩:=h
    (repeat (first|(with_reducible refine HE.out _ ?_ ?_ ?_ ?_ [] rfl<;>simp[zal,hbl])|((with_reducible apply zak);(focus ((with_reducible apply zba);(focus rfl);(focus rfl);(focus ((conv=>lhs;simp[*,List.getElem?_append_right,List.set_append_right,List.getElem?_cons_zero,List.getElem?_append_left,List.set_append_left,-getElem?_pos,evE,Nat.testBit_eq_decide_div_mod_eq])<;>exact rfl));(focus rfl);(focus rfl)));simp only[addFl])|(with_reducible apply zak;(focus ((conv=>lhs;simp[*,List.getElem?_append_right,List.set_append_right,List.getElem?_cons_zero,List.getElem?_append_left,List.set_append_left,-getElem?_pos,evE,Nat.testBit_eq_decide_div_mod_eq])<;>exact rfl));simp only[addFl])|((with_reducible first|apply zaw|apply zay|apply zas|apply zaq|apply zao|apply zax|apply zar|apply zaz|(apply zap;· simp[*,zab])|(apply zam;· simp[*,zab]));try simp only[Then,Ops])|simp only[Nat.reduceEqDiff,reduceIte,OutB,Then]))
end Ro
namespace Ro
open K
set_option maxRecDepth 100000
set_option maxHeartbeats 4000000
theorem zog {C:Cfg}{n0:Nat}(hC:C.calm=true)(hwh:∀ f,C.whole f=true)(h0:Has C 155 af155){r:Rd.Road}(hf:Rd.Fine r){n:Nat}(hn:n≤r.events.length)(hA:n<r.events.length→RallC (Ev.call C n0) r (n+1)):RallC (Ev.call C (n0+1)) r n:=by
 intro H b bv L0 ov hbl hb0 hbq hov0 hbd
 obtain ⟨v,hp,tc,G,c1,⟨h1,h2,h3⟩,k1,k2,c3,c4⟩:=zcw (first:=[]) (captured:=[]) (args:=[.agg (roadCs r),bv,ov]) (H:=H) hC hwh h0 (le' rfl) (yaw C hC (Ev.call C n0) r hf n hn hA H b bv L0 ov hbl hb0 hbq hov0 hbd)
 have hpos:=(Rd.addA_pos hf (r.events.length - n) n b (by omega)).1
 have hG : G = hp := c3 (.inl (by
  cases h2 with
  |none h=>have:=congrArg List.length h;simp only[List.length_append,List.length_nil] at this;omega
  |some q vs _ _ _=>simp[refs]))
 subst hG
 exact ⟨v,G,tc,c1,⟨k2.len,fun p x hp h=>hb (k2.at h.get fun hj=>hp (h1 p hj)),h1,h2,h3⟩⟩
theorem all_lv {C:Cfg}(hC:C.calm=true)(hwh:∀ f,C.whole f=true)(h0:Has C 155 af155){r:Rd.Road}(hf:Rd.Fine r):∀ (k n m:Nat),n+k=r.events.length→RallC (Ev.call C (m+k+1)) r n
 |0,n,m,h=>zog hC hwh h0 hf (by omega) fun h'=>absurd h' (by omega)
 |k+1,n,m,h=>zog (n0:=m+(k+1)) hC hwh h0 hf (by omega) fun _=>by
  have:=all_lv hC hwh h0 hf k (n+1) m (by omega)
  rwa [show m+k+1=m+(k+1) by omega] at this
def RstC (call:CallF)(r:Rd.Road)(set:Nat):Prop:=∀ (H:List AB) (i:Nat) (ls:List Int) (lv:AV),i<r.parts.length→ls∈Rd.allR r.events→LoV H ls lv →
 ∃ v G,call (.fn (.func 156) [] []) [.agg (roadCs r),.int .i64 i,lv,.int .i64 set] H=some (.ret v,G,[])∧Kp [] H G∧Li (fun q=>H.length≤q) G 3 (sCs (Rd.statesR r i ls set)) (Rd.statesR r i ls set).length v
theorem zll {C:Cfg}{n0:Nat}(hC:C.calm=true)(hwh:∀ f,C.whole f=true)(h0:Has C 156 af156){r:Rd.Road}(hf:Rd.Fine r){set:Nat}(hR:RigC (Ev.call C n0) r set):RstC (Ev.call C (n0+1)) r set:=by
 intro H i ls lv hi hls hl
 obtain ⟨v,hp,tc,G,c1,⟨rfl,h2⟩,k1,k2,c3,c4⟩:=zcw (first:=[]) (captured:=[]) (args:=[.agg (roadCs r),.int .i64 i,lv,.int .i64 set]) (H:=H) hC hwh h0 (le' rfl) (zov C hC (Ev.call C n0) r hf i set hi hR ls lv hls H hl)
 refine ⟨v,G,c1,k2,?_⟩
 cases h2 with
 |none e1 e2=>exact .none e1 e2
 |some q e1 e2 e3=>
  have hG:G=hp:=c3 (.inl (by simp[refs]))
  subst hG
  exact .some q e1 e2 e3
theorem right_call {C:Cfg}{n0:Nat}(hC:C.calm=true)(h0:Has C 171 af171){r:Rd.Road}(hf:Rd.Fine r){set:Nat}(hset:set≤1000000)(hB:SetC (Ev.call C n0))(hI:RinC (Ev.call C n0))(hN:InC (Ev.call C n0) r):RigC (Ev.call C (n0+1)) r set:=fun H i p h ls lv hs hl=>
 zaj hC h0 (le' rfl) rfl (zpb C hC _ hB hI r hf hN set hset H i p h ls lv hs hl)
theorem zti {C:Cfg}{n0:Nat}(hC:C.calm=true)(h0:Has C 179 af179){r:Rd.Road}(hf:Rd.Fine r)(hS:RsuC (Ev.call C n0))(hR:RreC (Ev.call C n0)):InC (Ev.call C (n0+1)) r:=fun H i p h ls lv m hs hl hm=>
 zaj hC h0 (le' rfl) rfl (zxj C hC _ hS hR r hf H i p h ls lv m hs hl hm)
end Ro
namespace Ro
open K
def StE (P:Nat→Prop)(G:List AB)(S:List (List (Int × Rd.Tr)))(vs:List AV):Prop:=vs.length=S.length∧∀ (j:Nat) (T:List (Int × Rd.Tr)),S[j]?=some T→∃ w,vs[j]?=some w∧Li P G 3 (sCs T) T.length w
inductive StV (Q:Nat→Prop) (G:List AB) (S:List (List (Int × Rd.Tr))):AV→Prop
 |none:S=[]→StV Q G S .nils
 |some (p:Nat) (vs:List AV):Q p→HB G p (.cells vs)→vs.all AV.plain=true→StE (fun x=>Q x∧x≠p) G S vs→StV Q G S (.sl p 0 S.length 1)
theorem Li.plain {P:Nat→Prop}{G:List AB}{k:Nat}{cs:List AV}{n:Nat}{v:AV}(h:Li P G k cs n v):v.plain=true:=by
 cases h<;>rfl
theorem Li.to {P P':Nat→Prop}{G G':List AB}{k:Nat}{cs:List AV}{n:Nat}{v:AV}(h:Li P G k cs n v)(hm:∀ p,p<G.length→P p→P' p)(hk:∀ q x,P q→HB G q x→HB G' q x):Li P' G' k cs n v:=by
 cases h with
 |none h0 h1=>exact .none h0 h1
 |some q h0 h1 h2=>exact .some q (hm q h1.lt h0) (hk q _ h0 h1) h2
theorem StE.keep {P P':Nat→Prop}{G G':List AB}{S:List (List (Int × Rd.Tr))}{vs:List AV}(h:StE P G S vs)(hm:∀ p,p<G.length→P p→P' p)(hk:∀ p x,P p→HB G p x→HB G' p x):StE P' G' S vs:=by
 refine ⟨h.1,fun j T hj=>?_⟩
 obtain ⟨w,h1,h2⟩:=h.2 j T hj
 exact ⟨w,h1,h2.to hm hk⟩
theorem StV.keep {Q Q':Nat→Prop}{G G':List AB}{S:List (List (Int × Rd.Tr))}{v:AV}(h:StV Q G S v)(hm:∀ p,p<G.length→Q p→Q' p)(hk:∀ p x,Q p→HB G p x→HB G' p x):StV Q' G' S v:=by
 cases h with
 |none h=>exact .none h
 |some p vs h1 h2 h3 h4=>exact .some p vs (hm p h2.lt h1) (hk p _ h1 h2) h3 (h4.keep (fun x hx h=>⟨hm x hx h.1,h.2⟩) fun x y h=>hk x y h.1)
theorem StV.plain {Q:Nat→Prop}{G:List AB}{S:List (List (Int × Rd.Tr))}{v:AV}(h:StV Q G S v):v.plain=true:=by
 cases h<;>rfl
theorem StE.snoc {P:Nat→Prop}{G:List AB}{S:List (List (Int × Rd.Tr))}{vs:List AV}(h:StE P G S vs){T:List (Int × Rd.Tr)}{w:AV}(hw:Li P G 3 (sCs T) T.length w):StE P G (S++[T]) (vs++[w]):=by
 refine ⟨by simp[h.1],fun j T' hj=>?_⟩
 by_cases hjl:j<S.length
 ·rw[List.getElem?_append_left hjl] at hj
  obtain ⟨w',g1,g2⟩:=h.2 j T' hj
  exact ⟨w',by rw[List.getElem?_append_left (by rw[h.1];exact hjl)];exact g1,g2⟩
 ·have hj2:=(List.getElem?_eq_some_iff.1 hj).1
  rw[List.length_append,List.length_singleton] at hj2
  have e:j=S.length:=by omega
  subst e
  rw[List.getElem?_append_right (Nat.le_refl _),Nat.sub_self] at hj
  obtain rfl:=Option.some.inj hj
  exact ⟨w,by rw[List.getElem?_append_right (by rw[h.1];exact Nat.le_refl _),h.1,Nat.sub_self];rfl,hw⟩
def CaE (q:Nat)(G:List AB)(D:List (List Int × List (List (Int × Rd.Tr))))(cs:List AV):Prop:=cs.length=D.length * 2∧∀ (j:Nat) (d:List Int × List (List (Int × Rd.Tr))),D[j]?=some d→∃ w1 w2,cs[j * 2]?=some w1∧cs[j * 2+1]?=some w2∧LoQ q G d.1 w1∧StV (fun p=>p≠q) G d.2 w2
inductive CaV (lo:Nat) (G:List AB) (D:List (List Int × List (List (Int × Rd.Tr)))):AV→Prop
 |none:D=[]→CaV lo G D .nils
 |some (q:Nat) (cs:List AV):lo≤q→HB G q (.cells cs)→cs.all AV.plain=true→CaE q G D cs→CaV lo G D (.sl q 0 D.length 2)
theorem CaE.keep {q q':Nat}{G G':List AB}{D:List (List Int × List (List (Int × Rd.Tr)))}{cs:List AV}(h:CaE q G D cs)(hq:G.length≤q'∨q'=q)(hk:∀ p x,p≠q→HB G p x→HB G' p x):CaE q' G' D cs:=by
 have hm:∀ p,p<G.length→p≠q→p≠q':=fun p hp hn=>by rcases hq with h|rfl<;>omega
 refine ⟨h.1,fun j d hj=>?_⟩
 obtain ⟨w1,w2,h1,h2,h3,h4⟩:=h.2 j d hj
 refine ⟨w1,w2,h1,h2,?_,h4.keep hm hk⟩
 cases h3 with
 |none h=>exact .none h
 |some p g1 g2=>exact .some p (hm p g2.lt g1) (hk p _ g1 g2)
theorem CaV.keep {lo lo':Nat}{G G':List AB}{D:List (List Int × List (List (Int × Rd.Tr)))}{v:AV}(h:CaV lo G D v)(hl:lo'≤lo)(hk:∀ p x,HB G p x→HB G' p x):CaV lo' G' D v:=by
 cases h with
 |none h=>exact .none h
 |some q cs h1 h2 h3 h4=>exact .some q cs (by omega) (hk _ _ h2) h3 (h4.keep (.inr rfl) fun p x _ h=>hk p x h)
theorem CaE.snoc {q:Nat}{G:List AB}{D:List (List Int × List (List (Int × Rd.Tr)))}{cs:List AV}(h:CaE q G D cs){d:List Int × List (List (Int × Rd.Tr))}{w1 w2:AV}(hw1:LoQ q G d.1 w1)(hw2:StV (fun p=>p≠q) G d.2 w2):CaE q G (D++[d]) (cs++[w1,w2]):=by
 refine ⟨by simp[h.1];omega,fun j d' hj=>?_⟩
 by_cases hjl:j<D.length
 ·rw[List.getElem?_append_left hjl] at hj
  obtain ⟨a,b,g1,g2,g3,g4⟩:=h.2 j d' hj
  exact ⟨a,b,by rw[List.getElem?_append_left (by rw[h.1];omega)];exact g1,by rw[List.getElem?_append_left (by rw[h.1];omega)];exact g2,g3,g4⟩
 ·have hj2:=(List.getElem?_eq_some_iff.1 hj).1
  rw[List.length_append,List.length_singleton] at hj2
  have e:j=D.length:=by omega
  subst e
  rw[List.getElem?_append_right (Nat.le_refl _),Nat.sub_self] at hj
  obtain rfl:=Option.some.inj hj
  exact ⟨w1,w2,by rw[← h.1,List.getElem?_append_right (Nat.le_refl _),Nat.sub_self];rfl,by rw[← h.1,List.getElem?_append_right (by omega),Nat.add_sub_cancel_left];rfl,hw1,hw2⟩
end Ro
namespace Ro
open K
attribute [local simp] ev1 wantG spineK spine float xnew xval xeff zab zae zau zah zai addFl cellsOf pickC alive slLen slFt binI maxA maxK minA minK aeqK aeqS AV.cells spA zad fillA setAt bitsI nat_nn zav AV.plain apart
set_option maxRecDepth 100000
set_option maxHeartbeats 4000000
structure CiI (r:Rd.Road) (w:AV) (G0:List AB) (S:List (List (Int × Rd.Tr))) (sv:AV) (G:List AB):Prop where
 keep:∀ p x,HB G0 p x→HB G p x
 x0:HB G G0.length (.cells [w,sv])
 st:StV (fun p=>G0.length<p) G S sv
def ca2St (H:List AB)(set:Nat)(lv out:AV)(a xb:Nat)(acc:Bool)(i:Nat)(G:List AB):St:={ tm:=tmA 58 [(10,.int .i64 i),(9,.bool acc),(8,.ptr xb 0),(7,.int .i64 a),(6,out),(5,lv),(2,.ptr H.length 0),(1,.int .i64 set)],df:=[],hp:=G,tc:=[] }
theorem zyr (C:Cfg)(call:CallF)(r:Rd.Road)(hp4:r.parts.length≤4)(set:Nat)(hR:RstC call r set)(ls:List Int)(hls:ls∈Rd.allR r.events)(lq:Nat)(vs:List AV)(a:Nat)(w:AV)(hw:vs[a]?=some w)(i:Nat)(hi:i<r.parts.length)(H:List AB)(out:AV)(G0:List AB)(h0:HB G0 H.length (.cells (roadCs r)))(hl0:HB G0 lq (.cells vs))(hlo:LoV G0 ls w)(_hn1:lq≠H.length)(S:List (List (Int × Rd.Tr)))(hS:S.length=i)(sv:AV)(acc:Bool)(G:List AB)(hG:CiI r w G0 S sv G):
  Does (ev C call H.length none (atP [1,1,1,0,1,0,0,1,0,0,1,1,0,1,0,0] af129.body) (ca2St H set (.sl lq 0 vs.length 1) out a G0.length acc i G))
   (fun e st=>e=.normal∧∃ G' sv',CiI r w G0 (S++[Rd.statesR r i ls set]) sv' G'∧{ st with tm:=keepT [1,2,5,6,7,8,9,10] st.tm }=ca2St H set (.sl lq 0 vs.length 1) out a G0.length (acc&&!(Rd.statesR r i ls set).isEmpty) (i+1) G'):=by
 obtain ⟨hk,x0,hst⟩:=hG
 have hH:=h0.lt
 have hxG:=x0.lt
 obtain ⟨v,G1,hcall,kp,hT⟩:=hR G i ls w hi hls (hlo.keep fun q x _ h=>hk q x h)
 have hkp:∀ p x,HB G p x→HB G1 p x:=fun p x h=>hb (kp.at h.get (by simp))
 have l1:=kp.len
 have c0:=hkp _ _ (hk _ _ h0)
 have l0:=hk _ _ hl0
 replace x0:=hkp _ _ x0
 have hk1:∀ p x,HB G0 p x→HB G1 p x:=fun p x h=>hkp p x (hk p x h)
 generalize Rd.statesR r i ls set=T at *
 have hT':Li (fun q=>G0.length<q) G1 3 (sCs T) T.length v:=hT.mono fun q _ hq=>by omega
 have e5:(i:Int)<r.parts.length:=by omega
 have hwi:IntKind.i64.wrap ((i:Int)+1)=(i:Int)+1:=zaf (by omega) (by omega)
 have g0:¬ (G0.length<H.length):=by omega
 have gG:∀ n,¬ (G1.length+n<H.length):=fun n=>by omega
 have gG0:¬ (G1.length<H.length):=by omega
 have hb1:1≤bound:=by decide
 have hb2:i+1≤bound:=by unfold bound;omega
 have hne:G0.length≠H.length:=by omega
 have hne2:lq≠G0.length:=by have:=hl0.lt;omega
 have hne3:G0.length≠lq:=Ne.symm hne2
 have hvc:∃ m:Bool,(!T.isEmpty)=m∧((v=.nils∧m=false)∨∃ q n,v=.sl q 0 n 3∧HB G1 q (.cells (sCs T))∧((m=false∧n=0)∨(m=true∧0<n))):=by
  cases hT with
  |none h1 h2=>exact ⟨_,rfl,.inl ⟨rfl,by rw[List.eq_nil_of_length_eq_zero h2];rfl⟩⟩
  |some q h1 h2 h3=>
   refine ⟨_,rfl,.inr ⟨q,_,rfl,h2,?_⟩⟩
   cases T with
   |nil=>exact .inl ⟨rfl,rfl⟩
   |cons a l=>exact .inr ⟨rfl,by simp⟩
 have hvq:∀ p us,v=.sl p 0 us 3→G.length≤p:=by
  intro p us e
  cases hT with
  |none _ _=>cases e
  |some q h1 h2 h3=>cases e;exact h1
 have htc:sv=.nils∧S=[]∧i=0∨∃ q ws,sv=.sl q 0 i 1∧q<G.length∧G0.length<q∧HB G1 q (.cells ws)∧ws.all AV.plain=true∧StE (fun p=>G0.length<p∧p≠q) G1 S ws∧ws.length=i:=by
  cases hst with
  |none h=>exact .inl ⟨rfl,h,by rw[← hS,h];rfl⟩
  |some q ws h1 h2 h3 h4=>exact .inr ⟨q,ws,by rw[hS],h2.lt,h1,hkp _ _ h2,h3,h4.keep (fun p _ h=>h) (fun p x _ h=>hkp p x h),h4.1.trans hS⟩
 have hge:=ge_of hw
 have hlq:=hl0.lt
 have hal:=(List.getElem?_eq_some_iff.1 hw).1
 have hai:(a:Int)<vs.length:=by omega
 have HO:=hideP (And.intro hk1 (And.intro x0 (And.intro hT' hS)))
 obtain ⟨E1,E2,E3⟩:=hk _ _ h0
 obtain ⟨A1,A2,A3⟩:=c0
 obtain ⟨B1,B2,B3⟩:=x0
 obtain ⟨C1,C2,C3⟩:=l0
 clear hR hT hT' hst kp hkp l1 hS hk hk1 hlo hls h0 hl0 hH hxG
 obtain ⟨m,hm,hvc⟩:=hvc
 rw[hm]
 clear hm
 have hfinal:∀ (G2:List AB) (ws:List AV) (q':Nat),(∀ p x,p≠G0.length→(∀ q,sv=.sl q 0 i 1→p≠q)→HB G1 p x→HB G2 p x)→HB G2 G0.length (.cells [w,.sl q' 0 (i+1) 1])→G1.length<q'→HB G2 q' (.cells (ws++[v]))→(ws++[v]).all AV.plain=true→StE (fun p=>G0.length<p∧∀ q,sv=.sl q 0 i 1→p≠q) G1 S ws→(∀ q,sv=.sl q 0 i 1→G0.length<q) →
   (∀ q,sv=.sl q 0 i 1→∀ p us,v=.sl p 0 us 3→p≠q)→CiI r w G0 (S++[T]) (.sl q' 0 (i+1) 1) G2:=by
  intro G2 ws q' hkk hx hq hv hpl hE hsq hvq
  obtain ⟨hk1,x0,hT',hS⟩:=HO.out
  have hG10:=x0.lt
  refine ⟨fun p x h=>hkk p x (by have:=h.lt;omega) (fun q hq=>by have:=hsq q hq;have:=h.lt;omega) (hk1 p x h),hx,?_⟩
  have e:(S++[T]).length=i+1:=by rw[List.length_append,hS];rfl
  rw[← e]
  have hT2:Li (fun p=>G0.length<p∧∀ q,sv=.sl q 0 i 1→p≠q) G1 3 (sCs T) T.length v:=by
   cases hT' with
   |none h1 h2=>exact .none h1 h2
   |some p h1 h2 h3=>exact .some p ⟨h1,fun q hq=>hvq q hq p _ rfl⟩ h2 h3
  refine .some q' (ws++[v]) (by omega) hv hpl ((hE.snoc hT2).keep (fun p hp h=>⟨h.1,by omega⟩) fun p x h1 h2=>hkk p x (by omega) h1.2 h2)
 have HF:=hideP hfinal
 clear hfinal
 rcases htc with ⟨rfl,rfl,hi0⟩|⟨q1,ws,rfl,hqG,hq1,⟨V1,V2,V3⟩,hwp,hE,hvl⟩
 ·have HI:=hideP hi0
  clear hi0 hvq hlq
  have hx0:=HO.out.2.1
  have hv:∀ x,HB (G1.set G0.length x++[.cells [v],.cells [v]]) (G1.length+1) (.cells [v]):=fun x=>hb (by rw[List.getElem?_append_right (by simp)];simp)
  have hvp:v.plain=true:=HO.out.2.2.1.plain
  have HE:=hideP (And.intro hx0 (And.intro hv hvp))
  clear hx0 hv hvp
  rcases hvc with ⟨rfl,rfl⟩|⟨q2,n,rfl,⟨Q1,Q2,Q3⟩,⟨rfl,rfl⟩|⟨rfl,hn⟩⟩
  all_goals cases acc
  all_goals
   unfold af129 Zq Zr Zu Zm Zl Zo Zs Zd Zh Zc Za Zb Zf Zg Zj Zt Zn Zy Zw ca2St
   simp only[atP,roadCs] at *
   refine gB ?_
   have hi0:=HI.out
   subst hi0
   refine ⟨by first|rfl|trivial,_,_,HF.out _ [] (G1.length+1) (fun r x hr _ h=>(h.set (r:=G0.length) _ (Ne.symm hr)).app _) ((HE.out.1.here _).app _) (by omega) (HE.out.2.1 _) (zjj rfl HE.out.2.2) ⟨rfl,fun j T hj=>absurd hj (by simp)⟩ (fun _ h=>nomatch h) (fun _ h=>nomatch h),?_⟩
   exact inwP
 ·have hx0:=HO.out.2.1
  have n1:G0.length≠q1:=by omega
  have n2:¬ (q1<H.length):=by omega
  have n3:q1≠G0.length:=by omega
  have n4:q1≠H.length:=by omega
  have n5:q1≠lq:=by omega
  have hvq1:∀ p us,v=.sl p 0 us 3→p≠q1:=fun p us e=>by have:=hvq p us e;omega
  clear hvq hlq hqG
  have hv:∀ x,HB ((G1.set q1 .dead).set G0.length x++[.cells [v],.cells (ws++[v])]) (G1.length+1) (.cells (ws++[v])):=fun x=>hb (by rw[List.getElem?_append_right (by simp)];simp)
  have hvp:v.plain=true:=HO.out.2.2.1.plain
  have hpl:(ws++[v]).all AV.plain=true:=zjj hwp hvp
  have HE:=hideP (And.intro hx0 (And.intro hv (And.intro hpl (And.intro hE (And.intro hq1 hvq1)))))
  clear hx0 hv hE hvp hq1 hvq1 hpl
  rcases hvc with ⟨rfl,rfl⟩|⟨q2,n,rfl,⟨Q1,Q2,Q3⟩,⟨rfl,rfl⟩|⟨rfl,hn⟩⟩
  all_goals cases acc
  all_goals
   unfold af129 Zq Zr Zu Zm Zl Zo Zs Zd Zh Zc Za Zb Zf Zg Zj Zt Zn Zy Zw ca2St
   simp only[atP,roadCs] at *
   refine gB ?_
   refine ⟨by first|rfl|trivial,_,_,HF.out _ ws (G1.length+1) (fun r x hr hq h=>((h.set _ (Ne.symm (hq _ rfl))).set _ (Ne.symm hr)).app _) (((HE.out.1.set _ n3).here _).app _) (by omega) (HE.out.2.1 _) HE.out.2.2.1 (HE.out.2.2.2.1.keep (fun p _ h=>⟨h.1,fun q e=>by cases e;exact h.2⟩) fun _ _ _ h=>h) (fun q e=>by cases e;exact HE.out.2.2.2.2.1) (fun q e p us e2=>by cases e;exact HE.out.2.2.2.2.2 p us e2),?_⟩
   exact inwP
end Ro
end Ev
namespace Rd
def statesL (r:Road)(set:Nat)(ls:List Int):List (List (Int × Tr)):=(List.range r.parts.length).map fun i=>statesR r i ls set
def caF (r:Road)(set:Nat)(ls:List Int):List (List Int × List (List (Int × Tr))):=if (statesL r set ls).all (fun l=>!l.isEmpty) then [(ls,statesL r set ls)] else []
theorem cases_fl (r:Road)(set:Nat):casesR r set=(allR r.events).flatMap (caF r set):=by
 unfold casesR
 generalize allR r.events=L
 induction L with
 |nil=>rfl
 |cons k L ih=>
  rw[List.filterMap_cons,List.flatMap_cons,← ih]
  unfold caF statesL
  by_cases h:(((List.range r.parts.length).map fun i=>statesR r i k set).all fun l=>!l.isEmpty)=true
  ·rw[if_pos h,if_pos h];rfl
  ·rw[if_neg h,if_neg h];rfl
theorem statesL_take {r:Road}{ls:List Int}{set i:Nat}(hi:i<r.parts.length):(statesL r set ls).take (i+1)=(statesL r set ls).take i++[statesR r i ls set]:=by
 have:(statesL r set ls)[i]?=some (statesR r i ls set):=by simp[statesL,List.getElem?_map,List.getElem?_range hi]
 rw[List.take_add_one,this];rfl
theorem statesL_len (r:Road)(set:Nat)(ls:List Int):(statesL r set ls).length=r.parts.length:=by simp[statesL]
theorem caF_take {r:Road}{set a:Nat}{ls:List Int}{L:List (List Int)}(h:L[a]?=some ls):(L.take (a+1)).flatMap (caF r set)=(L.take a).flatMap (caF r set)++caF r set ls:=by
 rw[List.take_add_one,h];simp
theorem caF_len (r:Road)(set:Nat):∀ L:List (List Int),(L.flatMap (caF r set)).length≤L.length
 |[]=>by simp
 |ls::L=>by
  rw[List.flatMap_cons,List.length_append,List.length_cons]
  have:=caF_len r set L
  have h1:(caF r set ls).length≤1:=by unfold caF;split<;>simp
  omega
end Rd
namespace Ev
namespace Ro
open K
set_option maxRecDepth 100000
set_option maxHeartbeats 4000000
theorem LoV.shape {G:List AB}{ls:List Int}{v:AV}(h:LoV G ls v):v=.nils∨∃ z1 z2,v=.sl z1 0 z2 1:=by
 cases h with
 |none _=>exact .inl rfl
 |some q _=>exact .inr ⟨q,_,rfl⟩
theorem StV.shape {Q:Nat→Prop}{G:List AB}{S:List (List (Int × Rd.Tr))}{v:AV}(h:StV Q G S v):v=.nils∨∃ z1 z2,v=.sl z1 0 z2 1:=by
 cases h with
 |none _=>exact .inl rfl
 |some q _ _ _ _ _=>exact .inr ⟨q,_,rfl⟩
structure CoI (GB:List AB) (D:List (List Int × List (List (Int × Rd.Tr)))) (out:AV) (G:List AB):Prop where
 keep:∀ p x,HB GB p x→HB G p x
 len:GB.length≤G.length
 out:CaV GB.length G D out
def ca0St (H:List AB)(set:Nat)(lv out:AV)(a:Nat)(G:List AB):St:={ tm:=tmA 58 [(7,.int .i64 a),(6,out),(5,lv),(2,.ptr H.length 0),(1,.int .i64 set)],df:=[],hp:=G,tc:=[] }
theorem CoI.put {GB G G1:List AB}{D:List (List Int × List (List (Int × Rd.Tr)))}{out w sv:AV}{lq:Nat}{ls:List Int}{S:List (List (Int × Rd.Tr))}(h:CoI GB D out G)(hk:∀ p x,HB G p x→HB G1 p x)(hl:G.length≤G1.length)(hw:LoQ lq GB ls w)(hS:StV (fun p=>G.length<p) G1 S sv)(hwp:w.plain=true)(hsp:sv.plain=true):
  (∀ cs q0,out=.sl q0 0 D.length 2→HB G q0 (.cells cs)→cs.length=D.length * 2→cs.all AV.plain=true→CoI GB (D++[(ls,S)]) (.sl (G1.length+1) 0 (D.length+1) 2) (G1.set q0 .dead++[.cells [w,sv],.cells (cs++[w,sv])])) ∧
  (D=[]→out=.nils→CoI GB (D++[(ls,S)]) (.sl (G1.length+1) 0 1 2) (G1++[.cells [w,sv],.cells [w,sv]])):=by
 constructor
 ·intro cs q0 ho hq0 hcl hcp
  cases h.out with
  |none _=>cases ho
  |some q cs' h1 h2 h3 h4=>
   cases ho
   have hqG:=hq0.lt
   have hcs:cs'=cs:=by have:=h2.get.symm.trans hq0.get;simpa using this
   subst hcs
   have hkk:∀ p x,p≠q0→HB G1 p x→HB (G1.set q0 .dead++[.cells [w,sv],.cells (cs'++[w,sv])]) p x:=fun p x hn hh=>(hh.set _ (Ne.symm hn)).app _
   refine ⟨fun p x hh=>hkk p x (by have:=hh.lt;omega) (hk p x (h.keep p x hh)),by rw[List.length_append,List.length_set];have:=h.len;omega,?_⟩
   have e:(D++[(ls,S)]).length=D.length+1:=by simp
   rw[← e]
   refine .some (G1.length+1) (cs'++[w,sv]) (by have:=h.len;omega) (hb (by rw[List.getElem?_append_right (by simp)];simp)) (by rw[List.all_append,hcp,List.all_cons,hwp,List.all_cons,hsp];rfl) ?_
   refine CaE.snoc ((h4.keep (G':=G1) (.inr rfl) fun p x _ hh=>hk p x hh).keep (.inl (by omega)) hkk) ?_ ?_
   ·cases hw with
    |none h=>exact .none h
    |some p g1 g2=>exact .some p (by have:=g2.lt;have:=h.len;omega) (hkk p _ (by have:=g2.lt;omega) (hk _ _ (h.keep _ _ g2)))
   ·exact hS.keep (fun p hp _=>by omega) fun p x hp hh=>hkk p x (by omega) hh
 ·rintro rfl rfl
  have hkk:∀ p x,HB G1 p x→HB (G1++[.cells [w,sv],.cells [w,sv]]) p x:=fun p x hh=>hh.app _
  refine ⟨fun p x hh=>hkk p x (hk p x (h.keep p x hh)),by rw[List.length_append];have:=h.len;omega,?_⟩
  refine .some (D:=[]++[(ls,S)]) (G1.length+1) [w,sv] (by have:=h.len;omega) (hb (by rw[List.getElem?_append_right (by omega),Nat.add_sub_cancel_left];rfl)) (by rw[List.all_cons,hwp,List.all_cons,hsp];rfl) ?_
  refine CaE.snoc (D:=[]) (cs:=[]) ⟨rfl,fun j d hj=>absurd hj (by simp)⟩ ?_ ?_
  ·cases hw with
   |none h=>exact .none h
   |some p g1 g2=>exact .some p (by have:=g2.lt;have:=h.len;omega) (hkk p _ (hk _ _ (h.keep _ _ g2)))
  ·exact hS.keep (fun p hp _=>by omega) fun p x hp hh=>hkk p x hh
end Ro
namespace Ro
open K
attribute [local simp] ev1 wantG spineK spine float xnew xval xeff zab zae zau zah zai addFl cellsOf pickC alive slLen slFt binI maxA maxK minA minK aeqK aeqS AV.cells spA zad fillA setAt bitsI nat_nn zav AV.plain apart
set_option maxRecDepth 100000
set_option maxHeartbeats 4000000
theorem zmp (C:Cfg)(hC:C.calm=true)(call:CallF)(r:Rd.Road)(hp4:r.parts.length≤4)(set:Nat)(hR:RstC call r set)(H GB:List AB)(c0:HB GB H.length (.cells (roadCs r)))(lq:Nat)(vs:List AV)(l0:HB GB lq (.cells vs))(hE:OuE lq GB (Rd.allR r.events) vs)(hn1:lq≠H.length)(a:Nat)(ha:a<(Rd.allR r.events).length)(hbd:(Rd.allR r.events).length≤100000)(out:AV)(G:List AB)(hG:CoI GB (((Rd.allR r.events).take a).flatMap (Rd.caF r set)) out G):
  Does (ev C call H.length none (atP [1,1,1,0,1,0,0] af129.body) (ca0St H set (.sl lq 0 vs.length 1) out a G))
   (fun e st=>e=.normal∧∃ G' out',CoI GB (((Rd.allR r.events).take (a+1)).flatMap (Rd.caF r set)) out' G'∧{ st with tm:=keepT [1,2,5,6,7] st.tm }=ca0St H set (.sl lq 0 vs.length 1) out' (a+1) G'):=by
 obtain ⟨ls,hls⟩:∃ ls,(Rd.allR r.events)[a]?=some ls:=⟨_,List.getElem?_eq_getElem ha⟩
 have hmem:=List.mem_of_getElem? hls
 rw[Rd.caF_take hls]
 obtain ⟨w,hw,hlw⟩:=hE.2 a ls hls
 have hvl:=hE.1
 have hsh:=hlw.lo.shape
 have hwp:=hlw.lo.plain
 have hDl:(((Rd.allR r.events).take a).flatMap (Rd.caF r set)).length≤a:=Nat.le_trans (Rd.caF_len _ _ _) (by rw[List.length_take];omega)
 generalize ((Rd.allR r.events).take a).flatMap (Rd.caF r set)=D at *
 have hge:=ge_of hw
 have hai:(a:Int)<vs.length:=by omega
 have hal:a<vs.length:=by omega
 have x1:IntKind.i64.wrap ((a:Int)+1)=(a:Int)+1:=zaf (by omega) (by omega)
 have hHB:=c0.lt
 have hGB:=hG.len
 have gG0:¬ (G.length<H.length):=by omega
 have gGn:∀ n,¬ (G.length+n<H.length):=fun n=>by omega
 have d0:=hG.keep _ _ c0
 have d1:=hG.keep _ _ l0
 have HX:=hideP (And.intro hG (And.intro c0 (And.intro l0 (And.intro hlw (And.intro hmem (And.intro hR hDl))))))
 have HY:=hideP (And.intro hw (And.intro hvl (And.intro ha (And.intro hbd (And.intro hwp (And.intro hHB hGB))))))
 clear hG c0 l0 hlw hmem hR hE hls hDl hvl ha hbd hwp hHB hGB
 obtain ⟨A1,A2,A3⟩:=d0
 obtain ⟨B1,B2,B3⟩:=d1
 unfold ca0St
 rcases hsh with rfl|⟨z1,z2,rfl⟩
 all_goals
  unfold af129 Zq Zr Zu Zm Zl Zo Zs Zd Zh Zc Za Zb Zf Zg Zj Zt Zn Zy Zw
  simp only[atP,roadCs] at *
  refine gB ?_
  clear A1 A2 A3 B1 B2 B3
  obtain ⟨hG,c0,l0,hlw,hmem,hR,hDl⟩:=HX.out
  obtain ⟨hw,hvl,ha,hbd,hwp,hHB,hGB⟩:=HY.out
  with_reducible refine zan hC r.parts.length (by unfold fuelL;omega) (fun i st=>∃ G1 sv W,vs[a]?=some W∧CiI r W G ((Rd.statesL r set ls).take i) sv G1∧st=ca2St H set (.sl lq 0 vs.length 1) out a G.length (((Rd.statesL r set ls).take i).all fun l=>!l.isEmpty) i G1) ?_ ?_ ?_
  ·refine ⟨G++[.cells [_,.nils]],.nils,_,hw,⟨fun p x h=>h.app _,hb (by rw[List.getElem?_append_right (Nat.le_refl _),Nat.sub_self];rfl),.none (by simp)⟩,?_⟩
   unfold ca2St
   exact inwP
  ·rintro i st hi ⟨G1,sv,W,hW,hJ,rfl⟩
   obtain rfl:=Option.some.inj (hW.symm.trans hw)
   have hlen:((Rd.statesL r set ls).take i).length=i:=by rw[List.length_take,Rd.statesL_len];exact Nat.min_eq_left (Nat.le_of_lt hi)
   have hr:=zyr C call r hp4 set hR ls hmem lq vs a _ hw i hi H out G (hG.keep _ _ c0) (hG.keep _ _ l0) (hlw.lo.keep fun q x _ h=>hG.keep q x h) hn1 _ hlen sv (((Rd.statesL r set ls).take i).all fun l=>!l.isEmpty) G1 hJ
   refine Does.mono hr ?_
   rintro e st ⟨rfl,G2,tv',h1,h2⟩
   refine ⟨G2,tv',_,hw,by rw[Rd.statesL_take hi];exact h1,?_⟩
   rw[h2,Rd.statesL_take hi,List.all_append]
   congr 2
   simp
  ·rintro st ⟨G1,sv,W,hW,hJ,rfl⟩
   obtain rfl:=Option.some.inj (hW.symm.trans hw)
   clear hW
   have htl:=Rd.statesL_len r set ls
   rw[List.take_of_length_le (by rw[htl];omega)] at hJ ⊢
   have hca:Rd.caF r set ls=if ((Rd.statesL r set ls).all fun l=>!l.isEmpty)=true then [(ls,Rd.statesL r set ls)] else []:=rfl
   rw[hca]
   have hGG:=hJ.x0.lt
   obtain ⟨C1,C2,C3⟩:=hJ.keep _ _ (hG.keep _ _ c0)
   obtain ⟨D1,D2,D3⟩:=hJ.x0
   have gG1:∀ n,¬ (G1.length+n<H.length):=fun n=>by omega
   have gG2:¬ (G1.length<H.length):=by omega
   have hb1:1≤bound:=by decide
   have hb2:D.length+1≤bound:=by unfold bound;omega
   obtain ⟨P1,P2⟩:=hG.put hJ.keep (by omega) hlw hJ.st hwp hJ.st.plain
   have hss:=hJ.st.shape
   cases hacc:(Rd.statesL r set ls).all fun l=>!l.isEmpty with
   |false=>
    have HF:CoI GB (D++[]) out G1:=⟨fun p x h=>hJ.keep p x (hG.keep p x h),by omega,by rw[List.append_nil];exact hG.out.keep (Nat.le_refl _) hJ.keep⟩
    replace HF:=hideP HF
    rw[if_neg (by simp)]
    clear hJ hG c0 l0 hlw hmem hR hDl hw hvl ha hbd hwp hHB hGB P1 P2 hss htl hca hGG hacc
    unfold ca2St
    refine gB ?_
    refine ⟨by first|rfl|trivial,G1,out,HF.out,?_⟩
    exact inwP
   |true=>
    rw[if_pos rfl]
    have hout:=hG.out
    cases hout with
    |none hD=>
     have HF:=hideP (P2 hD rfl)
     clear hJ hG c0 l0 hlw hmem hR hDl hw hvl ha hbd hwp hHB hGB P1 P2 htl hca hGG hacc
     subst hD
     rcases hss with rfl|⟨y1,y2,rfl⟩
     all_goals
      unfold ca2St
      refine gB ?_
      refine ⟨by first|rfl|trivial,_,_,HF.out,?_⟩
      exact inwP
    |some q0 cs hq0 hb0 hcp hE0=>
     have hcl:cs.length=D.length * 2:=hE0.1
     have hqG:=hb0.lt
     have n1:¬ (q0<H.length):=by omega
     have n2:q0≠G.length:=by omega
     have n3:G.length≠q0:=by omega
     have HF:=hideP (P1 cs q0 rfl hb0 hcl hcp)
     obtain ⟨Q1,Q2,Q3⟩:=hJ.keep _ _ hb0
     clear hJ hG c0 l0 hlw hmem hR hDl hw hvl ha hbd hwp hHB hGB P1 P2 htl hca hGG hacc hE0 hq0 hqG hb0
     rcases hss with rfl|⟨y1,y2,rfl⟩
     all_goals
      unfold ca2St
      refine gB ?_
      refine ⟨by first|rfl|trivial,_,_,HF.out,?_⟩
      exact inwP
end Ro
end Ev
namespace Rd
theorem all_len {r:Road}(hr:Fine r):0<(allR r.events).length∧(allR r.events).length≤59049:=by
 have h:=addA_pos hr r.events.length 0 [] (by omega)
 rw[addA_all] at h
 have h2:=hr.events
 have h3:3 ^ r.events.length≤3 ^ 10:=Nat.pow_le_pow_right (by decide) h2
 have h4:(3:Nat) ^ 10=59049:=rfl
 omega
end Rd
namespace Ev
namespace Ro
open K
attribute [local simp] ev1 wantG spineK spine float xnew xval xeff zab zae zau zah zai addFl cellsOf pickC alive slLen slFt binI maxA maxK minA minK aeqK aeqS AV.cells spA zad fillA setAt bitsI nat_nn zav AV.plain apart
set_option maxRecDepth 100000
set_option maxHeartbeats 4000000
theorem zvw (C:Cfg)(hC:C.calm=true)(call:CallF)(r:Rd.Road)(hf:Rd.Fine r)(set:Nat)(hA:RallC call r 0)(hR:RstC call r set)(H:List AB):
  Wb C call H af129 [.agg (roadCs r),.int .i64 set]
   (fun v hp tc=>tc=[]∧CaV H.length hp (Rd.casesR r set) v):=by
 have hal:=Rd.all_len hf
 have hp4:=hf.parts
 obtain ⟨lv, GB, tc, hcall, hl⟩ := hA (H ++ [.cells (roadCs r)]) [] .nils [] .nils rfl (.none rfl) (fun q h => by obtain ⟨_, _, h⟩ := h; cases h) (.none rfl) (by
  have h3:3 ^ r.events.length≤3 ^ 10:=Nat.pow_le_pow_right (by decide) hf.events
  have h4:(3:Nat) ^ 10=59049:=rfl
  simp only[List.length_nil,Nat.sub_zero,Nat.zero_add]
  unfold bound;omega)
 rw[List.nil_append,Rd.addA_all] at hl
 have htc:tc=[]:=by
  cases tc with
  |nil=>rfl
  |cons t _=>obtain ⟨_,_,h⟩:=hl.own t (by simp);cases h
 subst htc
 have c0:HB GB H.length (.cells (roadCs r)):=hl.keep _ _ (fun h=>by obtain ⟨_,_,h⟩:=h;cases h) (hb (by rw[List.getElem?_append_right (Nat.le_refl _),Nat.sub_self];rfl))
 have hHG:=c0.lt
 obtain ⟨lq,vs,rfl,l0,hE,hlq⟩:∃ lq vs,lv=.sl lq 0 vs.length 1∧HB GB lq (.cells vs)∧OuE lq GB (Rd.allR r.events) vs∧H.length+1≤lq:=by
  have hnew:=hl.new
  have h0:=hl.li
  cases h0 with
  |none h=>rw[h] at hal;simp at hal
  |some q vs h1 h2 h3=>exact ⟨q,vs,by rw[h3.1],h1,h3,by have:=hnew q ⟨_,_,rfl⟩;simpa using this⟩
 have hvl:=hE.1
 have HX:=hideP (And.intro hR (And.intro c0 (And.intro l0 (And.intro hE (And.intro hvl (And.intro hal hlq))))))
 clear hA hR hf hl hE hvl
 have gG:¬ (GB.length<H.length):=by omega
 rw[Rd.cases_fl]
 obtain ⟨N,hN⟩:∃ N,(Rd.allR r.events).length=N:=⟨_,rfl⟩
 have hNv:vs.length=N:=by rw[← hN];exact HX.out.2.2.2.2.1
 have hN9:N≤59049:=by rw[← hN];exact hal.2
 clear hal
 obtain ⟨A1,A2,A3⟩:=c0
 clear l0 hNv hlq hHG
 unfold Wb Wa af129 Zq Zr Zu Zm Zl Zo Zs Zd Zh Zc Za Zb Zf Zg Zj Zt Zn Zy Zw
 simp only[zipI,roadCs] at *
 (repeat (first|((with_reducible apply zak);(focus ((with_reducible apply zba);(focus rfl);(focus rfl);(focus ((conv=>lhs;simp[*,List.getElem?_append_right,List.set_append_right,List.getElem?_cons_zero,List.getElem?_append_left,List.set_append_left,-getElem?_pos,↓zbe,Nat.testBit_eq_decide_div_mod_eq])<;>exact rfl));(focus rfl);(focus rfl)));simp only[addFl])|(with_reducible apply zak;(focus ((conv=>lhs;simp[*,List.getElem?_append_right,List.set_append_right,List.getElem?_cons_zero,List.getElem?_append_left,List.set_append_left,-getElem?_pos,↓zbe,Nat.testBit_eq_decide_div_mod_eq])<;>exact rfl));simp only[addFl])|((with_reducible first|apply zaw|apply zay|apply zas|apply zaq|apply zao|apply zax|apply zar|apply zaz|(apply zap;· simp[*,zab])|(apply zam;· simp[*,zab]));try simp only[Then,Ops])|simp only[Nat.reduceEqDiff,reduceIte,OutB,Then]))
 clear A1 A2 A3
 with_reducible refine zan hC N (by unfold fuelL;omega) (fun a st=>∃ G out,CoI GB (((Rd.allR r.events).take a).flatMap (Rd.caF r set)) out G∧st=ca0St H set (.sl lq 0 vs.length 1) out a G) ?_ ?_ ?_
 ·refine ⟨GB,.nils,⟨fun p x h=>h,Nat.le_refl _,.none (by simp)⟩,?_⟩
  unfold ca0St
  exact inwP
 ·rintro a st ha ⟨G,out,hI,rfl⟩
  obtain ⟨hR,c0,l0,hE,hvl,hal,hlq⟩:=HX.out
  have hr:=zmp C hC call r hp4.2 set hR H GB c0 lq vs l0 hE (by omega) a (by omega) (by omega) out G hI
  refine Does.mono hr ?_
  rintro e st ⟨rfl,G',out',h1,h2⟩
  exact ⟨G',out',h1,h2⟩
 ·rintro st ⟨G,out,hI,rfl⟩
  obtain ⟨hR,c0,l0,hE,hvl,hal,hlq⟩:=HX.out
  rw[List.take_of_length_le (by omega)] at hI
  obtain ⟨A1,A2,A3⟩:=hI.keep _ _ c0
  obtain ⟨B1,B2,B3⟩:=hI.keep _ _ l0
  have hgH:H.length≤G.length:=by omega
  have x4:¬ ((N:Int)<vs.length):=by omega
  have x5:¬ (N<vs.length):=by omega
  have HZ:=hideP (hI.out.keep (lo':=H.length) (by have:=c0.lt;omega) fun p x h=>h)
  clear hI hR c0 l0 hE hvl hal hlq hN hN9
  unfold ca0St
  refine gB ?_
  exact zac (v:=out) (.inl rfl) rfl hgH endvP ⟨rfl,HZ.out⟩
def CasC (call:CallF)(r:Rd.Road)(set:Nat):Prop:=∀ (H:List AB),∃ v G,call (.fn (.func 129) [] []) [.agg (roadCs r),.int .i64 set] H=some (.ret v,G,[])∧Kp [] H G∧CaV H.length G (Rd.casesR r set) v
theorem cav_of {H hp G:List AB}{D:List (List Int × List (List (Int × Rd.Tr)))}{v:AV}(h:CaV H.length hp D v)(hg:refs v≠[]∨([]:List Nat)≠[]→G=hp):CaV H.length G D v:=by
 cases h with
 |none h=>exact .none h
 |some q cs h1 h2 h3 h4=>
  have hG:G=hp:=hg (.inl (by simp[refs]))
  subst hG
  exact .some q cs h1 h2 h3 h4
theorem zre {C:Cfg}{n0:Nat}(hC:C.calm=true)(hwh:∀ f,C.whole f=true)(h0:Has C 129 af129){r:Rd.Road}(hf:Rd.Fine r){set:Nat}(hA:RallC (Ev.call C n0) r 0)(hR:RstC (Ev.call C n0) r set):CasC (Ev.call C (n0+1)) r set:=by
 intro H
 obtain ⟨v,hp,tc,G,c1,⟨rfl,h2⟩,k1,k2,c3,c4⟩:=zcw (first:=[]) (captured:=[]) (args:=[.agg (roadCs r),.int .i64 set]) (H:=H) hC hwh h0 (le' rfl) (zvw C hC (Ev.call C n0) r hf set hA hR H)
 exact ⟨v,G,c1,k2,cav_of h2 c3⟩
def CasesC (call:CallF)(r:Rd.Road):Prop:=∀ (H:List AB),∃ v G,call (.fn (.func 94) [] []) [.agg (roadCs r)] H=some (.ret v,G,[])∧Kp [] H G∧CaV H.length G (Rd.casesR r (Rd.everyR r)) v
theorem zpn (C:Cfg)(call:CallF)(r:Rd.Road)(hE:EveC call r)(hK:CasC call r (Rd.everyR r))(H:List AB):
  Wb C call H af94 [.agg (roadCs r)]
   (fun v hp tc=>tc=[]∧CaV H.length hp (Rd.casesR r (Rd.everyR r)) v):=by
 obtain ⟨v,G,hcall,kp,hV⟩:=hK (H++[.cells (roadCs r)])
 have hE':=fun H=>hE H
 have hlG:H.length≤G.length:=by have:=kp.len;simp only[List.length_append,List.length_cons,List.length_nil] at this;omega
 have HX:=hideP hV
 clear hE hK kp hV
 generalize (Rd.everyR r:Nat)=m at *
 unfold Wb Wa af94 Zq Zr Zo Zd Zc Zg Zt
 simp only[zipI,roadCs] at *
 refine gG ?_
 exact zac (v:=v) (.inl rfl) rfl hlG endvP ⟨rfl,HX.out.keep (by simp) fun p x h=>h⟩
theorem zls {C:Cfg}{n0:Nat}(hC:C.calm=true)(hwh:∀ f,C.whole f=true)(h0:Has C 94 af94){r:Rd.Road}(hE:EveC (Ev.call C n0) r)(hK:CasC (Ev.call C n0) r (Rd.everyR r)):CasesC (Ev.call C (n0+1)) r:=by
 intro H
 obtain ⟨v,hp,tc,G,c1,⟨rfl,h2⟩,k1,k2,c3,c4⟩:=zcw (first:=[]) (captured:=[]) (args:=[.agg (roadCs r)]) (H:=H) hC hwh h0 (le' rfl) (zpn C (Ev.call C n0) r hE hK H)
 exact ⟨v,G,c1,k2,cav_of h2 c3⟩
theorem zfc {r:Rd.Road}(hr:Rd.Fine r)(set:Nat):Rd.canR r set=!(Rd.casesR r set).isEmpty:=by
 unfold Rd.canR
 rw[Rd.cases_told hr]
 cases Rd.toldR r set<;>rfl
def RinLC (call:CallF):Prop:=∀ (H:List AB) (n a b:Int),call (.fn (.func 95) [] []) [.int .i64 n,.int .i64 a,.int .i64 b] H=some (.ret (.bool (decide (a≤n∧n≤b))),H,[])
theorem yiq (C:Cfg)(call:CallF)(H:List AB)(n a b:Int):Wb C call H af95 [.int .i64 n,.int .i64 a,.int .i64 b] (fun v _hp tc=>v=.bool (decide (a≤n∧n≤b))∧tc=[]):=by
 unfold Wb Wa af95 Zq Zm Zo Zh Za Zt Zy
 simp only[zipI]
 by_cases h:a≤n
 ·(refine gA ?_)
  exact zac (.inl rfl) rfl (by simp) (by simp only[resL,resOf,zaa];simp[*,resV]) ⟨rfl,rfl⟩
 ·(refine gA ?_)
  exact zac (.inl rfl) rfl (by simp) (by simp only[resL,resOf,zaa];simp[*,resV]) ⟨rfl,rfl⟩
def RdayLC (call:CallF)(l:Ld.Lo):Prop:=∀ (H:List AB) (n:Int),call (.fn (.func 92) [] []) [.agg (loadCs l),.int .i64 n] H=some (.ret (.bool (Ld.isDay l n)),H,[])
theorem yha (C:Cfg)(call:CallF)(hI:RinLC call)(l:Ld.Lo)(hd:-1000000≤l.days∧l.days≤1000000)(H:List AB)(n:Int):Wb C call H af92 [.agg (loadCs l),.int .i64 n]
  (fun v _hp tc=>v=.bool (Ld.isDay l n)∧tc=[]):=by
 have hw:IntKind.i64.wrap (l.days - 1)=l.days - 1:=zaf (by omega) (by omega)
 have e:Ld.isDay l n=decide (0≤n∧n≤l.days - 1):=by unfold Ld.isDay;congr 1;simp;omega
 have hI':=fun H=>hI H n 0 (l.days - 1)
 rw[e]
 generalize decide (0≤n∧n≤l.days - 1)=b at *
 clear hI e hd
 unfold Wb Wa af92 Zq Zm Zl Zo Zc Zb Zf Zt Zn Zy
 simp only[zipI,loadCs] at *
 refine gA ?_
 exact zac (v:=.bool b) (.inl rfl) rfl (by simp) endvP ⟨rfl,by simp⟩
theorem yfg (l:Ld.Lo):Ld.valid l=(Rd.valid l.road&&decide (l.road.events.length≤2)&&Rd.canR l.road (Rd.everyR l.road)&&decide (1≤l.days∧l.days≤4)&&decide (l.carts.length≤4)&&l.carts.all (Ld.okCart l)):=by
 have e:decide (Rd.errR l.road true=0)=(Rd.valid l.road&&Rd.canR l.road (Rd.everyR l.road)):=by
  unfold Rd.errR
  cases Rd.valid l.road<;>cases Rd.canR l.road (Rd.everyR l.road)<;>rfl
 unfold Ld.valid
 rw[e]
 cases Rd.valid l.road<;>cases Rd.canR l.road (Rd.everyR l.road)<;>cases decide (l.road.events.length≤2)<;>rfl
theorem yhs (C:Cfg)(hC:C.calm=true)(call:CallF)(l:Ld.Lo)(hV:∀ H,call (.fn (.func 93) [] []) [.agg (roadCs l.road)] H=some (.ret (.bool (Rd.valid l.road)),H,[]))(hCs:Rd.Fine l.road→CasesC call l.road)(hI:RinLC call)(hD:1≤l.days→l.days≤4→RdayLC call l)(hbig:l.carts.length≤1000)(H:List AB):
  Wb C call H af30 [.agg (loadCs l)]
   (fun v _hp tc=>v=.bool (Ld.valid l)∧tc=[]):=by
 have hv:=yfg l
 have hI1:=fun H=>hI H l.days 1 4
 have HX:=hideP (And.intro hCs (And.intro hI (And.intro hD hV)))
 have hV0:=hV
 clear hCs hI hD hV
 unfold Wb Wa af30 Zq Zr Zu Zm Zl Zo Zd Zk Zc Za Zb Zf Zg Zj Zt Zn Zy Zw
 simp only[zipI,loadCs,roadCs] at *
 cases h1:Rd.valid l.road with
 |false=>
  rw[h1] at hV0 hv
  have HV:=hideP hv
  clear hv h1
  refine gA ?_
  exact zac (v:=.bool false) (.inl rfl) rfl (by simp) endvP ⟨by rw[HV.out];rfl,by simp⟩
 |true=>
  rw[h1] at hV0 hv
  by_cases h2:l.road.events.length≤2
  ·have h2':¬ (2<(l.road.events.length:Int)):=by omega
   have h2'':(l.road.events.length:Int)≤2:=by omega
   have hf:=(Rd.valid_iff l.road).1 h1
   obtain ⟨v,G,hc,hk,hca⟩:=HX.out.1 hf (H++[.cells [.vs 7 (l.road.parts.map ptE),.vs 7 (l.road.events.map evE),.int .i64 l.days,.vs 2 (l.carts.map cE)]])
   have hce:=zfc hf (Rd.everyR l.road)
   rw[decide_eq_true h2] at hv
   have hG0:G[H.length]?=some (.cells [.vs 7 (l.road.parts.map ptE),.vs 7 (l.road.events.map evE),.int .i64 l.days,.vs 2 (l.carts.map cE)]):=hk.at (by simp) (by simp)
   obtain ⟨y0,y1,y2,y3,y4,y5⟩:=bk' hG0
   have hkl:=hk.len
   have hlen:H.length≤G.length:=by simp at hkl;omega
   simp only[roadCs] at hc
   have hshape:(v=.nils∧Rd.canR l.road (Rd.everyR l.road)=false)∨∃ q n cs,v=.sl q 0 n 2∧G[q]?=some (.cells cs)∧((n:Int)==0)=!Rd.canR l.road (Rd.everyR l.road):=by
    cases hca with
    |none h=>exact .inl ⟨rfl,by rw[hce,h];rfl⟩
    |some q cs h1 h2 h3 h4=>
     refine .inr ⟨q,_,cs,rfl,h2.get,?_⟩
     rw[hce,Bool.not_not]
     cases Rd.casesR l.road (Rd.everyR l.road) with
     |nil=>rfl
     |cons a b=>exact beq_false_of_ne (by simp only[List.length_cons];omega)
   clear hca hce hk hkl hf hG0
   cases hcan:Rd.canR l.road (Rd.everyR l.road) with
   |false=>
    rw[hcan] at hv hshape
    have HV:=hideP hv
    clear hv h1 hcan
    rcases hshape with ⟨rfl,_⟩|⟨q,n,cs,rfl,hq,hn⟩
    ·(refine gA ?_)
     exact zac (v:=.bool false) (.inl rfl) rfl hlen endvP ⟨by rw[HV.out];simp,by simp⟩
    ·obtain ⟨z0,z1,z2,z3,z4,z5⟩:=bk' hq
     simp only[Bool.not_false] at hn
     refine gA ?_
     exact zac (v:=.bool false) (.inl rfl) rfl hlen endvP ⟨by rw[HV.out];simp,by simp⟩
   |true=>
    rw[hcan] at hv hshape
    obtain ⟨q,n,cs,rfl,hq,hn⟩:=hshape.resolve_left (by rintro ⟨_,h⟩;cases h)
    obtain ⟨z0,z1,z2,z3,z4,z5⟩:=bk' hq
    simp only[Bool.not_true] at hn
    clear hshape hq hcan h1
    by_cases h3:1≤l.days∧l.days≤4
    ·rw[decide_eq_true h3] at hI1 hv
     by_cases h4:l.carts.length≤4
     ·have h4':¬ (4<(l.carts.length:Int)):=by omega
      have h4'':(l.carts.length:Int)≤4:=by omega
      rw[decide_eq_true h4] at hv
      simp only[Bool.true_and] at hv
      have HV:=hideP hv
      have HL:=hideP hlen
      clear hv
      refine gA ?_
      clear hc hV0 hI1 h2 h2' h2'' hn z0 z1 z2 z3 z4 z5 hlen
      with_reducible refine zan hC l.carts.length (by unfold fuelL;omega) (fun i st=>(∀ j c,j<i→l.carts[j]?=some c→Ld.okCart l c=true)∧st={ tm:=tmA 60 [(3,.int .i64 i),(1,.ptr H.length 0)],df:=[],hp:=G,tc:=[] }) ?_ ?_ ?_
      ·refine ⟨by simp,?_⟩
       exact invP
      ·rintro i st hi ⟨hok,rfl⟩
       obtain ⟨_,hI,hD,_⟩:=HX.out
       have hgp:l.carts[i]?=some l.carts[i]:=List.getElem?_eq_getElem hi
       have hmem:=List.getElem_mem hi
       generalize l.carts[i]=c at hgp hmem
       have hgp':=ge_of hgp
       have e5:(i:Int)<l.carts.length:=by omega
       have hwi:IntKind.i64.wrap ((i:Int)+1)=(i:Int)+1:=zaf (by omega) (by omega)
       have hwl:=hI G c.load 0 60
       have hdy:=hD h3.1 h3.2 G c.due
       simp only[loadCs] at hdy
       have hbad:Ld.okCart l c=false→Ld.valid l=false:=fun h=>by
        rw[HV.out,Bool.eq_false_iff]
        intro ha
        have:=List.all_eq_true.1 ha c hmem
        rw[h] at this;cases this
       have hokc:Ld.okCart l c=(decide (0≤c.load∧c.load≤60)&&Ld.isDay l c.due):=rfl
       have HB:=hideP (And.intro hbad (And.intro hok (And.intro hokc hgp)))
       clear hI hD hbad hok hokc hmem hgp HX HV h3
       by_cases hl:0≤c.load∧c.load≤60
       ·rw[decide_eq_true hl] at hwl
        cases hd:Ld.isDay l c.due with
        |true=>
         rw[hd] at hdy
         have HD:=hideP hd
         clear hd
         refine gY ?_
         obtain ⟨hbad,hok,hokc,hgp⟩:=HB.out
         refine ⟨fun j c' hj hc'=>?_,?_⟩
         ·by_cases hji:j=i
          ·subst hji
           rw[hgp] at hc'
           obtain rfl:=Option.some.inj hc'
           rw[hokc,decide_eq_true hl,HD.out];rfl
          ·exact hok j c' (by omega) hc'
         ·refine st_is ?_ rfl rfl ?_
          ·simp[zag,zal]
          ·simp
        |false=>
         rw[hd] at hdy
         have HD:=hideP hd
         clear hd
         refine gY ?_
         obtain ⟨hbad,hok,hokc,hgp⟩:=HB.out
         exact zac (v:=.bool false) (.inl rfl) rfl HL.out endvP ⟨by rw[hbad (by rw[hokc,HD.out];simp)],by simp⟩
       ·rw[decide_eq_false hl] at hwl
        clear hdy
        refine gY ?_
        obtain ⟨hbad,hok,hokc,hgp⟩:=HB.out
        exact zac (v:=.bool false) (.inl rfl) rfl HL.out endvP ⟨by rw[hbad (by rw[hokc,decide_eq_false hl];rfl)],by simp⟩
      ·rintro st ⟨hok,rfl⟩
       have hval:Ld.valid l=true:=by
        rw[HV.out,List.all_eq_true]
        intro c hc
        obtain ⟨j,hj⟩:=List.mem_iff_getElem?.1 hc
        exact hok j c (List.getElem?_eq_some_iff.1 hj).1 hj
       have HW:=hideP hval
       clear hok hval HX HV h3
       refine gA ?_
       exact zac (v:=.bool true) (.inl rfl) rfl HL.out endvP ⟨by rw[HW.out],by simp⟩
     ·have h4':4<(l.carts.length:Int):=by omega
      rw[decide_eq_false h4] at hv
      have HV:=hideP hv
      clear hv
      refine gA ?_
      exact zac (v:=.bool false) (.inl rfl) rfl hlen endvP ⟨by rw[HV.out];simp,by simp⟩
    ·rw[decide_eq_false h3] at hI1 hv
     have HV:=hideP hv
     clear hv
     refine gA ?_
     exact zac (v:=.bool false) (.inl rfl) rfl hlen endvP ⟨by rw[HV.out];simp,by simp⟩
  ·have h2':2<(l.road.events.length:Int):=by omega
   rw[decide_eq_false h2] at hv
   have HV:=hideP hv
   clear hv h1
   refine gA ?_
   exact zac (v:=.bool false) (.inl rfl) rfl (by simp) endvP ⟨by rw[HV.out];simp,by simp⟩
end Ro
end Ev
end Go.Proofs.YtfpepkbflnendaaGreat
