/- Sets as numbers. -/
import Derived.Test.YtlcjlcllbgjplaaGreatTsEA
import Derived.Test.YtlcjlcllbgjplaaGreatTsPA
/- The code of the functions, for the evaluator. Printed by program. -/
namespace Go.Proofs.YtlcjlcllbgjplaaGreat
open Go
namespace Ev
def af3:AFunc:=⟨128,[.tmp 8],Zq [Zo 0 4 (.box (Zt 0)),Zo 1 8 (.mov (.val (.bool false)))] (.seq (Zq [Zo 0 27 (.load (some 2) (Zt 4)),Zo 1 28 (Zc 5 [Zt 27])] (.cond (Zt 28) (Zq [Zo 0 29 (Zc 6 []),Zm 1 8 29] .ret) .skip)) (Zq [Zo 0 31 (.load (some 2) (Zt 4)),Zm 1 32 1,Zm 2 33 2,Zo 3 34 (Zc 7 [Zt 31,Zt 32,Zt 33]),Zm 4 30 34,Zo 5 35 (.extract (Zt 30) 0),Zo 6 36 (.extract (Zt 30) 1),Zo 7 9 (.alloc [Zi 0,Zi 0]),Zs 8 (.store 2 (Zt 9) (Zt 35)),Zm 9 10 36] (Zq [Zo 0 38 (.load (some 2) (Zt 4)),Zm 1 39 1,Zm 2 40 2,Zo 3 41 (Zc 8 [Zt 38,Zt 39,Zt 40]),Zm 4 37 41,Zo 5 42 (.extract (Zt 37) 0),Zo 6 43 (.extract (Zt 37) 1),Zo 7 11 (.alloc [Zi 0,Zi 0]),Zs 8 (.store 2 (Zt 11) (Zt 42)),Zm 9 12 43] (Zq [Zo 0 45 (.load (some 2) (Zt 4)),Zm 1 46 1,Zm 2 47 3,Zo 3 48 (Zc 9 [Zt 45,Zt 46,Zt 47]),Zm 4 44 48,Zo 5 49 (.extract (Zt 44) 0),Zo 6 50 (.extract (Zt 44) 1),Zo 7 13 (.alloc [Zi 0,Zi 0]),Zs 8 (.store 2 (Zt 13) (Zt 49)),Zm 9 14 50] (Zq [Zo 0 52 (.load (some 2) (Zt 4)),Zm 1 53 1,Zm 2 54 3,Zo 3 55 (Zc 10 [Zt 52,Zt 53,Zt 54]),Zm 4 51 55,Zo 5 56 (.extract (Zt 51) 0),Zo 6 57 (.extract (Zt 51) 1),Zo 7 15 (.alloc [Zi 0,Zi 0]),Zs 8 (.store 2 (Zt 15) (Zt 56)),Zm 9 16 57] (Zq [Zo 0 59 (.load (some 2) (Zt 4)),Zm 1 60 3,Zo 2 61 (Zc 11 [Zt 59,Zt 60]),Zm 3 58 61,Zo 4 62 (.extract (Zt 58) 0),Zo 5 63 (.extract (Zt 58) 1),Zm 6 17 62,Zm 7 18 63] (Zq [Zo 0 65 (.load (some 2) (Zt 4)),Zm 1 66 3,Zo 2 67 (Zc 12 [Zt 65,Zt 66]),Zm 3 64 67,Zo 4 68 (.extract (Zt 64) 0),Zo 5 69 (.extract (Zt 64) 1),Zm 6 19 68,Zm 7 20 69] (Zq [Zo 0 71 (.load (some 2) (Zt 4)),Zo 1 72 (Zc 13 [Zt 71]),Zm 2 70 72,Zo 3 73 (.extract (Zt 70) 0),Zo 4 74 (.extract (Zt 70) 1),Zo 5 75 (.extract (Zt 70) 2),Zm 6 21 73,Zm 7 22 74,Zm 8 23 75] (Zq [Zo 0 77 (.load (some 2) (Zt 4)),Zo 1 78 (Zc 14 [Zt 77]),Zm 2 76 78,Zo 3 79 (.extract (Zt 76) 0),Zo 4 80 (.extract (Zt 76) 1),Zo 5 81 (.extract (Zt 76) 2),Zm 6 24 79,Zm 7 25 80,Zm 8 26 81] (Zq [Zo 0 82 (.load (some 2) (Zt 9)),Zo 1 83 (.load (some 2) (Zt 11)),Zo 2 84 (.eq (.agg [true,true]) false (Zt 82) (Zt 83)),Zm 3 85 84,⟨4,some 86,.mov (Zt 10),some (85,true),0⟩,⟨5,some 87,.mov (Zt 12),some (85,true),0⟩,⟨6,some 88,.bin .eql (Zt 86) (Zt 87),some (85,true),0⟩,Zo 7 89 (.pick (Zt 85) (Zt 88) (.val (.bool false))),Zm 8 90 89,⟨9,some 91,.load (some 2) (Zt 13),some (90,true),0⟩,⟨10,some 92,.load (some 2) (Zt 15),some (90,true),0⟩,⟨11,some 93,.eq (.agg [true,true]) false (Zt 91) (Zt 92),some (90,true),0⟩,Zo 12 94 (.pick (Zt 90) (Zt 93) (.val (.bool false))),Zm 13 95 94,⟨14,some 96,.mov (Zt 14),some (95,true),0⟩,⟨15,some 97,.mov (Zt 16),some (95,true),0⟩,⟨16,some 98,.bin .eql (Zt 96) (Zt 97),some (95,true),0⟩,Zo 17 99 (.pick (Zt 95) (Zt 98) (.val (.bool false))),Zm 18 100 99,⟨19,some 101,.mov (Zt 17),some (100,true),0⟩,⟨20,some 102,.mov (Zt 19),some (100,true),0⟩,⟨21,some 103,.bin .eql (Zt 101) (Zt 102),some (100,true),0⟩,Zo 22 104 (.pick (Zt 100) (Zt 103) (.val (.bool false))),Zm 23 105 104,⟨24,some 106,.mov (Zt 18),some (105,true),0⟩,⟨25,some 107,.mov (Zt 20),some (105,true),0⟩,⟨26,some 108,.bin .eql (Zt 106) (Zt 107),some (105,true),0⟩,Zo 27 109 (.pick (Zt 105) (Zt 108) (.val (.bool false))),Zm 28 110 109,⟨29,some 111,.mov (Zt 21),some (110,true),0⟩,⟨30,some 112,.mov (Zt 24),some (110,true),0⟩,⟨31,some 113,.bin .eql (Zt 111) (Zt 112),some (110,true),0⟩,Zo 32 114 (.pick (Zt 110) (Zt 113) (.val (.bool false))),Zm 33 115 114,⟨34,some 116,.mov (Zt 22),some (115,true),0⟩,⟨35,some 117,.mov (Zt 25),some (115,true),0⟩,⟨36,some 118,.bin .eql (Zt 116) (Zt 117),some (115,true),0⟩,Zo 37 119 (.pick (Zt 115) (Zt 118) (.val (.bool false))),Zm 38 120 119,⟨39,some 121,.mov (Zt 23),some (120,true),0⟩,⟨40,some 122,.mov (Zt 26),some (120,true),0⟩,⟨41,some 123,.bin .eql (Zt 121) (Zt 122),some (120,true),0⟩,Zo 42 124 (.pick (Zt 120) (Zt 123) (.val (.bool false))),Zm 43 125 124,⟨44,some 126,Zc 6 [],some (125,true),0⟩,Zo 45 127 (.pick (Zt 125) (Zt 126) (.val (.bool false))),Zm 46 8 127] .ret))))))))))⟩
def af4:AFunc:=⟨107,[.tmp 4],Zq [Zo 0 2 (.box (Zt 0)),Zo 1 4 (.mov (.val (.bool false)))] (.seq (Zq [Zo 0 21 (.load (some 2) (Zt 2)),Zo 1 22 (Zc 15 [Zt 21,Zn 3])] (.cond (Zt 22) (Zq [Zo 0 23 (Zc 6 []),Zm 1 4 23] .ret) .skip)) (Zq [Zo 0 25 (.load (some 2) (Zt 2)),Zo 1 26 (Zc 16 [Zt 25]),Zm 2 24 26,Zo 3 27 (.extract (Zt 24) 0),Zo 4 28 (.extract (Zt 24) 1),Zm 5 5 27,Zm 6 6 28] (Zq [Zo 0 30 (.load (some 2) (Zt 2)),Zo 1 31 (Zc 17 [Zt 30]),Zm 2 29 31,Zo 3 32 (.extract (Zt 29) 0),Zo 4 33 (.extract (Zt 29) 1),Zm 5 7 32,Zm 6 8 33] (Zq [Zo 0 35 (.load (some 2) (Zt 2)),Zm 1 36 1,Zo 2 37 (Zc 18 [Zt 35,Zt 36]),Zm 3 34 37,Zo 4 38 (.extract (Zt 34) 0),Zo 5 39 (.extract (Zt 34) 1),Zm 6 9 38,Zm 7 10 39] (Zq [Zo 0 41 (.load (some 2) (Zt 2)),Zm 1 42 1,Zo 2 43 (Zc 19 [Zt 41,Zt 42]),Zm 3 40 43,Zo 4 44 (.extract (Zt 40) 0),Zo 5 45 (.extract (Zt 40) 1),Zm 6 11 44,Zm 7 12 45] (Zq [Zo 0 47 (.load (some 2) (Zt 2)),Zo 1 48 (Zc 20 [Zt 47]),Zm 2 46 48,Zo 3 49 (.extract (Zt 46) 0),Zo 4 50 (.extract (Zt 46) 1),Zm 5 13 49,Zm 6 14 50] (Zq [Zo 0 52 (.load (some 2) (Zt 2)),Zo 1 53 (Zc 21 [Zt 52]),Zm 2 51 53,Zo 3 54 (.extract (Zt 51) 0),Zo 4 55 (.extract (Zt 51) 1),Zm 5 15 54,Zm 6 16 55] (Zq [Zo 0 57 (.load (some 2) (Zt 2)),Zo 1 58 (Zc 22 [Zt 57]),Zm 2 56 58,Zo 3 59 (.extract (Zt 56) 0),Zo 4 60 (.extract (Zt 56) 1),Zm 5 17 59,Zm 6 18 60] (Zq [Zo 0 62 (.load (some 2) (Zt 2)),Zo 1 63 (Zc 23 [Zt 62]),Zm 2 61 63,Zo 3 64 (.extract (Zt 61) 0),Zo 4 65 (.extract (Zt 61) 1),Zm 5 19 64,Zm 6 20 65] (Zq [Zm 0 66 5,Zm 1 67 7,Zo 2 68 (.bin .eql (Zt 66) (Zt 67)),Zm 3 69 68,⟨4,some 70,.mov (Zt 6),some (69,true),0⟩,⟨5,some 71,.mov (Zt 8),some (69,true),0⟩,⟨6,some 72,.bin .eql (Zt 70) (Zt 71),some (69,true),0⟩,Zo 7 73 (.pick (Zt 69) (Zt 72) (.val (.bool false))),Zm 8 74 73,⟨9,some 75,.mov (Zt 9),some (74,true),0⟩,⟨10,some 76,.mov (Zt 11),some (74,true),0⟩,⟨11,some 77,.bin .eql (Zt 75) (Zt 76),some (74,true),0⟩,Zo 12 78 (.pick (Zt 74) (Zt 77) (.val (.bool false))),Zm 13 79 78,⟨14,some 80,.mov (Zt 10),some (79,true),0⟩,⟨15,some 81,.mov (Zt 12),some (79,true),0⟩,⟨16,some 82,.bin .eql (Zt 80) (Zt 81),some (79,true),0⟩,Zo 17 83 (.pick (Zt 79) (Zt 82) (.val (.bool false))),Zm 18 84 83,⟨19,some 85,.mov (Zt 13),some (84,true),0⟩,⟨20,some 86,.mov (Zt 15),some (84,true),0⟩,⟨21,some 87,.bin .eql (Zt 85) (Zt 86),some (84,true),0⟩,Zo 22 88 (.pick (Zt 84) (Zt 87) (.val (.bool false))),Zm 23 89 88,⟨24,some 90,.mov (Zt 14),some (89,true),0⟩,⟨25,some 91,.mov (Zt 16),some (89,true),0⟩,⟨26,some 92,.bin .eql (Zt 90) (Zt 91),some (89,true),0⟩,Zo 27 93 (.pick (Zt 89) (Zt 92) (.val (.bool false))),Zm 28 94 93,⟨29,some 95,.mov (Zt 17),some (94,true),0⟩,⟨30,some 96,.mov (Zt 19),some (94,true),0⟩,⟨31,some 97,.bin .eql (Zt 95) (Zt 96),some (94,true),0⟩,Zo 32 98 (.pick (Zt 94) (Zt 97) (.val (.bool false))),Zm 33 99 98,⟨34,some 100,.mov (Zt 18),some (99,true),0⟩,⟨35,some 101,.mov (Zt 20),some (99,true),0⟩,⟨36,some 102,.bin .eql (Zt 100) (Zt 101),some (99,true),0⟩,Zo 37 103 (.pick (Zt 99) (Zt 102) (.val (.bool false))),Zm 38 104 103,⟨39,some 105,Zc 6 [],some (104,true),0⟩,Zo 40 106 (.pick (Zt 104) (Zt 105) (.val (.bool false))),Zm 41 4 106] .ret))))))))))⟩
def af5:AFunc:=⟨11,[.tmp 2],Zq [Zo 0 1 (.box (Zt 0)),Zo 1 2 (.mov (.val (.bool false)))] (Zq [Zo 0 3 (.fieldA 0 (Zt 1)),Zl 1 4 3,Zo 2 5 (.len (Zt 4)),Zo 3 6 (.fieldA 1 (Zt 1)),Zl 4 7 6,Zo 5 8 (.len (Zt 7)),Zo 6 9 (.max [Zt 5,Zt 8]),Zo 7 10 (.bin .gtr (Zt 9) (Zn 40)),Zm 8 2 10] .ret)⟩
def af6:AFunc:=⟨127,[.tmp 0],Zq [Zo 0 0 (.mov (.val (.bool false)))] (Zq [Zo 0 19 (Zc 24 [.val .nils]),Zo 1 20 (Zc 7 [Zt 19,Zn 1,Zn 1]),Zm 2 18 20,Zo 3 21 (.extract (Zt 18) 0),Zo 4 22 (.extract (Zt 18) 1),Zo 5 1 (.alloc [Zi 0,Zi 0]),Zs 6 (.store 2 (Zt 1) (Zt 21)),Zm 7 2 22] (Zq [Zo 0 24 (Zc 24 [.val .nils]),Zo 1 25 (Zc 9 [Zt 24,Zn 1,Zn 8]),Zm 2 23 25,Zo 3 26 (.extract (Zt 23) 0),Zo 4 27 (.extract (Zt 23) 1),Zo 5 3 (.alloc [Zi 0,Zi 0]),Zs 6 (.store 2 (Zt 3) (Zt 26)),Zm 7 4 27] (Zq [Zo 0 29 (Zc 24 [.val .nils]),Zo 1 30 (Zc 11 [Zt 29,Zn 20]),Zm 2 28 30,Zo 3 31 (.extract (Zt 28) 0),Zo 4 32 (.extract (Zt 28) 1),Zm 5 5 31,Zm 6 6 32] (Zq [Zo 0 34 (Zc 24 [.val .nils]),Zo 1 35 (Zc 16 [Zt 34]),Zm 2 33 35,Zo 3 36 (.extract (Zt 33) 0),Zo 4 37 (.extract (Zt 33) 1),Zm 5 7 36,Zm 6 8 37] (Zq [Zo 0 39 (Zc 25 []),Zo 1 40 (Zc 18 [Zt 39,Zn 20]),Zm 2 38 40,Zo 3 41 (.extract (Zt 38) 0),Zo 4 42 (.extract (Zt 38) 1),Zm 5 9 41,Zm 6 10 42] (Zq [Zo 0 44 (Zc 24 [.val .nils]),Zo 1 45 (Zc 13 [Zt 44]),Zm 2 43 45,Zo 3 46 (.extract (Zt 43) 0),Zo 4 47 (.extract (Zt 43) 1),Zo 5 48 (.extract (Zt 43) 2),Zm 6 11 46,Zm 7 12 47,Zm 8 13 48] (Zq [Zo 0 50 (Zc 24 [.val .nils]),Zo 1 51 (Zc 20 [Zt 50]),Zm 2 49 51,Zo 3 52 (.extract (Zt 49) 0),Zo 4 53 (.extract (Zt 49) 1),Zm 5 14 52,Zm 6 15 53] (Zq [Zo 0 55 (Zc 26 []),Zo 1 56 (Zc 22 [Zt 55]),Zm 2 54 56,Zo 3 57 (.extract (Zt 54) 0),Zo 4 58 (.extract (Zt 54) 1),Zm 5 16 57,Zm 6 17 58] (.seq (.draw [Zo 0 59 (.load (some 2) (Zt 1)),Zo 1 60 (Zc 27 [Zn 6,Zn 8]),Zd 2 61 3 (.eq (.agg [true,true]) false (Zt 59) (Zt 60)),Zd 3 62 7 (.mov (Zt 61)),⟨4,some 63,.mov (Zt 2),some (62,true),15⟩,⟨5,some 64,.bin .eql (Zt 63) (Zn 0),some (62,true),31⟩,Zd 6 65 63 (.pick (Zt 62) (Zt 64) (.val (.bool false))),Zd 7 66 127 (.mov (Zt 65)),⟨8,some 67,.load (some 2) (Zt 3),some (66,true),255⟩,⟨9,some 68,Zc 27 [Zn 2,Zn 3],some (66,true),255⟩,⟨10,some 69,.eq (.agg [true,true]) false (Zt 67) (Zt 68),some (66,true),1023⟩,Zd 11 70 2047 (.pick (Zt 66) (Zt 69) (.val (.bool false))),Zd 12 71 4095 (.mov (Zt 70)),⟨13,some 72,.mov (Zt 4),some (71,true),8191⟩,⟨14,some 73,.bin .eql (Zt 72) (Zn 0),some (71,true),16383⟩,Zd 15 74 32767 (.pick (Zt 71) (Zt 73) (.val (.bool false))),Zd 16 75 65535 (.mov (Zt 74)),⟨17,some 76,.mov (Zt 5),some (75,true),131071⟩,⟨18,some 77,.bin .eql (Zt 76) (Zn 1),some (75,true),262143⟩,Zd 19 78 524287 (.pick (Zt 75) (Zt 77) (.val (.bool false))),Zd 20 79 1048575 (.mov (Zt 78)),⟨21,some 80,.mov (Zt 6),some (79,true),2097151⟩,⟨22,some 81,.bin .eql (Zt 80) (Zn 0),some (79,true),4194303⟩,Zd 23 82 8388607 (.pick (Zt 79) (Zt 81) (.val (.bool false))),Zd 24 83 16777215 (.mov (Zt 82)),⟨25,some 84,.mov (Zt 7),some (83,true),33554431⟩,⟨26,some 85,.bin .eql (Zt 84) (Zn 18),some (83,true),67108863⟩,Zd 27 86 134217727 (.pick (Zt 83) (Zt 85) (.val (.bool false))),Zd 28 87 268435455 (.mov (Zt 86)),⟨29,some 88,.mov (Zt 8),some (87,true),536870911⟩,⟨30,some 89,.bin .eql (Zt 88) (Zn 0),some (87,true),1073741823⟩,Zd 31 90 2147483647 (.pick (Zt 87) (Zt 89) (.val (.bool false))),Zd 32 91 4294967295 (.mov (Zt 90)),⟨33,some 92,.mov (Zt 9),some (91,true),8589934591⟩,⟨34,some 93,.bin .eql (Zt 92) (Zn 1),some (91,true),17179869183⟩,Zd 35 94 34359738367 (.pick (Zt 91) (Zt 93) (.val (.bool false))),Zd 36 95 68719476735 (.mov (Zt 94)),⟨37,some 96,.mov (Zt 10),some (95,true),137438953471⟩,⟨38,some 97,.bin .eql (Zt 96) (Zn 0),some (95,true),274877906943⟩,Zd 39 98 549755813887 (.pick (Zt 95) (Zt 97) (.val (.bool false))),Zd 40 99 1099511627775 (.mov (Zt 98)),⟨41,some 100,.mov (Zt 11),some (99,true),2199023255551⟩,⟨42,some 101,.bin .eql (Zt 100) (Zn 0),some (99,true),4398046511103⟩,Zd 43 102 8796093022207 (.pick (Zt 99) (Zt 101) (.val (.bool false))),Zd 44 103 17592186044415 (.mov (Zt 102)),⟨45,some 104,.mov (Zt 12),some (103,true),35184372088831⟩,⟨46,some 105,.bin .eql (Zt 104) (Zn 0),some (103,true),70368744177663⟩,Zd 47 106 140737488355327 (.pick (Zt 103) (Zt 105) (.val (.bool false))),Zd 48 107 281474976710655 (.mov (Zt 106)),⟨49,some 108,.mov (Zt 13),some (107,true),562949953421311⟩,⟨50,some 109,.bin .eql (Zt 108) (Zn 0),some (107,true),1125899906842623⟩,Zd 51 110 2251799813685247 (.pick (Zt 107) (Zt 109) (.val (.bool false))),Zd 52 111 4503599627370495 (.mov (Zt 110)),⟨53,some 112,.mov (Zt 14),some (111,true),9007199254740991⟩,⟨54,some 113,.bin .eql (Zt 112) (Zn 1),some (111,true),18014398509481983⟩,Zd 55 114 36028797018963967 (.pick (Zt 111) (Zt 113) (.val (.bool false))),Zd 56 115 72057594037927935 (.mov (Zt 114)),⟨57,some 116,.mov (Zt 15),some (115,true),144115188075855871⟩,⟨58,some 117,.bin .eql (Zt 116) (Zn 0),some (115,true),288230376151711743⟩,Zd 59 118 576460752303423487 (.pick (Zt 115) (Zt 117) (.val (.bool false))),Zd 60 119 1152921504606846975 (.mov (Zt 118)),⟨61,some 120,.mov (Zt 16),some (119,true),2305843009213693951⟩,⟨62,some 121,.bin .eql (Zt 120) (Zn 12),some (119,true),4611686018427387903⟩,Zd 63 122 9223372036854775807 (.pick (Zt 119) (Zt 121) (.val (.bool false))),Zd 64 123 18446744073709551615 (.mov (Zt 122)),⟨65,some 124,.mov (Zt 17),some (123,true),36893488147419103231⟩,⟨66,some 125,.bin .eql (Zt 124) (Zn 0),some (123,true),73786976294838206463⟩,Zd 67 126 147573952589676412927 (.pick (Zt 123) (Zt 125) (.val (.bool false))),Zd 68 0 295147905179352825855 (.mov (Zt 126))]) .ret)))))))))⟩
def af7:AFunc:=⟨17,[.cell 6 (some 2),.cell 7 none],Zq [Zo 0 3 (.box (Zt 0)),Zo 1 4 (.box (Zt 1)),Zo 2 5 (.box (Zt 2)),Zo 3 6 (.alloc [Zi 0,Zi 0]),Zo 4 7 (.alloc [Zi 0])] (Zq [Zo 0 8 (.mkfn (Fn.func 28) [] [Zt 7]),Zs 1 (.defer (Zt 8) [])] (.seq (.draw [Zo 0 9 (.load (some 2) (Zt 3)),Zo 1 10 (.mkfn (Fn.func 31) [] [Zt 4,Zt 5]),Zl 4 13 4,Zl 5 14 5,Zd 6 15 32 (.bin .add (Zt 14) (Zn 1)),Zd 2 11 3 (Zc 30 [Zt 9,Zt 10]),Zd 3 12 7 (Zc 34 [Zt 11]),Zd 7 16 127 (Zc 35 [Zt 12,Zt 13,Zt 15]),Ze 8 255 (.store 2 (Zt 6) (Zt 16)),Ze 9 511 (.store 1 (Zt 7) (Zn 0))]) .ret))⟩
def af8:AFunc:=⟨33,[.cell 6 (some 2),.tmp 7],Zq [Zo 0 3 (.box (Zt 0)),Zo 1 6 (.alloc [Zi 0,Zi 0]),Zo 2 7 (.mov (Zn 0))] (.seq (.draw [Zo 0 11 (.load (some 2) (Zt 3)),Zo 1 12 (.load (some 2) (Zt 3)),Zm 2 13 1,Zd 3 14 6 (Zc 37 [Zt 12,Zt 13]),Zd 4 15 14 (.mov (Zt 14)),⟨5,some 16,.load (some 2) (Zt 3),some (15,true),30⟩,⟨6,some 17,.mov (Zt 2),some (15,true),30⟩,⟨7,some 18,Zc 38 [Zt 16,Zt 17],some (15,true),126⟩,Zd 8 19 254 (.pick (Zt 15) (Zt 18) (.val (.bool false))),Zd 9 20 511 (Zc 36 [Zt 11,Zt 19]),Zd 10 10 1023 (.mov (Zt 20)),Zd 11 21 2047 (.extract (Zt 10) 0),Zd 12 22 2047 (.extract (Zt 10) 1),Zd 13 8 4095 (.mov (Zt 21)),Zd 14 9 16383 (.mov (Zt 22))]) (.seq (Zq [Zm 0 23 9,Zo 1 24 (.bin .neq (Zt 23) (Zn 0))] (.cond (Zt 24) (Zq [Zo 0 25 (.build [Zi 0,Zi 0] []),Zm 1 26 9,Zs 2 (.store 2 (Zt 6) (Zt 25)),Zm 3 7 26] .ret) .skip)) (Zq [Zo 0 27 (.load (some 2) (Zt 3)),Zm 1 28 8,Zm 2 29 1,Zm 3 30 2,Zo 4 31 (.bin .add (Zt 30) (Zn 1)),Zo 5 32 (Zc 39 [Zt 27,Zt 28,Zt 29,Zt 31]),Zs 6 (.store 2 (Zt 6) (Zt 32)),Zo 7 7 (.mov (Zn 0))] .ret)))⟩
def af9:AFunc:=⟨17,[.cell 6 (some 2),.cell 7 none],Zq [Zo 0 3 (.box (Zt 0)),Zo 1 4 (.box (Zt 1)),Zo 2 5 (.box (Zt 2)),Zo 3 6 (.alloc [Zi 0,Zi 0]),Zo 4 7 (.alloc [Zi 0])] (Zq [Zo 0 9 (.mkfn (Fn.func 40) [] [Zt 7]),Zs 1 (.defer (Zt 9) [])] (Zq [Zo 0 8 (.alloc [.nilfn]),Zs 1 (.store 1 (Zt 8) (.val (.fn (Fn.func 41) [] [])))] (.seq (.draw [Zo 0 10 (.load (some 2) (Zt 3)),Zo 1 11 (.mkfn (Fn.func 42) [] [Zt 4,Zt 5]),Zl 4 14 4,Zo 5 15 (.mkfn (Fn.func 45) [] [Zt 8,Zt 5]),Zd 2 12 3 (Zc 30 [Zt 10,Zt 11]),Zd 3 13 7 (Zc 34 [Zt 12]),Zd 6 16 63 (Zc 44 [Zt 13,Zt 14,Zt 15]),Ze 7 127 (.store 2 (Zt 6) (Zt 16)),Ze 8 255 (.store 1 (Zt 7) (Zn 0))]) .ret)))⟩
def af10:AFunc:=⟨67,[.cell 6 (some 2),.tmp 7],Zq [Zo 0 3 (.box (Zt 0)),Zo 1 6 (.alloc [Zi 0,Zi 0]),Zo 2 7 (.mov (Zn 0))] (.seq (.draw [Zo 0 14 (.load (some 2) (Zt 3)),Zo 1 15 (.load (some 2) (Zt 3)),Zm 2 16 1,Zd 3 17 6 (Zc 37 [Zt 15,Zt 16]),Zd 4 18 14 (.mov (Zt 17)),⟨5,some 19,.mov (Zt 2),some (18,true),30⟩,⟨6,some 20,Zc 46 [Zt 19],some (18,true),62⟩,Zd 7 21 126 (.pick (Zt 18) (Zt 20) (.val (.bool false))),Zd 8 22 255 (Zc 36 [Zt 14,Zt 21]),Zd 9 13 511 (.mov (Zt 22)),Zd 10 23 1023 (.extract (Zt 13) 0),Zd 11 24 1023 (.extract (Zt 13) 1),Zd 12 8 2047 (.mov (Zt 23)),Zd 13 9 8191 (.mov (Zt 24))]) (.seq (Zq [Zm 0 25 9,Zo 1 26 (.bin .neq (Zt 25) (Zn 0))] (.cond (Zt 26) (Zq [Zo 0 27 (.build [Zi 0,Zi 0] []),Zm 1 28 9,Zs 2 (.store 2 (Zt 6) (Zt 27)),Zm 3 7 28] .ret) .skip)) (Zq [Zo 0 10 (.mov (.val .nils))] (.seq (Zq [Zo 0 11 (.mov (Zn 0))] (.block 0 (.loop [1,2,6,8,10,11] (.seq (Zq [Zm 0 29 11,Zm 1 30 8,Zo 2 31 (.len (Zt 30)),Zo 3 32 (.bin .lss (Zt 29) (Zt 31))] (.cond (Zt 32) .skip (.exit 0))) (.seq (.block 1 (Zq [Zo 0 12 (.mov (Zn 0))] (.block 2 (.loop [1,2,6,8,10,11,12] (.seq (Zq [Zm 0 35 12,Zm 1 36 8,Zm 2 37 11,Zo 3 38 (.indexA 2 none (Zt 36) (Zt 37)),Zo 4 39 (.fieldA 1 (Zt 38)),Zl 5 40 39,Zm 6 41 1,Zo 7 42 (.indexA 1 none (Zt 40) (Zt 41)),Zl 8 43 42,Zo 9 44 (.len (Zt 43)),Zo 10 45 (.bin .lss (Zt 35) (Zt 44))] (.cond (Zt 45) .skip (.exit 2))) (.seq (.block 3 (.ops [Zm 0 48 10,Zm 1 49 2,Zm 2 50 8,Zm 3 51 11,Zo 4 52 (.indexA 2 none (Zt 50) (Zt 51)),Zo 5 53 (.fieldA 1 (Zt 52)),Zl 6 54 53,Zm 7 55 1,Zo 8 56 (.indexA 1 none (Zt 54) (Zt 55)),Zl 9 57 56,Zm 10 58 12,Zo 11 59 (.indexA 3 none (Zt 57) (Zt 58)),Zo 12 60 (.fieldA 1 (Zt 59)),Zl 13 61 60,Zo 14 62 (Zc 47 [Zt 49,Zt 61]),Zo 15 63 (.buildSl 1 1 [Zi 0] [(0,Zt 62)]),Zo 16 64 (.append 1 (Zt 48) (Zt 63)),Zm 17 10 64])) (.ops [Zm 0 46 12,Zo 1 47 (.bin .add (Zt 46) (Zn 1)),Zm 2 12 47]))))))) (.ops [Zm 0 33 11,Zo 1 34 (.bin .add (Zt 33) (Zn 1)),Zm 2 11 34])))))) (Zq [Zm 0 65 10,Zo 1 66 (Zc 48 [Zt 65]),Zs 2 (.store 2 (Zt 6) (Zt 66)),Zo 3 7 (.mov (Zn 0))] .ret)))))⟩
def af11:AFunc:=⟨20,[.tmp 4,.cell 5 none],Zq [Zo 0 2 (.box (Zt 0)),Zo 1 3 (.box (Zt 1)),Zo 2 4 (.mov (Zn 0)),Zo 3 5 (.alloc [Zi 0])] (Zq [Zo 0 7 (.mkfn (Fn.func 49) [] [Zt 5]),Zs 1 (.defer (Zt 7) [])] (Zq [Zo 0 8 (.load (some 2) (Zt 2)),Zo 1 9 (.mkfn (Fn.func 50) [] [Zt 3]),Zo 2 10 (Zc 30 [Zt 8,Zt 9]),Zo 3 11 (Zc 34 [Zt 10]),Zm 4 6 11] (.seq (.block 0 (Zq [Zm 0 13 6,Zl 1 14 3,Zo 2 15 (Zc 51 [Zt 13,Zn 0,Zt 14]),Zm 3 12 15] (.cond (Zt 12) (Zq [Zo 0 4 (.mov (Zn 2)),Zs 1 (.store 1 (Zt 5) (Zn 0))] .ret) (Zq [Zm 0 17 6,Zl 1 18 3,Zo 2 19 (Zc 52 [Zt 17,Zt 18]),Zm 3 16 19] (.cond (Zt 16) (Zq [Zo 0 4 (.mov (Zn 1)),Zs 1 (.store 1 (Zt 5) (Zn 0))] .ret) .skip))))) (Zq [Zo 0 4 (.mov (Zn 0)),Zs 1 (.store 1 (Zt 5) (Zn 0))] .ret))))⟩
def af12:AFunc:=⟨22,[.tmp 4,.tmp 5],Zq [Zo 0 2 (.box (Zt 0)),Zo 1 4 (.mov (Zn 0)),Zo 2 5 (.mov (Zn 0))] (.seq (.draw [Zo 0 9 (.load (some 2) (Zt 2)),Zm 1 10 1,Zd 2 11 2 (Zc 46 [Zt 10]),Zd 3 12 7 (Zc 36 [Zt 9,Zt 11]),Zd 4 8 15 (.mov (Zt 12)),Zd 5 13 31 (.extract (Zt 8) 0),Zd 6 14 31 (.extract (Zt 8) 1),Zd 7 6 63 (.mov (Zt 13)),Zd 8 7 255 (.mov (Zt 14))]) (.seq (Zq [Zm 0 15 7,Zo 1 16 (.bin .neq (Zt 15) (Zn 0))] (.cond (Zt 16) (Zq [Zm 0 17 7,Zo 1 4 (.mov (Zn 0)),Zm 2 5 17] .ret) .skip)) (Zq [Zo 0 18 (.load (some 2) (Zt 2)),Zm 1 19 6,Zm 2 20 1,Zo 3 21 (Zc 53 [Zt 18,Zt 19,Zn 0,Zt 20]),Zm 4 4 21,Zo 5 5 (.mov (Zn 0))] .ret)))⟩
def af13:AFunc:=⟨96,[.tmp 2,.tmp 3,.cell 4 none],Zq [Zo 0 1 (.box (Zt 0)),Zo 1 2 (.mov (Zn 0)),Zo 2 3 (.mov (Zn 0)),Zo 3 4 (.alloc [Zi 0])] (Zq [Zo 0 15 (.mkfn (Fn.func 54) [] [Zt 4]),Zs 1 (.defer (Zt 15) [])] (Zq [Zo 0 16 (.load (some 2) (Zt 1)),Zo 1 17 (Zc 30 [Zt 16,.val (.fn (Fn.func 55) [] [])]),Zo 2 18 (Zc 34 [Zt 17]),Zo 3 5 (.alloc [.nilp]),Zs 4 (.store 1 (Zt 5) (Zt 18))] (Zq [Zo 0 19 (.fieldA 1 (Zt 1)),Zl 1 20 19,Zo 2 21 (.len (Zt 20)),Zo 3 22 (.bin .shl (Zn 1) (Zt 21)),Zo 4 23 (.bin .sub (Zt 22) (Zn 1)),Zo 5 6 (.alloc [Zi 0]),Zo 6 7 (.alloc [Zi 0]),Zs 7 (.store 1 (Zt 6) (Zt 23)),Zs 8 (.store 1 (Zt 7) (Zn 0))] (.seq (.seq (.draw [Zl 0 24 5,Zl 1 25 5,Zd 2 26 2 (Zc 57 [Zt 25]),Zd 3 27 7 (Zc 56 [Zt 24,Zt 26])]) (.block 0 (.rangeF (Zt 27) [28] (.ops [Zo 0 8 (.alloc [Zi 0,Zi 0,Zi 0,Zi 0,Zi 0,Zi 0,Zi 0,Zi 0,Zi 0,Zi 0]),Zs 1 (.store 10 (Zt 8) (Zt 28))]) (.block 1 (Zq [Zo 0 29 (.fieldA 1 (Zt 1)),Zl 1 30 29,Zo 2 31 (.len (Zt 30)),Zo 3 32 (.mov (Zn 0))] (.block 2 (.loop [1,5,6,7,8,31,32] (Zq [Zo 0 33 (.bin .lss (Zt 32) (Zt 31))] (.seq (.cond (Zt 33) .skip (.exit 2)) (.seq (.block 3 (Zq [Zm 0 34 32,Zm 1 9 34] (Zq [Zo 0 10 (.mov (.val (.bool false)))] (.seq (Zq [Zo 0 35 (.fieldA 0 (Zt 1)),Zl 1 36 35,Zo 2 37 (.len (Zt 36)),Zo 3 38 (.mov (Zn 0))] (.block 4 (.loop [1,5,6,7,8,9,10,31,32,37,38] (Zq [Zo 0 39 (.bin .lss (Zt 38) (Zt 37))] (.seq (.cond (Zt 39) .skip (.exit 4)) (.seq (.block 5 (Zq [Zm 0 40 38,Zm 1 11 40] (Zq [Zo 0 12 (.mov (.val (.bool true)))] (.seq (.seq (.draw [Zl 0 41 5,Zm 1 42 11,Zo 2 43 (.load (some 10) (Zt 8)),Zl 3 44 5,Zo 7 48 (.mov (Zn 0)),Zd 4 45 8 (Zc 57 [Zt 44]),Zd 5 46 31 (Zc 58 [Zt 41,Zt 42,Zt 43,Zt 45]),Zd 6 47 63 (.len (Zt 46))]) (.block 6 (.loop [1,5,6,7,8,9,10,12,31,32,37,38,46,47,48] (Zq [Zo 0 49 (.bin .lss (Zt 48) (Zt 47))] (.seq (.cond (Zt 49) .skip (.exit 6)) (.seq (.block 7 (Zq [Zo 0 50 (.indexA 5 none (Zt 46) (Zt 48)),Zo 1 51 (.load (some 5) (Zt 50)),Zo 2 14 (.alloc [Zi 0,Zi 0,Zi 0,Zi 0,Zi 0]),Zs 3 (.store 5 (Zt 14) (Zt 51))] (.seq (Zq [Zl 0 52 5,Zo 1 53 (.fieldA 0 (Zt 14)),Zo 2 54 (.load (some 3) (Zt 53)),Zo 3 55 (.fieldA 3 (Zt 14)),Zo 4 56 (.fieldA 0 (Zt 55)),Zl 5 57 56,Zo 6 58 (.load (some 10) (Zt 8)),Zm 7 59 9,Zo 8 60 (.bin .add (Zt 59) (Zn 1)),Zo 9 61 (Zc 59 [Zt 52,Zt 54,Zt 57,Zt 58,Zt 60]),Zo 10 62 (.bin .lss (Zt 61) (Zn 0))] (.cond (Zt 62) (.draw [Zl 0 63 7,Zm 1 64 9,Zd 2 65 2 (.bin .shl (Zn 1) (Zt 64)),Zd 3 66 7 (.bin .or (Zt 63) (Zt 65)),Ze 4 15 (.store 1 (Zt 7) (Zt 66))]) .skip)) (.ops [Zm 0 67 12,Zm 1 68 67,⟨2,some 69,.load none (Zt 5),some (68,true),0⟩,⟨3,some 70,.fieldA 0 (Zt 14),some (68,true),0⟩,⟨4,some 71,.load (some 3) (Zt 70),some (68,true),0⟩,⟨5,some 72,.fieldA 3 (Zt 14),some (68,true),0⟩,⟨6,some 73,.fieldA 1 (Zt 72),some (68,true),0⟩,⟨7,some 74,.load none (Zt 73),some (68,true),0⟩,⟨8,some 75,.load (some 10) (Zt 8),some (68,true),0⟩,⟨9,some 76,.mov (Zt 9),some (68,true),0⟩,⟨10,some 77,.bin .add (Zt 76) (Zn 1),some (68,true),0⟩,⟨11,some 78,Zc 59 [Zt 69,Zt 71,Zt 74,Zt 75,Zt 77],some (68,true),0⟩,⟨12,some 79,.bin .lss (Zt 78) (Zn 0),some (68,true),0⟩,Zo 13 80 (.pick (Zt 68) (Zt 79) (.val (.bool false))),Zm 14 12 80])))) (.ops [Zo 0 81 (.bin .add (Zt 48) (Zn 1)),Zm 1 48 81]))))))) (.ops [Zm 0 82 10,Zm 1 83 82,⟨2,some 84,.mov (Zt 12),some (83,false),0⟩,Zo 3 85 (.pick (Zt 83) (.val (.bool true)) (Zt 84)),Zm 4 10 85]))))) (.ops [Zo 0 86 (.bin .add (Zt 38) (Zn 1)),Zm 1 38 86]))))))) (Zq [Zm 0 87 10,Zo 1 88 (.not (Zt 87))] (.cond (Zt 88) (.draw [Zl 0 89 6,Zm 1 90 9,Zd 2 91 2 (.bin .shl (Zn 1) (Zt 90)),Zd 3 92 7 (.bin .andNot (Zt 89) (Zt 91)),Ze 4 15 (.store 1 (Zt 6) (Zt 92))]) .skip)))))) (.ops [Zo 0 93 (.bin .add (Zt 32) (Zn 1)),Zm 1 32 93]))))))))))) (.seq (.draw [Zl 0 94 6,Zl 1 95 7,Zd 2 2 1 (.mov (Zt 94)),Zd 3 3 7 (.mov (Zt 95)),Ze 4 15 (.store 1 (Zt 4) (Zn 0))]) .ret)))))⟩
def af14:AFunc:=⟨100,[.tmp 2,.tmp 3,.tmp 4],Zq [Zo 0 1 (.box (Zt 0)),Zo 1 2 (.mov (Zn 0)),Zo 2 3 (.mov (Zn 0)),Zo 3 4 (.mov (Zn 0))] (Zq [Zo 0 18 (.load (some 2) (Zt 1)),Zo 1 19 (Zc 36 [Zt 18,.val (.bool true)]),Zm 2 17 19,Zo 3 20 (.extract (Zt 17) 0),Zo 4 21 (.extract (Zt 17) 1),Zm 5 5 20,Zm 6 6 21] (.seq (Zq [Zm 0 22 6,Zo 1 23 (.bin .neq (Zt 22) (Zn 0))] (.cond (Zt 23) (Zq [Zm 0 24 6,Zo 1 2 (.mov (Zn 0)),Zo 2 3 (.mov (Zn 0)),Zm 3 4 24] .ret) .skip)) (Zq [Zo 0 7 (.mov (Zn 0)),Zo 1 8 (.mov (Zn 0))] (.seq (Zq [Zo 0 9 (.mov (Zn 0))] (.block 0 (.loop [1,5,7,8,9] (.seq (Zq [Zm 0 25 9,Zo 1 26 (.fieldA 1 (Zt 1)),Zl 2 27 26,Zo 3 28 (.len (Zt 27)),Zo 4 29 (.bin .lss (Zt 25) (Zt 28))] (.cond (Zt 29) .skip (.exit 0))) (.seq (.block 1 (Zq [Zo 0 10 (.mov (.val (.bool true))),Zo 1 11 (.mov (.val (.bool false)))] (.seq (Zq [Zo 0 12 (.mov (Zn 0))] (.block 2 (.loop [1,5,7,8,9,10,11,12] (.seq (Zq [Zm 0 32 12,Zm 1 33 5,Zo 2 34 (.len (Zt 33)),Zo 3 35 (.bin .lss (Zt 32) (Zt 34))] (.cond (Zt 35) .skip (.exit 2))) (.seq (.block 3 (Zq [Zo 0 13 (.mov (.val (.bool false)))] (.seq (Zq [Zo 0 14 (.mov (Zn 0))] (.block 4 (.loop [1,5,7,8,9,10,11,12,13,14] (.seq (Zq [Zm 0 38 14,Zo 1 39 (.fieldA 0 (Zt 1)),Zl 2 40 39,Zo 3 41 (.len (Zt 40)),Zo 4 42 (.bin .lss (Zt 38) (Zt 41))] (.cond (Zt 42) .skip (.exit 4))) (.seq (.block 5 (Zq [Zo 0 15 (.mov (.val (.bool true)))] (.seq (Zq [Zo 0 16 (.mov (Zn 0))] (.block 6 (.loop [1,5,7,8,9,10,11,12,13,14,15,16] (.seq (Zq [Zm 0 45 16,Zm 1 46 5,Zm 2 47 12,Zo 3 48 (.indexA 2 none (Zt 46) (Zt 47)),Zo 4 49 (.fieldA 1 (Zt 48)),Zl 5 50 49,Zm 6 51 14,Zo 7 52 (.indexA 1 none (Zt 50) (Zt 51)),Zl 8 53 52,Zo 9 54 (.len (Zt 53)),Zo 10 55 (.bin .lss (Zt 45) (Zt 54))] (.cond (Zt 55) .skip (.exit 6))) (.seq (.block 7 (.seq (.draw [Zo 0 58 (.load (some 2) (Zt 1)),Zm 1 59 14,Zm 2 60 5,Zm 3 61 12,Zd 4 62 12 (.indexA 2 none (Zt 60) (Zt 61)),Zd 5 63 28 (.fieldA 1 (Zt 62)),Zd 6 64 60 (.load none (Zt 63)),Zm 7 65 14,Zd 8 66 252 (.indexA 1 none (Zt 64) (Zt 65)),Zd 9 67 508 (.load none (Zt 66)),Zm 10 68 16,Zd 11 69 2044 (.indexA 3 none (Zt 67) (Zt 68)),Zd 12 70 4092 (.load (some 3) (Zt 69)),Zm 13 71 5,Zm 14 72 12,Zd 15 73 24576 (.indexA 2 none (Zt 71) (Zt 72)),Zd 16 74 57344 (.fieldA 0 (Zt 73)),Zd 17 75 122880 (.load none (Zt 74)),Zm 18 76 9,Zd 19 77 262144 (.bin .add (Zt 76) (Zn 1)),Zd 20 78 1048575 (Zc 60 [Zt 58,Zt 59,Zt 70,Zt 75,Zt 77]),Zd 21 79 2097151 (.bin .lss (Zt 78) (Zn 0))]) (.cond (Zt 79) (.ops [Zo 0 11 (.mov (.val (.bool true)))]) (.ops [Zo 0 15 (.mov (.val (.bool false)))])))) (.ops [Zm 0 56 16,Zo 1 57 (.bin .add (Zt 56) (Zn 1)),Zm 2 16 57])))))) (.ops [Zm 0 80 13,Zm 1 81 80,⟨2,some 82,.mov (Zt 15),some (81,false),0⟩,Zo 3 83 (.pick (Zt 81) (.val (.bool true)) (Zt 82)),Zm 4 13 83])))) (.ops [Zm 0 43 14,Zo 1 44 (.bin .add (Zt 43) (Zn 1)),Zm 2 14 44])))))) (.ops [Zm 0 84 10,Zm 1 85 84,⟨2,some 86,.mov (Zt 13),some (85,true),0⟩,Zo 3 87 (.pick (Zt 85) (Zt 86) (.val (.bool false))),Zm 4 10 87])))) (.ops [Zm 0 36 12,Zo 1 37 (.bin .add (Zt 36) (Zn 1)),Zm 2 12 37])))))) (.seq (Zq [Zm 0 88 10] (.cond (Zt 88) (.ops [Zm 0 89 7,Zm 1 90 9,Zo 2 91 (Zc 61 [Zt 90]),Zo 3 92 (.bin .add (Zt 89) (Zt 91)),Zm 4 7 92]) .skip)) (Zq [Zm 0 93 11] (.cond (Zt 93) (.ops [Zm 0 94 8,Zm 1 95 9,Zo 2 96 (Zc 61 [Zt 95]),Zo 3 97 (.bin .add (Zt 94) (Zt 96)),Zm 4 8 97]) .skip)))))) (.ops [Zm 0 30 9,Zo 1 31 (.bin .add (Zt 30) (Zn 1)),Zm 2 9 31])))))) (Zq [Zm 0 98 7,Zm 1 99 8,Zm 2 2 98,Zm 3 3 99,Zo 4 4 (.mov (Zn 0))] .ret)))))⟩
def af15:AFunc:=⟨42,[.tmp 4],Zq [Zo 0 2 (.box (Zt 0)),Zo 1 4 (.mov (.val (.bool false)))] (.seq (Zq [Zo 0 8 (.load (some 2) (Zt 2)),Zo 1 9 (Zc 5 [Zt 8]),Zm 2 10 9,⟨3,some 11,.load (some 2) (Zt 2),some (10,false),0⟩,⟨4,some 12,Zc 62 [Zt 11],some (10,false),0⟩,⟨5,some 13,.not (Zt 12),some (10,false),0⟩,Zo 6 14 (.pick (Zt 10) (.val (.bool true)) (Zt 13))] (.cond (Zt 14) (Zq [Zo 0 15 (.load (some 2) (Zt 2)),Zo 1 16 (Zc 5 [Zt 15]),Zm 2 4 16] .ret) .skip)) (Zq [Zo 0 5 (.mov (Zn 0))] (.seq (Zq [Zo 0 17 (.fieldA 1 (Zt 2)),Zl 1 18 17,Zo 2 19 (.len (Zt 18)),Zo 3 20 (.mov (Zn 0))] (.block 0 (.loop [1,5,18,19,20] (Zq [Zo 0 21 (.bin .lss (Zt 20) (Zt 19))] (.seq (.cond (Zt 21) .skip (.exit 0)) (.seq (.block 1 (Zq [Zo 0 22 (.indexA 7 none (Zt 18) (Zt 20)),Zo 1 23 (.load (some 7) (Zt 22)),Zo 2 7 (.alloc [Zi 0,Zi 0,Zi 0,Zi 0,Zi 0,Zi 0,Zi 0]),Zs 3 (.store 7 (Zt 7) (Zt 23))] (Zq [Zo 0 24 (.fieldA 0 (Zt 7)),Zl 1 25 24,Zo 2 26 (.bin .eql (Zt 25) (Zn 0)),Zm 3 27 26,⟨4,some 28,.fieldA 1 (Zt 7),some (27,true),0⟩,⟨5,some 29,.fieldA 0 (Zt 28),some (27,true),0⟩,⟨6,some 30,.load none (Zt 29),some (27,true),0⟩,⟨7,some 31,.fieldA 1 (Zt 7),some (27,true),0⟩,⟨8,some 32,.fieldA 1 (Zt 31),some (27,true),0⟩,⟨9,some 33,.load none (Zt 32),some (27,true),0⟩,⟨10,some 34,.bin .lss (Zt 30) (Zt 33),some (27,true),0⟩,Zo 11 35 (.pick (Zt 27) (Zt 34) (.val (.bool false)))] (.cond (Zt 35) (.ops [Zm 0 36 5,Zo 1 37 (.bin .add (Zt 36) (Zn 1)),Zm 2 5 37]) .skip)))) (.ops [Zo 0 38 (.bin .add (Zt 20) (Zn 1)),Zm 1 20 38]))))))) (Zq [Zm 0 39 5,Zm 1 40 1,Zo 2 41 (.bin .gtr (Zt 39) (Zt 40)),Zm 3 4 41] .ret))))⟩
def af16:AFunc:=⟨13,[.tmp 2,.cell 3 none],Zq [Zo 0 1 (.box (Zt 0)),Zo 1 2 (.mov (Zn 0)),Zo 2 3 (.alloc [Zi 0])] (Zq [Zo 0 5 (.mkfn (Fn.func 63) [] [Zt 3]),Zs 1 (.defer (Zt 5) [])] (Zq [Zo 0 6 (.load (some 2) (Zt 1)),Zo 1 7 (Zc 30 [Zt 6,.val (.fn (Fn.func 55) [] [])]),Zo 2 8 (Zc 34 [Zt 7]),Zo 3 4 (.alloc [.nilp]),Zs 4 (.store 1 (Zt 4) (Zt 8))] (Zq [Zo 0 9 (Zc 65 [Zn 60,Zn 0]),Zo 1 10 (.mkfn (Fn.func 66) [] [Zt 4]),Zo 2 11 (.build [.nilfn] [(0,(1,Zt 10))]),Zo 3 12 (Zc 64 [Zt 9,Zt 11]),Zm 4 2 12,Zs 5 (.store 1 (Zt 3) (Zn 0))] .ret)))⟩
def af17:AFunc:=⟨25,[.tmp 2,.tmp 3],Zq [Zo 0 1 (.box (Zt 0)),Zo 1 2 (.mov (Zn 0)),Zo 2 3 (.mov (Zn 0))] (Zq [Zo 0 8 (.load (some 2) (Zt 1)),Zo 1 9 (Zc 36 [Zt 8,.val (.bool true)]),Zm 2 7 9,Zo 3 10 (.extract (Zt 7) 0),Zo 4 11 (.extract (Zt 7) 1),Zm 5 4 10,Zm 6 5 11] (.seq (Zq [Zm 0 12 5,Zo 1 13 (.bin .neq (Zt 12) (Zn 0))] (.cond (Zt 13) (Zq [Zm 0 14 5,Zo 1 2 (.mov (Zn 0)),Zm 2 3 14] .ret) .skip)) (.seq (Zq [Zo 0 6 (.mov (Zn 60))] (.block 0 (.loop [1,4,6] (.seq (Zq [Zm 0 15 6,Zo 1 16 (.bin .geq (Zt 15) (Zn 0))] (.cond (Zt 16) .skip (.exit 0))) (.seq (.block 1 (Zq [Zo 0 19 (.load (some 2) (Zt 1)),Zm 1 20 4,Zm 2 21 6,Zo 3 22 (Zc 53 [Zt 19,Zt 20,Zn 0,Zt 21]),Zo 4 23 (.bin .eql (Zt 22) (Zn 2))] (.cond (Zt 23) (Zq [Zm 0 24 6,Zm 1 2 24,Zo 2 3 (.mov (Zn 0))] .ret) .skip))) (.ops [Zm 0 17 6,Zo 1 18 (.bin .sub (Zt 17) (Zn 1)),Zm 2 6 18])))))) (Zq [Zo 0 2 (.mov (Zn 0)),Zo 1 3 (.mov (Zn 4))] .ret))))⟩
def af18:AFunc:=⟨16,[.tmp 4,.cell 5 none],Zq [Zo 0 2 (.box (Zt 0)),Zo 1 3 (.box (Zt 1)),Zo 2 4 (.mov (Zn 0)),Zo 3 5 (.alloc [Zi 0])] (Zq [Zo 0 7 (.mkfn (Fn.func 67) [] [Zt 5]),Zs 1 (.defer (Zt 7) [])] (Zq [Zo 0 8 (.load (some 2) (Zt 2)),Zo 1 9 (.mkfn (Fn.func 68) [] [Zt 3]),Zo 2 10 (Zc 30 [Zt 8,Zt 9]),Zo 3 11 (Zc 34 [Zt 10]),Zo 4 6 (.alloc [.nilp]),Zs 5 (.store 1 (Zt 6) (Zt 11))] (Zq [Zo 0 12 (Zc 65 [Zn 0,Zn 10]),Zo 1 13 (.mkfn (Fn.func 69) [] [Zt 6,Zt 3]),Zo 2 14 (.build [.nilfn] [(0,(1,Zt 13))]),Zo 3 15 (Zc 64 [Zt 12,Zt 14]),Zm 4 4 15,Zs 5 (.store 1 (Zt 5) (Zn 0))] .ret)))⟩
def af19:AFunc:=⟨30,[.tmp 4,.tmp 5],Zq [Zo 0 2 (.box (Zt 0)),Zo 1 4 (.mov (Zn 0)),Zo 2 5 (.mov (Zn 0))] (.seq (.draw [Zo 0 10 (.load (some 2) (Zt 2)),Zm 1 11 1,Zd 2 12 2 (Zc 46 [Zt 11]),Zd 3 13 7 (Zc 36 [Zt 10,Zt 12]),Zd 4 9 15 (.mov (Zt 13)),Zd 5 14 31 (.extract (Zt 9) 0),Zd 6 15 31 (.extract (Zt 9) 1),Zd 7 6 63 (.mov (Zt 14)),Zd 8 7 255 (.mov (Zt 15))]) (.seq (Zq [Zm 0 16 7,Zo 1 17 (.bin .neq (Zt 16) (Zn 0))] (.cond (Zt 17) (Zq [Zm 0 18 7,Zo 1 4 (.mov (Zn 0)),Zm 2 5 18] .ret) .skip)) (.seq (Zq [Zo 0 8 (.mov (Zn 0))] (.block 0 (.loop [1,2,6,8] (.seq (Zq [Zm 0 19 8,Zo 1 20 (.bin .leq (Zt 19) (Zn 10))] (.cond (Zt 20) .skip (.exit 0))) (.seq (.block 1 (Zq [Zo 0 23 (.load (some 2) (Zt 2)),Zm 1 24 6,Zm 2 25 8,Zm 3 26 1,Zo 4 27 (Zc 53 [Zt 23,Zt 24,Zt 25,Zt 26]),Zo 5 28 (.bin .eql (Zt 27) (Zn 2))] (.cond (Zt 28) (Zq [Zm 0 29 8,Zm 1 4 29,Zo 2 5 (.mov (Zn 0))] .ret) .skip))) (.ops [Zm 0 21 8,Zo 1 22 (.bin .add (Zt 21) (Zn 1)),Zm 2 8 22])))))) (Zq [Zo 0 4 (.mov (Zn 0)),Zo 1 5 (.mov (Zn 4))] .ret))))⟩
def af20:AFunc:=⟨37,[.tmp 2,.cell 3 none],Zq [Zo 0 1 (.box (Zt 0)),Zo 1 2 (.mov (Zn 0)),Zo 2 3 (.alloc [Zi 0])] (Zq [Zo 0 9 (.mkfn (Fn.func 70) [] [Zt 3]),Zs 1 (.defer (Zt 9) [])] (Zq [Zo 0 10 (.load (some 2) (Zt 1)),Zo 1 11 (Zc 30 [Zt 10,.val (.fn (Fn.func 55) [] [])]),Zo 2 12 (Zc 34 [Zt 11]),Zm 3 4 12] (Zq [Zo 0 5 (.mov (Zn 0)),Zo 1 6 (.mov (Zn 0))] (.seq (Zq [Zo 0 13 (.fieldA 0 (Zt 1)),Zl 1 14 13,Zo 2 15 (.len (Zt 14)),Zo 3 16 (.mov (Zn 0))] (.block 0 (.loop [1,3,4,5,6,15,16] (Zq [Zo 0 17 (.bin .lss (Zt 16) (Zt 15))] (.seq (.cond (Zt 17) .skip (.exit 0)) (.seq (.block 1 (Zq [Zm 0 18 16,Zm 1 7 18] (Zq [Zm 0 19 4,Zm 1 20 7,Zo 2 21 (.fieldA 1 (Zt 1)),Zl 3 22 21,Zo 4 23 (.len (Zt 22)),Zo 5 24 (Zc 35 [Zt 19,Zt 20,Zt 23]),Zo 6 25 (.fieldV 0 none (Zt 24)),Zm 7 8 25] (Zq [Zm 0 26 7,Zo 1 27 (.bin .eql (Zt 26) (Zn 0)),Zm 2 28 27,⟨3,some 29,.mov (Zt 8),some (28,false),0⟩,⟨4,some 30,.mov (Zt 6),some (28,false),0⟩,⟨5,some 31,.bin .lss (Zt 29) (Zt 30),some (28,false),0⟩,Zo 6 32 (.pick (Zt 28) (.val (.bool true)) (Zt 31))] (.cond (Zt 32) (.ops [Zm 0 33 7,Zm 1 34 8,Zm 2 5 33,Zm 3 6 34]) .skip))))) (.ops [Zo 0 35 (.bin .add (Zt 16) (Zn 1)),Zm 1 16 35]))))))) (Zq [Zm 0 36 5,Zm 1 2 36,Zs 2 (.store 1 (Zt 3) (Zn 0))] .ret)))))⟩
def af21:AFunc:=⟨42,[.tmp 2,.tmp 3],Zq [Zo 0 1 (.box (Zt 0)),Zo 1 2 (.mov (Zn 0)),Zo 2 3 (.mov (Zn 0))] (Zq [Zo 0 9 (.load (some 2) (Zt 1)),Zo 1 10 (Zc 36 [Zt 9,.val (.bool true)]),Zm 2 8 10,Zo 3 11 (.extract (Zt 8) 0),Zo 4 12 (.extract (Zt 8) 1),Zm 5 4 11,Zm 6 5 12] (.seq (Zq [Zm 0 13 5,Zo 1 14 (.bin .neq (Zt 13) (Zn 0))] (.cond (Zt 14) (Zq [Zm 0 15 5,Zo 1 2 (.mov (Zn 0)),Zm 2 3 15] .ret) .skip)) (Zq [Zo 0 6 (.mov (Zn 0))] (.seq (Zq [Zo 0 7 (.mov (Zn 1))] (.block 0 (.loop [1,4,6,7] (.seq (Zq [Zm 0 16 7,Zo 1 17 (.fieldA 0 (Zt 1)),Zl 2 18 17,Zo 3 19 (.len (Zt 18)),Zo 4 20 (.bin .lss (Zt 16) (Zt 19))] (.cond (Zt 20) .skip (.exit 0))) (.seq (.block 1 (.seq (.draw [Zo 0 23 (.load (some 2) (Zt 1)),Zm 1 24 4,Zm 2 25 7,Zo 3 26 (.fieldA 1 (Zt 1)),Zd 4 27 8 (.load none (Zt 26)),Zd 5 28 24 (.len (Zt 27)),Zo 8 31 (.load (some 2) (Zt 1)),Zm 9 32 4,Zm 10 33 6,Zo 11 34 (.fieldA 1 (Zt 1)),Zd 12 35 2048 (.load none (Zt 34)),Zd 13 36 6144 (.len (Zt 35)),Zd 6 29 63 (Zc 39 [Zt 23,Zt 24,Zt 25,Zt 28]),Zd 7 30 127 (.fieldV 0 none (Zt 29)),Zd 14 37 16255 (Zc 39 [Zt 31,Zt 32,Zt 33,Zt 36]),Zd 15 38 32639 (.fieldV 0 none (Zt 37)),Zd 16 39 65535 (.bin .lss (Zt 30) (Zt 38))]) (.cond (Zt 39) (.ops [Zm 0 40 7,Zm 1 6 40]) .skip))) (.ops [Zm 0 21 7,Zo 1 22 (.bin .add (Zt 21) (Zn 1)),Zm 2 7 22])))))) (Zq [Zm 0 41 6,Zm 1 2 41,Zo 2 3 (.mov (Zn 0))] .ret)))))⟩
def af22:AFunc:=⟨45,[.tmp 2,.cell 3 none],Zq [Zo 0 1 (.box (Zt 0)),Zo 1 2 (.mov (Zn 0)),Zo 2 3 (.alloc [Zi 0])] (Zq [Zo 0 8 (.mkfn (Fn.func 71) [] [Zt 3]),Zs 1 (.defer (Zt 8) [])] (Zq [Zo 0 9 (.load (some 2) (Zt 1)),Zo 1 10 (Zc 30 [Zt 9,.val (.fn (Fn.func 55) [] [])]),Zo 2 4 (.alloc [.nilp]),Zs 3 (.store 1 (Zt 4) (Zt 10))] (.seq (.draw [Zl 0 11 4,Zl 1 12 4,Zd 2 13 2 (Zc 57 [Zt 12]),Zd 3 14 7 (Zc 73 [Zt 11,Zt 13]),Zd 4 15 15 (.not (Zt 14)),Zd 5 16 31 (Zc 72 [Zt 15,Zn 4])]) (Zq [Zo 0 5 (.mov (.val .nils))] (.seq (Zq [Zl 0 17 4,Zo 1 18 (Zc 57 [Zt 17]),Zo 2 19 (.bin .add (Zt 18) (.val (.int .u64 1))),Zo 3 20 (.mov (.val (.int .u64 0)))] (.block 0 (.loop [3,4,5,19,20] (Zq [Zo 0 21 (.bin .lss (Zt 20) (Zt 19))] (.seq (.cond (Zt 21) .skip (.exit 0)) (.seq (.block 1 (Zq [Zm 0 22 20,Zm 1 6 22] (Zq [Zl 0 23 4,Zm 1 24 6,Zo 2 25 (Zc 74 [Zt 23,Zt 24])] (.cond (Zt 25) (.ops [Zm 0 26 5,Zm 1 27 6,Zo 2 28 (.buildSl 1 1 [.int .u64 0] [(0,Zt 27)]),Zo 3 29 (.append 1 (Zt 26) (Zt 28)),Zm 4 5 29]) .skip)))) (.ops [Zo 0 30 (.bin .add (Zt 20) (.val (.int .u64 1))),Zm 1 20 30]))))))) (Zq [Zm 0 31 5,Zo 1 32 (.len (Zt 31)),Zo 2 33 (.mksl 1 [.int .u64 0] (Zt 32) (Zt 32)),Zm 3 7 33] (Zq [Zm 0 34 7,Zm 1 35 5,Zo 2 36 (.copy 1 (Zt 34) (Zt 35))] (Zq [Zm 0 37 7,Zo 1 38 (Zc 75 [Zt 37,.val (.fn (Fn.func 76) [] [])])] (Zq [Zm 0 39 7,Zo 1 40 (Zc 79 [Zt 39]),Zo 2 41 (.mkfn (Fn.func 80) [] [Zt 4]),Zo 3 42 (.build [.nilfn] [(0,(1,Zt 41))]),Zo 4 43 (Zc 78 [Zt 40,Zt 42]),Zo 5 44 (.conv .i64 (Zt 43)),Zm 6 2 44,Zs 7 (.store 1 (Zt 3) (Zn 0))] .ret)))))))))⟩
def af23:AFunc:=⟨68,[.tmp 2,.tmp 3],Zq [Zo 0 1 (.box (Zt 0)),Zo 1 2 (.mov (Zn 0)),Zo 2 3 (.mov (Zn 0))] (Zq [Zo 0 9 (.load (some 2) (Zt 1)),Zo 1 10 (Zc 81 [Zt 9,.val (.bool true)]),Zm 2 4 10] (.seq (Zq [Zm 0 11 4,Zo 1 12 (.bin .neq (Zt 11) (Zn 0))] (.cond (Zt 12) (Zq [Zm 0 13 4,Zo 1 2 (.mov (Zn 0)),Zm 2 3 13] .ret) .skip)) (.seq (Zq [Zo 0 14 (.load (some 2) (Zt 1)),Zo 1 15 (Zc 82 [Zt 14]),Zo 2 16 (.len (Zt 15)),Zo 3 17 (.bin .gtr (Zt 16) (Zn 0))] (.cond (Zt 17) (Zq [Zo 0 2 (.mov (Zn 0)),Zo 1 3 (.mov (Zn 4))] .ret) .skip)) (Zq [Zo 0 5 (.mov (Zn (-1)))] (.seq (Zq [Zo 0 6 (.mov (Zn 0))] (.block 0 (.loop [1,5,6] (.seq (Zq [Zm 0 18 6,Zo 1 19 (.load (some 2) (Zt 1)),Zo 2 20 (Zc 83 [Zt 19]),Zo 3 21 (.bin .leq (Zt 18) (Zt 20))] (.cond (Zt 21) .skip (.exit 0))) (.seq (.block 1 (Zq [Zo 0 7 (.mov (.val (.bool true)))] (.seq (Zq [Zo 0 8 (.mov (Zn 0))] (.block 2 (.loop [1,5,6,7,8] (.seq (Zq [Zm 0 24 8,Zo 1 25 (.fieldA 1 (Zt 1)),Zl 2 26 25,Zo 3 27 (.len (Zt 26)),Zo 4 28 (.bin .lss (Zt 24) (Zt 27))] (.cond (Zt 28) .skip (.exit 2))) (.seq (.block 3 (.ops [Zm 0 31 7,Zm 1 32 31,⟨2,some 33,.mov (Zt 6),some (32,true),0⟩,⟨3,some 34,.mov (Zt 8),some (32,true),0⟩,⟨4,some 35,Zc 84 [Zt 33,Zt 34],some (32,true),0⟩,⟨5,some 36,.not (Zt 35),some (32,true),0⟩,⟨6,some 37,.mov (Zt 36),some (32,true),0⟩,⟨7,some 38,.fieldA 1 (Zt 1),some (37,false),0⟩,⟨8,some 39,.load none (Zt 38),some (37,false),0⟩,⟨9,some 40,.mov (Zt 8),some (37,false),0⟩,⟨10,some 41,.indexA 7 none (Zt 39) (Zt 40),some (37,false),0⟩,⟨11,some 42,.fieldA 0 (Zt 41),some (37,false),0⟩,⟨12,some 43,.load none (Zt 42),some (37,false),0⟩,⟨13,some 44,.bin .eql (Zt 43) (Zn 2),some (37,false),0⟩,⟨14,some 45,.pick (Zt 37) (.val (.bool true)) (Zt 44),some (32,true),0⟩,Zo 15 46 (.pick (Zt 32) (Zt 45) (.val (.bool false))),Zm 16 7 46])) (.ops [Zm 0 29 8,Zo 1 30 (.bin .add (Zt 29) (Zn 1)),Zm 2 8 30])))))) (Zq [Zm 0 47 7,Zm 1 48 47,⟨2,some 49,.mov (Zt 5),some (48,true),0⟩,⟨3,some 50,.bin .lss (Zt 49) (Zn 0),some (48,true),0⟩,⟨4,some 51,.mov (Zt 50),some (48,true),0⟩,⟨5,some 52,.mov (Zt 6),some (51,false),0⟩,⟨6,some 53,Zc 85 [Zt 52],some (51,false),0⟩,⟨7,some 54,.mov (Zt 5),some (51,false),0⟩,⟨8,some 55,Zc 85 [Zt 54],some (51,false),0⟩,⟨9,some 56,.bin .lss (Zt 53) (Zt 55),some (51,false),0⟩,⟨10,some 57,.pick (Zt 51) (.val (.bool true)) (Zt 56),some (48,true),0⟩,Zo 11 58 (.pick (Zt 48) (Zt 57) (.val (.bool false))),Zm 12 59 58,⟨13,some 60,.load (some 2) (Zt 1),some (59,true),0⟩,⟨14,some 61,.mov (Zt 6),some (59,true),0⟩,⟨15,some 62,Zc 86 [Zt 60,Zt 61],some (59,true),0⟩,⟨16,some 63,.len (Zt 62),some (59,true),0⟩,⟨17,some 64,.bin .eql (Zt 63) (Zn 0),some (59,true),0⟩,Zo 18 65 (.pick (Zt 59) (Zt 64) (.val (.bool false)))] (.cond (Zt 65) (.ops [Zm 0 66 6,Zm 1 5 66]) .skip))))) (.ops [Zm 0 22 6,Zo 1 23 (.bin .add (Zt 22) (Zn 1)),Zm 2 6 23])))))) (Zq [Zm 0 67 5,Zm 1 2 67,Zo 2 3 (.mov (Zn 0))] .ret))))))⟩
def af24:AFunc:=⟨18,[.cell 2 (some 2)],Zq [Zo 0 2 (.alloc [.nils,.nils])] (Zq [Zo 0 3 (Zc 27 [Zn 10,Zn 11]),Zo 1 4 (Zc 27 [Zn 2,Zn 2]),Zo 2 5 (Zc 27 [Zn 1,Zn 1]),Zo 3 6 (.build [Zi 0,Zi 0,Zi 0,Zi 0,Zi 0,Zi 0,Zi 0] [(0,(2,Zt 3)),(2,(2,Zt 4)),(4,(2,Zt 5)),(6,(1,Zn 12))]),Zo 4 7 (Zc 27 [Zn 8,Zn 8]),Zo 5 8 (Zc 27 [Zn 3,Zn 4]),Zo 6 9 (Zc 27 [Zn 0,Zn 1]),Zo 7 10 (.build [Zi 0,Zi 0,Zi 0,Zi 0,Zi 0,Zi 0,Zi 0] [(0,(2,Zt 7)),(2,(2,Zt 8)),(4,(2,Zt 9)),(6,(1,Zn 9))]),Zo 8 11 (.buildSl 7 2 [Zi 0,Zi 0,Zi 0,Zi 0,Zi 0,Zi 0,Zi 0] [(0,Zt 6),(1,Zt 10)]),Zo 9 12 (Zc 87 [Zn 6,Zn 6]),Zo 10 13 (Zc 88 [Zn 2]),Zo 11 14 (.buildSl 7 2 [Zi 0,Zi 0,Zi 0,Zi 0,Zi 0,Zi 0,Zi 0] [(0,Zt 12),(1,Zt 13)]),Zm 12 15 0,Zo 13 16 (.append 7 (Zt 14) (Zt 15)),Zo 14 17 (.build [.nils,.nils] [(0,(1,Zt 11)),(1,(1,Zt 16))]),Zs 15 (.store 2 (Zt 2) (Zt 17))] .ret)⟩
def af25:AFunc:=⟨4,[.cell 0 (some 2)],Zq [Zo 0 0 (.alloc [.nils,.nils])] (Zq [Zo 0 1 (Zc 89 [Zn 1,Zn 7,Zn 9]),Zo 1 2 (.buildSl 7 1 [Zi 0,Zi 0,Zi 0,Zi 0,Zi 0,Zi 0,Zi 0] [(0,Zt 1)]),Zo 2 3 (Zc 24 [Zt 2]),Zs 3 (.store 2 (Zt 0) (Zt 3))] .ret)⟩
def af26:AFunc:=⟨5,[.cell 0 (some 2)],Zq [Zo 0 0 (.alloc [.nils,.nils])] (Zq [Zo 0 1 (Zc 89 [Zn 1,Zn 7,Zn 9]),Zo 1 2 (Zc 89 [Zn 1,Zn 6,Zn 6]),Zo 2 3 (.buildSl 7 2 [Zi 0,Zi 0,Zi 0,Zi 0,Zi 0,Zi 0,Zi 0] [(0,Zt 1),(1,Zt 2)]),Zo 3 4 (Zc 24 [Zt 3]),Zs 4 (.store 2 (Zt 0) (Zt 4))] .ret)⟩
def af27:AFunc:=⟨8,[.cell 4 (some 2)],Zq [Zo 0 4 (.alloc [Zi 0,Zi 0])] (Zq [Zm 0 5 0,Zm 1 6 1,Zo 2 7 (.build [Zi 0,Zi 0] [(0,(1,Zt 5)),(1,(1,Zt 6))]),Zs 3 (.store 2 (Zt 4) (Zt 7))] .ret)⟩
def af28:AFunc:=⟨3,[],.cond (.val .nilp) .skip .skip⟩
def af30:AFunc:=⟨151,[.tmp 4],Zq [Zo 0 2 (.box (Zt 0)),Zo 1 4 (.mov (.val .nilp))] (Zq [Zo 0 5 (.mov (.val (.fn (Fn.func 90) [] [])))] (Zq [Zo 0 12 (.fieldA 0 (Zt 2)),Zl 1 13 12,Zo 2 14 (.len (Zt 13)),Zo 3 15 (Zc 91 [Zt 14,Zn 1,Zn 4]),Zm 4 16 15,⟨5,some 17,.fieldA 1 (Zt 2),some (16,true),0⟩,⟨6,some 18,.load none (Zt 17),some (16,true),0⟩,⟨7,some 19,.len (Zt 18),some (16,true),0⟩,⟨8,some 20,.bin .leq (Zt 19) (Zn 10),some (16,true),0⟩,Zo 9 21 (.pick (Zt 16) (Zt 20) (.val (.bool false))),Zo 10 22 (Zc 72 [Zt 21,Zn 1])] (.seq (Zq [Zo 0 23 (.fieldA 0 (Zt 2)),Zl 1 24 23,Zo 2 25 (.len (Zt 24)),Zo 3 26 (.mov (Zn 0))] (.block 0 (.loop [1,2,5,24,25,26] (Zq [Zo 0 27 (.bin .lss (Zt 26) (Zt 25))] (.seq (.cond (Zt 27) .skip (.exit 0)) (.seq (.block 1 (Zq [Zo 0 28 (.indexA 7 none (Zt 24) (Zt 26)),Zo 1 29 (.load (some 7) (Zt 28)),Zo 2 7 (.alloc [Zi 0,Zi 0,Zi 0,Zi 0,Zi 0,Zi 0,Zi 0]),Zs 3 (.store 7 (Zt 7) (Zt 29))] (.ops [Zo 0 30 (.fieldA 6 (Zt 7)),Zl 1 31 30,Zo 2 32 (Zc 91 [Zt 31,Zn 0,Zn 60]),Zm 3 33 32,⟨4,some 34,.mov (Zt 5),some (33,true),0⟩,⟨5,some 35,.fieldA 0 (Zt 7),some (33,true),0⟩,⟨6,some 36,.load (some 2) (Zt 35),some (33,true),0⟩,⟨7,some 37,.fieldA 6 (Zt 7),some (33,true),0⟩,⟨8,some 38,.load none (Zt 37),some (33,true),0⟩,⟨9,some 39,.call (Zt 34) [Zt 36,Zn 0,Zt 38,Zn 2],some (33,true),0⟩,Zo 10 40 (.pick (Zt 33) (Zt 39) (.val (.bool false))),Zm 11 41 40,⟨12,some 42,.mov (Zt 5),some (41,true),0⟩,⟨13,some 43,.fieldA 2 (Zt 7),some (41,true),0⟩,⟨14,some 44,.load (some 2) (Zt 43),some (41,true),0⟩,⟨15,some 45,.call (Zt 42) [Zt 44,Zn 1,Zn 10,Zn 2],some (41,true),0⟩,Zo 16 46 (.pick (Zt 41) (Zt 45) (.val (.bool false))),Zm 17 47 46,⟨18,some 48,.mov (Zt 5),some (47,true),0⟩,⟨19,some 49,.fieldA 4 (Zt 7),some (47,true),0⟩,⟨20,some 50,.load (some 2) (Zt 49),some (47,true),0⟩,⟨21,some 51,.call (Zt 48) [Zt 50,Zn 0,Zn 5,Zn 2],some (47,true),0⟩,Zo 22 52 (.pick (Zt 47) (Zt 51) (.val (.bool false))),Zo 23 53 (Zc 72 [Zt 52,Zn 1])]))) (.ops [Zo 0 54 (.bin .add (Zt 26) (Zn 1)),Zm 1 26 54]))))))) (Zq [Zo 0 55 (.load (some 2) (Zt 2)),Zo 1 56 .mkmap,Zo 2 57 (.build [.nils,.nils,.nils,.nilmap] [(0,(2,Zt 55)),(2,(1,.val .nils)),(3,(1,Zt 56))]),Zo 3 58 (.box (Zt 57)),Zm 4 8 58,Zo 5 9 (.mov (Zn 0))] (.seq (Zq [Zo 0 59 (.fieldA 1 (Zt 2)),Zl 1 60 59,Zo 2 61 (.len (Zt 60)),Zo 3 62 (.mov (Zn 0))] (.block 2 (.loop [1,5,8,9,60,61,62] (Zq [Zo 0 63 (.bin .lss (Zt 62) (Zt 61))] (.seq (.cond (Zt 63) .skip (.exit 2)) (.seq (.block 3 (Zq [Zo 0 64 (.indexA 7 none (Zt 60) (Zt 62)),Zo 1 65 (.load (some 7) (Zt 64)),Zo 2 11 (.alloc [Zi 0,Zi 0,Zi 0,Zi 0,Zi 0,Zi 0,Zi 0]),Zs 3 (.store 7 (Zt 11) (Zt 65))] (Zq [Zo 0 66 (.fieldA 0 (Zt 11)),Zl 1 67 66] (.block 4 (Zq [Zo 0 96 (.bin .eql (Zt 67) (Zn 0)),Zm 1 95 96] (.cond (Zt 95) (Zq [Zm 0 97 5,Zo 1 98 (.fieldA 1 (Zt 11)),Zo 2 99 (.load (some 2) (Zt 98)),Zo 3 100 (.call (Zt 97) [Zt 99,Zn 0,Zn 60,Zn 2]),Zo 4 101 (Zc 72 [Zt 100,Zn 1])] (Zq [Zm 0 102 9,Zo 1 103 (.fieldA 1 (Zt 11)),Zo 2 104 (.fieldA 1 (Zt 103)),Zl 3 105 104,Zo 4 106 (.fieldA 1 (Zt 11)),Zo 5 107 (.fieldA 0 (Zt 106)),Zl 6 108 107,Zo 7 109 (.bin .sub (Zt 105) (Zt 108)),Zo 8 110 (.min [Zn 1,Zt 109]),Zo 9 111 (.bin .add (Zt 102) (Zt 110)),Zm 10 9 111] (.ops [Zm 0 112 8,Zm 1 113 8,Zo 2 114 (.nilck (Zt 113)),Zo 3 115 (.fieldA 2 (Zt 114)),Zl 4 116 115,Zo 5 117 (.build [] []),Zo 6 118 (.iface 123 (Zt 117)),Zo 7 119 (.buildSl 1 1 [.nilif] [(0,Zt 118)]),Zo 8 120 (.append 1 (Zt 116) (Zt 119)),Zo 9 121 (.nilck (Zt 112)),Zo 10 122 (.fieldA 2 (Zt 121)),Zs 11 (.store 1 (Zt 122) (Zt 120))]))) (Zq [Zo 0 124 (.bin .eql (Zt 67) (Zn 1)),Zm 1 123 124] (.cond (Zt 123) (Zq [Zo 0 125 (.fieldA 3 (Zt 11)),Zl 1 126 125,Zo 2 127 (Zc 91 [Zt 126,Zn 1,Zn 10]),Zo 3 128 (Zc 72 [Zt 127,Zn 1])] (.draw [Zm 0 129 8,Zm 1 130 8,Zd 2 131 2 (.nilck (Zt 130)),Zd 3 132 6 (.fieldA 2 (Zt 131)),Zd 4 133 14 (.load none (Zt 132)),Zo 5 134 (.fieldA 3 (Zt 11)),Zd 6 135 32 (.load none (Zt 134)),Zd 7 136 96 (.build [Zi 0] [(0,(1,Zt 135))]),Zd 8 137 224 (.iface 126 (Zt 136)),Zd 9 138 480 (.buildSl 1 1 [.nilif] [(0,Zt 137)]),Zd 10 139 1022 (.append 1 (Zt 133) (Zt 138)),Zd 11 140 2047 (.nilck (Zt 129)),Zd 12 141 4095 (.fieldA 2 (Zt 140)),Ze 13 8191 (.store 1 (Zt 141) (Zt 139))])) (Zq [Zo 0 68 (.fieldA 0 (Zt 11)),Zl 1 69 68,Zo 2 70 (.bin .eql (Zt 69) (Zn 2)),Zm 3 71 70,⟨4,some 72,.mov (Zt 8),some (71,true),0⟩,⟨5,some 73,.fieldA 4 (Zt 11),some (71,true),0⟩,⟨6,some 74,.load none (Zt 73),some (71,true),0⟩,⟨7,some 75,Zc 32 [Zt 72,Zt 74],some (71,true),0⟩,Zo 8 76 (.pick (Zt 71) (Zt 75) (.val (.bool false))),Zm 9 77 76,⟨10,some 78,.mov (Zt 5),some (77,true),0⟩,⟨11,some 79,.fieldA 5 (Zt 11),some (77,true),0⟩,⟨12,some 80,.load (some 2) (Zt 79),some (77,true),0⟩,⟨13,some 81,.call (Zt 78) [Zt 80,Zn (-1000),Zn 1000,Zn 2000],some (77,true),0⟩,Zo 14 82 (.pick (Zt 77) (Zt 81) (.val (.bool false))),Zo 15 83 (Zc 72 [Zt 82,Zn 1])] (.ops [Zm 0 84 8,Zm 1 85 8,Zo 2 86 (.nilck (Zt 85)),Zo 3 87 (.fieldA 2 (Zt 86)),Zl 4 88 87,Zo 5 89 (.build [] []),Zo 6 90 (.iface 124 (Zt 89)),Zo 7 91 (.buildSl 1 1 [.nilif] [(0,Zt 90)]),Zo 8 92 (.append 1 (Zt 88) (Zt 91)),Zo 9 93 (.nilck (Zt 84)),Zo 10 94 (.fieldA 2 (Zt 93)),Zs 11 (.store 1 (Zt 94) (Zt 92))])))))))))) (.ops [Zo 0 142 (.bin .add (Zt 62) (Zn 1)),Zm 1 62 142]))))))) (Zq [Zm 0 143 9,Zo 1 144 (.bin .leq (Zt 143) (Zn 4)),Zo 2 145 (Zc 72 [Zt 144,Zn 1])] (Zq [Zm 0 146 1,Zm 1 147 8,Zo 2 148 (.call (Zt 146) [Zt 147]),Zo 3 149 (Zc 72 [Zt 148,Zn 2])] (Zq [Zm 0 150 8,Zm 1 4 150] .ret))))))))⟩
def af31:AFunc:=⟨13,[.tmp 4],Zq [Zo 0 4 (.mov (.val (.bool false)))] (Zq [Zm 0 5 0,Zl 1 6 1,Zo 2 7 (Zc 32 [Zt 5,Zt 6]),Zm 3 8 7,⟨4,some 9,.mov (Zt 0),some (8,true),0⟩,⟨5,some 10,.load none (Zt 2),some (8,true),0⟩,⟨6,some 11,Zc 33 [Zt 9,Zt 10],some (8,true),0⟩,Zo 7 12 (.pick (Zt 8) (Zt 11) (.val (.bool false))),Zm 8 4 12] .ret)⟩
def af32:AFunc:=⟨14,[.tmp 4],Zq [Zo 0 4 (.mov (.val (.bool false)))] (Zq [Zm 0 5 1,Zm 1 6 0,Zo 2 7 (.nilck (Zt 6)),Zo 3 8 (.fieldA 0 (Zt 7)),Zo 4 9 (.fieldA 0 (Zt 8)),Zl 5 10 9,Zo 6 11 (.len (Zt 10)),Zo 7 12 (.bin .sub (Zt 11) (Zn 1)),Zo 8 13 (Zc 91 [Zt 5,Zn 0,Zt 12]),Zm 9 4 13] .ret)⟩
def af33:AFunc:=⟨14,[.tmp 4],Zq [Zo 0 4 (.mov (.val (.bool false)))] (Zq [Zm 0 5 1,Zm 1 6 0,Zo 2 7 (.nilck (Zt 6)),Zo 3 8 (.fieldA 0 (Zt 7)),Zo 4 9 (.fieldA 1 (Zt 8)),Zl 5 10 9,Zo 6 11 (.len (Zt 10)),Zo 7 12 (.bin .sub (Zt 11) (Zn 1)),Zo 8 13 (Zc 91 [Zt 5,Zn 0,Zt 12]),Zm 9 4 13] .ret)⟩
def af34:AFunc:=⟨9,[.tmp 2],Zq [Zo 0 2 (.mov (.val .nilp))] (Zq [Zm 0 3 0,Zm 1 4 0,Zo 2 5 (Zc 57 [Zt 4]),Zo 3 6 (Zc 73 [Zt 3,Zt 5]),Zo 4 7 (Zc 72 [Zt 6,Zn 10])] (Zq [Zm 0 8 0,Zm 1 2 8] .ret))⟩
def af35:AFunc:=⟨11,[.cell 6 (some 2)],Zq [Zo 0 3 (.box (Zt 0)),Zo 1 5 (.box (Zt 2)),Zo 2 6 (.alloc [Zi 0,Zi 0])] (Zq [Zl 0 7 3,Zm 1 8 1,Zo 2 9 (.mkfn (Fn.func 92) [] [Zt 3,Zt 5]),Zo 3 10 (Zc 44 [Zt 7,Zt 8,Zt 9]),Zs 4 (.store 2 (Zt 6) (Zt 10))] .ret)⟩
def af36:AFunc:=⟨20,[.tmp 4,.tmp 5],Zq [Zo 0 2 (.box (Zt 0)),Zo 1 4 (.mov (.val .nils)),Zo 2 5 (.mov (Zn 0))] (Zq [Zo 0 8 (.load (some 2) (Zt 2)),Zm 1 9 1,Zo 2 10 (Zc 81 [Zt 8,Zt 9]),Zm 3 6 10] (.seq (Zq [Zm 0 11 6,Zo 1 12 (.bin .neq (Zt 11) (Zn 0))] (.cond (Zt 12) (Zq [Zm 0 13 6,Zo 1 4 (.mov (.val .nils)),Zm 2 5 13] .ret) .skip)) (Zq [Zo 0 14 (.load (some 2) (Zt 2)),Zo 1 15 (Zc 82 [Zt 14]),Zm 2 7 15] (.seq (Zq [Zm 0 16 7,Zo 1 17 (.len (Zt 16)),Zo 2 18 (.bin .eql (Zt 17) (Zn 0))] (.cond (Zt 18) (Zq [Zo 0 4 (.mov (.val .nils)),Zo 1 5 (.mov (Zn 10))] .ret) .skip)) (Zq [Zm 0 19 7,Zm 1 4 19,Zo 2 5 (.mov (Zn 0))] .ret)))))⟩
def af37:AFunc:=⟨11,[.tmp 4],Zq [Zo 0 2 (.box (Zt 0)),Zo 1 4 (.mov (.val (.bool false)))] (Zq [Zm 0 5 1,Zo 1 6 (.fieldA 0 (Zt 2)),Zl 2 7 6,Zo 3 8 (.len (Zt 7)),Zo 4 9 (.bin .sub (Zt 8) (Zn 1)),Zo 5 10 (Zc 93 [Zt 5,Zn 0,Zt 9]),Zm 6 4 10] .ret)⟩
def af38:AFunc:=⟨11,[.tmp 4],Zq [Zo 0 2 (.box (Zt 0)),Zo 1 4 (.mov (.val (.bool false)))] (Zq [Zm 0 5 1,Zo 1 6 (.fieldA 1 (Zt 2)),Zl 2 7 6,Zo 3 8 (.len (Zt 7)),Zo 4 9 (.bin .sub (Zt 8) (Zn 1)),Zo 5 10 (Zc 93 [Zt 5,Zn 0,Zt 9]),Zm 6 4 10] .ret)⟩
def af39:AFunc:=⟨56,[.cell 8 (some 2)],Zq [Zo 0 4 (.box (Zt 0)),Zo 1 8 (.alloc [Zi 0,Zi 0])] (Zq [Zo 0 9 (.mov (.val .nils))] (.seq (Zq [Zo 0 10 (.mov (Zn 0))] (.block 0 (.loop [1,2,3,4,8,9,10] (.seq (Zq [Zm 0 12 10,Zm 1 13 1,Zo 2 14 (.len (Zt 13)),Zo 3 15 (.bin .lss (Zt 12) (Zt 14))] (.cond (Zt 15) .skip (.exit 0))) (.seq (.block 1 (Zq [Zo 0 11 (.mov (Zn 0))] (.block 2 (.loop [1,2,3,4,8,9,10,11] (.seq (Zq [Zm 0 18 11,Zm 1 19 1,Zm 2 20 10,Zo 3 21 (.indexA 2 none (Zt 19) (Zt 20)),Zo 4 22 (.fieldA 1 (Zt 21)),Zl 5 23 22,Zm 6 24 2,Zo 7 25 (.indexA 1 none (Zt 23) (Zt 24)),Zl 8 26 25,Zo 9 27 (.len (Zt 26)),Zo 10 28 (.bin .lss (Zt 18) (Zt 27))] (.cond (Zt 28) .skip (.exit 2))) (.seq (.block 3 (.draw [Zm 0 31 9,Zo 1 32 (.load (some 2) (Zt 4)),Zm 2 33 2,Zm 3 34 1,Zm 4 35 10,Zd 5 36 24 (.indexA 2 none (Zt 34) (Zt 35)),Zd 6 37 56 (.fieldA 1 (Zt 36)),Zd 7 38 120 (.load none (Zt 37)),Zm 8 39 2,Zd 9 40 504 (.indexA 1 none (Zt 38) (Zt 39)),Zd 10 41 1016 (.load none (Zt 40)),Zm 11 42 11,Zd 12 43 4088 (.indexA 3 none (Zt 41) (Zt 42)),Zd 13 44 8184 (.load (some 3) (Zt 43)),Zm 14 45 1,Zm 15 46 10,Zd 16 47 49152 (.indexA 2 none (Zt 45) (Zt 46)),Zd 17 48 114688 (.fieldA 0 (Zt 47)),Zd 18 49 245760 (.load none (Zt 48)),Zm 19 50 3,Zd 20 51 1048574 (Zc 60 [Zt 32,Zt 33,Zt 44,Zt 49,Zt 50]),Zd 21 52 2097150 (.buildSl 1 1 [Zi 0] [(0,Zt 51)]),Zd 22 53 4194303 (.append 1 (Zt 31) (Zt 52)),Zd 23 9 8388607 (.mov (Zt 53))])) (.ops [Zm 0 29 11,Zo 1 30 (.bin .add (Zt 29) (Zn 1)),Zm 2 11 30]))))))) (.ops [Zm 0 16 10,Zo 1 17 (.bin .add (Zt 16) (Zn 1)),Zm 2 10 17])))))) (Zq [Zm 0 54 9,Zo 1 55 (Zc 48 [Zt 54]),Zs 2 (.store 2 (Zt 8) (Zt 55))] .ret)))⟩
def af40:AFunc:=⟨3,[],.cond (.val .nilp) .skip .skip⟩
def af41:AFunc:=⟨13,[.tmp 4],Zq [Zo 0 2 (.box (Zt 0)),Zo 1 4 (.mov (Zn 0))] (Zq [Zm 0 5 1,Zo 1 6 (.fieldA 0 (Zt 2)),Zl 2 7 6,Zo 3 8 (.bin .add (Zt 5) (Zt 7)),Zo 4 9 (.bin .sub (Zt 8) (Zn 1)),Zo 5 10 (.fieldA 0 (Zt 2)),Zl 6 11 10,Zo 7 12 (.bin .quo (Zt 9) (Zt 11)),Zm 8 4 12] .ret)⟩
def af42:AFunc:=⟨12,[.tmp 4],Zq [Zo 0 4 (.mov (.val (.bool false)))] (Zq [Zm 0 5 0,Zl 1 6 1,Zo 2 7 (Zc 32 [Zt 5,Zt 6]),Zm 3 8 7,⟨4,some 9,.load none (Zt 2),some (8,true),0⟩,⟨5,some 10,Zc 43 [Zt 9],some (8,true),0⟩,Zo 6 11 (.pick (Zt 8) (Zt 10) (.val (.bool false))),Zm 7 4 11] .ret)⟩
def af43:AFunc:=⟨5,[.tmp 2],Zq [Zo 0 2 (.mov (.val (.bool false)))] (Zq [Zm 0 3 0,Zo 1 4 (Zc 91 [Zt 3,Zn 0,Zn 60]),Zm 2 2 4] .ret)⟩
def af44:AFunc:=⟨37,[.cell 6 (some 2)],Zq [Zo 0 3 (.box (Zt 0)),Zo 1 4 (.box (Zt 1)),Zo 2 5 (.box (Zt 2)),Zo 3 6 (.alloc [Zi 0,Zi 0])] (Zq [Zo 0 7 (.alloc [.nils])] (.seq (.seq (.draw [Zl 0 11 3,Zl 1 12 3,Zd 2 13 2 (Zc 57 [Zt 12]),Zd 3 14 7 (Zc 56 [Zt 11,Zt 13])]) (.block 0 (.rangeF (Zt 14) [15] (.ops [Zo 0 8 (.alloc [Zi 0,Zi 0,Zi 0,Zi 0,Zi 0,Zi 0,Zi 0,Zi 0,Zi 0,Zi 0]),Zs 1 (.store 10 (Zt 8) (Zt 15))]) (.block 1 (.seq (.draw [Zl 0 16 3,Zl 1 17 4,Zo 2 18 (.load (some 10) (Zt 8)),Zl 3 19 3,Zo 7 23 (.mov (Zn 0)),Zd 4 20 8 (Zc 57 [Zt 19]),Zd 5 21 31 (Zc 58 [Zt 16,Zt 17,Zt 18,Zt 20]),Zd 6 22 63 (.len (Zt 21))]) (.block 2 (.loop [5,7,8,21,22,23] (Zq [Zo 0 24 (.bin .lss (Zt 23) (Zt 22))] (.seq (.cond (Zt 24) .skip (.exit 2)) (.seq (.block 3 (Zq [Zo 0 25 (.indexA 5 none (Zt 21) (Zt 23)),Zo 1 26 (.load (some 5) (Zt 25)),Zo 2 10 (.alloc [Zi 0,Zi 0,Zi 0,Zi 0,Zi 0]),Zs 3 (.store 5 (Zt 10) (Zt 26))] (.draw [Zl 0 27 7,Zl 1 28 5,Zo 2 29 (.load (some 5) (Zt 10)),Zo 3 30 (.load (some 10) (Zt 8)),Zd 4 31 14 (.call (Zt 28) [Zt 29,Zt 30]),Zd 5 32 30 (.buildSl 2 1 [Zi 0,Zi 0] [(0,Zt 31)]),Zd 6 33 63 (.append 2 (Zt 27) (Zt 32)),Ze 7 127 (.store 1 (Zt 7) (Zt 33))]))) (.ops [Zo 0 34 (.bin .add (Zt 23) (Zn 1)),Zm 1 23 34]))))))))))) (Zq [Zl 0 35 7,Zo 1 36 (Zc 94 [Zt 35]),Zs 2 (.store 2 (Zt 6) (Zt 36))] .ret)))⟩
def af45:AFunc:=⟨16,[.cell 6 (some 2)],Zq [Zo 0 4 (.box (Zt 0)),Zo 1 5 (.box (Zt 1)),Zo 2 6 (.alloc [Zi 0,Zi 0])] (Zq [Zl 0 8 2,Zo 1 9 (.fieldA 0 (Zt 4)),Zo 2 10 (.load (some 3) (Zt 9)),Zl 3 11 3,Zo 4 12 (.call (Zt 8) [Zt 10,Zt 11]),Zm 5 7 12] (Zq [Zm 0 13 7,Zm 1 14 7,Zo 2 15 (.build [Zi 0,Zi 0] [(0,(1,Zt 13)),(1,(1,Zt 14))]),Zs 3 (.store 2 (Zt 6) (Zt 15))] .ret))⟩
def af46:AFunc:=⟨5,[.tmp 2],Zq [Zo 0 2 (.mov (.val (.bool false)))] (Zq [Zm 0 3 0,Zo 1 4 (Zc 93 [Zt 3,Zn 0,Zn 60]),Zm 2 2 4] .ret)⟩
def af47:AFunc:=⟨11,[.tmp 4],Zq [Zo 0 4 (.mov (Zn 0))] (Zq [Zm 0 5 0,Zm 1 6 1,Zo 2 7 (.bin .add (Zt 5) (Zt 6)),Zo 3 8 (.bin .sub (Zt 7) (Zn 1)),Zm 4 9 1,Zo 5 10 (.bin .quo (Zt 8) (Zt 9)),Zm 6 4 10] .ret)⟩
def af48:AFunc:=⟨34,[.cell 2 (some 2)],Zq [Zo 0 2 (.alloc [Zi 0,Zi 0])] (.seq (.draw [Zm 0 5 0,Zd 1 6 1 (.indexA 1 none (Zt 5) (Zn 0)),Zd 2 7 3 (.load none (Zt 6)),Zm 3 8 0,Zd 4 9 8 (.indexA 1 none (Zt 8) (Zn 0)),Zd 5 10 24 (.load none (Zt 9)),Zd 6 11 63 (.build [Zi 0,Zi 0] [(0,(1,Zt 7)),(1,(1,Zt 10))]),Zo 7 3 (.alloc [Zi 0,Zi 0]),Ze 8 255 (.store 2 (Zt 3) (Zt 11))]) (.seq (Zq [Zo 0 4 (.mov (Zn 0))] (.block 0 (.loop [0,2,3,4] (.seq (Zq [Zm 0 12 4,Zm 1 13 0,Zo 2 14 (.len (Zt 13)),Zo 3 15 (.bin .lss (Zt 12) (Zt 14))] (.cond (Zt 15) .skip (.exit 0))) (.seq (.block 1 (.draw [Zo 0 18 (.fieldA 0 (Zt 3)),Zd 1 19 1 (.load none (Zt 18)),Zm 2 20 0,Zm 3 21 4,Zd 4 22 12 (.indexA 1 none (Zt 20) (Zt 21)),Zd 5 23 28 (.load none (Zt 22)),Zd 6 24 63 (.min [Zt 19,Zt 23]),Zo 7 25 (.fieldA 1 (Zt 3)),Zd 8 26 128 (.load none (Zt 25)),Zm 9 27 0,Zm 10 28 4,Zd 11 29 1536 (.indexA 1 none (Zt 27) (Zt 28)),Zd 12 30 3584 (.load none (Zt 29)),Zd 13 31 8064 (.max [Zt 26,Zt 30]),Zd 14 32 16383 (.build [Zi 0,Zi 0] [(0,(1,Zt 24)),(1,(1,Zt 31))]),Ze 15 32767 (.store 2 (Zt 3) (Zt 32))])) (.ops [Zm 0 16 4,Zo 1 17 (.bin .add (Zt 16) (Zn 1)),Zm 2 4 17])))))) (Zq [Zo 0 33 (.load (some 2) (Zt 3)),Zs 1 (.store 2 (Zt 2) (Zt 33))] .ret)))⟩
def af49:AFunc:=⟨3,[],.cond (.val .nilp) .skip .skip⟩
def af50:AFunc:=⟨6,[.tmp 3],Zq [Zo 0 3 (.mov (.val (.bool false)))] (Zq [Zl 0 4 1,Zo 1 5 (Zc 43 [Zt 4]),Zm 2 3 5] .ret)⟩
def af51:AFunc:=⟨32,[.cell 6 none],Zq [Zo 0 3 (.box (Zt 0)),Zo 1 4 (.box (Zt 1)),Zo 2 5 (.box (Zt 2)),Zo 3 6 (.alloc [.bool false])] (.seq (.seq (.draw [Zl 0 9 3,Zl 1 10 3,Zd 2 11 2 (Zc 57 [Zt 10]),Zd 3 12 7 (Zc 56 [Zt 9,Zt 11])]) (.block 0 (.rangeF (Zt 12) [13] (.ops [Zo 0 7 (.alloc [Zi 0,Zi 0,Zi 0,Zi 0,Zi 0,Zi 0,Zi 0,Zi 0,Zi 0,Zi 0]),Zs 1 (.store 10 (Zt 7) (Zt 13))]) (.block 1 (Zq [Zl 0 14 3,Zo 1 15 (.nilck (Zt 14)),Zo 2 16 (.fieldA 0 (Zt 15)),Zo 3 17 (.fieldA 0 (Zt 16)),Zl 4 18 17,Zo 5 19 (.len (Zt 18)),Zo 6 20 (.mov (Zn 0))] (.block 2 (.loop [3,4,5,6,7,19,20] (Zq [Zo 0 21 (.bin .lss (Zt 20) (Zt 19))] (.seq (.cond (Zt 21) .skip (.exit 2)) (.seq (.block 3 (Zq [Zm 0 22 20,Zm 1 8 22] (.seq (.draw [Zl 0 23 3,Zm 1 24 8,Zo 2 25 (.load (some 10) (Zt 7)),Zl 3 26 3,Zo 6 29 (.mkfn (Fn.func 96) [] [Zt 3,Zt 7,Zt 4,Zt 5]),Zd 4 27 8 (Zc 57 [Zt 26]),Zd 5 28 31 (Zc 58 [Zt 23,Zt 24,Zt 25,Zt 27]),Zd 7 30 127 (Zc 95 [Zt 28,Zt 29])]) (.cond (Zt 30) (Zq [Zs 0 (.store 1 (Zt 6) (.val (.bool false)))] .ret) .skip)))) (.ops [Zo 0 31 (.bin .add (Zt 20) (Zn 1)),Zm 1 20 31]))))))))))) (Zq [Zs 0 (.store 1 (Zt 6) (.val (.bool true)))] .ret))⟩
def af52:AFunc:=⟨31,[.cell 4 none],Zq [Zo 0 2 (.box (Zt 0)),Zo 1 3 (.box (Zt 1)),Zo 2 4 (.alloc [.bool false])] (.seq .skip (.seq (.seq (.draw [Zl 0 7 2,Zl 1 8 2,Zd 2 9 2 (Zc 57 [Zt 8]),Zd 3 10 7 (Zc 56 [Zt 7,Zt 9])]) (.block 0 (.rangeF (Zt 10) [11] (.ops [Zo 0 5 (.alloc [Zi 0,Zi 0,Zi 0,Zi 0,Zi 0,Zi 0,Zi 0,Zi 0,Zi 0,Zi 0]),Zs 1 (.store 10 (Zt 5) (Zt 11))]) (.block 1 (.seq (Zq [Zl 0 12 2,Zo 1 13 (.nilck (Zt 12)),Zo 2 14 (.fieldA 0 (Zt 13)),Zo 3 15 (.fieldA 0 (Zt 14)),Zl 4 16 15,Zo 5 17 (.len (Zt 16)),Zo 6 18 (.mov (Zn 0))] (.block 2 (.loop [2,3,4,5,17,18] (Zq [Zo 0 19 (.bin .lss (Zt 18) (Zt 17))] (.seq (.cond (Zt 19) .skip (.exit 2)) (.seq (.block 3 (Zq [Zm 0 20 18,Zm 1 6 20] (.seq (.draw [Zl 0 21 2,Zm 1 22 6,Zo 2 23 (.load (some 10) (Zt 5)),Zl 3 24 2,Zo 6 27 (.mkfn (Fn.func 98) [] [Zt 2,Zt 5,Zt 3]),Zd 4 25 8 (Zc 57 [Zt 24]),Zd 5 26 31 (Zc 58 [Zt 21,Zt 22,Zt 23,Zt 25]),Zd 7 28 127 (Zc 95 [Zt 26,Zt 27]),Zd 8 29 255 (.not (Zt 28))]) (.cond (Zt 29) (.exit 1) .skip)))) (.ops [Zo 0 30 (.bin .add (Zt 18) (Zn 1)),Zm 1 18 30]))))))) (Zq [Zs 0 (.store 1 (Zt 4) (.val (.bool true)))] .ret)))))) (Zq [Zs 0 (.store 1 (Zt 4) (.val (.bool false)))] .ret)))⟩
def af53:AFunc:=⟨73,[.tmp 8],Zq [Zo 0 4 (.box (Zt 0)),Zo 1 8 (.mov (Zn 0))] (Zq [Zo 0 9 (.mov (.val (.bool true))),Zo 1 10 (.mov (.val (.bool false)))] (.seq (Zq [Zo 0 11 (.mov (Zn 0))] (.block 0 (.loop [1,2,3,4,9,10,11] (.seq (Zq [Zm 0 16 11,Zm 1 17 1,Zo 2 18 (.len (Zt 17)),Zo 3 19 (.bin .lss (Zt 16) (Zt 18))] (.cond (Zt 19) .skip (.exit 0))) (.seq (.block 1 (Zq [Zo 0 12 (.mov (.val (.bool true)))] (.seq (Zq [Zo 0 13 (.mov (Zn 0))] (.block 2 (.loop [1,2,3,4,9,10,11,12,13] (.seq (Zq [Zm 0 22 13,Zo 1 23 (.fieldA 0 (Zt 4)),Zl 2 24 23,Zo 3 25 (.len (Zt 24)),Zo 4 26 (.bin .lss (Zt 22) (Zt 25))] (.cond (Zt 26) .skip (.exit 2))) (.seq (.block 3 (Zq [Zo 0 14 (.mov (.val (.bool false)))] (.seq (Zq [Zo 0 15 (.mov (Zn 0))] (.block 4 (.loop [1,2,3,4,9,10,11,12,13,14,15] (.seq (Zq [Zm 0 29 15,Zm 1 30 1,Zm 2 31 11,Zo 3 32 (.indexA 2 none (Zt 30) (Zt 31)),Zo 4 33 (.fieldA 1 (Zt 32)),Zl 5 34 33,Zm 6 35 13,Zo 7 36 (.indexA 1 none (Zt 34) (Zt 35)),Zl 8 37 36,Zo 9 38 (.len (Zt 37)),Zo 10 39 (.bin .lss (Zt 29) (Zt 38))] (.cond (Zt 39) .skip (.exit 4))) (.seq (.block 5 (.seq (.draw [Zo 0 42 (.load (some 2) (Zt 4)),Zm 1 43 13,Zm 2 44 1,Zm 3 45 11,Zd 4 46 12 (.indexA 2 none (Zt 44) (Zt 45)),Zd 5 47 28 (.fieldA 1 (Zt 46)),Zd 6 48 60 (.load none (Zt 47)),Zm 7 49 13,Zd 8 50 252 (.indexA 1 none (Zt 48) (Zt 49)),Zd 9 51 508 (.load none (Zt 50)),Zm 10 52 15,Zd 11 53 2044 (.indexA 3 none (Zt 51) (Zt 52)),Zd 12 54 4092 (.load (some 3) (Zt 53)),Zm 13 55 1,Zm 14 56 11,Zd 15 57 24576 (.indexA 2 none (Zt 55) (Zt 56)),Zd 16 58 57344 (.fieldA 0 (Zt 57)),Zd 17 59 122880 (.load none (Zt 58)),Zm 18 60 2,Zm 19 61 3,Zd 20 62 1048575 (Zc 99 [Zt 42,Zt 43,Zt 54,Zt 59,Zt 60,Zt 61])]) (.cond (Zt 62) (.ops [Zo 0 14 (.mov (.val (.bool true)))]) (.ops [Zo 0 9 (.mov (.val (.bool false)))])))) (.ops [Zm 0 40 15,Zo 1 41 (.bin .add (Zt 40) (Zn 1)),Zm 2 15 41])))))) (.ops [Zm 0 63 12,Zm 1 64 63,⟨2,some 65,.mov (Zt 14),some (64,true),0⟩,Zo 3 66 (.pick (Zt 64) (Zt 65) (.val (.bool false))),Zm 4 12 66])))) (.ops [Zm 0 27 13,Zo 1 28 (.bin .add (Zt 27) (Zn 1)),Zm 2 13 28])))))) (.ops [Zm 0 67 10,Zm 1 68 67,⟨2,some 69,.mov (Zt 12),some (68,false),0⟩,Zo 3 70 (.pick (Zt 68) (.val (.bool true)) (Zt 69)),Zm 4 10 70])))) (.ops [Zm 0 20 11,Zo 1 21 (.bin .add (Zt 20) (Zn 1)),Zm 2 11 21])))))) (.seq (Zq [Zm 0 71 9] (.cond (Zt 71) (Zq [Zo 0 8 (.mov (Zn 2))] .ret) .skip)) (.seq (Zq [Zm 0 72 10] (.cond (Zt 72) (Zq [Zo 0 8 (.mov (Zn 1))] .ret) .skip)) (Zq [Zo 0 8 (.mov (Zn 0))] .ret)))))⟩
def af54:AFunc:=⟨3,[],.cond (.val .nilp) .skip .skip⟩
def af55:AFunc:=⟨3,[.tmp 2],Zq [Zo 0 2 (.mov (.val (.bool false)))] (Zq [Zo 0 2 (.mov (.val (.bool true)))] .ret)⟩
def af56:AFunc:=⟨6,[.tmp 4],Zq [Zo 0 2 (.box (Zt 0)),Zo 1 3 (.box (Zt 1)),Zo 2 4 (.mov (.val .nilfn))] (Zq [Zo 0 5 (.mkfn (Fn.func 100) [] [Zt 2,Zt 3]),Zm 1 4 5] .ret)⟩
def af57:AFunc:=⟨11,[.tmp 2],Zq [Zo 0 2 (.mov (.val (.int .u64 0)))] (Zq [Zm 0 3 0,Zo 1 4 (.nilck (Zt 3)),Zo 2 5 (.fieldA 0 (Zt 4)),Zo 3 6 (.fieldA 1 (Zt 5)),Zl 4 7 6,Zo 5 8 (.len (Zt 7)),Zo 6 9 (.bin .shl (.val (.int .u64 1)) (Zt 8)),Zo 7 10 (.bin .sub (Zt 9) (.val (.int .u64 1))),Zm 8 2 10] .ret)⟩
def af58:AFunc:=⟨34,[.cell 8 none],Zq [Zo 0 4 (.box (Zt 0)),Zo 1 5 (.box (Zt 1)),Zo 2 6 (.box (Zt 2)),Zo 3 7 (.box (Zt 3)),Zo 4 8 (.alloc [.nils])] (.seq (Zq [Zl 0 11 4,Zl 1 12 5,Zo 2 13 (Zc 102 [Zt 11,Zt 12])] (.block 0 (.rangeF (Zt 13) [14] (.ops [Zo 0 9 (.alloc [Zi 0,Zi 0,Zi 0]),Zs 1 (.store 3 (Zt 9) (Zt 14))]) (.block 1 (Zq [Zl 0 15 4,Zo 1 16 (.load (some 10) (Zt 6)),Zl 2 17 5,Zo 3 18 (.load (some 3) (Zt 9)),Zl 4 19 7,Zo 5 20 (.build [Zi 0,Zi 0,Zi 0,Zi 0,Zi 0,Zi 0,Zi 0,Zi 0,Zi 0,Zi 0,Zi 0,Zi 0,Zi 0,Zi 0,.int .u64 0] [(0,(10,Zt 16)),(10,(1,Zt 17)),(11,(3,Zt 18)),(14,(1,Zt 19))]),Zo 6 21 (Zc 103 [Zt 15,Zt 20]),Zo 7 10 (.alloc [Zi 0,Zi 0]),Zs 8 (.store 2 (Zt 10) (Zt 21))] (Zq [Zo 0 22 (.fieldA 0 (Zt 10)),Zl 1 23 22,Zo 2 24 (.fieldA 1 (Zt 10)),Zl 3 25 24,Zo 4 26 (.bin .leq (Zt 23) (Zt 25))] (.cond (Zt 26) (.ops [Zl 0 27 8,Zo 1 28 (.load (some 3) (Zt 9)),Zo 2 29 (.load (some 2) (Zt 10)),Zo 3 30 (.build [Zi 0,Zi 0,Zi 0,Zi 0,Zi 0] [(0,(3,Zt 28)),(3,(2,Zt 29))]),Zo 4 31 (.buildSl 5 1 [Zi 0,Zi 0,Zi 0,Zi 0,Zi 0] [(0,Zt 30)]),Zo 5 32 (.append 5 (Zt 27) (Zt 31)),Zs 6 (.store 1 (Zt 8) (Zt 32))]) .skip))))))) (Zq [Zl 0 33 8,Zs 1 (.store 1 (Zt 8) (Zt 33))] .ret))⟩
def af59 : AFunc := ⟨37,[.tmp 10],Zq [Zo 0 6 (.box (Zt 1)),Zo 1 8 (.box (Zt 3)),Zo 2 10 (.mov (Zn 0))] (.seq (Zq [Zm 0 13 0,Zo 1 14 (.nilck (Zt 13)),Zo 2 15 (.fieldA 2 (Zt 14)),Zl 3 16 15,Zm 4 17 4,Zo 5 18 (.slice 1 (Zt 16) none (some (Zt 17))),Zo 6 19 (.len (Zt 18)),Zo 7 20 (.mov (Zn 0))] (.block 0 (.loop [2,6,8,18,19,20] (Zq [Zo 0 21 (.bin .lss (Zt 20) (Zt 19))] (.seq (.cond (Zt 21) .skip (.exit 0)) (.seq (.block 1 (Zq [Zm 0 22 20,Zo 1 23 (.indexA 1 none (Zt 18) (Zt 20)),Zl 2 24 23,Zm 3 11 22,Zm 4 12 24] (.draw [Zm 0 25 12,Zo 1 26 (.load (some 3) (Zt 6)),Zm 2 27 2,Zm 3 28 11,Zd 4 29 8 (.indexA 1 (some 10) (Zt 8) (Zt 28)),Zd 5 30 24 (.load none (Zt 29)),Zd 6 31 1 (.mkfn (Fn.method "bogworks/road.after") [Zt 25] []),Zd 7 32 65 (.nilckM "bogworks/road.after" [126,124,123] (Zt 31)),Zd 8 33 193 (.mov (Zt 25)),Zd 9 34 511 (.invoke (Zt 33) [(126,141),(124,140),(123,139)] [Zt 26,Zt 27,Zt 30]),Zd 10 2 1023 (.mov (Zt 34))]))) (.ops [Zo 0 35 (.bin .add (Zt 20) (Zn 1)),Zm 1 20 35]))))))) (Zq [Zm 0 36 2,Zm 1 10 36] .ret))⟩
def af60:AFunc:=⟨54,[.tmp 10],Zq [Zo 0 5 (.box (Zt 0)),Zo 1 7 (.box (Zt 2)),Zo 2 10 (.mov (Zn 0))] (Zq [Zo 0 14 (.fieldA 0 (Zt 7)),Zl 1 15 14,Zm 2 11 15] (.seq (Zq [Zo 0 12 (.mov (Zn 0))] (.block 0 (.loop [1,3,4,5,7,11,12] (.seq (Zq [Zm 0 16 12,Zm 1 17 4,Zo 2 18 (.bin .lss (Zt 16) (Zt 17))] (.cond (Zt 18) .skip (.exit 0))) (.seq (.block 1 (Zq [Zo 0 21 (.fieldA 1 (Zt 5)),Zl 1 22 21,Zm 2 23 12,Zo 3 24 (.indexA 7 none (Zt 22) (Zt 23)),Zo 4 25 (.load (some 7) (Zt 24)),Zo 5 13 (.alloc [Zi 0,Zi 0,Zi 0,Zi 0,Zi 0,Zi 0,Zi 0]),Zs 6 (.store 7 (Zt 13) (Zt 25))] (.seq (Zq [Zo 0 26 (.fieldA 0 (Zt 13)),Zl 1 27 26,Zo 2 28 (.bin .eql (Zt 27) (Zn 0))] (.cond (Zt 28) (.draw [Zm 0 29 11,Zm 1 30 3,Zm 2 31 12,Zd 3 32 6 (.indexA 1 none (Zt 30) (Zt 31)),Zd 4 33 14 (.load none (Zt 32)),Zo 5 34 (.fieldA 1 (Zt 7)),Zd 6 35 32 (.load none (Zt 34)),Zd 7 36 126 (Zc 47 [Zt 33,Zt 35]),Zd 8 37 255 (.bin .sub (Zt 29) (Zt 36)),Zd 9 11 511 (.mov (Zt 37))]) .skip)) (Zq [Zo 0 38 (.fieldA 0 (Zt 13)),Zl 1 39 38,Zo 2 40 (.bin .eql (Zt 39) (Zn 1))] (.cond (Zt 40) (.draw [Zm 0 41 11,Zo 1 42 (.fieldA 3 (Zt 13)),Zd 2 43 2 (.load none (Zt 42)),Zo 3 44 (.fieldA 2 (Zt 7)),Zd 4 45 8 (.load none (Zt 44)),Zo 5 46 (.fieldA 0 (Zt 5)),Zd 6 47 32 (.load none (Zt 46)),Zm 7 48 1,Zd 8 49 224 (.indexA 7 none (Zt 47) (Zt 48)),Zd 9 50 480 (.fieldA 6 (Zt 49)),Zd 10 51 992 (.load none (Zt 50)),Zd 11 52 2047 (Zc 104 [Zt 41,Zt 43,Zt 45,Zt 51]),Zd 12 11 4095 (.mov (Zt 52))]) .skip))))) (.ops [Zm 0 19 12,Zo 1 20 (.bin .add (Zt 19) (Zn 1)),Zm 2 12 20])))))) (Zq [Zm 0 53 11,Zm 1 10 53] .ret)))⟩
def af61:AFunc:=⟨13,[.tmp 2],Zq [Zo 0 2 (.mov (Zn 0))] (Zq [Zo 0 3 (.mov (Zn 1))] (.seq (Zq [Zo 0 4 (.mov (Zn 0))] (.block 0 (.loop [0,3,4] (.seq (Zq [Zm 0 5 4,Zm 1 6 0,Zo 2 7 (.bin .lss (Zt 5) (Zt 6))] (.cond (Zt 7) .skip (.exit 0))) (.seq (.block 1 (.ops [Zm 0 10 3,Zo 1 11 (.bin .mul (Zn 2) (Zt 10)),Zm 2 3 11])) (.ops [Zm 0 8 4,Zo 1 9 (.bin .add (Zt 8) (Zn 1)),Zm 2 4 9])))))) (Zq [Zm 0 12 3,Zm 1 2 12] .ret)))⟩
def af62:AFunc:=⟨87,[.tmp 2],Zq [Zo 0 1 (.box (Zt 0)),Zo 1 2 (.mov (.val (.bool false)))] (.seq (Zq [Zo 0 8 (.fieldA 0 (Zt 1)),Zl 1 9 8,Zo 2 10 (.len (Zt 9)),Zo 3 11 (Zc 93 [Zt 10,Zn 1,Zn 4]),Zo 4 12 (.not (Zt 11)),Zm 5 13 12,⟨6,some 14,.fieldA 1 (Zt 1),some (13,false),0⟩,⟨7,some 15,.load none (Zt 14),some (13,false),0⟩,⟨8,some 16,.len (Zt 15),some (13,false),0⟩,⟨9,some 17,.bin .gtr (Zt 16) (Zn 10),some (13,false),0⟩,Zo 10 18 (.pick (Zt 13) (.val (.bool true)) (Zt 17))] (.cond (Zt 18) (Zq [Zo 0 2 (.mov (.val (.bool false)))] .ret) .skip)) (.seq (Zq [Zo 0 3 (.mov (Zn 0))] (.block 0 (.loop [1,3] (.seq (Zq [Zm 0 19 3,Zo 1 20 (.fieldA 0 (Zt 1)),Zl 2 21 20,Zo 3 22 (.len (Zt 21)),Zo 4 23 (.bin .lss (Zt 19) (Zt 22))] (.cond (Zt 23) .skip (.exit 0))) (.seq (.block 1 (Zq [Zo 0 26 (.fieldA 0 (Zt 1)),Zl 1 27 26,Zm 2 28 3,Zo 3 29 (.indexA 7 none (Zt 27) (Zt 28)),Zo 4 30 (.load (some 7) (Zt 29)),Zo 5 4 (.alloc [Zi 0,Zi 0,Zi 0,Zi 0,Zi 0,Zi 0,Zi 0]),Zs 6 (.store 7 (Zt 4) (Zt 30))] (Zq [Zo 0 31 (.fieldA 6 (Zt 4)),Zl 1 32 31,Zo 2 33 (Zc 93 [Zt 32,Zn 0,Zn 60]),Zo 3 34 (.not (Zt 33)),Zm 4 35 34,⟨5,some 36,.fieldA 0 (Zt 4),some (35,false),0⟩,⟨6,some 37,.load (some 2) (Zt 36),some (35,false),0⟩,⟨7,some 38,.fieldA 6 (Zt 4),some (35,false),0⟩,⟨8,some 39,.load none (Zt 38),some (35,false),0⟩,⟨9,some 40,Zc 105 [Zt 37,Zn 0,Zt 39,Zn 2],some (35,false),0⟩,⟨10,some 41,.not (Zt 40),some (35,false),0⟩,Zo 11 42 (.pick (Zt 35) (.val (.bool true)) (Zt 41)),Zm 12 43 42,⟨13,some 44,.fieldA 2 (Zt 4),some (43,false),0⟩,⟨14,some 45,.load (some 2) (Zt 44),some (43,false),0⟩,⟨15,some 46,Zc 105 [Zt 45,Zn 1,Zn 10,Zn 2],some (43,false),0⟩,⟨16,some 47,.not (Zt 46),some (43,false),0⟩,Zo 17 48 (.pick (Zt 43) (.val (.bool true)) (Zt 47)),Zm 18 49 48,⟨19,some 50,.fieldA 4 (Zt 4),some (49,false),0⟩,⟨20,some 51,.load (some 2) (Zt 50),some (49,false),0⟩,⟨21,some 52,Zc 105 [Zt 51,Zn 0,Zn 5,Zn 2],some (49,false),0⟩,⟨22,some 53,.not (Zt 52),some (49,false),0⟩,Zo 23 54 (.pick (Zt 49) (.val (.bool true)) (Zt 53))] (.cond (Zt 54) (Zq [Zo 0 2 (.mov (.val (.bool false)))] .ret) .skip)))) (.ops [Zm 0 24 3,Zo 1 25 (.bin .add (Zt 24) (Zn 1)),Zm 2 3 25])))))) (Zq [Zo 0 5 (.mov (Zn 0))] (.seq (Zq [Zo 0 6 (.mov (Zn 0))] (.block 2 (.loop [1,5,6] (.seq (Zq [Zm 0 55 6,Zo 1 56 (.fieldA 1 (Zt 1)),Zl 2 57 56,Zo 3 58 (.len (Zt 57)),Zo 4 59 (.bin .lss (Zt 55) (Zt 58))] (.cond (Zt 59) .skip (.exit 2))) (.seq (.block 3 (Zq [Zo 0 62 (.fieldA 1 (Zt 1)),Zl 1 63 62,Zm 2 64 6,Zo 3 65 (.indexA 7 none (Zt 63) (Zt 64)),Zo 4 66 (.load (some 7) (Zt 65)),Zo 5 7 (.alloc [Zi 0,Zi 0,Zi 0,Zi 0,Zi 0,Zi 0,Zi 0]),Zs 6 (.store 7 (Zt 7) (Zt 66))] (.seq (Zq [Zo 0 67 (.load (some 2) (Zt 1)),Zo 1 68 (.load (some 7) (Zt 7)),Zo 2 69 (Zc 106 [Zt 67,Zt 68]),Zo 3 70 (.not (Zt 69))] (.cond (Zt 70) (Zq [Zo 0 2 (.mov (.val (.bool false)))] .ret) .skip)) (Zq [Zo 0 71 (.fieldA 0 (Zt 7)),Zl 1 72 71,Zo 2 73 (.bin .eql (Zt 72) (Zn 0)),Zm 3 74 73,⟨4,some 75,.fieldA 1 (Zt 7),some (74,true),0⟩,⟨5,some 76,.fieldA 0 (Zt 75),some (74,true),0⟩,⟨6,some 77,.load none (Zt 76),some (74,true),0⟩,⟨7,some 78,.fieldA 1 (Zt 7),some (74,true),0⟩,⟨8,some 79,.fieldA 1 (Zt 78),some (74,true),0⟩,⟨9,some 80,.load none (Zt 79),some (74,true),0⟩,⟨10,some 81,.bin .lss (Zt 77) (Zt 80),some (74,true),0⟩,Zo 11 82 (.pick (Zt 74) (Zt 81) (.val (.bool false)))] (.cond (Zt 82) (.ops [Zm 0 83 5,Zo 1 84 (.bin .add (Zt 83) (Zn 1)),Zm 2 5 84]) .skip))))) (.ops [Zm 0 60 6,Zo 1 61 (.bin .add (Zt 60) (Zn 1)),Zm 2 6 61])))))) (Zq [Zm 0 85 5,Zo 1 86 (.bin .leq (Zt 85) (Zn 4)),Zm 2 2 86] .ret)))))⟩
def af63:AFunc:=⟨3,[],.cond (.val .nilp) .skip .skip⟩
def af64:AFunc:=⟨15,[.cell 4 none],Zq [Zo 0 3 (.box (Zt 1)),Zo 1 4 (.alloc [Zi 0])] (.seq (Zq [Zm 0 6 0] (.block 0 (.rangeF (Zt 6) [7] (.ops [Zm 0 5 7]) (.block 1 (Zq [Zo 0 8 (.fieldA 0 (Zt 3)),Zl 1 9 8,Zm 2 10 5,Zo 3 11 (.call (Zt 9) [Zt 10])] (.cond (Zt 11) (Zq [Zm 0 12 5,Zs 1 (.store 1 (Zt 4) (Zt 12))] .ret) .skip)))))) (Zq [Zo 0 13 (Zc 72 [.val (.bool false),Zn 4])] (Zq [Zl 0 14 4,Zs 1 (.store 1 (Zt 4) (Zt 14))] .ret)))⟩
def af65:AFunc:=⟨6,[.tmp 4],Zq [Zo 0 2 (.box (Zt 0)),Zo 1 3 (.box (Zt 1)),Zo 2 4 (.mov (.val .nilfn))] (Zq [Zo 0 5 (.mkfn (Fn.func 107) [] [Zt 3,Zt 2]),Zm 1 4 5] .ret)⟩
def af66:AFunc:=⟨7,[.tmp 3],Zq [Zo 0 3 (.mov (.val (.bool false)))] (Zq [Zl 0 4 1,Zm 1 5 0,Zo 2 6 (Zc 51 [Zt 4,Zn 0,Zt 5]),Zm 3 3 6] .ret)⟩
def af67:AFunc:=⟨3,[],.cond (.val .nilp) .skip .skip⟩
def af68:AFunc:=⟨6,[.tmp 3],Zq [Zo 0 3 (.mov (.val (.bool false)))] (Zq [Zl 0 4 1,Zo 1 5 (Zc 43 [Zt 4]),Zm 2 3 5] .ret)⟩
def af69:AFunc:=⟨9,[.tmp 4],Zq [Zo 0 4 (.mov (.val (.bool false)))] (Zq [Zl 0 5 1,Zm 1 6 0,Zl 2 7 2,Zo 3 8 (Zc 51 [Zt 5,Zt 6,Zt 7]),Zm 4 4 8] .ret)⟩
def af70:AFunc:=⟨3,[],.cond (.val .nilp) .skip .skip⟩
def af71:AFunc:=⟨3,[],.cond (.val .nilp) .skip .skip⟩
def af72:AFunc:=⟨9,[],Zq [Zm 0 4 0,Zo 1 5 (.not (Zt 4))] (.cond (Zt 5) (.ops [Zm 0 6 1,Zo 1 7 (.build [Zi 0] [(0,(1,Zt 6))]),Zo 2 8 (.iface 114 (Zt 7)),Zs 3 (.panic (Zt 8))]) .skip)⟩
def af73:AFunc:=⟨9,[.cell 4 none],Zq [Zo 0 4 (.alloc [.bool false])] (.seq (Zq [Zm 0 5 0,Zm 1 6 1,Zo 2 7 (Zc 56 [Zt 5,Zt 6])] (.block 0 (.rangeF (Zt 7) [8] .skip (.block 1 (Zq [Zs 0 (.store 1 (Zt 4) (.val (.bool true)))] .ret))))) (Zq [Zs 0 (.store 1 (Zt 4) (.val (.bool false)))] .ret))⟩
def af74:AFunc:=⟨29,[.tmp 4],Zq [Zo 0 4 (.mov (.val (.bool false)))] (.seq (Zq [Zm 0 7 0,Zo 1 8 (.nilck (Zt 7)),Zo 2 9 (.fieldA 0 (Zt 8)),Zo 3 10 (.fieldA 1 (Zt 9)),Zl 4 11 10,Zo 5 12 (.len (Zt 11)),Zo 6 13 (.mov (Zn 0))] (.block 0 (.loop [1,11,12,13] (Zq [Zo 0 14 (.bin .lss (Zt 13) (Zt 12))] (.seq (.cond (Zt 14) .skip (.exit 0)) (.seq (.block 1 (Zq [Zm 0 15 13,Zo 1 16 (.indexA 7 none (Zt 11) (Zt 13)),Zo 2 17 (.load (some 7) (Zt 16)),Zo 3 6 (.alloc [Zi 0,Zi 0,Zi 0,Zi 0,Zi 0,Zi 0,Zi 0]),Zm 4 5 15,Zs 5 (.store 7 (Zt 6) (Zt 17))] (Zq [Zm 0 18 1,Zm 1 19 5,Zo 2 20 (.bin .shr (Zt 18) (Zt 19)),Zo 3 21 (.bin .and (Zt 20) (.val (.int .u64 1))),Zo 4 22 (.bin .eql (Zt 21) (.val (.int .u64 1))),Zm 5 23 22,⟨6,some 24,.fieldA 0 (Zt 6),some (23,true),0⟩,⟨7,some 25,.load none (Zt 24),some (23,true),0⟩,⟨8,some 26,.bin .neq (Zt 25) (Zn 2),some (23,true),0⟩,Zo 9 27 (.pick (Zt 23) (Zt 26) (.val (.bool false)))] (.cond (Zt 27) (Zq [Zo 0 4 (.mov (.val (.bool false)))] .ret) .skip)))) (.ops [Zo 0 28 (.bin .add (Zt 13) (Zn 1)),Zm 1 13 28]))))))) (Zq [Zo 0 4 (.mov (.val (.bool true)))] .ret))⟩
def af75:AFunc:=⟨9,[],.ops [Zm 0 4 0,Zm 1 5 0,Zo 2 6 (.len (Zt 5)),Zm 3 7 1,Zo 4 8 (Zc 108 [Zt 4,Zt 6,Zt 7])]⟩
def af76:AFunc:=⟨10,[.tmp 4],Zq [Zo 0 4 (.mov (Zn 0))] (Zq [Zm 0 5 0,Zo 1 6 (Zc 77 [Zt 5]),Zm 2 7 1,Zo 3 8 (Zc 77 [Zt 7]),Zo 4 9 (.bin .sub (Zt 6) (Zt 8)),Zm 5 4 9] .ret)⟩
def af77:AFunc:=⟨8,[.tmp 2],Zq [Zo 0 2 (.mov (Zn 0))] (.seq (.cond (.val (.bool false)) (Zq [Zm 0 3 0,Zo 1 4 (.conv .u32 (Zt 3)),Zo 2 5 (Zc 109 [Zt 4]),Zm 3 2 5] .ret) .skip) (Zq [Zm 0 6 0,Zo 1 7 (Zc 110 [Zt 6]),Zm 2 2 7] .ret))⟩
def af78:AFunc:=⟨15,[.cell 4 none],Zq [Zo 0 3 (.box (Zt 1)),Zo 1 4 (.alloc [.int .u64 0])] (.seq (Zq [Zm 0 6 0] (.block 0 (.rangeF (Zt 6) [7] (.ops [Zm 0 5 7]) (.block 1 (Zq [Zo 0 8 (.fieldA 0 (Zt 3)),Zl 1 9 8,Zm 2 10 5,Zo 3 11 (.call (Zt 9) [Zt 10])] (.cond (Zt 11) (Zq [Zm 0 12 5,Zs 1 (.store 1 (Zt 4) (Zt 12))] .ret) .skip)))))) (Zq [Zo 0 13 (Zc 72 [.val (.bool false),Zn 4])] (Zq [Zl 0 14 4,Zs 1 (.store 1 (Zt 4) (Zt 14))] .ret)))⟩
def af79:AFunc:=⟨4,[.tmp 2],Zq [Zo 0 1 (.box (Zt 0)),Zo 1 2 (.mov (.val .nilfn))] (Zq [Zo 0 3 (.mkfn (Fn.func 111) [] [Zt 1]),Zm 1 2 3] .ret)⟩
def af80:AFunc:=⟨8,[.tmp 3],Zq [Zo 0 3 (.mov (.val (.bool false)))] (Zq [Zl 0 4 1,Zm 1 5 0,Zo 2 6 (Zc 73 [Zt 4,Zt 5]),Zo 3 7 (.not (Zt 6)),Zm 4 3 7] .ret)⟩
def af81:AFunc:=⟨10,[.tmp 4],Zq [Zo 0 2 (.box (Zt 0)),Zo 1 4 (.mov (Zn 0))] (.seq (Zq [Zo 0 5 (.load (some 2) (Zt 2)),Zo 1 6 (Zc 62 [Zt 5]),Zo 2 7 (.not (Zt 6))] (.cond (Zt 7) (Zq [Zo 0 4 (.mov (Zn 1))] .ret) .skip)) (.seq (Zq [Zm 0 8 1,Zo 1 9 (.not (Zt 8))] (.cond (Zt 9) (Zq [Zo 0 4 (.mov (Zn 2))] .ret) .skip)) (Zq [Zo 0 4 (.mov (Zn 0))] .ret)))⟩
def af82:AFunc:=⟨7,[.tmp 2],Zq [Zo 0 1 (.box (Zt 0)),Zo 1 2 (.mov (.val .nils))] (.seq (.draw [Zo 0 3 (.load (some 2) (Zt 1)),Zo 1 4 (.load (some 2) (Zt 1)),Zd 2 5 2 (Zc 83 [Zt 4]),Zd 3 6 7 (Zc 86 [Zt 3,Zt 5]),Zd 4 2 15 (.mov (Zt 6))]) .ret)⟩
def af83:AFunc:=⟨8,[.tmp 2],Zq [Zo 0 1 (.box (Zt 0)),Zo 1 2 (.mov (Zn 0))] (Zq [Zo 0 3 (.fieldA 1 (Zt 1)),Zl 1 4 3,Zo 2 5 (.len (Zt 4)),Zo 3 6 (Zc 61 [Zt 5]),Zo 4 7 (.bin .sub (Zt 6) (Zn 1)),Zm 5 2 7] .ret)⟩
def af84:AFunc:=⟨11,[.tmp 4],Zq [Zo 0 4 (.mov (.val (.bool false)))] (Zq [Zm 0 5 0,Zm 1 6 1,Zo 2 7 (Zc 61 [Zt 6]),Zo 3 8 (.bin .quo (Zt 5) (Zt 7)),Zo 4 9 (.bin .rem (Zt 8) (Zn 2)),Zo 5 10 (.bin .eql (Zt 9) (Zn 1)),Zm 6 4 10] .ret)⟩
def af85:AFunc:=⟨13,[.tmp 2],Zq [Zo 0 2 (.mov (Zn 0))] (Zq [Zo 0 3 (.mov (Zn 0))] (.seq (.block 0 (.loop [0,3] (.seq (Zq [Zm 0 4 0,Zo 1 5 (.bin .gtr (Zt 4) (Zn 0))] (.cond (Zt 5) .skip (.exit 0))) (.block 1 (.ops [Zm 0 6 3,Zm 1 7 0,Zo 2 8 (.bin .rem (Zt 7) (Zn 2)),Zo 3 9 (.bin .add (Zt 6) (Zt 8)),Zm 4 10 0,Zo 5 11 (.bin .quo (Zt 10) (Zn 2)),Zm 6 3 9,Zm 7 0 11]))))) (Zq [Zm 0 12 3,Zm 1 2 12] .ret)))⟩
def af86:AFunc:=⟨58,[.tmp 4],Zq [Zo 0 2 (.box (Zt 0)),Zo 1 4 (.mov (.val .nils))] (Zq [Zo 0 12 (.load (some 2) (Zt 2)),Zo 1 13 (Zc 112 [Zt 12,.val .nils,.val .nils]),Zm 2 5 13] (Zq [Zo 0 6 (.mov (.val .nils))] (.seq (Zq [Zo 0 7 (.mov (Zn 0))] (.block 0 (.loop [1,2,5,6,7] (.seq (Zq [Zm 0 14 7,Zm 1 15 5,Zo 2 16 (.len (Zt 15)),Zo 3 17 (.bin .lss (Zt 14) (Zt 16))] (.cond (Zt 17) .skip (.exit 0))) (.seq (.block 1 (Zq [Zm 0 20 5,Zm 1 21 7,Zo 2 22 (.indexA 1 none (Zt 20) (Zt 21)),Zl 3 23 22,Zo 4 24 (.build [.nils,.nils] [(0,(1,Zt 23))]),Zo 5 8 (.alloc [.nils,.nils]),Zs 6 (.store 2 (Zt 8) (Zt 24))] (Zq [Zo 0 9 (.mov (.val (.bool true)))] (.seq (Zq [Zo 0 10 (.mov (Zn 0))] (.block 2 (.loop [1,2,5,6,7,8,9,10] (.seq (Zq [Zm 0 25 10,Zo 1 26 (.fieldA 0 (Zt 2)),Zl 2 27 26,Zo 3 28 (.len (Zt 27)),Zo 4 29 (.bin .lss (Zt 25) (Zt 28))] (.cond (Zt 29) .skip (.exit 2))) (.seq (.block 3 (.seq (.draw [Zo 0 32 (.load (some 2) (Zt 2)),Zm 1 33 10,Zm 2 34 5,Zm 3 35 7,Zd 4 36 12 (.indexA 1 none (Zt 34) (Zt 35)),Zd 5 37 28 (.load none (Zt 36)),Zm 6 38 1,Zd 7 39 127 (Zc 113 [Zt 32,Zt 33,Zt 37,Zt 38]),Zd 8 11 255 (.mov (Zt 39))]) (Zq [Zm 0 40 9,Zm 1 41 40,⟨2,some 42,.mov (Zt 11),some (41,true),0⟩,⟨3,some 43,.len (Zt 42),some (41,true),0⟩,⟨4,some 44,.bin .gtr (Zt 43) (Zn 0),some (41,true),0⟩,Zo 5 45 (.pick (Zt 41) (Zt 44) (.val (.bool false))),Zm 6 9 45] (.ops [Zo 0 46 (.fieldA 1 (Zt 8)),Zl 1 47 46,Zm 2 48 11,Zo 3 49 (.buildSl 1 1 [.nils] [(0,Zt 48)]),Zo 4 50 (.append 1 (Zt 47) (Zt 49)),Zo 5 51 (.fieldA 1 (Zt 8)),Zs 6 (.store 1 (Zt 51) (Zt 50))])))) (.ops [Zm 0 30 10,Zo 1 31 (.bin .add (Zt 30) (Zn 1)),Zm 2 10 31])))))) (Zq [Zm 0 52 9] (.cond (Zt 52) (.ops [Zm 0 53 6,Zo 1 54 (.load (some 2) (Zt 8)),Zo 2 55 (.buildSl 2 1 [.nils,.nils] [(0,Zt 54)]),Zo 3 56 (.append 2 (Zt 53) (Zt 55)),Zm 4 6 56]) .skip)))))) (.ops [Zm 0 18 7,Zo 1 19 (.bin .add (Zt 18) (Zn 1)),Zm 2 7 19])))))) (Zq [Zm 0 57 6,Zm 1 4 57] .ret))))⟩
def af87:AFunc:=⟨9,[.cell 4 (some 7)],Zq [Zo 0 4 (.alloc [Zi 0,Zi 0,Zi 0,Zi 0,Zi 0,Zi 0,Zi 0])] (Zq [Zm 0 5 0,Zm 1 6 1,Zo 2 7 (Zc 27 [Zt 5,Zt 6]),Zo 3 8 (.build [Zi 0,Zi 0,Zi 0,Zi 0,Zi 0,Zi 0,Zi 0] [(0,(1,Zn 0)),(1,(2,Zt 7))]),Zs 4 (.store 7 (Zt 4) (Zt 8))] .ret)⟩
def af88:AFunc:=⟨5,[.cell 2 (some 7)],Zq [Zo 0 2 (.alloc [Zi 0,Zi 0,Zi 0,Zi 0,Zi 0,Zi 0,Zi 0])] (Zq [Zm 0 3 0,Zo 1 4 (.build [Zi 0,Zi 0,Zi 0,Zi 0,Zi 0,Zi 0,Zi 0] [(0,(1,Zn 1)),(3,(1,Zt 3))]),Zs 2 (.store 7 (Zt 2) (Zt 4))] .ret)⟩
def af89:AFunc:=⟨12,[.cell 6 (some 7)],Zq [Zo 0 6 (.alloc [Zi 0,Zi 0,Zi 0,Zi 0,Zi 0,Zi 0,Zi 0])] (Zq [Zm 0 7 0,Zm 1 8 1,Zm 2 9 2,Zo 3 10 (Zc 27 [Zt 8,Zt 9]),Zo 4 11 (.build [Zi 0,Zi 0,Zi 0,Zi 0,Zi 0,Zi 0,Zi 0] [(0,(1,Zn 2)),(4,(1,Zt 7)),(5,(2,Zt 10))]),Zs 5 (.store 7 (Zt 6) (Zt 11))] .ret)⟩
def af90:AFunc:=⟨35,[.tmp 8],Zq [Zo 0 4 (.box (Zt 0)),Zo 1 8 (.mov (.val (.bool false)))] (Zq [Zm 0 9 1,Zo 1 10 (.fieldA 0 (Zt 4)),Zl 2 11 10,Zo 3 12 (.bin .leq (Zt 9) (Zt 11)),Zm 4 13 12,⟨5,some 14,.fieldA 0 (Zt 4),some (13,true),0⟩,⟨6,some 15,.load none (Zt 14),some (13,true),0⟩,⟨7,some 16,.fieldA 1 (Zt 4),some (13,true),0⟩,⟨8,some 17,.load none (Zt 16),some (13,true),0⟩,⟨9,some 18,.bin .leq (Zt 15) (Zt 17),some (13,true),0⟩,Zo 10 19 (.pick (Zt 13) (Zt 18) (.val (.bool false))),Zm 11 20 19,⟨12,some 21,.fieldA 1 (Zt 4),some (20,true),0⟩,⟨13,some 22,.load none (Zt 21),some (20,true),0⟩,⟨14,some 23,.mov (Zt 2),some (20,true),0⟩,⟨15,some 24,.bin .leq (Zt 22) (Zt 23),some (20,true),0⟩,Zo 16 25 (.pick (Zt 20) (Zt 24) (.val (.bool false))),Zm 17 26 25,⟨18,some 27,.fieldA 1 (Zt 4),some (26,true),0⟩,⟨19,some 28,.load none (Zt 27),some (26,true),0⟩,⟨20,some 29,.fieldA 0 (Zt 4),some (26,true),0⟩,⟨21,some 30,.load none (Zt 29),some (26,true),0⟩,⟨22,some 31,.bin .sub (Zt 28) (Zt 30),some (26,true),0⟩,⟨23,some 32,.mov (Zt 3),some (26,true),0⟩,⟨24,some 33,.bin .leq (Zt 31) (Zt 32),some (26,true),0⟩,Zo 25 34 (.pick (Zt 26) (Zt 33) (.val (.bool false))),Zm 26 8 34] .ret)⟩
def af91:AFunc:=⟨15,[.tmp 6],Zq [Zo 0 6 (.mov (.val (.bool false)))] (Zq [Zm 0 7 1,Zm 1 8 0,Zo 2 9 (.bin .leq (Zt 7) (Zt 8)),Zm 3 10 9,⟨4,some 11,.mov (Zt 0),some (10,true),0⟩,⟨5,some 12,.mov (Zt 2),some (10,true),0⟩,⟨6,some 13,.bin .leq (Zt 11) (Zt 12),some (10,true),0⟩,Zo 7 14 (.pick (Zt 10) (Zt 13) (.val (.bool false))),Zm 8 6 14] .ret)⟩
def af92:AFunc:=⟨26,[.cell 6 (some 2)],Zq [Zo 0 4 (.box (Zt 0)),Zo 1 5 (.box (Zt 1)),Zo 2 6 (.alloc [Zi 0,Zi 0])] (.seq (.draw [Zl 0 7 2,Zo 1 8 (.fieldA 0 (Zt 4)),Zd 2 9 2 (.load (some 3) (Zt 8)),Zo 3 10 (.fieldA 3 (Zt 4)),Zd 4 11 8 (.fieldA 0 (Zt 10)),Zd 5 12 24 (.load none (Zt 11)),Zo 6 13 (.load (some 10) (Zt 5)),Zl 7 14 3,Zl 9 16 2,Zo 10 17 (.fieldA 0 (Zt 4)),Zd 11 18 1024 (.load (some 3) (Zt 17)),Zo 12 19 (.fieldA 3 (Zt 4)),Zd 13 20 4096 (.fieldA 1 (Zt 19)),Zd 14 21 12288 (.load none (Zt 20)),Zo 15 22 (.load (some 10) (Zt 5)),Zl 16 23 3,Zd 8 15 255 (Zc 59 [Zt 7,Zt 9,Zt 12,Zt 13,Zt 14]),Zd 17 24 131071 (Zc 59 [Zt 16,Zt 18,Zt 21,Zt 22,Zt 23]),Zd 18 25 262143 (.build [Zi 0,Zi 0] [(0,(1,Zt 15)),(1,(1,Zt 24))]),Ze 19 524287 (.store 2 (Zt 6) (Zt 25))]) .ret)⟩
def af93:AFunc:=⟨15,[.tmp 6],Zq [Zo 0 6 (.mov (.val (.bool false)))] (Zq [Zm 0 7 1,Zm 1 8 0,Zo 2 9 (.bin .leq (Zt 7) (Zt 8)),Zm 3 10 9,⟨4,some 11,.mov (Zt 0),some (10,true),0⟩,⟨5,some 12,.mov (Zt 2),some (10,true),0⟩,⟨6,some 13,.bin .leq (Zt 11) (Zt 12),some (10,true),0⟩,Zo 7 14 (.pick (Zt 10) (Zt 13) (.val (.bool false))),Zm 8 6 14] .ret)⟩
def af94:AFunc:=⟨28,[.cell 2 (some 2)],Zq [Zo 0 2 (.alloc [Zi 0,Zi 0])] (.seq (Zq [Zm 0 5 0,Zo 1 6 (.len (Zt 5)),Zo 2 7 (.mov (Zn 0))] (.block 0 (.loop [2,5,6,7] (Zq [Zo 0 8 (.bin .lss (Zt 7) (Zt 6))] (.seq (.cond (Zt 8) .skip (.exit 0)) (.seq (.block 1 (Zq [Zm 0 9 7,Zo 1 10 (.indexA 2 none (Zt 5) (Zt 7)),Zo 2 11 (.load (some 2) (Zt 10)),Zo 3 4 (.alloc [Zi 0,Zi 0]),Zm 4 3 9,Zs 5 (.store 2 (Zt 4) (Zt 11))] (.seq (Zq [Zm 0 12 3,Zo 1 13 (.bin .eql (Zt 12) (Zn 0))] (.cond (Zt 13) (.ops [Zo 0 14 (.load (some 2) (Zt 4)),Zs 1 (.store 2 (Zt 2) (Zt 14))]) .skip)) (.ops [Zo 0 15 (.fieldA 0 (Zt 2)),Zl 1 16 15,Zo 2 17 (.fieldA 0 (Zt 4)),Zl 3 18 17,Zo 4 19 (.min [Zt 16,Zt 18]),Zo 5 20 (.fieldA 1 (Zt 2)),Zl 6 21 20,Zo 7 22 (.fieldA 1 (Zt 4)),Zl 8 23 22,Zo 9 24 (.max [Zt 21,Zt 23]),Zo 10 25 (.build [Zi 0,Zi 0] [(0,(1,Zt 19)),(1,(1,Zt 24))]),Zs 11 (.store 2 (Zt 2) (Zt 25))])))) (.ops [Zo 0 26 (.bin .add (Zt 7) (Zn 1)),Zm 1 7 26]))))))) (Zq [Zo 0 27 (.load (some 2) (Zt 2)),Zs 1 (.store 2 (Zt 2) (Zt 27))] .ret))⟩
def af95:AFunc:=⟨9,[.tmp 4],Zq [Zo 0 4 (.mov (.val (.bool false)))] (Zq [Zm 0 5 0,Zm 1 6 1,Zo 2 7 (Zc 114 [Zt 5,Zt 6]),Zo 3 8 (.bin .geq (Zt 7) (Zn 0)),Zm 4 4 8] .ret)⟩
def af96:AFunc:=⟨17,[.tmp 6],Zq [Zo 0 5 (.box (Zt 0)),Zo 1 6 (.mov (.val (.bool false)))] (Zq [Zl 0 7 1,Zo 1 8 (.load (some 5) (Zt 5)),Zo 2 9 (.fieldA 3 (Zt 5)),Zo 3 10 (.fieldA 0 (Zt 9)),Zl 4 11 10,Zo 5 12 (.load (some 10) (Zt 2)),Zl 6 13 3,Zl 7 14 4,Zo 8 15 (Zc 97 [Zt 7,Zt 8,Zt 11,Zt 12,Zt 13,Zt 14]),Zo 9 16 (.bin .lss (Zt 15) (Zn 0)),Zm 10 6 16] .ret)⟩
def af97:AFunc:=⟨36,[.tmp 12],Zq [Zo 0 7 (.box (Zt 1)),Zo 1 9 (.box (Zt 3)),Zo 2 12 (.mov (Zn 0))] (Zq [Zo 0 14 (.fieldA 0 (Zt 7)),Zo 1 15 (.load (some 3) (Zt 14)),Zo 2 16 (.mkfn (Fn.func 115) [Zt 15] []),Zm 3 13 16] (.seq (.draw [Zm 0 17 13,Zm 1 18 0,Zo 2 19 (.fieldA 0 (Zt 7)),Zd 3 20 4 (.load (some 3) (Zt 19)),Zm 4 21 2,Zo 5 22 (.load (some 10) (Zt 9)),Zm 6 23 0,Zd 7 24 64 (.nilck (Zt 23)),Zd 8 25 192 (.fieldA 2 (Zt 24)),Zd 9 26 448 (.load none (Zt 25)),Zd 10 27 960 (.len (Zt 26)),Zm 12 29 4,Zo 14 31 (.fieldA 0 (Zt 7)),Zd 15 32 16384 (.load (some 3) (Zt 31)),Zm 16 33 5,Zd 11 28 2046 (Zc 59 [Zt 18,Zt 20,Zt 21,Zt 22,Zt 27]),Zd 13 30 8191 (.call (Zt 17) [Zt 28,Zt 29]),Zd 17 34 131071 (Zc 41 [Zt 32,Zt 33]),Zd 18 35 262143 (.bin .sub (Zt 30) (Zt 34)),Zd 19 12 524287 (.mov (Zt 35))]) .ret))⟩
def af98:AFunc:=⟨15,[.tmp 5],Zq [Zo 0 4 (.box (Zt 0)),Zo 1 5 (.mov (.val (.bool false)))] (Zq [Zl 0 6 1,Zo 1 7 (.load (some 5) (Zt 4)),Zo 2 8 (.fieldA 3 (Zt 4)),Zo 3 9 (.fieldA 1 (Zt 8)),Zl 4 10 9,Zo 5 11 (.load (some 10) (Zt 2)),Zl 6 12 3,Zo 7 13 (Zc 97 [Zt 6,Zt 7,Zt 10,Zt 11,Zn 0,Zt 12]),Zo 8 14 (.bin .geq (Zt 13) (Zn 0)),Zm 9 5 14] .ret)⟩
def af99:AFunc:=⟨39,[.tmp 12],Zq [Zo 0 6 (.box (Zt 0)),Zo 1 8 (.box (Zt 2)),Zo 2 12 (.mov (.val (.bool false)))] (.seq (.draw [Zo 0 14 (.load (some 2) (Zt 6)),Zm 1 15 1,Zo 2 16 (.load (some 3) (Zt 8)),Zm 3 17 3,Zo 4 18 (.fieldA 1 (Zt 6)),Zd 5 19 16 (.load none (Zt 18)),Zd 6 20 48 (.len (Zt 19)),Zm 8 22 4,Zo 9 23 (.fieldA 2 (Zt 8)),Zd 10 24 512 (.load none (Zt 23)),Zo 11 25 (.fieldA 0 (Zt 6)),Zd 12 26 2048 (.load none (Zt 25)),Zm 13 27 1,Zd 14 28 14336 (.indexA 7 none (Zt 26) (Zt 27)),Zd 15 29 30720 (.fieldA 6 (Zt 28)),Zd 16 30 63488 (.load none (Zt 29)),Zd 7 21 127 (Zc 60 [Zt 14,Zt 15,Zt 16,Zt 17,Zt 20]),Zd 17 31 131071 (Zc 104 [Zt 21,Zt 22,Zt 24,Zt 30]),Zd 18 13 262143 (.mov (Zt 31))]) (Zq [Zm 0 32 13,Zm 1 33 5,Zo 2 34 (.fieldA 1 (Zt 8)),Zl 3 35 34,Zo 4 36 (Zc 47 [Zt 33,Zt 35]),Zo 5 37 (.bin .sub (Zt 32) (Zt 36)),Zo 6 38 (.bin .geq (Zt 37) (Zn 0)),Zm 7 12 38] .ret))⟩
def af100:AFunc:=⟨30,[],Zq [Zo 0 3 (.box (Zt 0))] (.seq .skip (Zq [Zl 0 6 1,Zo 1 7 (Zc 101 [Zt 6])] (.block 0 (.rangeF (Zt 7) [8] (.ops [Zo 0 4 (.alloc [Zi 0,Zi 0,Zi 0,Zi 0,Zi 0,Zi 0,Zi 0,Zi 0,Zi 0,Zi 0]),Zs 1 (.store 10 (Zt 4) (Zt 8))]) (.block 1 (.seq (Zq [Zl 0 9 1,Zo 1 10 (.nilck (Zt 9)),Zo 2 11 (.fieldA 0 (Zt 10)),Zo 3 12 (.fieldA 0 (Zt 11)),Zl 4 13 12,Zo 5 14 (.len (Zt 13)),Zo 6 15 (.mov (Zn 0))] (.block 2 (.loop [1,2,3,4,14,15] (Zq [Zo 0 16 (.bin .lss (Zt 15) (Zt 14))] (.seq (.cond (Zt 16) .skip (.exit 2)) (.seq (.block 3 (Zq [Zm 0 17 15,Zm 1 5 17] (Zq [Zl 0 18 1,Zm 1 19 5,Zo 2 20 (.load (some 10) (Zt 4)),Zl 3 21 2,Zo 4 22 (Zc 58 [Zt 18,Zt 19,Zt 20,Zt 21]),Zo 5 23 (.len (Zt 22)),Zo 6 24 (.bin .eql (Zt 23) (Zn 0))] (.cond (Zt 24) (.exit 1) .skip)))) (.ops [Zo 0 25 (.bin .add (Zt 15) (Zn 1)),Zm 1 15 25]))))))) (Zq [Zl 0 26 3,Zo 1 27 (.load (some 10) (Zt 4)),Zo 2 28 (.call (Zt 26) [Zt 27]),Zo 3 29 (.not (Zt 28))] (.cond (Zt 29) .ret .skip))))))))⟩
def af101:AFunc:=⟨4,[.tmp 2],Zq [Zo 0 1 (.box (Zt 0)),Zo 1 2 (.mov (.val .nilfn))] (Zq [Zo 0 3 (.mkfn (Fn.func 116) [] [Zt 1]),Zm 1 2 3] .ret)⟩
def af102:AFunc:=⟨6,[.tmp 4],Zq [Zo 0 2 (.box (Zt 0)),Zo 1 3 (.box (Zt 1)),Zo 2 4 (.mov (.val .nilfn))] (Zq [Zo 0 5 (.mkfn (Fn.func 118) [] [Zt 2,Zt 3]),Zm 1 4 5] .ret)⟩
def af103:AFunc:=⟨116,[.cell 4 (some 2)],Zq [Zo 0 3 (.box (Zt 1)),Zo 1 4 (.alloc [Zi 0,Zi 0])] (.seq (.seq (.draw [Zm 0 11 0,Zd 1 12 1 (.nilck (Zt 11)),Zd 2 13 3 (.fieldA 3 (Zt 12)),Zd 3 14 7 (.load none (Zt 13)),Zo 4 15 (.load (some 15) (Zt 3)),Zd 5 16 31 (.lookup (.agg [true,true,true,true,true,true,true,true,true,true,true,true,true,true,true]) true (.agg [Zi 0,Zi 0]) (Zt 14) (Zt 15)),Zd 6 10 63 (.mov (Zt 16)),Zd 7 17 127 (.extract (Zt 10) 0),Zd 8 18 127 (.extract (Zt 10) 1),Zo 9 5 (.alloc [Zi 0,Zi 0]),Ze 10 767 (.store 2 (Zt 5) (Zt 17)),Zd 11 6 2047 (.mov (Zt 18))]) (Zq [Zm 0 19 6] (.cond (Zt 19) (Zq [Zo 0 20 (.load (some 2) (Zt 5)),Zs 1 (.store 2 (Zt 4) (Zt 20))] .ret) .skip))) (.seq (.draw [Zm 0 21 0,Zd 1 22 1 (.nilck (Zt 21)),Zd 2 23 3 (.fieldA 0 (Zt 22)),Zd 3 24 7 (.fieldA 0 (Zt 23)),Zd 4 25 15 (.load none (Zt 24)),Zo 5 26 (.fieldA 10 (Zt 3)),Zd 6 27 32 (.load none (Zt 26)),Zd 7 28 127 (.indexA 7 none (Zt 25) (Zt 27)),Zd 8 29 255 (.fieldA 0 (Zt 28)),Zd 9 30 511 (.load (some 2) (Zt 29)),Zo 10 7 (.alloc [Zi 0,Zi 0]),Ze 11 2047 (.store 2 (Zt 7) (Zt 30))]) (.seq (Zq [Zm 0 31 0,Zo 1 32 (.nilck (Zt 31)),Zo 2 33 (.fieldA 0 (Zt 32)),Zo 3 34 (.fieldA 1 (Zt 33)),Zl 4 35 34,Zo 5 36 (.len (Zt 35)),Zo 6 37 (.mov (Zn 0))] (.block 0 (.loop [0,3,4,7,35,36,37] (Zq [Zo 0 38 (.bin .lss (Zt 37) (Zt 36))] (.seq (.cond (Zt 38) .skip (.exit 0)) (.seq (.block 1 (Zq [Zm 0 39 37,Zo 1 40 (.indexA 7 none (Zt 35) (Zt 37)),Zo 2 41 (.load (some 7) (Zt 40)),Zo 3 9 (.alloc [Zi 0,Zi 0,Zi 0,Zi 0,Zi 0,Zi 0,Zi 0]),Zm 4 8 39,Zs 5 (.store 7 (Zt 9) (Zt 41))] (.seq (Zq [Zo 0 42 (.fieldA 14 (Zt 3)),Zl 1 43 42,Zm 2 44 8,Zo 3 45 (.bin .shr (Zt 43) (Zt 44)),Zo 4 46 (.bin .and (Zt 45) (.val (.int .u64 1))),Zo 5 47 (.bin .eql (Zt 46) (.val (.int .u64 0))),Zm 6 48 47,⟨7,some 49,.fieldA 0 (Zt 9),some (48,false),0⟩,⟨8,some 50,.load none (Zt 49),some (48,false),0⟩,⟨9,some 51,.bin .neq (Zt 50) (Zn 2),some (48,false),0⟩,Zo 10 52 (.pick (Zt 48) (.val (.bool true)) (Zt 51)),Zm 11 53 52,⟨12,some 54,.fieldA 4 (Zt 9),some (53,false),0⟩,⟨13,some 55,.load none (Zt 54),some (53,false),0⟩,⟨14,some 56,.fieldA 10 (Zt 3),some (53,false),0⟩,⟨15,some 57,.load none (Zt 56),some (53,false),0⟩,⟨16,some 58,.bin .neq (Zt 55) (Zt 57),some (53,false),0⟩,Zo 17 59 (.pick (Zt 53) (.val (.bool true)) (Zt 58))] (.cond (Zt 59) (.exit 1) .skip)) (.seq (.block 2 (.loop [0,3,4,7,8,9,35,36,37] (.seq (.seq (.draw [Zo 0 60 (.fieldA 0 (Zt 7)),Zd 1 61 1 (.load none (Zt 60)),Zo 2 62 (.fieldA 1 (Zt 7)),Zd 3 63 4 (.load none (Zt 62)),Zd 4 64 15 (.bin .leq (Zt 61) (Zt 63)),Zd 5 65 31 (.mov (Zt 64)),⟨6,some 66,.mov (Zt 0),some (65,true),63⟩,⟨7,some 67,.fieldA 11 (Zt 3),some (65,true),63⟩,⟨8,some 68,.load (some 3) (Zt 67),some (65,true),191⟩,⟨9,some 69,.fieldA 0 (Zt 7),some (65,true),63⟩,⟨10,some 70,.load none (Zt 69),some (65,true),575⟩,⟨11,some 71,.fieldA 0 (Zt 3),some (65,true),63⟩,⟨12,some 72,.load (some 10) (Zt 71),some (65,true),2111⟩,⟨13,some 73,.mov (Zt 8),some (65,true),63⟩,⟨15,some 75,.fieldA 5 (Zt 9),some (65,true),63⟩,⟨16,some 76,.fieldA 0 (Zt 75),some (65,true),32831⟩,⟨17,some 77,.load none (Zt 76),some (65,true),98367⟩,⟨14,some 74,Zc 59 [Zt 66,Zt 68,Zt 70,Zt 72,Zt 73],some (65,true),16383⟩,⟨18,some 78,.bin .lss (Zt 74) (Zt 77),some (65,true),262143⟩,Zd 19 79 524287 (.pick (Zt 65) (Zt 78) (.val (.bool false)))]) (.cond (Zt 79) .skip (.exit 2))) (.block 3 (.ops [Zo 0 80 (.fieldA 0 (Zt 7)),Zl 1 81 80,Zo 2 82 (.bin .add (Zt 81) (Zn 1)),Zo 3 83 (.fieldA 0 (Zt 7)),Zs 4 (.store 1 (Zt 83) (Zt 82))]))))) (.block 4 (.loop [0,3,4,7,8,9,35,36,37] (.seq (.seq (.draw [Zo 0 84 (.fieldA 0 (Zt 7)),Zd 1 85 1 (.load none (Zt 84)),Zo 2 86 (.fieldA 1 (Zt 7)),Zd 3 87 4 (.load none (Zt 86)),Zd 4 88 15 (.bin .leq (Zt 85) (Zt 87)),Zd 5 89 31 (.mov (Zt 88)),⟨6,some 90,.mov (Zt 0),some (89,true),63⟩,⟨7,some 91,.fieldA 11 (Zt 3),some (89,true),63⟩,⟨8,some 92,.load (some 3) (Zt 91),some (89,true),191⟩,⟨9,some 93,.fieldA 1 (Zt 7),some (89,true),63⟩,⟨10,some 94,.load none (Zt 93),some (89,true),575⟩,⟨11,some 95,.fieldA 0 (Zt 3),some (89,true),63⟩,⟨12,some 96,.load (some 10) (Zt 95),some (89,true),2111⟩,⟨13,some 97,.mov (Zt 8),some (89,true),63⟩,⟨15,some 99,.fieldA 5 (Zt 9),some (89,true),63⟩,⟨16,some 100,.fieldA 1 (Zt 99),some (89,true),32831⟩,⟨17,some 101,.load none (Zt 100),some (89,true),98367⟩,⟨14,some 98,Zc 59 [Zt 90,Zt 92,Zt 94,Zt 96,Zt 97],some (89,true),16383⟩,⟨18,some 102,.bin .gtr (Zt 98) (Zt 101),some (89,true),262143⟩,Zd 19 103 524287 (.pick (Zt 89) (Zt 102) (.val (.bool false)))]) (.cond (Zt 103) .skip (.exit 4))) (.block 5 (.ops [Zo 0 104 (.fieldA 1 (Zt 7)),Zl 1 105 104,Zo 2 106 (.bin .sub (Zt 105) (Zn 1)),Zo 3 107 (.fieldA 1 (Zt 7)),Zs 4 (.store 1 (Zt 107) (Zt 106))]))))))))) (.ops [Zo 0 108 (.bin .add (Zt 37) (Zn 1)),Zm 1 37 108]))))))) (.seq (.draw [Zm 0 109 0,Zd 1 110 1 (.nilck (Zt 109)),Zd 2 111 3 (.fieldA 3 (Zt 110)),Zd 3 112 7 (.load none (Zt 111)),Zo 4 113 (.load (some 15) (Zt 3)),Zo 5 114 (.load (some 2) (Zt 7)),Ze 6 63 (.mapupd (.agg [true,true,true,true,true,true,true,true,true,true,true,true,true,true,true]) (Zt 112) (Zt 113) (Zt 114))]) (Zq [Zo 0 115 (.load (some 2) (Zt 7)),Zs 1 (.store 2 (Zt 4) (Zt 115))] .ret)))))⟩
def af104:AFunc:=⟨21,[.tmp 8],Zq [Zo 0 8 (.mov (Zn 0))] (.seq (Zq [Zo 0 9 (.mov (Zn 0))] (.block 0 (.loop [0,1,2,3,9] (.seq (Zq [Zm 0 10 9,Zm 1 11 1,Zo 2 12 (.bin .lss (Zt 10) (Zt 11))] (.cond (Zt 12) .skip (.exit 0))) (.seq (.block 1 (.ops [Zm 0 15 3,Zm 1 16 0,Zm 2 17 2,Zo 3 18 (.bin .add (Zt 16) (Zt 17)),Zo 4 19 (.min [Zt 15,Zt 18]),Zm 5 0 19])) (.ops [Zm 0 13 9,Zo 1 14 (.bin .add (Zt 13) (Zn 1)),Zm 2 9 14])))))) (Zq [Zm 0 20 0,Zm 1 8 20] .ret))⟩
def af105:AFunc:=⟨35,[.tmp 8],Zq [Zo 0 4 (.box (Zt 0)),Zo 1 8 (.mov (.val (.bool false)))] (Zq [Zm 0 9 1,Zo 1 10 (.fieldA 0 (Zt 4)),Zl 2 11 10,Zo 3 12 (.bin .leq (Zt 9) (Zt 11)),Zm 4 13 12,⟨5,some 14,.fieldA 0 (Zt 4),some (13,true),0⟩,⟨6,some 15,.load none (Zt 14),some (13,true),0⟩,⟨7,some 16,.fieldA 1 (Zt 4),some (13,true),0⟩,⟨8,some 17,.load none (Zt 16),some (13,true),0⟩,⟨9,some 18,.bin .leq (Zt 15) (Zt 17),some (13,true),0⟩,Zo 10 19 (.pick (Zt 13) (Zt 18) (.val (.bool false))),Zm 11 20 19,⟨12,some 21,.fieldA 1 (Zt 4),some (20,true),0⟩,⟨13,some 22,.load none (Zt 21),some (20,true),0⟩,⟨14,some 23,.mov (Zt 2),some (20,true),0⟩,⟨15,some 24,.bin .leq (Zt 22) (Zt 23),some (20,true),0⟩,Zo 16 25 (.pick (Zt 20) (Zt 24) (.val (.bool false))),Zm 17 26 25,⟨18,some 27,.fieldA 1 (Zt 4),some (26,true),0⟩,⟨19,some 28,.load none (Zt 27),some (26,true),0⟩,⟨20,some 29,.fieldA 0 (Zt 4),some (26,true),0⟩,⟨21,some 30,.load none (Zt 29),some (26,true),0⟩,⟨22,some 31,.bin .sub (Zt 28) (Zt 30),some (26,true),0⟩,⟨23,some 32,.mov (Zt 3),some (26,true),0⟩,⟨24,some 33,.bin .leq (Zt 31) (Zt 32),some (26,true),0⟩,Zo 25 34 (.pick (Zt 26) (Zt 33) (.val (.bool false))),Zm 26 8 34] .ret)⟩
def af106:AFunc:=⟨28,[.tmp 4],Zq [Zo 0 2 (.box (Zt 0)),Zo 1 3 (.box (Zt 1)),Zo 2 4 (.mov (.val (.bool false)))] (.seq (Zq [Zo 0 5 (.fieldA 0 (Zt 3)),Zl 1 6 5] (.block 0 (Zq [Zo 0 8 (.bin .eql (Zt 6) (Zn 0)),Zm 1 7 8] (.cond (Zt 7) (Zq [Zo 0 9 (.fieldA 1 (Zt 3)),Zo 1 10 (.load (some 2) (Zt 9)),Zo 2 11 (Zc 105 [Zt 10,Zn 0,Zn 60,Zn 2]),Zm 3 4 11] .ret) (Zq [Zo 0 13 (.bin .eql (Zt 6) (Zn 1)),Zm 1 12 13] (.cond (Zt 12) (Zq [Zo 0 14 (.fieldA 3 (Zt 3)),Zl 1 15 14,Zo 2 16 (Zc 93 [Zt 15,Zn 1,Zn 10]),Zm 3 4 16] .ret) (Zq [Zo 0 18 (.bin .eql (Zt 6) (Zn 2)),Zm 1 17 18] (.cond (Zt 17) (Zq [Zo 0 19 (.load (some 2) (Zt 2)),Zo 1 20 (.fieldA 4 (Zt 3)),Zl 2 21 20,Zo 3 22 (Zc 37 [Zt 19,Zt 21]),Zm 4 23 22,⟨5,some 24,.fieldA 5 (Zt 3),some (23,true),0⟩,⟨6,some 25,.load (some 2) (Zt 24),some (23,true),0⟩,⟨7,some 26,Zc 105 [Zt 25,Zn (-1000),Zn 1000,Zn 2000],some (23,true),0⟩,Zo 8 27 (.pick (Zt 23) (Zt 26) (.val (.bool false))),Zm 9 4 27] .ret) .skip)))))))) (Zq [Zo 0 4 (.mov (.val (.bool false)))] .ret))⟩
def af107:AFunc:=⟨22,[],Zq [Zo 0 4 (.mov (Zn 1))] (.seq (Zq [Zl 0 6 1,Zl 1 7 2,Zo 2 8 (.bin .lss (Zt 6) (Zt 7))] (.cond (Zt 8) (.ops [Zo 0 4 (.mov (Zn (-1)))]) .skip)) (Zq [Zl 0 9 2,Zm 1 5 9] (.block 0 (.loop [0,1,4,5] (.seq (Zq [Zm 0 10 5,Zl 1 11 1,Zm 2 12 4,Zo 3 13 (.bin .add (Zt 11) (Zt 12)),Zo 4 14 (.bin .neq (Zt 10) (Zt 13))] (.cond (Zt 14) .skip (.exit 0))) (.seq (.block 1 (Zq [Zm 0 18 0,Zm 1 19 5,Zo 2 20 (.call (Zt 18) [Zt 19]),Zo 3 21 (.not (Zt 20))] (.cond (Zt 21) .ret .skip))) (.ops [Zm 0 15 5,Zm 1 16 4,Zo 2 17 (.bin .add (Zt 15) (Zt 16)),Zm 3 5 17])))))))⟩
def af108:AFunc:=⟨63,[],Zq [Zo 0 6 (.mov (Zn 20))] (Zq [Zm 0 10 6,Zo 1 7 (.mov (Zn 0)),Zm 2 8 10] (.seq (.block 0 (.loop [0,1,2,6,7,8] (.seq (Zq [Zm 0 11 8,Zm 1 12 1,Zo 2 13 (.bin .leq (Zt 11) (Zt 12))] (.cond (Zt 13) .skip (.exit 0))) (.block 1 (Zq [Zm 0 14 0,Zm 1 15 7,Zm 2 16 8,Zm 3 17 2,Zo 4 18 (Zc 119 [Zt 14,Zt 15,Zt 16,Zt 17])] (Zq [Zm 0 19 8,Zm 1 7 19] (.ops [Zm 0 20 8,Zm 1 21 6,Zo 2 22 (.bin .add (Zt 20) (Zt 21)),Zm 3 8 22]))))))) (Zq [Zm 0 23 0,Zm 1 24 7,Zm 2 25 1,Zm 3 26 2,Zo 4 27 (Zc 119 [Zt 23,Zt 24,Zt 25,Zt 26])] (.block 2 (.loop [0,1,2,6] (.seq (Zq [Zm 0 28 6,Zm 1 29 1,Zo 2 30 (.bin .lss (Zt 28) (Zt 29))] (.cond (Zt 30) .skip (.exit 2))) (.block 3 (Zq [Zm 0 31 6,Zo 1 32 (.bin .mul (Zn 2) (Zt 31)),Zo 2 7 (.mov (Zn 0)),Zm 3 8 32] (.seq (.block 4 (.loop [0,1,2,6,7,8] (.seq (Zq [Zm 0 33 8,Zm 1 34 1,Zo 2 35 (.bin .leq (Zt 33) (Zt 34))] (.cond (Zt 35) .skip (.exit 4))) (.block 5 (Zq [Zm 0 36 0,Zm 1 37 7,Zm 2 38 7,Zm 3 39 6,Zo 4 40 (.bin .add (Zt 38) (Zt 39)),Zm 5 41 8,Zm 6 42 2,Zo 7 43 (Zc 120 [Zt 36,Zt 37,Zt 40,Zt 41,Zt 42])] (Zq [Zm 0 44 8,Zm 1 7 44] (.ops [Zm 0 45 8,Zm 1 46 6,Zo 2 47 (.bin .mul (Zn 2) (Zt 46)),Zo 3 48 (.bin .add (Zt 45) (Zt 47)),Zm 4 8 48]))))))) (.seq (Zq [Zm 0 49 7,Zm 1 50 6,Zo 2 51 (.bin .add (Zt 49) (Zt 50)),Zm 3 9 51] (Zq [Zm 0 52 9,Zm 1 53 1,Zo 2 54 (.bin .lss (Zt 52) (Zt 53))] (.cond (Zt 54) (.ops [Zm 0 55 0,Zm 1 56 7,Zm 2 57 9,Zm 3 58 1,Zm 4 59 2,Zo 5 60 (Zc 120 [Zt 55,Zt 56,Zt 57,Zt 58,Zt 59])]) .skip))) (.ops [Zm 0 61 6,Zo 1 62 (.bin .mul (Zt 61) (Zn 2)),Zm 2 6 62])))))))))))⟩
def af109:AFunc:=⟨21,[.tmp 2],Zq [Zo 0 2 (.mov (Zn 0))] (.seq (.cond (.val .nilp) .skip .skip) .ret)⟩
def af110:AFunc:=⟨35,[.tmp 2],Zq [Zo 0 2 (.mov (Zn 0))] (Zq [Zm 0 3 0,Zo 1 4 (.bin .shr (Zt 3) (.val (.int .u64 1))),Zo 2 5 (.bin .and (Zt 4) (.val (.int .u64 6148914691236517205))),Zm 3 6 0,Zo 4 7 (.bin .and (Zt 6) (.val (.int .u64 6148914691236517205))),Zo 5 8 (.bin .add (Zt 5) (Zt 7)),Zm 6 0 8] (Zq [Zm 0 9 0,Zo 1 10 (.bin .shr (Zt 9) (.val (.int .u64 2))),Zo 2 11 (.bin .and (Zt 10) (.val (.int .u64 3689348814741910323))),Zm 3 12 0,Zo 4 13 (.bin .and (Zt 12) (.val (.int .u64 3689348814741910323))),Zo 5 14 (.bin .add (Zt 11) (Zt 13)),Zm 6 0 14] (Zq [Zm 0 15 0,Zo 1 16 (.bin .shr (Zt 15) (.val (.int .u64 4))),Zm 2 17 0,Zo 3 18 (.bin .add (Zt 16) (Zt 17)),Zo 4 19 (.bin .and (Zt 18) (.val (.int .u64 1085102592571150095))),Zm 5 0 19] (Zq [Zm 0 20 0,Zm 1 21 0,Zo 2 22 (.bin .shr (Zt 21) (.val (.int .u64 8))),Zo 3 23 (.bin .add (Zt 20) (Zt 22)),Zm 4 0 23] (Zq [Zm 0 24 0,Zm 1 25 0,Zo 2 26 (.bin .shr (Zt 25) (.val (.int .u64 16))),Zo 3 27 (.bin .add (Zt 24) (Zt 26)),Zm 4 0 27] (Zq [Zm 0 28 0,Zm 1 29 0,Zo 2 30 (.bin .shr (Zt 29) (.val (.int .u64 32))),Zo 3 31 (.bin .add (Zt 28) (Zt 30)),Zm 4 0 31] (Zq [Zm 0 32 0,Zo 1 33 (.conv .i64 (Zt 32)),Zo 2 34 (.bin .and (Zt 33) (Zn 127)),Zm 3 2 34] .ret)))))))⟩
def af111:AFunc:=⟨16,[],Zq [Zl 0 5 1,Zo 1 6 (.len (Zt 5)),Zo 2 7 (.mov (Zn 0))] (.block 0 (.loop [0,5,6,7] (Zq [Zo 0 8 (.bin .lss (Zt 7) (Zt 6))] (.seq (.cond (Zt 8) .skip (.exit 0)) (.seq (.block 1 (Zq [Zo 0 9 (.indexA 1 none (Zt 5) (Zt 7)),Zl 1 10 9,Zm 2 4 10] (Zq [Zm 0 11 0,Zm 1 12 4,Zo 2 13 (.call (Zt 11) [Zt 12]),Zo 3 14 (.not (Zt 13))] (.cond (Zt 14) .ret .skip)))) (.ops [Zo 0 15 (.bin .add (Zt 7) (Zn 1)),Zm 1 7 15]))))))⟩
def af112:AFunc:=⟨53,[.tmp 6],Zq [Zo 0 3 (.box (Zt 0)),Zo 1 6 (.mov (.val .nils))] (Zq [Zm 0 10 1,Zo 1 11 (.len (Zt 10)),Zm 2 7 11] (.seq (Zq [Zm 0 12 7,Zo 1 13 (.fieldA 1 (Zt 3)),Zl 2 14 13,Zo 3 15 (.len (Zt 14)),Zo 4 16 (.bin .eql (Zt 12) (Zt 15))] (.cond (Zt 16) (Zq [Zm 0 17 2,Zm 1 18 1,Zo 2 19 (.buildSl 1 1 [.nils] [(0,Zt 18)]),Zo 3 20 (.append 1 (Zt 17) (Zt 19)),Zm 4 6 20] .ret) .skip)) (Zq [Zo 0 21 (.build [Zi 0,Zi 0] []),Zo 1 8 (.alloc [Zi 0,Zi 0]),Zs 2 (.store 2 (Zt 8) (Zt 21))] (.seq (Zq [Zo 0 22 (.fieldA 1 (Zt 3)),Zl 1 23 22,Zm 2 24 7,Zo 3 25 (.indexA 7 none (Zt 23) (Zt 24)),Zo 4 26 (.fieldA 0 (Zt 25)),Zl 5 27 26,Zo 6 28 (.bin .eql (Zt 27) (Zn 0))] (.cond (Zt 28) (.ops [Zo 0 29 (.fieldA 1 (Zt 3)),Zl 1 30 29,Zm 2 31 7,Zo 3 32 (.indexA 7 none (Zt 30) (Zt 31)),Zo 4 33 (.fieldA 1 (Zt 32)),Zo 5 34 (.load (some 2) (Zt 33)),Zs 6 (.store 2 (Zt 8) (Zt 34))]) .skip)) (.seq (Zq [Zo 0 35 (.fieldA 0 (Zt 8)),Zl 1 36 35,Zm 2 9 36] (.block 0 (.loop [1,2,3,8,9] (.seq (Zq [Zm 0 37 9,Zo 1 38 (.fieldA 1 (Zt 8)),Zl 2 39 38,Zo 3 40 (.bin .leq (Zt 37) (Zt 39))] (.cond (Zt 40) .skip (.exit 0))) (.seq (.block 1 (.draw [Zo 0 43 (.load (some 2) (Zt 3)),Zo 1 44 (.buildSl 1 0 [Zi 0] []),Zm 2 45 1,Zm 4 47 9,Zd 5 48 16 (.buildSl 1 1 [Zi 0] [(0,Zt 47)]),Zm 7 50 2,Zd 3 46 6 (.append 1 (Zt 44) (Zt 45)),Zd 6 49 62 (.append 1 (Zt 46) (Zt 48)),Zd 8 51 255 (Zc 112 [Zt 43,Zt 49,Zt 50]),Zd 9 2 511 (.mov (Zt 51))])) (.ops [Zm 0 41 9,Zo 1 42 (.bin .add (Zt 41) (Zn 1)),Zm 2 9 42])))))) (Zq [Zm 0 52 2,Zm 1 6 52] .ret))))))⟩
def af113:AFunc:=⟨65,[.tmp 8],Zq [Zo 0 4 (.box (Zt 0)),Zo 1 8 (.mov (.val .nils))] (Zq [Zo 0 15 (.fieldA 0 (Zt 4)),Zl 1 16 15,Zm 2 17 1,Zo 3 18 (.indexA 7 none (Zt 16) (Zt 17)),Zo 4 19 (.load (some 7) (Zt 18)),Zo 5 9 (.alloc [Zi 0,Zi 0,Zi 0,Zi 0,Zi 0,Zi 0,Zi 0]),Zs 6 (.store 7 (Zt 9) (Zt 19))] (Zq [Zo 0 10 (.mov (.val .nils))] (.seq (Zq [Zo 0 20 (.fieldA 0 (Zt 9)),Zo 1 21 (.fieldA 0 (Zt 20)),Zl 2 22 21,Zm 3 11 22] (.block 0 (.loop [1,2,3,4,9,10,11] (.seq (Zq [Zm 0 23 11,Zo 1 24 (.fieldA 0 (Zt 9)),Zo 2 25 (.fieldA 1 (Zt 24)),Zl 3 26 25,Zo 4 27 (.bin .leq (Zt 23) (Zt 26))] (.cond (Zt 27) .skip (.exit 0))) (.seq (.block 1 (Zq [Zo 0 30 (.fieldA 2 (Zt 9)),Zo 1 31 (.fieldA 0 (Zt 30)),Zl 2 32 31,Zm 3 12 32] (.block 2 (.loop [1,2,3,4,9,10,11,12] (.seq (Zq [Zm 0 33 12,Zo 1 34 (.fieldA 2 (Zt 9)),Zo 2 35 (.fieldA 1 (Zt 34)),Zl 3 36 35,Zo 4 37 (.bin .leq (Zt 33) (Zt 36))] (.cond (Zt 37) .skip (.exit 2))) (.seq (.block 3 (Zq [Zo 0 40 (.fieldA 4 (Zt 9)),Zo 1 41 (.fieldA 0 (Zt 40)),Zl 2 42 41,Zm 3 13 42] (.block 4 (.loop [1,2,3,4,9,10,11,12,13] (.seq (Zq [Zm 0 43 13,Zo 1 44 (.fieldA 4 (Zt 9)),Zo 2 45 (.fieldA 1 (Zt 44)),Zl 3 46 45,Zo 4 47 (.bin .leq (Zt 43) (Zt 46))] (.cond (Zt 47) .skip (.exit 4))) (.seq (.block 5 (Zq [Zm 0 50 11,Zm 1 51 12,Zm 2 52 13,Zo 3 53 (.build [Zi 0,Zi 0,Zi 0] [(0,(1,Zt 50)),(1,(1,Zt 51)),(2,(1,Zt 52))]),Zo 4 14 (.alloc [Zi 0,Zi 0,Zi 0]),Zs 5 (.store 3 (Zt 14) (Zt 53))] (Zq [Zo 0 54 (.load (some 2) (Zt 4)),Zm 1 55 1,Zo 2 56 (.load (some 3) (Zt 14)),Zm 3 57 2,Zm 4 58 3,Zo 5 59 (Zc 121 [Zt 54,Zt 55,Zt 56,Zt 57,Zt 58])] (.cond (Zt 59) (.ops [Zm 0 60 10,Zo 1 61 (.load (some 3) (Zt 14)),Zo 2 62 (.buildSl 3 1 [Zi 0,Zi 0,Zi 0] [(0,Zt 61)]),Zo 3 63 (.append 3 (Zt 60) (Zt 62)),Zm 4 10 63]) .skip)))) (.ops [Zm 0 48 13,Zo 1 49 (.bin .add (Zt 48) (Zn 1)),Zm 2 13 49]))))))) (.ops [Zm 0 38 12,Zo 1 39 (.bin .add (Zt 38) (Zn 1)),Zm 2 12 39]))))))) (.ops [Zm 0 28 11,Zo 1 29 (.bin .add (Zt 28) (Zn 1)),Zm 2 11 29])))))) (Zq [Zm 0 64 10,Zm 1 8 64] .ret))))⟩
def af114:AFunc:=⟨19,[.tmp 4],Zq [Zo 0 4 (.mov (Zn 0))] (.seq (Zq [Zm 0 6 0,Zo 1 7 (.len (Zt 6)),Zo 2 8 (.mov (Zn 0))] (.block 0 (.loop [0,1,7,8] (Zq [Zo 0 9 (.bin .lss (Zt 8) (Zt 7))] (.seq (.cond (Zt 9) .skip (.exit 0)) (.seq (.block 1 (Zq [Zm 0 10 8,Zm 1 5 10] (Zq [Zm 0 11 1,Zm 1 12 0,Zm 2 13 5,Zo 3 14 (.indexA 5 none (Zt 12) (Zt 13)),Zo 4 15 (.load (some 5) (Zt 14)),Zo 5 16 (.call (Zt 11) [Zt 15])] (.cond (Zt 16) (Zq [Zm 0 17 5,Zm 1 4 17] .ret) .skip)))) (.ops [Zo 0 18 (.bin .add (Zt 8) (Zn 1)),Zm 1 8 18]))))))) (Zq [Zo 0 4 (.mov (Zn (-1)))] .ret))⟩
def af115:AFunc:=⟨16,[.tmp 6],Zq [Zo 0 3 (.box (Zt 0)),Zo 1 6 (.mov (Zn 0))] (Zq [Zo 0 7 (.fieldA 2 (Zt 3)),Zl 1 8 7,Zm 2 9 1,Zm 3 10 2,Zo 4 11 (.fieldA 1 (Zt 3)),Zl 5 12 11,Zo 6 13 (.bin .mul (Zt 10) (Zt 12)),Zo 7 14 (.bin .add (Zt 9) (Zt 13)),Zo 8 15 (.min [Zt 8,Zt 14]),Zm 9 6 15] .ret)⟩
def af116:AFunc:=⟨8,[],Zq [Zo 0 2 (.box (Zt 0))] (Zq [Zo 0 3 (.alloc [Zi 0,Zi 0,Zi 0,Zi 0,Zi 0,Zi 0,Zi 0,Zi 0,Zi 0,Zi 0])] (Zq [Zo 0 4 (.alloc [.nilfn])] (Zq [Zo 0 5 (.mkfn (Fn.func 117) [] [Zt 1,Zt 2,Zt 3,Zt 4]),Zs 1 (.store 1 (Zt 4) (Zt 5))] (.ops [Zl 0 6 4,Zo 1 7 (.call (Zt 6) [Zn 0])]))))⟩
def af117:AFunc:=⟨67,[.tmp 6],Zq [Zo 0 6 (.mov (.val (.bool false)))] (.seq (Zq [Zm 0 8 0,Zl 1 9 1,Zo 2 10 (.nilck (Zt 9)),Zo 3 11 (.fieldA 0 (Zt 10)),Zo 4 12 (.fieldA 1 (Zt 11)),Zl 5 13 12,Zo 6 14 (.len (Zt 13)),Zo 7 15 (.bin .eql (Zt 8) (Zt 14))] (.cond (Zt 15) (Zq [Zl 0 16 2,Zo 1 17 (.load (some 10) (Zt 3)),Zo 2 18 (.call (Zt 16) [Zt 17]),Zm 3 6 18] .ret) .skip)) (.seq (Zq [Zl 0 19 1,Zo 1 20 (.nilck (Zt 19)),Zo 2 21 (.fieldA 0 (Zt 20)),Zo 3 22 (.fieldA 1 (Zt 21)),Zl 4 23 22,Zm 5 24 0,Zo 6 25 (.indexA 7 none (Zt 23) (Zt 24)),Zo 7 26 (.fieldA 0 (Zt 25)),Zl 8 27 26,Zo 9 28 (.bin .neq (Zt 27) (Zn 0))] (.cond (Zt 28) (Zq [Zm 0 29 0,Zo 1 30 (.indexA 1 (some 10) (Zt 3) (Zt 29)),Zs 2 (.store 1 (Zt 30) (Zn 0))] (Zq [Zl 0 31 4,Zm 1 32 0,Zo 2 33 (.bin .add (Zt 32) (Zn 1)),Zo 3 34 (.call (Zt 31) [Zt 33]),Zm 4 6 34] .ret)) .skip)) (.seq (Zq [Zl 0 35 1,Zo 1 36 (.nilck (Zt 35)),Zo 2 37 (.fieldA 0 (Zt 36)),Zo 3 38 (.fieldA 1 (Zt 37)),Zl 4 39 38,Zm 5 40 0,Zo 6 41 (.indexA 7 none (Zt 39) (Zt 40)),Zo 7 42 (.fieldA 1 (Zt 41)),Zo 8 43 (.fieldA 0 (Zt 42)),Zl 9 44 43,Zm 10 7 44] (.block 0 (.loop [0,1,3,4,7] (.seq (Zq [Zm 0 45 7,Zl 1 46 1,Zo 2 47 (.nilck (Zt 46)),Zo 3 48 (.fieldA 0 (Zt 47)),Zo 4 49 (.fieldA 1 (Zt 48)),Zl 5 50 49,Zm 6 51 0,Zo 7 52 (.indexA 7 none (Zt 50) (Zt 51)),Zo 8 53 (.fieldA 1 (Zt 52)),Zo 9 54 (.fieldA 1 (Zt 53)),Zl 10 55 54,Zo 11 56 (.bin .leq (Zt 45) (Zt 55))] (.cond (Zt 56) .skip (.exit 0))) (.seq (.block 1 (Zq [Zm 0 59 0,Zm 1 60 7,Zo 2 61 (.indexA 1 (some 10) (Zt 3) (Zt 59)),Zs 3 (.store 1 (Zt 61) (Zt 60))] (Zq [Zl 0 62 4,Zm 1 63 0,Zo 2 64 (.bin .add (Zt 63) (Zn 1)),Zo 3 65 (.call (Zt 62) [Zt 64]),Zo 4 66 (.not (Zt 65))] (.cond (Zt 66) (Zq [Zo 0 6 (.mov (.val (.bool false)))] .ret) .skip)))) (.ops [Zm 0 57 7,Zo 1 58 (.bin .add (Zt 57) (Zn 1)),Zm 2 7 58])))))) (Zq [Zo 0 6 (.mov (.val (.bool true)))] .ret))))⟩
def af118:AFunc:=⟨43,[],.seq (.draw [Zl 0 7 1,Zd 1 8 1 (.nilck (Zt 7)),Zd 2 9 3 (.fieldA 0 (Zt 8)),Zd 3 10 7 (.fieldA 0 (Zt 9)),Zd 4 11 15 (.load none (Zt 10)),Zl 5 12 2,Zd 6 13 63 (.indexA 7 none (Zt 11) (Zt 12)),Zd 7 14 127 (.load (some 7) (Zt 13)),Zo 8 4 (.alloc [Zi 0,Zi 0,Zi 0,Zi 0,Zi 0,Zi 0,Zi 0]),Ze 9 511 (.store 7 (Zt 4) (Zt 14))]) (.seq .skip (Zq [Zo 0 15 (.fieldA 2 (Zt 4)),Zo 1 16 (.fieldA 0 (Zt 15)),Zl 2 17 16,Zm 3 5 17] (.block 0 (.loop [0,4,5] (.seq (Zq [Zm 0 18 5,Zo 1 19 (.fieldA 2 (Zt 4)),Zo 2 20 (.fieldA 1 (Zt 19)),Zl 3 21 20,Zo 4 22 (.bin .leq (Zt 18) (Zt 21))] (.cond (Zt 22) .skip (.exit 0))) (.seq (.block 1 (Zq [Zo 0 25 (.fieldA 4 (Zt 4)),Zo 1 26 (.fieldA 0 (Zt 25)),Zl 2 27 26,Zm 3 6 27] (.block 2 (.loop [0,4,5,6] (.seq (Zq [Zm 0 28 6,Zo 1 29 (.fieldA 4 (Zt 4)),Zo 2 30 (.fieldA 1 (Zt 29)),Zl 3 31 30,Zo 4 32 (.bin .leq (Zt 28) (Zt 31))] (.cond (Zt 32) .skip (.exit 2))) (.seq (.block 3 (Zq [Zm 0 35 0,Zm 1 36 5,Zm 2 37 6,Zo 3 38 (.fieldA 6 (Zt 4)),Zl 4 39 38,Zo 5 40 (.build [Zi 0,Zi 0,Zi 0] [(0,(1,Zt 36)),(1,(1,Zt 37)),(2,(1,Zt 39))]),Zo 6 41 (.call (Zt 35) [Zt 40]),Zo 7 42 (.not (Zt 41))] (.cond (Zt 42) (.exit 0) .skip))) (.ops [Zm 0 33 6,Zo 1 34 (.bin .add (Zt 33) (Zn 1)),Zm 2 6 34]))))))) (.ops [Zm 0 23 5,Zo 1 24 (.bin .add (Zt 23) (Zn 1)),Zm 2 5 24])))))))⟩
def af119:AFunc:=⟨53,[],Zq [Zm 0 10 1,Zo 1 11 (.bin .add (Zt 10) (Zn 1)),Zm 2 8 11] (.block 0 (.loop [0,1,2,3,8] (.seq (Zq [Zm 0 12 8,Zm 1 13 2,Zo 2 14 (.bin .lss (Zt 12) (Zt 13))] (.cond (Zt 14) .skip (.exit 0))) (.seq (.block 1 (Zq [Zm 0 17 8,Zm 1 9 17] (.block 2 (.loop [0,1,2,3,8,9] (.seq (.seq (.draw [Zm 0 18 9,Zm 1 19 1,Zd 2 20 3 (.bin .gtr (Zt 18) (Zt 19)),Zd 3 21 7 (.mov (Zt 20)),⟨4,some 22,.mov (Zt 3),some (21,true),15⟩,⟨5,some 23,.mov (Zt 0),some (21,true),15⟩,⟨6,some 24,.mov (Zt 9),some (21,true),15⟩,⟨7,some 25,.indexA 1 none (Zt 23) (Zt 24),some (21,true),111⟩,⟨8,some 26,.load none (Zt 25),some (21,true),239⟩,⟨9,some 27,.mov (Zt 0),some (21,true),15⟩,⟨10,some 28,.mov (Zt 9),some (21,true),15⟩,⟨11,some 29,.bin .sub (Zt 28) (Zn 1),some (21,true),1039⟩,⟨12,some 30,.indexA 1 none (Zt 27) (Zt 29),some (21,true),3599⟩,⟨13,some 31,.load none (Zt 30),some (21,true),7695⟩,⟨14,some 32,.call (Zt 22) [Zt 26,Zt 31],some (21,true),16383⟩,⟨15,some 33,.bin .lss (Zt 32) (Zn 0),some (21,true),32767⟩,Zd 16 34 65535 (.pick (Zt 21) (Zt 33) (.val (.bool false)))]) (.cond (Zt 34) .skip (.exit 2))) (.seq (.block 3 (.draw [Zm 0 37 0,Zm 1 38 9,Zm 2 39 0,Zm 3 40 9,Zd 4 41 8 (.bin .sub (Zt 40) (Zn 1)),Zm 5 42 0,Zm 6 43 9,Zd 7 44 64 (.bin .sub (Zt 43) (Zn 1)),Zd 8 45 224 (.indexA 1 none (Zt 42) (Zt 44)),Zd 9 46 480 (.load none (Zt 45)),Zm 10 47 0,Zm 11 48 9,Zd 12 49 3072 (.indexA 1 none (Zt 47) (Zt 48)),Zd 13 50 7168 (.load none (Zt 49)),Zd 14 51 16355 (.indexA 1 none (Zt 37) (Zt 38)),Ze 15 32739 (.store 1 (Zt 51) (Zt 46)),Zd 16 52 65535 (.indexA 1 none (Zt 39) (Zt 41)),Ze 17 131071 (.store 1 (Zt 52) (Zt 50))])) (.ops [Zm 0 35 9,Zo 1 36 (.bin .sub (Zt 35) (Zn 1)),Zm 2 9 36]))))))) (.ops [Zm 0 15 8,Zo 1 16 (.bin .add (Zt 15) (Zn 1)),Zm 2 8 16])))))⟩
def af120:AFunc:=⟨220,[],.seq (Zq [Zm 0 25 2,Zm 1 26 1,Zo 2 27 (.bin .sub (Zt 25) (Zt 26)),Zo 3 28 (.bin .eql (Zt 27) (Zn 1))] (.cond (Zt 28) (Zq [Zm 0 29 2,Zm 1 10 29] (Zq [Zm 0 30 3,Zm 1 11 30] (.seq (.block 0 (.loop [0,1,4,10,11] (.seq (Zq [Zm 0 31 10,Zm 1 32 11,Zo 2 33 (.bin .lss (Zt 31) (Zt 32))] (.cond (Zt 33) .skip (.exit 0))) (.block 1 (Zq [Zm 0 34 10,Zm 1 35 11,Zo 2 36 (.bin .add (Zt 34) (Zt 35)),Zo 3 37 (.conv .u64 (Zt 36)),Zo 4 38 (.bin .shr (Zt 37) (.val (.int .u64 1))),Zo 5 39 (.conv .i64 (Zt 38)),Zm 6 12 39] (.seq (.draw [Zm 0 40 4,Zm 1 41 0,Zm 2 42 12,Zd 3 43 6 (.indexA 1 none (Zt 41) (Zt 42)),Zd 4 44 14 (.load none (Zt 43)),Zm 5 45 0,Zm 6 46 1,Zd 7 47 96 (.indexA 1 none (Zt 45) (Zt 46)),Zd 8 48 224 (.load none (Zt 47)),Zd 9 49 511 (.call (Zt 40) [Zt 44,Zt 48]),Zd 10 50 1023 (.bin .lss (Zt 49) (Zn 0))]) (.cond (Zt 50) (.ops [Zm 0 51 12,Zo 1 52 (.bin .add (Zt 51) (Zn 1)),Zm 2 10 52]) (.ops [Zm 0 53 12,Zm 1 11 53])))))))) (.seq (Zq [Zm 0 54 1,Zm 1 13 54] (.block 2 (.loop [0,10,13] (.seq (Zq [Zm 0 55 13,Zm 1 56 10,Zo 2 57 (.bin .sub (Zt 56) (Zn 1)),Zo 3 58 (.bin .lss (Zt 55) (Zt 57))] (.cond (Zt 58) .skip (.exit 2))) (.seq (.block 3 (.draw [Zm 0 61 0,Zm 1 62 13,Zm 2 63 0,Zm 3 64 13,Zd 4 65 8 (.bin .add (Zt 64) (Zn 1)),Zm 5 66 0,Zm 6 67 13,Zd 7 68 64 (.bin .add (Zt 67) (Zn 1)),Zd 8 69 224 (.indexA 1 none (Zt 66) (Zt 68)),Zd 9 70 480 (.load none (Zt 69)),Zm 10 71 0,Zm 11 72 13,Zd 12 73 3072 (.indexA 1 none (Zt 71) (Zt 72)),Zd 13 74 7168 (.load none (Zt 73)),Zd 14 75 16355 (.indexA 1 none (Zt 61) (Zt 62)),Ze 15 32739 (.store 1 (Zt 75) (Zt 70)),Zd 16 76 65535 (.indexA 1 none (Zt 63) (Zt 65)),Ze 17 131071 (.store 1 (Zt 76) (Zt 74))])) (.ops [Zm 0 59 13,Zo 1 60 (.bin .add (Zt 59) (Zn 1)),Zm 2 13 60])))))) .ret)))) .skip)) (.seq (Zq [Zm 0 77 3,Zm 1 78 2,Zo 2 79 (.bin .sub (Zt 77) (Zt 78)),Zo 3 80 (.bin .eql (Zt 79) (Zn 1))] (.cond (Zt 80) (Zq [Zm 0 81 1,Zm 1 14 81] (Zq [Zm 0 82 2,Zm 1 15 82] (.seq (.block 4 (.loop [0,2,4,14,15] (.seq (Zq [Zm 0 83 14,Zm 1 84 15,Zo 2 85 (.bin .lss (Zt 83) (Zt 84))] (.cond (Zt 85) .skip (.exit 4))) (.block 5 (Zq [Zm 0 86 14,Zm 1 87 15,Zo 2 88 (.bin .add (Zt 86) (Zt 87)),Zo 3 89 (.conv .u64 (Zt 88)),Zo 4 90 (.bin .shr (Zt 89) (.val (.int .u64 1))),Zo 5 91 (.conv .i64 (Zt 90)),Zm 6 16 91] (.seq (.draw [Zm 0 92 4,Zm 1 93 0,Zm 2 94 2,Zd 3 95 6 (.indexA 1 none (Zt 93) (Zt 94)),Zd 4 96 14 (.load none (Zt 95)),Zm 5 97 0,Zm 6 98 16,Zd 7 99 96 (.indexA 1 none (Zt 97) (Zt 98)),Zd 8 100 224 (.load none (Zt 99)),Zd 9 101 511 (.call (Zt 92) [Zt 96,Zt 100]),Zd 10 102 1023 (.bin .lss (Zt 101) (Zn 0)),Zd 11 103 2047 (.not (Zt 102))]) (.cond (Zt 103) (.ops [Zm 0 104 16,Zo 1 105 (.bin .add (Zt 104) (Zn 1)),Zm 2 14 105]) (.ops [Zm 0 106 16,Zm 1 15 106])))))))) (.seq (Zq [Zm 0 107 2,Zm 1 17 107] (.block 6 (.loop [0,14,17] (.seq (Zq [Zm 0 108 17,Zm 1 109 14,Zo 2 110 (.bin .gtr (Zt 108) (Zt 109))] (.cond (Zt 110) .skip (.exit 6))) (.seq (.block 7 (.draw [Zm 0 113 0,Zm 1 114 17,Zm 2 115 0,Zm 3 116 17,Zd 4 117 8 (.bin .sub (Zt 116) (Zn 1)),Zm 5 118 0,Zm 6 119 17,Zd 7 120 64 (.bin .sub (Zt 119) (Zn 1)),Zd 8 121 224 (.indexA 1 none (Zt 118) (Zt 120)),Zd 9 122 480 (.load none (Zt 121)),Zm 10 123 0,Zm 11 124 17,Zd 12 125 3072 (.indexA 1 none (Zt 123) (Zt 124)),Zd 13 126 7168 (.load none (Zt 125)),Zd 14 127 16355 (.indexA 1 none (Zt 113) (Zt 114)),Ze 15 32739 (.store 1 (Zt 127) (Zt 122)),Zd 16 128 65535 (.indexA 1 none (Zt 115) (Zt 117)),Ze 17 131071 (.store 1 (Zt 128) (Zt 126))])) (.ops [Zm 0 111 17,Zo 1 112 (.bin .sub (Zt 111) (Zn 1)),Zm 2 17 112])))))) .ret)))) .skip)) (Zq [Zm 0 129 1,Zm 1 130 3,Zo 2 131 (.bin .add (Zt 129) (Zt 130)),Zo 3 132 (.conv .u64 (Zt 131)),Zo 4 133 (.bin .shr (Zt 132) (.val (.int .u64 1))),Zo 5 134 (.conv .i64 (Zt 133)),Zm 6 18 134] (Zq [Zm 0 135 18,Zm 1 136 2,Zo 2 137 (.bin .add (Zt 135) (Zt 136)),Zm 3 19 137] (Zq [Zo 0 20 (.mov (Zn 0)),Zo 1 21 (.mov (Zn 0))] (.seq (Zq [Zm 0 138 2,Zm 1 139 18,Zo 2 140 (.bin .gtr (Zt 138) (Zt 139))] (.cond (Zt 140) (Zq [Zm 0 141 19,Zm 1 142 3,Zo 2 143 (.bin .sub (Zt 141) (Zt 142)),Zm 3 20 143] (.ops [Zm 0 144 18,Zm 1 21 144])) (Zq [Zm 0 145 1,Zm 1 20 145] (.ops [Zm 0 146 2,Zm 1 21 146])))) (Zq [Zm 0 147 19,Zo 1 148 (.bin .sub (Zt 147) (Zn 1)),Zm 2 22 148] (.seq (.block 8 (.loop [0,1,2,3,4,18,19,20,21,22] (.seq (Zq [Zm 0 149 20,Zm 1 150 21,Zo 2 151 (.bin .lss (Zt 149) (Zt 150))] (.cond (Zt 151) .skip (.exit 8))) (.block 9 (Zq [Zm 0 152 20,Zm 1 153 21,Zo 2 154 (.bin .add (Zt 152) (Zt 153)),Zo 3 155 (.conv .u64 (Zt 154)),Zo 4 156 (.bin .shr (Zt 155) (.val (.int .u64 1))),Zo 5 157 (.conv .i64 (Zt 156)),Zm 6 23 157] (.seq (.draw [Zm 0 158 4,Zm 1 159 0,Zm 2 160 22,Zm 3 161 23,Zd 4 162 12 (.bin .sub (Zt 160) (Zt 161)),Zd 5 163 30 (.indexA 1 none (Zt 159) (Zt 162)),Zd 6 164 62 (.load none (Zt 163)),Zm 7 165 0,Zm 8 166 23,Zd 9 167 384 (.indexA 1 none (Zt 165) (Zt 166)),Zd 10 168 896 (.load none (Zt 167)),Zd 11 169 2047 (.call (Zt 158) [Zt 164,Zt 168]),Zd 12 170 4095 (.bin .lss (Zt 169) (Zn 0)),Zd 13 171 8191 (.not (Zt 170))]) (.cond (Zt 171) (.ops [Zm 0 172 23,Zo 1 173 (.bin .add (Zt 172) (Zn 1)),Zm 2 20 173]) (.ops [Zm 0 174 23,Zm 1 21 174])))))))) (Zq [Zm 0 175 19,Zm 1 176 20,Zo 2 177 (.bin .sub (Zt 175) (Zt 176)),Zm 3 24 177] (.seq (Zq [Zm 0 178 20,Zm 1 179 2,Zo 2 180 (.bin .lss (Zt 178) (Zt 179)),Zm 3 181 180,⟨4,some 182,.mov (Zt 2),some (181,true),0⟩,⟨5,some 183,.mov (Zt 24),some (181,true),0⟩,⟨6,some 184,.bin .lss (Zt 182) (Zt 183),some (181,true),0⟩,Zo 7 185 (.pick (Zt 181) (Zt 184) (.val (.bool false)))] (.cond (Zt 185) (.ops [Zm 0 186 0,Zm 1 187 20,Zm 2 188 2,Zm 3 189 24,Zm 4 190 4,Zo 5 191 (Zc 122 [Zt 186,Zt 187,Zt 188,Zt 189,Zt 190])]) .skip)) (.seq (Zq [Zm 0 192 1,Zm 1 193 20,Zo 2 194 (.bin .lss (Zt 192) (Zt 193)),Zm 3 195 194,⟨4,some 196,.mov (Zt 20),some (195,true),0⟩,⟨5,some 197,.mov (Zt 18),some (195,true),0⟩,⟨6,some 198,.bin .lss (Zt 196) (Zt 197),some (195,true),0⟩,Zo 7 199 (.pick (Zt 195) (Zt 198) (.val (.bool false)))] (.cond (Zt 199) (.ops [Zm 0 200 0,Zm 1 201 1,Zm 2 202 20,Zm 3 203 18,Zm 4 204 4,Zo 5 205 (Zc 120 [Zt 200,Zt 201,Zt 202,Zt 203,Zt 204])]) .skip)) (Zq [Zm 0 206 18,Zm 1 207 24,Zo 2 208 (.bin .lss (Zt 206) (Zt 207)),Zm 3 209 208,⟨4,some 210,.mov (Zt 24),some (209,true),0⟩,⟨5,some 211,.mov (Zt 3),some (209,true),0⟩,⟨6,some 212,.bin .lss (Zt 210) (Zt 211),some (209,true),0⟩,Zo 7 213 (.pick (Zt 209) (Zt 212) (.val (.bool false)))] (.cond (Zt 213) (.ops [Zm 0 214 0,Zm 1 215 18,Zm 2 216 24,Zm 3 217 3,Zm 4 218 4,Zo 5 219 (Zc 120 [Zt 214,Zt 215,Zt 216,Zt 217,Zt 218])]) .skip))))))))))))⟩
def af121:AFunc:=⟨55,[.tmp 10],Zq [Zo 0 5 (.box (Zt 0)),Zo 1 7 (.box (Zt 2)),Zo 2 10 (.mov (.val (.bool false)))] (.seq (Zq [Zo 0 11 (.mov (Zn 0))] (.block 0 (.loop [1,3,4,5,7,11] (.seq (Zq [Zm 0 13 11,Zo 1 14 (.fieldA 1 (Zt 5)),Zl 2 15 14,Zo 3 16 (.len (Zt 15)),Zo 4 17 (.bin .lss (Zt 13) (Zt 16))] (.cond (Zt 17) .skip (.exit 0))) (.seq (.block 1 (Zq [Zo 0 20 (.fieldA 1 (Zt 5)),Zl 1 21 20,Zm 2 22 11,Zo 3 23 (.indexA 7 none (Zt 21) (Zt 22)),Zo 4 24 (.load (some 7) (Zt 23)),Zo 5 12 (.alloc [Zi 0,Zi 0,Zi 0,Zi 0,Zi 0,Zi 0,Zi 0]),Zs 6 (.store 7 (Zt 12) (Zt 24))] (.seq (.draw [Zm 0 25 4,Zm 1 26 11,Zd 2 27 3 (Zc 84 [Zt 25,Zt 26]),Zd 3 28 7 (.mov (Zt 27)),⟨4,some 29,.fieldA 0 (Zt 12),some (28,true),15⟩,⟨5,some 30,.load none (Zt 29),some (28,true),31⟩,⟨6,some 31,.bin .eql (Zt 30) (Zn 2),some (28,true),63⟩,Zd 7 32 127 (.pick (Zt 28) (Zt 31) (.val (.bool false))),Zd 8 33 255 (.mov (Zt 32)),⟨9,some 34,.fieldA 4 (Zt 12),some (33,true),511⟩,⟨10,some 35,.load none (Zt 34),some (33,true),1023⟩,⟨11,some 36,.mov (Zt 1),some (33,true),511⟩,⟨12,some 37,.bin .eql (Zt 35) (Zt 36),some (33,true),4095⟩,Zd 13 38 8191 (.pick (Zt 33) (Zt 37) (.val (.bool false))),Zd 14 39 16383 (.mov (Zt 38)),⟨15,some 40,.load (some 2) (Zt 5),some (39,true),32767⟩,⟨16,some 41,.mov (Zt 1),some (39,true),32767⟩,⟨17,some 42,.load (some 3) (Zt 7),some (39,true),32767⟩,⟨18,some 43,.mov (Zt 3),some (39,true),32767⟩,⟨19,some 44,.mov (Zt 11),some (39,true),32767⟩,⟨21,some 46,.fieldA 5 (Zt 12),some (39,true),32767⟩,⟨22,some 47,.fieldA 0 (Zt 46),some (39,true),2129919⟩,⟨23,some 48,.load none (Zt 47),some (39,true),6324223⟩,⟨24,some 49,.fieldA 5 (Zt 12),some (39,true),32767⟩,⟨25,some 50,.fieldA 1 (Zt 49),some (39,true),16809983⟩,⟨26,some 51,.load none (Zt 50),some (39,true),50364415⟩,⟨20,some 45,Zc 60 [Zt 40,Zt 41,Zt 42,Zt 43,Zt 44],some (39,true),1048575⟩,⟨27,some 52,Zc 93 [Zt 45,Zt 48,Zt 51],some (39,true),134217727⟩,⟨28,some 53,.not (Zt 52),some (39,true),268435455⟩,Zd 29 54 536870911 (.pick (Zt 39) (Zt 53) (.val (.bool false)))]) (.cond (Zt 54) (Zq [Zo 0 10 (.mov (.val (.bool false)))] .ret) .skip)))) (.ops [Zm 0 18 11,Zo 1 19 (.bin .add (Zt 18) (Zn 1)),Zm 2 11 19])))))) (Zq [Zo 0 10 (.mov (.val (.bool true)))] .ret))⟩
def af122:AFunc:=⟨58,[],Zq [Zm 0 12 2,Zm 1 13 1,Zo 2 14 (.bin .sub (Zt 12) (Zt 13)),Zm 3 10 14] (Zq [Zm 0 15 3,Zm 1 16 2,Zo 2 17 (.bin .sub (Zt 15) (Zt 16)),Zm 3 11 17] (.seq (.block 0 (.loop [0,2,4,10,11] (.seq (Zq [Zm 0 18 10,Zm 1 19 11,Zo 2 20 (.bin .neq (Zt 18) (Zt 19))] (.cond (Zt 20) .skip (.exit 0))) (.block 1 (Zq [Zm 0 21 10,Zm 1 22 11,Zo 2 23 (.bin .gtr (Zt 21) (Zt 22))] (.cond (Zt 23) (Zq [Zm 0 24 0,Zm 1 25 2,Zm 2 26 10,Zo 3 27 (.bin .sub (Zt 25) (Zt 26)),Zm 4 28 2,Zm 5 29 11,Zm 6 30 4,Zo 7 31 (Zc 123 [Zt 24,Zt 27,Zt 28,Zt 29,Zt 30])] (.ops [Zm 0 32 10,Zm 1 33 11,Zo 2 34 (.bin .sub (Zt 32) (Zt 33)),Zm 3 10 34])) (Zq [Zm 0 35 0,Zm 1 36 2,Zm 2 37 10,Zo 3 38 (.bin .sub (Zt 36) (Zt 37)),Zm 4 39 2,Zm 5 40 11,Zo 6 41 (.bin .add (Zt 39) (Zt 40)),Zm 7 42 10,Zo 8 43 (.bin .sub (Zt 41) (Zt 42)),Zm 9 44 10,Zm 10 45 4,Zo 11 46 (Zc 123 [Zt 35,Zt 38,Zt 43,Zt 44,Zt 45])] (.ops [Zm 0 47 11,Zm 1 48 10,Zo 2 49 (.bin .sub (Zt 47) (Zt 48)),Zm 3 11 49])))))))) (.ops [Zm 0 50 0,Zm 1 51 2,Zm 2 52 10,Zo 3 53 (.bin .sub (Zt 51) (Zt 52)),Zm 4 54 2,Zm 5 55 10,Zm 6 56 4,Zo 7 57 (Zc 123 [Zt 50,Zt 53,Zt 54,Zt 55,Zt 56])])))⟩
def af123:AFunc:=⟨38,[],Zq [Zo 0 10 (.mov (Zn 0))] (.block 0 (.loop [0,1,2,3,10] (.seq (Zq [Zm 0 11 10,Zm 1 12 3,Zo 2 13 (.bin .lss (Zt 11) (Zt 12))] (.cond (Zt 13) .skip (.exit 0))) (.seq (.block 1 (.draw [Zm 0 16 0,Zm 1 17 1,Zm 2 18 10,Zd 3 19 6 (.bin .add (Zt 17) (Zt 18)),Zm 4 20 0,Zm 5 21 2,Zm 6 22 10,Zd 7 23 96 (.bin .add (Zt 21) (Zt 22)),Zm 8 24 0,Zm 9 25 2,Zm 10 26 10,Zd 11 27 1536 (.bin .add (Zt 25) (Zt 26)),Zd 12 28 3840 (.indexA 1 none (Zt 24) (Zt 27)),Zd 13 29 7936 (.load none (Zt 28)),Zm 14 30 0,Zm 15 31 1,Zm 16 32 10,Zd 17 33 98304 (.bin .add (Zt 31) (Zt 32)),Zd 18 34 245760 (.indexA 1 none (Zt 30) (Zt 33)),Zd 19 35 507904 (.load none (Zt 34)),Zd 20 36 1048335 (.indexA 1 none (Zt 16) (Zt 19)),Ze 21 2096911 (.store 1 (Zt 36) (Zt 29)),Zd 22 37 4194303 (.indexA 1 none (Zt 20) (Zt 23)),Ze 23 8388607 (.store 1 (Zt 37) (Zt 35))])) (.ops [Zm 0 14 10,Zo 1 15 (.bin .add (Zt 14) (Zn 1)),Zm 2 10 15])))))⟩
def af139:AFunc:=⟨14,[.tmp 8],Zq [Zo 0 4 (.box (Zt 0)),Zo 1 5 (.box (Zt 1)),Zo 2 8 (.mov (Zn 0))] (Zq [Zm 0 9 2,Zo 1 10 (.load (some 3) (Zt 5)),Zm 2 11 3,Zo 3 12 (Zc 41 [Zt 10,Zt 11]),Zo 4 13 (.bin .sub (Zt 9) (Zt 12)),Zm 5 8 13] .ret)⟩
def af140:AFunc:=⟨10,[.tmp 8],Zq [Zo 0 4 (.box (Zt 0)),Zo 1 5 (.box (Zt 1)),Zo 2 8 (.mov (Zn 0))] (Zq [Zm 0 9 2,Zm 1 8 9] .ret)⟩
def af141:AFunc:=⟨19,[.tmp 8],Zq [Zo 0 4 (.box (Zt 0)),Zo 1 5 (.box (Zt 1)),Zo 2 8 (.mov (Zn 0))] (.seq (.cond (.val .nilp) .skip .skip) .ret)⟩
end Ev
end Go.Proofs.YtlcjlcllbgjplaaGreat

/- The code of the functions, for the evaluator: the table. Printed by program. -/
namespace Go.Proofs.YtlcjlcllbgjplaaGreat
open Go
namespace Ev
def fnTree:FT:=(.node 65 af65 (.node 34 af34 (.node 18 af18 (.node 10 af10 (.node 6 af6 (.node 4 af4 (.node 3 af3 .leaf .leaf) (.node 5 af5 .leaf .leaf)) (.node 8 af8 (.node 7 af7 .leaf .leaf) (.node 9 af9 .leaf .leaf))) (.node 14 af14 (.node 12 af12 (.node 11 af11 .leaf .leaf) (.node 13 af13 .leaf .leaf)) (.node 16 af16 (.node 15 af15 .leaf .leaf) (.node 17 af17 .leaf .leaf)))) (.node 26 af26 (.node 22 af22 (.node 20 af20 (.node 19 af19 .leaf .leaf) (.node 21 af21 .leaf .leaf)) (.node 24 af24 (.node 23 af23 .leaf .leaf) (.node 25 af25 .leaf .leaf))) (.node 31 af31 (.node 28 af28 (.node 27 af27 .leaf .leaf) (.node 30 af30 .leaf .leaf)) (.node 33 af33 (.node 32 af32 .leaf .leaf) .leaf)))) (.node 50 af50 (.node 42 af42 (.node 38 af38 (.node 36 af36 (.node 35 af35 .leaf .leaf) (.node 37 af37 .leaf .leaf)) (.node 40 af40 (.node 39 af39 .leaf .leaf) (.node 41 af41 .leaf .leaf))) (.node 46 af46 (.node 44 af44 (.node 43 af43 .leaf .leaf) (.node 45 af45 .leaf .leaf)) (.node 48 af48 (.node 47 af47 .leaf .leaf) (.node 49 af49 .leaf .leaf)))) (.node 58 af58 (.node 54 af54 (.node 52 af52 (.node 51 af51 .leaf .leaf) (.node 53 af53 .leaf .leaf)) (.node 56 af56 (.node 55 af55 .leaf .leaf) (.node 57 af57 .leaf .leaf))) (.node 62 af62 (.node 60 af60 (.node 59 af59 .leaf .leaf) (.node 61 af61 .leaf .leaf)) (.node 64 af64 (.node 63 af63 .leaf .leaf) .leaf))))) (.node 96 af96 (.node 81 af81 (.node 73 af73 (.node 69 af69 (.node 67 af67 (.node 66 af66 .leaf .leaf) (.node 68 af68 .leaf .leaf)) (.node 71 af71 (.node 70 af70 .leaf .leaf) (.node 72 af72 .leaf .leaf))) (.node 77 af77 (.node 75 af75 (.node 74 af74 .leaf .leaf) (.node 76 af76 .leaf .leaf)) (.node 79 af79 (.node 78 af78 .leaf .leaf) (.node 80 af80 .leaf .leaf)))) (.node 89 af89 (.node 85 af85 (.node 83 af83 (.node 82 af82 .leaf .leaf) (.node 84 af84 .leaf .leaf)) (.node 87 af87 (.node 86 af86 .leaf .leaf) (.node 88 af88 .leaf .leaf))) (.node 93 af93 (.node 91 af91 (.node 90 af90 .leaf .leaf) (.node 92 af92 .leaf .leaf)) (.node 95 af95 (.node 94 af94 .leaf .leaf) .leaf)))) (.node 112 af112 (.node 104 af104 (.node 100 af100 (.node 98 af98 (.node 97 af97 .leaf .leaf) (.node 99 af99 .leaf .leaf)) (.node 102 af102 (.node 101 af101 .leaf .leaf) (.node 103 af103 .leaf .leaf))) (.node 108 af108 (.node 106 af106 (.node 105 af105 .leaf .leaf) (.node 107 af107 .leaf .leaf)) (.node 110 af110 (.node 109 af109 .leaf .leaf) (.node 111 af111 .leaf .leaf)))) (.node 120 af120 (.node 116 af116 (.node 114 af114 (.node 113 af113 .leaf .leaf) (.node 115 af115 .leaf .leaf)) (.node 118 af118 (.node 117 af117 .leaf .leaf) (.node 119 af119 .leaf .leaf))) (.node 139 af139 (.node 122 af122 (.node 121 af121 .leaf .leaf) (.node 123 af123 .leaf .leaf)) (.node 141 af141 (.node 140 af140 .leaf .leaf) .leaf))))))
end Ev
end Go.Proofs.YtlcjlcllbgjplaaGreat

/- What a road is, and what is returned of it: plain. -/
namespace Go.Proofs.YtlcjlcllbgjplaaGreat
open Go
namespace Rd
open Clm (Sp)
structure Pt where
  height:Sp
  stiff:Sp
  rise:Sp
  full:Int
deriving Inhabited
structure Evt where
  kind:Int
  load:Sp
  days:Int
  part:Int
  shows:Sp
deriving Inhabited
structure Road where
  parts:List Pt
  events:List Evt
structure Tr where
  stiff:Int
  rise:Int
  full:Int
deriving Inhabited
def sunk (p:Tr)(load:Int):Int:=(load+p.stiff - 1) / p.stiff
def rested (p:Tr)(h days:Int):Int:=min p.full (h+days * p.rise)
def stepE (v:Evt)(p:Tr)(h load:Int):Int:=if v.kind=0 then h - sunk p load else if v.kind=1 then rested p h v.days else h
def after (p:Tr):List Evt→List Int→Int→Int
  |[],_,h=>h
  |v::l,ls,h=>after p l ls.tail (stepE v p h (ls.headD 0))
def heightR (r:Road)(p:Tr)(h:Int)(ls:List Int)(many:Nat):Int:=after p (r.events.take many) ls h
theorem sunk_nn {p:Tr}(h1:1≤p.stiff){load:Int}(h0:0≤load):0≤sunk p load:=Int.ediv_nonneg (by omega) (by omega)
theorem zop (v:Evt)(p:Tr){a b:Int}(h:a≤b)(load:Int):stepE v p a load≤stepE v p b load:=by
  unfold stepE rested
  split
  · omega
  · split
    · generalize v.days * p.rise=x;omega
    · exact h
theorem zch (p:Tr):∀ (l:List Evt) (ls:List Int) {a b:Int},a≤b→after p l ls a≤after p l ls b
  |[],_,_,_,h=>h
  |v::l,ls,_a,_b,h=>zch p l ls.tail (zop v p h _)
def upL (f:Int→Int)(b:Int):Nat→Int→Int
  |0,x=>x
  |n+1,x=>if f x<b then upL f b n (x+1) else x
def dnH (f:Int→Int)(b:Int):Nat→Int→Int
  |0,x=>x
  |n+1,x=>if b<f x then dnH f b n (x - 1) else x
def narrow (f:Int→Int)(w s:Sp):Sp:=
  let lo:=upL f w.lo (s.hi+1 - s.lo).toNat s.lo
  ⟨lo,dnH f w.hi (s.hi+1 - lo).toNat s.hi⟩
theorem zmy (f:Int→Int)(b:Int)(hf:∀ x y,x≤y→f x≤f y):∀ (n:Nat) (x:Int),x≤upL f b n x∧upL f b n x≤x+n∧(∀ y,x≤y→y<x+n→(upL f b n x≤y↔b≤f y))
  |0,x=>⟨Int.le_refl _,by simp[upL],fun y h1 h2=>by simp at h2;omega⟩
  |n+1,x=>by
    obtain ⟨h1,h2,h3⟩:=zmy f b hf n (x+1)
    unfold upL
    by_cases hx:f x<b
    · rw[if_pos hx]
      refine ⟨by omega,by omega,fun y hy1 hy2=>?_⟩
      by_cases hyx:y=x
      · subst hyx
        exact ⟨fun h=>by omega,fun h=>by omega⟩
      · exact h3 y (by omega) (by omega)
    · rw[if_neg hx]
      exact ⟨Int.le_refl _,by omega,fun y hy1 hy2=>⟨fun _=>by have:=hf x y hy1;omega,fun _=>hy1⟩⟩
theorem zoa (f:Int→Int)(b:Int)(hf:∀ x y,x≤y→f x≤f y):∀ (n:Nat) (x:Int),dnH f b n x≤x∧x - n≤dnH f b n x∧(∀ y,y≤x→x - n<y→(y≤dnH f b n x↔f y≤b))
  |0,x=>⟨Int.le_refl _,by simp[dnH],fun y h1 h2=>by simp at h2;omega⟩
  |n+1,x=>by
    obtain ⟨h1,h2,h3⟩:=zoa f b hf n (x - 1)
    unfold dnH
    by_cases hx:b<f x
    · rw[if_pos hx]
      refine ⟨by omega,by omega,fun y hy1 hy2=>?_⟩
      by_cases hyx:y=x
      · subst hyx
        exact ⟨fun h=>by omega,fun h=>by omega⟩
      · exact h3 y (by omega) (by omega)
    · rw[if_neg hx]
      exact ⟨Int.le_refl _,by omega,fun y hy1 hy2=>⟨fun _=>by have:=hf y x hy1;omega,fun _=>hy1⟩⟩
theorem zpw (f:Int→Int)(w s:Sp)(hf:∀ x y,x≤y→f x≤f y)(y:Int):(narrow f w s).has y↔s.has y∧w.lo≤f y∧f y≤w.hi:=by
  obtain ⟨a1,a2,a3⟩:=zmy f w.lo hf (s.hi+1 - s.lo).toNat s.lo
  obtain ⟨b1,b2,b3⟩:=zoa f w.hi hf (s.hi+1 - (upL f w.lo (s.hi+1 - s.lo).toNat s.lo)).toNat s.hi
  unfold narrow
  simp only[Sp.has]
  generalize upL f w.lo (s.hi+1 - s.lo).toNat s.lo=lo at *
  generalize dnH f w.hi (s.hi+1 - lo).toNat s.hi=hi at *
  constructor
  · rintro ⟨h1,h2⟩
    have:=(a3 y (by omega) (by omega)).1 h1
    have:=(b3 y (by omega) (by omega)).1 h2
    omega
  · rintro ⟨⟨h1,h2⟩,h3,h4⟩
    have:=(a3 y (by omega) (by omega)).2 h3
    have:=(b3 y (by omega) (by omega)).2 h4
    omega
def bit (s i:Nat):Bool:=s.testBit i
def firstL (r:Road)(number:Nat)(p:Tr)(ls:List Int)(looks:Nat):List (Evt × Nat)→Sp→Sp
  |[],s=>s
  |(v,i)::l,s=>firstL r number p ls looks l (if bit looks i∧v.kind=2∧v.part=number then narrow (fun h=>heightR r p h ls i) v.shows s else s)
def firstR (r:Road)(number:Nat)(p:Tr)(ls:List Int)(looks:Nat):Sp:=firstL r number p ls looks r.events.zipIdx (r.parts.getD number default).height
def right (r:Road)(number:Nat)(p:Tr)(ls:List Int)(looks:Nat)(h:Int):Prop:=
  ∀ q∈r.events.zipIdx,bit looks q.2=true→q.1.kind=2→q.1.part=number→q.1.shows.lo≤heightR r p h ls q.2∧heightR r p h ls q.2≤q.1.shows.hi
theorem zic (r:Road)(number:Nat)(p:Tr)(ls:List Int)(looks:Nat)(y:Int):∀ (l:List (Evt × Nat)) (s:Sp),(firstL r number p ls looks l s).has y↔s.has y∧∀ q∈l,bit looks q.2=true→q.1.kind=2→q.1.part=number→q.1.shows.lo≤heightR r p y ls q.2∧heightR r p y ls q.2≤q.1.shows.hi
  |[],s=>by simp[firstL]
  |(v,i)::l,s=>by
    rw[firstL,zic r number p ls looks y l]
    have hm:∀ a b,a≤b→heightR r p a ls i≤heightR r p b ls i:=fun a b h=>zch p _ _ h
    by_cases hc:bit looks i∧v.kind=2∧v.part=number
    · rw[if_pos hc,zpw _ _ _ hm]
      constructor
      · rintro ⟨⟨h1,h2⟩,h3⟩
        refine ⟨h1,fun q hq=>?_⟩
        rcases List.mem_cons.1 hq with rfl|hq
        · exact fun _ _ _=>h2
        · exact h3 q hq
      · rintro ⟨h1,h2⟩
        exact ⟨⟨h1,h2 (v,i) (by simp) hc.1 hc.2.1 hc.2.2⟩,fun q hq=>h2 q (by simp[hq])⟩
    · rw[if_neg hc]
      constructor
      · rintro ⟨h1,h3⟩
        refine ⟨h1,fun q hq=>?_⟩
        rcases List.mem_cons.1 hq with rfl|hq
        · exact fun a b d=>absurd ⟨a,b,d⟩ hc
        · exact h3 q hq
      · rintro ⟨h1,h2⟩
        exact ⟨h1,fun q hq=>h2 q (by simp[hq])⟩
theorem zeh (r:Road)(number:Nat)(p:Tr)(ls:List Int)(looks:Nat)(y:Int):(firstR r number p ls looks).has y↔(r.parts.getD number default).height.has y∧right r number p ls looks y:=zic r number p ls looks y _ _
def partsR (p:Pt):List Tr:=(Clm.spanL p.stiff).flatMap fun s=>(Clm.spanL p.rise).map fun k=>⟨s,k,p.full⟩
structure Way where
  part:Tr
  first:Sp
def waysR (r:Road)(number:Nat)(ls:List Int)(looks:Nat):List Way:=
  (partsR (r.parts.getD number default)).filterMap fun p=>if (firstR r number p ls looks).some then some ⟨p,firstR r number p ls looks⟩ else none
def allR:List Evt→List (List Int)
  |[]=>[[]]
  |v::l=>if v.kind=0 then (Clm.spanL v.load).flatMap fun k=>(allR l).map (k::·) else (allR l).map (0::·)
def toldR (r:Road)(looks:Nat):List (List Int):=(allR r.events).filter fun ls=>(List.range r.parts.length).all fun i=>!(waysR r i ls looks).isEmpty
def canR (r:Road)(looks:Nat):Bool:=!(toldR r looks).isEmpty
def everyR (r:Road):Nat:=2 ^ r.events.length - 1
def spanR (r:Road)(number:Nat)(f:Way→List Int→Sp):Sp:=Clm.hull ((toldR r (everyR r)).flatMap fun ls=>(waysR r number ls (everyR r)).map fun w=>f w ls)
def heightsR (r:Road)(number many:Nat):Sp:=spanR r number fun w ls=>⟨heightR r w.part w.first.lo ls many,heightR r w.part w.first.hi ls many⟩
def sinksR (r:Road)(number:Nat)(load:Int):Sp:=spanR r number fun w _=>⟨sunk w.part load,sunk w.part load⟩
def leftR (r:Road)(w:Way)(first:Int)(ls:List Int)(days load:Int):Int:=rested w.part (heightR r w.part first ls r.events.length) days - sunk w.part load
def sureR (r:Road)(days load:Int):Bool:=(toldR r (everyR r)).all fun ls=>(List.range r.parts.length).all fun i=>(waysR r i ls (everyR r)).all fun w=>decide (0≤leftR r w w.first.lo ls days load)
def mayR (r:Road)(load:Int):Bool:=(toldR r (everyR r)).any fun ls=>(List.range r.parts.length).all fun i=>(waysR r i ls (everyR r)).any fun w=>decide (0≤leftR r w w.first.hi ls 0 load)
def bearsR (r:Road)(load:Int):Int:=if sureR r 0 load then 2 else if mayR r load then 1 else 0
end Rd
end Go.Proofs.YtlcjlcllbgjplaaGreat

/- What the truths of clamps are, and what is returned of them. -/
namespace Go.Proofs.YtlcjlcllbgjplaaGreat
open Go
namespace Clm
theorem mem_span (s:Sp)(x:Int):x∈spanL s↔s.has x:=by
  simp only[spanL,List.mem_map,List.mem_range,Sp.has]
  constructor
  · rintro ⟨i,h,rfl⟩;omega
  · intro h;exact ⟨(x - s.lo).toNat,by omega,by omega⟩
theorem ztx (p:Pl)(s:Size):s∈sizes p↔p.long.has s.l∧p.wide.has s.w∧p.high.has s.h:=by
  simp only[sizes,List.mem_flatMap,List.mem_map,mem_span]
  constructor
  · rintro ⟨l,hl,w,hw,h,hh,rfl⟩;exact ⟨hl,hw,hh⟩
  · intro h;exact ⟨s.l,h.1,s.w,h.2.1,s.h,h.2.2,rfl⟩
theorem isSpan_iff (s:Sp)(a b w:Int):isSpan s a b w=true↔a≤s.lo∧s.lo≤s.hi∧s.hi≤b∧s.hi - s.lo≤w:=by simp[isSpan]
structure Fine (c:Cl):Prop where
  piles:1≤c.piles.length∧c.piles.length≤4
  pack:1≤c.pack.lo∧c.pack.lo≤c.pack.hi∧c.pack.hi≤5∧c.pack.hi - c.pack.lo≤2
  events:c.events.length≤6
  pile:∀ p∈c.piles,(1≤p.long.lo∧p.long.lo≤p.long.hi∧p.long.hi≤10∧p.long.hi - p.long.lo≤1)∧(1≤p.wide.lo∧p.wide.lo≤p.wide.hi∧p.wide.hi≤10∧p.wide.hi - p.wide.lo≤1)∧(1≤p.high.lo∧p.high.lo≤p.high.hi∧p.high.hi≤10∧p.high.hi - p.high.lo≤1)
  event:∀ v∈c.events,(0≤v.clamp∧v.clamp<c.piles.length)∧(v.kind=0∨v.kind=1)∧0≤v.sods.lo∧v.sods.lo≤v.sods.hi∧v.sods.hi≤5000∧v.sods.hi - v.sods.lo≤(if v.kind=0 then 3 else 5000)
theorem valid_iff (c:Cl):valid c=true↔Fine c:=by
  simp only[valid,Bool.and_eq_true,decide_eq_true_eq,isSpan_iff,List.all_eq_true]
  exact ⟨fun h => ⟨h.1.1.1.1, h.1.1.1.2, h.1.1.2, fun p hp => ⟨(h.1.2 p hp).1.1, (h.1.2 p hp).1.2, (h.1.2 p hp).2⟩, fun v hv => ⟨(h.2 v hv).1.1, (h.2 v hv).1.2, (h.2 v hv).2⟩⟩,
    fun h=>⟨⟨⟨⟨h.piles,h.pack⟩,h.events⟩,fun p hp=>⟨⟨(h.pile p hp).1,(h.pile p hp).2.1⟩,(h.pile p hp).2.2⟩⟩,fun v hv=>⟨⟨(h.event v hv).1,(h.event v hv).2.1⟩,(h.event v hv).2.2⟩⟩⟩
theorem zhj {c:Cl}(hc:Fine c)(number counts:Nat):∀ e∈befell c number counts,e.fine:=by
  intro e he
  simp only[befell,List.mem_map] at he
  obtain ⟨⟨v,i⟩,hp,rfl⟩:=he
  have hv:v∈c.events:=by
    have:=List.mem_zipIdx hp
    obtain ⟨_,_,h⟩:=this
    simp only[h];exact List.getElem_mem _
  have:=hc.event v hv
  simp only
  split
  · trivial
  · split
    · exact ⟨this.2.2.1,this.2.2.2.1⟩
    · split<;>trivial
theorem zxb {c:Cl}{i:Nat}(h:i<c.piles.length):c.piles.getD i default∈c.piles:=by
  rw[List.getD_eq_getElem?_getD,List.getElem?_eq_getElem h];exact List.getElem_mem _
theorem znb {c:Cl}(hc:Fine c){i:Nat}(hi:i<c.piles.length){k:Int}(hk:0≤k){s:Size}(hs:s∈sizes (c.piles.getD i default)):0≤s.sods k:=by
  have h1:=hc.pile _ (zxb hi)
  rw[ztx] at hs
  simp only[Sp.has] at hs
  unfold Size.sods
  have a:0≤s.l:=by omega
  have b:0≤s.w:=by omega
  have d:0≤s.h:=by omega
  exact Int.mul_nonneg (Int.mul_nonneg (Int.mul_nonneg a b) d) hk
theorem mem_ways {c:Cl}(hc:Fine c){i:Nat}(hi:i<c.piles.length){k:Int}(hk:0≤k)(counts:Nat)(w:Way):
    w∈ways c i k counts↔w.size∈sizes (c.piles.getD i default)∧w.log=logOf c i k counts w.size∧∃ y,Goes (befell c i counts) (w.size.sods k) y:=by
  simp only[ways,List.mem_filterMap]
  constructor
  · rintro ⟨s,hs,h⟩
    split at h
    · rename_i hh
      cases h
      exact ⟨hs,rfl,(zkk _ _ (zhj hc i counts) (znb hc hi hk hs)).1 hh⟩
    · cases h
  · rintro ⟨h1,h2,h3⟩
    refine ⟨w.size,h1,?_⟩
    rw[show ((logOf c i k counts w.size).headD Sp.no).some=true from (zkk _ _ (zhj hc i counts) (znb hc hi hk h1)).2 h3]
    obtain ⟨a,b⟩:=w
    simp only at h2;subst h2;rfl
end Clm
end Go.Proofs.YtlcjlcllbgjplaaGreat

/- What the reference computes of a road, and that it is what the program does. -/
namespace Go.Proofs.YtlcjlcllbgjplaaGreat
open Go
namespace Rd
open Clm (Sp Hull spanL)
structure Fine (r:Road):Prop where
  parts:1≤r.parts.length∧r.parts.length≤4
  events:r.events.length≤10
  part:∀ p∈r.parts,(0≤p.full∧p.full≤60)∧(0≤p.height.lo∧p.height.lo≤p.height.hi∧p.height.hi≤p.full∧p.height.hi - p.height.lo≤2)∧(1≤p.stiff.lo∧p.stiff.lo≤p.stiff.hi∧p.stiff.hi≤10∧p.stiff.hi - p.stiff.lo≤2)∧(0≤p.rise.lo∧p.rise.lo≤p.rise.hi∧p.rise.hi≤5∧p.rise.hi - p.rise.lo≤2)
  event:∀ v∈r.events,(v.kind=0∧0≤v.load.lo∧v.load.lo≤v.load.hi∧v.load.hi≤60∧v.load.hi - v.load.lo≤2)∨(v.kind=1∧1≤v.days∧v.days≤10)∨(v.kind=2∧(0≤v.part∧v.part<r.parts.length)∧-1000≤v.shows.lo∧v.shows.lo≤v.shows.hi∧v.shows.hi≤1000)
  doubts:(r.events.filter fun v=>decide (v.kind=0∧v.load.lo<v.load.hi)).length≤4
theorem part_mem {r:Road}{i:Nat}(h:i<r.parts.length):r.parts.getD i default∈r.parts:=by
  rw[List.getD_eq_getElem?_getD,List.getElem?_eq_getElem h];exact List.getElem_mem _
def restI (full rise:Int):Nat→Int→Int
  |0,n=>n
  |d+1,n=>restI full rise d (min full (n+rise))
theorem zir {full rise:Int}(hr:0≤rise):∀ (d:Nat) (n:Int),n≤full→restI full rise d n=min full (n+d * rise)
  |0,n,h=>by simp[restI];omega
  |d+1,n,h=>by
    have hd:0≤(d:Int) * rise:=Int.mul_nonneg (by omega) hr
    rw[restI,zir hr d _ (by omega)]
    rw[show ((d+1:Nat):Int) * rise=(d:Int) * rise+rise by rw[Int.natCast_add,Int.add_mul];simp]
    generalize (d:Int) * rise=x at *
    omega
def stepI (v:Evt)(p:Tr)(h load:Int):Int:=if v.kind=0 then h - sunk p load else if v.kind=1 then restI p.full p.rise v.days.toNat h else h
def afterI (p:Tr):List Evt→List Int→Int→Int
  |[],_,h=>h
  |v::l,ls,h=>afterI p l ls.tail (stepI v p h (ls.headD 0))
def inI (r:Road)(p:Tr)(h:Int)(ls:List Int)(many:Nat):Int:=afterI p (r.events.take many) ls h
theorem zwi {v:Evt}{p:Tr}{h load:Int}(hs:1≤p.stiff)(hr:0≤p.rise)(hf:h≤p.full)(hd:v.kind=1→0≤v.days)(hl:0≤load):stepI v p h load=stepE v p h load∧stepE v p h load≤p.full:=by
  unfold stepI stepE
  have h0:=sunk_nn hs hl
  split
  · exact ⟨rfl,by omega⟩
  · split
    · rename_i h1
      rw[zir hr _ _ hf]
      unfold rested
      have:=hd h1
      rw[show ((v.days.toNat:Nat):Int)=v.days by omega]
      exact ⟨rfl,by omega⟩
    · exact ⟨rfl,hf⟩
theorem zhl {p:Tr}(hs:1≤p.stiff)(hr:0≤p.rise):∀ (l:List Evt) (ls:List Int) (h:Int),h≤p.full→(∀ v∈l,v.kind=1→0≤v.days)→(∀ x∈ls,0≤x)→afterI p l ls h=after p l ls h∧after p l ls h≤p.full
  |[],_,h,hf,_,_=>⟨rfl,hf⟩
  |v::l,ls,h,hf,hd,hl=>by
    have h0:0≤ls.headD 0:=by
      cases ls with
      |nil=>simp
      |cons a t=>exact hl a (by simp)
    obtain ⟨e1,e2⟩:=zwi (v:=v) (load:=ls.headD 0) hs hr hf (hd v (by simp)) h0
    rw[afterI,after,e1]
    exact zhl hs hr l ls.tail _ e2 (fun u hu=>hd u (by simp[hu])) fun x hx=>hl x (List.mem_of_mem_tail hx)
theorem mem_allR:∀ (l:List Evt) (ls:List Int),ls∈allR l→ls.length=l.length∧∀ i (h:i<l.length),(l[i].kind=0→l[i].load.has (ls.getD i 0))∧(l[i].kind≠0→ls.getD i 0=0)
  |[],ls,h=>by
    simp only[allR,List.mem_singleton] at h
    subst h
    exact ⟨rfl,fun i hi=>absurd hi (by simp)⟩
  |v::l,ls,h=>by
    rw[allR] at h
    split at h
    · rename_i hk
      simp only[List.mem_flatMap,List.mem_map] at h
      obtain ⟨k,hk2,t,ht,rfl⟩:=h
      obtain ⟨e1,e2⟩:=mem_allR l t ht
      refine ⟨by simp[e1],fun i hi=>?_⟩
      cases i with
      |zero=>exact ⟨fun _=>(Clm.mem_span v.load k).1 hk2,fun h=>absurd hk h⟩
      |succ i=>exact e2 i (by simpa using hi)
    · rename_i hk
      simp only[List.mem_map] at h
      obtain ⟨t,ht,rfl⟩:=h
      obtain ⟨e1,e2⟩:=mem_allR l t ht
      refine ⟨by simp[e1],fun i hi=>?_⟩
      cases i with
      |zero=>exact ⟨fun h=>absurd h hk,fun _=>rfl⟩
      |succ i=>exact e2 i (by simpa using hi)
theorem load_nn {r:Road}(hr:Fine r){ls:List Int}(h:ls∈allR r.events):∀ x∈ls,0≤x∧x≤60:=by
  obtain ⟨e1,e2⟩:=mem_allR _ _ h
  intro x hx
  obtain ⟨i,hi,rfl⟩:=List.getElem_of_mem hx
  have hi':i<r.events.length:=by omega
  obtain ⟨f1,f2⟩:=e2 i hi'
  have hg:ls.getD i 0=ls[i]:=by rw[List.getD_eq_getElem?_getD,List.getElem?_eq_getElem hi];rfl
  rw[hg] at f1 f2
  have hv:=hr.event _ (List.getElem_mem hi')
  by_cases hk:r.events[i].kind=0
  · have:=f1 hk
    simp only[Sp.has] at this
    rcases hv with hv|hv|hv<;>omega
  · have:=f2 hk
    omega
def statesR (r:Road)(number:Nat)(ls:List Int)(looks:Nat):List (Int × Tr):=
  (spanL (r.parts.getD number default).height).flatMap fun h=>(partsR (r.parts.getD number default)).filterMap fun p=>
    if r.events.zipIdx.all (fun q=>!(bit looks q.2&&q.1.kind==2&&q.1.part==number) || (decide (q.1.shows.lo≤inI r p h ls q.2)&&decide (inI r p h ls q.2≤q.1.shows.hi))) then some (h,p) else none
end Rd
end Go.Proofs.YtlcjlcllbgjplaaGreat

/- Hulls of numbers, as a reference finds them. -/
namespace Go.Proofs.YtlcjlcllbgjplaaGreat
open Go
namespace Clm
theorem isEmpty_iff' {α:Type}(l:List α):(!l.isEmpty)=true↔∃ x,x∈l:=by
  cases l with
  |nil=>simp
  |cons a l=>simp only[List.isEmpty_cons,Bool.not_false,true_iff];exact ⟨a,by simp⟩
def hullR (l:List Int):Sp:=l.foldl (fun s x=>s.either ⟨x,x⟩) ⟨l.headD 0,l.headD 0⟩
theorem zxq {l:List Int}(h:l≠[]):hullR l=hull (l.map fun n=>⟨n,n⟩):=by
  cases l with
  |nil=>exact absurd rfl h
  |cons a l=>
    unfold hullR hull
    simp only[List.map_cons,List.foldl_cons,List.headD_cons,List.foldl_map]
    have:(⟨a,a⟩:Sp).either ⟨a,a⟩=⟨a,a⟩:=by simp[Sp.either]
    rw[this]
theorem hullR_hull {l:List Int}(h:l≠[]):Hull (hullR l) fun x=>x∈l:=by rw[zxq h];exact zun l h
end Clm
end Go.Proofs.YtlcjlcllbgjplaaGreat

/- The reference of roads finds what the program finds. -/
namespace Go.Proofs.YtlcjlcllbgjplaaGreat
open Go
namespace Rd
open Clm (Sp Hull spanL mem_span)
theorem mem_partsR (P:Pt)(p:Tr):p∈partsR P↔P.stiff.has p.stiff∧P.rise.has p.rise∧p.full=P.full:=by
  simp only[partsR,List.mem_flatMap,List.mem_map,mem_span]
  constructor
  · rintro ⟨s,hs,k,hk,rfl⟩;exact ⟨hs,hk,rfl⟩
  · rintro ⟨h1,h2,h3⟩;obtain ⟨a,b,c⟩:=p;exact ⟨a,h1,b,h2,by rw[show c=P.full from h3]⟩
theorem tr_fine {r:Road}(hr:Fine r){i:Nat}(hi:i<r.parts.length){p:Tr}(hp:p∈partsR (r.parts.getD i default)):1≤p.stiff∧p.stiff≤10∧0≤p.rise∧p.rise≤5∧p.full=(r.parts.getD i default).full∧p.full≤60:=by
  obtain ⟨h1,h2,h3⟩:=(mem_partsR _ _).1 hp
  have:=hr.part _ (part_mem hi)
  simp only[Sp.has] at h1 h2
  omega
theorem zmj {r:Road}(hr:Fine r)(m:Nat):∀ v∈r.events.take m,v.kind=1→0≤v.days:=fun v hv hk=>by
  rcases hr.event v (List.mem_of_mem_take hv) with h|h|h<;>omega
theorem inI_eq {r:Road}(hr:Fine r){i:Nat}(hi:i<r.parts.length){p:Tr}(hp:p∈partsR (r.parts.getD i default)){ls:List Int}(hl:ls∈allR r.events){h:Int}(hh:(r.parts.getD i default).height.has h)(m:Nat):inI r p h ls m=heightR r p h ls m:=by
  obtain ⟨a,_,b,_,e,_⟩:=tr_fine hr hi hp
  have:=hr.part _ (part_mem hi)
  simp only[Sp.has] at hh
  exact (zhl a b _ ls h (by omega) (zmj hr m) fun x hx=>(load_nn hr hl x hx).1).1
theorem zpy {r:Road}(hr:Fine r){i:Nat}(hi:i<r.parts.length){ls:List Int}(hl:ls∈allR r.events)(looks:Nat)(h:Int)(p:Tr):(h,p)∈statesR r i ls looks↔p∈partsR (r.parts.getD i default)∧(firstR r i p ls looks).has h:=by
  rw[zeh]
  unfold statesR
  simp only[List.mem_flatMap,List.mem_filterMap,mem_span]
  have key:∀ (p:Tr) (h:Int),p∈partsR (r.parts.getD i default)→(r.parts.getD i default).height.has h→((r.events.zipIdx.all fun q=>!(bit looks q.2&&q.1.kind==2&&q.1.part==i) || (decide (q.1.shows.lo≤inI r p h ls q.2)&&decide (inI r p h ls q.2≤q.1.shows.hi)))=true↔right r i p ls looks h):=by
    intro p h hp hh
    rw[List.all_eq_true]
    unfold right
    refine forall_congr' fun q=>forall_congr' fun _=>?_
    rw[inI_eq hr hi hp hl hh]
    cases bit looks q.2
    · simp
    · by_cases hk:q.1.kind=2
      · by_cases hpt:q.1.part=(i:Int)
        · simp[hk,hpt]
        · simp[hk,hpt]
      · simp[hk]
  constructor
  · rintro ⟨h',hh,p',hp,hif⟩
    split at hif
    · rename_i hc
      cases hif
      exact ⟨hp,hh,(key _ _ hp hh).1 hc⟩
    · cases hif
  · rintro ⟨hp,hh,hr'⟩
    exact ⟨h,hh,p,hp,by rw[if_pos ((key _ _ hp hh).2 hr')]⟩
theorem mem_ways (r:Road)(i:Nat)(ls:List Int)(looks:Nat)(w:Way):w∈waysR r i ls looks↔w.part∈partsR (r.parts.getD i default)∧w.first=firstR r i w.part ls looks∧w.first.lo≤w.first.hi:=by
  unfold waysR
  rw[List.mem_filterMap]
  constructor
  · rintro ⟨p,hp,h⟩
    split at h
    · rename_i hs
      cases h
      exact ⟨hp,rfl,(Clm.some_iff _).1 hs⟩
    · cases h
  · rintro ⟨h1,h2,h3⟩
    obtain ⟨p,f⟩:=w
    simp only at h1 h2 h3
    subst h2
    exact ⟨p,h1,by rw[if_pos ((Clm.some_iff _).2 h3)]⟩
theorem zbh {r:Road}(hr:Fine r){i:Nat}(hi:i<r.parts.length){ls:List Int}(hl:ls∈allR r.events)(looks:Nat)(h:Int)(p:Tr):(h,p)∈statesR r i ls looks↔∃ w∈waysR r i ls looks,w.part=p∧w.first.has h:=by
  rw[zpy hr hi hl]
  constructor
  · rintro ⟨h1,h2⟩
    have h2':=h2
    simp only[Sp.has] at h2
    exact ⟨⟨p,firstR r i p ls looks⟩,(mem_ways _ _ _ _ _).2 ⟨h1,rfl,by simp only;omega⟩,rfl,h2'⟩
  · rintro ⟨w,hw,rfl,h2⟩
    obtain ⟨a,b,_⟩:=(mem_ways _ _ _ _ _).1 hw
    exact ⟨a,b ▸ h2⟩
theorem zsh {r:Road}(hr:Fine r){i:Nat}(hi:i<r.parts.length){ls:List Int}(hl:ls∈allR r.events)(looks:Nat):(!(statesR r i ls looks).isEmpty)=!(waysR r i ls looks).isEmpty:=by
  rw[Bool.eq_iff_iff,Clm.isEmpty_iff',Clm.isEmpty_iff']
  constructor
  · rintro ⟨⟨h,p⟩,hx⟩
    obtain ⟨w,hw,_⟩:=(zbh hr hi hl looks h p).1 hx
    exact ⟨w,hw⟩
  · rintro ⟨w,hw⟩
    obtain ⟨_,_,h3⟩:=(mem_ways _ _ _ _ _).1 hw
    exact ⟨(w.first.lo,w.part),(zbh hr hi hl looks _ _).2 ⟨w,hw,rfl,Int.le_refl _,h3⟩⟩
def casesR (r:Road)(looks:Nat):List (List Int × List (List (Int × Tr))):=
  (allR r.events).filterMap fun ls=>if ((List.range r.parts.length).map fun i=>statesR r i ls looks).all (fun l=>!l.isEmpty) then some (ls,(List.range r.parts.length).map fun i=>statesR r i ls looks) else none
theorem cases_told {r:Road}(hr:Fine r)(looks:Nat):casesR r looks=(toldR r looks).map fun ls=>(ls,(List.range r.parts.length).map fun i=>statesR r i ls looks):=by
  unfold casesR toldR
  have key:∀ ls∈allR r.events,(((List.range r.parts.length).map fun i=>statesR r i ls looks).all fun l=>!l.isEmpty)=(List.range r.parts.length).all fun i=>!(waysR r i ls looks).isEmpty:=by
    intro ls hl
    rw[List.all_map,Bool.eq_iff_iff,List.all_eq_true,List.all_eq_true]
    refine forall_congr' fun i=>forall_congr' fun hi=>?_
    show (!(statesR r i ls looks).isEmpty)=true↔_
    rw[zsh hr (List.mem_range.1 hi) hl]
  generalize allR r.events=L at key
  induction L with
  |nil=>rfl
  |cons k L ih=>
    have ih':=ih fun k hk=>key k (by simp[hk])
    have hk:=key k (by simp)
    simp only[List.filterMap_cons,List.filter_cons,hk]
    by_cases h:((List.range r.parts.length).all fun i=>!(waysR r i k looks).isEmpty)=true
    · rw[if_pos h,if_pos h,List.map_cons,ih']
    · rw[if_neg h,if_neg h,ih']
theorem told_in {r:Road}{looks:Nat}{ls:List Int}(h:ls∈toldR r looks):ls∈allR r.events∧∀ i,i<r.parts.length→waysR r i ls looks≠[]:=by
  unfold toldR at h
  obtain ⟨h1,h2⟩:=List.mem_filter.1 h
  rw[List.all_eq_true] at h2
  refine ⟨h1,fun i hi e=>?_⟩
  have:=h2 i (List.mem_range.2 hi)
  rw[e] at this;cases this
theorem zjr {r:Road}(hcan:canR r (everyR r)=true){i:Nat}(hi:i<r.parts.length)(f:Way→List Int→Sp)(P:Way→List Int→Int→Prop)(hP:∀ ls w,ls∈toldR r (everyR r)→w∈waysR r i ls (everyR r)→Hull (f w ls) (P w ls)):
    Hull (spanR r i f) fun x=>∃ ls∈toldR r (everyR r),∃ w∈waysR r i ls (everyR r),P w ls x:=by
  have e:spanR r i f=Clm.hull (((toldR r (everyR r)).flatMap fun ls=>(waysR r i ls (everyR r)).map fun w=>(ls,w)).map fun q=>f q.2 q.1):=by
    unfold spanR
    congr 1
    rw[List.map_flatMap]
    simp only[List.map_map]
    rfl
  rw[e]
  refine (Clm.hull_hull (fun (q:List Int × Way)=>f q.2 q.1) (fun q x=>P q.2 q.1 x) _ ?_ fun q hq=>?_).congr fun x=>?_
  · unfold canR at hcan
    obtain ⟨ls,hls⟩:=(Clm.isEmpty_iff' _).1 hcan
    obtain ⟨w,hw⟩:=List.exists_mem_of_ne_nil _ ((told_in hls).2 i hi)
    exact List.ne_nil_of_mem (List.mem_flatMap.2 ⟨ls,hls,List.mem_map.2 ⟨w,hw,rfl⟩⟩)
  · obtain ⟨ls,hls,h⟩:=List.mem_flatMap.1 hq
    obtain ⟨w,hw,rfl⟩:=List.mem_map.1 h
    exact hP ls w hls hw
  · constructor
    · rintro ⟨q,hq,h⟩
      obtain ⟨ls,hls,hq⟩:=List.mem_flatMap.1 hq
      obtain ⟨w,hw,rfl⟩:=List.mem_map.1 hq
      exact ⟨ls,hls,w,hw,h⟩
    · rintro ⟨ls,hls,w,hw,h⟩
      exact ⟨(ls,w),List.mem_flatMap.2 ⟨ls,hls,List.mem_map.2 ⟨w,hw,rfl⟩⟩,h⟩
theorem zks {r:Road}(hcan:canR r (everyR r)=true){i:Nat}(hi:i<r.parts.length)(many:Nat):Hull (heightsR r i many) fun x=>∃ ls∈toldR r (everyR r),∃ w∈waysR r i ls (everyR r),∃ h,w.first.has h∧x=heightR r w.part h ls many:=
  zjr hcan hi _ _ fun ls w _ hw=>by
    obtain ⟨_,_,h3⟩:=(mem_ways _ _ _ _ _).1 hw
    refine ⟨⟨w.first.lo,⟨Int.le_refl _,h3⟩,rfl⟩,⟨w.first.hi,⟨h3,Int.le_refl _⟩,rfl⟩,?_⟩
    rintro x ⟨h,⟨a,b⟩,rfl⟩
    exact ⟨zch _ _ _ a,zch _ _ _ b⟩
theorem zot {r:Road}(hcan:canR r (everyR r)=true){i:Nat}(hi:i<r.parts.length)(load:Int):Hull (sinksR r i load) fun x=>∃ ls∈toldR r (everyR r),∃ w∈waysR r i ls (everyR r),x=sunk w.part load:=
  zjr hcan hi _ _ fun ls w _ _=>⟨rfl,rfl,fun x e=>by subst e;exact ⟨Int.le_refl _,Int.le_refl _⟩⟩
def heightL (r:Road)(i many:Nat):List Int:=(casesR r (everyR r)).flatMap fun d=>(d.2.getD i []).map fun x=>inI r x.2 x.1 d.1 many
def sinkL (r:Road)(i:Nat)(load:Int):List Int:=(casesR r (everyR r)).flatMap fun d=>(d.2.getD i []).map fun x=>sunk x.2 load
theorem zbn {r:Road}{i:Nat}(hi:i<r.parts.length)(ls:List Int)(looks:Nat):((List.range r.parts.length).map fun i=>statesR r i ls looks).getD i []=statesR r i ls looks:=by
  simp[List.getD_eq_getElem?_getD,List.getElem?_map,List.getElem?_range hi]
theorem heights_ref {r:Road}(hr:Fine r)(hcan:canR r (everyR r)=true){i:Nat}(hi:i<r.parts.length)(many:Nat):Clm.hullR (heightL r i many)=heightsR r i many:=by
  have hm:∀ x,x∈heightL r i many↔∃ ls∈toldR r (everyR r),∃ w∈waysR r i ls (everyR r),∃ h,w.first.has h∧x=heightR r w.part h ls many:=fun x=>by
    unfold heightL
    rw[cases_told hr]
    simp only[List.mem_flatMap,List.mem_map]
    constructor
    · rintro ⟨d,⟨ls,hls,rfl⟩,⟨h,p⟩,hx,rfl⟩
      simp only[zbn hi] at hx
      obtain ⟨w,hw,rfl,hh⟩:=(zbh hr hi (told_in hls).1 _ h p).1 hx
      obtain ⟨q1,q2,_⟩:=(mem_ways _ _ _ _ _).1 hw
      rw[q2] at hh
      exact ⟨ls,hls,w,hw,h,by rw[q2];exact hh,inI_eq hr hi q1 (told_in hls).1 ((zeh _ _ _ _ _ _).1 hh).1 many⟩
    · rintro ⟨ls,hls,w,hw,h,hh,rfl⟩
      obtain ⟨q1,q2,_⟩:=(mem_ways _ _ _ _ _).1 hw
      refine ⟨_,⟨ls,hls,rfl⟩,(h,w.part),by simp only[zbn hi];exact (zbh hr hi (told_in hls).1 _ _ _).2 ⟨w,hw,rfl,hh⟩,?_⟩
      rw[q2] at hh
      exact inI_eq hr hi q1 (told_in hls).1 ((zeh _ _ _ _ _ _).1 hh).1 many
  have hh:=zks hcan hi many
  exact ((Clm.hullR_hull (List.ne_nil_of_mem ((hm _).2 hh.lo))).congr hm).uniq hh
theorem sinks_ref {r:Road}(hr:Fine r)(hcan:canR r (everyR r)=true){i:Nat}(hi:i<r.parts.length)(load:Int):Clm.hullR (sinkL r i load)=sinksR r i load:=by
  have hm:∀ x,x∈sinkL r i load↔∃ ls∈toldR r (everyR r),∃ w∈waysR r i ls (everyR r),x=sunk w.part load:=fun x=>by
    unfold sinkL
    rw[cases_told hr]
    simp only[List.mem_flatMap,List.mem_map]
    constructor
    · rintro ⟨d,⟨ls,hls,rfl⟩,⟨h,p⟩,hx,rfl⟩
      simp only[zbn hi] at hx
      obtain ⟨w,hw,rfl,_⟩:=(zbh hr hi (told_in hls).1 _ h p).1 hx
      exact ⟨ls,hls,w,hw,rfl⟩
    · rintro ⟨ls,hls,w,hw,rfl⟩
      obtain ⟨_,_,h3⟩:=(mem_ways _ _ _ _ _).1 hw
      exact ⟨_,⟨ls,hls,rfl⟩,(w.first.lo,w.part),by simp only[zbn hi];exact (zbh hr hi (told_in hls).1 _ _ _).2 ⟨w,hw,rfl,Int.le_refl _,h3⟩,rfl⟩
  have hh:=zot hcan hi load
  exact ((Clm.hullR_hull (List.ne_nil_of_mem ((hm _).2 hh.lo))).congr hm).uniq hh
end Rd
end Go.Proofs.YtlcjlcllbgjplaaGreat

/- Sets, by their sizes. No program in sight. -/
namespace Go.Proofs.YtlcjlcllbgjplaaGreat
namespace Clm
set_option maxRecDepth 100000
def cntF:Nat→Nat→Nat
  |0,_=>0
  |f+1,n=>n % 2+cntF f (n / 2)
def sizeN (n:Nat):Nat:=cntF 16 n
def ltS (a b:Nat):Bool:=decide (sizeN a<sizeN b) || (sizeN a==sizeN b&&decide (a<b))
theorem zzd (a b:Nat):ltS a b=true↔sizeN a<sizeN b∨sizeN a=sizeN b∧a<b:=by
  simp[ltS]
theorem find_least {p:Nat→Bool}{S:Nat}:∀ {l:List Nat},l.Pairwise (fun a b=>ltS a b=true)→l.find? p=some S→S∈l∧p S=true∧∀ o∈l,p o=true→sizeN S<sizeN o∨sizeN S=sizeN o∧S≤o
  |[],_,h=>by simp at h
  |a::l,hp,h=>by
    cases hp with
    |cons h1 h2=>
      rw[List.find?_cons] at h
      split at h
      · rename_i ha
        cases h
        refine ⟨by simp,ha,fun o ho hpo=>?_⟩
        rcases List.mem_cons.1 ho with rfl|ho
        · exact .inr ⟨rfl,Nat.le_refl _⟩
        · rcases (zzd _ _).1 (h1 o ho) with h|⟨h,h'⟩
          · exact .inl h
          · exact .inr ⟨h,Nat.le_of_lt h'⟩
      · rename_i ha
        obtain ⟨g1,g2,g3⟩:=find_least h2 h
        refine ⟨by simp[g1],g2,fun o ho hpo=>?_⟩
        rcases List.mem_cons.1 ho with rfl|ho
        · rw[hpo] at ha;cases ha
        · exact g3 o ho hpo
end Clm
end Go.Proofs.YtlcjlcllbgjplaaGreat

/- Sets as numbers. -/
namespace Go.Proofs.YtlcjlcllbgjplaaGreat
open Go
namespace Clm
def setOf (p:Nat→Bool):Nat→Nat
  |0=>0
  |i+1=>if p i then setOf p i+2 ^ i else setOf p i
theorem setOf_lt (p:Nat→Bool):∀ n,setOf p n<2 ^ n
  |0=>by simp[setOf]
  |n+1=>by
    have:=setOf_lt p n
    unfold setOf
    rw[Nat.pow_succ]
    split<;>omega
theorem setOf_bit (p:Nat→Bool):∀ n i,(setOf p n).testBit i=(decide (i<n)&&p i)
  |0,i=>by simp[setOf]
  |n+1,i=>by
    have ih:=setOf_bit p n i
    have hl:=setOf_lt p n
    have hl1:=setOf_lt p (n+1)
    rcases Nat.lt_trichotomy i n with h|h|h
    · have e:(setOf p (n+1)).testBit i=(setOf p n).testBit i:=by
        show (if p n then setOf p n+2 ^ n else setOf p n).testBit i=_
        split
        · rw[Nat.add_comm,Nat.testBit_two_pow_add_gt h]
        · rfl
      rw[e,ih]
      congr 1
      simp;omega
    · subst h
      have h0:(setOf p i).testBit i=false:=Nat.testBit_lt_two_pow hl
      have e:(setOf p (i+1)).testBit i=p i:=by
        show (if p i then setOf p i+2 ^ i else setOf p i).testBit i=_
        split
        · rename_i hp
          rw[Nat.add_comm,Nat.testBit_two_pow_add_eq,h0,hp];rfl
        · rename_i hp
          rw[h0];simpa using hp
      rw[e];simp
    · rw[Nat.testBit_lt_two_pow (Nat.lt_of_lt_of_le hl1 (Nat.pow_le_pow_right (by decide) (by omega)))]
      simp;omega
theorem every_bit (c:Cl)(i:Nat):(every c).testBit i=decide (i<c.events.length):=by
  unfold every;rw[Nat.testBit_two_pow_sub_one]
end Clm
end Go.Proofs.YtlcjlcllbgjplaaGreat
