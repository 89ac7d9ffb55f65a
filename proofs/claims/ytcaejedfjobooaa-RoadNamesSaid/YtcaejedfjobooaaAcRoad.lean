/- The code of the functions, for the evaluator: the table. Printed by program. -/
import Derived.Test.YtcaejedfjobooaaAcRoad1
namespace Go.Proofs.Ytcaejedfjobooaa
open Go
namespace Ev
def fnTbl : Nat → Option AFunc
  | 4 => some af4
  | 16 => some af16
  | 17 => some af17
  | 18 => some af18
  | 19 => some af19
  | 20 => some af20
  | 21 => some af21
  | 22 => some af22
  | 23 => some af23
  | 24 => some af24
  | 25 => some af25
  | 26 => some af26
  | 61 => some af61
  | 62 => some af62
  | 63 => some af63
  | 66 => some af66
  | 67 => some af67
  | 68 => some af68
  | 69 => some af69
  | 70 => some af70
  | 71 => some af71
  | 73 => some af73
  | 74 => some af74
  | 75 => some af75
  | 76 => some af76
  | 77 => some af77
  | 79 => some af79
  | 80 => some af80
  | 81 => some af81
  | 83 => some af83
  | 84 => some af84
  | 85 => some af85
  | 86 => some af86
  | 88 => some af88
  | 89 => some af89
  | 90 => some af90
  | 91 => some af91
  | 92 => some af92
  | 93 => some af93
  | 94 => some af94
  | 95 => some af95
  | 96 => some af96
  | 97 => some af97
  | 98 => some af98
  | 100 => some af100
  | 101 => some af101
  | 102 => some af102
  | 116 => some af116
  | 117 => some af117
  | 118 => some af118
  | 119 => some af119
  | 120 => some af120
  | 121 => some af121
  | 122 => some af122
  | 123 => some af123
  | 124 => some af124
  | 125 => some af125
  | 126 => some af126
  | 127 => some af127
  | 128 => some af128
  | 130 => some af130
  | 131 => some af131
  | 137 => some af137
  | 138 => some af138
  | 139 => some af139
  | 140 => some af140
  | 141 => some af141
  | 142 => some af142
  | 143 => some af143
  | 144 => some af144
  | 148 => some af148
  | 149 => some af149
  | 150 => some af150
  | 151 => some af151
  | 155 => some af155
  | 172 => some af172
  | 173 => some af173
  | _ => none
def fnTree : FT := (.node 93 af93 (.node 70 af70 (.node 24 af24 (.node 19 af19 (.node 17 af17 (.node 16 af16 (.node 4 af4 .leaf .leaf) .leaf) (.node 18 af18 .leaf .leaf)) (.node 22 af22 (.node 21 af21 (.node 20 af20 .leaf .leaf) .leaf) (.node 23 af23 .leaf .leaf))) (.node 63 af63 (.node 61 af61 (.node 26 af26 (.node 25 af25 .leaf .leaf) .leaf) (.node 62 af62 .leaf .leaf)) (.node 68 af68 (.node 67 af67 (.node 66 af66 .leaf .leaf) .leaf) (.node 69 af69 .leaf .leaf)))) (.node 83 af83 (.node 76 af76 (.node 74 af74 (.node 73 af73 (.node 71 af71 .leaf .leaf) .leaf) (.node 75 af75 .leaf .leaf)) (.node 80 af80 (.node 79 af79 (.node 77 af77 .leaf .leaf) .leaf) (.node 81 af81 .leaf .leaf))) (.node 89 af89 (.node 86 af86 (.node 85 af85 (.node 84 af84 .leaf .leaf) .leaf) (.node 88 af88 .leaf .leaf)) (.node 91 af91 (.node 90 af90 .leaf .leaf) (.node 92 af92 .leaf .leaf))))) (.node 127 af127 (.node 117 af117 (.node 98 af98 (.node 96 af96 (.node 95 af95 (.node 94 af94 .leaf .leaf) .leaf) (.node 97 af97 .leaf .leaf)) (.node 102 af102 (.node 101 af101 (.node 100 af100 .leaf .leaf) .leaf) (.node 116 af116 .leaf .leaf))) (.node 122 af122 (.node 120 af120 (.node 119 af119 (.node 118 af118 .leaf .leaf) .leaf) (.node 121 af121 .leaf .leaf)) (.node 125 af125 (.node 124 af124 (.node 123 af123 .leaf .leaf) .leaf) (.node 126 af126 .leaf .leaf)))) (.node 143 af143 (.node 138 af138 (.node 131 af131 (.node 130 af130 (.node 128 af128 .leaf .leaf) .leaf) (.node 137 af137 .leaf .leaf)) (.node 141 af141 (.node 140 af140 (.node 139 af139 .leaf .leaf) .leaf) (.node 142 af142 .leaf .leaf))) (.node 151 af151 (.node 149 af149 (.node 148 af148 (.node 144 af144 .leaf .leaf) .leaf) (.node 150 af150 .leaf .leaf)) (.node 172 af172 (.node 155 af155 .leaf .leaf) (.node 173 af173 .leaf .leaf))))))
end Ev
end Go.Proofs.Ytcaejedfjobooaa
