/- The code of the functions, for the evaluator: the table. Printed by program. -/
import Derived.Test.YtcaejedfjobooaaAcClamp1
namespace Go.Proofs.Ytcaejedfjobooaa
open Go
namespace Ev
def fnTbl : Nat → Option AFunc
  | 3 => some af3
  | 5 => some af5
  | 6 => some af6
  | 7 => some af7
  | 8 => some af8
  | 9 => some af9
  | 10 => some af10
  | 11 => some af11
  | 12 => some af12
  | 13 => some af13
  | 14 => some af14
  | 15 => some af15
  | 29 => some af29
  | 30 => some af30
  | 31 => some af31
  | 32 => some af32
  | 33 => some af33
  | 34 => some af34
  | 35 => some af35
  | 36 => some af36
  | 38 => some af38
  | 40 => some af40
  | 42 => some af42
  | 43 => some af43
  | 44 => some af44
  | 45 => some af45
  | 46 => some af46
  | 47 => some af47
  | 49 => some af49
  | 50 => some af50
  | 51 => some af51
  | 52 => some af52
  | 54 => some af54
  | 55 => some af55
  | 56 => some af56
  | 57 => some af57
  | 58 => some af58
  | 59 => some af59
  | 60 => some af60
  | 93 => some af93
  | 95 => some af95
  | 103 => some af103
  | 104 => some af104
  | 105 => some af105
  | 106 => some af106
  | 107 => some af107
  | 108 => some af108
  | 109 => some af109
  | 110 => some af110
  | 111 => some af111
  | 112 => some af112
  | 113 => some af113
  | 128 => some af128
  | 130 => some af130
  | 134 => some af134
  | 135 => some af135
  | 136 => some af136
  | 143 => some af143
  | 144 => some af144
  | 145 => some af145
  | 146 => some af146
  | 147 => some af147
  | 151 => some af151
  | 152 => some af152
  | 153 => some af153
  | 154 => some af154
  | 155 => some af155
  | 156 => some af156
  | 175 => some af175
  | 176 => some af176
  | 177 => some af177
  | 178 => some af178
  | _ => none
def fnTree : FT := (.node 58 af58 (.node 35 af35 (.node 13 af13 (.node 8 af8 (.node 6 af6 (.node 5 af5 (.node 3 af3 .leaf .leaf) .leaf) (.node 7 af7 .leaf .leaf)) (.node 11 af11 (.node 10 af10 (.node 9 af9 .leaf .leaf) .leaf) (.node 12 af12 .leaf .leaf))) (.node 31 af31 (.node 29 af29 (.node 15 af15 (.node 14 af14 .leaf .leaf) .leaf) (.node 30 af30 .leaf .leaf)) (.node 33 af33 (.node 32 af32 .leaf .leaf) (.node 34 af34 .leaf .leaf)))) (.node 47 af47 (.node 43 af43 (.node 40 af40 (.node 38 af38 (.node 36 af36 .leaf .leaf) .leaf) (.node 42 af42 .leaf .leaf)) (.node 45 af45 (.node 44 af44 .leaf .leaf) (.node 46 af46 .leaf .leaf))) (.node 54 af54 (.node 51 af51 (.node 50 af50 (.node 49 af49 .leaf .leaf) .leaf) (.node 52 af52 .leaf .leaf)) (.node 56 af56 (.node 55 af55 .leaf .leaf) (.node 57 af57 .leaf .leaf))))) (.node 134 af134 (.node 107 af107 (.node 103 af103 (.node 93 af93 (.node 60 af60 (.node 59 af59 .leaf .leaf) .leaf) (.node 95 af95 .leaf .leaf)) (.node 105 af105 (.node 104 af104 .leaf .leaf) (.node 106 af106 .leaf .leaf))) (.node 112 af112 (.node 110 af110 (.node 109 af109 (.node 108 af108 .leaf .leaf) .leaf) (.node 111 af111 .leaf .leaf)) (.node 128 af128 (.node 113 af113 .leaf .leaf) (.node 130 af130 .leaf .leaf)))) (.node 152 af152 (.node 145 af145 (.node 143 af143 (.node 136 af136 (.node 135 af135 .leaf .leaf) .leaf) (.node 144 af144 .leaf .leaf)) (.node 147 af147 (.node 146 af146 .leaf .leaf) (.node 151 af151 .leaf .leaf))) (.node 175 af175 (.node 155 af155 (.node 154 af154 (.node 153 af153 .leaf .leaf) .leaf) (.node 156 af156 .leaf .leaf)) (.node 177 af177 (.node 176 af176 .leaf .leaf) (.node 178 af178 .leaf .leaf))))))
end Ev
end Go.Proofs.Ytcaejedfjobooaa
