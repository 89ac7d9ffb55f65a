/-
  No cell of these rows narrows 'for every input' (looked for: loops, veiled, ifaces, maps, wideKeys, modest, calm, conditions, laid).
  DERIVED. THE GIVEN ROWS OF THIS SEAT. 7 by the template 'for every input the law returns true; each argument reads behind the call as it read before'; 0 by the template 'total and deterministic' (their statements: YtimgnlellflciaaTotals.lean).
  GIVEN WITH THE SEED: the statements are not yours to turn. If you find one false, say at which input.
  Laid BY PROGRAM, IN A SANDBOX (cutbox-rows.mjs): the forced cells as the released guide's own fill.sh prints them over the translation d4adf4deca151c12… (all of the seat's roots in one cut). By AI agents, Wed Nov 11 2026. No macro, syntax, notation, axiom, sorry.
-/
import Derived.Test.YtimgnlellflciaaChecked
import GoSem.Claim
import GoSem.ClaimJoined
import GoSem.ClaimMapViews
import Derived.JoinedTies
import Derived.KernelRfl
namespace Go.Proofs.Ytimgnlellflciaa
/- THE CELL 'sum', in the pinned program and in every row, IS THE sha256 OF THE DUMP (.gsa) THAT YtimgnlellflciaaProg.lean LOADS. Nothing in Lean hashes anything: it is a label: what it is worth is what the hold of that sum in a sandbox is worth. -/
noncomputable def Try.pinned : Pinned := { name := "ytimgnlellflciaa", sum := "d4adf4deca151c1223cf85db4553a99696242d008c46aa2b35e706c15bc98c7c", checked := Try.checked }
namespace Rows
def none {H : Type} : Left H := { results := [], args := [] }

/-- 'bogworkslaw09.ClampNames': WHATEVER THE INPUT: true; the input reads as it did. -/
def clampNamesSpec : ChangeSpec := { name := "clampNames", fn := fun _ => fun
  | [] => { results := [.lit (.bool true)], args := [] }
  | _ => none }
def clampNamesRow : OpenClaim := { program := "ytimgnlellflciaa", sum := "d4adf4deca151c1223cf85db4553a99696242d008c46aa2b35e706c15bc98c7c", func := "bogworks/bogworkslaw09.ClampNames", spec := "clampNames", unfollowed := true, recurses := true, plainKeys := false, apart := false }
def ClampNamesSaid : Prop := clampNamesRow.holds Try.pinned (OpenSpec.ofChange clampNamesSpec)

/-- ITS FALSE NEIGHBOUR: 'it returns false'. Refute it at one input. -/
def clampNamesWrong : ChangeSpec := { name := "clampNames", fn := fun _ => fun
  | [] => { results := [.lit (.bool false)], args := [] }
  | _ => none }
def ClampNamesWrongFalsely : Prop := clampNamesRow.holds Try.pinned (OpenSpec.ofChange clampNamesWrong)

/-- 'bogworkslaw09.ClampTrue': WHATEVER THE INPUT: true; the input reads as it did. -/
def clampTrueSpec : ChangeSpec := { name := "clampTrue", fn := fun _ => fun
  | [d1, d2, d3] => { results := [.lit (.bool true)], args := [d1, d2, d3] }
  | _ => none }
def clampTrueRow : OpenClaim := { program := "ytimgnlellflciaa", sum := "d4adf4deca151c1223cf85db4553a99696242d008c46aa2b35e706c15bc98c7c", func := "bogworks/bogworkslaw09.ClampTrue", spec := "clampTrue", unfollowed := true, recurses := true, plainKeys := false, apart := false }
def ClampTrueSaid : Prop := clampTrueRow.holds Try.pinned (OpenSpec.ofChange clampTrueSpec)

/-- ITS FALSE NEIGHBOUR: 'it returns false'. Refute it at one input. -/
def clampTrueWrong : ChangeSpec := { name := "clampTrue", fn := fun _ => fun
  | [d1, d2, d3] => { results := [.lit (.bool false)], args := [d1, d2, d3] }
  | _ => none }
def ClampTrueWrongFalsely : Prop := clampTrueRow.holds Try.pinned (OpenSpec.ofChange clampTrueWrong)

/-- 'bogworkslaw09.ClampEnds': WHATEVER THE INPUT: true; the input reads as it did. -/
def clampEndsSpec : ChangeSpec := { name := "clampEnds", fn := fun _ => fun
  | [d1, d2, d3] => { results := [.lit (.bool true)], args := [d1, d2, d3] }
  | _ => none }
def clampEndsRow : OpenClaim := { program := "ytimgnlellflciaa", sum := "d4adf4deca151c1223cf85db4553a99696242d008c46aa2b35e706c15bc98c7c", func := "bogworks/bogworkslaw09.ClampEnds", spec := "clampEnds", unfollowed := true, recurses := true, plainKeys := false, apart := false }
def ClampEndsSaid : Prop := clampEndsRow.holds Try.pinned (OpenSpec.ofChange clampEndsSpec)

/-- ITS FALSE NEIGHBOUR: 'it returns false'. Refute it at one input. -/
def clampEndsWrong : ChangeSpec := { name := "clampEnds", fn := fun _ => fun
  | [d1, d2, d3] => { results := [.lit (.bool false)], args := [d1, d2, d3] }
  | _ => none }
def ClampEndsWrongFalsely : Prop := clampEndsRow.holds Try.pinned (OpenSpec.ofChange clampEndsWrong)

/-- 'bogworkslaw09.ClampAll': WHATEVER THE INPUT: true; the input reads as it did. -/
def clampAllSpec : ChangeSpec := { name := "clampAll", fn := fun _ => fun
  | [d] => { results := [.lit (.bool true)], args := [d] }
  | _ => none }
def clampAllRow : OpenClaim := { program := "ytimgnlellflciaa", sum := "d4adf4deca151c1223cf85db4553a99696242d008c46aa2b35e706c15bc98c7c", func := "bogworks/bogworkslaw09.ClampAll", spec := "clampAll", unfollowed := true, recurses := true, plainKeys := false, apart := false }
def ClampAllSaid : Prop := clampAllRow.holds Try.pinned (OpenSpec.ofChange clampAllSpec)

/-- ITS FALSE NEIGHBOUR: 'it returns false'. Refute it at one input. -/
def clampAllWrong : ChangeSpec := { name := "clampAll", fn := fun _ => fun
  | [d] => { results := [.lit (.bool false)], args := [d] }
  | _ => none }
def ClampAllWrongFalsely : Prop := clampAllRow.holds Try.pinned (OpenSpec.ofChange clampAllWrong)

/-- 'bogworkslaw09.ClampShare': WHATEVER THE INPUT: true; the input reads as it did. -/
def clampShareSpec : ChangeSpec := { name := "clampShare", fn := fun _ => fun
  | [d1, d2, d3] => { results := [.lit (.bool true)], args := [d1, d2, d3] }
  | _ => none }
def clampShareRow : OpenClaim := { program := "ytimgnlellflciaa", sum := "d4adf4deca151c1223cf85db4553a99696242d008c46aa2b35e706c15bc98c7c", func := "bogworks/bogworkslaw09.ClampShare", spec := "clampShare", unfollowed := true, recurses := true, plainKeys := false, apart := false }
def ClampShareSaid : Prop := clampShareRow.holds Try.pinned (OpenSpec.ofChange clampShareSpec)

/-- ITS FALSE NEIGHBOUR: 'it returns false'. Refute it at one input. -/
def clampShareWrong : ChangeSpec := { name := "clampShare", fn := fun _ => fun
  | [d1, d2, d3] => { results := [.lit (.bool false)], args := [d1, d2, d3] }
  | _ => none }
def ClampShareWrongFalsely : Prop := clampShareRow.holds Try.pinned (OpenSpec.ofChange clampShareWrong)

/-- 'bogworkslaw09.ClampClash': WHATEVER THE INPUT: true; the input reads as it did. -/
def clampClashSpec : ChangeSpec := { name := "clampClash", fn := fun _ => fun
  | [d1, d2] => { results := [.lit (.bool true)], args := [d1, d2] }
  | _ => none }
def clampClashRow : OpenClaim := { program := "ytimgnlellflciaa", sum := "d4adf4deca151c1223cf85db4553a99696242d008c46aa2b35e706c15bc98c7c", func := "bogworks/bogworkslaw09.ClampClash", spec := "clampClash", unfollowed := true, recurses := true, plainKeys := false, apart := false }
def ClampClashSaid : Prop := clampClashRow.holds Try.pinned (OpenSpec.ofChange clampClashSpec)

/-- ITS FALSE NEIGHBOUR: 'it returns false'. Refute it at one input. -/
def clampClashWrong : ChangeSpec := { name := "clampClash", fn := fun _ => fun
  | [d1, d2] => { results := [.lit (.bool false)], args := [d1, d2] }
  | _ => none }
def ClampClashWrongFalsely : Prop := clampClashRow.holds Try.pinned (OpenSpec.ofChange clampClashWrong)

/-- 'bogworkslaw09.ClampMore': WHATEVER THE INPUT: true; the input reads as it did. -/
def clampMoreSpec : ChangeSpec := { name := "clampMore", fn := fun _ => fun
  | [d1, d2, d3, d4, d5] => { results := [.lit (.bool true)], args := [d1, d2, d3, d4, d5] }
  | _ => none }
def clampMoreRow : OpenClaim := { program := "ytimgnlellflciaa", sum := "d4adf4deca151c1223cf85db4553a99696242d008c46aa2b35e706c15bc98c7c", func := "bogworks/bogworkslaw09.ClampMore", spec := "clampMore", unfollowed := true, recurses := true, plainKeys := false, apart := false }
def ClampMoreSaid : Prop := clampMoreRow.holds Try.pinned (OpenSpec.ofChange clampMoreSpec)

/-- ITS FALSE NEIGHBOUR: 'it returns false'. Refute it at one input. -/
def clampMoreWrong : ChangeSpec := { name := "clampMore", fn := fun _ => fun
  | [d1, d2, d3, d4, d5] => { results := [.lit (.bool false)], args := [d1, d2, d3, d4, d5] }
  | _ => none }
def ClampMoreWrongFalsely : Prop := clampMoreRow.holds Try.pinned (OpenSpec.ofChange clampMoreWrong)

/- THE SECOND FORM. 'bulk': how many values and letters a reading holds, each counted each time it is reached (what is shared counts as often as it is met; a slice's spare places count too). A statement '..UptoSaid' is the law's where the arguments, and the package variables that the reading takes, are together of bulk at most 1048576: NARROWER than '..Said'. Prove '..Said' where nothing that the law and all that it calls make is longer than what came in: it says more and counts as full. Else prove '..UptoSaid'. A law counts once. -/
mutual
def uptoBulk {H : Type} : DataW H → Nat
  | .lit (.string bytes) => bytes.length + 1
  | .lit _ => 1
  | .nil => 1
  | .ptr d => uptoBulk d + 1
  | .slice elems spare => uptoBulkAll elems + uptoBulkAll spare + 1
  | .agg parts => uptoBulkAll parts + 1
  | .iface _ d => uptoBulk d + 1
  | .map entries => uptoBulkEntries entries + 1
  | .held _ => 1
def uptoBulkAll {H : Type} : List (DataW H) → Nat
  | [] => 0
  | d :: r => uptoBulk d + uptoBulkAll r
def uptoBulkEntries {H : Type} : List (Lit × DataW H) → Nat
  | [] => 0
  | x :: r => uptoBulkEntry x + uptoBulkEntries r
def uptoBulkEntry {H : Type} : Lit × DataW H → Nat
  | (.string bytes, d) => bytes.length + uptoBulk d + 1
  | (_, d) => uptoBulk d + 1
 end
def uptoSmall : (H : Type) → List (DataW H) → Bool := fun _ ds => decide (uptoBulkAll ds ≤ 1048576)
def OpenSpec.upto (s : _root_.Go.ChangeSpec) : _root_.Go.OpenSpec := { _root_.Go.OpenSpec.ofChange s with cond := some uptoSmall }

/-- 'bogworkslaw09.ClampNames', WHERE WHAT IT READS IS OF BULK AT MOST 1048576: true; the input reads as it did. -/
def clampNamesUptoRow : OpenClaim := { program := "ytimgnlellflciaa", sum := "d4adf4deca151c1223cf85db4553a99696242d008c46aa2b35e706c15bc98c7c", func := "bogworks/bogworkslaw09.ClampNames", spec := "clampNames", unfollowed := true, recurses := true, plainKeys := false, apart := false, narrowed := true }
def ClampNamesUptoSaid : Prop := clampNamesUptoRow.holds Try.pinned (OpenSpec.upto clampNamesSpec)

/-- 'bogworkslaw09.ClampTrue', WHERE WHAT IT READS IS OF BULK AT MOST 1048576: true; the input reads as it did. -/
def clampTrueUptoRow : OpenClaim := { program := "ytimgnlellflciaa", sum := "d4adf4deca151c1223cf85db4553a99696242d008c46aa2b35e706c15bc98c7c", func := "bogworks/bogworkslaw09.ClampTrue", spec := "clampTrue", unfollowed := true, recurses := true, plainKeys := false, apart := false, narrowed := true }
def ClampTrueUptoSaid : Prop := clampTrueUptoRow.holds Try.pinned (OpenSpec.upto clampTrueSpec)

/-- 'bogworkslaw09.ClampEnds', WHERE WHAT IT READS IS OF BULK AT MOST 1048576: true; the input reads as it did. -/
def clampEndsUptoRow : OpenClaim := { program := "ytimgnlellflciaa", sum := "d4adf4deca151c1223cf85db4553a99696242d008c46aa2b35e706c15bc98c7c", func := "bogworks/bogworkslaw09.ClampEnds", spec := "clampEnds", unfollowed := true, recurses := true, plainKeys := false, apart := false, narrowed := true }
def ClampEndsUptoSaid : Prop := clampEndsUptoRow.holds Try.pinned (OpenSpec.upto clampEndsSpec)

/-- 'bogworkslaw09.ClampAll', WHERE WHAT IT READS IS OF BULK AT MOST 1048576: true; the input reads as it did. -/
def clampAllUptoRow : OpenClaim := { program := "ytimgnlellflciaa", sum := "d4adf4deca151c1223cf85db4553a99696242d008c46aa2b35e706c15bc98c7c", func := "bogworks/bogworkslaw09.ClampAll", spec := "clampAll", unfollowed := true, recurses := true, plainKeys := false, apart := false, narrowed := true }
def ClampAllUptoSaid : Prop := clampAllUptoRow.holds Try.pinned (OpenSpec.upto clampAllSpec)

/-- 'bogworkslaw09.ClampShare', WHERE WHAT IT READS IS OF BULK AT MOST 1048576: true; the input reads as it did. -/
def clampShareUptoRow : OpenClaim := { program := "ytimgnlellflciaa", sum := "d4adf4deca151c1223cf85db4553a99696242d008c46aa2b35e706c15bc98c7c", func := "bogworks/bogworkslaw09.ClampShare", spec := "clampShare", unfollowed := true, recurses := true, plainKeys := false, apart := false, narrowed := true }
def ClampShareUptoSaid : Prop := clampShareUptoRow.holds Try.pinned (OpenSpec.upto clampShareSpec)

/-- 'bogworkslaw09.ClampClash', WHERE WHAT IT READS IS OF BULK AT MOST 1048576: true; the input reads as it did. -/
def clampClashUptoRow : OpenClaim := { program := "ytimgnlellflciaa", sum := "d4adf4deca151c1223cf85db4553a99696242d008c46aa2b35e706c15bc98c7c", func := "bogworks/bogworkslaw09.ClampClash", spec := "clampClash", unfollowed := true, recurses := true, plainKeys := false, apart := false, narrowed := true }
def ClampClashUptoSaid : Prop := clampClashUptoRow.holds Try.pinned (OpenSpec.upto clampClashSpec)

/-- 'bogworkslaw09.ClampMore', WHERE WHAT IT READS IS OF BULK AT MOST 1048576: true; the input reads as it did. -/
def clampMoreUptoRow : OpenClaim := { program := "ytimgnlellflciaa", sum := "d4adf4deca151c1223cf85db4553a99696242d008c46aa2b35e706c15bc98c7c", func := "bogworks/bogworkslaw09.ClampMore", spec := "clampMore", unfollowed := true, recurses := true, plainKeys := false, apart := false, narrowed := true }
def ClampMoreUptoSaid : Prop := clampMoreUptoRow.holds Try.pinned (OpenSpec.upto clampMoreSpec)

end Rows
end Go.Proofs.Ytimgnlellflciaa
