/-
  No cell of these rows narrows 'for every input' (looked for: loops, veiled, ifaces, maps, wideKeys, modest, calm, conditions, laid).
  DERIVED. THE GIVEN ROWS OF THIS SEAT. 8 by the template 'for every input the law returns true; each argument reads behind the call as it read before'; 0 by the template 'total and deterministic' (their statements: YtlcjlcllbgjplaaTotals.lean).
  GIVEN WITH THE SEED: the statements are not yours to turn. If you find one false, say at which input.
  Laid BY PROGRAM, IN A SANDBOX (cutbox-rows.mjs): the forced cells as the released guide's own fill.sh prints them over the translation 117b3d29aa9c59b3… (all of the seat's roots in one cut). By AI agents, Wed Nov 11 2026. No macro, syntax, notation, axiom, sorry.
-/
import Derived.Test.YtlcjlcllbgjplaaChecked
import GoSem.Claim
import GoSem.ClaimJoined
import GoSem.ClaimMapViews
import Derived.JoinedTies
import Derived.KernelRfl
namespace Go.Proofs.Ytlcjlcllbgjplaa
/- THE CELL 'sum', in the pinned program and in every row, IS THE sha256 OF THE DUMP (.gsa) THAT YtlcjlcllbgjplaaProg.lean LOADS. Nothing in Lean hashes anything: it is a label: what it is worth is what the hold of that sum in a sandbox is worth. -/
noncomputable def Try.pinned : Pinned := { name := "ytlcjlcllbgjplaa", sum := "117b3d29aa9c59b3bcc093147cd3b9bd53f764c8f4df7c77cb245fe2f72aa56e", checked := Try.checked }
namespace Rows
def none {H : Type} : Left H := { results := [], args := [] }

/-- 'bogworkslaw05.RoadNames': WHATEVER THE INPUT: true; the input reads as it did. -/
def roadNamesSpec : ChangeSpec := { name := "roadNames", fn := fun _ => fun
  | [] => { results := [.lit (.bool true)], args := [] }
  | _ => none }
def roadNamesRow : OpenClaim := { program := "ytlcjlcllbgjplaa", sum := "117b3d29aa9c59b3bcc093147cd3b9bd53f764c8f4df7c77cb245fe2f72aa56e", func := "bogworks/bogworkslaw05.RoadNames", spec := "roadNames", unfollowed := true, recurses := true, plainKeys := false, apart := false }
def RoadNamesSaid : Prop := roadNamesRow.holds Try.pinned (OpenSpec.ofChange roadNamesSpec)

/-- ITS FALSE NEIGHBOUR: 'it returns false'. Refute it at one input. -/
def roadNamesWrong : ChangeSpec := { name := "roadNames", fn := fun _ => fun
  | [] => { results := [.lit (.bool false)], args := [] }
  | _ => none }
def RoadNamesWrongFalsely : Prop := roadNamesRow.holds Try.pinned (OpenSpec.ofChange roadNamesWrong)

/-- 'bogworkslaw05.RoadTrue': WHATEVER THE INPUT: true; the input reads as it did. -/
def roadTrueSpec : ChangeSpec := { name := "roadTrue", fn := fun _ => fun
  | [d1, d2, d3] => { results := [.lit (.bool true)], args := [d1, d2, d3] }
  | _ => none }
def roadTrueRow : OpenClaim := { program := "ytlcjlcllbgjplaa", sum := "117b3d29aa9c59b3bcc093147cd3b9bd53f764c8f4df7c77cb245fe2f72aa56e", func := "bogworks/bogworkslaw05.RoadTrue", spec := "roadTrue", unfollowed := true, recurses := true, plainKeys := false, apart := false }
def RoadTrueSaid : Prop := roadTrueRow.holds Try.pinned (OpenSpec.ofChange roadTrueSpec)

/-- ITS FALSE NEIGHBOUR: 'it returns false'. Refute it at one input. -/
def roadTrueWrong : ChangeSpec := { name := "roadTrue", fn := fun _ => fun
  | [d1, d2, d3] => { results := [.lit (.bool false)], args := [d1, d2, d3] }
  | _ => none }
def RoadTrueWrongFalsely : Prop := roadTrueRow.holds Try.pinned (OpenSpec.ofChange roadTrueWrong)

/-- 'bogworkslaw05.RoadEnds': WHATEVER THE INPUT: true; the input reads as it did. -/
def roadEndsSpec : ChangeSpec := { name := "roadEnds", fn := fun _ => fun
  | [d1, d2, d3] => { results := [.lit (.bool true)], args := [d1, d2, d3] }
  | _ => none }
def roadEndsRow : OpenClaim := { program := "ytlcjlcllbgjplaa", sum := "117b3d29aa9c59b3bcc093147cd3b9bd53f764c8f4df7c77cb245fe2f72aa56e", func := "bogworks/bogworkslaw05.RoadEnds", spec := "roadEnds", unfollowed := true, recurses := true, plainKeys := false, apart := false }
def RoadEndsSaid : Prop := roadEndsRow.holds Try.pinned (OpenSpec.ofChange roadEndsSpec)

/-- ITS FALSE NEIGHBOUR: 'it returns false'. Refute it at one input. -/
def roadEndsWrong : ChangeSpec := { name := "roadEnds", fn := fun _ => fun
  | [d1, d2, d3] => { results := [.lit (.bool false)], args := [d1, d2, d3] }
  | _ => none }
def RoadEndsWrongFalsely : Prop := roadEndsRow.holds Try.pinned (OpenSpec.ofChange roadEndsWrong)

/-- 'bogworkslaw05.RoadBears': WHATEVER THE INPUT: true; the input reads as it did. -/
def roadBearsSpec : ChangeSpec := { name := "roadBears", fn := fun _ => fun
  | [d1, d2] => { results := [.lit (.bool true)], args := [d1, d2] }
  | _ => none }
def roadBearsRow : OpenClaim := { program := "ytlcjlcllbgjplaa", sum := "117b3d29aa9c59b3bcc093147cd3b9bd53f764c8f4df7c77cb245fe2f72aa56e", func := "bogworks/bogworkslaw05.RoadBears", spec := "roadBears", unfollowed := true, recurses := true, plainKeys := false, apart := false }
def RoadBearsSaid : Prop := roadBearsRow.holds Try.pinned (OpenSpec.ofChange roadBearsSpec)

/-- ITS FALSE NEIGHBOUR: 'it returns false'. Refute it at one input. -/
def roadBearsWrong : ChangeSpec := { name := "roadBears", fn := fun _ => fun
  | [d1, d2] => { results := [.lit (.bool false)], args := [d1, d2] }
  | _ => none }
def RoadBearsWrongFalsely : Prop := roadBearsRow.holds Try.pinned (OpenSpec.ofChange roadBearsWrong)

/-- 'bogworkslaw05.RoadRest': WHATEVER THE INPUT: true; the input reads as it did. -/
def roadRestSpec : ChangeSpec := { name := "roadRest", fn := fun _ => fun
  | [d1, d2] => { results := [.lit (.bool true)], args := [d1, d2] }
  | _ => none }
def roadRestRow : OpenClaim := { program := "ytlcjlcllbgjplaa", sum := "117b3d29aa9c59b3bcc093147cd3b9bd53f764c8f4df7c77cb245fe2f72aa56e", func := "bogworks/bogworkslaw05.RoadRest", spec := "roadRest", unfollowed := true, recurses := true, plainKeys := false, apart := false }
def RoadRestSaid : Prop := roadRestRow.holds Try.pinned (OpenSpec.ofChange roadRestSpec)

/-- ITS FALSE NEIGHBOUR: 'it returns false'. Refute it at one input. -/
def roadRestWrong : ChangeSpec := { name := "roadRest", fn := fun _ => fun
  | [d1, d2] => { results := [.lit (.bool false)], args := [d1, d2] }
  | _ => none }
def RoadRestWrongFalsely : Prop := roadRestRow.holds Try.pinned (OpenSpec.ofChange roadRestWrong)

/-- 'bogworkslaw05.RoadBelow': WHATEVER THE INPUT: true; the input reads as it did. -/
def roadBelowSpec : ChangeSpec := { name := "roadBelow", fn := fun _ => fun
  | [d1, d2] => { results := [.lit (.bool true)], args := [d1, d2] }
  | _ => none }
def roadBelowRow : OpenClaim := { program := "ytlcjlcllbgjplaa", sum := "117b3d29aa9c59b3bcc093147cd3b9bd53f764c8f4df7c77cb245fe2f72aa56e", func := "bogworks/bogworkslaw05.RoadBelow", spec := "roadBelow", unfollowed := true, recurses := true, plainKeys := false, apart := false }
def RoadBelowSaid : Prop := roadBelowRow.holds Try.pinned (OpenSpec.ofChange roadBelowSpec)

/-- ITS FALSE NEIGHBOUR: 'it returns false'. Refute it at one input. -/
def roadBelowWrong : ChangeSpec := { name := "roadBelow", fn := fun _ => fun
  | [d1, d2] => { results := [.lit (.bool false)], args := [d1, d2] }
  | _ => none }
def RoadBelowWrongFalsely : Prop := roadBelowRow.holds Try.pinned (OpenSpec.ofChange roadBelowWrong)

/-- 'bogworkslaw05.RoadClash': WHATEVER THE INPUT: true; the input reads as it did. -/
def roadClashSpec : ChangeSpec := { name := "roadClash", fn := fun _ => fun
  | [d1, d2] => { results := [.lit (.bool true)], args := [d1, d2] }
  | _ => none }
def roadClashRow : OpenClaim := { program := "ytlcjlcllbgjplaa", sum := "117b3d29aa9c59b3bcc093147cd3b9bd53f764c8f4df7c77cb245fe2f72aa56e", func := "bogworks/bogworkslaw05.RoadClash", spec := "roadClash", unfollowed := true, recurses := true, plainKeys := false, apart := false }
def RoadClashSaid : Prop := roadClashRow.holds Try.pinned (OpenSpec.ofChange roadClashSpec)

/-- ITS FALSE NEIGHBOUR: 'it returns false'. Refute it at one input. -/
def roadClashWrong : ChangeSpec := { name := "roadClash", fn := fun _ => fun
  | [d1, d2] => { results := [.lit (.bool false)], args := [d1, d2] }
  | _ => none }
def RoadClashWrongFalsely : Prop := roadClashRow.holds Try.pinned (OpenSpec.ofChange roadClashWrong)

/-- 'bogworkslaw05.RoadMore': WHATEVER THE INPUT: true; the input reads as it did. -/
def roadMoreSpec : ChangeSpec := { name := "roadMore", fn := fun _ => fun
  | [d1, d2, d3, d4] => { results := [.lit (.bool true)], args := [d1, d2, d3, d4] }
  | _ => none }
def roadMoreRow : OpenClaim := { program := "ytlcjlcllbgjplaa", sum := "117b3d29aa9c59b3bcc093147cd3b9bd53f764c8f4df7c77cb245fe2f72aa56e", func := "bogworks/bogworkslaw05.RoadMore", spec := "roadMore", unfollowed := true, recurses := true, plainKeys := false, apart := false }
def RoadMoreSaid : Prop := roadMoreRow.holds Try.pinned (OpenSpec.ofChange roadMoreSpec)

/-- ITS FALSE NEIGHBOUR: 'it returns false'. Refute it at one input. -/
def roadMoreWrong : ChangeSpec := { name := "roadMore", fn := fun _ => fun
  | [d1, d2, d3, d4] => { results := [.lit (.bool false)], args := [d1, d2, d3, d4] }
  | _ => none }
def RoadMoreWrongFalsely : Prop := roadMoreRow.holds Try.pinned (OpenSpec.ofChange roadMoreWrong)

/- THE SECOND FORM. 'bulk': how many values and letters a reading holds, each counted each time it is reached (what is shared counts as often as it is met; a slice's spare places count too). A statement '..UptoSaid' is the law's where the arguments, and the package variables that the reading takes, are together of bulk at most 1048576: NARROWER than '..Said'. Prove '..Said' where nothing that the law and all that it calls make is longer than what came in: it says more and counts as full. Else prove '..UptoSaid'. A law counts once. -/
mutual
def uptoBulk {H : Type} : DataW H → Nat
  | .lit (.string bytes) => bytes.length + 1
  | .lit _ => 1
  | .nil => 1
  | .ptr d => uptoBulk d + 1
  | .slice elems spare => uptoBulkAll elems + uptoBulkAll spare + 1
  | .agg parts => uptoBulkAll parts + 1
  | .iface _ d => uptoBulk d + 1
  | .map entries => uptoBulkEntries entries + 1
  | .held _ => 1
def uptoBulkAll {H : Type} : List (DataW H) → Nat
  | [] => 0
  | d :: r => uptoBulk d + uptoBulkAll r
def uptoBulkEntries {H : Type} : List (Lit × DataW H) → Nat
  | [] => 0
  | x :: r => uptoBulkEntry x + uptoBulkEntries r
def uptoBulkEntry {H : Type} : Lit × DataW H → Nat
  | (.string bytes, d) => bytes.length + uptoBulk d + 1
  | (_, d) => uptoBulk d + 1
 end
def uptoSmall : (H : Type) → List (DataW H) → Bool := fun _ ds => decide (uptoBulkAll ds ≤ 1048576)
def OpenSpec.upto (s : _root_.Go.ChangeSpec) : _root_.Go.OpenSpec := { _root_.Go.OpenSpec.ofChange s with cond := some uptoSmall }

/-- 'bogworkslaw05.RoadNames', WHERE WHAT IT READS IS OF BULK AT MOST 1048576: true; the input reads as it did. -/
def roadNamesUptoRow : OpenClaim := { program := "ytlcjlcllbgjplaa", sum := "117b3d29aa9c59b3bcc093147cd3b9bd53f764c8f4df7c77cb245fe2f72aa56e", func := "bogworks/bogworkslaw05.RoadNames", spec := "roadNames", unfollowed := true, recurses := true, plainKeys := false, apart := false, narrowed := true }
def RoadNamesUptoSaid : Prop := roadNamesUptoRow.holds Try.pinned (OpenSpec.upto roadNamesSpec)

/-- 'bogworkslaw05.RoadTrue', WHERE WHAT IT READS IS OF BULK AT MOST 1048576: true; the input reads as it did. -/
def roadTrueUptoRow : OpenClaim := { program := "ytlcjlcllbgjplaa", sum := "117b3d29aa9c59b3bcc093147cd3b9bd53f764c8f4df7c77cb245fe2f72aa56e", func := "bogworks/bogworkslaw05.RoadTrue", spec := "roadTrue", unfollowed := true, recurses := true, plainKeys := false, apart := false, narrowed := true }
def RoadTrueUptoSaid : Prop := roadTrueUptoRow.holds Try.pinned (OpenSpec.upto roadTrueSpec)

/-- 'bogworkslaw05.RoadEnds', WHERE WHAT IT READS IS OF BULK AT MOST 1048576: true; the input reads as it did. -/
def roadEndsUptoRow : OpenClaim := { program := "ytlcjlcllbgjplaa", sum := "117b3d29aa9c59b3bcc093147cd3b9bd53f764c8f4df7c77cb245fe2f72aa56e", func := "bogworks/bogworkslaw05.RoadEnds", spec := "roadEnds", unfollowed := true, recurses := true, plainKeys := false, apart := false, narrowed := true }
def RoadEndsUptoSaid : Prop := roadEndsUptoRow.holds Try.pinned (OpenSpec.upto roadEndsSpec)

/-- 'bogworkslaw05.RoadBears', WHERE WHAT IT READS IS OF BULK AT MOST 1048576: true; the input reads as it did. -/
def roadBearsUptoRow : OpenClaim := { program := "ytlcjlcllbgjplaa", sum := "117b3d29aa9c59b3bcc093147cd3b9bd53f764c8f4df7c77cb245fe2f72aa56e", func := "bogworks/bogworkslaw05.RoadBears", spec := "roadBears", unfollowed := true, recurses := true, plainKeys := false, apart := false, narrowed := true }
def RoadBearsUptoSaid : Prop := roadBearsUptoRow.holds Try.pinned (OpenSpec.upto roadBearsSpec)

/-- 'bogworkslaw05.RoadRest', WHERE WHAT IT READS IS OF BULK AT MOST 1048576: true; the input reads as it did. -/
def roadRestUptoRow : OpenClaim := { program := "ytlcjlcllbgjplaa", sum := "117b3d29aa9c59b3bcc093147cd3b9bd53f764c8f4df7c77cb245fe2f72aa56e", func := "bogworks/bogworkslaw05.RoadRest", spec := "roadRest", unfollowed := true, recurses := true, plainKeys := false, apart := false, narrowed := true }
def RoadRestUptoSaid : Prop := roadRestUptoRow.holds Try.pinned (OpenSpec.upto roadRestSpec)

/-- 'bogworkslaw05.RoadBelow', WHERE WHAT IT READS IS OF BULK AT MOST 1048576: true; the input reads as it did. -/
def roadBelowUptoRow : OpenClaim := { program := "ytlcjlcllbgjplaa", sum := "117b3d29aa9c59b3bcc093147cd3b9bd53f764c8f4df7c77cb245fe2f72aa56e", func := "bogworks/bogworkslaw05.RoadBelow", spec := "roadBelow", unfollowed := true, recurses := true, plainKeys := false, apart := false, narrowed := true }
def RoadBelowUptoSaid : Prop := roadBelowUptoRow.holds Try.pinned (OpenSpec.upto roadBelowSpec)

/-- 'bogworkslaw05.RoadClash', WHERE WHAT IT READS IS OF BULK AT MOST 1048576: true; the input reads as it did. -/
def roadClashUptoRow : OpenClaim := { program := "ytlcjlcllbgjplaa", sum := "117b3d29aa9c59b3bcc093147cd3b9bd53f764c8f4df7c77cb245fe2f72aa56e", func := "bogworks/bogworkslaw05.RoadClash", spec := "roadClash", unfollowed := true, recurses := true, plainKeys := false, apart := false, narrowed := true }
def RoadClashUptoSaid : Prop := roadClashUptoRow.holds Try.pinned (OpenSpec.upto roadClashSpec)

/-- 'bogworkslaw05.RoadMore', WHERE WHAT IT READS IS OF BULK AT MOST 1048576: true; the input reads as it did. -/
def roadMoreUptoRow : OpenClaim := { program := "ytlcjlcllbgjplaa", sum := "117b3d29aa9c59b3bcc093147cd3b9bd53f764c8f4df7c77cb245fe2f72aa56e", func := "bogworks/bogworkslaw05.RoadMore", spec := "roadMore", unfollowed := true, recurses := true, plainKeys := false, apart := false, narrowed := true }
def RoadMoreUptoSaid : Prop := roadMoreUptoRow.holds Try.pinned (OpenSpec.upto roadMoreSpec)

end Rows
end Go.Proofs.Ytlcjlcllbgjplaa
