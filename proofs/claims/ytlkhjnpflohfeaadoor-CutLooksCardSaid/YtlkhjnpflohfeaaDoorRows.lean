/-
  NARROWER THAN 'FOR EVERY INPUT', by the rows' own cells (each row's printed sentence says how): CutReads: laid · CutLooks: laid · CutTrue: laid · CutEnds: laid · CutFloats: laid · CutWaits: laid · CutClash: laid · CutRain: laid · CutMore: laid.
  DERIVED. THE GIVEN ROWS OF THIS SEAT. 9 by the template 'for every input the law returns true; each argument reads behind the call as it read before'; 0 by the template 'total and deterministic' (their statements: YtlkhjnpflohfeaaDoorTotals.lean).
  GIVEN WITH THE SEED: the statements are not yours to turn. If you find one false, say at which input.
  Laid BY PROGRAM, IN A SANDBOX (cutbox-rows.mjs): the forced cells as the released guide's own fill.sh prints them over the translation a66473f1af0a6173… (all of the seat's roots in one cut). By AI agents, Wed Nov 11 2026. No macro, syntax, notation, axiom, sorry.
-/
import Derived.Test.YtlkhjnpflohfeaaDoorChecked
import GoSem.Claim
import GoSem.ClaimJoined
import GoSem.ClaimMapViews
import Derived.JoinedTies
import Derived.KernelRfl
namespace Go.Proofs.YtlkhjnpflohfeaaDoor
/- THE CELL 'sum', in the pinned program and in every row, IS THE sha256 OF THE DUMP (.gsa) THAT YtlkhjnpflohfeaaDoorProg.lean LOADS. Nothing in Lean hashes anything: it is a label: what it is worth is what the hold of that sum in a sandbox is worth. -/
noncomputable def Tryd.pinned : Pinned := { name := "ytlkhjnpflohfeaadoor", sum := "a66473f1af0a6173fe070d125d8f1e5085ff0a5f84d9b6e192463c823a03ada2", checked := Tryd.checked }
namespace Rows
def none {H : Type} : Left H := { results := [], args := [] }

/- WHAT THE LISTED PACKAGE-LEVEL VARIABLES READ AS WHEN THE CALL BEGINS. Each datum BY PROGRAM (the guide's laid-datum.mjs) off the statement by which the dump's own 'gosem.cut.vars' lays the variable. In a bare row this is a premise. The card (YtlkhjnpflohfeaaDoorCards.lean) ties it to the program's text. -/
def laid_bogworks_cut_dry {H : Type} : DataW H := .agg [.agg [.lit (.int .i64 1048576), .lit (.int .i64 (-1048576))]]

/-- 'bogworkslaw06.CutReads': WHATEVER THE INPUT: true; the input reads as it did. -/
def cutReadsSpec : ChangeSpec := { name := "cutReads", fn := fun _ => fun
  | [d1, d2, d3, d4] => { results := [.lit (.bool true)], args := [d1, d2, d3, d4] }
  | _ => none }
def cutReadsRow : OpenClaim := { program := "ytlkhjnpflohfeaadoor", sum := "a66473f1af0a6173fe070d125d8f1e5085ff0a5f84d9b6e192463c823a03ada2", func := "bogworks/bogworkslaw06.CutReads", spec := "cutReads", unfollowed := true, recurses := true, named := ["bogworks/cut.dry"], plainKeys := false, apart := false, laid := [("bogworks/cut.dry", laid_bogworks_cut_dry)] }
def CutReadsSaid : Prop := cutReadsRow.holds Tryd.pinned (OpenSpec.ofChange cutReadsSpec)

/-- ITS FALSE NEIGHBOUR: 'it returns false'. Refute it at one input. -/
def cutReadsWrong : ChangeSpec := { name := "cutReads", fn := fun _ => fun
  | [d1, d2, d3, d4] => { results := [.lit (.bool false)], args := [d1, d2, d3, d4] }
  | _ => none }
def CutReadsWrongFalsely : Prop := cutReadsRow.holds Tryd.pinned (OpenSpec.ofChange cutReadsWrong)

/-- 'bogworkslaw06.CutLooks': WHATEVER THE INPUT: true; the input reads as it did. -/
def cutLooksSpec : ChangeSpec := { name := "cutLooks", fn := fun _ => fun
  | [d1, d2, d3, d4] => { results := [.lit (.bool true)], args := [d1, d2, d3, d4] }
  | _ => none }
def cutLooksRow : OpenClaim := { program := "ytlkhjnpflohfeaadoor", sum := "a66473f1af0a6173fe070d125d8f1e5085ff0a5f84d9b6e192463c823a03ada2", func := "bogworks/bogworkslaw06.CutLooks", spec := "cutLooks", unfollowed := true, recurses := true, named := ["bogworks/cut.dry"], plainKeys := false, apart := false, laid := [("bogworks/cut.dry", laid_bogworks_cut_dry)] }
def CutLooksSaid : Prop := cutLooksRow.holds Tryd.pinned (OpenSpec.ofChange cutLooksSpec)

/-- ITS FALSE NEIGHBOUR: 'it returns false'. Refute it at one input. -/
def cutLooksWrong : ChangeSpec := { name := "cutLooks", fn := fun _ => fun
  | [d1, d2, d3, d4] => { results := [.lit (.bool false)], args := [d1, d2, d3, d4] }
  | _ => none }
def CutLooksWrongFalsely : Prop := cutLooksRow.holds Tryd.pinned (OpenSpec.ofChange cutLooksWrong)

/-- 'bogworkslaw06.CutTrue': WHATEVER THE INPUT: true; the input reads as it did. -/
def cutTrueSpec : ChangeSpec := { name := "cutTrue", fn := fun _ => fun
  | [d1, d2, d3, d4] => { results := [.lit (.bool true)], args := [d1, d2, d3, d4] }
  | _ => none }
def cutTrueRow : OpenClaim := { program := "ytlkhjnpflohfeaadoor", sum := "a66473f1af0a6173fe070d125d8f1e5085ff0a5f84d9b6e192463c823a03ada2", func := "bogworks/bogworkslaw06.CutTrue", spec := "cutTrue", unfollowed := true, recurses := true, named := ["bogworks/cut.dry"], plainKeys := false, apart := false, laid := [("bogworks/cut.dry", laid_bogworks_cut_dry)] }
def CutTrueSaid : Prop := cutTrueRow.holds Tryd.pinned (OpenSpec.ofChange cutTrueSpec)

/-- ITS FALSE NEIGHBOUR: 'it returns false'. Refute it at one input. -/
def cutTrueWrong : ChangeSpec := { name := "cutTrue", fn := fun _ => fun
  | [d1, d2, d3, d4] => { results := [.lit (.bool false)], args := [d1, d2, d3, d4] }
  | _ => none }
def CutTrueWrongFalsely : Prop := cutTrueRow.holds Tryd.pinned (OpenSpec.ofChange cutTrueWrong)

/-- 'bogworkslaw06.CutEnds': WHATEVER THE INPUT: true; the input reads as it did. -/
def cutEndsSpec : ChangeSpec := { name := "cutEnds", fn := fun _ => fun
  | [d1, d2] => { results := [.lit (.bool true)], args := [d1, d2] }
  | _ => none }
def cutEndsRow : OpenClaim := { program := "ytlkhjnpflohfeaadoor", sum := "a66473f1af0a6173fe070d125d8f1e5085ff0a5f84d9b6e192463c823a03ada2", func := "bogworks/bogworkslaw06.CutEnds", spec := "cutEnds", unfollowed := true, recurses := true, named := ["bogworks/cut.dry"], plainKeys := false, apart := false, laid := [("bogworks/cut.dry", laid_bogworks_cut_dry)] }
def CutEndsSaid : Prop := cutEndsRow.holds Tryd.pinned (OpenSpec.ofChange cutEndsSpec)

/-- ITS FALSE NEIGHBOUR: 'it returns false'. Refute it at one input. -/
def cutEndsWrong : ChangeSpec := { name := "cutEnds", fn := fun _ => fun
  | [d1, d2] => { results := [.lit (.bool false)], args := [d1, d2] }
  | _ => none }
def CutEndsWrongFalsely : Prop := cutEndsRow.holds Tryd.pinned (OpenSpec.ofChange cutEndsWrong)

/-- 'bogworkslaw06.CutFloats': WHATEVER THE INPUT: true; the input reads as it did. -/
def cutFloatsSpec : ChangeSpec := { name := "cutFloats", fn := fun _ => fun
  | [d1, d2, d3] => { results := [.lit (.bool true)], args := [d1, d2, d3] }
  | _ => none }
def cutFloatsRow : OpenClaim := { program := "ytlkhjnpflohfeaadoor", sum := "a66473f1af0a6173fe070d125d8f1e5085ff0a5f84d9b6e192463c823a03ada2", func := "bogworks/bogworkslaw06.CutFloats", spec := "cutFloats", unfollowed := true, recurses := true, named := ["bogworks/cut.dry"], plainKeys := false, apart := false, laid := [("bogworks/cut.dry", laid_bogworks_cut_dry)] }
def CutFloatsSaid : Prop := cutFloatsRow.holds Tryd.pinned (OpenSpec.ofChange cutFloatsSpec)

/-- ITS FALSE NEIGHBOUR: 'it returns false'. Refute it at one input. -/
def cutFloatsWrong : ChangeSpec := { name := "cutFloats", fn := fun _ => fun
  | [d1, d2, d3] => { results := [.lit (.bool false)], args := [d1, d2, d3] }
  | _ => none }
def CutFloatsWrongFalsely : Prop := cutFloatsRow.holds Tryd.pinned (OpenSpec.ofChange cutFloatsWrong)

/-- 'bogworkslaw06.CutWaits': WHATEVER THE INPUT: true; the input reads as it did. -/
def cutWaitsSpec : ChangeSpec := { name := "cutWaits", fn := fun _ => fun
  | [d1, d2, d3, d4, d5] => { results := [.lit (.bool true)], args := [d1, d2, d3, d4, d5] }
  | _ => none }
def cutWaitsRow : OpenClaim := { program := "ytlkhjnpflohfeaadoor", sum := "a66473f1af0a6173fe070d125d8f1e5085ff0a5f84d9b6e192463c823a03ada2", func := "bogworks/bogworkslaw06.CutWaits", spec := "cutWaits", unfollowed := true, recurses := true, named := ["bogworks/cut.dry"], plainKeys := false, apart := false, laid := [("bogworks/cut.dry", laid_bogworks_cut_dry)] }
def CutWaitsSaid : Prop := cutWaitsRow.holds Tryd.pinned (OpenSpec.ofChange cutWaitsSpec)

/-- ITS FALSE NEIGHBOUR: 'it returns false'. Refute it at one input. -/
def cutWaitsWrong : ChangeSpec := { name := "cutWaits", fn := fun _ => fun
  | [d1, d2, d3, d4, d5] => { results := [.lit (.bool false)], args := [d1, d2, d3, d4, d5] }
  | _ => none }
def CutWaitsWrongFalsely : Prop := cutWaitsRow.holds Tryd.pinned (OpenSpec.ofChange cutWaitsWrong)

/-- 'bogworkslaw06.CutClash': WHATEVER THE INPUT: true; the input reads as it did. -/
def cutClashSpec : ChangeSpec := { name := "cutClash", fn := fun _ => fun
  | [d1, d2] => { results := [.lit (.bool true)], args := [d1, d2] }
  | _ => none }
def cutClashRow : OpenClaim := { program := "ytlkhjnpflohfeaadoor", sum := "a66473f1af0a6173fe070d125d8f1e5085ff0a5f84d9b6e192463c823a03ada2", func := "bogworks/bogworkslaw06.CutClash", spec := "cutClash", unfollowed := true, recurses := true, named := ["bogworks/cut.dry"], plainKeys := false, apart := false, laid := [("bogworks/cut.dry", laid_bogworks_cut_dry)] }
def CutClashSaid : Prop := cutClashRow.holds Tryd.pinned (OpenSpec.ofChange cutClashSpec)

/-- ITS FALSE NEIGHBOUR: 'it returns false'. Refute it at one input. -/
def cutClashWrong : ChangeSpec := { name := "cutClash", fn := fun _ => fun
  | [d1, d2] => { results := [.lit (.bool false)], args := [d1, d2] }
  | _ => none }
def CutClashWrongFalsely : Prop := cutClashRow.holds Tryd.pinned (OpenSpec.ofChange cutClashWrong)

/-- 'bogworkslaw06.CutRain': WHATEVER THE INPUT: true; the input reads as it did. -/
def cutRainSpec : ChangeSpec := { name := "cutRain", fn := fun _ => fun
  | [d1, d2, d3, d4] => { results := [.lit (.bool true)], args := [d1, d2, d3, d4] }
  | _ => none }
def cutRainRow : OpenClaim := { program := "ytlkhjnpflohfeaadoor", sum := "a66473f1af0a6173fe070d125d8f1e5085ff0a5f84d9b6e192463c823a03ada2", func := "bogworks/bogworkslaw06.CutRain", spec := "cutRain", unfollowed := true, recurses := true, named := ["bogworks/cut.dry"], plainKeys := false, apart := false, laid := [("bogworks/cut.dry", laid_bogworks_cut_dry)] }
def CutRainSaid : Prop := cutRainRow.holds Tryd.pinned (OpenSpec.ofChange cutRainSpec)

/-- ITS FALSE NEIGHBOUR: 'it returns false'. Refute it at one input. -/
def cutRainWrong : ChangeSpec := { name := "cutRain", fn := fun _ => fun
  | [d1, d2, d3, d4] => { results := [.lit (.bool false)], args := [d1, d2, d3, d4] }
  | _ => none }
def CutRainWrongFalsely : Prop := cutRainRow.holds Tryd.pinned (OpenSpec.ofChange cutRainWrong)

/-- 'bogworkslaw06.CutMore': WHATEVER THE INPUT: true; the input reads as it did. -/
def cutMoreSpec : ChangeSpec := { name := "cutMore", fn := fun _ => fun
  | [d1, d2, d3, d4, d5] => { results := [.lit (.bool true)], args := [d1, d2, d3, d4, d5] }
  | _ => none }
def cutMoreRow : OpenClaim := { program := "ytlkhjnpflohfeaadoor", sum := "a66473f1af0a6173fe070d125d8f1e5085ff0a5f84d9b6e192463c823a03ada2", func := "bogworks/bogworkslaw06.CutMore", spec := "cutMore", unfollowed := true, recurses := true, named := ["bogworks/cut.dry"], plainKeys := false, apart := false, laid := [("bogworks/cut.dry", laid_bogworks_cut_dry)] }
def CutMoreSaid : Prop := cutMoreRow.holds Tryd.pinned (OpenSpec.ofChange cutMoreSpec)

/-- ITS FALSE NEIGHBOUR: 'it returns false'. Refute it at one input. -/
def cutMoreWrong : ChangeSpec := { name := "cutMore", fn := fun _ => fun
  | [d1, d2, d3, d4, d5] => { results := [.lit (.bool false)], args := [d1, d2, d3, d4, d5] }
  | _ => none }
def CutMoreWrongFalsely : Prop := cutMoreRow.holds Tryd.pinned (OpenSpec.ofChange cutMoreWrong)

/- THE SECOND FORM. 'bulk': how many values and letters a reading holds, each counted each time it is reached (what is shared counts as often as it is met; a slice's spare places count too). A statement '..UptoSaid' is the law's where the arguments, and the package variables that the reading takes, are together of bulk at most 1048576: NARROWER than '..Said'. Prove '..Said' where nothing that the law and all that it calls make is longer than what came in: it says more and counts as full. Else prove '..UptoSaid'. A law counts once. -/
mutual
def uptoBulk {H : Type} : DataW H → Nat
  | .lit (.string bytes) => bytes.length + 1
  | .lit _ => 1
  | .nil => 1
  | .ptr d => uptoBulk d + 1
  | .slice elems spare => uptoBulkAll elems + uptoBulkAll spare + 1
  | .agg parts => uptoBulkAll parts + 1
  | .iface _ d => uptoBulk d + 1
  | .map entries => uptoBulkEntries entries + 1
  | .held _ => 1
def uptoBulkAll {H : Type} : List (DataW H) → Nat
  | [] => 0
  | d :: r => uptoBulk d + uptoBulkAll r
def uptoBulkEntries {H : Type} : List (Lit × DataW H) → Nat
  | [] => 0
  | x :: r => uptoBulkEntry x + uptoBulkEntries r
def uptoBulkEntry {H : Type} : Lit × DataW H → Nat
  | (.string bytes, d) => bytes.length + uptoBulk d + 1
  | (_, d) => uptoBulk d + 1
 end
def uptoSmall : (H : Type) → List (DataW H) → Bool := fun _ ds => decide (uptoBulkAll ds ≤ 1048576)
def OpenSpec.upto (s : _root_.Go.ChangeSpec) : _root_.Go.OpenSpec := { _root_.Go.OpenSpec.ofChange s with cond := some uptoSmall }

/-- 'bogworkslaw06.CutReads', WHERE WHAT IT READS IS OF BULK AT MOST 1048576: true; the input reads as it did. -/
def cutReadsUptoRow : OpenClaim := { program := "ytlkhjnpflohfeaadoor", sum := "a66473f1af0a6173fe070d125d8f1e5085ff0a5f84d9b6e192463c823a03ada2", func := "bogworks/bogworkslaw06.CutReads", spec := "cutReads", unfollowed := true, recurses := true, named := ["bogworks/cut.dry"], plainKeys := false, apart := false, laid := [("bogworks/cut.dry", laid_bogworks_cut_dry)], narrowed := true }
def CutReadsUptoSaid : Prop := cutReadsUptoRow.holds Tryd.pinned (OpenSpec.upto cutReadsSpec)

/-- 'bogworkslaw06.CutLooks', WHERE WHAT IT READS IS OF BULK AT MOST 1048576: true; the input reads as it did. -/
def cutLooksUptoRow : OpenClaim := { program := "ytlkhjnpflohfeaadoor", sum := "a66473f1af0a6173fe070d125d8f1e5085ff0a5f84d9b6e192463c823a03ada2", func := "bogworks/bogworkslaw06.CutLooks", spec := "cutLooks", unfollowed := true, recurses := true, named := ["bogworks/cut.dry"], plainKeys := false, apart := false, laid := [("bogworks/cut.dry", laid_bogworks_cut_dry)], narrowed := true }
def CutLooksUptoSaid : Prop := cutLooksUptoRow.holds Tryd.pinned (OpenSpec.upto cutLooksSpec)

/-- 'bogworkslaw06.CutTrue', WHERE WHAT IT READS IS OF BULK AT MOST 1048576: true; the input reads as it did. -/
def cutTrueUptoRow : OpenClaim := { program := "ytlkhjnpflohfeaadoor", sum := "a66473f1af0a6173fe070d125d8f1e5085ff0a5f84d9b6e192463c823a03ada2", func := "bogworks/bogworkslaw06.CutTrue", spec := "cutTrue", unfollowed := true, recurses := true, named := ["bogworks/cut.dry"], plainKeys := false, apart := false, laid := [("bogworks/cut.dry", laid_bogworks_cut_dry)], narrowed := true }
def CutTrueUptoSaid : Prop := cutTrueUptoRow.holds Tryd.pinned (OpenSpec.upto cutTrueSpec)

/-- 'bogworkslaw06.CutEnds', WHERE WHAT IT READS IS OF BULK AT MOST 1048576: true; the input reads as it did. -/
def cutEndsUptoRow : OpenClaim := { program := "ytlkhjnpflohfeaadoor", sum := "a66473f1af0a6173fe070d125d8f1e5085ff0a5f84d9b6e192463c823a03ada2", func := "bogworks/bogworkslaw06.CutEnds", spec := "cutEnds", unfollowed := true, recurses := true, named := ["bogworks/cut.dry"], plainKeys := false, apart := false, laid := [("bogworks/cut.dry", laid_bogworks_cut_dry)], narrowed := true }
def CutEndsUptoSaid : Prop := cutEndsUptoRow.holds Tryd.pinned (OpenSpec.upto cutEndsSpec)

/-- 'bogworkslaw06.CutFloats', WHERE WHAT IT READS IS OF BULK AT MOST 1048576: true; the input reads as it did. -/
def cutFloatsUptoRow : OpenClaim := { program := "ytlkhjnpflohfeaadoor", sum := "a66473f1af0a6173fe070d125d8f1e5085ff0a5f84d9b6e192463c823a03ada2", func := "bogworks/bogworkslaw06.CutFloats", spec := "cutFloats", unfollowed := true, recurses := true, named := ["bogworks/cut.dry"], plainKeys := false, apart := false, laid := [("bogworks/cut.dry", laid_bogworks_cut_dry)], narrowed := true }
def CutFloatsUptoSaid : Prop := cutFloatsUptoRow.holds Tryd.pinned (OpenSpec.upto cutFloatsSpec)

/-- 'bogworkslaw06.CutWaits', WHERE WHAT IT READS IS OF BULK AT MOST 1048576: true; the input reads as it did. -/
def cutWaitsUptoRow : OpenClaim := { program := "ytlkhjnpflohfeaadoor", sum := "a66473f1af0a6173fe070d125d8f1e5085ff0a5f84d9b6e192463c823a03ada2", func := "bogworks/bogworkslaw06.CutWaits", spec := "cutWaits", unfollowed := true, recurses := true, named := ["bogworks/cut.dry"], plainKeys := false, apart := false, laid := [("bogworks/cut.dry", laid_bogworks_cut_dry)], narrowed := true }
def CutWaitsUptoSaid : Prop := cutWaitsUptoRow.holds Tryd.pinned (OpenSpec.upto cutWaitsSpec)

/-- 'bogworkslaw06.CutClash', WHERE WHAT IT READS IS OF BULK AT MOST 1048576: true; the input reads as it did. -/
def cutClashUptoRow : OpenClaim := { program := "ytlkhjnpflohfeaadoor", sum := "a66473f1af0a6173fe070d125d8f1e5085ff0a5f84d9b6e192463c823a03ada2", func := "bogworks/bogworkslaw06.CutClash", spec := "cutClash", unfollowed := true, recurses := true, named := ["bogworks/cut.dry"], plainKeys := false, apart := false, laid := [("bogworks/cut.dry", laid_bogworks_cut_dry)], narrowed := true }
def CutClashUptoSaid : Prop := cutClashUptoRow.holds Tryd.pinned (OpenSpec.upto cutClashSpec)

/-- 'bogworkslaw06.CutRain', WHERE WHAT IT READS IS OF BULK AT MOST 1048576: true; the input reads as it did. -/
def cutRainUptoRow : OpenClaim := { program := "ytlkhjnpflohfeaadoor", sum := "a66473f1af0a6173fe070d125d8f1e5085ff0a5f84d9b6e192463c823a03ada2", func := "bogworks/bogworkslaw06.CutRain", spec := "cutRain", unfollowed := true, recurses := true, named := ["bogworks/cut.dry"], plainKeys := false, apart := false, laid := [("bogworks/cut.dry", laid_bogworks_cut_dry)], narrowed := true }
def CutRainUptoSaid : Prop := cutRainUptoRow.holds Tryd.pinned (OpenSpec.upto cutRainSpec)

/-- 'bogworkslaw06.CutMore', WHERE WHAT IT READS IS OF BULK AT MOST 1048576: true; the input reads as it did. -/
def cutMoreUptoRow : OpenClaim := { program := "ytlkhjnpflohfeaadoor", sum := "a66473f1af0a6173fe070d125d8f1e5085ff0a5f84d9b6e192463c823a03ada2", func := "bogworks/bogworkslaw06.CutMore", spec := "cutMore", unfollowed := true, recurses := true, named := ["bogworks/cut.dry"], plainKeys := false, apart := false, laid := [("bogworks/cut.dry", laid_bogworks_cut_dry)], narrowed := true }
def CutMoreUptoSaid : Prop := cutMoreUptoRow.holds Tryd.pinned (OpenSpec.upto cutMoreSpec)

end Rows
end Go.Proofs.YtlkhjnpflohfeaaDoor
