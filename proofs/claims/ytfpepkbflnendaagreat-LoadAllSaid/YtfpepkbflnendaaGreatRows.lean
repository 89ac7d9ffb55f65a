/-
  No cell of these rows narrows 'for every input' (looked for: loops, veiled, ifaces, maps, wideKeys, modest, calm, conditions, laid).
  DERIVED. THE GIVEN ROWS OF THIS SEAT. 9 by the template 'for every input the law returns true; each argument reads behind the call as it read before'; 0 by the template 'total and deterministic' (their statements: YtfpepkbflnendaaGreatTotals.lean).
  GIVEN WITH THE SEED: the statements are not yours to turn. If you find one false, say at which input.
  Laid BY PROGRAM, IN A SANDBOX (cutbox-rows.mjs): the forced cells as the released guide's own fill.sh prints them over the translation 948e38a7cb5e7229… (all of the seat's roots in one cut). By AI agents, Wed Nov 11 2026. No macro, syntax, notation, axiom, sorry.
-/
import Derived.Test.YtfpepkbflnendaaGreatChecked
import GoSem.Claim
import GoSem.ClaimJoined
import GoSem.ClaimMapViews
import Derived.JoinedTies
import Derived.KernelRfl
namespace Go.Proofs.YtfpepkbflnendaaGreat
/- THE CELL 'sum', in the pinned program and in every row, IS THE sha256 OF THE DUMP (.gsa) THAT YtfpepkbflnendaaGreatProg.lean LOADS. Nothing in Lean hashes anything: it is a label: what it is worth is what the hold of that sum in a sandbox is worth. -/
noncomputable def Tryz.pinned : Pinned := { name := "ytfpepkbflnendaagreat", sum := "948e38a7cb5e72296eb8c87ba79dc8fa6b7f67d4b7a613bdbf4b798d0459a83e", checked := Tryz.checked }
namespace Rows
def none {H : Type} : Left H := { results := [], args := [] }

/-- 'bogworkslaw11.LoadChecks': WHATEVER THE INPUT: true; the input reads as it did. -/
def loadChecksSpec : ChangeSpec := { name := "loadChecks", fn := fun _ => fun
  | [d1, d2, d3] => { results := [.lit (.bool true)], args := [d1, d2, d3] }
  | _ => none }
def loadChecksRow : OpenClaim := { program := "ytfpepkbflnendaagreat", sum := "948e38a7cb5e72296eb8c87ba79dc8fa6b7f67d4b7a613bdbf4b798d0459a83e", func := "bogworks/bogworkslaw11.LoadChecks", spec := "loadChecks", unfollowed := true, recurses := true, plainKeys := false, apart := false }
def LoadChecksSaid : Prop := loadChecksRow.holds Tryz.pinned (OpenSpec.ofChange loadChecksSpec)

/-- ITS FALSE NEIGHBOUR: 'it returns false'. Refute it at one input. -/
def loadChecksWrong : ChangeSpec := { name := "loadChecks", fn := fun _ => fun
  | [d1, d2, d3] => { results := [.lit (.bool false)], args := [d1, d2, d3] }
  | _ => none }
def LoadChecksWrongFalsely : Prop := loadChecksRow.holds Tryz.pinned (OpenSpec.ofChange loadChecksWrong)

/-- 'bogworkslaw11.LoadSets': WHATEVER THE INPUT: true; the input reads as it did. -/
def loadSetsSpec : ChangeSpec := { name := "loadSets", fn := fun _ => fun
  | [d1, d2, d3, d4] => { results := [.lit (.bool true)], args := [d1, d2, d3, d4] }
  | _ => none }
def loadSetsRow : OpenClaim := { program := "ytfpepkbflnendaagreat", sum := "948e38a7cb5e72296eb8c87ba79dc8fa6b7f67d4b7a613bdbf4b798d0459a83e", func := "bogworks/bogworkslaw11.LoadSets", spec := "loadSets", unfollowed := true, recurses := true, plainKeys := false, apart := false }
def LoadSetsSaid : Prop := loadSetsRow.holds Tryz.pinned (OpenSpec.ofChange loadSetsSpec)

/-- ITS FALSE NEIGHBOUR: 'it returns false'. Refute it at one input. -/
def loadSetsWrong : ChangeSpec := { name := "loadSets", fn := fun _ => fun
  | [d1, d2, d3, d4] => { results := [.lit (.bool false)], args := [d1, d2, d3, d4] }
  | _ => none }
def LoadSetsWrongFalsely : Prop := loadSetsRow.holds Tryz.pinned (OpenSpec.ofChange loadSetsWrong)

/-- 'bogworkslaw11.LoadTrue': WHATEVER THE INPUT: true; the input reads as it did. -/
def loadTrueSpec : ChangeSpec := { name := "loadTrue", fn := fun _ => fun
  | [d1, d2, d3] => { results := [.lit (.bool true)], args := [d1, d2, d3] }
  | _ => none }
def loadTrueRow : OpenClaim := { program := "ytfpepkbflnendaagreat", sum := "948e38a7cb5e72296eb8c87ba79dc8fa6b7f67d4b7a613bdbf4b798d0459a83e", func := "bogworks/bogworkslaw11.LoadTrue", spec := "loadTrue", unfollowed := true, recurses := true, plainKeys := false, apart := false }
def LoadTrueSaid : Prop := loadTrueRow.holds Tryz.pinned (OpenSpec.ofChange loadTrueSpec)

/-- ITS FALSE NEIGHBOUR: 'it returns false'. Refute it at one input. -/
def loadTrueWrong : ChangeSpec := { name := "loadTrue", fn := fun _ => fun
  | [d1, d2, d3] => { results := [.lit (.bool false)], args := [d1, d2, d3] }
  | _ => none }
def LoadTrueWrongFalsely : Prop := loadTrueRow.holds Tryz.pinned (OpenSpec.ofChange loadTrueWrong)

/-- 'bogworkslaw11.LoadCheck': WHATEVER THE INPUT: true; the input reads as it did. -/
def loadCheckSpec : ChangeSpec := { name := "loadCheck", fn := fun _ => fun
  | [d1, d2] => { results := [.lit (.bool true)], args := [d1, d2] }
  | _ => none }
def loadCheckRow : OpenClaim := { program := "ytfpepkbflnendaagreat", sum := "948e38a7cb5e72296eb8c87ba79dc8fa6b7f67d4b7a613bdbf4b798d0459a83e", func := "bogworks/bogworkslaw11.LoadCheck", spec := "loadCheck", unfollowed := true, recurses := true, plainKeys := false, apart := false }
def LoadCheckSaid : Prop := loadCheckRow.holds Tryz.pinned (OpenSpec.ofChange loadCheckSpec)

/-- ITS FALSE NEIGHBOUR: 'it returns false'. Refute it at one input. -/
def loadCheckWrong : ChangeSpec := { name := "loadCheck", fn := fun _ => fun
  | [d1, d2] => { results := [.lit (.bool false)], args := [d1, d2] }
  | _ => none }
def LoadCheckWrongFalsely : Prop := loadCheckRow.holds Tryz.pinned (OpenSpec.ofChange loadCheckWrong)

/-- 'bogworkslaw11.LoadPlan': WHATEVER THE INPUT: true; the input reads as it did. -/
def loadPlanSpec : ChangeSpec := { name := "loadPlan", fn := fun _ => fun
  | [d1, d2, d3] => { results := [.lit (.bool true)], args := [d1, d2, d3] }
  | _ => none }
def loadPlanRow : OpenClaim := { program := "ytfpepkbflnendaagreat", sum := "948e38a7cb5e72296eb8c87ba79dc8fa6b7f67d4b7a613bdbf4b798d0459a83e", func := "bogworks/bogworkslaw11.LoadPlan", spec := "loadPlan", unfollowed := true, recurses := true, plainKeys := false, apart := false }
def LoadPlanSaid : Prop := loadPlanRow.holds Tryz.pinned (OpenSpec.ofChange loadPlanSpec)

/-- ITS FALSE NEIGHBOUR: 'it returns false'. Refute it at one input. -/
def loadPlanWrong : ChangeSpec := { name := "loadPlan", fn := fun _ => fun
  | [d1, d2, d3] => { results := [.lit (.bool false)], args := [d1, d2, d3] }
  | _ => none }
def LoadPlanWrongFalsely : Prop := loadPlanRow.holds Tryz.pinned (OpenSpec.ofChange loadPlanWrong)

/-- 'bogworkslaw11.LoadAll': WHATEVER THE INPUT: true; the input reads as it did. -/
def loadAllSpec : ChangeSpec := { name := "loadAll", fn := fun _ => fun
  | [d1, d2] => { results := [.lit (.bool true)], args := [d1, d2] }
  | _ => none }
def loadAllRow : OpenClaim := { program := "ytfpepkbflnendaagreat", sum := "948e38a7cb5e72296eb8c87ba79dc8fa6b7f67d4b7a613bdbf4b798d0459a83e", func := "bogworks/bogworkslaw11.LoadAll", spec := "loadAll", unfollowed := true, recurses := true, plainKeys := false, apart := false }
def LoadAllSaid : Prop := loadAllRow.holds Tryz.pinned (OpenSpec.ofChange loadAllSpec)

/-- ITS FALSE NEIGHBOUR: 'it returns false'. Refute it at one input. -/
def loadAllWrong : ChangeSpec := { name := "loadAll", fn := fun _ => fun
  | [d1, d2] => { results := [.lit (.bool false)], args := [d1, d2] }
  | _ => none }
def LoadAllWrongFalsely : Prop := loadAllRow.holds Tryz.pinned (OpenSpec.ofChange loadAllWrong)

/-- 'bogworkslaw11.LoadMore': WHATEVER THE INPUT: true; the input reads as it did. -/
def loadMoreSpec : ChangeSpec := { name := "loadMore", fn := fun _ => fun
  | [d1, d2, d3] => { results := [.lit (.bool true)], args := [d1, d2, d3] }
  | _ => none }
def loadMoreRow : OpenClaim := { program := "ytfpepkbflnendaagreat", sum := "948e38a7cb5e72296eb8c87ba79dc8fa6b7f67d4b7a613bdbf4b798d0459a83e", func := "bogworks/bogworkslaw11.LoadMore", spec := "loadMore", unfollowed := true, recurses := true, plainKeys := false, apart := false }
def LoadMoreSaid : Prop := loadMoreRow.holds Tryz.pinned (OpenSpec.ofChange loadMoreSpec)

/-- ITS FALSE NEIGHBOUR: 'it returns false'. Refute it at one input. -/
def loadMoreWrong : ChangeSpec := { name := "loadMore", fn := fun _ => fun
  | [d1, d2, d3] => { results := [.lit (.bool false)], args := [d1, d2, d3] }
  | _ => none }
def LoadMoreWrongFalsely : Prop := loadMoreRow.holds Tryz.pinned (OpenSpec.ofChange loadMoreWrong)

/-- 'bogworkslaw11.LoadMost': WHATEVER THE INPUT: true; the input reads as it did. -/
def loadMostSpec : ChangeSpec := { name := "loadMost", fn := fun _ => fun
  | [d1, d2, d3, d4] => { results := [.lit (.bool true)], args := [d1, d2, d3, d4] }
  | _ => none }
def loadMostRow : OpenClaim := { program := "ytfpepkbflnendaagreat", sum := "948e38a7cb5e72296eb8c87ba79dc8fa6b7f67d4b7a613bdbf4b798d0459a83e", func := "bogworks/bogworkslaw11.LoadMost", spec := "loadMost", unfollowed := true, recurses := true, plainKeys := false, apart := false }
def LoadMostSaid : Prop := loadMostRow.holds Tryz.pinned (OpenSpec.ofChange loadMostSpec)

/-- ITS FALSE NEIGHBOUR: 'it returns false'. Refute it at one input. -/
def loadMostWrong : ChangeSpec := { name := "loadMost", fn := fun _ => fun
  | [d1, d2, d3, d4] => { results := [.lit (.bool false)], args := [d1, d2, d3, d4] }
  | _ => none }
def LoadMostWrongFalsely : Prop := loadMostRow.holds Tryz.pinned (OpenSpec.ofChange loadMostWrong)

/-- 'bogworkslaw11.LoadAlone': WHATEVER THE INPUT: true; the input reads as it did. -/
def loadAloneSpec : ChangeSpec := { name := "loadAlone", fn := fun _ => fun
  | [d1, d2] => { results := [.lit (.bool true)], args := [d1, d2] }
  | _ => none }
def loadAloneRow : OpenClaim := { program := "ytfpepkbflnendaagreat", sum := "948e38a7cb5e72296eb8c87ba79dc8fa6b7f67d4b7a613bdbf4b798d0459a83e", func := "bogworks/bogworkslaw11.LoadAlone", spec := "loadAlone", unfollowed := true, recurses := true, plainKeys := false, apart := false }
def LoadAloneSaid : Prop := loadAloneRow.holds Tryz.pinned (OpenSpec.ofChange loadAloneSpec)

/-- ITS FALSE NEIGHBOUR: 'it returns false'. Refute it at one input. -/
def loadAloneWrong : ChangeSpec := { name := "loadAlone", fn := fun _ => fun
  | [d1, d2] => { results := [.lit (.bool false)], args := [d1, d2] }
  | _ => none }
def LoadAloneWrongFalsely : Prop := loadAloneRow.holds Tryz.pinned (OpenSpec.ofChange loadAloneWrong)

/- THE SECOND FORM. 'bulk': how many values and letters a reading holds, each counted each time it is reached (what is shared counts as often as it is met; a slice's spare places count too). A statement '..UptoSaid' is the law's where the arguments, and the package variables that the reading takes, are together of bulk at most 1048576: NARROWER than '..Said'. Prove '..Said' where nothing that the law and all that it calls make is longer than what came in: it says more and counts as full. Else prove '..UptoSaid'. A law counts once. -/
mutual
def uptoBulk {H : Type} : DataW H → Nat
  | .lit (.string bytes) => bytes.length + 1
  | .lit _ => 1
  | .nil => 1
  | .ptr d => uptoBulk d + 1
  | .slice elems spare => uptoBulkAll elems + uptoBulkAll spare + 1
  | .agg parts => uptoBulkAll parts + 1
  | .iface _ d => uptoBulk d + 1
  | .map entries => uptoBulkEntries entries + 1
  | .held _ => 1
def uptoBulkAll {H : Type} : List (DataW H) → Nat
  | [] => 0
  | d :: r => uptoBulk d + uptoBulkAll r
def uptoBulkEntries {H : Type} : List (Lit × DataW H) → Nat
  | [] => 0
  | x :: r => uptoBulkEntry x + uptoBulkEntries r
def uptoBulkEntry {H : Type} : Lit × DataW H → Nat
  | (.string bytes, d) => bytes.length + uptoBulk d + 1
  | (_, d) => uptoBulk d + 1
 end
def uptoSmall : (H : Type) → List (DataW H) → Bool := fun _ ds => decide (uptoBulkAll ds ≤ 1048576)
def OpenSpec.upto (s : _root_.Go.ChangeSpec) : _root_.Go.OpenSpec := { _root_.Go.OpenSpec.ofChange s with cond := some uptoSmall }

/-- 'bogworkslaw11.LoadChecks', WHERE WHAT IT READS IS OF BULK AT MOST 1048576: true; the input reads as it did. -/
def loadChecksUptoRow : OpenClaim := { program := "ytfpepkbflnendaagreat", sum := "948e38a7cb5e72296eb8c87ba79dc8fa6b7f67d4b7a613bdbf4b798d0459a83e", func := "bogworks/bogworkslaw11.LoadChecks", spec := "loadChecks", unfollowed := true, recurses := true, plainKeys := false, apart := false, narrowed := true }
def LoadChecksUptoSaid : Prop := loadChecksUptoRow.holds Tryz.pinned (OpenSpec.upto loadChecksSpec)

/-- 'bogworkslaw11.LoadSets', WHERE WHAT IT READS IS OF BULK AT MOST 1048576: true; the input reads as it did. -/
def loadSetsUptoRow : OpenClaim := { program := "ytfpepkbflnendaagreat", sum := "948e38a7cb5e72296eb8c87ba79dc8fa6b7f67d4b7a613bdbf4b798d0459a83e", func := "bogworks/bogworkslaw11.LoadSets", spec := "loadSets", unfollowed := true, recurses := true, plainKeys := false, apart := false, narrowed := true }
def LoadSetsUptoSaid : Prop := loadSetsUptoRow.holds Tryz.pinned (OpenSpec.upto loadSetsSpec)

/-- 'bogworkslaw11.LoadTrue', WHERE WHAT IT READS IS OF BULK AT MOST 1048576: true; the input reads as it did. -/
def loadTrueUptoRow : OpenClaim := { program := "ytfpepkbflnendaagreat", sum := "948e38a7cb5e72296eb8c87ba79dc8fa6b7f67d4b7a613bdbf4b798d0459a83e", func := "bogworks/bogworkslaw11.LoadTrue", spec := "loadTrue", unfollowed := true, recurses := true, plainKeys := false, apart := false, narrowed := true }
def LoadTrueUptoSaid : Prop := loadTrueUptoRow.holds Tryz.pinned (OpenSpec.upto loadTrueSpec)

/-- 'bogworkslaw11.LoadCheck', WHERE WHAT IT READS IS OF BULK AT MOST 1048576: true; the input reads as it did. -/
def loadCheckUptoRow : OpenClaim := { program := "ytfpepkbflnendaagreat", sum := "948e38a7cb5e72296eb8c87ba79dc8fa6b7f67d4b7a613bdbf4b798d0459a83e", func := "bogworks/bogworkslaw11.LoadCheck", spec := "loadCheck", unfollowed := true, recurses := true, plainKeys := false, apart := false, narrowed := true }
def LoadCheckUptoSaid : Prop := loadCheckUptoRow.holds Tryz.pinned (OpenSpec.upto loadCheckSpec)

/-- 'bogworkslaw11.LoadPlan', WHERE WHAT IT READS IS OF BULK AT MOST 1048576: true; the input reads as it did. -/
def loadPlanUptoRow : OpenClaim := { program := "ytfpepkbflnendaagreat", sum := "948e38a7cb5e72296eb8c87ba79dc8fa6b7f67d4b7a613bdbf4b798d0459a83e", func := "bogworks/bogworkslaw11.LoadPlan", spec := "loadPlan", unfollowed := true, recurses := true, plainKeys := false, apart := false, narrowed := true }
def LoadPlanUptoSaid : Prop := loadPlanUptoRow.holds Tryz.pinned (OpenSpec.upto loadPlanSpec)

/-- 'bogworkslaw11.LoadAll', WHERE WHAT IT READS IS OF BULK AT MOST 1048576: true; the input reads as it did. -/
def loadAllUptoRow : OpenClaim := { program := "ytfpepkbflnendaagreat", sum := "948e38a7cb5e72296eb8c87ba79dc8fa6b7f67d4b7a613bdbf4b798d0459a83e", func := "bogworks/bogworkslaw11.LoadAll", spec := "loadAll", unfollowed := true, recurses := true, plainKeys := false, apart := false, narrowed := true }
def LoadAllUptoSaid : Prop := loadAllUptoRow.holds Tryz.pinned (OpenSpec.upto loadAllSpec)

/-- 'bogworkslaw11.LoadMore', WHERE WHAT IT READS IS OF BULK AT MOST 1048576: true; the input reads as it did. -/
def loadMoreUptoRow : OpenClaim := { program := "ytfpepkbflnendaagreat", sum := "948e38a7cb5e72296eb8c87ba79dc8fa6b7f67d4b7a613bdbf4b798d0459a83e", func := "bogworks/bogworkslaw11.LoadMore", spec := "loadMore", unfollowed := true, recurses := true, plainKeys := false, apart := false, narrowed := true }
def LoadMoreUptoSaid : Prop := loadMoreUptoRow.holds Tryz.pinned (OpenSpec.upto loadMoreSpec)

/-- 'bogworkslaw11.LoadMost', WHERE WHAT IT READS IS OF BULK AT MOST 1048576: true; the input reads as it did. -/
def loadMostUptoRow : OpenClaim := { program := "ytfpepkbflnendaagreat", sum := "948e38a7cb5e72296eb8c87ba79dc8fa6b7f67d4b7a613bdbf4b798d0459a83e", func := "bogworks/bogworkslaw11.LoadMost", spec := "loadMost", unfollowed := true, recurses := true, plainKeys := false, apart := false, narrowed := true }
def LoadMostUptoSaid : Prop := loadMostUptoRow.holds Tryz.pinned (OpenSpec.upto loadMostSpec)

/-- 'bogworkslaw11.LoadAlone', WHERE WHAT IT READS IS OF BULK AT MOST 1048576: true; the input reads as it did. -/
def loadAloneUptoRow : OpenClaim := { program := "ytfpepkbflnendaagreat", sum := "948e38a7cb5e72296eb8c87ba79dc8fa6b7f67d4b7a613bdbf4b798d0459a83e", func := "bogworks/bogworkslaw11.LoadAlone", spec := "loadAlone", unfollowed := true, recurses := true, plainKeys := false, apart := false, narrowed := true }
def LoadAloneUptoSaid : Prop := loadAloneUptoRow.holds Tryz.pinned (OpenSpec.upto loadAloneSpec)

end Rows
end Go.Proofs.YtfpepkbflnendaaGreat
