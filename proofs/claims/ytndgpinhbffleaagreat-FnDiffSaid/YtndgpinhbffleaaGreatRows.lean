/-
  No cell of these rows narrows 'for every input' (looked for: loops, veiled, ifaces, maps, wideKeys, modest, calm, conditions, laid).
  DERIVED. THE GIVEN ROWS OF THIS SEAT. 11 by the template 'for every input the law returns true; each argument reads behind the call as it read before'; 0 by the template 'total and deterministic' (their statements: YtndgpinhbffleaaGreatTotals.lean).
  GIVEN WITH THE SEED: the statements are not yours to turn. If you find one false, say at which input.
  Laid BY PROGRAM, IN A SANDBOX (cutbox-rows.mjs): the forced cells as the released guide's own fill.sh prints them over the translation 72b717f934d51ce7… (all of the seat's roots in one cut). By AI agents, Wed Nov 11 2026. No macro, syntax, notation, axiom, sorry.
-/
import Derived.Test.YtndgpinhbffleaaGreatChecked
import GoSem.Claim
import GoSem.ClaimJoined
import GoSem.ClaimMapViews
import Derived.JoinedTies
import Derived.KernelRfl
namespace Go.Proofs.YtndgpinhbffleaaGreat
/- THE CELL 'sum', in the pinned program and in every row, IS THE sha256 OF THE DUMP (.gsa) THAT YtndgpinhbffleaaGreatProg.lean LOADS. Nothing in Lean hashes anything: it is a label: what it is worth is what the hold of that sum in a sandbox is worth. -/
noncomputable def Tryz.pinned : Pinned := { name := "ytndgpinhbffleaagreat", sum := "72b717f934d51ce7dcb15817fead45b9edcf2016a1dfafc714ccdc263f01e71d", checked := Tryz.checked }
namespace Rows
def none {H : Type} : Left H := { results := [], args := [] }

/-- 'laws.FnRepair': WHATEVER THE INPUT: true; the input reads as it did. -/
def fnRepairSpec : ChangeSpec := { name := "fnRepair", fn := fun _ => fun
  | [d] => { results := [.lit (.bool true)], args := [d] }
  | _ => none }
def fnRepairRow : OpenClaim := { program := "ytndgpinhbffleaagreat", sum := "72b717f934d51ce7dcb15817fead45b9edcf2016a1dfafc714ccdc263f01e71d", func := "loop.example/g00456/laws.FnRepair", spec := "fnRepair", unfollowed := true, recurses := true, apart := false }
def FnRepairSaid : Prop := fnRepairRow.holds Tryz.pinned (OpenSpec.ofChange fnRepairSpec)

/-- ITS FALSE NEIGHBOUR: 'it returns false'. Refute it at one input. -/
def fnRepairWrong : ChangeSpec := { name := "fnRepair", fn := fun _ => fun
  | [d] => { results := [.lit (.bool false)], args := [d] }
  | _ => none }
def FnRepairWrongFalsely : Prop := fnRepairRow.holds Tryz.pinned (OpenSpec.ofChange fnRepairWrong)

/-- 'laws.FnSnap': WHATEVER THE INPUT: true; the input reads as it did. -/
def fnSnapSpec : ChangeSpec := { name := "fnSnap", fn := fun _ => fun
  | [d1, d2] => { results := [.lit (.bool true)], args := [d1, d2] }
  | _ => none }
def fnSnapRow : OpenClaim := { program := "ytndgpinhbffleaagreat", sum := "72b717f934d51ce7dcb15817fead45b9edcf2016a1dfafc714ccdc263f01e71d", func := "loop.example/g00456/laws.FnSnap", spec := "fnSnap", unfollowed := true, recurses := true, apart := false }
def FnSnapSaid : Prop := fnSnapRow.holds Tryz.pinned (OpenSpec.ofChange fnSnapSpec)

/-- ITS FALSE NEIGHBOUR: 'it returns false'. Refute it at one input. -/
def fnSnapWrong : ChangeSpec := { name := "fnSnap", fn := fun _ => fun
  | [d1, d2] => { results := [.lit (.bool false)], args := [d1, d2] }
  | _ => none }
def FnSnapWrongFalsely : Prop := fnSnapRow.holds Tryz.pinned (OpenSpec.ofChange fnSnapWrong)

/-- 'laws.FnResize': WHATEVER THE INPUT: true; the input reads as it did. -/
def fnResizeSpec : ChangeSpec := { name := "fnResize", fn := fun _ => fun
  | [d1, d2] => { results := [.lit (.bool true)], args := [d1, d2] }
  | _ => none }
def fnResizeRow : OpenClaim := { program := "ytndgpinhbffleaagreat", sum := "72b717f934d51ce7dcb15817fead45b9edcf2016a1dfafc714ccdc263f01e71d", func := "loop.example/g00456/laws.FnResize", spec := "fnResize", unfollowed := true, recurses := true, apart := false }
def FnResizeSaid : Prop := fnResizeRow.holds Tryz.pinned (OpenSpec.ofChange fnResizeSpec)

/-- ITS FALSE NEIGHBOUR: 'it returns false'. Refute it at one input. -/
def fnResizeWrong : ChangeSpec := { name := "fnResize", fn := fun _ => fun
  | [d1, d2] => { results := [.lit (.bool false)], args := [d1, d2] }
  | _ => none }
def FnResizeWrongFalsely : Prop := fnResizeRow.holds Tryz.pinned (OpenSpec.ofChange fnResizeWrong)

/-- 'laws.FnWrite': WHATEVER THE INPUT: true; the input reads as it did. -/
def fnWriteSpec : ChangeSpec := { name := "fnWrite", fn := fun _ => fun
  | [d1, d2] => { results := [.lit (.bool true)], args := [d1, d2] }
  | _ => none }
def fnWriteRow : OpenClaim := { program := "ytndgpinhbffleaagreat", sum := "72b717f934d51ce7dcb15817fead45b9edcf2016a1dfafc714ccdc263f01e71d", func := "loop.example/g00456/laws.FnWrite", spec := "fnWrite", unfollowed := true, recurses := true, apart := false }
def FnWriteSaid : Prop := fnWriteRow.holds Tryz.pinned (OpenSpec.ofChange fnWriteSpec)

/-- ITS FALSE NEIGHBOUR: 'it returns false'. Refute it at one input. -/
def fnWriteWrong : ChangeSpec := { name := "fnWrite", fn := fun _ => fun
  | [d1, d2] => { results := [.lit (.bool false)], args := [d1, d2] }
  | _ => none }
def FnWriteWrongFalsely : Prop := fnWriteRow.holds Tryz.pinned (OpenSpec.ofChange fnWriteWrong)

/-- 'laws.FnNames': WHATEVER THE INPUT: true; the input reads as it did. -/
def fnNamesSpec : ChangeSpec := { name := "fnNames", fn := fun _ => fun
  | [d1, d2] => { results := [.lit (.bool true)], args := [d1, d2] }
  | _ => none }
def fnNamesRow : OpenClaim := { program := "ytndgpinhbffleaagreat", sum := "72b717f934d51ce7dcb15817fead45b9edcf2016a1dfafc714ccdc263f01e71d", func := "loop.example/g00456/laws.FnNames", spec := "fnNames", unfollowed := true, recurses := true, apart := false }
def FnNamesSaid : Prop := fnNamesRow.holds Tryz.pinned (OpenSpec.ofChange fnNamesSpec)

/-- ITS FALSE NEIGHBOUR: 'it returns false'. Refute it at one input. -/
def fnNamesWrong : ChangeSpec := { name := "fnNames", fn := fun _ => fun
  | [d1, d2] => { results := [.lit (.bool false)], args := [d1, d2] }
  | _ => none }
def FnNamesWrongFalsely : Prop := fnNamesRow.holds Tryz.pinned (OpenSpec.ofChange fnNamesWrong)

/-- 'laws.FnStore': WHATEVER THE INPUT: true; the input reads as it did. -/
def fnStoreSpec : ChangeSpec := { name := "fnStore", fn := fun _ => fun
  | [d1, d2] => { results := [.lit (.bool true)], args := [d1, d2] }
  | _ => none }
def fnStoreRow : OpenClaim := { program := "ytndgpinhbffleaagreat", sum := "72b717f934d51ce7dcb15817fead45b9edcf2016a1dfafc714ccdc263f01e71d", func := "loop.example/g00456/laws.FnStore", spec := "fnStore", unfollowed := true, recurses := true, apart := false }
def FnStoreSaid : Prop := fnStoreRow.holds Tryz.pinned (OpenSpec.ofChange fnStoreSpec)

/-- ITS FALSE NEIGHBOUR: 'it returns false'. Refute it at one input. -/
def fnStoreWrong : ChangeSpec := { name := "fnStore", fn := fun _ => fun
  | [d1, d2] => { results := [.lit (.bool false)], args := [d1, d2] }
  | _ => none }
def FnStoreWrongFalsely : Prop := fnStoreRow.holds Tryz.pinned (OpenSpec.ofChange fnStoreWrong)

/-- 'laws.FnDiff': WHATEVER THE INPUT: true; the input reads as it did. -/
def fnDiffSpec : ChangeSpec := { name := "fnDiff", fn := fun _ => fun
  | [d1, d2] => { results := [.lit (.bool true)], args := [d1, d2] }
  | _ => none }
def fnDiffRow : OpenClaim := { program := "ytndgpinhbffleaagreat", sum := "72b717f934d51ce7dcb15817fead45b9edcf2016a1dfafc714ccdc263f01e71d", func := "loop.example/g00456/laws.FnDiff", spec := "fnDiff", unfollowed := true, recurses := true, apart := false }
def FnDiffSaid : Prop := fnDiffRow.holds Tryz.pinned (OpenSpec.ofChange fnDiffSpec)

/-- ITS FALSE NEIGHBOUR: 'it returns false'. Refute it at one input. -/
def fnDiffWrong : ChangeSpec := { name := "fnDiff", fn := fun _ => fun
  | [d1, d2] => { results := [.lit (.bool false)], args := [d1, d2] }
  | _ => none }
def FnDiffWrongFalsely : Prop := fnDiffRow.holds Tryz.pinned (OpenSpec.ofChange fnDiffWrong)

/-- 'laws.FnExactRepair': WHATEVER THE INPUT: true; the input reads as it did. -/
def fnExactRepairSpec : ChangeSpec := { name := "fnExactRepair", fn := fun _ => fun
  | [d] => { results := [.lit (.bool true)], args := [d] }
  | _ => none }
def fnExactRepairRow : OpenClaim := { program := "ytndgpinhbffleaagreat", sum := "72b717f934d51ce7dcb15817fead45b9edcf2016a1dfafc714ccdc263f01e71d", func := "loop.example/g00456/laws.FnExactRepair", spec := "fnExactRepair", unfollowed := true, recurses := true, apart := false }
def FnExactRepairSaid : Prop := fnExactRepairRow.holds Tryz.pinned (OpenSpec.ofChange fnExactRepairSpec)

/-- ITS FALSE NEIGHBOUR: 'it returns false'. Refute it at one input. -/
def fnExactRepairWrong : ChangeSpec := { name := "fnExactRepair", fn := fun _ => fun
  | [d] => { results := [.lit (.bool false)], args := [d] }
  | _ => none }
def FnExactRepairWrongFalsely : Prop := fnExactRepairRow.holds Tryz.pinned (OpenSpec.ofChange fnExactRepairWrong)

/-- 'laws.FnExactZeroCluster': WHATEVER THE INPUT: true; the input reads as it did. -/
def fnExactZeroClusterSpec : ChangeSpec := { name := "fnExactZeroCluster", fn := fun _ => fun
  | [d1, d2] => { results := [.lit (.bool true)], args := [d1, d2] }
  | _ => none }
def fnExactZeroClusterRow : OpenClaim := { program := "ytndgpinhbffleaagreat", sum := "72b717f934d51ce7dcb15817fead45b9edcf2016a1dfafc714ccdc263f01e71d", func := "loop.example/g00456/laws.FnExactZeroCluster", spec := "fnExactZeroCluster", unfollowed := true, recurses := true, apart := false }
def FnExactZeroClusterSaid : Prop := fnExactZeroClusterRow.holds Tryz.pinned (OpenSpec.ofChange fnExactZeroClusterSpec)

/-- ITS FALSE NEIGHBOUR: 'it returns false'. Refute it at one input. -/
def fnExactZeroClusterWrong : ChangeSpec := { name := "fnExactZeroCluster", fn := fun _ => fun
  | [d1, d2] => { results := [.lit (.bool false)], args := [d1, d2] }
  | _ => none }
def FnExactZeroClusterWrongFalsely : Prop := fnExactZeroClusterRow.holds Tryz.pinned (OpenSpec.ofChange fnExactZeroClusterWrong)

/-- 'laws.FnExactResizeImage': WHATEVER THE INPUT: true; the input reads as it did. -/
def fnExactResizeImageSpec : ChangeSpec := { name := "fnExactResizeImage", fn := fun _ => fun
  | [d1, d2] => { results := [.lit (.bool true)], args := [d1, d2] }
  | _ => none }
def fnExactResizeImageRow : OpenClaim := { program := "ytndgpinhbffleaagreat", sum := "72b717f934d51ce7dcb15817fead45b9edcf2016a1dfafc714ccdc263f01e71d", func := "loop.example/g00456/laws.FnExactResizeImage", spec := "fnExactResizeImage", unfollowed := true, recurses := true, apart := false }
def FnExactResizeImageSaid : Prop := fnExactResizeImageRow.holds Tryz.pinned (OpenSpec.ofChange fnExactResizeImageSpec)

/-- ITS FALSE NEIGHBOUR: 'it returns false'. Refute it at one input. -/
def fnExactResizeImageWrong : ChangeSpec := { name := "fnExactResizeImage", fn := fun _ => fun
  | [d1, d2] => { results := [.lit (.bool false)], args := [d1, d2] }
  | _ => none }
def FnExactResizeImageWrongFalsely : Prop := fnExactResizeImageRow.holds Tryz.pinned (OpenSpec.ofChange fnExactResizeImageWrong)

/-- 'laws.FnExactWriteCluster': WHATEVER THE INPUT: true; the input reads as it did. -/
def fnExactWriteClusterSpec : ChangeSpec := { name := "fnExactWriteCluster", fn := fun _ => fun
  | [d1, d2, d3] => { results := [.lit (.bool true)], args := [d1, d2, d3] }
  | _ => none }
def fnExactWriteClusterRow : OpenClaim := { program := "ytndgpinhbffleaagreat", sum := "72b717f934d51ce7dcb15817fead45b9edcf2016a1dfafc714ccdc263f01e71d", func := "loop.example/g00456/laws.FnExactWriteCluster", spec := "fnExactWriteCluster", unfollowed := true, recurses := true, apart := false }
def FnExactWriteClusterSaid : Prop := fnExactWriteClusterRow.holds Tryz.pinned (OpenSpec.ofChange fnExactWriteClusterSpec)

/-- ITS FALSE NEIGHBOUR: 'it returns false'. Refute it at one input. -/
def fnExactWriteClusterWrong : ChangeSpec := { name := "fnExactWriteCluster", fn := fun _ => fun
  | [d1, d2, d3] => { results := [.lit (.bool false)], args := [d1, d2, d3] }
  | _ => none }
def FnExactWriteClusterWrongFalsely : Prop := fnExactWriteClusterRow.holds Tryz.pinned (OpenSpec.ofChange fnExactWriteClusterWrong)

/- THE SECOND FORM. 'bulk': how many values and letters a reading holds, each counted each time it is reached (what is shared counts as often as it is met; a slice's spare places count too). A statement '..UptoSaid' is the law's where the arguments, and the package variables that the reading takes, are together of bulk at most 1048576: NARROWER than '..Said'. Prove '..Said' where nothing that the law and all that it calls make is longer than what came in: it says more and counts as full. Else prove '..UptoSaid'. A law counts once. -/
mutual
def uptoBulk {H : Type} : DataW H → Nat
  | .lit (.string bytes) => bytes.length + 1
  | .lit _ => 1
  | .nil => 1
  | .ptr d => uptoBulk d + 1
  | .slice elems spare => uptoBulkAll elems + uptoBulkAll spare + 1
  | .agg parts => uptoBulkAll parts + 1
  | .iface _ d => uptoBulk d + 1
  | .map entries => uptoBulkEntries entries + 1
  | .held _ => 1
def uptoBulkAll {H : Type} : List (DataW H) → Nat
  | [] => 0
  | d :: r => uptoBulk d + uptoBulkAll r
def uptoBulkEntries {H : Type} : List (Lit × DataW H) → Nat
  | [] => 0
  | x :: r => uptoBulkEntry x + uptoBulkEntries r
def uptoBulkEntry {H : Type} : Lit × DataW H → Nat
  | (.string bytes, d) => bytes.length + uptoBulk d + 1
  | (_, d) => uptoBulk d + 1
 end
def uptoSmall : (H : Type) → List (DataW H) → Bool := fun _ ds => decide (uptoBulkAll ds ≤ 1048576)
def OpenSpec.upto (s : _root_.Go.ChangeSpec) : _root_.Go.OpenSpec := { _root_.Go.OpenSpec.ofChange s with cond := some uptoSmall }

/-- 'laws.FnRepair', WHERE WHAT IT READS IS OF BULK AT MOST 1048576: true; the input reads as it did. -/
def fnRepairUptoRow : OpenClaim := { program := "ytndgpinhbffleaagreat", sum := "72b717f934d51ce7dcb15817fead45b9edcf2016a1dfafc714ccdc263f01e71d", func := "loop.example/g00456/laws.FnRepair", spec := "fnRepair", unfollowed := true, recurses := true, apart := false, narrowed := true }
def FnRepairUptoSaid : Prop := fnRepairUptoRow.holds Tryz.pinned (OpenSpec.upto fnRepairSpec)

/-- 'laws.FnSnap', WHERE WHAT IT READS IS OF BULK AT MOST 1048576: true; the input reads as it did. -/
def fnSnapUptoRow : OpenClaim := { program := "ytndgpinhbffleaagreat", sum := "72b717f934d51ce7dcb15817fead45b9edcf2016a1dfafc714ccdc263f01e71d", func := "loop.example/g00456/laws.FnSnap", spec := "fnSnap", unfollowed := true, recurses := true, apart := false, narrowed := true }
def FnSnapUptoSaid : Prop := fnSnapUptoRow.holds Tryz.pinned (OpenSpec.upto fnSnapSpec)

/-- 'laws.FnResize', WHERE WHAT IT READS IS OF BULK AT MOST 1048576: true; the input reads as it did. -/
def fnResizeUptoRow : OpenClaim := { program := "ytndgpinhbffleaagreat", sum := "72b717f934d51ce7dcb15817fead45b9edcf2016a1dfafc714ccdc263f01e71d", func := "loop.example/g00456/laws.FnResize", spec := "fnResize", unfollowed := true, recurses := true, apart := false, narrowed := true }
def FnResizeUptoSaid : Prop := fnResizeUptoRow.holds Tryz.pinned (OpenSpec.upto fnResizeSpec)

/-- 'laws.FnWrite', WHERE WHAT IT READS IS OF BULK AT MOST 1048576: true; the input reads as it did. -/
def fnWriteUptoRow : OpenClaim := { program := "ytndgpinhbffleaagreat", sum := "72b717f934d51ce7dcb15817fead45b9edcf2016a1dfafc714ccdc263f01e71d", func := "loop.example/g00456/laws.FnWrite", spec := "fnWrite", unfollowed := true, recurses := true, apart := false, narrowed := true }
def FnWriteUptoSaid : Prop := fnWriteUptoRow.holds Tryz.pinned (OpenSpec.upto fnWriteSpec)

/-- 'laws.FnNames', WHERE WHAT IT READS IS OF BULK AT MOST 1048576: true; the input reads as it did. -/
def fnNamesUptoRow : OpenClaim := { program := "ytndgpinhbffleaagreat", sum := "72b717f934d51ce7dcb15817fead45b9edcf2016a1dfafc714ccdc263f01e71d", func := "loop.example/g00456/laws.FnNames", spec := "fnNames", unfollowed := true, recurses := true, apart := false, narrowed := true }
def FnNamesUptoSaid : Prop := fnNamesUptoRow.holds Tryz.pinned (OpenSpec.upto fnNamesSpec)

/-- 'laws.FnStore', WHERE WHAT IT READS IS OF BULK AT MOST 1048576: true; the input reads as it did. -/
def fnStoreUptoRow : OpenClaim := { program := "ytndgpinhbffleaagreat", sum := "72b717f934d51ce7dcb15817fead45b9edcf2016a1dfafc714ccdc263f01e71d", func := "loop.example/g00456/laws.FnStore", spec := "fnStore", unfollowed := true, recurses := true, apart := false, narrowed := true }
def FnStoreUptoSaid : Prop := fnStoreUptoRow.holds Tryz.pinned (OpenSpec.upto fnStoreSpec)

/-- 'laws.FnDiff', WHERE WHAT IT READS IS OF BULK AT MOST 1048576: true; the input reads as it did. -/
def fnDiffUptoRow : OpenClaim := { program := "ytndgpinhbffleaagreat", sum := "72b717f934d51ce7dcb15817fead45b9edcf2016a1dfafc714ccdc263f01e71d", func := "loop.example/g00456/laws.FnDiff", spec := "fnDiff", unfollowed := true, recurses := true, apart := false, narrowed := true }
def FnDiffUptoSaid : Prop := fnDiffUptoRow.holds Tryz.pinned (OpenSpec.upto fnDiffSpec)

/-- 'laws.FnExactRepair', WHERE WHAT IT READS IS OF BULK AT MOST 1048576: true; the input reads as it did. -/
def fnExactRepairUptoRow : OpenClaim := { program := "ytndgpinhbffleaagreat", sum := "72b717f934d51ce7dcb15817fead45b9edcf2016a1dfafc714ccdc263f01e71d", func := "loop.example/g00456/laws.FnExactRepair", spec := "fnExactRepair", unfollowed := true, recurses := true, apart := false, narrowed := true }
def FnExactRepairUptoSaid : Prop := fnExactRepairUptoRow.holds Tryz.pinned (OpenSpec.upto fnExactRepairSpec)

/-- 'laws.FnExactZeroCluster', WHERE WHAT IT READS IS OF BULK AT MOST 1048576: true; the input reads as it did. -/
def fnExactZeroClusterUptoRow : OpenClaim := { program := "ytndgpinhbffleaagreat", sum := "72b717f934d51ce7dcb15817fead45b9edcf2016a1dfafc714ccdc263f01e71d", func := "loop.example/g00456/laws.FnExactZeroCluster", spec := "fnExactZeroCluster", unfollowed := true, recurses := true, apart := false, narrowed := true }
def FnExactZeroClusterUptoSaid : Prop := fnExactZeroClusterUptoRow.holds Tryz.pinned (OpenSpec.upto fnExactZeroClusterSpec)

/-- 'laws.FnExactResizeImage', WHERE WHAT IT READS IS OF BULK AT MOST 1048576: true; the input reads as it did. -/
def fnExactResizeImageUptoRow : OpenClaim := { program := "ytndgpinhbffleaagreat", sum := "72b717f934d51ce7dcb15817fead45b9edcf2016a1dfafc714ccdc263f01e71d", func := "loop.example/g00456/laws.FnExactResizeImage", spec := "fnExactResizeImage", unfollowed := true, recurses := true, apart := false, narrowed := true }
def FnExactResizeImageUptoSaid : Prop := fnExactResizeImageUptoRow.holds Tryz.pinned (OpenSpec.upto fnExactResizeImageSpec)

/-- 'laws.FnExactWriteCluster', WHERE WHAT IT READS IS OF BULK AT MOST 1048576: true; the input reads as it did. -/
def fnExactWriteClusterUptoRow : OpenClaim := { program := "ytndgpinhbffleaagreat", sum := "72b717f934d51ce7dcb15817fead45b9edcf2016a1dfafc714ccdc263f01e71d", func := "loop.example/g00456/laws.FnExactWriteCluster", spec := "fnExactWriteCluster", unfollowed := true, recurses := true, apart := false, narrowed := true }
def FnExactWriteClusterUptoSaid : Prop := fnExactWriteClusterUptoRow.holds Tryz.pinned (OpenSpec.upto fnExactWriteClusterSpec)

end Rows
end Go.Proofs.YtndgpinhbffleaaGreat
