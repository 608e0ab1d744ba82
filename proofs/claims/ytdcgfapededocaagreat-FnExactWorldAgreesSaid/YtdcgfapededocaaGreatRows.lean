/-
  No cell of these rows narrows 'for every input' (looked for: loops, veiled, ifaces, maps, wideKeys, modest, calm, conditions, laid).
  DERIVED. THE GIVEN ROWS OF THIS SEAT. 4 by the template 'for every input the law returns true; each argument reads behind the call as it read before'; 0 by the template 'total and deterministic' (their statements: YtdcgfapededocaaGreatTotals.lean).
  GIVEN WITH THE SEED: the statements are not yours to turn. If you find one false, say at which input.
  Laid BY PROGRAM, IN A SANDBOX (cutbox-rows.mjs): the forced cells as the released guide's own fill.sh prints them over the translation 80fe7c1e981ee4b5… (all of the seat's roots in one cut). By AI agents, Wed Nov 11 2026. No macro, syntax, notation, axiom, sorry.
-/
import Derived.Test.YtdcgfapededocaaGreatChecked
import GoSem.Claim
import GoSem.ClaimJoined
import GoSem.ClaimMapViews
import Derived.JoinedTies
import Derived.KernelRfl
namespace Go.Proofs.YtdcgfapededocaaGreat
/- THE CELL 'sum', in the pinned program and in every row, IS THE sha256 OF THE DUMP (.gsa) THAT YtdcgfapededocaaGreatProg.lean LOADS. Nothing in Lean hashes anything: it is a label: what it is worth is what the hold of that sum in a sandbox is worth. -/
noncomputable def Tryz.pinned : Pinned := { name := "ytdcgfapededocaagreat", sum := "80fe7c1e981ee4b5a38829f3c42c5ae35a39ce75f10f9182ed29ab20427bcdfb", checked := Tryz.checked }
namespace Rows
def none {H : Type} : Left H := { results := [], args := [] }

/-- 'laws.FnExactWorldOK': WHATEVER THE INPUT: true; the input reads as it did. -/
def fnExactWorldOKSpec : ChangeSpec := { name := "fnExactWorldOK", fn := fun _ => fun
  | [d] => { results := [.lit (.bool true)], args := [d] }
  | _ => none }
def fnExactWorldOKRow : OpenClaim := { program := "ytdcgfapededocaagreat", sum := "80fe7c1e981ee4b5a38829f3c42c5ae35a39ce75f10f9182ed29ab20427bcdfb", func := "loop.example/g00456/laws.FnExactWorldOK", spec := "fnExactWorldOK", unfollowed := true, recurses := true, apart := false }
def FnExactWorldOKSaid : Prop := fnExactWorldOKRow.holds Tryz.pinned (OpenSpec.ofChange fnExactWorldOKSpec)

/-- ITS FALSE NEIGHBOUR: 'it returns false'. Refute it at one input. -/
def fnExactWorldOKWrong : ChangeSpec := { name := "fnExactWorldOK", fn := fun _ => fun
  | [d] => { results := [.lit (.bool false)], args := [d] }
  | _ => none }
def FnExactWorldOKWrongFalsely : Prop := fnExactWorldOKRow.holds Tryz.pinned (OpenSpec.ofChange fnExactWorldOKWrong)

/-- 'laws.FnExactMayWrite': WHATEVER THE INPUT: true; the input reads as it did. -/
def fnExactMayWriteSpec : ChangeSpec := { name := "fnExactMayWrite", fn := fun _ => fun
  | [d1, d2] => { results := [.lit (.bool true)], args := [d1, d2] }
  | _ => none }
def fnExactMayWriteRow : OpenClaim := { program := "ytdcgfapededocaagreat", sum := "80fe7c1e981ee4b5a38829f3c42c5ae35a39ce75f10f9182ed29ab20427bcdfb", func := "loop.example/g00456/laws.FnExactMayWrite", spec := "fnExactMayWrite", unfollowed := true, recurses := true, apart := false }
def FnExactMayWriteSaid : Prop := fnExactMayWriteRow.holds Tryz.pinned (OpenSpec.ofChange fnExactMayWriteSpec)

/-- ITS FALSE NEIGHBOUR: 'it returns false'. Refute it at one input. -/
def fnExactMayWriteWrong : ChangeSpec := { name := "fnExactMayWrite", fn := fun _ => fun
  | [d1, d2] => { results := [.lit (.bool false)], args := [d1, d2] }
  | _ => none }
def FnExactMayWriteWrongFalsely : Prop := fnExactMayWriteRow.holds Tryz.pinned (OpenSpec.ofChange fnExactMayWriteWrong)

/-- 'laws.FnExactWorldAgrees': WHATEVER THE INPUT: true; the input reads as it did. -/
def fnExactWorldAgreesSpec : ChangeSpec := { name := "fnExactWorldAgrees", fn := fun _ => fun
  | [d] => { results := [.lit (.bool true)], args := [d] }
  | _ => none }
def fnExactWorldAgreesRow : OpenClaim := { program := "ytdcgfapededocaagreat", sum := "80fe7c1e981ee4b5a38829f3c42c5ae35a39ce75f10f9182ed29ab20427bcdfb", func := "loop.example/g00456/laws.FnExactWorldAgrees", spec := "fnExactWorldAgrees", unfollowed := true, recurses := true, apart := false }
def FnExactWorldAgreesSaid : Prop := fnExactWorldAgreesRow.holds Tryz.pinned (OpenSpec.ofChange fnExactWorldAgreesSpec)

/-- ITS FALSE NEIGHBOUR: 'it returns false'. Refute it at one input. -/
def fnExactWorldAgreesWrong : ChangeSpec := { name := "fnExactWorldAgrees", fn := fun _ => fun
  | [d] => { results := [.lit (.bool false)], args := [d] }
  | _ => none }
def FnExactWorldAgreesWrongFalsely : Prop := fnExactWorldAgreesRow.holds Tryz.pinned (OpenSpec.ofChange fnExactWorldAgreesWrong)

/-- 'laws.FnExactNewWorld': WHATEVER THE INPUT: true; the input reads as it did. -/
def fnExactNewWorldSpec : ChangeSpec := { name := "fnExactNewWorld", fn := fun _ => fun
  | [d1, d2] => { results := [.lit (.bool true)], args := [d1, d2] }
  | _ => none }
def fnExactNewWorldRow : OpenClaim := { program := "ytdcgfapededocaagreat", sum := "80fe7c1e981ee4b5a38829f3c42c5ae35a39ce75f10f9182ed29ab20427bcdfb", func := "loop.example/g00456/laws.FnExactNewWorld", spec := "fnExactNewWorld", unfollowed := true, recurses := true, apart := false }
def FnExactNewWorldSaid : Prop := fnExactNewWorldRow.holds Tryz.pinned (OpenSpec.ofChange fnExactNewWorldSpec)

/-- ITS FALSE NEIGHBOUR: 'it returns false'. Refute it at one input. -/
def fnExactNewWorldWrong : ChangeSpec := { name := "fnExactNewWorld", fn := fun _ => fun
  | [d1, d2] => { results := [.lit (.bool false)], args := [d1, d2] }
  | _ => none }
def FnExactNewWorldWrongFalsely : Prop := fnExactNewWorldRow.holds Tryz.pinned (OpenSpec.ofChange fnExactNewWorldWrong)

/- THE SECOND FORM. 'bulk': how many values and letters a reading holds, each counted each time it is reached (what is shared counts as often as it is met; a slice's spare places count too). A statement '..UptoSaid' is the law's where the arguments, and the package variables that the reading takes, are together of bulk at most 1048576: NARROWER than '..Said'. Prove '..Said' where nothing that the law and all that it calls make is longer than what came in: it says more and counts as full. Else prove '..UptoSaid'. A law counts once. -/
mutual
def uptoBulk {H : Type} : DataW H → Nat
  | .lit (.string bytes) => bytes.length + 1
  | .lit _ => 1
  | .nil => 1
  | .ptr d => uptoBulk d + 1
  | .slice elems spare => uptoBulkAll elems + uptoBulkAll spare + 1
  | .agg parts => uptoBulkAll parts + 1
  | .iface _ d => uptoBulk d + 1
  | .map entries => uptoBulkEntries entries + 1
  | .held _ => 1
def uptoBulkAll {H : Type} : List (DataW H) → Nat
  | [] => 0
  | d :: r => uptoBulk d + uptoBulkAll r
def uptoBulkEntries {H : Type} : List (Lit × DataW H) → Nat
  | [] => 0
  | x :: r => uptoBulkEntry x + uptoBulkEntries r
def uptoBulkEntry {H : Type} : Lit × DataW H → Nat
  | (.string bytes, d) => bytes.length + uptoBulk d + 1
  | (_, d) => uptoBulk d + 1
 end
def uptoSmall : (H : Type) → List (DataW H) → Bool := fun _ ds => decide (uptoBulkAll ds ≤ 1048576)
def OpenSpec.upto (s : _root_.Go.ChangeSpec) : _root_.Go.OpenSpec := { _root_.Go.OpenSpec.ofChange s with cond := some uptoSmall }

/-- 'laws.FnExactWorldOK', WHERE WHAT IT READS IS OF BULK AT MOST 1048576: true; the input reads as it did. -/
def fnExactWorldOKUptoRow : OpenClaim := { program := "ytdcgfapededocaagreat", sum := "80fe7c1e981ee4b5a38829f3c42c5ae35a39ce75f10f9182ed29ab20427bcdfb", func := "loop.example/g00456/laws.FnExactWorldOK", spec := "fnExactWorldOK", unfollowed := true, recurses := true, apart := false, narrowed := true }
def FnExactWorldOKUptoSaid : Prop := fnExactWorldOKUptoRow.holds Tryz.pinned (OpenSpec.upto fnExactWorldOKSpec)

/-- 'laws.FnExactMayWrite', WHERE WHAT IT READS IS OF BULK AT MOST 1048576: true; the input reads as it did. -/
def fnExactMayWriteUptoRow : OpenClaim := { program := "ytdcgfapededocaagreat", sum := "80fe7c1e981ee4b5a38829f3c42c5ae35a39ce75f10f9182ed29ab20427bcdfb", func := "loop.example/g00456/laws.FnExactMayWrite", spec := "fnExactMayWrite", unfollowed := true, recurses := true, apart := false, narrowed := true }
def FnExactMayWriteUptoSaid : Prop := fnExactMayWriteUptoRow.holds Tryz.pinned (OpenSpec.upto fnExactMayWriteSpec)

/-- 'laws.FnExactWorldAgrees', WHERE WHAT IT READS IS OF BULK AT MOST 1048576: true; the input reads as it did. -/
def fnExactWorldAgreesUptoRow : OpenClaim := { program := "ytdcgfapededocaagreat", sum := "80fe7c1e981ee4b5a38829f3c42c5ae35a39ce75f10f9182ed29ab20427bcdfb", func := "loop.example/g00456/laws.FnExactWorldAgrees", spec := "fnExactWorldAgrees", unfollowed := true, recurses := true, apart := false, narrowed := true }
def FnExactWorldAgreesUptoSaid : Prop := fnExactWorldAgreesUptoRow.holds Tryz.pinned (OpenSpec.upto fnExactWorldAgreesSpec)

/-- 'laws.FnExactNewWorld', WHERE WHAT IT READS IS OF BULK AT MOST 1048576: true; the input reads as it did. -/
def fnExactNewWorldUptoRow : OpenClaim := { program := "ytdcgfapededocaagreat", sum := "80fe7c1e981ee4b5a38829f3c42c5ae35a39ce75f10f9182ed29ab20427bcdfb", func := "loop.example/g00456/laws.FnExactNewWorld", spec := "fnExactNewWorld", unfollowed := true, recurses := true, apart := false, narrowed := true }
def FnExactNewWorldUptoSaid : Prop := fnExactNewWorldUptoRow.holds Tryz.pinned (OpenSpec.upto fnExactNewWorldSpec)

end Rows
end Go.Proofs.YtdcgfapededocaaGreat
