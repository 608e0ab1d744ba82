/-
  No cell of these rows narrows 'for every input' (looked for: loops, veiled, ifaces, maps, wideKeys, modest, calm, conditions, laid).
  DERIVED. THE GIVEN ROWS OF THIS SEAT. 3 by the template 'for every input the law returns true; each argument reads behind the call as it read before'; 0 by the template 'total and deterministic' (their statements: YtenmfblmekilaaaGreatTotals.lean).
  GIVEN WITH THE SEED: the statements are not yours to turn. If you find one false, say at which input.
  Laid BY PROGRAM, IN A SANDBOX (cutbox-rows.mjs): the forced cells as the released guide's own fill.sh prints them over the translation e8c8bb8eed9b54c7… (all of the seat's roots in one cut). By AI agents, Wed Nov 11 2026. No macro, syntax, notation, axiom, sorry.
-/
import Derived.Test.YtenmfblmekilaaaGreatChecked
import GoSem.Claim
import GoSem.ClaimJoined
import GoSem.ClaimMapViews
import Derived.JoinedTies
import Derived.KernelRfl
namespace Go.Proofs.YtenmfblmekilaaaGreat
/- THE CELL 'sum', in the pinned program and in every row, IS THE sha256 OF THE DUMP (.gsa) THAT YtenmfblmekilaaaGreatProg.lean LOADS. Nothing in Lean hashes anything: it is a label: what it is worth is what the hold of that sum in a sandbox is worth. -/
noncomputable def Tryz.pinned : Pinned := { name := "ytenmfblmekilaaagreat", sum := "e8c8bb8eed9b54c7e4fa5b319f2876d2034b7769c932b86d3c4bd966554b6117", checked := Tryz.checked }
namespace Rows
def none {H : Type} : Left H := { results := [], args := [] }

/-- 'laws.FnExactSnapCreate': WHATEVER THE INPUT: true; the input reads as it did. -/
def fnExactSnapCreateSpec : ChangeSpec := { name := "fnExactSnapCreate", fn := fun _ => fun
  | [d1, d2] => { results := [.lit (.bool true)], args := [d1, d2] }
  | _ => none }
def fnExactSnapCreateRow : OpenClaim := { program := "ytenmfblmekilaaagreat", sum := "e8c8bb8eed9b54c7e4fa5b319f2876d2034b7769c932b86d3c4bd966554b6117", func := "loop.example/g00456/laws.FnExactSnapCreate", spec := "fnExactSnapCreate", unfollowed := true, recurses := true, apart := false }
def FnExactSnapCreateSaid : Prop := fnExactSnapCreateRow.holds Tryz.pinned (OpenSpec.ofChange fnExactSnapCreateSpec)

/-- ITS FALSE NEIGHBOUR: 'it returns false'. Refute it at one input. -/
def fnExactSnapCreateWrong : ChangeSpec := { name := "fnExactSnapCreate", fn := fun _ => fun
  | [d1, d2] => { results := [.lit (.bool false)], args := [d1, d2] }
  | _ => none }
def FnExactSnapCreateWrongFalsely : Prop := fnExactSnapCreateRow.holds Tryz.pinned (OpenSpec.ofChange fnExactSnapCreateWrong)

/-- 'laws.FnExactSnapRevert': WHATEVER THE INPUT: true; the input reads as it did. -/
def fnExactSnapRevertSpec : ChangeSpec := { name := "fnExactSnapRevert", fn := fun _ => fun
  | [d1, d2] => { results := [.lit (.bool true)], args := [d1, d2] }
  | _ => none }
def fnExactSnapRevertRow : OpenClaim := { program := "ytenmfblmekilaaagreat", sum := "e8c8bb8eed9b54c7e4fa5b319f2876d2034b7769c932b86d3c4bd966554b6117", func := "loop.example/g00456/laws.FnExactSnapRevert", spec := "fnExactSnapRevert", unfollowed := true, recurses := true, apart := false }
def FnExactSnapRevertSaid : Prop := fnExactSnapRevertRow.holds Tryz.pinned (OpenSpec.ofChange fnExactSnapRevertSpec)

/-- ITS FALSE NEIGHBOUR: 'it returns false'. Refute it at one input. -/
def fnExactSnapRevertWrong : ChangeSpec := { name := "fnExactSnapRevert", fn := fun _ => fun
  | [d1, d2] => { results := [.lit (.bool false)], args := [d1, d2] }
  | _ => none }
def FnExactSnapRevertWrongFalsely : Prop := fnExactSnapRevertRow.holds Tryz.pinned (OpenSpec.ofChange fnExactSnapRevertWrong)

/-- 'laws.FnExactSnapDelete': WHATEVER THE INPUT: true; the input reads as it did. -/
def fnExactSnapDeleteSpec : ChangeSpec := { name := "fnExactSnapDelete", fn := fun _ => fun
  | [d1, d2] => { results := [.lit (.bool true)], args := [d1, d2] }
  | _ => none }
def fnExactSnapDeleteRow : OpenClaim := { program := "ytenmfblmekilaaagreat", sum := "e8c8bb8eed9b54c7e4fa5b319f2876d2034b7769c932b86d3c4bd966554b6117", func := "loop.example/g00456/laws.FnExactSnapDelete", spec := "fnExactSnapDelete", unfollowed := true, recurses := true, apart := false }
def FnExactSnapDeleteSaid : Prop := fnExactSnapDeleteRow.holds Tryz.pinned (OpenSpec.ofChange fnExactSnapDeleteSpec)

/-- ITS FALSE NEIGHBOUR: 'it returns false'. Refute it at one input. -/
def fnExactSnapDeleteWrong : ChangeSpec := { name := "fnExactSnapDelete", fn := fun _ => fun
  | [d1, d2] => { results := [.lit (.bool false)], args := [d1, d2] }
  | _ => none }
def FnExactSnapDeleteWrongFalsely : Prop := fnExactSnapDeleteRow.holds Tryz.pinned (OpenSpec.ofChange fnExactSnapDeleteWrong)

/- THE SECOND FORM. 'bulk': how many values and letters a reading holds, each counted each time it is reached (what is shared counts as often as it is met; a slice's spare places count too). A statement '..UptoSaid' is the law's where the arguments, and the package variables that the reading takes, are together of bulk at most 1048576: NARROWER than '..Said'. Prove '..Said' where nothing that the law and all that it calls make is longer than what came in: it says more and counts as full. Else prove '..UptoSaid'. A law counts once. -/
mutual
def uptoBulk {H : Type} : DataW H → Nat
  | .lit (.string bytes) => bytes.length + 1
  | .lit _ => 1
  | .nil => 1
  | .ptr d => uptoBulk d + 1
  | .slice elems spare => uptoBulkAll elems + uptoBulkAll spare + 1
  | .agg parts => uptoBulkAll parts + 1
  | .iface _ d => uptoBulk d + 1
  | .map entries => uptoBulkEntries entries + 1
  | .held _ => 1
def uptoBulkAll {H : Type} : List (DataW H) → Nat
  | [] => 0
  | d :: r => uptoBulk d + uptoBulkAll r
def uptoBulkEntries {H : Type} : List (Lit × DataW H) → Nat
  | [] => 0
  | x :: r => uptoBulkEntry x + uptoBulkEntries r
def uptoBulkEntry {H : Type} : Lit × DataW H → Nat
  | (.string bytes, d) => bytes.length + uptoBulk d + 1
  | (_, d) => uptoBulk d + 1
 end
def uptoSmall : (H : Type) → List (DataW H) → Bool := fun _ ds => decide (uptoBulkAll ds ≤ 1048576)
def OpenSpec.upto (s : _root_.Go.ChangeSpec) : _root_.Go.OpenSpec := { _root_.Go.OpenSpec.ofChange s with cond := some uptoSmall }

/-- 'laws.FnExactSnapCreate', WHERE WHAT IT READS IS OF BULK AT MOST 1048576: true; the input reads as it did. -/
def fnExactSnapCreateUptoRow : OpenClaim := { program := "ytenmfblmekilaaagreat", sum := "e8c8bb8eed9b54c7e4fa5b319f2876d2034b7769c932b86d3c4bd966554b6117", func := "loop.example/g00456/laws.FnExactSnapCreate", spec := "fnExactSnapCreate", unfollowed := true, recurses := true, apart := false, narrowed := true }
def FnExactSnapCreateUptoSaid : Prop := fnExactSnapCreateUptoRow.holds Tryz.pinned (OpenSpec.upto fnExactSnapCreateSpec)

/-- 'laws.FnExactSnapRevert', WHERE WHAT IT READS IS OF BULK AT MOST 1048576: true; the input reads as it did. -/
def fnExactSnapRevertUptoRow : OpenClaim := { program := "ytenmfblmekilaaagreat", sum := "e8c8bb8eed9b54c7e4fa5b319f2876d2034b7769c932b86d3c4bd966554b6117", func := "loop.example/g00456/laws.FnExactSnapRevert", spec := "fnExactSnapRevert", unfollowed := true, recurses := true, apart := false, narrowed := true }
def FnExactSnapRevertUptoSaid : Prop := fnExactSnapRevertUptoRow.holds Tryz.pinned (OpenSpec.upto fnExactSnapRevertSpec)

/-- 'laws.FnExactSnapDelete', WHERE WHAT IT READS IS OF BULK AT MOST 1048576: true; the input reads as it did. -/
def fnExactSnapDeleteUptoRow : OpenClaim := { program := "ytenmfblmekilaaagreat", sum := "e8c8bb8eed9b54c7e4fa5b319f2876d2034b7769c932b86d3c4bd966554b6117", func := "loop.example/g00456/laws.FnExactSnapDelete", spec := "fnExactSnapDelete", unfollowed := true, recurses := true, apart := false, narrowed := true }
def FnExactSnapDeleteUptoSaid : Prop := fnExactSnapDeleteUptoRow.holds Tryz.pinned (OpenSpec.upto fnExactSnapDeleteSpec)

end Rows
end Go.Proofs.YtenmfblmekilaaaGreat
