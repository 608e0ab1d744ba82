/-
  No cell of these rows narrows 'for every input' (looked for: loops, veiled, ifaces, maps, wideKeys, modest, calm, conditions, laid).
  DERIVED. THE GIVEN ROWS OF THIS SEAT. 10 by the template 'for every input the law returns true; each argument reads behind the call as it read before'; 0 by the template 'total and deterministic' (their statements: YtccoeoppjcegnaaTotals.lean).
  GIVEN WITH THE SEED: the statements are not yours to turn. If you find one false, say at which input.
  Laid BY PROGRAM, IN A SANDBOX (cutbox-rows.mjs): the forced cells as the released guide's own fill.sh prints them over the translation 402d42817791b363… (all of the seat's roots in one cut). By AI agents, Wed Nov 11 2026. No macro, syntax, notation, axiom, sorry.
-/
import Derived.Test.YtccoeoppjcegnaaChecked
import GoSem.Claim
import GoSem.ClaimJoined
import GoSem.ClaimMapViews
import Derived.JoinedTies
import Derived.KernelRfl
namespace Go.Proofs.Ytccoeoppjcegnaa
/- THE CELL 'sum', in the pinned program and in every row, IS THE sha256 OF THE DUMP (.gsa) THAT YtccoeoppjcegnaaProg.lean LOADS. Nothing in Lean hashes anything: it is a label: what it is worth is what the hold of that sum in a sandbox is worth. -/
noncomputable def Try.pinned : Pinned := { name := "ytccoeoppjcegnaa", sum := "402d42817791b363c4b4a7d939690d308314911539991150dc454fe8ac8cc544", checked := Try.checked }
namespace Rows
def none {H : Type} : Left H := { results := [], args := [] }

/-- 'laws.FnJournal': WHATEVER THE INPUT: true; the input reads as it did. -/
def fnJournalSpec : ChangeSpec := { name := "fnJournal", fn := fun _ => fun
  | [d1, d2] => { results := [.lit (.bool true)], args := [d1, d2] }
  | _ => none }
def fnJournalRow : OpenClaim := { program := "ytccoeoppjcegnaa", sum := "402d42817791b363c4b4a7d939690d308314911539991150dc454fe8ac8cc544", func := "loop.example/g00456/laws.FnJournal", spec := "fnJournal", unfollowed := true, recurses := true, apart := false }
def FnJournalSaid : Prop := fnJournalRow.holds Try.pinned (OpenSpec.ofChange fnJournalSpec)

/-- ITS FALSE NEIGHBOUR: 'it returns false'. Refute it at one input. -/
def fnJournalWrong : ChangeSpec := { name := "fnJournal", fn := fun _ => fun
  | [d1, d2] => { results := [.lit (.bool false)], args := [d1, d2] }
  | _ => none }
def FnJournalWrongFalsely : Prop := fnJournalRow.holds Try.pinned (OpenSpec.ofChange fnJournalWrong)

/-- 'laws.FnDelta': WHATEVER THE INPUT: true; the input reads as it did. -/
def fnDeltaSpec : ChangeSpec := { name := "fnDelta", fn := fun _ => fun
  | [d1, d2] => { results := [.lit (.bool true)], args := [d1, d2] }
  | _ => none }
def fnDeltaRow : OpenClaim := { program := "ytccoeoppjcegnaa", sum := "402d42817791b363c4b4a7d939690d308314911539991150dc454fe8ac8cc544", func := "loop.example/g00456/laws.FnDelta", spec := "fnDelta", unfollowed := true, recurses := true, apart := false }
def FnDeltaSaid : Prop := fnDeltaRow.holds Try.pinned (OpenSpec.ofChange fnDeltaSpec)

/-- ITS FALSE NEIGHBOUR: 'it returns false'. Refute it at one input. -/
def fnDeltaWrong : ChangeSpec := { name := "fnDelta", fn := fun _ => fun
  | [d1, d2] => { results := [.lit (.bool false)], args := [d1, d2] }
  | _ => none }
def FnDeltaWrongFalsely : Prop := fnDeltaRow.holds Try.pinned (OpenSpec.ofChange fnDeltaWrong)

/-- 'laws.FnExactMovesDo': WHATEVER THE INPUT: true; the input reads as it did. -/
def fnExactMovesDoSpec : ChangeSpec := { name := "fnExactMovesDo", fn := fun _ => fun
  | [d1, d2, d3] => { results := [.lit (.bool true)], args := [d1, d2, d3] }
  | _ => none }
def fnExactMovesDoRow : OpenClaim := { program := "ytccoeoppjcegnaa", sum := "402d42817791b363c4b4a7d939690d308314911539991150dc454fe8ac8cc544", func := "loop.example/g00456/laws.FnExactMovesDo", spec := "fnExactMovesDo", unfollowed := true, recurses := true, apart := false }
def FnExactMovesDoSaid : Prop := fnExactMovesDoRow.holds Try.pinned (OpenSpec.ofChange fnExactMovesDoSpec)

/-- ITS FALSE NEIGHBOUR: 'it returns false'. Refute it at one input. -/
def fnExactMovesDoWrong : ChangeSpec := { name := "fnExactMovesDo", fn := fun _ => fun
  | [d1, d2, d3] => { results := [.lit (.bool false)], args := [d1, d2, d3] }
  | _ => none }
def FnExactMovesDoWrongFalsely : Prop := fnExactMovesDoRow.holds Try.pinned (OpenSpec.ofChange fnExactMovesDoWrong)

/-- 'laws.FnExactJournalOf': WHATEVER THE INPUT: true; the input reads as it did. -/
def fnExactJournalOfSpec : ChangeSpec := { name := "fnExactJournalOf", fn := fun _ => fun
  | [d1, d2, d3] => { results := [.lit (.bool true)], args := [d1, d2, d3] }
  | _ => none }
def fnExactJournalOfRow : OpenClaim := { program := "ytccoeoppjcegnaa", sum := "402d42817791b363c4b4a7d939690d308314911539991150dc454fe8ac8cc544", func := "loop.example/g00456/laws.FnExactJournalOf", spec := "fnExactJournalOf", unfollowed := true, recurses := true, apart := false }
def FnExactJournalOfSaid : Prop := fnExactJournalOfRow.holds Try.pinned (OpenSpec.ofChange fnExactJournalOfSpec)

/-- ITS FALSE NEIGHBOUR: 'it returns false'. Refute it at one input. -/
def fnExactJournalOfWrong : ChangeSpec := { name := "fnExactJournalOf", fn := fun _ => fun
  | [d1, d2, d3] => { results := [.lit (.bool false)], args := [d1, d2, d3] }
  | _ => none }
def FnExactJournalOfWrongFalsely : Prop := fnExactJournalOfRow.holds Try.pinned (OpenSpec.ofChange fnExactJournalOfWrong)

/-- 'laws.FnAtomic': WHATEVER THE INPUT: true; the input reads as it did. -/
def fnAtomicSpec : ChangeSpec := { name := "fnAtomic", fn := fun _ => fun
  | [d1, d2] => { results := [.lit (.bool true)], args := [d1, d2] }
  | _ => none }
def fnAtomicRow : OpenClaim := { program := "ytccoeoppjcegnaa", sum := "402d42817791b363c4b4a7d939690d308314911539991150dc454fe8ac8cc544", func := "loop.example/g00456/laws.FnAtomic", spec := "fnAtomic", unfollowed := true, recurses := true, apart := false }
def FnAtomicSaid : Prop := fnAtomicRow.holds Try.pinned (OpenSpec.ofChange fnAtomicSpec)

/-- ITS FALSE NEIGHBOUR: 'it returns false'. Refute it at one input. -/
def fnAtomicWrong : ChangeSpec := { name := "fnAtomic", fn := fun _ => fun
  | [d1, d2] => { results := [.lit (.bool false)], args := [d1, d2] }
  | _ => none }
def FnAtomicWrongFalsely : Prop := fnAtomicRow.holds Try.pinned (OpenSpec.ofChange fnAtomicWrong)

/-- 'laws.FnRelease': WHATEVER THE INPUT: true; the input reads as it did. -/
def fnReleaseSpec : ChangeSpec := { name := "fnRelease", fn := fun _ => fun
  | [d1, d2] => { results := [.lit (.bool true)], args := [d1, d2] }
  | _ => none }
def fnReleaseRow : OpenClaim := { program := "ytccoeoppjcegnaa", sum := "402d42817791b363c4b4a7d939690d308314911539991150dc454fe8ac8cc544", func := "loop.example/g00456/laws.FnRelease", spec := "fnRelease", unfollowed := true, recurses := true, apart := false }
def FnReleaseSaid : Prop := fnReleaseRow.holds Try.pinned (OpenSpec.ofChange fnReleaseSpec)

/-- ITS FALSE NEIGHBOUR: 'it returns false'. Refute it at one input. -/
def fnReleaseWrong : ChangeSpec := { name := "fnRelease", fn := fun _ => fun
  | [d1, d2] => { results := [.lit (.bool false)], args := [d1, d2] }
  | _ => none }
def FnReleaseWrongFalsely : Prop := fnReleaseRow.holds Try.pinned (OpenSpec.ofChange fnReleaseWrong)

/-- 'laws.FnExactReplayPlan': WHATEVER THE INPUT: true; the input reads as it did. -/
def fnExactReplayPlanSpec : ChangeSpec := { name := "fnExactReplayPlan", fn := fun _ => fun
  | [d1, d2, d3] => { results := [.lit (.bool true)], args := [d1, d2, d3] }
  | _ => none }
def fnExactReplayPlanRow : OpenClaim := { program := "ytccoeoppjcegnaa", sum := "402d42817791b363c4b4a7d939690d308314911539991150dc454fe8ac8cc544", func := "loop.example/g00456/laws.FnExactReplayPlan", spec := "fnExactReplayPlan", unfollowed := true, recurses := true, apart := false }
def FnExactReplayPlanSaid : Prop := fnExactReplayPlanRow.holds Try.pinned (OpenSpec.ofChange fnExactReplayPlanSpec)

/-- ITS FALSE NEIGHBOUR: 'it returns false'. Refute it at one input. -/
def fnExactReplayPlanWrong : ChangeSpec := { name := "fnExactReplayPlan", fn := fun _ => fun
  | [d1, d2, d3] => { results := [.lit (.bool false)], args := [d1, d2, d3] }
  | _ => none }
def FnExactReplayPlanWrongFalsely : Prop := fnExactReplayPlanRow.holds Try.pinned (OpenSpec.ofChange fnExactReplayPlanWrong)

/-- 'laws.FnExactTakeDelta': WHATEVER THE INPUT: true; the input reads as it did. -/
def fnExactTakeDeltaSpec : ChangeSpec := { name := "fnExactTakeDelta", fn := fun _ => fun
  | [d1, d2, d3] => { results := [.lit (.bool true)], args := [d1, d2, d3] }
  | _ => none }
def fnExactTakeDeltaRow : OpenClaim := { program := "ytccoeoppjcegnaa", sum := "402d42817791b363c4b4a7d939690d308314911539991150dc454fe8ac8cc544", func := "loop.example/g00456/laws.FnExactTakeDelta", spec := "fnExactTakeDelta", unfollowed := true, recurses := true, apart := false }
def FnExactTakeDeltaSaid : Prop := fnExactTakeDeltaRow.holds Try.pinned (OpenSpec.ofChange fnExactTakeDeltaSpec)

/-- ITS FALSE NEIGHBOUR: 'it returns false'. Refute it at one input. -/
def fnExactTakeDeltaWrong : ChangeSpec := { name := "fnExactTakeDelta", fn := fun _ => fun
  | [d1, d2, d3] => { results := [.lit (.bool false)], args := [d1, d2, d3] }
  | _ => none }
def FnExactTakeDeltaWrongFalsely : Prop := fnExactTakeDeltaRow.holds Try.pinned (OpenSpec.ofChange fnExactTakeDeltaWrong)

/-- 'laws.FnExactRenewDelta': WHATEVER THE INPUT: true; the input reads as it did. -/
def fnExactRenewDeltaSpec : ChangeSpec := { name := "fnExactRenewDelta", fn := fun _ => fun
  | [d1, d2, d3] => { results := [.lit (.bool true)], args := [d1, d2, d3] }
  | _ => none }
def fnExactRenewDeltaRow : OpenClaim := { program := "ytccoeoppjcegnaa", sum := "402d42817791b363c4b4a7d939690d308314911539991150dc454fe8ac8cc544", func := "loop.example/g00456/laws.FnExactRenewDelta", spec := "fnExactRenewDelta", unfollowed := true, recurses := true, apart := false }
def FnExactRenewDeltaSaid : Prop := fnExactRenewDeltaRow.holds Try.pinned (OpenSpec.ofChange fnExactRenewDeltaSpec)

/-- ITS FALSE NEIGHBOUR: 'it returns false'. Refute it at one input. -/
def fnExactRenewDeltaWrong : ChangeSpec := { name := "fnExactRenewDelta", fn := fun _ => fun
  | [d1, d2, d3] => { results := [.lit (.bool false)], args := [d1, d2, d3] }
  | _ => none }
def FnExactRenewDeltaWrongFalsely : Prop := fnExactRenewDeltaRow.holds Try.pinned (OpenSpec.ofChange fnExactRenewDeltaWrong)

/-- 'laws.FnExactRelease': WHATEVER THE INPUT: true; the input reads as it did. -/
def fnExactReleaseSpec : ChangeSpec := { name := "fnExactRelease", fn := fun _ => fun
  | [d1, d2, d3] => { results := [.lit (.bool true)], args := [d1, d2, d3] }
  | _ => none }
def fnExactReleaseRow : OpenClaim := { program := "ytccoeoppjcegnaa", sum := "402d42817791b363c4b4a7d939690d308314911539991150dc454fe8ac8cc544", func := "loop.example/g00456/laws.FnExactRelease", spec := "fnExactRelease", unfollowed := true, recurses := true, apart := false }
def FnExactReleaseSaid : Prop := fnExactReleaseRow.holds Try.pinned (OpenSpec.ofChange fnExactReleaseSpec)

/-- ITS FALSE NEIGHBOUR: 'it returns false'. Refute it at one input. -/
def fnExactReleaseWrong : ChangeSpec := { name := "fnExactRelease", fn := fun _ => fun
  | [d1, d2, d3] => { results := [.lit (.bool false)], args := [d1, d2, d3] }
  | _ => none }
def FnExactReleaseWrongFalsely : Prop := fnExactReleaseRow.holds Try.pinned (OpenSpec.ofChange fnExactReleaseWrong)

/- THE SECOND FORM. 'bulk': how many values and letters a reading holds, each counted each time it is reached (what is shared counts as often as it is met; a slice's spare places count too). A statement '..UptoSaid' is the law's where the arguments, and the package variables that the reading takes, are together of bulk at most 1048576: NARROWER than '..Said'. Prove '..Said' where nothing that the law and all that it calls make is longer than what came in: it says more and counts as full. Else prove '..UptoSaid'. A law counts once. -/
mutual
def uptoBulk {H : Type} : DataW H → Nat
  | .lit (.string bytes) => bytes.length + 1
  | .lit _ => 1
  | .nil => 1
  | .ptr d => uptoBulk d + 1
  | .slice elems spare => uptoBulkAll elems + uptoBulkAll spare + 1
  | .agg parts => uptoBulkAll parts + 1
  | .iface _ d => uptoBulk d + 1
  | .map entries => uptoBulkEntries entries + 1
  | .held _ => 1
def uptoBulkAll {H : Type} : List (DataW H) → Nat
  | [] => 0
  | d :: r => uptoBulk d + uptoBulkAll r
def uptoBulkEntries {H : Type} : List (Lit × DataW H) → Nat
  | [] => 0
  | x :: r => uptoBulkEntry x + uptoBulkEntries r
def uptoBulkEntry {H : Type} : Lit × DataW H → Nat
  | (.string bytes, d) => bytes.length + uptoBulk d + 1
  | (_, d) => uptoBulk d + 1
 end
def uptoSmall : (H : Type) → List (DataW H) → Bool := fun _ ds => decide (uptoBulkAll ds ≤ 1048576)
def OpenSpec.upto (s : _root_.Go.ChangeSpec) : _root_.Go.OpenSpec := { _root_.Go.OpenSpec.ofChange s with cond := some uptoSmall }

/-- 'laws.FnJournal', WHERE WHAT IT READS IS OF BULK AT MOST 1048576: true; the input reads as it did. -/
def fnJournalUptoRow : OpenClaim := { program := "ytccoeoppjcegnaa", sum := "402d42817791b363c4b4a7d939690d308314911539991150dc454fe8ac8cc544", func := "loop.example/g00456/laws.FnJournal", spec := "fnJournal", unfollowed := true, recurses := true, apart := false, narrowed := true }
def FnJournalUptoSaid : Prop := fnJournalUptoRow.holds Try.pinned (OpenSpec.upto fnJournalSpec)

/-- 'laws.FnDelta', WHERE WHAT IT READS IS OF BULK AT MOST 1048576: true; the input reads as it did. -/
def fnDeltaUptoRow : OpenClaim := { program := "ytccoeoppjcegnaa", sum := "402d42817791b363c4b4a7d939690d308314911539991150dc454fe8ac8cc544", func := "loop.example/g00456/laws.FnDelta", spec := "fnDelta", unfollowed := true, recurses := true, apart := false, narrowed := true }
def FnDeltaUptoSaid : Prop := fnDeltaUptoRow.holds Try.pinned (OpenSpec.upto fnDeltaSpec)

/-- 'laws.FnExactMovesDo', WHERE WHAT IT READS IS OF BULK AT MOST 1048576: true; the input reads as it did. -/
def fnExactMovesDoUptoRow : OpenClaim := { program := "ytccoeoppjcegnaa", sum := "402d42817791b363c4b4a7d939690d308314911539991150dc454fe8ac8cc544", func := "loop.example/g00456/laws.FnExactMovesDo", spec := "fnExactMovesDo", unfollowed := true, recurses := true, apart := false, narrowed := true }
def FnExactMovesDoUptoSaid : Prop := fnExactMovesDoUptoRow.holds Try.pinned (OpenSpec.upto fnExactMovesDoSpec)

/-- 'laws.FnExactJournalOf', WHERE WHAT IT READS IS OF BULK AT MOST 1048576: true; the input reads as it did. -/
def fnExactJournalOfUptoRow : OpenClaim := { program := "ytccoeoppjcegnaa", sum := "402d42817791b363c4b4a7d939690d308314911539991150dc454fe8ac8cc544", func := "loop.example/g00456/laws.FnExactJournalOf", spec := "fnExactJournalOf", unfollowed := true, recurses := true, apart := false, narrowed := true }
def FnExactJournalOfUptoSaid : Prop := fnExactJournalOfUptoRow.holds Try.pinned (OpenSpec.upto fnExactJournalOfSpec)

/-- 'laws.FnAtomic', WHERE WHAT IT READS IS OF BULK AT MOST 1048576: true; the input reads as it did. -/
def fnAtomicUptoRow : OpenClaim := { program := "ytccoeoppjcegnaa", sum := "402d42817791b363c4b4a7d939690d308314911539991150dc454fe8ac8cc544", func := "loop.example/g00456/laws.FnAtomic", spec := "fnAtomic", unfollowed := true, recurses := true, apart := false, narrowed := true }
def FnAtomicUptoSaid : Prop := fnAtomicUptoRow.holds Try.pinned (OpenSpec.upto fnAtomicSpec)

/-- 'laws.FnRelease', WHERE WHAT IT READS IS OF BULK AT MOST 1048576: true; the input reads as it did. -/
def fnReleaseUptoRow : OpenClaim := { program := "ytccoeoppjcegnaa", sum := "402d42817791b363c4b4a7d939690d308314911539991150dc454fe8ac8cc544", func := "loop.example/g00456/laws.FnRelease", spec := "fnRelease", unfollowed := true, recurses := true, apart := false, narrowed := true }
def FnReleaseUptoSaid : Prop := fnReleaseUptoRow.holds Try.pinned (OpenSpec.upto fnReleaseSpec)

/-- 'laws.FnExactReplayPlan', WHERE WHAT IT READS IS OF BULK AT MOST 1048576: true; the input reads as it did. -/
def fnExactReplayPlanUptoRow : OpenClaim := { program := "ytccoeoppjcegnaa", sum := "402d42817791b363c4b4a7d939690d308314911539991150dc454fe8ac8cc544", func := "loop.example/g00456/laws.FnExactReplayPlan", spec := "fnExactReplayPlan", unfollowed := true, recurses := true, apart := false, narrowed := true }
def FnExactReplayPlanUptoSaid : Prop := fnExactReplayPlanUptoRow.holds Try.pinned (OpenSpec.upto fnExactReplayPlanSpec)

/-- 'laws.FnExactTakeDelta', WHERE WHAT IT READS IS OF BULK AT MOST 1048576: true; the input reads as it did. -/
def fnExactTakeDeltaUptoRow : OpenClaim := { program := "ytccoeoppjcegnaa", sum := "402d42817791b363c4b4a7d939690d308314911539991150dc454fe8ac8cc544", func := "loop.example/g00456/laws.FnExactTakeDelta", spec := "fnExactTakeDelta", unfollowed := true, recurses := true, apart := false, narrowed := true }
def FnExactTakeDeltaUptoSaid : Prop := fnExactTakeDeltaUptoRow.holds Try.pinned (OpenSpec.upto fnExactTakeDeltaSpec)

/-- 'laws.FnExactRenewDelta', WHERE WHAT IT READS IS OF BULK AT MOST 1048576: true; the input reads as it did. -/
def fnExactRenewDeltaUptoRow : OpenClaim := { program := "ytccoeoppjcegnaa", sum := "402d42817791b363c4b4a7d939690d308314911539991150dc454fe8ac8cc544", func := "loop.example/g00456/laws.FnExactRenewDelta", spec := "fnExactRenewDelta", unfollowed := true, recurses := true, apart := false, narrowed := true }
def FnExactRenewDeltaUptoSaid : Prop := fnExactRenewDeltaUptoRow.holds Try.pinned (OpenSpec.upto fnExactRenewDeltaSpec)

/-- 'laws.FnExactRelease', WHERE WHAT IT READS IS OF BULK AT MOST 1048576: true; the input reads as it did. -/
def fnExactReleaseUptoRow : OpenClaim := { program := "ytccoeoppjcegnaa", sum := "402d42817791b363c4b4a7d939690d308314911539991150dc454fe8ac8cc544", func := "loop.example/g00456/laws.FnExactRelease", spec := "fnExactRelease", unfollowed := true, recurses := true, apart := false, narrowed := true }
def FnExactReleaseUptoSaid : Prop := fnExactReleaseUptoRow.holds Try.pinned (OpenSpec.upto fnExactReleaseSpec)

end Rows
end Go.Proofs.Ytccoeoppjcegnaa
