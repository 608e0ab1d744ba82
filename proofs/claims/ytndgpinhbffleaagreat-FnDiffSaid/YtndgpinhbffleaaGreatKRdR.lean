/- The law FnDiff holds: whatever it is handed, it answers true, and what it was handed reads as before. No condition. -/
import Derived.Test.YtndgpinhbffleaaGreatKRd12
import Derived.Test.YtndgpinhbffleaaGreatRows
import Derived.WalkKit
import Derived.ProofKit
import Derived.OpenShut
import Derived.ShutString
import Derived.ChangeOld
import Derived.Below
import Derived.SizedLaws
import Derived.Carry
set_option linter.all false
namespace Go.Proofs.YtndgpinhbffleaaGreat.fnDiff
open Go Go.ChangeShapes Go.WideShapes Go.ChangeAt Go.RowKit
set_option linter.unusedVariables false
theorem own : ownKnob Tryz.prog.godebug = none := by kernel_rfl
theorem laidOut : laidOutB Tryz.prog = true := by kernel_rfl
set_option maxRecDepth 100000 in
theorem lifted (os : Os) (started : os.Started) (H : Type) (enc : TypeId × Value → H) :
    ReturnsInHanded {} Tryz.checked os 9 .any (Rows.fnDiffSpec.pre6 enc Tryz.prog Tryz.f9 Rows.fnDiffRow.domain false) (Rows.fnDiffSpec.post enc Tryz.prog Tryz.f9 false true false false) := by
  refine returnsInHanded_of_change_sized (C := Tryz.checked) own started (by kernel_rfl) Tryz.func9
    (ChangeSpec.witness6 (enc := enc) (C := Tryz.checked) false ⟨#[], #[.slice none 0 0, .slice none 0 0], []⟩ 8 (by kernel_rfl) (by kernel_rfl) (by kernel_rfl) (by kernel_rfl)) ?_
  intro W base args ds gs before hval0 hW hcnd hsz0 _
  have hval : ∀ (j : Nat) t v, Tryz.f9.params[j]? = some t → args[j]? = some v → Value.okWide Tryz.prog W .any base t v := hval0
  have hW' := hW
  obtain ⟨p, q, hA0, hV, rfl, hfz, hnd⟩ := hW
  have hA : DataW.TrodAll enc Tryz.prog W 0 (fun _ => true) true Tryz.f9.params.toList args.toList ds p := hA0
  rw [Tryz.params9] at hA hval
  obtain ⟨v0, vs0, d0, ds0, p0, q0, hargs, rfl, rfl, h0, r0⟩ := trodAll_cons hA
  obtain ⟨v1, vs1, d1, ds1, p1, q1, rfl, rfl, rfl, h1, r1⟩ := trodAll_cons r0
  obtain ⟨rfl, rfl, rfl⟩ := trodAll_nil r1
  obtain rfl : args = #[v0, v1] := by cases args; simp_all
  obtain ⟨rfl, rfl⟩ := trodVars_none hV
  have lt0 : ∀ x ∈ p0, x.block < W.heap.size := by obtain ⟨m, hm⟩ := h0; exact DataW.trod_lt m _ _ _ hm
  obtain ⟨av0, t0, rep0⟩ := arg_told 6 (by kernel_rfl) (hval 0 22 v0 rfl rfl) h0
  obtain ⟨x0, e0, s0⟩ := told_Bytes av0 t0
  rw [e0] at rep0
  have lt1 : ∀ x ∈ p1, x.block < W.heap.size := by obtain ⟨m, hm⟩ := h1; exact DataW.trod_lt m _ _ _ hm
  obtain ⟨av1, t1, rep1⟩ := arg_told 6 (by kernel_rfl) (hval 1 22 v1 rfl rfl) h1
  obtain ⟨x1, e1, s1⟩ := told_Bytes av1 t1
  rw [e1] at rep1
  clear hA0 hval0 hsz0
  have eq := diffFn_E x0 x1 s0.2 s1.2 s0.1 s1.1
  refine (calls_of eq (vals := #[v0, v1]) (w := W) (by simp) (fun i hi => ?_)).mono fun e W' ⟨he, hx⟩ => ?_
  · simp only [List.length_cons, List.length_nil] at hi
    match i, hi with
    | 0, _ => simpa using rep0
    | 1, _ => simpa using rep1
  · have bel : Below W.heap.size W W' := ⟨hx.os, hx.tape, hx.output, hx.size, fun k hk => hx.block k hk fun h => h⟩
    subst he
    exact ⟨_, rfl, _, _, _, [], _, [], hW', trodAll_mk1 (shut_bool Tryz.underlying4 _), (trodAll_cons_mk (Below.trod laidOut (by kernel_rfl) (of_decide_eq_true (by kernel_rfl)) h0 bel lt0) (trodAll_cons_mk (Below.trod laidOut (by kernel_rfl) (of_decide_eq_true (by kernel_rfl)) h1 bel lt1) trodAll_mk0)), rfl, bel.frame _, fun h => by cases h⟩
theorem over : Rows.fnDiffRow.holds Tryz.pinned (OpenSpec.ofChange Rows.fnDiffSpec) :=
  OpenClaim.holds_of_wide 9 Tryz.f9 rfl rfl rfl rfl rfl rfl rfl ⟨rfl, rfl, rfl, rfl, rfl⟩ rfl rfl rfl rfl rfl (by kernel_rfl) Tryz.func9 (by kernel_rfl)
    (of_decide_eq_true (by kernel_rfl)) (by unfold Func.isWrapper; first | (rw [if_pos (by decide +kernel)]; kernel_rfl) | (rw [if_neg (by decide +kernel)]; exact ⟨rfl, rfl⟩))
    (fun os started H enc _ => lifted os started H enc)
theorem proved : Rows.FnDiffSaid := over
end Go.Proofs.YtndgpinhbffleaaGreat.fnDiff
namespace Go.Proofs.YtndgpinhbffleaaGreat
/-- The row, under a short name, for the claim. -/
theorem fnDiff_holds : Rows.FnDiffSaid := fnDiff.proved
#print axioms fnDiff_holds
end Go.Proofs.YtndgpinhbffleaaGreat


