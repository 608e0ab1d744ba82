/- A reading of the loaded code over plain data, its soundness, and what functions answer by it (part 9; joined by program). No condition. -/
import Derived.Test.YtdcgfapededocaaGreatKRw8
import Derived.Test.YtdcgfapededocaaGreatProg
import Derived.RangeFuncFrom
import Derived.RangeFuncLeaves
import Derived.RangeFuncBox
import Derived.Shelf.Abstract
import Derived.WalkKit
import Derived.OwnWalkIn
import Derived.TacticsInMore
import Derived.LoopNIn
import Derived.LoopIn
set_option linter.all false
namespace Go.Proofs.YtdcgfapededocaaGreat
open Go Go.RowKit Go.Shelf
set_option linter.unusedVariables false
attribute [local go_sem] Oper.semAt_some
/-- A text of the machine's. -/
def mstr (l : List UInt8) : ByteArray := ⟨l.toArray⟩
/-- The writes lie in a row. -/
def IosAt (W : World) (b off len : Nat) (zs : Nat → Io) : Prop :=
  ∀ i, i < len → W.cell? ⟨b, off + i * 3, none⟩ = some (.int .i64 (zs i).host) ∧ W.cell? ⟨b, off + i * 3 + 1, none⟩ = some (.int .i64 (zs i).at_) ∧ W.cell? ⟨b, off + i * 3 + 2, none⟩ = some (.string (mstr (zs i).data))
theorem IosAt.below {n₀ : Nat} {A B : World} {b off len : Nat} {zs : Nat → Io} (h : Below n₀ A B) (hb : b < n₀) (hi : IosAt A b off len zs) : IosAt B b off len zs := fun i hl =>
  ⟨(h.cell (p := ⟨b, off + i * 3, none⟩) hb).trans (hi i hl).1, (h.cell (p := ⟨b, off + i * 3 + 1, none⟩) hb).trans (hi i hl).2.1, (h.cell (p := ⟨b, off + i * 3 + 2, none⟩) hb).trans (hi i hl).2.2⟩
end Go.Proofs.YtdcgfapededocaaGreat



namespace Go.Proofs.YtdcgfapededocaaGreat
open Go Go.RowKit Go.Shelf
set_option linter.unusedVariables false
attribute [local go_sem] Oper.semAt_some
/-- The numbers lie in a row. -/
def IntsAt (W : World) (b off len : Nat) (zs : Nat → Int) : Prop := ∀ i, i < len → W.cell? ⟨b, off + i, none⟩ = some (.int .i64 (zs i))
theorem IntsAt.below {n₀ : Nat} {A B : World} {b off len : Nat} {zs : Nat → Int} (h : Below n₀ A B) (hb : b < n₀) (hi : IntsAt A b off len zs) : IntsAt B b off len zs := fun i hl => (h.cell (p := ⟨b, off + i, none⟩) hb).trans (hi i hl)
set_option maxRecDepth 100000 in
set_option maxHeartbeats 2000000 in
theorem back1I_in (F : Fence) (n : Nat) (h7 : F.fn 256) (hro : F.round = none) (hn : 1 ≤ n) (l Bs b off len cap : Nat) (zs : Nat → Int) (hreach : len ≤ 1073741824) (J Jx : Nat → World → Prop)
    (hY : ∀ k W, J k W → k < len → YieldAt F (n - 1) Tryz.prog l #[.int .i64 ((len - 1 - k : Nat) : Int), (.int .i64 (zs (len - 1 - k)) : Value)] W fun e W' =>
      (e = .returned (.bool true) ∧ J (k + 1) W') ∨ (e = .returned (.bool false) ∧ Jx (k + 1) W'))
    (hJ : ∀ k W, J k W → W.cell? ⟨Bs, 0, none⟩ = some (.slice (some ⟨b, off, none⟩) len cap) ∧ IntsAt W b off len zs) (W : World) (h0 : J 0 W) :
    CallsIn F n Tryz.prog 256 #[.func (.yield l) #[] #[], .pointer (some ⟨Bs, 0, none⟩)] W fun e W' => (∃ v, e = .returned v) ∧ (J len W' ∨ ∃ k, k ≤ len ∧ Jx k W') := by
  refine callsIn_of_wp Tryz.func256 rfl h7 ?_ hro
  simp only [Tryz.ntmps256, List.size_toArray, List.length_cons, List.length_nil, Nat.reduceAdd, Nat.reduceSub, Array.replicate_succ, Array.replicate_zero, List.push_toArray, List.append_toArray, List.nil_append, List.cons_append]
  obtain ⟨hBs, hc0⟩ := hJ 0 W h0
  gi_wp2
  gi_loopw [3] (fun i wr => ∃ k : Nat, k ≤ len ∧ i = .int .i64 ((len : Int) - 1 - k) ∧ J k wr)
    (fun i _ => (intOf i + 1).toNat)
  case atStart => exact ⟨0, Nat.zero_le _, by simp, h0⟩
  case round =>
    obtain ⟨k, hk, rfl, hJs⟩ := hrel
    obtain ⟨hBs', hc⟩ := hJ k wr hJs
    by_cases hlt : k < len
    · obtain ⟨fn, tmps, assign, body, hy, hR⟩ := hY k wr hJs hlt
      have c0 := hc (len - 1 - k) (by omega)
      obtain ⟨m, hm⟩ : ∃ m : Nat, m = len - 1 - k := ⟨_, rfl⟩
      have e : (len : Int) - 1 - k = (m : Int) := by omega
      rw [← hm] at c0 hy
      rw [e]
      have hml : m < len := by omega
      have hmk : m + k + 1 = len := by omega
      clear hm e
      gi_wp2
      refine hR.mono ?_
      rintro e W3 (⟨rfl, hJ3⟩ | ⟨rfl, hJx3⟩)
      · gi_wp2
        go_roundw
        case rel => exact ⟨k + 1, by omega, by simp; omega, hJ3⟩
        case measure => simp [intOf]
      · gi_wp2
        refine bodyPost_ret (results_none rfl _ _ _) rfl ?_
        exact ⟨⟨_, rfl⟩, .inr ⟨k + 1, by omega, hJx3⟩⟩
    · obtain rfl : k = len := by omega
      gi_wp2
      go_end0
      exact ⟨⟨_, rfl⟩, .inl hJs⟩
set_option maxHeartbeats 1000000 in
theorem backI_in (F : Fence) (n : Nat) (h5 : F.fn 243) (hro : F.round = none) (a : Option Addr) (len cap : Nat) (w : World) :
    CallsIn F n Tryz.prog 243 #[.slice a len cap] w fun e w' => e = .returned (.func (.func 256) #[] #[.pointer (some ⟨w.heap.size, 0, none⟩)]) ∧ w' = w.alloc (.cells #[.slice a len cap] 29) := by
  refine callsIn_of_wp Tryz.func243 rfl h5 ?_ hro
  simp only [Tryz.ntmps243, List.size_toArray, List.length_cons, List.length_nil, Nat.reduceAdd, Nat.reduceSub, Array.replicate_succ, Array.replicate_zero, List.push_toArray, List.append_toArray, List.nil_append, List.cons_append]
  gi_wp2
  go_ret
  exact ⟨rfl, rfl⟩
end Go.Proofs.YtdcgfapededocaaGreat



namespace Go.Proofs.YtdcgfapededocaaGreat
open Go Go.RowKit Go.Shelf
set_option linter.unusedVariables false
attribute [local go_sem] Oper.semAt_some
end Go.Proofs.YtdcgfapededocaaGreat


