/- A reading of the loaded code over plain data, its soundness, and what functions answer by it (part 9; joined by program). No condition. -/
import Derived.Test.YtndgpinhbffleaaGreatKRd8
import Derived.Test.YtndgpinhbffleaaGreatProg
import Derived.RangeFuncFrom
import Derived.RangeFuncLeaves
import Derived.RangeFuncBox
import Derived.Shelf.Abstract
import Derived.WalkKit
import Derived.OwnWalkIn
import Derived.TacticsInMore
import Derived.LoopNIn
import Derived.LoopIn
set_option linter.all false
namespace Go.Proofs.YtndgpinhbffleaaGreat
open Go Go.RowKit Go.Shelf
set_option linter.unusedVariables false
attribute [local go_sem] Oper.semAt_some
/-- A text of the machine's. -/
def mstr (l : List UInt8) : ByteArray := ⟨l.toArray⟩
def mIo (x : Io) : Value := .agg #[.int .i64 x.host, .int .i64 x.at_, .string (mstr x.data)]
/-- The writes lie in a row. -/
def IosAt (W : World) (b off len : Nat) (zs : Nat → Io) : Prop :=
  ∀ i, i < len → W.cell? ⟨b, off + i * 3, none⟩ = some (.int .i64 (zs i).host) ∧ W.cell? ⟨b, off + i * 3 + 1, none⟩ = some (.int .i64 (zs i).at_) ∧ W.cell? ⟨b, off + i * 3 + 2, none⟩ = some (.string (mstr (zs i).data))
theorem IosAt.below {n₀ : Nat} {A B : World} {b off len : Nat} {zs : Nat → Io} (h : Below n₀ A B) (hb : b < n₀) (hi : IosAt A b off len zs) : IosAt B b off len zs := fun i hl =>
  ⟨(h.cell (p := ⟨b, off + i * 3, none⟩) hb).trans (hi i hl).1, (h.cell (p := ⟨b, off + i * 3 + 1, none⟩) hb).trans (hi i hl).2.1, (h.cell (p := ⟨b, off + i * 3 + 2, none⟩) hb).trans (hi i hl).2.2⟩
set_option maxRecDepth 100000 in
set_option maxHeartbeats 2000000 in
theorem back1_in (F : Fence) (n : Nat) (h7 : F.fn 214) (hro : F.round = none) (hn : 1 ≤ n) (l Bs n₀ b off len cap : Nat) (zs : Nat → Io) (hreach : len ≤ 1073741824) (hb : b < n₀) (J Jx : Nat → World → Prop)
    (hY : ∀ k W, J k W → k < len → YieldAt F (n - 1) Tryz.prog l #[.int .i64 ((len - 1 - k : Nat) : Int), mIo (zs (len - 1 - k))] W fun e W' =>
      (e = .returned (.bool true) ∧ J (k + 1) W' ∧ Below n₀ W W') ∨ (e = .returned (.bool false) ∧ Jx (k + 1) W'))
    (W : World) (hBs : W.cell? ⟨Bs, 0, none⟩ = some (.slice (some ⟨b, off, none⟩) len cap)) (hBsn : Bs < n₀) (hc : IosAt W b off len zs) (h0 : J 0 W) :
    CallsIn F n Tryz.prog 214 #[.func (.yield l) #[] #[], .pointer (some ⟨Bs, 0, none⟩)] W fun e W' => (∃ v, e = .returned v) ∧ (J len W' ∨ ∃ k, k ≤ len ∧ Jx k W') := by
  refine callsIn_of_wp Tryz.func214 rfl h7 ?_ hro
  simp only [Tryz.ntmps214, List.size_toArray, List.length_cons, List.length_nil, Nat.reduceAdd, Nat.reduceSub, Array.replicate_succ, Array.replicate_zero, List.push_toArray, List.append_toArray, List.nil_append, List.cons_append]
  gi_wp2
  gi_loopw [3] (fun i wr => ∃ k : Nat, k ≤ len ∧ i = .int .i64 ((len : Int) - 1 - k) ∧ J k wr ∧ Below n₀ W wr)
    (fun i _ => (intOf i + 1).toNat)
  case atStart => exact ⟨0, Nat.zero_le _, by simp, h0, Below.refl _ _⟩
  case round =>
    obtain ⟨k, hk, rfl, hJs, hnx⟩ := hrel
    have hBs' : wr.cell? ⟨Bs, 0, none⟩ = some (.slice (some ⟨b, off, none⟩) len cap) := (hnx.cell (p := ⟨Bs, 0, none⟩) hBsn).trans hBs
    by_cases hlt : k < len
    · obtain ⟨fn, tmps, assign, body, hy, hR⟩ := hY k wr hJs hlt
      obtain ⟨c0, c1, c2⟩ := hnx |> fun h => IosAt.below h hb hc (len - 1 - k) (by omega)
      obtain ⟨m, hm⟩ : ∃ m : Nat, m = len - 1 - k := ⟨_, rfl⟩
      have e : (len : Int) - 1 - k = (m : Int) := by omega
      rw [← hm] at c0 c1 c2 hy
      rw [e]
      have hml : m < len := by omega
      have hmk : m + k + 1 = len := by omega
      clear hm e
      simp only [mIo] at hy
      gi_wp2
      refine hR.mono ?_
      rintro e W3 (⟨rfl, hJ3, hk3⟩ | ⟨rfl, hJx3⟩)
      · gi_wp2
        go_roundw
        case rel => exact ⟨k + 1, by omega, by simp; omega, hJ3, hnx.trans hk3⟩
        case measure => simp [intOf]
      · gi_wp2
        refine bodyPost_ret (results_none rfl _ _ _) rfl ?_
        exact ⟨⟨_, rfl⟩, .inr ⟨k + 1, by omega, hJx3⟩⟩
    · obtain rfl : k = len := by omega
      gi_wp2
      go_end0
      exact ⟨⟨_, rfl⟩, .inl hJs⟩
set_option maxRecDepth 100000 in
set_option maxHeartbeats 1000000 in
theorem back1_nil_in (F : Fence) (n : Nat) (h7 : F.fn 214) (hro : F.round = none) (l Bs : Nat) (a : Option Addr) (cap : Nat) (W : World) (hBs : W.cell? ⟨Bs, 0, none⟩ = some (.slice a 0 cap)) (J : World → Prop) (h0 : J W) :
    CallsIn F n Tryz.prog 214 #[.func (.yield l) #[] #[], .pointer (some ⟨Bs, 0, none⟩)] W fun e W' => (∃ v, e = .returned v) ∧ J W' := by
  refine callsIn_of_wp Tryz.func214 rfl h7 ?_ hro
  simp only [Tryz.ntmps214, List.size_toArray, List.length_cons, List.length_nil, Nat.reduceAdd, Nat.reduceSub, Array.replicate_succ, Array.replicate_zero, List.push_toArray, List.append_toArray, List.nil_append, List.cons_append]
  gi_wp2
  gi_loopw [3] (fun i wr => i = .int .i64 (-1) ∧ J wr) (fun _ _ => 0)
  case atStart => exact ⟨rfl, h0⟩
  case round =>
    obtain ⟨rfl, hJs⟩ := hrel
    gi_wp2
    go_end0
    exact ⟨⟨_, rfl⟩, hJs⟩
set_option maxHeartbeats 1000000 in
theorem back_in (F : Fence) (n : Nat) (h5 : F.fn 198) (hro : F.round = none) (a : Option Addr) (len cap : Nat) (w : World) :
    CallsIn F n Tryz.prog 198 #[.slice a len cap] w fun e w' => e = .returned (.func (.func 214) #[] #[.pointer (some ⟨w.heap.size, 0, none⟩)]) ∧ w' = w.alloc (.cells #[.slice a len cap] 60) := by
  refine callsIn_of_wp Tryz.func198 rfl h5 ?_ hro
  simp only [Tryz.ntmps198, List.size_toArray, List.length_cons, List.length_nil, Nat.reduceAdd, Nat.reduceSub, Array.replicate_succ, Array.replicate_zero, List.push_toArray, List.append_toArray, List.nil_append, List.cons_append]
  gi_wp2
  go_ret
  exact ⟨rfl, rfl⟩
end Go.Proofs.YtndgpinhbffleaaGreat


namespace Go.Proofs.YtndgpinhbffleaaGreat
open Go Go.RowKit Go.Shelf
set_option linter.unusedVariables false
attribute [local go_sem] Oper.semAt_some
theorem alloc5_at (w : World) (o0 o1 o2 o3 o4 : Obj) :
    (((((w.alloc o0).alloc o1).alloc o2).alloc o3).alloc o4).heap[w.heap.size]? = some o0 ∧ (((((w.alloc o0).alloc o1).alloc o2).alloc o3).alloc o4).heap[w.heap.size + 1]? = some o1 ∧
    (((((w.alloc o0).alloc o1).alloc o2).alloc o3).alloc o4).heap[w.heap.size + 2]? = some o2 ∧ (((((w.alloc o0).alloc o1).alloc o2).alloc o3).alloc o4).heap[w.heap.size + 3]? = some o3 ∧
    (((((w.alloc o0).alloc o1).alloc o2).alloc o3).alloc o4).heap[w.heap.size + 4]? = some o4 := by
  have z1 : (w.alloc o0).heap.size = w.heap.size + 1 := World.size_alloc _ _
  have z2 : ((w.alloc o0).alloc o1).heap.size = w.heap.size + 2 := by rw [World.size_alloc, z1]
  have z3 : (((w.alloc o0).alloc o1).alloc o2).heap.size = w.heap.size + 3 := by rw [World.size_alloc, z2]
  have z4 : ((((w.alloc o0).alloc o1).alloc o2).alloc o3).heap.size = w.heap.size + 4 := by rw [World.size_alloc, z3]
  have h0 := World.alloc_heap_new w o0
  have h1 := World.alloc_heap_new (w.alloc o0) o1
  have h2 := World.alloc_heap_new ((w.alloc o0).alloc o1) o2
  have h3 := World.alloc_heap_new (((w.alloc o0).alloc o1).alloc o2) o3
  have h4 := World.alloc_heap_new ((((w.alloc o0).alloc o1).alloc o2).alloc o3) o4
  rw [z1] at h1; rw [z2] at h2; rw [z3] at h3; rw [z4] at h4
  refine ⟨?_, ?_, ?_, ?_, h4⟩
  · rw [Below.heap_alloc _ _ _ (by omega), Below.heap_alloc _ _ _ (by omega), Below.heap_alloc _ _ _ (by omega), Below.heap_alloc _ _ _ (by omega)]; exact h0
  · rw [Below.heap_alloc _ _ _ (by omega), Below.heap_alloc _ _ _ (by omega), Below.heap_alloc _ _ _ (by omega)]; exact h1
  · rw [Below.heap_alloc _ _ _ (by omega), Below.heap_alloc _ _ _ (by omega)]; exact h2
  · rw [Below.heap_alloc _ _ _ (by omega)]; exact h3
set_option maxRecDepth 100000 in
set_option maxHeartbeats 4000000 in
theorem read_in (F : Fence) (n : Nat) (h1 : F.fn 159) (h2 : F.fn 198) (h3 : F.fn 214) (hro : F.round = none) (hn : 4 ≤ n)
    (sb so sl sc : Nat) (pa : Option Addr) (pc : Nat) (h a : Int) (ss : List (List UInt8)) (ps : List Io) (hps : ps.length ≤ 1073741824) (ha : 0 ≤ a ∧ a.toNat < ss.length) (hsl : sl = ss.length) (w : World)
    (hs : ∀ i, i < ss.length → w.cell? ⟨sb, so + i, none⟩ = some (.string (mstr (ss.getD i [])))) (hsb : sb < w.heap.size)
    (hp : ps = [] ∨ ∃ b off, pa = some ⟨b, off, none⟩ ∧ b < w.heap.size ∧ IosAt w b off ps.length (fun i => ps.getD i default)) :
    CallsIn F n Tryz.prog 159 #[.agg #[.slice (some ⟨sb, so, none⟩) sl sc, .slice pa ps.length pc], .int .i64 h, .int .i64 a] w fun e W' => e = .returned (.string (mstr (rdL ss ps h a))) ∧ Below w.heap.size w W' := by
  have h0 : 1 ≤ n := by omega
  subst hsl
  refine callsIn_of_wp_marks Tryz.func159 rfl h1 ?_ hro
  simp only [Tryz.ntmps159, List.size_toArray, List.length_cons, List.length_nil, Nat.reduceAdd, Nat.reduceSub, Array.replicate_succ, Array.replicate_zero, List.push_toArray, List.append_toArray, List.nil_append, List.cons_append]
  gi_wp2_with (gi_at_call 198; refine (back_in F (n - 1) h2 hro _ _ _ _).mono ?_; rintro e w' ⟨rfl, rfl⟩)
  have k5 := alloc5_at w (.cells #[Value.slice (some ⟨sb, so, none⟩) ss.length sc, Value.slice pa ps.length pc] 62) (.cells #[Value.int .i64 h] 3) (.cells #[Value.int .i64 a] 3) (.cells #[Value.string { data := #[] }] 9) (.cells #[Value.slice pa ps.length pc] 60)
  generalize hw5 : World.alloc _ (Obj.cells #[Value.slice pa ps.length pc] 60) = w5 at *
  have z5 : w5.heap.size = w.heap.size + 5 := by rw [← hw5]; simp
  have b5 : Below w.heap.size w w5 := by
    rw [← hw5]
    exact (((((Below.refl _ w).alloc (Nat.le_refl _) _).alloc (by simp) _).alloc (by simp; omega) _).alloc (by simp; omega) _).alloc (by simp; omega) _
  obtain ⟨k0, k1, k2, k3, k4⟩ := k5
  clear hw5
  generalize hN : w.heap.size = N at *
  refine wpIn_rangeFunc ?_
  intro fn hfn
  rw [hro]
  refine ⟨w5.heap.size + 1, _, _, ⟨.fn (.func 214) #[.pointer (some ⟨N + 1 + 1 + 1 + 1, 0, none⟩)], #[.func (.yield (w5.heap.size + 1)) #[] #[]]⟩, ?W', 214, #[.func (.yield (w5.heap.size + 1)) #[] #[], .pointer (some ⟨N + 1 + 1 + 1 + 1, 0, none⟩)], ?W'', run_enterLoop_outer _ _ _ _ _, ?res, ?lead, ?inv, fun _ => h0, ?calls⟩
  case res => simp [resolve, go_sem]; rfl
  case lead => intro f' hf'; simp [Target.leads] at hf'; subst hf'; exact h3
  case inv => simp [invoke, go_sem, enters_of Tryz.func214 (by kernel_rfl) rfl]; rfl
  case calls =>
    generalize hrec : ({ state := LoopState.ready, pending := none, fn := fn, tmps := _, params := _, assign := _, body := _, defers := _ } : Loop) = rec
    rw [z5]
    have hL1 : ((w5.alloc (Obj.deferred (some []))).alloc (Obj.loop rec)).heap[N + 6]? = some (.loop rec) := by
      have := World.alloc_heap_new (w5.alloc (.deferred (some []))) (.loop rec)
      rwa [World.size_alloc, z5] at this
    have hK1 : ((w5.alloc (Obj.deferred (some []))).alloc (Obj.loop rec)).heap[N + 5]? = some (.deferred (some [])) := by
      rw [Below.heap_alloc _ _ _ (by simp [z5]), ← z5]; exact World.alloc_heap_new w5 _
    have hB1 : Below (N + 5) w5 ((w5.alloc (Obj.deferred (some []))).alloc (Obj.loop rec)) := ((Below.refl _ w5).alloc (by omega) _).alloc (by simp [z5]) _
    generalize ((w5.alloc (Obj.deferred (some []))).alloc (Obj.loop rec)) = W1 at *
    have main : CallsIn F (n - 1) Tryz.prog 214 #[.func (.yield (N + 6)) #[] #[], .pointer (some ⟨N + 1 + 1 + 1 + 1, 0, none⟩)] W1 fun e W' => (∃ v, e = .returned v) ∧
        ((Below (N + 5) w5 W' ∧ W'.heap[N + 6]? = some (.loop rec) ∧ W'.heap[N + 5]? = some (.deferred (some [])) ∧ rdN h a ps ps.length = none) ∨
         (Below (N + 3) w5 W' ∧ W'.heap[N + 6]? = some (.loop { rec with state := .done, pending := some .ret }) ∧ W'.heap[N + 5]? = some (.deferred (some [])) ∧ W'.cell? ⟨N + 3, 0, none⟩ = some (.string (mstr (rdL ss ps h a))))) := by
      have c4 : W1.cell? ⟨N + 1 + 1 + 1 + 1, 0, none⟩ = some (.slice pa ps.length pc) := by
        have := hB1.block (N + 4) (by omega)
        rw [k4] at this
        simp [World.cell?, this]
      rcases hp with rfl | ⟨b, off, rfl, hb, hi⟩
      · exact (back1_nil_in F (n - 1) h3 hro (N + 6) _ pa pc W1 c4 (fun W' => Below (N + 5) w5 W' ∧ W'.heap[N + 6]? = some (.loop rec) ∧ W'.heap[N + 5]? = some (.deferred (some []))) ⟨hB1, hL1, hK1⟩).mono fun e W' ⟨hv, q1, q2, q3⟩ => ⟨hv, .inl ⟨q1, q2, q3, rfl⟩⟩
      · have hi5 : IosAt W1 b off ps.length (fun i => ps.getD i default) := IosAt.below (hB1.mono (by omega)) hb (IosAt.below b5 hb hi)
        refine (back1_in F (n - 1) h3 hro (by omega) (N + 6) _ (N + 5) b off ps.length pc (fun i => ps.getD i default) hps (by omega)
          (fun k W => Below (N + 5) w5 W ∧ W.heap[N + 6]? = some (.loop rec) ∧ W.heap[N + 5]? = some (.deferred (some [])) ∧ rdN h a ps ps.length = rdN h a ps (ps.length - k))
          (fun _ W => Below (N + 3) w5 W ∧ W.heap[N + 6]? = some (.loop { rec with state := .done, pending := some .ret }) ∧ W.heap[N + 5]? = some (.deferred (some [])) ∧ W.cell? ⟨N + 3, 0, none⟩ = some (.string (mstr (rdL ss ps h a))))
          ?round W1 c4 (by omega) hi5 ⟨hB1, hL1, hK1, by simp⟩).mono ?done
        case done =>
          rintro e W' ⟨hv, ⟨q1, q2, q3, q4⟩ | ⟨_, _, q⟩⟩
          · exact ⟨hv, .inl ⟨q1, q2, q3, by rw [q4, Nat.sub_self]; rfl⟩⟩
          · exact ⟨hv, .inr q⟩
        case round =>
          rintro k W ⟨q1, q2, q3, q4⟩ hk
          have hy := run_yield (P := Tryz.prog) (args := #[Value.int .i64 ((ps.length - 1 - k : Nat) : Int), mIo (ps.getD (ps.length - 1 - k) default)]) q2 (by rw [← hrec]; rfl)
          have hx : ps[ps.length - 1 - k]? = some (ps.getD (ps.length - 1 - k) default) := by
            rw [List.getElem?_eq_getElem (by omega)]; simp [List.getD, show ps.length - 1 - k < ps.length by omega]
          have hstep : rdN h a ps (ps.length - k) = if (ps.getD (ps.length - 1 - k) default).host = h ∧ (ps.getD (ps.length - 1 - k) default).at_ = a then some (ps.getD (ps.length - 1 - k) default).data else rdN h a ps (ps.length - (k + 1)) := by
            rw [show ps.length - k = (ps.length - 1 - k) + 1 by omega, show ps.length - (k + 1) = ps.length - 1 - k by omega]
            simp only [rdN, hx]
          generalize ps.getD (ps.length - 1 - k) default = x at *
          obtain ⟨xh, xa, xd⟩ := x
          simp only [mIo] at hy ⊢
          have hfn' : rec.fn = fn := by rw [← hrec]
          have q2' := q2
          rw [← hrec] at hy
          refine ⟨_, _, _, _, hy, roundIn_of_wpIn hfn ?_⟩
          gi_wp2
          have hBW : N + 6 < W.heap.size := (Array.getElem?_eq_some_iff.1 q2).1
          have a2 : (W.alloc (.cells #[Value.int .i64 xh, Value.int .i64 xa, Value.string (mstr xd)] 155)).heap[N + 6]? = some (.loop rec) := (Below.heap_alloc _ _ _ hBW).trans q2
          refine ⟨_, run_beginRound a2 (by rw [← hrec]), ?_⟩
          have v0 : ((W.alloc (.cells #[Value.int .i64 xh, Value.int .i64 xa, Value.string (mstr xd)] 155)).putObj (N + 6) (.loop { rec with state := .busy })).heap[W.heap.size]? = some (.cells #[Value.int .i64 xh, Value.int .i64 xa, Value.string (mstr xd)] 155) :=
            (World.putObj_heap_other (by omega)).trans (World.alloc_heap_new W _)
          have v1 : ((W.alloc (.cells #[Value.int .i64 xh, Value.int .i64 xa, Value.string (mstr xd)] 155)).putObj (N + 6) (.loop { rec with state := .busy })).heap[N + 6]? = some (.loop { rec with state := .busy }) :=
            World.putObj_heap_same (by simp; omega)
          have v2 : ((W.alloc (.cells #[Value.int .i64 xh, Value.int .i64 xa, Value.string (mstr xd)] 155)).putObj (N + 6) (.loop { rec with state := .busy })).heap[N + 5]? = some (.deferred (some [])) :=
            (World.putObj_heap_other (by omega)).trans ((Below.heap_alloc _ _ _ (by omega)).trans q3)
          have v3 : Below (N + 5) W ((W.alloc (.cells #[Value.int .i64 xh, Value.int .i64 xa, Value.string (mstr xd)] 155)).putObj (N + 6) (.loop { rec with state := .busy })) :=
            ((Below.refl _ W).alloc (by omega) _).grown (grownBy_putObj' _ _ _) (by simp; omega) (fun k e => by cases e; omega)
          generalize ((W.alloc (.cells #[Value.int .i64 xh, Value.int .i64 xa, Value.string (mstr xd)] 155)).putObj (N + 6) (.loop { rec with state := .busy })) = V at *
          have v4 : Below (N + 5) w5 V := q1.trans v3
          have b1 := (v4.block (N + 1) (by omega)).trans k1
          have b2 := (v4.block (N + 2) (by omega)).trans k2
          have b3 := (v4.block (N + 3) (by omega)).trans k3
          have x0 : V.cell? ⟨W.heap.size, 0, none⟩ = some (.int .i64 xh) := by simp [World.cell?, v0]
          have x1 : V.cell? ⟨W.heap.size, 1, none⟩ = some (.int .i64 xa) := by simp [World.cell?, v0]
          have x2 : V.cell? ⟨W.heap.size, 2, none⟩ = some (.string (mstr xd)) := by simp [World.cell?, v0]
          have y1 : V.cell? ⟨N + 1, 0, none⟩ = some (.int .i64 h) := by simp [World.cell?, b1]
          have y2 : V.cell? ⟨N + 1 + 1, 0, none⟩ = some (.int .i64 a) := by simp [World.cell?, b2]
          have y3 : V.cell? ⟨N + 1 + 1 + 1, 0, none⟩ = some (.string { data := #[] }) := by simp [World.cell?, b3]
          have y4 : V.frozen? ⟨N + 1 + 1 + 1, 0, none⟩ = false := by simp [World.frozen?, b3]
          have hready : ({ rec with state := .ready, pending := none } : Loop) = rec := by rw [← hrec]
          have hVs : N + 6 < V.heap.size := (Array.getElem?_eq_some_iff.1 v1).1
          have go : ¬ (xh = h ∧ xa = a) → ∃ v W', (Instr.endRound (N + 6) none).run Tryz.prog V = .ok v W' ∧ ((.returned v = Ending.returned (.bool true) ∧ (Below (N + 5) w5 W' ∧ W'.heap[N + 6]? = some (.loop rec) ∧ W'.heap[N + 5]? = some (.deferred (some [])) ∧ rdN h a ps ps.length = rdN h a ps (ps.length - (k + 1))) ∧ Below (N + 5) W W') ∨
              (.returned v = Ending.returned (.bool false) ∧ Below (N + 3) w5 W' ∧ W'.heap[N + 6]? = some (.loop { rec with state := .done, pending := some .ret }) ∧ W'.heap[N + 5]? = some (.deferred (some [])) ∧ W'.cell? ⟨N + 3, 0, none⟩ = some (.string (mstr (rdL ss ps h a))))) := by
            intro hne
            refine ⟨_, _, run_endRound none v1, .inl ⟨rfl, ⟨?_, ?_, ?_, ?_⟩, ?_⟩⟩
            · exact v4.grown (grownBy_putObj' _ _ _) (by omega) (fun k e => by cases e; omega)
            · rw [World.putObj_heap_same hVs]; exact congrArg (fun r => some (Obj.loop r)) hready
            · exact (World.putObj_heap_other (by omega)).trans v2
            · rw [q4, hstep, if_neg hne]
            · exact v3.grown (grownBy_putObj' _ _ _) (by omega) (fun k e => by cases e; omega)
          by_cases c1 : xh = h
          · by_cases c2 : xa = a
            · subst c1; subst c2
              have hrd : rdL ss ps xh xa = xd := by
                unfold rdL; rw [q4, hstep, if_pos ⟨rfl, rfl⟩]
              gi_wp2
              have e1 : (V.setCell ⟨N + 1 + 1 + 1, 0, none⟩ (.string (mstr xd))).heap[N + 6]? = some (.loop { rec with state := .busy }) := (Below.heap_setCell _ _ _ _ (by simp)).trans v1
              have e2 : (V.setCell ⟨N + 1 + 1 + 1, 0, none⟩ (.string (mstr xd))).heap[N + 5]? = some (.deferred (some [])) := (Below.heap_setCell _ _ _ _ (by simp)).trans v2
              have e3 : (V.setCell ⟨N + 1 + 1 + 1, 0, none⟩ (.string (mstr xd))).cell? ⟨N + 3, 0, none⟩ = some (.string (mstr xd)) := World.cell?_setCell_same' _ _ _ (by rw [y3]; rfl)
              have e4 : Below (N + 3) w5 (V.setCell ⟨N + 1 + 1 + 1, 0, none⟩ (.string (mstr xd))) := (v4.mono (by omega)).setCell (by simp) _
              have e5 : N + 6 < (V.setCell ⟨N + 1 + 1 + 1, 0, none⟩ (.string (mstr xd))).heap.size := (Array.getElem?_eq_some_iff.1 e1).1
              refine ⟨_, _, run_endRound (some .ret) e1, .inr ⟨rfl, ?_, ?_, ?_, ?_⟩⟩
              · exact e4.grown (grownBy_putObj' _ _ _) (by omega) (fun k e => by cases e; omega)
              · rw [World.putObj_heap_same e5]; simp [hfn']
              · exact (World.putObj_heap_other (by omega)).trans e2
              · exact cell_kept e3 (grownBy_putObj' _ _ _) (fun r e => by cases e; exact ⟨_, e1, rfl⟩)
            · gi_wp2
              exact go (fun q => c2 q.2)
          · gi_wp2
            exact go (fun q => c1 q.1)
    refine main.mono ?_
    rintro e W' ⟨⟨v, rfl⟩, ⟨q1, q2, q3, q4⟩ | ⟨q1, q2, q3, q4⟩⟩
    · have hWs : N + 6 < W'.heap.size := (Array.getElem?_eq_some_iff.1 q2).1
      refine ⟨none, _, by have := run_endLoop (P := Tryz.prog) q2 (by rw [← hrec]; simp); rw [show rec.pending = none by rw [← hrec]] at this; exact this, ?_⟩
      have v3 : (W'.putObj (N + 6) (.loop { rec with state := .exhausted })).heap[N + 5]? = some (.deferred (some [])) := (World.putObj_heap_other (by omega)).trans q3
      have v4 : Below (N + 5) w5 (W'.putObj (N + 6) (.loop { rec with state := .exhausted })) := q1.grown (grownBy_putObj' _ _ _) (by omega) (fun k e => by cases e; omega)
      have hVs : N + 6 < (W'.putObj (N + 6) (.loop { rec with state := .exhausted })).heap.size := by simpa using hWs
      rw [show ({ state := LoopState.exhausted, pending := none, fn := rec.fn, tmps := rec.tmps, params := rec.params, assign := rec.assign, body := rec.body, defers := rec.defers } : Loop) = { rec with state := .exhausted } by rw [show rec.pending = none by rw [← hrec]]]
      generalize (W'.putObj (N + 6) (.loop { rec with state := .exhausted })) = V at *
      have b0 := (v4.block N (by omega)).trans k0
      have b2 := (v4.block (N + 2) (by omega)).trans k2
      have b3 := (v4.block (N + 3) (by omega)).trans k3
      have y0 : V.cell? ⟨N, 0, none⟩ = some (.slice (some ⟨sb, so, none⟩) ss.length sc) := by simp [World.cell?, b0]
      have y2 : V.cell? ⟨N + 1 + 1, 0, none⟩ = some (.int .i64 a) := by simp [World.cell?, b2]
      have y3 : V.cell? ⟨N + 1 + 1 + 1, 0, none⟩ = some (.string { data := #[] }) := by simp [World.cell?, b3]
      have y4 : V.frozen? ⟨N + 1 + 1 + 1, 0, none⟩ = false := by simp [World.frozen?, b3]
      have y5 : V.cell? ⟨sb, so + a.toNat, none⟩ = some (.string (mstr (ss.getD a.toNat []))) := ((v4.mono (show N ≤ N + 5 by omega)).cell (p := ⟨sb, so + a.toNat, none⟩) hsb).trans ((b5.cell (p := ⟨sb, so + a.toNat, none⟩) hsb).trans (hs _ ha.2))
      have hrd : rdL ss ps h a = ss.getD a.toNat [] := by unfold rdL; rw [q4]
      rw [← hrd] at y5
      clear hrd
      generalize htx : rdL ss ps h a = tx at y5
      obtain ⟨m, rfl⟩ : ∃ m : Nat, a = m := ⟨a.toNat, by omega⟩
      simp only [Int.toNat_natCast] at y5 ha
      have ha2 := ha.2
      gi_wp2
      have e2 : (V.setCell ⟨N + 1 + 1 + 1, 0, none⟩ (.string (mstr tx))).heap[N + 5]? = some (.deferred (some [])) := (Below.heap_setCell _ _ _ _ (by simp)).trans v3
      have e3 : (V.setCell ⟨N + 1 + 1 + 1, 0, none⟩ (.string (mstr tx))).cell? ⟨N + 1 + 1 + 1, 0, none⟩ = some (.string (mstr tx)) := World.cell?_setCell_same' _ _ _ (by rw [y3]; rfl)
      have e4 : Below (N + 3) w5 (V.setCell ⟨N + 1 + 1 + 1, 0, none⟩ (.string (mstr tx))) := (v4.mono (by omega)).setCell (by simp) _
      have e6 := cell_kept e3 (grownBy_putObj' _ (N + 5) (.deferred none)) (fun r e => by cases e; exact ⟨_, e2, rfl⟩)
      have e5 : N + 5 < (V.setCell ⟨N + 1 + 1 + 1, 0, none⟩ (.string (mstr tx))).heap.size := (Array.getElem?_eq_some_iff.1 e2).1
      refine ⟨by simp, .inl ⟨_, _, rfl, run_takeDeferred e2, ?_⟩⟩
      refine ⟨.string (mstr tx), ?_, by rw [htx], ?_⟩
      · simp [results, Tryz.f159, go_sem, e6]
      · rw [hN]; exact b5.trans ((e4.mono (by omega)).grown (grownBy_putObj' _ _ _) (by omega) (fun k e => by cases e; omega))
    · have hWs : N + 6 < W'.heap.size := (Array.getElem?_eq_some_iff.1 q2).1
      refine ⟨some .ret, _, by have := run_endLoop (P := Tryz.prog) q2 (by simp); exact this, ?_⟩
      gi_wp2
      have e2 : (W'.putObj (N + 6) (.loop { rec with state := .exhausted, pending := some .ret })).heap[N + 5]? = some (.deferred (some [])) := (World.putObj_heap_other (by omega)).trans q3
      have e3 : (W'.putObj (N + 6) (.loop { rec with state := .exhausted, pending := some .ret })).cell? ⟨N + 1 + 1 + 1, 0, none⟩ = some (.string (mstr (rdL ss ps h a))) := cell_kept q4 (grownBy_putObj' _ _ _) (fun r e => by cases e; exact ⟨_, q2, rfl⟩)
      have e4 : Below (N + 3) w5 (W'.putObj (N + 6) (.loop { rec with state := .exhausted, pending := some .ret })) := q1.grown (grownBy_putObj' _ _ _) (by omega) (fun k e => by cases e; omega)
      have e6 := cell_kept e3 (grownBy_putObj' _ (N + 5) (.deferred none)) (fun r e => by cases e; exact ⟨_, e2, rfl⟩)
      have e5 : N + 5 < (W'.putObj (N + 6) (.loop { rec with state := .exhausted, pending := some .ret })).heap.size := (Array.getElem?_eq_some_iff.1 e2).1
      refine ⟨by simp, .inl ⟨_, _, rfl, run_takeDeferred e2, ?_⟩⟩
      refine ⟨.string (mstr (rdL ss ps h a)), ?_, rfl, ?_⟩
      · simp [results, Tryz.f159, go_sem, e6]
      · rw [hN]; exact b5.trans ((e4.mono (by omega)).grown (grownBy_putObj' _ _ _) (by omega) (fun k e => by cases e; omega))
end Go.Proofs.YtndgpinhbffleaaGreat


namespace Go.Proofs.YtndgpinhbffleaaGreat
open Go Go.RowKit
set_option linter.unusedVariables false
theorem mstr_of {s : ByteArray} {l : List UInt8} (h : s.data.toList = l) : s = mstr l := by
  subst h; cases s; simp [mstr]
theorem agg2 {w : World} {O : Nat → Prop} {ι : Map} {a b : AV} {x : Value} (h : Rep w O ι (.agg [a, b]) x) : ∃ y z, x = .agg #[y, z] ∧ Rep w O ι a y ∧ Rep w O ι b z := by
  cases h with
  | @agg _ _ vs hl hh =>
    simp at hl
    have h0 := hh 0 (by simp)
    have h1 := hh 1 (by simp)
    refine ⟨vs.getD 0 undef, vs.getD 1 undef, ?_, by simpa using h0, by simpa using h1⟩
    congr 1
    apply Array.ext
    · simp; omega
    · intro i h1 h2
      have : i = 0 ∨ i = 1 := by simp at h2; omega
      rcases this with rfl | rfl <;> simp [Array.getD, hl.symm]
theorem read_sound {ss : List (List UInt8)} {ps : List Io} {h a : Int} {args : List AV} (hr : ReadsAs ss ps h a args) : Sound Tryz.prog 159 args [] { val := .str (rdL ss ps h a) } := by
  obtain ⟨rfl, ha1, ha2, hps⟩ := hr
  refine ⟨⟨_, Tryz.func159, by decide, rfl⟩, fun w ι vals hl I hr _ _ _ _ => ?_⟩
  have h0 := hr 0 (by simp)
  have h1 := hr 1 (by simp)
  have h2 := hr 2 (by simp)
  have hv : vals = #[vals.getD 0 undef, vals.getD 1 undef, vals.getD 2 undef] := by
    simp at hl
    apply Array.ext
    · simp; omega
    · intro i h1 h2
      have : i = 0 ∨ i = 1 ∨ i = 2 := by simp at h2; omega
      rcases this with rfl | rfl | rfl <;> simp [Array.getD, hl.symm]
  rw [hv]
  generalize vals.getD 0 undef = x0 at *
  generalize vals.getD 1 undef = x1 at *
  generalize vals.getD 2 undef = x2 at *
  simp only [List.getD_cons_zero, List.getD_cons_succ] at h0 h1 h2
  obtain ⟨s, p, rfl, hs, hp⟩ := agg2 h0
  cases h1; cases h2
  have hne : ss ≠ [] := by rintro rfl; simp at ha2
  obtain ⟨sb, so, sc, rfl, hsb, hcs⟩ : ∃ sb so sc, s = .slice (some ⟨sb, so, none⟩) ss.length sc ∧ sb < w.heap.size ∧ ∀ i, i < ss.length → w.cell? ⟨sb, so + i, none⟩ = some (.string (mstr (ss.getD i []))) := by
    generalize he : ss.map AV.str = es at hs
    cases hs with
    | slE => exact absurd (by simpa using he) hne
    | @sl _ _ _ b off cap len cell hn hlen hcap hO hb hm hc hcell h1 hh =>
      subst he
      refine ⟨b, off, cap, by rw [hlen, List.length_map], hb, fun i hi => ?_⟩
      have q := hh i 0 (by simpa using hi) (by omega)
      have q2 := hcell i 0 (by simpa using hi) (by omega)
      have e : (ss.map AV.str).getD i .dead = .str (ss.getD i []) := by simp [List.getD, hi]
      rw [e] at q
      simp only [cellsOf, List.getD_cons_zero] at q
      generalize hc0 : cell i 0 = c at q q2
      cases q with
      | str hx => rw [← mstr_of hx, ← q2]; simp
  obtain ⟨pa, pc, rfl, hcp⟩ : ∃ pa pc, p = .slice pa ps.length pc ∧ (ps = [] ∨ ∃ b off, pa = some ⟨b, off, none⟩ ∧ b < w.heap.size ∧ IosAt w b off ps.length (fun i => ps.getD i default)) := by
    generalize he : ps.map eIo = es at hp
    cases hp with
    | slE m a cap =>
      have : ps = [] := by simpa using he
      subst this
      exact ⟨a, cap, rfl, .inl rfl⟩
    | @sl _ _ _ b off cap len cell hn hlen hcap hO hb hm hc hcell h1 hh =>
      subst he
      refine ⟨some ⟨b, off, none⟩, cap, by rw [hlen, List.length_map], .inr ⟨b, off, rfl, hb, fun i hi => ?_⟩⟩
      have e : (ps.map eIo).getD i .dead = eIo (ps.getD i default) := by simp [List.getD, hi]
      have q0 := hh i 0 (by simpa using hi) (by omega)
      have q1 := hh i 1 (by simpa using hi) (by omega)
      have q2 := hh i 2 (by simpa using hi) (by omega)
      have c0 := hcell i 0 (by simpa using hi) (by omega)
      have c1 := hcell i 1 (by simpa using hi) (by omega)
      have c2 := hcell i 2 (by simpa using hi) (by omega)
      rw [e] at q0 q1 q2
      simp only [eIo, cellsOf, List.getD_cons_zero, List.getD_cons_succ] at q0 q1 q2
      generalize cell i 0 = y0 at q0 c0
      generalize cell i 1 = y1 at q1 c1
      generalize cell i 2 = y2 at q2 c2
      cases q0; cases q1
      cases q2 with
      | str hx => exact ⟨by simpa using c0, c1, by rw [c2, mstr_of hx]⟩
  refine (callsIn_wide.1 (read_in Fence.wide 4 trivial trivial trivial rfl (by omega) sb so ss.length sc pa pc h a ss ps hps ⟨ha1, ha2⟩ rfl w hcs hsb hcp)).mono fun e w' ⟨he, hB⟩ => ?_
  refine ⟨_, noMap, he, ⟨⟨hB.os, hB.tape, hB.output, hB.size, fun k hk _ => hB.block k hk, fun k hk => ?_⟩, rfl, fun k hk => by simp at hk, fun k hk => by simp at hk, (fun _ _ _ h => (noFoot h).elim), (by intro _ _ _ h; cases h), (fun _ _ h => (noFoot h).elim), .str (by simp [mstr])⟩⟩
  unfold World.shape?
  rw [hB.block k hk]
end Go.Proofs.YtndgpinhbffleaaGreat


namespace Go.Proofs.YtndgpinhbffleaaGreat
open Go Go.RowKit Go.Shelf
set_option linter.unusedVariables false
attribute [local go_sem] Oper.semAt_some
/-- The numbers lie in a row. -/
def IntsAt (W : World) (b off len : Nat) (zs : Nat → Int) : Prop := ∀ i, i < len → W.cell? ⟨b, off + i, none⟩ = some (.int .i64 (zs i))
theorem IntsAt.below {n₀ : Nat} {A B : World} {b off len : Nat} {zs : Nat → Int} (h : Below n₀ A B) (hb : b < n₀) (hi : IntsAt A b off len zs) : IntsAt B b off len zs := fun i hl => (h.cell (p := ⟨b, off + i, none⟩) hb).trans (hi i hl)
set_option maxRecDepth 100000 in
set_option maxHeartbeats 2000000 in
theorem back1I_in (F : Fence) (n : Nat) (h7 : F.fn 208) (hro : F.round = none) (hn : 1 ≤ n) (l Bs b off len cap : Nat) (zs : Nat → Int) (hreach : len ≤ 1073741824) (J Jx : Nat → World → Prop)
    (hY : ∀ k W, J k W → k < len → YieldAt F (n - 1) Tryz.prog l #[.int .i64 ((len - 1 - k : Nat) : Int), (.int .i64 (zs (len - 1 - k)) : Value)] W fun e W' =>
      (e = .returned (.bool true) ∧ J (k + 1) W') ∨ (e = .returned (.bool false) ∧ Jx (k + 1) W'))
    (hJ : ∀ k W, J k W → W.cell? ⟨Bs, 0, none⟩ = some (.slice (some ⟨b, off, none⟩) len cap) ∧ IntsAt W b off len zs) (W : World) (h0 : J 0 W) :
    CallsIn F n Tryz.prog 208 #[.func (.yield l) #[] #[], .pointer (some ⟨Bs, 0, none⟩)] W fun e W' => (∃ v, e = .returned v) ∧ (J len W' ∨ ∃ k, k ≤ len ∧ Jx k W') := by
  refine callsIn_of_wp Tryz.func208 rfl h7 ?_ hro
  simp only [Tryz.ntmps208, List.size_toArray, List.length_cons, List.length_nil, Nat.reduceAdd, Nat.reduceSub, Array.replicate_succ, Array.replicate_zero, List.push_toArray, List.append_toArray, List.nil_append, List.cons_append]
  obtain ⟨hBs, hc0⟩ := hJ 0 W h0
  gi_wp2
  gi_loopw [3] (fun i wr => ∃ k : Nat, k ≤ len ∧ i = .int .i64 ((len : Int) - 1 - k) ∧ J k wr)
    (fun i _ => (intOf i + 1).toNat)
  case atStart => exact ⟨0, Nat.zero_le _, by simp, h0⟩
  case round =>
    obtain ⟨k, hk, rfl, hJs⟩ := hrel
    obtain ⟨hBs', hc⟩ := hJ k wr hJs
    by_cases hlt : k < len
    · obtain ⟨fn, tmps, assign, body, hy, hR⟩ := hY k wr hJs hlt
      have c0 := hc (len - 1 - k) (by omega)
      obtain ⟨m, hm⟩ : ∃ m : Nat, m = len - 1 - k := ⟨_, rfl⟩
      have e : (len : Int) - 1 - k = (m : Int) := by omega
      rw [← hm] at c0 hy
      rw [e]
      have hml : m < len := by omega
      have hmk : m + k + 1 = len := by omega
      clear hm e
      gi_wp2
      refine hR.mono ?_
      rintro e W3 (⟨rfl, hJ3⟩ | ⟨rfl, hJx3⟩)
      · gi_wp2
        go_roundw
        case rel => exact ⟨k + 1, by omega, by simp; omega, hJ3⟩
        case measure => simp [intOf]
      · gi_wp2
        refine bodyPost_ret (results_none rfl _ _ _) rfl ?_
        exact ⟨⟨_, rfl⟩, .inr ⟨k + 1, by omega, hJx3⟩⟩
    · obtain rfl : k = len := by omega
      gi_wp2
      go_end0
      exact ⟨⟨_, rfl⟩, .inl hJs⟩
set_option maxHeartbeats 1000000 in
theorem backI_in (F : Fence) (n : Nat) (h5 : F.fn 188) (hro : F.round = none) (a : Option Addr) (len cap : Nat) (w : World) :
    CallsIn F n Tryz.prog 188 #[.slice a len cap] w fun e w' => e = .returned (.func (.func 208) #[] #[.pointer (some ⟨w.heap.size, 0, none⟩)]) ∧ w' = w.alloc (.cells #[.slice a len cap] 23) := by
  refine callsIn_of_wp Tryz.func188 rfl h5 ?_ hro
  simp only [Tryz.ntmps188, List.size_toArray, List.length_cons, List.length_nil, Nat.reduceAdd, Nat.reduceSub, Array.replicate_succ, Array.replicate_zero, List.push_toArray, List.append_toArray, List.nil_append, List.cons_append]
  gi_wp2
  go_ret
  exact ⟨rfl, rfl⟩
end Go.Proofs.YtndgpinhbffleaaGreat

