/- A reading of the loaded code over plain data, its soundness, and what functions answer by it (part 10; joined by program). No condition. -/
import Derived.Test.YtndgpinhbffleaaGreatKRd9
import Derived.Laws.MakeOwn
set_option linter.all false
namespace Go.Proofs.YtndgpinhbffleaaGreat
open Go Go.RowKit Go.Shelf
set_option linter.unusedVariables false
attribute [local go_sem] Oper.semAt_some
set_option maxRecDepth 100000 in
set_option maxHeartbeats 4000000 in
theorem refs_in (F : Fence) (n : Nat) (h1 : F.fn 148) (h2 : F.fn 188) (h3 : F.fn 208) (h4 : F.fn 147) (hro : F.round = none) (hn : 4 ≤ n)
    (b off cap : Nat) (l : Nat → Int) (w : World) (hb : b < w.heap.size) (hl : IntsAt w b off 24 l) (t : ByteArray)
    (hS : ∀ (W : World) (s : Nat), s < W.heap.size → (∀ i, i < 4 → W.cell? ⟨s, i, none⟩ = some (.int .i64 (stR l 24 i))) → CallsIn F (n - 1) Tryz.prog 147 #[.int .i64 2, .slice (some ⟨s, 0, none⟩) 4 4] W fun e W' => e = .returned (.string t) ∧ Below W.heap.size W W') :
    CallsIn F n Tryz.prog 148 #[.slice (some ⟨b, off, none⟩) 24 cap] w fun e W' => e = .returned (.string t) ∧ Below w.heap.size w W' := by
  have h0 : 1 ≤ n := by omega
  have hms : ∀ w : World, (Instr.makeSlice 23 (.int .i64 4) (.int .i64 4)).run Tryz.prog w = .ok (.slice (some ⟨w.heap.size, 0, none⟩) 4 4) (w.alloc (.cells #[.int .i64 0, .int .i64 0, .int .i64 0, .int .i64 0] 3)) := by
    intro w
    have hu : Tryz.prog.underlying 23 = some (.slice 3) := by kernel_rfl
    obtain ⟨inf, h1, h2, h3, h4⟩ : ∃ inf, Tryz.prog.info? 3 = some inf ∧ inf.zero = some (.int .i64 0) ∧ inf.size = 1 ∧ inf.bytes = 8 := ⟨_, rfl, by kernel_rfl, by kernel_rfl, by kernel_rfl⟩
    have := run_make (P := Tryz.prog) w 23 3 inf (.int .i64 0) hu h1 h2 .i64 .i64 4 4 (by omega) (by omega) (by rw [h4]; omega) (by omega)
    rw [h3] at this
    rw [this]
    have hmc : madeCells (Value.int IntKind.i64 0).cells (Int.toNat 4 * 1) = #[.int .i64 0, .int .i64 0, .int .i64 0, .int .i64 0] := by
      unfold madeCells
      rw [show Int.toNat 4 * 1 = 4 from rfl, show Array.range 4 = #[0, 1, 2, 3] by decide]
      simp [Value.cells]
    rw [hmc]
    rfl
  refine callsIn_of_wp_marks Tryz.func148 rfl h1 ?_ hro
  simp only [Tryz.ntmps148, List.size_toArray, List.length_cons, List.length_nil, Nat.reduceAdd, Nat.reduceSub, Array.replicate_succ, Array.replicate_zero, List.push_toArray, List.append_toArray, List.nil_append, List.cons_append]
  gi_wp2_with (gi_at_call 188; refine (backI_in F (n - 1) h2 hro _ _ _ _).mono ?_; rintro e w' ⟨rfl, rfl⟩)
  have k0 : (((w.alloc (.cells #[.int .i64 0, .int .i64 0, .int .i64 0, .int .i64 0] 3)).alloc (.cells #[.slice (some ⟨w.heap.size, 0, none⟩) 4 4] 23)).alloc (.cells #[.slice (some ⟨b, off, none⟩) 24 cap] 23)).heap[w.heap.size]? = some (.cells #[.int .i64 0, .int .i64 0, .int .i64 0, .int .i64 0] 3) := by
    rw [Below.heap_alloc _ _ _ (by simp; omega), Below.heap_alloc _ _ _ (by simp)]; exact World.alloc_heap_new w _
  have k1 : (((w.alloc (.cells #[.int .i64 0, .int .i64 0, .int .i64 0, .int .i64 0] 3)).alloc (.cells #[.slice (some ⟨w.heap.size, 0, none⟩) 4 4] 23)).alloc (.cells #[.slice (some ⟨b, off, none⟩) 24 cap] 23)).heap[w.heap.size + 1]? = some (.cells #[.slice (some ⟨w.heap.size, 0, none⟩) 4 4] 23) := by
    rw [Below.heap_alloc _ _ _ (by simp)]
    have := World.alloc_heap_new (w.alloc (.cells #[.int .i64 0, .int .i64 0, .int .i64 0, .int .i64 0] 3)) (.cells #[.slice (some ⟨w.heap.size, 0, none⟩) 4 4] 23)
    rwa [World.size_alloc] at this
  have k2 : (((w.alloc (.cells #[.int .i64 0, .int .i64 0, .int .i64 0, .int .i64 0] 3)).alloc (.cells #[.slice (some ⟨w.heap.size, 0, none⟩) 4 4] 23)).alloc (.cells #[.slice (some ⟨b, off, none⟩) 24 cap] 23)).heap[w.heap.size + 2]? = some (.cells #[.slice (some ⟨b, off, none⟩) 24 cap] 23) := by
    have := World.alloc_heap_new ((w.alloc (.cells #[.int .i64 0, .int .i64 0, .int .i64 0, .int .i64 0] 3)).alloc (.cells #[.slice (some ⟨w.heap.size, 0, none⟩) 4 4] 23)) (.cells #[.slice (some ⟨b, off, none⟩) 24 cap] 23)
    rwa [World.size_alloc, World.size_alloc] at this
  have b3 : Below w.heap.size w (((w.alloc (.cells #[.int .i64 0, .int .i64 0, .int .i64 0, .int .i64 0] 3)).alloc (.cells #[.slice (some ⟨w.heap.size, 0, none⟩) 4 4] 23)).alloc (.cells #[.slice (some ⟨b, off, none⟩) 24 cap] 23)) :=
    (((Below.refl _ w).alloc (Nat.le_refl _) _).alloc (by simp) _).alloc (by simp; omega) _
  have z3 : (((w.alloc (.cells #[.int .i64 0, .int .i64 0, .int .i64 0, .int .i64 0] 3)).alloc (.cells #[.slice (some ⟨w.heap.size, 0, none⟩) 4 4] 23)).alloc (.cells #[.slice (some ⟨b, off, none⟩) 24 cap] 23)).heap.size = w.heap.size + 3 := by simp
  generalize (((w.alloc (.cells #[.int .i64 0, .int .i64 0, .int .i64 0, .int .i64 0] 3)).alloc (.cells #[.slice (some ⟨w.heap.size, 0, none⟩) 4 4] 23)).alloc (.cells #[.slice (some ⟨b, off, none⟩) 24 cap] 23)) = w3 at *
  have hl3 : IntsAt w3 b off 24 l := IntsAt.below b3 hb hl
  generalize hN : w.heap.size = N at *
  refine wpIn_rangeFunc ?_
  intro fn hfn
  rw [hro]
  refine ⟨w3.heap.size + 1, _, _, ⟨.fn (.func 208) #[.pointer (some ⟨N + 1 + 1, 0, none⟩)], #[.func (.yield (w3.heap.size + 1)) #[] #[]]⟩, ?W', 208, #[.func (.yield (w3.heap.size + 1)) #[] #[], .pointer (some ⟨N + 1 + 1, 0, none⟩)], ?W'', run_enterLoop_outer _ _ _ _ _, ?res, ?lead, ?inv, fun _ => h0, ?calls⟩
  case res => simp [resolve, go_sem]; rfl
  case lead => intro f' hf'; simp [Target.leads] at hf'; subst hf'; exact h3
  case inv => simp [invoke, go_sem, enters_of Tryz.func208 (by kernel_rfl) rfl]; rfl
  case calls =>
    generalize hrec : ({ state := LoopState.ready, pending := none, fn := fn, tmps := _, params := _, assign := _, body := _, defers := _ } : Loop) = rec
    rw [z3]
    have hL1 : ((w3.alloc (Obj.deferred (some []))).alloc (Obj.loop rec)).heap[N + 4]? = some (.loop rec) := by
      have := World.alloc_heap_new (w3.alloc (.deferred (some []))) (.loop rec)
      rwa [World.size_alloc, z3] at this
    have hK1 : ((w3.alloc (Obj.deferred (some []))).alloc (Obj.loop rec)).heap[N + 3]? = some (.deferred (some [])) := by
      rw [Below.heap_alloc _ _ _ (by simp [z3]), ← z3]; exact World.alloc_heap_new w3 _
    have hB1 : Below (N + 3) w3 ((w3.alloc (Obj.deferred (some []))).alloc (Obj.loop rec)) := ((Below.refl _ w3).alloc (by omega) _).alloc (by simp [z3]) _
    generalize ((w3.alloc (Obj.deferred (some []))).alloc (Obj.loop rec)) = W1 at *
    have main : CallsIn F (n - 1) Tryz.prog 208 #[.func (.yield (N + 4)) #[] #[], .pointer (some ⟨N + 1 + 1, 0, none⟩)] W1 fun e W' => (∃ v, e = .returned v) ∧
        (Below N w3 W' ∧ W'.heap[N + 1]? = some (.cells #[.slice (some ⟨N, 0, none⟩) 4 4] 23) ∧ W'.heap[N + 4]? = some (.loop rec) ∧ W'.heap[N + 3]? = some (.deferred (some [])) ∧ W'.heap[N]? = some (.cells #[.int .i64 (stR l 24 0), .int .i64 (stR l 24 1), .int .i64 (stR l 24 2), .int .i64 (stR l 24 3)] 3)) := by
      refine (back1I_in F (n - 1) h3 hro (by omega) (N + 4) (N + 1 + 1) b off 24 cap l (by omega)
          (fun k W => Below N w3 W ∧ W.heap[N + 1]? = some (.cells #[.slice (some ⟨N, 0, none⟩) 4 4] 23) ∧ W.heap[N + 2]? = some (.cells #[.slice (some ⟨b, off, none⟩) 24 cap] 23) ∧ W.heap[N + 4]? = some (.loop rec) ∧ W.heap[N + 3]? = some (.deferred (some [])) ∧ W.heap[N]? = some (.cells #[.int .i64 (stR l k 0), .int .i64 (stR l k 1), .int .i64 (stR l k 2), .int .i64 (stR l k 3)] 3))
          (fun _ _ => False) ?round ?kept W1 ⟨hB1.mono (by omega), (hB1.block _ (by omega)).trans k1, (hB1.block _ (by omega)).trans k2, hL1, hK1, (hB1.block _ (by omega)).trans k0⟩).mono ?done
      case done =>
        rintro e W' ⟨hv, ⟨q1, q2, q3, q4, q5, q6⟩ | ⟨_, _, q⟩⟩
        · exact ⟨hv, q1, q2, q4, q5, q6⟩
        · exact q.elim
      case kept =>
        rintro k W ⟨q1, q2, q3, q4, q5, q6⟩
        refine ⟨by simp [World.cell?, q3], IntsAt.below q1 hb hl3⟩
      case round =>
        rintro k W ⟨q1, qv, qb, q2, q3, q0⟩ hk
        have hy := run_yield (P := Tryz.prog) (args := #[Value.int .i64 ((24 - 1 - k : Nat) : Int), Value.int .i64 (l (24 - 1 - k))]) q2 (by rw [← hrec]; rfl)
        have hfn' : rec.fn = fn := by rw [← hrec]
        have q2' := q2
        rw [← hrec] at hy
        refine ⟨_, _, _, _, hy, roundIn_of_wpIn hfn ?_⟩
        gi_wp2
        have hBW : N + 4 < W.heap.size := (Array.getElem?_eq_some_iff.1 q2).1
        refine ⟨_, run_beginRound q2 (by rw [← hrec]), ?_⟩
        have v0 : (W.putObj (N + 4) (.loop { rec with state := .busy })).heap[N]? = some (.cells #[.int .i64 (stR l k 0), .int .i64 (stR l k 1), .int .i64 (stR l k 2), .int .i64 (stR l k 3)] 3) :=
          (World.putObj_heap_other (by omega)).trans q0
        have v1 : (W.putObj (N + 4) (.loop { rec with state := .busy })).heap[N + 1]? = some (.cells #[.slice (some ⟨N, 0, none⟩) 4 4] 23) :=
          (World.putObj_heap_other (by omega)).trans qv
        have v2 : (W.putObj (N + 4) (.loop { rec with state := .busy })).heap[N + 2]? = some (.cells #[.slice (some ⟨b, off, none⟩) 24 cap] 23) :=
          (World.putObj_heap_other (by omega)).trans qb
        have v3 : (W.putObj (N + 4) (.loop { rec with state := .busy })).heap[N + 3]? = some (.deferred (some [])) :=
          (World.putObj_heap_other (by omega)).trans q3
        have v4 : (W.putObj (N + 4) (.loop { rec with state := .busy })).heap[N + 4]? = some (.loop { rec with state := .busy }) :=
          World.putObj_heap_same hBW
        have v5 : Below N w3 (W.putObj (N + 4) (.loop { rec with state := .busy })) :=
          q1.grown (grownBy_putObj' _ _ _) (by omega) (fun k e => by cases e; omega)
        generalize (W.putObj (N + 4) (.loop { rec with state := .busy })) = V at *
        have y1 : V.cell? ⟨N + 1, 0, none⟩ = some (.slice (some ⟨N, 0, none⟩) 4 4) := by simp [World.cell?, v1]
        have y4 : V.frozen? ⟨N, 0, none⟩ = false := by simp [World.frozen?, v0]
        have hready : ({ rec with state := .ready, pending := none } : Loop) = rec := by rw [← hrec]
        have hVs : N + 4 < V.heap.size := (Array.getElem?_eq_some_iff.1 v4).1
        obtain ⟨m, hm⟩ : ∃ m : Nat, m = 23 - k := ⟨_, rfl⟩
        rw [← hm]
        have hm24 : m < 24 := by omega
        have hj : ∀ j : Nat, stR l (k + 1) j = if j = m / 6 then IntKind.i64.wrap (IntKind.i64.wrap (16 * stR l k j) + l m) else stR l k j := by intro j; rw [hm]; rfl
        obtain ⟨q, hq⟩ : ∃ q : Nat, q = m / 6 := ⟨_, rfl⟩
        simp only [hj, ← hq]
        have hq4 : q < 4 := by omega
        have hq5 : (q : Int) < 4 := by omega
        have e2 : ((m : Int).tdiv 6) = (q : Int) := by rw [Int.tdiv_eq_ediv_of_nonneg (by omega)]; omega
        have e3 : IntKind.i64.wrap ((m : Int) / 6) = (q : Int) := by rw [show (m : Int) / 6 = (q : Int) by omega]; exact wrap_small _ (by omega) (by omega)
        have e3' : IntKind.i64.wrap (q : Int) = (q : Int) := wrap_small _ (by omega) (by omega)
        clear hj hm hq
        have yj : V.cell? ⟨N, q, none⟩ = some (.int .i64 (stR l k q)) := by
          have : q = 0 ∨ q = 1 ∨ q = 2 ∨ q = 3 := by omega
          rcases this with h | h | h | h <;> simp [World.cell?, v0, h]
        obtain ⟨V2, hV2⟩ : ∃ V2 : World, V2 = { V with drawn := V.drawn + 1 } := ⟨_, rfl⟩
        have u0 : V2.heap[N]? = some (.cells #[.int .i64 (stR l k 0), .int .i64 (stR l k 1), .int .i64 (stR l k 2), .int .i64 (stR l k 3)] 3) := by rw [hV2]; exact v0
        have u1 : V2.heap[N + 1]? = some (.cells #[.slice (some ⟨N, 0, none⟩) 4 4] 23) := by rw [hV2]; exact v1
        have u2 : V2.heap[N + 2]? = some (.cells #[.slice (some ⟨b, off, none⟩) 24 cap] 23) := by rw [hV2]; exact v2
        have u3 : V2.heap[N + 3]? = some (.deferred (some [])) := by rw [hV2]; exact v3
        have u4 : V2.heap[N + 4]? = some (.loop { rec with state := .busy }) := by rw [hV2]; exact v4
        have u5 : Below N w3 V2 := by rw [hV2]; exact ⟨v5.os, v5.tape, v5.output, v5.size, v5.block⟩
        have x1 : V2.cell? ⟨N + 1, 0, none⟩ = some (.slice (some ⟨N, 0, none⟩) 4 4) := by rw [hV2]; exact y1
        have x4 : V2.frozen? ⟨N, q, none⟩ = false := by rw [hV2]; simp [World.frozen?, v0]
        have xj : V2.cell? ⟨N, q, none⟩ = some (.int .i64 (stR l k q)) := by rw [hV2]; exact yj
        gi_wp2
        refine wpIn_region_tail 11 (by kernel_rfl) (by kernel_rfl) (by kernel_rfl) ?_
        clear v0 v1 v2 v3 v4 v5 y1 y4 yj hVs
        rw [← hV2]
        clear hV2
        clear V
        have hVs : N + 4 < V2.heap.size := (Array.getElem?_eq_some_iff.1 u4).1
        simp only [List.take_succ_cons, List.take_zero, List.drop_succ_cons, List.drop_zero]
        repeat still_step
        refine wpStill_nil ?_
        go_wp2
        simp only [← IntWalk.i64_left]
        have c0 : (V2.setCell ⟨N, q, none⟩ (.int .i64 (IntKind.i64.wrap (IntKind.i64.wrap (16 * stR l k q) + l m)))).heap[N]? = some (.cells #[.int .i64 (if 0 = q then IntKind.i64.wrap (IntKind.i64.wrap (16 * stR l k 0) + l m) else stR l k 0), .int .i64 (if 1 = q then IntKind.i64.wrap (IntKind.i64.wrap (16 * stR l k 1) + l m) else stR l k 1), .int .i64 (if 2 = q then IntKind.i64.wrap (IntKind.i64.wrap (16 * stR l k 2) + l m) else stR l k 2), .int .i64 (if 3 = q then IntKind.i64.wrap (IntKind.i64.wrap (16 * stR l k 3) + l m) else stR l k 3)] 3) := by
          obtain ⟨hlt, hk0⟩ := Array.getElem?_eq_some_iff.1 u0
          show (V2.heap.modify N _)[N]? = _
          rw [Array.getElem?_eq_getElem (by rw [Array.size_modify]; exact hlt), Array.getElem_modify_self, hk0]
          have : q = 0 ∨ q = 1 ∨ q = 2 ∨ q = 3 := by omega
          rcases this with h | h | h | h <;> subst h <;> rfl
        have c1 := (Below.heap_setCell V2 ⟨N, q, none⟩ (.int .i64 (IntKind.i64.wrap (IntKind.i64.wrap (16 * stR l k q) + l m))) (N + 1) (by simp)).trans u1
        have c2 := (Below.heap_setCell V2 ⟨N, q, none⟩ (.int .i64 (IntKind.i64.wrap (IntKind.i64.wrap (16 * stR l k q) + l m))) (N + 2) (by simp)).trans u2
        have c3 := (Below.heap_setCell V2 ⟨N, q, none⟩ (.int .i64 (IntKind.i64.wrap (IntKind.i64.wrap (16 * stR l k q) + l m))) (N + 3) (by simp)).trans u3
        have c4 := (Below.heap_setCell V2 ⟨N, q, none⟩ (.int .i64 (IntKind.i64.wrap (IntKind.i64.wrap (16 * stR l k q) + l m))) (N + 4) (by simp)).trans u4
        have c5 : Below N w3 (V2.setCell ⟨N, q, none⟩ (.int .i64 (IntKind.i64.wrap (IntKind.i64.wrap (16 * stR l k q) + l m)))) := u5.setCell (by simp) _
        generalize (V2.setCell ⟨N, q, none⟩ (.int .i64 (IntKind.i64.wrap (IntKind.i64.wrap (16 * stR l k q) + l m)))) = V3 at *
        have hV3 : N + 4 < V3.heap.size := (Array.getElem?_eq_some_iff.1 c4).1
        refine ⟨by simp, ?_⟩
        refine ⟨_, _, run_endRound none c4, .inl ⟨rfl, ?_, ?_, ?_, ?_, ?_, ?_⟩⟩
        · exact c5.grown (grownBy_putObj' _ _ _) (by omega) (fun k e => by cases e; omega)
        · exact (World.putObj_heap_other (by omega)).trans c1
        · exact (World.putObj_heap_other (by omega)).trans c2
        · rw [World.putObj_heap_same hV3]; exact congrArg (fun r => some (Obj.loop r)) hready
        · exact (World.putObj_heap_other (by omega)).trans c3
        · exact (World.putObj_heap_other (by omega)).trans c0
    refine main.mono ?_
    rintro e W' ⟨⟨v, rfl⟩, q1, qv, q2, q3, q0⟩
    have hWs : N + 4 < W'.heap.size := (Array.getElem?_eq_some_iff.1 q2).1
    refine ⟨none, _, by have := run_endLoop (P := Tryz.prog) q2 (by rw [← hrec]; simp); rw [show rec.pending = none by rw [← hrec]] at this; exact this, ?_⟩
    have v3 : (W'.putObj (N + 4) (.loop { rec with state := .exhausted })).heap[N + 3]? = some (.deferred (some [])) := (World.putObj_heap_other (by omega)).trans q3
    have v1 : (W'.putObj (N + 4) (.loop { rec with state := .exhausted })).heap[N + 1]? = some (.cells #[.slice (some ⟨N, 0, none⟩) 4 4] 23) := (World.putObj_heap_other (by omega)).trans qv
    have v0 : (W'.putObj (N + 4) (.loop { rec with state := .exhausted })).heap[N]? = some (.cells #[.int .i64 (stR l 24 0), .int .i64 (stR l 24 1), .int .i64 (stR l 24 2), .int .i64 (stR l 24 3)] 3) := (World.putObj_heap_other (by omega)).trans q0
    have v4 : Below N w3 (W'.putObj (N + 4) (.loop { rec with state := .exhausted })) := q1.grown (grownBy_putObj' _ _ _) (by omega) (fun k e => by cases e; omega)
    rw [show ({ state := LoopState.exhausted, pending := none, fn := rec.fn, tmps := rec.tmps, params := rec.params, assign := rec.assign, body := rec.body, defers := rec.defers } : Loop) = { rec with state := .exhausted } by rw [show rec.pending = none by rw [← hrec]]]
    generalize (W'.putObj (N + 4) (.loop { rec with state := .exhausted })) = V at *
    have y1 : V.cell? ⟨N + 1, 0, none⟩ = some (.slice (some ⟨N, 0, none⟩) 4 4) := by simp [World.cell?, v1]
    have hVs : N + 3 < V.heap.size := (Array.getElem?_eq_some_iff.1 v3).1
    have hcs : ∀ i, i < 4 → V.cell? ⟨N, i, none⟩ = some (.int .i64 (stR l 24 i)) := by
      intro i hi
      have : i = 0 ∨ i = 1 ∨ i = 2 ∨ i = 3 := by omega
      rcases this with h | h | h | h <;> subst h <;> simp [World.cell?, v0]
    gi_wp2_with (gi_at_call 147; refine (hS V N (by omega) hcs).mono ?_; rintro e W2 ⟨rfl, hB2⟩)
    have e2 : W2.heap[N + 3]? = some (.deferred (some [])) := (hB2.block (N + 3) (by omega)).trans v3
    have e5 : N + 3 < W2.heap.size := (Array.getElem?_eq_some_iff.1 e2).1
    refine ⟨by simp, .inl ⟨_, _, rfl, run_takeDeferred e2, ?_⟩⟩
    refine ⟨.string t, ?_, rfl, ?_⟩
    · simp [results, Tryz.f148, go_sem]
    · rw [hN]; exact b3.trans ((v4.trans (hB2.mono (by omega))).grown (grownBy_putObj' _ _ _) (by omega) (fun k e => by cases e; omega))
end Go.Proofs.YtndgpinhbffleaaGreat



namespace Go.Proofs.YtndgpinhbffleaaGreat
open Go Go.RowKit
set_option linter.unusedVariables false
set_option maxRecDepth 100000
theorem numL_is : ∀ {l : List AV} {n : List Int}, numL l = some n → l = n.map (.int .i64) := by
  intro l
  induction l with
  | nil => intro n h; simp [numL] at h; subst h; rfl
  | cons c l ih =>
    intro n h
    unfold numL at h
    split at h
    · rename_i heq; cases heq
    · rename_i m l' heq
      injection heq with h1 h2; subst h1; subst h2
      cases hq : numL l with
      | none => simp [hq] at h
      | some q => simp [hq] at h; subst h; simp [← ih hq]
    · cases h
/-- A function that is lent nothing and answers a text. -/
theorem Z_text {f : FuncId} {args : List AV} {s : Tx} (h : E CZ f args [] = some { val := .str s }) {w : World} {vals : Array Value} (hl : args.length = vals.size)
    (hargs : ∀ i, i < args.length → Rep w (fun _ => False) noMap (args.getD i .dead) (vals.getD i undef)) : Calls Tryz.prog f vals w fun e w' => e = .returned (.string (mstr s)) ∧ Below w.heap.size w w' := by
  have hO : ∀ k, Own noMap k → False := by rintro k ⟨id, ⟨s, h⟩ | h⟩ <;> cases h
  have hI : Inv w (heapOf []) noMap := ⟨(fun id b hb => by cases hb), (fun id id' k h => (hO k ⟨id, h⟩).elim), (fun id k s h => by cases h), (fun id k h => (hO k ⟨id, h⟩).elim), (fun id b hb => by cases hb)⟩
  refine ((CZ_sound _ _ _ _ h).2 w noMap vals hl hI (fun i hi => (hargs i hi).less hO) (fun id k h => (hO k ⟨id, h⟩).elim) (fun id h => by cases h) List.nodup_nil (fun id h => by cases h)).mono fun e w' hh => ?_
  obtain ⟨rv, ιo, rfl, L⟩ := hh
  have hv := L.val
  generalize hrv : rv = v at hv
  cases hv with
  | str hx => exact ⟨by rw [mstr_of hx], ⟨L.ext.os, L.ext.tape, L.ext.output, L.ext.size, fun k hk => L.ext.block k hk (by rintro ⟨id, h, _⟩; cases h)⟩⟩
theorem refs_sound {args : List AV} {r : Res} (h : refsX args = some r) : Sound Tryz.prog 148 args [] r := by
  unfold refsX at h
  split at h
  case h_2 => cases h
  rename_i es
  split at h
  case h_2 => cases h
  rename_i l hl
  split at h
  case isFalse => cases h
  rename_i hc
  obtain ⟨h24, s, hE⟩ := hc
  rw [hE] at h
  injection h with h; subst h
  have he := numL_is hl
  subst he
  refine ⟨⟨_, Tryz.func148, by decide, rfl⟩, fun w ι vals hl I hr _ _ _ _ => ?_⟩
  obtain ⟨x, rfl⟩ : ∃ x, vals = #[x] := ⟨vals.getD 0 undef, arr1 hl.symm undef⟩
  have h0 := hr 0 (by simp)
  simp only [List.getD_cons_zero] at h0
  have hx : (#[x] : Array Value).getD 0 undef = x := rfl
  rw [hx] at h0
  obtain ⟨b, off, cap, rfl, hb, hi⟩ : ∃ b off cap, x = .slice (some ⟨b, off, none⟩) 24 cap ∧ b < w.heap.size ∧ IntsAt w b off 24 (fun i => l.getD i 0) := by
    generalize he : l.map (AV.int .i64) = es at h0
    cases h0 with
    | slE => simp at he; subst he; simp at h24
    | @sl _ _ _ b off cap len cell hn hlen hcap hO hb hm hc hcell h1 hh =>
      subst he
      refine ⟨b, off, cap, by rw [hlen, List.length_map, h24], hb, fun i hi => ?_⟩
      have q := hh i 0 (by simp; omega) (by omega)
      have q2 := hcell i 0 (by simp; omega) (by omega)
      have e : (l.map (AV.int .i64)).getD i .dead = .int .i64 (l.getD i 0) := by simp [List.getD, h24, hi]
      rw [e] at q
      simp only [cellsOf, List.getD_cons_zero] at q
      generalize hc0 : cell i 0 = c at q q2
      cases q
      simpa using q2
  refine (callsIn_wide.1 (refs_in Fence.wide 4 trivial trivial trivial trivial rfl (by omega) b off cap _ w hb hi (mstr s) fun W k hk hcs => callsIn_wide.2 (Z_text hE rfl fun i hi => ?_))).mono fun e w' ⟨he, hB⟩ => ?_
  · have : i = 0 ∨ i = 1 := by simp at hi; omega
    rcases this with rfl | rfl
    · exact .int _ _
    · refine .sl (b := k) (off := 0) (fun i _ => .int .i64 ((stRs l).getD i 0)) (by simp [stRs]) (by simp [stRs]) (by omega) (fun h => h) hk (by omega) ?_ ?_ ?_ ?_
      · intro j hj; simp [stRs] at hj ⊢
        have : j = 0 ∨ j = 1 ∨ j = 2 ∨ j = 3 := by omega
        rcases this with rfl | rfl | rfl | rfl <;> rfl
      · intro j c hj hc1
        have hj4 : j < 4 := by simpa [stRs] using hj
        have := hcs j hj4
        obtain rfl : c = 0 := by omega
        have e : (stRs l).getD j 0 = stR (fun i => l.getD i 0) 24 j := by
          have : j = 0 ∨ j = 1 ∨ j = 2 ∨ j = 3 := by omega
          unfold stRs
          rcases this with rfl | rfl | rfl | rfl <;> rfl
        rw [e]
        simpa using this
      · intro _ _ _ _; rfl
      · intro j c hj hc1
        have hj4 : j < 4 := by simpa [stRs] using hj
        obtain rfl : c = 0 := by omega
        have : j = 0 ∨ j = 1 ∨ j = 2 ∨ j = 3 := by omega
        rcases this with rfl | rfl | rfl | rfl <;> exact .int _ _
  · refine ⟨_, noMap, he, ⟨⟨hB.os, hB.tape, hB.output, hB.size, fun k hk _ => hB.block k hk, fun k hk => ?_⟩, rfl, fun k hk => by simp at hk, fun k hk => by simp at hk, (fun _ _ _ h => (noFoot h).elim), (by intro _ _ _ h; cases h), (fun _ _ h => (noFoot h).elim), .str (by simp [mstr])⟩⟩
    unfold World.shape?
    rw [hB.block k hk]
end Go.Proofs.YtndgpinhbffleaaGreat


