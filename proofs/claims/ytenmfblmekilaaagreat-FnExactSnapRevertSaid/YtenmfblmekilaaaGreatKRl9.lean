/- A reading of the loaded code over plain data, its soundness, and what functions answer by it (part 9; joined by program). No condition. -/
import Derived.Test.YtenmfblmekilaaaGreatKRl8
import Derived.StillTail
import Derived.WalkKit
import Derived.Laws.CopyRow
set_option linter.all false
namespace Go.Proofs.YtenmfblmekilaaaGreat
open Go Go.RowKit
set_option linter.unusedVariables false
section
variable {P : Program} {ops : Array Oper} {Q : Exit → Act → World → Prop} {a : Act} {w w' : World} {o : Oper} {l : List Oper} {v : Value}
theorem wpl (hg : o.guard = none) (hr : (execOp a.eval o).run P w = .ok (.value v) w') (h : wpList P ops Q l (a.put o.dst v) w') : wpList P ops Q (o :: l) a w := by
  unfold wpList
  rw [if_pos (by simp [Region.wanted, hg])]
  refine .inl ?_
  unfold Oper.wp
  rw [hr]
  exact h
theorem wst {L : Act → Prop} (hg : o.guard = none) (hr : (execOp a.eval o).run P w = .ok (.value v) w) (h : wpStill P ops w L l (a.put o.dst v)) : wpStill P ops w L (o :: l) a := by
  unfold wpStill
  rw [if_pos (by simp [Region.wanted, hg])]
  unfold Oper.still
  rw [hr, Oper.stillUpon_value]
  exact h
end
section
variable {P : Program} {w : World} {t el : TypeId} {inf : TypeInfo} {a : Option Addr} {len cap l r m : Nat}
theorem slice_lh (hu : P.underlying t = some (.slice el)) (hi : P.info? el = some inf) (h1 : l ≤ r) (h2 : r ≤ cap) : (Instr.sliceAt t (.slice a len cap) (some (.int .i64 l)) (some (.int .i64 r)) none).run P w = .ok (.slice (if cap = l then a else a.map (·.add (l * inf.size))) (r - l) (cap - l)) w := by
  have b1 : (Instr.sliceBounds true len cap (some (.int .i64 (l : Int))) (some (.int .i64 (r : Int))) none).run P w = .ok (l, r, cap) w := by
    simp [Instr.sliceBounds, sliceBound_run (n := (r : Int)) (y := cap) (by omega) (by simpa using h2), sliceBound_run (n := (l : Int)) (y := r) (by omega) (by simpa using h1)]
  simp [Instr.sliceAt, Instr.slice, underlying_run hu, b1, sizeOf_run hi]
theorem slice_l (hu : P.underlying t = some (.slice el)) (hi : P.info? el = some inf) (h1 : l ≤ len) (h2 : len ≤ cap) : (Instr.sliceAt t (.slice a len cap) (some (.int .i64 l)) none none).run P w = .ok (.slice (if cap = l then a else a.map (·.add (l * inf.size))) (len - l) (cap - l)) w := by
  have b1 : (Instr.sliceBounds true len cap (some (.int .i64 (l : Int))) none none).run P w = .ok (l, len, cap) w := by
    simp [Instr.sliceBounds, sliceBound_run (n := (l : Int)) (y := len) (by omega) (by simpa using h1)]
  simp [Instr.sliceAt, Instr.slice, underlying_run hu, b1, sizeOf_run hi]
theorem slice_h (hu : P.underlying t = some (.slice el)) (hi : P.info? el = some inf) (h2 : r ≤ cap) : (Instr.sliceAt t (.slice a len cap) none (some (.int .i64 r)) none).run P w = .ok (.slice (if cap = 0 then a else a.map (·.add 0)) r cap) w := by
  have b1 : (Instr.sliceBounds true len cap none (some (.int .i64 (r : Int))) none).run P w = .ok (0, r, cap) w := by
    simp [Instr.sliceBounds, sliceBound_run (n := (r : Int)) (y := cap) (by omega) (by simpa using h2)]
  simp [Instr.sliceAt, Instr.slice, underlying_run hu, b1, sizeOf_run hi]
theorem slice_lhm (hu : P.underlying t = some (.slice el)) (hi : P.info? el = some inf) (h1 : l ≤ r) (h2 : r ≤ m) (h3 : m ≤ cap) : (Instr.sliceAt t (.slice a len cap) (some (.int .i64 l)) (some (.int .i64 r)) (some (.int .i64 m))).run P w = .ok (.slice (if m = l then a else a.map (·.add (l * inf.size))) (r - l) (m - l)) w := by
  have b1 : (Instr.sliceBounds true len cap (some (.int .i64 (l : Int))) (some (.int .i64 (r : Int))) (some (.int .i64 (m : Int)))).run P w = .ok (l, r, m) w := by
    simp [Instr.sliceBounds, sliceBound_run (n := (m : Int)) (y := cap) (by omega) (by simpa using h3), sliceBound_run (n := (r : Int)) (y := m) (by omega) (by simpa using h2), sliceBound_run (n := (l : Int)) (y := r) (by omega) (by simpa using h1)]
  simp [Instr.sliceAt, Instr.slice, underlying_run hu, b1, sizeOf_run hi]
end
section
variable {P : Program} {w w' : World} {t el : TypeId} {act : Act} {o : Oper} {v : Value}
theorem len_op {x : Operand} {b : Option Addr} {n c : Nat} (ho : o.op = .call { callee := .builtin .len, args := #[x], argTypes := #[t] }) (hx : act.eval x = .slice b n c) (hu : P.underlying t = some (.slice el)) : (execOp act.eval o).run P w = .ok (.value (.int .i64 n)) w := by
  unfold execOp
  simp [ho, resolve, invoke, builtin, hx, Builtin.len_, underlying_run hu, goInt]
theorem app_op {x y : Operand} {u X Y : Value} (ho : o.op = .call { callee := .builtin .append, args := #[x, y], argTypes := #[t, t] }) (hx : act.eval x = X) (hy : act.eval y = Y) (h : (Builtin.append_ #[t, t] o.type #[X, Y]).run P w = .ok u w') : (execOp act.eval o).run P w = .ok (.value u) w' := by
  subst hx; subst hy
  unfold execOp
  simp [ho, resolve, invoke, builtin, h]
theorem clear_op {x : Operand} {u X : Value} (ho : o.op = .call { callee := .builtin .clear, args := #[x], argTypes := #[t] }) (hx : act.eval x = X) (h : (Builtin.clear_ #[t] o.type #[X]).run P w = .ok u w') : (execOp act.eval o).run P w = .ok (.value u) w' := by
  subst hx
  unfold execOp
  simp [ho, resolve, invoke, builtin, h]
theorem slice_op {x : Operand} {lo hi mx : Option Operand} {u X : Value} {LO HI MX : Option Value} (ho : o.op = .slice t x lo hi mx) (hx : act.eval x = X) (h1 : lo.map act.eval = LO) (h2 : hi.map act.eval = HI) (h3 : mx.map act.eval = MX) (h : (Instr.sliceAt t X LO HI MX).run P w = .ok u w) : (execOp act.eval o).run P w = .ok (.value u) w := by
  subst hx; subst h1; subst h2; subst h3
  unfold execOp
  simp only [ho, Sem.run_bind, h, Result.andThen_ok]; rfl
theorem eval_put {a : Act} {d : Option Nat} {v : Value} {s : Nat} : (a.put d v).eval (.tmp s) = if d = some s ∧ s < a.tmps.size then v else a.eval (.tmp s) := by
  have := act_put a d v s
  simpa [Act.eval] using this
theorem put_size {a : Act} {d : Option Nat} {v : Value} : (a.put d v).tmps.size = a.tmps.size := by
  cases d <;> simp [Act.put]
theorem put_defers {a : Act} {d : Option Nat} {v : Value} : (a.put d v).defers = a.defers := by
  cases d <;> simp [Act.put]
theorem move_op {x : Operand} {X : Value} (ho : o.op = .move x) (hx : act.eval x = X) : (execOp act.eval o).run P w = .ok (.value X) w := by
  subst hx
  unfold execOp
  simp only [ho]; rfl
theorem assign_op {x : Operand} {X : Value} (ho : o.op = .assign x) (hx : act.eval x = X) : (execOp act.eval o).run P w = .ok (.value X) w := by
  subst hx
  unfold execOp
  simp only [ho]; rfl
theorem eql_op {x y : Operand} {b : TypeId} {m n : Int} (ho : o.op = .binOp .eql t x y b) (hx : act.eval x = .int .i64 m) (hy : act.eval y = .int .i64 n) : (execOp act.eval o).run P w = .ok (.value (.bool (m == n))) w := by
  obtain ⟨z, hz, hr⟩ := abin_spec (P := P) (w := w) (O := fun _ => False) (ι := noMap) (op := .eql) (t := t) (x := .int .i64 m) (y := .int .i64 n) (u := .bool (m == n)) (ox := x) (oy := y) (by simp [abin, aint]) (.int _ _) (.int _ _)
  cases hr
  unfold execOp
  simp only [ho, hx, hy]
  rw [Sem.run_bind, hz]
  rfl
end
end Go.Proofs.YtenmfblmekilaaaGreat

namespace Go.Proofs.YtenmfblmekilaaaGreat
open Go Go.RowKit
set_option linter.unusedVariables false
set_option maxRecDepth 100000
set_option maxHeartbeats 8000000
theorem delSnap_walk (blk off cap n i j : Nat) (w W1 : World) (hn : n ≤ cap) (hij : i < j) (hj : j ≤ n)
    (happ : (Builtin.append_ #[27, 27] 27 #[.slice (if cap = 0 then some ⟨blk, off, none⟩ else (some (⟨blk, off, none⟩ : Addr)).map (·.add 0)) i cap, .slice (if cap = j then some ⟨blk, off, none⟩ else (some (⟨blk, off, none⟩ : Addr)).map (·.add (j * 2))) (n - j) (cap - j)]).run Tryz.prog w.drew = .ok (.slice (some ⟨blk, off, none⟩) (i + (n - j)) cap) W1)
    (W2 : World) (u : Value) (hcl : (Builtin.clear_ #[27] 0 #[.slice (if cap = i + (n - j) then some ⟨blk, off, none⟩ else (some (⟨blk, off, none⟩ : Addr)).map (·.add ((i + (n - j)) * 2))) (n - (i + (n - j))) (cap - (i + (n - j)))]).run Tryz.prog W1 = .ok u W2) :
    Calls Tryz.prog 39 #[.slice (some ⟨blk, off, none⟩) n cap, .int .i64 i, .int .i64 j] w fun e w' => e = .returned (.slice (some ⟨blk, off, none⟩) (i + (n - j)) cap) ∧ w' = W2 := by
  have tS : Tryz.prog.underlying 27 = some (.slice 47) := by kernel_rfl
  obtain ⟨inf, hinf, hsz⟩ : ∃ inf, Tryz.prog.info? 47 = some inf ∧ inf.size = 2 := ⟨_, rfl, by kernel_rfl⟩
  go_enter Tryz.func39, (rfl : Tryz.f39.ntmps = 33)
  suffices H : ∀ A0 : Act, A0.defers = [] → A0.tmps.size = 33 → A0.eval (.tmp 0) = .slice (some ⟨blk, off, none⟩) n cap → A0.eval (.tmp 1) = .int .i64 i → A0.eval (.tmp 2) = .int .i64 j → Code.wp _ _ _ A0 w from H _ rfl (by simp [show Tryz.f39.ntmps = 33 from rfl]) (by simp [Act.eval]) (by simp [Act.eval]) (by simp [Act.eval])
  intro A0 D Z e0 e1 e2
  refine wp_seq (wp_region_list (wpl rfl (assign_op (X := .slice none 0 0) rfl rfl) ?_))
  show Code.wp _ _ _ _ _
  refine wp_seq (wp_region_list (wpl rfl (move_op (X := .slice (some ⟨blk, off, none⟩) n cap) rfl (by simp [eval_put, put_size, Z, e0, e1, e2])) ?_))
  refine wpl rfl (move_op (X := .int .i64 i) rfl (by simp [eval_put, put_size, Z, e0, e1, e2])) ?_
  refine wpl rfl (move_op (X := .int .i64 j) rfl (by simp [eval_put, put_size, Z, e0, e1, e2])) ?_
  refine wpl rfl (move_op (X := .slice (some ⟨blk, off, none⟩) n cap) rfl (by simp [eval_put, put_size, Z, e0, e1, e2])) ?_
  refine wpl rfl (len_op (b := some ⟨blk, off, none⟩) (n := n) (c := cap) rfl (by simp [eval_put, put_size, Z, e0, e1, e2]) tS) ?_
  refine wpl rfl (slice_op (X := .slice (some ⟨blk, off, none⟩) n cap) (LO := some (.int .i64 i)) (HI := some (.int .i64 j)) (MX := some (.int .i64 n)) rfl (by simp [eval_put, put_size, Z, e0, e1, e2]) (by simp [eval_put, put_size, Z, e0, e1, e2]) (by simp [eval_put, put_size, Z, e0, e1, e2]) (by simp [eval_put, put_size, Z, e0, e1, e2]) (slice_lhm tS hinf (Nat.le_of_lt hij) hj hn)) ?_
  show Code.wp _ _ _ _ _
  refine wp_seq (wp_seq (wp_region_list (wpl rfl (move_op (X := .int .i64 i) rfl (by simp [eval_put, put_size, Z, e0, e1, e2])) ?_)))
  refine wpl rfl (move_op (X := .int .i64 j) rfl (by simp [eval_put, put_size, Z, e0, e1, e2])) ?_
  refine wpl rfl (eql_op (m := i) (n := j) rfl (by simp [eval_put, put_size, Z, e0, e1, e2]) (by simp [eval_put, put_size, Z, e0, e1, e2])) ?_
  show Code.wp _ _ _ _ _
  have hne : ((i : Int) == (j : Int)) = false := by simp; omega
  refine wp_cond_false (by simp [eval_put, put_size, Z, hne]) (wp_skip ?_)
  show Code.wp _ _ _ _ _
  refine wp_seq (wp_region_list (wpl rfl (move_op (X := .slice (some ⟨blk, off, none⟩) n cap) rfl (by simp [eval_put, put_size, Z, e0, e1, e2])) ?_))
  refine wpl rfl (len_op (b := some ⟨blk, off, none⟩) (n := n) (c := cap) rfl (by simp [eval_put, put_size, Z, e0, e1, e2]) tS) ?_
  refine wpl rfl (assign_op (X := .int .i64 n) rfl (by simp [eval_put, put_size, Z, e0, e1, e2])) ?_
  show Code.wp _ _ _ _ _
  suffices H : ∀ A1 : Act, A1.defers = [] → A1.tmps.size = 33 → A1.eval (.tmp 0) = .slice (some ⟨blk, off, none⟩) n cap → A1.eval (.tmp 1) = .int .i64 i → A1.eval (.tmp 2) = .int .i64 j → A1.eval (.tmp 7) = .int .i64 n → Code.wp _ _ _ A1 w from H _ (by simp [put_defers, D]) (by simp [put_size, Z]) (by simp [eval_put, put_size, Z, e0, e1, e2]) (by simp [eval_put, put_size, Z, e0, e1, e2]) (by simp [eval_put, put_size, Z, e0, e1, e2]) (by simp [eval_put, put_size, Z])
  clear D Z e0 e1 e2
  intro A1 D Z f0 f1 f2 f7
  refine wp_seq (wp_region_still_tail 6 (by kernel_rfl) (by kernel_rfl) ?_)
  simp only [List.take_succ_cons, List.take_zero, List.drop_succ_cons, List.drop_zero]
  have hS1 := slice_h (P := Tryz.prog) (w := { w with drawn := w.drawn + 1 }) (a := some ⟨blk, off, none⟩) (len := n) (cap := cap) (r := i) tS hinf (by omega)
  have hS2 := slice_l (P := Tryz.prog) (w := { w with drawn := w.drawn + 1 }) (a := some ⟨blk, off, none⟩) (len := n) (cap := cap) (l := j) tS hinf hj hn
  rw [hsz] at hS2
  refine wst rfl (move_op (X := .slice (some ⟨blk, off, none⟩) n cap) rfl (by simp [eval_put, put_size, Z, f0, f1, f2, f7])) ?_
  refine wst rfl (move_op (X := .int .i64 i) rfl (by simp [eval_put, put_size, Z, f0, f1, f2, f7])) ?_
  refine wst rfl (slice_op (X := .slice (some ⟨blk, off, none⟩) n cap) (LO := none) (HI := some (.int .i64 i)) (MX := none) rfl (by simp [eval_put, put_size, Z, f0, f1, f2, f7]) (by simp [eval_put, put_size, Z, f0, f1, f2, f7]) (by simp [eval_put, put_size, Z, f0, f1, f2, f7]) (by simp [eval_put, put_size, Z, f0, f1, f2, f7]) hS1) ?_
  refine wst rfl (move_op (X := .slice (some ⟨blk, off, none⟩) n cap) rfl (by simp [eval_put, put_size, Z, f0, f1, f2, f7])) ?_
  refine wst rfl (move_op (X := .int .i64 j) rfl (by simp [eval_put, put_size, Z, f0, f1, f2, f7])) ?_
  refine wst rfl (slice_op (X := .slice (some ⟨blk, off, none⟩) n cap) (LO := some (.int .i64 j)) (HI := none) (MX := none) rfl (by simp [eval_put, put_size, Z, f0, f1, f2, f7]) (by simp [eval_put, put_size, Z, f0, f1, f2, f7]) (by simp [eval_put, put_size, Z, f0, f1, f2, f7]) (by simp [eval_put, put_size, Z, f0, f1, f2, f7]) hS2) ?_
  refine wpStill_nil ?_
  refine wpl rfl (app_op rfl (by simp [eval_put, put_size, Z, f0, f1, f2, f7]) (by simp [eval_put, put_size, Z, f0, f1, f2, f7]) happ) ?_
  refine wpl rfl (assign_op (X := .slice (some ⟨blk, off, none⟩) (i + (n - j)) cap) rfl (by simp [eval_put, put_size, Z, f0, f1, f2, f7])) ?_
  show Code.wp _ _ _ _ _
  suffices H : ∀ A2 : Act, A2.defers = [] → A2.tmps.size = 33 → A2.eval (.tmp 0) = .slice (some ⟨blk, off, none⟩) (i + (n - j)) cap → A2.eval (.tmp 7) = .int .i64 n → Code.wp _ _ _ A2 W1 from H _ (by simp [put_defers, D]) (by simp [put_size, Z]) (by simp [eval_put, put_size, Z, f0, f1, f2, f7]) (by simp [eval_put, put_size, Z, f0, f1, f2, f7])
  clear D Z f0 f1 f2 f7
  intro A2 D Z g0 g7
  have hS3 := slice_lh (P := Tryz.prog) (w := W1) (a := some ⟨blk, off, none⟩) (len := i + (n - j)) (cap := cap) (l := i + (n - j)) (r := n) tS hinf (by omega) hn
  rw [hsz] at hS3
  refine wp_seq (wp_region_list (wpl rfl (move_op (X := .slice (some ⟨blk, off, none⟩) (i + (n - j)) cap) rfl (by simp [eval_put, put_size, Z, g0, g7])) ?_))
  refine wpl rfl (move_op (X := .slice (some ⟨blk, off, none⟩) (i + (n - j)) cap) rfl (by simp [eval_put, put_size, Z, g0, g7])) ?_
  refine wpl rfl (len_op (b := some ⟨blk, off, none⟩) (n := i + (n - j)) (c := cap) rfl (by simp [eval_put, put_size, Z, g0, g7]) tS) ?_
  refine wpl rfl (move_op (X := .int .i64 n) rfl (by simp [eval_put, put_size, Z, g0, g7])) ?_
  refine wpl rfl (slice_op (X := .slice (some ⟨blk, off, none⟩) (i + (n - j)) cap) (LO := some (.int .i64 ((i + (n - j) : Nat) : Int))) (HI := some (.int .i64 n)) (MX := none) rfl (by simp [eval_put, put_size, Z, g0, g7]) (by simp [eval_put, put_size, Z, g0, g7]) (by simp [eval_put, put_size, Z, g0, g7]) (by simp [eval_put, put_size, Z, g0, g7]) hS3) ?_
  refine wpl rfl (clear_op rfl (by simp [eval_put, put_size, Z, g0, g7]) hcl) ?_
  show Code.wp _ _ _ _ _
  refine wp_seq (wp_region_list (wpl rfl (move_op (X := .slice (some ⟨blk, off, none⟩) (i + (n - j)) cap) rfl (by simp [eval_put, put_size, Z, g0, g7])) ?_))
  refine wpl rfl (assign_op (X := .slice (some ⟨blk, off, none⟩) (i + (n - j)) cap) rfl (by simp [eval_put, put_size, Z, g0, g7])) ?_
  show Code.wp _ _ _ _ _
  suffices H : ∀ A3 : Act, A3.defers = [] → A3.tmps.size = 33 → A3.eval (.tmp 6) = .slice (some ⟨blk, off, none⟩) (i + (n - j)) cap → Code.wp _ _ _ A3 W2 from H _ (by simp [put_defers, D]) (by simp [put_size, Z]) (by simp [eval_put, put_size, Z, g0, g7])
  clear D Z g0 g7
  intro A3 D Z h6
  refine wp_ret (bodyPost_ret (results_tmp rfl _ _ _) D ⟨?_, rfl⟩)
  have h := h6
  simp only [Act.eval] at h
  rw [← h]
end Go.Proofs.YtenmfblmekilaaaGreat


namespace Go.Proofs.YtenmfblmekilaaaGreat
open Go Go.RowKit
set_option linter.unusedVariables false
set_option linter.unusedSimpArgs false
set_option maxHeartbeats 1000000
/-- A walk of 'slices.Delete' at rows of pairs. -/
def DelWalk (P : Program) (f : FuncId) (t : TypeId) : Prop := ∀ (blk off cap n i j : Nat) (w W1 : World) (hn : n ≤ cap) (hij : i < j) (hj : j ≤ n)
    (happ : (Builtin.append_ #[t, t] t #[.slice (if cap = 0 then some ⟨blk, off, none⟩ else (some (⟨blk, off, none⟩ : Addr)).map (·.add 0)) i cap, .slice (if cap = j then some ⟨blk, off, none⟩ else (some (⟨blk, off, none⟩ : Addr)).map (·.add (j * 2))) (n - j) (cap - j)]).run P w.drew = .ok (.slice (some ⟨blk, off, none⟩) (i + (n - j)) cap) W1)
    (W2 : World) (u : Value) (hcl : (Builtin.clear_ #[t] 0 #[.slice (if cap = i + (n - j) then some ⟨blk, off, none⟩ else (some (⟨blk, off, none⟩ : Addr)).map (·.add ((i + (n - j)) * 2))) (n - (i + (n - j))) (cap - (i + (n - j)))]).run P W1 = .ok u W2),
    Calls P f #[.slice (some ⟨blk, off, none⟩) n cap, .int .i64 i, .int .i64 j] w fun e w' => e = .returned (.slice (some ⟨blk, off, none⟩) (i + (n - j)) cap) ∧ w' = W2
theorem heap_one (b : Blk) (id : Id) : heapOf [([0], b)] id = if id = [0] then some b else none := by
  simp [heapOf, HU, HE]
theorem NestF.via {w : World} {N : Nat → Prop} {t : TypeId} {n : Nat} {xs ys : List AV} {f h : Nat → Value} (σ : Nat → Nat) (hσ : ∀ i i', σ i = σ i' → i = i') (hp : ∀ i j m, slAt n ys i j = some m → slAt n xs (σ i) j = some m ∧ h (i * n + j) = f (σ i * n + j)) (hx : NestF w N t n xs f) : NestF w N t n ys h := by
  refine ⟨fun i j m hs => ?_, fun i j i' j' hs hs' e => ?_⟩
  · obtain ⟨a, b⟩ := hp i j m hs
    rw [b]; exact hx.1 _ _ _ a
  · obtain ⟨m, hs⟩ := Option.isSome_iff_exists.1 hs
    obtain ⟨m', hs'⟩ := Option.isSome_iff_exists.1 hs'
    obtain ⟨a, b⟩ := hp i j m hs
    obtain ⟨a', b'⟩ := hp i' j' m' hs'
    rw [b, b'] at e
    obtain ⟨c, d⟩ := hx.2 _ _ _ _ (by rw [a]; rfl) (by rw [a']; rfl) e
    exact ⟨hσ _ _ c, d⟩
theorem del_sound {P : Program} {f : FuncId} {t el : TypeId} (hf : Callable P f) (hW : DelWalk P f t) (hk : tkind P t = .slice el) {ti : TyI} (hi : tyi P el = some ti) (h2 : ti.size = 2) (hzl : ti.zero.length = 2) (hzf : ti.zero.all leaf = true) (hz : mkVal ti.ag ti.zero = .agg [.str [], .nil])
    {b : Blk} {n k : Nat} (hv : b.isVar = false) (hty : b.ty = el) (hsz : b.sz = 2) (hlen : b.els.length = n) (hkn : k < n) :
    Sound P f [.ref [0] 0 n, .int .i64 k, .int .i64 ((k : Int) + 1)] [([0], b)] { val := .ref [0] 0 (n - 1), io := [{ b with els := b.els.eraseIdx k ++ [.agg [.str [], .nil]] }] } := by
  refine ⟨hf, fun w ι vals hl I hr hph _ _ _ => ?_⟩
  have h0 := hr 0 (by simp)
  have h1 := hr 1 (by simp)
  have h2' := hr 2 (by simp)
  have hv3 : vals = #[vals.getD 0 undef, vals.getD 1 undef, vals.getD 2 undef] := by
    simp at hl
    apply Array.ext
    · simp; omega
    · intro i g1 g2
      have : i = 0 ∨ i = 1 ∨ i = 2 := by simp at g2; omega
      rcases this with rfl | rfl | rfl <;> simp [Array.getD, hl.symm]
  rw [hv3]
  simp only [List.getD_cons_zero, List.getD_cons_succ] at h0 h1 h2'
  generalize vals.getD 0 undef = x0 at *
  generalize vals.getD 1 undef = x1 at *
  generalize vals.getD 2 undef = x2 at *
  clear hv3 hl hr
  cases h1
  cases h2'
  generalize hnn : n = n' at h0
  cases h0 with
  | refE => omega
  | ref hι hs hcap hroom =>
    rename_i cap blk sz m ty'
    subst hnn
    have hb : heapOf [([0], b)] [0] = some b := by rw [heap_one]; rfl
    obtain ⟨rfl, hb0, cs, hcs, hcl, hrow, hrowN⟩ := blk_row I hb hv hι
    have hm : m = cs.size := by
      simp only [World.shape?, hcs] at hs
      injection hs with hs; injection hs with _ hs; exact hs.symm
    subst hm
    have hty' : ty' = b.ty := by
      simp only [World.shape?, hcs] at hs
      injection hs with hs; injection hs with hs _; exact hs.symm
    subst hty'
    rw [Nat.zero_add] at hroom
    obtain ⟨inf, dd, z, q1, q2, q3, q4, q5, q6, q7, q8, q9⟩ := zero_cells hi
    obtain ⟨hc1, hc2⟩ := q9 hzf
    have hu := tkind_slice hk
    have Id := I.drew
    have hi2 : inf.size = 2 := by rw [q3]; exact h2
    have hlt : blk < w.heap.size := (Array.getElem?_eq_some_iff.1 hcs).1
    have hkl : k + (n - (k + 1)) = n - 1 := by omega
    have hot : (b.els.take k).length = k := by simp; omega
    have hnl : (b.els.drop (k + 1)).length = n - (k + 1) := by simp; omega
    have hgd : ∀ a, (b.els.drop (k + 1)).getD a .dead = b.els.getD (k + 1 + a) .dead := by intro a; simp
    have hsz2 : b.els.length * b.sz = n * 2 := by rw [hlen, hsz]
    -- what is moved
    have nsg : ∀ o, o < (n - (k + 1)) * 2 → ((List.range ((n - (k + 1)) * 2)).map fun o => cs.getD ((k + 1) * 2 + o) undef).getD o undef = cs.getD ((k + 1) * 2 + o) undef := by intro o ho; simp [ho]
    have x1 : ((List.range ((n - (k + 1)) * 2)).map fun o => cs.getD ((k + 1) * 2 + o) undef).length = (n - (k + 1)) * 2 := by simp
    generalize hns : (List.range ((n - (k + 1)) * 2)).map (fun o => cs.getD ((k + 1) * 2 + o) undef) = ns at nsg x1
    have x2 : (Builtin.firstCells 2 (n - (k + 1)) (.slice (if cap = k + 1 then some ⟨blk, 0, none⟩ else (some (⟨blk, 0, none⟩ : Addr)).map (·.add ((k + 1) * 2))) (n - (k + 1)) (cap - (k + 1)))).run P w.drew = .ok ns.toArray w.drew := by
      by_cases hc : cap = k + 1
      · rw [if_pos hc]
        have e1 : n - (k + 1) = 0 := by omega
        rw [e1] at hns ⊢
        simp at hns; subst hns
        simp [Builtin.firstCells, loadCells, loadCellsFrom]
      · rw [if_neg hc]
        have hA : (some (⟨blk, 0, none⟩ : Addr)).map (·.add ((k + 1) * 2)) = some ⟨blk, (k + 1) * 2, none⟩ := by simp [add_at]
        rw [hA, ← hns]
        simp only [Builtin.firstCells]
        refine run_loadCells w.drew _ _ (fun o => cs.getD ((k + 1) * 2 + o) undef) fun j hj => ?_
        rw [add_at]
        exact cell?_of_cells (w := w.drew) hcs (by omega)
    have xrow : RowOf w.drew (fun q => Own (without ι []) q ∧ (b.sub.isSome = true → ¬ ι.n [0] q)) b.sz (b.els.drop (k + 1)) fun o => ns.getD o undef := by
      obtain ⟨r1, r2, r3⟩ := hrow
      rw [without_nil]
      refine ⟨fun a ha => by rw [hgd]; exact r1 _ (by omega), fun o ho => ?_, fun a c ha hc => ?_⟩
      · rw [hnl, hsz] at ho
        show Value.oneCell' (List.getD _ _ _) = true
        rw [nsg o ho]; exact r2 _ (by rw [hsz2]; omega)
      · rw [hnl] at ha
        have hlt' : a * b.sz + c < (n - (k + 1)) * 2 := by
          have := Nat.mul_le_mul_right b.sz (Nat.succ_le_of_lt ha)
          rw [Nat.succ_mul] at this; rw [hsz] at this hc ⊢; omega
        show Rep w.drew _ _ _ (List.getD _ _ _)
        rw [hgd, nsg _ hlt']
        have := r3 (k + 1 + a) c (by omega) hc
        rw [show (k + 1 + a) * b.sz + c = (k + 1) * 2 + (a * b.sz + c) from by rw [Nat.add_mul (k + 1) a, Nat.add_assoc, hsz]] at this
        exact this.mono (drew_ext _ w) (fun _ _ h => h) _ fun _ _ h => h
    have trow : RowOf w.drew (fun q => Own (without ι []) q ∧ (b.sub.isSome = true → ¬ ι.n [0] q)) b.sz (b.els.take k) fun o => cs.getD o undef := by
      rw [without_nil]
      exact (hrow.take (m := k) (by omega)).ext (drew_ext _ w)
    have x1s : ns.length = (b.els.drop (k + 1)).length * b.sz := by rw [hnl, hsz]; exact x1
    have k1 : ∀ p, p < (b.els.take k).length * b.sz → (if k * b.sz ≤ p ∧ p < k * b.sz + ns.length then ns.getD (p - k * b.sz) undef else cs.getD p undef) = cs.getD p undef := fun p hp => by
      rw [hot] at hp
      rw [if_neg (by omega)]
    have k2 : ∀ p, p < (b.els.drop (k + 1)).length * b.sz → (if k * b.sz ≤ (b.els.take k).length * b.sz + p ∧ (b.els.take k).length * b.sz + p < k * b.sz + ns.length then ns.getD ((b.els.take k).length * b.sz + p - k * b.sz) undef else cs.getD ((b.els.take k).length * b.sz + p) undef) = ns.getD p undef := fun p hp => by
      rw [hot]
      rw [if_pos (by omega)]
      congr 1; omega
    have hE1l : (b.els.take k ++ b.els.drop (k + 1)).length = n - 1 := by simp; omega
    obtain ⟨w1, s1, s2, D⟩ := row_storeN (P := P) (np := 0) (K := []) (N := ι.n [0]) (s' := b.sub) (es' := b.els.take k ++ b.els.drop (k + 1)) (off := k) Id hb hv (by simp) hι (show w.drew.heap[blk]? = _ from hcs) hb0 x1s (by
        have := Nat.mul_le_mul_right b.sz (show k + (b.els.drop (k + 1)).length ≤ b.els.length by simp; omega)
        omega) (by rw [hE1l]; have := Nat.mul_le_mul_right b.sz (show n - 1 ≤ b.els.length by omega); omega) xrow.2.1 (fun _ h => .inl h) (fun _ => rfl) (fun _ _ h => h) (row_append (f := fun o => cs.getD o undef) (h := fun o => ns.getD o undef) trow xrow k1 k2)
      (fun t' ht' => by
        refine NestF.via (fun i => if i < k then i else i + 1) (fun i i' h => by split at h <;> split at h <;> omega) (fun i j m hs => ?_) ((hrowN t' ht').mono (w' := w.drew) (fun _ h => h) fun _ _ => rfl)
        unfold slAt at hs ⊢
        split at hs
        · rename_i hc
          rw [hE1l] at hc
          have hget : (b.els.take k ++ b.els.drop (k + 1)).getD i .dead = b.els.getD (if i < k then i else i + 1) .dead := by
            simp only [List.getD_eq_getElem?_getD, List.getElem?_append, hot]
            split
            · rename_i hik; rw [List.getElem?_take, if_pos hik]
            · rename_i hik; rw [List.getElem?_drop]; congr 2; omega
          rw [hget] at hs
          refine ⟨by rw [if_pos ⟨by split <;> omega, hc.2⟩]; exact hs, ?_⟩
          by_cases hik : i < k
          · have := Nat.mul_le_mul_right b.sz (Nat.succ_le_of_lt hik)
            rw [Nat.succ_mul] at this
            rw [if_pos hik, if_neg (by omega)]
          · have h3 : i * b.sz + j = k * b.sz + ((i - k) * b.sz + j) := by
              have : (k + (i - k)) * b.sz = i * b.sz := by congr 1; omega
              rw [Nat.add_mul] at this; omega
            have h4 : (i - k) * b.sz + j < (n - (k + 1)) * 2 := by
              have := Nat.mul_le_mul_right b.sz (show i - k + 1 ≤ n - (k + 1) by omega)
              rw [Nat.succ_mul] at this; rw [hsz] at this hc ⊢; omega
            rw [if_neg hik, h3, if_pos (by omega), Nat.add_sub_cancel_left, nsg _ h4]
            congr 1
            rw [hsz]
            have : (i + 1) * 2 = (k + 1) * 2 + (i - k) * 2 := by omega
            omega
        · cases hs)
    rw [give_self] at D
    have hbase : (if cap = 0 then some (⟨blk, 0, none⟩ : Addr) else (some (⟨blk, 0, none⟩ : Addr)).map (·.add 0)) = some ⟨blk, 0, none⟩ := by
      rw [if_neg (by omega)]; simp [add_at]
    have happ : (Builtin.append_ #[t, t] t #[.slice (if cap = 0 then some ⟨blk, 0, none⟩ else (some (⟨blk, 0, none⟩ : Addr)).map (·.add 0)) k cap, .slice (if cap = k + 1 then some ⟨blk, 0, none⟩ else (some (⟨blk, 0, none⟩ : Addr)).map (·.add ((k + 1) * 2))) (n - (k + 1)) (cap - (k + 1))]).run P w.drew = .ok (.slice (some ⟨blk, 0, none⟩) (k + (n - (k + 1))) cap) w1 := by
      rw [hbase]
      refine append_room hu hu q1 (by rw [hi2]; exact x2) (by omega) (fun b' hb' => ?_) (fun h => by cases h)
      injection hb' with hb'; subst hb'
      rw [add_at, Nat.zero_add, hi2]
      rw [hsz] at s1
      exact s1
    generalize hE1 : b.els.take k ++ b.els.drop (k + 1) = E1 at D hE1l
    have I1 : Inv w1 (heapOf [([0], ({ b with els := E1 } : Blk))]) ι := by
      refine ⟨fun id b' hb' => ?_, I.inj, I.sep, D.live, fun id b' hb' => ?_⟩
      · rw [heap_one] at hb'
        split at hb'
        · rename_i hid
          injection hb' with hb'; subst hb'; subst hid
          exact D.ups _ _ (by simp)
        · cases hb'
      · rw [heap_one] at hb'
        split at hb'
        · rename_i hid
          subst hid
          exact I.real _ b hb
        · cases hb'
    have hb1 : heapOf [([0], ({ b with els := E1 } : Blk))] [0] = some { b with els := E1 } := by rw [heap_one]; rfl
    obtain ⟨_, _, cs1, hcs1, hcl1, hrow1, hrowN1⟩ := blk_row I1 hb1 hv hι
    have hcs1s : cs1.size = cs.size := by
      simp only [World.shape?, hcs1] at s2
      injection s2 with s2; injection s2
    obtain ⟨m1, m2, m3⟩ := made_rep (n := 1) (by omega) (by omega) q6 hc1 hc2 q7
    rw [h2] at m1 m2 m3
    have zl : (madeCells z.cells (1 * 2)).toList.length = 1 * 2 := by simp [madeCells]
    have hh : ∀ o, (madeCells z.cells (1 * 2)).toList.getD o undef = (madeCells z.cells (1 * 2)).getD o undef := by intro o; simp
    have zrow : RowOf w1 (fun q => Own (without ι []) q ∧ (b.sub.isSome = true → ¬ ι.n [0] q)) b.sz (List.replicate 1 (mkVal ti.ag ti.zero)) fun o => (madeCells z.cells (1 * 2)).toList.getD o undef := by
      rw [hsz]
      refine ⟨by simpa using m1, fun o ho => ?_, fun a c ha hc => ?_⟩
      · show Value.oneCell' (List.getD _ o undef) = true
        rw [hh]; exact m2 o (by simpa using ho)
      · show Rep w1 _ _ _ (List.getD _ (a * 2 + c) undef)
        rw [hh]; exact m3 w1 _ noMap a c (by simpa using ha) hc
    have j1 : ∀ p, p < E1.length * b.sz → (if (n - 1) * b.sz ≤ p ∧ p < (n - 1) * b.sz + (madeCells z.cells (1 * 2)).toList.length then (madeCells z.cells (1 * 2)).toList.getD (p - (n - 1) * b.sz) undef else cs1.getD p undef) = cs1.getD p undef := fun p hp => by
      rw [hE1l] at hp
      rw [if_neg (by omega)]
    have j2 : ∀ p, p < (List.replicate 1 (mkVal ti.ag ti.zero)).length * b.sz → (if (n - 1) * b.sz ≤ E1.length * b.sz + p ∧ E1.length * b.sz + p < (n - 1) * b.sz + (madeCells z.cells (1 * 2)).toList.length then (madeCells z.cells (1 * 2)).toList.getD (E1.length * b.sz + p - (n - 1) * b.sz) undef else cs1.getD (E1.length * b.sz + p) undef) = (madeCells z.cells (1 * 2)).toList.getD p undef := fun p hp => by
      rw [hE1l]
      simp only [List.length_replicate] at hp
      rw [if_pos (by rw [zl]; rw [hsz] at hp ⊢; omega)]
      congr 1; omega
    have hroom2 : n * b.sz ≤ cs1.size := by
      rw [hcs1s]
      have := Nat.mul_le_mul_right b.sz hcap
      omega
    obtain ⟨w2, t1, t2, D2⟩ := row_storeN (P := P) (np := 0) (K := []) (N := ι.n [0]) (s' := b.sub) (es' := E1 ++ List.replicate 1 (mkVal ti.ag ti.zero)) (news := List.replicate 1 (mkVal ti.ag ti.zero)) (ns := (madeCells z.cells (1 * 2)).toList) (off := n - 1) I1 hb1 hv (by simp) hι hcs1 hb0 (by rw [zl]; simp [hsz]) (by
        simp only [List.length_replicate]
        rw [show n - 1 + 1 = n by omega]; exact hroom2) (by
        simp only [List.length_append, List.length_replicate, hE1l]
        rw [show n - 1 + 1 = n by omega]; exact hroom2) zrow.2.1 (fun _ h => .inl h) (fun _ => rfl) (fun _ _ h => h)
      (row_append (f := fun o => cs1.getD o undef) (h := fun o => (madeCells z.cells (1 * 2)).toList.getD o undef) (by rw [without_nil]; exact hrow1) zrow j1 j2)
      (fun t' ht' => (NestF.append (f := fun o => cs1.getD o undef) (h := fun o => (madeCells z.cells (1 * 2)).toList.getD o undef) (N2 := noN) (hrowN1 t' ht') (NestF.plain (by rw [hz]; rfl) (fun i hi => by
        have := m1 i (by simpa using hi)
        show _ = b.sz
        rw [hsz]; exact this)) (fun _ _ h => h) j1 j2).mono (fun c hc => hc.elim (fun h => h) fun h => h.elim) fun _ _ => rfl)
    rw [give_self] at D2
    have hrun : (Builtin.clear_ #[t] 0 #[.slice (if cap = k + (n - (k + 1)) then some ⟨blk, 0, none⟩ else (some (⟨blk, 0, none⟩ : Addr)).map (·.add ((k + (n - (k + 1))) * 2))) (n - (k + (n - (k + 1)))) (cap - (k + (n - (k + 1))))]).run P w1 = .ok (.tuple #[]) w2 := by
      rw [hkl, if_neg (by omega), show n - (n - 1) = 1 by omega]
      have hA : (some (⟨blk, 0, none⟩ : Addr)).map (·.add ((n - 1) * 2)) = some ⟨blk, (n - 1) * b.sz, none⟩ := by
        simp [hsz, add_at]
      rw [hA]
      have hzc : Builtin.zeroCells z.cells 1 = madeCells z.cells (1 * 2) := by rw [zeroCells_made, q6, hzl]
      unfold Builtin.clear_
      have t1' : (storeCells ⟨blk, (n - 1) * b.sz, none⟩ (madeCells z.cells 2).toList).run P w1 = .ok () w2 := by simpa using t1
      simp [underlying_run hu, zeroValue_run q1 q5, hzc, t1']
    have hwalk := hW blk 0 cap n k (k + 1) w w1 hcap (by omega) (by omega) happ w2 _ hrun
    rw [Nat.zero_mul, show ((k : Int) + 1) = ((k + 1 : Nat) : Int) by omega]
    refine hwalk.mono fun e w' hh => ?_
    obtain ⟨rfl, rfl⟩ := hh
    rw [hkl]
    refine ⟨_, noMap, rfl, ?_, rfl, fun q hq => ?_, fun q hq => by simp at hq, (fun _ _ _ h => (noFoot h).elim), (by intro _ _ _ h; cases h), (fun _ _ h => (noFoot h).elim), ?_⟩
    · exact ((drew_ext _ w).trans D.ext).trans D2.ext
    · have hq0 : q = 0 := by simp at hq; omega
      subst hq0
      have hB := D2.ups [0] _ (List.mem_singleton.2 rfl)
      have hels : E1 ++ List.replicate 1 (mkVal ti.ag ti.zero) = b.els.eraseIdx k ++ [.agg [.str [], .nil]] := by
        rw [hz, ← hE1, List.eraseIdx_eq_take_drop_succ]
        rfl
      rw [hels] at hB
      exact hB.mono (Ext.refl _ _) (fun b' _ h => h.resolve_right (by rintro ⟨_, h⟩; exact noFoot h)) (fun _ _ => rfl) rfl rfl fun _ _ h => h
    · have hs2 : w'.shape? blk = some (b.ty, cs.size) := by
        rw [← hcs1s]; exact t2
      have := Rep.ref (w := w') (O := Both ι noMap) (ι := jn ι noMap) (id := [0]) (off := 0) (len := n - 1) (cap := cap) (b := blk) (sz := b.sz) (n := cs.size) (ty := b.ty) (by simpa [jn, ownIx] using hι) hs2 (by omega) (by rw [Nat.zero_add]; exact hroom)
      rwa [Nat.zero_mul] at this
end Go.Proofs.YtenmfblmekilaaaGreat

namespace Go.Proofs.YtenmfblmekilaaaGreat
open Go Go.RowKit
set_option linter.unusedVariables false
def oneMap (c : Nat) : Map := ⟨fun x => if x = [0] then some (c, 1) else none, fun _ _ => False⟩
theorem one_foot {c k : Nat} {x : Id} (h : Foot (oneMap c) x k) : x = [0] ∧ k = c := by
  rcases h with ⟨s, h⟩ | h
  · replace h : (if x = [0] then some (c, 1) else none) = some (k, s) := h
    split at h
    · rename_i e; injection h with h; injection h with h _; exact ⟨e, h.symm⟩
    · cases h
  · exact h.elim
theorem mapI_getD (l : List Int) (i : Nat) (h : i < l.length) : (l.map (AV.int .i64)).getD i .dead = .int .i64 l[i] := by simp [h]
theorem nest_mark {P : Program} {f : FuncId} {np : Nat} {w : World} {ι : Map} {g : Heap} (I : Inv w g ι) {id : Id} {b : Blk} (hb : g id = some b) (hv : b.isVar = false) {t : TypeId} (hsub : b.sub = some t) {i j : Nat} {l l' : List Int} {cs0 : List AV} (hi : i < b.els.length) (hj : j < b.sz)
    (hag : b.els.getD i .dead = .agg cs0) (hcell : cs0.getD j .dead = .sl 1 (l.map (.int .i64))) (hne : l ≠ []) (hl : l'.length = l.length) {k k' : Int}
    (hS : Sound P f [.ref [0] 0 l.length, .int .i64 k] [([0], ⟨false, t, 1, l.map (.int .i64), none⟩)] { val := .int .i64 k', io := [⟨false, t, 1, l'.map (.int .i64), none⟩] })
    (hflat : ∀ i' j', i' < b.els.length → j' < b.sz → slC ((cellsOf (b.els.getD i' .dead)).getD j' .dead) = true) {blk sz : Nat} (hι : ι id = some (blk, sz)) :
    ∃ v, w.cell? ⟨blk, i * b.sz + j, none⟩ = some v ∧ v.oneCell' = true ∧ Calls P f #[v, .int .i64 k] w fun e w' => e = .returned (.int .i64 k') ∧ Done np g w ι { val := .int .i64 k', ups := [(id, { b with els := b.els.set i (.agg (cs0.set j (.sl 1 (l'.map (.int .i64))))) })] } (.int .i64 k') w' ι := by
  rcases I.blk id b hb with ⟨_, _, h3⟩ | ⟨blk', cs, h1, h2, h3, h4, h5, h6, h8, h7, h9⟩
  · rw [h3] at hι; cases hι
  rw [hι] at h1; injection h1 with h1; injection h1 with e1 e2; subst e1
  have hm := Nat.mul_le_mul_right b.sz (Nat.succ_le_of_lt hi)
  rw [Nat.succ_mul] at hm
  have hcl : cellsOf (b.els.getD i .dead) = cs0 := by rw [hag]; rfl
  have hc0 : cs0.length = b.sz := by rw [← hcl]; exact h5 i hi
  have hN := h9 hv t hsub
  have hlm : ∃ y ys, l.map (AV.int .i64) = y :: ys := by
    cases l with
    | nil => exact absurd rfl hne
    | cons y ys => exact ⟨_, _, rfl⟩
  have hsl : slAt b.sz b.els i j = some 1 := by
    unfold slAt
    rw [if_pos ⟨hi, hj⟩, hcl]
    unfold nestAt
    obtain ⟨y, ys, h⟩ := hlm
    rw [hcell, h]
  obtain ⟨hn1, c, len, cap, cs1, hve, hc1, hlc, hcap⟩ := hN.1 i j 1 hsl
  have hve : cs.getD (i * b.sz + j) undef = .slice (some ⟨c, 0, none⟩) len cap := hve
  have hn1 : ι.n id (blkOf (cs.getD (i * b.sz + j) undef)) := hn1
  have hr := h7 i j hi hj
  rw [hv, hcl, hcell] at hr
  have hblk : blkOf (cs.getD (i * b.sz + j) undef) = c := by rw [hve]; rfl
  have hnc : ι.n id c := by rw [← hblk]; exact hn1
  have hcb : blk ≠ c := fun e => I.sep _ _ _ hι (by rw [e]; exact hnc)
  refine ⟨cs.getD (i * b.sz + j) undef, cell?_of_cells h2 (by omega), h8 _ (by omega), ?_⟩
  generalize hvv : cs.getD (i * b.sz + j) undef = v at hr hve
  subst hve
  generalize hes : l.map (AV.int .i64) = es at hr
  cases hr with
  | slE => exact absurd (by simpa using hes) hne
  | sl cell hn hlen hcp hob hbb hmm hcc hcel hc11 hrr =>
  subst hes
  have hlen : len = l.length := by rw [hlen]; simp
  subst hlen
  have hcap' : cap ≤ cs1.size := by omega
  have hcs1 : ∀ a, a < l.length → cs1.getD a undef = cell a 0 := by
    intro a ha
    have h := hcel a 0 (by simpa using ha) (by omega)
    rw [cell?_of_cells hc1 (by omega)] at h
    injection h with h
    simpa using h
  have I1 : Inv w (heapOf [([0], ⟨false, t, 1, l.map (.int .i64), none⟩)]) (oneMap c) := by
    refine ⟨fun x b1 hx => ?_, fun x x' q h h' => by rw [(one_foot h).1, (one_foot h').1], fun _ _ _ _ h => h, fun x q h => ?_, fun x b1 hx => ?_⟩
    · simp only [heapOf, HU] at hx
      split at hx
      · rename_i e; subst e
        injection hx with hx; subst hx
        refine .inr ⟨c, cs1, rfl, hc1, by omega, (fun h => by cases h), fun a ha => ?_, by simp; omega, fun o ho => ?_, fun a d ha hd => ?_, .none rfl⟩
        · have ha : a < l.length := by simpa using ha
          show (cellsOf ((l.map (AV.int .i64)).getD a .dead)).length = 1
          rw [mapI_getD l a ha]; rfl
        · have ho : o < l.length := by simpa using ho
          rw [hcs1 o ho]; exact hc11 o 0 (by simpa using ho) (by omega)
        · have ha : a < l.length := by simpa using ha
          have hd : d = 0 := by simpa using hd
          subst hd
          have := hrr a 0 (by simpa using ha) (by omega)
          show Rep w _ noMap ((cellsOf ((l.map (AV.int .i64)).getD a .dead)).getD 0 .dead) (cs1.getD (a * 1 + 0) undef)
          rw [mapI_getD l a ha] at this ⊢
          rw [Nat.mul_one, Nat.add_zero, hcs1 a ha]
          generalize cell a 0 = y at this
          cases this
          exact .int _ _
      · cases hx
    · rw [(one_foot h).2]; exact (Array.getElem?_eq_some_iff.1 hc1).1
    · simp only [heapOf, HU] at hx
      split at hx
      · rename_i e; subst e; rfl
      · cases hx
  have hshape : w.shape? c = some (t, cs1.size) := by simp [World.shape?, hc1]
  refine (hS.2 w (oneMap c) #[.slice (some ⟨c, 0, none⟩) l.length cap, .int .i64 k] rfl I1 (fun a ha => ?_) (fun x q h => .inr (by rw [(one_foot h).1]; simp [keys])) (fun x hx => by simp [keys] at hx; subst hx; rfl) (by simp [keys]) (fun x hx => by simp [keys] at hx; subst hx; simp)).mono fun e w' hh => ?_
  · have : a = 0 ∨ a = 1 := by simp at ha; omega
    rcases this with rfl | rfl
    · have := Rep.ref (w := w) (O := Own (oneMap c)) (ι := oneMap c) (id := [0]) (off := 0) (len := l.length) (cap := cap) (b := c) (sz := 1) (n := cs1.size) (ty := t) rfl hshape hcp (by omega)
      simpa using this
    · simpa using Rep.int (w := w) (O := Own (oneMap c)) (ι := oneMap c) .i64 k
  obtain ⟨rv, ιo, rfl, L⟩ := hh
  have hval := L.val
  generalize hrv : rv = rv' at hval
  cases hval
  refine ⟨rfl, ?_⟩
  have hx : Ext (fun q => q = c) w w' := L.ext.mono fun q _ ⟨x, _, h⟩ => (one_foot h).2
  have hio := L.io 0 (by simp)
  simp only [List.map_cons, List.map_nil, List.getD_cons_zero] at hio
  rcases hio with ⟨q1, _, _⟩ | ⟨c2, cs2, q1, q2, _, _, _, q6, q8, q7, _⟩
  · have : l' = [] := by simpa using q1
    rw [this] at hl; exact absurd (List.eq_nil_of_length_eq_zero hl.symm) hne
  have q1 : (if ([0] : Id) = [0] then some (c, 1) else none) = some (c2, 1) := q1
  rw [if_pos rfl] at q1
  injection q1 with q1; injection q1 with q1 _; subst q1
  have q2 : w'.heap[c]? = some (.cells cs2 t (0, 0)) := q2
  have q6 : l'.length ≤ cs2.size := by simpa using q6
  have hsz2 : cs2.size = cs1.size := by
    have := hx.shape c (Array.getElem?_eq_some_iff.1 hc1).1
    simp only [World.shape?, q2, hc1] at this
    injection this with this; injection this
  have hbk : w'.heap[blk]? = w.heap[blk]? := hx.block blk (I.live' hι) hcb
  have hgd : ∀ i', (b.els.set i (.agg (cs0.set j (.sl 1 (l'.map (.int .i64)))))).getD i' .dead = if i' = i then .agg (cs0.set j (.sl 1 (l'.map (.int .i64)))) else b.els.getD i' .dead := by
    intro i'
    simp only [List.getD_eq_getElem?_getD, List.getElem?_set]
    by_cases h : i = i'
    · subst h; simp [hi]
    · have : ¬ i' = i := fun e => h e.symm
      simp [h, this]
  have hcg : ∀ i' j', i' < b.els.length → j' < b.sz → (i' = i ∧ j' = j ∧ (cellsOf ((b.els.set i (.agg (cs0.set j (.sl 1 (l'.map (.int .i64)))))).getD i' .dead)).getD j' .dead = .sl 1 (l'.map (.int .i64))) ∨ (¬ (i' = i ∧ j' = j) ∧ (cellsOf ((b.els.set i (.agg (cs0.set j (.sl 1 (l'.map (.int .i64)))))).getD i' .dead)).getD j' .dead = (cellsOf (b.els.getD i' .dead)).getD j' .dead) := by
    intro i' j' hi' hj'
    rw [hgd]
    by_cases h : i' = i
    · subst h
      rw [if_pos rfl, hcl]
      simp only [cellsOf, List.getD_eq_getElem?_getD, List.getElem?_set]
      by_cases h2 : j = j'
      · subst h2; left; simp [hc0, hj]
      · right; simp [h2]; exact fun e => h2 e.symm
    · rw [if_neg h]; exact .inr ⟨fun e => h e.1, rfl⟩
  have hlm' : ∃ y ys, l'.map (AV.int .i64) = y :: ys := by
    cases l' with
    | nil => exact absurd (List.eq_nil_of_length_eq_zero (by simpa using hl.symm)) hne
    | cons y ys => exact ⟨_, _, rfl⟩
  have hsame : ∀ i' j', slAt b.sz (b.els.set i (.agg (cs0.set j (.sl 1 (l'.map (.int .i64)))))) i' j' = slAt b.sz b.els i' j' := by
    intro i' j'
    unfold slAt
    rw [List.length_set]
    by_cases hc : i' < b.els.length ∧ j' < b.sz
    · rw [if_pos hc, if_pos hc]
      unfold nestAt
      rcases hcg i' j' hc.1 hc.2 with ⟨rfl, rfl, h⟩ | ⟨_, h⟩
      · rw [h, hcl, hcell]
        obtain ⟨y, ys, e⟩ := hlm
        obtain ⟨y', ys', e'⟩ := hlm'
        rw [e, e']
      · rw [h]
    · rw [if_neg hc, if_neg hc]
  refine ⟨hx.mono fun q _ hq => ⟨id, by simp [keys], by subst hq; exact .inr hnc⟩, .int _ _, fun x b1 hx1 => ?_, fun _ _ _ => ⟨rfl, rfl⟩, fun _ _ _ => rfl, fun _ _ _ h => .inl h, fun _ _ h => .inl h, I.inj, I.sep, fun x q h => Nat.lt_of_lt_of_le (I.live x q h) hx.size, (by intro _ h; cases h), fun x _ hu => ?_, by simp [keys], fun x hx1 => ?_, fun _ _ => ⟨rfl, rfl⟩⟩
  · simp at hx1; obtain ⟨rfl, rfl⟩ := hx1
    refine .inr ⟨blk, cs, hι.trans (by rw [e2]), by rw [hbk]; exact h2, h3, (fun h => absurd (hv.symm.trans h) (by simp)), fun i' hi' => ?_, by simpa using h6, by simpa using h8, fun i' j' hi' hj' => ?_, fun _ t' ht' => ?_⟩
    · simp only [List.length_set] at hi'
      simp only
      rw [hgd]
      split
      · simp [cellsOf, hc0]
      · exact h5 i' hi'
    · simp only [List.length_set] at hi'
      simp only at hj' ⊢
      rw [hv]
      rcases hcg i' j' hi' hj' with ⟨rfl, rfl, h⟩ | ⟨hne', h⟩
      · rw [h, hvv]
        have hl2 : (l'.map (AV.int .i64)).length = l'.length := by simp
        refine .sl (fun a _ => cs2.getD a undef) (by obtain ⟨y, ys, e⟩ := hlm'; rw [e]; simp) (by rw [hl2]; exact hl.symm) hcp (fun ho => ho.2 (by show b.sub.isSome = true; rw [hsub]; rfl) hnc) (Array.getElem?_eq_some_iff.1 q2).1 (by omega) (fun a ha => ?_) (fun a d ha hd => ?_) (fun a d ha hd => ?_) (fun a d ha hd => ?_)
        · rw [hl2] at ha; rw [mapI_getD l' a ha]; rfl
        · rw [hl2] at ha
          have hd : d = 0 := by omega
          subst hd
          have := cell?_of_cells q2 (show a < cs2.size by omega)
          simpa using this
        · rw [hl2] at ha
          exact q8 a (by simpa using ha)
        · rw [hl2] at ha
          have hd : d = 0 := by omega
          subst hd
          have := q7 a 0 (by simpa using ha) (by simp)
          simp only [inMap, Nat.mul_one, Nat.add_zero] at this
          rw [mapI_getD l' a ha] at this ⊢
          simp only [cellsOf, List.getD_cons_zero] at this ⊢
          generalize cs2.getD a undef = y at this
          cases this
          exact .int _ _
      · rw [h]
        have r := h7 i' j' hi' hj'
        rw [hv] at r
        have hf := hflat i' j' hi' hj'
        have nst : ∀ m y ys, (cellsOf (b.els.getD i' .dead)).getD j' .dead = .sl m (y :: ys) → slAt b.sz b.els i' j' = some m := by
          intro m y ys e
          unfold slAt
          rw [if_pos ⟨hi', hj'⟩]
          unfold nestAt
          rw [e]
        have r1 : Rep w (fun q => q = c) noMap ((cellsOf (b.els.getD i' .dead)).getD j' .dead) (cs.getD (i' * b.sz + j') undef) := Rep.nested r hf fun m y ys e hq => by
          have hs := nst m y ys e
          have := hN.2 i' j' i j (by rw [hs]; rfl) (by rw [hsl]; rfl) (by
            show blkOf (Array.getD _ _ _) = blkOf (Array.getD _ _ _)
            rw [hq, hvv]; rfl)
          exact hne' this
        have r2 := r1.mono hx (fun _ _ h => h) noMap fun _ _ h => h
        refine Rep.nested r2 hf fun m y ys e hq => ?_
        exact hq.2 (by show b.sub.isSome = true; rw [hsub]; rfl) (hN.1 i' j' m (nst m y ys e)).1
    · refine ⟨fun i' j' m hs => ?_, fun i' j' i'' j'' hs hs' e => ?_⟩
      · simp only at hs
        rw [hsame] at hs
        have ht'' : t' = t := by
          have : b.sub = some t' := ht'
          rw [hsub] at this; injection this with this; exact this.symm
        subst ht''
        obtain ⟨a1, c3, len3, cap3, cs3, a2, a3, a4, a5⟩ := hN.1 i' j' m hs
        refine ⟨a1, ?_⟩
        by_cases h3 : c3 = c
        · subst h3
          rw [hc1] at a3
          injection a3 with a3; injection a3 with a3
          subst a3
          exact ⟨c3, len3, cap3, cs2, a2, q2, a4, by rw [hsz2]; exact a5⟩
        · exact ⟨c3, len3, cap3, cs3, a2, by rw [hx.block c3 (Array.getElem?_eq_some_iff.1 a3).1 h3]; exact a3, a4, a5⟩
      · simp only at hs hs'
        rw [hsame] at hs hs'
        exact hN.2 _ _ _ _ hs hs' e
  · simp [keys] at hu; subst hu; exact ⟨rfl, rfl, by rw [hb]; rfl⟩
  · simp [keys] at hx1; subst hx1; exact I.real _ b hb
end Go.Proofs.YtenmfblmekilaaaGreat

namespace Go.Proofs.YtenmfblmekilaaaGreat
open Go Go.RowKit
set_option maxRecDepth 100000
set_option maxHeartbeats 4000000
set_option linter.unusedVariables false
set_option linter.unusedSimpArgs false
theorem szTN_app (a b : List TN) : szTN (a ++ b) = szTN a + szTN b := by
  induction a with
  | nil => simp [szTN]
  | cons x a ih => simp [szTN, ih]; omega
theorem mkTN_app (a b : List TN) : ∀ k : Int, mkTN k (a ++ b) = mkTN k a ++ mkTN (k + szTN a) b := by
  induction a with
  | nil => intro k; simp [mkTN, szTN]
  | cons x a ih =>
    intro k
    simp only [List.cons_append, mkTN, ih, szTN]
    congr 3
    push_cast; omega
theorem mkTN_length (l : List TN) : ∀ k : Int, (mkTN k l).length = l.length := by
  induction l with
  | nil => intro k; rfl
  | cons x l ih => intro k; simp [mkTN, ih]
section
variable {C : Ctx} {an : Ann}
theorem exec_run (c : Code) (k : Nat) (σ : St) : exec C.P (E C) C.A an c k σ = run C an [.code c k] σ := by
  simp only [run, ex]
  cases exec C.P (E C) C.A an c k σ with
  | none => rfl
  | some r => obtain ⟨e, σ'⟩ := r; cases e <;> simp [unw]
end
theorem Mid.begin0 {np nt : Nat} {args : List AV} {H : List (Id × Blk)} {w : World} {ι : Map} {vals : Array Value} (hnp : np = args.length) (hlen : args.length = vals.size) (I : Inv w (heapOf H) ι) (hargs : ∀ i, i < args.length → Rep w (Own ι) ι (args.getD i .dead) (vals.getD i undef)) (hin : ∀ id k, Foot ι id k → ph id = true ∨ id ∈ keys H) (hhead : ∀ id, id ∈ keys H → id.headD 0 < args.length) :
    Mid np nt w ι w ⟨slotsOf 0 args, heapOf H⟩ ι { tmps := vals ++ Array.replicate (nt - vals.size) undef, defers := [] } := by
  refine ⟨⟨by simp; omega, I, fun s => ?_, fun id p hp => ?_, fun _ _ => ⟨rfl, rfl⟩, fun _ _ _ => ⟨rfl, rfl⟩, rfl⟩, Ext.refl _ _, fun _ _ h _ => h, fun id k hp => (hin id k hp).imp (fun h => h) fun h => by rw [hnp]; exact hhead id h⟩
  · simp only [slotsOf_at, Nat.zero_add, Nat.sub_zero]
    split
    · rename_i hs
      have hs' : s < vals.size := by omega
      have : (vals ++ Array.replicate (nt - vals.size) undef).getD s undef = vals.getD s undef := by
        simp only [Array.getD_eq_getD_getElem?]
        rw [Array.getElem?_append_left hs']
      rw [this]; exact hargs s hs.2
    · exact .dead _
  · rcases hin id p hp with h1 | h1
    · exact .inl h1
    · obtain ⟨b, hb⟩ := heapOf_mem h1
      right; simp only [hb]; rfl
theorem piece {an : Ann} {nt : Nat} {w0 : World} {ι0 : Map} (hO : OpsOK CZ.P (E CZ) CZ.A an) {c : Code} {σ τ : St} {e : Ex} {w : World} {ι : Map} {a : Act} {Q : Exit → Act → World → Prop} (M : Mid an.np nt w0 ι0 w σ ι a) (hr : run CZ an [.code c 0] σ = some (e, τ)) (hs : slotsIn nt c = true) (hd : DrawsOK CZ.P (E CZ) CZ.A an c) (hQ : Comes1 an.np nt w0 ι0 Q e τ) : c.wp CZ.P Q a w :=
  exec_sound hO c 0 σ e τ ((exec_run c 0 σ).trans hr) hs hd w ι a M Q hQ
theorem Mid.fewer {np nt : Nat} {w0 : World} {ι0 : Map} {w : World} {σ τ : St} {ι : Map} {a : Act} (M : Mid np nt w0 ι0 w σ ι a) (hs : ∀ s, τ.slot s = .dead ∨ τ.slot s = σ.slot s) (hh : τ.heap = σ.heap) : Mid np nt w0 ι0 w τ ι a := by
  have := M.weak (τ := τ) (fun _ => false) (fun s => (hs s).imp (fun h => h) fun h => by rw [h, kill_nil']) (fun id => .inr ⟨rfl, by rw [hh]; cases σ.heap id <;> simp [killB_nil]⟩)
  rwa [weakM_none] at this
theorem rops_pre {P : Program} {E : Oracle} {A : FuncId → Ann} {an : Ann} {nt : Nat} {w0 : World} {ι0 : Map} (hO : OpsOK P E A an) (all : List Oper) (Q : Exit → Act → World → Prop) (rest : List Oper) (os : List Oper) : ∀ (σ σ' : St) (w : World) (ι : Map) (a : Act), rops P E A an all os σ = some σ' → Mid an.np nt w0 ι0 w σ ι a → (∀ o ∈ os, dstIn nt o) →
    (∀ w ι a, Mid an.np nt w0 ι0 w σ' ι a → wpList P all.toArray Q rest a w) → wpList P all.toArray Q (os ++ rest) a w := by
  induction os with
  | nil => intro σ σ' w ι a e M _ hQ; unfold rops at e; injection e with e; subst e; exact hQ _ _ _ M
  | cons o os ih =>
    intro σ σ' w ι a e M hd hQ
    unfold rops at e
    cases hg : guarded all o σ (doOp P E A an o σ) with
    | none => simp [hg] at e
    | some τ =>
      simp only [hg] at e
      show wpList P all.toArray Q (o :: (os ++ rest)) a w
      unfold wpList
      rcases wanted_of M hg with ⟨h1, h2⟩ | ⟨h1, h2⟩
      · rw [if_pos h1]
        exact .inl (doOp_sound hO h2 M (hd o (by simp)) _ _ fun w' ι' a' M' => ih τ σ' w' ι' a' e M' (fun x hx => hd x (by simp [hx])) hQ)
      · rw [h1, if_neg (by simp)]
        subst h2
        exact ih _ σ' w ι _ e (M.dead o.dst (hd o (by simp))) (fun x hx => hd x (by simp [hx])) hQ
theorem ro_rops {C : Ctx} {an : Ann} {ops os : List Oper} {σ τ : St} (h : ro C an ops os [] σ = some (.normal, τ)) : rops C.P (E C) C.A an ops os σ = some τ := by
  unfold ro at h
  cases hr : rops C.P (E C) C.A an ops os σ with
  | none => simp [hr] at h
  | some σ' => simp only [hr, run_nil] at h; injection h with h; injection h with _ h; rw [h]
theorem rops_take {an : Ann} {nt : Nat} {w0 : World} {ι0 : Map} (hO : OpsOK CZ.P (E CZ) CZ.A an) (n : Nat) {ops : Array Oper} {os : List Oper} {σ τ : St} {w : World} {ι : Map} {a : Act} {Q : Exit → Act → World → Prop} (M : Mid an.np nt w0 ι0 w σ ι a) (hr : ro CZ an ops.toList (os.take n) [] σ = some (.normal, τ)) (hd : ∀ o ∈ os.take n, dstIn nt o) (hQ : ∀ w ι a, Mid an.np nt w0 ι0 w τ ι a → wpList CZ.P ops Q (os.drop n) a w) : wpList CZ.P ops Q os a w := by
  have := rops_pre hO ops.toList Q (os.drop n) (os.take n) σ τ w ι a (ro_rops hr) M hd (by simpa using hQ)
  rw [List.take_append_drop] at this
  simpa using this
theorem wpl_call {P : Program} {ops : Array Oper} {Q : Exit → Act → World → Prop} {o : Oper} {l : List Oper} {a : Act} {w : World} {f : FuncId} {args : Array Value} (hg : o.guard = none) (hr : (execOp a.eval o).run P w = .ok (.enter f args) w) (h : Calls P f args w fun e w' => ∃ v, e = .returned v ∧ wpList P ops Q l (a.put o.dst v) w') : wpList P ops Q (o :: l) a w := by
  unfold wpList
  rw [if_pos (by simp [Region.wanted, hg])]
  refine .inl ?_
  unfold Oper.wp
  rw [hr, Oper.upon_enter]
  exact h.mono fun e w' hh => by obtain ⟨v, rfl, hh⟩ := hh; exact hh
theorem run_enter {P : Program} {w : World} {a : Act} {o : Oper} {f : FuncId} {fn : Func} {c : Code} {x y : Operand} {u v : Value} {ats : Array TypeId} (ho : o.op = .call { callee := .value (.func f), args := #[x, y], argTypes := ats }) (hfn : P.funcs[f]? = some fn) (hn : fn.name ≠ "runtime.NumGoroutine") (hb : fn.body = some c) (hx : a.eval x = u) (hy : a.eval y = v) : (execOp a.eval o).run P w = .ok (.enter f #[u, v]) w := by
  unfold execOp
  have hev : a.eval (.func f) = .func (.func f) #[] #[] := rfl
  simp only [ho, resolve, hev, Deferred.ofValue, Sem.run_bind, Sem.run_pure, Result.andThen_ok, invoke]
  simp [callFunc, hfn, hn, hb, hx, hy]
theorem eTN_flat (l : List TN) : ∀ i' j', i' < (l.map eTN).length → j' < 2 → slC ((cellsOf ((l.map eTN).getD i' .dead)).getD j' .dead) = true := by
  intro i' j' hi hj
  have hi : i' < l.length := by simpa using hi
  have e : (l.map eTN).getD i' .dead = eTN l[i'] := by simp [hi]
  rw [e]
  have : j' = 0 ∨ j' = 1 := by omega
  have hs : ∀ ns : List Int, AV.sharesL (ns.map (AV.int .i64)) = false := by
    intro ns
    induction ns with
    | nil => rfl
    | cons n ns ih => simp [AV.sharesL, AV.shares, ih]
  rcases this with rfl | rfl
  · rfl
  · simp [eTN, cellsOf, slC, hs]
/-- The walk's state, 'p' marked. -/
def stMS (k : Int) (n : Nat) (p q : List TN) : St := ⟨SS [(0, .ref [0] 0 n), (1, .int .i64 (k + szTN p)), (5, .int .i64 p.length)], HS [([0], ⟨false, 47, 2, (mkTN k p ++ q).map eTN, some 3⟩)]⟩
theorem markSn_walk (l : List TN) (k : Int) (hk : 0 < k ∧ k + szTN l ≤ 1099511627776) (hll : l.length ≤ 1073741824) : Sound Tryz.prog 34 [.ref [0] 0 l.length, .int .i64 k] [([0], ⟨false, 47, 2, l.map eTN, some 3⟩)]
    { val := .int .i64 (k + szTN l), io := [⟨false, 47, 2, (mkTN k l).map eTN, some 3⟩] } := by
  refine ⟨⟨_, Tryz.func34, by decide, rfl⟩, fun w ι vals hlen I hargs hin hreal hnd hhead => ?_⟩
  have hOps : OpsOK CZ.P (E CZ) CZ.A an34 := aop_sound CZ_sound
  have M := Mid.begin0 (np := an34.np) (nt := 28) rfl hlen I hargs hin hhead
  refine calls_of_wp Tryz.func34 rfl ?_
  refine wp_seq (piece hOps M (e := .normal) (τ := ?_) ?_ ?_ ?_ ?_)
  rotate_left
  · simp [go_sem]; exact rfl
  · rfl
  · trivial
  intro w1 ι1 a1 M1
  refine wp_seq (wp_seq (piece hOps M1 (e := .normal) (τ := ?_) ?_ ?_ ?_ ?_))
  rotate_left
  · simp [go_sem]; exact rfl
  · rfl
  · trivial
  intro w2 ι2 a2 M2
  refine wp_block ?_
  have M3 : Mid an34.np 28 w ι w2 (stMS k l.length [] l) ι2 a2 := by
    refine M2.fewer (fun s => ?_) (by simp [stMS, mkTN, HS])
    simp only [stMS, SS, U, D0, szTN, List.length_nil]
    by_cases h0 : s = 0 <;> by_cases h1 : s = 1 <;> by_cases h5 : s = 5 <;> simp_all
  refine wp_loop (fun a w' => ∃ p q ι', l = p ++ q ∧ Mid an34.np 28 w ι w' (stMS k l.length p q) ι' a) (fun a _ => match a.tmps.getD 5 undef with
    | .int _ z => l.length - z.toNat
    | _ => 0) ⟨[], l, ι2, rfl, M3⟩ ?_
  clear M M1 M2 M3 a1 a2 w1 w2 ι1 ι2
  rintro a1 w1 ⟨p, q, ι1, hpq, M1⟩
  have hm : a1.tmps.getD 5 undef = .int .i64 p.length := by
    have := M1.rel.slots 5
    simp only [stMS, SS, U] at this
    simp at this
    generalize hx : a1.tmps.getD 5 undef = x
    have hx' : a1.tmps[5]?.getD undef = x := by simpa using hx
    rw [hx'] at this
    cases this
    rfl
  have hpl : p.length ≤ l.length := by rw [hpq]; simp
  have hsz : szTN l = szTN p + szTN q := by rw [hpq, szTN_app]
  cases q with
  | nil =>
    have hl : l = p := by rw [hpq]; simp
    refine wp_seq (piece hOps M1 (e := .exit 0) (τ := ?_) ?_ ?_ ?_ ?_)
    rotate_left
    · simp [go_sem, stMS, hl]; exact rfl
    · rfl
    · exact ⟨trivial, trivial, trivial⟩
    intro w2 ι2 a2 M2
    show Code.wp _ _ _ _ _
    refine piece hOps M2 (e := .ret) (τ := ?_) ?_ ?_ ?_ ?_
    rotate_left
    · simp [go_sem]; exact rfl
    · rfl
    · exact ⟨trivial, trivial⟩
    intro w3 ι3 a3 M3
    obtain ⟨rv, ιo, hr, hL⟩ := answer_sound (fn := Tryz.f34) (r := { val := .int .i64 (k + szTN l), io := [⟨false, 47, 2, (mkTN k l).map eTN, some 3⟩] }) M3 (by simp [go_sem, hl, mkTN_length]) hin hreal (fun id hid => hhead id hid)
    exact ⟨M3.rel.defers, rv, hr, rv, ιo, rfl, hL⟩
  | cons x q =>
    have hlt : p.length < l.length := by rw [hpq]; simp
    have hszx : szTN (x :: q) = 1 + x.2.length + szTN q := rfl
    have hg : ∀ v : AV, (List.map eTN (mkTN k p) ++ v :: List.map eTN q)[p.length]? = some v := fun v => by
      rw [List.getElem?_append_right (by simp [mkTN_length])]; simp [mkTN_length]
    have hg' : ∀ (v : AV) (h : p.length < (List.map eTN (mkTN k p) ++ v :: List.map eTN q).length), (List.map eTN (mkTN k p) ++ v :: List.map eTN q)[p.length]'h = v := fun v h => by
      have := hg v
      rw [List.getElem?_eq_getElem h] at this
      exact Option.some.inj this
    have hset : ∀ v v' : AV, (List.map eTN (mkTN k p) ++ v :: List.map eTN q).set p.length v' = List.map eTN (mkTN k p) ++ v' :: List.map eTN q := fun v v' => at_set _ _ _ _ _ (by simp [mkTN_length])
    have e1 := markText_Z (k + szTN p) (by omega)
    refine wp_seq (piece hOps M1 (e := .normal) (τ := ?_) ?_ ?_ ?_ ?_)
    rotate_left
    · simp [go_sem, stMS, hlt]; exact rfl
    · rfl
    · exact ⟨trivial, trivial, trivial⟩
    intro w2 ι2 a2 M2
    refine wp_seq (wp_block ?_)
    refine wp_seq (piece hOps M2 (e := .normal) (τ := ?_) ?_ ?_ ?_ ?_)
    rotate_left
    · simp [go_sem, hlt, e1, hg, hg', hset, eTN, mkTN_length]; exact rfl
    · rfl
    · trivial
    intro w3 ι3 a3 M3
    show Code.wp _ _ _ _ _
    refine wp_seq (piece hOps M3 (e := .normal) (τ := ?_) ?_ ?_ ?_ ?_)
    rotate_left
    · simp [go_sem, wrap_id (n := k + szTN p + 1) (by omega)]; exact rfl
    · rfl
    · trivial
    intro w4 ι4 a4 M4
    show Code.wp _ _ _ _ _
    refine wp_region_list ?_
    refine rops_take hOps 4 (τ := ?_) M4 ?_ ?_ ?_
    rotate_left
    · simp [go_sem, mkTN_length, hlt]; exact rfl
    · simp [dstIn]
    intro w5 ι5 a5 M5
    have hx23 := M5.rel.slots 23
    simp only [go_sem] at hx23
    simp at hx23
    have hx1 := M5.rel.slots 1
    simp only [go_sem] at hx1
    simp at hx1
    generalize hv23 : a5.tmps[23]?.getD undef = v23 at hx23
    generalize hv1 : a5.tmps[1]?.getD undef = v1 at hx1
    cases hx1
    cases hx23 with
    | ptr hι =>
    rename_i blk sz
    have hsz5 := M5.rel.size
    have e23 : a5.eval (.tmp 23) = .pointer (some ⟨blk, p.length * sz + 1, none⟩) := by simp [Act.eval, hv23]
    have e1' : a5.eval (.tmp 1) = .int .i64 (k + szTN p + 1) := by simp [Act.eval, hv1]
    have tS : Tryz.prog.underlying 22 = some (.slice 3) := by kernel_rfl
    have tA : tagg Tryz.prog 22 = false := by kernel_rfl
    -- what a call of the mark leaves
    obtain ⟨v, hcv, ⟨D⟩⟩ : ∃ v, w5.cell? ⟨blk, p.length * sz + 1, none⟩ = some v ∧ Nonempty (PLift (Calls Tryz.prog 33 #[v, .int .i64 (k + szTN p + 1)] w5 fun e w' => e = .returned (.int .i64 (k + szTN p + 1 + x.2.length)) ∧ Done an34.np (HS [([0], ⟨false, 47, 2, List.map eTN (mkTN k p) ++ .agg [.str (mt (k + szTN p)), .sl 1 (x.2.map (.int .i64))] :: List.map eTN q, some 3⟩)]) w5 ι5 { val := .int .i64 (k + szTN p + 1 + x.2.length), ups := [([0], ⟨false, 47, 2, List.map eTN (mkTN k p) ++ .agg [.str (mt (k + szTN p)), .sl 1 ((upI (k + szTN p + 1) x.2.length).map (.int .i64))] :: List.map eTN q, some 3⟩)] } (.int .i64 (k + szTN p + 1 + x.2.length)) w' ι5)) := by
      have hb5 : (HS [([0], ⟨false, 47, 2, List.map eTN (mkTN k p) ++ .agg [.str (mt (k + szTN p)), .sl 1 (x.2.map (.int .i64))] :: List.map eTN q, some 3⟩)]) [0] = some ⟨false, 47, 2, List.map eTN (mkTN k p) ++ .agg [.str (mt (k + szTN p)), .sl 1 (x.2.map (.int .i64))] :: List.map eTN q, some 3⟩ := by simp [HS, HU]
      have I5 : Inv w5 (HS [([0], ⟨false, 47, 2, List.map eTN (mkTN k p) ++ .agg [.str (mt (k + szTN p)), .sl 1 (x.2.map (.int .i64))] :: List.map eTN q, some 3⟩)]) ι5 := M5.rel.inv
      obtain ⟨hsz2, _, cs, hcs, hcl, hrow, _⟩ := blk_row I5 hb5 rfl hι
      have hsz2 : sz = 2 := hsz2
      subst hsz2
      have hlen : (List.map eTN (mkTN k p) ++ .agg [.str (mt (k + szTN p)), .sl 1 (x.2.map (.int .i64))] :: List.map eTN q).length = l.length := by rw [hpq]; simp [mkTN_length]
      have hag : (List.map eTN (mkTN k p) ++ .agg [.str (mt (k + szTN p)), .sl 1 (x.2.map (.int .i64))] :: List.map eTN q).getD p.length .dead = .agg [.str (mt (k + szTN p)), .sl 1 (x.2.map (.int .i64))] := by
        rw [List.getD_eq_getElem?_getD, hg]; rfl
      have hall : List.map eTN (mkTN k p) ++ .agg [.str (mt (k + szTN p)), .sl 1 (x.2.map (.int .i64))] :: List.map eTN q = (mkTN k p ++ (mt (k + szTN p), x.2) :: q).map eTN := by simp [eTN]
      by_cases hx0 : x.2 = []
      · have hcl' : (List.map eTN (mkTN k p) ++ .agg [.str (mt (k + szTN p)), .sl 1 (x.2.map (.int .i64))] :: List.map eTN q).length * 2 ≤ cs.size := hcl
        have hcell : w5.cell? ⟨blk, p.length * 2 + 1, none⟩ = some (cs.getD (p.length * 2 + 1) undef) := cell?_of_cells hcs (by rw [hlen] at hcl'; omega)
        have hr := hrow.2.2 p.length 1 (by rw [hlen]; exact hlt) (by show 1 < 2; omega)
        simp only at hr
        rw [hag] at hr
        simp only [cellsOf, List.getD_cons_succ, List.getD_cons_zero, hx0, List.map_nil] at hr
        refine ⟨_, hcell, ⟨⟨?_⟩⟩⟩
        have hS := CZ_sound _ _ _ _ (markIntS_none (k + szTN p + 1))
        have hno : ∀ q : Nat, Own noMap q → False := by rintro q ⟨i, h⟩; exact noFoot h
        refine (hS.2 w5 noMap #[cs.getD (p.length * 2 + 1) undef, .int .i64 (k + szTN p + 1)] rfl ⟨(fun id b hb => by cases hb), (fun id id' q h => (noFoot h).elim), (fun id q s h => by cases h), (fun id q h => (noFoot h).elim), (fun id b hb => by cases hb)⟩ (fun a ha => ?_) (fun id q h => (noFoot h).elim) (fun id h => by cases h) List.nodup_nil (fun id h => by cases h)).mono fun e w' hh => ?_
        · have : a = 0 ∨ a = 1 := by simp at ha; omega
          rcases this with rfl | rfl
          · have := hr.less (O' := Own noMap) fun q hq => (hno q hq).elim
            simpa using this
          · simpa using Rep.int (w := w5) (O := Own noMap) (ι := noMap) .i64 (k + szTN p + 1)
        · obtain ⟨rv, ιo, rfl, L⟩ := hh
          have hval := L.val
          generalize hrv : rv = rv' at hval
          cases hval
          have hx : Ext (fun _ => False) w5 w' := L.ext.mono fun q _ ⟨i, h, _⟩ => by cases h
          have e0 : (k + szTN p + 1 + x.2.length) = k + szTN p + 1 := by rw [hx0]; simp
          rw [e0]
          refine ⟨rfl, ?_⟩
          have e2 : (upI (k + szTN p + 1) x.2.length).map (AV.int .i64) = x.2.map (.int .i64) := by rw [hx0]; rfl
          rw [e2]
          exact ⟨hx.mono fun _ _ h => h.elim, .int _ _, fun i c hc => by
            simp at hc; obtain ⟨rfl, rfl⟩ := hc
            exact (I5.blk _ _ hb5).mono (hx.mono fun _ _ h => h.elim) (fun _ _ h => h) (fun q hq => hx.block q (I5.live _ _ hq) fun h => h) rfl rfl fun _ _ h => h, fun _ _ _ => ⟨rfl, rfl⟩, fun _ _ _ => rfl, fun _ _ _ h => .inl h, fun _ _ h => .inl h, I5.inj, I5.sep, fun i q h => Nat.lt_of_lt_of_le (I5.live i q h) hx.size, (by intro _ h; cases h), fun i _ hu => by simp [keys] at hu; subst hu; exact ⟨rfl, rfl, by rw [hb5]; rfl⟩, by simp [keys], fun i hi => by simp [keys] at hi; subst hi; rfl, fun _ _ => ⟨rfl, rfl⟩⟩
      · obtain ⟨v, n1, n2, n3⟩ := nest_mark (P := Tryz.prog) (f := 33) (np := an34.np) I5 hb5 rfl (t := 3) rfl (i := p.length) (j := 1) (l := x.2) (l' := upI (k + szTN p + 1) x.2.length) (by rw [hlen]; exact hlt) (by show 1 < 2; omega) hag rfl hx0 (upI_length _ _) (CZ_sound _ _ _ _ (markIntS_Z x.2 (k + szTN p + 1) (by omega))) (by
          have := eTN_flat (mkTN k p ++ (mt (k + szTN p), x.2) :: q)
          rw [← hall] at this; exact this) hι
        refine ⟨v, n1, ⟨⟨n3.mono fun e w' hh => ?_⟩⟩⟩
        obtain ⟨h1, h2⟩ := hh
        refine ⟨h1, ?_⟩
        have e3 : (List.map eTN (mkTN k p) ++ .agg [.str (mt (k + szTN p)), .sl 1 (x.2.map (.int .i64))] :: List.map eTN q).set p.length (.agg ([.str (mt (k + szTN p)), .sl 1 (x.2.map (.int .i64))].set 1 (.sl 1 ((upI (k + szTN p + 1) x.2.length).map (.int .i64))))) = List.map eTN (mkTN k p) ++ .agg [.str (mt (k + szTN p)), .sl 1 ((upI (k + szTN p + 1) x.2.length).map (.int .i64))] :: List.map eTN q := hset _ _
        rw [← e3]
        exact h2
    obtain ⟨hC⟩ := D
    have hload : (loadVar 22 ⟨blk, p.length * sz + 1, none⟩).run Tryz.prog w5 = .ok v w5 := by
      unfold loadVar
      rw [Sem.run_bind, isAgg_run tS, Result.andThen_ok, tA]
      simp [hcv]
    have h4 : ∀ o : Oper, o.op = .load 22 (.tmp 23) → (execOp a5.eval o).run Tryz.prog w5 = .ok (.value v) w5 := by
      intro o ho
      unfold execOp
      simp only [ho]
      rw [Sem.run_bind]
      have : (Instr.loadAt 22 (a5.eval (.tmp 23))).run Tryz.prog w5 = .ok v w5 := by
        rw [e23]; simp [Instr.loadAt, Instr.sureAddr, hload]
      rw [this]; rfl
    refine wpl rfl (h4 _ rfl) ?_
    refine wpl rfl (move_op (X := .int .i64 (k + szTN p + 1)) rfl (by simp [eval_put, e1'])) ?_
    refine wpl_call rfl (run_enter rfl Tryz.func33 (by decide) rfl (u := v) (v := .int .i64 (k + szTN p + 1)) (by simp [eval_put, put_size]; intro h; omega) (by simp [eval_put, put_size]; intro h; omega)) ?_
    refine hC.mono fun e w' hh => ?_
    obtain ⟨rfl, D⟩ := hh
    refine ⟨_, rfl, ?_⟩
    have M6 := M5.app (Done.pure (np := an34.np) M5.rel.inv (.dead v)) (fun _ h => h) (some 24) (fun s hs => by simp at hs; omega)
    have M7 := M6.app (Done.pure (np := an34.np) M6.rel.inv (.int .i64 (k + szTN p + 1))) (fun _ h => h) (some 25) (fun s hs => by simp at hs; omega)
    have M8 := M7.app D (fun i hi => hi) (some 26) (fun s hs => by simp at hs; omega)
    refine rops_take hOps 1 (τ := ?_) M8 ?_ ?_ ?_
    rotate_left
    · simp [go_sem]; exact rfl
    · simp [dstIn]
    intro w9 ι9 a9 M9
    show Code.wp _ _ _ _ _
    refine piece hOps M9 (e := .normal) (τ := ?_) ?_ ?_ ?_ ?_
    rotate_left
    · simp [go_sem, wrap_id (n := (p.length : Int) + 1) (by omega)]; exact rfl
    · rfl
    · trivial
    intro w10 ι10 a10 M10
    have hs1 : szTN (p ++ [x]) = szTN p + 1 + x.2.length := by simp [szTN_app, szTN]; omega
    have M11 : Mid an34.np 28 w ι w10 (stMS k l.length (p ++ [x]) q) ι10 a10 := by
      refine M10.fewer (fun s => ?_) ?_
      · simp only [stMS, SS, U, D0, hs1, List.length_append, List.length_cons, List.length_nil]
        by_cases h0 : s = 0 <;> by_cases h1 : s = 1 <;> by_cases h5 : s = 5 <;> simp_all <;> omega
      · simp [stMS, HS, mkTN_app, mkTN, eTN]
    have hm10 : a10.tmps.getD 5 undef = .int .i64 (p.length + 1 : Nat) := by
      have := M11.rel.slots 5
      simp only [stMS, SS, U] at this
      simp at this
      generalize hx : a10.tmps.getD 5 undef = y
      have hx' : a10.tmps[5]?.getD undef = y := by simpa using hx
      rw [hx'] at this
      cases this
      simp
    refine ⟨⟨p ++ [x], q, ι10, by rw [hpq]; simp, M11⟩, ?_⟩
    rw [hm10, hm]
    show l.length - ((p.length + 1 : Nat) : Int).toNat < l.length - ((p.length : Nat) : Int).toNat
    omega
end Go.Proofs.YtenmfblmekilaaaGreat
