/- A reading of the loaded code over plain data, its soundness, and what functions answer by it (part 10; joined by program). No condition. -/
import Derived.Test.YtndgpinhbffleaaGreatKRe9
import Derived.StillTail
import Derived.WalkKit
import Derived.Laws.CopyRow
set_option linter.all false
namespace Go.Proofs.YtndgpinhbffleaaGreat
open Go Go.RowKit
set_option linter.unusedVariables false
section
variable {P : Program} {ops : Array Oper} {Q : Exit → Act → World → Prop} {a : Act} {w w' : World} {o : Oper} {l : List Oper} {v : Value}
theorem wpl (hg : o.guard = none) (hr : (execOp a.eval o).run P w = .ok (.value v) w') (h : wpList P ops Q l (a.put o.dst v) w') : wpList P ops Q (o :: l) a w := by
  unfold wpList
  rw [if_pos (by simp [Region.wanted, hg])]
  refine .inl ?_
  unfold Oper.wp
  rw [hr]
  exact h
theorem wst {L : Act → Prop} (hg : o.guard = none) (hr : (execOp a.eval o).run P w = .ok (.value v) w) (h : wpStill P ops w L l (a.put o.dst v)) : wpStill P ops w L (o :: l) a := by
  unfold wpStill
  rw [if_pos (by simp [Region.wanted, hg])]
  unfold Oper.still
  rw [hr, Oper.stillUpon_value]
  exact h
end
section
variable {P : Program} {w : World} {t el : TypeId} {inf : TypeInfo} {a : Option Addr} {len cap l r m : Nat}
theorem slice_lh (hu : P.underlying t = some (.slice el)) (hi : P.info? el = some inf) (h1 : l ≤ r) (h2 : r ≤ cap) : (Instr.sliceAt t (.slice a len cap) (some (.int .i64 l)) (some (.int .i64 r)) none).run P w = .ok (.slice (if cap = l then a else a.map (·.add (l * inf.size))) (r - l) (cap - l)) w := by
  have b1 : (Instr.sliceBounds true len cap (some (.int .i64 (l : Int))) (some (.int .i64 (r : Int))) none).run P w = .ok (l, r, cap) w := by
    simp [Instr.sliceBounds, sliceBound_run (n := (r : Int)) (y := cap) (by omega) (by simpa using h2), sliceBound_run (n := (l : Int)) (y := r) (by omega) (by simpa using h1)]
  simp [Instr.sliceAt, Instr.slice, underlying_run hu, b1, sizeOf_run hi]
theorem slice_l (hu : P.underlying t = some (.slice el)) (hi : P.info? el = some inf) (h1 : l ≤ len) (h2 : len ≤ cap) : (Instr.sliceAt t (.slice a len cap) (some (.int .i64 l)) none none).run P w = .ok (.slice (if cap = l then a else a.map (·.add (l * inf.size))) (len - l) (cap - l)) w := by
  have b1 : (Instr.sliceBounds true len cap (some (.int .i64 (l : Int))) none none).run P w = .ok (l, len, cap) w := by
    simp [Instr.sliceBounds, sliceBound_run (n := (l : Int)) (y := len) (by omega) (by simpa using h1)]
  simp [Instr.sliceAt, Instr.slice, underlying_run hu, b1, sizeOf_run hi]
theorem slice_h (hu : P.underlying t = some (.slice el)) (hi : P.info? el = some inf) (h2 : r ≤ cap) : (Instr.sliceAt t (.slice a len cap) none (some (.int .i64 r)) none).run P w = .ok (.slice (if cap = 0 then a else a.map (·.add 0)) r cap) w := by
  have b1 : (Instr.sliceBounds true len cap none (some (.int .i64 (r : Int))) none).run P w = .ok (0, r, cap) w := by
    simp [Instr.sliceBounds, sliceBound_run (n := (r : Int)) (y := cap) (by omega) (by simpa using h2)]
  simp [Instr.sliceAt, Instr.slice, underlying_run hu, b1, sizeOf_run hi]
theorem slice_lhm (hu : P.underlying t = some (.slice el)) (hi : P.info? el = some inf) (h1 : l ≤ r) (h2 : r ≤ m) (h3 : m ≤ cap) : (Instr.sliceAt t (.slice a len cap) (some (.int .i64 l)) (some (.int .i64 r)) (some (.int .i64 m))).run P w = .ok (.slice (if m = l then a else a.map (·.add (l * inf.size))) (r - l) (m - l)) w := by
  have b1 : (Instr.sliceBounds true len cap (some (.int .i64 (l : Int))) (some (.int .i64 (r : Int))) (some (.int .i64 (m : Int)))).run P w = .ok (l, r, m) w := by
    simp [Instr.sliceBounds, sliceBound_run (n := (m : Int)) (y := cap) (by omega) (by simpa using h3), sliceBound_run (n := (r : Int)) (y := m) (by omega) (by simpa using h2), sliceBound_run (n := (l : Int)) (y := r) (by omega) (by simpa using h1)]
  simp [Instr.sliceAt, Instr.slice, underlying_run hu, b1, sizeOf_run hi]
end
section
variable {P : Program} {w w' : World} {t el : TypeId} {act : Act} {o : Oper} {v : Value}
theorem len_op {x : Operand} {b : Option Addr} {n c : Nat} (ho : o.op = .call { callee := .builtin .len, args := #[x], argTypes := #[t] }) (hx : act.eval x = .slice b n c) (hu : P.underlying t = some (.slice el)) : (execOp act.eval o).run P w = .ok (.value (.int .i64 n)) w := by
  unfold execOp
  simp [ho, resolve, invoke, builtin, hx, Builtin.len_, underlying_run hu, goInt]
theorem app_op {x y : Operand} {u X Y : Value} (ho : o.op = .call { callee := .builtin .append, args := #[x, y], argTypes := #[t, t] }) (hx : act.eval x = X) (hy : act.eval y = Y) (h : (Builtin.append_ #[t, t] o.type #[X, Y]).run P w = .ok u w') : (execOp act.eval o).run P w = .ok (.value u) w' := by
  subst hx; subst hy
  unfold execOp
  simp [ho, resolve, invoke, builtin, h]
theorem clear_op {x : Operand} {u X : Value} (ho : o.op = .call { callee := .builtin .clear, args := #[x], argTypes := #[t] }) (hx : act.eval x = X) (h : (Builtin.clear_ #[t] o.type #[X]).run P w = .ok u w') : (execOp act.eval o).run P w = .ok (.value u) w' := by
  subst hx
  unfold execOp
  simp [ho, resolve, invoke, builtin, h]
theorem slice_op {x : Operand} {lo hi mx : Option Operand} {u X : Value} {LO HI MX : Option Value} (ho : o.op = .slice t x lo hi mx) (hx : act.eval x = X) (h1 : lo.map act.eval = LO) (h2 : hi.map act.eval = HI) (h3 : mx.map act.eval = MX) (h : (Instr.sliceAt t X LO HI MX).run P w = .ok u w) : (execOp act.eval o).run P w = .ok (.value u) w := by
  subst hx; subst h1; subst h2; subst h3
  unfold execOp
  simp only [ho, Sem.run_bind, h, Result.andThen_ok]; rfl
theorem eval_put {a : Act} {d : Option Nat} {v : Value} {s : Nat} : (a.put d v).eval (.tmp s) = if d = some s ∧ s < a.tmps.size then v else a.eval (.tmp s) := by
  have := act_put a d v s
  simpa [Act.eval] using this
theorem put_size {a : Act} {d : Option Nat} {v : Value} : (a.put d v).tmps.size = a.tmps.size := by
  cases d <;> simp [Act.put]
theorem put_defers {a : Act} {d : Option Nat} {v : Value} : (a.put d v).defers = a.defers := by
  cases d <;> simp [Act.put]
theorem move_op {x : Operand} {X : Value} (ho : o.op = .move x) (hx : act.eval x = X) : (execOp act.eval o).run P w = .ok (.value X) w := by
  subst hx
  unfold execOp
  simp only [ho]; rfl
theorem assign_op {x : Operand} {X : Value} (ho : o.op = .assign x) (hx : act.eval x = X) : (execOp act.eval o).run P w = .ok (.value X) w := by
  subst hx
  unfold execOp
  simp only [ho]; rfl
theorem eql_op {x y : Operand} {b : TypeId} {m n : Int} (ho : o.op = .binOp .eql t x y b) (hx : act.eval x = .int .i64 m) (hy : act.eval y = .int .i64 n) : (execOp act.eval o).run P w = .ok (.value (.bool (m == n))) w := by
  obtain ⟨z, hz, hr⟩ := abin_spec (P := P) (w := w) (O := fun _ => False) (ι := noMap) (op := .eql) (t := t) (x := .int .i64 m) (y := .int .i64 n) (u := .bool (m == n)) (ox := x) (oy := y) (by simp [abin, aint]) (.int _ _) (.int _ _)
  cases hr
  unfold execOp
  simp only [ho, hx, hy]
  rw [Sem.run_bind, hz]
  rfl
end
end Go.Proofs.YtndgpinhbffleaaGreat

namespace Go.Proofs.YtndgpinhbffleaaGreat
open Go Go.RowKit
set_option linter.unusedVariables false
set_option maxRecDepth 100000
set_option maxHeartbeats 8000000
theorem delSnap_walk (blk off cap n i j : Nat) (w W1 : World) (hn : n ≤ cap) (hij : i < j) (hj : j ≤ n)
    (happ : (Builtin.append_ #[24, 24] 24 #[.slice (if cap = 0 then some ⟨blk, off, none⟩ else (some (⟨blk, off, none⟩ : Addr)).map (·.add 0)) i cap, .slice (if cap = j then some ⟨blk, off, none⟩ else (some (⟨blk, off, none⟩ : Addr)).map (·.add (j * 2))) (n - j) (cap - j)]).run Tryz.prog w.drew = .ok (.slice (some ⟨blk, off, none⟩) (i + (n - j)) cap) W1)
    (W2 : World) (u : Value) (hcl : (Builtin.clear_ #[24] 0 #[.slice (if cap = i + (n - j) then some ⟨blk, off, none⟩ else (some (⟨blk, off, none⟩ : Addr)).map (·.add ((i + (n - j)) * 2))) (n - (i + (n - j))) (cap - (i + (n - j)))]).run Tryz.prog W1 = .ok u W2) :
    Calls Tryz.prog 82 #[.slice (some ⟨blk, off, none⟩) n cap, .int .i64 i, .int .i64 j] w fun e w' => e = .returned (.slice (some ⟨blk, off, none⟩) (i + (n - j)) cap) ∧ w' = W2 := by
  have tS : Tryz.prog.underlying 24 = some (.slice 94) := by kernel_rfl
  obtain ⟨inf, hinf, hsz⟩ : ∃ inf, Tryz.prog.info? 94 = some inf ∧ inf.size = 2 := ⟨_, rfl, by kernel_rfl⟩
  go_enter Tryz.func82, (rfl : Tryz.f82.ntmps = 33)
  suffices H : ∀ A0 : Act, A0.defers = [] → A0.tmps.size = 33 → A0.eval (.tmp 0) = .slice (some ⟨blk, off, none⟩) n cap → A0.eval (.tmp 1) = .int .i64 i → A0.eval (.tmp 2) = .int .i64 j → Code.wp _ _ _ A0 w from H _ rfl (by simp [show Tryz.f82.ntmps = 33 from rfl]) (by simp [Act.eval]) (by simp [Act.eval]) (by simp [Act.eval])
  intro A0 D Z e0 e1 e2
  refine wp_seq (wp_region_list (wpl rfl (assign_op (X := .slice none 0 0) rfl rfl) ?_))
  show Code.wp _ _ _ _ _
  refine wp_seq (wp_region_list (wpl rfl (move_op (X := .slice (some ⟨blk, off, none⟩) n cap) rfl (by simp [eval_put, put_size, Z, e0, e1, e2])) ?_))
  refine wpl rfl (move_op (X := .int .i64 i) rfl (by simp [eval_put, put_size, Z, e0, e1, e2])) ?_
  refine wpl rfl (move_op (X := .int .i64 j) rfl (by simp [eval_put, put_size, Z, e0, e1, e2])) ?_
  refine wpl rfl (move_op (X := .slice (some ⟨blk, off, none⟩) n cap) rfl (by simp [eval_put, put_size, Z, e0, e1, e2])) ?_
  refine wpl rfl (len_op (b := some ⟨blk, off, none⟩) (n := n) (c := cap) rfl (by simp [eval_put, put_size, Z, e0, e1, e2]) tS) ?_
  refine wpl rfl (slice_op (X := .slice (some ⟨blk, off, none⟩) n cap) (LO := some (.int .i64 i)) (HI := some (.int .i64 j)) (MX := some (.int .i64 n)) rfl (by simp [eval_put, put_size, Z, e0, e1, e2]) (by simp [eval_put, put_size, Z, e0, e1, e2]) (by simp [eval_put, put_size, Z, e0, e1, e2]) (by simp [eval_put, put_size, Z, e0, e1, e2]) (slice_lhm tS hinf (Nat.le_of_lt hij) hj hn)) ?_
  show Code.wp _ _ _ _ _
  refine wp_seq (wp_seq (wp_region_list (wpl rfl (move_op (X := .int .i64 i) rfl (by simp [eval_put, put_size, Z, e0, e1, e2])) ?_)))
  refine wpl rfl (move_op (X := .int .i64 j) rfl (by simp [eval_put, put_size, Z, e0, e1, e2])) ?_
  refine wpl rfl (eql_op (m := i) (n := j) rfl (by simp [eval_put, put_size, Z, e0, e1, e2]) (by simp [eval_put, put_size, Z, e0, e1, e2])) ?_
  show Code.wp _ _ _ _ _
  have hne : ((i : Int) == (j : Int)) = false := by simp; omega
  refine wp_cond_false (by simp [eval_put, put_size, Z, hne]) (wp_skip ?_)
  show Code.wp _ _ _ _ _
  refine wp_seq (wp_region_list (wpl rfl (move_op (X := .slice (some ⟨blk, off, none⟩) n cap) rfl (by simp [eval_put, put_size, Z, e0, e1, e2])) ?_))
  refine wpl rfl (len_op (b := some ⟨blk, off, none⟩) (n := n) (c := cap) rfl (by simp [eval_put, put_size, Z, e0, e1, e2]) tS) ?_
  refine wpl rfl (assign_op (X := .int .i64 n) rfl (by simp [eval_put, put_size, Z, e0, e1, e2])) ?_
  show Code.wp _ _ _ _ _
  suffices H : ∀ A1 : Act, A1.defers = [] → A1.tmps.size = 33 → A1.eval (.tmp 0) = .slice (some ⟨blk, off, none⟩) n cap → A1.eval (.tmp 1) = .int .i64 i → A1.eval (.tmp 2) = .int .i64 j → A1.eval (.tmp 7) = .int .i64 n → Code.wp _ _ _ A1 w from H _ (by simp [put_defers, D]) (by simp [put_size, Z]) (by simp [eval_put, put_size, Z, e0, e1, e2]) (by simp [eval_put, put_size, Z, e0, e1, e2]) (by simp [eval_put, put_size, Z, e0, e1, e2]) (by simp [eval_put, put_size, Z])
  clear D Z e0 e1 e2
  intro A1 D Z f0 f1 f2 f7
  refine wp_seq (wp_region_still_tail 6 (by kernel_rfl) (by kernel_rfl) ?_)
  simp only [List.take_succ_cons, List.take_zero, List.drop_succ_cons, List.drop_zero]
  have hS1 := slice_h (P := Tryz.prog) (w := { w with drawn := w.drawn + 1 }) (a := some ⟨blk, off, none⟩) (len := n) (cap := cap) (r := i) tS hinf (by omega)
  have hS2 := slice_l (P := Tryz.prog) (w := { w with drawn := w.drawn + 1 }) (a := some ⟨blk, off, none⟩) (len := n) (cap := cap) (l := j) tS hinf hj hn
  rw [hsz] at hS2
  refine wst rfl (move_op (X := .slice (some ⟨blk, off, none⟩) n cap) rfl (by simp [eval_put, put_size, Z, f0, f1, f2, f7])) ?_
  refine wst rfl (move_op (X := .int .i64 i) rfl (by simp [eval_put, put_size, Z, f0, f1, f2, f7])) ?_
  refine wst rfl (slice_op (X := .slice (some ⟨blk, off, none⟩) n cap) (LO := none) (HI := some (.int .i64 i)) (MX := none) rfl (by simp [eval_put, put_size, Z, f0, f1, f2, f7]) (by simp [eval_put, put_size, Z, f0, f1, f2, f7]) (by simp [eval_put, put_size, Z, f0, f1, f2, f7]) (by simp [eval_put, put_size, Z, f0, f1, f2, f7]) hS1) ?_
  refine wst rfl (move_op (X := .slice (some ⟨blk, off, none⟩) n cap) rfl (by simp [eval_put, put_size, Z, f0, f1, f2, f7])) ?_
  refine wst rfl (move_op (X := .int .i64 j) rfl (by simp [eval_put, put_size, Z, f0, f1, f2, f7])) ?_
  refine wst rfl (slice_op (X := .slice (some ⟨blk, off, none⟩) n cap) (LO := some (.int .i64 j)) (HI := none) (MX := none) rfl (by simp [eval_put, put_size, Z, f0, f1, f2, f7]) (by simp [eval_put, put_size, Z, f0, f1, f2, f7]) (by simp [eval_put, put_size, Z, f0, f1, f2, f7]) (by simp [eval_put, put_size, Z, f0, f1, f2, f7]) hS2) ?_
  refine wpStill_nil ?_
  refine wpl rfl (app_op rfl (by simp [eval_put, put_size, Z, f0, f1, f2, f7]) (by simp [eval_put, put_size, Z, f0, f1, f2, f7]) happ) ?_
  refine wpl rfl (assign_op (X := .slice (some ⟨blk, off, none⟩) (i + (n - j)) cap) rfl (by simp [eval_put, put_size, Z, f0, f1, f2, f7])) ?_
  show Code.wp _ _ _ _ _
  suffices H : ∀ A2 : Act, A2.defers = [] → A2.tmps.size = 33 → A2.eval (.tmp 0) = .slice (some ⟨blk, off, none⟩) (i + (n - j)) cap → A2.eval (.tmp 7) = .int .i64 n → Code.wp _ _ _ A2 W1 from H _ (by simp [put_defers, D]) (by simp [put_size, Z]) (by simp [eval_put, put_size, Z, f0, f1, f2, f7]) (by simp [eval_put, put_size, Z, f0, f1, f2, f7])
  clear D Z f0 f1 f2 f7
  intro A2 D Z g0 g7
  have hS3 := slice_lh (P := Tryz.prog) (w := W1) (a := some ⟨blk, off, none⟩) (len := i + (n - j)) (cap := cap) (l := i + (n - j)) (r := n) tS hinf (by omega) hn
  rw [hsz] at hS3
  refine wp_seq (wp_region_list (wpl rfl (move_op (X := .slice (some ⟨blk, off, none⟩) (i + (n - j)) cap) rfl (by simp [eval_put, put_size, Z, g0, g7])) ?_))
  refine wpl rfl (move_op (X := .slice (some ⟨blk, off, none⟩) (i + (n - j)) cap) rfl (by simp [eval_put, put_size, Z, g0, g7])) ?_
  refine wpl rfl (len_op (b := some ⟨blk, off, none⟩) (n := i + (n - j)) (c := cap) rfl (by simp [eval_put, put_size, Z, g0, g7]) tS) ?_
  refine wpl rfl (move_op (X := .int .i64 n) rfl (by simp [eval_put, put_size, Z, g0, g7])) ?_
  refine wpl rfl (slice_op (X := .slice (some ⟨blk, off, none⟩) (i + (n - j)) cap) (LO := some (.int .i64 ((i + (n - j) : Nat) : Int))) (HI := some (.int .i64 n)) (MX := none) rfl (by simp [eval_put, put_size, Z, g0, g7]) (by simp [eval_put, put_size, Z, g0, g7]) (by simp [eval_put, put_size, Z, g0, g7]) (by simp [eval_put, put_size, Z, g0, g7]) hS3) ?_
  refine wpl rfl (clear_op rfl (by simp [eval_put, put_size, Z, g0, g7]) hcl) ?_
  show Code.wp _ _ _ _ _
  refine wp_seq (wp_region_list (wpl rfl (move_op (X := .slice (some ⟨blk, off, none⟩) (i + (n - j)) cap) rfl (by simp [eval_put, put_size, Z, g0, g7])) ?_))
  refine wpl rfl (assign_op (X := .slice (some ⟨blk, off, none⟩) (i + (n - j)) cap) rfl (by simp [eval_put, put_size, Z, g0, g7])) ?_
  show Code.wp _ _ _ _ _
  suffices H : ∀ A3 : Act, A3.defers = [] → A3.tmps.size = 33 → A3.eval (.tmp 6) = .slice (some ⟨blk, off, none⟩) (i + (n - j)) cap → Code.wp _ _ _ A3 W2 from H _ (by simp [put_defers, D]) (by simp [put_size, Z]) (by simp [eval_put, put_size, Z, g0, g7])
  clear D Z g0 g7
  intro A3 D Z h6
  refine wp_ret (bodyPost_ret (results_tmp rfl _ _ _) D ⟨?_, rfl⟩)
  have h := h6
  simp only [Act.eval] at h
  rw [← h]
end Go.Proofs.YtndgpinhbffleaaGreat

namespace Go.Proofs.YtndgpinhbffleaaGreat
open Go Go.RowKit
set_option linter.unusedVariables false
set_option linter.unusedSimpArgs false
set_option maxHeartbeats 1000000
/-- A walk of 'slices.Delete' at rows of pairs. -/
def DelWalk (P : Program) (f : FuncId) (t : TypeId) : Prop := ∀ (blk off cap n i j : Nat) (w W1 : World) (hn : n ≤ cap) (hij : i < j) (hj : j ≤ n)
    (happ : (Builtin.append_ #[t, t] t #[.slice (if cap = 0 then some ⟨blk, off, none⟩ else (some (⟨blk, off, none⟩ : Addr)).map (·.add 0)) i cap, .slice (if cap = j then some ⟨blk, off, none⟩ else (some (⟨blk, off, none⟩ : Addr)).map (·.add (j * 2))) (n - j) (cap - j)]).run P w.drew = .ok (.slice (some ⟨blk, off, none⟩) (i + (n - j)) cap) W1)
    (W2 : World) (u : Value) (hcl : (Builtin.clear_ #[t] 0 #[.slice (if cap = i + (n - j) then some ⟨blk, off, none⟩ else (some (⟨blk, off, none⟩ : Addr)).map (·.add ((i + (n - j)) * 2))) (n - (i + (n - j))) (cap - (i + (n - j)))]).run P W1 = .ok u W2),
    Calls P f #[.slice (some ⟨blk, off, none⟩) n cap, .int .i64 i, .int .i64 j] w fun e w' => e = .returned (.slice (some ⟨blk, off, none⟩) (i + (n - j)) cap) ∧ w' = W2
theorem heap_one (b : Blk) (id : Id) : heapOf [([0], b)] id = if id = [0] then some b else none := by
  simp [heapOf, HU, HE]
theorem del_sound {P : Program} {f : FuncId} {t el : TypeId} (hf : Callable P f) (hW : DelWalk P f t) (hk : tkind P t = .slice el) {ti : TyI} (hi : tyi P el = some ti) (h2 : ti.size = 2) (hzl : ti.zero.length = 2) (hzf : ti.zero.all leaf = true) (hz : mkVal ti.ag ti.zero = .agg [.str [], .nil])
    {b : Blk} {n k : Nat} (hv : b.isVar = false) (hty : b.ty = el) (hsz : b.sz = 2) (hlen : b.els.length = n) (hkn : k < n) :
    Sound P f [.ref [0] 0 n, .int .i64 k, .int .i64 ((k : Int) + 1)] [([0], b)] { val := .ref [0] 0 (n - 1), io := [{ b with els := b.els.eraseIdx k ++ [.agg [.str [], .nil]] }] } := by
  refine ⟨hf, fun w ι vals hl I hr hph _ _ _ => ?_⟩
  have h0 := hr 0 (by simp)
  have h1 := hr 1 (by simp)
  have h2' := hr 2 (by simp)
  have hv3 : vals = #[vals.getD 0 undef, vals.getD 1 undef, vals.getD 2 undef] := by
    simp at hl
    apply Array.ext
    · simp; omega
    · intro i g1 g2
      have : i = 0 ∨ i = 1 ∨ i = 2 := by simp at g2; omega
      rcases this with rfl | rfl | rfl <;> simp [Array.getD, hl.symm]
  rw [hv3]
  simp only [List.getD_cons_zero, List.getD_cons_succ] at h0 h1 h2'
  generalize vals.getD 0 undef = x0 at *
  generalize vals.getD 1 undef = x1 at *
  generalize vals.getD 2 undef = x2 at *
  clear hv3 hl hr
  cases h1
  cases h2'
  generalize hnn : n = n' at h0
  cases h0 with
  | refE => omega
  | ref hι hs hcap hroom =>
    rename_i cap blk sz m ty'
    subst hnn
    have hb : heapOf [([0], b)] [0] = some b := by rw [heap_one]; rfl
    obtain ⟨rfl, hb0, cs, hcs, hcl, hrow⟩ := blk_row I hb hv hι
    have hm : m = cs.size := by
      simp only [World.shape?, hcs] at hs
      injection hs with hs; injection hs with _ hs; exact hs.symm
    subst hm
    have hty' : ty' = b.ty := by
      simp only [World.shape?, hcs] at hs
      injection hs with hs; injection hs with hs _; exact hs.symm
    subst hty'
    rw [Nat.zero_add] at hroom
    obtain ⟨inf, dd, z, q1, q2, q3, q4, q5, q6, q7, q8, q9⟩ := zero_cells hi
    have hu := tkind_slice hk
    have Id := I.drew
    -- what is moved
    have rx : Rep w.drew (Own ι) ι (.ref [0] (k + 1) (n - (k + 1))) (.slice (if cap = k + 1 then some ⟨blk, 0, none⟩ else (some (⟨blk, 0, none⟩ : Addr)).map (·.add ((k + 1) * 2))) (n - (k + 1)) (cap - (k + 1))) := by
      by_cases hc : cap = k + 1
      · have e1 : n - (k + 1) = 0 := by omega
        have e2 : cap - (k + 1) = 0 := by omega
        rw [e1, e2]
        exact .refE _ _ _
      · rw [if_neg hc]
        have hA : (some (⟨blk, 0, none⟩ : Addr)).map (·.add ((k + 1) * 2)) = some ⟨blk, (k + 1) * b.sz, none⟩ := by
          simp [hsz, add_at]
        rw [hA]
        exact .ref hι hs (by omega) (by
          have := Nat.mul_le_mul_right b.sz (show k + 1 + (cap - (k + 1)) ≤ cap by omega)
          omega)
    have he : elsOf (heapOf [([0], b)]) 2 (.ref [0] (k + 1) (n - (k + 1))) = some (b.els.drop (k + 1)) := by
      have hd : (b.els.drop (k + 1)).take (n - (k + 1)) = b.els.drop (k + 1) := List.take_of_length_le (by simp; omega)
      simp only [elsOf, hb]
      rw [if_pos ⟨hv, hsz, by omega⟩, hd]
    obtain ⟨a2, c2, hx, _, ns, x1, x2, x3, x4, x5⟩ := elsOf_spec (P := P) Id he rx
    have hnl : (b.els.drop (k + 1)).length = n - (k + 1) := by simp; omega
    rw [hnl] at hx x1 x2 x4 x5
    have hnews : RowOf w.drew (Own ι) b.sz (b.els.drop (k + 1)) fun o => ns.getD o undef := by
      rw [hsz]
      exact ⟨by rw [hnl]; exact x4, fun o ho => x3 o (by rw [x1]; rw [hnl] at ho; exact ho), by rw [hnl]; exact x5⟩
    have hrow' : RowOf w.drew (Own ι) b.sz b.els fun o => cs.getD o undef := by
      obtain ⟨r1, r2, r3⟩ := hrow
      exact ⟨r1, r2, fun i j hi hj => (r3 i j hi hj).mono (drew_ext _ w) (fun _ _ h => h) _ fun _ _ h => h⟩
    have hcsd : w.drew.heap[blk]? = some (.cells cs b.ty (0, 0)) := hcs
    have hm' := Nat.mul_le_mul_right b.sz (show k + (b.els.drop (k + 1)).length ≤ b.els.length by simp; omega)
    have hot : (b.els.take k).length = k := by simp; omega
    have x1s : ns.length = (b.els.drop (k + 1)).length * b.sz := by rw [hnl, hsz]; exact x1
    obtain ⟨w1, s1, s2, D⟩ := row_store (P := P) (np := 0) (es' := b.els.take k ++ b.els.drop (k + 1) ++ b.els.drop (k + (b.els.drop (k + 1)).length)) Id hb hv hι hcsd hb0 (off := k) x1s (by omega) (by
        have : (b.els.take k ++ b.els.drop (k + 1) ++ b.els.drop (k + (b.els.drop (k + 1)).length)).length = b.els.length := by simp; omega
        rw [this]; exact hcl) hnews (by
      have hr1 := row_append (k := fun o => if k * b.sz ≤ o ∧ o < k * b.sz + ns.length then ns.getD (o - k * b.sz) undef else cs.getD o undef) (hrow'.take (m := k) (by omega)) hnews (fun p hp => by
        rw [hot] at hp
        show (if _ then _ else _) = _
        rw [if_neg (by omega)]) (fun p hp => by
        rw [hot]
        show (if _ then _ else _) = _
        rw [if_pos (by omega)]
        congr 1; omega)
      have hdrop : RowOf w.drew (Own ι) b.sz (b.els.drop (k + (b.els.drop (k + 1)).length)) fun o => cs.getD ((k + (b.els.drop (k + 1)).length) * b.sz + o) undef := by
        obtain ⟨r1, r2, r3⟩ := hrow'
        have hg : ∀ a, (b.els.drop (k + (b.els.drop (k + 1)).length)).getD a .dead = b.els.getD (k + (b.els.drop (k + 1)).length + a) .dead := by intro a; simp
        refine ⟨fun a ha => ?_, fun o ho => ?_, fun a c ha hc => ?_⟩
        · rw [List.length_drop] at ha; rw [hg]; exact r1 _ (by omega)
        · rw [List.length_drop, Nat.sub_mul] at ho; exact r2 _ (by omega)
        · rw [List.length_drop] at ha; rw [hg]
          have := r3 (k + (b.els.drop (k + 1)).length + a) c (by omega) hc
          rw [show (k + (b.els.drop (k + 1)).length + a) * b.sz + c = (k + (b.els.drop (k + 1)).length) * b.sz + (a * b.sz + c) from by rw [Nat.add_mul (k + (b.els.drop (k + 1)).length) a, Nat.add_assoc]] at this
          exact this
      refine row_append hr1 hdrop (fun p _ => rfl) fun p hp => ?_
      have hot2 : (b.els.take k ++ b.els.drop (k + 1)).length = k + (b.els.drop (k + 1)).length := by rw [List.length_append, hot]
      rw [hot2]
      rw [if_neg (by rw [x1s, Nat.add_mul]; omega)])
    rw [hnl] at D
    have hkl : k + (n - (k + 1)) = n - 1 := by omega
    rw [hkl] at D
    -- the row behind the move
    have hi2 : inf.size = 2 := by rw [q3]; exact h2
    have happ : (Builtin.append_ #[t, t] t #[.slice (if cap = 0 then some ⟨blk, 0, none⟩ else (some (⟨blk, 0, none⟩ : Addr)).map (·.add 0)) k cap, .slice (if cap = k + 1 then some ⟨blk, 0, none⟩ else (some (⟨blk, 0, none⟩ : Addr)).map (·.add ((k + 1) * 2))) (n - (k + 1)) (cap - (k + 1))]).run P w.drew = .ok (.slice (some ⟨blk, 0, none⟩) (k + (n - (k + 1))) cap) w1 := by
      have hbase : (if cap = 0 then some (⟨blk, 0, none⟩ : Addr) else (some (⟨blk, 0, none⟩ : Addr)).map (·.add 0)) = some ⟨blk, 0, none⟩ := by
        rw [if_neg (by omega)]; simp [add_at]
      rw [hbase]
      injection hx with hx1 hx2 hx3
      rw [hx1, hx3] at x2 ⊢
      refine append_room hu hu q1 (by rw [hi2]; exact x2) (by omega) (fun b' hb' => ?_) (fun h => by cases h)
      injection hb' with hb'; subst hb'
      rw [add_at, Nat.zero_add, hi2]
      rw [hsz] at s1
      exact s1
    have hlt : blk < w.heap.size := (Array.getElem?_eq_some_iff.1 hcs).1
    generalize hE1 : b.els.take k ++ b.els.drop (k + 1) ++ b.els.drop (n - 1) = E1 at D
    have hE1l : E1.length = n := by rw [← hE1]; simp; omega
    have I1 : Inv w1 (heapOf [([0], ({ b with els := E1 } : Blk))]) ι := by
      refine ⟨fun id b' hb' => ?_, I.inj, D.live, fun id b' hb' => ?_⟩
      · rw [heap_one] at hb'
        split at hb'
        · rename_i hid
          injection hb' with hb'; subst hb'; subst hid
          exact D.ups _ _ (by simp)
        · cases hb'
      · rw [heap_one] at hb'
        split at hb'
        · rename_i hid
          subst hid
          exact I.real _ b hb
        · cases hb'
    have hclr : aclear P (heapOf [([0], ({ b with els := E1 } : Blk))]) t (.ref [0] (n - 1) 1) = some { val := .dead, ups := [([0], { b with els := E1.take (n - 1) ++ List.replicate 1 (mkVal ti.ag ti.zero) ++ E1.drop (n - 1 + 1) })] } := by
      unfold aclear
      rw [hk]
      simp only [hi, heap_one, if_true]
      rw [if_pos ⟨by omega, by omega, hzf, by omega, hv, by omega⟩]
    have rs1 : Rep w1 (Own ι) ι (.ref [0] (n - 1) 1) (.slice (if cap = k + (n - (k + 1)) then some ⟨blk, 0, none⟩ else (some (⟨blk, 0, none⟩ : Addr)).map (·.add ((k + (n - (k + 1))) * 2))) (n - (k + (n - (k + 1)))) (cap - (k + (n - (k + 1))))) := by
      rw [hkl, if_neg (by omega), show n - (n - 1) = 1 by omega]
      have hA : (some (⟨blk, 0, none⟩ : Addr)).map (·.add ((n - 1) * 2)) = some ⟨blk, (n - 1) * b.sz, none⟩ := by
        simp [hsz, add_at]
      rw [hA]
      exact .ref hι s2 (by omega) (by
        rw [show n - 1 + (cap - (n - 1)) = cap by omega]; exact hroom)
    obtain ⟨u, w2, ι2, hrun, D2⟩ := aclear_spec (P := P) (np := 0) (ty := 0) I1 hclr rs1
    have hι2 : ι2 = ι := by
      funext id
      by_cases hid : id = [0]
      · subst hid
        exact D2.same' _ (by simp) (by rw [hι]; simp)
      · exact D2.same _ (by simp) (by simp [keys, hid])
    subst hι2
    have hwalk := hW blk 0 cap n k (k + 1) w w1 hcap (by omega) (by omega) happ w2 u hrun
    rw [Nat.zero_mul, show ((k : Int) + 1) = ((k + 1 : Nat) : Int) by omega]
    refine hwalk.mono fun e w' hh => ?_
    obtain ⟨rfl, rfl⟩ := hh
    rw [hkl]
    refine ⟨_, noMap, rfl, ?_, rfl, fun q hq => ?_, fun q hq => by simp at hq, (by intro _ _ _ _ _ h; cases h), (by intro _ _ _ h; cases h), ?_⟩
    · exact ((drew_ext _ w).trans D.ext).trans D2.ext
    · have hq0 : q = 0 := by simp at hq; omega
      subst hq0
      have hB := D2.ups [0] _ (List.mem_singleton.2 rfl)
      have hels : E1.take (n - 1) ++ List.replicate 1 (mkVal ti.ag ti.zero) ++ E1.drop (n - 1 + 1) = b.els.eraseIdx k ++ [.agg [.str [], .nil]] := by
        have d1 : E1.drop (n - 1 + 1) = [] := List.drop_eq_nil_of_le (by omega)
        have d2 : E1.take (n - 1) = b.els.take k ++ b.els.drop (k + 1) := by
          rw [← hE1, List.take_append_of_le_length (by simp; omega)]
          exact List.take_of_length_le (by simp; omega)
        rw [d1, d2, hz, List.append_nil, List.eraseIdx_eq_take_drop_succ]
        rfl
      rw [hels] at hB
      exact hB.mono (Ext.refl _ _) (fun b' _ h => h.resolve_right (by rintro ⟨_, _, h⟩; cases h)) (fun _ _ _ => rfl) rfl fun _ _ h => h
    · have hs2 : w'.shape? blk = some (b.ty, cs.size) := by
        rw [D2.ext.shape blk (by
          have := D.ext.size
          have h0 : w.drew.heap.size = w.heap.size := rfl
          omega)]
        exact s2
      have := Rep.ref (w := w') (O := Both ι2 noMap) (ι := jn ι2 noMap) (id := [0]) (off := 0) (len := n - 1) (cap := cap) (b := blk) (sz := b.sz) (n := cs.size) (ty := b.ty) (by simpa [jn, ownIx] using hι) hs2 (by omega) (by rw [Nat.zero_add]; exact hroom)
      rwa [Nat.zero_mul] at this
end Go.Proofs.YtndgpinhbffleaaGreat
