/- A reading of the loaded code over plain data, its soundness, and what functions answer by it (part 8; joined by program). No condition. -/
import Derived.Test.YtdcgfapededocaaGreatKRw7
import Derived.StillTail
import Derived.WalkKit
import Derived.Laws.CopyRow
set_option linter.all false
namespace Go.Proofs.YtdcgfapededocaaGreat
open Go Go.RowKit
set_option linter.unusedVariables false
section
variable {P : Program} {ops : Array Oper} {Q : Exit → Act → World → Prop} {a : Act} {w w' : World} {o : Oper} {l : List Oper} {v : Value}
theorem wpl (hg : o.guard = none) (hr : (execOp a.eval o).run P w = .ok (.value v) w') (h : wpList P ops Q l (a.put o.dst v) w') : wpList P ops Q (o :: l) a w := by
  unfold wpList
  rw [if_pos (by simp [Region.wanted, hg])]
  refine .inl ?_
  unfold Oper.wp
  rw [hr]
  exact h
end
section
variable {P : Program} {w : World} {t el : TypeId} {inf : TypeInfo} {a : Option Addr} {len cap l r m : Nat}
end
section
variable {P : Program} {w w' : World} {t el : TypeId} {act : Act} {o : Oper} {v : Value}
theorem eval_put {a : Act} {d : Option Nat} {v : Value} {s : Nat} : (a.put d v).eval (.tmp s) = if d = some s ∧ s < a.tmps.size then v else a.eval (.tmp s) := by
  have := act_put a d v s
  simpa [Act.eval] using this
theorem put_size {a : Act} {d : Option Nat} {v : Value} : (a.put d v).tmps.size = a.tmps.size := by
  cases d <;> simp [Act.put]
theorem move_op {x : Operand} {X : Value} (ho : o.op = .move x) (hx : act.eval x = X) : (execOp act.eval o).run P w = .ok (.value X) w := by
  subst hx
  unfold execOp
  simp only [ho]; rfl
end
end Go.Proofs.YtdcgfapededocaaGreat


namespace Go.Proofs.YtdcgfapededocaaGreat
open Go Go.RowKit
set_option maxRecDepth 100000
set_option maxHeartbeats 4000000
set_option linter.unusedVariables false
set_option linter.unusedSimpArgs false
theorem szTN_app (a b : List TN) : szTN (a ++ b) = szTN a + szTN b := by
  induction a with
  | nil => simp [szTN]
  | cons x a ih => simp [szTN, ih]; omega
theorem mkTN_app (a b : List TN) : ∀ k : Int, mkTN k (a ++ b) = mkTN k a ++ mkTN (k + szTN a) b := by
  induction a with
  | nil => intro k; simp [mkTN, szTN]
  | cons x a ih =>
    intro k
    simp only [List.cons_append, mkTN, ih, szTN]
    congr 3
    push_cast; omega
theorem mkTN_length (l : List TN) : ∀ k : Int, (mkTN k l).length = l.length := by
  induction l with
  | nil => intro k; rfl
  | cons x l ih => intro k; simp [mkTN, ih]
section
variable {C : Ctx} {an : Ann}
theorem exec_run (c : Code) (k : Nat) (σ : St) : exec C.P (E C) C.A an c k σ = run C an [.code c k] σ := by
  simp only [run, ex]
  cases exec C.P (E C) C.A an c k σ with
  | none => rfl
  | some r => obtain ⟨e, σ'⟩ := r; cases e <;> simp [unw]
end
theorem Mid.begin0 {np nt : Nat} {args : List AV} {H : List (Id × Blk)} {w : World} {ι : Map} {vals : Array Value} (hnp : np = args.length) (hlen : args.length = vals.size) (I : Inv w (heapOf H) ι) (hargs : ∀ i, i < args.length → Rep w (Own ι) ι (args.getD i .dead) (vals.getD i undef)) (hin : ∀ id k, Foot ι id k → ph id = true ∨ id ∈ keys H) (hhead : ∀ id, id ∈ keys H → id.headD 0 < args.length) :
    Mid np nt w ι w ⟨slotsOf 0 args, heapOf H⟩ ι { tmps := vals ++ Array.replicate (nt - vals.size) undef, defers := [] } := by
  refine ⟨⟨by simp; omega, I, fun s => ?_, fun id p hp => ?_, fun _ _ => ⟨rfl, rfl⟩, fun _ _ _ => ⟨rfl, rfl⟩, rfl⟩, Ext.refl _ _, fun _ _ h _ => h, fun id k hp => (hin id k hp).imp (fun h => h) fun h => by rw [hnp]; exact hhead id h⟩
  · simp only [slotsOf_at, Nat.zero_add, Nat.sub_zero]
    split
    · rename_i hs
      have hs' : s < vals.size := by omega
      have : (vals ++ Array.replicate (nt - vals.size) undef).getD s undef = vals.getD s undef := by
        simp only [Array.getD_eq_getD_getElem?]
        rw [Array.getElem?_append_left hs']
      rw [this]; exact hargs s hs.2
    · exact .dead _
  · rcases hin id p hp with h1 | h1
    · exact .inl h1
    · obtain ⟨b, hb⟩ := heapOf_mem h1
      right; simp only [hb]; rfl
theorem piece {an : Ann} {nt : Nat} {w0 : World} {ι0 : Map} (hO : OpsOK CZ.P (E CZ) CZ.A an) {c : Code} {σ τ : St} {e : Ex} {w : World} {ι : Map} {a : Act} {Q : Exit → Act → World → Prop} (M : Mid an.np nt w0 ι0 w σ ι a) (hr : run CZ an [.code c 0] σ = some (e, τ)) (hs : slotsIn nt c = true) (hd : DrawsOK CZ.P (E CZ) CZ.A an c) (hQ : Comes1 an.np nt w0 ι0 Q e τ) : c.wp CZ.P Q a w :=
  exec_sound hO c 0 σ e τ ((exec_run c 0 σ).trans hr) hs hd w ι a M Q hQ
theorem Mid.fewer {np nt : Nat} {w0 : World} {ι0 : Map} {w : World} {σ τ : St} {ι : Map} {a : Act} (M : Mid np nt w0 ι0 w σ ι a) (hs : ∀ s, τ.slot s = .dead ∨ τ.slot s = σ.slot s) (hh : τ.heap = σ.heap) : Mid np nt w0 ι0 w τ ι a := by
  have := M.weak (τ := τ) (fun _ => false) (fun s => (hs s).imp (fun h => h) fun h => by rw [h, kill_nil']) (fun id => .inr ⟨rfl, by rw [hh]; cases σ.heap id <;> simp [killB_nil]⟩)
  rwa [weakM_none] at this
theorem rops_pre {P : Program} {E : Oracle} {A : FuncId → Ann} {an : Ann} {nt : Nat} {w0 : World} {ι0 : Map} (hO : OpsOK P E A an) (all : List Oper) (Q : Exit → Act → World → Prop) (rest : List Oper) (os : List Oper) : ∀ (σ σ' : St) (w : World) (ι : Map) (a : Act), rops P E A an all os σ = some σ' → Mid an.np nt w0 ι0 w σ ι a → (∀ o ∈ os, dstIn nt o) →
    (∀ w ι a, Mid an.np nt w0 ι0 w σ' ι a → wpList P all.toArray Q rest a w) → wpList P all.toArray Q (os ++ rest) a w := by
  induction os with
  | nil => intro σ σ' w ι a e M _ hQ; unfold rops at e; injection e with e; subst e; exact hQ _ _ _ M
  | cons o os ih =>
    intro σ σ' w ι a e M hd hQ
    unfold rops at e
    cases hg : guarded all o σ (doOp P E A an o σ) with
    | none => simp [hg] at e
    | some τ =>
      simp only [hg] at e
      show wpList P all.toArray Q (o :: (os ++ rest)) a w
      unfold wpList
      rcases wanted_of M hg with ⟨h1, h2⟩ | ⟨h1, h2⟩
      · rw [if_pos h1]
        exact .inl (doOp_sound hO h2 M (hd o (by simp)) _ _ fun w' ι' a' M' => ih τ σ' w' ι' a' e M' (fun x hx => hd x (by simp [hx])) hQ)
      · rw [h1, if_neg (by simp)]
        subst h2
        exact ih _ σ' w ι _ e (M.dead o.dst (hd o (by simp))) (fun x hx => hd x (by simp [hx])) hQ
theorem ro_rops {C : Ctx} {an : Ann} {ops os : List Oper} {σ τ : St} (h : ro C an ops os [] σ = some (.normal, τ)) : rops C.P (E C) C.A an ops os σ = some τ := by
  unfold ro at h
  cases hr : rops C.P (E C) C.A an ops os σ with
  | none => simp [hr] at h
  | some σ' => simp only [hr, run_nil] at h; injection h with h; injection h with _ h; rw [h]
theorem rops_take {an : Ann} {nt : Nat} {w0 : World} {ι0 : Map} (hO : OpsOK CZ.P (E CZ) CZ.A an) (n : Nat) {ops : Array Oper} {os : List Oper} {σ τ : St} {w : World} {ι : Map} {a : Act} {Q : Exit → Act → World → Prop} (M : Mid an.np nt w0 ι0 w σ ι a) (hr : ro CZ an ops.toList (os.take n) [] σ = some (.normal, τ)) (hd : ∀ o ∈ os.take n, dstIn nt o) (hQ : ∀ w ι a, Mid an.np nt w0 ι0 w τ ι a → wpList CZ.P ops Q (os.drop n) a w) : wpList CZ.P ops Q os a w := by
  have := rops_pre hO ops.toList Q (os.drop n) (os.take n) σ τ w ι a (ro_rops hr) M hd (by simpa using hQ)
  rw [List.take_append_drop] at this
  simpa using this
theorem wpl_call {P : Program} {ops : Array Oper} {Q : Exit → Act → World → Prop} {o : Oper} {l : List Oper} {a : Act} {w : World} {f : FuncId} {args : Array Value} (hg : o.guard = none) (hr : (execOp a.eval o).run P w = .ok (.enter f args) w) (h : Calls P f args w fun e w' => ∃ v, e = .returned v ∧ wpList P ops Q l (a.put o.dst v) w') : wpList P ops Q (o :: l) a w := by
  unfold wpList
  rw [if_pos (by simp [Region.wanted, hg])]
  refine .inl ?_
  unfold Oper.wp
  rw [hr, Oper.upon_enter]
  exact h.mono fun e w' hh => by obtain ⟨v, rfl, hh⟩ := hh; exact hh
theorem run_enter {P : Program} {w : World} {a : Act} {o : Oper} {f : FuncId} {fn : Func} {c : Code} {x y : Operand} {u v : Value} {ats : Array TypeId} (ho : o.op = .call { callee := .value (.func f), args := #[x, y], argTypes := ats }) (hfn : P.funcs[f]? = some fn) (hn : fn.name ≠ "runtime.NumGoroutine") (hb : fn.body = some c) (hx : a.eval x = u) (hy : a.eval y = v) : (execOp a.eval o).run P w = .ok (.enter f #[u, v]) w := by
  unfold execOp
  have hev : a.eval (.func f) = .func (.func f) #[] #[] := rfl
  simp only [ho, resolve, hev, Deferred.ofValue, Sem.run_bind, Sem.run_pure, Result.andThen_ok, invoke]
  simp [callFunc, hfn, hn, hb, hx, hy]
theorem eTN_flat (l : List TN) : ∀ i' j', i' < (l.map eTN).length → j' < 2 → slC ((cellsOf ((l.map eTN).getD i' .dead)).getD j' .dead) = true := by
  intro i' j' hi hj
  have hi : i' < l.length := by simpa using hi
  have e : (l.map eTN).getD i' .dead = eTN l[i'] := by simp [hi]
  rw [e]
  have : j' = 0 ∨ j' = 1 := by omega
  have hs : ∀ ns : List Int, AV.sharesL (ns.map (AV.int .i64)) = false := by
    intro ns
    induction ns with
    | nil => rfl
    | cons n ns ih => simp [AV.sharesL, AV.shares, ih]
  rcases this with rfl | rfl
  · rfl
  · simp [eTN, cellsOf, slC, hs]
end Go.Proofs.YtdcgfapededocaaGreat



namespace Go.Proofs.YtdcgfapededocaaGreat
open Go Go.RowKit
set_option maxRecDepth 100000
set_option maxHeartbeats 4000000
set_option linter.unusedVariables false
set_option linter.unusedSimpArgs false
/-- The walk's state, 'p' marked. -/
def stMH (k : Int) (n : Nat) (p q : List TN) : St := ⟨SS [(0, .ref [0] 0 n), (1, .int .i64 (k + szTN p)), (5, .int .i64 p.length)], HS [([0], ⟨false, 110, 2, (mkTN k p ++ q).map eTN, some 3⟩)]⟩
theorem markSh_walk (l : List TN) (k : Int) (hk : 0 < k ∧ k + szTN l ≤ 1099511627776) (hll : l.length ≤ 1073741824) : Sound Tryz.prog 135 [.ref [0] 0 l.length, .int .i64 k] [([0], ⟨false, 110, 2, l.map eTN, some 3⟩)]
    { val := .int .i64 (k + szTN l), io := [⟨false, 110, 2, (mkTN k l).map eTN, some 3⟩] } := by
  refine ⟨⟨_, Tryz.func135, by decide, rfl⟩, fun w ι vals hlen I hargs hin hreal hnd hhead => ?_⟩
  have hOps : OpsOK CZ.P (E CZ) CZ.A an135 := aop_sound CZ_sound
  have M := Mid.begin0 (np := an135.np) (nt := 28) rfl hlen I hargs hin hhead
  refine calls_of_wp Tryz.func135 rfl ?_
  refine wp_seq (piece hOps M (e := .normal) (τ := ?_) ?_ ?_ ?_ ?_)
  rotate_left
  · simp [go_sem]; exact rfl
  · rfl
  · trivial
  intro w1 ι1 a1 M1
  refine wp_seq (wp_seq (piece hOps M1 (e := .normal) (τ := ?_) ?_ ?_ ?_ ?_))
  rotate_left
  · simp [go_sem]; exact rfl
  · rfl
  · trivial
  intro w2 ι2 a2 M2
  refine wp_block ?_
  have M3 : Mid an135.np 28 w ι w2 (stMH k l.length [] l) ι2 a2 := by
    refine M2.fewer (fun s => ?_) (by simp [stMH, mkTN, HS])
    simp only [stMH, SS, U, D0, szTN, List.length_nil]
    by_cases h0 : s = 0 <;> by_cases h1 : s = 1 <;> by_cases h5 : s = 5 <;> simp_all
  refine wp_loop (fun a w' => ∃ p q ι', l = p ++ q ∧ Mid an135.np 28 w ι w' (stMH k l.length p q) ι' a) (fun a _ => match a.tmps.getD 5 undef with
    | .int _ z => l.length - z.toNat
    | _ => 0) ⟨[], l, ι2, rfl, M3⟩ ?_
  clear M M1 M2 M3 a1 a2 w1 w2 ι1 ι2
  rintro a1 w1 ⟨p, q, ι1, hpq, M1⟩
  have hm : a1.tmps.getD 5 undef = .int .i64 p.length := by
    have := M1.rel.slots 5
    simp only [stMH, SS, U] at this
    simp at this
    generalize hx : a1.tmps.getD 5 undef = x
    have hx' : a1.tmps[5]?.getD undef = x := by simpa using hx
    rw [hx'] at this
    cases this
    rfl
  have hpl : p.length ≤ l.length := by rw [hpq]; simp
  have hsz : szTN l = szTN p + szTN q := by rw [hpq, szTN_app]
  cases q with
  | nil =>
    have hl : l = p := by rw [hpq]; simp
    refine wp_seq (piece hOps M1 (e := .exit 0) (τ := ?_) ?_ ?_ ?_ ?_)
    rotate_left
    · simp [go_sem, stMH, hl]; exact rfl
    · rfl
    · exact ⟨trivial, trivial, trivial⟩
    intro w2 ι2 a2 M2
    show Code.wp _ _ _ _ _
    refine piece hOps M2 (e := .ret) (τ := ?_) ?_ ?_ ?_ ?_
    rotate_left
    · simp [go_sem]; exact rfl
    · rfl
    · exact ⟨trivial, trivial⟩
    intro w3 ι3 a3 M3
    obtain ⟨rv, ιo, hr, hL⟩ := answer_sound (fn := Tryz.f135) (r := { val := .int .i64 (k + szTN l), io := [⟨false, 110, 2, (mkTN k l).map eTN, some 3⟩] }) M3 (by simp [go_sem, hl, mkTN_length]) hin hreal (fun id hid => hhead id hid)
    exact ⟨M3.rel.defers, rv, hr, rv, ιo, rfl, hL⟩
  | cons x q =>
    have hlt : p.length < l.length := by rw [hpq]; simp
    have hszx : szTN (x :: q) = 1 + x.2.length + szTN q := rfl
    have hg : ∀ v : AV, (List.map eTN (mkTN k p) ++ v :: List.map eTN q)[p.length]? = some v := fun v => by
      rw [List.getElem?_append_right (by simp [mkTN_length])]; simp [mkTN_length]
    have hg' : ∀ (v : AV) (h : p.length < (List.map eTN (mkTN k p) ++ v :: List.map eTN q).length), (List.map eTN (mkTN k p) ++ v :: List.map eTN q)[p.length]'h = v := fun v h => by
      have := hg v
      rw [List.getElem?_eq_getElem h] at this
      exact Option.some.inj this
    have hset : ∀ v v' : AV, (List.map eTN (mkTN k p) ++ v :: List.map eTN q).set p.length v' = List.map eTN (mkTN k p) ++ v' :: List.map eTN q := fun v v' => at_set _ _ _ _ _ (by simp [mkTN_length])
    have e1 := markText_Z (k + szTN p) (by omega)
    refine wp_seq (piece hOps M1 (e := .normal) (τ := ?_) ?_ ?_ ?_ ?_)
    rotate_left
    · simp [go_sem, stMH, hlt]; exact rfl
    · rfl
    · exact ⟨trivial, trivial, trivial⟩
    intro w2 ι2 a2 M2
    refine wp_seq (wp_block ?_)
    refine wp_seq (piece hOps M2 (e := .normal) (τ := ?_) ?_ ?_ ?_ ?_)
    rotate_left
    · simp [go_sem, hlt, e1, hg, hg', hset, eTN, mkTN_length]; exact rfl
    · rfl
    · trivial
    intro w3 ι3 a3 M3
    show Code.wp _ _ _ _ _
    refine wp_seq (piece hOps M3 (e := .normal) (τ := ?_) ?_ ?_ ?_ ?_)
    rotate_left
    · simp [go_sem, wrap_id (n := k + szTN p + 1) (by omega)]; exact rfl
    · rfl
    · trivial
    intro w4 ι4 a4 M4
    show Code.wp _ _ _ _ _
    refine wp_region_list ?_
    refine rops_take hOps 4 (τ := ?_) M4 ?_ ?_ ?_
    rotate_left
    · simp [go_sem, mkTN_length, hlt]; exact rfl
    · simp [dstIn]
    intro w5 ι5 a5 M5
    have hx23 := M5.rel.slots 23
    simp only [go_sem] at hx23
    simp at hx23
    have hx1 := M5.rel.slots 1
    simp only [go_sem] at hx1
    simp at hx1
    generalize hv23 : a5.tmps[23]?.getD undef = v23 at hx23
    generalize hv1 : a5.tmps[1]?.getD undef = v1 at hx1
    cases hx1
    cases hx23 with
    | ptr hι =>
    rename_i blk sz
    have hsz5 := M5.rel.size
    have e23 : a5.eval (.tmp 23) = .pointer (some ⟨blk, p.length * sz + 1, none⟩) := by simp [Act.eval, hv23]
    have e1' : a5.eval (.tmp 1) = .int .i64 (k + szTN p + 1) := by simp [Act.eval, hv1]
    have tS : Tryz.prog.underlying 29 = some (.slice 3) := by kernel_rfl
    have tA : tagg Tryz.prog 29 = false := by kernel_rfl
    -- what a call of the mark leaves
    obtain ⟨v, hcv, ⟨D⟩⟩ : ∃ v, w5.cell? ⟨blk, p.length * sz + 1, none⟩ = some v ∧ Nonempty (PLift (Calls Tryz.prog 134 #[v, .int .i64 (k + szTN p + 1)] w5 fun e w' => e = .returned (.int .i64 (k + szTN p + 1 + x.2.length)) ∧ Done an135.np (HS [([0], ⟨false, 110, 2, List.map eTN (mkTN k p) ++ .agg [.str (mt (k + szTN p)), .sl 1 (x.2.map (.int .i64))] :: List.map eTN q, some 3⟩)]) w5 ι5 { val := .int .i64 (k + szTN p + 1 + x.2.length), ups := [([0], ⟨false, 110, 2, List.map eTN (mkTN k p) ++ .agg [.str (mt (k + szTN p)), .sl 1 ((upI (k + szTN p + 1) x.2.length).map (.int .i64))] :: List.map eTN q, some 3⟩)] } (.int .i64 (k + szTN p + 1 + x.2.length)) w' ι5)) := by
      have hb5 : (HS [([0], ⟨false, 110, 2, List.map eTN (mkTN k p) ++ .agg [.str (mt (k + szTN p)), .sl 1 (x.2.map (.int .i64))] :: List.map eTN q, some 3⟩)]) [0] = some ⟨false, 110, 2, List.map eTN (mkTN k p) ++ .agg [.str (mt (k + szTN p)), .sl 1 (x.2.map (.int .i64))] :: List.map eTN q, some 3⟩ := by simp [HS, HU]
      have I5 : Inv w5 (HS [([0], ⟨false, 110, 2, List.map eTN (mkTN k p) ++ .agg [.str (mt (k + szTN p)), .sl 1 (x.2.map (.int .i64))] :: List.map eTN q, some 3⟩)]) ι5 := M5.rel.inv
      obtain ⟨hsz2, _, cs, hcs, hcl, hrow, _⟩ := blk_row I5 hb5 rfl hι
      have hsz2 : sz = 2 := hsz2
      subst hsz2
      have hlen : (List.map eTN (mkTN k p) ++ .agg [.str (mt (k + szTN p)), .sl 1 (x.2.map (.int .i64))] :: List.map eTN q).length = l.length := by rw [hpq]; simp [mkTN_length]
      have hag : (List.map eTN (mkTN k p) ++ .agg [.str (mt (k + szTN p)), .sl 1 (x.2.map (.int .i64))] :: List.map eTN q).getD p.length .dead = .agg [.str (mt (k + szTN p)), .sl 1 (x.2.map (.int .i64))] := by
        rw [List.getD_eq_getElem?_getD, hg]; rfl
      have hall : List.map eTN (mkTN k p) ++ .agg [.str (mt (k + szTN p)), .sl 1 (x.2.map (.int .i64))] :: List.map eTN q = (mkTN k p ++ (mt (k + szTN p), x.2) :: q).map eTN := by simp [eTN]
      by_cases hx0 : x.2 = []
      · have hcl' : (List.map eTN (mkTN k p) ++ .agg [.str (mt (k + szTN p)), .sl 1 (x.2.map (.int .i64))] :: List.map eTN q).length * 2 ≤ cs.size := hcl
        have hcell : w5.cell? ⟨blk, p.length * 2 + 1, none⟩ = some (cs.getD (p.length * 2 + 1) undef) := cell?_of_cells hcs (by rw [hlen] at hcl'; omega)
        have hr := hrow.2.2 p.length 1 (by rw [hlen]; exact hlt) (by show 1 < 2; omega)
        simp only at hr
        rw [hag] at hr
        simp only [cellsOf, List.getD_cons_succ, List.getD_cons_zero, hx0, List.map_nil] at hr
        refine ⟨_, hcell, ⟨⟨?_⟩⟩⟩
        have hS := CZ_sound _ _ _ _ (markIntS_none (k + szTN p + 1))
        have hno : ∀ q : Nat, Own noMap q → False := by rintro q ⟨i, h⟩; exact noFoot h
        refine (hS.2 w5 noMap #[cs.getD (p.length * 2 + 1) undef, .int .i64 (k + szTN p + 1)] rfl ⟨(fun id b hb => by cases hb), (fun id id' q h => (noFoot h).elim), (fun id q s h => by cases h), (fun id q h => (noFoot h).elim), (fun id b hb => by cases hb)⟩ (fun a ha => ?_) (fun id q h => (noFoot h).elim) (fun id h => by cases h) List.nodup_nil (fun id h => by cases h)).mono fun e w' hh => ?_
        · have : a = 0 ∨ a = 1 := by simp at ha; omega
          rcases this with rfl | rfl
          · have := hr.less (O' := Own noMap) fun q hq => (hno q hq).elim
            simpa using this
          · simpa using Rep.int (w := w5) (O := Own noMap) (ι := noMap) .i64 (k + szTN p + 1)
        · obtain ⟨rv, ιo, rfl, L⟩ := hh
          have hval := L.val
          generalize hrv : rv = rv' at hval
          cases hval
          have hx : Ext (fun _ => False) w5 w' := L.ext.mono fun q _ ⟨i, h, _⟩ => by cases h
          have e0 : (k + szTN p + 1 + x.2.length) = k + szTN p + 1 := by rw [hx0]; simp
          rw [e0]
          refine ⟨rfl, ?_⟩
          have e2 : (upI (k + szTN p + 1) x.2.length).map (AV.int .i64) = x.2.map (.int .i64) := by rw [hx0]; rfl
          rw [e2]
          exact ⟨hx.mono fun _ _ h => h.elim, .int _ _, fun i c hc => by
            simp at hc; obtain ⟨rfl, rfl⟩ := hc
            exact (I5.blk _ _ hb5).mono (hx.mono fun _ _ h => h.elim) (fun _ _ h => h) (fun q hq => hx.block q (I5.live _ _ hq) fun h => h) rfl rfl fun _ _ h => h, fun _ _ _ => ⟨rfl, rfl⟩, fun _ _ _ => rfl, fun _ _ _ h => .inl h, fun _ _ h => .inl h, I5.inj, I5.sep, fun i q h => Nat.lt_of_lt_of_le (I5.live i q h) hx.size, (by intro _ h; cases h), fun i _ hu => by simp [keys] at hu; subst hu; exact ⟨rfl, rfl, by rw [hb5]; rfl⟩, by simp [keys], fun i hi => by simp [keys] at hi; subst hi; rfl, fun _ _ => ⟨rfl, rfl⟩⟩
      · obtain ⟨v, n1, n2, n3⟩ := nest_mark (P := Tryz.prog) (f := 134) (np := an135.np) I5 hb5 rfl (t := 3) rfl (i := p.length) (j := 1) (l := x.2) (l' := upI (k + szTN p + 1) x.2.length) (by rw [hlen]; exact hlt) (by show 1 < 2; omega) hag rfl hx0 (upI_length _ _) (CZ_sound _ _ _ _ (markIntS_Z x.2 (k + szTN p + 1) (by omega))) (by
          have := eTN_flat (mkTN k p ++ (mt (k + szTN p), x.2) :: q)
          rw [← hall] at this; exact this) hι
        refine ⟨v, n1, ⟨⟨n3.mono fun e w' hh => ?_⟩⟩⟩
        obtain ⟨h1, h2⟩ := hh
        refine ⟨h1, ?_⟩
        have e3 : (List.map eTN (mkTN k p) ++ .agg [.str (mt (k + szTN p)), .sl 1 (x.2.map (.int .i64))] :: List.map eTN q).set p.length (.agg ([.str (mt (k + szTN p)), .sl 1 (x.2.map (.int .i64))].set 1 (.sl 1 ((upI (k + szTN p + 1) x.2.length).map (.int .i64))))) = List.map eTN (mkTN k p) ++ .agg [.str (mt (k + szTN p)), .sl 1 ((upI (k + szTN p + 1) x.2.length).map (.int .i64))] :: List.map eTN q := hset _ _
        rw [← e3]
        exact h2
    obtain ⟨hC⟩ := D
    have hload : (loadVar 29 ⟨blk, p.length * sz + 1, none⟩).run Tryz.prog w5 = .ok v w5 := by
      unfold loadVar
      rw [Sem.run_bind, isAgg_run tS, Result.andThen_ok, tA]
      simp [hcv]
    have h4 : ∀ o : Oper, o.op = .load 29 (.tmp 23) → (execOp a5.eval o).run Tryz.prog w5 = .ok (.value v) w5 := by
      intro o ho
      unfold execOp
      simp only [ho]
      rw [Sem.run_bind]
      have : (Instr.loadAt 29 (a5.eval (.tmp 23))).run Tryz.prog w5 = .ok v w5 := by
        rw [e23]; simp [Instr.loadAt, Instr.sureAddr, hload]
      rw [this]; rfl
    refine wpl rfl (h4 _ rfl) ?_
    refine wpl rfl (move_op (X := .int .i64 (k + szTN p + 1)) rfl (by simp [eval_put, e1'])) ?_
    refine wpl_call rfl (run_enter rfl Tryz.func134 (by decide) rfl (u := v) (v := .int .i64 (k + szTN p + 1)) (by simp [eval_put, put_size]; intro h; omega) (by simp [eval_put, put_size]; intro h; omega)) ?_
    refine hC.mono fun e w' hh => ?_
    obtain ⟨rfl, D⟩ := hh
    refine ⟨_, rfl, ?_⟩
    have M6 := M5.app (Done.pure (np := an135.np) M5.rel.inv (.dead v)) (fun _ h => h) (some 24) (fun s hs => by simp at hs; omega)
    have M7 := M6.app (Done.pure (np := an135.np) M6.rel.inv (.int .i64 (k + szTN p + 1))) (fun _ h => h) (some 25) (fun s hs => by simp at hs; omega)
    have M8 := M7.app D (fun i hi => hi) (some 26) (fun s hs => by simp at hs; omega)
    refine rops_take hOps 1 (τ := ?_) M8 ?_ ?_ ?_
    rotate_left
    · simp [go_sem]; exact rfl
    · simp [dstIn]
    intro w9 ι9 a9 M9
    show Code.wp _ _ _ _ _
    refine piece hOps M9 (e := .normal) (τ := ?_) ?_ ?_ ?_ ?_
    rotate_left
    · simp [go_sem, wrap_id (n := (p.length : Int) + 1) (by omega)]; exact rfl
    · rfl
    · trivial
    intro w10 ι10 a10 M10
    have hs1 : szTN (p ++ [x]) = szTN p + 1 + x.2.length := by simp [szTN_app, szTN]; omega
    have M11 : Mid an135.np 28 w ι w10 (stMH k l.length (p ++ [x]) q) ι10 a10 := by
      refine M10.fewer (fun s => ?_) ?_
      · simp only [stMH, SS, U, D0, hs1, List.length_append, List.length_cons, List.length_nil]
        by_cases h0 : s = 0 <;> by_cases h1 : s = 1 <;> by_cases h5 : s = 5 <;> simp_all <;> omega
      · simp [stMH, HS, mkTN_app, mkTN, eTN]
    have hm10 : a10.tmps.getD 5 undef = .int .i64 (p.length + 1 : Nat) := by
      have := M11.rel.slots 5
      simp only [stMH, SS, U] at this
      simp at this
      generalize hx : a10.tmps.getD 5 undef = y
      have hx' : a10.tmps[5]?.getD undef = y := by simpa using hx
      rw [hx'] at this
      cases this
      simp
    refine ⟨⟨p ++ [x], q, ι10, by rw [hpq]; simp, M11⟩, ?_⟩
    rw [hm10, hm]
    show l.length - ((p.length + 1 : Nat) : Int).toNat < l.length - ((p.length : Nat) : Int).toNat
    omega
end Go.Proofs.YtdcgfapededocaaGreat


