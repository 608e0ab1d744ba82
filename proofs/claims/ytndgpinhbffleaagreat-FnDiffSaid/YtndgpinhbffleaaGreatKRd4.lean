/- A reading of the loaded code over plain data, its soundness, and what functions answer by it (part 4; joined by program). No condition. -/
import Derived.Test.YtndgpinhbffleaaGreatKRd3
import Derived.Laws.Cells
import Derived.Laws.CopyRow
set_option linter.all false
namespace Go.Proofs.YtndgpinhbffleaaGreat
open Go Go.RowKit

theorem tyi_spec {P : Program} {t : TypeId} {i : TyI} (h : tyi P t = some i) : ∃ inf d z, P.info? t = some inf ∧ P.underlying t = some d ∧ inf.size = i.size ∧ inf.bytes = i.bytes ∧ i.ag = tagg P t ∧ inf.zero = some z ∧ z.cells.toList.map AV.ofCell = i.zero ∧ i.kind = tkind P t := by
  unfold tyi at h
  split at h
  · rename_i inf d h1 h2
    split at h
    · rename_i z h3
      split at h
      · injection h with h; subst h
        exact ⟨inf, d, z, h1, h2, rfl, rfl, rfl, h3, rfl, rfl⟩
      · cases h
    · cases h
  · cases h
theorem tyi_zform {P : Program} {t : TypeId} {i : TyI} (h : tyi P t = some i) {inf : TypeInfo} {z : Value} (h1 : P.info? t = some inf) (h2 : inf.zero = some z) : zform i.ag z = true := by
  unfold tyi at h
  split at h
  · rename_i inf' d h1' h2'
    rw [h1] at h1'; injection h1' with h1'; subst h1'
    split at h
    · rename_i z' h3
      rw [h2] at h3; injection h3 with h3; subst h3
      split at h
      · rename_i hz
        injection h with h; subst h
        exact hz
      · cases h
    · cases h
  · cases h
section
variable {P : Program} {t : TypeId} {w : World}
theorem underlying_run {d : TypeDesc} (h : P.underlying t = some d) : (underlying t).run P w = .ok d w := by
  simp [underlying, program, Sem.run, h]
theorem tkind_slice {e : TypeId} (h : tkind P t = .slice e) : P.underlying t = some (.slice e) := by
  unfold tkind at h; split at h <;> simp_all
theorem tkind_str (h : tkind P t = .str) : P.underlying t = some .string := by
  unfold tkind at h; split at h <;> simp_all
theorem tkind_int {k : IntKind} (h : tkind P t = .int k) : P.underlying t = some (.int k) := by
  unfold tkind at h; split at h <;> simp_all
theorem tkind_strct {fs : List (Nat × Nat × Bool)} (h : tkind P t = .strct fs) : ∃ gs, P.underlying t = some (.struct gs) ∧ fs = gs.toList.map fun f => (f.offset, tsize P f.type, tagg P f.type) := by
  unfold tkind at h; split at h <;> simp_all
theorem isAgg_run {d : TypeDesc} (h : P.underlying t = some d) : (isAgg t).run P w = .ok (tagg P t) w := by
  simp only [isAgg, Sem.run_bind, underlying_run h, Result.andThen_ok, tagg, h]
  cases d <;> rfl
theorem sizeOf_run {i : TypeInfo} (h : P.info? t = some i) : (Go.sizeOf t).run P w = .ok i.size w := by
  simp [Go.sizeOf, typeInfo, program, Sem.run, h]
theorem typeInfo_run {i : TypeInfo} (h : P.info? t = some i) : (typeInfo t).run P w = .ok i w := by
  simp [typeInfo, program, Sem.run, h]
theorem zeroValue_run {i : TypeInfo} {z : Value} (h : P.info? t = some i) (hz : i.zero = some z) : (zeroValue t).run P w = .ok z w := by
  simp [zeroValue, typeInfo_run h, hz]
end
theorem add_at (b off j : Nat) : (⟨b, off, none⟩ : Addr).add j = ⟨b, off + j, none⟩ := by
  unfold Addr.add; split <;> simp_all

section
variable {P : Program} {np : Nat} {g : Heap} {w : World} {ι : Map}
/-- An effect that is a value alone. -/
theorem Done.pure (I : Inv w g ι) {u : AV} {v : Value} (h : Rep w (Own ι) ι u v) : Done np g w ι { val := u } v w ι :=
  ⟨Ext.refl _ _, h, (by intro _ _ h; cases h), (fun _ _ _ => ⟨rfl, rfl⟩), (fun _ _ _ => rfl), (fun _ _ _ h => .inl h), (fun _ _ h => .inl h), I.inj, I.sep, I.live, (by intro _ h; cases h), (by intro _ _ h; cases h), .nil, (by intro _ h; cases h), fun _ _ => ⟨rfl, rfl⟩⟩
theorem OpOK.pure (I : Inv w g ι) {o : Oper} {a : Act} {u : AV} {v : Value} (hr : (execOp a.eval o).run P w = .ok (.value v) w) (h : Rep w (Own ι) ι u v) : OpOK P np g o a w ι { val := u } := by
  intro next Q hn
  unfold Oper.wp
  rw [hr]
  exact hn v w ι (Done.pure I h)

theorem Rep.leaf {O : Nat → Prop} {v : AV} {x : Value} (h : Rep w O ι v x) (hl : leaf v = true) : x.oneCell' = true := by
  cases h <;> first | rfl | (simp [Go.Proofs.YtndgpinhbffleaaGreat.leaf] at hl)
theorem Rep.plain {w : World} {O O' : Nat → Prop} {ι ι' : Map} {c : AV} {x : Value} (r : Rep w O ι c x) (h : plainC c = true) : Rep w O' ι' c x := by
  cases r with
  | int k n => exact .int k n
  | bool b => exact .bool b
  | str hs => exact .str hs
  | nil a => exact .nil a
  | slE m a cap => exact .slE m a cap
  | nilfn => exact .nilfn
  | niliface => exact .niliface
  | nilptr => exact .nilptr
  | sl cell hn => 
    rename_i m es b off cap len hlen hcap hob hb hm hc hcell h1 hr
    cases es with
    | nil => exact absurd rfl hn
    | cons _ _ => simp [plainC] at h
  | _ => simp [plainC] at h
theorem veilC_rep {w : World} {O O' : Nat → Prop} {ι ι' : Map} {c : AV} {x : Value} (r : Rep w O ι c x) : Rep w O' ι' (veilC c) x := by
  unfold veilC
  split
  · rename_i h; exact r.plain h
  · exact .dead _
theorem veilL_length (b : Blk) (cs : List AV) : (veilL b cs).length = cs.length := by
  unfold veilL
  split <;> simp
theorem veilL_rep {w : World} {O n : Nat → Prop} {ι : Map} {b : Blk} {cs : List AV} {j : Nat} {x : Value} (r : Rep w (ob O n b) ι (cs.getD j .dead) x) : Rep w O ι ((veilL b cs).getD j .dead) x := by
  unfold veilL
  split
  · rename_i h
    exact r.mono (Ext.refl _ w) (fun k _ hk => ⟨hk, fun hs => by rw [h] at hs; cases hs⟩) _ fun _ _ h => h
  · by_cases hj : j < cs.length
    · have := veilC_rep (O' := O) (ι' := ι) r
      simpa [hj] using this
    · simp [hj]; exact .dead _
theorem cellsOf_veilE (e : AV) : cellsOf (veilE e) = (cellsOf e).map veilC := by
  cases e with
  | agg cs => rfl
  | sl m es => cases es <;> simp [veilE, veilC, plainC, cellsOf]
  | _ => simp [veilE, veilC, plainC, cellsOf]
theorem cellsOf_veil (b : Blk) (e : AV) : cellsOf (match b.sub with
    | none => e
    | some _ => veilE e) = veilL b (cellsOf e) := by
  unfold veilL
  cases b.sub with
  | none => rfl
  | some t => exact cellsOf_veilE e
theorem veil_length (b : Blk) (es : List AV) : (veil b es).length = es.length := by
  unfold veil
  split <;> simp
theorem veil_getD (b : Blk) (es : List AV) (i : Nat) : cellsOf ((veil b es).getD i .dead) = veilL b (cellsOf (es.getD i .dead)) := by
  rw [← cellsOf_veil]
  unfold veil
  cases hb : b.sub with
  | none => rfl
  | some t =>
    simp only []
    by_cases hi : i < es.length
    · simp [hi]
    · simp [hi, veilE, veilC, plainC]
/-- Cells at an address, as the machine has them. -/
theorem cellsAt_spec (I : Inv w g ι) {v : AV} {x : Value} {cs : List AV} (e : cellsAt g v = some cs) (r : Rep w (Own ι) ι v x) :
    ∃ (b off : Nat) (cell : Nat → Value), x = .pointer (some ⟨b, off, none⟩) ∧ (∀ j, j < cs.length → w.cell? ⟨b, off + j, none⟩ = some (cell j) ∧ (cell j : Value).oneCell' = true ∧ Rep w (Own ι) ι (cs.getD j .dead) (cell j)) := by
  cases r with
  | ptr hι =>
    rename_i id idx off k sz
    unfold cellsAt at e
    cases hb : g id with
    | none => simp [hb] at e
    | some b =>
      simp only [hb] at e
      split at e
      · rename_i hlt
        injection e with e; subst e
        rcases I.blk id b hb with ⟨h1, _, _⟩ | ⟨k', cs, h1, h2, h3, h4, h5, h6, h8, h7, _⟩
        · rw [h1] at hlt; simp at hlt
        · rw [hι] at h1; injection h1 with h1; injection h1 with e1 e2; subst e1; subst e2
          have hm := Nat.mul_le_mul_right b.sz (Nat.succ_le_of_lt hlt)
          rw [Nat.succ_mul] at hm
          refine ⟨k, idx * b.sz + off, fun j => cs.getD (idx * b.sz + off + j) undef, rfl, fun j hj => ?_⟩
          rw [List.length_drop, veilL_length, h5 idx hlt] at hj
          refine ⟨cell?_of_cells h2 (by omega), h8 _ (by omega), ?_⟩
          have := veilL_rep (h7 idx (off + j) hlt (by omega)).upIn
          rw [← Nat.add_assoc] at this
          simpa [List.getElem?_drop] using this
      · cases e
  | rptr cell hob hb hcell h1 hr =>
    unfold cellsAt at e; injection e with e; subst e
    exact ⟨_, _, cell, rfl, fun j hj => ⟨hcell j hj, h1 j hj, (hr j hj).up⟩⟩
  | _ => simp [cellsAt] at e
theorem loadVar_run {t : TypeId} {i : TyI} (hi : tyi P t = some i) (hs : 0 < i.size) {b off : Nat} {cs : List AV} {cell : Nat → Value} (hl : i.size ≤ cs.length) {O : Nat → Prop}
    (h : ∀ j, j < cs.length → w.cell? ⟨b, off + j, none⟩ = some (cell j) ∧ (cell j : Value).oneCell' = true ∧ Rep w O ι (cs.getD j .dead) (cell j)) :
    ∃ v, (loadVar t ⟨b, off, none⟩).run P w = .ok v w ∧ Rep w O ι (mkVal i.ag (cs.take i.size)) v := by
  obtain ⟨inf, d, z, h1, h2, h3, h4, h5, h6, h7, h8⟩ := tyi_spec hi
  unfold loadVar
  rw [Sem.run_bind, isAgg_run h2, Result.andThen_ok]
  cases hg : tagg P t with
  | true =>
    have hc := run_loadCells (P := P) w ⟨b, off, none⟩ i.size cell (fun j hj => by rw [add_at]; exact (h j (by omega)).1)
    refine ⟨_, by simp [sizeOf_run h1, h3, hc]; rfl, ?_⟩
    rw [h5, hg]
    simp only [mkVal, if_true]
    refine .agg (by simp; omega) fun j hj => ?_
    have hj' : j < i.size := by simp at hj; omega
    simp [hj']
    have := (h j (by omega)).2.2
    simpa [List.getElem?_take, hj'] using this
  | false =>
    refine ⟨cell 0, ?_, ?_⟩
    · simp; rw [show w.cell? ⟨b, off, none⟩ = some (cell 0) from (h 0 (by omega)).1]
    · rw [h5, hg]
      simp only [mkVal]
      have := (h 0 (by omega)).2.2
      cases cs with
      | nil => simp at hl; omega
      | cons c cs =>
        obtain ⟨n, hn⟩ : ∃ n, i.size = n + 1 := ⟨i.size - 1, by omega⟩
        simpa [hn] using this
theorem aload_spec (I : Inv w g ι) {t : TypeId} {v u : AV} {x : Value} (e : aload P g t v = some u) (r : Rep w (Own ι) ι v x) : ∃ y, (Instr.loadAt t x).run P w = .ok y w ∧ Rep w (Own ι) ι u y := by
  unfold aload at e
  split at e
  · rename_i i cs hi hc
    split at e
    · rename_i hl
      injection e with e; subst e
      obtain ⟨b, off, cell, rfl, h⟩ := cellsAt_spec I hc r
      obtain ⟨y, hy, hr⟩ := loadVar_run hi hl.1 hl.2 h
      exact ⟨y, by simp [Instr.loadAt, Instr.sureAddr, hy], hr⟩
    · cases e
  · cases e
end
end Go.Proofs.YtndgpinhbffleaaGreat


namespace Go.Proofs.YtndgpinhbffleaaGreat
open Go Go.RowKit

section
variable {P : Program} {g : Heap} {w : World} {ι : Map} {O : Nat → Prop}
theorem tsize_pos' {t : TypeId} (h : 0 < tsize P t) : ∃ i d, P.info? t = some i ∧ P.underlying t = some d ∧ i.size = tsize P t := by
  unfold tsize at *
  cases hi : P.info? t with
  | none => simp [hi] at h
  | some i =>
    cases hd : P.underlying t with
    | none => simp [hi, hd] at h
    | some d => exact ⟨i, d, rfl, rfl, by simp⟩
theorem tsize_pos {t : TypeId} (h : 0 < tsize P t) : ∃ i, P.info? t = some i ∧ i.size = tsize P t := by
  obtain ⟨i, _, h1, _, h2⟩ := tsize_pos' h
  exact ⟨i, h1, h2⟩
theorem afieldAddr_spec {t : TypeId} {f : Nat} {v u : AV} {x : Value} (e : afieldAddr P t v f = some u) (r : Rep w O ι v x) : ∃ y, (Instr.fieldAt t x f).run P w = .ok y w ∧ Rep w O ι u y := by
  unfold afieldAddr at e
  split at e
  · rename_i fs hk
    obtain ⟨gs, hu, rfl⟩ := tkind_strct hk
    have main : ∀ fd : Field, gs.toList[f]? = some fd → 0 < tsize P fd.type → ∀ b off, (Instr.fieldAt t (.pointer (some ⟨b, off, none⟩)) f).run P w = .ok (.pointer (some ⟨b, off + fd.offset, none⟩)) w := by
      intro fd hf hs b off
      obtain ⟨i, hi, his⟩ := tsize_pos hs
      have hf' : gs[f]? = some fd := by simpa using hf
      have hne : ¬ i.size = 0 := by omega
      simp [Instr.fieldAt, underlying_run hu, hf', Instr.sureAddr, fieldPlace, sizeOf_run hi, hne, add_at]
    split at e
    · rename_i off n _ id idx o hf
      split at e
      · rename_i hn
        injection e with e; subst e
        cases hg : gs.toList[f]? with
        | none => simp [hg] at hf
        | some fd =>
          simp [hg] at hf
          obtain ⟨h1, h2, h3⟩ := hf
          cases r with
          | ptr hι =>
            refine ⟨_, main fd hg (by omega) _ _, ?_⟩
            rw [Nat.add_assoc, h1]
            exact .ptr hι
      · cases e
    · rename_i off n _ cs hf
      split at e
      · rename_i hn
        injection e with e; subst e
        cases hg : gs.toList[f]? with
        | none => simp [hg] at hf
        | some fd =>
          simp [hg] at hf
          obtain ⟨h1, h2, h3⟩ := hf
          cases r with
          | rptr cell hob hb hcell hc1 hr =>
            refine ⟨_, main fd hg (by omega) _ _, ?_⟩
            rw [h1]
            refine .rptr (fun j => cell (off + j)) hob hb (fun j hj => ?_) (fun j hj => ?_) (fun j hj => ?_)
            · rw [List.length_drop] at hj; rw [Nat.add_assoc]; exact hcell (off + j) (by omega)
            · rw [List.length_drop] at hj; exact hc1 (off + j) (by omega)
            · rw [List.length_drop] at hj
              have := hr (off + j) (by omega)
              simpa [List.getElem?_drop] using this
      · cases e
    · cases e
  · cases e
theorem aindexAddr_spec (I : Inv w g ι) {t : TypeId} {v i u : AV} {x y : Value} (e : aindexAddr P g t v i = some u) (r : Rep w (Own ι) ι v x) (ri : Rep w (Own ι) ι i y) : ∃ z, (Instr.indexAt t x y).run P w = .ok z w ∧ Rep w (Own ι) ι u z := by
  unfold aindexAddr at e
  split at e
  · rename_i el m es k n hk
    split at e
    · rename_i hc
      injection e with e; subst e
      obtain ⟨hm, h0, hn⟩ := hc
      cases ri
      have hu := tkind_slice hk
      cases r with
      | slE => simp at hn
      | sl cell hne hlen hcap hob hb hm' hcs hcell hc1 hr =>
        rename_i b off cap len
        obtain ⟨inf, hi, his⟩ := tsize_pos (P := P) (t := el) (by omega)
        have hlt : 0 ≤ n ∧ n < (len : Int) := by omega
        refine ⟨.pointer (some ⟨b, off + n.toNat * m, none⟩), ?_, ?_⟩
        · simp [Instr.indexAt, asIntOf, underlying_run hu, hlt, sizeOf_run hi, his, ← hm, add_at]
        · refine .rptr (fun j => cell n.toNat j) hob hb (fun j hj => ?_) (fun j hj => ?_) (fun j hj => ?_)
          · rw [hcs _ hn] at hj; exact hcell _ _ hn hj
          · rw [hcs _ hn] at hj; exact hc1 _ _ hn hj
          · rw [hcs _ hn] at hj; exact hr _ _ hn hj
    · cases e
  · rename_i el id off len k n hk
    cases hb : g id with
    | none => simp [hb] at e
    | some b =>
      simp only [hb] at e
      split at e
      · rename_i hc
        injection e with e; subst e
        obtain ⟨hm, h0, hn⟩ := hc
        cases ri
        have hu := tkind_slice hk
        cases r with
        | refE => omega
        | ref hι hs hcap hnn =>
          rename_i cap kb sz nn ty
          rcases I.blk id b hb with ⟨_, _, h3⟩ | ⟨k', cs, h1, h2, h3, _⟩
          · rw [h3] at hι; cases hι
          · rw [hι] at h1; injection h1 with h1; injection h1 with e1 e2; subst e1; subst e2
            obtain ⟨inf, hi, his⟩ := tsize_pos (P := P) (t := el) (by omega)
            have hlt : 0 ≤ n ∧ n < (len : Int) := by omega
            refine ⟨.pointer (some ⟨kb, (off + n.toNat) * b.sz + 0, none⟩), ?_, .ptr hι⟩
            simp [Instr.indexAt, asIntOf, underlying_run hu, hlt, sizeOf_run hi, his, ← hm, add_at, Nat.add_mul]
      · cases e
  · cases e
theorem aindex_spec {t : TypeId} {v i u : AV} {x y : Value} (e : aindex P t v i = some u) (r : Rep w O ι v x) (ri : Rep w O ι i y) : ∃ z, (Instr.index t x y).run P w = .ok z w ∧ Rep w O ι u z := by
  unfold aindex at e
  split at e
  · rename_i s k n hk
    split at e
    · rename_i hc
      injection e with e; subst e
      obtain ⟨h0, hn⟩ := hc
      have hu := tkind_str hk
      cases ri
      cases r with
      | str hs =>
        rename_i b
        have hb : n.toNat < b.size := by rw [← hs] at hn; simpa using hn
        refine ⟨.int .u8 b[n.toNat].toNat, ?_, ?_⟩
        · simp [Instr.index, asIntOf, underlying_run hu, h0, hb]
        · have : s.getD n.toNat 0 = b[n.toNat] := by
            subst hs
            simp only [List.getD_eq_getElem?_getD]
            rw [List.getElem?_eq_getElem hn]
            simp
            rfl
          rw [this]; exact .int _ _
    · cases e
  · cases e
theorem aun_spec {op : UnOp} {v u : AV} {x : Value} (e : aun op v = some u) (r : Rep w O ι v x) : ∃ z, (Op.unary op x).run P w = .ok z w ∧ Rep w O ι u z := by
  unfold aun at e
  split at e
  · injection e with e; subst e; cases r; exact ⟨_, rfl, .bool _⟩
  · injection e with e; subst e; cases r; exact ⟨_, rfl, .int _ _⟩
  · cases e
theorem apick_spec {c a b u : AV} {x y z : Value} (e : apick c a b = some u) (rc : Rep w O ι c x) (ra : Rep w O ι a y) (rb : Rep w O ι b z) : ∃ t, x = .bool t ∧ Rep w O ι u (if t then y else z) := by
  unfold apick at e
  split at e
  · injection e with e; subst e; cases rc; cases ra; cases rb
    rename_i t _ _
    refine ⟨t, rfl, ?_⟩
    cases t <;> exact .bool _
  · injection e with e; subst e
    generalize hx : x = x' at rc
    cases rc
    refine ⟨_, rfl, ?_⟩
    split <;> assumption
  · cases e
theorem afield_spec {t : TypeId} {f : Nat} {v u : AV} {x : Value} (e : afield P t v f = some u) (r : Rep w O ι v x) : ∃ y, (Instr.field t x f).run P w = .ok y w ∧ Rep w O ι u y := by
  unfold afield at e
  split at e
  · rename_i fs cs hk
    obtain ⟨gs, hu, rfl⟩ := tkind_strct hk
    split at e
    · rename_i off n ag hf
      split at e
      · rename_i hc
        injection e with e; subst e
        cases hg : gs.toList[f]? with
        | none => simp [hg] at hf
        | some fd =>
          simp [hg] at hf
          obtain ⟨h1, h2, h3⟩ := hf
          obtain ⟨i, d, hi, hud, his⟩ := tsize_pos' (P := P) (t := fd.type) (by omega)
          have hf' : gs[f]? = some fd := by simpa using hg
          cases r with
          | agg hl hr =>
            rename_i vs
            subst h1
            cases ag with
            | true =>
              refine ⟨.agg (vs.extract fd.offset (fd.offset + n)), by simp [Instr.field, underlying_run hu, hf', part, asAgg, isAgg_run hud, h3, sizeOf_run hi, his, h2], ?_⟩
              simp only [mkVal, if_true]
              refine .agg (by simp; omega) fun j hj => ?_
              have hj' : j < n := by simp at hj; omega
              have := hr (fd.offset + j) (by omega)
              have h4 : (vs.extract fd.offset (fd.offset + n)).getD j undef = vs.getD (fd.offset + j) undef := by
                simp [Array.getElem?_extract]; rw [if_pos (by omega)]
              rw [h4]
              simpa [List.getElem?_take, List.getElem?_drop, hj'] using this
            | false =>
              have hlt : fd.offset < vs.size := by omega
              refine ⟨vs[fd.offset], by simp [Instr.field, underlying_run hu, hf', part, asAgg, isAgg_run hud, h3, hlt], ?_⟩
              have := hr fd.offset (by omega)
              have h5 : vs.getD fd.offset undef = vs[fd.offset] := by simp [hlt]
              rw [h5] at this
              obtain ⟨m, hm⟩ : ∃ m, n = m + 1 := ⟨n - 1, by omega⟩
              have h6 : mkVal false ((cs.drop fd.offset).take n) = cs.getD fd.offset .dead := by
                simp [mkVal, hm, List.head?_take, List.head?_drop]
              rw [h6]; exact this
      · cases e
    · cases e
  · cases e
end
end Go.Proofs.YtndgpinhbffleaaGreat

