/- A reading of the loaded code over plain data, its soundness, and what functions answer by it (part 6; joined by program). No condition. -/
import Derived.Test.YtndgpinhbffleaaGreatKRd5
import Derived.Laws.AppendOwn
import Derived.Laws.MakeOwn
set_option linter.all false
namespace Go.Proofs.YtndgpinhbffleaaGreat
open Go Go.RowKit

theorem ofCell_rep {w : World} {O : Nat → Prop} {ι : Map} (v : Value) : Rep w O ι (AV.ofCell v) v := by
  unfold AV.ofCell
  split <;> first | exact .str rfl | constructor
/-- A type's zero value, cell by cell. -/
theorem zero_cells {P : Program} {t : TypeId} {i : TyI} (h : tyi P t = some i) : ∃ inf d z, P.info? t = some inf ∧ P.underlying t = some d ∧ inf.size = i.size ∧ inf.bytes = i.bytes ∧ inf.zero = some z ∧ z.cells.size = i.zero.length ∧
    (∀ (w : World) (O : Nat → Prop) (ι : Map) (j : Nat), j < i.zero.length → Rep w O ι (i.zero.getD j .dead) (z.cells.getD j undef)) ∧ (∀ (w : World) (O : Nat → Prop) (ι : Map), Rep w O ι (mkVal i.ag i.zero) z) ∧
    (i.zero.all leaf = true → cellsOf (mkVal i.ag i.zero) = i.zero ∧ ∀ j, j < i.zero.length → (z.cells.getD j undef).oneCell' = true) := by
  obtain ⟨inf, d, z, h1, h2, h3, h4, h5, h6, h7, h8⟩ := tyi_spec h
  have hz := tyi_zform h h1 h6
  have hlen : z.cells.size = i.zero.length := by rw [← h7]; simp
  have hrep : ∀ (w : World) (O : Nat → Prop) (ι : Map) (j : Nat), j < i.zero.length → Rep w O ι (i.zero.getD j .dead) (z.cells.getD j undef) := by
    intro w O ι j hj
    have hj' : j < z.cells.size := by omega
    rw [← h7]
    simp [hj']
    exact ofCell_rep _
  refine ⟨inf, d, z, h1, h2, h3, h4, h6, hlen, hrep, fun w O ι => ?_, fun hf => ⟨?_, fun j hj => ?_⟩⟩
  · cases z with
    | agg cs =>
      simp only [zform] at hz
      rw [hz]
      exact .agg (by rw [← hlen]; rfl) fun j hj => hrep w O ι j hj
    | _ =>
      all_goals
        have hz' : i.ag = false := by simpa [zform] using hz
        rw [hz', ← h7]
        simp only [Value.cells, List.map_cons, List.map_nil, mkVal, List.headD_cons, Bool.false_eq_true, if_false]
        exact ofCell_rep _
  · cases z with
    | agg cs =>
      simp only [zform] at hz
      rw [hz]; rfl
    | _ =>
      all_goals
        have hz' : i.ag = false := by simpa [zform] using hz
        rw [hz', ← h7]
        rw [← h7] at hf
        simp only [Value.cells, List.map_cons, List.map_nil, mkVal, List.headD_cons, Bool.false_eq_true, if_false] at hf ⊢
        exact leaf_cells (by simpa using hf)
  · refine (hrep default (fun _ => False) noMap j hj).leaf ?_
    rw [List.all_eq_true] at hf
    refine hf _ ?_
    simp [hj]
theorem madeCells_at {z : Array Value} {n p : Nat} (h : p < n) : (madeCells z n).getD p undef = z[p % z.size]! := by simp [madeCells, h]
section
variable {P : Program} {np : Nat} {g : Heap} {w : World} {ι : Map}
theorem getD_bang {z : Array Value} {j : Nat} (h : j < z.size) : z[j]! = z.getD j undef := by simp [h]
/-- A new row of zeros, cell by cell. -/
theorem made_rep {i : TyI} {z : Value} {n : Nat} (h0 : 0 < i.size) (hzl : i.zero.length = i.size) (hz : z.cells.size = i.zero.length) (hc : cellsOf (mkVal i.ag i.zero) = i.zero) (h1 : ∀ j, j < i.zero.length → (z.cells.getD j undef).oneCell' = true)
    (hr : ∀ (w : World) (O : Nat → Prop) (ι : Map) (j : Nat), j < i.zero.length → Rep w O ι (i.zero.getD j .dead) (z.cells.getD j undef)) :
    (∀ k, k < n → (cellsOf ((List.replicate n (mkVal i.ag i.zero)).getD k .dead)).length = i.size) ∧ (∀ o, o < n * i.size → ((madeCells z.cells (n * i.size)).getD o undef).oneCell' = true) ∧
    ∀ (w : World) (O : Nat → Prop) (ι : Map) (k j : Nat), k < n → j < i.size → Rep w O ι ((cellsOf ((List.replicate n (mkVal i.ag i.zero)).getD k .dead)).getD j .dead) ((madeCells z.cells (n * i.size)).getD (k * i.size + j) undef) := by
  have hg : ∀ k, k < n → cellsOf ((List.replicate n (mkVal i.ag i.zero)).getD k .dead) = i.zero := by intro k hk; simp [hk]; exact hc
  refine ⟨fun k hk => by rw [hg k hk, hzl], fun o ho => ?_, fun w O ι k j hk hj => ?_⟩
  · rw [madeCells_at ho, hz, hzl]
    have := Nat.mod_lt o h0
    rw [getD_bang (by omega)]
    exact h1 _ (by omega)
  · have hlt : k * i.size + j < n * i.size := by
      have := Nat.mul_le_mul_right i.size (Nat.succ_le_of_lt hk)
      rw [Nat.succ_mul] at this; omega
    rw [hg k hk, madeCells_at hlt, hz, hzl, Nat.mul_comm k, Nat.mul_add_mod, Nat.mod_eq_of_lt hj, getD_bang (by omega)]
    exact hr _ _ _ _ (by omega)

/-- A variable of its own. -/
theorem newVar_spec (I : Inv w g ι) {d : Id} {t : TypeId} {n : Nat} {v : AV} {x : Value} (hd : ∀ k, Foot ι d k → (g d).isSome = true) (hnp : np ≤ d.headD 0) (hph : ph d = false) (h0 : 0 < n) (hl : (cellsOf v).length = n) (hs : x.cells.size = n)
    (hr : ∀ j, j < n → Rep w (Own ι) ι ((cellsOf v).getD j .dead) (x.cells.getD j undef)) (h1 : ∀ j, j < n → (x.cells.getD j undef).oneCell' = true) :
    Done np g w ι (newAt g d { isVar := true, ty := t, sz := n, els := [v] } (.ptr d 0 0)) (.pointer (some ⟨w.heap.size, 0, none⟩)) (push w (.cells x.cells t)) (setMap ι d (w.heap.size, n) noN) := by
  have key := Done.newBlk (np := np) (b := { isVar := true, ty := t, sz := n, els := [v] }) (cs := x.cells) (v := .ptr d 0 0) (x := .pointer (some ⟨w.heap.size, 0, none⟩)) (K := []) (N := noN) I (by simp) hd hnp hph (fun _ h => h.elim) (fun _ _ h => h) h0 (fun _ => rfl)
    (fun i hi => by simp at hi; subst hi; exact hl) (by simp [hs]) (fun o ho => h1 o (by simpa using ho)) (fun i j hi hj => by
      simp at hi; subst hi
      rw [without_nil]
      have := (hr j hj).less (O' := ob (Own ι) noN { isVar := true, ty := t, sz := n, els := [v] }) fun _ h => h.1
      simpa [inMap] using this) (.var rfl)
    (by rw [without_nil]
        have h : setMap ι d (w.heap.size, n) noN d = some (w.heap.size, n) := by simp [setMap]
        have := Rep.ptr (w := push w (.cells x.cells t)) (O := Own (setMap ι d (w.heap.size, n) noN)) (idx := 0) (off := 0) h
        simpa using this)
  rw [without_nil, eff_nil] at key
  exact key
/-! Parts put into cells -/
theorem setCells_at (l : List Value) : ∀ (k off : Nat) (cells : Array Value), off + k + l.length ≤ cells.size → ((l.zipIdx k).foldl (fun cs (p : Value × Nat) => cs.setIfInBounds (off + p.2) p.1) cells).size = cells.size ∧
    ∀ p, ((l.zipIdx k).foldl (fun cs (p : Value × Nat) => cs.setIfInBounds (off + p.2) p.1) cells).getD p undef = if off + k ≤ p ∧ p < off + k + l.length then l.getD (p - (off + k)) undef else cells.getD p undef := by
  induction l with
  | nil => intro k off cells h; refine ⟨rfl, fun p => ?_⟩; rw [if_neg (by simp only [List.length_nil]; omega)]; rfl
  | cons v l ih =>
    intro k off cells h
    simp only [List.zipIdx_cons, List.foldl_cons, List.length_cons] at h ⊢
    obtain ⟨h1, h2⟩ := ih (k + 1) off (cells.setIfInBounds (off + k) v) (by simp; omega)
    refine ⟨by rw [h1]; simp, fun p => ?_⟩
    rw [h2]
    by_cases hp : off + (k + 1) ≤ p ∧ p < off + (k + 1) + l.length
    · rw [if_pos hp, if_pos (by omega)]
      obtain ⟨q, hq⟩ : ∃ q, p - (off + k) = q + 1 := ⟨p - (off + k) - 1, by omega⟩
      rw [hq, show p - (off + (k + 1)) = q from by omega]
      simp
    · rw [if_neg hp]
      by_cases he : p = off + k
      · subst he
        rw [if_pos (by omega)]
        simp [show off + k < cells.size from by omega]
      · rw [if_neg (by omega)]
        have : ¬ off + k = p := fun h => he h.symm
        simp only [Array.getD_eq_getD_getElem?, Array.getElem?_setIfInBounds, this, if_false]
theorem fill_step (place : Nat → Option (Nat × Nat)) {i off n : Nat} (hp : place i = some (off, n)) {cells : Array Value} {v : Value} (hs : v.cells.size = n) (hn : off + n ≤ cells.size) (rest : List (Nat × Value)) :
    ∃ cells', Instr.fill place cells ((i, v) :: rest) = Instr.fill place cells' rest ∧ cells'.size = cells.size ∧ ∀ p, cells'.getD p undef = if off ≤ p ∧ p < off + n then v.cells.getD (p - off) undef else cells.getD p undef := by
  obtain ⟨h1, h2⟩ := setCells_at v.cells.toList 0 off cells (by simp; omega)
  refine ⟨_, ?_, h1, fun p => ?_⟩
  · rw [Instr.fill]
    simp only [hp, hs]
    rw [if_neg (by simp; omega)]
    congr 1
    rw [← Array.foldl_toList, Array.toList_zipIdx]
  · rw [h2]
    simp only [Nat.add_zero, Array.length_toList, hs]
    congr 1
    simp
theorem over_list {cs vs : List AV} {off : Nat} (h : off + vs.length ≤ cs.length) (j : Nat) : (cs.take off ++ vs ++ cs.drop (off + vs.length)).getD j .dead = if off ≤ j ∧ j < off + vs.length then vs.getD (j - off) .dead else cs.getD j .dead := by
  have ht : (cs.take off).length = off := by simp; omega
  simp only [List.getD_eq_getElem?_getD, List.append_assoc]
  by_cases h1 : j < off
  · rw [List.getElem?_append_left (by omega), if_neg (by omega), List.getElem?_take, if_pos h1]
  · rw [List.getElem?_append_right (by omega), ht]
    by_cases h2 : j < off + vs.length
    · rw [List.getElem?_append_left (by omega), if_pos (by omega)]
    · rw [List.getElem?_append_right (by omega), if_neg (by omega), List.getElem?_drop]
      congr 2; omega
theorem whole_cells {w : World} {O : Nat → Prop} {ι : Map} {v : AV} {y : Value} (r : Rep w O ι v y) (hf : whole v = true) :
    y.cells.size = (cellsOf v).length ∧ ∀ j, j < (cellsOf v).length → Rep w O ι ((cellsOf v).getD j .dead) (y.cells.getD j undef) := by
  cases r with
  | agg hl hr => exact ⟨hl.symm, hr⟩
  | dead => simp [whole, leaf] at hf
  | tuple => simp [whole, leaf] at hf
  | _ =>
    all_goals
      refine ⟨rfl, fun j hj => ?_⟩
      simp [cellsOf] at hj; subst hj
      first | exact .int _ _ | exact .bool _ | (exact .str (by assumption)) | exact .nil _ | exact .slE _ _ _ | (refine .sl ?_ ?_ ?_ ?_ ?_ ?_ ?_ ?_ ?_ ?_ ?_ <;> assumption) | (exact .ref (by assumption) (by assumption) (by assumption) (by assumption)) | exact .refE _ _ _ | (exact .ptr (by assumption)) | (refine .rptr ?_ ?_ ?_ ?_ ?_ ?_ <;> assumption) | (refine .fn ?_ ?_ <;> assumption) | exact .nilfn | (exact .iface (by assumption)) | exact .niliface | exact .nilptr
theorem setParts_spec {O : Nat → Prop} (place place' : Nat → Option (Nat × Nat)) (hpl : ∀ i p, place i = some p → place' i = some p) : ∀ (ps : List (Nat × AV)) (qs : List (Nat × Value)) (cs cs' : List AV) (cells : Array Value), ps.length = qs.length →
    (∀ k, k < ps.length → (ps.getD k (0, .dead)).1 = (qs.getD k (0, undef)).1 ∧ Rep w O ι (ps.getD k (0, .dead)).2 (qs.getD k (0, undef)).2) → cs.length = cells.size → (∀ j, j < cs.length → Rep w O ι (cs.getD j .dead) (cells.getD j undef)) → setParts cs ps place = some cs' →
    ∃ cells', Instr.fill place' cells qs = some cells' ∧ cs'.length = cells'.size ∧ cs'.length = cs.length ∧ ∀ j, j < cs'.length → Rep w O ι (cs'.getD j .dead) (cells'.getD j undef) := by
  intro ps
  induction ps with
  | nil =>
    intro qs cs cs' cells hl _ hs hr e
    cases qs with
    | nil => simp [setParts] at e; subst e; exact ⟨cells, rfl, hs, rfl, hr⟩
    | cons _ _ => simp at hl
  | cons p ps ih =>
    intro qs cs cs' cells hl hp hs hr e
    cases qs with
    | nil => simp at hl
    | cons q qs =>
      obtain ⟨i, v⟩ := p
      obtain ⟨i', x⟩ := q
      have hp0 := hp 0 (by simp)
      simp at hp0
      obtain ⟨rfl, hvx⟩ := hp0
      unfold setParts at e
      cases hpi : place i with
      | none => simp [hpi] at e
      | some on =>
        obtain ⟨off, n⟩ := on
        simp only [hpi] at e
        split at e
        · rename_i hc
          obtain ⟨hl1, hl2, hwh⟩ := hc
          obtain ⟨c1, c2⟩ := whole_cells hvx hwh
          obtain ⟨cells1, f1, f2, f3⟩ := fill_step place' (hpl _ _ hpi) (cells := cells) (v := x) (by omega) (by omega) qs
          subst hl1
          have hlen : (cs.take off ++ cellsOf v ++ cs.drop (off + (cellsOf v).length)).length = cs.length := by simp; omega
          obtain ⟨cells', g1, g2, g3, g4⟩ := ih qs _ cs' cells1 (by simpa using hl) (fun k hk => by have := hp (k + 1) (by simpa using hk); simpa using this) (by rw [hlen]; omega) (fun j hj => by
            rw [hlen] at hj
            rw [over_list hl2, f3]
            split
            · exact c2 _ (by omega)
            · exact hr j hj) e
          exact ⟨cells', by rw [f1]; exact g1, g2, by rw [g3, hlen], g4⟩
        · cases e
end
end Go.Proofs.YtndgpinhbffleaaGreat


namespace Go.Proofs.YtndgpinhbffleaaGreat
open Go Go.RowKit

section
variable {P : Program} {np : Nat} {g : Heap} {w : World} {ι : Map}
def PartsRep (w : World) (O : Nat → Prop) (ι : Map) (ps : List (Nat × AV)) (qs : List (Nat × Value)) : Prop :=
  ps.length = qs.length ∧ ∀ k, k < ps.length → (ps.getD k (0, .dead)).1 = (qs.getD k (0, undef)).1 ∧ Rep w O ι (ps.getD k (0, .dead)).2 (qs.getD k (0, undef)).2
theorem places_run (l : List Field) (h : ∀ f ∈ l, 0 < tsize P f.type) : (l.mapM fun f => (do pure (f.offset, ← Go.sizeOf f.type) : Sem (Nat × Nat))).run P w = .ok (l.map fun f => (f.offset, tsize P f.type)) w := by
  induction l with
  | nil => rfl
  | cons f l ih =>
    obtain ⟨i, hi, his⟩ := tsize_pos (h f (by simp))
    have := ih fun x hx => h x (by simp [hx])
    simp only [List.mapM_cons, Sem.run_bind, sizeOf_run hi, Result.andThen_ok, Sem.run_pure, his, this, List.map_cons]
theorem abuild_spec {O : Nat → Prop} {t : TypeId} {ps : List (Nat × AV)} {u : AV} {qs : Array (Nat × Value)} (e : abuild P t ps = some u) (hp : PartsRep w O ι ps qs.toList) : ∃ x, (Instr.build t qs).run P w = .ok x w ∧ Rep w O ι u x := by
  unfold abuild at e
  split at e
  · rename_i sz by' ag zero fs hi
    split at e
    · rename_i hall
      cases hs : setParts zero ps (fun i => (fs[i]?).map fun f => (f.1, f.2.1)) with
      | none => simp [hs] at e
      | some cs' =>
        simp [hs] at e; subst e
        obtain ⟨inf, d, z, h1, h2, h3, h4, h5, h6, h7, h8, _⟩ := zero_cells hi
        obtain ⟨_, _, _, _, _, _, _, _, _, _, hk⟩ := tyi_spec hi
        obtain ⟨gs, hu, rfl⟩ := tkind_strct hk.symm
        obtain ⟨cells', f1, f2, f3, f4⟩ := setParts_spec (w := w) (ι := ι) (O := O) _ (fun i => ((gs.toList.map fun f => (f.offset, tsize P f.type)).toArray)[i]?) (fun i p hpi => by
          simp only [List.getElem?_map] at hpi
          simp only [List.getElem?_toArray, List.getElem?_map]
          cases hg : gs.toList[i]? with
          | none => simp [hg] at hpi
          | some f => simp [hg] at hpi ⊢; exact hpi) ps qs.toList zero cs' z.cells hp.1 hp.2 h6.symm (fun j hj => h7 w O ι j hj) hs
        refine ⟨.agg cells', ?_, .agg f2 f4⟩
        have hpl := places_run (P := P) (w := w) gs.toList fun f hf => by
          rw [List.all_eq_true] at hall
          have := hall (f.offset, tsize P f.type, tagg P f.type) (List.mem_map.2 ⟨f, hf, rfl⟩)
          simpa using this
        have hpl' : (gs.mapM fun f => (do pure (f.offset, ← Go.sizeOf f.type) : Sem (Nat × Nat))).run P w = .ok ((gs.toList.map fun f => (f.offset, tsize P f.type)).toArray) w := by
          rw [← Array.toArray_toList (xs := gs), List.mapM_toArray]
          show Sem.run P (List.mapM (fun f => (do pure (f.offset, ← Go.sizeOf f.type) : Sem (Nat × Nat))) gs.toList >>= fun l => (pure l.toArray : Sem (Array (Nat × Nat)))) w = _
          rw [Sem.run_bind, hpl]; rfl
        unfold Instr.build
        rw [Sem.run_bind, zeroValue_run h1 h5, Result.andThen_ok, Sem.run_bind, underlying_run hu, Result.andThen_ok]
        simp only []
        rw [Sem.run_bind, hpl', Result.andThen_ok]
        rw [f1]; rfl
    · cases e
  · cases e
theorem frzParts_spec (I : Inv w g ι) : ∀ (ps ps' : List (Nat × AV)) (qs : List (Nat × Value)) (K : List Id), frzParts g ps = some (ps', K) → PartsRep w (Own ι) ι ps qs → PartsRep w (Own (without ι K)) noMap ps' qs := by
  intro ps
  induction ps with
  | nil =>
    intro ps' qs K e h
    simp [frzParts] at e
    obtain ⟨rfl, rfl⟩ := e
    exact ⟨h.1, fun k hk => by simp at hk⟩
  | cons p ps ih =>
    intro ps' qs K e h
    obtain ⟨i, v⟩ := p
    unfold frzParts at e
    cases hv : AV.frz g v with
    | none => simp [hv] at e
    | some q =>
      obtain ⟨v', K1⟩ := q
      cases hr : frzParts g ps with
      | none => simp [hv, hr] at e
      | some q =>
        obtain ⟨ps1, K2⟩ := q
        simp [hv, hr] at e
        obtain ⟨rfl, rfl⟩ := e
        cases qs with
        | nil => simp [PartsRep] at h
        | cons q qs =>
          obtain ⟨hl, hp⟩ := h
          have hsub : PartsRep w (Own ι) ι ps qs := ⟨by simpa using hl, fun k hk => by have := hp (k + 1) (by simpa using hk); simpa using this⟩
          have h1 := ih ps1 qs K2 hr hsub
          have h0 := hp 0 (by simp)
          simp at h0
          have h2 := frz_spec I hv h0.2
          have sub1 : ∀ b, Own (without ι (K1 ++ K2)) b → Own (without ι K1) b := by
            rintro b ⟨id, h⟩
            obtain ⟨h1, h2⟩ := foot_without h
            obtain ⟨e1, e2⟩ := without_at (ι := ι) (K := K1) (i := id) fun h => h2 ⟨List.mem_append_left _ h.1, h.2⟩
            exact ⟨id, h1.of e1 e2⟩
          have sub2 : ∀ b, Own (without ι (K1 ++ K2)) b → Own (without ι K2) b := by
            rintro b ⟨id, h⟩
            obtain ⟨h1, h2⟩ := foot_without h
            obtain ⟨e1, e2⟩ := without_at (ι := ι) (K := K2) (i := id) fun h => h2 ⟨List.mem_append_right _ h.1, h.2⟩
            exact ⟨id, h1.of e1 e2⟩
          refine ⟨by simp; exact h1.1, fun k hk => ?_⟩
          cases k with
          | zero => simp; exact ⟨h0.1, h2.less sub1⟩
          | succ k =>
            have := h1.2 k (by simpa using hk)
            simp
            simp at this
            exact ⟨this.1, this.2.less sub2⟩
theorem el_range {i j k n : Nat} (hj : j < n) : (i * n ≤ k * n + j ∧ k * n + j < i * n + n) ↔ k = i := by
  constructor
  · rintro ⟨h1, h2⟩
    rcases Nat.lt_trichotomy k i with h | h | h
    · have := Nat.mul_le_mul_right n (Nat.succ_le_of_lt h); rw [Nat.succ_mul] at this; omega
    · exact h
    · have := Nat.mul_le_mul_right n (Nat.succ_le_of_lt h); rw [Nat.succ_mul] at this; omega
  · rintro rfl; omega
theorem setEls_spec {O : Nat → Prop} {n : Nat} (_ : 0 < n) : ∀ (ps : List (Nat × AV)) (qs : List (Nat × Value)) (es es' : List AV) (cells : Array Value), PartsRep w O ι ps qs → cells.size = es.length * n → (∀ k, k < es.length → (cellsOf (es.getD k .dead)).length = n) →
    (∀ o, o < es.length * n → (cells.getD o undef).oneCell' = true) → (∀ k j, k < es.length → j < n → Rep w O ι ((cellsOf (es.getD k .dead)).getD j .dead) (cells.getD (k * n + j) undef)) → setEls n es ps = some es' →
    ∃ cells', Instr.fill (fun i => some (i * n, n)) cells qs = some cells' ∧ es'.length = es.length ∧ cells'.size = es'.length * n ∧ (∀ k, k < es'.length → (cellsOf (es'.getD k .dead)).length = n) ∧
      (∀ o, o < es'.length * n → (cells'.getD o undef).oneCell' = true) ∧ ∀ k j, k < es'.length → j < n → Rep w O ι ((cellsOf (es'.getD k .dead)).getD j .dead) (cells'.getD (k * n + j) undef) := by
  intro ps
  induction ps with
  | nil =>
    intro qs es es' cells hp h1 h2 h3 h4 e
    cases qs with
    | nil => simp [setEls] at e; subst e; exact ⟨cells, rfl, rfl, h1, h2, h3, h4⟩
    | cons _ _ => simp [PartsRep] at hp
  | cons p ps ih =>
    intro qs es es' cells hp h1 h2 h3 h4 e
    cases qs with
    | nil => simp [PartsRep] at hp
    | cons q qs =>
      obtain ⟨i, v⟩ := p
      obtain ⟨i', x⟩ := q
      obtain ⟨hl, hp⟩ := hp
      have hp0 := hp 0 (by simp)
      simp at hp0
      obtain ⟨rfl, hvx⟩ := hp0
      unfold setEls at e
      split at e
      · rename_i hc
        obtain ⟨hl1, hlf, hi⟩ := hc
        obtain ⟨c1, c2⟩ := cells_rep hvx hlf
        have hm := Nat.mul_le_mul_right n (Nat.succ_le_of_lt hi)
        rw [Nat.succ_mul] at hm
        obtain ⟨cells1, f1, f2, f3⟩ := fill_step (fun i => some (i * n, n)) (i := i) rfl (cells := cells) (v := x) (by omega) (by omega) qs
        have hget : ∀ k, (es.set i v).getD k .dead = if k = i then v else es.getD k .dead := by
          intro k
          simp only [List.getD_eq_getElem?_getD, List.getElem?_set]
          by_cases hk : i = k
          · subst hk; simp [hi]
          · have : ¬ k = i := fun h => hk h.symm
            simp [hk, this]
        obtain ⟨cells', g1, g2, g3, g4, g5, g6⟩ := ih qs (es.set i v) es' cells1 ⟨by simpa using hl, fun k hk => by have := hp (k + 1) (by simpa using hk); simpa using this⟩ (by simp [f2, h1]) (fun k hk => by
            rw [hget]; split
            · exact hl1
            · exact h2 k (by simpa using hk)) (fun o ho => by
            rw [f3]; split
            · exact (c2 _ (by omega)).2
            · exact h3 o (by simpa using ho)) (fun k j hk hj => by
            rw [hget, f3]
            by_cases hki : k = i
            · subst hki
              rw [if_pos rfl, if_pos ((el_range hj).2 rfl), show k * n + j - k * n = j from by omega]
              exact (c2 j (by omega)).1
            · rw [if_neg hki, if_neg fun h => hki ((el_range hj).1 h)]
              exact h4 k j (by simpa using hk) hj) e
        exact ⟨cells', by rw [f1]; exact g1, by rw [g2]; simp, g3, g4, g5, g6⟩
      · cases e
theorem alloc_push (w : World) (o : Obj) : w.alloc o = push w o := rfl
/-- A row of its own. -/
theorem newRow_spec (I : Inv w g ι) {d : Id} {t : TypeId} {n len cap : Nat} {es : List AV} {cs : Array Value} {K : List Id} {N : Nat → Prop} {s' : Option TypeId} (hK : d ∉ K) (hd : ∀ k, Foot ι d k → (g d).isSome = true) (hnp : np ≤ d.headD 0) (hph : ph d = false)
    (hN : ∀ c, N c → ι.n d c ∨ ∃ i ∈ K, ph i = false ∧ np ≤ i.headD 0 ∧ Foot ι i c) (hNs : s' = none → ∀ c, ¬ N c) (h0 : 0 < n) (h2 : ∀ i, i < es.length → (cellsOf (es.getD i .dead)).length = n) (hs : cap * n ≤ cs.size) (hlc : len ≤ cap) (hec : es.length ≤ cap)
    (h1 : ∀ o, o < es.length * n → (cs.getD o undef).oneCell' = true) (hr : ∀ i j, i < es.length → j < n → Rep w (fun k => Own (without ι K) k ∧ (s'.isSome = true → ¬ N k)) noMap ((cellsOf (es.getD i .dead)).getD j .dead) (cs.getD (i * n + j) undef))
    (h6 : ∀ u, s' = some u → NestF w N u n es fun o => cs.getD o undef) :
    Done np g w ι { newAt g d { isVar := false, ty := t, sz := n, els := es, sub := s' } (.ref d 0 len) with kills := (newAt g d { isVar := false, ty := t, sz := n, els := es, sub := s' } (.ref d 0 len)).kills ++ K } (.slice (some ⟨w.heap.size, 0, none⟩) len cap) (push w (.cells cs t)) (setMap (without ι K) d (w.heap.size, n) N) :=
  Done.newBlk (np := np) (b := { isVar := false, ty := t, sz := n, els := es, sub := s' }) (cs := cs) I hK hd hnp hph hN hNs h0 (fun h => by cases h) h2 (Nat.le_trans (Nat.mul_le_mul_right n hec) hs) h1 hr (fun _ u hu => h6 u hu)
    (by have h : setMap (without ι K) d (w.heap.size, n) N d = some (w.heap.size, n) := by simp [setMap]
        have := Rep.ref (w := push w (.cells cs t)) (O := Own (setMap (without ι K) d (w.heap.size, n) N)) (off := 0) (len := len) (cap := cap) (n := cs.size) (ty := t) h (by simp [World.shape?, push_new]) hlc (by simpa using hs)
        simpa using this)
/-- A row of its own that hands nothing over. -/
theorem newRow_flat (I : Inv w g ι) {d : Id} {t : TypeId} {n len cap : Nat} {es : List AV} {cs : Array Value} {K : List Id} (hK : d ∉ K) (hd : ∀ k, Foot ι d k → (g d).isSome = true) (hnp : np ≤ d.headD 0) (hph : ph d = false) (h0 : 0 < n) (h2 : ∀ i, i < es.length → (cellsOf (es.getD i .dead)).length = n) (hs : cap * n ≤ cs.size) (hlc : len ≤ cap) (hec : es.length ≤ cap)
    (h1 : ∀ o, o < es.length * n → (cs.getD o undef).oneCell' = true) (hr : ∀ i j, i < es.length → j < n → Rep w (Own (without ι K)) noMap ((cellsOf (es.getD i .dead)).getD j .dead) (cs.getD (i * n + j) undef)) :
    Done np g w ι { newAt g d { isVar := false, ty := t, sz := n, els := es } (.ref d 0 len) with kills := (newAt g d { isVar := false, ty := t, sz := n, els := es } (.ref d 0 len)).kills ++ K } (.slice (some ⟨w.heap.size, 0, none⟩) len cap) (push w (.cells cs t)) (setMap (without ι K) d (w.heap.size, n) noN) :=
  newRow_spec I hK hd hnp hph (fun _ h => h.elim) (fun _ _ h => h) h0 h2 hs hlc hec h1 (fun i j hi hj => (hr i j hi hj).less fun _ h => h.1) (fun _ h => by cases h)
theorem newRow_none (I : Inv w g ι) {d : Id} {t : TypeId} {n len cap : Nat} {es : List AV} {cs : Array Value} (hd : ∀ k, Foot ι d k → (g d).isSome = true) (hnp : np ≤ d.headD 0) (hph : ph d = false) (h0 : 0 < n) (h2 : ∀ i, i < es.length → (cellsOf (es.getD i .dead)).length = n) (hs : cap * n ≤ cs.size) (hlc : len ≤ cap) (hec : es.length ≤ cap)
    (h1 : ∀ o, o < es.length * n → (cs.getD o undef).oneCell' = true) (hr : ∀ i j, i < es.length → j < n → Rep w (Own ι) noMap ((cellsOf (es.getD i .dead)).getD j .dead) (cs.getD (i * n + j) undef)) :
    Done np g w ι (newAt g d { isVar := false, ty := t, sz := n, els := es } (.ref d 0 len)) (.slice (some ⟨w.heap.size, 0, none⟩) len cap) (push w (.cells cs t)) (setMap ι d (w.heap.size, n) noN) := by
  have := newRow_flat (np := np) (K := []) (t := t) (len := len) I (by simp) hd hnp hph h0 h2 hs hlc hec h1 (by rw [without_nil]; exact hr)
  rw [without_nil, eff_nil] at this
  exact this
theorem builtSub_inv {dp : Option Nat} (hdp : dp = some np ∨ dp = none) {zero : List AV} {ps : List (Nat × AV)} {u : TypeId} (h : builtSub dp g zero ps = some u) : ∃ i v, ps = [(i, v)] ∧ zero.all plainC = true ∧ adopt g np (cellsOf v) = some u := by
  unfold builtSub at h
  split at h
  · rename_i np' i v
    have hnn : np' = np := by rcases hdp with h | h <;> (injection h)
    subst hnn
    split at h
    · rename_i hz; exact ⟨i, v, rfl, hz, h⟩
    · cases h
  · cases h
theorem abuildSlice_spec (I : Inv w g ι) {dp : Option Nat} (hdp : dp = some np ∨ dp = none) {d : Id} {t : TypeId} {len : Nat} {ps : List (Nat × AV)} {qs : Array (Nat × Value)} {e : Eff} (h : abuildSlice P dp g d t len ps = some e) (hp : PartsRep w (Own ι) ι ps qs.toList) (hd : ∀ k, Foot ι d k → (g d).isSome = true) (hnp : np ≤ d.headD 0) (hph : ph d = false) :
    ∃ v w' ι', (Instr.buildSlice t len qs).run P w = .ok v w' ∧ Done np g w ι e v w' ι' := by
  unfold abuildSlice at h
  split at h
  · rename_i el hk
    split at h
    · rename_i i ps' K hi hf
      split at h
      · rename_i hc
        obtain ⟨h0, hzl, hzf, hsm, hdK⟩ := hc
        split at h
        · rename_i es hes
          injection h with h; subst h
          obtain ⟨inf, dd, z, q1, q2, q3, q4, q5, q6, q7, _, q9⟩ := zero_cells hi
          obtain ⟨hc1, hc2⟩ := q9 hzf
          obtain ⟨m1, m2, m3⟩ := made_rep (n := len) h0 hzl q6 hc1 hc2 q7
          have hp' := frzParts_spec I _ _ _ _ hf hp
          obtain ⟨cells', f1, f2, f3, f4, f5, f6⟩ := setEls_spec (w := w) (ι := noMap) (O := Own (without ι K)) h0 ps' qs.toList _ es (madeCells z.cells (len * i.size)) hp' (by simp [madeCells]) (by simpa using m1) (by simpa using m2) (fun k j hk hj => m3 w _ noMap k j (by simpa using hk) hj) hes
          have hlen : es.length = len := by simpa using f2
          have hrun : (Instr.buildSlice t len qs).run P w = .ok (.slice (some ⟨w.heap.size, 0, none⟩) len len) (push w (.cells cells' el)) := by
            have hu := tkind_slice hk
            have hsm' : ¬ 16777216 < len * i.size := by omega
            by_cases hz0 : len * i.size = 0
            · have hl0 : len = 0 := by
                rcases Nat.mul_eq_zero.1 hz0 with h | h
                · exact h
                · omega
              subst hl0
              have : madeCells z.cells (0 * i.size) = (Array.range (0 * i.size)).map ((#[] : Array Value)[· % 0]!) := by simp [madeCells]
              rw [this] at f1
              simp only [Nat.zero_mul] at f1
              unfold Instr.buildSlice
              simp only [Sem.run_bind, underlying_run hu, Result.andThen_ok, sizeOf_run q1, q3, Nat.zero_mul]
              simp at f1 ⊢
              simp [f1, newRow, alloc_push]
            · unfold madeCells at f1
              have hz : zeroValue el = zeroValue el := rfl
              unfold Instr.buildSlice
              simp only [Sem.run_bind, underlying_run hu, Result.andThen_ok, sizeOf_run q1, q3]
              simp [hsm', hz0, zeroValue_run q1 q5, f1, newRow, alloc_push]
          cases hbs : builtSub dp g i.zero ps with
          | none => exact ⟨_, _, _, hrun, newRow_flat I hdK hd hnp hph h0 f4 (by rw [f3, hlen]; exact Nat.le_refl _) (Nat.le_refl _) (by omega) f5 f6⟩
          | some u =>
            obtain ⟨i0, v, rfl, hzp, had⟩ := builtSub_inv hdp hbs
            obtain ⟨v', K1, hfv, rfl, rfl⟩ : ∃ v' K1, AV.frz g v = some (v', K1) ∧ ps' = [(i0, v')] ∧ K = K1 := by
              unfold frzParts at hf
              cases hv : AV.frz g v with
              | none => simp [hv] at hf
              | some q =>
                obtain ⟨v', K1⟩ := q
                simp [hv, frzParts] at hf
                exact ⟨v', K1, rfl, hf.1.symm, hf.2.symm⟩
            obtain ⟨hpl, hpe⟩ := hp
            obtain ⟨x, hqs⟩ : ∃ x, qs.toList = [(i0, x)] := by
              cases hq : qs.toList with
              | nil => rw [hq] at hpl; simp at hpl
              | cons q q' =>
                rw [hq] at hpl hpe
                have := (hpe 0 (by simp)).1
                simp at this hpl
                subst hpl
                obtain ⟨a, b⟩ := q
                simp at this; subst this
                exact ⟨b, rfl⟩
            have hvx : Rep w (Own ι) ι v x := by
              have := (hpe 0 (by simp)).2
              rw [hqs] at this; simpa using this
            have hdis : ∀ i ∈ K, ∀ c, Foot ι i c → ¬ noN c := fun _ _ _ _ h => h
            obtain ⟨hnew, hgv⟩ := adopt_new I hfv had hvx (n := noN) hdis
            unfold setEls at hes
            split at hes
            · rename_i hc
              obtain ⟨hl1, hlf, hi0⟩ := hc
              unfold setEls at hes
              injection hes with hes
              have hi0' : i0 < len := by simpa using hi0
              have hm := Nat.mul_le_mul_right i.size (Nat.succ_le_of_lt hi0')
              rw [Nat.succ_mul] at hm
              have hxs : x.cells.size = i.size := by
                obtain ⟨a1, _⟩ := cells_rep (frz_spec I hfv hvx) hlf
                omega
              obtain ⟨cells1, g1, g2, g3⟩ := fill_step (fun i' => some (i' * i.size, i.size)) (i := i0) rfl (cells := madeCells z.cells (len * i.size)) (v := x) hxs (by simp [madeCells]; omega) []
              rw [hqs, g1] at f1
              unfold Instr.fill at f1
              injection f1 with f1; subst f1
              have hget : ∀ k, k < len → es.getD k .dead = if k = i0 then v' else mkVal i.ag i.zero := by
                intro k hk
                rw [← hes]
                simp only [List.getD_eq_getElem?_getD, List.getElem?_set]
                by_cases hki : i0 = k
                · subst hki; simp [hi0']
                · have : ¬ k = i0 := fun h => hki h.symm
                  simp [hki, this, hk]
              have pos : ∀ k j m, slAt i.size es k j = some m → k = i0 ∧ j < (cellsOf v').length ∧ nestAt (cellsOf v') j = some m ∧ cells1.getD (k * i.size + j) undef = x.cells.getD j undef := by
                intro k j m hs
                unfold slAt at hs
                split at hs
                · rename_i hc
                  obtain ⟨hk, hj⟩ := hc
                  rw [hget k (by omega)] at hs
                  by_cases hki : k = i0
                  · subst hki
                    rw [if_pos rfl] at hs
                    refine ⟨rfl, by omega, hs, ?_⟩
                    rw [g3, if_pos ((el_range hj).2 rfl), show k * i.size + j - k * i.size = j from by omega]
                  · rw [if_neg hki, hc1] at hs
                    have : plainC (i.zero.getD j .dead) = true := by
                      rw [List.all_eq_true] at hzp
                      have hj' : j < i.zero.length := by omega
                      have := hzp (i.zero[j]) (List.getElem_mem hj')
                      simpa [hj'] using this
                    rw [nestAt_plain this] at hs; cases hs
                · cases hs
              refine ⟨_, _, _, hrun, newRow_spec (N := gives ι K) I hdK hd hnp hph (fun c h => .inr (hgv c h)) (fun h => by cases h) h0 f4 (by rw [f3, hlen]; exact Nat.le_refl _) (Nat.le_refl _) (by omega) f5 (fun a b ha hb => (f6 a b ha hb).less fun _ h => h.1) fun u' hu => ?_⟩
              injection hu with hu; subst hu
              refine ⟨fun k j m hs => ?_, fun k j k' j' hs hs' e => ?_⟩
              · obtain ⟨p1, p2, p3, p4⟩ := pos k j m hs
                obtain ⟨d1, _, d3⟩ := hnew.1 j m p2 p3
                show gives ι K (blkOf (Array.getD _ _ _)) ∧ NestC w u m (Array.getD _ _ _)
                rw [p4]
                exact ⟨d1.resolve_left fun h => h, d3⟩
              · obtain ⟨m, hs⟩ := Option.isSome_iff_exists.1 hs
                obtain ⟨m', hs'⟩ := Option.isSome_iff_exists.1 hs'
                obtain ⟨p1, p2, p3, p4⟩ := pos k j m hs
                obtain ⟨q1, q2, q3, q4⟩ := pos k' j' m' hs'
                have e : blkOf (Array.getD _ _ _) = blkOf (Array.getD _ _ _) := e
                rw [p4, q4] at e
                exact ⟨by omega, hnew.2 j j' p2 q2 (by rw [p3]; rfl) (by rw [q3]; rfl) e⟩
            · cases hes
        · cases h
      · cases h
    · cases h
  · cases h
theorem amake_spec (I : Inv w g ι) {d : Id} {t : TypeId} {len cap : AV} {x y : Value} {e : Eff} (h : amake P g d t len cap = some e) (rl : Rep w (Own ι) ι len x) (rc : Rep w (Own ι) ι cap y) (hd : ∀ k, Foot ι d k → (g d).isSome = true) (hnp : np ≤ d.headD 0) (hph : ph d = false) :
    ∃ v w' ι', (Instr.makeSlice t x y).run P w = .ok v w' ∧ Done np g w ι e v w' ι' := by
  unfold amake at h
  split at h
  · rename_i el n m hk
    cases hi : tyi P el with
    | none => simp [hi] at h
    | some i =>
      simp only [hi] at h
      split at h
      · rename_i hc
        obtain ⟨h0, hzl, hzf, hn0, rfl, hb, h63⟩ := hc
        injection h with h; subst h
        cases rl; cases rc
        obtain ⟨inf, dd, z, q1, q2, q3, q4, q5, q6, q7, _, q9⟩ := zero_cells hi
        obtain ⟨hc1, hc2⟩ := q9 hzf
        obtain ⟨m1, m2, m3⟩ := made_rep (n := n.toNat) h0 hzl q6 hc1 hc2 q7
        have hrun := run_make (P := P) w t el inf z (tkind_slice hk) q1 q5 .i64 .i64 n n hn0 (Int.le_refl _) (by rw [q4]; omega) (by omega)
        rw [q3] at hrun
        refine ⟨_, _, setMap ι d (w.heap.size, i.size) noN, hrun, ?_⟩
        rw [alloc_push]
        exact newRow_none I hd hnp hph h0 (by simpa using m1) (by simp [madeCells]) (Nat.le_refl _) (by simp) (by simpa using m2) fun k j hk hj => m3 w _ noMap k j (by simpa using hk) hj
      · cases h
  · cases h
theorem atype_spec {O : Nat → Prop} {v u : AV} {x : Value} {xt t : TypeId} (h : atype P v t = some u) (r : Rep w O ι v x) : ∃ y, (Instr.typeAssert x xt t true).run P w = .ok y w ∧ Rep w O ι u y := by
  have two : ∀ {a : AV} {b : Bool} {y : Value}, Rep w O ι a y → Rep w O ι (.tuple [a, .bool b]) (.tuple #[y, .bool b]) := by
    intro a b y h
    refine .tuple rfl fun i hi => ?_
    match i, hi with
    | 0, _ => simpa using h
    | 1, _ => simpa using Rep.bool b
  unfold atype at h
  split at h
  · rename_i ut v' i hi
    obtain ⟨inf, d, z, q1, q2, q3, q4, q5, q6, q7, q8, _⟩ := zero_cells hi
    obtain ⟨_, _, _, _, _, _, _, _, _, _, hk⟩ := tyi_spec hi
    have hni : ∀ ms, d ≠ .interface ms := by
      intro ms hms
      subst hms
      have : i.kind = .iface ms.isEmpty := by rw [hk]; simp [tkind, q2]
      rw [this] at h; cases h
    have h : (if ut = t then some (AV.tuple [v', .bool true]) else some (.tuple [mkVal i.ag i.zero, .bool false])) = some u := by
      split at h
      · cases h
      · exact h
    cases r with
    | iface hr =>
      rename_i y
      unfold Instr.typeAssert
      simp only [Sem.run_bind, underlying_run q2, Result.andThen_ok]
      split at h
      · rename_i heq
        injection h with h; subst h; subst heq
        refine ⟨.tuple #[y, .bool true], ?_, two hr⟩
        cases d <;> first | (exact absurd rfl (hni _)) | simp
      · rename_i heq
        injection h with h; subst h
        refine ⟨.tuple #[z, .bool false], ?_, two (q8 w O ι)⟩
        cases d <;> first | (exact absurd rfl (hni _)) | simp [heq, zeroValue_run q1 q5]
  · cases h
theorem alen_spec {O : Nat → Prop} {v u : AV} {x : Value} {t ty : TypeId} (h : alen (tkind P t) v = some u) (r : Rep w O ι v x) : ∃ y, (Builtin.len_ #[t] ty #[x]).run P w = .ok y w ∧ Rep w O ι u y := by
  unfold alen at h
  split at h
  · rename_i s hk
    injection h with h; subst h
    cases r with
    | str hs =>
      rename_i b
      refine ⟨.int .i64 b.size, by simp [Builtin.len_, underlying_run (tkind_str hk), goInt], ?_⟩
      have : s.length = b.size := by rw [← hs]; simp
      rw [this]; exact .int _ _
  · rename_i el m es hk
    injection h with h; subst h
    cases r with
    | slE => exact ⟨_, by simp [Builtin.len_, underlying_run (tkind_slice hk), goInt], .int _ _⟩
    | sl cell hn hlen =>
      subst hlen
      exact ⟨_, by simp [Builtin.len_, underlying_run (tkind_slice hk), goInt], .int _ _⟩
  · rename_i el hk
    injection h with h; subst h
    cases r
    exact ⟨_, by simp [Builtin.len_, underlying_run (tkind_slice hk), goInt], .int _ _⟩
  · rename_i el id off len hk
    injection h with h; subst h
    cases r <;> exact ⟨_, by simp [Builtin.len_, underlying_run (tkind_slice hk), goInt], .int _ _⟩
  · cases h
end
end Go.Proofs.YtndgpinhbffleaaGreat


namespace Go.Proofs.YtndgpinhbffleaaGreat
open Go Go.RowKit

section
variable {P : Program} {np : Nat} {g : Heap} {w : World} {ι : Map}
def RowOf (w : World) (O : Nat → Prop) (n : Nat) (es : List AV) (f : Nat → Value) : Prop :=
  (∀ i, i < es.length → (cellsOf (es.getD i .dead)).length = n) ∧ (∀ o, o < es.length * n → (f o).oneCell' = true) ∧ ∀ i j, i < es.length → j < n → Rep w O noMap ((cellsOf (es.getD i .dead)).getD j .dead) (f (i * n + j))
theorem row_append {O : Nat → Prop} {n : Nat} {xs ys : List AV} {f h k : Nat → Value} (hx : RowOf w O n xs f) (hy : RowOf w O n ys h) (e1 : ∀ p, p < xs.length * n → k p = f p) (e2 : ∀ p, p < ys.length * n → k (xs.length * n + p) = h p) : RowOf w O n (xs ++ ys) k := by
  obtain ⟨x1, x2, x3⟩ := hx
  obtain ⟨y1, y2, y3⟩ := hy
  have hget : ∀ i, (xs ++ ys).getD i .dead = if i < xs.length then xs.getD i .dead else ys.getD (i - xs.length) .dead := by
    intro i
    simp only [List.getD_eq_getElem?_getD, List.getElem?_append]
    split <;> rfl
  refine ⟨fun i hi => ?_, fun o ho => ?_, fun i j hi hj => ?_⟩
  · rw [List.length_append] at hi
    rw [hget]; split
    · rename_i h; exact x1 i h
    · exact y1 _ (by omega)
  · rw [List.length_append, Nat.add_mul] at ho
    by_cases h : o < xs.length * n
    · rw [e1 o h]; exact x2 o h
    · have := e2 (o - xs.length * n) (by omega)
      rw [show xs.length * n + (o - xs.length * n) = o from by omega] at this
      rw [this]; exact y2 _ (by omega)
  · rw [List.length_append] at hi
    rw [hget]
    by_cases h : i < xs.length
    · rw [if_pos h, e1 _ (by have := Nat.mul_le_mul_right n (Nat.succ_le_of_lt h); rw [Nat.succ_mul] at this; omega)]
      exact x3 i j h hj
    · rw [if_neg h]
      have h1 : i - xs.length < ys.length := by omega
      have h2 : (i - xs.length) * n + j < ys.length * n := by have := Nat.mul_le_mul_right n (Nat.succ_le_of_lt h1); rw [Nat.succ_mul] at this; omega
      have h3 : i * n + j = xs.length * n + ((i - xs.length) * n + j) := by
        have : (xs.length + (i - xs.length)) * n = i * n := by congr 1; omega
        rw [Nat.add_mul] at this; omega
      rw [h3, e2 _ h2]
      exact y3 _ j h1 hj
theorem RowOf.take {O : Nat → Prop} {n m : Nat} {xs : List AV} {f : Nat → Value} (h : RowOf w O n xs f) (hm : m ≤ xs.length) : RowOf w O n (xs.take m) f := by
  obtain ⟨h1, h2, h3⟩ := h
  have hl : (xs.take m).length = m := by simp; omega
  have hg : ∀ i, i < m → (xs.take m).getD i .dead = xs.getD i .dead := by intro i hi; simp [hi]
  have hm' := Nat.mul_le_mul_right n hm
  refine ⟨fun i hi => ?_, fun o ho => h2 o (by rw [hl] at ho; omega), fun i j hi hj => ?_⟩
  · rw [hl] at hi; rw [hg i hi]; exact h1 i (by omega)
  · rw [hl] at hi; rw [hg i hi]; exact h3 i j (by omega) hj
theorem append_room {st xt ty e ex : TypeId} {i : TypeInfo} (ht : P.underlying st = some (.slice e)) (hx : P.underlying xt = some (.slice ex)) (hi : P.info? e = some i) {base a : Option Addr} {sLen sCap m c : Nat} {news : List Value} {w' : World}
    (hf : (Builtin.firstCells i.size m (.slice a m c)).run P w = .ok news.toArray w) (hroom : sLen + m ≤ sCap) (hst : ∀ b, base = some b → (storeCells (b.add (sLen * i.size)) news).run P w = .ok () w') (hn : base = none → w' = w) :
    (Builtin.append_ #[st, xt] ty #[.slice base sLen sCap, .slice a m c]).run P w = .ok (.slice base (sLen + m) sCap) w' := by
  cases base with
  | none => rw [hn rfl]; simp [Builtin.append_, run_underlying ht, run_underlying hx, sizeOf_run hi, Builtin.lenOf, hroom, hf]
  | some b => simp [Builtin.append_, run_underlying ht, run_underlying hx, sizeOf_run hi, Builtin.lenOf, hroom, hf, hst b rfl]
theorem append_grow {st xt ty e ex : TypeId} {i : TypeInfo} {z : Value} (ht : P.underlying st = some (.slice e)) (hx : P.underlying xt = some (.slice ex)) (hi : P.info? e = some i) (hz : i.zero = some z) {base a : Option Addr} {sLen sCap m c : Nat} {olds news : List Value}
    (hfo : (Builtin.firstCells i.size sLen (.slice base sLen sCap)).run P w.drew = .ok olds.toArray w.drew) (hf : (Builtin.firstCells i.size m (.slice a m c)).run P w.drew = .ok news.toArray w.drew)
    (hg : sCap < sLen + m) (h63 : ((sLen + m : Nat) : Int) ≤ 9223372036854775807) (hfit : Builtin.nextslicecap (sLen + m) sCap * i.bytes ≤ 281474976710656) :
    (Builtin.append_ #[st, xt] ty #[.slice base sLen sCap, .slice a m c]).run P w =
      .ok (.slice (some ⟨w.heap.size, 0, none⟩) (sLen + m) (grownCap w (sLen + m) sCap e)) (push w.drew (.cells (olds ++ news ++ (Builtin.zeroCells z.cells (grownCap w (sLen + m) sCap e - (sLen + m))).toList).toArray e)) := by
  have hn : ¬ (sLen + m ≤ sCap) := by omega
  have h63' : ¬ (9223372036854775807 < ((sLen : Int) + (m : Int))) := by omega
  have h48' : ¬ (281474976710656 < Builtin.nextslicecap (sLen + m) sCap * i.bytes) := by omega
  simp [Builtin.append_, run_underlying ht, run_underlying hx, sizeOf, typeInfo, zeroValue, hi, hz, Builtin.lenOf, hn, h63', h48', Question.forced, hf, hfo, newRow, grownCap, alloc_push]
  congr 2
  apply Array.ext'
  simp
theorem drew_ext (O : Nat → Prop) (w : World) : Ext O w w.drew := ⟨rfl, rfl, rfl, Nat.le_refl _, fun _ _ _ => rfl, fun _ _ => rfl⟩
theorem Inv.drew (I : Inv w g ι) : Inv w.drew g ι := ⟨fun id b hb => (I.blk id b hb).mono (drew_ext (Own ι) w) (fun _ _ h => h) (fun _ _ => rfl) rfl rfl fun _ _ h => h, I.inj, I.sep, I.live, I.real⟩
theorem Done.drew {e : Eff} {v : Value} {w' : World} {ι' : Map} (D : Done np g w.drew ι e v w' ι') : Done np g w ι e v w' ι' :=
  ⟨(drew_ext _ w).trans D.ext, D.val, D.ups, D.same, D.same', D.new, D.newn, D.inj, D.sep, D.live, D.gone, D.lent, D.nodup, D.real, D.phs⟩
theorem Done.rewrite {id : Id} {b : Blk} {K : List Id} {v : Value} {w' : World} {ι' : Map} (D : Done np g w ι { val := .dead, ups := [(id, b)], kills := K } v w' ι') {u : AV} {x : Value} (h : Rep w' (Own ι') ι' u x) : Done np g w ι { val := u, ups := [(id, b)], kills := id :: K } x w' ι' :=
  ⟨D.ext, h, D.ups, fun i h1 h2 => D.same i (fun h => h1 (List.mem_cons_of_mem _ h)) h2, fun i h1 h2 => D.same' i (fun h => h1 (List.mem_cons_of_mem _ h)) h2, D.new, D.newn, D.inj, D.sep, D.live, fun i h1 h2 => by
    rcases List.mem_cons.1 h1 with h | h
    · subst h; simp [keys] at h2
    · exact D.gone i h h2, D.lent, D.nodup, D.real, D.phs⟩
/-- An own block that lies where it lay. -/
theorem Done.still (I : Inv w g ι) {id : Id} {b b' : Blk} {K : List Id} (hb : g id = some b) (hK : id ∉ K) (h : BRep w (Own (without ι K)) (without ι K) id b') (x : Value) : Done np g w ι { val := .dead, ups := [(id, b')], kills := K } x w (without ι K) :=
  ⟨Ext.refl _ _, .dead _, fun i c hc => by simp at hc; obtain ⟨rfl, rfl⟩ := hc; exact h, fun i h _ => without_at fun hh => h hh.1, fun i h _ => (without_at fun hh => h hh.1).1, fun _ _ _ h => .inl (without_name h), fun _ _ h => .inl h.2,
    fun _ _ _ h1 h2 => I.inj _ _ _ (foot_without h1).1 (foot_without h2).1, fun _ _ _ h hn => I.sep _ _ _ (without_name h) hn.2, fun _ _ h => I.live _ _ (foot_without h).1, fun i h _ => by
      cases hp : ph i with
      | true => exact .inl rfl
      | false => exact .inr fun k hk => (foot_without hk).2 ⟨h, hp⟩, fun i _ hu => by
      simp [keys] at hu; subst hu
      obtain ⟨h1, h2⟩ := without_at (ι := ι) (K := K) (i := i) fun hh => hK hh.1
      exact ⟨h1, h2, by rw [hb]; rfl⟩, by simp [keys], fun i hi => by simp [keys] at hi; rw [hi]; exact I.real id b hb, fun i hi => without_at fun hh => by rw [hi] at hh; cases hh.2⟩
/-- A row that is of no cells. -/
theorem Done.virtual (I : Inv w g ι) {d : Id} {t : TypeId} {n : Nat} {K : List Id} {s' : Option TypeId} (hd : ∀ k, Foot ι d k → (g d).isSome = true) (hnp : np ≤ d.headD 0) (hph : ph d = false) (a : Option Addr) :
    Done np g w ι { newAt g d { isVar := false, ty := t, sz := n, els := [], sub := s' } (.ref d 0 0) with kills := (newAt g d { isVar := false, ty := t, sz := n, els := [], sub := s' } (.ref d 0 0)).kills ++ K } (.slice a 0 0) w (without ι (d :: K)) := by
  have hb : BRep w (Own (without ι (d :: K))) (without ι (d :: K)) d { isVar := false, ty := t, sz := n, els := [], sub := s' } := .inl ⟨rfl, rfl, by simp [without, hph]⟩
  have core : ∀ L : List Id, (∀ i ∈ L, i = d) → (d ∈ L ∨ ι d = none) → Done np g w ι { val := .ref d 0 0, ups := [(d, { isVar := false, ty := t, sz := n, els := [], sub := s' })], kills := L ++ K } (.slice a 0 0) w (without ι (d :: K)) := by
    intro L hL hdL
    refine ⟨Ext.refl _ _, .refE _ _ _, fun i c hc => by simp at hc; obtain ⟨rfl, rfl⟩ := hc; exact hb, fun i h1 h2 => ?_, fun i h1 h2 => ?_, fun _ _ _ h => .inl (without_name h), fun _ _ h => .inl h.2,
      fun _ _ _ h1 h2 => I.inj _ _ _ (foot_without h1).1 (foot_without h2).1, fun _ _ _ h hn => I.sep _ _ _ (without_name h) hn.2, fun _ _ h => I.live _ _ (foot_without h).1, fun i h h' => ?_, fun i hi hu => by simp [keys] at hu; subst hu; omega, by simp [keys], fun i hi => by simp [keys] at hi; rw [hi]; exact hph, fun i hi => without_at fun hh => by rw [hi] at hh; cases hh.2⟩
    · simp [keys] at h2
      simp only [List.mem_append, not_or] at h1
      exact without_at fun hh => (List.mem_cons.1 hh.1).elim h2 h1.2
    · simp only [List.mem_append, not_or] at h1
      refine (without_at fun hh => (List.mem_cons.1 hh.1).elim (fun e => ?_) h1.2).1
      subst e
      rcases hdL with h | h
      · exact h1.1 h
      · exact h2 h
    · simp [keys] at h'
      have hk : i ∈ K := (List.mem_append.1 h).resolve_left fun hh => h' (hL i hh)
      cases hp : ph i with
      | true => exact .inl rfl
      | false => exact .inr fun k hk' => (foot_without hk').2 ⟨List.mem_cons_of_mem _ hk, hp⟩
  unfold newAt
  cases hg : g d with
  | some b0 => exact core [d] (by simp) (by simp)
  | none =>
    have hn : ι d = none := by
      cases hi : ι d with
      | none => rfl
      | some p => have := hd p.1 (.name (s := p.2) hi); rw [hg] at this; cases this
    exact core [] (by simp) (.inr hn)
/-- The cells that a slice of an own row shows, with what they own. -/
theorem own_cells (I : Inv w g ι) {id : Id} {b : Blk} {len : Nat} {sv : Value} (hb : g id = some b) (hv : b.isVar = false) (hlen : len ≤ b.els.length) (rs : Rep w (Own ι) ι (.ref id 0 len) sv) :
    ∃ a cap, sv = .slice a len cap ∧ len ≤ cap ∧ ∃ os : List Value, os.length = len * b.sz ∧ (Builtin.firstCells b.sz len sv).run P w = .ok os.toArray w ∧ RowOf w (ob (Own ι) (ι.n id) b) b.sz (b.els.take len) (fun o => os.getD o undef) ∧
      ∀ t, b.sub = some t → NestF w (ι.n id) t b.sz (b.els.take len) fun o => os.getD o undef := by
  cases rs with
  | refE id off a =>
    refine ⟨a, 0, rfl, Nat.le_refl _, [], by simp, ?_, ⟨by simp, by simp, by simp⟩, fun t ht => ⟨fun i j m hs => ?_, fun i j i' j' hs => ?_⟩⟩
    · cases a <;> simp [Builtin.firstCells, loadCells, loadCellsFrom]
    · simp [slAt] at hs
    · simp [slAt] at hs
  | ref hι hs hcap hn =>
    rename_i cap k sz n ty
    rcases I.blk id b hb with ⟨_, _, h3⟩ | ⟨k', cs, h1, h2, h3, h4, h5, h6, h8, h7, h9⟩
    · rw [h3] at hι; cases hι
    · rw [hι] at h1; injection h1 with h1; injection h1 with e1 e2; subst e1; subst e2
      have hm := Nat.mul_le_mul_right b.sz hlen
      have hl : (b.els.take len).length = len := by simp; omega
      have hg : ∀ i, i < len → (b.els.take len).getD i .dead = b.els.getD i .dead := by intro i hi; simp [hi]
      have hat : ∀ o, o < len * b.sz → ((List.range (len * b.sz)).map fun o => cs.getD o undef).getD o undef = cs.getD o undef := by intro o ho; simp [ho]
      refine ⟨_, cap, rfl, hcap, (List.range (len * b.sz)).map fun o => cs.getD o undef, by simp, ?_, ⟨fun i hi => ?_, fun o ho => ?_, fun i j hi hj => ?_⟩, fun t ht => ?_⟩
      · simp only [Builtin.firstCells]
        exact run_loadCells w _ _ _ fun j hj => by rw [add_at, Nat.zero_mul, Nat.zero_add]; exact cell?_of_cells h2 (by omega)
      · rw [hl] at hi; rw [hg i hi]; exact h5 i (by omega)
      · rw [hl] at ho
        show Value.oneCell' (List.getD _ _ _) = true
        rw [hat o ho]; exact h8 o (by omega)
      · rw [hl] at hi
        have hlt : i * b.sz + j < len * b.sz := by
          have := Nat.mul_le_mul_right b.sz (Nat.succ_le_of_lt hi)
          rw [Nat.succ_mul] at this; omega
        show Rep w _ _ _ (List.getD _ _ _)
        rw [hg i hi, hat _ hlt]
        have := h7 i j (by omega) hj
        rw [hv] at this; exact this
      · have hN := h9 hv t ht
        have pos : ∀ i j m, slAt b.sz (b.els.take len) i j = some m → slAt b.sz b.els i j = some m ∧ i * b.sz + j < len * b.sz := by
          intro i j m h
          unfold slAt at h ⊢
          split at h
          · rename_i hc
            rw [hl] at hc
            rw [hg i hc.1] at h
            refine ⟨by rw [if_pos ⟨by omega, hc.2⟩]; exact h, ?_⟩
            have := Nat.mul_le_mul_right b.sz (Nat.succ_le_of_lt hc.1)
            rw [Nat.succ_mul] at this; omega
          · cases h
        refine ⟨fun i j m hs => ?_, fun i j i' j' hs hs' e => ?_⟩
        · obtain ⟨p1, p2⟩ := pos i j m hs
          show ι.n id (blkOf (List.getD _ _ _)) ∧ NestC w t m (List.getD _ _ _)
          rw [hat _ p2]
          exact hN.1 i j m p1
        · obtain ⟨m, hs⟩ := Option.isSome_iff_exists.1 hs
          obtain ⟨m', hs'⟩ := Option.isSome_iff_exists.1 hs'
          obtain ⟨p1, p2⟩ := pos i j m hs
          obtain ⟨q1, q2⟩ := pos i' j' m' hs'
          have e : blkOf (List.getD _ _ _) = blkOf (List.getD _ _ _) := e
          rw [hat _ p2, hat _ q2] at e
          exact hN.2 i j i' j' (by rw [p1]; rfl) (by rw [q1]; rfl) e
theorem NestF.append {N1 N2 : Nat → Prop} {t : TypeId} {n : Nat} {xs ys : List AV} {f h k : Nat → Value} (hx : NestF w N1 t n xs f) (hy : NestF w N2 t n ys h) (hd : ∀ c, N1 c → ¬ N2 c) (e1 : ∀ p, p < xs.length * n → k p = f p) (e2 : ∀ p, p < ys.length * n → k (xs.length * n + p) = h p) : NestF w (fun c => N1 c ∨ N2 c) t n (xs ++ ys) k := by
  have hget : ∀ i, (xs ++ ys).getD i .dead = if i < xs.length then xs.getD i .dead else ys.getD (i - xs.length) .dead := by
    intro i
    simp only [List.getD_eq_getElem?_getD, List.getElem?_append]
    split <;> rfl
  have pos : ∀ i j m, slAt n (xs ++ ys) i j = some m → (i < xs.length ∧ slAt n xs i j = some m ∧ k (i * n + j) = f (i * n + j)) ∨ (¬ i < xs.length ∧ slAt n ys (i - xs.length) j = some m ∧ k (i * n + j) = h ((i - xs.length) * n + j)) := by
    intro i j m hs
    unfold slAt at hs
    split at hs
    · rename_i hc
      rw [List.length_append] at hc
      rw [hget] at hs
      by_cases hi : i < xs.length
      · rw [if_pos hi] at hs
        refine .inl ⟨hi, by unfold slAt; rw [if_pos ⟨hi, hc.2⟩]; exact hs, e1 _ ?_⟩
        have := Nat.mul_le_mul_right n (Nat.succ_le_of_lt hi); rw [Nat.succ_mul] at this; omega
      · rw [if_neg hi] at hs
        have h1 : i - xs.length < ys.length := by omega
        refine .inr ⟨hi, by unfold slAt; rw [if_pos ⟨h1, hc.2⟩]; exact hs, ?_⟩
        have h2 : (i - xs.length) * n + j < ys.length * n := by have := Nat.mul_le_mul_right n (Nat.succ_le_of_lt h1); rw [Nat.succ_mul] at this; omega
        have h3 : i * n + j = xs.length * n + ((i - xs.length) * n + j) := by
          have : (xs.length + (i - xs.length)) * n = i * n := by congr 1; omega
          rw [Nat.add_mul] at this; omega
        rw [h3, e2 _ h2]
    · cases hs
  refine ⟨fun i j m hs => ?_, fun i j i' j' hs hs' e => ?_⟩
  · rcases pos i j m hs with ⟨_, p, q⟩ | ⟨_, p, q⟩
    · rw [q]; obtain ⟨a, b⟩ := hx.1 _ _ _ p; exact ⟨.inl a, b⟩
    · rw [q]; obtain ⟨a, b⟩ := hy.1 _ _ _ p; exact ⟨.inr a, b⟩
  · obtain ⟨m, hs⟩ := Option.isSome_iff_exists.1 hs
    obtain ⟨m', hs'⟩ := Option.isSome_iff_exists.1 hs'
    rcases pos i j m hs with ⟨c1, p, q⟩ | ⟨c1, p, q⟩ <;> rcases pos i' j' m' hs' with ⟨c2, p', q'⟩ | ⟨c2, p', q'⟩
    · rw [q, q'] at e
      exact hx.2 _ _ _ _ (by rw [p]; rfl) (by rw [p']; rfl) e
    · rw [q, q'] at e
      have h1 := (hx.1 _ _ _ p).1
      rw [e] at h1
      exact absurd (hy.1 _ _ _ p').1 (hd _ h1)
    · rw [q, q'] at e
      have h1 := (hx.1 _ _ _ p').1
      rw [← e] at h1
      exact absurd (hy.1 _ _ _ p).1 (hd _ h1)
    · rw [q, q'] at e
      obtain ⟨a, b⟩ := hy.2 _ _ _ _ (by rw [p]; rfl) (by rw [p']; rfl) e
      exact ⟨by omega, b⟩
theorem NestF.plain {t : TypeId} {n : Nat} {xs : List AV} {f : Nat → Value} (h : xs.all plainE = true) (hn : ∀ i, i < xs.length → (cellsOf (xs.getD i .dead)).length = n) : NestF w noN t n xs f := by
  refine .flat fun i j => ?_
  unfold slAt
  split
  · rename_i hc
    rw [List.all_eq_true] at h
    have h1 := h (xs[i]'hc.1) (List.getElem_mem hc.1)
    have h2 : xs[i]'hc.1 = xs.getD i .dead := by simp [hc.1]
    rw [h2] at h1
    exact nestAt_plain (plainE_at h1 j (by rw [hn i hc.1]; exact hc.2))
  · rfl
theorem grow_core (w : World) {st xt ty e ex : TypeId} {i : TyI} (hk : tkind P st = .slice e) (hkx : tkind P xt = .slice ex) (hi : tyi P e = some i) (hzl : i.zero.length = i.size) {O : Nat → Prop} {sv xv : Value} {a1 a2 : Option Addr} {c1 c2 : Nat} {olds news : List AV} {os ns : List Value}
    (hsv : sv = .slice a1 olds.length c1) (s1 : os.length = olds.length * i.size) (s2 : (Builtin.firstCells i.size olds.length sv).run P w.drew = .ok os.toArray w.drew) (s3 : RowOf w.drew O i.size olds fun o => os.getD o undef)
    (hxv : xv = .slice a2 news.length c2) (x1 : ns.length = news.length * i.size) (x2 : (Builtin.firstCells i.size news.length xv).run P w.drew = .ok ns.toArray w.drew) (x3 : RowOf w.drew O i.size news fun o => ns.getD o undef)
    (hby : i.bytes ≤ 1024) (hlen : olds.length + news.length ≤ 1073741824) (hcap : c1 < olds.length + news.length) :
    ∃ cap cs, (Builtin.append_ #[st, xt] ty #[sv, xv]).run P w = .ok (.slice (some ⟨w.heap.size, 0, none⟩) (olds.length + news.length) cap) (push w.drew (.cells cs e)) ∧ cap * i.size ≤ cs.size ∧ olds.length + news.length ≤ cap ∧ RowOf w.drew O i.size (olds ++ news) (fun o => cs.getD o undef) ∧
      (∀ p, p < olds.length * i.size → cs.getD p undef = os.getD p undef) ∧ ∀ p, p < news.length * i.size → cs.getD (olds.length * i.size + p) undef = ns.getD p undef := by
  obtain ⟨inf, d, z, q1, q2, q3, q4, q5, q6, q7, q8, q9⟩ := zero_cells hi
  subst hsv; subst hxv
  rw [← q3] at s2 x2
  have hrun := append_grow (P := P) (w := w) (ty := ty) (tkind_slice hk) (tkind_slice hkx) q1 q5 s2 x2 hcap (by omega) (growslice_fits hcap (by
    rw [q4]
    calc (olds.length + news.length) * i.bytes ≤ 1073741824 * 1024 := Nat.mul_le_mul hlen hby
      _ ≤ _ := by decide))
  have hge := grownCap_ge w (olds.length + news.length) c1 e
  have k1 : ∀ p, p < olds.length * i.size → ((os ++ ns ++ (Builtin.zeroCells z.cells (grownCap w (olds.length + news.length) c1 e - (olds.length + news.length))).toList).toArray).getD p undef = os.getD p undef := by
    intro p hp
    rw [← s1] at hp
    simp only [List.append_assoc, Array.getD_eq_getD_getElem?, List.getElem?_toArray, List.getD_eq_getElem?_getD]
    rw [List.getElem?_append_left hp]
  have k2 : ∀ p, p < news.length * i.size → ((os ++ ns ++ (Builtin.zeroCells z.cells (grownCap w (olds.length + news.length) c1 e - (olds.length + news.length))).toList).toArray).getD (olds.length * i.size + p) undef = ns.getD p undef := by
    intro p hp
    rw [← x1] at hp
    simp only [List.append_assoc, Array.getD_eq_getD_getElem?, List.getElem?_toArray, List.getD_eq_getElem?_getD]
    rw [← s1, List.getElem?_append_right (by omega), Nat.add_sub_cancel_left, List.getElem?_append_left hp]
  refine ⟨_, _, hrun, ?_, hge, row_append (f := fun o => os.getD o undef) (h := fun o => ns.getD o undef) s3 x3 k1 k2, k1, k2⟩
  simp only [List.size_toArray, List.length_append, s1, x1, Array.length_toList, size_zeroCells, q6, hzl]
  rw [← Nat.add_mul, ← Nat.add_mul]
  exact Nat.mul_le_mul_right _ (by omega)
end
end Go.Proofs.YtndgpinhbffleaaGreat


namespace Go.Proofs.YtndgpinhbffleaaGreat
open Go Go.RowKit

section
variable {P : Program} {np : Nat} {g : Heap} {w : World} {ι : Map}
/-- Elements of an own row, written over or added behind. -/
theorem row_storeN (I : Inv w g ι) {id : Id} {b : Blk} {k off : Nat} {cs : Array Value} {news : List AV} {ns : List Value} {es' : List AV} {K : List Id} {N : Nat → Prop} {s' : Option TypeId} (hb : g id = some b) (hv : b.isVar = false) (hK : id ∉ K) (hι : ι id = some (k, b.sz)) (hk : w.heap[k]? = some (.cells cs b.ty (0, 0))) (h0 : 0 < b.sz)
    (hl : ns.length = news.length * b.sz) (hfit : (off + news.length) * b.sz ≤ cs.size) (hlen : es'.length * b.sz ≤ cs.size) (hn : ∀ o, o < news.length * b.sz → (ns.getD o undef).oneCell' = true)
    (hN : ∀ c, N c → ι.n id c ∨ ∃ i ∈ K, ph i = false ∧ np ≤ i.headD 0 ∧ Foot ι i c) (hNl : id.headD 0 < np → N = ι.n id) (hNz : s' = none → ∀ c, N c → ι.n id c)
    (hr : RowOf w (fun q => Own (without ι K) q ∧ (s'.isSome = true → ¬ N q)) b.sz es' fun o => if off * b.sz ≤ o ∧ o < off * b.sz + ns.length then ns.getD (o - off * b.sz) undef else cs.getD o undef)
    (h6 : ∀ t, s' = some t → NestF w N t b.sz es' fun o => if off * b.sz ≤ o ∧ o < off * b.sz + ns.length then ns.getD (o - off * b.sz) undef else cs.getD o undef) :
    ∃ w', (storeCells ⟨k, off * b.sz, none⟩ ns).run P w = .ok () w' ∧ w'.shape? k = some (b.ty, cs.size) ∧ Done np g w ι { val := .dead, ups := [(id, { b with els := es', sub := s' })], kills := K } undef w' (give ι K id N) := by
  rw [Nat.add_mul, ← hl] at hfit
  have hrun := run_storeCells_at P k (off * b.sz) b.ty ns 0 cs w hk (by simpa using hfit) (fun v hvv => by
    obtain ⟨j, hj, rfl⟩ := List.getElem_of_mem hvv
    have := hn j (by omega)
    simpa [hj] using this)
  simp only [Nat.add_zero] at hrun
  have hsize : ((cs.toList.take (off * b.sz) ++ ns ++ cs.toList.drop (off * b.sz + ns.length)).toArray).size = cs.size := by simp; omega
  have hover := over_at cs (off * b.sz) ns hfit
  refine ⟨_, hrun, ?_, ?_⟩
  · simp only [World.shape?]
    rw [setRow_heap w k cs _ _ _ hk]
    simp only [hsize]
  · refine Done.write (np := np) (K := K) (b' := { b with els := es', sub := s' }) I (by rw [hb]; rfl) hι hk hK hsize hN hNl hNz rfl rfl rfl h0 (fun h => by rw [hv] at h; cases h) hr.1 hlen (fun o ho => by rw [hover]; exact hr.2.1 o ho) (fun i j hi hj => ?_) (fun _ t ht => ?_) undef
    · rw [hover, hv]
      exact hr.2.2 i j hi hj
    · have e : (fun o => ((cs.toList.take (off * b.sz) ++ ns ++ cs.toList.drop (off * b.sz + ns.length)).toArray).getD o undef) = fun o => if off * b.sz ≤ o ∧ o < off * b.sz + ns.length then ns.getD (o - off * b.sz) undef else cs.getD o undef := funext hover
      rw [e]; exact h6 t ht
theorem row_store (I : Inv w g ι) {id : Id} {b : Blk} {k off : Nat} {cs : Array Value} {news : List AV} {ns : List Value} {es' : List AV} (hb : g id = some b) (hv : b.isVar = false) (hsb : b.sub = none) (hι : ι id = some (k, b.sz)) (hk : w.heap[k]? = some (.cells cs b.ty (0, 0))) (h0 : 0 < b.sz)
    (hl : ns.length = news.length * b.sz) (hfit : (off + news.length) * b.sz ≤ cs.size) (hlen : es'.length * b.sz ≤ cs.size) (hn : RowOf w (Own ι) b.sz news fun o => ns.getD o undef)
    (hr : RowOf w (Own ι) b.sz es' fun o => if off * b.sz ≤ o ∧ o < off * b.sz + ns.length then ns.getD (o - off * b.sz) undef else cs.getD o undef) :
    ∃ w', (storeCells ⟨k, off * b.sz, none⟩ ns).run P w = .ok () w' ∧ w'.shape? k = some (b.ty, cs.size) ∧ Done np g w ι { val := .dead, ups := [(id, { b with els := es' })] } undef w' ι := by
  obtain ⟨w', h1, h2, D⟩ := row_storeN (P := P) (np := np) (K := []) (N := ι.n id) (s' := b.sub) I hb hv (by simp) hι hk h0 hl hfit hlen hn.2.1 (fun _ h => .inl h) (fun _ => rfl) (fun _ _ h => h)
    ⟨hr.1, hr.2.1, fun i j hi hj => by rw [without_nil]; exact (hr.2.2 i j hi hj).less fun _ h => h.1⟩ (fun t ht => by rw [hsb] at ht; cases ht)
  rw [give_self] at D
  exact ⟨w', h1, h2, D⟩
theorem blk_row (I : Inv w g ι) {id : Id} {b : Blk} {k sz : Nat} (hb : g id = some b) (hv : b.isVar = false) (hι : ι id = some (k, sz)) : sz = b.sz ∧ 0 < b.sz ∧ ∃ cs, w.heap[k]? = some (.cells cs b.ty (0, 0)) ∧ b.els.length * b.sz ≤ cs.size ∧ RowOf w (ob (Own ι) (ι.n id) b) b.sz b.els (fun o => cs.getD o undef) ∧ ∀ t, b.sub = some t → NestF w (ι.n id) t b.sz b.els fun o => cs.getD o undef := by
  rcases I.blk id b hb with ⟨_, _, h3⟩ | ⟨k', cs, h1, h2, h3, h4, h5, h6, h8, h7, h9⟩
  · rw [h3] at hι; cases hι
  · rw [hι] at h1; injection h1 with h1; injection h1 with e1 e2; subst e1; subst e2
    refine ⟨rfl, h3, cs, h2, h6, ⟨h5, h8, fun i j hi hj => ?_⟩, fun t ht => h9 hv t ht⟩
    have := h7 i j hi hj
    rw [hv] at this; exact this
theorem RowOf.less {O O' : Nat → Prop} {n : Nat} {es : List AV} {f : Nat → Value} (h : RowOf w O n es f) (hO : ∀ k, O' k → O k) : RowOf w O' n es f := ⟨h.1, h.2.1, fun i j hi hj => (h.2.2 i j hi hj).less hO⟩
theorem RowOf.plain {O O' : Nat → Prop} {n : Nat} {es : List AV} {f : Nat → Value} (h : RowOf w O n es f) (hp : es.all plainE = true) : RowOf w O' n es f := ⟨h.1, h.2.1, fun i j hi hj => (h.2.2 i j hi hj).plain (by
  rw [List.all_eq_true] at hp
  have h1 := hp (es[i]) (List.getElem_mem hi)
  have h2 : es[i] = es.getD i .dead := by simp [hi]
  rw [h2] at h1
  exact plainE_at h1 j (by rw [h.1 i hi]; exact hj))⟩
theorem RowOf.ext {w' : World} {O : Nat → Prop} {n : Nat} {es : List AV} {f : Nat → Value} (h : RowOf w O n es f) (hx : Ext O w w') : RowOf w' O n es f := ⟨h.1, h.2.1, fun i j hi hj => (h.2.2 i j hi hj).mono hx (fun _ _ h => h) _ fun _ _ h => h⟩
theorem NestF.take {N : Nat → Prop} {t : TypeId} {n m : Nat} {xs : List AV} {f : Nat → Value} (h : NestF w N t n xs f) (hm : m ≤ xs.length) : NestF w N t n (xs.take m) f := by
  have hl : (xs.take m).length = m := by simp; omega
  have pos : ∀ i j c, slAt n (xs.take m) i j = some c → slAt n xs i j = some c := by
    intro i j c hs
    unfold slAt at hs ⊢
    split at hs
    · rename_i hc
      rw [hl] at hc
      have : (xs.take m).getD i .dead = xs.getD i .dead := by simp [hc.1]
      rw [this] at hs
      rw [if_pos ⟨by omega, hc.2⟩]; exact hs
    · cases hs
  refine ⟨fun i j c hs => h.1 i j c (pos i j c hs), fun i j i' j' hs hs' => ?_⟩
  obtain ⟨c, hs⟩ := Option.isSome_iff_exists.1 hs
  obtain ⟨c', hs'⟩ := Option.isSome_iff_exists.1 hs'
  exact h.2 i j i' j' (by rw [pos _ _ _ hs]; rfl) (by rw [pos _ _ _ hs']; rfl)
theorem Done.still0 (I : Inv w g ι) {id : Id} {b b' : Blk} (hb : g id = some b) (h : BRep w (Own ι) ι id b') (x : Value) : Done np g w ι { val := .dead, ups := [(id, b')] } x w ι := by
  have := Done.still (np := np) (K := []) (b' := b') I hb (by simp) (by rw [without_nil]; exact h) x
  rw [without_nil] at this; exact this
theorem loadFrom_drew {a : Addr} : ∀ (n i : Nat) (acc l : Array Value), (loadCellsFrom a i n acc).run P w = .ok l w → (loadCellsFrom a i n acc).run P w.drew = .ok l w.drew
  | 0, i, acc, l, h => by simp [loadCellsFrom] at h ⊢; exact h
  | n + 1, i, acc, l, h => by
    have e : w.drew.cell? (a.add i) = w.cell? (a.add i) := rfl
    simp only [loadCellsFrom, Sem.run_bind, run_load, e] at h ⊢
    cases hc : w.cell? (a.add i) with
    | none =>
      rw [hc] at h
      have e2 : World.farLoad P w.drew (a.add i) (Mode.plain == Mode.atomic) = World.farLoad P w (a.add i) (Mode.plain == Mode.atomic) := rfl
      simp only [e2] at h ⊢
      cases hf : World.farLoad P w (a.add i) (Mode.plain == Mode.atomic) with
      | error x => rw [hf] at h; simp [Result.andThen] at h
      | ok p =>
        obtain ⟨v, q⟩ := p
        rw [hf] at h
        simp only [Result.andThen] at h ⊢
        exact loadFrom_drew n (i + 1) _ l h
    | some v =>
      rw [hc] at h
      simp only [Result.andThen] at h ⊢
      exact loadFrom_drew n (i + 1) _ l h
theorem firstCells_drew {a : Addr} {n : Nat} {l : Array Value} (h : (loadCells a n).run P w = .ok l w) : (loadCells a n).run P w.drew = .ok l w.drew := loadFrom_drew n 0 #[] l h
/-- An own row grown by what is new and by what is handed over. -/
theorem append_own (I : Inv w g ι) {id : Id} {b : Blk} {len : Nat} {st xt ty el ex : TypeId} {i : TyI} (hk : tkind P st = .slice el) (hkx : tkind P xt = .slice ex) (hi : tyi P el = some i) (hzl : i.zero.length = i.size) (h0 : 0 < i.size) (hby : i.bytes ≤ 1024)
    (hb : g id = some b) (hv : b.isVar = false) (hnpi : np ≤ id.headD 0) (hlen : len ≤ b.els.length) (hty : b.ty = el) (hsz : b.sz = i.size) {K : List Id} {N : Nat → Prop} {s' : Option TypeId} {news : List AV} {ns : List Value} {ax : Option Addr} {cx : Nat} {sv : Value} (hbig : len + news.length ≤ 1073741824)
    (hK : id ∉ K) (hN : ∀ c, N c → ∃ i ∈ K, ph i = false ∧ np ≤ i.headD 0 ∧ Foot ι i c) (hNs : s' = none → ∀ c, ¬ N c) (hsub : b.sub = s' ∨ (b.sub = none ∧ (b.els.take len).all plainE = true))
    (x1 : ns.length = news.length * i.size) (x2 : (Builtin.firstCells i.size news.length (.slice ax news.length cx)).run P w = .ok ns.toArray w) (x2' : (Builtin.firstCells i.size news.length (.slice ax news.length cx)).run P w.drew = .ok ns.toArray w.drew)
    (x3 : RowOf w (fun q => Own (without ι K) q ∧ (s'.isSome = true → ¬ N q)) i.size news fun o => ns.getD o undef) (x4 : ∀ t, s' = some t → NestF w N t i.size news fun o => ns.getD o undef) (rs : Rep w (Own ι) ι (.ref id 0 len) sv) :
    ∃ v w' ι', (Builtin.append_ #[st, xt] ty #[sv, .slice ax news.length cx]).run P w = .ok v w' ∧ Done np g w ι { val := .ref id 0 (len + news.length), ups := [(id, { b with els := b.els.take len ++ news, sub := s' })], kills := id :: K } v w' ι' := by
  obtain ⟨inf, dd, z, q1, q2, q3, q4, q5, q6, q7, q8, q9⟩ := zero_cells hi
  have hph := I.real id b hb
  have hlt : (b.els.take len).length = len := by simp; omega
  -- what the row owned, if anything, and what it owns behind it
  have hN' : ∀ c, ((s'.isSome = true ∧ ι.n id c) ∨ N c) → ι.n id c ∨ ∃ i ∈ K, ph i = false ∧ np ≤ i.headD 0 ∧ Foot ι i c := fun c h => h.imp (fun h => h.2) (hN c)
  have hNs' : s' = none → ∀ c, ¬ ((s'.isSome = true ∧ ι.n id c) ∨ N c) := by
    intro hs c h
    rcases h with h | h
    · rw [hs] at h; cases h.1
    · exact hNs hs c h
  have hdis : ∀ c, (s'.isSome = true ∧ ι.n id c) → ¬ N c := by
    intro c h hn
    obtain ⟨j, h1, _, _, h4⟩ := hN c hn
    have := I.inj _ _ _ (.inr h.2) h4; subst this
    exact hK h1
  have old : ∀ {w1 : World} {es : List AV} {f : Nat → Value}, RowOf w1 (ob (Own ι) (ι.n id) b) i.size es f → (b.sub = s' ∨ (b.sub = none ∧ es.all plainE = true)) → RowOf w1 (fun q => Own (without ι K) q ∧ (s'.isSome = true → ¬ ((s'.isSome = true ∧ ι.n id q) ∨ N q))) i.size es f := by
    intro w1 es f h hs
    rcases hs with hs | ⟨_, hs⟩
    · refine h.less fun q hq => ⟨own_without hq.1, fun hbs hn => hq.2 (by rw [← hs]; exact hbs) (.inl ⟨by rw [← hs]; exact hbs, hn⟩)⟩
    · exact h.plain hs
  have oldN : ∀ {w1 : World} {es : List AV} {f : Nat → Value}, RowOf w1 (ob (Own ι) (ι.n id) b) i.size es f → (∀ t, b.sub = some t → NestF w1 (ι.n id) t i.size es f) → (b.sub = s' ∨ (b.sub = none ∧ es.all plainE = true)) → ∀ t, s' = some t → NestF w1 (fun c => s'.isSome = true ∧ ι.n id c) t i.size es f := by
    intro w1 es f h hn hs t ht
    rcases hs with hs | ⟨_, hs⟩
    · exact (hn t (by rw [hs]; exact ht)).mono (fun c hc => ⟨by rw [ht]; rfl, hc⟩) fun _ _ => rfl
    · exact (NestF.plain (w := w1) (t := t) (f := f) hs h.1).mono (fun _ h => h.elim) fun _ _ => rfl
  have new : RowOf w (fun q => Own (without ι K) q ∧ (s'.isSome = true → ¬ ((s'.isSome = true ∧ ι.n id q) ∨ N q))) i.size news fun o => ns.getD o undef := x3.less fun q hq => ⟨hq.1, fun hs hn => hq.2 hs (.inr hn)⟩
  obtain ⟨a0, c0, hsl, _, os, o1, o2, o3, o4⟩ := own_cells (P := P) I.drew hb hv hlen (rs.mono (drew_ext (Own ι) w) (fun _ _ h => h) ι fun _ _ h => h)
  rw [hsz] at o1 o2 o3 o4
  by_cases hg : c0 < len + news.length
  · obtain ⟨cap, cs, g1, g2, g3, g4, k1, k2⟩ := grow_core (P := P) (ty := ty) (sv := sv) w hk hkx hi hzl (olds := b.els.take len) (O := fun q => Own (without ι K) q ∧ (s'.isSome = true → ¬ ((s'.isSome = true ∧ ι.n id q) ∨ N q))) (a1 := a0) (c1 := c0) (by rw [hsl, hlt]) (by rw [hlt]; exact o1) (by rw [hlt]; exact o2) (old o3 hsub) rfl x1 x2' (new.ext (drew_ext _ w)) hby (by omega) (by rw [hlt]; exact hg)
    have D := newRow_spec (np := np) (t := el) (len := (b.els.take len).length + news.length) (K := K) (N := fun c => (s'.isSome = true ∧ ι.n id c) ∨ N c) (s' := s') I.drew (d := id) hK (fun _ _ => by rw [hb]; rfl) hnpi hph hN' hNs' h0 g4.1 g2 g3 (by simpa using g3) g4.2.1 g4.2.2
      (fun t ht => NestF.append (oldN o3 o4 hsub t ht) ((x4 t ht).mono (fun _ h => h) fun _ _ => rfl) hdis k1 k2)
    have hnew : newAt g id { isVar := false, ty := el, sz := i.size, els := b.els.take len ++ news, sub := s' } (.ref id 0 ((b.els.take len).length + news.length)) = { val := .ref id 0 (len + news.length), ups := [(id, { b with els := b.els.take len ++ news, sub := s' })], kills := [id] } := by
      unfold newAt
      rw [hb, hlt]
      obtain ⟨b1, b2, b3, b4, b5⟩ := b
      simp only at hv hty hsz
      subst hv; subst hty; subst hsz
      rfl
    rw [hnew] at D
    exact ⟨_, _, _, g1, D.drew⟩
  · subst hsl
    cases rs with
    | refE =>
      have hn0 : news = [] := List.eq_nil_of_length_eq_zero (by omega)
      subst hn0
      have hns : ns = [] := List.eq_nil_of_length_eq_zero (by simpa using x1)
      subst hns
      rw [← q3] at x2
      refine ⟨_, w, without ι K, append_room (tkind_slice hk) (tkind_slice hkx) q1 x2 (by simp) (fun b _ => by simp [storeCells]) fun _ => rfl, ?_⟩
      refine Done.rewrite (Done.still I hb hK ?_ undef) (by simpa using Rep.refE id 0 a0)
      obtain ⟨w1, w2⟩ := without_at (ι := ι) (K := K) (i := id) fun h => hK h.1
      rcases I.blk id b hb with ⟨h1, h2, h3⟩ | ⟨k', cs, h1, h2, h3, h4, h5, h6, h8, h7, _⟩
      · exact .inl ⟨by simp, h2, w1.trans h3⟩
      · exact .inr ⟨k', cs, w1.trans h1, h2, h3, (fun h => by rw [hv] at h; cases h), by simp, by simp, by simp, by simp, fun _ t _ => .flat fun i j => by simp [slAt]⟩
    | ref hι hs hcap hnn =>
      rename_i k sz m ty'
      obtain ⟨rfl, hb0, cs, hcs, hcl, hrow, hrowN⟩ := blk_row I hb hv hι
      have hm : m = cs.size := by
        simp only [World.shape?, hcs] at hs
        injection hs with hs; injection hs with _ hs; exact hs.symm
      subst hm
      rw [Nat.zero_add] at hnn
      have hfit : (len + news.length) * b.sz ≤ cs.size := Nat.le_trans (Nat.mul_le_mul_right _ (by omega)) hnn
      rw [← hsz] at x1 x3 x4 old oldN new
      have k1 : ∀ p, p < (b.els.take len).length * b.sz → (if len * b.sz ≤ p ∧ p < len * b.sz + ns.length then ns.getD (p - len * b.sz) undef else cs.getD p undef) = cs.getD p undef := fun p hp => by
        rw [hlt] at hp
        rw [if_neg (by omega)]
      have k2 : ∀ p, p < news.length * b.sz → (if len * b.sz ≤ (b.els.take len).length * b.sz + p ∧ (b.els.take len).length * b.sz + p < len * b.sz + ns.length then ns.getD ((b.els.take len).length * b.sz + p - len * b.sz) undef else cs.getD ((b.els.take len).length * b.sz + p) undef) = ns.getD p undef := fun p hp => by
        rw [hlt]
        rw [if_pos (by omega)]
        congr 1; omega
      have hrow1 := hrow.take (m := len) (by omega)
      obtain ⟨w', s1, s2, D⟩ := row_storeN (P := P) (np := np) (K := K) (N := fun c => (s'.isSome = true ∧ ι.n id c) ∨ N c) (s' := s') (es' := b.els.take len ++ news) I hb hv hK hι hcs hb0 x1 hfit (by simp; rw [Nat.min_eq_left (by omega)]; exact hfit) x3.2.1 hN' (fun h => by omega) (fun h c hc => absurd hc (hNs' h c))
        (row_append (f := fun o => cs.getD o undef) (h := fun o => ns.getD o undef) (old hrow1 hsub) new k1 k2)
        (fun t ht => NestF.append (f := fun o => cs.getD o undef) (h := fun o => ns.getD o undef) (oldN hrow1 (fun t ht => (hrowN t ht).take (by omega)) hsub t ht) (x4 t ht) hdis k1 k2)
      rw [← q3] at x2
      refine ⟨_, w', give ι K id (fun c => (s'.isSome = true ∧ ι.n id c) ∨ N c), append_room (tkind_slice hk) (tkind_slice hkx) q1 x2 (by omega) (fun b' hb' => ?_) (fun h => by cases h), ?_⟩
      · injection hb' with hb'; subst hb'
        rw [add_at, Nat.zero_mul, Nat.zero_add, q3, ← hsz]; exact s1
      · refine Done.rewrite D ?_
        have h1 : give ι K id (fun c => (s'.isSome = true ∧ ι.n id c) ∨ N c) id = some (k, b.sz) := ((without_at (ι := ι) (K := K) (i := id) fun h => hK h.1).1).trans hι
        exact .ref h1 s2 (by omega) (by rw [Nat.zero_add]; exact hnn)
theorem moved_inv {dp : Option Nat} (hdp : dp = some np ∨ dp = none) {n : Nat} {x : AV} {xid : Id} {xt : TypeId} {news : List AV} (h : moved dp g n x = some (xid, xt, news)) : ∃ len b, x = .ref xid 0 len ∧ g xid = some b ∧ b.sub = some xt ∧ b.isVar = false ∧ b.sz = n ∧ len ≤ b.els.length ∧ np ≤ xid.headD 0 ∧ news = b.els.take len := by
  unfold moved at h
  split at h
  · rename_i id len
    split at h
    · rename_i dp' x' np' b hb
      have hnn : np' = np := by rcases hdp with h | h <;> (injection h)
      subst hnn
      split at h
      · rename_i t hs
        split at h
        · rename_i hc
          injection h with h; injection h with h1 h2; injection h2 with h2 h3
          subst h1; subst h2; subst h3
          exact ⟨len, b, rfl, hb, hs, hc.1, hc.2.1, hc.2.2.1, hc.2.2.2, rfl⟩
        · cases h
      · cases h
    · cases h
  · cases h
theorem aappend_spec (I : Inv w g ι) {dp : Option Nat} (hdp : dp = some np ∨ dp = none) {d : Id} {st xt ty : TypeId} {s x : AV} {sv xv : Value} {e : Eff} (h : aappend P dp np g d st xt s x = some e) (rs : Rep w (Own ι) ι s sv) (rx : Rep w (Own ι) ι x xv) (hd : ∀ id k, id ∈ keys e.ups → ph id = false → Foot ι id k → (g id).isSome = true) (hnp : np ≤ d.headD 0) (hph : ph d = false) :
    ∃ v w' ι', (Builtin.append_ #[st, xt] ty #[sv, xv]).run P w = .ok v w' ∧ Done np g w ι e v w' ι' := by
  have hkeys : ∀ bb vv K, d ∈ keys (({ newAt g d bb vv with kills := (newAt g d bb vv).kills ++ K } : Eff).ups) := by intro bb vv K; unfold newAt; split <;> simp [keys]
  unfold aappend at h
  split at h
  · rename_i el ex hk hkx
    cases hi : tyi P el with
    | none => simp [hi] at h
    | some i =>
      simp only [hi] at h
      obtain ⟨inf, dd, z, q1, q2, q3, q4, q5, q6, q7, q8, q9⟩ := zero_cells hi
      cases hmv : moved dp g i.size x with
      | some m =>
        obtain ⟨xid, xt', news⟩ := m
        simp only [hmv] at h
        obtain ⟨xl, xb, rfl, m1, m2, m3, m4, m5, m6, rfl⟩ := moved_inv hdp hmv
        have hxph := I.real _ _ m1
        have hnl : (xb.els.take xl).length = xl := by simp; omega
        have hN : ∀ c, ι.n xid c → ∃ i ∈ [xid], ph i = false ∧ np ≤ i.headD 0 ∧ Foot ι i c := fun c hc => ⟨xid, by simp, hxph, m6, .inr hc⟩
        have less : ∀ {w1 : World} {es : List AV} {f : Nat → Value}, RowOf w1 (ob (Own ι) (ι.n xid) xb) i.size es f → RowOf w1 (fun q => Own (without ι [xid]) q ∧ ((some xt').isSome = true → ¬ ι.n xid q)) i.size es f := fun h => h.less fun q hq => ⟨own_without hq.1, fun _ => hq.2 rfl⟩
        split at h
        · rename_i hc
          obtain ⟨h0, hby, hzl⟩ := hc
          obtain ⟨ax, cx, rfl, _, ns, x1, x2, x3, x4⟩ := own_cells (P := P) I m1 m3 m5 rx
          obtain ⟨ax', cx', hxe, _, ns', x1', x2', x3', x4'⟩ := own_cells (P := P) I.drew m1 m3 m5 (rx.mono (drew_ext (Own ι) w) (fun _ _ h => h) ι fun _ _ h => h)
          injection hxe with e1 _ e2; subst e1; subst e2
          rw [m4] at x1 x2 x3 x4 x1' x2' x3' x4'
          have hnn : ns' = ns := by
            have hr : (Builtin.firstCells i.size xl (.slice ax xl cx)).run P w.drew = .ok ns.toArray w.drew := by
              cases ax with
              | none => simpa [Builtin.firstCells] using x2
              | some a =>
                simp only [Builtin.firstCells] at x2 ⊢
                exact firstCells_drew x2
            rw [hr] at x2'
            injection x2' with x2'; simpa using x2'.symm
          subst hnn
          split at h
          · rename_i id len
            cases hb : g id with
            | none => simp [hb] at h
            | some b =>
              simp only [hb] at h
              split at h
              · rename_i hcc
                obtain ⟨hne, hv, hnpi, hlen, hbig, hty, hsz, hsub⟩ := hcc
                injection h with h; subst h
                have := append_own (P := P) (np := np) (ty := ty) (K := [xid]) (N := ι.n xid) (s' := some xt') (news := xb.els.take xl) (ns := ns') (ax := ax) (cx := cx) I hk hkx hi hzl h0 hby hb hv hnpi hlen hty hsz hbig (by simpa using hne) hN (fun h => by cases h) hsub (by rw [hnl]; exact x1) (by rw [hnl]; exact x2) (by rw [hnl]; exact x2') (less x3) (fun t ht => by injection ht with ht; subst ht; exact x4 _ m2) rs
                rw [hnl] at this ⊢
                exact this
              · cases h
          · split at h
            · rename_i hbig
              injection h with h; subst h
              have hd' := fun k hf => hd d k (hkeys _ _ _) hph hf
              generalize hsv : sv = sv' at rs
              cases rs with
              | nil a =>
                rw [hnl]
                by_cases hn0 : xl = 0
                · subst hn0
                  have hns : ns' = [] := List.eq_nil_of_length_eq_zero (by simpa using x1)
                  subst hns
                  rw [← q3] at x2
                  exact ⟨_, w, _, append_room (tkind_slice hk) (tkind_slice hkx) q1 x2 (by simp) (fun b _ => by simp [storeCells]) fun _ => rfl, by simpa using Done.virtual I hd' hnp hph a⟩
                · obtain ⟨cap, cs, g1, g2, g3, g4, k1, k2⟩ := grow_core (P := P) (ty := ty) w hk hkx hi hzl (olds := []) (os := []) (news := xb.els.take xl) (ns := ns') (a1 := a) (c1 := 0) (a2 := ax) (c2 := cx) (O := fun q => Own (without ι [xid]) q ∧ ((some xt').isSome = true → ¬ ι.n xid q)) rfl (by simp) (by cases a <;> simp [Builtin.firstCells, loadCells, loadCellsFrom]) ⟨by simp, by simp, by simp⟩ (by rw [hnl]) (by rw [hnl]; exact x1) (by rw [hnl]; exact x2') (less x3') hby (by simpa using hbig.1) (by simp; omega)
                  simp only [List.nil_append, List.length_nil, Nat.zero_add, Nat.zero_mul] at g1 g3 g4 k2
                  rw [hnl] at g1 g3
                  refine ⟨_, _, setMap (without ι [xid]) d (w.drew.heap.size, i.size) (ι.n xid), g1, (newRow_spec (np := np) (K := [xid]) (N := ι.n xid) (s' := some xt') I.drew (by simpa using hbig.2) hd' hnp hph (fun c hc => .inr (hN c hc)) (fun h => by cases h) h0 g4.1 g2 g3 (by rw [hnl]; exact g3) g4.2.1 g4.2.2 (fun t ht => ?_)).drew⟩
                  injection ht with ht; subst ht
                  have e : NestF w.drew (ι.n xid) xt' i.size (xb.els.take xl) fun o => ns'.getD o undef := x4' _ m2
                  have := NestF.append (w := w.drew) (N1 := noN) (xs := []) (f := fun _ => undef) (k := fun o => cs.getD o undef) (NestF.plain (by rfl) (by simp)) e (fun _ h => h.elim) (by simp) (by simpa using k2)
                  exact this.mono (fun c hc => hc.elim (fun h => h.elim) fun h => h) fun _ _ => rfl
            · cases h
          · cases h
        · cases h
      | none =>
      simp only [hmv] at h
      cases hx : elsOf g i.size x with
      | none => simp [hx] at h
      | some news =>
        simp only [hx] at h
        split at h
        · rename_i hc
          obtain ⟨h0, hby, hzl⟩ := hc
          obtain ⟨ax, cx, rfl, _, ns, x1, x2, x3, x4, x5⟩ := elsOf_spec (P := P) I hx rx
          obtain ⟨ax', cx', hxe, _, ns', x1', x2', x3', x4', x5'⟩ := elsOf_spec (P := P) I.drew hx (rx.mono (drew_ext (Own ι) w) (fun _ _ h => h) ι fun _ _ h => h)
          injection hxe with e1 _ e2; subst e1; subst e2
          have hnn : ns' = ns := by
            have hr : (Builtin.firstCells i.size news.length (.slice ax news.length cx)).run P w.drew = .ok ns.toArray w.drew := by
              cases ax with
              | none => simpa [Builtin.firstCells] using x2
              | some a =>
                simp only [Builtin.firstCells] at x2 ⊢
                exact firstCells_drew x2
            rw [hr] at x2'
            injection x2' with x2'; simpa using x2'.symm
          subst hnn
          have hnews : RowOf w (Own ι) i.size news fun o => ns'.getD o undef := ⟨x4, fun o ho => x3 o (by rw [x1]; exact ho), x5⟩
          have hnews' : RowOf w.drew (Own ι) i.size news fun o => ns'.getD o undef := ⟨x4, fun o ho => x3 o (by rw [x1]; exact ho), x5'⟩
          split at h
          · rename_i id len
            cases hb : g id with
            | none => simp [hb] at h
            | some b =>
              simp only [hb] at h
              split at h
              · rename_i hcc
                obtain ⟨hv, hnpi, hlen, hbig, hty, hsz, hsub⟩ := hcc
                injection h with h; subst h
                exact append_own (P := P) (np := np) (ty := ty) (K := []) (N := noN) (s' := b.sub) (news := news) (ns := ns') (ax := ax) (cx := cx) I hk hkx hi hzl h0 hby hb hv hnpi hlen hty hsz hbig (by simp) (fun _ h => h.elim) (fun _ _ h => h) (.inl rfl) x1 x2 x2' (by rw [without_nil]; exact hnews.less fun _ h => h.1) (fun t ht => by
                  rcases hsub with hs | hs
                  · rw [hs] at ht; cases ht
                  · exact NestF.plain hs x4) rs
              · cases h
          · split at h
            · rename_i hbig
              injection h with h; subst h
              have hd' := fun k hf => hd d k (by have := hkeys { isVar := false, ty := el, sz := i.size, els := news } (.ref d 0 news.length) []; exact this) hph hf
              generalize hsv : sv = sv' at rs
              cases rs with
              | nil a =>
                by_cases hn0 : news = []
                · subst hn0
                  have hns : ns' = [] := List.eq_nil_of_length_eq_zero (by simpa using x1)
                  subst hns
                  rw [← q3] at x2
                  refine ⟨_, w, without ι [d], append_room (tkind_slice hk) (tkind_slice hkx) q1 x2 (by simp) (fun b _ => by simp [storeCells]) fun _ => rfl, ?_⟩
                  have := Done.virtual (np := np) (t := el) (n := i.size) (K := []) (s' := none) I hd' hnp hph a
                  rw [eff_nil] at this
                  simpa using this
                · have hpos : 0 < news.length := List.length_pos_iff.2 hn0
                  obtain ⟨cap, cs, g1, g2, g3, g4, _, _⟩ := grow_core (P := P) (ty := ty) w hk hkx hi hzl (olds := []) (os := []) (news := news) (ns := ns') (a1 := a) (c1 := 0) (a2 := ax) (c2 := cx) (O := Own ι) rfl (by simp) (by cases a <;> simp [Builtin.firstCells, loadCells, loadCellsFrom]) ⟨by simp, by simp, by simp⟩ rfl x1 x2' hnews' hby (by simpa using hbig) (by simpa using hpos)
                  simp only [List.nil_append, List.length_nil, Nat.zero_add] at g1 g3 g4
                  exact ⟨_, _, _, g1, (newRow_none (np := np) I.drew hd' hnp hph h0 g4.1 g2 g3 g3 g4.2.1 g4.2.2).drew⟩
            · cases h
          · cases h
        · cases h
  · cases h
theorem zeroCells_made (z : Array Value) (n : Nat) : Builtin.zeroCells z n = madeCells z (n * z.size) := rfl
theorem aclear_spec (I : Inv w g ι) {t ty : TypeId} {s : AV} {sv : Value} {e : Eff} (h : aclear P g t s = some e) (rs : Rep w (Own ι) ι s sv) : ∃ v w' ι', (Builtin.clear_ #[t] ty #[sv]).run P w = .ok v w' ∧ Done np g w ι e v w' ι' := by
  unfold aclear at h
  split at h
  · rename_i el id off len hk
    split at h
    · rename_i i b hi hb
      split at h
      · rename_i hc
        obtain ⟨h0, hzl, hzf, hsz, hv, hsb, hlen⟩ := hc
        injection h with h; subst h
        have self : len = 0 → ({ b with els := b.els.take off ++ List.replicate len (mkVal i.ag i.zero) ++ b.els.drop (off + len) } : Blk) = b := by
          intro h; subst h; simp
        cases rs with
        | refE =>
          rename_i a
          refine ⟨.tuple #[], w, ι, by cases a <;> simp [Builtin.clear_, underlying_run (tkind_slice hk)], ?_⟩
          rw [self rfl]
          exact Done.still0 I hb (I.blk id b hb) _
        | ref hι hs hcap hnn =>
          rename_i cap k sz m ty'
          obtain ⟨inf, dd, z, q1, q2, q3, q4, q5, q6, q7, q8, q9⟩ := zero_cells hi
          obtain ⟨hc1, hc2⟩ := q9 hzf
          obtain ⟨m1, m2, m3⟩ := made_rep (n := len) h0 hzl q6 hc1 hc2 q7
          obtain ⟨rfl, hb0, cs, hcs, hcl, hrow, _⟩ := blk_row I hb hv hι
          have hrow := RowOf.less (O' := Own ι) hrow fun q hq => ⟨hq, fun h => by rw [hsb] at h; cases h⟩
          by_cases hl0 : len = 0
          · refine ⟨.tuple #[], w, ι, by rw [hl0]; simp [Builtin.clear_, underlying_run (tkind_slice hk)], ?_⟩
            rw [self hl0]
            exact Done.still0 I hb (I.blk id b hb) _
          · have hm' := Nat.mul_le_mul_right b.sz hlen
            have hnews : RowOf w (Own ι) b.sz (List.replicate len (mkVal i.ag i.zero)) fun o => (madeCells z.cells (len * i.size)).toList.getD o undef := by
              rw [hsz]
              have hh : ∀ o, (madeCells z.cells (len * i.size)).toList.getD o undef = (madeCells z.cells (len * i.size)).getD o undef := by intro o; simp
              refine ⟨by simpa using m1, fun o ho => ?_, fun a c ha hc => ?_⟩
              · show (List.getD _ o undef).oneCell' = true
                rw [hh]; exact m2 o (by simpa using ho)
              · show Rep w _ _ _ (List.getD _ (a * i.size + c) undef)
                rw [hh]; exact m3 w _ noMap a c (by simpa using ha) hc
            have hl1 : (madeCells z.cells (len * i.size)).toList.length = (List.replicate len (mkVal i.ag i.zero)).length * b.sz := by simp [madeCells, hsz]
            have hl2 : (madeCells z.cells (len * i.size)).toList.length = len * b.sz := by rw [hl1]; simp
            obtain ⟨w', s1, s2, D⟩ := row_store (P := P) (np := np) (es' := b.els.take off ++ List.replicate len (mkVal i.ag i.zero) ++ b.els.drop (off + len)) I hb hv hsb hι hcs hb0 (off := off) hl1 (by simp; omega) (by
                have : (b.els.take off ++ List.replicate len (mkVal i.ag i.zero) ++ b.els.drop (off + len)).length = b.els.length := by simp; omega
                rw [this]; exact hcl) hnews (by
                have hot : (b.els.take off).length = off := by simp; omega
                have hr1 := row_append (k := fun o => if off * b.sz ≤ o ∧ o < off * b.sz + (madeCells z.cells (len * i.size)).toList.length then (madeCells z.cells (len * i.size)).toList.getD (o - off * b.sz) undef else cs.getD o undef) (hrow.take (m := off) (by omega)) hnews (fun p hp => by
                  rw [hot] at hp
                  show (if _ then _ else _) = _
                  rw [if_neg (by omega)]) (fun p hp => by
                  rw [hot]
                  simp only [List.length_replicate] at hp
                  show (if _ then _ else _) = _
                  rw [if_pos (by omega)]
                  congr 1; omega)
                have hdrop : RowOf w (Own ι) b.sz (b.els.drop (off + len)) fun o => cs.getD ((off + len) * b.sz + o) undef := by
                  obtain ⟨r1, r2, r3⟩ := hrow
                  have hg : ∀ a, (b.els.drop (off + len)).getD a .dead = b.els.getD (off + len + a) .dead := by intro a; simp
                  refine ⟨fun a ha => ?_, fun o ho => ?_, fun a c ha hc => ?_⟩
                  · rw [List.length_drop] at ha; rw [hg]; exact r1 _ (by omega)
                  · rw [List.length_drop, Nat.sub_mul] at ho; exact r2 _ (by omega)
                  · rw [List.length_drop] at ha; rw [hg]
                    have := r3 (off + len + a) c (by omega) hc
                    rw [show (off + len + a) * b.sz + c = (off + len) * b.sz + (a * b.sz + c) from by rw [Nat.add_mul (off + len) a, Nat.add_assoc]] at this
                    exact this
                refine row_append hr1 hdrop (fun p _ => rfl) fun p hp => ?_
                have hot2 : (b.els.take off ++ List.replicate len (mkVal i.ag i.zero)).length = off + len := by rw [List.length_append, hot]; simp
                rw [hot2]
                rw [if_neg (by rw [hl2, Nat.add_mul]; omega)])
            refine ⟨.tuple #[], w', ι, ?_, ⟨D.ext, .dead _, D.ups, D.same, D.same', D.new, D.newn, D.inj, D.sep, D.live, D.gone, D.lent, D.nodup, D.real, D.phs⟩⟩
            have hlp : ∃ l', len = l' + 1 := ⟨len - 1, by omega⟩
            obtain ⟨l', rfl⟩ := hlp
            have hz : Builtin.zeroCells z.cells (l' + 1) = madeCells z.cells ((l' + 1) * i.size) := by rw [zeroCells_made, q6, hzl]
            unfold Builtin.clear_
            simp [underlying_run (tkind_slice hk), zeroValue_run q1 q5, hz, s1]
      · cases h
    · cases h
  · cases h
theorem pre_rep {n m : Nat} {v : AV} {x : Value} {es : List AV} (e : elsOf g m (preAV n v) = some es) (r : Rep w (Own ι) ι v x) : ∃ a l cap, x = .slice a l cap ∧ es.length = min l n ∧ Rep w (Own ι) ι (preAV n v) (.slice a (min l n) cap) := by
  cases r with
  | nil a => simp [preAV, elsOf] at e; subst e; exact ⟨a, 0, 0, rfl, by simp, by simpa [preAV] using Rep.nil a⟩
  | slE k a cap => simp [preAV, elsOf] at e; obtain ⟨_, rfl⟩ := e; exact ⟨a, 0, cap, rfl, by simp, by simpa [preAV] using Rep.slE k a cap⟩
  | sl cell hn hlen hcap hO hb hm hc hcell h1 h =>
    rename_i k xs b off cap len
    simp [preAV, elsOf] at e
    obtain ⟨_, rfl⟩ := e
    refine ⟨_, len, cap, rfl, by simp; omega, ?_⟩
    simp only [preAV]
    by_cases hz : n = 0
    · subst hz; simpa using Rep.slE k _ cap
    · have hg : ∀ i, i < (xs.take n).length → (xs.take n).getD i .dead = xs.getD i .dead := by
        intro i hi
        simp only [List.length_take] at hi
        simp [show i < n by omega]
      have hle : (xs.take n).length ≤ xs.length := by simp; omega
      exact .sl cell (by intro hh; simp at hh; rcases hh with hh | hh; exact hz hh; exact hn hh) (by simp; omega) (by omega) hO hb hm
        (fun i hi => by rw [hg i hi]; exact hc i (by omega)) (fun i j hi hj => hcell i j (by omega) hj) (fun i j hi hj => h1 i j (by omega) hj) (fun i j hi hj => by rw [hg i hi]; exact h i j (by omega) hj)
  | ref hι hs hcap hnn =>
    rename_i id off len cap b sz k ty
    have hl : es.length = min len n := by
      simp only [preAV, elsOf] at e
      split at e
      · split at e
        · rename_i hh; injection e with e; subst e; rw [veil_length]; simp; omega
        · cases e
      · cases e
    exact ⟨_, len, cap, rfl, hl, .ref hι hs (by omega) hnn⟩
  | refE id off a =>
    have hl : es.length = min 0 n := by
      simp only [preAV, elsOf] at e
      split at e
      · split at e
        · rename_i hh; injection e with e; subst e; rw [veil_length]; simp
        · cases e
      · cases e
    refine ⟨a, 0, 0, rfl, hl, ?_⟩
    have : min 0 n = 0 := by omega
    simp only [preAV, this]
    exact .refE id off a
  | _ => simp [preAV, elsOf] at e
theorem acopy_spec (I : Inv w g ι) {t st ty : TypeId} {s x : AV} {sv xv : Value} {e : Eff} (h : acopy P g t s x = some e) (rs : Rep w (Own ι) ι s sv) (rx : Rep w (Own ι) ι x xv) : ∃ v w' ι', (Builtin.copy_ #[t, st] ty #[sv, xv]).run P w = .ok v w' ∧ Done np g w ι e v w' ι' := by
  unfold acopy at h
  split at h
  · rename_i el id off len hk
    split at h
    · rename_i i b hi hb
      split at h
      · rename_i news hx
        split at h
        · rename_i hc
          obtain ⟨h0, hsz, hv, hsb, hlen, hnl⟩ := hc
          injection h with h; subst h
          obtain ⟨inf, dd, z, q1, q2, q3, q4, q5, q6, q7, q8, q9⟩ := zero_cells hi
          obtain ⟨ax, lx, cx, rfl, hmin, rpre⟩ := pre_rep hx rx
          obtain ⟨a2, c2, hv2, _, ns, x1, x2, x3, x4, x5⟩ := elsOf_spec (P := P) I hx rpre
          injection hv2 with e1 e2 e3
          subst e1; subst e3
          have hfc : (Builtin.firstCells inf.size news.length (.slice ax lx cx)).run P w = .ok ns.toArray w := by
            rw [q3]
            cases ax <;> simpa [Builtin.firstCells] using x2
          have hm2 : Nat.min lx len = news.length := hmin.symm
          have hnews : RowOf w (Own ι) i.size news fun o => ns.getD o undef := ⟨x4, fun o ho => x3 o (by rw [x1]; exact ho), x5⟩
          have self : news = [] → ({ b with els := b.els.take off ++ news ++ b.els.drop (off + news.length) } : Blk) = b := by
            intro h; subst h; simp
          cases rs with
          | refE =>
            rename_i a
            have hn0 : news = [] := List.eq_nil_of_length_eq_zero (by omega)
            rw [self hn0]
            subst hn0
            have hns : ns = [] := List.eq_nil_of_length_eq_zero (by simpa using x1)
            subst hns
            simp only [List.length_nil] at hfc hm2
            have D := Done.still0 (np := np) I hb (I.blk id b hb) undef
            refine ⟨.int .i64 0, w, ι, ?_, ⟨D.ext, .int _ _, D.ups, D.same, D.same', D.new, D.newn, D.inj, D.sep, D.live, D.gone, D.lent, D.nodup, D.real, D.phs⟩⟩
            cases a <;> simp [Builtin.copy_, underlying_run (tkind_slice hk), sizeOf_run q1, Builtin.lenOf, hm2, hfc, storeCells, goInt]
          | ref hι hs hcap hnn =>
            rename_i cap k sz m ty'
            obtain ⟨rfl, hb0, cs, hcs, hcl, hrow, _⟩ := blk_row I hb hv hι
            have hrow := RowOf.less (O' := Own ι) hrow fun q hq => ⟨hq, fun h => by rw [hsb] at h; cases h⟩
            have hm' := Nat.mul_le_mul_right b.sz (show off + news.length ≤ b.els.length by omega)
            rw [← hsz] at x1 hnews
            obtain ⟨w', s1, s2, D⟩ := row_store (P := P) (np := np) (es' := b.els.take off ++ news ++ b.els.drop (off + news.length)) I hb hv hsb hι hcs hb0 (off := off) x1 (by omega) (by
                have : (b.els.take off ++ news ++ b.els.drop (off + news.length)).length = b.els.length := by simp; omega
                rw [this]; exact hcl) hnews (by
                have hot : (b.els.take off).length = off := by simp; omega
                have hr1 := row_append (k := fun o => if off * b.sz ≤ o ∧ o < off * b.sz + ns.length then ns.getD (o - off * b.sz) undef else cs.getD o undef) (hrow.take (m := off) (by omega)) hnews (fun p hp => by
                  rw [hot] at hp
                  show (if _ then _ else _) = _
                  rw [if_neg (by omega)]) (fun p hp => by
                  rw [hot]
                  show (if _ then _ else _) = _
                  rw [if_pos (by omega)]
                  congr 1; omega)
                have hdrop : RowOf w (Own ι) b.sz (b.els.drop (off + news.length)) fun o => cs.getD ((off + news.length) * b.sz + o) undef := by
                  obtain ⟨r1, r2, r3⟩ := hrow
                  have hg : ∀ a, (b.els.drop (off + news.length)).getD a .dead = b.els.getD (off + news.length + a) .dead := by intro a; simp
                  refine ⟨fun a ha => ?_, fun o ho => ?_, fun a c ha hc => ?_⟩
                  · rw [List.length_drop] at ha; rw [hg]; exact r1 _ (by omega)
                  · rw [List.length_drop, Nat.sub_mul] at ho; exact r2 _ (by omega)
                  · rw [List.length_drop] at ha; rw [hg]
                    have := r3 (off + news.length + a) c (by omega) hc
                    rw [show (off + news.length + a) * b.sz + c = (off + news.length) * b.sz + (a * b.sz + c) from by rw [Nat.add_mul (off + news.length) a, Nat.add_assoc]] at this
                    exact this
                refine row_append hr1 hdrop (fun p _ => rfl) fun p hp => ?_
                have hot2 : (b.els.take off ++ news).length = off + news.length := by rw [List.length_append, hot]
                rw [hot2]
                rw [if_neg (by rw [x1, Nat.add_mul]; omega)])
            refine ⟨.int .i64 news.length, w', ι, ?_, ⟨D.ext, .int _ _, D.ups, D.same, D.same', D.new, D.newn, D.inj, D.sep, D.live, D.gone, D.lent, D.nodup, D.real, D.phs⟩⟩
            simp [Builtin.copy_, underlying_run (tkind_slice hk), sizeOf_run q1, Builtin.lenOf, hm2, hfc, s1, goInt]
        · cases h
      · cases h
    · cases h
  · cases h
end
end Go.Proofs.YtndgpinhbffleaaGreat


namespace Go.Proofs.YtndgpinhbffleaaGreat
open Go Go.RowKit

abbrev Lent := List (Id × Id × Blk)
theorem lookI_mem {x j : Id} : ∀ {ρ : List (Id × Id)}, lookI ρ x = some j → (x, j) ∈ ρ := by
  intro ρ
  induction ρ with
  | nil => intro h; cases h
  | cons p ρ ih =>
    intro h
    obtain ⟨a, b⟩ := p
    unfold lookI at h
    split at h
    · rename_i e; injection h with h; subst h; subst e; exact List.mem_cons_self ..
    · exact List.mem_cons_of_mem _ (ih h)
theorem renL_length {ρ : List (Id × Id)} : ∀ {l l' : List AV}, AV.renL ρ l = some l' → l'.length = l.length := by
  intro l
  induction l with
  | nil => intro l' e; simp [AV.renL] at e; simp [← e]
  | cons c cs ih =>
    intro l' e
    unfold AV.renL at e
    split at e
    · cases hq : AV.renL ρ cs with
      | none => simp [hq] at e
      | some q => simp [hq] at e; rw [← e]; simp [ih hq]
    · cases e
section
variable {w : World} {O : Nat → Prop} {ι ι' : Map} {ρ : List (Id × Id)}
mutual
theorem ren_rep (hρ : ∀ i j, (i, j) ∈ ρ → ι' j = ι i) (v v' : AV) (x : Value) (e : AV.ren ρ v = some v') (r : Rep w O ι v x) : Rep w O ι' v' x := by
  cases r with
  | agg hl hr =>
    rename_i cs vs
    unfold AV.ren at e
    cases hq : AV.renL ρ cs with
    | none => simp [hq] at e
    | some q =>
      simp [hq] at e; subst e
      exact .agg ((renL_length hq).trans hl) fun i hi => renL_rep hρ cs q hq i (by rw [renL_length hq] at hi; exact hi) _ (hr i (by rw [renL_length hq] at hi; exact hi))
  | tuple hl hr =>
    rename_i cs vs
    unfold AV.ren at e
    cases hq : AV.renL ρ cs with
    | none => simp [hq] at e
    | some q =>
      simp [hq] at e; subst e
      exact .tuple ((renL_length hq).trans hl) fun i hi => renL_rep hρ cs q hq i (by rw [renL_length hq] at hi; exact hi) _ (hr i (by rw [renL_length hq] at hi; exact hi))
  | fn hl hr =>
    rename_i f cs vs
    unfold AV.ren at e
    cases hq : AV.renL ρ cs with
    | none => simp [hq] at e
    | some q =>
      simp [hq] at e; subst e
      exact .fn ((renL_length hq).trans hl) fun i hi => renL_rep hρ cs q hq i (by rw [renL_length hq] at hi; exact hi) _ (hr i (by rw [renL_length hq] at hi; exact hi))
  | iface hr =>
    rename_i t v y
    unfold AV.ren at e
    cases hq : AV.ren ρ v with
    | none => simp [hq] at e
    | some q =>
      simp [hq] at e; subst e
      exact .iface (ren_rep hρ v q y hq hr)
  | ref hι hs hcap hn =>
    rename_i id off len cap k sz m ty
    unfold AV.ren at e
    cases hj : lookI ρ id with
    | none => simp [hj] at e
    | some j =>
      simp only [hj] at e
      injection e with e; subst e
      exact .ref (by rw [hρ id j (lookI_mem hj)]; exact hι) hs hcap hn
  | refE id off a =>
    unfold AV.ren at e
    cases hj : lookI ρ id with
    | none => simp [hj] at e
    | some j =>
      simp only [hj] at e
      injection e with e; subst e
      exact .refE _ _ _
  | ptr hι =>
    rename_i id idx off k sz
    unfold AV.ren at e
    cases hj : lookI ρ id with
    | none => simp [hj] at e
    | some j =>
      simp only [hj] at e
      injection e with e; subst e
      exact .ptr (by rw [hρ id j (lookI_mem hj)]; exact hι)
  | dead v => unfold AV.ren at e; injection e with e; subst e; exact .dead _
  | int k m => unfold AV.ren at e; injection e with e; subst e; exact .int _ _
  | bool b => unfold AV.ren at e; injection e with e; subst e; exact .bool _
  | str hs => unfold AV.ren at e; injection e with e; subst e; exact .str hs
  | nil a => unfold AV.ren at e; injection e with e; subst e; exact .nil _
  | slE m a cap => unfold AV.ren at e; injection e with e; subst e; exact .slE _ _ _
  | sl cell hn hlen hcap hob hb hm hc hcell h1 hr =>
    unfold AV.ren at e; injection e with e; subst e
    exact .sl cell hn hlen hcap hob hb hm hc hcell h1 hr
  | rptr cell hob hb hcell h1 hr =>
    unfold AV.ren at e; injection e with e; subst e
    exact .rptr cell hob hb hcell h1 hr
  | nilfn => unfold AV.ren at e; injection e with e; subst e; exact .nilfn
  | niliface => unfold AV.ren at e; injection e with e; subst e; exact .niliface
  | nilptr => unfold AV.ren at e; injection e with e; subst e; exact .nilptr
  termination_by SizeOf.sizeOf v
theorem renL_rep (hρ : ∀ i j, (i, j) ∈ ρ → ι' j = ι i) (l l' : List AV) (e : AV.renL ρ l = some l') (i : Nat) (hi : i < l.length) (x : Value) (r : Rep w O ι (l.getD i .dead) x) : Rep w O ι' (l'.getD i .dead) x := by
  cases l with
  | nil => simp at hi
  | cons c cs =>
    unfold AV.renL at e
    cases hp : AV.ren ρ c with
    | none => simp [hp] at e
    | some c' =>
      cases hq : AV.renL ρ cs with
      | none => simp [hp, hq] at e
      | some q =>
        simp [hp, hq] at e; subst e
        cases i with
        | zero => exact ren_rep hρ c c' x hp (by simpa using r)
        | succ i => simpa using renL_rep hρ cs q hq i (by simpa using hi) x (by simpa using r)
  termination_by SizeOf.sizeOf l
end
end
theorem ren_cells {ρ : List (Id × Id)} {v v' : AV} (e : AV.ren ρ v = some v') : AV.renL ρ (cellsOf v) = some (cellsOf v') := by
  have one : ∀ {u u' : AV}, AV.ren ρ u = some u' → AV.renL ρ [u] = some [u'] := by
    intro u u' h
    unfold AV.renL
    rw [h]
    unfold AV.renL
    rfl
  have e0 := e
  cases v with
  | agg cs =>
    unfold AV.ren at e
    cases hq : AV.renL ρ cs with
    | none => simp [hq] at e
    | some q => simp [hq] at e; subst e; exact hq
  | tuple cs =>
    unfold AV.ren at e
    cases hq : AV.renL ρ cs with
    | none => simp [hq] at e
    | some q => simp [hq] at e; subst e; exact one e0
  | fn f cs =>
    unfold AV.ren at e
    cases hq : AV.renL ρ cs with
    | none => simp [hq] at e
    | some q => simp [hq] at e; subst e; exact one e0
  | iface t v =>
    unfold AV.ren at e
    cases hq : AV.ren ρ v with
    | none => simp [hq] at e
    | some q => simp [hq] at e; subst e; exact one e0
  | ref id off len =>
    unfold AV.ren at e
    cases hj : lookI ρ id with
    | none => simp [hj] at e
    | some j => simp only [hj] at e; injection e with e; subst e; exact one e0
  | ptr id idx off =>
    unfold AV.ren at e
    cases hj : lookI ρ id with
    | none => simp [hj] at e
    | some j => simp only [hj] at e; injection e with e; subst e; exact one e0
  | _ => unfold AV.ren at e; injection e with e; subst e; exact one e0
theorem renL_at {ρ : List (Id × Id)} : ∀ {l l' : List AV} {n : Nat}, AV.renL ρ l = some l' → n < l.length → AV.ren ρ (l.getD n .dead) = some (l'.getD n .dead) := by
  intro l
  induction l with
  | nil => intro l' n _ h; simp at h
  | cons c cs ih =>
    intro l' n e h
    unfold AV.renL at e
    cases hp : AV.ren ρ c with
    | none => simp [hp] at e
    | some c' =>
      cases hq : AV.renL ρ cs with
      | none => simp [hp, hq] at e
      | some q =>
        simp [hp, hq] at e; subst e
        cases n with
        | zero => simpa using hp
        | succ n => simpa using ih hq (by simpa using h)
/-- How an argument is handed on. -/
inductive ArgOK (g : Heap) (ρ : List (Id × Id)) (s : Bool) : AV → AV → Prop
  | pk {v v' : AV} (e : AV.pack g 3 v = some v') (hs : s = false → v.ids = []) : ArgOK g ρ s v v'
  | rn {v v' : AV} (e : AV.ren ρ v = some v') : ArgOK g ρ s v v'
theorem ArgOK.more {g : Heap} {ρ : List (Id × Id)} {s s' : Bool} {v v' : AV} (r : ArgOK g ρ s v v') (hs : s' = false → s = false) : ArgOK g ρ s' v v' := by
  cases r with
  | pk e h => exact .pk e fun h' => h (hs h')
  | rn e => exact .rn e
def rnOf (l : Lent) : List (Id × Id) := l.map fun x => (x.1, x.2.1)
/-- What is lent, in the caller's heap. -/
def LentOK (h : Heap) (ρ : List (Id × Id)) (x : Id × Id × Blk) : Prop := ∃ b, h x.1 = some b ∧ renBlk ρ b = some x.2.2
theorem lentBlks_spec {h : Heap} {ρ : List (Id × Id)} : ∀ {l0 : List (Id × Id)} {l : Lent}, lentBlks h ρ l0 = some l → rnOf l = l0 ∧ ∀ x ∈ l, LentOK h ρ x := by
  intro l0
  induction l0 with
  | nil => intro l e; simp [lentBlks] at e; subst e; exact ⟨rfl, fun x hx => by cases hx⟩
  | cons p l0 ih =>
    intro l e
    obtain ⟨i, j⟩ := p
    unfold lentBlks at e
    split at e
    · rename_i b l' h1 h2
      split at e
      · rename_i b' h3
        injection e with e; subst e
        obtain ⟨a1, a2⟩ := ih h2
        refine ⟨by simp only [rnOf, List.map_cons]; rw [← a1]; rfl, fun x hx => ?_⟩
        rcases List.mem_cons.1 hx with rfl | hx
        · exact ⟨b, h1, h3⟩
        · exact a2 x hx
      · cases e
    · cases e
theorem toArgs_spec {g : Heap} {ρ : List (Id × Id)} : ∀ (vs : List AV) (io : List Bool) (vs' : List AV) (s : Bool), toArgs g ρ io vs = some (vs', s) → vs.length = vs'.length ∧ ∀ k, k < vs.length → ArgOK g ρ s (vs.getD k .dead) (vs'.getD k .dead) := by
  intro vs
  induction vs with
  | nil => intro io vs' s e; simp [toArgs] at e; obtain ⟨rfl, rfl⟩ := e; exact ⟨rfl, fun k hk => by simp at hk⟩
  | cons v vs ih =>
    intro io vs' s e
    unfold toArgs at e
    cases hr : toArgs g ρ io.tail vs with
    | none => simp [hr] at e
    | some q =>
      obtain ⟨vs1, s1⟩ := q
      simp only [hr] at e
      obtain ⟨i1, i2⟩ := ih io.tail vs1 s1 hr
      split at e
      · cases hl : AV.ren ρ v with
        | none => simp [hl] at e
        | some v' =>
          simp only [hl] at e
          injection e with e; injection e with e1 e2; subst e1; subst e2
          refine ⟨by simp [i1], fun k hk => ?_⟩
          cases k with
          | zero => simpa using ArgOK.rn hl
          | succ k => simpa using i2 k (by simpa using hk)
      · cases hp : AV.pack g 3 v with
        | none => simp [hp] at e
        | some v' =>
          simp only [hp] at e
          injection e with e; injection e with e1 e2; subst e1; subst e2
          refine ⟨by simp [i1], fun k hk => ?_⟩
          cases k with
          | zero => simp; exact .pk hp fun h => by simp at h; exact h.1
          | succ k => simpa using (i2 k (by simpa using hk)).more fun h => by simp at h; exact h.2
mutual
/-- By value, out of a heap that knows more. -/
theorem pack_more {g g' : Heap} (hg : ∀ id b, g id = some b → g' id = some b) (n : Nat) (v v' : AV) (e : AV.pack g n v = some v') : AV.pack g' n v = some v' := by
  cases v with
  | agg cs =>
    unfold AV.pack at e ⊢
    cases hq : AV.packL g n cs with
    | none => simp [hq] at e
    | some q => rw [packL_more hg n cs q hq]; rw [hq] at e; exact e
  | tuple cs =>
    unfold AV.pack at e ⊢
    cases hq : AV.packL g n cs with
    | none => simp [hq] at e
    | some q => rw [packL_more hg n cs q hq]; rw [hq] at e; exact e
  | fn f cs =>
    unfold AV.pack at e ⊢
    cases hq : AV.packL g n cs with
    | none => simp [hq] at e
    | some q => rw [packL_more hg n cs q hq]; rw [hq] at e; exact e
  | iface t v =>
    unfold AV.pack at e ⊢
    cases hq : AV.pack g n v with
    | none => simp [hq] at e
    | some q => rw [pack_more hg n v q hq]; rw [hq] at e; exact e
  | ref id off len =>
    unfold AV.pack at e ⊢
    cases hb : g id with
    | none => simp [hb] at e
    | some b => rw [hg id b hb]; rw [hb] at e; exact e
  | ptr id idx off =>
    cases n with
    | zero => unfold AV.pack at e; simp at e
    | succ n =>
      unfold AV.pack at e ⊢
      simp only at e ⊢
      cases hb : g id with
      | none => simp [hb] at e
      | some b =>
        simp only [hb] at e
        simp only [hg id b hb]
        split at e
        · rename_i hc
          rw [if_pos hc]
          cases hq : AV.packL g n ((cellsOf (b.els.getD idx .dead)).drop off) with
          | none => rw [hq] at e; cases e
          | some q => rw [packL_more hg n _ q hq]; rw [hq] at e; exact e
        · cases e
  | _ => unfold AV.pack at e ⊢; exact e
  termination_by (n, SizeOf.sizeOf v)
theorem packL_more {g g' : Heap} (hg : ∀ id b, g id = some b → g' id = some b) (n : Nat) (l l' : List AV) (e : AV.packL g n l = some l') : AV.packL g' n l = some l' := by
  cases l with
  | nil => unfold AV.packL at e ⊢; exact e
  | cons c cs =>
    unfold AV.packL at e ⊢
    cases hp : AV.pack g n c with
    | none => simp [hp] at e
    | some c' =>
      rw [pack_more hg n c c' hp]
      simp only [hp] at e ⊢
      cases hq : AV.packL g n cs with
      | none => rw [hq] at e; cases e
      | some q => rw [packL_more hg n cs q hq]; rw [hq] at e; exact e
  termination_by (n, SizeOf.sizeOf l)
end
theorem toArgs_more {g g' : Heap} (hg : ∀ id b, g id = some b → g' id = some b) {ρ : List (Id × Id)} : ∀ (vs : List AV) (io : List Bool) (r : List AV × Bool), toArgs g ρ io vs = some r → toArgs g' ρ io vs = some r := by
  intro vs
  induction vs with
  | nil => intro io r e; simpa [toArgs] using e
  | cons v vs ih =>
    intro io r e
    unfold toArgs at e ⊢
    cases hr : toArgs g ρ io.tail vs with
    | none => simp [hr] at e
    | some q =>
      rw [ih _ _ hr]
      rw [hr] at e
      simp only at e ⊢
      split at e
      · exact e
      · cases hp : AV.pack g 3 v with
        | none => rw [hp] at e; cases e
        | some v' => rw [pack_more hg 3 v v' hp]; rw [hp] at e; exact e
theorem restrH_less (is : List Id) (g : Heap) (id : Id) (b : Blk) (h : restrH is g id = some b) : g id = some b := by
  unfold restrH at h
  split at h
  · exact h
  · cases h
theorem hideH_some : ∀ (l : List Id) (h : Heap) (id : Id) (b : Blk), hideH l h id = some b → h id = some b ∧ id ∉ l := by
  intro l
  induction l with
  | nil => intro h id b e; exact ⟨e, by simp⟩
  | cons i l ih =>
    intro h id b e
    unfold hideH HO at e
    split at e
    · cases e
    · rename_i hn
      obtain ⟨h1, h2⟩ := ih h id b e
      exact ⟨h1, by simp [hn, h2]⟩
end Go.Proofs.YtndgpinhbffleaaGreat


namespace Go.Proofs.YtndgpinhbffleaaGreat
open Go Go.RowKit

def cmap (ι : Map) : Lent → Map
  | [] => noMap
  | (i, j, _) :: l => ⟨fun x => if x = j then ι i else cmap ι l x, fun x c => if x = j then ι.n i c else (cmap ι l).n x c⟩
def phan (ι : Map) (ls : List Id) : Map := ⟨fun x => match x with
  | 0 :: 0 :: 0 :: 0 :: id => if id ∈ ls then none else ι id
  | _ => none, fun x c => match x with
  | 0 :: 0 :: 0 :: 0 :: id => id ∉ ls ∧ ι.n id c
  | _ => False⟩
/-- The names of a callee. 'full': the caller's other blocks have names too. -/
def calleeMap (full : Bool) (ι : Map) (l : Lent) (K : List Id) : Map := ⟨fun x => if ph x = true then (if full = true then phan (without ι K) (l.map (·.1)) x else none) else cmap ι l x, fun x c => if ph x = true then (full = true ∧ (phan (without ι K) (l.map (·.1))).n x c) else (cmap ι l).n x c⟩
theorem cmap_mem {ι : Map} {i j : Id} {b : Blk} : ∀ {l : Lent}, (i, j, b) ∈ l → (l.map (·.2.1)).Nodup → cmap ι l j = ι i ∧ (cmap ι l).n j = ι.n i := by
  intro l
  induction l with
  | nil => intro h _; cases h
  | cons x l ih =>
    intro h hn
    obtain ⟨i', j', b'⟩ := x
    simp only [List.map_cons, List.nodup_cons] at hn
    unfold cmap
    rcases List.mem_cons.1 h with e | h
    · injection e with e1 e2; injection e2 with e2 e3; subst e1; subst e2
      exact ⟨if_pos rfl, funext fun c => if_pos rfl⟩
    · have : j ≠ j' := fun e => hn.1 (by rw [← e]; exact List.mem_map.2 ⟨_, h, rfl⟩)
      obtain ⟨h1, h2⟩ := ih h hn.2
      refine ⟨(if_neg this).trans h1, ?_⟩
      rw [← h2]
      exact funext fun c => if_neg this
theorem cmap_inv {ι : Map} {x : Id} {p : Nat × Nat} : ∀ {l : Lent}, cmap ι l x = some p → ∃ i b, (i, x, b) ∈ l ∧ ι i = some p := by
  intro l
  induction l with
  | nil => intro h; cases h
  | cons y l ih =>
    intro h
    obtain ⟨i', j', b'⟩ := y
    replace h : (if x = j' then ι i' else cmap ι l x) = some p := h
    split at h
    · rename_i e; subst e; exact ⟨i', b', List.mem_cons_self .., h⟩
    · obtain ⟨i, b, h1, h2⟩ := ih h
      exact ⟨i, b, List.mem_cons_of_mem _ h1, h2⟩
theorem cmap_invN {ι : Map} {x : Id} {c : Nat} : ∀ {l : Lent}, (cmap ι l).n x c → ∃ i b, (i, x, b) ∈ l ∧ ι.n i c := by
  intro l
  induction l with
  | nil => intro h; exact h.elim
  | cons y l ih =>
    intro h
    obtain ⟨i', j', b'⟩ := y
    replace h : (if x = j' then ι.n i' c else (cmap ι l).n x c) := h
    split at h
    · rename_i e; subst e; exact ⟨i', b', List.mem_cons_self .., h⟩
    · obtain ⟨i, b, h1, h2⟩ := ih h
      exact ⟨i, b, List.mem_cons_of_mem _ h1, h2⟩
theorem ph_pre (id : Id) : ph (0 :: 0 :: 0 :: 0 :: id) = true := by simp [ph]
theorem phan_inv {ι : Map} {ls : List Id} {x : Id} {p : Nat × Nat} (h : phan ι ls x = some p) : ∃ id, x = 0 :: 0 :: 0 :: 0 :: id ∧ id ∉ ls ∧ ι id = some p := by
  unfold phan at h
  simp only at h
  split at h
  · rename_i id
    split at h
    · cases h
    · rename_i hn; exact ⟨id, rfl, hn, h⟩
  · cases h
theorem phan_invN {ι : Map} {ls : List Id} {x : Id} {c : Nat} (h : (phan ι ls).n x c) : ∃ id, x = 0 :: 0 :: 0 :: 0 :: id ∧ id ∉ ls ∧ ι.n id c := by
  unfold phan at h
  simp only at h
  split at h
  · rename_i id; exact ⟨id, rfl, h.1, h.2⟩
  · exact h.elim
theorem callee_name {full : Bool} {ι : Map} {l : Lent} {K : List Id} {x : Id} {p : Nat × Nat} (h : calleeMap full ι l K x = some p) : (ph x = true ∧ full = true ∧ ∃ id, x = 0 :: 0 :: 0 :: 0 :: id ∧ id ∉ l.map (·.1) ∧ without ι K id = some p) ∨ (ph x = false ∧ ∃ i b, (i, x, b) ∈ l ∧ ι i = some p) := by
  replace h : (if ph x = true then (if full = true then phan (without ι K) (l.map (·.1)) x else none) else cmap ι l x) = some p := h
  split at h
  · rename_i hp
    split at h
    · rename_i hf
      exact .inl ⟨hp, hf, phan_inv h⟩
    · cases h
  · rename_i hp
    exact .inr ⟨by simpa using hp, cmap_inv h⟩
theorem callee_nest {full : Bool} {ι : Map} {l : Lent} {K : List Id} {x : Id} {c : Nat} (h : (calleeMap full ι l K).n x c) : (ph x = true ∧ full = true ∧ ∃ id, x = 0 :: 0 :: 0 :: 0 :: id ∧ id ∉ l.map (·.1) ∧ (without ι K).n id c) ∨ (ph x = false ∧ ∃ i b, (i, x, b) ∈ l ∧ ι.n i c) := by
  replace h : (if ph x = true then (full = true ∧ (phan (without ι K) (l.map (·.1))).n x c) else (cmap ι l).n x c) := h
  split at h
  · rename_i hp
    exact .inl ⟨hp, h.1, phan_invN h.2⟩
  · rename_i hp
    exact .inr ⟨by simpa using hp, cmap_invN h⟩
theorem callee_inv {full : Bool} {ι : Map} {l : Lent} {K : List Id} {x : Id} {c : Nat} (h : Foot (calleeMap full ι l K) x c) : (ph x = true ∧ full = true ∧ ∃ id, x = 0 :: 0 :: 0 :: 0 :: id ∧ id ∉ l.map (·.1) ∧ Foot (without ι K) id c) ∨ (ph x = false ∧ ∃ i b, (i, x, b) ∈ l ∧ Foot ι i c) := by
  rcases h with ⟨s, h⟩ | h
  · rcases callee_name h with ⟨h1, h2, id, h3, h4, h5⟩ | ⟨h1, i, b, h2, h3⟩
    · exact .inl ⟨h1, h2, id, h3, h4, .name h5⟩
    · exact .inr ⟨h1, i, b, h2, .name h3⟩
  · rcases callee_nest h with ⟨h1, h2, id, h3, h4, h5⟩ | ⟨h1, i, b, h2, h3⟩
    · exact .inl ⟨h1, h2, id, h3, h4, .inr h5⟩
    · exact .inr ⟨h1, i, b, h2, .inr h3⟩
/-- What a call needs of its lent blocks. -/
structure LentsOK (h g : Heap) (K : List Id) (l : Lent) : Prop where
  ok : ∀ x ∈ l, LentOK h (rnOf l) x
  js : (l.map (·.2.1)).Nodup
  is : (l.map (·.1)).Nodup
  real : ∀ x ∈ l, ph x.2.1 = false
  off : ∀ x ∈ l, x.1 ∉ K
  hide : ∀ id b, g id = some b → h id = some b ∧ id ∉ l.map (·.1)
section
variable {P : Program} {np : Nat} {h g : Heap} {w : World} {ι : Map} {l : Lent} {K : List Id} {full : Bool}
theorem callee_at (L : LentsOK h g K l) {i j : Id} {b : Blk} (hm : (i, j, b) ∈ l) : calleeMap full ι l K j = ι i ∧ (calleeMap full ι l K).n j = ι.n i := by
  have := L.real _ hm
  simp only at this
  obtain ⟨h1, h2⟩ := cmap_mem (ι := ι) hm L.js
  refine ⟨(if_neg (by rw [this]; simp)).trans h1, ?_⟩
  rw [← h2]
  exact funext fun c => if_neg (by rw [this]; simp)
theorem own_callee {b : Nat} (h : Own (calleeMap full ι l K) b) : Own ι b := by
  obtain ⟨x, h⟩ := h
  rcases callee_inv h with ⟨_, _, id, _, _, h2⟩ | ⟨_, i, c, _, h2⟩
  · exact ⟨id, (foot_without h2).1⟩
  · exact ⟨i, h2⟩
theorem callee_full (L : LentsOK h g K l) {id : Id} {b : Nat} (h : Foot (without ι K) id b) : Own (calleeMap true ι l K) b := by
  by_cases hm : id ∈ l.map (·.1)
  · obtain ⟨⟨i, j, c⟩, hx, rfl⟩ := List.mem_map.1 hm
    obtain ⟨h1, h2⟩ := callee_at (ι := ι) (full := true) L hx
    exact ⟨j, (foot_without h).1.of h1 h2⟩
  · refine ⟨0 :: 0 :: 0 :: 0 :: id, ?_⟩
    rcases h with ⟨s, h⟩ | h
    · refine .name (s := s) ?_
      show (if ph (0 :: 0 :: 0 :: 0 :: id) = true then (if true = true then phan (without ι K) (l.map (·.1)) (0 :: 0 :: 0 :: 0 :: id) else none) else cmap ι l (0 :: 0 :: 0 :: 0 :: id)) = _
      rw [if_pos (ph_pre id), if_pos rfl]
      show (if id ∈ l.map (·.1) then none else without ι K id) = _
      rw [if_neg hm]; exact h
    · refine .inr ?_
      show (if ph (0 :: 0 :: 0 :: 0 :: id) = true then (true = true ∧ (phan (without ι K) (l.map (·.1))).n (0 :: 0 :: 0 :: 0 :: id) b) else (cmap ι l).n (0 :: 0 :: 0 :: 0 :: id) b)
      rw [if_pos (ph_pre id)]
      exact ⟨rfl, hm, h⟩
theorem fst_inj (L : LentsOK h g K l) {i j j' : Id} {b b' : Blk} (h1 : (i, j, b) ∈ l) (h2 : (i, j', b') ∈ l) : j = j' := by
  have := L.is
  clear L
  induction l with
  | nil => cases h1
  | cons x l ih =>
    simp only [List.map_cons, List.nodup_cons] at this
    rcases List.mem_cons.1 h1 with e1 | h1' <;> rcases List.mem_cons.1 h2 with e2 | h2'
    · rw [← e1] at e2; injection e2 with _ e2; injection e2 with e2 _; exact e2.symm
    · exact absurd (List.mem_map.2 ⟨_, h2', by rw [← e1]⟩) this.1
    · exact absurd (List.mem_map.2 ⟨_, h1', by rw [← e2]⟩) this.1
    · exact ih h1' h2' this.2
theorem callee_injm (L : LentsOK h g K l) (I : Inv w h ι) (x x' : Id) (k : Nat) (h1 : Foot (calleeMap full ι l K) x k) (h2 : Foot (calleeMap full ι l K) x' k) : x = x' := by
  rcases callee_inv h1 with ⟨_, _, id, e1, n1, m1⟩ | ⟨_, i, b, e1, m1⟩ <;> rcases callee_inv h2 with ⟨_, _, id', e2, n2, m2⟩ | ⟨_, i', b', e2, m2⟩
  · rw [e1, e2, I.inj _ _ _ (foot_without m1).1 (foot_without m2).1]
  · have := I.inj _ _ _ (foot_without m1).1 m2
    subst this
    exact absurd (List.mem_map.2 ⟨_, e2, rfl⟩) n1
  · have := I.inj _ _ _ m1 (foot_without m2).1
    subst this
    exact absurd (List.mem_map.2 ⟨_, e1, rfl⟩) n2
  · have := I.inj _ _ _ m1 m2
    subst this
    exact fst_inj L e1 e2
theorem callee_sep (I : Inv w h ι) (x : Id) (k s : Nat) (h1 : calleeMap full ι l K x = some (k, s)) (h2 : (calleeMap full ι l K).n x k) : False := by
  rcases callee_name h1 with ⟨p1, _, id, e1, n1, m1⟩ | ⟨p1, i, b, e1, m1⟩ <;> rcases callee_nest h2 with ⟨p2, _, id', e2, n2, m2⟩ | ⟨p2, i', b', e2, m2⟩
  · rw [e1] at e2; injection e2 with _ e2; injection e2 with _ e2; injection e2 with _ e2; injection e2 with _ e2; subst e2
    exact I.sep _ _ _ (without_name m1) m2.2
  · rw [p1] at p2; cases p2
  · rw [p1] at p2; cases p2
  · have := I.inj _ _ _ (.name m1) (.inr m2)
    subst this
    exact I.sep _ _ _ m1 m2
theorem heapOf_inv : ∀ {l : List (Id × Blk)} {x : Id} {b : Blk}, heapOf l x = some b → (x, b) ∈ l := by
  intro l
  induction l with
  | nil => intro x b e; cases e
  | cons y l ih =>
    intro x b e
    obtain ⟨i, c⟩ := y
    unfold heapOf HU at e
    split at e
    · rename_i hx; injection e with e; subst e; subst hx; exact List.mem_cons_self ..
    · exact List.mem_cons_of_mem _ (ih e)
/-- What is only shown is none of the callee's. -/
theorem shown_ok (I : Inv w h ι) (L : LentsOK h g K l) {is : List Id} (his : full = true → ∀ i ∈ is, i ∈ K) {id : Id} {b : Blk} (hb : restrH is g id = some b) : BRep w (Own ι) ι id b ∧ ∀ k, Foot ι id k → ¬ Own (calleeMap full ι l K) k := by
  unfold restrH at hb
  split at hb
  · rename_i hm
    obtain ⟨h1, h2⟩ := L.hide id b hb
    refine ⟨I.blk id b h1, fun k hk ho => ?_⟩
    obtain ⟨x, ho⟩ := ho
    rcases callee_inv ho with ⟨_, hf, id', _, _, m1⟩ | ⟨_, i, c, e1, m1⟩
    · obtain ⟨m1, m2⟩ := foot_without m1
      have := I.inj _ _ _ hk m1
      subst this
      exact m2 ⟨his hf _ hm, I.real _ _ h1⟩
    · have := I.inj _ _ _ hk m1
      subst this
      exact h2 (List.mem_map.2 ⟨_, e1, rfl⟩)
  · cases hb
theorem callee_rn (L : LentsOK h g K l) (i j : Id) (hm : (i, j) ∈ rnOf l) : calleeMap full ι l K j = ι i := by
  obtain ⟨⟨a, b, c⟩, hx, hxe⟩ := List.mem_map.1 hm
  injection hxe with e1 e2; subst e1; subst e2
  exact (callee_at L hx).1
theorem arg_rep (I : Inv w h ι) (L : LentsOK h g K l) {s : Bool} (hfull : full = !s) {v v' : AV} (A : ArgOK g (rnOf l) s v v') {x : Value} (r : Rep w (Own ι) ι v x) : Rep w (Own (calleeMap full ι l K)) (calleeMap full ι l K) v' x := by
  cases A with
  | pk e hs =>
    cases hsv : s with
    | false =>
      have hid := hs hsv
      rw [pack_noIds g 3 v hid] at e; injection e with e; subst e
      exact ((r.noIds noMap hid).less fun b h => own_callee h).up
    | true =>
      have hff : full = false := by rw [hfull, hsv]; rfl
      refine (pack_rep (O := Own ι) (ι := ι) (h := g) (fun id b hb => ?_) (fun b h => own_callee h) 3 (Own ι) (fun b h => own_callee h) v v' x e r).up
      have := shown_ok (full := full) (is := [id]) I L (fun h => by rw [hff] at h; cases h) (id := id) (b := b) (by simp [restrH, hb])
      exact this
  | rn e => exact (ren_rep (callee_rn L) v v' x e r).less fun b h => own_callee h
theorem arg_give (I : Inv w h ι) (L : LentsOK h g K l) {s : Bool} {v v' : AV} (A : ArgOK (restrH K g) (rnOf l) s v v') {x : Value} (r : Rep w (Own ι) ι v x) : Rep w (Own (calleeMap true ι l K)) (calleeMap true ι l K) v' x := by
  cases A with
  | pk e hs => exact (pack_rep (O := Own ι) (ι := ι) (h := restrH K g) (fun id b hb => shown_ok (full := true) I L (fun _ i hi => hi) hb) (fun b h => own_callee h) 3 (Own ι) (fun b h => own_callee h) v v' x e r).up
  | rn e => exact (ren_rep (callee_rn L) v v' x e r).less fun b h => own_callee h
theorem renBlk_rep {w : World} {O O' : Nat → Prop} {ι ι' : Map} {ρ : List (Id × Id)} {b b' : Blk} {i j : Id} (hρ : ∀ i j, (i, j) ∈ ρ → ι' j = ι i) (e : renBlk ρ b = some b') (hB : BRep w O ι i b) (hij : ι' j = ι i) (hnn : ι'.n j = ι.n i) (hO : ∀ k, O' k → O k) : BRep w O' ι' j b' := by
  unfold renBlk at e
  split at e
  · rename_i hv
    cases hr : AV.renL ρ b.els with
    | none => simp [hr] at e
    | some els =>
      simp only [hr] at e
      injection e with e; subst e
      rcases hB with ⟨h1, h2, h3⟩ | ⟨k, cs, h1, h2, h3, h4, h5, h6, h8, h7, h9⟩
      · rw [hv] at h2; cases h2
      · have hlen := renL_length hr
        refine .inr ⟨k, cs, hij.trans h1, h2, h3, fun _ => by simp only; rw [hlen]; exact h4 hv, fun n hn => ?_, by simp only; rw [hlen]; exact h6, fun o ho => h8 o (by simp only at ho; rw [hlen] at ho; exact ho), fun n m hn hm => ?_, .var hv⟩
        · simp only at hn ⊢
          rw [hlen] at hn
          rw [renL_length (ren_cells (renL_at hr hn))]; exact h5 n hn
        · simp only at hn hm ⊢
          rw [hlen] at hn
          have h9 := h7 n m hn hm
          rw [hv] at h9 ⊢
          rw [hnn]
          exact (renL_rep hρ _ _ (ren_cells (renL_at hr hn)) m (by rw [h5 n hn]; exact hm) _ h9).less fun q hq => ⟨hO q hq.1, hq.2⟩
  · rename_i hv
    injection e with e; subst e
    rcases hB with ⟨h1, h2, h3⟩ | ⟨k, cs, h1, h2, h3, h4, h5, h6, h8, h7, h9⟩
    · exact .inl ⟨h1, h2, hij.trans h3⟩
    · refine .inr ⟨k, cs, hij.trans h1, h2, h3, h4, h5, h6, h8, fun n m hn hm => ?_, by rw [hnn]; exact h9⟩
      have := h7 n m hn hm
      rw [hv] at this ⊢
      rw [hnn]
      exact this.less fun q hq => ⟨hO q hq.1, hq.2⟩
theorem callee_inv_ok (I : Inv w h ι) (L : LentsOK h g K l) : Inv w (heapOf (l.map (·.2))) (calleeMap full ι l K) := by
  refine ⟨fun id b hb => ?_, callee_injm L I, callee_sep I, fun id k hk => ?_, fun id b hb => ?_⟩
  · obtain ⟨⟨i, j, c⟩, hx, hx'⟩ := List.mem_map.1 (heapOf_inv hb)
    injection hx' with e1 e2; subst e1; subst e2
    obtain ⟨b0, hb0, hc⟩ := L.ok _ hx
    exact renBlk_rep (callee_rn L) hc (I.blk i b0 hb0) (callee_at L hx).1 (callee_at L hx).2 fun k h => own_callee h
  · rcases callee_inv hk with ⟨_, _, id', _, _, m1⟩ | ⟨_, i, c, _, m1⟩
    · exact I.live _ _ (foot_without m1).1
    · exact I.live _ _ m1
  · obtain ⟨x, hx, hx'⟩ := List.mem_map.1 (heapOf_inv hb)
    have := L.real x hx
    rw [hx'] at this; exact this
end
end Go.Proofs.YtndgpinhbffleaaGreat


namespace Go.Proofs.YtndgpinhbffleaaGreat
open Go Go.RowKit

theorem sharesL_getD : ∀ {l : List AV} {i : Nat}, AV.sharesL l = false → (l.getD i .dead).shares = false := by
  intro l
  induction l with
  | nil => intro i _; simp [AV.shares]
  | cons c cs ih =>
    intro i h
    simp only [AV.sharesL, Bool.or_eq_false_iff] at h
    cases i with
    | zero => simpa using h.1
    | succ i => simpa using ih h.2
theorem cellsOf_shares {v : AV} (h : v.shares = false) : AV.sharesL (cellsOf v) = false := by
  cases v <;> first | (simpa [AV.shares, cellsOf] using h) | (simp [cellsOf, AV.sharesL, h])
theorem Rep.unshared {w : World} {O O' : Nat → Prop} {ι : Map} {v : AV} {x : Value} (r : Rep w O ι v x) (hsh : v.shares = false) : Rep w O' ι v x := by
  induction r with
  | dead v => exact .dead v
  | int k n => exact .int k n
  | bool b => exact .bool b
  | str h => exact .str h
  | agg hl _ ih => exact .agg hl fun i hi => ih i hi (sharesL_getD (by simpa [AV.shares] using hsh))
  | nil a => exact .nil a
  | slE m a cap => simp [AV.shares] at hsh
  | sl => simp [AV.shares] at hsh
  | ref h1 h2 h3 h4 => exact .ref h1 h2 h3 h4
  | refE => exact .refE _ _ _
  | ptr h => exact .ptr h
  | rptr => simp [AV.shares] at hsh
  | fn hl _ ih => exact .fn hl fun i hi => ih i hi (sharesL_getD (by simpa [AV.shares] using hsh))
  | nilfn => exact .nilfn
  | iface _ ih => exact .iface (ih (by simpa [AV.shares] using hsh))
  | niliface => exact .niliface
  | tuple hl _ ih => exact .tuple hl fun i hi => ih i hi (sharesL_getD (by simpa [AV.shares] using hsh))
  | nilptr => exact .nilptr
def nmap (ιo base : Map) : Nat → List Id → Map
  | _, [] => base
  | n, i :: is => ⟨fun x => if x = i then ιo [n, 0, 0, 0] else nmap ιo base (n + 1) is x, fun x c => if x = i then ιo.n [n, 0, 0, 0] c else (nmap ιo base (n + 1) is).n x c⟩
theorem nmap_at {ιo base : Map} : ∀ {is : List Id} {n k : Nat} {i : Id}, is.Nodup → is[k]? = some i → nmap ιo base n is i = ιo [n + k, 0, 0, 0] ∧ (nmap ιo base n is).n i = ιo.n [n + k, 0, 0, 0] := by
  intro is
  induction is with
  | nil => intro n k i _ h; simp at h
  | cons j is ih =>
    intro n k i hn h
    simp only [List.nodup_cons] at hn
    unfold nmap
    cases k with
    | zero => 
      simp at h; subst h
      exact ⟨if_pos rfl, funext fun c => if_pos rfl⟩
    | succ k =>
      have h' : is[k]? = some i := by simpa using h
      have : i ≠ j := fun e => hn.1 (by rw [← e]; exact List.mem_of_getElem? h')
      obtain ⟨h1, h2⟩ := ih (n := n + 1) hn.2 h'
      rw [show n + 1 + k = n + (k + 1) from by omega] at h1 h2
      refine ⟨(if_neg this).trans h1, ?_⟩
      rw [← h2]
      exact funext fun c => if_neg this
theorem nmap_out {ιo base : Map} {x : Id} : ∀ {is : List Id} {n : Nat}, x ∉ is → nmap ιo base n is x = base x ∧ (nmap ιo base n is).n x = base.n x := by
  intro is
  induction is with
  | nil => intro n _; exact ⟨rfl, rfl⟩
  | cons j is ih =>
    intro n h
    simp only [List.mem_cons, not_or] at h
    unfold nmap
    obtain ⟨h1, h2⟩ := ih (n := n + 1) h.2
    refine ⟨(if_neg h.1).trans h1, ?_⟩
    rw [← h2]
    exact funext fun c => if_neg h.1
theorem nmap_cases {ιo base : Map} {x : Id} {is : List Id} (n : Nat) (hn : is.Nodup) : (∃ k, is[k]? = some x ∧ nmap ιo base n is x = ιo [n + k, 0, 0, 0] ∧ (nmap ιo base n is).n x = ιo.n [n + k, 0, 0, 0]) ∨ (x ∉ is ∧ nmap ιo base n is x = base x ∧ (nmap ιo base n is).n x = base.n x) := by
  by_cases h : x ∈ is
  · obtain ⟨k, hk⟩ := List.getElem?_of_mem h
    obtain ⟨h1, h2⟩ := nmap_at (ιo := ιo) (base := base) (n := n) hn hk
    exact .inl ⟨k, hk, h1, h2⟩
  · obtain ⟨h1, h2⟩ := nmap_out (ιo := ιo) (base := base) (n := n) h
    exact .inr ⟨h, h1, h2⟩
theorem zip_keys : ∀ {is : List Id} {bs : List Blk}, is.length = bs.length → keys (zipIds is bs) = is := by
  intro is
  induction is with
  | nil => intro bs _; cases bs <;> rfl
  | cons i is ih =>
    intro bs h
    cases bs with
    | nil => simp at h
    | cons b bs => simp only [zipIds, keys, List.map_cons]; congr 1; exact ih (by simpa using h)
theorem zip_mem : ∀ {is : List Id} {bs : List Blk} {id : Id} {b : Blk}, (id, b) ∈ zipIds is bs → ∃ k : Nat, is[k]? = some id ∧ bs[k]? = some b := by
  intro is
  induction is with
  | nil => intro bs id b h; cases bs <;> cases h
  | cons i is ih =>
    intro bs id b h
    cases bs with
    | nil => cases h
    | cons c bs =>
      simp only [zipIds, List.mem_cons] at h
      rcases h with h | h
      · injection h with h1 h2; subst h1; subst h2; exact ⟨0, rfl, rfl⟩
      · obtain ⟨k, h1, h2⟩ := ih h
        exact ⟨k + 1, by simpa using h1, by simpa using h2⟩
theorem nodupB_spec : ∀ {l : List Id}, nodupB l = true → l.Nodup := by
  intro l
  induction l with
  | nil => intro _; exact .nil
  | cons i l ih =>
    intro h
    simp only [nodupB, Bool.and_eq_true, Bool.not_eq_true', decide_eq_false_iff_not] at h
    exact List.nodup_cons.2 ⟨h.1, ih h.2⟩
theorem flat_el {P : Program} {b : Blk} (hs : blkFlat P b = true) {i j : Nat} (hj : j < (cellsOf (b.els.getD i .dead)).length) : ((cellsOf (b.els.getD i .dead)).getD j .dead).shares = false ∨ (b.isVar = false ∧ b.sub.isSome = true ∧ i < b.els.length ∧ slC ((cellsOf (b.els.getD i .dead)).getD j .dead) = true) := by
  unfold blkFlat at hs
  split at hs
  · exact .inl (sharesL_getD (cellsOf_shares (sharesL_getD (by simpa using hs))))
  · rename_i t ht
    simp only [Bool.and_eq_true, Bool.not_eq_true', List.all_eq_true] at hs
    by_cases hi : i < b.els.length
    · right
      have h1 := hs.2 (b.els[i]) (List.getElem_mem hi)
      have h2 : b.els[i] = b.els.getD i .dead := by simp [hi]
      rw [h2] at h1
      have h3 := h1 ((cellsOf (b.els.getD i .dead))[j]) (List.getElem_mem hj)
      have h4 : (cellsOf (b.els.getD i .dead))[j] = (cellsOf (b.els.getD i .dead)).getD j .dead := by
        simp only [List.getD_eq_getElem?_getD (l := cellsOf (b.els.getD i .dead))]
        rw [List.getElem?_eq_getElem hj]; rfl
      rw [h4] at h3
      exact ⟨hs.1, by rw [ht]; rfl, hi, h3⟩
    · left
      have : b.els.getD i .dead = .dead := by simp [hi]
      rw [this]
      refine sharesL_getD ?_
      rfl
/-- A cell that shows a row that is handed on with it. -/
theorem Rep.nested {w : World} {O O' : Nat → Prop} {c : AV} {x : Value} (r : Rep w O noMap c x) (hs : slC c = true) (hn : ∀ m y ys, c = .sl m (y :: ys) → ¬ O' (blkOf x)) : Rep w O' noMap c x := by
  cases r with
  | sl cell hne hlen hcap hob hb hm hc hcell h1 h =>
    rename_i m es b off cap len
    cases es with
    | nil => exact absurd rfl hne
    | cons y ys =>
      refine .sl cell hne hlen hcap (hn m y ys rfl) hb hm hc hcell h1 fun i j hi hj => (h i j hi hj).unshared ?_
      simp only [slC, Bool.not_eq_true'] at hs
      exact sharesL_getD (cellsOf_shares (sharesL_getD hs))
  | slE m a cap => exact .slE m a cap
  | dead => simp [slC, plainC] at hs
  | int => exact .int _ _
  | bool => exact .bool _
  | str hb => exact .str hb
  | nil => exact .nil _
  | nilfn => exact .nilfn
  | niliface => exact .niliface
  | nilptr => exact .nilptr
  | _ => simp [slC, plainC] at hs
theorem flat_rep {P : Program} {w : World} {O O' n : Nat → Prop} {ι : Map} {b : Blk} {cs : Array Value} (hs : blkFlat P b = true) (h9 : NestOK w n b cs) {i j : Nat} (hi : i < b.els.length) (hj : j < b.sz) (hl : (cellsOf (b.els.getD i .dead)).length = b.sz) (r : Rep w (ob O n b) (inMap b.isVar ι) ((cellsOf (b.els.getD i .dead)).getD j .dead) (cs.getD (i * b.sz + j) undef)) :
    Rep w (ob O' n b) (inMap b.isVar ι) ((cellsOf (b.els.getD i .dead)).getD j .dead) (cs.getD (i * b.sz + j) undef) := by
  rcases flat_el (P := P) hs (i := i) (j := j) (by rw [hl]; exact hj) with h | ⟨h1, h2, _, h3⟩
  · exact r.unshared h
  · rw [h1] at r ⊢
    refine Rep.nested r h3 fun m y ys hc ho => ?_
    obtain ⟨t, ht⟩ := Option.isSome_iff_exists.1 h2
    have hsl : slAt b.sz b.els i j = some m := by
      unfold slAt
      rw [if_pos ⟨hi, hj⟩]
      unfold nestAt
      rw [hc]
    exact ho.2 h2 ((h9 h1 t ht).1 i j m hsl).1
theorem BRep.unshared {P : Program} {w : World} {O O' : Nat → Prop} {ι : Map} {id : Id} {b : Blk} (h : BRep w O ι id b) (hs : blkFlat P b = true) : BRep w O' ι id b := by
  rcases h with ⟨h1, h2, h3⟩ | ⟨k, cs, h1, h2, h3, h4, h5, h6, h8, h7, h9⟩
  · exact .inl ⟨h1, h2, h3⟩
  · exact .inr ⟨k, cs, h1, h2, h3, h4, h5, h6, h8, fun i j hi hj => flat_rep hs h9 hi hj (h5 i hi) (h7 i j hi hj), h9⟩
/-- A block told by value, under a name. -/
theorem BRepN.named {P : Program} {w : World} {O O' : Nat → Prop} {p : Option (Nat × Nat)} {n : Nat → Prop} {b : Blk} (h : BRepN w O p n b) {ι : Map} {id : Id} (hid : ι id = p) (hidn : ι.n id = n) (hO : (∀ k, O' k → O k) ∨ blkFlat P b = true) : BRep w O' ι id b := by
  rcases h with ⟨h1, h2, h3⟩ | ⟨k, cs, h1, h2, h3, h4, h5, h6, h8, h7, h9⟩
  · exact .inl ⟨h1, h2, hid.trans h3⟩
  · refine .inr ⟨k, cs, hid.trans h1, h2, h3, h4, h5, h6, h8, fun i j hi hj => ?_, by rw [hidn]; exact h9⟩
    have r : Rep w (ob O n b) (inMap b.isVar noMap) ((cellsOf (b.els.getD i .dead)).getD j .dead) (cs.getD (i * b.sz + j) undef) := by
      have := h7 i j hi hj
      cases b.isVar <;> exact this
    have r' : Rep w (ob O' n b) (inMap b.isVar noMap) ((cellsOf (b.els.getD i .dead)).getD j .dead) (cs.getD (i * b.sz + j) undef) := by
      rcases hO with hO | hO
      · exact r.less fun q hq => ⟨hO q hq.1, hq.2⟩
      · exact flat_rep hO h9 hi hj (h5 i hi) r
    rw [hidn]
    cases hv : b.isVar
    · rw [hv] at r'; exact r'
    · rw [hv] at r'; exact Rep.up r'
section
variable {P : Program} {w : World} {O O' : Nat → Prop} {ιo ιs ι' : Map} {own : List Blk} {ns : Option (List Id)} {ρ : List (Id × Id)} {shown : Bool}
theorem nameL_length : ∀ {l l' : List AV}, AV.nameL own ns ρ l = some l' → l'.length = l.length := by
  intro l
  induction l with
  | nil => intro l' e; simp [AV.nameL] at e; simp [← e]
  | cons c cs ih =>
    intro l' e
    unfold AV.nameL at e
    split at e
    · cases hq : AV.nameL own ns ρ cs with
      | none => simp [hq] at e
      | some q => simp [hq] at e; rw [← e]; simp [ih hq]
    · cases e
/-- What the names of an answer stand on. -/
structure Names (P : Program) (w : World) (O O' : Nat → Prop) (ιo ιs ι' : Map) (own : List Blk) (ns : Option (List Id)) (ρ : List (Id × Id)) (shown : Bool) : Prop where
  src : ∀ k : Nat, ιs [k, 0, 0, 0] = ιo [k, 0, 0, 0]
  lent : ∀ i j, (i, j) ∈ ρ → ι' j = ιs i
  sub : shown = false → ∀ b, O' b → O b
  ok : ∀ (k : Nat) (b : Blk), own[k]? = some b → BRepN w O (ιo [k, 0, 0, 0]) (ιo.n [k, 0, 0, 0]) b ∧ (shown = true → blkFlat P b = true)
  nsome : ∀ ids, ns = some ids → ∀ (k : Nat) (id : Id), ids[k]? = some id → ι' id = ιo [k, 0, 0, 0]
  nnone : ns = none → ∀ (k b : Nat), Foot ιo [k, 0, 0, 0] b → ¬ O' b
theorem ownIx_some {id : Id} {k : Nat} (h : ownIx id = some k) : id = [k, 0, 0, 0] := by
  unfold ownIx at h
  split at h
  · injection h with h; subst h; rfl
  · cases h
/-- A slice of a row that is told by value. -/
theorem sl_of {b : Blk} {p : Option (Nat × Nat)} {n : Nat → Prop} {off len cap blk sz : Nat} (hB : BRepN w O p n b) (hv : b.isVar = false) (hlen : off + len ≤ b.els.length) (hp : p = some (blk, sz)) (hcap : len ≤ cap) (hno : ¬ O' blk) (hnn : ∀ c, n c → ¬ O' c) (hO : (∀ k, O' k → O k) ∨ blkFlat P b = true) :
    Rep w O' noMap (.sl b.sz ((b.els.drop off).take len)) (.slice (some ⟨blk, off * sz, none⟩) len cap) := by
  rcases hB with ⟨_, _, h3⟩ | ⟨k', cs, h1, h2, h3, h4, h5, h6, h8, h7, h9⟩
  · rw [h3] at hp; cases hp
  · rw [hp] at h1; injection h1 with h1; injection h1 with e1 e2; subst e1; subst e2
    by_cases hl : len = 0
    · subst hl; simp; exact .slE _ _ _
    · have hlen' : ((b.els.drop off).take len).length = len := by simp; omega
      have hget : ∀ i, i < len → ((b.els.drop off).take len).getD i .dead = b.els.getD (off + i) .dead := by
        intro i hi; simp [hi]
      have hmul : ∀ i j, i < len → j < b.sz → off * b.sz + i * b.sz + j < b.els.length * b.sz := by
        intro i j hi hj
        have : (off + i + 1) * b.sz ≤ b.els.length * b.sz := Nat.mul_le_mul_right _ (by omega)
        simp only [Nat.add_mul, Nat.one_mul] at this
        omega
      refine .sl (fun i j => cs.getD (off * b.sz + i * b.sz + j) undef) (fun h => hl (by rw [h] at hlen'; simpa using hlen'.symm)) hlen'.symm hcap hno (lt_of_cells h2) h3 (fun i hi => ?_) (fun i j hi hj => ?_) (fun i j hi hj => ?_) (fun i j hi hj => ?_)
      · rw [hlen'] at hi; rw [hget i hi]; exact h5 _ (by omega)
      · rw [hlen'] at hi; exact cell?_of_cells h2 (Nat.lt_of_lt_of_le (hmul i j hi hj) h6)
      · rw [hlen'] at hi; exact h8 _ (hmul i j hi hj)
      · rw [hlen'] at hi; rw [hget i hi]
        have r := h7 (off + i) j (by omega) hj
        have r' : Rep w (ob O' n b) noMap ((cellsOf (b.els.getD (off + i) .dead)).getD j .dead) (cs.getD ((off + i) * b.sz + j) undef) := by
          rcases hO with hO | hO
          · exact r.less fun q hq => ⟨hO q hq.1, hq.2⟩
          · have := flat_rep (O' := O') (ι := noMap) hO h9 (i := off + i) (by omega) hj (h5 _ (by omega)) (by rw [hv]; exact r)
            rw [hv] at this; exact this
        rw [Nat.add_mul] at r'
        exact r'.less fun q hq => ⟨hq, fun _ hn => hnn q hn hq⟩
mutual
theorem name_spec (N : Names P w O O' ιo ιs ι' own ns ρ shown) (v v' : AV) (x : Value) (e : AV.name own ns ρ v = some v') (hs : shown = true → v.shares = false) (r : Rep w O ιs v x) : Rep w O' ι' v' x := by
  have conv : ∀ {u : AV} {y : Value} {ιx : Map}, (shown = true → u.shares = false) → Rep w O ιx u y → Rep w O' ιx u y := by
    intro u y ιx h r
    cases hsh : shown with
    | false => exact r.less (N.sub hsh)
    | true => exact r.unshared (h hsh)
  cases r with
  | agg hl hr =>
    rename_i cs vs
    unfold AV.name at e
    cases hq : AV.nameL own ns ρ cs with
    | none => simp [hq] at e
    | some q =>
      simp [hq] at e; subst e
      exact .agg ((nameL_length hq).trans hl) fun i hi => nameL_spec N cs q hq (fun h => by have := hs h; simpa [AV.shares] using this) i (by rw [nameL_length hq] at hi; exact hi) _ (hr i (by rw [nameL_length hq] at hi; exact hi))
  | tuple hl hr =>
    rename_i cs vs
    unfold AV.name at e
    cases hq : AV.nameL own ns ρ cs with
    | none => simp [hq] at e
    | some q =>
      simp [hq] at e; subst e
      exact .tuple ((nameL_length hq).trans hl) fun i hi => nameL_spec N cs q hq (fun h => by have := hs h; simpa [AV.shares] using this) i (by rw [nameL_length hq] at hi; exact hi) _ (hr i (by rw [nameL_length hq] at hi; exact hi))
  | fn hl hr =>
    rename_i f cs vs
    unfold AV.name at e
    split at e
    · rename_i hid
      injection e with e; subst e
      have hid' : (AV.fn f cs).ids = [] := by simpa [AV.ids] using hid
      exact conv hs ((Rep.fn hl hr).noIds ι' hid')
    · cases e
  | iface hr =>
    rename_i t v y
    unfold AV.name at e
    split at e
    · rename_i hid
      injection e with e; subst e
      have hid' : (AV.iface t v).ids = [] := by simpa [AV.ids] using hid
      exact conv hs ((Rep.iface hr).noIds ι' hid')
    · cases e
  | ref hι hsh hcap hn =>
    rename_i id off len cap blk sz n ty
    unfold AV.name at e
    cases hox : ownIx id with
    | none =>
      simp only [hox] at e
      cases hj : lookI ρ id with
      | none => simp [hj] at e
      | some j =>
        simp only [hj] at e
        injection e with e; subst e
        exact .ref (by rw [N.lent id j (lookI_mem hj)]; exact hι) hsh hcap hn
    | some k =>
      have hid0 := ownIx_some hox
      subst hid0
      rw [N.src] at hι
      simp only [hox] at e
      cases hb : own[k]? with
      | none => simp [hb] at e
      | some b =>
        simp only [hb] at e
        cases hns : ns with
        | some ids =>
          simp only [hns] at e
          cases hid : ids[k]? with
          | none => simp [hid] at e
          | some id =>
            simp only [hid] at e
            injection e with e; subst e
            exact .ref (by rw [N.nsome ids hns k id hid]; exact hι) hsh hcap hn
        | none =>
          simp only [hns] at e
          split at e
          · rename_i hc
            injection e with e; subst e
            obtain ⟨hB, hf⟩ := N.ok k b hb
            exact (sl_of hB hc.1 hc.2 hι hcap (N.nnone hns k blk (.name hι)) (fun c hc => N.nnone hns k c (.inr hc)) (by
              cases hshw : shown with
              | false => exact .inl (N.sub hshw)
              | true => exact .inr (hf hshw))).up
          · cases e
  | refE id off a =>
    unfold AV.name at e
    cases hox : ownIx id with
    | none =>
      simp only [hox] at e
      cases hj : lookI ρ id with
      | none => simp [hj] at e
      | some j => simp only [hj] at e; injection e with e; subst e; exact .refE _ _ _
    | some k =>
      simp only [hox] at e
      cases hb : own[k]? with
      | none => simp [hb] at e
      | some b =>
        simp only [hb] at e
        cases hns : ns with
        | some ids =>
          simp only [hns] at e
          cases hid : ids[k]? with
          | none => simp [hid] at e
          | some id => simp only [hid] at e; injection e with e; subst e; exact .refE _ _ _
        | none =>
          simp only [hns] at e
          split at e
          · injection e with e; subst e; simp; exact .slE _ _ _
          · cases e
  | ptr hι =>
    rename_i id idx off kb sz
    unfold AV.name at e
    cases hox : ownIx id with
    | none =>
      simp only [hox] at e
      cases hj : lookI ρ id with
      | none => simp [hj] at e
      | some j =>
        simp only [hj] at e
        injection e with e; subst e
        exact .ptr (by rw [N.lent id j (lookI_mem hj)]; exact hι)
    | some k =>
      have hid0 := ownIx_some hox
      subst hid0
      rw [N.src] at hι
      simp only [hox] at e
      cases hns : ns with
      | some ids =>
        simp only [hns] at e
        cases hid : ids[k]? with
        | none => simp [hid] at e
        | some id =>
          simp only [hid] at e
          injection e with e; subst e
          exact .ptr (by rw [N.nsome ids hns k id hid]; exact hι)
      | none => simp [hns] at e
  | dead v => unfold AV.name at e; injection e with e; subst e; exact .dead _
  | int k m => unfold AV.name at e; injection e with e; subst e; exact .int _ _
  | bool b => unfold AV.name at e; injection e with e; subst e; exact .bool _
  | str hb => unfold AV.name at e; injection e with e; subst e; exact .str hb
  | nil a => unfold AV.name at e; injection e with e; subst e; exact .nil _
  | slE m a cap => unfold AV.name at e; injection e with e; subst e; exact .slE _ _ _
  | sl cell hn hlen hcap hob hb hm hc hcell h1 hr =>
    unfold AV.name at e; injection e with e; subst e
    exact conv hs (.sl cell hn hlen hcap hob hb hm hc hcell h1 hr)
  | rptr cell hob hb hcell h1 hr =>
    unfold AV.name at e; injection e with e; subst e
    exact conv hs (.rptr cell hob hb hcell h1 hr)
  | nilfn => unfold AV.name at e; injection e with e; subst e; exact .nilfn
  | niliface => unfold AV.name at e; injection e with e; subst e; exact .niliface
  | nilptr => unfold AV.name at e; injection e with e; subst e; exact .nilptr
  termination_by SizeOf.sizeOf v
theorem nameL_spec (N : Names P w O O' ιo ιs ι' own ns ρ shown) (l l' : List AV) (e : AV.nameL own ns ρ l = some l') (hs : shown = true → AV.sharesL l = false) (i : Nat) (hi : i < l.length) (x : Value) (r : Rep w O ιs (l.getD i .dead) x) : Rep w O' ι' (l'.getD i .dead) x := by
  cases l with
  | nil => simp at hi
  | cons c cs =>
    unfold AV.nameL at e
    cases hp : AV.name own ns ρ c with
    | none => simp [hp] at e
    | some c' =>
      cases hq : AV.nameL own ns ρ cs with
      | none => simp [hp, hq] at e
      | some q =>
        simp [hp, hq] at e; subst e
        simp only [AV.sharesL, Bool.or_eq_false_iff] at hs
        cases i with
        | zero => exact name_spec N c c' x hp (fun h => (hs h).1) (by simpa using r)
        | succ i => simpa using nameL_spec N cs q hq (fun h => (hs h).2) i (by simpa using hi) x (by simpa using r)
  termination_by SizeOf.sizeOf l
end
end
end Go.Proofs.YtndgpinhbffleaaGreat


namespace Go.Proofs.YtndgpinhbffleaaGreat
open Go Go.RowKit

section
variable {P : Program} {np : Nat} {h g : Heap} {w w' : World} {ι ιo : Map} {l : Lent} {K : List Id} {shown : Bool} {ns : Option (List Id)} {r : Res} {e : Eff} {rv : Value}
theorem callDone_inv (hcd : callDone P np false h ns l shown K r = some e) : ∃ v io', AV.name r.own ns (l.map fun x => (x.2.1, x.1)) r.val = some v ∧ renBlks (l.map fun x => (x.2.1, x.1)) r.io = some io' ∧ e = { val := v, ups := zipIds (l.map (·.1)) io' ++ zipIds (ns.getD []) r.own, kills := K ++ (ns.getD []).filter fun i => (h i).isSome } ∧ r.io.length = l.length ∧
    (shown = true → r.val.shares = false ∧ (∀ b ∈ r.io, blkFlat P b = true) ∧ ∀ b ∈ r.own, blkFlat P b = true) ∧ (∀ ids, ns = some ids → ids.length = r.own.length ∧ ∀ i ∈ ids, np ≤ i.headD 0 ∧ ph i = false) := by
  unfold callDone flatB at hcd
  split at hcd
  · cases hcd
  · rename_i hsh
    split at hcd
    · cases hcd
    · rename_i hio
      have hio : r.io.length = l.length := Decidable.byContradiction hio
      have hsh' : shown = true → r.val.shares = false ∧ (∀ b ∈ r.io, blkFlat P b = true) ∧ ∀ b ∈ r.own, blkFlat P b = true := by
        intro hs
        simp only [hs, Bool.true_and, Bool.or_eq_true, not_or, Bool.not_eq_true', Bool.not_eq_true, Bool.not_eq_false, List.all_eq_true] at hsh
        obtain ⟨⟨a1, a2⟩, a3⟩ := hsh
        exact ⟨a1, a2, a3⟩
      cases hv : AV.name r.own ns (l.map fun x => (x.2.1, x.1)) r.val with
      | none => simp [hv] at hcd
      | some v =>
       cases hi : renBlks (l.map fun x => (x.2.1, x.1)) r.io with
       | none => simp [hv, hi] at hcd
       | some io' =>
        simp only [hv, hi] at hcd
        refine ⟨v, io', rfl, rfl, ?_⟩
        cases hns : ns with
        | none =>
          simp only [hns] at hcd
          injection hcd with hcd; subst hcd
          exact ⟨by simp [zipIds], hio, hsh', fun _ h => by cases h⟩
        | some ids =>
          simp only [hns] at hcd
          split at hcd
          · rename_i hc
            injection hcd with hcd; subst hcd
            refine ⟨rfl, hio, hsh', fun ids' h => ?_⟩
            injection h with h; subst h
            refine ⟨hc.1, fun i hi => ?_⟩
            have := List.all_eq_true.1 hc.2 i hi
            simp only [Bool.and_eq_true, decide_eq_true_eq] at this
            exact ⟨this.1, by simp [ph]; omega⟩
          · cases hcd
theorem renBlks_spec {ρ : List (Id × Id)} : ∀ {bs bs' : List Blk}, renBlks ρ bs = some bs' → bs'.length = bs.length ∧ ∀ (k : Nat) (b' : Blk), bs'[k]? = some b' → ∃ b, bs[k]? = some b ∧ renBlk ρ b = some b' := by
  intro bs
  induction bs with
  | nil => intro bs' e; simp [renBlks] at e; subst e; exact ⟨rfl, fun k b' h => by simp at h⟩
  | cons b bs ih =>
    intro bs' e
    unfold renBlks at e
    split at e
    · rename_i c cs h1 h2
      injection e with e; subst e
      obtain ⟨a1, a2⟩ := ih h2
      refine ⟨by simp [a1], fun k b' h => ?_⟩
      cases k with
      | zero => simp at h; subst h; exact ⟨b, rfl, h1⟩
      | succ k => simpa using a2 k b' (by simpa using h)
    · cases e
theorem lent_at {k : Nat} {id : Id} {b : Blk} (h1 : (l.map (·.1))[k]? = some id) (h2 : r.io[k]? = some b) : ∃ j c, (id, j, c) ∈ l ∧ k < l.length ∧ ((l.map (·.2)).map (·.1)).getD k [] = j ∧ r.io.getD k default = b := by
  simp only [List.getElem?_map] at h1
  cases hx : l[k]? with
  | none => simp [hx] at h1
  | some x =>
    obtain ⟨i, j, c⟩ := x
    simp [hx] at h1; subst h1
    refine ⟨j, c, List.mem_of_getElem? hx, (List.getElem?_eq_some_iff.1 hx).1, by simp [hx], by simp [h2]⟩
theorem call_done0 (I : Inv w h ι) (L : LentsOK h g K l) (hcd : callDone P np false h ns l shown K r = some e) (hnd : nodupB (l.map (·.1) ++ ns.getD []) = true) (hnK : ∀ i ∈ ns.getD [], i ∉ K) (Lf : Left1 (calleeMap (!shown) ι l K) (l.map (·.2)) r w w' rv ιo)
    (hups : ∀ id k, id ∈ keys e.ups → ph id = false → Foot ι id k → (h id).isSome = true) : ∃ ι', Done np h w ι e rv w' ι' := by
  obtain ⟨v, io', hname, hren, he, hio, hsh, hids⟩ := callDone_inv hcd
  obtain ⟨rn1, rn2⟩ := renBlks_spec hren
  have hnd := nodupB_spec hnd
  rw [List.nodup_append] at hnd
  obtain ⟨nd1, nd2, nd3⟩ := hnd
  generalize hidsv : ns.getD [] = ids at *
  have hidl : ids.length = r.own.length ∨ ids = [] := by
    cases hns : ns with
    | none => right; rw [← hidsv, hns]; rfl
    | some is => left; rw [← hidsv, hns]; exact (hids is hns).1
  have hidr : ∀ i ∈ ids, np ≤ i.headD 0 ∧ ph i = false := by
    cases hns : ns with
    | none => rw [← hidsv, hns]; intro i hi; cases hi
    | some is => rw [← hidsv, hns]; exact (hids is hns).2
  have hkeys : keys e.ups = l.map (·.1) ++ ids := by
    rw [he]
    simp only [keys, List.map_append]
    congr 1
    · exact zip_keys (by simp [hio, rn1])
    · rcases hidl with h | h
      · exact zip_keys h
      · rw [h]; simp [zipIds]
  have hlh : ∀ i ∈ l.map (·.1), ∃ b, h i = some b := by
    intro i hi
    obtain ⟨x, hx, rfl⟩ := List.mem_map.1 hi
    obtain ⟨b, hb, _⟩ := L.ok x hx
    exact ⟨b, hb⟩
  have hlr : ∀ i ∈ l.map (·.1), ph i = false := fun i hi => by obtain ⟨b, hb⟩ := hlh i hi; exact I.real i b hb
  have hlK : ∀ i ∈ l.map (·.1), i ∉ K := fun i hi => by obtain ⟨x, hx, rfl⟩ := List.mem_map.1 hi; exact L.off x hx
  have hout : ∀ {i}, i ∉ ids → i ∉ K → nmap ιo (without ι K) 0 ids i = ι i ∧ (nmap ιo (without ι K) 0 ids).n i = ι.n i := fun {i} h1 h2 => by
    obtain ⟨a1, a2⟩ := nmap_out (ιo := ιo) (base := without ι K) (n := 0) h1
    obtain ⟨b1, b2⟩ := without_at (ι := ι) (K := K) (i := i) fun h => h2 h.1
    exact ⟨a1.trans b1, a2.trans b2⟩
  have hlent : ∀ i ∈ l.map (·.1), nmap ιo (without ι K) 0 ids i = ι i ∧ (nmap ιo (without ι K) 0 ids).n i = ι.n i := fun i hi => hout (fun h => nd3 i hi i h rfl) (hlK i hi)
  have hfoot : ∀ {x c}, Foot (nmap ιo (without ι K) 0 ids) x c → (∃ k, ids[k]? = some x ∧ Foot ιo [k, 0, 0, 0] c) ∨ (x ∉ ids ∧ Foot (without ι K) x c) := by
    intro x c hx
    rcases nmap_cases (ιo := ιo) (base := without ι K) (x := x) 0 nd2 with ⟨k, h1, h2, h3⟩ | ⟨h1, h2, h3⟩
    · rw [Nat.zero_add] at h2 h3
      exact .inl ⟨k, h1, hx.of h2.symm h3.symm⟩
    · exact .inr ⟨h1, hx.of h2.symm h3.symm⟩
  -- whose blocks are the caller's own
  have sub : shown = false → ∀ b, Own (nmap ιo (without ι K) 0 ids) b → Both (calleeMap (!shown) ι l K) ιo b := by
    rintro hs b ⟨x, hx⟩
    rw [hs]
    rcases hfoot hx with ⟨k, _, h2⟩ | ⟨_, h2⟩
    · exact .inr ⟨_, h2⟩
    · exact .inl (callee_full L h2)
  have Nm : Names P w' (Both (calleeMap (!shown) ι l K) ιo) (Own (nmap ιo (without ι K) 0 ids)) ιo (jn (calleeMap (!shown) ι l K) ιo) (nmap ιo (without ι K) 0 ids) r.own ns (l.map fun x => (x.2.1, x.1)) shown := by
    refine ⟨fun k => rfl, fun i j hm => ?_, sub, fun k b hb => ?_, fun is hns k id hid => ?_, fun hns k b hk => ?_⟩
    · obtain ⟨⟨a, b, c⟩, hx, hxe⟩ := List.mem_map.1 hm
      injection hxe with e1 e2; subst e1; subst e2
      have hno : ownIx b = none := by
        cases ho : ownIx b with
        | none => rfl
        | some k =>
          have h1 := ownIx_some ho
          have h2 := L.real _ hx
          simp only at h2
          rw [h1] at h2
          simp [ph] at h2
      simp only [jn, hno]
      rw [(callee_at L hx).1]
      exact (hlent a (List.mem_map.2 ⟨_, hx, rfl⟩)).1
    · obtain ⟨hlt, hb'⟩ := List.getElem?_eq_some_iff.1 hb
      have := Lf.own k hlt
      have hg : r.own.getD k default = b := by simp [hb]
      rw [hg] at this
      exact ⟨this, fun hs => (hsh hs).2.2 b (List.mem_of_getElem? hb)⟩
    · have : is = ids := by rw [← hidsv, hns]; rfl
      subst this
      have := (nmap_at (ιo := ιo) (base := without ι K) (n := 0) nd2 hid).1
      rw [Nat.zero_add] at this; exact this
    · rintro ⟨x, hx⟩
      have hz : ids = [] := by rw [← hidsv, hns]; rfl
      rw [hz] at hx
      have := I.live x b (foot_without hx).1
      have := (Lf.new _ _ hk).1
      omega
  refine ⟨nmap ιo (without ι K) 0 ids, ?_⟩
  have hzm : ∀ {id b}, (id, b) ∈ e.ups → (id, b) ∈ zipIds (l.map (·.1)) io' ∨ (id, b) ∈ zipIds ids r.own := by
    intro id b hm; rw [he] at hm; exact List.mem_append.1 hm
  refine ⟨?_, ?_, fun id b hm => ?_, fun id h1 h2 => ?_, fun id h1 h2 => ?_, fun id k s hk => ?_, fun id k hk => ?_, fun id id' k h1 h2 => ?_, fun id k s hk hn => ?_, fun id k hk => ?_, fun id h1 h2 => ?_, fun id h1 h2 => ?_, ?_, fun id h1 => ?_, fun id hp => ?_⟩
  · refine Lf.ext.mono fun b _ ⟨j, h1, h2⟩ => ?_
    rcases callee_inv h2 with ⟨hp, _⟩ | ⟨_, i, c, h3, h4⟩
    · obtain ⟨x, hx, rfl⟩ := List.mem_map.1 h1
      obtain ⟨y, hy, rfl⟩ := List.mem_map.1 hx
      have := L.real y hy
      rw [hp] at this; cases this
    · exact ⟨i, by rw [hkeys]; exact List.mem_append_left _ (List.mem_map.2 ⟨_, h3, rfl⟩), h4⟩
  · have := name_spec Nm r.val v rv hname (fun hs => (hsh hs).1) Lf.val
    rw [he]; exact this
  · rcases hzm hm with hm | hm
    · obtain ⟨k, h1, h2⟩ := zip_mem hm
      obtain ⟨b0, h2, hrb⟩ := rn2 k b h2
      obtain ⟨j, c, h3, h4, h5, h6⟩ := lent_at h1 h2
      have hB := Lf.io k (by simpa using h4)
      rw [h5, h6] at hB
      have hρ : ∀ i j, (i, j) ∈ l.map (fun x => (x.2.1, x.1)) → nmap ιo (without ι K) 0 ids j = calleeMap (!shown) ι l K i := by
        intro i j hm
        obtain ⟨⟨a, b, c⟩, hx, hxe⟩ := List.mem_map.1 hm
        injection hxe with e1 e2; subst e1; subst e2
        rw [(callee_at L hx).1]
        exact (hlent a (List.mem_map.2 ⟨_, hx, rfl⟩)).1
      have hat : nmap ιo (without ι K) 0 ids id = calleeMap (!shown) ι l K j ∧ (nmap ιo (without ι K) 0 ids).n id = (calleeMap (!shown) ι l K).n j := by
        obtain ⟨a1, a2⟩ := hlent id (List.mem_map.2 ⟨_, h3, rfl⟩)
        obtain ⟨b1, b2⟩ := callee_at (ι := ι) (full := !shown) L h3
        exact ⟨a1.trans b1.symm, a2.trans b2.symm⟩
      cases hs : shown with
      | false => rw [hs] at hB hρ hat; exact renBlk_rep hρ hrb hB hat.1 hat.2 (by have := sub hs; rw [hs] at this; exact this)
      | true => rw [hs] at hB hρ hat; exact renBlk_rep hρ hrb (hB.unshared ((hsh hs).2.1 b0 (List.mem_of_getElem? h2))) hat.1 hat.2 fun _ h => h
    · obtain ⟨k, h1, h2⟩ := zip_mem hm
      obtain ⟨hB, hf⟩ := Nm.ok k b h2
      have hna := nmap_at (ιo := ιo) (base := without ι K) (n := 0) nd2 h1
      rw [Nat.zero_add] at hna
      refine hB.named (P := P) hna.1 hna.2 ?_
      cases hs : shown with
      | false => left; rw [← hs]; exact sub hs
      | true => exact .inr (hf hs)
  · rw [hkeys, List.mem_append, not_or] at h2
    rw [he] at h1
    simp only [List.mem_append, not_or] at h1
    exact hout h2.2 h1.1
  · rw [he] at h1
    simp only [List.mem_append, not_or] at h1
    by_cases hm : id ∈ ids
    · obtain ⟨p, hp⟩ := Option.ne_none_iff_exists'.1 h2
      have hs := hups id p.1 (by rw [hkeys]; exact List.mem_append_right _ hm) (hidr id hm).2 (.name (s := p.2) hp)
      exact absurd (List.mem_filter.2 ⟨hm, hs⟩) h1.2
    · exact (hout hm h1.1).1
  · rcases nmap_cases (ιo := ιo) (base := without ι K) (x := id) 0 nd2 with ⟨n, _, h2, _⟩ | ⟨_, h2, _⟩
    · rw [h2] at hk; exact .inr (Lf.new _ _ (.name hk)).1
    · rw [h2] at hk; exact .inl (without_name hk)
  · rcases nmap_cases (ιo := ιo) (base := without ι K) (x := id) 0 nd2 with ⟨n, _, _, h2⟩ | ⟨_, _, h2⟩
    · rw [h2] at hk; exact .inr (.inl (Lf.new _ _ (.inr hk)).1)
    · rw [h2] at hk; exact .inl hk.2
  · rcases hfoot h1 with ⟨n, a1, a2⟩ | ⟨_, a2⟩ <;> rcases hfoot h2 with ⟨n', b1, b2⟩ | ⟨_, b2⟩
    · have := Lf.inj _ _ _ a2 b2
      injection this with this
      subst this
      rw [a1] at b1; injection b1
    · have := (Lf.new _ _ a2).1
      have := I.live _ _ (foot_without b2).1
      omega
    · have := (Lf.new _ _ b2).1
      have := I.live _ _ (foot_without a2).1
      omega
    · exact I.inj _ _ _ (foot_without a2).1 (foot_without b2).1
  · rcases nmap_cases (ιo := ιo) (base := without ι K) (x := id) 0 nd2 with ⟨n, _, h2, h3⟩ | ⟨_, h2, h3⟩
    · rw [h2] at hk; rw [h3] at hn
      exact Lf.sep _ _ _ hk hn
    · rw [h2] at hk; rw [h3] at hn
      exact I.sep _ _ _ (without_name hk) hn.2
  · rcases hfoot hk with ⟨n, _, h2⟩ | ⟨_, h2⟩
    · exact (Lf.new _ _ h2).2.1
    · exact Nat.lt_of_lt_of_le (I.live _ _ (foot_without h2).1) Lf.ext.size
  · rw [hkeys, List.mem_append, not_or] at h2
    rw [he] at h1
    simp only [List.mem_append, List.mem_filter] at h1
    have hk : id ∈ K := h1.resolve_right fun h => h2.2 h.1
    cases hp : ph id with
    | true => exact .inl rfl
    | false =>
      right
      intro k hf
      rcases hfoot hf with ⟨n, a1, _⟩ | ⟨_, a2⟩
      · exact h2.2 (List.mem_of_getElem? a1)
      · exact (foot_without a2).2 ⟨hk, hp⟩
  · rw [hkeys, List.mem_append] at h2
    rcases h2 with h2 | h2
    · obtain ⟨b, hb⟩ := hlh id h2
      exact ⟨(hlent id h2).1, (hlent id h2).2, by rw [hb]; rfl⟩
    · have := (hidr id h2).1; omega
  · rw [hkeys, List.nodup_append]; exact ⟨nd1, nd2, nd3⟩
  · rw [hkeys, List.mem_append] at h1
    rcases h1 with h1 | h1
    · exact hlr id h1
    · exact (hidr id h1).2
  · have : id ∉ ids := fun h => by have := (hidr id h).2; rw [hp] at this; cases this
    obtain ⟨a1, a2⟩ := nmap_out (ιo := ιo) (base := without ι K) (n := 0) this
    obtain ⟨b1, b2⟩ := without_at (ι := ι) (K := K) (i := id) fun h => by rw [hp] at h; cases h.2
    exact ⟨a1.trans b1, a2.trans b2⟩
/-- An effect, of which it is forgotten what the rows of some new names own. -/
def forget (F : List Id) (e : Eff) : Eff := { e with ups := e.ups.map fun x => (x.1, if x.1 ∈ F then { x.2 with sub := none } else x.2) }
def bareM (F : List Id) (ι : Map) : Map := ⟨ι.f, fun i c => i ∉ F ∧ ι.n i c⟩
theorem bare_foot {F : List Id} {ι : Map} {i : Id} {c : Nat} (h : Foot (bareM F ι) i c) : Foot ι i c := by
  rcases h with ⟨s, h⟩ | h
  · exact .name h
  · exact .inr h.2
theorem bare_at {F : List Id} {ι : Map} {i : Id} (h : i ∉ F) : (bareM F ι).n i = ι.n i := by
  funext c
  show (i ∉ F ∧ ι.n i c) = ι.n i c
  simp [h]
theorem Done.forget {ι' : Map} {v : Value} (D : Done np h w ι e v w' ι') {F : List Id} (hF : ∀ i ∈ F, np ≤ i.headD 0 ∧ ph i = false) (hk : ∀ i ∈ F, i ∈ keys e.ups) : Done np h w ι (forget F e) v w' (bareM F ι') := by
  have hkk : keys (Go.Proofs.YtndgpinhbffleaaGreat.forget F e).ups = keys e.ups := by simp [keys, Go.Proofs.YtndgpinhbffleaaGreat.forget, Function.comp_def]
  have hO : ∀ k, Own (bareM F ι') k → Own ι' k := fun k ⟨i, h⟩ => ⟨i, bare_foot h⟩
  refine ⟨by rw [hkk]; exact D.ext, D.val.mono (Ext.refl _ _) (fun k _ h => hO k h) _ fun _ _ h => h, fun id b hm => ?_, fun id h1 h2 => ?_, D.same', D.new, fun id k h => D.newn id k h.2, fun id id' k h1 h2 => D.inj id id' k (bare_foot h1) (bare_foot h2), fun id k s h1 h2 => D.sep id k s h1 h2.2, fun id k h => D.live id k (bare_foot h), fun id h1 h2 => ?_, fun id h1 h2 => ?_, by rw [hkk]; exact D.nodup, fun id h1 => D.real id (by rw [hkk] at h1; exact h1), fun id hp => ?_⟩
  · obtain ⟨x, hx, hxe⟩ := List.mem_map.1 hm
    injection hxe with e1 e2; subst e1
    have hB := D.ups x.1 x.2 hx
    by_cases hf : x.1 ∈ F
    · rw [if_pos hf] at e2; subst e2
      rcases hB with ⟨h1, h2, h3⟩ | ⟨k, cs, h1, h2, h3, h4, h5, h6, h8, h7, h9⟩
      · exact .inl ⟨h1, h2, h3⟩
      · refine .inr ⟨k, cs, h1, h2, h3, h4, h5, h6, h8, fun i j hi hj => ?_, .none rfl⟩
        refine (h7 i j hi hj).mono (Ext.refl _ _) (fun q _ hq => ⟨hO q hq.1, fun _ hn => ?_⟩) _ ?_
        · obtain ⟨⟨i', hf'⟩, _⟩ := hq
          have := D.inj _ _ _ (bare_foot hf') (.inr hn); subst this
          rcases hf' with ⟨s, hf'⟩ | hf'
          · exact D.sep _ _ _ hf' hn
          · exact hf'.1 hf
        · show ∀ id p, (inMap x.2.isVar ι') id = some p → (inMap x.2.isVar (bareM F ι')) id = some p
          cases x.2.isVar
          · exact fun _ _ h => h
          · exact fun _ _ h => h
    · rw [if_neg hf] at e2; subst e2
      exact hB.mono (Ext.refl _ _) (fun k _ h => hO k h) (fun _ _ => rfl) rfl (bare_at hf) fun _ _ h => h
  · rw [hkk] at h2
    have hf : id ∉ F := fun h => h2 (hk id h)
    rw [bare_at hf]
    exact D.same id h1 h2
  · rw [hkk] at h2
    exact (D.gone id h1 h2).imp (fun h => h) fun h k hk => h k (bare_foot hk)
  · rw [hkk] at h2
    have hf : id ∉ F := fun h => by have := (hF id h).1; omega
    rw [bare_at hf]
    exact D.lent id h1 h2
  · have hf : id ∉ F := fun h => by have := (hF id h).2; rw [hp] at this; cases this
    rw [bare_at hf]
    exact D.phs id hp
theorem zip_flat {F : List Id} : ∀ {is : List Id} {bs : List Blk}, (∀ i ∈ is, i ∈ F) → (zipIds is bs).map (fun x => (x.1, if x.1 ∈ F then { x.2 with sub := none } else x.2)) = zipIds is (bs.map fun b => { b with sub := none }) := by
  intro is
  induction is with
  | nil => intro bs _; cases bs <;> rfl
  | cons i is ih =>
    intro bs h
    cases bs with
    | nil => rfl
    | cons b bs =>
      simp only [zipIds, List.map_cons, if_pos (h i (List.mem_cons_self ..))]
      rw [ih fun j hj => h j (List.mem_cons_of_mem _ hj)]
theorem zip_same {F : List Id} : ∀ {is : List Id} {bs : List Blk}, (∀ i ∈ is, i ∉ F) → (zipIds is bs).map (fun x => (x.1, if x.1 ∈ F then { x.2 with sub := none } else x.2)) = zipIds is bs := by
  intro is
  induction is with
  | nil => intro bs _; cases bs <;> rfl
  | cons i is ih =>
    intro bs h
    cases bs with
    | nil => rfl
    | cons b bs =>
      simp only [zipIds, List.map_cons, if_neg (h i (List.mem_cons_self ..))]
      rw [ih fun j hj => h j (List.mem_cons_of_mem _ hj)]
theorem callDone_flat (hnd : nodupB (l.map (·.1) ++ ns.getD []) = true) (hcd : callDone P np true h ns l shown K r = some e) : ∃ e0, callDone P np false h ns l shown K r = some e0 ∧ e = forget (ns.getD []) e0 := by
  have hnd := nodupB_spec hnd
  rw [List.nodup_append] at hnd
  obtain ⟨_, _, nd3⟩ := hnd
  unfold callDone at hcd ⊢
  split at hcd
  · cases hcd
  · rename_i h1
    rw [if_neg h1]
    split at hcd
    · cases hcd
    · rename_i h2
      rw [if_neg h2]
      split at hcd
      · rename_i v io' hv hi
        cases hns : ns with
        | none =>
          simp only [hns] at hcd
          injection hcd with hcd; subst hcd
          refine ⟨_, by simp only [hns] at hv; simp only [hv, hi]; rfl, ?_⟩
          unfold forget
          simp only [Option.getD_none]
          rw [zip_same (fun i _ h => by cases h)]
        | some ids =>
          simp only [hns] at hcd
          split at hcd
          · rename_i hc
            injection hcd with hcd; subst hcd
            refine ⟨_, by simp only [hns] at hv; simp only [hv, hi]; rw [if_pos hc], ?_⟩
            unfold forget flatB
            simp only [Option.getD_some, List.map_append]
            rw [zip_flat (fun i h => h), zip_same (fun i hi h => nd3 i hi i (by rw [hns]; exact h) rfl)]
          · cases hcd
      · cases hcd
theorem call_done {fl : Bool} (I : Inv w h ι) (L : LentsOK h g K l) (hcd : callDone P np fl h ns l shown K r = some e) (hnd : nodupB (l.map (·.1) ++ ns.getD []) = true) (hnK : ∀ i ∈ ns.getD [], i ∉ K) (Lf : Left1 (calleeMap (!shown) ι l K) (l.map (·.2)) r w w' rv ιo)
    (hups : ∀ id k, id ∈ keys e.ups → ph id = false → Foot ι id k → (h id).isSome = true) : ∃ ι', Done np h w ι e rv w' ι' := by
  cases fl with
  | false => exact call_done0 I L hcd hnd hnK Lf hups
  | true =>
    obtain ⟨e0, h0, rfl⟩ := callDone_flat hnd hcd
    have hkk : keys (forget (ns.getD []) e0).ups = keys e0.ups := by simp [keys, forget, Function.comp_def]
    obtain ⟨ι', D⟩ := call_done0 I L h0 hnd hnK Lf (by rw [hkk] at hups; exact hups)
    obtain ⟨v, io', _, _, he, _, _, hids⟩ := callDone_inv h0
    have hidr : ∀ i ∈ ns.getD [], (np ≤ i.headD 0 ∧ ph i = false) ∧ i ∈ keys e0.ups := by
      cases hns : ns with
      | none => intro i hi; cases hi
      | some is =>
        intro i hi
        refine ⟨(hids is hns).2 i hi, ?_⟩
        rw [he, hns]
        simp only [keys, List.map_append]
        have := zip_keys (hids is hns).1
        simp only [keys] at this
        simp only [Option.getD_some]
        rw [this]
        exact List.mem_append_right _ hi
    exact ⟨_, D.forget (fun i hi => (hidr i hi).1) fun i hi => (hidr i hi).2⟩
theorem aloadF_spec (I : Inv w h ι) {t : TypeId} {u : AV} {x : Value} (he : aloadF P np h t u = some e) (r : Rep w (Own ι) ι u x) : ∃ y ι', (Instr.loadAt t x).run P w = .ok y w ∧ Done np h w ι e y w ι' := by
  unfold aloadF at he
  split at he
  · rename_i id idx off
    cases hb : h id with
    | none => simp [hb] at he
    | some b =>
      simp only [hb] at he
      split at he
      · rename_i hnp
        have D := (Done.still0 (np := np) (b' := b) I hb (I.blk id b hb) undef).forget (F := [id]) (by intro i hi; simp at hi; subst hi; exact ⟨hnp, I.real _ b hb⟩) (by intro i hi; simp at hi; subst hi; simp [keys])
        have I' : Inv w (HU h id { b with sub := none }) (bareM [id] ι) := by
          refine ⟨fun i c hc => ?_, D.inj, D.sep, D.live, fun i c hc => ?_⟩
          · unfold HU at hc
            split at hc
            · rename_i hi; subst hi
              injection hc with hc; subst hc
              exact D.ups _ _ (by simp [forget])
            · rename_i hi
              exact (I.blk i c hc).mono (Ext.refl _ _) (fun k _ ⟨j, h⟩ => ⟨j, bare_foot h⟩) (fun _ _ => rfl) rfl (bare_at (by simpa using hi)) fun _ _ h => h
          · unfold HU at hc
            split at hc
            · rename_i hi; subst hi; exact I.real _ b hb
            · exact I.real i c hc
        cases hv : aload P (HU h id { b with sub := none }) t (.ptr id idx off) with
        | none => simp [hv] at he
        | some v =>
          simp only [hv] at he
          injection he with he; subst he
          obtain ⟨y, hy, hr⟩ := aload_spec I' hv (r.mono (Ext.refl _ _) (fun k _ ⟨j, h⟩ => ⟨j, bare_foot h⟩) _ fun _ _ h => h)
          have hu : (forget [id] { val := .dead, ups := [(id, b)] }).ups = [(id, { b with sub := none })] := by simp [forget]
          refine ⟨y, bareM [id] ι, hy, ⟨?_, hr, ?_, ?_, D.same', D.new, D.newn, D.inj, D.sep, D.live, (by intro _ h; cases h), ?_, by simp [keys], ?_, D.phs⟩⟩
          · have := D.ext; rw [hu] at this; exact this
          · have := D.ups; rw [hu] at this; exact this
          · have := D.same; rw [hu] at this; exact this
          · have := D.lent; rw [hu] at this; exact this
          · have := D.real; rw [hu] at this; exact this
      · cases he
  · cases he
end
end Go.Proofs.YtndgpinhbffleaaGreat


namespace Go.Proofs.YtndgpinhbffleaaGreat
open Go Go.RowKit

section
variable {P : Program} {np : Nat} {g : Heap} {w : World} {ι : Map}
theorem OpOK.val {o : Oper} {a : Act} {e : Eff} {v : Value} {w' : World} {ι' : Map} (hr : (execOp a.eval o).run P w = .ok (.value v) w') (D : Done np g w ι e v w' ι') : OpOK P np g o a w ι e := by
  intro next Q hn
  unfold Oper.wp
  rw [hr]
  exact hn v w' ι' D
theorem OpOK.skip {o : Oper} {a : Act} {e : Eff} {w' : World} {ι' : Map} (hr : (execOp a.eval o).run P w = .ok .skip w') (D : Done np g w ι e undef w' ι') : OpOK P np g o a w ι e := by
  intro next Q hn
  unfold Oper.wp
  rw [hr]
  exact hn undef w' ι' D
theorem val_some {x : Option AV} {e : Eff} (h : val x = some e) : ∃ v, x = some v ∧ e = { val := v } := by
  unfold Go.Proofs.YtndgpinhbffleaaGreat.val at h
  split at h
  · injection h with h; exact ⟨_, rfl, h.symm⟩
  · cases h
theorem parts_rep {O : Nat → Prop} {ρ : Operand → AV} {f : Operand → Value} (hρ : ∀ x, Rep w O ι (ρ x) (f x)) (ps : Array (Nat × Operand)) : PartsRep w O ι (ps.toList.map fun p => (p.1, ρ p.2)) (ps.map fun (i, x) => (i, f x)).toList := by
  refine ⟨by simp, fun k hk => ?_⟩
  have hk' : k < ps.size := by simpa using hk
  simp [hk']
  exact hρ _
theorem newAt_key {d : Id} {b : Blk} {v : AV} : d ∈ keys (newAt g d b v).ups := by unfold newAt; split <;> simp [keys]
theorem ph_one (d : Nat) : ph [d] = false := by simp [ph]
theorem opt_rep {O : Nat → Prop} {ρ : Operand → AV} {f : Operand → Value} (hρ : ∀ x, Rep w O ι (ρ x) (f x)) (x : Option Operand) : OptRep w O ι (x.map ρ) (x.map f) := by
  cases x with
  | none => exact .none
  | some x => exact .some (hρ x)
theorem nilSl_rep {O : Nat → Prop} {m : Nat} {v : AV} {x : Value} (h : Rep w O ι v x) : Rep w O ι (nilSl m v) x := by
  cases h <;> first | exact .slE m _ _ | (constructor <;> assumption)
theorem canonL_length : ∀ (ms : List (Option Nat)) (cs : List AV), (canonL ms cs).length = cs.length := by
  intro ms
  induction ms with
  | nil => intro cs; rfl
  | cons m ms ih =>
    intro cs
    cases cs with
    | nil => cases m <;> rfl
    | cons c cs => cases m <;> simp [canonL, ih]
theorem canonL_rep {O : Nat → Prop} : ∀ (ms : List (Option Nat)) (cs : List AV) (f : Nat → Value), (∀ i, i < cs.length → Rep w O ι (cs.getD i .dead) (f i)) → ∀ i, i < cs.length → Rep w O ι ((canonL ms cs).getD i .dead) (f i) := by
  intro ms
  induction ms with
  | nil => intro cs f h; exact h
  | cons m ms ih =>
    intro cs f h i hi
    cases cs with
    | nil => simp at hi
    | cons c cs =>
      have h' := ih cs (fun i => f (i + 1)) (fun i hi => by simpa using h (i + 1) (by simpa using hi))
      cases i with
      | zero =>
        have h0 := h 0 hi
        simp only [List.getD_cons_zero] at h0
        cases m with
        | none => simpa [canonL] using h0
        | some m => simpa [canonL] using nilSl_rep h0
      | succ i =>
        have := h' i (by simpa using hi)
        cases m <;> simpa [canonL] using this
theorem canon_rep {O : Nat → Prop} {ms : List (Option Nat)} {v : AV} {x : Value} (h : Rep w O ι v x) : Rep w O ι (canon ms v) x := by
  unfold canon
  split
  · exact h
  · exact nilSl_rep h
  · generalize hx : x = y at h
    cases h with
    | agg hl hh => exact .agg (by rw [canonL_length]; exact hl) fun i hi => canonL_rep _ _ _ hh i (by rwa [canonL_length] at hi)
  · exact h
theorem canonArgs_length : ∀ (ts : List TypeId) (vs : List AV), (canonArgs P ts vs).length = vs.length := by
  intro ts
  induction ts with
  | nil => intro vs; cases vs <;> rfl
  | cons t ts ih =>
    intro vs
    cases vs with
    | nil => rfl
    | cons v vs => simp [canonArgs, ih]
theorem canonArgs_rep {O : Nat → Prop} : ∀ (ts : List TypeId) (vs : List AV) (f : Nat → Value), (∀ i, i < vs.length → Rep w O ι (vs.getD i .dead) (f i)) → ∀ i, i < vs.length → Rep w O ι ((canonArgs P ts vs).getD i .dead) (f i) := by
  intro ts
  induction ts with
  | nil => intro vs f h; cases vs <;> exact h
  | cons t ts ih =>
    intro vs f h i hi
    cases vs with
    | nil => simp at hi
    | cons v vs =>
      cases i with
      | zero => simpa [canonArgs] using canon_rep (h 0 hi)
      | succ i => simpa [canonArgs] using ih vs (fun i => f (i + 1)) (fun i hi => by simpa using h (i + 1) (by simpa using hi)) i (by simpa using hi)
/-- A call does what the oracle tells. -/
theorem acall_sound {E : Oracle} {A : FuncId → Ann} {an : Ann} (hE : ∀ f args H r, E f args H = some r → Sound P f args H r) {d : Nat} {fv : AV} {args : List AV} {e : Eff} (h : acall P E A an d fv args g = some e) (I : Inv w g ι) {o : Oper} {a : Act} {fo : Operand} {avs : Array Operand} {ats : Array TypeId}
    (ho : o.op = .call { callee := .value fo, args := avs, argTypes := ats }) (rf : Rep w (Own ι) ι fv (a.eval fo)) (hl : args.length = avs.size) (ra : ∀ k, k < args.length → Rep w (Own ι) ι (args.getD k .dead) ((avs.map a.eval).getD k undef)) (hups : ∀ id k, id ∈ keys e.ups → ph id = false → Foot ι id k → (g id).isSome = true) :
    OpOK P an.np g o a w ι e := by
  unfold acall at h
  split at h
  · rename_i gf caps
    dsimp only at h
    split at h
    · rename_i args' shown l hto hlb
      split at h
      · rename_i hc1
        split at h
        · rename_i r hr
          split at h
          · rename_i hc2
            simp only [Bool.and_eq_true, List.all_eq_true, decide_eq_true_eq] at hc1
            obtain ⟨t1, t2⟩ := toArgs_spec _ _ _ _ hto
            obtain ⟨b1, b2⟩ := lentBlks_spec hlb
            generalize hρ : lendNms g 0 [] (A gf).io (args ++ caps) = ρ at *
            subst b1
            have L : ∀ K : List Id, (∀ x ∈ l, x.1 ∉ K) → LentsOK g (hideH ((rnOf l).map (·.1)) g) K l := by
              intro K hK
              refine ⟨b2, nodupB_spec hc1.1.2, nodupB_spec hc1.1.1, fun x hx => ?_, hK, fun id b hb => ?_⟩
              · have := (hc1.2 x hx).2
                simp [ph]; omega
              · obtain ⟨h1, h2⟩ := hideH_some _ _ _ _ hb
                refine ⟨h1, fun hm => h2 ?_⟩
                simpa [rnOf, Function.comp_def] using hm
            obtain ⟨⟨fn, hfn, hname, hbody⟩, hS⟩ := hE _ _ _ _ hr
            generalize hfv : a.eval fo = fx at rf
            cases rf with
            | fn hcl hcr =>
              rename_i vs
              have hrun : (execOp a.eval o).run P w = .ok (.enter gf (#[] ++ avs.map a.eval ++ vs)) w := by
                unfold execOp
                simp only [ho, resolve, hfv, Deferred.ofValue, Sem.run_bind, Sem.run_pure, Result.andThen_ok, invoke]
                have hb' : ∃ c, fn.body = some c := by
                  cases hb : fn.body with
                  | none => rw [hb] at hbody; cases hbody
                  | some c => exact ⟨c, rfl⟩
                obtain ⟨c, hb'⟩ := hb'
                simp [callFunc, hfn, hname, hb']
              have hvals : ∀ k, k < (args ++ caps).length → Rep w (Own ι) ι ((args ++ caps).getD k .dead) ((#[] ++ avs.map a.eval ++ vs).getD k undef) := by
                intro k hk
                rw [List.length_append] at hk
                simp only [List.getD_eq_getElem?_getD, List.getElem?_append, Array.getD_eq_getD_getElem?, Array.empty_append, Array.getElem?_append, Array.size_map]
                by_cases hka : k < args.length
                · rw [if_pos hka, if_pos (by omega)]
                  simpa using ra k hka
                · rw [if_neg hka, if_neg (by omega), ← hl]
                  simpa using hcr (k - args.length) (by omega)
              have main : ∀ (K : List Id) (sh : Bool), (∀ x ∈ l, x.1 ∉ K) → (∀ i ∈ ((lookupD (an.own.map fun x => (x.1, some x.2)) d none).map (List.take r.own.length)).getD [], i ∉ K) →
                  (∀ k, k < args'.length → Rep w (Own (calleeMap (!sh) ι l K)) (calleeMap (!sh) ι l K) (args'.getD k .dead) ((#[] ++ avs.map a.eval ++ vs).getD k undef)) →
                  callDone P an.np (decide (d ∈ an.fl)) g ((lookupD (an.own.map fun x => (x.1, some x.2)) d none).map (List.take r.own.length)) l sh K r = some e → OpOK P an.np g o a w ι e := by
                intro K sh hK hnK hargs hcd
                have hcalls := hS w (calleeMap (!sh) ι l K) (#[] ++ avs.map a.eval ++ vs) (by rw [← t1]; simp; omega) (callee_inv_ok I (L K hK)) hargs (fun id p hp => by
                  rcases callee_inv hp with ⟨h1, _⟩ | ⟨_, i, b, h2, _⟩
                  · exact .inl h1
                  · exact .inr (by simp only [keys, List.map_map]; exact List.mem_map.2 ⟨_, h2, rfl⟩)) (fun id hid => by
                  simp only [keys, List.map_map] at hid
                  obtain ⟨x, hx, rfl⟩ := List.mem_map.1 hid
                  exact (L K hK).real x hx) (by simpa [keys, Function.comp_def] using (L K hK).js) (fun id hid => by
                  simp only [keys, List.map_map] at hid
                  obtain ⟨x, hx, rfl⟩ := List.mem_map.1 hid
                  exact (hc1.2 x hx).1)
                intro next Q hn
                unfold Oper.wp
                rw [hrun, Oper.upon_enter]
                refine hcalls.mono fun en w' hh => ?_
                obtain ⟨rv, ιo, rfl, Lf⟩ := hh
                obtain ⟨ι', D⟩ := call_done I (L K hK) hcd hc2 hnK Lf hups
                exact hn _ _ _ D
              split at h
              · rename_i e' hcd
                injection h with h; subst h
                exact main [] shown (fun x _ => by simp) (fun i _ => by simp) (fun k hk => arg_rep I (L [] fun x _ => by simp) rfl (t2 k (by omega)) (hvals k (by omega))) hcd
              · unfold callGive at h
                split at h
                · rename_i hg
                  simp only [Bool.and_eq_true, List.all_eq_true, Bool.not_eq_true', decide_eq_false_iff_not] at hg
                  obtain ⟨⟨hg1, hg2⟩, hg3⟩ := hg
                  obtain ⟨q, hq⟩ := Option.isSome_iff_exists.1 hg1
                  have hq' := toArgs_more (restrH_less _ _) _ _ _ hq
                  rw [hto] at hq'; injection hq' with hq'; subst hq'
                  obtain ⟨_, u2⟩ := toArgs_spec _ _ _ _ hq
                  exact main _ false hg2 hg3 (fun k hk => arg_give I (L _ hg2) (u2 k (by omega)) (hvals k (by omega))) h
                · cases h
          · cases h
        · cases h
      · cases h
    · cases h
  · cases h
theorem run_equalIn_nil (w : World) (D : Nat) (t el : TypeId) (d : Addr) (n m l c : Nat) (hu : P.underlying t = some (.slice el)) : (Op.equalIn (D + 1) t (.slice (some d) n m) (.slice none l c)).run P w = .ok false w := by
  simp [Op.equalIn, run_underlying hu]
theorem arr1 {α : Type} {xs : Array α} (h : xs.size = 1) (d : α) : xs = #[xs.getD 0 d] := by
  obtain ⟨l⟩ := xs
  match l, h with
  | [x], _ => rfl
theorem arr2 {α : Type} {xs : Array α} (h : xs.size = 2) (d : α) : xs = #[xs.getD 0 d, xs.getD 1 d] := by
  obtain ⟨l⟩ := xs
  match l, h with
  | [x, y], _ => rfl
theorem map2 {ρ : Operand → AV} {avs : Array Operand} {u v : AV} (h : avs.toList.map ρ = [u, v]) : ∃ x y, avs = #[x, y] ∧ ρ x = u ∧ ρ y = v := by
  obtain ⟨l⟩ := avs
  match l, h with
  | [x, y], h => simp at h; exact ⟨x, y, rfl, h.1, h.2⟩
theorem dp_ok {an : Ann} : (if an.dp then some an.np else none) = some an.np ∨ (if an.dp then some an.np else none) = (none : Option Nat) := by
  cases an.dp
  · exact .inr rfl
  · exact .inl rfl
theorem aop_sound {E : Oracle} {A : FuncId → Ann} {an : Ann} (hE : ∀ f args H r, E f args H = some r → Sound P f args H r) : OpsOK P E A an := by
  intro o ρ g e a w ι h I hρ hups
  cases ho : o.op with
  | move x =>
    simp only [aop, ho] at h
    injection h with h; subst h
    exact OpOK.pure I (by unfold execOp; simp only [ho]; rfl) (hρ x)
  | assign x =>
    simp only [aop, ho] at h
    injection h with h; subst h
    exact OpOK.pure I (by unfold execOp; simp only [ho]; rfl) (hρ x)
  | pick c x y =>
    simp only [aop, ho] at h
    obtain ⟨u, hu, rfl⟩ := val_some h
    obtain ⟨t, ht, hr⟩ := apick_spec hu (hρ c) (hρ x) (hρ y)
    exact OpOK.pure I (by unfold execOp; simp only [ho, ht]; rfl) hr
  | alloc t =>
    simp only [aop, ho] at h
    cases hi : tyi P t with
    | none => simp [hi] at h
    | some i =>
      simp only [hi] at h
      split at h
      · rename_i hc
        obtain ⟨_, hnp, h0, hzl, hzf⟩ := hc
        injection h with h; subst h
        obtain ⟨inf, d, z, q1, q2, q3, q4, q5, q6, q7, q8, q9⟩ := zero_cells hi
        obtain ⟨hc1, hc2⟩ := q9 hzf
        refine OpOK.val (v := .pointer (some ⟨w.heap.size, 0, none⟩)) (w' := push w (.cells z.cells t)) ?_ (newVar_spec (x := z) I (fun k => hups _ k newAt_key (ph_one _)) hnp (ph_one _) h0 (by rw [hc1, hzl]) (by omega) (fun j hj => by rw [hc1]; exact q7 w _ ι j (by omega)) (fun j hj => hc2 j (by omega)))
        unfold execOp
        simp only [ho, Instr.alloc, Sem.run_bind, zeroValue_run q1 q5, Result.andThen_ok]
        simp [newVar, newRow, alloc_push]
      · cases h
  | box t x =>
    simp only [aop, ho] at h
    split at h
    · rename_i hc
      obtain ⟨_, hnp, hl, hf, h0⟩ := hc
      injection h with h; subst h
      obtain ⟨c1, c2⟩ := cells_rep (hρ x) hf
      refine OpOK.val (v := .pointer (some ⟨w.heap.size, 0, none⟩)) (w' := push w (.cells (a.eval x).cells t)) ?_ (newVar_spec (x := a.eval x) I (fun k => hups _ k newAt_key (ph_one _)) hnp (ph_one _) h0 hl (by omega) (fun j hj => (c2 j (by omega)).1) (fun j hj => (c2 j (by omega)).2))
      unfold execOp
      simp only [ho, Instr.box]
      simp [newVar, newRow, alloc_push]
    · cases h
  | build t ps =>
    simp only [aop, ho] at h
    obtain ⟨u, hu, rfl⟩ := val_some h
    obtain ⟨x, hx, hr⟩ := abuild_spec (P := P) (w := w) hu (parts_rep hρ ps)
    exact OpOK.pure I (by unfold execOp; simp only [ho, Sem.run_bind, hx, Result.andThen_ok]; rfl) hr
  | buildSlice t len ps =>
    simp only [aop, ho] at h
    split at h
    · rename_i hc
      have hkey : o.dst.getD 0 = o.dst.getD 0 := rfl
      obtain ⟨x, w', ι', hx, D⟩ := abuildSlice_spec (P := P) (np := an.np) (qs := ps.map fun (i, x) => (i, a.eval x)) I dp_ok h (parts_rep hρ ps) (fun k => hups _ k (by
        unfold abuildSlice at h
        split at h
        · split at h
          · split at h
            · split at h
              · injection h with h; subst h; exact newAt_key
              · cases h
            · cases h
          · cases h
        · cases h) (ph_one _)) hc.2 (ph_one _)
      exact OpOK.val (by unfold execOp; simp only [ho, Sem.run_bind, hx, Result.andThen_ok]; rfl) D
    · cases h
  | load t x =>
    simp only [aop, ho] at h
    split at h
    · obtain ⟨y, ι', hy, D⟩ := aloadF_spec (P := P) (np := an.np) I h (hρ x)
      exact OpOK.val (by unfold execOp; simp only [ho, Sem.run_bind, hy, Result.andThen_ok]; rfl) D
    · obtain ⟨u, hu, rfl⟩ := val_some h
      obtain ⟨y, hy, hr⟩ := aload_spec I hu (hρ x)
      exact OpOK.pure I (by unfold execOp; simp only [ho, Sem.run_bind, hy, Result.andThen_ok]; rfl) hr
  | store t x y =>
    simp only [aop, ho] at h
    obtain ⟨w', ι', hy, D⟩ := astore_spec (P := P) (np := an.np) I dp_ok h (hρ x) (hρ y)
    exact OpOK.skip (by unfold execOp; simp only [ho, Sem.run_bind, hy, Result.andThen_ok]; rfl) D
  | nilCheck x =>
    simp only [aop, ho] at h
    have hr := hρ x
    split at h
    · rename_i id i off hx
      injection h with h; subst h
      rw [hx] at hr
      generalize hv : a.eval x = v at hr
      cases hr with
      | ptr hι => exact OpOK.pure I (by unfold execOp; simp only [ho, hv]; rfl) (.ptr hι)
    · rename_i cs hx
      injection h with h; subst h
      rw [hx] at hr
      generalize hv : a.eval x = v at hr
      cases hr with
      | rptr cell hob hb hcell h1 hr => exact OpOK.pure I (by unfold execOp; simp only [ho, hv]; rfl) (.rptr cell hob hb hcell h1 hr)
    · cases h
  | binOp op t x y yt =>
    simp only [aop, ho] at h
    split at h
    · rename_i hny
      obtain ⟨u, hu, rfl⟩ := val_some h
      obtain ⟨l, c, rfl⟩ : ∃ l c, y = .const (.slice none l c) := by
        unfold isNilC at hny
        split at hny
        · exact ⟨_, _, rfl⟩
        · cases hny
      obtain ⟨el, d, b, hk, hop, hv⟩ : ∃ el ad b, tkind P t = .slice el ∧ (∃ n m, a.eval x = .slice (some ad) n m) ∧ u = .bool b ∧ ((op = .eql ∧ b = false) ∨ (op = .neq ∧ b = true)) := by
        have hr := hρ x
        unfold anil at hu
        split at hu
        · rename_i el m e es hk hx
          rw [hx] at hr
          generalize hvx : a.eval x = v at hr
          injection hu with hu
          cases hr with
          | sl => exact ⟨el, _, false, hk, ⟨_, _, rfl⟩, hu.symm, .inl ⟨rfl, rfl⟩⟩
        · rename_i el m e es hk hx
          rw [hx] at hr
          generalize hvx : a.eval x = v at hr
          injection hu with hu
          cases hr with
          | sl => exact ⟨el, _, true, hk, ⟨_, _, rfl⟩, hu.symm, .inr ⟨rfl, rfl⟩⟩
        · cases hu
      obtain ⟨n, m, hx⟩ := hop
      obtain ⟨rfl, hb⟩ := hv
      have hg : (eqGuard op t x (.const (.slice none l c)) (.slice (some d) n m) (.slice none l c)).run P w = .ok () w := eqGuard_run (by simp) (by simp)
      refine OpOK.pure I (v := .bool b) ?_ (.bool _)
      unfold execOp
      have hy : a.eval (.const (.slice none l c)) = .slice none l c := rfl
      simp only [ho, hx, hy]
      have hu' := tkind_slice hk
      rcases hb with ⟨rfl, rfl⟩ | ⟨rfl, rfl⟩
      · simp [hg, binOp, Op.equal, Op.maxDepth, run_equalIn_nil w _ t _ _ _ _ _ _ hu']
      · simp [hg, binOp, Op.equal, Op.maxDepth, run_equalIn_nil w _ t _ _ _ _ _ _ hu']
    · obtain ⟨u, hu, rfl⟩ := val_some h
      obtain ⟨z, hz, hr⟩ := abin_spec (P := P) (ox := x) (oy := y) hu (hρ x) (hρ y)
      refine OpOK.pure I ?_ hr
      unfold execOp
      simp only [ho]
      rw [Sem.run_bind, hz]
      rfl
  | unOp op t x =>
    simp only [aop, ho] at h
    obtain ⟨u, hu, rfl⟩ := val_some h
    obtain ⟨z, hz, hr⟩ := aun_spec (P := P) hu (hρ x)
    exact OpOK.pure I (by unfold execOp; simp only [ho, Sem.run_bind, hz, Result.andThen_ok]; rfl) hr
  | convert s t x =>
    simp only [aop, ho] at h
    obtain ⟨u, hu, rfl⟩ := val_some h
    obtain ⟨z, hz, hr⟩ := aconv_spec I hu (hρ x)
    exact OpOK.pure I (by unfold execOp; simp only [ho, Sem.run_bind, hz, Result.andThen_ok]; rfl) hr
  | makeInterface t x =>
    simp only [aop, ho] at h
    have hk : ∃ d, P.underlying t = some d ∧ ∀ ms, d ≠ .interface ms := by
      cases hu : P.underlying t with
      | none => simp [tkind, hu] at h
      | some d => exact ⟨d, rfl, fun ms hms => by subst hms; simp [tkind, hu] at h⟩
    obtain ⟨d, hu, hni⟩ := hk
    have h : e = { val := .iface t (ρ x) } := by
      split at h
      · cases h
      · cases h
      · injection h with h; exact h.symm
    subst h
    refine OpOK.pure I (v := .iface t (a.eval x)) ?_ (.iface (hρ x))
    unfold execOp
    simp only [ho, Instr.makeInterface, Sem.run_bind, underlying_run hu, Result.andThen_ok]
    cases d <;> first | (exact absurd rfl (hni _)) | rfl
  | makeFunc fn first caps =>
    cases fn with
    | func f =>
      simp only [aop, ho] at h
      split at h
      · rename_i hf
        have hf' : first = #[] := by simpa using hf
        injection h with h; subst h
        refine OpOK.pure I (v := .func (.func f) #[] (caps.map a.eval)) (by unfold execOp; simp [ho, hf', Instr.makeFunc]) (.fn (by simp) fun i hi => ?_)
        have hi' : i < caps.size := by simpa using hi
        simp [hi']
        exact hρ _
      · cases h
    | _ => simp [aop, ho] at h
  | makeSlice t l c =>
    simp only [aop, ho] at h
    split at h
    · rename_i hc
      obtain ⟨x, w', ι', hx, D⟩ := amake_spec (P := P) (np := an.np) I h (hρ l) (hρ c) (fun k => hups _ k (by
        unfold amake at h
        split at h
        · split at h
          · split at h
            · injection h with h; subst h; exact newAt_key
            · cases h
          · cases h
        · cases h) (ph_one _)) hc.2 (ph_one _)
      exact OpOK.val (by unfold execOp; simp only [ho, Sem.run_bind, hx, Result.andThen_ok]; rfl) D
    · cases h
  | slice t x lo hi mx =>
    simp only [aop, ho] at h
    obtain ⟨u, hu, rfl⟩ := val_some h
    obtain ⟨y, hy, hr⟩ := aslice_spec I hu (hρ x) (opt_rep hρ lo) (opt_rep hρ hi) (opt_rep hρ mx)
    exact OpOK.pure I (by unfold execOp; simp only [ho, Sem.run_bind, hy, Result.andThen_ok]; rfl) hr
  | fieldAddr t x f =>
    simp only [aop, ho] at h
    obtain ⟨u, hu, rfl⟩ := val_some h
    obtain ⟨y, hy, hr⟩ := afieldAddr_spec (P := P) (w := w) hu (hρ x)
    exact OpOK.pure I (by unfold execOp; simp only [ho, Sem.run_bind, hy, Result.andThen_ok]; rfl) hr
  | field t x f =>
    simp only [aop, ho] at h
    obtain ⟨u, hu, rfl⟩ := val_some h
    obtain ⟨y, hy, hr⟩ := afield_spec (P := P) (w := w) hu (hρ x)
    exact OpOK.pure I (by unfold execOp; simp only [ho, Sem.run_bind, hy, Result.andThen_ok]; rfl) hr
  | indexAddr t x i =>
    simp only [aop, ho] at h
    obtain ⟨u, hu, rfl⟩ := val_some h
    obtain ⟨y, hy, hr⟩ := aindexAddr_spec I hu (hρ x) (hρ i)
    exact OpOK.pure I (by unfold execOp; simp only [ho, Sem.run_bind, hy, Result.andThen_ok]; rfl) hr
  | index t x i =>
    simp only [aop, ho] at h
    obtain ⟨u, hu, rfl⟩ := val_some h
    obtain ⟨y, hy, hr⟩ := aindex_spec (P := P) (w := w) hu (hρ x) (hρ i)
    exact OpOK.pure I (by unfold execOp; simp only [ho, Sem.run_bind, hy, Result.andThen_ok]; rfl) hr
  | typeAssert x xt t ok =>
    cases ok with
    | false => simp [aop, ho] at h
    | true =>
      simp only [aop, ho] at h
      obtain ⟨u, hu, rfl⟩ := val_some h
      obtain ⟨y, hy, hr⟩ := atype_spec (xt := xt) hu (hρ x)
      exact OpOK.pure I (by unfold execOp; simp only [ho, Sem.run_bind, hy, Result.andThen_ok]; rfl) hr
  | extract x i =>
    simp only [aop, ho] at h
    have hr := hρ x
    split at h
    · rename_i vs hx
      obtain ⟨u, hu, rfl⟩ := val_some h
      rw [hx] at hr
      generalize hv : a.eval x = v at hr
      cases hr with
      | tuple hl hrr =>
        rename_i ys
        have hi : i < vs.length := (List.getElem?_eq_some_iff.1 hu).1
        have := hrr i hi
        have e1 : vs.getD i .dead = u := by simp [hu]
        rw [e1] at this
        have hi' : i < ys.size := by omega
        refine OpOK.pure I (v := ys.getD i undef) ?_ this
        unfold execOp
        simp only [ho, hv, Instr.extract]
        simp [hi']
    · cases h
  | call c =>
    obtain ⟨cal, avs, ats⟩ := c
    cases cal with
    | builtin b =>
      cases b with
      | len =>
        simp only [aop, ho] at h
        split at h
        · rename_i hc
          obtain ⟨u, hu, rfl⟩ := val_some h
          obtain ⟨y, hy, hr⟩ := alen_spec (P := P) (w := w) (ty := o.type) hu (hρ _)
          refine OpOK.pure I (v := y) ?_ hr
          rw [arr1 hc.1 0, arr1 hc.2 default] at ho
          unfold execOp
          simp only [ho, resolve, Sem.run_bind, Sem.run_pure, Result.andThen_ok, invoke, builtin]
          simp only [Array.getD_eq_getD_getElem?] at hy
          simp [hy]
        · cases h
      | append =>
        simp only [aop, ho] at h
        split at h
        · rename_i hc
          obtain ⟨h1, h2, _, hnp⟩ := hc
          obtain ⟨y, w', ι', hy, D⟩ := aappend_spec (P := P) (np := an.np) (ty := o.type) I dp_ok h (hρ _) (hρ _) hups hnp (ph_one _)
          refine OpOK.val ?_ D
          rw [arr2 h1 0, arr2 h2 default] at ho
          unfold execOp
          simp only [ho, resolve, Sem.run_bind, Sem.run_pure, Result.andThen_ok, invoke, builtin]
          simp only [Array.getD_eq_getD_getElem?] at hy
          simp [hy]
        · cases h
      | clear =>
        simp only [aop, ho] at h
        split at h
        · rename_i hc
          obtain ⟨y, w', ι', hy, D⟩ := aclear_spec (P := P) (np := an.np) (ty := o.type) I h (hρ _)
          refine OpOK.val ?_ D
          rw [arr1 hc.1 0, arr1 hc.2 default] at ho
          unfold execOp
          simp only [ho, resolve, Sem.run_bind, Sem.run_pure, Result.andThen_ok, invoke, builtin]
          simp only [Array.getD_eq_getD_getElem?] at hy
          simp [hy]
        · cases h
      | copy =>
        simp only [aop, ho] at h
        split at h
        · rename_i hc
          obtain ⟨h1, h2⟩ := hc
          obtain ⟨y, w', ι', hy, D⟩ := acopy_spec (P := P) (np := an.np) (ty := o.type) (st := ats.getD 1 0) I h (hρ _) (hρ _)
          refine OpOK.val ?_ D
          rw [arr2 h1 0, arr2 h2 default] at ho
          unfold execOp
          simp only [ho, resolve, Sem.run_bind, Sem.run_pure, Result.andThen_ok, invoke, builtin]
          simp only [Array.getD_eq_getD_getElem?] at hy
          simp [hy]
        · cases h
      | max =>
        simp only [aop, ho] at h
        split at h
        · rename_i k n k' m hm
          split at h
          · rename_i hk
            injection h with h; subst h; subst hk
            obtain ⟨x, y, hxy, e1, e2⟩ := map2 hm
            have r1 := hρ x
            have r2 := hρ y
            rw [e1] at r1; rw [e2] at r2
            generalize hv1 : a.eval x = v1 at r1
            generalize hv2 : a.eval y = v2 at r2
            cases r1; cases r2
            refine OpOK.pure I (v := .int k (if n < m then m else n)) ?_ (.int _ _)
            unfold execOp
            simp only [ho, resolve, Sem.run_bind, Sem.run_pure, Result.andThen_ok, invoke, builtin, Builtin.max_]
            simp [hxy, hv1, hv2, Builtin.max2]
          · cases h
        · cases h
      | min =>
        simp only [aop, ho] at h
        split at h
        · rename_i k n k' m hm
          split at h
          · rename_i hk
            injection h with h; subst h; subst hk
            obtain ⟨x, y, hxy, e1, e2⟩ := map2 hm
            have r1 := hρ x
            have r2 := hρ y
            rw [e1] at r1; rw [e2] at r2
            generalize hv1 : a.eval x = v1 at r1
            generalize hv2 : a.eval y = v2 at r2
            cases r1; cases r2
            refine OpOK.pure I (v := .int k (if m < n then m else n)) ?_ (.int _ _)
            unfold execOp
            simp only [ho, resolve, Sem.run_bind, Sem.run_pure, Result.andThen_ok, invoke, builtin, Builtin.min_]
            simp [hxy, hv1, hv2, Builtin.min2]
          · cases h
        · cases h
      | _ => simp [aop, ho] at h
    | invoke r n => simp [aop, ho] at h
    | value fo =>
      simp only [aop, ho] at h
      refine acall_sound hE h I ho (hρ fo) (by simp [canonArgs_length]) (fun k hk => ?_) hups
      rw [canonArgs_length] at hk
      refine canonArgs_rep _ _ (fun k => (avs.map a.eval).getD k undef) (fun k hk => ?_) k hk
      have hk' : k < avs.size := by simpa using hk
      simp [hk']
      exact hρ _
  | _ => simp [aop, ho] at h
end
end Go.Proofs.YtndgpinhbffleaaGreat

