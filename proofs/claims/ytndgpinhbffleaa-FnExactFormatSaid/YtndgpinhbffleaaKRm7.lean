/- A reading of the loaded code over plain data, its soundness, and what functions answer by it (part 7; joined by program). No condition. -/
import Derived.Test.YtndgpinhbffleaaKRm6
import Derived.Deep.Slices
import Derived.SliceStrings
import Derived.ChangeArms
import Derived.DataShut
set_option linter.all false
namespace Go.Proofs.Ytndgpinhbffleaa
open Go Go.Deep Go.ChangeShapes Go.WideShapes
section
variable {P : Program}
/-- Cells of a type, told as data. -/
inductive Typed (P : Program) : TypeId → List AV → Prop
  | bool {t : TypeId} {b : Bool} : P.underlying t = some .bool → Typed P t [.bool b]
  | int {t : TypeId} {k : IntKind} {n : Int} : P.underlying t = some (.int k) → (Lit.int k n).wf = true → Typed P t [.int k n]
  | str {t : TypeId} {s : List UInt8} : P.underlying t = some .string → s.length ≤ maxLen → Typed P t [.str s]
  | slice {t e : TypeId} {es : List AV} : P.underlying t = some (.slice e) → es.length ≤ maxLen → (∀ i, i < es.length → Typed P e (cellsOf (es.getD i .dead))) → (∀ i, i < es.length → es.getD i .dead = mkVal (tagg P e) (cellsOf (es.getD i .dead))) → Typed P t [.sl (P.cellsOf e) es]
  | strct {t : TypeId} {fs : Array Field} {avs : List AV} : P.underlying t = some (.struct fs) → avs.length = P.cellsOf t → (∀ f, f ∈ fs.toList → Typed P f.type ((avs.drop f.offset).take (P.cellsOf f.type))) → Typed P t avs
def tiles (P : Program) : List Field → Nat → Nat → Bool
  | [], off, n => decide (off = n)
  | f :: fs, off, n => decide (f.offset = off) && tiles P fs (off + P.cellsOf f.type) n
/-- Types that are read so. -/
def plainT (P : Program) : Nat → TypeId → Bool
  | 0, _ => false
  | n + 1, t => match P.underlying t with
    | some .bool => true
    | some (.int _) => true
    | some .string => true
    | some (.slice e) => decide (0 < P.cellsOf e) && plainT P n e
    | some (.struct fs) => tiles P fs.toList 0 (P.cellsOf t) && fs.toList.all fun f => plainT P n f.type
    | _ => false
theorem typed_mk {e : TypeId} {avs : List AV} (h : Typed P e avs) : cellsOf (mkVal (tagg P e) avs) = avs := by
  cases h with
  | bool h => simp [tagg, h, mkVal, cellsOf]
  | int h _ => simp [tagg, h, mkVal, cellsOf]
  | str h _ => simp [tagg, h, mkVal, cellsOf]
  | slice h _ _ _ => simp [tagg, h, mkVal, cellsOf]
  | strct h _ _ => simp [tagg, h, mkVal, cellsOf]
def ToldAs (P : Program) (w : World) (t : TypeId) (cs : List Value) (avs : List AV) : Prop :=
  avs.length = cs.length ∧ Typed P t avs ∧ ∀ i, i < avs.length → Rep w (fun _ => False) noMap (avs.getD i .dead) (cs.getD i undef) ∧ (cs.getD i undef).oneCell' = true
theorem told_fields {w : World} : ∀ (fl : List Field) (off n : Nat) (cs : List Value), tiles P fl off n = true → n ≤ cs.length → off ≤ n →
    (∀ f, f ∈ fl → ∃ avs, ToldAs P w f.type ((cs.drop f.offset).take (P.cellsOf f.type)) avs ∧ avs.length = P.cellsOf f.type) →
    ∃ avs : List AV, avs.length = n - off ∧ (∀ f, f ∈ fl → off ≤ f.offset ∧ Typed P f.type ((avs.drop (f.offset - off)).take (P.cellsOf f.type))) ∧
      ∀ i, i < avs.length → Rep w (fun _ => False) noMap (avs.getD i .dead) (cs.getD (off + i) undef) ∧ (cs.getD (off + i) undef).oneCell' = true := by
  intro fl
  induction fl with
  | nil =>
    intro off n cs ht _ _ _
    simp [tiles] at ht
    exact ⟨[], by simp [ht], by simp, by simp⟩
  | cons f fl ih =>
    intro off n cs ht hn ho h
    simp only [tiles, Bool.and_eq_true, decide_eq_true_eq] at ht
    obtain ⟨hf, ht⟩ := ht
    obtain ⟨a1, ⟨l1, t1, r1⟩, l1'⟩ := h f (by simp)
    have hlt : off + P.cellsOf f.type ≤ n := by
      clear ih h
      have : ∀ (fl : List Field) (o : Nat), tiles P fl o n = true → o ≤ n := by
        intro fl
        induction fl with
        | nil => intro o h; simp [tiles] at h; omega
        | cons g fl ih => intro o h; simp only [tiles, Bool.and_eq_true, decide_eq_true_eq] at h; have := ih _ h.2; omega
      exact this _ _ ht
    obtain ⟨a2, l2, t2, r2⟩ := ih (off + P.cellsOf f.type) n cs ht hn hlt (fun g hg => h g (by simp [hg]))
    refine ⟨a1 ++ a2, by rw [List.length_append, l1', l2]; omega, fun g hg => ?_, fun i hi => ?_⟩
    · simp only [List.mem_cons] at hg
      rcases hg with rfl | hg
      · refine ⟨by omega, ?_⟩
        rw [hf, Nat.sub_self, List.drop_zero, List.take_append_of_le_length (by omega), List.take_of_length_le (by omega)]
        exact t1
      · obtain ⟨q1, q2⟩ := t2 g hg
        refine ⟨by omega, ?_⟩
        rw [List.drop_append, List.drop_of_length_le (by omega), List.nil_append, l1', show g.offset - off - P.cellsOf f.type = g.offset - (off + P.cellsOf f.type) by omega]
        exact q2
    · by_cases h1 : i < a1.length
      · have := r1 i h1
        have e1 : (a1 ++ a2).getD i .dead = a1.getD i .dead := by simp [List.getD, List.getElem?_append_left h1]
        have e2 : ((cs.drop f.offset).take (P.cellsOf f.type)).getD i undef = cs.getD (off + i) undef := by
          simp [List.getD, show i < P.cellsOf f.type by omega, hf]
        rw [e2] at this
        rw [e1]; exact this
      · have hi2 : i - a1.length < a2.length := by rw [List.length_append] at hi; omega
        have := r2 (i - a1.length) hi2
        have e1 : (a1 ++ a2).getD i .dead = a2.getD (i - a1.length) .dead := by simp [List.getD, List.getElem?_append_right (show a1.length ≤ i by omega)]
        rw [show off + P.cellsOf f.type + (i - a1.length) = off + i by omega] at this
        rw [e1]; exact this
theorem typed_length {t : TypeId} {avs : List AV} {n : Nat} (h : Typed P t avs) (hc : ∀ d, P.underlying t = some d → (match d with | .struct _ => True | _ => P.cellsOf t = 1)) (hn : P.cellsOf t = n) : avs.length = n := by
  cases h with
  | bool h => have := hc _ h; simp at this ⊢; omega
  | int h _ => have := hc _ h; simp at this ⊢; omega
  | str h _ => have := hc _ h; simp at this ⊢; omega
  | slice h _ _ _ => have := hc _ h; simp at this ⊢; omega
  | strct h hl _ => rw [hl, hn]
theorem mapM_mem {α β : Type} {f : α → Option β} : ∀ {l : List α} {r : List β}, l.mapM f = some r → ∀ x, x ∈ l → ∃ y, f x = some y := by
  intro l
  induction l with
  | nil => intro r _ x hx; cases hx
  | cons a l ih =>
    intro r h x hx
    simp only [List.mapM_cons, Option.bind_eq_bind, Option.bind_eq_some_iff] at h
    obtain ⟨y, hy, ys, hys, _⟩ := h
    simp only [List.mem_cons] at hx
    rcases hx with rfl | hx
    · exact ⟨y, hy⟩
    · exact ih hys x hx
/-- Data that is read is told. -/
theorem trod_told {H : Type} {enc : TypeId × Value → H} {w : World} {sp : Nat → Bool} {hd : Bool} : ∀ (n fuel : Nat) (t : TypeId) (cs : List Value) (x : DataW H × List MemPlace), plainT P n t = true → DataW.trod enc P w 0 sp hd fuel t cs = some x → ∃ avs, ToldAs P w t cs avs := by
  intro n
  induction n with
  | zero => intro fuel t cs x hp; simp [plainT] at hp
  | succ n ih =>
    intro fuel t cs x hp h
    unfold plainT at hp
    cases hu : P.underlying t with
    | none => simp [hu] at hp
    | some d =>
      simp only [hu] at hp
      cases d with
      | bool =>
        obtain ⟨b, rfl, _⟩ := DataW.trod_bool hu h
        exact ⟨[.bool b], rfl, .bool hu, by intro i hi; simp at hi; subst hi; exact ⟨.bool _, rfl⟩⟩
      | int k =>
        obtain ⟨m, rfl, _, hw⟩ := DataW.trod_int hu h
        exact ⟨[.int k m], rfl, .int hu hw, by intro i hi; simp at hi; subst hi; exact ⟨.int _ _, rfl⟩⟩
      | string =>
        obtain ⟨s, rfl, _, hs⟩ := DataW.trod_string hu h
        exact ⟨[.str s.data.toList], rfl, .str hu (by simpa using hs), by intro i hi; simp at hi; subst hi; exact ⟨.str rfl, rfl⟩⟩
      | slice e =>
        simp only [Bool.and_eq_true, decide_eq_true_eq] at hp
        obtain ⟨hm, hp⟩ := hp
        rcases open_slice hu h with ⟨rfl, _⟩ | ⟨a, len, cap, m, fl, D, Pl, rfl, _, hl, hcap, hmm, _, hel⟩
        · exact ⟨[.sl (P.cellsOf e) []], rfl, .slice hu (by simp) (by simp) (by simp), by intro i hi; simp at hi; subst hi; exact ⟨.slE _ _ _, rfl⟩⟩
        · have hle : len ≤ m := by rw [hmm]; split <;> omega
          by_cases hl0 : len = 0
          · subst hl0
            exact ⟨[.sl (P.cellsOf e) []], rfl, .slice hu (by simp) (by simp) (by simp), by intro i hi; simp at hi; subst hi; exact ⟨.slE _ _ _, rfl⟩⟩
          · have each : ∀ i, i < len → ∃ q : List AV × List Value, w.cells? 0 (a.add (i * P.cellsOf e)) (P.cellsOf e) = some q.2 ∧ ToldAs P w e q.2 q.1 := by
              intro i hi
              obtain ⟨cs', h1, h2⟩ := hel i (by omega)
              obtain ⟨avs, ha⟩ := ih fl e cs' _ hp h2
              exact ⟨(avs, cs'), h1, ha⟩
            obtain ⟨q, hq⟩ := choose_lt each
            obtain ⟨b, off, sp'⟩ := a
            have hspot : sp' = none := by
              obtain ⟨h1, h2⟩ := hq 0 (by omega)
              obtain ⟨_, h3, h4⟩ := World.cells?_some h1
              have h5 := h4 0 hm
              rw [List.getElem?_eq_getElem (by omega)] at h5
              simp only [Nat.zero_mul, Addr.add, if_true] at h5
              unfold World.cell? at h5
              split at h5
              · cases sp' with
                | none => rfl
                | some _ => simp at h5
              · cases h5
            subst hspot
            have hcell : ∀ i j, i < len → j < P.cellsOf e → w.cell? ⟨b, off + i * P.cellsOf e + j, none⟩ = some ((q i).2.getD j undef) := by
              intro i j hi hj
              obtain ⟨h1, h2⟩ := hq i hi
              obtain ⟨_, h3, h4⟩ := World.cells?_some h1
              have h5 := h4 j hj
              rw [add_add] at h5
              have : (⟨b, off, none⟩ : Addr).add (i * P.cellsOf e + j) = ⟨b, off + i * P.cellsOf e + j, none⟩ := by
                unfold Addr.add; split
                · rename_i h0; simp
                · simp [Nat.add_assoc]
              rw [this] at h5
              rw [h5, List.getElem?_eq_getElem (by omega)]
              simp [List.getD, List.getElem?_eq_getElem (show j < (q i).2.length by omega)]
            have hql : ∀ i, i < len → (q i).1.length = P.cellsOf e := fun i hi => by rw [(hq i hi).2.1]; exact (World.cells?_some (hq i hi).1).2.1
            let es : List AV := (List.range len).map fun i => mkVal (tagg P e) (q i).1
            have hes : ∀ i, i < len → es.getD i .dead = mkVal (tagg P e) (q i).1 := fun i hi => by simp [es, List.getD, hi]
            have heq : ∀ i, i < len → cellsOf (es.getD i .dead) = (q i).1 := fun i hi => by rw [hes i hi]; exact typed_mk (hq i hi).2.2.1
            have hel : es.length = len := by simp [es]
            refine ⟨[.sl (P.cellsOf e) es], rfl, .slice hu (by rw [hel]; omega) (fun i hi => ?_) (fun i hi => ?_), fun i hi => ?_⟩
            · rw [hel] at hi; rw [heq i hi]; exact (hq i hi).2.2.1
            · rw [hel] at hi; rw [heq i hi]; exact hes i hi
            · simp only [List.length_cons, List.length_nil] at hi
              obtain rfl : i = 0 := by omega
              refine ⟨?_, rfl⟩
              have hb : b < w.heap.size := by
                have h5 := hcell 0 0 (by omega) hm
                unfold World.cell? at h5
                split at h5
                · rename_i hx; exact (Array.getElem?_eq_some_iff.1 hx).1
                · cases h5
              refine .sl (fun i j => (q i).2.getD j undef) (fun hn => hl0 (by rw [← hel, hn]; rfl)) hel.symm hl (fun h => h) hb hm (fun i hi => ?_) (fun i j hi hj => ?_) (fun i j hi hj => ?_) (fun i j hi hj => ?_)
              · rw [hel] at hi; rw [heq i hi]; exact hql i hi
              · rw [hel] at hi; exact hcell i j hi hj
              · rw [hel] at hi; exact ((hq i hi).2.2.2 j (by rw [hql i hi]; exact hj)).2
              · rw [hel] at hi; rw [heq i hi]; exact ((hq i hi).2.2.2 j (by rw [hql i hi]; exact hj)).1
      | struct fs =>
        simp only [Bool.and_eq_true, List.all_eq_true] at hp
        obtain ⟨hti, hp⟩ := hp
        obtain ⟨xs, fl', _, _, hlen, hxl, hx⟩ := DataW.trod_struct hu h
        have hf : ∀ f, f ∈ fs.toList → ∃ avs, ToldAs P w f.type ((cs.drop f.offset).take (P.cellsOf f.type)) avs ∧ avs.length = P.cellsOf f.type := by
          have hoff : ∀ (fl : List Field) (o m : Nat), tiles P fl o m = true → ∀ f, f ∈ fl → f.offset + P.cellsOf f.type ≤ m := by
            have hup : ∀ (fl : List Field) (o m : Nat), tiles P fl o m = true → o ≤ m := by
              intro fl m
              induction fl generalizing m with
              | nil => intro n h; simp [tiles] at h; omega
              | cons g fl ih => intro n h; simp only [tiles, Bool.and_eq_true, decide_eq_true_eq] at h; have := ih _ _ h.2; omega
            intro fl
            induction fl with
            | nil => intro o m _ f hf; cases hf
            | cons g fl ih =>
              intro o m h f hf
              simp only [tiles, Bool.and_eq_true, decide_eq_true_eq] at h
              simp only [List.mem_cons] at hf
              rcases hf with rfl | hf
              · have := hup _ _ _ h.2; omega
              · exact ih _ _ h.2 f hf
          intro f hf
          obtain ⟨i, hi⟩ := List.getElem?_of_mem hf
          have hb := hoff _ _ _ hti f hf
          have hln : ((cs.drop f.offset).take (P.cellsOf f.type)).length = P.cellsOf f.type := by simp; omega
          obtain ⟨y, hy⟩ : ∃ y, ∃ fl, DataW.trod enc P w 0 sp hd fl f.type ((cs.drop f.offset).take (P.cellsOf f.type)) = some y  := by
            have h1 := hx i f (by simpa using hi)
            have h2 : i < xs.length := by rw [hxl]; have := (List.getElem?_eq_some_iff.1 hi).1; simpa using this
            rw [List.getElem?_eq_getElem h2] at h1
            exact ⟨_, _, h1⟩
          obtain ⟨fl, hy⟩ := hy
          obtain ⟨avs, ha⟩ := ih fl f.type _ y (hp f hf) hy
          exact ⟨avs, ha, by rw [ha.1, hln]⟩
        obtain ⟨avs, l1, t1, r1⟩ := told_fields fs.toList 0 (P.cellsOf t) cs hti (by omega) (Nat.zero_le _) hf
        refine ⟨avs, by rw [l1, hlen]; omega, .strct hu (by rw [l1]; omega) (fun f hf => by simpa using (t1 f hf).2), fun i hi => by simpa using r1 i hi⟩
      | _ => simp at hp
/-- A value handed in, told as data. -/
theorem arg_told {H : Type} {enc : TypeId × Value → H} {w : World} {sp : Nat → Bool} {hd : Bool} {r : Reach} {b0 : Nat} {t : TypeId} {v : Value} {d : DataW H} {ps : List MemPlace} (n : Nat) (hp : plainT P n t = true) (hv : Value.okWide P w r b0 t v) (h : DataW.Trod enc P w 0 sp hd t v d ps) :
    ∃ avs, Typed P t avs ∧ Rep w (fun _ => False) noMap (mkVal (tagg P t) avs) v := by
  obtain ⟨fuel, h⟩ := h
  obtain ⟨avs, hl, ht, hr⟩ := trod_told n fuel t _ _ hp h
  refine ⟨avs, ht, ?_⟩
  have ht' := ht
  cases ht with
  | bool hu =>
    obtain ⟨b, rfl⟩ := okWide_bool hu hv
    have := (hr 0 (by simp)).1
    simpa [tagg, hu, mkVal, Value.cells] using this
  | int hu _ =>
    obtain ⟨b, rfl⟩ := okWide_int hu hv
    have := (hr 0 (by simp)).1
    simpa [tagg, hu, mkVal, Value.cells] using this
  | str hu _ =>
    obtain ⟨b, rfl⟩ := okWide_string hu hv
    have := (hr 0 (by simp)).1
    simpa [tagg, hu, mkVal, Value.cells] using this
  | slice hu _ _ _ =>
    obtain ⟨a, l, c, rfl⟩ := okWide_slice hu hv
    have := (hr 0 (by simp)).1
    simpa [tagg, hu, mkVal, Value.cells] using this
  | strct hu _ _ =>
    obtain ⟨cs, rfl, _⟩ := okWide_struct hu hv
    have hl' : avs.length = cs.size := by simpa [Value.cells] using hl
    simp only [tagg, hu, mkVal, if_true]
    refine .agg hl' fun i hi => ?_
    have := (hr i hi).1
    simpa [Value.cells, List.getD, Array.getD, hl' ▸ hi] using this
theorem typed_int {t : TypeId} {k : IntKind} {avs : List AV} (hu : P.underlying t = some (.int k)) (h : Typed P t avs) : ∃ n, avs = [.int k n] ∧ k.min ≤ n ∧ n ≤ k.max := by
  cases h with
  | int h hw => rw [hu] at h; cases h; exact ⟨_, rfl, (Lit.wf_int_iff _ _).1 hw⟩
  | bool h => rw [hu] at h; cases h
  | str h _ => rw [hu] at h; cases h
  | slice h _ _ _ => rw [hu] at h; cases h
  | strct h _ _ => rw [hu] at h; cases h
theorem typed_bool {t : TypeId} {avs : List AV} (hu : P.underlying t = some .bool) (h : Typed P t avs) : ∃ b, avs = [.bool b] := by
  cases h with
  | bool h => exact ⟨_, rfl⟩
  | int h hw => rw [hu] at h; cases h
  | str h _ => rw [hu] at h; cases h
  | slice h _ _ _ => rw [hu] at h; cases h
  | strct h _ _ => rw [hu] at h; cases h
theorem typed_str {t : TypeId} {avs : List AV} (hu : P.underlying t = some .string) (h : Typed P t avs) : ∃ s, avs = [.str s] ∧ s.length ≤ maxLen := by
  cases h with
  | str h hw => exact ⟨_, rfl, hw⟩
  | int h hw => rw [hu] at h; cases h
  | bool h => rw [hu] at h; cases h
  | slice h _ _ _ => rw [hu] at h; cases h
  | strct h _ _ => rw [hu] at h; cases h
theorem typed_strct {t : TypeId} {fs : Array Field} {avs : List AV} (hu : P.underlying t = some (.struct fs)) (h : Typed P t avs) : avs.length = P.cellsOf t ∧ ∀ f, f ∈ fs.toList → Typed P f.type ((avs.drop f.offset).take (P.cellsOf f.type)) := by
  cases h with
  | strct h hl hf => rw [hu] at h; cases h; exact ⟨hl, hf⟩
  | int h hw => rw [hu] at h; cases h
  | bool h => rw [hu] at h; cases h
  | slice h _ _ _ => rw [hu] at h; cases h
  | str h _ => rw [hu] at h; cases h
/-- A row, its elements told. -/
theorem typed_list {α : Type} {f : α → AV} {Q : α → Prop} {t e : TypeId} {avs : List AV} (hu : P.underlying t = some (.slice e)) (he : ∀ bs, Typed P e bs → ∃ x, mkVal (tagg P e) bs = f x ∧ Q x) (h : Typed P t avs) :
    ∃ l : List α, avs = [.sl (P.cellsOf e) (l.map f)] ∧ l.length ≤ maxLen ∧ ∀ x ∈ l, Q x := by
  cases h with
  | @slice t e' es h hl h1 h2 =>
    rw [hu] at h; cases h
    have key : ∀ es : List AV, (∀ i, i < es.length → Typed P e (cellsOf (es.getD i .dead))) → (∀ i, i < es.length → es.getD i .dead = mkVal (tagg P e) (cellsOf (es.getD i .dead))) → ∃ l : List α, es = l.map f ∧ ∀ x ∈ l, Q x := by
      intro es
      induction es with
      | nil => intro _ _; exact ⟨[], rfl, by simp⟩
      | cons c es ih =>
        intro h1 h2
        obtain ⟨l, rfl, hq⟩ := ih (fun i hi => by simpa using h1 (i + 1) (by simpa using hi)) (fun i hi => by simpa using h2 (i + 1) (by simpa using hi))
        obtain ⟨x, hx, hqx⟩ := he _ (h1 0 (by simp))
        have h0 := h2 0 (by simp)
        simp only [List.getD_cons_zero] at h0 hx
        refine ⟨x :: l, by rw [List.map_cons, ← hx, ← h0], ?_⟩
        intro y hy
        simp only [List.mem_cons] at hy
        rcases hy with rfl | hy
        · exact hqx
        · exact hq y hy
    obtain ⟨l, rfl, hq⟩ := key es h1 h2
    exact ⟨l, rfl, by simpa using hl, hq⟩
  | int h hw => rw [hu] at h; cases h
  | bool h => rw [hu] at h; cases h
  | strct h _ _ => rw [hu] at h; cases h
  | str h _ => rw [hu] at h; cases h
theorem len1 {avs : List AV} (h : avs.length = 1) : ∃ a, avs = [a] := by
  match avs, h with
  | [a], _ => exact ⟨a, rfl⟩
theorem len2 {avs : List AV} (h : avs.length = 2) : ∃ a b, avs = [a, b] := by
  match avs, h with
  | [a, b], _ => exact ⟨a, b, rfl⟩
theorem len3 {avs : List AV} (h : avs.length = 3) : ∃ a b c, avs = [a, b, c] := by
  match avs, h with
  | [a, b, c], _ => exact ⟨a, b, c, rfl⟩
theorem len4 {avs : List AV} (h : avs.length = 4) : ∃ a b c d, avs = [a, b, c, d] := by
  match avs, h with
  | [a, b, c, d], _ => exact ⟨a, b, c, d, rfl⟩
end
end Go.Proofs.Ytndgpinhbffleaa

namespace Go.Proofs.Ytndgpinhbffleaa
open Go
set_option maxRecDepth 100000
set_option linter.unusedSimpArgs false
set_option linter.unusedVariables false
theorem wrap_id {n : Int} (h : -9223372036854775808 ≤ n ∧ n < 9223372036854775808) : IntKind.i64.wrap n = n := by
  rw [IntKind.wrap_i64]; omega
def In64 (n : Int) : Prop := -9223372036854775808 ≤ n ∧ n < 9223372036854775808
abbrev Tx := List UInt8
/-- The digits of a mark. -/
def digs (k : Nat) (out : Tx) : Tx := if h : k = 0 then out else digs (k / 10) (UInt8.ofNat (48 + (k : Int) % 10).toNat :: out)
termination_by k
decreasing_by omega
theorem digs_len (k : Nat) (out : Tx) : (digs k out).length ≤ out.length + k := by
  fun_induction digs k out with
  | case1 => simp
  | case2 k out h ih => simp only [List.length_cons] at ih; omega
def mt (k : Int) : Tx := 109 :: digs k.toNat []
theorem u8_id {n : Int} (h : 0 ≤ n ∧ n < 256) : IntKind.u8.wrap n = n := by
  rw [IntKind.wrap_u8]; omega
/-- The seat's code, read without what is walked by hand. -/
noncomputable def CZ : Ctx := { P := Try.prog, A := annA, X := fun _ _ _ => none }
theorem CZ_P : CZ.P = Try.prog := rfl
theorem CZ_A : CZ.A = annA := rfl
attribute [go_sem] CZ_P CZ_A
theorem CZ_mixed : Try.prog.follows .mixedOrders = true := by kernel_rfl
theorem CZ_sound (f : FuncId) (args : List AV) (H : List (Id × Blk)) (r : Res) (h : E CZ f args H = some r) : Sound Try.prog f args H r := E_sound (C := CZ) CZ_mixed (fun _ _ _ _ _ e => by cases e) h
theorem at_set {α : Type} (A t : List α) (x y : α) (n : Nat) (h : A.length = n) : (A ++ x :: t).set n y = A ++ y :: t := by
  rw [List.set_append_right _ _ (by omega), h, Nat.sub_self, List.set_cons_zero]
theorem markText_Z (k : Int) (h : 0 < k ∧ k ≤ 1099511627776) : E CZ 51 [.int .i64 k] [] = some { val := .str (mt k) } := by
  obtain ⟨m, rfl⟩ : ∃ m : Nat, k = m := ⟨k.toNat, by omega⟩
  refine E_fin Try.f51 _ an51 rfl rfl rfl Try.func51 rfl (by kernel_rfl) ?_
  have h0 : ¬ (m : Int) ≤ 0 := by omega
  simp [go_sem, h0, show m ≠ 0 by omega]
  refine loop_at (fun X => fin CZ _ _ X = _) (fun x : Nat × Tx => x.2.length + x.1 ≤ 1099511627776) (fun x => ⟨SS [(0, .int .i64 x.1), (3, .str x.2)], HE⟩) (fun x => (.exit 0, ⟨SS [(3, .str (digs x.1 x.2))], HE⟩)) (fun x => x.1) (m, []) (by simp; omega) ?_ ?_ ?_
  · simp [go_sem]
  · rintro ⟨j, out⟩ hI
    simp only at hI
    by_cases hj : j = 0
    · subst hj
      have : digs 0 out = out := by unfold digs; simp
      simp [go_sem, this]
    · have e1 : digs j out = digs (j / 10) (UInt8.ofNat (48 + (j : Int) % 10).toNat :: out) := by rw [digs]; simp [hj]
      have e2 : ((j : Int).tmod 10) = (j : Int) % 10 := Int.tmod_eq_emod_of_nonneg (by omega)
      have e3 : ((j : Int).tdiv 10) = ((j / 10 : Nat) : Int) := by rw [Int.tdiv_eq_ediv_of_nonneg (by omega)]; omega
      have e4 : IntKind.i64.wrap (48 + (j : Int) % 10) = 48 + (j : Int) % 10 := wrap_id (by omega)
      have e5 : IntKind.u8.wrap (48 + (j : Int) % 10) = 48 + (j : Int) % 10 := u8_id (by omega)
      have e6 : IntKind.i64.wrap ((j / 10 : Nat) : Int) = ((j / 10 : Nat) : Int) := wrap_id (by omega)
      have e6' : IntKind.i64.wrap ((j : Int) / 10) = (j : Int) / 10 := wrap_id (by omega)
      simp [go_sem, Nat.pos_of_ne_zero hj, e2, e3, e4, e5, e6, e6', show 48 + (j : Int) % 10 < 256 by omega, show 0 ≤ 48 + (j : Int) % 10 by omega, show 1 + out.length ≤ 4611686018427387904 by omega]
      refine ⟨j / 10, UInt8.ofNat (48 + (j : Int) % 10).toNat :: out, by simp only [List.length_cons]; omega, by omega, ?_, by rw [e1]⟩
      simp
  · have := digs_len m []
    simp only [List.length_nil] at this
    simp [go_sem, mt, show 1 + (digs m []).length ≤ 4611686018427387904 by omega]
/-- Numbers that follow one another. -/
def upI (k : Int) (n : Nat) : List Int := (List.range n).map fun i : Nat => k + i
theorem upI_succ (k : Int) (n : Nat) : upI k (n + 1) = upI k n ++ [k + n] := by simp [upI, List.range_succ]
theorem upI_length (k : Int) (n : Nat) : (upI k n).length = n := by simp [upI]
/-- A text and numbers. -/
abbrev TN := List UInt8 × List Int
def eTN (x : TN) : AV := .agg [.str x.1, .sl 1 (x.2.map (.int .i64))]
def szTN : List TN → Nat
  | [] => 0
  | x :: l => 1 + x.2.length + szTN l
def mkTN (k : Int) : List TN → List TN
  | [] => []
  | x :: l => (mt k, upI (k + 1) x.2.length) :: mkTN (k + 1 + x.2.length) l
end Go.Proofs.Ytndgpinhbffleaa


namespace Go.Proofs.Ytndgpinhbffleaa
open Go
/-- Sixes of counts as numbers, from the last count on. -/
def stR (l : Nat → Int) : Nat → Nat → Int
  | 0, _ => 0
  | k + 1, b => if b = (23 - k) / 6 then IntKind.i64.wrap (IntKind.i64.wrap (16 * stR l k b) + l (23 - k)) else stR l k b
def stRs (l : List Int) : List Int := [stR (fun i => l.getD i 0) 24 0, stR (fun i => l.getD i 0) 24 1, stR (fun i => l.getD i 0) 24 2, stR (fun i => l.getD i 0) 24 3]
end Go.Proofs.Ytndgpinhbffleaa


namespace Go.Proofs.Ytndgpinhbffleaa
open Go
/-- Copies of slices without elements. -/
def cloneOf (f : FuncId) : Option Blk :=
  if f = 42 then some ⟨false, 9, 1, [], none⟩ else
  if f = 43 then some ⟨false, 70, 3, [], none⟩ else
  none
/-- One element taken out of a lent row of pairs of a name and a row. -/
def delX (t : TypeId) (args : List AV) (H : List (Id × Blk)) : Option Res :=
  match args, H with
  | [.ref [0] 0 n, .int .i64 k, .int .i64 j], [([0], b)] =>
    if b.isVar = false ∧ b.ty = t ∧ b.sz = 2 ∧ b.els.length = n ∧ n ≤ 1000000 ∧ 0 ≤ k ∧ j = k + 1 ∧ k.toNat < n then some { val := .ref [0] 0 (n - 1), io := [{ b with els := b.els.eraseIdx k.toNat ++ [.agg [.str [], .nil]] }] } else none
  | _, _ => none
/-- What a mark makes of the elements of a row of pairs of a text and numbers. -/
def numL : List AV → Option (List Int)
  | [] => some []
  | .int .i64 n :: l => (numL l).map (n :: ·)
  | _ => none
def pairL : List AV → Option (List (Tx × List Int))
  | [] => some []
  | .agg [.str s, .sl 1 ns] :: l => match numL ns, pairL l with
    | some n, some q => some ((s, n) :: q)
    | _, _ => none
  | _ => none
def markPX (t u : TypeId) (args : List AV) (H : List (Id × Blk)) : Option Res :=
  match args, H with
  | [.ref [0] 0 n, .int .i64 k], [([0], b)] => match pairL b.els with
    | some l => if b.isVar = false ∧ b.ty = t ∧ b.sz = 2 ∧ b.sub = some u ∧ l.length = n ∧ 0 < k ∧ k + szTN l ≤ 1099511627776 ∧ n ≤ 1073741824 then some { val := .int .i64 (k + szTN l), io := [⟨false, t, 2, (mkTN k l).map eTN, some u⟩] } else none
    | none => none
  | _, _ => none
open Classical in
/-- The record of counts: that of the sixes. -/
noncomputable def refsX (args : List AV) : Option Res :=
  match args with
  | [.sl 1 es] => match numL es with
    | some l => if l.length = 24 ∧ ∃ s, E CZ 46 [.int .i64 2, .sl 1 ((stRs l).map (.int .i64))] [] = some { val := .str s } then E CZ 46 [.int .i64 2, .sl 1 ((stRs l).map (.int .i64))] [] else none
    | none => none
  | _ => none
noncomputable def X0 (f : FuncId) (args : List AV) (H : List (Id × Blk)) : Option Res :=
  if f = 47 then (match H with | [] => refsX args | _ => none) else
  match args, H with
  | [.sl _ []], [] => (cloneOf f).map fun b => { val := .ref [0, 0, 0, 0] 0 0, own := [b] }
  | _, _ => none
noncomputable def CX : Ctx := { P := Try.prog, A := annA, X := X0 }
theorem CX_P : CX.P = Try.prog := rfl
theorem CX_A : CX.A = annA := rfl
attribute [go_sem] CX_P CX_A
end Go.Proofs.Ytndgpinhbffleaa


namespace Go.Proofs.Ytndgpinhbffleaa
open Go
set_option maxRecDepth 100000
set_option linter.unusedSimpArgs false
set_option linter.unusedVariables false
theorem cut_at {α : Type} {l : List α} {n : Nat} (h : n < l.length) : ∃ y u, l[n] = y ∧ l.drop n = y :: u ∧ l.drop (n + 1) = u := ⟨l[n], l.drop (n + 1), rfl, List.drop_eq_getElem_cons h, rfl⟩
theorem eqStringS_E (a b : List Tx) (ha : a.length ≤ 1073741824) : E CX 26 [.sl 1 (a.map .str), .sl 1 (b.map .str)] [] = some { val := .bool (decide (a = b)) } := by
  refine E_fin Try.f26 _ an26 rfl rfl rfl Try.func26 rfl (by kernel_rfl) ?_
  by_cases hl : a.length = b.length
  · simp [go_sem, hl]
    refine loop_list (fun X => fin CX _ _ X = _) a (fun n _ => True) (fun n (_ : Unit) => ⟨SS [(0, .sl 1 (a.map .str)), (1, .sl 1 (b.map .str)), (5, .int .i64 n)], HE⟩) (fun l n _ => if l = b.drop n then (.exit 0, ⟨SS [], HE⟩) else (.ret, ⟨SS [(4, .bool false)], HE⟩)) () trivial ?_ ?_ ?_ ?_ ?_
    · simp [go_sem]
    · intro n _ x t hn hx hd _
      have hn' : n < b.length := by omega
      obtain ⟨y, u, hy, hu, hu'⟩ := cut_at hn'
      have hx := hx hn
      by_cases hxy : x = y
      · simp [go_sem, hn, hn', hx, hy, hxy, hu, hu', wrap_id (n := (n : Int) + 1) (by omega)]
      · simp [go_sem, hn, hn', hx, hy, hxy, hu, hu']
    · intro _ _; simp [go_sem, hl]
    · intro _; simp [hl]
    · by_cases h : a = b <;> simp [go_sem, h]
  · have : a ≠ b := fun h => hl (by rw [h])
    have hl' : ¬ ((a.length : Int) = b.length) := by omega
    simp [go_sem, hl', this]
theorem fill_set {α β : Type} (f : α → β) (a : List α) (z : β) (n : Nat) (h : n < a.length) : ((a.map f).take n ++ List.replicate (a.length - n) z).set n (f a[n]) = (a.map f).take (n + 1) ++ List.replicate (a.length - (n + 1)) z := by
  obtain ⟨m, hm⟩ : ∃ m, a.length - n = m + 1 := ⟨a.length - n - 1, by omega⟩
  have hl : ((a.map f).take n).length = n := by simp; omega
  rw [hm, show a.length - (n + 1) = m by omega, List.replicate_succ, List.set_append_right _ _ (by omega), hl, Nat.sub_self, List.set_cons_zero, ← List.take_append_getElem (l := a.map f) (i := n) (by simpa using h), List.append_assoc, List.getElem_map]
  rfl
theorem fill_get {α β : Type} (f : α → β) (a : List α) (z : β) (n : Nat) (h : n < a.length) : ((a.map f).take n ++ List.replicate (a.length - n) z)[n]? = some z := by
  obtain ⟨m, hm⟩ : ∃ m, a.length - n = m + 1 := ⟨a.length - n - 1, by omega⟩
  have hl : ((a.map f).take n).length = n := by simp; omega
  rw [List.getElem?_append_right (by omega), hl, Nat.sub_self, hm]
  rfl
theorem fill_get' {α β : Type} (f : α → β) (a : List α) (z : β) (n : Nat) (h : n < a.length) (h' : n < ((a.map f).take n ++ List.replicate (a.length - n) z).length) : ((a.map f).take n ++ List.replicate (a.length - n) z)[n]'h' = z := by
  have := fill_get f a z n h
  rw [List.getElem?_eq_getElem h'] at this
  exact Option.some.inj this
theorem fill_full {α β : Type} (f : α → β) (a : List α) : (a.map f).take a.length = a.map f := List.take_of_length_le (by simp)
theorem fill_len {n m : Nat} (h : n < m) : n < min n m + (m - n) := by omega
theorem mid_set {α : Type} (A t : List α) (x y : α) (n : Nat) (h : A.length = n) : (A ++ x :: t).set n y = A ++ y :: t := by
  rw [List.set_append_right _ _ (by omega), h, Nat.sub_self, List.set_cons_zero]
theorem toStringS_E (a : List Tx) (ha : a.length ≤ 1073741824) : E CX 17 [.sl 1 (a.map .str)] [] = some { val := .ref [0, 0, 0, 0] 0 a.length, own := [⟨false, 9, 1, a.map .str, none⟩] } := by
  refine E_fin Try.f17 _ an17 rfl rfl rfl Try.func17 rfl (by kernel_rfl) ?_
  simp [go_sem, show (16 : Int) * a.length ≤ 140737488355328 by omega, show (a.length : Int) < 9223372036854775808 by omega]
  refine loop_list (fun X => fin CX _ _ X = _) a (fun n _ => True) (fun n (_ : Unit) => ⟨SS [(0, .sl 1 (a.map .str)), (3, .ref [7] 0 a.length), (4, .int .i64 n)], HS [([7], ⟨false, 9, 1, (a.map .str).take n ++ List.replicate (a.length - n) (.str []), none⟩)]⟩) (fun l n _ => (.exit 0, ⟨SS [(3, .ref [7] 0 a.length)], HS [([7], ⟨false, 9, 1, a.map .str, none⟩)]⟩)) () trivial ?_ ?_ ?_ ?_ ?_
  · simp [go_sem]
  · intro n _ x t hn hx hd _
    have hx := hx hn
    have hs := fill_set AV.str a (.str []) n hn
    have hz := fill_get AV.str a (.str []) n hn
    rw [hx] at hs
    simp [go_sem, hn, hx, hs, hz, fill_get' AV.str a (.str []) n hn, fill_len hn, wrap_id (n := (n : Int) + 1) (by omega)]
  · intro _ _; simp [go_sem, fill_full]
  · intro _; simp
  · simp [go_sem]
theorem sharesL_app : ∀ (a b : List AV), AV.sharesL (a ++ b) = (AV.sharesL a || AV.sharesL b) := by
  intro a b
  induction a with
  | nil => simp [AV.sharesL]
  | cons c a ih => simp [AV.sharesL, ih, Bool.or_assoc]
theorem sharesL_map {α : Type} {f : α → AV} (h : ∀ x, (f x).shares = false) : ∀ l : List α, AV.sharesL (l.map f) = false := by
  intro l
  induction l with
  | nil => rfl
  | cons c l ih => simp [AV.sharesL, h, ih]
theorem sharesL_rep (v : AV) (h : v.shares = false) : ∀ n, AV.sharesL (List.replicate n v) = false := by
  intro n
  induction n with
  | zero => rfl
  | succ n ih => simp [List.replicate_succ, AV.sharesL, h, ih]
theorem sharesL_str (l : List Tx) : AV.sharesL (l.map .str) = false := sharesL_map (fun _ => rfl) l
theorem sharesL_int (l : List Int) : AV.sharesL (l.map (.int .i64)) = false := sharesL_map (fun _ => rfl) l
attribute [go_sem] fill_full List.take_of_length_le sharesL_app sharesL_str sharesL_int
theorem markText_E (k : Int) (h : 0 < k ∧ k ≤ 1099511627776) : E CX 51 [.int .i64 k] [] = some { val := .str (mt k) } := by
  obtain ⟨m, rfl⟩ : ∃ m : Nat, k = m := ⟨k.toNat, by omega⟩
  refine E_fin Try.f51 _ an51 rfl rfl rfl Try.func51 rfl (by kernel_rfl) ?_
  have h0 : ¬ (m : Int) ≤ 0 := by omega
  simp [go_sem, h0, show m ≠ 0 by omega]
  refine loop_at (fun X => fin CX _ _ X = _) (fun x : Nat × Tx => x.2.length + x.1 ≤ 1099511627776) (fun x => ⟨SS [(0, .int .i64 x.1), (3, .str x.2)], HE⟩) (fun x => (.exit 0, ⟨SS [(3, .str (digs x.1 x.2))], HE⟩)) (fun x => x.1) (m, []) (by simp; omega) ?_ ?_ ?_
  · simp [go_sem]
  · rintro ⟨j, out⟩ hI
    simp only at hI
    by_cases hj : j = 0
    · subst hj
      have : digs 0 out = out := by unfold digs; simp
      simp [go_sem, this]
    · have e1 : digs j out = digs (j / 10) (UInt8.ofNat (48 + (j : Int) % 10).toNat :: out) := by rw [digs]; simp [hj]
      have e2 : ((j : Int).tmod 10) = (j : Int) % 10 := Int.tmod_eq_emod_of_nonneg (by omega)
      have e3 : ((j : Int).tdiv 10) = ((j / 10 : Nat) : Int) := by rw [Int.tdiv_eq_ediv_of_nonneg (by omega)]; omega
      have e4 : IntKind.i64.wrap (48 + (j : Int) % 10) = 48 + (j : Int) % 10 := wrap_id (by omega)
      have e5 : IntKind.u8.wrap (48 + (j : Int) % 10) = 48 + (j : Int) % 10 := u8_id (by omega)
      have e6 : IntKind.i64.wrap ((j / 10 : Nat) : Int) = ((j / 10 : Nat) : Int) := wrap_id (by omega)
      have e6' : IntKind.i64.wrap ((j : Int) / 10) = (j : Int) / 10 := wrap_id (by omega)
      simp [go_sem, Nat.pos_of_ne_zero hj, e2, e3, e4, e5, e6, e6', show 48 + (j : Int) % 10 < 256 by omega, show 0 ≤ 48 + (j : Int) % 10 by omega, show 1 + out.length ≤ 4611686018427387904 by omega]
      refine ⟨j / 10, UInt8.ofNat (48 + (j : Int) % 10).toNat :: out, by simp only [List.length_cons]; omega, by omega, ?_, by rw [e1]⟩
      simp
  · have := digs_len m []
    simp only [List.length_nil] at this
    simp [go_sem, mt, show 1 + (digs m []).length ≤ 4611686018427387904 by omega]
def mtL (k : Int) (n : Nat) : List Tx := (List.range n).map fun i : Nat => mt (k + i)
theorem mtL_succ (k : Int) (n : Nat) : mtL k (n + 1) = mtL k n ++ [mt (k + n)] := by simp [mtL, List.range_succ]
theorem mtL_length (k : Int) (n : Nat) : (mtL k n).length = n := by simp [mtL]
theorem markStringS_E (l : List Tx) (k : Int) (h : 0 < k ∧ k + l.length ≤ 1099511627776) : E CX 28 [.ref [0] 0 l.length, .int .i64 k] [([0], ⟨false, 9, 1, l.map .str, none⟩)] = some { val := .int .i64 (k + l.length), io := [⟨false, 9, 1, (mtL k l.length).map .str, none⟩] } := by
  refine E_fin Try.f28 _ an28 rfl rfl rfl Try.func28 rfl (by kernel_rfl) ?_
  simp [go_sem]
  refine loop_list (fun X => fin CX _ _ X = _) l (fun n _ => True) (fun n (_ : Unit) => ⟨SS [(0, .ref [0] 0 l.length), (1, .int .i64 (k + n)), (5, .int .i64 n)], HS [([0], ⟨false, 9, 1, (mtL k n ++ l.drop n).map .str, none⟩)]⟩) (fun _ n _ => (.exit 0, ⟨SS [(1, .int .i64 (k + l.length))], HS [([0], ⟨false, 9, 1, (mtL k l.length).map .str, none⟩)]⟩)) () trivial ?_ ?_ ?_ ?_ ?_
  · simp [go_sem, mtL]
  · intro n _ x t hn hx hd _
    have hs := mid_set ((mtL k n).map AV.str) (t.map .str) (.str x) (.str (mt (k + n))) n (by simp [mtL_length])
    have hd' : l.drop (n + 1) = t := by rw [← List.drop_drop, hd]; rfl
    simp [go_sem, hn, hd, hd', hs, mtL_length, mtL_succ, markText_E (k + n) (by omega), wrap_id (n := (n : Int) + 1) (by omega), wrap_id (n := k + ((n : Int) + 1)) (by omega), Int.add_assoc]
  · intro _ _; simp [go_sem, mtL_length]
  · intro _; simp
  · simp [go_sem, mtL_length]
theorem markStringS_nil (k : Int) : E CX 28 [.sl 1 [], .int .i64 k] [] = some { val := .int .i64 k } := by
  refine E_fin Try.f28 _ an28 rfl rfl rfl Try.func28 rfl (by kernel_rfl) ?_
  simp [go_sem]
  refine loop_for (fun X => fin CX _ _ X = _) ([] : List Unit) (fun n _ => True) (fun n (_ : Unit) => ⟨SS [(0, .sl 1 []), (1, .int .i64 k), (5, .int .i64 n)], HE⟩) (fun _ n _ => (.exit 0, ⟨SS [(1, .int .i64 k)], HE⟩)) () trivial ?_ ?_ ?_ ?_ ?_
  · simp [go_sem]
  · intro R n _ x t hn; simp at hn
  · intro _ _; simp [go_sem]
  · intro _; simp
  · simp [go_sem]
theorem heldStringS_E (n : Nat) (k : Int) (h : 0 < k ∧ k + n ≤ 1099511627776) : E CX 30 [.sl 1 ((mtL k n).map .str), .int .i64 k] [] = some { val := .int .i64 (k + n) } := by
  refine E_fin Try.f30 _ an30 rfl rfl rfl Try.func30 rfl (by kernel_rfl) ?_
  simp [go_sem]
  refine loop_list (fun X => fin CX _ _ X = _) (mtL k n) (fun n _ => True) (fun j (_ : Unit) => ⟨SS [(0, .sl 1 ((mtL k n).map .str)), (1, .int .i64 (k + j)), (5, .int .i64 j)], HE⟩) (fun _ _ _ => (.exit 0, ⟨SS [(1, .int .i64 (k + n))], HE⟩)) () trivial ?_ ?_ ?_ ?_ ?_
  · simp [go_sem]
  · intro j _ x t hj hx hd _
    have hx := hx hj
    have hj' : j < n := by simpa [mtL_length] using hj
    have hx' : x = mt (k + j) := by rw [← hx]; simp [mtL]
    subst hx'
    simp [go_sem, hj, hx, mtL_length, hj', markText_E (k + j) (by omega), wrap_id (n := (j : Int) + 1) (by omega), wrap_id (n := k + ((j : Int) + 1)) (by omega), Int.add_assoc]
  · intro _ _; simp [go_sem, mtL_length]
  · intro _; simp
  · simp [go_sem, mtL_length]
end Go.Proofs.Ytndgpinhbffleaa


namespace Go.Proofs.Ytndgpinhbffleaa
open Go
set_option maxRecDepth 100000
def inn (n lo hi : Int) : Bool := decide (lo ≤ n) && decide (n ≤ hi)
theorem within_E (n lo hi : Int) : E CX 41 [.int .i64 n, .int .i64 lo, .int .i64 hi] [] = some { val := .bool (inn n lo hi) } := by
  refine E_fin Try.f41 _ an41 rfl rfl rfl Try.func41 rfl (by kernel_rfl) ?_
  by_cases h : lo ≤ n <;> simp [go_sem, h, inn]
theorem l01In_E (n lo hi : Int) : E CX 14 [.int .i64 n, .int .i64 lo, .int .i64 hi] [] = some { val := .bool (inn n lo hi) } := by
  refine E_fin Try.f14 _ an14 rfl rfl rfl Try.func14 rfl (by kernel_rfl) ?_
  by_cases h : lo ≤ n <;> simp [go_sem, h, inn]
theorem isHost_E (n : Int) : E CX 40 [.int .i64 n] [] = some { val := .bool (inn n 0 3) } := by
  refine E_fin Try.f40 _ an40 rfl rfl rfl Try.func40 rfl (by kernel_rfl) ?_
  simp [go_sem, within_E]
theorem isPlace_E (n : Int) : E CX 62 [.int .i64 n] [] = some { val := .bool (inn n 0 63) } := by
  refine E_fin Try.f62 _ an62 rfl rfl rfl Try.func62 rfl (by kernel_rfl) ?_
  simp [go_sem, within_E]
theorem isSector_E (s : List UInt8) : E CX 59 [.str s] [] = some { val := .bool (decide (s.length ≤ 80)) } := by
  refine E_fin Try.f59 _ an59 rfl rfl rfl Try.func59 rfl (by kernel_rfl) ?_
  simp [go_sem]
  omega
def ioOK (x : Io) : Bool := inn x.host 0 3 && inn x.at_ 0 63 && decide (x.data.length ≤ 80)
theorem l01Io_E (x : Io) : E CX 52 [eIo x] [] = some { val := .bool (ioOK x) } := by
  refine E_fin Try.f52 _ an52 rfl rfl rfl Try.func52 rfl (by kernel_rfl) ?_
  obtain ⟨h, a, d⟩ := x
  cases h1 : inn h 0 3 <;> cases h2 : inn a 0 63 <;> simp [go_sem, eIo, l01In_E, h1, h2, ioOK]
  all_goals omega
def firstAt {α : Type} (q : α → Bool) : List α → Nat → Option Nat
  | [], _ => none
  | x :: l, n => if q x then some n else firstAt q l (n + 1)
def idxOf (o : Option Nat) : Int := match o with
  | some k => k
  | none => -1
theorem not193_E (f : FuncId) (s : List UInt8) (b : Bool) (hio : (annA f).io = []) (hf : E CX f [.str s] [] = some { val := .bool b }) : E CX 72 [.str s, .rptr [.fn f []]] [] = some { val := .bool (!b) } := by
  refine E_fin Try.f72 _ an72 rfl rfl rfl Try.func72 rfl (by kernel_rfl) ?_
  simp [go_sem, hf, hio]
theorem idx206_E (g : FuncId) (cap : List AV) (ss : List (List UInt8)) (q : List UInt8 → Bool) (hio : (annA g).io = []) (hl : ss.length ≤ 1073741824) (hf : ∀ s, E CX g [.str s, .rptr cap] [] = some { val := .bool (q s) }) : E CX 77 [.sl 1 (ss.map .str), .fn g [.rptr cap]] [] = some { val := .int .i64 (idxOf (firstAt q ss 0)) } := by
  refine E_fin Try.f77 _ an77 rfl rfl rfl Try.func77 rfl (by kernel_rfl) ?_
  simp [go_sem]
  refine loop_at (fun X => fin CX _ _ X = _) (fun n : Nat => n ≤ ss.length) (fun n => ⟨SS [(0, .sl 1 (ss.map .str)), (1, .fn g [.rptr cap]), (7, .int .i64 ss.length), (8, .int .i64 n)], HE⟩)
     (fun n => match firstAt q (ss.drop n) n with
    | some k => (.ret, ⟨SS [(4, .int .i64 k)], HE⟩)
    | none => (.exit 0, ⟨SS [], HE⟩)) (fun n => ss.length - n) 0 (by omega) ?_ ?_ ?_
  · simp [go_sem]
  · rintro n hn
    by_cases hlt : n < ss.length
    · obtain ⟨x, t, hx, hd, ht⟩ : ∃ x t, ss[n] = x ∧ ss.drop n = x :: t ∧ ss.drop (n + 1) = t := ⟨ss[n], ss.drop (n + 1), rfl, List.drop_eq_getElem_cons hlt, rfl⟩
      cases hq : q x
      · simp [go_sem, hd, firstAt, hq, hio, hf, hlt, hx, wrap_id (n := (n : Int) + 1) (by omega)]
        refine ⟨n + 1, by omega, by omega, ?_, ?_⟩ <;> simp [go_sem, ht]
      · simp [go_sem, hd, firstAt, hq, hio, hf, hlt, hx]
    · have : ss.drop n = [] := List.drop_eq_nil_of_le (by omega)
      simp [go_sem, this, firstAt, hlt]
  · cases hr : firstAt q ss 0 <;> simp [go_sem, hr, idxOf]
end Go.Proofs.Ytndgpinhbffleaa


namespace Go.Proofs.Ytndgpinhbffleaa
open Go
set_option maxRecDepth 100000
set_option linter.unusedSimpArgs false
set_option linter.unusedVariables false
def top : Nat := 9223372036854775807
def szS {α : Type} (f : α → Nat) : Int → List α → Int
  | left, [] => left
  | left, x :: l => if left - f x < 0 then -1 else szS f (left - f x) l
def szL {α : Type} (f : α → Nat) (left : Int) (l : List α) : Int := if left - l.length < 0 then -1 else szS f (left - l.length) l
theorem szS_bound {α : Type} (f : α → Nat) : ∀ (l : List α) (left : Int), 0 ≤ left → 0 ≤ szS f left l → szS f left l ≤ left ∧ ∀ x ∈ l, (f x : Int) ≤ left := by
  intro l
  induction l with
  | nil => intro left h _; exact ⟨Int.le_refl _, by simp⟩
  | cons x l ih =>
    intro left h h2
    unfold szS at h2 ⊢
    by_cases hx : left - f x < 0
    · simp [hx] at h2
    · simp only [hx, if_false] at h2 ⊢
      obtain ⟨h3, h4⟩ := ih (left - f x) (by omega) h2
      refine ⟨by omega, fun y hy => ?_⟩
      simp only [List.mem_cons] at hy
      rcases hy with rfl | hy
      · omega
      · have := h4 y hy; omega
theorem szS_neg {α : Type} (f : α → Nat) : ∀ (l : List α) (left : Int), 0 ≤ left → szS f left l < 0 → szS f left l = -1 := by
  intro l
  induction l with
  | nil => intro left h h2; simp [szS] at h2; omega
  | cons x l ih =>
    intro left h h2
    unfold szS at h2 ⊢
    by_cases hx : left - f x < 0
    · simp [hx]
    · simp only [hx, if_false] at h2 ⊢
      exact ih _ (by omega) h2
theorem szL_bound {α : Type} (f : α → Nat) (l : List α) (left : Int) (h : 0 ≤ left) (h2 : 0 ≤ szL f left l) : szL f left l ≤ left ∧ (l.length : Int) ≤ left ∧ ∀ x ∈ l, (f x : Int) ≤ left := by
  unfold szL at h2 ⊢
  by_cases hl : left - l.length < 0
  · simp [hl] at h2
  · simp only [hl, if_false] at h2 ⊢
    obtain ⟨h3, h4⟩ := szS_bound f l _ (by omega) h2
    exact ⟨by omega, by omega, fun x hx => by have := h4 x hx; omega⟩
theorem szStringS_E (a : List Tx) (left : Int) (hl : 0 ≤ left ∧ left ≤ 1099511627776) (ha : a.length ≤ top) (hs : ∀ s ∈ a, s.length ≤ top) : E CX 11 [.sl 1 (a.map .str), .int .i64 left] [] = some { val := .int .i64 (szL List.length left a) } := by
  unfold top at ha hs
  refine E_fin Try.f11 _ an11 rfl rfl rfl Try.func11 rfl (by kernel_rfl) ?_
  by_cases h0 : left - a.length < 0
  · simp [go_sem, wrap_id (n := left - a.length) (by omega), h0, szL]
  · simp [go_sem, wrap_id (n := left - a.length) (by omega), h0, szL]
    refine loop_list (fun X => fin CX _ _ X = _) a (fun n left => 0 ≤ left ∧ left ≤ 1099511627776) (fun n left => ⟨SS [(0, .sl 1 (a.map .str)), (1, .int .i64 left), (5, .int .i64 n)], HE⟩) (fun l n left => if szS List.length left l < 0 then (.ret, ⟨SS [(4, .int .i64 (-1))], HE⟩) else (.exit 0, ⟨SS [(1, .int .i64 (szS List.length left l))], HE⟩)) (left - a.length) (by omega) ?_ ?_ ?_ ?_ ?_
    · simp [go_sem]
    · intro n left x t hn hx hd hI
      have hx := hx hn
      have hxl := hs x (by rw [← hx]; exact List.getElem_mem hn)
      by_cases h1 : left - x.length < 0
      · simp [go_sem, hn, hx, wrap_id (n := left - x.length) (by omega), h1, szS]
      · simp [go_sem, hn, hx, wrap_id (n := left - x.length) (by omega), h1, szS, wrap_id (n := (n : Int) + 1) (by omega)]
        refine ⟨_, ⟨?_, ?_⟩, rfl, rfl⟩ <;> omega
    · intro left hI; simp [go_sem, szS, show ¬ left < 0 by omega]
    · intro left; by_cases hq : left < 0 <;> simp [szS, hq]
    · by_cases h1 : szS List.length (left - a.length) a < 0
      · have := szS_neg List.length a (left - a.length) (by omega) h1
        simp [go_sem, h1, this]
      · simp [go_sem, h1]
end Go.Proofs.Ytndgpinhbffleaa


namespace Go.Proofs.Ytndgpinhbffleaa
open Go
set_option maxRecDepth 100000
set_option linter.unusedSimpArgs false
set_option linter.unusedVariables false
theorem sharesL_eIo (l : List Io) : AV.sharesL (l.map eIo) = false := sharesL_map (fun _ => by simp [eIo, go_sem]) l
theorem sharesL_repeIo (n : Nat) (x : Io) : AV.sharesL (List.replicate n (eIo x)) = false := sharesL_rep _ (by simp [eIo, go_sem]) n
attribute [go_sem] sharesL_eIo sharesL_repeIo
theorem eqIo_E (a b : Io) : E CX 50 [eIo a, eIo b] [] = some { val := .bool (decide (a = b)) } := by
  refine E_fin Try.f50 _ an50 rfl rfl rfl Try.func50 rfl (by kernel_rfl) ?_
  obtain ⟨a0, a1, a2⟩ := a
  obtain ⟨b0, b1, b2⟩ := b
  by_cases c0 : a0 = b0
  · by_cases c1 : a1 = b1
    · by_cases c2 : a2 = b2
      · simp [go_sem, eIo, c0, c1, c2]
      · simp [go_sem, eIo, c0, c1, c2]
    · simp [go_sem, eIo, c0, c1]
  · simp [go_sem, eIo, c0]
theorem eqIoS_E (a b : List Io) (ha : a.length ≤ 1073741824) : E CX 27 [.sl 3 (a.map eIo), .sl 3 (b.map eIo)] [] = some { val := .bool (decide (a = b)) } := by
  refine E_fin Try.f27 _ an27 rfl rfl rfl Try.func27 rfl (by kernel_rfl) ?_
  by_cases hl : a.length = b.length
  · simp [go_sem, hl]
    refine loop_list (fun X => fin CX _ _ X = _) a (fun n _ => True) (fun n (_ : Unit) => ⟨SS [(0, .sl 3 (a.map eIo)), (1, .sl 3 (b.map eIo)), (5, .int .i64 n)], HE⟩) (fun l n _ => if l = b.drop n then (.exit 0, ⟨SS [], HE⟩) else (.ret, ⟨SS [(4, .bool false)], HE⟩)) () trivial ?_ ?_ ?_ ?_ ?_
    · simp [go_sem]
    · intro n _ x t hn hx hd _
      have hn' : n < b.length := by omega
      obtain ⟨y, u, hy, hu, hu'⟩ := cut_at hn'
      have hx := hx hn
      by_cases hxy : x = y
      · subst hxy
        have hE := eqIo_E x x
        simp only [eIo] at hE
        simp [go_sem, hn, hn', hx, hy, hu, hu', eIo, hE, wrap_id (n := (n : Int) + 1) (by omega)]
      · have hE := eqIo_E x y
        simp only [eIo] at hE
        simp [go_sem, hn, hn', hx, hy, hu, hu', eIo, hE, hxy]
    · intro _ _; simp [go_sem, hl]
    · intro _; simp [hl]
    · by_cases h : a = b <;> simp [go_sem, h]
  · have : a ≠ b := fun h => hl (by rw [h])
    have hl' : ¬ ((a.length : Int) = b.length) := by omega
    simp [go_sem, hl', this]
theorem toIo_E (a : Io) : E CX 38 [eIo a] [] = some { val := eIo a } := by
  refine E_fin Try.f38 _ an38 rfl rfl rfl Try.func38 rfl (by kernel_rfl) ?_
  simp [go_sem, eIo]
theorem toIoS_E (a : List Io) (ha : a.length ≤ 1073741824) : E CX 18 [.sl 3 (a.map eIo)] [] = some { val := .ref [0, 0, 0, 0] 0 a.length, own := [⟨false, 70, 3, a.map eIo, none⟩] } := by
  refine E_fin Try.f18 _ an18 rfl rfl rfl Try.func18 rfl (by kernel_rfl) ?_
  simp [go_sem, show (32 : Int) * a.length ≤ 140737488355328 by omega, show (a.length : Int) < 9223372036854775808 by omega]
  refine loop_list (fun X => fin CX _ _ X = _) a (fun n _ => True) (fun n (_ : Unit) => ⟨SS [(0, .sl 3 (a.map eIo)), (3, .ref [7] 0 a.length), (4, .int .i64 n)], HS [([7], ⟨false, 70, 3, (a.map eIo).take n ++ List.replicate (a.length - n) (.agg [.int .i64 0, .int .i64 0, .str []]), none⟩)]⟩) (fun l n _ => (.exit 0, ⟨SS [(3, .ref [7] 0 a.length)], HS [([7], ⟨false, 70, 3, a.map eIo, none⟩)]⟩)) () trivial ?_ ?_ ?_ ?_ ?_
  · simp [go_sem]
  · intro n _ x t hn hx hd _
    have hx := hx hn
    have hs := fill_set eIo a (.agg [.int .i64 0, .int .i64 0, .str []]) n hn
    rw [hx] at hs
    have hz := fill_get eIo a (.agg [.int .i64 0, .int .i64 0, .str []]) n hn
    have hE := toIo_E x
    simp only [eIo] at hE hs hz
    simp [go_sem, hn, hx, eIo, hE, hs, hz, fill_get' _ a (AV.agg [.int .i64 0, .int .i64 0, .str []]) n hn, fill_len hn, wrap_id (n := (n : Int) + 1) (by omega)]
  · intro _ _; simp [go_sem, fill_full]
  · intro _; simp
  · simp [go_sem]
theorem szIo_E (x : Io) (left : Int) (hl : 0 ≤ left ∧ left ≤ 1099511627776) (hs : x.data.length ≤ top) : E CX 32 [eIo x, .int .i64 left] [] = some { val := .int .i64 (if left - x.data.length < 0 then -1 else left - x.data.length) } := by
  unfold top at hs
  refine E_fin Try.f32 _ an32 rfl rfl rfl Try.func32 rfl (by kernel_rfl) ?_
  by_cases h1 : left - x.data.length < 0
  · simp [go_sem, eIo, wrap_id (n := left - x.data.length) (by omega), h1]
  · simp [go_sem, eIo, wrap_id (n := left - x.data.length) (by omega), h1]
theorem szIoS_E (a : List Io) (left : Int) (hl : 0 ≤ left ∧ left ≤ 1099511627776) (ha : a.length ≤ top) (hs : ∀ x ∈ a, x.data.length ≤ top) : E CX 12 [.sl 3 (a.map eIo), .int .i64 left] [] = some { val := .int .i64 (szL (fun x : Io => x.data.length) left a) } := by
  have ha' : a.length ≤ 9223372036854775807 := ha
  refine E_fin Try.f12 _ an12 rfl rfl rfl Try.func12 rfl (by kernel_rfl) ?_
  by_cases h0 : left - a.length < 0
  · simp [go_sem, wrap_id (n := left - a.length) (by omega), h0, szL]
  · simp [go_sem, wrap_id (n := left - a.length) (by omega), h0, szL]
    refine loop_list (fun X => fin CX _ _ X = _) a (fun n left => 0 ≤ left ∧ left ≤ 1099511627776) (fun n left => ⟨SS [(0, .sl 3 (a.map eIo)), (1, .int .i64 left), (5, .int .i64 n)], HE⟩) (fun l n left => if szS (fun x : Io => x.data.length) left l < 0 then (.ret, ⟨SS [(4, .int .i64 (-1))], HE⟩) else (.exit 0, ⟨SS [(1, .int .i64 (szS (fun x : Io => x.data.length) left l))], HE⟩)) (left - a.length) (by omega) ?_ ?_ ?_ ?_ ?_
    · simp [go_sem]
    · intro n left x t hn hx hd hI
      have hx := hx hn
      have hE := szIo_E x left hI (hs x (by rw [← hx]; exact List.getElem_mem hn))
      simp only [eIo] at hE
      by_cases h1 : left - x.data.length < 0
      · simp [go_sem, hn, hx, eIo, hE, h1, szS]
      · simp [go_sem, hn, hx, eIo, hE, h1, szS, wrap_id (n := (n : Int) + 1) (by omega)]
        refine ⟨_, ⟨?_, ?_⟩, rfl, rfl⟩ <;> omega
    · intro left hI; simp [go_sem, szS, show ¬ left < 0 by omega]
    · intro left; by_cases hq : left < 0 <;> simp [szS, hq]
    · by_cases h1 : szS (fun x : Io => x.data.length) (left - a.length) a < 0
      · have := szS_neg (fun x : Io => x.data.length) a _ (by omega) h1
        simp [go_sem, h1, this]
      · simp [go_sem, h1]
def mkIo (k : Int) (n : Nat) : List Io := (List.range n).map fun i : Nat => ⟨k + 3 * i + 0, k + 3 * i + 1, mt (k + 3 * i + 2)⟩
theorem mkIo_succ (k : Int) (n : Nat) : mkIo k (n + 1) = mkIo k n ++ [⟨k + 3 * n + 0, k + 3 * n + 1, mt (k + 3 * n + 2)⟩] := by simp [mkIo, List.range_succ]
theorem mkIo_length (k : Int) (n : Nat) : (mkIo k n).length = n := by simp [mkIo]
theorem markIoS_E (l tl : List Io) (k : Int) (h : 0 < k ∧ k + 3 * l.length ≤ 1099511627776) : E CX 29 [.ref [0] 0 l.length, .int .i64 k] [([0], ⟨false, 70, 3, (l ++ tl).map eIo, none⟩)] = some { val := .int .i64 (k + 3 * l.length), io := [⟨false, 70, 3, (mkIo k l.length ++ tl).map eIo, none⟩] } := by
  refine E_fin Try.f29 _ an29 rfl rfl rfl Try.func29 rfl (by kernel_rfl) ?_
  simp [go_sem]
  refine loop_list (fun X => fin CX _ _ X = _) l (fun n _ => True) (fun n (_ : Unit) => ⟨SS [(0, .ref [0] 0 l.length), (1, .int .i64 (k + 3 * n)), (5, .int .i64 n)], HS [([0], ⟨false, 70, 3, (mkIo k n).map eIo ++ ((l.drop n).map eIo ++ tl.map eIo), none⟩)]⟩) (fun _ n _ => (.exit 0, ⟨SS [(1, .int .i64 (k + 3 * l.length))], HS [([0], ⟨false, 70, 3, (mkIo k l.length).map eIo ++ tl.map eIo, none⟩)]⟩)) () trivial ?_ ?_ ?_ ?_ ?_
  · simp [go_sem, mkIo]
  · intro n _ x t hn hx hd _
    have hs : ∀ (v w : AV), ((mkIo k n).map eIo ++ v :: (t.map eIo ++ tl.map eIo)).set n w = (mkIo k n).map eIo ++ w :: (t.map eIo ++ tl.map eIo) := fun v w => mid_set _ _ _ _ n (by simp [mkIo_length])
    have hg : ∀ (v : AV), ((mkIo k n).map eIo ++ v :: (t.map eIo ++ tl.map eIo))[n]? = some v := fun v => by
      rw [List.getElem?_append_right (by simp [mkIo_length])]; simp [mkIo_length]
    have hd' : l.drop (n + 1) = t := by rw [← List.drop_drop, hd]; rfl
    have hg' : ∀ (v : AV) (h : n < ((mkIo k n).map eIo ++ v :: (t.map eIo ++ tl.map eIo)).length), ((mkIo k n).map eIo ++ v :: (t.map eIo ++ tl.map eIo))[n]'h = v := fun v h => by
      have := hg v
      rw [List.getElem?_eq_getElem h] at this
      exact Option.some.inj this
    simp [go_sem, hn, hd, hd', eIo, hs, hg, hg', mkIo_length, mkIo_succ, markText_E (k + (3 * n + 2)) (by omega), wrap_id (n := (n : Int) + 1) (by omega), wrap_id (n := k + (3 * (n : Int) + 1)) (by omega), wrap_id (n := k + (3 * (n : Int) + 2)) (by omega), wrap_id (n := k + (3 * (n : Int) + 3)) (by omega), Int.add_assoc, Int.mul_add]
  · intro _ _; simp [go_sem, mkIo_length]
  · intro _; simp
  · simp [go_sem, mkIo_length]
theorem markIoS_nil (k : Int) : E CX 29 [.sl 3 [], .int .i64 k] [] = some { val := .int .i64 k } := by
  refine E_fin Try.f29 _ an29 rfl rfl rfl Try.func29 rfl (by kernel_rfl) ?_
  simp [go_sem]
  refine loop_for (fun X => fin CX _ _ X = _) ([] : List Unit) (fun n _ => True) (fun n (_ : Unit) => ⟨SS [(0, .sl 3 []), (1, .int .i64 k), (5, .int .i64 n)], HE⟩) (fun _ n _ => (.exit 0, ⟨SS [(1, .int .i64 k)], HE⟩)) () trivial ?_ ?_ ?_ ?_ ?_
  · simp [go_sem]
  · intro R n _ x t hn; simp at hn
  · intro _ _; simp [go_sem]
  · intro _; simp
  · simp [go_sem]
theorem heldIoS_E (n : Nat) (k : Int) (h : 0 < k ∧ k + 3 * n ≤ 1099511627776) : E CX 31 [.sl 3 ((mkIo k n).map eIo), .int .i64 k] [] = some { val := .int .i64 (k + 3 * n) } := by
  refine E_fin Try.f31 _ an31 rfl rfl rfl Try.func31 rfl (by kernel_rfl) ?_
  simp [go_sem]
  refine loop_list (fun X => fin CX _ _ X = _) (mkIo k n) (fun n _ => True) (fun j (_ : Unit) => ⟨SS [(0, .sl 3 ((mkIo k n).map eIo)), (1, .int .i64 (k + 3 * j)), (5, .int .i64 j)], HE⟩) (fun _ _ _ => (.exit 0, ⟨SS [(1, .int .i64 (k + 3 * n))], HE⟩)) () trivial ?_ ?_ ?_ ?_ ?_
  · simp [go_sem]
  · intro j _ x t hj hx hd _
    have hx := hx hj
    have hj' : j < n := by simpa [mkIo_length] using hj
    have hx' : x = ⟨k + 3 * j + 0, k + 3 * j + 1, mt (k + 3 * j + 2)⟩ := by rw [← hx]; simp [mkIo]
    subst hx'
    simp [go_sem, hj, hx, hj', eIo, mkIo_length, markText_E (k + (3 * j + 2)) (by omega), wrap_id (n := (j : Int) + 1) (by omega), wrap_id (n := k + (3 * (j : Int) + 1)) (by omega), wrap_id (n := k + (3 * (j : Int) + 2)) (by omega), wrap_id (n := k + (3 * (j : Int) + 3)) (by omega), Int.add_assoc, Int.mul_add]
  · intro _ _; simp [go_sem, mkIo_length]
  · intro _; simp
  · simp [go_sem, mkIo_length]
end Go.Proofs.Ytndgpinhbffleaa


namespace Go.Proofs.Ytndgpinhbffleaa
open Go
set_option maxRecDepth 100000
set_option linter.unusedSimpArgs false
set_option linter.unusedVariables false
structure Disk where
  ss : List Tx
  ps : List Io
  deriving Inhabited, DecidableEq
def eDisk (d : Disk) : AV := .agg [.sl 1 (d.ss.map .str), .sl 3 (d.ps.map eIo)]
def ioLen (x : Io) : Nat := x.data.length
def szD (left : Int) (d : Disk) : Int := if szL List.length left d.ss < 0 then -1 else szL (fun x : Io => x.data.length) (szL List.length left d.ss) d.ps
theorem szL_neg {α : Type} (f : α → Nat) (l : List α) (left : Int) (h : 0 ≤ left) (h2 : szL f left l < 0) : szL f left l = -1 := by
  unfold szL at h2 ⊢
  by_cases hl : left - l.length < 0
  · simp [hl]
  · simp only [hl, if_false] at h2 ⊢
    exact szS_neg f l _ (by omega) h2
/-- What is handed in fits the machine. -/
structure Fits (d : Disk) : Prop where
  ss : d.ss.length ≤ top
  s : ∀ s ∈ d.ss, s.length ≤ top
  ps : d.ps.length ≤ top
  p : ∀ x ∈ d.ps, x.data.length ≤ top ∧ In64 x.host ∧ In64 x.at_
theorem szDisk_E (d : Disk) (left : Int) (hl : 0 ≤ left ∧ left ≤ 1099511627776) (hf : Fits d) : E CX 4 [eDisk d, .int .i64 left] [] = some { val := .int .i64 (szD left d) } := by
  refine E_fin Try.f4 _ an4 rfl rfl rfl Try.func4 rfl (by kernel_rfl) ?_
  have h1 := szStringS_E d.ss left hl hf.ss hf.s
  by_cases c1 : szL List.length left d.ss < 0
  · simp [go_sem, eDisk, h1, szD, c1]
  · have hb := szL_bound List.length d.ss left (by omega) (by omega)
    have h2 := szIoS_E d.ps (szL List.length left d.ss) (by omega) hf.ps (fun x hx => (hf.p x hx).1)
    by_cases c2 : szL (fun x : Io => x.data.length) (szL List.length left d.ss) d.ps < 0
    · have := szL_neg _ d.ps _ (by omega) c2
      simp [go_sem, eDisk, h1, h2, szD, c1, this]
    · simp [go_sem, eDisk, h1, h2, szD, c1, c2]
/-- What is small enough is bounded. -/
theorem szD_bound (d : Disk) (left : Int) (h : 0 ≤ left) (h2 : 0 ≤ szD left d) : szD left d ≤ left ∧ (d.ss.length : Int) ≤ left ∧ (d.ps.length : Int) ≤ left ∧ (∀ s ∈ d.ss, (s.length : Int) ≤ left) ∧ ∀ x ∈ d.ps, (x.data.length : Int) ≤ left := by
  unfold szD at h2 ⊢
  by_cases c1 : szL List.length left d.ss < 0
  · simp [c1] at h2
  · simp only [c1, if_false] at h2 ⊢
    obtain ⟨b1, b2, b3⟩ := szL_bound List.length d.ss left h (by omega)
    obtain ⟨b4, b5, b6⟩ := szL_bound _ d.ps _ (by omega) h2
    exact ⟨by omega, b2, by omega, b3, fun x hx => by have := b6 x hx; omega⟩
theorem toDisk_E (d : Disk) (h1 : d.ss.length ≤ 1073741824) (h2 : d.ps.length ≤ 1073741824) : E CX 6 [eDisk d] [] = some { val := .agg [.ref [0, 0, 0, 0] 0 d.ss.length, .ref [1, 0, 0, 0] 0 d.ps.length], own := [⟨false, 9, 1, d.ss.map .str, none⟩, ⟨false, 70, 3, d.ps.map eIo, none⟩] } := by
  refine E_fin Try.f6 _ an6 rfl rfl rfl Try.func6 rfl (by kernel_rfl) ?_
  simp [go_sem, eDisk, toStringS_E d.ss h1, toIoS_E d.ps h2]
theorem eqDisk_E (a b : Disk) (h1 : a.ss.length ≤ 1073741824) (h2 : a.ps.length ≤ 1073741824) : E CX 8 [eDisk a, eDisk b] [] = some { val := .bool (decide (a = b)) } := by
  refine E_fin Try.f8 _ an8 rfl rfl rfl Try.func8 rfl (by kernel_rfl) ?_
  have e1 := eqStringS_E a.ss b.ss h1
  have e2 := eqIoS_E a.ps b.ps h2
  obtain ⟨s, p⟩ := a
  obtain ⟨s', p'⟩ := b
  simp only at e1 e2
  by_cases c1 : s = s'
  · subst c1
    by_cases c2 : p = p'
    · subst c2
      simp [go_sem, eDisk, e1, e2]
    · simp [go_sem, eDisk, e1, e2, c2]
  · simp [go_sem, eDisk, e1, c1]
theorem markDisk_E (ss : List Tx) (ps tl : List Io) (k : Int) (h : 0 < k ∧ k + ss.length + 3 * ps.length ≤ 1099511627776) : E CX 9 [.agg [.ref [0, 0] 0 ss.length, .ref [0, 1] 0 ps.length], .int .i64 k] [([0, 0], ⟨false, 9, 1, ss.map .str, none⟩), ([0, 1], ⟨false, 70, 3, (ps ++ tl).map eIo, none⟩)] =
    some { val := .int .i64 (k + ss.length + 3 * ps.length), io := [⟨false, 9, 1, (mtL k ss.length).map .str, none⟩, ⟨false, 70, 3, (mkIo (k + ss.length) ps.length ++ tl).map eIo, none⟩] } := by
  refine E_fin Try.f9 _ an9 rfl rfl rfl Try.func9 rfl (by kernel_rfl) ?_
  have e1 := markStringS_E ss k (by omega)
  have e2 := markIoS_E ps tl (k + ss.length) (by omega)
  simp only [List.map_append] at e2
  simp [go_sem, e1, e2]
theorem markDisk_nil (k : Int) : E CX 9 [.agg [.sl 1 [], .sl 3 []], .int .i64 k] [] = some { val := .int .i64 k } := by
  refine E_fin Try.f9 _ an9 rfl rfl rfl Try.func9 rfl (by kernel_rfl) ?_
  simp [go_sem, markStringS_nil, markIoS_nil]
theorem heldDisk_E (n m : Nat) (k : Int) (h : 0 < k ∧ k + n + 3 * m ≤ 1099511627776) : E CX 10 [eDisk ⟨mtL k n, mkIo (k + n) m⟩, .int .i64 k] [] = some { val := .int .i64 (k + n + 3 * m) } := by
  refine E_fin Try.f10 _ an10 rfl rfl rfl Try.func10 rfl (by kernel_rfl) ?_
  have e1 := heldStringS_E n k (by omega)
  have e2 := heldIoS_E m (k + n) (by omega)
  simp [go_sem, eDisk, e1, e2, show ¬ k + n < 0 by omega, show ¬ k + n + 3 * m < 0 by omega]
end Go.Proofs.Ytndgpinhbffleaa


namespace Go.Proofs.Ytndgpinhbffleaa
open Go
set_option maxRecDepth 100000
set_option linter.unusedSimpArgs false
set_option linter.unusedVariables false
structure Move where
  kind : Int
  at_ : Int
  data : List UInt8
  deriving Inhabited, DecidableEq
def eMove (x : Move) : AV := .agg [.int .i64 (x.kind), .int .i64 (x.at_), .str (x.data)]
theorem sharesL_eMove (l : List Move) : AV.sharesL (l.map eMove) = false := sharesL_map (fun _ => by simp [eMove, go_sem]) l
theorem sharesL_repeMove (n : Nat) (x : Move) : AV.sharesL (List.replicate n (eMove x)) = false := sharesL_rep _ (by simp [eMove, go_sem]) n
attribute [go_sem] sharesL_eMove sharesL_repeMove
def mkMove (k : Int) (n : Nat) : List Move := (List.range n).map fun i : Nat => ⟨k + 3 * i + 0, k + 3 * i + 1, mt (k + 3 * i + 2)⟩
theorem mkMove_succ (k : Int) (n : Nat) : mkMove k (n + 1) = mkMove k n ++ [⟨k + 3 * n + 0, k + 3 * n + 1, mt (k + 3 * n + 2)⟩] := by simp [mkMove, List.range_succ]
theorem mkMove_length (k : Int) (n : Nat) : (mkMove k n).length = n := by simp [mkMove]
end Go.Proofs.Ytndgpinhbffleaa


namespace Go.Proofs.Ytndgpinhbffleaa
open Go
set_option maxRecDepth 100000
theorem in64_of {n : Int} (h : IntKind.i64.min ≤ n ∧ n ≤ IntKind.i64.max) : In64 n := by
  rw [show IntKind.i64.min = -9223372036854775808 from rfl, show IntKind.i64.max = 9223372036854775807 from rfl] at h
  unfold In64; omega
theorem cells_int : Try.prog.cellsOf 3 = 1 := by kernel_rfl
theorem cells_str : Try.prog.cellsOf 9 = 1 := by kernel_rfl
theorem told_str : ∀ bs, Typed Try.prog 9 bs → ∃ x : Tx, mkVal (tagg Try.prog 9) bs = .str x ∧ x.length ≤ top := by
  intro bs h
  obtain ⟨s, rfl, hs⟩ := typed_str Try.underlying9 h
  exact ⟨s, by rw [show tagg Try.prog 9 = false by kernel_rfl]; rfl, hs⟩
theorem told_Io : ∀ bs, Typed Try.prog 66 bs → ∃ x : Io, mkVal (tagg Try.prog 66) bs = eIo x ∧ x.data.length ≤ top ∧ In64 x.host ∧ In64 x.at_ := by
  intro bs h
  obtain ⟨hl, hf⟩ := typed_strct Try.underlying66 h
  rw [show Try.prog.cellsOf 66 = 3 by kernel_rfl] at hl
  obtain ⟨a, b, c, rfl⟩ := len3 hl
  simp [cells_int, cells_str] at hf
  obtain ⟨h0, h1, h2⟩ := hf
  obtain ⟨x0, e0, w0⟩ := typed_int Try.underlying3 h0
  obtain ⟨x1, e1, w1⟩ := typed_int Try.underlying3 h1
  obtain ⟨x2, e2, w2⟩ := typed_str Try.underlying9 h2
  cases e0; cases e1; cases e2
  refine ⟨⟨x0, x1, x2⟩, by rw [show tagg Try.prog 66 = true by kernel_rfl]; rfl, w2, in64_of w0, in64_of w1⟩
theorem told_Disk : ∀ bs, Typed Try.prog 25 bs → ∃ x : Disk, mkVal (tagg Try.prog 25) bs = eDisk x ∧ Fits x := by
  intro bs h
  obtain ⟨hl, hf⟩ := typed_strct Try.underlying25 h
  rw [show Try.prog.cellsOf 25 = 2 by kernel_rfl] at hl
  obtain ⟨a, b, rfl⟩ := len2 hl
  simp [show Try.prog.cellsOf 22 = 1 by kernel_rfl, show Try.prog.cellsOf 23 = 1 by kernel_rfl] at hf
  obtain ⟨h0, h1⟩ := hf
  obtain ⟨x0, e0, w0, q0⟩ := typed_list Try.underlying22 told_str h0
  obtain ⟨x1, e1, w1, q1⟩ := typed_list Try.underlying23 told_Io h1
  rw [cells_str] at e0
  rw [show Try.prog.cellsOf 66 = 3 by kernel_rfl] at e1
  cases e0; cases e1
  exact ⟨⟨x0, x1⟩, by rw [show tagg Try.prog 25 = true by kernel_rfl]; rfl, ⟨w0, q0, w1, q1⟩⟩
theorem told_int : ∀ bs, Typed Try.prog 3 bs → ∃ x : Int, mkVal (tagg Try.prog 3) bs = .int .i64 x ∧ In64 x := by
  intro bs h
  obtain ⟨x, rfl, w⟩ := typed_int Try.underlying3 h
  refine ⟨x, by rw [show tagg Try.prog 3 = false by kernel_rfl]; rfl, in64_of w⟩
end Go.Proofs.Ytndgpinhbffleaa

