/- A reading of the loaded code over plain data, its soundness, and what functions answer by it (part 8; joined by program). No condition. -/
import Derived.Test.YtdcgfapededocaaGreatKRx7
import Derived.Deep.Slices
import Derived.SliceStrings
import Derived.ChangeArms
import Derived.DataShut
set_option linter.all false
namespace Go.Proofs.YtdcgfapededocaaGreat
open Go Go.Deep Go.ChangeShapes Go.WideShapes
section
variable {P : Program}
/-- Cells of a type, told as data. -/
inductive Typed (P : Program) : TypeId → List AV → Prop
  | bool {t : TypeId} {b : Bool} : P.underlying t = some .bool → Typed P t [.bool b]
  | int {t : TypeId} {k : IntKind} {n : Int} : P.underlying t = some (.int k) → (Lit.int k n).wf = true → Typed P t [.int k n]
  | str {t : TypeId} {s : List UInt8} : P.underlying t = some .string → s.length ≤ maxLen → Typed P t [.str s]
  | slice {t e : TypeId} {es : List AV} : P.underlying t = some (.slice e) → es.length ≤ maxLen → (∀ i, i < es.length → Typed P e (cellsOf (es.getD i .dead))) → (∀ i, i < es.length → es.getD i .dead = mkVal (tagg P e) (cellsOf (es.getD i .dead))) → Typed P t [.sl (P.cellsOf e) es]
  | strct {t : TypeId} {fs : Array Field} {avs : List AV} : P.underlying t = some (.struct fs) → avs.length = P.cellsOf t → (∀ f, f ∈ fs.toList → Typed P f.type ((avs.drop f.offset).take (P.cellsOf f.type))) → Typed P t avs
def tiles (P : Program) : List Field → Nat → Nat → Bool
  | [], off, n => decide (off = n)
  | f :: fs, off, n => decide (f.offset = off) && tiles P fs (off + P.cellsOf f.type) n
/-- Types that are read so. -/
def plainT (P : Program) : Nat → TypeId → Bool
  | 0, _ => false
  | n + 1, t => match P.underlying t with
    | some .bool => true
    | some (.int _) => true
    | some .string => true
    | some (.slice e) => decide (0 < P.cellsOf e) && plainT P n e
    | some (.struct fs) => tiles P fs.toList 0 (P.cellsOf t) && fs.toList.all fun f => plainT P n f.type
    | _ => false
theorem typed_mk {e : TypeId} {avs : List AV} (h : Typed P e avs) : cellsOf (mkVal (tagg P e) avs) = avs := by
  cases h with
  | bool h => simp [tagg, h, mkVal, cellsOf]
  | int h _ => simp [tagg, h, mkVal, cellsOf]
  | str h _ => simp [tagg, h, mkVal, cellsOf]
  | slice h _ _ _ => simp [tagg, h, mkVal, cellsOf]
  | strct h _ _ => simp [tagg, h, mkVal, cellsOf]
def ToldAs (P : Program) (w : World) (t : TypeId) (cs : List Value) (avs : List AV) : Prop :=
  avs.length = cs.length ∧ Typed P t avs ∧ ∀ i, i < avs.length → Rep w (fun _ => False) noMap (avs.getD i .dead) (cs.getD i undef) ∧ (cs.getD i undef).oneCell' = true
theorem told_fields {w : World} : ∀ (fl : List Field) (off n : Nat) (cs : List Value), tiles P fl off n = true → n ≤ cs.length → off ≤ n →
    (∀ f, f ∈ fl → ∃ avs, ToldAs P w f.type ((cs.drop f.offset).take (P.cellsOf f.type)) avs ∧ avs.length = P.cellsOf f.type) →
    ∃ avs : List AV, avs.length = n - off ∧ (∀ f, f ∈ fl → off ≤ f.offset ∧ Typed P f.type ((avs.drop (f.offset - off)).take (P.cellsOf f.type))) ∧
      ∀ i, i < avs.length → Rep w (fun _ => False) noMap (avs.getD i .dead) (cs.getD (off + i) undef) ∧ (cs.getD (off + i) undef).oneCell' = true := by
  intro fl
  induction fl with
  | nil =>
    intro off n cs ht _ _ _
    simp [tiles] at ht
    exact ⟨[], by simp [ht], by simp, by simp⟩
  | cons f fl ih =>
    intro off n cs ht hn ho h
    simp only [tiles, Bool.and_eq_true, decide_eq_true_eq] at ht
    obtain ⟨hf, ht⟩ := ht
    obtain ⟨a1, ⟨l1, t1, r1⟩, l1'⟩ := h f (by simp)
    have hlt : off + P.cellsOf f.type ≤ n := by
      clear ih h
      have : ∀ (fl : List Field) (o : Nat), tiles P fl o n = true → o ≤ n := by
        intro fl
        induction fl with
        | nil => intro o h; simp [tiles] at h; omega
        | cons g fl ih => intro o h; simp only [tiles, Bool.and_eq_true, decide_eq_true_eq] at h; have := ih _ h.2; omega
      exact this _ _ ht
    obtain ⟨a2, l2, t2, r2⟩ := ih (off + P.cellsOf f.type) n cs ht hn hlt (fun g hg => h g (by simp [hg]))
    refine ⟨a1 ++ a2, by rw [List.length_append, l1', l2]; omega, fun g hg => ?_, fun i hi => ?_⟩
    · simp only [List.mem_cons] at hg
      rcases hg with rfl | hg
      · refine ⟨by omega, ?_⟩
        rw [hf, Nat.sub_self, List.drop_zero, List.take_append_of_le_length (by omega), List.take_of_length_le (by omega)]
        exact t1
      · obtain ⟨q1, q2⟩ := t2 g hg
        refine ⟨by omega, ?_⟩
        rw [List.drop_append, List.drop_of_length_le (by omega), List.nil_append, l1', show g.offset - off - P.cellsOf f.type = g.offset - (off + P.cellsOf f.type) by omega]
        exact q2
    · by_cases h1 : i < a1.length
      · have := r1 i h1
        have e1 : (a1 ++ a2).getD i .dead = a1.getD i .dead := by simp [List.getD, List.getElem?_append_left h1]
        have e2 : ((cs.drop f.offset).take (P.cellsOf f.type)).getD i undef = cs.getD (off + i) undef := by
          simp [List.getD, show i < P.cellsOf f.type by omega, hf]
        rw [e2] at this
        rw [e1]; exact this
      · have hi2 : i - a1.length < a2.length := by rw [List.length_append] at hi; omega
        have := r2 (i - a1.length) hi2
        have e1 : (a1 ++ a2).getD i .dead = a2.getD (i - a1.length) .dead := by simp [List.getD, List.getElem?_append_right (show a1.length ≤ i by omega)]
        rw [show off + P.cellsOf f.type + (i - a1.length) = off + i by omega] at this
        rw [e1]; exact this
/-- Data that is read is told. -/
theorem trod_told {H : Type} {enc : TypeId × Value → H} {w : World} {sp : Nat → Bool} {hd : Bool} : ∀ (n fuel : Nat) (t : TypeId) (cs : List Value) (x : DataW H × List MemPlace), plainT P n t = true → DataW.trod enc P w 0 sp hd fuel t cs = some x → ∃ avs, ToldAs P w t cs avs := by
  intro n
  induction n with
  | zero => intro fuel t cs x hp; simp [plainT] at hp
  | succ n ih =>
    intro fuel t cs x hp h
    unfold plainT at hp
    cases hu : P.underlying t with
    | none => simp [hu] at hp
    | some d =>
      simp only [hu] at hp
      cases d with
      | bool =>
        obtain ⟨b, rfl, _⟩ := DataW.trod_bool hu h
        exact ⟨[.bool b], rfl, .bool hu, by intro i hi; simp at hi; subst hi; exact ⟨.bool _, rfl⟩⟩
      | int k =>
        obtain ⟨m, rfl, _, hw⟩ := DataW.trod_int hu h
        exact ⟨[.int k m], rfl, .int hu hw, by intro i hi; simp at hi; subst hi; exact ⟨.int _ _, rfl⟩⟩
      | string =>
        obtain ⟨s, rfl, _, hs⟩ := DataW.trod_string hu h
        exact ⟨[.str s.data.toList], rfl, .str hu (by simpa using hs), by intro i hi; simp at hi; subst hi; exact ⟨.str rfl, rfl⟩⟩
      | slice e =>
        simp only [Bool.and_eq_true, decide_eq_true_eq] at hp
        obtain ⟨hm, hp⟩ := hp
        rcases open_slice hu h with ⟨rfl, _⟩ | ⟨a, len, cap, m, fl, D, Pl, rfl, _, hl, hcap, hmm, _, hel⟩
        · exact ⟨[.sl (P.cellsOf e) []], rfl, .slice hu (by simp) (by simp) (by simp), by intro i hi; simp at hi; subst hi; exact ⟨.slE _ _ _, rfl⟩⟩
        · have hle : len ≤ m := by rw [hmm]; split <;> omega
          by_cases hl0 : len = 0
          · subst hl0
            exact ⟨[.sl (P.cellsOf e) []], rfl, .slice hu (by simp) (by simp) (by simp), by intro i hi; simp at hi; subst hi; exact ⟨.slE _ _ _, rfl⟩⟩
          · have each : ∀ i, i < len → ∃ q : List AV × List Value, w.cells? 0 (a.add (i * P.cellsOf e)) (P.cellsOf e) = some q.2 ∧ ToldAs P w e q.2 q.1 := by
              intro i hi
              obtain ⟨cs', h1, h2⟩ := hel i (by omega)
              obtain ⟨avs, ha⟩ := ih fl e cs' _ hp h2
              exact ⟨(avs, cs'), h1, ha⟩
            obtain ⟨q, hq⟩ := choose_lt each
            obtain ⟨b, off, sp'⟩ := a
            have hspot : sp' = none := by
              obtain ⟨h1, h2⟩ := hq 0 (by omega)
              obtain ⟨_, h3, h4⟩ := World.cells?_some h1
              have h5 := h4 0 hm
              rw [List.getElem?_eq_getElem (by omega)] at h5
              simp only [Nat.zero_mul, Addr.add, if_true] at h5
              unfold World.cell? at h5
              split at h5
              · cases sp' with
                | none => rfl
                | some _ => simp at h5
              · cases h5
            subst hspot
            have hcell : ∀ i j, i < len → j < P.cellsOf e → w.cell? ⟨b, off + i * P.cellsOf e + j, none⟩ = some ((q i).2.getD j undef) := by
              intro i j hi hj
              obtain ⟨h1, h2⟩ := hq i hi
              obtain ⟨_, h3, h4⟩ := World.cells?_some h1
              have h5 := h4 j hj
              rw [add_add] at h5
              have : (⟨b, off, none⟩ : Addr).add (i * P.cellsOf e + j) = ⟨b, off + i * P.cellsOf e + j, none⟩ := by
                unfold Addr.add; split
                · rename_i h0; simp
                · simp [Nat.add_assoc]
              rw [this] at h5
              rw [h5, List.getElem?_eq_getElem (by omega)]
              simp [List.getD, List.getElem?_eq_getElem (show j < (q i).2.length by omega)]
            have hql : ∀ i, i < len → (q i).1.length = P.cellsOf e := fun i hi => by rw [(hq i hi).2.1]; exact (World.cells?_some (hq i hi).1).2.1
            let es : List AV := (List.range len).map fun i => mkVal (tagg P e) (q i).1
            have hes : ∀ i, i < len → es.getD i .dead = mkVal (tagg P e) (q i).1 := fun i hi => by simp [es, List.getD, hi]
            have heq : ∀ i, i < len → cellsOf (es.getD i .dead) = (q i).1 := fun i hi => by rw [hes i hi]; exact typed_mk (hq i hi).2.2.1
            have hel : es.length = len := by simp [es]
            refine ⟨[.sl (P.cellsOf e) es], rfl, .slice hu (by rw [hel]; omega) (fun i hi => ?_) (fun i hi => ?_), fun i hi => ?_⟩
            · rw [hel] at hi; rw [heq i hi]; exact (hq i hi).2.2.1
            · rw [hel] at hi; rw [heq i hi]; exact hes i hi
            · simp only [List.length_cons, List.length_nil] at hi
              obtain rfl : i = 0 := by omega
              refine ⟨?_, rfl⟩
              have hb : b < w.heap.size := by
                have h5 := hcell 0 0 (by omega) hm
                unfold World.cell? at h5
                split at h5
                · rename_i hx; exact (Array.getElem?_eq_some_iff.1 hx).1
                · cases h5
              refine .sl (fun i j => (q i).2.getD j undef) (fun hn => hl0 (by rw [← hel, hn]; rfl)) hel.symm hl (fun h => h) hb hm (fun i hi => ?_) (fun i j hi hj => ?_) (fun i j hi hj => ?_) (fun i j hi hj => ?_)
              · rw [hel] at hi; rw [heq i hi]; exact hql i hi
              · rw [hel] at hi; exact hcell i j hi hj
              · rw [hel] at hi; exact ((hq i hi).2.2.2 j (by rw [hql i hi]; exact hj)).2
              · rw [hel] at hi; rw [heq i hi]; exact ((hq i hi).2.2.2 j (by rw [hql i hi]; exact hj)).1
      | struct fs =>
        simp only [Bool.and_eq_true, List.all_eq_true] at hp
        obtain ⟨hti, hp⟩ := hp
        obtain ⟨xs, fl', _, _, hlen, hxl, hx⟩ := DataW.trod_struct hu h
        have hf : ∀ f, f ∈ fs.toList → ∃ avs, ToldAs P w f.type ((cs.drop f.offset).take (P.cellsOf f.type)) avs ∧ avs.length = P.cellsOf f.type := by
          have hoff : ∀ (fl : List Field) (o m : Nat), tiles P fl o m = true → ∀ f, f ∈ fl → f.offset + P.cellsOf f.type ≤ m := by
            have hup : ∀ (fl : List Field) (o m : Nat), tiles P fl o m = true → o ≤ m := by
              intro fl m
              induction fl generalizing m with
              | nil => intro n h; simp [tiles] at h; omega
              | cons g fl ih => intro n h; simp only [tiles, Bool.and_eq_true, decide_eq_true_eq] at h; have := ih _ _ h.2; omega
            intro fl
            induction fl with
            | nil => intro o m _ f hf; cases hf
            | cons g fl ih =>
              intro o m h f hf
              simp only [tiles, Bool.and_eq_true, decide_eq_true_eq] at h
              simp only [List.mem_cons] at hf
              rcases hf with rfl | hf
              · have := hup _ _ _ h.2; omega
              · exact ih _ _ h.2 f hf
          intro f hf
          obtain ⟨i, hi⟩ := List.getElem?_of_mem hf
          have hb := hoff _ _ _ hti f hf
          have hln : ((cs.drop f.offset).take (P.cellsOf f.type)).length = P.cellsOf f.type := by simp; omega
          obtain ⟨y, hy⟩ : ∃ y, ∃ fl, DataW.trod enc P w 0 sp hd fl f.type ((cs.drop f.offset).take (P.cellsOf f.type)) = some y  := by
            have h1 := hx i f (by simpa using hi)
            have h2 : i < xs.length := by rw [hxl]; have := (List.getElem?_eq_some_iff.1 hi).1; simpa using this
            rw [List.getElem?_eq_getElem h2] at h1
            exact ⟨_, _, h1⟩
          obtain ⟨fl, hy⟩ := hy
          obtain ⟨avs, ha⟩ := ih fl f.type _ y (hp f hf) hy
          exact ⟨avs, ha, by rw [ha.1, hln]⟩
        obtain ⟨avs, l1, t1, r1⟩ := told_fields fs.toList 0 (P.cellsOf t) cs hti (by omega) (Nat.zero_le _) hf
        refine ⟨avs, by rw [l1, hlen]; omega, .strct hu (by rw [l1]; omega) (fun f hf => by simpa using (t1 f hf).2), fun i hi => by simpa using r1 i hi⟩
      | _ => simp at hp
/-- A value handed in, told as data. -/
theorem arg_told {H : Type} {enc : TypeId × Value → H} {w : World} {sp : Nat → Bool} {hd : Bool} {r : Reach} {b0 : Nat} {t : TypeId} {v : Value} {d : DataW H} {ps : List MemPlace} (n : Nat) (hp : plainT P n t = true) (hv : Value.okWide P w r b0 t v) (h : DataW.Trod enc P w 0 sp hd t v d ps) :
    ∃ avs, Typed P t avs ∧ Rep w (fun _ => False) noMap (mkVal (tagg P t) avs) v := by
  obtain ⟨fuel, h⟩ := h
  obtain ⟨avs, hl, ht, hr⟩ := trod_told n fuel t _ _ hp h
  refine ⟨avs, ht, ?_⟩
  have ht' := ht
  cases ht with
  | bool hu =>
    obtain ⟨b, rfl⟩ := okWide_bool hu hv
    have := (hr 0 (by simp)).1
    simpa [tagg, hu, mkVal, Value.cells] using this
  | int hu _ =>
    obtain ⟨b, rfl⟩ := okWide_int hu hv
    have := (hr 0 (by simp)).1
    simpa [tagg, hu, mkVal, Value.cells] using this
  | str hu _ =>
    obtain ⟨b, rfl⟩ := okWide_string hu hv
    have := (hr 0 (by simp)).1
    simpa [tagg, hu, mkVal, Value.cells] using this
  | slice hu _ _ _ =>
    obtain ⟨a, l, c, rfl⟩ := okWide_slice hu hv
    have := (hr 0 (by simp)).1
    simpa [tagg, hu, mkVal, Value.cells] using this
  | strct hu _ _ =>
    obtain ⟨cs, rfl, _⟩ := okWide_struct hu hv
    have hl' : avs.length = cs.size := by simpa [Value.cells] using hl
    simp only [tagg, hu, mkVal, if_true]
    refine .agg hl' fun i hi => ?_
    have := (hr i hi).1
    simpa [Value.cells, List.getD, Array.getD, hl' ▸ hi] using this
theorem typed_int {t : TypeId} {k : IntKind} {avs : List AV} (hu : P.underlying t = some (.int k)) (h : Typed P t avs) : ∃ n, avs = [.int k n] ∧ k.min ≤ n ∧ n ≤ k.max := by
  cases h with
  | int h hw => rw [hu] at h; cases h; exact ⟨_, rfl, (Lit.wf_int_iff _ _).1 hw⟩
  | bool h => rw [hu] at h; cases h
  | str h _ => rw [hu] at h; cases h
  | slice h _ _ _ => rw [hu] at h; cases h
  | strct h _ _ => rw [hu] at h; cases h
theorem typed_bool {t : TypeId} {avs : List AV} (hu : P.underlying t = some .bool) (h : Typed P t avs) : ∃ b, avs = [.bool b] := by
  cases h with
  | bool h => exact ⟨_, rfl⟩
  | int h hw => rw [hu] at h; cases h
  | str h _ => rw [hu] at h; cases h
  | slice h _ _ _ => rw [hu] at h; cases h
  | strct h _ _ => rw [hu] at h; cases h
theorem typed_str {t : TypeId} {avs : List AV} (hu : P.underlying t = some .string) (h : Typed P t avs) : ∃ s, avs = [.str s] ∧ s.length ≤ maxLen := by
  cases h with
  | str h hw => exact ⟨_, rfl, hw⟩
  | int h hw => rw [hu] at h; cases h
  | bool h => rw [hu] at h; cases h
  | slice h _ _ _ => rw [hu] at h; cases h
  | strct h _ _ => rw [hu] at h; cases h
theorem typed_strct {t : TypeId} {fs : Array Field} {avs : List AV} (hu : P.underlying t = some (.struct fs)) (h : Typed P t avs) : avs.length = P.cellsOf t ∧ ∀ f, f ∈ fs.toList → Typed P f.type ((avs.drop f.offset).take (P.cellsOf f.type)) := by
  cases h with
  | strct h hl hf => rw [hu] at h; cases h; exact ⟨hl, hf⟩
  | int h hw => rw [hu] at h; cases h
  | bool h => rw [hu] at h; cases h
  | slice h _ _ _ => rw [hu] at h; cases h
  | str h _ => rw [hu] at h; cases h
/-- A row, its elements told. -/
theorem typed_list {α : Type} {f : α → AV} {Q : α → Prop} {t e : TypeId} {avs : List AV} (hu : P.underlying t = some (.slice e)) (he : ∀ bs, Typed P e bs → ∃ x, mkVal (tagg P e) bs = f x ∧ Q x) (h : Typed P t avs) :
    ∃ l : List α, avs = [.sl (P.cellsOf e) (l.map f)] ∧ l.length ≤ maxLen ∧ ∀ x ∈ l, Q x := by
  cases h with
  | @slice t e' es h hl h1 h2 =>
    rw [hu] at h; cases h
    have key : ∀ es : List AV, (∀ i, i < es.length → Typed P e (cellsOf (es.getD i .dead))) → (∀ i, i < es.length → es.getD i .dead = mkVal (tagg P e) (cellsOf (es.getD i .dead))) → ∃ l : List α, es = l.map f ∧ ∀ x ∈ l, Q x := by
      intro es
      induction es with
      | nil => intro _ _; exact ⟨[], rfl, by simp⟩
      | cons c es ih =>
        intro h1 h2
        obtain ⟨l, rfl, hq⟩ := ih (fun i hi => by simpa using h1 (i + 1) (by simpa using hi)) (fun i hi => by simpa using h2 (i + 1) (by simpa using hi))
        obtain ⟨x, hx, hqx⟩ := he _ (h1 0 (by simp))
        have h0 := h2 0 (by simp)
        simp only [List.getD_cons_zero] at h0 hx
        refine ⟨x :: l, by rw [List.map_cons, ← hx, ← h0], ?_⟩
        intro y hy
        simp only [List.mem_cons] at hy
        rcases hy with rfl | hy
        · exact hqx
        · exact hq y hy
    obtain ⟨l, rfl, hq⟩ := key es h1 h2
    exact ⟨l, rfl, by simpa using hl, hq⟩
  | int h hw => rw [hu] at h; cases h
  | bool h => rw [hu] at h; cases h
  | strct h _ _ => rw [hu] at h; cases h
  | str h _ => rw [hu] at h; cases h
theorem len2 {avs : List AV} (h : avs.length = 2) : ∃ a b, avs = [a, b] := by
  match avs, h with
  | [a, b], _ => exact ⟨a, b, rfl⟩
theorem len3 {avs : List AV} (h : avs.length = 3) : ∃ a b c, avs = [a, b, c] := by
  match avs, h with
  | [a, b, c], _ => exact ⟨a, b, c, rfl⟩
theorem len4 {avs : List AV} (h : avs.length = 4) : ∃ a b c d, avs = [a, b, c, d] := by
  match avs, h with
  | [a, b, c, d], _ => exact ⟨a, b, c, d, rfl⟩
end
end Go.Proofs.YtdcgfapededocaaGreat


namespace Go.Proofs.YtdcgfapededocaaGreat
open Go
set_option maxRecDepth 100000
set_option linter.unusedSimpArgs false
set_option linter.unusedVariables false
theorem wrap_id {n : Int} (h : -9223372036854775808 ≤ n ∧ n < 9223372036854775808) : IntKind.i64.wrap n = n := by
  rw [IntKind.wrap_i64]; omega
def In64 (n : Int) : Prop := -9223372036854775808 ≤ n ∧ n < 9223372036854775808
abbrev Tx := List UInt8
theorem u8_id {n : Int} (h : 0 ≤ n ∧ n < 256) : IntKind.u8.wrap n = n := by
  rw [IntKind.wrap_u8]; omega
/-- The seat's code, read without what is walked by hand. -/
noncomputable def CZ : Ctx := { P := Tryz.prog, A := annA, X := fun _ _ _ => none }
theorem CZ_P : CZ.P = Tryz.prog := rfl
theorem CZ_A : CZ.A = annA := rfl
attribute [go_sem] CZ_P CZ_A
end Go.Proofs.YtdcgfapededocaaGreat



namespace Go.Proofs.YtdcgfapededocaaGreat
open Go
/-- Copies of slices without elements. -/
def cloneOf (f : FuncId) : Option Blk :=
  if f = 153 then some ⟨false, 9, 1, [], none⟩ else
  none
noncomputable def X0 (f : FuncId) (args : List AV) (H : List (Id × Blk)) : Option Res :=
  if f = 116 then (match H with | [] => readX args | _ => none) else
  match args, H with
  | [.sl _ []], [] => (cloneOf f).map fun b => { val := .ref [0, 0, 0, 0] 0 0, own := [b] }
  | _, _ => none
noncomputable def CX : Ctx := { P := Tryz.prog, A := annA, X := X0 }
theorem CX_P : CX.P = Tryz.prog := rfl
theorem CX_A : CX.A = annA := rfl
attribute [go_sem] CX_P CX_A
end Go.Proofs.YtdcgfapededocaaGreat



namespace Go.Proofs.YtdcgfapededocaaGreat
open Go
set_option maxRecDepth 100000
set_option linter.unusedSimpArgs false
set_option linter.unusedVariables false
theorem cut_at {α : Type} {l : List α} {n : Nat} (h : n < l.length) : ∃ y u, l[n] = y ∧ l.drop n = y :: u ∧ l.drop (n + 1) = u := ⟨l[n], l.drop (n + 1), rfl, List.drop_eq_getElem_cons h, rfl⟩
theorem eqStringS_E (a b : List Tx) (ha : a.length ≤ 1073741824) : E CX 98 [.sl 1 (a.map .str), .sl 1 (b.map .str)] [] = some { val := .bool (decide (a = b)) } := by
  refine E_fin Tryz.f98 _ an98 rfl rfl rfl Tryz.func98 rfl (by kernel_rfl) ?_
  by_cases hl : a.length = b.length
  · simp [go_sem, hl]
    refine loop_list (fun X => fin CX _ _ X = _) a (fun n _ => True) (fun n (_ : Unit) => ⟨SS [(0, .sl 1 (a.map .str)), (1, .sl 1 (b.map .str)), (5, .int .i64 n)], HE⟩) (fun l n _ => if l = b.drop n then (.exit 0, ⟨SS [], HE⟩) else (.ret, ⟨SS [(4, .bool false)], HE⟩)) () trivial ?_ ?_ ?_ ?_ ?_
    · simp [go_sem]
    · intro n _ x t hn hx hd _
      have hn' : n < b.length := by omega
      obtain ⟨y, u, hy, hu, hu'⟩ := cut_at hn'
      have hx := hx hn
      by_cases hxy : x = y
      · simp [go_sem, hn, hn', hx, hy, hxy, hu, hu', wrap_id (n := (n : Int) + 1) (by omega)]
      · simp [go_sem, hn, hn', hx, hy, hxy, hu, hu']
    · intro _ _; simp [go_sem, hl]
    · intro _; simp [hl]
    · by_cases h : a = b <;> simp [go_sem, h]
  · have : a ≠ b := fun h => hl (by rw [h])
    have hl' : ¬ ((a.length : Int) = b.length) := by omega
    simp [go_sem, hl', this]
theorem fill_set {α β : Type} (f : α → β) (a : List α) (z : β) (n : Nat) (h : n < a.length) : ((a.map f).take n ++ List.replicate (a.length - n) z).set n (f a[n]) = (a.map f).take (n + 1) ++ List.replicate (a.length - (n + 1)) z := by
  obtain ⟨m, hm⟩ : ∃ m, a.length - n = m + 1 := ⟨a.length - n - 1, by omega⟩
  have hl : ((a.map f).take n).length = n := by simp; omega
  rw [hm, show a.length - (n + 1) = m by omega, List.replicate_succ, List.set_append_right _ _ (by omega), hl, Nat.sub_self, List.set_cons_zero, ← List.take_append_getElem (l := a.map f) (i := n) (by simpa using h), List.append_assoc, List.getElem_map]
  rfl
theorem fill_get {α β : Type} (f : α → β) (a : List α) (z : β) (n : Nat) (h : n < a.length) : ((a.map f).take n ++ List.replicate (a.length - n) z)[n]? = some z := by
  obtain ⟨m, hm⟩ : ∃ m, a.length - n = m + 1 := ⟨a.length - n - 1, by omega⟩
  have hl : ((a.map f).take n).length = n := by simp; omega
  rw [List.getElem?_append_right (by omega), hl, Nat.sub_self, hm]
  rfl
theorem fill_get' {α β : Type} (f : α → β) (a : List α) (z : β) (n : Nat) (h : n < a.length) (h' : n < ((a.map f).take n ++ List.replicate (a.length - n) z).length) : ((a.map f).take n ++ List.replicate (a.length - n) z)[n]'h' = z := by
  have := fill_get f a z n h
  rw [List.getElem?_eq_getElem h'] at this
  exact Option.some.inj this
theorem fill_full {α β : Type} (f : α → β) (a : List α) : (a.map f).take a.length = a.map f := List.take_of_length_le (by simp)
theorem fill_len {n m : Nat} (h : n < m) : n < min n m + (m - n) := by omega
theorem toStringS_E (a : List Tx) (ha : a.length ≤ 1073741824) : E CX 76 [.sl 1 (a.map .str)] [] = some { val := .ref [0, 0, 0, 0] 0 a.length, own := [⟨false, 9, 1, a.map .str, none⟩] } := by
  refine E_fin Tryz.f76 _ an76 rfl rfl rfl Tryz.func76 rfl (by kernel_rfl) ?_
  simp [go_sem, show (16 : Int) * a.length ≤ 140737488355328 by omega, show (a.length : Int) < 9223372036854775808 by omega]
  refine loop_list (fun X => fin CX _ _ X = _) a (fun n _ => True) (fun n (_ : Unit) => ⟨SS [(0, .sl 1 (a.map .str)), (3, .ref [7] 0 a.length), (4, .int .i64 n)], HS [([7], ⟨false, 9, 1, (a.map .str).take n ++ List.replicate (a.length - n) (.str []), none⟩)]⟩) (fun l n _ => (.exit 0, ⟨SS [(3, .ref [7] 0 a.length)], HS [([7], ⟨false, 9, 1, a.map .str, none⟩)]⟩)) () trivial ?_ ?_ ?_ ?_ ?_
  · simp [go_sem]
  · intro n _ x t hn hx hd _
    have hx := hx hn
    have hs := fill_set AV.str a (.str []) n hn
    have hz := fill_get AV.str a (.str []) n hn
    rw [hx] at hs
    simp [go_sem, hn, hx, hs, hz, fill_get' AV.str a (.str []) n hn, fill_len hn, wrap_id (n := (n : Int) + 1) (by omega)]
  · intro _ _; simp [go_sem, fill_full]
  · intro _; simp
  · simp [go_sem]
theorem sharesL_app : ∀ (a b : List AV), AV.sharesL (a ++ b) = (AV.sharesL a || AV.sharesL b) := by
  intro a b
  induction a with
  | nil => simp [AV.sharesL]
  | cons c a ih => simp [AV.sharesL, ih, Bool.or_assoc]
theorem sharesL_map {α : Type} {f : α → AV} (h : ∀ x, (f x).shares = false) : ∀ l : List α, AV.sharesL (l.map f) = false := by
  intro l
  induction l with
  | nil => rfl
  | cons c l ih => simp [AV.sharesL, h, ih]
theorem sharesL_rep (v : AV) (h : v.shares = false) : ∀ n, AV.sharesL (List.replicate n v) = false := by
  intro n
  induction n with
  | zero => rfl
  | succ n ih => simp [List.replicate_succ, AV.sharesL, h, ih]
theorem sharesL_str (l : List Tx) : AV.sharesL (l.map .str) = false := sharesL_map (fun _ => rfl) l
theorem sharesL_int (l : List Int) : AV.sharesL (l.map (.int .i64)) = false := sharesL_map (fun _ => rfl) l
attribute [go_sem] fill_full List.take_of_length_le sharesL_app sharesL_str sharesL_int
end Go.Proofs.YtdcgfapededocaaGreat



namespace Go.Proofs.YtdcgfapededocaaGreat
open Go
set_option maxRecDepth 100000
def inn (n lo hi : Int) : Bool := decide (lo ≤ n) && decide (n ≤ hi)
theorem within_E (n lo hi : Int) : E CX 36 [.int .i64 n, .int .i64 lo, .int .i64 hi] [] = some { val := .bool (inn n lo hi) } := by
  refine E_fin Tryz.f36 _ an36 rfl rfl rfl Tryz.func36 rfl (by kernel_rfl) ?_
  by_cases h : lo ≤ n <;> simp [go_sem, h, inn]
theorem l01In_E (n lo hi : Int) : E CX 27 [.int .i64 n, .int .i64 lo, .int .i64 hi] [] = some { val := .bool (inn n lo hi) } := by
  refine E_fin Tryz.f27 _ an27 rfl rfl rfl Tryz.func27 rfl (by kernel_rfl) ?_
  by_cases h : lo ≤ n <;> simp [go_sem, h, inn]
theorem isHost_E (n : Int) : E CX 49 [.int .i64 n] [] = some { val := .bool (inn n 0 3) } := by
  refine E_fin Tryz.f49 _ an49 rfl rfl rfl Tryz.func49 rfl (by kernel_rfl) ?_
  simp [go_sem, within_E]
theorem isPlace_E (n : Int) : E CX 85 [.int .i64 n] [] = some { val := .bool (inn n 0 63) } := by
  refine E_fin Tryz.f85 _ an85 rfl rfl rfl Tryz.func85 rfl (by kernel_rfl) ?_
  simp [go_sem, within_E]
theorem isSector_E (s : List UInt8) : E CX 82 [.str s] [] = some { val := .bool (decide (s.length ≤ 80)) } := by
  refine E_fin Tryz.f82 _ an82 rfl rfl rfl Tryz.func82 rfl (by kernel_rfl) ?_
  simp [go_sem]
  omega
def ioOK (x : Io) : Bool := inn x.host 0 3 && inn x.at_ 0 63 && decide (x.data.length ≤ 80)
theorem l01Io_E (x : Io) : E CX 70 [eIo x] [] = some { val := .bool (ioOK x) } := by
  refine E_fin Tryz.f70 _ an70 rfl rfl rfl Tryz.func70 rfl (by kernel_rfl) ?_
  obtain ⟨h, a, d⟩ := x
  cases h1 : inn h 0 3 <;> cases h2 : inn a 0 63 <;> simp [go_sem, eIo, l01In_E, h1, h2, ioOK]
  all_goals omega
def firstAt {α : Type} (q : α → Bool) : List α → Nat → Option Nat
  | [], _ => none
  | x :: l, n => if q x then some n else firstAt q l (n + 1)
def idxOf (o : Option Nat) : Int := match o with
  | some k => k
  | none => -1
end Go.Proofs.YtdcgfapededocaaGreat



namespace Go.Proofs.YtdcgfapededocaaGreat
open Go
set_option maxRecDepth 100000
set_option linter.unusedSimpArgs false
set_option linter.unusedVariables false
def top : Nat := 9223372036854775807
def szS {α : Type} (f : α → Nat) : Int → List α → Int
  | left, [] => left
  | left, x :: l => if left - f x < 0 then -1 else szS f (left - f x) l
def szL {α : Type} (f : α → Nat) (left : Int) (l : List α) : Int := if left - l.length < 0 then -1 else szS f (left - l.length) l
theorem szS_bound {α : Type} (f : α → Nat) : ∀ (l : List α) (left : Int), 0 ≤ left → 0 ≤ szS f left l → szS f left l ≤ left ∧ ∀ x ∈ l, (f x : Int) ≤ left := by
  intro l
  induction l with
  | nil => intro left h _; exact ⟨Int.le_refl _, by simp⟩
  | cons x l ih =>
    intro left h h2
    unfold szS at h2 ⊢
    by_cases hx : left - f x < 0
    · simp [hx] at h2
    · simp only [hx, if_false] at h2 ⊢
      obtain ⟨h3, h4⟩ := ih (left - f x) (by omega) h2
      refine ⟨by omega, fun y hy => ?_⟩
      simp only [List.mem_cons] at hy
      rcases hy with rfl | hy
      · omega
      · have := h4 y hy; omega
theorem szS_neg {α : Type} (f : α → Nat) : ∀ (l : List α) (left : Int), 0 ≤ left → szS f left l < 0 → szS f left l = -1 := by
  intro l
  induction l with
  | nil => intro left h h2; simp [szS] at h2; omega
  | cons x l ih =>
    intro left h h2
    unfold szS at h2 ⊢
    by_cases hx : left - f x < 0
    · simp [hx]
    · simp only [hx, if_false] at h2 ⊢
      exact ih _ (by omega) h2
theorem szL_bound {α : Type} (f : α → Nat) (l : List α) (left : Int) (h : 0 ≤ left) (h2 : 0 ≤ szL f left l) : szL f left l ≤ left ∧ (l.length : Int) ≤ left ∧ ∀ x ∈ l, (f x : Int) ≤ left := by
  unfold szL at h2 ⊢
  by_cases hl : left - l.length < 0
  · simp [hl] at h2
  · simp only [hl, if_false] at h2 ⊢
    obtain ⟨h3, h4⟩ := szS_bound f l _ (by omega) h2
    exact ⟨by omega, by omega, fun x hx => by have := h4 x hx; omega⟩
theorem szStringS_E (a : List Tx) (left : Int) (hl : 0 ≤ left ∧ left ≤ 1099511627776) (ha : a.length ≤ top) (hs : ∀ s ∈ a, s.length ≤ top) : E CX 66 [.sl 1 (a.map .str), .int .i64 left] [] = some { val := .int .i64 (szL List.length left a) } := by
  unfold top at ha hs
  refine E_fin Tryz.f66 _ an66 rfl rfl rfl Tryz.func66 rfl (by kernel_rfl) ?_
  by_cases h0 : left - a.length < 0
  · simp [go_sem, wrap_id (n := left - a.length) (by omega), h0, szL]
  · simp [go_sem, wrap_id (n := left - a.length) (by omega), h0, szL]
    refine loop_list (fun X => fin CX _ _ X = _) a (fun n left => 0 ≤ left ∧ left ≤ 1099511627776) (fun n left => ⟨SS [(0, .sl 1 (a.map .str)), (1, .int .i64 left), (5, .int .i64 n)], HE⟩) (fun l n left => if szS List.length left l < 0 then (.ret, ⟨SS [(4, .int .i64 (-1))], HE⟩) else (.exit 0, ⟨SS [(1, .int .i64 (szS List.length left l))], HE⟩)) (left - a.length) (by omega) ?_ ?_ ?_ ?_ ?_
    · simp [go_sem]
    · intro n left x t hn hx hd hI
      have hx := hx hn
      have hxl := hs x (by rw [← hx]; exact List.getElem_mem hn)
      by_cases h1 : left - x.length < 0
      · simp [go_sem, hn, hx, wrap_id (n := left - x.length) (by omega), h1, szS]
      · simp [go_sem, hn, hx, wrap_id (n := left - x.length) (by omega), h1, szS, wrap_id (n := (n : Int) + 1) (by omega)]
        refine ⟨_, ⟨?_, ?_⟩, rfl, rfl⟩ <;> omega
    · intro left hI; simp [go_sem, szS, show ¬ left < 0 by omega]
    · intro left; by_cases hq : left < 0 <;> simp [szS, hq]
    · by_cases h1 : szS List.length (left - a.length) a < 0
      · have := szS_neg List.length a (left - a.length) (by omega) h1
        simp [go_sem, h1, this]
      · simp [go_sem, h1]
end Go.Proofs.YtdcgfapededocaaGreat



namespace Go.Proofs.YtdcgfapededocaaGreat
open Go
set_option maxRecDepth 100000
set_option linter.unusedSimpArgs false
set_option linter.unusedVariables false
theorem sharesL_eIo (l : List Io) : AV.sharesL (l.map eIo) = false := sharesL_map (fun _ => by simp [eIo, go_sem]) l
theorem sharesL_repeIo (n : Nat) (x : Io) : AV.sharesL (List.replicate n (eIo x)) = false := sharesL_rep _ (by simp [eIo, go_sem]) n
attribute [go_sem] sharesL_eIo sharesL_repeIo
theorem eqIo_E (a b : Io) : E CX 159 [eIo a, eIo b] [] = some { val := .bool (decide (a = b)) } := by
  refine E_fin Tryz.f159 _ an159 rfl rfl rfl Tryz.func159 rfl (by kernel_rfl) ?_
  obtain ⟨a0, a1, a2⟩ := a
  obtain ⟨b0, b1, b2⟩ := b
  by_cases c0 : a0 = b0
  · by_cases c1 : a1 = b1
    · by_cases c2 : a2 = b2
      · simp [go_sem, eIo, c0, c1, c2]
      · simp [go_sem, eIo, c0, c1, c2]
    · simp [go_sem, eIo, c0, c1]
  · simp [go_sem, eIo, c0]
theorem eqIoS_E (a b : List Io) (ha : a.length ≤ 1073741824) : E CX 99 [.sl 3 (a.map eIo), .sl 3 (b.map eIo)] [] = some { val := .bool (decide (a = b)) } := by
  refine E_fin Tryz.f99 _ an99 rfl rfl rfl Tryz.func99 rfl (by kernel_rfl) ?_
  by_cases hl : a.length = b.length
  · simp [go_sem, hl]
    refine loop_list (fun X => fin CX _ _ X = _) a (fun n _ => True) (fun n (_ : Unit) => ⟨SS [(0, .sl 3 (a.map eIo)), (1, .sl 3 (b.map eIo)), (5, .int .i64 n)], HE⟩) (fun l n _ => if l = b.drop n then (.exit 0, ⟨SS [], HE⟩) else (.ret, ⟨SS [(4, .bool false)], HE⟩)) () trivial ?_ ?_ ?_ ?_ ?_
    · simp [go_sem]
    · intro n _ x t hn hx hd _
      have hn' : n < b.length := by omega
      obtain ⟨y, u, hy, hu, hu'⟩ := cut_at hn'
      have hx := hx hn
      by_cases hxy : x = y
      · subst hxy
        have hE := eqIo_E x x
        simp only [eIo] at hE
        simp [go_sem, hn, hn', hx, hy, hu, hu', eIo, hE, wrap_id (n := (n : Int) + 1) (by omega)]
      · have hE := eqIo_E x y
        simp only [eIo] at hE
        simp [go_sem, hn, hn', hx, hy, hu, hu', eIo, hE, hxy]
    · intro _ _; simp [go_sem, hl]
    · intro _; simp [hl]
    · by_cases h : a = b <;> simp [go_sem, h]
  · have : a ≠ b := fun h => hl (by rw [h])
    have hl' : ¬ ((a.length : Int) = b.length) := by omega
    simp [go_sem, hl', this]
theorem toIo_E (a : Io) : E CX 143 [eIo a] [] = some { val := eIo a } := by
  refine E_fin Tryz.f143 _ an143 rfl rfl rfl Tryz.func143 rfl (by kernel_rfl) ?_
  simp [go_sem, eIo]
theorem toIoS_E (a : List Io) (ha : a.length ≤ 1073741824) : E CX 77 [.sl 3 (a.map eIo)] [] = some { val := .ref [0, 0, 0, 0] 0 a.length, own := [⟨false, 105, 3, a.map eIo, none⟩] } := by
  refine E_fin Tryz.f77 _ an77 rfl rfl rfl Tryz.func77 rfl (by kernel_rfl) ?_
  simp [go_sem, show (32 : Int) * a.length ≤ 140737488355328 by omega, show (a.length : Int) < 9223372036854775808 by omega]
  refine loop_list (fun X => fin CX _ _ X = _) a (fun n _ => True) (fun n (_ : Unit) => ⟨SS [(0, .sl 3 (a.map eIo)), (3, .ref [7] 0 a.length), (4, .int .i64 n)], HS [([7], ⟨false, 105, 3, (a.map eIo).take n ++ List.replicate (a.length - n) (.agg [.int .i64 0, .int .i64 0, .str []]), none⟩)]⟩) (fun l n _ => (.exit 0, ⟨SS [(3, .ref [7] 0 a.length)], HS [([7], ⟨false, 105, 3, a.map eIo, none⟩)]⟩)) () trivial ?_ ?_ ?_ ?_ ?_
  · simp [go_sem]
  · intro n _ x t hn hx hd _
    have hx := hx hn
    have hs := fill_set eIo a (.agg [.int .i64 0, .int .i64 0, .str []]) n hn
    rw [hx] at hs
    have hz := fill_get eIo a (.agg [.int .i64 0, .int .i64 0, .str []]) n hn
    have hE := toIo_E x
    simp only [eIo] at hE hs hz
    simp [go_sem, hn, hx, eIo, hE, hs, hz, fill_get' _ a (AV.agg [.int .i64 0, .int .i64 0, .str []]) n hn, fill_len hn, wrap_id (n := (n : Int) + 1) (by omega)]
  · intro _ _; simp [go_sem, fill_full]
  · intro _; simp
  · simp [go_sem]
theorem szIo_E (x : Io) (left : Int) (hl : 0 ≤ left ∧ left ≤ 1099511627776) (hs : x.data.length ≤ top) : E CX 140 [eIo x, .int .i64 left] [] = some { val := .int .i64 (if left - x.data.length < 0 then -1 else left - x.data.length) } := by
  unfold top at hs
  refine E_fin Tryz.f140 _ an140 rfl rfl rfl Tryz.func140 rfl (by kernel_rfl) ?_
  by_cases h1 : left - x.data.length < 0
  · simp [go_sem, eIo, wrap_id (n := left - x.data.length) (by omega), h1]
  · simp [go_sem, eIo, wrap_id (n := left - x.data.length) (by omega), h1]
theorem szIoS_E (a : List Io) (left : Int) (hl : 0 ≤ left ∧ left ≤ 1099511627776) (ha : a.length ≤ top) (hs : ∀ x ∈ a, x.data.length ≤ top) : E CX 67 [.sl 3 (a.map eIo), .int .i64 left] [] = some { val := .int .i64 (szL (fun x : Io => x.data.length) left a) } := by
  have ha' : a.length ≤ 9223372036854775807 := ha
  refine E_fin Tryz.f67 _ an67 rfl rfl rfl Tryz.func67 rfl (by kernel_rfl) ?_
  by_cases h0 : left - a.length < 0
  · simp [go_sem, wrap_id (n := left - a.length) (by omega), h0, szL]
  · simp [go_sem, wrap_id (n := left - a.length) (by omega), h0, szL]
    refine loop_list (fun X => fin CX _ _ X = _) a (fun n left => 0 ≤ left ∧ left ≤ 1099511627776) (fun n left => ⟨SS [(0, .sl 3 (a.map eIo)), (1, .int .i64 left), (5, .int .i64 n)], HE⟩) (fun l n left => if szS (fun x : Io => x.data.length) left l < 0 then (.ret, ⟨SS [(4, .int .i64 (-1))], HE⟩) else (.exit 0, ⟨SS [(1, .int .i64 (szS (fun x : Io => x.data.length) left l))], HE⟩)) (left - a.length) (by omega) ?_ ?_ ?_ ?_ ?_
    · simp [go_sem]
    · intro n left x t hn hx hd hI
      have hx := hx hn
      have hE := szIo_E x left hI (hs x (by rw [← hx]; exact List.getElem_mem hn))
      simp only [eIo] at hE
      by_cases h1 : left - x.data.length < 0
      · simp [go_sem, hn, hx, eIo, hE, h1, szS]
      · simp [go_sem, hn, hx, eIo, hE, h1, szS, wrap_id (n := (n : Int) + 1) (by omega)]
        refine ⟨_, ⟨?_, ?_⟩, rfl, rfl⟩ <;> omega
    · intro left hI; simp [go_sem, szS, show ¬ left < 0 by omega]
    · intro left; by_cases hq : left < 0 <;> simp [szS, hq]
    · by_cases h1 : szS (fun x : Io => x.data.length) (left - a.length) a < 0
      · have := szS_neg (fun x : Io => x.data.length) a _ (by omega) h1
        simp [go_sem, h1, this]
      · simp [go_sem, h1]
end Go.Proofs.YtdcgfapededocaaGreat



namespace Go.Proofs.YtdcgfapededocaaGreat
open Go
set_option maxRecDepth 100000
set_option linter.unusedSimpArgs false
set_option linter.unusedVariables false
structure Disk where
  ss : List Tx
  ps : List Io
  deriving Inhabited, DecidableEq
def eDisk (d : Disk) : AV := .agg [.sl 1 (d.ss.map .str), .sl 3 (d.ps.map eIo)]
def ioLen (x : Io) : Nat := x.data.length
def szD (left : Int) (d : Disk) : Int := if szL List.length left d.ss < 0 then -1 else szL (fun x : Io => x.data.length) (szL List.length left d.ss) d.ps
theorem szL_neg {α : Type} (f : α → Nat) (l : List α) (left : Int) (h : 0 ≤ left) (h2 : szL f left l < 0) : szL f left l = -1 := by
  unfold szL at h2 ⊢
  by_cases hl : left - l.length < 0
  · simp [hl]
  · simp only [hl, if_false] at h2 ⊢
    exact szS_neg f l _ (by omega) h2
/-- What is handed in fits the machine. -/
structure Fits (d : Disk) : Prop where
  ss : d.ss.length ≤ top
  s : ∀ s ∈ d.ss, s.length ≤ top
  ps : d.ps.length ≤ top
  p : ∀ x ∈ d.ps, x.data.length ≤ top ∧ In64 x.host ∧ In64 x.at_
theorem szDisk_E (d : Disk) (left : Int) (hl : 0 ≤ left ∧ left ≤ 1099511627776) (hf : Fits d) : E CX 21 [eDisk d, .int .i64 left] [] = some { val := .int .i64 (szD left d) } := by
  refine E_fin Tryz.f21 _ an21 rfl rfl rfl Tryz.func21 rfl (by kernel_rfl) ?_
  have h1 := szStringS_E d.ss left hl hf.ss hf.s
  by_cases c1 : szL List.length left d.ss < 0
  · simp [go_sem, eDisk, h1, szD, c1]
  · have hb := szL_bound List.length d.ss left (by omega) (by omega)
    have h2 := szIoS_E d.ps (szL List.length left d.ss) (by omega) hf.ps (fun x hx => (hf.p x hx).1)
    by_cases c2 : szL (fun x : Io => x.data.length) (szL List.length left d.ss) d.ps < 0
    · have := szL_neg _ d.ps _ (by omega) c2
      simp [go_sem, eDisk, h1, h2, szD, c1, this]
    · simp [go_sem, eDisk, h1, h2, szD, c1, c2]
/-- What is small enough is bounded. -/
theorem szD_bound (d : Disk) (left : Int) (h : 0 ≤ left) (h2 : 0 ≤ szD left d) : szD left d ≤ left ∧ (d.ss.length : Int) ≤ left ∧ (d.ps.length : Int) ≤ left ∧ (∀ s ∈ d.ss, (s.length : Int) ≤ left) ∧ ∀ x ∈ d.ps, (x.data.length : Int) ≤ left := by
  unfold szD at h2 ⊢
  by_cases c1 : szL List.length left d.ss < 0
  · simp [c1] at h2
  · simp only [c1, if_false] at h2 ⊢
    obtain ⟨b1, b2, b3⟩ := szL_bound List.length d.ss left h (by omega)
    obtain ⟨b4, b5, b6⟩ := szL_bound _ d.ps _ (by omega) h2
    exact ⟨by omega, b2, by omega, b3, fun x hx => by have := b6 x hx; omega⟩
theorem toDisk_E (d : Disk) (h1 : d.ss.length ≤ 1073741824) (h2 : d.ps.length ≤ 1073741824) : E CX 30 [eDisk d] [] = some { val := .agg [.ref [0, 0, 0, 0] 0 d.ss.length, .ref [1, 0, 0, 0] 0 d.ps.length], own := [⟨false, 9, 1, d.ss.map .str, none⟩, ⟨false, 105, 3, d.ps.map eIo, none⟩] } := by
  refine E_fin Tryz.f30 _ an30 rfl rfl rfl Tryz.func30 rfl (by kernel_rfl) ?_
  simp [go_sem, eDisk, toStringS_E d.ss h1, toIoS_E d.ps h2]
theorem eqDisk_E (a b : Disk) (h1 : a.ss.length ≤ 1073741824) (h2 : a.ps.length ≤ 1073741824) : E CX 41 [eDisk a, eDisk b] [] = some { val := .bool (decide (a = b)) } := by
  refine E_fin Tryz.f41 _ an41 rfl rfl rfl Tryz.func41 rfl (by kernel_rfl) ?_
  have e1 := eqStringS_E a.ss b.ss h1
  have e2 := eqIoS_E a.ps b.ps h2
  obtain ⟨s, p⟩ := a
  obtain ⟨s', p'⟩ := b
  simp only at e1 e2
  by_cases c1 : s = s'
  · subst c1
    by_cases c2 : p = p'
    · subst c2
      simp [go_sem, eDisk, e1, e2]
    · simp [go_sem, eDisk, e1, e2, c2]
  · simp [go_sem, eDisk, e1, c1]
end Go.Proofs.YtdcgfapededocaaGreat



namespace Go.Proofs.YtdcgfapededocaaGreat
open Go
set_option maxRecDepth 100000
set_option linter.unusedSimpArgs false
set_option linter.unusedVariables false
structure Move where
  kind : Int
  at_ : Int
  data : List UInt8
  deriving Inhabited, DecidableEq
end Go.Proofs.YtdcgfapededocaaGreat



namespace Go.Proofs.YtdcgfapededocaaGreat
open Go
set_option maxRecDepth 100000
theorem in64_of {n : Int} (h : IntKind.i64.min ≤ n ∧ n ≤ IntKind.i64.max) : In64 n := by
  rw [show IntKind.i64.min = -9223372036854775808 from rfl, show IntKind.i64.max = 9223372036854775807 from rfl] at h
  unfold In64; omega
theorem cells_int : Tryz.prog.cellsOf 3 = 1 := by kernel_rfl
theorem cells_str : Tryz.prog.cellsOf 9 = 1 := by kernel_rfl
theorem told_str : ∀ bs, Typed Tryz.prog 9 bs → ∃ x : Tx, mkVal (tagg Tryz.prog 9) bs = .str x ∧ x.length ≤ top := by
  intro bs h
  obtain ⟨s, rfl, hs⟩ := typed_str Tryz.underlying9 h
  exact ⟨s, by rw [show tagg Tryz.prog 9 = false by kernel_rfl]; rfl, hs⟩
theorem told_Io : ∀ bs, Typed Tryz.prog 160 bs → ∃ x : Io, mkVal (tagg Tryz.prog 160) bs = eIo x ∧ x.data.length ≤ top ∧ In64 x.host ∧ In64 x.at_ := by
  intro bs h
  obtain ⟨hl, hf⟩ := typed_strct Tryz.underlying160 h
  rw [show Tryz.prog.cellsOf 160 = 3 by kernel_rfl] at hl
  obtain ⟨a, b, c, rfl⟩ := len3 hl
  simp [cells_int, cells_str] at hf
  obtain ⟨h0, h1, h2⟩ := hf
  obtain ⟨x0, e0, w0⟩ := typed_int Tryz.underlying3 h0
  obtain ⟨x1, e1, w1⟩ := typed_int Tryz.underlying3 h1
  obtain ⟨x2, e2, w2⟩ := typed_str Tryz.underlying9 h2
  cases e0; cases e1; cases e2
  refine ⟨⟨x0, x1, x2⟩, by rw [show tagg Tryz.prog 160 = true by kernel_rfl]; rfl, w2, in64_of w0, in64_of w1⟩
theorem told_Disk : ∀ bs, Typed Tryz.prog 25 bs → ∃ x : Disk, mkVal (tagg Tryz.prog 25) bs = eDisk x ∧ Fits x := by
  intro bs h
  obtain ⟨hl, hf⟩ := typed_strct Tryz.underlying25 h
  rw [show Tryz.prog.cellsOf 25 = 2 by kernel_rfl] at hl
  obtain ⟨a, b, rfl⟩ := len2 hl
  simp [show Tryz.prog.cellsOf 22 = 1 by kernel_rfl, show Tryz.prog.cellsOf 23 = 1 by kernel_rfl] at hf
  obtain ⟨h0, h1⟩ := hf
  obtain ⟨x0, e0, w0, q0⟩ := typed_list Tryz.underlying22 told_str h0
  obtain ⟨x1, e1, w1, q1⟩ := typed_list Tryz.underlying23 told_Io h1
  rw [cells_str] at e0
  rw [show Tryz.prog.cellsOf 160 = 3 by kernel_rfl] at e1
  cases e0; cases e1
  exact ⟨⟨x0, x1⟩, by rw [show tagg Tryz.prog 25 = true by kernel_rfl]; rfl, ⟨w0, q0, w1, q1⟩⟩
theorem told_int : ∀ bs, Typed Tryz.prog 3 bs → ∃ x : Int, mkVal (tagg Tryz.prog 3) bs = .int .i64 x ∧ In64 x := by
  intro bs h
  obtain ⟨x, rfl, w⟩ := typed_int Tryz.underlying3 h
  refine ⟨x, by rw [show tagg Tryz.prog 3 = false by kernel_rfl]; rfl, in64_of w⟩
end Go.Proofs.YtdcgfapededocaaGreat


