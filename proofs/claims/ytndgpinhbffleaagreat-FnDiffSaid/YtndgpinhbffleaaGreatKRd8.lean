/- A reading of the loaded code over plain data, its soundness, and what functions answer by it (part 8; joined by program). No condition. -/
import Derived.Test.YtndgpinhbffleaaGreatKRd7
import Derived.Deep.Slices
import Derived.SliceStrings
import Derived.ChangeArms
import Derived.DataShut
set_option linter.all false
namespace Go.Proofs.YtndgpinhbffleaaGreat
open Go Go.Deep Go.ChangeShapes Go.WideShapes
section
variable {P : Program}
/-- Cells of a type, told as data. -/
inductive Typed (P : Program) : TypeId → List AV → Prop
  | bool {t : TypeId} {b : Bool} : P.underlying t = some .bool → Typed P t [.bool b]
  | int {t : TypeId} {k : IntKind} {n : Int} : P.underlying t = some (.int k) → (Lit.int k n).wf = true → Typed P t [.int k n]
  | str {t : TypeId} {s : List UInt8} : P.underlying t = some .string → s.length ≤ maxLen → Typed P t [.str s]
  | slice {t e : TypeId} {es : List AV} : P.underlying t = some (.slice e) → es.length ≤ maxLen → (∀ i, i < es.length → Typed P e (cellsOf (es.getD i .dead))) → (∀ i, i < es.length → es.getD i .dead = mkVal (tagg P e) (cellsOf (es.getD i .dead))) → Typed P t [.sl (P.cellsOf e) es]
  | strct {t : TypeId} {fs : Array Field} {avs : List AV} : P.underlying t = some (.struct fs) → avs.length = P.cellsOf t → (∀ f, f ∈ fs.toList → Typed P f.type ((avs.drop f.offset).take (P.cellsOf f.type))) → Typed P t avs
def tiles (P : Program) : List Field → Nat → Nat → Bool
  | [], off, n => decide (off = n)
  | f :: fs, off, n => decide (f.offset = off) && tiles P fs (off + P.cellsOf f.type) n
/-- Types that are read so. -/
def plainT (P : Program) : Nat → TypeId → Bool
  | 0, _ => false
  | n + 1, t => match P.underlying t with
    | some .bool => true
    | some (.int _) => true
    | some .string => true
    | some (.slice e) => decide (0 < P.cellsOf e) && plainT P n e
    | some (.struct fs) => tiles P fs.toList 0 (P.cellsOf t) && fs.toList.all fun f => plainT P n f.type
    | _ => false
theorem typed_mk {e : TypeId} {avs : List AV} (h : Typed P e avs) : cellsOf (mkVal (tagg P e) avs) = avs := by
  cases h with
  | bool h => simp [tagg, h, mkVal, cellsOf]
  | int h _ => simp [tagg, h, mkVal, cellsOf]
  | str h _ => simp [tagg, h, mkVal, cellsOf]
  | slice h _ _ _ => simp [tagg, h, mkVal, cellsOf]
  | strct h _ _ => simp [tagg, h, mkVal, cellsOf]
def ToldAs (P : Program) (w : World) (t : TypeId) (cs : List Value) (avs : List AV) : Prop :=
  avs.length = cs.length ∧ Typed P t avs ∧ ∀ i, i < avs.length → Rep w (fun _ => False) noMap (avs.getD i .dead) (cs.getD i undef) ∧ (cs.getD i undef).oneCell' = true
theorem told_fields {w : World} : ∀ (fl : List Field) (off n : Nat) (cs : List Value), tiles P fl off n = true → n ≤ cs.length → off ≤ n →
    (∀ f, f ∈ fl → ∃ avs, ToldAs P w f.type ((cs.drop f.offset).take (P.cellsOf f.type)) avs ∧ avs.length = P.cellsOf f.type) →
    ∃ avs : List AV, avs.length = n - off ∧ (∀ f, f ∈ fl → off ≤ f.offset ∧ Typed P f.type ((avs.drop (f.offset - off)).take (P.cellsOf f.type))) ∧
      ∀ i, i < avs.length → Rep w (fun _ => False) noMap (avs.getD i .dead) (cs.getD (off + i) undef) ∧ (cs.getD (off + i) undef).oneCell' = true := by
  intro fl
  induction fl with
  | nil =>
    intro off n cs ht _ _ _
    simp [tiles] at ht
    exact ⟨[], by simp [ht], by simp, by simp⟩
  | cons f fl ih =>
    intro off n cs ht hn ho h
    simp only [tiles, Bool.and_eq_true, decide_eq_true_eq] at ht
    obtain ⟨hf, ht⟩ := ht
    obtain ⟨a1, ⟨l1, t1, r1⟩, l1'⟩ := h f (by simp)
    have hlt : off + P.cellsOf f.type ≤ n := by
      clear ih h
      have : ∀ (fl : List Field) (o : Nat), tiles P fl o n = true → o ≤ n := by
        intro fl
        induction fl with
        | nil => intro o h; simp [tiles] at h; omega
        | cons g fl ih => intro o h; simp only [tiles, Bool.and_eq_true, decide_eq_true_eq] at h; have := ih _ h.2; omega
      exact this _ _ ht
    obtain ⟨a2, l2, t2, r2⟩ := ih (off + P.cellsOf f.type) n cs ht hn hlt (fun g hg => h g (by simp [hg]))
    refine ⟨a1 ++ a2, by rw [List.length_append, l1', l2]; omega, fun g hg => ?_, fun i hi => ?_⟩
    · simp only [List.mem_cons] at hg
      rcases hg with rfl | hg
      · refine ⟨by omega, ?_⟩
        rw [hf, Nat.sub_self, List.drop_zero, List.take_append_of_le_length (by omega), List.take_of_length_le (by omega)]
        exact t1
      · obtain ⟨q1, q2⟩ := t2 g hg
        refine ⟨by omega, ?_⟩
        rw [List.drop_append, List.drop_of_length_le (by omega), List.nil_append, l1', show g.offset - off - P.cellsOf f.type = g.offset - (off + P.cellsOf f.type) by omega]
        exact q2
    · by_cases h1 : i < a1.length
      · have := r1 i h1
        have e1 : (a1 ++ a2).getD i .dead = a1.getD i .dead := by simp [List.getD, List.getElem?_append_left h1]
        have e2 : ((cs.drop f.offset).take (P.cellsOf f.type)).getD i undef = cs.getD (off + i) undef := by
          simp [List.getD, show i < P.cellsOf f.type by omega, hf]
        rw [e2] at this
        rw [e1]; exact this
      · have hi2 : i - a1.length < a2.length := by rw [List.length_append] at hi; omega
        have := r2 (i - a1.length) hi2
        have e1 : (a1 ++ a2).getD i .dead = a2.getD (i - a1.length) .dead := by simp [List.getD, List.getElem?_append_right (show a1.length ≤ i by omega)]
        rw [show off + P.cellsOf f.type + (i - a1.length) = off + i by omega] at this
        rw [e1]; exact this
/-- Data that is read is told. -/
theorem trod_told {H : Type} {enc : TypeId × Value → H} {w : World} {sp : Nat → Bool} {hd : Bool} : ∀ (n fuel : Nat) (t : TypeId) (cs : List Value) (x : DataW H × List MemPlace), plainT P n t = true → DataW.trod enc P w 0 sp hd fuel t cs = some x → ∃ avs, ToldAs P w t cs avs := by
  intro n
  induction n with
  | zero => intro fuel t cs x hp; simp [plainT] at hp
  | succ n ih =>
    intro fuel t cs x hp h
    unfold plainT at hp
    cases hu : P.underlying t with
    | none => simp [hu] at hp
    | some d =>
      simp only [hu] at hp
      cases d with
      | bool =>
        obtain ⟨b, rfl, _⟩ := DataW.trod_bool hu h
        exact ⟨[.bool b], rfl, .bool hu, by intro i hi; simp at hi; subst hi; exact ⟨.bool _, rfl⟩⟩
      | int k =>
        obtain ⟨m, rfl, _, hw⟩ := DataW.trod_int hu h
        exact ⟨[.int k m], rfl, .int hu hw, by intro i hi; simp at hi; subst hi; exact ⟨.int _ _, rfl⟩⟩
      | string =>
        obtain ⟨s, rfl, _, hs⟩ := DataW.trod_string hu h
        exact ⟨[.str s.data.toList], rfl, .str hu (by simpa using hs), by intro i hi; simp at hi; subst hi; exact ⟨.str rfl, rfl⟩⟩
      | slice e =>
        simp only [Bool.and_eq_true, decide_eq_true_eq] at hp
        obtain ⟨hm, hp⟩ := hp
        rcases open_slice hu h with ⟨rfl, _⟩ | ⟨a, len, cap, m, fl, D, Pl, rfl, _, hl, hcap, hmm, _, hel⟩
        · exact ⟨[.sl (P.cellsOf e) []], rfl, .slice hu (by simp) (by simp) (by simp), by intro i hi; simp at hi; subst hi; exact ⟨.slE _ _ _, rfl⟩⟩
        · have hle : len ≤ m := by rw [hmm]; split <;> omega
          by_cases hl0 : len = 0
          · subst hl0
            exact ⟨[.sl (P.cellsOf e) []], rfl, .slice hu (by simp) (by simp) (by simp), by intro i hi; simp at hi; subst hi; exact ⟨.slE _ _ _, rfl⟩⟩
          · have each : ∀ i, i < len → ∃ q : List AV × List Value, w.cells? 0 (a.add (i * P.cellsOf e)) (P.cellsOf e) = some q.2 ∧ ToldAs P w e q.2 q.1 := by
              intro i hi
              obtain ⟨cs', h1, h2⟩ := hel i (by omega)
              obtain ⟨avs, ha⟩ := ih fl e cs' _ hp h2
              exact ⟨(avs, cs'), h1, ha⟩
            obtain ⟨q, hq⟩ := choose_lt each
            obtain ⟨b, off, sp'⟩ := a
            have hspot : sp' = none := by
              obtain ⟨h1, h2⟩ := hq 0 (by omega)
              obtain ⟨_, h3, h4⟩ := World.cells?_some h1
              have h5 := h4 0 hm
              rw [List.getElem?_eq_getElem (by omega)] at h5
              simp only [Nat.zero_mul, Addr.add, if_true] at h5
              unfold World.cell? at h5
              split at h5
              · cases sp' with
                | none => rfl
                | some _ => simp at h5
              · cases h5
            subst hspot
            have hcell : ∀ i j, i < len → j < P.cellsOf e → w.cell? ⟨b, off + i * P.cellsOf e + j, none⟩ = some ((q i).2.getD j undef) := by
              intro i j hi hj
              obtain ⟨h1, h2⟩ := hq i hi
              obtain ⟨_, h3, h4⟩ := World.cells?_some h1
              have h5 := h4 j hj
              rw [add_add] at h5
              have : (⟨b, off, none⟩ : Addr).add (i * P.cellsOf e + j) = ⟨b, off + i * P.cellsOf e + j, none⟩ := by
                unfold Addr.add; split
                · rename_i h0; simp
                · simp [Nat.add_assoc]
              rw [this] at h5
              rw [h5, List.getElem?_eq_getElem (by omega)]
              simp [List.getD, List.getElem?_eq_getElem (show j < (q i).2.length by omega)]
            have hql : ∀ i, i < len → (q i).1.length = P.cellsOf e := fun i hi => by rw [(hq i hi).2.1]; exact (World.cells?_some (hq i hi).1).2.1
            let es : List AV := (List.range len).map fun i => mkVal (tagg P e) (q i).1
            have hes : ∀ i, i < len → es.getD i .dead = mkVal (tagg P e) (q i).1 := fun i hi => by simp [es, List.getD, hi]
            have heq : ∀ i, i < len → cellsOf (es.getD i .dead) = (q i).1 := fun i hi => by rw [hes i hi]; exact typed_mk (hq i hi).2.2.1
            have hel : es.length = len := by simp [es]
            refine ⟨[.sl (P.cellsOf e) es], rfl, .slice hu (by rw [hel]; omega) (fun i hi => ?_) (fun i hi => ?_), fun i hi => ?_⟩
            · rw [hel] at hi; rw [heq i hi]; exact (hq i hi).2.2.1
            · rw [hel] at hi; rw [heq i hi]; exact hes i hi
            · simp only [List.length_cons, List.length_nil] at hi
              obtain rfl : i = 0 := by omega
              refine ⟨?_, rfl⟩
              have hb : b < w.heap.size := by
                have h5 := hcell 0 0 (by omega) hm
                unfold World.cell? at h5
                split at h5
                · rename_i hx; exact (Array.getElem?_eq_some_iff.1 hx).1
                · cases h5
              refine .sl (fun i j => (q i).2.getD j undef) (fun hn => hl0 (by rw [← hel, hn]; rfl)) hel.symm hl (fun h => h) hb hm (fun i hi => ?_) (fun i j hi hj => ?_) (fun i j hi hj => ?_) (fun i j hi hj => ?_)
              · rw [hel] at hi; rw [heq i hi]; exact hql i hi
              · rw [hel] at hi; exact hcell i j hi hj
              · rw [hel] at hi; exact ((hq i hi).2.2.2 j (by rw [hql i hi]; exact hj)).2
              · rw [hel] at hi; rw [heq i hi]; exact ((hq i hi).2.2.2 j (by rw [hql i hi]; exact hj)).1
      | struct fs =>
        simp only [Bool.and_eq_true, List.all_eq_true] at hp
        obtain ⟨hti, hp⟩ := hp
        obtain ⟨xs, fl', _, _, hlen, hxl, hx⟩ := DataW.trod_struct hu h
        have hf : ∀ f, f ∈ fs.toList → ∃ avs, ToldAs P w f.type ((cs.drop f.offset).take (P.cellsOf f.type)) avs ∧ avs.length = P.cellsOf f.type := by
          have hoff : ∀ (fl : List Field) (o m : Nat), tiles P fl o m = true → ∀ f, f ∈ fl → f.offset + P.cellsOf f.type ≤ m := by
            have hup : ∀ (fl : List Field) (o m : Nat), tiles P fl o m = true → o ≤ m := by
              intro fl m
              induction fl generalizing m with
              | nil => intro n h; simp [tiles] at h; omega
              | cons g fl ih => intro n h; simp only [tiles, Bool.and_eq_true, decide_eq_true_eq] at h; have := ih _ _ h.2; omega
            intro fl
            induction fl with
            | nil => intro o m _ f hf; cases hf
            | cons g fl ih =>
              intro o m h f hf
              simp only [tiles, Bool.and_eq_true, decide_eq_true_eq] at h
              simp only [List.mem_cons] at hf
              rcases hf with rfl | hf
              · have := hup _ _ _ h.2; omega
              · exact ih _ _ h.2 f hf
          intro f hf
          obtain ⟨i, hi⟩ := List.getElem?_of_mem hf
          have hb := hoff _ _ _ hti f hf
          have hln : ((cs.drop f.offset).take (P.cellsOf f.type)).length = P.cellsOf f.type := by simp; omega
          obtain ⟨y, hy⟩ : ∃ y, ∃ fl, DataW.trod enc P w 0 sp hd fl f.type ((cs.drop f.offset).take (P.cellsOf f.type)) = some y  := by
            have h1 := hx i f (by simpa using hi)
            have h2 : i < xs.length := by rw [hxl]; have := (List.getElem?_eq_some_iff.1 hi).1; simpa using this
            rw [List.getElem?_eq_getElem h2] at h1
            exact ⟨_, _, h1⟩
          obtain ⟨fl, hy⟩ := hy
          obtain ⟨avs, ha⟩ := ih fl f.type _ y (hp f hf) hy
          exact ⟨avs, ha, by rw [ha.1, hln]⟩
        obtain ⟨avs, l1, t1, r1⟩ := told_fields fs.toList 0 (P.cellsOf t) cs hti (by omega) (Nat.zero_le _) hf
        refine ⟨avs, by rw [l1, hlen]; omega, .strct hu (by rw [l1]; omega) (fun f hf => by simpa using (t1 f hf).2), fun i hi => by simpa using r1 i hi⟩
      | _ => simp at hp
/-- A value handed in, told as data. -/
theorem arg_told {H : Type} {enc : TypeId × Value → H} {w : World} {sp : Nat → Bool} {hd : Bool} {r : Reach} {b0 : Nat} {t : TypeId} {v : Value} {d : DataW H} {ps : List MemPlace} (n : Nat) (hp : plainT P n t = true) (hv : Value.okWide P w r b0 t v) (h : DataW.Trod enc P w 0 sp hd t v d ps) :
    ∃ avs, Typed P t avs ∧ Rep w (fun _ => False) noMap (mkVal (tagg P t) avs) v := by
  obtain ⟨fuel, h⟩ := h
  obtain ⟨avs, hl, ht, hr⟩ := trod_told n fuel t _ _ hp h
  refine ⟨avs, ht, ?_⟩
  have ht' := ht
  cases ht with
  | bool hu =>
    obtain ⟨b, rfl⟩ := okWide_bool hu hv
    have := (hr 0 (by simp)).1
    simpa [tagg, hu, mkVal, Value.cells] using this
  | int hu _ =>
    obtain ⟨b, rfl⟩ := okWide_int hu hv
    have := (hr 0 (by simp)).1
    simpa [tagg, hu, mkVal, Value.cells] using this
  | str hu _ =>
    obtain ⟨b, rfl⟩ := okWide_string hu hv
    have := (hr 0 (by simp)).1
    simpa [tagg, hu, mkVal, Value.cells] using this
  | slice hu _ _ _ =>
    obtain ⟨a, l, c, rfl⟩ := okWide_slice hu hv
    have := (hr 0 (by simp)).1
    simpa [tagg, hu, mkVal, Value.cells] using this
  | strct hu _ _ =>
    obtain ⟨cs, rfl, _⟩ := okWide_struct hu hv
    have hl' : avs.length = cs.size := by simpa [Value.cells] using hl
    simp only [tagg, hu, mkVal, if_true]
    refine .agg hl' fun i hi => ?_
    have := (hr i hi).1
    simpa [Value.cells, List.getD, Array.getD, hl' ▸ hi] using this
theorem typed_int {t : TypeId} {k : IntKind} {avs : List AV} (hu : P.underlying t = some (.int k)) (h : Typed P t avs) : ∃ n, avs = [.int k n] ∧ k.min ≤ n ∧ n ≤ k.max := by
  cases h with
  | int h hw => rw [hu] at h; cases h; exact ⟨_, rfl, (Lit.wf_int_iff _ _).1 hw⟩
  | bool h => rw [hu] at h; cases h
  | str h _ => rw [hu] at h; cases h
  | slice h _ _ _ => rw [hu] at h; cases h
  | strct h _ _ => rw [hu] at h; cases h
/-- A row, its elements told. -/
theorem typed_list {α : Type} {f : α → AV} {Q : α → Prop} {t e : TypeId} {avs : List AV} (hu : P.underlying t = some (.slice e)) (he : ∀ bs, Typed P e bs → ∃ x, mkVal (tagg P e) bs = f x ∧ Q x) (h : Typed P t avs) :
    ∃ l : List α, avs = [.sl (P.cellsOf e) (l.map f)] ∧ l.length ≤ maxLen ∧ ∀ x ∈ l, Q x := by
  cases h with
  | @slice t e' es h hl h1 h2 =>
    rw [hu] at h; cases h
    have key : ∀ es : List AV, (∀ i, i < es.length → Typed P e (cellsOf (es.getD i .dead))) → (∀ i, i < es.length → es.getD i .dead = mkVal (tagg P e) (cellsOf (es.getD i .dead))) → ∃ l : List α, es = l.map f ∧ ∀ x ∈ l, Q x := by
      intro es
      induction es with
      | nil => intro _ _; exact ⟨[], rfl, by simp⟩
      | cons c es ih =>
        intro h1 h2
        obtain ⟨l, rfl, hq⟩ := ih (fun i hi => by simpa using h1 (i + 1) (by simpa using hi)) (fun i hi => by simpa using h2 (i + 1) (by simpa using hi))
        obtain ⟨x, hx, hqx⟩ := he _ (h1 0 (by simp))
        have h0 := h2 0 (by simp)
        simp only [List.getD_cons_zero] at h0 hx
        refine ⟨x :: l, by rw [List.map_cons, ← hx, ← h0], ?_⟩
        intro y hy
        simp only [List.mem_cons] at hy
        rcases hy with rfl | hy
        · exact hqx
        · exact hq y hy
    obtain ⟨l, rfl, hq⟩ := key es h1 h2
    exact ⟨l, rfl, by simpa using hl, hq⟩
  | int h hw => rw [hu] at h; cases h
  | bool h => rw [hu] at h; cases h
  | strct h _ _ => rw [hu] at h; cases h
  | str h _ => rw [hu] at h; cases h
end
end Go.Proofs.YtndgpinhbffleaaGreat


namespace Go.Proofs.YtndgpinhbffleaaGreat
open Go
set_option maxRecDepth 100000
set_option linter.unusedSimpArgs false
set_option linter.unusedVariables false
theorem wrap_id {n : Int} (h : -9223372036854775808 ≤ n ∧ n < 9223372036854775808) : IntKind.i64.wrap n = n := by
  rw [IntKind.wrap_i64]; omega
def In64 (n : Int) : Prop := -9223372036854775808 ≤ n ∧ n < 9223372036854775808
abbrev Tx := List UInt8
theorem u8_id {n : Int} (h : 0 ≤ n ∧ n < 256) : IntKind.u8.wrap n = n := by
  rw [IntKind.wrap_u8]; omega
/-- The seat's code, read without what is walked by hand. -/
noncomputable def CZ : Ctx := { P := Tryz.prog, A := annA, X := fun _ _ _ => none }
theorem CZ_P : CZ.P = Tryz.prog := rfl
theorem CZ_A : CZ.A = annA := rfl
attribute [go_sem] CZ_P CZ_A
theorem CZ_mixed : Tryz.prog.follows .mixedOrders = true := by kernel_rfl
theorem CZ_sound (f : FuncId) (args : List AV) (H : List (Id × Blk)) (r : Res) (h : E CZ f args H = some r) : Sound Tryz.prog f args H r := E_sound (C := CZ) CZ_mixed (fun _ _ _ _ _ e => by cases e) h
end Go.Proofs.YtndgpinhbffleaaGreat



namespace Go.Proofs.YtndgpinhbffleaaGreat
open Go
/-- Sixes of counts as numbers, from the last count on. -/
def stR (l : Nat → Int) : Nat → Nat → Int
  | 0, _ => 0
  | k + 1, b => if b = (23 - k) / 6 then IntKind.i64.wrap (IntKind.i64.wrap (16 * stR l k b) + l (23 - k)) else stR l k b
def stRs (l : List Int) : List Int := [stR (fun i => l.getD i 0) 24 0, stR (fun i => l.getD i 0) 24 1, stR (fun i => l.getD i 0) 24 2, stR (fun i => l.getD i 0) 24 3]
end Go.Proofs.YtndgpinhbffleaaGreat



namespace Go.Proofs.YtndgpinhbffleaaGreat
open Go
/-- Copies of slices without elements. -/
def cloneOf (f : FuncId) : Option Blk :=
  if f = 155 then some ⟨false, 9, 1, [], none⟩ else
  none
/-- What a mark makes of the elements of a row of pairs of a text and numbers. -/
def numL : List AV → Option (List Int)
  | [] => some []
  | .int .i64 n :: l => (numL l).map (n :: ·)
  | _ => none
open Classical in
/-- The record of counts: that of the sixes. -/
noncomputable def refsX (args : List AV) : Option Res :=
  match args with
  | [.sl 1 es] => match numL es with
    | some l => if l.length = 24 ∧ ∃ s, E CZ 147 [.int .i64 2, .sl 1 ((stRs l).map (.int .i64))] [] = some { val := .str s } then E CZ 147 [.int .i64 2, .sl 1 ((stRs l).map (.int .i64))] [] else none
    | none => none
  | _ => none
noncomputable def X0 (f : FuncId) (args : List AV) (H : List (Id × Blk)) : Option Res :=
  if f = 159 then (match H with | [] => readX args | _ => none) else
  if f = 148 then (match H with | [] => refsX args | _ => none) else
  match args, H with
  | [.sl _ []], [] => (cloneOf f).map fun b => { val := .ref [0, 0, 0, 0] 0 0, own := [b] }
  | _, _ => none
noncomputable def CX : Ctx := { P := Tryz.prog, A := annA, X := X0 }
theorem CX_P : CX.P = Tryz.prog := rfl
theorem CX_A : CX.A = annA := rfl
attribute [go_sem] CX_P CX_A
end Go.Proofs.YtndgpinhbffleaaGreat



namespace Go.Proofs.YtndgpinhbffleaaGreat
open Go
set_option maxRecDepth 100000
set_option linter.unusedSimpArgs false
set_option linter.unusedVariables false
theorem cut_at {α : Type} {l : List α} {n : Nat} (h : n < l.length) : ∃ y u, l[n] = y ∧ l.drop n = y :: u ∧ l.drop (n + 1) = u := ⟨l[n], l.drop (n + 1), rfl, List.drop_eq_getElem_cons h, rfl⟩
theorem fill_full {α β : Type} (f : α → β) (a : List α) : (a.map f).take a.length = a.map f := List.take_of_length_le (by simp)
theorem sharesL_app : ∀ (a b : List AV), AV.sharesL (a ++ b) = (AV.sharesL a || AV.sharesL b) := by
  intro a b
  induction a with
  | nil => simp [AV.sharesL]
  | cons c a ih => simp [AV.sharesL, ih, Bool.or_assoc]
theorem sharesL_map {α : Type} {f : α → AV} (h : ∀ x, (f x).shares = false) : ∀ l : List α, AV.sharesL (l.map f) = false := by
  intro l
  induction l with
  | nil => rfl
  | cons c l ih => simp [AV.sharesL, h, ih]
theorem sharesL_rep (v : AV) (h : v.shares = false) : ∀ n, AV.sharesL (List.replicate n v) = false := by
  intro n
  induction n with
  | zero => rfl
  | succ n ih => simp [List.replicate_succ, AV.sharesL, h, ih]
theorem sharesL_str (l : List Tx) : AV.sharesL (l.map .str) = false := sharesL_map (fun _ => rfl) l
theorem sharesL_int (l : List Int) : AV.sharesL (l.map (.int .i64)) = false := sharesL_map (fun _ => rfl) l
attribute [go_sem] fill_full List.take_of_length_le sharesL_app sharesL_str sharesL_int
end Go.Proofs.YtndgpinhbffleaaGreat



namespace Go.Proofs.YtndgpinhbffleaaGreat
open Go
set_option maxRecDepth 100000
def inn (n lo hi : Int) : Bool := decide (lo ≤ n) && decide (n ≤ hi)
theorem within_E (n lo hi : Int) : E CX 133 [.int .i64 n, .int .i64 lo, .int .i64 hi] [] = some { val := .bool (inn n lo hi) } := by
  refine E_fin Tryz.f133 _ an133 rfl rfl rfl Tryz.func133 rfl (by kernel_rfl) ?_
  by_cases h : lo ≤ n <;> simp [go_sem, h, inn]
theorem l01In_E (n lo hi : Int) : E CX 86 [.int .i64 n, .int .i64 lo, .int .i64 hi] [] = some { val := .bool (inn n lo hi) } := by
  refine E_fin Tryz.f86 _ an86 rfl rfl rfl Tryz.func86 rfl (by kernel_rfl) ?_
  by_cases h : lo ≤ n <;> simp [go_sem, h, inn]
theorem isHost_E (n : Int) : E CX 154 [.int .i64 n] [] = some { val := .bool (inn n 0 3) } := by
  refine E_fin Tryz.f154 _ an154 rfl rfl rfl Tryz.func154 rfl (by kernel_rfl) ?_
  simp [go_sem, within_E]
theorem isPlace_E (n : Int) : E CX 194 [.int .i64 n] [] = some { val := .bool (inn n 0 63) } := by
  refine E_fin Tryz.f194 _ an194 rfl rfl rfl Tryz.func194 rfl (by kernel_rfl) ?_
  simp [go_sem, within_E]
theorem isSector_E (s : List UInt8) : E CX 191 [.str s] [] = some { val := .bool (decide (s.length ≤ 80)) } := by
  refine E_fin Tryz.f191 _ an191 rfl rfl rfl Tryz.func191 rfl (by kernel_rfl) ?_
  simp [go_sem]
  omega
def ioOK (x : Io) : Bool := inn x.host 0 3 && inn x.at_ 0 63 && decide (x.data.length ≤ 80)
def firstAt {α : Type} (q : α → Bool) : List α → Nat → Option Nat
  | [], _ => none
  | x :: l, n => if q x then some n else firstAt q l (n + 1)
def idxOf (o : Option Nat) : Int := match o with
  | some k => k
  | none => -1
end Go.Proofs.YtndgpinhbffleaaGreat



namespace Go.Proofs.YtndgpinhbffleaaGreat
open Go
set_option maxRecDepth 100000
set_option linter.unusedSimpArgs false
set_option linter.unusedVariables false
def top : Nat := 9223372036854775807
end Go.Proofs.YtndgpinhbffleaaGreat



namespace Go.Proofs.YtndgpinhbffleaaGreat
open Go
set_option maxRecDepth 100000
set_option linter.unusedSimpArgs false
set_option linter.unusedVariables false
theorem sharesL_eIo (l : List Io) : AV.sharesL (l.map eIo) = false := sharesL_map (fun _ => by simp [eIo, go_sem]) l
theorem sharesL_repeIo (n : Nat) (x : Io) : AV.sharesL (List.replicate n (eIo x)) = false := sharesL_rep _ (by simp [eIo, go_sem]) n
attribute [go_sem] sharesL_eIo sharesL_repeIo
end Go.Proofs.YtndgpinhbffleaaGreat



namespace Go.Proofs.YtndgpinhbffleaaGreat
open Go
set_option maxRecDepth 100000
set_option linter.unusedSimpArgs false
set_option linter.unusedVariables false
structure Disk where
  ss : List Tx
  ps : List Io
  deriving Inhabited, DecidableEq
def eDisk (d : Disk) : AV := .agg [.sl 1 (d.ss.map .str), .sl 3 (d.ps.map eIo)]
def ioLen (x : Io) : Nat := x.data.length
/-- What is handed in fits the machine. -/
structure Fits (d : Disk) : Prop where
  ss : d.ss.length ≤ top
  s : ∀ s ∈ d.ss, s.length ≤ top
  ps : d.ps.length ≤ top
  p : ∀ x ∈ d.ps, x.data.length ≤ top ∧ In64 x.host ∧ In64 x.at_
end Go.Proofs.YtndgpinhbffleaaGreat



namespace Go.Proofs.YtndgpinhbffleaaGreat
open Go
set_option maxRecDepth 100000
set_option linter.unusedSimpArgs false
set_option linter.unusedVariables false
structure Move where
  kind : Int
  at_ : Int
  data : List UInt8
  deriving Inhabited, DecidableEq
end Go.Proofs.YtndgpinhbffleaaGreat



namespace Go.Proofs.YtndgpinhbffleaaGreat
open Go
set_option maxRecDepth 100000
end Go.Proofs.YtndgpinhbffleaaGreat


