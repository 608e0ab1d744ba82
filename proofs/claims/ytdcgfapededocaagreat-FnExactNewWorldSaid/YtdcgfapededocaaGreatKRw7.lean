/- A reading of the loaded code over plain data, its soundness, and what functions answer by it (part 7; joined by program). No condition. -/
import Derived.Test.YtdcgfapededocaaGreatKRw6
import Derived.Deep.Slices
import Derived.SliceStrings
import Derived.ChangeArms
import Derived.DataShut
set_option linter.all false
namespace Go.Proofs.YtdcgfapededocaaGreat
open Go Go.Deep Go.ChangeShapes Go.WideShapes
section
variable {P : Program}
/-- Cells of a type, told as data. -/
inductive Typed (P : Program) : TypeId → List AV → Prop
  | bool {t : TypeId} {b : Bool} : P.underlying t = some .bool → Typed P t [.bool b]
  | int {t : TypeId} {k : IntKind} {n : Int} : P.underlying t = some (.int k) → (Lit.int k n).wf = true → Typed P t [.int k n]
  | str {t : TypeId} {s : List UInt8} : P.underlying t = some .string → s.length ≤ maxLen → Typed P t [.str s]
  | slice {t e : TypeId} {es : List AV} : P.underlying t = some (.slice e) → es.length ≤ maxLen → (∀ i, i < es.length → Typed P e (cellsOf (es.getD i .dead))) → (∀ i, i < es.length → es.getD i .dead = mkVal (tagg P e) (cellsOf (es.getD i .dead))) → Typed P t [.sl (P.cellsOf e) es]
  | strct {t : TypeId} {fs : Array Field} {avs : List AV} : P.underlying t = some (.struct fs) → avs.length = P.cellsOf t → (∀ f, f ∈ fs.toList → Typed P f.type ((avs.drop f.offset).take (P.cellsOf f.type))) → Typed P t avs
def tiles (P : Program) : List Field → Nat → Nat → Bool
  | [], off, n => decide (off = n)
  | f :: fs, off, n => decide (f.offset = off) && tiles P fs (off + P.cellsOf f.type) n
/-- Types that are read so. -/
def plainT (P : Program) : Nat → TypeId → Bool
  | 0, _ => false
  | n + 1, t => match P.underlying t with
    | some .bool => true
    | some (.int _) => true
    | some .string => true
    | some (.slice e) => decide (0 < P.cellsOf e) && plainT P n e
    | some (.struct fs) => tiles P fs.toList 0 (P.cellsOf t) && fs.toList.all fun f => plainT P n f.type
    | _ => false
theorem typed_mk {e : TypeId} {avs : List AV} (h : Typed P e avs) : cellsOf (mkVal (tagg P e) avs) = avs := by
  cases h with
  | bool h => simp [tagg, h, mkVal, cellsOf]
  | int h _ => simp [tagg, h, mkVal, cellsOf]
  | str h _ => simp [tagg, h, mkVal, cellsOf]
  | slice h _ _ _ => simp [tagg, h, mkVal, cellsOf]
  | strct h _ _ => simp [tagg, h, mkVal, cellsOf]
def ToldAs (P : Program) (w : World) (t : TypeId) (cs : List Value) (avs : List AV) : Prop :=
  avs.length = cs.length ∧ Typed P t avs ∧ ∀ i, i < avs.length → Rep w (fun _ => False) noMap (avs.getD i .dead) (cs.getD i undef) ∧ (cs.getD i undef).oneCell' = true
theorem told_fields {w : World} : ∀ (fl : List Field) (off n : Nat) (cs : List Value), tiles P fl off n = true → n ≤ cs.length → off ≤ n →
    (∀ f, f ∈ fl → ∃ avs, ToldAs P w f.type ((cs.drop f.offset).take (P.cellsOf f.type)) avs ∧ avs.length = P.cellsOf f.type) →
    ∃ avs : List AV, avs.length = n - off ∧ (∀ f, f ∈ fl → off ≤ f.offset ∧ Typed P f.type ((avs.drop (f.offset - off)).take (P.cellsOf f.type))) ∧
      ∀ i, i < avs.length → Rep w (fun _ => False) noMap (avs.getD i .dead) (cs.getD (off + i) undef) ∧ (cs.getD (off + i) undef).oneCell' = true := by
  intro fl
  induction fl with
  | nil =>
    intro off n cs ht _ _ _
    simp [tiles] at ht
    exact ⟨[], by simp [ht], by simp, by simp⟩
  | cons f fl ih =>
    intro off n cs ht hn ho h
    simp only [tiles, Bool.and_eq_true, decide_eq_true_eq] at ht
    obtain ⟨hf, ht⟩ := ht
    obtain ⟨a1, ⟨l1, t1, r1⟩, l1'⟩ := h f (by simp)
    have hlt : off + P.cellsOf f.type ≤ n := by
      clear ih h
      have : ∀ (fl : List Field) (o : Nat), tiles P fl o n = true → o ≤ n := by
        intro fl
        induction fl with
        | nil => intro o h; simp [tiles] at h; omega
        | cons g fl ih => intro o h; simp only [tiles, Bool.and_eq_true, decide_eq_true_eq] at h; have := ih _ h.2; omega
      exact this _ _ ht
    obtain ⟨a2, l2, t2, r2⟩ := ih (off + P.cellsOf f.type) n cs ht hn hlt (fun g hg => h g (by simp [hg]))
    refine ⟨a1 ++ a2, by rw [List.length_append, l1', l2]; omega, fun g hg => ?_, fun i hi => ?_⟩
    · simp only [List.mem_cons] at hg
      rcases hg with rfl | hg
      · refine ⟨by omega, ?_⟩
        rw [hf, Nat.sub_self, List.drop_zero, List.take_append_of_le_length (by omega), List.take_of_length_le (by omega)]
        exact t1
      · obtain ⟨q1, q2⟩ := t2 g hg
        refine ⟨by omega, ?_⟩
        rw [List.drop_append, List.drop_of_length_le (by omega), List.nil_append, l1', show g.offset - off - P.cellsOf f.type = g.offset - (off + P.cellsOf f.type) by omega]
        exact q2
    · by_cases h1 : i < a1.length
      · have := r1 i h1
        have e1 : (a1 ++ a2).getD i .dead = a1.getD i .dead := by simp [List.getD, List.getElem?_append_left h1]
        have e2 : ((cs.drop f.offset).take (P.cellsOf f.type)).getD i undef = cs.getD (off + i) undef := by
          simp [List.getD, show i < P.cellsOf f.type by omega, hf]
        rw [e2] at this
        rw [e1]; exact this
      · have hi2 : i - a1.length < a2.length := by rw [List.length_append] at hi; omega
        have := r2 (i - a1.length) hi2
        have e1 : (a1 ++ a2).getD i .dead = a2.getD (i - a1.length) .dead := by simp [List.getD, List.getElem?_append_right (show a1.length ≤ i by omega)]
        rw [show off + P.cellsOf f.type + (i - a1.length) = off + i by omega] at this
        rw [e1]; exact this
/-- Data that is read is told. -/
theorem trod_told {H : Type} {enc : TypeId × Value → H} {w : World} {sp : Nat → Bool} {hd : Bool} : ∀ (n fuel : Nat) (t : TypeId) (cs : List Value) (x : DataW H × List MemPlace), plainT P n t = true → DataW.trod enc P w 0 sp hd fuel t cs = some x → ∃ avs, ToldAs P w t cs avs := by
  intro n
  induction n with
  | zero => intro fuel t cs x hp; simp [plainT] at hp
  | succ n ih =>
    intro fuel t cs x hp h
    unfold plainT at hp
    cases hu : P.underlying t with
    | none => simp [hu] at hp
    | some d =>
      simp only [hu] at hp
      cases d with
      | bool =>
        obtain ⟨b, rfl, _⟩ := DataW.trod_bool hu h
        exact ⟨[.bool b], rfl, .bool hu, by intro i hi; simp at hi; subst hi; exact ⟨.bool _, rfl⟩⟩
      | int k =>
        obtain ⟨m, rfl, _, hw⟩ := DataW.trod_int hu h
        exact ⟨[.int k m], rfl, .int hu hw, by intro i hi; simp at hi; subst hi; exact ⟨.int _ _, rfl⟩⟩
      | string =>
        obtain ⟨s, rfl, _, hs⟩ := DataW.trod_string hu h
        exact ⟨[.str s.data.toList], rfl, .str hu (by simpa using hs), by intro i hi; simp at hi; subst hi; exact ⟨.str rfl, rfl⟩⟩
      | slice e =>
        simp only [Bool.and_eq_true, decide_eq_true_eq] at hp
        obtain ⟨hm, hp⟩ := hp
        rcases open_slice hu h with ⟨rfl, _⟩ | ⟨a, len, cap, m, fl, D, Pl, rfl, _, hl, hcap, hmm, _, hel⟩
        · exact ⟨[.sl (P.cellsOf e) []], rfl, .slice hu (by simp) (by simp) (by simp), by intro i hi; simp at hi; subst hi; exact ⟨.slE _ _ _, rfl⟩⟩
        · have hle : len ≤ m := by rw [hmm]; split <;> omega
          by_cases hl0 : len = 0
          · subst hl0
            exact ⟨[.sl (P.cellsOf e) []], rfl, .slice hu (by simp) (by simp) (by simp), by intro i hi; simp at hi; subst hi; exact ⟨.slE _ _ _, rfl⟩⟩
          · have each : ∀ i, i < len → ∃ q : List AV × List Value, w.cells? 0 (a.add (i * P.cellsOf e)) (P.cellsOf e) = some q.2 ∧ ToldAs P w e q.2 q.1 := by
              intro i hi
              obtain ⟨cs', h1, h2⟩ := hel i (by omega)
              obtain ⟨avs, ha⟩ := ih fl e cs' _ hp h2
              exact ⟨(avs, cs'), h1, ha⟩
            obtain ⟨q, hq⟩ := choose_lt each
            obtain ⟨b, off, sp'⟩ := a
            have hspot : sp' = none := by
              obtain ⟨h1, h2⟩ := hq 0 (by omega)
              obtain ⟨_, h3, h4⟩ := World.cells?_some h1
              have h5 := h4 0 hm
              rw [List.getElem?_eq_getElem (by omega)] at h5
              simp only [Nat.zero_mul, Addr.add, if_true] at h5
              unfold World.cell? at h5
              split at h5
              · cases sp' with
                | none => rfl
                | some _ => simp at h5
              · cases h5
            subst hspot
            have hcell : ∀ i j, i < len → j < P.cellsOf e → w.cell? ⟨b, off + i * P.cellsOf e + j, none⟩ = some ((q i).2.getD j undef) := by
              intro i j hi hj
              obtain ⟨h1, h2⟩ := hq i hi
              obtain ⟨_, h3, h4⟩ := World.cells?_some h1
              have h5 := h4 j hj
              rw [add_add] at h5
              have : (⟨b, off, none⟩ : Addr).add (i * P.cellsOf e + j) = ⟨b, off + i * P.cellsOf e + j, none⟩ := by
                unfold Addr.add; split
                · rename_i h0; simp
                · simp [Nat.add_assoc]
              rw [this] at h5
              rw [h5, List.getElem?_eq_getElem (by omega)]
              simp [List.getD, List.getElem?_eq_getElem (show j < (q i).2.length by omega)]
            have hql : ∀ i, i < len → (q i).1.length = P.cellsOf e := fun i hi => by rw [(hq i hi).2.1]; exact (World.cells?_some (hq i hi).1).2.1
            let es : List AV := (List.range len).map fun i => mkVal (tagg P e) (q i).1
            have hes : ∀ i, i < len → es.getD i .dead = mkVal (tagg P e) (q i).1 := fun i hi => by simp [es, List.getD, hi]
            have heq : ∀ i, i < len → cellsOf (es.getD i .dead) = (q i).1 := fun i hi => by rw [hes i hi]; exact typed_mk (hq i hi).2.2.1
            have hel : es.length = len := by simp [es]
            refine ⟨[.sl (P.cellsOf e) es], rfl, .slice hu (by rw [hel]; omega) (fun i hi => ?_) (fun i hi => ?_), fun i hi => ?_⟩
            · rw [hel] at hi; rw [heq i hi]; exact (hq i hi).2.2.1
            · rw [hel] at hi; rw [heq i hi]; exact hes i hi
            · simp only [List.length_cons, List.length_nil] at hi
              obtain rfl : i = 0 := by omega
              refine ⟨?_, rfl⟩
              have hb : b < w.heap.size := by
                have h5 := hcell 0 0 (by omega) hm
                unfold World.cell? at h5
                split at h5
                · rename_i hx; exact (Array.getElem?_eq_some_iff.1 hx).1
                · cases h5
              refine .sl (fun i j => (q i).2.getD j undef) (fun hn => hl0 (by rw [← hel, hn]; rfl)) hel.symm hl (fun h => h) hb hm (fun i hi => ?_) (fun i j hi hj => ?_) (fun i j hi hj => ?_) (fun i j hi hj => ?_)
              · rw [hel] at hi; rw [heq i hi]; exact hql i hi
              · rw [hel] at hi; exact hcell i j hi hj
              · rw [hel] at hi; exact ((hq i hi).2.2.2 j (by rw [hql i hi]; exact hj)).2
              · rw [hel] at hi; rw [heq i hi]; exact ((hq i hi).2.2.2 j (by rw [hql i hi]; exact hj)).1
      | struct fs =>
        simp only [Bool.and_eq_true, List.all_eq_true] at hp
        obtain ⟨hti, hp⟩ := hp
        obtain ⟨xs, fl', _, _, hlen, hxl, hx⟩ := DataW.trod_struct hu h
        have hf : ∀ f, f ∈ fs.toList → ∃ avs, ToldAs P w f.type ((cs.drop f.offset).take (P.cellsOf f.type)) avs ∧ avs.length = P.cellsOf f.type := by
          have hoff : ∀ (fl : List Field) (o m : Nat), tiles P fl o m = true → ∀ f, f ∈ fl → f.offset + P.cellsOf f.type ≤ m := by
            have hup : ∀ (fl : List Field) (o m : Nat), tiles P fl o m = true → o ≤ m := by
              intro fl m
              induction fl generalizing m with
              | nil => intro n h; simp [tiles] at h; omega
              | cons g fl ih => intro n h; simp only [tiles, Bool.and_eq_true, decide_eq_true_eq] at h; have := ih _ _ h.2; omega
            intro fl
            induction fl with
            | nil => intro o m _ f hf; cases hf
            | cons g fl ih =>
              intro o m h f hf
              simp only [tiles, Bool.and_eq_true, decide_eq_true_eq] at h
              simp only [List.mem_cons] at hf
              rcases hf with rfl | hf
              · have := hup _ _ _ h.2; omega
              · exact ih _ _ h.2 f hf
          intro f hf
          obtain ⟨i, hi⟩ := List.getElem?_of_mem hf
          have hb := hoff _ _ _ hti f hf
          have hln : ((cs.drop f.offset).take (P.cellsOf f.type)).length = P.cellsOf f.type := by simp; omega
          obtain ⟨y, hy⟩ : ∃ y, ∃ fl, DataW.trod enc P w 0 sp hd fl f.type ((cs.drop f.offset).take (P.cellsOf f.type)) = some y  := by
            have h1 := hx i f (by simpa using hi)
            have h2 : i < xs.length := by rw [hxl]; have := (List.getElem?_eq_some_iff.1 hi).1; simpa using this
            rw [List.getElem?_eq_getElem h2] at h1
            exact ⟨_, _, h1⟩
          obtain ⟨fl, hy⟩ := hy
          obtain ⟨avs, ha⟩ := ih fl f.type _ y (hp f hf) hy
          exact ⟨avs, ha, by rw [ha.1, hln]⟩
        obtain ⟨avs, l1, t1, r1⟩ := told_fields fs.toList 0 (P.cellsOf t) cs hti (by omega) (Nat.zero_le _) hf
        refine ⟨avs, by rw [l1, hlen]; omega, .strct hu (by rw [l1]; omega) (fun f hf => by simpa using (t1 f hf).2), fun i hi => by simpa using r1 i hi⟩
      | _ => simp at hp
/-- A value handed in, told as data. -/
theorem arg_told {H : Type} {enc : TypeId × Value → H} {w : World} {sp : Nat → Bool} {hd : Bool} {r : Reach} {b0 : Nat} {t : TypeId} {v : Value} {d : DataW H} {ps : List MemPlace} (n : Nat) (hp : plainT P n t = true) (hv : Value.okWide P w r b0 t v) (h : DataW.Trod enc P w 0 sp hd t v d ps) :
    ∃ avs, Typed P t avs ∧ Rep w (fun _ => False) noMap (mkVal (tagg P t) avs) v := by
  obtain ⟨fuel, h⟩ := h
  obtain ⟨avs, hl, ht, hr⟩ := trod_told n fuel t _ _ hp h
  refine ⟨avs, ht, ?_⟩
  have ht' := ht
  cases ht with
  | bool hu =>
    obtain ⟨b, rfl⟩ := okWide_bool hu hv
    have := (hr 0 (by simp)).1
    simpa [tagg, hu, mkVal, Value.cells] using this
  | int hu _ =>
    obtain ⟨b, rfl⟩ := okWide_int hu hv
    have := (hr 0 (by simp)).1
    simpa [tagg, hu, mkVal, Value.cells] using this
  | str hu _ =>
    obtain ⟨b, rfl⟩ := okWide_string hu hv
    have := (hr 0 (by simp)).1
    simpa [tagg, hu, mkVal, Value.cells] using this
  | slice hu _ _ _ =>
    obtain ⟨a, l, c, rfl⟩ := okWide_slice hu hv
    have := (hr 0 (by simp)).1
    simpa [tagg, hu, mkVal, Value.cells] using this
  | strct hu _ _ =>
    obtain ⟨cs, rfl, _⟩ := okWide_struct hu hv
    have hl' : avs.length = cs.size := by simpa [Value.cells] using hl
    simp only [tagg, hu, mkVal, if_true]
    refine .agg hl' fun i hi => ?_
    have := (hr i hi).1
    simpa [Value.cells, List.getD, Array.getD, hl' ▸ hi] using this
theorem typed_int {t : TypeId} {k : IntKind} {avs : List AV} (hu : P.underlying t = some (.int k)) (h : Typed P t avs) : ∃ n, avs = [.int k n] ∧ k.min ≤ n ∧ n ≤ k.max := by
  cases h with
  | int h hw => rw [hu] at h; cases h; exact ⟨_, rfl, (Lit.wf_int_iff _ _).1 hw⟩
  | bool h => rw [hu] at h; cases h
  | str h _ => rw [hu] at h; cases h
  | slice h _ _ _ => rw [hu] at h; cases h
  | strct h _ _ => rw [hu] at h; cases h
theorem typed_strct {t : TypeId} {fs : Array Field} {avs : List AV} (hu : P.underlying t = some (.struct fs)) (h : Typed P t avs) : avs.length = P.cellsOf t ∧ ∀ f, f ∈ fs.toList → Typed P f.type ((avs.drop f.offset).take (P.cellsOf f.type)) := by
  cases h with
  | strct h hl hf => rw [hu] at h; cases h; exact ⟨hl, hf⟩
  | int h hw => rw [hu] at h; cases h
  | bool h => rw [hu] at h; cases h
  | slice h _ _ _ => rw [hu] at h; cases h
  | str h _ => rw [hu] at h; cases h
theorem len3 {avs : List AV} (h : avs.length = 3) : ∃ a b c, avs = [a, b, c] := by
  match avs, h with
  | [a, b, c], _ => exact ⟨a, b, c, rfl⟩
theorem len4 {avs : List AV} (h : avs.length = 4) : ∃ a b c d, avs = [a, b, c, d] := by
  match avs, h with
  | [a, b, c, d], _ => exact ⟨a, b, c, d, rfl⟩
end
end Go.Proofs.YtdcgfapededocaaGreat


namespace Go.Proofs.YtdcgfapededocaaGreat
open Go
set_option maxRecDepth 100000
set_option linter.unusedSimpArgs false
set_option linter.unusedVariables false
theorem wrap_id {n : Int} (h : -9223372036854775808 ≤ n ∧ n < 9223372036854775808) : IntKind.i64.wrap n = n := by
  rw [IntKind.wrap_i64]; omega
def In64 (n : Int) : Prop := -9223372036854775808 ≤ n ∧ n < 9223372036854775808
abbrev Tx := List UInt8
/-- The digits of a mark. -/
def digs (k : Nat) (out : Tx) : Tx := if h : k = 0 then out else digs (k / 10) (UInt8.ofNat (48 + (k : Int) % 10).toNat :: out)
termination_by k
decreasing_by omega
theorem digs_len (k : Nat) (out : Tx) : (digs k out).length ≤ out.length + k := by
  fun_induction digs k out with
  | case1 => simp
  | case2 k out h ih => simp only [List.length_cons] at ih; omega
def mt (k : Int) : Tx := 109 :: digs k.toNat []
theorem u8_id {n : Int} (h : 0 ≤ n ∧ n < 256) : IntKind.u8.wrap n = n := by
  rw [IntKind.wrap_u8]; omega
/-- The seat's code, read without what is walked by hand. -/
noncomputable def CZ : Ctx := { P := Tryz.prog, A := annA, X := fun _ _ _ => none }
theorem CZ_P : CZ.P = Tryz.prog := rfl
theorem CZ_A : CZ.A = annA := rfl
attribute [go_sem] CZ_P CZ_A
theorem CZ_mixed : Tryz.prog.follows .mixedOrders = true := by kernel_rfl
theorem CZ_sound (f : FuncId) (args : List AV) (H : List (Id × Blk)) (r : Res) (h : E CZ f args H = some r) : Sound Tryz.prog f args H r := E_sound (C := CZ) CZ_mixed (fun _ _ _ _ _ e => by cases e) h
theorem at_set {α : Type} (A t : List α) (x y : α) (n : Nat) (h : A.length = n) : (A ++ x :: t).set n y = A ++ y :: t := by
  rw [List.set_append_right _ _ (by omega), h, Nat.sub_self, List.set_cons_zero]
theorem markText_Z (k : Int) (h : 0 < k ∧ k ≤ 1099511627776) : E CZ 185 [.int .i64 k] [] = some { val := .str (mt k) } := by
  obtain ⟨m, rfl⟩ : ∃ m : Nat, k = m := ⟨k.toNat, by omega⟩
  refine E_fin Tryz.f185 _ an185 rfl rfl rfl Tryz.func185 rfl (by kernel_rfl) ?_
  have h0 : ¬ (m : Int) ≤ 0 := by omega
  simp [go_sem, h0, show m ≠ 0 by omega]
  refine loop_at (fun X => fin CZ _ _ X = _) (fun x : Nat × Tx => x.2.length + x.1 ≤ 1099511627776) (fun x => ⟨SS [(0, .int .i64 x.1), (3, .str x.2)], HE⟩) (fun x => (.exit 0, ⟨SS [(3, .str (digs x.1 x.2))], HE⟩)) (fun x => x.1) (m, []) (by simp; omega) ?_ ?_ ?_
  · simp [go_sem]
  · rintro ⟨j, out⟩ hI
    simp only at hI
    by_cases hj : j = 0
    · subst hj
      have : digs 0 out = out := by unfold digs; simp
      simp [go_sem, this]
    · have e1 : digs j out = digs (j / 10) (UInt8.ofNat (48 + (j : Int) % 10).toNat :: out) := by rw [digs]; simp [hj]
      have e2 : ((j : Int).tmod 10) = (j : Int) % 10 := Int.tmod_eq_emod_of_nonneg (by omega)
      have e3 : ((j : Int).tdiv 10) = ((j / 10 : Nat) : Int) := by rw [Int.tdiv_eq_ediv_of_nonneg (by omega)]; omega
      have e4 : IntKind.i64.wrap (48 + (j : Int) % 10) = 48 + (j : Int) % 10 := wrap_id (by omega)
      have e5 : IntKind.u8.wrap (48 + (j : Int) % 10) = 48 + (j : Int) % 10 := u8_id (by omega)
      have e6 : IntKind.i64.wrap ((j / 10 : Nat) : Int) = ((j / 10 : Nat) : Int) := wrap_id (by omega)
      have e6' : IntKind.i64.wrap ((j : Int) / 10) = (j : Int) / 10 := wrap_id (by omega)
      simp [go_sem, Nat.pos_of_ne_zero hj, e2, e3, e4, e5, e6, e6', show 48 + (j : Int) % 10 < 256 by omega, show 0 ≤ 48 + (j : Int) % 10 by omega, show 1 + out.length ≤ 4611686018427387904 by omega]
      refine ⟨j / 10, UInt8.ofNat (48 + (j : Int) % 10).toNat :: out, by simp only [List.length_cons]; omega, by omega, ?_, by rw [e1]⟩
      simp
  · have := digs_len m []
    simp only [List.length_nil] at this
    simp [go_sem, mt, show 1 + (digs m []).length ≤ 4611686018427387904 by omega]
/-- Numbers that follow one another. -/
def upI (k : Int) (n : Nat) : List Int := (List.range n).map fun i : Nat => k + i
theorem upI_succ (k : Int) (n : Nat) : upI k (n + 1) = upI k n ++ [k + n] := by simp [upI, List.range_succ]
theorem upI_length (k : Int) (n : Nat) : (upI k n).length = n := by simp [upI]
/-- A text and numbers. -/
abbrev TN := List UInt8 × List Int
def eTN (x : TN) : AV := .agg [.str x.1, .sl 1 (x.2.map (.int .i64))]
def szTN : List TN → Nat
  | [] => 0
  | x :: l => 1 + x.2.length + szTN l
def mkTN (k : Int) : List TN → List TN
  | [] => []
  | x :: l => (mt k, upI (k + 1) x.2.length) :: mkTN (k + 1 + x.2.length) l
theorem markIntS_Z (l : List Int) (k : Int) (h : 0 < k ∧ k + l.length ≤ 1099511627776) : E CZ 134 [.ref [0] 0 l.length, .int .i64 k] [([0], ⟨false, 3, 1, l.map (.int .i64), none⟩)] = some { val := .int .i64 (k + l.length), io := [⟨false, 3, 1, (upI k l.length).map (.int .i64), none⟩] } := by
  refine E_fin Tryz.f134 _ an134 rfl rfl rfl Tryz.func134 rfl (by kernel_rfl) ?_
  simp [go_sem]
  refine loop_list (fun X => fin CZ _ _ X = _) l (fun n _ => True) (fun n (_ : Unit) => ⟨SS [(0, .ref [0] 0 l.length), (1, .int .i64 (k + n)), (5, .int .i64 n)], HS [([0], ⟨false, 3, 1, (upI k n ++ l.drop n).map (.int .i64), none⟩)]⟩) (fun _ n _ => (.exit 0, ⟨SS [(1, .int .i64 (k + l.length))], HS [([0], ⟨false, 3, 1, (upI k l.length).map (.int .i64), none⟩)]⟩)) () trivial ?_ ?_ ?_ ?_ ?_
  · simp [go_sem, upI]
  · intro n _ x t hn hx hd _
    have hs := at_set ((upI k n).map (AV.int .i64)) (t.map (.int .i64)) (.int .i64 x) (.int .i64 (k + n)) n (by simp [upI_length])
    have hd' : l.drop (n + 1) = t := by rw [← List.drop_drop, hd]; rfl
    simp [go_sem, hn, hd, hd', hs, upI_length, upI_succ, wrap_id (n := (n : Int) + 1) (by omega), wrap_id (n := k + ((n : Int) + 1)) (by omega), Int.add_assoc]
  · intro _ _; simp [go_sem, upI_length]
  · intro _; simp
  · simp [go_sem, upI_length]
theorem markIntS_none (k : Int) : E CZ 134 [.sl 1 [], .int .i64 k] [] = some { val := .int .i64 k } := by
  refine E_fin Tryz.f134 _ an134 rfl rfl rfl Tryz.func134 rfl (by kernel_rfl) ?_
  simp [go_sem]
  refine loop_for (fun X => fin CZ _ _ X = _) ([] : List Unit) (fun n _ => True) (fun n (_ : Unit) => ⟨SS [(0, .sl 1 []), (1, .int .i64 k), (5, .int .i64 n)], HE⟩) (fun _ n _ => (.exit 0, ⟨SS [(1, .int .i64 k)], HE⟩)) () trivial ?_ ?_ ?_ ?_ ?_
  · simp [go_sem]
  · intro R n _ x t hn; simp at hn
  · intro _ _; simp [go_sem]
  · intro _; simp
  · simp [go_sem]
end Go.Proofs.YtdcgfapededocaaGreat


namespace Go.Proofs.YtdcgfapededocaaGreat
open Go
/-- Sixes of counts as numbers, from the last count on. -/
def stR (l : Nat → Int) : Nat → Nat → Int
  | 0, _ => 0
  | k + 1, b => if b = (23 - k) / 6 then IntKind.i64.wrap (IntKind.i64.wrap (16 * stR l k b) + l (23 - k)) else stR l k b
def stRs (l : List Int) : List Int := [stR (fun i => l.getD i 0) 24 0, stR (fun i => l.getD i 0) 24 1, stR (fun i => l.getD i 0) 24 2, stR (fun i => l.getD i 0) 24 3]
end Go.Proofs.YtdcgfapededocaaGreat


namespace Go.Proofs.YtdcgfapededocaaGreat
open Go
/-- Copies of slices without elements. -/
def cloneOf (f : FuncId) : Option Blk :=
  if f = 153 then some ⟨false, 9, 1, [], none⟩ else
  if f = 217 then some ⟨false, 105, 3, [], none⟩ else
  none
/-- What a mark makes of the elements of a row of pairs of a text and numbers. -/
def numL : List AV → Option (List Int)
  | [] => some []
  | .int .i64 n :: l => (numL l).map (n :: ·)
  | _ => none
def pairL : List AV → Option (List (Tx × List Int))
  | [] => some []
  | .agg [.str s, .sl 1 ns] :: l => match numL ns, pairL l with
    | some n, some q => some ((s, n) :: q)
    | _, _ => none
  | _ => none
def markPX (t u : TypeId) (args : List AV) (H : List (Id × Blk)) : Option Res :=
  match args, H with
  | [.ref [0] 0 n, .int .i64 k], [([0], b)] => match pairL b.els with
    | some l => if b.isVar = false ∧ b.ty = t ∧ b.sz = 2 ∧ b.sub = some u ∧ l.length = n ∧ 0 < k ∧ k + szTN l ≤ 1099511627776 ∧ n ≤ 1073741824 then some { val := .int .i64 (k + szTN l), io := [⟨false, t, 2, (mkTN k l).map eTN, some u⟩] } else none
    | none => none
  | _, _ => none
open Classical in
/-- The record of counts: that of the sixes. -/
noncomputable def refsX (args : List AV) : Option Res :=
  match args with
  | [.sl 1 es] => match numL es with
    | some l => if l.length = 24 ∧ ∃ s, E CZ 203 [.int .i64 2, .sl 1 ((stRs l).map (.int .i64))] [] = some { val := .str s } then E CZ 203 [.int .i64 2, .sl 1 ((stRs l).map (.int .i64))] [] else none
    | none => none
  | _ => none
noncomputable def X0 (f : FuncId) (args : List AV) (H : List (Id × Blk)) : Option Res :=
  if f = 219 then (match H with | [] => refsX args | _ => none) else
  if f = 135 then markPX 110 3 args H else
  match args, H with
  | [.sl _ []], [] => (cloneOf f).map fun b => { val := .ref [0, 0, 0, 0] 0 0, own := [b] }
  | _, _ => none
noncomputable def CX : Ctx := { P := Tryz.prog, A := annA, X := X0 }
theorem CX_P : CX.P = Tryz.prog := rfl
theorem CX_A : CX.A = annA := rfl
attribute [go_sem] CX_P CX_A
end Go.Proofs.YtdcgfapededocaaGreat


namespace Go.Proofs.YtdcgfapededocaaGreat
open Go
set_option maxRecDepth 100000
set_option linter.unusedSimpArgs false
set_option linter.unusedVariables false
theorem cut_at {α : Type} {l : List α} {n : Nat} (h : n < l.length) : ∃ y u, l[n] = y ∧ l.drop n = y :: u ∧ l.drop (n + 1) = u := ⟨l[n], l.drop (n + 1), rfl, List.drop_eq_getElem_cons h, rfl⟩
theorem eqStringS_E (a b : List Tx) (ha : a.length ≤ 1073741824) : E CX 98 [.sl 1 (a.map .str), .sl 1 (b.map .str)] [] = some { val := .bool (decide (a = b)) } := by
  refine E_fin Tryz.f98 _ an98 rfl rfl rfl Tryz.func98 rfl (by kernel_rfl) ?_
  by_cases hl : a.length = b.length
  · simp [go_sem, hl]
    refine loop_list (fun X => fin CX _ _ X = _) a (fun n _ => True) (fun n (_ : Unit) => ⟨SS [(0, .sl 1 (a.map .str)), (1, .sl 1 (b.map .str)), (5, .int .i64 n)], HE⟩) (fun l n _ => if l = b.drop n then (.exit 0, ⟨SS [], HE⟩) else (.ret, ⟨SS [(4, .bool false)], HE⟩)) () trivial ?_ ?_ ?_ ?_ ?_
    · simp [go_sem]
    · intro n _ x t hn hx hd _
      have hn' : n < b.length := by omega
      obtain ⟨y, u, hy, hu, hu'⟩ := cut_at hn'
      have hx := hx hn
      by_cases hxy : x = y
      · simp [go_sem, hn, hn', hx, hy, hxy, hu, hu', wrap_id (n := (n : Int) + 1) (by omega)]
      · simp [go_sem, hn, hn', hx, hy, hxy, hu, hu']
    · intro _ _; simp [go_sem, hl]
    · intro _; simp [hl]
    · by_cases h : a = b <;> simp [go_sem, h]
  · have : a ≠ b := fun h => hl (by rw [h])
    have hl' : ¬ ((a.length : Int) = b.length) := by omega
    simp [go_sem, hl', this]
theorem fill_full {α β : Type} (f : α → β) (a : List α) : (a.map f).take a.length = a.map f := List.take_of_length_le (by simp)
theorem mid_set {α : Type} (A t : List α) (x y : α) (n : Nat) (h : A.length = n) : (A ++ x :: t).set n y = A ++ y :: t := by
  rw [List.set_append_right _ _ (by omega), h, Nat.sub_self, List.set_cons_zero]
theorem sharesL_app : ∀ (a b : List AV), AV.sharesL (a ++ b) = (AV.sharesL a || AV.sharesL b) := by
  intro a b
  induction a with
  | nil => simp [AV.sharesL]
  | cons c a ih => simp [AV.sharesL, ih, Bool.or_assoc]
theorem sharesL_map {α : Type} {f : α → AV} (h : ∀ x, (f x).shares = false) : ∀ l : List α, AV.sharesL (l.map f) = false := by
  intro l
  induction l with
  | nil => rfl
  | cons c l ih => simp [AV.sharesL, h, ih]
theorem sharesL_rep (v : AV) (h : v.shares = false) : ∀ n, AV.sharesL (List.replicate n v) = false := by
  intro n
  induction n with
  | zero => rfl
  | succ n ih => simp [List.replicate_succ, AV.sharesL, h, ih]
theorem sharesL_str (l : List Tx) : AV.sharesL (l.map .str) = false := sharesL_map (fun _ => rfl) l
theorem sharesL_int (l : List Int) : AV.sharesL (l.map (.int .i64)) = false := sharesL_map (fun _ => rfl) l
attribute [go_sem] fill_full List.take_of_length_le sharesL_app sharesL_str sharesL_int
theorem markText_E (k : Int) (h : 0 < k ∧ k ≤ 1099511627776) : E CX 185 [.int .i64 k] [] = some { val := .str (mt k) } := by
  obtain ⟨m, rfl⟩ : ∃ m : Nat, k = m := ⟨k.toNat, by omega⟩
  refine E_fin Tryz.f185 _ an185 rfl rfl rfl Tryz.func185 rfl (by kernel_rfl) ?_
  have h0 : ¬ (m : Int) ≤ 0 := by omega
  simp [go_sem, h0, show m ≠ 0 by omega]
  refine loop_at (fun X => fin CX _ _ X = _) (fun x : Nat × Tx => x.2.length + x.1 ≤ 1099511627776) (fun x => ⟨SS [(0, .int .i64 x.1), (3, .str x.2)], HE⟩) (fun x => (.exit 0, ⟨SS [(3, .str (digs x.1 x.2))], HE⟩)) (fun x => x.1) (m, []) (by simp; omega) ?_ ?_ ?_
  · simp [go_sem]
  · rintro ⟨j, out⟩ hI
    simp only at hI
    by_cases hj : j = 0
    · subst hj
      have : digs 0 out = out := by unfold digs; simp
      simp [go_sem, this]
    · have e1 : digs j out = digs (j / 10) (UInt8.ofNat (48 + (j : Int) % 10).toNat :: out) := by rw [digs]; simp [hj]
      have e2 : ((j : Int).tmod 10) = (j : Int) % 10 := Int.tmod_eq_emod_of_nonneg (by omega)
      have e3 : ((j : Int).tdiv 10) = ((j / 10 : Nat) : Int) := by rw [Int.tdiv_eq_ediv_of_nonneg (by omega)]; omega
      have e4 : IntKind.i64.wrap (48 + (j : Int) % 10) = 48 + (j : Int) % 10 := wrap_id (by omega)
      have e5 : IntKind.u8.wrap (48 + (j : Int) % 10) = 48 + (j : Int) % 10 := u8_id (by omega)
      have e6 : IntKind.i64.wrap ((j / 10 : Nat) : Int) = ((j / 10 : Nat) : Int) := wrap_id (by omega)
      have e6' : IntKind.i64.wrap ((j : Int) / 10) = (j : Int) / 10 := wrap_id (by omega)
      simp [go_sem, Nat.pos_of_ne_zero hj, e2, e3, e4, e5, e6, e6', show 48 + (j : Int) % 10 < 256 by omega, show 0 ≤ 48 + (j : Int) % 10 by omega, show 1 + out.length ≤ 4611686018427387904 by omega]
      refine ⟨j / 10, UInt8.ofNat (48 + (j : Int) % 10).toNat :: out, by simp only [List.length_cons]; omega, by omega, ?_, by rw [e1]⟩
      simp
  · have := digs_len m []
    simp only [List.length_nil] at this
    simp [go_sem, mt, show 1 + (digs m []).length ≤ 4611686018427387904 by omega]
def mtL (k : Int) (n : Nat) : List Tx := (List.range n).map fun i : Nat => mt (k + i)
theorem mtL_succ (k : Int) (n : Nat) : mtL k (n + 1) = mtL k n ++ [mt (k + n)] := by simp [mtL, List.range_succ]
theorem mtL_length (k : Int) (n : Nat) : (mtL k n).length = n := by simp [mtL]
theorem markStringS_E (l : List Tx) (k : Int) (h : 0 < k ∧ k + l.length ≤ 1099511627776) : E CX 132 [.ref [0] 0 l.length, .int .i64 k] [([0], ⟨false, 9, 1, l.map .str, none⟩)] = some { val := .int .i64 (k + l.length), io := [⟨false, 9, 1, (mtL k l.length).map .str, none⟩] } := by
  refine E_fin Tryz.f132 _ an132 rfl rfl rfl Tryz.func132 rfl (by kernel_rfl) ?_
  simp [go_sem]
  refine loop_list (fun X => fin CX _ _ X = _) l (fun n _ => True) (fun n (_ : Unit) => ⟨SS [(0, .ref [0] 0 l.length), (1, .int .i64 (k + n)), (5, .int .i64 n)], HS [([0], ⟨false, 9, 1, (mtL k n ++ l.drop n).map .str, none⟩)]⟩) (fun _ n _ => (.exit 0, ⟨SS [(1, .int .i64 (k + l.length))], HS [([0], ⟨false, 9, 1, (mtL k l.length).map .str, none⟩)]⟩)) () trivial ?_ ?_ ?_ ?_ ?_
  · simp [go_sem, mtL]
  · intro n _ x t hn hx hd _
    have hs := mid_set ((mtL k n).map AV.str) (t.map .str) (.str x) (.str (mt (k + n))) n (by simp [mtL_length])
    have hd' : l.drop (n + 1) = t := by rw [← List.drop_drop, hd]; rfl
    simp [go_sem, hn, hd, hd', hs, mtL_length, mtL_succ, markText_E (k + n) (by omega), wrap_id (n := (n : Int) + 1) (by omega), wrap_id (n := k + ((n : Int) + 1)) (by omega), Int.add_assoc]
  · intro _ _; simp [go_sem, mtL_length]
  · intro _; simp
  · simp [go_sem, mtL_length]
theorem markStringS_nil (k : Int) : E CX 132 [.sl 1 [], .int .i64 k] [] = some { val := .int .i64 k } := by
  refine E_fin Tryz.f132 _ an132 rfl rfl rfl Tryz.func132 rfl (by kernel_rfl) ?_
  simp [go_sem]
  refine loop_for (fun X => fin CX _ _ X = _) ([] : List Unit) (fun n _ => True) (fun n (_ : Unit) => ⟨SS [(0, .sl 1 []), (1, .int .i64 k), (5, .int .i64 n)], HE⟩) (fun _ n _ => (.exit 0, ⟨SS [(1, .int .i64 k)], HE⟩)) () trivial ?_ ?_ ?_ ?_ ?_
  · simp [go_sem]
  · intro R n _ x t hn; simp at hn
  · intro _ _; simp [go_sem]
  · intro _; simp
  · simp [go_sem]
theorem heldStringS_E (n : Nat) (k : Int) (h : 0 < k ∧ k + n ≤ 1099511627776) : E CX 136 [.sl 1 ((mtL k n).map .str), .int .i64 k] [] = some { val := .int .i64 (k + n) } := by
  refine E_fin Tryz.f136 _ an136 rfl rfl rfl Tryz.func136 rfl (by kernel_rfl) ?_
  simp [go_sem]
  refine loop_list (fun X => fin CX _ _ X = _) (mtL k n) (fun n _ => True) (fun j (_ : Unit) => ⟨SS [(0, .sl 1 ((mtL k n).map .str)), (1, .int .i64 (k + j)), (5, .int .i64 j)], HE⟩) (fun _ _ _ => (.exit 0, ⟨SS [(1, .int .i64 (k + n))], HE⟩)) () trivial ?_ ?_ ?_ ?_ ?_
  · simp [go_sem]
  · intro j _ x t hj hx hd _
    have hx := hx hj
    have hj' : j < n := by simpa [mtL_length] using hj
    have hx' : x = mt (k + j) := by rw [← hx]; simp [mtL]
    subst hx'
    simp [go_sem, hj, hx, mtL_length, hj', markText_E (k + j) (by omega), wrap_id (n := (j : Int) + 1) (by omega), wrap_id (n := k + ((j : Int) + 1)) (by omega), Int.add_assoc]
  · intro _ _; simp [go_sem, mtL_length]
  · intro _; simp
  · simp [go_sem, mtL_length]
end Go.Proofs.YtdcgfapededocaaGreat



namespace Go.Proofs.YtdcgfapededocaaGreat
open Go
set_option maxRecDepth 100000
def inn (n lo hi : Int) : Bool := decide (lo ≤ n) && decide (n ≤ hi)
theorem within_E (n lo hi : Int) : E CX 36 [.int .i64 n, .int .i64 lo, .int .i64 hi] [] = some { val := .bool (inn n lo hi) } := by
  refine E_fin Tryz.f36 _ an36 rfl rfl rfl Tryz.func36 rfl (by kernel_rfl) ?_
  by_cases h : lo ≤ n <;> simp [go_sem, h, inn]
theorem l01In_E (n lo hi : Int) : E CX 27 [.int .i64 n, .int .i64 lo, .int .i64 hi] [] = some { val := .bool (inn n lo hi) } := by
  refine E_fin Tryz.f27 _ an27 rfl rfl rfl Tryz.func27 rfl (by kernel_rfl) ?_
  by_cases h : lo ≤ n <;> simp [go_sem, h, inn]
theorem isHost_E (n : Int) : E CX 49 [.int .i64 n] [] = some { val := .bool (inn n 0 3) } := by
  refine E_fin Tryz.f49 _ an49 rfl rfl rfl Tryz.func49 rfl (by kernel_rfl) ?_
  simp [go_sem, within_E]
theorem isPlace_E (n : Int) : E CX 85 [.int .i64 n] [] = some { val := .bool (inn n 0 63) } := by
  refine E_fin Tryz.f85 _ an85 rfl rfl rfl Tryz.func85 rfl (by kernel_rfl) ?_
  simp [go_sem, within_E]
theorem isSector_E (s : List UInt8) : E CX 82 [.str s] [] = some { val := .bool (decide (s.length ≤ 80)) } := by
  refine E_fin Tryz.f82 _ an82 rfl rfl rfl Tryz.func82 rfl (by kernel_rfl) ?_
  simp [go_sem]
  omega
def ioOK (x : Io) : Bool := inn x.host 0 3 && inn x.at_ 0 63 && decide (x.data.length ≤ 80)
def firstAt {α : Type} (q : α → Bool) : List α → Nat → Option Nat
  | [], _ => none
  | x :: l, n => if q x then some n else firstAt q l (n + 1)
def idxOf (o : Option Nat) : Int := match o with
  | some k => k
  | none => -1
end Go.Proofs.YtdcgfapededocaaGreat



namespace Go.Proofs.YtdcgfapededocaaGreat
open Go
set_option maxRecDepth 100000
set_option linter.unusedSimpArgs false
set_option linter.unusedVariables false
def top : Nat := 9223372036854775807
end Go.Proofs.YtdcgfapededocaaGreat



namespace Go.Proofs.YtdcgfapededocaaGreat
open Go
set_option maxRecDepth 100000
set_option linter.unusedSimpArgs false
set_option linter.unusedVariables false
theorem sharesL_eIo (l : List Io) : AV.sharesL (l.map eIo) = false := sharesL_map (fun _ => by simp [eIo, go_sem]) l
theorem sharesL_repeIo (n : Nat) (x : Io) : AV.sharesL (List.replicate n (eIo x)) = false := sharesL_rep _ (by simp [eIo, go_sem]) n
attribute [go_sem] sharesL_eIo sharesL_repeIo
theorem eqIo_E (a b : Io) : E CX 159 [eIo a, eIo b] [] = some { val := .bool (decide (a = b)) } := by
  refine E_fin Tryz.f159 _ an159 rfl rfl rfl Tryz.func159 rfl (by kernel_rfl) ?_
  obtain ⟨a0, a1, a2⟩ := a
  obtain ⟨b0, b1, b2⟩ := b
  by_cases c0 : a0 = b0
  · by_cases c1 : a1 = b1
    · by_cases c2 : a2 = b2
      · simp [go_sem, eIo, c0, c1, c2]
      · simp [go_sem, eIo, c0, c1, c2]
    · simp [go_sem, eIo, c0, c1]
  · simp [go_sem, eIo, c0]
theorem eqIoS_E (a b : List Io) (ha : a.length ≤ 1073741824) : E CX 99 [.sl 3 (a.map eIo), .sl 3 (b.map eIo)] [] = some { val := .bool (decide (a = b)) } := by
  refine E_fin Tryz.f99 _ an99 rfl rfl rfl Tryz.func99 rfl (by kernel_rfl) ?_
  by_cases hl : a.length = b.length
  · simp [go_sem, hl]
    refine loop_list (fun X => fin CX _ _ X = _) a (fun n _ => True) (fun n (_ : Unit) => ⟨SS [(0, .sl 3 (a.map eIo)), (1, .sl 3 (b.map eIo)), (5, .int .i64 n)], HE⟩) (fun l n _ => if l = b.drop n then (.exit 0, ⟨SS [], HE⟩) else (.ret, ⟨SS [(4, .bool false)], HE⟩)) () trivial ?_ ?_ ?_ ?_ ?_
    · simp [go_sem]
    · intro n _ x t hn hx hd _
      have hn' : n < b.length := by omega
      obtain ⟨y, u, hy, hu, hu'⟩ := cut_at hn'
      have hx := hx hn
      by_cases hxy : x = y
      · subst hxy
        have hE := eqIo_E x x
        simp only [eIo] at hE
        simp [go_sem, hn, hn', hx, hy, hu, hu', eIo, hE, wrap_id (n := (n : Int) + 1) (by omega)]
      · have hE := eqIo_E x y
        simp only [eIo] at hE
        simp [go_sem, hn, hn', hx, hy, hu, hu', eIo, hE, hxy]
    · intro _ _; simp [go_sem, hl]
    · intro _; simp [hl]
    · by_cases h : a = b <;> simp [go_sem, h]
  · have : a ≠ b := fun h => hl (by rw [h])
    have hl' : ¬ ((a.length : Int) = b.length) := by omega
    simp [go_sem, hl', this]
def mkIo (k : Int) (n : Nat) : List Io := (List.range n).map fun i : Nat => ⟨k + 3 * i + 0, k + 3 * i + 1, mt (k + 3 * i + 2)⟩
theorem mkIo_succ (k : Int) (n : Nat) : mkIo k (n + 1) = mkIo k n ++ [⟨k + 3 * n + 0, k + 3 * n + 1, mt (k + 3 * n + 2)⟩] := by simp [mkIo, List.range_succ]
theorem mkIo_length (k : Int) (n : Nat) : (mkIo k n).length = n := by simp [mkIo]
theorem markIoS_E (l tl : List Io) (k : Int) (h : 0 < k ∧ k + 3 * l.length ≤ 1099511627776) : E CX 133 [.ref [0] 0 l.length, .int .i64 k] [([0], ⟨false, 105, 3, (l ++ tl).map eIo, none⟩)] = some { val := .int .i64 (k + 3 * l.length), io := [⟨false, 105, 3, (mkIo k l.length ++ tl).map eIo, none⟩] } := by
  refine E_fin Tryz.f133 _ an133 rfl rfl rfl Tryz.func133 rfl (by kernel_rfl) ?_
  simp [go_sem]
  refine loop_list (fun X => fin CX _ _ X = _) l (fun n _ => True) (fun n (_ : Unit) => ⟨SS [(0, .ref [0] 0 l.length), (1, .int .i64 (k + 3 * n)), (5, .int .i64 n)], HS [([0], ⟨false, 105, 3, (mkIo k n).map eIo ++ ((l.drop n).map eIo ++ tl.map eIo), none⟩)]⟩) (fun _ n _ => (.exit 0, ⟨SS [(1, .int .i64 (k + 3 * l.length))], HS [([0], ⟨false, 105, 3, (mkIo k l.length).map eIo ++ tl.map eIo, none⟩)]⟩)) () trivial ?_ ?_ ?_ ?_ ?_
  · simp [go_sem, mkIo]
  · intro n _ x t hn hx hd _
    have hs : ∀ (v w : AV), ((mkIo k n).map eIo ++ v :: (t.map eIo ++ tl.map eIo)).set n w = (mkIo k n).map eIo ++ w :: (t.map eIo ++ tl.map eIo) := fun v w => mid_set _ _ _ _ n (by simp [mkIo_length])
    have hg : ∀ (v : AV), ((mkIo k n).map eIo ++ v :: (t.map eIo ++ tl.map eIo))[n]? = some v := fun v => by
      rw [List.getElem?_append_right (by simp [mkIo_length])]; simp [mkIo_length]
    have hd' : l.drop (n + 1) = t := by rw [← List.drop_drop, hd]; rfl
    have hg' : ∀ (v : AV) (h : n < ((mkIo k n).map eIo ++ v :: (t.map eIo ++ tl.map eIo)).length), ((mkIo k n).map eIo ++ v :: (t.map eIo ++ tl.map eIo))[n]'h = v := fun v h => by
      have := hg v
      rw [List.getElem?_eq_getElem h] at this
      exact Option.some.inj this
    simp [go_sem, hn, hd, hd', eIo, hs, hg, hg', mkIo_length, mkIo_succ, markText_E (k + (3 * n + 2)) (by omega), wrap_id (n := (n : Int) + 1) (by omega), wrap_id (n := k + (3 * (n : Int) + 1)) (by omega), wrap_id (n := k + (3 * (n : Int) + 2)) (by omega), wrap_id (n := k + (3 * (n : Int) + 3)) (by omega), Int.add_assoc, Int.mul_add]
  · intro _ _; simp [go_sem, mkIo_length]
  · intro _; simp
  · simp [go_sem, mkIo_length]
theorem markIoS_nil (k : Int) : E CX 133 [.sl 3 [], .int .i64 k] [] = some { val := .int .i64 k } := by
  refine E_fin Tryz.f133 _ an133 rfl rfl rfl Tryz.func133 rfl (by kernel_rfl) ?_
  simp [go_sem]
  refine loop_for (fun X => fin CX _ _ X = _) ([] : List Unit) (fun n _ => True) (fun n (_ : Unit) => ⟨SS [(0, .sl 3 []), (1, .int .i64 k), (5, .int .i64 n)], HE⟩) (fun _ n _ => (.exit 0, ⟨SS [(1, .int .i64 k)], HE⟩)) () trivial ?_ ?_ ?_ ?_ ?_
  · simp [go_sem]
  · intro R n _ x t hn; simp at hn
  · intro _ _; simp [go_sem]
  · intro _; simp
  · simp [go_sem]
theorem heldIoS_E (n : Nat) (k : Int) (h : 0 < k ∧ k + 3 * n ≤ 1099511627776) : E CX 137 [.sl 3 ((mkIo k n).map eIo), .int .i64 k] [] = some { val := .int .i64 (k + 3 * n) } := by
  refine E_fin Tryz.f137 _ an137 rfl rfl rfl Tryz.func137 rfl (by kernel_rfl) ?_
  simp [go_sem]
  refine loop_list (fun X => fin CX _ _ X = _) (mkIo k n) (fun n _ => True) (fun j (_ : Unit) => ⟨SS [(0, .sl 3 ((mkIo k n).map eIo)), (1, .int .i64 (k + 3 * j)), (5, .int .i64 j)], HE⟩) (fun _ _ _ => (.exit 0, ⟨SS [(1, .int .i64 (k + 3 * n))], HE⟩)) () trivial ?_ ?_ ?_ ?_ ?_
  · simp [go_sem]
  · intro j _ x t hj hx hd _
    have hx := hx hj
    have hj' : j < n := by simpa [mkIo_length] using hj
    have hx' : x = ⟨k + 3 * j + 0, k + 3 * j + 1, mt (k + 3 * j + 2)⟩ := by rw [← hx]; simp [mkIo]
    subst hx'
    simp [go_sem, hj, hx, hj', eIo, mkIo_length, markText_E (k + (3 * j + 2)) (by omega), wrap_id (n := (j : Int) + 1) (by omega), wrap_id (n := k + (3 * (j : Int) + 1)) (by omega), wrap_id (n := k + (3 * (j : Int) + 2)) (by omega), wrap_id (n := k + (3 * (j : Int) + 3)) (by omega), Int.add_assoc, Int.mul_add]
  · intro _ _; simp [go_sem, mkIo_length]
  · intro _; simp
  · simp [go_sem, mkIo_length]
end Go.Proofs.YtdcgfapededocaaGreat



namespace Go.Proofs.YtdcgfapededocaaGreat
open Go
set_option maxRecDepth 100000
set_option linter.unusedSimpArgs false
set_option linter.unusedVariables false
structure Disk where
  ss : List Tx
  ps : List Io
  deriving Inhabited, DecidableEq
def eDisk (d : Disk) : AV := .agg [.sl 1 (d.ss.map .str), .sl 3 (d.ps.map eIo)]
def ioLen (x : Io) : Nat := x.data.length
/-- What is handed in fits the machine. -/
structure Fits (d : Disk) : Prop where
  ss : d.ss.length ≤ top
  s : ∀ s ∈ d.ss, s.length ≤ top
  ps : d.ps.length ≤ top
  p : ∀ x ∈ d.ps, x.data.length ≤ top ∧ In64 x.host ∧ In64 x.at_
theorem eqDisk_E (a b : Disk) (h1 : a.ss.length ≤ 1073741824) (h2 : a.ps.length ≤ 1073741824) : E CX 41 [eDisk a, eDisk b] [] = some { val := .bool (decide (a = b)) } := by
  refine E_fin Tryz.f41 _ an41 rfl rfl rfl Tryz.func41 rfl (by kernel_rfl) ?_
  have e1 := eqStringS_E a.ss b.ss h1
  have e2 := eqIoS_E a.ps b.ps h2
  obtain ⟨s, p⟩ := a
  obtain ⟨s', p'⟩ := b
  simp only at e1 e2
  by_cases c1 : s = s'
  · subst c1
    by_cases c2 : p = p'
    · subst c2
      simp [go_sem, eDisk, e1, e2]
    · simp [go_sem, eDisk, e1, e2, c2]
  · simp [go_sem, eDisk, e1, c1]
theorem markDisk_E (ss : List Tx) (ps tl : List Io) (k : Int) (h : 0 < k ∧ k + ss.length + 3 * ps.length ≤ 1099511627776) : E CX 60 [.agg [.ref [0, 0] 0 ss.length, .ref [0, 1] 0 ps.length], .int .i64 k] [([0, 0], ⟨false, 9, 1, ss.map .str, none⟩), ([0, 1], ⟨false, 105, 3, (ps ++ tl).map eIo, none⟩)] =
    some { val := .int .i64 (k + ss.length + 3 * ps.length), io := [⟨false, 9, 1, (mtL k ss.length).map .str, none⟩, ⟨false, 105, 3, (mkIo (k + ss.length) ps.length ++ tl).map eIo, none⟩] } := by
  refine E_fin Tryz.f60 _ an60 rfl rfl rfl Tryz.func60 rfl (by kernel_rfl) ?_
  have e1 := markStringS_E ss k (by omega)
  have e2 := markIoS_E ps tl (k + ss.length) (by omega)
  simp only [List.map_append] at e2
  simp [go_sem, e1, e2]
theorem markDisk_nil (k : Int) : E CX 60 [.agg [.sl 1 [], .sl 3 []], .int .i64 k] [] = some { val := .int .i64 k } := by
  refine E_fin Tryz.f60 _ an60 rfl rfl rfl Tryz.func60 rfl (by kernel_rfl) ?_
  simp [go_sem, markStringS_nil, markIoS_nil]
theorem heldDisk_E (n m : Nat) (k : Int) (h : 0 < k ∧ k + n + 3 * m ≤ 1099511627776) : E CX 63 [eDisk ⟨mtL k n, mkIo (k + n) m⟩, .int .i64 k] [] = some { val := .int .i64 (k + n + 3 * m) } := by
  refine E_fin Tryz.f63 _ an63 rfl rfl rfl Tryz.func63 rfl (by kernel_rfl) ?_
  have e1 := heldStringS_E n k (by omega)
  have e2 := heldIoS_E m (k + n) (by omega)
  simp [go_sem, eDisk, e1, e2, show ¬ k + n < 0 by omega, show ¬ k + n + 3 * m < 0 by omega]
end Go.Proofs.YtdcgfapededocaaGreat



namespace Go.Proofs.YtdcgfapededocaaGreat
open Go
set_option maxRecDepth 100000
set_option linter.unusedSimpArgs false
set_option linter.unusedVariables false
structure Move where
  kind : Int
  at_ : Int
  data : List UInt8
  deriving Inhabited, DecidableEq
def eMove (x : Move) : AV := .agg [.int .i64 (x.kind), .int .i64 (x.at_), .str (x.data)]
theorem sharesL_eMove (l : List Move) : AV.sharesL (l.map eMove) = false := sharesL_map (fun _ => by simp [eMove, go_sem]) l
theorem sharesL_repeMove (n : Nat) (x : Move) : AV.sharesL (List.replicate n (eMove x)) = false := sharesL_rep _ (by simp [eMove, go_sem]) n
attribute [go_sem] sharesL_eMove sharesL_repeMove
end Go.Proofs.YtdcgfapededocaaGreat



namespace Go.Proofs.YtdcgfapededocaaGreat
open Go
set_option maxRecDepth 100000
theorem in64_of {n : Int} (h : IntKind.i64.min ≤ n ∧ n ≤ IntKind.i64.max) : In64 n := by
  rw [show IntKind.i64.min = -9223372036854775808 from rfl, show IntKind.i64.max = 9223372036854775807 from rfl] at h
  unfold In64; omega
theorem cells_int : Tryz.prog.cellsOf 3 = 1 := by kernel_rfl
theorem told_int : ∀ bs, Typed Tryz.prog 3 bs → ∃ x : Int, mkVal (tagg Tryz.prog 3) bs = .int .i64 x ∧ In64 x := by
  intro bs h
  obtain ⟨x, rfl, w⟩ := typed_int Tryz.underlying3 h
  refine ⟨x, by rw [show tagg Tryz.prog 3 = false by kernel_rfl]; rfl, in64_of w⟩
end Go.Proofs.YtdcgfapededocaaGreat



namespace Go.Proofs.YtdcgfapededocaaGreat
open Go Go.RowKit
set_option linter.unusedVariables false
def oneMap (c : Nat) : Map := ⟨fun x => if x = [0] then some (c, 1) else none, fun _ _ => False⟩
theorem one_foot {c k : Nat} {x : Id} (h : Foot (oneMap c) x k) : x = [0] ∧ k = c := by
  rcases h with ⟨s, h⟩ | h
  · replace h : (if x = [0] then some (c, 1) else none) = some (k, s) := h
    split at h
    · rename_i e; injection h with h; injection h with h _; exact ⟨e, h.symm⟩
    · cases h
  · exact h.elim
theorem mapI_getD (l : List Int) (i : Nat) (h : i < l.length) : (l.map (AV.int .i64)).getD i .dead = .int .i64 l[i] := by simp [h]
theorem nest_mark {P : Program} {f : FuncId} {np : Nat} {w : World} {ι : Map} {g : Heap} (I : Inv w g ι) {id : Id} {b : Blk} (hb : g id = some b) (hv : b.isVar = false) {t : TypeId} (hsub : b.sub = some t) {i j : Nat} {l l' : List Int} {cs0 : List AV} (hi : i < b.els.length) (hj : j < b.sz)
    (hag : b.els.getD i .dead = .agg cs0) (hcell : cs0.getD j .dead = .sl 1 (l.map (.int .i64))) (hne : l ≠ []) (hl : l'.length = l.length) {k k' : Int}
    (hS : Sound P f [.ref [0] 0 l.length, .int .i64 k] [([0], ⟨false, t, 1, l.map (.int .i64), none⟩)] { val := .int .i64 k', io := [⟨false, t, 1, l'.map (.int .i64), none⟩] })
    (hflat : ∀ i' j', i' < b.els.length → j' < b.sz → slC ((cellsOf (b.els.getD i' .dead)).getD j' .dead) = true) {blk sz : Nat} (hι : ι id = some (blk, sz)) :
    ∃ v, w.cell? ⟨blk, i * b.sz + j, none⟩ = some v ∧ v.oneCell' = true ∧ Calls P f #[v, .int .i64 k] w fun e w' => e = .returned (.int .i64 k') ∧ Done np g w ι { val := .int .i64 k', ups := [(id, { b with els := b.els.set i (.agg (cs0.set j (.sl 1 (l'.map (.int .i64))))) })] } (.int .i64 k') w' ι := by
  rcases I.blk id b hb with ⟨_, _, h3⟩ | ⟨blk', cs, h1, h2, h3, h4, h5, h6, h8, h7, h9⟩
  · rw [h3] at hι; cases hι
  rw [hι] at h1; injection h1 with h1; injection h1 with e1 e2; subst e1
  have hm := Nat.mul_le_mul_right b.sz (Nat.succ_le_of_lt hi)
  rw [Nat.succ_mul] at hm
  have hcl : cellsOf (b.els.getD i .dead) = cs0 := by rw [hag]; rfl
  have hc0 : cs0.length = b.sz := by rw [← hcl]; exact h5 i hi
  have hN := h9 hv t hsub
  have hlm : ∃ y ys, l.map (AV.int .i64) = y :: ys := by
    cases l with
    | nil => exact absurd rfl hne
    | cons y ys => exact ⟨_, _, rfl⟩
  have hsl : slAt b.sz b.els i j = some 1 := by
    unfold slAt
    rw [if_pos ⟨hi, hj⟩, hcl]
    unfold nestAt
    obtain ⟨y, ys, h⟩ := hlm
    rw [hcell, h]
  obtain ⟨hn1, c, len, cap, cs1, hve, hc1, hlc, hcap⟩ := hN.1 i j 1 hsl
  have hve : cs.getD (i * b.sz + j) undef = .slice (some ⟨c, 0, none⟩) len cap := hve
  have hn1 : ι.n id (blkOf (cs.getD (i * b.sz + j) undef)) := hn1
  have hr := h7 i j hi hj
  rw [hv, hcl, hcell] at hr
  have hblk : blkOf (cs.getD (i * b.sz + j) undef) = c := by rw [hve]; rfl
  have hnc : ι.n id c := by rw [← hblk]; exact hn1
  have hcb : blk ≠ c := fun e => I.sep _ _ _ hι (by rw [e]; exact hnc)
  refine ⟨cs.getD (i * b.sz + j) undef, cell?_of_cells h2 (by omega), h8 _ (by omega), ?_⟩
  generalize hvv : cs.getD (i * b.sz + j) undef = v at hr hve
  subst hve
  generalize hes : l.map (AV.int .i64) = es at hr
  cases hr with
  | slE => exact absurd (by simpa using hes) hne
  | sl cell hn hlen hcp hob hbb hmm hcc hcel hc11 hrr =>
  subst hes
  have hlen : len = l.length := by rw [hlen]; simp
  subst hlen
  have hcap' : cap ≤ cs1.size := by omega
  have hcs1 : ∀ a, a < l.length → cs1.getD a undef = cell a 0 := by
    intro a ha
    have h := hcel a 0 (by simpa using ha) (by omega)
    rw [cell?_of_cells hc1 (by omega)] at h
    injection h with h
    simpa using h
  have I1 : Inv w (heapOf [([0], ⟨false, t, 1, l.map (.int .i64), none⟩)]) (oneMap c) := by
    refine ⟨fun x b1 hx => ?_, fun x x' q h h' => by rw [(one_foot h).1, (one_foot h').1], fun _ _ _ _ h => h, fun x q h => ?_, fun x b1 hx => ?_⟩
    · simp only [heapOf, HU] at hx
      split at hx
      · rename_i e; subst e
        injection hx with hx; subst hx
        refine .inr ⟨c, cs1, rfl, hc1, by omega, (fun h => by cases h), fun a ha => ?_, by simp; omega, fun o ho => ?_, fun a d ha hd => ?_, .none rfl⟩
        · have ha : a < l.length := by simpa using ha
          show (cellsOf ((l.map (AV.int .i64)).getD a .dead)).length = 1
          rw [mapI_getD l a ha]; rfl
        · have ho : o < l.length := by simpa using ho
          rw [hcs1 o ho]; exact hc11 o 0 (by simpa using ho) (by omega)
        · have ha : a < l.length := by simpa using ha
          have hd : d = 0 := by simpa using hd
          subst hd
          have := hrr a 0 (by simpa using ha) (by omega)
          show Rep w _ noMap ((cellsOf ((l.map (AV.int .i64)).getD a .dead)).getD 0 .dead) (cs1.getD (a * 1 + 0) undef)
          rw [mapI_getD l a ha] at this ⊢
          rw [Nat.mul_one, Nat.add_zero, hcs1 a ha]
          generalize cell a 0 = y at this
          cases this
          exact .int _ _
      · cases hx
    · rw [(one_foot h).2]; exact (Array.getElem?_eq_some_iff.1 hc1).1
    · simp only [heapOf, HU] at hx
      split at hx
      · rename_i e; subst e; rfl
      · cases hx
  have hshape : w.shape? c = some (t, cs1.size) := by simp [World.shape?, hc1]
  refine (hS.2 w (oneMap c) #[.slice (some ⟨c, 0, none⟩) l.length cap, .int .i64 k] rfl I1 (fun a ha => ?_) (fun x q h => .inr (by rw [(one_foot h).1]; simp [keys])) (fun x hx => by simp [keys] at hx; subst hx; rfl) (by simp [keys]) (fun x hx => by simp [keys] at hx; subst hx; simp)).mono fun e w' hh => ?_
  · have : a = 0 ∨ a = 1 := by simp at ha; omega
    rcases this with rfl | rfl
    · have := Rep.ref (w := w) (O := Own (oneMap c)) (ι := oneMap c) (id := [0]) (off := 0) (len := l.length) (cap := cap) (b := c) (sz := 1) (n := cs1.size) (ty := t) rfl hshape hcp (by omega)
      simpa using this
    · simpa using Rep.int (w := w) (O := Own (oneMap c)) (ι := oneMap c) .i64 k
  obtain ⟨rv, ιo, rfl, L⟩ := hh
  have hval := L.val
  generalize hrv : rv = rv' at hval
  cases hval
  refine ⟨rfl, ?_⟩
  have hx : Ext (fun q => q = c) w w' := L.ext.mono fun q _ ⟨x, _, h⟩ => (one_foot h).2
  have hio := L.io 0 (by simp)
  simp only [List.map_cons, List.map_nil, List.getD_cons_zero] at hio
  rcases hio with ⟨q1, _, _⟩ | ⟨c2, cs2, q1, q2, _, _, _, q6, q8, q7, _⟩
  · have : l' = [] := by simpa using q1
    rw [this] at hl; exact absurd (List.eq_nil_of_length_eq_zero hl.symm) hne
  have q1 : (if ([0] : Id) = [0] then some (c, 1) else none) = some (c2, 1) := q1
  rw [if_pos rfl] at q1
  injection q1 with q1; injection q1 with q1 _; subst q1
  have q2 : w'.heap[c]? = some (.cells cs2 t (0, 0)) := q2
  have q6 : l'.length ≤ cs2.size := by simpa using q6
  have hsz2 : cs2.size = cs1.size := by
    have := hx.shape c (Array.getElem?_eq_some_iff.1 hc1).1
    simp only [World.shape?, q2, hc1] at this
    injection this with this; injection this
  have hbk : w'.heap[blk]? = w.heap[blk]? := hx.block blk (I.live' hι) hcb
  have hgd : ∀ i', (b.els.set i (.agg (cs0.set j (.sl 1 (l'.map (.int .i64)))))).getD i' .dead = if i' = i then .agg (cs0.set j (.sl 1 (l'.map (.int .i64)))) else b.els.getD i' .dead := by
    intro i'
    simp only [List.getD_eq_getElem?_getD, List.getElem?_set]
    by_cases h : i = i'
    · subst h; simp [hi]
    · have : ¬ i' = i := fun e => h e.symm
      simp [h, this]
  have hcg : ∀ i' j', i' < b.els.length → j' < b.sz → (i' = i ∧ j' = j ∧ (cellsOf ((b.els.set i (.agg (cs0.set j (.sl 1 (l'.map (.int .i64)))))).getD i' .dead)).getD j' .dead = .sl 1 (l'.map (.int .i64))) ∨ (¬ (i' = i ∧ j' = j) ∧ (cellsOf ((b.els.set i (.agg (cs0.set j (.sl 1 (l'.map (.int .i64)))))).getD i' .dead)).getD j' .dead = (cellsOf (b.els.getD i' .dead)).getD j' .dead) := by
    intro i' j' hi' hj'
    rw [hgd]
    by_cases h : i' = i
    · subst h
      rw [if_pos rfl, hcl]
      simp only [cellsOf, List.getD_eq_getElem?_getD, List.getElem?_set]
      by_cases h2 : j = j'
      · subst h2; left; simp [hc0, hj]
      · right; simp [h2]; exact fun e => h2 e.symm
    · rw [if_neg h]; exact .inr ⟨fun e => h e.1, rfl⟩
  have hlm' : ∃ y ys, l'.map (AV.int .i64) = y :: ys := by
    cases l' with
    | nil => exact absurd (List.eq_nil_of_length_eq_zero (by simpa using hl.symm)) hne
    | cons y ys => exact ⟨_, _, rfl⟩
  have hsame : ∀ i' j', slAt b.sz (b.els.set i (.agg (cs0.set j (.sl 1 (l'.map (.int .i64)))))) i' j' = slAt b.sz b.els i' j' := by
    intro i' j'
    unfold slAt
    rw [List.length_set]
    by_cases hc : i' < b.els.length ∧ j' < b.sz
    · rw [if_pos hc, if_pos hc]
      unfold nestAt
      rcases hcg i' j' hc.1 hc.2 with ⟨rfl, rfl, h⟩ | ⟨_, h⟩
      · rw [h, hcl, hcell]
        obtain ⟨y, ys, e⟩ := hlm
        obtain ⟨y', ys', e'⟩ := hlm'
        rw [e, e']
      · rw [h]
    · rw [if_neg hc, if_neg hc]
  refine ⟨hx.mono fun q _ hq => ⟨id, by simp [keys], by subst hq; exact .inr hnc⟩, .int _ _, fun x b1 hx1 => ?_, fun _ _ _ => ⟨rfl, rfl⟩, fun _ _ _ => rfl, fun _ _ _ h => .inl h, fun _ _ h => .inl h, I.inj, I.sep, fun x q h => Nat.lt_of_lt_of_le (I.live x q h) hx.size, (by intro _ h; cases h), fun x _ hu => ?_, by simp [keys], fun x hx1 => ?_, fun _ _ => ⟨rfl, rfl⟩⟩
  · simp at hx1; obtain ⟨rfl, rfl⟩ := hx1
    refine .inr ⟨blk, cs, hι.trans (by rw [e2]), by rw [hbk]; exact h2, h3, (fun h => absurd (hv.symm.trans h) (by simp)), fun i' hi' => ?_, by simpa using h6, by simpa using h8, fun i' j' hi' hj' => ?_, fun _ t' ht' => ?_⟩
    · simp only [List.length_set] at hi'
      simp only
      rw [hgd]
      split
      · simp [cellsOf, hc0]
      · exact h5 i' hi'
    · simp only [List.length_set] at hi'
      simp only at hj' ⊢
      rw [hv]
      rcases hcg i' j' hi' hj' with ⟨rfl, rfl, h⟩ | ⟨hne', h⟩
      · rw [h, hvv]
        have hl2 : (l'.map (AV.int .i64)).length = l'.length := by simp
        refine .sl (fun a _ => cs2.getD a undef) (by obtain ⟨y, ys, e⟩ := hlm'; rw [e]; simp) (by rw [hl2]; exact hl.symm) hcp (fun ho => ho.2 (by show b.sub.isSome = true; rw [hsub]; rfl) hnc) (Array.getElem?_eq_some_iff.1 q2).1 (by omega) (fun a ha => ?_) (fun a d ha hd => ?_) (fun a d ha hd => ?_) (fun a d ha hd => ?_)
        · rw [hl2] at ha; rw [mapI_getD l' a ha]; rfl
        · rw [hl2] at ha
          have hd : d = 0 := by omega
          subst hd
          have := cell?_of_cells q2 (show a < cs2.size by omega)
          simpa using this
        · rw [hl2] at ha
          exact q8 a (by simpa using ha)
        · rw [hl2] at ha
          have hd : d = 0 := by omega
          subst hd
          have := q7 a 0 (by simpa using ha) (by simp)
          simp only [inMap, Nat.mul_one, Nat.add_zero] at this
          rw [mapI_getD l' a ha] at this ⊢
          simp only [cellsOf, List.getD_cons_zero] at this ⊢
          generalize cs2.getD a undef = y at this
          cases this
          exact .int _ _
      · rw [h]
        have r := h7 i' j' hi' hj'
        rw [hv] at r
        have hf := hflat i' j' hi' hj'
        have nst : ∀ m y ys, (cellsOf (b.els.getD i' .dead)).getD j' .dead = .sl m (y :: ys) → slAt b.sz b.els i' j' = some m := by
          intro m y ys e
          unfold slAt
          rw [if_pos ⟨hi', hj'⟩]
          unfold nestAt
          rw [e]
        have r1 : Rep w (fun q => q = c) noMap ((cellsOf (b.els.getD i' .dead)).getD j' .dead) (cs.getD (i' * b.sz + j') undef) := Rep.nested r hf fun m y ys e hq => by
          have hs := nst m y ys e
          have := hN.2 i' j' i j (by rw [hs]; rfl) (by rw [hsl]; rfl) (by
            show blkOf (Array.getD _ _ _) = blkOf (Array.getD _ _ _)
            rw [hq, hvv]; rfl)
          exact hne' this
        have r2 := r1.mono hx (fun _ _ h => h) noMap fun _ _ h => h
        refine Rep.nested r2 hf fun m y ys e hq => ?_
        exact hq.2 (by show b.sub.isSome = true; rw [hsub]; rfl) (hN.1 i' j' m (nst m y ys e)).1
    · refine ⟨fun i' j' m hs => ?_, fun i' j' i'' j'' hs hs' e => ?_⟩
      · simp only at hs
        rw [hsame] at hs
        have ht'' : t' = t := by
          have : b.sub = some t' := ht'
          rw [hsub] at this; injection this with this; exact this.symm
        subst ht''
        obtain ⟨a1, c3, len3, cap3, cs3, a2, a3, a4, a5⟩ := hN.1 i' j' m hs
        refine ⟨a1, ?_⟩
        by_cases h3 : c3 = c
        · subst h3
          rw [hc1] at a3
          injection a3 with a3; injection a3 with a3
          subst a3
          exact ⟨c3, len3, cap3, cs2, a2, q2, a4, by rw [hsz2]; exact a5⟩
        · exact ⟨c3, len3, cap3, cs3, a2, by rw [hx.block c3 (Array.getElem?_eq_some_iff.1 a3).1 h3]; exact a3, a4, a5⟩
      · simp only at hs hs'
        rw [hsame] at hs hs'
        exact hN.2 _ _ _ _ hs hs' e
  · simp [keys] at hu; subst hu; exact ⟨rfl, rfl, by rw [hb]; rfl⟩
  · simp [keys] at hx1; subst hx1; exact I.real _ b hb
end Go.Proofs.YtdcgfapededocaaGreat

