/- A reading of the loaded code over plain data, its soundness, and what functions answer by it (part 5; joined by program). No condition. -/
import Derived.Test.YtndgpinhbffleaaGreatKRd4
import Derived.Laws.StructEq
import Derived.Laws.BytesString
import Derived.Lib.SmallJoins
set_option linter.all false
namespace Go.Proofs.YtndgpinhbffleaaGreat
open Go Go.RowKit

section
variable {P : Program} {w : World} {ι : Map} {O : Nat → Prop}
theorem part_spec {t : TypeId} {off : Nat} {cs : List AV} {vs : Array Value} (h0 : 0 < tsize P t) (hl : off + tsize P t ≤ cs.length) (r : Rep w O ι (.agg cs) (.agg vs)) :
    ∃ v, (part t vs off).run P w = .ok v w ∧ Rep w O ι (mkVal (tagg P t) ((cs.drop off).take (tsize P t))) v := by
  obtain ⟨i, d, hi, hud, his⟩ := tsize_pos' h0
  cases r with
  | agg hlen hr =>
    generalize hn : tsize P t = n at *
    cases h3 : tagg P t with
    | true =>
      refine ⟨.agg (vs.extract off (off + n)), by simp [part, isAgg_run hud, h3, sizeOf_run hi, his], ?_⟩
      simp only [mkVal, if_true]
      refine .agg (by simp; omega) fun j hj => ?_
      have hj' : j < n := by simp at hj; omega
      have := hr (off + j) (by omega)
      have h4 : (vs.extract off (off + n)).getD j undef = vs.getD (off + j) undef := by
        simp [Array.getElem?_extract]; rw [if_pos (by omega)]
      rw [h4]
      simpa [List.getElem?_take, List.getElem?_drop, hj'] using this
    | false =>
      have hlt : off < vs.size := by omega
      refine ⟨vs[off], by simp [part, isAgg_run hud, h3, hlt], ?_⟩
      have := hr off (by omega)
      have h5 : vs.getD off undef = vs[off] := by simp [hlt]
      rw [h5] at this
      obtain ⟨m, hm⟩ : ∃ m, n = m + 1 := ⟨n - 1, by omega⟩
      have h6 : mkVal false ((cs.drop off).take n) = cs.getD off .dead := by
        simp [mkVal, hm, List.head?_take, List.head?_drop]
      rw [h6]; exact this
theorem aeq_spec : ∀ (d : Nat) (t : TypeId) (x y : AV) (b : Bool) (vx vy : Value), aeq P d t x y = some b → Rep w O ι x vx → Rep w O ι y vy → ∀ D, d ≤ D → (Op.equalIn D t vx vy).run P w = .ok b w := by
  intro d
  induction d with
  | zero => intro t x y b vx vy e; simp [aeq] at e
  | succ d ih =>
    intro t x y b vx vy e rx ry D hD
    obtain ⟨D, rfl⟩ : ∃ k, D = k + 1 := ⟨D - 1, by omega⟩
    unfold aeq at e
    split at e
    · rename_i hu
      injection e with e; subst e; cases rx; cases ry
      exact run_equalIn_bool' w D t _ _ hu
    · rename_i hu
      split at e
      · rename_i hk
        injection e with e; subst e; subst hk; cases rx; cases ry
        exact run_equalIn_int w D t _ _ _ _ hu
      · cases e
    · rename_i hu
      injection e with e; subst e; cases rx; cases ry
      rename_i h1 _ h2
      rw [run_equalIn_string w D t _ _ hu, ByteArray.toList_eq, ByteArray.toList_eq, h1, h2]
    · rename_i fs xs ys hu
      split at e
      · cases e
      · rename_i hh
        simp only [Bool.not_eq_true] at hh
        generalize hvx : vx = vx' at rx
        generalize hvy : vy = vy' at ry
        have rx0 := rx
        have ry0 := ry
        cases rx with
        | agg hlx _ =>
          cases ry with
          | agg hly _ =>
            rename_i vsx vsy
            subst hvx; subst hvy
            have hf : P.fieldsOf t = fs := by simp [Program.fieldsOf, hu]
            rw [run_equalIn_struct w D t _ _ (by rw [hf]; exact hu) hh, hf]
            clear hf hu
            generalize fs.toList = l at e
            induction l generalizing b with
            | nil => simp [aeq.go] at e; subst e; simp [Op.eqFields]
            | cons f l ihl =>
              unfold aeq.go at e
              split at e
              · cases e
              · rename_i hname
                split at e
                · cases e
                · rename_i hsz
                  simp only [not_or, Nat.not_lt] at hsz
                  split at e
                  · rename_i c hc
                    obtain ⟨v1, h1, r1⟩ := part_spec (P := P) (t := f.type) (off := f.offset) (by omega) hsz.2.1 rx0
                    obtain ⟨v2, h2, r2⟩ := part_spec (P := P) (t := f.type) (off := f.offset) (by omega) hsz.2.2 ry0
                    have h3 := ih _ _ _ c v1 v2 hc r1 r2 D (by omega)
                    cases hgo : aeq.go P d l xs ys with
                    | none => simp [hgo] at e
                    | some c' =>
                      simp [hgo] at e; subst e
                      have h4 := ihl c' hgo
                      cases c <;> simp [Op.eqFields, hname, h1, h2, h3, h4]
                  · cases e
    · cases e
theorem eqGuard_run {op : BinOp} {t : TypeId} {x y : Operand} {a b : Value} (h : ∀ avs, a ≠ .agg avs) (h' : a ≠ .nilIface) : (eqGuard op t x y a b).run P w = .ok () w := by
  unfold eqGuard
  cases op <;> first | rfl | (cases a <;> first | rfl | (exact absurd rfl (h _)) | (exact absurd rfl h') | (cases b <;> rfl))
theorem aint_spec {op : BinOp} {k : IntKind} {a b : Int} {u : AV} {t : TypeId} (e : aint op k a b = some u) : ∃ z, (binOp op t (.int k a) (.int k b)).run P w = .ok z w ∧ Rep w O ι u z := by
  unfold aint at e
  split at e
  case h_4 =>
    split at e
    · cases e
    · injection e with e; subst e; rename_i h; exact ⟨_, by simp [binOp, Op.intDiv, h] <;> rfl, .int _ _⟩
  case h_5 =>
    split at e
    · cases e
    · injection e with e; subst e; rename_i h; exact ⟨_, by simp [binOp, Op.intDiv, h] <;> rfl, .int _ _⟩
  case h_13 => cases e
  all_goals (injection e with e; subst e)
  · exact ⟨_, by simp [binOp, Op.intArith] <;> rfl, .int _ _⟩
  · exact ⟨_, by simp [binOp, Op.intArith] <;> rfl, .int _ _⟩
  · exact ⟨_, by simp [binOp, Op.intArith] <;> rfl, .int _ _⟩
  · exact ⟨_, by simp [binOp, Op.intBits] <;> rfl, .int _ _⟩
  all_goals exact ⟨_, by simp only [binOp, Op.intCmp, ne_eq, not_true_eq_false, if_false]; rfl, .bool _⟩
theorem abin_spec {op : BinOp} {t : TypeId} {x y u : AV} {vx vy : Value} {ox oy : Operand} (e : abin P op t x y = some u) (rx : Rep w O ι x vx) (ry : Rep w O ι y vy) :
    ∃ z, (eqGuard op t ox oy vx vy >>= fun _ => binOp op t vx vy).run P w = .ok z w ∧ Rep w O ι u z := by
  unfold abin at e
  split at e
  · rename_i k a k' b
    cases rx; cases ry
    have hg : (eqGuard op t ox oy (.int k a) (.int k' b)).run P w = .ok () w := eqGuard_run (by simp) (by simp)
    rw [Sem.run_bind, hg, Result.andThen_ok]
    split at e
    · split at e
      · rename_i h
        injection e with e; subst e
        refine ⟨_, ?_, .int _ _⟩
        have h1 : ¬ b < 0 := by omega
        have h2 : min b.toNat k.bits = b.toNat := by omega
        simp [binOp, Op.shift, h1, h2] <;> rfl
      · cases e
    · split at e
      · rename_i h
        injection e with e; subst e
        refine ⟨_, ?_, .int _ _⟩
        have h1 : ¬ b < 0 := by omega
        have h2 : min b.toNat k.bits = b.toNat := by omega
        simp [binOp, Op.shift, h1, h2] <;> rfl
      · cases e
    · split at e
      · rename_i h
        subst h
        exact aint_spec e
      · cases e
  · rename_i a b
    cases rx; cases ry
    rename_i sa ha sb hb
    have hg : (eqGuard op t ox oy (.string sa) (.string sb)).run P w = .ok () w := eqGuard_run (by simp) (by simp)
    rw [Sem.run_bind, hg, Result.andThen_ok]
    have h1 : sa.toList = a := by rw [ByteArray.toList_eq]; exact ha
    have h2 : sb.toList = b := by rw [ByteArray.toList_eq]; exact hb
    split at e
    · split at e
      · rename_i hl
        injection e with e; subst e
        refine ⟨.string (sa ++ sb), ?_, .str (by rw [Joins.data_append, ha, hb])⟩
        have e1 : sa.size = a.length := by rw [← ha]; simp
        have e2 : sb.size = b.length := by rw [← hb]; simp
        simp [binOp, Op.stringOp]; omega
      · cases e
    · injection e with e; subst e; exact ⟨_, by simp [binOp, Op.stringOp, h1, h2] <;> rfl, .bool _⟩
    · injection e with e; subst e; exact ⟨_, by simp [binOp, Op.stringOp, h1, h2] <;> rfl, .bool _⟩
    · injection e with e; subst e; exact ⟨_, by simp [binOp, Op.stringOp, h1, h2] <;> rfl, .bool _⟩
    · cases e
  · rename_i a b
    cases rx; cases ry
    have hg : (eqGuard op t ox oy (.bool a) (.bool b)).run P w = .ok () w := eqGuard_run (by simp) (by simp)
    rw [Sem.run_bind, hg, Result.andThen_ok]
    split at e
    · rename_i hu
      injection e with e; subst e
      exact ⟨_, by simp [binOp, Op.equal, Op.maxDepth, run_equalIn_bool' w _ t _ _ hu] <;> rfl, .bool _⟩
    · rename_i hu
      injection e with e; subst e
      exact ⟨_, by simp [binOp, Op.equal, Op.maxDepth, run_equalIn_bool' w _ t _ _ hu] <;> rfl, .bool _⟩
    · cases e
  · rename_i xs ys
    split at e
    · cases e
    · rename_i hgt
      simp only [Bool.not_eq_true] at hgt
      have rx0 := rx
      have ry0 := ry
      cases rx; cases ry
      rename_i vx _ _ vy _ _
      rw [Sem.run_bind, run_eqGuard_agg w op t ox oy _ _ hgt, Result.andThen_ok]
      split at e
      · rename_i b hb
        injection e with e; subst e
        exact ⟨_, by rw [run_eql_struct, aeq_spec 5 t _ _ b _ _ hb rx0 ry0 10000 (by omega)]; rfl, .bool _⟩
      · rename_i b hb
        injection e with e; subst e
        exact ⟨_, by rw [run_neq_struct, aeq_spec 5 t _ _ b _ _ hb rx0 ry0 10000 (by omega)]; rfl, .bool _⟩
      · cases e
  · cases e
end
end Go.Proofs.YtndgpinhbffleaaGreat


namespace Go.Proofs.YtndgpinhbffleaaGreat
open Go Go.RowKit

section
variable {P : Program} {g : Heap} {w : World} {ι : Map} {O : Nat → Prop}
/-- What a slice shows, as the machine reads it. -/
theorem elsOf_spec (I : Inv w g ι) {m : Nat} {v : AV} {x : Value} {es : List AV} (e : elsOf g m v = some es) (r : Rep w (Own ι) ι v x) :
    ∃ a cap, x = .slice a es.length cap ∧ es.length ≤ cap ∧ ∃ cs : List Value, cs.length = es.length * m ∧ (Builtin.firstCells m es.length x).run P w = .ok cs.toArray w ∧ (∀ o, o < cs.length → (cs.getD o undef).oneCell' = true) ∧
      (∀ i, i < es.length → (cellsOf (es.getD i .dead)).length = m) ∧ ∀ i j, i < es.length → j < m → Rep w (Own ι) noMap ((cellsOf (es.getD i .dead)).getD j .dead) (cs.getD (i * m + j) undef) := by
  have empty : ∀ a cap, ∃ cs : List Value, cs.length = 0 * m ∧ (Builtin.firstCells m 0 (.slice a 0 cap)).run P w = .ok cs.toArray w ∧ (∀ o, o < cs.length → (cs.getD o undef).oneCell' = true) := by
    intro a cap
    refine ⟨[], by simp, ?_, by simp⟩
    cases a <;> simp [Builtin.firstCells, loadCells, loadCellsFrom]
  have rows : ∀ (b off len cap : Nat) (cell : Nat → Value), (∀ o, o < len * m → w.cell? ⟨b, off + o, none⟩ = some (cell o)) → (Builtin.firstCells m len (.slice (some ⟨b, off, none⟩) len cap)).run P w = .ok ((List.range (len * m)).map cell).toArray w := by
    intro b off len cap cell h
    simp only [Builtin.firstCells]
    exact run_loadCells w _ _ cell fun j hj => by rw [add_at]; exact h j hj
  cases r with
  | slE m' a cap =>
    simp only [elsOf] at e
    split at e
    · injection e with e; subst e
      obtain ⟨cs, h1, h2, h3⟩ := empty a cap
      exact ⟨a, cap, rfl, Nat.zero_le _, cs, h1, h2, h3, by simp, by simp⟩
    · cases e
  | nil a =>
    simp only [elsOf] at e; injection e with e; subst e
    obtain ⟨cs, h1, h2, h3⟩ := empty a 0
    exact ⟨a, 0, rfl, Nat.zero_le _, cs, h1, h2, h3, by simp, by simp⟩
  | refE id off a =>
    simp only [elsOf] at e
    cases hb : g id with
    | none => simp [hb] at e
    | some b =>
      simp only [hb] at e
      split at e
      · injection e with e
        have e : es = [] := by rw [← e]; exact List.eq_nil_of_length_eq_zero (by rw [veil_length]; simp)
        subst e
        obtain ⟨cs, h1, h2, h3⟩ := empty a 0
        exact ⟨a, 0, rfl, Nat.zero_le _, cs, h1, h2, h3, by simp, by simp⟩
      · cases e
  | sl cell hne hlen hcap hob hb hm hcs hcell hc1 hr =>
    rename_i m' es b off cap len
    simp only [elsOf] at e
    split at e
    · rename_i hmm
      injection e with e; subst hmm; subst hlen; subst e
      have hdm : ∀ o, o < es.length * m' → o / m' < es.length ∧ o % m' < m' ∧ o / m' * m' + o % m' = o := fun o ho => ⟨Nat.div_lt_of_lt_mul (by rwa [Nat.mul_comm]), Nat.mod_lt _ hm, Nat.div_add_mod' o m'⟩
      refine ⟨_, cap, rfl, hcap, (List.range (es.length * m')).map fun o => cell (o / m') (o % m'), by simp, rows b off _ cap _ (fun o ho => ?_), fun o ho => ?_, hcs, fun i j hi hj => ?_⟩
      · obtain ⟨h1, h2, h3⟩ := hdm o ho
        have := hcell _ _ h1 h2
        rwa [Nat.add_assoc, h3] at this
      · simp at ho
        obtain ⟨h1, h2, _⟩ := hdm o ho
        simpa [ho] using hc1 _ _ h1 h2
      · have ho : i * m' + j < es.length * m' := by
          have := Nat.mul_le_mul_right m' (Nat.succ_le_of_lt hi)
          rw [Nat.succ_mul] at this; omega
        have e1 : (i * m' + j) / m' = i := by rw [Nat.mul_comm, Nat.mul_add_div hm, Nat.div_eq_of_lt hj]; rfl
        have e2 : (i * m' + j) % m' = j := by rw [Nat.mul_comm, Nat.mul_add_mod, Nat.mod_eq_of_lt hj]
        have := hr i j hi hj
        simpa [ho, e1, e2] using this
    · cases e
  | ref hι hs hcap hn =>
    rename_i id off len cap k sz n ty
    simp only [elsOf] at e
    cases hb : g id with
    | none => simp [hb] at e
    | some b =>
      simp only [hb] at e
      split at e
      · rename_i hc
        injection e with e
        obtain ⟨hv, hm, hl⟩ := hc
        rcases I.blk id b hb with ⟨_, _, h3⟩ | ⟨k', cs, h1, h2, h3, h4, h5, h6, h8, h7, _⟩
        · rw [h3] at hι; cases hι
        · rw [hι] at h1; injection h1 with h1; injection h1 with e1 e2; subst e1; subst e2; subst hm
          have hlen : es.length = len := by rw [← e, veil_length]; simp; omega
          have hget : ∀ i, i < len → cellsOf (es.getD i .dead) = veilL b (cellsOf (b.els.getD (off + i) .dead)) := by
            intro i hi; rw [← e, veil_getD]; simp [hi]
          have hmul : ∀ i j, i < len → j < b.sz → off * b.sz + i * b.sz + j < b.els.length * b.sz := by
            intro i j hi hj
            have : (off + i + 1) * b.sz ≤ b.els.length * b.sz := Nat.mul_le_mul_right _ (by omega)
            simp only [Nat.add_mul, Nat.one_mul] at this
            omega
          have hall : ∀ o, o < len * b.sz → off * b.sz + o < b.els.length * b.sz := by
            intro o ho
            have := Nat.mul_le_mul_right b.sz hl
            rw [Nat.add_mul] at this; omega
          subst hlen
          refine ⟨_, cap, rfl, hcap, (List.range (es.length * b.sz)).map fun o => cs.getD (off * b.sz + o) undef, by simp, rows k _ _ cap _ (fun o ho => cell?_of_cells h2 (by have := hall o ho; omega)), fun o ho => ?_, fun i hi => ?_, fun i j hi hj => ?_⟩
          · simp at ho; simpa [ho] using h8 _ (hall o ho)
          · rw [hget i hi, veilL_length]; exact h5 _ (by omega)
          · have ho : i * b.sz + j < es.length * b.sz := by
              have := Nat.mul_le_mul_right b.sz (Nat.succ_le_of_lt hi)
              rw [Nat.succ_mul] at this; omega
            have := veilL_rep (h7 (off + i) j (by omega) hj)
            rw [hv, Nat.add_mul, ← hget i hi] at this
            have e3 : ((List.range (es.length * b.sz)).map fun o => cs.getD (off * b.sz + o) undef).getD (i * b.sz + j) undef = cs.getD (off * b.sz + i * b.sz + j) undef := by
              simp [ho, Nat.add_assoc]
            rw [e3]; exact this
      · cases e
  | _ => simp [elsOf] at e
theorem bytesOf_spec : ∀ (es : List AV) (l : List UInt8), bytesOf es = some l → ∃ ns : List Int, es = ns.map (AV.int .u8) ∧ l = ns.map fun n => UInt8.ofNat n.toNat := by
  intro es
  induction es with
  | nil => intro l h; simp [bytesOf] at h; exact ⟨[], rfl, by simp [← h]⟩
  | cons c es ih =>
    intro l h
    unfold bytesOf at h
    split at h
    · rename_i heq; cases heq
    · rename_i n es' heq
      injection heq with h1 h2; subst h1; subst h2
      split at h
      · cases hb : bytesOf es with
        | none => simp [hb] at h
        | some q =>
          simp [hb] at h
          obtain ⟨ns, h3, h4⟩ := ih q hb
          exact ⟨n :: ns, by simp [h3], by simp [← h, h4]⟩
      · cases h
    · cases h
theorem foldl_push : ∀ (ns : List Int) (s : ByteArray), (ns.foldl (fun r n => r.push (UInt8.ofNat n.toNat)) s).data.toList = s.data.toList ++ ns.map fun n => UInt8.ofNat n.toNat := by
  intro ns
  induction ns with
  | nil => intro s; simp
  | cons n ns ih => intro s; rw [List.foldl_cons, ih]; simp [ByteArray.push]
theorem aconv_spec (I : Inv w g ι) {s d : TypeId} {v u : AV} {x : Value} (e : aconv P g s d v = some u) (r : Rep w (Own ι) ι v x) : ∃ y, (convert s d x).run P w = .ok y w ∧ Rep w (Own ι) ι u y := by
  unfold aconv at e
  split at e
  · rename_i k1 k k2 n h1 h2
    injection e with e; subst e
    cases r
    exact ⟨_, by simp [convert, underlying_run (tkind_int h1), underlying_run (tkind_int h2), Conv.intToInt] <;> rfl, .int _ _⟩
  · rename_i a h1 h2
    injection e with e; subst e
    cases r
    rename_i sa ha
    exact ⟨.string sa, by simp [convert, underlying_run (tkind_str h1), underlying_run (tkind_str h2)], .str ha⟩
  · rename_i el h1 h2
    split at e
    · rename_i es h3 h4
      split at e
      · cases hb : bytesOf es with
        | none => simp [hb] at e
        | some l =>
          simp [hb] at e; subst e
          obtain ⟨a, cap, rfl, hcap, cs, hcl, hrun, h11, h12, h13⟩ := elsOf_spec (P := P) I h4 r
          obtain ⟨ns, rfl, rfl⟩ := bytesOf_spec es l hb
          have hcs : cs = ns.map (Value.int .u8) := by
            apply List.ext_getElem
            · simp [hcl]
            · intro i hi1 hi2
              have hi : i < ns.length := by simpa using hi2
              have := h13 i 0 (by simpa using hi) (by omega)
              have e0 : (cellsOf ((ns.map (AV.int .u8)).getD i .dead)).getD 0 .dead = .int .u8 ns[i] := by simp [hi, cellsOf]
              have e1 : cs.getD (i * 1 + 0) undef = cs[i] := by simp [hi1]
              rw [e0, e1] at this
              generalize cs[i] = y at this
              cases this
              simp
          have hu1 := underlying_run (P := P) (w := w) (tkind_slice h1)
          have hu2 := underlying_run (P := P) (w := w) (tkind_str h2)
          have hu3 := underlying_run (P := P) (w := w) (tkind_int h3)
          cases a with
          | none =>
            have hn : ns = [] := by
              simp only [Builtin.firstCells] at hrun
              have : cs = [] := by
                have h := hrun
                simp at h
                exact h
              rw [this] at hcs
              cases ns with
              | nil => rfl
              | cons _ _ => simp at hcs
            subst hn
            exact ⟨.string .empty, by simp [convert, hu1, hu2, hu3, Conv.bytesToString], .str rfl⟩
          | some a =>
            have hload : (loadCells a (ns.map (AV.int .u8)).length).run P w = .ok (ns.map (Value.int .u8)).toArray w := by
              have := hrun
              simp only [Builtin.firstCells, Nat.mul_one] at this
              rw [hcs] at this; exact this
            have hb2 := run_bytesToString w a _ cap ns hload
            refine ⟨.string (ns.foldl (fun r n => r.push (UInt8.ofNat n.toNat)) ByteArray.empty), ?_, .str (by rw [foldl_push]; rfl)⟩
            simp only [convert, Sem.run_bind, hu1, hu2, hu3, Result.andThen_ok]
            exact hb2
      · cases e
    · cases e
  · cases e
end
end Go.Proofs.YtndgpinhbffleaaGreat


namespace Go.Proofs.YtndgpinhbffleaaGreat
open Go Go.RowKit

section
variable {P : Program} {g : Heap} {w : World} {ι : Map} {O : Nat → Prop}
/-- An optional bound. -/
inductive OptRep (w : World) (O : Nat → Prop) (ι : Map) : Option AV → Option Value → Prop
  | none : OptRep w O ι none none
  | some {a v} : Rep w O ι a v → OptRep w O ι (some a) (some v)
theorem abound_some {a : AV} {v : Value} {d l : Nat} (e : abound (some a) d = some l) (r : Rep w O ι a v) : ∃ k n, a = .int k n ∧ v = .int k n ∧ 0 ≤ n ∧ l = n.toNat := by
  unfold abound at e
  split at e
  · rename_i h; cases h
  · rename_i k n h
    injection h with h; subst h
    cases r
    split at e
    · rename_i hn; injection e with e; exact ⟨k, n, rfl, rfl, hn, e.symm⟩
    · cases e
  · cases e
theorem sliceBound_run {k : IntKind} {n : Int} {y : Nat} {c : BoundsCode} (h0 : 0 ≤ n) (h : n.toNat ≤ y) : (Instr.sliceBound (.int k n) y c).run P w = .ok n.toNat w := by
  have : 0 ≤ n ∧ n ≤ (y : Int) := by omega
  simp [Instr.sliceBound, asIntOf, this]
theorem sliceBounds_run {lo hi : Option AV} {vlo vhi : Option Value} {l r len cap : Nat} {s : Bool} (h1 : abound lo 0 = some l) (h2 : abound hi len = some r) (rl : OptRep w O ι lo vlo) (rh : OptRep w O ι hi vhi) (hlr : l ≤ r) (hrc : r ≤ cap) :
    (Instr.sliceBounds s len cap vlo vhi none).run P w = .ok (l, r, cap) w := by
  cases rh with
  | none =>
    simp [abound] at h2; subst h2
    cases rl with
    | none => simp [abound] at h1; subst h1; simp [Instr.sliceBounds]
    | some q =>
      obtain ⟨k, n, rfl, rfl, hn, rfl⟩ := abound_some h1 q
      simp [Instr.sliceBounds, sliceBound_run hn hlr]
  | some q' =>
    obtain ⟨k', n', rfl, rfl, hn', rfl⟩ := abound_some h2 q'
    cases rl with
    | none => simp [abound] at h1; subst h1; simp [Instr.sliceBounds, sliceBound_run hn' hrc]
    | some q =>
      obtain ⟨k, n, rfl, rfl, hn, rfl⟩ := abound_some h1 q
      simp [Instr.sliceBounds, sliceBound_run hn' hrc, sliceBound_run hn hlr]
theorem sliceBounds_zero {lo hi : Option AV} {vlo vhi : Option Value} {len cap : Nat} {km : IntKind} (h1 : abound lo 0 = some 0) (h2 : abound hi len = some 0) (h3 : hi.isSome = true) (rl : OptRep w O ι lo vlo) (rh : OptRep w O ι hi vhi) :
    (Instr.sliceBounds true len cap vlo vhi (some (.int km 0))).run P w = .ok (0, 0, 0) w := by
  have h0 : (Instr.sliceBound (.int km 0) cap .slice3Acap).run P w = .ok 0 w := sliceBound_run (n := 0) (by omega) (by simp)
  cases rh with
  | none => simp at h3
  | some q' =>
    obtain ⟨k', n', rfl, rfl, hn', hz⟩ := abound_some h2 q'
    have h5 : (Instr.sliceBound (.int k' n') 0 .slice3B).run P w = .ok 0 w := by rw [sliceBound_run hn' (by omega)]; rw [← hz]
    cases rl with
    | none => simp [Instr.sliceBounds, h0, h5]
    | some q =>
      obtain ⟨k, n, rfl, rfl, hn, hz'⟩ := abound_some h1 q
      have h6 : (Instr.sliceBound (.int k n) 0 .slice3C).run P w = .ok 0 w := by rw [sliceBound_run hn (by omega)]; rw [← hz']
      simp [Instr.sliceBounds, h0, h5, h6]
theorem asliceS_spec (I : Inv w g ι) {t el : TypeId} {inf : TypeInfo} {v u : AV} {x : Value} {lo hi mx : Option AV} {vlo vhi vmx : Option Value} (hu : P.underlying t = some (.slice el)) (hi1 : P.info? el = some inf) (e : asliceS g inf.size v lo hi mx = some u) (r : Rep w (Own ι) ι v x)
    (rl : OptRep w (Own ι) ι lo vlo) (rh : OptRep w (Own ι) ι hi vhi) (rm : OptRep w (Own ι) ι mx vmx) : ∃ y, (Instr.sliceAt t x vlo vhi vmx).run P w = .ok y w ∧ Rep w (Own ι) ι u y := by
  have core : ∀ (a : Option Addr) (len cap l r' : Nat), abound lo 0 = some l → abound hi len = some r' → l ≤ r' → r' ≤ len → len ≤ cap → x = .slice a len cap → (Instr.sliceAt t x vlo vhi none).run P w = .ok (.slice (if cap = l then a else a.map (·.add (l * inf.size))) (r' - l) (cap - l)) w := by
    intro a len cap l r' h1 h2 hlr hrl hcap hx
    subst hx
    have := sliceBounds_run (P := P) (s := true) (len := len) (cap := cap) h1 h2 rl rh hlr (by omega)
    simp [Instr.sliceAt, Instr.slice, underlying_run hu, this, sizeOf_run hi1]
  have zero : ∀ (a : Option Addr) (len cap : Nat) (km : IntKind), abound lo 0 = some 0 → abound hi len = some 0 → hi.isSome = true → x = .slice a len cap → (Instr.sliceAt t x vlo vhi (some (.int km 0))).run P w = .ok (.slice a 0 0) w := by
    intro a len cap km h1 h2 h3 hx
    subst hx
    have := sliceBounds_zero (P := P) (len := len) (cap := cap) (km := km) h1 h2 h3 rl rh
    simp [Instr.sliceAt, Instr.slice, underlying_run hu, this, sizeOf_run hi1]
  have zslice : ∀ (len : Nat) (km : IntKind), (∃ a cap, x = .slice a len cap) → abound lo 0 = some 0 → abound hi len = some 0 → (if hi.isSome = true then some AV.nil else none) = some u → vmx = some (.int km 0) → ∃ y, (Instr.sliceAt t x vlo vhi vmx).run P w = .ok y w ∧ Rep w (Own ι) ι u y := by
    rintro len km ⟨a, cap, hx⟩ h1 h2 h3 rfl
    split at h3
    · rename_i h4
      injection h3 with h3; subst h3
      exact ⟨_, zero a len cap km h1 h2 h4 hx, .nil _⟩
    · cases h3
  unfold asliceS at e
  split at e
  · rename_i n es
    have hx : ∃ a cap, x = .slice a es.length cap ∧ es.length ≤ cap := by
      cases r with
      | slE m a cap => exact ⟨a, cap, rfl, by simp⟩
      | sl cell hne hlen hcap => subst hlen; exact ⟨_, _, rfl, hcap⟩
    obtain ⟨a0, cap0, hx0, hcap0⟩ := hx
    split at e
    · rename_i l r' h1 h2
      split at e
      · rename_i hc
        injection e with e; subst e
        cases rm
        obtain ⟨hlr, hre, hn⟩ := hc
        refine ⟨_, core a0 es.length cap0 l r' h1 h2 hlr hre hcap0 hx0, ?_⟩
        by_cases hz : r' = l
        · subst hz
          have : (es.take r').drop r' = [] := by simp
          rw [this]; simp; exact .slE _ _ _
        · cases r with
          | slE m a cap => simp at hre; omega
          | sl cell hne hlen hcap hob hb hm hcs hcell hc1 hr =>
            rename_i cap len
            injection hx0 with e1 e2 e3; subst e1; subst e3
            have hcl : ¬ cap = l := by omega
            rw [if_neg hcl]
            simp only [Option.map_some, add_at]
            have hlen2 : ((es.take r').drop l).length = r' - l := by simp; omega
            have hget : ∀ i, i < r' - l → ((es.take r').drop l).getD i .dead = es.getD (l + i) .dead := by
              intro i hi; simp; rw [List.getElem?_take, if_pos (by omega)]
            refine .sl (fun i j => cell (l + i) j) (fun h => hz (by rw [h] at hlen2; simp at hlen2; omega)) hlen2.symm (by omega) hob hb hm (fun i hi => ?_) (fun i j hi hj => ?_) (fun i j hi hj => ?_) (fun i j hi hj => ?_)
            · rw [hlen2] at hi; rw [hget i hi]; exact hcs _ (by omega)
            · rw [hlen2] at hi
              have := hcell (l + i) j (by omega) hj
              rw [Nat.add_mul] at this
              rw [← hn, show ∀ o : Nat, o + l * n + i * n + j = o + (l * n + i * n) + j from by intro o; omega]; exact this
            · rw [hlen2] at hi; exact hc1 _ _ (by omega) hj
            · rw [hlen2] at hi; rw [hget i hi]; exact hr _ _ (by omega) hj
      · cases e
    · rename_i km h1 h2
      cases rm with
      | some q => cases q; exact zslice _ km ⟨a0, cap0, hx0⟩ h1 h2 e rfl
    · cases e
  · have hx : ∃ a, x = .slice a 0 0 := by cases r; exact ⟨_, rfl⟩
    obtain ⟨a0, hx0⟩ := hx
    split at e
    · rename_i h1 h2
      injection e with e; subst e
      cases rm
      have := core a0 0 0 0 0 h1 h2 (by omega) (by omega) (by omega) hx0
      exact ⟨_, this, by simp; exact .nil _⟩
    · rename_i km h1 h2
      cases rm with
      | some q => cases q; exact zslice 0 km ⟨a0, 0, hx0⟩ h1 h2 e rfl
    · cases e
  · rename_i id off len
    have hx : ∃ a cap, x = .slice a len cap ∧ len ≤ cap := by
      cases r with
      | refE id off a => exact ⟨a, 0, rfl, by omega⟩
      | ref hι hs hcap hn => exact ⟨_, _, rfl, hcap⟩
    obtain ⟨a0, cap0, hx0, hcap0⟩ := hx
    split at e
    · rename_i l r' h1 h2
      cases hb : g id with
      | none => simp [hb] at e
      | some b =>
        simp only [hb] at e
        split at e
        · rename_i hc
          injection e with e; subst e
          cases rm
          obtain ⟨hlr, hre, hsz⟩ := hc
          refine ⟨_, core a0 len cap0 l r' h1 h2 hlr hre hcap0 hx0, ?_⟩
          by_cases hcl : cap0 = l
          · have hz : r' - l = 0 := by omega
            rw [if_pos hcl, hz, show cap0 - l = 0 from by omega]
            exact .refE _ _ _
          · rw [if_neg hcl]
            cases r with
            | refE id off a => injection hx0 with e1 e2 e3; omega
            | ref hι hs hcap hn =>
              rename_i cap kk szz nn tyy
              injection hx0 with e1 e2 e3; subst e1; subst e3
              rcases I.blk id b hb with ⟨_, _, h3⟩ | ⟨k', cs, h3, h4, h5, _⟩
              · rw [h3] at hι; cases hι
              · rw [hι] at h3; injection h3 with h3; injection h3 with e1 e2; subst e1; subst e2
                simp only [Option.map_some, add_at]
                rw [← hsz, ← Nat.add_mul]
                refine .ref hι hs (by omega) ?_
                rw [show off + l + (cap - l) = off + cap from by omega]; exact hn
        · cases e
    · rename_i km h1 h2
      cases rm with
      | some q => cases q; exact zslice len km ⟨a0, cap0, hx0⟩ h1 h2 e rfl
    · cases e
  · cases e
theorem aslice_spec (I : Inv w g ι) {t : TypeId} {v u : AV} {x : Value} {lo hi mx : Option AV} {vlo vhi vmx : Option Value} (e : aslice P g t v lo hi mx = some u) (r : Rep w (Own ι) ι v x)
    (rl : OptRep w (Own ι) ι lo vlo) (rh : OptRep w (Own ι) ι hi vhi) (rm : OptRep w (Own ι) ι mx vmx) : ∃ y, (Instr.sliceAt t x vlo vhi vmx).run P w = .ok y w ∧ Rep w (Own ι) ι u y := by
  unfold aslice at e
  split at e
  · rename_i s hk
    have hu := tkind_str hk
    split at e
    · rename_i l r' h1 h2
      split at e
      · rename_i hc
        injection e with e; subst e
        cases rm
        cases r
        rename_i b hb
        have hbs : b.size = s.length := by rw [← hb]; simp
        refine ⟨.string (b.extract l r'), ?_, .str ?_⟩
        · have := sliceBounds_run (P := P) (s := false) (len := b.size) (cap := b.size) h1 (by rw [hbs]; exact h2) rl rh hc.1 (by omega)
          simp [Instr.sliceAt, Instr.slice, underlying_run hu, this]
        · rw [Lib.extract_data, hb, List.drop_take]
      · cases e
    · cases e
  · rename_i el hk
    split at e
    · cases e
    · rename_i hs
      obtain ⟨inf, hi1, hi2⟩ := tsize_pos (P := P) (t := el) (by omega)
      rw [← hi2] at e
      exact asliceS_spec I (tkind_slice hk) hi1 e r rl rh rm
  · cases e
end
end Go.Proofs.YtndgpinhbffleaaGreat


namespace Go.Proofs.YtndgpinhbffleaaGreat
open Go Go.RowKit

def push (w : World) (o : Obj) : World := { w with heap := w.heap.push o }
theorem push_at (w : World) (o : Obj) (k : Nat) (h : k < w.heap.size) : (push w o).heap[k]? = w.heap[k]? := by
  simp only [push]; rw [Array.getElem?_push, if_neg (by omega)]
theorem push_new (w : World) (o : Obj) : (push w o).heap[w.heap.size]? = some o := by
  simp only [push]; rw [Array.getElem?_push, if_pos rfl]
theorem push_ext (O : Nat → Prop) (w : World) (o : Obj) : Ext O w (push w o) :=
  ⟨rfl, rfl, rfl, by simp [push], fun k hk _ => push_at w o k hk, fun k hk => by simp only [World.shape?]; rw [push_at w o k hk]⟩
/-- A map with a name laid anew; 'N': what its elements own. -/
def setMap (ι : Map) (id : Id) (p : Nat × Nat) (N : Nat → Prop) : Map := ⟨fun i => if i = id then some p else ι i, fun i c => if i = id then N c else ι.n i c⟩
def noN : Nat → Prop := fun _ => False
/-- A map without the names that are given up, and without what these hold. -/
def without (ι : Map) (K : List Id) : Map := ⟨fun i => if i ∈ K ∧ ph i = false then none else ι i, fun i c => ¬ (i ∈ K ∧ ph i = false) ∧ ι.n i c⟩
theorem foot_without {ι : Map} {K : List Id} {i : Id} {c : Nat} (h : Foot (without ι K) i c) : Foot ι i c ∧ ¬ (i ∈ K ∧ ph i = false) := by
  rcases h with ⟨s, h⟩ | h
  · replace h : (if i ∈ K ∧ ph i = false then none else ι i) = some _ := h
    split at h
    · cases h
    · rename_i hn; exact ⟨.name h, hn⟩
  · exact ⟨.inr h.2, h.1⟩
theorem own_without {ι : Map} {K : List Id} {b : Nat} (h : Own (without ι K) b) : Own ι b := by
  obtain ⟨i, h⟩ := h
  exact ⟨i, (foot_without h).1⟩
theorem without_at {ι : Map} {K : List Id} {i : Id} (h : ¬ (i ∈ K ∧ ph i = false)) : without ι K i = ι i ∧ (without ι K).n i = ι.n i := by
  refine ⟨if_neg h, ?_⟩
  funext c
  show (¬ (i ∈ K ∧ ph i = false) ∧ ι.n i c) = ι.n i c
  simp [h]
theorem without_nil (ι : Map) : without ι [] = ι := Map.ext' (fun i => by simp [without]) fun i c => by simp [without]
theorem without_name {ι : Map} {K : List Id} {i : Id} {p : Nat × Nat} (h : without ι K i = some p) : ι i = some p := by
  replace h : (if i ∈ K ∧ ph i = false then none else ι i) = some _ := h
  split at h
  · cases h
  · exact h
theorem foot_set {ι : Map} {K : List Id} {id i : Id} {p : Nat × Nat} {N : Nat → Prop} {c : Nat} (h : Foot (setMap (without ι K) id p N) i c) : (i = id ∧ (c = p.1 ∨ N c)) ∨ (i ≠ id ∧ ¬ (i ∈ K ∧ ph i = false) ∧ Foot ι i c) := by
  by_cases hi : i = id
  · subst hi
    rcases h with ⟨s, h⟩ | h
    · replace h : (if i = i then some p else without ι K i) = some _ := h
      rw [if_pos rfl] at h
      injection h with h; subst h; exact .inl ⟨rfl, .inl rfl⟩
    · replace h : (if i = i then N c else (without ι K).n i c) := h
      rw [if_pos rfl] at h; exact .inl ⟨rfl, .inr h⟩
  · have : Foot (without ι K) i c := by
      rcases h with ⟨s, h⟩ | h
      · replace h : (if i = id then some p else without ι K i) = some _ := h
        rw [if_neg hi] at h; exact .name h
      · replace h : (if i = id then N c else (without ι K).n i c) := h
        rw [if_neg hi] at h; exact .inr h
    obtain ⟨h1, h2⟩ := foot_without this
    exact .inr ⟨hi, h2, h1⟩
theorem eff_nil (e : Eff) : ({ e with kills := e.kills ++ [] } : Eff) = e := by simp
section
variable {P : Program} {np : Nat} {g : Heap} {w : World} {ι : Map}
theorem Done.newCore (I : Inv w g ι) {id : Id} {b' : Blk} {sz : Nat} {t : TypeId} {cs : Array Value} {v : AV} {x : Value} {K L : List Id} {N : Nat → Prop} (hK : id ∉ K) (hL : ∀ i ∈ L, i = id) (hd : id ∈ L ∨ ι id = none) (hnp : np ≤ id.headD 0) (hph : ph id = false)
    (hN : ∀ c, N c → ι.n id c ∨ ∃ i ∈ K, ph i = false ∧ np ≤ i.headD 0 ∧ Foot ι i c)
    (hv : Rep (push w (.cells cs t)) (Own (setMap (without ι K) id (w.heap.size, sz) N)) (setMap (without ι K) id (w.heap.size, sz) N) v x)
    (hB : BRep (push w (.cells cs t)) (Own (setMap (without ι K) id (w.heap.size, sz) N)) (setMap (without ι K) id (w.heap.size, sz) N) id b') :
    Done np g w ι { val := v, ups := [(id, b')], kills := L ++ K } x (push w (.cells cs t)) (setMap (without ι K) id (w.heap.size, sz) N) := by
  have hsz : (push w (.cells cs t)).heap.size = w.heap.size + 1 := by simp [push]
  have hNl : ∀ c, N c → c < w.heap.size := by
    intro c hc
    rcases hN c hc with h | ⟨j, _, _, _, h⟩
    · exact I.live _ _ (.inr h)
    · exact I.live _ _ h
  have at' : ∀ i, i ≠ id → i ∉ K → setMap (without ι K) id (w.heap.size, sz) N i = ι i ∧ (setMap (without ι K) id (w.heap.size, sz) N).n i = ι.n i := by
    intro i hi hk
    obtain ⟨h1, h2⟩ := without_at (ι := ι) (K := K) (i := i) fun h => hk h.1
    refine ⟨(if_neg hi).trans h1, ?_⟩
    rw [← h2]
    funext c
    show (if i = id then N c else (without ι K).n i c) = _
    rw [if_neg hi]
  refine ⟨push_ext _ _ _, hv, fun i c hc => ?_, fun i h1 h2 => ?_, fun i h1 h2 => ?_, fun i k s h => ?_, fun i c h => ?_, fun i i' k h h' => ?_, fun i k s h hn => ?_, fun i k h => ?_, fun i h1 h2 => ?_, fun i h1 h2 => ?_, by simp [keys], fun i hi => by simp [keys] at hi; rw [hi]; exact hph, fun i hi => ?_⟩
  · simp at hc; obtain ⟨rfl, rfl⟩ := hc; exact hB
  · simp [keys] at h2
    simp only [List.mem_append, not_or] at h1
    exact at' i h2 h1.2
  · simp only [List.mem_append, not_or] at h1
    refine (at' i (fun h => ?_) h1.2).1
    subst h
    rcases hd with h | h
    · exact h1.1 h
    · exact h2 h
  · by_cases hi : i = id
    · subst hi
      replace h : (if i = i then some (w.heap.size, sz) else without ι K i) = some _ := h
      rw [if_pos rfl] at h
      injection h with h; injection h with h _; right; omega
    · replace h : (if i = id then some (w.heap.size, sz) else without ι K i) = some _ := h
      rw [if_neg hi] at h
      exact .inl (without_name h)
  · by_cases hi : i = id
    · subst hi
      replace h : (if i = i then N c else (without ι K).n i c) := h
      rw [if_pos rfl] at h
      rcases hN c h with h | ⟨j, _, h2, h3, h4⟩
      · exact .inl h
      · exact .inr (.inr ⟨j, h2, h3, h4⟩)
    · replace h : (if i = id then N c else (without ι K).n i c) := h
      rw [if_neg hi] at h
      exact .inl h.2
  · have key : ∀ {i' : Id}, i' ≠ id → ¬ (i' ∈ K ∧ ph i' = false) → Foot ι i' k → (k = (w.heap.size, sz).1 ∨ N k) → False := by
      intro i' n0 n1 h2 h1
      rcases h1 with h1 | h1
      · have := I.live _ _ h2; simp only at h1; omega
      · rcases hN k h1 with h3 | ⟨j, h3, h4, _, h5⟩
        · exact n0 (I.inj _ _ _ h2 (.inr h3))
        · have := I.inj _ _ _ h5 h2; subst this
          exact n1 ⟨h3, h4⟩
    rcases foot_set h with ⟨e1, h1⟩ | ⟨e1, n1, h1⟩ <;> rcases foot_set h' with ⟨e2, h2⟩ | ⟨e2, n2, h2⟩
    · rw [e1, e2]
    · exact (key e2 n2 h2 h1).elim
    · exact (key e1 n1 h1 h2).elim
    · exact I.inj _ _ _ h1 h2
  · by_cases hi : i = id
    · subst hi
      replace h : (if i = i then some (w.heap.size, sz) else without ι K i) = some _ := h
      replace hn : (if i = i then N k else (without ι K).n i k) := hn
      rw [if_pos rfl] at h hn
      injection h with h; injection h with h _
      have := hNl k hn; omega
    · replace h : (if i = id then some (w.heap.size, sz) else without ι K i) = some _ := h
      replace hn : (if i = id then N k else (without ι K).n i k) := hn
      rw [if_neg hi] at h hn
      exact I.sep _ _ _ (without_name h) hn.2
  · rw [hsz]
    rcases foot_set h with ⟨_, h1 | h1⟩ | ⟨_, _, h1⟩
    · simp only at h1; omega
    · have := hNl k h1; omega
    · have := I.live _ _ h1; omega
  · simp only [List.mem_append] at h1
    simp [keys] at h2
    have hk : i ∈ K := h1.resolve_left fun h => h2 (hL i h)
    cases hp : ph i with
    | true => exact .inl rfl
    | false =>
      right
      intro k h
      rcases foot_set h with ⟨h3, _⟩ | ⟨_, h3, _⟩
      · exact h2 h3
      · exact h3 ⟨hk, hp⟩
  · simp [keys] at h2; subst h2; omega
  · have h1 : i ≠ id := fun h => by rw [h, hph] at hi; cases hi
    obtain ⟨h2, h3⟩ := without_at (ι := ι) (K := K) (i := i) fun h => by rw [hi] at h; cases h.2
    refine ⟨(if_neg h1).trans h2, ?_⟩
    rw [← h3]
    funext c
    show (if i = id then N c else (without ι K).n i c) = _
    rw [if_neg h1]
/-- A new block under a name. -/
theorem Done.newBlk (I : Inv w g ι) {id : Id} {b : Blk} {cs : Array Value} {v : AV} {x : Value} {K : List Id} {N : Nat → Prop} (hK : id ∉ K) (hd : ∀ k, Foot ι id k → (g id).isSome = true) (hnp : np ≤ id.headD 0) (hph : ph id = false)
    (hN : ∀ c, N c → ι.n id c ∨ ∃ i ∈ K, ph i = false ∧ np ≤ i.headD 0 ∧ Foot ι i c) (hNs : b.sub = none → ∀ c, ¬ N c)
    (h0 : 0 < b.sz) (h1 : b.isVar = true → b.els.length = 1) (h2 : ∀ i, i < b.els.length → (cellsOf (b.els.getD i .dead)).length = b.sz) (h3 : b.els.length * b.sz ≤ cs.size)
    (h4 : ∀ o, o < b.els.length * b.sz → (cs.getD o undef).oneCell' = true)
    (h5 : ∀ i j, i < b.els.length → j < b.sz → Rep w (ob (Own (without ι K)) N b) (inMap b.isVar (without ι K)) ((cellsOf (b.els.getD i .dead)).getD j .dead) (cs.getD (i * b.sz + j) undef)) (h6 : NestOK w N b cs)
    (hv : Rep (push w (.cells cs b.ty)) (Own (setMap (without ι K) id (w.heap.size, b.sz) N)) (setMap (without ι K) id (w.heap.size, b.sz) N) v x) :
    Done np g w ι { newAt g id b v with kills := (newAt g id b v).kills ++ K } x (push w (.cells cs b.ty)) (setMap (without ι K) id (w.heap.size, b.sz) N) := by
  have hO : ∀ k, k < w.heap.size → ob (Own (setMap (without ι K) id (w.heap.size, b.sz) N)) N b k → ob (Own (without ι K)) N b k := by
    rintro k hk ⟨⟨i, h⟩, h'⟩
    refine ⟨?_, h'⟩
    rcases foot_set h with ⟨_, h1 | h1⟩ | ⟨_, n1, h1⟩
    · simp only at h1; omega
    · cases hs : b.sub with
      | none => exact absurd h1 (hNs hs k)
      | some t => exact absurd h1 (h' (by rw [hs]; rfl))
    · obtain ⟨e1, e2⟩ := without_at (ι := ι) (K := K) (i := i) n1
      exact ⟨i, h1.of e1 e2⟩
  have hNn : (setMap (without ι K) id (w.heap.size, b.sz) N).n id = N := by
    funext c
    show (if id = id then N c else _) = N c
    rw [if_pos rfl]
  have hnest : NestOK (push w (.cells cs b.ty)) N b cs := h6.mono (fun _ h => h) fun k hk => by
    rcases hN k hk with h | ⟨j, _, _, _, h5⟩
    · exact push_at _ _ _ (I.live _ _ (.inr h))
    · exact push_at _ _ _ (I.live _ _ h5)
  have brep : ∀ b' : Blk, b'.isVar = b.isVar → b'.ty = b.ty → b'.sz = b.sz → b'.sub = b.sub → b'.els.length = b.els.length → (∀ i, i < b.els.length → (cellsOf (b'.els.getD i .dead)).length = b.sz) → (NestOK (push w (.cells cs b.ty)) N b' cs) →
      (∀ i j, i < b.els.length → j < b.sz → Rep (push w (.cells cs b.ty)) (ob (Own (setMap (without ι K) id (w.heap.size, b.sz) N)) N b) (inMap b.isVar (setMap (without ι K) id (w.heap.size, b.sz) N)) ((cellsOf (b'.els.getD i .dead)).getD j .dead) (cs.getD (i * b.sz + j) undef)) →
      BRep (push w (.cells cs b.ty)) (Own (setMap (without ι K) id (w.heap.size, b.sz) N)) (setMap (without ι K) id (w.heap.size, b.sz) N) id b' := by
    intro b' e1 e2 e3 e5 e4 h6 h8 h7
    have hob : ob (Own (setMap (without ι K) id (w.heap.size, b.sz) N)) N b' = ob (Own (setMap (without ι K) id (w.heap.size, b.sz) N)) N b := by unfold ob; rw [e5]
    refine .inr ⟨w.heap.size, cs, by simp [setMap, e3], by rw [e2]; exact push_new _ _, by rw [e3]; exact h0, by rw [e1, e4]; exact h1, by rw [e3, e4]; exact h6, by rw [e3, e4]; exact h3, by rw [e3, e4]; exact h4, ?_, by rw [hNn]; exact h8⟩
    rw [hNn, hob, e1, e3, e4]; exact h7
  unfold newAt
  cases hg : g id with
  | some b0 =>
    refine Done.newCore I hK (L := [id]) (by simp) (by simp) hnp hph hN hv ?_
    have hcl := cellsOf_kill (fun j => decide (j = id))
    have hgd : b.isVar = true → ∀ n, (b.kill fun j => decide (j = id)).els.getD n .dead = (b.els.getD n .dead).kill fun j => decide (j = id) := by
      intro hv n; simp only [Blk.kill, hv]; exact killL_getD _ _ _
    cases hvar : b.isVar with
    | true =>
      refine brep _ rfl rfl rfl rfl (by simp [Blk.kill, hvar, killL_length]) (fun n hn => by rw [hgd hvar, hcl, killL_length]; exact h2 n hn) (.var hvar) fun n j hn hj => ?_
      rw [hgd hvar, hcl, killL_getD]
      have h6 := h5 n j hn hj
      rw [hvar] at h6 ⊢
      have h7 := h6.killed (ι' := dropM (fun j => decide (j = id)) (without ι K)) (fun j => decide (j = id)) (fun q p hq hp => by
        have hp : without ι K q = some p := hp
        show (if decide (q = id) = true then none else without ι K q) = _
        rw [hq]; exact hp)
      refine h7.mono (push_ext _ _ _) hO _ fun q p hp => ?_
      have hp : (if decide (q = id) = true then none else without ι K q) = some p := hp
      show (if q = id then some (w.heap.size, b.sz) else without ι K q) = some p
      by_cases hq : q = id
      · simp [hq] at hp
      · simpa [hq] using hp
    | false =>
      have hbk : (b.kill fun j => decide (j = id)) = b := by obtain ⟨a1, a2, a3, a4, a5⟩ := b; simp only at hvar; subst hvar; rfl
      rw [hbk]
      refine brep b rfl rfl rfl rfl rfl h2 hnest fun n j hn hj => ?_
      have h6 := h5 n j hn hj
      rw [hvar] at h6 ⊢
      exact h6.mono (push_ext _ _ _) hO _ fun _ _ h => h
  | none =>
    have hn : ι id = none := by
      cases hi : ι id with
      | none => rfl
      | some p => have := hd p.1 (.name (s := p.2) hi); rw [hg] at this; cases this
    refine Done.newCore I hK (L := []) (by simp) (.inr hn) hnp hph hN hv ?_
    refine brep b rfl rfl rfl rfl rfl h2 hnest fun n j hn' hj => ?_
    have h6 := h5 n j hn' hj
    refine h6.mono (push_ext _ _ _) hO _ fun q p hp => ?_
    cases hcv : b.isVar
    · rw [hcv] at hp; exact hp
    · rw [hcv] at hp
      have hp : without ι K q = some p := hp
      show (if q = id then some (w.heap.size, b.sz) else without ι K q) = some p
      by_cases hq : q = id
      · subst hq
        have := without_name hp
        rw [hn] at this; cases this
      · simpa [hq] using hp
end
end Go.Proofs.YtndgpinhbffleaaGreat


namespace Go.Proofs.YtndgpinhbffleaaGreat
open Go Go.RowKit

mutual
theorem pack_noIds (h : Heap) (n : Nat) (v : AV) (hv : v.ids = []) : AV.pack h n v = some v := by
  cases v with
  | agg cs => unfold AV.pack; rw [packL_noIds h n cs (by simpa [AV.ids] using hv)]; rfl
  | tuple cs => unfold AV.pack; rw [packL_noIds h n cs (by simpa [AV.ids] using hv)]; rfl
  | fn f cs => unfold AV.pack; rw [packL_noIds h n cs (by simpa [AV.ids] using hv)]; rfl
  | iface t v => unfold AV.pack; rw [pack_noIds h n v (by simpa [AV.ids] using hv)]; rfl
  | ref => simp [AV.ids] at hv
  | ptr => simp [AV.ids] at hv
  | _ => unfold AV.pack; rfl
  termination_by SizeOf.sizeOf v
theorem packL_noIds (h : Heap) (n : Nat) (l : List AV) (hv : AV.idsL l = []) : AV.packL h n l = some l := by
  cases l with
  | nil => unfold AV.packL; rfl
  | cons c cs =>
    simp only [AV.idsL, List.append_eq_nil_iff] at hv
    unfold AV.packL
    rw [pack_noIds h n c hv.1, packL_noIds h n cs hv.2]; rfl
  termination_by SizeOf.sizeOf l
end
theorem pack_cells {h : Heap} {n : Nat} {v v' : AV} (e : AV.pack h n v = some v') : AV.packL h n (cellsOf v) = some (cellsOf v') := by
  have one : ∀ {u u' : AV}, AV.pack h n u = some u' → AV.packL h n [u] = some [u'] := by
    intro u u' h
    unfold AV.packL
    rw [h]
    unfold AV.packL
    rfl
  have e0 := e
  cases v with
  | agg cs =>
    unfold AV.pack at e
    cases hq : AV.packL h n cs with
    | none => simp [hq] at e
    | some q => simp [hq] at e; subst e; exact hq
  | tuple cs =>
    unfold AV.pack at e
    cases hq : AV.packL h n cs with
    | none => simp [hq] at e
    | some q => simp [hq] at e; subst e; exact one e0
  | fn f cs =>
    unfold AV.pack at e
    cases hq : AV.packL h n cs with
    | none => simp [hq] at e
    | some q => simp [hq] at e; subst e; exact one e0
  | iface t v =>
    unfold AV.pack at e
    cases hq : AV.pack h n v with
    | none => simp [hq] at e
    | some q => simp [hq] at e; subst e; exact one e0
  | ref id off len =>
    unfold AV.pack at e
    cases hb : h id with
    | none => simp [hb] at e
    | some b =>
      simp only [hb] at e
      split at e
      · injection e with e; subst e; exact one e0
      · cases e
  | ptr id idx off =>
    unfold AV.pack at e
    cases n with
    | zero => simp at e
    | succ n =>
      cases hb : h id with
      | none => simp [hb] at e
      | some b =>
        simp only [hb] at e
        split at e
        · cases hq : AV.packL h n ((cellsOf (b.els.getD idx .dead)).drop off) with
          | none => simp only [hq] at e; cases e
          | some q => simp only [hq] at e; injection e with e; subst e; exact one e0
        · cases e
  | _ => unfold AV.pack at e; injection e with e; subst e; exact one e0
theorem idsL_nil {l : List AV} (h : AV.idsL l = []) : ∀ i, i < l.length → (l.getD i .dead).ids = [] := by
  induction l with
  | nil => intro i hi; simp at hi
  | cons c cs ih =>
    simp only [AV.idsL, List.append_eq_nil_iff] at h
    intro i hi
    cases i with
    | zero => simpa using h.1
    | succ i => simpa using ih h.2 i (by simpa using hi)
theorem Rep.noIds {w : World} {O : Nat → Prop} {ι : Map} {v : AV} {x : Value} (h : Rep w O ι v x) (ι' : Map) (e : v.ids = []) : Rep w O ι' v x := by
  induction h with
  | dead v => exact .dead v
  | int k n => exact .int k n
  | bool b => exact .bool b
  | str h => exact .str h
  | agg hl _ ih => exact .agg hl fun i hi => ih i hi (idsL_nil (by simpa [AV.ids] using e) i hi)
  | nil a => exact .nil a
  | slE m a cap => exact .slE m a cap
  | sl cell hn hlen hcap hob hb hm hc hcell h1 h _ => exact .sl cell hn hlen hcap hob hb hm hc hcell h1 h
  | ref => simp [AV.ids] at e
  | refE => simp [AV.ids] at e
  | ptr => simp [AV.ids] at e
  | rptr cell hob hb hcell h1 h _ => exact .rptr cell hob hb hcell h1 h
  | fn hl _ ih => exact .fn hl fun i hi => ih i hi (idsL_nil (by simpa [AV.ids] using e) i hi)
  | nilfn => exact .nilfn
  | iface _ ih => exact .iface (ih (by simpa [AV.ids] using e))
  | niliface => exact .niliface
  | tuple hl _ ih => exact .tuple hl fun i hi => ih i hi (idsL_nil (by simpa [AV.ids] using e) i hi)
  | nilptr => exact .nilptr
theorem Rep.less {w : World} {O O' : Nat → Prop} {ι : Map} {v : AV} {x : Value} (h : Rep w O ι v x) (hO : ∀ b, O' b → O b) : Rep w O' ι v x :=
  h.mono (Ext.refl O w) (fun b _ h => hO b h) _ fun _ _ h => h
theorem leaf_cells {c : AV} (h : leaf c = true) : cellsOf c = [c] := by cases c <;> first | rfl | (simp [leaf] at h)
theorem cells_rep {w : World} {O : Nat → Prop} {ι : Map} {v : AV} {y : Value} (r : Rep w O ι v y) (hf : (cellsOf v).all leaf = true) :
    y.cells.size = (cellsOf v).length ∧ ∀ j, j < (cellsOf v).length → Rep w O ι ((cellsOf v).getD j .dead) (y.cells.getD j undef) ∧ (y.cells.getD j undef).oneCell' = true := by
  have one : leaf v = true → y.cells.size = (cellsOf v).length ∧ ∀ j, j < (cellsOf v).length → Rep w O ι ((cellsOf v).getD j .dead) (y.cells.getD j undef) ∧ (y.cells.getD j undef).oneCell' = true := by
    intro hl
    have h1 := r.leaf hl
    have hy : y.cells = #[y] := by cases y <;> first | rfl | (simp [Value.oneCell'] at h1)
    rw [leaf_cells hl, hy]
    refine ⟨rfl, fun j hj => ?_⟩
    simp at hj; subst hj
    exact ⟨r, h1⟩
  cases r with
  | agg hl hr =>
    rename_i cs vs
    simp only [cellsOf, Value.cells] at hf ⊢
    refine ⟨hl.symm, fun j hj => ⟨hr j hj, (hr j hj).leaf ?_⟩⟩
    rw [List.all_eq_true] at hf
    have := hf (cs[j]) (List.getElem_mem hj)
    simpa [hj] using this
  | dead => simp [cellsOf, leaf] at hf
  | tuple => simp [cellsOf, leaf] at hf
  | _ => exact one rfl
section
variable {P : Program} {np : Nat} {g : Heap} {w : World} {ι : Map}
/-- What is given up to be only read. -/
theorem frz_hh (I : Inv w g ι) {is : List Id} (id : Id) (b : Blk) (hb : restrH is g id = some b) : BRep w (Own ι) ι id b ∧ ∀ k, Foot ι id k → ¬ Own (without ι is) k := by
  unfold restrH at hb
  split at hb
  · rename_i hm
    refine ⟨I.blk id b hb, fun k hk ho => ?_⟩
    obtain ⟨i', ho⟩ := ho
    obtain ⟨h1, h2⟩ := foot_without ho
    have := I.inj _ _ _ hk h1; subst this
    exact h2 ⟨hm, I.real _ _ hb⟩
  · cases hb
theorem frz_spec (I : Inv w g ι) {v v' : AV} {K : List Id} {x : Value} (e : AV.frz g v = some (v', K)) (r : Rep w (Own ι) ι v x) : Rep w (Own (without ι K)) noMap v' x := by
  unfold AV.frz at e
  split at e
  · rename_i h
    injection e with e; injection e with e1 e2; subst e1; subst e2
    exact (r.noIds noMap h).less fun b h => own_without h
  · rename_i i ids h
    cases hp : AV.pack (restrH (i :: ids) g) 0 v with
    | none => simp [hp] at e
    | some q =>
      simp [hp] at e
      obtain ⟨e1, e2⟩ := e; subst e1; subst e2
      exact pack_rep (O := Own ι) (ι := ι) (h := restrH (i :: ids) g) (frz_hh I) (fun b h => own_without h) 0 (Own ι) (fun b h => own_without h) v q x hp r
/-! Rows that a value hands over -/
theorem packL_at {h : Heap} {n : Nat} : ∀ {l l' : List AV} {j : Nat}, AV.packL h n l = some l' → j < l.length → AV.pack h n (l.getD j .dead) = some (l'.getD j .dead) := by
  intro l
  induction l with
  | nil => intro l' j _ hj; simp at hj
  | cons c cs ih =>
    intro l' j e hj
    unfold AV.packL at e
    cases hp : AV.pack h n c with
    | none => simp [hp] at e
    | some c' =>
      cases hq : AV.packL h n cs with
      | none => simp [hp, hq] at e
      | some q =>
        simp [hp, hq] at e; subst e
        cases j with
        | zero => simpa using hp
        | succ j => simpa using ih hq (by simpa using hj)
theorem frz_cells {v v' : AV} {K : List Id} (e : AV.frz g v = some (v', K)) : (cellsOf v').length = (cellsOf v).length ∧ ∀ j, j < (cellsOf v).length → AV.pack (restrH K g) 0 ((cellsOf v).getD j .dead) = some ((cellsOf v').getD j .dead) := by
  have e0 : AV.pack (restrH K g) 0 v = some v' := by
    unfold AV.frz at e
    split at e
    · rename_i h
      injection e with e; injection e with e1 e2; subst e1; subst e2
      exact pack_noIds _ _ _ h
    · rename_i i ids h
      cases hp : AV.pack (restrH (i :: ids) g) 0 v with
      | none => simp [hp] at e
      | some q =>
        simp [hp] at e
        obtain ⟨e1, e2⟩ := e; subst e1; subst e2; exact hp
  have := pack_cells e0
  exact ⟨packL_length this, fun j hj => packL_at this hj⟩
theorem idsL_mem : ∀ {l : List AV} {j : Nat} {id : Id}, id ∈ (l.getD j .dead).ids → j < l.length → id ∈ AV.idsL l := by
  intro l
  induction l with
  | nil => intro j id _ hj; simp at hj
  | cons c cs ih =>
    intro j id h hj
    simp only [AV.idsL, List.mem_append]
    cases j with
    | zero => left; simpa using h
    | succ j => right; exact ih (j := j) (by simpa using h) (by simpa using hj)
theorem adoptT_at {t : TypeId} : ∀ {cs : List AV} {j : Nat}, adoptT g np t cs = true → j < cs.length → plainC (cs.getD j .dead) = true ∨ ∃ id off len b, cs.getD j .dead = .ref id off len ∧ g id = some b ∧ b.isVar = false ∧ b.ty = t ∧ np ≤ id.headD 0 ∧ (∀ j', j < j' → j' < cs.length → id ∉ (cs.getD j' .dead).ids) ∧ off = 0 := by
  intro cs
  induction cs with
  | nil => intro j _ hj; simp at hj
  | cons c cs ih =>
    intro j h hj
    simp only [adoptT, Bool.and_eq_true, Bool.or_eq_true] at h
    obtain ⟨h1, h2⟩ := h
    cases j with
    | succ j =>
      rcases ih h2 (by simpa using hj) with h | ⟨id, off, len, b, a1, a2, a3, a4, a5, a6, a7⟩
      · left; simpa using h
      · refine .inr ⟨id, off, len, b, by simpa using a1, a2, a3, a4, a5, fun j' hj1 hj2 => ?_, a7⟩
        cases j' with
        | zero => omega
        | succ j' => simpa using a6 j' (by omega) (by simpa using hj2)
    | zero =>
      rcases h1 with h1 | h1
      · left; simpa using h1
      · right
        cases c with
        | ref id off len =>
          cases off with
          | succ _ => simp at h1
          | zero =>
          simp only [Bool.and_eq_true, decide_eq_true_eq, Bool.not_eq_true', decide_eq_false_iff_not] at h1
          obtain ⟨⟨b1, b2⟩, b3⟩ := h1
          cases hb : g id with
          | none => simp [hb] at b1
          | some b =>
            simp only [hb, Bool.and_eq_true, Bool.not_eq_true', decide_eq_true_eq] at b1
            refine ⟨id, 0, len, b, by simp, hb, b1.1, b1.2, b2, fun j' hj1 hj2 hm => b3 ?_, rfl⟩
            cases j' with
            | zero => omega
            | succ j' => exact idsL_mem (j := j') (by simpa using hm) (by simpa using hj2)
        | _ => simp at h1
theorem adoptT_leaf {t : TypeId} : ∀ {cs : List AV}, adoptT g np t cs = true → cs.all leaf = true := by
  intro cs
  induction cs with
  | nil => intro _; rfl
  | cons c cs ih =>
    intro h
    simp only [adoptT, Bool.and_eq_true, Bool.or_eq_true] at h
    simp only [List.all_cons, Bool.and_eq_true]
    refine ⟨?_, ih h.2⟩
    rcases h.1 with h1 | h1
    · cases c <;> first | rfl | (simp [plainC] at h1)
    · cases c <;> first | rfl | (simp at h1)
/-- What new cells of a row say of the rows that they hand over. -/
def NewC (w : World) (N n : Nat → Prop) (t : TypeId) (ws : List AV) (vs : Nat → Value) : Prop :=
  (∀ j m, j < ws.length → nestAt ws j = some m → N (blkOf (vs j)) ∧ ¬ n (blkOf (vs j)) ∧ NestC w t m (vs j)) ∧
  ∀ j j', j < ws.length → j' < ws.length → (nestAt ws j).isSome = true → (nestAt ws j').isSome = true → blkOf (vs j) = blkOf (vs j') → j = j'
theorem nestAt_plain {cs : List AV} {j : Nat} (h : plainC (cs.getD j .dead) = true) : nestAt cs j = none := by
  unfold nestAt
  split
  · rename_i m c cs' e; rw [e] at h; simp [plainC] at h
  · rfl
theorem plainE_at {e : AV} (h : plainE e = true) (j : Nat) (hj : j < (cellsOf e).length) : plainC ((cellsOf e).getD j .dead) = true := by
  unfold plainE at h
  rw [List.all_eq_true] at h
  have := h ((cellsOf e)[j]) (List.getElem_mem hj)
  simpa [hj] using this
theorem NewC.flat {N n : Nat → Prop} {t : TypeId} {ws : List AV} {vs : Nat → Value} (h : ∀ j, j < ws.length → nestAt ws j = none) : NewC w N n t ws vs :=
  ⟨fun j m hj hs => by simp [h j hj] at hs, fun j j' hj _ hs => by simp [h j hj] at hs⟩
/-- The rows that a value hands over. -/
def gives (ι : Map) (K : List Id) : Nat → Prop := fun c => ∃ i ∈ K, ph i = false ∧ ∃ s, ι i = some (c, s)
theorem firstT_ids {t : TypeId} : ∀ {cs : List AV}, firstT g cs = some t → AV.idsL cs ≠ [] := by
  intro cs
  induction cs with
  | nil => intro h; cases h
  | cons c cs ih =>
    intro h
    cases c with
    | ref id off len => simp [AV.idsL, AV.ids]
    | _ => 
      all_goals
        simp only [firstT] at h
        simp only [AV.idsL, ne_eq, List.append_eq_nil_iff, not_and]
        exact fun _ => ih h
theorem cellsOf_ids (v : AV) : AV.idsL (cellsOf v) = v.ids := by
  cases v <;> simp [cellsOf, AV.idsL, AV.ids]
theorem adopt_new (I : Inv w g ι) {v v' : AV} {K : List Id} {y : Value} {t : TypeId} (hz : AV.frz g v = some (v', K)) (ha : adopt g np (cellsOf v) = some t) (r : Rep w (Own ι) ι v y) {n : Nat → Prop} (hn : ∀ i ∈ K, ∀ c, Foot ι i c → ¬ n c) :
    NewC w (fun c => n c ∨ gives ι K c) n t (cellsOf v') (fun j => y.cells.getD j undef) ∧ ∀ c, gives ι K c → ∃ i ∈ K, ph i = false ∧ np ≤ i.headD 0 ∧ Foot ι i c := by
  obtain ⟨f1, f2⟩ := frz_cells hz
  have hT : adoptT g np t (cellsOf v) = true := by
    unfold adopt at ha
    split at ha
    · split at ha
      · rename_i h; injection ha with ha; subst ha; exact h
      · cases ha
    · cases ha
  have hl := adoptT_leaf hT
  obtain ⟨c1, c2⟩ := cells_rep r hl
  have hK : K = v.ids := by
    have hne : v.ids ≠ [] := by
      unfold adopt at ha
      split at ha
      · rename_i t' h; have := firstT_ids h; rwa [cellsOf_ids] at this
      · cases ha
    unfold AV.frz at hz
    split at hz
    · rename_i h; exact absurd h hne
    · rename_i i ids h
      cases hp : AV.pack (restrH (i :: ids) g) 0 v with
      | none => simp [hp] at hz
      | some q => simp [hp] at hz; rw [← hz.2, h]
  have cell : ∀ j m, j < (cellsOf v').length → nestAt (cellsOf v') j = some m → ∃ id off len b blk cap, (cellsOf v).getD j .dead = .ref id off len ∧ g id = some b ∧ np ≤ id.headD 0 ∧ (∀ j', j < j' → j' < (cellsOf v).length → id ∉ ((cellsOf v).getD j' .dead).ids) ∧ id ∈ K ∧ ι id = some (blk, b.sz) ∧
      y.cells.getD j undef = .slice (some ⟨blk, off * b.sz, none⟩) len cap ∧ NestC w t m (y.cells.getD j undef) := by
    intro j m hj hs
    rw [f1] at hj
    have hp := f2 j hj
    rcases adoptT_at hT hj with h | ⟨id, off, len, b, a1, a2, a3, a4, a5, a6, a7⟩
    · have hid : ((cellsOf v).getD j .dead).ids = [] := by
        cases hc : (cellsOf v).getD j .dead <;> rw [hc] at h <;> first | rfl | simp [plainC] at h
      rw [pack_noIds _ _ _ hid] at hp
      injection hp with hp
      have := nestAt_plain (cs := cellsOf v') (j := j) (by rw [← hp]; exact h)
      rw [this] at hs; cases hs
    · rw [a1] at hp
      unfold AV.pack at hp
      have hm : id ∈ K := by
        rw [hK, ← cellsOf_ids]
        exact idsL_mem (j := j) (by rw [a1]; simp [AV.ids]) hj
      have hr : restrH K g id = some b := by simp [restrH, hm, a2]
      simp only [hr] at hp
      split at hp
      · rename_i hc
        injection hp with hp
        have hcell := (c2 j hj).1
        rw [a1] at hcell
        have hm' : m = b.sz ∧ len ≠ 0 := by
          unfold nestAt at hs
          rw [← hp] at hs
          split at hs
          · rename_i m' c cs' e
            injection e with e1 e2
            injection hs with hs
            refine ⟨by rw [← hs, ← e1], fun h0 => ?_⟩
            subst h0
            simp at e2
          · cases hs
        generalize hy : y.cells.getD j undef = yv at hcell
        cases hcell with
        | refE => exact absurd rfl hm'.2
        | ref hι hsh hcap hnn =>
          rename_i cap blk sz n ty
          rcases I.blk id b a2 with ⟨_, _, h3⟩ | ⟨k', cs, h1, h2, h3, h4, h5, h6, h8, h7, _⟩
          · rw [h3] at hι; cases hι
          · rw [hι] at h1; injection h1 with h1; injection h1 with e1 e2; subst e1; subst e2
            subst a7
            refine ⟨id, 0, len, b, blk, cap, a1, a2, a5, a6, hm, hι, rfl, blk, len, cap, cs, by rw [Nat.zero_mul], by rw [← a4]; exact h2, hcap, ?_⟩
            rw [hm'.1]
            have : n = cs.size := by
              simp only [World.shape?, h2] at hsh
              injection hsh with hsh; injection hsh with _ hsh; exact hsh.symm
            rw [← this]; rw [Nat.zero_add] at hnn; exact hnn
      · cases hp
  refine ⟨⟨fun j m hj hs => ?_, fun j j' hj hj' hs hs' e => ?_⟩, ?_⟩
  · obtain ⟨id, off, len, b, blk, cap, a1, a2, a3, a4, a5, a6, a7, a8⟩ := cell j m hj hs
    have hph := I.real id b a2
    have hblk : blkOf (y.cells.getD j undef) = blk := by rw [a7]; rfl
    refine ⟨.inr ⟨id, a5, hph, b.sz, by show ι id = some (blkOf (y.cells.getD j undef), b.sz); rw [hblk]; exact a6⟩, hn id a5 _ (by show Foot ι id (blkOf (y.cells.getD j undef)); rw [hblk]; exact .name a6), a8⟩
  · obtain ⟨m, hs⟩ := Option.isSome_iff_exists.1 hs
    obtain ⟨m', hs'⟩ := Option.isSome_iff_exists.1 hs'
    obtain ⟨id, off, len, b, blk, cap, a1, a2, a3, a4, a5, a6, a7, a8⟩ := cell j m hj hs
    obtain ⟨id', off', len', b', blk', cap', b1, b2, b3, b4, b5, b6, b7, b8⟩ := cell j' m' hj' hs'
    have e : blk = blk' := by
      have e1 : blkOf (y.cells.getD j undef) = blkOf (y.cells.getD j' undef) := e
      rw [a7, b7] at e1
      exact e1
    subst e
    have hid := I.inj' a6 b6
    subst hid
    rw [f1] at hj hj'
    rcases Nat.lt_trichotomy j j' with h | h | h
    · exact absurd (by rw [b1]; simp [AV.ids]) (a4 j' h hj')
    · exact h
    · exact absurd (by rw [a1]; simp [AV.ids]) (b4 j h hj)
  · rintro c ⟨i, hi, hp, s, hs⟩
    refine ⟨i, hi, hp, ?_, .name hs⟩
    rw [hK, ← cellsOf_ids] at hi
    have : ∀ (l : List AV), adoptT g np t l = true → i ∈ AV.idsL l → np ≤ i.headD 0 := by
      intro l
      induction l with
      | nil => intro _ h; simp [AV.idsL] at h
      | cons c cs ih =>
        intro h hm
        simp only [AV.idsL, List.mem_append] at hm
        simp only [adoptT, Bool.and_eq_true, Bool.or_eq_true] at h
        rcases hm with hm | hm
        · rcases h.1 with h1 | h1
          · cases c <;> first | (simp [plainC] at h1; done) | (simp [AV.ids] at hm; done)
          · cases c with
            | ref id off len =>
              cases off with
              | succ _ => simp at h1
              | zero =>
              simp only [Bool.and_eq_true, decide_eq_true_eq] at h1
              simp [AV.ids] at hm; subst hm
              exact h1.1.2
            | _ => simp at h1
        · exact ih h.2 hm
    exact this _ hT hi
theorem setRow_ext {k : Nat} {cs cs' : Array Value} {t : TypeId} {fr : Nat × Nat} (hk : w.heap[k]? = some (.cells cs t fr)) (hs : cs'.size = cs.size) : Ext (fun j => j = k) w (w.setRow k cs') := by
  refine ⟨rfl, rfl, rfl, by simp, fun j _ hj => setRow_other w k j cs' hj, fun j hj => ?_⟩
  by_cases e : j = k
  · subst e
    simp only [World.shape?]
    rw [setRow_heap w j cs cs' t fr hk, hk]
    simp [hs]
  · simp only [World.shape?]; rw [setRow_other w k j cs' e]
/-- What is given up, and what a row's elements own behind it. -/
def give (ι : Map) (K : List Id) (id : Id) (N : Nat → Prop) : Map := ⟨(without ι K).f, fun i c => if i = id then N c else (without ι K).n i c⟩
theorem foot_give {ι : Map} {K : List Id} {id i : Id} {N : Nat → Prop} {c : Nat} (hK : id ∉ K) (h : Foot (give ι K id N) i c) : (i = id ∧ ((∃ s, ι id = some (c, s)) ∨ N c)) ∨ (i ≠ id ∧ ¬ (i ∈ K ∧ ph i = false) ∧ Foot ι i c) := by
  by_cases hi : i = id
  · subst hi
    refine .inl ⟨rfl, ?_⟩
    rcases h with ⟨s, h⟩ | h
    · exact .inl ⟨s, without_name h⟩
    · replace h : (if i = i then N c else (without ι K).n i c) := h
      rw [if_pos rfl] at h; exact .inr h
  · have : Foot (without ι K) i c := by
      rcases h with ⟨s, h⟩ | h
      · exact .inl ⟨s, h⟩
      · replace h : (if i = id then N c else (without ι K).n i c) := h
        rw [if_neg hi] at h; exact .inr h
    obtain ⟨h1, h2⟩ := foot_without this
    exact .inr ⟨hi, h2, h1⟩
theorem give_at {ι : Map} {K : List Id} {id i : Id} {N : Nat → Prop} (hi : i ≠ id) (h : ¬ (i ∈ K ∧ ph i = false)) : give ι K id N i = ι i ∧ (give ι K id N).n i = ι.n i := by
  obtain ⟨h1, h2⟩ := without_at (ι := ι) (K := K) (i := i) h
  refine ⟨h1, ?_⟩
  rw [← h2]
  funext c
  show (if i = id then N c else (without ι K).n i c) = _
  rw [if_neg hi]
theorem give_n (ι : Map) (K : List Id) (id : Id) (N : Nat → Prop) : (give ι K id N).n id = N := by
  funext c
  show (if id = id then N c else _) = N c
  rw [if_pos rfl]
theorem give_self (ι : Map) (id : Id) : give ι [] id (ι.n id) = ι := Map.ext' (fun i => by simp [give, without]) fun i c => by
  simp only [give, without]
  by_cases h : i = id
  · subst h; simp
  · simp [h]
/-- An own block, written over. -/
theorem Done.write (I : Inv w g ι) {id : Id} {b b' : Blk} {k : Nat} {cs cs' : Array Value} {K : List Id} {N : Nat → Prop} (hb : (g id).isSome = true) (hι : ι id = some (k, b.sz)) (hk : w.heap[k]? = some (.cells cs b.ty (0, 0))) (hK : id ∉ K) (hs : cs'.size = cs.size)
    (hN : ∀ c, N c → ι.n id c ∨ ∃ i ∈ K, ph i = false ∧ np ≤ i.headD 0 ∧ Foot ι i c) (hNl : id.headD 0 < np → N = ι.n id) (hNz : b'.sub = none → ∀ c, N c → ι.n id c)
    (hv : b'.isVar = b.isVar) (ht : b'.ty = b.ty) (hz : b'.sz = b.sz) (h0 : 0 < b.sz) (h1 : b.isVar = true → b'.els.length = 1) (h2 : ∀ i, i < b'.els.length → (cellsOf (b'.els.getD i .dead)).length = b.sz) (h3 : b'.els.length * b.sz ≤ cs.size)
    (h4 : ∀ o, o < b'.els.length * b.sz → (cs'.getD o undef).oneCell' = true)
    (h5 : ∀ i j, i < b'.els.length → j < b.sz → Rep w (ob (Own (without ι K)) N b') (inMap b.isVar (without ι K)) ((cellsOf (b'.els.getD i .dead)).getD j .dead) (cs'.getD (i * b.sz + j) undef)) (h6 : NestOK w N b' cs') (x : Value) :
    Done np g w ι { val := .dead, ups := [(id, b')], kills := K } x (w.setRow k cs') (give ι K id N) := by
  have hx := setRow_ext hk hs
  have hidr : ¬ (id ∈ K ∧ ph id = false) := fun h => hK h.1
  have hwo : give ι K id N id = ι id := (without_at hidr).1
  have hNb : ∀ c, N c → c < w.heap.size ∧ c ≠ k := by
    intro c hc
    rcases hN c hc with h | ⟨i, h1, h2, _, h4⟩
    · exact ⟨I.live _ _ (.inr h), fun e => I.sep _ _ _ hι (by rw [← e]; exact h)⟩
    · refine ⟨I.live _ _ h4, fun e => ?_⟩
      subst e
      have := I.inj _ _ _ h4 (.name hι); subst this
      exact hK h1
  refine ⟨hx.mono fun j _ hj => ⟨id, by simp [keys], by subst hj; exact .name hι⟩, .dead _, fun i c hc => ?_, fun i h h' => give_at (by simpa [keys] using h') fun hh => h hh.1, fun i h _ => (without_at fun hh => h hh.1).1, fun i k s h => .inl (without_name h), fun i c h => ?_, fun i i' k h h' => ?_, fun i k' s h hn => ?_, fun i k h => ?_, fun i h h' => ?_, fun i hi hu => ?_, by simp [keys], fun i hi => by simp [keys] at hi; rw [hi]; cases hg : g id with | none => rw [hg] at hb; cases hb | some b0 => exact I.real id b0 hg, fun i hi => ?_⟩
  · simp at hc; obtain ⟨rfl, rfl⟩ := hc
    refine .inr ⟨k, cs', by rw [hwo, hz]; exact hι, by rw [ht]; exact setRow_heap w k cs cs' _ _ hk, by rw [hz]; exact h0, by rw [hv]; exact h1, by rw [hz]; exact h2, by rw [hz, hs]; exact h3, by rw [hz]; exact h4, fun n j hn hj => ?_, ?_⟩
    · rw [hz] at hj ⊢
      rw [hv, give_n]
      have hx2 : Ext (ob (Own (without ι K)) N c) w (w.setRow k cs') := hx.mono fun j _ hj => by
        subst hj
        exact ⟨⟨i, .name ((without_at hidr).1.trans hι)⟩, fun _ hn => (hNb _ hn).2 rfl⟩
      refine (h5 n j hn hj).mono hx2 (fun q _ hq => ⟨?_, hq.2⟩) _ ?_
      · obtain ⟨⟨i', hq1⟩, hq2⟩ := hq
        rcases foot_give hK hq1 with ⟨e1, ⟨s, h⟩ | h⟩ | ⟨e1, n1, h⟩
        · exact ⟨i, .name ((without_at hidr).1.trans h)⟩
        · cases hsb : c.sub with
          | none =>
            refine ⟨i, .inr ?_⟩
            rw [(without_at hidr).2]; exact hNz hsb _ h
          | some t => exact absurd h (hq2 (by rw [hsb]; rfl))
        · obtain ⟨e2, e3⟩ := without_at (ι := ι) (K := K) (i := i') n1
          exact ⟨i', h.of e2 e3⟩
      · cases b.isVar
        · exact fun _ _ h => h
        · exact fun _ _ h => h
    · rw [give_n]
      exact h6.mono (fun _ h => h) fun q hq => setRow_other w k q cs' (hNb q hq).2
  · by_cases hi : i = id
    · subst hi
      rw [give_n] at h
      rcases hN c h with h | ⟨j, h1, h2, h3, h4⟩
      · exact .inl h
      · exact .inr (.inr ⟨j, h2, h3, h4⟩)
    · replace h : (if i = id then N c else (without ι K).n i c) := h
      rw [if_neg hi] at h
      exact .inl h.2
  · have key : ∀ {i' : Id}, i' ≠ id → ¬ (i' ∈ K ∧ ph i' = false) → Foot ι i' k → ((∃ s, ι id = some (k, s)) ∨ N k) → False := by
      intro i' n0 n1 h2 h1
      rcases h1 with ⟨s, h1⟩ | h1
      · exact n0 (I.inj _ _ _ h2 (.name h1))
      · rcases hN k h1 with h3 | ⟨j, h3, h4, _, h5⟩
        · exact n0 (I.inj _ _ _ h2 (.inr h3))
        · have := I.inj _ _ _ h5 h2; subst this
          exact n1 ⟨h3, h4⟩
    rcases foot_give hK h with ⟨e1, h1⟩ | ⟨e1, n1, h1⟩ <;> rcases foot_give hK h' with ⟨e2, h2⟩ | ⟨e2, n2, h2⟩
    · rw [e1, e2]
    · exact (key e2 n2 h2 h1).elim
    · exact (key e1 n1 h1 h2).elim
    · exact I.inj _ _ _ h1 h2
  · by_cases hi : i = id
    · subst hi
      rw [give_n] at hn
      have := without_name h
      rw [hι] at this; injection this with this; injection this with this _
      exact (hNb _ hn).2 this.symm
    · replace hn : (if i = id then N k' else (without ι K).n i k') := hn
      rw [if_neg hi] at hn
      exact I.sep _ _ _ (without_name h) hn.2
  · rcases foot_give hK h with ⟨_, ⟨s, h1⟩ | h1⟩ | ⟨_, _, h1⟩
    · simpa using I.live' h1
    · simpa using (hNb _ h1).1
    · simpa using I.live _ _ h1
  · cases hp : ph i with
    | true => exact .inl rfl
    | false =>
      right
      intro c hc
      rcases foot_give hK hc with ⟨e, _⟩ | ⟨_, h2, _⟩
      · subst e; exact hK h
      · exact h2 ⟨h, hp⟩
  · simp [keys] at hu; subst hu; exact ⟨hwo, by rw [give_n]; exact hNl hi, hb⟩
  · by_cases he : i = id
    · subst he
      have : ph i = false := by
        cases hg : g i with
        | none => rw [hg] at hb; cases hb
        | some b0 => exact I.real i b0 hg
      rw [this] at hi; cases hi
    · exact give_at he fun h => by rw [hi] at h; cases h.2
theorem splice_spec {e : AV} {off : Nat} {cs : List AV} {m : Nat} (hl : (cellsOf e).length = m) (hc : off + cs.length ≤ m) (h0 : 0 < cs.length) (hf : cs.all leaf = true) :
    (cellsOf (splice e off cs)).length = m ∧ ∀ j, (cellsOf (splice e off cs)).getD j .dead = if off ≤ j ∧ j < off + cs.length then cs.getD (j - off) .dead else (cellsOf e).getD j .dead := by
  have main : ∀ ds : List AV, ds.length = m → (ds.take off ++ cs ++ ds.drop (off + cs.length)).length = m ∧ ∀ j, (ds.take off ++ cs ++ ds.drop (off + cs.length)).getD j .dead = if off ≤ j ∧ j < off + cs.length then cs.getD (j - off) .dead else ds.getD j .dead := by
    intro ds hd
    refine ⟨by simp; omega, fun j => ?_⟩
    have ht : (ds.take off).length = off := by simp; omega
    simp only [List.getD_eq_getElem?_getD, List.append_assoc]
    by_cases h1 : j < off
    · rw [List.getElem?_append_left (by omega), if_neg (by omega), List.getElem?_take, if_pos h1]
    · rw [List.getElem?_append_right (by omega), ht]
      by_cases h2 : j < off + cs.length
      · rw [List.getElem?_append_left (by omega), if_pos (by omega)]
      · rw [List.getElem?_append_right (by omega), if_neg (by omega), List.getElem?_drop]
        congr 2; omega
  cases e with
  | agg ds => exact main ds hl
  | _ =>
    all_goals
      simp only [cellsOf, List.length_cons, List.length_nil] at hl
      subst hl
      obtain ⟨c, rfl⟩ : ∃ c, cs = [c] := by
        cases cs with
        | nil => simp at h0
        | cons c cs => cases cs with
          | nil => exact ⟨c, rfl⟩
          | cons _ _ => simp only [List.length_cons] at hc; omega
      have hlc : leaf c = true := by simpa using hf
      have ho : off = 0 := by simp only [List.length_cons, List.length_nil] at hc; omega
      subst ho
      simp only [splice, List.headD_cons, leaf_cells hlc]
      refine ⟨rfl, fun j => ?_⟩
      cases j with
      | zero => simp
      | succ j => simp [cellsOf]
theorem over_at (cs : Array Value) (o : Nat) (vs : List Value) (h : o + vs.length ≤ cs.size) (p : Nat) :
    ((cs.toList.take o ++ vs ++ cs.toList.drop (o + vs.length)).toArray).getD p undef = if o ≤ p ∧ p < o + vs.length then vs.getD (p - o) undef else cs.getD p undef := by
  have ht : (cs.toList.take o).length = o := by simp; omega
  simp only [Array.getD_eq_getD_getElem?, List.getElem?_toArray, List.getD_eq_getElem?_getD, List.append_assoc]
  by_cases h1 : p < o
  · rw [List.getElem?_append_left (by omega), if_neg (by omega), List.getElem?_take, if_pos h1]; simp
  · rw [List.getElem?_append_right (by omega), ht]
    by_cases h2 : p < o + vs.length
    · rw [List.getElem?_append_left (by omega), if_pos (by omega)]
    · rw [List.getElem?_append_right (by omega), if_neg (by omega), List.getElem?_drop]
      rw [show o + vs.length + (p - o - vs.length) = p from by omega]; simp
theorem blk_range {i idx sz off len j : Nat} (hj : j < sz) (h1 : idx * sz + off ≤ i * sz + j) (h2 : i * sz + j < idx * sz + off + len) (hl : off + len ≤ sz) : i = idx := by
  rcases Nat.lt_trichotomy i idx with h | h | h
  · have := Nat.mul_le_mul_right sz (Nat.succ_le_of_lt h); rw [Nat.succ_mul] at this; omega
  · exact h
  · have := Nat.mul_le_mul_right sz (Nat.succ_le_of_lt h); rw [Nat.succ_mul] at this; omega
/-- Cells of one element of an own block, written over. -/
theorem store_core (I : Inv w g ι) {id : Id} {b : Blk} {idx off : Nat} {K : List Id} {N : Nat → Prop} {s' : Option TypeId} {ws : List AV} {vs : List Value} {sz k : Nat} (hb : g id = some b) (hι : ι id = some (k, sz)) (hK : id ∉ K) (hidx : idx < b.els.length) (hoff : off + ws.length ≤ (cellsOf (b.els.getD idx .dead)).length) (h0 : 0 < ws.length)
    (hf : ws.all leaf = true) (hlen : vs.length = ws.length) (hvs : ∀ j, j < ws.length → Rep w (ob (Own (without ι K)) N { b with sub := s' }) (inMap b.isVar (without ι K)) (ws.getD j .dead) (vs.getD j undef) ∧ (vs.getD j undef).oneCell' = true) (hKv : b.isVar = true → K = [])
    (hN1 : ∀ c, ι.n id c → N c) (hN : ∀ c, N c → ι.n id c ∨ ∃ i ∈ K, ph i = false ∧ np ≤ i.headD 0 ∧ Foot ι i c) (hNl : id.headD 0 < np → N = ι.n id) (hNz : s' = none → ∀ c, N c → ι.n id c)
    (hsub : b.sub = s' ∨ (b.sub = none ∧ (b.isVar = true ∨ s' = none ∨ b.els.all plainE = true))) (hnew : b.isVar = false → ∀ t, s' = some t → NewC w N (ι.n id) t ws fun j => vs.getD j undef) (x : Value) :
    ∃ w', (storeCells ⟨k, idx * sz + off, none⟩ vs).run P w = .ok () w' ∧ Done np g w ι { val := .dead, ups := [(id, { b with els := b.els.set idx (splice (b.els.getD idx .dead) off ws), sub := s' })], kills := K } x w' (give ι K id N) := by
  rcases I.blk id b hb with ⟨h1, _, _⟩ | ⟨k', cs, h1, h2, h3, h4, h5, h6, h8, h7, h9⟩
  · rw [h1] at hidx; simp at hidx
  · rw [hι] at h1; injection h1 with h1; injection h1 with e1 e2; subst e1; subst e2
    have hel := h5 idx hidx
    rw [hel] at hoff
    obtain ⟨s1, s2⟩ := splice_spec hel hoff h0 hf
    have hm := Nat.mul_le_mul_right b.sz (Nat.succ_le_of_lt hidx)
    rw [Nat.succ_mul] at hm
    have hfit : idx * b.sz + off + vs.length ≤ cs.size := by omega
    have hrun := run_storeCells_at P k (idx * b.sz + off) b.ty vs 0 cs w h2 (by simpa using hfit) (fun v hv => by
      obtain ⟨j, hj, rfl⟩ := List.getElem_of_mem hv
      have := (hvs j (by omega)).2
      simpa [hj] using this)
    simp only [Nat.add_zero] at hrun
    refine ⟨_, hrun, ?_⟩
    have hget : ∀ i, (b.els.set idx (splice (b.els.getD idx .dead) off ws)).getD i .dead = if i = idx then splice (b.els.getD idx .dead) off ws else b.els.getD i .dead := by
      intro i
      simp only [List.getD_eq_getElem?_getD, List.getElem?_set]
      by_cases hi : idx = i
      · subst hi; simp [hidx]
      · have : ¬ i = idx := fun h => hi h.symm
        simp [hi, this]
    have hover := over_at cs (idx * b.sz + off) vs hfit
    have hsize : ((cs.toList.take (idx * b.sz + off) ++ vs ++ cs.toList.drop (idx * b.sz + off + vs.length)).toArray).size = cs.size := by simp; omega
    -- a cell is a new one or an old one
    have hcell : ∀ i j, i < b.els.length → j < b.sz → (i = idx ∧ off ≤ j ∧ j < off + ws.length ∧ (cellsOf ((b.els.set idx (splice (b.els.getD idx .dead) off ws)).getD i .dead)).getD j .dead = ws.getD (j - off) .dead ∧ ((cs.toList.take (idx * b.sz + off) ++ vs ++ cs.toList.drop (idx * b.sz + off + vs.length)).toArray).getD (i * b.sz + j) undef = vs.getD (j - off) undef) ∨
        (¬ (i = idx ∧ off ≤ j ∧ j < off + ws.length) ∧ (cellsOf ((b.els.set idx (splice (b.els.getD idx .dead) off ws)).getD i .dead)).getD j .dead = (cellsOf (b.els.getD i .dead)).getD j .dead ∧ ((cs.toList.take (idx * b.sz + off) ++ vs ++ cs.toList.drop (idx * b.sz + off + vs.length)).toArray).getD (i * b.sz + j) undef = cs.getD (i * b.sz + j) undef) := by
      intro i j hi hj
      rw [hget i, hover]
      by_cases hi' : i = idx
      · subst hi'
        rw [if_pos rfl, s2 j]
        by_cases hr : off ≤ j ∧ j < off + ws.length
        · rw [if_pos hr, if_pos (by omega), show i * b.sz + j - (i * b.sz + off) = j - off from by omega]
          exact .inl ⟨rfl, hr.1, hr.2, rfl, rfl⟩
        · rw [if_neg hr, if_neg (by omega)]
          exact .inr ⟨fun h => hr h.2, rfl, rfl⟩
      · rw [if_neg hi', if_neg (fun h => hi' (blk_range hj h.1 (by omega) hoff))]
        exact .inr ⟨fun h => hi' h.1, rfl, rfl⟩
    refine Done.write (b' := { b with els := b.els.set idx (splice (b.els.getD idx .dead) off ws), sub := s' }) I (by rw [hb]; rfl) hι h2 hK hsize hN hNl hNz rfl rfl rfl h3 (fun hv => by simpa using h4 hv) (fun i hi => ?_) (by simpa using h6) (fun o ho => ?_) (fun i j hi hj => ?_) (fun hv t ht => ?_) x
    · show (cellsOf ((b.els.set idx (splice (b.els.getD idx .dead) off ws)).getD i .dead)).length = b.sz
      rw [hget i]
      split
      · exact s1
      · exact h5 i (by simpa using hi)
    · have ho : o < b.els.length * b.sz := by simpa using ho
      rw [hover]
      split
      · rename_i h; exact (hvs _ (by omega)).2
      · exact h8 o ho
    · have hib : i < b.els.length := by simpa using hi
      rcases hcell i j hib hj with ⟨_, c1, c2, c3, c4⟩ | ⟨_, c3, c4⟩
      · show Rep w _ _ ((cellsOf ((b.els.set idx (splice (b.els.getD idx .dead) off ws)).getD i .dead)).getD j .dead) _
        rw [c3, c4]
        exact (hvs (j - off) (by omega)).1
      · show Rep w _ _ ((cellsOf ((b.els.set idx (splice (b.els.getD idx .dead) off ws)).getD i .dead)).getD j .dead) _
        rw [c3, c4]
        refine (h7 i j hib hj).mono (Ext.refl _ w) (fun q _ hq => ⟨own_without hq.1, fun hs hn => ?_⟩) _ fun q p hp => ?_
        · refine hq.2 ?_ (hN1 q hn)
          show s'.isSome = true
          rcases hsub with h | ⟨h, _⟩
          · rw [← h]; exact hs
          · rw [h] at hs; cases hs
        · cases hvb : b.isVar with
          | false => rw [hvb] at hp; exact hp
          | true =>
            rw [hvb] at hp
            have := hKv hvb; subst this
            have hp : ι q = some p := hp
            show without ι [] q = some p
            rw [without_nil]; exact hp
    · have hv : b.isVar = false := hv
      have ht : s' = some t := ht
      have hnew := hnew hv t ht
      have old : ∀ i j m, i < b.els.length → j < b.sz → nestAt (cellsOf (b.els.getD i .dead)) j = some m → b.sub = some t := by
        intro i j m hi hj hm
        rcases hsub with h | ⟨h, h' | h' | h'⟩
        · rw [h]; exact ht
        · rw [hv] at h'; cases h'
        · rw [ht] at h'; cases h'
        · rw [List.all_eq_true] at h'
          have h1 := h' (b.els[i]) (List.getElem_mem hi)
          have h2 : b.els[i] = b.els.getD i .dead := by simp [hi]
          rw [h2] at h1
          rw [nestAt_plain (plainE_at h1 j (by rw [h5 i hi]; exact hj))] at hm; cases hm
      have pos : ∀ i j m, slAt b.sz (b.els.set idx (splice (b.els.getD idx .dead) off ws)) i j = some m → i < b.els.length ∧ j < b.sz ∧ nestAt (cellsOf ((b.els.set idx (splice (b.els.getD idx .dead) off ws)).getD i .dead)) j = some m := by
        intro i j m h
        unfold slAt at h
        split at h
        · rename_i hc; exact ⟨by simpa using hc.1, hc.2, h⟩
        · cases h
      have one : ∀ i j m, i < b.els.length → j < b.sz → nestAt (cellsOf ((b.els.set idx (splice (b.els.getD idx .dead) off ws)).getD i .dead)) j = some m →
          (i = idx ∧ off ≤ j ∧ j < off + ws.length ∧ nestAt ws (j - off) = some m ∧ ((cs.toList.take (idx * b.sz + off) ++ vs ++ cs.toList.drop (idx * b.sz + off + vs.length)).toArray).getD (i * b.sz + j) undef = vs.getD (j - off) undef) ∨
          (¬ (i = idx ∧ off ≤ j ∧ j < off + ws.length) ∧ slAt b.sz b.els i j = some m ∧ ((cs.toList.take (idx * b.sz + off) ++ vs ++ cs.toList.drop (idx * b.sz + off + vs.length)).toArray).getD (i * b.sz + j) undef = cs.getD (i * b.sz + j) undef) := by
        intro i j m hi hj hm
        unfold nestAt at hm
        rcases hcell i j hi hj with ⟨c0, c1, c2, c3, c4⟩ | ⟨c0, c3, c4⟩
        · rw [c3] at hm; exact .inl ⟨c0, c1, c2, hm, c4⟩
        · rw [c3] at hm; exact .inr ⟨c0, by unfold slAt; rw [if_pos ⟨hi, hj⟩]; exact hm, c4⟩
      refine ⟨fun i j m hs => ?_, fun i j i' j' hs hs' e => ?_⟩
      · obtain ⟨p1, p2, p3⟩ := pos i j m hs
        rcases one i j m p1 p2 p3 with ⟨_, c1, c2, c3, c4⟩ | ⟨_, c3, c4⟩
        · show N (blkOf (Array.getD _ _ _)) ∧ NestC w t m (Array.getD _ _ _)
          rw [c4]
          obtain ⟨d1, _, d3⟩ := hnew.1 (j - off) m (by omega) c3
          exact ⟨d1, d3⟩
        · show N (blkOf (Array.getD _ _ _)) ∧ NestC w t m (Array.getD _ _ _)
          rw [c4]
          have hc3 := c3
          unfold slAt at hc3
          rw [if_pos ⟨p1, p2⟩] at hc3
          obtain ⟨d1, d2⟩ := (h9 hv t (old i j m p1 p2 hc3)).1 i j m c3
          exact ⟨hN1 _ d1, d2⟩
      · obtain ⟨m, hs⟩ := Option.isSome_iff_exists.1 hs
        obtain ⟨m', hs'⟩ := Option.isSome_iff_exists.1 hs'
        obtain ⟨p1, p2, p3⟩ := pos i j m hs
        obtain ⟨q1, q2, q3⟩ := pos i' j' m' hs'
        have olds : ∀ i j m, i < b.els.length → j < b.sz → slAt b.sz b.els i j = some m → ι.n id (blkOf (cs.getD (i * b.sz + j) undef)) := by
          intro i j m hi hj hc
          have hc3 := hc
          unfold slAt at hc3
          rw [if_pos ⟨hi, hj⟩] at hc3
          exact ((h9 hv t (old i j m hi hj hc3)).1 i j m hc).1
        rcases one i j m p1 p2 p3 with ⟨c0, c1, c2, c3, c4⟩ | ⟨c0, c3, c4⟩ <;> rcases one i' j' m' q1 q2 q3 with ⟨d0, d1, d2, d3, d4⟩ | ⟨d0, d3, d4⟩
        · have e : blkOf (Array.getD _ _ _) = blkOf (Array.getD _ _ _) := e
          rw [c4, d4] at e
          have := hnew.2 (j - off) (j' - off) (by omega) (by omega) (by rw [c3]; rfl) (by rw [d3]; rfl) e
          exact ⟨by omega, by omega⟩
        · have e : blkOf (Array.getD _ _ _) = blkOf (Array.getD _ _ _) := e
          rw [c4, d4] at e
          have h1 := (hnew.1 (j - off) m (by omega) c3).2.1
          simp only at h1
          rw [e] at h1
          exact absurd (olds i' j' m' q1 q2 d3) h1
        · have e : blkOf (Array.getD _ _ _) = blkOf (Array.getD _ _ _) := e
          rw [c4, d4] at e
          have h1 := (hnew.1 (j' - off) m' (by omega) d3).2.1
          simp only at h1
          rw [← e] at h1
          exact absurd (olds i j m p1 p2 c3) h1
        · have e : blkOf (Array.getD _ _ _) = blkOf (Array.getD _ _ _) := e
          rw [c4, d4] at e
          have hc3 := c3
          unfold slAt at hc3
          rw [if_pos ⟨p1, p2⟩] at hc3
          exact (h9 hv t (old i j m p1 p2 hc3)).2 i j i' j' (by rw [c3]; rfl) (by rw [d3]; rfl) e
theorem joinSub_inv {dp : Option Nat} {id : Id} {b : Blk} {v : AV} {s' : Option TypeId} (h : joinSub dp g id b v = some s') (hnp : dp = some np ∨ dp = none) : (s' = b.sub ∧ (s' = none ∨ plainE v = true)) ∨ ∃ t, s' = some t ∧ np ≤ id.headD 0 ∧ adopt g np (cellsOf v) = some t ∧ (b.sub = some t ∨ (b.sub = none ∧ b.els.all plainE = true)) := by
  unfold joinSub at h
  split at h
  · split at h
    · rename_i hb; injection h with h; subst h; exact .inl ⟨hb.symm, .inl rfl⟩
    · rename_i t hb
      split at h
      · rename_i hp; injection h with h; subst h; exact .inl ⟨hb.symm, .inr hp⟩
      · cases h
  · rename_i np'
    have hnn : np' = np := by rcases hnp with h | h <;> (injection h)
    subst hnn
    split at h
    · rename_i hp; injection h with h; subst h; exact .inl ⟨rfl, .inr hp⟩
    · split at h
      · rename_i t ha
        split at ha
        · rename_i hle
          split at h
          · rename_i hc; injection h with h; subst h; exact .inr ⟨t, rfl, hle, ha, hc⟩
          · split at h
            · rename_i hb; injection h with h; subst h; exact .inl ⟨hb.symm, .inl rfl⟩
            · cases h
        · cases ha
      · split at h
        · rename_i hb; injection h with h; subst h; exact .inl ⟨hb.symm, .inl rfl⟩
        · cases h
theorem astore_spec (I : Inv w g ι) {dp : Option Nat} (hdp : dp = some np ∨ dp = none) {t : TypeId} {a v : AV} {e : Eff} {x y : Value} (h : astore P dp g t a v = some e) (ra : Rep w (Own ι) ι a x) (rv : Rep w (Own ι) ι v y) :
    ∃ w' ι', (Instr.storeAt t x y).run P w = .ok () w' ∧ Done np g w ι e undef w' ι' := by
  unfold astore at h
  split at h
  · rename_i id idx off i hi
    cases hb : g id with
    | none => simp [hb] at h
    | some b =>
      simp only [hb] at h
      split at h
      · rename_i hc
        obtain ⟨hl, hlf, h0, hidx, hoff⟩ := hc
        obtain ⟨inf, d, z, q1, q2, q3, q4, q5, q6, q7, q8⟩ := tyi_spec hi
        obtain ⟨c1, c2⟩ := cells_rep rv hlf
        cases ra with
        | ptr hι =>
          rename_i k sz
          have hrun : ∀ w', (storeCells ⟨k, idx * sz + off, none⟩ y.cells.toList).run P w = .ok () w' → (Instr.storeAt t (.pointer (some ⟨k, idx * sz + off, none⟩)) y).run P w = .ok () w' := by
            intro w' hw
            simp [Instr.storeAt, Instr.sureAddr, storeVar, sizeOf_run q1, q3, c1, hl, hw]
          split at h
          · rename_i hv
            injection h with h; subst h
            obtain ⟨w', hw, D⟩ := store_core (P := P) (np := np) I (idx := idx) (off := off) (K := []) (N := ι.n id) (s' := b.sub) (ws := cellsOf v) (vs := y.cells.toList) hb hι (by simp) hidx (by omega) (by omega) hlf (by simpa using c1) (fun j hj => by
              have hm : inMap b.isVar ι = ι := by rw [hv]; rfl
              rw [without_nil, hm]
              have := c2 j hj
              refine ⟨?_, by simpa using this.2⟩
              have := this.1.less (O' := ob (Own ι) (ι.n id) b) fun _ h => h.1
              simpa using this) (fun _ => rfl) (fun _ h => h) (fun _ h => .inl h) (fun _ => rfl) (fun _ _ h => h) (.inl rfl) (fun h => by rw [hv] at h; cases h) undef
            exact ⟨w', _, hrun w' hw, D⟩
          · rename_i hv
            simp only [Bool.not_eq_true] at hv
            cases hfz : AV.frz g v with
            | none => simp [hfz] at h
            | some q =>
              obtain ⟨v', K⟩ := q
              cases hjs : joinSub dp g id b v with
              | none => simp [hfz, hjs] at h
              | some s' =>
              simp only [hfz, hjs] at h
              split at h
              · cases h
              · rename_i hn
                simp only [not_or, ne_eq, Decidable.not_not, Bool.not_eq_false] at hn
                injection h with h; subst h
                have rv' := frz_spec I hfz rv
                obtain ⟨c1', c2'⟩ := cells_rep rv' hn.2.2
                have hvs : ∀ (N : Nat → Prop) j, j < (cellsOf v').length → Rep w (ob (Own (without ι K)) N { b with sub := s' }) (inMap b.isVar (without ι K)) ((cellsOf v').getD j .dead) (y.cells.toList.getD j undef) ∧ (y.cells.toList.getD j undef).oneCell' = true := by
                  intro N j hj
                  have hm : inMap b.isVar (without ι K) = noMap := by rw [hv]; rfl
                  rw [hm]
                  have := c2' j hj
                  refine ⟨?_, by simpa using this.2⟩
                  have := this.1.less (O' := ob (Own (without ι K)) N { b with sub := s' }) fun _ h => h.1
                  simpa using this
                rcases joinSub_inv hjs hdp with ⟨e1, e2⟩ | ⟨ta, e1, e2, e3, e4⟩
                · obtain ⟨w', hw, D⟩ := store_core (P := P) (np := np) I (idx := idx) (off := off) (K := K) (N := ι.n id) (s' := s') (ws := cellsOf v') (vs := y.cells.toList) hb hι hn.1 hidx (by omega) (by omega) hn.2.2 (by simpa using c1') (hvs _) (fun hv' => by rw [hv] at hv'; cases hv')
                    (fun _ h => h) (fun _ h => .inl h) (fun _ => rfl) (fun _ _ h => h) (.inl e1.symm) (fun _ ta hta => .flat fun j hj => by
                      rcases e2 with e2 | e2
                      · rw [e2] at hta; cases hta
                      · obtain ⟨f1, f2⟩ := frz_cells hfz
                        rw [f1] at hj
                        have hp := plainE_at e2 j hj
                        have hid : ((cellsOf v).getD j .dead).ids = [] := by
                          cases hc : (cellsOf v).getD j .dead <;> rw [hc] at hp <;> first | rfl | simp [plainC] at hp
                        have h2 := f2 j hj
                        rw [pack_noIds _ _ _ hid] at h2
                        injection h2 with h2
                        exact nestAt_plain (by rw [← h2]; exact hp)) undef
                  exact ⟨w', _, hrun w' hw, D⟩
                · have hdis : ∀ i ∈ K, ∀ c, Foot ι i c → ¬ ι.n id c := by
                    intro i hi c hc hn'
                    have := I.inj _ _ _ hc (.inr hn'); subst this
                    exact hn.1 hi
                  obtain ⟨hnew, hgv⟩ := adopt_new I hfz e3 rv (n := ι.n id) hdis
                  obtain ⟨w', hw, D⟩ := store_core (P := P) (np := np) I (idx := idx) (off := off) (K := K) (N := fun c => ι.n id c ∨ gives ι K c) (s' := s') (ws := cellsOf v') (vs := y.cells.toList) hb hι hn.1 hidx (by omega) (by omega) hn.2.2 (by simpa using c1') (hvs _) (fun hv' => by rw [hv] at hv'; cases hv')
                    (fun _ h => .inl h) (fun c h => h.imp (fun h => h) (hgv c)) (fun h => by omega) (fun h => by rw [e1] at h; cases h) (by
                      rcases e4 with e4 | e4
                      · left; rw [e1, e4]
                      · exact .inr ⟨e4.1, .inr (.inr e4.2)⟩) (fun _ ta' hta => by
                      rw [e1] at hta; injection hta with hta; subst hta
                      have : (fun j => y.cells.toList.getD j undef) = fun j => y.cells.getD j undef := by funext j; simp
                      rw [this]; exact hnew) undef
                  exact ⟨w', _, hrun w' hw, D⟩
      · cases h
  · cases h
end
end Go.Proofs.YtndgpinhbffleaaGreat

