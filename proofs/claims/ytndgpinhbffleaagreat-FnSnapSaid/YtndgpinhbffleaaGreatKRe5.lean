/- A reading of the loaded code over plain data, its soundness, and what functions answer by it (part 5; joined by program). No condition. -/
import Derived.Test.YtndgpinhbffleaaGreatKRe4
import Derived.Laws.StructEq
import Derived.Laws.BytesString
import Derived.Lib.SmallJoins
set_option linter.all false
namespace Go.Proofs.YtndgpinhbffleaaGreat
open Go Go.RowKit

section
variable {P : Program} {w : World} {ι : Map} {O : Nat → Prop}
theorem part_spec {t : TypeId} {off : Nat} {cs : List AV} {vs : Array Value} (h0 : 0 < tsize P t) (hl : off + tsize P t ≤ cs.length) (r : Rep w O ι (.agg cs) (.agg vs)) :
    ∃ v, (part t vs off).run P w = .ok v w ∧ Rep w O ι (mkVal (tagg P t) ((cs.drop off).take (tsize P t))) v := by
  obtain ⟨i, d, hi, hud, his⟩ := tsize_pos' h0
  cases r with
  | agg hlen hr =>
    generalize hn : tsize P t = n at *
    cases h3 : tagg P t with
    | true =>
      refine ⟨.agg (vs.extract off (off + n)), by simp [part, isAgg_run hud, h3, sizeOf_run hi, his], ?_⟩
      simp only [mkVal, if_true]
      refine .agg (by simp; omega) fun j hj => ?_
      have hj' : j < n := by simp at hj; omega
      have := hr (off + j) (by omega)
      have h4 : (vs.extract off (off + n)).getD j undef = vs.getD (off + j) undef := by
        simp [Array.getElem?_extract]; rw [if_pos (by omega)]
      rw [h4]
      simpa [List.getElem?_take, List.getElem?_drop, hj'] using this
    | false =>
      have hlt : off < vs.size := by omega
      refine ⟨vs[off], by simp [part, isAgg_run hud, h3, hlt], ?_⟩
      have := hr off (by omega)
      have h5 : vs.getD off undef = vs[off] := by simp [hlt]
      rw [h5] at this
      obtain ⟨m, hm⟩ : ∃ m, n = m + 1 := ⟨n - 1, by omega⟩
      have h6 : mkVal false ((cs.drop off).take n) = cs.getD off .dead := by
        simp [mkVal, hm, List.head?_take, List.head?_drop]
      rw [h6]; exact this
theorem aeq_spec : ∀ (d : Nat) (t : TypeId) (x y : AV) (b : Bool) (vx vy : Value), aeq P d t x y = some b → Rep w O ι x vx → Rep w O ι y vy → ∀ D, d ≤ D → (Op.equalIn D t vx vy).run P w = .ok b w := by
  intro d
  induction d with
  | zero => intro t x y b vx vy e; simp [aeq] at e
  | succ d ih =>
    intro t x y b vx vy e rx ry D hD
    obtain ⟨D, rfl⟩ : ∃ k, D = k + 1 := ⟨D - 1, by omega⟩
    unfold aeq at e
    split at e
    · rename_i hu
      injection e with e; subst e; cases rx; cases ry
      exact run_equalIn_bool' w D t _ _ hu
    · rename_i hu
      split at e
      · rename_i hk
        injection e with e; subst e; subst hk; cases rx; cases ry
        exact run_equalIn_int w D t _ _ _ _ hu
      · cases e
    · rename_i hu
      injection e with e; subst e; cases rx; cases ry
      rename_i h1 _ h2
      rw [run_equalIn_string w D t _ _ hu, ByteArray.toList_eq, ByteArray.toList_eq, h1, h2]
    · rename_i fs xs ys hu
      split at e
      · cases e
      · rename_i hh
        simp only [Bool.not_eq_true] at hh
        generalize hvx : vx = vx' at rx
        generalize hvy : vy = vy' at ry
        have rx0 := rx
        have ry0 := ry
        cases rx with
        | agg hlx _ =>
          cases ry with
          | agg hly _ =>
            rename_i vsx vsy
            subst hvx; subst hvy
            have hf : P.fieldsOf t = fs := by simp [Program.fieldsOf, hu]
            rw [run_equalIn_struct w D t _ _ (by rw [hf]; exact hu) hh, hf]
            clear hf hu
            generalize fs.toList = l at e
            induction l generalizing b with
            | nil => simp [aeq.go] at e; subst e; simp [Op.eqFields]
            | cons f l ihl =>
              unfold aeq.go at e
              split at e
              · cases e
              · rename_i hname
                split at e
                · cases e
                · rename_i hsz
                  simp only [not_or, Nat.not_lt] at hsz
                  split at e
                  · rename_i c hc
                    obtain ⟨v1, h1, r1⟩ := part_spec (P := P) (t := f.type) (off := f.offset) (by omega) hsz.2.1 rx0
                    obtain ⟨v2, h2, r2⟩ := part_spec (P := P) (t := f.type) (off := f.offset) (by omega) hsz.2.2 ry0
                    have h3 := ih _ _ _ c v1 v2 hc r1 r2 D (by omega)
                    cases hgo : aeq.go P d l xs ys with
                    | none => simp [hgo] at e
                    | some c' =>
                      simp [hgo] at e; subst e
                      have h4 := ihl c' hgo
                      cases c <;> simp [Op.eqFields, hname, h1, h2, h3, h4]
                  · cases e
    · cases e
theorem eqGuard_run {op : BinOp} {t : TypeId} {x y : Operand} {a b : Value} (h : ∀ avs, a ≠ .agg avs) (h' : a ≠ .nilIface) : (eqGuard op t x y a b).run P w = .ok () w := by
  unfold eqGuard
  cases op <;> first | rfl | (cases a <;> first | rfl | (exact absurd rfl (h _)) | (exact absurd rfl h') | (cases b <;> rfl))
theorem aint_spec {op : BinOp} {k : IntKind} {a b : Int} {u : AV} {t : TypeId} (e : aint op k a b = some u) : ∃ z, (binOp op t (.int k a) (.int k b)).run P w = .ok z w ∧ Rep w O ι u z := by
  unfold aint at e
  split at e
  case h_4 =>
    split at e
    · cases e
    · injection e with e; subst e; rename_i h; exact ⟨_, by simp [binOp, Op.intDiv, h] <;> rfl, .int _ _⟩
  case h_5 =>
    split at e
    · cases e
    · injection e with e; subst e; rename_i h; exact ⟨_, by simp [binOp, Op.intDiv, h] <;> rfl, .int _ _⟩
  case h_13 => cases e
  all_goals (injection e with e; subst e)
  · exact ⟨_, by simp [binOp, Op.intArith] <;> rfl, .int _ _⟩
  · exact ⟨_, by simp [binOp, Op.intArith] <;> rfl, .int _ _⟩
  · exact ⟨_, by simp [binOp, Op.intArith] <;> rfl, .int _ _⟩
  · exact ⟨_, by simp [binOp, Op.intBits] <;> rfl, .int _ _⟩
  all_goals exact ⟨_, by simp only [binOp, Op.intCmp, ne_eq, not_true_eq_false, if_false]; rfl, .bool _⟩
theorem abin_spec {op : BinOp} {t : TypeId} {x y u : AV} {vx vy : Value} {ox oy : Operand} (e : abin P op t x y = some u) (rx : Rep w O ι x vx) (ry : Rep w O ι y vy) :
    ∃ z, (eqGuard op t ox oy vx vy >>= fun _ => binOp op t vx vy).run P w = .ok z w ∧ Rep w O ι u z := by
  unfold abin at e
  split at e
  · rename_i k a k' b
    cases rx; cases ry
    have hg : (eqGuard op t ox oy (.int k a) (.int k' b)).run P w = .ok () w := eqGuard_run (by simp) (by simp)
    rw [Sem.run_bind, hg, Result.andThen_ok]
    split at e
    · split at e
      · rename_i h
        injection e with e; subst e
        refine ⟨_, ?_, .int _ _⟩
        have h1 : ¬ b < 0 := by omega
        have h2 : min b.toNat k.bits = b.toNat := by omega
        simp [binOp, Op.shift, h1, h2] <;> rfl
      · cases e
    · split at e
      · rename_i h
        injection e with e; subst e
        refine ⟨_, ?_, .int _ _⟩
        have h1 : ¬ b < 0 := by omega
        have h2 : min b.toNat k.bits = b.toNat := by omega
        simp [binOp, Op.shift, h1, h2] <;> rfl
      · cases e
    · split at e
      · rename_i h
        subst h
        exact aint_spec e
      · cases e
  · rename_i a b
    cases rx; cases ry
    rename_i sa ha sb hb
    have hg : (eqGuard op t ox oy (.string sa) (.string sb)).run P w = .ok () w := eqGuard_run (by simp) (by simp)
    rw [Sem.run_bind, hg, Result.andThen_ok]
    have h1 : sa.toList = a := by rw [ByteArray.toList_eq]; exact ha
    have h2 : sb.toList = b := by rw [ByteArray.toList_eq]; exact hb
    split at e
    · split at e
      · rename_i hl
        injection e with e; subst e
        refine ⟨.string (sa ++ sb), ?_, .str (by rw [Joins.data_append, ha, hb])⟩
        have e1 : sa.size = a.length := by rw [← ha]; simp
        have e2 : sb.size = b.length := by rw [← hb]; simp
        simp [binOp, Op.stringOp]; omega
      · cases e
    · injection e with e; subst e; exact ⟨_, by simp [binOp, Op.stringOp, h1, h2] <;> rfl, .bool _⟩
    · injection e with e; subst e; exact ⟨_, by simp [binOp, Op.stringOp, h1, h2] <;> rfl, .bool _⟩
    · injection e with e; subst e; exact ⟨_, by simp [binOp, Op.stringOp, h1, h2] <;> rfl, .bool _⟩
    · cases e
  · rename_i a b
    cases rx; cases ry
    have hg : (eqGuard op t ox oy (.bool a) (.bool b)).run P w = .ok () w := eqGuard_run (by simp) (by simp)
    rw [Sem.run_bind, hg, Result.andThen_ok]
    split at e
    · rename_i hu
      injection e with e; subst e
      exact ⟨_, by simp [binOp, Op.equal, Op.maxDepth, run_equalIn_bool' w _ t _ _ hu] <;> rfl, .bool _⟩
    · rename_i hu
      injection e with e; subst e
      exact ⟨_, by simp [binOp, Op.equal, Op.maxDepth, run_equalIn_bool' w _ t _ _ hu] <;> rfl, .bool _⟩
    · cases e
  · rename_i xs ys
    split at e
    · cases e
    · rename_i hgt
      simp only [Bool.not_eq_true] at hgt
      have rx0 := rx
      have ry0 := ry
      cases rx; cases ry
      rename_i vx _ _ vy _ _
      rw [Sem.run_bind, run_eqGuard_agg w op t ox oy _ _ hgt, Result.andThen_ok]
      split at e
      · rename_i b hb
        injection e with e; subst e
        exact ⟨_, by rw [run_eql_struct, aeq_spec 5 t _ _ b _ _ hb rx0 ry0 10000 (by omega)]; rfl, .bool _⟩
      · rename_i b hb
        injection e with e; subst e
        exact ⟨_, by rw [run_neq_struct, aeq_spec 5 t _ _ b _ _ hb rx0 ry0 10000 (by omega)]; rfl, .bool _⟩
      · cases e
  · cases e
end
end Go.Proofs.YtndgpinhbffleaaGreat

namespace Go.Proofs.YtndgpinhbffleaaGreat
open Go Go.RowKit

section
variable {P : Program} {g : Heap} {w : World} {ι : Map} {O : Nat → Prop}
/-- What a slice shows, as the machine reads it. -/
theorem elsOf_spec (I : Inv w g ι) {m : Nat} {v : AV} {x : Value} {es : List AV} (e : elsOf g m v = some es) (r : Rep w (Own ι) ι v x) :
    ∃ a cap, x = .slice a es.length cap ∧ es.length ≤ cap ∧ ∃ cs : List Value, cs.length = es.length * m ∧ (Builtin.firstCells m es.length x).run P w = .ok cs.toArray w ∧ (∀ o, o < cs.length → (cs.getD o undef).oneCell' = true) ∧
      (∀ i, i < es.length → (cellsOf (es.getD i .dead)).length = m) ∧ ∀ i j, i < es.length → j < m → Rep w (Own ι) noMap ((cellsOf (es.getD i .dead)).getD j .dead) (cs.getD (i * m + j) undef) := by
  have empty : ∀ a cap, ∃ cs : List Value, cs.length = 0 * m ∧ (Builtin.firstCells m 0 (.slice a 0 cap)).run P w = .ok cs.toArray w ∧ (∀ o, o < cs.length → (cs.getD o undef).oneCell' = true) := by
    intro a cap
    refine ⟨[], by simp, ?_, by simp⟩
    cases a <;> simp [Builtin.firstCells, loadCells, loadCellsFrom]
  have rows : ∀ (b off len cap : Nat) (cell : Nat → Value), (∀ o, o < len * m → w.cell? ⟨b, off + o, none⟩ = some (cell o)) → (Builtin.firstCells m len (.slice (some ⟨b, off, none⟩) len cap)).run P w = .ok ((List.range (len * m)).map cell).toArray w := by
    intro b off len cap cell h
    simp only [Builtin.firstCells]
    exact run_loadCells w _ _ cell fun j hj => by rw [add_at]; exact h j hj
  cases r with
  | slE m' a cap =>
    simp only [elsOf] at e
    split at e
    · injection e with e; subst e
      obtain ⟨cs, h1, h2, h3⟩ := empty a cap
      exact ⟨a, cap, rfl, Nat.zero_le _, cs, h1, h2, h3, by simp, by simp⟩
    · cases e
  | nil a =>
    simp only [elsOf] at e; injection e with e; subst e
    obtain ⟨cs, h1, h2, h3⟩ := empty a 0
    exact ⟨a, 0, rfl, Nat.zero_le _, cs, h1, h2, h3, by simp, by simp⟩
  | refE id off a =>
    simp only [elsOf] at e
    cases hb : g id with
    | none => simp [hb] at e
    | some b =>
      simp only [hb] at e
      split at e
      · injection e with e; simp at e; subst e
        obtain ⟨cs, h1, h2, h3⟩ := empty a 0
        exact ⟨a, 0, rfl, Nat.zero_le _, cs, h1, h2, h3, by simp, by simp⟩
      · cases e
  | sl cell hne hlen hcap hob hb hm hcs hcell hc1 hr =>
    rename_i m' es b off cap len
    simp only [elsOf] at e
    split at e
    · rename_i hmm
      injection e with e; subst hmm; subst hlen; subst e
      have hdm : ∀ o, o < es.length * m' → o / m' < es.length ∧ o % m' < m' ∧ o / m' * m' + o % m' = o := fun o ho => ⟨Nat.div_lt_of_lt_mul (by rwa [Nat.mul_comm]), Nat.mod_lt _ hm, Nat.div_add_mod' o m'⟩
      refine ⟨_, cap, rfl, hcap, (List.range (es.length * m')).map fun o => cell (o / m') (o % m'), by simp, rows b off _ cap _ (fun o ho => ?_), fun o ho => ?_, hcs, fun i j hi hj => ?_⟩
      · obtain ⟨h1, h2, h3⟩ := hdm o ho
        have := hcell _ _ h1 h2
        rwa [Nat.add_assoc, h3] at this
      · simp at ho
        obtain ⟨h1, h2, _⟩ := hdm o ho
        simpa [ho] using hc1 _ _ h1 h2
      · have ho : i * m' + j < es.length * m' := by
          have := Nat.mul_le_mul_right m' (Nat.succ_le_of_lt hi)
          rw [Nat.succ_mul] at this; omega
        have e1 : (i * m' + j) / m' = i := by rw [Nat.mul_comm, Nat.mul_add_div hm, Nat.div_eq_of_lt hj]; rfl
        have e2 : (i * m' + j) % m' = j := by rw [Nat.mul_comm, Nat.mul_add_mod, Nat.mod_eq_of_lt hj]
        have := hr i j hi hj
        simpa [ho, e1, e2] using this
    · cases e
  | ref hι hs hcap hn =>
    rename_i id off len cap k sz n ty
    simp only [elsOf] at e
    cases hb : g id with
    | none => simp [hb] at e
    | some b =>
      simp only [hb] at e
      split at e
      · rename_i hc
        injection e with e
        obtain ⟨hv, hm, hl⟩ := hc
        rcases I.blk id b hb with ⟨_, _, h3⟩ | ⟨k', cs, h1, h2, h3, h4, h5, h6, h8, h7⟩
        · rw [h3] at hι; cases hι
        · rw [hι] at h1; injection h1 with h1; injection h1 with e1 e2; subst e1; subst e2; subst hm
          have hlen : es.length = len := by rw [← e]; simp; omega
          have hget : ∀ i, i < len → es.getD i .dead = b.els.getD (off + i) .dead := by
            intro i hi; rw [← e]; simp [hi]
          have hmul : ∀ i j, i < len → j < b.sz → off * b.sz + i * b.sz + j < b.els.length * b.sz := by
            intro i j hi hj
            have : (off + i + 1) * b.sz ≤ b.els.length * b.sz := Nat.mul_le_mul_right _ (by omega)
            simp only [Nat.add_mul, Nat.one_mul] at this
            omega
          have hall : ∀ o, o < len * b.sz → off * b.sz + o < b.els.length * b.sz := by
            intro o ho
            have := Nat.mul_le_mul_right b.sz hl
            rw [Nat.add_mul] at this; omega
          subst hlen
          refine ⟨_, cap, rfl, hcap, (List.range (es.length * b.sz)).map fun o => cs.getD (off * b.sz + o) undef, by simp, rows k _ _ cap _ (fun o ho => cell?_of_cells h2 (by have := hall o ho; omega)), fun o ho => ?_, fun i hi => ?_, fun i j hi hj => ?_⟩
          · simp at ho; simpa [ho] using h8 _ (hall o ho)
          · rw [hget i hi]; exact h5 _ (by omega)
          · have ho : i * b.sz + j < es.length * b.sz := by
              have := Nat.mul_le_mul_right b.sz (Nat.succ_le_of_lt hi)
              rw [Nat.succ_mul] at this; omega
            have := h7 (off + i) j (by omega) hj
            rw [hv, Nat.add_mul, ← hget i hi] at this
            have e3 : ((List.range (es.length * b.sz)).map fun o => cs.getD (off * b.sz + o) undef).getD (i * b.sz + j) undef = cs.getD (off * b.sz + i * b.sz + j) undef := by
              simp [ho, Nat.add_assoc]
            rw [e3]; exact this
      · cases e
  | _ => simp [elsOf] at e
theorem bytesOf_spec : ∀ (es : List AV) (l : List UInt8), bytesOf es = some l → ∃ ns : List Int, es = ns.map (AV.int .u8) ∧ l = ns.map fun n => UInt8.ofNat n.toNat := by
  intro es
  induction es with
  | nil => intro l h; simp [bytesOf] at h; exact ⟨[], rfl, by simp [← h]⟩
  | cons c es ih =>
    intro l h
    unfold bytesOf at h
    split at h
    · rename_i heq; cases heq
    · rename_i n es' heq
      injection heq with h1 h2; subst h1; subst h2
      split at h
      · cases hb : bytesOf es with
        | none => simp [hb] at h
        | some q =>
          simp [hb] at h
          obtain ⟨ns, h3, h4⟩ := ih q hb
          exact ⟨n :: ns, by simp [h3], by simp [← h, h4]⟩
      · cases h
    · cases h
theorem foldl_push : ∀ (ns : List Int) (s : ByteArray), (ns.foldl (fun r n => r.push (UInt8.ofNat n.toNat)) s).data.toList = s.data.toList ++ ns.map fun n => UInt8.ofNat n.toNat := by
  intro ns
  induction ns with
  | nil => intro s; simp
  | cons n ns ih => intro s; rw [List.foldl_cons, ih]; simp [ByteArray.push]
theorem aconv_spec (I : Inv w g ι) {s d : TypeId} {v u : AV} {x : Value} (e : aconv P g s d v = some u) (r : Rep w (Own ι) ι v x) : ∃ y, (convert s d x).run P w = .ok y w ∧ Rep w (Own ι) ι u y := by
  unfold aconv at e
  split at e
  · rename_i k1 k k2 n h1 h2
    injection e with e; subst e
    cases r
    exact ⟨_, by simp [convert, underlying_run (tkind_int h1), underlying_run (tkind_int h2), Conv.intToInt] <;> rfl, .int _ _⟩
  · rename_i a h1 h2
    injection e with e; subst e
    cases r
    rename_i sa ha
    exact ⟨.string sa, by simp [convert, underlying_run (tkind_str h1), underlying_run (tkind_str h2)], .str ha⟩
  · rename_i el h1 h2
    split at e
    · rename_i es h3 h4
      split at e
      · cases hb : bytesOf es with
        | none => simp [hb] at e
        | some l =>
          simp [hb] at e; subst e
          obtain ⟨a, cap, rfl, hcap, cs, hcl, hrun, h11, h12, h13⟩ := elsOf_spec (P := P) I h4 r
          obtain ⟨ns, rfl, rfl⟩ := bytesOf_spec es l hb
          have hcs : cs = ns.map (Value.int .u8) := by
            apply List.ext_getElem
            · simp [hcl]
            · intro i hi1 hi2
              have hi : i < ns.length := by simpa using hi2
              have := h13 i 0 (by simpa using hi) (by omega)
              have e0 : (cellsOf ((ns.map (AV.int .u8)).getD i .dead)).getD 0 .dead = .int .u8 ns[i] := by simp [hi, cellsOf]
              have e1 : cs.getD (i * 1 + 0) undef = cs[i] := by simp [hi1]
              rw [e0, e1] at this
              generalize cs[i] = y at this
              cases this
              simp
          have hu1 := underlying_run (P := P) (w := w) (tkind_slice h1)
          have hu2 := underlying_run (P := P) (w := w) (tkind_str h2)
          have hu3 := underlying_run (P := P) (w := w) (tkind_int h3)
          cases a with
          | none =>
            have hn : ns = [] := by
              simp only [Builtin.firstCells] at hrun
              have : cs = [] := by
                have h := hrun
                simp at h
                exact h
              rw [this] at hcs
              cases ns with
              | nil => rfl
              | cons _ _ => simp at hcs
            subst hn
            exact ⟨.string .empty, by simp [convert, hu1, hu2, hu3, Conv.bytesToString], .str rfl⟩
          | some a =>
            have hload : (loadCells a (ns.map (AV.int .u8)).length).run P w = .ok (ns.map (Value.int .u8)).toArray w := by
              have := hrun
              simp only [Builtin.firstCells, Nat.mul_one] at this
              rw [hcs] at this; exact this
            have hb2 := run_bytesToString w a _ cap ns hload
            refine ⟨.string (ns.foldl (fun r n => r.push (UInt8.ofNat n.toNat)) ByteArray.empty), ?_, .str (by rw [foldl_push]; rfl)⟩
            simp only [convert, Sem.run_bind, hu1, hu2, hu3, Result.andThen_ok]
            exact hb2
      · cases e
    · cases e
  · cases e
end
end Go.Proofs.YtndgpinhbffleaaGreat

namespace Go.Proofs.YtndgpinhbffleaaGreat
open Go Go.RowKit

section
variable {P : Program} {g : Heap} {w : World} {ι : Map} {O : Nat → Prop}
/-- An optional bound. -/
inductive OptRep (w : World) (O : Nat → Prop) (ι : Map) : Option AV → Option Value → Prop
  | none : OptRep w O ι none none
  | some {a v} : Rep w O ι a v → OptRep w O ι (some a) (some v)
theorem abound_some {a : AV} {v : Value} {d l : Nat} (e : abound (some a) d = some l) (r : Rep w O ι a v) : ∃ k n, a = .int k n ∧ v = .int k n ∧ 0 ≤ n ∧ l = n.toNat := by
  unfold abound at e
  split at e
  · rename_i h; cases h
  · rename_i k n h
    injection h with h; subst h
    cases r
    split at e
    · rename_i hn; injection e with e; exact ⟨k, n, rfl, rfl, hn, e.symm⟩
    · cases e
  · cases e
theorem sliceBound_run {k : IntKind} {n : Int} {y : Nat} {c : BoundsCode} (h0 : 0 ≤ n) (h : n.toNat ≤ y) : (Instr.sliceBound (.int k n) y c).run P w = .ok n.toNat w := by
  have : 0 ≤ n ∧ n ≤ (y : Int) := by omega
  simp [Instr.sliceBound, asIntOf, this]
theorem sliceBounds_run {lo hi : Option AV} {vlo vhi : Option Value} {l r len cap : Nat} {s : Bool} (h1 : abound lo 0 = some l) (h2 : abound hi len = some r) (rl : OptRep w O ι lo vlo) (rh : OptRep w O ι hi vhi) (hlr : l ≤ r) (hrc : r ≤ cap) :
    (Instr.sliceBounds s len cap vlo vhi none).run P w = .ok (l, r, cap) w := by
  cases rh with
  | none =>
    simp [abound] at h2; subst h2
    cases rl with
    | none => simp [abound] at h1; subst h1; simp [Instr.sliceBounds]
    | some q =>
      obtain ⟨k, n, rfl, rfl, hn, rfl⟩ := abound_some h1 q
      simp [Instr.sliceBounds, sliceBound_run hn hlr]
  | some q' =>
    obtain ⟨k', n', rfl, rfl, hn', rfl⟩ := abound_some h2 q'
    cases rl with
    | none => simp [abound] at h1; subst h1; simp [Instr.sliceBounds, sliceBound_run hn' hrc]
    | some q =>
      obtain ⟨k, n, rfl, rfl, hn, rfl⟩ := abound_some h1 q
      simp [Instr.sliceBounds, sliceBound_run hn' hrc, sliceBound_run hn hlr]
theorem sliceBounds_zero {lo hi : Option AV} {vlo vhi : Option Value} {len cap : Nat} {km : IntKind} (h1 : abound lo 0 = some 0) (h2 : abound hi len = some 0) (h3 : hi.isSome = true) (rl : OptRep w O ι lo vlo) (rh : OptRep w O ι hi vhi) :
    (Instr.sliceBounds true len cap vlo vhi (some (.int km 0))).run P w = .ok (0, 0, 0) w := by
  have h0 : (Instr.sliceBound (.int km 0) cap .slice3Acap).run P w = .ok 0 w := sliceBound_run (n := 0) (by omega) (by simp)
  cases rh with
  | none => simp at h3
  | some q' =>
    obtain ⟨k', n', rfl, rfl, hn', hz⟩ := abound_some h2 q'
    have h5 : (Instr.sliceBound (.int k' n') 0 .slice3B).run P w = .ok 0 w := by rw [sliceBound_run hn' (by omega)]; rw [← hz]
    cases rl with
    | none => simp [Instr.sliceBounds, h0, h5]
    | some q =>
      obtain ⟨k, n, rfl, rfl, hn, hz'⟩ := abound_some h1 q
      have h6 : (Instr.sliceBound (.int k n) 0 .slice3C).run P w = .ok 0 w := by rw [sliceBound_run hn (by omega)]; rw [← hz']
      simp [Instr.sliceBounds, h0, h5, h6]
theorem asliceS_spec (I : Inv w g ι) {t el : TypeId} {inf : TypeInfo} {v u : AV} {x : Value} {lo hi mx : Option AV} {vlo vhi vmx : Option Value} (hu : P.underlying t = some (.slice el)) (hi1 : P.info? el = some inf) (e : asliceS g inf.size v lo hi mx = some u) (r : Rep w (Own ι) ι v x)
    (rl : OptRep w (Own ι) ι lo vlo) (rh : OptRep w (Own ι) ι hi vhi) (rm : OptRep w (Own ι) ι mx vmx) : ∃ y, (Instr.sliceAt t x vlo vhi vmx).run P w = .ok y w ∧ Rep w (Own ι) ι u y := by
  have core : ∀ (a : Option Addr) (len cap l r' : Nat), abound lo 0 = some l → abound hi len = some r' → l ≤ r' → r' ≤ len → len ≤ cap → x = .slice a len cap → (Instr.sliceAt t x vlo vhi none).run P w = .ok (.slice (if cap = l then a else a.map (·.add (l * inf.size))) (r' - l) (cap - l)) w := by
    intro a len cap l r' h1 h2 hlr hrl hcap hx
    subst hx
    have := sliceBounds_run (P := P) (s := true) (len := len) (cap := cap) h1 h2 rl rh hlr (by omega)
    simp [Instr.sliceAt, Instr.slice, underlying_run hu, this, sizeOf_run hi1]
  have zero : ∀ (a : Option Addr) (len cap : Nat) (km : IntKind), abound lo 0 = some 0 → abound hi len = some 0 → hi.isSome = true → x = .slice a len cap → (Instr.sliceAt t x vlo vhi (some (.int km 0))).run P w = .ok (.slice a 0 0) w := by
    intro a len cap km h1 h2 h3 hx
    subst hx
    have := sliceBounds_zero (P := P) (len := len) (cap := cap) (km := km) h1 h2 h3 rl rh
    simp [Instr.sliceAt, Instr.slice, underlying_run hu, this, sizeOf_run hi1]
  have zslice : ∀ (len : Nat) (km : IntKind), (∃ a cap, x = .slice a len cap) → abound lo 0 = some 0 → abound hi len = some 0 → (if hi.isSome = true then some AV.nil else none) = some u → vmx = some (.int km 0) → ∃ y, (Instr.sliceAt t x vlo vhi vmx).run P w = .ok y w ∧ Rep w (Own ι) ι u y := by
    rintro len km ⟨a, cap, hx⟩ h1 h2 h3 rfl
    split at h3
    · rename_i h4
      injection h3 with h3; subst h3
      exact ⟨_, zero a len cap km h1 h2 h4 hx, .nil _⟩
    · cases h3
  unfold asliceS at e
  split at e
  · rename_i n es
    have hx : ∃ a cap, x = .slice a es.length cap ∧ es.length ≤ cap := by
      cases r with
      | slE m a cap => exact ⟨a, cap, rfl, by simp⟩
      | sl cell hne hlen hcap => subst hlen; exact ⟨_, _, rfl, hcap⟩
    obtain ⟨a0, cap0, hx0, hcap0⟩ := hx
    split at e
    · rename_i l r' h1 h2
      split at e
      · rename_i hc
        injection e with e; subst e
        cases rm
        obtain ⟨hlr, hre, hn⟩ := hc
        refine ⟨_, core a0 es.length cap0 l r' h1 h2 hlr hre hcap0 hx0, ?_⟩
        by_cases hz : r' = l
        · subst hz
          have : (es.take r').drop r' = [] := by simp
          rw [this]; simp; exact .slE _ _ _
        · cases r with
          | slE m a cap => simp at hre; omega
          | sl cell hne hlen hcap hob hb hm hcs hcell hc1 hr =>
            rename_i cap len
            injection hx0 with e1 e2 e3; subst e1; subst e3
            have hcl : ¬ cap = l := by omega
            rw [if_neg hcl]
            simp only [Option.map_some, add_at]
            have hlen2 : ((es.take r').drop l).length = r' - l := by simp; omega
            have hget : ∀ i, i < r' - l → ((es.take r').drop l).getD i .dead = es.getD (l + i) .dead := by
              intro i hi; simp; rw [List.getElem?_take, if_pos (by omega)]
            refine .sl (fun i j => cell (l + i) j) (fun h => hz (by rw [h] at hlen2; simp at hlen2; omega)) hlen2.symm (by omega) hob hb hm (fun i hi => ?_) (fun i j hi hj => ?_) (fun i j hi hj => ?_) (fun i j hi hj => ?_)
            · rw [hlen2] at hi; rw [hget i hi]; exact hcs _ (by omega)
            · rw [hlen2] at hi
              have := hcell (l + i) j (by omega) hj
              rw [Nat.add_mul] at this
              rw [← hn, show ∀ o : Nat, o + l * n + i * n + j = o + (l * n + i * n) + j from by intro o; omega]; exact this
            · rw [hlen2] at hi; exact hc1 _ _ (by omega) hj
            · rw [hlen2] at hi; rw [hget i hi]; exact hr _ _ (by omega) hj
      · cases e
    · rename_i km h1 h2
      cases rm with
      | some q => cases q; exact zslice _ km ⟨a0, cap0, hx0⟩ h1 h2 e rfl
    · cases e
  · have hx : ∃ a, x = .slice a 0 0 := by cases r; exact ⟨_, rfl⟩
    obtain ⟨a0, hx0⟩ := hx
    split at e
    · rename_i h1 h2
      injection e with e; subst e
      cases rm
      have := core a0 0 0 0 0 h1 h2 (by omega) (by omega) (by omega) hx0
      exact ⟨_, this, by simp; exact .nil _⟩
    · rename_i km h1 h2
      cases rm with
      | some q => cases q; exact zslice 0 km ⟨a0, 0, hx0⟩ h1 h2 e rfl
    · cases e
  · rename_i id off len
    have hx : ∃ a cap, x = .slice a len cap ∧ len ≤ cap := by
      cases r with
      | refE id off a => exact ⟨a, 0, rfl, by omega⟩
      | ref hι hs hcap hn => exact ⟨_, _, rfl, hcap⟩
    obtain ⟨a0, cap0, hx0, hcap0⟩ := hx
    split at e
    · rename_i l r' h1 h2
      cases hb : g id with
      | none => simp [hb] at e
      | some b =>
        simp only [hb] at e
        split at e
        · rename_i hc
          injection e with e; subst e
          cases rm
          obtain ⟨hlr, hre, hsz⟩ := hc
          refine ⟨_, core a0 len cap0 l r' h1 h2 hlr hre hcap0 hx0, ?_⟩
          by_cases hcl : cap0 = l
          · have hz : r' - l = 0 := by omega
            rw [if_pos hcl, hz, show cap0 - l = 0 from by omega]
            exact .refE _ _ _
          · rw [if_neg hcl]
            cases r with
            | refE id off a => injection hx0 with e1 e2 e3; omega
            | ref hι hs hcap hn =>
              rename_i cap kk szz nn tyy
              injection hx0 with e1 e2 e3; subst e1; subst e3
              rcases I.blk id b hb with ⟨_, _, h3⟩ | ⟨k', cs, h3, h4, h5, _⟩
              · rw [h3] at hι; cases hι
              · rw [hι] at h3; injection h3 with h3; injection h3 with e1 e2; subst e1; subst e2
                simp only [Option.map_some, add_at]
                rw [← hsz, ← Nat.add_mul]
                refine .ref hι hs (by omega) ?_
                rw [show off + l + (cap - l) = off + cap from by omega]; exact hn
        · cases e
    · rename_i km h1 h2
      cases rm with
      | some q => cases q; exact zslice len km ⟨a0, cap0, hx0⟩ h1 h2 e rfl
    · cases e
  · cases e
theorem aslice_spec (I : Inv w g ι) {t : TypeId} {v u : AV} {x : Value} {lo hi mx : Option AV} {vlo vhi vmx : Option Value} (e : aslice P g t v lo hi mx = some u) (r : Rep w (Own ι) ι v x)
    (rl : OptRep w (Own ι) ι lo vlo) (rh : OptRep w (Own ι) ι hi vhi) (rm : OptRep w (Own ι) ι mx vmx) : ∃ y, (Instr.sliceAt t x vlo vhi vmx).run P w = .ok y w ∧ Rep w (Own ι) ι u y := by
  unfold aslice at e
  split at e
  · rename_i s hk
    have hu := tkind_str hk
    split at e
    · rename_i l r' h1 h2
      split at e
      · rename_i hc
        injection e with e; subst e
        cases rm
        cases r
        rename_i b hb
        have hbs : b.size = s.length := by rw [← hb]; simp
        refine ⟨.string (b.extract l r'), ?_, .str ?_⟩
        · have := sliceBounds_run (P := P) (s := false) (len := b.size) (cap := b.size) h1 (by rw [hbs]; exact h2) rl rh hc.1 (by omega)
          simp [Instr.sliceAt, Instr.slice, underlying_run hu, this]
        · rw [Lib.extract_data, hb, List.drop_take]
      · cases e
    · cases e
  · rename_i el hk
    split at e
    · cases e
    · rename_i hs
      obtain ⟨inf, hi1, hi2⟩ := tsize_pos (P := P) (t := el) (by omega)
      rw [← hi2] at e
      exact asliceS_spec I (tkind_slice hk) hi1 e r rl rh rm
  · cases e
end
end Go.Proofs.YtndgpinhbffleaaGreat

namespace Go.Proofs.YtndgpinhbffleaaGreat
open Go Go.RowKit

def push (w : World) (o : Obj) : World := { w with heap := w.heap.push o }
theorem push_at (w : World) (o : Obj) (k : Nat) (h : k < w.heap.size) : (push w o).heap[k]? = w.heap[k]? := by
  simp only [push]; rw [Array.getElem?_push, if_neg (by omega)]
theorem push_new (w : World) (o : Obj) : (push w o).heap[w.heap.size]? = some o := by
  simp only [push]; rw [Array.getElem?_push, if_pos rfl]
theorem push_ext (O : Nat → Prop) (w : World) (o : Obj) : Ext O w (push w o) :=
  ⟨rfl, rfl, rfl, by simp [push], fun k hk _ => push_at w o k hk, fun k hk => by simp only [World.shape?]; rw [push_at w o k hk]⟩
def setMap (ι : Map) (id : Id) (p : Nat × Nat) : Map := fun i => if i = id then some p else ι i
section
variable {P : Program} {np : Nat} {g : Heap} {w : World} {ι : Map}
/-- A new block under a name. -/
theorem Done.newBlk (I : Inv w g ι) {id : Id} {b : Blk} {cs : Array Value} {v : AV} {x : Value} (hd : ι id ≠ none → (g id).isSome = true) (hnp : np ≤ id.headD 0) (hph : ph id = false)
    (h0 : 0 < b.sz) (h1 : b.isVar = true → b.els.length = 1) (h2 : ∀ i, i < b.els.length → (cellsOf (b.els.getD i .dead)).length = b.sz) (h3 : b.els.length * b.sz ≤ cs.size)
    (h4 : ∀ o, o < b.els.length * b.sz → (cs.getD o undef).oneCell' = true)
    (h5 : ∀ i j, i < b.els.length → j < b.sz → Rep w (Own ι) (inMap b.isVar ι) ((cellsOf (b.els.getD i .dead)).getD j .dead) (cs.getD (i * b.sz + j) undef))
    (hv : Rep (push w (.cells cs b.ty)) (Own (setMap ι id (w.heap.size, b.sz))) (setMap ι id (w.heap.size, b.sz)) v x) :
    Done np g w ι (newAt g id b v) x (push w (.cells cs b.ty)) (setMap ι id (w.heap.size, b.sz)) := by
  have hO : ∀ k, k < w.heap.size → Own (setMap ι id (w.heap.size, b.sz)) k → Own ι k := by
    rintro k hk ⟨i, s, h⟩
    unfold setMap at h
    split at h
    · injection h with h; injection h with h _; omega
    · exact ⟨i, s, h⟩
  have hsz : (push w (.cells cs b.ty)).heap.size = w.heap.size + 1 := by simp [push]
  have inj : ∀ i i' k s s', setMap ι id (w.heap.size, b.sz) i = some (k, s) → setMap ι id (w.heap.size, b.sz) i' = some (k, s') → i = i' := by
    intro i i' k s s' h h'
    unfold setMap at h h'
    split at h <;> split at h'
    · simp_all
    · injection h with h; injection h with h _
      have := I.live _ _ _ h'; omega
    · injection h' with h'; injection h' with h' _
      have := I.live _ _ _ h; omega
    · exact I.inj _ _ _ _ _ h h'
  have live : ∀ i k s, setMap ι id (w.heap.size, b.sz) i = some (k, s) → k < (push w (.cells cs b.ty)).heap.size := by
    intro i k s h
    rw [hsz]
    unfold setMap at h
    split at h
    · injection h with h; injection h with h _; omega
    · have := I.live _ _ _ h; omega
  have new : ∀ i k s, setMap ι id (w.heap.size, b.sz) i = some (k, s) → ι i = some (k, s) ∨ w.heap.size ≤ k := by
    intro i k s h
    unfold setMap at h
    split at h
    · injection h with h; injection h with h _; right; omega
    · exact .inl h
  have brep : ∀ b' : Blk, b'.isVar = b.isVar → b'.ty = b.ty → b'.sz = b.sz → b'.els.length = b.els.length → (∀ i, i < b.els.length → (cellsOf (b'.els.getD i .dead)).length = b.sz) →
      (∀ i j, i < b.els.length → j < b.sz → Rep (push w (.cells cs b.ty)) (Own (setMap ι id (w.heap.size, b.sz))) (inMap b.isVar (setMap ι id (w.heap.size, b.sz))) ((cellsOf (b'.els.getD i .dead)).getD j .dead) (cs.getD (i * b.sz + j) undef)) →
      BRep (push w (.cells cs b.ty)) (Own (setMap ι id (w.heap.size, b.sz))) (setMap ι id (w.heap.size, b.sz)) id b' := by
    intro b' e1 e2 e3 e4 h6 h7
    refine .inr ⟨w.heap.size, cs, by simp [setMap, e3], by rw [e2]; exact push_new _ _, by rw [e3]; exact h0, by rw [e1, e4]; exact h1, by rw [e3, e4]; exact h6, by rw [e3, e4]; exact h3, by rw [e3, e4]; exact h4, by rw [e1, e3, e4]; exact h7⟩
  have phs : ∀ i, ph i = true → setMap ι id (w.heap.size, b.sz) i = ι i := by
    intro i hi
    have : i ≠ id := fun h => by rw [h, hph] at hi; cases hi
    simp [setMap, this]
  unfold newAt
  cases hg : g id with
  | some b0 =>
    refine ⟨push_ext _ _ _, hv, fun i c hc => ?_, fun i h1 h2 => ?_, fun i h1 h2 => ?_, new, inj, live, fun i hk hu => ?_, fun i hi hu => ?_, by simp [keys], fun i hi => by simp [keys] at hi; rw [hi]; exact hph, phs⟩
    · simp at hc; obtain ⟨rfl, rfl⟩ := hc
      have hcl := cellsOf_kill (fun j => decide (j = i))
      have hgd : b.isVar = true → ∀ n, (b.kill fun j => decide (j = i)).els.getD n .dead = (b.els.getD n .dead).kill fun j => decide (j = i) := by
        intro hv n; simp only [Blk.kill, hv]; exact killL_getD _ _ _
      cases hvar : b.isVar with
      | true =>
        refine brep _ rfl rfl rfl (by simp [Blk.kill, hvar, killL_length]) (fun n hn => by rw [hgd hvar, hcl, killL_length]; exact h2 n hn) fun n j hn hj => ?_
        rw [hgd hvar, hcl, killL_getD]
        have h6 := h5 n j hn hj
        rw [hvar] at h6
        rw [show inMap b.isVar (setMap ι i (w.heap.size, b.sz)) = setMap ι i (w.heap.size, b.sz) from by rw [hvar]; rfl]
        have h7 := h6.killed (ι' := fun q => if q = i then none else ι q) (fun j => decide (j = i)) (fun q p hq hp => by simp at hq; simp [hq]; exact hp)
        refine h7.mono (push_ext _ _ _) hO _ fun q p hp => ?_
        have hp : (if q = i then none else ι q) = some p := hp
        split at hp
        · cases hp
        · rename_i hq; simp [setMap, hq, hp]
      | false =>
        have hbk : (b.kill fun j => decide (j = i)) = b := by obtain ⟨a1, a2, a3, a4⟩ := b; simp only at hvar; subst hvar; rfl
        rw [hbk]
        refine brep b rfl rfl rfl rfl h2 fun n j hn hj => ?_
        have h6 := h5 n j hn hj
        rw [hvar] at h6 ⊢
        exact h6.mono (push_ext _ _ _) hO _ fun _ _ h => h
    · simp at h1; simp [setMap, h1]
    · simp at h1; simp [setMap, h1]
    · simp at hk; subst hk; simp [keys] at hu
    · simp [keys] at hu; subst hu; omega
  | none =>
    have hn : ι id = none := by
      cases hi : ι id with
      | none => rfl
      | some p => have := hd (by rw [hi]; simp); rw [hg] at this; cases this
    refine ⟨push_ext _ _ _, hv, fun i c hc => ?_, fun i h1 h2 => ?_, fun i h1 h2 => ?_, new, inj, live, fun i hk hu => ?_, fun i hi hu => ?_, by simp [keys], fun i hi => by simp [keys] at hi; rw [hi]; exact hph, phs⟩
    · simp at hc; obtain ⟨rfl, rfl⟩ := hc
      refine brep c rfl rfl rfl rfl h2 fun n j hn' hj => ?_
      have h6 := h5 n j hn' hj
      refine h6.mono (push_ext _ _ _) hO _ fun q p hp => ?_
      cases hcv : c.isVar
      · rw [hcv] at hp; exact hp
      · rw [hcv] at hp
        have hp : ι q = some p := hp
        show setMap ι i _ q = some p
        have : q ≠ i := fun h => by rw [h, hn] at hp; cases hp
        simp [setMap, this, hp]
    · simp [keys] at h2; simp [setMap, h2]
    · have : i ≠ id := fun h => h2 (by rw [h]; exact hn)
      simp [setMap, this]
    · cases hk
    · simp [keys] at hu; subst hu; omega
end
end Go.Proofs.YtndgpinhbffleaaGreat

namespace Go.Proofs.YtndgpinhbffleaaGreat
open Go Go.RowKit

theorem idsL_nil {l : List AV} (h : AV.idsL l = []) : ∀ i, i < l.length → (l.getD i .dead).ids = [] := by
  induction l with
  | nil => intro i hi; simp at hi
  | cons c cs ih =>
    simp only [AV.idsL, List.append_eq_nil_iff] at h
    intro i hi
    cases i with
    | zero => simpa using h.1
    | succ i => simpa using ih h.2 i (by simpa using hi)
theorem Rep.noIds {w : World} {O : Nat → Prop} {ι : Map} {v : AV} {x : Value} (h : Rep w O ι v x) (ι' : Map) (e : v.ids = []) : Rep w O ι' v x := by
  induction h with
  | dead v => exact .dead v
  | int k n => exact .int k n
  | bool b => exact .bool b
  | str h => exact .str h
  | agg hl _ ih => exact .agg hl fun i hi => ih i hi (idsL_nil (by simpa [AV.ids] using e) i hi)
  | nil a => exact .nil a
  | slE m a cap => exact .slE m a cap
  | sl cell hn hlen hcap hob hb hm hc hcell h1 h _ => exact .sl cell hn hlen hcap hob hb hm hc hcell h1 h
  | ref => simp [AV.ids] at e
  | refE => simp [AV.ids] at e
  | ptr => simp [AV.ids] at e
  | rptr cell hob hb hcell h1 h _ => exact .rptr cell hob hb hcell h1 h
  | fn hl _ ih => exact .fn hl fun i hi => ih i hi (idsL_nil (by simpa [AV.ids] using e) i hi)
  | nilfn => exact .nilfn
  | iface _ ih => exact .iface (ih (by simpa [AV.ids] using e))
  | niliface => exact .niliface
  | tuple hl _ ih => exact .tuple hl fun i hi => ih i hi (idsL_nil (by simpa [AV.ids] using e) i hi)
  | nilptr => exact .nilptr
def without (ι : Map) (K : List Id) : Map := fun i => if i ∈ K ∧ ph i = false then none else ι i
theorem own_without {ι : Map} {K : List Id} {b : Nat} (h : Own (without ι K) b) : Own ι b := by
  obtain ⟨i, s, h⟩ := h
  unfold without at h
  split at h
  · cases h
  · exact ⟨i, s, h⟩
theorem Rep.less {w : World} {O O' : Nat → Prop} {ι : Map} {v : AV} {x : Value} (h : Rep w O ι v x) (hO : ∀ b, O' b → O b) : Rep w O' ι v x :=
  h.mono (Ext.refl O w) (fun b _ h => hO b h) _ fun _ _ h => h
section
variable {P : Program} {np : Nat} {g : Heap} {w : World} {ι : Map}
/-- What is given up to be only read. -/
theorem frz_spec (I : Inv w g ι) {v v' : AV} {K : List Id} {x : Value} (e : AV.frz g v = some (v', K)) (r : Rep w (Own ι) ι v x) : Rep w (Own (without ι K)) noMap v' x := by
  unfold AV.frz at e
  split at e
  · rename_i h
    injection e with e; injection e with e1 e2; subst e1; subst e2
    exact (r.noIds noMap h).less fun b h => own_without h
  · rename_i i ids h
    cases hp : AV.pack (restrH (i :: ids) g) 0 v with
    | none => simp [hp] at e
    | some q =>
      simp [hp] at e
      obtain ⟨e1, e2⟩ := e; subst e1; subst e2
      refine pack_rep (O := Own ι) (ι := ι) (h := restrH (i :: ids) g) (fun id b hb => ?_) (fun b h => own_without h) 0 v q x hp r
      unfold restrH at hb
      split at hb
      · rename_i hm
        refine ⟨I.blk id b hb, fun k s hk ho => ?_⟩
        obtain ⟨i', s', ho⟩ := ho
        unfold without at ho
        split at ho
        · cases ho
        · rename_i hn
          have := I.inj _ _ _ _ _ hk ho; subst this; exact hn ⟨hm, I.real _ _ hb⟩
      · cases hb
theorem setRow_ext {k : Nat} {cs cs' : Array Value} {t : TypeId} {fr : Nat × Nat} (hk : w.heap[k]? = some (.cells cs t fr)) (hs : cs'.size = cs.size) : Ext (fun j => j = k) w (w.setRow k cs') := by
  refine ⟨rfl, rfl, rfl, by simp, fun j _ hj => setRow_other w k j cs' hj, fun j hj => ?_⟩
  by_cases e : j = k
  · subst e
    simp only [World.shape?]
    rw [setRow_heap w j cs cs' t fr hk, hk]
    simp [hs]
  · simp only [World.shape?]; rw [setRow_other w k j cs' e]
/-- An own block, written over. -/
theorem Done.write (I : Inv w g ι) {id : Id} {b b' : Blk} {k : Nat} {cs cs' : Array Value} {K : List Id} (hb : (g id).isSome = true) (hι : ι id = some (k, b.sz)) (hk : w.heap[k]? = some (.cells cs b.ty (0, 0))) (hK : id ∉ K) (hs : cs'.size = cs.size)
    (hv : b'.isVar = b.isVar) (ht : b'.ty = b.ty) (hz : b'.sz = b.sz) (h0 : 0 < b.sz) (h1 : b.isVar = true → b'.els.length = 1) (h2 : ∀ i, i < b'.els.length → (cellsOf (b'.els.getD i .dead)).length = b.sz) (h3 : b'.els.length * b.sz ≤ cs.size)
    (h4 : ∀ o, o < b'.els.length * b.sz → (cs'.getD o undef).oneCell' = true)
    (h5 : ∀ i j, i < b'.els.length → j < b.sz → Rep w (Own (without ι K)) (inMap b.isVar (without ι K)) ((cellsOf (b'.els.getD i .dead)).getD j .dead) (cs'.getD (i * b.sz + j) undef)) (x : Value) :
    Done np g w ι { val := .dead, ups := [(id, b')], kills := K } x (w.setRow k cs') (without ι K) := by
  have hx := setRow_ext hk hs
  have hwo : without ι K id = ι id := by simp [without, hK]
  refine ⟨hx.mono fun j _ hj => ⟨id, b.sz, by simp [keys], by subst hj; exact hι⟩, .dead _, fun i c hc => ?_, fun i h _ => by simp at h; simp [without, h], fun i h _ => by simp at h; simp [without, h], fun i k s h => ?_, fun i i' k s s' h h' => ?_, fun i k s h => ?_, fun i h _ => ?_, fun i _ hu => ?_, by simp [keys], fun i hi => by simp [keys] at hi; rw [hi]; cases hg : g id with | none => rw [hg] at hb; cases hb | some b0 => exact I.real id b0 hg, fun i hi => by simp [without, hi]⟩
  · simp at hc; obtain ⟨rfl, rfl⟩ := hc
    refine .inr ⟨k, cs', by rw [hwo, hz]; exact hι, by rw [ht]; exact setRow_heap w k cs cs' _ _ hk, by rw [hz]; exact h0, by rw [hv]; exact h1, by rw [hz]; exact h2, by rw [hz, hs]; exact h3, by rw [hz]; exact h4, fun n j hn hj => ?_⟩
    rw [hz] at hj ⊢
    rw [hv]
    have hx2 : Ext (Own (without ι K)) w (w.setRow k cs') := hx.mono fun j _ hj => ⟨i, b.sz, by rw [hwo]; subst hj; exact hι⟩
    exact (h5 n j hn hj).mono hx2 (fun _ _ h => h) _ fun _ _ h => h
  · unfold without at h
    split at h
    · cases h
    · exact .inl h
  · unfold without at h h'
    split at h
    · cases h
    · split at h'
      · cases h'
      · exact I.inj _ _ _ _ _ h h'
  · unfold without at h
    split at h
    · cases h
    · simpa using I.live _ _ _ h
  · cases hp : ph i with
    | true => exact .inl rfl
    | false => right; simp at h; simp [without, h, hp]
  · simp [keys] at hu; subst hu; exact ⟨hwo, hb⟩
theorem leaf_cells {c : AV} (h : leaf c = true) : cellsOf c = [c] := by cases c <;> first | rfl | (simp [leaf] at h)
theorem splice_spec {e : AV} {off : Nat} {cs : List AV} {m : Nat} (hl : (cellsOf e).length = m) (hc : off + cs.length ≤ m) (h0 : 0 < cs.length) (hf : cs.all leaf = true) :
    (cellsOf (splice e off cs)).length = m ∧ ∀ j, (cellsOf (splice e off cs)).getD j .dead = if off ≤ j ∧ j < off + cs.length then cs.getD (j - off) .dead else (cellsOf e).getD j .dead := by
  have main : ∀ ds : List AV, ds.length = m → (ds.take off ++ cs ++ ds.drop (off + cs.length)).length = m ∧ ∀ j, (ds.take off ++ cs ++ ds.drop (off + cs.length)).getD j .dead = if off ≤ j ∧ j < off + cs.length then cs.getD (j - off) .dead else ds.getD j .dead := by
    intro ds hd
    refine ⟨by simp; omega, fun j => ?_⟩
    have ht : (ds.take off).length = off := by simp; omega
    simp only [List.getD_eq_getElem?_getD, List.append_assoc]
    by_cases h1 : j < off
    · rw [List.getElem?_append_left (by omega), if_neg (by omega), List.getElem?_take, if_pos h1]
    · rw [List.getElem?_append_right (by omega), ht]
      by_cases h2 : j < off + cs.length
      · rw [List.getElem?_append_left (by omega), if_pos (by omega)]
      · rw [List.getElem?_append_right (by omega), if_neg (by omega), List.getElem?_drop]
        congr 2; omega
  cases e with
  | agg ds => exact main ds hl
  | _ =>
    all_goals
      simp only [cellsOf, List.length_cons, List.length_nil] at hl
      subst hl
      obtain ⟨c, rfl⟩ : ∃ c, cs = [c] := by
        cases cs with
        | nil => simp at h0
        | cons c cs => cases cs with
          | nil => exact ⟨c, rfl⟩
          | cons _ _ => simp only [List.length_cons] at hc; omega
      have hlc : leaf c = true := by simpa using hf
      have ho : off = 0 := by simp only [List.length_cons, List.length_nil] at hc; omega
      subst ho
      simp only [splice, List.headD_cons, leaf_cells hlc]
      refine ⟨rfl, fun j => ?_⟩
      cases j with
      | zero => simp
      | succ j => simp [cellsOf]
theorem cells_rep {w : World} {O : Nat → Prop} {ι : Map} {v : AV} {y : Value} (r : Rep w O ι v y) (hf : (cellsOf v).all leaf = true) :
    y.cells.size = (cellsOf v).length ∧ ∀ j, j < (cellsOf v).length → Rep w O ι ((cellsOf v).getD j .dead) (y.cells.getD j undef) ∧ (y.cells.getD j undef).oneCell' = true := by
  have one : leaf v = true → y.cells.size = (cellsOf v).length ∧ ∀ j, j < (cellsOf v).length → Rep w O ι ((cellsOf v).getD j .dead) (y.cells.getD j undef) ∧ (y.cells.getD j undef).oneCell' = true := by
    intro hl
    have h1 := r.leaf hl
    have hy : y.cells = #[y] := by cases y <;> first | rfl | (simp [Value.oneCell'] at h1)
    rw [leaf_cells hl, hy]
    refine ⟨rfl, fun j hj => ?_⟩
    simp at hj; subst hj
    exact ⟨r, h1⟩
  cases r with
  | agg hl hr =>
    rename_i cs vs
    simp only [cellsOf, Value.cells] at hf ⊢
    refine ⟨hl.symm, fun j hj => ⟨hr j hj, (hr j hj).leaf ?_⟩⟩
    rw [List.all_eq_true] at hf
    have := hf (cs[j]) (List.getElem_mem hj)
    simpa [hj] using this
  | dead => simp [cellsOf, leaf] at hf
  | tuple => simp [cellsOf, leaf] at hf
  | _ => exact one rfl
theorem over_at (cs : Array Value) (o : Nat) (vs : List Value) (h : o + vs.length ≤ cs.size) (p : Nat) :
    ((cs.toList.take o ++ vs ++ cs.toList.drop (o + vs.length)).toArray).getD p undef = if o ≤ p ∧ p < o + vs.length then vs.getD (p - o) undef else cs.getD p undef := by
  have ht : (cs.toList.take o).length = o := by simp; omega
  simp only [Array.getD_eq_getD_getElem?, List.getElem?_toArray, List.getD_eq_getElem?_getD, List.append_assoc]
  by_cases h1 : p < o
  · rw [List.getElem?_append_left (by omega), if_neg (by omega), List.getElem?_take, if_pos h1]; simp
  · rw [List.getElem?_append_right (by omega), ht]
    by_cases h2 : p < o + vs.length
    · rw [List.getElem?_append_left (by omega), if_pos (by omega)]
    · rw [List.getElem?_append_right (by omega), if_neg (by omega), List.getElem?_drop]
      rw [show o + vs.length + (p - o - vs.length) = p from by omega]; simp
theorem blk_range {i idx sz off len j : Nat} (hj : j < sz) (h1 : idx * sz + off ≤ i * sz + j) (h2 : i * sz + j < idx * sz + off + len) (hl : off + len ≤ sz) : i = idx := by
  rcases Nat.lt_trichotomy i idx with h | h | h
  · have := Nat.mul_le_mul_right sz (Nat.succ_le_of_lt h); rw [Nat.succ_mul] at this; omega
  · exact h
  · have := Nat.mul_le_mul_right sz (Nat.succ_le_of_lt h); rw [Nat.succ_mul] at this; omega
/-- Cells of one element of an own block, written over. -/
theorem store_core (I : Inv w g ι) {id : Id} {b : Blk} {idx off : Nat} {K : List Id} {ws : List AV} {vs : List Value} {sz k : Nat} (hb : g id = some b) (hι : ι id = some (k, sz)) (hK : id ∉ K) (hidx : idx < b.els.length) (hoff : off + ws.length ≤ (cellsOf (b.els.getD idx .dead)).length) (h0 : 0 < ws.length)
    (hf : ws.all leaf = true) (hlen : vs.length = ws.length) (hvs : ∀ j, j < ws.length → Rep w (Own (without ι K)) (inMap b.isVar (without ι K)) (ws.getD j .dead) (vs.getD j undef) ∧ (vs.getD j undef).oneCell' = true) (hKv : b.isVar = true → K = []) (x : Value) :
    ∃ w', (storeCells ⟨k, idx * sz + off, none⟩ vs).run P w = .ok () w' ∧ Done np g w ι { val := .dead, ups := [(id, { b with els := b.els.set idx (splice (b.els.getD idx .dead) off ws) })], kills := K } x w' (without ι K) := by
  rcases I.blk id b hb with ⟨h1, _, _⟩ | ⟨k', cs, h1, h2, h3, h4, h5, h6, h8, h7⟩
  · rw [h1] at hidx; simp at hidx
  · rw [hι] at h1; injection h1 with h1; injection h1 with e1 e2; subst e1; subst e2
    have hel := h5 idx hidx
    rw [hel] at hoff
    obtain ⟨s1, s2⟩ := splice_spec hel hoff h0 hf
    have hm := Nat.mul_le_mul_right b.sz (Nat.succ_le_of_lt hidx)
    rw [Nat.succ_mul] at hm
    have hfit : idx * b.sz + off + vs.length ≤ cs.size := by omega
    have hrun := run_storeCells_at P k (idx * b.sz + off) b.ty vs 0 cs w h2 (by simpa using hfit) (fun v hv => by
      obtain ⟨j, hj, rfl⟩ := List.getElem_of_mem hv
      have := (hvs j (by omega)).2
      simpa [hj] using this)
    simp only [Nat.add_zero] at hrun
    refine ⟨_, hrun, ?_⟩
    have hget : ∀ i, (b.els.set idx (splice (b.els.getD idx .dead) off ws)).getD i .dead = if i = idx then splice (b.els.getD idx .dead) off ws else b.els.getD i .dead := by
      intro i
      simp only [List.getD_eq_getElem?_getD, List.getElem?_set]
      by_cases hi : idx = i
      · subst hi; simp [hidx]
      · have : ¬ i = idx := fun h => hi h.symm
        simp [hi, this]
    have hover := over_at cs (idx * b.sz + off) vs hfit
    have hsize : ((cs.toList.take (idx * b.sz + off) ++ vs ++ cs.toList.drop (idx * b.sz + off + vs.length)).toArray).size = cs.size := by simp; omega
    refine Done.write (b' := { b with els := b.els.set idx (splice (b.els.getD idx .dead) off ws) }) I (by rw [hb]; rfl) hι h2 hK hsize rfl rfl rfl h3 (fun hv => by simpa using h4 hv) (fun i hi => ?_) (by simpa using h6) (fun o ho => ?_) (fun i j hi hj => ?_) x
    · show (cellsOf ((b.els.set idx (splice (b.els.getD idx .dead) off ws)).getD i .dead)).length = b.sz
      rw [hget i]
      split
      · exact s1
      · exact h5 i (by simpa using hi)
    · have ho : o < b.els.length * b.sz := by simpa using ho
      rw [hover]
      split
      · rename_i h; exact (hvs _ (by omega)).2
      · exact h8 o ho
    · have hib : i < b.els.length := by simpa using hi
      show Rep w _ _ ((cellsOf ((b.els.set idx (splice (b.els.getD idx .dead) off ws)).getD i .dead)).getD j .dead) _
      rw [hget i, hover]
      have old : ∀ c u, Rep w (Own ι) (inMap b.isVar ι) c u → Rep w (Own (without ι K)) (inMap b.isVar (without ι K)) c u := by
        intro c u hr
        refine (hr.less fun b h => own_without h).mono (Ext.refl _ w) (fun _ _ h => h) _ fun q p hp => ?_
        cases hvb : b.isVar with
        | false => rw [hvb] at hp; exact hp
        | true =>
          rw [hvb] at hp
          have := hKv hvb; subst this
          have hp : ι q = some p := hp
          show without ι [] q = some p
          simp [without, hp]
      by_cases hi' : i = idx
      · subst hi'
        rw [if_pos rfl, s2 j]
        by_cases hr : off ≤ j ∧ j < off + ws.length
        · rw [if_pos hr, if_pos (by omega), show i * b.sz + j - (i * b.sz + off) = j - off from by omega]
          exact (hvs (j - off) (by omega)).1
        · rw [if_neg hr, if_neg (by omega)]
          exact old _ _ (h7 i j hib hj)
      · rw [if_neg hi', if_neg (fun h => hi' (blk_range hj h.1 (by omega) hoff))]
        exact old _ _ (h7 i j hib hj)
theorem without_nil : without ι [] = ι := by funext i; simp [without]
theorem astore_spec (I : Inv w g ι) {t : TypeId} {a v : AV} {e : Eff} {x y : Value} (h : astore P g t a v = some e) (ra : Rep w (Own ι) ι a x) (rv : Rep w (Own ι) ι v y) :
    ∃ w' ι', (Instr.storeAt t x y).run P w = .ok () w' ∧ Done np g w ι e undef w' ι' := by
  unfold astore at h
  split at h
  · rename_i id idx off i hi
    cases hb : g id with
    | none => simp [hb] at h
    | some b =>
      simp only [hb] at h
      split at h
      · rename_i hc
        obtain ⟨hl, hlf, h0, hidx, hoff⟩ := hc
        obtain ⟨inf, d, z, q1, q2, q3, q4, q5, q6, q7, q8⟩ := tyi_spec hi
        obtain ⟨c1, c2⟩ := cells_rep rv hlf
        cases ra with
        | ptr hι =>
          rename_i k sz
          have hrun : ∀ w', (storeCells ⟨k, idx * sz + off, none⟩ y.cells.toList).run P w = .ok () w' → (Instr.storeAt t (.pointer (some ⟨k, idx * sz + off, none⟩)) y).run P w = .ok () w' := by
            intro w' hw
            simp [Instr.storeAt, Instr.sureAddr, storeVar, sizeOf_run q1, q3, c1, hl, hw]
          split at h
          · rename_i hv
            injection h with h; subst h
            obtain ⟨w', hw, D⟩ := store_core (P := P) (np := np) I (idx := idx) (off := off) (K := []) (ws := cellsOf v) (vs := y.cells.toList) hb hι (by simp) hidx (by omega) (by omega) hlf (by simpa using c1) (fun j hj => by
              rw [hv, without_nil]
              have := c2 j hj
              simpa [inMap] using this) (fun _ => rfl) undef
            exact ⟨w', _, hrun w' hw, D⟩
          · rename_i hv
            simp only [Bool.not_eq_true] at hv
            cases hfz : AV.frz g v with
            | none => simp [hfz] at h
            | some q =>
              obtain ⟨v', K⟩ := q
              simp only [hfz] at h
              split at h
              · cases h
              · rename_i hn
                simp only [not_or, ne_eq, Decidable.not_not, Bool.not_eq_false] at hn
                injection h with h; subst h
                have rv' := frz_spec I hfz rv
                obtain ⟨c1', c2'⟩ := cells_rep rv' hn.2.2
                obtain ⟨w', hw, D⟩ := store_core (P := P) (np := np) I (idx := idx) (off := off) (K := K) (ws := cellsOf v') (vs := y.cells.toList) hb hι hn.1 hidx (by omega) (by omega) hn.2.2 (by simpa using c1') (fun j hj => by
                  rw [hv]
                  have := c2' j hj
                  simpa [inMap] using this) (fun hv' => by rw [hv] at hv'; cases hv') undef
                exact ⟨w', _, hrun w' hw, D⟩
      · cases h
  · cases h
end
end Go.Proofs.YtndgpinhbffleaaGreat
