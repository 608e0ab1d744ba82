/- A reading of the loaded code over plain data, its soundness, and what functions answer by it (part 11; joined by program). No condition. -/
import Derived.Test.YtdcgfapededocaaGreatKRx10
set_option linter.all false
namespace Go.Proofs.YtdcgfapededocaaGreat
open Go
set_option maxRecDepth 100000
set_option linter.unusedSimpArgs false
set_option linter.unusedVariables false
theorem or_byte (b : UInt8) (m : Int) (h : 0 ≤ m ∧ m < 16777216) : IntKind.i64.wrap ((BitVec.ofInt 64 (m * 256) ||| BitVec.ofNat 64 b.toNat).toNat : Int) = m * 256 + b.toNat := by
  have h1 := b.toNat_lt
  obtain ⟨k, rfl⟩ : ∃ k : Nat, m = k := ⟨m.toNat, by omega⟩
  have := or_add 8 b.toNat k (by omega) (by omega)
  rw [BitVec.ofInt_natCast] at this
  simp only [Nat.reducePow, Int.natCast_mul, Int.natCast_add, Int.cast_ofNat_Int] at this
  rw [BitVec.or_comm]
  exact this.trans (by omega)
theorem or_byte0 (b : UInt8) : IntKind.i64.wrap ((0#64 ||| BitVec.ofNat 64 b.toNat).toNat : Int) = b.toNat := by
  have := or_byte b 0 (by omega)
  simpa using this
/-- What is gathered of four bytes, from the last on. -/
def gath (a b c d : UInt8) : Nat → Int
  | 0 => 0
  | 1 => d.toNat
  | 2 => (d.toNat : Int) * 256 + c.toNat
  | 3 => ((d.toNat : Int) * 256 + c.toNat) * 256 + b.toNat
  | _ => numOf a b c d
def uval (t : Tx) : List Int := if t.length % 4 = 0 then nums t else []
theorem l02Unpack_E (t : Tx) (ht : t.length ≤ 1000000) : E CX 165 [.str t] [] = some { val := .tuple [.ref [0, 0, 0, 0] 0 (uval t).length, .bool (decide (t.length % 4 = 0) && intsOK (nums t))], own := [⟨false, 3, 1, (uval t).map (.int .i64), none⟩] } := by
  refine E_fin Tryz.f165 _ an165 rfl rfl rfl Tryz.func165 rfl (by kernel_rfl) ?_
  have hm : ((t.length : Int).tmod 4 = 0) ↔ t.length % 4 = 0 := by rw [Int.tmod_eq_emod_of_nonneg (by omega)]; omega
  unfold uval
  by_cases c : t.length % 4 = 0
  · have hl := nums_length t.length t rfl
    have e1 := l02Ints_E (nums t) (by omega)
    simp [go_sem, hm.2 c, c]
    generalize hL : nums t = L at *
    refine loop_at (fun X => fin CX _ _ X = _) (fun x : Nat × List Int => 4 * x.1 ≤ t.length ∧ x.2.length = x.1 ∧ L = x.2 ++ nums (t.drop (4 * x.1))) (fun x => ⟨SS [(0, .str t), (4, .ref [8] 0 x.2.length), (5, .int .i64 (4 * x.1 : Nat))], HS [([8], ⟨false, 3, 1, x.2.map (.int .i64), none⟩)]⟩)
      (fun x => (.exit 0, ⟨SS [(4, .ref [8] 0 L.length)], HS [([8], ⟨false, 3, 1, L.map (.int .i64), none⟩)]⟩)) (fun x => t.length - 4 * x.1) (0, []) ⟨by omega, rfl, by simp [hL]⟩ ?_ ?_ ?_
    · simp [go_sem]
    · rintro ⟨n, l⟩ ⟨h1, h3, h4⟩
      simp only at h1 h3 h4
      by_cases c1 : 4 * n < t.length
      · obtain ⟨a, b, c, d, i0, i1, i2, i3, hd⟩ := nums_cut (t := t) (n := n) (by omega)
        have g0 := ge_of i0; have g1 := ge_of i1; have g2 := ge_of i2; have g3 := ge_of i3
        have b0 := a.toNat_lt; have b1 := b.toNat_lt; have b2 := c.toNat_lt; have b3 := d.toNat_lt
        simp [go_sem, show 4 * (n : Int) < t.length by omega]
        refine loop_at (fun X => Back (keepSt an165 0) _ _ X) (fun k : Nat => k ≤ 4) (fun k => ⟨SS [(0, .str t), (4, .ref [8] 0 l.length), (5, .int .i64 (4 * n : Nat)), (6, .int .i64 (gath a b c d k)), (7, .int .i64 (3 - k))], HS [([8], ⟨false, 3, 1, l.map (.int .i64), none⟩)]⟩)
          (fun _ => (.exit 2, ⟨SS [(0, .str t), (4, .ref [8] 0 l.length), (5, .int .i64 (4 * n : Nat)), (6, .int .i64 (numOf a b c d))], HS [([8], ⟨false, 3, 1, l.map (.int .i64), none⟩)]⟩)) (fun k => 4 - k) 0 (by omega) ?_ ?_ ?_
        · simp [go_sem, gath]
        · intro k hk
          by_cases ck : k < 4
          · have : k = 0 ∨ k = 1 ∨ k = 2 ∨ k = 3 := by omega
            rcases this with rfl | rfl | rfl | rfl
            · have q := or_byte0 d
              simp [go_sem, gath, i3, g3, wrap_id (n := 4 * (n : Int) + 3) (by omega), show (4 * (n : Int) + 3).toNat = 4 * n + 3 by omega, show 4 * n + 3 < t.length by omega, show 0 ≤ 4 * (n : Int) + 3 by omega, q, wrap_id (n := (0 : Int)) (by omega), wrap_id (n := (2 : Int)) (by omega)]
              refine ⟨1, by omega, by omega, ?_⟩
              simp [gath]
              exact congrArg (fun z : Int => U (U (U (U (U D0 7 _) 6 (AV.int .i64 z)) 5 _) 4 _) 0 _) q
            · have q := or_byte c d.toNat (by omega)
              simp [go_sem, gath, i2, g2, wrap_id (n := 4 * (n : Int) + 2) (by omega), show (4 * (n : Int) + 2).toNat = 4 * n + 2 by omega, show 4 * n + 2 < t.length by omega, show 0 ≤ 4 * (n : Int) + 2 by omega, q, wrap_id (n := (d.toNat : Int) * 256) (by omega), wrap_id (n := (2 : Int)) (by omega), wrap_id (n := (1 : Int)) (by omega)]
              refine ⟨2, by omega, by omega, ?_⟩
              simp [gath]
              exact congrArg (fun z : Int => U (U (U (U (U D0 7 _) 6 (AV.int .i64 z)) 5 _) 4 _) 0 _) q
            · have q := or_byte b ((d.toNat : Int) * 256 + c.toNat) (by omega)
              simp [go_sem, gath, i1, g1, wrap_id (n := 4 * (n : Int) + 1) (by omega), show (4 * (n : Int) + 1).toNat = 4 * n + 1 by omega, show 4 * n + 1 < t.length by omega, show 0 ≤ 4 * (n : Int) + 1 by omega, q, wrap_id (n := ((d.toNat : Int) * 256 + c.toNat) * 256) (by omega), wrap_id (n := (1 : Int)) (by omega), wrap_id (n := (0 : Int)) (by omega)]
              refine ⟨3, by omega, by omega, ?_⟩
              simp [gath]
              exact congrArg (fun z : Int => U (U (U (U (U D0 7 _) 6 (AV.int .i64 z)) 5 _) 4 _) 0 _) q
            · have q := or_byte a (((d.toNat : Int) * 256 + c.toNat) * 256 + b.toNat) (by omega)
              simp [go_sem, gath, i0, g0, wrap_id (n := 4 * (n : Int)) (by omega), show (4 * (n : Int)).toNat = 4 * n by omega, show 4 * n < t.length by omega, show 0 ≤ 4 * (n : Int) by omega, q, wrap_id (n := (((d.toNat : Int) * 256 + c.toNat) * 256 + b.toNat) * 256) (by omega), wrap_id (n := (0 : Int)) (by omega), wrap_id (n := (-1 : Int)) (by omega)]
              refine ⟨4, by omega, by omega, ?_⟩
              have q2 := q.trans (show (((d.toNat : Int) * 256 + c.toNat) * 256 + b.toNat) * 256 + a.toNat = numOf a b c d by unfold numOf; omega)
              simp [gath]
              exact congrArg (fun z : Int => U (U (U (U (U D0 7 _) 6 (AV.int .i64 z)) 5 _) 4 _) 0 _) q2
          · obtain rfl : k = 4 := by omega
            simp [go_sem, gath]
        · have hl2 : l.length ≤ 1073741823 := by omega
          simp [go_sem, wrap_id (n := 4 * (n : Int) + 4) (by omega), hl2]
          refine ⟨n + 1, l ++ [numOf a b c d], ⟨by omega, by simp [h3], ?_⟩, by omega, ?_⟩
          · rw [h4, hd]; simp [nums]
          · simp [Int.mul_add]
      · have : L = l := by rw [h4, nums_short (by simp; omega)]; simp
        subst this
        simp [go_sem, show ¬ 4 * (n : Int) < t.length by omega]
    · simp [go_sem, e1]
  · have c' : ¬ (t.length : Int).tmod 4 = 0 := fun q => c (hm.1 q)
    simp [go_sem, c', c]
theorem l02Open_E (t : Tx) (kind : Int) (ht : t.length ≤ 1000000) : E CX 106 [.str t, .int .i64 kind] [] = some (match openF t kind with
    | some l => { val := .tuple [.sl 1 (l.map (.int .i64)), .bool true] }
    | none => { val := .tuple [.ref [0, 0, 0, 0] 0 0, .bool false], own := [⟨false, 3, 1, [], none⟩] }) := by
  refine E_fin Tryz.f106 _ an106 rfl rfl rfl Tryz.func106 rfl (by kernel_rfl) ?_
  unfold openF
  by_cases h1 : 4 ≤ t.length
  · have hx : t[0]? = some (t.getD 0 0) := by rw [List.getElem?_eq_getElem (by omega)]; simp [List.getD, show 0 < t.length by omega]
    have hg := ge_of hx
    have e1 := l02Kind_E kind
    have e2 := l02Unpack_E (t.drop 4) (by simp; omega)
    simp only [List.length_drop] at e2
    generalize t.getD 0 0 = b0 at *
    by_cases h2 : (b0.toNat : Int) = kind
    · have hw : IntKind.i64.wrap kind = kind := by rw [← h2]; exact wrap_byte b0
      cases h3 : inn kind 1 9
      · rw [h3] at e1
        simp [go_sem, h1, h2, hw, show ¬ (t.length : Int) < 4 by omega, hx, hg, show 0 < t.length by omega, e1]
      · rw [h3] at e1
        cases h4 : (decide ((t.length - 4) % 4 = 0) && intsOK (nums (t.drop 4)))
        · rw [h4] at e2
          have : ¬ (t.length % 4 = 0 ∧ intsOK (nums (t.drop 4)) = true ∧ sealF kind (nums (t.drop 4)) = t) := by
            rintro ⟨q1, q2, _⟩
            rw [q2] at h4
            simp at h4
            omega
          simp [go_sem, h1, h2, hw, this, show ¬ (t.length : Int) < 4 by omega, hx, hg, show 0 < t.length by omega, e1, e2]
        · rw [h4] at e2
          simp only [Bool.and_eq_true, decide_eq_true_eq] at h4
          have hu : uval (t.drop 4) = nums (t.drop 4) := by unfold uval; rw [if_pos (by simp; exact h4.1)]
          rw [hu] at e2
          have hl := intsOK_len h4.2
          have e3 := l02Seal_E kind (nums (t.drop 4)) (by omega)
          by_cases h5 : sealF kind (nums (t.drop 4)) = t
          · rw [h5] at e3
            simp [go_sem, h1, h2, hw, h4.2, h5, show t.length % 4 = 0 by omega, show ¬ (t.length : Int) < 4 by omega, hx, hg, show 0 < t.length by omega, e1, e2, e3]
          · simp [go_sem, h1, h2, hw, h4.2, h5, show t.length % 4 = 0 by omega, show ¬ (t.length : Int) < 4 by omega, hx, hg, show 0 < t.length by omega, e1, e2, e3]
    · simp [go_sem, h1, h2, show ¬ (t.length : Int) < 4 by omega, hx, hg, show 0 < t.length by omega]
  · simp [go_sem, h1, show (t.length : Int) < 4 by omega]
end Go.Proofs.YtdcgfapededocaaGreat



namespace Go.Proofs.YtdcgfapededocaaGreat
open Go
set_option maxRecDepth 100000
set_option linter.unusedSimpArgs false
set_option linter.unusedVariables false
end Go.Proofs.YtdcgfapededocaaGreat



namespace Go.Proofs.YtdcgfapededocaaGreat
open Go
set_option maxRecDepth 100000
set_option linter.unusedSimpArgs false
set_option linter.unusedVariables false
structure Good (d : Disk) (n : Nat) : Prop where
  ss : d.ss.length = 64
  ps : d.ps.length ≤ n
  at_ : ∀ x ∈ d.ps, 0 ≤ x.at_ ∧ x.at_.toNat < 64
end Go.Proofs.YtdcgfapededocaaGreat



namespace Go.Proofs.YtdcgfapededocaaGreat
open Go
set_option maxRecDepth 100000
set_option linter.unusedSimpArgs false
set_option linter.unusedVariables false
theorem sDiskOK_E (d : Disk) (h1 : d.ss.length ≤ 1073741824) (h2 : d.ps.length ≤ 1073741824) : E CX 25 [eDisk d] [] = some { val := .bool (diskOK d) } := by
  refine E_fin Tryz.f25 _ an25 rfl rfl rfl Tryz.func25 rfl (by kernel_rfl) ?_
  unfold diskOK
  by_cases c1 : d.ss.length = 64
  · have c1' : (d.ss.length : Int) = 64 := by omega
    by_cases c3 : d.ps.length ≤ 200
    · have c3' : ¬ 200 < (d.ps.length : Int) := by omega
      simp [go_sem, eDisk, c1', c3']
      refine loop_for (fun X => fin CX _ _ X = _) d.ss (fun n _ => True) (fun n (_ : Unit) => ⟨SS [(1, .ptr [1] 0 0), (3, .int .i64 n)], HS [([1], ⟨true, 41, 2, [.agg [.sl 1 (d.ss.map .str), .sl 3 (d.ps.map eIo)]], none⟩)]⟩)
        (fun r n _ => if r.all (fun s => decide (s.length ≤ 80)) then (.exit 0, ⟨SS [(1, .ptr [1] 0 0)], HS [([1], ⟨true, 41, 2, [.agg [.sl 1 (d.ss.map .str), .sl 3 (d.ps.map eIo)]], none⟩)]⟩) else (.ret, ⟨SS [(2, .bool false)], HE⟩)) () trivial ?_ ?_ ?_ ?_ ?_
      · simp [go_sem]
      · intro R n _ x t hn hx hd _ hR
        have hx := hx hn
        by_cases cx : x.length ≤ 80
        · have := hR () trivial (by simp [cx])
          simp [go_sem] at this
          simp [go_sem, hn, hx, show ¬ 80 < (x.length : Int) by omega, wrap_id (n := (n : Int) + 1) (by omega)]
          exact this
        · simp [go_sem, hn, hx, show 80 < (x.length : Int) by omega, cx]
      · intro _ _; simp [go_sem]
      · intro _; simp
      · cases c2 : d.ss.all (fun s => decide (s.length ≤ 80))
        · simp [go_sem]
        · simp [go_sem]
          refine loop_for (fun X => fin CX _ _ X = _) d.ps (fun n _ => True) (fun n (_ : Unit) => ⟨SS [(1, .ptr [1] 0 0), (4, .int .i64 n)], HS [([1], ⟨true, 41, 2, [.agg [.sl 1 (d.ss.map .str), .sl 3 (d.ps.map eIo)]], none⟩)]⟩)
            (fun r n _ => if r.all ioOK then (.exit 2, ⟨SS [], HE⟩) else (.ret, ⟨SS [(2, .bool false)], HE⟩)) () trivial ?_ ?_ ?_ ?_ ?_
          · simp [go_sem]
          · intro R n _ x t hn hx hd _ hR
            have hx := hx hn
            have e1 := l01Io_E x
            simp only [eIo] at e1
            cases cx : ioOK x
            · simp [go_sem, hn, hx, eIo, e1, cx]
            · have := hR () trivial (by simp [cx])
              simp [go_sem] at this
              simp [go_sem, hn, hx, eIo, e1, cx, wrap_id (n := (n : Int) + 1) (by omega)]
              exact this
          · intro _ _; simp [go_sem]
          · intro _; simp
          · cases c4 : d.ps.all ioOK <;> simp [go_sem, c1, c3]
    · have c3' : 200 < (d.ps.length : Int) := by omega
      simp [go_sem, eDisk, c1', c3', c3]
  · have c1' : ¬ (d.ss.length : Int) = 64 := by omega
    simp [go_sem, eDisk, c1, c1']
end Go.Proofs.YtdcgfapededocaaGreat



namespace Go.Proofs.YtdcgfapededocaaGreat
open Go
set_option maxRecDepth 100000
set_option linter.unusedSimpArgs false
set_option linter.unusedVariables false
theorem read_E (d : Disk) (h a : Int) (ha : 0 ≤ a ∧ a.toNat < d.ss.length) (h2 : d.ps.length ≤ 1073741824) : E CX 116 [eDisk d, .int .i64 h, .int .i64 a] [] = some { val := .str (rdL d.ss d.ps h a) } := by
  refine E_ext rfl ?_
  show X0 116 _ [] = _
  unfold X0
  rw [if_pos rfl]
  exact readX_of ⟨rfl, ha.1, ha.2, h2⟩
theorem l01Read_E (d : Disk) (h a : Int) (ha : 0 ≤ a ∧ a.toNat < d.ss.length) (h2 : d.ps.length ≤ 1073741824) : E CX 107 [eDisk d, .int .i64 h, .int .i64 a] [] = some { val := .str (rdL d.ss d.ps h a) } := by
  refine E_fin Tryz.f107 _ an107 rfl rfl rfl Tryz.func107 rfl (by kernel_rfl) ?_
  have hx : d.ss[a.toNat]? = some (d.ss.getD a.toNat []) := by rw [List.getElem?_eq_getElem ha.2]; simp [List.getD, ha.2]
  have hg := ge_of hx
  simp [go_sem, eDisk, wrap_id (n := (d.ps.length : Int) - 1) (by omega)]
  refine loop_at (fun X => fin CX _ _ X = _) (fun n : Nat => n ≤ d.ps.length) (fun n => ⟨SS [(1, .int .i64 h), (2, .int .i64 a), (3, .ptr [3] 0 0), (7, .int .i64 ((n : Int) - 1))], HS [([3], ⟨true, 41, 2, [.agg [.sl 1 (d.ss.map .str), .sl 3 (d.ps.map eIo)]], none⟩)]⟩)
    (fun n => match rdN h a d.ps n with
      | some t => (.ret, ⟨SS [(6, .str t)], HE⟩)
      | none => (.exit 0, ⟨SS [(2, .int .i64 a), (3, .ptr [3] 0 0)], HS [([3], ⟨true, 41, 2, [.agg [.sl 1 (d.ss.map .str), .sl 3 (d.ps.map eIo)]], none⟩)]⟩)) (fun n => n) d.ps.length (by omega) ?_ ?_ ?_
  · simp [go_sem]
  · intro n hn
    cases n with
    | zero => simp [go_sem, rdN]
    | succ n =>
      have hy : d.ps[n]? = some (d.ps.getD n default) := by rw [List.getElem?_eq_getElem (by omega)]; simp [List.getD, show n < d.ps.length by omega]
      have hgy := ge_of hy
      generalize d.ps.getD n default = x at *
      obtain ⟨xh, xa, xd⟩ := x
      have ei : (((n + 1 : Nat) : Int) - 1) = (n : Int) := by omega
      by_cases c1 : xh = h
      · by_cases c2 : xa = a
        · simp [go_sem, rdN, hy, hgy, c1, c2, eIo, ei, show n < d.ps.length by omega, show (n : Int) + 1 - 1 = n by omega]
        · simp [go_sem, rdN, hy, hgy, c1, c2, eIo, ei, show n < d.ps.length by omega, show (n : Int) + 1 - 1 = n by omega, wrap_id (n := (n : Int) - 1) (by omega)]
          exact ⟨n, by omega, by omega, rfl, rfl⟩
      · simp [go_sem, rdN, hy, hgy, c1, eIo, ei, show n < d.ps.length by omega, show (n : Int) + 1 - 1 = n by omega, wrap_id (n := (n : Int) - 1) (by omega)]
        exact ⟨n, by omega, by omega, rfl, rfl⟩
  · unfold rdL
    cases hr : rdN h a d.ps d.ps.length with
    | some t => simp [go_sem]
    | none =>
      simp only []
      generalize d.ss.getD a.toNat [] = s0 at *
      simp [go_sem, ha.1, ha.2, hg]
end Go.Proofs.YtdcgfapededocaaGreat



namespace Go.Proofs.YtdcgfapededocaaGreat
open Go
set_option maxRecDepth 100000
set_option linter.unusedSimpArgs false
set_option linter.unusedVariables false
end Go.Proofs.YtdcgfapededocaaGreat



namespace Go.Proofs.YtdcgfapededocaaGreat
open Go
set_option maxRecDepth 100000
set_option linter.unusedSimpArgs false
set_option linter.unusedVariables false
section
variable (d : Disk) (h : Int) (l : List Move)
end
end Go.Proofs.YtdcgfapededocaaGreat



namespace Go.Proofs.YtdcgfapededocaaGreat
open Go
set_option maxRecDepth 100000
set_option linter.unusedSimpArgs false
set_option linter.unusedVariables false
section
variable (d : Disk) (h : Int) (l : List Move)
end
theorem diskOK_good {d : Disk} (h : diskOK d = true) : Good d 200 := by
  unfold diskOK at h
  simp only [Bool.and_eq_true, decide_eq_true_eq, List.all_eq_true] at h
  obtain ⟨⟨⟨h1, h2⟩, h3⟩, h4⟩ := h
  refine ⟨h1, h3, fun x hx => ?_⟩
  have := h4 x hx
  simp [ioOK, inn] at this
  omega
end Go.Proofs.YtdcgfapededocaaGreat



namespace Go.Proofs.YtdcgfapededocaaGreat
open Go
set_option maxRecDepth 100000
set_option linter.unusedSimpArgs false
set_option linter.unusedVariables false
theorem rdL_len {d : Disk} (hd : diskOK d = true) (h a : Int) : (rdL d.ss d.ps h a).length ≤ 80 := by
  simp only [diskOK, Bool.and_eq_true, decide_eq_true_eq, List.all_eq_true] at hd
  obtain ⟨⟨⟨_, h2⟩, _⟩, h4⟩ := hd
  have hn : ∀ n t, rdN h a d.ps n = some t → t.length ≤ 80 := by
    intro n
    induction n with
    | zero => intro t ht; simp [rdN] at ht
    | succ n ih =>
      intro t ht
      unfold rdN at ht
      cases hx : d.ps[n]? with
      | none => rw [hx] at ht; exact ih t ht
      | some x =>
        rw [hx] at ht
        simp only at ht
        split at ht
        · injection ht with ht; subst ht
          have := h4 x (List.mem_of_getElem? hx)
          simp [ioOK] at this
          exact this.2
        · exact ih t ht
  unfold rdL
  cases hr : rdN h a d.ps d.ps.length with
  | some t => exact hn _ _ hr
  | none =>
    simp only []
    by_cases hi : a.toNat < d.ss.length
    · rw [List.getD_eq_getElem?_getD, List.getElem?_eq_getElem hi]
      exact h2 _ (List.getElem_mem hi)
    · rw [List.getD_eq_getElem?_getD, List.getElem?_eq_none (by omega)]; simp
section
variable (d : Disk) (h of_ : Int) (hd : diskOK d = true) (ho : 0 ≤ of_ ∧ of_ ≤ 3)
include hd ho
end
end Go.Proofs.YtdcgfapededocaaGreat



namespace Go.Proofs.YtdcgfapededocaaGreat
open Go
set_option maxRecDepth 100000
set_option linter.unusedSimpArgs false
set_option linter.unusedVariables false
section
variable (d : Disk) (h of_ : Int) (hd : diskOK d = true) (ho : 0 ≤ of_ ∧ of_ ≤ 3)
include hd ho
end
end Go.Proofs.YtdcgfapededocaaGreat



namespace Go.Proofs.YtdcgfapededocaaGreat
open Go
set_option maxRecDepth 100000
set_option linter.unusedSimpArgs false
set_option linter.unusedVariables false
structure Delta where
  host : Int
  gen : Int
  stamp : Int
  deriving Inhabited, DecidableEq
end Go.Proofs.YtdcgfapededocaaGreat



namespace Go.Proofs.YtdcgfapededocaaGreat
open Go
set_option maxRecDepth 100000
set_option linter.unusedSimpArgs false
set_option linter.unusedVariables false
end Go.Proofs.YtdcgfapededocaaGreat



namespace Go.Proofs.YtdcgfapededocaaGreat
open Go
set_option maxRecDepth 100000
set_option linter.unusedSimpArgs false
set_option linter.unusedVariables false
end Go.Proofs.YtdcgfapededocaaGreat



namespace Go.Proofs.YtdcgfapededocaaGreat
open Go
set_option maxRecDepth 100000
set_option linter.unusedSimpArgs false
set_option linter.unusedVariables false
structure Leader where
  ver : Int
  owner : Int
  gen : Int
  deriving Inhabited, DecidableEq
end Go.Proofs.YtdcgfapededocaaGreat



namespace Go.Proofs.YtdcgfapededocaaGreat
open Go
set_option maxRecDepth 100000
set_option maxHeartbeats 1000000
set_option linter.unusedSimpArgs false
set_option linter.unusedVariables false
end Go.Proofs.YtdcgfapededocaaGreat



namespace Go.Proofs.YtdcgfapededocaaGreat
open Go
set_option maxRecDepth 100000
set_option maxHeartbeats 4000000
set_option linter.unusedSimpArgs false
set_option linter.unusedVariables false
end Go.Proofs.YtdcgfapededocaaGreat



namespace Go.Proofs.YtdcgfapededocaaGreat
open Go
set_option maxRecDepth 100000
set_option maxHeartbeats 2000000
set_option linter.unusedSimpArgs false
set_option linter.unusedVariables false
def hostOK (T : Int) (h : Host) : Bool := inn h.state 0 2 && inn h.gen 0 1000000 && inn h.renewed 0 T
def wldOK (w : Wld) : Bool := diskOK w.disk && decide (w.disk.ps.length = 0) && cfgOK w.cfg && decide (w.hosts.length = 4) && inn w.time 0 1000000 && w.hosts.all (hostOK w.time) && gstOK w.guest && (reqZ w.may || reqOK w.may)
/-- A world's cells. -/
def cWld (w : Wld) : List AV := [.sl 1 (w.disk.ss.map .str), .sl 3 (w.disk.ps.map eIo), .int .i64 w.cfg.fail, .int .i64 w.cfg.dead, .int .i64 w.cfg.delay, .int .i64 w.cfg.drift, .sl 3 (w.hosts.map eHost), .int .i64 w.time, .sl 1 (w.guest.vals.map (.int .i64)), .sl 2 (w.guest.shots.map eSht), .int .i64 w.may.kind, .int .i64 w.may.g, .int .i64 w.may.value, .str w.may.name, .bool w.agree]
theorem worldOK1_E (w : Wld) (h : Host) : E CX 38 [eHost h, .rptr (cWld w)] [] = some { val := .bool (hostOK w.time h) } := by
  unfold hostOK cWld
  refine E_fin Tryz.f38 _ an38 rfl rfl rfl Tryz.func38 rfl (by kernel_rfl) ?_
  cases c1 : inn h.state 0 2
  · simp [go_sem, eHost, within_E, c1]
  cases c2 : inn h.gen 0 1000000
  · simp [go_sem, eHost, within_E, c1, c2]
  simp [go_sem, eHost, within_E, c1, c2]
theorem notHost_E (f : FuncId) (cs : List AV) (x : Host) (b : Bool) (hio : (annA f).io = []) (hf : E CX f [eHost x, .rptr cs] [] = some { val := .bool b }) : E CX 90 [eHost x, .rptr [.fn f [.rptr cs]]] [] = some { val := .bool (!b) } := by
  refine E_fin Tryz.f90 _ an90 rfl rfl rfl Tryz.func90 rfl (by kernel_rfl) ?_
  simp only [eHost] at hf
  simp [go_sem, hf, hio, eHost]
theorem indexInHost_E (h : FuncId) (cap : List AV) (l : List Host) (q : Host → Bool) (hio : (annA h).io = []) (hl : l.length ≤ 1073741824) (hf : ∀ x ∈ l, E CX h [eHost x, .rptr cap] [] = some { val := .bool (q x) }) : E CX 150 [.sl 3 (l.map eHost), .fn h [.rptr cap]] [] = some { val := .int .i64 (idxOf (firstAt q l 0)) } := by
  refine E_fin Tryz.f150 _ an150 rfl rfl rfl Tryz.func150 rfl (by kernel_rfl) ?_
  simp [go_sem]
  refine loop_list (fun X => fin CX _ _ X = _) l (fun n _ => True) (fun n (_ : Unit) => ⟨SS [(0, .sl 3 (l.map eHost)), (1, .fn h [.rptr cap]), (7, .int .i64 l.length), (8, .int .i64 n)], HE⟩)
     (fun r n _ => match firstAt q r n with
    | some k => (.ret, ⟨SS [(4, .int .i64 k)], HE⟩)
    | none => (.exit 0, ⟨SS [], HE⟩)) () trivial ?_ ?_ ?_ ?_ ?_
  · simp [go_sem]
  · intro n _ x t hn hx hd _
    have hx := hx hn
    have hE := hf x (by rw [← hx]; exact List.getElem_mem hn)
    simp only [eHost] at hE
    cases hq : q x
    · rw [hq] at hE
      simp [go_sem, firstAt, hq, hio, hE, hn, hx, eHost, wrap_id (n := (n : Int) + 1) (by omega)]
    · rw [hq] at hE
      simp [go_sem, firstAt, hq, hio, hE, hn, hx, eHost]
  · intro _ _; simp [go_sem, firstAt]
  · intro _; simp [firstAt]
  · cases hr : firstAt q l 0 <;> simp [go_sem, hr, idxOf]
theorem allHost_E (f : FuncId) (cs : List AV) (l : List Host) (q : Host → Bool) (hio : (annA f).io = []) (hl : l.length ≤ 1073741824) (hf : ∀ x ∈ l, E CX f [eHost x, .rptr cs] [] = some { val := .bool (q x) }) : E CX 37 [.sl 3 (l.map eHost), .fn f [.rptr cs]] [] = some { val := .bool (l.all q) } := by
  have h0 := indexInHost_E 90 [.fn f [.rptr cs]] l (fun x => !q x) rfl hl (fun x hx => notHost_E f cs x (q x) hio (hf x hx))
  have h : E CX 89 [.sl 3 (l.map eHost), .fn 90 [.rptr [.fn f [.rptr cs]]]] [] = some { val := .bool (l.any fun x => !q x) } := by
    refine E_fin Tryz.f89 _ an89 rfl rfl rfl Tryz.func89 rfl (by kernel_rfl) ?_
    simp [go_sem, h0, idx_any]
  rw [any_not] at h
  refine E_fin Tryz.f37 _ an37 rfl rfl rfl Tryz.func37 rfl (by kernel_rfl) ?_
  simp [go_sem, h]
theorem worldOK_E (w : Wld) (B : WldB w) : E CX 10 [eWld w] [] = some { val := .bool (wldOK w) } := by
  have e1 := diskOK_E w.disk (by have := B.ss; omega) (by have := B.ps; omega)
  have e2 := configOK_E w.cfg
  have e3 := allHost_E 38 (cWld w) w.hosts (hostOK w.time) rfl (by have := B.hosts; omega) (fun h _ => worldOK1_E w h)
  have e4 := guestOK_E w.guest B.guest
  have e5 := reqOK_E w.may (by have := B.name; omega)
  unfold wldOK reqZ
  simp only [eDisk, eConfig, eGst, eReq, cWld] at e1 e2 e3 e4 e5
  obtain ⟨⟨ss, ps⟩, cfg, hosts, time, guest, ⟨k, g, v, n⟩, agree⟩ := w
  simp only at e1 e2 e3 e4 e5
  simp only
  refine E_fin Tryz.f10 _ an10 rfl rfl rfl Tryz.func10 rfl (by kernel_rfl) ?_
  cases c1 : diskOK ⟨ss, ps⟩
  · rw [c1] at e1; simp [go_sem, eWld, e1]
  rw [c1] at e1
  by_cases c2 : ps.length = 0
  case neg =>
    have c2' : ¬ ps = [] := fun h => c2 (by rw [h]; rfl)
    simp [go_sem, eWld, e1, c2', show ¬ (ps.length : Int) = 0 by omega]
  have c2' : ps = [] := List.length_eq_zero_iff.1 c2
  subst c2'
  simp only [List.map_nil] at e1 e3
  clear c2
  cases c3 : cfgOK cfg
  · rw [c3] at e2; simp [go_sem, eWld, e1, e2]
  rw [c3] at e2
  by_cases c4 : hosts.length = 4
  case neg => simp [go_sem, eWld, e1, e2, c4, show ¬ (hosts.length : Int) = 4 by omega]
  cases c5 : inn time 0 1000000
  · simp [go_sem, eWld, e1, e2, c4, c5, within_E]
  cases c6 : hosts.all (hostOK time)
  · rw [c6] at e3; simp [go_sem, eWld, e1, e2, e3, c4, c5, within_E]
  rw [c6] at e3
  cases c7 : gstOK guest
  · rw [c7] at e4; simp [go_sem, eWld, e1, e2, e3, e4, c4, c5, within_E]
  rw [c7] at e4
  have hn0 : ([] : Tx) = n ↔ n = [] := eq_comm
  by_cases d1 : k = 0
  · subst d1
    by_cases d2 : g = 0
    · subst d2
      by_cases d3 : v = 0
      · subst d3
        by_cases d4 : n = []
        · subst d4; simp [go_sem, eWld, e1, e2, e3, e4, c4, c5, within_E]
        · simp [go_sem, eWld, e1, e2, e3, e4, e5, c4, c5, within_E, d4]
      · simp [go_sem, eWld, e1, e2, e3, e4, e5, c4, c5, within_E, d3]
    · simp [go_sem, eWld, e1, e2, e3, e4, e5, c4, c5, within_E, d2]
  · simp [go_sem, eWld, e1, e2, e3, e4, e5, c4, c5, within_E, d1]
end Go.Proofs.YtdcgfapededocaaGreat



namespace Go.Proofs.YtdcgfapededocaaGreat
open Go
set_option maxRecDepth 100000
set_option maxHeartbeats 2000000
set_option linter.unusedSimpArgs false
set_option linter.unusedVariables false
theorem sWorldOK_E (w : Wld) (B : WldB w) : E CX 8 [eWld w] [] = some { val := .bool (wldOK w) } := by
  have e1 := sDiskOK_E w.disk (by have := B.ss; omega) (by have := B.ps; omega)
  have e2 := sConfigOK_E w.cfg
  have e4 := sGuestOK_E w.guest B.guest
  have e5 := sReqOK_E w.may (by have := B.name; omega)
  have hw : wldOK w = (diskOK w.disk && cfgOK w.cfg && decide (w.hosts.length = 4) && inn w.time 0 1000000 && gstOK w.guest && decide (w.disk.ps.length = 0) && (reqZ w.may || reqOK w.may) && w.hosts.all (hostOK w.time)) := by
    unfold wldOK
    cases diskOK w.disk <;> cases cfgOK w.cfg <;> cases inn w.time 0 1000000 <;> cases gstOK w.guest <;> cases w.hosts.all (hostOK w.time) <;> simp [Bool.and_comm, Bool.and_left_comm]
  rw [hw]
  unfold reqZ
  simp only [eDisk, eConfig, eGst, eReq] at e1 e2 e4 e5
  obtain ⟨disk, cfg, hosts, time, guest, ⟨k, g, v, n⟩, agree⟩ := w
  simp only at e1 e2 e4 e5
  simp only
  refine E_fin Tryz.f8 _ an8 rfl rfl rfl Tryz.func8 rfl (by kernel_rfl) ?_
  cases c1 : diskOK disk
  · rw [c1] at e1; simp [go_sem, eWld, e1]
  rw [c1] at e1
  cases c3 : cfgOK cfg
  · rw [c3] at e2; simp [go_sem, eWld, e1, e2]
  rw [c3] at e2
  by_cases c4 : hosts.length = 4
  case neg => simp [go_sem, eWld, e1, e2, c4, show ¬ (hosts.length : Int) = 4 by omega]
  cases c5 : inn time 0 1000000
  · simp [go_sem, eWld, e1, e2, c4, c5, l01In_E]
  cases c7 : gstOK guest
  · rw [c7] at e4; simp [go_sem, eWld, e1, e2, e4, c4, c5, l01In_E]
  rw [c7] at e4
  by_cases c2 : disk.ps.length = 0
  case neg =>
    have c2' : ¬ disk.ps = [] := fun h => c2 (by rw [h]; rfl)
    simp [go_sem, eWld, e1, e2, e4, c2, c2', c4, c5, l01In_E, show (0 : Int) < disk.ps.length by omega, show 0 < disk.ps.length by omega]
  have hn0 : ([] : Tx) = n ↔ n = [] := eq_comm
  by_cases d1 : k = 0
  · subst d1
    by_cases d2 : g = 0
    · subst d2
      by_cases d3 : v = 0
      · subst d3
        by_cases d4 : n = []
        · subst d4
          simp [go_sem, eWld, e1, e2, e4, c2, c4, c5, l01In_E]
          refine loop_list (fun X => fin CX _ _ X = _) hosts (fun n _ => True) (fun n' (_ : Unit) => ⟨SS [(1, .ptr [1] 0 0), (3, .int .i64 n')], HS [([1], ⟨true, 49, 15, [eWld ⟨disk, cfg, hosts, time, guest, ⟨0, 0, 0, []⟩, agree⟩], none⟩)]⟩)
            (fun q n _ => if q.all (hostOK time) then (.exit 0, ⟨SS [], HE⟩) else (.ret, ⟨SS [(2, .bool false)], HE⟩)) () trivial ?_ ?_ ?_ ?_ ?_
          · simp [go_sem, eWld]
          · intro n' _ x q hn hx hd _
            have hx := hx hn
            have hn4 : n' < 4 := by omega
            cases k1 : inn x.state 0 2
            · simp [go_sem, eWld, eHost, hn, hn4, show (n' : Int) < 4 by omega, c4, hx, l01In_E, hostOK, k1]
            cases k2 : inn x.gen 0 1000000
            · simp [go_sem, eWld, eHost, hn, hn4, show (n' : Int) < 4 by omega, c4, hx, l01In_E, hostOK, k1, k2]
            cases k3 : inn x.renewed 0 time <;> simp [go_sem, eWld, eHost, hn, hn4, show (n' : Int) < 4 by omega, c4, hx, l01In_E, hostOK, k1, k2, k3, wrap_id (n := (n' : Int) + 1) (by omega)]
          · intro _ _; simp [go_sem, eWld, c4]
          · intro _; split <;> simp
          · cases k4 : hosts.all (hostOK time) <;> simp [go_sem, k4]
        · skip
          cases c8 : reqOK ⟨0, 0, 0, n⟩
          · rw [c8] at e5; simp [go_sem, eWld, e1, e2, e4, e5, c2, c4, c5, l01In_E, d4]
          rw [c8] at e5
          simp [go_sem, eWld, e1, e2, e4, e5, c2, c4, c5, l01In_E, d4]
          refine loop_list (fun X => fin CX _ _ X = _) hosts (fun n _ => True) (fun n' (_ : Unit) => ⟨SS [(1, .ptr [1] 0 0), (3, .int .i64 n')], HS [([1], ⟨true, 49, 15, [eWld ⟨disk, cfg, hosts, time, guest, ⟨0, 0, 0, n⟩, agree⟩], none⟩)]⟩)
            (fun q n _ => if q.all (hostOK time) then (.exit 0, ⟨SS [], HE⟩) else (.ret, ⟨SS [(2, .bool false)], HE⟩)) () trivial ?_ ?_ ?_ ?_ ?_
          · simp [go_sem, eWld]
          · intro n' _ x q hn hx hd _
            have hx := hx hn
            have hn4 : n' < 4 := by omega
            cases k1 : inn x.state 0 2
            · simp [go_sem, eWld, eHost, hn, hn4, show (n' : Int) < 4 by omega, c4, hx, l01In_E, hostOK, k1]
            cases k2 : inn x.gen 0 1000000
            · simp [go_sem, eWld, eHost, hn, hn4, show (n' : Int) < 4 by omega, c4, hx, l01In_E, hostOK, k1, k2]
            cases k3 : inn x.renewed 0 time <;> simp [go_sem, eWld, eHost, hn, hn4, show (n' : Int) < 4 by omega, c4, hx, l01In_E, hostOK, k1, k2, k3, wrap_id (n := (n' : Int) + 1) (by omega)]
          · intro _ _; simp [go_sem, eWld, c4]
          · intro _; split <;> simp
          · cases k4 : hosts.all (hostOK time) <;> simp [go_sem, k4]
      · skip
        cases c8 : reqOK ⟨0, 0, v, n⟩
        · rw [c8] at e5; simp [go_sem, eWld, e1, e2, e4, e5, c2, c4, c5, l01In_E, d3]
        rw [c8] at e5
        simp [go_sem, eWld, e1, e2, e4, e5, c2, c4, c5, l01In_E, d3]
        refine loop_list (fun X => fin CX _ _ X = _) hosts (fun n _ => True) (fun n' (_ : Unit) => ⟨SS [(1, .ptr [1] 0 0), (3, .int .i64 n')], HS [([1], ⟨true, 49, 15, [eWld ⟨disk, cfg, hosts, time, guest, ⟨0, 0, v, n⟩, agree⟩], none⟩)]⟩)
          (fun q n _ => if q.all (hostOK time) then (.exit 0, ⟨SS [], HE⟩) else (.ret, ⟨SS [(2, .bool false)], HE⟩)) () trivial ?_ ?_ ?_ ?_ ?_
        · simp [go_sem, eWld]
        · intro n' _ x q hn hx hd _
          have hx := hx hn
          have hn4 : n' < 4 := by omega
          cases k1 : inn x.state 0 2
          · simp [go_sem, eWld, eHost, hn, hn4, show (n' : Int) < 4 by omega, c4, hx, l01In_E, hostOK, k1]
          cases k2 : inn x.gen 0 1000000
          · simp [go_sem, eWld, eHost, hn, hn4, show (n' : Int) < 4 by omega, c4, hx, l01In_E, hostOK, k1, k2]
          cases k3 : inn x.renewed 0 time <;> simp [go_sem, eWld, eHost, hn, hn4, show (n' : Int) < 4 by omega, c4, hx, l01In_E, hostOK, k1, k2, k3, wrap_id (n := (n' : Int) + 1) (by omega)]
        · intro _ _; simp [go_sem, eWld, c4]
        · intro _; split <;> simp
        · cases k4 : hosts.all (hostOK time) <;> simp [go_sem, k4]
    · skip
      cases c8 : reqOK ⟨0, g, v, n⟩
      · rw [c8] at e5; simp [go_sem, eWld, e1, e2, e4, e5, c2, c4, c5, l01In_E, d2]
      rw [c8] at e5
      simp [go_sem, eWld, e1, e2, e4, e5, c2, c4, c5, l01In_E, d2]
      refine loop_list (fun X => fin CX _ _ X = _) hosts (fun n _ => True) (fun n' (_ : Unit) => ⟨SS [(1, .ptr [1] 0 0), (3, .int .i64 n')], HS [([1], ⟨true, 49, 15, [eWld ⟨disk, cfg, hosts, time, guest, ⟨0, g, v, n⟩, agree⟩], none⟩)]⟩)
        (fun q n _ => if q.all (hostOK time) then (.exit 0, ⟨SS [], HE⟩) else (.ret, ⟨SS [(2, .bool false)], HE⟩)) () trivial ?_ ?_ ?_ ?_ ?_
      · simp [go_sem, eWld]
      · intro n' _ x q hn hx hd _
        have hx := hx hn
        have hn4 : n' < 4 := by omega
        cases k1 : inn x.state 0 2
        · simp [go_sem, eWld, eHost, hn, hn4, show (n' : Int) < 4 by omega, c4, hx, l01In_E, hostOK, k1]
        cases k2 : inn x.gen 0 1000000
        · simp [go_sem, eWld, eHost, hn, hn4, show (n' : Int) < 4 by omega, c4, hx, l01In_E, hostOK, k1, k2]
        cases k3 : inn x.renewed 0 time <;> simp [go_sem, eWld, eHost, hn, hn4, show (n' : Int) < 4 by omega, c4, hx, l01In_E, hostOK, k1, k2, k3, wrap_id (n := (n' : Int) + 1) (by omega)]
      · intro _ _; simp [go_sem, eWld, c4]
      · intro _; split <;> simp
      · cases k4 : hosts.all (hostOK time) <;> simp [go_sem, k4]
  · skip
    cases c8 : reqOK ⟨k, g, v, n⟩
    · rw [c8] at e5; simp [go_sem, eWld, e1, e2, e4, e5, c2, c4, c5, l01In_E, d1]
    rw [c8] at e5
    simp [go_sem, eWld, e1, e2, e4, e5, c2, c4, c5, l01In_E, d1]
    refine loop_list (fun X => fin CX _ _ X = _) hosts (fun n _ => True) (fun n' (_ : Unit) => ⟨SS [(1, .ptr [1] 0 0), (3, .int .i64 n')], HS [([1], ⟨true, 49, 15, [eWld ⟨disk, cfg, hosts, time, guest, ⟨k, g, v, n⟩, agree⟩], none⟩)]⟩)
      (fun q n _ => if q.all (hostOK time) then (.exit 0, ⟨SS [], HE⟩) else (.ret, ⟨SS [(2, .bool false)], HE⟩)) () trivial ?_ ?_ ?_ ?_ ?_
    · simp [go_sem, eWld]
    · intro n' _ x q hn hx hd _
      have hx := hx hn
      have hn4 : n' < 4 := by omega
      cases k1 : inn x.state 0 2
      · simp [go_sem, eWld, eHost, hn, hn4, show (n' : Int) < 4 by omega, c4, hx, l01In_E, hostOK, k1]
      cases k2 : inn x.gen 0 1000000
      · simp [go_sem, eWld, eHost, hn, hn4, show (n' : Int) < 4 by omega, c4, hx, l01In_E, hostOK, k1, k2]
      cases k3 : inn x.renewed 0 time <;> simp [go_sem, eWld, eHost, hn, hn4, show (n' : Int) < 4 by omega, c4, hx, l01In_E, hostOK, k1, k2, k3, wrap_id (n := (n' : Int) + 1) (by omega)]
    · intro _ _; simp [go_sem, eWld, c4]
    · intro _; split <;> simp
    · cases k4 : hosts.all (hostOK time) <;> simp [go_sem, k4]
end Go.Proofs.YtdcgfapededocaaGreat



namespace Go.Proofs.YtdcgfapededocaaGreat
open Go
set_option maxRecDepth 100000
set_option maxHeartbeats 2000000
set_option linter.unusedSimpArgs false
set_option linter.unusedVariables false
structure WOK (w : Wld) : Prop where
  disk : diskOK w.disk = true
  ps : w.disk.ps = []
  cfg : cfgOK w.cfg = true
  hosts : w.hosts.length = 4
  time : 0 ≤ w.time ∧ w.time ≤ 1000000
  host : ∀ x ∈ w.hosts, (0 ≤ x.state ∧ x.state ≤ 2) ∧ (0 ≤ x.gen ∧ x.gen ≤ 1000000) ∧ 0 ≤ x.renewed ∧ x.renewed ≤ w.time
  guest : gstOK w.guest = true
  may : (reqZ w.may || reqOK w.may) = true
theorem wOK {w : Wld} (h : wldOK w = true) : WOK w := by
  simp only [wldOK, Bool.and_eq_true, decide_eq_true_eq, List.all_eq_true] at h
  obtain ⟨⟨⟨⟨⟨⟨⟨h1, h2⟩, h3⟩, h4⟩, h5⟩, h6⟩, h7⟩, h8⟩ := h
  refine ⟨h1, List.length_eq_zero_iff.1 h2, h3, h4, by simpa [inn] using h5, fun x hx => ?_, h7, h8⟩
  have := h6 x hx
  simp only [hostOK, inn, Bool.and_eq_true, decide_eq_true_eq] at this
  omega
end Go.Proofs.YtdcgfapededocaaGreat



namespace Go.Proofs.YtdcgfapededocaaGreat
open Go
set_option maxRecDepth 100000
set_option linter.unusedSimpArgs false
set_option linter.unusedVariables false
/-- Six counts as a number. -/
def six (l : List Int) : Int := l.getD 0 0 + 16 * (l.getD 1 0 + 16 * (l.getD 2 0 + 16 * (l.getD 3 0 + 16 * (l.getD 4 0 + 16 * l.getD 5 0))))
def sixes (l : List Int) : List Int := [six l, six (l.drop 6), six (l.drop 12), six (l.drop 18)]
def refsF (l : List Int) : Tx := sealF 2 (sixes l)
end Go.Proofs.YtdcgfapededocaaGreat



namespace Go.Proofs.YtdcgfapededocaaGreat
open Go
set_option maxRecDepth 100000
set_option maxHeartbeats 1000000
set_option linter.unusedSimpArgs false
set_option linter.unusedVariables false
/-- A name as a number. -/
def nameN : Tx → Int → Int
  | [], n => n
  | b :: t, n => nameN t (27 * n + ((b.toNat : Int) - 97) + 1)
def nameF (t : Tx) : Int := nameN t 0
def mapU : Nat → List (List Int) → List Update
  | _, [] => []
  | n, t :: ts => ⟨11 + n, sealF 3 t⟩ :: mapU (n + 1) ts
def datU (d : List Int) : Nat → List Int → List Update
  | _, [] => []
  | n, x :: r => (if 0 < x then [⟨15 + n, sealF 4 [d.getD n 0]⟩] else []) ++ datU d (n + 1) r
def superF (m : Img) : Tx := sealF 1 ((m.snaps.length : Int) :: m.snaps.map fun x => nameF x.name)
def upsF (m : Img) : List Update := ⟨9, superF m⟩ :: ⟨10, refsF m.refs⟩ :: (mapU 0 (tabs m) ++ datU m.data 0 m.refs)
end Go.Proofs.YtdcgfapededocaaGreat



namespace Go.Proofs.YtdcgfapededocaaGreat
open Go
set_option maxRecDepth 100000
set_option maxHeartbeats 1000000
set_option linter.unusedSimpArgs false
set_option linter.unusedVariables false
/-- The name of a number; of one that is none's there is none. -/
def unameO (n : Nat) (out : Tx) : Option Tx := if h : n = 0 then some out else if n % 27 = 0 then none else unameO (n / 27) (UInt8.ofNat (96 + n % 27) :: out)
termination_by n
decreasing_by omega
def unameF (n : Int) : Tx := (unameO n.toNat []).getD []
theorem unameO_len (n : Nat) (out t : Tx) (h : unameO n out = some t) : t.length ≤ out.length + n := by
  fun_induction unameO n out with
  | case1 out => cases h; simp
  | case2 n out h1 h2 => cases h
  | case3 n out h1 h2 ih => have := ih h; simp only [List.length_cons] at this; omega
theorem unpackName_E (k : Int) (h : 0 ≤ k ∧ k ≤ 1099511627776) : E CX 119 [.int .i64 k] [] = some { val := .str (unameF k) } := by
  obtain ⟨m, rfl⟩ : ∃ m : Nat, k = m := ⟨k.toNat, by omega⟩
  refine E_fin Tryz.f119 _ an119 rfl rfl rfl Tryz.func119 rfl (by kernel_rfl) ?_
  simp [go_sem]
  refine loop_at (fun X => fin CX _ _ X = _) (fun x : Nat × Tx => x.2.length + x.1 ≤ 1099511627776) (fun x => ⟨SS [(0, .int .i64 x.1), (3, .str x.2)], HE⟩) (fun x => match unameO x.1 x.2 with | some t => (.exit 0, ⟨SS [(3, .str t)], HE⟩) | none => (.ret, ⟨SS [(2, .str [])], HE⟩)) (fun x => x.1) (m, []) (by simp; omega) ?_ ?_ ?_
  · simp [go_sem]
  · rintro ⟨j, out⟩ hI
    simp only at hI
    by_cases hj : j = 0
    · subst hj
      have : unameO 0 out = some out := by unfold unameO; simp
      simp [go_sem, this]
    · have e1 : unameO j out = if j % 27 = 0 then none else unameO (j / 27) (UInt8.ofNat (96 + j % 27) :: out) := by rw [unameO]; simp [hj]
      have e2 : ((j : Int).tmod 27) = ((j % 27 : Nat) : Int) := by rw [Int.tmod_eq_emod_of_nonneg (by omega)]; omega
      have e3 : ((j : Int).tdiv 27) = ((j / 27 : Nat) : Int) := by rw [Int.tdiv_eq_ediv_of_nonneg (by omega)]; omega
      obtain ⟨r, hr⟩ : ∃ r, r = j % 27 := ⟨_, rfl⟩
      obtain ⟨q, hq⟩ : ∃ q, q = j / 27 := ⟨_, rfl⟩
      rw [← hr] at e2
      rw [← hq] at e3
      rw [← hr, ← hq] at e1
      obtain ⟨bb, hbb⟩ : ∃ bb : UInt8, bb = UInt8.ofNat (96 + r) := ⟨_, rfl⟩
      rw [← hbb] at e1
      simp only [e1]
      have hr27 : r < 27 := by omega
      have hqj : q < j := by omega
      by_cases hr0 : r = 0
      · subst hr0
        simp [go_sem, Nat.pos_of_ne_zero hj, e2]
      · have e4 : IntKind.i64.wrap (97 + (r : Int)) = 97 + (r : Int) := wrap_id (by omega)
        have e5 : IntKind.i64.wrap (97 + (r : Int) - 1) = 97 + (r : Int) - 1 := wrap_id (by omega)
        have e6 : (96 + (r : Int)) % 256 = (bb.toNat : Int) := by rw [hbb, UInt8.toNat_ofNat']; omega
        have e7 : IntKind.i64.wrap (q : Int) = q := wrap_id (by omega)
        simp [go_sem, Nat.pos_of_ne_zero hj, e2, e3, e4, e5, e6, e7, hr0, show 1 + out.length ≤ 4611686018427387904 by omega]
        have e9 : byteOf (97 + (r : Int) - 1) = bb := by
          rw [hbb]; unfold byteOf; congr 1; omega
        exact ⟨q, bb :: out, by simp only [List.length_cons]; omega, hqj, by rw [e9], rfl⟩
  · have hl := unameO_len m []
    unfold unameF
    simp only [Int.toNat_natCast]
    cases hu : unameO m [] with
    | none => simp [go_sem]
    | some t =>
      have := hl t hu
      simp only [List.length_nil] at this
      simp [go_sem]
def dig (x : Int) (k : Nat) : Int := x / 16 ^ k % 16
/-- Six counts of a number. -/
def hex6 (x : Int) : List Int := [dig x 0, dig x 1, dig x 2, dig x 3, dig x 4, dig x 5]
def spreadB : List Int → List Int → Bool × List Int
  | [], a => (true, a)
  | x :: l, a => if 0 < x / 16 ^ 6 then (false, a ++ hex6 x) else spreadB l (a ++ hex6 x)
def spread (l a : List Int) : Option (List Int) := if (spreadB l a).1 = true then some (spreadB l a).2 else none
def refsO (t : Tx) : Option (List Int) := match openF t 2 with
  | some l => if l.length = 4 then spread l [] else none
  | none => none
def tabO (t : Tx) : Option (List Int) := match openF t 3 with
  | some l => if tabOK l = true then some l else none
  | none => none
theorem open_some {t : Tx} {k : Int} {l : List Int} (h : openF t k = some l) : early t = false ∧ l = LL t ∧ ∀ x ∈ l, 0 ≤ x ∧ x ≤ 2147483647 := by
  cases he : early t
  · rw [open_late he] at h
    split at h
    · rename_i hc
      cases h
      refine ⟨rfl, rfl, ?_⟩
      have := hc.1
      simp only [openB, Bool.and_eq_true] at this
      have := this.1.2
      simp only [intsOK, Bool.and_eq_true, List.all_eq_true] at this
      intro x hx
      have := this.2 x hx
      simpa [isNum, inn] using this
    · cases h
  · rw [open_early he] at h; cases h
def nilTab (t : Tx) : AV := if early t then .nil else .sl 1 ((LL t).map (.int .i64))
theorem tableOf_E (t : Tx) (ht : t.length ≤ 1000000) : E CX 118 [.str t] [] = some { val := .tuple [nilTab t, .bool (tabO t).isSome] } := by
  have e1 := open_E t 3 ht
  have hl : (LL t).length ≤ 17 := by unfold LL; simp; omega
  have e2 := tabOK_E (LL t) (by omega)
  refine E_fin Tryz.f118 _ an118 rfl rfl rfl Tryz.func118 rfl (by kernel_rfl) ?_
  simp only [openV] at e1
  unfold nilTab tabO
  cases he : early t
  · rw [open_late he] at e1 ⊢
    rw [he] at e1
    by_cases hc : openB t = true ∧ t0 t = 3
    · simp only [if_pos hc] at e1 ⊢
      cases hk : tabOK (LL t) <;> rw [hk] at e2 <;> simp at e1 <;> simp [go_sem, e1, e2]
    · simp only [if_neg hc] at e1 ⊢
      simp at e1
      simp [go_sem, e1]
  · rw [open_early he] at e1 ⊢
    rw [he] at e1
    simp at e1
    simp [go_sem, e1]
theorem refsOf_no (t : Tx) (ht : t.length ≤ 1000000) (h : ∀ l, openF t 2 = some l → l.length ≠ 4) : E CX 117 [.str t] [] = some { val := .tuple [.nil, .bool false] } := by
  have e1 := open_E t 2 ht
  simp only [openV] at e1
  refine E_fin Tryz.f117 _ an117 rfl rfl rfl Tryz.func117 rfl (by kernel_rfl) ?_
  cases he : early t
  · rw [open_late he] at e1 h
    rw [he] at e1
    by_cases hc : openB t = true ∧ t0 t = 2
    · simp only [if_pos hc] at e1 h
      have hl := h _ rfl
      simp at e1
      simp [go_sem, e1, hl, show ¬ ((LL t).length : Int) = 4 by omega]
    · simp only [if_neg hc] at e1
      simp at e1
      simp [go_sem, e1]
  · rw [open_early he] at e1
    rw [he] at e1
    simp at e1
    simp [go_sem, e1]
theorem spread_nil (a : List Int) : spread [] a = some a := rfl
theorem spread_cons (x : Int) (l a : List Int) : spread (x :: l) a = if 0 < x / 16 ^ 6 then none else spread l (a ++ hex6 x) := by
  unfold spread
  rw [spreadB]
  split
  · rfl
  · rfl
theorem spread_len : ∀ (l a b : List Int), spread l a = some b → b.length = a.length + 6 * l.length := by
  intro l
  induction l with
  | nil => intro a b h; rw [spread_nil] at h; cases h; simp
  | cons x l ih =>
    intro a b h
    rw [spread_cons] at h
    split at h
    · cases h
    · have := ih _ _ h
      simp only [List.length_append, hex6, List.length_cons, List.length_nil] at this ⊢
      omega
theorem refsOf_yes (t : Tx) (l : List Int) (ht : t.length ≤ 1000000) (h : openF t 2 = some l) (h4 : l.length = 4) : E CX 117 [.str t] [] = some (match spread l [] with
    | some b => { val := .tuple [.ref [0, 0, 0, 0] 0 b.length, .bool true], own := [⟨false, 3, 1, b.map (.int .i64), none⟩] }
    | none => { val := .tuple [.nil, .bool false] }) := by
  have e1 := open_E t 2 ht
  obtain ⟨h1, h2, h3⟩ := open_some h
  simp only [openV, h1, h] at e1
  rw [← h2] at e1
  simp at e1
  refine E_fin Tryz.f117 _ an117 rfl rfl rfl Tryz.func117 rfl (by kernel_rfl) ?_
  simp [go_sem, e1, h4]
  refine loop_for (fun X => fin CX _ _ X = _) l (fun n (a : List Int) => a.length = 6 * n) (fun n a => ⟨SS [(6, .ref [21] 0 a.length), (22, .sl 1 (l.map (.int .i64))), (23, .int .i64 4), (24, .int .i64 n)], HS [([21], ⟨false, 3, 1, a.map (.int .i64), none⟩)]⟩)
    (fun r n a => if (spreadB r a).1 = true then (.exit 0, ⟨SS [(6, .ref [21] 0 (spreadB r a).2.length)], HS [([21], ⟨false, 3, 1, (spreadB r a).2.map (.int .i64), none⟩)]⟩) else (.ret, ⟨SS [(2, .nil), (3, .bool false)], HS [([21], ⟨false, 3, 1, (spreadB r a).2.map (.int .i64), none⟩)]⟩)) [] (by simp) ?_ ?_ ?_ ?_ ?_
  · simp [go_sem]
  · intro R n a x r hn hx hd hI hR
    have hx := hx hn
    have hxb := h3 x (by rw [← hx]; exact List.getElem_mem hn)
    have hn4 : (n : Int) < 4 := by omega
    simp [go_sem, hn, hx, hn4]
    refine loop_for (fun X => Back (keepSt an117 0) _ R X) (hex6 x) (fun k (b : List Int × Int) => b.1.length = 6 * n + k ∧ b.2 = x / 16 ^ k) (fun k b => ⟨SS [(6, .ref [21] 0 b.1.length), (8, .int .i64 b.2), (22, .sl 1 (l.map (.int .i64))), (23, .int .i64 4), (24, .int .i64 n), (28, .int .i64 k)], HS [([21], ⟨false, 3, 1, b.1.map (.int .i64), none⟩)]⟩)
      (fun r k b => (.exit 2, ⟨SS [(6, .ref [21] 0 (b.1 ++ r).length), (8, .int .i64 (x / 16 ^ 6)), (22, .sl 1 (l.map (.int .i64))), (23, .int .i64 4), (24, .int .i64 n)], HS [([21], ⟨false, 3, 1, (b.1 ++ r).map (.int .i64), none⟩)]⟩)) (a, x) ⟨by simp [hI], by simp⟩ ?_ ?_ ?_ ?_ ?_
    · simp [go_sem]
    · rintro R' k ⟨b, v⟩ y r' hk hy hdr' ⟨i1, i2⟩ hR'
      simp only at i1 i2
      have hy := hy hk
      have hk6 : k < 6 := hk
      have hy2 : y = v % 16 := by
        rw [← hy, i2]
        have : k = 0 ∨ k = 1 ∨ k = 2 ∨ k = 3 ∨ k = 4 ∨ k = 5 := by omega
        rcases this with rfl | rfl | rfl | rfl | rfl | rfl <;> rfl
      have hv0 : 0 ≤ v := by rw [i2]; exact Int.ediv_nonneg hxb.1 (Int.pow_nonneg (by omega))
      have hv1 : v ≤ 2147483647 := by
        have : v ≤ x := by rw [i2]; exact Int.ediv_le_self _ hxb.1
        omega
      have hv2 : v / 16 = x / 16 ^ (k + 1) := by
        have : k = 0 ∨ k = 1 ∨ k = 2 ∨ k = 3 ∨ k = 4 ∨ k = 5 := by omega
        rw [i2]
        rcases this with rfl | rfl | rfl | rfl | rfl | rfl <;> simp only [Nat.reduceAdd, Int.reducePow, Int.pow_zero] <;> omega
      have e2 : v.tmod 16 = y := by rw [Int.tmod_eq_emod_of_nonneg hv0, hy2]
      have e3 : v.tdiv 16 = v / 16 := Int.tdiv_eq_ediv_of_nonneg hv0
      have := hR' (b ++ [y], v / 16) ⟨by simp only [List.length_append, List.length_singleton]; omega, hv2⟩ (by simp)
      simp [go_sem] at this
      have hk' : (k : Int) < 6 := by omega
      simp [go_sem, hk', e2, e3, wrap_id (n := (k : Int) + 1) (by omega), wrap_id (n := v / 16) (by omega), wrap_id (n := y) (by omega), show b.length + 1 ≤ 1073741824 by omega]
      exact this
    · rintro ⟨b, v⟩ ⟨i1, i2⟩
      simp only at i1 i2
      have : (hex6 x).length = 6 := rfl
      rw [this] at i2 ⊢
      simp [go_sem, i2]
    · intro _; simp
    · by_cases hz : 0 < x / 16 ^ 6
      · simp only [spreadB, if_pos hz]
        simp at hz
        simp [go_sem, hz]
      · have := hR (a ++ hex6 x) (by simp [hex6]; omega) (by simp only [spreadB, if_neg hz])
        simp only [spreadB, if_neg hz]
        simp at hz
        simp [go_sem, hex6] at this
        simp [go_sem, hz, hex6, wrap_id (n := (n : Int) + 1) (by omega), show ¬ 0 < x / 16777216 by omega]
        exact this
  · intro a hI; simp [go_sem, spreadB, h4]
  · intro _; simp [spreadB]
  · unfold spread
    cases hs : (spreadB l []).1 <;> simp [go_sem]
theorem refsOf_E (t : Tx) (ht : t.length ≤ 1000000) : E CX 117 [.str t] [] = some (match refsO t with
    | some b => { val := .tuple [.ref [0, 0, 0, 0] 0 b.length, .bool true], own := [⟨false, 3, 1, b.map (.int .i64), none⟩] }
    | none => { val := .tuple [.nil, .bool false] }) := by
  unfold refsO
  cases ho : openF t 2 with
  | none => exact refsOf_no t ht (by rw [ho]; intro l h; cases h)
  | some l =>
    by_cases h4 : l.length = 4
    · simp only [if_pos h4]
      exact refsOf_yes t l ht ho h4
    · simp only [if_neg h4]
      exact refsOf_no t ht (by rw [ho]; intro l h; cases h; exact h4)
theorem refsO_len {t : Tx} {r : List Int} (h : refsO t = some r) : r.length = 24 := by
  unfold refsO at h
  split at h
  · rename_i l hl
    split at h
    · rename_i h4
      have := spread_len _ _ _ h
      simp only [List.length_nil] at this
      omega
    · cases h
  · cases h
theorem tabO_some {t : Tx} {l : List Int} (h : tabO t = some l) : nilTab t = .sl 1 (l.map (.int .i64)) ∧ tabOK l = true := by
  unfold tabO at h
  split at h
  · rename_i q hq
    split at h
    · rename_i hk
      cases h
      obtain ⟨h1, h2, _⟩ := open_some hq
      unfold nilTab
      rw [h1, ← h2]
      exact ⟨by simp, hk⟩
    · cases h
  · cases h
end Go.Proofs.YtdcgfapededocaaGreat



namespace Go.Proofs.YtdcgfapededocaaGreat
open Go
set_option maxRecDepth 100000
set_option maxHeartbeats 2000000
set_option linter.unusedSimpArgs false
set_option linter.unusedVariables false
section
variable (d : Disk) (h : Int)
/-- What a host reads at a place. -/
def rdA (a : Int) : Tx := rdL d.ss d.ps h a
def snapsB : Nat → List Int → List Snp → Bool × List Snp
  | _, [], a => (true, a)
  | i, n :: r, a => match tabO (rdA d h (12 + i)) with
    | some t => snapsB (i + 1) r (a ++ [⟨unameF n, t⟩])
    | none => (false, a)
def dataB : Nat → List Int → List Int → Bool × List Int
  | _, [], a => (true, a)
  | c, n :: r, a => if n = 0 then dataB (c + 1) r a else match openF (rdA d h (15 + c)) 4 with
    | some [x] => dataB (c + 1) r (a.set c x)
    | _ => (false, a)
def supO : Option (List Int) := match openF (rdA d h 9) 1 with
  | some (k :: ns) => if (ns.length : Int) = k ∧ k ≤ 3 then some ns else none
  | _ => none
/-- The image that sectors tell, if they tell one. -/
def readPI : Option Img := match supO d h with
  | none => none
  | some ns => match refsO (rdA d h 10) with
    | none => none
    | some r => match tabO (rdA d h 11) with
      | none => none
      | some t => if (snapsB d h 0 ns []).1 = true then (if (dataB d h 0 r (List.replicate 24 0)).1 = true then some ⟨r, t, (snapsB d h 0 ns []).2, (dataB d h 0 r (List.replicate 24 0)).2⟩ else none) else none
structure Rd (d : Disk) (h : Int) : Prop where
  ss : d.ss.length = 64
  ps : d.ps.length ≤ 1000000
  len : ∀ a : Int, 0 ≤ a → a < 64 → (rdA d h a).length ≤ 1000000
theorem Rd.read {d : Disk} {h : Int} (g : Rd d h) (a : Int) (h0 : 0 ≤ a) (h1 : a < 64) : E CX 116 [.agg [.sl 1 (d.ss.map .str), .sl 3 (d.ps.map eIo)], .int .i64 h, .int .i64 a] [] = some { val := .str (rdA d h a) } :=
  read_E d h a ⟨h0, by rw [g.ss]; omega⟩ (by have := g.ps; omega)
theorem image_sup (g : Rd d h) (hs : supO d h = none) : E CX 54 [eDisk d, .int .i64 h] [] = some { val := .tuple [.agg [.nil, .nil, .nil, .nil], .bool false] } := by
  have e1 := g.read 9 (by omega) (by omega)
  have hl := g.len 9 (by omega) (by omega)
  have e2 := open_E (rdA d h 9) 1 hl
  simp only [openV] at e2
  unfold supO at hs
  refine E_fin Tryz.f54 _ an54 rfl rfl rfl Tryz.func54 rfl (by kernel_rfl) ?_
  cases he : early (rdA d h 9)
  · rw [open_late he] at e2 hs
    rw [he] at e2
    by_cases hc : openB (rdA d h 9) = true ∧ t0 (rdA d h 9) = 1
    · have hb : ∀ x ∈ LL (rdA d h 9), 0 ≤ x ∧ x ≤ 2147483647 := (open_some (k := 1) (t := rdA d h 9) (by rw [open_late he, if_pos hc])).2.2
      simp only [if_pos hc] at e2 hs
      generalize LL (rdA d h 9) = L at *
      rcases L with _ | ⟨k, ns⟩
      · simp at e2
        simp [go_sem, eDisk, e1, e2]
      · have hk := hb k (by simp)
        by_cases c1 : (ns.length : Int) = k
        · have c2 : ¬ k ≤ 3 := by intro hh; simp [c1, hh] at hs
          simp at e2
          subst c1
          simp [go_sem, eDisk, e1, e2, wrap_id (n := (ns.length : Int) + 1) (by omega), show 3 < (ns.length : Int) by omega, show 3 < ns.length by omega, show ¬ (ns.length : Int) + 1 = 0 by omega]
        · simp at e2
          simp [go_sem, eDisk, e1, e2, wrap_id (n := k + 1) (by omega), c1, show ¬ (ns.length : Int) + 1 = 0 by omega]
    · simp only [if_neg hc] at e2
      simp at e2
      simp [go_sem, eDisk, e1, e2]
  · rw [open_early he] at e2
    rw [he] at e2
    simp at e2
    simp [go_sem, eDisk, e1, e2]
theorem sup_some {d : Disk} {h : Int} {ns : List Int} (hs : supO d h = some ns) : openF (rdA d h 9) 1 = some ((ns.length : Int) :: ns) ∧ ns.length ≤ 3 := by
  unfold supO at hs
  split at hs
  · rename_i k l hk
    split at hs
    · rename_i hc
      cases hs
      rw [hk, hc.1]
      exact ⟨rfl, by omega⟩
    · cases hs
  · cases hs
theorem image_rt (g : Rd d h) (ns : List Int) (hs : supO d h = some ns) (hrt : refsO (rdA d h 10) = none ∨ tabO (rdA d h 11) = none) : E CX 54 [eDisk d, .int .i64 h] [] = some { val := .tuple [.agg [.nil, .nil, .nil, .nil], .bool false] } := by
  have e1 := g.read 9 (by omega) (by omega)
  have e2 := open_E (rdA d h 9) 1 (g.len 9 (by omega) (by omega))
  obtain ⟨ho, h3⟩ := sup_some hs
  obtain ⟨he, hL, hb⟩ := open_some ho
  simp only [openV, he, ho, ← hL] at e2
  simp at e2
  have r1 := g.read 10 (by omega) (by omega)
  have r2 := refsOf_E (rdA d h 10) (g.len 10 (by omega) (by omega))
  have t1 := g.read 11 (by omega) (by omega)
  have t2 := tableOf_E (rdA d h 11) (g.len 11 (by omega) (by omega))
  have ht : ∀ f, (nilTab (rdA d h 11)).kill f = nilTab (rdA d h 11) := by intro f; unfold nilTab; cases early (rdA d h 11) <;> simp [go_sem]
  refine E_fin Tryz.f54 _ an54 rfl rfl rfl Tryz.func54 rfl (by kernel_rfl) ?_
  cases hr : refsO (rdA d h 10) with
  | none =>
    rw [hr] at r2
    unfold nilTab at t2
    cases he2 : early (rdA d h 11) <;> rw [he2] at t2 <;> simp at t2 <;> simp [go_sem, eDisk, e1, e2, r1, r2, t1, t2, wrap_id (n := (ns.length : Int) + 1) (by omega), show ¬ 3 < (ns.length : Int) by omega, show ¬ 3 < ns.length by omega, show ¬ (ns.length : Int) + 1 = 0 by omega]
  | some r =>
    rw [hr] at r2
    have htn : tabO (rdA d h 11) = none := by
      rcases hrt with hh | hh
      · rw [hr] at hh; cases hh
      · exact hh
    rw [htn] at t2
    have hr24 := refsO_len hr
    unfold nilTab at t2
    cases he2 : early (rdA d h 11) <;> rw [he2] at t2 <;> simp at t2 <;> simp at r2 <;> simp [go_sem, eDisk, e1, e2, r1, r2, t1, t2, wrap_id (n := (ns.length : Int) + 1) (by omega), show ¬ 3 < (ns.length : Int) by omega, show ¬ 3 < ns.length by omega, show ¬ (ns.length : Int) + 1 = 0 by omega]
end
end Go.Proofs.YtdcgfapededocaaGreat



namespace Go.Proofs.YtdcgfapededocaaGreat
open Go
set_option maxRecDepth 100000
set_option linter.unusedSimpArgs false
set_option linter.unusedVariables false
end Go.Proofs.YtdcgfapededocaaGreat



namespace Go.Proofs.YtdcgfapededocaaGreat
open Go
set_option maxRecDepth 100000
set_option maxHeartbeats 1000000
set_option linter.unusedSimpArgs false
set_option linter.unusedVariables false
/-! Names. -/
theorem nameN_app : ∀ (t : Tx) (n : Int) (b : UInt8), nameN (t ++ [b]) n = 27 * nameN t n + ((b.toNat : Int) - 97) + 1 := by
  intro t
  induction t with
  | nil => intro n b; rfl
  | cons a t ih => intro n b; simp only [List.cons_append, nameN]; rw [ih]
section
variable (m : Img) (hm : imgOK m = true) (d : Disk) (h : Int) (hU : ∀ u ∈ upsF m, rdA d h u.at_ = u.data)
include hm hU
end
end Go.Proofs.YtdcgfapededocaaGreat



namespace Go.Proofs.YtdcgfapededocaaGreat
open Go
set_option maxRecDepth 100000
set_option maxHeartbeats 2000000
set_option linter.unusedSimpArgs false
set_option linter.unusedVariables false
/-- The reference's name of a number. -/
def sun (n : Nat) (out : Tx) : Tx := if h : n = 0 then out else sun (n / 27) (UInt8.ofNat (97 + (n + 26) % 27) :: out)
termination_by n
decreasing_by omega
theorem sun_zero (out : Tx) : sun 0 out = out := by rw [sun]; simp
theorem sun_pos {n : Nat} (h : n ≠ 0) (out : Tx) : sun n out = sun (n / 27) (UInt8.ofNat (97 + (n + 26) % 27) :: out) := by
  conv => lhs; rw [sun]
  rw [dif_neg h]
theorem sun_app (n : Nat) : ∀ out, sun n out = sun n [] ++ out := by
  induction n using Nat.strongRecOn with
  | ind n ih =>
    intro out
    by_cases h : n = 0
    · subst h; rw [sun_zero, sun_zero]; rfl
    · rw [sun_pos h, sun_pos h [], ih (n / 27) (by omega), ih (n / 27) (by omega) [_]]
      simp
theorem unameO_zero (out : Tx) : unameO 0 out = some out := by rw [unameO]; simp
theorem unameO_pos {n : Nat} (h : n ≠ 0) (out : Tx) : unameO n out = if n % 27 = 0 then none else unameO (n / 27) (UInt8.ofNat (96 + n % 27) :: out) := by
  conv => lhs; rw [unameO]
  rw [dif_neg h]
theorem unameO_app (n : Nat) : ∀ out, unameO n out = (unameO n []).map (· ++ out) := by
  induction n using Nat.strongRecOn with
  | ind n ih =>
    intro out
    by_cases h : n = 0
    · subst h; rw [unameO_zero, unameO_zero]; rfl
    · rw [unameO_pos h, unameO_pos h []]
      split
      · rfl
      · rw [ih (n / 27) (by omega), ih (n / 27) (by omega) [_]]
        cases unameO (n / 27) [] <;> simp
theorem ch_nat {k : Nat} (h : k ≤ 123) : (UInt8.ofNat k).toNat = k := by
  rw [UInt8.toNat_ofNat']; omega
theorem sun_ch (n : Nat) : ∀ b ∈ sun n [], 97 ≤ b.toNat ∧ b.toNat ≤ 123 := by
  induction n using Nat.strongRecOn with
  | ind n ih =>
    intro b hb
    by_cases h : n = 0
    · subst h; rw [sun_zero] at hb; cases hb
    · rw [sun_pos h, sun_app] at hb
      rcases List.mem_append.1 hb with hb | hb
      · exact ih (n / 27) (by omega) b hb
      · simp only [List.mem_singleton] at hb
        subst hb
        rw [ch_nat (by omega)]; omega
theorem sun_len : ∀ (k n : Nat), n < 27 ^ k → (sun n []).length ≤ k := by
  intro k
  induction k with
  | zero => intro n h; have : n = 0 := by simpa using h
            subst this; rw [sun_zero]; simp
  | succ k ih =>
    intro n h
    by_cases h0 : n = 0
    · subst h0; rw [sun_zero]; simp
    · rw [sun_pos h0, sun_app]
      have := ih (n / 27) (by rw [Nat.pow_succ] at h; omega)
      simp; omega
/-- A number's name is its own only where the number is one's. -/
theorem sun_val (n : Nat) : (n : Int) ≤ nameN (sun n []) 0 ∧ (nameN (sun n []) 0 = n ↔ (unameO n []).isSome = true) ∧ ∀ t, unameO n [] = some t → t = sun n [] := by
  induction n using Nat.strongRecOn with
  | ind n ih =>
    by_cases h : n = 0
    · subst h; rw [sun_zero, unameO_zero]
      refine ⟨by decide, by simp [nameN], fun t ht => by cases ht; rfl⟩
    · obtain ⟨i1, i2, i3⟩ := ih (n / 27) (by omega)
      have hs : sun n [] = sun (n / 27) [] ++ [UInt8.ofNat (97 + (n + 26) % 27)] := by rw [sun_pos h, sun_app]
      have hc : ((UInt8.ofNat (97 + (n + 26) % 27)).toNat : Int) = 97 + ((n + 26) % 27 : Nat) := by rw [ch_nat (by omega)]; omega
      rw [hs, nameN_app, hc]
      rw [unameO_pos h]
      by_cases hr : n % 27 = 0
      · rw [if_pos hr]
        refine ⟨by omega, ⟨fun he => by omega, fun he => by cases he⟩, fun t ht => by cases ht⟩
      · rw [if_neg hr, unameO_app]
        have e96 : 96 + n % 27 = 97 + (n + 26) % 27 := by omega
        rw [e96]
        refine ⟨by omega, ⟨fun he => ?_, fun he => ?_⟩, fun t ht => ?_⟩
        · have : nameN (sun (n / 27) []) 0 = ((n / 27 : Nat) : Int) := by omega
          have := i2.1 this
          cases hu : unameO (n / 27) [] with
          | none => rw [hu] at this; cases this
          | some u => simp
        · have : (unameO (n / 27) []).isSome = true := by
            cases hu : unameO (n / 27) [] with
            | none => rw [hu] at he; cases he
            | some u => rfl
          have := i2.2 this
          omega
        · cases hu : unameO (n / 27) [] with
          | none => rw [hu] at ht; cases ht
          | some u =>
            rw [hu] at ht
            simp only [Option.map_some, Option.some.injEq] at ht
            rw [← ht, i3 u hu]
/-- The name, by the reference. -/
def sname (n : Int) : Tx := sun n.toNat []
def goodN (n : Int) : Bool := (unameO n.toNat []).isSome
theorem sUnname_E (k : Int) (h : 0 ≤ k ∧ k ≤ 2147483647) : E CX 111 [.int .i64 k] [] = some { val := .str (sname k) } := by
  obtain ⟨m, rfl⟩ : ∃ m : Nat, k = m := ⟨k.toNat, by omega⟩
  have hl := sun_len 7 m (by omega)
  refine E_fin Tryz.f111 _ an111 rfl rfl rfl Tryz.func111 rfl (by kernel_rfl) ?_
  simp [go_sem]
  refine loop_at (fun X => fin CX _ _ X = _) (fun x : Nat × Tx => x.1 ≤ 2147483647 ∧ x.2.length + x.1 ≤ 1099511627776) (fun x => ⟨SS [(0, .int .i64 x.1), (3, .str x.2)], HE⟩) (fun x => (.exit 0, ⟨SS [(3, .str (sun x.1 x.2))], HE⟩)) (fun x => x.1) (m, []) (by simp; omega) ?_ ?_ ?_
  · simp [go_sem]
  · rintro ⟨j, out⟩ ⟨hI0, hI⟩
    simp only at hI hI0
    by_cases hj : j = 0
    · subst hj
      simp [go_sem, sun_zero]
    · simp only [sun_pos hj]
      have e2 : ((j : Int) + 26).tmod 27 = (((j + 26) % 27 : Nat) : Int) := by rw [Int.tmod_eq_emod_of_nonneg (by omega)]; omega
      have e3 : ((j : Int).tdiv 27) = ((j / 27 : Nat) : Int) := by rw [Int.tdiv_eq_ediv_of_nonneg (by omega)]; omega
      obtain ⟨r, hr⟩ : ∃ r, r = (j + 26) % 27 := ⟨_, rfl⟩
      obtain ⟨q, hq⟩ : ∃ q, q = j / 27 := ⟨_, rfl⟩
      rw [← hr] at e2 ⊢
      rw [← hq] at e3 ⊢
      have hr27 : r < 27 := by omega
      have hqj : q < j := by omega
      obtain ⟨bb, hbb⟩ : ∃ bb : UInt8, bb = UInt8.ofNat (97 + r) := ⟨_, rfl⟩
      rw [← hbb]
      have e4 : IntKind.i64.wrap (97 + (r : Int)) = 97 + (r : Int) := wrap_id (by omega)
      have e6 : (97 + (r : Int)) % 256 = (bb.toNat : Int) := by rw [hbb, UInt8.toNat_ofNat']; omega
      have e7 : IntKind.i64.wrap (q : Int) = q := wrap_id (by omega)
      have e8 : IntKind.i64.wrap ((j : Int) + 26) = (j : Int) + 26 := wrap_id (by omega)
      have e10 : IntKind.i64.wrap (r : Int) = r := wrap_id (by omega)
      simp [go_sem, Nat.pos_of_ne_zero hj, e2, e3, e4, e6, e7, e8, e10, show 1 + out.length ≤ 4611686018427387904 by omega]
      have e9 : byteOf (97 + (r : Int)) = bb := by
        rw [hbb]; unfold byteOf; congr 1; omega
      exact ⟨q, bb :: out, ⟨by omega, by simp only [List.length_cons]; omega⟩, hqj, by rw [e9], rfl⟩
  · simp [go_sem, sname]
theorem sNameG_E (t : Tx) (h : t.length ≤ 7) (hb : ∀ b ∈ t, 97 ≤ b.toNat ∧ b.toNat ≤ 123) : E CX 110 [.str t] [] = some { val := .int .i64 (nameN t 0) } := by
  refine E_fin Tryz.f110 _ an110 rfl rfl rfl Tryz.func110 rfl (by kernel_rfl) ?_
  simp [go_sem]
  refine loop_for (fun X => fin CX _ _ X = _) t (fun n (a : Int) => 0 ≤ a ∧ a < 28 ^ n ∧ n ≤ 7) (fun n a => ⟨SS [(0, .str t), (3, .int .i64 a), (4, .int .i64 n)], HE⟩) (fun r n a => (.exit 0, ⟨SS [(3, .int .i64 (nameN r a))], HE⟩)) 0 (by decide) ?_ ?_ ?_ ?_ ?_
  · simp [go_sem]
  · intro R n a b r hn hx hd hI hR
    have hx := hx hn
    obtain ⟨h1, h2⟩ := hb b (by rw [← hx]; exact List.getElem_mem _)
    obtain ⟨i1, i2, i3⟩ := hI
    have hp : (28 : Int) ^ n ≤ 28 ^ 7 := by
      have := Nat.pow_le_pow_right (n := 28) (by omega) i3
      exact_mod_cast this
    have hp2 : (28 : Int) ^ (n + 1) = 28 ^ n * 28 := Int.pow_succ _ _
    have := hR (27 * a + ((b.toNat : Int) - 97) + 1) ⟨by omega, by omega, by omega⟩ (by simp [nameN])
    simp [go_sem] at this
    simp [go_sem, hn, hx, wrap_byte, wrap_id (n := (n : Int) + 1) (by omega), wrap_id (n := 27 * a) (by omega), wrap_id (n := 27 * a + ((b.toNat : Int) - 97)) (by omega), wrap_id (n := 27 * a + ((b.toNat : Int) - 97) + 1) (by omega), u8_id (n := (b.toNat : Int) - 97) (by omega), wrap_id (n := (b.toNat : Int) - 97) (by omega)]
    exact this
  · intro _ _; simp [go_sem, nameN]
  · intro _; simp
  · simp [go_sem]
theorem sname_ok (k : Int) (h : 0 ≤ k ∧ k ≤ 2147483647) : E CX 110 [.str (sname k)] [] = some { val := .int .i64 (nameN (sname k) 0) } ∧ (nameN (sname k) 0 = k ↔ goodN k = true) ∧ (goodN k = true → sname k = unameF k) ∧ (goodN k = false → unameF k = []) := by
  obtain ⟨m, rfl⟩ : ∃ m : Nat, k = m := ⟨k.toNat, by omega⟩
  obtain ⟨v1, v2, v3⟩ := sun_val m
  unfold sname goodN unameF
  rw [Int.toNat_natCast]
  refine ⟨sNameG_E _ (sun_len 7 m (by omega)) (sun_ch m), v2, fun hg => ?_, fun hg => ?_⟩
  · cases hu : unameO m [] with
    | none => rw [hu] at hg; cases hg
    | some t => rw [v3 t hu]; rfl
  · cases hu : unameO m [] with
    | none => rfl
    | some t => rw [hu] at hg; cases hg
theorem sTable_E (t : Tx) (ht : t.length ≤ 1000000) : E CX 109 [.str t] [] = some (match tabO t with
    | some l => { val := .tuple [.sl 1 (l.map (.int .i64)), .bool true] }
    | none => { val := .tuple [.ref [0, 0, 0, 0] 0 0, .bool false], own := [⟨false, 3, 1, [], none⟩] }) := by
  have e1 := l02Open_E t 3 ht
  unfold tabO
  refine E_fin Tryz.f109 _ an109 rfl rfl rfl Tryz.func109 rfl (by kernel_rfl) ?_
  cases ho : openF t 3 with
  | none =>
    rw [ho] at e1
    simp [go_sem, e1]
  | some l =>
    rw [ho] at e1
    have hll : l.length ≤ 1073741824 := by
      obtain ⟨_, h2, _⟩ := open_some ho
      rw [h2]; unfold LL; simp; omega
    have e2 := sTableOK_E l hll
    cases hk : tabOK l <;> rw [hk] at e2 <;> simp [go_sem, e1, e2, hk]
end Go.Proofs.YtdcgfapededocaaGreat



namespace Go.Proofs.YtdcgfapededocaaGreat
open Go
set_option maxRecDepth 100000
set_option maxHeartbeats 2000000
set_option linter.unusedSimpArgs false
set_option linter.unusedVariables false
theorem sRefs_no (t : Tx) (ht : t.length ≤ 1000000) (h : ∀ l, openF t 2 = some l → l.length ≠ 4) : E CX 108 [.str t] [] = some { val := .tuple [.ref [0, 0, 0, 0] 0 0, .bool false], own := [⟨false, 3, 1, [], none⟩] } := by
  have e1 := l02Open_E t 2 ht
  refine E_fin Tryz.f108 _ an108 rfl rfl rfl Tryz.func108 rfl (by kernel_rfl) ?_
  cases ho : openF t 2 with
  | none =>
    rw [ho] at e1
    simp [go_sem, e1]
  | some l =>
    rw [ho] at e1
    have hl := h l ho
    simp [go_sem, e1, hl, show ¬ (l.length : Int) = 4 by omega]
theorem sRefs_yes (t : Tx) (l : List Int) (ht : t.length ≤ 1000000) (h : openF t 2 = some l) (h4 : l.length = 4) : E CX 108 [.str t] [] = some (match spread l [] with
    | some b => { val := .tuple [.ref [0, 0, 0, 0] 0 b.length, .bool true], own := [⟨false, 3, 1, b.map (.int .i64), none⟩] }
    | none => { val := .tuple [.ref [0, 0, 0, 0] 0 0, .bool false], own := [⟨false, 3, 1, [], none⟩] }) := by
  have e1 := l02Open_E t 2 ht
  obtain ⟨h1, h2, h3⟩ := open_some h
  rw [h] at e1
  simp only at e1
  refine E_fin Tryz.f108 _ an108 rfl rfl rfl Tryz.func108 rfl (by kernel_rfl) ?_
  simp [go_sem, e1, h4]
  refine loop_for (fun X => fin CX _ _ X = _) l (fun n (a : List Int) => a.length = 6 * n) (fun n a => ⟨SS [(4, .sl 1 (l.map (.int .i64))), (6, .ref [23] 0 a.length), (7, .int .i64 n)], HS [([23], ⟨false, 3, 1, a.map (.int .i64), none⟩)]⟩)
    (fun r n a => if (spreadB r a).1 = true then (.exit 0, ⟨SS [(6, .ref [23] 0 (spreadB r a).2.length)], HS [([23], ⟨false, 3, 1, (spreadB r a).2.map (.int .i64), none⟩)]⟩) else (.ret, ⟨SS [(2, .ref [47] 0 0), (3, .bool false)], HS [([23], ⟨false, 3, 1, (spreadB r a).2.map (.int .i64), none⟩), ([47], ⟨false, 3, 1, [], none⟩)]⟩)) [] (by simp) ?_ ?_ ?_ ?_ ?_
  · simp [go_sem]
  · intro R n a x r hn hx hd hI hR
    have hx := hx hn
    have hxb := h3 x (by rw [← hx]; exact List.getElem_mem hn)
    have hn4 : (n : Int) < 4 := by omega
    simp [go_sem, hn, hx]
    refine loop_for (fun X => Back (keepSt an108 0) _ R X) (hex6 x) (fun k (b : List Int × Int) => b.1.length = 6 * n + k ∧ b.2 = x / 16 ^ k) (fun k b => ⟨SS [(4, .sl 1 (l.map (.int .i64))), (6, .ref [23] 0 b.1.length), (7, .int .i64 n), (8, .int .i64 b.2), (9, .int .i64 k)], HS [([23], ⟨false, 3, 1, b.1.map (.int .i64), none⟩)]⟩)
      (fun r k b => (.exit 2, ⟨SS [(4, .sl 1 (l.map (.int .i64))), (6, .ref [23] 0 (b.1 ++ r).length), (7, .int .i64 n), (8, .int .i64 (x / 16 ^ 6))], HS [([23], ⟨false, 3, 1, (b.1 ++ r).map (.int .i64), none⟩)]⟩)) (a, x) ⟨by simp [hI], by simp⟩ ?_ ?_ ?_ ?_ ?_
    · simp [go_sem]
    · rintro R' k ⟨b, v⟩ y r' hk hy hdr' ⟨i1, i2⟩ hR'
      simp only at i1 i2
      have hy := hy hk
      have hk6 : k < 6 := hk
      have hy2 : y = v % 16 := by
        rw [← hy, i2]
        have : k = 0 ∨ k = 1 ∨ k = 2 ∨ k = 3 ∨ k = 4 ∨ k = 5 := by omega
        rcases this with rfl | rfl | rfl | rfl | rfl | rfl <;> rfl
      have hv0 : 0 ≤ v := by rw [i2]; exact Int.ediv_nonneg hxb.1 (Int.pow_nonneg (by omega))
      have hv1 : v ≤ 2147483647 := by
        have : v ≤ x := by rw [i2]; exact Int.ediv_le_self _ hxb.1
        omega
      have hv2 : v / 16 = x / 16 ^ (k + 1) := by
        have : k = 0 ∨ k = 1 ∨ k = 2 ∨ k = 3 ∨ k = 4 ∨ k = 5 := by omega
        rw [i2]
        rcases this with rfl | rfl | rfl | rfl | rfl | rfl <;> simp only [Nat.reduceAdd, Int.reducePow, Int.pow_zero] <;> omega
      have e2 : v.tmod 16 = y := by rw [Int.tmod_eq_emod_of_nonneg hv0, hy2]
      have e3 : v.tdiv 16 = v / 16 := Int.tdiv_eq_ediv_of_nonneg hv0
      have := hR' (b ++ [y], v / 16) ⟨by simp only [List.length_append, List.length_singleton]; omega, hv2⟩ (by simp)
      simp [go_sem] at this
      have hk' : (k : Int) < 6 := by omega
      simp [go_sem, hk', e2, e3, wrap_id (n := (k : Int) + 1) (by omega), wrap_id (n := v / 16) (by omega), wrap_id (n := y) (by omega), show b.length + 1 ≤ 1073741824 by omega]
      exact this
    · rintro ⟨b, v⟩ ⟨i1, i2⟩
      simp only at i1 i2
      have : (hex6 x).length = 6 := rfl
      rw [this] at i2 ⊢
      simp [go_sem, i2]
    · intro _; simp
    · by_cases hz : 0 < x / 16 ^ 6
      · simp only [spreadB, if_pos hz]
        simp at hz
        simp [go_sem, hz]
      · have := hR (a ++ hex6 x) (by simp [hex6]; omega) (by simp only [spreadB, if_neg hz])
        simp only [spreadB, if_neg hz]
        simp at hz
        simp [go_sem, hex6] at this
        simp [go_sem, hz, hex6, wrap_id (n := (n : Int) + 1) (by omega), show ¬ 0 < x / 16777216 by omega]
        exact this
  · intro a hI; simp [go_sem, spreadB, h4]
  · intro _; simp [spreadB]
  · unfold spread
    cases hs : (spreadB l []).1 <;> simp [go_sem]
theorem sRefs_E (t : Tx) (ht : t.length ≤ 1000000) : E CX 108 [.str t] [] = some (match refsO t with
    | some b => { val := .tuple [.ref [0, 0, 0, 0] 0 b.length, .bool true], own := [⟨false, 3, 1, b.map (.int .i64), none⟩] }
    | none => { val := .tuple [.ref [0, 0, 0, 0] 0 0, .bool false], own := [⟨false, 3, 1, [], none⟩] }) := by
  unfold refsO
  cases ho : openF t 2 with
  | none => exact sRefs_no t ht (by rw [ho]; intro l h; cases h)
  | some l =>
    by_cases h4 : l.length = 4
    · simp only [if_pos h4]
      exact sRefs_yes t l ht ho h4
    · simp only [if_neg h4]
      exact sRefs_no t ht (by rw [ho]; intro l h; cases h; exact h4)
end Go.Proofs.YtdcgfapededocaaGreat



namespace Go.Proofs.YtdcgfapededocaaGreat
open Go
set_option maxRecDepth 100000
set_option maxHeartbeats 4000000
set_option linter.unusedSimpArgs false
set_option linter.unusedVariables false
theorem open_yes {t : Tx} {k : Int} {l : List Int} (ht : t.length ≤ 1000000) (h : openF t k = some l) : E CX 115 [.str t, .int .i64 k] [] = some { val := .tuple [.sl 1 (l.map (.int .i64)), .bool true] } := by
  have e := open_E t k ht
  obtain ⟨h1, h2, _⟩ := open_some h
  simp only [openV, h1, h, ← h2] at e
  simpa using e
theorem open_no {t : Tx} {k : Int} (ht : t.length ≤ 1000000) (h : openF t k = none) : E CX 115 [.str t, .int .i64 k] [] = some { val := .tuple [if early t then .nil else .sl 1 ((LL t).map (.int .i64)), .bool false] } := by
  have e := open_E t k ht
  simp only [openV, h] at e
  simpa using e
/-- The answer: an image and whether it is right. -/
def resIm (m : Img) (b : Bool) : Res := if m.snaps = [] then { val := .tuple [.agg [.sl 1 (m.refs.map (.int .i64)), .sl 1 (m.tab.map (.int .i64)), .nil, .ref [0, 0, 0, 0] 0 m.data.length], .bool b], own := [rI m.data] }
  else { val := .tuple [.agg [.sl 1 (m.refs.map (.int .i64)), .sl 1 (m.tab.map (.int .i64)), .ref [0, 0, 0, 0] 0 m.snaps.length, .ref [1, 0, 0, 0] 0 m.data.length], .bool b], own := [rSp m.snaps, rI m.data] }
def resIx : Res := { val := .tuple [.agg [.nil, .nil, .nil, .nil], .bool false] }
/-- What is held while the image is read. -/
def stIm (d : Disk) (r t : List Int) (s : List Snp) (a : List Int) : List (Id × Blk) := match s with
  | [] => [([2], ⟨true, 41, 2, [eDisk d], none⟩), ([4], ⟨true, 89, 4, [.agg [.nil, .nil, .nil, .nil]], none⟩), ([8], ⟨true, 89, 4, [.agg [.sl 1 (r.map (.int .i64)), .sl 1 (t.map (.int .i64)), .nil, .ref [49] 0 24]], none⟩), ([49], rI a)]
  | x :: s => [([2], ⟨true, 41, 2, [eDisk d], none⟩), ([4], ⟨true, 89, 4, [.agg [.nil, .nil, .nil, .nil]], none⟩), ([8], ⟨true, 89, 4, [.agg [.sl 1 (r.map (.int .i64)), .sl 1 (t.map (.int .i64)), .ref [101] 0 (x :: s).length, .ref [49] 0 24]], none⟩), ([49], rI a), ([101], rSp (x :: s))]
/-- What is left where it is given up. -/
def stRt (s : List Snp) (a : List Int) : List (Id × Blk) := match s with
  | [] => [([4], ⟨true, 89, 4, [.agg [.nil, .nil, .nil, .nil]], none⟩), ([49], rI a)]
  | x :: s => [([4], ⟨true, 89, 4, [.agg [.nil, .nil, .nil, .nil]], none⟩), ([49], rI a), ([101], rSp (x :: s))]
/-- What is left when all is read. -/
def stIz (r t : List Int) (s : List Snp) (a : List Int) : List (Id × Blk) := match s with
  | [] => [([4], ⟨true, 89, 4, [.agg [.nil, .nil, .nil, .nil]], none⟩), ([8], ⟨true, 89, 4, [.agg [.sl 1 (r.map (.int .i64)), .sl 1 (t.map (.int .i64)), .nil, .ref [49] 0 24]], none⟩), ([49], rI a)]
  | x :: s => [([4], ⟨true, 89, 4, [.agg [.nil, .nil, .nil, .nil]], none⟩), ([8], ⟨true, 89, 4, [.agg [.sl 1 (r.map (.int .i64)), .sl 1 (t.map (.int .i64)), .ref [101] 0 (x :: s).length, .ref [49] 0 24]], none⟩), ([49], rI a), ([101], rSp (x :: s))]
section
variable (d : Disk) (h : Int)
theorem dataB_len : ∀ (r : List Int) (c : Nat) (a : List Int), (dataB d h c r a).2.length = a.length := by
  intro r
  induction r with
  | nil => intro c a; rfl
  | cons x r ih =>
    intro c a
    unfold dataB
    split
    · exact ih _ _
    · split
      · rw [ih]; simp
      · rfl
theorem unameF_len {n : Int} (h : 0 ≤ n ∧ n ≤ 2147483647) : (unameF n).length ≤ 2147483647 := by
  unfold unameF
  cases hu : unameO n.toNat [] with
  | none => simp
  | some t => have := unameO_len _ _ _ hu; simp at this ⊢; omega
theorem snapsB_bd : ∀ (q : List Int) (i : Nat) (a : List Snp), (∀ x ∈ q, 0 ≤ x ∧ x ≤ 2147483647) → (∀ s ∈ a, s.name.length ≤ 2147483647 ∧ s.tab.length ≤ 12) →
    (∀ s ∈ (snapsB d h i q a).2, s.name.length ≤ 2147483647 ∧ s.tab.length ≤ 12) ∧ (snapsB d h i q a).2.length ≤ a.length + q.length := by
  intro q
  induction q with
  | nil => intro i a _ ha; exact ⟨ha, by simp [snapsB]⟩
  | cons x q ih =>
    intro i a hq ha
    unfold snapsB
    split
    · rename_i t ht
      have hk := (tabO_some ht).2
      simp only [tabOK, Bool.and_eq_true, decide_eq_true_eq] at hk
      obtain ⟨i1, i2⟩ := ih (i + 1) (a ++ [⟨unameF x, t⟩]) (fun y hy => hq y (by simp [hy])) (by
        intro s hs
        rcases List.mem_append.1 hs with hs | hs
        · exact ha s hs
        · simp only [List.mem_singleton] at hs
          subst hs
          exact ⟨unameF_len (hq x (by simp)), hk.1⟩)
      exact ⟨i1, by simp only [List.length_append, List.length_cons, List.length_nil] at i2 ⊢; omega⟩
    · exact ⟨ha, by simp⟩
theorem image_main (g : Rd d h) (ns r t : List Int) (hs : supO d h = some ns) (hr : refsO (rdA d h 10) = some r) (ht : tabO (rdA d h 11) = some t) : E CX 54 [eDisk d, .int .i64 h] [] = some (if (snapsB d h 0 ns []).1 = true then (if (dataB d h 0 r (List.replicate 24 0)).1 = true then resIm ⟨r, t, (snapsB d h 0 ns []).2, (dataB d h 0 r (List.replicate 24 0)).2⟩ (imgOK ⟨r, t, (snapsB d h 0 ns []).2, (dataB d h 0 r (List.replicate 24 0)).2⟩) else resIx) else resIx) := by
  have hsB := snapsB_bd d h ns 0 [] (fun x hx => (open_some (sup_some hs).1).2.2 x (List.mem_cons_of_mem _ hx)) (by simp)
  have hdB := dataB_len d h r 0 (List.replicate 24 0)
  have e1 := g.read 9 (by omega) (by omega)
  have e2 := open_E (rdA d h 9) 1 (g.len 9 (by omega) (by omega))
  obtain ⟨ho, h3⟩ := sup_some hs
  obtain ⟨he, hL, hb⟩ := open_some ho
  simp only [openV, he, ho, ← hL] at e2
  simp at e2
  have r1 := g.read 10 (by omega) (by omega)
  have r2 := refsOf_E (rdA d h 10) (g.len 10 (by omega) (by omega))
  have t1 := g.read 11 (by omega) (by omega)
  have t2 := tableOf_E (rdA d h 11) (g.len 11 (by omega) (by omega))
  obtain ⟨hnt, hk⟩ := tabO_some ht
  rw [hr] at r2
  rw [hnt, ht] at t2
  have hr24 := refsO_len hr
  have ht12 : t.length ≤ 12 := by simp [tabOK] at hk; exact hk.1
  simp at t2
  simp at r2
  refine E_fin Tryz.f54 _ an54 rfl rfl rfl Tryz.func54 rfl (by kernel_rfl) ?_
  simp [go_sem, eDisk, e1, e2, r1, r2, t1, t2, wrap_id (n := (ns.length : Int) + 1) (by omega), show ¬ 3 < (ns.length : Int) by omega, show ¬ 3 < ns.length by omega, show ¬ (ns.length : Int) + 1 = 0 by omega, -List.reduceReplicate]
  refine loop_for (fun X => fin CX _ _ X = _) ns (fun n (a : List Snp) => a.length = n) (fun n a => ⟨SS [(1, .int .i64 h), (2, .ptr [2] 0 0), (4, .ptr [4] 0 0), (8, .ptr [8] 0 0), (75, .sl 1 (ns.map (.int .i64))), (76, .int .i64 ns.length), (77, .int .i64 n)], HS (stIm d r t a (List.replicate 24 0))⟩)
    (fun q n a => if (snapsB d h n q a).1 = true then (.exit 0, ⟨SS [(1, .int .i64 h), (2, .ptr [2] 0 0), (4, .ptr [4] 0 0), (8, .ptr [8] 0 0)], HS (stIm d r t (snapsB d h n q a).2 (List.replicate 24 0))⟩) else (.ret, ⟨SS [(4, .ptr [4] 0 0), (5, .bool false)], HS (stRt (snapsB d h n q a).2 (List.replicate 24 0))⟩)) ([] : List Snp) rfl ?_ ?_ ?_ ?_ ?_
  · simp [go_sem, stIm, rI, eDisk, -List.reduceReplicate]
  · intro R n a x q hn hx hd hI hR
    have hx := hx hn
    have hxb := hb x (List.mem_cons_of_mem _ (by rw [← hx]; exact List.getElem_mem hn))
    have e3 := g.read (12 + n) (by omega) (by omega)
    have e4 := tableOf_E (rdA d h (12 + n)) (g.len (12 + n) (by omega) (by omega))
    have e5 := unpackName_E x (by omega)
    cases htn : tabO (rdA d h (12 + n)) with
    | none =>
      rw [htn] at e4
      simp only [snapsB, htn]
      unfold nilTab at e4
      rcases a with _ | ⟨y, a⟩ <;> cases he2 : early (rdA d h (12 + n)) <;> rw [he2] at e4 <;> simp at e4 <;> simp [go_sem, stIm, stRt, rI, rSp, eDisk, hn, hx, e3, e4, wrap_id (n := 12 + (n : Int)) (by omega), -List.reduceReplicate]
    | some tb =>
      obtain ⟨hnt2, hk2⟩ := tabO_some htn
      rw [hnt2, htn] at e4
      simp at e4
      have := hR (a ++ [⟨unameF x, tb⟩]) (by simp; omega) (by simp only [snapsB, htn])
      simp only [snapsB, htn]
      generalize hS : snapsB d h (n + 1) q (a ++ [⟨unameF x, tb⟩]) = S at *
      rcases a with _ | ⟨y, a⟩
      · simp [go_sem, stIm, rI, rSp, eSnp, eDisk, -List.reduceReplicate] at this
        simp at hI
        simp [go_sem, stIm, rI, rSp, eSnp, eDisk, hn, hx, e3, e4, e5, wrap_id (n := (n : Int) + 1) (by omega), wrap_id (n := 12 + (n : Int)) (by omega), -List.reduceReplicate]
        exact this
      · simp [go_sem, stIm, rI, rSp, eSnp, eDisk, -List.reduceReplicate] at this
        simp at hI
        simp [go_sem, stIm, rI, rSp, eSnp, eDisk, hn, hx, e3, e4, e5, wrap_id (n := (n : Int) + 1) (by omega), wrap_id (n := 12 + (n : Int)) (by omega), show a.length + 1 + 1 ≤ 1073741824 by omega, -List.reduceReplicate]
        exact this
  · intro a hI
    rcases a with _ | ⟨y, a⟩ <;> simp [go_sem, snapsB, stIm, rI, rSp, eDisk, -List.reduceReplicate]
  · intro _; split <;> simp
  by_cases hsb : (snapsB d h 0 ns []).1 = true
  case neg =>
    rw [if_neg hsb, if_neg hsb]
    generalize (snapsB d h 0 ns []).2 = s at *
    rcases s with _ | ⟨y, s⟩ <;> simp [go_sem, stRt, rI, rSp, resIx]
  rw [if_pos hsb, if_pos hsb]
  generalize (snapsB d h 0 ns []).2 = s at *
  have hz : List.replicate 24 (AV.int .i64 0) = (List.replicate 24 (0 : Int)).map (.int .i64) := rfl
  have h24 : (List.replicate 24 (0 : Int)).length = 24 := rfl
  generalize List.replicate 24 (0 : Int) = a0 at *
  rcases s with _ | ⟨y, s⟩
  · simp [go_sem, stIm, rI, rSp, eDisk, hz, -List.reduceReplicate]
    refine loop_for (fun X => fin CX _ _ X = _) r (fun n (a : List Int) => a.length = 24) (fun n a => ⟨SS [(1, .int .i64 h), (2, .ptr [2] 0 0), (4, .ptr [4] 0 0), (8, .ptr [8] 0 0), (105, .sl 1 (r.map (.int .i64))), (106, .int .i64 r.length), (107, .int .i64 n)], HS (stIm d r t [] a)⟩)
      (fun q n a => if (dataB d h n q a).1 = true then (.exit 2, ⟨SS [(4, .ptr [4] 0 0), (8, .ptr [8] 0 0)], HS (stIz r t [] (dataB d h n q a).2)⟩) else (.ret, ⟨SS [(4, .ptr [4] 0 0), (5, .bool false)], HS (stRt [] (dataB d h n q a).2)⟩)) a0 h24 ?_ ?_ ?_ ?_ ?_
    · simp [go_sem, stIm, rI, rSp, eDisk]
    · intro R n a x q hn hx hd hI hR
      have hx := hx hn
      by_cases h0 : x = 0
      · have := hR a hI (by simp only [dataB, if_pos h0])
        simp only [dataB, if_pos h0]
        simp [go_sem, stIm, rI, rSp, eDisk] at this
        simp [go_sem, stIm, rI, rSp, eDisk, hn, hx, h0, wrap_id (n := (n : Int) + 1) (by omega)]
        exact this
      · have e3 := g.read (15 + n) (by omega) (by omega)
        have hlx := g.len (15 + n) (by omega) (by omega)
        cases ho4 : openF (rdA d h (15 + n)) 4 with
        | none =>
          have e4 := open_no hlx ho4
          simp only [dataB, if_neg h0, ho4]
          cases he2 : early (rdA d h (15 + n)) <;> rw [he2] at e4 <;> simp at e4 <;> simp [go_sem, stIm, stRt, rI, rSp, eDisk, hn, hx, h0, e3, e4, wrap_id (n := 15 + (n : Int)) (by omega)]
        | some l =>
          have e4 := open_yes hlx ho4
          by_cases hl : l.length = 1
          · obtain ⟨y, rfl⟩ := List.length_eq_one_iff.1 hl
            have := hR (a.set n y) (by simpa using hI) (by simp only [dataB, if_neg h0, ho4])
            simp only [dataB, if_neg h0, ho4]
            simp at e4
            have hn24 : n < 24 := by omega
            simp [go_sem, stIm, rI, rSp, eDisk] at this
            simp [go_sem, stIm, rI, rSp, eDisk, hn, hn24, hI, hx, h0, e3, e4, wrap_id (n := (n : Int) + 1) (by omega), wrap_id (n := 15 + (n : Int)) (by omega)]
            exact this
          · have hm : dataB d h n (x :: q) a = (false, a) := by
              simp only [dataB, if_neg h0, ho4]
              rcases l with _ | ⟨y, _ | ⟨z, l⟩⟩
              · rfl
              · simp at hl
              · rfl
            rw [hm]
            simp [go_sem, stIm, stRt, rI, rSp, eDisk, hn, hx, h0, e3, e4, hl, show ¬ (l.length : Int) = 1 by omega, wrap_id (n := 15 + (n : Int)) (by omega)]
    · intro a hI; simp [go_sem, dataB, stIm, stIz, rI, rSp, eDisk]
    · intro _; split <;> simp
    by_cases hdb : (dataB d h 0 r a0).1 = true
    case neg =>
      rw [if_neg hdb, if_neg hdb]
      simp [go_sem, stRt, rI, rSp, resIx]
    rw [if_pos hdb, if_pos hdb]
    generalize (dataB d h 0 r a0).2 = D at *
    obtain ⟨hsB1, hsB2⟩ := hsB
    have e6 := imageOK_E ⟨r, t, [], D⟩ ⟨by simp only; omega, by simp only; omega, by simp only [List.length_cons, List.length_nil] at *; omega, by simp only; omega, fun s hs => by have := hsB1 s hs; omega, fun s hs => by have := hsB1 s hs; omega⟩
    have hD : D.length = 24 := by rw [hdB]; exact h24
    simp only [eImg] at e6
    have hDt : List.take 24 (D.map (AV.int .i64)) = D.map (AV.int .i64) := List.take_of_length_le (by simp [hD])
    simp only [List.map_nil, List.map_cons] at e6
    simp [go_sem, stIz, rI, rSp, hD, hDt, e6, resIm]
  · simp [go_sem, stIm, rI, rSp, eDisk, hz, -List.reduceReplicate]
    refine loop_for (fun X => fin CX _ _ X = _) r (fun n (a : List Int) => a.length = 24) (fun n a => ⟨SS [(1, .int .i64 h), (2, .ptr [2] 0 0), (4, .ptr [4] 0 0), (8, .ptr [8] 0 0), (105, .sl 1 (r.map (.int .i64))), (106, .int .i64 r.length), (107, .int .i64 n)], HS (stIm d r t (y :: s) a)⟩)
      (fun q n a => if (dataB d h n q a).1 = true then (.exit 2, ⟨SS [(4, .ptr [4] 0 0), (8, .ptr [8] 0 0)], HS (stIz r t (y :: s) (dataB d h n q a).2)⟩) else (.ret, ⟨SS [(4, .ptr [4] 0 0), (5, .bool false)], HS (stRt (y :: s) (dataB d h n q a).2)⟩)) a0 h24 ?_ ?_ ?_ ?_ ?_
    · simp [go_sem, stIm, rI, rSp, eDisk]
    · intro R n a x q hn hx hd hI hR
      have hx := hx hn
      by_cases h0 : x = 0
      · have := hR a hI (by simp only [dataB, if_pos h0])
        simp only [dataB, if_pos h0]
        simp [go_sem, stIm, rI, rSp, eDisk] at this
        simp [go_sem, stIm, rI, rSp, eDisk, hn, hx, h0, wrap_id (n := (n : Int) + 1) (by omega)]
        exact this
      · have e3 := g.read (15 + n) (by omega) (by omega)
        have hlx := g.len (15 + n) (by omega) (by omega)
        cases ho4 : openF (rdA d h (15 + n)) 4 with
        | none =>
          have e4 := open_no hlx ho4
          simp only [dataB, if_neg h0, ho4]
          cases he2 : early (rdA d h (15 + n)) <;> rw [he2] at e4 <;> simp at e4 <;> simp [go_sem, stIm, stRt, rI, rSp, eDisk, hn, hx, h0, e3, e4, wrap_id (n := 15 + (n : Int)) (by omega)]
        | some l =>
          have e4 := open_yes hlx ho4
          by_cases hl : l.length = 1
          · obtain ⟨y, rfl⟩ := List.length_eq_one_iff.1 hl
            have := hR (a.set n y) (by simpa using hI) (by simp only [dataB, if_neg h0, ho4])
            simp only [dataB, if_neg h0, ho4]
            simp at e4
            have hn24 : n < 24 := by omega
            simp [go_sem, stIm, rI, rSp, eDisk] at this
            simp [go_sem, stIm, rI, rSp, eDisk, hn, hn24, hI, hx, h0, e3, e4, wrap_id (n := (n : Int) + 1) (by omega), wrap_id (n := 15 + (n : Int)) (by omega)]
            exact this
          · have hm : dataB d h n (x :: q) a = (false, a) := by
              simp only [dataB, if_neg h0, ho4]
              rcases l with _ | ⟨y, _ | ⟨z, l⟩⟩
              · rfl
              · simp at hl
              · rfl
            rw [hm]
            simp [go_sem, stIm, stRt, rI, rSp, eDisk, hn, hx, h0, e3, e4, hl, show ¬ (l.length : Int) = 1 by omega, wrap_id (n := 15 + (n : Int)) (by omega)]
    · intro a hI; simp [go_sem, dataB, stIm, stIz, rI, rSp, eDisk]
    · intro _; split <;> simp
    by_cases hdb : (dataB d h 0 r a0).1 = true
    case neg =>
      rw [if_neg hdb, if_neg hdb]
      simp [go_sem, stRt, rI, rSp, resIx]
    rw [if_pos hdb, if_pos hdb]
    generalize (dataB d h 0 r a0).2 = D at *
    obtain ⟨hsB1, hsB2⟩ := hsB
    have e6 := imageOK_E ⟨r, t, y :: s, D⟩ ⟨by simp only; omega, by simp only; omega, by simp only [List.length_cons, List.length_nil] at *; omega, by simp only; omega, fun s hs => by have := hsB1 s hs; omega, fun s hs => by have := hsB1 s hs; omega⟩
    have hD : D.length = 24 := by rw [hdB]; exact h24
    simp only [eImg] at e6
    have hDt : List.take 24 (D.map (AV.int .i64)) = D.map (AV.int .i64) := List.take_of_length_le (by simp [hD])
    simp only [List.map_nil, List.map_cons] at e6
    simp [go_sem, stIz, rI, rSp, hD, hDt, e6, resIm]
theorem imageRd_E (g : Rd d h) : E CX 54 [eDisk d, .int .i64 h] [] = some (match readPI d h with | some m => resIm m (imgOK m) | none => resIx) := by
  unfold readPI
  cases hs : supO d h with
  | none => exact image_sup d h g hs
  | some ns =>
    cases hr : refsO (rdA d h 10) with
    | none => exact image_rt d h g ns hs (.inl hr)
    | some r =>
      cases ht : tabO (rdA d h 11) with
      | none => simp only [hr, ht]; exact image_rt d h g ns hs (.inr ht)
      | some t =>
        simp only [hr, ht]
        rw [image_main d h g ns r t hs hr ht]
        split
        · split <;> rfl
        · rfl
end
end Go.Proofs.YtdcgfapededocaaGreat



namespace Go.Proofs.YtdcgfapededocaaGreat
open Go
set_option maxRecDepth 100000
set_option maxHeartbeats 4000000
set_option linter.unusedSimpArgs false
set_option linter.unusedVariables false
section
variable (d : Disk) (h : Int)
/-- Snapshots as the reference reads them. -/
def snapsS : Nat → List Int → List Snp → Bool × List Snp
  | _, [], a => (true, a)
  | i, n :: r, a => match tabO (rdA d h (12 + i)) with
    | some t => if goodN n = true then snapsS (i + 1) r (a ++ [⟨sname n, t⟩]) else (false, a)
    | none => (false, a)
def resIs (m : Img) (b : Bool) : Res := { val := .tuple [.agg [.sl 1 (m.refs.map (.int .i64)), .sl 1 (m.tab.map (.int .i64)), .ref [0, 0, 0, 0] 0 m.snaps.length, .ref [1, 0, 0, 0] 0 m.data.length], .bool b], own := [rSp m.snaps, rI m.data] }
theorem Rd.sread {d : Disk} {h : Int} (g : Rd d h) (a : Int) (h0 : 0 ≤ a) (h1 : a < 64) : E CX 107 [.agg [.sl 1 (d.ss.map .str), .sl 3 (d.ps.map eIo)], .int .i64 h, .int .i64 a] [] = some { val := .str (rdA d h a) } :=
  l01Read_E d h a ⟨h0, by rw [g.ss]; omega⟩ (by have := g.ps; omega)
theorem sRead_sup (g : Rd d h) (hs : supO d h = none) : E CX 51 [eDisk d, .int .i64 h] [] = some resIx := by
  have e1 := g.sread 9 (by omega) (by omega)
  have e2 := l02Open_E (rdA d h 9) 1 (g.len 9 (by omega) (by omega))
  unfold supO at hs
  refine E_fin Tryz.f51 _ an51 rfl rfl rfl Tryz.func51 rfl (by kernel_rfl) ?_
  cases ho : openF (rdA d h 9) 1 with
  | none =>
    rw [ho] at e2
    simp [go_sem, eDisk, e1, e2, resIx, -List.reduceReplicate]
  | some L =>
    rw [ho] at e2 hs
    have hb := (open_some ho).2.2
    rcases L with _ | ⟨k, ns⟩
    · simp [go_sem, eDisk, e1, e2, resIx, -List.reduceReplicate]
    · have hk := hb k (by simp)
      simp at e2
      by_cases c0 : 3 < k
      · simp [go_sem, eDisk, e1, e2, c0, resIx, show ¬ (ns.length : Int) + 1 = 0 by omega, -List.reduceReplicate]
      · have c1 : ¬ (ns.length : Int) = k := by intro hh; simp [hh, show k ≤ 3 by omega] at hs
        simp [go_sem, eDisk, e1, e2, c0, resIx, wrap_id (n := 1 + k) (by omega), show ¬ (ns.length : Int) + 1 = 0 by omega, show ¬ (ns.length : Int) + 1 = 1 + k by omega, -List.reduceReplicate]
/-- What is held while the reference reads. -/
def stSm (d : Disk) (r t : List Int) (s : List Snp) (a : List Int) : List (Id × Blk) := [([2], ⟨true, 41, 2, [eDisk d], none⟩), ([4], ⟨true, 89, 4, [.agg [.nil, .nil, .nil, .nil]], none⟩), ([6], ⟨true, 89, 4, [.agg [.sl 1 (r.map (.int .i64)), .sl 1 (t.map (.int .i64)), .ref [18] 0 s.length, .ref [19] 0 24]], none⟩), ([18], rSp s), ([19], rI a)]
def stSr (s : List Snp) (a : List Int) : List (Id × Blk) := [([4], ⟨true, 89, 4, [.agg [.nil, .nil, .nil, .nil]], none⟩), ([18], rSp s), ([19], rI a)]
def stSz (r t : List Int) (s : List Snp) (a : List Int) : List (Id × Blk) := [([4], ⟨true, 89, 4, [.agg [.nil, .nil, .nil, .nil]], none⟩), ([6], ⟨true, 89, 4, [.agg [.sl 1 (r.map (.int .i64)), .sl 1 (t.map (.int .i64)), .ref [18] 0 s.length, .ref [19] 0 24]], none⟩), ([18], rSp s), ([19], rI a)]
theorem sRead_rt (g : Rd d h) (ns : List Int) (hs : supO d h = some ns) (hrt : refsO (rdA d h 10) = none ∨ tabO (rdA d h 11) = none) : E CX 51 [eDisk d, .int .i64 h] [] = some resIx := by
  have e1 := g.sread 9 (by omega) (by omega)
  have e2 := l02Open_E (rdA d h 9) 1 (g.len 9 (by omega) (by omega))
  obtain ⟨ho, h3⟩ := sup_some hs
  rw [ho] at e2
  simp at e2
  have r1 := g.sread 10 (by omega) (by omega)
  have r2 := sRefs_E (rdA d h 10) (g.len 10 (by omega) (by omega))
  have t1 := g.sread 11 (by omega) (by omega)
  have t2 := sTable_E (rdA d h 11) (g.len 11 (by omega) (by omega))
  refine E_fin Tryz.f51 _ an51 rfl rfl rfl Tryz.func51 rfl (by kernel_rfl) ?_
  cases hr : refsO (rdA d h 10) with
  | none =>
    rw [hr] at r2
    cases ht : tabO (rdA d h 11) <;> rw [ht] at t2 <;> simp [go_sem, eDisk, e1, e2, r1, r2, t1, t2, resIx, wrap_id (n := 1 + (ns.length : Int)) (by omega), show ¬ 3 < (ns.length : Int) by omega, show ¬ 3 < ns.length by omega, show ¬ (ns.length : Int) + 1 = 0 by omega, show (ns.length : Int) + 1 = 1 + ns.length by omega, show ¬ 1 + (ns.length : Int) = 0 by omega, -List.reduceReplicate]
  | some r =>
    rw [hr] at r2
    have htn : tabO (rdA d h 11) = none := by
      rcases hrt with hh | hh
      · rw [hr] at hh; cases hh
      · exact hh
    rw [htn] at t2
    simp [go_sem, eDisk, e1, e2, r1, r2, t1, t2, resIx, wrap_id (n := 1 + (ns.length : Int)) (by omega), show ¬ 3 < (ns.length : Int) by omega, show ¬ 3 < ns.length by omega, show ¬ (ns.length : Int) + 1 = 0 by omega, show (ns.length : Int) + 1 = 1 + ns.length by omega, show ¬ 1 + (ns.length : Int) = 0 by omega, -List.reduceReplicate]
theorem snapsS_bd : ∀ (q : List Int) (i : Nat) (a : List Snp), (∀ x ∈ q, 0 ≤ x ∧ x ≤ 2147483647) → (∀ s ∈ a, s.name.length ≤ 2147483647 ∧ s.tab.length ≤ 12) →
    (∀ s ∈ (snapsS d h i q a).2, s.name.length ≤ 2147483647 ∧ s.tab.length ≤ 12) ∧ (snapsS d h i q a).2.length ≤ a.length + q.length := by
  intro q
  induction q with
  | nil => intro i a _ ha; exact ⟨ha, by simp [snapsS]⟩
  | cons x q ih =>
    intro i a hq ha
    unfold snapsS
    split
    · rename_i t ht
      split
      · have hk := (tabO_some ht).2
        simp only [tabOK, Bool.and_eq_true, decide_eq_true_eq] at hk
        have hx := hq x (by simp)
        obtain ⟨i1, i2⟩ := ih (i + 1) (a ++ [⟨sname x, t⟩]) (fun y hy => hq y (by simp [hy])) (by
          intro s hs
          rcases List.mem_append.1 hs with hs | hs
          · exact ha s hs
          · simp only [List.mem_singleton] at hs
            subst hs
            have := sun_len 7 x.toNat (by omega)
            exact ⟨by simp only [sname]; omega, hk.1⟩)
        exact ⟨i1, by simp only [List.length_append, List.length_cons, List.length_nil] at i2 ⊢; omega⟩
      · exact ⟨ha, by simp⟩
    · exact ⟨ha, by simp⟩
theorem sRead_main (g : Rd d h) (ns r t : List Int) (hs : supO d h = some ns) (hr : refsO (rdA d h 10) = some r) (ht : tabO (rdA d h 11) = some t) : E CX 51 [eDisk d, .int .i64 h] [] = some (if (snapsS d h 0 ns []).1 = true then (if (dataB d h 0 r (List.replicate 24 0)).1 = true then resIs ⟨r, t, (snapsS d h 0 ns []).2, (dataB d h 0 r (List.replicate 24 0)).2⟩ (imgOK ⟨r, t, (snapsS d h 0 ns []).2, (dataB d h 0 r (List.replicate 24 0)).2⟩) else resIx) else resIx) := by
  have hsB := snapsS_bd d h ns 0 [] (fun x hx => (open_some (sup_some hs).1).2.2 x (List.mem_cons_of_mem _ hx)) (by simp)
  have hdB := dataB_len d h r 0 (List.replicate 24 0)
  have e1 := g.sread 9 (by omega) (by omega)
  have e2 := l02Open_E (rdA d h 9) 1 (g.len 9 (by omega) (by omega))
  obtain ⟨ho, h3⟩ := sup_some hs
  have hb := (open_some ho).2.2
  rw [ho] at e2
  simp at e2
  have r1 := g.sread 10 (by omega) (by omega)
  have r2 := sRefs_E (rdA d h 10) (g.len 10 (by omega) (by omega))
  have t1 := g.sread 11 (by omega) (by omega)
  have t2 := sTable_E (rdA d h 11) (g.len 11 (by omega) (by omega))
  have hk := (tabO_some ht).2
  rw [hr] at r2
  rw [ht] at t2
  have hr24 := refsO_len hr
  have ht12 : t.length ≤ 12 := by simp [tabOK] at hk; exact hk.1
  simp at t2
  simp at r2
  refine E_fin Tryz.f51 _ an51 rfl rfl rfl Tryz.func51 rfl (by kernel_rfl) ?_
  simp [go_sem, eDisk, e1, e2, r1, r2, t1, t2, wrap_id (n := 1 + (ns.length : Int)) (by omega), show ¬ 3 < (ns.length : Int) by omega, show ¬ 3 < ns.length by omega, show ¬ (ns.length : Int) + 1 = 0 by omega, show (ns.length : Int) + 1 = 1 + ns.length by omega, show ¬ 1 + (ns.length : Int) = 0 by omega, -List.reduceReplicate]
  refine loop_for (fun X => fin CX _ _ X = _) ns (fun n (a : List Snp) => a.length = n) (fun n a => ⟨SS [(1, .int .i64 h), (2, .ptr [2] 0 0), (4, .ptr [4] 0 0), (6, .ptr [6] 0 0), (7, .sl 1 (.int .i64 ns.length :: ns.map (.int .i64))), (9, .sl 1 (r.map (.int .i64))), (12, .int .i64 n)], HS (stSm d r t a (List.replicate 24 0))⟩)
    (fun q n a => if (snapsS d h n q a).1 = true then (.exit 0, ⟨SS [(1, .int .i64 h), (2, .ptr [2] 0 0), (4, .ptr [4] 0 0), (6, .ptr [6] 0 0), (9, .sl 1 (r.map (.int .i64)))], HS (stSm d r t (snapsS d h n q a).2 (List.replicate 24 0))⟩) else (.ret, ⟨SS [(4, .ptr [4] 0 0), (5, .bool false)], HS (stSr (snapsS d h n q a).2 (List.replicate 24 0))⟩)) ([] : List Snp) rfl ?_ ?_ ?_ ?_ ?_
  · simp [go_sem, stSm, rI, rSp, eDisk, -List.reduceReplicate]
  · intro R n a x q hn hx hd hI hR
    have hx := hx hn
    have hxb := hb x (List.mem_cons_of_mem _ (by rw [← hx]; exact List.getElem_mem hn))
    have e3 := g.sread (12 + n) (by omega) (by omega)
    have e4 := sTable_E (rdA d h (12 + n)) (g.len (12 + n) (by omega) (by omega))
    have e5 := sUnname_E x hxb
    obtain ⟨e6, hv, _, _⟩ := sname_ok x hxb
    cases htn : tabO (rdA d h (12 + n)) with
    | none =>
      rw [htn] at e4
      simp only [snapsS, htn]
      simp at e4
      simp [go_sem, stSm, stSr, rI, rSp, eDisk, hn, hx, e3, e4, wrap_id (n := 12 + (n : Int)) (by omega), -List.reduceReplicate]
    | some tb =>
      rw [htn] at e4
      simp at e4
      cases hg : goodN x
      · have hne : ¬ nameN (sname x) 0 = x := fun he => by rw [hv.1 he] at hg; cases hg
        simp only [snapsS, htn, hg]
        simp [go_sem, stSm, stSr, rI, rSp, eDisk, hn, hx, e3, e4, e5, e6, hne, wrap_id (n := 12 + (n : Int)) (by omega), wrap_id (n := 1 + (n : Int)) (by omega), show (1 + (n : Int)).toNat = n + 1 by omega, show 0 ≤ 1 + (n : Int) by omega, -List.reduceReplicate]
      · have he := hv.2 hg
        have := hR (a ++ [⟨sname x, tb⟩]) (by simp; omega) (by simp only [snapsS, htn, hg, if_true])
        simp only [snapsS, htn, hg, if_true]
        simp [go_sem, stSm, rI, rSp, eSnp, eDisk, -List.reduceReplicate] at this
        simp [go_sem, stSm, rI, rSp, eSnp, eDisk, hn, hx, e3, e4, e5, e6, he, wrap_id (n := (n : Int) + 1) (by omega), wrap_id (n := 12 + (n : Int)) (by omega), wrap_id (n := 1 + (n : Int)) (by omega), show (1 + (n : Int)).toNat = n + 1 by omega, show 0 ≤ 1 + (n : Int) by omega, show a.length + 1 ≤ 1073741824 by omega, -List.reduceReplicate]
        exact this
  · intro a hI
    simp [go_sem, snapsS, stSm, rI, rSp, eDisk, -List.reduceReplicate]
  · intro _; split <;> simp
  by_cases hsb : (snapsS d h 0 ns []).1 = true
  case neg =>
    rw [if_neg hsb, if_neg hsb]
    simp [go_sem, stSr, rI, rSp, resIx]
  rw [if_pos hsb, if_pos hsb]
  generalize (snapsS d h 0 ns []).2 = s at *
  have hz : List.replicate 24 (AV.int .i64 0) = (List.replicate 24 (0 : Int)).map (.int .i64) := rfl
  have h24 : (List.replicate 24 (0 : Int)).length = 24 := rfl
  generalize List.replicate 24 (0 : Int) = a0 at *
  simp [go_sem, stSm, rI, rSp, eDisk, hz, -List.reduceReplicate]
  refine loop_for (fun X => fin CX _ _ X = _) r (fun n (a : List Int) => a.length = 24) (fun n a => ⟨SS [(1, .int .i64 h), (2, .ptr [2] 0 0), (4, .ptr [4] 0 0), (6, .ptr [6] 0 0), (9, .sl 1 (r.map (.int .i64))), (15, .int .i64 n)], HS (stSm d r t s a)⟩)
    (fun q n a => if (dataB d h n q a).1 = true then (.exit 2, ⟨SS [(4, .ptr [4] 0 0), (6, .ptr [6] 0 0)], HS (stSz r t s (dataB d h n q a).2)⟩) else (.ret, ⟨SS [(4, .ptr [4] 0 0), (5, .bool false)], HS (stSr s (dataB d h n q a).2)⟩)) a0 h24 ?_ ?_ ?_ ?_ ?_
  · simp [go_sem, stSm, rI, rSp, eDisk]
  · intro R n a x q hn hx hd hI hR
    have hx := hx hn
    have hn24 : (n : Int) < 24 := by omega
    by_cases h0 : x = 0
    · have := hR a hI (by simp only [dataB, if_pos h0])
      simp only [dataB, if_pos h0]
      simp [go_sem, stSm, rI, rSp, eDisk] at this
      simp [go_sem, stSm, rI, rSp, eDisk, hn, hx, h0, hn24, wrap_id (n := (n : Int) + 1) (by omega)]
      exact this
    · have e3 := g.sread (15 + n) (by omega) (by omega)
      have e4 := l02Open_E (rdA d h (15 + n)) 4 (g.len (15 + n) (by omega) (by omega))
      cases ho4 : openF (rdA d h (15 + n)) 4 with
      | none =>
        rw [ho4] at e4
        simp only [dataB, if_neg h0, ho4]
        simp at e4
        simp [go_sem, stSm, stSr, rI, rSp, eDisk, hn, hx, h0, hn24, e3, e4, wrap_id (n := 15 + (n : Int)) (by omega)]
      | some l =>
        rw [ho4] at e4
        by_cases hl : l.length = 1
        · obtain ⟨y, rfl⟩ := List.length_eq_one_iff.1 hl
          have := hR (a.set n y) (by simpa using hI) (by simp only [dataB, if_neg h0, ho4])
          simp only [dataB, if_neg h0, ho4]
          simp at e4
          have hn24' : n < 24 := by omega
          simp [go_sem, stSm, rI, rSp, eDisk] at this
          simp [go_sem, stSm, rI, rSp, eDisk, hn, hn24, hn24', hI, hx, h0, e3, e4, wrap_id (n := (n : Int) + 1) (by omega), wrap_id (n := 15 + (n : Int)) (by omega)]
          exact this
        · have hm : dataB d h n (x :: q) a = (false, a) := by
            simp only [dataB, if_neg h0, ho4]
            rcases l with _ | ⟨y, _ | ⟨z, l⟩⟩
            · rfl
            · simp at hl
            · rfl
          rw [hm]
          simp at e4
          simp [go_sem, stSm, stSr, rI, rSp, eDisk, hn, hx, h0, hn24, e3, e4, hl, show ¬ (l.length : Int) = 1 by omega, wrap_id (n := 15 + (n : Int)) (by omega)]
  · intro a hI; simp [go_sem, dataB, stSm, stSz, rI, rSp, eDisk, hr24]
  · intro _; split <;> simp
  by_cases hdb : (dataB d h 0 r a0).1 = true
  case neg =>
    rw [if_neg hdb, if_neg hdb]
    simp [go_sem, stSr, rI, rSp, resIx]
  rw [if_pos hdb, if_pos hdb]
  generalize (dataB d h 0 r a0).2 = D at *
  obtain ⟨hsB1, hsB2⟩ := hsB
  have e6 := sImageOK_E ⟨r, t, s, D⟩ ⟨by simp only; omega, by simp only; omega, by simp only [List.length_nil] at *; omega, by simp only; omega, fun s hs => by have := hsB1 s hs; omega, fun s hs => by have := hsB1 s hs; omega⟩
  have hD : D.length = 24 := by rw [hdB]; exact h24
  simp only [eImg] at e6
  have hDt : List.take 24 (D.map (AV.int .i64)) = D.map (AV.int .i64) := List.take_of_length_le (by simp [hD])
  simp [go_sem, stSz, rI, rSp, hD, hDt, e6, resIs]
/-- What the reference reads. -/
theorem sReadRes_E (g : Rd d h) : E CX 51 [eDisk d, .int .i64 h] [] = some (match supO d h with
    | none => resIx
    | some ns => match refsO (rdA d h 10) with
      | none => resIx
      | some r => match tabO (rdA d h 11) with
        | none => resIx
        | some t => if (snapsS d h 0 ns []).1 = true then (if (dataB d h 0 r (List.replicate 24 0)).1 = true then resIs ⟨r, t, (snapsS d h 0 ns []).2, (dataB d h 0 r (List.replicate 24 0)).2⟩ (imgOK ⟨r, t, (snapsS d h 0 ns []).2, (dataB d h 0 r (List.replicate 24 0)).2⟩) else resIx) else resIx) := by
  cases hs : supO d h with
  | none => exact sRead_sup d h g hs
  | some ns =>
    cases hr : refsO (rdA d h 10) with
    | none => exact sRead_rt d h g ns hs (.inl hr)
    | some r =>
      cases ht : tabO (rdA d h 11) with
      | none => simp only [hr, ht]; exact sRead_rt d h g ns hs (.inr ht)
      | some t =>
        simp only [hr, ht]
        exact sRead_main d h g ns r t hs hr ht
end
end Go.Proofs.YtdcgfapededocaaGreat



namespace Go.Proofs.YtdcgfapededocaaGreat
open Go
set_option linter.unusedSimpArgs false
set_option linter.unusedVariables false
section
variable (d : Disk) (h : Int)
theorem snapsS_eq : ∀ (q : List Int) (i : Nat) (a : List Snp), (∀ x ∈ q, 0 ≤ x ∧ x ≤ 2147483647) → (snapsS d h i q a = snapsB d h i q a ∧ (snapsS d h i q a).1 = true) ∨ ((snapsS d h i q a).1 = false ∧ ((snapsB d h i q a).1 = true → ∃ s ∈ (snapsB d h i q a).2, s.name = [])) ∨ ((snapsS d h i q a).1 = false ∧ (snapsB d h i q a).1 = false) := by
  intro q
  induction q with
  | nil => intro i a _; exact .inl ⟨rfl, rfl⟩
  | cons x q ih =>
    intro i a hq
    have hx := hq x (by simp)
    have hq' : ∀ y ∈ q, 0 ≤ y ∧ y ≤ 2147483647 := fun y hy => hq y (by simp [hy])
    obtain ⟨_, _, g1, g2⟩ := sname_ok x hx
    unfold snapsS snapsB
    cases ht : tabO (rdA d h (12 + i)) with
    | none => exact .inr (.inr ⟨rfl, rfl⟩)
    | some t =>
      simp only
      cases hg : goodN x
      · rw [if_neg (by simp)]
        refine .inr (.inl ⟨rfl, fun hh => ?_⟩)
        have key : ∀ (q : List Int) (i : Nat) (a : List Snp), (∃ s ∈ a, s.name = []) → ∃ s ∈ (snapsB d h i q a).2, s.name = [] := by
          intro q
          induction q with
          | nil => intro i a ha; exact ha
          | cons y q ih2 =>
            intro i a ha
            unfold snapsB
            split
            · exact ih2 _ _ (by obtain ⟨s, hs, hn⟩ := ha; exact ⟨s, by simp [hs], hn⟩)
            · exact ha
        exact key q (i + 1) _ ⟨⟨unameF x, t⟩, by simp, g2 hg⟩
      · rw [if_pos rfl, g1 hg]
        exact ih (i + 1) _ hq'
/-- The right image that sectors tell, if they tell one. -/
def okI : Option Img := match readPI d h with
  | some m => if imgOK m = true then some m else none
  | none => none
theorem okI_s : okI d h = match supO d h with
    | none => none
    | some ns => match refsO (rdA d h 10) with
      | none => none
      | some r => match tabO (rdA d h 11) with
        | none => none
        | some t => if (snapsS d h 0 ns []).1 = true then (if (dataB d h 0 r (List.replicate 24 0)).1 = true then (if imgOK ⟨r, t, (snapsS d h 0 ns []).2, (dataB d h 0 r (List.replicate 24 0)).2⟩ = true then some ⟨r, t, (snapsS d h 0 ns []).2, (dataB d h 0 r (List.replicate 24 0)).2⟩ else none) else none) else none := by
  unfold okI readPI
  cases hs : supO d h with
  | none => rfl
  | some ns =>
    cases hr : refsO (rdA d h 10) with
    | none => rfl
    | some r =>
      cases ht : tabO (rdA d h 11) with
      | none => simp only [hr, ht]
      | some t =>
        simp only [hr, ht]
        have hb : ∀ x ∈ ns, 0 ≤ x ∧ x ≤ 2147483647 := fun x hx => (open_some (sup_some hs).1).2.2 x (List.mem_cons_of_mem _ hx)
        rcases snapsS_eq d h ns 0 [] hb with ⟨e1, e2⟩ | ⟨e1, e2⟩ | ⟨e1, e2⟩
        · rw [← e1, if_pos e2, if_pos e2]
          by_cases hdb : (dataB d h 0 r (List.replicate 24 0)).1 = true
          · rw [if_pos hdb, if_pos hdb]
          · rw [if_neg hdb, if_neg hdb]
        · rw [e1]
          simp only [Bool.false_eq_true, if_false]
          by_cases hc : (snapsB d h 0 ns []).1 = true
          · rw [if_pos hc]
            obtain ⟨s, hsm, hn⟩ := e2 hc
            by_cases hdb : (dataB d h 0 r (List.replicate 24 0)).1 = true
            · rw [if_pos hdb]
              simp only
              rw [if_neg]
              intro hk
              have P := (imgP hk).toNearP
              have := sname_len (P.nameOK s hsm)
              rw [hn] at this
              simp at this
            · rw [if_neg hdb]
          · rw [if_neg hc]
        · rw [e1, e2]
          simp only [Bool.false_eq_true, if_false]
end
end Go.Proofs.YtdcgfapededocaaGreat



namespace Go.Proofs.YtdcgfapededocaaGreat
open Go
set_option maxRecDepth 100000
set_option maxHeartbeats 1000000
set_option linter.unusedSimpArgs false
set_option linter.unusedVariables false
end Go.Proofs.YtdcgfapededocaaGreat



namespace Go.Proofs.YtdcgfapededocaaGreat
open Go
set_option maxRecDepth 100000
set_option maxHeartbeats 1000000
set_option linter.unusedSimpArgs false
set_option linter.unusedVariables false
end Go.Proofs.YtdcgfapededocaaGreat



namespace Go.Proofs.YtdcgfapededocaaGreat
open Go
set_option maxRecDepth 100000
set_option maxHeartbeats 2000000
set_option linter.unusedSimpArgs false
set_option linter.unusedVariables false
theorem rd_of (d : Disk) (hd : diskOK d = true) (h : Int) : Rd d h := by
  have g := diskOK_good hd
  refine ⟨g.ss, by have := g.ps; omega, fun a h0 h1 => ?_⟩
  have := rdL_len hd h a
  unfold rdA
  omega
end Go.Proofs.YtdcgfapededocaaGreat



namespace Go.Proofs.YtdcgfapededocaaGreat
open Go
set_option maxRecDepth 100000
set_option maxHeartbeats 4000000
set_option linter.unusedSimpArgs false
set_option linter.unusedVariables false
def agrF (w : Wld) : Bool := if reqZ w.may = true then (w.agree && match okI w.disk 0 with
  | some m => decide (shown m = w.guest)
  | none => false) else w.agree
theorem shown_B {m : Img} (P : NearP m) : GstB (shown m) := by
  have h1 := tabOK_len (P.tabs m.tab (List.mem_cons_self ..)).1
  have h2 := P.snaps
  refine ⟨by simp [shown]; omega, by simp [shown]; omega, fun x hx => ?_, fun x hx => ?_⟩
  · simp only [shown, List.mem_map] at hx
    obtain ⟨s, hs, rfl⟩ := hx
    have := sname_len (P.nameOK s hs)
    simp only; omega
  · simp only [shown, List.mem_map] at hx
    obtain ⟨s, hs, rfl⟩ := hx
    have := tabOK_len (P.tabs s.tab (List.mem_cons_of_mem _ (List.mem_map.2 ⟨s, hs, rfl⟩))).1
    simp only [List.length_map]; omega
theorem agrees_E (w : Wld) (B : WldB w) : E CX 15 [eWld w] [] = some { val := if wldOK w then .tuple [.bool (agrF w), .int .i64 0] else .tuple [.bool false, .int .i64 1] } := by
  have e1 := worldOK_E w B
  cases c1 : wldOK w
  · rw [c1] at e1
    simp only [eWld] at e1
    refine E_fin Tryz.f15 _ an15 rfl rfl rfl Tryz.func15 rfl (by kernel_rfl) ?_
    simp [go_sem, eWld, e1]
  rw [c1] at e1
  have W := wOK c1
  have e2 := imageRd_E w.disk 0 (rd_of w.disk W.disk 0)
  unfold agrF okI
  simp only [if_true]
  cases hz : reqZ w.may
  · obtain ⟨disk, cfg, hosts, time, guest, ⟨k, g, v, n⟩, agree⟩ := w
    simp only [reqZ, decide_eq_false_iff_not, Req.mk.injEq] at hz
    simp only [eWld] at e1
    have hn0 : ([] : Tx) = n ↔ n = [] := eq_comm
    simp only [Bool.false_eq_true, if_false]
    refine E_fin Tryz.f15 _ an15 rfl rfl rfl Tryz.func15 rfl (by kernel_rfl) ?_
    by_cases d1 : k = 0
    · subst d1
      by_cases d2 : g = 0
      · subst d2
        by_cases d3 : v = 0
        · subst d3
          have d4 : ¬ n = [] := fun h => hz ⟨rfl, rfl, rfl, h⟩
          simp [go_sem, eWld, e1, d4]
        · simp [go_sem, eWld, e1, d3]
      · simp [go_sem, eWld, e1, d2]
    · simp [go_sem, eWld, e1, d1]
  simp only [if_true]
  have hzz : w.may = ⟨0, 0, 0, []⟩ := by simpa [reqZ] using hz
  obtain ⟨disk, cfg, hosts, time, guest, may, agree⟩ := w
  simp only at hzz e2
  subst hzz
  have Wd := W.disk
  simp only [eWld] at e1
  simp only at Wd
  simp only
  cases hp : readPI disk 0 with
  | none =>
    rw [hp] at e2
    simp only [resIx, eDisk] at e2
    refine E_fin Tryz.f15 _ an15 rfl rfl rfl Tryz.func15 rfl (by kernel_rfl) ?_
    cases agree <;> simp [go_sem, eWld, e1, e2]
  | some m =>
    rw [hp] at e2
    simp only at e2
    cases hk : imgOK m
    · rw [hk] at e2
      simp only [resIm, eDisk] at e2
      by_cases hs : m.snaps = []
      · rw [if_pos hs] at e2
        refine E_fin Tryz.f15 _ an15 rfl rfl rfl Tryz.func15 rfl (by kernel_rfl) ?_
        cases agree <;> simp [go_sem, eWld, e1, e2, rI, hk]
      · rw [if_neg hs] at e2
        refine E_fin Tryz.f15 _ an15 rfl rfl rfl Tryz.func15 rfl (by kernel_rfl) ?_
        cases agree <;> simp [go_sem, eWld, e1, e2, rI, rSp, hk]
    · rw [hk] at e2
      have P := (imgP hk).toNearP
      have e3 := shown_E m P
      have e4 := sameGuestI_E (shown m) guest (shown_B P)
      simp only [hk, if_true]
      have hsl : (shown m).shots = [] ↔ m.snaps = [] := by simp [shown]
      generalize shown m = G at *
      obtain ⟨gv, gs⟩ := G
      simp only at hsl
      simp only [resIm, eDisk] at e2
      by_cases hs : m.snaps = []
      · rw [if_pos hs] at e2
        have hg := hsl.2 hs
        subst hg
        simp only [eImg, hs, List.map_nil, resG] at e3
        simp only [eGst, List.map_nil] at e4
        refine E_fin Tryz.f15 _ an15 rfl rfl rfl Tryz.func15 rfl (by kernel_rfl) ?_
        cases agree <;> simp [go_sem, eWld, e1, e2, e3, e4, rI]
      · rw [if_neg hs] at e2
        have hg : gs ≠ [] := fun h => hs (hsl.1 h)
        obtain ⟨y, gs, rfl⟩ := List.exists_cons_of_ne_nil hg
        simp only [eImg, resG, rSh, List.map_cons, List.length_cons] at e3
        simp only [eGst, List.map_cons] at e4
        refine E_fin Tryz.f15 _ an15 rfl rfl rfl Tryz.func15 rfl (by kernel_rfl) ?_
        cases agree <;> simp [go_sem, eWld, e1, e2, e3, e4, rI, rSp]
theorem sAgrees_E (w : Wld) (B : WldB w) : E CX 14 [eWld w] [] = some { val := if wldOK w then .tuple [.bool (agrF w), .int .i64 0] else .tuple [.bool false, .int .i64 1] } := by
  have e1 := sWorldOK_E w B
  cases c1 : wldOK w
  · rw [c1] at e1
    simp only [eWld] at e1
    refine E_fin Tryz.f14 _ an14 rfl rfl rfl Tryz.func14 rfl (by kernel_rfl) ?_
    simp [go_sem, eWld, e1]
  rw [c1] at e1
  have W := wOK c1
  have e2 := sReadRes_E w.disk 0 (rd_of w.disk W.disk 0)
  have hm := W.may
  unfold agrF
  simp only [if_true]
  cases hz : reqZ w.may
  · rw [hz] at hm
    simp only [Bool.false_or] at hm
    have hk := (reqOK_kind hm).1
    simp only [eWld] at e1
    simp only [Bool.false_eq_true, if_false]
    refine E_fin Tryz.f14 _ an14 rfl rfl rfl Tryz.func14 rfl (by kernel_rfl) ?_
    simp [go_sem, eWld, e1, show 0 < w.may.kind by omega]
  simp only [if_true]
  have hzz : w.may = ⟨0, 0, 0, []⟩ := by simpa [reqZ] using hz
  rw [okI_s]
  obtain ⟨disk, cfg, hosts, time, guest, may, agree⟩ := w
  simp only at hzz e2
  subst hzz
  simp only [eWld] at e1
  simp only
  have bad : E CX 51 [eDisk disk, .int .i64 0] [] = some resIx → E CX 14 [eWld ⟨disk, cfg, hosts, time, guest, ⟨0, 0, 0, []⟩, agree⟩] [] = some { val := .tuple [.bool false, .int .i64 0] } := by
    intro e2
    simp only [resIx, eDisk] at e2
    refine E_fin Tryz.f14 _ an14 rfl rfl rfl Tryz.func14 rfl (by kernel_rfl) ?_
    cases agree <;> simp [go_sem, eWld, e1, e2]
  cases hs : supO disk 0 with
  | none => rw [hs] at e2; simp only [Bool.and_false]; exact bad e2
  | some ns =>
    cases hr : refsO (rdA disk 0 10) with
    | none => simp only [hs, hr] at e2; simp only [Bool.and_false]; exact bad e2
    | some r =>
      cases ht : tabO (rdA disk 0 11) with
      | none => simp only [hs, hr, ht] at e2; simp only [Bool.and_false]; exact bad e2
      | some t =>
        simp only [hs, hr, ht] at e2
        simp only
        by_cases hb1 : (snapsS disk 0 0 ns []).1 = true
        case neg => rw [if_neg hb1] at e2 ⊢; simp only [Bool.and_false]; exact bad e2
        rw [if_pos hb1] at e2 ⊢
        by_cases hb2 : (dataB disk 0 0 r (List.replicate 24 0)).1 = true
        case neg => rw [if_neg hb2] at e2 ⊢; simp only [Bool.and_false]; exact bad e2
        rw [if_pos hb2] at e2 ⊢
        generalize (⟨r, t, (snapsS disk 0 0 ns []).2, (dataB disk 0 0 r (List.replicate 24 0)).2⟩ : Img) = m at *
        simp only [resIs, eDisk] at e2
        cases hk : imgOK m
        · rw [hk] at e2
          refine E_fin Tryz.f14 _ an14 rfl rfl rfl Tryz.func14 rfl (by kernel_rfl) ?_
          cases agree <;> simp [go_sem, eWld, e1, e2, rI, rSp]
        · rw [hk] at e2
          have P := (imgP hk).toNearP
          have e3 := sOf_E m P
          have e4 := sSameGuest_E (shown m) guest (shown_B P)
          simp only [if_true]
          generalize shown m = G at *
          simp only [eImg, rHs] at e3
          simp only [eGst] at e4
          refine E_fin Tryz.f14 _ an14 rfl rfl rfl Tryz.func14 rfl (by kernel_rfl) ?_
          cases agree <;> simp [go_sem, eWld, e1, e2, e3, e4, rI, rSp]
end Go.Proofs.YtdcgfapededocaaGreat



namespace Go.Proofs.YtdcgfapededocaaGreat
open Go
set_option maxRecDepth 100000
set_option maxHeartbeats 2000000
set_option linter.unusedSimpArgs false
set_option linter.unusedVariables false
theorem agreesLaw_E (w : Wld) (F : FitW w) : E CX 5 [eWld w] [] = some { val := .bool true } := by
  have e1 := szWorld_E w F
  by_cases h1 : szW 1048576 w < 0
  · simp only [eWld] at e1
    refine E_fin Tryz.f5 _ an5 rfl rfl rfl Tryz.func5 rfl (by kernel_rfl) ?_
    simp [go_sem, eWld, e1, h1]
  have B := szW_bound (show 0 ≤ szW 1048576 w by omega)
  have e3 := toWorld_E w B
  have e4 := sAgrees_E w B
  have e5 := agrees_E w B
  have e6 := eqWorld_E w B
  obtain ⟨b, c, hb⟩ : ∃ b c, (if wldOK w then (.tuple [.bool (agrF w), .int .i64 0] : AV) else .tuple [.bool false, .int .i64 1]) = .tuple [.bool b, .int .i64 c] := by
    split <;> exact ⟨_, _, rfl⟩
  rw [hb] at e4 e5
  simp only [eWld] at e1 e3 e4 e5 e6
  refine E_fin Tryz.f5 _ an5 rfl rfl rfl Tryz.func5 rfl (by kernel_rfl) ?_
  simp [go_sem, eWld, e1, e3, e4, e5, e6, h1]
end Go.Proofs.YtdcgfapededocaaGreat



namespace Go.Proofs.YtdcgfapededocaaGreat
open Go
set_option maxRecDepth 100000
theorem told_ints : ∀ bs, Typed Tryz.prog 29 bs → ∃ x : List Int, mkVal (tagg Tryz.prog 29) bs = .sl 1 (x.map (.int .i64)) ∧ x.length ≤ top := by
  intro bs h
  obtain ⟨x, e, w, q⟩ := typed_list Tryz.underlying29 told_int h
  rw [cells_int] at e
  cases e
  exact ⟨x, by rw [show tagg Tryz.prog 29 = false by kernel_rfl]; rfl, w⟩
end Go.Proofs.YtdcgfapededocaaGreat



namespace Go.Proofs.YtdcgfapededocaaGreat
open Go
set_option maxRecDepth 100000
theorem told_Shot : ∀ bs, Typed Tryz.prog 162 bs → ∃ x : Sht, mkVal (tagg Tryz.prog 162) bs = eSht x ∧ x.name.length ≤ top ∧ x.vals.length ≤ top := by
  intro bs h
  obtain ⟨hl, hf⟩ := typed_strct Tryz.underlying162 h
  rw [show Tryz.prog.cellsOf 162 = 2 by kernel_rfl] at hl
  obtain ⟨a, b, rfl⟩ := len2 hl
  simp [cells_str, show Tryz.prog.cellsOf 29 = 1 by kernel_rfl] at hf
  obtain ⟨h0, h1⟩ := hf
  obtain ⟨x0, e0, w0⟩ := typed_str Tryz.underlying9 h0
  obtain ⟨x1, e1, w1⟩ := told_ints _ h1
  cases e0
  rw [show tagg Tryz.prog 29 = false by kernel_rfl] at e1
  simp [mkVal] at e1
  subst e1
  exact ⟨⟨x0, x1⟩, by rw [show tagg Tryz.prog 162 = true by kernel_rfl]; rfl, w0, w1⟩
theorem told_GuestC : ∀ bs, Typed Tryz.prog 32 bs → ∃ x : Gst, bs = [.sl 1 (x.vals.map (.int .i64)), .sl 2 (x.shots.map eSht)] ∧ FitG x := by
  intro bs h
  obtain ⟨hl, hf⟩ := typed_strct Tryz.underlying32 h
  rw [show Tryz.prog.cellsOf 32 = 2 by kernel_rfl] at hl
  obtain ⟨a, b, rfl⟩ := len2 hl
  simp [show Tryz.prog.cellsOf 29 = 1 by kernel_rfl, show Tryz.prog.cellsOf 30 = 1 by kernel_rfl] at hf
  obtain ⟨h0, h1⟩ := hf
  obtain ⟨x0, e0, w0⟩ := told_ints _ h0
  obtain ⟨x1, e1, w1, q1⟩ := typed_list Tryz.underlying30 told_Shot h1
  rw [show tagg Tryz.prog 29 = false by kernel_rfl] at e0
  simp [mkVal] at e0
  rw [show Tryz.prog.cellsOf 162 = 2 by kernel_rfl] at e1
  cases e1
  subst e0
  exact ⟨⟨x0, x1⟩, rfl, ⟨w0, w1, q1⟩⟩
theorem told_ReqC : ∀ bs, Typed Tryz.prog 34 bs → ∃ x : Req, bs = [.int .i64 x.kind, .int .i64 x.g, .int .i64 x.value, .str x.name] ∧ x.name.length ≤ top := by
  intro bs h
  obtain ⟨hl, hf⟩ := typed_strct Tryz.underlying34 h
  rw [show Tryz.prog.cellsOf 34 = 4 by kernel_rfl] at hl
  obtain ⟨a, b, c, d, rfl⟩ := len4 hl
  simp [cells_int, cells_str] at hf
  obtain ⟨h0, h1, h2, h3⟩ := hf
  obtain ⟨x0, e0, w0⟩ := typed_int Tryz.underlying3 h0
  obtain ⟨x1, e1, w1⟩ := typed_int Tryz.underlying3 h1
  obtain ⟨x2, e2, w2⟩ := typed_int Tryz.underlying3 h2
  obtain ⟨x3, e3, w3⟩ := typed_str Tryz.underlying9 h3
  cases e0; cases e1; cases e2; cases e3
  exact ⟨⟨x0, x1, x2, x3⟩, rfl, w3⟩
theorem told_Host : ∀ bs, Typed Tryz.prog 114 bs → ∃ x : Host, mkVal (tagg Tryz.prog 114) bs = eHost x ∧ True := by
  intro bs h
  obtain ⟨hl, hf⟩ := typed_strct Tryz.underlying114 h
  rw [show Tryz.prog.cellsOf 114 = 3 by kernel_rfl] at hl
  obtain ⟨a, b, c, rfl⟩ := len3 hl
  simp [cells_int] at hf
  obtain ⟨h0, h1, h2⟩ := hf
  obtain ⟨x0, e0, w0⟩ := typed_int Tryz.underlying3 h0
  obtain ⟨x1, e1, w1⟩ := typed_int Tryz.underlying3 h1
  obtain ⟨x2, e2, w2⟩ := typed_int Tryz.underlying3 h2
  cases e0; cases e1; cases e2
  exact ⟨⟨x0, x1, x2⟩, by rw [show tagg Tryz.prog 114 = true by kernel_rfl]; rfl, trivial⟩
theorem told_ConfigC : ∀ bs, Typed Tryz.prog 27 bs → ∃ x : Config, bs = [.int .i64 x.fail, .int .i64 x.dead, .int .i64 x.delay, .int .i64 x.drift] ∧ In64 x.fail ∧ In64 x.dead ∧ In64 x.delay ∧ In64 x.drift := by
  intro bs h
  obtain ⟨hl, hf⟩ := typed_strct Tryz.underlying27 h
  rw [show Tryz.prog.cellsOf 27 = 4 by kernel_rfl] at hl
  obtain ⟨a, b, c, d, rfl⟩ := len4 hl
  simp [cells_int] at hf
  obtain ⟨h0, h1, h2, h3⟩ := hf
  obtain ⟨x0, e0, w0⟩ := typed_int Tryz.underlying3 h0
  obtain ⟨x1, e1, w1⟩ := typed_int Tryz.underlying3 h1
  obtain ⟨x2, e2, w2⟩ := typed_int Tryz.underlying3 h2
  obtain ⟨x3, e3, w3⟩ := typed_int Tryz.underlying3 h3
  cases e0; cases e1; cases e2; cases e3
  exact ⟨⟨x0, x1, x2, x3⟩, rfl, in64_of w0, in64_of w1, in64_of w2, in64_of w3⟩
theorem told_DiskC : ∀ bs, Typed Tryz.prog 25 bs → ∃ x : Disk, bs = [.sl 1 (x.ss.map .str), .sl 3 (x.ps.map eIo)] ∧ Fits x := by
  intro bs h
  obtain ⟨hl, _⟩ := typed_strct Tryz.underlying25 h
  rw [show Tryz.prog.cellsOf 25 = 2 by kernel_rfl] at hl
  obtain ⟨a, b, rfl⟩ := len2 hl
  obtain ⟨x, e, F⟩ := told_Disk _ h
  rw [show tagg Tryz.prog 25 = true by kernel_rfl] at e
  simp [mkVal, eDisk] at e
  exact ⟨x, by rw [e.1, e.2], F⟩
theorem len15 {avs : List AV} (h : avs.length = 15) : ∃ a b c d e f g i j k l m n o p, avs = [a, b, c, d, e, f, g, i, j, k, l, m, n, o, p] := by
  match avs, h with
  | [a, b, c, d, e, f, g, i, j, k, l, m, n, o, p], _ => exact ⟨a, b, c, d, e, f, g, i, j, k, l, m, n, o, p, rfl⟩
theorem told_World : ∀ bs, Typed Tryz.prog 36 bs → ∃ x : Wld, mkVal (tagg Tryz.prog 36) bs = eWld x ∧ FitW x ∧ In64 x.time := by
  intro bs h
  obtain ⟨hl, hf⟩ := typed_strct Tryz.underlying36 h
  rw [show Tryz.prog.cellsOf 36 = 15 by kernel_rfl] at hl
  obtain ⟨a, b, c, d, e, f, g, i, j, k, l, m, n, o, p, rfl⟩ := len15 hl
  simp [cells_int, show Tryz.prog.cellsOf 25 = 2 by kernel_rfl, show Tryz.prog.cellsOf 27 = 4 by kernel_rfl, show Tryz.prog.cellsOf 28 = 1 by kernel_rfl, show Tryz.prog.cellsOf 32 = 2 by kernel_rfl, show Tryz.prog.cellsOf 34 = 4 by kernel_rfl, show Tryz.prog.cellsOf 4 = 1 by kernel_rfl] at hf
  obtain ⟨h0, h1, h2, h3, h4, h5, h6⟩ := hf
  obtain ⟨x0, e0, w0⟩ := told_DiskC _ h0
  obtain ⟨x1, e1, w1⟩ := told_ConfigC _ h1
  obtain ⟨x2, e2, w2, q2⟩ := typed_list Tryz.underlying28 told_Host h2
  obtain ⟨x3, e3, w3⟩ := typed_int Tryz.underlying3 h3
  obtain ⟨x4, e4, w4⟩ := told_GuestC _ h4
  obtain ⟨x5, e5, w5⟩ := told_ReqC _ h5
  obtain ⟨x6, e6⟩ := typed_bool Tryz.underlying4 h6
  rw [show Tryz.prog.cellsOf 114 = 3 by kernel_rfl] at e2
  cases e0; cases e1; cases e2; cases e3; cases e4; cases e5; cases e6
  exact ⟨⟨x0, x1, x2, x3, x4, x5, x6⟩, by rw [show tagg Tryz.prog 36 = true by kernel_rfl]; rfl, ⟨w0, w2, w4, w5⟩, in64_of w3⟩
end Go.Proofs.YtdcgfapededocaaGreat


