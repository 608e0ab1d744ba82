/- A reading of the loaded code over plain data, its soundness, and what functions answer by it (part 10; joined by program). No condition. -/
import Derived.Test.YtccoeoppjcegnaaKD9
import Derived.WalkKit
import Derived.Lib.Walk
import Derived.Lib.SliceRun
set_option linter.all false
namespace Go.Proofs.Ytccoeoppjcegnaa
open Go Go.Lib
set_option maxRecDepth 100000
theorem clonestring_nil (n c : Nat) (w : World) : Calls Try.prog 156 #[.slice none n c] w fun e w' => e = .returned (.slice none 0 0) ∧ w' = w := by
  have t29 : Try.prog.underlying 29 = some (.slice 9) := by kernel_rfl
  have q29 : ∀ (w : World) (a : Option Addr) (n c n' c' : Nat), (binOp .eql 29 (.slice a n c) (.slice none n' c')).run Try.prog w = .ok (.bool a.isNone) w := fun w a n c n' c' => Lib.run_eql_slice_nil w _ _ a n c n' c' t29
  go_enter Try.func156, (rfl : Try.f156.ntmps = 8)
  go_wp2
  go_ret
  exact ⟨rfl, rfl⟩
theorem clonestring_none (a : Addr) (c : Nat) (w : World) : Calls Try.prog 156 #[.slice (some a) 0 c] w fun e w' => ∃ b, e = .returned (.slice b 0 0) ∧ Ext (fun _ => False) w w' := by
  have t29 : Try.prog.underlying 29 = some (.slice 9) := by kernel_rfl
  have q29 : ∀ (w : World) (a : Option Addr) (n c n' c' : Nat), (binOp .eql 29 (.slice a n c) (.slice none n' c')).run Try.prog w = .ok (.bool a.isNone) w := fun w a n c n' c' => Lib.run_eql_slice_nil w _ _ a n c n' c' t29
  go_enter Try.func156, (rfl : Try.f156.ntmps = 8)
  go_wp2
  go_ret
  refine ⟨some ⟨w.heap.size, 0, none⟩, ?_, push_ext _ w (.cells #[] 9)⟩
  simp
theorem clonestring_sound (m : Nat) : Sound Try.prog 156 [.sl m []] [] { val := .ref [0, 0, 0, 0] 0 0, own := [⟨false, 9, 1, []⟩] } := by
  refine ⟨⟨_, Try.func156, by decide, rfl⟩, fun w ι vals hl I hr _ _ _ _ => ?_⟩
  obtain ⟨x, rfl⟩ : ∃ x, vals = #[x] := ⟨vals.getD 0 undef, arr1 hl.symm undef⟩
  have h0 := hr 0 (by simp)
  simp at h0
  have left : ∀ w' b, Ext (fun _ => False) w w' → Left1 ι [] { val := .ref [0, 0, 0, 0] 0 0, own := [⟨false, 9, 1, []⟩] } w w' (.slice b 0 0) noMap := by
    intro w' b hx
    exact ⟨hx.mono fun _ _ h => h.elim, rfl, fun k hk => by simp at hk, fun k hk => by simp at hk; subst hk; exact .inl ⟨rfl, rfl, rfl⟩, (by intro _ _ _ _ _ h; cases h), (by intro _ _ _ h; cases h), .refE _ _ _⟩
  cases h0 with
  | slE m a cap =>
    cases a with
    | none => exact (clonestring_nil 0 cap w).mono fun e w' h => by obtain ⟨h1, h2⟩ := h; subst h2; exact ⟨_, _, h1, left _ none (Ext.refl _ _)⟩
    | some a => exact (clonestring_none a cap w).mono fun e w' h => by obtain ⟨b, h1, h2⟩ := h; exact ⟨_, _, h1, left w' b h2⟩
  | sl _ hn => exact absurd rfl hn
theorem cloneIo_nil (n c : Nat) (w : World) : Calls Try.prog 157 #[.slice none n c] w fun e w' => e = .returned (.slice none 0 0) ∧ w' = w := by
  have t29 : Try.prog.underlying 30 = some (.slice 154) := by kernel_rfl
  have q29 : ∀ (w : World) (a : Option Addr) (n c n' c' : Nat), (binOp .eql 30 (.slice a n c) (.slice none n' c')).run Try.prog w = .ok (.bool a.isNone) w := fun w a n c n' c' => Lib.run_eql_slice_nil w _ _ a n c n' c' t29
  go_enter Try.func157, (rfl : Try.f157.ntmps = 8)
  go_wp2
  go_ret
  exact ⟨rfl, rfl⟩
theorem cloneIo_none (a : Addr) (c : Nat) (w : World) : Calls Try.prog 157 #[.slice (some a) 0 c] w fun e w' => ∃ b, e = .returned (.slice b 0 0) ∧ Ext (fun _ => False) w w' := by
  have t29 : Try.prog.underlying 30 = some (.slice 154) := by kernel_rfl
  have q29 : ∀ (w : World) (a : Option Addr) (n c n' c' : Nat), (binOp .eql 30 (.slice a n c) (.slice none n' c')).run Try.prog w = .ok (.bool a.isNone) w := fun w a n c n' c' => Lib.run_eql_slice_nil w _ _ a n c n' c' t29
  go_enter Try.func157, (rfl : Try.f157.ntmps = 8)
  go_wp2
  go_ret
  refine ⟨some ⟨w.heap.size, 0, none⟩, ?_, push_ext _ w (.cells #[] 154)⟩
  simp
theorem cloneIo_sound (m : Nat) : Sound Try.prog 157 [.sl m []] [] { val := .ref [0, 0, 0, 0] 0 0, own := [⟨false, 154, 3, []⟩] } := by
  refine ⟨⟨_, Try.func157, by decide, rfl⟩, fun w ι vals hl I hr _ _ _ _ => ?_⟩
  obtain ⟨x, rfl⟩ : ∃ x, vals = #[x] := ⟨vals.getD 0 undef, arr1 hl.symm undef⟩
  have h0 := hr 0 (by simp)
  simp at h0
  have left : ∀ w' b, Ext (fun _ => False) w w' → Left1 ι [] { val := .ref [0, 0, 0, 0] 0 0, own := [⟨false, 154, 3, []⟩] } w w' (.slice b 0 0) noMap := by
    intro w' b hx
    exact ⟨hx.mono fun _ _ h => h.elim, rfl, fun k hk => by simp at hk, fun k hk => by simp at hk; subst hk; exact .inl ⟨rfl, rfl, rfl⟩, (by intro _ _ _ _ _ h; cases h), (by intro _ _ _ h; cases h), .refE _ _ _⟩
  cases h0 with
  | slE m a cap =>
    cases a with
    | none => exact (cloneIo_nil 0 cap w).mono fun e w' h => by obtain ⟨h1, h2⟩ := h; subst h2; exact ⟨_, _, h1, left _ none (Ext.refl _ _)⟩
    | some a => exact (cloneIo_none a cap w).mono fun e w' h => by obtain ⟨b, h1, h2⟩ := h; exact ⟨_, _, h1, left w' b h2⟩
  | sl _ hn => exact absurd rfl hn
theorem X0_sound {f : FuncId} {args : List AV} {H : List (Id × Blk)} {r : Res} (h : X0 f args H = some r) : Sound Try.prog f args H r := by
  unfold X0 at h
  split at h
  · rename_i hf
    subst hf
    split at h
    · obtain ⟨ss, ps, x, a, hr, rfl⟩ := readX_some h
      exact read_sound hr
    · cases h
  split at h
  · rename_i m
    unfold cloneOf at h
    split at h
    · rename_i hf; subst hf; simp at h; subst h; exact clonestring_sound m
    split at h
    · rename_i hf; subst hf; simp at h; subst h; exact cloneIo_sound m
    simp at h
  · cases h
theorem follows_mixed : Try.prog.follows .mixedOrders = true := by kernel_rfl
theorem calls_of {f : FuncId} {args : List AV} {b : Bool} {io own : List Blk} (h : E CX f args [] = some { val := .bool b, io := io, own := own }) {w : World} {vals : Array Value} (hl : args.length = vals.size)
    (hargs : ∀ i, i < args.length → Rep w (fun _ => False) noMap (args.getD i .dead) (vals.getD i undef)) : Calls Try.prog f vals w fun e w' => e = .returned (.bool b) ∧ Ext (fun _ => False) w w' :=
  E_calls (C := CX) follows_mixed (fun _ _ _ _ _ h => X0_sound h) h hl hargs
end Go.Proofs.Ytccoeoppjcegnaa

namespace Go.Proofs.Ytccoeoppjcegnaa
open Go
set_option linter.unusedSimpArgs false
set_option linter.unusedVariables false
def byteOf (n : Int) : UInt8 := UInt8.ofNat (n % 256).toNat
theorem byteOf_nat (n : Int) : ((byteOf n).toNat : Int) = n % 256 := by
  unfold byteOf
  rw [UInt8.toNat_ofNat']
  omega
theorem wrap_u8 (n : Int) : IntKind.u8.wrap n = ((byteOf n).toNat : Int) := by
  rw [byteOf_nat, IntKind.wrap_u8]
theorem wrap_byte (b : UInt8) : IntKind.i64.wrap ((b.toNat : Nat) : Int) = (b.toNat : Int) := wrap_id (by have := b.toNat_lt; omega)
def eByte (b : UInt8) : AV := .int .u8 (b.toNat : Int)
theorem bytesOf_map : ∀ l : List UInt8, bytesOf (l.map eByte) = some l := by
  intro l
  induction l with
  | nil => rfl
  | cons b l ih =>
    have h := b.toNat_lt
    simp only [List.map_cons, eByte, bytesOf]
    rw [if_pos (by omega), ih]
    simp
theorem sharesL_eByte (l : List UInt8) : AV.sharesL (l.map eByte) = false := sharesL_map (fun _ => rfl) l
theorem byte_lt (b : UInt8) : ((b.toNat : Nat) : Int) < 256 := by have := b.toNat_lt; omega
attribute [go_sem] wrap_u8 wrap_byte byte_lt bytesOf_map sharesL_eByte
/-- Four bytes of a number, the lowest first. -/
def four (n : Int) : List UInt8 := [byteOf n, byteOf (n / 256), byteOf (n / 65536), byteOf (n / 16777216)]
def packF : List Int → Tx
  | [] => []
  | n :: l => four n ++ packF l
def numOf (a b c d : UInt8) : Int := a.toNat + 256 * b.toNat + 65536 * c.toNat + 16777216 * d.toNat
def nums : Tx → List Int
  | a :: b :: c :: d :: t => numOf a b c d :: nums t
  | _ => []
def sumF : Tx → Int → Int → Int
  | [], _, n => n
  | b :: t, i, n => sumF t (i + 1) ((n + i * ((b.toNat : Int) + 1)).tmod 251)
def isNum (n : Int) : Bool := inn n 0 2147483647
def sealF (kind : Int) (l : List Int) : Tx :=
  [byteOf kind, byteOf l.length] ++ ([byteOf (sumF ([byteOf kind, byteOf l.length] ++ packF l) 1 0), 0] ++ packF l)
def intsOK (l : List Int) : Bool := decide (l.length ≤ 16) && l.all isNum
/-- The numbers of a record of a kind. -/
def openF (t : Tx) (kind : Int) : Option (List Int) :=
  if 4 ≤ t.length ∧ ((t.getD 0 0).toNat : Int) = kind ∧ inn kind 1 9 = true ∧ t.length % 4 = 0 ∧ intsOK (nums (t.drop 4)) = true ∧ sealF kind (nums (t.drop 4)) = t then some (nums (t.drop 4)) else none
theorem packF_length : ∀ l, (packF l).length = 4 * l.length := by
  intro l
  induction l with
  | nil => rfl
  | cons n l ih => simp only [packF, List.length_append, ih, four, List.length_cons, List.length_nil]; omega
theorem sumF_range : ∀ (t : Tx) (i n : Int), 0 ≤ i → 0 ≤ n → n < 251 → 0 ≤ sumF t i n ∧ sumF t i n < 251 := by
  intro t
  induction t with
  | nil => intro i n _ h1 h2; exact ⟨h1, h2⟩
  | cons b t ih =>
    intro i n h0 h1 h2
    have hp : 0 ≤ i * ((b.toNat : Int) + 1) := Int.mul_nonneg h0 (by omega)
    refine ih _ _ (by omega) ?_ ?_
    · rw [Int.tmod_eq_emod_of_nonneg (by omega)]; omega
    · rw [Int.tmod_eq_emod_of_nonneg (by omega)]; omega
theorem nums_length : ∀ (n : Nat) (t : Tx), t.length = n → (nums t).length = n / 4 := by
  intro n
  induction n using Nat.strongRecOn with
  | ind n ih =>
    intro t ht
    match t, ht with
    | a :: b :: c :: d :: t, ht =>
      simp only [List.length_cons] at ht
      simp only [nums, List.length_cons]
      rw [ih t.length (by omega) t rfl]
      omega
    | [], ht => simp only [List.length_nil] at ht; subst ht; rfl
    | [a], ht => simp only [List.length_cons, List.length_nil] at ht; subst ht; rfl
    | [a, b], ht => simp only [List.length_cons, List.length_nil] at ht; subst ht; rfl
    | [a, b, c], ht => simp only [List.length_cons, List.length_nil] at ht; subst ht; rfl
theorem numOf_range (a b c d : UInt8) : 0 ≤ numOf a b c d ∧ numOf a b c d < 4294967296 := by
  have h1 := a.toNat_lt; have h2 := b.toNat_lt; have h3 := c.toNat_lt; have h4 := d.toNat_lt
  unfold numOf; omega
end Go.Proofs.Ytccoeoppjcegnaa

namespace Go.Proofs.Ytccoeoppjcegnaa
open Go
set_option maxRecDepth 100000
set_option linter.unusedSimpArgs false
set_option linter.unusedVariables false
theorem firstAt_le {α : Type} (q : α → Bool) : ∀ (l : List α) (n : Nat), match firstAt q l n with
    | some k => l.any q = true
    | none => l.any q = false := by
  intro l
  induction l with
  | nil => intro n; simp [firstAt]
  | cons x l ih =>
    intro n
    unfold firstAt
    cases hq : q x
    · have := ih (n + 1)
      simp only [Bool.false_eq_true, if_false]
      cases hf : firstAt q l (n + 1) <;> rw [hf] at this <;> simp [hq] <;> simpa using this
    · simp [hq]
theorem any_not {α : Type} (q : α → Bool) (l : List α) : (l.any fun x => !q x) = !l.all q := by
  induction l with
  | nil => rfl
  | cons x l ih => simp only [List.any_cons, List.all_cons, ih]; cases q x <;> simp
theorem idx_any {α : Type} (q : α → Bool) (l : List α) : decide (0 ≤ idxOf (firstAt q l 0)) = l.any q := by
  have := firstAt_le q l 0
  cases hf : firstAt q l 0 with
  | none => rw [hf] at this; simp only at this; rw [this]; simp [idxOf]
  | some k => rw [hf] at this; simp only at this; rw [this]; simp [idxOf]
theorem notString_E (f : FuncId) (x : Tx) (b : Bool) (hio : (annA f).io = []) (hf : E CX f [AV.str x] [] = some { val := .bool b }) : E CX 193 [AV.str x, .rptr [.fn f []]] [] = some { val := .bool (!b) } := by
  refine E_fin Try.f193 _ an193 rfl rfl rfl Try.func193 rfl (by kernel_rfl) ?_
  simp [go_sem, hf, hio]
theorem indexFuncString_E (g : FuncId) (cap : List AV) (l : List Tx) (q : Tx → Bool) (hio : (annA g).io = []) (hl : l.length ≤ 1073741824) (hf : ∀ x, E CX g [AV.str x, .rptr cap] [] = some { val := .bool (q x) }) : E CX 206 [.sl 1 (l.map AV.str), .fn g [.rptr cap]] [] = some { val := .int .i64 (idxOf (firstAt q l 0)) } := by
  refine E_fin Try.f206 _ an206 rfl rfl rfl Try.func206 rfl (by kernel_rfl) ?_
  simp [go_sem]
  refine loop_list (fun X => fin CX _ _ X = _) l (fun n _ => True) (fun n (_ : Unit) => ⟨SS [(0, .sl 1 (l.map AV.str)), (1, .fn g [.rptr cap]), (7, .int .i64 l.length), (8, .int .i64 n)], HE⟩)
     (fun r n _ => match firstAt q r n with
    | some k => (.ret, ⟨SS [(4, .int .i64 k)], HE⟩)
    | none => (.exit 0, ⟨SS [], HE⟩)) () trivial ?_ ?_ ?_ ?_ ?_
  · simp [go_sem]
  · intro n _ x t hn hx hd _
    have hx := hx hn
    have hE := hf x
    cases hq : q x
    · rw [hq] at hE
      simp [go_sem, firstAt, hq, hio, hE, hn, hx, wrap_id (n := (n : Int) + 1) (by omega)]
    · rw [hq] at hE
      simp [go_sem, firstAt, hq, hio, hE, hn, hx]
  · intro _ _; simp [go_sem, firstAt]
  · intro _; simp [firstAt]
  · cases hr : firstAt q l 0 <;> simp [go_sem, hr, idxOf]
theorem containsFuncString_E (g : FuncId) (cap : List AV) (l : List Tx) (q : Tx → Bool) (hio : (annA g).io = []) (hl : l.length ≤ 1073741824) (hf : ∀ x, E CX g [AV.str x, .rptr cap] [] = some { val := .bool (q x) }) : E CX 192 [.sl 1 (l.map AV.str), .fn g [.rptr cap]] [] = some { val := .bool (l.any q) } := by
  refine E_fin Try.f192 _ an192 rfl rfl rfl Try.func192 rfl (by kernel_rfl) ?_
  simp [go_sem, indexFuncString_E g cap l q hio hl hf, idx_any]
theorem allString_E (f : FuncId) (l : List Tx) (q : Tx → Bool) (hio : (annA f).io = []) (hl : l.length ≤ 1073741824) (hf : ∀ x, E CX f [AV.str x] [] = some { val := .bool (q x) }) : E CX 158 [.sl 1 (l.map AV.str), .fn f []] [] = some { val := .bool (l.all q) } := by
  refine E_fin Try.f158 _ an158 rfl rfl rfl Try.func158 rfl (by kernel_rfl) ?_
  have h := containsFuncString_E 193 [.fn f []] l (fun x => !q x) rfl hl (fun x => notString_E f x (q x) hio (hf x))
  rw [any_not] at h
  simp [go_sem, h]
theorem notIo_E (f : FuncId) (x : Io) (b : Bool) (hio : (annA f).io = []) (hf : E CX f [eIo x] [] = some { val := .bool b }) : E CX 195 [eIo x, .rptr [.fn f []]] [] = some { val := .bool (!b) } := by
  refine E_fin Try.f195 _ an195 rfl rfl rfl Try.func195 rfl (by kernel_rfl) ?_
  simp only [eIo] at hf
  simp [go_sem, hf, hio, eIo]
theorem indexFuncIo_E (g : FuncId) (cap : List AV) (l : List Io) (q : Io → Bool) (hio : (annA g).io = []) (hl : l.length ≤ 1073741824) (hf : ∀ x, E CX g [eIo x, .rptr cap] [] = some { val := .bool (q x) }) : E CX 204 [.sl 3 (l.map eIo), .fn g [.rptr cap]] [] = some { val := .int .i64 (idxOf (firstAt q l 0)) } := by
  refine E_fin Try.f204 _ an204 rfl rfl rfl Try.func204 rfl (by kernel_rfl) ?_
  simp [go_sem]
  refine loop_list (fun X => fin CX _ _ X = _) l (fun n _ => True) (fun n (_ : Unit) => ⟨SS [(0, .sl 3 (l.map eIo)), (1, .fn g [.rptr cap]), (7, .int .i64 l.length), (8, .int .i64 n)], HE⟩)
     (fun r n _ => match firstAt q r n with
    | some k => (.ret, ⟨SS [(4, .int .i64 k)], HE⟩)
    | none => (.exit 0, ⟨SS [], HE⟩)) () trivial ?_ ?_ ?_ ?_ ?_
  · simp [go_sem]
  · intro n _ x t hn hx hd _
    have hx := hx hn
    have hE := hf x
    simp only [eIo] at hE
    cases hq : q x
    · rw [hq] at hE
      simp [go_sem, firstAt, hq, hio, hE, hn, hx, wrap_id (n := (n : Int) + 1) (by omega), eIo]
    · rw [hq] at hE
      simp [go_sem, firstAt, hq, hio, hE, hn, hx, eIo]
  · intro _ _; simp [go_sem, firstAt]
  · intro _; simp [firstAt]
  · cases hr : firstAt q l 0 <;> simp [go_sem, hr, idxOf]
theorem containsFuncIo_E (g : FuncId) (cap : List AV) (l : List Io) (q : Io → Bool) (hio : (annA g).io = []) (hl : l.length ≤ 1073741824) (hf : ∀ x, E CX g [eIo x, .rptr cap] [] = some { val := .bool (q x) }) : E CX 194 [.sl 3 (l.map eIo), .fn g [.rptr cap]] [] = some { val := .bool (l.any q) } := by
  refine E_fin Try.f194 _ an194 rfl rfl rfl Try.func194 rfl (by kernel_rfl) ?_
  simp [go_sem, indexFuncIo_E g cap l q hio hl hf, idx_any]
theorem allIo_E (f : FuncId) (l : List Io) (q : Io → Bool) (hio : (annA f).io = []) (hl : l.length ≤ 1073741824) (hf : ∀ x, E CX f [eIo x] [] = some { val := .bool (q x) }) : E CX 159 [.sl 3 (l.map eIo), .fn f []] [] = some { val := .bool (l.all q) } := by
  refine E_fin Try.f159 _ an159 rfl rfl rfl Try.func159 rfl (by kernel_rfl) ?_
  have h := containsFuncIo_E 195 [.fn f []] l (fun x => !q x) rfl hl (fun x => notIo_E f x (q x) hio (hf x))
  rw [any_not] at h
  simp [go_sem, h]
end Go.Proofs.Ytccoeoppjcegnaa

namespace Go.Proofs.Ytccoeoppjcegnaa
open Go
set_option maxRecDepth 100000
def vInt (n : Int) : Blk := ⟨true, 3, 1, [.int .i64 n]⟩
def vBool (b : Bool) : Blk := ⟨true, 4, 1, [.bool b]⟩
def vDisk (a b : AV) : Blk := ⟨true, 32, 2, [.agg [a, b]]⟩
def rStr (l : List (List UInt8)) : Blk := ⟨false, 9, 1, l.map .str⟩
theorem settle1_E (x : Io) (h k : Int) (lose : Bool) (ss : List (List UInt8)) (n : Nat) (es : List AV) (ha : 0 ≤ x.at_ ∧ x.at_.toNat < ss.length) (hk : In64 k) :
    E CX 177 [eIo x, .ptr [1] 0 0, .ptr [2] 0 0, .ptr [3] 0 0, .ptr [4] 0 0] [([1], vInt h), ([2], vInt k), ([3], vDisk (.ref [3, 0] 0 ss.length) (.ref [3, 1] 0 n)), ([3, 0], rStr ss), ([3, 1], ⟨false, 154, 3, es⟩), ([4], vBool lose)] =
      some { val := .bool (if x.host = h then (if 0 < k then true else lose) else false), io := [vInt h, vInt (if x.host = h ∧ 0 < k then k - 1 else k), vDisk (.ref [3, 0] 0 ss.length) (.ref [3, 1] 0 n), rStr (if x.host = h ∧ 0 < k then ss.set x.at_.toNat x.data else ss), ⟨false, 154, 3, es⟩, vBool lose] } := by
  refine E_fin Try.f177 _ an177 rfl rfl rfl Try.func177 rfl (by kernel_rfl) ?_
  obtain ⟨hx, a, d⟩ := x
  obtain ⟨ha1, ha2⟩ := ha
  unfold In64 at hk
  by_cases c1 : hx = h
  · by_cases c2 : 0 < k
    · simp [go_sem, eIo, vInt, vBool, vDisk, rStr, c1, c2, ha1, ha2, wrap_id (n := k - 1) (by omega)]
    · simp [go_sem, eIo, vInt, vBool, vDisk, rStr, c1, c2]
  · simp [go_sem, eIo, vInt, vBool, vDisk, rStr, c1]
def rIo (l : List Io) : Blk := ⟨false, 154, 3, l.map eIo⟩
/-- Does a write go? -/
def goes (h k : Int) (lose : Bool) (x : Io) : Bool := if x.host = h then (if 0 < k then true else lose) else false
def kOf (h k : Int) (x : Io) : Int := if x.host = h ∧ 0 < k then k - 1 else k
def sOf (h k : Int) (ss : List (List UInt8)) (x : Io) : List (List UInt8) := if x.host = h ∧ 0 < k then ss.set x.at_.toNat x.data else ss
theorem settle1_E' (x : Io) (h k : Int) (lose : Bool) (ss : List (List UInt8)) (n m : Nat) (es : List AV) (hm : m = ss.length) (ha : 0 ≤ x.at_ ∧ x.at_.toNat < ss.length) (hk : In64 k) :
    E CX 177 [eIo x, .ptr [1] 0 0, .ptr [2] 0 0, .ptr [3] 0 0, .ptr [4] 0 0] [([1], ⟨true, 3, 1, [.int .i64 h]⟩), ([2], ⟨true, 3, 1, [.int .i64 k]⟩), ([3], ⟨true, 32, 2, [.agg [.ref [3, 0] 0 m, .ref [3, 1] 0 n]]⟩), ([3, 0], ⟨false, 9, 1, ss.map .str⟩), ([3, 1], ⟨false, 154, 3, es⟩), ([4], ⟨true, 4, 1, [.bool lose]⟩)] =
      some { val := .bool (goes h k lose x), io := [⟨true, 3, 1, [.int .i64 h]⟩, ⟨true, 3, 1, [.int .i64 (kOf h k x)]⟩, ⟨true, 32, 2, [.agg [.ref [3, 0] 0 m, .ref [3, 1] 0 n]]⟩, ⟨false, 9, 1, (sOf h k ss x).map .str⟩, ⟨false, 154, 3, es⟩, ⟨true, 4, 1, [.bool lose]⟩] } := by
  subst hm; exact settle1_E x h k lose ss n es ha hk
/-- Where the first one goes, and what it leaves. -/
theorem stay {h k : Int} {lose : Bool} {x : Io} (hg : goes h k lose x = false) : kOf h k x = k ∧ ∀ ss, sOf h k ss x = ss := by
  unfold goes at hg
  unfold kOf sOf
  by_cases c1 : x.host = h
  · by_cases c2 : 0 < k
    · simp [c1, c2] at hg
    · simp [c2]
  · simp [c1]
def after1 (h k : Int) (lose : Bool) (ss : List (List UInt8)) : List Io → Int × List (List UInt8)
  | [] => (k, ss)
  | x :: l => if goes h k lose x then (kOf h k x, sOf h k ss x) else after1 h k lose ss l
theorem idx204_E (ps : List Io) (h k : Int) (lose : Bool) (ss : List (List UInt8)) (hl : ps.length ≤ 1073741824) (hp : ∀ x ∈ ps, 0 ≤ x.at_ ∧ x.at_.toNat < ss.length) (hk : In64 k) :
    E CX 204 [.ref [0] 0 ps.length, .fn 177 [.ptr [1, 0] 0 0, .ptr [1, 1] 0 0, .ptr [1, 2] 0 0, .ptr [1, 3] 0 0]] [([0], ⟨false, 154, 3, ps.map eIo⟩), ([1, 0], ⟨true, 3, 1, [.int .i64 h]⟩), ([1, 1], ⟨true, 3, 1, [.int .i64 k]⟩), ([1, 2], ⟨true, 32, 2, [.agg [.ref [1, 2, 0] 0 ss.length, .ref [0] 0 ps.length]]⟩), ([1, 2, 0], ⟨false, 9, 1, ss.map .str⟩), ([1, 3], ⟨true, 4, 1, [.bool lose]⟩)] =
      some { val := .int .i64 (idxOf (firstAt (goes h k lose) ps 0)), io := [⟨false, 154, 3, ps.map eIo⟩, ⟨true, 3, 1, [.int .i64 h]⟩, ⟨true, 3, 1, [.int .i64 (after1 h k lose ss ps).1]⟩, ⟨true, 32, 2, [.agg [.ref [1, 2, 0] 0 ss.length, .ref [0] 0 ps.length]]⟩, ⟨false, 9, 1, (after1 h k lose ss ps).2.map .str⟩, ⟨true, 4, 1, [.bool lose]⟩] } := by
  refine E_fin Try.f204 _ an204 rfl rfl rfl Try.func204 rfl (by kernel_rfl) ?_
  simp [go_sem]
  refine loop_at (fun X => fin CX _ _ X = _) (fun n : Nat => n ≤ ps.length) (fun n => ⟨SS [(0, .ref [0] 0 ps.length), (1, .fn 177 [.ptr [1, 0] 0 0, .ptr [1, 1] 0 0, .ptr [1, 2] 0 0, .ptr [1, 3] 0 0]), (7, .int .i64 ps.length), (8, .int .i64 n)],
      HS [([0], ⟨false, 154, 3, ps.map eIo⟩), ([1, 0], ⟨true, 3, 1, [.int .i64 h]⟩), ([1, 1], ⟨true, 3, 1, [.int .i64 k]⟩), ([1, 2], ⟨true, 32, 2, [.agg [.ref [1, 2, 0] 0 ss.length, .ref [0] 0 ps.length]]⟩), ([1, 2, 0], ⟨false, 9, 1, ss.map .str⟩), ([1, 3], ⟨true, 4, 1, [.bool lose]⟩)]⟩)
     (fun n => (match firstAt (goes h k lose) (ps.drop n) n with | some _ => .ret | none => .exit 0, ⟨SS (match firstAt (goes h k lose) (ps.drop n) n with | some k => [(4, .int .i64 k)] | none => []),
      HS [([0], ⟨false, 154, 3, ps.map eIo⟩), ([1, 0], ⟨true, 3, 1, [.int .i64 h]⟩), ([1, 1], ⟨true, 3, 1, [.int .i64 (after1 h k lose ss (ps.drop n)).1]⟩), ([1, 2], ⟨true, 32, 2, [.agg [.ref [1, 2, 0] 0 ss.length, .ref [0] 0 ps.length]]⟩), ([1, 2, 0], ⟨false, 9, 1, (after1 h k lose ss (ps.drop n)).2.map .str⟩), ([1, 3], ⟨true, 4, 1, [.bool lose]⟩)]⟩)) (fun n => ps.length - n) 0 (by omega) ?_ ?_ ?_
  · simp [go_sem]
  · rintro n hn
    by_cases hlt : n < ps.length
    · obtain ⟨x, t, hx, hd, ht⟩ : ∃ x t, ps[n] = x ∧ ps.drop n = x :: t ∧ ps.drop (n + 1) = t := ⟨ps[n], ps.drop (n + 1), rfl, List.drop_eq_getElem_cons hlt, rfl⟩
      have hxp := hp x (by rw [← hx]; exact List.getElem_mem hlt)
      have hE := settle1_E' x h k lose ss ps.length ss.length (ps.map eIo) rfl hxp hk
      cases hq : goes h k lose x
      · obtain ⟨e1, e2⟩ := stay hq
        rw [hq, e1, e2] at hE
        simp only [eIo] at hE
        simp [go_sem, eIo, hd, firstAt, after1, hq, hE, hlt, hx, wrap_id (n := (n : Int) + 1) (by omega)]
        refine ⟨n + 1, by omega, by omega, ?_⟩
        simp [ht]
      · rw [hq] at hE
        simp only [eIo] at hE
        simp [go_sem, eIo, hd, firstAt, after1, hq, hE, hlt, hx]
    · have : ps.drop n = [] := List.drop_eq_nil_of_le (by omega)
      simp [go_sem, this, firstAt, hlt, after1]
  · cases hr : firstAt (goes h k lose) ps 0 <;> simp [go_sem, hr, idxOf]
end Go.Proofs.Ytccoeoppjcegnaa

namespace Go.Proofs.Ytccoeoppjcegnaa
open Go
set_option maxRecDepth 100000
structure DS where
  i : Nat
  k : Int
  ss : List (List UInt8)
  cur : List Io
def delF (h : Int) (lose : Bool) : List Io → DS → DS
  | [], s => s
  | x :: l, s => delF h lose l (if goes h s.k lose x then { s with k := kOf h s.k x, ss := sOf h s.k s.ss x } else { s with i := s.i + 1, cur := s.cur.set s.i x })
def dHeap (h : Int) (lose : Bool) (m n : Nat) (s : DS) : List (Id × Blk) := [([0], ⟨false, 154, 3, s.cur.map eIo⟩), ([1, 0], ⟨true, 3, 1, [.int .i64 h]⟩), ([1, 1], ⟨true, 3, 1, [.int .i64 s.k]⟩), ([1, 2], ⟨true, 32, 2, [.agg [.ref [1, 2, 0] 0 m, .ref [0] 0 n]]⟩), ([1, 2, 0], ⟨false, 9, 1, s.ss.map .str⟩), ([1, 3], ⟨true, 4, 1, [.bool lose]⟩)]
def zIo : Io := ⟨0, 0, []⟩
/-- DeleteFunc, as far as the first one that goes, then on. -/
def delA (h : Int) (lose : Bool) (k : Int) (ss : List (List UInt8)) (ps : List Io) : DS := match firstAt (goes h k lose) ps 0 with
  | none => ⟨ps.length, k, ss, ps⟩
  | some i => delF h lose (ps.drop (i + 1)) ⟨i, (after1 h k lose ss ps).1, (after1 h k lose ss ps).2, ps⟩
theorem del176_E (ps : List Io) (h k : Int) (lose : Bool) (ss : List (List UInt8)) (hl : ps.length ≤ 1073741824) (hp : ∀ x ∈ ps, 0 ≤ x.at_ ∧ x.at_.toNat < ss.length) (hk : In64 k) (hno : firstAt (goes h k lose) ps 0 = none) :
    E CX 176 [.ref [0] 0 ps.length, .fn 177 [.ptr [1, 0] 0 0, .ptr [1, 1] 0 0, .ptr [1, 2] 0 0, .ptr [1, 3] 0 0]] (dHeap h lose ss.length ps.length ⟨0, k, ss, ps⟩) =
      some { val := .ref [0] 0 ps.length, io := (dHeap h lose ss.length ps.length ⟨0, (after1 h k lose ss ps).1, (after1 h k lose ss ps).2, ps⟩).map (·.2) } := by
  refine E_fin Try.f176 _ an176 rfl rfl rfl Try.func176 rfl (by kernel_rfl) ?_
  have hE := idx204_E ps h k lose ss hl hp hk
  rw [hno] at hE
  simp [go_sem, dHeap, hE, idxOf]
structure DInv (ps : List Io) (m : Nat) (j : Nat) (s : DS) : Prop where
  hj : j ≤ ps.length
  hi : s.i < j
  hs : s.ss.length = m
  hlen : s.cur.length = ps.length
  hrest : s.cur.drop j = ps.drop j
  hk : In64 s.k
theorem delSome_E (ps : List Io) (h k : Int) (lose : Bool) (ss : List (List UInt8)) (hl : ps.length ≤ 1073741824) (hp : ∀ x ∈ ps, 0 ≤ x.at_ ∧ x.at_.toNat < ss.length) (hk : In64 k) (i0 : Nat) (hi0 : i0 < ps.length) (hf : firstAt (goes h k lose) ps 0 = some i0) (k1 : Int) (ss1 : List (List UInt8)) (ha : after1 h k lose ss ps = (k1, ss1)) (hk1 : In64 k1) (hs1 : ss1.length = ss.length) (r : DS) (hr : delF h lose (ps.drop (i0 + 1)) ⟨i0, k1, ss1, ps⟩ = r) (hri : r.i ≤ ps.length) (hrl : r.cur.length = ps.length) :
    E CX 176 [.ref [0] 0 ps.length, .fn 177 [.ptr [1, 0] 0 0, .ptr [1, 1] 0 0, .ptr [1, 2] 0 0, .ptr [1, 3] 0 0]] (dHeap h lose ss.length ps.length ⟨0, k, ss, ps⟩) =
      some { val := .ref [0] 0 r.i, io := (dHeap h lose ss.length ps.length ⟨0, r.k, r.ss, r.cur.take r.i ++ List.replicate (ps.length - r.i) zIo⟩).map (·.2) } := by
  refine E_fin Try.f176 _ an176 rfl rfl rfl Try.func176 rfl (by kernel_rfl) ?_
  have hE := idx204_E ps h k lose ss hl hp hk
  rw [hf, ha] at hE
  simp [go_sem, dHeap, hE, idxOf, wrap_id (n := (i0 : Int) + 1) (by omega)]
  refine loop_at (fun X => fin CX _ _ X = _) (fun x : Nat × DS => DInv ps ss.length x.1 x.2) (fun x => ⟨SS [(0, .ref [0] 0 ps.length), (1, .fn 177 [.ptr [1, 0] 0 0, .ptr [1, 1] 0 0, .ptr [1, 2] 0 0, .ptr [1, 3] 0 0]), (5, .int .i64 x.2.i), (6, .int .i64 x.1)], HS (dHeap h lose ss.length ps.length x.2)⟩)
    (fun x => (.exit 0, ⟨SS [(0, .ref [0] 0 ps.length), (5, .int .i64 (delF h lose (ps.drop x.1) x.2).i)], HS (dHeap h lose ss.length ps.length (delF h lose (ps.drop x.1) x.2))⟩)) (fun x => ps.length - x.1) (i0 + 1, ⟨i0, k1, ss1, ps⟩) ⟨by omega, by simp, hs1, by simp, by simp, hk1⟩ ?_ ?_ ?_
  · simp [go_sem, dHeap]
  · rintro ⟨j, s⟩ hI
    obtain ⟨i, kk, sk, cur⟩ := s
    obtain ⟨I1, I2, I3, I4, I5, I6⟩ := hI
    simp only at I1 I2 I3 I4 I5 I6
    by_cases hlt : j < ps.length
    · obtain ⟨x, t, hx, hd, ht⟩ : ∃ x t, ps[j] = x ∧ ps.drop j = x :: t ∧ ps.drop (j + 1) = t := ⟨ps[j], ps.drop (j + 1), rfl, List.drop_eq_getElem_cons hlt, rfl⟩
      have hxp := hp x (by rw [← hx]; exact List.getElem_mem hlt)
      have hlc : j < cur.length := by omega
      have hcj : cur[j]? = some x := by
        have : (cur.drop j)[0]? = some x := by rw [I5, hd]; rfl
        simpa using this
      have hcj' : cur[j] = x := by rw [List.getElem?_eq_getElem hlc] at hcj; injection hcj
      have hdc : cur.drop (j + 1) = t := by
        have := congrArg (List.drop 1) I5
        rw [List.drop_drop, hd] at this
        simpa [Nat.add_comm] using this
      have hlt2 : i < cur.length := by omega
      have hE := settle1_E' x h kk lose sk ps.length ss.length (cur.map eIo) I3.symm (by rw [I3]; exact hxp) I6
      cases hq : goes h kk lose x
      · obtain ⟨e1, e2⟩ := stay hq
        rw [hq, e1, e2] at hE
        simp only [eIo] at hE
        simp [go_sem, dHeap, eIo, hd, delF, hq, hE, hlt, hlc, hcj', I4, show i < ps.length from by omega, hlt2, wrap_id (n := (j : Int) + 1) (by omega), wrap_id (n := (i : Int) + 1) (by omega)]
        refine ⟨j + 1, ⟨i + 1, kk, sk, cur.set i x⟩, ⟨by omega, by simp; omega, I3, by simp [I4], ?_, I6⟩, by omega, ?_⟩
        · simp only [ht]; rw [List.drop_set_of_lt (by omega)]; exact hdc
        · simp [ht, List.map_set, eIo]
      · rw [hq] at hE
        simp only [eIo] at hE
        simp [go_sem, dHeap, eIo, hd, delF, hq, hE, hlt, hlc, hcj', I4, show i < ps.length from by omega, hlt2, wrap_id (n := (j : Int) + 1) (by omega), wrap_id (n := (i : Int) + 1) (by omega)]
        refine ⟨j + 1, ⟨i, kOf h kk x, sOf h kk sk x, cur⟩, ⟨by omega, by simp only; omega, ?_, I4, ?_, ?_⟩, by omega, ?_⟩
        · simp only [sOf]; split <;> simp [I3]
        · simp only [ht]; exact hdc
        · unfold In64 at I6 ⊢; simp only [kOf]; split <;> omega
        · simp [ht]
    · have : ps.drop j = [] := List.drop_eq_nil_of_le (by omega)
      simp [go_sem, dHeap, this, delF, hlt]
  · have hdn : List.drop (r.i + (ps.length - r.i)) r.cur = [] := List.drop_eq_nil_of_le (by omega)
    simp [go_sem, dHeap, hr, hri, hrl, zIo, hdn, eIo]
end Go.Proofs.Ytccoeoppjcegnaa

namespace Go.Proofs.Ytccoeoppjcegnaa
open Go
set_option maxRecDepth 100000
abbrev Txt := List UInt8
/-- Writes that are left, writes that may still land, and sectors. -/
def landL (h : Int) (lose : Bool) : List Io → Int → List Txt → List Io × Int × List Txt
  | [], k, ss => ([], k, ss)
  | x :: l, k, ss => if goes h k lose x then landL h lose l (kOf h k x) (sOf h k ss x) else (x :: (landL h lose l k ss).1, (landL h lose l k ss).2)
theorem delF_spec (h : Int) (lose : Bool) : ∀ (l : List Io) (s : DS), s.i + l.length ≤ s.cur.length →
    (delF h lose l s).i = s.i + (landL h lose l s.k s.ss).1.length ∧ ((delF h lose l s).k, (delF h lose l s).ss) = (landL h lose l s.k s.ss).2 ∧ (delF h lose l s).cur.length = s.cur.length ∧
    (delF h lose l s).cur.take (delF h lose l s).i = s.cur.take s.i ++ (landL h lose l s.k s.ss).1 := by
  intro l
  induction l with
  | nil => intro s _; simp [delF, landL]
  | cons x l ih =>
    intro s hs
    simp only [List.length_cons] at hs
    unfold delF landL
    by_cases hg : goes h s.k lose x = true
    · simp only [hg, if_true]
      exact ih ⟨s.i, kOf h s.k x, sOf h s.k s.ss x, s.cur⟩ (by simp only; omega)
    · simp only [hg]
      obtain ⟨h1, h2, h3, h4⟩ := ih ⟨s.i + 1, s.k, s.ss, s.cur.set s.i x⟩ (by simp only [List.length_set]; omega)
      simp only at h1 h2 h3 h4
      refine ⟨by simp only [Bool.false_eq_true, if_false, List.length_cons]; rw [h1]; omega, by simp only [Bool.false_eq_true, if_false]; exact h2, by simp only [Bool.false_eq_true, if_false]; rw [h3, List.length_set], ?_⟩
      simp only [Bool.false_eq_true, if_false]
      rw [h4, List.take_add_one, List.take_set_of_le (Nat.le_refl _)]
      simp [show s.i < s.cur.length from by omega]
theorem landL_len (h : Int) (lose : Bool) : ∀ (l : List Io) (k : Int) (ss : List Txt), (landL h lose l k ss).1.length ≤ l.length ∧ (landL h lose l k ss).2.2.length = ss.length := by
  intro l
  induction l with
  | nil => intro k ss; simp [landL]
  | cons x l ih =>
    intro k ss
    unfold landL
    split
    · have := ih (kOf h k x) (sOf h k ss x)
      refine ⟨by simp only [List.length_cons]; omega, ?_⟩
      rw [this.2]; unfold sOf; split <;> simp
    · have := ih k ss
      exact ⟨by simp only [List.length_cons]; omega, this.2⟩
theorem landL_all (h : Int) (lose : Bool) (p : Io → Prop) : ∀ (l : List Io) (k : Int) (ss : List Txt), (∀ x ∈ l, p x) → ∀ x ∈ (landL h lose l k ss).1, p x := by
  intro l
  induction l with
  | nil => intro k ss _ x hx; simp [landL] at hx
  | cons y l ih =>
    intro k ss hp x hx
    unfold landL at hx
    split at hx
    · exact ih _ _ (fun x hx => hp x (by simp [hx])) x hx
    · simp only [List.mem_cons] at hx
      rcases hx with rfl | hx
      · exact hp _ (by simp)
      · exact ih _ _ (fun x hx => hp x (by simp [hx])) x hx
theorem landL_first (h : Int) (lose : Bool) (k : Int) (ss : List Txt) : ∀ (l : List Io) (n : Nat), match firstAt (goes h k lose) l n with
    | none => landL h lose l k ss = (l, k, ss) ∧ after1 h k lose ss l = (k, ss)
    | some i => ∃ j, i = n + j ∧ j < l.length ∧ landL h lose l k ss = (l.take j ++ (landL h lose (l.drop (j + 1)) (after1 h k lose ss l).1 (after1 h k lose ss l).2).1, (landL h lose (l.drop (j + 1)) (after1 h k lose ss l).1 (after1 h k lose ss l).2).2) := by
  intro l
  induction l with
  | nil => intro n; simp [firstAt, landL, after1]
  | cons x l ih =>
    intro n
    unfold firstAt
    by_cases hg : goes h k lose x = true
    · simp only [hg, if_true]
      exact ⟨0, by omega, by simp, by simp [landL, after1, hg]⟩
    · simp only [hg, Bool.false_eq_true, if_false]
      have := ih (n + 1)
      cases hf : firstAt (goes h k lose) l (n + 1) with
      | none => rw [hf] at this; simp [landL, after1, hg, this.1, this.2]
      | some i =>
        rw [hf] at this
        obtain ⟨j, e1, e2, e3⟩ := this
        refine ⟨j + 1, by omega, by simpa using e2, ?_⟩
        simp only [landL, after1, hg, Bool.false_eq_true, if_false, e3]
        simp
theorem after1_len (h k : Int) (lose : Bool) (ss : List Txt) : ∀ l : List Io, (after1 h k lose ss l).2.length = ss.length := by
  intro l
  induction l with
  | nil => rfl
  | cons x l ih =>
    unfold after1
    split
    · unfold sOf; split <;> simp
    · exact ih
theorem after1_k (h k : Int) (lose : Bool) (ss : List Txt) (hk : In64 k) : ∀ l : List Io, In64 (after1 h k lose ss l).1 := by
  intro l
  induction l with
  | nil => exact hk
  | cons x l ih =>
    unfold after1
    split
    · unfold In64 at hk ⊢; unfold kOf; simp only; split <;> omega
    · exact ih
theorem del_E (ps : List Io) (h k : Int) (lose : Bool) (ss : List Txt) (hl : ps.length ≤ 1073741824) (hp : ∀ x ∈ ps, 0 ≤ x.at_ ∧ x.at_.toNat < ss.length) (hk : In64 k) :
    E CX 176 [.ref [0] 0 ps.length, .fn 177 [.ptr [1, 0] 0 0, .ptr [1, 1] 0 0, .ptr [1, 2] 0 0, .ptr [1, 3] 0 0]] (dHeap h lose ss.length ps.length ⟨0, k, ss, ps⟩) =
      some { val := .ref [0] 0 (landL h lose ps k ss).1.length, io := (dHeap h lose ss.length ps.length ⟨0, (landL h lose ps k ss).2.1, (landL h lose ps k ss).2.2, (landL h lose ps k ss).1 ++ List.replicate (ps.length - (landL h lose ps k ss).1.length) zIo⟩).map (·.2) } := by
  have hf := landL_first h lose k ss ps 0
  cases hc : firstAt (goes h k lose) ps 0 with
  | none =>
    rw [hc] at hf
    rw [del176_E ps h k lose ss hl hp hk hc, hf.1, hf.2]
    simp
  | some i0 =>
    rw [hc] at hf
    obtain ⟨j, e1, e2, e3⟩ := hf
    have : i0 = j := by omega
    subst this
    have hs := delF_spec h lose (ps.drop (i0 + 1)) ⟨i0, (after1 h k lose ss ps).1, (after1 h k lose ss ps).2, ps⟩ (by simp only [List.length_drop]; omega)
    have hln := (landL_len h lose (ps.drop (i0 + 1)) (after1 h k lose ss ps).1 (after1 h k lose ss ps).2).1
    simp only [List.length_drop] at hln
    obtain ⟨s1, s2, s3, s4⟩ := hs
    simp only at s1 s2 s3 s4
    have := delSome_E ps h k lose ss hl hp hk i0 e2 hc (after1 h k lose ss ps).1 (after1 h k lose ss ps).2 rfl (after1_k h k lose ss hk ps) (after1_len h k lose ss ps) _ rfl (by rw [s1]; omega) s3
    rw [this, s4, e3, s1, ← s2]
    simp [Nat.min_eq_left (Nat.le_of_lt e2)]
end Go.Proofs.Ytccoeoppjcegnaa

namespace Go.Proofs.Ytccoeoppjcegnaa
open Go
set_option maxRecDepth 100000
set_option linter.unusedSimpArgs false
set_option linter.unusedVariables false
def firstP : List (Bool × Int) → Int
  | [] => 0
  | p :: l => if p.1 then p.2 else firstP l
def anys : List (Bool × Int) → List AV
  | [] => []
  | p :: l => .iface 4 (.bool p.1) :: .iface 3 (.int .i64 p.2) :: anys l
theorem anys_length : ∀ l, (anys l).length = 2 * l.length := by
  intro l
  induction l with
  | nil => rfl
  | cons p l ih => simp only [anys, List.length_cons, ih]; omega
theorem anys_at : ∀ (l : List (Bool × Int)) (n : Nat) (p : Bool × Int), l[n]? = some p → (anys l)[2 * n]? = some (.iface 4 (.bool p.1)) ∧ (anys l)[2 * n + 1]? = some (.iface 3 (.int .i64 p.2)) := by
  intro l
  induction l with
  | nil => intro n p h; simp at h
  | cons q l ih =>
    intro n p h
    cases n with
    | zero => simp at h; subst h; simp [anys]
    | succ n =>
      have := ih n p (by simpa using h)
      simpa [anys, Nat.mul_add, show 2 * n + 2 + 1 = 2 * n + 1 + 1 + 1 by omega] using this
def hits : List (Bool × Int) → Bool
  | [] => false
  | p :: l => p.1 || hits l
theorem hits_no : ∀ l, hits l = false → firstP l = 0 := by
  intro l
  induction l with
  | nil => intro _; rfl
  | cons p l ih => intro h; simp only [hits, Bool.or_eq_false_iff] at h; simp [firstP, h.1, ih h.2]
theorem ge_of {α : Type} {l : List α} {i : Nat} {v : α} (a : l[i]? = some v) (h : i < l.length) : l[i]'h = v := by
  rw [List.getElem?_eq_getElem h] at a; exact Option.some.inj a
theorem first_E (l : List (Bool × Int)) (hl : l.length ≤ 1000) : E CX 61 [.sl 1 (anys l)] [] = some { val := .int .i64 (firstP l) } := by
  refine E_fin Try.f61 _ an61 rfl rfl rfl Try.func61 rfl (by kernel_rfl) ?_
  simp [go_sem]
  refine loop_at (fun X => fin CX _ _ X = _) (fun n : Nat => n ≤ l.length) (fun n => ⟨SS [(0, .sl 1 (anys l)), (3, .int .i64 (2 * n : Nat))], HE⟩)
     (fun n => match hits (l.drop n) with
      | true => (.ret, ⟨SS [(2, .int .i64 (firstP (l.drop n)))], HE⟩)
      | false => (.exit 0, ⟨SS [], HE⟩)) (fun n => l.length - n) 0 (by omega) ?_ ?_ ?_
  · simp [go_sem]
  · intro n hn
    by_cases hlt : n < l.length
    · obtain ⟨p, t, hp, hd, ht⟩ := cut_at hlt
      obtain ⟨a1, a2⟩ := anys_at l n p (by rw [List.getElem?_eq_getElem hlt, hp])
      have w1 : IntKind.i64.wrap (2 * (n : Int) + 1) = 2 * (n : Int) + 1 := wrap_id (by omega)
      have w2 : IntKind.i64.wrap (2 * (n : Int) + 2) = 2 * (n : Int) + 2 := wrap_id (by omega)
      have t1 : (2 * (n : Int)).toNat = 2 * n := by omega
      have t2 : (2 * (n : Int) + 1).toNat = 2 * n + 1 := by omega
      obtain ⟨b, c⟩ := p
      cases b
      · simp [go_sem, anys_length, w1, w2, t1, t2, a1, a2, ge_of a1, ge_of a2, hd, firstP, hits, show 2 * (n : Int) + 1 < 2 * (l.length : Int) by omega, show 2 * n < 2 * l.length by omega, show 0 ≤ 2 * (n : Int) by omega]
        refine ⟨n + 1, by omega, by omega, ?_, by rw [ht]⟩
        simp [Int.mul_add]
      · simp [go_sem, anys_length, w1, w2, t1, t2, a1, a2, ge_of a1, ge_of a2, hd, firstP, hits, show 2 * (n : Int) + 1 < 2 * (l.length : Int) by omega, show 2 * n < 2 * l.length by omega, show 2 * n + 1 < 2 * l.length by omega, show 0 ≤ 2 * (n : Int) by omega, show 0 ≤ 2 * (n : Int) + 1 by omega]
    · have : l.drop n = [] := List.drop_eq_nil_of_le (by omega)
      have w1 : IntKind.i64.wrap (2 * (n : Int) + 1) = 2 * (n : Int) + 1 := wrap_id (by omega)
      simp [go_sem, this, anys_length, w1, hits, show ¬ 2 * (n : Int) + 1 < 2 * (l.length : Int) by omega]
  · cases hr : hits l
    · simp [go_sem, hr, hits_no l hr]
    · simp [go_sem, hr]
/-- A right disk. -/
def diskOK (d : Disk) : Bool := decide (d.ss.length = 64) && d.ss.all (fun s => decide (s.length ≤ 80)) && decide (d.ps.length ≤ 200) && d.ps.all ioOK
theorem diskOK1_E (x : Io) : E CX 160 [eIo x] [] = some { val := .bool (ioOK x) } := by
  refine E_fin Try.f160 _ an160 rfl rfl rfl Try.func160 rfl (by kernel_rfl) ?_
  have e1 := isHost_E x.host
  have e2 := isPlace_E x.at_
  have e3 := isSector_E x.data
  cases h1 : inn x.host 0 3
  · simp [go_sem, eIo, e1, h1, ioOK]
  · cases h2 : inn x.at_ 0 63
    · simp [go_sem, eIo, e1, e2, h1, h2, ioOK]
    · simp [go_sem, eIo, e1, e2, e3, h1, h2, ioOK]
theorem diskOK_E (d : Disk) (h1 : d.ss.length ≤ 1073741824) (h2 : d.ps.length ≤ 1073741824) : E CX 78 [eDisk d] [] = some { val := .bool (diskOK d) } := by
  refine E_fin Try.f78 _ an78 rfl rfl rfl Try.func78 rfl (by kernel_rfl) ?_
  have e1 := allString_E 155 d.ss (fun s => decide (s.length ≤ 80)) rfl h1 isSector_E
  have e2 := allIo_E 160 d.ps ioOK rfl h2 diskOK1_E
  unfold diskOK
  by_cases c1 : d.ss.length = 64
  · have c1' : (d.ss.length : Int) = 64 := by omega
    cases c2 : d.ss.all (fun s => decide (s.length ≤ 80))
    · simp [go_sem, eDisk, e1, c1, c1', c2]
    · rw [c2] at e1
      by_cases c3 : d.ps.length ≤ 200
      · have c3' : (d.ps.length : Int) ≤ 200 := by omega
        cases c4 : d.ps.all ioOK <;> rw [c4] at e2 <;> simp [go_sem, eDisk, e1, e2, c1, c1', c3, c3', c4]
      · have c3' : ¬ (d.ps.length : Int) ≤ 200 := by omega
        simp [go_sem, eDisk, e1, c1, c1', c3, c3']
  · have c1' : ¬ (d.ss.length : Int) = 64 := by omega
    simp [go_sem, eDisk, c1, c1']
def askC (d : Disk) (host : Int) : Int := if diskOK d then (if inn host 0 3 then 0 else 4) else 1
theorem codes_E (d : Disk) (host : Int) (h1 : d.ss.length ≤ 1073741824) (h2 : d.ps.length ≤ 1073741824) : E CX 73 [eDisk d, .int .i64 host] [] = some { val := .int .i64 (askC d host) } := by
  refine E_fin Try.f73 _ an73 rfl rfl rfl Try.func73 rfl (by kernel_rfl) ?_
  have e1 := diskOK_E d h1 h2
  have e2 := isHost_E host
  have e3 := first_E [(!diskOK d, 1), (!inn host 0 3, 4)] (by simp)
  simp only [anys] at e3
  simp only [eDisk] at e1
  simp [go_sem, eDisk, e1, e2, e3, firstP, askC]
  cases diskOK d <;> cases inn host 0 3 <;> rfl
theorem cloneString_E (l : List Tx) (hl : l.length ≤ 1073741824) : E CX 156 [.sl 1 (l.map .str)] [] = some { val := .ref [0, 0, 0, 0] 0 l.length, own := [⟨false, 9, 1, l.map .str⟩] } := by
  cases l with
  | nil => exact E_ext rfl rfl
  | cons s l =>
    refine E_fin Try.f156 _ an156 rfl rfl rfl Try.func156 rfl (by kernel_rfl) ?_
    simp only [List.length_cons] at hl
    simp [go_sem, hl]
theorem cloneIo_E (l : List Io) (hl : l.length ≤ 1073741824) : E CX 157 [.sl 3 (l.map eIo)] [] = some { val := .ref [0, 0, 0, 0] 0 l.length, own := [⟨false, 154, 3, l.map eIo⟩] } := by
  cases l with
  | nil => exact E_ext rfl rfl
  | cons s l =>
    refine E_fin Try.f157 _ an157 rfl rfl rfl Try.func157 rfl (by kernel_rfl) ?_
    simp only [List.length_cons] at hl
    simp [go_sem, hl]
theorem copied_E (d : Disk) (h1 : d.ss.length ≤ 1073741824) (h2 : d.ps.length ≤ 1073741824) : E CX 76 [eDisk d] [] = some { val := .agg [.ref [0, 0, 0, 0] 0 d.ss.length, .ref [1, 0, 0, 0] 0 d.ps.length], own := [⟨false, 9, 1, d.ss.map .str⟩, ⟨false, 154, 3, d.ps.map eIo⟩] } := by
  refine E_fin Try.f76 _ an76 rfl rfl rfl Try.func76 rfl (by kernel_rfl) ?_
  simp [go_sem, eDisk, cloneString_E d.ss h1, cloneIo_E d.ps h2]
/-- What writes that settle leave. -/
def settleD (d : Disk) (h k : Int) (lose : Bool) : Disk := ⟨(landL h lose d.ps k d.ss).2.2, (landL h lose d.ps k d.ss).1⟩
theorem settle_E (d : Disk) (h k : Int) (lose : Bool) (h1 : d.ss.length ≤ 1073741824) (h2 : d.ps.length ≤ 1073741824) (hp : ∀ x ∈ d.ps, 0 ≤ x.at_ ∧ x.at_.toNat < d.ss.length) (hk : In64 k) :
    E CX 115 [eDisk d, .int .i64 h, .int .i64 k, .bool lose] [] = some { val := .agg [.ref [0, 0, 0, 0] 0 d.ss.length, .ref [1, 0, 0, 0] 0 (settleD d h k lose).ps.length], own := [⟨false, 9, 1, (settleD d h k lose).ss.map .str⟩, ⟨false, 154, 3, ((settleD d h k lose).ps ++ List.replicate (d.ps.length - (settleD d h k lose).ps.length) zIo).map eIo⟩] } := by
  refine E_fin Try.f115 _ an115 rfl rfl rfl Try.func115 rfl (by kernel_rfl) ?_
  have e1 := copied_E d h1 h2
  simp only [eDisk] at e1
  have e2 := del_E d.ps h k lose d.ss h2 hp hk
  simp only [dHeap, List.map_cons, List.map_nil] at e2
  simp only [settleD]
  simp [go_sem, eDisk, e1, e2]
end Go.Proofs.Ytccoeoppjcegnaa

namespace Go.Proofs.Ytccoeoppjcegnaa
open Go
set_option maxRecDepth 100000
set_option linter.unusedSimpArgs false
set_option linter.unusedVariables false
theorem notInt_E (f : FuncId) (x : Int) (b : Bool) (hio : (annA f).io = []) (hf : E CX f [(AV.int .i64) x] [] = some { val := .bool b }) : E CX 213 [(AV.int .i64) x, .rptr [.fn f []]] [] = some { val := .bool (!b) } := by
  refine E_fin Try.f213 _ an213 rfl rfl rfl Try.func213 rfl (by kernel_rfl) ?_
  simp [go_sem, hf, hio]
theorem indexFuncInt_E (g : FuncId) (cap : List AV) (l : List Int) (q : Int → Bool) (hio : (annA g).io = []) (hl : l.length ≤ 1073741824) (hf : ∀ x, E CX g [(AV.int .i64) x, .rptr cap] [] = some { val := .bool (q x) }) : E CX 214 [.sl 1 (l.map (AV.int .i64)), .fn g [.rptr cap]] [] = some { val := .int .i64 (idxOf (firstAt q l 0)) } := by
  refine E_fin Try.f214 _ an214 rfl rfl rfl Try.func214 rfl (by kernel_rfl) ?_
  simp [go_sem]
  refine loop_list (fun X => fin CX _ _ X = _) l (fun n _ => True) (fun n (_ : Unit) => ⟨SS [(0, .sl 1 (l.map (AV.int .i64))), (1, .fn g [.rptr cap]), (7, .int .i64 l.length), (8, .int .i64 n)], HE⟩)
     (fun r n _ => match firstAt q r n with
    | some k => (.ret, ⟨SS [(4, .int .i64 k)], HE⟩)
    | none => (.exit 0, ⟨SS [], HE⟩)) () trivial ?_ ?_ ?_ ?_ ?_
  · simp [go_sem]
  · intro n _ x t hn hx hd _
    have hx := hx hn
    have hE := hf x
    cases hq : q x
    · rw [hq] at hE
      simp [go_sem, firstAt, hq, hio, hE, hn, hx, wrap_id (n := (n : Int) + 1) (by omega)]
    · rw [hq] at hE
      simp [go_sem, firstAt, hq, hio, hE, hn, hx]
  · intro _ _; simp [go_sem, firstAt]
  · intro _; simp [firstAt]
  · cases hr : firstAt q l 0 <;> simp [go_sem, hr, idxOf]
theorem containsFuncInt_E (g : FuncId) (cap : List AV) (l : List Int) (q : Int → Bool) (hio : (annA g).io = []) (hl : l.length ≤ 1073741824) (hf : ∀ x, E CX g [(AV.int .i64) x, .rptr cap] [] = some { val := .bool (q x) }) : E CX 212 [.sl 1 (l.map (AV.int .i64)), .fn g [.rptr cap]] [] = some { val := .bool (l.any q) } := by
  refine E_fin Try.f212 _ an212 rfl rfl rfl Try.func212 rfl (by kernel_rfl) ?_
  simp [go_sem, indexFuncInt_E g cap l q hio hl hf, idx_any]
theorem allInt_E (f : FuncId) (l : List Int) (q : Int → Bool) (hio : (annA f).io = []) (hl : l.length ≤ 1073741824) (hf : ∀ x, E CX f [(AV.int .i64) x] [] = some { val := .bool (q x) }) : E CX 211 [.sl 1 (l.map (AV.int .i64)), .fn f []] [] = some { val := .bool (l.all q) } := by
  refine E_fin Try.f211 _ an211 rfl rfl rfl Try.func211 rfl (by kernel_rfl) ?_
  have h := containsFuncInt_E 213 [.fn f []] l (fun x => !q x) rfl hl (fun x => notInt_E f x (q x) hio (hf x))
  rw [any_not] at h
  simp [go_sem, h]
end Go.Proofs.Ytccoeoppjcegnaa

namespace Go.Proofs.Ytccoeoppjcegnaa
open Go
set_option maxRecDepth 100000
set_option linter.unusedSimpArgs false
set_option linter.unusedVariables false
theorem isNumber_E (n : Int) : E CX 64 [.int .i64 n] [] = some { val := .bool (isNum n) } := by
  refine E_fin Try.f64 _ an64 rfl rfl rfl Try.func64 rfl (by kernel_rfl) ?_
  simp [go_sem, within_E, isNum]
theorem isKind_E (n : Int) : E CX 207 [.int .i64 n] [] = some { val := .bool (inn n 1 9) } := by
  refine E_fin Try.f207 _ an207 rfl rfl rfl Try.func207 rfl (by kernel_rfl) ?_
  simp [go_sem, within_E]
theorem areInts_E (l : List Int) (hl : l.length ≤ 1073741824) : E CX 210 [.sl 1 (l.map (.int .i64))] [] = some { val := .bool (intsOK l) } := by
  refine E_fin Try.f210 _ an210 rfl rfl rfl Try.func210 rfl (by kernel_rfl) ?_
  have e1 := allInt_E 64 l isNum rfl hl isNumber_E
  unfold intsOK
  by_cases c : l.length ≤ 16
  · simp [go_sem, e1, c, show (l.length : Int) ≤ 16 by omega]
  · simp [go_sem, c, show ¬ (l.length : Int) ≤ 16 by omega]
theorem sumOf_E (t : Tx) (ht : t.length ≤ 1000000) : E CX 190 [.str t] [] = some { val := .int .i64 (sumF t 1 0) } := by
  refine E_fin Try.f190 _ an190 rfl rfl rfl Try.func190 rfl (by kernel_rfl) ?_
  simp [go_sem]
  refine loop_for (fun X => fin CX _ _ X = _) t (fun n (a : Int) => 0 ≤ a ∧ a < 251) (fun n a => ⟨SS [(0, .str t), (3, .int .i64 a), (6, .int .i64 t.length), (7, .int .i64 n)], HE⟩) (fun r n a => (.exit 0, ⟨SS [(3, .int .i64 (sumF r (n + 1) a))], HE⟩)) 0 (by omega) ?_ ?_ ?_ ?_ ?_
  · simp [go_sem]
  · intro R n a b r hn hx hd hI hR
    have hx := hx hn
    have hb := b.toNat_lt
    have m1 : 0 ≤ ((n : Int) + 1) * ((b.toNat : Int) + 1) := Int.mul_nonneg (by omega) (by omega)
    have m2 : ((n : Int) + 1) * ((b.toNat : Int) + 1) ≤ 1000001 * 257 := Int.mul_le_mul (by omega) (by omega) (by omega) (by omega)
    have hp : ((n : Int) + 1) * ((b.toNat : Int) + 1) = (n : Int) * b.toNat + n + b.toNat + 1 := by rw [Int.add_mul, Int.mul_add]; omega
    have := hR ((a + ((n : Int) + 1) * ((b.toNat : Int) + 1)).tmod 251) (by rw [Int.tmod_eq_emod_of_nonneg (by omega)]; omega) (by simp [sumF])
    simp [go_sem] at this
    simp [go_sem, hn, hx, wrap_byte, wrap_id (n := (n : Int) + 1) (by omega), wrap_id (n := (b.toNat : Int) + 1) (by omega), wrap_id (n := ((n : Int) + 1) * ((b.toNat : Int) + 1)) (by omega), wrap_id (n := a + ((n : Int) + 1) * ((b.toNat : Int) + 1)) (by omega)]
    exact this
  · intro _ _; simp [go_sem, sumF]
  · intro _; simp
  · simp [go_sem]
theorem fd (n : Int) : n.fdiv 256 = n / 256 ∧ n.fdiv 65536 = n / 65536 ∧ n.fdiv 16777216 = n / 16777216 :=
  ⟨Int.fdiv_eq_ediv_of_nonneg _ (by omega), Int.fdiv_eq_ediv_of_nonneg _ (by omega), Int.fdiv_eq_ediv_of_nonneg _ (by omega)⟩
theorem pack_E (l : List Int) (hl : l.length ≤ 1000) : E CX 189 [.sl 1 (l.map (.int .i64))] [] = some { val := .str (packF l) } := by
  refine E_fin Try.f189 _ an189 rfl rfl rfl Try.func189 rfl (by kernel_rfl) ?_
  simp [go_sem]
  refine loop_for (fun X => fin CX _ _ X = _) l (fun n (a : Tx) => a.length = 4 * n) (fun n a => ⟨SS [(3, .ref [6] 0 a.length), (7, .sl 1 (l.map (.int .i64))), (8, .int .i64 l.length), (9, .int .i64 n)], HS [([6], ⟨false, 5, 1, a.map eByte⟩)]⟩)
    (fun r n a => (.exit 0, ⟨SS [(3, .ref [6] 0 (a ++ packF r).length)], HS [([6], ⟨false, 5, 1, (a ++ packF r).map eByte⟩)]⟩)) [] rfl ?_ ?_ ?_ ?_ ?_
  · simp [go_sem]
  · intro R n a x r hn hx hd hI hR
    have hx := hx hn
    have := hR (a ++ four x) (by simp [four, hI]; omega) (by simp [packF])
    simp [go_sem, four, eByte] at this
    simp [go_sem, hn, hx, wrap_u8, (fd x).1, (fd x).2.1, (fd x).2.2, show a.length + 4 ≤ 1073741824 by omega, wrap_id (n := (n : Int) + 1) (by omega)]
    exact this
  · intro a hI; simp [go_sem, packF]
  · intro _; simp
  · have := packF_length l
    simp [go_sem, bytesOf_map, show (packF l).length ≤ 1099511627776 by omega]
theorem seal_E (kind : Int) (l : List Int) (hl : l.length ≤ 1000) : E CX 145 [.int .i64 kind, .sl 1 (l.map (.int .i64))] [] = some { val := .str (sealF kind l) } := by
  refine E_fin Try.f145 _ an145 rfl rfl rfl Try.func145 rfl (by kernel_rfl) ?_
  have e1 := pack_E l hl
  have hp := packF_length l
  have e2 := sumOf_E ([byteOf kind, byteOf l.length] ++ packF l) (by simp; omega)
  simp at e2
  simp [go_sem, e1, e2, sealF, show 2 + (packF l).length ≤ 4611686018427387904 by omega, show (packF l).length + 1 + 1 + 2 ≤ 4611686018427387904 by omega, show 2 + (2 + (packF l).length) ≤ 4611686018427387904 by omega, show 2 + 2 + (packF l).length ≤ 4611686018427387904 by omega, show 4 + (packF l).length ≤ 4611686018427387904 by omega]
/-- Bits of numbers that do not meet. -/
theorem or_add (s x m : Nat) (hx : x < 2 ^ s) (h : x + m * 2 ^ s < 9223372036854775808) : IntKind.i64.wrap ((BitVec.ofInt 64 (x : Int) ||| BitVec.ofInt 64 ((m * 2 ^ s : Nat) : Int)).toNat : Int) = ((x + m * 2 ^ s : Nat) : Int) := by
  have e : (BitVec.ofInt 64 (x : Int) ||| BitVec.ofInt 64 ((m * 2 ^ s : Nat) : Int)).toNat = x + m * 2 ^ s := by
    rw [BitVec.toNat_or]
    rw [BitVec.ofInt_natCast, BitVec.ofInt_natCast, BitVec.toNat_ofNat, BitVec.toNat_ofNat, Nat.mod_eq_of_lt (by omega), Nat.mod_eq_of_lt (by omega), Nat.or_comm, Nat.mul_comm m, Nat.add_comm]
    exact (Nat.two_pow_add_eq_or_of_lt hx m).symm
  rw [e]
  exact wrap_id (by omega)
theorem or2 (a b : UInt8) : IntKind.i64.wrap ((BitVec.ofNat 64 a.toNat ||| BitVec.ofInt 64 ((b.toNat : Int) * 256)).toNat : Int) = (a.toNat : Int) + 256 * b.toNat := by
  have h1 := a.toNat_lt; have h2 := b.toNat_lt
  have := or_add 8 a.toNat b.toNat (by omega) (by omega)
  rw [BitVec.ofInt_natCast] at this
  simp only [Nat.reducePow, Int.natCast_mul, Int.natCast_add, Int.cast_ofNat_Int] at this
  rw [this]; omega
theorem or3 (a b c : UInt8) : IntKind.i64.wrap ((BitVec.ofInt 64 ((a.toNat : Int) + 256 * b.toNat) ||| BitVec.ofInt 64 ((c.toNat : Int) * 65536)).toNat : Int) = (a.toNat : Int) + 256 * b.toNat + 65536 * c.toNat := by
  have h1 := a.toNat_lt; have h2 := b.toNat_lt; have h3 := c.toNat_lt
  have := or_add 16 (a.toNat + 256 * b.toNat) c.toNat (by omega) (by omega)
  simp only [Nat.reducePow, Int.natCast_mul, Int.natCast_add, Int.cast_ofNat_Int] at this
  rw [this]; omega
theorem or4 (a b c d : UInt8) : IntKind.i64.wrap ((BitVec.ofInt 64 ((a.toNat : Int) + 256 * b.toNat + 65536 * c.toNat) ||| BitVec.ofInt 64 ((d.toNat : Int) * 16777216)).toNat : Int) = numOf a b c d := by
  have h1 := a.toNat_lt; have h2 := b.toNat_lt; have h3 := c.toNat_lt; have h4 := d.toNat_lt
  have := or_add 24 (a.toNat + 256 * b.toNat + 65536 * c.toNat) d.toNat (by omega) (by omega)
  simp only [Nat.reducePow, Int.natCast_mul, Int.natCast_add, Int.cast_ofNat_Int] at this
  rw [this]; unfold numOf; omega
theorem nums_cut {t : Tx} {n : Nat} (h : 4 * n + 4 ≤ t.length) : ∃ a b c d, t[4 * n]? = some a ∧ t[4 * n + 1]? = some b ∧ t[4 * n + 2]? = some c ∧ t[4 * n + 3]? = some d ∧ t.drop (4 * n) = a :: b :: c :: d :: t.drop (4 * (n + 1)) := by
  refine ⟨t[4 * n], t[4 * n + 1], t[4 * n + 2], t[4 * n + 3], List.getElem?_eq_getElem _, List.getElem?_eq_getElem _, List.getElem?_eq_getElem _, List.getElem?_eq_getElem _, ?_⟩
  rw [List.drop_eq_getElem_cons (by omega), List.drop_eq_getElem_cons (i := 4 * n + 1) (by omega), List.drop_eq_getElem_cons (i := 4 * n + 1 + 1) (by omega), List.drop_eq_getElem_cons (i := 4 * n + 1 + 1 + 1) (by omega)]
  rfl
theorem nums_short {t : Tx} (h : t.length < 4) : nums t = [] := by
  match t, h with
  | [], _ => rfl
  | [a], _ => rfl
  | [a, b], _ => rfl
  | [a, b, c], _ => rfl
theorem unpack_E (t : Tx) (ht : t.length ≤ 1000000) : E CX 208 [.str t] [] = some { val := .tuple [.ref [0, 0, 0, 0] 0 ((nums t).take 17).length, .bool (decide (t.length % 4 = 0) && intsOK ((nums t).take 17))], own := [⟨false, 3, 1, ((nums t).take 17).map (.int .i64)⟩] } := by
  refine E_fin Try.f208 _ an208 rfl rfl rfl Try.func208 rfl (by kernel_rfl) ?_
  generalize hL : (nums t).take 17 = L
  have hLl : L.length ≤ 17 := by rw [← hL]; simp; omega
  have e1 := areInts_E L (by omega)
  simp [go_sem]
  refine loop_at (fun X => fin CX _ _ X = _) (fun x : Nat × List Int => 4 * x.1 ≤ t.length + 3 ∧ x.1 ≤ 17 ∧ x.2.length = x.1 ∧ L = x.2 ++ (nums (t.drop (4 * x.1))).take (17 - x.1)) (fun x => ⟨SS [(0, .str t), (4, .ref [6] 0 x.2.length), (5, .int .i64 (4 * x.1 : Nat))], HS [([6], ⟨false, 3, 1, x.2.map (.int .i64)⟩)]⟩)
    (fun x => (.exit 0, ⟨SS [(0, .str t), (4, .ref [6] 0 L.length)], HS [([6], ⟨false, 3, 1, L.map (.int .i64)⟩)]⟩)) (fun x => 17 - x.1) (0, []) ⟨by omega, by omega, rfl, by simp [hL]⟩ ?_ ?_ ?_
  · simp [go_sem]
  · rintro ⟨n, l⟩ ⟨h1, h2, h3, h4⟩
    simp only at h1 h2 h3 h4
    have w1 : IntKind.i64.wrap (4 * (n : Int) + 4) = 4 * (n : Int) + 4 := wrap_id (by omega)
    by_cases c1 : 4 * n + 4 ≤ t.length
    · by_cases c2 : n < 17
      · obtain ⟨a, b, c, d, i0, i1, i2, i3, hd⟩ := nums_cut c1
        have g0 := ge_of i0; have g1 := ge_of i1; have g2 := ge_of i2; have g3 := ge_of i3
        have b1 := b.toNat_lt; have b2 := c.toNat_lt; have b3 := d.toNat_lt
        simp [go_sem, w1, show 4 * (n : Int) + 4 ≤ t.length by omega, show 4 * (n : Int) < 68 by omega, show (4 * (n : Int)).toNat = 4 * n by omega, show (4 * (n : Int) + 1).toNat = 4 * n + 1 by omega, show (4 * (n : Int) + 2).toNat = 4 * n + 2 by omega, show (4 * (n : Int) + 3).toNat = 4 * n + 3 by omega,
          wrap_id (n := 4 * (n : Int) + 1) (by omega), wrap_id (n := 4 * (n : Int) + 2) (by omega), wrap_id (n := 4 * (n : Int) + 3) (by omega), i0, i1, i2, i3, g0, g1, g2, g3, show 4 * n < t.length by omega, show 4 * n + 1 < t.length by omega, show 4 * n + 2 < t.length by omega, show 4 * n + 3 < t.length by omega, show 0 ≤ 4 * (n : Int) by omega, show 0 ≤ 4 * (n : Int) + 1 by omega, show 0 ≤ 4 * (n : Int) + 2 by omega, show 0 ≤ 4 * (n : Int) + 3 by omega,
          wrap_id (n := (b.toNat : Int) * 256) (by omega), wrap_id (n := (c.toNat : Int) * 65536) (by omega), wrap_id (n := (d.toNat : Int) * 16777216) (by omega), or2, or3, or4, show l.length ≤ 1073741823 by omega]
        refine ⟨n + 1, l ++ [numOf a b c d], ⟨by omega, by omega, by simp [h3], ?_⟩, by omega, ?_⟩
        · rw [h4, hd]
          simp only [nums]
          rw [show 17 - n = (17 - (n + 1)) + 1 by omega, List.take_succ_cons, List.append_assoc]
          rfl
        · simp [Int.mul_add]
          refine congrArg (fun z => HU HE [6] ⟨false, 3, 1, List.map (AV.int .i64) l ++ [AV.int .i64 z]⟩) ?_
          rw [← or4 a b c d, ← or3 a b c, ← or2 a b]
          rfl
      · have : L = l := by rw [h4, show 17 - n = 0 by omega]; simp
        subst this
        simp [go_sem, w1, show 4 * (n : Int) + 4 ≤ t.length by omega, show ¬ 4 * (n : Int) < 68 by omega]
    · have : L = l := by rw [h4, nums_short (by simp; omega)]; simp
      subst this
      simp [go_sem, w1, show ¬ 4 * (n : Int) + 4 ≤ t.length by omega]
  · have hm : ((t.length : Int).tmod 4 = 0) ↔ t.length % 4 = 0 := by rw [Int.tmod_eq_emod_of_nonneg (by omega)]; omega
    by_cases c : t.length % 4 = 0
    · simp [go_sem, hm.2 c, c, e1]
    · have c' : ¬ (t.length : Int).tmod 4 = 0 := fun q => c (hm.1 q)
      simp [go_sem, c', c]
end Go.Proofs.Ytccoeoppjcegnaa

namespace Go.Proofs.Ytccoeoppjcegnaa
open Go
set_option maxRecDepth 100000
set_option linter.unusedSimpArgs false
set_option linter.unusedVariables false
structure Update where
  at_ : Int
  data : List UInt8
  deriving Inhabited, DecidableEq
def eUpdate (x : Update) : AV := .agg [.int .i64 (x.at_), .str (x.data)]
theorem sharesL_eUpdate (l : List Update) : AV.sharesL (l.map eUpdate) = false := sharesL_map (fun _ => by simp [eUpdate, go_sem]) l
theorem sharesL_repeUpdate (n : Nat) (x : Update) : AV.sharesL (List.replicate n (eUpdate x)) = false := sharesL_rep _ (by simp [eUpdate, go_sem]) n
attribute [go_sem] sharesL_eUpdate sharesL_repeUpdate
theorem eqUpdate_E (a b : Update) : E CX 113 [eUpdate a, eUpdate b] [] = some { val := .bool (decide (a = b)) } := by
  refine E_fin Try.f113 _ an113 rfl rfl rfl Try.func113 rfl (by kernel_rfl) ?_
  obtain ⟨a0, a1⟩ := a
  obtain ⟨b0, b1⟩ := b
  by_cases c0 : a0 = b0
  · by_cases c1 : a1 = b1
    · simp [go_sem, eUpdate, c0, c1]
    · simp [go_sem, eUpdate, c0, c1]
  · simp [go_sem, eUpdate, c0]
theorem eqUpdateS_E (a b : List Update) (ha : a.length ≤ 1073741824) : E CX 40 [.sl 2 (a.map eUpdate), .sl 2 (b.map eUpdate)] [] = some { val := .bool (decide (a = b)) } := by
  refine E_fin Try.f40 _ an40 rfl rfl rfl Try.func40 rfl (by kernel_rfl) ?_
  by_cases hl : a.length = b.length
  · simp [go_sem, hl]
    refine loop_list (fun X => fin CX _ _ X = _) a (fun n _ => True) (fun n (_ : Unit) => ⟨SS [(0, .sl 2 (a.map eUpdate)), (1, .sl 2 (b.map eUpdate)), (5, .int .i64 n)], HE⟩) (fun l n _ => if l = b.drop n then (.exit 0, ⟨SS [], HE⟩) else (.ret, ⟨SS [(4, .bool false)], HE⟩)) () trivial ?_ ?_ ?_ ?_ ?_
    · simp [go_sem]
    · intro n _ x t hn hx hd _
      have hn' : n < b.length := by omega
      obtain ⟨y, u, hy, hu, hu'⟩ := cut_at hn'
      have hx := hx hn
      by_cases hxy : x = y
      · subst hxy
        have hE := eqUpdate_E x x
        simp only [eUpdate] at hE
        simp [go_sem, hn, hn', hx, hy, hu, hu', eUpdate, hE, wrap_id (n := (n : Int) + 1) (by omega)]
      · have hE := eqUpdate_E x y
        simp only [eUpdate] at hE
        simp [go_sem, hn, hn', hx, hy, hu, hu', eUpdate, hE, hxy]
    · intro _ _; simp [go_sem, hl]
    · intro _; simp [hl]
    · by_cases h : a = b <;> simp [go_sem, h]
  · have : a ≠ b := fun h => hl (by rw [h])
    have hl' : ¬ ((a.length : Int) = b.length) := by omega
    simp [go_sem, hl', this]
def mkUpdate (k : Int) (n : Nat) : List Update := (List.range n).map fun i : Nat => ⟨k + 2 * i + 0, mt (k + 2 * i + 1)⟩
theorem mkUpdate_succ (k : Int) (n : Nat) : mkUpdate k (n + 1) = mkUpdate k n ++ [⟨k + 2 * n + 0, mt (k + 2 * n + 1)⟩] := by simp [mkUpdate, List.range_succ]
theorem mkUpdate_length (k : Int) (n : Nat) : (mkUpdate k n).length = n := by simp [mkUpdate]
theorem markUpdateS_E (l tl : List Update) (k : Int) (h : 0 < k ∧ k + 2 * l.length ≤ 1099511627776) : E CX 41 [.ref [0] 0 l.length, .int .i64 k] [([0], ⟨false, 39, 2, (l ++ tl).map eUpdate⟩)] = some { val := .int .i64 (k + 2 * l.length), io := [⟨false, 39, 2, (mkUpdate k l.length ++ tl).map eUpdate⟩] } := by
  refine E_fin Try.f41 _ an41 rfl rfl rfl Try.func41 rfl (by kernel_rfl) ?_
  simp [go_sem]
  refine loop_list (fun X => fin CX _ _ X = _) l (fun n _ => True) (fun n (_ : Unit) => ⟨SS [(0, .ref [0] 0 l.length), (1, .int .i64 (k + 2 * n)), (5, .int .i64 n)], HS [([0], ⟨false, 39, 2, (mkUpdate k n).map eUpdate ++ ((l.drop n).map eUpdate ++ tl.map eUpdate)⟩)]⟩) (fun _ n _ => (.exit 0, ⟨SS [(1, .int .i64 (k + 2 * l.length))], HS [([0], ⟨false, 39, 2, (mkUpdate k l.length).map eUpdate ++ tl.map eUpdate⟩)]⟩)) () trivial ?_ ?_ ?_ ?_ ?_
  · simp [go_sem, mkUpdate]
  · intro n _ x t hn hx hd _
    have hs : ∀ (v w : AV), ((mkUpdate k n).map eUpdate ++ v :: (t.map eUpdate ++ tl.map eUpdate)).set n w = (mkUpdate k n).map eUpdate ++ w :: (t.map eUpdate ++ tl.map eUpdate) := fun v w => mid_set _ _ _ _ n (by simp [mkUpdate_length])
    have hg : ∀ (v : AV), ((mkUpdate k n).map eUpdate ++ v :: (t.map eUpdate ++ tl.map eUpdate))[n]? = some v := fun v => by
      rw [List.getElem?_append_right (by simp [mkUpdate_length])]; simp [mkUpdate_length]
    have hd' : l.drop (n + 1) = t := by rw [← List.drop_drop, hd]; rfl
    have hg' : ∀ (v : AV) (h : n < ((mkUpdate k n).map eUpdate ++ v :: (t.map eUpdate ++ tl.map eUpdate)).length), ((mkUpdate k n).map eUpdate ++ v :: (t.map eUpdate ++ tl.map eUpdate))[n]'h = v := fun v h => by
      have := hg v
      rw [List.getElem?_eq_getElem h] at this
      exact Option.some.inj this
    simp [go_sem, hn, hd, hd', eUpdate, hs, hg, hg', mkUpdate_length, mkUpdate_succ, markText_E (k + (2 * n + 1)) (by omega), wrap_id (n := (n : Int) + 1) (by omega), wrap_id (n := k + (2 * (n : Int) + 1)) (by omega), wrap_id (n := k + (2 * (n : Int) + 2)) (by omega), Int.add_assoc, Int.mul_add]
  · intro _ _; simp [go_sem, mkUpdate_length]
  · intro _; simp
  · simp [go_sem, mkUpdate_length]
theorem markUpdateS_nil (k : Int) : E CX 41 [.sl 2 [], .int .i64 k] [] = some { val := .int .i64 k } := by
  refine E_fin Try.f41 _ an41 rfl rfl rfl Try.func41 rfl (by kernel_rfl) ?_
  simp [go_sem]
  refine loop_for (fun X => fin CX _ _ X = _) ([] : List Unit) (fun n _ => True) (fun n (_ : Unit) => ⟨SS [(0, .sl 2 []), (1, .int .i64 k), (5, .int .i64 n)], HE⟩) (fun _ n _ => (.exit 0, ⟨SS [(1, .int .i64 k)], HE⟩)) () trivial ?_ ?_ ?_ ?_ ?_
  · simp [go_sem]
  · intro R n _ x t hn; simp at hn
  · intro _ _; simp [go_sem]
  · intro _; simp
  · simp [go_sem]
theorem heldUpdateS_E (n : Nat) (k : Int) (h : 0 < k ∧ k + 2 * n ≤ 1099511627776) : E CX 42 [.sl 2 ((mkUpdate k n).map eUpdate), .int .i64 k] [] = some { val := .int .i64 (k + 2 * n) } := by
  refine E_fin Try.f42 _ an42 rfl rfl rfl Try.func42 rfl (by kernel_rfl) ?_
  simp [go_sem]
  refine loop_list (fun X => fin CX _ _ X = _) (mkUpdate k n) (fun n _ => True) (fun j (_ : Unit) => ⟨SS [(0, .sl 2 ((mkUpdate k n).map eUpdate)), (1, .int .i64 (k + 2 * j)), (5, .int .i64 j)], HE⟩) (fun _ _ _ => (.exit 0, ⟨SS [(1, .int .i64 (k + 2 * n))], HE⟩)) () trivial ?_ ?_ ?_ ?_ ?_
  · simp [go_sem]
  · intro j _ x t hj hx hd _
    have hx := hx hj
    have hj' : j < n := by simpa [mkUpdate_length] using hj
    have hx' : x = ⟨k + 2 * j + 0, mt (k + 2 * j + 1)⟩ := by rw [← hx]; simp [mkUpdate]
    subst hx'
    simp [go_sem, hj, hx, hj', eUpdate, mkUpdate_length, markText_E (k + (2 * j + 1)) (by omega), wrap_id (n := (j : Int) + 1) (by omega), wrap_id (n := k + (2 * (j : Int) + 1)) (by omega), wrap_id (n := k + (2 * (j : Int) + 2)) (by omega), Int.add_assoc, Int.mul_add]
  · intro _ _; simp [go_sem, mkUpdate_length]
  · intro _; simp
  · simp [go_sem, mkUpdate_length]
end Go.Proofs.Ytccoeoppjcegnaa

namespace Go.Proofs.Ytccoeoppjcegnaa
open Go
set_option maxRecDepth 100000
set_option maxHeartbeats 1000000
set_option linter.unusedSimpArgs false
set_option linter.unusedVariables false
structure Src where
  bs : List Int
  n : Nat
  acc : Int
def eSrc (s : Src) : Blk := ⟨true, 158, 3, [.agg [.sl 1 (s.bs.map (.int .u8)), .int .i64 s.n, .int .i64 s.acc]]⟩
structure SrcOK (s : Src) (k : Nat) : Prop where
  bytes : ∀ b ∈ s.bs, 0 ≤ b ∧ b < 256
  n : s.n ≤ k
  acc : 0 ≤ s.acc ∧ s.acc < 2147483648
  len : s.bs.length ≤ 1073741824
def byteF (s : Src) : Int × Src :=
  if s.n < s.bs.length then (s.bs.getD s.n 0, ⟨s.bs, s.n + 1, (s.acc * 31 + s.bs.getD s.n 0 + 7).tmod 2147483648⟩)
  else if 3000 < s.n + 1 then (0, ⟨s.bs, s.n + 1, s.acc⟩)
  else (((s.acc * 1103515245 + 12345).tmod 2147483648).tdiv 65536 |>.tmod 256, ⟨s.bs, s.n + 1, (s.acc * 1103515245 + 12345).tmod 2147483648⟩)
theorem byteF_ok {s : Src} {k : Nat} (g : SrcOK s k) : SrcOK (byteF s).2 (k + 1) ∧ 0 ≤ (byteF s).1 ∧ (byteF s).1 < 256 := by
  have h1 := g.bytes; have h2 := g.n; have h3 := g.acc; have h4 := g.len
  unfold byteF
  split
  · rename_i h
    have hb := h1 s.bs[s.n] (List.getElem_mem h)
    rw [List.getD_eq_getElem?_getD, List.getElem?_eq_getElem h, Option.getD_some]
    refine ⟨⟨h1, by simp only; omega, ?_, h4⟩, hb⟩
    simp only
    rw [Int.tmod_eq_emod_of_nonneg (by omega)]
    omega
  · split
    · exact ⟨⟨h1, by simp only; omega, h3, h4⟩, by omega, by omega⟩
    · refine ⟨⟨h1, by simp only; omega, ?_, h4⟩, ?_⟩
      · simp only
        rw [Int.tmod_eq_emod_of_nonneg (by omega)]
        omega
      · simp only
        rw [Int.tmod_eq_emod_of_nonneg (show (0:Int) ≤ s.acc * 1103515245 + 12345 by omega), Int.tdiv_eq_ediv_of_nonneg (by omega), Int.tmod_eq_emod_of_nonneg (by omega)]
        omega
theorem byte_E (s : Src) (k : Nat) (hk : k ≤ 1000000000) (g : SrcOK s k) : E CX 186 [.ptr [0] 0 0] [([0], eSrc s)] = some { val := .int .i64 (byteF s).1, io := [eSrc (byteF s).2] } := by
  have h1 := g.bytes; have h2 := g.n; have h3 := g.acc; have h4 := g.len
  refine E_fin Try.f186 _ an186 rfl rfl rfl Try.func186 rfl (by kernel_rfl) ?_
  unfold byteF
  by_cases h : s.n < s.bs.length
  · have hb := h1 s.bs[s.n] (List.getElem_mem h)
    simp [go_sem, eSrc, h, wrap_id (n := (s.n : Int) + 1) (by omega), wrap_id (n := (s.n : Int)) (by omega), wrap_id (n := s.acc * 31) (by omega), wrap_id (n := s.acc * 31 + s.bs[s.n]) (by omega), wrap_id (n := s.acc * 31 + s.bs[s.n] + 7) (by omega), wrap_id (n := s.bs[s.n]) (by omega), show ((s.n : Int) + 1 ≤ s.bs.length) by omega]
  · by_cases h' : 3000 < s.n + 1
    · simp [go_sem, eSrc, h, h', wrap_id (n := (s.n : Int) + 1) (by omega), show ¬ ((s.n : Int) + 1 ≤ s.bs.length) by omega, show (3000 : Int) < (s.n : Int) + 1 by omega]
    · have hd : 0 ≤ ((s.acc * 1103515245 + 12345).tmod 2147483648).tdiv 65536 ∧ ((s.acc * 1103515245 + 12345).tmod 2147483648).tdiv 65536 < 32768 := by
        rw [Int.tmod_eq_emod_of_nonneg (show (0:Int) ≤ s.acc * 1103515245 + 12345 by omega), Int.tdiv_eq_ediv_of_nonneg (by omega)]
        omega
      simp [go_sem, eSrc, h, h', wrap_id (n := ((s.acc * 1103515245 + 12345).tmod 2147483648).tdiv 65536) (by omega), wrap_id (n := (s.n : Int) + 1) (by omega), show ¬ ((s.n : Int) + 1 ≤ s.bs.length) by omega, show ¬ (3000 : Int) < (s.n : Int) + 1 by omega, wrap_id (n := s.acc * 1103515245) (by omega), wrap_id (n := s.acc * 1103515245 + 12345) (by omega)]
def nextF (m : Int) (s : Src) : Int × Src :=
  if m ≤ 1 then (0, s) else if m ≤ 256 then ((byteF s).1.tmod m, (byteF s).2)
  else (((byteF s).1 * 65536 + (byteF (byteF s).2).1 * 256 + (byteF (byteF (byteF s).2).2).1).tmod m, (byteF (byteF (byteF s).2).2).2)
theorem SrcOK.mono {s : Src} {k j : Nat} (g : SrcOK s k) (h : k ≤ j) : SrcOK s j := ⟨g.bytes, by have := g.n; omega, g.acc, g.len⟩
theorem nextF_ok {s : Src} {k : Nat} (m : Int) (g : SrcOK s k) : SrcOK (nextF m s).2 (k + 3) ∧ 0 ≤ (nextF m s).1 ∧ ((nextF m s).1 < m ∨ (nextF m s).1 = 0) := by
  obtain ⟨g1, a1, b1⟩ := byteF_ok g
  obtain ⟨g2, a2, b2⟩ := byteF_ok g1
  obtain ⟨g3, a3, b3⟩ := byteF_ok g2
  unfold nextF
  split
  · exact ⟨g.mono (by omega), by simp, .inr rfl⟩
  · split
    · refine ⟨g1.mono (by omega), ?_, .inl ?_⟩
      · simp only; rw [Int.tmod_eq_emod_of_nonneg a1]; exact Int.emod_nonneg _ (by omega)
      · simp only; rw [Int.tmod_eq_emod_of_nonneg a1]; exact Int.emod_lt_of_pos _ (by omega)
    · refine ⟨g3, ?_, .inl ?_⟩
      · simp only; rw [Int.tmod_eq_emod_of_nonneg (by omega)]; exact Int.emod_nonneg _ (by omega)
      · simp only; rw [Int.tmod_eq_emod_of_nonneg (by omega)]; exact Int.emod_lt_of_pos _ (by omega)
theorem next_E (m : Int) (s : Src) (k : Nat) (hk : k ≤ 900000000) (g : SrcOK s k) : E CX 139 [.ptr [0] 0 0, .int .i64 m] [([0], eSrc s)] = some { val := .int .i64 (nextF m s).1, io := [eSrc (nextF m s).2] } := by
  refine E_fin Try.f139 _ an139 rfl rfl rfl Try.func139 rfl (by kernel_rfl) ?_
  obtain ⟨g1, a1, b1⟩ := byteF_ok g
  obtain ⟨g2, a2, b2⟩ := byteF_ok g1
  obtain ⟨g3, a3, b3⟩ := byteF_ok g2
  have e1 := byte_E s k (by omega) g
  have e2 := byte_E (byteF s).2 (k + 1) (by omega) g1
  have e3 := byte_E (byteF (byteF s).2).2 (k + 1 + 1) (by omega) g2
  unfold nextF
  generalize byteF (byteF (byteF s).2).2 = x3 at *
  generalize byteF (byteF s).2 = x2 at *
  generalize byteF s = x1 at *
  by_cases h1 : m ≤ 1
  · simp [go_sem, eSrc, h1]
  · by_cases h2 : m ≤ 256
    · simp only [eSrc] at e1
      have h0 : ¬ m = 0 := by omega
      simp [go_sem, eSrc, h1, h2, h0, e1]
    · simp only [eSrc] at e1 e2 e3
      have h0 : ¬ m = 0 := by omega
      simp [go_sem, eSrc, h1, h2, h0, e1, e2, e3, wrap_id (n := x1.1 * 65536) (by omega), wrap_id (n := x2.1 * 256) (by omega), wrap_id (n := x1.1 * 65536 + x2.1 * 256) (by omega), wrap_id (n := x1.1 * 65536 + x2.1 * 256 + x3.1) (by omega)]
def someF : List Unit → Tx × Src → Tx × Src
  | [], a => a
  | _ :: r, a => someF r (a.1 ++ [byteOf (97 + (nextF 26 a.2).1)], (nextF 26 a.2).2)
theorem someF_ok : ∀ (l : List Unit) (a : Tx × Src) (k : Nat), SrcOK a.2 k → SrcOK (someF l a).2 (k + 3 * l.length) ∧ (someF l a).1.length = a.1.length + l.length := by
  intro l
  induction l with
  | nil => intro a k g; exact ⟨g, rfl⟩
  | cons u l ih =>
    intro a k g
    obtain ⟨h1, h2⟩ := ih (a.1 ++ [byteOf (97 + (nextF 26 a.2).1)], (nextF 26 a.2).2) (k + 3) (nextF_ok 26 g).1
    unfold someF
    refine ⟨h1.mono (by simp; omega), ?_⟩
    rw [h2]; simp; omega
theorem some_E (m : Nat) (s : Src) (k : Nat) (hk : k ≤ 800000000) (hm : m ≤ 1000000) (g : SrcOK s k) : E CX 187 [.ptr [0] 0 0, .int .i64 m] [([0], eSrc s)] = some { val := .str (someF (List.replicate m ()) ([], s)).1, io := [eSrc (someF (List.replicate m ()) ([], s)).2] } := by
  refine E_fin Try.f187 _ an187 rfl rfl rfl Try.func187 rfl (by kernel_rfl) ?_
  have hl : (List.replicate m ()).length = m := by simp
  generalize List.replicate m () = l at *
  simp [go_sem, eSrc]
  refine loop_for (fun X => fin CX _ _ X = _) l (fun n (a : Tx × Src) => a.1.length = n ∧ SrcOK a.2 (k + 3 * n)) (fun n a => ⟨SS [(0, .ptr [0] 0 0), (1, .int .i64 m), (5, .ref [7] 0 a.1.length), (6, .int .i64 n)], HS [([0], eSrc a.2), ([7], ⟨false, 5, 1, a.1.map eByte⟩)]⟩)
    (fun r n a => (.exit 0, ⟨SS [(5, .ref [7] 0 (someF r a).1.length)], HS [([7], ⟨false, 5, 1, (someF r a).1.map eByte⟩), ([0], eSrc (someF r a).2)]⟩)) ([], s) ⟨rfl, g⟩ ?_ ?_ ?_ ?_ ?_
  · simp [go_sem, eSrc]
  · intro R n a x r hn hx hd hI hR
    have e1 := next_E 26 a.2 (k + 3 * n) (by omega) hI.2
    have hv := nextF_ok 26 hI.2
    have := hR (a.1 ++ [byteOf (97 + (nextF 26 a.2).1)], (nextF 26 a.2).2) ⟨by simp [hI.1], hv.1.mono (by omega)⟩ (by simp [someF])
    generalize nextF 26 a.2 = v at *
    simp only [eSrc] at e1
    simp [go_sem, eByte, eSrc] at this
    simp [go_sem, eSrc, e1, wrap_u8, show (n : Int) < m by omega, show a.1.length + 1 ≤ 1073741824 by omega, wrap_id (n := (n : Int) + 1) (by omega), wrap_id (n := 97 + v.1) (by omega)]
    exact this
  · intro a hI; simp [go_sem, someF, eSrc, hl]
  · intro _; simp
  · have hlen := (someF_ok l ([], s) k g).2
    simp at hlen
    simp [go_sem, eSrc, bytesOf_map, show (someF l ([], s)).1.length ≤ 1099511627776 by omega]
end Go.Proofs.Ytccoeoppjcegnaa

namespace Go.Proofs.Ytccoeoppjcegnaa
open Go
set_option maxRecDepth 100000
set_option maxHeartbeats 1000000
set_option linter.unusedSimpArgs false
set_option linter.unusedVariables false
theorem l00Source_E (bs : List Int) (h : bs.length ≤ 1073741824) : E CX 59 [.sl 1 (bs.map (.int .u8))] [] = some { val := .ptr [0, 0, 0, 0] 0 0, own := [eSrc ⟨bs, 0, (bs.length : Int).tmod 1000⟩] } := by
  refine E_fin Try.f59 _ an59 rfl rfl rfl Try.func59 rfl (by kernel_rfl) ?_
  simp [go_sem, eSrc]
theorem source_ok (bs : List Int) (h : bs.length ≤ 1073741824) (hb : ∀ b ∈ bs, 0 ≤ b ∧ b < 256) : SrcOK ⟨bs, 0, (bs.length : Int).tmod 1000⟩ 0 := by
  refine ⟨hb, by simp, ?_, h⟩
  simp only
  rw [Int.tmod_eq_emod_of_nonneg (by omega)]
  omega
def updateF (s : Src) : Update × Src :=
  (⟨9 + (nextF 20 s).1, (someF (List.replicate (nextF 9 (nextF 20 s).2).1.toNat ()) ([], (nextF 9 (nextF 20 s).2).2)).1⟩, (someF (List.replicate (nextF 9 (nextF 20 s).2).1.toNat ()) ([], (nextF 9 (nextF 20 s).2).2)).2)
theorem updateF_ok {s : Src} {k : Nat} (g : SrcOK s k) : SrcOK (updateF s).2 (k + 30) ∧ 9 ≤ (updateF s).1.at_ ∧ (updateF s).1.at_ ≤ 28 ∧ (updateF s).1.data.length ≤ 8 := by
  obtain ⟨g1, a1, b1⟩ := nextF_ok 20 g
  obtain ⟨g2, a2, b2⟩ := nextF_ok 9 g1
  obtain ⟨g3, hl⟩ := someF_ok (List.replicate (nextF 9 (nextF 20 s).2).1.toNat ()) ([], (nextF 9 (nextF 20 s).2).2) _ g2
  unfold updateF
  refine ⟨g3.mono (by simp; omega), by simp only; omega, by simp only; omega, ?_⟩
  simp only
  rw [hl]; simp; omega
theorem update_E (s : Src) (k : Nat) (hk : k ≤ 700000000) (g : SrcOK s k) : E CX 140 [.ptr [0] 0 0] [([0], eSrc s)] = some { val := eUpdate (updateF s).1, io := [eSrc (updateF s).2] } := by
  refine E_fin Try.f140 _ an140 rfl rfl rfl Try.func140 rfl (by kernel_rfl) ?_
  obtain ⟨g1, a1, b1⟩ := nextF_ok 20 g
  obtain ⟨g2, a2, b2⟩ := nextF_ok 9 g1
  have e1 := next_E 20 s k (by omega) g
  have e2 := next_E 9 (nextF 20 s).2 (k + 3) (by omega) g1
  have e3 := some_E (nextF 9 (nextF 20 s).2).1.toNat (nextF 9 (nextF 20 s).2).2 (k + 3 + 3) (by omega) (by omega) g2
  rw [show (((nextF 9 (nextF 20 s).2).1.toNat : Nat) : Int) = (nextF 9 (nextF 20 s).2).1 by omega] at e3
  unfold updateF
  generalize someF (List.replicate (nextF 9 (nextF 20 s).2).1.toNat ()) ([], (nextF 9 (nextF 20 s).2).2) = y at *
  generalize nextF 9 (nextF 20 s).2 = v at *
  generalize nextF 20 s = u at *
  simp only [eSrc] at e1 e2 e3
  simp [go_sem, eSrc, eUpdate, e1, e2, e3, wrap_id (n := 9 + u.1) (by omega)]
def updatesF : List Unit → List Update × Src → List Update × Src
  | [], a => a
  | _ :: r, a => updatesF r (a.1 ++ [(updateF a.2).1], (updateF a.2).2)
theorem updatesF_ok : ∀ (l : List Unit) (a : List Update × Src) (k : Nat), SrcOK a.2 k → (∀ x ∈ a.1, 9 ≤ x.at_ ∧ x.at_ ≤ 28 ∧ x.data.length ≤ 8) →
    SrcOK (updatesF l a).2 (k + 30 * l.length) ∧ (updatesF l a).1.length = a.1.length + l.length ∧ ∀ x ∈ (updatesF l a).1, 9 ≤ x.at_ ∧ x.at_ ≤ 28 ∧ x.data.length ≤ 8 := by
  intro l
  induction l with
  | nil => intro a k g h; exact ⟨g, rfl, h⟩
  | cons u l ih =>
    intro a k g h
    obtain ⟨g1, q1⟩ := updateF_ok g
    obtain ⟨h1, h2, h3⟩ := ih (a.1 ++ [(updateF a.2).1], (updateF a.2).2) (k + 30) g1 (by
      intro x hx
      simp only [List.mem_append, List.mem_singleton] at hx
      rcases hx with hx | rfl
      · exact h x hx
      · exact q1)
    unfold updatesF
    refine ⟨h1.mono (by simp; omega), ?_, h3⟩
    rw [h2]; simp; omega
theorem updates_E (s : Src) (k : Nat) (hk : k ≤ 600000000) (g : SrcOK s k) : ∃ l : List Unit, l.length ≤ 4 ∧ E CX 60 [.ptr [0] 0 0] [([0], eSrc s)] = some { val := .ref [0, 0, 0, 0] 0 (updatesF l ([], (nextF 5 s).2)).1.length, own := [⟨false, 39, 2, (updatesF l ([], (nextF 5 s).2)).1.map eUpdate⟩], io := [eSrc (updatesF l ([], (nextF 5 s).2)).2] } := by
  obtain ⟨g1, a1, b1⟩ := nextF_ok 5 g
  have e1 := next_E 5 s k (by omega) g
  generalize nextF 5 s = u at *
  obtain ⟨v, s1⟩ := u
  simp only at g1 a1 b1
  refine ⟨List.replicate v.toNat (), by simp; omega, ?_⟩
  have hl : (List.replicate v.toNat ()).length = v.toNat := by simp
  generalize List.replicate v.toNat () = l at *
  refine E_fin Try.f60 _ an60 rfl rfl rfl Try.func60 rfl (by kernel_rfl) ?_
  simp only [eSrc] at e1
  simp [go_sem, eSrc, e1]
  refine loop_for (fun X => fin CX _ _ X = _) l (fun n (a : List Update × Src) => a.1.length = n ∧ SrcOK a.2 (k + 3 + 30 * n)) (fun n a => ⟨SS [(0, .ptr [0] 0 0), (3, .ref [5] 0 a.1.length), (4, .int .i64 (v - n))], HS [([0], eSrc a.2), ([5], ⟨false, 39, 2, a.1.map eUpdate⟩)]⟩)
    (fun r n a => (.exit 0, ⟨SS [(3, .ref [5] 0 (updatesF r a).1.length)], HS [([5], ⟨false, 39, 2, (updatesF r a).1.map eUpdate⟩), ([0], eSrc (updatesF r a).2)]⟩)) ([], s1) ⟨rfl, g1⟩ ?_ ?_ ?_ ?_ ?_
  · simp [go_sem, eSrc]
  · intro R n a x r hn hx hd hI hR
    have e2 := update_E a.2 (k + 3 + 30 * n) (by omega) hI.2
    have hv := updateF_ok hI.2
    have := hR (a.1 ++ [(updateF a.2).1], (updateF a.2).2) ⟨by simp [hI.1], hv.1.mono (by omega)⟩ (by simp [updatesF])
    generalize updateF a.2 = w at *
    simp only [eSrc, eUpdate] at e2
    simp [go_sem, eUpdate, eSrc, show v - ((n : Int) + 1) = v - n - 1 by omega] at this
    simp [go_sem, eSrc, eUpdate, e2, show (n : Int) < v by omega, show (0 : Int) < v - n by omega, show a.1.length + 1 ≤ 1073741824 by omega, wrap_id (n := v - (n : Int) - 1) (by omega)]
    exact this
  · intro a hI
    have : v - (l.length : Int) = 0 := by omega
    simp [go_sem, updatesF, eSrc, this]
  · intro _; simp
  · simp [go_sem, eSrc]
theorem updatesOf_E (bs : List Int) (h : bs.length ≤ 1073741824) (hb : ∀ b ∈ bs, 0 ≤ b ∧ b < 256) : ∃ l : List Update, E CX 13 [.sl 1 (bs.map (.int .u8))] [] = some { val := .sl 2 (l.map eUpdate) } ∧ l.length ≤ 4 ∧ ∀ x ∈ l, 9 ≤ x.at_ ∧ x.at_ ≤ 28 ∧ x.data.length ≤ 8 := by
  have e1 := l00Source_E bs h
  have g := source_ok bs h hb
  obtain ⟨l, hl, e2⟩ := updates_E _ 0 (by omega) g
  obtain ⟨g1, _, _⟩ := nextF_ok 5 g
  obtain ⟨_, h2, h3⟩ := updatesF_ok l ([], (nextF 5 ⟨bs, 0, (bs.length : Int).tmod 1000⟩).2) _ g1 (by simp)
  generalize (updatesF l ([], (nextF 5 ⟨bs, 0, (bs.length : Int).tmod 1000⟩).2)) = us at *
  obtain ⟨us, s⟩ := us
  simp only at h2 h3 e2
  refine ⟨us, ?_, by simp at h2; omega, h3⟩
  refine E_fin Try.f13 _ an13 rfl rfl rfl Try.func13 rfl (by kernel_rfl) ?_
  simp only [eSrc] at e1 e2
  rw [show ((0 : Nat) : Int) = 0 from rfl] at e1 e2
  simp [go_sem, e1, e2]
end Go.Proofs.Ytccoeoppjcegnaa

namespace Go.Proofs.Ytccoeoppjcegnaa
open Go
set_option maxRecDepth 100000
set_option linter.unusedSimpArgs false
set_option linter.unusedVariables false
def t0 (t : Tx) : Int := ((t.getD 0 0).toNat : Int)
def LL (t : Tx) : List Int := (nums (t.drop 4)).take 17
/-- No record at first sight. -/
def early (t : Tx) : Bool := decide (t.length < 4) || decide (80 < t.length) || !inn (t0 t) 1 9
def openB (t : Tx) : Bool := decide ((t.length - 4) % 4 = 0) && intsOK (LL t) && (sealF (t0 t) (LL t) == t)
theorem intsOK_take (l : List Int) : intsOK (l.take 17) = intsOK l := by
  by_cases h : l.length ≤ 17
  · rw [List.take_of_length_le h]
  · unfold intsOK
    have : ¬ l.length ≤ 16 := by omega
    have h2 : ¬ (l.take 17).length ≤ 16 := by simp; omega
    simp only [this, h2, decide_false, Bool.false_and]
theorem intsOK_len {l : List Int} (h : intsOK l = true) : l.length ≤ 16 := by
  unfold intsOK at h; simp at h; exact h.1
theorem sealF_length (k : Int) (l : List Int) : (sealF k l).length = 4 + 4 * l.length := by
  have := packF_length l
  simp [sealF]; omega
theorem open_early {t : Tx} {kind : Int} (h : early t = true) : openF t kind = none := by
  unfold openF
  rw [if_neg]
  rintro ⟨h1, h2, h3, h4, h5, h6⟩
  have hl := congrArg List.length h6
  rw [sealF_length] at hl
  have := intsOK_len h5
  simp only [early, t0, Bool.or_eq_true, decide_eq_true_eq, Bool.not_eq_true'] at h
  rcases h with (h | h) | h
  · omega
  · omega
  · rw [h2, h3] at h; cases h
theorem open_late {t : Tx} {kind : Int} (h : early t = false) : openF t kind = if openB t = true ∧ t0 t = kind then some (LL t) else none := by
  simp only [early, t0, Bool.or_eq_false_iff, decide_eq_false_iff_not, Bool.not_eq_false'] at h
  obtain ⟨⟨h1, h2⟩, h3⟩ := h
  unfold openF
  by_cases c : openB t = true ∧ t0 t = kind
  · rw [if_pos c]
    obtain ⟨c1, c2⟩ := c
    simp only [openB, Bool.and_eq_true, decide_eq_true_eq, beq_iff_eq] at c1
    obtain ⟨⟨c3, c4⟩, c5⟩ := c1
    have c4' := c4
    unfold LL at c4
    rw [intsOK_take] at c4
    have hl := intsOK_len c4
    have hLL : LL t = nums (t.drop 4) := by unfold LL; exact List.take_of_length_le (by omega)
    rw [hLL] at c5 ⊢
    rw [if_pos ⟨by omega, c2, by rw [← c2]; exact h3, by omega, c4, by rw [← c2]; exact c5⟩]
  · rw [if_neg c, if_neg]
    rintro ⟨q1, q2, q3, q4, q5, q6⟩
    have hl := intsOK_len q5
    have hLL : LL t = nums (t.drop 4) := by unfold LL; exact List.take_of_length_le (by omega)
    refine c ⟨?_, q2⟩
    unfold openB
    rw [hLL, q5]
    have : t0 t = kind := q2
    rw [this, q6]
    simp only [Bool.and_eq_true, decide_eq_true_eq, beq_self_eq_true, and_true]
    omega
theorem opened_E (t : Tx) (ht : t.length ≤ 1000000) : E CX 196 [.str t] [] = some { val := if early t then .tuple [.int .i64 0, .nil, .bool false] else .tuple [.int .i64 (t0 t), .sl 1 ((LL t).map (.int .i64)), .bool (openB t)] } := by
  refine E_fin Try.f196 _ an196 rfl rfl rfl Try.func196 rfl (by kernel_rfl) ?_
  by_cases h1 : t.length < 4
  · simp [go_sem, early, h1, show (t.length : Int) < 4 by omega]
  · by_cases h2 : 80 < t.length
    · simp [go_sem, early, h1, h2, show ¬ (t.length : Int) < 4 by omega, show (80 : Int) < t.length by omega]
    · have e1 := isKind_E (t0 t)
      have hx : t[0]? = some (t.getD 0 0) := by rw [List.getElem?_eq_getElem (by omega)]; simp [List.getD, show 0 < t.length by omega]
      have hg := ge_of hx
      have ht0 : ((t.getD 0 0).toNat : Int) = t0 t := rfl
      have hb := byte_lt (t.getD 0 0)
      have hw := wrap_byte (t.getD 0 0)
      rw [ht0] at hw hb
      generalize t.getD 0 0 = b0 at *
      cases h3 : inn (t0 t) 1 9
      · rw [h3] at e1
        simp [go_sem, early, h1, h2, h3, show ¬ (t.length : Int) < 4 by omega, show ¬ (80 : Int) < t.length by omega, hx, hg, show 0 < t.length by omega, ht0, hw, e1]
      · rw [h3] at e1
        have e2 := unpack_E (t.drop 4) (by simp; omega)
        have e3 := seal_E (t0 t) (LL t) (by unfold LL; simp; omega)
        have hLL : (nums (t.drop 4)).take 17 = LL t := rfl
        rw [hLL] at e2
        simp only [List.length_drop] at e2
        unfold openB
        cases h4 : (decide ((t.length - 4) % 4 = 0) && intsOK (LL t))
        · rw [h4] at e2
          simp [go_sem, early, h1, h2, h3, show ¬ (t.length : Int) < 4 by omega, show ¬ (80 : Int) < t.length by omega, hx, hg, show 0 < t.length by omega, show 4 ≤ t.length by omega, ht0, hw, e1, e2]
        · rw [h4] at e2
          simp [go_sem, early, h1, h2, h3, show ¬ (t.length : Int) < 4 by omega, show ¬ (80 : Int) < t.length by omega, hx, hg, show 0 < t.length by omega, show 4 ≤ t.length by omega, ht0, hw, e1, e2, e3]
/-- What 'open' answers, read by value. -/
def openV (t : Tx) (kind : Int) : AV := .tuple [if early t then .nil else .sl 1 ((LL t).map (.int .i64)), .bool (openF t kind).isSome]
theorem open_E (t : Tx) (kind : Int) (ht : t.length ≤ 1000000) : E CX 161 [.str t, .int .i64 kind] [] = some { val := openV t kind } := by
  refine E_fin Try.f161 _ an161 rfl rfl rfl Try.func161 rfl (by kernel_rfl) ?_
  have e1 := opened_E t ht
  unfold openV
  cases h : early t
  · rw [h] at e1
    rw [open_late h]
    cases h2 : openB t
    · rw [h2] at e1
      simp [go_sem, e1]
    · rw [h2] at e1
      by_cases h3 : t0 t = kind <;> simp [go_sem, e1, h3]
  · rw [h] at e1
    rw [open_early h]
    simp [go_sem, e1]
end Go.Proofs.Ytccoeoppjcegnaa

namespace Go.Proofs.Ytccoeoppjcegnaa
open Go
set_option maxRecDepth 100000
set_option linter.unusedSimpArgs false
set_option linter.unusedVariables false
theorem l02Int_E (n : Int) : E CX 69 [.int .i64 n] [] = some { val := .bool (isNum n) } := by
  refine E_fin Try.f69 _ an69 rfl rfl rfl Try.func69 rfl (by kernel_rfl) ?_
  simp [go_sem, l01In_E, isNum]
theorem l02Kind_E (n : Int) : E CX 202 [.int .i64 n] [] = some { val := .bool (inn n 1 9) } := by
  refine E_fin Try.f202 _ an202 rfl rfl rfl Try.func202 rfl (by kernel_rfl) ?_
  simp [go_sem, l01In_E]
theorem l02Ints_E (l : List Int) (hl : l.length ≤ 1073741824) : E CX 209 [.sl 1 (l.map (.int .i64))] [] = some { val := .bool (intsOK l) } := by
  refine E_fin Try.f209 _ an209 rfl rfl rfl Try.func209 rfl (by kernel_rfl) ?_
  simp [go_sem]
  refine loop_for (fun X => fin CX _ _ X = _) l (fun n _ => True) (fun n (_ : Unit) => ⟨SS [(0, .sl 1 (l.map (.int .i64))), (3, .int .i64 n)], HE⟩) (fun r n _ => match r.all isNum with
    | true => (.exit 0, ⟨SS [(0, .sl 1 (l.map (.int .i64)))], HE⟩)
    | false => (.ret, ⟨SS [(2, .bool false)], HE⟩)) () trivial ?_ ?_ ?_ ?_ ?_
  · simp [go_sem]
  · intro R n _ x r hn hx hd _ hR
    have hx := hx hn
    have e1 := l02Int_E x
    cases c : isNum x
    · rw [c] at e1
      simp only [List.all_cons, c, Bool.false_and]
      simp [go_sem, hn, hx, e1]
    · rw [c] at e1
      have := hR () trivial (by simp only [List.all_cons, c, Bool.true_and])
      simp only [List.all_cons, c, Bool.true_and]
      simp [go_sem] at this
      simp [go_sem, hn, hx, e1, wrap_id (n := (n : Int) + 1) (by omega)]
      exact this
  · intro _ _; simp [go_sem]
  · intro _; simp
  · unfold intsOK
    cases c : l.all isNum
    · simp only []
      simp [go_sem]
    · simp only []
      simp [go_sem]
      omega
theorem l02Sum_E (t : Tx) (ht : t.length ≤ 1000000) : E CX 201 [.str t] [] = some { val := .int .i64 (sumF t 1 0) } := by
  refine E_fin Try.f201 _ an201 rfl rfl rfl Try.func201 rfl (by kernel_rfl) ?_
  simp [go_sem]
  refine loop_for (fun X => fin CX _ _ X = _) t (fun n (a : Int) => 0 ≤ a ∧ a < 251) (fun n a => ⟨SS [(0, .str t), (3, .int .i64 a), (4, .int .i64 n)], HE⟩) (fun r n a => (.exit 0, ⟨SS [(3, .int .i64 (sumF r (n + 1) a))], HE⟩)) 0 (by omega) ?_ ?_ ?_ ?_ ?_
  · simp [go_sem]
  · intro R n a b r hn hx hd hI hR
    have hx := hx hn
    have hb := b.toNat_lt
    have m1 : 0 ≤ ((n : Int) + 1) * ((b.toNat : Int) + 1) := Int.mul_nonneg (by omega) (by omega)
    have m2 : ((n : Int) + 1) * ((b.toNat : Int) + 1) ≤ 1000001 * 257 := Int.mul_le_mul (by omega) (by omega) (by omega) (by omega)
    have := hR ((a + ((n : Int) + 1) * ((b.toNat : Int) + 1)).tmod 251) (by rw [Int.tmod_eq_emod_of_nonneg (by omega)]; omega) (by simp [sumF])
    simp [go_sem] at this
    simp [go_sem, hn, hx, wrap_id (n := (n : Int) + 1) (by omega), wrap_id (n := (b.toNat : Int) + 1) (by omega), wrap_id (n := ((n : Int) + 1) * ((b.toNat : Int) + 1)) (by omega), wrap_id (n := a + ((n : Int) + 1) * ((b.toNat : Int) + 1)) (by omega)]
    exact this
  · intro _ _; simp [go_sem, sumF]
  · intro _; simp
  · simp [go_sem]
/-- A number, some bytes shifted out. -/
def shN (x : Int) : Nat → Int
  | 0 => x
  | 1 => x / 256
  | 2 => x / 65536
  | 3 => x / 16777216
  | _ => x / 4294967296
theorem l02Pack_E (l : List Int) (hl : l.length ≤ 1000) : E CX 200 [.sl 1 (l.map (.int .i64))] [] = some { val := .str (packF l) } := by
  refine E_fin Try.f200 _ an200 rfl rfl rfl Try.func200 rfl (by kernel_rfl) ?_
  simp [go_sem]
  refine loop_for (fun X => fin CX _ _ X = _) l (fun n (a : Tx) => a.length = 4 * n) (fun n a => ⟨SS [(0, .sl 1 (l.map (.int .i64))), (3, .ref [7] 0 a.length), (4, .int .i64 n)], HS [([7], ⟨false, 5, 1, a.map eByte⟩)]⟩)
    (fun r n a => (.exit 0, ⟨SS [(3, .ref [7] 0 (a ++ packF r).length)], HS [([7], ⟨false, 5, 1, (a ++ packF r).map eByte⟩)]⟩)) [] rfl ?_ ?_ ?_ ?_ ?_
  · simp [go_sem]
  · intro R n a x r hn hx hd hI hR
    have hx := hx hn
    have := hR (a ++ four x) (by simp [four, hI]; omega) (by simp [packF])
    simp [go_sem, four, eByte] at this
    simp [go_sem, hn, hx]
    refine loop_at (fun X => Back (keepSt an200 0) _ R X) (fun k : Nat => k ≤ 4) (fun k => ⟨SS [(0, .sl 1 (l.map (.int .i64))), (3, .ref [7] 0 (a ++ (four x).take k).length), (4, .int .i64 n), (5, .int .i64 (shN x k)), (6, .int .i64 k)], HS [([7], ⟨false, 5, 1, (a ++ (four x).take k).map eByte⟩)]⟩)
      (fun _ => (.exit 2, ⟨SS [(0, .sl 1 (l.map (.int .i64))), (3, .ref [7] 0 (a ++ four x).length), (4, .int .i64 n)], HS [([7], ⟨false, 5, 1, (a ++ four x).map eByte⟩)]⟩)) (fun k => 4 - k) 0 (by omega) ?_ ?_ ?_
    · simp [go_sem, shN]
    · intro k hk
      have hf := (fd x).1
      by_cases c : k < 4
      · have : k = 0 ∨ k = 1 ∨ k = 2 ∨ k = 3 := by omega
        rcases this with rfl | rfl | rfl | rfl
        · simp [go_sem, shN, four, eByte, (fd x).1, show a.length + 1 ≤ 1073741824 by omega, show a.length ≤ 1073741823 by omega, wrap_id (n := (1 : Int)) (by omega)]
          refine ⟨1, by omega, by omega, ?_⟩
          simp [shN]
        · simp [go_sem, shN, four, eByte, (fd (x / 256)).1, show a.length + 1 + 1 ≤ 1073741824 by omega, show a.length + 2 ≤ 1073741824 by omega, show a.length ≤ 1073741822 by omega, wrap_id (n := (2 : Int)) (by omega)]
          refine ⟨2, by omega, by omega, ?_⟩
          simp [shN, show x / 256 / 256 = x / 65536 by omega]
        · simp [go_sem, shN, four, eByte, (fd (x / 65536)).1, show a.length + 2 + 1 ≤ 1073741824 by omega, show a.length + 3 ≤ 1073741824 by omega, show a.length ≤ 1073741821 by omega, wrap_id (n := (3 : Int)) (by omega)]
          refine ⟨3, by omega, by omega, ?_⟩
          simp [shN, show x / 65536 / 256 = x / 16777216 by omega]
        · simp [go_sem, shN, four, eByte, (fd (x / 16777216)).1, show a.length + 3 + 1 ≤ 1073741824 by omega, show a.length + 4 ≤ 1073741824 by omega, show a.length ≤ 1073741820 by omega, wrap_id (n := (4 : Int)) (by omega)]
          refine ⟨4, by omega, by omega, ?_⟩
          simp [shN, show x / 16777216 / 256 = x / 4294967296 by omega]
      · obtain rfl : k = 4 := by omega
        simp [go_sem, four]
    · simp [go_sem, four, eByte, wrap_id (n := (n : Int) + 1) (by omega)]
      exact this
  · intro a hI; simp [go_sem, packF]
  · intro _; simp
  · have := packF_length l
    simp [go_sem, show (packF l).length ≤ 1099511627776 by omega]
theorem l02Seal_E (kind : Int) (l : List Int) (hl : l.length ≤ 1000) : E CX 169 [.int .i64 kind, .sl 1 (l.map (.int .i64))] [] = some { val := .str (sealF kind l) } := by
  refine E_fin Try.f169 _ an169 rfl rfl rfl Try.func169 rfl (by kernel_rfl) ?_
  have e1 := l02Pack_E l hl
  have hp := packF_length l
  have e2 := l02Sum_E ([byteOf kind, byteOf l.length] ++ packF l) (by simp; omega)
  simp at e2
  simp [go_sem, e1, e2, sealF, show 2 + (packF l).length ≤ 4611686018427387904 by omega, show (packF l).length + 1 + 1 + 2 ≤ 4611686018427387904 by omega, show 2 + (2 + (packF l).length) ≤ 4611686018427387904 by omega, show 2 + 2 + (packF l).length ≤ 4611686018427387904 by omega, show 4 + (packF l).length ≤ 4611686018427387904 by omega]
end Go.Proofs.Ytccoeoppjcegnaa

namespace Go.Proofs.Ytccoeoppjcegnaa
open Go
set_option maxRecDepth 100000
set_option linter.unusedSimpArgs false
set_option linter.unusedVariables false
theorem or_byte (b : UInt8) (m : Int) (h : 0 ≤ m ∧ m < 16777216) : IntKind.i64.wrap ((BitVec.ofInt 64 (m * 256) ||| BitVec.ofNat 64 b.toNat).toNat : Int) = m * 256 + b.toNat := by
  have h1 := b.toNat_lt
  obtain ⟨k, rfl⟩ : ∃ k : Nat, m = k := ⟨m.toNat, by omega⟩
  have := or_add 8 b.toNat k (by omega) (by omega)
  rw [BitVec.ofInt_natCast] at this
  simp only [Nat.reducePow, Int.natCast_mul, Int.natCast_add, Int.cast_ofNat_Int] at this
  rw [BitVec.or_comm]
  exact this.trans (by omega)
theorem or_byte0 (b : UInt8) : IntKind.i64.wrap ((0#64 ||| BitVec.ofNat 64 b.toNat).toNat : Int) = b.toNat := by
  have := or_byte b 0 (by omega)
  simpa using this
/-- What is gathered of four bytes, from the last on. -/
def gath (a b c d : UInt8) : Nat → Int
  | 0 => 0
  | 1 => d.toNat
  | 2 => (d.toNat : Int) * 256 + c.toNat
  | 3 => ((d.toNat : Int) * 256 + c.toNat) * 256 + b.toNat
  | _ => numOf a b c d
def uval (t : Tx) : List Int := if t.length % 4 = 0 then nums t else []
theorem l02Unpack_E (t : Tx) (ht : t.length ≤ 1000000) : E CX 203 [.str t] [] = some { val := .tuple [.ref [0, 0, 0, 0] 0 (uval t).length, .bool (decide (t.length % 4 = 0) && intsOK (nums t))], own := [⟨false, 3, 1, (uval t).map (.int .i64)⟩] } := by
  refine E_fin Try.f203 _ an203 rfl rfl rfl Try.func203 rfl (by kernel_rfl) ?_
  have hm : ((t.length : Int).tmod 4 = 0) ↔ t.length % 4 = 0 := by rw [Int.tmod_eq_emod_of_nonneg (by omega)]; omega
  unfold uval
  by_cases c : t.length % 4 = 0
  · have hl := nums_length t.length t rfl
    have e1 := l02Ints_E (nums t) (by omega)
    simp [go_sem, hm.2 c, c]
    generalize hL : nums t = L at *
    refine loop_at (fun X => fin CX _ _ X = _) (fun x : Nat × List Int => 4 * x.1 ≤ t.length ∧ x.2.length = x.1 ∧ L = x.2 ++ nums (t.drop (4 * x.1))) (fun x => ⟨SS [(0, .str t), (4, .ref [8] 0 x.2.length), (5, .int .i64 (4 * x.1 : Nat))], HS [([8], ⟨false, 3, 1, x.2.map (.int .i64)⟩)]⟩)
      (fun x => (.exit 0, ⟨SS [(4, .ref [8] 0 L.length)], HS [([8], ⟨false, 3, 1, L.map (.int .i64)⟩)]⟩)) (fun x => t.length - 4 * x.1) (0, []) ⟨by omega, rfl, by simp [hL]⟩ ?_ ?_ ?_
    · simp [go_sem]
    · rintro ⟨n, l⟩ ⟨h1, h3, h4⟩
      simp only at h1 h3 h4
      by_cases c1 : 4 * n < t.length
      · obtain ⟨a, b, c, d, i0, i1, i2, i3, hd⟩ := nums_cut (t := t) (n := n) (by omega)
        have g0 := ge_of i0; have g1 := ge_of i1; have g2 := ge_of i2; have g3 := ge_of i3
        have b0 := a.toNat_lt; have b1 := b.toNat_lt; have b2 := c.toNat_lt; have b3 := d.toNat_lt
        simp [go_sem, show 4 * (n : Int) < t.length by omega]
        refine loop_at (fun X => Back (keepSt an203 0) _ _ X) (fun k : Nat => k ≤ 4) (fun k => ⟨SS [(0, .str t), (4, .ref [8] 0 l.length), (5, .int .i64 (4 * n : Nat)), (6, .int .i64 (gath a b c d k)), (7, .int .i64 (3 - k))], HS [([8], ⟨false, 3, 1, l.map (.int .i64)⟩)]⟩)
          (fun _ => (.exit 2, ⟨SS [(0, .str t), (4, .ref [8] 0 l.length), (5, .int .i64 (4 * n : Nat)), (6, .int .i64 (numOf a b c d))], HS [([8], ⟨false, 3, 1, l.map (.int .i64)⟩)]⟩)) (fun k => 4 - k) 0 (by omega) ?_ ?_ ?_
        · simp [go_sem, gath]
        · intro k hk
          by_cases ck : k < 4
          · have : k = 0 ∨ k = 1 ∨ k = 2 ∨ k = 3 := by omega
            rcases this with rfl | rfl | rfl | rfl
            · have q := or_byte0 d
              simp [go_sem, gath, i3, g3, wrap_id (n := 4 * (n : Int) + 3) (by omega), show (4 * (n : Int) + 3).toNat = 4 * n + 3 by omega, show 4 * n + 3 < t.length by omega, show 0 ≤ 4 * (n : Int) + 3 by omega, q, wrap_id (n := (0 : Int)) (by omega), wrap_id (n := (2 : Int)) (by omega)]
              refine ⟨1, by omega, by omega, ?_⟩
              simp [gath]
              exact congrArg (fun z : Int => U (U (U (U (U D0 7 _) 6 (AV.int .i64 z)) 5 _) 4 _) 0 _) q
            · have q := or_byte c d.toNat (by omega)
              simp [go_sem, gath, i2, g2, wrap_id (n := 4 * (n : Int) + 2) (by omega), show (4 * (n : Int) + 2).toNat = 4 * n + 2 by omega, show 4 * n + 2 < t.length by omega, show 0 ≤ 4 * (n : Int) + 2 by omega, q, wrap_id (n := (d.toNat : Int) * 256) (by omega), wrap_id (n := (2 : Int)) (by omega), wrap_id (n := (1 : Int)) (by omega)]
              refine ⟨2, by omega, by omega, ?_⟩
              simp [gath]
              exact congrArg (fun z : Int => U (U (U (U (U D0 7 _) 6 (AV.int .i64 z)) 5 _) 4 _) 0 _) q
            · have q := or_byte b ((d.toNat : Int) * 256 + c.toNat) (by omega)
              simp [go_sem, gath, i1, g1, wrap_id (n := 4 * (n : Int) + 1) (by omega), show (4 * (n : Int) + 1).toNat = 4 * n + 1 by omega, show 4 * n + 1 < t.length by omega, show 0 ≤ 4 * (n : Int) + 1 by omega, q, wrap_id (n := ((d.toNat : Int) * 256 + c.toNat) * 256) (by omega), wrap_id (n := (1 : Int)) (by omega), wrap_id (n := (0 : Int)) (by omega)]
              refine ⟨3, by omega, by omega, ?_⟩
              simp [gath]
              exact congrArg (fun z : Int => U (U (U (U (U D0 7 _) 6 (AV.int .i64 z)) 5 _) 4 _) 0 _) q
            · have q := or_byte a (((d.toNat : Int) * 256 + c.toNat) * 256 + b.toNat) (by omega)
              simp [go_sem, gath, i0, g0, wrap_id (n := 4 * (n : Int)) (by omega), show (4 * (n : Int)).toNat = 4 * n by omega, show 4 * n < t.length by omega, show 0 ≤ 4 * (n : Int) by omega, q, wrap_id (n := (((d.toNat : Int) * 256 + c.toNat) * 256 + b.toNat) * 256) (by omega), wrap_id (n := (0 : Int)) (by omega), wrap_id (n := (-1 : Int)) (by omega)]
              refine ⟨4, by omega, by omega, ?_⟩
              have q2 := q.trans (show (((d.toNat : Int) * 256 + c.toNat) * 256 + b.toNat) * 256 + a.toNat = numOf a b c d by unfold numOf; omega)
              simp [gath]
              exact congrArg (fun z : Int => U (U (U (U (U D0 7 _) 6 (AV.int .i64 z)) 5 _) 4 _) 0 _) q2
          · obtain rfl : k = 4 := by omega
            simp [go_sem, gath]
        · have hl2 : l.length ≤ 1073741823 := by omega
          simp [go_sem, wrap_id (n := 4 * (n : Int) + 4) (by omega), hl2]
          refine ⟨n + 1, l ++ [numOf a b c d], ⟨by omega, by simp [h3], ?_⟩, by omega, ?_⟩
          · rw [h4, hd]; simp [nums]
          · simp [Int.mul_add]
      · have : L = l := by rw [h4, nums_short (by simp; omega)]; simp
        subst this
        simp [go_sem, show ¬ 4 * (n : Int) < t.length by omega]
    · simp [go_sem, e1]
  · have c' : ¬ (t.length : Int).tmod 4 = 0 := fun q => c (hm.1 q)
    simp [go_sem, c', c]
theorem l02Open_E (t : Tx) (kind : Int) (ht : t.length ≤ 1000000) : E CX 174 [.str t, .int .i64 kind] [] = some (match openF t kind with
    | some l => { val := .tuple [.sl 1 (l.map (.int .i64)), .bool true] }
    | none => { val := .tuple [.ref [0, 0, 0, 0] 0 0, .bool false], own := [⟨false, 3, 1, []⟩] }) := by
  refine E_fin Try.f174 _ an174 rfl rfl rfl Try.func174 rfl (by kernel_rfl) ?_
  unfold openF
  by_cases h1 : 4 ≤ t.length
  · have hx : t[0]? = some (t.getD 0 0) := by rw [List.getElem?_eq_getElem (by omega)]; simp [List.getD, show 0 < t.length by omega]
    have hg := ge_of hx
    have e1 := l02Kind_E kind
    have e2 := l02Unpack_E (t.drop 4) (by simp; omega)
    simp only [List.length_drop] at e2
    generalize t.getD 0 0 = b0 at *
    by_cases h2 : (b0.toNat : Int) = kind
    · have hw : IntKind.i64.wrap kind = kind := by rw [← h2]; exact wrap_byte b0
      cases h3 : inn kind 1 9
      · rw [h3] at e1
        simp [go_sem, h1, h2, hw, show ¬ (t.length : Int) < 4 by omega, hx, hg, show 0 < t.length by omega, e1]
      · rw [h3] at e1
        cases h4 : (decide ((t.length - 4) % 4 = 0) && intsOK (nums (t.drop 4)))
        · rw [h4] at e2
          have : ¬ (t.length % 4 = 0 ∧ intsOK (nums (t.drop 4)) = true ∧ sealF kind (nums (t.drop 4)) = t) := by
            rintro ⟨q1, q2, _⟩
            rw [q2] at h4
            simp at h4
            omega
          simp [go_sem, h1, h2, hw, this, show ¬ (t.length : Int) < 4 by omega, hx, hg, show 0 < t.length by omega, e1, e2]
        · rw [h4] at e2
          simp only [Bool.and_eq_true, decide_eq_true_eq] at h4
          have hu : uval (t.drop 4) = nums (t.drop 4) := by unfold uval; rw [if_pos (by simp; exact h4.1)]
          rw [hu] at e2
          have hl := intsOK_len h4.2
          have e3 := l02Seal_E kind (nums (t.drop 4)) (by omega)
          by_cases h5 : sealF kind (nums (t.drop 4)) = t
          · rw [h5] at e3
            simp [go_sem, h1, h2, hw, h4.2, h5, show t.length % 4 = 0 by omega, show ¬ (t.length : Int) < 4 by omega, hx, hg, show 0 < t.length by omega, e1, e2, e3]
          · simp [go_sem, h1, h2, hw, h4.2, h5, show t.length % 4 = 0 by omega, show ¬ (t.length : Int) < 4 by omega, hx, hg, show 0 < t.length by omega, e1, e2, e3]
    · simp [go_sem, h1, h2, show ¬ (t.length : Int) < 4 by omega, hx, hg, show 0 < t.length by omega]
  · simp [go_sem, h1, show (t.length : Int) < 4 by omega]
end Go.Proofs.Ytccoeoppjcegnaa

namespace Go.Proofs.Ytccoeoppjcegnaa
open Go
set_option maxRecDepth 100000
set_option linter.unusedSimpArgs false
set_option linter.unusedVariables false
theorem notMove_E (f : FuncId) (x : Move) (b : Bool) (hio : (annA f).io = []) (hf : E CX f [eMove x] [] = some { val := .bool b }) : E CX 153 [eMove x, .rptr [.fn f []]] [] = some { val := .bool (!b) } := by
  refine E_fin Try.f153 _ an153 rfl rfl rfl Try.func153 rfl (by kernel_rfl) ?_
  simp only [eMove] at hf
  simp [go_sem, hf, hio, eMove]
theorem indexFuncMove_E (g : FuncId) (cap : List AV) (l : List Move) (q : Move → Bool) (hio : (annA g).io = []) (hl : l.length ≤ 1073741824) (hf : ∀ x, E CX g [eMove x, .rptr cap] [] = some { val := .bool (q x) }) : E CX 191 [.sl 3 (l.map eMove), .fn g [.rptr cap]] [] = some { val := .int .i64 (idxOf (firstAt q l 0)) } := by
  refine E_fin Try.f191 _ an191 rfl rfl rfl Try.func191 rfl (by kernel_rfl) ?_
  simp [go_sem]
  refine loop_list (fun X => fin CX _ _ X = _) l (fun n _ => True) (fun n (_ : Unit) => ⟨SS [(0, .sl 3 (l.map eMove)), (1, .fn g [.rptr cap]), (7, .int .i64 l.length), (8, .int .i64 n)], HE⟩)
     (fun r n _ => match firstAt q r n with
    | some k => (.ret, ⟨SS [(4, .int .i64 k)], HE⟩)
    | none => (.exit 0, ⟨SS [], HE⟩)) () trivial ?_ ?_ ?_ ?_ ?_
  · simp [go_sem]
  · intro n _ x t hn hx hd _
    have hx := hx hn
    have hE := hf x
    simp only [eMove] at hE
    cases hq : q x
    · rw [hq] at hE
      simp [go_sem, firstAt, hq, hio, hE, hn, hx, wrap_id (n := (n : Int) + 1) (by omega), eMove]
    · rw [hq] at hE
      simp [go_sem, firstAt, hq, hio, hE, hn, hx, eMove]
  · intro _ _; simp [go_sem, firstAt]
  · intro _; simp [firstAt]
  · cases hr : firstAt q l 0 <;> simp [go_sem, hr, idxOf]
theorem containsFuncMove_E (g : FuncId) (cap : List AV) (l : List Move) (q : Move → Bool) (hio : (annA g).io = []) (hl : l.length ≤ 1073741824) (hf : ∀ x, E CX g [eMove x, .rptr cap] [] = some { val := .bool (q x) }) : E CX 152 [.sl 3 (l.map eMove), .fn g [.rptr cap]] [] = some { val := .bool (l.any q) } := by
  refine E_fin Try.f152 _ an152 rfl rfl rfl Try.func152 rfl (by kernel_rfl) ?_
  simp [go_sem, indexFuncMove_E g cap l q hio hl hf, idx_any]
theorem allMove_E (f : FuncId) (l : List Move) (q : Move → Bool) (hio : (annA f).io = []) (hl : l.length ≤ 1073741824) (hf : ∀ x, E CX f [eMove x] [] = some { val := .bool (q x) }) : E CX 74 [.sl 3 (l.map eMove), .fn f []] [] = some { val := .bool (l.all q) } := by
  refine E_fin Try.f74 _ an74 rfl rfl rfl Try.func74 rfl (by kernel_rfl) ?_
  have h := containsFuncMove_E 153 [.fn f []] l (fun x => !q x) rfl hl (fun x => notMove_E f x (q x) hio (hf x))
  rw [any_not] at h
  simp [go_sem, h]
end Go.Proofs.Ytccoeoppjcegnaa

namespace Go.Proofs.Ytccoeoppjcegnaa
open Go
set_option maxRecDepth 100000
set_option linter.unusedSimpArgs false
set_option linter.unusedVariables false
theorem isLongMove_E (l : List Move) : E CX 72 [.sl 3 (l.map eMove)] [] = some { val := .bool (decide (4096 < l.length)) } := by
  refine E_fin Try.f72 _ an72 rfl rfl rfl Try.func72 rfl (by kernel_rfl) ?_
  simp [go_sem]
  omega
def moveOK (m : Move) : Bool := if m.kind = 2 then decide (m.at_ = 0) && decide (m.data = []) else decide (m.kind = 1) && inn m.at_ 0 63 && decide (m.data.length ≤ 80)
theorem moveOK_E (m : Move) : E CX 75 [eMove m] [] = some { val := .bool (moveOK m) } := by
  refine E_fin Try.f75 _ an75 rfl rfl rfl Try.func75 rfl (by kernel_rfl) ?_
  obtain ⟨k, a, d⟩ := m
  have e1 := isPlace_E a
  have e2 := isSector_E d
  by_cases c1 : k = 2
  · subst c1
    by_cases c2 : a = 0
    · by_cases c3 : d = [] <;> simp [go_sem, eMove, moveOK, c2, c3]
    · simp [go_sem, eMove, moveOK, c2]
  · by_cases c2 : k = 1
    · subst c2
      cases c3 : inn a 0 63
      · simp [go_sem, eMove, moveOK, e1, c3]
      · simp [go_sem, eMove, moveOK, e1, e2, c3]
    · simp [go_sem, eMove, moveOK, c1, c2]
/-- One move; what is behind the writes in their row. -/
def mvT (h : Int) (a : Disk × List Io) (m : Move) : Disk × List Io := if m.kind = 2 then (settleD a.1 h 400 false, List.replicate (a.1.ps.length - (settleD a.1 h 400 false).ps.length) zIo) else (⟨a.1.ss, a.1.ps ++ [⟨h, m.at_, m.data⟩]⟩, [])
structure Good (d : Disk) (n : Nat) : Prop where
  ss : d.ss.length = 64
  ps : d.ps.length ≤ n
  at_ : ∀ x ∈ d.ps, 0 ≤ x.at_ ∧ x.at_.toNat < 64
theorem Good.settle {d : Disk} {n : Nat} (g : Good d n) (h k : Int) (lose : Bool) : Good (settleD d h k lose) n := by
  have := landL_len h lose d.ps k d.ss
  exact ⟨by simp only [settleD]; rw [this.2, g.ss], by simp only [settleD]; have := g.ps; omega, landL_all h lose (fun x => 0 ≤ x.at_ ∧ x.at_.toNat < 64) d.ps k d.ss g.at_⟩
theorem moved_E (d : Disk) (h : Int) (l : List Move) (g : Good d 1000000) (hl : l.length ≤ 1000000) (hm : ∀ m ∈ l, m.kind ≠ 2 → 0 ≤ m.at_ ∧ m.at_.toNat < 64) : E CX 77 [eDisk d, .int .i64 h, .sl 3 (l.map eMove)] [] =
    some { val := .agg [.ref [0, 0, 0, 0] 0 (l.foldl (mvT h) (d, [])).1.ss.length, .ref [1, 0, 0, 0] 0 (l.foldl (mvT h) (d, [])).1.ps.length], own := [⟨false, 9, 1, (l.foldl (mvT h) (d, [])).1.ss.map .str⟩, ⟨false, 154, 3, ((l.foldl (mvT h) (d, [])).1.ps ++ (l.foldl (mvT h) (d, [])).2).map eIo⟩] } := by
  refine E_fin Try.f77 _ an77 rfl rfl rfl Try.func77 rfl (by kernel_rfl) ?_
  have e1 := copied_E d (by have := g.ss; omega) (by have := g.ps; omega)
  simp only [eDisk] at e1
  simp [go_sem, eDisk, e1]
  refine loop_for (fun X => fin CX _ _ X = _) l (fun n (a : Disk × List Io) => Good a.1 (1000000 + n)) (fun n a => ⟨SS [(1, .int .i64 h), (6, .ptr [6] 0 0), (7, .ptr [7] 0 0), (12, .sl 3 (l.map eMove)), (13, .int .i64 l.length), (14, .int .i64 n)],
      HS [([6], ⟨true, 32, 2, [.agg [.nil, .nil]]⟩), ([7], ⟨true, 32, 2, [.agg [.ref [60] 0 a.1.ss.length, .ref [61] 0 a.1.ps.length]]⟩), ([60], ⟨false, 9, 1, a.1.ss.map .str⟩), ([61], ⟨false, 154, 3, (a.1.ps ++ a.2).map eIo⟩)]⟩)
     (fun r n a => (.exit 0, ⟨SS [(6, .ptr [6] 0 0), (7, .ptr [7] 0 0)],
      HS [([6], ⟨true, 32, 2, [.agg [.nil, .nil]]⟩), ([7], ⟨true, 32, 2, [.agg [.ref [60] 0 (r.foldl (mvT h) a).1.ss.length, .ref [61] 0 (r.foldl (mvT h) a).1.ps.length]]⟩), ([60], ⟨false, 9, 1, (r.foldl (mvT h) a).1.ss.map .str⟩), ([61], ⟨false, 154, 3, ((r.foldl (mvT h) a).1.ps ++ (r.foldl (mvT h) a).2).map eIo⟩)]⟩)) (d, []) g ?_ ?_ ?_ ?_ ?_
  · simp [go_sem]
  · intro R n a m t hn hx hd hI hR
    have hx := hx hn
    obtain ⟨⟨ss, ps⟩, tl⟩ := a
    have hI1 := hI.ss; have hI2 := hI.ps; have hI3 := hI.at_
    simp only at hI1 hI2 hI3
    have hmm := hm m (by rw [← hx]; exact List.getElem_mem hn)
    by_cases c : m.kind = 2
    · have e2 := settle_E ⟨ss, ps⟩ h 400 false (by simp only; omega) (by simp only; omega) (by simp only; rw [hI1]; exact hI3) (by unfold In64; omega)
      have hg := hI.settle h 400 false
      simp only [eDisk] at e2
      have := hR (settleD ⟨ss, ps⟩ h 400 false, List.replicate (ps.length - (settleD ⟨ss, ps⟩ h 400 false).ps.length) zIo) ⟨hg.ss, by have := hg.ps; simp only at this ⊢; omega, hg.at_⟩ (by simp [mvT, c])
      have hss : (settleD ⟨ss, ps⟩ h 400 false).ss.length = ss.length := hg.ss.trans hI1.symm
      simp [go_sem, hss] at this
      simp [go_sem, hn, hx, eMove, c, e2, wrap_id (n := (n : Int) + 1) (by omega)]
      exact this
    · have := hR (⟨ss, ps ++ [⟨h, m.at_, m.data⟩]⟩, []) (by
        refine ⟨hI1, by simp; omega, ?_⟩
        intro x hx
        simp only [List.mem_append, List.mem_singleton] at hx
        rcases hx with hx | rfl
        · exact hI3 x hx
        · exact hmm c) (by simp [mvT, c])
      simp [go_sem, eIo] at this
      simp [go_sem, hn, hx, eMove, c, wrap_id (n := (n : Int) + 1) (by omega), show ps.length + 1 ≤ 1073741824 by omega]
      exact this
  · intro a hI
    simp [go_sem]
  · intro _; simp
  · simp [go_sem]
end Go.Proofs.Ytccoeoppjcegnaa

namespace Go.Proofs.Ytccoeoppjcegnaa
open Go
set_option maxRecDepth 100000
set_option linter.unusedSimpArgs false
set_option linter.unusedVariables false
theorem l01Own_E (d : Disk) (h1 : d.ss.length ≤ 1073741824) (h2 : d.ps.length ≤ 1073741824) : E CX 83 [eDisk d] [] = some { val := .agg [.ref [0, 0, 0, 0] 0 d.ss.length, .ref [1, 0, 0, 0] 0 d.ps.length], own := [⟨false, 9, 1, d.ss.map .str⟩, ⟨false, 154, 3, d.ps.map eIo⟩] } := by
  refine E_fin Try.f83 _ an83 rfl rfl rfl Try.func83 rfl (by kernel_rfl) ?_
  simp [go_sem, eDisk, h1, h2]
theorem all_drop {α : Type} (q : α → Bool) {l : List α} {n : Nat} {x : α} {t : List α} (h : l.drop n = x :: t) : (l.drop n).all q = (q x && t.all q) := by rw [h]; rfl
theorem sDiskOK_E (d : Disk) (h1 : d.ss.length ≤ 1073741824) (h2 : d.ps.length ≤ 1073741824) : E CX 81 [eDisk d] [] = some { val := .bool (diskOK d) } := by
  refine E_fin Try.f81 _ an81 rfl rfl rfl Try.func81 rfl (by kernel_rfl) ?_
  unfold diskOK
  by_cases c1 : d.ss.length = 64
  · have c1' : (d.ss.length : Int) = 64 := by omega
    by_cases c3 : d.ps.length ≤ 200
    · have c3' : ¬ 200 < (d.ps.length : Int) := by omega
      simp [go_sem, eDisk, c1', c3']
      refine loop_for (fun X => fin CX _ _ X = _) d.ss (fun n _ => True) (fun n (_ : Unit) => ⟨SS [(1, .ptr [1] 0 0), (3, .int .i64 n)], HS [([1], ⟨true, 32, 2, [.agg [.sl 1 (d.ss.map .str), .sl 3 (d.ps.map eIo)]]⟩)]⟩)
        (fun r n _ => if r.all (fun s => decide (s.length ≤ 80)) then (.exit 0, ⟨SS [(1, .ptr [1] 0 0)], HS [([1], ⟨true, 32, 2, [.agg [.sl 1 (d.ss.map .str), .sl 3 (d.ps.map eIo)]]⟩)]⟩) else (.ret, ⟨SS [(2, .bool false)], HE⟩)) () trivial ?_ ?_ ?_ ?_ ?_
      · simp [go_sem]
      · intro R n _ x t hn hx hd _ hR
        have hx := hx hn
        by_cases cx : x.length ≤ 80
        · have := hR () trivial (by simp [cx])
          simp [go_sem] at this
          simp [go_sem, hn, hx, show ¬ 80 < (x.length : Int) by omega, wrap_id (n := (n : Int) + 1) (by omega)]
          exact this
        · simp [go_sem, hn, hx, show 80 < (x.length : Int) by omega, cx]
      · intro _ _; simp [go_sem]
      · intro _; simp
      · cases c2 : d.ss.all (fun s => decide (s.length ≤ 80))
        · simp [go_sem]
        · simp [go_sem]
          refine loop_for (fun X => fin CX _ _ X = _) d.ps (fun n _ => True) (fun n (_ : Unit) => ⟨SS [(1, .ptr [1] 0 0), (4, .int .i64 n)], HS [([1], ⟨true, 32, 2, [.agg [.sl 1 (d.ss.map .str), .sl 3 (d.ps.map eIo)]]⟩)]⟩)
            (fun r n _ => if r.all ioOK then (.exit 2, ⟨SS [], HE⟩) else (.ret, ⟨SS [(2, .bool false)], HE⟩)) () trivial ?_ ?_ ?_ ?_ ?_
          · simp [go_sem]
          · intro R n _ x t hn hx hd _ hR
            have hx := hx hn
            have e1 := l01Io_E x
            simp only [eIo] at e1
            cases cx : ioOK x
            · simp [go_sem, hn, hx, eIo, e1, cx]
            · have := hR () trivial (by simp [cx])
              simp [go_sem] at this
              simp [go_sem, hn, hx, eIo, e1, cx, wrap_id (n := (n : Int) + 1) (by omega)]
              exact this
          · intro _ _; simp [go_sem]
          · intro _; simp
          · cases c4 : d.ps.all ioOK <;> simp [go_sem, c1, c3]
    · have c3' : 200 < (d.ps.length : Int) := by omega
      simp [go_sem, eDisk, c1', c3', c3]
  · have c1' : ¬ (d.ss.length : Int) = 64 := by omega
    simp [go_sem, eDisk, c1, c1']
def askS (d : Disk) (host at_ : Int) : Int := if diskOK d then (if inn host 0 3 then (if inn at_ 0 63 then 0 else 14) else 4) else 1
theorem l01Ask_E (d : Disk) (host at_ : Int) (h1 : d.ss.length ≤ 1073741824) (h2 : d.ps.length ≤ 1073741824) : E CX 97 [eDisk d, .int .i64 host, .int .i64 at_] [] = some { val := .int .i64 (askS d host at_) } := by
  refine E_fin Try.f97 _ an97 rfl rfl rfl Try.func97 rfl (by kernel_rfl) ?_
  have e1 := sDiskOK_E d h1 h2
  have e2 := l01In_E host 0 3
  have e3 := l01In_E at_ 0 63
  simp only [eDisk] at e1
  unfold askS
  cases c1 : diskOK d
  · simp [go_sem, eDisk, e1, c1]
  · cases c2 : inn host 0 3
    · simp [go_sem, eDisk, e1, e2, c1, c2]
    · cases c3 : inn at_ 0 63 <;> simp [go_sem, eDisk, e1, e2, e3, c1, c2, c3]
theorem l07Move_E (m : Move) : E CX 98 [eMove m] [] = some { val := .bool (moveOK m) } := by
  refine E_fin Try.f98 _ an98 rfl rfl rfl Try.func98 rfl (by kernel_rfl) ?_
  obtain ⟨k, a, t⟩ := m
  have e1 := l01In_E a 0 63
  by_cases c1 : k = 1
  · subst c1
    cases c3 : inn a 0 63
    · simp [go_sem, eMove, moveOK, e1, c3]
    · simp [go_sem, eMove, moveOK, e1, c3]
      omega
  · by_cases c2 : k = 2
    · subst c2
      by_cases c2 : a = 0
      · by_cases c3 : t = [] <;> simp [go_sem, eMove, moveOK, c2, c3]
      · simp [go_sem, eMove, moveOK, c2]
    · simp [go_sem, eMove, moveOK, c1, c2]
end Go.Proofs.Ytccoeoppjcegnaa

namespace Go.Proofs.Ytccoeoppjcegnaa
open Go
set_option maxRecDepth 100000
set_option linter.unusedSimpArgs false
set_option linter.unusedVariables false
theorem openV_cases (t : Tx) (kind : Int) : (openF t kind = none ∧ (openV t kind = .tuple [.nil, .bool false] ∨ ∃ l : List Int, openV t kind = .tuple [.sl 1 (l.map (.int .i64)), .bool false])) ∨ (∃ l, openF t kind = some l ∧ openV t kind = .tuple [.sl 1 (l.map (.int .i64)), .bool true]) := by
  unfold openV
  cases h : early t
  · rw [open_late h]
    by_cases c : openB t = true ∧ t0 t = kind
    · right; exact ⟨LL t, by rw [if_pos c], by rw [if_pos c]; rfl⟩
    · left; exact ⟨by rw [if_neg c], .inr ⟨LL t, by rw [if_neg c]; rfl⟩⟩
  · rw [open_early h]
    left; exact ⟨rfl, .inl rfl⟩
theorem slot_E (h : Int) (hh : 0 ≤ h ∧ h ≤ 100) : E CX 143 [.int .i64 h] [] = some { val := .int .i64 (39 + 6 * h) } := by
  refine E_fin Try.f143 _ an143 rfl rfl rfl Try.func143 rfl (by kernel_rfl) ?_
  simp [go_sem, wrap_id (n := 6 * h) (by omega), wrap_id (n := 39 + 6 * h) (by omega)]
theorem l07Slot_E (h : Int) (hh : 0 ≤ h ∧ h ≤ 100) : E CX 148 [.int .i64 h] [] = some { val := .int .i64 (39 + 6 * h) } := by
  refine E_fin Try.f148 _ an148 rfl rfl rfl Try.func148 rfl (by kernel_rfl) ?_
  simp [go_sem, wrap_id (n := 6 * h) (by omega), wrap_id (n := 39 + 6 * h) (by omega)]
def updOK (u : Update) : Bool := inn u.at_ 9 38 && decide (u.data.length ≤ 72)
theorem updateOK_E (u : Update) : E CX 66 [eUpdate u] [] = some { val := .bool (updOK u) } := by
  refine E_fin Try.f66 _ an66 rfl rfl rfl Try.func66 rfl (by kernel_rfl) ?_
  have e1 := within_E u.at_ 9 38
  unfold updOK
  cases c : inn u.at_ 9 38
  · simp [go_sem, eUpdate, e1, c]
  · simp [go_sem, eUpdate, e1, c]
    omega
theorem l07Update_E (u : Update) : E CX 147 [eUpdate u] [] = some { val := .bool (updOK u) } := by
  refine E_fin Try.f147 _ an147 rfl rfl rfl Try.func147 rfl (by kernel_rfl) ?_
  have e1 := l01In_E u.at_ 9 38
  unfold updOK
  cases c : inn u.at_ 9 38
  · simp [go_sem, eUpdate, e1, c]
  · simp [go_sem, eUpdate, e1, c]
    omega
def updF (t : Tx) : Option Update :=
  if t.length < 8 then none else match openF (t.take 8) 8 with
    | some [a] => if updOK ⟨a, t.drop 8⟩ then some ⟨a, t.drop 8⟩ else none
    | _ => none
/-- What reading an update answers. -/
def updV (o : Option Update) : AV := match o with
  | some u => .tuple [eUpdate u, .bool true]
  | none => .tuple [.agg [.int .i64 0, .str []], .bool false]
theorem updateOf_E (t : Tx) (ht : t.length ≤ 1000000) : E CX 162 [.str t] [] = some { val := updV (updF t) } := by
  refine E_fin Try.f162 _ an162 rfl rfl rfl Try.func162 rfl (by kernel_rfl) ?_
  unfold updF
  by_cases h1 : t.length < 8
  · simp [go_sem, updV, h1, show (t.length : Int) < 8 by omega]
  · have e1 := open_E (t.take 8) 8 (by simp; omega)
    rcases openV_cases (t.take 8) 8 with ⟨h2, h3 | ⟨l, h3⟩⟩ | ⟨l, h2, h3⟩
    · rw [h3] at e1
      simp [go_sem, updV, h1, h2, show ¬ (t.length : Int) < 8 by omega, show 8 ≤ t.length by omega, e1]
    · rw [h3] at e1
      simp [go_sem, updV, h1, h2, show ¬ (t.length : Int) < 8 by omega, show 8 ≤ t.length by omega, e1]
    · rw [h3] at e1
      match l, h2 with
      | [], h2 => simp [go_sem, updV, h1, h2, show ¬ (t.length : Int) < 8 by omega, show 8 ≤ t.length by omega, e1]
      | a :: b :: l, h2 =>
        have : ¬ ((l.length : Int) + 1 + 1 = 1) := by omega
        simp [go_sem, updV, h1, h2, this, show ¬ (t.length : Int) < 8 by omega, show 8 ≤ t.length by omega, e1]
      | [a], h2 =>
        have e2 := updateOK_E ⟨a, t.drop 8⟩
        simp only [eUpdate] at e2
        cases h4 : updOK ⟨a, t.drop 8⟩
        · rw [h4] at e2
          simp [go_sem, updV, h1, h2, h4, show ¬ (t.length : Int) < 8 by omega, show 8 ≤ t.length by omega, e1, e2]
        · rw [h4] at e2
          simp [go_sem, updV, eUpdate, h1, h2, h4, show ¬ (t.length : Int) < 8 by omega, show 8 ≤ t.length by omega, e1, e2]
theorem l07Decode_E (t : Tx) (ht : t.length ≤ 1000000) : E CX 175 [.str t] [] = some { val := updV (updF t) } := by
  refine E_fin Try.f175 _ an175 rfl rfl rfl Try.func175 rfl (by kernel_rfl) ?_
  unfold updF
  by_cases h1 : t.length < 8
  · simp [go_sem, updV, h1, show (t.length : Int) < 8 by omega]
  · have e1 := l02Open_E (t.take 8) 8 (by simp; omega)
    cases h2 : openF (t.take 8) 8 with
    | none =>
      rw [h2] at e1
      simp [go_sem, updV, h1, h2, show ¬ (t.length : Int) < 8 by omega, show 8 ≤ t.length by omega, e1]
    | some l =>
      rw [h2] at e1
      match l, h2 with
      | [], h2 => simp [go_sem, updV, h1, h2, show ¬ (t.length : Int) < 8 by omega, show 8 ≤ t.length by omega, e1]
      | a :: b :: l, h2 =>
        have : ¬ ((l.length : Int) + 1 + 1 = 1) := by omega
        simp [go_sem, updV, h1, h2, this, show ¬ (t.length : Int) < 8 by omega, show 8 ≤ t.length by omega, e1]
      | [a], h2 =>
        have e2 := l07Update_E ⟨a, t.drop 8⟩
        simp only [eUpdate] at e2
        cases h4 : updOK ⟨a, t.drop 8⟩
        · rw [h4] at e2
          simp [go_sem, updV, h1, h2, h4, show ¬ (t.length : Int) < 8 by omega, show 8 ≤ t.length by omega, e1, e2]
        · rw [h4] at e2
          simp [go_sem, updV, eUpdate, h1, h2, h4, show ¬ (t.length : Int) < 8 by omega, show 8 ≤ t.length by omega, e1, e2]
theorem read_E (d : Disk) (h a : Int) (ha : 0 ≤ a ∧ a.toNat < d.ss.length) (h2 : d.ps.length ≤ 1073741824) : E CX 120 [eDisk d, .int .i64 h, .int .i64 a] [] = some { val := .str (rdL d.ss d.ps h a) } := by
  refine E_ext rfl ?_
  show X0 120 _ [] = _
  unfold X0
  rw [if_pos rfl]
  exact readX_of ⟨rfl, ha.1, ha.2, h2⟩
theorem l01Read_E (d : Disk) (h a : Int) (ha : 0 ≤ a ∧ a.toNat < d.ss.length) (h2 : d.ps.length ≤ 1073741824) : E CX 173 [eDisk d, .int .i64 h, .int .i64 a] [] = some { val := .str (rdL d.ss d.ps h a) } := by
  refine E_fin Try.f173 _ an173 rfl rfl rfl Try.func173 rfl (by kernel_rfl) ?_
  have hx : d.ss[a.toNat]? = some (d.ss.getD a.toNat []) := by rw [List.getElem?_eq_getElem ha.2]; simp [List.getD, ha.2]
  have hg := ge_of hx
  simp [go_sem, eDisk, wrap_id (n := (d.ps.length : Int) - 1) (by omega)]
  refine loop_at (fun X => fin CX _ _ X = _) (fun n : Nat => n ≤ d.ps.length) (fun n => ⟨SS [(1, .int .i64 h), (2, .int .i64 a), (3, .ptr [3] 0 0), (7, .int .i64 ((n : Int) - 1))], HS [([3], ⟨true, 32, 2, [.agg [.sl 1 (d.ss.map .str), .sl 3 (d.ps.map eIo)]]⟩)]⟩)
    (fun n => match rdN h a d.ps n with
      | some t => (.ret, ⟨SS [(6, .str t)], HE⟩)
      | none => (.exit 0, ⟨SS [(2, .int .i64 a), (3, .ptr [3] 0 0)], HS [([3], ⟨true, 32, 2, [.agg [.sl 1 (d.ss.map .str), .sl 3 (d.ps.map eIo)]]⟩)]⟩)) (fun n => n) d.ps.length (by omega) ?_ ?_ ?_
  · simp [go_sem]
  · intro n hn
    cases n with
    | zero => simp [go_sem, rdN]
    | succ n =>
      have hy : d.ps[n]? = some (d.ps.getD n default) := by rw [List.getElem?_eq_getElem (by omega)]; simp [List.getD, show n < d.ps.length by omega]
      have hgy := ge_of hy
      generalize d.ps.getD n default = x at *
      obtain ⟨xh, xa, xd⟩ := x
      have ei : (((n + 1 : Nat) : Int) - 1) = (n : Int) := by omega
      by_cases c1 : xh = h
      · by_cases c2 : xa = a
        · simp [go_sem, rdN, hy, hgy, c1, c2, eIo, ei, show n < d.ps.length by omega, show (n : Int) + 1 - 1 = n by omega]
        · simp [go_sem, rdN, hy, hgy, c1, c2, eIo, ei, show n < d.ps.length by omega, show (n : Int) + 1 - 1 = n by omega, wrap_id (n := (n : Int) - 1) (by omega)]
          exact ⟨n, by omega, by omega, rfl, rfl⟩
      · simp [go_sem, rdN, hy, hgy, c1, eIo, ei, show n < d.ps.length by omega, show (n : Int) + 1 - 1 = n by omega, wrap_id (n := (n : Int) - 1) (by omega)]
        exact ⟨n, by omega, by omega, rfl, rfl⟩
  · unfold rdL
    cases hr : rdN h a d.ps d.ps.length with
    | some t => simp [go_sem]
    | none =>
      simp only []
      generalize d.ss.getD a.toNat [] = s0 at *
      simp [go_sem, ha.1, ha.2, hg]
end Go.Proofs.Ytccoeoppjcegnaa

namespace Go.Proofs.Ytccoeoppjcegnaa
open Go
set_option maxRecDepth 100000
set_option linter.unusedSimpArgs false
set_option linter.unusedVariables false
theorem l01Land_E (d : Disk) (h k : Int) (lose : Bool) (h1 : d.ss.length ≤ 1073741824) (h2 : d.ps.length ≤ 1000000000) (hp : ∀ x ∈ d.ps, 0 ≤ x.at_ ∧ x.at_.toNat < d.ss.length) (hk : In64 k) :
    E CX 184 [eDisk d, .int .i64 h, .int .i64 k, .bool lose] [] = some { val := .agg [.ref [0, 0, 0, 0] 0 d.ss.length, .ref [1, 0, 0, 0] 0 (settleD d h k lose).ps.length], own := [⟨false, 9, 1, (settleD d h k lose).ss.map .str⟩, ⟨false, 154, 3, (settleD d h k lose).ps.map eIo⟩] } := by
  refine E_fin Try.f184 _ an184 rfl rfl rfl Try.func184 rfl (by kernel_rfl) ?_
  have e1 := l01Own_E d h1 (by omega)
  simp only [eDisk] at e1
  simp [go_sem, eDisk, e1]
  refine loop_for (fun X => fin CX _ _ X = _) d.ps (fun n (a : List Io × Int × List Tx) => In64 a.2.1 ∧ a.2.2.length = d.ss.length ∧ a.1.length ≤ n)
    (fun n a => ⟨SS [(1, .int .i64 h), (2, .int .i64 a.2.1), (3, .bool lose), (4, .ptr [4] 0 0), (8, .ptr [8] 0 0), (9, .ref [14] 0 a.1.length), (10, .int .i64 n)],
      HS [([4], ⟨true, 32, 2, [.agg [.ref [60] 0 d.ss.length, .ref [61] 0 d.ps.length]]⟩), ([8], ⟨true, 32, 2, [.agg [.nil, .nil]]⟩), ([14], ⟨false, 154, 3, a.1.map eIo⟩), ([60], ⟨false, 9, 1, a.2.2.map .str⟩), ([61], ⟨false, 154, 3, d.ps.map eIo⟩)]⟩)
    (fun r n a => (.exit 0, ⟨SS [(4, .ptr [4] 0 0), (8, .ptr [8] 0 0), (9, .ref [14] 0 (a.1 ++ (landL h lose r a.2.1 a.2.2).1).length)],
      HS [([4], ⟨true, 32, 2, [.agg [.ref [60] 0 d.ss.length, .ref [61] 0 d.ps.length]]⟩), ([8], ⟨true, 32, 2, [.agg [.nil, .nil]]⟩), ([14], ⟨false, 154, 3, (a.1 ++ (landL h lose r a.2.1 a.2.2).1).map eIo⟩), ([60], ⟨false, 9, 1, (landL h lose r a.2.1 a.2.2).2.2.map .str⟩), ([61], ⟨false, 154, 3, d.ps.map eIo⟩)]⟩)) ([], k, d.ss) ⟨hk, rfl, by simp⟩ ?_ ?_ ?_ ?_ ?_
  · simp [go_sem]
  · rintro R n ⟨q, k, ss⟩ x t hn hx hd ⟨I1, I2, I3⟩ hR
    simp only at I1 I2 I3
    have hx := hx hn
    have hxp := hp x (by rw [← hx]; exact List.getElem_mem hn)
    obtain ⟨xh, xa, xd⟩ := x
    unfold In64 at I1
    by_cases c1 : xh = h
    · by_cases c2 : 0 < k
      · have := hR (q, k - 1, ss.set xa.toNat xd) ⟨by simp only [In64]; omega, by simp [I2], by simp only; omega⟩ (by simp [landL, goes, kOf, sOf, c1, c2])
        simp [go_sem] at this
        simp [go_sem, hn, hx, eIo, c1, c2, I2, hxp.1, hxp.2, wrap_id (n := (n : Int) + 1) (by omega), wrap_id (n := k - 1) (by omega)]
        exact this
      · cases lose
        · have := hR (q ++ [⟨xh, xa, xd⟩], k, ss) ⟨by simp only [In64]; omega, I2, by simp only [List.length_append, List.length_singleton]; omega⟩ (by simp [landL, goes, c1, c2])
          simp [go_sem, eIo, c1] at this
          simp [go_sem, hn, hx, eIo, c1, c2, show q.length + 1 ≤ 1073741824 by omega, wrap_id (n := (n : Int) + 1) (by omega)]
          exact this
        · have := hR (q, k, ss) ⟨by simp only [In64]; omega, I2, by simp only; omega⟩ (by simp [landL, goes, kOf, sOf, c1, c2])
          simp [go_sem] at this
          simp [go_sem, hn, hx, eIo, c1, c2, wrap_id (n := (n : Int) + 1) (by omega)]
          exact this
    · have := hR (q ++ [⟨xh, xa, xd⟩], k, ss) ⟨by simp only [In64]; omega, I2, by simp only [List.length_append, List.length_singleton]; omega⟩ (by simp [landL, goes, c1])
      simp [go_sem, eIo] at this
      simp [go_sem, hn, hx, eIo, c1, show q.length + 1 ≤ 1073741824 by omega, wrap_id (n := (n : Int) + 1) (by omega)]
      exact this
  · rintro ⟨q, k, ss⟩ hI
    simp [go_sem, landL]
  · intro _; simp
  · simp [go_sem, settleD]
theorem l01Flush_E (d : Disk) (h : Int) (g : Good d 1000000000) :
    E CX 133 [eDisk d, .int .i64 h] [] = some { val := eDisk (settleD d h 200 false) } := by
  refine E_fin Try.f133 _ an133 rfl rfl rfl Try.func133 rfl (by kernel_rfl) ?_
  have e1 := l01Land_E d h 200 false (by have := g.ss; omega) g.ps (by rw [g.ss]; exact g.at_) (by unfold In64; omega)
  have hss : (settleD d h 200 false).ss.length = d.ss.length := (g.settle h 200 false).ss.trans g.ss.symm
  simp only [eDisk] at e1 ⊢
  rw [← hss] at e1
  simp [go_sem, e1]
theorem l01Write_E (d : Disk) (x : Io) (h2 : d.ps.length ≤ 1000000000) :
    E CX 134 [eDisk d, eIo x] [] = some { val := .agg [.sl 1 (d.ss.map .str), .ref [0, 0, 0, 0] 0 (d.ps.length + 1)], own := [⟨false, 154, 3, (d.ps ++ [x]).map eIo⟩] } := by
  refine E_fin Try.f134 _ an134 rfl rfl rfl Try.func134 rfl (by kernel_rfl) ?_
  simp [go_sem, eDisk, eIo, show d.ps.length + 1 ≤ 1073741824 by omega, show d.ps.length ≤ 1073741824 by omega]
def mvS (h : Int) (d : Disk) (m : Move) : Disk := if m.kind = 2 then settleD d h 200 false else ⟨d.ss, d.ps ++ [⟨h, m.at_, m.data⟩]⟩
theorem l07Do_E (d : Disk) (h : Int) (l : List Move) (g : Good d 1000000) (hl : l.length ≤ 1000000) (hm : ∀ m ∈ l, m.kind ≠ 2 → 0 ≤ m.at_ ∧ m.at_.toNat < 64) :
    E CX 99 [eDisk d, .int .i64 h, .sl 3 (l.map eMove)] [] = some { val := eDisk (l.foldl (mvS h) d) } := by
  refine E_fin Try.f99 _ an99 rfl rfl rfl Try.func99 rfl (by kernel_rfl) ?_
  simp [go_sem, eDisk]
  refine loop_for (fun X => fin CX _ _ X = _) l (fun n (a : Disk) => Good a (1000000 + n)) (fun n a => ⟨SS [(1, .int .i64 h), (2, .sl 3 (l.map eMove)), (3, .ptr [3] 0 0), (6, .ptr [6] 0 0), (7, .int .i64 n)],
      HS [([3], ⟨true, 32, 2, [.agg [.sl 1 (a.ss.map .str), .sl 3 (a.ps.map eIo)]]⟩), ([6], ⟨true, 32, 2, [.agg [.nil, .nil]]⟩)]⟩)
     (fun r n a => (.exit 0, ⟨SS [(3, .ptr [3] 0 0), (6, .ptr [6] 0 0)],
      HS [([3], ⟨true, 32, 2, [.agg [.sl 1 ((r.foldl (mvS h) a).ss.map .str), .sl 3 ((r.foldl (mvS h) a).ps.map eIo)]]⟩), ([6], ⟨true, 32, 2, [.agg [.nil, .nil]]⟩)]⟩)) d g ?_ ?_ ?_ ?_ ?_
  · simp [go_sem]
  · intro R n a m t hn hx hd hI hR
    have hx := hx hn
    have hI2 := hI.ps
    have hmm := hm m (by rw [← hx]; exact List.getElem_mem hn)
    by_cases c : m.kind = 2
    · have hg := hI.settle h 200 false
      have e2 := l01Flush_E a h ⟨hI.ss, by omega, hI.at_⟩
      have := hR (settleD a h 200 false) ⟨hg.ss, by have := hg.ps; omega, hg.at_⟩ (by simp [mvS, c])
      simp only [eDisk] at e2
      simp [go_sem] at this
      simp [go_sem, hn, hx, eMove, c, e2, wrap_id (n := (n : Int) + 1) (by omega)]
      exact this
    · have e2 := l01Write_E a ⟨h, m.at_, m.data⟩ (by omega)
      simp only [eDisk, eIo] at e2
      have := hR ⟨a.ss, a.ps ++ [⟨h, m.at_, m.data⟩]⟩ (by
        refine ⟨hI.ss, by simp; omega, ?_⟩
        intro x hx
        simp only [List.mem_append, List.mem_singleton] at hx
        rcases hx with hx | rfl
        · exact hI.at_ x hx
        · exact hmm c) (by simp [mvS, c])
      simp [go_sem, eIo] at this
      simp at e2
      simp [go_sem, hn, hx, eMove, c, e2, eIo, wrap_id (n := (n : Int) + 1) (by omega)]
      exact this
  · intro a hI
    simp [go_sem]
  · intro _; simp
  · simp [go_sem]
end Go.Proofs.Ytccoeoppjcegnaa

namespace Go.Proofs.Ytccoeoppjcegnaa
open Go
set_option maxRecDepth 100000
set_option linter.unusedSimpArgs false
set_option linter.unusedVariables false
def movesCode (d : Disk) (h : Int) (l : List Move) : Int := firstP [(decide (4096 < l.length), 2), (askC d h != 0, askC d h), (!l.all moveOK, 1)]
section
variable (d : Disk) (h : Int) (l : List Move)
theorem movesDo_bad (h1 : d.ss.length ≤ 1073741824) (h2 : d.ps.length ≤ 1073741824) (h3 : l.length ≤ 1073741824) (hc : movesCode d h l ≠ 0) :
    E CX 17 [eDisk d, .int .i64 h, .sl 3 (l.map eMove)] [] = some { val := .tuple [.agg [.nil, .nil], .int .i64 (movesCode d h l)] } := by
  refine E_fin Try.f17 _ an17 rfl rfl rfl Try.func17 rfl (by kernel_rfl) ?_
  have e1 := isLongMove_E l
  have e2 := codes_E d h h1 h2
  simp only [eDisk] at e2
  have e3 := allMove_E 75 l moveOK rfl h3 moveOK_E
  have e4 := first_E [(decide (4096 < l.length), 2), (askC d h != 0, askC d h), (!l.all moveOK, 1)] (by simp)
  simp only [anys] at e4
  unfold movesCode at hc ⊢
  generalize hq : firstP [(decide (4096 < l.length), 2), (askC d h != 0, askC d h), (!l.all moveOK, 1)] = q at *
  simp [go_sem, eDisk, e1, e2, e3]
  try simp at e4
  simp [go_sem, e4, hc]
theorem movesDo_full (h1 : d.ss.length ≤ 1073741824) (h2 : d.ps.length ≤ 1073741824) (h3 : l.length ≤ 1073741824) (hc : movesCode d h l = 0) (hf : 200 < d.ps.length + l.length) :
    E CX 17 [eDisk d, .int .i64 h, .sl 3 (l.map eMove)] [] = some { val := .tuple [.agg [.ref [0, 0, 0, 0] 0 d.ss.length, .ref [1, 0, 0, 0] 0 d.ps.length], .int .i64 7], own := [⟨false, 9, 1, d.ss.map .str⟩, ⟨false, 154, 3, d.ps.map eIo⟩] } := by
  refine E_fin Try.f17 _ an17 rfl rfl rfl Try.func17 rfl (by kernel_rfl) ?_
  have e1 := isLongMove_E l
  have e2 := codes_E d h h1 h2
  have e5 := copied_E d h1 h2
  simp only [eDisk] at e2 e5
  have e3 := allMove_E 75 l moveOK rfl h3 moveOK_E
  have e4 := first_E [(decide (4096 < l.length), 2), (askC d h != 0, askC d h), (!l.all moveOK, 1)] (by simp)
  simp only [anys] at e4
  unfold movesCode at hc
  rw [hc] at e4
  simp [go_sem, eDisk, e1, e2, e3]
  try simp at e4
  simp [go_sem, e4, wrap_id (n := (d.ps.length : Int) + l.length) (by omega), show (200 : Int) < d.ps.length + l.length by omega, e5]
theorem movesDo_done (h1 : d.ss.length ≤ 1073741824) (h2 : d.ps.length ≤ 1073741824) (h3 : l.length ≤ 1073741824) (hc : movesCode d h l = 0) (hf : d.ps.length + l.length ≤ 200) (g : Good d 1000000) (hm : ∀ m ∈ l, m.kind ≠ 2 → 0 ≤ m.at_ ∧ m.at_.toNat < 64) :
    E CX 17 [eDisk d, .int .i64 h, .sl 3 (l.map eMove)] [] = some { val := .tuple [.agg [.ref [0, 0, 0, 0] 0 (l.foldl (mvT h) (d, [])).1.ss.length, .ref [1, 0, 0, 0] 0 (l.foldl (mvT h) (d, [])).1.ps.length], .int .i64 0], own := [⟨false, 9, 1, (l.foldl (mvT h) (d, [])).1.ss.map .str⟩, ⟨false, 154, 3, ((l.foldl (mvT h) (d, [])).1.ps ++ (l.foldl (mvT h) (d, [])).2).map eIo⟩] } := by
  refine E_fin Try.f17 _ an17 rfl rfl rfl Try.func17 rfl (by kernel_rfl) ?_
  have e1 := isLongMove_E l
  have e2 := codes_E d h h1 h2
  have e5 := moved_E d h l g (by omega) hm
  simp only [eDisk] at e2 e5
  have e3 := allMove_E 75 l moveOK rfl h3 moveOK_E
  have e4 := first_E [(decide (4096 < l.length), 2), (askC d h != 0, askC d h), (!l.all moveOK, 1)] (by simp)
  simp only [anys] at e4
  unfold movesCode at hc
  rw [hc] at e4
  generalize l.foldl (mvT h) (d, []) = r at *
  simp [go_sem, eDisk, e1, e2, e3]
  try simp at e4
  try simp at e5
  simp [go_sem, e4, wrap_id (n := (d.ps.length : Int) + l.length) (by omega), show ¬ (200 : Int) < d.ps.length + l.length by omega, e5]
end
end Go.Proofs.Ytccoeoppjcegnaa

namespace Go.Proofs.Ytccoeoppjcegnaa
open Go
set_option maxRecDepth 100000
set_option linter.unusedSimpArgs false
set_option linter.unusedVariables false
theorem movesCode_eq (d : Disk) (h : Int) (l : List Move) : movesCode d h l = if 4096 < l.length then 2 else if askS d h 0 ≠ 0 then askS d h 0 else if l.all moveOK = true then 0 else 1 := by
  have : askS d h 0 = askC d h := by unfold askS askC; cases diskOK d <;> cases inn h 0 3 <;> simp [inn]
  rw [this]
  unfold movesCode
  by_cases c1 : 4096 < l.length
  · simp [firstP, c1]
  · by_cases c2 : askC d h = 0
    · cases c3 : l.all moveOK <;> simp [firstP, c1, c2]
    · simp [firstP, c1, c2]
section
variable (d : Disk) (h : Int) (l : List Move)
theorem sMovesDo_bad (h1 : d.ss.length ≤ 1073741824) (h2 : d.ps.length ≤ 1000000000) (h3 : l.length ≤ 1073741824) (hc : movesCode d h l ≠ 0) :
    E CX 31 [eDisk d, .int .i64 h, .sl 3 (l.map eMove)] [] = some { val := .tuple [.agg [.nil, .nil], .int .i64 (movesCode d h l)] } := by
  refine E_fin Try.f31 _ an31 rfl rfl rfl Try.func31 rfl (by kernel_rfl) ?_
  rw [movesCode_eq] at hc ⊢
  have e1 := l01Ask_E d h 0 h1 (by omega)
  simp only [eDisk] at e1
  by_cases c1 : 4096 < l.length
  · simp [go_sem, eDisk, show (4096 : Int) < l.length by omega, c1]
  · by_cases c2 : askS d h 0 = 0
    · rw [c2] at e1
      simp [go_sem, eDisk, show ¬ (4096 : Int) < l.length by omega, c1, c2, e1]
      refine loop_for (fun X => fin CX _ _ X = _) l (fun n _ => True) (fun n (_ : Unit) => ⟨SS [(1, .int .i64 h), (2, .sl 3 (l.map eMove)), (3, .ptr [3] 0 0), (6, .ptr [6] 0 0), (9, .int .i64 n)], HS [([3], ⟨true, 32, 2, [.agg [.sl 1 (d.ss.map .str), .sl 3 (d.ps.map eIo)]]⟩), ([6], ⟨true, 32, 2, [.agg [.nil, .nil]]⟩)]⟩)
        (fun r n _ => if r.all moveOK then (.exit 0, ⟨SS [(1, .int .i64 h), (2, .sl 3 (l.map eMove)), (3, .ptr [3] 0 0), (6, .ptr [6] 0 0)], HS [([3], ⟨true, 32, 2, [.agg [.sl 1 (d.ss.map .str), .sl 3 (d.ps.map eIo)]]⟩), ([6], ⟨true, 32, 2, [.agg [.nil, .nil]]⟩)]⟩) else (.ret, ⟨SS [(6, .ptr [6] 0 0), (7, .int .i64 1)], HS [([6], ⟨true, 32, 2, [.agg [.nil, .nil]]⟩)]⟩)) () trivial ?_ ?_ ?_ ?_ ?_
      · simp [go_sem]
      · intro R n _ m t hn hx hd _ hR
        have hx := hx hn
        have e2 := l07Move_E m
        simp only [eMove] at e2
        cases c : moveOK m
        · rw [c] at e2
          simp [go_sem, hn, hx, eMove, e2, c]
        · rw [c] at e2
          have := hR () trivial (by simp [c])
          simp [go_sem] at this
          simp [go_sem, hn, hx, eMove, e2, c, wrap_id (n := (n : Int) + 1) (by omega)]
          exact this
      · intro _ _; simp [go_sem]
      · intro _; simp
      · cases c3 : l.all moveOK
        · simp [go_sem]
          simpa using c3
        · simp [c1, c2, c3] at hc
    · simp [go_sem, eDisk, show ¬ (4096 : Int) < l.length by omega, c1, c2, e1]
theorem sMovesDo_ok (r : Disk) (c : Int) (h1 : d.ss.length ≤ 1073741824) (h2 : d.ps.length ≤ 1000000000) (h3 : l.length ≤ 1073741824) (hc : movesCode d h l = 0)
    (hr : if 200 < d.ps.length + l.length then r = d ∧ c = 7 else r = l.foldl (mvS h) d ∧ c = 0 ∧ Good d 1000000 ∧ Good (l.foldl (mvS h) d) 2000000 ∧ ∀ m ∈ l, m.kind ≠ 2 → 0 ≤ m.at_ ∧ m.at_.toNat < 64) :
    E CX 31 [eDisk d, .int .i64 h, .sl 3 (l.map eMove)] [] = some { val := .tuple [eDisk r, .int .i64 c] } := by
  refine E_fin Try.f31 _ an31 rfl rfl rfl Try.func31 rfl (by kernel_rfl) ?_
  rw [movesCode_eq] at hc
  have e1 := l01Ask_E d h 0 h1 (by omega)
  simp only [eDisk] at e1
  have c1 : ¬ 4096 < l.length := by intro hh; simp [hh] at hc
  have c2 : askS d h 0 = 0 := by
    by_cases c2 : askS d h 0 = 0
    · exact c2
    · simp [c1, c2] at hc
  have c3 : l.all moveOK = true := by
    cases c3 : l.all moveOK
    · simp [c1, c2, c3] at hc
    · rfl
  rw [c2] at e1
  simp [go_sem, eDisk, show ¬ (4096 : Int) < l.length by omega, e1]
  refine loop_for (fun X => fin CX _ _ X = _) l (fun n _ => True) (fun n (_ : Unit) => ⟨SS [(1, .int .i64 h), (2, .sl 3 (l.map eMove)), (3, .ptr [3] 0 0), (6, .ptr [6] 0 0), (9, .int .i64 n)], HS [([3], ⟨true, 32, 2, [.agg [.sl 1 (d.ss.map .str), .sl 3 (d.ps.map eIo)]]⟩), ([6], ⟨true, 32, 2, [.agg [.nil, .nil]]⟩)]⟩)
    (fun _ n _ => (.exit 0, ⟨SS [(1, .int .i64 h), (2, .sl 3 (l.map eMove)), (3, .ptr [3] 0 0), (6, .ptr [6] 0 0)], HS [([3], ⟨true, 32, 2, [.agg [.sl 1 (d.ss.map .str), .sl 3 (d.ps.map eIo)]]⟩), ([6], ⟨true, 32, 2, [.agg [.nil, .nil]]⟩)]⟩)) () trivial ?_ ?_ ?_ ?_ ?_
  · simp [go_sem]
  · intro R n _ m t hn hx hd _ hR
    have hx := hx hn
    have e2 := l07Move_E m
    simp only [eMove] at e2
    rw [List.all_eq_true.1 c3 m (by rw [← hx]; exact List.getElem_mem hn)] at e2
    have := hR () trivial rfl
    simp [go_sem] at this
    simp [go_sem, hn, hx, eMove, e2, wrap_id (n := (n : Int) + 1) (by omega)]
    exact this
  · intro _ _; simp [go_sem]
  · intro _; simp
  · by_cases cf : 200 < d.ps.length + l.length
    · rw [if_pos cf] at hr
      obtain ⟨rfl, rfl⟩ := hr
      have e5 := l01Own_E r h1 (by omega)
      simp only [eDisk] at e5
      simp [go_sem, wrap_id (n := (r.ps.length : Int) + l.length) (by omega), show (200 : Int) < r.ps.length + l.length by omega, e5]
    · rw [if_neg cf] at hr
      obtain ⟨rfl, rfl, g, g', hm⟩ := hr
      have e5 := l07Do_E d h l g (by omega) hm
      have e6 := l01Own_E (l.foldl (mvS h) d) (by have := g'.ss; omega) (by have := g'.ps; omega)
      simp only [eDisk] at e5 e6
      generalize l.foldl (mvS h) d = r at *
      simp [go_sem, wrap_id (n := (d.ps.length : Int) + l.length) (by omega), show ¬ (200 : Int) < d.ps.length + l.length by omega, e5, e6]
end
/-! Both go alike. -/
theorem landL_room (h : Int) (lose : Bool) : ∀ (l : List Io) (k k' : Int) (ss : List Tx), (l.length : Int) ≤ k → (l.length : Int) ≤ k' → (landL h lose l k ss).1 = (landL h lose l k' ss).1 ∧ (landL h lose l k ss).2.2 = (landL h lose l k' ss).2.2 := by
  intro l
  induction l with
  | nil => intro k k' ss _ _; exact ⟨rfl, rfl⟩
  | cons x l ih =>
    intro k k' ss h1 h2
    simp only [List.length_cons, Int.natCast_add, Int.natCast_one] at h1 h2
    unfold landL
    by_cases c : x.host = h
    · have k1 : 0 < k := by omega
      have k2 : 0 < k' := by omega
      simp only [goes, kOf, sOf, c, k1, k2, if_true, and_self]
      exact ih _ _ _ (by omega) (by omega)
    · simp only [goes, c, if_false, Bool.false_eq_true]
      obtain ⟨e1, e2⟩ := ih k k' ss (by omega) (by omega)
      exact ⟨by rw [e1], e2⟩
theorem settle_room (d : Disk) (h k k' : Int) (lose : Bool) (h1 : (d.ps.length : Int) ≤ k) (h2 : (d.ps.length : Int) ≤ k') : settleD d h k lose = settleD d h k' lose := by
  obtain ⟨e1, e2⟩ := landL_room h lose d.ps k k' d.ss h1 h2
  simp only [settleD, e1, e2]
theorem moves_alike (h : Int) : ∀ (l : List Move) (d : Disk) (tl : List Io), d.ps.length + l.length ≤ 200 → (l.foldl (mvT h) (d, tl)).1 = l.foldl (mvS h) d := by
  intro l
  induction l with
  | nil => intro d tl _; rfl
  | cons m l ih =>
    intro d tl hl
    simp only [List.length_cons] at hl
    simp only [List.foldl_cons, mvT, mvS]
    by_cases c : m.kind = 2
    · simp only [c, if_true]
      rw [ih _ _ (by have := (landL_len h false d.ps 400 d.ss).1; simp only [settleD]; omega), settle_room d h 400 200 false (by omega) (by omega)]
    · simp only [c, if_false]
      exact ih _ _ (by simp; omega)
theorem moves_good (h : Int) : ∀ (l : List Move) (d : Disk) (n : Nat), Good d n → (∀ m ∈ l, m.kind ≠ 2 → 0 ≤ m.at_ ∧ m.at_.toNat < 64) → Good (l.foldl (mvS h) d) (n + l.length) := by
  intro l
  induction l with
  | nil => intro d n g _; exact g
  | cons m l ih =>
    intro d n g hm
    simp only [List.foldl_cons, List.length_cons]
    rw [show n + (l.length + 1) = n + 1 + l.length by omega]
    refine ih _ (n + 1) ?_ fun m hm' => hm m (by simp [hm'])
    unfold mvS
    by_cases c : m.kind = 2
    · have := g.settle h 200 false
      simp only [c, if_true]
      exact ⟨this.ss, by have := this.ps; omega, this.at_⟩
    · simp only [c, if_false]
      refine ⟨g.ss, by have := g.ps; simp; omega, ?_⟩
      intro x hx
      simp only [List.mem_append, List.mem_singleton] at hx
      rcases hx with hx | rfl
      · exact g.at_ x hx
      · exact hm m (by simp) c
theorem diskOK_good {d : Disk} (h : diskOK d = true) : Good d 200 := by
  unfold diskOK at h
  simp only [Bool.and_eq_true, decide_eq_true_eq, List.all_eq_true] at h
  obtain ⟨⟨⟨h1, h2⟩, h3⟩, h4⟩ := h
  refine ⟨h1, h3, fun x hx => ?_⟩
  have := h4 x hx
  simp [ioOK, inn] at this
  omega
theorem moveOK_at {m : Move} (h : moveOK m = true) (hk : m.kind ≠ 2) : 0 ≤ m.at_ ∧ m.at_.toNat < 64 := by
  simp [moveOK, hk, inn] at h
  omega
theorem code_zero {d : Disk} {h : Int} {l : List Move} (hc : movesCode d h l = 0) : diskOK d = true ∧ ∀ m ∈ l, m.kind ≠ 2 → 0 ≤ m.at_ ∧ m.at_.toNat < 64 := by
  rw [movesCode_eq] at hc
  by_cases c1 : 4096 < l.length
  · simp [c1] at hc
  · by_cases c2 : askS d h 0 = 0
    · have hd : diskOK d = true := by
        cases hd : diskOK d
        · simp [askS, hd] at c2
        · rfl
      refine ⟨hd, fun m hm hk => moveOK_at ?_ hk⟩
      cases c3 : l.all moveOK
      · simp [c1, c2, c3] at hc
      · exact List.all_eq_true.1 c3 m hm
    · simp [c1, c2] at hc
end Go.Proofs.Ytccoeoppjcegnaa

namespace Go.Proofs.Ytccoeoppjcegnaa
open Go
set_option maxRecDepth 100000
set_option linter.unusedSimpArgs false
set_option linter.unusedVariables false
/-- Updates of a slot, one behind the other, as far as they are right. -/
def updsR (d : Disk) (h b : Int) : Nat → Nat → List Update → Bool × List Update
  | 0, _, l => (true, l)
  | k + 1, i, l => match updF (rdL d.ss d.ps h (b + 1 + (i : Int))) with
    | some u => updsR d h b k (i + 1) (l ++ [u])
    | none => (false, l)
def waitF (d : Disk) (h of_ : Int) : Option (List Update × Int) :=
  if rdL d.ss d.ps h (39 + 6 * of_) = [] then some ([], 0) else match openF (rdL d.ss d.ps h (39 + 6 * of_)) 7 with
    | some [n, q] => if 5 < n then none else match updsR d h (39 + 6 * of_) n.toNat 0 [] with
      | (true, l) => some (l, q)
      | (false, _) => none
    | _ => none
theorem openF_nums {t : Tx} {kind : Int} {l : List Int} (h : openF t kind = some l) : ∀ n ∈ l, 0 ≤ n ∧ n ≤ 2147483647 := by
  unfold openF at h
  split at h
  · rename_i hc
    obtain ⟨_, _, _, _, h5, _⟩ := hc
    injection h with h
    subst h
    intro n hn
    simp [intsOK, isNum, inn] at h5
    exact h5.2 n hn
  · cases h
theorem rdL_len {d : Disk} (hd : diskOK d = true) (h a : Int) : (rdL d.ss d.ps h a).length ≤ 80 := by
  simp only [diskOK, Bool.and_eq_true, decide_eq_true_eq, List.all_eq_true] at hd
  obtain ⟨⟨⟨_, h2⟩, _⟩, h4⟩ := hd
  have hn : ∀ n t, rdN h a d.ps n = some t → t.length ≤ 80 := by
    intro n
    induction n with
    | zero => intro t ht; simp [rdN] at ht
    | succ n ih =>
      intro t ht
      unfold rdN at ht
      cases hx : d.ps[n]? with
      | none => rw [hx] at ht; exact ih t ht
      | some x =>
        rw [hx] at ht
        simp only at ht
        split at ht
        · injection ht with ht; subst ht
          have := h4 x (List.mem_of_getElem? hx)
          simp [ioOK] at this
          exact this.2
        · exact ih t ht
  unfold rdL
  cases hr : rdN h a d.ps d.ps.length with
  | some t => exact hn _ _ hr
  | none =>
    simp only []
    by_cases hi : a.toNat < d.ss.length
    · rw [List.getD_eq_getElem?_getD, List.getElem?_eq_getElem hi]
      exact h2 _ (List.getElem_mem hi)
    · rw [List.getD_eq_getElem?_getD, List.getElem?_eq_none (by omega)]; simp
theorem updsR_len (d : Disk) (h b : Int) : ∀ (k i : Nat) (l : List Update), (updsR d h b k i l).2.length ≤ l.length + k := by
  intro k
  induction k with
  | zero => intro i l; simp [updsR]
  | succ k ih =>
    intro i l
    unfold updsR
    cases updF (rdL d.ss d.ps h (b + 1 + (i : Int))) with
    | none => simp
    | some u => have := ih (i + 1) (l ++ [u]); simp at this ⊢; omega
section
variable (d : Disk) (h of_ : Int) (hd : diskOK d = true) (ho : 0 ≤ of_ ∧ of_ ≤ 3)
include hd ho
theorem waiting_empty (h1 : rdL d.ss d.ps h (39 + 6 * of_) = []) : E CX 79 [eDisk d, .int .i64 h, .int .i64 of_] [] = some { val := .tuple [.nil, .int .i64 0, .bool true] } := by
  refine E_fin Try.f79 _ an79 rfl rfl rfl Try.func79 rfl (by kernel_rfl) ?_
  have g := diskOK_good hd
  have g1 := g.ss; have g2 := g.ps
  have e1 := slot_E of_ (by omega)
  have e2 := read_E d h (39 + 6 * of_) (by omega) (by omega)
  rw [h1] at e2
  simp only [eDisk] at e2
  simp [go_sem, eDisk, e1, e2]
theorem waiting_E (h1 : rdL d.ss d.ps h (39 + 6 * of_) ≠ []) : E CX 79 [eDisk d, .int .i64 h, .int .i64 of_] [] = some (match waitF d h of_ with
    | some (l, q) => { val := .tuple [.ref [0, 0, 0, 0] 0 l.length, .int .i64 q, .bool true], own := [⟨false, 39, 2, l.map eUpdate⟩] }
    | none => { val := .tuple [.nil, .int .i64 0, .bool false] }) := by
  refine E_fin Try.f79 _ an79 rfl rfl rfl Try.func79 rfl (by kernel_rfl) ?_
  have g := diskOK_good hd
  have g1 := g.ss; have g2 := g.ps
  have e1 := slot_E of_ (by omega)
  have e2 := read_E d h (39 + 6 * of_) (by omega) (by omega)
  have hlen := rdL_len hd h (39 + 6 * of_)
  unfold waitF
  rw [if_neg h1]
  generalize rdL d.ss d.ps h (39 + 6 * of_) = t at *
  simp only [eDisk] at e2
  have e3 := open_E t 7 (by omega)
  rcases openV_cases t 7 with ⟨h2, h3 | ⟨l, h3⟩⟩ | ⟨l, h2, h3⟩
  · rw [h3] at e3
    simp [go_sem, eDisk, e1, e2, e3, h1, h2]
  · rw [h3] at e3
    simp [go_sem, eDisk, e1, e2, e3, h1, h2]
  · rw [h3] at e3
    have hn := openF_nums h2
    match l, h2 with
    | [], h2 => simp [go_sem, eDisk, e1, e2, e3, h1, h2]
    | [a], h2 => simp [go_sem, eDisk, e1, e2, e3, h1, h2]
    | a :: b :: c :: l, h2 =>
      have : ¬ ((l.length : Int) + 1 + 1 + 1 = 2) := by omega
      simp [go_sem, eDisk, e1, e2, e3, h1, h2, this]
    | [n, q], h2 =>
      have hn1 := hn n (by simp)
      by_cases h5 : 5 < n
      · simp [go_sem, eDisk, e1, e2, e3, h1, h2, h5]
      · obtain ⟨m, rfl⟩ : ∃ m : Nat, n = m := ⟨n.toNat, by omega⟩
        simp [go_sem, eDisk, e1, e2, e3, h1, h2, h5]
        refine loop_at (fun X => fin CX _ _ X = _) (fun x : Nat × List Update => x.1 ≤ m ∧ x.2.length = x.1)
          (fun x => ⟨SS [(1, .int .i64 h), (2, .int .i64 of_), (3, .ptr [3] 0 0), (10, .sl 1 [.int .i64 m, .int .i64 q]), (12, .ref [41] 0 x.2.length), (44, .int .i64 m), (45, .int .i64 x.1)], HS [([3], ⟨true, 32, 2, [.agg [.sl 1 (d.ss.map .str), .sl 3 (d.ps.map eIo)]]⟩), ([41], ⟨false, 39, 2, x.2.map eUpdate⟩)]⟩)
          (fun x => match updsR d h (39 + 6 * of_) (m - x.1) x.1 x.2 with
            | (true, l) => (.exit 0, ⟨SS [(10, .sl 1 [.int .i64 m, .int .i64 q]), (12, .ref [41] 0 l.length)], HS [([41], ⟨false, 39, 2, l.map eUpdate⟩)]⟩)
            | (false, l) => (.ret, ⟨SS [(6, .nil), (7, .int .i64 0), (8, .bool false)], HS [([41], ⟨false, 39, 2, l.map eUpdate⟩)]⟩)) (fun x => m - x.1) (0, []) ⟨by omega, rfl⟩ ?_ ?_ ?_
        · simp [go_sem]
        · rintro ⟨i, l⟩ ⟨i1, i2⟩
          simp only at i1 i2
          by_cases hi : i < m
          · obtain ⟨k, hk⟩ : ∃ k, m - i = k + 1 := ⟨m - i - 1, by omega⟩
            have e4 := read_E d h (39 + 6 * of_ + 1 + (i : Int)) (by omega) (by omega)
            have hl4 := rdL_len hd h (39 + 6 * of_ + 1 + (i : Int))
            have e5 := updateOf_E (rdL d.ss d.ps h (39 + 6 * of_ + 1 + (i : Int))) (by omega)
            simp only [eDisk] at e4
            rw [hk]
            simp only [updsR]
            cases hu : updF (rdL d.ss d.ps h (39 + 6 * of_ + 1 + (i : Int))) with
            | none =>
              rw [hu] at e5
              simp only [updV] at e5
              simp [go_sem, hi, e1, e4, e5, wrap_id (n := 39 + 6 * of_ + 1) (by omega), wrap_id (n := 39 + 6 * of_ + 1 + (i : Int)) (by omega)]
            | some u =>
              rw [hu] at e5
              simp only [updV, eUpdate] at e5
              simp [go_sem, hi, e1, e4, e5, wrap_id (n := 39 + 6 * of_ + 1) (by omega), wrap_id (n := 39 + 6 * of_ + 1 + (i : Int)) (by omega), show l.length + 1 ≤ 1073741824 by omega, wrap_id (n := (i : Int) + 1) (by omega)]
              refine ⟨i + 1, l ++ [u], ⟨by omega, by simp [i2]⟩, by omega, ?_, ?_⟩
              · simp [eUpdate]
              · rw [show m - (i + 1) = k by omega]
          · obtain rfl : i = m := by omega
            simp [go_sem, updsR]
        · cases hr : updsR d h (39 + 6 * of_) m 0 [] with
          | mk b l => cases b <;> simp [go_sem, hr]
end
end Go.Proofs.Ytccoeoppjcegnaa

namespace Go.Proofs.Ytccoeoppjcegnaa
open Go
set_option maxRecDepth 100000
set_option linter.unusedSimpArgs false
set_option linter.unusedVariables false
def waitP (d : Disk) (h of_ : Int) : List Update × Int × Bool := match waitF d h of_ with
  | some (l, q) => (l, q, true)
  | none => ([], 0, false)
section
variable (d : Disk) (h of_ : Int) (hd : diskOK d = true) (ho : 0 ≤ of_ ∧ of_ ≤ 3)
include hd ho
theorem l07Of_E : E CX 112 [eDisk d, .int .i64 h, .int .i64 of_] [] = some { val := .tuple [.ref [0, 0, 0, 0] 0 (waitP d h of_).1.length, .int .i64 (waitP d h of_).2.1, .bool (waitP d h of_).2.2], own := [⟨false, 39, 2, (waitP d h of_).1.map eUpdate⟩] } := by
  refine E_fin Try.f112 _ an112 rfl rfl rfl Try.func112 rfl (by kernel_rfl) ?_
  have g := diskOK_good hd
  have g1 := g.ss; have g2 := g.ps
  have e1 := l07Slot_E of_ (by omega)
  have e2 := l01Read_E d h (39 + 6 * of_) (by omega) (by omega)
  have hlen := rdL_len hd h (39 + 6 * of_)
  unfold waitP waitF
  by_cases h1 : rdL d.ss d.ps h (39 + 6 * of_) = []
  · rw [if_pos h1]
    rw [h1] at e2
    simp only [eDisk] at e2
    simp [go_sem, eDisk, e1, e2]
  · rw [if_neg h1]
    generalize rdL d.ss d.ps h (39 + 6 * of_) = t at *
    simp only [eDisk] at e2
    have e3 := l02Open_E t 7 (by omega)
    cases h2 : openF t 7 with
    | none =>
      rw [h2] at e3
      simp [go_sem, eDisk, e1, e2, e3, h1, h2]
    | some l =>
      rw [h2] at e3
      have hn := openF_nums h2
      match l, h2 with
      | [], h2 => simp [go_sem, eDisk, e1, e2, e3, h1, h2]
      | [a], h2 => simp [go_sem, eDisk, e1, e2, e3, h1, h2]
      | a :: b :: c :: l, h2 =>
        have : ¬ ((l.length : Int) + 1 + 1 + 1 = 2) := by omega
        simp [go_sem, eDisk, e1, e2, e3, h1, h2, this]
      | [n, q], h2 =>
        have hn1 := hn n (by simp)
        by_cases h5 : 5 < n
        · simp [go_sem, eDisk, e1, e2, e3, h1, h2, h5]
        · obtain ⟨m, rfl⟩ : ∃ m : Nat, n = m := ⟨n.toNat, by omega⟩
          simp [go_sem, eDisk, e1, e2, e3, h1, h2, h5]
          refine loop_at (fun X => fin CX _ _ X = _) (fun x : Nat × List Update => x.1 ≤ m ∧ x.2.length = x.1)
            (fun x => ⟨SS [(1, .int .i64 h), (2, .int .i64 of_), (3, .ptr [3] 0 0), (9, .ref [16] 0 x.2.length), (11, .sl 1 [.int .i64 m, .int .i64 q]), (13, .int .i64 x.1)], HS [([3], ⟨true, 32, 2, [.agg [.sl 1 (d.ss.map .str), .sl 3 (d.ps.map eIo)]]⟩), ([16], ⟨false, 39, 2, x.2.map eUpdate⟩)]⟩)
            (fun x => match updsR d h (39 + 6 * of_) (m - x.1) x.1 x.2 with
              | (true, l) => (.exit 0, ⟨SS [(9, .ref [16] 0 l.length), (11, .sl 1 [.int .i64 m, .int .i64 q])], HS [([16], ⟨false, 39, 2, l.map eUpdate⟩)]⟩)
              | (false, l) => (.ret, ⟨SS [(6, .ref [65] 0 0), (7, .int .i64 0), (8, .bool false)], HS [([16], ⟨false, 39, 2, l.map eUpdate⟩), ([65], ⟨false, 39, 2, []⟩)]⟩)) (fun x => m - x.1) (0, []) ⟨by omega, rfl⟩ ?_ ?_ ?_
          · simp [go_sem]
          · rintro ⟨i, l⟩ ⟨i1, i2⟩
            simp only at i1 i2
            by_cases hi : i < m
            · obtain ⟨k, hk⟩ : ∃ k, m - i = k + 1 := ⟨m - i - 1, by omega⟩
              have e4 := l01Read_E d h (39 + 6 * of_ + 1 + (i : Int)) (by omega) (by omega)
              have hl4 := rdL_len hd h (39 + 6 * of_ + 1 + (i : Int))
              have e5 := l07Decode_E (rdL d.ss d.ps h (39 + 6 * of_ + 1 + (i : Int))) (by omega)
              simp only [eDisk] at e4
              rw [hk]
              simp only [updsR]
              cases hu : updF (rdL d.ss d.ps h (39 + 6 * of_ + 1 + (i : Int))) with
              | none =>
                rw [hu] at e5
                simp only [updV] at e5
                simp [go_sem, hi, e1, e4, e5, wrap_id (n := 39 + 6 * of_ + 1) (by omega), wrap_id (n := 39 + 6 * of_ + 1 + (i : Int)) (by omega)]
              | some u =>
                rw [hu] at e5
                simp only [updV, eUpdate] at e5
                simp [go_sem, hi, e1, e4, e5, wrap_id (n := 39 + 6 * of_ + 1) (by omega), wrap_id (n := 39 + 6 * of_ + 1 + (i : Int)) (by omega), show l.length + 1 ≤ 1073741824 by omega, wrap_id (n := (i : Int) + 1) (by omega)]
                refine ⟨i + 1, l ++ [u], ⟨by omega, by simp [i2]⟩, by omega, ?_, ?_⟩
                · simp [eUpdate]
                · rw [show m - (i + 1) = k by omega]
            · obtain rfl : i = m := by omega
              simp [go_sem, updsR]
          · cases hr : updsR d h (39 + 6 * of_) m 0 [] with
            | mk b l => cases b <;> simp [go_sem, hr]
end
def jcode (d : Disk) (h of_ : Int) : Int := if diskOK d then (if inn h 0 3 && inn of_ 0 3 then 0 else 4) else 1
theorem l04Host_E (n : Int) : E CX 68 [.int .i64 n] [] = some { val := .bool (inn n 0 3) } := by
  refine E_fin Try.f68 _ an68 rfl rfl rfl Try.func68 rfl (by kernel_rfl) ?_
  simp [go_sem, l01In_E]
theorem l07Ask_E (d : Disk) (h of_ : Int) (h1 : d.ss.length ≤ 1073741824) (h2 : d.ps.length ≤ 1073741824) : E CX 111 [eDisk d, .int .i64 h, .int .i64 of_] [] = some { val := .int .i64 (jcode d h of_) } := by
  refine E_fin Try.f111 _ an111 rfl rfl rfl Try.func111 rfl (by kernel_rfl) ?_
  have e1 := l01Ask_E d h 0 h1 h2
  have e2 := l04Host_E of_
  simp only [eDisk] at e1
  unfold jcode
  unfold askS at e1
  cases c1 : diskOK d
  · rw [c1] at e1; simp at e1; simp [go_sem, eDisk, e1]
  · rw [c1] at e1
    cases c2 : inn h 0 3
    · rw [c2] at e1; simp at e1; simp [go_sem, eDisk, e1]
    · rw [c2] at e1
      simp [show inn 0 0 63 = true by decide] at e1
      cases c3 : inn of_ 0 3
      · rw [c3] at e2; simp [go_sem, eDisk, e1, e2]
      · rw [c3] at e2; simp [go_sem, eDisk, e1, e2]
/-- What JournalOf answers. -/
def jAns (d : Disk) (h of_ : Int) : List Update × Int × Int :=
  if jcode d h of_ ≠ 0 then ([], 0, jcode d h of_) else match waitF d h of_ with
    | some (l, q) => (l, q, 0)
    | none => ([], 0, 18)
theorem jcode_zero {d : Disk} {h of_ : Int} (hc : jcode d h of_ = 0) : diskOK d = true ∧ 0 ≤ of_ ∧ of_ ≤ 3 := by
  unfold jcode at hc
  cases c1 : diskOK d
  · simp [c1] at hc
  · cases c2 : inn h 0 3 <;> cases c3 : inn of_ 0 3 <;> simp [c1, c2, c3] at hc
    simp [inn] at c3
    exact ⟨rfl, c3.1, c3.2⟩
/-- An answer of the reference's JournalOf, by value, whatever way it is told. -/
theorem sJournalOf_E (d : Disk) (h of_ : Int) (h1 : d.ss.length ≤ 1073741824) (h2 : d.ps.length ≤ 1073741824) : ∃ r : Res, E CX 39 [eDisk d, .int .i64 h, .int .i64 of_] [] = some r ∧ ((r = { val := .tuple [.sl 2 ((jAns d h of_).1.map eUpdate), .int .i64 (jAns d h of_).2.1, .int .i64 (jAns d h of_).2.2] }) ∨
    (jAns d h of_).1 = [] ∧ r = { val := .tuple [.ref [0, 0, 0, 0] 0 0, .int .i64 (jAns d h of_).2.1, .int .i64 (jAns d h of_).2.2], own := [⟨false, 39, 2, []⟩] }) := by
  have e1 := l07Ask_E d h of_ h1 h2
  unfold jAns
  by_cases hc : jcode d h of_ = 0
  · obtain ⟨hd, ho⟩ := jcode_zero hc
    have e2 := l07Of_E d h of_ hd ho
    unfold waitP at e2
    rw [hc] at e1
    simp only [eDisk] at e1 e2
    cases hw : waitF d h of_ with
    | some p =>
      obtain ⟨l, q⟩ := p
      rw [hw] at e2
      refine ⟨_, ?_, .inl rfl⟩
      refine E_fin Try.f39 _ an39 rfl rfl rfl Try.func39 rfl (by kernel_rfl) ?_
      simp at e2
      simp [go_sem, eDisk, e1, e2, hc]
    | none =>
      rw [hw] at e2
      refine ⟨_, ?_, .inr ⟨by simp [hc], rfl⟩⟩
      refine E_fin Try.f39 _ an39 rfl rfl rfl Try.func39 rfl (by kernel_rfl) ?_
      simp at e2
      simp [go_sem, eDisk, e1, e2, hc]
  · refine ⟨_, ?_, .inr ⟨by simp [hc], rfl⟩⟩
    refine E_fin Try.f39 _ an39 rfl rfl rfl Try.func39 rfl (by kernel_rfl) ?_
    simp only [eDisk] at e1
    simp [go_sem, eDisk, e1, hc]
/-- An answer of the program's JournalOf: of nothing, or a row of its own. -/
theorem journalOf_E (d : Disk) (h of_ : Int) (h1 : d.ss.length ≤ 1073741824) (h2 : d.ps.length ≤ 1073741824) : ∃ r : Res, E CX 18 [eDisk d, .int .i64 h, .int .i64 of_] [] = some r ∧ (((jAns d h of_).1 = [] ∧ r = { val := .tuple [.nil, .int .i64 (jAns d h of_).2.1, .int .i64 (jAns d h of_).2.2] }) ∨
    r = { val := .tuple [.ref [0, 0, 0, 0] 0 (jAns d h of_).1.length, .int .i64 (jAns d h of_).2.1, .int .i64 (jAns d h of_).2.2], own := [⟨false, 39, 2, (jAns d h of_).1.map eUpdate⟩] }) := by
  have e1 := diskOK_E d h1 h2
  have e2 := isHost_E h
  have e3 := isHost_E of_
  have e4 := first_E [(!diskOK d, 1), (!inn h 0 3 || !inn of_ 0 3, 4)] (by simp)
  have hq : firstP [(!diskOK d, 1), (!inn h 0 3 || !inn of_ 0 3, 4)] = jcode d h of_ := by
    unfold jcode; cases diskOK d <;> cases inn h 0 3 <;> cases inn of_ 0 3 <;> rfl
  rw [hq] at e4
  simp only [anys] at e4
  simp only [eDisk] at e1
  unfold jAns
  by_cases hc : jcode d h of_ = 0
  · obtain ⟨hd, ho⟩ := jcode_zero hc
    rw [hc] at e4
    have hh : inn h 0 3 = true ∧ inn of_ 0 3 = true := by
      unfold jcode at hc
      cases c2 : inn h 0 3 <;> cases c3 : inn of_ 0 3 <;> simp [hd, c2, c3] at hc ⊢
    rw [hd] at e1 e4; rw [hh.1] at e2 e4; rw [hh.2] at e3 e4
    simp at e4
    by_cases ht : rdL d.ss d.ps h (39 + 6 * of_) = []
    · have hw : waitF d h of_ = some ([], 0) := by unfold waitF; rw [if_pos ht]
      have e5 := waiting_empty d h of_ hd ho ht
      simp only [eDisk] at e5
      refine ⟨_, ?_, .inl ⟨by simp [hc, hw], rfl⟩⟩
      refine E_fin Try.f18 _ an18 rfl rfl rfl Try.func18 rfl (by kernel_rfl) ?_
      simp [go_sem, eDisk, e1, e2, e3, e4, e5, hc, hw]
    · have e5 := waiting_E d h of_ hd ho ht
      simp only [eDisk] at e5
      cases hw : waitF d h of_ with
      | some p =>
        obtain ⟨l, q⟩ := p
        rw [hw] at e5
        refine ⟨_, ?_, .inr rfl⟩
        refine E_fin Try.f18 _ an18 rfl rfl rfl Try.func18 rfl (by kernel_rfl) ?_
        simp [go_sem, eDisk, e1, e2, e3, e4, e5, hc, hw]
      | none =>
        rw [hw] at e5
        refine ⟨_, ?_, .inl ⟨by simp [hc], rfl⟩⟩
        refine E_fin Try.f18 _ an18 rfl rfl rfl Try.func18 rfl (by kernel_rfl) ?_
        simp [go_sem, eDisk, e1, e2, e3, e4, e5, hc, hw]
  · refine ⟨_, ?_, .inl ⟨by simp [hc], rfl⟩⟩
    refine E_fin Try.f18 _ an18 rfl rfl rfl Try.func18 rfl (by kernel_rfl) ?_
    generalize jcode d h of_ = c at *
    cases hh : inn h 0 3
    · rw [hh] at e2 e4
      simp at e4
      simp [go_sem, eDisk, e1, e2, e4, hc]
    · rw [hh] at e2 e4
      simp at e4
      simp [go_sem, eDisk, e1, e2, e3, e4, hc]
end Go.Proofs.Ytccoeoppjcegnaa

namespace Go.Proofs.Ytccoeoppjcegnaa
open Go
set_option maxRecDepth 100000
set_option linter.unusedSimpArgs false
set_option linter.unusedVariables false
structure Delta where
  host : Int
  gen : Int
  stamp : Int
  deriving Inhabited, DecidableEq
def eDelta (x : Delta) : AV := .agg [.int .i64 (x.host), .int .i64 (x.gen), .int .i64 (x.stamp)]
theorem sharesL_eDelta (l : List Delta) : AV.sharesL (l.map eDelta) = false := sharesL_map (fun _ => by simp [eDelta, go_sem]) l
theorem sharesL_repeDelta (n : Nat) (x : Delta) : AV.sharesL (List.replicate n (eDelta x)) = false := sharesL_rep _ (by simp [eDelta, go_sem]) n
attribute [go_sem] sharesL_eDelta sharesL_repeDelta
theorem eqDelta_E (a b : Delta) : E CX 54 [eDelta a, eDelta b] [] = some { val := .bool (decide (a = b)) } := by
  refine E_fin Try.f54 _ an54 rfl rfl rfl Try.func54 rfl (by kernel_rfl) ?_
  obtain ⟨a0, a1, a2⟩ := a
  obtain ⟨b0, b1, b2⟩ := b
  by_cases c0 : a0 = b0
  · by_cases c1 : a1 = b1
    · by_cases c2 : a2 = b2
      · simp [go_sem, eDelta, c0, c1, c2]
      · simp [go_sem, eDelta, c0, c1, c2]
    · simp [go_sem, eDelta, c0, c1]
  · simp [go_sem, eDelta, c0]
theorem toDelta_E (a : Delta) : E CX 56 [eDelta a] [] = some { val := eDelta a } := by
  refine E_fin Try.f56 _ an56 rfl rfl rfl Try.func56 rfl (by kernel_rfl) ?_
  simp [go_sem, eDelta]
end Go.Proofs.Ytccoeoppjcegnaa

namespace Go.Proofs.Ytccoeoppjcegnaa
open Go
set_option maxRecDepth 100000
set_option linter.unusedSimpArgs false
set_option linter.unusedVariables false
def dltOK (x : Delta) : Bool := inn x.host 0 3 && inn x.gen 1 1000000 && inn x.stamp 0 10000000
theorem isGen_E (n : Int) : E CX 93 [.int .i64 n] [] = some { val := .bool (inn n 1 1000000) } := by
  refine E_fin Try.f93 _ an93 rfl rfl rfl Try.func93 rfl (by kernel_rfl) ?_
  simp [go_sem, within_E]
theorem isStamp_E (n : Int) : E CX 85 [.int .i64 n] [] = some { val := .bool (inn n 0 10000000) } := by
  refine E_fin Try.f85 _ an85 rfl rfl rfl Try.func85 rfl (by kernel_rfl) ?_
  simp [go_sem, within_E]
theorem deltaOK_E (x : Delta) : E CX 28 [eDelta x] [] = some { val := .bool (dltOK x) } := by
  refine E_fin Try.f28 _ an28 rfl rfl rfl Try.func28 rfl (by kernel_rfl) ?_
  have e1 := isHost_E x.host
  have e2 := isGen_E x.gen
  have e3 := isStamp_E x.stamp
  unfold dltOK
  cases c1 : inn x.host 0 3
  · rw [c1] at e1; simp [go_sem, eDelta, e1]
  · cases c2 : inn x.gen 1 1000000
    · rw [c1] at e1; rw [c2] at e2; simp [go_sem, eDelta, e1, e2]
    · rw [c1] at e1; rw [c2] at e2; simp [go_sem, eDelta, e1, e2, e3]
theorem sDeltaOK_E (x : Delta) : E CX 91 [eDelta x] [] = some { val := .bool (dltOK x) } := by
  refine E_fin Try.f91 _ an91 rfl rfl rfl Try.func91 rfl (by kernel_rfl) ?_
  have e1 := l04Host_E x.host
  have e2 := l01In_E x.gen 1 1000000
  have e3 := l01In_E x.stamp 0 10000000
  unfold dltOK
  cases c1 : inn x.host 0 3
  · rw [c1] at e1; simp [go_sem, eDelta, e1]
  · cases c2 : inn x.gen 1 1000000
    · rw [c1] at e1; rw [c2] at e2; simp [go_sem, eDelta, e1, e2]
    · rw [c1] at e1; rw [c2] at e2; simp [go_sem, eDelta, e1, e2, e3]
def dltT (x : Delta) : Tx := sealF 9 [x.host, x.gen, x.stamp]
theorem dltText_E (x : Delta) : E CX 88 [eDelta x] [] = some { val := .str (dltT x) } := by
  refine E_fin Try.f88 _ an88 rfl rfl rfl Try.func88 rfl (by kernel_rfl) ?_
  have e1 := seal_E 9 [x.host, x.gen, x.stamp] (by simp)
  simp at e1
  simp [go_sem, eDelta, e1, dltT]
theorem l04Encode_E (x : Delta) : E CX 92 [eDelta x] [] = some { val := .str (dltT x) } := by
  refine E_fin Try.f92 _ an92 rfl rfl rfl Try.func92 rfl (by kernel_rfl) ?_
  have e1 := l02Seal_E 9 [x.host, x.gen, x.stamp] (by simp)
  simp at e1
  simp [go_sem, eDelta, e1, dltT]
def dltF (t : Tx) : Option Delta := match openF t 9 with
  | some [a, b, c] => if dltOK ⟨a, b, c⟩ then some ⟨a, b, c⟩ else none
  | _ => none
def zD : Delta := ⟨0, 0, 0⟩
def dltV (o : Option Delta) : AV := match o with
  | some x => .tuple [eDelta x, .bool true]
  | none => .tuple [eDelta zD, .bool false]
theorem len_ne3 (l : List Int) : ¬ ((l.length : Int) + 1 + 1 + 1 + 1 = 3) := by omega
theorem deltaOf_E (t : Tx) (ht : t.length ≤ 1000000) : E CX 89 [.str t] [] = some { val := dltV (dltF t) } := by
  refine E_fin Try.f89 _ an89 rfl rfl rfl Try.func89 rfl (by kernel_rfl) ?_
  unfold dltF
  have e1 := open_E t 9 ht
  rcases openV_cases t 9 with ⟨h2, h3 | ⟨l, h3⟩⟩ | ⟨l, h2, h3⟩
  · rw [h3] at e1
    simp [go_sem, dltV, eDelta, zD, h2, e1]
  · rw [h3] at e1
    simp [go_sem, dltV, eDelta, zD, h2, e1]
  · rw [h3] at e1
    match l, h2 with
    | [], h2 => simp [go_sem, dltV, eDelta, zD, h2, e1]
    | [a], h2 => simp [go_sem, dltV, eDelta, zD, h2, e1]
    | [a, b], h2 => simp [go_sem, dltV, eDelta, zD, h2, e1]
    | a :: b :: c :: d :: l, h2 => simp [go_sem, dltV, eDelta, zD, h2, e1, len_ne3 l]
    | [a, b, c], h2 =>
      have e2 := deltaOK_E ⟨a, b, c⟩
      simp only [eDelta] at e2
      cases h4 : dltOK ⟨a, b, c⟩
      · rw [h4] at e2
        simp [go_sem, dltV, eDelta, zD, h2, e1, e2, h4]
      · rw [h4] at e2
        simp [go_sem, dltV, eDelta, zD, h2, e1, e2, h4]
theorem l04Decode_E (t : Tx) (ht : t.length ≤ 1000000) : E CX 185 [.str t] [] = some { val := dltV (dltF t) } := by
  refine E_fin Try.f185 _ an185 rfl rfl rfl Try.func185 rfl (by kernel_rfl) ?_
  unfold dltF
  have e1 := l02Open_E t 9 ht
  cases h2 : openF t 9 with
  | none =>
    rw [h2] at e1
    simp [go_sem, dltV, eDelta, zD, h2, e1]
  | some l =>
    rw [h2] at e1
    match l, h2 with
    | [], h2 => simp [go_sem, dltV, eDelta, zD, h2, e1]
    | [a], h2 => simp [go_sem, dltV, eDelta, zD, h2, e1]
    | [a, b], h2 => simp [go_sem, dltV, eDelta, zD, h2, e1]
    | a :: b :: c :: d :: l, h2 => simp [go_sem, dltV, eDelta, zD, h2, e1, len_ne3 l]
    | [a, b, c], h2 =>
      have e2 := sDeltaOK_E ⟨a, b, c⟩
      simp only [eDelta] at e2
      cases h4 : dltOK ⟨a, b, c⟩
      · rw [h4] at e2
        simp [go_sem, dltV, eDelta, zD, h2, e1, e2, h4]
      · rw [h4] at e2
        simp [go_sem, dltV, eDelta, zD, h2, e1, e2, h4]
/-- The generation of a host, as another one reads it. -/
def rdD (d : Disk) (h of_ : Int) : Option Delta := match dltF (rdL d.ss d.ps h (5 + of_)) with
  | some x => if x.host = of_ then some x else none
  | none => none
theorem delta_E (d : Disk) (h of_ : Int) (hd : diskOK d = true) (ho : 0 ≤ of_ ∧ of_ ≤ 3) : E CX 84 [eDisk d, .int .i64 h, .int .i64 of_] [] = some { val := dltV (rdD d h of_) } := by
  refine E_fin Try.f84 _ an84 rfl rfl rfl Try.func84 rfl (by kernel_rfl) ?_
  have g := diskOK_good hd
  have g1 := g.ss; have g2 := g.ps
  have e1 := read_E d h (5 + of_) (by omega) (by omega)
  have hln := rdL_len hd h (5 + of_)
  have e2 := deltaOf_E (rdL d.ss d.ps h (5 + of_)) (by omega)
  unfold rdD
  simp only [eDisk] at e1
  cases hx : dltF (rdL d.ss d.ps h (5 + of_)) with
  | none =>
    rw [hx] at e2
    simp only [dltV, eDelta, zD] at e2 ⊢
    simp [go_sem, eDisk, e1, e2, wrap_id (n := 5 + of_) (by omega)]
  | some x =>
    rw [hx] at e2
    simp only [dltV, eDelta] at e2
    by_cases hh : x.host = of_
    · simp [go_sem, eDisk, e1, e2, dltV, eDelta, hh, wrap_id (n := 5 + of_) (by omega)]
    · simp [go_sem, eDisk, e1, e2, dltV, eDelta, zD, hh, wrap_id (n := 5 + of_) (by omega)]
def rdD0 (d : Disk) (h of_ : Int) : Delta := (rdD d h of_).getD ⟨of_, 0, 0⟩
theorem l04Read_E (d : Disk) (h of_ : Int) (hd : diskOK d = true) (ho : 0 ≤ of_ ∧ of_ ≤ 3) : E CX 137 [eDisk d, .int .i64 h, .int .i64 of_] [] = some { val := eDelta (rdD0 d h of_) } := by
  refine E_fin Try.f137 _ an137 rfl rfl rfl Try.func137 rfl (by kernel_rfl) ?_
  have g := diskOK_good hd
  have g1 := g.ss; have g2 := g.ps
  have e1 := l01Read_E d h (5 + of_) (by omega) (by omega)
  have hln := rdL_len hd h (5 + of_)
  have e2 := l04Decode_E (rdL d.ss d.ps h (5 + of_)) (by omega)
  unfold rdD0 rdD
  simp only [eDisk] at e1
  cases hx : dltF (rdL d.ss d.ps h (5 + of_)) with
  | none =>
    rw [hx] at e2
    simp only [dltV, eDelta, zD] at e2 ⊢
    simp [go_sem, eDisk, e1, e2, wrap_id (n := 5 + of_) (by omega)]
  | some x =>
    rw [hx] at e2
    simp only [dltV, eDelta] at e2
    by_cases hh : x.host = of_
    · simp [go_sem, eDisk, e1, e2, eDelta, hh, wrap_id (n := 5 + of_) (by omega)]
    · simp [go_sem, eDisk, e1, e2, eDelta, hh, wrap_id (n := 5 + of_) (by omega)]
theorem isFull_E (d : Disk) : E CX 86 [eDisk d] [] = some { val := .bool (decide (d.ps.length = 200)) } := by
  refine E_fin Try.f86 _ an86 rfl rfl rfl Try.func86 rfl (by kernel_rfl) ?_
  by_cases c : d.ps.length = 200
  · simp [go_sem, eDisk, c]
  · simp [go_sem, eDisk, c]
    omega
/-- A write that settles at once. -/
def putD (d : Disk) (h a : Int) (t : Tx) : Disk := settleD ⟨d.ss, d.ps ++ [⟨h, a, t⟩]⟩ h 201 false
theorem put_E (d : Disk) (h a : Int) (t : Tx) (g : Good d 1000000) (ha : 0 ≤ a ∧ a.toNat < 64) : E CX 87 [eDisk d, .int .i64 h, .int .i64 a, .str t] [] = some { val := .agg [.ref [0, 0, 0, 0] 0 (putD d h a t).ss.length, .ref [1, 0, 0, 0] 0 (putD d h a t).ps.length], own := [⟨false, 9, 1, (putD d h a t).ss.map .str⟩, ⟨false, 154, 3, ((putD d h a t).ps ++ List.replicate (d.ps.length + 1 - (putD d h a t).ps.length) zIo).map eIo⟩] } := by
  refine E_fin Try.f87 _ an87 rfl rfl rfl Try.func87 rfl (by kernel_rfl) ?_
  have g1 := g.ss; have g2 := g.ps
  have e1 := copied_E d (by omega) (by omega)
  have e2 := settle_E ⟨d.ss, d.ps ++ [⟨h, a, t⟩]⟩ h 201 false (by simp only; omega) (by simp; omega) (by
    intro x hx
    simp only [List.mem_append, List.mem_singleton] at hx
    rcases hx with hx | rfl
    · have := g.at_ x hx; simp only; omega
    · simp only; omega) (by unfold In64; omega)
  have hss : (putD d h a t).ss.length = d.ss.length := by
    have := landL_len h false (d.ps ++ [⟨h, a, t⟩]) 201 d.ss
    exact this.2
  have hdef : settleD ⟨d.ss, d.ps ++ [⟨h, a, t⟩]⟩ h 201 false = putD d h a t := rfl
  rw [hdef] at e2
  rw [hss]
  generalize putD d h a t = r at *
  have hsh := sharesL_rep (eIo zIo) rfl (d.ps.length + 1 - r.ps.length)
  simp only [eDisk] at e1 e2
  simp [eIo] at e2 hsh
  simp [go_sem, eDisk, eIo, e1, show d.ps.length + 1 ≤ 1073741824 by omega, e2, hsh]
theorem l04Put_E (d : Disk) (x : Delta) (g : Good d 200) (hps : d.ps.length < 200) (ha : 0 ≤ x.host ∧ x.host ≤ 3) : E CX 138 [eDisk d, eDelta x] [] = some { val := eDisk (putD d x.host (5 + x.host) (dltT x)) } := by
  refine E_fin Try.f138 _ an138 rfl rfl rfl Try.func138 rfl (by kernel_rfl) ?_
  have g1 := g.ss; have g2 := g.ps
  have e1 := l04Encode_E x
  have e2 := l01Write_E d ⟨x.host, 5 + x.host, dltT x⟩ (by omega)
  have e3 := l01Flush_E ⟨d.ss, d.ps ++ [⟨x.host, 5 + x.host, dltT x⟩]⟩ x.host ⟨g1, by simp; omega, by
    intro y hy
    simp only [List.mem_append, List.mem_singleton] at hy
    rcases hy with hy | rfl
    · exact g.at_ y hy
    · simp only; omega⟩
  have hr : settleD ⟨d.ss, d.ps ++ [⟨x.host, 5 + x.host, dltT x⟩]⟩ x.host 200 false = putD d x.host (5 + x.host) (dltT x) := by
    unfold putD; exact settle_room _ _ _ _ _ (by simp; omega) (by simp; omega)
  rw [hr] at e3
  generalize putD d x.host (5 + x.host) (dltT x) = r at *
  simp only [eDisk, eDelta, eIo] at e1 e2 e3
  simp [eIo] at e2 e3
  simp [go_sem, eDisk, eDelta, eIo, e1, e2, e3, wrap_id (n := 5 + x.host) (by omega)]
end Go.Proofs.Ytccoeoppjcegnaa

namespace Go.Proofs.Ytccoeoppjcegnaa
open Go
set_option maxRecDepth 100000
set_option linter.unusedSimpArgs false
set_option linter.unusedVariables false
def tcode (d : Disk) (h now : Int) : Int := if diskOK d then (if inn h 0 3 && inn now 0 10000000 then (if d.ps.length = 200 then 7 else 0) else 4) else 1
theorem tcode_first (d : Disk) (h now : Int) : firstP [(!diskOK d, 1), (!inn h 0 3 || !inn now 0 10000000, 4), (decide (d.ps.length = 200), 7)] = tcode d h now := by
  unfold tcode
  cases diskOK d <;> cases inn h 0 3 <;> cases inn now 0 10000000 <;> by_cases c : d.ps.length = 200 <;> simp [firstP, c]
theorem tcode_zero {d : Disk} {h now : Int} (hc : tcode d h now = 0) : diskOK d = true ∧ (inn h 0 3 = true ∧ inn now 0 10000000 = true) ∧ 0 ≤ h ∧ h ≤ 3 ∧ d.ps.length < 200 := by
  unfold tcode at hc
  cases c1 : diskOK d
  · simp [c1] at hc
  · cases c2 : inn h 0 3 <;> cases c3 : inn now 0 10000000 <;> simp [c1, c2, c3] at hc
    have g := diskOK_good c1
    have := g.ps
    simp [inn] at c2
    exact ⟨rfl, ⟨rfl, rfl⟩, c2.1, c2.2, by omega⟩
theorem l04Room_E (d : Disk) (h now : Int) (h1 : d.ss.length ≤ 1073741824) (h2 : d.ps.length ≤ 1073741824) : E CX 136 [eDisk d, .int .i64 h, .int .i64 now] [] = some { val := .int .i64 (tcode d h now) } := by
  refine E_fin Try.f136 _ an136 rfl rfl rfl Try.func136 rfl (by kernel_rfl) ?_
  have e1 := l01Ask_E d h 0 h1 h2
  have e2 := l01In_E now 0 10000000
  unfold tcode
  unfold askS at e1
  simp only [eDisk] at e1
  cases c1 : diskOK d
  · rw [c1] at e1; simp at e1; simp [go_sem, eDisk, e1]
  · rw [c1] at e1
    cases c2 : inn h 0 3
    · rw [c2] at e1; simp at e1; simp [go_sem, eDisk, e1]
    · rw [c2] at e1
      simp [show inn 0 0 63 = true by decide] at e1
      cases c3 : inn now 0 10000000
      · rw [c3] at e2; simp [go_sem, eDisk, e1, e2]
      · rw [c3] at e2
        by_cases c4 : d.ps.length = 200
        · simp [go_sem, eDisk, e1, e2, c4]
        · have : ¬ ((d.ps.length : Int) = 200) := by omega
          simp [go_sem, eDisk, e1, e2, c4, this]
theorem rdD_ok {d : Disk} {h of_ : Int} {x : Delta} (hx : rdD d h of_ = some x) : dltOK x = true ∧ x.host = of_ := by
  unfold rdD dltF at hx
  split at hx
  · rename_i y hy
    split at hx
    · rename_i hh
      injection hx with hx; subst hx
      refine ⟨?_, hh⟩
      split at hy
      · split at hy
        · rename_i a b c _ hok
          injection hy with hy; subst hy; exact hok
        · cases hy
      · cases hy
    · cases hx
  · cases hx
theorem rdD0_gen (d : Disk) (h of_ : Int) : 0 ≤ (rdD0 d h of_).gen ∧ (rdD0 d h of_).gen ≤ 1000000 ∧ (rdD0 d h of_).host = of_ := by
  unfold rdD0
  cases hx : rdD d h of_ with
  | none => simp
  | some x =>
    obtain ⟨h1, h2⟩ := rdD_ok hx
    simp [dltOK, inn] at h1
    simp only [Option.getD_some]
    omega
def mty : Disk := ⟨[], []⟩
/-- A new generation. -/
def nextD (d : Disk) (h now : Int) : Delta := ⟨h, (rdD0 d h h).gen + 1, now⟩
def takeA (d : Disk) (h now : Int) : Disk × Delta × Int :=
  if tcode d h now ≠ 0 then (mty, zD, tcode d h now) else if (rdD0 d h h).gen = 1000000 then (d, zD, 6) else (putD d h (5 + h) (dltT (nextD d h now)), nextD d h now, 0)
/-- How an answer of a disk is told: none, or rows of its own. -/
def toldOwn (r : Res) (a : Disk) (x : AV) (c : Int) : Prop :=
  (a = mty ∧ r = { val := .tuple [.agg [.nil, .nil], x, .int .i64 c] }) ∨
  ∃ tl : List Io, r = { val := .tuple [.agg [.ref [0, 0, 0, 0] 0 a.ss.length, .ref [1, 0, 0, 0] 0 a.ps.length], x, .int .i64 c], own := [⟨false, 9, 1, a.ss.map .str⟩, ⟨false, 154, 3, (a.ps ++ tl).map eIo⟩] }
def toldVal (r : Res) (a : Disk) (x : AV) (c : Int) : Prop :=
  (a = mty ∧ r = { val := .tuple [.agg [.nil, .nil], x, .int .i64 c] }) ∨ r = { val := .tuple [eDisk a, x, .int .i64 c] }
theorem takeDelta_E (d : Disk) (h now : Int) (h1 : d.ss.length ≤ 1073741824) (h2 : d.ps.length ≤ 1073741824) : ∃ r : Res, E CX 23 [eDisk d, .int .i64 h, .int .i64 now] [] = some r ∧ toldOwn r (takeA d h now).1 (eDelta (takeA d h now).2.1) (takeA d h now).2.2 := by
  have e1 := diskOK_E d h1 h2
  have e2 := isHost_E h
  have e3 := isStamp_E now
  have e4 := isFull_E d
  have e5 := first_E [(!diskOK d, 1), (!inn h 0 3 || !inn now 0 10000000, 4), (decide (d.ps.length = 200), 7)] (by simp)
  rw [tcode_first] at e5
  simp only [anys] at e5
  simp only [eDisk] at e1 e4
  unfold takeA
  by_cases hc : tcode d h now = 0
  · obtain ⟨hd, ⟨hh1, hh2⟩, ho1, ho2, hps⟩ := tcode_zero hc
    rw [hc] at e5
    rw [hd] at e1 e5; rw [hh1] at e2 e5; rw [hh2] at e3 e5
    simp at e5
    rw [if_neg (by simp [hc])]
    have hg := rdD0_gen d h h
    have e6 := delta_E d h h hd ⟨ho1, ho2⟩
    have e7 := copied_E d h1 h2
    have g := diskOK_good hd
    have e8 := dltText_E (nextD d h now)
    have e9 := put_E d h (5 + h) (dltT (nextD d h now)) ⟨g.ss, by omega, g.at_⟩ (by omega)
    have hgen : (rdD0 d h h).gen = match rdD d h h with | some x => x.gen | none => 0 := by unfold rdD0; cases rdD d h h <;> rfl
    generalize putD d h (5 + h) (dltT (nextD d h now)) = pd at *
    simp only [eDisk] at e6 e7 e9
    unfold nextD at *
    by_cases hm : (rdD0 d h h).gen = 1000000
    · rw [if_pos hm]
      refine ⟨_, ?_, .inr ⟨[], rfl⟩⟩
      refine E_fin Try.f23 _ an23 rfl rfl rfl Try.func23 rfl (by kernel_rfl) ?_
      rw [hm] at hgen
      cases hx : rdD d h h with
      | none => rw [hx] at hgen; simp at hgen
      | some x =>
        rw [hx] at e6 hgen
        simp only [dltV, eDelta] at e6
        simp only at hgen
        simp [go_sem, eDisk, eDelta, zD, e1, e2, e3, e4, e5, e6, e7, ← hgen]
    · rw [if_neg hm]
      refine ⟨_, ?_, .inr ⟨List.replicate (d.ps.length + 1 - pd.ps.length) zIo, rfl⟩⟩
      refine E_fin Try.f23 _ an23 rfl rfl rfl Try.func23 rfl (by kernel_rfl) ?_
      generalize dltT ⟨h, (rdD0 d h h).gen + 1, now⟩ = tx at *
      simp only [eDelta] at e8
      have w1 := wrap_id (n := (rdD0 d h h).gen + 1) (by omega)
      cases hx : rdD d h h with
      | none =>
        rw [hx] at e6 hgen
        simp only [dltV, eDelta, zD] at e6
        simp only at hgen
        rw [hgen] at e8 w1 ⊢
        simp at e8 w1 e9
        simp [go_sem, eDisk, eDelta, e1, e2, e3, e4, e5, e6, e8, e9, w1, wrap_id (n := 5 + h) (by omega)]
      | some x =>
        rw [hx] at e6 hgen
        simp only [dltV, eDelta] at e6
        simp only at hgen
        rw [hgen] at e8 w1 hm ⊢
        simp at e9
        simp [go_sem, eDisk, eDelta, e1, e2, e3, e4, e5, e6, e8, e9, w1, hm, wrap_id (n := 5 + h) (by omega)]
  · rw [if_pos hc]
    refine ⟨_, ?_, .inl ⟨rfl, rfl⟩⟩
    refine E_fin Try.f23 _ an23 rfl rfl rfl Try.func23 rfl (by kernel_rfl) ?_
    generalize tcode d h now = c at *
    cases hh : inn h 0 3
    · rw [hh] at e2 e5
      simp at e5
      simp [go_sem, eDisk, eDelta, zD, e1, e2, e4, e5, hc]
    · rw [hh] at e2 e5
      simp at e5
      simp [go_sem, eDisk, eDelta, zD, e1, e2, e3, e4, e5, hc]
theorem putD_good (d : Disk) (h a : Int) (t : Tx) (n : Nat) (g : Good d n) (ha : 0 ≤ a ∧ a.toNat < 64) : Good (putD d h a t) (n + 1) := by
  have g' : Good ⟨d.ss, d.ps ++ [⟨h, a, t⟩]⟩ (n + 1) := by
    refine ⟨g.ss, by have := g.ps; simp; omega, ?_⟩
    intro x hx
    simp only [List.mem_append, List.mem_singleton] at hx
    rcases hx with hx | rfl
    · exact g.at_ x hx
    · exact ha
  exact g'.settle h 201 false
theorem sTakeDelta_E (d : Disk) (h now : Int) (h1 : d.ss.length ≤ 1073741824) (h2 : d.ps.length ≤ 1073741824) : ∃ r : Res, E CX 53 [eDisk d, .int .i64 h, .int .i64 now] [] = some r ∧ toldVal r (takeA d h now).1 (eDelta (takeA d h now).2.1) (takeA d h now).2.2 := by
  have e1 := l04Room_E d h now h1 h2
  simp only [eDisk] at e1
  unfold takeA
  by_cases hc : tcode d h now = 0
  · obtain ⟨hd, ⟨hh1, hh2⟩, ho1, ho2, hps⟩ := tcode_zero hc
    rw [hc] at e1
    rw [if_neg (by simp [hc])]
    have hg := rdD0_gen d h h
    have e6 := l04Read_E d h h hd ⟨ho1, ho2⟩
    have e7 := l01Own_E d h1 h2
    have g := diskOK_good hd
    have e9 := l04Put_E d (nextD d h now) g hps ⟨ho1, ho2⟩
    have hn : (nextD d h now).host = h := rfl
    rw [hn] at e9
    have gp := putD_good d h (5 + h) (dltT (nextD d h now)) 200 g (by omega)
    have gp1 := gp.ss; have gp2 := gp.ps
    have e10 := l01Own_E (putD d h (5 + h) (dltT (nextD d h now))) (by omega) (by omega)
    generalize putD d h (5 + h) (dltT (nextD d h now)) = pd at *
    simp only [eDisk, eDelta, hg.2.2] at e6 e7 e9 e10
    unfold nextD at *
    by_cases hm : (rdD0 d h h).gen = 1000000
    · rw [if_pos hm]
      refine ⟨_, ?_, .inr rfl⟩
      refine E_fin Try.f53 _ an53 rfl rfl rfl Try.func53 rfl (by kernel_rfl) ?_
      simp [go_sem, eDisk, eDelta, zD, e1, e6, e7, hm]
    · rw [if_neg hm]
      refine ⟨_, ?_, .inr rfl⟩
      refine E_fin Try.f53 _ an53 rfl rfl rfl Try.func53 rfl (by kernel_rfl) ?_
      have w1 := wrap_id (n := (rdD0 d h h).gen + 1) (by omega)
      simp at e9
      simp [go_sem, eDisk, eDelta, e1, e6, e9, e10, hm, w1]
  · rw [if_pos hc]
    refine ⟨_, ?_, .inl ⟨rfl, rfl⟩⟩
    refine E_fin Try.f53 _ an53 rfl rfl rfl Try.func53 rfl (by kernel_rfl) ?_
    simp [go_sem, eDisk, eDelta, zD, e1, hc]
theorem takeA_len (d : Disk) (h now : Int) (b1 : d.ss.length ≤ 1048576) (b2 : d.ps.length ≤ 1048576) : (takeA d h now).1.ss.length ≤ 1048576 ∧ (takeA d h now).1.ps.length ≤ 1048577 := by
  unfold takeA
  split
  · simp [mty]
  · rename_i hc
    split
    · exact ⟨b1, by simp only; omega⟩
    · obtain ⟨hd, _, ho1, ho2, hps⟩ := tcode_zero (by simpa using hc)
      have gp := putD_good d h (5 + h) (dltT (nextD d h now)) 200 (diskOK_good hd) (by omega)
      have := gp.ss; have := gp.ps
      simp only
      omega
end Go.Proofs.Ytccoeoppjcegnaa

namespace Go.Proofs.Ytccoeoppjcegnaa
open Go
set_option maxRecDepth 100000
set_option linter.unusedSimpArgs false
set_option linter.unusedVariables false
structure Leader where
  ver : Int
  owner : Int
  gen : Int
  deriving Inhabited, DecidableEq
def eLeader (x : Leader) : AV := .agg [.int .i64 (x.ver), .int .i64 (x.owner), .int .i64 (x.gen)]
theorem sharesL_eLeader (l : List Leader) : AV.sharesL (l.map eLeader) = false := sharesL_map (fun _ => by simp [eLeader, go_sem]) l
theorem sharesL_repeLeader (n : Nat) (x : Leader) : AV.sharesL (List.replicate n (eLeader x)) = false := sharesL_rep _ (by simp [eLeader, go_sem]) n
attribute [go_sem] sharesL_eLeader sharesL_repeLeader
theorem eqLeader_E (a b : Leader) : E CX 58 [eLeader a, eLeader b] [] = some { val := .bool (decide (a = b)) } := by
  refine E_fin Try.f58 _ an58 rfl rfl rfl Try.func58 rfl (by kernel_rfl) ?_
  obtain ⟨a0, a1, a2⟩ := a
  obtain ⟨b0, b1, b2⟩ := b
  by_cases c0 : a0 = b0
  · by_cases c1 : a1 = b1
    · by_cases c2 : a2 = b2
      · simp [go_sem, eLeader, c0, c1, c2]
      · simp [go_sem, eLeader, c0, c1, c2]
    · simp [go_sem, eLeader, c0, c1]
  · simp [go_sem, eLeader, c0]
theorem toLeader_E (a : Leader) : E CX 57 [eLeader a] [] = some { val := eLeader a } := by
  refine E_fin Try.f57 _ an57 rfl rfl rfl Try.func57 rfl (by kernel_rfl) ?_
  simp [go_sem, eLeader]
end Go.Proofs.Ytccoeoppjcegnaa

namespace Go.Proofs.Ytccoeoppjcegnaa
open Go
set_option maxRecDepth 100000
set_option maxHeartbeats 1000000
set_option linter.unusedSimpArgs false
set_option linter.unusedVariables false
def ldrOK (x : Leader) : Bool := inn x.ver 0 1000000 && ((decide (x.owner = -1) && decide (x.gen = 0)) || (inn x.owner 0 3 && inn x.gen 1 1000000 && decide (0 < x.ver)))
theorem isVer_E (n : Int) : E CX 122 [.int .i64 n] [] = some { val := .bool (inn n 0 1000000) } := by
  refine E_fin Try.f122 _ an122 rfl rfl rfl Try.func122 rfl (by kernel_rfl) ?_
  simp [go_sem, within_E]
def noL (v : Int) : Leader := ⟨v, -1, 0⟩
theorem nobody_E (v : Int) : E CX 129 [.int .i64 v] [] = some { val := eLeader (noL v) } := by
  refine E_fin Try.f129 _ an129 rfl rfl rfl Try.func129 rfl (by kernel_rfl) ?_
  simp [go_sem, eLeader, noL]
theorem leaderOK_E (x : Leader) : E CX 127 [eLeader x] [] = some { val := .bool (ldrOK x) } := by
  refine E_fin Try.f127 _ an127 rfl rfl rfl Try.func127 rfl (by kernel_rfl) ?_
  have e1 := isVer_E x.ver
  have e2 := nobody_E x.ver
  have e3 := isHost_E x.owner
  have e4 := isGen_E x.gen
  simp only [eLeader, noL] at e2
  unfold ldrOK
  cases c1 : inn x.ver 0 1000000
  · rw [c1] at e1; simp [go_sem, eLeader, e1]
  · rw [c1] at e1
    cases c3 : inn x.owner 0 3
    · rw [c3] at e3
      by_cases h1 : x.owner = -1
      · by_cases h2 : x.gen = 0
        · rw [h1] at e3; simp [go_sem, eLeader, e1, e2, e3, h1, h2]
        · rw [h1] at e3; simp [go_sem, eLeader, e1, e2, e3, h1, h2, show (x.gen == 0) = false by simp [h2]]
      · simp [go_sem, eLeader, e1, e2, e3, h1, show (x.owner == -1) = false by simp [h1]]
    · rw [c3] at e3
      have h1 : ¬ x.owner = -1 := by intro h; rw [h] at c3; simp [inn] at c3
      cases c4 : inn x.gen 1 1000000
      · rw [c4] at e4; simp [go_sem, eLeader, e1, e2, e3, e4, h1, show (x.owner == -1) = false by simp [h1]]
      · rw [c4] at e4; simp [go_sem, eLeader, e1, e2, e3, e4, h1, show (x.owner == -1) = false by simp [h1]]
theorem sLeaderOK_E (x : Leader) : E CX 131 [eLeader x] [] = some { val := .bool (ldrOK x) } := by
  refine E_fin Try.f131 _ an131 rfl rfl rfl Try.func131 rfl (by kernel_rfl) ?_
  have e1 := l01In_E x.ver 0 1000000
  have e3 := l04Host_E x.owner
  have e4 := l01In_E x.gen 1 1000000
  unfold ldrOK
  cases c1 : inn x.ver 0 1000000
  · rw [c1] at e1; simp [go_sem, eLeader, e1]
  · rw [c1] at e1
    by_cases h1 : x.owner = -1
    · rw [h1] at e3 ⊢
      have : inn (-1) 0 3 = false := by decide
      rw [this] at e3 ⊢
      by_cases h2 : x.gen = 0
      · simp [go_sem, eLeader, e1, e3, h1, h2]
      · by_cases h3 : 0 < x.ver
        · simp [go_sem, eLeader, e1, e3, h1, h2, h3]
        · simp [go_sem, eLeader, e1, e3, h1, h2, h3]
    · by_cases h3 : 0 < x.ver
      · cases c3 : inn x.owner 0 3
        · rw [c3] at e3; simp [go_sem, eLeader, e1, e3, h1, h3]
        · rw [c3] at e3
          cases c4 : inn x.gen 1 1000000
          · rw [c4] at e4; simp [go_sem, eLeader, e1, e3, e4, h1, h3]
          · rw [c4] at e4; simp [go_sem, eLeader, e1, e3, e4, h1, h3]
      · simp [go_sem, eLeader, e1, h1, h3]
def ldrT (x : Leader) : Tx := sealF 6 [x.ver, x.owner + 1, x.gen]
theorem ldrText_E (x : Leader) (hw : IntKind.i64.wrap (x.owner + 1) = x.owner + 1) : E CX 128 [eLeader x] [] = some { val := .str (ldrT x) } := by
  refine E_fin Try.f128 _ an128 rfl rfl rfl Try.func128 rfl (by kernel_rfl) ?_
  have e1 := seal_E 6 [x.ver, x.owner + 1, x.gen] (by simp)
  simp at e1
  simp [go_sem, eLeader, e1, ldrT, hw]
theorem l06Encode_E (x : Leader) (hw : IntKind.i64.wrap (x.owner + 1) = x.owner + 1) : E CX 135 [eLeader x] [] = some { val := .str (ldrT x) } := by
  refine E_fin Try.f135 _ an135 rfl rfl rfl Try.func135 rfl (by kernel_rfl) ?_
  have e1 := l02Seal_E 6 [x.ver, x.owner + 1, x.gen] (by simp)
  simp at e1
  simp [go_sem, eLeader, e1, ldrT, hw]
def ldrF (t : Tx) : Option Leader := match openF t 6 with
  | some [a, b, c] => if ldrOK ⟨a, IntKind.i64.wrap (b - 1), c⟩ then some ⟨a, IntKind.i64.wrap (b - 1), c⟩ else none
  | _ => none
/-- What a reader of a leader answers, with its own answer where there is none. -/
def ldrV (z : Leader) (o : Option Leader) : AV := match o with
  | some x => .tuple [eLeader x, .bool true]
  | none => .tuple [eLeader z, .bool false]
theorem leaderOf_E (t : Tx) (ht : t.length ≤ 1000000) : E CX 178 [.str t] [] = some { val := ldrV ⟨0, 0, 0⟩ (ldrF t) } := by
  refine E_fin Try.f178 _ an178 rfl rfl rfl Try.func178 rfl (by kernel_rfl) ?_
  unfold ldrF
  have e1 := open_E t 6 ht
  rcases openV_cases t 6 with ⟨h2, h3 | ⟨l, h3⟩⟩ | ⟨l, h2, h3⟩
  · rw [h3] at e1
    simp [go_sem, ldrV, eLeader, h2, e1]
  · rw [h3] at e1
    simp [go_sem, ldrV, eLeader, h2, e1]
  · rw [h3] at e1
    match l, h2 with
    | [], h2 => simp [go_sem, ldrV, eLeader, h2, e1]
    | [a], h2 => simp [go_sem, ldrV, eLeader, h2, e1]
    | [a, b], h2 => simp [go_sem, ldrV, eLeader, h2, e1]
    | a :: b :: c :: d :: l, h2 => simp [go_sem, ldrV, eLeader, h2, e1, len_ne3 l]
    | [a, b, c], h2 =>
      have e2 := leaderOK_E ⟨a, IntKind.i64.wrap (b - 1), c⟩
      simp only [eLeader] at e2
      cases h4 : ldrOK ⟨a, IntKind.i64.wrap (b - 1), c⟩
      · rw [h4] at e2
        simp [go_sem, ldrV, eLeader, h2, e1, e2, h4]
      · rw [h4] at e2
        simp [go_sem, ldrV, eLeader, h2, e1, e2, h4]
theorem l06Decode_E (t : Tx) (ht : t.length ≤ 1000000) : E CX 183 [.str t] [] = some { val := ldrV (noL 0) (ldrF t) } := by
  refine E_fin Try.f183 _ an183 rfl rfl rfl Try.func183 rfl (by kernel_rfl) ?_
  unfold ldrF
  have e1 := l02Open_E t 6 ht
  cases h2 : openF t 6 with
  | none =>
    rw [h2] at e1
    simp [go_sem, ldrV, eLeader, noL, h2, e1]
  | some l =>
    rw [h2] at e1
    match l, h2 with
    | [], h2 => simp [go_sem, ldrV, eLeader, noL, h2, e1]
    | [a], h2 => simp [go_sem, ldrV, eLeader, noL, h2, e1]
    | [a, b], h2 => simp [go_sem, ldrV, eLeader, noL, h2, e1]
    | a :: b :: c :: d :: l, h2 => simp [go_sem, ldrV, eLeader, noL, h2, e1, len_ne3 l]
    | [a, b, c], h2 =>
      have e2 := sLeaderOK_E ⟨a, IntKind.i64.wrap (b - 1), c⟩
      simp only [eLeader] at e2
      cases h4 : ldrOK ⟨a, IntKind.i64.wrap (b - 1), c⟩
      · rw [h4] at e2
        simp [go_sem, ldrV, eLeader, noL, h2, e1, e2, h4]
      · rw [h4] at e2
        simp [go_sem, ldrV, eLeader, noL, h2, e1, e2, h4]
/-- The leader, as a host reads it. -/
def rdLd (d : Disk) (h : Int) : Leader := (ldrF (rdL d.ss d.ps h 0)).getD (noL 0)
theorem leader_E (d : Disk) (h : Int) (hd : diskOK d = true) : E CX 118 [eDisk d, .int .i64 h] [] = some { val := eLeader (rdLd d h) } := by
  refine E_fin Try.f118 _ an118 rfl rfl rfl Try.func118 rfl (by kernel_rfl) ?_
  have g := diskOK_good hd
  have g1 := g.ss; have g2 := g.ps
  have e1 := read_E d h 0 (by omega) (by omega)
  have hln := rdL_len hd h 0
  have e2 := leaderOf_E (rdL d.ss d.ps h 0) (by omega)
  have e3 := nobody_E 0
  unfold rdLd
  simp only [eDisk] at e1
  simp only [eLeader, noL] at e3
  cases hx : ldrF (rdL d.ss d.ps h 0) with
  | none =>
    rw [hx] at e2
    simp only [ldrV, eLeader] at e2 ⊢
    simp [go_sem, eDisk, noL, e1, e2, e3]
  | some x =>
    rw [hx] at e2
    simp only [ldrV, eLeader] at e2
    simp [go_sem, eDisk, e1, e2, eLeader]
theorem l06Read_E (d : Disk) (h : Int) (hd : diskOK d = true) : E CX 132 [eDisk d, .int .i64 h] [] = some { val := eLeader (rdLd d h) } := by
  refine E_fin Try.f132 _ an132 rfl rfl rfl Try.func132 rfl (by kernel_rfl) ?_
  have g := diskOK_good hd
  have g1 := g.ss; have g2 := g.ps
  have e1 := l01Read_E d h 0 (by omega) (by omega)
  have hln := rdL_len hd h 0
  have e2 := l06Decode_E (rdL d.ss d.ps h 0) (by omega)
  unfold rdLd
  simp only [eDisk] at e1
  cases hx : ldrF (rdL d.ss d.ps h 0) with
  | none =>
    rw [hx] at e2
    simp only [ldrV, eLeader, noL] at e2
    simp [go_sem, eDisk, noL, e1, e2, eLeader]
  | some x =>
    rw [hx] at e2
    simp only [ldrV, eLeader] at e2
    simp [go_sem, eDisk, e1, e2, eLeader]
def lcode (d : Disk) (h : Int) : Int := if askC d h ≠ 0 then askC d h else if d.ps.length = 200 then 7 else 0
theorem l06Ask_E (d : Disk) (h : Int) (h1 : d.ss.length ≤ 1073741824) (h2 : d.ps.length ≤ 1073741824) : E CX 130 [eDisk d, .int .i64 h] [] = some { val := .int .i64 (lcode d h) } := by
  refine E_fin Try.f130 _ an130 rfl rfl rfl Try.func130 rfl (by kernel_rfl) ?_
  have e1 := l01Ask_E d h 0 h1 h2
  have : askS d h 0 = askC d h := by unfold askS askC; cases diskOK d <;> cases inn h 0 3 <;> simp [inn]
  rw [this] at e1
  unfold lcode
  simp only [eDisk] at e1
  generalize askC d h = c at *
  by_cases hc : c = 0
  · subst hc
    by_cases c4 : d.ps.length = 200
    · simp [go_sem, eDisk, e1, c4]
    · have : ¬ ((d.ps.length : Int) = 200) := by omega
      simp [go_sem, eDisk, e1, c4, this]
  · simp [go_sem, eDisk, e1, hc]
theorem lcode_zero {d : Disk} {h : Int} (hc : lcode d h = 0) : diskOK d = true ∧ inn h 0 3 = true ∧ 0 ≤ h ∧ h ≤ 3 ∧ d.ps.length < 200 := by
  unfold lcode askC at hc
  cases c1 : diskOK d
  · simp [c1] at hc
  · cases c2 : inn h 0 3
    · simp [c1, c2] at hc
    · simp [c1, c2] at hc
      have g := (diskOK_good c1).ps
      simp [inn] at c2
      exact ⟨rfl, rfl, c2.1, c2.2, by omega⟩
end Go.Proofs.Ytccoeoppjcegnaa

namespace Go.Proofs.Ytccoeoppjcegnaa
open Go
set_option maxRecDepth 100000
set_option maxHeartbeats 1000000
set_option linter.unusedSimpArgs false
set_option linter.unusedVariables false
def zL : Leader := ⟨0, 0, 0⟩
def relC (d : Disk) (h : Int) (x : Leader) : Int := if lcode d h ≠ 0 then lcode d h else if ldrOK x then 0 else 1
theorem relC_zero {d : Disk} {h : Int} {x : Leader} (hc : relC d h x = 0) : lcode d h = 0 ∧ ldrOK x = true ∧ 0 ≤ x.ver ∧ x.ver ≤ 1000000 := by
  unfold relC at hc
  by_cases h1 : lcode d h = 0
  · cases h2 : ldrOK x
    · simp [h1, h2] at hc
    · have h3 := h2
      simp [ldrOK, inn] at h3
      exact ⟨h1, rfl, h3.1.1, h3.1.2⟩
  · simp [h1] at hc
def relA (d : Disk) (h : Int) (x : Leader) : Disk × Leader × Int :=
  if relC d h x ≠ 0 then (mty, zL, relC d h x) else if rdLd d h ≠ x then (d, rdLd d h, 13) else if x.owner ≠ h then (d, x, 9) else if x.ver = 1000000 then (d, x, 6) else (putD d h 0 (ldrT (noL (x.ver + 1))), noL (x.ver + 1), 0)
theorem leader_eta (x y : Leader) : (x.ver = y.ver ∧ x.owner = y.owner ∧ x.gen = y.gen) ↔ x = y := by
  cases x; cases y; simp
theorem first3_E (a b c : Bool) (x y z : Int) : E CX 61 [.sl 1 [.iface 4 (.bool a), .iface 3 (.int .i64 x), .iface 4 (.bool b), .iface 3 (.int .i64 y), .iface 4 (.bool c), .iface 3 (.int .i64 z)]] [] = some { val := .int .i64 (if a then x else if b then y else if c then z else 0) } := by
  have e := first_E [(a, x), (b, y), (c, z)] (by simp)
  simp only [anys] at e
  rw [e]
  cases a <;> cases b <;> cases c <;> rfl
theorem release_E (d : Disk) (h : Int) (x : Leader) (h1 : d.ss.length ≤ 1073741824) (h2 : d.ps.length ≤ 1073741824) : ∃ r : Res, E CX 48 [eDisk d, .int .i64 h, eLeader x] [] = some r ∧ toldOwn r (relA d h x).1 (eLeader (relA d h x).2.1) (relA d h x).2.2 := by
  have e1 := codes_E d h h1 h2
  have e2 := leaderOK_E x
  have e4 := isFull_E d
  simp only [eDisk] at e1 e4
  unfold relA
  by_cases hc : relC d h x = 0
  · obtain ⟨hl, hx, hv1, hv2⟩ := relC_zero hc
    obtain ⟨hd, hh, ho1, ho2, hps⟩ := lcode_zero hl
    have hk : askC d h = 0 := by unfold askC; simp [hd, hh]
    have hf : decide (d.ps.length = 200) = false := by simp; omega
    rw [hk] at e1; rw [hx] at e2; rw [hf] at e4
    rw [if_neg (by simp [hc])]
    have e6 := leader_E d h hd
    have e7 := copied_E d h1 h2
    have g := diskOK_good hd
    have e8 := ldrText_E (noL (x.ver + 1)) (show IntKind.i64.wrap ((-1 : Int) + 1) = -1 + 1 by decide)
    have e9 := put_E d h 0 (ldrT (noL (x.ver + 1))) ⟨g.ss, by omega, g.at_⟩ (by omega)
    have e11 := nobody_E (x.ver + 1)
    have w1 := wrap_id (n := x.ver + 1) (by omega)
    generalize putD d h 0 (ldrT (noL (x.ver + 1))) = pd at *
    generalize htx : ldrT (noL (x.ver + 1)) = tx at *
    simp only [eDisk, eLeader] at e2 e6 e7 e8 e9 e11
    simp only [noL] at e8 e11
    by_cases hr : rdLd d h = x
    · rw [hr] at e6 ⊢
      rw [if_neg (by simp)]
      by_cases hm : x.owner = h
      · rw [if_neg (by simp [hm])]
        rw [hm] at e2 e6
        by_cases hn : x.ver = 1000000
        · rw [if_pos hn]
          rw [hn] at e2 e6
          refine ⟨_, ?_, .inr ⟨[], rfl⟩⟩
          refine E_fin Try.f48 _ an48 rfl rfl rfl Try.func48 rfl (by kernel_rfl) ?_
          simp [go_sem, eDisk, eLeader, e1, e2, e4, first3_E, e6, e7, hm, hn]
        · rw [if_neg hn]
          refine ⟨_, ?_, .inr ⟨List.replicate (d.ps.length + 1 - pd.ps.length) zIo, rfl⟩⟩
          refine E_fin Try.f48 _ an48 rfl rfl rfl Try.func48 rfl (by kernel_rfl) ?_
          try simp at e9
          simp [go_sem, eDisk, eLeader, noL, e1, e2, e4, first3_E, e6, e8, e9, e11, hm, hn, w1, show (x.ver == 1000000) = false by simp [hn]]
      · rw [if_pos hm]
        refine ⟨_, ?_, .inr ⟨[], rfl⟩⟩
        refine E_fin Try.f48 _ an48 rfl rfl rfl Try.func48 rfl (by kernel_rfl) ?_
        simp [go_sem, eDisk, eLeader, e1, e2, e4, first3_E, e6, e7, hm, show (x.owner == h) = false by simp [hm]]
    · rw [if_pos hr]
      refine ⟨_, ?_, .inr ⟨[], rfl⟩⟩
      refine E_fin Try.f48 _ an48 rfl rfl rfl Try.func48 rfl (by kernel_rfl) ?_
      generalize rdLd d h = y at *
      have hne : ¬ (y.ver = x.ver ∧ y.owner = x.owner ∧ y.gen = x.gen) := by rw [leader_eta]; exact hr
      by_cases c1 : y.ver = x.ver
      · by_cases c2 : y.owner = x.owner
        · have c3 : ¬ y.gen = x.gen := fun h => hne ⟨c1, c2, h⟩
          have b3 : (y.gen == x.gen) = false := by simp [c3]
          simp [go_sem, eDisk, eLeader, e1, e2, e4, first3_E, e6, e7, c1, c2, c3, b3]
        · have b2 : (y.owner == x.owner) = false := by simp [c2]
          simp [go_sem, eDisk, eLeader, e1, e2, e4, first3_E, e6, e7, c1, c2, b2]
      · have b1 : (y.ver == x.ver) = false := by simp [c1]
        simp [go_sem, eDisk, eLeader, e1, e2, e4, first3_E, e6, e7, c1, b1]
  · rw [if_pos hc]
    refine ⟨_, ?_, .inl ⟨rfl, rfl⟩⟩
    refine E_fin Try.f48 _ an48 rfl rfl rfl Try.func48 rfl (by kernel_rfl) ?_
    simp only [eLeader] at e2
    unfold relC lcode at hc ⊢
    by_cases hk : askC d h = 0
    · rw [hk] at e1 hc ⊢
      by_cases hf : d.ps.length = 200
      · have e5 := fun b => first_E [(false, 0), (true, 7), (b, 1)] (by simp)
        have e4' : decide (d.ps.length = 200) = true := by simp [hf]
        rw [e4'] at e4
        simp [go_sem, eDisk, eLeader, zL, e1, e2, e4, first3_E, hf]
      · have e4' : decide (d.ps.length = 200) = false := by simp [hf]
        rw [e4'] at e4
        cases hx : ldrOK x
        · rw [hx] at e2
          simp [go_sem, eDisk, eLeader, zL, e1, e2, e4, first3_E, hf]
        · simp [hf, hx] at hc
    · generalize askC d h = c at *
      simp [go_sem, eDisk, eLeader, zL, e1, e2, e4, first3_E, hk, show (c == 0) = false by simp [hk]]
theorem sRelease_E (d : Disk) (h : Int) (x : Leader) (h1 : d.ss.length ≤ 1073741824) (h2 : d.ps.length ≤ 1073741824) : ∃ r : Res, E CX 50 [eDisk d, .int .i64 h, eLeader x] [] = some r ∧ toldVal r (relA d h x).1 (eLeader (relA d h x).2.1) (relA d h x).2.2 := by
  have e1 := l06Ask_E d h h1 h2
  have e2 := sLeaderOK_E x
  simp only [eDisk] at e1
  simp only [eLeader] at e2
  unfold relA
  by_cases hc : relC d h x = 0
  · obtain ⟨hl, hx, hv1, hv2⟩ := relC_zero hc
    obtain ⟨hd, hh, ho1, ho2, hps⟩ := lcode_zero hl
    rw [hl] at e1; rw [hx] at e2
    rw [if_neg (by simp [hc])]
    have e6 := l06Read_E d h hd
    have e7 := l01Own_E d h1 h2
    have g := diskOK_good hd
    have e8 := l06Encode_E (noL (x.ver + 1)) (show IntKind.i64.wrap ((-1 : Int) + 1) = -1 + 1 by decide)
    have e9 := l01Write_E d ⟨h, 0, ldrT (noL (x.ver + 1))⟩ (by omega)
    have e12 := l01Flush_E ⟨d.ss, d.ps ++ [⟨h, 0, ldrT (noL (x.ver + 1))⟩]⟩ h ⟨g.ss, by simp; omega, by
      intro y hy
      simp only [List.mem_append, List.mem_singleton] at hy
      rcases hy with hy | rfl
      · exact g.at_ y hy
      · simp only; omega⟩
    have hrm : settleD ⟨d.ss, d.ps ++ [⟨h, 0, ldrT (noL (x.ver + 1))⟩]⟩ h 200 false = putD d h 0 (ldrT (noL (x.ver + 1))) := by
      unfold putD; exact settle_room _ _ _ _ _ (by simp; omega) (by simp; omega)
    rw [hrm] at e12
    have gp := putD_good d h 0 (ldrT (noL (x.ver + 1))) 200 g (by omega)
    have gp1 := gp.ss; have gp2 := gp.ps
    have e10 := l01Own_E (putD d h 0 (ldrT (noL (x.ver + 1)))) (by omega) (by omega)
    have w1 := wrap_id (n := x.ver + 1) (by omega)
    generalize putD d h 0 (ldrT (noL (x.ver + 1))) = pd at *
    generalize htx : ldrT (noL (x.ver + 1)) = tx at *
    simp only [eDisk, eLeader] at e6 e7 e8 e10
    simp only [noL] at e8
    simp only [eDisk, eIo] at e9 e12
    simp [eIo] at e9 e12
    by_cases hr : rdLd d h = x
    · rw [hr] at e6 ⊢
      rw [if_neg (by simp)]
      by_cases hm : x.owner = h
      · rw [if_neg (by simp [hm])]
        rw [hm] at e2 e6
        by_cases hn : x.ver = 1000000
        · rw [if_pos hn]
          rw [hn] at e2 e6
          refine ⟨_, ?_, .inr rfl⟩
          refine E_fin Try.f50 _ an50 rfl rfl rfl Try.func50 rfl (by kernel_rfl) ?_
          simp [go_sem, eDisk, eLeader, e1, e2, e6, e7, hm, hn]
        · rw [if_neg hn]
          refine ⟨_, ?_, .inr rfl⟩
          refine E_fin Try.f50 _ an50 rfl rfl rfl Try.func50 rfl (by kernel_rfl) ?_
          simp [go_sem, eDisk, eLeader, eIo, noL, e1, e2, e6, e8, e9, e10, e12, hm, hn, w1]
      · rw [if_pos hm]
        refine ⟨_, ?_, .inr rfl⟩
        refine E_fin Try.f50 _ an50 rfl rfl rfl Try.func50 rfl (by kernel_rfl) ?_
        simp [go_sem, eDisk, eLeader, e1, e2, e6, e7, hm]
    · rw [if_pos hr]
      refine ⟨_, ?_, .inr rfl⟩
      refine E_fin Try.f50 _ an50 rfl rfl rfl Try.func50 rfl (by kernel_rfl) ?_
      generalize rdLd d h = y at *
      have hne : ¬ (y.ver = x.ver ∧ y.owner = x.owner ∧ y.gen = x.gen) := by rw [leader_eta]; exact hr
      by_cases c1 : y.ver = x.ver
      · by_cases c2 : y.owner = x.owner
        · have c3 : ¬ y.gen = x.gen := fun h => hne ⟨c1, c2, h⟩
          simp [go_sem, eDisk, eLeader, e1, e2, e6, e7, c1, c2, c3]
        · simp [go_sem, eDisk, eLeader, e1, e2, e6, e7, c1, c2]
      · simp [go_sem, eDisk, eLeader, e1, e2, e6, e7, c1]
  · rw [if_pos hc]
    refine ⟨_, ?_, .inl ⟨rfl, rfl⟩⟩
    refine E_fin Try.f50 _ an50 rfl rfl rfl Try.func50 rfl (by kernel_rfl) ?_
    unfold relC at hc ⊢
    by_cases hk : lcode d h = 0
    · rw [hk] at e1 hc ⊢
      cases hx : ldrOK x
      · rw [hx] at e2
        simp [go_sem, eDisk, eLeader, zL, e1, e2]
      · simp [hx] at hc
    · generalize lcode d h = c at *
      simp [go_sem, eDisk, eLeader, zL, e1, e2, hk]
theorem relA_len (d : Disk) (h : Int) (x : Leader) (b1 : d.ss.length ≤ 1048576) (b2 : d.ps.length ≤ 1048576) : (relA d h x).1.ss.length ≤ 1048576 ∧ (relA d h x).1.ps.length ≤ 1048577 := by
  unfold relA
  split
  · simp [mty]
  · rename_i hc
    obtain ⟨hl, hx, hv1, hv2⟩ := relC_zero (by simpa using hc)
    obtain ⟨hd, hh, ho1, ho2, hps⟩ := lcode_zero hl
    have gp := putD_good d h 0 (ldrT (noL (x.ver + 1))) 200 (diskOK_good hd) (by omega)
    have := gp.ss; have := gp.ps
    split
    · exact ⟨b1, by simp only; omega⟩
    · split
      · exact ⟨b1, by simp only; omega⟩
      · split
        · exact ⟨b1, by simp only; omega⟩
        · simp only; omega
end Go.Proofs.Ytccoeoppjcegnaa

namespace Go.Proofs.Ytccoeoppjcegnaa
open Go
set_option maxRecDepth 100000
set_option linter.unusedSimpArgs false
set_option linter.unusedVariables false
def mvU (u : Update) : Move := ⟨1, u.at_, u.data⟩
def applyF (h q : Int) (l : List Update) : List Move := l.map mvU ++ [⟨2, 0, []⟩, ⟨1, 39 + 6 * h, sealF 7 [0, q]⟩, ⟨2, 0, []⟩]
theorem applied_E (h q : Int) (l : List Update) (hh : 0 ≤ h ∧ h ≤ 100) (hl : l.length ≤ 1000000) : E CX 116 [.int .i64 h, .int .i64 q, .sl 2 (l.map eUpdate)] [] = some { val := .ref [0, 0, 0, 0] 0 (applyF h q l).length, own := [⟨false, 99, 3, (applyF h q l).map eMove⟩] } := by
  refine E_fin Try.f116 _ an116 rfl rfl rfl Try.func116 rfl (by kernel_rfl) ?_
  have e1 := slot_E h hh
  have e2 := seal_E 7 [0, q] (by simp)
  simp at e2
  simp [go_sem]
  refine loop_for (fun X => fin CX _ _ X = _) l (fun n (a : List Move) => a.length = n) (fun n a => ⟨SS [(0, .int .i64 h), (1, .int .i64 q), (7, .ref [10] 0 a.length), (11, .sl 2 (l.map eUpdate)), (12, .int .i64 l.length), (13, .int .i64 n)], HS [([10], ⟨false, 99, 3, a.map eMove⟩)]⟩)
    (fun r n a => (.exit 0, ⟨SS [(0, .int .i64 h), (1, .int .i64 q), (7, .ref [10] 0 (a ++ r.map mvU).length)], HS [([10], ⟨false, 99, 3, (a ++ r.map mvU).map eMove⟩)]⟩)) [] rfl ?_ ?_ ?_ ?_ ?_
  · simp [go_sem]
  · intro R n a u r hn hx hd hI hR
    have hx := hx hn
    have := hR (a ++ [mvU u]) (by simp [hI]) (by simp)
    simp [go_sem, mvU, eMove] at this
    simp [go_sem, hn, hx, eUpdate, show a.length + 1 ≤ 1073741824 by omega, wrap_id (n := (n : Int) + 1) (by omega)]
    exact this
  · intro a hI; simp [go_sem]
  · intro _; simp
  · simp [go_sem, e1, e2, applyF, eMove, show l.length + 3 ≤ 1073741824 by omega]
theorem l07Head_E (h n q : Int) (hh : 0 ≤ h ∧ h ≤ 100) : E CX 150 [.int .i64 h, .int .i64 n, .int .i64 q] [] = some { val := eMove ⟨1, 39 + 6 * h, sealF 7 [n, q]⟩ } := by
  refine E_fin Try.f150 _ an150 rfl rfl rfl Try.func150 rfl (by kernel_rfl) ?_
  have e1 := l07Slot_E h hh
  have e2 := l02Seal_E 7 [n, q] (by simp)
  simp at e2
  simp [go_sem, e1, e2, eMove]
theorem l07Apply_E (h q : Int) (l : List Update) (hh : 0 ≤ h ∧ h ≤ 100) (hl : l.length ≤ 1000000) : E CX 151 [.int .i64 h, .int .i64 q, .sl 2 (l.map eUpdate)] [] = some { val := .ref [0, 0, 0, 0] 0 (applyF h q l).length, own := [⟨false, 99, 3, (applyF h q l).map eMove⟩] } := by
  refine E_fin Try.f151 _ an151 rfl rfl rfl Try.func151 rfl (by kernel_rfl) ?_
  have e1 := l07Head_E h 0 q hh
  simp only [eMove] at e1
  simp [go_sem]
  refine loop_for (fun X => fin CX _ _ X = _) l (fun n (a : List Move) => a.length = n) (fun n a => ⟨SS [(0, .int .i64 h), (1, .int .i64 q), (2, .sl 2 (l.map eUpdate)), (7, .ref [9] 0 a.length), (8, .int .i64 n)], HS [([9], ⟨false, 99, 3, a.map eMove⟩)]⟩)
    (fun r n a => (.exit 0, ⟨SS [(0, .int .i64 h), (1, .int .i64 q), (7, .ref [9] 0 (a ++ r.map mvU).length)], HS [([9], ⟨false, 99, 3, (a ++ r.map mvU).map eMove⟩)]⟩)) [] rfl ?_ ?_ ?_ ?_ ?_
  · simp [go_sem]
  · intro R n a u r hn hx hd hI hR
    have hx := hx hn
    have := hR (a ++ [mvU u]) (by simp [hI]) (by simp)
    simp [go_sem, mvU, eMove] at this
    simp [go_sem, hn, hx, eUpdate, show a.length + 1 ≤ 1073741824 by omega, wrap_id (n := (n : Int) + 1) (by omega)]
    exact this
  · intro a hI; simp [go_sem]
  · intro _; simp
  · simp [go_sem, e1, applyF, eMove, show l.length + 1 ≤ 1073741824 by omega, show l.length + 2 ≤ 1073741824 by omega, show l.length + 3 ≤ 1073741824 by omega, show l.length + 1 + 1 ≤ 1073741824 by omega, show l.length + 1 + 1 + 1 ≤ 1073741824 by omega]
def rAns (d : Disk) (h of_ : Int) : List Move × Int :=
  if (jAns d h of_).2.2 ≠ 0 ∨ (jAns d h of_).1 = [] then ([], (jAns d h of_).2.2) else (applyF of_ (jAns d h of_).2.1 (jAns d h of_).1, 0)
theorem jAns_of {d : Disk} {h of_ : Int} (hc : (jAns d h of_).2.2 = 0) : 0 ≤ of_ ∧ of_ ≤ 3 := by
  by_cases hj : jcode d h of_ = 0
  · exact (jcode_zero hj).2
  · unfold jAns at hc; rw [if_pos hj] at hc; exact absurd hc hj
theorem jAns_len' (d : Disk) (h of_ : Int) : (jAns d h of_).1.length ≤ 10 := by
  unfold jAns
  split
  · simp
  · split
    · rename_i l q hw
      unfold waitF at hw
      split at hw
      · injection hw with hw; injection hw with h1 h2; subst h1; simp
      · split at hw
        · rename_i n q' h2
          split at hw
          · cases hw
          · rename_i h5
            split at hw
            · rename_i l' hr
              injection hw with hw; injection hw with h1 h2; subst h1
              have := updsR_len d h (39 + 6 * of_) n.toNat 0 []
              rw [hr] at this
              simp at this ⊢
              omega
            · cases hw
        · cases hw
    · simp
theorem replayPlan_E (d : Disk) (h of_ : Int) (h1 : d.ss.length ≤ 1073741824) (h2 : d.ps.length ≤ 1073741824) : ∃ r : Res, E CX 44 [eDisk d, .int .i64 h, .int .i64 of_] [] = some r ∧ (((rAns d h of_).1 = [] ∧ r = { val := .tuple [.nil, .int .i64 (rAns d h of_).2] }) ∨
    r = { val := .tuple [.ref [0, 0, 0, 0] 0 (rAns d h of_).1.length, .int .i64 (rAns d h of_).2], own := [⟨false, 99, 3, (rAns d h of_).1.map eMove⟩] }) := by
  obtain ⟨rj, e1, hj⟩ := journalOf_E d h of_ h1 h2
  have hln := jAns_len' d h of_
  have hof := @jAns_of d h of_
  unfold rAns
  generalize jAns d h of_ = j at *
  obtain ⟨l, q, c⟩ := j
  simp only [eDisk] at e1
  try simp only at hj
  try simp only at hln
  try simp only at hof
  simp only []
  by_cases hc : c ≠ 0 ∨ l = []
  · rw [if_pos hc]
    refine ⟨_, ?_, .inl ⟨rfl, rfl⟩⟩
    refine E_fin Try.f44 _ an44 rfl rfl rfl Try.func44 rfl (by kernel_rfl) ?_
    rcases hj with ⟨rfl, rfl⟩ | rfl
    · by_cases h0 : c = 0
      · simp [go_sem, eDisk, e1, h0]
      · simp [go_sem, eDisk, e1, h0]
    · by_cases h0 : c = 0
      · obtain rfl : l = [] := hc.resolve_left (fun h => h h0)
        try simp at e1
        simp [go_sem, eDisk, e1, h0]
      · simp [go_sem, eDisk, e1, h0]
  · rw [if_neg hc]
    have h0 : c = 0 := by
      by_cases h0 : c = 0
      · exact h0
      · exact absurd (.inl h0) hc
    have hl : l ≠ [] := fun h => hc (.inr h)
    have hne : ¬ ((l.length : Int) = 0) := by
      intro h; exact hl (List.length_eq_zero_iff.1 (by omega))
    refine ⟨_, ?_, .inr rfl⟩
    refine E_fin Try.f44 _ an44 rfl rfl rfl Try.func44 rfl (by kernel_rfl) ?_
    have e2 := applied_E of_ q l (by have := hof h0; omega) (by omega)
    rcases hj with ⟨h3, _⟩ | rfl
    · exact absurd h3 hl
    · subst h0
      simp [go_sem, eDisk, e1, e2, hne, hl]
theorem l07Replay_E (d : Disk) (h of_ : Int) (hd : diskOK d = true) (ho : 0 ≤ of_ ∧ of_ ≤ 3) (hln : (waitP d h of_).1.length ≤ 10) : ∃ r : Res, E CX 117 [eDisk d, .int .i64 h, .int .i64 of_] [] = some r ∧
    (((waitP d h of_).2.2 = false ∨ (waitP d h of_).1 = []) ∧ r = { val := .tuple [.ref [0, 0, 0, 0] 0 0, .bool (waitP d h of_).2.2], own := [⟨false, 99, 3, []⟩] } ∨
     ((waitP d h of_).2.2 = true ∧ (waitP d h of_).1 ≠ []) ∧ r = { val := .tuple [.sl 3 ((applyF of_ (waitP d h of_).2.1 (waitP d h of_).1).map eMove), .bool true] }) := by
  have e1 := l07Of_E d h of_ hd ho
  generalize waitP d h of_ = w at *
  obtain ⟨l, q, b⟩ := w
  simp only [eDisk] at e1
  try simp only at hln
  simp only []
  cases b
  · refine ⟨_, ?_, .inl ⟨.inl rfl, rfl⟩⟩
    refine E_fin Try.f117 _ an117 rfl rfl rfl Try.func117 rfl (by kernel_rfl) ?_
    simp [go_sem, eDisk, e1]
  · by_cases hl : l = []
    · subst hl
      refine ⟨_, ?_, .inl ⟨.inr rfl, rfl⟩⟩
      refine E_fin Try.f117 _ an117 rfl rfl rfl Try.func117 rfl (by kernel_rfl) ?_
      try simp at e1
      simp [go_sem, eDisk, e1]
    · have hne : ¬ ((l.length : Int) = 0) := by
        intro h; exact hl (List.length_eq_zero_iff.1 (by omega))
      have e2 := l07Apply_E of_ q l (by omega) (by omega)
      refine ⟨_, ?_, .inr ⟨⟨rfl, hl⟩, rfl⟩⟩
      refine E_fin Try.f117 _ an117 rfl rfl rfl Try.func117 rfl (by kernel_rfl) ?_
      simp [go_sem, eDisk, e1, e2, hne, hl]
theorem sReplayPlan_E (d : Disk) (h of_ : Int) (h1 : d.ss.length ≤ 1073741824) (h2 : d.ps.length ≤ 1073741824) : ∃ r : Res, E CX 45 [eDisk d, .int .i64 h, .int .i64 of_] [] = some r ∧ (r = { val := .tuple [.sl 3 ((rAns d h of_).1.map eMove), .int .i64 (rAns d h of_).2] } ∨
    (rAns d h of_).1 = [] ∧ r = { val := .tuple [.ref [0, 0, 0, 0] 0 0, .int .i64 (rAns d h of_).2], own := [⟨false, 99, 3, []⟩] }) := by
  have e1 := l07Ask_E d h of_ h1 h2
  have hln := jAns_len' d h of_
  simp only [eDisk] at e1
  by_cases hc : jcode d h of_ = 0
  · obtain ⟨hd, ho⟩ := jcode_zero hc
    rw [hc] at e1
    have hp : (waitP d h of_).1.length ≤ 10 := by
      unfold waitP
      cases hw : waitF d h of_ with
      | none => simp
      | some p => obtain ⟨l, q⟩ := p; simp [jAns, hc, hw] at hln; exact hln
    obtain ⟨rr, e2, hr⟩ := l07Replay_E d h of_ hd ho hp
    unfold waitP at hr
    simp only [eDisk] at e2
    cases hw : waitF d h of_ with
    | none =>
      have hA : rAns d h of_ = ([], 18) := by simp [rAns, jAns, hc, hw]
      rw [hA]
      rw [hw] at hr
      simp only [] at hr
      rcases hr with ⟨_, rfl⟩ | ⟨⟨h3, _⟩, _⟩
      · refine ⟨_, ?_, .inr ⟨rfl, rfl⟩⟩
        refine E_fin Try.f45 _ an45 rfl rfl rfl Try.func45 rfl (by kernel_rfl) ?_
        simp [go_sem, eDisk, e1, e2]
      · cases h3
    | some p =>
      obtain ⟨l, q⟩ := p
      rw [hw] at hr
      simp only [] at hr
      rcases hr with ⟨h3, rfl⟩ | ⟨⟨_, h3⟩, rfl⟩
      · obtain rfl : l = [] := h3.resolve_left (fun h => by cases h)
        have hA : rAns d h of_ = ([], 0) := by simp [rAns, jAns, hc, hw]
        rw [hA]
        refine ⟨_, ?_, .inl rfl⟩
        refine E_fin Try.f45 _ an45 rfl rfl rfl Try.func45 rfl (by kernel_rfl) ?_
        simp [go_sem, eDisk, e1, e2]
      · have hA : rAns d h of_ = (applyF of_ q l, 0) := by simp [rAns, jAns, hc, hw, h3]
        rw [hA]
        refine ⟨_, ?_, .inl rfl⟩
        refine E_fin Try.f45 _ an45 rfl rfl rfl Try.func45 rfl (by kernel_rfl) ?_
        simp [go_sem, eDisk, e1, e2]
  · have hA : rAns d h of_ = ([], jcode d h of_) := by simp [rAns, jAns, hc]
    rw [hA]
    refine ⟨_, ?_, .inr ⟨rfl, rfl⟩⟩
    refine E_fin Try.f45 _ an45 rfl rfl rfl Try.func45 rfl (by kernel_rfl) ?_
    simp [go_sem, eDisk, e1, hc]
end Go.Proofs.Ytccoeoppjcegnaa

namespace Go.Proofs.Ytccoeoppjcegnaa
open Go
set_option maxRecDepth 100000
set_option linter.unusedSimpArgs false
set_option linter.unusedVariables false
theorem notUpdate_E (f : FuncId) (x : Update) (b : Bool) (hio : (annA f).io = []) (hf : E CX f [eUpdate x] [] = some { val := .bool b }) : E CX 142 [eUpdate x, .rptr [.fn f []]] [] = some { val := .bool (!b) } := by
  refine E_fin Try.f142 _ an142 rfl rfl rfl Try.func142 rfl (by kernel_rfl) ?_
  simp only [eUpdate] at hf
  simp [go_sem, hf, hio, eUpdate]
theorem indexFuncUpdate_E (g : FuncId) (cap : List AV) (l : List Update) (q : Update → Bool) (hio : (annA g).io = []) (hl : l.length ≤ 1073741824) (hf : ∀ x, E CX g [eUpdate x, .rptr cap] [] = some { val := .bool (q x) }) : E CX 188 [.sl 2 (l.map eUpdate), .fn g [.rptr cap]] [] = some { val := .int .i64 (idxOf (firstAt q l 0)) } := by
  refine E_fin Try.f188 _ an188 rfl rfl rfl Try.func188 rfl (by kernel_rfl) ?_
  simp [go_sem]
  refine loop_list (fun X => fin CX _ _ X = _) l (fun n _ => True) (fun n (_ : Unit) => ⟨SS [(0, .sl 2 (l.map eUpdate)), (1, .fn g [.rptr cap]), (7, .int .i64 l.length), (8, .int .i64 n)], HE⟩)
     (fun r n _ => match firstAt q r n with
    | some k => (.ret, ⟨SS [(4, .int .i64 k)], HE⟩)
    | none => (.exit 0, ⟨SS [], HE⟩)) () trivial ?_ ?_ ?_ ?_ ?_
  · simp [go_sem]
  · intro n _ x t hn hx hd _
    have hx := hx hn
    have hE := hf x
    simp only [eUpdate] at hE
    cases hq : q x
    · rw [hq] at hE
      simp [go_sem, firstAt, hq, hio, hE, hn, hx, wrap_id (n := (n : Int) + 1) (by omega), eUpdate]
    · rw [hq] at hE
      simp [go_sem, firstAt, hq, hio, hE, hn, hx, eUpdate]
  · intro _ _; simp [go_sem, firstAt]
  · intro _; simp [firstAt]
  · cases hr : firstAt q l 0 <;> simp [go_sem, hr, idxOf]
theorem containsFuncUpdate_E (g : FuncId) (cap : List AV) (l : List Update) (q : Update → Bool) (hio : (annA g).io = []) (hl : l.length ≤ 1073741824) (hf : ∀ x, E CX g [eUpdate x, .rptr cap] [] = some { val := .bool (q x) }) : E CX 141 [.sl 2 (l.map eUpdate), .fn g [.rptr cap]] [] = some { val := .bool (l.any q) } := by
  refine E_fin Try.f141 _ an141 rfl rfl rfl Try.func141 rfl (by kernel_rfl) ?_
  simp [go_sem, indexFuncUpdate_E g cap l q hio hl hf, idx_any]
theorem allUpdate_E (f : FuncId) (l : List Update) (q : Update → Bool) (hio : (annA f).io = []) (hl : l.length ≤ 1073741824) (hf : ∀ x, E CX f [eUpdate x] [] = some { val := .bool (q x) }) : E CX 65 [.sl 2 (l.map eUpdate), .fn f []] [] = some { val := .bool (l.all q) } := by
  refine E_fin Try.f65 _ an65 rfl rfl rfl Try.func65 rfl (by kernel_rfl) ?_
  have h := containsFuncUpdate_E 142 [.fn f []] l (fun x => !q x) rfl hl (fun x => notUpdate_E f x (q x) hio (hf x))
  rw [any_not] at h
  simp [go_sem, h]
end Go.Proofs.Ytccoeoppjcegnaa

namespace Go.Proofs.Ytccoeoppjcegnaa
open Go
set_option maxRecDepth 100000
set_option maxHeartbeats 1000000
set_option linter.unusedSimpArgs false
set_option linter.unusedVariables false
theorem isLongUpdate_E (l : List Update) : E CX 62 [.sl 2 (l.map eUpdate)] [] = some { val := .bool (decide (4096 < l.length)) } := by
  refine E_fin Try.f62 _ an62 rfl rfl rfl Try.func62 rfl (by kernel_rfl) ?_
  simp [go_sem]
  omega
def updT (u : Update) : Tx := sealF 8 [u.at_] ++ u.data
theorem updText_E (u : Update) (hu : u.data.length ≤ 1000000) : E CX 144 [eUpdate u] [] = some { val := .str (updT u) } := by
  refine E_fin Try.f144 _ an144 rfl rfl rfl Try.func144 rfl (by kernel_rfl) ?_
  have e1 := seal_E 8 [u.at_] (by simp)
  have hl : (sealF 8 [u.at_]).length ≤ 1000 := by simp [sealF, packF_length]
  simp at e1
  simp [go_sem, eUpdate, e1, updT, show (sealF 8 [u.at_]).length + u.data.length ≤ 4611686018427387904 by omega]
theorem l07Encode_E (u : Update) (hu : u.data.length ≤ 1000000) : E CX 149 [eUpdate u] [] = some { val := .str (updT u) } := by
  refine E_fin Try.f149 _ an149 rfl rfl rfl Try.func149 rfl (by kernel_rfl) ?_
  have e1 := l02Seal_E 8 [u.at_] (by simp)
  have hl : (sealF 8 [u.at_]).length ≤ 1000 := by simp [sealF, packF_length]
  simp at e1
  simp [go_sem, eUpdate, e1, updT, show (sealF 8 [u.at_]).length + u.data.length ≤ 4611686018427387904 by omega]
/-- The moves that write updates behind a journal's head. -/
def jmF (h : Int) : List Update → Nat → List Move
  | [], _ => []
  | u :: r, i => ⟨1, 39 + 6 * h + 1 + i, updT u⟩ :: jmF h r (i + 1)
theorem jmF_length (h : Int) : ∀ (l : List Update) (i : Nat), (jmF h l i).length = l.length := by
  intro l
  induction l with
  | nil => intro i; rfl
  | cons u l ih => intro i; simp [jmF, ih]
def planF (h q : Int) (l : List Update) : List Move := if l = [] then [] else jmF h l 0 ++ [⟨2, 0, []⟩, ⟨1, 39 + 6 * h, sealF 7 [l.length, q]⟩, ⟨2, 0, []⟩] ++ applyF h q l
theorem applyF_length (h q : Int) (l : List Update) : (applyF h q l).length = l.length + 3 := by simp [applyF]
theorem journal_E (h q : Int) (l : List Update) (hh : 0 ≤ h ∧ h ≤ 100) (hl : l.length ≤ 1000000) (hne : l ≠ []) (hd : ∀ u ∈ l, u.data.length ≤ 1000000) : E CX 67 [.int .i64 h, .int .i64 q, .sl 2 (l.map eUpdate)] [] = some { val := .ref [0, 0, 0, 0] 0 (planF h q l).length, own := [⟨false, 99, 3, (planF h q l).map eMove⟩] } := by
  refine E_fin Try.f67 _ an67 rfl rfl rfl Try.func67 rfl (by kernel_rfl) ?_
  have e1 := slot_E h hh
  have e2 := seal_E 7 [(l.length : Int), q] (by simp)
  have e3 := applied_E h q l hh hl
  have ha := applyF_length h q l
  have hlen : l.length ≠ 0 := by intro h; exact hne (List.length_eq_zero_iff.1 h)
  simp at e2
  unfold planF
  rw [if_neg hne]
  simp [go_sem, hne, hlen]
  refine loop_for (fun X => fin CX _ _ X = _) l (fun n (a : List Move) => a.length = n) (fun n a => ⟨SS [(0, .int .i64 h), (1, .int .i64 q), (2, .sl 2 (l.map eUpdate)), (7, .ref [13] 0 a.length), (14, .sl 2 (l.map eUpdate)), (15, .int .i64 l.length), (16, .int .i64 n)], HS [([13], ⟨false, 99, 3, a.map eMove⟩)]⟩)
    (fun r n a => (.exit 0, ⟨SS [(0, .int .i64 h), (1, .int .i64 q), (2, .sl 2 (l.map eUpdate)), (7, .ref [13] 0 (a ++ jmF h r n).length)], HS [([13], ⟨false, 99, 3, (a ++ jmF h r n).map eMove⟩)]⟩)) [] rfl ?_ ?_ ?_ ?_ ?_
  · simp [go_sem]
  · intro R n a u r hn hx hd' hI hR
    have hu : u ∈ l := by rw [← hx hn]; exact List.getElem_mem hn
    have hx := hx hn
    have e4 := updText_E u (hd u hu)
    simp only [eUpdate] at e4
    have := hR (a ++ [⟨1, 39 + 6 * h + 1 + n, updT u⟩]) (by simp [hI]) (by simp [jmF])
    simp [go_sem, eMove] at this
    simp [go_sem, hn, hx, eUpdate, e1, e4, show a.length + 1 ≤ 1073741824 by omega, wrap_id (n := (n : Int) + 1) (by omega), wrap_id (n := 39 + 6 * h + 1) (by omega), wrap_id (n := 39 + 6 * h + 1 + (n : Int)) (by omega)]
    exact this
  · intro a hI; simp [go_sem, jmF]
  · intro _; simp
  · have hj := jmF_length h l 0
    generalize applyF h q l = ap at *
    generalize jmF h l 0 = jm at *
    simp [go_sem, e1, e2, e3, eMove, show jm.length + 3 ≤ 1073741824 by omega, show jm.length + 3 + ap.length ≤ 1073741824 by omega]
    omega
theorem l07Updates_E (l : List Update) (hl : l.length ≤ 1000000) : E CX 70 [.sl 2 (l.map eUpdate)] [] = some { val := .int .i64 (if 5 < l.length then 6 else if l.all updOK then 0 else 1) } := by
  refine E_fin Try.f70 _ an70 rfl rfl rfl Try.func70 rfl (by kernel_rfl) ?_
  by_cases h5 : 5 < l.length
  · simp [go_sem, h5, show (5 : Int) < l.length by omega]
  · simp [go_sem, h5, show ¬ (5 : Int) < l.length by omega]
    refine loop_for (fun X => fin CX _ _ X = _) l (fun n _ => True) (fun n (_ : Unit) => ⟨SS [(0, .sl 2 (l.map eUpdate)), (3, .int .i64 n)], HE⟩)
      (fun r n _ => match r.all updOK with
        | true => (.exit 0, ⟨SS [], HE⟩)
        | false => (.ret, ⟨SS [(2, .int .i64 1)], HE⟩)) () trivial ?_ ?_ ?_ ?_ ?_
    · simp [go_sem]
    · intro R n a u r hn hx hd hI hR
      have hx := hx hn
      have e1 := l07Update_E u
      simp only [eUpdate] at e1
      cases hu : updOK u
      · rw [hu] at e1
        simp [go_sem, hn, hx, eUpdate, e1, hu]
      · rw [hu] at e1
        have := hR () trivial (by simp [hu])
        simp [go_sem] at this
        simp [go_sem, hn, hx, eUpdate, e1, hu, wrap_id (n := (n : Int) + 1) (by omega)]
        exact this
    · intro a hI; simp [go_sem]
    · intro _; simp
    · cases ha : l.all updOK
      · have h' := ha
        simp at h'
        simp [go_sem, ha]
        exact h'
      · have h' := ha
        simp at h'
        simp [go_sem, ha]
        exact h'
theorem l07Plan_E (h q : Int) (l : List Update) (hh : 0 ≤ h ∧ h ≤ 100) (hl : l.length ≤ 1000000) (hd : ∀ u ∈ l, u.data.length ≤ 1000000) : E CX 71 [.int .i64 h, .int .i64 q, .sl 2 (l.map eUpdate)] [] = some { val := .ref [0, 0, 0, 0] 0 (planF h q l).length, own := [⟨false, 99, 3, (planF h q l).map eMove⟩] } := by
  refine E_fin Try.f71 _ an71 rfl rfl rfl Try.func71 rfl (by kernel_rfl) ?_
  by_cases hne : l = []
  · subst hne
    simp [go_sem, planF]
  have e1 := l07Slot_E h hh
  have e2 := l07Head_E h l.length q hh
  have e3 := l07Apply_E h q l hh hl
  have ha := applyF_length h q l
  have hlen : l.length ≠ 0 := by intro h; exact hne (List.length_eq_zero_iff.1 h)
  simp only [eMove] at e2
  unfold planF
  rw [if_neg hne]
  simp [go_sem, hne, hlen]
  refine loop_for (fun X => fin CX _ _ X = _) l (fun n (a : List Move) => a.length = n) (fun n a => ⟨SS [(0, .int .i64 h), (1, .int .i64 q), (2, .sl 2 (l.map eUpdate)), (7, .ref [13] 0 a.length), (8, .int .i64 n)], HS [([13], ⟨false, 99, 3, a.map eMove⟩)]⟩)
    (fun r n a => (.exit 0, ⟨SS [(0, .int .i64 h), (1, .int .i64 q), (2, .sl 2 (l.map eUpdate)), (7, .ref [13] 0 (a ++ jmF h r n).length)], HS [([13], ⟨false, 99, 3, (a ++ jmF h r n).map eMove⟩)]⟩)) [] rfl ?_ ?_ ?_ ?_ ?_
  · simp [go_sem]
  · intro R n a u r hn hx hd' hI hR
    have hu : u ∈ l := by rw [← hx hn]; exact List.getElem_mem hn
    have hx := hx hn
    have e4 := l07Encode_E u (hd u hu)
    simp only [eUpdate] at e4
    have := hR (a ++ [⟨1, 39 + 6 * h + 1 + n, updT u⟩]) (by simp [hI]) (by simp [jmF])
    simp [go_sem, eMove] at this
    simp [go_sem, hn, hx, eUpdate, e1, e4, show a.length + 1 ≤ 1073741824 by omega, wrap_id (n := (n : Int) + 1) (by omega), wrap_id (n := 39 + 6 * h + 1) (by omega), wrap_id (n := 39 + 6 * h + 1 + (n : Int)) (by omega)]
    exact this
  · intro a hI; simp [go_sem, jmF]
  · intro _; simp
  · have hj := jmF_length h l 0
    generalize applyF h q l = ap at *
    generalize jmF h l 0 = jm at *
    simp [go_sem, e2, e3, eMove, show jm.length + 1 ≤ 1073741824 by omega, show jm.length + 1 + 1 ≤ 1073741824 by omega, show jm.length + 1 + 1 + 1 ≤ 1073741824 by omega, show jm.length + 1 + 1 + 1 + ap.length ≤ 1073741824 by omega]
    try omega
def planV (h q : Int) (l : List Update) : AV := if l = [] then .nil else .sl 3 ((planF h q l).map eMove)
theorem journal_nil (h q : Int) : E CX 67 [.int .i64 h, .int .i64 q, .sl 2 []] [] = some { val := .nil } := by
  refine E_fin Try.f67 _ an67 rfl rfl rfl Try.func67 rfl (by kernel_rfl) ?_
  simp [go_sem]
theorem journalPlan_E (h q : Int) (l : List Update) (hh : inn h 0 3 = true) (hq : isNum q = true) (h5 : l.length ≤ 5) (hok : l.all updOK = true) : E CX 15 [.int .i64 h, .int .i64 q, .sl 2 (l.map eUpdate)] [] = some { val := .tuple [planV h q l, .int .i64 0] } := by
  have e1 := isLongUpdate_E l
  have e2 := isHost_E h
  have e3 := isNumber_E q
  have e4 := allUpdate_E 66 l updOK rfl (by omega) updateOK_E
  have e5 := first_E [(false, 2), (false, 4), (false, 6), (false, 1)] (by simp)
  simp [firstP, anys] at e5
  have hd : ∀ u ∈ l, u.data.length ≤ 1000000 := by
    intro u hu
    have := List.all_eq_true.1 hok u hu
    simp [updOK] at this
    omega
  have hh' : 0 ≤ h ∧ h ≤ 3 := by simpa [inn] using hh
  rw [hh] at e2; rw [hq] at e3; rw [hok] at e4
  refine E_fin Try.f15 _ an15 rfl rfl rfl Try.func15 rfl (by kernel_rfl) ?_
  unfold planV
  by_cases hne : l = []
  · subst hne
    have e6 := journal_nil h q
    simp at e1 e4
    simp [go_sem, e1, e2, e3, e4, e5, e6]
  · have e6 := journal_E h q l (by omega) (by omega) hne hd
    rw [show decide (4096 < l.length) = false by simp; omega] at e1
    generalize planF h q l = p at *
    simp [go_sem, e1, e2, e3, e4, e5, e6, hne, show ¬ (5 : Int) < l.length by omega]
theorem l02Int_E' (q : Int) : E CX 69 [.int .i64 q] [] = some { val := .bool (isNum q) } := by
  refine E_fin Try.f69 _ an69 rfl rfl rfl Try.func69 rfl (by kernel_rfl) ?_
  simp [go_sem, l01In_E, isNum]
theorem sJournalPlan_E (h q : Int) (l : List Update) (hh : inn h 0 3 = true) (hq : isNum q = true) (h5 : l.length ≤ 5) (hok : l.all updOK = true) : E CX 16 [.int .i64 h, .int .i64 q, .sl 2 (l.map eUpdate)] [] = some { val := .tuple [.sl 3 ((planF h q l).map eMove), .int .i64 0] } := by
  have e2 := l04Host_E h
  have e3 := l02Int_E' q
  have e4 := l07Updates_E l (by omega)
  have hd : ∀ u ∈ l, u.data.length ≤ 1000000 := by
    intro u hu
    have := List.all_eq_true.1 hok u hu
    simp [updOK] at this
    omega
  have hh' : 0 ≤ h ∧ h ≤ 3 := by simpa [inn] using hh
  have e6 := l07Plan_E h q l (by omega) (by omega) hd
  rw [hh] at e2; rw [hq] at e3; rw [hok, if_neg (by omega)] at e4
  simp at e4
  refine E_fin Try.f16 _ an16 rfl rfl rfl Try.func16 rfl (by kernel_rfl) ?_
  generalize planF h q l = p at *
  simp [go_sem, e2, e3, e4, e6, show ¬ (4096 : Int) < l.length by omega]
end Go.Proofs.Ytccoeoppjcegnaa

namespace Go.Proofs.Ytccoeoppjcegnaa
open Go
set_option maxRecDepth 100000
set_option linter.unusedSimpArgs false
set_option linter.unusedVariables false
/-! Records read back. -/
theorem byteOf_small {k : Int} (h : 0 ≤ k ∧ k < 256) : ((byteOf k).toNat : Int) = k := by rw [byteOf_nat]; omega
theorem numOf_four {n : Int} (h : 0 ≤ n ∧ n ≤ 2147483647) : numOf (byteOf n) (byteOf (n / 256)) (byteOf (n / 65536)) (byteOf (n / 16777216)) = n := by
  unfold numOf
  rw [byteOf_nat, byteOf_nat, byteOf_nat, byteOf_nat]
  omega
theorem nums_pack : ∀ l : List Int, l.all isNum = true → nums (packF l) = l := by
  intro l
  induction l with
  | nil => intro _; rfl
  | cons n l ih =>
    intro h
    simp only [List.all_cons, Bool.and_eq_true] at h
    have hn : 0 ≤ n ∧ n ≤ 2147483647 := by simpa [isNum, inn] using h.1
    simp [packF, four, nums, numOf_four hn, ih h.2]
theorem open_seal {k : Int} {l : List Int} (hk : inn k 1 9 = true) (hl : intsOK l = true) : openF (sealF k l) k = some l := by
  have hk' : 1 ≤ k ∧ k ≤ 9 := by simpa [inn] using hk
  have hl' := hl
  simp only [intsOK, Bool.and_eq_true] at hl'
  have hd : (sealF k l).drop 4 = packF l := by simp [sealF]
  have hn := nums_pack l hl'.2
  have hlen : (sealF k l).length = 4 + 4 * l.length := by simp [sealF, packF_length]; omega
  unfold openF
  rw [hd, hn, if_pos]
  refine ⟨by omega, ?_, hk, by omega, hl, rfl⟩
  have : (sealF k l).getD 0 0 = byteOf k := by simp [sealF]
  rw [this]
  exact byteOf_small (by omega)
/-! Writes that land. -/
def landW (ss : List Tx) (x : Io) : List Tx := ss.set x.at_.toNat x.data
def wr (ss : List Tx) (m : Move) : List Tx := if m.kind = 2 then ss else ss.set m.at_.toNat m.data
theorem landL_every (h : Int) : ∀ (ps : List Io) (k : Int) (ss : List Tx), (∀ x ∈ ps, x.host = h) → (ps.length : Int) ≤ k → (landL h false ps k ss).1 = [] ∧ (landL h false ps k ss).2.2 = ps.foldl landW ss := by
  intro ps
  induction ps with
  | nil => intro k ss _ _; exact ⟨rfl, rfl⟩
  | cons x ps ih =>
    intro k ss hx hk
    have h1 : x.host = h := hx x (by simp)
    simp only [List.length_cons] at hk
    have h2 : 0 < k := by omega
    have g : goes h k false x = true := by simp [goes, h1, h2]
    obtain ⟨i1, i2⟩ := ih (kOf h k x) (sOf h k ss x) (fun y hy => hx y (by simp [hy])) (by simp [kOf, h1, h2]; omega)
    unfold landL
    rw [if_pos g]
    refine ⟨i1, ?_⟩
    rw [i2]
    simp [sOf, h1, h2, landW]
theorem moves_flat (h : Int) : ∀ (l : List Move) (d : Disk) (tl : List Io), (∀ x ∈ d.ps, x.host = h) → d.ps.length + l.length ≤ 400 →
    (∀ x ∈ (l.foldl (mvT h) (d, tl)).1.ps, x.host = h) ∧ (l.foldl (mvT h) (d, tl)).1.ps.length ≤ d.ps.length + l.length ∧ (l.foldl (mvT h) (d, tl)).1.ps.foldl landW (l.foldl (mvT h) (d, tl)).1.ss = l.foldl wr (d.ps.foldl landW d.ss) := by
  intro l
  induction l with
  | nil => intro d tl hx _; exact ⟨hx, by simp, rfl⟩
  | cons m l ih =>
    intro d tl hx hl
    simp only [List.length_cons] at hl
    simp only [List.foldl_cons]
    by_cases hm : m.kind = 2
    · obtain ⟨q1, q2⟩ := landL_every h d.ps 400 d.ss hx (by omega)
      have e : mvT h (d, tl) m = (⟨d.ps.foldl landW d.ss, []⟩, (mvT h (d, tl) m).2) := by
        unfold mvT
        rw [if_pos hm]
        simp [settleD, q1, q2]
      rw [e]
      obtain ⟨i1, i2, i3⟩ := ih ⟨d.ps.foldl landW d.ss, []⟩ (mvT h (d, tl) m).2 (by simp) (by simp; omega)
      refine ⟨i1, Nat.le_trans i2 (by simp; omega), ?_⟩
      rw [i3]
      simp [wr, hm]
    · have e : mvT h (d, tl) m = (⟨d.ss, d.ps ++ [⟨h, m.at_, m.data⟩]⟩, (mvT h (d, tl) m).2) := by
        unfold mvT
        rw [if_neg hm]
      rw [e]
      obtain ⟨i1, i2, i3⟩ := ih ⟨d.ss, d.ps ++ [⟨h, m.at_, m.data⟩]⟩ (mvT h (d, tl) m).2 (by
        intro x hx'
        simp only [List.mem_append, List.mem_singleton] at hx'
        rcases hx' with hx' | rfl
        · exact hx x hx'
        · rfl) (by simp; omega)
      refine ⟨i1, Nat.le_trans i2 (by simp; omega), ?_⟩
      rw [i3]
      simp [wr, hm, landW, List.foldl_append]
/-- Moves that end with a flush leave nothing unsure. -/
theorem moves_end (h : Int) (l : List Move) (ss : List Tx) (hl : l.length ≤ 300) : ((l ++ ([⟨2, 0, []⟩] : List Move)).foldl (mvT h) (⟨ss, []⟩, [])).1 = ⟨l.foldl wr ss, []⟩ := by
  rw [List.foldl_append]
  obtain ⟨i1, i2, i3⟩ := moves_flat h l ⟨ss, []⟩ [] (by simp) (by simp; omega)
  simp only [List.length_nil, Nat.zero_add] at i2
  generalize l.foldl (mvT h) (⟨ss, []⟩, []) = r at *
  obtain ⟨q1, q2⟩ := landL_every h r.1.ps 400 r.1.ss i1 (by omega)
  simp only [List.foldl_cons, List.foldl_nil, mvT, if_true, settleD, q1, q2, i3]
/-! The first sectors. -/
def setU (ss : List Tx) (u : Update) : List Tx := ss.set u.at_.toNat u.data
theorem wr_length : ∀ (l : List Move) (ss : List Tx), (l.foldl wr ss).length = ss.length := by
  intro l
  induction l with
  | nil => intro ss; rfl
  | cons m l ih => intro ss; simp only [List.foldl_cons, ih]; unfold wr; split <;> simp
theorem wr_small : ∀ (l : List Move) (ss : List Tx), (∀ m ∈ l, m.data.length ≤ 80) → (∀ s ∈ ss, s.length ≤ 80) → ∀ s ∈ l.foldl wr ss, s.length ≤ 80 := by
  intro l
  induction l with
  | nil => intro ss _ h; exact h
  | cons m l ih =>
    intro ss hm hs
    refine ih _ (fun x hx => hm x (by simp [hx])) ?_
    intro s h
    unfold wr at h
    split at h
    · exact hs s h
    · rcases List.mem_or_eq_of_mem_set h with h | rfl
      · exact hs s h
      · exact hm m (by simp)
theorem wr_far : ∀ (l : List Move) (ss : List Tx), (∀ m ∈ l, m.kind = 2 ∨ 39 ≤ m.at_) → (l.foldl wr ss).take 39 = ss.take 39 := by
  intro l
  induction l with
  | nil => intro ss _; rfl
  | cons m l ih =>
    intro ss h
    simp only [List.foldl_cons]
    rw [ih _ fun x hx => h x (by simp [hx])]
    unfold wr
    split
    · rfl
    · rename_i hk
      have := (h m (by simp)).resolve_left hk
      rw [List.take_set_of_le (by omega)]
theorem setU_take : ∀ (l : List Update) (ss ss' : List Tx), ss.take 39 = ss'.take 39 → (l.foldl setU ss).take 39 = (l.foldl setU ss').take 39 := by
  intro l
  induction l with
  | nil => intro ss ss' h; exact h
  | cons u l ih =>
    intro ss ss' h
    refine ih _ _ ?_
    simp only [setU, List.take_set, h]
theorem wr_upd : ∀ (l : List Update) (ss : List Tx), (l.map mvU).foldl wr ss = l.foldl setU ss := by
  intro l
  induction l with
  | nil => intro ss; rfl
  | cons u l ih => intro ss; simp only [List.map_cons, List.foldl_cons, ih]; rfl
def flushM : Move := ⟨2, 0, []⟩
def plan0 (h q : Int) (l : List Update) : List Move := (jmF h l 0 ++ [⟨2, 0, []⟩, ⟨1, 39 + 6 * h, sealF 7 [(l.length : Int), q]⟩, ⟨2, 0, []⟩]) ++ (l.map mvU ++ [⟨2, 0, []⟩, ⟨1, 39 + 6 * h, sealF 7 [0, q]⟩])
theorem planF_eq (h q : Int) (l : List Update) (hne : l ≠ []) : planF h q l = plan0 h q l ++ ([⟨2, 0, []⟩] : List Move) := by
  simp [planF, hne, plan0, applyF]
theorem jmF_at (h : Int) (hh : 0 ≤ h) : ∀ (l : List Update) (i : Nat), ∀ m ∈ jmF h l i, m.kind = 1 ∧ 39 ≤ m.at_ := by
  intro l
  induction l with
  | nil => intro i m hm; cases hm
  | cons u l ih =>
    intro i m hm
    simp only [jmF, List.mem_cons] at hm
    rcases hm with rfl | hm
    · exact ⟨rfl, by simp only; omega⟩
    · exact ih _ m hm
theorem plan_take (h q : Int) (l : List Update) (ss : List Tx) (hh : 0 ≤ h) : ((plan0 h q l).foldl wr ss).take 39 = (l.foldl setU ss).take 39 := by
  unfold plan0
  rw [List.foldl_append, List.foldl_append (l := l.map mvU)]
  rw [wr_far ([⟨2, 0, []⟩, ⟨1, 39 + 6 * h, sealF 7 [0, q]⟩] : List Move) _ (by
    intro m hm
    simp only [List.mem_cons, List.mem_nil_iff, or_false] at hm
    rcases hm with rfl | rfl
    · exact .inl rfl
    · exact .inr (by simp only; omega))]
  rw [wr_upd]
  refine setU_take l _ _ (wr_far _ _ ?_)
  intro m hm
  simp only [List.mem_append, List.mem_cons, List.mem_nil_iff, or_false] at hm
  rcases hm with hm | rfl | rfl | rfl
  · exact .inr (jmF_at h hh l 0 m hm).2
  · exact .inl rfl
  · exact .inr (by simp only; omega)
  · exact .inl rfl
theorem plan_head (h q : Int) (l : List Update) (ss : List Tx) (hh : 0 ≤ h ∧ h ≤ 3) (hs : ss.length = 64) : ((plan0 h q l).foldl wr ss).getD (39 + 6 * h).toNat [] = sealF 7 [0, q] := by
  unfold plan0
  rw [List.foldl_append, List.foldl_append (l := l.map mvU)]
  have hlen := (wr_length (l.map mvU) ((jmF h l 0 ++ ([⟨2, 0, []⟩, ⟨1, 39 + 6 * h, sealF 7 [(l.length : Int), q]⟩, ⟨2, 0, []⟩] : List Move)).foldl wr ss)).trans ((wr_length _ _).trans hs)
  generalize (l.map mvU).foldl wr ((jmF h l 0 ++ ([⟨2, 0, []⟩, ⟨1, 39 + 6 * h, sealF 7 [(l.length : Int), q]⟩, ⟨2, 0, []⟩] : List Move)).foldl wr ss) = r at *
  have hlt : (39 + 6 * h).toNat < r.length := by omega
  simp [wr, hlt]
end Go.Proofs.Ytccoeoppjcegnaa
