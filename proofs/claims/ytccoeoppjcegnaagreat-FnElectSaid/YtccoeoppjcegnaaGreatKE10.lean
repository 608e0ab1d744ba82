/- A reading of the loaded code over plain data, its soundness, and what functions answer by it (part 10; joined by program). No condition. -/
import Derived.Test.YtccoeoppjcegnaaGreatKE9
import Derived.WalkKit
import Derived.Lib.Walk
import Derived.Lib.SliceRun
set_option linter.all false
namespace Go.Proofs.YtccoeoppjcegnaaGreat
open Go Go.Lib
set_option maxRecDepth 100000
theorem clonestring_nil (n c : Nat) (w : World) : Calls Tryz.prog 75 #[.slice none n c] w fun e w' => e = .returned (.slice none 0 0) ∧ w' = w := by
  have t29 : Tryz.prog.underlying 23 = some (.slice 9) := by kernel_rfl
  have q29 : ∀ (w : World) (a : Option Addr) (n c n' c' : Nat), (binOp .eql 23 (.slice a n c) (.slice none n' c')).run Tryz.prog w = .ok (.bool a.isNone) w := fun w a n c n' c' => Lib.run_eql_slice_nil w _ _ a n c n' c' t29
  go_enter Tryz.func75, (rfl : Tryz.f75.ntmps = 8)
  go_wp2
  go_ret
  exact ⟨rfl, rfl⟩
theorem clonestring_none (a : Addr) (c : Nat) (w : World) : Calls Tryz.prog 75 #[.slice (some a) 0 c] w fun e w' => ∃ b, e = .returned (.slice b 0 0) ∧ Ext (fun _ => False) w w' := by
  have t29 : Tryz.prog.underlying 23 = some (.slice 9) := by kernel_rfl
  have q29 : ∀ (w : World) (a : Option Addr) (n c n' c' : Nat), (binOp .eql 23 (.slice a n c) (.slice none n' c')).run Tryz.prog w = .ok (.bool a.isNone) w := fun w a n c n' c' => Lib.run_eql_slice_nil w _ _ a n c n' c' t29
  go_enter Tryz.func75, (rfl : Tryz.f75.ntmps = 8)
  go_wp2
  go_ret
  refine ⟨some ⟨w.heap.size, 0, none⟩, ?_, push_ext _ w (.cells #[] 9)⟩
  simp
theorem clonestring_sound (m : Nat) : Sound Tryz.prog 75 [.sl m []] [] { val := .ref [0, 0, 0, 0] 0 0, own := [⟨false, 9, 1, []⟩] } := by
  refine ⟨⟨_, Tryz.func75, by decide, rfl⟩, fun w ι vals hl I hr _ _ _ _ => ?_⟩
  obtain ⟨x, rfl⟩ : ∃ x, vals = #[x] := ⟨vals.getD 0 undef, arr1 hl.symm undef⟩
  have h0 := hr 0 (by simp)
  simp at h0
  have left : ∀ w' b, Ext (fun _ => False) w w' → Left1 ι [] { val := .ref [0, 0, 0, 0] 0 0, own := [⟨false, 9, 1, []⟩] } w w' (.slice b 0 0) noMap := by
    intro w' b hx
    exact ⟨hx.mono fun _ _ h => h.elim, rfl, fun k hk => by simp at hk, fun k hk => by simp at hk; subst hk; exact .inl ⟨rfl, rfl, rfl⟩, (by intro _ _ _ _ _ h; cases h), (by intro _ _ _ h; cases h), .refE _ _ _⟩
  cases h0 with
  | slE m a cap =>
    cases a with
    | none => exact (clonestring_nil 0 cap w).mono fun e w' h => by obtain ⟨h1, h2⟩ := h; subst h2; exact ⟨_, _, h1, left _ none (Ext.refl _ _)⟩
    | some a => exact (clonestring_none a cap w).mono fun e w' h => by obtain ⟨b, h1, h2⟩ := h; exact ⟨_, _, h1, left w' b h2⟩
  | sl _ hn => exact absurd rfl hn
theorem cloneIo_nil (n c : Nat) (w : World) : Calls Tryz.prog 76 #[.slice none n c] w fun e w' => e = .returned (.slice none 0 0) ∧ w' = w := by
  have t29 : Tryz.prog.underlying 24 = some (.slice 78) := by kernel_rfl
  have q29 : ∀ (w : World) (a : Option Addr) (n c n' c' : Nat), (binOp .eql 24 (.slice a n c) (.slice none n' c')).run Tryz.prog w = .ok (.bool a.isNone) w := fun w a n c n' c' => Lib.run_eql_slice_nil w _ _ a n c n' c' t29
  go_enter Tryz.func76, (rfl : Tryz.f76.ntmps = 8)
  go_wp2
  go_ret
  exact ⟨rfl, rfl⟩
theorem cloneIo_none (a : Addr) (c : Nat) (w : World) : Calls Tryz.prog 76 #[.slice (some a) 0 c] w fun e w' => ∃ b, e = .returned (.slice b 0 0) ∧ Ext (fun _ => False) w w' := by
  have t29 : Tryz.prog.underlying 24 = some (.slice 78) := by kernel_rfl
  have q29 : ∀ (w : World) (a : Option Addr) (n c n' c' : Nat), (binOp .eql 24 (.slice a n c) (.slice none n' c')).run Tryz.prog w = .ok (.bool a.isNone) w := fun w a n c n' c' => Lib.run_eql_slice_nil w _ _ a n c n' c' t29
  go_enter Tryz.func76, (rfl : Tryz.f76.ntmps = 8)
  go_wp2
  go_ret
  refine ⟨some ⟨w.heap.size, 0, none⟩, ?_, push_ext _ w (.cells #[] 78)⟩
  simp
theorem cloneIo_sound (m : Nat) : Sound Tryz.prog 76 [.sl m []] [] { val := .ref [0, 0, 0, 0] 0 0, own := [⟨false, 78, 3, []⟩] } := by
  refine ⟨⟨_, Tryz.func76, by decide, rfl⟩, fun w ι vals hl I hr _ _ _ _ => ?_⟩
  obtain ⟨x, rfl⟩ : ∃ x, vals = #[x] := ⟨vals.getD 0 undef, arr1 hl.symm undef⟩
  have h0 := hr 0 (by simp)
  simp at h0
  have left : ∀ w' b, Ext (fun _ => False) w w' → Left1 ι [] { val := .ref [0, 0, 0, 0] 0 0, own := [⟨false, 78, 3, []⟩] } w w' (.slice b 0 0) noMap := by
    intro w' b hx
    exact ⟨hx.mono fun _ _ h => h.elim, rfl, fun k hk => by simp at hk, fun k hk => by simp at hk; subst hk; exact .inl ⟨rfl, rfl, rfl⟩, (by intro _ _ _ _ _ h; cases h), (by intro _ _ _ h; cases h), .refE _ _ _⟩
  cases h0 with
  | slE m a cap =>
    cases a with
    | none => exact (cloneIo_nil 0 cap w).mono fun e w' h => by obtain ⟨h1, h2⟩ := h; subst h2; exact ⟨_, _, h1, left _ none (Ext.refl _ _)⟩
    | some a => exact (cloneIo_none a cap w).mono fun e w' h => by obtain ⟨b, h1, h2⟩ := h; exact ⟨_, _, h1, left w' b h2⟩
  | sl _ hn => exact absurd rfl hn
theorem X0_sound {f : FuncId} {args : List AV} {H : List (Id × Blk)} {r : Res} (h : X0 f args H = some r) : Sound Tryz.prog f args H r := by
  unfold X0 at h
  split at h
  · rename_i hf
    subst hf
    split at h
    · obtain ⟨ss, ps, x, a, hr, rfl⟩ := readX_some h
      exact read_sound hr
    · cases h
  split at h
  · rename_i m
    unfold cloneOf at h
    split at h
    · rename_i hf; subst hf; simp at h; subst h; exact clonestring_sound m
    split at h
    · rename_i hf; subst hf; simp at h; subst h; exact cloneIo_sound m
    simp at h
  · cases h
theorem follows_mixed : Tryz.prog.follows .mixedOrders = true := by kernel_rfl
theorem calls_of {f : FuncId} {args : List AV} {b : Bool} {io own : List Blk} (h : E CX f args [] = some { val := .bool b, io := io, own := own }) {w : World} {vals : Array Value} (hl : args.length = vals.size)
    (hargs : ∀ i, i < args.length → Rep w (fun _ => False) noMap (args.getD i .dead) (vals.getD i undef)) : Calls Tryz.prog f vals w fun e w' => e = .returned (.bool b) ∧ Ext (fun _ => False) w w' :=
  E_calls (C := CX) follows_mixed (fun _ _ _ _ _ h => X0_sound h) h hl hargs
end Go.Proofs.YtccoeoppjcegnaaGreat


namespace Go.Proofs.YtccoeoppjcegnaaGreat
open Go
set_option linter.unusedSimpArgs false
set_option linter.unusedVariables false
def byteOf (n : Int) : UInt8 := UInt8.ofNat (n % 256).toNat
theorem byteOf_nat (n : Int) : ((byteOf n).toNat : Int) = n % 256 := by
  unfold byteOf
  rw [UInt8.toNat_ofNat']
  omega
theorem wrap_u8 (n : Int) : IntKind.u8.wrap n = ((byteOf n).toNat : Int) := by
  rw [byteOf_nat, IntKind.wrap_u8]
theorem wrap_byte (b : UInt8) : IntKind.i64.wrap ((b.toNat : Nat) : Int) = (b.toNat : Int) := wrap_id (by have := b.toNat_lt; omega)
def eByte (b : UInt8) : AV := .int .u8 (b.toNat : Int)
theorem bytesOf_map : ∀ l : List UInt8, bytesOf (l.map eByte) = some l := by
  intro l
  induction l with
  | nil => rfl
  | cons b l ih =>
    have h := b.toNat_lt
    simp only [List.map_cons, eByte, bytesOf]
    rw [if_pos (by omega), ih]
    simp
theorem sharesL_eByte (l : List UInt8) : AV.sharesL (l.map eByte) = false := sharesL_map (fun _ => rfl) l
theorem byte_lt (b : UInt8) : ((b.toNat : Nat) : Int) < 256 := by have := b.toNat_lt; omega
attribute [go_sem] wrap_u8 wrap_byte byte_lt bytesOf_map sharesL_eByte
/-- Four bytes of a number, the lowest first. -/
def four (n : Int) : List UInt8 := [byteOf n, byteOf (n / 256), byteOf (n / 65536), byteOf (n / 16777216)]
def packF : List Int → Tx
  | [] => []
  | n :: l => four n ++ packF l
def numOf (a b c d : UInt8) : Int := a.toNat + 256 * b.toNat + 65536 * c.toNat + 16777216 * d.toNat
def nums : Tx → List Int
  | a :: b :: c :: d :: t => numOf a b c d :: nums t
  | _ => []
def sumF : Tx → Int → Int → Int
  | [], _, n => n
  | b :: t, i, n => sumF t (i + 1) ((n + i * ((b.toNat : Int) + 1)).tmod 251)
def isNum (n : Int) : Bool := inn n 0 2147483647
def sealF (kind : Int) (l : List Int) : Tx :=
  [byteOf kind, byteOf l.length] ++ ([byteOf (sumF ([byteOf kind, byteOf l.length] ++ packF l) 1 0), 0] ++ packF l)
def intsOK (l : List Int) : Bool := decide (l.length ≤ 16) && l.all isNum
/-- The numbers of a record of a kind. -/
def openF (t : Tx) (kind : Int) : Option (List Int) :=
  if 4 ≤ t.length ∧ ((t.getD 0 0).toNat : Int) = kind ∧ inn kind 1 9 = true ∧ t.length % 4 = 0 ∧ intsOK (nums (t.drop 4)) = true ∧ sealF kind (nums (t.drop 4)) = t then some (nums (t.drop 4)) else none
theorem packF_length : ∀ l, (packF l).length = 4 * l.length := by
  intro l
  induction l with
  | nil => rfl
  | cons n l ih => simp only [packF, List.length_append, ih, four, List.length_cons, List.length_nil]; omega
theorem sumF_range : ∀ (t : Tx) (i n : Int), 0 ≤ i → 0 ≤ n → n < 251 → 0 ≤ sumF t i n ∧ sumF t i n < 251 := by
  intro t
  induction t with
  | nil => intro i n _ h1 h2; exact ⟨h1, h2⟩
  | cons b t ih =>
    intro i n h0 h1 h2
    have hp : 0 ≤ i * ((b.toNat : Int) + 1) := Int.mul_nonneg h0 (by omega)
    refine ih _ _ (by omega) ?_ ?_
    · rw [Int.tmod_eq_emod_of_nonneg (by omega)]; omega
    · rw [Int.tmod_eq_emod_of_nonneg (by omega)]; omega
theorem nums_length : ∀ (n : Nat) (t : Tx), t.length = n → (nums t).length = n / 4 := by
  intro n
  induction n using Nat.strongRecOn with
  | ind n ih =>
    intro t ht
    match t, ht with
    | a :: b :: c :: d :: t, ht =>
      simp only [List.length_cons] at ht
      simp only [nums, List.length_cons]
      rw [ih t.length (by omega) t rfl]
      omega
    | [], ht => simp only [List.length_nil] at ht; subst ht; rfl
    | [a], ht => simp only [List.length_cons, List.length_nil] at ht; subst ht; rfl
    | [a, b], ht => simp only [List.length_cons, List.length_nil] at ht; subst ht; rfl
    | [a, b, c], ht => simp only [List.length_cons, List.length_nil] at ht; subst ht; rfl
theorem numOf_range (a b c d : UInt8) : 0 ≤ numOf a b c d ∧ numOf a b c d < 4294967296 := by
  have h1 := a.toNat_lt; have h2 := b.toNat_lt; have h3 := c.toNat_lt; have h4 := d.toNat_lt
  unfold numOf; omega
end Go.Proofs.YtccoeoppjcegnaaGreat

namespace Go.Proofs.YtccoeoppjcegnaaGreat
open Go
set_option maxRecDepth 100000
set_option linter.unusedSimpArgs false
set_option linter.unusedVariables false
theorem firstAt_le {α : Type} (q : α → Bool) : ∀ (l : List α) (n : Nat), match firstAt q l n with
    | some k => l.any q = true
    | none => l.any q = false := by
  intro l
  induction l with
  | nil => intro n; simp [firstAt]
  | cons x l ih =>
    intro n
    unfold firstAt
    cases hq : q x
    · have := ih (n + 1)
      simp only [Bool.false_eq_true, if_false]
      cases hf : firstAt q l (n + 1) <;> rw [hf] at this <;> simp [hq] <;> simpa using this
    · simp [hq]
theorem any_not {α : Type} (q : α → Bool) (l : List α) : (l.any fun x => !q x) = !l.all q := by
  induction l with
  | nil => rfl
  | cons x l ih => simp only [List.any_cons, List.all_cons, ih]; cases q x <;> simp
theorem idx_any {α : Type} (q : α → Bool) (l : List α) : decide (0 ≤ idxOf (firstAt q l 0)) = l.any q := by
  have := firstAt_le q l 0
  cases hf : firstAt q l 0 with
  | none => rw [hf] at this; simp only at this; rw [this]; simp [idxOf]
  | some k => rw [hf] at this; simp only at this; rw [this]; simp [idxOf]
theorem notString_E (f : FuncId) (x : Tx) (b : Bool) (hio : (annA f).io = []) (hf : E CX f [AV.str x] [] = some { val := .bool b }) : E CX 122 [AV.str x, .rptr [.fn f []]] [] = some { val := .bool (!b) } := by
  refine E_fin Tryz.f122 _ an122 rfl rfl rfl Tryz.func122 rfl (by kernel_rfl) ?_
  simp [go_sem, hf, hio]
theorem indexFuncString_E (g : FuncId) (cap : List AV) (l : List Tx) (q : Tx → Bool) (hio : (annA g).io = []) (hl : l.length ≤ 1073741824) (hf : ∀ x, E CX g [AV.str x, .rptr cap] [] = some { val := .bool (q x) }) : E CX 130 [.sl 1 (l.map AV.str), .fn g [.rptr cap]] [] = some { val := .int .i64 (idxOf (firstAt q l 0)) } := by
  refine E_fin Tryz.f130 _ an130 rfl rfl rfl Tryz.func130 rfl (by kernel_rfl) ?_
  simp [go_sem]
  refine loop_list (fun X => fin CX _ _ X = _) l (fun n _ => True) (fun n (_ : Unit) => ⟨SS [(0, .sl 1 (l.map AV.str)), (1, .fn g [.rptr cap]), (7, .int .i64 l.length), (8, .int .i64 n)], HE⟩)
     (fun r n _ => match firstAt q r n with
    | some k => (.ret, ⟨SS [(4, .int .i64 k)], HE⟩)
    | none => (.exit 0, ⟨SS [], HE⟩)) () trivial ?_ ?_ ?_ ?_ ?_
  · simp [go_sem]
  · intro n _ x t hn hx hd _
    have hx := hx hn
    have hE := hf x
    cases hq : q x
    · rw [hq] at hE
      simp [go_sem, firstAt, hq, hio, hE, hn, hx, wrap_id (n := (n : Int) + 1) (by omega)]
    · rw [hq] at hE
      simp [go_sem, firstAt, hq, hio, hE, hn, hx]
  · intro _ _; simp [go_sem, firstAt]
  · intro _; simp [firstAt]
  · cases hr : firstAt q l 0 <;> simp [go_sem, hr, idxOf]
theorem containsFuncString_E (g : FuncId) (cap : List AV) (l : List Tx) (q : Tx → Bool) (hio : (annA g).io = []) (hl : l.length ≤ 1073741824) (hf : ∀ x, E CX g [AV.str x, .rptr cap] [] = some { val := .bool (q x) }) : E CX 121 [.sl 1 (l.map AV.str), .fn g [.rptr cap]] [] = some { val := .bool (l.any q) } := by
  refine E_fin Tryz.f121 _ an121 rfl rfl rfl Tryz.func121 rfl (by kernel_rfl) ?_
  simp [go_sem, indexFuncString_E g cap l q hio hl hf, idx_any]
theorem allString_E (f : FuncId) (l : List Tx) (q : Tx → Bool) (hio : (annA f).io = []) (hl : l.length ≤ 1073741824) (hf : ∀ x, E CX f [AV.str x] [] = some { val := .bool (q x) }) : E CX 97 [.sl 1 (l.map AV.str), .fn f []] [] = some { val := .bool (l.all q) } := by
  refine E_fin Tryz.f97 _ an97 rfl rfl rfl Tryz.func97 rfl (by kernel_rfl) ?_
  have h := containsFuncString_E 122 [.fn f []] l (fun x => !q x) rfl hl (fun x => notString_E f x (q x) hio (hf x))
  rw [any_not] at h
  simp [go_sem, h]
theorem notIo_E (f : FuncId) (x : Io) (b : Bool) (hio : (annA f).io = []) (hf : E CX f [eIo x] [] = some { val := .bool b }) : E CX 124 [eIo x, .rptr [.fn f []]] [] = some { val := .bool (!b) } := by
  refine E_fin Tryz.f124 _ an124 rfl rfl rfl Tryz.func124 rfl (by kernel_rfl) ?_
  simp only [eIo] at hf
  simp [go_sem, hf, hio, eIo]
theorem indexFuncIo_E (g : FuncId) (cap : List AV) (l : List Io) (q : Io → Bool) (hio : (annA g).io = []) (hl : l.length ≤ 1073741824) (hf : ∀ x, E CX g [eIo x, .rptr cap] [] = some { val := .bool (q x) }) : E CX 127 [.sl 3 (l.map eIo), .fn g [.rptr cap]] [] = some { val := .int .i64 (idxOf (firstAt q l 0)) } := by
  refine E_fin Tryz.f127 _ an127 rfl rfl rfl Tryz.func127 rfl (by kernel_rfl) ?_
  simp [go_sem]
  refine loop_list (fun X => fin CX _ _ X = _) l (fun n _ => True) (fun n (_ : Unit) => ⟨SS [(0, .sl 3 (l.map eIo)), (1, .fn g [.rptr cap]), (7, .int .i64 l.length), (8, .int .i64 n)], HE⟩)
     (fun r n _ => match firstAt q r n with
    | some k => (.ret, ⟨SS [(4, .int .i64 k)], HE⟩)
    | none => (.exit 0, ⟨SS [], HE⟩)) () trivial ?_ ?_ ?_ ?_ ?_
  · simp [go_sem]
  · intro n _ x t hn hx hd _
    have hx := hx hn
    have hE := hf x
    simp only [eIo] at hE
    cases hq : q x
    · rw [hq] at hE
      simp [go_sem, firstAt, hq, hio, hE, hn, hx, wrap_id (n := (n : Int) + 1) (by omega), eIo]
    · rw [hq] at hE
      simp [go_sem, firstAt, hq, hio, hE, hn, hx, eIo]
  · intro _ _; simp [go_sem, firstAt]
  · intro _; simp [firstAt]
  · cases hr : firstAt q l 0 <;> simp [go_sem, hr, idxOf]
theorem containsFuncIo_E (g : FuncId) (cap : List AV) (l : List Io) (q : Io → Bool) (hio : (annA g).io = []) (hl : l.length ≤ 1073741824) (hf : ∀ x, E CX g [eIo x, .rptr cap] [] = some { val := .bool (q x) }) : E CX 123 [.sl 3 (l.map eIo), .fn g [.rptr cap]] [] = some { val := .bool (l.any q) } := by
  refine E_fin Tryz.f123 _ an123 rfl rfl rfl Tryz.func123 rfl (by kernel_rfl) ?_
  simp [go_sem, indexFuncIo_E g cap l q hio hl hf, idx_any]
theorem allIo_E (f : FuncId) (l : List Io) (q : Io → Bool) (hio : (annA f).io = []) (hl : l.length ≤ 1073741824) (hf : ∀ x, E CX f [eIo x] [] = some { val := .bool (q x) }) : E CX 99 [.sl 3 (l.map eIo), .fn f []] [] = some { val := .bool (l.all q) } := by
  refine E_fin Tryz.f99 _ an99 rfl rfl rfl Tryz.func99 rfl (by kernel_rfl) ?_
  have h := containsFuncIo_E 124 [.fn f []] l (fun x => !q x) rfl hl (fun x => notIo_E f x (q x) hio (hf x))
  rw [any_not] at h
  simp [go_sem, h]
end Go.Proofs.YtccoeoppjcegnaaGreat

namespace Go.Proofs.YtccoeoppjcegnaaGreat
open Go
set_option maxRecDepth 100000
def vInt (n : Int) : Blk := ⟨true, 3, 1, [.int .i64 n]⟩
def vBool (b : Bool) : Blk := ⟨true, 4, 1, [.bool b]⟩
def vDisk (a b : AV) : Blk := ⟨true, 26, 2, [.agg [a, b]]⟩
def rStr (l : List (List UInt8)) : Blk := ⟨false, 9, 1, l.map .str⟩
theorem settle1_E (x : Io) (h k : Int) (lose : Bool) (ss : List (List UInt8)) (n : Nat) (es : List AV) (ha : 0 ≤ x.at_ ∧ x.at_.toNat < ss.length) (hk : In64 k) :
    E CX 106 [eIo x, .ptr [1] 0 0, .ptr [2] 0 0, .ptr [3] 0 0, .ptr [4] 0 0] [([1], vInt h), ([2], vInt k), ([3], vDisk (.ref [3, 0] 0 ss.length) (.ref [3, 1] 0 n)), ([3, 0], rStr ss), ([3, 1], ⟨false, 78, 3, es⟩), ([4], vBool lose)] =
      some { val := .bool (if x.host = h then (if 0 < k then true else lose) else false), io := [vInt h, vInt (if x.host = h ∧ 0 < k then k - 1 else k), vDisk (.ref [3, 0] 0 ss.length) (.ref [3, 1] 0 n), rStr (if x.host = h ∧ 0 < k then ss.set x.at_.toNat x.data else ss), ⟨false, 78, 3, es⟩, vBool lose] } := by
  refine E_fin Tryz.f106 _ an106 rfl rfl rfl Tryz.func106 rfl (by kernel_rfl) ?_
  obtain ⟨hx, a, d⟩ := x
  obtain ⟨ha1, ha2⟩ := ha
  unfold In64 at hk
  by_cases c1 : hx = h
  · by_cases c2 : 0 < k
    · simp [go_sem, eIo, vInt, vBool, vDisk, rStr, c1, c2, ha1, ha2, wrap_id (n := k - 1) (by omega)]
    · simp [go_sem, eIo, vInt, vBool, vDisk, rStr, c1, c2]
  · simp [go_sem, eIo, vInt, vBool, vDisk, rStr, c1]
def rIo (l : List Io) : Blk := ⟨false, 78, 3, l.map eIo⟩
/-- Does a write go? -/
def goes (h k : Int) (lose : Bool) (x : Io) : Bool := if x.host = h then (if 0 < k then true else lose) else false
def kOf (h k : Int) (x : Io) : Int := if x.host = h ∧ 0 < k then k - 1 else k
def sOf (h k : Int) (ss : List (List UInt8)) (x : Io) : List (List UInt8) := if x.host = h ∧ 0 < k then ss.set x.at_.toNat x.data else ss
theorem settle1_E' (x : Io) (h k : Int) (lose : Bool) (ss : List (List UInt8)) (n m : Nat) (es : List AV) (hm : m = ss.length) (ha : 0 ≤ x.at_ ∧ x.at_.toNat < ss.length) (hk : In64 k) :
    E CX 106 [eIo x, .ptr [1] 0 0, .ptr [2] 0 0, .ptr [3] 0 0, .ptr [4] 0 0] [([1], ⟨true, 3, 1, [.int .i64 h]⟩), ([2], ⟨true, 3, 1, [.int .i64 k]⟩), ([3], ⟨true, 26, 2, [.agg [.ref [3, 0] 0 m, .ref [3, 1] 0 n]]⟩), ([3, 0], ⟨false, 9, 1, ss.map .str⟩), ([3, 1], ⟨false, 78, 3, es⟩), ([4], ⟨true, 4, 1, [.bool lose]⟩)] =
      some { val := .bool (goes h k lose x), io := [⟨true, 3, 1, [.int .i64 h]⟩, ⟨true, 3, 1, [.int .i64 (kOf h k x)]⟩, ⟨true, 26, 2, [.agg [.ref [3, 0] 0 m, .ref [3, 1] 0 n]]⟩, ⟨false, 9, 1, (sOf h k ss x).map .str⟩, ⟨false, 78, 3, es⟩, ⟨true, 4, 1, [.bool lose]⟩] } := by
  subst hm; exact settle1_E x h k lose ss n es ha hk
/-- Where the first one goes, and what it leaves. -/
theorem stay {h k : Int} {lose : Bool} {x : Io} (hg : goes h k lose x = false) : kOf h k x = k ∧ ∀ ss, sOf h k ss x = ss := by
  unfold goes at hg
  unfold kOf sOf
  by_cases c1 : x.host = h
  · by_cases c2 : 0 < k
    · simp [c1, c2] at hg
    · simp [c2]
  · simp [c1]
def after1 (h k : Int) (lose : Bool) (ss : List (List UInt8)) : List Io → Int × List (List UInt8)
  | [] => (k, ss)
  | x :: l => if goes h k lose x then (kOf h k x, sOf h k ss x) else after1 h k lose ss l
theorem idx204_E (ps : List Io) (h k : Int) (lose : Bool) (ss : List (List UInt8)) (hl : ps.length ≤ 1073741824) (hp : ∀ x ∈ ps, 0 ≤ x.at_ ∧ x.at_.toNat < ss.length) (hk : In64 k) :
    E CX 127 [.ref [0] 0 ps.length, .fn 106 [.ptr [1, 0] 0 0, .ptr [1, 1] 0 0, .ptr [1, 2] 0 0, .ptr [1, 3] 0 0]] [([0], ⟨false, 78, 3, ps.map eIo⟩), ([1, 0], ⟨true, 3, 1, [.int .i64 h]⟩), ([1, 1], ⟨true, 3, 1, [.int .i64 k]⟩), ([1, 2], ⟨true, 26, 2, [.agg [.ref [1, 2, 0] 0 ss.length, .ref [0] 0 ps.length]]⟩), ([1, 2, 0], ⟨false, 9, 1, ss.map .str⟩), ([1, 3], ⟨true, 4, 1, [.bool lose]⟩)] =
      some { val := .int .i64 (idxOf (firstAt (goes h k lose) ps 0)), io := [⟨false, 78, 3, ps.map eIo⟩, ⟨true, 3, 1, [.int .i64 h]⟩, ⟨true, 3, 1, [.int .i64 (after1 h k lose ss ps).1]⟩, ⟨true, 26, 2, [.agg [.ref [1, 2, 0] 0 ss.length, .ref [0] 0 ps.length]]⟩, ⟨false, 9, 1, (after1 h k lose ss ps).2.map .str⟩, ⟨true, 4, 1, [.bool lose]⟩] } := by
  refine E_fin Tryz.f127 _ an127 rfl rfl rfl Tryz.func127 rfl (by kernel_rfl) ?_
  simp [go_sem]
  refine loop_at (fun X => fin CX _ _ X = _) (fun n : Nat => n ≤ ps.length) (fun n => ⟨SS [(0, .ref [0] 0 ps.length), (1, .fn 106 [.ptr [1, 0] 0 0, .ptr [1, 1] 0 0, .ptr [1, 2] 0 0, .ptr [1, 3] 0 0]), (7, .int .i64 ps.length), (8, .int .i64 n)],
      HS [([0], ⟨false, 78, 3, ps.map eIo⟩), ([1, 0], ⟨true, 3, 1, [.int .i64 h]⟩), ([1, 1], ⟨true, 3, 1, [.int .i64 k]⟩), ([1, 2], ⟨true, 26, 2, [.agg [.ref [1, 2, 0] 0 ss.length, .ref [0] 0 ps.length]]⟩), ([1, 2, 0], ⟨false, 9, 1, ss.map .str⟩), ([1, 3], ⟨true, 4, 1, [.bool lose]⟩)]⟩)
     (fun n => (match firstAt (goes h k lose) (ps.drop n) n with | some _ => .ret | none => .exit 0, ⟨SS (match firstAt (goes h k lose) (ps.drop n) n with | some k => [(4, .int .i64 k)] | none => []),
      HS [([0], ⟨false, 78, 3, ps.map eIo⟩), ([1, 0], ⟨true, 3, 1, [.int .i64 h]⟩), ([1, 1], ⟨true, 3, 1, [.int .i64 (after1 h k lose ss (ps.drop n)).1]⟩), ([1, 2], ⟨true, 26, 2, [.agg [.ref [1, 2, 0] 0 ss.length, .ref [0] 0 ps.length]]⟩), ([1, 2, 0], ⟨false, 9, 1, (after1 h k lose ss (ps.drop n)).2.map .str⟩), ([1, 3], ⟨true, 4, 1, [.bool lose]⟩)]⟩)) (fun n => ps.length - n) 0 (by omega) ?_ ?_ ?_
  · simp [go_sem]
  · rintro n hn
    by_cases hlt : n < ps.length
    · obtain ⟨x, t, hx, hd, ht⟩ : ∃ x t, ps[n] = x ∧ ps.drop n = x :: t ∧ ps.drop (n + 1) = t := ⟨ps[n], ps.drop (n + 1), rfl, List.drop_eq_getElem_cons hlt, rfl⟩
      have hxp := hp x (by rw [← hx]; exact List.getElem_mem hlt)
      have hE := settle1_E' x h k lose ss ps.length ss.length (ps.map eIo) rfl hxp hk
      cases hq : goes h k lose x
      · obtain ⟨e1, e2⟩ := stay hq
        rw [hq, e1, e2] at hE
        simp only [eIo] at hE
        simp [go_sem, eIo, hd, firstAt, after1, hq, hE, hlt, hx, wrap_id (n := (n : Int) + 1) (by omega)]
        refine ⟨n + 1, by omega, by omega, ?_⟩
        simp [ht]
      · rw [hq] at hE
        simp only [eIo] at hE
        simp [go_sem, eIo, hd, firstAt, after1, hq, hE, hlt, hx]
    · have : ps.drop n = [] := List.drop_eq_nil_of_le (by omega)
      simp [go_sem, this, firstAt, hlt, after1]
  · cases hr : firstAt (goes h k lose) ps 0 <;> simp [go_sem, hr, idxOf]
end Go.Proofs.YtccoeoppjcegnaaGreat

namespace Go.Proofs.YtccoeoppjcegnaaGreat
open Go
set_option maxRecDepth 100000
structure DS where
  i : Nat
  k : Int
  ss : List (List UInt8)
  cur : List Io
def delF (h : Int) (lose : Bool) : List Io → DS → DS
  | [], s => s
  | x :: l, s => delF h lose l (if goes h s.k lose x then { s with k := kOf h s.k x, ss := sOf h s.k s.ss x } else { s with i := s.i + 1, cur := s.cur.set s.i x })
def dHeap (h : Int) (lose : Bool) (m n : Nat) (s : DS) : List (Id × Blk) := [([0], ⟨false, 78, 3, s.cur.map eIo⟩), ([1, 0], ⟨true, 3, 1, [.int .i64 h]⟩), ([1, 1], ⟨true, 3, 1, [.int .i64 s.k]⟩), ([1, 2], ⟨true, 26, 2, [.agg [.ref [1, 2, 0] 0 m, .ref [0] 0 n]]⟩), ([1, 2, 0], ⟨false, 9, 1, s.ss.map .str⟩), ([1, 3], ⟨true, 4, 1, [.bool lose]⟩)]
def zIo : Io := ⟨0, 0, []⟩
/-- DeleteFunc, as far as the first one that goes, then on. -/
def delA (h : Int) (lose : Bool) (k : Int) (ss : List (List UInt8)) (ps : List Io) : DS := match firstAt (goes h k lose) ps 0 with
  | none => ⟨ps.length, k, ss, ps⟩
  | some i => delF h lose (ps.drop (i + 1)) ⟨i, (after1 h k lose ss ps).1, (after1 h k lose ss ps).2, ps⟩
theorem del176_E (ps : List Io) (h k : Int) (lose : Bool) (ss : List (List UInt8)) (hl : ps.length ≤ 1073741824) (hp : ∀ x ∈ ps, 0 ≤ x.at_ ∧ x.at_.toNat < ss.length) (hk : In64 k) (hno : firstAt (goes h k lose) ps 0 = none) :
    E CX 105 [.ref [0] 0 ps.length, .fn 106 [.ptr [1, 0] 0 0, .ptr [1, 1] 0 0, .ptr [1, 2] 0 0, .ptr [1, 3] 0 0]] (dHeap h lose ss.length ps.length ⟨0, k, ss, ps⟩) =
      some { val := .ref [0] 0 ps.length, io := (dHeap h lose ss.length ps.length ⟨0, (after1 h k lose ss ps).1, (after1 h k lose ss ps).2, ps⟩).map (·.2) } := by
  refine E_fin Tryz.f105 _ an105 rfl rfl rfl Tryz.func105 rfl (by kernel_rfl) ?_
  have hE := idx204_E ps h k lose ss hl hp hk
  rw [hno] at hE
  simp [go_sem, dHeap, hE, idxOf]
structure DInv (ps : List Io) (m : Nat) (j : Nat) (s : DS) : Prop where
  hj : j ≤ ps.length
  hi : s.i < j
  hs : s.ss.length = m
  hlen : s.cur.length = ps.length
  hrest : s.cur.drop j = ps.drop j
  hk : In64 s.k
theorem delSome_E (ps : List Io) (h k : Int) (lose : Bool) (ss : List (List UInt8)) (hl : ps.length ≤ 1073741824) (hp : ∀ x ∈ ps, 0 ≤ x.at_ ∧ x.at_.toNat < ss.length) (hk : In64 k) (i0 : Nat) (hi0 : i0 < ps.length) (hf : firstAt (goes h k lose) ps 0 = some i0) (k1 : Int) (ss1 : List (List UInt8)) (ha : after1 h k lose ss ps = (k1, ss1)) (hk1 : In64 k1) (hs1 : ss1.length = ss.length) (r : DS) (hr : delF h lose (ps.drop (i0 + 1)) ⟨i0, k1, ss1, ps⟩ = r) (hri : r.i ≤ ps.length) (hrl : r.cur.length = ps.length) :
    E CX 105 [.ref [0] 0 ps.length, .fn 106 [.ptr [1, 0] 0 0, .ptr [1, 1] 0 0, .ptr [1, 2] 0 0, .ptr [1, 3] 0 0]] (dHeap h lose ss.length ps.length ⟨0, k, ss, ps⟩) =
      some { val := .ref [0] 0 r.i, io := (dHeap h lose ss.length ps.length ⟨0, r.k, r.ss, r.cur.take r.i ++ List.replicate (ps.length - r.i) zIo⟩).map (·.2) } := by
  refine E_fin Tryz.f105 _ an105 rfl rfl rfl Tryz.func105 rfl (by kernel_rfl) ?_
  have hE := idx204_E ps h k lose ss hl hp hk
  rw [hf, ha] at hE
  simp [go_sem, dHeap, hE, idxOf, wrap_id (n := (i0 : Int) + 1) (by omega)]
  refine loop_at (fun X => fin CX _ _ X = _) (fun x : Nat × DS => DInv ps ss.length x.1 x.2) (fun x => ⟨SS [(0, .ref [0] 0 ps.length), (1, .fn 106 [.ptr [1, 0] 0 0, .ptr [1, 1] 0 0, .ptr [1, 2] 0 0, .ptr [1, 3] 0 0]), (5, .int .i64 x.2.i), (6, .int .i64 x.1)], HS (dHeap h lose ss.length ps.length x.2)⟩)
    (fun x => (.exit 0, ⟨SS [(0, .ref [0] 0 ps.length), (5, .int .i64 (delF h lose (ps.drop x.1) x.2).i)], HS (dHeap h lose ss.length ps.length (delF h lose (ps.drop x.1) x.2))⟩)) (fun x => ps.length - x.1) (i0 + 1, ⟨i0, k1, ss1, ps⟩) ⟨by omega, by simp, hs1, by simp, by simp, hk1⟩ ?_ ?_ ?_
  · simp [go_sem, dHeap]
  · rintro ⟨j, s⟩ hI
    obtain ⟨i, kk, sk, cur⟩ := s
    obtain ⟨I1, I2, I3, I4, I5, I6⟩ := hI
    simp only at I1 I2 I3 I4 I5 I6
    by_cases hlt : j < ps.length
    · obtain ⟨x, t, hx, hd, ht⟩ : ∃ x t, ps[j] = x ∧ ps.drop j = x :: t ∧ ps.drop (j + 1) = t := ⟨ps[j], ps.drop (j + 1), rfl, List.drop_eq_getElem_cons hlt, rfl⟩
      have hxp := hp x (by rw [← hx]; exact List.getElem_mem hlt)
      have hlc : j < cur.length := by omega
      have hcj : cur[j]? = some x := by
        have : (cur.drop j)[0]? = some x := by rw [I5, hd]; rfl
        simpa using this
      have hcj' : cur[j] = x := by rw [List.getElem?_eq_getElem hlc] at hcj; injection hcj
      have hdc : cur.drop (j + 1) = t := by
        have := congrArg (List.drop 1) I5
        rw [List.drop_drop, hd] at this
        simpa [Nat.add_comm] using this
      have hlt2 : i < cur.length := by omega
      have hE := settle1_E' x h kk lose sk ps.length ss.length (cur.map eIo) I3.symm (by rw [I3]; exact hxp) I6
      cases hq : goes h kk lose x
      · obtain ⟨e1, e2⟩ := stay hq
        rw [hq, e1, e2] at hE
        simp only [eIo] at hE
        simp [go_sem, dHeap, eIo, hd, delF, hq, hE, hlt, hlc, hcj', I4, show i < ps.length from by omega, hlt2, wrap_id (n := (j : Int) + 1) (by omega), wrap_id (n := (i : Int) + 1) (by omega)]
        refine ⟨j + 1, ⟨i + 1, kk, sk, cur.set i x⟩, ⟨by omega, by simp; omega, I3, by simp [I4], ?_, I6⟩, by omega, ?_⟩
        · simp only [ht]; rw [List.drop_set_of_lt (by omega)]; exact hdc
        · simp [ht, List.map_set, eIo]
      · rw [hq] at hE
        simp only [eIo] at hE
        simp [go_sem, dHeap, eIo, hd, delF, hq, hE, hlt, hlc, hcj', I4, show i < ps.length from by omega, hlt2, wrap_id (n := (j : Int) + 1) (by omega), wrap_id (n := (i : Int) + 1) (by omega)]
        refine ⟨j + 1, ⟨i, kOf h kk x, sOf h kk sk x, cur⟩, ⟨by omega, by simp only; omega, ?_, I4, ?_, ?_⟩, by omega, ?_⟩
        · simp only [sOf]; split <;> simp [I3]
        · simp only [ht]; exact hdc
        · unfold In64 at I6 ⊢; simp only [kOf]; split <;> omega
        · simp [ht]
    · have : ps.drop j = [] := List.drop_eq_nil_of_le (by omega)
      simp [go_sem, dHeap, this, delF, hlt]
  · have hdn : List.drop (r.i + (ps.length - r.i)) r.cur = [] := List.drop_eq_nil_of_le (by omega)
    simp [go_sem, dHeap, hr, hri, hrl, zIo, hdn, eIo]
end Go.Proofs.YtccoeoppjcegnaaGreat

namespace Go.Proofs.YtccoeoppjcegnaaGreat
open Go
set_option maxRecDepth 100000
abbrev Txt := List UInt8
/-- Writes that are left, writes that may still land, and sectors. -/
def landL (h : Int) (lose : Bool) : List Io → Int → List Txt → List Io × Int × List Txt
  | [], k, ss => ([], k, ss)
  | x :: l, k, ss => if goes h k lose x then landL h lose l (kOf h k x) (sOf h k ss x) else (x :: (landL h lose l k ss).1, (landL h lose l k ss).2)
theorem delF_spec (h : Int) (lose : Bool) : ∀ (l : List Io) (s : DS), s.i + l.length ≤ s.cur.length →
    (delF h lose l s).i = s.i + (landL h lose l s.k s.ss).1.length ∧ ((delF h lose l s).k, (delF h lose l s).ss) = (landL h lose l s.k s.ss).2 ∧ (delF h lose l s).cur.length = s.cur.length ∧
    (delF h lose l s).cur.take (delF h lose l s).i = s.cur.take s.i ++ (landL h lose l s.k s.ss).1 := by
  intro l
  induction l with
  | nil => intro s _; simp [delF, landL]
  | cons x l ih =>
    intro s hs
    simp only [List.length_cons] at hs
    unfold delF landL
    by_cases hg : goes h s.k lose x = true
    · simp only [hg, if_true]
      exact ih ⟨s.i, kOf h s.k x, sOf h s.k s.ss x, s.cur⟩ (by simp only; omega)
    · simp only [hg]
      obtain ⟨h1, h2, h3, h4⟩ := ih ⟨s.i + 1, s.k, s.ss, s.cur.set s.i x⟩ (by simp only [List.length_set]; omega)
      simp only at h1 h2 h3 h4
      refine ⟨by simp only [Bool.false_eq_true, if_false, List.length_cons]; rw [h1]; omega, by simp only [Bool.false_eq_true, if_false]; exact h2, by simp only [Bool.false_eq_true, if_false]; rw [h3, List.length_set], ?_⟩
      simp only [Bool.false_eq_true, if_false]
      rw [h4, List.take_add_one, List.take_set_of_le (Nat.le_refl _)]
      simp [show s.i < s.cur.length from by omega]
theorem landL_len (h : Int) (lose : Bool) : ∀ (l : List Io) (k : Int) (ss : List Txt), (landL h lose l k ss).1.length ≤ l.length ∧ (landL h lose l k ss).2.2.length = ss.length := by
  intro l
  induction l with
  | nil => intro k ss; simp [landL]
  | cons x l ih =>
    intro k ss
    unfold landL
    split
    · have := ih (kOf h k x) (sOf h k ss x)
      refine ⟨by simp only [List.length_cons]; omega, ?_⟩
      rw [this.2]; unfold sOf; split <;> simp
    · have := ih k ss
      exact ⟨by simp only [List.length_cons]; omega, this.2⟩
theorem landL_all (h : Int) (lose : Bool) (p : Io → Prop) : ∀ (l : List Io) (k : Int) (ss : List Txt), (∀ x ∈ l, p x) → ∀ x ∈ (landL h lose l k ss).1, p x := by
  intro l
  induction l with
  | nil => intro k ss _ x hx; simp [landL] at hx
  | cons y l ih =>
    intro k ss hp x hx
    unfold landL at hx
    split at hx
    · exact ih _ _ (fun x hx => hp x (by simp [hx])) x hx
    · simp only [List.mem_cons] at hx
      rcases hx with rfl | hx
      · exact hp _ (by simp)
      · exact ih _ _ (fun x hx => hp x (by simp [hx])) x hx
theorem landL_first (h : Int) (lose : Bool) (k : Int) (ss : List Txt) : ∀ (l : List Io) (n : Nat), match firstAt (goes h k lose) l n with
    | none => landL h lose l k ss = (l, k, ss) ∧ after1 h k lose ss l = (k, ss)
    | some i => ∃ j, i = n + j ∧ j < l.length ∧ landL h lose l k ss = (l.take j ++ (landL h lose (l.drop (j + 1)) (after1 h k lose ss l).1 (after1 h k lose ss l).2).1, (landL h lose (l.drop (j + 1)) (after1 h k lose ss l).1 (after1 h k lose ss l).2).2) := by
  intro l
  induction l with
  | nil => intro n; simp [firstAt, landL, after1]
  | cons x l ih =>
    intro n
    unfold firstAt
    by_cases hg : goes h k lose x = true
    · simp only [hg, if_true]
      exact ⟨0, by omega, by simp, by simp [landL, after1, hg]⟩
    · simp only [hg, Bool.false_eq_true, if_false]
      have := ih (n + 1)
      cases hf : firstAt (goes h k lose) l (n + 1) with
      | none => rw [hf] at this; simp [landL, after1, hg, this.1, this.2]
      | some i =>
        rw [hf] at this
        obtain ⟨j, e1, e2, e3⟩ := this
        refine ⟨j + 1, by omega, by simpa using e2, ?_⟩
        simp only [landL, after1, hg, Bool.false_eq_true, if_false, e3]
        simp
theorem after1_len (h k : Int) (lose : Bool) (ss : List Txt) : ∀ l : List Io, (after1 h k lose ss l).2.length = ss.length := by
  intro l
  induction l with
  | nil => rfl
  | cons x l ih =>
    unfold after1
    split
    · unfold sOf; split <;> simp
    · exact ih
theorem after1_k (h k : Int) (lose : Bool) (ss : List Txt) (hk : In64 k) : ∀ l : List Io, In64 (after1 h k lose ss l).1 := by
  intro l
  induction l with
  | nil => exact hk
  | cons x l ih =>
    unfold after1
    split
    · unfold In64 at hk ⊢; unfold kOf; simp only; split <;> omega
    · exact ih
theorem del_E (ps : List Io) (h k : Int) (lose : Bool) (ss : List Txt) (hl : ps.length ≤ 1073741824) (hp : ∀ x ∈ ps, 0 ≤ x.at_ ∧ x.at_.toNat < ss.length) (hk : In64 k) :
    E CX 105 [.ref [0] 0 ps.length, .fn 106 [.ptr [1, 0] 0 0, .ptr [1, 1] 0 0, .ptr [1, 2] 0 0, .ptr [1, 3] 0 0]] (dHeap h lose ss.length ps.length ⟨0, k, ss, ps⟩) =
      some { val := .ref [0] 0 (landL h lose ps k ss).1.length, io := (dHeap h lose ss.length ps.length ⟨0, (landL h lose ps k ss).2.1, (landL h lose ps k ss).2.2, (landL h lose ps k ss).1 ++ List.replicate (ps.length - (landL h lose ps k ss).1.length) zIo⟩).map (·.2) } := by
  have hf := landL_first h lose k ss ps 0
  cases hc : firstAt (goes h k lose) ps 0 with
  | none =>
    rw [hc] at hf
    rw [del176_E ps h k lose ss hl hp hk hc, hf.1, hf.2]
    simp
  | some i0 =>
    rw [hc] at hf
    obtain ⟨j, e1, e2, e3⟩ := hf
    have : i0 = j := by omega
    subst this
    have hs := delF_spec h lose (ps.drop (i0 + 1)) ⟨i0, (after1 h k lose ss ps).1, (after1 h k lose ss ps).2, ps⟩ (by simp only [List.length_drop]; omega)
    have hln := (landL_len h lose (ps.drop (i0 + 1)) (after1 h k lose ss ps).1 (after1 h k lose ss ps).2).1
    simp only [List.length_drop] at hln
    obtain ⟨s1, s2, s3, s4⟩ := hs
    simp only at s1 s2 s3 s4
    have := delSome_E ps h k lose ss hl hp hk i0 e2 hc (after1 h k lose ss ps).1 (after1 h k lose ss ps).2 rfl (after1_k h k lose ss hk ps) (after1_len h k lose ss ps) _ rfl (by rw [s1]; omega) s3
    rw [this, s4, e3, s1, ← s2]
    simp [Nat.min_eq_left (Nat.le_of_lt e2)]
end Go.Proofs.YtccoeoppjcegnaaGreat

namespace Go.Proofs.YtccoeoppjcegnaaGreat
open Go
set_option maxRecDepth 100000
set_option linter.unusedSimpArgs false
set_option linter.unusedVariables false
def firstP : List (Bool × Int) → Int
  | [] => 0
  | p :: l => if p.1 then p.2 else firstP l
def anys : List (Bool × Int) → List AV
  | [] => []
  | p :: l => .iface 4 (.bool p.1) :: .iface 3 (.int .i64 p.2) :: anys l
theorem anys_length : ∀ l, (anys l).length = 2 * l.length := by
  intro l
  induction l with
  | nil => rfl
  | cons p l ih => simp only [anys, List.length_cons, ih]; omega
theorem anys_at : ∀ (l : List (Bool × Int)) (n : Nat) (p : Bool × Int), l[n]? = some p → (anys l)[2 * n]? = some (.iface 4 (.bool p.1)) ∧ (anys l)[2 * n + 1]? = some (.iface 3 (.int .i64 p.2)) := by
  intro l
  induction l with
  | nil => intro n p h; simp at h
  | cons q l ih =>
    intro n p h
    cases n with
    | zero => simp at h; subst h; simp [anys]
    | succ n =>
      have := ih n p (by simpa using h)
      simpa [anys, Nat.mul_add, show 2 * n + 2 + 1 = 2 * n + 1 + 1 + 1 by omega] using this
def hits : List (Bool × Int) → Bool
  | [] => false
  | p :: l => p.1 || hits l
theorem hits_no : ∀ l, hits l = false → firstP l = 0 := by
  intro l
  induction l with
  | nil => intro _; rfl
  | cons p l ih => intro h; simp only [hits, Bool.or_eq_false_iff] at h; simp [firstP, h.1, ih h.2]
theorem ge_of {α : Type} {l : List α} {i : Nat} {v : α} (a : l[i]? = some v) (h : i < l.length) : l[i]'h = v := by
  rw [List.getElem?_eq_getElem h] at a; exact Option.some.inj a
theorem first_E (l : List (Bool × Int)) (hl : l.length ≤ 1000) : E CX 28 [.sl 1 (anys l)] [] = some { val := .int .i64 (firstP l) } := by
  refine E_fin Tryz.f28 _ an28 rfl rfl rfl Tryz.func28 rfl (by kernel_rfl) ?_
  simp [go_sem]
  refine loop_at (fun X => fin CX _ _ X = _) (fun n : Nat => n ≤ l.length) (fun n => ⟨SS [(0, .sl 1 (anys l)), (3, .int .i64 (2 * n : Nat))], HE⟩)
     (fun n => match hits (l.drop n) with
      | true => (.ret, ⟨SS [(2, .int .i64 (firstP (l.drop n)))], HE⟩)
      | false => (.exit 0, ⟨SS [], HE⟩)) (fun n => l.length - n) 0 (by omega) ?_ ?_ ?_
  · simp [go_sem]
  · intro n hn
    by_cases hlt : n < l.length
    · obtain ⟨p, t, hp, hd, ht⟩ := cut_at hlt
      obtain ⟨a1, a2⟩ := anys_at l n p (by rw [List.getElem?_eq_getElem hlt, hp])
      have w1 : IntKind.i64.wrap (2 * (n : Int) + 1) = 2 * (n : Int) + 1 := wrap_id (by omega)
      have w2 : IntKind.i64.wrap (2 * (n : Int) + 2) = 2 * (n : Int) + 2 := wrap_id (by omega)
      have t1 : (2 * (n : Int)).toNat = 2 * n := by omega
      have t2 : (2 * (n : Int) + 1).toNat = 2 * n + 1 := by omega
      obtain ⟨b, c⟩ := p
      cases b
      · simp [go_sem, anys_length, w1, w2, t1, t2, a1, a2, ge_of a1, ge_of a2, hd, firstP, hits, show 2 * (n : Int) + 1 < 2 * (l.length : Int) by omega, show 2 * n < 2 * l.length by omega, show 0 ≤ 2 * (n : Int) by omega]
        refine ⟨n + 1, by omega, by omega, ?_, by rw [ht]⟩
        simp [Int.mul_add]
      · simp [go_sem, anys_length, w1, w2, t1, t2, a1, a2, ge_of a1, ge_of a2, hd, firstP, hits, show 2 * (n : Int) + 1 < 2 * (l.length : Int) by omega, show 2 * n < 2 * l.length by omega, show 2 * n + 1 < 2 * l.length by omega, show 0 ≤ 2 * (n : Int) by omega, show 0 ≤ 2 * (n : Int) + 1 by omega]
    · have : l.drop n = [] := List.drop_eq_nil_of_le (by omega)
      have w1 : IntKind.i64.wrap (2 * (n : Int) + 1) = 2 * (n : Int) + 1 := wrap_id (by omega)
      simp [go_sem, this, anys_length, w1, hits, show ¬ 2 * (n : Int) + 1 < 2 * (l.length : Int) by omega]
  · cases hr : hits l
    · simp [go_sem, hr, hits_no l hr]
    · simp [go_sem, hr]
/-- A right disk. -/
def diskOK (d : Disk) : Bool := decide (d.ss.length = 64) && d.ss.all (fun s => decide (s.length ≤ 80)) && decide (d.ps.length ≤ 200) && d.ps.all ioOK
theorem diskOK1_E (x : Io) : E CX 100 [eIo x] [] = some { val := .bool (ioOK x) } := by
  refine E_fin Tryz.f100 _ an100 rfl rfl rfl Tryz.func100 rfl (by kernel_rfl) ?_
  have e1 := isHost_E x.host
  have e2 := isPlace_E x.at_
  have e3 := isSector_E x.data
  cases h1 : inn x.host 0 3
  · simp [go_sem, eIo, e1, h1, ioOK]
  · cases h2 : inn x.at_ 0 63
    · simp [go_sem, eIo, e1, e2, h1, h2, ioOK]
    · simp [go_sem, eIo, e1, e2, e3, h1, h2, ioOK]
theorem diskOK_E (d : Disk) (h1 : d.ss.length ≤ 1073741824) (h2 : d.ps.length ≤ 1073741824) : E CX 68 [eDisk d] [] = some { val := .bool (diskOK d) } := by
  refine E_fin Tryz.f68 _ an68 rfl rfl rfl Tryz.func68 rfl (by kernel_rfl) ?_
  have e1 := allString_E 98 d.ss (fun s => decide (s.length ≤ 80)) rfl h1 isSector_E
  have e2 := allIo_E 100 d.ps ioOK rfl h2 diskOK1_E
  unfold diskOK
  by_cases c1 : d.ss.length = 64
  · have c1' : (d.ss.length : Int) = 64 := by omega
    cases c2 : d.ss.all (fun s => decide (s.length ≤ 80))
    · simp [go_sem, eDisk, e1, c1, c1', c2]
    · rw [c2] at e1
      by_cases c3 : d.ps.length ≤ 200
      · have c3' : (d.ps.length : Int) ≤ 200 := by omega
        cases c4 : d.ps.all ioOK <;> rw [c4] at e2 <;> simp [go_sem, eDisk, e1, e2, c1, c1', c3, c3', c4]
      · have c3' : ¬ (d.ps.length : Int) ≤ 200 := by omega
        simp [go_sem, eDisk, e1, c1, c1', c3, c3']
  · have c1' : ¬ (d.ss.length : Int) = 64 := by omega
    simp [go_sem, eDisk, c1, c1']
def askC (d : Disk) (host : Int) : Int := if diskOK d then (if inn host 0 3 then 0 else 4) else 1
theorem codes_E (d : Disk) (host : Int) (h1 : d.ss.length ≤ 1073741824) (h2 : d.ps.length ≤ 1073741824) : E CX 26 [eDisk d, .int .i64 host] [] = some { val := .int .i64 (askC d host) } := by
  refine E_fin Tryz.f26 _ an26 rfl rfl rfl Tryz.func26 rfl (by kernel_rfl) ?_
  have e1 := diskOK_E d h1 h2
  have e2 := isHost_E host
  have e3 := first_E [(!diskOK d, 1), (!inn host 0 3, 4)] (by simp)
  simp only [anys] at e3
  simp only [eDisk] at e1
  simp [go_sem, eDisk, e1, e2, e3, firstP, askC]
  cases diskOK d <;> cases inn host 0 3 <;> rfl
theorem cloneString_E (l : List Tx) (hl : l.length ≤ 1073741824) : E CX 75 [.sl 1 (l.map .str)] [] = some { val := .ref [0, 0, 0, 0] 0 l.length, own := [⟨false, 9, 1, l.map .str⟩] } := by
  cases l with
  | nil => exact E_ext rfl rfl
  | cons s l =>
    refine E_fin Tryz.f75 _ an75 rfl rfl rfl Tryz.func75 rfl (by kernel_rfl) ?_
    simp only [List.length_cons] at hl
    simp [go_sem, hl]
theorem cloneIo_E (l : List Io) (hl : l.length ≤ 1073741824) : E CX 76 [.sl 3 (l.map eIo)] [] = some { val := .ref [0, 0, 0, 0] 0 l.length, own := [⟨false, 78, 3, l.map eIo⟩] } := by
  cases l with
  | nil => exact E_ext rfl rfl
  | cons s l =>
    refine E_fin Tryz.f76 _ an76 rfl rfl rfl Tryz.func76 rfl (by kernel_rfl) ?_
    simp only [List.length_cons] at hl
    simp [go_sem, hl]
theorem copied_E (d : Disk) (h1 : d.ss.length ≤ 1073741824) (h2 : d.ps.length ≤ 1073741824) : E CX 37 [eDisk d] [] = some { val := .agg [.ref [0, 0, 0, 0] 0 d.ss.length, .ref [1, 0, 0, 0] 0 d.ps.length], own := [⟨false, 9, 1, d.ss.map .str⟩, ⟨false, 78, 3, d.ps.map eIo⟩] } := by
  refine E_fin Tryz.f37 _ an37 rfl rfl rfl Tryz.func37 rfl (by kernel_rfl) ?_
  simp [go_sem, eDisk, cloneString_E d.ss h1, cloneIo_E d.ps h2]
/-- What writes that settle leave. -/
def settleD (d : Disk) (h k : Int) (lose : Bool) : Disk := ⟨(landL h lose d.ps k d.ss).2.2, (landL h lose d.ps k d.ss).1⟩
theorem settle_E (d : Disk) (h k : Int) (lose : Bool) (h1 : d.ss.length ≤ 1073741824) (h2 : d.ps.length ≤ 1073741824) (hp : ∀ x ∈ d.ps, 0 ≤ x.at_ ∧ x.at_.toNat < d.ss.length) (hk : In64 k) :
    E CX 77 [eDisk d, .int .i64 h, .int .i64 k, .bool lose] [] = some { val := .agg [.ref [0, 0, 0, 0] 0 d.ss.length, .ref [1, 0, 0, 0] 0 (settleD d h k lose).ps.length], own := [⟨false, 9, 1, (settleD d h k lose).ss.map .str⟩, ⟨false, 78, 3, ((settleD d h k lose).ps ++ List.replicate (d.ps.length - (settleD d h k lose).ps.length) zIo).map eIo⟩] } := by
  refine E_fin Tryz.f77 _ an77 rfl rfl rfl Tryz.func77 rfl (by kernel_rfl) ?_
  have e1 := copied_E d h1 h2
  simp only [eDisk] at e1
  have e2 := del_E d.ps h k lose d.ss h2 hp hk
  simp only [dHeap, List.map_cons, List.map_nil] at e2
  simp only [settleD]
  simp [go_sem, eDisk, e1, e2]
end Go.Proofs.YtccoeoppjcegnaaGreat

namespace Go.Proofs.YtccoeoppjcegnaaGreat
open Go
set_option maxRecDepth 100000
set_option linter.unusedSimpArgs false
set_option linter.unusedVariables false
theorem notInt_E (f : FuncId) (x : Int) (b : Bool) (hio : (annA f).io = []) (hf : E CX f [(AV.int .i64) x] [] = some { val := .bool b }) : E CX 137 [(AV.int .i64) x, .rptr [.fn f []]] [] = some { val := .bool (!b) } := by
  refine E_fin Tryz.f137 _ an137 rfl rfl rfl Tryz.func137 rfl (by kernel_rfl) ?_
  simp [go_sem, hf, hio]
theorem indexFuncInt_E (g : FuncId) (cap : List AV) (l : List Int) (q : Int → Bool) (hio : (annA g).io = []) (hl : l.length ≤ 1073741824) (hf : ∀ x, E CX g [(AV.int .i64) x, .rptr cap] [] = some { val := .bool (q x) }) : E CX 139 [.sl 1 (l.map (AV.int .i64)), .fn g [.rptr cap]] [] = some { val := .int .i64 (idxOf (firstAt q l 0)) } := by
  refine E_fin Tryz.f139 _ an139 rfl rfl rfl Tryz.func139 rfl (by kernel_rfl) ?_
  simp [go_sem]
  refine loop_list (fun X => fin CX _ _ X = _) l (fun n _ => True) (fun n (_ : Unit) => ⟨SS [(0, .sl 1 (l.map (AV.int .i64))), (1, .fn g [.rptr cap]), (7, .int .i64 l.length), (8, .int .i64 n)], HE⟩)
     (fun r n _ => match firstAt q r n with
    | some k => (.ret, ⟨SS [(4, .int .i64 k)], HE⟩)
    | none => (.exit 0, ⟨SS [], HE⟩)) () trivial ?_ ?_ ?_ ?_ ?_
  · simp [go_sem]
  · intro n _ x t hn hx hd _
    have hx := hx hn
    have hE := hf x
    cases hq : q x
    · rw [hq] at hE
      simp [go_sem, firstAt, hq, hio, hE, hn, hx, wrap_id (n := (n : Int) + 1) (by omega)]
    · rw [hq] at hE
      simp [go_sem, firstAt, hq, hio, hE, hn, hx]
  · intro _ _; simp [go_sem, firstAt]
  · intro _; simp [firstAt]
  · cases hr : firstAt q l 0 <;> simp [go_sem, hr, idxOf]
theorem containsFuncInt_E (g : FuncId) (cap : List AV) (l : List Int) (q : Int → Bool) (hio : (annA g).io = []) (hl : l.length ≤ 1073741824) (hf : ∀ x, E CX g [(AV.int .i64) x, .rptr cap] [] = some { val := .bool (q x) }) : E CX 136 [.sl 1 (l.map (AV.int .i64)), .fn g [.rptr cap]] [] = some { val := .bool (l.any q) } := by
  refine E_fin Tryz.f136 _ an136 rfl rfl rfl Tryz.func136 rfl (by kernel_rfl) ?_
  simp [go_sem, indexFuncInt_E g cap l q hio hl hf, idx_any]
theorem allInt_E (f : FuncId) (l : List Int) (q : Int → Bool) (hio : (annA f).io = []) (hl : l.length ≤ 1073741824) (hf : ∀ x, E CX f [(AV.int .i64) x] [] = some { val := .bool (q x) }) : E CX 134 [.sl 1 (l.map (AV.int .i64)), .fn f []] [] = some { val := .bool (l.all q) } := by
  refine E_fin Tryz.f134 _ an134 rfl rfl rfl Tryz.func134 rfl (by kernel_rfl) ?_
  have h := containsFuncInt_E 137 [.fn f []] l (fun x => !q x) rfl hl (fun x => notInt_E f x (q x) hio (hf x))
  rw [any_not] at h
  simp [go_sem, h]
end Go.Proofs.YtccoeoppjcegnaaGreat

namespace Go.Proofs.YtccoeoppjcegnaaGreat
open Go
set_option maxRecDepth 100000
set_option linter.unusedSimpArgs false
set_option linter.unusedVariables false
theorem isNumber_E (n : Int) : E CX 103 [.int .i64 n] [] = some { val := .bool (isNum n) } := by
  refine E_fin Tryz.f103 _ an103 rfl rfl rfl Tryz.func103 rfl (by kernel_rfl) ?_
  simp [go_sem, within_E, isNum]
theorem isKind_E (n : Int) : E CX 125 [.int .i64 n] [] = some { val := .bool (inn n 1 9) } := by
  refine E_fin Tryz.f125 _ an125 rfl rfl rfl Tryz.func125 rfl (by kernel_rfl) ?_
  simp [go_sem, within_E]
theorem areInts_E (l : List Int) (hl : l.length ≤ 1073741824) : E CX 131 [.sl 1 (l.map (.int .i64))] [] = some { val := .bool (intsOK l) } := by
  refine E_fin Tryz.f131 _ an131 rfl rfl rfl Tryz.func131 rfl (by kernel_rfl) ?_
  have e1 := allInt_E 103 l isNum rfl hl isNumber_E
  unfold intsOK
  by_cases c : l.length ≤ 16
  · simp [go_sem, e1, c, show (l.length : Int) ≤ 16 by omega]
  · simp [go_sem, c, show ¬ (l.length : Int) ≤ 16 by omega]
theorem sumOf_E (t : Tx) (ht : t.length ≤ 1000000) : E CX 108 [.str t] [] = some { val := .int .i64 (sumF t 1 0) } := by
  refine E_fin Tryz.f108 _ an108 rfl rfl rfl Tryz.func108 rfl (by kernel_rfl) ?_
  simp [go_sem]
  refine loop_for (fun X => fin CX _ _ X = _) t (fun n (a : Int) => 0 ≤ a ∧ a < 251) (fun n a => ⟨SS [(0, .str t), (3, .int .i64 a), (6, .int .i64 t.length), (7, .int .i64 n)], HE⟩) (fun r n a => (.exit 0, ⟨SS [(3, .int .i64 (sumF r (n + 1) a))], HE⟩)) 0 (by omega) ?_ ?_ ?_ ?_ ?_
  · simp [go_sem]
  · intro R n a b r hn hx hd hI hR
    have hx := hx hn
    have hb := b.toNat_lt
    have m1 : 0 ≤ ((n : Int) + 1) * ((b.toNat : Int) + 1) := Int.mul_nonneg (by omega) (by omega)
    have m2 : ((n : Int) + 1) * ((b.toNat : Int) + 1) ≤ 1000001 * 257 := Int.mul_le_mul (by omega) (by omega) (by omega) (by omega)
    have hp : ((n : Int) + 1) * ((b.toNat : Int) + 1) = (n : Int) * b.toNat + n + b.toNat + 1 := by rw [Int.add_mul, Int.mul_add]; omega
    have := hR ((a + ((n : Int) + 1) * ((b.toNat : Int) + 1)).tmod 251) (by rw [Int.tmod_eq_emod_of_nonneg (by omega)]; omega) (by simp [sumF])
    simp [go_sem] at this
    simp [go_sem, hn, hx, wrap_byte, wrap_id (n := (n : Int) + 1) (by omega), wrap_id (n := (b.toNat : Int) + 1) (by omega), wrap_id (n := ((n : Int) + 1) * ((b.toNat : Int) + 1)) (by omega), wrap_id (n := a + ((n : Int) + 1) * ((b.toNat : Int) + 1)) (by omega)]
    exact this
  · intro _ _; simp [go_sem, sumF]
  · intro _; simp
  · simp [go_sem]
theorem fd (n : Int) : n.fdiv 256 = n / 256 ∧ n.fdiv 65536 = n / 65536 ∧ n.fdiv 16777216 = n / 16777216 :=
  ⟨Int.fdiv_eq_ediv_of_nonneg _ (by omega), Int.fdiv_eq_ediv_of_nonneg _ (by omega), Int.fdiv_eq_ediv_of_nonneg _ (by omega)⟩
theorem pack_E (l : List Int) (hl : l.length ≤ 1000) : E CX 107 [.sl 1 (l.map (.int .i64))] [] = some { val := .str (packF l) } := by
  refine E_fin Tryz.f107 _ an107 rfl rfl rfl Tryz.func107 rfl (by kernel_rfl) ?_
  simp [go_sem]
  refine loop_for (fun X => fin CX _ _ X = _) l (fun n (a : Tx) => a.length = 4 * n) (fun n a => ⟨SS [(3, .ref [6] 0 a.length), (7, .sl 1 (l.map (.int .i64))), (8, .int .i64 l.length), (9, .int .i64 n)], HS [([6], ⟨false, 5, 1, a.map eByte⟩)]⟩)
    (fun r n a => (.exit 0, ⟨SS [(3, .ref [6] 0 (a ++ packF r).length)], HS [([6], ⟨false, 5, 1, (a ++ packF r).map eByte⟩)]⟩)) [] rfl ?_ ?_ ?_ ?_ ?_
  · simp [go_sem]
  · intro R n a x r hn hx hd hI hR
    have hx := hx hn
    have := hR (a ++ four x) (by simp [four, hI]; omega) (by simp [packF])
    simp [go_sem, four, eByte] at this
    simp [go_sem, hn, hx, wrap_u8, (fd x).1, (fd x).2.1, (fd x).2.2, show a.length + 4 ≤ 1073741824 by omega, wrap_id (n := (n : Int) + 1) (by omega)]
    exact this
  · intro a hI; simp [go_sem, packF]
  · intro _; simp
  · have := packF_length l
    simp [go_sem, bytesOf_map, show (packF l).length ≤ 1099511627776 by omega]
theorem seal_E (kind : Int) (l : List Int) (hl : l.length ≤ 1000) : E CX 78 [.int .i64 kind, .sl 1 (l.map (.int .i64))] [] = some { val := .str (sealF kind l) } := by
  refine E_fin Tryz.f78 _ an78 rfl rfl rfl Tryz.func78 rfl (by kernel_rfl) ?_
  have e1 := pack_E l hl
  have hp := packF_length l
  have e2 := sumOf_E ([byteOf kind, byteOf l.length] ++ packF l) (by simp; omega)
  simp at e2
  simp [go_sem, e1, e2, sealF, show 2 + (packF l).length ≤ 4611686018427387904 by omega, show (packF l).length + 1 + 1 + 2 ≤ 4611686018427387904 by omega, show 2 + (2 + (packF l).length) ≤ 4611686018427387904 by omega, show 2 + 2 + (packF l).length ≤ 4611686018427387904 by omega, show 4 + (packF l).length ≤ 4611686018427387904 by omega]
/-- Bits of numbers that do not meet. -/
theorem or_add (s x m : Nat) (hx : x < 2 ^ s) (h : x + m * 2 ^ s < 9223372036854775808) : IntKind.i64.wrap ((BitVec.ofInt 64 (x : Int) ||| BitVec.ofInt 64 ((m * 2 ^ s : Nat) : Int)).toNat : Int) = ((x + m * 2 ^ s : Nat) : Int) := by
  have e : (BitVec.ofInt 64 (x : Int) ||| BitVec.ofInt 64 ((m * 2 ^ s : Nat) : Int)).toNat = x + m * 2 ^ s := by
    rw [BitVec.toNat_or]
    rw [BitVec.ofInt_natCast, BitVec.ofInt_natCast, BitVec.toNat_ofNat, BitVec.toNat_ofNat, Nat.mod_eq_of_lt (by omega), Nat.mod_eq_of_lt (by omega), Nat.or_comm, Nat.mul_comm m, Nat.add_comm]
    exact (Nat.two_pow_add_eq_or_of_lt hx m).symm
  rw [e]
  exact wrap_id (by omega)
theorem or2 (a b : UInt8) : IntKind.i64.wrap ((BitVec.ofNat 64 a.toNat ||| BitVec.ofInt 64 ((b.toNat : Int) * 256)).toNat : Int) = (a.toNat : Int) + 256 * b.toNat := by
  have h1 := a.toNat_lt; have h2 := b.toNat_lt
  have := or_add 8 a.toNat b.toNat (by omega) (by omega)
  rw [BitVec.ofInt_natCast] at this
  simp only [Nat.reducePow, Int.natCast_mul, Int.natCast_add, Int.cast_ofNat_Int] at this
  rw [this]; omega
theorem or3 (a b c : UInt8) : IntKind.i64.wrap ((BitVec.ofInt 64 ((a.toNat : Int) + 256 * b.toNat) ||| BitVec.ofInt 64 ((c.toNat : Int) * 65536)).toNat : Int) = (a.toNat : Int) + 256 * b.toNat + 65536 * c.toNat := by
  have h1 := a.toNat_lt; have h2 := b.toNat_lt; have h3 := c.toNat_lt
  have := or_add 16 (a.toNat + 256 * b.toNat) c.toNat (by omega) (by omega)
  simp only [Nat.reducePow, Int.natCast_mul, Int.natCast_add, Int.cast_ofNat_Int] at this
  rw [this]; omega
theorem or4 (a b c d : UInt8) : IntKind.i64.wrap ((BitVec.ofInt 64 ((a.toNat : Int) + 256 * b.toNat + 65536 * c.toNat) ||| BitVec.ofInt 64 ((d.toNat : Int) * 16777216)).toNat : Int) = numOf a b c d := by
  have h1 := a.toNat_lt; have h2 := b.toNat_lt; have h3 := c.toNat_lt; have h4 := d.toNat_lt
  have := or_add 24 (a.toNat + 256 * b.toNat + 65536 * c.toNat) d.toNat (by omega) (by omega)
  simp only [Nat.reducePow, Int.natCast_mul, Int.natCast_add, Int.cast_ofNat_Int] at this
  rw [this]; unfold numOf; omega
theorem nums_cut {t : Tx} {n : Nat} (h : 4 * n + 4 ≤ t.length) : ∃ a b c d, t[4 * n]? = some a ∧ t[4 * n + 1]? = some b ∧ t[4 * n + 2]? = some c ∧ t[4 * n + 3]? = some d ∧ t.drop (4 * n) = a :: b :: c :: d :: t.drop (4 * (n + 1)) := by
  refine ⟨t[4 * n], t[4 * n + 1], t[4 * n + 2], t[4 * n + 3], List.getElem?_eq_getElem _, List.getElem?_eq_getElem _, List.getElem?_eq_getElem _, List.getElem?_eq_getElem _, ?_⟩
  rw [List.drop_eq_getElem_cons (by omega), List.drop_eq_getElem_cons (i := 4 * n + 1) (by omega), List.drop_eq_getElem_cons (i := 4 * n + 1 + 1) (by omega), List.drop_eq_getElem_cons (i := 4 * n + 1 + 1 + 1) (by omega)]
  rfl
theorem nums_short {t : Tx} (h : t.length < 4) : nums t = [] := by
  match t, h with
  | [], _ => rfl
  | [a], _ => rfl
  | [a, b], _ => rfl
  | [a, b, c], _ => rfl
theorem unpack_E (t : Tx) (ht : t.length ≤ 1000000) : E CX 126 [.str t] [] = some { val := .tuple [.ref [0, 0, 0, 0] 0 ((nums t).take 17).length, .bool (decide (t.length % 4 = 0) && intsOK ((nums t).take 17))], own := [⟨false, 3, 1, ((nums t).take 17).map (.int .i64)⟩] } := by
  refine E_fin Tryz.f126 _ an126 rfl rfl rfl Tryz.func126 rfl (by kernel_rfl) ?_
  generalize hL : (nums t).take 17 = L
  have hLl : L.length ≤ 17 := by rw [← hL]; simp; omega
  have e1 := areInts_E L (by omega)
  simp [go_sem]
  refine loop_at (fun X => fin CX _ _ X = _) (fun x : Nat × List Int => 4 * x.1 ≤ t.length + 3 ∧ x.1 ≤ 17 ∧ x.2.length = x.1 ∧ L = x.2 ++ (nums (t.drop (4 * x.1))).take (17 - x.1)) (fun x => ⟨SS [(0, .str t), (4, .ref [6] 0 x.2.length), (5, .int .i64 (4 * x.1 : Nat))], HS [([6], ⟨false, 3, 1, x.2.map (.int .i64)⟩)]⟩)
    (fun x => (.exit 0, ⟨SS [(0, .str t), (4, .ref [6] 0 L.length)], HS [([6], ⟨false, 3, 1, L.map (.int .i64)⟩)]⟩)) (fun x => 17 - x.1) (0, []) ⟨by omega, by omega, rfl, by simp [hL]⟩ ?_ ?_ ?_
  · simp [go_sem]
  · rintro ⟨n, l⟩ ⟨h1, h2, h3, h4⟩
    simp only at h1 h2 h3 h4
    have w1 : IntKind.i64.wrap (4 * (n : Int) + 4) = 4 * (n : Int) + 4 := wrap_id (by omega)
    by_cases c1 : 4 * n + 4 ≤ t.length
    · by_cases c2 : n < 17
      · obtain ⟨a, b, c, d, i0, i1, i2, i3, hd⟩ := nums_cut c1
        have g0 := ge_of i0; have g1 := ge_of i1; have g2 := ge_of i2; have g3 := ge_of i3
        have b1 := b.toNat_lt; have b2 := c.toNat_lt; have b3 := d.toNat_lt
        simp [go_sem, w1, show 4 * (n : Int) + 4 ≤ t.length by omega, show 4 * (n : Int) < 68 by omega, show (4 * (n : Int)).toNat = 4 * n by omega, show (4 * (n : Int) + 1).toNat = 4 * n + 1 by omega, show (4 * (n : Int) + 2).toNat = 4 * n + 2 by omega, show (4 * (n : Int) + 3).toNat = 4 * n + 3 by omega,
          wrap_id (n := 4 * (n : Int) + 1) (by omega), wrap_id (n := 4 * (n : Int) + 2) (by omega), wrap_id (n := 4 * (n : Int) + 3) (by omega), i0, i1, i2, i3, g0, g1, g2, g3, show 4 * n < t.length by omega, show 4 * n + 1 < t.length by omega, show 4 * n + 2 < t.length by omega, show 4 * n + 3 < t.length by omega, show 0 ≤ 4 * (n : Int) by omega, show 0 ≤ 4 * (n : Int) + 1 by omega, show 0 ≤ 4 * (n : Int) + 2 by omega, show 0 ≤ 4 * (n : Int) + 3 by omega,
          wrap_id (n := (b.toNat : Int) * 256) (by omega), wrap_id (n := (c.toNat : Int) * 65536) (by omega), wrap_id (n := (d.toNat : Int) * 16777216) (by omega), or2, or3, or4, show l.length ≤ 1073741823 by omega]
        refine ⟨n + 1, l ++ [numOf a b c d], ⟨by omega, by omega, by simp [h3], ?_⟩, by omega, ?_⟩
        · rw [h4, hd]
          simp only [nums]
          rw [show 17 - n = (17 - (n + 1)) + 1 by omega, List.take_succ_cons, List.append_assoc]
          rfl
        · simp [Int.mul_add]
          refine congrArg (fun z => HU HE [6] ⟨false, 3, 1, List.map (AV.int .i64) l ++ [AV.int .i64 z]⟩) ?_
          rw [← or4 a b c d, ← or3 a b c, ← or2 a b]
          rfl
      · have : L = l := by rw [h4, show 17 - n = 0 by omega]; simp
        subst this
        simp [go_sem, w1, show 4 * (n : Int) + 4 ≤ t.length by omega, show ¬ 4 * (n : Int) < 68 by omega]
    · have : L = l := by rw [h4, nums_short (by simp; omega)]; simp
      subst this
      simp [go_sem, w1, show ¬ 4 * (n : Int) + 4 ≤ t.length by omega]
  · have hm : ((t.length : Int).tmod 4 = 0) ↔ t.length % 4 = 0 := by rw [Int.tmod_eq_emod_of_nonneg (by omega)]; omega
    by_cases c : t.length % 4 = 0
    · simp [go_sem, hm.2 c, c, e1]
    · have c' : ¬ (t.length : Int).tmod 4 = 0 := fun q => c (hm.1 q)
      simp [go_sem, c', c]
end Go.Proofs.YtccoeoppjcegnaaGreat

namespace Go.Proofs.YtccoeoppjcegnaaGreat
open Go
set_option maxRecDepth 100000
set_option linter.unusedSimpArgs false
set_option linter.unusedVariables false
def t0 (t : Tx) : Int := ((t.getD 0 0).toNat : Int)
def LL (t : Tx) : List Int := (nums (t.drop 4)).take 17
/-- No record at first sight. -/
def early (t : Tx) : Bool := decide (t.length < 4) || decide (80 < t.length) || !inn (t0 t) 1 9
def openB (t : Tx) : Bool := decide ((t.length - 4) % 4 = 0) && intsOK (LL t) && (sealF (t0 t) (LL t) == t)
theorem intsOK_take (l : List Int) : intsOK (l.take 17) = intsOK l := by
  by_cases h : l.length ≤ 17
  · rw [List.take_of_length_le h]
  · unfold intsOK
    have : ¬ l.length ≤ 16 := by omega
    have h2 : ¬ (l.take 17).length ≤ 16 := by simp; omega
    simp only [this, h2, decide_false, Bool.false_and]
theorem intsOK_len {l : List Int} (h : intsOK l = true) : l.length ≤ 16 := by
  unfold intsOK at h; simp at h; exact h.1
theorem sealF_length (k : Int) (l : List Int) : (sealF k l).length = 4 + 4 * l.length := by
  have := packF_length l
  simp [sealF]; omega
theorem open_early {t : Tx} {kind : Int} (h : early t = true) : openF t kind = none := by
  unfold openF
  rw [if_neg]
  rintro ⟨h1, h2, h3, h4, h5, h6⟩
  have hl := congrArg List.length h6
  rw [sealF_length] at hl
  have := intsOK_len h5
  simp only [early, t0, Bool.or_eq_true, decide_eq_true_eq, Bool.not_eq_true'] at h
  rcases h with (h | h) | h
  · omega
  · omega
  · rw [h2, h3] at h; cases h
theorem open_late {t : Tx} {kind : Int} (h : early t = false) : openF t kind = if openB t = true ∧ t0 t = kind then some (LL t) else none := by
  simp only [early, t0, Bool.or_eq_false_iff, decide_eq_false_iff_not, Bool.not_eq_false'] at h
  obtain ⟨⟨h1, h2⟩, h3⟩ := h
  unfold openF
  by_cases c : openB t = true ∧ t0 t = kind
  · rw [if_pos c]
    obtain ⟨c1, c2⟩ := c
    simp only [openB, Bool.and_eq_true, decide_eq_true_eq, beq_iff_eq] at c1
    obtain ⟨⟨c3, c4⟩, c5⟩ := c1
    have c4' := c4
    unfold LL at c4
    rw [intsOK_take] at c4
    have hl := intsOK_len c4
    have hLL : LL t = nums (t.drop 4) := by unfold LL; exact List.take_of_length_le (by omega)
    rw [hLL] at c5 ⊢
    rw [if_pos ⟨by omega, c2, by rw [← c2]; exact h3, by omega, c4, by rw [← c2]; exact c5⟩]
  · rw [if_neg c, if_neg]
    rintro ⟨q1, q2, q3, q4, q5, q6⟩
    have hl := intsOK_len q5
    have hLL : LL t = nums (t.drop 4) := by unfold LL; exact List.take_of_length_le (by omega)
    refine c ⟨?_, q2⟩
    unfold openB
    rw [hLL, q5]
    have : t0 t = kind := q2
    rw [this, q6]
    simp only [Bool.and_eq_true, decide_eq_true_eq, beq_self_eq_true, and_true]
    omega
theorem opened_E (t : Tx) (ht : t.length ≤ 1000000) : E CX 102 [.str t] [] = some { val := if early t then .tuple [.int .i64 0, .nil, .bool false] else .tuple [.int .i64 (t0 t), .sl 1 ((LL t).map (.int .i64)), .bool (openB t)] } := by
  refine E_fin Tryz.f102 _ an102 rfl rfl rfl Tryz.func102 rfl (by kernel_rfl) ?_
  by_cases h1 : t.length < 4
  · simp [go_sem, early, h1, show (t.length : Int) < 4 by omega]
  · by_cases h2 : 80 < t.length
    · simp [go_sem, early, h1, h2, show ¬ (t.length : Int) < 4 by omega, show (80 : Int) < t.length by omega]
    · have e1 := isKind_E (t0 t)
      have hx : t[0]? = some (t.getD 0 0) := by rw [List.getElem?_eq_getElem (by omega)]; simp [List.getD, show 0 < t.length by omega]
      have hg := ge_of hx
      have ht0 : ((t.getD 0 0).toNat : Int) = t0 t := rfl
      have hb := byte_lt (t.getD 0 0)
      have hw := wrap_byte (t.getD 0 0)
      rw [ht0] at hw hb
      generalize t.getD 0 0 = b0 at *
      cases h3 : inn (t0 t) 1 9
      · rw [h3] at e1
        simp [go_sem, early, h1, h2, h3, show ¬ (t.length : Int) < 4 by omega, show ¬ (80 : Int) < t.length by omega, hx, hg, show 0 < t.length by omega, ht0, hw, e1]
      · rw [h3] at e1
        have e2 := unpack_E (t.drop 4) (by simp; omega)
        have e3 := seal_E (t0 t) (LL t) (by unfold LL; simp; omega)
        have hLL : (nums (t.drop 4)).take 17 = LL t := rfl
        rw [hLL] at e2
        simp only [List.length_drop] at e2
        unfold openB
        cases h4 : (decide ((t.length - 4) % 4 = 0) && intsOK (LL t))
        · rw [h4] at e2
          simp [go_sem, early, h1, h2, h3, show ¬ (t.length : Int) < 4 by omega, show ¬ (80 : Int) < t.length by omega, hx, hg, show 0 < t.length by omega, show 4 ≤ t.length by omega, ht0, hw, e1, e2]
        · rw [h4] at e2
          simp [go_sem, early, h1, h2, h3, show ¬ (t.length : Int) < 4 by omega, show ¬ (80 : Int) < t.length by omega, hx, hg, show 0 < t.length by omega, show 4 ≤ t.length by omega, ht0, hw, e1, e2, e3]
/-- What 'open' answers, read by value. -/
def openV (t : Tx) (kind : Int) : AV := .tuple [if early t then .nil else .sl 1 ((LL t).map (.int .i64)), .bool (openF t kind).isSome]
theorem open_E (t : Tx) (kind : Int) (ht : t.length ≤ 1000000) : E CX 70 [.str t, .int .i64 kind] [] = some { val := openV t kind } := by
  refine E_fin Tryz.f70 _ an70 rfl rfl rfl Tryz.func70 rfl (by kernel_rfl) ?_
  have e1 := opened_E t ht
  unfold openV
  cases h : early t
  · rw [h] at e1
    rw [open_late h]
    cases h2 : openB t
    · rw [h2] at e1
      simp [go_sem, e1]
    · rw [h2] at e1
      by_cases h3 : t0 t = kind <;> simp [go_sem, e1, h3]
  · rw [h] at e1
    rw [open_early h]
    simp [go_sem, e1]
end Go.Proofs.YtccoeoppjcegnaaGreat

namespace Go.Proofs.YtccoeoppjcegnaaGreat
open Go
set_option maxRecDepth 100000
set_option linter.unusedSimpArgs false
set_option linter.unusedVariables false
theorem l02Int_E (n : Int) : E CX 138 [.int .i64 n] [] = some { val := .bool (isNum n) } := by
  refine E_fin Tryz.f138 _ an138 rfl rfl rfl Tryz.func138 rfl (by kernel_rfl) ?_
  simp [go_sem, l01In_E, isNum]
theorem l02Kind_E (n : Int) : E CX 132 [.int .i64 n] [] = some { val := .bool (inn n 1 9) } := by
  refine E_fin Tryz.f132 _ an132 rfl rfl rfl Tryz.func132 rfl (by kernel_rfl) ?_
  simp [go_sem, l01In_E]
theorem l02Ints_E (l : List Int) (hl : l.length ≤ 1073741824) : E CX 135 [.sl 1 (l.map (.int .i64))] [] = some { val := .bool (intsOK l) } := by
  refine E_fin Tryz.f135 _ an135 rfl rfl rfl Tryz.func135 rfl (by kernel_rfl) ?_
  simp [go_sem]
  refine loop_for (fun X => fin CX _ _ X = _) l (fun n _ => True) (fun n (_ : Unit) => ⟨SS [(0, .sl 1 (l.map (.int .i64))), (3, .int .i64 n)], HE⟩) (fun r n _ => match r.all isNum with
    | true => (.exit 0, ⟨SS [(0, .sl 1 (l.map (.int .i64)))], HE⟩)
    | false => (.ret, ⟨SS [(2, .bool false)], HE⟩)) () trivial ?_ ?_ ?_ ?_ ?_
  · simp [go_sem]
  · intro R n _ x r hn hx hd _ hR
    have hx := hx hn
    have e1 := l02Int_E x
    cases c : isNum x
    · rw [c] at e1
      simp only [List.all_cons, c, Bool.false_and]
      simp [go_sem, hn, hx, e1]
    · rw [c] at e1
      have := hR () trivial (by simp only [List.all_cons, c, Bool.true_and])
      simp only [List.all_cons, c, Bool.true_and]
      simp [go_sem] at this
      simp [go_sem, hn, hx, e1, wrap_id (n := (n : Int) + 1) (by omega)]
      exact this
  · intro _ _; simp [go_sem]
  · intro _; simp
  · unfold intsOK
    cases c : l.all isNum
    · simp only []
      simp [go_sem]
    · simp only []
      simp [go_sem]
      omega
theorem l02Sum_E (t : Tx) (ht : t.length ≤ 1000000) : E CX 120 [.str t] [] = some { val := .int .i64 (sumF t 1 0) } := by
  refine E_fin Tryz.f120 _ an120 rfl rfl rfl Tryz.func120 rfl (by kernel_rfl) ?_
  simp [go_sem]
  refine loop_for (fun X => fin CX _ _ X = _) t (fun n (a : Int) => 0 ≤ a ∧ a < 251) (fun n a => ⟨SS [(0, .str t), (3, .int .i64 a), (4, .int .i64 n)], HE⟩) (fun r n a => (.exit 0, ⟨SS [(3, .int .i64 (sumF r (n + 1) a))], HE⟩)) 0 (by omega) ?_ ?_ ?_ ?_ ?_
  · simp [go_sem]
  · intro R n a b r hn hx hd hI hR
    have hx := hx hn
    have hb := b.toNat_lt
    have m1 : 0 ≤ ((n : Int) + 1) * ((b.toNat : Int) + 1) := Int.mul_nonneg (by omega) (by omega)
    have m2 : ((n : Int) + 1) * ((b.toNat : Int) + 1) ≤ 1000001 * 257 := Int.mul_le_mul (by omega) (by omega) (by omega) (by omega)
    have := hR ((a + ((n : Int) + 1) * ((b.toNat : Int) + 1)).tmod 251) (by rw [Int.tmod_eq_emod_of_nonneg (by omega)]; omega) (by simp [sumF])
    simp [go_sem] at this
    simp [go_sem, hn, hx, wrap_id (n := (n : Int) + 1) (by omega), wrap_id (n := (b.toNat : Int) + 1) (by omega), wrap_id (n := ((n : Int) + 1) * ((b.toNat : Int) + 1)) (by omega), wrap_id (n := a + ((n : Int) + 1) * ((b.toNat : Int) + 1)) (by omega)]
    exact this
  · intro _ _; simp [go_sem, sumF]
  · intro _; simp
  · simp [go_sem]
/-- A number, some bytes shifted out. -/
def shN (x : Int) : Nat → Int
  | 0 => x
  | 1 => x / 256
  | 2 => x / 65536
  | 3 => x / 16777216
  | _ => x / 4294967296
theorem l02Pack_E (l : List Int) (hl : l.length ≤ 1000) : E CX 119 [.sl 1 (l.map (.int .i64))] [] = some { val := .str (packF l) } := by
  refine E_fin Tryz.f119 _ an119 rfl rfl rfl Tryz.func119 rfl (by kernel_rfl) ?_
  simp [go_sem]
  refine loop_for (fun X => fin CX _ _ X = _) l (fun n (a : Tx) => a.length = 4 * n) (fun n a => ⟨SS [(0, .sl 1 (l.map (.int .i64))), (3, .ref [7] 0 a.length), (4, .int .i64 n)], HS [([7], ⟨false, 5, 1, a.map eByte⟩)]⟩)
    (fun r n a => (.exit 0, ⟨SS [(3, .ref [7] 0 (a ++ packF r).length)], HS [([7], ⟨false, 5, 1, (a ++ packF r).map eByte⟩)]⟩)) [] rfl ?_ ?_ ?_ ?_ ?_
  · simp [go_sem]
  · intro R n a x r hn hx hd hI hR
    have hx := hx hn
    have := hR (a ++ four x) (by simp [four, hI]; omega) (by simp [packF])
    simp [go_sem, four, eByte] at this
    simp [go_sem, hn, hx]
    refine loop_at (fun X => Back (keepSt an119 0) _ R X) (fun k : Nat => k ≤ 4) (fun k => ⟨SS [(0, .sl 1 (l.map (.int .i64))), (3, .ref [7] 0 (a ++ (four x).take k).length), (4, .int .i64 n), (5, .int .i64 (shN x k)), (6, .int .i64 k)], HS [([7], ⟨false, 5, 1, (a ++ (four x).take k).map eByte⟩)]⟩)
      (fun _ => (.exit 2, ⟨SS [(0, .sl 1 (l.map (.int .i64))), (3, .ref [7] 0 (a ++ four x).length), (4, .int .i64 n)], HS [([7], ⟨false, 5, 1, (a ++ four x).map eByte⟩)]⟩)) (fun k => 4 - k) 0 (by omega) ?_ ?_ ?_
    · simp [go_sem, shN]
    · intro k hk
      have hf := (fd x).1
      by_cases c : k < 4
      · have : k = 0 ∨ k = 1 ∨ k = 2 ∨ k = 3 := by omega
        rcases this with rfl | rfl | rfl | rfl
        · simp [go_sem, shN, four, eByte, (fd x).1, show a.length + 1 ≤ 1073741824 by omega, show a.length ≤ 1073741823 by omega, wrap_id (n := (1 : Int)) (by omega)]
          refine ⟨1, by omega, by omega, ?_⟩
          simp [shN]
        · simp [go_sem, shN, four, eByte, (fd (x / 256)).1, show a.length + 1 + 1 ≤ 1073741824 by omega, show a.length + 2 ≤ 1073741824 by omega, show a.length ≤ 1073741822 by omega, wrap_id (n := (2 : Int)) (by omega)]
          refine ⟨2, by omega, by omega, ?_⟩
          simp [shN, show x / 256 / 256 = x / 65536 by omega]
        · simp [go_sem, shN, four, eByte, (fd (x / 65536)).1, show a.length + 2 + 1 ≤ 1073741824 by omega, show a.length + 3 ≤ 1073741824 by omega, show a.length ≤ 1073741821 by omega, wrap_id (n := (3 : Int)) (by omega)]
          refine ⟨3, by omega, by omega, ?_⟩
          simp [shN, show x / 65536 / 256 = x / 16777216 by omega]
        · simp [go_sem, shN, four, eByte, (fd (x / 16777216)).1, show a.length + 3 + 1 ≤ 1073741824 by omega, show a.length + 4 ≤ 1073741824 by omega, show a.length ≤ 1073741820 by omega, wrap_id (n := (4 : Int)) (by omega)]
          refine ⟨4, by omega, by omega, ?_⟩
          simp [shN, show x / 16777216 / 256 = x / 4294967296 by omega]
      · obtain rfl : k = 4 := by omega
        simp [go_sem, four]
    · simp [go_sem, four, eByte, wrap_id (n := (n : Int) + 1) (by omega)]
      exact this
  · intro a hI; simp [go_sem, packF]
  · intro _; simp
  · have := packF_length l
    simp [go_sem, show (packF l).length ≤ 1099511627776 by omega]
theorem l02Seal_E (kind : Int) (l : List Int) (hl : l.length ≤ 1000) : E CX 96 [.int .i64 kind, .sl 1 (l.map (.int .i64))] [] = some { val := .str (sealF kind l) } := by
  refine E_fin Tryz.f96 _ an96 rfl rfl rfl Tryz.func96 rfl (by kernel_rfl) ?_
  have e1 := l02Pack_E l hl
  have hp := packF_length l
  have e2 := l02Sum_E ([byteOf kind, byteOf l.length] ++ packF l) (by simp; omega)
  simp at e2
  simp [go_sem, e1, e2, sealF, show 2 + (packF l).length ≤ 4611686018427387904 by omega, show (packF l).length + 1 + 1 + 2 ≤ 4611686018427387904 by omega, show 2 + (2 + (packF l).length) ≤ 4611686018427387904 by omega, show 2 + 2 + (packF l).length ≤ 4611686018427387904 by omega, show 4 + (packF l).length ≤ 4611686018427387904 by omega]
end Go.Proofs.YtccoeoppjcegnaaGreat

namespace Go.Proofs.YtccoeoppjcegnaaGreat
open Go
set_option maxRecDepth 100000
set_option linter.unusedSimpArgs false
set_option linter.unusedVariables false
theorem or_byte (b : UInt8) (m : Int) (h : 0 ≤ m ∧ m < 16777216) : IntKind.i64.wrap ((BitVec.ofInt 64 (m * 256) ||| BitVec.ofNat 64 b.toNat).toNat : Int) = m * 256 + b.toNat := by
  have h1 := b.toNat_lt
  obtain ⟨k, rfl⟩ : ∃ k : Nat, m = k := ⟨m.toNat, by omega⟩
  have := or_add 8 b.toNat k (by omega) (by omega)
  rw [BitVec.ofInt_natCast] at this
  simp only [Nat.reducePow, Int.natCast_mul, Int.natCast_add, Int.cast_ofNat_Int] at this
  rw [BitVec.or_comm]
  exact this.trans (by omega)
theorem or_byte0 (b : UInt8) : IntKind.i64.wrap ((0#64 ||| BitVec.ofNat 64 b.toNat).toNat : Int) = b.toNat := by
  have := or_byte b 0 (by omega)
  simpa using this
/-- What is gathered of four bytes, from the last on. -/
def gath (a b c d : UInt8) : Nat → Int
  | 0 => 0
  | 1 => d.toNat
  | 2 => (d.toNat : Int) * 256 + c.toNat
  | 3 => ((d.toNat : Int) * 256 + c.toNat) * 256 + b.toNat
  | _ => numOf a b c d
def uval (t : Tx) : List Int := if t.length % 4 = 0 then nums t else []
theorem l02Unpack_E (t : Tx) (ht : t.length ≤ 1000000) : E CX 133 [.str t] [] = some { val := .tuple [.ref [0, 0, 0, 0] 0 (uval t).length, .bool (decide (t.length % 4 = 0) && intsOK (nums t))], own := [⟨false, 3, 1, (uval t).map (.int .i64)⟩] } := by
  refine E_fin Tryz.f133 _ an133 rfl rfl rfl Tryz.func133 rfl (by kernel_rfl) ?_
  have hm : ((t.length : Int).tmod 4 = 0) ↔ t.length % 4 = 0 := by rw [Int.tmod_eq_emod_of_nonneg (by omega)]; omega
  unfold uval
  by_cases c : t.length % 4 = 0
  · have hl := nums_length t.length t rfl
    have e1 := l02Ints_E (nums t) (by omega)
    simp [go_sem, hm.2 c, c]
    generalize hL : nums t = L at *
    refine loop_at (fun X => fin CX _ _ X = _) (fun x : Nat × List Int => 4 * x.1 ≤ t.length ∧ x.2.length = x.1 ∧ L = x.2 ++ nums (t.drop (4 * x.1))) (fun x => ⟨SS [(0, .str t), (4, .ref [8] 0 x.2.length), (5, .int .i64 (4 * x.1 : Nat))], HS [([8], ⟨false, 3, 1, x.2.map (.int .i64)⟩)]⟩)
      (fun x => (.exit 0, ⟨SS [(4, .ref [8] 0 L.length)], HS [([8], ⟨false, 3, 1, L.map (.int .i64)⟩)]⟩)) (fun x => t.length - 4 * x.1) (0, []) ⟨by omega, rfl, by simp [hL]⟩ ?_ ?_ ?_
    · simp [go_sem]
    · rintro ⟨n, l⟩ ⟨h1, h3, h4⟩
      simp only at h1 h3 h4
      by_cases c1 : 4 * n < t.length
      · obtain ⟨a, b, c, d, i0, i1, i2, i3, hd⟩ := nums_cut (t := t) (n := n) (by omega)
        have g0 := ge_of i0; have g1 := ge_of i1; have g2 := ge_of i2; have g3 := ge_of i3
        have b0 := a.toNat_lt; have b1 := b.toNat_lt; have b2 := c.toNat_lt; have b3 := d.toNat_lt
        simp [go_sem, show 4 * (n : Int) < t.length by omega]
        refine loop_at (fun X => Back (keepSt an133 0) _ _ X) (fun k : Nat => k ≤ 4) (fun k => ⟨SS [(0, .str t), (4, .ref [8] 0 l.length), (5, .int .i64 (4 * n : Nat)), (6, .int .i64 (gath a b c d k)), (7, .int .i64 (3 - k))], HS [([8], ⟨false, 3, 1, l.map (.int .i64)⟩)]⟩)
          (fun _ => (.exit 2, ⟨SS [(0, .str t), (4, .ref [8] 0 l.length), (5, .int .i64 (4 * n : Nat)), (6, .int .i64 (numOf a b c d))], HS [([8], ⟨false, 3, 1, l.map (.int .i64)⟩)]⟩)) (fun k => 4 - k) 0 (by omega) ?_ ?_ ?_
        · simp [go_sem, gath]
        · intro k hk
          by_cases ck : k < 4
          · have : k = 0 ∨ k = 1 ∨ k = 2 ∨ k = 3 := by omega
            rcases this with rfl | rfl | rfl | rfl
            · have q := or_byte0 d
              simp [go_sem, gath, i3, g3, wrap_id (n := 4 * (n : Int) + 3) (by omega), show (4 * (n : Int) + 3).toNat = 4 * n + 3 by omega, show 4 * n + 3 < t.length by omega, show 0 ≤ 4 * (n : Int) + 3 by omega, q, wrap_id (n := (0 : Int)) (by omega), wrap_id (n := (2 : Int)) (by omega)]
              refine ⟨1, by omega, by omega, ?_⟩
              simp [gath]
              exact congrArg (fun z : Int => U (U (U (U (U D0 7 _) 6 (AV.int .i64 z)) 5 _) 4 _) 0 _) q
            · have q := or_byte c d.toNat (by omega)
              simp [go_sem, gath, i2, g2, wrap_id (n := 4 * (n : Int) + 2) (by omega), show (4 * (n : Int) + 2).toNat = 4 * n + 2 by omega, show 4 * n + 2 < t.length by omega, show 0 ≤ 4 * (n : Int) + 2 by omega, q, wrap_id (n := (d.toNat : Int) * 256) (by omega), wrap_id (n := (2 : Int)) (by omega), wrap_id (n := (1 : Int)) (by omega)]
              refine ⟨2, by omega, by omega, ?_⟩
              simp [gath]
              exact congrArg (fun z : Int => U (U (U (U (U D0 7 _) 6 (AV.int .i64 z)) 5 _) 4 _) 0 _) q
            · have q := or_byte b ((d.toNat : Int) * 256 + c.toNat) (by omega)
              simp [go_sem, gath, i1, g1, wrap_id (n := 4 * (n : Int) + 1) (by omega), show (4 * (n : Int) + 1).toNat = 4 * n + 1 by omega, show 4 * n + 1 < t.length by omega, show 0 ≤ 4 * (n : Int) + 1 by omega, q, wrap_id (n := ((d.toNat : Int) * 256 + c.toNat) * 256) (by omega), wrap_id (n := (1 : Int)) (by omega), wrap_id (n := (0 : Int)) (by omega)]
              refine ⟨3, by omega, by omega, ?_⟩
              simp [gath]
              exact congrArg (fun z : Int => U (U (U (U (U D0 7 _) 6 (AV.int .i64 z)) 5 _) 4 _) 0 _) q
            · have q := or_byte a (((d.toNat : Int) * 256 + c.toNat) * 256 + b.toNat) (by omega)
              simp [go_sem, gath, i0, g0, wrap_id (n := 4 * (n : Int)) (by omega), show (4 * (n : Int)).toNat = 4 * n by omega, show 4 * n < t.length by omega, show 0 ≤ 4 * (n : Int) by omega, q, wrap_id (n := (((d.toNat : Int) * 256 + c.toNat) * 256 + b.toNat) * 256) (by omega), wrap_id (n := (0 : Int)) (by omega), wrap_id (n := (-1 : Int)) (by omega)]
              refine ⟨4, by omega, by omega, ?_⟩
              have q2 := q.trans (show (((d.toNat : Int) * 256 + c.toNat) * 256 + b.toNat) * 256 + a.toNat = numOf a b c d by unfold numOf; omega)
              simp [gath]
              exact congrArg (fun z : Int => U (U (U (U (U D0 7 _) 6 (AV.int .i64 z)) 5 _) 4 _) 0 _) q2
          · obtain rfl : k = 4 := by omega
            simp [go_sem, gath]
        · have hl2 : l.length ≤ 1073741823 := by omega
          simp [go_sem, wrap_id (n := 4 * (n : Int) + 4) (by omega), hl2]
          refine ⟨n + 1, l ++ [numOf a b c d], ⟨by omega, by simp [h3], ?_⟩, by omega, ?_⟩
          · rw [h4, hd]; simp [nums]
          · simp [Int.mul_add]
      · have : L = l := by rw [h4, nums_short (by simp; omega)]; simp
        subst this
        simp [go_sem, show ¬ 4 * (n : Int) < t.length by omega]
    · simp [go_sem, e1]
  · have c' : ¬ (t.length : Int).tmod 4 = 0 := fun q => c (hm.1 q)
    simp [go_sem, c', c]
theorem l02Open_E (t : Tx) (kind : Int) (ht : t.length ≤ 1000000) : E CX 128 [.str t, .int .i64 kind] [] = some (match openF t kind with
    | some l => { val := .tuple [.sl 1 (l.map (.int .i64)), .bool true] }
    | none => { val := .tuple [.ref [0, 0, 0, 0] 0 0, .bool false], own := [⟨false, 3, 1, []⟩] }) := by
  refine E_fin Tryz.f128 _ an128 rfl rfl rfl Tryz.func128 rfl (by kernel_rfl) ?_
  unfold openF
  by_cases h1 : 4 ≤ t.length
  · have hx : t[0]? = some (t.getD 0 0) := by rw [List.getElem?_eq_getElem (by omega)]; simp [List.getD, show 0 < t.length by omega]
    have hg := ge_of hx
    have e1 := l02Kind_E kind
    have e2 := l02Unpack_E (t.drop 4) (by simp; omega)
    simp only [List.length_drop] at e2
    generalize t.getD 0 0 = b0 at *
    by_cases h2 : (b0.toNat : Int) = kind
    · have hw : IntKind.i64.wrap kind = kind := by rw [← h2]; exact wrap_byte b0
      cases h3 : inn kind 1 9
      · rw [h3] at e1
        simp [go_sem, h1, h2, hw, show ¬ (t.length : Int) < 4 by omega, hx, hg, show 0 < t.length by omega, e1]
      · rw [h3] at e1
        cases h4 : (decide ((t.length - 4) % 4 = 0) && intsOK (nums (t.drop 4)))
        · rw [h4] at e2
          have : ¬ (t.length % 4 = 0 ∧ intsOK (nums (t.drop 4)) = true ∧ sealF kind (nums (t.drop 4)) = t) := by
            rintro ⟨q1, q2, _⟩
            rw [q2] at h4
            simp at h4
            omega
          simp [go_sem, h1, h2, hw, this, show ¬ (t.length : Int) < 4 by omega, hx, hg, show 0 < t.length by omega, e1, e2]
        · rw [h4] at e2
          simp only [Bool.and_eq_true, decide_eq_true_eq] at h4
          have hu : uval (t.drop 4) = nums (t.drop 4) := by unfold uval; rw [if_pos (by simp; exact h4.1)]
          rw [hu] at e2
          have hl := intsOK_len h4.2
          have e3 := l02Seal_E kind (nums (t.drop 4)) (by omega)
          by_cases h5 : sealF kind (nums (t.drop 4)) = t
          · rw [h5] at e3
            simp [go_sem, h1, h2, hw, h4.2, h5, show t.length % 4 = 0 by omega, show ¬ (t.length : Int) < 4 by omega, hx, hg, show 0 < t.length by omega, e1, e2, e3]
          · simp [go_sem, h1, h2, hw, h4.2, h5, show t.length % 4 = 0 by omega, show ¬ (t.length : Int) < 4 by omega, hx, hg, show 0 < t.length by omega, e1, e2, e3]
    · simp [go_sem, h1, h2, show ¬ (t.length : Int) < 4 by omega, hx, hg, show 0 < t.length by omega]
  · simp [go_sem, h1, show (t.length : Int) < 4 by omega]
end Go.Proofs.YtccoeoppjcegnaaGreat

namespace Go.Proofs.YtccoeoppjcegnaaGreat
open Go
set_option maxRecDepth 100000
set_option linter.unusedSimpArgs false
set_option linter.unusedVariables false
structure Update where
  at_ : Int
  data : List UInt8
  deriving Inhabited, DecidableEq
def eUpdate (x : Update) : AV := .agg [.int .i64 (x.at_), .str (x.data)]
theorem sharesL_eUpdate (l : List Update) : AV.sharesL (l.map eUpdate) = false := sharesL_map (fun _ => by simp [eUpdate, go_sem]) l
theorem sharesL_repeUpdate (n : Nat) (x : Update) : AV.sharesL (List.replicate n (eUpdate x)) = false := sharesL_rep _ (by simp [eUpdate, go_sem]) n
attribute [go_sem] sharesL_eUpdate sharesL_repeUpdate
def mkUpdate (k : Int) (n : Nat) : List Update := (List.range n).map fun i : Nat => ⟨k + 2 * i + 0, mt (k + 2 * i + 1)⟩
theorem mkUpdate_succ (k : Int) (n : Nat) : mkUpdate k (n + 1) = mkUpdate k n ++ [⟨k + 2 * n + 0, mt (k + 2 * n + 1)⟩] := by simp [mkUpdate, List.range_succ]
theorem mkUpdate_length (k : Int) (n : Nat) : (mkUpdate k n).length = n := by simp [mkUpdate]
end Go.Proofs.YtccoeoppjcegnaaGreat


namespace Go.Proofs.YtccoeoppjcegnaaGreat
open Go
set_option maxRecDepth 100000
set_option linter.unusedSimpArgs false
set_option linter.unusedVariables false
end Go.Proofs.YtccoeoppjcegnaaGreat


namespace Go.Proofs.YtccoeoppjcegnaaGreat
open Go
set_option maxRecDepth 100000
set_option linter.unusedSimpArgs false
set_option linter.unusedVariables false
def moveOK (m : Move) : Bool := if m.kind = 2 then decide (m.at_ = 0) && decide (m.data = []) else decide (m.kind = 1) && inn m.at_ 0 63 && decide (m.data.length ≤ 80)
/-- One move; what is behind the writes in their row. -/
def mvT (h : Int) (a : Disk × List Io) (m : Move) : Disk × List Io := if m.kind = 2 then (settleD a.1 h 400 false, List.replicate (a.1.ps.length - (settleD a.1 h 400 false).ps.length) zIo) else (⟨a.1.ss, a.1.ps ++ [⟨h, m.at_, m.data⟩]⟩, [])
structure Good (d : Disk) (n : Nat) : Prop where
  ss : d.ss.length = 64
  ps : d.ps.length ≤ n
  at_ : ∀ x ∈ d.ps, 0 ≤ x.at_ ∧ x.at_.toNat < 64
theorem Good.settle {d : Disk} {n : Nat} (g : Good d n) (h k : Int) (lose : Bool) : Good (settleD d h k lose) n := by
  have := landL_len h lose d.ps k d.ss
  exact ⟨by simp only [settleD]; rw [this.2, g.ss], by simp only [settleD]; have := g.ps; omega, landL_all h lose (fun x => 0 ≤ x.at_ ∧ x.at_.toNat < 64) d.ps k d.ss g.at_⟩
end Go.Proofs.YtccoeoppjcegnaaGreat


namespace Go.Proofs.YtccoeoppjcegnaaGreat
open Go
set_option maxRecDepth 100000
set_option linter.unusedSimpArgs false
set_option linter.unusedVariables false
theorem l01Own_E (d : Disk) (h1 : d.ss.length ≤ 1073741824) (h2 : d.ps.length ≤ 1073741824) : E CX 25 [eDisk d] [] = some { val := .agg [.ref [0, 0, 0, 0] 0 d.ss.length, .ref [1, 0, 0, 0] 0 d.ps.length], own := [⟨false, 9, 1, d.ss.map .str⟩, ⟨false, 78, 3, d.ps.map eIo⟩] } := by
  refine E_fin Tryz.f25 _ an25 rfl rfl rfl Tryz.func25 rfl (by kernel_rfl) ?_
  simp [go_sem, eDisk, h1, h2]
theorem all_drop {α : Type} (q : α → Bool) {l : List α} {n : Nat} {x : α} {t : List α} (h : l.drop n = x :: t) : (l.drop n).all q = (q x && t.all q) := by rw [h]; rfl
theorem sDiskOK_E (d : Disk) (h1 : d.ss.length ≤ 1073741824) (h2 : d.ps.length ≤ 1073741824) : E CX 23 [eDisk d] [] = some { val := .bool (diskOK d) } := by
  refine E_fin Tryz.f23 _ an23 rfl rfl rfl Tryz.func23 rfl (by kernel_rfl) ?_
  unfold diskOK
  by_cases c1 : d.ss.length = 64
  · have c1' : (d.ss.length : Int) = 64 := by omega
    by_cases c3 : d.ps.length ≤ 200
    · have c3' : ¬ 200 < (d.ps.length : Int) := by omega
      simp [go_sem, eDisk, c1', c3']
      refine loop_for (fun X => fin CX _ _ X = _) d.ss (fun n _ => True) (fun n (_ : Unit) => ⟨SS [(1, .ptr [1] 0 0), (3, .int .i64 n)], HS [([1], ⟨true, 26, 2, [.agg [.sl 1 (d.ss.map .str), .sl 3 (d.ps.map eIo)]]⟩)]⟩)
        (fun r n _ => if r.all (fun s => decide (s.length ≤ 80)) then (.exit 0, ⟨SS [(1, .ptr [1] 0 0)], HS [([1], ⟨true, 26, 2, [.agg [.sl 1 (d.ss.map .str), .sl 3 (d.ps.map eIo)]]⟩)]⟩) else (.ret, ⟨SS [(2, .bool false)], HE⟩)) () trivial ?_ ?_ ?_ ?_ ?_
      · simp [go_sem]
      · intro R n _ x t hn hx hd _ hR
        have hx := hx hn
        by_cases cx : x.length ≤ 80
        · have := hR () trivial (by simp [cx])
          simp [go_sem] at this
          simp [go_sem, hn, hx, show ¬ 80 < (x.length : Int) by omega, wrap_id (n := (n : Int) + 1) (by omega)]
          exact this
        · simp [go_sem, hn, hx, show 80 < (x.length : Int) by omega, cx]
      · intro _ _; simp [go_sem]
      · intro _; simp
      · cases c2 : d.ss.all (fun s => decide (s.length ≤ 80))
        · simp [go_sem]
        · simp [go_sem]
          refine loop_for (fun X => fin CX _ _ X = _) d.ps (fun n _ => True) (fun n (_ : Unit) => ⟨SS [(1, .ptr [1] 0 0), (4, .int .i64 n)], HS [([1], ⟨true, 26, 2, [.agg [.sl 1 (d.ss.map .str), .sl 3 (d.ps.map eIo)]]⟩)]⟩)
            (fun r n _ => if r.all ioOK then (.exit 2, ⟨SS [], HE⟩) else (.ret, ⟨SS [(2, .bool false)], HE⟩)) () trivial ?_ ?_ ?_ ?_ ?_
          · simp [go_sem]
          · intro R n _ x t hn hx hd _ hR
            have hx := hx hn
            have e1 := l01Io_E x
            simp only [eIo] at e1
            cases cx : ioOK x
            · simp [go_sem, hn, hx, eIo, e1, cx]
            · have := hR () trivial (by simp [cx])
              simp [go_sem] at this
              simp [go_sem, hn, hx, eIo, e1, cx, wrap_id (n := (n : Int) + 1) (by omega)]
              exact this
          · intro _ _; simp [go_sem]
          · intro _; simp
          · cases c4 : d.ps.all ioOK <;> simp [go_sem, c1, c3]
    · have c3' : 200 < (d.ps.length : Int) := by omega
      simp [go_sem, eDisk, c1', c3', c3]
  · have c1' : ¬ (d.ss.length : Int) = 64 := by omega
    simp [go_sem, eDisk, c1, c1']
def askS (d : Disk) (host at_ : Int) : Int := if diskOK d then (if inn host 0 3 then (if inn at_ 0 63 then 0 else 14) else 4) else 1
theorem l01Ask_E (d : Disk) (host at_ : Int) (h1 : d.ss.length ≤ 1073741824) (h2 : d.ps.length ≤ 1073741824) : E CX 79 [eDisk d, .int .i64 host, .int .i64 at_] [] = some { val := .int .i64 (askS d host at_) } := by
  refine E_fin Tryz.f79 _ an79 rfl rfl rfl Tryz.func79 rfl (by kernel_rfl) ?_
  have e1 := sDiskOK_E d h1 h2
  have e2 := l01In_E host 0 3
  have e3 := l01In_E at_ 0 63
  simp only [eDisk] at e1
  unfold askS
  cases c1 : diskOK d
  · simp [go_sem, eDisk, e1, c1]
  · cases c2 : inn host 0 3
    · simp [go_sem, eDisk, e1, e2, c1, c2]
    · cases c3 : inn at_ 0 63 <;> simp [go_sem, eDisk, e1, e2, e3, c1, c2, c3]
end Go.Proofs.YtccoeoppjcegnaaGreat


namespace Go.Proofs.YtccoeoppjcegnaaGreat
open Go
set_option maxRecDepth 100000
set_option linter.unusedSimpArgs false
set_option linter.unusedVariables false
theorem openV_cases (t : Tx) (kind : Int) : (openF t kind = none ∧ (openV t kind = .tuple [.nil, .bool false] ∨ ∃ l : List Int, openV t kind = .tuple [.sl 1 (l.map (.int .i64)), .bool false])) ∨ (∃ l, openF t kind = some l ∧ openV t kind = .tuple [.sl 1 (l.map (.int .i64)), .bool true]) := by
  unfold openV
  cases h : early t
  · rw [open_late h]
    by_cases c : openB t = true ∧ t0 t = kind
    · right; exact ⟨LL t, by rw [if_pos c], by rw [if_pos c]; rfl⟩
    · left; exact ⟨by rw [if_neg c], .inr ⟨LL t, by rw [if_neg c]; rfl⟩⟩
  · rw [open_early h]
    left; exact ⟨rfl, .inl rfl⟩
def updOK (u : Update) : Bool := inn u.at_ 9 38 && decide (u.data.length ≤ 72)
def updF (t : Tx) : Option Update :=
  if t.length < 8 then none else match openF (t.take 8) 8 with
    | some [a] => if updOK ⟨a, t.drop 8⟩ then some ⟨a, t.drop 8⟩ else none
    | _ => none
/-- What reading an update answers. -/
def updV (o : Option Update) : AV := match o with
  | some u => .tuple [eUpdate u, .bool true]
  | none => .tuple [.agg [.int .i64 0, .str []], .bool false]
theorem read_E (d : Disk) (h a : Int) (ha : 0 ≤ a ∧ a.toNat < d.ss.length) (h2 : d.ps.length ≤ 1073741824) : E CX 33 [eDisk d, .int .i64 h, .int .i64 a] [] = some { val := .str (rdL d.ss d.ps h a) } := by
  refine E_ext rfl ?_
  show X0 33 _ [] = _
  unfold X0
  rw [if_pos rfl]
  exact readX_of ⟨rfl, ha.1, ha.2, h2⟩
theorem l01Read_E (d : Disk) (h a : Int) (ha : 0 ≤ a ∧ a.toNat < d.ss.length) (h2 : d.ps.length ≤ 1073741824) : E CX 110 [eDisk d, .int .i64 h, .int .i64 a] [] = some { val := .str (rdL d.ss d.ps h a) } := by
  refine E_fin Tryz.f110 _ an110 rfl rfl rfl Tryz.func110 rfl (by kernel_rfl) ?_
  have hx : d.ss[a.toNat]? = some (d.ss.getD a.toNat []) := by rw [List.getElem?_eq_getElem ha.2]; simp [List.getD, ha.2]
  have hg := ge_of hx
  simp [go_sem, eDisk, wrap_id (n := (d.ps.length : Int) - 1) (by omega)]
  refine loop_at (fun X => fin CX _ _ X = _) (fun n : Nat => n ≤ d.ps.length) (fun n => ⟨SS [(1, .int .i64 h), (2, .int .i64 a), (3, .ptr [3] 0 0), (7, .int .i64 ((n : Int) - 1))], HS [([3], ⟨true, 26, 2, [.agg [.sl 1 (d.ss.map .str), .sl 3 (d.ps.map eIo)]]⟩)]⟩)
    (fun n => match rdN h a d.ps n with
      | some t => (.ret, ⟨SS [(6, .str t)], HE⟩)
      | none => (.exit 0, ⟨SS [(2, .int .i64 a), (3, .ptr [3] 0 0)], HS [([3], ⟨true, 26, 2, [.agg [.sl 1 (d.ss.map .str), .sl 3 (d.ps.map eIo)]]⟩)]⟩)) (fun n => n) d.ps.length (by omega) ?_ ?_ ?_
  · simp [go_sem]
  · intro n hn
    cases n with
    | zero => simp [go_sem, rdN]
    | succ n =>
      have hy : d.ps[n]? = some (d.ps.getD n default) := by rw [List.getElem?_eq_getElem (by omega)]; simp [List.getD, show n < d.ps.length by omega]
      have hgy := ge_of hy
      generalize d.ps.getD n default = x at *
      obtain ⟨xh, xa, xd⟩ := x
      have ei : (((n + 1 : Nat) : Int) - 1) = (n : Int) := by omega
      by_cases c1 : xh = h
      · by_cases c2 : xa = a
        · simp [go_sem, rdN, hy, hgy, c1, c2, eIo, ei, show n < d.ps.length by omega, show (n : Int) + 1 - 1 = n by omega]
        · simp [go_sem, rdN, hy, hgy, c1, c2, eIo, ei, show n < d.ps.length by omega, show (n : Int) + 1 - 1 = n by omega, wrap_id (n := (n : Int) - 1) (by omega)]
          exact ⟨n, by omega, by omega, rfl, rfl⟩
      · simp [go_sem, rdN, hy, hgy, c1, eIo, ei, show n < d.ps.length by omega, show (n : Int) + 1 - 1 = n by omega, wrap_id (n := (n : Int) - 1) (by omega)]
        exact ⟨n, by omega, by omega, rfl, rfl⟩
  · unfold rdL
    cases hr : rdN h a d.ps d.ps.length with
    | some t => simp [go_sem]
    | none =>
      simp only []
      generalize d.ss.getD a.toNat [] = s0 at *
      simp [go_sem, ha.1, ha.2, hg]
end Go.Proofs.YtccoeoppjcegnaaGreat


namespace Go.Proofs.YtccoeoppjcegnaaGreat
open Go
set_option maxRecDepth 100000
set_option linter.unusedSimpArgs false
set_option linter.unusedVariables false
theorem l01Land_E (d : Disk) (h k : Int) (lose : Bool) (h1 : d.ss.length ≤ 1073741824) (h2 : d.ps.length ≤ 1000000000) (hp : ∀ x ∈ d.ps, 0 ≤ x.at_ ∧ x.at_.toNat < d.ss.length) (hk : In64 k) :
    E CX 115 [eDisk d, .int .i64 h, .int .i64 k, .bool lose] [] = some { val := .agg [.ref [0, 0, 0, 0] 0 d.ss.length, .ref [1, 0, 0, 0] 0 (settleD d h k lose).ps.length], own := [⟨false, 9, 1, (settleD d h k lose).ss.map .str⟩, ⟨false, 78, 3, (settleD d h k lose).ps.map eIo⟩] } := by
  refine E_fin Tryz.f115 _ an115 rfl rfl rfl Tryz.func115 rfl (by kernel_rfl) ?_
  have e1 := l01Own_E d h1 (by omega)
  simp only [eDisk] at e1
  simp [go_sem, eDisk, e1]
  refine loop_for (fun X => fin CX _ _ X = _) d.ps (fun n (a : List Io × Int × List Tx) => In64 a.2.1 ∧ a.2.2.length = d.ss.length ∧ a.1.length ≤ n)
    (fun n a => ⟨SS [(1, .int .i64 h), (2, .int .i64 a.2.1), (3, .bool lose), (4, .ptr [4] 0 0), (8, .ptr [8] 0 0), (9, .ref [14] 0 a.1.length), (10, .int .i64 n)],
      HS [([4], ⟨true, 26, 2, [.agg [.ref [60] 0 d.ss.length, .ref [61] 0 d.ps.length]]⟩), ([8], ⟨true, 26, 2, [.agg [.nil, .nil]]⟩), ([14], ⟨false, 78, 3, a.1.map eIo⟩), ([60], ⟨false, 9, 1, a.2.2.map .str⟩), ([61], ⟨false, 78, 3, d.ps.map eIo⟩)]⟩)
    (fun r n a => (.exit 0, ⟨SS [(4, .ptr [4] 0 0), (8, .ptr [8] 0 0), (9, .ref [14] 0 (a.1 ++ (landL h lose r a.2.1 a.2.2).1).length)],
      HS [([4], ⟨true, 26, 2, [.agg [.ref [60] 0 d.ss.length, .ref [61] 0 d.ps.length]]⟩), ([8], ⟨true, 26, 2, [.agg [.nil, .nil]]⟩), ([14], ⟨false, 78, 3, (a.1 ++ (landL h lose r a.2.1 a.2.2).1).map eIo⟩), ([60], ⟨false, 9, 1, (landL h lose r a.2.1 a.2.2).2.2.map .str⟩), ([61], ⟨false, 78, 3, d.ps.map eIo⟩)]⟩)) ([], k, d.ss) ⟨hk, rfl, by simp⟩ ?_ ?_ ?_ ?_ ?_
  · simp [go_sem]
  · rintro R n ⟨q, k, ss⟩ x t hn hx hd ⟨I1, I2, I3⟩ hR
    simp only at I1 I2 I3
    have hx := hx hn
    have hxp := hp x (by rw [← hx]; exact List.getElem_mem hn)
    obtain ⟨xh, xa, xd⟩ := x
    unfold In64 at I1
    by_cases c1 : xh = h
    · by_cases c2 : 0 < k
      · have := hR (q, k - 1, ss.set xa.toNat xd) ⟨by simp only [In64]; omega, by simp [I2], by simp only; omega⟩ (by simp [landL, goes, kOf, sOf, c1, c2])
        simp [go_sem] at this
        simp [go_sem, hn, hx, eIo, c1, c2, I2, hxp.1, hxp.2, wrap_id (n := (n : Int) + 1) (by omega), wrap_id (n := k - 1) (by omega)]
        exact this
      · cases lose
        · have := hR (q ++ [⟨xh, xa, xd⟩], k, ss) ⟨by simp only [In64]; omega, I2, by simp only [List.length_append, List.length_singleton]; omega⟩ (by simp [landL, goes, c1, c2])
          simp [go_sem, eIo, c1] at this
          simp [go_sem, hn, hx, eIo, c1, c2, show q.length + 1 ≤ 1073741824 by omega, wrap_id (n := (n : Int) + 1) (by omega)]
          exact this
        · have := hR (q, k, ss) ⟨by simp only [In64]; omega, I2, by simp only; omega⟩ (by simp [landL, goes, kOf, sOf, c1, c2])
          simp [go_sem] at this
          simp [go_sem, hn, hx, eIo, c1, c2, wrap_id (n := (n : Int) + 1) (by omega)]
          exact this
    · have := hR (q ++ [⟨xh, xa, xd⟩], k, ss) ⟨by simp only [In64]; omega, I2, by simp only [List.length_append, List.length_singleton]; omega⟩ (by simp [landL, goes, c1])
      simp [go_sem, eIo] at this
      simp [go_sem, hn, hx, eIo, c1, show q.length + 1 ≤ 1073741824 by omega, wrap_id (n := (n : Int) + 1) (by omega)]
      exact this
  · rintro ⟨q, k, ss⟩ hI
    simp [go_sem, landL]
  · intro _; simp
  · simp [go_sem, settleD]
theorem l01Flush_E (d : Disk) (h : Int) (g : Good d 1000000000) :
    E CX 84 [eDisk d, .int .i64 h] [] = some { val := eDisk (settleD d h 200 false) } := by
  refine E_fin Tryz.f84 _ an84 rfl rfl rfl Tryz.func84 rfl (by kernel_rfl) ?_
  have e1 := l01Land_E d h 200 false (by have := g.ss; omega) g.ps (by rw [g.ss]; exact g.at_) (by unfold In64; omega)
  have hss : (settleD d h 200 false).ss.length = d.ss.length := (g.settle h 200 false).ss.trans g.ss.symm
  simp only [eDisk] at e1 ⊢
  rw [← hss] at e1
  simp [go_sem, e1]
theorem l01Write_E (d : Disk) (x : Io) (h2 : d.ps.length ≤ 1000000000) :
    E CX 85 [eDisk d, eIo x] [] = some { val := .agg [.sl 1 (d.ss.map .str), .ref [0, 0, 0, 0] 0 (d.ps.length + 1)], own := [⟨false, 78, 3, (d.ps ++ [x]).map eIo⟩] } := by
  refine E_fin Tryz.f85 _ an85 rfl rfl rfl Tryz.func85 rfl (by kernel_rfl) ?_
  simp [go_sem, eDisk, eIo, show d.ps.length + 1 ≤ 1073741824 by omega, show d.ps.length ≤ 1073741824 by omega]
def mvS (h : Int) (d : Disk) (m : Move) : Disk := if m.kind = 2 then settleD d h 200 false else ⟨d.ss, d.ps ++ [⟨h, m.at_, m.data⟩]⟩
end Go.Proofs.YtccoeoppjcegnaaGreat


namespace Go.Proofs.YtccoeoppjcegnaaGreat
open Go
set_option maxRecDepth 100000
set_option linter.unusedSimpArgs false
set_option linter.unusedVariables false
def movesCode (d : Disk) (h : Int) (l : List Move) : Int := firstP [(decide (4096 < l.length), 2), (askC d h != 0, askC d h), (!l.all moveOK, 1)]
section
variable (d : Disk) (h : Int) (l : List Move)
end
end Go.Proofs.YtccoeoppjcegnaaGreat


namespace Go.Proofs.YtccoeoppjcegnaaGreat
open Go
set_option maxRecDepth 100000
set_option linter.unusedSimpArgs false
set_option linter.unusedVariables false
theorem movesCode_eq (d : Disk) (h : Int) (l : List Move) : movesCode d h l = if 4096 < l.length then 2 else if askS d h 0 ≠ 0 then askS d h 0 else if l.all moveOK = true then 0 else 1 := by
  have : askS d h 0 = askC d h := by unfold askS askC; cases diskOK d <;> cases inn h 0 3 <;> simp [inn]
  rw [this]
  unfold movesCode
  by_cases c1 : 4096 < l.length
  · simp [firstP, c1]
  · by_cases c2 : askC d h = 0
    · cases c3 : l.all moveOK <;> simp [firstP, c1, c2]
    · simp [firstP, c1, c2]
section
variable (d : Disk) (h : Int) (l : List Move)
end
/-! Both go alike. -/
theorem landL_room (h : Int) (lose : Bool) : ∀ (l : List Io) (k k' : Int) (ss : List Tx), (l.length : Int) ≤ k → (l.length : Int) ≤ k' → (landL h lose l k ss).1 = (landL h lose l k' ss).1 ∧ (landL h lose l k ss).2.2 = (landL h lose l k' ss).2.2 := by
  intro l
  induction l with
  | nil => intro k k' ss _ _; exact ⟨rfl, rfl⟩
  | cons x l ih =>
    intro k k' ss h1 h2
    simp only [List.length_cons, Int.natCast_add, Int.natCast_one] at h1 h2
    unfold landL
    by_cases c : x.host = h
    · have k1 : 0 < k := by omega
      have k2 : 0 < k' := by omega
      simp only [goes, kOf, sOf, c, k1, k2, if_true, and_self]
      exact ih _ _ _ (by omega) (by omega)
    · simp only [goes, c, if_false, Bool.false_eq_true]
      obtain ⟨e1, e2⟩ := ih k k' ss (by omega) (by omega)
      exact ⟨by rw [e1], e2⟩
theorem settle_room (d : Disk) (h k k' : Int) (lose : Bool) (h1 : (d.ps.length : Int) ≤ k) (h2 : (d.ps.length : Int) ≤ k') : settleD d h k lose = settleD d h k' lose := by
  obtain ⟨e1, e2⟩ := landL_room h lose d.ps k k' d.ss h1 h2
  simp only [settleD, e1, e2]
theorem moves_alike (h : Int) : ∀ (l : List Move) (d : Disk) (tl : List Io), d.ps.length + l.length ≤ 200 → (l.foldl (mvT h) (d, tl)).1 = l.foldl (mvS h) d := by
  intro l
  induction l with
  | nil => intro d tl _; rfl
  | cons m l ih =>
    intro d tl hl
    simp only [List.length_cons] at hl
    simp only [List.foldl_cons, mvT, mvS]
    by_cases c : m.kind = 2
    · simp only [c, if_true]
      rw [ih _ _ (by have := (landL_len h false d.ps 400 d.ss).1; simp only [settleD]; omega), settle_room d h 400 200 false (by omega) (by omega)]
    · simp only [c, if_false]
      exact ih _ _ (by simp; omega)
theorem moves_good (h : Int) : ∀ (l : List Move) (d : Disk) (n : Nat), Good d n → (∀ m ∈ l, m.kind ≠ 2 → 0 ≤ m.at_ ∧ m.at_.toNat < 64) → Good (l.foldl (mvS h) d) (n + l.length) := by
  intro l
  induction l with
  | nil => intro d n g _; exact g
  | cons m l ih =>
    intro d n g hm
    simp only [List.foldl_cons, List.length_cons]
    rw [show n + (l.length + 1) = n + 1 + l.length by omega]
    refine ih _ (n + 1) ?_ fun m hm' => hm m (by simp [hm'])
    unfold mvS
    by_cases c : m.kind = 2
    · have := g.settle h 200 false
      simp only [c, if_true]
      exact ⟨this.ss, by have := this.ps; omega, this.at_⟩
    · simp only [c, if_false]
      refine ⟨g.ss, by have := g.ps; simp; omega, ?_⟩
      intro x hx
      simp only [List.mem_append, List.mem_singleton] at hx
      rcases hx with hx | rfl
      · exact g.at_ x hx
      · exact hm m (by simp) c
theorem diskOK_good {d : Disk} (h : diskOK d = true) : Good d 200 := by
  unfold diskOK at h
  simp only [Bool.and_eq_true, decide_eq_true_eq, List.all_eq_true] at h
  obtain ⟨⟨⟨h1, h2⟩, h3⟩, h4⟩ := h
  refine ⟨h1, h3, fun x hx => ?_⟩
  have := h4 x hx
  simp [ioOK, inn] at this
  omega
theorem moveOK_at {m : Move} (h : moveOK m = true) (hk : m.kind ≠ 2) : 0 ≤ m.at_ ∧ m.at_.toNat < 64 := by
  simp [moveOK, hk, inn] at h
  omega
theorem code_zero {d : Disk} {h : Int} {l : List Move} (hc : movesCode d h l = 0) : diskOK d = true ∧ ∀ m ∈ l, m.kind ≠ 2 → 0 ≤ m.at_ ∧ m.at_.toNat < 64 := by
  rw [movesCode_eq] at hc
  by_cases c1 : 4096 < l.length
  · simp [c1] at hc
  · by_cases c2 : askS d h 0 = 0
    · have hd : diskOK d = true := by
        cases hd : diskOK d
        · simp [askS, hd] at c2
        · rfl
      refine ⟨hd, fun m hm hk => moveOK_at ?_ hk⟩
      cases c3 : l.all moveOK
      · simp [c1, c2, c3] at hc
      · exact List.all_eq_true.1 c3 m hm
    · simp [c1, c2] at hc
end Go.Proofs.YtccoeoppjcegnaaGreat


namespace Go.Proofs.YtccoeoppjcegnaaGreat
open Go
set_option maxRecDepth 100000
set_option linter.unusedSimpArgs false
set_option linter.unusedVariables false
/-- Updates of a slot, one behind the other, as far as they are right. -/
def updsR (d : Disk) (h b : Int) : Nat → Nat → List Update → Bool × List Update
  | 0, _, l => (true, l)
  | k + 1, i, l => match updF (rdL d.ss d.ps h (b + 1 + (i : Int))) with
    | some u => updsR d h b k (i + 1) (l ++ [u])
    | none => (false, l)
def waitF (d : Disk) (h of_ : Int) : Option (List Update × Int) :=
  if rdL d.ss d.ps h (39 + 6 * of_) = [] then some ([], 0) else match openF (rdL d.ss d.ps h (39 + 6 * of_)) 7 with
    | some [n, q] => if 5 < n then none else match updsR d h (39 + 6 * of_) n.toNat 0 [] with
      | (true, l) => some (l, q)
      | (false, _) => none
    | _ => none
theorem openF_nums {t : Tx} {kind : Int} {l : List Int} (h : openF t kind = some l) : ∀ n ∈ l, 0 ≤ n ∧ n ≤ 2147483647 := by
  unfold openF at h
  split at h
  · rename_i hc
    obtain ⟨_, _, _, _, h5, _⟩ := hc
    injection h with h
    subst h
    intro n hn
    simp [intsOK, isNum, inn] at h5
    exact h5.2 n hn
  · cases h
theorem rdL_len {d : Disk} (hd : diskOK d = true) (h a : Int) : (rdL d.ss d.ps h a).length ≤ 80 := by
  simp only [diskOK, Bool.and_eq_true, decide_eq_true_eq, List.all_eq_true] at hd
  obtain ⟨⟨⟨_, h2⟩, _⟩, h4⟩ := hd
  have hn : ∀ n t, rdN h a d.ps n = some t → t.length ≤ 80 := by
    intro n
    induction n with
    | zero => intro t ht; simp [rdN] at ht
    | succ n ih =>
      intro t ht
      unfold rdN at ht
      cases hx : d.ps[n]? with
      | none => rw [hx] at ht; exact ih t ht
      | some x =>
        rw [hx] at ht
        simp only at ht
        split at ht
        · injection ht with ht; subst ht
          have := h4 x (List.mem_of_getElem? hx)
          simp [ioOK] at this
          exact this.2
        · exact ih t ht
  unfold rdL
  cases hr : rdN h a d.ps d.ps.length with
  | some t => exact hn _ _ hr
  | none =>
    simp only []
    by_cases hi : a.toNat < d.ss.length
    · rw [List.getD_eq_getElem?_getD, List.getElem?_eq_getElem hi]
      exact h2 _ (List.getElem_mem hi)
    · rw [List.getD_eq_getElem?_getD, List.getElem?_eq_none (by omega)]; simp
theorem updsR_len (d : Disk) (h b : Int) : ∀ (k i : Nat) (l : List Update), (updsR d h b k i l).2.length ≤ l.length + k := by
  intro k
  induction k with
  | zero => intro i l; simp [updsR]
  | succ k ih =>
    intro i l
    unfold updsR
    cases updF (rdL d.ss d.ps h (b + 1 + (i : Int))) with
    | none => simp
    | some u => have := ih (i + 1) (l ++ [u]); simp at this ⊢; omega
section
variable (d : Disk) (h of_ : Int) (hd : diskOK d = true) (ho : 0 ≤ of_ ∧ of_ ≤ 3)
include hd ho
end
end Go.Proofs.YtccoeoppjcegnaaGreat


namespace Go.Proofs.YtccoeoppjcegnaaGreat
open Go
set_option maxRecDepth 100000
set_option linter.unusedSimpArgs false
set_option linter.unusedVariables false
def waitP (d : Disk) (h of_ : Int) : List Update × Int × Bool := match waitF d h of_ with
  | some (l, q) => (l, q, true)
  | none => ([], 0, false)
section
variable (d : Disk) (h of_ : Int) (hd : diskOK d = true) (ho : 0 ≤ of_ ∧ of_ ≤ 3)
include hd ho
end
def jcode (d : Disk) (h of_ : Int) : Int := if diskOK d then (if inn h 0 3 && inn of_ 0 3 then 0 else 4) else 1
theorem l04Host_E (n : Int) : E CX 44 [.int .i64 n] [] = some { val := .bool (inn n 0 3) } := by
  refine E_fin Tryz.f44 _ an44 rfl rfl rfl Tryz.func44 rfl (by kernel_rfl) ?_
  simp [go_sem, l01In_E]
/-- What JournalOf answers. -/
def jAns (d : Disk) (h of_ : Int) : List Update × Int × Int :=
  if jcode d h of_ ≠ 0 then ([], 0, jcode d h of_) else match waitF d h of_ with
    | some (l, q) => (l, q, 0)
    | none => ([], 0, 18)
theorem jcode_zero {d : Disk} {h of_ : Int} (hc : jcode d h of_ = 0) : diskOK d = true ∧ 0 ≤ of_ ∧ of_ ≤ 3 := by
  unfold jcode at hc
  cases c1 : diskOK d
  · simp [c1] at hc
  · cases c2 : inn h 0 3 <;> cases c3 : inn of_ 0 3 <;> simp [c1, c2, c3] at hc
    simp [inn] at c3
    exact ⟨rfl, c3.1, c3.2⟩
end Go.Proofs.YtccoeoppjcegnaaGreat


namespace Go.Proofs.YtccoeoppjcegnaaGreat
open Go
set_option maxRecDepth 100000
set_option linter.unusedSimpArgs false
set_option linter.unusedVariables false
structure Delta where
  host : Int
  gen : Int
  stamp : Int
  deriving Inhabited, DecidableEq
def eDelta (x : Delta) : AV := .agg [.int .i64 (x.host), .int .i64 (x.gen), .int .i64 (x.stamp)]
theorem sharesL_eDelta (l : List Delta) : AV.sharesL (l.map eDelta) = false := sharesL_map (fun _ => by simp [eDelta, go_sem]) l
theorem sharesL_repeDelta (n : Nat) (x : Delta) : AV.sharesL (List.replicate n (eDelta x)) = false := sharesL_rep _ (by simp [eDelta, go_sem]) n
attribute [go_sem] sharesL_eDelta sharesL_repeDelta
end Go.Proofs.YtccoeoppjcegnaaGreat


namespace Go.Proofs.YtccoeoppjcegnaaGreat
open Go
set_option maxRecDepth 100000
set_option linter.unusedSimpArgs false
set_option linter.unusedVariables false
def dltOK (x : Delta) : Bool := inn x.host 0 3 && inn x.gen 1 1000000 && inn x.stamp 0 10000000
theorem isGen_E (n : Int) : E CX 31 [.int .i64 n] [] = some { val := .bool (inn n 1 1000000) } := by
  refine E_fin Tryz.f31 _ an31 rfl rfl rfl Tryz.func31 rfl (by kernel_rfl) ?_
  simp [go_sem, within_E]
def dltT (x : Delta) : Tx := sealF 9 [x.host, x.gen, x.stamp]
theorem l04Encode_E (x : Delta) : E CX 118 [eDelta x] [] = some { val := .str (dltT x) } := by
  refine E_fin Tryz.f118 _ an118 rfl rfl rfl Tryz.func118 rfl (by kernel_rfl) ?_
  have e1 := l02Seal_E 9 [x.host, x.gen, x.stamp] (by simp)
  simp at e1
  simp [go_sem, eDelta, e1, dltT]
def dltF (t : Tx) : Option Delta := match openF t 9 with
  | some [a, b, c] => if dltOK ⟨a, b, c⟩ then some ⟨a, b, c⟩ else none
  | _ => none
def zD : Delta := ⟨0, 0, 0⟩
def dltV (o : Option Delta) : AV := match o with
  | some x => .tuple [eDelta x, .bool true]
  | none => .tuple [eDelta zD, .bool false]
theorem len_ne3 (l : List Int) : ¬ ((l.length : Int) + 1 + 1 + 1 + 1 = 3) := by omega
/-- The generation of a host, as another one reads it. -/
def rdD (d : Disk) (h of_ : Int) : Option Delta := match dltF (rdL d.ss d.ps h (5 + of_)) with
  | some x => if x.host = of_ then some x else none
  | none => none
def rdD0 (d : Disk) (h of_ : Int) : Delta := (rdD d h of_).getD ⟨of_, 0, 0⟩
theorem isFull_E (d : Disk) : E CX 29 [eDisk d] [] = some { val := .bool (decide (d.ps.length = 200)) } := by
  refine E_fin Tryz.f29 _ an29 rfl rfl rfl Tryz.func29 rfl (by kernel_rfl) ?_
  by_cases c : d.ps.length = 200
  · simp [go_sem, eDisk, c]
  · simp [go_sem, eDisk, c]
    omega
/-- A write that settles at once. -/
def putD (d : Disk) (h a : Int) (t : Tx) : Disk := settleD ⟨d.ss, d.ps ++ [⟨h, a, t⟩]⟩ h 201 false
theorem put_E (d : Disk) (h a : Int) (t : Tx) (g : Good d 1000000) (ha : 0 ≤ a ∧ a.toNat < 64) : E CX 40 [eDisk d, .int .i64 h, .int .i64 a, .str t] [] = some { val := .agg [.ref [0, 0, 0, 0] 0 (putD d h a t).ss.length, .ref [1, 0, 0, 0] 0 (putD d h a t).ps.length], own := [⟨false, 9, 1, (putD d h a t).ss.map .str⟩, ⟨false, 78, 3, ((putD d h a t).ps ++ List.replicate (d.ps.length + 1 - (putD d h a t).ps.length) zIo).map eIo⟩] } := by
  refine E_fin Tryz.f40 _ an40 rfl rfl rfl Tryz.func40 rfl (by kernel_rfl) ?_
  have g1 := g.ss; have g2 := g.ps
  have e1 := copied_E d (by omega) (by omega)
  have e2 := settle_E ⟨d.ss, d.ps ++ [⟨h, a, t⟩]⟩ h 201 false (by simp only; omega) (by simp; omega) (by
    intro x hx
    simp only [List.mem_append, List.mem_singleton] at hx
    rcases hx with hx | rfl
    · have := g.at_ x hx; simp only; omega
    · simp only; omega) (by unfold In64; omega)
  have hss : (putD d h a t).ss.length = d.ss.length := by
    have := landL_len h false (d.ps ++ [⟨h, a, t⟩]) 201 d.ss
    exact this.2
  have hdef : settleD ⟨d.ss, d.ps ++ [⟨h, a, t⟩]⟩ h 201 false = putD d h a t := rfl
  rw [hdef] at e2
  rw [hss]
  generalize putD d h a t = r at *
  have hsh := sharesL_rep (eIo zIo) rfl (d.ps.length + 1 - r.ps.length)
  simp only [eDisk] at e1 e2
  simp [eIo] at e2 hsh
  simp [go_sem, eDisk, eIo, e1, show d.ps.length + 1 ≤ 1073741824 by omega, e2, hsh]
theorem l04Put_E (d : Disk) (x : Delta) (g : Good d 200) (hps : d.ps.length < 200) (ha : 0 ≤ x.host ∧ x.host ≤ 3) : E CX 93 [eDisk d, eDelta x] [] = some { val := eDisk (putD d x.host (5 + x.host) (dltT x)) } := by
  refine E_fin Tryz.f93 _ an93 rfl rfl rfl Tryz.func93 rfl (by kernel_rfl) ?_
  have g1 := g.ss; have g2 := g.ps
  have e1 := l04Encode_E x
  have e2 := l01Write_E d ⟨x.host, 5 + x.host, dltT x⟩ (by omega)
  have e3 := l01Flush_E ⟨d.ss, d.ps ++ [⟨x.host, 5 + x.host, dltT x⟩]⟩ x.host ⟨g1, by simp; omega, by
    intro y hy
    simp only [List.mem_append, List.mem_singleton] at hy
    rcases hy with hy | rfl
    · exact g.at_ y hy
    · simp only; omega⟩
  have hr : settleD ⟨d.ss, d.ps ++ [⟨x.host, 5 + x.host, dltT x⟩]⟩ x.host 200 false = putD d x.host (5 + x.host) (dltT x) := by
    unfold putD; exact settle_room _ _ _ _ _ (by simp; omega) (by simp; omega)
  rw [hr] at e3
  generalize putD d x.host (5 + x.host) (dltT x) = r at *
  simp only [eDisk, eDelta, eIo] at e1 e2 e3
  simp [eIo] at e2 e3
  simp [go_sem, eDisk, eDelta, eIo, e1, e2, e3, wrap_id (n := 5 + x.host) (by omega)]
end Go.Proofs.YtccoeoppjcegnaaGreat


namespace Go.Proofs.YtccoeoppjcegnaaGreat
open Go
set_option maxRecDepth 100000
set_option linter.unusedSimpArgs false
set_option linter.unusedVariables false
def tcode (d : Disk) (h now : Int) : Int := if diskOK d then (if inn h 0 3 && inn now 0 10000000 then (if d.ps.length = 200 then 7 else 0) else 4) else 1
theorem tcode_first (d : Disk) (h now : Int) : firstP [(!diskOK d, 1), (!inn h 0 3 || !inn now 0 10000000, 4), (decide (d.ps.length = 200), 7)] = tcode d h now := by
  unfold tcode
  cases diskOK d <;> cases inn h 0 3 <;> cases inn now 0 10000000 <;> by_cases c : d.ps.length = 200 <;> simp [firstP, c]
theorem tcode_zero {d : Disk} {h now : Int} (hc : tcode d h now = 0) : diskOK d = true ∧ (inn h 0 3 = true ∧ inn now 0 10000000 = true) ∧ 0 ≤ h ∧ h ≤ 3 ∧ d.ps.length < 200 := by
  unfold tcode at hc
  cases c1 : diskOK d
  · simp [c1] at hc
  · cases c2 : inn h 0 3 <;> cases c3 : inn now 0 10000000 <;> simp [c1, c2, c3] at hc
    have g := diskOK_good c1
    have := g.ps
    simp [inn] at c2
    exact ⟨rfl, ⟨rfl, rfl⟩, c2.1, c2.2, by omega⟩
theorem rdD_ok {d : Disk} {h of_ : Int} {x : Delta} (hx : rdD d h of_ = some x) : dltOK x = true ∧ x.host = of_ := by
  unfold rdD dltF at hx
  split at hx
  · rename_i y hy
    split at hx
    · rename_i hh
      injection hx with hx; subst hx
      refine ⟨?_, hh⟩
      split at hy
      · split at hy
        · rename_i a b c _ hok
          injection hy with hy; subst hy; exact hok
        · cases hy
      · cases hy
    · cases hx
  · cases hx
theorem rdD0_gen (d : Disk) (h of_ : Int) : 0 ≤ (rdD0 d h of_).gen ∧ (rdD0 d h of_).gen ≤ 1000000 ∧ (rdD0 d h of_).host = of_ := by
  unfold rdD0
  cases hx : rdD d h of_ with
  | none => simp
  | some x =>
    obtain ⟨h1, h2⟩ := rdD_ok hx
    simp [dltOK, inn] at h1
    simp only [Option.getD_some]
    omega
def mty : Disk := ⟨[], []⟩
/-- A new generation. -/
def nextD (d : Disk) (h now : Int) : Delta := ⟨h, (rdD0 d h h).gen + 1, now⟩
def takeA (d : Disk) (h now : Int) : Disk × Delta × Int :=
  if tcode d h now ≠ 0 then (mty, zD, tcode d h now) else if (rdD0 d h h).gen = 1000000 then (d, zD, 6) else (putD d h (5 + h) (dltT (nextD d h now)), nextD d h now, 0)
/-- How an answer of a disk is told: none, or rows of its own. -/
def toldOwn (r : Res) (a : Disk) (x : AV) (c : Int) : Prop :=
  (a = mty ∧ r = { val := .tuple [.agg [.nil, .nil], x, .int .i64 c] }) ∨
  ∃ tl : List Io, r = { val := .tuple [.agg [.ref [0, 0, 0, 0] 0 a.ss.length, .ref [1, 0, 0, 0] 0 a.ps.length], x, .int .i64 c], own := [⟨false, 9, 1, a.ss.map .str⟩, ⟨false, 78, 3, (a.ps ++ tl).map eIo⟩] }
def toldVal (r : Res) (a : Disk) (x : AV) (c : Int) : Prop :=
  (a = mty ∧ r = { val := .tuple [.agg [.nil, .nil], x, .int .i64 c] }) ∨ r = { val := .tuple [eDisk a, x, .int .i64 c] }
theorem putD_good (d : Disk) (h a : Int) (t : Tx) (n : Nat) (g : Good d n) (ha : 0 ≤ a ∧ a.toNat < 64) : Good (putD d h a t) (n + 1) := by
  have g' : Good ⟨d.ss, d.ps ++ [⟨h, a, t⟩]⟩ (n + 1) := by
    refine ⟨g.ss, by have := g.ps; simp; omega, ?_⟩
    intro x hx
    simp only [List.mem_append, List.mem_singleton] at hx
    rcases hx with hx | rfl
    · exact g.at_ x hx
    · exact ha
  exact g'.settle h 201 false
theorem takeA_len (d : Disk) (h now : Int) (b1 : d.ss.length ≤ 1048576) (b2 : d.ps.length ≤ 1048576) : (takeA d h now).1.ss.length ≤ 1048576 ∧ (takeA d h now).1.ps.length ≤ 1048577 := by
  unfold takeA
  split
  · simp [mty]
  · rename_i hc
    split
    · exact ⟨b1, by simp only; omega⟩
    · obtain ⟨hd, _, ho1, ho2, hps⟩ := tcode_zero (by simpa using hc)
      have gp := putD_good d h (5 + h) (dltT (nextD d h now)) 200 (diskOK_good hd) (by omega)
      have := gp.ss; have := gp.ps
      simp only
      omega
end Go.Proofs.YtccoeoppjcegnaaGreat


namespace Go.Proofs.YtccoeoppjcegnaaGreat
open Go
set_option maxRecDepth 100000
set_option linter.unusedSimpArgs false
set_option linter.unusedVariables false
structure Leader where
  ver : Int
  owner : Int
  gen : Int
  deriving Inhabited, DecidableEq
def eLeader (x : Leader) : AV := .agg [.int .i64 (x.ver), .int .i64 (x.owner), .int .i64 (x.gen)]
theorem sharesL_eLeader (l : List Leader) : AV.sharesL (l.map eLeader) = false := sharesL_map (fun _ => by simp [eLeader, go_sem]) l
theorem sharesL_repeLeader (n : Nat) (x : Leader) : AV.sharesL (List.replicate n (eLeader x)) = false := sharesL_rep _ (by simp [eLeader, go_sem]) n
attribute [go_sem] sharesL_eLeader sharesL_repeLeader
theorem eqLeader_E (a b : Leader) : E CX 18 [eLeader a, eLeader b] [] = some { val := .bool (decide (a = b)) } := by
  refine E_fin Tryz.f18 _ an18 rfl rfl rfl Tryz.func18 rfl (by kernel_rfl) ?_
  obtain ⟨a0, a1, a2⟩ := a
  obtain ⟨b0, b1, b2⟩ := b
  by_cases c0 : a0 = b0
  · by_cases c1 : a1 = b1
    · by_cases c2 : a2 = b2
      · simp [go_sem, eLeader, c0, c1, c2]
      · simp [go_sem, eLeader, c0, c1, c2]
    · simp [go_sem, eLeader, c0, c1]
  · simp [go_sem, eLeader, c0]
end Go.Proofs.YtccoeoppjcegnaaGreat


namespace Go.Proofs.YtccoeoppjcegnaaGreat
open Go
set_option maxRecDepth 100000
set_option maxHeartbeats 1000000
set_option linter.unusedSimpArgs false
set_option linter.unusedVariables false
def ldrOK (x : Leader) : Bool := inn x.ver 0 1000000 && ((decide (x.owner = -1) && decide (x.gen = 0)) || (inn x.owner 0 3 && inn x.gen 1 1000000 && decide (0 < x.ver)))
theorem isVer_E (n : Int) : E CX 35 [.int .i64 n] [] = some { val := .bool (inn n 0 1000000) } := by
  refine E_fin Tryz.f35 _ an35 rfl rfl rfl Tryz.func35 rfl (by kernel_rfl) ?_
  simp [go_sem, within_E]
def noL (v : Int) : Leader := ⟨v, -1, 0⟩
theorem nobody_E (v : Int) : E CX 50 [.int .i64 v] [] = some { val := eLeader (noL v) } := by
  refine E_fin Tryz.f50 _ an50 rfl rfl rfl Tryz.func50 rfl (by kernel_rfl) ?_
  simp [go_sem, eLeader, noL]
theorem leaderOK_E (x : Leader) : E CX 14 [eLeader x] [] = some { val := .bool (ldrOK x) } := by
  refine E_fin Tryz.f14 _ an14 rfl rfl rfl Tryz.func14 rfl (by kernel_rfl) ?_
  have e1 := isVer_E x.ver
  have e2 := nobody_E x.ver
  have e3 := isHost_E x.owner
  have e4 := isGen_E x.gen
  simp only [eLeader, noL] at e2
  unfold ldrOK
  cases c1 : inn x.ver 0 1000000
  · rw [c1] at e1; simp [go_sem, eLeader, e1]
  · rw [c1] at e1
    cases c3 : inn x.owner 0 3
    · rw [c3] at e3
      by_cases h1 : x.owner = -1
      · by_cases h2 : x.gen = 0
        · rw [h1] at e3; simp [go_sem, eLeader, e1, e2, e3, h1, h2]
        · rw [h1] at e3; simp [go_sem, eLeader, e1, e2, e3, h1, h2, show (x.gen == 0) = false by simp [h2]]
      · simp [go_sem, eLeader, e1, e2, e3, h1, show (x.owner == -1) = false by simp [h1]]
    · rw [c3] at e3
      have h1 : ¬ x.owner = -1 := by intro h; rw [h] at c3; simp [inn] at c3
      cases c4 : inn x.gen 1 1000000
      · rw [c4] at e4; simp [go_sem, eLeader, e1, e2, e3, e4, h1, show (x.owner == -1) = false by simp [h1]]
      · rw [c4] at e4; simp [go_sem, eLeader, e1, e2, e3, e4, h1, show (x.owner == -1) = false by simp [h1]]
theorem sLeaderOK_E (x : Leader) : E CX 86 [eLeader x] [] = some { val := .bool (ldrOK x) } := by
  refine E_fin Tryz.f86 _ an86 rfl rfl rfl Tryz.func86 rfl (by kernel_rfl) ?_
  have e1 := l01In_E x.ver 0 1000000
  have e3 := l04Host_E x.owner
  have e4 := l01In_E x.gen 1 1000000
  unfold ldrOK
  cases c1 : inn x.ver 0 1000000
  · rw [c1] at e1; simp [go_sem, eLeader, e1]
  · rw [c1] at e1
    by_cases h1 : x.owner = -1
    · rw [h1] at e3 ⊢
      have : inn (-1) 0 3 = false := by decide
      rw [this] at e3 ⊢
      by_cases h2 : x.gen = 0
      · simp [go_sem, eLeader, e1, e3, h1, h2]
      · by_cases h3 : 0 < x.ver
        · simp [go_sem, eLeader, e1, e3, h1, h2, h3]
        · simp [go_sem, eLeader, e1, e3, h1, h2, h3]
    · by_cases h3 : 0 < x.ver
      · cases c3 : inn x.owner 0 3
        · rw [c3] at e3; simp [go_sem, eLeader, e1, e3, h1, h3]
        · rw [c3] at e3
          cases c4 : inn x.gen 1 1000000
          · rw [c4] at e4; simp [go_sem, eLeader, e1, e3, e4, h1, h3]
          · rw [c4] at e4; simp [go_sem, eLeader, e1, e3, e4, h1, h3]
      · simp [go_sem, eLeader, e1, h1, h3]
def ldrT (x : Leader) : Tx := sealF 6 [x.ver, x.owner + 1, x.gen]
theorem ldrText_E (x : Leader) (hw : IntKind.i64.wrap (x.owner + 1) = x.owner + 1) : E CX 42 [eLeader x] [] = some { val := .str (ldrT x) } := by
  refine E_fin Tryz.f42 _ an42 rfl rfl rfl Tryz.func42 rfl (by kernel_rfl) ?_
  have e1 := seal_E 6 [x.ver, x.owner + 1, x.gen] (by simp)
  simp at e1
  simp [go_sem, eLeader, e1, ldrT, hw]
theorem l06Encode_E (x : Leader) (hw : IntKind.i64.wrap (x.owner + 1) = x.owner + 1) : E CX 63 [eLeader x] [] = some { val := .str (ldrT x) } := by
  refine E_fin Tryz.f63 _ an63 rfl rfl rfl Tryz.func63 rfl (by kernel_rfl) ?_
  have e1 := l02Seal_E 6 [x.ver, x.owner + 1, x.gen] (by simp)
  simp at e1
  simp [go_sem, eLeader, e1, ldrT, hw]
def ldrF (t : Tx) : Option Leader := match openF t 6 with
  | some [a, b, c] => if ldrOK ⟨a, IntKind.i64.wrap (b - 1), c⟩ then some ⟨a, IntKind.i64.wrap (b - 1), c⟩ else none
  | _ => none
/-- What a reader of a leader answers, with its own answer where there is none. -/
def ldrV (z : Leader) (o : Option Leader) : AV := match o with
  | some x => .tuple [eLeader x, .bool true]
  | none => .tuple [eLeader z, .bool false]
theorem leaderOf_E (t : Tx) (ht : t.length ≤ 1000000) : E CX 48 [.str t] [] = some { val := ldrV ⟨0, 0, 0⟩ (ldrF t) } := by
  refine E_fin Tryz.f48 _ an48 rfl rfl rfl Tryz.func48 rfl (by kernel_rfl) ?_
  unfold ldrF
  have e1 := open_E t 6 ht
  rcases openV_cases t 6 with ⟨h2, h3 | ⟨l, h3⟩⟩ | ⟨l, h2, h3⟩
  · rw [h3] at e1
    simp [go_sem, ldrV, eLeader, h2, e1]
  · rw [h3] at e1
    simp [go_sem, ldrV, eLeader, h2, e1]
  · rw [h3] at e1
    match l, h2 with
    | [], h2 => simp [go_sem, ldrV, eLeader, h2, e1]
    | [a], h2 => simp [go_sem, ldrV, eLeader, h2, e1]
    | [a, b], h2 => simp [go_sem, ldrV, eLeader, h2, e1]
    | a :: b :: c :: d :: l, h2 => simp [go_sem, ldrV, eLeader, h2, e1, len_ne3 l]
    | [a, b, c], h2 =>
      have e2 := leaderOK_E ⟨a, IntKind.i64.wrap (b - 1), c⟩
      simp only [eLeader] at e2
      cases h4 : ldrOK ⟨a, IntKind.i64.wrap (b - 1), c⟩
      · rw [h4] at e2
        simp [go_sem, ldrV, eLeader, h2, e1, e2, h4]
      · rw [h4] at e2
        simp [go_sem, ldrV, eLeader, h2, e1, e2, h4]
theorem l06Decode_E (t : Tx) (ht : t.length ≤ 1000000) : E CX 109 [.str t] [] = some { val := ldrV (noL 0) (ldrF t) } := by
  refine E_fin Tryz.f109 _ an109 rfl rfl rfl Tryz.func109 rfl (by kernel_rfl) ?_
  unfold ldrF
  have e1 := l02Open_E t 6 ht
  cases h2 : openF t 6 with
  | none =>
    rw [h2] at e1
    simp [go_sem, ldrV, eLeader, noL, h2, e1]
  | some l =>
    rw [h2] at e1
    match l, h2 with
    | [], h2 => simp [go_sem, ldrV, eLeader, noL, h2, e1]
    | [a], h2 => simp [go_sem, ldrV, eLeader, noL, h2, e1]
    | [a, b], h2 => simp [go_sem, ldrV, eLeader, noL, h2, e1]
    | a :: b :: c :: d :: l, h2 => simp [go_sem, ldrV, eLeader, noL, h2, e1, len_ne3 l]
    | [a, b, c], h2 =>
      have e2 := sLeaderOK_E ⟨a, IntKind.i64.wrap (b - 1), c⟩
      simp only [eLeader] at e2
      cases h4 : ldrOK ⟨a, IntKind.i64.wrap (b - 1), c⟩
      · rw [h4] at e2
        simp [go_sem, ldrV, eLeader, noL, h2, e1, e2, h4]
      · rw [h4] at e2
        simp [go_sem, ldrV, eLeader, noL, h2, e1, e2, h4]
/-- The leader, as a host reads it. -/
def rdLd (d : Disk) (h : Int) : Leader := (ldrF (rdL d.ss d.ps h 0)).getD (noL 0)
theorem leader_E (d : Disk) (h : Int) (hd : diskOK d = true) : E CX 27 [eDisk d, .int .i64 h] [] = some { val := eLeader (rdLd d h) } := by
  refine E_fin Tryz.f27 _ an27 rfl rfl rfl Tryz.func27 rfl (by kernel_rfl) ?_
  have g := diskOK_good hd
  have g1 := g.ss; have g2 := g.ps
  have e1 := read_E d h 0 (by omega) (by omega)
  have hln := rdL_len hd h 0
  have e2 := leaderOf_E (rdL d.ss d.ps h 0) (by omega)
  have e3 := nobody_E 0
  unfold rdLd
  simp only [eDisk] at e1
  simp only [eLeader, noL] at e3
  cases hx : ldrF (rdL d.ss d.ps h 0) with
  | none =>
    rw [hx] at e2
    simp only [ldrV, eLeader] at e2 ⊢
    simp [go_sem, eDisk, noL, e1, e2, e3]
  | some x =>
    rw [hx] at e2
    simp only [ldrV, eLeader] at e2
    simp [go_sem, eDisk, e1, e2, eLeader]
theorem l06Read_E (d : Disk) (h : Int) (hd : diskOK d = true) : E CX 80 [eDisk d, .int .i64 h] [] = some { val := eLeader (rdLd d h) } := by
  refine E_fin Tryz.f80 _ an80 rfl rfl rfl Tryz.func80 rfl (by kernel_rfl) ?_
  have g := diskOK_good hd
  have g1 := g.ss; have g2 := g.ps
  have e1 := l01Read_E d h 0 (by omega) (by omega)
  have hln := rdL_len hd h 0
  have e2 := l06Decode_E (rdL d.ss d.ps h 0) (by omega)
  unfold rdLd
  simp only [eDisk] at e1
  cases hx : ldrF (rdL d.ss d.ps h 0) with
  | none =>
    rw [hx] at e2
    simp only [ldrV, eLeader, noL] at e2
    simp [go_sem, eDisk, noL, e1, e2, eLeader]
  | some x =>
    rw [hx] at e2
    simp only [ldrV, eLeader] at e2
    simp [go_sem, eDisk, e1, e2, eLeader]
def lcode (d : Disk) (h : Int) : Int := if askC d h ≠ 0 then askC d h else if d.ps.length = 200 then 7 else 0
theorem l06Ask_E (d : Disk) (h : Int) (h1 : d.ss.length ≤ 1073741824) (h2 : d.ps.length ≤ 1073741824) : E CX 43 [eDisk d, .int .i64 h] [] = some { val := .int .i64 (lcode d h) } := by
  refine E_fin Tryz.f43 _ an43 rfl rfl rfl Tryz.func43 rfl (by kernel_rfl) ?_
  have e1 := l01Ask_E d h 0 h1 h2
  have : askS d h 0 = askC d h := by unfold askS askC; cases diskOK d <;> cases inn h 0 3 <;> simp [inn]
  rw [this] at e1
  unfold lcode
  simp only [eDisk] at e1
  generalize askC d h = c at *
  by_cases hc : c = 0
  · subst hc
    by_cases c4 : d.ps.length = 200
    · simp [go_sem, eDisk, e1, c4]
    · have : ¬ ((d.ps.length : Int) = 200) := by omega
      simp [go_sem, eDisk, e1, c4, this]
  · simp [go_sem, eDisk, e1, hc]
theorem lcode_zero {d : Disk} {h : Int} (hc : lcode d h = 0) : diskOK d = true ∧ inn h 0 3 = true ∧ 0 ≤ h ∧ h ≤ 3 ∧ d.ps.length < 200 := by
  unfold lcode askC at hc
  cases c1 : diskOK d
  · simp [c1] at hc
  · cases c2 : inn h 0 3
    · simp [c1, c2] at hc
    · simp [c1, c2] at hc
      have g := (diskOK_good c1).ps
      simp [inn] at c2
      exact ⟨rfl, rfl, c2.1, c2.2, by omega⟩
end Go.Proofs.YtccoeoppjcegnaaGreat


namespace Go.Proofs.YtccoeoppjcegnaaGreat
open Go
set_option maxRecDepth 100000
set_option maxHeartbeats 1000000
set_option linter.unusedSimpArgs false
set_option linter.unusedVariables false
def zL : Leader := ⟨0, 0, 0⟩
def relC (d : Disk) (h : Int) (x : Leader) : Int := if lcode d h ≠ 0 then lcode d h else if ldrOK x then 0 else 1
theorem relC_zero {d : Disk} {h : Int} {x : Leader} (hc : relC d h x = 0) : lcode d h = 0 ∧ ldrOK x = true ∧ 0 ≤ x.ver ∧ x.ver ≤ 1000000 := by
  unfold relC at hc
  by_cases h1 : lcode d h = 0
  · cases h2 : ldrOK x
    · simp [h1, h2] at hc
    · have h3 := h2
      simp [ldrOK, inn] at h3
      exact ⟨h1, rfl, h3.1.1, h3.1.2⟩
  · simp [h1] at hc
def relA (d : Disk) (h : Int) (x : Leader) : Disk × Leader × Int :=
  if relC d h x ≠ 0 then (mty, zL, relC d h x) else if rdLd d h ≠ x then (d, rdLd d h, 13) else if x.owner ≠ h then (d, x, 9) else if x.ver = 1000000 then (d, x, 6) else (putD d h 0 (ldrT (noL (x.ver + 1))), noL (x.ver + 1), 0)
theorem leader_eta (x y : Leader) : (x.ver = y.ver ∧ x.owner = y.owner ∧ x.gen = y.gen) ↔ x = y := by
  cases x; cases y; simp
theorem first3_E (a b c : Bool) (x y z : Int) : E CX 28 [.sl 1 [.iface 4 (.bool a), .iface 3 (.int .i64 x), .iface 4 (.bool b), .iface 3 (.int .i64 y), .iface 4 (.bool c), .iface 3 (.int .i64 z)]] [] = some { val := .int .i64 (if a then x else if b then y else if c then z else 0) } := by
  have e := first_E [(a, x), (b, y), (c, z)] (by simp)
  simp only [anys] at e
  rw [e]
  cases a <;> cases b <;> cases c <;> rfl
theorem relA_len (d : Disk) (h : Int) (x : Leader) (b1 : d.ss.length ≤ 1048576) (b2 : d.ps.length ≤ 1048576) : (relA d h x).1.ss.length ≤ 1048576 ∧ (relA d h x).1.ps.length ≤ 1048577 := by
  unfold relA
  split
  · simp [mty]
  · rename_i hc
    obtain ⟨hl, hx, hv1, hv2⟩ := relC_zero (by simpa using hc)
    obtain ⟨hd, hh, ho1, ho2, hps⟩ := lcode_zero hl
    have gp := putD_good d h 0 (ldrT (noL (x.ver + 1))) 200 (diskOK_good hd) (by omega)
    have := gp.ss; have := gp.ps
    split
    · exact ⟨b1, by simp only; omega⟩
    · split
      · exact ⟨b1, by simp only; omega⟩
      · split
        · exact ⟨b1, by simp only; omega⟩
        · simp only; omega
end Go.Proofs.YtccoeoppjcegnaaGreat


namespace Go.Proofs.YtccoeoppjcegnaaGreat
open Go
set_option maxRecDepth 100000
set_option linter.unusedSimpArgs false
set_option linter.unusedVariables false
def mvU (u : Update) : Move := ⟨1, u.at_, u.data⟩
def applyF (h q : Int) (l : List Update) : List Move := l.map mvU ++ [⟨2, 0, []⟩, ⟨1, 39 + 6 * h, sealF 7 [0, q]⟩, ⟨2, 0, []⟩]
def rAns (d : Disk) (h of_ : Int) : List Move × Int :=
  if (jAns d h of_).2.2 ≠ 0 ∨ (jAns d h of_).1 = [] then ([], (jAns d h of_).2.2) else (applyF of_ (jAns d h of_).2.1 (jAns d h of_).1, 0)
theorem jAns_of {d : Disk} {h of_ : Int} (hc : (jAns d h of_).2.2 = 0) : 0 ≤ of_ ∧ of_ ≤ 3 := by
  by_cases hj : jcode d h of_ = 0
  · exact (jcode_zero hj).2
  · unfold jAns at hc; rw [if_pos hj] at hc; exact absurd hc hj
theorem jAns_len' (d : Disk) (h of_ : Int) : (jAns d h of_).1.length ≤ 10 := by
  unfold jAns
  split
  · simp
  · split
    · rename_i l q hw
      unfold waitF at hw
      split at hw
      · injection hw with hw; injection hw with h1 h2; subst h1; simp
      · split at hw
        · rename_i n q' h2
          split at hw
          · cases hw
          · rename_i h5
            split at hw
            · rename_i l' hr
              injection hw with hw; injection hw with h1 h2; subst h1
              have := updsR_len d h (39 + 6 * of_) n.toNat 0 []
              rw [hr] at this
              simp at this ⊢
              omega
            · cases hw
        · cases hw
    · simp
end Go.Proofs.YtccoeoppjcegnaaGreat


namespace Go.Proofs.YtccoeoppjcegnaaGreat
open Go
set_option maxRecDepth 100000
set_option linter.unusedSimpArgs false
set_option linter.unusedVariables false
end Go.Proofs.YtccoeoppjcegnaaGreat


namespace Go.Proofs.YtccoeoppjcegnaaGreat
open Go
set_option maxRecDepth 100000
set_option maxHeartbeats 1000000
set_option linter.unusedSimpArgs false
set_option linter.unusedVariables false
end Go.Proofs.YtccoeoppjcegnaaGreat


namespace Go.Proofs.YtccoeoppjcegnaaGreat
open Go
set_option maxRecDepth 100000
set_option linter.unusedSimpArgs false
set_option linter.unusedVariables false
/-! Records read back. -/
theorem byteOf_small {k : Int} (h : 0 ≤ k ∧ k < 256) : ((byteOf k).toNat : Int) = k := by rw [byteOf_nat]; omega
theorem numOf_four {n : Int} (h : 0 ≤ n ∧ n ≤ 2147483647) : numOf (byteOf n) (byteOf (n / 256)) (byteOf (n / 65536)) (byteOf (n / 16777216)) = n := by
  unfold numOf
  rw [byteOf_nat, byteOf_nat, byteOf_nat, byteOf_nat]
  omega
theorem nums_pack : ∀ l : List Int, l.all isNum = true → nums (packF l) = l := by
  intro l
  induction l with
  | nil => intro _; rfl
  | cons n l ih =>
    intro h
    simp only [List.all_cons, Bool.and_eq_true] at h
    have hn : 0 ≤ n ∧ n ≤ 2147483647 := by simpa [isNum, inn] using h.1
    simp [packF, four, nums, numOf_four hn, ih h.2]
theorem open_seal {k : Int} {l : List Int} (hk : inn k 1 9 = true) (hl : intsOK l = true) : openF (sealF k l) k = some l := by
  have hk' : 1 ≤ k ∧ k ≤ 9 := by simpa [inn] using hk
  have hl' := hl
  simp only [intsOK, Bool.and_eq_true] at hl'
  have hd : (sealF k l).drop 4 = packF l := by simp [sealF]
  have hn := nums_pack l hl'.2
  have hlen : (sealF k l).length = 4 + 4 * l.length := by simp [sealF, packF_length]; omega
  unfold openF
  rw [hd, hn, if_pos]
  refine ⟨by omega, ?_, hk, by omega, hl, rfl⟩
  have : (sealF k l).getD 0 0 = byteOf k := by simp [sealF]
  rw [this]
  exact byteOf_small (by omega)
/-! Writes that land. -/
def landW (ss : List Tx) (x : Io) : List Tx := ss.set x.at_.toNat x.data
def wr (ss : List Tx) (m : Move) : List Tx := if m.kind = 2 then ss else ss.set m.at_.toNat m.data
theorem landL_every (h : Int) : ∀ (ps : List Io) (k : Int) (ss : List Tx), (∀ x ∈ ps, x.host = h) → (ps.length : Int) ≤ k → (landL h false ps k ss).1 = [] ∧ (landL h false ps k ss).2.2 = ps.foldl landW ss := by
  intro ps
  induction ps with
  | nil => intro k ss _ _; exact ⟨rfl, rfl⟩
  | cons x ps ih =>
    intro k ss hx hk
    have h1 : x.host = h := hx x (by simp)
    simp only [List.length_cons] at hk
    have h2 : 0 < k := by omega
    have g : goes h k false x = true := by simp [goes, h1, h2]
    obtain ⟨i1, i2⟩ := ih (kOf h k x) (sOf h k ss x) (fun y hy => hx y (by simp [hy])) (by simp [kOf, h1, h2]; omega)
    unfold landL
    rw [if_pos g]
    refine ⟨i1, ?_⟩
    rw [i2]
    simp [sOf, h1, h2, landW]
theorem moves_flat (h : Int) : ∀ (l : List Move) (d : Disk) (tl : List Io), (∀ x ∈ d.ps, x.host = h) → d.ps.length + l.length ≤ 400 →
    (∀ x ∈ (l.foldl (mvT h) (d, tl)).1.ps, x.host = h) ∧ (l.foldl (mvT h) (d, tl)).1.ps.length ≤ d.ps.length + l.length ∧ (l.foldl (mvT h) (d, tl)).1.ps.foldl landW (l.foldl (mvT h) (d, tl)).1.ss = l.foldl wr (d.ps.foldl landW d.ss) := by
  intro l
  induction l with
  | nil => intro d tl hx _; exact ⟨hx, by simp, rfl⟩
  | cons m l ih =>
    intro d tl hx hl
    simp only [List.length_cons] at hl
    simp only [List.foldl_cons]
    by_cases hm : m.kind = 2
    · obtain ⟨q1, q2⟩ := landL_every h d.ps 400 d.ss hx (by omega)
      have e : mvT h (d, tl) m = (⟨d.ps.foldl landW d.ss, []⟩, (mvT h (d, tl) m).2) := by
        unfold mvT
        rw [if_pos hm]
        simp [settleD, q1, q2]
      rw [e]
      obtain ⟨i1, i2, i3⟩ := ih ⟨d.ps.foldl landW d.ss, []⟩ (mvT h (d, tl) m).2 (by simp) (by simp; omega)
      refine ⟨i1, Nat.le_trans i2 (by simp; omega), ?_⟩
      rw [i3]
      simp [wr, hm]
    · have e : mvT h (d, tl) m = (⟨d.ss, d.ps ++ [⟨h, m.at_, m.data⟩]⟩, (mvT h (d, tl) m).2) := by
        unfold mvT
        rw [if_neg hm]
      rw [e]
      obtain ⟨i1, i2, i3⟩ := ih ⟨d.ss, d.ps ++ [⟨h, m.at_, m.data⟩]⟩ (mvT h (d, tl) m).2 (by
        intro x hx'
        simp only [List.mem_append, List.mem_singleton] at hx'
        rcases hx' with hx' | rfl
        · exact hx x hx'
        · rfl) (by simp; omega)
      refine ⟨i1, Nat.le_trans i2 (by simp; omega), ?_⟩
      rw [i3]
      simp [wr, hm, landW, List.foldl_append]
/-- Moves that end with a flush leave nothing unsure. -/
theorem moves_end (h : Int) (l : List Move) (ss : List Tx) (hl : l.length ≤ 300) : ((l ++ ([⟨2, 0, []⟩] : List Move)).foldl (mvT h) (⟨ss, []⟩, [])).1 = ⟨l.foldl wr ss, []⟩ := by
  rw [List.foldl_append]
  obtain ⟨i1, i2, i3⟩ := moves_flat h l ⟨ss, []⟩ [] (by simp) (by simp; omega)
  simp only [List.length_nil, Nat.zero_add] at i2
  generalize l.foldl (mvT h) (⟨ss, []⟩, []) = r at *
  obtain ⟨q1, q2⟩ := landL_every h r.1.ps 400 r.1.ss i1 (by omega)
  simp only [List.foldl_cons, List.foldl_nil, mvT, if_true, settleD, q1, q2, i3]
/-! The first sectors. -/
def setU (ss : List Tx) (u : Update) : List Tx := ss.set u.at_.toNat u.data
theorem wr_length : ∀ (l : List Move) (ss : List Tx), (l.foldl wr ss).length = ss.length := by
  intro l
  induction l with
  | nil => intro ss; rfl
  | cons m l ih => intro ss; simp only [List.foldl_cons, ih]; unfold wr; split <;> simp
theorem wr_small : ∀ (l : List Move) (ss : List Tx), (∀ m ∈ l, m.data.length ≤ 80) → (∀ s ∈ ss, s.length ≤ 80) → ∀ s ∈ l.foldl wr ss, s.length ≤ 80 := by
  intro l
  induction l with
  | nil => intro ss _ h; exact h
  | cons m l ih =>
    intro ss hm hs
    refine ih _ (fun x hx => hm x (by simp [hx])) ?_
    intro s h
    unfold wr at h
    split at h
    · exact hs s h
    · rcases List.mem_or_eq_of_mem_set h with h | rfl
      · exact hs s h
      · exact hm m (by simp)
theorem wr_far : ∀ (l : List Move) (ss : List Tx), (∀ m ∈ l, m.kind = 2 ∨ 39 ≤ m.at_) → (l.foldl wr ss).take 39 = ss.take 39 := by
  intro l
  induction l with
  | nil => intro ss _; rfl
  | cons m l ih =>
    intro ss h
    simp only [List.foldl_cons]
    rw [ih _ fun x hx => h x (by simp [hx])]
    unfold wr
    split
    · rfl
    · rename_i hk
      have := (h m (by simp)).resolve_left hk
      rw [List.take_set_of_le (by omega)]
theorem setU_take : ∀ (l : List Update) (ss ss' : List Tx), ss.take 39 = ss'.take 39 → (l.foldl setU ss).take 39 = (l.foldl setU ss').take 39 := by
  intro l
  induction l with
  | nil => intro ss ss' h; exact h
  | cons u l ih =>
    intro ss ss' h
    refine ih _ _ ?_
    simp only [setU, List.take_set, h]
theorem wr_upd : ∀ (l : List Update) (ss : List Tx), (l.map mvU).foldl wr ss = l.foldl setU ss := by
  intro l
  induction l with
  | nil => intro ss; rfl
  | cons u l ih => intro ss; simp only [List.map_cons, List.foldl_cons, ih]; rfl
def flushM : Move := ⟨2, 0, []⟩
end Go.Proofs.YtccoeoppjcegnaaGreat


namespace Go.Proofs.YtccoeoppjcegnaaGreat
open Go
set_option maxRecDepth 100000
set_option maxHeartbeats 2000000
set_option linter.unusedSimpArgs false
set_option linter.unusedVariables false
structure Bl where
  ver : Int
  mbal : Int
  bal : Int
  inp : Int
  deriving Inhabited, DecidableEq
def eBl (x : Bl) : AV := .agg [.int .i64 x.ver, .int .i64 x.mbal, .int .i64 x.bal, .int .i64 x.inp]
theorem sharesL_eBl (l : List Bl) : AV.sharesL (l.map eBl) = false := sharesL_map (fun _ => by simp [eBl, go_sem]) l
attribute [go_sem] sharesL_eBl
structure Px where
  host : Int
  ver : Int
  phase : Int
  ballot : Int
  value : Int
  next : Int
  best : Int
  bestBal : Int
  deriving Inhabited, DecidableEq
def ePx (p : Px) : AV := .agg [.int .i64 p.host, .int .i64 p.ver, .int .i64 p.phase, .int .i64 p.ballot, .int .i64 p.value, .int .i64 p.next, .int .i64 p.best, .int .i64 p.bestBal]
def zBl : Bl := ⟨0, 0, 0, 0⟩
def blkOK (b : Bl) : Bool := inn b.ver 0 1000000 && inn b.mbal 0 1000000 && inn b.bal 0 b.mbal && isNum b.inp && (decide (0 < b.bal) || decide (b.inp = 0))
theorem blockOK_E (b : Bl) : E CX 71 [eBl b] [] = some { val := .bool (blkOK b) } := by
  refine E_fin Tryz.f71 _ an71 rfl rfl rfl Tryz.func71 rfl (by kernel_rfl) ?_
  have e1 := isVer_E b.ver
  have e2 := within_E b.mbal 0 1000000
  have e3 := within_E b.bal 0 b.mbal
  have e4 := isNumber_E b.inp
  unfold blkOK
  cases c1 : inn b.ver 0 1000000
  · rw [c1] at e1; simp [go_sem, eBl, e1]
  · rw [c1] at e1
    cases c2 : inn b.mbal 0 1000000
    · rw [c2] at e2; simp [go_sem, eBl, e1, e2]
    · rw [c2] at e2
      cases c3 : inn b.bal 0 b.mbal
      · rw [c3] at e3; simp [go_sem, eBl, e1, e2, e3]
      · rw [c3] at e3
        cases c4 : isNum b.inp
        · rw [c4] at e4; simp [go_sem, eBl, e1, e2, e3, e4]
        · rw [c4] at e4
          by_cases c5 : 0 < b.bal
          · simp [go_sem, eBl, e1, e2, e3, e4, c5]
          · simp [go_sem, eBl, e1, e2, e3, e4, c5]
            rfl
def blT (b : Bl) : Tx := sealF 5 [b.ver, b.mbal, b.bal, b.inp]
theorem blText_E (b : Bl) : E CX 41 [eBl b] [] = some { val := .str (blT b) } := by
  refine E_fin Tryz.f41 _ an41 rfl rfl rfl Tryz.func41 rfl (by kernel_rfl) ?_
  have e1 := seal_E 5 [b.ver, b.mbal, b.bal, b.inp] (by simp)
  simp at e1
  simp [go_sem, eBl, e1, blT]
def blF (t : Tx) : Option Bl := match openF t 5 with
  | some [a, b, c, d] => if blkOK ⟨a, b, c, d⟩ then some ⟨a, b, c, d⟩ else none
  | _ => none
def blV (o : Option Bl) : AV := match o with
  | some x => .tuple [eBl x, .bool true]
  | none => .tuple [eBl zBl, .bool false]
theorem len_ne4 (l : List Int) : ¬ ((l.length : Int) + 1 + 1 + 1 + 1 + 1 = 4) := by omega
theorem blockOf_E (t : Tx) (ht : t.length ≤ 1000000) : E CX 32 [.str t] [] = some { val := blV (blF t) } := by
  refine E_fin Tryz.f32 _ an32 rfl rfl rfl Tryz.func32 rfl (by kernel_rfl) ?_
  unfold blF
  have e1 := open_E t 5 ht
  rcases openV_cases t 5 with ⟨h2, h3 | ⟨l, h3⟩⟩ | ⟨l, h2, h3⟩
  · rw [h3] at e1
    simp [go_sem, blV, eBl, zBl, h2, e1]
  · rw [h3] at e1
    simp [go_sem, blV, eBl, zBl, h2, e1]
  · rw [h3] at e1
    match l, h2 with
    | [], h2 => simp [go_sem, blV, eBl, zBl, h2, e1]
    | [a], h2 => simp [go_sem, blV, eBl, zBl, h2, e1]
    | [a, b], h2 => simp [go_sem, blV, eBl, zBl, h2, e1]
    | [a, b, c], h2 => simp [go_sem, blV, eBl, zBl, h2, e1]
    | a :: b :: c :: d :: f :: l, h2 => simp [go_sem, blV, eBl, zBl, h2, e1, len_ne4 l]
    | [a, b, c, d], h2 =>
      have e2 := blockOK_E ⟨a, b, c, d⟩
      simp only [eBl] at e2
      cases h4 : blkOK ⟨a, b, c, d⟩
      · rw [h4] at e2
        simp [go_sem, blV, eBl, zBl, h2, e1, e2, h4]
      · rw [h4] at e2
        simp [go_sem, blV, eBl, zBl, h2, e1, e2, h4]
/-- A block as a version counts it. -/
def ofV (b : Bl) (v : Int) : Bl := if b.ver < v then ⟨v, 0, 0, 0⟩ else b
theorem of_E (b : Bl) (v : Int) : E CX 73 [eBl b, .int .i64 v] [] = some { val := eBl (ofV b v) } := by
  refine E_fin Tryz.f73 _ an73 rfl rfl rfl Tryz.func73 rfl (by kernel_rfl) ?_
  unfold ofV
  by_cases h : b.ver < v
  · simp [go_sem, eBl, h]
  · simp [go_sem, eBl, h]
def maxM (v : Int) : List Bl → Int → Int
  | [], n => n
  | b :: l, n => maxM v l (if n < (ofV b v).mbal then (ofV b v).mbal else n)
def nextB (h v : Int) (l : List Bl) : Int := ((maxM v l 0).tdiv 4 + 1) * 4 + h
theorem maxM_bound (v : Int) : ∀ (l : List Bl) (n : Int), 0 ≤ n ∧ n ≤ 1000000 → (∀ b ∈ l, 0 ≤ b.mbal ∧ b.mbal ≤ 1000000) → 0 ≤ maxM v l n ∧ maxM v l n ≤ 1000000 := by
  intro l
  induction l with
  | nil => intro n h _; exact h
  | cons b l ih =>
    intro n h hb
    refine ih _ ?_ fun x hx => hb x (by simp [hx])
    have hm : 0 ≤ (ofV b v).mbal ∧ (ofV b v).mbal ≤ 1000000 := by
      have := hb b (by simp)
      unfold ofV; split
      · simp
      · exact this
    split <;> omega
theorem nextBallot_E (h v : Int) (l : List Bl) (hh : 0 ≤ h ∧ h ≤ 3) (hl : l.length ≤ 1000) (hb : ∀ b ∈ l, 0 ≤ b.mbal ∧ b.mbal ≤ 1000000) : E CX 34 [.int .i64 h, .int .i64 v, .sl 4 (l.map eBl)] [] = some { val := .int .i64 (nextB h v l) } := by
  refine E_fin Tryz.f34 _ an34 rfl rfl rfl Tryz.func34 rfl (by kernel_rfl) ?_
  simp [go_sem]
  refine loop_for (fun X => fin CX _ _ X = _) l (fun n (a : Int) => True) (fun n a => ⟨SS [(0, .int .i64 h), (1, .int .i64 v), (7, .int .i64 a), (10, .sl 4 (l.map eBl)), (11, .int .i64 l.length), (12, .int .i64 n)], HE⟩)
    (fun r n a => (.exit 0, ⟨SS [(0, .int .i64 h), (7, .int .i64 (maxM v r a))], HE⟩)) 0 trivial ?_ ?_ ?_ ?_ ?_
  · simp [go_sem]
  · intro R n a b r hn hx hd hI hR
    have hx := hx hn
    have e1 := of_E b v
    have := hR (if a < (ofV b v).mbal then (ofV b v).mbal else a) trivial (by simp [maxM])
    simp only [eBl] at e1
    simp [go_sem] at this
    by_cases c : a < (ofV b v).mbal
    · simp [c] at this
      simp [go_sem, hn, hx, eBl, e1, c, wrap_id (n := (n : Int) + 1) (by omega)]
      exact this
    · simp [c] at this
      simp [go_sem, hn, hx, eBl, e1, c, wrap_id (n := (n : Int) + 1) (by omega)]
      exact this
  · intro a hI; simp [go_sem, maxM]
  · intro _; simp
  · have hm := maxM_bound v l 0 (by omega) hb
    have ht : 0 ≤ (maxM v l 0).tdiv 4 ∧ (maxM v l 0).tdiv 4 ≤ 1000000 := by rw [Int.tdiv_eq_ediv_of_nonneg (by omega)]; omega
    unfold nextB
    simp [go_sem, wrap_id (n := (maxM v l 0).tdiv 4) (by omega), wrap_id (n := (maxM v l 0).tdiv 4 + 1) (by omega), wrap_id (n := ((maxM v l 0).tdiv 4 + 1) * 4) (by omega), wrap_id (n := ((maxM v l 0).tdiv 4 + 1) * 4 + h) (by omega)]
end Go.Proofs.YtccoeoppjcegnaaGreat


namespace Go.Proofs.YtccoeoppjcegnaaGreat
open Go
set_option maxRecDepth 100000
set_option maxHeartbeats 4000000
set_option linter.unusedSimpArgs false
set_option linter.unusedVariables false
/-- Behind the last other host comes the next phase. -/
def finP (q : Px) : Px := if q.next < 4 then q else if q.phase = 4 then { q with phase := 5 } else { q with phase := 3, value := if 0 < q.bestBal then q.best else q.value }
def nx0 (p : Px) : Int := if p.next = p.host then p.next + 1 else p.next
def readB (p : Px) (b : Bl) : Px :=
  if p.ver < b.ver ∨ p.ballot < b.mbal then { p with next := nx0 p, phase := 6 }
  else finP { p with next := if nx0 p + 1 = p.host then nx0 p + 1 + 1 else nx0 p + 1, best := if p.phase ≠ 4 ∧ p.bestBal < b.bal then b.inp else p.best, bestBal := if p.phase ≠ 4 ∧ p.bestBal < b.bal then b.bal else p.bestBal }
def readP (p : Px) (bs : List Bl) : Px := if nx0 p < 4 then readB p (ofV (bs.getD (nx0 p).toNat zBl) p.ver) else finP { p with next := nx0 p }
def stopW (p : Px) (own : Bl) : Bool := decide (p.ver < own.ver) || decide (p.ballot < own.mbal) || (decide (p.phase = 3) == !decide (own.mbal = p.ballot))
def writeP (p : Px) (own : Bl) : Px × Bl :=
  if p.phase = 3 then ({ p with phase := 4, next := 0 }, ⟨own.ver, p.ballot, p.ballot, p.value⟩)
  else ({ p with phase := 2, next := 0, best := own.inp, bestBal := own.bal }, ⟨own.ver, p.ballot, own.bal, own.inp⟩)
def ownB (p : Px) (bs : List Bl) : Bl := ofV (bs.getD p.host.toNat zBl) p.ver
def stepP (p : Px) (bs : List Bl) : Px × List Bl :=
  if p.phase = 1 ∨ p.phase = 3 then
    if stopW p (ownB p bs) then ({ p with phase := 6 }, bs) else ((writeP p (ownB p bs)).1, bs.set p.host.toNat (writeP p (ownB p bs)).2)
  else (readP p bs, bs)
structure PxIn (p : Px) (bs : List Bl) : Prop where
  len : bs.length = 4
  host : 0 ≤ p.host ∧ p.host ≤ 3
  next : 0 ≤ p.next ∧ p.next ≤ 100
theorem getD_at {α : Type} {l : List α} {n : Nat} (h : n < l.length) (z : α) : l.getD n z = l[n] := by simp [h]
theorem step_write (p : Px) (bs : List Bl) (g : PxIn p bs) (hw : p.phase = 1 ∨ p.phase = 3) : E CX 39 [ePx p, .ref [1] 0 4] [([1], ⟨false, 63, 4, bs.map eBl⟩)] = some { val := ePx (stepP p bs).1, io := [⟨false, 63, 4, (stepP p bs).2.map eBl⟩] } := by
  refine E_fin Tryz.f39 _ an39 rfl rfl rfl Tryz.func39 rfl (by kernel_rfl) ?_
  have g1 := g.len; have g2 := g.host; have g3 := g.next
  have hlt : p.host.toNat < bs.length := by omega
  have hlt4 : p.host.toNat < 4 := by omega
  have e1 := of_E bs[p.host.toNat] p.ver
  unfold stepP
  rw [if_pos hw]
  have ho : ownB p bs = ofV bs[p.host.toNat] p.ver := by unfold ownB; rw [getD_at hlt]
  rw [ho]
  unfold stopW writeP
  generalize ofV bs[p.host.toNat] p.ver = o at *
  have hset : ∀ x : Bl, (bs.set p.host.toNat x).map eBl = (bs.map eBl).set p.host.toNat (eBl x) := fun x => List.map_set
  obtain ⟨ov, om, ob, oi⟩ := o
  simp only [eBl] at e1
  by_cases a1 : p.ver < ov
  · rcases hw with c | c
    · simp [go_sem, ePx, eBl, c, g1, g2.1, g2.2, hlt, hlt4, e1, a1]
    · simp [go_sem, ePx, eBl, c, g1, g2.1, g2.2, hlt, hlt4, e1, a1]
  · by_cases a2 : p.ballot < om
    · rcases hw with c | c
      · simp [go_sem, ePx, eBl, c, g1, g2.1, g2.2, hlt, hlt4, e1, a1, a2]
      · simp [go_sem, ePx, eBl, c, g1, g2.1, g2.2, hlt, hlt4, e1, a1, a2]
    · by_cases a3 : om = p.ballot
      · rcases hw with c | c
        · simp [go_sem, ePx, eBl, c, g1, g2.1, g2.2, hlt, hlt4, e1, a1, a2, a3]
        · simp [go_sem, ePx, eBl, c, g1, g2.1, g2.2, hlt, hlt4, e1, a1, a2, a3, hset]
      · have a3' : (om == p.ballot) = false := by simp [a3]
        rcases hw with c | c
        · simp [go_sem, ePx, eBl, c, g1, g2.1, g2.2, hlt, hlt4, e1, a1, a2, a3, a3', hset]
        · simp [go_sem, ePx, eBl, c, g1, g2.1, g2.2, hlt, hlt4, e1, a1, a2, a3, a3']
theorem step_read (p : Px) (bs : List Bl) (g : PxIn p bs) (hw : ¬ (p.phase = 1 ∨ p.phase = 3)) : E CX 39 [ePx p, .ref [1] 0 4] [([1], ⟨false, 63, 4, bs.map eBl⟩)] = some { val := ePx (stepP p bs).1, io := [⟨false, 63, 4, (stepP p bs).2.map eBl⟩] } := by
  have g1 := g.len; have g2 := g.host; have g3 := g.next
  simp only [not_or] at hw
  unfold stepP
  rw [if_neg (by simp [hw])]
  have w1 := wrap_id (n := p.next + 1) (by omega)
  have w2 := wrap_id (n := p.next + 1 + 1) (by omega)
  have w3 := wrap_id (n := p.next + 1 + 1 + 1) (by omega)
  have w4 := wrap_id (n := p.host + 1) (by omega)
  have w7 := wrap_id (n := p.host) (by omega)
  have w5 := wrap_id (n := p.host + 1 + 1) (by omega)
  have w6 := wrap_id (n := p.host + 1 + 1 + 1) (by omega)
  by_cases hn : nx0 p < 4
  · have hn0 : 0 ≤ nx0 p := by unfold nx0; split <;> omega
    have hlt : (nx0 p).toNat < bs.length := by omega
    have hlt4 : (nx0 p).toNat < 4 := by omega
    have e1 := of_E bs[(nx0 p).toNat] p.ver
    have hr : readP p bs = readB p (ofV bs[(nx0 p).toNat] p.ver) := by unfold readP; rw [if_pos hn, getD_at hlt]
    rw [hr]
    unfold readB finP
    generalize ofV bs[(nx0 p).toNat] p.ver = o at *
    obtain ⟨ov, om, ob, oi⟩ := o
    simp only [eBl] at e1
    by_cases c0 : p.next = p.host
    · have hx : nx0 p = p.host + 1 := by unfold nx0; rw [if_pos c0, c0]
      simp only [hx] at hn hn0 hlt hlt4 e1 ⊢
      have c1 : ¬ (p.host + 1 + 1 = p.host) := by omega
      by_cases a1 : p.ver < ov
      · refine E_fin Tryz.f39 _ an39 rfl rfl rfl Tryz.func39 rfl (by kernel_rfl) ?_
        simp [go_sem, ePx, eBl, hw, c0, g1, g2.1, hlt, hlt4, hn, hn0, e1, a1, w4, w5]
      · by_cases a2 : p.ballot < om
        · refine E_fin Tryz.f39 _ an39 rfl rfl rfl Tryz.func39 rfl (by kernel_rfl) ?_
          simp [go_sem, ePx, eBl, hw, c0, g1, g2.1, hlt, hlt4, hn, hn0, e1, a1, a2, w4, w5]
        · by_cases a3 : p.phase = 4
          · by_cases a5 : p.host + 1 + 1 < 4
            · refine E_fin Tryz.f39 _ an39 rfl rfl rfl Tryz.func39 rfl (by kernel_rfl) ?_
              simp [go_sem, ePx, eBl, hw, c0, c1, g1, g2.1, hlt, hlt4, hn, hn0, e1, a1, a2, a3, a5, w4, w5]
            · refine E_fin Tryz.f39 _ an39 rfl rfl rfl Tryz.func39 rfl (by kernel_rfl) ?_
              simp [go_sem, ePx, eBl, hw, c0, c1, g1, g2.1, hlt, hlt4, hn, hn0, e1, a1, a2, a3, a5, w4, w5]
          · by_cases a4 : p.bestBal < ob
            · by_cases a5 : p.host + 1 + 1 < 4
              · refine E_fin Tryz.f39 _ an39 rfl rfl rfl Tryz.func39 rfl (by kernel_rfl) ?_
                simp [go_sem, ePx, eBl, hw, c0, c1, g1, g2.1, hlt, hlt4, hn, hn0, e1, a1, a2, a3, a4, a5, w4, w5]
              · by_cases a6 : 0 < ob
                · refine E_fin Tryz.f39 _ an39 rfl rfl rfl Tryz.func39 rfl (by kernel_rfl) ?_
                  simp [go_sem, ePx, eBl, hw, c0, c1, g1, g2.1, hlt, hlt4, hn, hn0, e1, a1, a2, a3, a4, a5, a6, w4, w5]
                · refine E_fin Tryz.f39 _ an39 rfl rfl rfl Tryz.func39 rfl (by kernel_rfl) ?_
                  simp [go_sem, ePx, eBl, hw, c0, c1, g1, g2.1, hlt, hlt4, hn, hn0, e1, a1, a2, a3, a4, a5, a6, w4, w5]
            · by_cases a5 : p.host + 1 + 1 < 4
              · refine E_fin Tryz.f39 _ an39 rfl rfl rfl Tryz.func39 rfl (by kernel_rfl) ?_
                simp [go_sem, ePx, eBl, hw, c0, c1, g1, g2.1, hlt, hlt4, hn, hn0, e1, a1, a2, a3, a4, a5, w4, w5]
              · by_cases a6 : 0 < p.bestBal
                · refine E_fin Tryz.f39 _ an39 rfl rfl rfl Tryz.func39 rfl (by kernel_rfl) ?_
                  simp [go_sem, ePx, eBl, hw, c0, c1, g1, g2.1, hlt, hlt4, hn, hn0, e1, a1, a2, a3, a4, a5, a6, w4, w5]
                · refine E_fin Tryz.f39 _ an39 rfl rfl rfl Tryz.func39 rfl (by kernel_rfl) ?_
                  simp [go_sem, ePx, eBl, hw, c0, c1, g1, g2.1, hlt, hlt4, hn, hn0, e1, a1, a2, a3, a4, a5, a6, w4, w5]
    · have hx : nx0 p = p.next := by unfold nx0; rw [if_neg c0]
      simp only [hx] at hn hn0 hlt hlt4 e1 ⊢
      by_cases a1 : p.ver < ov
      · refine E_fin Tryz.f39 _ an39 rfl rfl rfl Tryz.func39 rfl (by kernel_rfl) ?_
        simp [go_sem, ePx, eBl, hw, c0, g1, g2.1, hlt, hlt4, hn, hn0, e1, a1, w1, w2]
      · by_cases a2 : p.ballot < om
        · refine E_fin Tryz.f39 _ an39 rfl rfl rfl Tryz.func39 rfl (by kernel_rfl) ?_
          simp [go_sem, ePx, eBl, hw, c0, g1, g2.1, hlt, hlt4, hn, hn0, e1, a1, a2, w1, w2]
        · by_cases c1 : p.next + 1 = p.host
          · by_cases a3 : p.phase = 4
            · by_cases a5 : p.host + 1 < 4
              · refine E_fin Tryz.f39 _ an39 rfl rfl rfl Tryz.func39 rfl (by kernel_rfl) ?_
                simp [go_sem, ePx, eBl, hw, c0, c1, g1, g2.1, hlt, hlt4, hn, hn0, e1, a1, a2, a3, a5, w1, w2, w4, w5, w7]
              · refine E_fin Tryz.f39 _ an39 rfl rfl rfl Tryz.func39 rfl (by kernel_rfl) ?_
                simp [go_sem, ePx, eBl, hw, c0, c1, g1, g2.1, hlt, hlt4, hn, hn0, e1, a1, a2, a3, a5, w1, w2, w4, w5, w7]
            · by_cases a4 : p.bestBal < ob
              · by_cases a5 : p.host + 1 < 4
                · refine E_fin Tryz.f39 _ an39 rfl rfl rfl Tryz.func39 rfl (by kernel_rfl) ?_
                  simp [go_sem, ePx, eBl, hw, c0, c1, g1, g2.1, hlt, hlt4, hn, hn0, e1, a1, a2, a3, a4, a5, w1, w2, w4, w5, w7]
                · by_cases a6 : 0 < ob
                  · refine E_fin Tryz.f39 _ an39 rfl rfl rfl Tryz.func39 rfl (by kernel_rfl) ?_
                    simp [go_sem, ePx, eBl, hw, c0, c1, g1, g2.1, hlt, hlt4, hn, hn0, e1, a1, a2, a3, a4, a5, a6, w1, w2, w4, w5, w7]
                  · refine E_fin Tryz.f39 _ an39 rfl rfl rfl Tryz.func39 rfl (by kernel_rfl) ?_
                    simp [go_sem, ePx, eBl, hw, c0, c1, g1, g2.1, hlt, hlt4, hn, hn0, e1, a1, a2, a3, a4, a5, a6, w1, w2, w4, w5, w7]
              · by_cases a5 : p.host + 1 < 4
                · refine E_fin Tryz.f39 _ an39 rfl rfl rfl Tryz.func39 rfl (by kernel_rfl) ?_
                  simp [go_sem, ePx, eBl, hw, c0, c1, g1, g2.1, hlt, hlt4, hn, hn0, e1, a1, a2, a3, a4, a5, w1, w2, w4, w5, w7]
                · by_cases a6 : 0 < p.bestBal
                  · refine E_fin Tryz.f39 _ an39 rfl rfl rfl Tryz.func39 rfl (by kernel_rfl) ?_
                    simp [go_sem, ePx, eBl, hw, c0, c1, g1, g2.1, hlt, hlt4, hn, hn0, e1, a1, a2, a3, a4, a5, a6, w1, w2, w4, w5, w7]
                  · refine E_fin Tryz.f39 _ an39 rfl rfl rfl Tryz.func39 rfl (by kernel_rfl) ?_
                    simp [go_sem, ePx, eBl, hw, c0, c1, g1, g2.1, hlt, hlt4, hn, hn0, e1, a1, a2, a3, a4, a5, a6, w1, w2, w4, w5, w7]
          · by_cases a3 : p.phase = 4
            · by_cases a5 : p.next + 1 < 4
              · refine E_fin Tryz.f39 _ an39 rfl rfl rfl Tryz.func39 rfl (by kernel_rfl) ?_
                simp [go_sem, ePx, eBl, hw, c0, c1, g1, g2.1, hlt, hlt4, hn, hn0, e1, a1, a2, a3, a5, w1, w2]
              · refine E_fin Tryz.f39 _ an39 rfl rfl rfl Tryz.func39 rfl (by kernel_rfl) ?_
                simp [go_sem, ePx, eBl, hw, c0, c1, g1, g2.1, hlt, hlt4, hn, hn0, e1, a1, a2, a3, a5, w1, w2]
            · by_cases a4 : p.bestBal < ob
              · by_cases a5 : p.next + 1 < 4
                · refine E_fin Tryz.f39 _ an39 rfl rfl rfl Tryz.func39 rfl (by kernel_rfl) ?_
                  simp [go_sem, ePx, eBl, hw, c0, c1, g1, g2.1, hlt, hlt4, hn, hn0, e1, a1, a2, a3, a4, a5, w1, w2]
                · by_cases a6 : 0 < ob
                  · refine E_fin Tryz.f39 _ an39 rfl rfl rfl Tryz.func39 rfl (by kernel_rfl) ?_
                    simp [go_sem, ePx, eBl, hw, c0, c1, g1, g2.1, hlt, hlt4, hn, hn0, e1, a1, a2, a3, a4, a5, a6, w1, w2]
                  · refine E_fin Tryz.f39 _ an39 rfl rfl rfl Tryz.func39 rfl (by kernel_rfl) ?_
                    simp [go_sem, ePx, eBl, hw, c0, c1, g1, g2.1, hlt, hlt4, hn, hn0, e1, a1, a2, a3, a4, a5, a6, w1, w2]
              · by_cases a5 : p.next + 1 < 4
                · refine E_fin Tryz.f39 _ an39 rfl rfl rfl Tryz.func39 rfl (by kernel_rfl) ?_
                  simp [go_sem, ePx, eBl, hw, c0, c1, g1, g2.1, hlt, hlt4, hn, hn0, e1, a1, a2, a3, a4, a5, w1, w2]
                · by_cases a6 : 0 < p.bestBal
                  · refine E_fin Tryz.f39 _ an39 rfl rfl rfl Tryz.func39 rfl (by kernel_rfl) ?_
                    simp [go_sem, ePx, eBl, hw, c0, c1, g1, g2.1, hlt, hlt4, hn, hn0, e1, a1, a2, a3, a4, a5, a6, w1, w2]
                  · refine E_fin Tryz.f39 _ an39 rfl rfl rfl Tryz.func39 rfl (by kernel_rfl) ?_
                    simp [go_sem, ePx, eBl, hw, c0, c1, g1, g2.1, hlt, hlt4, hn, hn0, e1, a1, a2, a3, a4, a5, a6, w1, w2]
  · have hr : readP p bs = finP { p with next := nx0 p } := by unfold readP; rw [if_neg hn]
    rw [hr]
    unfold finP
    by_cases c0 : p.next = p.host
    · have hx : nx0 p = p.host + 1 := by unfold nx0; rw [if_pos c0, c0]
      simp only [hx] at hn ⊢
      by_cases a3 : p.phase = 4
      · refine E_fin Tryz.f39 _ an39 rfl rfl rfl Tryz.func39 rfl (by kernel_rfl) ?_
        simp [go_sem, ePx, eBl, hw, c0, hn, a3, w4]
      · by_cases a6 : 0 < p.bestBal
        · refine E_fin Tryz.f39 _ an39 rfl rfl rfl Tryz.func39 rfl (by kernel_rfl) ?_
          simp [go_sem, ePx, eBl, hw, c0, hn, a3, a6, w4]
        · refine E_fin Tryz.f39 _ an39 rfl rfl rfl Tryz.func39 rfl (by kernel_rfl) ?_
          simp [go_sem, ePx, eBl, hw, c0, hn, a3, a6, w4]
    · have hx : nx0 p = p.next := by unfold nx0; rw [if_neg c0]
      simp only [hx] at hn ⊢
      by_cases a3 : p.phase = 4
      · refine E_fin Tryz.f39 _ an39 rfl rfl rfl Tryz.func39 rfl (by kernel_rfl) ?_
        simp [go_sem, ePx, eBl, hw, c0, hn, a3]
      · by_cases a6 : 0 < p.bestBal
        · refine E_fin Tryz.f39 _ an39 rfl rfl rfl Tryz.func39 rfl (by kernel_rfl) ?_
          simp [go_sem, ePx, eBl, hw, c0, hn, a3, a6]
        · refine E_fin Tryz.f39 _ an39 rfl rfl rfl Tryz.func39 rfl (by kernel_rfl) ?_
          simp [go_sem, ePx, eBl, hw, c0, hn, a3, a6]
theorem step_E (p : Px) (bs : List Bl) (g : PxIn p bs) : E CX 39 [ePx p, .ref [1] 0 4] [([1], ⟨false, 63, 4, bs.map eBl⟩)] = some { val := ePx (stepP p bs).1, io := [⟨false, 63, 4, (stepP p bs).2.map eBl⟩] } := by
  by_cases hw : p.phase = 1 ∨ p.phase = 3
  · exact step_write p bs g hw
  · exact step_read p bs g hw
end Go.Proofs.YtccoeoppjcegnaaGreat


namespace Go.Proofs.YtccoeoppjcegnaaGreat
open Go
set_option maxRecDepth 100000
set_option linter.unusedSimpArgs false
set_option linter.unusedVariables false
def E64 : List Tx := List.replicate 64 []
theorem E64_get (n : Nat) : E64.getD n [] = [] := by
  unfold E64
  rw [List.getD_eq_getElem?_getD, List.getElem?_replicate]
  split <;> rfl
def d64 : Disk := ⟨E64, []⟩
theorem d64_ok : diskOK d64 = true := by decide
end Go.Proofs.YtccoeoppjcegnaaGreat


namespace Go.Proofs.YtccoeoppjcegnaaGreat
open Go
set_option maxRecDepth 100000
set_option linter.unusedSimpArgs false
set_option linter.unusedVariables false
/-- Of moves and of the first writes that are not sure, some first moves are done. -/
theorem moves_cut (h : Int) (ss0 : List Tx) : ∀ (l : List Move), l.length ≤ 300 →
    (∀ x ∈ (l.foldl (mvT h) (⟨ss0, []⟩, [])).1.ps, x.host = h) ∧ (l.foldl (mvT h) (⟨ss0, []⟩, [])).1.ps.length ≤ l.length ∧
    ∀ j, ∃ k, k ≤ l.length ∧ ((l.foldl (mvT h) (⟨ss0, []⟩, [])).1.ps.take j).foldl landW (l.foldl (mvT h) (⟨ss0, []⟩, [])).1.ss = (l.take k).foldl wr ss0 := by
  intro l hl
  obtain ⟨i1, i2, i3⟩ := moves_flat h l ⟨ss0, []⟩ [] (by simp) (by simp; omega)
  refine ⟨i1, by simpa using i2, ?_⟩
  clear i1 i2 i3
  generalize hn : l.length = n
  rw [hn] at hl
  induction n generalizing l with
  | zero =>
    intro j
    obtain rfl : l = [] := List.length_eq_zero_iff.1 hn
    exact ⟨0, by simp, by simp⟩
  | succ n ih =>
    obtain ⟨l, m, rfl⟩ : ∃ L b, l = L ++ [b] := by
      rcases List.eq_nil_or_concat l with rfl | ⟨L, b, h⟩
      · simp at hn
      · exact ⟨L, b, by simpa using h⟩
    have hn' : l.length = n := by simpa using hn
    subst hn'
    have ih := ih l (by omega) rfl
    have hl' : l.length ≤ 300 := by omega
    obtain ⟨i1, i2, i3⟩ := moves_flat h l ⟨ss0, []⟩ [] (by simp) (by simp; omega)
    intro j
    rw [List.foldl_append]
    simp only [List.length_nil, Nat.zero_add] at i2
    generalize l.foldl (mvT h) (⟨ss0, []⟩, []) = r at *
    obtain ⟨⟨ss, ps⟩, tl⟩ := r
    simp only at i1 i2 i3 ih ⊢
    simp only [List.foldl_cons, List.foldl_nil]
    by_cases hm : m.kind = 2
    · obtain ⟨q1, q2⟩ := landL_every h ps 400 ss i1 (by omega)
      refine ⟨l.length, by omega, ?_⟩
      simp only [mvT, hm, if_true, settleD, q1, q2]
      simp [i3]
    · simp only [mvT, hm, if_false]
      by_cases hj : j ≤ ps.length
      · obtain ⟨k, hk, e⟩ := ih j
        refine ⟨k, by omega, ?_⟩
        rw [List.take_append_of_le_length hj, List.take_append_of_le_length hk]
        exact e
      · refine ⟨l.length + 1, by omega, ?_⟩
        rw [List.take_of_length_le (by simp; omega), List.take_of_length_le (by simp), List.foldl_append, List.foldl_append, i3]
        simp [landW, wr, hm]
/-- What is left of a host that is lost. -/
theorem landL_lost (h : Int) : ∀ (ps : List Io) (k : Int) (ss : List Tx), (∀ x ∈ ps, x.host = h) → 0 ≤ k →
    (landL h true ps k ss).1 = [] ∧ (landL h true ps k ss).2.2 = (ps.take k.toNat).foldl landW ss := by
  intro ps
  induction ps with
  | nil => intro k ss _ _; exact ⟨rfl, by simp [landL]⟩
  | cons x ps ih =>
    intro k ss hx hk
    have h1 : x.host = h := hx x (by simp)
    have g : goes h k true x = true := by simp [goes, h1]
    unfold landL
    rw [if_pos g]
    by_cases h2 : 0 < k
    · obtain ⟨i1, i2⟩ := ih (kOf h k x) (sOf h k ss x) (fun y hy => hx y (by simp [hy])) (by simp [kOf, h1, h2]; omega)
      refine ⟨i1, ?_⟩
      rw [i2]
      obtain ⟨n, hn⟩ : ∃ n : Nat, k.toNat = n + 1 := ⟨k.toNat - 1, by omega⟩
      have : (kOf h k x).toNat = n := by simp [kOf, h1, h2]; omega
      rw [this, hn, List.take_succ_cons]
      simp [sOf, h1, h2, landW]
    · have hk0 : k = 0 := by omega
      subst hk0
      obtain ⟨i1, i2⟩ := ih (kOf h 0 x) (sOf h 0 ss x) (fun y hy => hx y (by simp [hy])) (by simp [kOf])
      refine ⟨i1, ?_⟩
      rw [i2]
      simp [kOf, sOf]
/-- A disk behind some of a plan's moves and a crash. -/
theorem crash (h : Int) (ss0 : List Tx) (l : List Move) (hl : l.length ≤ 300) (keep : Int) (hk : 0 ≤ keep) : ∃ k, k ≤ l.length ∧ settleD (l.foldl (mvT h) (⟨ss0, []⟩, [])).1 h keep true = ⟨(l.take k).foldl wr ss0, []⟩ := by
  obtain ⟨i1, i2, i3⟩ := moves_cut h ss0 l hl
  generalize l.foldl (mvT h) (⟨ss0, []⟩, []) = r at *
  obtain ⟨q1, q2⟩ := landL_lost h r.1.ps keep r.1.ss i1 hk
  obtain ⟨k, hk, e⟩ := i3 keep.toNat
  exact ⟨k, hk, by simp only [settleD, q1, q2, e]⟩
/-! Sectors behind updates. -/
/-- What stands at a place behind updates. -/
def lastU (p : Nat) : List Update → Option Tx
  | [] => none
  | u :: l => match lastU p l with
    | some t => some t
    | none => if u.at_.toNat = p then some u.data else none
theorem setU_get (p : Nat) : ∀ (l : List Update) (ss : List Tx), p < ss.length → (l.foldl setU ss)[p]? = some ((lastU p l).getD (ss.getD p [])) := by
  intro l
  induction l with
  | nil => intro ss hp; simp [lastU, hp]
  | cons u l ih =>
    intro ss hp
    simp only [List.foldl_cons]
    rw [ih _ (by simpa [setU] using hp)]
    simp only [lastU]
    cases hq : lastU p l with
    | some t => simp
    | none =>
      by_cases c : u.at_.toNat = p
      · subst c; simp [setU, hp]
      · simp [setU, c, List.getElem?_set]
theorem lastU_take (p : Nat) : ∀ (l : List Update) (j : Nat), lastU p l = none → lastU p (l.take j) = none := by
  intro l
  induction l with
  | nil => intro j h; simpa using h
  | cons u l ih =>
    intro j h
    cases j with
    | zero => rfl
    | succ j =>
      simp only [lastU] at h
      cases hq : lastU p l with
      | some t => rw [hq] at h; cases h
      | none =>
        rw [hq] at h
        simp only [List.take_succ_cons, lastU]
        rw [ih j hq]
        exact h
theorem setU_len : ∀ (l : List Update) (ss : List Tx), (l.foldl setU ss).length = ss.length := by
  intro l
  induction l with
  | nil => intro ss; rfl
  | cons u l ih => intro ss; simp only [List.foldl_cons, ih]; simp [setU]
/-- Some of the updates, then all: the same as all. -/
theorem setU_again (l : List Update) (j : Nat) (ss : List Tx) : l.foldl setU ((l.take j).foldl setU ss) = l.foldl setU ss := by
  apply List.ext_getElem?
  intro p
  by_cases hp : p < ss.length
  · rw [setU_get p l _ (by rw [setU_len]; exact hp), setU_get p l ss hp]
    cases hq : lastU p l with
    | some t => rfl
    | none =>
      have := setU_get p (l.take j) ss hp
      rw [lastU_take p l j hq] at this
      simp only [Option.getD_none] at this ⊢
      rw [List.getD_eq_getElem?_getD, this]
      rfl
  · rw [List.getElem?_eq_none (by simp only [setU_len]; omega), List.getElem?_eq_none (by rw [setU_len]; omega)]
end Go.Proofs.YtccoeoppjcegnaaGreat


namespace Go.Proofs.YtccoeoppjcegnaaGreat
open Go
set_option maxRecDepth 100000
set_option linter.unusedSimpArgs false
set_option linter.unusedVariables false
/-- What the last write at a place is. -/
def lastM (p : Nat) : List Move → Option Tx
  | [] => none
  | m :: l => match lastM p l with
    | some t => some t
    | none => if m.kind ≠ 2 ∧ m.at_.toNat = p then some m.data else none
theorem lastM_app (p : Nat) : ∀ a b : List Move, lastM p (a ++ b) = match lastM p b with
    | some t => some t
    | none => lastM p a := by
  intro a b
  induction a with
  | nil => simp only [List.nil_append, lastM]; cases lastM p b <;> rfl
  | cons m a ih =>
    simp only [List.cons_append, lastM]
    rw [ih]
    cases h : lastM p b with
    | some t => rfl
    | none => rfl
theorem wr_get (p : Nat) : ∀ (l : List Move) (ss : List Tx), p < ss.length → (l.foldl wr ss)[p]? = some ((lastM p l).getD (ss.getD p [])) := by
  intro l
  induction l with
  | nil => intro ss hp; simp [lastM, hp]
  | cons m l ih =>
    intro ss hp
    have hl : (wr ss m).length = ss.length := by unfold wr; split <;> simp
    simp only [List.foldl_cons]
    rw [ih _ (by omega)]
    simp only [lastM]
    cases hq : lastM p l with
    | some t => simp
    | none =>
      unfold wr
      by_cases hk : m.kind = 2
      · simp [hk]
      · by_cases c : m.at_.toNat = p
        · subst c; simp [hk, hp]
        · simp [hk, c, List.getElem?_set]
theorem wr_getD (p : Nat) (l : List Move) (ss : List Tx) (hp : p < ss.length) : (l.foldl wr ss).getD p [] = (lastM p l).getD (ss.getD p []) := by
  rw [List.getD_eq_getElem?_getD, wr_get p l ss hp, Option.getD_some]
theorem lastM_none (p : Nat) : ∀ l : List Move, (∀ m ∈ l, m.kind = 2 ∨ m.at_.toNat ≠ p) → lastM p l = none := by
  intro l
  induction l with
  | nil => intro _; rfl
  | cons m l ih =>
    intro h
    simp only [lastM]
    rw [ih fun x hx => h x (by simp [hx])]
    have := h m (by simp)
    by_cases hk : m.kind = 2
    · simp [hk]
    · simp [hk, this.resolve_left hk]
theorem wr_flush (s : List Tx) : List.foldl wr s ([⟨2, 0, []⟩] : List Move) = s := rfl
theorem E64_len : E64.length = 64 := by decide
def pH (h q n : Int) : List Move := [⟨1, 39 + 6 * h, sealF 7 [n, q]⟩]
theorem upd_far (p : Nat) (hp : 39 ≤ p) (l : List Update) (hu : ∀ x ∈ l, 9 ≤ x.at_ ∧ x.at_ ≤ 28) : lastM p (l.map mvU) = none := by
  refine lastM_none _ _ fun m hm => ?_
  obtain ⟨u, hu', rfl⟩ := List.mem_map.1 hm
  have := hu u hu'
  right; simp only [mvU]; omega
end Go.Proofs.YtccoeoppjcegnaaGreat


namespace Go.Proofs.YtccoeoppjcegnaaGreat
open Go
set_option maxRecDepth 100000
set_option linter.unusedSimpArgs false
set_option linter.unusedVariables false
theorem updsR_all (d : Disk) (h b : Int) (l : List Update) (hr : ∀ (i : Nat) (u : Update), l[i]? = some u → updF (rdL d.ss d.ps h (b + 1 + (i : Int))) = some u) : ∀ (k i : Nat) (a : List Update), i + k = l.length → updsR d h b k i a = (true, a ++ l.drop i) := by
  intro k
  induction k with
  | zero => intro i a hi; unfold updsR; rw [List.drop_of_length_le (by omega)]; simp
  | succ k ih =>
    intro i a hi
    have hlt : i < l.length := by omega
    unfold updsR
    rw [hr i l[i] (List.getElem?_eq_getElem hlt)]
    simp only
    rw [ih (i + 1) _ (by omega), List.drop_eq_getElem_cons hlt]
    simp
theorem rdL_sure (ss : List Tx) (h a : Int) : rdL ss [] h a = ss.getD a.toNat [] := rfl
structure Read1 (h : Int) (ss : List Tx) (l : List Update) (q : Int) : Prop where
  ans : ∀ h' : Int, 0 ≤ h' ∧ h' ≤ 3 → jAns ⟨ss, []⟩ h' h = (l, q, 0)
theorem jAns_of_wait {h h' q : Int} {ss : List Tx} {l : List Update} (hd : diskOK ⟨ss, []⟩ = true) (hh : 0 ≤ h ∧ h ≤ 3) (hh' : 0 ≤ h' ∧ h' ≤ 3) (hw : waitF ⟨ss, []⟩ h' h = some (l, q)) : jAns ⟨ss, []⟩ h' h = (l, q, 0) := by
  have hj : jcode ⟨ss, []⟩ h' h = 0 := by
    have i1 : inn h' 0 3 = true := by simp [inn]; omega
    have i2 : inn h 0 3 = true := by simp [inn]; omega
    simp [jcode, hd, i1, i2]
  unfold jAns
  rw [if_neg (by simp [hj]), hw]
theorem seal7_ne (a b : Int) : sealF 7 [a, b] ≠ [] := by simp [sealF]
theorem wait_head0 {h h' q : Int} {ss : List Tx} (hq : 0 ≤ q ∧ q ≤ 2147483647) (ha : ss.getD (39 + 6 * h).toNat [] = sealF 7 [0, q]) : waitF ⟨ss, []⟩ h' h = some ([], q) := by
  have ho := open_seal (k := 7) (l := [0, q]) (by decide) (by simp [intsOK, isNum, inn]; omega)
  unfold waitF
  rw [rdL_sure, ha, if_neg (seal7_ne _ _), ho]
  simp [updsR]
theorem wait_none {h h' : Int} {ss : List Tx} (ha : ss.getD (39 + 6 * h).toNat [] = []) : waitF ⟨ss, []⟩ h' h = some ([], 0) := by
  unfold waitF
  rw [rdL_sure, ha, if_pos rfl]
/-- Moves of a replay. -/
theorem replay_eq (h q : Int) (l : List Update) : applyF h q l = (l.map mvU ++ ([⟨2, 0, []⟩] ++ pH h q 0)) ++ ([⟨2, 0, []⟩] : List Move) := by simp [applyF, pH]
theorem landL_small (h : Int) (lose : Bool) : ∀ (ps : List Io) (k : Int) (ss : List Tx), (∀ x ∈ ps, x.data.length ≤ 80) → (∀ s ∈ ss, s.length ≤ 80) → ∀ s ∈ (landL h lose ps k ss).2.2, s.length ≤ 80 := by
  intro ps
  induction ps with
  | nil => intro k ss _ h; exact h
  | cons x ps ih =>
    intro k ss hx hs
    unfold landL
    split
    · refine ih _ _ (fun y hy => hx y (by simp [hy])) ?_
      intro s hm
      unfold sOf at hm
      split at hm
      · rcases List.mem_or_eq_of_mem_set hm with hm | rfl
        · exact hs s hm
        · exact hx x (by simp)
      · exact hs s hm
    · exact ih _ _ (fun y hy => hx y (by simp [hy])) hs
theorem diskOK_iff {d : Disk} : diskOK d = true ↔ d.ss.length = 64 ∧ (∀ s ∈ d.ss, s.length ≤ 80) ∧ d.ps.length ≤ 200 ∧ ∀ x ∈ d.ps, ioOK x = true := by
  simp [diskOK, and_assoc]
theorem settle_ok {d : Disk} (hd : diskOK d = true) (h k : Int) (lose : Bool) : diskOK (settleD d h k lose) = true := by
  obtain ⟨a1, a2, a3, a4⟩ := diskOK_iff.1 hd
  have hl := landL_len h lose d.ps k d.ss
  refine diskOK_iff.2 ⟨by simp only [settleD]; rw [hl.2, a1], landL_small h lose d.ps k d.ss (fun x hx => ?_) a2, by simp only [settleD]; omega, landL_all h lose (fun x => ioOK x = true) d.ps k d.ss a4⟩
  have := a4 x hx
  simp [ioOK] at this
  exact this.2
theorem moves_ok (h : Int) (hh : inn h 0 3 = true) : ∀ (l : List Move) (d : Disk) (tl : List Io), diskOK d = true → d.ps.length + l.length ≤ 200 → (∀ m ∈ l, moveOK m = true) → diskOK (l.foldl (mvT h) (d, tl)).1 = true := by
  intro l
  induction l with
  | nil => intro d tl hd _ _; exact hd
  | cons m l ih =>
    intro d tl hd hl hm
    simp only [List.length_cons] at hl
    simp only [List.foldl_cons]
    have hm1 := hm m (by simp)
    by_cases hk : m.kind = 2
    · have e : mvT h (d, tl) m = (settleD d h 400 false, (mvT h (d, tl) m).2) := by
        unfold mvT
        rw [if_pos hk]
      rw [e]
      have := (landL_len h false d.ps 400 d.ss).1
      exact ih _ _ (settle_ok hd h 400 false) (by simp only [settleD]; omega) fun x hx => hm x (by simp [hx])
    · have e : mvT h (d, tl) m = (⟨d.ss, d.ps ++ [⟨h, m.at_, m.data⟩]⟩, (mvT h (d, tl) m).2) := by
        unfold mvT
        rw [if_neg hk]
      rw [e]
      obtain ⟨a1, a2, a3, a4⟩ := diskOK_iff.1 hd
      refine ih _ _ (diskOK_iff.2 ⟨a1, a2, by simp; omega, fun x hx => ?_⟩) (by simp; omega) fun x hx => hm x (by simp [hx])
      simp only [List.mem_append, List.mem_singleton] at hx
      rcases hx with hx | rfl
      · exact a4 x hx
      · simp [moveOK, hk] at hm1
        simp [ioOK, hh, hm1]
structure After (h : Int) (l : List Update) (ss z : List Tx) (rp : List Move) : Prop where
  len : rp.length ≤ 10
  oks : ∀ m ∈ rp, moveOK m = true
  done : ∀ o : Int, (rp.foldl (mvT o) (⟨ss, []⟩, [])).1 = ⟨z, []⟩
  ok : diskOK ⟨z, []⟩ = true
  left : ∀ h' : Int, 0 ≤ h' ∧ h' ≤ 3 → ∃ q' : Int, jAns ⟨z, []⟩ h' h = ([], q', 0)
  secs : z.take 39 = E64.take 39 ∨ z.take 39 = (l.foldl setU E64).take 39
theorem ok_of {ss : List Tx} (h1 : ss.length = 64) (h2 : ∀ s ∈ ss, s.length ≤ 80) : diskOK ⟨ss, []⟩ = true := by
  simp only [diskOK, h1]
  simp
  exact h2
end Go.Proofs.YtccoeoppjcegnaaGreat


namespace Go.Proofs.YtccoeoppjcegnaaGreat
open Go
set_option maxRecDepth 100000
set_option maxHeartbeats 4000000
set_option linter.unusedSimpArgs false
set_option linter.unusedVariables false
structure ES where
  d : Disk
  p : Px
  bs : List Bl
def stE (s : ES) : ES :=
  ⟨if (stepP s.p s.bs).2.getD s.p.host.toNat zBl = s.bs.getD s.p.host.toNat zBl then s.d else putD s.d s.p.host (1 + s.p.host) (blT ((stepP s.p s.bs).2.getD s.p.host.toNat zBl)), (stepP s.p s.bs).1, (stepP s.p s.bs).2⟩
def over (p : Px) : Bool := decide (p.phase = 5) || decide (p.phase = 6)
def runE : Nat → ES → ES
  | 0, s => s
  | n + 1, s => if over s.p then s else runE n (stE s)
def mu (p : Px) : Nat := if p.phase = 1 then 30 else if p.phase = 2 then 20 + (5 - p.next).toNat else if p.phase = 3 then 15 else if p.phase = 4 then 5 + (5 - p.next).toNat else 0
structure ESIn (h : Int) (s : ES) : Prop where
  host : s.p.host = h
  h0 : 0 ≤ h
  h3 : h ≤ 3
  len : s.bs.length = 4
  p1 : 1 ≤ s.p.phase
  p6 : s.p.phase ≤ 6
  n0 : 0 ≤ s.p.next
  n5 : s.p.next ≤ 5
  n3 : s.p.phase = 2 ∨ s.p.phase = 4 → s.p.next ≤ 3
  ok : diskOK s.d = true
  room : s.d.ps.length < 200
theorem landL_put (h : Int) : ∀ (ps : List Io) (k : Int) (ss : List Tx) (x : Io), x.host = h → (ps.length : Int) < k → (landL h false (ps ++ [x]) k ss).1.length ≤ ps.length := by
  intro ps
  induction ps with
  | nil =>
    intro k ss x hx hk
    simp only [List.length_nil] at hk
    have : 0 < k := by omega
    simp [landL, goes, hx, this]
  | cons y ps ih =>
    intro k ss x hx hk
    simp only [List.length_cons] at hk
    simp only [List.cons_append]
    unfold landL
    split
    · have hk' : (ps.length : Int) < kOf h k y := by unfold kOf; split <;> omega
      have := ih (kOf h k y) (sOf h k ss y) x hx hk'
      simp only [List.length_cons]; omega
    · have := ih k ss x hx (by omega)
      simp only [List.length_cons]; omega
theorem putD_room (d : Disk) (h a : Int) (t : Tx) (hd : d.ps.length < 200) : (putD d h a t).ps.length ≤ d.ps.length := by
  unfold putD settleD
  exact landL_put h d.ps 201 d.ss ⟨h, a, t⟩ rfl (by omega)
theorem putD_ok {d : Disk} {h a : Int} {t : Tx} (hd : diskOK d = true) (hr : d.ps.length < 200) (hh : inn h 0 3 = true) (ha : inn a 0 63 = true) (ht : t.length ≤ 80) : diskOK (putD d h a t) = true := by
  unfold putD
  refine settle_ok ?_ h 201 false
  obtain ⟨a1, a2, a3, a4⟩ := diskOK_iff.1 hd
  refine diskOK_iff.2 ⟨a1, a2, by simp; omega, fun x hx => ?_⟩
  simp only [List.mem_append, List.mem_singleton] at hx
  rcases hx with hx | rfl
  · exact a4 x hx
  · simp [ioOK, hh, ha, ht]
theorem blT_len (b : Bl) : (blT b).length = 20 := by simp [blT, sealF_length]
theorem finP_in (q : Px) (hn : 0 ≤ q.next ∧ q.next ≤ 5) (hp : q.phase = 2 ∨ q.phase = 4) : (finP q).host = q.host ∧ (finP q).next = q.next ∧ ((finP q).phase = q.phase ∧ q.next ≤ 3 ∨ (q.phase = 4 ∧ (finP q).phase = 5) ∨ (q.phase = 2 ∧ (finP q).phase = 3)) := by
  unfold finP
  split
  · refine ⟨rfl, rfl, .inl ⟨rfl, by omega⟩⟩
  · split
    · exact ⟨rfl, rfl, .inr (.inl ⟨by assumption, rfl⟩)⟩
    · rename_i h
      exact ⟨rfl, rfl, .inr (.inr ⟨by omega, rfl⟩)⟩
theorem stepP_in {h : Int} {s : ES} (g : ESIn h s) (ho : over s.p = false) : (stepP s.p s.bs).1.host = h ∧ (stepP s.p s.bs).2.length = 4 ∧ 1 ≤ (stepP s.p s.bs).1.phase ∧ (stepP s.p s.bs).1.phase ≤ 6 ∧
    0 ≤ (stepP s.p s.bs).1.next ∧ (stepP s.p s.bs).1.next ≤ 5 ∧ ((stepP s.p s.bs).1.phase = 2 ∨ (stepP s.p s.bs).1.phase = 4 → (stepP s.p s.bs).1.next ≤ 3) ∧ mu (stepP s.p s.bs).1 < mu s.p := by
  have g1 := g.host; have g2 := g.h0; have g3 := g.h3; have g4 := g.len; have g5 := g.p1; have g6 := g.p6; have g7 := g.n0; have g8 := g.n5; have g9 := g.n3
  simp [over] at ho
  unfold stepP
  by_cases hw : s.p.phase = 1 ∨ s.p.phase = 3
  · rw [if_pos hw]
    split
    · refine ⟨g1, g4, by simp, by simp, g7, g8, by simp, ?_⟩
      rcases hw with hw | hw <;> simp [mu, hw]
    · unfold writeP
      split
      · rename_i h3
        refine ⟨g1, by simp [g4], by simp, by simp, by simp, by simp, by simp, ?_⟩
        simp [mu, h3]
      · rename_i h3
        have h1 : s.p.phase = 1 := hw.resolve_right h3
        refine ⟨g1, by simp [g4], by simp, by simp, by simp, by simp, by simp, ?_⟩
        simp [mu, h1]
  · rw [if_neg hw]
    have h24 : s.p.phase = 2 ∨ s.p.phase = 4 := by omega
    have n3 := g9 h24
    have hx0 : s.p.next ≤ nx0 s.p ∧ nx0 s.p ≤ s.p.next + 1 := by unfold nx0; split <;> omega
    refine (fun (hx : (readP s.p s.bs).host = h ∧ ((readP s.p s.bs).phase = 6 ∧ 0 ≤ (readP s.p s.bs).next ∧ (readP s.p s.bs).next ≤ 5 ∨ s.p.next < (readP s.p s.bs).next ∧ (readP s.p s.bs).next ≤ 5 ∧ ((readP s.p s.bs).phase = s.p.phase ∧ (readP s.p s.bs).next ≤ 3 ∨ (s.p.phase = 4 ∧ (readP s.p s.bs).phase = 5) ∨ (s.p.phase = 2 ∧ (readP s.p s.bs).phase = 3)))) => ?_) ?_
    · obtain ⟨a1, a2⟩ := hx
      simp only
      generalize readP s.p s.bs = r at *
      rcases a2 with ⟨b1, b2, b3⟩ | ⟨b1, b2, ⟨b3, b4⟩ | ⟨b3, b4⟩ | ⟨b3, b4⟩⟩
      · refine ⟨a1, g4, by omega, by omega, by omega, by omega, by omega, ?_⟩
        rcases h24 with h24 | h24 <;> simp [mu, b1, h24] <;> omega
      · refine ⟨a1, g4, by omega, by omega, by omega, by omega, by omega, ?_⟩
        rcases h24 with h24 | h24 <;> simp [mu, b3, h24] <;> omega
      · refine ⟨a1, g4, by omega, by omega, by omega, by omega, by omega, ?_⟩
        simp [mu, b3, b4]; omega
      · refine ⟨a1, g4, by omega, by omega, by omega, by omega, by omega, ?_⟩
        simp [mu, b3, b4]; omega
    · unfold readP
      by_cases hn : nx0 s.p < 4
      · rw [if_pos hn]
        unfold readB
        split
        · exact ⟨g1, .inl ⟨rfl, by simp only; omega, by simp only; omega⟩⟩
        · have hf := finP_in { s.p with next := if nx0 s.p + 1 = s.p.host then nx0 s.p + 1 + 1 else nx0 s.p + 1, best := if s.p.phase ≠ 4 ∧ s.p.bestBal < (ofV (s.bs.getD (nx0 s.p).toNat zBl) s.p.ver).bal then (ofV (s.bs.getD (nx0 s.p).toNat zBl) s.p.ver).inp else s.p.best, bestBal := if s.p.phase ≠ 4 ∧ s.p.bestBal < (ofV (s.bs.getD (nx0 s.p).toNat zBl) s.p.ver).bal then (ofV (s.bs.getD (nx0 s.p).toNat zBl) s.p.ver).bal else s.p.bestBal } (by simp only; split <;> omega) h24
          obtain ⟨f1, f2, f3⟩ := hf
          refine ⟨f1.trans g1, .inr ⟨?_, ?_, ?_⟩⟩
          · rw [f2]; simp only; split <;> omega
          · rw [f2]; simp only; split <;> omega
          · rw [f2]; exact f3
      · rw [if_neg hn]
        have hf := finP_in { s.p with next := nx0 s.p } (by simp only; omega) h24
        obtain ⟨f1, f2, f3⟩ := hf
        refine ⟨f1.trans g1, .inr ⟨?_, ?_, ?_⟩⟩
        · rw [f2]; simp only; omega
        · rw [f2]; simp only; omega
        · rw [f2]; exact f3
theorem stE_in {h : Int} {s : ES} (g : ESIn h s) (ho : over s.p = false) : ESIn h (stE s) ∧ mu (stE s).p < mu s.p := by
  obtain ⟨a1, a2, a3, a4, a5, a6, a7, a8⟩ := stepP_in g ho
  have hh : inn h 0 3 = true := by have := g.h0; have := g.h3; simp [inn]; omega
  have ha : inn (1 + h) 0 63 = true := by have := g.h0; have := g.h3; simp [inn]; omega
  refine ⟨⟨a1, g.h0, g.h3, a2, a3, a4, a5, a6, a7, ?_, ?_⟩, a8⟩
  · simp only [stE]
    split
    · exact g.ok
    · rw [g.host]; exact putD_ok g.ok g.room hh ha (by rw [blT_len]; omega)
  · simp only [stE]
    split
    · exact g.room
    · have := putD_room s.d s.p.host (1 + s.p.host) (blT ((stepP s.p s.bs).2.getD s.p.host.toNat zBl)) g.room
      have := g.room
      omega
theorem mu_over {p : Px} (h : over p = true) : mu p = 0 := by
  simp [over] at h
  rcases h with h | h <;> simp [mu, h]
theorem runE_over {s : ES} (h : over s.p = true) : ∀ n, runE n s = s := by
  intro n
  cases n with
  | zero => rfl
  | succ n => simp [runE, h]
theorem runE_stable (h : Int) : ∀ (m : Nat) (s : ES), ESIn h s → mu s.p ≤ m → ∀ n, mu s.p ≤ n → runE n s = runE m s := by
  intro m
  induction m with
  | zero =>
    intro s g hm n hn
    cases ho : over s.p with
    | true => rw [runE_over ho, runE_over ho]
    | false => have := (stE_in g ho).2; omega
  | succ m ih =>
    intro s g hm n hn
    cases ho : over s.p with
    | true => rw [runE_over ho, runE_over ho]
    | false =>
      obtain ⟨g', hlt⟩ := stE_in g ho
      cases n with
      | zero => omega
      | succ n =>
        simp only [runE, ho, Bool.false_eq_true, if_false]
        exact ih (stE s) g' (by omega) n (by omega)
theorem runE_step {h : Int} {s : ES} (g : ESIn h s) (ho : over s.p = false) : runE 40 (stE s) = runE 40 s := by
  obtain ⟨g', hlt⟩ := stE_in g ho
  have hb : mu s.p ≤ 30 := by
    unfold mu
    have := g.n0
    split
    · omega
    · split
      · omega
      · split
        · omega
        · split <;> omega
  have e : runE 40 s = runE 39 (stE s) := by simp [runE, ho]
  rw [e]
  exact runE_stable h 39 (stE s) g' (by omega) 40 (by omega)
theorem runE_in {h : Int} : ∀ (n : Nat) (s : ES), ESIn h s → ESIn h (runE n s) := by
  intro n
  induction n with
  | zero => intro s g; exact g
  | succ n ih =>
    intro s g
    unfold runE
    cases ho : over s.p with
    | true => simpa using g
    | false => simpa using ih _ (stE_in g ho).1
theorem runE_ends {h : Int} : ∀ (n : Nat) (s : ES), ESIn h s → mu s.p ≤ n → over (runE n s).p = true := by
  intro n
  induction n with
  | zero =>
    intro s g hm
    cases ho : over s.p with
    | true => exact ho
    | false => have := (stE_in g ho).2; omega
  | succ n ih =>
    intro s g hm
    unfold runE
    cases ho : over s.p with
    | true => simpa using ho
    | false =>
      obtain ⟨g', hlt⟩ := stE_in g ho
      simpa using ih _ g' (by omega)
def rdB (d : Disk) (h : Int) (i : Int) : Bl := (blF (rdL d.ss d.ps h (1 + i))).getD zBl
def blks (d : Disk) (h : Int) : List Bl := [rdB d h 0, rdB d h 1, rdB d h 2, rdB d h 3]
def px0 (h v b w : Int) : Px := ⟨h, v, 1, b, w, 0, 0, 0⟩
def es0 (d : Disk) (h owner gen : Int) : ES := ⟨d, px0 h ((rdLd d h).ver + 1) (nextB h ((rdLd d h).ver + 1) (blks d h)) (1024 * gen + owner), blks d h⟩
def ldE (s : ES) : Leader := ⟨s.p.ver, s.p.value.tmod 1024, s.p.value.tdiv 1024⟩
def endE (d : Disk) (h : Int) (v : Int) (s : ES) : Disk × Leader × Int :=
  if s.p.phase = 6 ∨ ldrOK ⟨v, s.p.value.tmod 1024, s.p.value.tdiv 1024⟩ = false then (s.d, rdLd d h, 19)
  else (putD s.d h 0 (ldrT ⟨v, s.p.value.tmod 1024, s.p.value.tdiv 1024⟩), ⟨v, s.p.value.tmod 1024, s.p.value.tdiv 1024⟩, 0)
def electA (d : Disk) (h owner gen : Int) : Disk × Leader × Int := endE d h ((rdLd d h).ver + 1) (runE 40 (es0 d h owner gen))
theorem blF_ok {t : Tx} {b : Bl} (h : blF t = some b) : blkOK b = true := by
  unfold blF at h
  split at h
  · split at h
    · rename_i hok
      injection h with h; subst h; exact hok
    · cases h
  · cases h
theorem rdB_ok (d : Disk) (h i : Int) : 0 ≤ (rdB d h i).mbal ∧ (rdB d h i).mbal ≤ 1000000 ∧ 0 ≤ (rdB d h i).bal ∧ (rdB d h i).bal ≤ (rdB d h i).mbal := by
  unfold rdB
  cases hb : blF (rdL d.ss d.ps h (1 + i)) with
  | none => simp [zBl]
  | some b =>
    have := blF_ok hb
    simp [blkOK, inn] at this
    simp only [Option.getD_some]
    omega
theorem blks_mbal (d : Disk) (h : Int) : ∀ b ∈ blks d h, 0 ≤ b.mbal ∧ b.mbal ≤ 1000000 := by
  intro b hb
  simp only [blks, List.mem_cons, List.not_mem_nil, or_false] at hb
  rcases hb with rfl | rfl | rfl | rfl
  · exact ⟨(rdB_ok d h 0).1, (rdB_ok d h 0).2.1⟩
  · exact ⟨(rdB_ok d h 1).1, (rdB_ok d h 1).2.1⟩
  · exact ⟨(rdB_ok d h 2).1, (rdB_ok d h 2).2.1⟩
  · exact ⟨(rdB_ok d h 3).1, (rdB_ok d h 3).2.1⟩
theorem rdLd_ver (d : Disk) (h : Int) : 0 ≤ (rdLd d h).ver ∧ (rdLd d h).ver ≤ 1000000 ∧ ldrOK (rdLd d h) = true := by
  unfold rdLd
  cases hx : ldrF (rdL d.ss d.ps h 0) with
  | none => simp [noL, ldrOK, inn]
  | some x =>
    have hok : ldrOK x = true := by
      unfold ldrF at hx
      split at hx
      · split at hx
        · rename_i hok
          injection hx with hx; subst hx; exact hok
        · cases hx
      · cases hx
    have h2 := hok
    simp [ldrOK, inn] at h2
    simp only [Option.getD_some]
    exact ⟨by omega, by omega, hok⟩
theorem es0_in {d : Disk} {h owner gen : Int} (hd : diskOK d = true) (hh : 0 ≤ h ∧ h ≤ 3) (hr : d.ps.length < 200) : ESIn h (es0 d h owner gen) :=
  ⟨rfl, hh.1, hh.2, rfl, by simp [es0, px0], by simp [es0, px0], by simp [es0, px0], by simp [es0, px0], by simp [es0, px0], hd, hr⟩
/-! Values stay numbers. -/
def sm (n : Int) : Prop := 0 ≤ n ∧ n ≤ 2147483647
structure VIn (p : Px) (bs : List Bl) : Prop where
  val : sm p.value
  best : sm p.best
  inp : ∀ b ∈ bs, sm b.inp
theorem getD_sm {bs : List Bl} (h : ∀ b ∈ bs, sm b.inp) (n : Nat) (v : Int) : sm (ofV (bs.getD n zBl) v).inp := by
  have h0 : sm (bs.getD n zBl).inp := by
    by_cases hn : n < bs.length
    · rw [getD_at hn]; exact h _ (List.getElem_mem hn)
    · rw [List.getD_eq_getElem?_getD, List.getElem?_eq_none (by omega)]; unfold sm zBl; simp
  unfold ofV
  split
  · unfold sm; simp
  · exact h0
theorem finP_v {q : Px} {bs : List Bl} (v : VIn q bs) : VIn (finP q) bs := by
  unfold finP
  split
  · exact v
  · split
    · exact ⟨v.val, v.best, v.inp⟩
    · refine ⟨?_, v.best, v.inp⟩
      simp only
      split
      · exact v.best
      · exact v.val
theorem stepP_v {p : Px} {bs : List Bl} (v : VIn p bs) : VIn (stepP p bs).1 (stepP p bs).2 := by
  have ho : sm (ownB p bs).inp := getD_sm v.inp _ _
  unfold stepP
  split
  · split
    · exact ⟨v.val, v.best, v.inp⟩
    · unfold writeP
      split
      · refine ⟨v.val, v.best, fun b hb => ?_⟩
        rcases List.mem_or_eq_of_mem_set hb with hb | rfl
        · exact v.inp b hb
        · exact v.val
      · refine ⟨v.val, ho, fun b hb => ?_⟩
        rcases List.mem_or_eq_of_mem_set hb with hb | rfl
        · exact v.inp b hb
        · exact ho
  · simp only
    unfold readP
    split
    · have hb := getD_sm v.inp (nx0 p).toNat p.ver
      unfold readB
      split
      · exact ⟨v.val, v.best, v.inp⟩
      · refine finP_v ⟨v.val, ?_, v.inp⟩
        simp only
        split
        · exact hb
        · exact v.best
    · exact finP_v ⟨v.val, v.best, v.inp⟩
theorem runE_v : ∀ (n : Nat) (s : ES), VIn s.p s.bs → VIn (runE n s).p (runE n s).bs := by
  intro n
  induction n with
  | zero => intro s v; exact v
  | succ n ih =>
    intro s v
    unfold runE
    split
    · exact v
    · exact ih _ (stepP_v v)
theorem blks_v (d : Disk) (h : Int) : ∀ b ∈ blks d h, sm b.inp := by
  have key : ∀ i, sm (rdB d h i).inp := by
    intro i
    unfold rdB
    cases hb : blF (rdL d.ss d.ps h (1 + i)) with
    | none => unfold sm; simp [zBl]
    | some b =>
      have := blF_ok hb
      simp [blkOK, isNum, inn] at this
      simp only [Option.getD_some]
      exact this.1.2
  intro b hb
  simp only [blks, List.mem_cons, List.not_mem_nil, or_false] at hb
  rcases hb with rfl | rfl | rfl | rfl <;> exact key _
theorem es0_v {d : Disk} {h owner gen : Int} (h1 : 0 ≤ owner ∧ owner ≤ 3) (h2 : 1 ≤ gen ∧ gen ≤ 1000000) : VIn (es0 d h owner gen).p (es0 d h owner gen).bs := by
  refine ⟨?_, ?_, blks_v d h⟩
  · unfold sm; simp only [es0, px0]; omega
  · unfold sm; simp [es0, px0]
end Go.Proofs.YtccoeoppjcegnaaGreat


namespace Go.Proofs.YtccoeoppjcegnaaGreat
open Go
set_option maxRecDepth 100000
set_option maxHeartbeats 4000000
set_option linter.unusedSimpArgs false
set_option linter.unusedVariables false
theorem sBlockOK_E (b : Bl) : E CX 129 [eBl b] [] = some { val := .bool (blkOK b) } := by
  refine E_fin Tryz.f129 _ an129 rfl rfl rfl Tryz.func129 rfl (by kernel_rfl) ?_
  have e1 := l01In_E b.ver 0 1000000
  have e2 := l01In_E b.mbal 0 1000000
  have e3 := l01In_E b.bal 0 b.mbal
  have e4 := l01In_E b.inp 0 2147483647
  unfold blkOK isNum
  cases c1 : inn b.ver 0 1000000
  · rw [c1] at e1; simp [go_sem, eBl, e1]
  · rw [c1] at e1
    cases c2 : inn b.mbal 0 1000000
    · rw [c2] at e2; simp [go_sem, eBl, e1, e2]
    · rw [c2] at e2
      cases c3 : inn b.bal 0 b.mbal
      · rw [c3] at e3; simp [go_sem, eBl, e1, e2, e3]
      · rw [c3] at e3
        cases c4 : inn b.inp 0 2147483647
        · rw [c4] at e4; simp [go_sem, eBl, e1, e2, e3, e4]
        · rw [c4] at e4
          by_cases c5 : 0 < b.bal
          · simp [go_sem, eBl, e1, e2, e3, e4, c5]
          · simp [go_sem, eBl, e1, e2, e3, e4, c5]
            rfl
theorem l05Decode_E (t : Tx) (ht : t.length ≤ 1000000) : E CX 111 [.str t] [] = some { val := blV (blF t) } := by
  refine E_fin Tryz.f111 _ an111 rfl rfl rfl Tryz.func111 rfl (by kernel_rfl) ?_
  unfold blF
  have e1 := l02Open_E t 5 ht
  cases h2 : openF t 5 with
  | none =>
    rw [h2] at e1
    simp [go_sem, blV, eBl, zBl, h2, e1]
  | some l =>
    rw [h2] at e1
    match l, h2 with
    | [], h2 => simp [go_sem, blV, eBl, zBl, h2, e1]
    | [a], h2 => simp [go_sem, blV, eBl, zBl, h2, e1]
    | [a, b], h2 => simp [go_sem, blV, eBl, zBl, h2, e1]
    | [a, b, c], h2 => simp [go_sem, blV, eBl, zBl, h2, e1]
    | a :: b :: c :: d :: f :: l, h2 => simp [go_sem, blV, eBl, zBl, h2, e1, len_ne4 l]
    | [a, b, c, d], h2 =>
      have e2 := sBlockOK_E ⟨a, b, c, d⟩
      simp only [eBl] at e2
      cases h4 : blkOK ⟨a, b, c, d⟩
      · rw [h4] at e2
        simp [go_sem, blV, eBl, zBl, h2, e1, e2, h4]
      · rw [h4] at e2
        simp [go_sem, blV, eBl, zBl, h2, e1, e2, h4]
theorem l05Of_E (b : Bl) (v : Int) : E CX 112 [eBl b, .int .i64 v] [] = some { val := eBl (ofV b v) } := by
  refine E_fin Tryz.f112 _ an112 rfl rfl rfl Tryz.func112 rfl (by kernel_rfl) ?_
  unfold ofV
  by_cases h : b.ver < v
  · simp [go_sem, eBl, h]
  · simp [go_sem, eBl, h]
theorem l05Next_E (h v : Int) (l : List Bl) (hh : 0 ≤ h ∧ h ≤ 3) (hl : l.length ≤ 1000) (hb : ∀ b ∈ l, 0 ≤ b.mbal ∧ b.mbal ≤ 1000000) : E CX 82 [.int .i64 h, .int .i64 v, .sl 4 (l.map eBl)] [] = some { val := .int .i64 (nextB h v l) } := by
  refine E_fin Tryz.f82 _ an82 rfl rfl rfl Tryz.func82 rfl (by kernel_rfl) ?_
  simp [go_sem]
  refine loop_for (fun X => fin CX _ _ X = _) l (fun n (a : Int) => True) (fun n a => ⟨SS [(0, .int .i64 h), (1, .int .i64 v), (2, .sl 4 (l.map eBl)), (7, .int .i64 a), (8, .int .i64 n)], HE⟩)
    (fun r n a => (.exit 0, ⟨SS [(0, .int .i64 h), (7, .int .i64 (maxM v r a))], HE⟩)) 0 trivial ?_ ?_ ?_ ?_ ?_
  · simp [go_sem]
  · intro R n a b r hn hx hd hI hR
    have hx := hx hn
    have e1 := l05Of_E b v
    have := hR (if a < (ofV b v).mbal then (ofV b v).mbal else a) trivial (by simp [maxM])
    simp only [eBl] at e1
    simp [go_sem] at this
    by_cases c : a < (ofV b v).mbal
    · simp [c] at this
      simp [go_sem, hn, hx, eBl, e1, c, wrap_id (n := (n : Int) + 1) (by omega)]
      exact this
    · simp [c] at this
      simp [go_sem, hn, hx, eBl, e1, c, wrap_id (n := (n : Int) + 1) (by omega)]
      exact this
  · intro a hI; simp [go_sem, maxM]
  · intro _; simp
  · have hm := maxM_bound v l 0 (by omega) hb
    have ht : 0 ≤ (maxM v l 0).tdiv 4 ∧ (maxM v l 0).tdiv 4 ≤ 1000000 := by rw [Int.tdiv_eq_ediv_of_nonneg (by omega)]; omega
    unfold nextB
    simp [go_sem, wrap_id (n := (maxM v l 0).tdiv 4) (by omega), wrap_id (n := (maxM v l 0).tdiv 4 + 1) (by omega), wrap_id (n := ((maxM v l 0).tdiv 4 + 1) * 4) (by omega), wrap_id (n := ((maxM v l 0).tdiv 4 + 1) * 4 + h) (by omega)]
theorem l05Write_E (p : Px) (o : Bl) (hv : o.ver = p.ver) (hp : p.phase = 1 ∨ p.phase = 3) : E CX 114 [ePx p, eBl o] [] = some { val := .tuple [ePx (writeP p o).1, eBl (writeP p o).2] } := by
  unfold writeP
  rcases hp with hp | hp
  · refine E_fin Tryz.f114 _ an114 rfl rfl rfl Tryz.func114 rfl (by kernel_rfl) ?_
    simp [go_sem, ePx, eBl, hp, hv]
  · refine E_fin Tryz.f114 _ an114 rfl rfl rfl Tryz.func114 rfl (by kernel_rfl) ?_
    simp [go_sem, ePx, eBl, hp, hv]
theorem l05Read_E (p : Px) (bs : List Bl) (g : PxIn p bs) (hw : p.phase = 2 ∨ p.phase = 4) : E CX 113 [ePx p, .sl 4 (bs.map eBl)] [] = some { val := ePx (readP p bs) } := by
  have g1 := g.len; have g2 := g.host; have g3 := g.next
  have w1 := wrap_id (n := p.next + 1) (by omega)
  have w2 := wrap_id (n := p.next + 1 + 1) (by omega)
  have w4 := wrap_id (n := p.host + 1) (by omega)
  have w5 := wrap_id (n := p.host + 1 + 1) (by omega)
  have w7 := wrap_id (n := p.host) (by omega)
  by_cases hn : nx0 p < 4
  · have hn0 : 0 ≤ nx0 p := by unfold nx0; split <;> omega
    have hlt : (nx0 p).toNat < bs.length := by omega
    have hlt4 : (nx0 p).toNat < 4 := by omega
    have e1 := l05Of_E bs[(nx0 p).toNat] p.ver
    have hr : readP p bs = readB p (ofV bs[(nx0 p).toNat] p.ver) := by unfold readP; rw [if_pos hn, getD_at hlt]
    rw [hr]
    unfold readB finP
    generalize ofV bs[(nx0 p).toNat] p.ver = o at *
    obtain ⟨ov, om, ob, oi⟩ := o
    simp only [eBl] at e1
    by_cases c0 : p.next = p.host
    · have hx : nx0 p = p.host + 1 := by unfold nx0; rw [if_pos c0, c0]
      simp only [hx] at hn hn0 hlt hlt4 e1 ⊢
      have c1 : ¬ (p.host + 1 + 1 = p.host) := by omega
      by_cases a1 : p.ver < ov
      · refine E_fin Tryz.f113 _ an113 rfl rfl rfl Tryz.func113 rfl (by kernel_rfl) ?_
        simp [go_sem, ePx, eBl, c0, g1, g2.1, hlt, hlt4, hn, hn0, e1, a1, w4, w5]
      · by_cases a2 : p.ballot < om
        · refine E_fin Tryz.f113 _ an113 rfl rfl rfl Tryz.func113 rfl (by kernel_rfl) ?_
          simp [go_sem, ePx, eBl, c0, g1, g2.1, hlt, hlt4, hn, hn0, e1, a1, a2, w4, w5]
        · rcases hw with a3 | a3
          · by_cases a4 : p.bestBal < ob
            · by_cases a5 : p.host + 1 + 1 < 4
              · refine E_fin Tryz.f113 _ an113 rfl rfl rfl Tryz.func113 rfl (by kernel_rfl) ?_
                simp [go_sem, ePx, eBl, c0, c1, g1, g2.1, hlt, hlt4, hn, hn0, e1, a1, a2, a3, a4, a5, w4, w5]
              · by_cases a6 : 0 < ob
                · refine E_fin Tryz.f113 _ an113 rfl rfl rfl Tryz.func113 rfl (by kernel_rfl) ?_
                  simp [go_sem, ePx, eBl, c0, c1, g1, g2.1, hlt, hlt4, hn, hn0, e1, a1, a2, a3, a4, a5, a6, w4, w5]
                · refine E_fin Tryz.f113 _ an113 rfl rfl rfl Tryz.func113 rfl (by kernel_rfl) ?_
                  simp [go_sem, ePx, eBl, c0, c1, g1, g2.1, hlt, hlt4, hn, hn0, e1, a1, a2, a3, a4, a5, a6, w4, w5]
            · by_cases a5 : p.host + 1 + 1 < 4
              · refine E_fin Tryz.f113 _ an113 rfl rfl rfl Tryz.func113 rfl (by kernel_rfl) ?_
                simp [go_sem, ePx, eBl, c0, c1, g1, g2.1, hlt, hlt4, hn, hn0, e1, a1, a2, a3, a4, a5, w4, w5]
              · by_cases a6 : 0 < p.bestBal
                · refine E_fin Tryz.f113 _ an113 rfl rfl rfl Tryz.func113 rfl (by kernel_rfl) ?_
                  simp [go_sem, ePx, eBl, c0, c1, g1, g2.1, hlt, hlt4, hn, hn0, e1, a1, a2, a3, a4, a5, a6, w4, w5]
                · refine E_fin Tryz.f113 _ an113 rfl rfl rfl Tryz.func113 rfl (by kernel_rfl) ?_
                  simp [go_sem, ePx, eBl, c0, c1, g1, g2.1, hlt, hlt4, hn, hn0, e1, a1, a2, a3, a4, a5, a6, w4, w5]
          · by_cases a5 : p.host + 1 + 1 < 4
            · refine E_fin Tryz.f113 _ an113 rfl rfl rfl Tryz.func113 rfl (by kernel_rfl) ?_
              simp [go_sem, ePx, eBl, c0, c1, g1, g2.1, hlt, hlt4, hn, hn0, e1, a1, a2, a3, a5, w4, w5]
            · refine E_fin Tryz.f113 _ an113 rfl rfl rfl Tryz.func113 rfl (by kernel_rfl) ?_
              simp [go_sem, ePx, eBl, c0, c1, g1, g2.1, hlt, hlt4, hn, hn0, e1, a1, a2, a3, a5, w4, w5]
    · have hx : nx0 p = p.next := by unfold nx0; rw [if_neg c0]
      simp only [hx] at hn hn0 hlt hlt4 e1 ⊢
      by_cases a1 : p.ver < ov
      · refine E_fin Tryz.f113 _ an113 rfl rfl rfl Tryz.func113 rfl (by kernel_rfl) ?_
        simp [go_sem, ePx, eBl, c0, g1, g2.1, hlt, hlt4, hn, hn0, e1, a1, w1, w2]
      · by_cases a2 : p.ballot < om
        · refine E_fin Tryz.f113 _ an113 rfl rfl rfl Tryz.func113 rfl (by kernel_rfl) ?_
          simp [go_sem, ePx, eBl, c0, g1, g2.1, hlt, hlt4, hn, hn0, e1, a1, a2, w1, w2]
        · by_cases c1 : p.next + 1 = p.host
          · rcases hw with a3 | a3
            · by_cases a4 : p.bestBal < ob
              · by_cases a5 : p.host + 1 < 4
                · refine E_fin Tryz.f113 _ an113 rfl rfl rfl Tryz.func113 rfl (by kernel_rfl) ?_
                  simp [go_sem, ePx, eBl, c0, c1, g1, g2.1, hlt, hlt4, hn, hn0, e1, a1, a2, a3, a4, a5, w1, w2, w4, w5, w7]
                · by_cases a6 : 0 < ob
                  · refine E_fin Tryz.f113 _ an113 rfl rfl rfl Tryz.func113 rfl (by kernel_rfl) ?_
                    simp [go_sem, ePx, eBl, c0, c1, g1, g2.1, hlt, hlt4, hn, hn0, e1, a1, a2, a3, a4, a5, a6, w1, w2, w4, w5, w7]
                  · refine E_fin Tryz.f113 _ an113 rfl rfl rfl Tryz.func113 rfl (by kernel_rfl) ?_
                    simp [go_sem, ePx, eBl, c0, c1, g1, g2.1, hlt, hlt4, hn, hn0, e1, a1, a2, a3, a4, a5, a6, w1, w2, w4, w5, w7]
              · by_cases a5 : p.host + 1 < 4
                · refine E_fin Tryz.f113 _ an113 rfl rfl rfl Tryz.func113 rfl (by kernel_rfl) ?_
                  simp [go_sem, ePx, eBl, c0, c1, g1, g2.1, hlt, hlt4, hn, hn0, e1, a1, a2, a3, a4, a5, w1, w2, w4, w5, w7]
                · by_cases a6 : 0 < p.bestBal
                  · refine E_fin Tryz.f113 _ an113 rfl rfl rfl Tryz.func113 rfl (by kernel_rfl) ?_
                    simp [go_sem, ePx, eBl, c0, c1, g1, g2.1, hlt, hlt4, hn, hn0, e1, a1, a2, a3, a4, a5, a6, w1, w2, w4, w5, w7]
                  · refine E_fin Tryz.f113 _ an113 rfl rfl rfl Tryz.func113 rfl (by kernel_rfl) ?_
                    simp [go_sem, ePx, eBl, c0, c1, g1, g2.1, hlt, hlt4, hn, hn0, e1, a1, a2, a3, a4, a5, a6, w1, w2, w4, w5, w7]
            · by_cases a5 : p.host + 1 < 4
              · refine E_fin Tryz.f113 _ an113 rfl rfl rfl Tryz.func113 rfl (by kernel_rfl) ?_
                simp [go_sem, ePx, eBl, c0, c1, g1, g2.1, hlt, hlt4, hn, hn0, e1, a1, a2, a3, a5, w1, w2, w4, w5, w7]
              · refine E_fin Tryz.f113 _ an113 rfl rfl rfl Tryz.func113 rfl (by kernel_rfl) ?_
                simp [go_sem, ePx, eBl, c0, c1, g1, g2.1, hlt, hlt4, hn, hn0, e1, a1, a2, a3, a5, w1, w2, w4, w5, w7]
          · rcases hw with a3 | a3
            · by_cases a4 : p.bestBal < ob
              · by_cases a5 : p.next + 1 < 4
                · refine E_fin Tryz.f113 _ an113 rfl rfl rfl Tryz.func113 rfl (by kernel_rfl) ?_
                  simp [go_sem, ePx, eBl, c0, c1, g1, g2.1, hlt, hlt4, hn, hn0, e1, a1, a2, a3, a4, a5, w1, w2]
                · by_cases a6 : 0 < ob
                  · refine E_fin Tryz.f113 _ an113 rfl rfl rfl Tryz.func113 rfl (by kernel_rfl) ?_
                    simp [go_sem, ePx, eBl, c0, c1, g1, g2.1, hlt, hlt4, hn, hn0, e1, a1, a2, a3, a4, a5, a6, w1, w2]
                  · refine E_fin Tryz.f113 _ an113 rfl rfl rfl Tryz.func113 rfl (by kernel_rfl) ?_
                    simp [go_sem, ePx, eBl, c0, c1, g1, g2.1, hlt, hlt4, hn, hn0, e1, a1, a2, a3, a4, a5, a6, w1, w2]
              · by_cases a5 : p.next + 1 < 4
                · refine E_fin Tryz.f113 _ an113 rfl rfl rfl Tryz.func113 rfl (by kernel_rfl) ?_
                  simp [go_sem, ePx, eBl, c0, c1, g1, g2.1, hlt, hlt4, hn, hn0, e1, a1, a2, a3, a4, a5, w1, w2]
                · by_cases a6 : 0 < p.bestBal
                  · refine E_fin Tryz.f113 _ an113 rfl rfl rfl Tryz.func113 rfl (by kernel_rfl) ?_
                    simp [go_sem, ePx, eBl, c0, c1, g1, g2.1, hlt, hlt4, hn, hn0, e1, a1, a2, a3, a4, a5, a6, w1, w2]
                  · refine E_fin Tryz.f113 _ an113 rfl rfl rfl Tryz.func113 rfl (by kernel_rfl) ?_
                    simp [go_sem, ePx, eBl, c0, c1, g1, g2.1, hlt, hlt4, hn, hn0, e1, a1, a2, a3, a4, a5, a6, w1, w2]
            · by_cases a5 : p.next + 1 < 4
              · refine E_fin Tryz.f113 _ an113 rfl rfl rfl Tryz.func113 rfl (by kernel_rfl) ?_
                simp [go_sem, ePx, eBl, c0, c1, g1, g2.1, hlt, hlt4, hn, hn0, e1, a1, a2, a3, a5, w1, w2]
              · refine E_fin Tryz.f113 _ an113 rfl rfl rfl Tryz.func113 rfl (by kernel_rfl) ?_
                simp [go_sem, ePx, eBl, c0, c1, g1, g2.1, hlt, hlt4, hn, hn0, e1, a1, a2, a3, a5, w1, w2]
  · have hr : readP p bs = finP { p with next := nx0 p } := by unfold readP; rw [if_neg hn]
    rw [hr]
    unfold finP
    by_cases c0 : p.next = p.host
    · have hx : nx0 p = p.host + 1 := by unfold nx0; rw [if_pos c0, c0]
      simp only [hx] at hn ⊢
      rcases hw with a3 | a3
      · by_cases a6 : 0 < p.bestBal
        · refine E_fin Tryz.f113 _ an113 rfl rfl rfl Tryz.func113 rfl (by kernel_rfl) ?_
          simp [go_sem, ePx, eBl, c0, hn, a3, a6, w4]
        · refine E_fin Tryz.f113 _ an113 rfl rfl rfl Tryz.func113 rfl (by kernel_rfl) ?_
          simp [go_sem, ePx, eBl, c0, hn, a3, a6, w4]
      · refine E_fin Tryz.f113 _ an113 rfl rfl rfl Tryz.func113 rfl (by kernel_rfl) ?_
        simp [go_sem, ePx, eBl, c0, hn, a3, w4]
    · have hx : nx0 p = p.next := by unfold nx0; rw [if_neg c0]
      simp only [hx] at hn ⊢
      rcases hw with a3 | a3
      · by_cases a6 : 0 < p.bestBal
        · refine E_fin Tryz.f113 _ an113 rfl rfl rfl Tryz.func113 rfl (by kernel_rfl) ?_
          simp [go_sem, ePx, eBl, c0, hn, a3, a6]
        · refine E_fin Tryz.f113 _ an113 rfl rfl rfl Tryz.func113 rfl (by kernel_rfl) ?_
          simp [go_sem, ePx, eBl, c0, hn, a3, a6]
      · refine E_fin Tryz.f113 _ an113 rfl rfl rfl Tryz.func113 rfl (by kernel_rfl) ?_
        simp [go_sem, ePx, eBl, c0, hn, a3]
def stepS (p : Px) (bs : List Bl) : AV := .tuple [ePx (stepP p bs).1, .ref [0, 0, 0, 0] 0 4, .int .i64 0]
theorem ofV_ver (b : Bl) (v : Int) : v ≤ (ofV b v).ver := by
  unfold ofV
  split
  · simp
  · omega
theorem l05Step_E (p : Px) (bs : List Bl) (g : PxIn p bs) (hp : 1 ≤ p.phase ∧ p.phase ≤ 4) : E CX 83 [ePx p, .sl 4 (bs.map eBl)] [] = some { val := stepS p bs, own := [⟨false, 63, 4, (stepP p bs).2.map eBl⟩] } := by
  have g1 := g.len; have g2 := g.host; have g3 := g.next
  have hlt : p.host.toNat < bs.length := by omega
  have hlt4 : p.host.toNat < 4 := by omega
  unfold stepS stepP
  by_cases hw : p.phase = 1 ∨ p.phase = 3
  · rw [if_pos hw]
    have e1 := l05Of_E bs[p.host.toNat] p.ver
    have ho : ownB p bs = ofV bs[p.host.toNat] p.ver := by unfold ownB; rw [getD_at hlt]
    have hge := ofV_ver bs[p.host.toNat] p.ver
    rw [ho]
    generalize ofV bs[p.host.toNat] p.ver = o at *
    have hset : ∀ x : Bl, (bs.set p.host.toNat x).map eBl = (bs.map eBl).set p.host.toNat (eBl x) := fun x => List.map_set
    by_cases a1 : p.ver < o.ver
    · have hs : stopW p o = true := by simp [stopW, a1]
      rw [if_pos hs]
      obtain ⟨ov, om, ob, oi⟩ := o
      simp only at a1
      simp only [eBl] at e1
      rcases hw with c | c
      · refine E_fin Tryz.f83 _ an83 rfl rfl rfl Tryz.func83 rfl (by kernel_rfl) ?_
        simp [go_sem, ePx, eBl, c, g1, g2.1, hlt, hlt4, e1, a1]
      · refine E_fin Tryz.f83 _ an83 rfl rfl rfl Tryz.func83 rfl (by kernel_rfl) ?_
        simp [go_sem, ePx, eBl, c, g1, g2.1, hlt, hlt4, e1, a1]
    · by_cases a2 : p.ballot < o.mbal
      · have hs : stopW p o = true := by simp [stopW, a2]
        rw [if_pos hs]
        obtain ⟨ov, om, ob, oi⟩ := o
        simp only at a1 a2
        simp only [eBl] at e1
        rcases hw with c | c
        · refine E_fin Tryz.f83 _ an83 rfl rfl rfl Tryz.func83 rfl (by kernel_rfl) ?_
          simp [go_sem, ePx, eBl, c, g1, g2.1, hlt, hlt4, e1, a1, a2]
        · refine E_fin Tryz.f83 _ an83 rfl rfl rfl Tryz.func83 rfl (by kernel_rfl) ?_
          simp [go_sem, ePx, eBl, c, g1, g2.1, hlt, hlt4, e1, a1, a2]
      · have hver : o.ver = p.ver := by omega
        have e2 := l05Write_E p o hver hw
        by_cases a3 : o.mbal = p.ballot
        · rcases hw with c | c
          · have hs : stopW p o = true := by simp [stopW, c, a3]
            rw [if_pos hs]
            obtain ⟨ov, om, ob, oi⟩ := o
            simp only at a1 a2 a3
            simp only [eBl] at e1
            refine E_fin Tryz.f83 _ an83 rfl rfl rfl Tryz.func83 rfl (by kernel_rfl) ?_
            simp [go_sem, ePx, eBl, c, g1, g2.1, hlt, hlt4, e1, a1, a2, a3]
          · have hs : stopW p o = false := by simp [stopW, c, a3, a1]
            rw [hs]
            generalize writeP p o = z at *
            obtain ⟨ov, om, ob, oi⟩ := o
            simp only at a1 a2 a3
            simp only [eBl, ePx, c] at e1 e2
            refine E_fin Tryz.f83 _ an83 rfl rfl rfl Tryz.func83 rfl (by kernel_rfl) ?_
            subst a3
            simp [go_sem, ePx, eBl, c, g1, g2.1, hlt, hlt4, e1, e2, a1, hset]
        · rcases hw with c | c
          · have hs : stopW p o = false := by simp [stopW, c, a3, a1, a2]
            rw [hs]
            generalize writeP p o = z at *
            obtain ⟨ov, om, ob, oi⟩ := o
            simp only at a1 a2 a3
            simp only [eBl, ePx, c] at e1 e2
            refine E_fin Tryz.f83 _ an83 rfl rfl rfl Tryz.func83 rfl (by kernel_rfl) ?_
            simp [go_sem, ePx, eBl, c, g1, g2.1, hlt, hlt4, e1, e2, a1, a2, a3, hset]
          · have hs : stopW p o = true := by simp [stopW, c, a3]
            rw [if_pos hs]
            obtain ⟨ov, om, ob, oi⟩ := o
            simp only at a1 a2 a3
            simp only [eBl] at e1
            refine E_fin Tryz.f83 _ an83 rfl rfl rfl Tryz.func83 rfl (by kernel_rfl) ?_
            simp [go_sem, ePx, eBl, c, g1, g2.1, hlt, hlt4, e1, a1, a2, a3]
  · rw [if_neg hw]
    have h24 : p.phase = 2 ∨ p.phase = 4 := by omega
    have e1 := l05Read_E p bs g h24
    generalize readP p bs = r at *
    simp only [ePx] at e1
    rcases h24 with c | c
    · rw [c] at e1
      refine E_fin Tryz.f83 _ an83 rfl rfl rfl Tryz.func83 rfl (by kernel_rfl) ?_
      simp [go_sem, ePx, c, g1, e1]
    · rw [c] at e1
      refine E_fin Tryz.f83 _ an83 rfl rfl rfl Tryz.func83 rfl (by kernel_rfl) ?_
      simp [go_sem, ePx, c, g1, e1]
end Go.Proofs.YtccoeoppjcegnaaGreat


namespace Go.Proofs.YtccoeoppjcegnaaGreat
open Go
set_option maxRecDepth 100000
set_option maxHeartbeats 4000000
set_option linter.unusedSimpArgs false
set_option linter.unusedVariables false
def pxOK (p : Px) : Bool := inn p.host 0 3 && inn p.ver 0 1000000 && inn p.phase 1 6 && inn p.ballot 1 1000000 && decide (p.ballot.tmod 4 = p.host) && isNum p.value && inn p.next 0 4 && isNum p.best && inn p.bestBal 0 1000000
theorem pxOK_true (p : Px) (h : pxOK p = true) : E CX 74 [ePx p] [] = some { val := .bool true } := by
  simp only [pxOK, Bool.and_eq_true, decide_eq_true_eq] at h
  obtain ⟨⟨⟨⟨⟨⟨⟨⟨h1, h2⟩, h3⟩, h4⟩, h5⟩, h6⟩, h7⟩, h8⟩, h9⟩ := h
  have e1 := isHost_E p.host
  have e2 := isVer_E p.ver
  have e3 := within_E p.phase 1 6
  have e4 := within_E p.ballot 1 1000000
  have e6 := isNumber_E p.value
  have e7 := within_E p.next 0 4
  have e8 := isNumber_E p.best
  have e9 := within_E p.bestBal 0 1000000
  rw [h1] at e1; rw [h2] at e2; rw [h3] at e3; rw [h4] at e4; rw [h6] at e6; rw [h7] at e7; rw [h8] at e8; rw [h9] at e9
  refine E_fin Tryz.f74 _ an74 rfl rfl rfl Tryz.func74 rfl (by kernel_rfl) ?_
  simp [go_sem, ePx, e1, e2, e3, e4, e6, e7, e8, e9, h5]
theorem pxStart_E (h v b w : Int) (hp : pxOK (px0 h v b w) = true) : E CX 36 [.int .i64 h, .int .i64 v, .int .i64 b, .int .i64 w] [] = some { val := .tuple [ePx (px0 h v b w), .int .i64 0] } := by
  have e1 := pxOK_true _ hp
  simp only [ePx, px0] at e1
  refine E_fin Tryz.f36 _ an36 rfl rfl rfl Tryz.func36 rfl (by kernel_rfl) ?_
  simp [go_sem, ePx, px0, e1]
theorem ended_E (p : Px) : E CX 38 [ePx p] [] = some { val := .bool (over p) } := by
  refine E_fin Tryz.f38 _ an38 rfl rfl rfl Tryz.func38 rfl (by kernel_rfl) ?_
  unfold over
  by_cases c : p.phase = 5
  · simp [go_sem, ePx, c]
  · by_cases c2 : p.phase = 6 <;> simp [go_sem, ePx, c, c2]
theorem ownB_eq (l : List Bl) (n : Nat) (h : n < l.length) : l.getD n zBl = l[n] := by simp [h]
theorem bl_eta (x y : Bl) : (x.ver = y.ver ∧ x.mbal = y.mbal ∧ x.bal = y.bal ∧ x.inp = y.inp) ↔ x = y := by
  cases x; cases y; simp
theorem blV_eq (o : Option Bl) : blV o = .tuple [eBl (o.getD zBl), .bool o.isSome] := by cases o <;> rfl
section
variable (d : Disk) (h owner gen : Int) (hd : diskOK d = true) (hh : 0 ≤ h ∧ h ≤ 3) (hr : d.ps.length < 200) (ho : inn owner 0 3 = true) (hg : inn gen 1 1000000 = true) (hv : (rdLd d h).ver + 1 ≤ 1000000) (hb : nextB h ((rdLd d h).ver + 1) (blks d h) ≤ 1000000)
include hd hh hr ho hg hv hb
theorem elect_E : E CX 8 [eDisk d, .int .i64 h, .int .i64 owner, .int .i64 gen] [] = some { val := .tuple [eDisk (electA d h owner gen).1, eLeader (electA d h owner gen).2.1, .int .i64 (electA d h owner gen).2.2] } := by
  have g := diskOK_good hd
  have g1 := g.ss; have g2 := g.ps
  have i1 : inn h 0 3 = true := by simp [inn]; omega
  have hk : askC d h = 0 := by simp [askC, hd, i1]
  have e1 := codes_E d h (by omega) (by omega)
  have e2 := isFull_E d
  have hf : decide (d.ps.length = 200) = false := by simp; omega
  have e3 := isHost_E owner
  have e4 := isGen_E gen
  have e6 := leader_E d h hd
  obtain ⟨v1, v2, v3⟩ := rdLd_ver d h
  have e10 := isVer_E ((rdLd d h).ver + 1)
  have i2 : inn ((rdLd d h).ver + 1) 0 1000000 = true := by simp [inn]; omega
  rw [hk] at e1; rw [hf] at e2; rw [ho] at e3; rw [hg] at e4; rw [i2] at e10
  have o1 : 0 ≤ owner ∧ owner ≤ 3 := by simpa [inn] using ho
  have o2 : 1 ≤ gen ∧ gen ≤ 1000000 := by simpa [inn] using hg
  have er : ∀ i : Int, 0 ≤ i ∧ i ≤ 3 → E CX 33 [eDisk d, .int .i64 h, .int .i64 (1 + i)] [] = some { val := .str (rdL d.ss d.ps h (1 + i)) } := fun i hi => read_E d h (1 + i) (by omega) (by omega)
  have eb : ∀ i : Int, 0 ≤ i ∧ i ≤ 3 → E CX 32 [.str (rdL d.ss d.ps h (1 + i))] [] = some { val := .tuple [eBl (rdB d h i), .bool (blF (rdL d.ss d.ps h (1 + i))).isSome] } := fun i hi => by
    have := blockOf_E (rdL d.ss d.ps h (1 + i)) (by have := rdL_len hd h (1 + i); omega)
    rw [blV_eq] at this
    exact this
  have e9 := nextBallot_E h ((rdLd d h).ver + 1) (blks d h) hh (by simp [blks]) (blks_mbal d h)
  have bpos : 0 < nextB h ((rdLd d h).ver + 1) (blks d h) ∧ (nextB h ((rdLd d h).ver + 1) (blks d h)).tmod 4 = h := by
    have hm := maxM_bound ((rdLd d h).ver + 1) (blks d h) 0 (by omega) (blks_mbal d h)
    unfold nextB
    rw [Int.tdiv_eq_ediv_of_nonneg hm.1]
    refine ⟨by omega, ?_⟩
    rw [Int.tmod_eq_emod_of_nonneg (by omega)]
    omega
  have e11 := pxStart_E h ((rdLd d h).ver + 1) (nextB h ((rdLd d h).ver + 1) (blks d h)) (1024 * gen + owner) (by
    have j1 : inn (nextB h ((rdLd d h).ver + 1) (blks d h)) 1 1000000 = true := by simp [inn]; omega
    have j2 : isNum (1024 * gen + owner) = true := by simp [isNum, inn]; omega
    have j3 : decide ((nextB h ((rdLd d h).ver + 1) (blks d h)).tmod 4 = h) = true := by simpa using bpos.2
    simp [pxOK, px0, i1, i2, j1, j2, bpos.2, show inn 1 1 6 = true by decide, show inn 0 0 4 = true by decide, show isNum 0 = true by decide, show inn 0 0 1000000 = true by decide])
  have e12 := copied_E d (by omega) (by omega)
  have hin : ESIn h (es0 d h owner gen) := es0_in hd hh hr
  have hfin := runE_in (h := h) 40 _ hin
  have hov := runE_ends (h := h) 40 _ hin (by simp [es0, px0, mu])
  -- the end
  unfold electA
  have hblk : (blks d h).length = 4 := rfl
  generalize hL : rdLd d h = L at *
  have hs0 : es0 d h owner gen = ⟨d, px0 h (L.ver + 1) (nextB h (L.ver + 1) (blks d h)) (1024 * gen + owner), blks d h⟩ := by simp [es0, hL]
  generalize hB : nextB h (L.ver + 1) (blks d h) = B at *
  have w1 := wrap_id (n := L.ver + 1) (by omega)
  have w2 := wrap_id (n := 1024 * gen) (by omega)
  have w3 := wrap_id (n := 1024 * gen + owner) (by omega)
  simp only [eDisk, eLeader] at e1 e2 e6 e12 er
  refine E_fin Tryz.f8 _ an8 rfl rfl rfl Tryz.func8 rfl (by kernel_rfl) ?_
  have nb : ¬ (1000000 : Int) < B := by omega
  simp only [ePx, px0] at e11
  simp [go_sem, eDisk, eLeader, e1, e2, e3, e4, first3_E, e6]
  refine loop_for (fun X => fin CX _ _ X = _) [(0 : Int), 1, 2, 3] (fun n (a : List Bl) => a.length = n) (fun n a => ⟨SS [(1, .int .i64 h), (2, .int .i64 owner), (3, .int .i64 gen), (4, .ptr [4] 0 0), (8, .ptr [8] 0 0), (9, .ptr [9] 0 0), (12, .ptr [12] 0 0), (13, .ref [57] 0 a.length), (58, .int .i64 n)],
      HS [([4], ⟨true, 26, 2, [eDisk d]⟩), ([8], ⟨true, 26, 2, [.agg [.nil, .nil]]⟩), ([9], ⟨true, 30, 3, [.agg [.int .i64 0, .int .i64 0, .int .i64 0]]⟩), ([12], ⟨true, 30, 3, [eLeader L]⟩), ([57], ⟨false, 63, 4, a.map eBl⟩)]⟩)
    (fun r n a => (.exit 0, ⟨SS [(1, .int .i64 h), (2, .int .i64 owner), (3, .int .i64 gen), (4, .ptr [4] 0 0), (8, .ptr [8] 0 0), (9, .ptr [9] 0 0), (12, .ptr [12] 0 0), (13, .ref [57] 0 (a ++ r.map (rdB d h)).length)],
      HS [([4], ⟨true, 26, 2, [eDisk d]⟩), ([8], ⟨true, 26, 2, [.agg [.nil, .nil]]⟩), ([9], ⟨true, 30, 3, [.agg [.int .i64 0, .int .i64 0, .int .i64 0]]⟩), ([12], ⟨true, 30, 3, [eLeader L]⟩), ([57], ⟨false, 63, 4, (a ++ r.map (rdB d h)).map eBl⟩)]⟩)) [] rfl ?_ ?_ ?_ ?_ ?_
  · simp [go_sem, eDisk, eLeader]
  · intro R n a x r hn hx hd' hI hR
    have hx := hx hn
    simp only [List.length_cons, List.length_nil] at hn
    have hxn : x = (n : Int) := by
      rw [← hx]
      have : n = 0 ∨ n = 1 ∨ n = 2 ∨ n = 3 := by omega
      rcases this with rfl | rfl | rfl | rfl <;> rfl
    subst hxn
    have e7 := er (n : Int) (by omega)
    have e8 := eb (n : Int) (by omega)
    have := hR (a ++ [rdB d h n]) (by simp [hI]) (by simp)
    simp [go_sem, eDisk, eLeader, eBl] at this
    simp only [eBl] at e8
    simp [go_sem, eDisk, eLeader, eBl, e7, e8, show (n : Int) < 4 by omega, wrap_id (n := 1 + (n : Int)) (by omega), wrap_id (n := (n : Int) + 1) (by omega), show a.length + 1 ≤ 1073741824 by omega]
    exact this
  · intro a hI; simp at hI; simp [go_sem, eDisk, eLeader]
  · intro _; simp
  · have hbl : [(0 : Int), 1, 2, 3].map (rdB d h) = blks d h := rfl
    simp only [List.nil_append, hbl]
    simp [go_sem, eDisk, eLeader, hblk, e9, e10, e11, e12, nb, w1, w2, w3]
    refine loop_at (fun X => fin CX _ _ X = _) (fun s : ES => ESIn h s) (fun s => ⟨SS [(1, .int .i64 h), (8, .ptr [8] 0 0), (9, .ptr [9] 0 0), (12, .ptr [12] 0 0), (13, .ref [57] 0 4), (17, .int .i64 (L.ver + 1)), (19, .ptr [19] 0 0), (21, .ptr [21] 0 0)],
        HS [([8], ⟨true, 26, 2, [.agg [.nil, .nil]]⟩), ([9], ⟨true, 30, 3, [.agg [.int .i64 0, .int .i64 0, .int .i64 0]]⟩), ([12], ⟨true, 30, 3, [eLeader L]⟩), ([57], ⟨false, 63, 4, s.bs.map eBl⟩), ([19], ⟨true, 69, 8, [ePx s.p]⟩), ([21], ⟨true, 26, 2, [eDisk s.d]⟩)]⟩)
      (fun s => (.exit 2, ⟨SS [(1, .int .i64 h), (8, .ptr [8] 0 0), (9, .ptr [9] 0 0), (12, .ptr [12] 0 0), (17, .int .i64 (L.ver + 1)), (19, .ptr [19] 0 0), (21, .ptr [21] 0 0)],
        HS [([8], ⟨true, 26, 2, [.agg [.nil, .nil]]⟩), ([9], ⟨true, 30, 3, [.agg [.int .i64 0, .int .i64 0, .int .i64 0]]⟩), ([12], ⟨true, 30, 3, [eLeader L]⟩), ([19], ⟨true, 69, 8, [ePx (runE 40 s).p]⟩), ([21], ⟨true, 26, 2, [eDisk (runE 40 s).d]⟩)]⟩)) (fun s => mu s.p) (es0 d h owner gen) hin ?_ ?_ ?_
    · rw [hs0]; simp [go_sem, eDisk, eLeader, ePx, px0]
    · intro s gI
      have hst : s.p.host = h := gI.host
      have gp : PxIn s.p s.bs := ⟨gI.len, by rw [hst]; exact hh, by have := gI.n0; have := gI.n5; omega⟩
      have s1 := ended_E s.p
      have s2 := step_E s.p s.bs gp
      cases hov' : over s.p
      · obtain ⟨gN, hlt⟩ := stE_in gI hov'
        have hrun := runE_step gI hov'
        rw [hov'] at s1
        have sl := (stepP_in gI hov').2.1
        have h4 : h.toNat < 4 := by omega
        have hl1 : h.toNat < s.bs.length := by have := gI.len; omega
        have hl2 : h.toNat < (stepP s.p s.bs).2.length := by omega
        have blen := gI.len
        have hEq : stE s = ⟨if (stepP s.p s.bs).2[h.toNat] = s.bs[h.toNat] then s.d else putD s.d h (1 + h) (blT (stepP s.p s.bs).2[h.toNat]), (stepP s.p s.bs).1, (stepP s.p s.bs).2⟩ := by
          simp [stE, hst, hl1, hl2]
        have s3 := blText_E (stepP s.p s.bs).2[h.toNat]
        have gd := diskOK_good gI.ok
        have s4 := put_E s.d h (1 + h) (blT (stepP s.p s.bs).2[h.toNat]) ⟨gd.ss, by have := gd.ps; omega, gd.at_⟩ (by omega)
        have hpl : (putD s.d h (1 + h) (blT (stepP s.p s.bs).2[h.toNat])).ss.length = 64 := (putD_good s.d h (1 + h) (blT (stepP s.p s.bs).2[h.toNat]) 200 gd (by omega)).ss
        generalize stepP s.p s.bs = q at *
        generalize hx : s.bs[h.toNat] = x at *
        generalize hy : q.2[h.toNat] = y at *
        generalize putD s.d h (1 + h) (blT y) = pd at *
        generalize blT y = tx at *
        by_cases hq : y = x
        · rw [if_pos hq] at hEq
          subst hq
          rw [hEq] at gN hlt hrun
          simp only [ePx, eBl] at s1 s2
          simp [go_sem, eDisk, eLeader, ePx, eBl, s1, s2, hh.1, h4, hl1, hl2, hx, hy, blen, sl]
          exact ⟨⟨s.d, q.1, q.2⟩, gN, hlt, by simp [go_sem, eDisk, eLeader, ePx, eBl], by rw [hrun]⟩
        · rw [if_neg hq] at hEq
          rw [hEq] at gN hlt hrun
          simp only [ePx, eBl] at s1 s2 s3
          simp only [eDisk] at s4
          have hne : ¬ (y.ver = x.ver ∧ y.mbal = x.mbal ∧ y.bal = x.bal ∧ y.inp = x.inp) := by rw [bl_eta]; exact hq
          by_cases c1 : y.ver = x.ver
          · have d1 : (y.ver == x.ver) = true := by simp [c1]
            by_cases c2 : y.mbal = x.mbal
            · have d2 : (y.mbal == x.mbal) = true := by simp [c2]
              by_cases c3 : y.bal = x.bal
              · have d3 : (y.bal == x.bal) = true := by simp [c3]
                have c4 : ¬ y.inp = x.inp := fun h => hne ⟨c1, c2, c3, h⟩
                have b4 : (y.inp == x.inp) = false := by simp [c4]
                simp [go_sem, eDisk, eLeader, ePx, eBl, s1, s2, s3, s4, hh.1, h4, hl1, hl2, hx, hy, blen, sl, d1, d2, d3, b4, hpl, wrap_id (n := 1 + h) (by omega)]
                exact ⟨⟨pd, q.1, q.2⟩, gN, hlt, by simp [go_sem, eDisk, eLeader, ePx, eBl, hpl], by rw [hrun]⟩
              · have b3 : (y.bal == x.bal) = false := by simp [c3]
                simp [go_sem, eDisk, eLeader, ePx, eBl, s1, s2, s3, s4, hh.1, h4, hl1, hl2, hx, hy, blen, sl, d1, d2, b3, hpl, wrap_id (n := 1 + h) (by omega)]
                exact ⟨⟨pd, q.1, q.2⟩, gN, hlt, by simp [go_sem, eDisk, eLeader, ePx, eBl, hpl], by rw [hrun]⟩
            · have b2 : (y.mbal == x.mbal) = false := by simp [c2]
              simp [go_sem, eDisk, eLeader, ePx, eBl, s1, s2, s3, s4, hh.1, h4, hl1, hl2, hx, hy, blen, sl, d1, b2, hpl, wrap_id (n := 1 + h) (by omega)]
              exact ⟨⟨pd, q.1, q.2⟩, gN, hlt, by simp [go_sem, eDisk, eLeader, ePx, eBl, hpl], by rw [hrun]⟩
          · have b1 : (y.ver == x.ver) = false := by simp [c1]
            simp [go_sem, eDisk, eLeader, ePx, eBl, s1, s2, s3, s4, hh.1, h4, hl1, hl2, hx, hy, blen, sl, b1, hpl, wrap_id (n := 1 + h) (by omega)]
            exact ⟨⟨pd, q.1, q.2⟩, gN, hlt, by simp [go_sem, eDisk, eLeader, ePx, eBl, hpl], by rw [hrun]⟩
      · rw [hov'] at s1
        simp only [ePx] at s1
        rw [runE_over hov']
        simp [go_sem, eDisk, eLeader, ePx, s1]
    · unfold endE
      rw [hL]
      have gdE := diskOK_good hfin.ok
      have hvv := (runE_v 40 _ (es0_v (d := d) (h := h) o1 o2)).val
      generalize runE 40 (es0 d h owner gen) = s at *
      have t1 := leaderOK_E ⟨L.ver + 1, s.p.value.tmod 1024, s.p.value.tdiv 1024⟩
      have vdiv : -9223372036854775808 ≤ s.p.value.tdiv 1024 ∧ s.p.value.tdiv 1024 < 9223372036854775808 := by
        unfold sm at hvv
        rw [Int.tdiv_eq_ediv_of_nonneg hvv.1]
        omega
      have w4 := wrap_id vdiv
      simp only [eLeader] at t1
      by_cases c6 : s.p.phase = 6
      · rw [if_pos (.inl c6)]
        simp [go_sem, eDisk, eLeader, ePx, c6, w4]
      · cases hl : ldrOK ⟨L.ver + 1, s.p.value.tmod 1024, s.p.value.tdiv 1024⟩
        · rw [if_pos (.inr rfl)]
          rw [hl] at t1
          simp [go_sem, eDisk, eLeader, ePx, c6, w4, t1]
        · rw [if_neg (by simp [c6])]
          rw [hl] at t1
          have hw : s.p.value.tmod 1024 ≤ 3 ∧ -1 ≤ s.p.value.tmod 1024 := by
            simp [ldrOK, inn] at hl
            omega
          have t2 := ldrText_E ⟨L.ver + 1, s.p.value.tmod 1024, s.p.value.tdiv 1024⟩ (wrap_id (by simp only; omega))
          have t3 := put_E s.d h 0 (ldrT ⟨L.ver + 1, s.p.value.tmod 1024, s.p.value.tdiv 1024⟩) ⟨gdE.ss, by have := gdE.ps; omega, gdE.at_⟩ (by omega)
          have hpl : (putD s.d h 0 (ldrT ⟨L.ver + 1, s.p.value.tmod 1024, s.p.value.tdiv 1024⟩)).ss.length = 64 := (putD_good s.d h 0 (ldrT ⟨L.ver + 1, s.p.value.tmod 1024, s.p.value.tdiv 1024⟩) 200 gdE (by omega)).ss
          generalize putD s.d h 0 (ldrT ⟨L.ver + 1, s.p.value.tmod 1024, s.p.value.tdiv 1024⟩) = pd at *
          generalize ldrT ⟨L.ver + 1, s.p.value.tmod 1024, s.p.value.tdiv 1024⟩ = tx at *
          simp only [eLeader] at t2
          simp only [eDisk] at t3
          simp [go_sem, eDisk, eLeader, ePx, c6, w4, t1, t2, t3, hpl]
end
end Go.Proofs.YtccoeoppjcegnaaGreat


namespace Go.Proofs.YtccoeoppjcegnaaGreat
open Go
set_option maxRecDepth 100000
set_option maxHeartbeats 1000000
set_option linter.unusedSimpArgs false
set_option linter.unusedVariables false
structure Src where
  bs : List Int
  n : Nat
  acc : Int
def eSrc (s : Src) : Blk := ⟨true, 89, 3, [.agg [.sl 1 (s.bs.map (.int .u8)), .int .i64 s.n, .int .i64 s.acc]]⟩
structure SrcOK (s : Src) (k : Nat) : Prop where
  bytes : ∀ b ∈ s.bs, 0 ≤ b ∧ b < 256
  n : s.n ≤ k
  acc : 0 ≤ s.acc ∧ s.acc < 2147483648
  len : s.bs.length ≤ 1073741824
def byteF (s : Src) : Int × Src :=
  if s.n < s.bs.length then (s.bs.getD s.n 0, ⟨s.bs, s.n + 1, (s.acc * 31 + s.bs.getD s.n 0 + 7).tmod 2147483648⟩)
  else if 3000 < s.n + 1 then (0, ⟨s.bs, s.n + 1, s.acc⟩)
  else (((s.acc * 1103515245 + 12345).tmod 2147483648).tdiv 65536 |>.tmod 256, ⟨s.bs, s.n + 1, (s.acc * 1103515245 + 12345).tmod 2147483648⟩)
theorem byteF_ok {s : Src} {k : Nat} (g : SrcOK s k) : SrcOK (byteF s).2 (k + 1) ∧ 0 ≤ (byteF s).1 ∧ (byteF s).1 < 256 := by
  have h1 := g.bytes; have h2 := g.n; have h3 := g.acc; have h4 := g.len
  unfold byteF
  split
  · rename_i h
    have hb := h1 s.bs[s.n] (List.getElem_mem h)
    rw [List.getD_eq_getElem?_getD, List.getElem?_eq_getElem h, Option.getD_some]
    refine ⟨⟨h1, by simp only; omega, ?_, h4⟩, hb⟩
    simp only
    rw [Int.tmod_eq_emod_of_nonneg (by omega)]
    omega
  · split
    · exact ⟨⟨h1, by simp only; omega, h3, h4⟩, by omega, by omega⟩
    · refine ⟨⟨h1, by simp only; omega, ?_, h4⟩, ?_⟩
      · simp only
        rw [Int.tmod_eq_emod_of_nonneg (by omega)]
        omega
      · simp only
        rw [Int.tmod_eq_emod_of_nonneg (show (0:Int) ≤ s.acc * 1103515245 + 12345 by omega), Int.tdiv_eq_ediv_of_nonneg (by omega), Int.tmod_eq_emod_of_nonneg (by omega)]
        omega
theorem byte_E (s : Src) (k : Nat) (hk : k ≤ 1000000000) (g : SrcOK s k) : E CX 117 [.ptr [0] 0 0] [([0], eSrc s)] = some { val := .int .i64 (byteF s).1, io := [eSrc (byteF s).2] } := by
  have h1 := g.bytes; have h2 := g.n; have h3 := g.acc; have h4 := g.len
  refine E_fin Tryz.f117 _ an117 rfl rfl rfl Tryz.func117 rfl (by kernel_rfl) ?_
  unfold byteF
  by_cases h : s.n < s.bs.length
  · have hb := h1 s.bs[s.n] (List.getElem_mem h)
    simp [go_sem, eSrc, h, wrap_id (n := (s.n : Int) + 1) (by omega), wrap_id (n := (s.n : Int)) (by omega), wrap_id (n := s.acc * 31) (by omega), wrap_id (n := s.acc * 31 + s.bs[s.n]) (by omega), wrap_id (n := s.acc * 31 + s.bs[s.n] + 7) (by omega), wrap_id (n := s.bs[s.n]) (by omega), show ((s.n : Int) + 1 ≤ s.bs.length) by omega]
  · by_cases h' : 3000 < s.n + 1
    · simp [go_sem, eSrc, h, h', wrap_id (n := (s.n : Int) + 1) (by omega), show ¬ ((s.n : Int) + 1 ≤ s.bs.length) by omega, show (3000 : Int) < (s.n : Int) + 1 by omega]
    · have hd : 0 ≤ ((s.acc * 1103515245 + 12345).tmod 2147483648).tdiv 65536 ∧ ((s.acc * 1103515245 + 12345).tmod 2147483648).tdiv 65536 < 32768 := by
        rw [Int.tmod_eq_emod_of_nonneg (show (0:Int) ≤ s.acc * 1103515245 + 12345 by omega), Int.tdiv_eq_ediv_of_nonneg (by omega)]
        omega
      simp [go_sem, eSrc, h, h', wrap_id (n := ((s.acc * 1103515245 + 12345).tmod 2147483648).tdiv 65536) (by omega), wrap_id (n := (s.n : Int) + 1) (by omega), show ¬ ((s.n : Int) + 1 ≤ s.bs.length) by omega, show ¬ (3000 : Int) < (s.n : Int) + 1 by omega, wrap_id (n := s.acc * 1103515245) (by omega), wrap_id (n := s.acc * 1103515245 + 12345) (by omega)]
def nextF (m : Int) (s : Src) : Int × Src :=
  if m ≤ 1 then (0, s) else if m ≤ 256 then ((byteF s).1.tmod m, (byteF s).2)
  else (((byteF s).1 * 65536 + (byteF (byteF s).2).1 * 256 + (byteF (byteF (byteF s).2).2).1).tmod m, (byteF (byteF (byteF s).2).2).2)
theorem SrcOK.mono {s : Src} {k j : Nat} (g : SrcOK s k) (h : k ≤ j) : SrcOK s j := ⟨g.bytes, by have := g.n; omega, g.acc, g.len⟩
theorem nextF_ok {s : Src} {k : Nat} (m : Int) (g : SrcOK s k) : SrcOK (nextF m s).2 (k + 3) ∧ 0 ≤ (nextF m s).1 ∧ ((nextF m s).1 < m ∨ (nextF m s).1 = 0) := by
  obtain ⟨g1, a1, b1⟩ := byteF_ok g
  obtain ⟨g2, a2, b2⟩ := byteF_ok g1
  obtain ⟨g3, a3, b3⟩ := byteF_ok g2
  unfold nextF
  split
  · exact ⟨g.mono (by omega), by simp, .inr rfl⟩
  · split
    · refine ⟨g1.mono (by omega), ?_, .inl ?_⟩
      · simp only; rw [Int.tmod_eq_emod_of_nonneg a1]; exact Int.emod_nonneg _ (by omega)
      · simp only; rw [Int.tmod_eq_emod_of_nonneg a1]; exact Int.emod_lt_of_pos _ (by omega)
    · refine ⟨g3, ?_, .inl ?_⟩
      · simp only; rw [Int.tmod_eq_emod_of_nonneg (by omega)]; exact Int.emod_nonneg _ (by omega)
      · simp only; rw [Int.tmod_eq_emod_of_nonneg (by omega)]; exact Int.emod_lt_of_pos _ (by omega)
theorem next_E (m : Int) (s : Src) (k : Nat) (hk : k ≤ 900000000) (g : SrcOK s k) : E CX 92 [.ptr [0] 0 0, .int .i64 m] [([0], eSrc s)] = some { val := .int .i64 (nextF m s).1, io := [eSrc (nextF m s).2] } := by
  refine E_fin Tryz.f92 _ an92 rfl rfl rfl Tryz.func92 rfl (by kernel_rfl) ?_
  obtain ⟨g1, a1, b1⟩ := byteF_ok g
  obtain ⟨g2, a2, b2⟩ := byteF_ok g1
  obtain ⟨g3, a3, b3⟩ := byteF_ok g2
  have e1 := byte_E s k (by omega) g
  have e2 := byte_E (byteF s).2 (k + 1) (by omega) g1
  have e3 := byte_E (byteF (byteF s).2).2 (k + 1 + 1) (by omega) g2
  unfold nextF
  generalize byteF (byteF (byteF s).2).2 = x3 at *
  generalize byteF (byteF s).2 = x2 at *
  generalize byteF s = x1 at *
  by_cases h1 : m ≤ 1
  · simp [go_sem, eSrc, h1]
  · by_cases h2 : m ≤ 256
    · simp only [eSrc] at e1
      have h0 : ¬ m = 0 := by omega
      simp [go_sem, eSrc, h1, h2, h0, e1]
    · simp only [eSrc] at e1 e2 e3
      have h0 : ¬ m = 0 := by omega
      simp [go_sem, eSrc, h1, h2, h0, e1, e2, e3, wrap_id (n := x1.1 * 65536) (by omega), wrap_id (n := x2.1 * 256) (by omega), wrap_id (n := x1.1 * 65536 + x2.1 * 256) (by omega), wrap_id (n := x1.1 * 65536 + x2.1 * 256 + x3.1) (by omega)]
def someF : List Unit → Tx × Src → Tx × Src
  | [], a => a
  | _ :: r, a => someF r (a.1 ++ [byteOf (97 + (nextF 26 a.2).1)], (nextF 26 a.2).2)
theorem someF_ok : ∀ (l : List Unit) (a : Tx × Src) (k : Nat), SrcOK a.2 k → SrcOK (someF l a).2 (k + 3 * l.length) ∧ (someF l a).1.length = a.1.length + l.length := by
  intro l
  induction l with
  | nil => intro a k g; exact ⟨g, rfl⟩
  | cons u l ih =>
    intro a k g
    obtain ⟨h1, h2⟩ := ih (a.1 ++ [byteOf (97 + (nextF 26 a.2).1)], (nextF 26 a.2).2) (k + 3) (nextF_ok 26 g).1
    unfold someF
    refine ⟨h1.mono (by simp; omega), ?_⟩
    rw [h2]; simp; omega
theorem some_E (m : Nat) (s : Src) (k : Nat) (hk : k ≤ 800000000) (hm : m ≤ 1000000) (g : SrcOK s k) : E CX 116 [.ptr [0] 0 0, .int .i64 m] [([0], eSrc s)] = some { val := .str (someF (List.replicate m ()) ([], s)).1, io := [eSrc (someF (List.replicate m ()) ([], s)).2] } := by
  refine E_fin Tryz.f116 _ an116 rfl rfl rfl Tryz.func116 rfl (by kernel_rfl) ?_
  have hl : (List.replicate m ()).length = m := by simp
  generalize List.replicate m () = l at *
  simp [go_sem, eSrc]
  refine loop_for (fun X => fin CX _ _ X = _) l (fun n (a : Tx × Src) => a.1.length = n ∧ SrcOK a.2 (k + 3 * n)) (fun n a => ⟨SS [(0, .ptr [0] 0 0), (1, .int .i64 m), (5, .ref [7] 0 a.1.length), (6, .int .i64 n)], HS [([0], eSrc a.2), ([7], ⟨false, 5, 1, a.1.map eByte⟩)]⟩)
    (fun r n a => (.exit 0, ⟨SS [(5, .ref [7] 0 (someF r a).1.length)], HS [([7], ⟨false, 5, 1, (someF r a).1.map eByte⟩), ([0], eSrc (someF r a).2)]⟩)) ([], s) ⟨rfl, g⟩ ?_ ?_ ?_ ?_ ?_
  · simp [go_sem, eSrc]
  · intro R n a x r hn hx hd hI hR
    have e1 := next_E 26 a.2 (k + 3 * n) (by omega) hI.2
    have hv := nextF_ok 26 hI.2
    have := hR (a.1 ++ [byteOf (97 + (nextF 26 a.2).1)], (nextF 26 a.2).2) ⟨by simp [hI.1], hv.1.mono (by omega)⟩ (by simp [someF])
    generalize nextF 26 a.2 = v at *
    simp only [eSrc] at e1
    simp [go_sem, eByte, eSrc] at this
    simp [go_sem, eSrc, e1, wrap_u8, show (n : Int) < m by omega, show a.1.length + 1 ≤ 1073741824 by omega, wrap_id (n := (n : Int) + 1) (by omega), wrap_id (n := 97 + v.1) (by omega)]
    exact this
  · intro a hI; simp [go_sem, someF, eSrc, hl]
  · intro _; simp
  · have hlen := (someF_ok l ([], s) k g).2
    simp at hlen
    simp [go_sem, eSrc, bytesOf_map, show (someF l ([], s)).1.length ≤ 1099511627776 by omega]
end Go.Proofs.YtccoeoppjcegnaaGreat


namespace Go.Proofs.YtccoeoppjcegnaaGreat
open Go
set_option maxRecDepth 100000
set_option maxHeartbeats 1000000
set_option linter.unusedSimpArgs false
set_option linter.unusedVariables false
theorem l00Source_E (bs : List Int) (h : bs.length ≤ 1073741824) : E CX 21 [.sl 1 (bs.map (.int .u8))] [] = some { val := .ptr [0, 0, 0, 0] 0 0, own := [eSrc ⟨bs, 0, (bs.length : Int).tmod 1000⟩] } := by
  refine E_fin Tryz.f21 _ an21 rfl rfl rfl Tryz.func21 rfl (by kernel_rfl) ?_
  simp [go_sem, eSrc]
theorem source_ok (bs : List Int) (h : bs.length ≤ 1073741824) (hb : ∀ b ∈ bs, 0 ≤ b ∧ b < 256) : SrcOK ⟨bs, 0, (bs.length : Int).tmod 1000⟩ 0 := by
  refine ⟨hb, by simp, ?_, h⟩
  simp only
  rw [Int.tmod_eq_emod_of_nonneg (by omega)]
  omega
end Go.Proofs.YtccoeoppjcegnaaGreat


namespace Go.Proofs.YtccoeoppjcegnaaGreat
open Go
set_option maxRecDepth 100000
set_option maxHeartbeats 4000000
set_option linter.unusedSimpArgs false
set_option linter.unusedVariables false
theorem ofV_old {b : Bl} {v : Int} (h : b.ver < v) : ofV b v = ⟨v, 0, 0, 0⟩ := by unfold ofV; rw [if_pos h]
theorem ofV_own (v m b i : Int) : ofV ⟨v, m, b, i⟩ v = ⟨v, m, b, i⟩ := by unfold ofV; rw [if_neg (by simp)]
/-- The steps of a ballot alone. -/
theorem alone (d : Disk) (h v B w : Int) (bs : List Bl) (hh : 0 ≤ h ∧ h ≤ 3) (hB : 0 < B) (hl : bs.length = 4) (hv : ∀ b ∈ bs, b.ver < v) :
    (runE 40 ⟨d, px0 h v B w, bs⟩).p.phase = 5 ∧ (runE 40 ⟨d, px0 h v B w, bs⟩).p.value = w ∧ (runE 40 ⟨d, px0 h v B w, bs⟩).d = putD (putD d h (1 + h) (blT ⟨v, B, 0, 0⟩)) h (1 + h) (blT ⟨v, B, B, w⟩) := by
  obtain ⟨b0, b1, b2, b3, rfl⟩ : ∃ b0 b1 b2 b3, bs = [b0, b1, b2, b3] := by
    match bs, hl with
    | [b0, b1, b2, b3], _ => exact ⟨b0, b1, b2, b3, rfl⟩
  have h0 := hv b0 (by simp); have h1 := hv b1 (by simp); have h2 := hv b2 (by simp); have h3 := hv b3 (by simp)
  have o0 := ofV_old h0; have o1 := ofV_old h1; have o2 := ofV_old h2; have o3 := ofV_old h3
  have ow := ofV_own v
  have n0 : ∀ m b i : Int, (⟨v, m, b, i⟩ : Bl) ≠ b0 := fun m b i e => by rw [← e] at h0; simp at h0
  have n1 : ∀ m b i : Int, (⟨v, m, b, i⟩ : Bl) ≠ b1 := fun m b i e => by rw [← e] at h1; simp at h1
  have n2 : ∀ m b i : Int, (⟨v, m, b, i⟩ : Bl) ≠ b2 := fun m b i e => by rw [← e] at h2; simp at h2
  have n3 : ∀ m b i : Int, (⟨v, m, b, i⟩ : Bl) ≠ b3 := fun m b i e => by rw [← e] at h3; simp at h3
  have hB0 : ¬ B = 0 := by omega
  have hB1 : ¬ B < 0 := by omega
  have hB2 : ¬ (0 = B) := by omega
  have hc : h = 0 ∨ h = 1 ∨ h = 2 ∨ h = 3 := by omega
  rcases hc with rfl | rfl | rfl | rfl
  · simp [runE, over, stE, stepP, px0, ownB, stopW, writeP, readP, readB, finP, nx0, o0, o1, o2, o3, ow, n0, n1, n2, n3, hB0, hB1, hB2]
  · simp [runE, over, stE, stepP, px0, ownB, stopW, writeP, readP, readB, finP, nx0, o0, o1, o2, o3, ow, n0, n1, n2, n3, hB0, hB1, hB2]
  · simp [runE, over, stE, stepP, px0, ownB, stopW, writeP, readP, readB, finP, nx0, o0, o1, o2, o3, ow, n0, n1, n2, n3, hB0, hB1, hB2]
  · simp [runE, over, stE, stepP, px0, ownB, stopW, writeP, readP, readB, finP, nx0, o0, o1, o2, o3, ow, n0, n1, n2, n3, hB0, hB1, hB2]
end Go.Proofs.YtccoeoppjcegnaaGreat

